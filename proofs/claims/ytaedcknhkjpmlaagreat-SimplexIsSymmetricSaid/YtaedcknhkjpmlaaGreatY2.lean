/-
  Lemmas, part 2. Conditions: none.
-/
import Derived.Test.YtaedcknhkjpmlaaGreatY1
import Derived.Laws.MakeOwn
import Derived.Laws.CopyRow
import Derived.Test.YtaedcknhkjpmlaaGreatProg
set_option linter.all false
set_option maxRecDepth 100000
set_option maxHeartbeats 4000000
namespace Go.Proofs.YtaedcknhkjpmlaaGreat
open Go.RowKit Go.IntKind Tryz
noncomputable section
section
def dC(es:List E):List D:=es.map D.e
theorem T4(σ:Nat→Nat)(es:List E):(dC es).map (D.renC σ)=dC es:=by
 unfold dC;rw[qp];exact ss fun _ _=>rfl
theorem eE(es:List E):(dC es).length=es.length:=a8 _
theorem IN {p:D→Bool}(h:∀e,p (.e e)=true)(es:List E):(dC es).all p=true:=by
 unfold dC;rw[Lf];exact bc.2 fun e _=>h e
structure bV {β:Type}(F:List E)(c':Cd β)(o:Nat)(b:β)(F':β→List E):Prop where
 le:o+c'.sz≤F.length
 g:(F.drop o).take c'.sz=c'.f b
 p:∀y,F.take o++c'.f y++F.drop (o+c'.sz)=F' y
section
variable {α β γ:Type} {F:List E}
theorem bV.id(c:Cd α)(x:α):bV (c.f x) c 0 x c.f:=
 ⟨by rw[c.h];omega,by rw[qN,gJ (by rw[c.h];exact az _)],fun y=>by rw[ES,bt,CK (by rw[c.h];exact az _),ny,tf]⟩
theorem bV.comp {c1:Cd α}{c2:Cd β}{o1 o2:Nat}{b1:α}{b2:β}{F1:α→List E}{P2:β→List E}{P:β→α}(h1:bV F c1 o1 b1 F1)(h2:bV (c1.f b1) c2 o2 b2 P2)(hp:∀y,P2 y=c1.f (P y)):bV F c2 (o1+o2) b2 (fun y=>F1 (P y)):=by
 have l1:=h1.le
 have l2:=h2.le
 rw[c1.h] at l2
 refine⟨by omega,?_,fun y=>?_⟩
 ·rw[←h2.g,←h1.g,←qM,Li,Ho,td (by omega)]
 ·rw[←h1.p (P y),←hp y,←h2.p y,←h1.g,Ho,td (by omega),List.take_add]
  have e:((F.drop o1).take c1.sz).drop (o2+c2.sz)++F.drop (o1+c1.sz)=F.drop (o1+o2+c2.sz):=by
   have e1:F.drop (o1+c1.sz)=(F.drop o1).drop c1.sz:=(qM ..).symm
   rw[e1,←NH (by rw[ep,fc];omega),tH,qM,xW]
  rw[←e]
  simp only[da]
theorem bV.of {c':Cd β}{o:Nat}{b:β}{F':β→List E}(A C:List E)(hA:A.length=o)(hF:F=A++(c'.f b++C))(hp:∀y,F' y=A++(c'.f y++C)):bV F c' o b F':=by
 subst hA hF
 refine⟨by simp[c'.h],?_,fun y=>?_⟩
 ·rw[tG,vh (by rw[c'.h];exact az _),gJ (by rw[c'.h];exact az _)]
 ·rw[hp,vQ,←qM,tG,←c'.h b,tG,da]
theorem bV.seq [Inhabited α](c:Cd α)(l:List α)(i:Nat)(h:i<l.length):bV (l.flatMap c.f) c (i*c.sz) l[i]! (fun y=>(l.set i y).flatMap c.f):=by
 have hl:(l.flatMap c.f).length=l.length*c.sz:=il c.f c.h l
 have hm:(i+1)*c.sz≤l.length*c.sz:=cM _ h
 rw[bR,eU] at hm
 refine⟨by rw[hl];exact hm,?_,fun y=>?_⟩
 ·have:=ka c.f c.h (l.drop i) 1
  rw[eU] at this
  rw[nW c.f c.h,this,Fe h,bI l i h,NG,ES,nM,List.flatMap_nil,tf]
 ·rw[ka c.f c.h,show i*c.sz+c.sz=(i+1)*c.sz by rw[bR,eU],nW c.f c.h,UI,ai h,Jf,nM,da]
theorem zS [Inhabited α]{n:Nat}(v:Vector α n){i:Nat}(h:i<n):v.toList[i]! =v[i]! :=by
 rw[bI v.toList i (by rw[nL];exact h),bI v i h,Vector.getElem_toList]
theorem vec_set {n:Nat}(v:Vector α n)(i:Nat)(y:α):(v.set! i y).toList=v.toList.set i y:=by
 show (v.setIfInBounds i y).toList=_
 exact Vector.toList_setIfInBounds ..
theorem bV.vec [Inhabited α]{n:Nat}(c:Cd α)(v:Vector α n)(i:Nat)(h:i<n):bV ((cA n c).f v) c (i*c.sz) v[i]! (fun y=>(cA n c).f (v.set! i y)):=by
 have:=bV.seq c v.toList i (by rw[nL];exact h)
 rw[zS v h] at this
 refine⟨this.le,this.g,fun y=>?_⟩
 rw[show (cA n c).f (v.set! i y)=(v.set! i y).toList.flatMap c.f from rfl,vec_set]
 exact this.p y
end
section
variable {P:Program} {tb:TypeId→Option TyE} {dr:Bool} {ty:TypeId} {ev:Operand→D} {x y:Operand} {vs:List (Nat×List D)} {lv:List (Nat×Nat×Nat×TypeId)} {N k o:Nat} {F:List E} {β:Type} {c':Cd β} {b:β} {F':β→List E} {t:TypeId} {i:TyE}
theorem AP(L:bV F c' o b F')(ht:tb t=some i)(hg:i.ty.agg=true:=by exact rfl)(hz:c'.sz=i.size:=by exact rfl)(hx:ev x=.pt k o:=by exact rfl)(hv:vs.lookup k=some (dC F):=by exact rfl)(hk:Nat.ble (k+1) N=true:=by exact rfl):AVC P tb dr (.load t x) ty ev ⟨vs,lv,N⟩ (Kq (dG c' b) ⟨vs,lv,N⟩):=by
 rw[qY,hx,og,ht,hv]
 simp only[hg]
 refine⟨bi hk,by rw[eE,←hz];exact L.le,?_⟩
 have:((dC F).drop o).take i.size=(c'.f b).map D.e:=by
  unfold dC
  rw[←zx,←w9,←hz,L.g]
 rw[this]
 exact Kq.here _ _
theorem xf {e:E}(L:bV F c' o b F')(ht:tb t=some i)(he:c'.f b=[e]:=by exact rfl)(hg:i.ty.agg=false:=by exact rfl)(hx:ev x=.pt k o:=by exact rfl)(hv:vs.lookup k=some (dC F):=by exact rfl)(hk:Nat.ble (k+1) N=true:=by exact rfl):AVC P tb dr (.load t x) ty ev ⟨vs,lv,N⟩ (Kq (.e e) ⟨vs,lv,N⟩):=by
 have hs:c'.sz=1:=by rw[←c'.h b,he];rfl
 have Ep:=L.g
 have hle:=L.le
 rw[hs] at Ep hle
 rw[he] at Ep
 rw[qY,hx,og,ht,hv]
 simp only[hg]
 refine⟨bi hk,.e e,?_,Kq.here _ _⟩
 unfold dC
 rw[dT]
 have:F[o]? =some e:=by
  have h0:(F.drop o)[0]? =F[o]? :=by rw[nt,iK]
  have h1:((F.drop o).take 1)[0]? =(F.drop o)[0]? :=by rw[gL];rfl
  rw[←h0,←h1,Ep]
  rfl
 rw[this];rfl
theorem yC {b':β}(L:bV F c' o b F')(ht:tb t=some i)(hy:(ev y).cells=some (dC (c'.f b')):=by exact rfl)(hz:c'.sz=i.size:=by exact rfl)(hx:ev x=.pt k o:=by exact rfl)(hv:vs.lookup k=some (dC F):=by exact rfl):AVC P tb dr (.store t x y) ty ev ⟨vs,lv,N⟩ (Kq .top ⟨(k,dC (F' b'))::vs,lv,N⟩):=by
 rw[EQ,hx,Be,ht,hv,hy]
 have hl:(dC (c'.f b')).length=i.size:=by rw[eE,c'.h,hz]
 refine⟨hl,by rw[eE,←hz];exact L.le,?_⟩
 have:(dC F).take o++dC (c'.f b')++(dC F).drop (o+(dC (c'.f b')).length)=dC (F' b'):=by
  rw[hl,←hz,←L.p b']
  unfold dC
  simp only[gK,w9,zx]
 rw[this]
 exact Kq.here _ _
theorem nN {b':β}{γ:Type}{c:Cd γ}{nw nm:γ}(L:bV F c' o b F')(ht:tb t=some i)(QZ:nw=nm)(hF:F' b'=c.f nw:=by exact rfl)(hy:(ev y).cells=some (dC (c'.f b')):=by exact rfl)(hz:c'.sz=i.size:=by exact rfl)(hx:ev x=.pt k o:=by exact rfl)(hv:vs.lookup k=some (dC F):=by exact rfl):AVC P tb dr (.store t x y) ty ev ⟨vs,lv,N⟩ (Kq .top ⟨(k,dC (c.f nm))::vs,lv,N⟩):=by
 have:=yC (P:=P) (dr:=dr) (ty:=ty) (lv:=lv) (N:=N) L ht hy hz hx hv
 rw[hF,QZ] at this
 exact this
theorem yE(ht:tb t=some i)(hz:i.zero.map E.lit=F:=by kernel_rfl):AVC P tb dr (.alloc t) ty ev ⟨vs,lv,N⟩ (Kq (.pt N 0) ⟨(N,dC F)::vs,lv,N+1⟩):=by
 subst hz
 have:=pU (P:=P) (dr:=dr) (ty:=ty) (ev:=ev) (vs:=vs) (lv:=lv) (N0:=N) ht
 unfold dC
 rw[qp]
 exact this
theorem U2(h:(ev x).cells=some (dC F):=by exact rfl):AVC P tb dr (.box t x) ty ev ⟨vs,lv,N⟩ (Kq (.pt N 0) ⟨(N,dC F)::vs,lv,N+1⟩):=gP h
variable {hp:Hp} {j:TyE} {e:TypeId} {n:Nat} {kn:IntKind} {v:Int}
variable {s tt:TypeId} {fi:Nat} {fs:List (Nat×TypeId)}
inductive FL (tb:TypeId→Option TyE) (fs:List (Nat×TypeId)):List E→List (Nat×List D)→List E→Prop
 |nil (F:List E):FL tb fs F [] F
 |cons {γ:Type} {c:Cd γ} {F F2:List E} {o i:Nat} {b y:γ} {F':γ→List E} {rest:List (Nat×List D)} {cs:List D} (L:bV F c o b F') (hp:oe tb fs i=some (o,c.sz)) (hc:cs=dC (c.f y)) (h:FL tb fs (F' y) rest F2):FL tb fs F ((i,cs)::rest) F2
theorem FL.fill {F F2:List E}{qs:List (Nat×List D)}(h:FL tb fs F qs F2):f6 (oe tb fs) (dC F) qs=some (dC F2):=by
 induction h with
 |nil F=>rfl
 |cons L hp hc h ih=>
  rename_i c F F2 o i b y F' rest cs
  subst hc
  unfold f6
  rw[hp]
  dsimp only
  have hl:(dC (c.f y)).length=c.sz:=by rw[eE,c.h]
  rw[ah (by rw[hl,eE];have:=L.le;omega),hl,←ih]
  congr 1
  rw[←L.p y]
  unfold dC
  simp only[gK,w9,zx]
theorem g8 {ps:List (Nat×Operand)}{qs:List (Nat×List D)}{F2:List E}(h:FL tb fs F qs F2)(ht:tb t=some i)(h0:i.zero.map E.lit=F:=by kernel_rfl)(hi:i.ty=.struct fs:=by exact rfl)(ha:(fs.all fun f=>(tb f.2).isSome)=true:=by exact rfl)(jC:mb (ps.map fun p=>(p.1,ev p.2))=some qs:=by exact rfl):AVC P tb dr (.build t ps.toArray) ty ev hp (Kq (.ag (dC F2)) hp):=by
 subst h0
 rw[wU,ud,ht,jC]
 simp only[hi]
 have:(i.zero.map fun v=>D.e (.lit v))=dC (i.zero.map E.lit):=by unfold dC;rw[qp];rfl
 rw[this,h.fill]
 exact⟨fun f hf=>(bc.1 ha) f hf,Kq.here _ _⟩
theorem vC {σ:Nat→Nat}{m:Nat}{l:List (Nat×List D)}{F:List E}(h1:vs.lookup (σ k)=some (dC F))(hl:wkV σ m vs l)(h0:Nat.ble (k+1) m=true:=by exact rfl):wkV σ m vs ((k,dC F)::l):=
 ⟨⟨ltb h0,⟨_,h1,by rw[T4];exact rj _⟩,IN (fun _=>rfl) _,IN (fun _=>rfl) _⟩,hl⟩
def rnV(ρ:Nat→Nat):List (Nat×List D)→List (Nat×List D)→Prop
 |[],[]=>True
 |p::l,q::l'=>(ρ p.1=q.1∧p.2.map (D.renC ρ)=q.2∧p.2.all D.okC=true)∧rnV ρ l l'
 |_,_=>False
theorem rnV.map {ρ:Nat→Nat}:∀{l l':List (Nat×List D)},rnV ρ l l'→l.map (fun p=>(ρ p.1,p.2.map (D.renC ρ)))=l'∧(l.all fun p=>p.2.all D.okC)=true
 |[],[],_=>⟨rfl,rfl⟩
 |p::l,q::l',h=>by
  obtain⟨h1,h2⟩:=rnV.map h.2
  obtain⟨a,b,c⟩:=h.1
  refine⟨?_,by rw[iJ,c,h2];rfl⟩
  rw[jK,h1,a,b]
 |[],_::_,h=>h.elim
 |_::_,[],h=>h.elim
theorem rvN {ρ:Nat→Nat}:rnV ρ [] []:=trivial
theorem rvC {ρ:Nat→Nat}{k k2:Nat}{F:List E}{l l':List (Nat×List D)}(h:rnV ρ l l')(hk:ρ k=k2:=by exact rfl):rnV ρ ((k,dC F)::l) ((k2,dC F)::l'):=⟨⟨hk,T4 _ _,IN (fun _=>rfl) _⟩,h⟩
theorem Jk {x:Operand}{f:FuncId}{aS:List Operand}{ts:Array TypeId}{O2:List D}{r r':D}{FG n3 vs PG vs2:List (Nat×List D)}{FH sJ lv FI:List (Nat×Nat×Nat×TypeId)}{m n' N N2:Nat}(os:List Nat)
  (Aq:ev x=.e (.lit (.func (.func f) #[] #[]))) (hc:HC P f O2 ⟨FG,FH,m⟩ r ⟨n3,sJ,n'⟩) (ha:frA (fun i=>os.getD i 0) m (aS.map ev) O2) (hv:wkV (fun i=>os.getD i 0) m vs FG) (hl:wkL (fun i=>os.getD i 0) m lv FH) (hrn:rnV (rn os m N) n3 PG)
  (pN:r.ren (rn os m N)=r') (hr:r.okF=true) (hos:os.length=m:=by exact rfl) (Ap:os.Nodup:=by decide) (bK:(os.all fun o=>Nat.ble (o+1) N)=true:=by exact rfl)
  (Ks:PG++vs.filter (fun p=>!os.contains p.1)=vs2:=by exact rfl) (Q2:frL (rn os m N) os sJ lv=FI:=by exact rfl) (hN:N+(n' - m)=N2:=by exact rfl)
  (hh:hvB tb ⟨.value x,aS.toArray,ts⟩=true:=by kernel_rfl):AVC P tb dr (.call ⟨.value x,aS.toArray,ts⟩) ty ev ⟨vs,lv,N⟩ (Kq r' ⟨vs2,FI,N2⟩):=
 T_callH Aq (HC.fr os hc ha hv hl hos Ap bK hr hrn.map.2 pN (by unfold frV;rw[hrn.map.1,Ks]) Q2 hN) rfl hh
theorem ex_G {α:Type}(c:Cd α)(a:α):D.ex (dG c a)=dG c a:=by
 show D.ag (((c.f a).map D.e).map D.exC)=_
 rw[qp];rfl
theorem pm {α:Type}(c:Cd α)(a:α):(D.ex (dG c a)).le (dG c a):=by rw[ex_G];exact ax _
theorem xg {off z m:Nat}(hb:0≤v∧v<(n:Int))(ht:tb t=some i)(he:tb e=some j)(hi:i.ty=.slice e:=by exact rfl)(hx:ev x=.ow m off z n:=by exact rfl)(hz:z=j.size:=by exact rfl)(hy:ev y=dI kn v:=by exact rfl):AVC P tb dr (.indexAddr t x y) ty ev hp (Kq (.pt m (off+v.toNat*j.size)) hp):=by
 rw[uZ,hx,hy,tv,ht]
 simp only[hi,he]
 exact⟨hz,hb,Kq.here _ _⟩
end
section
variable {P:Program} {tb:TypeId→Option TyE}
structure EqC(tb:TypeId→Option TyE)(d:Nat)(t:TypeId){α:Type}(c:Cd α)(us:α→List Value):Prop where
 hf:∀x,c.f x=(us x).map E.lit
 ft:∀x,nH tb d t (us x)
 inj:∀x y,us x=us y↔x=y
theorem EqC.int {d:Nat}{t:TypeId}{k:IntKind}{i:TyE}(ht:tb t=some i)(hi:i.ty=.int k:=by exact rfl):EqC tb (d+1) t (cI k) (fun n=>[.int k n]):=
 ⟨fun _=>rfl,fun n=>by unfold nH;rw[ht];simp only[hi];exact⟨n,rfl⟩,fun x y=>by simp⟩
theorem EqC.bool {d:Nat}{t:TypeId}{i:TyE}(ht:tb t=some i)(hi:i.ty=.bool:=by exact rfl):EqC tb (d+1) t cB (fun n=>[.bool n]):=
 ⟨fun _=>rfl,fun n=>by unfold nH;rw[ht];simp only[hi];exact⟨n,rfl⟩,fun x y=>by simp⟩
theorem EqC.len {d:Nat}{t:TypeId}{α:Type}{c:Cd α}{us:α→List Value}(h:EqC tb d t c us)(x:α):(us x).length=c.sz:=by
 rw[←c.h x,h.hf,a8]
theorem GL {α:Type}{f:α→List Value}{z:Nat}(hz:∀a,(f a).length=z):∀l:List α,(l.flatMap f).length=l.length*z
 |[]=>by simp
 |a::l=>by rw[nM,cD,hz,GL hz l,r9,bR,eU,o4]
theorem JV {α:Type}{f:α→List Value}{z:Nat}(hz:∀a,(f a).length=z):∀(l:List α) (i:Nat) (h:i<l.length),((l.flatMap f).drop (i*z)).take z=f l[i]
 |a::l,0,_=>by rw[gH,qN,nM,vh (by rw[hz];exact az _),gJ (by rw[hz];exact az _)];rfl
 |a::l,i+1,h=>by
  rw[nM,bR,eU,o4,←hz a,←qM,tG,hz a]
  exact JV hz l i (by simpa using h)
theorem GM {α:Type}{f:α→List Value}{z:Nat}(hz:∀a,(f a).length=z)(hi:∀x y,f x=f y→x=y):∀l m:List α,l.length=m.length→l.flatMap f=m.flatMap f→l=m
 |[],[],_,_=>rfl
 |a::l,b::m,hl,h=>by
  rw[nM,nM] at h
  obtain⟨h1,h2⟩:=Cb h (by rw[hz,hz])
  rw[hi a b h1,GM hz hi l m (by simpa using hl) h2]
 |[],_::_,hl,_=>by simp at hl
 |_::_,[],hl,_=>by simp at hl
theorem EqC.arr {d n:Nat}{t e:TypeId}{α:Type}{c:Cd α}{us:α→List Value}{i j:TyE}(h:EqC tb d e c us)(ht:tb t=some i)(he:tb e=some j)(hi:i.ty=.arr n e:=by exact rfl)(hz:c.sz=j.size:=by exact rfl):EqC tb (d+1) t (cA n c) (fun v=>v.toList.flatMap us):=by
 refine⟨fun v=>?_,fun v=>?_,fun v w=>⟨fun hh=>?_,fun hh=>by rw[hh]⟩⟩
 ·show v.toList.flatMap c.f=_
  rw[List.map_flatMap]
  congr 1
  exact funext h.hf
 ·unfold nH
  rw[ht]
  simp only[hi,he]
  have hl:=h.len
  refine⟨by rw[GL hl,nL,hz],fun q hq=>?_⟩
  rw[←hz,JV hl _ _ (by rw[nL];exact hq)]
  exact h.ft _
 ·have:=GM h.len (fun x y hxy=>(h.inj x y).1 hxy) v.toList w.toList (by rw[nL,nL]) hh
  exact Vector.toList_inj.1 this
theorem rX {d o off:Nat}{t:TypeId}{fs:List (Nat×TypeId)}{α:Type}{c:Cd α}{us:α→List Value}{j:TyE}{x:α}{rest:List Value}(h:EqC tb d t c us)(ht:tb t=some j)(ho:o=off)(hr:ua tb (nH tb d) fs (off+j.size) rest)(hz:c.sz=j.size:=by exact rfl):ua tb (nH tb d) ((o,t)::fs) off (us x++rest):=by
 unfold ua
 have hl:=h.len x
 rw[ht]
 refine⟨ho,?_,by rw[cD];omega,?_⟩
 ·rw[←hz,←hl,vQ];exact h.ft x
 ·rw[←hz,←hl,tG,hl,hz];exact hr
theorem EqC.struct {d:Nat}{t:TypeId}{α:Type}{c:Cd α}{us:α→List Value}{i:TyE}{fs:List (Nat×TypeId)}(ht:tb t=some i)(hf:∀x,c.f x=(us x).map E.lit)(JA:∀x,ua tb (nH tb d) fs 0 (us x))(Gx:∀x y,us x=us y→x=y)(hi:i.ty=.struct fs:=by exact rfl):EqC tb (d+1) t c us:=
 ⟨hf,fun x=>by unfold nH;rw[ht];simp only[hi];exact JA x,fun x y=>⟨Gx x y,fun h=>by rw[h]⟩⟩
theorem qf:∀us:List Value,lJ (dC (us.map E.lit))=some us
 |[]=>rfl
 |u::us=>by
  show (lJ (dC (us.map E.lit))).map (u::·)=_
  rw[qf us];rfl
variable {dr:Bool} {ty:TypeId} {ev:Operand→D} {x y:Operand} {hp:Hp} {α:Type} {c:Cd α} {us:α→List Value} {a b:α} {t t':TypeId} {i:TyE}
theorem Cf(tok:TOk P tb)(n:Nat)(hd:n≤10000)(h:EqC tb n t c us)(ht:tb t=some i)[DecidableEq α](hg:i.ty.agg=true:=by exact rfl)(hm:P.eqGuardType P.depth t=false:=by kernel_rfl)(hn:lQ P n t=true:=by kernel_rfl)(hx:ev x=dG c a:=by exact rfl)(hy:ev y=dG c b:=by exact rfl):AVC P tb dr (.binOp .eql t x y t') ty ev hp (Kq (dB (decide (a=b))) hp):=by
 have e:∀z,(c.f z).map D.e=dC ((us z).map E.lit):=fun z=>by rw[h.hf];rfl
 exact T_geql tok n hd ht hg hm hn hx hy (by rw[e,qf]) (by rw[e,qf]) (h.ft a) (h.ft b) (h.inj a b)
theorem xh(tok:TOk P tb)(n:Nat)(hd:n≤10000)(h:EqC tb n t c us)(ht:tb t=some i)[DecidableEq α](hg:i.ty.agg=true:=by exact rfl)(hm:P.eqGuardType P.depth t=false:=by kernel_rfl)(hn:lQ P n t=true:=by kernel_rfl)(hx:ev x=dG c a:=by exact rfl)(hy:ev y=dG c b:=by exact rfl):AVC P tb dr (.binOp .neq t x y t') ty ev hp (Kq (dB (decide (¬a=b))) hp):=by
 have e:∀z,(c.f z).map D.e=dC ((us z).map E.lit):=fun z=>by rw[h.hf];rfl
 exact T_gneq tok n hd ht hg hm hn hx hy (by rw[e,qf]) (by rw[e,qf]) (h.ft a) (h.ft b) (h.inj a b)
theorem BJ(c:Cd α){z:Nat}(hz:c.sz=z):∀(l:List α) (m:Nat) (pre rest:List D),pre.length=m*z→rest.length=l.length*z→f6 (fun n=>some (n*z,z)) (pre++rest) ((l.zipIdx m).map fun p=>(p.2,dC (c.f p.1)))=some (pre++dC (l.flatMap c.f))
 |[],m,pre,rest,_,hr=>by
  have:rest=[]:=sK (by simpa using hr)
  subst this;rfl
 |a::l,m,pre,rest,hp,hr=>by
  have hl:(dC (c.f a)).length=z:=by rw[eE,c.h,hz]
  rw[r9,bR,eU] at hr
  show f6 (fun n=>some (n*z,z)) (pre++rest) ((m,dC (c.f a))::(l.zipIdx (m+1)).map _)=_
  unfold f6
  dsimp only
  rw[ah (by rw[hl,cD];omega),←hp,vQ,hl,←qM,tG]
  have:=BJ c hz l (m+1) (pre++dC (c.f a)) (rest.drop z) (by rw[cD,hl,hp,bR,eU]) (by rw[fc];omega)
  rw[this,da]
  unfold dC
  rw[nM,gK]
theorem BQ:∀es:List E,uW (dC es)=some es
 |[]=>rfl
 |e::es=>by
  show (match D.cellE (.e e),uW (dC es) with|some x,some xs=>some (x::xs)|_,_=>none)=_
  rw[BQ es];rfl
theorem lh {vs:List (Nat×List D)}{lv:List (Nat×Nat×Nat×TypeId)}{N0:Nat}{e:TypeId}{j:TyE}{n:Nat}{ps:List (Nat×Operand)}(l:List α)(c:Cd α)(ht:tb t=some i)(he:tb e=some j)(hi:i.ty=.slice e:=by exact rfl)(hz:c.sz=j.size:=by exact rfl)(Mw:Nat.ble (0+1) (j.size)=true:=by exact rfl)(LM:l.length=n+1:=by exact rfl)(hn:Nat.ble ((n+1)*j.size) (16777216)=true:=by exact rfl)(jC:mb (ps.map fun p=>(p.1,ev p.2))=some ((l.zipIdx 0).map fun p=>(p.2,dC (c.f p.1))):=by exact rfl)(hd:dr=false:=by exact rfl):
  AVC P tb dr (.buildSlice t (n+1) ps.toArray) ty ev ⟨vs,lv,N0⟩ (Kq (dO N0 c l) ⟨vs,(N0,l.length,j.size,e)::lv,N0+1⟩):=by
 have hf:=BJ c hz l 0 [] (List.replicate ((n+1)*j.size) (D.e .any)) (by simp) (by rw[tF,LM])
 rw[ny,ny] at hf
 have:=kD (P:=P) (dr:=dr) (ty:=ty) (ev:=ev) (vs:=vs) (lv:=lv) (N0:=N0) ht he hi Mw hn jC hf (BQ _) hd
 show AVC _ _ _ _ _ _ _ (Kq (.own N0 c.sz l.length (l.flatMap c.f)) _)
 rw[hz,LM]
 exact this
theorem H3 {tm:List (Nat×D)}{p:Tmp}{ty:TypeId}{j:Nat}{i:TyE}{F:List E}{k:D→Prop}(h:tm.lookup p=some (.pt j 0))(ht:tb ty=some i)(hg:i.ty.agg=true)(hv:hp.vars.lookup j=some (dC F))(hn:j<hp.next)(hl:F.length=i.size)(hk:k (.ag (dC F))):tp tb tm hp (.cell p ty) k:=
 RO h ht hg hv hn (by rw[eE,hl];omega) (by rw[qN,gJ (by rw[eE,hl];exact az _)]) hk
end
end
section
structure FW(α:Type) where
 f:α→List E
def cW {α:Type}(c:Cd α):FW (List α):=⟨fun l=>l.flatMap c.f⟩
theorem bV.seqW {α:Type}[Inhabited α](c:Cd α)(l:List α)(i:Nat)(h:i<l.length):bV ((cW c).f l) c (0+i*c.sz) l[i]! (fun y=>(cW c).f (l.set i y)):=by
 rw[bt];exact bV.seq c l i h
def vOf {α:Type}[Inhabited α](n:Nat)(l:List α):Vector α n:=Vector.ofFn fun i=>l[i.val]!
theorem yO {α:Type}[Inhabited α]{n:Nat}{l:List α}(h:l.length=n):(vOf n l).toList=l:=by
 unfold vOf
 apply Fd
 ·rw[nL,h]
 ·intro i h1 h2
  rw[Vector.getElem_toList,NF,bI l i h2]
theorem vOf_f {α:Type}[Inhabited α](c:Cd α){n:Nat}{l:List α}(h:l.length=n):(cA n c).f (vOf n l)=l.flatMap c.f:=by
 show (vOf n l).toList.flatMap c.f=_
 rw[yO h]
theorem bV.sub {α:Type}[Inhabited α]{n:Nat}(m:Nat)(c:Cd α)(v:Vector α n)(i:Nat)(h:i+m≤n){o:Nat}(ho:i*c.sz=o):bV ((cA n c).f v) (cA m c) o (vOf m ((v.toList.drop i).take m)) (fun y=>((cA n c).f v).take o++(cA m c).f y++((cA n c).f v).drop (o+m*c.sz)):=by
 subst ho
 have hl:((v.toList.drop i).take m).length=m:=by rw[ep,fc,nL];omega
 refine⟨?_,?_,fun y=>rfl⟩
 ·rw[(cA n c).h]
  show i*c.sz+m*c.sz≤n*c.sz
  rw[←bR];exact cM _ h
 ·rw[vOf_f c hl]
  show ((v.toList.flatMap c.f).drop (i*c.sz)).take (m*c.sz)=_
  rw[nW c.f c.h,ka c.f c.h]
section
variable {P:Program} {tb:TypeId→Option TyE} {md:Md} {ev:Operand→D} {hp:Hp} {dst:Option Tmp} {ty2:TypeId} {pos:String} {af:Array Edge} {gd:Option (Nat×Bool)} {x y:Operand} {lo hi:Option Operand} {t t2 e:TypeId} {ti j:TyE} {k k' off o o' z n m:Nat} {l h:Int}
def QG(ev:Operand→D)(b:Option Operand)(GE l:Int):Prop:=
 match b with
 |none=>l=GE
 |some y=>∃k,ev y=dI k l
theorem QG.val {b:Option Operand}{GE l:Int}(h:QG ev b GE l){L:Nat}(hL:l=L){N:Nat}(hN:GE=N){g:Gh}{w:World}{ρ:Operand→Value}(hr:∀y,b=some y→aE hp g w (ev y) (ρ y)):(b.map ρ=none∧L=N)∨∃kd,b.map ρ=some (.int kd (L:Int)):=by
 cases b with
 |none=>exact .inl ⟨rfl,by have:l=GE:=h;omega⟩
 |some y=>
  obtain⟨kd,hy⟩:=h
  have:=hr y rfl
  rw[hy] at this
  exact .inr ⟨kd,by rw[←hL,nY,this.lit]⟩
theorem slA(tok:TOk P tb)(hb:0≤l∧l≤h∧h≤(n:Int)∧l<(n:Int))(ht:tb t=some ti)(he:tb e=some j)(Eo:QG ev lo 0 l)(OJ:QG ev hi (n:Int) h)(yj:ti.ty=.arr n e:=by exact rfl)(hx:ev x=.pt k off:=by exact rfl)(hn:Nat.ble n 1000000=true:=by exact rfl):
  mO P tb md ⟨dst,.slice t x lo hi none,ty2,pos,af,gd⟩ ev hp (.ow k (off+l.toNat*j.size) j.size (h - l).toNat) hp:=by
 refine (Snd.calm (dr:=md.dr) fun de _=>.pure fun B g w a hr yh=>?_).q (by cases md <;> rfl)
 have h1:=yh x (by simp[Op.operands])
 rw[hx] at h1
 obtain⟨L,rfl⟩:∃L:Nat,l=L:=⟨l.toNat,by omega⟩
 obtain⟨H,rfl⟩:∃H:Nat,h=H:=⟨h.toNat,by omega⟩
 have e1:((H:Int) - L).toNat=H - L:=by omega
 have hn':n≤1000000:=bi hn
 have hbd:=ix (P:=P) (w:=w) false n n (lo.map a.eval) (hi.map a.eval) L H (Eo.val rfl rfl fun y hy=>yh y (by subst hy;simp[Op.operands])) (OJ.val rfl rfl fun y hy=>yh y (by subst hy;simp[Op.operands])) (by omega) (by omega)
 have hs:=tok.run_sizeOf he w
 generalize hv:a.eval x=v at h1
 cases h1 with
 |pt _ _ hk=>
  refine⟨.slice (some ⟨g.μ k,off+L*j.size,none⟩) (H - L) (n - L),?_,?_⟩
  ·have fI:¬n=L:=by omega
   have Q4:(⟨g.μ k,off,none⟩:Addr).add (L*j.size)=⟨g.μ k,off+L*j.size,none⟩:=by unfold Addr.add;split <;> simp_all
   simp[execOp,Instr.sliceAt,Instr.sureAddr,hv,run_underlying (tok.arr ht yj),hbd,hs,fI,Q4]
  ·rw[e1,bW]
   exact .ow _ _ _ _ _ hk (by omega) (by unfold maxLen;omega)
theorem slW(tok:TOk P tb)(hb:0≤l∧l≤h∧h≤(n:Int)∧l<(n:Int))(ht:tb t=some ti)(he:tb e=some j)(Eo:QG ev lo 0 l)(OJ:QG ev hi (n:Int) h)(yj:ti.ty=.slice e:=by exact rfl)(hx:ev x=.ow k off z n:=by exact rfl)(hz:z=j.size:=by exact rfl):
  mO P tb md ⟨dst,.slice t x lo hi none,ty2,pos,af,gd⟩ ev hp (.ow k (off+l.toNat*z) z (h - l).toNat) hp:=by
 subst hz
 refine (Snd.calm (dr:=md.dr) fun de _=>.pure fun B g w a hr yh=>?_).q (by cases md <;> rfl)
 have h1:=yh x (by simp[Op.operands])
 rw[hx] at h1
 obtain⟨L,rfl⟩:∃L:Nat,l=L:=⟨l.toNat,by omega⟩
 obtain⟨H,rfl⟩:∃H:Nat,h=H:=⟨h.toNat,by omega⟩
 have e1:((H:Int) - L).toNat=H - L:=by omega
 have hs:=tok.run_sizeOf he w
 generalize hv:a.eval x=v at h1
 cases h1 with
 |ow _ _ _ _ c hk qv o3=>
  have hbd:=ix (P:=P) (w:=w) true n c (lo.map a.eval) (hi.map a.eval) L H (Eo.val rfl rfl fun y hy=>yh y (by subst hy;simp[Op.operands])) (OJ.val rfl rfl fun y hy=>yh y (by subst hy;simp[Op.operands])) (by omega) (by omega)
  refine⟨.slice (some ⟨g.μ k,off+L*j.size,none⟩) (H - L) (c - L),?_,?_⟩
  ·have fI:¬c=L:=by omega
   have Q4:(⟨g.μ k,off,none⟩:Addr).add (L*j.size)=⟨g.μ k,off+L*j.size,none⟩:=by unfold Addr.add;split <;> simp_all
   simp[execOp,Instr.sliceAt,Instr.slice,hv,run_underlying (tok.slice ht yj),hbd,hs,fI,Q4]
  ·rw[e1,bW]
   exact .ow _ _ _ _ _ hk (by omega) (by omega)
theorem sPtr(tok:TOk P tb)(hm:Nat.ble m n=true)(ht:tb t=some ti)(yj:ti.ty=.arr m e:=by exact rfl)(hx:ev x=.ow k off z n:=by exact rfl):
  mO P tb md ⟨dst,.sliceToArrayPointer t x,ty2,pos,af,gd⟩ ev hp (.pt k off) hp:=by
 refine (Snd.calm (dr:=md.dr) fun de _=>.pure fun B g w a hr yh=>?_).q (by cases md <;> rfl)
 have h1:=yh x (by simp[Op.operands])
 rw[hx] at h1
 have hm':=bi hm
 generalize hv:a.eval x=v at h1
 cases h1 with
 |ow _ _ _ _ c hk qv o3=>
  refine⟨.pointer (some ⟨g.μ k,off,none⟩),?_,.pt _ _ hk⟩
  have fI:¬n<m:=by omega
  simp[execOp,Instr.arrayAt,hv,run_underlying (tok.arr ht yj),fI]
theorem Ce {dr:Bool}{ty:TypeId}(ht:tb t=some ti)(he:tb e=some j)(hi:ti.ty=.slice e:=by exact rfl)(hx:ev x=.ow k off z n:=by exact rfl):AVC P tb dr (.call ⟨.builtin .len,#[x],#[t]⟩) ty ev hp (Kq (dI .i64 n) hp):=by
 show kj tb .len [t] [ev x] hp _
 rw[CI,Oz,ht]
 simp only[hi,he,hx,D.asSl]
 exact Kq.here _ _
theorem T_stVw {dr:Bool}{ty:TypeId}{vs:List (Nat×List D)}{lv:List (Nat×Nat×Nat×TypeId)}{N:Nat}{F:List E}{β γ:Type}{c':Cd β}{b b':β}{F':β→List E}{c:Cd γ}{nw nm:List γ}(L:bV F c' o b F')(ht:tb t=some ti)(QZ:nw=nm)(hF:F' b'=(cW c).f nw:=by exact rfl)(hy:(ev y).cells=some (dC (c'.f b')):=by exact rfl)(hz:c'.sz=ti.size:=by exact rfl)(hx:ev x=.pt k o:=by exact rfl)(hv:vs.lookup k=some (dC F):=by exact rfl):AVC P tb dr (.store t x y) ty ev ⟨vs,lv,N⟩ (Kq .top ⟨(k,dC ((cW c).f nm))::vs,lv,N⟩):=by
 have:=yC (P:=P) (dr:=dr) (ty:=ty) (lv:=lv) (N:=N) L ht hy hz hx hv
 rw[hF,QZ] at this
 exact this
theorem G1(z:Array Value)(s:Nat)(hs:z.size=s):∀n:Nat,(madeCells z (n*s)).toList=(List.replicate n z.toList).flatten
 |0=>by simp[madeCells]
 |n+1=>by
  have ih:=G1 z s hs n
  unfold madeCells at ih ⊢
  rw[Array.toList_map,Array.toList_range] at ih ⊢
  rw[bR,eU,List.range_add,gK,ih,List.replicate_succ',List.flatten_append]
  congr 1
  rw[qp,List.flatten_cons,List.flatten_nil,tf]
  apply Fd
  ·simp[hs]
  ·intro i h1 h2
   have hi:i<s:=by simpa using h1
   simp only[Fc,NE,Function.comp]
   rw[hs,bA,Nat.mul_add_mod,ez hi,bI z i (by omega),Array.getElem_toList]
theorem sMk {α:Type}{c:Cd α}{z0:α}{kl kc:IntKind}{v:Int}{hp':Hp}(tok:TOk P tb)(hb:0≤v∧v≤1000000)(ht:tb t=some ti)(he:tb e=some j)(hz:j.zero.map E.lit=c.f z0)(yj:ti.ty=.slice e:=by exact rfl)(hx:ev x=dI kl v:=by exact rfl)(hy:ev y=dI kc v:=by exact rfl)(hbt:Nat.ble j.bytes 100000000=true:=by exact rfl)(jC:hp.var (dC ((cW c).f (List.replicate v.toNat z0)))=hp':=by exact rfl):
  mO P tb md ⟨dst,.makeSlice t x y,ty2,pos,af,gd⟩ ev hp (.ow hp.next 0 j.size v.toNat) hp':=by
 subst jC
 refine (Snd.loud (dr:=md.dr) (.step fun B g w a hr yh=>?_) (fun _=>rfl) fun _=>⟨jw _,fun j hj=>ao (by omega)⟩).q (by cases md <;> rfl)
 have h1:=yh x (by simp[Op.operands])
 have h2:=yh y (by simp[Op.operands])
 rw[hx] at h1;rw[hy] at h2
 obtain⟨f,zz,Q3,OO,C0,ON,hf4,_⟩:=tok.inf he
 have hbt':f.bytes≤100000000:=by rw[C0];exact bi hbt
 obtain⟨m,rfl⟩:∃m:Nat,v=m:=⟨v.toNat,by omega⟩
 have hm:m≤1000000:=by omega
 have OF:f.bytes*m≤281474976710656:=dU (lf hbt' hm) (by decide)
 have bY:=run_make (P:=P) w t e f zz (tok.slice ht yj) Q3 ON kl kc m m (by omega) (by omega) (by rw[←iT];exact Int.ofNat_le.2 OF) (by omega)
 rw[bW] at bY
 have hsz:zz.cells.size=f.size:=by
  have h4:=(tok e j he).2.2.1
  rw[←iO,hf4,h4,OO]
 have hlist:=G1 zz.cells f.size hsz m
 have hcont:(cW c).f (List.replicate m z0)=(madeCells zz.cells (m*f.size)).toList.map E.lit:=by
  rw[hlist,hf4,List.map_flatten,Fb,hz]
  show (List.replicate m z0).flatMap c.f=_
  rw[List.flatMap_def,Fb]
 have h1c:∀u∈(madeCells zz.cells (m*f.size)).toList,u.oneCell'=true:=by
  intro u hu
  rw[hlist,hf4] at hu
  obtain⟨l,hl,OD⟩:=List.mem_flatten.1 hu
  obtain rfl:=(List.mem_replicate.1 hl).2
  exact bc.1 (tok e j he).2.2.2 u OD
 refine⟨.slice (some ⟨w.heap.size,0,none⟩) m m,_,w.alloc (.cells (madeCells zz.cells (m*f.size)) e),?_,hr.newVar _ _ e ?_ (fun i u hu=>?_),cz.var hp g w _ _,?_,(Below.refl _ _).alloc hr.base _,fun p _ h=>.inl h⟩
 ·have e1:=h1.lit
  have e2:=h2.lit
  simp only[execOp,e1,e2,Sem.run_bind,bY,Result.andThen_ok]
  rfl
 ·rw[bW,hcont,eE,a8,iO];exact az _
 ·have vJ:(madeCells zz.cells (m*f.size)).toList[i]? =some u:=by simpa using hu
  refine⟨fun _=>h1c u (eb vJ),fun d hd=>?_⟩
  rw[bW,hcont] at hd
  unfold dC at hd
  rw[dT,dT,vJ] at hd
  injection hd with hd
  subst hd
  exact .e _ _ (.lit u (h1c u (eb vJ)))
 ·rw[bW]
  have:=aE.ow (hp:=hp.var (dC ((cW c).f (List.replicate ((m:Int).toNat) z0)))) (g:=g.var hp.next w.heap.size) (w:=w.alloc (.cells (madeCells zz.cells (m*f.size)) e)) hp.next 0 j.size m m (ew _) (az _) (by unfold maxLen;omega)
  rwa[show (g.var hp.next w.heap.size).μ hp.next=w.heap.size from ai rfl] at this
theorem PO(w:World)(t t2 ty e:TypeId)(i:TypeInfo)(hu:P.underlying t=some (.slice e))(hi:P.info? e=some i)(b o n c:Nat)(A:Option Addr)(m c':Nat)(cur:Array Value)(tt:TypeId)(cs:List Value)(hA:0<m→∃ad,A=some ad)(hl:cs.length=min m n*i.size)
  (SF:∀ad,A=some ad→∀j v,cs[j]? =some v→w.cell? (ad.add j)=some v) (hg:w.heap[b]? =some (.cells cur tt (0,0))) (Gy:o+cs.length≤cur.size) (h1:∀v∈cs,v.oneCell'=true):
  (Builtin.copy_ #[t,t2] ty #[.slice (some ⟨b,o,none⟩) n c,.slice A m c']).run P w=   .ok (goInt ((min m n:Nat):Int)) (w.setRow b (cur.toList.take o++cs++cur.toList.drop (o+cs.length)).toArray):=by
 have G7:=run_storeCells_at P b o tt cs 0 cur w hg (by simpa using Gy) h1
 have e0:Nat.min m n=min m n:=rfl
 cases A with
 |none=>
  have hm:m=0:=by
   rcases sd m with h|h
   ·exact h
   ·obtain⟨_,h⟩:=hA h;cases h
  subst hm
  have:cs=[]:=sK (by rw[hl];simp)
  subst this
  simp at G7
  simp[Builtin.copy_,run_underlying hu,Builtin.lenOf,Builtin.firstCells,sizeOf,typeInfo,hi,G7]
 |some a=>
  have FQ:=run_loadCells_list (P:=P) w a cs (SF a rfl)
  rw[hl] at FQ
  simp[Builtin.copy_,run_underlying hu,Builtin.lenOf,Builtin.firstCells,sizeOf,typeInfo,hi,e0,FQ,G7]
def xl(hp:Hp)(d:D)(z m:Nat)(xs:List E):Prop:=xs.length=m*z∧∀(B:Nat) (g:Gh) (w:World) (v:Value),HR B hp g w→aE hp g w d v→
 ∃A c us,v=.slice A m c∧(0<m→∃ad,A=some ad)∧(∀ad,A=some ad→∀j u,us[j]? =some u→w.cell? (ad.add j)=some u)∧Pw (dq w g.F) xs us
theorem xl.own {vs:List (Nat×List D)}{lv:List (Nat×Nat×Nat×TypeId)}{N:Nat}{F:List E}{xs:List E}(hv:vs.lookup k=some (dC F))(hle:off+m*z≤F.length)(hF:(F.drop off).take (m*z)=xs):xl ⟨vs,lv,N⟩ (.ow k off z m) z m xs:=by
 subst hF
 refine⟨by rw[ep,fc];omega,fun B g w v hr hd=>?_⟩
 cases hd with
 |ow _ _ _ _ c hk qv o3=>
  obtain⟨h1,h2,h3,cs,ty,h4,h5,h6⟩:=hr.var k _ hv
  rw[eE] at h5
  refine⟨_,c,(cs.toList.drop off).take (m*z),rfl,fun _=>⟨_,rfl⟩,fun ad ha j u hu=>?_,?_,fun j x u hx hu=>?_⟩
  ·injection ha with ha
   subst ha
   rw[gL] at hu
   split at hu
   ·rw[nt,Lj] at hu
    have Q4:(⟨g.μ k,off,none⟩:Addr).add j=⟨g.μ k,off+j,none⟩:=by unfold Addr.add;split <;> simp_all
    rw[Q4]
    simpa[World.cell?,h4] using hu
   ·cases hu
  ·simp only[ep,fc,iO];omega
  ·rw[gL] at hx hu
   split at hx
   ·rename_i hj
    rw[ai hj,nt,Lj] at hu
    rw[nt] at hx
    have:=(h6 (off+j) u hu).2 (.e x) (by unfold dC;rw[dT,hx];rfl)
    cases this
    assumption
   ·cases hx
theorem xl.dat {hp:Hp}{d:D}{z m:Nat}{xs:List E}(h:d.asSl z=some (m,xs))(hl:xs.length=m*z):xl hp d z m xs:=by
 refine⟨hl,fun B g w v hr hd=>?_⟩
 obtain⟨A,c,rfl,cR⟩:=r6 hd h
 obtain⟨_,_,_,_,hA,us,OD,hc,hp⟩:=cR.reads
 exact⟨A,c,us,rfl,fun hm=>(hA hm).imp fun ad h=>h.1,fun ad ha j u hu=>(hc ad ha j u hu).1,hp⟩
theorem dq.oneL {w:World}{F:Addr→Prop}{xs:List E}{us:List Value}(h:Pw (dq w F) xs us):∀u∈us,u.oneCell'=true:=by
 intro u hu
 obtain⟨i,hi⟩:=List.mem_iff_getElem?.1 hu
 have:i<xs.length:=by rw[h.1];exact (fL.1 hi).1
 exact (h.2 i xs[i] u (cC this) hi).one
theorem sCp {vs:List (Nat×List D)}{lv:List (Nat×Nat×Nat×TypeId)}{N:Nat}{F xs:List E}(tok:TOk P tb)(ht:tb t=some ti)(he:tb e=some j)(hs:xl ⟨vs,lv,N⟩ (ev y) z m xs)(hv:vs.lookup k=some (dC F))(Gy:off+n*z≤F.length)(yj:ti.ty=.slice e:=by exact rfl)(hx:ev x=.ow k off z n:=by exact rfl)(hz:z=j.size:=by exact rfl):
  mO P tb md ⟨dst,.call ⟨.builtin .copy,#[x,y],#[t,t2]⟩,ty2,pos,af,gd⟩ ev ⟨vs,lv,N⟩ (dI .i64 (min m n:Nat)) ⟨(k,dC (F.take off++xs.take (min m n*z)++F.drop (off+min m n*z)))::vs,lv,N⟩:=by
 subst hz
 refine (Snd.loud (dr:=md.dr) (.step fun B g w a hr yh=>?_) (fun _=>rfl) fun h=>by simp[xQ,cpB] at h).q (by cases md <;> rfl)
 have h1:=yh x (cQ (by simp))
 have h2:=yh y (cQ (by simp))
 rw[hx] at h1
 obtain⟨BG,hs⟩:=hs
 obtain⟨A,c',us,hy,hA,SF,xS⟩:=hs B g w _ hr h2
 obtain⟨q1,q2,q3,cs,ty,q4,q5,q6⟩:=hr.var k _ hv
 rw[eE] at q5
 obtain⟨f,zz,Q3,OO,_⟩:=tok.inf he
 have Ek:min m n*j.size≤n*j.size:=cM _ (Nat.min_le_right _ _)
 have hmin2:min m n*j.size≤m*j.size:=cM _ (Nat.min_le_left _ _)
 have OD:us.length=m*j.size:=by rw[←xS.1,BG]
 have htl:(us.take (min m n*j.size)).length=min m n*j.size:=by rw[ep];omega
 have hxt:(xs.take (min m n*j.size)).length=min m n*j.size:=by rw[ep];omega
 generalize hv1:a.eval x=v1 at h1
 cases h1 with
 |ow _ _ _ _ c hk qv o3=>
  have hone:∀u∈us.take (min m n*j.size),u.oneCell'=true:=fun u hu=>dq.oneL xS u (Pg hu)
  have bY:=PO (P:=P) w t t2 ty2 e f (tok.slice ht yj) Q3 (g.μ k) off n c A m c' cs ty (us.take (min m n*j.size)) hA (by rw[htl,OO]) (fun ad ha i v hi=>SF ad ha i v (by
   rw[gL] at hi
   split at hi
   ·exact hi
   ·cases hi)) q4 (by omega) hone
  have S8:=setRow_heap w (g.μ k) cs (cs.toList.take off++us.take (min m n*j.size)++cs.toList.drop (off+(us.take (min m n*j.size)).length)).toArray ty (0,0) q4
  have Tc:e7 ⟨vs,lv,N⟩ g w (dC F) (cs.toList.take F.length):=⟨⟨by simp only[eE,ep,iO];omega,fun i d u hd hu=>(q6 i u (by
   rw[gL] at hu
   split at hu
   ·simpa using hu
   ·cases hu)).2 d hd⟩,fun u hu=>by
   obtain⟨i,hi⟩:=List.mem_iff_getElem?.1 hu
   rw[gL] at hi
   split at hi
   ·rename_i bK
    exact (q6 i u (by simpa using hi)).1 (by rw[eE];exact bK)
   ·cases hi⟩
  have hmid:e7 ⟨vs,lv,N⟩ g w (dC (xs.take (min m n*j.size))) (us.take (min m n*j.size)):=by
   refine⟨⟨by rw[eE,hxt,htl],fun i d u hd hu=>?_⟩,hone⟩
   unfold dC at hd
   rw[dT] at hd
   cases hx':(xs.take (min m n*j.size))[i]? with
   |none=>rw[hx'] at hd;cases hd
   |some x'=>
    rw[hx'] at hd
    injection hd with hd
    subst hd
    exact .e _ _ ((xS.take _).2 i x' u hx' hu)
  have CZ:e7 ⟨vs,lv,N⟩ g w (dC (F.take off++xs.take (min m n*j.size)++F.drop (off+min m n*j.size))) ((cs.toList.take off++us.take (min m n*j.size)++cs.toList.drop (off+(us.take (min m n*j.size)).length)).take F.length):=by
   have:=((Tc.take off).append hmid).append (Tc.drop (off+min m n*j.size))
   rw[htl]
   have e1:(cs.toList.take off++us.take (min m n*j.size)++cs.toList.drop (off+min m n*j.size)).take F.length=((cs.toList.take F.length).take off++us.take (min m n*j.size))++(cs.toList.take F.length).drop (off+min m n*j.size):=by
    have hlA:(cs.toList.take off++us.take (min m n*j.size)).length=off+min m n*j.size:=by rw[cD,htl,ep,iO];omega
    rw[UD,hlA,gJ (by rw[hlA];omega),Li,Ho,td (show off≤F.length by omega)]
   rw[e1]
   unfold dC at this ⊢
   simpa only[gK,w9,zx] using this
  have LM:(F.take off++xs.take (min m n*j.size)++F.drop (off+min m n*j.size)).length=F.length:=by
   simp only[cD,ep,fc];omega
  have Am:=SzB.row (new:=(cs.toList.take off++us.take (min m n*j.size)++cs.toList.drop (off+(us.take (min m n*j.size)).length)).toArray) q4 (by simp only[se,cD,ep,fc,iO];omega)
  refine⟨goInt ((min m n:Nat):Int),g,_,?_,hr.setVar hv _ _ ty (by simp[World.setRow]) (fun b hb=>setRow_other w _ b _ hb) S8 (by rw[eE,LM];simp only[se,cD,ep,fc,iO];omega) Am (fun i u hu=>?_),cz.setVar hr hv _ (by simp[World.setRow]) (fun b hb=>setRow_other w _ b _ hb) Am,.e _ _ (.lit _ rfl),yr w q2 _,fun _ _ h=>h⟩
  ·simp only[execOp,Array.map_map,al_5,jK,mZ,resolve,invoke,builtin,hv1,hy,Sem.run_bind]
   simp[resolve,invoke,builtin,hv1,hy,bY]
  ·have vJ:(cs.toList.take off++us.take (min m n*j.size)++cs.toList.drop (off+(us.take (min m n*j.size)).length))[i]? =some u:=by simpa using hu
   have hw:i<F.length→((cs.toList.take off++us.take (min m n*j.size)++cs.toList.drop (off+(us.take (min m n*j.size)).length)).take F.length)[i]? =some u:=fun hi=>by
    rw[gL,ai hi];exact vJ
   exact⟨fun hi=>CZ.2 u (eb (hw (by rw[eE,LM] at hi;exact hi))),fun d hd=>CZ.1.2 i d u hd (hw (by rw[←LM,←eE];exact (fL.1 hd).1))⟩
def lCp {α:Type}(l:List α)(o:Nat)(s:List α):List α:=l.take o++s++l.drop (o+s.length)
theorem lCp_len {α:Type}{l s:List α}{o:Nat}(h:o+s.length≤l.length):(lCp l o s).length=l.length:=by
 unfold lCp;simp only[cD,ep,fc];omega
theorem Ko {α:Type}(c:Cd α)(l s:List α)(o:Nat):(lCp l o s).flatMap c.f=(l.flatMap c.f).take (o*c.sz)++s.flatMap c.f++(l.flatMap c.f).drop (o*c.sz+s.length*c.sz):=by
 unfold lCp
 rw[Jf,Jf,ka c.f c.h,←bR,nW c.f c.h]
section
variable {α:Type} [Inhabited α] {c:Cd α} {vs:List (Nat×List D)} {lv:List (Nat×Nat×Nat×TypeId)} {N N0:Nat}
theorem xl.arr {v:Vector α N0}(hv:vs.lookup k=some (dC ((cA N0 c).f v)))(o:Nat)(hm:o+m≤N0)(ho:off=o*c.sz:=by exact rfl)(hz:z=c.sz:=by exact rfl):xl ⟨vs,lv,N⟩ (.ow k off z m) z m (((v.toList.drop o).take m).flatMap c.f):=by
 subst ho hz
 refine xl.own hv ?_ ?_
 ·rw[(cA N0 c).h]
  show o*c.sz+m*c.sz≤N0*c.sz
  rw[←bR];exact cM _ hm
 ·show ((v.toList.flatMap c.f).drop (o*c.sz)).take (m*c.sz)=_
  rw[nW c.f c.h,ka c.f c.h]
theorem xl.lst {l:List α}(hv:vs.lookup k=some (dC ((cW c).f l)))(o:Nat)(hm:o+m≤l.length)(ho:off=o*c.sz:=by exact rfl)(hz:z=c.sz:=by exact rfl):xl ⟨vs,lv,N⟩ (.ow k off z m) z m (((l.drop o).take m).flatMap c.f):=by
 subst ho hz
 refine xl.own hv ?_ ?_
 ·show _≤(l.flatMap c.f).length
  rw[il c.f c.h,←bR];exact cM _ hm
 ·show ((l.flatMap c.f).drop (o*c.sz)).take (m*c.sz)=_
  rw[nW c.f c.h,ka c.f c.h]
theorem sCpA {v:Vector α N0}{s:List α}{r:List (Nat×List D)}(tok:TOk P tb)(ht:tb t=some ti)(he:tb e=some j)(hs:xl ⟨vs,lv,N⟩ (ev y) z m (s.flatMap c.f))(FK:s.length=m)(hv:vs.lookup k=some (dC ((cA N0 c).f v)))(o:Nat)(Gy:o+n≤N0)(hr:(k,dC ((cA N0 c).f (vOf N0 (lCp v.toList o (s.take n)))))::vs=r)(ho:off=o*c.sz:=by exact rfl)(G4:z=c.sz:=by exact rfl)(yj:ti.ty=.slice e:=by exact rfl)(hx:ev x=.ow k off z n:=by exact rfl)(hz:z=j.size:=by exact rfl):
  mO P tb md ⟨dst,.call ⟨.builtin .copy,#[x,y],#[t,t2]⟩,ty2,pos,af,gd⟩ ev ⟨vs,lv,N⟩ (dI .i64 (min m n:Nat)) ⟨r,lv,N⟩:=by
 subst ho G4 hr
 have:=sCp (P:=P) (md:=md) (dst:=dst) (ty2:=ty2) (pos:=pos) (af:=af) (gd:=gd) (t2:=t2) (lv:=lv) tok ht he hs hv (by
  rw[(cA N0 c).h]
  show _≤N0*c.sz
  rw[←bR];exact cM _ Gy) yj hx hz
 have e1:(s.take n).length=min m n:=by rw[ep,FK,Nat.min_comm]
 have e2:(cA N0 c).f (vOf N0 (lCp v.toList o (s.take n)))=((cA N0 c).f v).take (o*c.sz)++(s.flatMap c.f).take (min m n*c.sz)++((cA N0 c).f v).drop (o*c.sz+min m n*c.sz):=by
  rw[vOf_f c (by rw[lCp_len (by rw[e1,nL];have:=Nat.min_le_right m n;omega),nL]),Ko,e1]
  have e3:(s.flatMap c.f).take (min m n*c.sz)=(s.take n).flatMap c.f:=by
   rw[ka c.f c.h]
   congr 1
   rcases Nat.le_total m n with h|h
   ·rw[td h,gJ (by omega),gJ (by omega)]
   ·rw[Nat.min_eq_right h]
  rw[e3];rfl
 rw[e2];exact this
theorem sCpW {l s:List α}{r:List (Nat×List D)}(tok:TOk P tb)(ht:tb t=some ti)(he:tb e=some j)(hs:xl ⟨vs,lv,N⟩ (ev y) z m (s.flatMap c.f))(FK:s.length=m)(hv:vs.lookup k=some (dC ((cW c).f l)))(o:Nat)(Gy:o+n≤l.length)(hr:(k,dC ((cW c).f (lCp l o (s.take n))))::vs=r)(ho:off=o*c.sz:=by exact rfl)(G4:z=c.sz:=by exact rfl)(yj:ti.ty=.slice e:=by exact rfl)(hx:ev x=.ow k off z n:=by exact rfl)(hz:z=j.size:=by exact rfl):
  mO P tb md ⟨dst,.call ⟨.builtin .copy,#[x,y],#[t,t2]⟩,ty2,pos,af,gd⟩ ev ⟨vs,lv,N⟩ (dI .i64 (min m n:Nat)) ⟨r,lv,N⟩:=by
 subst ho G4 hr
 have:=sCp (P:=P) (md:=md) (dst:=dst) (ty2:=ty2) (pos:=pos) (af:=af) (gd:=gd) (t2:=t2) (lv:=lv) tok ht he hs hv (by
  show _≤(l.flatMap c.f).length
  rw[il c.f c.h,←bR];exact cM _ Gy) yj hx hz
 have e1:(s.take n).length=min m n:=by rw[ep,FK,Nat.min_comm]
 have e2:(cW c).f (lCp l o (s.take n))=((cW c).f l).take (o*c.sz)++(s.flatMap c.f).take (min m n*c.sz)++((cW c).f l).drop (o*c.sz+min m n*c.sz):=by
  show (lCp l o (s.take n)).flatMap c.f=_
  rw[Ko,e1]
  have e3:(s.flatMap c.f).take (min m n*c.sz)=(s.take n).flatMap c.f:=by
   rw[ka c.f c.h]
   congr 1
   rcases Nat.le_total m n with h|h
   ·rw[td h,gJ (by omega),gJ (by omega)]
   ·rw[Nat.min_eq_right h]
  rw[e3];rfl
 rw[e2];exact this
end
theorem WkS.free {tm:List (Nat×D)}{vs:List (Nat×List D)}{lv:List (Nat×Nat×Nat×TypeId)}{N k:Nat}{ds:List D}(hv:vs.lookup k=some ds):∀(B:Nat) (g:Gh) (w:World) (ρ:Nat→Value),HR B ⟨vs,lv,N⟩ g w→(∀t d,tm.lookup t=some d→aE ⟨vs,lv,N⟩ g w d (ρ t))→
  ∃g':Gh,g'=⟨g.μ,g.τ,fun p=>g.F p∧p.block≠g.μ k⟩∧HR B ⟨vs.filter fun p=>!([k]:List Nat).contains p.1,lv,N⟩ g' w∧cz ⟨vs,lv,N⟩ g w ⟨vs.filter fun p=>!([k]:List Nat).contains p.1,lv,N⟩ g' w∧(∀t d,tm.lookup t=some d→aE ⟨vs.filter fun p=>!([k]:List Nat).contains p.1,lv,N⟩ g' w d (ρ t))∧∀p:Addr,p.block<B→g.F p→g'.F p:=by
 intro B g w ρ hr nC
 obtain⟨h1,h2,h3,cs,ty,h4,h5,h6⟩:=hr.var k _ hv
 have look:∀{j:Nat} {ds:List D},(vs.filter fun p=>!([k]:List Nat).contains p.1).lookup j=some ds→j≠k∧vs.lookup j=some ds:=by
  intro j ds h
  obtain⟨a,b⟩:=jf h
  exact⟨by simpa using a,b⟩
 have fI:∀{j:Nat} {ds:List D},j≠k→vs.lookup j=some ds→g.μ j≠g.μ k:=fun hj hl e=>hj (hr.inj _ _ _ _ hl hv e)
 have mo:cz ⟨vs,lv,N⟩ g w ⟨vs.filter fun p=>!([k]:List Nat).contains p.1,lv,N⟩ ⟨g.μ,g.τ,fun p=>g.F p∧p.block≠g.μ k⟩ w:=by
  refine⟨az _,fun _ _ _=>rfl,fun _ _ h=>h.1,az _,fun _ _=>rfl,fun _ _ m _ h=>⟨m,h,az _,fun _=>rfl⟩,fun b hb hf=>⟨rfl,fun p hp hq=>⟨hq,?_⟩,fun j ds hj=>hf.1 j ds (look hj).2,hf.2⟩,fun _=>.same fun _=>rfl⟩
  rw[hp];exact fun e=>hf.1 k _ hv e.symm
 refine⟨_,rfl,⟨fun j ds hj=>?_,fun j j' ds ds' hj Cv he=>hr.inj j j' ds ds' (look hj).2 (look Cv).2 he,fun id m e hi=>?_,hr.tinj,hr.base,fun p hp=>hr.fits p hp.1⟩,mo,fun t' d hd=>(nC t' d hd).mono mo,fun p hp hq=>⟨hq,?_⟩⟩
 ·obtain⟨a1,a2⟩:=look hj
  obtain⟨b1,b2,b3,wO,LK,b4,b5,b6⟩:=hr.var j ds a2
  exact⟨b1,b2,fun p hp=>⟨b3 p hp,by rw[hp];exact fI a1 a2⟩,wO,LK,b4,b5,fun i u hu=>⟨(b6 i u hu).1,fun d hd=>((b6 i u hu).2 d hd).mono mo⟩⟩
 ·obtain⟨b1,us,b2,b3,b4⟩:=hr.tok id m e hi
  exact⟨b1,us,b2,b3,fun b hb=>⟨fun p hp hq=>⟨(b4 b hb).1 p hp hq,by rw[hp];exact fun e=>(b4 b hb).2 k _ hv e.symm⟩,fun j ds hj=>(b4 b hb).2 j ds (look hj).2⟩⟩
 ·intro e
  omega
theorem D7 {tm:List (Nat×D)}{d0:D}:∀{ts:List Nat} {t:Nat} {d:D},(ts.map (fun t=>(t,d0))++tm).lookup t=some d→(t∈ts∧d=d0)∨tm.lookup t=some d
 |[],t,d,h=>.inr h
 |s::ts,t,d,h=>by
  by_cases G7:t=s
  ·subst G7
   have:some d0=some d:=by rw[←h];exact aa.symm
   injection this with this
   exact .inl ⟨qO ..,this.symm⟩
  ·rcases D7 (ts:=ts) (t:=t) (d:=d) (by rw[←h];exact (ao G7).symm) with⟨h1,h2⟩|h1
   ·exact .inl ⟨o5 _ h1,h2⟩
   ·exact .inr h1
theorem WkS.frzs {tm:List (Nat×D)}{vs:List (Nat×List D)}{lv:List (Nat×Nat×Nat×TypeId)}{N k z n:Nat}{F:List E}(ts:List Nat)(hz:0<z)(ht:∀t∈ts,tm.lookup t=some (.ow k 0 z n))(hv:vs.lookup k=some (dC F))(hF:F.length=n*z):
  WkS tm ⟨vs,lv,N⟩ (ts.map (fun t=>(t,.e (.sl z n F)))++tm) ⟨vs.filter fun p=>!([k]:List Nat).contains p.1,lv,N⟩:=by
 intro B g w ρ hr nC
 have one:∀t∈ts,∃g',(g':Gh)=⟨g.μ,g.τ,fun p=>g.F p∧p.block≠g.μ k⟩∧aE ⟨vs.filter fun p=>!([k]:List Nat).contains p.1,lv,N⟩ g' w (.e (.sl z n F)) (ρ t):=by
  intro t rl
  refine⟨_,rfl,?_⟩
  obtain⟨h1,h2,h3,cs,ty,h4,h5,h6⟩:=hr.var k _ hv
  have cR:=nC t _ (ht t rl)
  generalize ρ t=u at cR
  cases cR with
  |ow _ _ _ _ c hk qv o3=>
   have oQ:F.length≤cs.size:=by rw[eE] at h5;exact h5
   refine .e _ _ (.sl z n F (some ⟨g.μ k,0,none⟩) c (fun i=>cs.getD i undef) hF hz qv o3 (fun _=>⟨_,rfl,(oL.1 h4).1⟩) (fun ad ha i e hi=>?_) (fun i e hi=>?_))
   ·injection ha with ha
    subst ha
    have bK:i<cs.size:=bJ (fL.1 hi).1 oQ
    refine⟨?_,fun hf=>hf.2 (by rw[gh])⟩
    have e0:w.cell? (({block:=g.μ k,off:=0,spot:=none}:Addr).add i)=cs[0+i]? :=by
     by_cases h0:i=0
     ·subst h0;simp[World.cell?,Addr.add,h4]
     ·simp[World.cell?,Addr.add,h4,h0]
    rw[e0,bt]
    simp[eT,bK]
   ·have bK:i<cs.size:=bJ (fL.1 hi).1 oQ
    have hu:=h6 i (cs.getD i undef) (by simp[eT,bK])
    have:=hu.2 (.e e) (by unfold dC;rw[dT,hi];rfl)
    cases this with
    |e _ _ h7=>exact dq.less h7 fun p hp=>hp.1
 obtain⟨g',hg',q1,q2,q3,q4⟩:=WkS.free (lv:=lv) (N:=N) (tm:=tm) (k:=k) hv B g w ρ hr nC
 subst hg'
 refine⟨_,q1,q2,fun t d hd=>?_,q4⟩
 rcases D7 hd with⟨h1,rfl⟩|h1
 ·obtain⟨g',hg',h2⟩:=one t h1
  subst hg'
  exact h2
 ·exact q3 t d h1
theorem WkS.frzG {α:Type}(c:Cd α){l:List α}{tm:List (Nat×D)}{vs:List (Nat×List D)}{lv:List (Nat×Nat×Nat×TypeId)}{N k n:Nat}(ts:List Nat)(hn:n=l.length)(ht:∀t∈ts,tm.lookup t=some (.ow k 0 c.sz n))(hv:vs.lookup k=some (dC ((cW c).f l)))(hz:Nat.ble 1 c.sz=true:=by exact rfl):
  WkS tm ⟨vs,lv,N⟩ (ts.map (fun t=>(t,.e (slE c l)))++tm) ⟨vs.filter fun p=>!([k]:List Nat).contains p.1,lv,N⟩:=by
 subst hn
 exact WkS.frzs ts (bi hz) ht hv (il c.f c.h l)
end
end
section
section
variable {P:Program} {tb:TypeId→Option TyE} {dr:Bool} {ev:Operand→D} {hp:Hp} {ty:TypeId} {α:Type}
theorem AQ {t e:TypeId}{i j:TyE}{n:Nat}{ps:List (Nat×Operand)}(l:List α)(c:Cd α)(ht:tb t=some i)(he:tb e=some j)(hi:i.ty=.slice e:=by exact rfl)(hz:c.sz=j.size:=by exact rfl)(Mw:Nat.ble (0+1) (j.size)=true:=by exact rfl)(LM:l.length=n+1:=by exact rfl)(hn:Nat.ble ((n+1)*j.size) (16777216)=true:=by exact rfl)(jC:mb (ps.map fun p=>(p.1,ev p.2))=some ((l.zipIdx 0).map fun p=>(p.2,dC (c.f p.1))):=by exact rfl)(hd:dr=true:=by exact rfl):
  AVC P tb dr (.buildSlice t (n+1) ps.toArray) ty ev hp (Kq (dF c l) hp):=by
 have hf:=BJ c hz l 0 [] (List.replicate ((n+1)*j.size) (D.e .any)) (by simp) (by rw[tF,LM])
 rw[ny,ny] at hf
 have:=Fs (P:=P) (dr:=dr) (ty:=ty) (ev:=ev) (hp:=hp) ht he hi Mw hn jC hf (BQ _) hd
 show AVC _ _ _ _ _ _ _ (Kq (.fu c.sz l.length (l.flatMap c.f)) _)
 rw[hz,LM]
 exact this
end
end
section
def Way(ops:Array Oper):List Nat→Array Bool→Prop
 |[],s=>Region.ready .any ops s=[]
 |i::l,s=>i∈Region.ready .any ops s∧Way ops l (s.setIfInBounds i true)
def Bfr(a b:Nat):List Nat→Array Bool→Prop
 |[],_=>True
 |i::l,s=>(i=b→s.getD a false=true)∧Bfr a b l (s.setIfInBounds i true)
theorem ma {ops:Array Oper}{s:Array Bool}{i:Nat}:i∈Region.ready .any ops s↔i<ops.size∧s.getD i true=false∧∃o,ops[i]? =some o∧∀e∈o.after,Region.binds .any e=true→s.getD e.on false=true:=by
 unfold Region.ready
 rw[List.mem_filter,kz]
 refine and_congr_right fun h=>?_
 rw[cm,Ca]
 refine and_congr_right fun _=>?_
 cases ho:ops[i]? with
 |none=>simp
 |some o=>
  simp only[nY,wX,Array.all_eq_true',Je,Ca,nX,exists_eq_left']
  refine forall_congr' fun e=>forall_congr' fun _=>?_
  cases Region.binds .any e <;> simp
theorem TF {s:Array Bool}{i j:Nat}(h:s.getD j false=true):(s.setIfInBounds i true).getD j false=true:=by
 simp only[eT] at h ⊢
 rw[Jd]
 split
 ·rename_i e
  subst e
  split
  ·rfl
  ·rename_i hs
   rw[al_2 (by omega)] at h
   simp at h
 ·exact h
theorem Hf {s:Array Bool}{i:Nat}(h:i<s.size):(s.setIfInBounds i true).getD i false=true:=by
 simp[eT,Jd,h]
theorem Bfr.of {a b:Nat}:∀(l:List Nat) (s:Array Bool),s.getD a false=true→Bfr a b l s
 |[],_,_=>trivial
 |_::l,_,h=>⟨fun _=>h,Bfr.of l _ (TF h)⟩
theorem Us {ops:Array Oper}{a b:Nat}(FV:a≠b):∀(l:List Nat) (s:Array Bool),s.size=ops.size→Way ops l s→Bfr a b l s∨Bfr b a l s
 |[],_,_,_=>.inl trivial
 |i::l,s,hs,⟨h1,h2⟩=>by
  have hi:=(ma.1 h1).1
  by_cases ha:i=a
  ·subst ha
   exact .inl ⟨fun h=>absurd h FV,Bfr.of l _ (Hf (by omega))⟩
  ·by_cases hb:i=b
   ·subst hb
    exact .inr ⟨fun h=>absurd h.symm FV,Bfr.of l _ (Hf (by omega))⟩
   ·rcases Us FV l (s.setIfInBounds i true) (by simpa using hs) h2 with h|h
    ·exact .inl ⟨fun h=>absurd h hb,h⟩
    ·exact .inr ⟨fun h=>absurd h ha,h⟩
theorem Rj {ops:Array Oper}:∀(fuel t:Nat) (s:Array Bool),s.size=ops.size→unl s ops.size≤fuel→Way ops (Region.linearise.go .any ops fuel t s []) s
 |0,t,s,hs,hu=>by
  show Region.ready .any ops s=[]
  rw[UH]
  intro i hi
  obtain⟨h1,h2,_⟩:=ma.1 hi
  have:i∈(List.range ops.size).filter fun j=>!s.getD j false:=by
   rw[List.mem_filter,kz]
   refine⟨h1,?_⟩
   have bK:i<s.size:=by omega
   have e1:s[i]?.getD true=false:=by rw[←eT];exact h2
   rw[eT]
   rw[ta bK] at e1 ⊢
   simp at e1 ⊢
   exact e1
  have hlen:=List.length_pos_of_mem this
  unfold unl at hu
  omega
 |fuel+1,t,s,hs,hu=>by
  simp only[Region.linearise.go]
  change Way ops (match (Region.ready .any ops s)[t % (Region.ready .any ops s).length]? with
   |some i=>Region.linearise.go .any ops fuel (t / (Region.ready .any ops s).length) (s.setIfInBounds i true) [i]
   |none=>[].reverse) s
  cases hi:(Region.ready .any ops s)[t % (Region.ready .any ops s).length]? with
  |none=>
   show Region.ready .any ops s=[]
   cases hr:Region.ready .any ops s with
   |nil=>rfl
   |cons x xs=>
    rw[hr] at hi
    have bK:t % (x::xs).length<(x::xs).length:=eu _ (by simp)
    rw[cC bK] at hi
    cases hi
  |some i=>
   simp only[]
   rw[linearise_go_acc,List.reverse_singleton,List.singleton_append]
   have hm:=eb hi
   obtain⟨h1,h2,_⟩:=ma.1 hm
   have bK:i<s.size:=by omega
   have hf:s.getD i false=false:=by
    have e1:s[i]?.getD true=false:=by rw[←eT];exact h2
    rw[eT]
    rw[ta bK] at e1 ⊢
    simpa using e1
   exact⟨hm,Rj fuel _ _ (by simpa using hs) (by have:=HS (n:=ops.size) h1 bK hf;omega)⟩
theorem GK {P:Program}{ops:Array Oper}{Q:Exit→Act→World→Prop}:∀(l:List Nat) (fuel:Nat) (s:Array Bool) (a:Act) (w:World),wpAny P .any ops Q fuel s a w→Way ops l s→wpOps P ops Q l a w
 |[],0,_,_,_,h,_=>by simpa[wpOps] using h.2
 |[],_+1,_,_,_,h,hw=>by simpa[wpOps] using h.1 hw
 |i::l,0,_,_,_,h,hw=>by
  have:=hw.1
  rw[h.1] at this
  cases this
 |i::l,fuel+1,s,a,w,h,hw=>by
  rw[wpOps_cons]
  exact wpOp_mono (fun a w h=>GK l fuel _ a w h hw.2) (h.2 i hw.1)
def mW:List Oper→Nat→Oper
 |[],_=>default
 |o::_,0=>o
 |_::l,n+1=>mW l n
def lP:List Nat→Nat→Nat
 |[],_=>0
 |j::l,i=>match Nat.beq j i with
  |true=>0
  |false=>lP l i+1
def Ki(p:List Nat)(i:Nat):List (Nat×Nat)→List Edge
 |[]=>[]
 |(a,b)::C=>match Nat.beq b i with
  |true=>⟨lP p a,.data⟩::Ki p i C
  |false=>Ki p i C
def mM(p:List Nat)(C:List (Nat×Nat))(i:Nat)(o:Oper):Oper:=⟨o.dst,o.op,o.type,o.pos,((o.after.toList.map fun e=>(⟨lP p e.on,e.ground⟩:Edge))++Ki p i C).toArray,none⟩
def eh(p:List Nat)(C:List (Nat×Nat))(l:List Oper):List Oper:=p.map fun i=>mM p C i (mW l i)
def Om(p:List Nat)(l:List Oper):Bool:=Nat.beq p.length l.length&&(List.range l.length).all (fun i=>p.elem i)&&(l.all fun o=>o.guard.isNone)&&p.all (fun i=>Nat.blt i l.length)&&(List.range l.length).all fun k=>(List.range l.length).any fun i=>Nat.beq (lP p i) k
theorem nF:∀{p:List Nat} {i:Nat},i∈p→lP p i<p.length∧p[lP p i]? =some i
 |j::p,i,h=>by
  unfold lP
  cases hb:Nat.beq j i with
  |true=>exact⟨by simp,by simpa using zw hb⟩
  |false=>
   have fI:¬i=j:=by
    intro e;subst e
    have:Nat.beq i i=true:=Jc i
    rw[this] at hb;cases hb
   rcases kK.1 h with h|h
   ·exact absurd h fI
   ·obtain⟨h1,h2⟩:=nF h
    exact⟨by simpa using h1,by simpa using h2⟩
theorem PV {p:List Nat}{i j:Nat}(hi:i∈p)(hj:j∈p)(h:lP p i=lP p j):i=j:=by
 have h1:=(nF hi).2
 rw[h,(nF hj).2] at h1
 injection h1 with h1
 exact h1.symm
theorem Sc {l:List Oper}{o:Oper}:∀{i:Nat},l[i]? =some o→mW l i=o:=by
 induction l with
 |nil=>intro i h;simp at h
 |cons o' l ih=>
  intro i h
  cases i with
  |zero=>rw[UB] at h;injection h
  |succ i=>rw[List.getElem?_cons_succ] at h;exact ih h
theorem Bt {p:List Nat}{i:Nat}{e:Edge}:∀{C:List (Nat×Nat)},e∈Ki p i C→∃a,(a,i)∈C∧e=⟨lP p a,.data⟩
 |(a,b)::C,h=>by
  unfold Ki at h
  cases hb:Nat.beq b i with
  |true=>
   rw[hb] at h
   obtain rfl:=zw hb
   rcases kK.1 h with rfl|h
   ·exact⟨a,qO ..,rfl⟩
   ·obtain⟨a',h1,h2⟩:=Bt h
    exact⟨a',o5 _ h1,h2⟩
  |false=>
   rw[hb] at h
   obtain⟨a',h1,h2⟩:=Bt h
   exact⟨a',o5 _ h1,h2⟩
structure Lv(p:List Nat)(l:List Oper):Prop where
 len:p.length=l.length
 mem:∀i,i<l.length→i∈p
 gd:∀o∈l,o.guard=none
 bd:∀i∈p,i<l.length
 inv:∀k,k<l.length→∃i,i<l.length∧lP p i=k
theorem Mg {p:List Nat}{l:List Oper}(h:Om p l=true):Lv p l:=by
 unfold Om at h
 simp only[cm,bc,kz] at h
 obtain⟨⟨⟨⟨h1,h2⟩,h3⟩,h4⟩,h5⟩:=h
 refine⟨zw h1,fun i hi=>by simpa using h2 i hi,fun o ho=>by simpa using h3 o ho,fun i hi=>?_,fun k hk=>?_⟩
 ·exact bi (h4 i hi)
 ·obtain⟨i,hi,hb⟩:=ND.1 (h5 k hk)
  exact⟨i,kz.1 hi,zw hb⟩
section
variable {P:Program} {p:List Nat} {C:List (Nat×Nat)} {l:List Oper}
theorem Lv.get(h:Lv p l){i:Nat}{o:Oper}(ho:l[i]? =some o):(eh p C l).toArray[lP p i]? =some (mM p C i o):=by
 have hi:i<l.length:=(fL.1 ho).1
 obtain⟨_,h2⟩:=nF (h.mem i hi)
 unfold eh
 rw[Fa,dT,h2,nY,Sc ho]
theorem PC(h:Lv p l){Q:Exit→Act→World→Prop}{K:Act→World→Prop}{i:Nat}(hi:i<l.length){a:Act}{w:World}(hw:wpOp P (eh p C l).toArray Q (lP p i) K a w):wpOp P l.toArray Q i K a w:=by
 have ho:l[i]? =some l[i]:=cC hi
 unfold wpOp at hw ⊢
 rw[h.get ho] at hw
 rw[Fa,ho]
 generalize hoo:l[i]=o at hw ho ⊢
 have hg:=h.gd o (eb ho)
 obtain⟨dst,op,ty,pos,af,gd⟩:=o
 simp only at hg
 subst hg
 exact hw
theorem Dz(h:Lv p l){Q:Exit→Act→World→Prop}:∀(is:List Nat) (a:Act) (w:World),(∀i∈is,i<l.length)→wpOps P (eh p C l).toArray Q (is.map (lP p)) a w→wpOps P l.toArray Q is a w
 |[],a,w,_,hw=>hw
 |i::is,a,w,hi,hw=>by
  rw[jK,wpOps_cons] at hw
  rw[wpOps_cons]
  exact PC h (hi i (qO ..)) (wpOp_mono (fun a w h'=>Dz h is a w (fun i wb=>hi i (o5 _ wb)) h') hw)
structure Ft(p:List Nat)(n:Nat)(s s':Array Bool):Prop where
 s1:s.size=n
 s2:s'.size=n
 eq:∀i,i<n→s'[lP p i]? =s[i]?
theorem Ft.set(h:Lv p l){s s':Array Bool}(hs:Ft p l.length s s'){i:Nat}(hi:i<l.length):Ft p l.length (s.setIfInBounds i true) (s'.setIfInBounds (lP p i) true):=by
 refine⟨by simpa using hs.s1,by simpa using hs.s2,fun j hj=>?_⟩
 rw[Jd,Jd]
 have hpi:lP p i<s'.size:=by rw[hs.s2,←h.len];exact (nF (h.mem i hi)).1
 by_cases Cw:i=j
 ·subst Cw
  rw[ai rfl,ai rfl,ai hpi,ai (by rw[hs.s1];exact hi)]
 ·rw[ah Cw,ah (fun e=>Cw (PV (h.mem i hi) (h.mem j hj) e))]
  exact hs.eq j hj
theorem Ft.getD(h:Lv p l){s s':Array Bool}(hs:Ft p l.length s s'){j:Nat}(d:Bool)(hj:j<l.length):s'.getD (lP p j) d=s.getD j d:=by
 rw[eT,eT,hs.eq j hj]
theorem BA {s:Array Bool}{j:Nat}(h:s.getD j false=true):j<s.size:=by
 rcases d6 j s.size with h1|h1
 ·exact h1
 ·rw[eT,al_2 h1] at h;cases h
theorem JG(h:Lv p l):∀(is:List Nat) (s s':Array Bool),Ft p l.length s s'→Way l.toArray is s→(∀c∈C,Bfr c.1 c.2 is s)→Way (eh p C l).toArray (is.map (lP p)) s'
 |[],s,s',hs,hw,_=>by
  show Region.ready _ _ _=[]
  rw[UH]
  intro k hk
  obtain⟨h1,h2,o',h3,h4⟩:=ma.1 hk
  have hkp:k<p.length:=by
   have:(eh p C l).length=p.length:=a8 _
   simpa[this] using h1
  -- qu operation at k is qu one that stood at i
  have hik:=h.inv k (by rw[←h.len];exact hkp)
  obtain⟨i,hi,rfl⟩:=hik
  have ho:l[i]? =some l[i]:=cC hi
  rw[h.get ho] at h3
  injection h3 with h3
  subst h3
  have:i∈Region.ready .any l.toArray s:=by
   refine ma.2 ⟨by simpa using hi,by rw[←hs.getD h true hi];exact h2,l[i],by rw[Fa];exact ho,fun e he hb=>?_⟩
   have h5:=h4 ⟨lP p e.on,e.ground⟩ (by
    unfold mM
    rw[Pc]
    exact List.mem_append_left _ (uf.2 ⟨e,by simpa using he,rfl⟩)) hb
   have bK:lP p e.on<l.length:=by rw[←hs.s2];exact BA h5
   by_cases S3:e.on∈p
   ·-- it is one of qu operations
    have hon:e.on<l.length:=h.bd _ S3
    rwa[hs.getD h false hon] at h5
   ·exfalso
    have:lP p e.on=p.length:=by
     have gen:∀(q:List Nat),e.on∉q→lP q e.on=q.length:=by
      intro q
      induction q with
      |nil=>intro _;rfl
      |cons j q ih=>
       intro hq
       have fI:Nat.beq j e.on=false:=by
        cases hb:Nat.beq j e.on with
        |true=>exact absurd (kK.2 (.inl (zw hb).symm)) hq
        |false=>rfl
       unfold lP
       rw[fI]
       simp only[r9]
       rw[ih fun hh=>hq (o5 _ hh)]
     exact gen p S3
    rw[this,h.len] at bK
    omega
  rw[show Region.ready .any l.toArray s=[] from hw] at this
  cases this
 |i::is,s,s',hs,⟨h1,h2⟩,hC=>by
  obtain⟨hi0,Q3,o,ho,he⟩:=ma.1 h1
  have hi:i<l.length:=by simpa using hi0
  rw[Fa] at ho
  refine⟨ma.2 ⟨?_,by rw[hs.getD h true hi];exact Q3,_,h.get ho,fun e hm hb=>?_⟩,JG h is _ _ (hs.set h hi) h2 fun c hc=>(hC c hc).2⟩
  ·have:(eh p C l).length=p.length:=a8 _
   simp only[se,this]
   exact (nF (h.mem i hi)).1
  ·unfold mM at hm
   rw[Pc] at hm
   rcases vP.1 hm with hm|hm
   ·obtain⟨e0,he0,rfl⟩:=uf.1 hm
    have h6:=he e0 (by simpa using he0) hb
    have bK:e0.on<l.length:=by rw[←hs.s1];exact BA h6
    rw[hs.getD h false bK];exact h6
   ·obtain⟨a,LO,rfl⟩:=Bt hm
    have h6:=(hC _ LO).1 rfl
    have bK:a<l.length:=by rw[←hs.s1];exact BA h6
    rw[hs.getD h false bK];exact h6
end
section
variable {P:Program} {tb:TypeId→Option TyE} {x:Cx} {tm:List (Nat×D)} {hp:Hp} {Q:Exit→List (Nat×D)→Hp→Prop} {L:List FuncId} {C:List (Nat×Nat)} {l:List Oper}
def DW(P:Program)(x:Cx)(l:List Oper)(C:List (Nat×Nat))(tm:List (Nat×D))(hp:Hp)(Q:Exit→List (Nat×D)→Hp→Prop):Prop:=
 ∀(a:Act) (w:World) (is:List Nat),RS x tm hp a w→(∀i∈is,i<l.length)→Way l.toArray is (Array.replicate l.length false)→(∀c∈C,Bfr c.1 c.2 is (Array.replicate l.length false))→wpOps P l.toArray (fun ex a' w'=>∃tm' hp',RS x tm' hp' a' w'∧Q ex tm' hp') is a w
theorem RS.drew {a:Act}{w:World}(h:RS x tm hp a w):RS x tm hp a {w with drawn:=w.drawn+1}:=by
 obtain⟨g,hr,nC,hsz,Dl,hB,hF,hM⟩:=h
 exact⟨g,hr.keep (az _) (fun _ _=>rfl),fun t d hl=>(nC t d hl).mono (cz.keep hp g (az _) (fun _ _=>rfl)),hsz,Dl,hB.drew,hF,hM.trans (cz.keep hp g (az _) (fun _ _=>rfl))⟩
theorem Ri {ops:Array Oper}:∀(is:List Nat) (s:Array Bool),Way ops is s→∀i∈is,i<ops.size
 |[],_,_,_,h=>by cases h
 |j::is,s,hw,i,h=>by
  rcases kK.1 h with rfl|h
  ·exact (ma.1 hw.1).1
  ·exact Ri is _ hw.2 i h
theorem AW.dw {id:Nat}(hm:P.follows .mixedOrders=true)(h:DW P x l [] tm hp Q):AW P x (.region id l.toArray true) tm hp Q:=by
 intro a w hr
 refine wp_region_draw fun t=>?_
 simp only[Region.schedule,hm,Bool.true_or,vg]
 have hway:=Rj (ops:=l.toArray) l.toArray.size t (Array.replicate l.toArray.size false) (by simp) (by unfold unl;exact dU (NC _ _) (by simp))
 have bK:=Ri _ _ hway
 simp only[se] at hway bK
 exact h a _ _ hr.drew bK hway (fun c hc=>by cases hc)
theorem DW.split(a b:Nat)(FV:a≠b)(h1:DW P x l ((a,b)::C) tm hp Q)(h2:DW P x l ((b,a)::C) tm hp Q):DW P x l C tm hp Q:=by
 intro ac w is hr bK hw hC
 rcases Us FV is _ (by simp) hw with h|h
 ·exact h1 ac w is hr bK hw fun c hc=>by
   rcases kK.1 hc with rfl|hc
   ·exact h
   ·exact hC c hc
 ·exact h2 ac w is hr bK hw fun c hc=>by
   rcases kK.1 hc with rfl|hc
   ·exact h
   ·exact hC c hc
theorem LQ {ops:Array Oper}(hN:mr x.N ops=true)(rU:Ab tb L ops=true)
  (h:∀K:List (Nat×D)→Hp→Prop,(∀tm hp,Q .normal tm hp→K tm hp)→aX P tb (.any L) ops K ops.toList tm hp) {a:Act} {w:World} (hr:RS x tm hp a w):wpAny P .any ops (fun ex a' w'=>∃tm' hp',RS x tm' hp' a' w'∧Q ex tm' hp') ops.size (Array.replicate ops.size false) a w:=by
 obtain⟨dd,hh,ac,sI,bY,hK,h1,h2⟩:=L8 (ops:=ops) ops.toList 0 (fun _=>.top) (fun _=>hp) (fun _=>false) (fun _=>tm) ⟨fun _ _ h=>absurd h (by omega),fun _ _ h=>absurd h (by omega),fun _ _ h=>absurd h (by omega)⟩ rfl (h _ fun _ _ h=>h)
 simp only[bt,iO] at bY hK h1 h2
 obtain⟨g,FN,nC,hsz,Dl,hB,hF,hM⟩:=hr
 refine JE hN (DY rU) bY (fun a w hr=>⟨_,_,hr,hK⟩) ops.size _ a _ 0 g ?_ ?_
 ·have AT:∀j,¬(Array.replicate ops.size false).getD j false=true:=by
   intro j
   simp[eT,Jb]
   split <;> simp
  refine⟨by simp,fun i _ _ _ hl=>absurd hl (AT i),cr _,fun j _ _ _=>⟨fun hl=>absurd hl (AT j),fun h=>absurd h (by omega)⟩,?_,fun t d hl=>?_,hsz,Dl,hB,hF,?_⟩
  rotate_right
  ·rw[h2];exact hM
  ·rw[h2];exact FN
  ·rw[h2]
   rcases hl with⟨i,_,_,hl,_⟩|⟨_,hl⟩
   ·exact absurd hl (AT i)
   ·rw[h1] at hl
    exact nC t d hl
 ·unfold unl
  exact dU (NC _ _) (by simp)
theorem DW.go(p:List Nat)(jC:Om p l=true)(hN:mr x.N (eh p C l).toArray=true)(rU:Ab tb L (eh p C l).toArray=true)
  (h:∀K:List (Nat×D)→Hp→Prop,(∀tm hp,Q .normal tm hp→K tm hp)→aX P tb (.any L) (eh p C l).toArray K (eh p C l) tm hp):DW P x l C tm hp Q:=by
 intro a w is hr bK hw hC
 have hP:=Mg jC
 have h1:=LQ hN rU h hr
 have hlen:(eh p C l).toArray.size=l.length:=by simp[eh,hP.len]
 rw[hlen] at h1
 have hs0:Ft p l.length (Array.replicate l.length false) (Array.replicate l.length false):=by
  refine⟨by simp,by simp,fun i hi=>?_⟩
  have:=(nF (hP.mem i hi)).1
  rw[Jb,Jb,ai hi,ai (by rw[←hP.len];exact this)]
 exact Dz hP is a w bK (GK _ _ _ a w h1 (JG hP is _ _ hs0 hw hC))
end
end
def tblL:List (Nat×TyE):=[
 (3,⟨.int .i64,1,8,[.int .i64 (0)]⟩),
 (4,⟨.bool,1,1,[.bool false]⟩),
 (5,⟨.int .u8,1,1,[.int .u8 (0)]⟩),
 (9,⟨.str,1,16,[.string ⟨#[]⟩]⟩),
 (22,⟨.slice 43,1,24,[.slice none 0 0]⟩),
 (24,⟨.struct [(0,3),(1,3),(2,22)],3,40,[.int .i64 (0),.int .i64 (0),.slice none 0 0]⟩),
 (26,⟨.struct [(0,24),(3,22),(4,22)],5,88,[.int .i64 (0),.int .i64 (0),.slice none 0 0,.slice none 0 0,.slice none 0 0]⟩),
 (29,⟨.struct [(0,3),(1,22),(2,22),(3,22)],4,80,[.int .i64 (0),.slice none 0 0,.slice none 0 0,.slice none 0 0]⟩),
 (38,⟨.int .u32,1,4,[aj]⟩),
 (39,⟨.arr 16 38,16,64,[aj,aj,aj,aj,aj,aj,aj,aj,aj,aj,aj,aj,aj,aj,aj,aj]⟩),
 (41,⟨.struct [(0,4),(1,4),(2,39)],18,68,[.bool false,.bool false,aj,aj,aj,aj,aj,aj,aj,aj,aj,aj,aj,aj,aj,aj,aj,aj]⟩),
 (43,⟨.struct [(0,41),(18,41)],36,136,[.bool false,.bool false,aj,aj,aj,aj,aj,aj,aj,aj,aj,aj,aj,aj,aj,aj,aj,aj,.bool false,.bool false,aj,aj,aj,aj,aj,aj,aj,aj,aj,aj,aj,aj,aj,aj,aj,aj]⟩),
 (67,⟨.slice 3,1,24,[.slice none 0 0]⟩),
 (71,⟨.slice 78,1,24,[.slice none 0 0]⟩),
 (73,⟨.struct [(0,43),(36,22)],37,160,[.bool false,.bool false,aj,aj,aj,aj,aj,aj,aj,aj,aj,aj,aj,aj,aj,aj,aj,aj,.bool false,.bool false,aj,aj,aj,aj,aj,aj,aj,aj,aj,aj,aj,aj,aj,aj,aj,aj,.slice none 0 0]⟩),
 (75,⟨.struct [(0,71),(1,73),(38,3),(39,3),(40,3)],41,208,[.slice none 0 0,.bool false,.bool false,aj,aj,aj,aj,aj,aj,aj,aj,aj,aj,aj,aj,aj,aj,aj,aj,.bool false,.bool false,aj,aj,aj,aj,aj,aj,aj,aj,aj,aj,aj,aj,aj,aj,aj,aj,.slice none 0 0,.int .i64 (0),.int .i64 (0),.int .i64 (0)]⟩),
 (78,⟨.struct [(0,73),(37,3)],38,168,[.bool false,.bool false,aj,aj,aj,aj,aj,aj,aj,aj,aj,aj,aj,aj,aj,aj,aj,aj,.bool false,.bool false,aj,aj,aj,aj,aj,aj,aj,aj,aj,aj,aj,aj,aj,aj,aj,aj,.slice none 0 0,.int .i64 (0)]⟩),
 (145,⟨.int .u64,1,8,[.int .u64 (0)]⟩),
 (147,⟨.int .u64,1,8,[.int .u64 (0)]⟩),
 (149,⟨.arr 32 38,32,128,[aj,aj,aj,aj,aj,aj,aj,aj,aj,aj,aj,aj,aj,aj,aj,aj,aj,aj,aj,aj,aj,aj,aj,aj,aj,aj,aj,aj,aj,aj,aj,aj]⟩),
 (151,⟨.slice 38,1,24,[.slice none 0 0]⟩),
 (160,⟨.other,1,8,[.pointer none]⟩),
 (161,⟨.slice 160,1,24,[.slice none 0 0]⟩),
 (179,⟨.slice 41,1,24,[.slice none 0 0]⟩),
 (191,⟨.arr 17 38,17,68,[aj,aj,aj,aj,aj,aj,aj,aj,aj,aj,aj,aj,aj,aj,aj,aj,aj]⟩)
]
def tbl(t:TypeId):Option TyE:=tblL.lookup t
theorem dZ:tbl 3=some ⟨.int .i64,1,8,[.int .i64 (0)]⟩:=rfl
theorem uE:tbl 4=some ⟨.bool,1,1,[.bool false]⟩:=rfl
theorem tb_5:tbl 5=some ⟨.int .u8,1,1,[.int .u8 (0)]⟩:=rfl
theorem tb_9:tbl 9=some ⟨.str,1,16,[.string ⟨#[]⟩]⟩:=rfl
theorem bZ:tbl 22=some ⟨.slice 43,1,24,[.slice none 0 0]⟩:=rfl
theorem wB:tbl 24=some ⟨.struct [(0,3),(1,3),(2,22)],3,40,[.int .i64 (0),.int .i64 (0),.slice none 0 0]⟩:=rfl
theorem rE:tbl 26=some ⟨.struct [(0,24),(3,22),(4,22)],5,88,[.int .i64 (0),.int .i64 (0),.slice none 0 0,.slice none 0 0,.slice none 0 0]⟩:=rfl
theorem oX:tbl 29=some ⟨.struct [(0,3),(1,22),(2,22),(3,22)],4,80,[.int .i64 (0),.slice none 0 0,.slice none 0 0,.slice none 0 0]⟩:=rfl
theorem bQ:tbl 38=some ⟨.int .u32,1,4,[aj]⟩:=rfl
theorem cY:tbl 39=some ⟨.arr 16 38,16,64,[aj,aj,aj,aj,aj,aj,aj,aj,aj,aj,aj,aj,aj,aj,aj,aj]⟩:=rfl
theorem ff:tbl 41=some ⟨.struct [(0,4),(1,4),(2,39)],18,68,[.bool false,.bool false,aj,aj,aj,aj,aj,aj,aj,aj,aj,aj,aj,aj,aj,aj,aj,aj]⟩:=rfl
theorem aO:tbl 43=some ⟨.struct [(0,41),(18,41)],36,136,[.bool false,.bool false,aj,aj,aj,aj,aj,aj,aj,aj,aj,aj,aj,aj,aj,aj,aj,aj,.bool false,.bool false,aj,aj,aj,aj,aj,aj,aj,aj,aj,aj,aj,aj,aj,aj,aj,aj]⟩:=rfl
theorem c8:tbl 67=some ⟨.slice 3,1,24,[.slice none 0 0]⟩:=rfl
theorem Cj:tbl 71=some ⟨.slice 78,1,24,[.slice none 0 0]⟩:=rfl
theorem zU:tbl 73=some ⟨.struct [(0,43),(36,22)],37,160,[.bool false,.bool false,aj,aj,aj,aj,aj,aj,aj,aj,aj,aj,aj,aj,aj,aj,aj,aj,.bool false,.bool false,aj,aj,aj,aj,aj,aj,aj,aj,aj,aj,aj,aj,aj,aj,aj,aj,.slice none 0 0]⟩:=rfl
theorem tb_75:tbl 75=some ⟨.struct [(0,71),(1,73),(38,3),(39,3),(40,3)],41,208,[.slice none 0 0,.bool false,.bool false,aj,aj,aj,aj,aj,aj,aj,aj,aj,aj,aj,aj,aj,aj,aj,aj,.bool false,.bool false,aj,aj,aj,aj,aj,aj,aj,aj,aj,aj,aj,aj,aj,aj,aj,aj,.slice none 0 0,.int .i64 (0),.int .i64 (0),.int .i64 (0)]⟩:=rfl
theorem tQ:tbl 78=some ⟨.struct [(0,73),(37,3)],38,168,[.bool false,.bool false,aj,aj,aj,aj,aj,aj,aj,aj,aj,aj,aj,aj,aj,aj,aj,aj,.bool false,.bool false,aj,aj,aj,aj,aj,aj,aj,aj,aj,aj,aj,aj,aj,aj,aj,aj,.slice none 0 0,.int .i64 (0)]⟩:=rfl
theorem tb_145:tbl 145=some ⟨.int .u64,1,8,[.int .u64 (0)]⟩:=rfl
theorem tb_147:tbl 147=some ⟨.int .u64,1,8,[.int .u64 (0)]⟩:=rfl
theorem HV:tbl 149=some ⟨.arr 32 38,32,128,[aj,aj,aj,aj,aj,aj,aj,aj,aj,aj,aj,aj,aj,aj,aj,aj,aj,aj,aj,aj,aj,aj,aj,aj,aj,aj,aj,aj,aj,aj,aj,aj]⟩:=rfl
theorem Rt:tbl 151=some ⟨.slice 38,1,24,[.slice none 0 0]⟩:=rfl
theorem yP:tbl 160=some ⟨.other,1,8,[.pointer none]⟩:=rfl
theorem Bb:tbl 161=some ⟨.slice 160,1,24,[.slice none 0 0]⟩:=rfl
theorem qz:tbl 179=some ⟨.slice 41,1,24,[.slice none 0 0]⟩:=rfl
theorem DI:tbl 191=some ⟨.arr 17 38,17,68,[aj,aj,aj,aj,aj,aj,aj,aj,aj,aj,aj,aj,aj,aj,aj,aj,aj]⟩:=rfl
class TB (t:TypeId) (i:outParam TyE):Prop where
 h:tbl t=some i
theorem tbI {t:TypeId}{i:TyE}[h:TB t i]:tbl t=some i:=h.h
@[reducible,instance] def itb_3:=TB.mk dZ
@[reducible,instance] def itb_4:=TB.mk uE
@[reducible,instance] def itb_5:=TB.mk tb_5
@[reducible,instance] def itb_9:=TB.mk tb_9
@[reducible,instance] def itb_22:=TB.mk bZ
@[reducible,instance] def itb_24:=TB.mk wB
@[reducible,instance] def itb_26:=TB.mk rE
@[reducible,instance] def itb_29:=TB.mk oX
@[reducible,instance] def itb_38:=TB.mk bQ
@[reducible,instance] def itb_39:=TB.mk cY
@[reducible,instance] def itb_41:=TB.mk ff
@[reducible,instance] def itb_43:=TB.mk aO
@[reducible,instance] def itb_67:=TB.mk c8
@[reducible,instance] def itb_71:=TB.mk Cj
@[reducible,instance] def itb_73:=TB.mk zU
@[reducible,instance] def itb_75:=TB.mk tb_75
@[reducible,instance] def itb_78:=TB.mk tQ
@[reducible,instance] def itb_145:=TB.mk tb_145
@[reducible,instance] def itb_147:=TB.mk tb_147
@[reducible,instance] def itb_149:=TB.mk HV
@[reducible,instance] def itb_151:=TB.mk Rt
@[reducible,instance] def itb_160:=TB.mk yP
@[reducible,instance] def itb_161:=TB.mk Bb
@[reducible,instance] def itb_179:=TB.mk qz
@[reducible,instance] def itb_191:=TB.mk DI
def U5(P:Program):List (Nat×TyE)→Prop
 |[]=>True
 |(t,i)::l=>((P.underlying t).map Ty.of=some i.ty∧(P.info? t).map (fun f=>(f.size,f.bytes,f.zero.map fun v=>(v.cells.toList,v.isAggV)))=some (i.size,i.bytes,some (i.zero,i.ty.agg))∧i.zero.length=i.size∧i.zero.all Value.oneCell'=true)∧U5 P l
theorem U5.get {P:Program}:∀{l:List (Nat×TyE)} {t:Nat} {i:TyE},U5 P l→l.lookup t=some i→(P.underlying t).map Ty.of=some i.ty∧(P.info? t).map (fun f=>(f.size,f.bytes,f.zero.map fun v=>(v.cells.toList,v.isAggV)))=some (i.size,i.bytes,some (i.zero,i.ty.agg))∧i.zero.length=i.size∧i.zero.all Value.oneCell'=true
 |[],t,i,_,h=>by simp at h
 |(s,j)::l,t,i,h,hl=>by
  by_cases rl:t=s
  ·subst rl
   have:some j=some i:=by rw[←hl];exact aa.symm
   injection this with this
   subst this
   exact h.1
  ·exact U5.get h.2 (by rw[←hl];exact (ao rl).symm)
theorem tokL:U5 prog tblL:=by
 iterate 25 refine⟨⟨by kernel_rfl,by kernel_rfl,by kernel_rfl,by kernel_rfl⟩,?_⟩
 exact trivial
theorem tok:TOk prog tbl:=fun _ _ h=>tokL.get h
theorem tP:prog.underlying 4=some .bool:=by kernel_rfl
section
section
variable {md:Md} {ops:Array Oper} {K:List (Nat×D)→Hp→Prop} {os:List Oper} {tm:List (Nat×D)} {hp hp':Hp} {t s:Tmp} {op:Op} {ty:TypeId} {pos:String} {af:Array Edge} {d d2:D} {j:Nat} {want c:Bool}
theorem s1(h:AVC prog tbl md.dr op ty (evD tm) hp (Kq d hp'))(h2:aX prog tbl md ops K os ((t,d)::tm) hp')(hn:md.nc tbl op=true:=by exact rfl):aX prog tbl md ops K (⟨some t,op,ty,pos,af,none⟩::os) tm hp:=st tok hn h h2
theorem s0(h:AVC prog tbl md.dr op ty (evD tm) hp (Kq d hp'))(h2:aX prog tbl md ops K os tm hp')(hn:md.nc tbl op=true:=by exact rfl):aX prog tbl md ops K (⟨none,op,ty,pos,af,none⟩::os) tm hp:=st_n tok hn h h2
theorem s2(h:AVC prog tbl md.dr op ty (evD tm) hp (Kq d hp'))(hl:d.le d2)(h2:aX prog tbl md ops K os ((t,d2)::tm) hp')(hn:md.nc tbl op=true:=by exact rfl):aX prog tbl md ops K (⟨some t,op,ty,pos,af,none⟩::os) tm hp:=st_le tok hn h hl h2
theorem g1(hw:c=want)(h:AVC prog tbl md.dr op ty (evD tm) hp (Kq d hp'))(h2:aX prog tbl md ops K os ((t,d)::tm) hp')(hj:(ops[j]?).bind (·.dst)=some s:=by exact rfl)(hc:tm.lookup s=some (.e (.lit (.bool c))):=by exact rfl)(hn:md.nc tbl op=true:=by exact rfl):aX prog tbl md ops K (⟨some t,op,ty,pos,af,some (j,want)⟩::os) tm hp:=Qu tok hn hj hc hw h h2
theorem q1(h:mO prog tbl md ⟨some t,op,ty,pos,af,none⟩ (evD tm) hp d hp')(h2:aX prog tbl md ops K os ((t,d)::tm) hp'):aX prog tbl md ops K (⟨some t,op,ty,pos,af,none⟩::os) tm hp:=PN rfl h h2
theorem fzO {α:Type}(c:Cd α){l:List α}{vs vs2:List (Nat×List D)}{lv:List (Nat×Nat×Nat×TypeId)}{N n:Nat}(k:Nat)(ts:List Nat)(hn:n=l.length)(h2:aX prog tbl .seq ops K os (ts.map (fun t=>(t,.e (slE c l)))++tm) ⟨vs2,lv,N⟩)(ht:∀t∈ts,tm.lookup t=some (.ow k 0 c.sz n))(hv:vs.lookup k=some (dC ((cW c).f l)):=by exact rfl)(hz:Nat.ble 1 c.sz=true:=by exact rfl)(Ks:(vs.filter fun p=>!([k]:List Nat).contains p.1)=vs2:=by exact rfl):aX prog tbl .seq ops K os tm ⟨vs,lv,N⟩:=by
 subst Ks
 exact .wk rfl (WkS.frzG c ts hn ht hv hz) h2
theorem fzA {x:Cx}{Q:Exit→List (Nat×D)→Hp→Prop}{cd:Code}{α:Type}(c:Cd α){l:List α}{vs vs2:List (Nat×List D)}{lv:List (Nat×Nat×Nat×TypeId)}{N n:Nat}(k:Nat)(ts:List Nat)(hn:n=l.length)(h2:AW prog x cd (ts.map (fun t=>(t,.e (slE c l)))++tm) ⟨vs2,lv,N⟩ Q)(ht:∀t∈ts,tm.lookup t=some (.ow k 0 c.sz n))(hv:vs.lookup k=some (dC ((cW c).f l)):=by exact rfl)(hz:Nat.ble 1 c.sz=true:=by exact rfl)(Ks:(vs.filter fun p=>!([k]:List Nat).contains p.1)=vs2:=by exact rfl):AW prog x cd tm ⟨vs,lv,N⟩ Q:=by
 subst Ks
 exact AW.weak (fun _ _ hr=>(WkS.frzG c ts hn ht hv hz).rs hr) h2
theorem all1 {p:Nat→Prop}{a:Nat}(h:p a):∀t∈[a],p t:=by simpa using h
theorem all2 {p:Nat→Prop}{a:Nat}{l:List Nat}(h:p a)(hl:∀t∈l,p t):∀t∈a::l,p t:=by simpa using⟨h,hl⟩
variable {x:Cx} {Q:Exit→List (Nat×D)→Hp→Prop}
theorem rg {n id:Nat}{l:List Oper}(hx:x.N=n)(hN:mr n l.toArray=true)(h:∀K:List (Nat×D)→Hp→Prop,(∀tm hp,Q .normal tm hp→K tm hp)→aX prog tbl .seq l.toArray K l tm hp):AW prog x (.region id l.toArray false) tm hp Q:=AW.regS tbl (by rw[hx];exact hN) h
theorem rd {n id:Nat}{l:List Oper}(L:List FuncId)(hx:x.N=n)(hN:mr n l.toArray=true)(rU:Ab tbl L l.toArray=true)(h:∀K:List (Nat×D)→Hp→Prop,(∀tm hp,Q .normal tm hp→K tm hp)→aX prog tbl (.any L) l.toArray K l tm hp):AW prog x (.region id l.toArray true) tm hp Q:=AW.drwS tbl L (by kernel_rfl) (by rw[hx];exact hN) rU h
theorem dw {id:Nat}{l:List Oper}(h:DW prog x l [] tm hp Q):AW prog x (.region id l.toArray true) tm hp Q:=AW.dw (by kernel_rfl) h
theorem dwg {n:Nat}{l:List Oper}{C:List (Nat×Nat)}(L:List FuncId)(p:List Nat)(hx:x.N=n)(jC:Om p l=true)(hN:mr n (eh p C l).toArray=true)(rU:Ab tbl L (eh p C l).toArray=true)(h:∀K:List (Nat×D)→Hp→Prop,(∀tm hp,Q .normal tm hp→K tm hp)→aX prog tbl (.any L) (eh p C l).toArray K (eh p C l) tm hp):DW prog x l C tm hp Q:=DW.go p jC (by rw[hx];exact hN) rU h
def PE(x:Cx){S:Type}(e:Exit)(T:S→List (Nat×D))(H:S→Hp)(y:S)(ex:Exit)(tm:List (Nat×D))(hp:Hp):Prop:=ex=e∧Wk x tm hp (T y) (H y)
def PR(rs:List ResultVar){R:Type}(dR:R→D)(y:R)(ex:Exit)(tm:List (Nat×D))(hp:Hp):Prop:=ex=.ret∧n9 tbl rs tm hp (dR y)
def PS {A B:Type}(p:A→Exit→List (Nat×D)→Hp→Prop)(q:B→Exit→List (Nat×D)→Hp→Prop)(y:A⊕B)(ex:Exit)(tm:List (Nat×D))(hp:Hp):Prop:=match y with| .inl a=>p a ex tm hp| .inr b=>q b ex tm hp
theorem PS.l {A B:Type}{p:A→Exit→List (Nat×D)→Hp→Prop}{q:B→Exit→List (Nat×D)→Hp→Prop}{a:A}{ex:Exit}(h:p a ex tm hp):PS p q (.inl a) ex tm hp:=h
theorem PS.r {A B:Type}{p:A→Exit→List (Nat×D)→Hp→Prop}{q:B→Exit→List (Nat×D)→Hp→Prop}{b:B}{ex:Exit}(h:q b ex tm hp):PS p q (.inr b) ex tm hp:=h
theorem PE.i {S:Type}{e:Exit}{T:S→List (Nat×D)}{H:S→Hp}{y:S}(hw:Wk x tm hp (T y) (H y)):PE x e T H y e tm hp:=⟨rfl,hw⟩
theorem PR.i {rs:List ResultVar}{R:Type}{dR:R→D}{y:R}(hw:n9 tbl rs tm hp (dR y)):PR rs dR y .ret tm hp:=⟨rfl,hw⟩
theorem jn {c:Code}{Q':Exit→List (Nat×D)→Hp→Prop}(Q:Exit→List (Nat×D)→Hp→Prop)(h:AW prog x c tm hp Q)(hq:∀ex tm hp,Q ex tm hp→Q' ex tm hp):AW prog x c tm hp Q':=AW.mono h hq
theorem lp {c:Code}{S X:Type}{b:S→Option (S⊕X)}{Q:Exit→List (Nat×D)→Hp→Prop}{s:S}{e:X}(T:S→List (Nat×D))(H:S→Hp)(QX:X→Exit→List (Nat×D)→Hp→Prop)(h:bo b s=some e)(hw:Wk x tm hp (T s) (H s))
  (round:∀s y,b s=some y→AW prog x c (T s) (H s) (PS (PE x .normal T H) (fun e ex tm hp=>ex≠.normal∧QX e ex tm hp) y)) (hq:∀ex tm hp,QX e ex tm hp→Q ex tm hp):AW prog x (.loop c) tm hp Q:=
 AW.mono (AW.loopO T H QX (fun s y hy=>AW.mono (round s y hy) fun ex tm' hp' h=>by cases y <;> exact h) h hw) hq
end
end
section
section
variable {md:Md} {ops:Array Oper} {K:List (Nat×D)→Hp→Prop} {os:List Oper} {tm:List (Nat×D)} {hp hp':Hp} {t s:Tmp} {op:Op} {ty:TypeId} {pos:String} {af:Array Edge} {d d2:D} {j:Nat} {want c:Bool}
variable {dr:Bool} {ev:List (Nat×D)}
theorem Vy {k:IntKind}{n:Int}:AVC prog tbl dr (.assign (.const (.int k n))) ty (evD ev) hp (Kq (dI k n) hp):=Ls
theorem NW {b:Bool}:AVC prog tbl dr (.assign (.const (.bool b))) ty (evD ev) hp (Kq (dB b) hp):=Ls
theorem Vc {k:IntKind}{n:Int}:AVC prog tbl dr (.move (.const (.int k n))) ty (evD ev) hp (Kq (dI k n) hp):=Fp
theorem Vh {s tt:TypeId}{x:Operand}{i j:TyE}{f o k off:Nat}{fs:List (Nat×TypeId)}{ev:Operand→D}(hs:tbl s=some i:=by exact tbI)(hi:i.ty=.struct fs:=by exact rfl)(hf:fs[f]? =some (o,tt):=by exact rfl)(hx:ev x=.pt k off:=by exact rfl)(ht:tbl tt=some j:=by exact tbI)(hz:Nat.ble 1 j.size=true:=by exact rfl):AVC prog tbl dr (.fieldAddr s x f) ty ev hp (Kq (.pt k (off+o)) hp):=T_faP hs ht hi hf hz hx
theorem Vi {s tt:TypeId}{x:Operand}{i j:TyE}{f o off:Nat}{xs:List E}{fs:List (Nat×TypeId)}{ev:Operand→D}(hs:tbl s=some i:=by exact tbI)(hi:i.ty=.struct fs:=by exact rfl)(hf:fs[f]? =some (o,tt):=by exact rfl)(hx:ev x=.fp xs off:=by exact rfl)(ht:tbl tt=some j:=by exact tbI)(hz:Nat.ble 1 j.size=true:=by exact rfl):AVC prog tbl dr (.fieldAddr s x f) ty ev hp (Kq (.fp xs (off+o)) hp):=T_faF hs ht hi hf hz hx
theorem Vg {t e:TypeId}{x:Operand}{i j:TyE}{n:Nat}{xs:List E}{ev:Operand→D}(ht:tbl t=some i:=by exact tbI)(hi:i.ty=.slice e:=by exact rfl)(he:tbl e=some j:=by exact tbI)(hx:(ev x).asSl j.size=some (n,xs):=by exact rfl):AVC prog tbl dr (.call ⟨.builtin .len,#[x],#[t]⟩) ty ev hp (Kq (dI .i64 n) hp):=UW ht he hi hx
theorem Vf {t e:TypeId}{x:Operand}{i j:TyE}{k off z n:Nat}{ev:Operand→D}(ht:tbl t=some i:=by exact tbI)(hi:i.ty=.slice e:=by exact rfl)(he:tbl e=some j:=by exact tbI)(hx:ev x=.ow k off z n:=by exact rfl):AVC prog tbl dr (.call ⟨.builtin .len,#[x],#[t]⟩) ty ev hp (Kq (dI .i64 n) hp):=Ce ht he hi hx
theorem K_shl {t t':TypeId}{x y:Operand}{k k':IntKind}{a b:Int}{ev:Operand→D}(hx:ev x=dI k a:=by exact rfl)(hy:ev y=dI k' b:=by exact rfl)(hb:0≤b:=by decide):AVC prog tbl dr (.binOp .shl t x y t') ty ev hp (Kq (dI k (yY k a b)) hp):=UQ hb hx hy
theorem K_shr {t t':TypeId}{x y:Operand}{k k':IntKind}{a b:Int}{ev:Operand→D}(hx:ev x=dI k a:=by exact rfl)(hy:ev y=dI k' b:=by exact rfl)(hb:0≤b:=by decide):AVC prog tbl dr (.binOp .shr t x y t') ty ev hp (Kq (dI k (me k a b)) hp):=UP hb hx hy
theorem K_quo {t t':TypeId}{x y:Operand}{k:IntKind}{a b:Int}{ev:Operand→D}(hx:ev x=dI k a:=by exact rfl)(hy:ev y=dI k b:=by exact rfl)(hb:b≠0:=by decide):AVC prog tbl dr (.binOp .quo t x y t') ty ev hp (Kq (dI k (k.wrap (a.tdiv b))) hp):=HA hb hx hy
theorem K_rem {t t':TypeId}{x y:Operand}{k:IntKind}{a b:Int}{ev:Operand→D}(hx:ev x=dI k a:=by exact rfl)(hy:ev y=dI k b:=by exact rfl)(hb:b≠0:=by decide):AVC prog tbl dr (.binOp .rem t x y t') ty ev hp (Kq (dI k (a.tmod b)) hp):=Fo hb hx hy
theorem sa(h2:aX prog tbl md ops K os ((t,d)::tm) hp')(h:AVC prog tbl md.dr op ty (evD tm) hp (Kq d hp'):=by (first|exact T_mv|exact kE|exact Vy|exact NW|exact A_str|exact Vc|exact M_bool|exact M_str|exact Ls|exact Fp|exact UR|exact NI|exact NJ|exact UZ|exact U4|exact UO|exact UT|exact U0|exact US|exact UU|exact UV|exact UX|exact UY|exact T_seql|exact T_sneq|exact NL tP|exact NK tP|exact T_and|exact T_or|exact T_xor|exact T_neg|exact K_shl|exact K_shr|exact K_quo|exact K_rem|exact Vh|exact Vi|exact U1 tbI tbI|exact T_cvS tbI tbI|exact Vg|exact T_lenS tbI|exact T_lenA tbI|exact Vf|exact T_min|exact T_max|exact U2))(hn:md.nc tbl op=true:=by exact rfl):aX prog tbl md ops K (⟨some t,op,ty,pos,af,none⟩::os) tm hp:=st tok hn h h2
theorem ga(hw:c=want)(h2:aX prog tbl md ops K os ((t,d)::tm) hp')(hj:(ops[j]?).bind (·.dst)=some s:=by exact rfl)(hc:tm.lookup s=some (.e (.lit (.bool c))):=by exact rfl)(h:AVC prog tbl md.dr op ty (evD tm) hp (Kq d hp'):=by (first|exact T_mv|exact kE|exact Vy|exact NW|exact A_str|exact Vc|exact M_bool|exact M_str|exact Ls|exact Fp|exact UR|exact NI|exact NJ|exact UZ|exact U4|exact UO|exact UT|exact U0|exact US|exact UU|exact UV|exact UX|exact UY|exact T_seql|exact T_sneq|exact NL tP|exact NK tP|exact Vh|exact Vi|exact U1 tbI tbI|exact Vg|exact T_lenS tbI))(hn:md.nc tbl op=true:=by exact rfl):aX prog tbl md ops K (⟨some t,op,ty,pos,af,some (j,want)⟩::os) tm hp:=Qu tok hn hj hc hw h h2
theorem pn {ev:Operand→D}:((([]:List Operand).map ev).map D.ex).all D.pure=true:=rfl
theorem pA {ev:Operand→D}{a:Operand}{la:List Operand}(h:(ev a).ex.pure=true)(hl:((la.map ev).map D.ex).all D.pure=true):(((a::la).map ev).map D.ex).all D.pure=true:=by
 rw[jK,jK,iJ,h,hl];rfl
theorem lC {ev:Operand→D}{a:Operand}{la:List Operand}{d':D}{ds':List D}(h:(ev a).ex.le d')(hl:leL ((la.map ev).map D.ex) ds'):leL (((a::la).map ev).map D.ex) (d'::ds'):=⟨h,hl⟩
theorem cq {f:FuncId}{la:List Operand}{ts:Array TypeId}{ds:List D}{r:D}(hc:ar prog f ds r)(h2:aX prog tbl md ops K os ((t,r)::tm) hp)(jC:((la.map (evD tm)).map D.ex).all D.pure=true:=by repeat (first|exact pn|refine pA (db _ _) ?_|refine pA rfl ?_))(hl:leL ((la.map (evD tm)).map D.ex) ds:=by repeat (first|exact lAn|refine lC (pm _ _) ?_|refine lC (ax _) ?_))(hr:r.pure=true∨∃ds,r=.tu ds:=by (first|exact .inl (iR _ _)|exact .inl rfl|exact .inr ⟨_,rfl⟩)):
  aX prog tbl md ops K (⟨some t,.call ⟨.value (.func f),la.toArray,ts⟩,ty,pos,af,none⟩::os) tm hp:=sq tok hc jC hl hr h2
theorem sc {x:Operand}{f:FuncId}{la:List Operand}{ts:Array TypeId}{ds:List D}{r:D}(hc:ar prog f ds r)(h2:aX prog tbl md ops K os ((t,r)::tm) hp)(Aq:evD tm x=.e (.lit (.func (.func f) #[] #[])):=by exact rfl)(jC:((la.map (evD tm)).map D.ex).all D.pure=true:=by repeat (first|exact pn|refine pA (db _ _) ?_|refine pA rfl ?_))(hl:leL ((la.map (evD tm)).map D.ex) ds:=by repeat (first|exact lAn|refine lC (pm _ _) ?_|refine lC (ax _) ?_))(hr:r.pure=true∨∃ds,r=.tu ds:=by (first|exact .inl (iR _ _)|exact .inl rfl|exact .inr ⟨_,rfl⟩))(hn:md.nc tbl (.call ⟨.value x,la.toArray,ts⟩)=true:=by exact rfl):
  aX prog tbl md ops K (⟨some t,.call ⟨.value x,la.toArray,ts⟩,ty,pos,af,none⟩::os) tm hp:=st tok hn (xj Aq hc jC hl hr) h2
variable {x:Cx} {Q:Exit→List (Nat×D)→Hp→Prop}
theorem rq {n id:Nat}{l:List Oper}(hx:x.N=n)(h:∀K:List (Nat×D)→Hp→Prop,(∀tm hp,Q .normal tm hp→K tm hp)→aX prog tbl .seq l.toArray K l tm hp)(hN:mr n l.toArray=true:=by kernel_rfl):AW prog x (.region id l.toArray false) tm hp Q:=rg hx hN h
theorem rqd {n id:Nat}{l:List Oper}(L:List FuncId)(hx:x.N=n)(h:∀K:List (Nat×D)→Hp→Prop,(∀tm hp,Q .normal tm hp→K tm hp)→aX prog tbl (.any L) l.toArray K l tm hp)(hN:mr n l.toArray=true:=by kernel_rfl)(rU:Ab tbl L l.toArray=true:=by kernel_rfl):AW prog x (.region id l.toArray true) tm hp Q:=rd L hx hN rU h
theorem rv1 {q:ResultVar}{r:D}(h:n9 tbl [q] tm hp r:=by (first|exact n9.mk1 (H2 rfl (.inr (.inr ⟨_,(ax _),rfl,rfl⟩)))|exact n9.mk1 (H3 rfl tbI rfl rfl (ltb rfl) (Cd.h _ _) (.inr (.inr ⟨_,(ax _),iR _ _,rfl⟩))))):n9 tbl [q] tm hp r:=h
theorem rv2 {q q':ResultVar}{r:D}(h:n9 tbl [q,q'] tm hp r:=by (first|exact n9.mk2 (H2 rfl (H2 rfl (.inr ⟨_,_,(ax _),(ax _),⟨rfl,rfl⟩,rfl⟩)))|exact n9.mk2 (H3 rfl tbI rfl rfl (ltb rfl) (Cd.h _ _) (H2 rfl (.inr ⟨_,_,(ax _),(ax _),⟨iR _ _,rfl⟩,rfl⟩)))|exact n9.mk2 (H3 rfl tbI rfl rfl (ltb rfl) (Cd.h _ _) (H3 rfl tbI rfl rfl (ltb rfl) (Cd.h _ _) (.inr ⟨_,_,(ax _),(ax _),⟨iR _ _,iR _ _⟩,rfl⟩))))):n9 tbl [q,q'] tm hp r:=h
theorem pe0 {S:Type}{e:Exit}{T:S→List (Nat×D)}{H:S→Hp}{y:S}{vars':List (Nat×List D)}{iz:List (Nat×Nat×Nat×TypeId)}{m:Nat}{tm':List (Nat×D)}(h0:x.hp0=⟨[],[],0⟩)(os:List Nat)(hT:T y=tm':=by exact rfl)(hH:H y=⟨vars',iz,m⟩:=by exact rfl)(ht:wkT (sg 0 os) m tm tm':=by repeat (first|exact wTn|refine wR rfl ?_|refine wG rfl (ax _) ?_))(hv:wkV (sg 0 os) m hp.vars vars':=by repeat (first|exact wVn|refine vC rfl ?_|refine vR rfl ?_))(hl:wkL (sg 0 os) m hp.live iz:=by repeat (first|exact wLn|refine wL rfl rfl ?_))(Ap:os.Nodup:=by decide)(hm:m=0+os.length:=by exact rfl):PE x e T H y e tm hp:=PE.i (by rw[hT,hH];exact wk h0 os ht hv hl Ap hm)
theorem rs {n id:Nat}{l:List Oper}{b:Code}(hx:x.N=n)(h:∀K:List (Nat×D)→Hp→Prop,(∀tm hp,AW prog x b tm hp Q→K tm hp)→aX prog tbl .seq l.toArray K l tm hp)(hN:mr n l.toArray=true:=by kernel_rfl):AW prog x (.seq (.region id l.toArray false) b) tm hp Q:=AW.seq (rg hx hN fun K hK=>h K hK)
theorem rsd {n id:Nat}{l:List Oper}{b:Code}(L:List FuncId)(hx:x.N=n)(h:∀K:List (Nat×D)→Hp→Prop,(∀tm hp,AW prog x b tm hp Q→K tm hp)→aX prog tbl (.any L) l.toArray K l tm hp)(hN:mr n l.toArray=true:=by kernel_rfl)(rU:Ab tbl L l.toArray=true:=by kernel_rfl):AW prog x (.seq (.region id l.toArray true) b) tm hp Q:=AW.seq (rd L hx hN rU fun K hK=>h K hK)
theorem ra {n id:Nat}{l:List Oper}{b:Code}{tm':List (Nat×D)}(hx:x.N=n)(h2:AW prog x b tm' hp' Q)(h:∀K:List (Nat×D)→Hp→Prop,K tm' hp'→aX prog tbl .seq l.toArray K l tm hp:=by (intro K hK;(repeat (refine sa ?_));exact .nil hK))(hN:mr n l.toArray=true:=by kernel_rfl):AW prog x (.seq (.region id l.toArray false) b) tm hp Q:=rs hx (fun K hK=>h K (hK _ _ h2)) hN
theorem rb {n id:Nat}{l:List Oper}{tm':List (Nat×D)}(hx:x.N=n)(h2:Q .normal tm' hp')(h:∀K:List (Nat×D)→Hp→Prop,K tm' hp'→aX prog tbl .seq l.toArray K l tm hp:=by (intro K hK;(repeat (refine sa ?_));exact .nil hK))(hN:mr n l.toArray=true:=by kernel_rfl):AW prog x (.region id l.toArray false) tm hp Q:=rq hx (fun K hK=>h K (hK _ _ h2)) hN
theorem cdh {R:Type}{y z:Option R}{r:R}{c:Operand}{c1 c2:Code}{b:Bool}(h:cnd b y z=some r)(hc:evD tm c=.e (.lit (.bool b)))(ht:b=true→y=some r→AW prog x c1 tm hp Q)(hf:b=false→z=some r→AW prog x c2 tm hp Q):AW prog x (.cond c c1 c2) tm hp Q:=AW.condS hc (fun hb=>ht hb (cnd_t hb h)) fun hb=>hf hb (cnd_f hb h)
theorem scb {R S:Type}{g:Option S}{k:S→Option R}{z:R}{x:Operand}{f:FuncId}{la:List Operand}{ts:Array TypeId}{ds:List D}{dr:S→D}(h:bnd g k=some z)(w:∀{y:S},g=some y→ar prog f ds (dr y))(h2:∀y,k y=some z→aX prog tbl md ops K os ((t,dr y)::tm) hp)(Aq:evD tm x=.e (.lit (.func (.func f) #[] #[])):=by exact rfl)(jC:((la.map (evD tm)).map D.ex).all D.pure=true:=by repeat (first|exact pn|refine pA (db _ _) ?_|refine pA rfl ?_))(hl:leL ((la.map (evD tm)).map D.ex) ds:=by repeat (first|exact lAn|refine lC (pm _ _) ?_|refine lC (ax _) ?_))(hr:∀y,(dr y).pure=true∨∃ds,dr y=.tu ds:=by (intro y;first|exact .inl (iR _ _)|exact .inl rfl|exact .inr ⟨_,rfl⟩))(hn:md.nc tbl (.call ⟨.value x,la.toArray,ts⟩)=true:=by exact rfl):
  aX prog tbl md ops K (⟨some t,.call ⟨.value x,la.toArray,ts⟩,ty,pos,af,none⟩::os) tm hp:=by
 obtain⟨y,h3,h4⟩:=ae h
 exact st tok hn (xj Aq (w h3) jC hl (hr y)) (h2 y h4)
theorem cqb {R S:Type}{g:Option S}{k:S→Option R}{z:R}{f:FuncId}{la:List Operand}{ts:Array TypeId}{ds:List D}{dr:S→D}(h:bnd g k=some z)(w:∀{y:S},g=some y→ar prog f ds (dr y))(h2:∀y,k y=some z→aX prog tbl md ops K os ((t,dr y)::tm) hp)(jC:((la.map (evD tm)).map D.ex).all D.pure=true:=by repeat (first|exact pn|refine pA (db _ _) ?_|refine pA rfl ?_))(hl:leL ((la.map (evD tm)).map D.ex) ds:=by repeat (first|exact lAn|refine lC (pm _ _) ?_|refine lC (ax _) ?_))(hr:∀y,(dr y).pure=true∨∃ds,dr y=.tu ds:=by (intro y;first|exact .inl (iR _ _)|exact .inl rfl|exact .inr ⟨_,rfl⟩)):
  aX prog tbl md ops K (⟨some t,.call ⟨.value (.func f),la.toArray,ts⟩,ty,pos,af,none⟩::os) tm hp:=by
 obtain⟨y,h3,h4⟩:=ae h
 exact sq tok (w h3) jC hl (hr y) (h2 y h4)
theorem bn {f : FuncId} {fn : Func} {c : Code} {ds : List D} {r : D} {rs : List ResultVar} {tm0 : List (Nat × D)} (h : ∀ x : Cx, x.N = fn.ntmps → x.hp0 = ⟨[], [], 0⟩ → AW prog x c tm0 ⟨[], [], 0⟩ fun ex tm hp => match ex with | .normal | .ret => n9 tbl rs tm hp r | _ => False) (hf : prog.funcs[f]? = some fn) (hb : fn.body = some c := by exact rfl) (Ei : (fn.name == "runtime.NumGoroutine") = false := by exact rfl) (hN : Nat.ble ds.length fn.ntmps = true := by exact rfl) (FM : fn.results.toList = rs := by exact rfl) (nC : fG 0 ds = tm0 := by (simp only [fG, Nat.reduceAdd, bt]; rfl)) : ar prog f ds r := ar.of tok hf hb Ei (bi hN) FM (by rw [nC]; exact h)
end
end
section
variable {md:Md} {ops:Array Oper} {K:List (Nat×D)→Hp→Prop} {os:List Oper} {tm:List (Nat×D)} {hp hp':Hp} {t s:Tmp} {op:Op} {ty:TypeId} {pos:String} {af:Array Edge} {d d2:D} {j:Nat} {want c:Bool}
variable {dr:Bool} {ev:Operand→D}
theorem KT_T {cn x y:Operand}{b:Bool}(hc:ev cn=dB b:=by exact rfl)(h:ev x=d:=by exact rfl)(hb:b=true:=by (with_reducible first|rfl|assumption)):AVC prog tbl dr (.pick cn x y) ty ev hp (Kq d hp):=oO hb hc h
theorem KT_F {cn x y:Operand}{b:Bool}(hc:ev cn=dB b:=by exact rfl)(h:ev y=d:=by exact rfl)(hb:b=false:=by (with_reducible first|rfl|assumption)):AVC prog tbl dr (.pick cn x y) ty ev hp (Kq d hp):=lY hb hc h
theorem KT_S {x y:Operand}{t e:TypeId}{i j:TyE}{n:Nat}{xs:List E}{k:IntKind}{v:Int}(ht:tbl t=some i:=by exact tbI)(hi:i.ty=.slice e:=by exact rfl)(he:tbl e=some j:=by exact tbI)(hx:(ev x).asSl j.size=some (n,xs):=by exact rfl)(hy:ev y=dI k v:=by exact rfl)(hb:0≤v∧v<(n:Int):=by assumption):AVC prog tbl dr (.indexAddr t x y) ty ev hp (Kq (.fp xs (v.toNat*j.size)) hp):=Pm hb ht he hi hx hy
theorem KT_A {x y:Operand}{t e:TypeId}{i j:TyE}{n m off:Nat}{k:IntKind}{v:Int}(ht:tbl t=some i:=by exact tbI)(hi:i.ty=.arr n e:=by exact rfl)(he:tbl e=some j:=by exact tbI)(hx:ev x=.pt m off:=by exact rfl)(hy:ev y=dI k v:=by exact rfl)(hb:0≤v∧v<(n:Int):=by (first|assumption|decide)):AVC prog tbl dr (.indexAddr t x y) ty ev hp (Kq (.pt m (off+v.toNat*j.size)) hp):=vU hb ht he hi hx hy
theorem Ke(h2:aX prog tbl md ops K os ((t,.tu [])::tm) hp)(hj:(ops[j]?).bind (·.dst)=some s:=by exact rfl)(hc:tm.lookup s=some (.e (.lit (.bool c))):=by exact rfl)(hw:c= !want:=by (first|(show _=false;with_reducible first|rfl|assumption)|(show _=true;with_reducible first|rfl|assumption))):aX prog tbl md ops K (⟨some t,op,ty,pos,af,some (j,want)⟩::os) tm hp:=Mj hj hc hw h2
theorem KV_i {α:Type}{x:Operand}{c1:Cd α}{k N:Nat}{b:α}{vs:List (Nat×List D)}{lv:List (Nat×Nat×Nat×TypeId)}{t:TypeId}{i:TyE}(hx:ev x=.pt k 0:=by exact rfl)(hv:vs.lookup k=some (dC (c1.f b)):=by exact rfl)(ht:tbl t=some i:=by exact tbI)(hg:i.ty.agg=true:=by exact rfl)(hz:c1.sz=i.size:=by exact rfl)(hk:Nat.ble (k+1) N=true:=by exact rfl):AVC prog tbl dr (.load t x) ty ev ⟨vs,lv,N⟩ (Kq (dG c1 b) ⟨vs,lv,N⟩):=AP (bV.id _ _) ht hg hz hx hv hk
theorem KV_s {α:Type}{x y:Operand}{c1:Cd α}{k N:Nat}{b b':α}{vs:List (Nat×List D)}{lv:List (Nat×Nat×Nat×TypeId)}{t:TypeId}{i:TyE}(hx:ev x=.pt k 0:=by exact rfl)(hv:vs.lookup k=some (dC (c1.f b)):=by exact rfl)(ht:tbl t=some i:=by exact tbI)(hz:c1.sz=i.size:=by exact rfl)(hy:(ev y).cells=some (dC (c1.f b')):=by exact rfl):AVC prog tbl dr (.store t x y) ty ev ⟨vs,lv,N⟩ (Kq .top ⟨(k,dC (c1.f b'))::vs,lv,N⟩):=yC (bV.id _ _) ht hy hz hx hv
theorem KV_l {α:Type}[Inhabited α]{x:Operand}{F:List E}{c1:Cd α}{m o n k N off:Nat}{b:Vector α m}{F':Vector α m→List E}{vs:List (Nat×List D)}{lv:List (Nat×Nat×Nat×TypeId)}{t:TypeId}{i:TyE}{e:E}(L:bV F (cA m c1) o b F')(ht:tbl t=some i:=by exact tbI)(hg:i.ty.agg=false:=by exact rfl)(hx:ev x=.pt k off:=by exact rfl)(hv:vs.lookup k=some (dC F):=by exact rfl)(ho:off=o+n*c1.sz:=by exact rfl)(he:c1.f b[n]! =[e]:=by exact rfl)(hk:Nat.ble (k+1) N=true:=by exact rfl)(hn:n<m:=by (first|assumption|omega)):AVC prog tbl dr (.load t x) ty ev ⟨vs,lv,N⟩ (Kq (.e e) ⟨vs,lv,N⟩):=xf (bV.comp L (bV.vec c1 b n hn) (fun _=>rfl)) ht he hg (ho▸hx) hv hk
theorem nl {R:List (Nat×D)→Hp→Prop}(hK:∀tm hp,R tm hp→K tm hp)(h2:R tm hp):aX prog tbl md ops K [] tm hp:=.nil (hK _ _ h2)
theorem gcl {x:Operand}{f:FuncId}{la:List Operand}{ts:Array TypeId}{ds:List D}{r:D}(hc:ar prog f ds r)(h2:aX prog tbl md ops K os ((t,r)::tm) hp)(Aq:evD tm x=.e (.lit (.func (.func f) #[] #[])):=by exact rfl)(jC:((la.map (evD tm)).map D.ex).all D.pure=true:=by repeat (first|exact pn|refine pA (db _ _) ?_|refine pA rfl ?_))(hl:leL ((la.map (evD tm)).map D.ex) ds:=by repeat (first|exact lAn|refine lC (pm _ _) ?_|refine lC (ax _) ?_))(hr:r.pure=true∨∃ds,r=.tu ds:=by (first|exact .inl (iR _ _)|exact .inl rfl|exact .inr ⟨_,rfl⟩))(hj:(ops[j]?).bind (·.dst)=some s:=by exact rfl)(hg:tm.lookup s=some (.e (.lit (.bool c))):=by exact rfl)(hw:c=want:=by (with_reducible first|rfl|assumption))(hn:md.nc tbl (.call ⟨.value x,la.toArray,ts⟩)=true:=by exact rfl):aX prog tbl md ops K (⟨some t,.call ⟨.value x,la.toArray,ts⟩,ty,pos,af,some (j,want)⟩::os) tm hp:=Qu tok hn hj hg hw (xj Aq hc jC hl hr) h2
theorem gcb {R S:Type}{g:Option S}{k:S→Option R}{z:R}{x:Operand}{f:FuncId}{la:List Operand}{ts:Array TypeId}{ds:List D}{dr:S→D}(h:bnd g k=some z)(w:∀{y:S},g=some y→ar prog f ds (dr y))(h2:∀y,k y=some z→aX prog tbl md ops K os ((t,dr y)::tm) hp)(Aq:evD tm x=.e (.lit (.func (.func f) #[] #[])):=by exact rfl)(jC:((la.map (evD tm)).map D.ex).all D.pure=true:=by repeat (first|exact pn|refine pA (db _ _) ?_|refine pA rfl ?_))(hl:leL ((la.map (evD tm)).map D.ex) ds:=by repeat (first|exact lAn|refine lC (pm _ _) ?_|refine lC (ax _) ?_))(hr:∀y,(dr y).pure=true∨∃ds,dr y=.tu ds:=by (intro y;first|exact .inl (iR _ _)|exact .inl rfl|exact .inr ⟨_,rfl⟩))(hj:(ops[j]?).bind (·.dst)=some s:=by exact rfl)(hg:tm.lookup s=some (.e (.lit (.bool c))):=by exact rfl)(hw:c=want:=by (with_reducible first|rfl|assumption))(hn:md.nc tbl (.call ⟨.value x,la.toArray,ts⟩)=true:=by exact rfl):aX prog tbl md ops K (⟨some t,.call ⟨.value x,la.toArray,ts⟩,ty,pos,af,some (j,want)⟩::os) tm hp:=by
 obtain⟨y,h3,h4⟩:=ae h
 exact Qu tok hn hj hg hw (xj Aq (w h3) jC hl (hr y)) (h2 y h4)
end
section
variable {x:Cx} {tm:List (Nat×D)} {hp hp':Hp} {Q:Exit→List (Nat×D)→Hp→Prop}
theorem aF {R:Type}{b:Bool}{y z:Option R}{r:R}(h:cnd b y z=some r):(b=true∧y=some r)∨(b=false∧z=some r):=by cases b <;> simpa[cnd] using h
theorem wk0 {tm':List (Nat×D)}{vars':List (Nat×List D)}{iz:List (Nat×Nat×Nat×TypeId)}{m:Nat}(h0:x.hp0=⟨[],[],0⟩)(os:List Nat)(ht:wkT (sg 0 os) m tm tm':=by repeat (first|exact wTn|refine wR rfl ?_))(hv:wkV (sg 0 os) m hp.vars vars':=by repeat (first|exact wVn|refine vC rfl ?_|refine vR rfl ?_))(hl:wkL (sg 0 os) m hp.live iz:=by repeat (first|exact wLn|refine wL rfl rfl ?_))(Ap:os.Nodup:=by decide)(hm:m=0+os.length:=by exact rfl):Wk x tm hp tm' ⟨vars',iz,m⟩:=wk h0 os ht hv hl Ap hm
theorem pe1 {S:Type}{e:Exit}{T:S→List (Nat×D)}{H:S→Hp}{a:S}{vars':List (Nat×List D)}{iz:List (Nat×Nat×Nat×TypeId)}{m:Nat}{tm':List (Nat×D)}{y:S}(h:some a=some y)(h0:x.hp0=⟨[],[],0⟩)(os:List Nat)(hT:T a=tm':=by exact rfl)(hH:H a=⟨vars',iz,m⟩:=by exact rfl)(ht:wkT (sg 0 os) m tm tm':=by repeat (first|exact wTn|refine wR rfl ?_|refine wG rfl (ax _) ?_))(hv:wkV (sg 0 os) m hp.vars vars':=by repeat (first|exact wVn|refine vC rfl ?_|refine vR rfl ?_))(hl:wkL (sg 0 os) m hp.live iz:=by repeat (first|exact wLn|refine wL rfl rfl ?_))(Ap:os.Nodup:=by decide)(hm:m=0+os.length:=by exact rfl):PE x e T H y e tm hp:=by cases h;exact pe0 h0 os hT hH ht hv hl Ap hm
theorem pel {S:Type}{e:Exit}{T:S→List (Nat×D)}{H:S→Hp}{a:S}{vars':List (Nat×List D)}{iz:List (Nat×Nat×Nat×TypeId)}{m:Nat}{tm':List (Nat×D)}{B:Type}{q:B→Exit→List (Nat×D)→Hp→Prop}{y:S⊕B}(h:some (.inl a)=some y)(h0:x.hp0=⟨[],[],0⟩)(os:List Nat)(hT:T a=tm':=by exact rfl)(hH:H a=⟨vars',iz,m⟩:=by exact rfl)(ht:wkT (sg 0 os) m tm tm':=by repeat (first|exact wTn|refine wR rfl ?_|refine wG rfl (ax _) ?_))(hv:wkV (sg 0 os) m hp.vars vars':=by repeat (first|exact wVn|refine vC rfl ?_|refine vR rfl ?_))(hl:wkL (sg 0 os) m hp.live iz:=by repeat (first|exact wLn|refine wL rfl rfl ?_))(Ap:os.Nodup:=by decide)(hm:m=0+os.length:=by exact rfl):PS (PE x e T H) q y e tm hp:=by cases h;exact pe0 h0 os hT hH ht hv hl Ap hm
theorem per {S:Type}{T:S→List (Nat×D)}{H:S→Hp}{a:S}{vars':List (Nat×List D)}{iz:List (Nat×Nat×Nat×TypeId)}{m:Nat}{tm':List (Nat×D)}{A:Type}{p:A→Exit→List (Nat×D)→Hp→Prop}{y:A⊕S}{id:Nat}(h:some (.inr a)=some y)(h0:x.hp0=⟨[],[],0⟩)(os:List Nat)(hT:T a=tm':=by exact rfl)(hH:H a=⟨vars',iz,m⟩:=by exact rfl)(ht:wkT (sg 0 os) m tm tm':=by repeat (first|exact wTn|refine wR rfl ?_|refine wG rfl (ax _) ?_))(hv:wkV (sg 0 os) m hp.vars vars':=by repeat (first|exact wVn|refine vC rfl ?_|refine vR rfl ?_))(hl:wkL (sg 0 os) m hp.live iz:=by repeat (first|exact wLn|refine wL rfl rfl ?_))(Ap:os.Nodup:=by decide)(hm:m=0+os.length:=by exact rfl):PS p (fun z ex tm hp=>ex≠Exit.normal∧PE x (.exit id) T H z ex tm hp) y (.exit id) tm hp:=by cases h;exact⟨by nofun,pe0 h0 os hT hH ht hv hl Ap hm⟩
theorem peq {S:Type}{T:S→List (Nat×D)}{H:S→Hp}{a:S}{vars':List (Nat×List D)}{iz:List (Nat×Nat×Nat×TypeId)}{m:Nat}{tm':List (Nat×D)}{A B:Type}{p:A→Exit→List (Nat×D)→Hp→Prop}{q:B→Exit→List (Nat×D)→Hp→Prop}{y:A⊕(B⊕S)}{id:Nat}(h:some (.inr (.inr a))=some y)(h0:x.hp0=⟨[],[],0⟩)(os:List Nat)(hT:T a=tm':=by exact rfl)(hH:H a=⟨vars',iz,m⟩:=by exact rfl)(ht:wkT (sg 0 os) m tm tm':=by repeat (first|exact wTn|refine wR rfl ?_|refine wG rfl (ax _) ?_))(hv:wkV (sg 0 os) m hp.vars vars':=by repeat (first|exact wVn|refine vC rfl ?_|refine vR rfl ?_))(hl:wkL (sg 0 os) m hp.live iz:=by repeat (first|exact wLn|refine wL rfl rfl ?_))(Ap:os.Nodup:=by decide)(hm:m=0+os.length:=by exact rfl):PS p (fun z ex tm hp=>ex≠Exit.normal∧PS q (PE x (.exit id) T H) z ex tm hp) y (.exit id) tm hp:=by cases h;exact⟨by nofun,pe0 h0 os hT hH ht hv hl Ap hm⟩
theorem lw0 {S:Type}{e:Exit}{T:S→List (Nat×D)}{H:S→Hp}{y:S}{c:Code}{Q0:Exit→List (Nat×D)→Hp→Prop}(h2:AW prog x c (T y) (H y) Q)(hQ:∀tm hp,AW prog x c tm hp Q→Q0 e tm hp:=by (intro _ _ hq;(try dsimp only);(try simp only[vg,reduceIte,Nat.reduceEqDiff,reduceCtorEq]);exact hq)):∀ex tm hp,PE x e T H y ex tm hp→Q0 ex tm hp:=by
 rintro ex tm hp ⟨rfl,hw⟩
 exact hQ _ _ (AW.weak hw h2)
theorem rtv {R:Type}{a r:R}{q:ResultVar}{f:R→D}(h:some a=some r)(hq:n9 tbl [q] tm hp (f a):=by exact rv1):n9 tbl [q] tm hp (f r):=by cases h;exact hq
theorem lwr {S:Type}{e:Exit}{T:S→List (Nat×D)}{H:S→Hp}{y:S}{A:Type}{p:A→Exit→List (Nat×D)→Hp→Prop}{c:Code}{Q0:Exit→List (Nat×D)→Hp→Prop}(h2:AW prog x c (T y) (H y) Q)(hQ:∀tm hp,AW prog x c tm hp Q→Q0 e tm hp:=by (intro _ _ hq;(try dsimp only);(try simp only[vg,reduceIte,Nat.reduceEqDiff,reduceCtorEq]);exact hq)):∀ex tm hp,PS p (PE x e T H) (.inr y) ex tm hp→Q0 ex tm hp:=lw0 h2 hQ
end
structure ap where
 vBad:Bool
 vNeg:Bool
 vW:Vector Int 16
 deriving Inhabited,DecidableEq
abbrev ci:ap:=⟨false,false,eo⟩
def aq:Cd ap:=⟨18,fun x=>[.lit (.bool x.vBad),.lit (.bool x.vNeg)]++(cA 16 (cI .u32)).f x.vW,fun x=>by simp[(cA 16 (cI .u32)).h,show (cA 16 (cI .u32)).sz=16 from rfl]⟩
theorem sV(x:ap):bV (aq.f x) cB 0 x.vBad (fun y=>aq.f (⟨y,x.vNeg,x.vW⟩:ap)):=
 bV.of ([]) ((cB).f x.vNeg++((cA 16 (cI .u32))).f x.vW) (by first|rfl|(simp[(cA 16 (cI .u32)).h,cB.h];first|rfl|done)) (by first|rfl|simp[aq,cI,cB,cS,cL,da]) (fun y=>by first|rfl|simp[aq,cI,cB,cS,cL,da])
theorem nR(x:ap):bV (aq.f x) cB 1 x.vNeg (fun y=>aq.f (⟨x.vBad,y,x.vW⟩:ap)):=
 bV.of ((cB).f x.vBad) (((cA 16 (cI .u32))).f x.vW) (by first|rfl|(simp[(cA 16 (cI .u32)).h,cB.h];first|rfl|done)) (by first|rfl|simp[aq,cI,cB,cS,cL,da]) (fun y=>by first|rfl|simp[aq,cI,cB,cS,cL,da])
theorem nQ(x:ap):bV (aq.f x) (cA 16 (cI .u32)) 2 x.vW (fun y=>aq.f (⟨x.vBad,x.vNeg,y⟩:ap)):=
 bV.of ((cB).f x.vBad++(cB).f x.vNeg) ([]) (by first|rfl|(simp[(cA 16 (cI .u32)).h,cB.h];first|rfl|done)) (by first|rfl|simp[aq,cI,cB,cS,cL,da]) (fun y=>by first|rfl|simp[aq,cI,cB,cS,cL,da])
section
variable {md:Md} {ops:Array Oper} {K:List (Nat×D)→Hp→Prop} {os:List Oper} {tm:List (Nat×D)} {hp hp':Hp} {t s:Tmp} {op:Op} {ty:TypeId} {pos:String} {af:Array Edge} {d d2:D} {j:Nat} {want c:Bool}
variable {dr:Bool} {ev:Operand→D}
theorem av(h:AVC prog tbl dr op ty ev hp (Kq d hp'):=by (first|exact T_mv|exact kE|exact Vy|exact NW|exact A_str|exact Vc|exact M_bool|exact M_str|exact Ls|exact Fp|exact UR|exact NI|exact NJ|exact UZ|exact U4|exact UO|exact UT|exact U0|exact US|exact UU|exact UV|exact UX|exact UY|exact T_seql|exact T_sneq|exact NL tP|exact NK tP|exact T_and|exact T_or|exact T_xor|exact T_neg|exact K_shl|exact K_shr|exact K_quo|exact K_rem|exact Vh|exact Vi|exact U1 tbI tbI|exact T_cvS tbI tbI|exact Vg|exact T_lenS tbI|exact T_lenA tbI|exact Vf|exact T_min|exact T_max|exact U2|exact KT_T|exact KT_F|exact KT_A|exact KT_S|exact KV_i)):AVC prog tbl dr op ty ev hp (Kq d hp'):=h
theorem avi(h:AVC prog tbl dr op ty ev hp (Kq d hp'):=by (first|exact av|exact KV_l (bV.id _ _)|exact yE (F:=(cA 16 (cI .u32)).f (eo)) cY|exact xf (nR _) tbI|exact xf (sV _) tbI|exact AP (nQ _) tbI|exact KV_l (nQ _)|exact yE (F:=aq.f (⟨false,false,(eo)⟩:ap)) ff|exact T_ldC tbI|exact T_ldA tbI)):AVC prog tbl dr op ty ev hp (Kq d hp'):=h
theorem sbi(h2:aX prog tbl md ops K os ((t,d)::tm) hp')(h:AVC prog tbl md.dr op ty (evD tm) hp (Kq d hp'):=by exact avi)(hn:md.nc tbl op=true:=by exact rfl):aX prog tbl md ops K (⟨some t,op,ty,pos,af,none⟩::os) tm hp:=st tok hn h h2
theorem tzi(h2:aX prog tbl md ops K os tm hp')(h:AVC prog tbl md.dr op ty (evD tm) hp (Kq .top hp'):=by (first|exact KV_s))(hn:md.nc tbl op=true:=by exact rfl):aX prog tbl md ops K (⟨none,op,ty,pos,af,none⟩::os) tm hp:=st_n tok hn h h2
theorem gbi(h2:aX prog tbl md ops K os ((t,d)::tm) hp')(hj:(ops[j]?).bind (·.dst)=some s:=by exact rfl)(hc:tm.lookup s=some (.e (.lit (.bool c))):=by exact rfl)(hw:c=want:=by (with_reducible first|rfl|assumption))(h:AVC prog tbl md.dr op ty (evD tm) hp (Kq d hp'):=by exact avi)(hn:md.nc tbl op=true:=by exact rfl):aX prog tbl md ops K (⟨some t,op,ty,pos,af,some (j,want)⟩::os) tm hp:=Qu tok hn hj hc hw h h2
theorem mbi {os':List Oper}{tm':List (Nat×D)}(h2:aX prog tbl md ops K os' tm' hp')(h:aX prog tbl md ops K os' tm' hp'→aX prog tbl md ops K os tm hp:=by (intro h;(repeat (first|refine sbi ?_|refine tzi ?_|refine gbi ?_|refine Ke ?_));exact h)):aX prog tbl md ops K os tm hp:=h h2
theorem nbi {R:List (Nat×D)→Hp→Prop}{tm':List (Nat×D)}(hK:∀tm hp,R tm hp→K tm hp)(h2:R tm' hp')(h:K tm' hp'→aX prog tbl md ops K os tm hp:=by (intro h;(repeat (first|refine sbi ?_|refine tzi ?_|refine gbi ?_|refine Ke ?_));exact .nil h)):aX prog tbl md ops K os tm hp:=h (hK _ _ h2)
end
section
variable {x:Cx} {tm:List (Nat×D)} {hp hp':Hp} {Q:Exit→List (Nat×D)→Hp→Prop}
theorem rai {n id:Nat}{l:List Oper}{b:Code}{tm':List (Nat×D)}(hx:x.N=n)(h2:AW prog x b tm' hp' Q)(h:∀K:List (Nat×D)→Hp→Prop,K tm' hp'→aX prog tbl .seq l.toArray K l tm hp:=by (intro K h;(repeat (first|refine sbi ?_|refine tzi ?_|refine gbi ?_|refine Ke ?_));exact .nil h))(hN:mr n l.toArray=true:=by kernel_rfl):AW prog x (.seq (.region id l.toArray false) b) tm hp Q:=rs hx (fun K hK=>h K (hK _ _ h2)) hN
theorem rbi {n id:Nat}{l:List Oper}{tm':List (Nat×D)}(hx:x.N=n)(h2:Q .normal tm' hp')(h:∀K:List (Nat×D)→Hp→Prop,K tm' hp'→aX prog tbl .seq l.toArray K l tm hp:=by (intro K h;(repeat (first|refine sbi ?_|refine tzi ?_|refine gbi ?_|refine Ke ?_));exact .nil h))(hN:mr n l.toArray=true:=by kernel_rfl):AW prog x (.region id l.toArray false) tm hp Q:=rq hx (fun K hK=>h K (hK _ _ h2)) hN
end
def lz(aZ:ap):Option Bool:=bnd (some (decide (aZ.vW=#v[(0:Int),0,0,0,0,0,0,0,0,0,0,0,0,0,0,0]))) fun x1=>cnd aZ.vBad (bnd (S:=Bool) (cnd x1 (some (!aZ.vNeg)) (some (false))) fun n0=>some n0) (bnd (S:=Bool) (cnd (!x1) (some (true)) (some (!aZ.vNeg))) fun eC=>some eC)
theorem xZ {aZ:ap}{r:Bool}(h:lz aZ=some r):ar prog 178 [dG aq aZ] (dB r):=by
 refine bn (rs:=[.tmp 2]) (fun cx hx h0=>?_) func178
 unfold lz at h
 refine ra hx ?_
 refine rs hx fun K hK=>?_
 iterate 2 refine sbi ?_
 refine s1 (d:=dG (cA 16 (cI .u32)) (#v[(0:Int),0,0,0,0,0,0,0,0,0,0,0,0,0,0,0])) (mw cY bQ) ?_
 refine s1 (Cf tok 2 (by decide) (EqC.arr (EqC.int (d:=0) bQ) cY bQ) cY) ?_
 obtain⟨x1,xx,h⟩:=ae h
 replace xx:=bw xx
 refine s2 (d2:=dB x1) kE (fq (congrArg dB xx)) ?_
 refine nl hK ?_
 refine AW.seq (rai hx ?_)
 refine cdh h rfl (fun fZ h=>?_) (fun fZ h=>?_)
 refine AW.seq ?_
 obtain⟨n0,hy,h⟩:=ae h
 refine jn ((PE cx .normal (fun n0=>[(2,dB n0)]) fun n0=>⟨[],[],0⟩) n0) ?_ ?_
 replace h:=hy
 refine rq hx fun K hK=>?_
 refine mbi ?_
 rcases aF h with⟨FU,h⟩|⟨FU,h⟩
 refine nbi hK ?_
 exact pe1 h h0 []
 refine nbi hK ?_
 exact pe1 h h0 []
 refine lw0 ?_
 exact AW.ret (rtv h)
 refine AW.skip (AW.seq ?_)
 obtain⟨eC,hy,h⟩:=ae h
 refine jn ((PE cx .normal (fun eC=>[(2,dB eC)]) fun eC=>⟨[],[],0⟩) eC) ?_ ?_
 replace h:=hy
 refine rq hx fun K hK=>?_
 refine mbi ?_
 rcases aF h with⟨rp,h⟩|⟨rp,h⟩
 refine nbi hK ?_
 exact pe1 h h0 []
 refine nbi hK ?_
 exact pe1 h h0 []
 refine lw0 ?_
 exact AW.ret (rtv h)
def eH :Option ap:=some (⟨true,false,(eo)⟩:ap)
theorem ib  {r:ap}(h:eH=some r):ar prog 121 [] (dG aq r):=by
 refine bn (rs:=[.cell 0 41]) (fun cx hx h0=>?_) func121
 unfold eH at h
 refine rai hx ?_
 refine rs hx fun K hK=>?_
 refine s1 (d:=dG aq (⟨true,false,(eo)⟩:ap)) (g8 (FL.cons (y:=true) (sV ci) rfl rfl (FL.nil _)) ff) ?_
 refine nbi hK ?_
 exact AW.ret (rtv h)
def nD(eA:List ap):Int→Option (Int⊕(Bool⊕Unit)):=fun aD=>cnd (decide (aD<((eA).length:Int))) (gd (0≤aD∧aD<((eA).length:Int)) (bnd (S:=Bool) (cnd (((eA)[(aD).toNat]!).vBad) (some (true)) (bnd (lz ((eA)[(aD).toNat]!)) fun x5=>some (!x5))) fun aU=>cnd aU (some (.inr (.inl false))) (some (.inl (i64.wrap (aD+(1:Int))))))) (some (.inr (.inr ())))
def cw(eA:List ap):Option Bool:=bnd (bo (nD eA) (0:Int)) fun y9=>match y9 with| .inl r=>some r| .inr ()=>some true
theorem fe {eA:List ap}{r:Bool}(h:cw eA=some r):ar prog 147 [dL aq eA] (dB r):=by
 refine bn (rs:=[.tmp 2]) (fun cx hx h0=>?_) func147
 unfold cw at h
 refine ra hx ?_
 refine AW.seq (ra hx ?_)
 refine AW.block ?_
 obtain⟨y,hy,h⟩:=ae h
 refine lp (S:=Int) (X:=Bool⊕Unit) (fun aD=>[(5,dL aq eA),(6,dI .i64 ((eA).length:Int)),(7,dI .i64 aD)]) (fun aD=>⟨[],[],0⟩) (PS (PR [.tmp 2] fun r=>dB r) (PE cx (.exit 0) (fun ()=>[]) fun ()=>⟨[],[],0⟩)) hy ?_ ?_ ?_
 exact wk0 h0 []
 clear hy h
 rintro aD y h
 dsimp only[nD] at h
 refine ra hx ?_
 refine AW.seq (cdh h rfl (fun f4 h=>?_) (fun f4 h=>?_))
 refine AW.skip (AW.seq (AW.block (rs hx fun K hK=>?_)))
 obtain⟨qU,h⟩:=aA h
 have xT:(aD).toNat<(eA).length:=by omega
 refine sbi ?_
 refine s1 (d:=dG aq ((eA)[(aD).toNat]!)) (jA (c:=aq) (l:=eA) (n:=(aD).toNat) (o:=0) ff xT (e8 _ _ rfl)) ?_
 refine nbi hK ?_
 refine AW.seq ?_
 obtain⟨aU,hy,h⟩:=ae h
 refine jn ((PE cx .normal (fun aU=>[(5,dL aq eA),(6,dI .i64 ((eA).length:Int)),(7,dI .i64 aD),(17,dB aU)]) fun aU=>⟨[],[],0⟩) aU) ?_ ?_
 replace h:=hy
 refine rq hx fun K hK=>?_
 refine mbi ?_
 rcases aF h with⟨FU,h⟩|⟨FU,h⟩
 refine nbi hK ?_
 exact pe1 h h0 []
 refine gbi ?_
 refine gcb h xZ fun x5 h=>?_
 refine nbi hK ?_
 exact pe1 h h0 []
 refine lw0 ?_
 refine cdh h rfl (fun t7 h=>?_) (fun t7 h=>?_)
 refine ra hx ?_
 refine AW.ret ?_
 cases h
 refine PS.r ⟨by nofun,PS.l (PR.i ?_)⟩
 exact rv1
 refine AW.skip (rb hx ?_)
 exact pel h h0 []
 exact AW.exit (peq h h0 [])
 rcases y with r|⟨⟩
 rintro ex tm' hp' ⟨rfl,hw⟩
 cases h
 exact hw
 refine lwr ?_
 refine ra hx ?_
 exact AW.ret (rtv h)
def bH(z9:Bool)(tr:Vector Int 16):Option ap:=bnd (S:=ap) (cnd z9 (bnd (some ((⟨false,decide (¬(tr=#v[(0:Int),0,0,0,0,0,0,0,0,0,0,0,0,0,0,0])),tr⟩:ap))) fun x2=>some (x2)) (some ((⟨false,false,tr⟩:ap)))) fun br=>some br
theorem dv {z9:Bool}{tr:Vector Int 16}{r:ap}(h:bH z9 tr=some r):ar prog 145 [dB z9,dG (cA 16 (cI .u32)) tr] (dG aq r):=by
 refine bn (rs:=[.cell 4 41]) (fun cx hx h0=>?_) func145
 unfold bH at h
 refine rai hx ?_
 refine AW.seq ?_
 obtain⟨br,hy,h⟩:=ae h
 refine jn ((PE cx .normal (fun br=>[(4,.pt 0 0)]) fun br=>⟨[(0,dC (aq.f br))],[],1⟩) br) ?_ ?_
 replace h:=hy
 refine rqd [] hx fun K hK=>?_
 refine mbi ?_
 rcases aF h with⟨f4,h⟩|⟨f4,h⟩
 refine gbi ?_
 refine g1 (d:=dG (cA 16 (cI .u32)) (#v[(0:Int),0,0,0,0,0,0,0,0,0,0,0,0,0,0,0])) f4 (mw cY bQ) ?_
 refine g1 f4 (xh tok 2 (by decide) (EqC.arr (EqC.int (d:=0) bQ) cY bQ) cY) ?_
 iterate 2 refine sbi ?_
 refine s1 (d:=dG aq (⟨false,decide (¬(tr=#v[(0:Int),0,0,0,0,0,0,0,0,0,0,0,0,0,0,0])),tr⟩:ap)) (g8 (FL.cons (y:=decide (¬(tr=#v[(0:Int),0,0,0,0,0,0,0,0,0,0,0,0,0,0,0]))) (nR ci) rfl rfl (FL.cons (y:=tr) (nQ (⟨false,decide (¬(tr=#v[(0:Int),0,0,0,0,0,0,0,0,0,0,0,0,0,0,0])),(eo)⟩:ap)) rfl rfl (FL.nil _))) ff) ?_
 obtain⟨x2,hx3,h⟩:=ae h
 replace hx3:=bw hx3
 refine s0 (nN (b':=(⟨false,decide (¬(tr=#v[(0:Int),0,0,0,0,0,0,0,0,0,0,0,0,0,0,0])),tr⟩:ap)) (bV.id _ _) ff hx3) ?_
 refine nl hK ?_
 exact pe1 h h0 [1]
 iterate 3 refine Mj rfl rfl f4 ?_
 iterate 2 refine sbi ?_
 refine s1 (d:=dG aq (⟨false,false,tr⟩:ap)) (g8 (FL.cons (y:=false) (nR ci) rfl rfl (FL.cons (y:=tr) (nQ ci) rfl rfl (FL.nil _))) ff) ?_
 refine nbi hK ?_
 exact pe1 h h0 [1]
 refine lw0 ?_
 exact AW.ret (rtv h)
def gW(cU:Int):Option ap:=bnd (S:=Int) (cnd (decide (cU<(0:Int))) (some (u64.wrap (0 - (u64.wrap (cU))))) (some (u64.wrap (cU)))) fun jx=>bnd (bH (decide (cU<(0:Int))) (#v[u32.wrap (jx),u32.wrap (me .u64 jx (32:Int)),0,0,0,0,0,0,0,0,0,0,0,0,0,0])) fun x3=>some x3
theorem rx {cU:Int}{r:ap}(h:gW cU=some r):ar prog 91 [dI .i64 cU] (dG aq r):=by
 refine bn (rs:=[.cell 2 41]) (fun cx hx h0=>?_) func91
 unfold gW at h
 refine rai hx ?_
 refine ra hx ?_
 refine AW.seq ?_
 obtain⟨jx,hy,h⟩:=ae h
 refine jn ((PE cx .normal (fun jx=>[(0,dI .i64 cU),(2,.pt 0 0),(3,dI .u64 jx)]) fun jx=>⟨[(0,dC (aq.f ci))],[],1⟩) jx) ?_ ?_
 replace h:=hy
 refine ra hx ?_
 refine cdh h rfl (fun f4 h=>?_) (fun f4 h=>?_)
 refine rb hx ?_
 exact pe1 h h0 [0]
 exact AW.skip (pe1 h h0 [0])
 refine lw0 ?_
 refine rs hx fun K hK=>?_
 iterate 7 refine sa ?_
 refine s1 (d:=dG (cA 16 (cI .u32)) (#v[u32.wrap (jx),u32.wrap (me .u64 jx (32:Int)),0,0,0,0,0,0,0,0,0,0,0,0,0,0])) (mw cY bQ) ?_
 refine scb h dv fun x3 h=>?_
 refine nbi hK ?_
 exact AW.ret (rtv h)
def lj(tr:Vector Int 16):Int→Option (Int⊕Int):=fun aD=>bnd (S:=Bool) (cnd (decide ((0:Int)<aD)) (gd (0≤i64.wrap (aD - (1:Int))∧i64.wrap (aD - (1:Int))<16) (some (decide (((tr)[(i64.wrap (aD - (1:Int))).toNat]!)=(0:Int))))) (some (false))) fun n0=>cnd n0 (some (.inl (i64.wrap (aD - (1:Int))))) (some (.inr aD))
def eO(tr:Vector Int 16):Option Int:=bnd (bo (lj tr) (16:Int)) fun oM=>some oM
theorem kL {tr:Vector Int 16}{r:Int}(h:eO tr=some r):ar prog 148 [dG (cA 16 (cI .u32)) tr] (dI .i64 r):=by
 refine bn (rs:=[.tmp 2]) (fun cx hx h0=>?_) func148
 unfold eO at h
 iterate 2 refine ra hx ?_
 refine AW.seq (AW.block ?_)
 obtain⟨oM,hy,h⟩:=ae h
 refine lp (S:=Int) (X:=Int) (fun aD=>[(1,.pt 0 0),(3,dI .i64 aD)]) (fun aD=>⟨[(0,dC ((cA 16 (cI .u32)).f tr))],[],1⟩) (PE cx (.exit 0) (fun oM=>[(3,dI .i64 oM)]) fun oM=>⟨[],[],0⟩) hy ?_ ?_ ?_
 exact wk0 h0 [0]
 clear hy h
 rintro aD y h
 dsimp only[lj] at h
 iterate 2 refine AW.seq ?_
 obtain⟨n0,hy,h⟩:=ae h
 refine jn ((PE cx .normal (fun n0=>[(1,.pt 0 0),(3,dI .i64 aD),(12,dB n0)]) fun n0=>⟨[(0,dC ((cA 16 (cI .u32)).f tr))],[],1⟩) n0) ?_ ?_
 replace h:=hy
 refine rq hx fun K hK=>?_
 refine mbi ?_
 rcases aF h with⟨f4,h⟩|⟨f4,h⟩
 iterate 2 refine ga f4 ?_
 obtain⟨qU,h⟩:=aA h
 refine nbi hK ?_
 exact pe1 h h0 [0]
 refine nbi hK ?_
 exact pe1 h h0 [0]
 refine lw0 ?_
 refine cdh h rfl (fun rW h=>?_) (fun rW h=>?_)
 refine AW.skip (AW.block (rb hx ?_))
 exact pel h h0 [0]
 exact AW.exit (per h h0 [])
 refine lw0 ?_
 refine ra hx ?_
 exact AW.ret (rtv h)
def mH(aZ:Int):Option Int:=bnd (S:=Int×Int) (cnd (decide ((65536:Int)≤aZ)) (some ((me .u32 aZ (16:Int),(16:Int)))) (some ((aZ,(0:Int))))) fun (br,Ji)=>bnd (S:=Int×Int) (cnd (decide ((256:Int)≤br)) (some ((me .u32 br (8:Int),i64.wrap (Ji+(8:Int))))) (some ((br,Ji)))) fun (o7,Fl)=>gd (0≤u8.wrap (o7)∧u8.wrap (o7)<((⟨#[0,1,2,2,3,3,3,3,4,4,4,4,4,4,4,4,5,5,5,5,5,5,5,5,5,5,5,5,5,5,5,5,6,6,6,6,6,6,6,6,6,6,6,6,6,6,6,6,6,6,6,6,6,6,6,6,6,6,6,6,6,6,6,6,7,7,7,7,7,7,7,7,7,7,7,7,7,7,7,7,7,7,7,7,7,7,7,7,7,7,7,7,7,7,7,7,7,7,7,7,7,7,7,7,7,7,7,7,7,7,7,7,7,7,7,7,7,7,7,7,7,7,7,7,7,7,7,7,8,8,8,8,8,8,8,8,8,8,8,8,8,8,8,8,8,8,8,8,8,8,8,8,8,8,8,8,8,8,8,8,8,8,8,8,8,8,8,8,8,8,8,8,8,8,8,8,8,8,8,8,8,8,8,8,8,8,8,8,8,8,8,8,8,8,8,8,8,8,8,8,8,8,8,8,8,8,8,8,8,8,8,8,8,8,8,8,8,8,8,8,8,8,8,8,8,8,8,8,8,8,8,8,8,8,8,8,8,8,8,8,8,8,8,8,8,8,8,8,8,8,8,8,8,8,8,8]⟩:ByteArray).size:Int)) (bnd (some (i64.wrap (Fl+(i64.wrap (sAt (⟨#[0,1,2,2,3,3,3,3,4,4,4,4,4,4,4,4,5,5,5,5,5,5,5,5,5,5,5,5,5,5,5,5,6,6,6,6,6,6,6,6,6,6,6,6,6,6,6,6,6,6,6,6,6,6,6,6,6,6,6,6,6,6,6,6,7,7,7,7,7,7,7,7,7,7,7,7,7,7,7,7,7,7,7,7,7,7,7,7,7,7,7,7,7,7,7,7,7,7,7,7,7,7,7,7,7,7,7,7,7,7,7,7,7,7,7,7,7,7,7,7,7,7,7,7,7,7,7,7,8,8,8,8,8,8,8,8,8,8,8,8,8,8,8,8,8,8,8,8,8,8,8,8,8,8,8,8,8,8,8,8,8,8,8,8,8,8,8,8,8,8,8,8,8,8,8,8,8,8,8,8,8,8,8,8,8,8,8,8,8,8,8,8,8,8,8,8,8,8,8,8,8,8,8,8,8,8,8,8,8,8,8,8,8,8,8,8,8,8,8,8,8,8,8,8,8,8,8,8,8,8,8,8,8,8,8,8,8,8,8,8,8,8,8,8,8,8,8,8,8,8,8,8,8,8,8,8]⟩:ByteArray) (u8.wrap (o7)).toNat))))) fun x6=>some x6)
theorem zR {aZ:Int}{r:Int}(h:mH aZ=some r):ar prog 197 [dI .u32 aZ] (dI .i64 r):=by
 refine bn (rs:=[.tmp 2]) (fun cx hx h0=>?_) func197
 unfold mH at h
 refine ra hx ?_
 refine AW.seq ?_
 obtain⟨y,hy,h⟩:=ae h
 refine jn ((PE cx .normal (fun (br,Ji)=>[(0,dI .u32 br),(2,dI .i64 Ji)]) fun (br,Ji)=>⟨[],[],0⟩) y) ?_ ?_
 replace h:=hy
 refine ra hx ?_
 refine cdh h rfl (fun f4 h=>?_) (fun f4 h=>?_)
 refine ra hx ?_
 refine rb hx ?_
 exact pe1 h h0 []
 exact AW.skip (pe1 h h0 [])
 obtain⟨br,Ji⟩:=y
 refine lw0 ?_
 refine AW.seq ?_
 obtain⟨y,hy,h⟩:=ae h
 refine jn ((PE cx .normal (fun (o7,Fl)=>[(0,dI .u32 o7),(2,dI .i64 Fl)]) fun (o7,Fl)=>⟨[],[],0⟩) y) ?_ ?_
 replace h:=hy
 refine ra hx ?_
 refine cdh h rfl (fun fZ h=>?_) (fun fZ h=>?_)
 refine ra hx ?_
 refine rb hx ?_
 exact pe1 h h0 []
 exact AW.skip (pe1 h h0 [])
 obtain⟨o7,Fl⟩:=y
 refine lw0 ?_
 refine rs hx fun K hK=>?_
 iterate 3 refine sa ?_
 obtain⟨hc5,h⟩:=aA h
 refine s1 (T_ixS hc5 tb_9) ?_
 iterate 2 refine sa ?_
 obtain⟨x6,v7,h⟩:=ae h
 replace v7:=bw v7
 refine s2 (d2:=dI .i64 x6) kE (fq (congrArg (dI .i64) v7)) ?_
 refine nl hK ?_
 exact AW.ret (rtv h)
def om(aZ:ap):Option Int:=bnd (eO aZ.vW) fun x1=>bnd (S:=Bool) (bnd (cw [aZ]) fun x3=>cnd (!x3) (some (true)) (some (decide (x1=(0:Int))))) fun aD=>cnd aD (some (0:Int)) (gd (0≤i64.wrap (x1 - (1:Int))∧i64.wrap (x1 - (1:Int))<16) (bnd (mH ((aZ.vW)[(i64.wrap (x1 - (1:Int))).toNat]!)) fun l5=>some (i64.wrap ((i64.wrap ((32:Int)*(i64.wrap (x1 - (1:Int)))))+l5))))
theorem HN {aZ:ap}{r:Int}(h:om aZ=some r):ar prog 196 [dG aq aZ] (dI .i64 r):=by
 refine bn (rs:=[.tmp 2]) (fun cx hx h0=>?_) func196
 unfold om at h
 refine ra hx ?_
 refine rs hx fun K hK=>?_
 refine mbi ?_
 refine scb h kL fun x1 h=>?_
 refine nbi hK ?_
 iterate 2 refine AW.seq ?_
 obtain⟨aD,hy,h⟩:=ae h
 refine jn ((PE cx .normal (fun aD=>[(1,.pt 0 0),(3,dI .i64 x1),(14,dB aD)]) fun aD=>⟨[(0,dC (aq.f aZ))],[],1⟩) aD) ?_ ?_
 replace h:=hy
 refine rq hx fun K hK=>?_
 refine sbi ?_
 refine s1 (lh ([aZ]:List ap) aq qz ff) ?_
 refine scb h fe fun x3 h=>?_
 refine mbi ?_
 rcases aF h with⟨rW,h⟩|⟨rW,h⟩
 refine nbi hK ?_
 exact pe1 h h0 [0]
 refine nbi hK ?_
 exact pe1 h h0 [0]
 refine lw0 ?_
 refine cdh h rfl (fun t8 h=>?_) (fun t8 h=>?_)
 refine ra hx ?_
 exact AW.ret (rtv h)
 refine AW.skip (rs hx fun K hK=>?_)
 iterate 6 refine sa ?_
 obtain⟨hc8,h⟩:=aA h
 refine mbi ?_
 refine scb h zR fun l5 h=>?_
 refine nbi hK ?_
 exact AW.ret (rtv h)
def lD(aZ:ap):Option (Int×Bool):=bnd (S:=Bool) (bnd (cw [aZ]) fun x1=>cnd (!x1) (some (true)) (bnd (om aZ) fun x4=>some (decide ((64:Int)<x4)))) fun dP=>cnd dP (some ((0:Int),false)) (bnd (some (ior .u64 (yY .u64 (u64.wrap ((aZ.vW)[((1:Int)).toNat]!)) (32:Int)) (u64.wrap ((aZ.vW)[((0:Int)).toNat]!)))) fun l5=>bnd (S:=Bool) (cnd aZ.vNeg (some (decide (l5≤(9223372036854775808:Int)))) (some (false))) fun uq=>cnd uq (some (i64.wrap (u64.wrap (0 - l5)),true)) (bnd (S:=Bool) (cnd (!aZ.vNeg) (some (decide (l5<(9223372036854775808:Int)))) (some (false))) fun im=>cnd im (some (i64.wrap (l5),true)) (some ((0:Int),false))))
theorem ya {aZ:ap}{r:Int×Bool}(h:lD aZ=some r):ar prog 180 [dG aq aZ] (.tu [dI .i64 r.1,dB r.2]):=by
 refine bn (rs:=[.tmp 2,.tmp 3]) (fun cx hx h0=>?_) func180
 unfold lD at h
 refine ra hx ?_
 iterate 2 refine AW.seq ?_
 obtain⟨dP,hy,h⟩:=ae h
 refine jn ((PE cx .normal (fun dP=>[(1,.pt 0 0),(13,dB dP)]) fun dP=>⟨[(0,dC (aq.f aZ))],[],1⟩) dP) ?_ ?_
 replace h:=hy
 refine rq hx fun K hK=>?_
 refine sbi ?_
 refine s1 (lh ([aZ]:List ap) aq qz ff) ?_
 refine scb h fe fun x1 h=>?_
 refine mbi ?_
 rcases aF h with⟨fZ,h⟩|⟨fZ,h⟩
 refine nbi hK ?_
 exact pe1 h h0 [0]
 refine gbi ?_
 refine gcb h HN fun x4 h=>?_
 refine nbi hK ?_
 exact pe1 h h0 [0]
 refine lw0 ?_
 refine cdh h rfl (fun t8 h=>?_) (fun t8 h=>?_)
 refine ra hx ?_
 refine AW.ret ?_
 cases h
 exact rv2
 refine AW.skip (rs hx fun K hK=>?_)
 refine sa ?_
 refine s1 (vU (by decide:0≤(1:Int)∧(1:Int)<((16:Nat):Int)) cY bQ) ?_
 iterate 4 refine sbi ?_
 refine s1 (vU (by decide:0≤(0:Int)∧(0:Int)<((16:Nat):Int)) cY bQ) ?_
 iterate 3 refine sbi ?_
 obtain⟨l5,Gt,h⟩:=ae h
 replace Gt:=bw Gt
 refine s2 (d2:=dI .u64 l5) kE (fq (congrArg (dI .u64) Gt)) ?_
 refine nl hK ?_
 refine AW.seq (AW.block (AW.seq ?_))
 obtain⟨uq,hy,h⟩:=ae h
 refine jn ((PE cx .normal (fun uq=>[(1,.pt 0 0),(4,dI .u64 l5),(24,dB uq)]) fun uq=>⟨[(0,dC (aq.f aZ))],[],1⟩) uq) ?_ ?_
 replace h:=hy
 refine rq hx fun K hK=>?_
 refine mbi ?_
 rcases aF h with⟨Eu,h⟩|⟨Eu,h⟩
 refine nbi hK ?_
 exact pe1 h h0 [0]
 refine nbi hK ?_
 exact pe1 h h0 [0]
 refine lw0 ?_
 refine cdh h rfl (fun uP h=>?_) (fun uP h=>?_)
 refine ra hx ?_
 refine AW.ret ?_
 cases h
 exact rv2
 refine AW.seq ?_
 obtain⟨im,hy,h⟩:=ae h
 refine jn ((PE cx .normal (fun im=>[(4,dI .u64 l5),(34,dB im)]) fun im=>⟨[],[],0⟩) im) ?_ ?_
 replace h:=hy
 refine rq hx fun K hK=>?_
 refine mbi ?_
 rcases aF h with⟨MQ,h⟩|⟨MQ,h⟩
 refine nbi hK ?_
 exact pe1 h h0 []
 refine nbi hK ?_
 exact pe1 h h0 []
 refine lw0 ?_
 refine cdh h rfl (fun Ix h=>?_) (fun Ix h=>?_)
 refine ra hx ?_
 refine AW.ret ?_
 cases h
 exact rv2
 refine AW.skip (ra hx ?_)
 refine AW.ret ?_
 cases h
 exact rv2
def fW(aZ:Int):Option Bool:=some (decide (aZ≠aZ))
theorem rC {aZ:Int}{r:Bool}(h:fW aZ=some r):ar prog 195 [dI .u32 aZ] (dB r):=by
 refine bn (rs:=[.tmp 2]) (fun cx hx h0=>?_) func195
 unfold fW at h
 iterate 2 refine ra hx ?_
 exact AW.ret (rtv h)
def gt(aZ:Int)(nO:Int):Option Int:=bnd (fW aZ) fun x1=>bnd (fW nO) fun x3=>cnd x1 (cnd x3 (some (0:Int)) (some (-1:Int))) (cnd x3 (some (1:Int)) (cnd (decide (aZ<nO)) (some (-1:Int)) (cnd (decide (nO<aZ)) (some (1:Int)) (some (0:Int)))))
theorem wy {aZ:Int}{nO:Int}{r:Int}(h:gt aZ nO=some r):ar prog 179 [dI .u32 aZ,dI .u32 nO] (dI .i64 r):=by
 refine bn (rs:=[.tmp 4]) (fun cx hx h0=>?_) func179
 unfold gt at h
 refine ra hx ?_
 refine rs hx fun K hK=>?_
 refine sa ?_
 refine scb h rC fun x1 h=>?_
 refine nbi hK ?_
 refine rs hx fun K hK=>?_
 refine sa ?_
 refine scb h rC fun x3 h=>?_
 refine nbi hK ?_
 refine AW.seq (ra hx ?_)
 refine cdh h rfl (fun rW h=>?_) (fun rW h=>?_)
 refine AW.seq (ra hx ?_)
 refine cdh h rfl (fun rp h=>?_) (fun rp h=>?_)
 refine ra hx ?_
 exact AW.ret (rtv h)
 refine AW.skip (ra hx ?_)
 exact AW.ret (rtv h)
 refine AW.skip (AW.seq (ra hx ?_))
 refine cdh h rfl (fun t8 h=>?_) (fun t8 h=>?_)
 refine ra hx ?_
 exact AW.ret (rtv h)
 refine AW.skip (AW.seq (ra hx ?_))
 refine cdh h rfl (fun t7 h=>?_) (fun t7 h=>?_)
 refine ra hx ?_
 exact AW.ret (rtv h)
 refine AW.skip (AW.seq (ra hx ?_))
 refine cdh h rfl (fun KD h=>?_) (fun KD h=>?_)
 refine ra hx ?_
 exact AW.ret (rtv h)
 refine AW.skip (ra hx ?_)
 exact AW.ret (rtv h)
def jY(aK:Vector Int 16)(aQ:Vector Int 16):Int→Option (Int⊕(Int⊕Unit)):=fun aD=>cnd (decide ((0:Int)≤aD)) (gd (0≤aD∧aD<16) (gd (0≤aD∧aD<16) (cnd (decide (((aK)[(aD).toNat]!)≠((aQ)[(aD).toNat]!))) (gd (0≤aD∧aD<16) (gd (0≤aD∧aD<16) (bnd (gt ((aK)[(aD).toNat]!) ((aQ)[(aD).toNat]!)) fun sL=>some (.inr (.inl sL))))) (some (.inl (i64.wrap (aD - (1:Int)))))))) (some (.inr (.inr ())))
def ic(aK:Vector Int 16)(aQ:Vector Int 16):Option Int:=bnd (bo (jY aK aQ) (15:Int)) fun y13=>match y13 with| .inl r=>some r| .inr ()=>some (0:Int)
theorem pJ {aK:Vector Int 16}{aQ:Vector Int 16}{r:Int}(h:ic aK aQ=some r):ar prog 149 [dG (cA 16 (cI .u32)) aK,dG (cA 16 (cI .u32)) aQ] (dI .i64 r):=by
 refine bn (rs:=[.tmp 4]) (fun cx hx h0=>?_) func149
 unfold ic at h
 refine ra hx ?_
 refine AW.seq (ra hx ?_)
 refine AW.block ?_
 obtain⟨y,hy,h⟩:=ae h
 refine lp (S:=Int) (X:=Int⊕Unit) (fun aD=>[(2,.pt 0 0),(3,.pt 1 0),(5,dI .i64 aD)]) (fun aD=>⟨[(0,dC ((cA 16 (cI .u32)).f aK)),(1,dC ((cA 16 (cI .u32)).f aQ))],[],2⟩) (PS (PR [.tmp 4] fun r=>dI .i64 r) (PE cx (.exit 0) (fun ()=>[]) fun ()=>⟨[],[],0⟩)) hy ?_ ?_ ?_
 exact wk0 h0 [0,1]
 clear hy h
 rintro aD y h
 dsimp only[jY] at h
 refine AW.seq (ra hx ?_)
 refine cdh h rfl (fun f4 h=>?_) (fun f4 h=>?_)
 refine AW.skip (AW.seq (AW.block (rsd [] hx fun K hK=>?_)))
 refine sa ?_
 obtain⟨qU,h⟩:=aA h
 iterate 3 refine sbi ?_
 obtain⟨OQ,h⟩:=aA h
 refine nbi hK ?_
 refine cdh h rfl (fun rp h=>?_) (fun rp h=>?_)
 refine rsd [179] hx fun K hK=>?_
 refine sa ?_
 obtain⟨hc7,h⟩:=aA h
 iterate 3 refine sbi ?_
 obtain⟨hc9,h⟩:=aA h
 refine mbi ?_
 refine cqb h wy fun sL h=>?_
 refine nbi hK ?_
 refine AW.ret ?_
 cases h
 refine PS.r ⟨by nofun,PS.l (PR.i ?_)⟩
 exact rv1
 refine AW.skip (rb hx ?_)
 exact pel h h0 [0,1]
 exact AW.exit (peq h h0 [])
 rcases y with r|⟨⟩
 rintro ex tm' hp' ⟨rfl,hw⟩
 cases h
 exact hw
 refine lwr ?_
 refine ra hx ?_
 exact AW.ret (rtv h)
def jX(aK:Vector Int 16)(aQ:Vector Int 16):Int×Int×(Vector Int 16)→Option ((Int×Int×(Vector Int 16))⊕(Int×(Vector Int 16))):=fun (dH,bP,ey)=>cnd (decide (bP<(16:Int))) (gd (0≤bP∧bP<16) (gd (0≤bP∧bP<16) (bnd (some (u64.wrap (dH+(u64.wrap ((u64.wrap ((aK)[(bP).toNat]!))+(u64.wrap ((aQ)[(bP).toNat]!))))))) fun x6=>gd (0≤bP∧bP<16) (some (.inl (me .u64 x6 (32:Int),i64.wrap (bP+(1:Int)),(ey).set! (bP).toNat (u32.wrap (x6)))))))) (some (.inr (dH,ey)))
def oh(aK:Vector Int 16)(aQ:Vector Int 16):Option ((Vector Int 16)×Bool):=bnd (bo (jX aK aQ) ((0:Int),(0:Int),(eo))) fun (cl,oN)=>some (oN,decide (cl=(0:Int)))
theorem HK {aK:Vector Int 16}{aQ:Vector Int 16}{r:(Vector Int 16)×Bool}(h:oh aK aQ=some r):ar prog 164 [dG (cA 16 (cI .u32)) aK,dG (cA 16 (cI .u32)) aQ] (.tu [dG (cA 16 (cI .u32)) r.1,dB r.2]):=by
 refine bn (rs:=[.cell 4 39,.tmp 5]) (fun cx hx h0=>?_) func164
 unfold oh at h
 refine rai hx ?_
 refine rai hx ?_
 refine ra hx ?_
 refine AW.seq (ra hx ?_)
 refine AW.block ?_
 obtain⟨y,hy,h⟩:=ae h
 refine lp (S:=Int×Int×(Vector Int 16)) (X:=Int×(Vector Int 16)) (fun (dH,bP,ey)=>[(2,.pt 0 0),(3,.pt 1 0),(4,.pt 2 0),(6,.pt 3 0),(7,dI .u64 dH),(9,dI .i64 bP)]) (fun (dH,bP,ey)=>⟨[(0,dC ((cA 16 (cI .u32)).f aK)),(1,dC ((cA 16 (cI .u32)).f aQ)),(2,dC ((cA 16 (cI .u32)).f (eo))),(3,dC ((cA 16 (cI .u32)).f ey))],[],4⟩) (PE cx (.exit 0) (fun (cl,oN)=>[(4,.pt 0 0),(6,.pt 1 0),(7,dI .u64 cl)]) fun (cl,oN)=>⟨[(0,dC ((cA 16 (cI .u32)).f (eo))),(1,dC ((cA 16 (cI .u32)).f oN))],[],2⟩) hy ?_ ?_ ?_
 exact wk0 h0 [0,1,2,3]
 clear hy h
 rintro⟨dH,bP,ey⟩ y h
 dsimp only[jX] at h
 refine ra hx ?_
 refine AW.seq (cdh h rfl (fun f4 h=>?_) (fun f4 h=>?_))
 refine AW.skip (AW.seq (AW.block (ra hx ?_)))
 refine rsd [] hx fun K hK=>?_
 iterate 2 refine sa ?_
 obtain⟨qU,h⟩:=aA h
 iterate 4 refine sbi ?_
 obtain⟨OQ,h⟩:=aA h
 iterate 5 refine sbi ?_
 obtain⟨x6,v7,h⟩:=ae h
 replace v7:=bw v7
 refine s2 (d2:=dI .u64 x6) kE (fq (congrArg (dI .u64) v7)) ?_
 refine nl hK ?_
 refine rs hx fun K hK=>?_
 iterate 3 refine sa ?_
 obtain⟨hc8,h⟩:=aA h
 have hn9:(bP).toNat<16:=by omega
 refine sbi ?_
 refine s0 (yC (b':=u32.wrap (x6)) (bV.comp (bV.id _ _) (bV.vec (cI .u32) ey (bP).toNat hn9) (fun _=>rfl)) bQ) ?_
 refine nl hK ?_
 iterate 2 refine rb hx ?_
 exact pel h h0 [0,1,2,3]
 exact AW.exit (per h h0 [2,3])
 obtain⟨cl,oN⟩:=y
 refine lw0 ?_
 refine rai hx ?_
 refine AW.ret ?_
 cases h
 exact rv2
def ji(aK:Vector Int 16)(aQ:Vector Int 16):Int×Int×(Vector Int 16)→Option ((Int×Int×(Vector Int 16))⊕((Vector Int 16))):=fun (dH,bP,ey)=>cnd (decide (bP<(16:Int))) (gd (0≤bP∧bP<16) (gd (0≤bP∧bP<16) (bnd (some (u64.wrap ((u64.wrap ((u64.wrap ((aK)[(bP).toNat]!)) - (u64.wrap ((aQ)[(bP).toNat]!)))) - dH))) fun x6=>gd (0≤bP∧bP<16) (some (.inl (me .u64 x6 (63:Int),i64.wrap (bP+(1:Int)),(ey).set! (bP).toNat (u32.wrap (x6)))))))) (some (.inr ey))
def ie(aK:Vector Int 16)(aQ:Vector Int 16):Option (Vector Int 16):=bnd (bo (ji aK aQ) ((0:Int),(0:Int),(eo))) fun cl=>some cl
theorem tj {aK:Vector Int 16}{aQ:Vector Int 16}{r:Vector Int 16}(h:ie aK aQ=some r):ar prog 165 [dG (cA 16 (cI .u32)) aK,dG (cA 16 (cI .u32)) aQ] (dG (cA 16 (cI .u32)) r):=by
 refine bn (rs:=[.cell 4 39]) (fun cx hx h0=>?_) func165
 unfold ie at h
 refine rai hx ?_
 refine rai hx ?_
 refine ra hx ?_
 refine AW.seq (ra hx ?_)
 refine AW.block ?_
 obtain⟨cl,hy,h⟩:=ae h
 refine lp (S:=Int×Int×(Vector Int 16)) (X:=(Vector Int 16)) (fun (dH,bP,ey)=>[(2,.pt 0 0),(3,.pt 1 0),(4,.pt 2 0),(5,.pt 3 0),(6,dI .u64 dH),(9,dI .i64 bP)]) (fun (dH,bP,ey)=>⟨[(0,dC ((cA 16 (cI .u32)).f aK)),(1,dC ((cA 16 (cI .u32)).f aQ)),(2,dC ((cA 16 (cI .u32)).f (eo))),(3,dC ((cA 16 (cI .u32)).f ey))],[],4⟩) (PE cx (.exit 0) (fun cl=>[(4,.pt 0 0),(5,.pt 1 0)]) fun cl=>⟨[(0,dC ((cA 16 (cI .u32)).f (eo))),(1,dC ((cA 16 (cI .u32)).f cl))],[],2⟩) hy ?_ ?_ ?_
 exact wk0 h0 [0,1,2,3]
 clear hy h
 rintro⟨dH,bP,ey⟩ y h
 dsimp only[ji] at h
 refine ra hx ?_
 refine AW.seq (cdh h rfl (fun f4 h=>?_) (fun f4 h=>?_))
 refine AW.skip (AW.seq (AW.block (ra hx ?_)))
 refine rsd [] hx fun K hK=>?_
 refine sa ?_
 obtain⟨qU,h⟩:=aA h
 iterate 4 refine sbi ?_
 obtain⟨OQ,h⟩:=aA h
 iterate 6 refine sbi ?_
 obtain⟨x6,v7,h⟩:=ae h
 replace v7:=bw v7
 refine s2 (d2:=dI .u64 x6) kE (fq (congrArg (dI .u64) v7)) ?_
 refine nl hK ?_
 refine rs hx fun K hK=>?_
 iterate 3 refine sa ?_
 obtain⟨hc8,h⟩:=aA h
 have hn9:(bP).toNat<16:=by omega
 refine sbi ?_
 refine s0 (yC (b':=u32.wrap (x6)) (bV.comp (bV.id _ _) (bV.vec (cI .u32) ey (bP).toNat hn9) (fun _=>rfl)) bQ) ?_
 refine nl hK ?_
 iterate 2 refine rb hx ?_
 exact pel h h0 [0,1,2,3]
 exact AW.exit (per h h0 [2,3])
 refine lw0 ?_
 refine rai hx ?_
 exact AW.ret (rtv h)
def jm(aK:ap)(aQ:ap):Option ap:=bnd (cw [aK,aQ]) fun x1=>cnd (!x1) (bnd (eH) fun x4=>some x4) (cnd (aK.vNeg == aQ.vNeg) (bnd (oh aK.vW aQ.vW) fun x7=>cnd (!x7.2) (bnd (eH) fun l5=>some l5) (bnd (bH aK.vNeg x7.1) fun m9=>some m9)) (bnd (ic aK.vW aQ.vW) fun pX=>cnd (decide ((0:Int)≤pX)) (bnd (ie aK.vW aQ.vW) fun pW=>bnd (bH aK.vNeg pW) fun tL=>some tL) (bnd (ie aQ.vW aK.vW) fun wh=>bnd (bH aQ.vNeg wh) fun xY=>some xY)))
theorem Ci {aK:ap}{aQ:ap}{r:ap}(h:jm aK aQ=some r):ar prog 123 [dG aq aK,dG aq aQ] (dG aq r):=by
 refine bn (rs:=[.cell 4 41]) (fun cx hx h0=>?_) func123
 unfold jm at h
 refine rai hx ?_
 refine AW.seq (rs hx fun K hK=>?_)
 iterate 2 refine sbi ?_
 refine s1 (lh ([aK,aQ]:List ap) aq qz ff) ?_
 refine scb h fe fun x1 h=>?_
 refine nbi hK ?_
 refine cdh h rfl (fun fZ h=>?_) (fun fZ h=>?_)
 refine rs hx fun K hK=>?_
 refine scb h ib fun x4 h=>?_
 refine nbi hK ?_
 exact AW.ret (rtv h)
 refine AW.skip (AW.seq (rai hx ?_))
 refine cdh h rfl (fun rp h=>?_) (fun rp h=>?_)
 refine rs hx fun K hK=>?_
 refine mbi ?_
 refine scb h HK fun x7 h=>?_
 refine nbi hK ?_
 refine AW.seq (ra hx ?_)
 refine cdh h rfl (fun KD h=>?_) (fun KD h=>?_)
 refine rs hx fun K hK=>?_
 refine scb h ib fun l5 h=>?_
 refine nbi hK ?_
 exact AW.ret (rtv h)
 refine AW.skip (rs hx fun K hK=>?_)
 refine mbi ?_
 refine scb h dv fun m9 h=>?_
 refine nbi hK ?_
 exact AW.ret (rtv h)
 refine AW.skip (AW.seq (rs hx fun K hK=>?_))
 refine mbi ?_
 refine scb h pJ fun pX h=>?_
 refine nbi hK ?_
 refine cdh h rfl (fun tz h=>?_) (fun tz h=>?_)
 refine rsd [165,145] hx fun K hK=>?_
 refine mbi ?_
 refine cqb h tj fun pW h=>?_
 refine cqb h dv fun tL h=>?_
 refine nbi hK ?_
 exact AW.ret (rtv h)
 refine AW.skip (rsd [165,145] hx fun K hK=>?_)
 refine mbi ?_
 refine cqb h tj fun wh h=>?_
 refine cqb h dv fun xY h=>?_
 refine nbi hK ?_
 exact AW.ret (rtv h)
def mg(aZ:ap):Option ap:=bnd (cw [aZ]) fun x1=>cnd (!x1) (bnd (eH) fun x4=>some x4) (bnd (bH (!aZ.vNeg) aZ.vW) fun x6=>some x6)
theorem wl {aZ:ap}{r:ap}(h:mg aZ=some r):ar prog 100 [dG aq aZ] (dG aq r):=by
 refine bn (rs:=[.cell 2 41]) (fun cx hx h0=>?_) func100
 unfold mg at h
 refine rai hx ?_
 refine AW.seq (rs hx fun K hK=>?_)
 refine sbi ?_
 refine s1 (lh ([aZ]:List ap) aq qz ff) ?_
 refine scb h fe fun x1 h=>?_
 refine nbi hK ?_
 refine cdh h rfl (fun fZ h=>?_) (fun fZ h=>?_)
 refine rs hx fun K hK=>?_
 refine scb h ib fun x4 h=>?_
 refine nbi hK ?_
 exact AW.ret (rtv h)
 refine AW.skip (rs hx fun K hK=>?_)
 refine mbi ?_
 refine scb h dv fun x6 h=>?_
 refine nbi hK ?_
 exact AW.ret (rtv h)
def nS(aK:ap)(aQ:ap):Option ap:=bnd (mg aQ) fun x1=>bnd (jm aK x1) fun x3=>some x3
theorem JI {aK:ap}{aQ:ap}{r:ap}(h:nS aK aQ=some r):ar prog 181 [dG aq aK,dG aq aQ] (dG aq r):=by
 refine bn (rs:=[.cell 4 41]) (fun cx hx h0=>?_) func181
 unfold nS at h
 refine rai hx ?_
 refine rsd [100,123] hx fun K hK=>?_
 refine mbi ?_
 refine cqb h wl fun x1 h=>?_
 refine cqb h Ci fun x3 h=>?_
 refine nbi hK ?_
 exact AW.ret (rtv h)
def fg(aZ:ap):Option Int:=bnd (S:=Bool) (bnd (cw [aZ]) fun x1=>cnd (!x1) (some (true)) (some (decide (aZ.vW=#v[(0:Int),0,0,0,0,0,0,0,0,0,0,0,0,0,0,0])))) fun jx=>cnd jx (some (0:Int)) (cnd aZ.vNeg (some (-1:Int)) (some (1:Int)))
theorem kM {aZ:ap}{r:Int}(h:fg aZ=some r):ar prog 95 [dG aq aZ] (dI .i64 r):=by
 refine bn (rs:=[.tmp 2]) (fun cx hx h0=>?_) func95
 unfold fg at h
 refine ra hx ?_
 refine AW.seq (AW.block (AW.seq ?_))
 obtain⟨jx,hy,h⟩:=ae h
 refine jn ((PE cx .normal (fun jx=>[(1,.pt 0 0),(3,dB jx)]) fun jx=>⟨[(0,dC (aq.f aZ))],[],1⟩) jx) ?_ ?_
 replace h:=hy
 refine rq hx fun K hK=>?_
 refine sbi ?_
 refine s1 (lh ([aZ]:List ap) aq qz ff) ?_
 refine scb h fe fun x1 h=>?_
 refine mbi ?_
 rcases aF h with⟨fZ,h⟩|⟨fZ,h⟩
 refine nbi hK ?_
 exact pe1 h h0 [0]
 refine ga fZ ?_
 refine gbi ?_
 refine g1 (d:=dG (cA 16 (cI .u32)) (#v[(0:Int),0,0,0,0,0,0,0,0,0,0,0,0,0,0,0])) fZ (mw cY bQ) ?_
 refine g1 fZ (Cf tok 2 (by decide) (EqC.arr (EqC.int (d:=0) bQ) cY bQ) cY) ?_
 refine nbi hK ?_
 exact pe1 h h0 [0]
 refine lw0 ?_
 refine cdh h rfl (fun rW h=>?_) (fun rW h=>?_)
 refine ra hx ?_
 exact AW.ret (rtv h)
 refine rai hx ?_
 refine cdh h rfl (fun rp h=>?_) (fun rp h=>?_)
 refine ra hx ?_
 exact AW.ret (rtv h)
 refine AW.skip (ra hx ?_)
 exact AW.ret (rtv h)
def mf(tr:Vector Int 16)(cU:Int):Int×Int×(Vector Int 16)→Option ((Int×Int×(Vector Int 16))⊕(Int×(Vector Int 16))):=fun (dH,bP,ey)=>cnd (decide (bP<(16:Int))) (gd (0≤bP∧bP<16) (gd (0≤cU) (bnd (some (ior .u64 dH (yY .u64 (u64.wrap ((tr)[(bP).toNat]!)) cU))) fun x5=>gd (0≤bP∧bP<16) (some (.inl (me .u64 x5 (32:Int),i64.wrap (bP+(1:Int)),(ey).set! (bP).toNat (u32.wrap (x5)))))))) (some (.inr (dH,ey)))
def px(tr:Vector Int 16)(cU:Int):Option ((Vector Int 16)×Int):=bnd (bo (mf tr cU) ((0:Int),(0:Int),(eo))) fun (cl,oN)=>some (oN,u32.wrap (cl))
theorem DA {tr:Vector Int 16}{cU:Int}{r:(Vector Int 16)×Int}(h:px tr cU=some r):ar prog 189 [dG (cA 16 (cI .u32)) tr,dI .i64 cU] (.tu [dG (cA 16 (cI .u32)) r.1,dI .u32 r.2]):=by
 refine bn (rs:=[.cell 4 39,.tmp 5]) (fun cx hx h0=>?_) func189
 unfold px at h
 refine rai hx ?_
 refine rai hx ?_
 refine ra hx ?_
 refine AW.seq (ra hx ?_)
 refine AW.block ?_
 obtain⟨y,hy,h⟩:=ae h
 refine lp (S:=Int×Int×(Vector Int 16)) (X:=Int×(Vector Int 16)) (fun (dH,bP,ey)=>[(1,dI .i64 cU),(2,.pt 0 0),(4,.pt 1 0),(6,.pt 2 0),(7,dI .u64 dH),(9,dI .i64 bP)]) (fun (dH,bP,ey)=>⟨[(0,dC ((cA 16 (cI .u32)).f tr)),(1,dC ((cA 16 (cI .u32)).f (eo))),(2,dC ((cA 16 (cI .u32)).f ey))],[],3⟩) (PE cx (.exit 0) (fun (cl,oN)=>[(4,.pt 0 0),(6,.pt 1 0),(7,dI .u64 cl)]) fun (cl,oN)=>⟨[(0,dC ((cA 16 (cI .u32)).f (eo))),(1,dC ((cA 16 (cI .u32)).f oN))],[],2⟩) hy ?_ ?_ ?_
 exact wk0 h0 [0,1,2]
 clear hy h
 rintro⟨dH,bP,ey⟩ y h
 dsimp only[mf] at h
 refine ra hx ?_
 refine AW.seq (cdh h rfl (fun f4 h=>?_) (fun f4 h=>?_))
 refine AW.skip (AW.seq (AW.block (ra hx ?_)))
 refine rs hx fun K hK=>?_
 iterate 2 refine sa ?_
 obtain⟨qU,h⟩:=aA h
 iterate 4 refine sbi ?_
 obtain⟨OQ,h⟩:=aA h
 refine s1 (UQ OQ) ?_
 refine sa ?_
 obtain⟨x5,Ip,h⟩:=ae h
 replace Ip:=bw Ip
 refine s2 (d2:=dI .u64 x5) kE (fq (congrArg (dI .u64) Ip)) ?_
 refine nl hK ?_
 refine rs hx fun K hK=>?_
 iterate 3 refine sa ?_
 obtain⟨hc7,h⟩:=aA h
 have Q1:(bP).toNat<16:=by omega
 refine sbi ?_
 refine s0 (yC (b':=u32.wrap (x5)) (bV.comp (bV.id _ _) (bV.vec (cI .u32) ey (bP).toNat Q1) (fun _=>rfl)) bQ) ?_
 refine nl hK ?_
 iterate 2 refine rb hx ?_
 exact pel h h0 [0,1,2]
 exact AW.exit (per h h0 [1,2])
 obtain⟨cl,oN⟩:=y
 refine lw0 ?_
 refine rai hx ?_
 refine AW.ret ?_
 cases h
 exact rv2
def lm(tr:Vector Int 16)(cU:Int):Int×(Vector Int 16)→Option ((Int×(Vector Int 16))⊕((Vector Int 16))):=fun (aP,bq)=>cnd (decide (aP<(16:Int))) (bnd (S:=Int) (cnd (decide ((i64.wrap (aP+(1:Int)))<(16:Int))) (gd (0≤i64.wrap (aP+(1:Int))∧i64.wrap (aP+(1:Int))<16) (bnd (some (u64.wrap ((tr)[(i64.wrap (aP+(1:Int))).toNat]!))) fun x5=>some (x5))) (some ((0:Int)))) fun Fk=>gd (0≤aP∧aP<16) (gd (0≤cU) (gd (0≤aP∧aP<16) (bnd (some ((bq).set! (aP).toNat (u32.wrap (me .u64 (ior .u64 (yY .u64 Fk (32:Int)) (u64.wrap ((tr)[(aP).toNat]!))) cU)))) fun qw=>some (.inl (i64.wrap (aP+(1:Int)),qw)))))) (some (.inr bq))
def oi(tr:Vector Int 16)(cU:Int):Option (Vector Int 16):=bnd (bo (lm tr cU) ((0:Int),(eo))) fun bf=>some bf
theorem HM {tr:Vector Int 16}{cU:Int}{r:Vector Int 16}(h:oi tr cU=some r):ar prog 193 [dG (cA 16 (cI .u32)) tr,dI .i64 cU] (dG (cA 16 (cI .u32)) r):=by
 refine bn (rs:=[.cell 4 39]) (fun cx hx h0=>?_) func193
 unfold oi at h
 refine rai hx ?_
 refine rai hx ?_
 refine AW.seq (ra hx ?_)
 refine AW.block ?_
 obtain⟨bf,hy,h⟩:=ae h
 refine lp (S:=Int×(Vector Int 16)) (X:=(Vector Int 16)) (fun (aP,bq)=>[(1,dI .i64 cU),(2,.pt 0 0),(4,.pt 1 0),(5,.pt 2 0),(8,dI .i64 aP)]) (fun (aP,bq)=>⟨[(0,dC ((cA 16 (cI .u32)).f tr)),(1,dC ((cA 16 (cI .u32)).f (eo))),(2,dC ((cA 16 (cI .u32)).f bq))],[],3⟩) (PE cx (.exit 0) (fun bf=>[(4,.pt 0 0),(5,.pt 1 0)]) fun bf=>⟨[(0,dC ((cA 16 (cI .u32)).f (eo))),(1,dC ((cA 16 (cI .u32)).f bf))],[],2⟩) hy ?_ ?_ ?_
 exact wk0 h0 [0,1,2]
 clear hy h
 rintro⟨aP,bq⟩ y h
 dsimp only[lm] at h
 refine ra hx ?_
 refine AW.seq (cdh h rfl (fun f4 h=>?_) (fun f4 h=>?_))
 refine AW.skip (AW.seq (AW.block ?_))
 iterate 2 refine ra hx ?_
 refine AW.seq ?_
 obtain⟨Fk,hy,h⟩:=ae h
 refine jn ((PE cx .normal (fun Fk=>[(1,dI .i64 cU),(2,.pt 0 0),(4,.pt 1 0),(5,.pt 2 0),(6,dI .i64 aP),(7,dI .u64 Fk),(8,dI .i64 aP)]) fun Fk=>⟨[(0,dC ((cA 16 (cI .u32)).f tr)),(1,dC ((cA 16 (cI .u32)).f (eo))),(2,dC ((cA 16 (cI .u32)).f bq))],[],3⟩) Fk) ?_ ?_
 replace h:=hy
 refine ra hx ?_
 refine cdh h rfl (fun CC h=>?_) (fun CC h=>?_)
 refine rq hx fun K hK=>?_
 iterate 2 refine sa ?_
 obtain⟨hc3,h⟩:=aA h
 iterate 3 refine sbi ?_
 obtain⟨x5,Ip,h⟩:=ae h
 replace Ip:=bw Ip
 refine s2 (d2:=dI .u64 x5) kE (fq (congrArg (dI .u64) Ip)) ?_
 refine nl hK ?_
 exact pe1 h h0 [0,1,2]
 exact AW.skip (pe1 h h0 [0,1,2])
 refine lw0 ?_
 refine rq hx fun K hK=>?_
 iterate 4 refine sa ?_
 obtain⟨hc8,h⟩:=aA h
 iterate 5 refine sbi ?_
 obtain⟨MM,h⟩:=aA h
 refine s1 (UP MM) ?_
 refine sa ?_
 obtain⟨Tg,h⟩:=aA h
 have hn12:(aP).toNat<16:=by omega
 refine sbi ?_
 obtain⟨qw,SD,h⟩:=ae h
 replace SD:=bw SD
 refine s0 (nN (b':=u32.wrap (me .u64 (ior .u64 (yY .u64 Fk (32:Int)) (u64.wrap ((tr)[(aP).toNat]!))) cU)) (bV.comp (bV.id _ _) (bV.vec (cI .u32) bq (aP).toNat hn12) (fun _=>rfl)) bQ SD) ?_
 refine nl hK ?_
 refine rb hx ?_
 exact pel h h0 [0,1,2]
 exact AW.exit (per h h0 [1,2])
 refine lw0 ?_
 refine rai hx ?_
 exact AW.ret (rtv h)
def jW(aK:Vector Int 16)(aQ:Int):Int×Int×(Vector Int 16)→Option ((Int×Int×(Vector Int 16))⊕(Int×(Vector Int 16))):=fun (aP,bq,mN)=>cnd (decide ((0:Int)≤bq)) (gd (0≤bq∧bq<16) (bnd (some (ior .u64 (yY .u64 aP (32:Int)) (u64.wrap ((aK)[(bq).toNat]!)))) fun x4=>gd (u64.wrap (aQ)≠0) (gd (0≤bq∧bq<16) (bnd (some ((mN).set! (bq).toNat (u32.wrap (u64.wrap (Int.tdiv x4 (u64.wrap (aQ))))))) fun x9=>gd (u64.wrap (aQ)≠0) (some (.inl (Int.tmod x4 (u64.wrap (aQ)),i64.wrap (bq - (1:Int)),x9))))))) (some (.inr (aP,mN)))
def ni(aK:Vector Int 16)(aQ:Int):Option ((Vector Int 16)×Int):=bnd (bo (jW aK aQ) ((0:Int),(15:Int),(eo))) fun (bf,kA)=>some (kA,u32.wrap (bf))
theorem F8 {aK:Vector Int 16}{aQ:Int}{r:(Vector Int 16)×Int}(h:ni aK aQ=some r):ar prog 187 [dG (cA 16 (cI .u32)) aK,dI .u32 aQ] (.tu [dG (cA 16 (cI .u32)) r.1,dI .u32 r.2]):=by
 refine bn (rs:=[.cell 4 39,.tmp 5]) (fun cx hx h0=>?_) func187
 unfold ni at h
 refine rai hx ?_
 refine ra hx ?_
 refine AW.seq (ra hx ?_)
 refine AW.block ?_
 obtain⟨y,hy,h⟩:=ae h
 refine lp (S:=Int×Int×(Vector Int 16)) (X:=Int×(Vector Int 16)) (fun (aP,bq,mN)=>[(1,dI .u32 aQ),(2,.pt 0 0),(4,.pt 1 0),(6,dI .u64 aP),(7,dI .i64 bq)]) (fun (aP,bq,mN)=>⟨[(0,dC ((cA 16 (cI .u32)).f aK)),(1,dC ((cA 16 (cI .u32)).f mN))],[],2⟩) (PE cx (.exit 0) (fun (bf,kA)=>[(4,.pt 0 0),(6,dI .u64 bf)]) fun (bf,kA)=>⟨[(0,dC ((cA 16 (cI .u32)).f kA))],[],1⟩) hy ?_ ?_ ?_
 exact wk0 h0 [0,1]
 clear hy h
 rintro⟨aP,bq,mN⟩ y h
 dsimp only[jW] at h
 refine AW.seq (ra hx ?_)
 refine cdh h rfl (fun f4 h=>?_) (fun f4 h=>?_)
 refine AW.skip (AW.seq (AW.block (rs hx fun K hK=>?_)))
 iterate 3 refine sa ?_
 obtain⟨qU,h⟩:=aA h
 iterate 4 refine sbi ?_
 obtain⟨x4,P9,h⟩:=ae h
 replace P9:=bw P9
 refine s2 (d2:=dI .u64 x4) kE (fq (congrArg (dI .u64) P9)) ?_
 refine nl hK ?_
 refine rs hx fun K hK=>?_
 iterate 4 refine sa ?_
 obtain⟨hc6,h⟩:=aA h
 refine s1 (HA hc6) ?_
 refine sa ?_
 obtain⟨hc7,h⟩:=aA h
 have Q1:(bq).toNat<16:=by omega
 refine sbi ?_
 obtain⟨x9,My,h⟩:=ae h
 replace My:=bw My
 refine s0 (nN (b':=u32.wrap (u64.wrap (Int.tdiv x4 (u64.wrap (aQ))))) (bV.comp (bV.id _ _) (bV.vec (cI .u32) mN (bq).toNat Q1) (fun _=>rfl)) bQ My) ?_
 refine nl hK ?_
 refine rq hx fun K hK=>?_
 iterate 3 refine sa ?_
 obtain⟨Tg,h⟩:=aA h
 refine s1 (Fo Tg) ?_
 refine nbi hK ?_
 refine rb hx ?_
 exact pel h h0 [0,1]
 exact AW.exit (per h h0 [1])
 obtain⟨bf,kA⟩:=y
 refine lw0 ?_
 refine rai hx ?_
 refine AW.ret ?_
 cases h
 exact rv2
section
section
variable {b A B k m d:Nat}
theorem pI(hb:0<b):((A % b ^ k+B % b ^ k) / b ^ k+dg b A k+dg b B k) % b=dg b (A+B) k∧((A % b ^ k+B % b ^ k) / b ^ k+dg b A k+dg b B k) / b=(A % b ^ (k+1)+B % b ^ (k+1)) / b ^ (k+1):=by
 have hp:0<b ^ k:=bO hb
 have hs:A % b ^ (k+1)+B % b ^ (k+1)=(A % b ^ k+B % b ^ k)+b ^ k*(dg b A k+dg b B k):=by
  rw[g5,g5,vf];omega
 have h1:(A % b ^ (k+1)+B % b ^ (k+1)) / b ^ k=(A % b ^ k+B % b ^ k) / b ^ k+dg b A k+dg b B k:=by
  rw[hs,zu _ _ hp];omega
 refine⟨?_,?_⟩
 ·have e:A+B=(A % b ^ (k+1)+B % b ^ (k+1))+b ^ k*(b*(A / b ^ (k+1)+B / b ^ (k+1))):=by
   have e1:=lN A (b ^ (k+1))
   have e2:=lN B (b ^ (k+1))
   have e3:b ^ k*(b*(A / b ^ (k+1)+B / b ^ (k+1)))=b ^ (k+1)*(A / b ^ (k+1))+b ^ (k+1)*(B / b ^ (k+1)):=by
    rw[←fa,←cG,vf]
   omega
  unfold dg
  rw[e,zu _ _ hp,h1]
  unfold dg
  rw[B9]
 ·rw[cG,←gZ,←cG,h1]
theorem oD(hb:0<b):(A % b ^ k+B % b ^ k) / b ^ k≤1:=by
 have hp:0<b ^ k:=bO hb
 have h1:=eu A hp
 have h2:=eu B hp
 have:(A % b ^ k+B % b ^ k) / b ^ k<2:=(lM hp).2 (by omega)
 omega
theorem G0(hb:0<b):(A % b ^ k*m / b ^ k+dg b A k*m) % b=dg b (A*m) k∧(A % b ^ k*m / b ^ k+dg b A k*m) / b=A % b ^ (k+1)*m / b ^ (k+1):=by
 have hp:0<b ^ k:=bO hb
 have hs:A % b ^ (k+1)*m=A % b ^ k*m+b ^ k*(dg b A k*m):=by
  rw[g5,bR,fa]
 have h1:A % b ^ (k+1)*m / b ^ k=A % b ^ k*m / b ^ k+dg b A k*m:=by
  rw[hs,zu _ _ hp]
 refine⟨?_,?_⟩
 ·have e:A*m=A % b ^ (k+1)*m+b ^ k*(b*(A / b ^ (k+1)*m)):=by
   have e1:=lN A (b ^ (k+1))
   have e3:b ^ k*(b*(A / b ^ (k+1)*m))=b ^ (k+1)*(A / b ^ (k+1))*m:=by
    rw[←fa,←cG,←fa]
   rw[e3,←bR]
   congr 1
   omega
  have h2:dg b (A*m) k=A*m / b ^ k % b:=rfl
  rw[h2,e,zu _ _ hp,h1,B9]
 ·rw[cG,←gZ,←cG,h1]
theorem Bu(hb:0<b)(hm:0<m):A % b ^ k*m / b ^ k<m:=by
 have hp:0<b ^ k:=bO hb
 rw[lM hp,bA]
 exact Nat.mul_lt_mul_of_pos_left (eu A hp) hm
theorem yS(hb:0<b)(hd:0<d):(A / b ^ (k+1) % d*b+dg b A k) / d=dg b (A / d) k∧(A / b ^ (k+1) % d*b+dg b A k) % d=A / b ^ k % d:=by
 have e:=cy (b:=b) (A:=A) (k:=k)
 have hR:=lN (A / b ^ (k+1)) d
 generalize hr:A / b ^ (k+1) % d=r at hR ⊢
 generalize ht:A / b ^ (k+1) / d=t at hR
 have hrd:r<d:=by rw[←hr];exact eu _ hd
 have ha:dg b A k<b:=TZ hb
 generalize dg b A k=a at e ha ⊢
 have e2:A / b ^ k=r*b+a+d*(t*b):=by
  rw[e,←hR,bR,fa];omega
 have bK:(r*b+a) / d<b:=by
  rw[lM hd]
  have:(r+1)*b≤d*b:=cM _ hrd
  rw[bR,eU,bA d b] at this
  omega
 refine⟨?_,?_⟩
 ·have:dg b (A / d) k=A / b ^ k / d % b:=by unfold dg;rw[gZ,bA,←gZ]
  rw[this,e2,zu _ _ hd,NB,ez bK]
 ·rw[e2,B9]
end
abbrev W(A:Nat):Vector Int 16:=vN 4294967296 16 A
theorem gO {A k:Nat}(h:k<16):(W A)[k]! =(dg 4294967296 A k:Int):=jD h
theorem dgl {A k:Nat}:dg 4294967296 A k<4294967296:=TZ (by decide)
theorem G_plus {A B:Nat}(hA:A<4294967296 ^ 16)(hB:B<4294967296 ^ 16):oh (W A) (W B)=some (W (A+B),decide (A+B<4294967296 ^ 16)):=by
 have hl:=rP (b:=jX (W A) (W B)) (s0:=((0:Int),(0:Int),eo)) (fun k=>(((A % 4294967296 ^ k+B % 4294967296 ^ k) / 4294967296 ^ k:Nat),(k:Int),vN 4294967296 16 ((A+B) % 4294967296 ^ k))) 16 (((A % 4294967296 ^ 16+B % 4294967296 ^ 16) / 4294967296 ^ 16:Nat),vN 4294967296 16 ((A+B) % 4294967296 ^ 16))
  (by simp only[fX,m7,sS];rfl)
  (fun k hk=>by
   have hc:=oD (b:=4294967296) (A:=A) (B:=B) (k:=k) (by decide)
   obtain⟨h1,h2⟩:=pI (b:=4294967296) (A:=A) (B:=B) (k:=k) (by decide)
   have ha:=@dgl A k
   have hb:=@dgl B k
   dsimp only[jX]
   rw[cu _ _,aC,aC,ab,aC,bW,gO hk,gO hk,ip,ip,←kw,ip,←kw,ip,yd,A8,←xW,h1,h2,Dc (by decide) hk,bX,kw]
   rfl)
  (by
   dsimp only[jX]
   rw[ce _ _])
 unfold oh
 rw[hl,ab,ez hA,ez hB,HQ (by decide)]
 dsimp only
 congr 2
 have:((((A+B) / 4294967296 ^ 16:Nat):Int)=0)↔A+B<4294967296 ^ 16:=by
  rw[Int.natCast_eq_zero,Ja (by decide)]
 exact kZ.2 this
theorem Ju {A B:Nat}(hBA:B≤A):ie (W A) (W B)=some (W (A - B)):=by
 obtain⟨D,rfl⟩:∃D,A=D+B:=⟨A - B,by omega⟩
 rw[ve]
 have hl:=rP (b:=ji (W (D+B)) (W B)) (s0:=((0:Int),(0:Int),eo)) (fun k=>(((D % 4294967296 ^ k+B % 4294967296 ^ k) / 4294967296 ^ k:Nat),(k:Int),vN 4294967296 16 (D % 4294967296 ^ k))) 16 (vN 4294967296 16 (D % 4294967296 ^ 16))
  (by simp only[fX,m7,sS];rfl)
  (fun k hk=>by
   have hc:=oD (b:=4294967296) (A:=D) (B:=B) (k:=k) (by decide)
   obtain⟨h1,h2⟩:=pI (b:=4294967296) (A:=D) (B:=B) (k:=k) (by decide)
   have ha:=@dgl D k
   have hb:=@dgl B k
   have hd:=@dgl (D+B) k
   generalize (D % 4294967296 ^ k+B % 4294967296 ^ k) / 4294967296 ^ k=c at h1 h2 hc ⊢
   generalize (D % 4294967296 ^ (k+1)+B % 4294967296 ^ (k+1)) / 4294967296 ^ (k+1)=c' at h2 ⊢
   dsimp only[ji]
   rw[cu _ _,aC,aC,ab,aC,bW,gO hk,gO hk,ip,ip,bX]
   have hx:∃x:Nat,u64.wrap (u64.wrap ((dg 4294967296 (D+B) k:Int) - (dg 4294967296 B k:Int)) - (c:Int))=(x:Int)∧x / 9223372036854775808=c'∧x % 4294967296=dg 4294967296 D k:=by
    rw[IntKind.wrap_u64,IntKind.wrap_u64]
    refine⟨((((dg 4294967296 (D+B) k:Int) - (dg 4294967296 B k:Int)) % 18446744073709551616 - (c:Int)) % 18446744073709551616).toNat,by omega,by omega,by omega⟩
   obtain⟨x,G5,xx,hx3⟩:=hx
   rw[G5,RD,A8,xx,hx3,Dc (by decide) hk]
   rfl)
  (by
   dsimp only[ji]
   rw[ce _ _])
 unfold ie
 rw[hl,ab,HQ (by decide)]
theorem G_up {A s:Nat}(hs:s<32):px (W A) (s:Int)=some (W (A*2 ^ s),((A % 4294967296 ^ 16*2 ^ s / 4294967296 ^ 16:Nat):Int)):=by
 have LL:2 ^ s≤2 ^ 31:=ia (by decide) (by omega)
 have hs3:0<2 ^ s:=bO (by decide)
 have hl:=rP (b:=mf (W A) (s:Int)) (s0:=((0:Int),(0:Int),eo)) (fun k=>((A % 4294967296 ^ k*2 ^ s / 4294967296 ^ k:Nat),(k:Int),vN 4294967296 16 (A*2 ^ s % 4294967296 ^ k))) 16 ((A % 4294967296 ^ 16*2 ^ s / 4294967296 ^ 16:Nat),vN 4294967296 16 (A*2 ^ s % 4294967296 ^ 16))
  (by simp only[fX,m7,sS,gH,Nat.zero_div];rfl)
  (fun k hk=>by
   have hc:=Bu (b:=4294967296) (A:=A) (k:=k) (m:=2 ^ s) (by decide) hs3
   obtain⟨h1,h2⟩:=G0 (b:=4294967296) (A:=A) (k:=k) (m:=2 ^ s) (by decide)
   have ha:=@dgl A k
   have hm:dg 4294967296 A k*2 ^ s≤4294967295*2 ^ s:=cM _ (by omega)
   generalize A % 4294967296 ^ k*2 ^ s / 4294967296 ^ k=c at h1 h2 hc ⊢
   generalize A % 4294967296 ^ (k+1)*2 ^ s / 4294967296 ^ (k+1)=c' at h2 ⊢
   dsimp only[mf]
   rw[cu _ _,aC,aC,ab,aC,bW,gO hk,ip,Ss _ _ (by omega) (by omega),St,ior_n hc (by omega),yd,A8,bX,o4 _ c,h1,h2,Dc (by decide) hk]
   rfl)
  (by
   dsimp only[mf]
   rw[ce _ _])
 have hc:A % 4294967296 ^ 16*2 ^ s / 4294967296 ^ 16<2 ^ s:=Bu (by decide) hs3
 unfold px
 rw[hl,ab,HQ (by decide)]
 dsimp only
 rw[A7]
theorem G_down {A s:Nat}(hA:A<4294967296 ^ 16)(hs:s<32):oi (W A) (s:Int)=some (W (A / 2 ^ s)):=by
 have LL:2 ^ s≤2 ^ 31:=ia (by decide) (by omega)
 have hs3:0<2 ^ s:=bO (by decide)
 have hl:=rP (b:=lm (W A) (s:Int)) (s0:=((0:Int),eo)) (fun k=>((k:Int),vN 4294967296 16 (A / 2 ^ s % 4294967296 ^ k))) 16 (vN 4294967296 16 (A / 2 ^ s % 4294967296 ^ 16))
  (by simp only[fX,m7,sS];rfl)
  (fun k hk=>by
   have ha:=@dgl A k
   have ha1:=@dgl A (k+1)
   have hd:(dg 4294967296 A (k+1)*4294967296+dg 4294967296 A k) / 2 ^ s % 4294967296=dg 4294967296 (A / 2 ^ s) k:=by
    have e1:dg 4294967296 (A / 2 ^ s) k=A / 4294967296 ^ k / 2 ^ s % 4294967296:=by
     unfold dg;rw[gZ,bA,←gZ]
    have e2:A / 4294967296 ^ k=(dg 4294967296 A (k+1)*4294967296+dg 4294967296 A k)+2 ^ s*(4294967296*(2 ^ (32 - s)*(A / 4294967296 ^ (k+2)))):=by
     have e3:=cy (b:=4294967296) (A:=A) (k:=k)
     have e4:=cy (b:=4294967296) (A:=A) (k:=k+1)
     have e5:2 ^ s*(4294967296*(2 ^ (32 - s)*(A / 4294967296 ^ (k+2))))=2 ^ s*2 ^ (32 - s)*4294967296*(A / 4294967296 ^ (k+2)):=by
      simp only[fa,zt]
     rw[e5,←hJ,show s+(32 - s)=32 from by omega,e3,e4,show k+1+1=k+2 from rfl,show (2:Nat) ^ 32=4294967296 from rfl]
     generalize A / 4294967296 ^ (k+2)=q
     generalize dg 4294967296 A (k+1)=d1
     generalize dg 4294967296 A k=d0
     omega
    rw[e1,e2,zu _ _ hs3,B9]
   dsimp only[lm]
   rw[cu _ _]
   have Ct:(bnd (S:=Int) (cnd (decide ((i64.wrap ((k:Int)+(1:Int)))<(16:Int))) (gd (0≤i64.wrap ((k:Int)+(1:Int))∧i64.wrap ((k:Int)+(1:Int))<16) (bnd (some (u64.wrap ((W A)[(i64.wrap ((k:Int)+(1:Int))).toNat]!))) fun x5=>some (x5))) (some ((0:Int)))) (fun a=>some a))=some ((dg 4294967296 A (k+1):Nat):Int):=by
    rw[bX]
    by_cases S6:k+1<16
    ·rw[cu _ _,aC,ab,show ((k:Int)+1).toNat=k+1 from by omega,gO S6,ip,ab]
    ·rw[ce _ _,ab,lV (bJ hA (ia (by decide) (by omega)))]
     rfl
   rw[uY] at Ct
   rw[Ct,ab,aC,aC,aC,ab,bW,gO hk,ip,J7 ha1,Kp ha ha1,BC .u64 _ _ (by show s≤64;omega),A8,hd,Dc (by decide) hk,bX]
   rfl)
  (by
   dsimp only[lm]
   rw[ce _ _])
 unfold oi
 rw[hl,ab,HQ (by decide)]
theorem G_short {A d:Nat}(hA:A<4294967296 ^ 16)(hd:0<d)(ym:d<4294967296):ni (W A) (d:Int)=some (W (A / d),((A % d:Nat):Int)):=by
 have hl:=Si (b:=jW (W A) (d:Int)) (s0:=((0:Int),(15:Int),eo)) (fun k=>((A / 4294967296 ^ k % d:Nat),(k:Int) - 1,vN 4294967296 16 (A / d / 4294967296 ^ k*4294967296 ^ k))) 16 ((A / 4294967296 ^ 0 % d:Nat),vN 4294967296 16 (A / d / 4294967296 ^ 0*4294967296 ^ 0))
  (by
   have h1:A / d<4294967296 ^ 16:=dY (oK _ _) hA
   simp only[eF hA,eF h1,gH,sS,Nat.zero_mod];rfl)
  (fun k hk=>by
   have ha:=@dgl A k
   have hq:=@dgl (A / d) k
   obtain⟨h1,h2⟩:=yS (b:=4294967296) (A:=A) (k:=k) (d:=d) (by decide) hd
   have hr:A / 4294967296 ^ (k+1) % d<d:=eu _ hd
   generalize A / 4294967296 ^ (k+1) % d=r at h1 h2 hr ⊢
   generalize A / 4294967296 ^ k % d=r' at h2 ⊢
   have ed:u64.wrap (d:Int)=(d:Int):=ip
   dsimp only[jW]
   rw[cu _ _,aC,ab,ed,aC,aC,ab,aC,show (((k+1:Nat):Int) - 1).toNat=k from by omega,gO hk,ip,J7 (by omega),Kp ha (by omega),←tE,←tD,h1,h2,ip,A7 hq,N4 (by decide) hk,bX]
   congr 4
   omega)
  (by
   dsimp only[jW]
   rw[ce _ _])
 rw[fX,m4,m4,yy] at hl
 have hr:A % d<d:=eu _ hd
 unfold ni
 rw[hl,ab]
 dsimp only
 rw[A7]
end
def LIM:Nat:=4294967296 ^ 16
theorem Fz:LIM=4294967296 ^ 16:=rfl
theorem xM:0<LIM:=by decide
theorem W_zero:W 0=eo:=sS
theorem z16:(#v[(0:Int),0,0,0,0,0,0,0,0,0,0,0,0,0,0,0]:Vector Int 16)=W 0:=by
 rw[W_zero];rfl
theorem r16:eo=W 0:=sS.symm
theorem Fm {A B:Nat}(hA:A<LIM)(hB:B<LIM):W A=W B↔A=B:=⟨vN_inj hA hB,fun h=>by rw[h]⟩
def Ia(A B:Nat):Int:=if A<B then -1 else if B<A then 1 else 0
theorem G_cmp(x y:Int):gt x y=some (if x<y then -1 else if y<x then 1 else 0):=by
 have hn:∀z:Int,fW z=some false:=fun z=>by unfold fW;simp
 unfold gt
 rw[hn,hn,ab,ab,aI,aI,gf,gf]
 split
 ·rfl
 ·split <;> rfl
theorem Cq {A B k:Nat}(he:A / 4294967296 ^ (k+1)=B / 4294967296 ^ (k+1))(h:dg 4294967296 A k<dg 4294967296 B k):A<B:=by
 have e1:=cy (b:=4294967296) (A:=A) (k:=k)
 have e2:=cy (b:=4294967296) (A:=B) (k:=k)
 have h1:A / 4294967296 ^ k<B / 4294967296 ^ k:=by
  rw[e1,e2,he];exact E9 h _
 rcases d6 A B with h2|h2
 ·exact h2
 ·exact absurd (NA h2) (Nat.not_le.2 h1)
theorem Dy {A B:Nat}(hA:A<LIM)(hB:B<LIM):ic (W A) (W B)=some (Ia A B):=by
 rw[Fz] at hA hB
 obtain⟨x,hl,hx⟩:=vI (b:=jY (W A) (W B)) (fun s=>∃k:Nat,s=(k:Int) - 1∧k≤16∧A / 4294967296 ^ k=B / 4294967296 ^ k) (fun s=>(s+1).toNat) (fun x=>match x with| .inl r=>r=Ia A B| .inr _=>A=B)
  (by
   rintro s ⟨k,rfl,hk,he⟩
   cases k with
   |zero=>
    right
    refine⟨(Sum.inr ():Int⊕Unit),?_,?_⟩
    ·dsimp only[jY]
     rw[ce _ _]
    ·simpa using he
   |succ k=>
    have wa:k<16:=by omega
    have e:((k+1:Nat):Int) - 1=(k:Int):=by omega
    rw[e]
    dsimp only[jY]
    rw[cu _ _,aC,aC,bW,gO wa,gO wa]
    by_cases hd:dg 4294967296 A k=dg 4294967296 B k
    ·left
     refine⟨(k:Int) - 1,?_,⟨k,rfl,by omega,?_⟩,by omega⟩
     ·rw[ce _ _ (by rw[hd];simp),bX]
     ·rw[cy (b:=4294967296) (A:=A) (k:=k),cy (b:=4294967296) (A:=B) (k:=k),he,hd]
    ·right
     refine⟨(Sum.inl (Ia A B):Int⊕Unit),?_,rfl⟩
     rw[cu _ _,aC,aC,G_cmp,ab]
     congr 3
     unfold Ia
     rcases Nat.lt_or_gt_of_ne hd with h|h
     ·have:=Cq he h
      rw[ai (by omega),ai this]
     ·have:=Cq he.symm h
      rw[ah (by omega),ai (by omega),ah (by omega),ai this]) (15:Int) ⟨16,rfl,az _,by rw[eF hA,eF hB]⟩
 unfold ic
 rw[hl,ab]
 cases x with
 |inl r=>obtain rfl:r=_:=hx;rfl
 |inr u=>
  obtain rfl:A=B:=hx
  unfold Ia
  simp
def szp(b A n:Nat):Prop:=A<b ^ n∧(0<n→b ^ (n - 1)≤A)
theorem Ru {b A n m:Nat}(hb:0<b)(h:szp b A n)(h':szp b A m):n=m:=by
 have key:∀{n m:Nat},szp b A n→szp b A m→m≤n:=by
  intro n m h h'
  rcases d6 n m with h1|h1
  ·have h2:=h'.2 (by omega)
   have h3:b ^ n≤b ^ (m - 1):=ia hb (by omega)
   have:=h.1
   omega
  ·exact h1
 have:=key h h'
 have:=key h' h
 omega
theorem LV {b A n k:Nat}(hb:0<b)(h:szp b A n)(hA:A<b ^ k):n≤k:=by
 rcases d6 k n with h1|h1
 ·have h2:=h.2 (by omega)
  have h3:b ^ k≤b ^ (n - 1):=ia hb (by omega)
  omega
 ·exact h1
theorem Cg {A:Nat}(hA:A<LIM):∃n:Nat,n≤16∧eO (W A)=some (n:Int)∧szp 4294967296 A n:=by
 rw[Fz] at hA
 obtain⟨x,hl,n,rfl,hn,hs⟩:=vI (b:=lj (W A)) (fun s=>∃n:Nat,s=(n:Int)∧n≤16∧A<4294967296 ^ n) (fun s=>s.toNat) (fun x=>∃n:Nat,x=(n:Int)∧n≤16∧szp 4294967296 A n)
  (by
   rintro s ⟨n,rfl,hn,bK⟩
   cases n with
   |zero=>
    right
    refine⟨_,?_,0,rfl,by omega,bK,fun h=>by omega⟩
    dsimp only[lj]
    rw[ce _ _,ab,aI]
   |succ k=>
    have hk:k<16:=by omega
    have e:i64.wrap (((k+1:Nat):Int) - 1)=(k:Int):=by rw[bX];omega
    dsimp only[lj]
    rw[cu _ _,e,aC,ab,bW,gO hk,gf]
    by_cases hd:dg 4294967296 A k=0
    ·left
     refine⟨(k:Int),by rw[ai (by omega)],⟨k,rfl,by omega,?_⟩,by omega⟩
     unfold dg at hd
     have h1:A / 4294967296 ^ k<4294967296:=by
      rw[lM (bO (by decide)),bA,←cG];exact bK
     rw[ez h1] at hd
     exact (Ja (bO (by decide))).1 hd
    ·right
     refine⟨_,by rw[ah (by omega)],k+1,rfl,hn,bK,fun _=>?_⟩
     rcases d6 A (4294967296 ^ k) with h|h
     ·exact absurd (lV h) hd
     ·exact h) (16:Int) ⟨16,rfl,az _,hA⟩
 refine⟨n,hn,?_,hs⟩
 unfold eO
 rw[hl,ab]
def La:ap:=⟨true,false,W 0⟩
def enc(z:Int):ap:=if z.natAbs<LIM then⟨false,decide (z<0),W z.natAbs⟩ else La
theorem rZ {z:Int}(h:z.natAbs<LIM):enc z=⟨false,decide (z<0),W z.natAbs⟩:=ai h
theorem EB {z:Int}(h:¬z.natAbs<LIM):enc z=La:=ah h
def d8(x:ap):Bool:=!x.vBad&&(!decide (x.vW=W 0)||!x.vNeg)
def okI(x:ap):Prop:=∀j:Nat,j<16→0≤x.vW[j]!∧x.vW[j]! <4294967296
theorem Dh(z:Int):okI (enc z):=by
 have key:∀(A j:Nat),j<16→0≤(W A)[j]!∧(W A)[j]! <4294967296:=fun A j hj=>by
  rw[gO hj];have:=@dgl A j;omega
 unfold enc
 split
 ·exact key _
 ·exact key 0
theorem bg {z:Int}(h:z.natAbs<LIM):d8 (enc z)=true:=by
 rw[rZ h]
 unfold d8
 dsimp only
 by_cases hz:z=0
 ·subst hz;simp
 ·have:¬W z.natAbs=W 0:=fun e=>hz (by have:=(Fm h xM).1 e;omega)
  simp[this]
theorem At {x:ap}(h:okI x)(hg:d8 x=true):∃z:Int,z.natAbs<LIM∧x=enc z:=by
 obtain⟨A,hA,hv⟩:=vN_of (b:=4294967296) (n:=16) (by decide) x.vW (fun j hj=>h j hj)
 obtain⟨bad,neg,w⟩:=x
 dsimp only at hv
 subst hv
 unfold d8 at hg
 simp only[cm,Je,Ca,decide_eq_false_iff_not] at hg
 obtain⟨rfl,hg⟩:=hg
 have OW:A<LIM:=hA
 cases neg with
 |false=>
  refine⟨(A:Int),OW,?_⟩
  rw[rZ (by simpa using OW)]
  simp
 |true=>
  refine⟨-(A:Int),by simpa using OW,?_⟩
  have h0:A≠0:=by
   rintro rfl
   rcases hg with h|h
   ·exact h rfl
   ·cases h
  rw[rZ (by simpa using OW)]
  have:-(A:Int)<0:=by omega
  simp[this,zq h0]
theorem He:d8 La=false:=rfl
theorem Ax {z y:Int}(hz:z.natAbs<LIM)(hy:y.natAbs<LIM)(h:enc z=enc y):z=y:=by
 rw[rZ hz,rZ hy] at h
 simp only[ap.mk.injEq,true_and] at h
 obtain⟨h1,h2⟩:=h
 have h3:=(Fm hz hy).1 h2
 have h4:=kZ.1 h1
 omega
theorem TS {A:Nat}(hA:A<LIM)(neg:Bool):(⟨false,neg&&!decide (A=0),W A⟩:ap)=enc (bif neg then -(A:Int) else A):=by
 cases neg with
 |false=>rw[rZ (by simpa using hA)];simp
 |true=>
  rw[rZ (by simpa using hA)]
  simp only[E8,ku,Int.natAbs_neg,dX,ap.mk.injEq,true_and,and_true]
  by_cases h:A=0
  ·subst h;simp
  ·have:-(A:Int)<0:=by omega
   simp[h,this,zq h]
theorem Pv(x:ap):lz x=some (if x.vBad then decide (x.vW=W 0)&&!x.vNeg else !decide (x.vW=W 0)||!x.vNeg):=by
 unfold lz
 rw[ab,z16]
 cases x.vBad <;> cases decide (x.vW=W 0) <;> rfl
theorem Vs {l:List ap}(hl:l.length<1000000):cw l=some (l.all d8):=by
 obtain⟨x,h1,hx⟩:=vI (b:=nD l) (fun s=>∃n:Nat,s=(n:Int)∧n≤l.length∧(l.take n).all d8=true) (fun s=>l.length - s.toNat) (fun x=>match x with| .inl r=>r=false∧l.all d8=false| .inr _=>l.all d8=true)
  (by
   rintro s ⟨n,rfl,hn,ha⟩
   dsimp only[nD]
   by_cases bK:n<l.length
   ·rw[cu _ _,aC,bW,Pv,ab]
    have hg:cnd (l[n]!.vBad) (some true) (some (!(if l[n]!.vBad then decide (l[n]!.vW=W 0)&&!l[n]!.vNeg else !decide (l[n]!.vW=W 0)||!l[n]!.vNeg)))=some (!d8 l[n]!):=by
     unfold d8
     cases l[n]!.vBad <;> rfl
    rw[hg,ab]
    have Ef:(l.take (n+1)).all d8=((l.take n).all d8&&d8 l[n]!):=by
     rw[bI l n bK,List.take_succ_eq_append_getElem bK,lW]
     simp
    cases hgb:d8 l[n]! with
    |true=>
     left
     refine⟨((n+1:Nat):Int),?_,⟨n+1,rfl,bK,by rw[Ef,ha,hgb];rfl⟩,by omega⟩
     rw[c9,aI,bX]
     rfl
    |false=>
     right
     refine⟨_,rfl,rfl,?_⟩
     rw[←tH (n+1) l,lW,Ef,hgb]
     simp
   ·right
    refine⟨_,by rw[ce _ _],?_⟩
    rw[gJ (by omega)] at ha
    exact ha) (0:Int) ⟨0,rfl,cr _,by simp⟩
 unfold cw
 rw[h1,ab]
 cases x with
 |inl r=>obtain⟨rfl,h2⟩:=hx;rw[h2]
 |inr u=>rw[show l.all d8=true from hx]
theorem jB {A:Nat}(hA:A<LIM)(neg:Bool):bH neg (W A)=some (enc (bif neg then -(A:Int) else A)):=by
 unfold bH
 rw[z16,←TS hA]
 cases neg with
 |true=>
  rw[gv,ab]
  simp only[ab,Fm hA xM,E8,Lh]
 |false=>rfl
theorem PA:eH=some La:=by unfold eH;rw[r16];rfl
theorem all2g(x y:ap):([x,y].all d8)=(d8 x&&d8 y):=by simp
theorem all1g(x:ap):([x].all d8)=d8 x:=by simp
theorem vo(x y:ap):cw [x,y]=some (d8 x&&d8 y):=by rw[Vs (by simp),all2g]
theorem vp(x:ap):cw [x]=some (d8 x):=by rw[Vs (by simp),all1g]
theorem lU {z:Int}(h:z.natAbs<LIM):(enc z).vW=W z.natAbs:=by rw[rZ h]
theorem jN {z:Int}(h:z.natAbs<LIM):(enc z).vNeg=decide (z<0):=by rw[rZ h]
theorem G_Add {a c:Int}(ha:a.natAbs<LIM)(hc:c.natAbs<LIM):jm (enc a) (enc c)=some (enc (a+c)):=by
 unfold jm
 rw[vo,bg ha,bg hc,ab]
 simp only[fH,c9,aI,lU ha,lU hc,jN ha,jN hc]
 rw[G_plus (by rw[←Fz];exact ha) (by rw[←Fz];exact hc),ab,Dy ha hc,ab,←Fz]
 dsimp only
 by_cases hs:decide (a<0)=decide (c<0)
 ·have Ku:=kZ.1 hs
  rw[hs,E7,gv]
  by_cases bK:a.natAbs+c.natAbs<LIM
  ·rw[aB bK,c9,aI,jB bK,ab]
   congr 2
   by_cases h:c<0
   ·simp only[h,sn,ku];omega
   ·simp only[h,si,cond_false];omega
  ·rw[bp bK,sh,gv,PA,ab,EB (by omega)]
 ·have Ku:¬((a<0)↔(c<0)):=fun h=>hs (kZ.2 h)
  have hb:(decide (a<0) == decide (c<0))=false:=Ll.2 hs
  rw[hb,aI]
  unfold Ia
  by_cases h1:a.natAbs<c.natAbs
  ·rw[ai h1,ce _ _,Ju (mv h1),ab,jB (by omega),ab]
   congr 2
   by_cases h:c<0
   ·simp only[h,sn,ku];omega
   ·simp only[h,si,cond_false];omega
  ·have h2:(0:Int)≤(if a.natAbs<c.natAbs then -1 else if c.natAbs<a.natAbs then 1 else 0):=by
    rw[ah h1];split <;> omega
   rw[cu _ _ h2,Ju (by omega),ab,jB (by omega),ab]
   congr 2
   by_cases h:a<0
   ·simp only[h,sn,ku];omega
   ·simp only[h,si,cond_false];omega
theorem QS {x y:ap}(h:(d8 x&&d8 y)=false):jm x y=some La:=by
 unfold jm
 rw[vo,h,ab,sh,gv,PA,ab]
theorem Vw {a:Int}(ha:a.natAbs<LIM):mg (enc a)=some (enc (-a)):=by
 unfold mg
 rw[vp,bg ha,ab,c9,aI,lU ha,jN ha,jB ha,ab]
 congr 2
 by_cases h:a<0
 ·simp only[h,sn,c9,cond_false];omega
 ·simp only[h,si,sh,ku];omega
theorem G_Sub {a c:Int}(ha:a.natAbs<LIM)(hc:c.natAbs<LIM):nS (enc a) (enc c)=some (enc (a - c)):=by
 unfold nS
 rw[Vw hc,ab,G_Add ha (by omega),ab]
 rfl
theorem xo {a:Int}(ha:a.natAbs<LIM):fg (enc a)=some a.sign:=by
 unfold fg
 rw[vp,bg ha,ab,c9,aI,ab,lU ha,jN ha,z16]
 simp only[Fm ha xM]
 rcases w8 a 0 with h|h|h
 ·rw[ce _ _,cu _ _ h,w7 h]
 ·subst h;rfl
 ·rw[ce _ _,ce _ _,sf h]
end
end Go.Proofs.YtaedcknhkjpmlaaGreat
