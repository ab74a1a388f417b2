/-
  Lemmas, part 2. Conditions: none.
-/
import Derived.Test.YtaedcknhkjpmlaaGreatP1
import Derived.Laws.MakeOwn
import Derived.Laws.CopyRow
import Derived.Test.YtaedcknhkjpmlaaGreatProg
set_option linter.all false
set_option maxRecDepth 100000
set_option maxHeartbeats 4000000
namespace Go.Proofs.YtaedcknhkjpmlaaGreat
open Go.RowKit Go.IntKind Tryz
noncomputable section
section
def dC(es:List E):List D:=es.map D.e
theorem Tr(σ:Nat→Nat)(es:List E):(dC es).map (D.renC σ)=dC es:=by
 unfold dC;rw[pZ];exact rQ fun _ _=>rfl
theorem er(es:List E):(dC es).length=es.length:=bh _
theorem Ic {p:D→Bool}(h:∀e,p (.e e)=true)(es:List E):(dC es).all p=true:=by
 unfold dC;rw[KA];exact a7.2 fun e _=>h e
structure bT {β:Type}(F:List E)(c':Cd β)(o:Nat)(b:β)(F':β→List E):Prop where
 le:o+c'.sz≤F.length
 g:(F.drop o).take c'.sz=c'.f b
 p:∀y,F.take o++c'.f y++F.drop (o+c'.sz)=F' y
section
variable {α β γ:Type} {F:List E}
theorem bT.id(c:Cd α)(x:α):bT (c.f x) c 0 x c.f:=
 ⟨by rw[c.h];omega,by rw[qu,gU (by rw[c.h];exact ay _)],fun y=>by rw[Eh,bp,Ca (by rw[c.h];exact ay _),nd,sL]⟩
theorem bT.comp {c1:Cd α}{c2:Cd β}{o1 o2:Nat}{b1:α}{b2:β}{F1:α→List E}{P2:β→List E}{P:β→α}(h1:bT F c1 o1 b1 F1)(h2:bT (c1.f b1) c2 o2 b2 P2)(hp:∀y,P2 y=c1.f (P y)):bT F c2 (o1+o2) b2 (fun y=>F1 (P y)):=by
 have l1:=h1.le
 have l2:=h2.le
 rw[c1.h] at l2
 refine⟨by omega,?_,fun y=>?_⟩
 ·rw[←h2.g,←h1.g,←qr,KE,GU,sJ (by omega)]
 ·rw[←h1.p (P y),←hp y,←h2.p y,←h1.g,GU,sJ (by omega),List.take_add]
  have e:((F.drop o1).take c1.sz).drop (o2+c2.sz)++F.drop (o1+c1.sz)=F.drop (o1+o2+c2.sz):=by
   have e1:F.drop (o1+c1.sz)=(F.drop o1).drop c1.sz:=(qr ..).symm
   rw[e1,←MY (by rw[ee,eV];omega),td,qr,xz]
  rw[←e]
  simp only[c0]
theorem bT.of {c':Cd β}{o:Nat}{b:β}{F':β→List E}(A C:List E)(hA:A.length=o)(hF:F=A++(c'.f b++C))(hp:∀y,F' y=A++(c'.f y++C)):bT F c' o b F':=by
 subst hA hF
 refine⟨by simp[c'.h],?_,fun y=>?_⟩
 ·rw[ta,uK (by rw[c'.h];exact ay _),gU (by rw[c'.h];exact ay _)]
 ·rw[hp,vh,←qr,ta,←c'.h b,ta,c0]
theorem bT.seq [Inhabited α](c:Cd α)(l:List α)(i:Nat)(h:i<l.length):bT (l.flatMap c.f) c (i*c.sz) l[i]! (fun y=>(l.set i y).flatMap c.f):=by
 have hl:(l.flatMap c.f).length=l.length*c.sz:=ib c.f c.h l
 have hm:(i+1)*c.sz≤l.length*c.sz:=cG _ h
 rw[bU,eT] at hm
 refine⟨by rw[hl];exact hm,?_,fun y=>?_⟩
 ·have:=jX c.f c.h (l.drop i) 1
  rw[eT] at this
  rw[nN c.f c.h,this,EH h,bJ l i h,MX,Eh,nC,List.flatMap_nil,sL]
 ·rw[jX c.f c.h,show i*c.sz+c.sz=(i+1)*c.sz by rw[bU,eT],nN c.f c.h,T6,ai h,IC,nC,c0]
theorem zp [Inhabited α]{n:Nat}(v:Vector α n){i:Nat}(h:i<n):v.toList[i]! =v[i]! :=by
 rw[bJ v.toList i (by rw[nB];exact h),bJ v i h,Vector.getElem_toList]
theorem vec_set {n:Nat}(v:Vector α n)(i:Nat)(y:α):(v.set! i y).toList=v.toList.set i y:=by
 show (v.setIfInBounds i y).toList=_
 exact Vector.toList_setIfInBounds ..
theorem bT.vec [Inhabited α]{n:Nat}(c:Cd α)(v:Vector α n)(i:Nat)(h:i<n):bT ((cA n c).f v) c (i*c.sz) v[i]! (fun y=>(cA n c).f (v.set! i y)):=by
 have:=bT.seq c v.toList i (by rw[nB];exact h)
 rw[zp v h] at this
 refine⟨this.le,this.g,fun y=>?_⟩
 rw[show (cA n c).f (v.set! i y)=(v.set! i y).toList.flatMap c.f from rfl,vec_set]
 exact this.p y
end
section
variable {P:Program} {tb:TypeId→Option TyE} {dr:Bool} {ty:TypeId} {ev:Operand→D} {x y:Operand} {vs:List (Nat×List D)} {lv:List (Nat×Nat×Nat×TypeId)} {N k o:Nat} {F:List E} {β:Type} {c':Cd β} {b:β} {F':β→List E} {t:TypeId} {i:TyE}
theorem Ap(L:bT F c' o b F')(ht:tb t=some i)(hg:i.ty.agg=true:=by exact rfl)(hz:c'.sz=i.size:=by exact rfl)(hx:ev x=.pt k o:=by exact rfl)(hv:vs.lookup k=some (dC F):=by exact rfl)(hk:Nat.ble (k+1) N=true:=by exact rfl):AVC P tb dr (.load t x) ty ev ⟨vs,lv,N⟩ (Kq (dG c' b) ⟨vs,lv,N⟩):=by
 rw[qG,hx,n7,ht,hv]
 simp only[hg]
 refine⟨bc hk,by rw[er,←hz];exact L.le,?_⟩
 have:((dC F).drop o).take i.size=(c'.f b).map D.e:=by
  unfold dC
  rw[←yS,←wI,←hz,L.g]
 rw[this]
 exact Kq.here _ _
theorem wN {e:E}(L:bT F c' o b F')(ht:tb t=some i)(he:c'.f b=[e]:=by exact rfl)(hg:i.ty.agg=false:=by exact rfl)(hx:ev x=.pt k o:=by exact rfl)(hv:vs.lookup k=some (dC F):=by exact rfl)(hk:Nat.ble (k+1) N=true:=by exact rfl):AVC P tb dr (.load t x) ty ev ⟨vs,lv,N⟩ (Kq (.e e) ⟨vs,lv,N⟩):=by
 have hs:c'.sz=1:=by rw[←c'.h b,he];rfl
 have DN:=L.g
 have hle:=L.le
 rw[hs] at DN hle
 rw[he] at DN
 rw[qG,hx,n7,ht,hv]
 simp only[hg]
 refine⟨bc hk,.e e,?_,Kq.here _ _⟩
 unfold dC
 rw[dQ]
 have:F[o]? =some e:=by
  have h0:(F.drop o)[0]? =F[o]? :=by rw[na,iB]
  have h1:((F.drop o).take 1)[0]? =(F.drop o)[0]? :=by rw[gz];rfl
  rw[←h0,←h1,DN]
  rfl
 rw[this];rfl
theorem yb {b':β}(L:bT F c' o b F')(ht:tb t=some i)(hy:(ev y).cells=some (dC (c'.f b')):=by exact rfl)(hz:c'.sz=i.size:=by exact rfl)(hx:ev x=.pt k o:=by exact rfl)(hv:vs.lookup k=some (dC F):=by exact rfl):AVC P tb dr (.store t x y) ty ev ⟨vs,lv,N⟩ (Kq .top ⟨(k,dC (F' b'))::vs,lv,N⟩):=by
 rw[Ef,hx,AH,ht,hv,hy]
 have hl:(dC (c'.f b')).length=i.size:=by rw[er,c'.h,hz]
 refine⟨hl,by rw[er,←hz];exact L.le,?_⟩
 have:(dC F).take o++dC (c'.f b')++(dC F).drop (o+(dC (c'.f b')).length)=dC (F' b'):=by
  rw[hl,←hz,←L.p b']
  unfold dC
  simp only[jz,wI,yS]
 rw[this]
 exact Kq.here _ _
theorem nD {b':β}{γ:Type}{c:Cd γ}{nw nm:γ}(L:bT F c' o b F')(ht:tb t=some i)(Ql:nw=nm)(hF:F' b'=c.f nw:=by exact rfl)(hy:(ev y).cells=some (dC (c'.f b')):=by exact rfl)(hz:c'.sz=i.size:=by exact rfl)(hx:ev x=.pt k o:=by exact rfl)(hv:vs.lookup k=some (dC F):=by exact rfl):AVC P tb dr (.store t x y) ty ev ⟨vs,lv,N⟩ (Kq .top ⟨(k,dC (c.f nm))::vs,lv,N⟩):=by
 have:=yb (P:=P) (dr:=dr) (ty:=ty) (lv:=lv) (N:=N) L ht hy hz hx hv
 rw[hF,Ql] at this
 exact this
theorem yd(ht:tb t=some i)(hz:i.zero.map E.lit=F:=by kernel_rfl):AVC P tb dr (.alloc t) ty ev ⟨vs,lv,N⟩ (Kq (.pt N 0) ⟨(N,dC F)::vs,lv,N+1⟩):=by
 subst hz
 have:=sO (P:=P) (dr:=dr) (ty:=ty) (ev:=ev) (vs:=vs) (lv:=lv) (N0:=N) ht
 unfold dC
 rw[pZ]
 exact this
theorem Uq(h:(ev x).cells=some (dC F):=by exact rfl):AVC P tb dr (.box t x) ty ev ⟨vs,lv,N⟩ (Kq (.pt N 0) ⟨(N,dC F)::vs,lv,N+1⟩):=gF h
variable {hp:Hp} {j:TyE} {e:TypeId} {n:Nat} {kn:IntKind} {v:Int}
variable {s tt:TypeId} {fi:Nat} {fs:List (Nat×TypeId)}
inductive FL (tb:TypeId→Option TyE) (fs:List (Nat×TypeId)):List E→List (Nat×List D)→List E→Prop
 |nil (F:List E):FL tb fs F [] F
 |cons {γ:Type} {c:Cd γ} {F F2:List E} {o i:Nat} {b y:γ} {F':γ→List E} {rest:List (Nat×List D)} {cs:List D} (L:bT F c o b F') (hp:n6 tb fs i=some (o,c.sz)) (hc:cs=dC (c.f y)) (h:FL tb fs (F' y) rest F2):FL tb fs F ((i,cs)::rest) F2
theorem FL.fill {F F2:List E}{qs:List (Nat×List D)}(h:FL tb fs F qs F2):fT (n6 tb fs) (dC F) qs=some (dC F2):=by
 induction h with
 |nil F=>rfl
 |cons L hp hc h ih=>
  rename_i c F F2 o i b y F' rest cs
  subst hc
  unfold fT
  rw[hp]
  dsimp only
  have hl:(dC (c.f y)).length=c.sz:=by rw[er,c.h]
  rw[ah (by rw[hl,er];have:=L.le;omega),hl,←ih]
  congr 1
  rw[←L.p y]
  unfold dC
  simp only[jz,wI,yS]
theorem gV {ps:List (Nat×Operand)}{qs:List (Nat×List D)}{F2:List E}(h:FL tb fs F qs F2)(ht:tb t=some i)(h0:i.zero.map E.lit=F:=by kernel_rfl)(hi:i.ty=.struct fs:=by exact rfl)(ha:(fs.all fun f=>(tb f.2).isSome)=true:=by exact rfl)(js:lY (ps.map fun p=>(p.1,ev p.2))=some qs:=by exact rfl):AVC P tb dr (.build t ps.toArray) ty ev hp (Kq (.ag (dC F2)) hp):=by
 subst h0
 rw[wv,tO,ht,js]
 simp only[hi]
 have:(i.zero.map fun v=>D.e (.lit v))=dC (i.zero.map E.lit):=by unfold dC;rw[pZ];rfl
 rw[this,h.fill]
 exact⟨fun f hf=>(a7.1 ha) f hf,Kq.here _ _⟩
theorem vC {σ:Nat→Nat}{m:Nat}{l:List (Nat×List D)}{F:List E}(h1:vs.lookup (σ k)=some (dC F))(hl:wkV σ m vs l)(h0:Nat.ble (k+1) m=true:=by exact rfl):wkV σ m vs ((k,dC F)::l):=
 ⟨⟨ltb h0,⟨_,h1,by rw[Tr];exact qK _⟩,Ic (fun _=>rfl) _,Ic (fun _=>rfl) _⟩,hl⟩
def rnV(ρ:Nat→Nat):List (Nat×List D)→List (Nat×List D)→Prop
 |[],[]=>True
 |p::l,q::l'=>(ρ p.1=q.1∧p.2.map (D.renC ρ)=q.2∧p.2.all D.okC=true)∧rnV ρ l l'
 |_,_=>False
theorem rnV.map {ρ:Nat→Nat}:∀{l l':List (Nat×List D)},rnV ρ l l'→l.map (fun p=>(ρ p.1,p.2.map (D.renC ρ)))=l'∧(l.all fun p=>p.2.all D.okC)=true
 |[],[],_=>⟨rfl,rfl⟩
 |p::l,q::l',h=>by
  obtain⟨h1,h2⟩:=rnV.map h.2
  obtain⟨a,b,c⟩:=h.1
  refine⟨?_,by rw[iK,c,h2];rfl⟩
  rw[j4,h1,a,b]
 |[],_::_,h=>h.elim
 |_::_,[],h=>h.elim
theorem rvN {ρ:Nat→Nat}:rnV ρ [] []:=trivial
theorem rvC {ρ:Nat→Nat}{k k2:Nat}{F:List E}{l l':List (Nat×List D)}(h:rnV ρ l l')(hk:ρ k=k2:=by exact rfl):rnV ρ ((k,dC F)::l) ((k2,dC F)::l'):=⟨⟨hk,Tr _ _,Ic (fun _=>rfl) _⟩,h⟩
theorem IH {x:Operand}{f:FuncId}{aS:List Operand}{ts:Array TypeId}{Oi:List D}{r r':D}{E8 nS vs Qg vs2:List (Nat×List D)}{E9 r5 lv Fa:List (Nat×Nat×Nat×TypeId)}{m n' N N2:Nat}(os:List Nat)
  (zW:ev x=.e (.lit (.func (.func f) #[] #[]))) (hc:HC P f Oi ⟨E8,E9,m⟩ r ⟨nS,r5,n'⟩) (ha:frA (fun i=>os.getD i 0) m (aS.map ev) Oi) (hv:wkV (fun i=>os.getD i 0) m vs E8) (hl:wkL (fun i=>os.getD i 0) m lv E9) (hrn:rnV (rn os m N) nS Qg)
  (pB:r.ren (rn os m N)=r') (hr:r.okF=true) (hos:os.length=m:=by exact rfl) (zV:os.Nodup:=by decide) (bH:(os.all fun o=>Nat.ble (o+1) N)=true:=by exact rfl)
  (JO:Qg++vs.filter (fun p=>!os.contains p.1)=vs2:=by exact rfl) (Qn:frL (rn os m N) os r5 lv=Fa:=by exact rfl) (hN:N+(n' - m)=N2:=by exact rfl)
  (hh:hvB tb ⟨.value x,aS.toArray,ts⟩=true:=by kernel_rfl):AVC P tb dr (.call ⟨.value x,aS.toArray,ts⟩) ty ev ⟨vs,lv,N⟩ (Kq r' ⟨vs2,Fa,N2⟩):=
 T_callH zW (HC.fr os hc ha hv hl hos zV bH hr hrn.map.2 pB (by unfold frV;rw[hrn.map.1,JO]) Qn hN) rfl hh
theorem ex_G {α:Type}(c:Cd α)(a:α):D.ex (dG c a)=dG c a:=by
 show D.ag (((c.f a).map D.e).map D.exC)=_
 rw[pZ];rfl
theorem ro {α:Type}(c:Cd α)(a:α):(D.ex (dG c a)).le (dG c a):=by rw[ex_G];exact ax _
theorem wO {off z m:Nat}(hb:0≤v∧v<(n:Int))(ht:tb t=some i)(he:tb e=some j)(hi:i.ty=.slice e:=by exact rfl)(hx:ev x=.ow m off z n:=by exact rfl)(hz:z=j.size:=by exact rfl)(hy:ev y=dI kn v:=by exact rfl):AVC P tb dr (.indexAddr t x y) ty ev hp (Kq (.pt m (off+v.toNat*j.size)) hp):=by
 rw[uA,hx,hy,sV,ht]
 simp only[hi,he]
 exact⟨hz,hb,Kq.here _ _⟩
end
section
variable {P:Program} {tb:TypeId→Option TyE}
structure EqC(tb:TypeId→Option TyE)(d:Nat)(t:TypeId){α:Type}(c:Cd α)(us:α→List Value):Prop where
 hf:∀x,c.f x=(us x).map E.lit
 ft:∀x,nr tb d t (us x)
 inj:∀x y,us x=us y↔x=y
theorem EqC.int {d:Nat}{t:TypeId}{k:IntKind}{i:TyE}(ht:tb t=some i)(hi:i.ty=.int k:=by exact rfl):EqC tb (d+1) t (cI k) (fun n=>[.int k n]):=
 ⟨fun _=>rfl,fun n=>by unfold nr;rw[ht];simp only[hi];exact⟨n,rfl⟩,fun x y=>by simp⟩
theorem EqC.bool {d:Nat}{t:TypeId}{i:TyE}(ht:tb t=some i)(hi:i.ty=.bool:=by exact rfl):EqC tb (d+1) t cB (fun n=>[.bool n]):=
 ⟨fun _=>rfl,fun n=>by unfold nr;rw[ht];simp only[hi];exact⟨n,rfl⟩,fun x y=>by simp⟩
theorem EqC.len {d:Nat}{t:TypeId}{α:Type}{c:Cd α}{us:α→List Value}(h:EqC tb d t c us)(x:α):(us x).length=c.sz:=by
 rw[←c.h x,h.hf,bh]
theorem Gg {α:Type}{f:α→List Value}{z:Nat}(hz:∀a,(f a).length=z):∀l:List α,(l.flatMap f).length=l.length*z
 |[]=>by simp
 |a::l=>by rw[nC,cu,hz,Gg hz l,rI,bU,eT,p6]
theorem Jk {α:Type}{f:α→List Value}{z:Nat}(hz:∀a,(f a).length=z):∀(l:List α) (i:Nat) (h:i<l.length),((l.flatMap f).drop (i*z)).take z=f l[i]
 |a::l,0,_=>by rw[gv,qu,nC,uK (by rw[hz];exact ay _),gU (by rw[hz];exact ay _)];rfl
 |a::l,i+1,h=>by
  rw[nC,bU,eT,p6,←hz a,←qr,ta,hz a]
  exact Jk hz l i (by simpa using h)
theorem Gi {α:Type}{f:α→List Value}{z:Nat}(hz:∀a,(f a).length=z)(hi:∀x y,f x=f y→x=y):∀l m:List α,l.length=m.length→l.flatMap f=m.flatMap f→l=m
 |[],[],_,_=>rfl
 |a::l,b::m,hl,h=>by
  rw[nC,nC] at h
  obtain⟨h1,h2⟩:=BC h (by rw[hz,hz])
  rw[hi a b h1,Gi hz hi l m (by simpa using hl) h2]
 |[],_::_,hl,_=>by simp at hl
 |_::_,[],hl,_=>by simp at hl
theorem EqC.arr {d n:Nat}{t e:TypeId}{α:Type}{c:Cd α}{us:α→List Value}{i j:TyE}(h:EqC tb d e c us)(ht:tb t=some i)(he:tb e=some j)(hi:i.ty=.arr n e:=by exact rfl)(hz:c.sz=j.size:=by exact rfl):EqC tb (d+1) t (cA n c) (fun v=>v.toList.flatMap us):=by
 refine⟨fun v=>?_,fun v=>?_,fun v w=>⟨fun hh=>?_,fun hh=>by rw[hh]⟩⟩
 ·show v.toList.flatMap c.f=_
  rw[List.map_flatMap]
  congr 1
  exact funext h.hf
 ·unfold nr
  rw[ht]
  simp only[hi,he]
  have hl:=h.len
  refine⟨by rw[Gg hl,nB,hz],fun q hq=>?_⟩
  rw[←hz,Jk hl _ _ (by rw[nB];exact hq)]
  exact h.ft _
 ·have:=Gi h.len (fun x y hxy=>(h.inj x y).1 hxy) v.toList w.toList (by rw[nB,nB]) hh
  exact Vector.toList_inj.1 this
theorem rx {d o off:Nat}{t:TypeId}{fs:List (Nat×TypeId)}{α:Type}{c:Cd α}{us:α→List Value}{j:TyE}{x:α}{rest:List Value}(h:EqC tb d t c us)(ht:tb t=some j)(ho:o=off)(hr:tL tb (nr tb d) fs (off+j.size) rest)(hz:c.sz=j.size:=by exact rfl):tL tb (nr tb d) ((o,t)::fs) off (us x++rest):=by
 unfold tL
 have hl:=h.len x
 rw[ht]
 refine⟨ho,?_,by rw[cu];omega,?_⟩
 ·rw[←hz,←hl,vh];exact h.ft x
 ·rw[←hz,←hl,ta,hl,hz];exact hr
theorem EqC.struct {d:Nat}{t:TypeId}{α:Type}{c:Cd α}{us:α→List Value}{i:TyE}{fs:List (Nat×TypeId)}(ht:tb t=some i)(hf:∀x,c.f x=(us x).map E.lit)(IZ:∀x,tL tb (nr tb d) fs 0 (us x))(FT:∀x y,us x=us y→x=y)(hi:i.ty=.struct fs:=by exact rfl):EqC tb (d+1) t c us:=
 ⟨hf,fun x=>by unfold nr;rw[ht];simp only[hi];exact IZ x,fun x y=>⟨FT x y,fun h=>by rw[h]⟩⟩
theorem pQ:∀us:List Value,lw (dC (us.map E.lit))=some us
 |[]=>rfl
 |u::us=>by
  show (lw (dC (us.map E.lit))).map (u::·)=_
  rw[pQ us];rfl
variable {dr:Bool} {ty:TypeId} {ev:Operand→D} {x y:Operand} {hp:Hp} {α:Type} {c:Cd α} {us:α→List Value} {a b:α} {t t':TypeId} {i:TyE}
theorem ET(tok:TOk P tb)(n:Nat)(hd:n≤10000)(h:EqC tb n t c us)(ht:tb t=some i)[DecidableEq α](hg:i.ty.agg=true:=by exact rfl)(hm:P.eqGuardType P.depth t=false:=by kernel_rfl)(hn:lI P n t=true:=by kernel_rfl)(hx:ev x=dG c a:=by exact rfl)(hy:ev y=dG c b:=by exact rfl):AVC P tb dr (.binOp .eql t x y t') ty ev hp (Kq (dB (decide (a=b))) hp):=by
 have e:∀z,(c.f z).map D.e=dC ((us z).map E.lit):=fun z=>by rw[h.hf];rfl
 exact T_geql tok n hd ht hg hm hn hx hy (by rw[e,pQ]) (by rw[e,pQ]) (h.ft a) (h.ft b) (h.inj a b)
theorem wP(tok:TOk P tb)(n:Nat)(hd:n≤10000)(h:EqC tb n t c us)(ht:tb t=some i)[DecidableEq α](hg:i.ty.agg=true:=by exact rfl)(hm:P.eqGuardType P.depth t=false:=by kernel_rfl)(hn:lI P n t=true:=by kernel_rfl)(hx:ev x=dG c a:=by exact rfl)(hy:ev y=dG c b:=by exact rfl):AVC P tb dr (.binOp .neq t x y t') ty ev hp (Kq (dB (decide (¬a=b))) hp):=by
 have e:∀z,(c.f z).map D.e=dC ((us z).map E.lit):=fun z=>by rw[h.hf];rfl
 exact T_gneq tok n hd ht hg hm hn hx hy (by rw[e,pQ]) (by rw[e,pQ]) (h.ft a) (h.ft b) (h.inj a b)
theorem Bi(c:Cd α){z:Nat}(hz:c.sz=z):∀(l:List α) (m:Nat) (pre rest:List D),pre.length=m*z→rest.length=l.length*z→fT (fun n=>some (n*z,z)) (pre++rest) ((l.zipIdx m).map fun p=>(p.2,dC (c.f p.1)))=some (pre++dC (l.flatMap c.f))
 |[],m,pre,rest,_,hr=>by
  have:rest=[]:=r7 (by simpa using hr)
  subst this;rfl
 |a::l,m,pre,rest,hp,hr=>by
  have hl:(dC (c.f a)).length=z:=by rw[er,c.h,hz]
  rw[rI,bU,eT] at hr
  show fT (fun n=>some (n*z,z)) (pre++rest) ((m,dC (c.f a))::(l.zipIdx (m+1)).map _)=_
  unfold fT
  dsimp only
  rw[ah (by rw[hl,cu];omega),←hp,vh,hl,←qr,ta]
  have:=Bi c hz l (m+1) (pre++dC (c.f a)) (rest.drop z) (by rw[cu,hl,hp,bU,eT]) (by rw[eV];omega)
  rw[this,c0]
  unfold dC
  rw[nC,jz]
theorem Bo:∀es:List E,ux (dC es)=some es
 |[]=>rfl
 |e::es=>by
  show (match D.cellE (.e e),ux (dC es) with|some x,some xs=>some (x::xs)|_,_=>none)=_
  rw[Bo es];rfl
theorem kT {vs:List (Nat×List D)}{lv:List (Nat×Nat×Nat×TypeId)}{N0:Nat}{e:TypeId}{j:TyE}{n:Nat}{ps:List (Nat×Operand)}(l:List α)(c:Cd α)(ht:tb t=some i)(he:tb e=some j)(hi:i.ty=.slice e:=by exact rfl)(hz:c.sz=j.size:=by exact rfl)(LN:Nat.ble (0+1) (j.size)=true:=by exact rfl)(La:l.length=n+1:=by exact rfl)(hn:Nat.ble ((n+1)*j.size) (16777216)=true:=by exact rfl)(js:lY (ps.map fun p=>(p.1,ev p.2))=some ((l.zipIdx 0).map fun p=>(p.2,dC (c.f p.1))):=by exact rfl)(hd:dr=false:=by exact rfl):
  AVC P tb dr (.buildSlice t (n+1) ps.toArray) ty ev ⟨vs,lv,N0⟩ (Kq (dO N0 c l) ⟨vs,(N0,l.length,j.size,e)::lv,N0+1⟩):=by
 have hf:=Bi c hz l 0 [] (List.replicate ((n+1)*j.size) (D.e .any)) (by simp) (by rw[s9,La])
 rw[nd,nd] at hf
 have:=ke (P:=P) (dr:=dr) (ty:=ty) (ev:=ev) (vs:=vs) (lv:=lv) (N0:=N0) ht he hi LN hn js hf (Bo _) hd
 show AVC _ _ _ _ _ _ _ (Kq (.own N0 c.sz l.length (l.flatMap c.f)) _)
 rw[hz,La]
 exact this
theorem Hq {tm:List (Nat×D)}{p:Tmp}{ty:TypeId}{j:Nat}{i:TyE}{F:List E}{k:D→Prop}(h:tm.lookup p=some (.pt j 0))(ht:tb ty=some i)(hg:i.ty.agg=true)(hv:hp.vars.lookup j=some (dC F))(hn:j<hp.next)(hl:F.length=i.size)(hk:k (.ag (dC F))):sR tb tm hp (.cell p ty) k:=
 Ra h ht hg hv hn (by rw[er,hl];omega) (by rw[qu,gU (by rw[er,hl];exact ay _)]) hk
end
end
section
structure FW(α:Type) where
 f:α→List E
def cW {α:Type}(c:Cd α):FW (List α):=⟨fun l=>l.flatMap c.f⟩
theorem bT.seqW {α:Type}[Inhabited α](c:Cd α)(l:List α)(i:Nat)(h:i<l.length):bT ((cW c).f l) c (0+i*c.sz) l[i]! (fun y=>(cW c).f (l.set i y)):=by
 rw[bp];exact bT.seq c l i h
def vOf {α:Type}[Inhabited α](n:Nat)(l:List α):Vector α n:=Vector.ofFn fun i=>l[i.val]!
theorem ym {α:Type}[Inhabited α]{n:Nat}{l:List α}(h:l.length=n):(vOf n l).toList=l:=by
 unfold vOf
 apply EG
 ·rw[nB,h]
 ·intro i h1 h2
  rw[Vector.getElem_toList,MW,bJ l i h2]
theorem vOf_f {α:Type}[Inhabited α](c:Cd α){n:Nat}{l:List α}(h:l.length=n):(cA n c).f (vOf n l)=l.flatMap c.f:=by
 show (vOf n l).toList.flatMap c.f=_
 rw[ym h]
theorem bT.sub {α:Type}[Inhabited α]{n:Nat}(m:Nat)(c:Cd α)(v:Vector α n)(i:Nat)(h:i+m≤n){o:Nat}(ho:i*c.sz=o):bT ((cA n c).f v) (cA m c) o (vOf m ((v.toList.drop i).take m)) (fun y=>((cA n c).f v).take o++(cA m c).f y++((cA n c).f v).drop (o+m*c.sz)):=by
 subst ho
 have hl:((v.toList.drop i).take m).length=m:=by rw[ee,eV,nB];omega
 refine⟨?_,?_,fun y=>rfl⟩
 ·rw[(cA n c).h]
  show i*c.sz+m*c.sz≤n*c.sz
  rw[←bU];exact cG _ h
 ·rw[vOf_f c hl]
  show ((v.toList.flatMap c.f).drop (i*c.sz)).take (m*c.sz)=_
  rw[nN c.f c.h,jX c.f c.h]
section
variable {P:Program} {tb:TypeId→Option TyE} {md:Md} {ev:Operand→D} {hp:Hp} {dst:Option Tmp} {ty2:TypeId} {pos:String} {af:Array Edge} {gd:Option (Nat×Bool)} {x y:Operand} {lo hi:Option Operand} {t t2 e:TypeId} {ti j:TyE} {k k' off o o' z n m:Nat} {l h:Int}
def P1(ev:Operand→D)(b:Option Operand)(F7 l:Int):Prop:=
 match b with
 |none=>l=F7
 |some y=>∃k,ev y=dI k l
theorem P1.val {b:Option Operand}{F7 l:Int}(h:P1 ev b F7 l){L:Nat}(hL:l=L){N:Nat}(hN:F7=N){g:Gh}{w:World}{ρ:Operand→Value}(hr:∀y,b=some y→aE hp g w (ev y) (ρ y)):(b.map ρ=none∧L=N)∨∃kd,b.map ρ=some (.int kd (L:Int)):=by
 cases b with
 |none=>exact .inl ⟨rfl,by have:l=F7:=h;omega⟩
 |some y=>
  obtain⟨kd,hy⟩:=h
  have:=hr y rfl
  rw[hy] at this
  exact .inr ⟨kd,by rw[←hL,nP,this.lit]⟩
theorem slA(tok:TOk P tb)(hb:0≤l∧l≤h∧h≤(n:Int)∧l<(n:Int))(ht:tb t=some ti)(he:tb e=some j)(DL:P1 ev lo 0 l)(NX:P1 ev hi (n:Int) h)(xN:ti.ty=.arr n e:=by exact rfl)(hx:ev x=.pt k off:=by exact rfl)(hn:Nat.ble n 1000000=true:=by exact rfl):
  mG P tb md ⟨dst,.slice t x lo hi none,ty2,pos,af,gd⟩ ev hp (.ow k (off+l.toNat*j.size) j.size (h - l).toNat) hp:=by
 refine (Snd.calm (dr:=md.dr) fun c5 _=>.pure fun B g w a hr xL=>?_).q (by cases md <;> rfl)
 have h1:=xL x (by simp[Op.operands])
 rw[hx] at h1
 obtain⟨L,rfl⟩:∃L:Nat,l=L:=⟨l.toNat,by omega⟩
 obtain⟨H,rfl⟩:∃H:Nat,h=H:=⟨h.toNat,by omega⟩
 have e1:((H:Int) - L).toNat=H - L:=by omega
 have hn':n≤1000000:=bc hn
 have hbd:=io (P:=P) (w:=w) false n n (lo.map a.eval) (hi.map a.eval) L H (DL.val rfl rfl fun y hy=>xL y (by subst hy;simp[Op.operands])) (NX.val rfl rfl fun y hy=>xL y (by subst hy;simp[Op.operands])) (by omega) (by omega)
 have hs:=tok.run_sizeOf he w
 generalize hv:a.eval x=v at h1
 cases h1 with
 |pt _ _ hk=>
  refine⟨.slice (some ⟨g.μ k,off+L*j.size,none⟩) (H - L) (n - L),?_,?_⟩
  ·have fk:¬n=L:=by omega
   have Qp:(⟨g.μ k,off,none⟩:Addr).add (L*j.size)=⟨g.μ k,off+L*j.size,none⟩:=by unfold Addr.add;split <;> simp_all
   simp[execOp,Instr.sliceAt,Instr.sureAddr,hv,run_underlying (tok.arr ht xN),hbd,hs,fk,Qp]
  ·rw[e1,bP]
   exact .ow _ _ _ _ _ hk (by omega) (by unfold maxLen;omega)
theorem slW(tok:TOk P tb)(hb:0≤l∧l≤h∧h≤(n:Int)∧l<(n:Int))(ht:tb t=some ti)(he:tb e=some j)(DL:P1 ev lo 0 l)(NX:P1 ev hi (n:Int) h)(xN:ti.ty=.slice e:=by exact rfl)(hx:ev x=.ow k off z n:=by exact rfl)(hz:z=j.size:=by exact rfl):
  mG P tb md ⟨dst,.slice t x lo hi none,ty2,pos,af,gd⟩ ev hp (.ow k (off+l.toNat*z) z (h - l).toNat) hp:=by
 subst hz
 refine (Snd.calm (dr:=md.dr) fun c5 _=>.pure fun B g w a hr xL=>?_).q (by cases md <;> rfl)
 have h1:=xL x (by simp[Op.operands])
 rw[hx] at h1
 obtain⟨L,rfl⟩:∃L:Nat,l=L:=⟨l.toNat,by omega⟩
 obtain⟨H,rfl⟩:∃H:Nat,h=H:=⟨h.toNat,by omega⟩
 have e1:((H:Int) - L).toNat=H - L:=by omega
 have hs:=tok.run_sizeOf he w
 generalize hv:a.eval x=v at h1
 cases h1 with
 |ow _ _ _ _ c hk p9 oR=>
  have hbd:=io (P:=P) (w:=w) true n c (lo.map a.eval) (hi.map a.eval) L H (DL.val rfl rfl fun y hy=>xL y (by subst hy;simp[Op.operands])) (NX.val rfl rfl fun y hy=>xL y (by subst hy;simp[Op.operands])) (by omega) (by omega)
  refine⟨.slice (some ⟨g.μ k,off+L*j.size,none⟩) (H - L) (c - L),?_,?_⟩
  ·have fk:¬c=L:=by omega
   have Qp:(⟨g.μ k,off,none⟩:Addr).add (L*j.size)=⟨g.μ k,off+L*j.size,none⟩:=by unfold Addr.add;split <;> simp_all
   simp[execOp,Instr.sliceAt,Instr.slice,hv,run_underlying (tok.slice ht xN),hbd,hs,fk,Qp]
  ·rw[e1,bP]
   exact .ow _ _ _ _ _ hk (by omega) (by omega)
theorem sPtr(tok:TOk P tb)(hm:Nat.ble m n=true)(ht:tb t=some ti)(xN:ti.ty=.arr m e:=by exact rfl)(hx:ev x=.ow k off z n:=by exact rfl):
  mG P tb md ⟨dst,.sliceToArrayPointer t x,ty2,pos,af,gd⟩ ev hp (.pt k off) hp:=by
 refine (Snd.calm (dr:=md.dr) fun c5 _=>.pure fun B g w a hr xL=>?_).q (by cases md <;> rfl)
 have h1:=xL x (by simp[Op.operands])
 rw[hx] at h1
 have hm':=bc hm
 generalize hv:a.eval x=v at h1
 cases h1 with
 |ow _ _ _ _ c hk p9 oR=>
  refine⟨.pointer (some ⟨g.μ k,off,none⟩),?_,.pt _ _ hk⟩
  have fk:¬n<m:=by omega
  simp[execOp,Instr.arrayAt,hv,run_underlying (tok.arr ht xN),fk]
theorem BD {dr:Bool}{ty:TypeId}(ht:tb t=some ti)(he:tb e=some j)(hi:ti.ty=.slice e:=by exact rfl)(hx:ev x=.ow k off z n:=by exact rfl):AVC P tb dr (.call ⟨.builtin .len,#[x],#[t]⟩) ty ev hp (Kq (dI .i64 n) hp):=by
 show j3 tb .len [t] [ev x] hp _
 rw[B8,NO,ht]
 simp only[hi,he,hx,D.asSl]
 exact Kq.here _ _
theorem T_stVw {dr:Bool}{ty:TypeId}{vs:List (Nat×List D)}{lv:List (Nat×Nat×Nat×TypeId)}{N:Nat}{F:List E}{β γ:Type}{c':Cd β}{b b':β}{F':β→List E}{c:Cd γ}{nw nm:List γ}(L:bT F c' o b F')(ht:tb t=some ti)(Ql:nw=nm)(hF:F' b'=(cW c).f nw:=by exact rfl)(hy:(ev y).cells=some (dC (c'.f b')):=by exact rfl)(hz:c'.sz=ti.size:=by exact rfl)(hx:ev x=.pt k o:=by exact rfl)(hv:vs.lookup k=some (dC F):=by exact rfl):AVC P tb dr (.store t x y) ty ev ⟨vs,lv,N⟩ (Kq .top ⟨(k,dC ((cW c).f nm))::vs,lv,N⟩):=by
 have:=yb (P:=P) (dr:=dr) (ty:=ty) (lv:=lv) (N:=N) L ht hy hz hx hv
 rw[hF,Ql] at this
 exact this
theorem Gx(z:Array Value)(s:Nat)(hs:z.size=s):∀n:Nat,(madeCells z (n*s)).toList=(List.replicate n z.toList).flatten
 |0=>by simp[madeCells]
 |n+1=>by
  have ih:=Gx z s hs n
  unfold madeCells at ih ⊢
  rw[Array.toList_map,Array.toList_range] at ih ⊢
  rw[bU,eT,List.range_add,jz,ih,List.replicate_succ',List.flatten_append]
  congr 1
  rw[pZ,List.flatten_cons,List.flatten_nil,sL]
  apply EG
  ·simp[hs]
  ·intro i h1 h2
   have hi:i<s:=by simpa using h1
   simp only[EF,MV,Function.comp]
   rw[hs,bx,Nat.mul_add_mod,ej hi,bJ z i (by omega),Array.getElem_toList]
theorem sMk {α:Type}{c:Cd α}{z0:α}{kl kc:IntKind}{v:Int}{hp':Hp}(tok:TOk P tb)(hb:0≤v∧v≤1000000)(ht:tb t=some ti)(he:tb e=some j)(hz:j.zero.map E.lit=c.f z0)(xN:ti.ty=.slice e:=by exact rfl)(hx:ev x=dI kl v:=by exact rfl)(hy:ev y=dI kc v:=by exact rfl)(hbt:Nat.ble j.bytes 100000000=true:=by exact rfl)(js:hp.var (dC ((cW c).f (List.replicate v.toNat z0)))=hp':=by exact rfl):
  mG P tb md ⟨dst,.makeSlice t x y,ty2,pos,af,gd⟩ ev hp (.ow hp.next 0 j.size v.toNat) hp':=by
 subst js
 refine (Snd.loud (dr:=md.dr) (.step fun B g w a hr xL=>?_) (fun _=>rfl) fun _=>⟨jo _,fun j hj=>am (by omega)⟩).q (by cases md <;> rfl)
 have h1:=xL x (by simp[Op.operands])
 have h2:=xL y (by simp[Op.operands])
 rw[hx] at h1;rw[hy] at h2
 obtain⟨f,zz,Qo,N4,Cs,N3,hf4,_⟩:=tok.inf he
 have hbt':f.bytes≤100000000:=by rw[Cs];exact bc hbt
 obtain⟨m,rfl⟩:∃m:Nat,v=m:=⟨v.toNat,by omega⟩
 have hm:m≤1000000:=by omega
 have NT:f.bytes*m≤281474976710656:=dA (kS hbt' hm) (by decide)
 have bW:=run_make (P:=P) w t e f zz (tok.slice ht xN) Qo N3 kl kc m m (by omega) (by omega) (by rw[←iJ];exact Int.ofNat_le.2 NT) (by omega)
 rw[bP] at bW
 have hsz:zz.cells.size=f.size:=by
  have h4:=(tok e j he).2.2.1
  rw[←iF,hf4,h4,N4]
 have hlist:=Gx zz.cells f.size hsz m
 have hcont:(cW c).f (List.replicate m z0)=(madeCells zz.cells (m*f.size)).toList.map E.lit:=by
  rw[hlist,hf4,List.map_flatten,EE,hz]
  show (List.replicate m z0).flatMap c.f=_
  rw[List.flatMap_def,EE]
 have h1c:∀u∈(madeCells zz.cells (m*f.size)).toList,u.oneCell'=true:=by
  intro u hu
  rw[hlist,hf4] at hu
  obtain⟨l,hl,NS⟩:=List.mem_flatten.1 hu
  obtain rfl:=(List.mem_replicate.1 hl).2
  exact a7.1 (tok e j he).2.2.2 u NS
 refine⟨.slice (some ⟨w.heap.size,0,none⟩) m m,_,w.alloc (.cells (madeCells zz.cells (m*f.size)) e),?_,hr.newVar _ _ e ?_ (fun i u hu=>?_),cE.var hp g w _ _,?_,(Below.refl _ _).alloc hr.base _,fun p _ h=>.inl h⟩
 ·have e1:=h1.lit
  have e2:=h2.lit
  simp only[execOp,e1,e2,Sem.run_bind,bW,Result.andThen_ok]
  rfl
 ·rw[bP,hcont,er,bh,iF];exact ay _
 ·have va:(madeCells zz.cells (m*f.size)).toList[i]? =some u:=by simpa using hu
  refine⟨fun _=>h1c u (dZ va),fun d hd=>?_⟩
  rw[bP,hcont] at hd
  unfold dC at hd
  rw[dQ,dQ,va] at hd
  injection hd with hd
  subst hd
  exact .e _ _ (.lit u (h1c u (dZ va)))
 ·rw[bP]
  have:=aE.ow (hp:=hp.var (dC ((cW c).f (List.replicate ((m:Int).toNat) z0)))) (g:=g.var hp.next w.heap.size) (w:=w.alloc (.cells (madeCells zz.cells (m*f.size)) e)) hp.next 0 j.size m m (eo _) (ay _) (by unfold maxLen;omega)
  rwa[show (g.var hp.next w.heap.size).μ hp.next=w.heap.size from ai rfl] at this
theorem O3(w:World)(t t2 ty e:TypeId)(i:TypeInfo)(hu:P.underlying t=some (.slice e))(hi:P.info? e=some i)(b o n c:Nat)(A:Option Addr)(m c':Nat)(cur:Array Value)(tt:TypeId)(cs:List Value)(hA:0<m→∃ad,A=some ad)(hl:cs.length=min m n*i.size)
  (R1:∀ad,A=some ad→∀j v,cs[j]? =some v→w.cell? (ad.add j)=some v) (hg:w.heap[b]? =some (.cells cur tt (0,0))) (FU:o+cs.length≤cur.size) (h1:∀v∈cs,v.oneCell'=true):
  (Builtin.copy_ #[t,t2] ty #[.slice (some ⟨b,o,none⟩) n c,.slice A m c']).run P w=   .ok (goInt ((min m n:Nat):Int)) (w.setRow b (cur.toList.take o++cs++cur.toList.drop (o+cs.length)).toArray):=by
 have GC:=run_storeCells_at P b o tt cs 0 cur w hg (by simpa using FU) h1
 have e0:Nat.min m n=min m n:=rfl
 cases A with
 |none=>
  have hm:m=0:=by
   rcases rJ m with h|h
   ·exact h
   ·obtain⟨_,h⟩:=hA h;cases h
  subst hm
  have:cs=[]:=r7 (by rw[hl];simp)
  subst this
  simp at GC
  simp[Builtin.copy_,run_underlying hu,Builtin.lenOf,Builtin.firstCells,sizeOf,typeInfo,hi,GC]
 |some a=>
  have Fg:=run_loadCells_list (P:=P) w a cs (R1 a rfl)
  rw[hl] at Fg
  simp[Builtin.copy_,run_underlying hu,Builtin.lenOf,Builtin.firstCells,sizeOf,typeInfo,hi,e0,Fg,GC]
def wS(hp:Hp)(d:D)(z m:Nat)(xs:List E):Prop:=xs.length=m*z∧∀(B:Nat) (g:Gh) (w:World) (v:Value),HR B hp g w→aE hp g w d v→
 ∃A c us,v=.slice A m c∧(0<m→∃ad,A=some ad)∧(∀ad,A=some ad→∀j u,us[j]? =some u→w.cell? (ad.add j)=some u)∧Pw (c9 w g.F) xs us
theorem wS.own {vs:List (Nat×List D)}{lv:List (Nat×Nat×Nat×TypeId)}{N:Nat}{F:List E}{xs:List E}(hv:vs.lookup k=some (dC F))(hle:off+m*z≤F.length)(hF:(F.drop off).take (m*z)=xs):wS ⟨vs,lv,N⟩ (.ow k off z m) z m xs:=by
 subst hF
 refine⟨by rw[ee,eV];omega,fun B g w v hr hd=>?_⟩
 cases hd with
 |ow _ _ _ _ c hk p9 oR=>
  obtain⟨h1,h2,h3,cs,ty,h4,h5,h6⟩:=hr.var k _ hv
  rw[er] at h5
  refine⟨_,c,(cs.toList.drop off).take (m*z),rfl,fun _=>⟨_,rfl⟩,fun ad ha j u hu=>?_,?_,fun j x u hx hu=>?_⟩
  ·injection ha with ha
   subst ha
   rw[gz] at hu
   split at hu
   ·rw[na,KG] at hu
    have Qp:(⟨g.μ k,off,none⟩:Addr).add j=⟨g.μ k,off+j,none⟩:=by unfold Addr.add;split <;> simp_all
    rw[Qp]
    simpa[World.cell?,h4] using hu
   ·cases hu
  ·simp only[ee,eV,iF];omega
  ·rw[gz] at hx hu
   split at hx
   ·rename_i hj
    rw[ai hj,na,KG] at hu
    rw[na] at hx
    have:=(h6 (off+j) u hu).2 (.e x) (by unfold dC;rw[dQ,hx];rfl)
    cases this
    assumption
   ·cases hx
theorem wS.dat {hp:Hp}{d:D}{z m:Nat}{xs:List E}(h:d.asSl z=some (m,xs))(hl:xs.length=m*z):wS hp d z m xs:=by
 refine⟨hl,fun B g w v hr hd=>?_⟩
 obtain⟨A,c,rfl,cM⟩:=rE hd h
 obtain⟨_,_,_,_,hA,us,NS,hc,hp⟩:=cM.reads
 exact⟨A,c,us,rfl,fun hm=>(hA hm).imp fun ad h=>h.1,fun ad ha j u hu=>(hc ad ha j u hu).1,hp⟩
theorem c9.oneL {w:World}{F:Addr→Prop}{xs:List E}{us:List Value}(h:Pw (c9 w F) xs us):∀u∈us,u.oneCell'=true:=by
 intro u hu
 obtain⟨i,hi⟩:=List.mem_iff_getElem?.1 hu
 have:i<xs.length:=by rw[h.1];exact (fy.1 hi).1
 exact (h.2 i xs[i] u (cz this) hi).one
theorem sCp {vs:List (Nat×List D)}{lv:List (Nat×Nat×Nat×TypeId)}{N:Nat}{F xs:List E}(tok:TOk P tb)(ht:tb t=some ti)(he:tb e=some j)(hs:wS ⟨vs,lv,N⟩ (ev y) z m xs)(hv:vs.lookup k=some (dC F))(FU:off+n*z≤F.length)(xN:ti.ty=.slice e:=by exact rfl)(hx:ev x=.ow k off z n:=by exact rfl)(hz:z=j.size:=by exact rfl):
  mG P tb md ⟨dst,.call ⟨.builtin .copy,#[x,y],#[t,t2]⟩,ty2,pos,af,gd⟩ ev ⟨vs,lv,N⟩ (dI .i64 (min m n:Nat)) ⟨(k,dC (F.take off++xs.take (min m n*z)++F.drop (off+min m n*z)))::vs,lv,N⟩:=by
 subst hz
 refine (Snd.loud (dr:=md.dr) (.step fun B g w a hr xL=>?_) (fun _=>rfl) fun h=>by simp[xt,cpB] at h).q (by cases md <;> rfl)
 have h1:=xL x (cK (by simp))
 have h2:=xL y (cK (by simp))
 rw[hx] at h1
 obtain⟨Bf,hs⟩:=hs
 obtain⟨A,c',us,hy,hA,R1,xv⟩:=hs B g w _ hr h2
 obtain⟨q1,q2,q3,cs,ty,q4,q5,q6⟩:=hr.var k _ hv
 rw[er] at q5
 obtain⟨f,zz,Qo,N4,_⟩:=tok.inf he
 have DI:min m n*j.size≤n*j.size:=cG _ (Nat.min_le_right _ _)
 have hmin2:min m n*j.size≤m*j.size:=cG _ (Nat.min_le_left _ _)
 have NS:us.length=m*j.size:=by rw[←xv.1,Bf]
 have htl:(us.take (min m n*j.size)).length=min m n*j.size:=by rw[ee];omega
 have hxt:(xs.take (min m n*j.size)).length=min m n*j.size:=by rw[ee];omega
 generalize hv1:a.eval x=v1 at h1
 cases h1 with
 |ow _ _ _ _ c hk p9 oR=>
  have hone:∀u∈us.take (min m n*j.size),u.oneCell'=true:=fun u hu=>c9.oneL xv u (OA hu)
  have bW:=O3 (P:=P) w t t2 ty2 e f (tok.slice ht xN) Qo (g.μ k) off n c A m c' cs ty (us.take (min m n*j.size)) hA (by rw[htl,N4]) (fun ad ha i v hi=>R1 ad ha i v (by
   rw[gz] at hi
   split at hi
   ·exact hi
   ·cases hi)) q4 (by omega) hone
  have Su:=setRow_heap w (g.μ k) cs (cs.toList.take off++us.take (min m n*j.size)++cs.toList.drop (off+(us.take (min m n*j.size)).length)).toArray ty (0,0) q4
  have Sy:eO ⟨vs,lv,N⟩ g w (dC F) (cs.toList.take F.length):=⟨⟨by simp only[er,ee,iF];omega,fun i d u hd hu=>(q6 i u (by
   rw[gz] at hu
   split at hu
   ·simpa using hu
   ·cases hu)).2 d hd⟩,fun u hu=>by
   obtain⟨i,hi⟩:=List.mem_iff_getElem?.1 hu
   rw[gz] at hi
   split at hi
   ·rename_i bH
    exact (q6 i u (by simpa using hi)).1 (by rw[er];exact bH)
   ·cases hi⟩
  have hmid:eO ⟨vs,lv,N⟩ g w (dC (xs.take (min m n*j.size))) (us.take (min m n*j.size)):=by
   refine⟨⟨by rw[er,hxt,htl],fun i d u hd hu=>?_⟩,hone⟩
   unfold dC at hd
   rw[dQ] at hd
   cases hx':(xs.take (min m n*j.size))[i]? with
   |none=>rw[hx'] at hd;cases hd
   |some x'=>
    rw[hx'] at hd
    injection hd with hd
    subst hd
    exact .e _ _ ((xv.take _).2 i x' u hx' hu)
  have Cr:eO ⟨vs,lv,N⟩ g w (dC (F.take off++xs.take (min m n*j.size)++F.drop (off+min m n*j.size))) ((cs.toList.take off++us.take (min m n*j.size)++cs.toList.drop (off+(us.take (min m n*j.size)).length)).take F.length):=by
   have:=((Sy.take off).append hmid).append (Sy.drop (off+min m n*j.size))
   rw[htl]
   have e1:(cs.toList.take off++us.take (min m n*j.size)++cs.toList.drop (off+min m n*j.size)).take F.length=((cs.toList.take F.length).take off++us.take (min m n*j.size))++(cs.toList.take F.length).drop (off+min m n*j.size):=by
    have hlA:(cs.toList.take off++us.take (min m n*j.size)).length=off+min m n*j.size:=by rw[cu,htl,ee,iF];omega
    rw[T1,hlA,gU (by rw[hlA];omega),KE,GU,sJ (show off≤F.length by omega)]
   rw[e1]
   unfold dC at this ⊢
   simpa only[jz,wI,yS] using this
  have La:(F.take off++xs.take (min m n*j.size)++F.drop (off+min m n*j.size)).length=F.length:=by
   simp only[cu,ee,eV];omega
  have zS:=SzB.row (new:=(cs.toList.take off++us.take (min m n*j.size)++cs.toList.drop (off+(us.take (min m n*j.size)).length)).toArray) q4 (by simp only[rK,cu,ee,eV,iF];omega)
  refine⟨goInt ((min m n:Nat):Int),g,_,?_,hr.setVar hv _ _ ty (by simp[World.setRow]) (fun b hb=>setRow_other w _ b _ hb) Su (by rw[er,La];simp only[rK,cu,ee,eV,iF];omega) zS (fun i u hu=>?_),cE.setVar hr hv _ (by simp[World.setRow]) (fun b hb=>setRow_other w _ b _ hb) zS,.e _ _ (.lit _ rfl),xV w q2 _,fun _ _ h=>h⟩
  ·simp only[execOp,Array.map_map,al_5,j4,m9,resolve,invoke,builtin,hv1,hy,Sem.run_bind]
   simp[resolve,invoke,builtin,hv1,hy,bW]
  ·have va:(cs.toList.take off++us.take (min m n*j.size)++cs.toList.drop (off+(us.take (min m n*j.size)).length))[i]? =some u:=by simpa using hu
   have hw:i<F.length→((cs.toList.take off++us.take (min m n*j.size)++cs.toList.drop (off+(us.take (min m n*j.size)).length)).take F.length)[i]? =some u:=fun hi=>by
    rw[gz,ai hi];exact va
   exact⟨fun hi=>Cr.2 u (dZ (hw (by rw[er,La] at hi;exact hi))),fun d hd=>Cr.1.2 i d u hd (hw (by rw[←La,←er];exact (fy.1 hd).1))⟩
def lCp {α:Type}(l:List α)(o:Nat)(s:List α):List α:=l.take o++s++l.drop (o+s.length)
theorem lCp_len {α:Type}{l s:List α}{o:Nat}(h:o+s.length≤l.length):(lCp l o s).length=l.length:=by
 unfold lCp;simp only[cu,ee,eV];omega
theorem JL {α:Type}(c:Cd α)(l s:List α)(o:Nat):(lCp l o s).flatMap c.f=(l.flatMap c.f).take (o*c.sz)++s.flatMap c.f++(l.flatMap c.f).drop (o*c.sz+s.length*c.sz):=by
 unfold lCp
 rw[IC,IC,jX c.f c.h,←bU,nN c.f c.h]
section
variable {α:Type} [Inhabited α] {c:Cd α} {vs:List (Nat×List D)} {lv:List (Nat×Nat×Nat×TypeId)} {N N0:Nat}
theorem wS.arr {v:Vector α N0}(hv:vs.lookup k=some (dC ((cA N0 c).f v)))(o:Nat)(hm:o+m≤N0)(ho:off=o*c.sz:=by exact rfl)(hz:z=c.sz:=by exact rfl):wS ⟨vs,lv,N⟩ (.ow k off z m) z m (((v.toList.drop o).take m).flatMap c.f):=by
 subst ho hz
 refine wS.own hv ?_ ?_
 ·rw[(cA N0 c).h]
  show o*c.sz+m*c.sz≤N0*c.sz
  rw[←bU];exact cG _ hm
 ·show ((v.toList.flatMap c.f).drop (o*c.sz)).take (m*c.sz)=_
  rw[nN c.f c.h,jX c.f c.h]
theorem wS.lst {l:List α}(hv:vs.lookup k=some (dC ((cW c).f l)))(o:Nat)(hm:o+m≤l.length)(ho:off=o*c.sz:=by exact rfl)(hz:z=c.sz:=by exact rfl):wS ⟨vs,lv,N⟩ (.ow k off z m) z m (((l.drop o).take m).flatMap c.f):=by
 subst ho hz
 refine wS.own hv ?_ ?_
 ·show _≤(l.flatMap c.f).length
  rw[ib c.f c.h,←bU];exact cG _ hm
 ·show ((l.flatMap c.f).drop (o*c.sz)).take (m*c.sz)=_
  rw[nN c.f c.h,jX c.f c.h]
theorem sCpA {v:Vector α N0}{s:List α}{r:List (Nat×List D)}(tok:TOk P tb)(ht:tb t=some ti)(he:tb e=some j)(hs:wS ⟨vs,lv,N⟩ (ev y) z m (s.flatMap c.f))(Fc:s.length=m)(hv:vs.lookup k=some (dC ((cA N0 c).f v)))(o:Nat)(FU:o+n≤N0)(hr:(k,dC ((cA N0 c).f (vOf N0 (lCp v.toList o (s.take n)))))::vs=r)(ho:off=o*c.sz:=by exact rfl)(GA:z=c.sz:=by exact rfl)(xN:ti.ty=.slice e:=by exact rfl)(hx:ev x=.ow k off z n:=by exact rfl)(hz:z=j.size:=by exact rfl):
  mG P tb md ⟨dst,.call ⟨.builtin .copy,#[x,y],#[t,t2]⟩,ty2,pos,af,gd⟩ ev ⟨vs,lv,N⟩ (dI .i64 (min m n:Nat)) ⟨r,lv,N⟩:=by
 subst ho GA hr
 have:=sCp (P:=P) (md:=md) (dst:=dst) (ty2:=ty2) (pos:=pos) (af:=af) (gd:=gd) (t2:=t2) (lv:=lv) tok ht he hs hv (by
  rw[(cA N0 c).h]
  show _≤N0*c.sz
  rw[←bU];exact cG _ FU) xN hx hz
 have e1:(s.take n).length=min m n:=by rw[ee,Fc,Nat.min_comm]
 have e2:(cA N0 c).f (vOf N0 (lCp v.toList o (s.take n)))=((cA N0 c).f v).take (o*c.sz)++(s.flatMap c.f).take (min m n*c.sz)++((cA N0 c).f v).drop (o*c.sz+min m n*c.sz):=by
  rw[vOf_f c (by rw[lCp_len (by rw[e1,nB];have:=Nat.min_le_right m n;omega),nB]),JL,e1]
  have e3:(s.flatMap c.f).take (min m n*c.sz)=(s.take n).flatMap c.f:=by
   rw[jX c.f c.h]
   congr 1
   rcases Nat.le_total m n with h|h
   ·rw[sJ h,gU (by omega),gU (by omega)]
   ·rw[Nat.min_eq_right h]
  rw[e3];rfl
 rw[e2];exact this
theorem sCpW {l s:List α}{r:List (Nat×List D)}(tok:TOk P tb)(ht:tb t=some ti)(he:tb e=some j)(hs:wS ⟨vs,lv,N⟩ (ev y) z m (s.flatMap c.f))(Fc:s.length=m)(hv:vs.lookup k=some (dC ((cW c).f l)))(o:Nat)(FU:o+n≤l.length)(hr:(k,dC ((cW c).f (lCp l o (s.take n))))::vs=r)(ho:off=o*c.sz:=by exact rfl)(GA:z=c.sz:=by exact rfl)(xN:ti.ty=.slice e:=by exact rfl)(hx:ev x=.ow k off z n:=by exact rfl)(hz:z=j.size:=by exact rfl):
  mG P tb md ⟨dst,.call ⟨.builtin .copy,#[x,y],#[t,t2]⟩,ty2,pos,af,gd⟩ ev ⟨vs,lv,N⟩ (dI .i64 (min m n:Nat)) ⟨r,lv,N⟩:=by
 subst ho GA hr
 have:=sCp (P:=P) (md:=md) (dst:=dst) (ty2:=ty2) (pos:=pos) (af:=af) (gd:=gd) (t2:=t2) (lv:=lv) tok ht he hs hv (by
  show _≤(l.flatMap c.f).length
  rw[ib c.f c.h,←bU];exact cG _ FU) xN hx hz
 have e1:(s.take n).length=min m n:=by rw[ee,Fc,Nat.min_comm]
 have e2:(cW c).f (lCp l o (s.take n))=((cW c).f l).take (o*c.sz)++(s.flatMap c.f).take (min m n*c.sz)++((cW c).f l).drop (o*c.sz+min m n*c.sz):=by
  show (lCp l o (s.take n)).flatMap c.f=_
  rw[JL,e1]
  have e3:(s.flatMap c.f).take (min m n*c.sz)=(s.take n).flatMap c.f:=by
   rw[jX c.f c.h]
   congr 1
   rcases Nat.le_total m n with h|h
   ·rw[sJ h,gU (by omega),gU (by omega)]
   ·rw[Nat.min_eq_right h]
  rw[e3];rfl
 rw[e2];exact this
end
theorem WkS.free {tm:List (Nat×D)}{vs:List (Nat×List D)}{lv:List (Nat×Nat×Nat×TypeId)}{N k:Nat}{ds:List D}(hv:vs.lookup k=some ds):∀(B:Nat) (g:Gh) (w:World) (ρ:Nat→Value),HR B ⟨vs,lv,N⟩ g w→(∀t d,tm.lookup t=some d→aE ⟨vs,lv,N⟩ g w d (ρ t))→
  ∃g':Gh,g'=⟨g.μ,g.τ,fun p=>g.F p∧p.block≠g.μ k⟩∧HR B ⟨vs.filter fun p=>!([k]:List Nat).contains p.1,lv,N⟩ g' w∧cE ⟨vs,lv,N⟩ g w ⟨vs.filter fun p=>!([k]:List Nat).contains p.1,lv,N⟩ g' w∧(∀t d,tm.lookup t=some d→aE ⟨vs.filter fun p=>!([k]:List Nat).contains p.1,lv,N⟩ g' w d (ρ t))∧∀p:Addr,p.block<B→g.F p→g'.F p:=by
 intro B g w ρ hr nI
 obtain⟨h1,h2,h3,cs,ty,h4,h5,h6⟩:=hr.var k _ hv
 have look:∀{j:Nat} {ds:List D},(vs.filter fun p=>!([k]:List Nat).contains p.1).lookup j=some ds→j≠k∧vs.lookup j=some ds:=by
  intro j ds h
  obtain⟨a,b⟩:=i7 h
  exact⟨by simpa using a,b⟩
 have fk:∀{j:Nat} {ds:List D},j≠k→vs.lookup j=some ds→g.μ j≠g.μ k:=fun hj hl e=>hj (hr.inj _ _ _ _ hl hv e)
 have mo:cE ⟨vs,lv,N⟩ g w ⟨vs.filter fun p=>!([k]:List Nat).contains p.1,lv,N⟩ ⟨g.μ,g.τ,fun p=>g.F p∧p.block≠g.μ k⟩ w:=by
  refine⟨ay _,fun _ _ _=>rfl,fun _ _ h=>h.1,ay _,fun _ _=>rfl,fun _ _ m _ h=>⟨m,h,ay _,fun _=>rfl⟩,fun b hb hf=>⟨rfl,fun p hp hq=>⟨hq,?_⟩,fun j ds hj=>hf.1 j ds (look hj).2,hf.2⟩,fun _=>.same fun _=>rfl⟩
  rw[hp];exact fun e=>hf.1 k _ hv e.symm
 refine⟨_,rfl,⟨fun j ds hj=>?_,fun j j' ds ds' hj BU he=>hr.inj j j' ds ds' (look hj).2 (look BU).2 he,fun id m e hi=>?_,hr.tinj,hr.base,fun p hp=>hr.fits p hp.1⟩,mo,fun t' d hd=>(nI t' d hd).mono mo,fun p hp hq=>⟨hq,?_⟩⟩
 ·obtain⟨a1,a2⟩:=look hj
  obtain⟨b1,b2,b3,wr,K8,b4,b5,b6⟩:=hr.var j ds a2
  exact⟨b1,b2,fun p hp=>⟨b3 p hp,by rw[hp];exact fk a1 a2⟩,wr,K8,b4,b5,fun i u hu=>⟨(b6 i u hu).1,fun d hd=>((b6 i u hu).2 d hd).mono mo⟩⟩
 ·obtain⟨b1,us,b2,b3,b4⟩:=hr.tok id m e hi
  exact⟨b1,us,b2,b3,fun b hb=>⟨fun p hp hq=>⟨(b4 b hb).1 p hp hq,by rw[hp];exact fun e=>(b4 b hb).2 k _ hv e.symm⟩,fun j ds hj=>(b4 b hb).2 j ds (look hj).2⟩⟩
 ·intro e
  omega
theorem Dv {tm:List (Nat×D)}{d0:D}:∀{ts:List Nat} {t:Nat} {d:D},(ts.map (fun t=>(t,d0))++tm).lookup t=some d→(t∈ts∧d=d0)∨tm.lookup t=some d
 |[],t,d,h=>.inr h
 |s::ts,t,d,h=>by
  by_cases GC:t=s
  ·subst GC
   have:some d0=some d:=by rw[←h];exact aa.symm
   injection this with this
   exact .inl ⟨qv ..,this.symm⟩
  ·rcases Dv (ts:=ts) (t:=t) (d:=d) (by rw[←h];exact (am GC).symm) with⟨h1,h2⟩|h1
   ·exact .inl ⟨oS _ h1,h2⟩
   ·exact .inr h1
theorem WkS.frzs {tm:List (Nat×D)}{vs:List (Nat×List D)}{lv:List (Nat×Nat×Nat×TypeId)}{N k z n:Nat}{F:List E}(ts:List Nat)(hz:0<z)(ht:∀t∈ts,tm.lookup t=some (.ow k 0 z n))(hv:vs.lookup k=some (dC F))(hF:F.length=n*z):
  WkS tm ⟨vs,lv,N⟩ (ts.map (fun t=>(t,.e (.sl z n F)))++tm) ⟨vs.filter fun p=>!([k]:List Nat).contains p.1,lv,N⟩:=by
 intro B g w ρ hr nI
 have one:∀t∈ts,∃g',(g':Gh)=⟨g.μ,g.τ,fun p=>g.F p∧p.block≠g.μ k⟩∧aE ⟨vs.filter fun p=>!([k]:List Nat).contains p.1,lv,N⟩ g' w (.e (.sl z n F)) (ρ t):=by
  intro t qM
  refine⟨_,rfl,?_⟩
  obtain⟨h1,h2,h3,cs,ty,h4,h5,h6⟩:=hr.var k _ hv
  have cM:=nI t _ (ht t qM)
  generalize ρ t=u at cM
  cases cM with
  |ow _ _ _ _ c hk p9 oR=>
   have oH:F.length≤cs.size:=by rw[er] at h5;exact h5
   refine .e _ _ (.sl z n F (some ⟨g.μ k,0,none⟩) c (fun i=>cs.getD i undef) hF hz p9 oR (fun _=>⟨_,rfl,(oD.1 h4).1⟩) (fun ad ha i e hi=>?_) (fun i e hi=>?_))
   ·injection ha with ha
    subst ha
    have bH:i<cs.size:=bG (fy.1 hi).1 oH
    refine⟨?_,fun hf=>hf.2 (by rw[f4])⟩
    have e0:w.cell? (({block:=g.μ k,off:=0,spot:=none}:Addr).add i)=cs[0+i]? :=by
     by_cases h0:i=0
     ·subst h0;simp[World.cell?,Addr.add,h4]
     ·simp[World.cell?,Addr.add,h4,h0]
    rw[e0,bp]
    simp[eK,bH]
   ·have bH:i<cs.size:=bG (fy.1 hi).1 oH
    have hu:=h6 i (cs.getD i undef) (by simp[eK,bH])
    have:=hu.2 (.e e) (by unfold dC;rw[dQ,hi];rfl)
    cases this with
    |e _ _ h7=>exact c9.less h7 fun p hp=>hp.1
 obtain⟨g',hg',q1,q2,q3,q4⟩:=WkS.free (lv:=lv) (N:=N) (tm:=tm) (k:=k) hv B g w ρ hr nI
 subst hg'
 refine⟨_,q1,q2,fun t d hd=>?_,q4⟩
 rcases Dv hd with⟨h1,rfl⟩|h1
 ·obtain⟨g',hg',h2⟩:=one t h1
  subst hg'
  exact h2
 ·exact q3 t d h1
theorem WkS.frzG {α:Type}(c:Cd α){l:List α}{tm:List (Nat×D)}{vs:List (Nat×List D)}{lv:List (Nat×Nat×Nat×TypeId)}{N k n:Nat}(ts:List Nat)(hn:n=l.length)(ht:∀t∈ts,tm.lookup t=some (.ow k 0 c.sz n))(hv:vs.lookup k=some (dC ((cW c).f l)))(hz:Nat.ble 1 c.sz=true:=by exact rfl):
  WkS tm ⟨vs,lv,N⟩ (ts.map (fun t=>(t,.e (slE c l)))++tm) ⟨vs.filter fun p=>!([k]:List Nat).contains p.1,lv,N⟩:=by
 subst hn
 exact WkS.frzs ts (bc hz) ht hv (ib c.f c.h l)
end
end
section
section
variable {P:Program} {tb:TypeId→Option TyE} {dr:Bool} {ev:Operand→D} {hp:Hp} {ty:TypeId} {α:Type}
theorem OG {t e:TypeId}{i j:TyE}{n:Nat}{ps:List (Nat×Operand)}(l:List α)(c:Cd α)(ht:tb t=some i)(he:tb e=some j)(hi:i.ty=.slice e:=by exact rfl)(hz:c.sz=j.size:=by exact rfl)(LN:Nat.ble (0+1) (j.size)=true:=by exact rfl)(La:l.length=n+1:=by exact rfl)(hn:Nat.ble ((n+1)*j.size) (16777216)=true:=by exact rfl)(js:lY (ps.map fun p=>(p.1,ev p.2))=some ((l.zipIdx 0).map fun p=>(p.2,dC (c.f p.1))):=by exact rfl)(hd:dr=true:=by exact rfl):
  AVC P tb dr (.buildSlice t (n+1) ps.toArray) ty ev hp (Kq (dF c l) hp):=by
 have hf:=Bi c hz l 0 [] (List.replicate ((n+1)*j.size) (D.e .any)) (by simp) (by rw[s9,La])
 rw[nd,nd] at hf
 have:=EU (P:=P) (dr:=dr) (ty:=ty) (ev:=ev) (hp:=hp) ht he hi LN hn js hf (Bo _) hd
 show AVC _ _ _ _ _ _ _ (Kq (.fu c.sz l.length (l.flatMap c.f)) _)
 rw[hz,La]
 exact this
end
end
section
def Way(ops:Array Oper):List Nat→Array Bool→Prop
 |[],s=>Region.ready .any ops s=[]
 |i::l,s=>i∈Region.ready .any ops s∧Way ops l (s.setIfInBounds i true)
def Bfr(a b:Nat):List Nat→Array Bool→Prop
 |[],_=>True
 |i::l,s=>(i=b→s.getD a false=true)∧Bfr a b l (s.setIfInBounds i true)
theorem lX {ops:Array Oper}{s:Array Bool}{i:Nat}:i∈Region.ready .any ops s↔i<ops.size∧s.getD i true=false∧∃o,ops[i]? =some o∧∀e∈o.after,Region.binds .any e=true→s.getD e.on false=true:=by
 unfold Region.ready
 rw[List.mem_filter,j7]
 refine and_congr_right fun h=>?_
 rw[cj,BB]
 refine and_congr_right fun _=>?_
 cases ho:ops[i]? with
 |none=>simp
 |some o=>
  simp only[nP,wy,Array.all_eq_true',IB,BB,nO,exists_eq_left']
  refine forall_congr' fun e=>forall_congr' fun _=>?_
  cases Region.binds .any e <;> simp
theorem S1 {s:Array Bool}{i j:Nat}(h:s.getD j false=true):(s.setIfInBounds i true).getD j false=true:=by
 simp only[eK] at h ⊢
 rw[IA]
 split
 ·rename_i e
  subst e
  split
  ·rfl
  ·rename_i hs
   rw[al_2 (by omega)] at h
   simp at h
 ·exact h
theorem GK {s:Array Bool}{i:Nat}(h:i<s.size):(s.setIfInBounds i true).getD i false=true:=by
 simp[eK,IA,h]
theorem Bfr.of {a b:Nat}:∀(l:List Nat) (s:Array Bool),s.getD a false=true→Bfr a b l s
 |[],_,_=>trivial
 |_::l,_,h=>⟨fun _=>h,Bfr.of l _ (S1 h)⟩
theorem TR {ops:Array Oper}{a b:Nat}(Fl:a≠b):∀(l:List Nat) (s:Array Bool),s.size=ops.size→Way ops l s→Bfr a b l s∨Bfr b a l s
 |[],_,_,_=>.inl trivial
 |i::l,s,hs,⟨h1,h2⟩=>by
  have hi:=(lX.1 h1).1
  by_cases ha:i=a
  ·subst ha
   exact .inl ⟨fun h=>absurd h Fl,Bfr.of l _ (GK (by omega))⟩
  ·by_cases hb:i=b
   ·subst hb
    exact .inr ⟨fun h=>absurd h.symm Fl,Bfr.of l _ (GK (by omega))⟩
   ·rcases TR Fl l (s.setIfInBounds i true) (by simpa using hs) h2 with h|h
    ·exact .inl ⟨fun h=>absurd h hb,h⟩
    ·exact .inr ⟨fun h=>absurd h ha,h⟩
theorem QC {ops:Array Oper}:∀(fuel t:Nat) (s:Array Bool),s.size=ops.size→unl s ops.size≤fuel→Way ops (Region.linearise.go .any ops fuel t s []) s
 |0,t,s,hs,hu=>by
  show Region.ready .any ops s=[]
  rw[T5]
  intro i hi
  obtain⟨h1,h2,_⟩:=lX.1 hi
  have:i∈(List.range ops.size).filter fun j=>!s.getD j false:=by
   rw[List.mem_filter,j7]
   refine⟨h1,?_⟩
   have bH:i<s.size:=by omega
   have e1:s[i]?.getD true=false:=by rw[←eK];exact h2
   rw[eK]
   rw[sI bH] at e1 ⊢
   simp at e1 ⊢
   exact e1
  have hlen:=List.length_pos_of_mem this
  unfold unl at hu
  omega
 |fuel+1,t,s,hs,hu=>by
  simp only[Region.linearise.go]
  change Way ops (match (Region.ready .any ops s)[t % (Region.ready .any ops s).length]? with
   |some i=>Region.linearise.go .any ops fuel (t / (Region.ready .any ops s).length) (s.setIfInBounds i true) [i]
   |none=>[].reverse) s
  cases hi:(Region.ready .any ops s)[t % (Region.ready .any ops s).length]? with
  |none=>
   show Region.ready .any ops s=[]
   cases hr:Region.ready .any ops s with
   |nil=>rfl
   |cons x xs=>
    rw[hr] at hi
    have bH:t % (x::xs).length<(x::xs).length:=eg _ (by simp)
    rw[cz bH] at hi
    cases hi
  |some i=>
   simp only[]
   rw[linearise_go_acc,List.reverse_singleton,List.singleton_append]
   have hm:=dZ hi
   obtain⟨h1,h2,_⟩:=lX.1 hm
   have bH:i<s.size:=by omega
   have hf:s.getD i false=false:=by
    have e1:s[i]?.getD true=false:=by rw[←eK];exact h2
    rw[eK]
    rw[sI bH] at e1 ⊢
    simpa using e1
   exact⟨hm,QC fuel _ _ (by simpa using hs) (by have:=Hg (n:=ops.size) h1 bH hf;omega)⟩
theorem Gf {P:Program}{ops:Array Oper}{Q:Exit→Act→World→Prop}:∀(l:List Nat) (fuel:Nat) (s:Array Bool) (a:Act) (w:World),wpAny P .any ops Q fuel s a w→Way ops l s→wpOps P ops Q l a w
 |[],0,_,_,_,h,_=>by simpa[wpOps] using h.2
 |[],_+1,_,_,_,h,hw=>by simpa[wpOps] using h.1 hw
 |i::l,0,_,_,_,h,hw=>by
  have:=hw.1
  rw[h.1] at this
  cases this
 |i::l,fuel+1,s,a,w,h,hw=>by
  rw[wpOps_cons]
  exact wpOp_mono (fun a w h=>Gf l fuel _ a w h hw.2) (h.2 i hw.1)
def mP:List Oper→Nat→Oper
 |[],_=>default
 |o::_,0=>o
 |_::l,n+1=>mP l n
def lH:List Nat→Nat→Nat
 |[],_=>0
 |j::l,i=>match Nat.beq j i with
  |true=>0
  |false=>lH l i+1
def JG(p:List Nat)(i:Nat):List (Nat×Nat)→List Edge
 |[]=>[]
 |(a,b)::C=>match Nat.beq b i with
  |true=>⟨lH p a,.data⟩::JG p i C
  |false=>JG p i C
def mE(p:List Nat)(C:List (Nat×Nat))(i:Nat)(o:Oper):Oper:=⟨o.dst,o.op,o.type,o.pos,((o.after.toList.map fun e=>(⟨lH p e.on,e.ground⟩:Edge))++JG p i C).toArray,none⟩
def d8(p:List Nat)(C:List (Nat×Nat))(l:List Oper):List Oper:=p.map fun i=>mE p C i (mP l i)
def ND(p:List Nat)(l:List Oper):Bool:=Nat.beq p.length l.length&&(List.range l.length).all (fun i=>p.elem i)&&(l.all fun o=>o.guard.isNone)&&p.all (fun i=>Nat.blt i l.length)&&(List.range l.length).all fun k=>(List.range l.length).any fun i=>Nat.beq (lH p i) k
theorem np:∀{p:List Nat} {i:Nat},i∈p→lH p i<p.length∧p[lH p i]? =some i
 |j::p,i,h=>by
  unfold lH
  cases hb:Nat.beq j i with
  |true=>exact⟨by simp,by simpa using yR hb⟩
  |false=>
   have fk:¬i=j:=by
    intro e;subst e
    have:Nat.beq i i=true:=Iz i
    rw[this] at hb;cases hb
   rcases kz.1 h with h|h
   ·exact absurd h fk
   ·obtain⟨h1,h2⟩:=np h
    exact⟨by simpa using h1,by simpa using h2⟩
theorem O8 {p:List Nat}{i j:Nat}(hi:i∈p)(hj:j∈p)(h:lH p i=lH p j):i=j:=by
 have h1:=(np hi).2
 rw[h,(np hj).2] at h1
 injection h1 with h1
 exact h1.symm
theorem Rx {l:List Oper}{o:Oper}:∀{i:Nat},l[i]? =some o→mP l i=o:=by
 induction l with
 |nil=>intro i h;simp at h
 |cons o' l ih=>
  intro i h
  cases i with
  |zero=>rw[TZ] at h;injection h
  |succ i=>rw[List.getElem?_cons_succ] at h;exact ih h
theorem AY {p:List Nat}{i:Nat}{e:Edge}:∀{C:List (Nat×Nat)},e∈JG p i C→∃a,(a,i)∈C∧e=⟨lH p a,.data⟩
 |(a,b)::C,h=>by
  unfold JG at h
  cases hb:Nat.beq b i with
  |true=>
   rw[hb] at h
   obtain rfl:=yR hb
   rcases kz.1 h with rfl|h
   ·exact⟨a,qv ..,rfl⟩
   ·obtain⟨a',h1,h2⟩:=AY h
    exact⟨a',oS _ h1,h2⟩
  |false=>
   rw[hb] at h
   obtain⟨a',h1,h2⟩:=AY h
   exact⟨a',oS _ h1,h2⟩
structure KU(p:List Nat)(l:List Oper):Prop where
 len:p.length=l.length
 mem:∀i,i<l.length→i∈p
 gd:∀o∈l,o.guard=none
 bd:∀i∈p,i<l.length
 inv:∀k,k<l.length→∃i,i<l.length∧lH p i=k
theorem Ly {p:List Nat}{l:List Oper}(h:ND p l=true):KU p l:=by
 unfold ND at h
 simp only[cj,a7,j7] at h
 obtain⟨⟨⟨⟨h1,h2⟩,h3⟩,h4⟩,h5⟩:=h
 refine⟨yR h1,fun i hi=>by simpa using h2 i hi,fun o ho=>by simpa using h3 o ho,fun i hi=>?_,fun k hk=>?_⟩
 ·exact bc (h4 i hi)
 ·obtain⟨i,hi,hb⟩:=MU.1 (h5 k hk)
  exact⟨i,j7.1 hi,yR hb⟩
section
variable {P:Program} {p:List Nat} {C:List (Nat×Nat)} {l:List Oper}
theorem KU.get(h:KU p l){i:Nat}{o:Oper}(ho:l[i]? =some o):(d8 p C l).toArray[lH p i]? =some (mE p C i o):=by
 have hi:i<l.length:=(fy.1 ho).1
 obtain⟨_,h2⟩:=np (h.mem i hi)
 unfold d8
 rw[ED,dQ,h2,nP,Rx ho]
theorem OT(h:KU p l){Q:Exit→Act→World→Prop}{K:Act→World→Prop}{i:Nat}(hi:i<l.length){a:Act}{w:World}(hw:wpOp P (d8 p C l).toArray Q (lH p i) K a w):wpOp P l.toArray Q i K a w:=by
 have ho:l[i]? =some l[i]:=cz hi
 unfold wpOp at hw ⊢
 rw[h.get ho] at hw
 rw[ED,ho]
 generalize hoo:l[i]=o at hw ho ⊢
 have hg:=h.gd o (dZ ho)
 obtain⟨dst,op,ty,pos,af,gd⟩:=o
 simp only at hg
 subst hg
 exact hw
theorem CV(h:KU p l){Q:Exit→Act→World→Prop}:∀(is:List Nat) (a:Act) (w:World),(∀i∈is,i<l.length)→wpOps P (d8 p C l).toArray Q (is.map (lH p)) a w→wpOps P l.toArray Q is a w
 |[],a,w,_,hw=>hw
 |i::is,a,w,hi,hw=>by
  rw[j4,wpOps_cons] at hw
  rw[wpOps_cons]
  exact OT h (hi i (qv ..)) (wpOp_mono (fun a w h'=>CV h is a w (fun i vz=>hi i (oS _ vz)) h') hw)
structure EV(p:List Nat)(n:Nat)(s s':Array Bool):Prop where
 s1:s.size=n
 s2:s'.size=n
 eq:∀i,i<n→s'[lH p i]? =s[i]?
theorem EV.set(h:KU p l){s s':Array Bool}(hs:EV p l.length s s'){i:Nat}(hi:i<l.length):EV p l.length (s.setIfInBounds i true) (s'.setIfInBounds (lH p i) true):=by
 refine⟨by simpa using hs.s1,by simpa using hs.s2,fun j hj=>?_⟩
 rw[IA,IA]
 have hpi:lH p i<s'.size:=by rw[hs.s2,←h.len];exact (np (h.mem i hi)).1
 by_cases DM:i=j
 ·subst DM
  rw[ai rfl,ai rfl,ai hpi,ai (by rw[hs.s1];exact hi)]
 ·rw[ah DM,ah (fun e=>DM (O8 (h.mem i hi) (h.mem j hj) e))]
  exact hs.eq j hj
theorem EV.getD(h:KU p l){s s':Array Bool}(hs:EV p l.length s s'){j:Nat}(d:Bool)(hj:j<l.length):s'.getD (lH p j) d=s.getD j d:=by
 rw[eK,eK,hs.eq j hj]
theorem A8 {s:Array Bool}{j:Nat}(h:s.getD j false=true):j<s.size:=by
 rcases d6 j s.size with h1|h1
 ·exact h1
 ·rw[eK,al_2 h1] at h;cases h
theorem I5(h:KU p l):∀(is:List Nat) (s s':Array Bool),EV p l.length s s'→Way l.toArray is s→(∀c∈C,Bfr c.1 c.2 is s)→Way (d8 p C l).toArray (is.map (lH p)) s'
 |[],s,s',hs,hw,_=>by
  show Region.ready _ _ _=[]
  rw[T5]
  intro k hk
  obtain⟨h1,h2,o',h3,h4⟩:=lX.1 hk
  have hkp:k<p.length:=by
   have:(d8 p C l).length=p.length:=bh _
   simpa[this] using h1
  -- rY operation at k is rY one that stood at i
  have hik:=h.inv k (by rw[←h.len];exact hkp)
  obtain⟨i,hi,rfl⟩:=hik
  have ho:l[i]? =some l[i]:=cz hi
  rw[h.get ho] at h3
  injection h3 with h3
  subst h3
  have:i∈Region.ready .any l.toArray s:=by
   refine lX.2 ⟨by simpa using hi,by rw[←hs.getD h true hi];exact h2,l[i],by rw[ED];exact ho,fun e he hb=>?_⟩
   have h5:=h4 ⟨lH p e.on,e.ground⟩ (by
    unfold mE
    rw[Ow]
    exact List.mem_append_left _ (tQ.2 ⟨e,by simpa using he,rfl⟩)) hb
   have bH:lH p e.on<l.length:=by rw[←hs.s2];exact A8 h5
   by_cases Sp:e.on∈p
   ·-- it is one of rY operations
    have hon:e.on<l.length:=h.bd _ Sp
    rwa[hs.getD h false hon] at h5
   ·exfalso
    have:lH p e.on=p.length:=by
     have gen:∀(q:List Nat),e.on∉q→lH q e.on=q.length:=by
      intro q
      induction q with
      |nil=>intro _;rfl
      |cons j q ih=>
       intro hq
       have fk:Nat.beq j e.on=false:=by
        cases hb:Nat.beq j e.on with
        |true=>exact absurd (kz.2 (.inl (yR hb).symm)) hq
        |false=>rfl
       unfold lH
       rw[fk]
       simp only[rI]
       rw[ih fun hh=>hq (oS _ hh)]
     exact gen p Sp
    rw[this,h.len] at bH
    omega
  rw[show Region.ready .any l.toArray s=[] from hw] at this
  cases this
 |i::is,s,s',hs,⟨h1,h2⟩,hC=>by
  obtain⟨hi0,Qo,o,ho,he⟩:=lX.1 h1
  have hi:i<l.length:=by simpa using hi0
  rw[ED] at ho
  refine⟨lX.2 ⟨?_,by rw[hs.getD h true hi];exact Qo,_,h.get ho,fun e hm hb=>?_⟩,I5 h is _ _ (hs.set h hi) h2 fun c hc=>(hC c hc).2⟩
  ·have:(d8 p C l).length=p.length:=bh _
   simp only[rK,this]
   exact (np (h.mem i hi)).1
  ·unfold mE at hm
   rw[Ow] at hm
   rcases vg.1 hm with hm|hm
   ·obtain⟨e0,he0,rfl⟩:=tQ.1 hm
    have h6:=he e0 (by simpa using he0) hb
    have bH:e0.on<l.length:=by rw[←hs.s1];exact A8 h6
    rw[hs.getD h false bH];exact h6
   ·obtain⟨a,Lc,rfl⟩:=AY hm
    have h6:=(hC _ Lc).1 rfl
    have bH:a<l.length:=by rw[←hs.s1];exact A8 h6
    rw[hs.getD h false bH];exact h6
end
section
variable {P:Program} {tb:TypeId→Option TyE} {x:Cx} {tm:List (Nat×D)} {hp:Hp} {Q:Exit→List (Nat×D)→Hp→Prop} {L:List FuncId} {C:List (Nat×Nat)} {l:List Oper}
def DW(P:Program)(x:Cx)(l:List Oper)(C:List (Nat×Nat))(tm:List (Nat×D))(hp:Hp)(Q:Exit→List (Nat×D)→Hp→Prop):Prop:=
 ∀(a:Act) (w:World) (is:List Nat),RS x tm hp a w→(∀i∈is,i<l.length)→Way l.toArray is (Array.replicate l.length false)→(∀c∈C,Bfr c.1 c.2 is (Array.replicate l.length false))→wpOps P l.toArray (fun ex a' w'=>∃tm' hp',RS x tm' hp' a' w'∧Q ex tm' hp') is a w
theorem RS.drew {a:Act}{w:World}(h:RS x tm hp a w):RS x tm hp a {w with drawn:=w.drawn+1}:=by
 obtain⟨g,hr,nI,hsz,Fj,hB,hF,hM⟩:=h
 exact⟨g,hr.keep (ay _) (fun _ _=>rfl),fun t d hl=>(nI t d hl).mono (cE.keep hp g (ay _) (fun _ _=>rfl)),hsz,Fj,hB.drew,hF,hM.trans (cE.keep hp g (ay _) (fun _ _=>rfl))⟩
theorem QB {ops:Array Oper}:∀(is:List Nat) (s:Array Bool),Way ops is s→∀i∈is,i<ops.size
 |[],_,_,_,h=>by cases h
 |j::is,s,hw,i,h=>by
  rcases kz.1 h with rfl|h
  ·exact (lX.1 hw.1).1
  ·exact QB is _ hw.2 i h
theorem AW.dw {id:Nat}(hm:P.follows .mixedOrders=true)(h:DW P x l [] tm hp Q):AW P x (.region id l.toArray true) tm hp Q:=by
 intro a w hr
 refine wp_region_draw fun t=>?_
 simp only[Region.schedule,hm,Bool.true_or,uJ]
 have hway:=QC (ops:=l.toArray) l.toArray.size t (Array.replicate l.toArray.size false) (by simp) (by unfold unl;exact dA (MT _ _) (by simp))
 have bH:=QB _ _ hway
 simp only[rK] at hway bH
 exact h a _ _ hr.drew bH hway (fun c hc=>by cases hc)
theorem DW.split(a b:Nat)(Fl:a≠b)(h1:DW P x l ((a,b)::C) tm hp Q)(h2:DW P x l ((b,a)::C) tm hp Q):DW P x l C tm hp Q:=by
 intro ac w is hr bH hw hC
 rcases TR Fl is _ (by simp) hw with h|h
 ·exact h1 ac w is hr bH hw fun c hc=>by
   rcases kz.1 hc with rfl|hc
   ·exact h
   ·exact hC c hc
 ·exact h2 ac w is hr bH hw fun c hc=>by
   rcases kz.1 hc with rfl|hc
   ·exact h
   ·exact hC c hc
theorem Lf {ops:Array Oper}(hN:mg x.N ops=true)(rr:zH tb L ops=true)
  (h:∀K:List (Nat×D)→Hp→Prop,(∀tm hp,Q .normal tm hp→K tm hp)→aV P tb (.any L) ops K ops.toList tm hp) {a:Act} {w:World} (hr:RS x tm hp a w):wpAny P .any ops (fun ex a' w'=>∃tm' hp',RS x tm' hp' a' w'∧Q ex tm' hp') ops.size (Array.replicate ops.size false) a w:=by
 obtain⟨dd,hh,ac,r4,bW,hK,h1,h2⟩:=Lr (ops:=ops) ops.toList 0 (fun _=>.top) (fun _=>hp) (fun _=>false) (fun _=>tm) ⟨fun _ _ h=>absurd h (by omega),fun _ _ h=>absurd h (by omega),fun _ _ h=>absurd h (by omega)⟩ rfl (h _ fun _ _ h=>h)
 simp only[bp,iF] at bW hK h1 h2
 obtain⟨g,IW,nI,hsz,Fj,hB,hF,hM⟩:=hr
 refine I3 hN (Dl rr) bW (fun a w hr=>⟨_,_,hr,hK⟩) ops.size _ a _ 0 g ?_ ?_
 ·have Ar:∀j,¬(Array.replicate ops.size false).getD j false=true:=by
   intro j
   simp[eK,Iy]
   split <;> simp
  refine⟨by simp,fun i _ _ _ hl=>absurd hl (Ar i),cl _,fun j _ _ _=>⟨fun hl=>absurd hl (Ar j),fun h=>absurd h (by omega)⟩,?_,fun t d hl=>?_,hsz,Fj,hB,hF,?_⟩
  rotate_right
  ·rw[h2];exact hM
  ·rw[h2];exact IW
  ·rw[h2]
   rcases hl with⟨i,_,_,hl,_⟩|⟨_,hl⟩
   ·exact absurd hl (Ar i)
   ·rw[h1] at hl
    exact nI t d hl
 ·unfold unl
  exact dA (MT _ _) (by simp)
theorem DW.go(p:List Nat)(js:ND p l=true)(hN:mg x.N (d8 p C l).toArray=true)(rr:zH tb L (d8 p C l).toArray=true)
  (h:∀K:List (Nat×D)→Hp→Prop,(∀tm hp,Q .normal tm hp→K tm hp)→aV P tb (.any L) (d8 p C l).toArray K (d8 p C l) tm hp):DW P x l C tm hp Q:=by
 intro a w is hr bH hw hC
 have hP:=Ly js
 have h1:=Lf hN rr h hr
 have hlen:(d8 p C l).toArray.size=l.length:=by simp[d8,hP.len]
 rw[hlen] at h1
 have hs0:EV p l.length (Array.replicate l.length false) (Array.replicate l.length false):=by
  refine⟨by simp,by simp,fun i hi=>?_⟩
  have:=(np (hP.mem i hi)).1
  rw[Iy,Iy,ai hi,ai (by rw[←hP.len];exact this)]
 exact CV hP is a w bH (Gf _ _ _ a w h1 (I5 hP is _ _ hs0 hw hC))
end
end
def tblL:List (Nat×TyE):=[
 (3,⟨.int .i64,1,8,[.int .i64 (0)]⟩),
 (4,⟨.bool,1,1,[.bool false]⟩),
 (5,⟨.int .u8,1,1,[.int .u8 (0)]⟩),
 (9,⟨.str,1,16,[.string ⟨#[]⟩]⟩),
 (22,⟨.slice 43,1,24,[.slice none 0 0]⟩),
 (24,⟨.struct [(0,3),(1,3),(2,22)],3,40,[.int .i64 (0),.int .i64 (0),.slice none 0 0]⟩),
 (26,⟨.struct [(0,24),(3,22),(4,22)],5,88,[.int .i64 (0),.int .i64 (0),.slice none 0 0,.slice none 0 0,.slice none 0 0]⟩),
 (29,⟨.struct [(0,3),(1,22),(2,22),(3,22)],4,80,[.int .i64 (0),.slice none 0 0,.slice none 0 0,.slice none 0 0]⟩),
 (38,⟨.int .u32,1,4,[aj]⟩),
 (39,⟨.arr 16 38,16,64,[aj,aj,aj,aj,aj,aj,aj,aj,aj,aj,aj,aj,aj,aj,aj,aj]⟩),
 (41,⟨.struct [(0,4),(1,4),(2,39)],18,68,[.bool false,.bool false,aj,aj,aj,aj,aj,aj,aj,aj,aj,aj,aj,aj,aj,aj,aj,aj]⟩),
 (43,⟨.struct [(0,41),(18,41)],36,136,[.bool false,.bool false,aj,aj,aj,aj,aj,aj,aj,aj,aj,aj,aj,aj,aj,aj,aj,aj,.bool false,.bool false,aj,aj,aj,aj,aj,aj,aj,aj,aj,aj,aj,aj,aj,aj,aj,aj]⟩),
 (67,⟨.slice 3,1,24,[.slice none 0 0]⟩),
 (71,⟨.slice 78,1,24,[.slice none 0 0]⟩),
 (73,⟨.struct [(0,43),(36,22)],37,160,[.bool false,.bool false,aj,aj,aj,aj,aj,aj,aj,aj,aj,aj,aj,aj,aj,aj,aj,aj,.bool false,.bool false,aj,aj,aj,aj,aj,aj,aj,aj,aj,aj,aj,aj,aj,aj,aj,aj,.slice none 0 0]⟩),
 (75,⟨.struct [(0,71),(1,73),(38,3),(39,3),(40,3)],41,208,[.slice none 0 0,.bool false,.bool false,aj,aj,aj,aj,aj,aj,aj,aj,aj,aj,aj,aj,aj,aj,aj,aj,.bool false,.bool false,aj,aj,aj,aj,aj,aj,aj,aj,aj,aj,aj,aj,aj,aj,aj,aj,.slice none 0 0,.int .i64 (0),.int .i64 (0),.int .i64 (0)]⟩),
 (78,⟨.struct [(0,73),(37,3)],38,168,[.bool false,.bool false,aj,aj,aj,aj,aj,aj,aj,aj,aj,aj,aj,aj,aj,aj,aj,aj,.bool false,.bool false,aj,aj,aj,aj,aj,aj,aj,aj,aj,aj,aj,aj,aj,aj,aj,aj,.slice none 0 0,.int .i64 (0)]⟩),
 (145,⟨.int .u64,1,8,[.int .u64 (0)]⟩),
 (147,⟨.int .u64,1,8,[.int .u64 (0)]⟩),
 (149,⟨.arr 32 38,32,128,[aj,aj,aj,aj,aj,aj,aj,aj,aj,aj,aj,aj,aj,aj,aj,aj,aj,aj,aj,aj,aj,aj,aj,aj,aj,aj,aj,aj,aj,aj,aj,aj]⟩),
 (151,⟨.slice 38,1,24,[.slice none 0 0]⟩),
 (160,⟨.other,1,8,[.pointer none]⟩),
 (161,⟨.slice 160,1,24,[.slice none 0 0]⟩),
 (179,⟨.slice 41,1,24,[.slice none 0 0]⟩),
 (191,⟨.arr 17 38,17,68,[aj,aj,aj,aj,aj,aj,aj,aj,aj,aj,aj,aj,aj,aj,aj,aj,aj]⟩)
]
def tbl(t:TypeId):Option TyE:=tblL.lookup t
theorem dU:tbl 3=some ⟨.int .i64,1,8,[.int .i64 (0)]⟩:=rfl
theorem ud:tbl 4=some ⟨.bool,1,1,[.bool false]⟩:=rfl
theorem tb_5:tbl 5=some ⟨.int .u8,1,1,[.int .u8 (0)]⟩:=rfl
theorem tb_9:tbl 9=some ⟨.str,1,16,[.string ⟨#[]⟩]⟩:=rfl
theorem ct:tbl 22=some ⟨.slice 43,1,24,[.slice none 0 0]⟩:=rfl
theorem xG:tbl 24=some ⟨.struct [(0,3),(1,3),(2,22)],3,40,[.int .i64 (0),.int .i64 (0),.slice none 0 0]⟩:=rfl
theorem uZ:tbl 26=some ⟨.struct [(0,24),(3,22),(4,22)],5,88,[.int .i64 (0),.int .i64 (0),.slice none 0 0,.slice none 0 0,.slice none 0 0]⟩:=rfl
theorem qp:tbl 29=some ⟨.struct [(0,3),(1,22),(2,22),(3,22)],4,80,[.int .i64 (0),.slice none 0 0,.slice none 0 0,.slice none 0 0]⟩:=rfl
theorem bO:tbl 38=some ⟨.int .u32,1,4,[aj]⟩:=rfl
theorem cQ:tbl 39=some ⟨.arr 16 38,16,64,[aj,aj,aj,aj,aj,aj,aj,aj,aj,aj,aj,aj,aj,aj,aj,aj]⟩:=rfl
theorem eY:tbl 41=some ⟨.struct [(0,4),(1,4),(2,39)],18,68,[.bool false,.bool false,aj,aj,aj,aj,aj,aj,aj,aj,aj,aj,aj,aj,aj,aj,aj,aj]⟩:=rfl
theorem aT:tbl 43=some ⟨.struct [(0,41),(18,41)],36,136,[.bool false,.bool false,aj,aj,aj,aj,aj,aj,aj,aj,aj,aj,aj,aj,aj,aj,aj,aj,.bool false,.bool false,aj,aj,aj,aj,aj,aj,aj,aj,aj,aj,aj,aj,aj,aj,aj,aj]⟩:=rfl
theorem cX:tbl 67=some ⟨.slice 3,1,24,[.slice none 0 0]⟩:=rfl
theorem BH:tbl 71=some ⟨.slice 78,1,24,[.slice none 0 0]⟩:=rfl
theorem zt:tbl 73=some ⟨.struct [(0,43),(36,22)],37,160,[.bool false,.bool false,aj,aj,aj,aj,aj,aj,aj,aj,aj,aj,aj,aj,aj,aj,aj,aj,.bool false,.bool false,aj,aj,aj,aj,aj,aj,aj,aj,aj,aj,aj,aj,aj,aj,aj,aj,.slice none 0 0]⟩:=rfl
theorem tb_75:tbl 75=some ⟨.struct [(0,71),(1,73),(38,3),(39,3),(40,3)],41,208,[.slice none 0 0,.bool false,.bool false,aj,aj,aj,aj,aj,aj,aj,aj,aj,aj,aj,aj,aj,aj,aj,aj,.bool false,.bool false,aj,aj,aj,aj,aj,aj,aj,aj,aj,aj,aj,aj,aj,aj,aj,aj,.slice none 0 0,.int .i64 (0),.int .i64 (0),.int .i64 (0)]⟩:=rfl
theorem tp:tbl 78=some ⟨.struct [(0,73),(37,3)],38,168,[.bool false,.bool false,aj,aj,aj,aj,aj,aj,aj,aj,aj,aj,aj,aj,aj,aj,aj,aj,.bool false,.bool false,aj,aj,aj,aj,aj,aj,aj,aj,aj,aj,aj,aj,aj,aj,aj,aj,.slice none 0 0,.int .i64 (0)]⟩:=rfl
theorem tb_145:tbl 145=some ⟨.int .u64,1,8,[.int .u64 (0)]⟩:=rfl
theorem tb_147:tbl 147=some ⟨.int .u64,1,8,[.int .u64 (0)]⟩:=rfl
theorem Hj:tbl 149=some ⟨.arr 32 38,32,128,[aj,aj,aj,aj,aj,aj,aj,aj,aj,aj,aj,aj,aj,aj,aj,aj,aj,aj,aj,aj,aj,aj,aj,aj,aj,aj,aj,aj,aj,aj,aj,aj]⟩:=rfl
theorem QO:tbl 151=some ⟨.slice 38,1,24,[.slice none 0 0]⟩:=rfl
theorem yn:tbl 160=some ⟨.other,1,8,[.pointer none]⟩:=rfl
theorem AF:tbl 161=some ⟨.slice 160,1,24,[.slice none 0 0]⟩:=rfl
theorem qf:tbl 179=some ⟨.slice 41,1,24,[.slice none 0 0]⟩:=rfl
theorem C7:tbl 191=some ⟨.arr 17 38,17,68,[aj,aj,aj,aj,aj,aj,aj,aj,aj,aj,aj,aj,aj,aj,aj,aj,aj]⟩:=rfl
class TB (t:TypeId) (i:outParam TyE):Prop where
 h:tbl t=some i
theorem tbI {t:TypeId}{i:TyE}[h:TB t i]:tbl t=some i:=h.h
@[reducible,instance] def itb_3:=TB.mk dU
@[reducible,instance] def itb_4:=TB.mk ud
@[reducible,instance] def itb_5:=TB.mk tb_5
@[reducible,instance] def itb_9:=TB.mk tb_9
@[reducible,instance] def itb_22:=TB.mk ct
@[reducible,instance] def itb_24:=TB.mk xG
@[reducible,instance] def itb_26:=TB.mk uZ
@[reducible,instance] def itb_29:=TB.mk qp
@[reducible,instance] def itb_38:=TB.mk bO
@[reducible,instance] def itb_39:=TB.mk cQ
@[reducible,instance] def itb_41:=TB.mk eY
@[reducible,instance] def itb_43:=TB.mk aT
@[reducible,instance] def itb_67:=TB.mk cX
@[reducible,instance] def itb_71:=TB.mk BH
@[reducible,instance] def itb_73:=TB.mk zt
@[reducible,instance] def itb_75:=TB.mk tb_75
@[reducible,instance] def itb_78:=TB.mk tp
@[reducible,instance] def itb_145:=TB.mk tb_145
@[reducible,instance] def itb_147:=TB.mk tb_147
@[reducible,instance] def itb_149:=TB.mk Hj
@[reducible,instance] def itb_151:=TB.mk QO
@[reducible,instance] def itb_160:=TB.mk yn
@[reducible,instance] def itb_161:=TB.mk AF
@[reducible,instance] def itb_179:=TB.mk qf
@[reducible,instance] def itb_191:=TB.mk C7
def Ut(P:Program):List (Nat×TyE)→Prop
 |[]=>True
 |(t,i)::l=>((P.underlying t).map Ty.of=some i.ty∧(P.info? t).map (fun f=>(f.size,f.bytes,f.zero.map fun v=>(v.cells.toList,v.isAggV)))=some (i.size,i.bytes,some (i.zero,i.ty.agg))∧i.zero.length=i.size∧i.zero.all Value.oneCell'=true)∧Ut P l
theorem Ut.get {P:Program}:∀{l:List (Nat×TyE)} {t:Nat} {i:TyE},Ut P l→l.lookup t=some i→(P.underlying t).map Ty.of=some i.ty∧(P.info? t).map (fun f=>(f.size,f.bytes,f.zero.map fun v=>(v.cells.toList,v.isAggV)))=some (i.size,i.bytes,some (i.zero,i.ty.agg))∧i.zero.length=i.size∧i.zero.all Value.oneCell'=true
 |[],t,i,_,h=>by simp at h
 |(s,j)::l,t,i,h,hl=>by
  by_cases qM:t=s
  ·subst qM
   have:some j=some i:=by rw[←hl];exact aa.symm
   injection this with this
   subst this
   exact h.1
  ·exact Ut.get h.2 (by rw[←hl];exact (am qM).symm)
theorem tokL:Ut prog tblL:=by
 iterate 25 refine⟨⟨by kernel_rfl,by kernel_rfl,by kernel_rfl,by kernel_rfl⟩,?_⟩
 exact trivial
theorem tok:TOk prog tbl:=fun _ _ h=>tokL.get h
theorem tn:prog.underlying 4=some .bool:=by kernel_rfl
section
section
variable {md:Md} {ops:Array Oper} {K:List (Nat×D)→Hp→Prop} {os:List Oper} {tm:List (Nat×D)} {hp hp':Hp} {t s:Tmp} {op:Op} {ty:TypeId} {pos:String} {af:Array Edge} {d d2:D} {j:Nat} {want c:Bool}
theorem s1(h:AVC prog tbl md.dr op ty (evD tm) hp (Kq d hp'))(h2:aV prog tbl md ops K os ((t,d)::tm) hp')(hn:md.nc tbl op=true:=by exact rfl):aV prog tbl md ops K (⟨some t,op,ty,pos,af,none⟩::os) tm hp:=st tok hn h h2
theorem s0(h:AVC prog tbl md.dr op ty (evD tm) hp (Kq d hp'))(h2:aV prog tbl md ops K os tm hp')(hn:md.nc tbl op=true:=by exact rfl):aV prog tbl md ops K (⟨none,op,ty,pos,af,none⟩::os) tm hp:=st_n tok hn h h2
theorem s2(h:AVC prog tbl md.dr op ty (evD tm) hp (Kq d hp'))(hl:d.le d2)(h2:aV prog tbl md ops K os ((t,d2)::tm) hp')(hn:md.nc tbl op=true:=by exact rfl):aV prog tbl md ops K (⟨some t,op,ty,pos,af,none⟩::os) tm hp:=st_le tok hn h hl h2
theorem g1(hw:c=want)(h:AVC prog tbl md.dr op ty (evD tm) hp (Kq d hp'))(h2:aV prog tbl md ops K os ((t,d)::tm) hp')(hj:(ops[j]?).bind (·.dst)=some s:=by exact rfl)(hc:tm.lookup s=some (.e (.lit (.bool c))):=by exact rfl)(hn:md.nc tbl op=true:=by exact rfl):aV prog tbl md ops K (⟨some t,op,ty,pos,af,some (j,want)⟩::os) tm hp:=PO tok hn hj hc hw h h2
theorem q1(h:mG prog tbl md ⟨some t,op,ty,pos,af,none⟩ (evD tm) hp d hp')(h2:aV prog tbl md ops K os ((t,d)::tm) hp'):aV prog tbl md ops K (⟨some t,op,ty,pos,af,none⟩::os) tm hp:=O2 rfl h h2
theorem fzO {α:Type}(c:Cd α){l:List α}{vs vs2:List (Nat×List D)}{lv:List (Nat×Nat×Nat×TypeId)}{N n:Nat}(k:Nat)(ts:List Nat)(hn:n=l.length)(h2:aV prog tbl .seq ops K os (ts.map (fun t=>(t,.e (slE c l)))++tm) ⟨vs2,lv,N⟩)(ht:∀t∈ts,tm.lookup t=some (.ow k 0 c.sz n))(hv:vs.lookup k=some (dC ((cW c).f l)):=by exact rfl)(hz:Nat.ble 1 c.sz=true:=by exact rfl)(JO:(vs.filter fun p=>!([k]:List Nat).contains p.1)=vs2:=by exact rfl):aV prog tbl .seq ops K os tm ⟨vs,lv,N⟩:=by
 subst JO
 exact .wk rfl (WkS.frzG c ts hn ht hv hz) h2
theorem fzA {x:Cx}{Q:Exit→List (Nat×D)→Hp→Prop}{cd:Code}{α:Type}(c:Cd α){l:List α}{vs vs2:List (Nat×List D)}{lv:List (Nat×Nat×Nat×TypeId)}{N n:Nat}(k:Nat)(ts:List Nat)(hn:n=l.length)(h2:AW prog x cd (ts.map (fun t=>(t,.e (slE c l)))++tm) ⟨vs2,lv,N⟩ Q)(ht:∀t∈ts,tm.lookup t=some (.ow k 0 c.sz n))(hv:vs.lookup k=some (dC ((cW c).f l)):=by exact rfl)(hz:Nat.ble 1 c.sz=true:=by exact rfl)(JO:(vs.filter fun p=>!([k]:List Nat).contains p.1)=vs2:=by exact rfl):AW prog x cd tm ⟨vs,lv,N⟩ Q:=by
 subst JO
 exact AW.weak (fun _ _ hr=>(WkS.frzG c ts hn ht hv hz).rs hr) h2
theorem all1 {p:Nat→Prop}{a:Nat}(h:p a):∀t∈[a],p t:=by simpa using h
theorem all2 {p:Nat→Prop}{a:Nat}{l:List Nat}(h:p a)(hl:∀t∈l,p t):∀t∈a::l,p t:=by simpa using⟨h,hl⟩
variable {x:Cx} {Q:Exit→List (Nat×D)→Hp→Prop}
theorem rg {n id:Nat}{l:List Oper}(hx:x.N=n)(hN:mg n l.toArray=true)(h:∀K:List (Nat×D)→Hp→Prop,(∀tm hp,Q .normal tm hp→K tm hp)→aV prog tbl .seq l.toArray K l tm hp):AW prog x (.region id l.toArray false) tm hp Q:=AW.regS tbl (by rw[hx];exact hN) h
theorem rd {n id:Nat}{l:List Oper}(L:List FuncId)(hx:x.N=n)(hN:mg n l.toArray=true)(rr:zH tbl L l.toArray=true)(h:∀K:List (Nat×D)→Hp→Prop,(∀tm hp,Q .normal tm hp→K tm hp)→aV prog tbl (.any L) l.toArray K l tm hp):AW prog x (.region id l.toArray true) tm hp Q:=AW.drwS tbl L (by kernel_rfl) (by rw[hx];exact hN) rr h
theorem dw {id:Nat}{l:List Oper}(h:DW prog x l [] tm hp Q):AW prog x (.region id l.toArray true) tm hp Q:=AW.dw (by kernel_rfl) h
theorem dwg {n:Nat}{l:List Oper}{C:List (Nat×Nat)}(L:List FuncId)(p:List Nat)(hx:x.N=n)(js:ND p l=true)(hN:mg n (d8 p C l).toArray=true)(rr:zH tbl L (d8 p C l).toArray=true)(h:∀K:List (Nat×D)→Hp→Prop,(∀tm hp,Q .normal tm hp→K tm hp)→aV prog tbl (.any L) (d8 p C l).toArray K (d8 p C l) tm hp):DW prog x l C tm hp Q:=DW.go p js (by rw[hx];exact hN) rr h
def PE(x:Cx){S:Type}(e:Exit)(T:S→List (Nat×D))(H:S→Hp)(y:S)(ex:Exit)(tm:List (Nat×D))(hp:Hp):Prop:=ex=e∧Wk x tm hp (T y) (H y)
def PR(rs:List ResultVar){R:Type}(dR:R→D)(y:R)(ex:Exit)(tm:List (Nat×D))(hp:Hp):Prop:=ex=.ret∧nY tbl rs tm hp (dR y)
def PS {A B:Type}(p:A→Exit→List (Nat×D)→Hp→Prop)(q:B→Exit→List (Nat×D)→Hp→Prop)(y:A⊕B)(ex:Exit)(tm:List (Nat×D))(hp:Hp):Prop:=match y with| .inl a=>p a ex tm hp| .inr b=>q b ex tm hp
theorem PS.l {A B:Type}{p:A→Exit→List (Nat×D)→Hp→Prop}{q:B→Exit→List (Nat×D)→Hp→Prop}{a:A}{ex:Exit}(h:p a ex tm hp):PS p q (.inl a) ex tm hp:=h
theorem PS.r {A B:Type}{p:A→Exit→List (Nat×D)→Hp→Prop}{q:B→Exit→List (Nat×D)→Hp→Prop}{b:B}{ex:Exit}(h:q b ex tm hp):PS p q (.inr b) ex tm hp:=h
theorem PE.i {S:Type}{e:Exit}{T:S→List (Nat×D)}{H:S→Hp}{y:S}(hw:Wk x tm hp (T y) (H y)):PE x e T H y e tm hp:=⟨rfl,hw⟩
theorem PR.i {rs:List ResultVar}{R:Type}{dR:R→D}{y:R}(hw:nY tbl rs tm hp (dR y)):PR rs dR y .ret tm hp:=⟨rfl,hw⟩
theorem jn {c:Code}{Q':Exit→List (Nat×D)→Hp→Prop}(Q:Exit→List (Nat×D)→Hp→Prop)(h:AW prog x c tm hp Q)(hq:∀ex tm hp,Q ex tm hp→Q' ex tm hp):AW prog x c tm hp Q':=AW.mono h hq
theorem lp {c:Code}{S X:Type}{b:S→Option (S⊕X)}{Q:Exit→List (Nat×D)→Hp→Prop}{s:S}{e:X}(T:S→List (Nat×D))(H:S→Hp)(QX:X→Exit→List (Nat×D)→Hp→Prop)(h:bt b s=some e)(hw:Wk x tm hp (T s) (H s))
  (round:∀s y,b s=some y→AW prog x c (T s) (H s) (PS (PE x .normal T H) (fun e ex tm hp=>ex≠.normal∧QX e ex tm hp) y)) (hq:∀ex tm hp,QX e ex tm hp→Q ex tm hp):AW prog x (.loop c) tm hp Q:=
 AW.mono (AW.loopO T H QX (fun s y hy=>AW.mono (round s y hy) fun ex tm' hp' h=>by cases y <;> exact h) h hw) hq
end
end
section
section
variable {md:Md} {ops:Array Oper} {K:List (Nat×D)→Hp→Prop} {os:List Oper} {tm:List (Nat×D)} {hp hp':Hp} {t s:Tmp} {op:Op} {ty:TypeId} {pos:String} {af:Array Edge} {d d2:D} {j:Nat} {want c:Bool}
variable {dr:Bool} {ev:List (Nat×D)}
theorem UW {k:IntKind}{n:Int}:AVC prog tbl dr (.assign (.const (.int k n))) ty (evD ev) hp (Kq (dI k n) hp):=KQ
theorem Nf {b:Bool}:AVC prog tbl dr (.assign (.const (.bool b))) ty (evD ev) hp (Kq (dB b) hp):=KQ
theorem UA {k:IntKind}{n:Int}:AVC prog tbl dr (.move (.const (.int k n))) ty (evD ev) hp (Kq (dI k n) hp):=ER
theorem UF {s tt:TypeId}{x:Operand}{i j:TyE}{f o k off:Nat}{fs:List (Nat×TypeId)}{ev:Operand→D}(hs:tbl s=some i:=by exact tbI)(hi:i.ty=.struct fs:=by exact rfl)(hf:fs[f]? =some (o,tt):=by exact rfl)(hx:ev x=.pt k off:=by exact rfl)(ht:tbl tt=some j:=by exact tbI)(hz:Nat.ble 1 j.size=true:=by exact rfl):AVC prog tbl dr (.fieldAddr s x f) ty ev hp (Kq (.pt k (off+o)) hp):=T_faP hs ht hi hf hz hx
theorem UG {s tt:TypeId}{x:Operand}{i j:TyE}{f o off:Nat}{xs:List E}{fs:List (Nat×TypeId)}{ev:Operand→D}(hs:tbl s=some i:=by exact tbI)(hi:i.ty=.struct fs:=by exact rfl)(hf:fs[f]? =some (o,tt):=by exact rfl)(hx:ev x=.fp xs off:=by exact rfl)(ht:tbl tt=some j:=by exact tbI)(hz:Nat.ble 1 j.size=true:=by exact rfl):AVC prog tbl dr (.fieldAddr s x f) ty ev hp (Kq (.fp xs (off+o)) hp):=T_faF hs ht hi hf hz hx
theorem UE {t e:TypeId}{x:Operand}{i j:TyE}{n:Nat}{xs:List E}{ev:Operand→D}(ht:tbl t=some i:=by exact tbI)(hi:i.ty=.slice e:=by exact rfl)(he:tbl e=some j:=by exact tbI)(hx:(ev x).asSl j.size=some (n,xs):=by exact rfl):AVC prog tbl dr (.call ⟨.builtin .len,#[x],#[t]⟩) ty ev hp (Kq (dI .i64 n) hp):=Uk ht he hi hx
theorem UD {t e:TypeId}{x:Operand}{i j:TyE}{k off z n:Nat}{ev:Operand→D}(ht:tbl t=some i:=by exact tbI)(hi:i.ty=.slice e:=by exact rfl)(he:tbl e=some j:=by exact tbI)(hx:ev x=.ow k off z n:=by exact rfl):AVC prog tbl dr (.call ⟨.builtin .len,#[x],#[t]⟩) ty ev hp (Kq (dI .i64 n) hp):=BD ht he hi hx
theorem K_shl {t t':TypeId}{x y:Operand}{k k':IntKind}{a b:Int}{ev:Operand→D}(hx:ev x=dI k a:=by exact rfl)(hy:ev y=dI k' b:=by exact rfl)(hb:0≤b:=by decide):AVC prog tbl dr (.binOp .shl t x y t') ty ev hp (Kq (dI k (yz k a b)) hp):=Ue hb hx hy
theorem K_shr {t t':TypeId}{x y:Operand}{k k':IntKind}{a b:Int}{ev:Operand→D}(hx:ev x=dI k a:=by exact rfl)(hy:ev y=dI k' b:=by exact rfl)(hb:0≤b:=by decide):AVC prog tbl dr (.binOp .shr t x y t') ty ev hp (Kq (dI k (l5 k a b)) hp):=Ud hb hx hy
theorem K_quo {t t':TypeId}{x y:Operand}{k:IntKind}{a b:Int}{ev:Operand→D}(hx:ev x=dI k a:=by exact rfl)(hy:ev y=dI k b:=by exact rfl)(hb:b≠0:=by decide):AVC prog tbl dr (.binOp .quo t x y t') ty ev hp (Kq (dI k (k.wrap (a.tdiv b))) hp):=G2 hb hx hy
theorem K_rem {t t':TypeId}{x y:Operand}{k:IntKind}{a b:Int}{ev:Operand→D}(hx:ev x=dI k a:=by exact rfl)(hy:ev y=dI k b:=by exact rfl)(hb:b≠0:=by decide):AVC prog tbl dr (.binOp .rem t x y t') ty ev hp (Kq (dI k (a.tmod b)) hp):=EQ hb hx hy
theorem sa(h2:aV prog tbl md ops K os ((t,d)::tm) hp')(h:AVC prog tbl md.dr op ty (evD tm) hp (Kq d hp'):=by (first|exact T_mv|exact li|exact UW|exact Nf|exact A_str|exact UA|exact M_bool|exact M_str|exact KQ|exact ER|exact Uf|exact M0|exact M1|exact Un|exact Us|exact Uc|exact Uh|exact Uo|exact Ug|exact Ui|exact Uj|exact Ul|exact Um|exact T_seql|exact T_sneq|exact M4 tn|exact M3 tn|exact T_and|exact T_or|exact T_xor|exact T_neg|exact K_shl|exact K_shr|exact K_quo|exact K_rem|exact UF|exact UG|exact Up tbI tbI|exact T_cvS tbI tbI|exact UE|exact T_lenS tbI|exact T_lenA tbI|exact UD|exact T_min|exact T_max|exact Uq))(hn:md.nc tbl op=true:=by exact rfl):aV prog tbl md ops K (⟨some t,op,ty,pos,af,none⟩::os) tm hp:=st tok hn h h2
theorem ga(hw:c=want)(h2:aV prog tbl md ops K os ((t,d)::tm) hp')(hj:(ops[j]?).bind (·.dst)=some s:=by exact rfl)(hc:tm.lookup s=some (.e (.lit (.bool c))):=by exact rfl)(h:AVC prog tbl md.dr op ty (evD tm) hp (Kq d hp'):=by (first|exact T_mv|exact li|exact UW|exact Nf|exact A_str|exact UA|exact M_bool|exact M_str|exact KQ|exact ER|exact Uf|exact M0|exact M1|exact Un|exact Us|exact Uc|exact Uh|exact Uo|exact Ug|exact Ui|exact Uj|exact Ul|exact Um|exact T_seql|exact T_sneq|exact M4 tn|exact M3 tn|exact UF|exact UG|exact Up tbI tbI|exact UE|exact T_lenS tbI))(hn:md.nc tbl op=true:=by exact rfl):aV prog tbl md ops K (⟨some t,op,ty,pos,af,some (j,want)⟩::os) tm hp:=PO tok hn hj hc hw h h2
theorem pn {ev:Operand→D}:((([]:List Operand).map ev).map D.ex).all D.pure=true:=rfl
theorem pA {ev:Operand→D}{a:Operand}{la:List Operand}(h:(ev a).ex.pure=true)(hl:((la.map ev).map D.ex).all D.pure=true):(((a::la).map ev).map D.ex).all D.pure=true:=by
 rw[j4,j4,iK,h,hl];rfl
theorem lC {ev:Operand→D}{a:Operand}{la:List Operand}{d':D}{ds':List D}(h:(ev a).ex.le d')(hl:leL ((la.map ev).map D.ex) ds'):leL (((a::la).map ev).map D.ex) (d'::ds'):=⟨h,hl⟩
theorem cq {f:FuncId}{la:List Operand}{ts:Array TypeId}{ds:List D}{r:D}(hc:ar prog f ds r)(h2:aV prog tbl md ops K os ((t,r)::tm) hp)(js:((la.map (evD tm)).map D.ex).all D.pure=true:=by repeat (first|exact pn|refine pA (dW _ _) ?_|refine pA rfl ?_))(hl:leL ((la.map (evD tm)).map D.ex) ds:=by repeat (first|exact lAn|refine lC (ro _ _) ?_|refine lC (ax _) ?_))(hr:r.pure=true∨∃ds,r=.tu ds:=by (first|exact .inl (kG _ _)|exact .inl rfl|exact .inr ⟨_,rfl⟩)):
  aV prog tbl md ops K (⟨some t,.call ⟨.value (.func f),la.toArray,ts⟩,ty,pos,af,none⟩::os) tm hp:=sq tok hc js hl hr h2
theorem sc {x:Operand}{f:FuncId}{la:List Operand}{ts:Array TypeId}{ds:List D}{r:D}(hc:ar prog f ds r)(h2:aV prog tbl md ops K os ((t,r)::tm) hp)(zW:evD tm x=.e (.lit (.func (.func f) #[] #[])):=by exact rfl)(js:((la.map (evD tm)).map D.ex).all D.pure=true:=by repeat (first|exact pn|refine pA (dW _ _) ?_|refine pA rfl ?_))(hl:leL ((la.map (evD tm)).map D.ex) ds:=by repeat (first|exact lAn|refine lC (ro _ _) ?_|refine lC (ax _) ?_))(hr:r.pure=true∨∃ds,r=.tu ds:=by (first|exact .inl (kG _ _)|exact .inl rfl|exact .inr ⟨_,rfl⟩))(hn:md.nc tbl (.call ⟨.value x,la.toArray,ts⟩)=true:=by exact rfl):
  aV prog tbl md ops K (⟨some t,.call ⟨.value x,la.toArray,ts⟩,ty,pos,af,none⟩::os) tm hp:=st tok hn (yU zW hc js hl hr) h2
variable {x:Cx} {Q:Exit→List (Nat×D)→Hp→Prop}
theorem rq {n id:Nat}{l:List Oper}(hx:x.N=n)(h:∀K:List (Nat×D)→Hp→Prop,(∀tm hp,Q .normal tm hp→K tm hp)→aV prog tbl .seq l.toArray K l tm hp)(hN:mg n l.toArray=true:=by kernel_rfl):AW prog x (.region id l.toArray false) tm hp Q:=rg hx hN h
theorem rqd {n id:Nat}{l:List Oper}(L:List FuncId)(hx:x.N=n)(h:∀K:List (Nat×D)→Hp→Prop,(∀tm hp,Q .normal tm hp→K tm hp)→aV prog tbl (.any L) l.toArray K l tm hp)(hN:mg n l.toArray=true:=by kernel_rfl)(rr:zH tbl L l.toArray=true:=by kernel_rfl):AW prog x (.region id l.toArray true) tm hp Q:=rd L hx hN rr h
theorem rv1 {q:ResultVar}{r:D}(h:nY tbl [q] tm hp r:=by (first|exact nY.mk1 (Ho rfl (.inr (.inr ⟨_,(ax _),rfl,rfl⟩)))|exact nY.mk1 (Hq rfl tbI rfl rfl (ltb rfl) (Cd.h _ _) (.inr (.inr ⟨_,(ax _),kG _ _,rfl⟩))))):nY tbl [q] tm hp r:=h
theorem rv2 {q q':ResultVar}{r:D}(h:nY tbl [q,q'] tm hp r:=by (first|exact nY.mk2 (Ho rfl (Ho rfl (.inr ⟨_,_,(ax _),(ax _),⟨rfl,rfl⟩,rfl⟩)))|exact nY.mk2 (Hq rfl tbI rfl rfl (ltb rfl) (Cd.h _ _) (Ho rfl (.inr ⟨_,_,(ax _),(ax _),⟨kG _ _,rfl⟩,rfl⟩)))|exact nY.mk2 (Hq rfl tbI rfl rfl (ltb rfl) (Cd.h _ _) (Hq rfl tbI rfl rfl (ltb rfl) (Cd.h _ _) (.inr ⟨_,_,(ax _),(ax _),⟨kG _ _,kG _ _⟩,rfl⟩))))):nY tbl [q,q'] tm hp r:=h
theorem pe0 {S:Type}{e:Exit}{T:S→List (Nat×D)}{H:S→Hp}{y:S}{vars':List (Nat×List D)}{ip:List (Nat×Nat×Nat×TypeId)}{m:Nat}{tm':List (Nat×D)}(h0:x.hp0=⟨[],[],0⟩)(os:List Nat)(hT:T y=tm':=by exact rfl)(hH:H y=⟨vars',ip,m⟩:=by exact rfl)(ht:wkT (sg 0 os) m tm tm':=by repeat (first|exact wTn|refine wR rfl ?_|refine wG rfl (ax _) ?_))(hv:wkV (sg 0 os) m hp.vars vars':=by repeat (first|exact wVn|refine vC rfl ?_|refine vR rfl ?_))(hl:wkL (sg 0 os) m hp.live ip:=by repeat (first|exact wLn|refine wL rfl rfl ?_))(zV:os.Nodup:=by decide)(hm:m=0+os.length:=by exact rfl):PE x e T H y e tm hp:=PE.i (by rw[hT,hH];exact wk h0 os ht hv hl zV hm)
theorem rs {n id:Nat}{l:List Oper}{b:Code}(hx:x.N=n)(h:∀K:List (Nat×D)→Hp→Prop,(∀tm hp,AW prog x b tm hp Q→K tm hp)→aV prog tbl .seq l.toArray K l tm hp)(hN:mg n l.toArray=true:=by kernel_rfl):AW prog x (.seq (.region id l.toArray false) b) tm hp Q:=AW.seq (rg hx hN fun K hK=>h K hK)
theorem rsd {n id:Nat}{l:List Oper}{b:Code}(L:List FuncId)(hx:x.N=n)(h:∀K:List (Nat×D)→Hp→Prop,(∀tm hp,AW prog x b tm hp Q→K tm hp)→aV prog tbl (.any L) l.toArray K l tm hp)(hN:mg n l.toArray=true:=by kernel_rfl)(rr:zH tbl L l.toArray=true:=by kernel_rfl):AW prog x (.seq (.region id l.toArray true) b) tm hp Q:=AW.seq (rd L hx hN rr fun K hK=>h K hK)
theorem ra {n id:Nat}{l:List Oper}{b:Code}{tm':List (Nat×D)}(hx:x.N=n)(h2:AW prog x b tm' hp' Q)(h:∀K:List (Nat×D)→Hp→Prop,K tm' hp'→aV prog tbl .seq l.toArray K l tm hp:=by (intro K hK;(repeat (refine sa ?_));exact .nil hK))(hN:mg n l.toArray=true:=by kernel_rfl):AW prog x (.seq (.region id l.toArray false) b) tm hp Q:=rs hx (fun K hK=>h K (hK _ _ h2)) hN
theorem rb {n id:Nat}{l:List Oper}{tm':List (Nat×D)}(hx:x.N=n)(h2:Q .normal tm' hp')(h:∀K:List (Nat×D)→Hp→Prop,K tm' hp'→aV prog tbl .seq l.toArray K l tm hp:=by (intro K hK;(repeat (refine sa ?_));exact .nil hK))(hN:mg n l.toArray=true:=by kernel_rfl):AW prog x (.region id l.toArray false) tm hp Q:=rq hx (fun K hK=>h K (hK _ _ h2)) hN
theorem cdh {R:Type}{y z:Option R}{r:R}{c:Operand}{c1 c2:Code}{b:Bool}(h:cnd b y z=some r)(hc:evD tm c=.e (.lit (.bool b)))(ht:b=true→y=some r→AW prog x c1 tm hp Q)(hf:b=false→z=some r→AW prog x c2 tm hp Q):AW prog x (.cond c c1 c2) tm hp Q:=AW.condS hc (fun hb=>ht hb (cnd_t hb h)) fun hb=>hf hb (cnd_f hb h)
theorem scb {R S:Type}{g:Option S}{k:S→Option R}{z:R}{x:Operand}{f:FuncId}{la:List Operand}{ts:Array TypeId}{ds:List D}{dr:S→D}(h:bnd g k=some z)(w:∀{y:S},g=some y→ar prog f ds (dr y))(h2:∀y,k y=some z→aV prog tbl md ops K os ((t,dr y)::tm) hp)(zW:evD tm x=.e (.lit (.func (.func f) #[] #[])):=by exact rfl)(js:((la.map (evD tm)).map D.ex).all D.pure=true:=by repeat (first|exact pn|refine pA (dW _ _) ?_|refine pA rfl ?_))(hl:leL ((la.map (evD tm)).map D.ex) ds:=by repeat (first|exact lAn|refine lC (ro _ _) ?_|refine lC (ax _) ?_))(hr:∀y,(dr y).pure=true∨∃ds,dr y=.tu ds:=by (intro y;first|exact .inl (kG _ _)|exact .inl rfl|exact .inr ⟨_,rfl⟩))(hn:md.nc tbl (.call ⟨.value x,la.toArray,ts⟩)=true:=by exact rfl):
  aV prog tbl md ops K (⟨some t,.call ⟨.value x,la.toArray,ts⟩,ty,pos,af,none⟩::os) tm hp:=by
 obtain⟨y,h3,h4⟩:=ae h
 exact st tok hn (yU zW (w h3) js hl (hr y)) (h2 y h4)
theorem cqb {R S:Type}{g:Option S}{k:S→Option R}{z:R}{f:FuncId}{la:List Operand}{ts:Array TypeId}{ds:List D}{dr:S→D}(h:bnd g k=some z)(w:∀{y:S},g=some y→ar prog f ds (dr y))(h2:∀y,k y=some z→aV prog tbl md ops K os ((t,dr y)::tm) hp)(js:((la.map (evD tm)).map D.ex).all D.pure=true:=by repeat (first|exact pn|refine pA (dW _ _) ?_|refine pA rfl ?_))(hl:leL ((la.map (evD tm)).map D.ex) ds:=by repeat (first|exact lAn|refine lC (ro _ _) ?_|refine lC (ax _) ?_))(hr:∀y,(dr y).pure=true∨∃ds,dr y=.tu ds:=by (intro y;first|exact .inl (kG _ _)|exact .inl rfl|exact .inr ⟨_,rfl⟩)):
  aV prog tbl md ops K (⟨some t,.call ⟨.value (.func f),la.toArray,ts⟩,ty,pos,af,none⟩::os) tm hp:=by
 obtain⟨y,h3,h4⟩:=ae h
 exact sq tok (w h3) js hl (hr y) (h2 y h4)
theorem bj {f : FuncId} {fn : Func} {c : Code} {ds : List D} {r : D} {rs : List ResultVar} {tm0 : List (Nat × D)} (h : ∀ x : Cx, x.N = fn.ntmps → x.hp0 = ⟨[], [], 0⟩ → AW prog x c tm0 ⟨[], [], 0⟩ fun ex tm hp => match ex with | .normal | .ret => nY tbl rs tm hp r | _ => False) (hf : prog.funcs[f]? = some fn) (hb : fn.body = some c := by exact rfl) (DG : (fn.name == "runtime.NumGoroutine") = false := by exact rfl) (hN : Nat.ble ds.length fn.ntmps = true := by exact rfl) (Fd : fn.results.toList = rs := by exact rfl) (nI : fj 0 ds = tm0 := by (simp only [fj, Nat.reduceAdd, bp]; rfl)) : ar prog f ds r := ar.of tok hf hb DG (bc hN) Fd (by rw [nI]; exact h)
end
end
section
variable {md:Md} {ops:Array Oper} {K:List (Nat×D)→Hp→Prop} {os:List Oper} {tm:List (Nat×D)} {hp hp':Hp} {t s:Tmp} {op:Op} {ty:TypeId} {pos:String} {af:Array Edge} {d d2:D} {j:Nat} {want c:Bool}
variable {dr:Bool} {ev:Operand→D}
theorem KT_T {cn x y:Operand}{b:Bool}(hc:ev cn=dB b:=by exact rfl)(h:ev x=d:=by exact rfl)(hb:b=true:=by (with_reducible first|rfl|assumption)):AVC prog tbl dr (.pick cn x y) ty ev hp (Kq d hp):=oG hb hc h
theorem KT_F {cn x y:Operand}{b:Bool}(hc:ev cn=dB b:=by exact rfl)(h:ev y=d:=by exact rfl)(hb:b=false:=by (with_reducible first|rfl|assumption)):AVC prog tbl dr (.pick cn x y) ty ev hp (Kq d hp):=lP hb hc h
theorem KT_S {x y:Operand}{t e:TypeId}{i j:TyE}{n:Nat}{xs:List E}{k:IntKind}{v:Int}(ht:tbl t=some i:=by exact tbI)(hi:i.ty=.slice e:=by exact rfl)(he:tbl e=some j:=by exact tbI)(hx:(ev x).asSl j.size=some (n,xs):=by exact rfl)(hy:ev y=dI k v:=by exact rfl)(hb:0≤v∧v<(n:Int):=by assumption):AVC prog tbl dr (.indexAddr t x y) ty ev hp (Kq (.fp xs (v.toNat*j.size)) hp):=OF hb ht he hi hx hy
theorem KT_A {x y:Operand}{t e:TypeId}{i j:TyE}{n m off:Nat}{k:IntKind}{v:Int}(ht:tbl t=some i:=by exact tbI)(hi:i.ty=.arr n e:=by exact rfl)(he:tbl e=some j:=by exact tbI)(hx:ev x=.pt m off:=by exact rfl)(hy:ev y=dI k v:=by exact rfl)(hb:0≤v∧v<(n:Int):=by (first|assumption|decide)):AVC prog tbl dr (.indexAddr t x y) ty ev hp (Kq (.pt m (off+v.toNat*j.size)) hp):=vm hb ht he hi hx hy
theorem JD(h2:aV prog tbl md ops K os ((t,.tu [])::tm) hp)(hj:(ops[j]?).bind (·.dst)=some s:=by exact rfl)(hc:tm.lookup s=some (.e (.lit (.bool c))):=by exact rfl)(hw:c= !want:=by (first|(show _=false;with_reducible first|rfl|assumption)|(show _=true;with_reducible first|rfl|assumption))):aV prog tbl md ops K (⟨some t,op,ty,pos,af,some (j,want)⟩::os) tm hp:=Pe hj hc hw h2
theorem KV_i {α:Type}{x:Operand}{c1:Cd α}{k N:Nat}{b:α}{vs:List (Nat×List D)}{lv:List (Nat×Nat×Nat×TypeId)}{t:TypeId}{i:TyE}(hx:ev x=.pt k 0:=by exact rfl)(hv:vs.lookup k=some (dC (c1.f b)):=by exact rfl)(ht:tbl t=some i:=by exact tbI)(hg:i.ty.agg=true:=by exact rfl)(hz:c1.sz=i.size:=by exact rfl)(hk:Nat.ble (k+1) N=true:=by exact rfl):AVC prog tbl dr (.load t x) ty ev ⟨vs,lv,N⟩ (Kq (dG c1 b) ⟨vs,lv,N⟩):=Ap (bT.id _ _) ht hg hz hx hv hk
theorem KV_s {α:Type}{x y:Operand}{c1:Cd α}{k N:Nat}{b b':α}{vs:List (Nat×List D)}{lv:List (Nat×Nat×Nat×TypeId)}{t:TypeId}{i:TyE}(hx:ev x=.pt k 0:=by exact rfl)(hv:vs.lookup k=some (dC (c1.f b)):=by exact rfl)(ht:tbl t=some i:=by exact tbI)(hz:c1.sz=i.size:=by exact rfl)(hy:(ev y).cells=some (dC (c1.f b')):=by exact rfl):AVC prog tbl dr (.store t x y) ty ev ⟨vs,lv,N⟩ (Kq .top ⟨(k,dC (c1.f b'))::vs,lv,N⟩):=yb (bT.id _ _) ht hy hz hx hv
theorem KV_l {α:Type}[Inhabited α]{x:Operand}{F:List E}{c1:Cd α}{m o n k N off:Nat}{b:Vector α m}{F':Vector α m→List E}{vs:List (Nat×List D)}{lv:List (Nat×Nat×Nat×TypeId)}{t:TypeId}{i:TyE}{e:E}(L:bT F (cA m c1) o b F')(ht:tbl t=some i:=by exact tbI)(hg:i.ty.agg=false:=by exact rfl)(hx:ev x=.pt k off:=by exact rfl)(hv:vs.lookup k=some (dC F):=by exact rfl)(ho:off=o+n*c1.sz:=by exact rfl)(he:c1.f b[n]! =[e]:=by exact rfl)(hk:Nat.ble (k+1) N=true:=by exact rfl)(hn:n<m:=by (first|assumption|omega)):AVC prog tbl dr (.load t x) ty ev ⟨vs,lv,N⟩ (Kq (.e e) ⟨vs,lv,N⟩):=wN (bT.comp L (bT.vec c1 b n hn) (fun _=>rfl)) ht he hg (ho▸hx) hv hk
theorem nl {R:List (Nat×D)→Hp→Prop}(hK:∀tm hp,R tm hp→K tm hp)(h2:R tm hp):aV prog tbl md ops K [] tm hp:=.nil (hK _ _ h2)
theorem gcl {x:Operand}{f:FuncId}{la:List Operand}{ts:Array TypeId}{ds:List D}{r:D}(hc:ar prog f ds r)(h2:aV prog tbl md ops K os ((t,r)::tm) hp)(zW:evD tm x=.e (.lit (.func (.func f) #[] #[])):=by exact rfl)(js:((la.map (evD tm)).map D.ex).all D.pure=true:=by repeat (first|exact pn|refine pA (dW _ _) ?_|refine pA rfl ?_))(hl:leL ((la.map (evD tm)).map D.ex) ds:=by repeat (first|exact lAn|refine lC (ro _ _) ?_|refine lC (ax _) ?_))(hr:r.pure=true∨∃ds,r=.tu ds:=by (first|exact .inl (kG _ _)|exact .inl rfl|exact .inr ⟨_,rfl⟩))(hj:(ops[j]?).bind (·.dst)=some s:=by exact rfl)(hg:tm.lookup s=some (.e (.lit (.bool c))):=by exact rfl)(hw:c=want:=by (with_reducible first|rfl|assumption))(hn:md.nc tbl (.call ⟨.value x,la.toArray,ts⟩)=true:=by exact rfl):aV prog tbl md ops K (⟨some t,.call ⟨.value x,la.toArray,ts⟩,ty,pos,af,some (j,want)⟩::os) tm hp:=PO tok hn hj hg hw (yU zW hc js hl hr) h2
theorem gcb {R S:Type}{g:Option S}{k:S→Option R}{z:R}{x:Operand}{f:FuncId}{la:List Operand}{ts:Array TypeId}{ds:List D}{dr:S→D}(h:bnd g k=some z)(w:∀{y:S},g=some y→ar prog f ds (dr y))(h2:∀y,k y=some z→aV prog tbl md ops K os ((t,dr y)::tm) hp)(zW:evD tm x=.e (.lit (.func (.func f) #[] #[])):=by exact rfl)(js:((la.map (evD tm)).map D.ex).all D.pure=true:=by repeat (first|exact pn|refine pA (dW _ _) ?_|refine pA rfl ?_))(hl:leL ((la.map (evD tm)).map D.ex) ds:=by repeat (first|exact lAn|refine lC (ro _ _) ?_|refine lC (ax _) ?_))(hr:∀y,(dr y).pure=true∨∃ds,dr y=.tu ds:=by (intro y;first|exact .inl (kG _ _)|exact .inl rfl|exact .inr ⟨_,rfl⟩))(hj:(ops[j]?).bind (·.dst)=some s:=by exact rfl)(hg:tm.lookup s=some (.e (.lit (.bool c))):=by exact rfl)(hw:c=want:=by (with_reducible first|rfl|assumption))(hn:md.nc tbl (.call ⟨.value x,la.toArray,ts⟩)=true:=by exact rfl):aV prog tbl md ops K (⟨some t,.call ⟨.value x,la.toArray,ts⟩,ty,pos,af,some (j,want)⟩::os) tm hp:=by
 obtain⟨y,h3,h4⟩:=ae h
 exact PO tok hn hj hg hw (yU zW (w h3) js hl (hr y)) (h2 y h4)
end
section
variable {x:Cx} {tm:List (Nat×D)} {hp hp':Hp} {Q:Exit→List (Nat×D)→Hp→Prop}
theorem aF {R:Type}{b:Bool}{y z:Option R}{r:R}(h:cnd b y z=some r):(b=true∧y=some r)∨(b=false∧z=some r):=by cases b <;> simpa[cnd] using h
theorem wk0 {tm':List (Nat×D)}{vars':List (Nat×List D)}{ip:List (Nat×Nat×Nat×TypeId)}{m:Nat}(h0:x.hp0=⟨[],[],0⟩)(os:List Nat)(ht:wkT (sg 0 os) m tm tm':=by repeat (first|exact wTn|refine wR rfl ?_))(hv:wkV (sg 0 os) m hp.vars vars':=by repeat (first|exact wVn|refine vC rfl ?_|refine vR rfl ?_))(hl:wkL (sg 0 os) m hp.live ip:=by repeat (first|exact wLn|refine wL rfl rfl ?_))(zV:os.Nodup:=by decide)(hm:m=0+os.length:=by exact rfl):Wk x tm hp tm' ⟨vars',ip,m⟩:=wk h0 os ht hv hl zV hm
theorem pe1 {S:Type}{e:Exit}{T:S→List (Nat×D)}{H:S→Hp}{a:S}{vars':List (Nat×List D)}{ip:List (Nat×Nat×Nat×TypeId)}{m:Nat}{tm':List (Nat×D)}{y:S}(h:some a=some y)(h0:x.hp0=⟨[],[],0⟩)(os:List Nat)(hT:T a=tm':=by exact rfl)(hH:H a=⟨vars',ip,m⟩:=by exact rfl)(ht:wkT (sg 0 os) m tm tm':=by repeat (first|exact wTn|refine wR rfl ?_|refine wG rfl (ax _) ?_))(hv:wkV (sg 0 os) m hp.vars vars':=by repeat (first|exact wVn|refine vC rfl ?_|refine vR rfl ?_))(hl:wkL (sg 0 os) m hp.live ip:=by repeat (first|exact wLn|refine wL rfl rfl ?_))(zV:os.Nodup:=by decide)(hm:m=0+os.length:=by exact rfl):PE x e T H y e tm hp:=by cases h;exact pe0 h0 os hT hH ht hv hl zV hm
theorem pel {S:Type}{e:Exit}{T:S→List (Nat×D)}{H:S→Hp}{a:S}{vars':List (Nat×List D)}{ip:List (Nat×Nat×Nat×TypeId)}{m:Nat}{tm':List (Nat×D)}{B:Type}{q:B→Exit→List (Nat×D)→Hp→Prop}{y:S⊕B}(h:some (.inl a)=some y)(h0:x.hp0=⟨[],[],0⟩)(os:List Nat)(hT:T a=tm':=by exact rfl)(hH:H a=⟨vars',ip,m⟩:=by exact rfl)(ht:wkT (sg 0 os) m tm tm':=by repeat (first|exact wTn|refine wR rfl ?_|refine wG rfl (ax _) ?_))(hv:wkV (sg 0 os) m hp.vars vars':=by repeat (first|exact wVn|refine vC rfl ?_|refine vR rfl ?_))(hl:wkL (sg 0 os) m hp.live ip:=by repeat (first|exact wLn|refine wL rfl rfl ?_))(zV:os.Nodup:=by decide)(hm:m=0+os.length:=by exact rfl):PS (PE x e T H) q y e tm hp:=by cases h;exact pe0 h0 os hT hH ht hv hl zV hm
theorem per {S:Type}{T:S→List (Nat×D)}{H:S→Hp}{a:S}{vars':List (Nat×List D)}{ip:List (Nat×Nat×Nat×TypeId)}{m:Nat}{tm':List (Nat×D)}{A:Type}{p:A→Exit→List (Nat×D)→Hp→Prop}{y:A⊕S}{id:Nat}(h:some (.inr a)=some y)(h0:x.hp0=⟨[],[],0⟩)(os:List Nat)(hT:T a=tm':=by exact rfl)(hH:H a=⟨vars',ip,m⟩:=by exact rfl)(ht:wkT (sg 0 os) m tm tm':=by repeat (first|exact wTn|refine wR rfl ?_|refine wG rfl (ax _) ?_))(hv:wkV (sg 0 os) m hp.vars vars':=by repeat (first|exact wVn|refine vC rfl ?_|refine vR rfl ?_))(hl:wkL (sg 0 os) m hp.live ip:=by repeat (first|exact wLn|refine wL rfl rfl ?_))(zV:os.Nodup:=by decide)(hm:m=0+os.length:=by exact rfl):PS p (fun z ex tm hp=>ex≠Exit.normal∧PE x (.exit id) T H z ex tm hp) y (.exit id) tm hp:=by cases h;exact⟨by nofun,pe0 h0 os hT hH ht hv hl zV hm⟩
theorem peq {S:Type}{T:S→List (Nat×D)}{H:S→Hp}{a:S}{vars':List (Nat×List D)}{ip:List (Nat×Nat×Nat×TypeId)}{m:Nat}{tm':List (Nat×D)}{A B:Type}{p:A→Exit→List (Nat×D)→Hp→Prop}{q:B→Exit→List (Nat×D)→Hp→Prop}{y:A⊕(B⊕S)}{id:Nat}(h:some (.inr (.inr a))=some y)(h0:x.hp0=⟨[],[],0⟩)(os:List Nat)(hT:T a=tm':=by exact rfl)(hH:H a=⟨vars',ip,m⟩:=by exact rfl)(ht:wkT (sg 0 os) m tm tm':=by repeat (first|exact wTn|refine wR rfl ?_|refine wG rfl (ax _) ?_))(hv:wkV (sg 0 os) m hp.vars vars':=by repeat (first|exact wVn|refine vC rfl ?_|refine vR rfl ?_))(hl:wkL (sg 0 os) m hp.live ip:=by repeat (first|exact wLn|refine wL rfl rfl ?_))(zV:os.Nodup:=by decide)(hm:m=0+os.length:=by exact rfl):PS p (fun z ex tm hp=>ex≠Exit.normal∧PS q (PE x (.exit id) T H) z ex tm hp) y (.exit id) tm hp:=by cases h;exact⟨by nofun,pe0 h0 os hT hH ht hv hl zV hm⟩
theorem lw0 {S:Type}{e:Exit}{T:S→List (Nat×D)}{H:S→Hp}{y:S}{c:Code}{Q0:Exit→List (Nat×D)→Hp→Prop}(h2:AW prog x c (T y) (H y) Q)(hQ:∀tm hp,AW prog x c tm hp Q→Q0 e tm hp:=by (intro _ _ hq;(try dsimp only);(try simp only[uJ,reduceIte,Nat.reduceEqDiff,reduceCtorEq]);exact hq)):∀ex tm hp,PE x e T H y ex tm hp→Q0 ex tm hp:=by
 rintro ex tm hp ⟨rfl,hw⟩
 exact hQ _ _ (AW.weak hw h2)
theorem rtv {R:Type}{a r:R}{q:ResultVar}{f:R→D}(h:some a=some r)(hq:nY tbl [q] tm hp (f a):=by exact rv1):nY tbl [q] tm hp (f r):=by cases h;exact hq
theorem lwr {S:Type}{e:Exit}{T:S→List (Nat×D)}{H:S→Hp}{y:S}{A:Type}{p:A→Exit→List (Nat×D)→Hp→Prop}{c:Code}{Q0:Exit→List (Nat×D)→Hp→Prop}(h2:AW prog x c (T y) (H y) Q)(hQ:∀tm hp,AW prog x c tm hp Q→Q0 e tm hp:=by (intro _ _ hq;(try dsimp only);(try simp only[uJ,reduceIte,Nat.reduceEqDiff,reduceCtorEq]);exact hq)):∀ex tm hp,PS p (PE x e T H) (.inr y) ex tm hp→Q0 ex tm hp:=lw0 h2 hQ
end
structure ap where
 vBad:Bool
 vNeg:Bool
 vW:Vector Int 16
 deriving Inhabited,DecidableEq
abbrev b8:ap:=⟨false,false,eb⟩
def aq:Cd ap:=⟨18,fun x=>[.lit (.bool x.vBad),.lit (.bool x.vNeg)]++(cA 16 (cI .u32)).f x.vW,fun x=>by simp[(cA 16 (cI .u32)).h,show (cA 16 (cI .u32)).sz=16 from rfl]⟩
theorem ss(x:ap):bT (aq.f x) cB 0 x.vBad (fun y=>aq.f (⟨y,x.vNeg,x.vW⟩:ap)):=
 bT.of ([]) ((cB).f x.vNeg++((cA 16 (cI .u32))).f x.vW) (by first|rfl|(simp[(cA 16 (cI .u32)).h,cB.h];first|rfl|done)) (by first|rfl|simp[aq,cI,cB,cS,cL,c0]) (fun y=>by first|rfl|simp[aq,cI,cB,cS,cL,c0])
theorem nH(x:ap):bT (aq.f x) cB 1 x.vNeg (fun y=>aq.f (⟨x.vBad,y,x.vW⟩:ap)):=
 bT.of ((cB).f x.vBad) (((cA 16 (cI .u32))).f x.vW) (by first|rfl|(simp[(cA 16 (cI .u32)).h,cB.h];first|rfl|done)) (by first|rfl|simp[aq,cI,cB,cS,cL,c0]) (fun y=>by first|rfl|simp[aq,cI,cB,cS,cL,c0])
theorem nG(x:ap):bT (aq.f x) (cA 16 (cI .u32)) 2 x.vW (fun y=>aq.f (⟨x.vBad,x.vNeg,y⟩:ap)):=
 bT.of ((cB).f x.vBad++(cB).f x.vNeg) ([]) (by first|rfl|(simp[(cA 16 (cI .u32)).h,cB.h];first|rfl|done)) (by first|rfl|simp[aq,cI,cB,cS,cL,c0]) (fun y=>by first|rfl|simp[aq,cI,cB,cS,cL,c0])
section
variable {md:Md} {ops:Array Oper} {K:List (Nat×D)→Hp→Prop} {os:List Oper} {tm:List (Nat×D)} {hp hp':Hp} {t s:Tmp} {op:Op} {ty:TypeId} {pos:String} {af:Array Edge} {d d2:D} {j:Nat} {want c:Bool}
variable {dr:Bool} {ev:Operand→D}
theorem av(h:AVC prog tbl dr op ty ev hp (Kq d hp'):=by (first|exact T_mv|exact li|exact UW|exact Nf|exact A_str|exact UA|exact M_bool|exact M_str|exact KQ|exact ER|exact Uf|exact M0|exact M1|exact Un|exact Us|exact Uc|exact Uh|exact Uo|exact Ug|exact Ui|exact Uj|exact Ul|exact Um|exact T_seql|exact T_sneq|exact M4 tn|exact M3 tn|exact T_and|exact T_or|exact T_xor|exact T_neg|exact K_shl|exact K_shr|exact K_quo|exact K_rem|exact UF|exact UG|exact Up tbI tbI|exact T_cvS tbI tbI|exact UE|exact T_lenS tbI|exact T_lenA tbI|exact UD|exact T_min|exact T_max|exact Uq|exact KT_T|exact KT_F|exact KT_A|exact KT_S|exact KV_i)):AVC prog tbl dr op ty ev hp (Kq d hp'):=h
theorem avi(h:AVC prog tbl dr op ty ev hp (Kq d hp'):=by (first|exact av|exact KV_l (bT.id _ _)|exact yd (F:=(cA 16 (cI .u32)).f (eb)) cQ|exact wN (nH _) tbI|exact wN (ss _) tbI|exact Ap (nG _) tbI|exact KV_l (nG _)|exact yd (F:=aq.f (⟨false,false,(eb)⟩:ap)) eY|exact T_ldC tbI|exact T_ldA tbI)):AVC prog tbl dr op ty ev hp (Kq d hp'):=h
theorem sbi(h2:aV prog tbl md ops K os ((t,d)::tm) hp')(h:AVC prog tbl md.dr op ty (evD tm) hp (Kq d hp'):=by exact avi)(hn:md.nc tbl op=true:=by exact rfl):aV prog tbl md ops K (⟨some t,op,ty,pos,af,none⟩::os) tm hp:=st tok hn h h2
theorem tzi(h2:aV prog tbl md ops K os tm hp')(h:AVC prog tbl md.dr op ty (evD tm) hp (Kq .top hp'):=by (first|exact KV_s))(hn:md.nc tbl op=true:=by exact rfl):aV prog tbl md ops K (⟨none,op,ty,pos,af,none⟩::os) tm hp:=st_n tok hn h h2
theorem gbi(h2:aV prog tbl md ops K os ((t,d)::tm) hp')(hj:(ops[j]?).bind (·.dst)=some s:=by exact rfl)(hc:tm.lookup s=some (.e (.lit (.bool c))):=by exact rfl)(hw:c=want:=by (with_reducible first|rfl|assumption))(h:AVC prog tbl md.dr op ty (evD tm) hp (Kq d hp'):=by exact avi)(hn:md.nc tbl op=true:=by exact rfl):aV prog tbl md ops K (⟨some t,op,ty,pos,af,some (j,want)⟩::os) tm hp:=PO tok hn hj hc hw h h2
theorem mbi {os':List Oper}{tm':List (Nat×D)}(h2:aV prog tbl md ops K os' tm' hp')(h:aV prog tbl md ops K os' tm' hp'→aV prog tbl md ops K os tm hp:=by (intro h;(repeat (first|refine sbi ?_|refine tzi ?_|refine gbi ?_|refine JD ?_));exact h)):aV prog tbl md ops K os tm hp:=h h2
theorem nbi {R:List (Nat×D)→Hp→Prop}{tm':List (Nat×D)}(hK:∀tm hp,R tm hp→K tm hp)(h2:R tm' hp')(h:K tm' hp'→aV prog tbl md ops K os tm hp:=by (intro h;(repeat (first|refine sbi ?_|refine tzi ?_|refine gbi ?_|refine JD ?_));exact .nil h)):aV prog tbl md ops K os tm hp:=h (hK _ _ h2)
end
section
variable {x:Cx} {tm:List (Nat×D)} {hp hp':Hp} {Q:Exit→List (Nat×D)→Hp→Prop}
theorem rai {n id:Nat}{l:List Oper}{b:Code}{tm':List (Nat×D)}(hx:x.N=n)(h2:AW prog x b tm' hp' Q)(h:∀K:List (Nat×D)→Hp→Prop,K tm' hp'→aV prog tbl .seq l.toArray K l tm hp:=by (intro K h;(repeat (first|refine sbi ?_|refine tzi ?_|refine gbi ?_|refine JD ?_));exact .nil h))(hN:mg n l.toArray=true:=by kernel_rfl):AW prog x (.seq (.region id l.toArray false) b) tm hp Q:=rs hx (fun K hK=>h K (hK _ _ h2)) hN
theorem rbi {n id:Nat}{l:List Oper}{tm':List (Nat×D)}(hx:x.N=n)(h2:Q .normal tm' hp')(h:∀K:List (Nat×D)→Hp→Prop,K tm' hp'→aV prog tbl .seq l.toArray K l tm hp:=by (intro K h;(repeat (first|refine sbi ?_|refine tzi ?_|refine gbi ?_|refine JD ?_));exact .nil h))(hN:mg n l.toArray=true:=by kernel_rfl):AW prog x (.region id l.toArray false) tm hp Q:=rq hx (fun K hK=>h K (hK _ _ h2)) hN
end
def lj(aX:ap):Option Bool:=bnd (some (decide (aX.vW=#v[(0:Int),0,0,0,0,0,0,0,0,0,0,0,0,0,0,0]))) fun x1=>cnd aX.vBad (bnd (S:=Bool) (cnd x1 (some (!aX.vNeg)) (some (false))) fun nR=>some nR) (bnd (S:=Bool) (cnd (!x1) (some (true)) (some (!aX.vNeg))) fun c8=>some c8)
theorem xC {aX:ap}{r:Bool}(h:lj aX=some r):ar prog 178 [dG aq aX] (dB r):=by
 refine bj (rs:=[.tmp 2]) (fun cx hx h0=>?_) func178
 unfold lj at h
 refine ra hx ?_
 refine rs hx fun K hK=>?_
 iterate 2 refine sbi ?_
 refine s1 (d:=dG (cA 16 (cI .u32)) (#v[(0:Int),0,0,0,0,0,0,0,0,0,0,0,0,0,0,0])) (mm cQ bO) ?_
 refine s1 (ET tok 2 (by decide) (EqC.arr (EqC.int (d:=0) bO) cQ bO) cQ) ?_
 obtain⟨x1,w7,h⟩:=ae h
 replace w7:=bB w7
 refine s2 (d2:=dB x1) li (f7 (congrArg dB w7)) ?_
 refine nl hK ?_
 refine AW.seq (rai hx ?_)
 refine cdh h rfl (fun fQ h=>?_) (fun fQ h=>?_)
 refine AW.seq ?_
 obtain⟨nR,hy,h⟩:=ae h
 refine jn ((PE cx .normal (fun nR=>[(2,dB nR)]) fun nR=>⟨[],[],0⟩) nR) ?_ ?_
 replace h:=hy
 refine rq hx fun K hK=>?_
 refine mbi ?_
 rcases aF h with⟨Fk,h⟩|⟨Fk,h⟩
 refine nbi hK ?_
 exact pe1 h h0 []
 refine nbi hK ?_
 exact pe1 h h0 []
 refine lw0 ?_
 exact AW.ret (rtv h)
 refine AW.skip (AW.seq ?_)
 obtain⟨c8,hy,h⟩:=ae h
 refine jn ((PE cx .normal (fun c8=>[(2,dB c8)]) fun c8=>⟨[],[],0⟩) c8) ?_ ?_
 replace h:=hy
 refine rq hx fun K hK=>?_
 refine mbi ?_
 rcases aF h with⟨qP,h⟩|⟨qP,h⟩
 refine nbi hK ?_
 exact pe1 h h0 []
 refine nbi hK ?_
 exact pe1 h h0 []
 refine lw0 ?_
 exact AW.ret (rtv h)
def ey :Option ap:=some (⟨true,false,(eb)⟩:ap)
theorem gZ  {r:ap}(h:ey=some r):ar prog 121 [] (dG aq r):=by
 refine bj (rs:=[.cell 0 41]) (fun cx hx h0=>?_) func121
 unfold ey at h
 refine rai hx ?_
 refine rs hx fun K hK=>?_
 refine s1 (d:=dG aq (⟨true,false,(eb)⟩:ap)) (gV (FL.cons (y:=true) (ss b8) rfl rfl (FL.nil _)) eY) ?_
 refine nbi hK ?_
 exact AW.ret (rtv h)
def nj(ek:List ap):Int→Option (Int⊕(Bool⊕Unit)):=fun aD=>cnd (decide (aD<((ek).length:Int))) (gd (0≤aD∧aD<((ek).length:Int)) (bnd (S:=Bool) (cnd (((ek)[(aD).toNat]!).vBad) (some (true)) (bnd (lj ((ek)[(aD).toNat]!)) fun x5=>some (!x5))) fun bq=>cnd bq (some (.inr (.inl false))) (some (.inl (i64.wrap (aD+(1:Int))))))) (some (.inr (.inr ())))
def cp(ek:List ap):Option Bool:=bnd (bt (nj ek) (0:Int)) fun y9=>match y9 with| .inl r=>some r| .inr ()=>some true
theorem eW {ek:List ap}{r:Bool}(h:cp ek=some r):ar prog 147 [dL aq ek] (dB r):=by
 refine bj (rs:=[.tmp 2]) (fun cx hx h0=>?_) func147
 unfold cp at h
 refine ra hx ?_
 refine AW.seq (ra hx ?_)
 refine AW.block ?_
 obtain⟨y,hy,h⟩:=ae h
 refine lp (S:=Int) (X:=Bool⊕Unit) (fun aD=>[(5,dL aq ek),(6,dI .i64 ((ek).length:Int)),(7,dI .i64 aD)]) (fun aD=>⟨[],[],0⟩) (PS (PR [.tmp 2] fun r=>dB r) (PE cx (.exit 0) (fun ()=>[]) fun ()=>⟨[],[],0⟩)) hy ?_ ?_ ?_
 exact wk0 h0 []
 clear hy h
 rintro aD y h
 dsimp only[nj] at h
 refine ra hx ?_
 refine AW.seq (cdh h rfl (fun fR h=>?_) (fun fR h=>?_))
 refine AW.skip (AW.seq (AW.block (rs hx fun K hK=>?_)))
 obtain⟨qC,h⟩:=az h
 have xw:(aD).toNat<(ek).length:=by omega
 refine sbi ?_
 refine s1 (d:=dG aq ((ek)[(aD).toNat]!)) (kA (c:=aq) (l:=ek) (n:=(aD).toNat) (o:=0) eY xw (fV _ _ rfl)) ?_
 refine nbi hK ?_
 refine AW.seq ?_
 obtain⟨bq,hy,h⟩:=ae h
 refine jn ((PE cx .normal (fun bq=>[(5,dL aq ek),(6,dI .i64 ((ek).length:Int)),(7,dI .i64 aD),(17,dB bq)]) fun bq=>⟨[],[],0⟩) bq) ?_ ?_
 replace h:=hy
 refine rq hx fun K hK=>?_
 refine mbi ?_
 rcases aF h with⟨Fk,h⟩|⟨Fk,h⟩
 refine nbi hK ?_
 exact pe1 h h0 []
 refine gbi ?_
 refine gcb h xC fun x5 h=>?_
 refine nbi hK ?_
 exact pe1 h h0 []
 refine lw0 ?_
 refine cdh h rfl (fun tH h=>?_) (fun tH h=>?_)
 refine ra hx ?_
 refine AW.ret ?_
 cases h
 refine PS.r ⟨by nofun,PS.l (PR.i ?_)⟩
 exact rv1
 refine AW.skip (rb hx ?_)
 exact pel h h0 []
 exact AW.exit (peq h h0 [])
 rcases y with r|⟨⟩
 rintro ex tm' hp' ⟨rfl,hw⟩
 cases h
 exact hw
 refine lwr ?_
 refine ra hx ?_
 exact AW.ret (rtv h)
def bF(zF:Bool)(sT:Vector Int 16):Option ap:=bnd (S:=ap) (cnd zF (bnd (some ((⟨false,decide (¬(sT=#v[(0:Int),0,0,0,0,0,0,0,0,0,0,0,0,0,0,0])),sT⟩:ap))) fun x2=>some (x2)) (some ((⟨false,false,sT⟩:ap)))) fun bo=>some bo
theorem da {zF:Bool}{sT:Vector Int 16}{r:ap}(h:bF zF sT=some r):ar prog 145 [dB zF,dG (cA 16 (cI .u32)) sT] (dG aq r):=by
 refine bj (rs:=[.cell 4 41]) (fun cx hx h0=>?_) func145
 unfold bF at h
 refine rai hx ?_
 refine AW.seq ?_
 obtain⟨bo,hy,h⟩:=ae h
 refine jn ((PE cx .normal (fun bo=>[(4,.pt 0 0)]) fun bo=>⟨[(0,dC (aq.f bo))],[],1⟩) bo) ?_ ?_
 replace h:=hy
 refine rqd [] hx fun K hK=>?_
 refine mbi ?_
 rcases aF h with⟨fR,h⟩|⟨fR,h⟩
 refine gbi ?_
 refine g1 (d:=dG (cA 16 (cI .u32)) (#v[(0:Int),0,0,0,0,0,0,0,0,0,0,0,0,0,0,0])) fR (mm cQ bO) ?_
 refine g1 fR (wP tok 2 (by decide) (EqC.arr (EqC.int (d:=0) bO) cQ bO) cQ) ?_
 iterate 2 refine sbi ?_
 refine s1 (d:=dG aq (⟨false,decide (¬(sT=#v[(0:Int),0,0,0,0,0,0,0,0,0,0,0,0,0,0,0])),sT⟩:ap)) (gV (FL.cons (y:=decide (¬(sT=#v[(0:Int),0,0,0,0,0,0,0,0,0,0,0,0,0,0,0]))) (nH b8) rfl rfl (FL.cons (y:=sT) (nG (⟨false,decide (¬(sT=#v[(0:Int),0,0,0,0,0,0,0,0,0,0,0,0,0,0,0])),(eb)⟩:ap)) rfl rfl (FL.nil _))) eY) ?_
 obtain⟨x2,hx3,h⟩:=ae h
 replace hx3:=bB hx3
 refine s0 (nD (b':=(⟨false,decide (¬(sT=#v[(0:Int),0,0,0,0,0,0,0,0,0,0,0,0,0,0,0])),sT⟩:ap)) (bT.id _ _) eY hx3) ?_
 refine nl hK ?_
 exact pe1 h h0 [1]
 iterate 3 refine Pe rfl rfl fR ?_
 iterate 2 refine sbi ?_
 refine s1 (d:=dG aq (⟨false,false,sT⟩:ap)) (gV (FL.cons (y:=false) (nH b8) rfl rfl (FL.cons (y:=sT) (nG b8) rfl rfl (FL.nil _))) eY) ?_
 refine nbi hK ?_
 exact pe1 h h0 [1]
 refine lw0 ?_
 exact AW.ret (rtv h)
def gM(cZ:Int):Option ap:=bnd (S:=Int) (cnd (decide (cZ<(0:Int))) (some (u64.wrap (0 - (u64.wrap (cZ))))) (some (u64.wrap (cZ)))) fun jp=>bnd (bF (decide (cZ<(0:Int))) (#v[u32.wrap (jp),u32.wrap (l5 .u64 jp (32:Int)),0,0,0,0,0,0,0,0,0,0,0,0,0,0])) fun x3=>some x3
theorem qT {cZ:Int}{r:ap}(h:gM cZ=some r):ar prog 91 [dI .i64 cZ] (dG aq r):=by
 refine bj (rs:=[.cell 2 41]) (fun cx hx h0=>?_) func91
 unfold gM at h
 refine rai hx ?_
 refine ra hx ?_
 refine AW.seq ?_
 obtain⟨jp,hy,h⟩:=ae h
 refine jn ((PE cx .normal (fun jp=>[(0,dI .i64 cZ),(2,.pt 0 0),(3,dI .u64 jp)]) fun jp=>⟨[(0,dC (aq.f b8))],[],1⟩) jp) ?_ ?_
 replace h:=hy
 refine ra hx ?_
 refine cdh h rfl (fun fR h=>?_) (fun fR h=>?_)
 refine rb hx ?_
 exact pe1 h h0 [0]
 exact AW.skip (pe1 h h0 [0])
 refine lw0 ?_
 refine rs hx fun K hK=>?_
 iterate 7 refine sa ?_
 refine s1 (d:=dG (cA 16 (cI .u32)) (#v[u32.wrap (jp),u32.wrap (l5 .u64 jp (32:Int)),0,0,0,0,0,0,0,0,0,0,0,0,0,0])) (mm cQ bO) ?_
 refine scb h da fun x3 h=>?_
 refine nbi hK ?_
 exact AW.ret (rtv h)
def kU(sT:Vector Int 16):Int→Option (Int⊕Int):=fun aD=>bnd (S:=Bool) (cnd (decide ((0:Int)<aD)) (gd (0≤i64.wrap (aD - (1:Int))∧i64.wrap (aD - (1:Int))<16) (some (decide (((sT)[(i64.wrap (aD - (1:Int))).toNat]!)=(0:Int))))) (some (false))) fun nR=>cnd nR (some (.inl (i64.wrap (aD - (1:Int))))) (some (.inr aD))
def eF(sT:Vector Int 16):Option Int:=bnd (bt (kU sT) (16:Int)) fun oE=>some oE
theorem kB {sT:Vector Int 16}{r:Int}(h:eF sT=some r):ar prog 148 [dG (cA 16 (cI .u32)) sT] (dI .i64 r):=by
 refine bj (rs:=[.tmp 2]) (fun cx hx h0=>?_) func148
 unfold eF at h
 iterate 2 refine ra hx ?_
 refine AW.seq (AW.block ?_)
 obtain⟨oE,hy,h⟩:=ae h
 refine lp (S:=Int) (X:=Int) (fun aD=>[(1,.pt 0 0),(3,dI .i64 aD)]) (fun aD=>⟨[(0,dC ((cA 16 (cI .u32)).f sT))],[],1⟩) (PE cx (.exit 0) (fun oE=>[(3,dI .i64 oE)]) fun oE=>⟨[],[],0⟩) hy ?_ ?_ ?_
 exact wk0 h0 [0]
 clear hy h
 rintro aD y h
 dsimp only[kU] at h
 iterate 2 refine AW.seq ?_
 obtain⟨nR,hy,h⟩:=ae h
 refine jn ((PE cx .normal (fun nR=>[(1,.pt 0 0),(3,dI .i64 aD),(12,dB nR)]) fun nR=>⟨[(0,dC ((cA 16 (cI .u32)).f sT))],[],1⟩) nR) ?_ ?_
 replace h:=hy
 refine rq hx fun K hK=>?_
 refine mbi ?_
 rcases aF h with⟨fR,h⟩|⟨fR,h⟩
 iterate 2 refine ga fR ?_
 obtain⟨qC,h⟩:=az h
 refine nbi hK ?_
 exact pe1 h h0 [0]
 refine nbi hK ?_
 exact pe1 h h0 [0]
 refine lw0 ?_
 refine cdh h rfl (fun rt h=>?_) (fun rt h=>?_)
 refine AW.skip (AW.block (rb hx ?_))
 exact pel h h0 [0]
 exact AW.exit (per h h0 [])
 refine lw0 ?_
 refine ra hx ?_
 exact AW.ret (rtv h)
def mz(aX:Int):Option Int:=bnd (S:=Int×Int) (cnd (decide ((65536:Int)≤aX)) (some ((l5 .u32 aX (16:Int),(16:Int)))) (some ((aX,(0:Int))))) fun (bo,IF)=>bnd (S:=Int×Int) (cnd (decide ((256:Int)≤bo)) (some ((l5 .u32 bo (8:Int),i64.wrap (IF+(8:Int))))) (some ((bo,IF)))) fun (oU,EO)=>gd (0≤u8.wrap (oU)∧u8.wrap (oU)<((⟨#[0,1,2,2,3,3,3,3,4,4,4,4,4,4,4,4,5,5,5,5,5,5,5,5,5,5,5,5,5,5,5,5,6,6,6,6,6,6,6,6,6,6,6,6,6,6,6,6,6,6,6,6,6,6,6,6,6,6,6,6,6,6,6,6,7,7,7,7,7,7,7,7,7,7,7,7,7,7,7,7,7,7,7,7,7,7,7,7,7,7,7,7,7,7,7,7,7,7,7,7,7,7,7,7,7,7,7,7,7,7,7,7,7,7,7,7,7,7,7,7,7,7,7,7,7,7,7,7,8,8,8,8,8,8,8,8,8,8,8,8,8,8,8,8,8,8,8,8,8,8,8,8,8,8,8,8,8,8,8,8,8,8,8,8,8,8,8,8,8,8,8,8,8,8,8,8,8,8,8,8,8,8,8,8,8,8,8,8,8,8,8,8,8,8,8,8,8,8,8,8,8,8,8,8,8,8,8,8,8,8,8,8,8,8,8,8,8,8,8,8,8,8,8,8,8,8,8,8,8,8,8,8,8,8,8,8,8,8,8,8,8,8,8,8,8,8,8,8,8,8,8,8,8,8,8,8]⟩:ByteArray).size:Int)) (bnd (some (i64.wrap (EO+(i64.wrap (sAt (⟨#[0,1,2,2,3,3,3,3,4,4,4,4,4,4,4,4,5,5,5,5,5,5,5,5,5,5,5,5,5,5,5,5,6,6,6,6,6,6,6,6,6,6,6,6,6,6,6,6,6,6,6,6,6,6,6,6,6,6,6,6,6,6,6,6,7,7,7,7,7,7,7,7,7,7,7,7,7,7,7,7,7,7,7,7,7,7,7,7,7,7,7,7,7,7,7,7,7,7,7,7,7,7,7,7,7,7,7,7,7,7,7,7,7,7,7,7,7,7,7,7,7,7,7,7,7,7,7,7,8,8,8,8,8,8,8,8,8,8,8,8,8,8,8,8,8,8,8,8,8,8,8,8,8,8,8,8,8,8,8,8,8,8,8,8,8,8,8,8,8,8,8,8,8,8,8,8,8,8,8,8,8,8,8,8,8,8,8,8,8,8,8,8,8,8,8,8,8,8,8,8,8,8,8,8,8,8,8,8,8,8,8,8,8,8,8,8,8,8,8,8,8,8,8,8,8,8,8,8,8,8,8,8,8,8,8,8,8,8,8,8,8,8,8,8,8,8,8,8,8,8,8,8,8,8,8,8]⟩:ByteArray) (u8.wrap (oU)).toNat))))) fun x6=>some x6)
theorem zo {aX:Int}{r:Int}(h:mz aX=some r):ar prog 197 [dI .u32 aX] (dI .i64 r):=by
 refine bj (rs:=[.tmp 2]) (fun cx hx h0=>?_) func197
 unfold mz at h
 refine ra hx ?_
 refine AW.seq ?_
 obtain⟨y,hy,h⟩:=ae h
 refine jn ((PE cx .normal (fun (bo,IF)=>[(0,dI .u32 bo),(2,dI .i64 IF)]) fun (bo,IF)=>⟨[],[],0⟩) y) ?_ ?_
 replace h:=hy
 refine ra hx ?_
 refine cdh h rfl (fun fR h=>?_) (fun fR h=>?_)
 refine ra hx ?_
 refine rb hx ?_
 exact pe1 h h0 []
 exact AW.skip (pe1 h h0 [])
 obtain⟨bo,IF⟩:=y
 refine lw0 ?_
 refine AW.seq ?_
 obtain⟨y,hy,h⟩:=ae h
 refine jn ((PE cx .normal (fun (oU,EO)=>[(0,dI .u32 oU),(2,dI .i64 EO)]) fun (oU,EO)=>⟨[],[],0⟩) y) ?_ ?_
 replace h:=hy
 refine ra hx ?_
 refine cdh h rfl (fun fQ h=>?_) (fun fQ h=>?_)
 refine ra hx ?_
 refine rb hx ?_
 exact pe1 h h0 []
 exact AW.skip (pe1 h h0 [])
 obtain⟨oU,EO⟩:=y
 refine lw0 ?_
 refine rs hx fun K hK=>?_
 iterate 3 refine sa ?_
 obtain⟨hc5,h⟩:=az h
 refine s1 (T_ixS hc5 tb_9) ?_
 iterate 2 refine sa ?_
 obtain⟨x6,vt,h⟩:=ae h
 replace vt:=bB vt
 refine s2 (d2:=dI .i64 x6) li (f7 (congrArg (dI .i64) vt)) ?_
 refine nl hK ?_
 exact AW.ret (rtv h)
def oa(aX:ap):Option Int:=bnd (eF aX.vW) fun x1=>bnd (S:=Bool) (bnd (cp [aX]) fun x3=>cnd (!x3) (some (true)) (some (decide (x1=(0:Int))))) fun aD=>cnd aD (some (0:Int)) (gd (0≤i64.wrap (x1 - (1:Int))∧i64.wrap (x1 - (1:Int))<16) (bnd (mz ((aX.vW)[(i64.wrap (x1 - (1:Int))).toNat]!)) fun mI=>some (i64.wrap ((i64.wrap ((32:Int)*(i64.wrap (x1 - (1:Int)))))+mI))))
theorem Hc {aX:ap}{r:Int}(h:oa aX=some r):ar prog 196 [dG aq aX] (dI .i64 r):=by
 refine bj (rs:=[.tmp 2]) (fun cx hx h0=>?_) func196
 unfold oa at h
 refine ra hx ?_
 refine rs hx fun K hK=>?_
 refine mbi ?_
 refine scb h kB fun x1 h=>?_
 refine nbi hK ?_
 iterate 2 refine AW.seq ?_
 obtain⟨aD,hy,h⟩:=ae h
 refine jn ((PE cx .normal (fun aD=>[(1,.pt 0 0),(3,dI .i64 x1),(14,dB aD)]) fun aD=>⟨[(0,dC (aq.f aX))],[],1⟩) aD) ?_ ?_
 replace h:=hy
 refine rq hx fun K hK=>?_
 refine sbi ?_
 refine s1 (kT ([aX]:List ap) aq qf eY) ?_
 refine scb h eW fun x3 h=>?_
 refine mbi ?_
 rcases aF h with⟨rt,h⟩|⟨rt,h⟩
 refine nbi hK ?_
 exact pe1 h h0 [0]
 refine nbi hK ?_
 exact pe1 h h0 [0]
 refine lw0 ?_
 refine cdh h rfl (fun tI h=>?_) (fun tI h=>?_)
 refine ra hx ?_
 exact AW.ret (rtv h)
 refine AW.skip (rs hx fun K hK=>?_)
 iterate 6 refine sa ?_
 obtain⟨hc8,h⟩:=az h
 refine mbi ?_
 refine scb h zo fun mI h=>?_
 refine nbi hK ?_
 exact AW.ret (rtv h)
def lm(aX:ap):Option (Int×Bool):=bnd (S:=Bool) (bnd (cp [aX]) fun x1=>cnd (!x1) (some (true)) (bnd (oa aX) fun x4=>some (decide ((64:Int)<x4)))) fun dq=>cnd dq (some ((0:Int),false)) (bnd (some (ior .u64 (yz .u64 (u64.wrap ((aX.vW)[((1:Int)).toNat]!)) (32:Int)) (u64.wrap ((aX.vW)[((0:Int)).toNat]!)))) fun mI=>bnd (S:=Bool) (cnd aX.vNeg (some (decide (mI≤(9223372036854775808:Int)))) (some (false))) fun tZ=>cnd tZ (some (i64.wrap (u64.wrap (0 - mI)),true)) (bnd (S:=Bool) (cnd (!aX.vNeg) (some (decide (mI<(9223372036854775808:Int)))) (some (false))) fun ic=>cnd ic (some (i64.wrap (mI),true)) (some ((0:Int),false))))
theorem xD {aX:ap}{r:Int×Bool}(h:lm aX=some r):ar prog 180 [dG aq aX] (.tu [dI .i64 r.1,dB r.2]):=by
 refine bj (rs:=[.tmp 2,.tmp 3]) (fun cx hx h0=>?_) func180
 unfold lm at h
 refine ra hx ?_
 iterate 2 refine AW.seq ?_
 obtain⟨dq,hy,h⟩:=ae h
 refine jn ((PE cx .normal (fun dq=>[(1,.pt 0 0),(13,dB dq)]) fun dq=>⟨[(0,dC (aq.f aX))],[],1⟩) dq) ?_ ?_
 replace h:=hy
 refine rq hx fun K hK=>?_
 refine sbi ?_
 refine s1 (kT ([aX]:List ap) aq qf eY) ?_
 refine scb h eW fun x1 h=>?_
 refine mbi ?_
 rcases aF h with⟨fQ,h⟩|⟨fQ,h⟩
 refine nbi hK ?_
 exact pe1 h h0 [0]
 refine gbi ?_
 refine gcb h Hc fun x4 h=>?_
 refine nbi hK ?_
 exact pe1 h h0 [0]
 refine lw0 ?_
 refine cdh h rfl (fun tI h=>?_) (fun tI h=>?_)
 refine ra hx ?_
 refine AW.ret ?_
 cases h
 exact rv2
 refine AW.skip (rs hx fun K hK=>?_)
 refine sa ?_
 refine s1 (vm (by decide:0≤(1:Int)∧(1:Int)<((16:Nat):Int)) cQ bO) ?_
 iterate 4 refine sbi ?_
 refine s1 (vm (by decide:0≤(0:Int)∧(0:Int)<((16:Nat):Int)) cQ bO) ?_
 iterate 3 refine sbi ?_
 obtain⟨mI,FO,h⟩:=ae h
 replace FO:=bB FO
 refine s2 (d2:=dI .u64 mI) li (f7 (congrArg (dI .u64) FO)) ?_
 refine nl hK ?_
 refine AW.seq (AW.block (AW.seq ?_))
 obtain⟨tZ,hy,h⟩:=ae h
 refine jn ((PE cx .normal (fun tZ=>[(1,.pt 0 0),(4,dI .u64 mI),(24,dB tZ)]) fun tZ=>⟨[(0,dC (aq.f aX))],[],1⟩) tZ) ?_ ?_
 replace h:=hy
 refine rq hx fun K hK=>?_
 refine mbi ?_
 rcases aF h with⟨DS,h⟩|⟨DS,h⟩
 refine nbi hK ?_
 exact pe1 h h0 [0]
 refine nbi hK ?_
 exact pe1 h h0 [0]
 refine lw0 ?_
 refine cdh h rfl (fun uq h=>?_) (fun uq h=>?_)
 refine ra hx ?_
 refine AW.ret ?_
 cases h
 exact rv2
 refine AW.seq ?_
 obtain⟨ic,hy,h⟩:=ae h
 refine jn ((PE cx .normal (fun ic=>[(4,dI .u64 mI),(34,dB ic)]) fun ic=>⟨[],[],0⟩) ic) ?_ ?_
 replace h:=hy
 refine rq hx fun K hK=>?_
 refine mbi ?_
 rcases aF h with⟨HV,h⟩|⟨HV,h⟩
 refine nbi hK ?_
 exact pe1 h h0 []
 refine nbi hK ?_
 exact pe1 h h0 []
 refine lw0 ?_
 refine cdh h rfl (fun DR h=>?_) (fun DR h=>?_)
 refine ra hx ?_
 refine AW.ret ?_
 cases h
 exact rv2
 refine AW.skip (ra hx ?_)
 refine AW.ret ?_
 cases h
 exact rv2
def fL(aX:Int):Option Bool:=some (decide (aX≠aX))
theorem qW {aX:Int}{r:Bool}(h:fL aX=some r):ar prog 195 [dI .u32 aX] (dB r):=by
 refine bj (rs:=[.tmp 2]) (fun cx hx h0=>?_) func195
 unfold fL at h
 iterate 2 refine ra hx ?_
 exact AW.ret (rtv h)
def gh(aX:Int)(nE:Int):Option Int:=bnd (fL aX) fun x1=>bnd (fL nE) fun x3=>cnd x1 (cnd x3 (some (0:Int)) (some (-1:Int))) (cnd x3 (some (1:Int)) (cnd (decide (aX<nE)) (some (-1:Int)) (cnd (decide (nE<aX)) (some (1:Int)) (some (0:Int)))))
theorem v9 {aX:Int}{nE:Int}{r:Int}(h:gh aX nE=some r):ar prog 179 [dI .u32 aX,dI .u32 nE] (dI .i64 r):=by
 refine bj (rs:=[.tmp 4]) (fun cx hx h0=>?_) func179
 unfold gh at h
 refine ra hx ?_
 refine rs hx fun K hK=>?_
 refine sa ?_
 refine scb h qW fun x1 h=>?_
 refine nbi hK ?_
 refine rs hx fun K hK=>?_
 refine sa ?_
 refine scb h qW fun x3 h=>?_
 refine nbi hK ?_
 refine AW.seq (ra hx ?_)
 refine cdh h rfl (fun rt h=>?_) (fun rt h=>?_)
 refine AW.seq (ra hx ?_)
 refine cdh h rfl (fun qP h=>?_) (fun qP h=>?_)
 refine ra hx ?_
 exact AW.ret (rtv h)
 refine AW.skip (ra hx ?_)
 exact AW.ret (rtv h)
 refine AW.skip (AW.seq (ra hx ?_))
 refine cdh h rfl (fun tI h=>?_) (fun tI h=>?_)
 refine ra hx ?_
 exact AW.ret (rtv h)
 refine AW.skip (AW.seq (ra hx ?_))
 refine cdh h rfl (fun tH h=>?_) (fun tH h=>?_)
 refine ra hx ?_
 exact AW.ret (rtv h)
 refine AW.skip (AW.seq (ra hx ?_))
 refine cdh h rfl (fun JW h=>?_) (fun JW h=>?_)
 refine ra hx ?_
 exact AW.ret (rtv h)
 refine AW.skip (ra hx ?_)
 exact AW.ret (rtv h)
def jO(aJ:Vector Int 16)(aO:Vector Int 16):Int→Option (Int⊕(Int⊕Unit)):=fun aD=>cnd (decide ((0:Int)≤aD)) (gd (0≤aD∧aD<16) (gd (0≤aD∧aD<16) (cnd (decide (((aJ)[(aD).toNat]!)≠((aO)[(aD).toNat]!))) (gd (0≤aD∧aD<16) (gd (0≤aD∧aD<16) (bnd (gh ((aJ)[(aD).toNat]!) ((aO)[(aD).toNat]!)) fun r8=>some (.inr (.inl r8))))) (some (.inl (i64.wrap (aD - (1:Int)))))))) (some (.inr (.inr ())))
def g5(aJ:Vector Int 16)(aO:Vector Int 16):Option Int:=bnd (bt (jO aJ aO) (15:Int)) fun y13=>match y13 with| .inl r=>some r| .inr ()=>some (0:Int)
theorem pw {aJ:Vector Int 16}{aO:Vector Int 16}{r:Int}(h:g5 aJ aO=some r):ar prog 149 [dG (cA 16 (cI .u32)) aJ,dG (cA 16 (cI .u32)) aO] (dI .i64 r):=by
 refine bj (rs:=[.tmp 4]) (fun cx hx h0=>?_) func149
 unfold g5 at h
 refine ra hx ?_
 refine AW.seq (ra hx ?_)
 refine AW.block ?_
 obtain⟨y,hy,h⟩:=ae h
 refine lp (S:=Int) (X:=Int⊕Unit) (fun aD=>[(2,.pt 0 0),(3,.pt 1 0),(5,dI .i64 aD)]) (fun aD=>⟨[(0,dC ((cA 16 (cI .u32)).f aJ)),(1,dC ((cA 16 (cI .u32)).f aO))],[],2⟩) (PS (PR [.tmp 4] fun r=>dI .i64 r) (PE cx (.exit 0) (fun ()=>[]) fun ()=>⟨[],[],0⟩)) hy ?_ ?_ ?_
 exact wk0 h0 [0,1]
 clear hy h
 rintro aD y h
 dsimp only[jO] at h
 refine AW.seq (ra hx ?_)
 refine cdh h rfl (fun fR h=>?_) (fun fR h=>?_)
 refine AW.skip (AW.seq (AW.block (rsd [] hx fun K hK=>?_)))
 refine sa ?_
 obtain⟨qC,h⟩:=az h
 iterate 3 refine sbi ?_
 obtain⟨N6,h⟩:=az h
 refine nbi hK ?_
 refine cdh h rfl (fun qP h=>?_) (fun qP h=>?_)
 refine rsd [179] hx fun K hK=>?_
 refine sa ?_
 obtain⟨hc7,h⟩:=az h
 iterate 3 refine sbi ?_
 obtain⟨hc9,h⟩:=az h
 refine mbi ?_
 refine cqb h v9 fun r8 h=>?_
 refine nbi hK ?_
 refine AW.ret ?_
 cases h
 refine PS.r ⟨by nofun,PS.l (PR.i ?_)⟩
 exact rv1
 refine AW.skip (rb hx ?_)
 exact pel h h0 [0,1]
 exact AW.exit (peq h h0 [])
 rcases y with r|⟨⟩
 rintro ex tm' hp' ⟨rfl,hw⟩
 cases h
 exact hw
 refine lwr ?_
 refine ra hx ?_
 exact AW.ret (rtv h)
def jN(aJ:Vector Int 16)(aO:Vector Int 16):Int×Int×(Vector Int 16)→Option ((Int×Int×(Vector Int 16))⊕(Int×(Vector Int 16))):=fun (dh,bM,eh)=>cnd (decide (bM<(16:Int))) (gd (0≤bM∧bM<16) (gd (0≤bM∧bM<16) (bnd (some (u64.wrap (dh+(u64.wrap ((u64.wrap ((aJ)[(bM).toNat]!))+(u64.wrap ((aO)[(bM).toNat]!))))))) fun x6=>gd (0≤bM∧bM<16) (some (.inl (l5 .u64 x6 (32:Int),i64.wrap (bM+(1:Int)),(eh).set! (bM).toNat (u32.wrap (x6)))))))) (some (.inr (dh,eh)))
def n8(aJ:Vector Int 16)(aO:Vector Int 16):Option ((Vector Int 16)×Bool):=bnd (bt (jN aJ aO) ((0:Int),(0:Int),(eb))) fun (ce,oF)=>some (oF,decide (ce=(0:Int)))
theorem Ha {aJ:Vector Int 16}{aO:Vector Int 16}{r:(Vector Int 16)×Bool}(h:n8 aJ aO=some r):ar prog 164 [dG (cA 16 (cI .u32)) aJ,dG (cA 16 (cI .u32)) aO] (.tu [dG (cA 16 (cI .u32)) r.1,dB r.2]):=by
 refine bj (rs:=[.cell 4 39,.tmp 5]) (fun cx hx h0=>?_) func164
 unfold n8 at h
 refine rai hx ?_
 refine rai hx ?_
 refine ra hx ?_
 refine AW.seq (ra hx ?_)
 refine AW.block ?_
 obtain⟨y,hy,h⟩:=ae h
 refine lp (S:=Int×Int×(Vector Int 16)) (X:=Int×(Vector Int 16)) (fun (dh,bM,eh)=>[(2,.pt 0 0),(3,.pt 1 0),(4,.pt 2 0),(6,.pt 3 0),(7,dI .u64 dh),(9,dI .i64 bM)]) (fun (dh,bM,eh)=>⟨[(0,dC ((cA 16 (cI .u32)).f aJ)),(1,dC ((cA 16 (cI .u32)).f aO)),(2,dC ((cA 16 (cI .u32)).f (eb))),(3,dC ((cA 16 (cI .u32)).f eh))],[],4⟩) (PE cx (.exit 0) (fun (ce,oF)=>[(4,.pt 0 0),(6,.pt 1 0),(7,dI .u64 ce)]) fun (ce,oF)=>⟨[(0,dC ((cA 16 (cI .u32)).f (eb))),(1,dC ((cA 16 (cI .u32)).f oF))],[],2⟩) hy ?_ ?_ ?_
 exact wk0 h0 [0,1,2,3]
 clear hy h
 rintro⟨dh,bM,eh⟩ y h
 dsimp only[jN] at h
 refine ra hx ?_
 refine AW.seq (cdh h rfl (fun fR h=>?_) (fun fR h=>?_))
 refine AW.skip (AW.seq (AW.block (ra hx ?_)))
 refine rsd [] hx fun K hK=>?_
 iterate 2 refine sa ?_
 obtain⟨qC,h⟩:=az h
 iterate 4 refine sbi ?_
 obtain⟨N6,h⟩:=az h
 iterate 5 refine sbi ?_
 obtain⟨x6,vt,h⟩:=ae h
 replace vt:=bB vt
 refine s2 (d2:=dI .u64 x6) li (f7 (congrArg (dI .u64) vt)) ?_
 refine nl hK ?_
 refine rs hx fun K hK=>?_
 iterate 3 refine sa ?_
 obtain⟨hc8,h⟩:=az h
 have hn9:(bM).toNat<16:=by omega
 refine sbi ?_
 refine s0 (yb (b':=u32.wrap (x6)) (bT.comp (bT.id _ _) (bT.vec (cI .u32) eh (bM).toNat hn9) (fun _=>rfl)) bO) ?_
 refine nl hK ?_
 iterate 2 refine rb hx ?_
 exact pel h h0 [0,1,2,3]
 exact AW.exit (per h h0 [2,3])
 obtain⟨ce,oF⟩:=y
 refine lw0 ?_
 refine rai hx ?_
 refine AW.ret ?_
 cases h
 exact rv2
def ja(aJ:Vector Int 16)(aO:Vector Int 16):Int×Int×(Vector Int 16)→Option ((Int×Int×(Vector Int 16))⊕((Vector Int 16))):=fun (dh,bM,eh)=>cnd (decide (bM<(16:Int))) (gd (0≤bM∧bM<16) (gd (0≤bM∧bM<16) (bnd (some (u64.wrap ((u64.wrap ((u64.wrap ((aJ)[(bM).toNat]!)) - (u64.wrap ((aO)[(bM).toNat]!)))) - dh))) fun x6=>gd (0≤bM∧bM<16) (some (.inl (l5 .u64 x6 (63:Int),i64.wrap (bM+(1:Int)),(eh).set! (bM).toNat (u32.wrap (x6)))))))) (some (.inr eh))
def g6(aJ:Vector Int 16)(aO:Vector Int 16):Option (Vector Int 16):=bnd (bt (ja aJ aO) ((0:Int),(0:Int),(eb))) fun ce=>some ce
theorem sP {aJ:Vector Int 16}{aO:Vector Int 16}{r:Vector Int 16}(h:g6 aJ aO=some r):ar prog 165 [dG (cA 16 (cI .u32)) aJ,dG (cA 16 (cI .u32)) aO] (dG (cA 16 (cI .u32)) r):=by
 refine bj (rs:=[.cell 4 39]) (fun cx hx h0=>?_) func165
 unfold g6 at h
 refine rai hx ?_
 refine rai hx ?_
 refine ra hx ?_
 refine AW.seq (ra hx ?_)
 refine AW.block ?_
 obtain⟨ce,hy,h⟩:=ae h
 refine lp (S:=Int×Int×(Vector Int 16)) (X:=(Vector Int 16)) (fun (dh,bM,eh)=>[(2,.pt 0 0),(3,.pt 1 0),(4,.pt 2 0),(5,.pt 3 0),(6,dI .u64 dh),(9,dI .i64 bM)]) (fun (dh,bM,eh)=>⟨[(0,dC ((cA 16 (cI .u32)).f aJ)),(1,dC ((cA 16 (cI .u32)).f aO)),(2,dC ((cA 16 (cI .u32)).f (eb))),(3,dC ((cA 16 (cI .u32)).f eh))],[],4⟩) (PE cx (.exit 0) (fun ce=>[(4,.pt 0 0),(5,.pt 1 0)]) fun ce=>⟨[(0,dC ((cA 16 (cI .u32)).f (eb))),(1,dC ((cA 16 (cI .u32)).f ce))],[],2⟩) hy ?_ ?_ ?_
 exact wk0 h0 [0,1,2,3]
 clear hy h
 rintro⟨dh,bM,eh⟩ y h
 dsimp only[ja] at h
 refine ra hx ?_
 refine AW.seq (cdh h rfl (fun fR h=>?_) (fun fR h=>?_))
 refine AW.skip (AW.seq (AW.block (ra hx ?_)))
 refine rsd [] hx fun K hK=>?_
 refine sa ?_
 obtain⟨qC,h⟩:=az h
 iterate 4 refine sbi ?_
 obtain⟨N6,h⟩:=az h
 iterate 6 refine sbi ?_
 obtain⟨x6,vt,h⟩:=ae h
 replace vt:=bB vt
 refine s2 (d2:=dI .u64 x6) li (f7 (congrArg (dI .u64) vt)) ?_
 refine nl hK ?_
 refine rs hx fun K hK=>?_
 iterate 3 refine sa ?_
 obtain⟨hc8,h⟩:=az h
 have hn9:(bM).toNat<16:=by omega
 refine sbi ?_
 refine s0 (yb (b':=u32.wrap (x6)) (bT.comp (bT.id _ _) (bT.vec (cI .u32) eh (bM).toNat hn9) (fun _=>rfl)) bO) ?_
 refine nl hK ?_
 iterate 2 refine rb hx ?_
 exact pel h h0 [0,1,2,3]
 exact AW.exit (per h h0 [2,3])
 refine lw0 ?_
 refine rai hx ?_
 exact AW.ret (rtv h)
def jd(aJ:ap)(aO:ap):Option ap:=bnd (cp [aJ,aO]) fun x1=>cnd (!x1) (bnd (ey) fun x4=>some x4) (cnd (aJ.vNeg == aO.vNeg) (bnd (n8 aJ.vW aO.vW) fun x7=>cnd (!x7.2) (bnd (ey) fun mI=>some mI) (bnd (bF aJ.vNeg x7.1) fun nf=>some nf)) (bnd (g5 aJ.vW aO.vW) fun pJ=>cnd (decide ((0:Int)≤pJ)) (bnd (g6 aJ.vW aO.vW) fun pI=>bnd (bF aJ.vNeg pI) fun vn=>some vn) (bnd (g6 aO.vW aJ.vW) fun vJ=>bnd (bF aO.vNeg vJ) fun xB=>some xB)))
theorem BG {aJ:ap}{aO:ap}{r:ap}(h:jd aJ aO=some r):ar prog 123 [dG aq aJ,dG aq aO] (dG aq r):=by
 refine bj (rs:=[.cell 4 41]) (fun cx hx h0=>?_) func123
 unfold jd at h
 refine rai hx ?_
 refine AW.seq (rs hx fun K hK=>?_)
 iterate 2 refine sbi ?_
 refine s1 (kT ([aJ,aO]:List ap) aq qf eY) ?_
 refine scb h eW fun x1 h=>?_
 refine nbi hK ?_
 refine cdh h rfl (fun fQ h=>?_) (fun fQ h=>?_)
 refine rs hx fun K hK=>?_
 refine scb h gZ fun x4 h=>?_
 refine nbi hK ?_
 exact AW.ret (rtv h)
 refine AW.skip (AW.seq (rai hx ?_))
 refine cdh h rfl (fun qP h=>?_) (fun qP h=>?_)
 refine rs hx fun K hK=>?_
 refine mbi ?_
 refine scb h Ha fun x7 h=>?_
 refine nbi hK ?_
 refine AW.seq (ra hx ?_)
 refine cdh h rfl (fun JW h=>?_) (fun JW h=>?_)
 refine rs hx fun K hK=>?_
 refine scb h gZ fun mI h=>?_
 refine nbi hK ?_
 exact AW.ret (rtv h)
 refine AW.skip (rs hx fun K hK=>?_)
 refine mbi ?_
 refine scb h da fun nf h=>?_
 refine nbi hK ?_
 exact AW.ret (rtv h)
 refine AW.skip (AW.seq (rs hx fun K hK=>?_))
 refine mbi ?_
 refine scb h pw fun pJ h=>?_
 refine nbi hK ?_
 refine cdh h rfl (fun ru h=>?_) (fun ru h=>?_)
 refine rsd [165,145] hx fun K hK=>?_
 refine mbi ?_
 refine cqb h sP fun pI h=>?_
 refine cqb h da fun vn h=>?_
 refine nbi hK ?_
 exact AW.ret (rtv h)
 refine AW.skip (rsd [165,145] hx fun K hK=>?_)
 refine mbi ?_
 refine cqb h sP fun vJ h=>?_
 refine cqb h da fun xB h=>?_
 refine nbi hK ?_
 exact AW.ret (rtv h)
def l7(aX:ap):Option ap:=bnd (cp [aX]) fun x1=>cnd (!x1) (bnd (ey) fun x4=>some x4) (bnd (bF (!aX.vNeg) aX.vW) fun x6=>some x6)
theorem vM {aX:ap}{r:ap}(h:l7 aX=some r):ar prog 100 [dG aq aX] (dG aq r):=by
 refine bj (rs:=[.cell 2 41]) (fun cx hx h0=>?_) func100
 unfold l7 at h
 refine rai hx ?_
 refine AW.seq (rs hx fun K hK=>?_)
 refine sbi ?_
 refine s1 (kT ([aX]:List ap) aq qf eY) ?_
 refine scb h eW fun x1 h=>?_
 refine nbi hK ?_
 refine cdh h rfl (fun fQ h=>?_) (fun fQ h=>?_)
 refine rs hx fun K hK=>?_
 refine scb h gZ fun x4 h=>?_
 refine nbi hK ?_
 exact AW.ret (rtv h)
 refine AW.skip (rs hx fun K hK=>?_)
 refine mbi ?_
 refine scb h da fun x6 h=>?_
 refine nbi hK ?_
 exact AW.ret (rtv h)
def nJ(aJ:ap)(aO:ap):Option ap:=bnd (l7 aO) fun x1=>bnd (jd aJ x1) fun x3=>some x3
theorem I7 {aJ:ap}{aO:ap}{r:ap}(h:nJ aJ aO=some r):ar prog 181 [dG aq aJ,dG aq aO] (dG aq r):=by
 refine bj (rs:=[.cell 4 41]) (fun cx hx h0=>?_) func181
 unfold nJ at h
 refine rai hx ?_
 refine rsd [100,123] hx fun K hK=>?_
 refine mbi ?_
 refine cqb h vM fun x1 h=>?_
 refine cqb h BG fun x3 h=>?_
 refine nbi hK ?_
 exact AW.ret (rtv h)
def eZ(aX:ap):Option Int:=bnd (S:=Bool) (bnd (cp [aX]) fun x1=>cnd (!x1) (some (true)) (some (decide (aX.vW=#v[(0:Int),0,0,0,0,0,0,0,0,0,0,0,0,0,0,0])))) fun jp=>cnd jp (some (0:Int)) (cnd aX.vNeg (some (-1:Int)) (some (1:Int)))
theorem kC {aX:ap}{r:Int}(h:eZ aX=some r):ar prog 95 [dG aq aX] (dI .i64 r):=by
 refine bj (rs:=[.tmp 2]) (fun cx hx h0=>?_) func95
 unfold eZ at h
 refine ra hx ?_
 refine AW.seq (AW.block (AW.seq ?_))
 obtain⟨jp,hy,h⟩:=ae h
 refine jn ((PE cx .normal (fun jp=>[(1,.pt 0 0),(3,dB jp)]) fun jp=>⟨[(0,dC (aq.f aX))],[],1⟩) jp) ?_ ?_
 replace h:=hy
 refine rq hx fun K hK=>?_
 refine sbi ?_
 refine s1 (kT ([aX]:List ap) aq qf eY) ?_
 refine scb h eW fun x1 h=>?_
 refine mbi ?_
 rcases aF h with⟨fQ,h⟩|⟨fQ,h⟩
 refine nbi hK ?_
 exact pe1 h h0 [0]
 refine ga fQ ?_
 refine gbi ?_
 refine g1 (d:=dG (cA 16 (cI .u32)) (#v[(0:Int),0,0,0,0,0,0,0,0,0,0,0,0,0,0,0])) fQ (mm cQ bO) ?_
 refine g1 fQ (ET tok 2 (by decide) (EqC.arr (EqC.int (d:=0) bO) cQ bO) cQ) ?_
 refine nbi hK ?_
 exact pe1 h h0 [0]
 refine lw0 ?_
 refine cdh h rfl (fun rt h=>?_) (fun rt h=>?_)
 refine ra hx ?_
 exact AW.ret (rtv h)
 refine rai hx ?_
 refine cdh h rfl (fun qP h=>?_) (fun qP h=>?_)
 refine ra hx ?_
 exact AW.ret (rtv h)
 refine AW.skip (ra hx ?_)
 exact AW.ret (rtv h)
def l6(sT:Vector Int 16)(cZ:Int):Int×Int×(Vector Int 16)→Option ((Int×Int×(Vector Int 16))⊕(Int×(Vector Int 16))):=fun (dh,bM,eh)=>cnd (decide (bM<(16:Int))) (gd (0≤bM∧bM<16) (gd (0≤cZ) (bnd (some (ior .u64 dh (yz .u64 (u64.wrap ((sT)[(bM).toNat]!)) cZ))) fun x5=>gd (0≤bM∧bM<16) (some (.inl (l5 .u64 x5 (32:Int),i64.wrap (bM+(1:Int)),(eh).set! (bM).toNat (u32.wrap (x5)))))))) (some (.inr (dh,eh)))
def pb(sT:Vector Int 16)(cZ:Int):Option ((Vector Int 16)×Int):=bnd (bt (l6 sT cZ) ((0:Int),(0:Int),(eb))) fun (ce,oF)=>some (oF,u32.wrap (ce))
theorem CW {sT:Vector Int 16}{cZ:Int}{r:(Vector Int 16)×Int}(h:pb sT cZ=some r):ar prog 189 [dG (cA 16 (cI .u32)) sT,dI .i64 cZ] (.tu [dG (cA 16 (cI .u32)) r.1,dI .u32 r.2]):=by
 refine bj (rs:=[.cell 4 39,.tmp 5]) (fun cx hx h0=>?_) func189
 unfold pb at h
 refine rai hx ?_
 refine rai hx ?_
 refine ra hx ?_
 refine AW.seq (ra hx ?_)
 refine AW.block ?_
 obtain⟨y,hy,h⟩:=ae h
 refine lp (S:=Int×Int×(Vector Int 16)) (X:=Int×(Vector Int 16)) (fun (dh,bM,eh)=>[(1,dI .i64 cZ),(2,.pt 0 0),(4,.pt 1 0),(6,.pt 2 0),(7,dI .u64 dh),(9,dI .i64 bM)]) (fun (dh,bM,eh)=>⟨[(0,dC ((cA 16 (cI .u32)).f sT)),(1,dC ((cA 16 (cI .u32)).f (eb))),(2,dC ((cA 16 (cI .u32)).f eh))],[],3⟩) (PE cx (.exit 0) (fun (ce,oF)=>[(4,.pt 0 0),(6,.pt 1 0),(7,dI .u64 ce)]) fun (ce,oF)=>⟨[(0,dC ((cA 16 (cI .u32)).f (eb))),(1,dC ((cA 16 (cI .u32)).f oF))],[],2⟩) hy ?_ ?_ ?_
 exact wk0 h0 [0,1,2]
 clear hy h
 rintro⟨dh,bM,eh⟩ y h
 dsimp only[l6] at h
 refine ra hx ?_
 refine AW.seq (cdh h rfl (fun fR h=>?_) (fun fR h=>?_))
 refine AW.skip (AW.seq (AW.block (ra hx ?_)))
 refine rs hx fun K hK=>?_
 iterate 2 refine sa ?_
 obtain⟨qC,h⟩:=az h
 iterate 4 refine sbi ?_
 obtain⟨N6,h⟩:=az h
 refine s1 (Ue N6) ?_
 refine sa ?_
 obtain⟨x5,HN,h⟩:=ae h
 replace HN:=bB HN
 refine s2 (d2:=dI .u64 x5) li (f7 (congrArg (dI .u64) HN)) ?_
 refine nl hK ?_
 refine rs hx fun K hK=>?_
 iterate 3 refine sa ?_
 obtain⟨hc7,h⟩:=az h
 have Qm:(bM).toNat<16:=by omega
 refine sbi ?_
 refine s0 (yb (b':=u32.wrap (x5)) (bT.comp (bT.id _ _) (bT.vec (cI .u32) eh (bM).toNat Qm) (fun _=>rfl)) bO) ?_
 refine nl hK ?_
 iterate 2 refine rb hx ?_
 exact pel h h0 [0,1,2]
 exact AW.exit (per h h0 [1,2])
 obtain⟨ce,oF⟩:=y
 refine lw0 ?_
 refine rai hx ?_
 refine AW.ret ?_
 cases h
 exact rv2
def kV(sT:Vector Int 16)(cZ:Int):Int×(Vector Int 16)→Option ((Int×(Vector Int 16))⊕((Vector Int 16))):=fun (aN,bn)=>cnd (decide (aN<(16:Int))) (bnd (S:=Int) (cnd (decide ((i64.wrap (aN+(1:Int)))<(16:Int))) (gd (0≤i64.wrap (aN+(1:Int))∧i64.wrap (aN+(1:Int))<16) (bnd (some (u64.wrap ((sT)[(i64.wrap (aN+(1:Int))).toNat]!))) fun x5=>some (x5))) (some ((0:Int)))) fun EN=>gd (0≤aN∧aN<16) (gd (0≤cZ) (gd (0≤aN∧aN<16) (bnd (some ((bn).set! (aN).toNat (u32.wrap (l5 .u64 (ior .u64 (yz .u64 EN (32:Int)) (u64.wrap ((sT)[(aN).toNat]!))) cZ)))) fun qa=>some (.inl (i64.wrap (aN+(1:Int)),qa)))))) (some (.inr bn))
def n9(sT:Vector Int 16)(cZ:Int):Option (Vector Int 16):=bnd (bt (kV sT cZ) ((0:Int),(eb))) fun a9=>some a9
theorem Hb {sT:Vector Int 16}{cZ:Int}{r:Vector Int 16}(h:n9 sT cZ=some r):ar prog 193 [dG (cA 16 (cI .u32)) sT,dI .i64 cZ] (dG (cA 16 (cI .u32)) r):=by
 refine bj (rs:=[.cell 4 39]) (fun cx hx h0=>?_) func193
 unfold n9 at h
 refine rai hx ?_
 refine rai hx ?_
 refine AW.seq (ra hx ?_)
 refine AW.block ?_
 obtain⟨a9,hy,h⟩:=ae h
 refine lp (S:=Int×(Vector Int 16)) (X:=(Vector Int 16)) (fun (aN,bn)=>[(1,dI .i64 cZ),(2,.pt 0 0),(4,.pt 1 0),(5,.pt 2 0),(8,dI .i64 aN)]) (fun (aN,bn)=>⟨[(0,dC ((cA 16 (cI .u32)).f sT)),(1,dC ((cA 16 (cI .u32)).f (eb))),(2,dC ((cA 16 (cI .u32)).f bn))],[],3⟩) (PE cx (.exit 0) (fun a9=>[(4,.pt 0 0),(5,.pt 1 0)]) fun a9=>⟨[(0,dC ((cA 16 (cI .u32)).f (eb))),(1,dC ((cA 16 (cI .u32)).f a9))],[],2⟩) hy ?_ ?_ ?_
 exact wk0 h0 [0,1,2]
 clear hy h
 rintro⟨aN,bn⟩ y h
 dsimp only[kV] at h
 refine ra hx ?_
 refine AW.seq (cdh h rfl (fun fR h=>?_) (fun fR h=>?_))
 refine AW.skip (AW.seq (AW.block ?_))
 iterate 2 refine ra hx ?_
 refine AW.seq ?_
 obtain⟨EN,hy,h⟩:=ae h
 refine jn ((PE cx .normal (fun EN=>[(1,dI .i64 cZ),(2,.pt 0 0),(4,.pt 1 0),(5,.pt 2 0),(6,dI .i64 aN),(7,dI .u64 EN),(8,dI .i64 aN)]) fun EN=>⟨[(0,dC ((cA 16 (cI .u32)).f sT)),(1,dC ((cA 16 (cI .u32)).f (eb))),(2,dC ((cA 16 (cI .u32)).f bn))],[],3⟩) EN) ?_ ?_
 replace h:=hy
 refine ra hx ?_
 refine cdh h rfl (fun BZ h=>?_) (fun BZ h=>?_)
 refine rq hx fun K hK=>?_
 iterate 2 refine sa ?_
 obtain⟨hc3,h⟩:=az h
 iterate 3 refine sbi ?_
 obtain⟨x5,HN,h⟩:=ae h
 replace HN:=bB HN
 refine s2 (d2:=dI .u64 x5) li (f7 (congrArg (dI .u64) HN)) ?_
 refine nl hK ?_
 exact pe1 h h0 [0,1,2]
 exact AW.skip (pe1 h h0 [0,1,2])
 refine lw0 ?_
 refine rq hx fun K hK=>?_
 iterate 4 refine sa ?_
 obtain⟨hc8,h⟩:=az h
 iterate 5 refine sbi ?_
 obtain⟨L8,h⟩:=az h
 refine s1 (Ud L8) ?_
 refine sa ?_
 obtain⟨SD,h⟩:=az h
 have hn12:(aN).toNat<16:=by omega
 refine sbi ?_
 obtain⟨qa,RZ,h⟩:=ae h
 replace RZ:=bB RZ
 refine s0 (nD (b':=u32.wrap (l5 .u64 (ior .u64 (yz .u64 EN (32:Int)) (u64.wrap ((sT)[(aN).toNat]!))) cZ)) (bT.comp (bT.id _ _) (bT.vec (cI .u32) bn (aN).toNat hn12) (fun _=>rfl)) bO RZ) ?_
 refine nl hK ?_
 refine rb hx ?_
 exact pel h h0 [0,1,2]
 exact AW.exit (per h h0 [1,2])
 refine lw0 ?_
 refine rai hx ?_
 exact AW.ret (rtv h)
def jM(aJ:Vector Int 16)(aO:Int):Int×Int×(Vector Int 16)→Option ((Int×Int×(Vector Int 16))⊕(Int×(Vector Int 16))):=fun (aN,bn,mF)=>cnd (decide ((0:Int)≤bn)) (gd (0≤bn∧bn<16) (bnd (some (ior .u64 (yz .u64 aN (32:Int)) (u64.wrap ((aJ)[(bn).toNat]!)))) fun x4=>gd (u64.wrap (aO)≠0) (gd (0≤bn∧bn<16) (bnd (some ((mF).set! (bn).toNat (u32.wrap (u64.wrap (Int.tdiv x4 (u64.wrap (aO))))))) fun x9=>gd (u64.wrap (aO)≠0) (some (.inl (Int.tmod x4 (u64.wrap (aO)),i64.wrap (bn - (1:Int)),x9))))))) (some (.inr (aN,mF)))
def mX(aJ:Vector Int 16)(aO:Int):Option ((Vector Int 16)×Int):=bnd (bt (jM aJ aO) ((0:Int),(15:Int),(eb))) fun (a9,j8)=>some (j8,u32.wrap (a9))
theorem Ft {aJ:Vector Int 16}{aO:Int}{r:(Vector Int 16)×Int}(h:mX aJ aO=some r):ar prog 187 [dG (cA 16 (cI .u32)) aJ,dI .u32 aO] (.tu [dG (cA 16 (cI .u32)) r.1,dI .u32 r.2]):=by
 refine bj (rs:=[.cell 4 39,.tmp 5]) (fun cx hx h0=>?_) func187
 unfold mX at h
 refine rai hx ?_
 refine ra hx ?_
 refine AW.seq (ra hx ?_)
 refine AW.block ?_
 obtain⟨y,hy,h⟩:=ae h
 refine lp (S:=Int×Int×(Vector Int 16)) (X:=Int×(Vector Int 16)) (fun (aN,bn,mF)=>[(1,dI .u32 aO),(2,.pt 0 0),(4,.pt 1 0),(6,dI .u64 aN),(7,dI .i64 bn)]) (fun (aN,bn,mF)=>⟨[(0,dC ((cA 16 (cI .u32)).f aJ)),(1,dC ((cA 16 (cI .u32)).f mF))],[],2⟩) (PE cx (.exit 0) (fun (a9,j8)=>[(4,.pt 0 0),(6,dI .u64 a9)]) fun (a9,j8)=>⟨[(0,dC ((cA 16 (cI .u32)).f j8))],[],1⟩) hy ?_ ?_ ?_
 exact wk0 h0 [0,1]
 clear hy h
 rintro⟨aN,bn,mF⟩ y h
 dsimp only[jM] at h
 refine AW.seq (ra hx ?_)
 refine cdh h rfl (fun fR h=>?_) (fun fR h=>?_)
 refine AW.skip (AW.seq (AW.block (rs hx fun K hK=>?_)))
 iterate 3 refine sa ?_
 obtain⟨qC,h⟩:=az h
 iterate 4 refine sbi ?_
 obtain⟨x4,Pn,h⟩:=ae h
 replace Pn:=bB Pn
 refine s2 (d2:=dI .u64 x4) li (f7 (congrArg (dI .u64) Pn)) ?_
 refine nl hK ?_
 refine rs hx fun K hK=>?_
 iterate 4 refine sa ?_
 obtain⟨hc6,h⟩:=az h
 refine s1 (G2 hc6) ?_
 refine sa ?_
 obtain⟨hc7,h⟩:=az h
 have Qm:(bn).toNat<16:=by omega
 refine sbi ?_
 obtain⟨x9,LP,h⟩:=ae h
 replace LP:=bB LP
 refine s0 (nD (b':=u32.wrap (u64.wrap (Int.tdiv x4 (u64.wrap (aO))))) (bT.comp (bT.id _ _) (bT.vec (cI .u32) mF (bn).toNat Qm) (fun _=>rfl)) bO LP) ?_
 refine nl hK ?_
 refine rq hx fun K hK=>?_
 iterate 3 refine sa ?_
 obtain⟨SD,h⟩:=az h
 refine s1 (EQ SD) ?_
 refine nbi hK ?_
 refine rb hx ?_
 exact pel h h0 [0,1]
 exact AW.exit (per h h0 [1])
 obtain⟨a9,j8⟩:=y
 refine lw0 ?_
 refine rai hx ?_
 refine AW.ret ?_
 cases h
 exact rv2
section
section
variable {b A B k m d:Nat}
theorem pp(hb:0<b):((A % b ^ k+B % b ^ k) / b ^ k+dg b A k+dg b B k) % b=dg b (A+B) k∧((A % b ^ k+B % b ^ k) / b ^ k+dg b A k+dg b B k) / b=(A % b ^ (k+1)+B % b ^ (k+1)) / b ^ (k+1):=by
 have hp:0<b ^ k:=bL hb
 have hs:A % b ^ (k+1)+B % b ^ (k+1)=(A % b ^ k+B % b ^ k)+b ^ k*(dg b A k+dg b B k):=by
  rw[gQ,gQ,uI];omega
 have h1:(A % b ^ (k+1)+B % b ^ (k+1)) / b ^ k=(A % b ^ k+B % b ^ k) / b ^ k+dg b A k+dg b B k:=by
  rw[hs,yQ _ _ hp];omega
 refine⟨?_,?_⟩
 ·have e:A+B=(A % b ^ (k+1)+B % b ^ (k+1))+b ^ k*(b*(A / b ^ (k+1)+B / b ^ (k+1))):=by
   have e1:=lD A (b ^ (k+1))
   have e2:=lD B (b ^ (k+1))
   have e3:b ^ k*(b*(A / b ^ (k+1)+B / b ^ (k+1)))=b ^ (k+1)*(A / b ^ (k+1))+b ^ (k+1)*(B / b ^ (k+1)):=by
    rw[←eS,←cy,uI]
   omega
  unfold dg
  rw[e,yQ _ _ hp,h1]
  unfold dg
  rw[BA]
 ·rw[cy,←gP,←cy,h1]
theorem oh(hb:0<b):(A % b ^ k+B % b ^ k) / b ^ k≤1:=by
 have hp:0<b ^ k:=bL hb
 have h1:=eg A hp
 have h2:=eg B hp
 have:(A % b ^ k+B % b ^ k) / b ^ k<2:=(lz hp).2 (by omega)
 omega
theorem Gw(hb:0<b):(A % b ^ k*m / b ^ k+dg b A k*m) % b=dg b (A*m) k∧(A % b ^ k*m / b ^ k+dg b A k*m) / b=A % b ^ (k+1)*m / b ^ (k+1):=by
 have hp:0<b ^ k:=bL hb
 have hs:A % b ^ (k+1)*m=A % b ^ k*m+b ^ k*(dg b A k*m):=by
  rw[gQ,bU,eS]
 have h1:A % b ^ (k+1)*m / b ^ k=A % b ^ k*m / b ^ k+dg b A k*m:=by
  rw[hs,yQ _ _ hp]
 refine⟨?_,?_⟩
 ·have e:A*m=A % b ^ (k+1)*m+b ^ k*(b*(A / b ^ (k+1)*m)):=by
   have e1:=lD A (b ^ (k+1))
   have e3:b ^ k*(b*(A / b ^ (k+1)*m))=b ^ (k+1)*(A / b ^ (k+1))*m:=by
    rw[←eS,←cy,←eS]
   rw[e3,←bU]
   congr 1
   omega
  have h2:dg b (A*m) k=A*m / b ^ k % b:=rfl
  rw[h2,e,yQ _ _ hp,h1,BA]
 ·rw[cy,←gP,←cy,h1]
theorem AZ(hb:0<b)(hm:0<m):A % b ^ k*m / b ^ k<m:=by
 have hp:0<b ^ k:=bL hb
 rw[lz hp,bx]
 exact Nat.mul_lt_mul_of_pos_left (eg A hp) hm
theorem yr(hb:0<b)(hd:0<d):(A / b ^ (k+1) % d*b+dg b A k) / d=dg b (A / d) k∧(A / b ^ (k+1) % d*b+dg b A k) % d=A / b ^ k % d:=by
 have e:=cr (b:=b) (A:=A) (k:=k)
 have hR:=lD (A / b ^ (k+1)) d
 generalize hr:A / b ^ (k+1) % d=r at hR ⊢
 generalize ht:A / b ^ (k+1) / d=t at hR
 have hrd:r<d:=by rw[←hr];exact eg _ hd
 have ha:dg b A k<b:=Tl hb
 generalize dg b A k=a at e ha ⊢
 have e2:A / b ^ k=r*b+a+d*(t*b):=by
  rw[e,←hR,bU,eS];omega
 have bH:(r*b+a) / d<b:=by
  rw[lz hd]
  have:(r+1)*b≤d*b:=cG _ hrd
  rw[bU,eT,bx d b] at this
  omega
 refine⟨?_,?_⟩
 ·have:dg b (A / d) k=A / b ^ k / d % b:=by unfold dg;rw[gP,bx,←gP]
  rw[this,e2,yQ _ _ hd,MS,ej bH]
 ·rw[e2,BA]
end
abbrev W(A:Nat):Vector Int 16:=vN 4294967296 16 A
theorem gE {A k:Nat}(h:k<16):(W A)[k]! =(dg 4294967296 A k:Int):=jt h
theorem dgl {A k:Nat}:dg 4294967296 A k<4294967296:=Tl (by decide)
theorem G_plus {A B:Nat}(hA:A<4294967296 ^ 16)(hB:B<4294967296 ^ 16):n8 (W A) (W B)=some (W (A+B),decide (A+B<4294967296 ^ 16)):=by
 have hl:=rk (b:=jN (W A) (W B)) (s0:=((0:Int),(0:Int),eb)) (fun k=>(((A % 4294967296 ^ k+B % 4294967296 ^ k) / 4294967296 ^ k:Nat),(k:Int),vN 4294967296 16 ((A+B) % 4294967296 ^ k))) 16 (((A % 4294967296 ^ 16+B % 4294967296 ^ 16) / 4294967296 ^ 16:Nat),vN 4294967296 16 ((A+B) % 4294967296 ^ 16))
  (by simp only[fO,mT,sh];rfl)
  (fun k hk=>by
   have hc:=oh (b:=4294967296) (A:=A) (B:=B) (k:=k) (by decide)
   obtain⟨h1,h2⟩:=pp (b:=4294967296) (A:=A) (B:=B) (k:=k) (by decide)
   have ha:=@dgl A k
   have hb:=@dgl B k
   dsimp only[jN]
   rw[cw _ _,aC,aC,ab,aC,bP,gE hk,gE hk,ig,ig,←j6,ig,←j6,ig,xH,AC,←xz,h1,h2,CB (by decide) hk,bV,j6]
   rfl)
  (by
   dsimp only[jN]
   rw[cg _ _])
 unfold n8
 rw[hl,ab,ej hA,ej hB,Hf (by decide)]
 dsimp only
 congr 2
 have:((((A+B) / 4294967296 ^ 16:Nat):Int)=0)↔A+B<4294967296 ^ 16:=by
  rw[Int.natCast_eq_zero,Ix (by decide)]
 exact kR.2 this
theorem IR {A B:Nat}(hBA:B≤A):g6 (W A) (W B)=some (W (A - B)):=by
 obtain⟨D,rfl⟩:∃D,A=D+B:=⟨A - B,by omega⟩
 rw[uH]
 have hl:=rk (b:=ja (W (D+B)) (W B)) (s0:=((0:Int),(0:Int),eb)) (fun k=>(((D % 4294967296 ^ k+B % 4294967296 ^ k) / 4294967296 ^ k:Nat),(k:Int),vN 4294967296 16 (D % 4294967296 ^ k))) 16 (vN 4294967296 16 (D % 4294967296 ^ 16))
  (by simp only[fO,mT,sh];rfl)
  (fun k hk=>by
   have hc:=oh (b:=4294967296) (A:=D) (B:=B) (k:=k) (by decide)
   obtain⟨h1,h2⟩:=pp (b:=4294967296) (A:=D) (B:=B) (k:=k) (by decide)
   have ha:=@dgl D k
   have hb:=@dgl B k
   have hd:=@dgl (D+B) k
   generalize (D % 4294967296 ^ k+B % 4294967296 ^ k) / 4294967296 ^ k=c at h1 h2 hc ⊢
   generalize (D % 4294967296 ^ (k+1)+B % 4294967296 ^ (k+1)) / 4294967296 ^ (k+1)=c' at h2 ⊢
   dsimp only[ja]
   rw[cw _ _,aC,aC,ab,aC,bP,gE hk,gE hk,ig,ig,bV]
   have hx:∃x:Nat,u64.wrap (u64.wrap ((dg 4294967296 (D+B) k:Int) - (dg 4294967296 B k:Int)) - (c:Int))=(x:Int)∧x / 9223372036854775808=c'∧x % 4294967296=dg 4294967296 D k:=by
    rw[IntKind.wrap_u64,IntKind.wrap_u64]
    refine⟨((((dg 4294967296 (D+B) k:Int) - (dg 4294967296 B k:Int)) % 18446744073709551616 - (c:Int)) % 18446744073709551616).toNat,by omega,by omega,by omega⟩
   obtain⟨x,GB,w7,hx3⟩:=hx
   rw[GB,Q1,AC,w7,hx3,CB (by decide) hk]
   rfl)
  (by
   dsimp only[ja]
   rw[cg _ _])
 unfold g6
 rw[hl,ab,Hf (by decide)]
theorem G_up {A s:Nat}(hs:s<32):pb (W A) (s:Int)=some (W (A*2 ^ s),((A % 4294967296 ^ 16*2 ^ s / 4294967296 ^ 16:Nat):Int)):=by
 have K9:2 ^ s≤2 ^ 31:=gY (by decide) (by omega)
 have hs3:0<2 ^ s:=bL (by decide)
 have hl:=rk (b:=l6 (W A) (s:Int)) (s0:=((0:Int),(0:Int),eb)) (fun k=>((A % 4294967296 ^ k*2 ^ s / 4294967296 ^ k:Nat),(k:Int),vN 4294967296 16 (A*2 ^ s % 4294967296 ^ k))) 16 ((A % 4294967296 ^ 16*2 ^ s / 4294967296 ^ 16:Nat),vN 4294967296 16 (A*2 ^ s % 4294967296 ^ 16))
  (by simp only[fO,mT,sh,gv,Nat.zero_div];rfl)
  (fun k hk=>by
   have hc:=AZ (b:=4294967296) (A:=A) (k:=k) (m:=2 ^ s) (by decide) hs3
   obtain⟨h1,h2⟩:=Gw (b:=4294967296) (A:=A) (k:=k) (m:=2 ^ s) (by decide)
   have ha:=@dgl A k
   have hm:dg 4294967296 A k*2 ^ s≤4294967295*2 ^ s:=cG _ (by omega)
   generalize A % 4294967296 ^ k*2 ^ s / 4294967296 ^ k=c at h1 h2 hc ⊢
   generalize A % 4294967296 ^ (k+1)*2 ^ s / 4294967296 ^ (k+1)=c' at h2 ⊢
   dsimp only[l6]
   rw[cw _ _,aC,aC,ab,aC,bP,gE hk,ig,RM _ _ (by omega) (by omega),RN,ior_n hc (by omega),xH,AC,bV,p6 _ c,h1,h2,CB (by decide) hk]
   rfl)
  (by
   dsimp only[l6]
   rw[cg _ _])
 have hc:A % 4294967296 ^ 16*2 ^ s / 4294967296 ^ 16<2 ^ s:=AZ (by decide) hs3
 unfold pb
 rw[hl,ab,Hf (by decide)]
 dsimp only
 rw[AB]
theorem G_down {A s:Nat}(hA:A<4294967296 ^ 16)(hs:s<32):n9 (W A) (s:Int)=some (W (A / 2 ^ s)):=by
 have K9:2 ^ s≤2 ^ 31:=gY (by decide) (by omega)
 have hs3:0<2 ^ s:=bL (by decide)
 have hl:=rk (b:=kV (W A) (s:Int)) (s0:=((0:Int),eb)) (fun k=>((k:Int),vN 4294967296 16 (A / 2 ^ s % 4294967296 ^ k))) 16 (vN 4294967296 16 (A / 2 ^ s % 4294967296 ^ 16))
  (by simp only[fO,mT,sh];rfl)
  (fun k hk=>by
   have ha:=@dgl A k
   have ha1:=@dgl A (k+1)
   have hd:(dg 4294967296 A (k+1)*4294967296+dg 4294967296 A k) / 2 ^ s % 4294967296=dg 4294967296 (A / 2 ^ s) k:=by
    have e1:dg 4294967296 (A / 2 ^ s) k=A / 4294967296 ^ k / 2 ^ s % 4294967296:=by
     unfold dg;rw[gP,bx,←gP]
    have e2:A / 4294967296 ^ k=(dg 4294967296 A (k+1)*4294967296+dg 4294967296 A k)+2 ^ s*(4294967296*(2 ^ (32 - s)*(A / 4294967296 ^ (k+2)))):=by
     have e3:=cr (b:=4294967296) (A:=A) (k:=k)
     have e4:=cr (b:=4294967296) (A:=A) (k:=k+1)
     have e5:2 ^ s*(4294967296*(2 ^ (32 - s)*(A / 4294967296 ^ (k+2))))=2 ^ s*2 ^ (32 - s)*4294967296*(A / 4294967296 ^ (k+2)):=by
      simp only[eS,yP]
     rw[e5,←gX,show s+(32 - s)=32 from by omega,e3,e4,show k+1+1=k+2 from rfl,show (2:Nat) ^ 32=4294967296 from rfl]
     generalize A / 4294967296 ^ (k+2)=q
     generalize dg 4294967296 A (k+1)=d1
     generalize dg 4294967296 A k=d0
     omega
    rw[e1,e2,yQ _ _ hs3,BA]
   dsimp only[kV]
   rw[cw _ _]
   have BR:(bnd (S:=Int) (cnd (decide ((i64.wrap ((k:Int)+(1:Int)))<(16:Int))) (gd (0≤i64.wrap ((k:Int)+(1:Int))∧i64.wrap ((k:Int)+(1:Int))<16) (bnd (some (u64.wrap ((W A)[(i64.wrap ((k:Int)+(1:Int))).toNat]!))) fun x5=>some (x5))) (some ((0:Int)))) (fun a=>some a))=some ((dg 4294967296 A (k+1):Nat):Int):=by
    rw[bV]
    by_cases Ss:k+1<16
    ·rw[cw _ _,aC,ab,show ((k:Int)+1).toNat=k+1 from by omega,gE Ss,ig,ab]
    ·rw[cg _ _,ab,lN (bG hA (gY (by decide) (by omega)))]
     rfl
   rw[uz] at BR
   rw[BR,ab,aC,aC,aC,ab,bP,gE hk,ig,Jw ha1,JM ha ha1,Ba .u64 _ _ (by show s≤64;omega),AC,hd,CB (by decide) hk,bV]
   rfl)
  (by
   dsimp only[kV]
   rw[cg _ _])
 unfold n9
 rw[hl,ab,Hf (by decide)]
theorem G_short {A d:Nat}(hA:A<4294967296 ^ 16)(hd:0<d)(xQ:d<4294967296):mX (W A) (d:Int)=some (W (A / d),((A % d:Nat):Int)):=by
 have hl:=RC (b:=jM (W A) (d:Int)) (s0:=((0:Int),(15:Int),eb)) (fun k=>((A / 4294967296 ^ k % d:Nat),(k:Int) - 1,vN 4294967296 16 (A / d / 4294967296 ^ k*4294967296 ^ k))) 16 ((A / 4294967296 ^ 0 % d:Nat),vN 4294967296 16 (A / d / 4294967296 ^ 0*4294967296 ^ 0))
  (by
   have h1:A / d<4294967296 ^ 16:=dM (oz _ _) hA
   simp only[eu hA,eu h1,gv,sh,Nat.zero_mod];rfl)
  (fun k hk=>by
   have ha:=@dgl A k
   have hq:=@dgl (A / d) k
   obtain⟨h1,h2⟩:=yr (b:=4294967296) (A:=A) (k:=k) (d:=d) (by decide) hd
   have hr:A / 4294967296 ^ (k+1) % d<d:=eg _ hd
   generalize A / 4294967296 ^ (k+1) % d=r at h1 h2 hr ⊢
   generalize A / 4294967296 ^ k % d=r' at h2 ⊢
   have ed:u64.wrap (d:Int)=(d:Int):=ig
   dsimp only[jM]
   rw[cw _ _,aC,ab,ed,aC,aC,ab,aC,show (((k+1:Nat):Int) - 1).toNat=k from by omega,gE hk,ig,Jw (by omega),JM ha (by omega),←s8,←s7,h1,h2,ig,AB hq,Nl (by decide) hk,bV]
   congr 4
   omega)
  (by
   dsimp only[jM]
   rw[cg _ _])
 rw[fO,mS,mS,xZ] at hl
 have hr:A % d<d:=eg _ hd
 unfold mX
 rw[hl,ab]
 dsimp only
 rw[AB]
end
def LIM:Nat:=4294967296 ^ 16
theorem E0:LIM=4294967296 ^ 16:=rfl
theorem xp:0<LIM:=by decide
theorem W_zero:W 0=eb:=sh
theorem z16:(#v[(0:Int),0,0,0,0,0,0,0,0,0,0,0,0,0,0,0]:Vector Int 16)=W 0:=by
 rw[W_zero];rfl
theorem r16:eb=W 0:=sh.symm
theorem EP {A B:Nat}(hA:A<LIM)(hB:B<LIM):W A=W B↔A=B:=⟨vN_inj hA hB,fun h=>by rw[h]⟩
def Hx(A B:Nat):Int:=if A<B then -1 else if B<A then 1 else 0
theorem G_cmp(x y:Int):gh x y=some (if x<y then -1 else if y<x then 1 else 0):=by
 have hn:∀z:Int,fL z=some false:=fun z=>by unfold fL;simp
 unfold gh
 rw[hn,hn,ab,ab,aH,aH,fZ,fZ]
 split
 ·rfl
 ·split <;> rfl
theorem BO {A B k:Nat}(he:A / 4294967296 ^ (k+1)=B / 4294967296 ^ (k+1))(h:dg 4294967296 A k<dg 4294967296 B k):A<B:=by
 have e1:=cr (b:=4294967296) (A:=A) (k:=k)
 have e2:=cr (b:=4294967296) (A:=B) (k:=k)
 have h1:A / 4294967296 ^ k<B / 4294967296 ^ k:=by
  rw[e1,e2,he];exact EC h _
 rcases d6 A B with h2|h2
 ·exact h2
 ·exact absurd (MR h2) (Nat.not_le.2 h1)
theorem CU {A B:Nat}(hA:A<LIM)(hB:B<LIM):g5 (W A) (W B)=some (Hx A B):=by
 rw[E0] at hA hB
 obtain⟨x,hl,hx⟩:=u9 (b:=jO (W A) (W B)) (fun s=>∃k:Nat,s=(k:Int) - 1∧k≤16∧A / 4294967296 ^ k=B / 4294967296 ^ k) (fun s=>(s+1).toNat) (fun x=>match x with| .inl r=>r=Hx A B| .inr _=>A=B)
  (by
   rintro s ⟨k,rfl,hk,he⟩
   cases k with
   |zero=>
    right
    refine⟨(Sum.inr ():Int⊕Unit),?_,?_⟩
    ·dsimp only[jO]
     rw[cg _ _]
    ·simpa using he
   |succ k=>
    have vy:k<16:=by omega
    have e:((k+1:Nat):Int) - 1=(k:Int):=by omega
    rw[e]
    dsimp only[jO]
    rw[cw _ _,aC,aC,bP,gE vy,gE vy]
    by_cases hd:dg 4294967296 A k=dg 4294967296 B k
    ·left
     refine⟨(k:Int) - 1,?_,⟨k,rfl,by omega,?_⟩,by omega⟩
     ·rw[cg _ _ (by rw[hd];simp),bV]
     ·rw[cr (b:=4294967296) (A:=A) (k:=k),cr (b:=4294967296) (A:=B) (k:=k),he,hd]
    ·right
     refine⟨(Sum.inl (Hx A B):Int⊕Unit),?_,rfl⟩
     rw[cw _ _,aC,aC,G_cmp,ab]
     congr 3
     unfold Hx
     rcases Nat.lt_or_gt_of_ne hd with h|h
     ·have:=BO he h
      rw[ai (by omega),ai this]
     ·have:=BO he.symm h
      rw[ah (by omega),ai (by omega),ah (by omega),ai this]) (15:Int) ⟨16,rfl,ay _,by rw[eu hA,eu hB]⟩
 unfold g5
 rw[hl,ab]
 cases x with
 |inl r=>obtain rfl:r=_:=hx;rfl
 |inr u=>
  obtain rfl:A=B:=hx
  unfold Hx
  simp
def szp(b A n:Nat):Prop:=A<b ^ n∧(0<n→b ^ (n - 1)≤A)
theorem QP {b A n m:Nat}(hb:0<b)(h:szp b A n)(h':szp b A m):n=m:=by
 have key:∀{n m:Nat},szp b A n→szp b A m→m≤n:=by
  intro n m h h'
  rcases d6 n m with h1|h1
  ·have h2:=h'.2 (by omega)
   have h3:b ^ n≤b ^ (m - 1):=gY hb (by omega)
   have:=h.1
   omega
  ·exact h1
 have:=key h h'
 have:=key h' h
 omega
theorem Lk {b A n k:Nat}(hb:0<b)(h:szp b A n)(hA:A<b ^ k):n≤k:=by
 rcases d6 k n with h1|h1
 ·have h2:=h.2 (by omega)
  have h3:b ^ k≤b ^ (n - 1):=gY hb (by omega)
  omega
 ·exact h1
theorem BE {A:Nat}(hA:A<LIM):∃n:Nat,n≤16∧eF (W A)=some (n:Int)∧szp 4294967296 A n:=by
 rw[E0] at hA
 obtain⟨x,hl,n,rfl,hn,hs⟩:=u9 (b:=kU (W A)) (fun s=>∃n:Nat,s=(n:Int)∧n≤16∧A<4294967296 ^ n) (fun s=>s.toNat) (fun x=>∃n:Nat,x=(n:Int)∧n≤16∧szp 4294967296 A n)
  (by
   rintro s ⟨n,rfl,hn,bH⟩
   cases n with
   |zero=>
    right
    refine⟨_,?_,0,rfl,by omega,bH,fun h=>by omega⟩
    dsimp only[kU]
    rw[cg _ _,ab,aH]
   |succ k=>
    have hk:k<16:=by omega
    have e:i64.wrap (((k+1:Nat):Int) - 1)=(k:Int):=by rw[bV];omega
    dsimp only[kU]
    rw[cw _ _,e,aC,ab,bP,gE hk,fZ]
    by_cases hd:dg 4294967296 A k=0
    ·left
     refine⟨(k:Int),by rw[ai (by omega)],⟨k,rfl,by omega,?_⟩,by omega⟩
     unfold dg at hd
     have h1:A / 4294967296 ^ k<4294967296:=by
      rw[lz (bL (by decide)),bx,←cy];exact bH
     rw[ej h1] at hd
     exact (Ix (bL (by decide))).1 hd
    ·right
     refine⟨_,by rw[ah (by omega)],k+1,rfl,hn,bH,fun _=>?_⟩
     rcases d6 A (4294967296 ^ k) with h|h
     ·exact absurd (lN h) hd
     ·exact h) (16:Int) ⟨16,rfl,ay _,hA⟩
 refine⟨n,hn,?_,hs⟩
 unfold eF
 rw[hl,ab]
def Kv:ap:=⟨true,false,W 0⟩
def enc(z:Int):ap:=if z.natAbs<LIM then⟨false,decide (z<0),W z.natAbs⟩ else Kv
theorem rA {z:Int}(h:z.natAbs<LIM):enc z=⟨false,decide (z<0),W z.natAbs⟩:=ai h
theorem D0 {z:Int}(h:¬z.natAbs<LIM):enc z=Kv:=ah h
def dX(x:ap):Bool:=!x.vBad&&(!decide (x.vW=W 0)||!x.vNeg)
def okI(x:ap):Prop:=∀j:Nat,j<16→0≤x.vW[j]!∧x.vW[j]! <4294967296
theorem CG(z:Int):okI (enc z):=by
 have key:∀(A j:Nat),j<16→0≤(W A)[j]!∧(W A)[j]! <4294967296:=fun A j hj=>by
  rw[gE hj];have:=@dgl A j;omega
 unfold enc
 split
 ·exact key _
 ·exact key 0
theorem ba {z:Int}(h:z.natAbs<LIM):dX (enc z)=true:=by
 rw[rA h]
 unfold dX
 dsimp only
 by_cases hz:z=0
 ·subst hz;simp
 ·have:¬W z.natAbs=W 0:=fun e=>hz (by have:=(EP h xp).1 e;omega)
  simp[this]
theorem zY {x:ap}(h:okI x)(hg:dX x=true):∃z:Int,z.natAbs<LIM∧x=enc z:=by
 obtain⟨A,hA,hv⟩:=vN_of (b:=4294967296) (n:=16) (by decide) x.vW (fun j hj=>h j hj)
 obtain⟨bad,neg,w⟩:=x
 dsimp only at hv
 subst hv
 unfold dX at hg
 simp only[cj,IB,BB,decide_eq_false_iff_not] at hg
 obtain⟨rfl,hg⟩:=hg
 have Oc:A<LIM:=hA
 cases neg with
 |false=>
  refine⟨(A:Int),Oc,?_⟩
  rw[rA (by simpa using Oc)]
  simp
 |true=>
  refine⟨-(A:Int),by simpa using Oc,?_⟩
  have h0:A≠0:=by
   rintro rfl
   rcases hg with h|h
   ·exact h rfl
   ·cases h
  rw[rA (by simpa using Oc)]
  have:-(A:Int)<0:=by omega
  simp[this,yO h0]
theorem GJ:dX Kv=false:=rfl
theorem z6 {z y:Int}(hz:z.natAbs<LIM)(hy:y.natAbs<LIM)(h:enc z=enc y):z=y:=by
 rw[rA hz,rA hy] at h
 simp only[ap.mk.injEq,true_and] at h
 obtain⟨h1,h2⟩:=h
 have h3:=(EP hz hy).1 h2
 have h4:=kR.1 h1
 omega
theorem Te {A:Nat}(hA:A<LIM)(neg:Bool):(⟨false,neg&&!decide (A=0),W A⟩:ap)=enc (bif neg then -(A:Int) else A):=by
 cases neg with
 |false=>rw[rA (by simpa using hA)];simp
 |true=>
  rw[rA (by simpa using hA)]
  simp only[EB,j5,Int.natAbs_neg,dK,ap.mk.injEq,true_and,and_true]
  by_cases h:A=0
  ·subst h;simp
  ·have:-(A:Int)<0:=by omega
   simp[h,this,yO h]
theorem ON(x:ap):lj x=some (if x.vBad then decide (x.vW=W 0)&&!x.vNeg else !decide (x.vW=W 0)||!x.vNeg):=by
 unfold lj
 rw[ab,z16]
 cases x.vBad <;> cases decide (x.vW=W 0) <;> rfl
theorem UQ {l:List ap}(hl:l.length<1000000):cp l=some (l.all dX):=by
 obtain⟨x,h1,hx⟩:=u9 (b:=nj l) (fun s=>∃n:Nat,s=(n:Int)∧n≤l.length∧(l.take n).all dX=true) (fun s=>l.length - s.toNat) (fun x=>match x with| .inl r=>r=false∧l.all dX=false| .inr _=>l.all dX=true)
  (by
   rintro s ⟨n,rfl,hn,ha⟩
   dsimp only[nj]
   by_cases bH:n<l.length
   ·rw[cw _ _,aC,bP,ON,ab]
    have hg:cnd (l[n]!.vBad) (some true) (some (!(if l[n]!.vBad then decide (l[n]!.vW=W 0)&&!l[n]!.vNeg else !decide (l[n]!.vW=W 0)||!l[n]!.vNeg)))=some (!dX l[n]!):=by
     unfold dX
     cases l[n]!.vBad <;> rfl
    rw[hg,ab]
    have DD:(l.take (n+1)).all dX=((l.take n).all dX&&dX l[n]!):=by
     rw[bJ l n bH,List.take_succ_eq_append_getElem bH,lO]
     simp
    cases hgb:dX l[n]! with
    |true=>
     left
     refine⟨((n+1:Nat):Int),?_,⟨n+1,rfl,bH,by rw[DD,ha,hgb];rfl⟩,by omega⟩
     rw[cY,aH,bV]
     rfl
    |false=>
     right
     refine⟨_,rfl,rfl,?_⟩
     rw[←td (n+1) l,lO,DD,hgb]
     simp
   ·right
    refine⟨_,by rw[cg _ _],?_⟩
    rw[gU (by omega)] at ha
    exact ha) (0:Int) ⟨0,rfl,cl _,by simp⟩
 unfold cp
 rw[h1,ab]
 cases x with
 |inl r=>obtain⟨rfl,h2⟩:=hx;rw[h2]
 |inr u=>rw[show l.all dX=true from hx]
theorem jr {A:Nat}(hA:A<LIM)(neg:Bool):bF neg (W A)=some (enc (bif neg then -(A:Int) else A)):=by
 unfold bF
 rw[z16,←Te hA]
 cases neg with
 |true=>
  rw[gj,ab]
  simp only[ab,EP hA xp,EB,KD]
 |false=>rfl
theorem OR:ey=some Kv:=by unfold ey;rw[r16];rfl
theorem all2g(x y:ap):([x,y].all dX)=(dX x&&dX y):=by simp
theorem all1g(x:ap):([x].all dX)=dX x:=by simp
theorem uQ(x y:ap):cp [x,y]=some (dX x&&dX y):=by rw[UQ (by simp),all2g]
theorem uR(x:ap):cp [x]=some (dX x):=by rw[UQ (by simp),all1g]
theorem lM {z:Int}(h:z.natAbs<LIM):(enc z).vW=W z.natAbs:=by rw[rA h]
theorem jD {z:Int}(h:z.natAbs<LIM):(enc z).vNeg=decide (z<0):=by rw[rA h]
theorem G_Add {a c:Int}(ha:a.natAbs<LIM)(hc:c.natAbs<LIM):jd (enc a) (enc c)=some (enc (a+c)):=by
 unfold jd
 rw[uQ,ba ha,ba hc,ab]
 simp only[fM,cY,aH,lM ha,lM hc,jD ha,jD hc]
 rw[G_plus (by rw[←E0];exact ha) (by rw[←E0];exact hc),ab,CU ha hc,ab,←E0]
 dsimp only
 by_cases hs:decide (a<0)=decide (c<0)
 ·have Pr:=kR.1 hs
  rw[hs,EA,gj]
  by_cases bH:a.natAbs+c.natAbs<LIM
  ·rw[aA bH,cY,aH,jr bH,ab]
   congr 2
   by_cases h:c<0
   ·simp only[h,rP,j5];omega
   ·simp only[h,rO,cond_false];omega
  ·rw[bk bH,rN,gj,OR,ab,D0 (by omega)]
 ·have Pr:¬((a<0)↔(c<0)):=fun h=>hs (kR.2 h)
  have hb:(decide (a<0) == decide (c<0))=false:=KI.2 hs
  rw[hb,aH]
  unfold Hx
  by_cases h1:a.natAbs<c.natAbs
  ·rw[ai h1,cg _ _,IR (mj h1),ab,jr (by omega),ab]
   congr 2
   by_cases h:c<0
   ·simp only[h,rP,j5];omega
   ·simp only[h,rO,cond_false];omega
  ·have h2:(0:Int)≤(if a.natAbs<c.natAbs then -1 else if c.natAbs<a.natAbs then 1 else 0):=by
    rw[ah h1];split <;> omega
   rw[cw _ _ h2,IR (by omega),ab,jr (by omega),ab]
   congr 2
   by_cases h:a<0
   ·simp only[h,rP,j5];omega
   ·simp only[h,rO,cond_false];omega
theorem Qd {x y:ap}(h:(dX x&&dX y)=false):jd x y=some Kv:=by
 unfold jd
 rw[uQ,h,ab,rN,gj,OR,ab]
theorem UU {a:Int}(ha:a.natAbs<LIM):l7 (enc a)=some (enc (-a)):=by
 unfold l7
 rw[uR,ba ha,ab,cY,aH,lM ha,jD ha,jr ha,ab]
 congr 2
 by_cases h:a<0
 ·simp only[h,rP,cY,cond_false];omega
 ·simp only[h,rO,rN,j5];omega
theorem G_Sub {a c:Int}(ha:a.natAbs<LIM)(hc:c.natAbs<LIM):nJ (enc a) (enc c)=some (enc (a - c)):=by
 unfold nJ
 rw[UU hc,ab,G_Add ha (by omega),ab]
 rfl
theorem wW {a:Int}(ha:a.natAbs<LIM):eZ (enc a)=some a.sign:=by
 unfold eZ
 rw[uR,ba ha,ab,cY,aH,ab,lM ha,jD ha,z16]
 simp only[EP ha xp]
 rcases wH a 0 with h|h|h
 ·rw[cg _ _,cw _ _ h,wF h]
 ·subst h;rfl
 ·rw[cg _ _,cg _ _,rM h]
end
end Go.Proofs.YtaedcknhkjpmlaaGreat
