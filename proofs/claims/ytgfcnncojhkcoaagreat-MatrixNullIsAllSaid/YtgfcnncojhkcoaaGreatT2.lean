/-
  Lemmas, part 2. Conditions: none.
-/
import Derived.Test.YtgfcnncojhkcoaaGreatT1
import Derived.Laws.MakeOwn
import Derived.Laws.CopyRow
set_option linter.all false
set_option maxRecDepth 100000
namespace Go.Proofs.YtgfcnncojhkcoaaGreat
open Go.RowKit Go.IntKind
noncomputable section
section
def dC(es:List E):List D:=es.map D.e
theorem HY(σ:Nat→Nat)(es:List E):(dC es).map (D.renC σ)=dC es:=by
 unfold dC;rw[kP];exact sV fun _ _=>rfl
theorem fH(es:List E):(dC es).length=es.length:=bc _
theorem tK {p:D→Bool}(h:∀e,p (.e e)=true)(es:List E):(dC es).all p=true:=by
 unfold dC;rw[DN];exact bx.2 fun e _=>h e
structure a8 {β:Type}(F:List E)(c':Cd β)(o:Nat)(b:β)(F':β→List E):Prop where
 le:o+c'.sz≤F.length
 g:(F.drop o).take c'.sz=c'.f b
 p:∀y,F.take o++c'.f y++F.drop (o+c'.sz)=F' y
section
variable {α β γ:Type} {F:List E}
theorem a8.id(c:Cd α)(x:α):a8 (c.f x) c 0 x c.f:=
 ⟨by rw[c.h];omega,by rw[pH,e9 (by rw[c.h];exact aC _)],fun y=>by rw[xi,cj,uS (by rw[c.h];exact aC _),mm,pY]⟩
theorem a8.comp {c1:Cd α}{c2:Cd β}{o1 o2:Nat}{b1:α}{b2:β}{F1:α→List E}{P2:β→List E}{P:β→α}(h1:a8 F c1 o1 b1 F1)(h2:a8 (c1.f b1) c2 o2 b2 P2)(hp:∀y,P2 y=c1.f (P y)):a8 F c2 (o1+o2) b2 (fun y=>F1 (P y)):=by
 have l1:=h1.le
 have l2:=h2.le
 rw[c1.h] at l2
 refine⟨by omega,?_,fun y=>?_⟩
 ·rw[←h2.g,←h1.g,←j7,DJ,Am,qV (by omega)]
 ·rw[←h1.p (P y),←hp y,←h2.p y,←h1.g,Am,qV (by omega),List.take_add]
  have e:((F.drop o1).take c1.sz).drop (o2+c2.sz)++F.drop (o1+c1.sz)=F.drop (o1+o2+c2.sz):=by
   have e1:F.drop (o1+c1.sz)=(F.drop o1).drop c1.sz:=(j7 ..).symm
   rw[e1,←MJ (by rw[cz,fZ];omega),n9,j7,kU]
  rw[←e]
  simp only[bP]
theorem a8.of {c':Cd β}{o:Nat}{b:β}{F':β→List E}(A C:List E)(hA:A.length=o)(hF:F=A++(c'.f b++C))(hp:∀y,F' y=A++(c'.f y++C)):a8 F c' o b F':=by
 subst hA hF
 refine⟨by simp[c'.h],?_,fun y=>?_⟩
 ·rw[pO,sb (by rw[c'.h];exact aC _),e9 (by rw[c'.h];exact aC _)]
 ·rw[hp,sU,←j7,pO,←c'.h b,pO,bP]
theorem a8.seq [Inhabited α](c:Cd α)(l:List α)(i:Nat)(h:i<l.length):a8 (l.flatMap c.f) c (i*c.sz) l[i]! (fun y=>(l.set i y).flatMap c.f):=by
 have hl:(l.flatMap c.f).length=l.length*c.sz:=jQ c.f c.h l
 have hm:(i+1)*c.sz≤l.length*c.sz:=bY _ h
 rw[aX,dq] at hm
 refine⟨by rw[hl];exact hm,?_,fun y=>?_⟩
 ·have:=kJ c.f c.h (l.drop i) 1
  rw[dq] at this
  rw[np c.f c.h,this,Il h,bK l i h,List.take_succ_cons,xi,m6,List.flatMap_nil,pY]
 ·rw[kJ c.f c.h,show i*c.sz+c.sz=(i+1)*c.sz by rw[aX,dq],np c.f c.h,Ut,an h,DO,m6,bP]
theorem xI [Inhabited α]{n:Nat}(v:Vector α n){i:Nat}(h:i<n):v.toList[i]! =v[i]! :=by
 rw[bK v.toList i (by rw[m5];exact h),bK v i h,Vector.getElem_toList]
theorem vec_set {n:Nat}(v:Vector α n)(i:Nat)(y:α):(v.set! i y).toList=v.toList.set i y:=by
 show (v.setIfInBounds i y).toList=_
 exact Vector.toList_setIfInBounds ..
theorem a8.vec [Inhabited α]{n:Nat}(c:Cd α)(v:Vector α n)(i:Nat)(h:i<n):a8 ((cA n c).f v) c (i*c.sz) v[i]! (fun y=>(cA n c).f (v.set! i y)):=by
 have:=a8.seq c v.toList i (by rw[m5];exact h)
 rw[xI v h] at this
 refine⟨this.le,this.g,fun y=>?_⟩
 rw[show (cA n c).f (v.set! i y)=(v.set! i y).toList.flatMap c.f from rfl,vec_set]
 exact this.p y
end
section
variable {P:Program} {tb:TypeId→Option TyE} {dr:Bool} {ty:TypeId} {ev:Operand→D} {x y:Operand} {vs:List (Nat×List D)} {lv:List (Nat×Nat×Nat×TypeId)} {N k o:Nat} {F:List E} {β:Type} {c':Cd β} {b:β} {F':β→List E} {t:TypeId} {i:TyE}
theorem wz(L:a8 F c' o b F')(ht:tb t=some i)(hg:i.ty.agg=true:=by exact rfl)(hz:c'.sz=i.size:=by exact rfl)(hx:ev x=.pt k o:=by exact rfl)(hv:vs.lookup k=some (dC F):=by exact rfl)(hk:Nat.ble (k+1) N=true:=by exact rfl):AVC P tb dr (.load t x) ty ev ⟨vs,lv,N⟩ (Kq (dG c' b) ⟨vs,lv,N⟩):=by
 rw[rE,hx,nP,ht,hv]
 simp only[hg]
 refine⟨cD hk,by rw[fH,←hz];exact L.le,?_⟩
 have:((dC F).drop o).take i.size=(c'.f b).map D.e:=by
  unfold dC
  rw[←Al,←xj,←hz,L.g]
 rw[this]
 exact Kq.here _ _
theorem tU {e:E}(L:a8 F c' o b F')(ht:tb t=some i)(he:c'.f b=[e]:=by exact rfl)(hg:i.ty.agg=false:=by exact rfl)(hx:ev x=.pt k o:=by exact rfl)(hv:vs.lookup k=some (dC F):=by exact rfl)(hk:Nat.ble (k+1) N=true:=by exact rfl):AVC P tb dr (.load t x) ty ev ⟨vs,lv,N⟩ (Kq (.e e) ⟨vs,lv,N⟩):=by
 have hs:c'.sz=1:=by rw[←c'.h b,he];rfl
 have Ml:=L.g
 have hle:=L.le
 rw[hs] at Ml hle
 rw[he] at Ml
 rw[rE,hx,nP,ht,hv]
 simp only[hg]
 refine⟨cD hk,.e e,?_,Kq.here _ _⟩
 unfold dC
 rw[bE]
 have:F[o]? =some e:=by
  have h0:(F.drop o)[0]? =F[o]? :=by rw[nt,i9]
  have h1:((F.drop o).take 1)[0]? =(F.drop o)[0]? :=by rw[fY];rfl
  rw[←h0,←h1,Ml]
  rfl
 rw[this];rfl
theorem s6 {b':β}(L:a8 F c' o b F')(ht:tb t=some i)(hy:(ev y).cells=some (dC (c'.f b')):=by exact rfl)(hz:c'.sz=i.size:=by exact rfl)(hx:ev x=.pt k o:=by exact rfl)(hv:vs.lookup k=some (dC F):=by exact rfl):AVC P tb dr (.store t x y) ty ev ⟨vs,lv,N⟩ (Kq .top ⟨(k,dC (F' b'))::vs,lv,N⟩):=by
 rw[DD,hx,zq,ht,hv,hy]
 have hl:(dC (c'.f b')).length=i.size:=by rw[fH,c'.h,hz]
 refine⟨hl,by rw[fH,←hz];exact L.le,?_⟩
 have:(dC F).take o++dC (c'.f b')++(dC F).drop (o+(dC (c'.f b')).length)=dC (F' b'):=by
  rw[hl,←hz,←L.p b']
  unfold dC
  simp only[lf,xj,Al]
 rw[this]
 exact Kq.here _ _
theorem j9 {b':β}{γ:Type}{c:Cd γ}{nw nm:γ}(L:a8 F c' o b F')(ht:tb t=some i)(QZ:nw=nm)(hF:F' b'=c.f nw:=by exact rfl)(hy:(ev y).cells=some (dC (c'.f b')):=by exact rfl)(hz:c'.sz=i.size:=by exact rfl)(hx:ev x=.pt k o:=by exact rfl)(hv:vs.lookup k=some (dC F):=by exact rfl):AVC P tb dr (.store t x y) ty ev ⟨vs,lv,N⟩ (Kq .top ⟨(k,dC (c.f nm))::vs,lv,N⟩):=by
 have:=s6 (P:=P) (dr:=dr) (ty:=ty) (lv:=lv) (N:=N) L ht hy hz hx hv
 rw[hF,QZ] at this
 exact this
theorem s9(ht:tb t=some i)(hz:i.zero.map E.lit=F:=by kernel_rfl):AVC P tb dr (.alloc t) ty ev ⟨vs,lv,N⟩ (Kq (.pt N 0) ⟨(N,dC F)::vs,lv,N+1⟩):=by
 subst hz
 have:=cc (P:=P) (dr:=dr) (ty:=ty) (ev:=ev) (vs:=vs) (lv:=lv) (N0:=N) ht
 unfold dC
 rw[kP]
 exact this
theorem UM(h:(ev x).cells=some (dC F):=by exact rfl):AVC P tb dr (.box t x) ty ev ⟨vs,lv,N⟩ (Kq (.pt N 0) ⟨(N,dC F)::vs,lv,N+1⟩):=jb h
variable {hp:Hp} {j:TyE} {e:TypeId} {n:Nat} {kn:IntKind} {v:Int}
variable {s tt:TypeId} {fi:Nat} {fs:List (Nat×TypeId)}
inductive FL (tb:TypeId→Option TyE) (fs:List (Nat×TypeId)):List E→List (Nat×List D)→List E→Prop
 |nil (F:List E):FL tb fs F [] F
 |cons {γ:Type} {c:Cd γ} {F F2:List E} {o i:Nat} {b y:γ} {F':γ→List E} {rest:List (Nat×List D)} {cs:List D} (L:a8 F c o b F') (hp:mV tb fs i=some (o,c.sz)) (hc:cs=dC (c.f y)) (h:FL tb fs (F' y) rest F2):FL tb fs F ((i,cs)::rest) F2
theorem FL.fill {F F2:List E}{qs:List (Nat×List D)}(h:FL tb fs F qs F2):fJ (mV tb fs) (dC F) qs=some (dC F2):=by
 induction h with
 |nil F=>rfl
 |cons L hp hc h ih=>
  rename_i c F F2 o i b y F' rest cs
  subst hc
  unfold fJ
  rw[hp]
  dsimp only
  have hl:(dC (c.f y)).length=c.sz:=by rw[fH,c.h]
  rw[az (by rw[hl,fH];have:=L.le;omega),hl,←ih]
  congr 1
  rw[←L.p y]
  unfold dC
  simp only[lf,xj,Al]
theorem jO {ps:List (Nat×Operand)}{qs:List (Nat×List D)}{F2:List E}(h:FL tb fs F qs F2)(ht:tb t=some i)(h0:i.zero.map E.lit=F:=by kernel_rfl)(hi:i.ty=.struct fs:=by exact rfl)(ha:(fs.all fun f=>(tb f.2).isSome)=true:=by exact rfl)(hp1:g6 (ps.map fun p=>(p.1,ev p.2))=some qs:=by exact rfl):AVC P tb dr (.build t ps.toArray) ty ev hp (Kq (.ag (dC F2)) hp):=by
 subst h0
 rw[yE,vw,ht,hp1]
 simp only[hi]
 have:(i.zero.map fun v=>D.e (.lit v))=dC (i.zero.map E.lit):=by unfold dC;rw[kP];rfl
 rw[this,h.fill]
 exact⟨fun f hf=>(bx.1 ha) f hf,Kq.here _ _⟩
theorem vC {σ:Nat→Nat}{m:Nat}{l:List (Nat×List D)}{F:List E}(h1:vs.lookup (σ k)=some (dC F))(hl:wkV σ m vs l)(h0:Nat.ble (k+1) m=true:=by exact rfl):wkV σ m vs ((k,dC F)::l):=
 ⟨⟨ltb h0,⟨_,h1,by rw[HY];exact m9 _⟩,tK (fun _=>rfl) _,tK (fun _=>rfl) _⟩,hl⟩
def rnV(ρ:Nat→Nat):List (Nat×List D)→List (Nat×List D)→Prop
 |[],[]=>True
 |p::l,q::l'=>(ρ p.1=q.1∧p.2.map (D.renC ρ)=q.2∧p.2.all D.okC=true)∧rnV ρ l l'
 |_,_=>False
theorem rnV.map {ρ:Nat→Nat}:∀{l l':List (Nat×List D)},rnV ρ l l'→l.map (fun p=>(ρ p.1,p.2.map (D.renC ρ)))=l'∧(l.all fun p=>p.2.all D.okC)=true
 |[],[],_=>⟨rfl,rfl⟩
 |p::l,q::l',h=>by
  obtain⟨h1,h2⟩:=rnV.map h.2
  obtain⟨a,b,c⟩:=h.1
  refine⟨?_,by rw[jL,c,h2];rfl⟩
  rw[gZ,h1,a,b]
 |[],_::_,h=>h.elim
 |_::_,[],h=>h.elim
theorem rvN {ρ:Nat→Nat}:rnV ρ [] []:=trivial
theorem rvC {ρ:Nat→Nat}{k k2:Nat}{F:List E}{l l':List (Nat×List D)}(h:rnV ρ l l')(hk:ρ k=k2:=by exact rfl):rnV ρ ((k,dC F)::l) ((k2,dC F)::l'):=⟨⟨hk,HY _ _,tK (fun _=>rfl) _⟩,h⟩
theorem rvE {ρ:Nat→Nat}{k k2:Nat}{ds ds2:List D}{l l':List (Nat×List D)}(h:rnV ρ l l')(hk:ρ k=k2:=by exact rfl)(hd:ds.map (D.renC ρ)=ds2:=by exact rfl)(ho:ds.all D.okC=true:=by exact rfl):rnV ρ ((k,ds)::l) ((k2,ds2)::l'):=⟨⟨hk,hd,ho⟩,h⟩
theorem BY {x:Operand}{f:FuncId}{aS:List Operand}{ts:Array TypeId}{OG:List D}{r r':D}{IR oy vs vs1 ul:List (Nat×List D)}{IT uf lv Ez:List (Nat×Nat×Nat×TypeId)}{m n' N N2:Nat}(os:List Nat)
  (uL:ev x=.e (.lit (.func (.func f) #[] #[]))) (hc:HC P f OG ⟨IR,IT,m⟩ r ⟨oy,uf,n'⟩) (ha:frA (fun i=>os.getD i 0) m (aS.map ev) OG) (hv:wkV (fun i=>os.getD i 0) m vs IR) (hl:wkL (fun i=>os.getD i 0) m lv IT) (hrn:rnV (rn os m N) oy vs1)
  (om:r.ren (rn os m N)=r') (hr:r.okF=true) (hos:os.length=m:=by exact rfl) (tf:os.Nodup:=by decide) (bh:(os.all fun o=>Nat.ble (o+1) N)=true:=by exact rfl)
  (ss:vs1++vs.filter (fun p=>!os.contains p.1)=ul:=by exact rfl) (S0:frL (rn os m N) os uf lv=Ez:=by exact rfl) (hN:N+(n' - m)=N2:=by exact rfl)
  (hh:hvB tb ⟨.value x,aS.toArray,ts⟩=true:=by kernel_rfl):AVC P tb dr (.call ⟨.value x,aS.toArray,ts⟩) ty ev ⟨vs,lv,N⟩ (Kq r' ⟨ul,Ez,N2⟩):=
 Pg uL (HC.fr os hc ha hv hl hos tf bh hr hrn.map.2 om (by unfold frV;rw[hrn.map.1,ss]) S0 hN) rfl hh
theorem mK {x:Operand}{f:FuncId}{ks:List Nat}{aS:List Operand}{ts:Array TypeId}{OG:List D}{r r':D}{IR oy vs vs1 ul:List (Nat×List D)}{IT uf lv Ez:List (Nat×Nat×Nat×TypeId)}{m n' N N2:Nat}(os:List Nat)
  (uL:ev x=.fn f ks) (hc:HC P f OG ⟨IR,IT,m⟩ r ⟨oy,uf,n'⟩) (ha:frA (fun i=>os.getD i 0) m (aS.map ev++ks.map fun k=>.pt k 0) OG) (hv:wkV (fun i=>os.getD i 0) m vs IR) (hl:wkL (fun i=>os.getD i 0) m lv IT) (hrn:rnV (rn os m N) oy vs1)
  (om:r.ren (rn os m N)=r') (hr:r.okF=true) (hos:os.length=m:=by exact rfl) (tf:os.Nodup:=by decide) (bh:(os.all fun o=>Nat.ble (o+1) N)=true:=by exact rfl)
  (ss:vs1++vs.filter (fun p=>!os.contains p.1)=ul:=by exact rfl) (S0:frL (rn os m N) os uf lv=Ez:=by exact rfl) (hN:N+(n' - m)=N2:=by exact rfl)
  (hh:hvB tb ⟨.value x,aS.toArray,ts⟩=true:=by kernel_rfl):AVC P tb dr (.call ⟨.value x,aS.toArray,ts⟩) ty ev ⟨vs,lv,N⟩ (Kq r' ⟨ul,Ez,N2⟩):=
 T_callF uL (HC.fr os hc ha hv hl hos tf bh hr hrn.map.2 om (by unfold frV;rw[hrn.map.1,ss]) S0 hN) rfl hh
theorem ex_G {α:Type}(c:Cd α)(a:α):D.ex (dG c a)=dG c a:=by
 show D.ag (((c.f a).map D.e).map D.exC)=_
 rw[kP];rfl
theorem rU {α:Type}(c:Cd α)(a:α):(D.ex (dG c a)).le (dG c a):=by rw[ex_G];exact ao _
theorem wg {α:Type}(c:Cd α)(a:α):(dG c a).okF=true:=tK (p:=D.okC) (fun _=>rfl) (c.f a)
theorem yU {off z m:Nat}(hb:0≤v∧v<(n:Int))(ht:tb t=some i)(he:tb e=some j)(hi:i.ty=.slice e:=by exact rfl)(hx:ev x=.ow m off z n:=by exact rfl)(hz:z=j.size:=by exact rfl)(hy:ev y=dI kn v:=by exact rfl):AVC P tb dr (.indexAddr t x y) ty ev hp (Kq (.pt m (off+v.toNat*j.size)) hp):=by
 rw[tO,hx,hy,rW,ht]
 simp only[hi,he]
 exact⟨hz,hb,Kq.here _ _⟩
end
section
variable {P:Program} {tb:TypeId→Option TyE}
structure EqC(tb:TypeId→Option TyE)(d:Nat)(t:TypeId){α:Type}(c:Cd α)(us:α→List Value):Prop where
 hf:∀x,c.f x=(us x).map E.lit
 ft:∀x,mW tb d t (us x)
 inj:∀x y,us x=us y↔x=y
theorem EqC.int {d:Nat}{t:TypeId}{k:IntKind}{i:TyE}(ht:tb t=some i)(hi:i.ty=.int k:=by exact rfl):EqC tb (d+1) t (cI k) (fun n=>[.int k n]):=
 ⟨fun _=>rfl,fun n=>by unfold mW;rw[ht];simp only[hi];exact⟨n,rfl⟩,fun x y=>by simp⟩
theorem EqC.bool {d:Nat}{t:TypeId}{i:TyE}(ht:tb t=some i)(hi:i.ty=.bool:=by exact rfl):EqC tb (d+1) t cB (fun n=>[.bool n]):=
 ⟨fun _=>rfl,fun n=>by unfold mW;rw[ht];simp only[hi];exact⟨n,rfl⟩,fun x y=>by simp⟩
theorem EqC.len {d:Nat}{t:TypeId}{α:Type}{c:Cd α}{us:α→List Value}(h:EqC tb d t c us)(x:α):(us x).length=c.sz:=by
 rw[←c.h x,h.hf,bc]
theorem Fk {α:Type}{f:α→List Value}{z:Nat}(hz:∀a,(f a).length=z):∀l:List α,(l.flatMap f).length=l.length*z
 |[]=>by simp
 |a::l=>by rw[m6,cN,hz,Fk hz l,lc,aX,dq,lU]
theorem Jc {α:Type}{f:α→List Value}{z:Nat}(hz:∀a,(f a).length=z):∀(l:List α) (i:Nat) (h:i<l.length),((l.flatMap f).drop (i*z)).take z=f l[i]
 |a::l,0,_=>by rw[jJ,pH,m6,sb (by rw[hz];exact aC _),e9 (by rw[hz];exact aC _)];rfl
 |a::l,i+1,h=>by
  rw[m6,aX,dq,lU,←hz a,←j7,pO,hz a]
  exact Jc hz l i (by simpa using h)
theorem Fl {α:Type}{f:α→List Value}{z:Nat}(hz:∀a,(f a).length=z)(hi:∀x y,f x=f y→x=y):∀l m:List α,l.length=m.length→l.flatMap f=m.flatMap f→l=m
 |[],[],_,_=>rfl
 |a::l,b::m,hl,h=>by
  rw[m6,m6] at h
  obtain⟨h1,h2⟩:=xl h (by rw[hz,hz])
  rw[hi a b h1,Fl hz hi l m (by simpa using hl) h2]
 |[],_::_,hl,_=>by simp at hl
 |_::_,[],hl,_=>by simp at hl
theorem EqC.arr {d n:Nat}{t e:TypeId}{α:Type}{c:Cd α}{us:α→List Value}{i j:TyE}(h:EqC tb d e c us)(ht:tb t=some i)(he:tb e=some j)(hi:i.ty=.arr n e:=by exact rfl)(hz:c.sz=j.size:=by exact rfl):EqC tb (d+1) t (cA n c) (fun v=>v.toList.flatMap us):=by
 refine⟨fun v=>?_,fun v=>?_,fun v w=>⟨fun hh=>?_,fun hh=>by rw[hh]⟩⟩
 ·show v.toList.flatMap c.f=_
  rw[List.map_flatMap]
  congr 1
  exact funext h.hf
 ·unfold mW
  rw[ht]
  simp only[hi,he]
  have hl:=h.len
  refine⟨by rw[Fk hl,m5,hz],fun q hq=>?_⟩
  rw[←hz,Jc hl _ _ (by rw[m5];exact hq)]
  exact h.ft _
 ·have:=Fl h.len (fun x y hxy=>(h.inj x y).1 hxy) v.toList w.toList (by rw[m5,m5]) hh
  exact Vector.toList_inj.1 this
theorem qJ {d o off:Nat}{t:TypeId}{fs:List (Nat×TypeId)}{α:Type}{c:Cd α}{us:α→List Value}{j:TyE}{x:α}{rest:List Value}(h:EqC tb d t c us)(ht:tb t=some j)(ho:o=off)(hr:sP tb (mW tb d) fs (off+j.size) rest)(hz:c.sz=j.size:=by exact rfl):sP tb (mW tb d) ((o,t)::fs) off (us x++rest):=by
 unfold sP
 have hl:=h.len x
 rw[ht]
 refine⟨ho,?_,by rw[cN];omega,?_⟩
 ·rw[←hz,←hl,sU];exact h.ft x
 ·rw[←hz,←hl,pO,hl,hz];exact hr
theorem EqC.struct {d:Nat}{t:TypeId}{α:Type}{c:Cd α}{us:α→List Value}{i:TyE}{fs:List (Nat×TypeId)}(ht:tb t=some i)(hf:∀x,c.f x=(us x).map E.lit)(FN:∀x,sP tb (mW tb d) fs 0 (us x))(HH:∀x y,us x=us y→x=y)(hi:i.ty=.struct fs:=by exact rfl):EqC tb (d+1) t c us:=
 ⟨hf,fun x=>by unfold mW;rw[ht];simp only[hi];exact FN x,fun x y=>⟨HH x y,fun h=>by rw[h]⟩⟩
theorem py:∀us:List Value,kL (dC (us.map E.lit))=some us
 |[]=>rfl
 |u::us=>by
  show (kL (dC (us.map E.lit))).map (u::·)=_
  rw[py us];rfl
variable {dr:Bool} {ty:TypeId} {ev:Operand→D} {x y:Operand} {hp:Hp} {α:Type} {c:Cd α} {us:α→List Value} {a b:α} {t t':TypeId} {i:TyE}
theorem Ee(tok:TOk P tb)(n:Nat)(hd:n≤10000)(h:EqC tb n t c us)(ht:tb t=some i)[DecidableEq α](hg:i.ty.agg=true:=by exact rfl)(hm:P.eqGuardType P.depth t=false:=by kernel_rfl)(hn:kY P n t=true:=by kernel_rfl)(hx:ev x=dG c a:=by exact rfl)(hy:ev y=dG c b:=by exact rfl):AVC P tb dr (.binOp .eql t x y t') ty ev hp (Kq (dB (decide (a=b))) hp):=by
 have e:∀z,(c.f z).map D.e=dC ((us z).map E.lit):=fun z=>by rw[h.hf];rfl
 exact T_geql tok n hd ht hg hm hn hx hy (by rw[e,py]) (by rw[e,py]) (h.ft a) (h.ft b) (h.inj a b)
theorem xo(tok:TOk P tb)(n:Nat)(hd:n≤10000)(h:EqC tb n t c us)(ht:tb t=some i)[DecidableEq α](hg:i.ty.agg=true:=by exact rfl)(hm:P.eqGuardType P.depth t=false:=by kernel_rfl)(hn:kY P n t=true:=by kernel_rfl)(hx:ev x=dG c a:=by exact rfl)(hy:ev y=dG c b:=by exact rfl):AVC P tb dr (.binOp .neq t x y t') ty ev hp (Kq (dB (decide (¬a=b))) hp):=by
 have e:∀z,(c.f z).map D.e=dC ((us z).map E.lit):=fun z=>by rw[h.hf];rfl
 exact T_gneq tok n hd ht hg hm hn hx hy (by rw[e,py]) (by rw[e,py]) (h.ft a) (h.ft b) (h.inj a b)
theorem z9(c:Cd α){z:Nat}(hz:c.sz=z):∀(l:List α) (m:Nat) (pre rest:List D),pre.length=m*z→rest.length=l.length*z→fJ (fun n=>some (n*z,z)) (pre++rest) ((l.zipIdx m).map fun p=>(p.2,dC (c.f p.1)))=some (pre++dC (l.flatMap c.f))
 |[],m,pre,rest,_,hr=>by
  have:rest=[]:=jR (by simpa using hr)
  subst this;rfl
 |a::l,m,pre,rest,hp,hr=>by
  have hl:(dC (c.f a)).length=z:=by rw[fH,c.h,hz]
  rw[lc,aX,dq] at hr
  show fJ (fun n=>some (n*z,z)) (pre++rest) ((m,dC (c.f a))::(l.zipIdx (m+1)).map _)=_
  unfold fJ
  dsimp only
  rw[az (by rw[hl,cN];omega),←hp,sU,hl,←j7,pO]
  have:=z9 c hz l (m+1) (pre++dC (c.f a)) (rest.drop z) (by rw[cN,hl,hp,aX,dq]) (by rw[fZ];omega)
  rw[this,bP]
  unfold dC
  rw[m6,lf]
theorem Ah:∀es:List E,tM (dC es)=some es
 |[]=>rfl
 |e::es=>by
  show (match D.cellE (.e e),tM (dC es) with|some x,some xs=>some (x::xs)|_,_=>none)=_
  rw[Ah es];rfl
theorem pP {vs:List (Nat×List D)}{lv:List (Nat×Nat×Nat×TypeId)}{N0:Nat}{e:TypeId}{j:TyE}{n:Nat}{ps:List (Nat×Operand)}(l:List α)(c:Cd α)(ht:tb t=some i)(he:tb e=some j)(hi:i.ty=.slice e:=by exact rfl)(hz:c.sz=j.size:=by exact rfl)(L1:Nat.ble (0+1) (j.size)=true:=by exact rfl)(Mg:l.length=n+1:=by exact rfl)(hn:Nat.ble ((n+1)*j.size) (16777216)=true:=by exact rfl)(hp1:g6 (ps.map fun p=>(p.1,ev p.2))=some ((l.zipIdx 0).map fun p=>(p.2,dC (c.f p.1))):=by exact rfl)(hd:dr=false:=by exact rfl):
  AVC P tb dr (.buildSlice t (n+1) ps.toArray) ty ev ⟨vs,lv,N0⟩ (Kq (dO N0 c l) ⟨vs,(N0,l.length,j.size,e)::lv,N0+1⟩):=by
 have hf:=z9 c hz l 0 [] (List.replicate ((n+1)*j.size) (D.e .any)) (by simp) (by rw[ny,Mg])
 rw[mm,mm] at hf
 have:=oi (P:=P) (dr:=dr) (ty:=ty) (ev:=ev) (vs:=vs) (lv:=lv) (N0:=N0) ht he hi L1 hn hp1 hf (Ah _) hd
 show AVC _ _ _ _ _ _ _ (Kq (.own N0 c.sz l.length (l.flatMap c.f)) _)
 rw[hz,Mg]
 exact this
theorem qx {tm:List (Nat×D)}{p:Tmp}{ty:TypeId}{j:Nat}{i:TyE}{F:List E}{k:D→Prop}(h:tm.lookup p=some (.pt j 0))(ht:tb ty=some i)(hg:i.ty.agg=true)(hv:hp.vars.lookup j=some (dC F))(hn:j<hp.next)(hl:F.length=i.size)(hk:k (.ag (dC F))):oK tb tm hp (.cell p ty) k:=
 dQ h ht hg hv hn (by rw[fH,hl];omega) (by rw[pH,e9 (by rw[fH,hl];exact aC _)]) hk
end
end
section
structure FW(α:Type) where
 f:α→List E
def cW {α:Type}(c:Cd α):FW (List α):=⟨fun l=>l.flatMap c.f⟩
theorem a8.seqW {α:Type}[Inhabited α](c:Cd α)(l:List α)(i:Nat)(h:i<l.length):a8 ((cW c).f l) c (0+i*c.sz) l[i]! (fun y=>(cW c).f (l.set i y)):=by
 rw[cj];exact a8.seq c l i h
def vOf {α:Type}[Inhabited α](n:Nat)(l:List α):Vector α n:=Vector.ofFn fun i=>l[i.val]!
theorem wD {α:Type}[Inhabited α]{n:Nat}{l:List α}(h:l.length=n):(vOf n l).toList=l:=by
 unfold vOf
 apply Iq
 ·rw[m5,h]
 ·intro i h1 h2
  rw[Vector.getElem_toList,Nf,bK l i h2]
theorem vOf_f {α:Type}[Inhabited α](c:Cd α){n:Nat}{l:List α}(h:l.length=n):(cA n c).f (vOf n l)=l.flatMap c.f:=by
 show (vOf n l).toList.flatMap c.f=_
 rw[wD h]
theorem a8.sub {α:Type}[Inhabited α]{n:Nat}(m:Nat)(c:Cd α)(v:Vector α n)(i:Nat)(h:i+m≤n){o:Nat}(ho:i*c.sz=o):a8 ((cA n c).f v) (cA m c) o (vOf m ((v.toList.drop i).take m)) (fun y=>((cA n c).f v).take o++(cA m c).f y++((cA n c).f v).drop (o+m*c.sz)):=by
 subst ho
 have hl:((v.toList.drop i).take m).length=m:=by rw[cz,fZ,m5];omega
 refine⟨?_,?_,fun y=>rfl⟩
 ·rw[(cA n c).h]
  show i*c.sz+m*c.sz≤n*c.sz
  rw[←aX];exact bY _ h
 ·rw[vOf_f c hl]
  show ((v.toList.flatMap c.f).drop (i*c.sz)).take (m*c.sz)=_
  rw[np c.f c.h,kJ c.f c.h]
section
variable {P:Program} {tb:TypeId→Option TyE} {md:Md} {ev:Operand→D} {hp:Hp} {dst:Option Tmp} {ty2:TypeId} {pos:String} {af:Array Edge} {gd:Option (Nat×Bool)} {x y:Operand} {lo hi:Option Operand} {t t2 e:TypeId} {ti j:TyE} {k k' off o o' z n m:Nat} {l h:Int}
def QE(ev:Operand→D)(b:Option Operand)(Fc l:Int):Prop:=
 match b with
 |none=>l=Fc
 |some y=>∃k,ev y=dI k l
theorem QE.val {b:Option Operand}{Fc l:Int}(h:QE ev b Fc l){L:Nat}(hL:l=L){N:Nat}(hN:Fc=N){g:Gh}{w:World}{ρ:Operand→Value}(hr:∀y,b=some y→aF hp g w (ev y) (ρ y)):(b.map ρ=none∧L=N)∨∃kd,b.map ρ=some (.int kd (L:Int)):=by
 cases b with
 |none=>exact .inl ⟨rfl,by have:l=Fc:=h;omega⟩
 |some y=>
  obtain⟨kd,hy⟩:=h
  have:=hr y rfl
  rw[hy] at this
  exact .inr ⟨kd,by rw[←hL,nr,this.lit]⟩
theorem slA(tok:TOk P tb)(hb:0≤l∧l≤h∧h≤(n:Int)∧l<(n:Int))(ht:tb t=some ti)(he:tb e=some j)(C8:QE ev lo 0 l)(Lg:QE ev hi (n:Int) h)(uK:ti.ty=.arr n e:=by exact rfl)(hx:ev x=.pt k off:=by exact rfl)(hn:Nat.ble n 1000000=true:=by exact rfl):
  mz P tb md ⟨dst,.slice t x lo hi none,ty2,pos,af,gd⟩ ev hp (.ow k (off+l.toNat*j.size) j.size (h - l).toNat) hp:=by
 refine (Snd.calm (dr:=md.dr) fun bk _=>.pure fun B g w a hr vX=>?_).q (by cases md <;> rfl)
 have h1:=vX x (by simp[Op.operands])
 rw[hx] at h1
 obtain⟨L,rfl⟩:∃L:Nat,l=L:=⟨l.toNat,by omega⟩
 obtain⟨H,rfl⟩:∃H:Nat,h=H:=⟨h.toNat,by omega⟩
 have e1:((H:Int) - L).toNat=H - L:=by omega
 have hn':n≤1000000:=cD hn
 have hbd:=jW (P:=P) (w:=w) false n n (lo.map a.eval) (hi.map a.eval) L H (C8.val rfl rfl fun y hy=>vX y (by subst hy;simp[Op.operands])) (Lg.val rfl rfl fun y hy=>vX y (by subst hy;simp[Op.operands])) (by omega) (by omega)
 have hs:=tok.run_sizeOf he w
 generalize hv:a.eval x=v at h1
 cases h1 with
 |pt _ _ hk=>
  refine⟨.slice (some ⟨g.μ k,off+L*j.size,none⟩) (H - L) (n - L),?_,?_⟩
  ·have lr:¬n=L:=by omega
   have Mr:(⟨g.μ k,off,none⟩:Addr).add (L*j.size)=⟨g.μ k,off+L*j.size,none⟩:=by unfold Addr.add;split <;> simp_all
   simp[execOp,Instr.sliceAt,Instr.sureAddr,hv,run_underlying (tok.arr ht uK),hbd,hs,lr,Mr]
  ·rw[e1,aD]
   exact .ow _ _ _ _ _ hk (by omega) (by unfold maxLen;omega)
theorem slW(tok:TOk P tb)(hb:0≤l∧l≤h∧h≤(n:Int)∧l<(n:Int))(ht:tb t=some ti)(he:tb e=some j)(C8:QE ev lo 0 l)(Lg:QE ev hi (n:Int) h)(uK:ti.ty=.slice e:=by exact rfl)(hx:ev x=.ow k off z n:=by exact rfl)(hz:z=j.size:=by exact rfl):
  mz P tb md ⟨dst,.slice t x lo hi none,ty2,pos,af,gd⟩ ev hp (.ow k (off+l.toNat*z) z (h - l).toNat) hp:=by
 subst hz
 refine (Snd.calm (dr:=md.dr) fun bk _=>.pure fun B g w a hr vX=>?_).q (by cases md <;> rfl)
 have h1:=vX x (by simp[Op.operands])
 rw[hx] at h1
 obtain⟨L,rfl⟩:∃L:Nat,l=L:=⟨l.toNat,by omega⟩
 obtain⟨H,rfl⟩:∃H:Nat,h=H:=⟨h.toNat,by omega⟩
 have e1:((H:Int) - L).toNat=H - L:=by omega
 have hs:=tok.run_sizeOf he w
 generalize hv:a.eval x=v at h1
 cases h1 with
 |ow _ _ _ _ c hk oo nR=>
  have hbd:=jW (P:=P) (w:=w) true n c (lo.map a.eval) (hi.map a.eval) L H (C8.val rfl rfl fun y hy=>vX y (by subst hy;simp[Op.operands])) (Lg.val rfl rfl fun y hy=>vX y (by subst hy;simp[Op.operands])) (by omega) (by omega)
  refine⟨.slice (some ⟨g.μ k,off+L*j.size,none⟩) (H - L) (c - L),?_,?_⟩
  ·have lr:¬c=L:=by omega
   have Mr:(⟨g.μ k,off,none⟩:Addr).add (L*j.size)=⟨g.μ k,off+L*j.size,none⟩:=by unfold Addr.add;split <;> simp_all
   simp[execOp,Instr.sliceAt,Instr.slice,hv,run_underlying (tok.slice ht uK),hbd,hs,lr,Mr]
  ·rw[e1,aD]
   exact .ow _ _ _ _ _ hk (by omega) (by omega)
theorem sPtr(tok:TOk P tb)(hm:Nat.ble m n=true)(ht:tb t=some ti)(uK:ti.ty=.arr m e:=by exact rfl)(hx:ev x=.ow k off z n:=by exact rfl):
  mz P tb md ⟨dst,.sliceToArrayPointer t x,ty2,pos,af,gd⟩ ev hp (.pt k off) hp:=by
 refine (Snd.calm (dr:=md.dr) fun bk _=>.pure fun B g w a hr vX=>?_).q (by cases md <;> rfl)
 have h1:=vX x (by simp[Op.operands])
 rw[hx] at h1
 have xz:=cD hm
 generalize hv:a.eval x=v at h1
 cases h1 with
 |ow _ _ _ _ c hk oo nR=>
  refine⟨.pointer (some ⟨g.μ k,off,none⟩),?_,.pt _ _ hk⟩
  have lr:¬n<m:=by omega
  simp[execOp,Instr.arrayAt,hv,run_underlying (tok.arr ht uK),lr]
theorem Ay {dr:Bool}{ty:TypeId}(ht:tb t=some ti)(he:tb e=some j)(hi:ti.ty=.slice e:=by exact rfl)(hx:ev x=.ow k off z n:=by exact rfl):AVC P tb dr (.call ⟨.builtin .len,#[x],#[t]⟩) ty ev hp (Kq (dI .i64 n) hp):=by
 show ig tb .len [t] [ev x] hp _
 rw[rD,BS,ht]
 simp only[hi,he,hx,D.asSl]
 exact Kq.here _ _
theorem T_stVw {dr:Bool}{ty:TypeId}{vs:List (Nat×List D)}{lv:List (Nat×Nat×Nat×TypeId)}{N:Nat}{F:List E}{β γ:Type}{c':Cd β}{b b':β}{F':β→List E}{c:Cd γ}{nw nm:List γ}(L:a8 F c' o b F')(ht:tb t=some ti)(QZ:nw=nm)(hF:F' b'=(cW c).f nw:=by exact rfl)(hy:(ev y).cells=some (dC (c'.f b')):=by exact rfl)(hz:c'.sz=ti.size:=by exact rfl)(hx:ev x=.pt k o:=by exact rfl)(hv:vs.lookup k=some (dC F):=by exact rfl):AVC P tb dr (.store t x y) ty ev ⟨vs,lv,N⟩ (Kq .top ⟨(k,dC ((cW c).f nm))::vs,lv,N⟩):=by
 have:=s6 (P:=P) (dr:=dr) (ty:=ty) (lv:=lv) (N:=N) L ht hy hz hx hv
 rw[hF,QZ] at this
 exact this
theorem zO(z:Array Value)(s:Nat)(hs:z.size=s):∀n:Nat,(madeCells z (n*s)).toList=(List.replicate n z.toList).flatten
 |0=>by simp[madeCells]
 |n+1=>by
  have ih:=zO z s hs n
  unfold madeCells at ih ⊢
  rw[Array.toList_map,Array.toList_range] at ih ⊢
  rw[aX,dq,List.range_add,lf,ih,List.replicate_succ',List.flatten_append]
  congr 1
  rw[kP,List.flatten_cons,List.flatten_nil,pY]
  apply Iq
  ·simp[hs]
  ·intro i h1 h2
   have hi:i<s:=by simpa using h1
   simp only[DL,List.getElem_range,Function.comp]
   rw[hs,bj,Nat.mul_add_mod,dX hi,bK z i (by omega),Array.getElem_toList]
theorem sMk {α:Type}{c:Cd α}{z0:α}{kl kc:IntKind}{v:Int}{hp':Hp}(tok:TOk P tb)(hb:0≤v∧v≤1000000)(ht:tb t=some ti)(he:tb e=some j)(hz:j.zero.map E.lit=c.f z0)(uK:ti.ty=.slice e:=by exact rfl)(hx:ev x=dI kl v:=by exact rfl)(hy:ev y=dI kc v:=by exact rfl)(hbt:Nat.ble j.bytes 100000000=true:=by exact rfl)(hp1:hp.var (dC ((cW c).f (List.replicate v.toNat z0)))=hp':=by exact rfl):
  mz P tb md ⟨dst,.makeSlice t x y,ty2,pos,af,gd⟩ ev hp (.ow hp.next 0 j.size v.toNat) hp':=by
 subst hp1
 refine (Snd.loud (dr:=md.dr) (.step fun B g w a hr vX=>?_) (fun _=>rfl) fun _=>⟨eQ _,fun j hj=>al (by omega)⟩).q (by cases md <;> rfl)
 have h1:=vX x (by simp[Op.operands])
 have h2:=vX y (by simp[Op.operands])
 rw[hx] at h1;rw[hy] at h2
 obtain⟨f,zz,Oo,Kd,S8,hf3,S7,_⟩:=tok.inf he
 have hbt':f.bytes≤100000000:=by rw[S8];exact cD hbt
 obtain⟨m,rfl⟩:∃m:Nat,v=m:=⟨v.toNat,by omega⟩
 have hm:m≤1000000:=by omega
 have FK:f.bytes*m≤281474976710656:=cg (gG hbt' hm) (by decide)
 have bm:=run_make (P:=P) w t e f zz (tok.slice ht uK) Oo hf3 kl kc m m (by omega) (by omega) (by rw[←ob];exact Int.ofNat_le.2 FK) (by omega)
 rw[aD] at bm
 have hsz:zz.cells.size=f.size:=by
  have h4:=(tok e j he).2.2.1
  rw[←dY,S7,h4,Kd]
 have Kb:=zO zz.cells f.size hsz m
 have Oq:(cW c).f (List.replicate m z0)=(madeCells zz.cells (m*f.size)).toList.map E.lit:=by
  rw[Kb,S7,List.map_flatten,DG,hz]
  show (List.replicate m z0).flatMap c.f=_
  rw[List.flatMap_def,DG]
 have h1c:∀u∈(madeCells zz.cells (m*f.size)).toList,u.oneCell'=true:=by
  intro u hu
  rw[Kb,S7] at hu
  obtain⟨l,hl,Le⟩:=List.mem_flatten.1 hu
  obtain rfl:=(Ii.1 hl).2
  exact bx.1 (tok e j he).2.2.2 u Le
 refine⟨.slice (some ⟨w.heap.size,0,none⟩) m m,_,w.alloc (.cells (madeCells zz.cells (m*f.size)) e),?_,hr.newVar _ _ e ?_ (fun i u hu=>?_),bu.var hp g w _ _,?_,(Below.refl _ _).alloc hr.base _,fun p _ h=>.inl h⟩
 ·have e1:=h1.lit
  have e2:=h2.lit
  simp only[execOp,e1,e2,Sem.run_bind,bm,Result.andThen_ok]
  rfl
 ·rw[aD,Oq,fH,bc,dY];exact aC _
 ·have te:(madeCells zz.cells (m*f.size)).toList[i]? =some u:=by simpa using hu
  refine⟨fun _=>h1c u (bL te),fun d hd=>?_⟩
  rw[aD,Oq] at hd
  unfold dC at hd
  rw[bE,bE,te] at hd
  injection hd with hd
  subst hd
  exact .e _ _ (.lit u (h1c u (bL te)))
 ·rw[aD]
  have:=aF.ow (hp:=hp.var (dC ((cW c).f (List.replicate ((m:Int).toNat) z0)))) (g:=g.var hp.next w.heap.size) (w:=w.alloc (.cells (madeCells zz.cells (m*f.size)) e)) hp.next 0 j.size m m (dH _) (aC _) (by unfold maxLen;omega)
  rwa[show (g.var hp.next w.heap.size).μ hp.next=w.heap.size from an rfl] at this
theorem PM(w:World)(t t2 ty e:TypeId)(i:TypeInfo)(hu:P.underlying t=some (.slice e))(hi:P.info? e=some i)(b o n c:Nat)(A:Option Addr)(m c':Nat)(cur:Array Value)(tt:TypeId)(cs:List Value)(hA:0<m→∃ad,A=some ad)(hl:cs.length=min m n*i.size)
  (SI:∀ad,A=some ad→∀j v,cs[j]? =some v→w.cell? (ad.add j)=some v) (hg:w.heap[b]? =some (.cells cur tt (0,0))) (E6:o+cs.length≤cur.size) (h1:∀v∈cs,v.oneCell'=true):
  (Builtin.copy_ #[t,t2] ty #[.slice (some ⟨b,o,none⟩) n c,.slice A m c']).run P w=   .ok (goInt ((min m n:Nat):Int)) (w.setRow b (cur.toList.take o++cs++cur.toList.drop (o+cs.length)).toArray):=by
 have zY:=run_storeCells_at P b o tt cs 0 cur w hg (by simpa using E6) h1
 have e0:Nat.min m n=min m n:=rfl
 cases A with
 |none=>
  have hm:m=0:=by
   rcases rY m with h|h
   ·exact h
   ·obtain⟨_,h⟩:=hA h;cases h
  subst hm
  have:cs=[]:=jR (by rw[hl];simp)
  subst this
  simp at zY
  simp[Builtin.copy_,run_underlying hu,Builtin.lenOf,Builtin.firstCells,sizeOf,typeInfo,hi,zY]
 |some a=>
  have oQ:=run_loadCells_list (P:=P) w a cs (SI a rfl)
  rw[hl] at oQ
  simp[Builtin.copy_,run_underlying hu,Builtin.lenOf,Builtin.firstCells,sizeOf,typeInfo,hi,e0,oQ,zY]
def u5(hp:Hp)(d:D)(z m:Nat)(xs:List E):Prop:=xs.length=m*z∧∀(B:Nat) (g:Gh) (w:World) (v:Value),HR B hp g w→aF hp g w d v→
 ∃A c us,v=.slice A m c∧(0<m→∃ad,A=some ad)∧(∀ad,A=some ad→∀j u,us[j]? =some u→w.cell? (ad.add j)=some u)∧Pw (cG w g.F) xs us
theorem u5.own {vs:List (Nat×List D)}{lv:List (Nat×Nat×Nat×TypeId)}{N:Nat}{F:List E}{xs:List E}(hv:vs.lookup k=some (dC F))(hle:off+m*z≤F.length)(hF:(F.drop off).take (m*z)=xs):u5 ⟨vs,lv,N⟩ (.ow k off z m) z m xs:=by
 subst hF
 refine⟨by rw[cz,fZ];omega,fun B g w v hr hd=>?_⟩
 cases hd with
 |ow _ _ _ _ c hk oo nR=>
  obtain⟨h1,h2,h3,cs,ty,h4,h5,h6⟩:=hr.var k _ hv
  rw[fH] at h5
  refine⟨_,c,(cs.toList.drop off).take (m*z),rfl,fun _=>⟨_,rfl⟩,fun ad ha j u hu=>?_,?_,fun j x u hx hu=>?_⟩
  ·injection ha with ha
   subst ha
   rw[fY] at hu
   split at hu
   ·rw[nt,n8] at hu
    have Mr:(⟨g.μ k,off,none⟩:Addr).add j=⟨g.μ k,off+j,none⟩:=by unfold Addr.add;split <;> simp_all
    rw[Mr]
    simpa[World.cell?,h4] using hu
   ·cases hu
  ·simp only[cz,fZ,dY];omega
  ·rw[fY] at hx hu
   split at hx
   ·rename_i hj
    rw[an hj,nt,n8] at hu
    rw[nt] at hx
    have:=(h6 (off+j) u hu).2 (.e x) (by unfold dC;rw[bE,hx];rfl)
    cases this
    assumption
   ·cases hx
theorem u5.dat {hp:Hp}{d:D}{z m:Nat}{xs:List E}(h:d.asSl z=some (m,xs))(hl:xs.length=m*z):u5 hp d z m xs:=by
 refine⟨hl,fun B g w v hr hd=>?_⟩
 obtain⟨A,c,rfl,cJ⟩:=qT hd h
 obtain⟨_,_,_,_,hA,us,Le,hc,hp⟩:=cJ.reads
 exact⟨A,c,us,rfl,fun hm=>(hA hm).imp fun ad h=>h.1,fun ad ha j u hu=>(hc ad ha j u hu).1,hp⟩
theorem cG.oneL {w:World}{F:Addr→Prop}{xs:List E}{us:List Value}(h:Pw (cG w F) xs us):∀u∈us,u.oneCell'=true:=by
 intro u hu
 obtain⟨i,hi⟩:=List.mem_iff_getElem?.1 hu
 have:i<xs.length:=by rw[h.1];exact (lV.1 hi).1
 exact (h.2 i xs[i] u (eG this) hi).one
theorem sCp {vs:List (Nat×List D)}{lv:List (Nat×Nat×Nat×TypeId)}{N:Nat}{F xs:List E}(tok:TOk P tb)(ht:tb t=some ti)(he:tb e=some j)(hs:u5 ⟨vs,lv,N⟩ (ev y) z m xs)(hv:vs.lookup k=some (dC F))(E6:off+n*z≤F.length)(uK:ti.ty=.slice e:=by exact rfl)(hx:ev x=.ow k off z n:=by exact rfl)(hz:z=j.size:=by exact rfl):
  mz P tb md ⟨dst,.call ⟨.builtin .copy,#[x,y],#[t,t2]⟩,ty2,pos,af,gd⟩ ev ⟨vs,lv,N⟩ (dI .i64 (min m n:Nat)) ⟨(k,dC (F.take off++xs.take (min m n*z)++F.drop (off+min m n*z)))::vs,lv,N⟩:=by
 subst hz
 refine (Snd.loud (dr:=md.dr) (.step fun B g w a hr vX=>?_) (fun _=>rfl) fun h=>by simp[Jd,cpB] at h).q (by cases md <;> rfl)
 have h1:=vX x (cm (by simp))
 have h2:=vX y (cm (by simp))
 rw[hx] at h1
 obtain⟨zV,hs⟩:=hs
 obtain⟨A,c',us,hy,hA,SI,v3⟩:=hs B g w _ hr h2
 obtain⟨q1,q2,q3,cs,ty,q4,q5,q6⟩:=hr.var k _ hv
 rw[fH] at q5
 obtain⟨f,zz,Oo,Kd,_⟩:=tok.inf he
 have SZ:min m n*j.size≤n*j.size:=bY _ (Nat.min_le_right _ _)
 have hmin2:min m n*j.size≤m*j.size:=bY _ (Nat.min_le_left _ _)
 have Le:us.length=m*j.size:=by rw[←v3.1,zV]
 have htl:(us.take (min m n*j.size)).length=min m n*j.size:=by rw[cz];omega
 have hxt:(xs.take (min m n*j.size)).length=min m n*j.size:=by rw[cz];omega
 generalize hv1:a.eval x=v1 at h1
 cases h1 with
 |ow _ _ _ _ c hk oo nR=>
  have hone:∀u∈us.take (min m n*j.size),u.oneCell'=true:=fun u hu=>cG.oneL v3 u (MH hu)
  have bm:=PM (P:=P) w t t2 ty2 e f (tok.slice ht uK) Oo (g.μ k) off n c A m c' cs ty (us.take (min m n*j.size)) hA (by rw[htl,Kd]) (fun ad ha i v hi=>SI ad ha i v (by
   rw[fY] at hi
   split at hi
   ·exact hi
   ·cases hi)) q4 (by omega) hone
  have S3:=setRow_heap w (g.μ k) cs (cs.toList.take off++us.take (min m n*j.size)++cs.toList.drop (off+(us.take (min m n*j.size)).length)).toArray ty (0,0) q4
  have S9:eM ⟨vs,lv,N⟩ g w (dC F) (cs.toList.take F.length):=⟨⟨by simp only[fH,cz,dY];omega,fun i d u hd hu=>(q6 i u (by
   rw[fY] at hu
   split at hu
   ·simpa using hu
   ·cases hu)).2 d hd⟩,fun u hu=>by
   obtain⟨i,hi⟩:=List.mem_iff_getElem?.1 hu
   rw[fY] at hi
   split at hi
   ·rename_i bh
    exact (q6 i u (by simpa using hi)).1 (by rw[fH];exact bh)
   ·cases hi⟩
  have hmid:eM ⟨vs,lv,N⟩ g w (dC (xs.take (min m n*j.size))) (us.take (min m n*j.size)):=by
   refine⟨⟨by rw[fH,hxt,htl],fun i d u hd hu=>?_⟩,hone⟩
   unfold dC at hd
   rw[bE] at hd
   cases hx':(xs.take (min m n*j.size))[i]? with
   |none=>rw[hx'] at hd;cases hd
   |some x'=>
    rw[hx'] at hd
    injection hd with hd
    subst hd
    exact .e _ _ ((v3.take _).2 i x' u hx' hu)
  have uh:eM ⟨vs,lv,N⟩ g w (dC (F.take off++xs.take (min m n*j.size)++F.drop (off+min m n*j.size))) ((cs.toList.take off++us.take (min m n*j.size)++cs.toList.drop (off+(us.take (min m n*j.size)).length)).take F.length):=by
   have:=((S9.take off).append hmid).append (S9.drop (off+min m n*j.size))
   rw[htl]
   have e1:(cs.toList.take off++us.take (min m n*j.size)++cs.toList.drop (off+min m n*j.size)).take F.length=((cs.toList.take F.length).take off++us.take (min m n*j.size))++(cs.toList.take F.length).drop (off+min m n*j.size):=by
    have hlA:(cs.toList.take off++us.take (min m n*j.size)).length=off+min m n*j.size:=by rw[cN,htl,cz,dY];omega
    rw[MU,hlA,e9 (by rw[hlA];omega),DJ,Am,qV (show off≤F.length by omega)]
   rw[e1]
   unfold dC at this ⊢
   simpa only[lf,xj,Al] using this
  have Mg:(F.take off++xs.take (min m n*j.size)++F.drop (off+min m n*j.size)).length=F.length:=by
   simp only[cN,cz,fZ];omega
  have J9:=SzB.row (new:=(cs.toList.take off++us.take (min m n*j.size)++cs.toList.drop (off+(us.take (min m n*j.size)).length)).toArray) q4 (by simp only[my,cN,cz,fZ,dY];omega)
  refine⟨goInt ((min m n:Nat):Int),g,_,?_,hr.setVar hv _ _ ty (by simp[World.setRow]) (fun b hb=>setRow_other w _ b _ hb) S3 (by rw[fH,Mg];simp only[my,cN,cz,fZ,dY];omega) J9 (fun i u hu=>?_),bu.setVar hr hv _ (by simp[World.setRow]) (fun b hb=>setRow_other w _ b _ hb) J9,.e _ _ (.lit _ rfl),wt w q2 _,fun _ _ h=>h⟩
  ·simp only[execOp,Array.map_map,Ih,gZ,pN,resolve,invoke,builtin,hv1,hy,Sem.run_bind]
   simp[resolve,invoke,builtin,hv1,hy,bm]
  ·have te:(cs.toList.take off++us.take (min m n*j.size)++cs.toList.drop (off+(us.take (min m n*j.size)).length))[i]? =some u:=by simpa using hu
   have hw:i<F.length→((cs.toList.take off++us.take (min m n*j.size)++cs.toList.drop (off+(us.take (min m n*j.size)).length)).take F.length)[i]? =some u:=fun hi=>by
    rw[fY,an hi];exact te
   exact⟨fun hi=>uh.2 u (bL (hw (by rw[fH,Mg] at hi;exact hi))),fun d hd=>uh.1.2 i d u hd (hw (by rw[←Mg,←fH];exact (lV.1 hd).1))⟩
def lCp {α:Type}(l:List α)(o:Nat)(s:List α):List α:=l.take o++s++l.drop (o+s.length)
theorem lCp_len {α:Type}{l s:List α}{o:Nat}(h:o+s.length≤l.length):(lCp l o s).length=l.length:=by
 unfold lCp;simp only[cN,cz,fZ];omega
theorem J4 {α:Type}(c:Cd α)(l s:List α)(o:Nat):(lCp l o s).flatMap c.f=(l.flatMap c.f).take (o*c.sz)++s.flatMap c.f++(l.flatMap c.f).drop (o*c.sz+s.length*c.sz):=by
 unfold lCp
 rw[DO,DO,kJ c.f c.h,←aX,np c.f c.h]
section
variable {α:Type} [Inhabited α] {c:Cd α} {vs:List (Nat×List D)} {lv:List (Nat×Nat×Nat×TypeId)} {N N0:Nat}
theorem u5.arr {v:Vector α N0}(hv:vs.lookup k=some (dC ((cA N0 c).f v)))(o:Nat)(hm:o+m≤N0)(ho:off=o*c.sz:=by exact rfl)(hz:z=c.sz:=by exact rfl):u5 ⟨vs,lv,N⟩ (.ow k off z m) z m (((v.toList.drop o).take m).flatMap c.f):=by
 subst ho hz
 refine u5.own hv ?_ ?_
 ·rw[(cA N0 c).h]
  show o*c.sz+m*c.sz≤N0*c.sz
  rw[←aX];exact bY _ hm
 ·show ((v.toList.flatMap c.f).drop (o*c.sz)).take (m*c.sz)=_
  rw[np c.f c.h,kJ c.f c.h]
theorem u5.lst {l:List α}(hv:vs.lookup k=some (dC ((cW c).f l)))(o:Nat)(hm:o+m≤l.length)(ho:off=o*c.sz:=by exact rfl)(hz:z=c.sz:=by exact rfl):u5 ⟨vs,lv,N⟩ (.ow k off z m) z m (((l.drop o).take m).flatMap c.f):=by
 subst ho hz
 refine u5.own hv ?_ ?_
 ·show _≤(l.flatMap c.f).length
  rw[jQ c.f c.h,←aX];exact bY _ hm
 ·show ((l.flatMap c.f).drop (o*c.sz)).take (m*c.sz)=_
  rw[np c.f c.h,kJ c.f c.h]
theorem sCpA {v:Vector α N0}{s:List α}{r:List (Nat×List D)}(tok:TOk P tb)(ht:tb t=some ti)(he:tb e=some j)(hs:u5 ⟨vs,lv,N⟩ (ev y) z m (s.flatMap c.f))(QY:s.length=m)(hv:vs.lookup k=some (dC ((cA N0 c).f v)))(o:Nat)(E6:o+n≤N0)(hr:(k,dC ((cA N0 c).f (vOf N0 (lCp v.toList o (s.take n)))))::vs=r)(ho:off=o*c.sz:=by exact rfl)(Br:z=c.sz:=by exact rfl)(uK:ti.ty=.slice e:=by exact rfl)(hx:ev x=.ow k off z n:=by exact rfl)(hz:z=j.size:=by exact rfl):
  mz P tb md ⟨dst,.call ⟨.builtin .copy,#[x,y],#[t,t2]⟩,ty2,pos,af,gd⟩ ev ⟨vs,lv,N⟩ (dI .i64 (min m n:Nat)) ⟨r,lv,N⟩:=by
 subst ho Br hr
 have:=sCp (P:=P) (md:=md) (dst:=dst) (ty2:=ty2) (pos:=pos) (af:=af) (gd:=gd) (t2:=t2) (lv:=lv) tok ht he hs hv (by
  rw[(cA N0 c).h]
  show _≤N0*c.sz
  rw[←aX];exact bY _ E6) uK hx hz
 have e1:(s.take n).length=min m n:=by rw[cz,QY,Nat.min_comm]
 have e2:(cA N0 c).f (vOf N0 (lCp v.toList o (s.take n)))=((cA N0 c).f v).take (o*c.sz)++(s.flatMap c.f).take (min m n*c.sz)++((cA N0 c).f v).drop (o*c.sz+min m n*c.sz):=by
  rw[vOf_f c (by rw[lCp_len (by rw[e1,m5];have:=Nat.min_le_right m n;omega),m5]),J4,e1]
  have e3:(s.flatMap c.f).take (min m n*c.sz)=(s.take n).flatMap c.f:=by
   rw[kJ c.f c.h]
   congr 1
   rcases Nat.le_total m n with h|h
   ·rw[qV h,e9 (by omega),e9 (by omega)]
   ·rw[Nat.min_eq_right h]
  rw[e3];rfl
 rw[e2];exact this
theorem sCpW {l s:List α}{r:List (Nat×List D)}(tok:TOk P tb)(ht:tb t=some ti)(he:tb e=some j)(hs:u5 ⟨vs,lv,N⟩ (ev y) z m (s.flatMap c.f))(QY:s.length=m)(hv:vs.lookup k=some (dC ((cW c).f l)))(o:Nat)(E6:o+n≤l.length)(hr:(k,dC ((cW c).f (lCp l o (s.take n))))::vs=r)(ho:off=o*c.sz:=by exact rfl)(Br:z=c.sz:=by exact rfl)(uK:ti.ty=.slice e:=by exact rfl)(hx:ev x=.ow k off z n:=by exact rfl)(hz:z=j.size:=by exact rfl):
  mz P tb md ⟨dst,.call ⟨.builtin .copy,#[x,y],#[t,t2]⟩,ty2,pos,af,gd⟩ ev ⟨vs,lv,N⟩ (dI .i64 (min m n:Nat)) ⟨r,lv,N⟩:=by
 subst ho Br hr
 have:=sCp (P:=P) (md:=md) (dst:=dst) (ty2:=ty2) (pos:=pos) (af:=af) (gd:=gd) (t2:=t2) (lv:=lv) tok ht he hs hv (by
  show _≤(l.flatMap c.f).length
  rw[jQ c.f c.h,←aX];exact bY _ E6) uK hx hz
 have e1:(s.take n).length=min m n:=by rw[cz,QY,Nat.min_comm]
 have e2:(cW c).f (lCp l o (s.take n))=((cW c).f l).take (o*c.sz)++(s.flatMap c.f).take (min m n*c.sz)++((cW c).f l).drop (o*c.sz+min m n*c.sz):=by
  show (lCp l o (s.take n)).flatMap c.f=_
  rw[J4,e1]
  have e3:(s.flatMap c.f).take (min m n*c.sz)=(s.take n).flatMap c.f:=by
   rw[kJ c.f c.h]
   congr 1
   rcases Nat.le_total m n with h|h
   ·rw[qV h,e9 (by omega),e9 (by omega)]
   ·rw[Nat.min_eq_right h]
  rw[e3];rfl
 rw[e2];exact this
end
theorem WkS.free {tm:List (Nat×D)}{vs:List (Nat×List D)}{lv:List (Nat×Nat×Nat×TypeId)}{N k:Nat}{ds:List D}(hv:vs.lookup k=some ds):∀(B:Nat) (g:Gh) (w:World) (ρ:Nat→Value),HR B ⟨vs,lv,N⟩ g w→(∀t d,tm.lookup t=some d→aF ⟨vs,lv,N⟩ g w d (ρ t))→
  ∃g':Gh,g'=⟨g.μ,g.τ,fun p=>g.F p∧p.block≠g.μ k⟩∧HR B ⟨vs.filter fun p=>!([k]:List Nat).contains p.1,lv,N⟩ g' w∧bu ⟨vs,lv,N⟩ g w ⟨vs.filter fun p=>!([k]:List Nat).contains p.1,lv,N⟩ g' w∧(∀t d,tm.lookup t=some d→aF ⟨vs.filter fun p=>!([k]:List Nat).contains p.1,lv,N⟩ g' w d (ρ t))∧∀p:Addr,p.block<B→g.F p→g'.F p:=by
 intro B g w ρ hr fh
 obtain⟨h1,h2,h3,cs,ty,h4,h5,h6⟩:=hr.var k _ hv
 have look:∀{j:Nat} {ds:List D},(vs.filter fun p=>!([k]:List Nat).contains p.1).lookup j=some ds→j≠k∧vs.lookup j=some ds:=by
  intro j ds h
  obtain⟨a,b⟩:=lH h
  exact⟨by simpa using a,b⟩
 have lr:∀{j:Nat} {ds:List D},j≠k→vs.lookup j=some ds→g.μ j≠g.μ k:=fun hj hl e=>hj (hr.inj _ _ _ _ hl hv e)
 have mo:bu ⟨vs,lv,N⟩ g w ⟨vs.filter fun p=>!([k]:List Nat).contains p.1,lv,N⟩ ⟨g.μ,g.τ,fun p=>g.F p∧p.block≠g.μ k⟩ w:=by
  refine⟨aC _,fun _ _ _=>rfl,fun _ _ h=>h.1,aC _,fun _ _=>rfl,fun _ _ m _ h=>⟨m,h,aC _,fun _=>rfl⟩,fun b hb hf=>⟨rfl,fun p hp hq=>⟨hq,?_⟩,fun j ds hj=>hf.1 j ds (look hj).2,hf.2⟩,fun _=>.same fun _=>rfl⟩
  rw[hp];exact fun e=>hf.1 k _ hv e.symm
 refine⟨_,rfl,⟨fun j ds hj=>?_,fun j j' ds ds' hj Lf he=>hr.inj j j' ds ds' (look hj).2 (look Lf).2 he,fun id m e hi=>?_,hr.tinj,hr.base,fun p hp=>hr.fits p hp.1⟩,mo,fun t' d hd=>(fh t' d hd).mono mo,fun p hp hq=>⟨hq,?_⟩⟩
 ·obtain⟨a1,a2⟩:=look hj
  obtain⟨b1,b2,b3,uj,NH,b4,b5,b6⟩:=hr.var j ds a2
  exact⟨b1,b2,fun p hp=>⟨b3 p hp,by rw[hp];exact lr a1 a2⟩,uj,NH,b4,b5,fun i u hu=>⟨(b6 i u hu).1,fun d hd=>((b6 i u hu).2 d hd).mono mo⟩⟩
 ·obtain⟨b1,us,b2,b3,b4⟩:=hr.tok id m e hi
  exact⟨b1,us,b2,b3,fun b hb=>⟨fun p hp hq=>⟨(b4 b hb).1 p hp hq,by rw[hp];exact fun e=>(b4 b hb).2 k _ hv e.symm⟩,fun j ds hj=>(b4 b hb).2 j ds (look hj).2⟩⟩
 ·intro e
  omega
theorem CL {tm:List (Nat×D)}{d0:D}:∀{ts:List Nat} {t:Nat} {d:D},(ts.map (fun t=>(t,d0))++tm).lookup t=some d→(t∈ts∧d=d0)∨tm.lookup t=some d
 |[],t,d,h=>.inr h
 |s::ts,t,d,h=>by
  by_cases zY:t=s
  ·subst zY
   have:some d0=some d:=by rw[←h];exact ah.symm
   injection this with this
   exact .inl ⟨j8 ..,this.symm⟩
  ·rcases CL (ts:=ts) (t:=t) (d:=d) (by rw[←h];exact (al zY).symm) with⟨h1,h2⟩|h1
   ·exact .inl ⟨io _ h1,h2⟩
   ·exact .inr h1
theorem WkS.frzs {tm:List (Nat×D)}{vs:List (Nat×List D)}{lv:List (Nat×Nat×Nat×TypeId)}{N k z n:Nat}{F:List E}(ts:List Nat)(hz:0<z)(ht:∀t∈ts,tm.lookup t=some (.ow k 0 z n))(hv:vs.lookup k=some (dC F))(hF:F.length=n*z):
  WkS tm ⟨vs,lv,N⟩ (ts.map (fun t=>(t,.e (.sl z n F)))++tm) ⟨vs.filter fun p=>!([k]:List Nat).contains p.1,lv,N⟩:=by
 intro B g w ρ hr fh
 have one:∀t∈ts,∃g',(g':Gh)=⟨g.μ,g.τ,fun p=>g.F p∧p.block≠g.μ k⟩∧aF ⟨vs.filter fun p=>!([k]:List Nat).contains p.1,lv,N⟩ g' w (.e (.sl z n F)) (ρ t):=by
  intro t hts
  refine⟨_,rfl,?_⟩
  obtain⟨h1,h2,h3,cs,ty,h4,h5,h6⟩:=hr.var k _ hv
  have cJ:=fh t _ (ht t hts)
  generalize ρ t=u at cJ
  cases cJ with
  |ow _ _ _ _ c hk oo nR=>
   have q9:F.length≤cs.size:=by rw[fH] at h5;exact h5
   refine .e _ _ (.sl z n F (some ⟨g.μ k,0,none⟩) c (fun i=>cs.getD i undef) hF hz oo nR (fun _=>⟨_,rfl,(dW.1 h4).1⟩) (fun ad ha i e hi=>?_) (fun i e hi=>?_))
   ·injection ha with ha
    subst ha
    have bh:i<cs.size:=bC (lV.1 hi).1 q9
    refine⟨?_,fun hf=>hf.2 (by rw[iX])⟩
    have e0:w.cell? (({block:=g.μ k,off:=0,spot:=none}:Addr).add i)=cs[0+i]? :=by
     by_cases h0:i=0
     ·subst h0;simp[World.cell?,Addr.add,h4]
     ·simp[World.cell?,Addr.add,h4,h0]
    rw[e0,cj]
    simp[e7,bh]
   ·have bh:i<cs.size:=bC (lV.1 hi).1 q9
    have hu:=h6 i (cs.getD i undef) (by simp[e7,bh])
    have:=hu.2 (.e e) (by unfold dC;rw[bE,hi];rfl)
    cases this with
    |e _ _ h7=>exact cG.less h7 fun p hp=>hp.1
 obtain⟨g',hg',q1,q2,q3,q4⟩:=WkS.free (lv:=lv) (N:=N) (tm:=tm) (k:=k) hv B g w ρ hr fh
 subst hg'
 refine⟨_,q1,q2,fun t d hd=>?_,q4⟩
 rcases CL hd with⟨h1,rfl⟩|h1
 ·obtain⟨g',hg',h2⟩:=one t h1
  subst hg'
  exact h2
 ·exact q3 t d h1
theorem WkS.frzG {α:Type}(c:Cd α){l:List α}{tm:List (Nat×D)}{vs:List (Nat×List D)}{lv:List (Nat×Nat×Nat×TypeId)}{N k n:Nat}(ts:List Nat)(hn:n=l.length)(ht:∀t∈ts,tm.lookup t=some (.ow k 0 c.sz n))(hv:vs.lookup k=some (dC ((cW c).f l)))(hz:Nat.ble 1 c.sz=true:=by exact rfl):
  WkS tm ⟨vs,lv,N⟩ (ts.map (fun t=>(t,.e (slE c l)))++tm) ⟨vs.filter fun p=>!([k]:List Nat).contains p.1,lv,N⟩:=by
 subst hn
 exact WkS.frzs ts (cD hz) ht hv (jQ c.f c.h l)
end
end
section
section
variable {P:Program} {tb:TypeId→Option TyE} {dr:Bool} {ev:Operand→D} {hp:Hp} {ty:TypeId} {α:Type}
theorem ka {t e:TypeId}{i j:TyE}{n:Nat}{ps:List (Nat×Operand)}(l:List α)(c:Cd α)(ht:tb t=some i)(he:tb e=some j)(hi:i.ty=.slice e:=by exact rfl)(hz:c.sz=j.size:=by exact rfl)(L1:Nat.ble (0+1) (j.size)=true:=by exact rfl)(Mg:l.length=n+1:=by exact rfl)(hn:Nat.ble ((n+1)*j.size) (16777216)=true:=by exact rfl)(hp1:g6 (ps.map fun p=>(p.1,ev p.2))=some ((l.zipIdx 0).map fun p=>(p.2,dC (c.f p.1))):=by exact rfl)(hd:dr=true:=by exact rfl):
  AVC P tb dr (.buildSlice t (n+1) ps.toArray) ty ev hp (Kq (dF c l) hp):=by
 have hf:=z9 c hz l 0 [] (List.replicate ((n+1)*j.size) (D.e .any)) (by simp) (by rw[ny,Mg])
 rw[mm,mm] at hf
 have:=UK (P:=P) (dr:=dr) (ty:=ty) (ev:=ev) (hp:=hp) ht he hi L1 hn hp1 hf (Ah _) hd
 show AVC _ _ _ _ _ _ _ (Kq (.fu c.sz l.length (l.flatMap c.f)) _)
 rw[hz,Mg]
 exact this
end
end
section
section
variable {B:Nat} {hp:Hp} {g:Gh} {w w':World}
def Hp.re(hp:Hp)(k:Nat)(ds:List D):Hp:=⟨(hp.next,ds)::hp.vars.filter fun p=>!([k]:List Nat).contains p.1,hp.live,hp.next+1⟩
theorem xP {k:Nat}{ds a:List D}{j:Nat}(h:(hp.re k ds).vars.lookup j=some a):(j=hp.next∧a=ds)∨(j≠hp.next∧j≠k∧hp.vars.lookup j=some a):=by
 by_cases hj:j=hp.next
 ·subst hj
  have:some ds=some a:=by rw[←h];exact ah.symm
  injection this with this
  exact .inl ⟨rfl,this.symm⟩
 ·have h1:(hp.vars.filter fun p=>!([k]:List Nat).contains p.1).lookup j=some a:=by rw[←h];exact (al hj).symm
  obtain⟨h2,h3⟩:=lH h1
  exact .inr ⟨hj,by simpa using h2,h3⟩
theorem bu.re(hr:HR B hp g w){k b:Nat}{sQ:List D}(hk:hp.vars.lookup k=some sQ)(ds:List D)(hs:w.heap.size≤w'.heap.size)(ho:∀c,c<w.heap.size→c≠g.μ k→w'.heap[c]? =w.heap[c]?)(hz:SzB w w' (g.μ k))(hb:b=g.μ k∨w.heap.size≤b):
  bu hp g w (hp.re k ds) (g.var hp.next b) w':=by
 have bh:=hr.var_lt hk
 obtain⟨h1,h2,h3,_⟩:=hr.var k sQ hk
 refine⟨hs,fun p hp1 hf=>World.cell?_of_block (ho _ hp1 fun e=>hf (h3 p e)),fun p hpb hf=>?_,eQ _,fun j hj=>?_,fun _ _ m _ hm=>⟨m,hm,aC _,fun _=>rfl⟩,fun c hc hf=>⟨ho _ hc fun e=>hf.1 k sQ hk e.symm,fun _ _ h=>.inl h,fun j a hj=>?_,hf.2⟩,fun c=>?_⟩
 ·rcases hf with hf|hf
  ·exact hf
  ·rcases hb with hb|hb
   ·exact h3 p (by rw[hf,hb])
   ·omega
 ·show (if j=hp.next then _ else _)=_
  rw[ifn_]
 ·rcases xP hj with⟨rfl,_⟩|⟨lr,_,h⟩
  ·show (if _ then _ else _)≠_
   rw[an rfl]
   rcases hb with hb|hb
   ·rw[hb];exact hf.1 k sQ hk
   ·omega
  ·show (if _ then _ else _)≠_
   rw[az lr]
   exact hf.1 j a h
 ·by_cases hc:c=g.μ k
  ·subst hc;exact hz
  ·exact .same fun h=>ho c h hc
theorem HR.re(hr:HR B hp g w){k b:Nat}{sQ:List D}(hk:hp.vars.lookup k=some sQ)(ds:List D)(hs:w.heap.size≤w'.heap.size)(ho:∀c,c<w.heap.size→c≠g.μ k→w'.heap[c]? =w.heap[c]?)(hz:SzB w w' (g.μ k))(hb:b=g.μ k∨w.heap.size≤b)
  (cs:Array Value) (ty:TypeId) (hn:w'.heap[b]? =some (.cells cs ty (0,0))) (hl:ds.length≤cs.size) (hc:∀(j:Nat) (u:Value),cs[j]? =some u→(j<ds.length→u.oneCell'=true)∧∀d,ds[j]? =some d→aF hp g w d u):HR B (hp.re k ds) (g.var hp.next b) w':=by
 have m:=bu.re hr hk ds hs ho hz hb
 have hkl:=hr.var_lt hk
 obtain⟨hk1,z3,hk3,_⟩:=hr.var k sQ hk
 have hbl:b<w'.heap.size:=(dW.1 hn).1
 have xy:(g.var hp.next b).μ hp.next=b:=an rfl
 have hμ:∀j,j<hp.next→(g.var hp.next b).μ j=g.μ j:=m.μ
 have hdiff:∀{j:Nat} {a:List D},j≠k→hp.vars.lookup j=some a→g.μ j≠g.μ k:=fun hj h e=>hj (hr.inj _ _ _ _ h hk e)
 have C4:∀{j:Nat} {a:List D},j≠k→hp.vars.lookup j=some a→g.μ j≠b:=fun hj h e=>by
  rcases hb with hb|hb
  ·exact hdiff hj h (by rw[e,hb])
  ·have:=hr.var_lt h;omega
 refine⟨fun j a hj=>?_,fun j j' a a' hj Lf he=>?_,fun id n e hi=>?_,fun id sr t t' c hi sM he FO=>hr.tinj id sr t t' c hi sM he FO,cg hr.base hs,fun p hf=>?_⟩
 ·rcases xP hj with⟨rfl,rfl⟩|⟨lr,hjk,h0⟩
  ·rw[xy]
   refine⟨dH _,?_,fun p hp'=>.inr hp',cs,ty,hn,hl,fun i u hu=>⟨(hc i u hu).1,fun d hd=>((hc i u hu).2 d hd).mono m⟩⟩
   rcases hb with hb|hb
   ·rw[hb];exact z3
   ·exact cg hr.base hb
  ·have bh:=hr.var_lt h0
   obtain⟨h1,h2,h3,uj,NH,h4,h5,h6⟩:=hr.var j a h0
   rw[hμ j h1]
   exact⟨pZ h1,h2,fun p hp'=>.inl (h3 p hp'),uj,NH,(ho _ bh (hdiff hjk h0)).trans h4,h5,fun i u hu=>⟨(h6 i u hu).1,fun d hd=>((h6 i u hu).2 d hd).mono m⟩⟩
 ·rcases xP hj with⟨h1,_⟩|⟨h1,hjk,h0⟩ <;> rcases xP Lf with⟨h2,_⟩|⟨h2,hjk',IZ⟩
  ·omega
  ·rw[h1,xy,hμ j' (hr.var j' a' IZ).1] at he
   exact absurd he.symm (C4 hjk' IZ)
  ·rw[h2,xy,hμ j (hr.var j a h0).1] at he
   exact absurd he (C4 hjk h0)
  ·rw[hμ j (hr.var j a h0).1,hμ j' (hr.var j' a' IZ).1] at he
   exact hr.inj j j' a a' h0 IZ he
 ·obtain⟨h1,us,QU,h2,h3⟩:=hr.tok id n e hi
  refine⟨pZ h1,us,QU,⟨h2.1,?_⟩,fun c FP=>⟨fun p h4 h5=>.inl ((h3 c FP).1 p h4 h5),fun j a hj=>?_⟩⟩
  ·rcases h2.2 with h0|⟨c,cap,cur,hv,hB,hh,r⟩
   ·exact .inl h0
   ·exact .inr ⟨c,cap,cur,hv,hB,(ho c (dW.1 hh).1 fun e=>(h3 c (by rw[hv];rfl)).2 k sQ hk e.symm).trans hh,r⟩
  ·rcases xP hj with⟨rfl,_⟩|⟨lr,_,h0⟩
   ·rw[xy]
    rcases hb with hb|hb
    ·rw[hb];exact (h3 c FP).2 k sQ hk
    ·have:=(h2.lt c FP).2;omega
   ·rw[hμ j (hr.var j a h0).1]
    exact (h3 c FP).2 j a h0
 ·rcases hf with hf|hf
  ·exact bC (hr.fits p hf) hs
  ·rw[hf];exact hbl
theorem bu.addVar(hp:Hp)(g:Gh)(ds:List D){b:Nat}(hs:w.heap.size≤w'.heap.size)(hb:∀c,c<w.heap.size→w'.heap[c]? =w.heap[c]?)(C9:w.heap.size≤b):bu hp g w (hp.var ds) (g.var hp.next b) w':=by
 refine⟨hs,fun p hp1 _=>World.cell?_of_block (hb _ hp1),fun p hpb hf=>?_,eQ _,fun k hk=>?_,fun _ _ m _ hm=>⟨m,hm,aC _,fun _=>rfl⟩,fun c hc hf=>⟨hb _ hc,fun _ _ h=>.inl h,fun k ds' hk=>?_,hf.2⟩,fun c=>.same (hb c)⟩
 ·rcases hf with hf|hf
  ·exact hf
  ·omega
 ·show (if k=hp.next then _ else _)=_
  rw[ifn_]
 ·show (if k=hp.next then _ else _)≠_
  by_cases AU:k=hp.next
  ·rw[an AU];omega
  ·rw[az AU]
   exact hf.1 k ds' (by rw[←hk];exact (al AU).symm)
theorem HR.addVar(hr:HR B hp g w)(ds:List D){b:Nat}(hs:w.heap.size≤w'.heap.size)(hb:∀c,c<w.heap.size→w'.heap[c]? =w.heap[c]?)(C9:w.heap.size≤b)(cs:Array Value)(ty:TypeId)(hn:w'.heap[b]? =some (.cells cs ty (0,0)))(hl:ds.length≤cs.size)
  (hc:∀(j:Nat) (u:Value),cs[j]? =some u→(j<ds.length→u.oneCell'=true)∧∀d,ds[j]? =some d→aF (hp.var ds) (g.var hp.next b) w' d u):HR B (hp.var ds) (g.var hp.next b) w':=by
 have m:=bu.addVar hp g ds hs hb C9
 have hμ:∀k,k<hp.next→(g.var hp.next b).μ k=g.μ k:=m.μ
 have xy:(g.var hp.next b).μ hp.next=b:=an rfl
 have hbl:b<w'.heap.size:=(dW.1 hn).1
 have look:∀{j:Nat} {a:List D},(hp.var ds).vars.lookup j=some a→(j=hp.next∧a=ds)∨(j≠hp.next∧hp.vars.lookup j=some a):=by
  intro j a hj
  by_cases z4:j=hp.next
  ·subst z4
   have:some ds=some a:=by rw[←hj];exact ah.symm
   injection this with this
   exact .inl ⟨rfl,this.symm⟩
  ·exact .inr ⟨z4,by rw[←hj];exact (al z4).symm⟩
 refine⟨fun j a hj=>?_,fun j j' a a' hj Lf he=>?_,fun id n e hi=>?_,fun id sr t t' c hi sM he FO=>hr.tinj id sr t t' c hi sM he FO,cg hr.base hs,fun p hf=>?_⟩
 ·rcases look hj with⟨rfl,rfl⟩|⟨lr,h0⟩
  ·rw[xy]
   exact⟨dH _,cg hr.base C9,fun p hp'=>.inr hp',cs,ty,hn,hl,hc⟩
  ·have bh:=hr.var_lt h0
   obtain⟨h1,h2,h3,uj,NH,h4,h5,h6⟩:=hr.var j a h0
   rw[hμ j h1]
   exact⟨pZ h1,h2,fun p hp'=>.inl (h3 p hp'),uj,NH,(hb _ bh).trans h4,h5,fun i u hu=>⟨(h6 i u hu).1,fun d hd=>((h6 i u hu).2 d hd).mono m⟩⟩
 ·rcases look hj with⟨h1,_⟩|⟨h1,h0⟩ <;> rcases look Lf with⟨h2,_⟩|⟨h2,IZ⟩
  ·omega
  ·rw[h1,xy,hμ j' (hr.var j' a' IZ).1] at he
   have:=hr.var_lt IZ;omega
  ·rw[h2,xy,hμ j (hr.var j a h0).1] at he
   have:=hr.var_lt h0;omega
  ·rw[hμ j (hr.var j a h0).1,hμ j' (hr.var j' a' IZ).1] at he
   exact hr.inj j j' a a' h0 IZ he
 ·obtain⟨h1,us,QU,h2,h3⟩:=hr.tok id n e hi
  refine⟨pZ h1,us,QU,⟨h2.1,?_⟩,fun c FP=>⟨fun p h4 h5=>.inl ((h3 c FP).1 p h4 h5),fun j a hj=>?_⟩⟩
  ·rcases h2.2 with h0|⟨c,cap,cur,hv,hB,hh,r⟩
   ·exact .inl h0
   ·exact .inr ⟨c,cap,cur,hv,hB,(hb c (dW.1 hh).1).trans hh,r⟩
  ·rcases look hj with⟨rfl,_⟩|⟨lr,h0⟩
   ·rw[xy]
    have:=(h2.lt c FP).2;omega
   ·rw[hμ j (hr.var j a h0).1]
    exact (h3 c FP).2 j a h0
 ·rcases hf with hf|hf
  ·exact bC (hr.fits p hf) hs
  ·rw[hf];exact hbl
end
end
section
def D.toOw:D→D
 | .gw k z n=>.ow k 0 z n
 |d=>d
section
variable {P:Program} {tb:TypeId→Option TyE} {md:Md} {B:Nat} {hp hp':Hp} {g:Gh} {w w':World} {d:D} {v:Value}
theorem aF.toOw(h:aF hp g w d v):aF hp g w d.toOw v:=by
 cases h with
 |gw k z n c hk h1 h2 hs=>exact .ow k 0 z n c hk h1 h2
 |e x v h=>exact .e x v h
 |own id z n xs v h hid ht=>exact .own id z n xs v h hid ht
 |fu z n xs A h=>exact .fu z n xs A h
 |ag ds cs hl h1 hr=>exact .ag ds cs hl h1 hr
 |tu ds cs hl hr=>exact .tu ds cs hl hr
 |fp xs off ad hb hc=>exact .fp xs off ad hb hc
 |pt k off hk=>exact .pt k off hk
 |ow k off z n c hk h1 h2=>exact .ow k off z n c hk h1 h2
 |fn f ks hk=>exact .fn f ks hk
 |opt b d v hi h=>exact .opt b d v hi h
 |top v=>exact .top v
theorem NI {k off:Nat}(d:D):d.toOw.un=.pt k off↔d.un=.pt k off:=by cases d <;> simp[D.toOw,D.un]
theorem oA.toOw {o:Oper}{ev:Operand→D}(h:oA P o (fun x=>(ev x).toOw) hp d hp'):oA P o ev hp d hp':=
 fun B g w a Kn Q hr hx hk=>h B g w a Kn Q hr (fun x vX=>(hx x vX).toOw) hk
theorem mz.toOw {o:Oper}{ev:Operand→D}(h:mz P tb md o (fun x=>(ev x).toOw) hp d hp'):mz P tb md o ev hp d hp':=
 ⟨h.ok.toOw,fun h1=>⟨(h.quiet h1).1,fun bk h3=>((h.quiet h1).2 bk fun hl x hx j off e=>h3 hl x hx j off ((NI _).1 e)).toOw⟩,h.fr,fun hl x hx j off e=>h.lk hl x hx j off ((NI _).2 e)⟩
variable {ops:Array Oper} {K:List (Nat×D)→Hp→Prop} {os:List Oper} {tm:List (Nat×D)} {t:Tmp} {dst:Option Tmp} {op:Op} {ty:TypeId} {pos:String} {af:Array Edge} {gd:Option (Nat×Bool)}
theorem stG(tok:TOk P tb)(h:AVC P tb md.dr op ty (fun x=>(evD tm x).toOw) hp (Kq d hp'))(h2:aQ P tb md ops K os (xR dst d tm) hp')(hn:md.nc tb op=true:=by exact rfl):aQ P tb md ops K (⟨dst,op,ty,pos,af,none⟩::os) tm hp:=
 Js rfl (((AVC.snd (o:=⟨dst,op,ty,pos,af,none⟩) tok h).q hn).toOw) h2
theorem Od(tok:TOk P tb){ev:Operand→D}{tt e:TypeId}{ti j:TyE}{x:Operand}{cs:List D}(ht:tb tt=some ti)(he:tb e=some j)(hx:(ev x).cells=some cs)(hl:cs.length=j.size)(uK:ti.ty=.slice e:=by exact rfl)(hz:Nat.ble 1 j.size=true:=by exact rfl)(hsm:Nat.ble j.size 16777216=true:=by exact rfl):
  oA P ⟨dst,.buildSlice tt 1 #[(0,x)],ty,pos,af,gd⟩ ev hp (.gw hp.next j.size 1) (hp.var cs):=by
 have hz:=cD hz
 have hsm:=cD hsm
 have hu:=tok.slice ht uK
 refine .step fun B g w a hr vX=>?_
 have cJ:=vX x (by simp[Op.operands])
 have q9:=cJ.cells hx
 have wV:(a.eval x).cells.size=j.size:=by rw[←dY,←q9.1.1,hl]
 obtain⟨zv,hzv,Br⟩:=tok.run_zero he w
 obtain⟨_,_,hzl,L1⟩:=tok e j he
 have hs:=tok.run_sizeOf he w
 have AX:Instr.fill (fun i=>some (i*j.size,j.size)) ((Array.range (1*j.size)).map (zv.cells[·% zv.cells.size]!)) [(0,a.eval x)]=some (a.eval x).cells:=by
  have h0:fJ (fun i=>some (i*j.size,j.size)) ((Array.range (1*j.size)).map (zv.cells[·% zv.cells.size]!)).toList ([(0,a.eval x)].map fun p=>(p.1,p.2.cells.toList))=some (a.eval x).cells.toList:=by
   have Mg:((Array.range (1*j.size)).map (zv.cells[·% zv.cells.size]!)).toList.length=j.size:=by simp
   simp only[gZ,pN,fJ,jJ,cj,dY]
   rw[az (by rw[wV,Array.size_map,Array.size_range];omega)]
   rw[xi,mm,uS (by rw[Mg];omega),pY]
  have:=BV h0
  simpa using this
 have bm:(Instr.buildSlice tt 1 #[(0,a.eval x)]).run P w=.ok (.slice (some ⟨w.heap.size,0,none⟩) 1 1) (w.alloc (.cells (a.eval x).cells e)):=by
  have hsm2:¬1*j.size > 2 ^ 24:=by omega
  have lr:¬1*j.size=0:=by omega
  simp only[Instr.buildSlice,Sem.run_bind,run_underlying hu,Result.andThen_ok,hs,az hsm2,az lr,hzv,Sem.run_pure]
  simp only[AX]
  rfl
 refine⟨.slice (some ⟨w.heap.size,0,none⟩) 1 1,g.var hp.next w.heap.size,w.alloc (.cells (a.eval x).cells e),?_,hr.newVar cs _ e (by rw[wV,hl];exact aC _) (fun i u hu=>?_),bu.var hp g w cs _,?_,(Below.refl _ _).alloc hr.base _,fun p _ h=>.inl h⟩
 ·simp[execOp,bm]
 ·have te:(a.eval x).cells.toList[i]? =some u:=by simpa using hu
  exact⟨fun _=>q9.2 u (bL te),fun d hd=>q9.1.2 i d u hd te⟩
 ·have:=aF.gw (hp:=hp.var cs) (g:=g.var hp.next w.heap.size) (w:=w.alloc (.cells (a.eval x).cells e)) hp.next j.size 1 1 (dH _) (aC _) (by decide) ⟨(a.eval x).cells,e,(0,0),by rw[show (g.var hp.next w.heap.size).μ hp.next=w.heap.size from an rfl];exact heap_alloc_new w _,by omega⟩
  rwa[show (g.var hp.next w.heap.size).μ hp.next=w.heap.size from an rfl] at this
theorem zw(w:World)(t ty e tt:TypeId)(i:TypeInfo)(ht:P.underlying t=some (.slice e))(hi:P.info? e=some i)
  (g LC sCap:Nat) (cur:Array Value) (hg:w.heap[g]? =some (.cells cur tt (0,0)))
  (a:Addr) (m c:Nat) (news:List Value) (hl:news.length=m*i.size) (qG:∀j u,news[j]? =some u→w.cell? (a.add j)=some u) (h1:∀u∈news,u.oneCell'=true)
  (ua:LC+m≤sCap) (E6:LC*i.size+news.length≤cur.size):
  (Builtin.append_ #[t,t] ty #[.slice (some ⟨g,0,none⟩) LC sCap,.slice (some a) m c]).run P w=
   .ok (.slice (some ⟨g,0,none⟩) (LC+m) sCap) (w.setRow g (cur.toList.take (LC*i.size)++news++cur.toList.drop (LC*i.size+news.length)).toArray):=by
 have hf:=run_firstCells_some (P:=P) w i.size m a m c news hl qG
 have zY:=run_storeCells_at P g (LC*i.size) tt news 0 cur w hg (by simpa using E6) h1
 simp only[i9] at zY
 simp[Builtin.append_,run_underlying ht,sizeOf,typeInfo,hi,Builtin.lenOf,ua,hf,Addr.add_lit,zY]
structure AppG(w:World)(g:Nat)(v':Value)(w':World)(b n z:Nat)(xs:List Value):Prop where
 size:w.heap.size≤w'.heap.size
 old:∀c,c<w.heap.size→c≠g→w'.heap[c]? =w.heap[c]?
 sz:SzB w w' g
 blk:b=g∨w.heap.size≤b
 rest:w'.os=w.os∧w'.tape=w.tape∧w'.output=w.output
 row:∃(cs:Array Value) (tt:TypeId) (cap:Nat),v'=.slice (some ⟨b,0,none⟩) n cap∧n≤cap∧cap≤maxLen∧w'.heap[b]? =some (.cells cs tt (0,0))∧cap*z≤cs.size∧cs.toList.take (n*z)=xs
theorem EN(tok:TOk P tb){t e:TypeId}{ti j:TyE}(ht:tb t=some ti)(uK:ti.ty=.slice e)(he:tb e=some j)(hz:0<j.size)(w:World)(ty tt:TypeId)(g n cap:Nat)(cur:Array Value)(hg:w.heap[g]? =some (.cells cur tt (0,0)))(oo:n≤cap)(nR:cap≤maxLen)(q9:cap*j.size≤cur.size)
  (a:Addr) (m c:Nat) (news:List Value) (hl:news.length=m*j.size) (qG:∀j u,news[j]? =some u→w.cell? (a.add j)=some u) (h1:∀u∈news,u.oneCell'=true) (hm:0<m) (hb:(n+m)*max 1 j.bytes≤140737488355328):
  ∃v' w' b,(Builtin.append_ #[t,t] ty #[.slice (some ⟨g,0,none⟩) n cap,.slice (some a) m c]).run P w=.ok v' w'∧AppG w g v' w' b (n+m) j.size (cur.toList.take (n*j.size)++news):=by
 obtain⟨f,zz,Oo,Kd,S8,hf3,S7,_⟩:=tok.inf he
 have hu:=tok.slice ht uK
 have hgl:g<w.heap.size:=(dW.1 hg).1
 have QZ:n+m≤140737488355328:=cg (Au _ (by omega)) hb
 have C4:(n+m)*f.bytes≤140737488355328:=cg (uW _ (by rw[S8];omega)) hb
 have hns:n*j.size≤cap*j.size:=bY _ oo
 have zV:(cur.toList.take (n*j.size)).length=n*j.size:=by rw[cz,dY];omega
 by_cases ua:n+m≤cap
 ·have HE:(n+m)*j.size≤cap*j.size:=bY _ ua
  rw[aX] at HE
  have hr:=zw (P:=P) w t ty e tt f hu Oo g n cap cur hg a m c news (by rw[Kd];exact hl) qG h1 ua (by rw[Kd,hl];omega)
  rw[Kd] at hr
  have C3:(cur.toList.take (n*j.size)++news++cur.toList.drop (n*j.size+news.length)).toArray.size=cur.size:=by
   simp only[my,cN,cz,fZ,dY];omega
  refine⟨_,_,g,hr,by simp,fun c _ hc=>setRow_other w g c _ hc,SzB.row hg C3,.inl rfl,⟨rfl,rfl,rfl⟩,_,tt,cap,rfl,ua,nR,setRow_heap w g cur _ tt (0,0) hg,by rw[C3];exact q9,?_⟩
  have e1:(n+m)*j.size=(cur.toList.take (n*j.size)++news).length:=by rw[cN,zV,hl,aX]
  rw[e1]
  exact sU
 ·have holds:∀i u,(cur.toList.take (n*j.size))[i]? =some u→w.cell? ((⟨g,0,none⟩:Addr).add i)=some u:=fun i u hu=>by
   rw[fY] at hu
   split at hu
   ·rw[Addr.add_lit]
    simpa[World.cell?,hg] using hu
   ·cases hu
  have hr:=run_append_grow (P:=P) w t ty e f zz hu Oo hf3 ⟨g,0,none⟩ n cap (cur.toList.take (n*j.size)) (by rw[Kd];exact zV) holds a m c news (by rw[Kd];exact hl) qG (by omega) (by omega) (growslice_fits (by omega) C4)
  have C9:=grownCap_ge w (n+m) cap e
  have hzs:zz.cells.size=j.size:=by
   have h4:=(tok e j he).2.2.1
   rw[←dY,S7,h4]
  refine⟨_,_,w.heap.size,hr,by simp,fun c hc _=>heap_alloc_old w.drew _ hc,.same fun h=>heap_alloc_old w.drew _ h,.inr (aC _),⟨rfl,rfl,rfl⟩,_,e,_,rfl,C9,grownCap_le_maxLen w (n+m) cap e (by unfold maxLen;omega),heap_alloc_new w.drew _,?_,?_⟩
  ·simp only[DI,my,size_zeroCells,hzs,zV,hl,←aX]
   exact bY _ (by omega)
  ·have e1:(n+m)*j.size=(cur.toList.take (n*j.size)++news).length:=by rw[cN,zV,hl,aX]
   simp only[Ig]
   rw[e1]
   exact sU
theorem appR_ok(tok:TOk P tb){ev:Operand→D}{t e:TypeId}{ti j:TyE}{x y:Operand}{k n ky:Nat}{ds news:List D}(ht:tb t=some ti)(he:tb e=some j)(hk:hp.vars.lookup k=some ds)(hy:hp.vars.lookup ky=some news)(hx:ev x=.gw k j.size n)(hyy:ev y=.gw ky j.size 1)(hl:ds.length=n*j.size)(Mg:news.length=j.size)(hb:(n+1)*max 1 j.bytes≤140737488355328)
  (uK:ti.ty=.slice e:=by exact rfl) (hz:Nat.ble 1 j.size=true:=by exact rfl):
  oA P ⟨dst,.call ⟨.builtin .append,#[x,y],#[t,t]⟩,ty,pos,af,gd⟩ ev hp (.gw hp.next j.size (n+1)) (hp.re k (ds++news)):=by
 have hz:=cD hz
 refine .step fun B g w a hr vX=>?_
 ·have h1:=vX x (cm (by simp))
  have h2:=vX y (cm (by simp))
  rw[hx] at h1
  rw[hyy] at h2
  obtain⟨q1,q2,q3,cs,tt,q4,q5,q6⟩:=hr.var k ds hk
  obtain⟨y1,y2,y3,ys,yt,y4,y5,y6⟩:=hr.var ky news hy
  generalize hv1:a.eval x=v1 at h1
  generalize hv2:a.eval y=v2 at h2
  cases h1 with
  |gw _ _ _ cap AU oo nR hs=>
  cases h2 with
  |gw _ _ _ c hkn2 hnc2 hcm2 Oi=>
  obtain⟨uj,tt',l',h3,h4⟩:=hs
  rw[q4] at h3
  injection h3 with h3
  injection h3 with h3 h5 h6
  subst h3;subst h5;subst h6
  have qG:∀i u,(ys.toList.take j.size)[i]? =some u→w.cell? ((⟨g.μ ky,0,none⟩:Addr).add i)=some u:=fun i u hu=>by
   rw[fY] at hu
   split at hu
   ·rw[Addr.add_lit]
    simpa[World.cell?,y4] using hu
   ·cases hu
  have hyone:∀u∈ys.toList.take j.size,u.oneCell'=true:=fun u hu=>by
   obtain⟨i,hi⟩:=sT hu
   rw[fY] at hi
   split at hi
   ·rename_i bh
    exact (y6 i u (by simpa using hi)).1 (by omega)
   ·cases hi
  obtain⟨v',w',b,bm,rX⟩:=EN tok ht uK he hz w ty tt (g.μ k) n cap cs q4 oo nR h4 ⟨g.μ ky,0,none⟩ 1 c (ys.toList.take j.size) (by rw[cz,dY];omega) qG hyone (by omega) hb
  obtain⟨cs2,tt2,cap2,vk,HK,ui,hh2,hc3,Qn⟩:=rX.row
  have hlen:(ds++news).length=(n+1)*j.size:=by rw[cN,hl,Mg,aX,dq]
  have IW:(n+1)*j.size≤cap2*j.size:=bY _ HK
  have hHR:HR B (hp.re k (ds++news)) (g.var hp.next b) w':=hr.re hk _ rX.size rX.old rX.sz rX.blk cs2 tt2 hh2 (by rw[hlen];omega) (fun i u hu=>by
   have hwin:i<(n+1)*j.size→(cs.toList.take (n*j.size)++ys.toList.take j.size)[i]? =some u:=fun hi=>by
    rw[←Qn,fY,an hi];simpa using hu
   have SH:(cs.toList.take (n*j.size)).length=n*j.size:=by rw[cz,dY];omega
   have look:∀hi:i<(n+1)*j.size,(i<n*j.size∧cs[i]? =some u)∨(n*j.size≤i∧i - n*j.size<j.size∧ys[i - n*j.size]? =some u):=fun hi=>by
    have h:=hwin hi
    rcases bO i (n*j.size) with bh|C9
    ·rw[uQ (by omega),fY,an bh] at h
     exact .inl ⟨bh,by simpa using h⟩
    ·rw[rH (by omega),SH,fY] at h
     rw[aX,dq] at hi
     rw[ifp_] at h
     exact .inr ⟨C9,by omega,by simpa using h⟩
   refine⟨fun hi=>?_,fun d hd=>?_⟩
   ·rw[hlen] at hi
    rcases look hi with⟨h5,h6⟩|⟨h5,h6,h7⟩
    ·exact (q6 i u h6).1 (by omega)
    ·exact (y6 _ u h7).1 (by omega)
   ·have hi:i<(n+1)*j.size:=by rw[←hlen];exact (lV.1 hd).1
    rcases look hi with⟨h5,h6⟩|⟨h5,h6,h7⟩
    ·rw[uQ (by omega)] at hd
     exact (q6 i u h6).2 d hd
    ·rw[rH (by omega),hl] at hd
     exact (y6 _ u h7).2 d hd)
  refine⟨v',g.var hp.next b,w',?_,hHR,bu.re hr hk _ rX.size rX.old rX.sz rX.blk,?_,⟨rX.rest.1,rX.rest.2.1,rX.rest.2.2,rX.size,fun c hc=>rX.old c (bC hc hr.base) (by omega)⟩,fun p h5 h6=>.inl h6⟩
  ·simp only[execOp,Array.map_map,Ih,gZ,pN,resolve,invoke,builtin,hv1,hv2,Sem.run_bind]
   simp[resolve,invoke,builtin,hv1,hv2,bm]
  ·subst vk
   have xy:(g.var hp.next b).μ hp.next=b:=an rfl
   have:=aF.gw (hp:=hp.re k (ds++news)) (g:=g.var hp.next b) (w:=w') hp.next j.size (n+1) cap2 (dH _) HK ui ⟨cs2,tt2,(0,0),by rw[xy];exact hh2,hc3⟩
   rwa[xy] at this
end
end
section
section
variable {P:Program} {tb:TypeId→Option TyE} {md:Md} {B:Nat} {hp hp':Hp} {g:Gh} {w w':World} {d:D} {v:Value}
theorem appN(tok:TOk P tb){ev:Operand→D}{dst:Option Tmp}{ty:TypeId}{pos:String}{af:Array Edge}{gd:Option (Nat×Bool)}{t e:TypeId}{ti j:TyE}{x y:Operand}{ky:Nat}{news:List D}(ht:tb t=some ti)(he:tb e=some j)(hy:hp.vars.lookup ky=some news)(hx:ev x=.e (.lit (.slice none 0 0)))(hyy:ev y=.gw ky j.size 1)(Mg:news.length=j.size)(hb:1*max 1 j.bytes≤140737488355328)
  (uK:ti.ty=.slice e:=by exact rfl) (hz:Nat.ble 1 j.size=true:=by exact rfl):
  mz P tb md ⟨dst,.call ⟨.builtin .append,#[x,y],#[t,t]⟩,ty,pos,af,gd⟩ ev hp (.gw hp.next j.size 1) (hp.var news):=by
 have hz:=cD hz
 refine⟨.step fun B g w a hr vX=>?_,fun hq=>?_,fun _=>⟨eQ _,fun j hj=>al (by omega)⟩,fun h=>by cases h⟩
 ·have h1:=vX x (cm (by simp))
  have h2:=vX y (cm (by simp))
  rw[hx] at h1
  rw[hyy] at h2
  have h1:=h1.lit
  obtain⟨y1,y2,y3,ys,yt,y4,y5,y6⟩:=hr.var ky news hy
  generalize hv2:a.eval y=v2 at h2
  cases h2 with
  |gw _ _ _ c hkn2 hnc2 hcm2 Oi=>
  obtain⟨f,zz,Oo,Kd,S8,hf3,S7,_⟩:=tok.inf he
  have hu:=tok.slice ht uK
  have hzs:zz.cells.size=j.size:=by
   have h4:=(tok e j he).2.2.1
   rw[←dY,S7,h4]
  have C4:f.bytes≤140737488355328:=by rw[S8];omega
  have qG:∀i u,(ys.toList.take j.size)[i]? =some u→w.cell? ((⟨g.μ ky,0,none⟩:Addr).add i)=some u:=fun i u hu=>by
   rw[fY] at hu
   split at hu
   ·rw[Addr.add_lit]
    simpa[World.cell?,y4] using hu
   ·cases hu
  have C3:(ys.toList.take j.size).length=j.size:=by rw[cz,dY];omega
  have bm:=run_append_nil (P:=P) w t ty e f zz hu Oo hf3 ⟨g.μ ky,0,none⟩ 1 c (ys.toList.take j.size) (by rw[Kd,C3];omega) qG (by omega) (by omega) (by omega)
  have C9:=grownCap_ge w 1 0 e
  have hold:∀c,c<w.heap.size→(w.drew.alloc (.cells ((ys.toList.take j.size).toArray++Builtin.zeroCells zz.cells (grownCap w 1 0 e - 1)) e)).heap[c]? =w.heap[c]? :=fun c hc=>heap_alloc_old w.drew _ hc
  have uh:=heap_alloc_new w.drew (.cells ((ys.toList.take j.size).toArray++Builtin.zeroCells zz.cells (grownCap w 1 0 e - 1)) e)
  have mo:=bu.addVar (w:=w) (w':=w.drew.alloc (.cells ((ys.toList.take j.size).toArray++Builtin.zeroCells zz.cells (grownCap w 1 0 e - 1)) e)) hp g news (b:=w.heap.size) (by simp) hold (aC _)
  have hsz:((ys.toList.take j.size).toArray++Builtin.zeroCells zz.cells (grownCap w 1 0 e - 1)).size=grownCap w 1 0 e*j.size:=by
   simp only[DI,my,size_zeroCells,hzs,C3]
   have:grownCap w 1 0 e=1+(grownCap w 1 0 e - 1):=by omega
   rw[this,aX,dq]
   congr 2
   omega
  have h1z:1*j.size≤grownCap w 1 0 e*j.size:=bY _ C9
  refine⟨.slice (some ⟨w.heap.size,0,none⟩) 1 (grownCap w 1 0 e),g.var hp.next w.heap.size,_,?_,hr.addVar news (w':=w.drew.alloc (.cells ((ys.toList.take j.size).toArray++Builtin.zeroCells zz.cells (grownCap w 1 0 e - 1)) e)) (by simp) hold (aC _) _ e uh (by rw[hsz,Mg];omega) (fun i u hu=>?_),mo,?_,⟨rfl,rfl,rfl,by simp,fun c hc=>hold c (bC hc hr.base)⟩,fun p h5 h6=>.inl h6⟩
  ·simp only[execOp,Array.map_map,Ih,gZ,pN,resolve,invoke,builtin,h1,hv2,Sem.run_bind]
   simp[resolve,invoke,builtin,h1,hv2,bm]
  ·have HH:i<news.length→ys[i]? =some u:=fun hi=>by
    have sM:i<(ys.toList.take j.size).toArray.size:=by rw[my,C3];omega
    rw[An sM,D2,fY,ifp_] at hu
    simpa using hu
   exact⟨fun hi=>(y6 i u (HH hi)).1 hi,fun d hd=>((y6 i u (HH (lV.1 hd).1)).2 d hd).mono mo⟩
  ·have xy:(g.var hp.next w.heap.size).μ hp.next=w.heap.size:=an rfl
   have:=aF.gw (hp:=hp.var news) (g:=g.var hp.next w.heap.size) (w:=w.drew.alloc (.cells ((ys.toList.take j.size).toArray++Builtin.zeroCells zz.cells (grownCap w 1 0 e - 1)) e)) hp.next j.size 1 (grownCap w 1 0 e) (dH _) C9 (grownCap_le_maxLen w 1 0 e (by decide)) ⟨_,e,(0,0),by rw[xy];exact uh,by rw[hsz];exact aC _⟩
   rwa[xy] at this
 ·exfalso
  cases md with
  |seq=>cases hq
  |any L=>
   have h1:((qz (.call ⟨.builtin .append,#[x,y],#[t,t]⟩)&&!Sq tb (.call ⟨.builtin .append,#[x,y],#[t,t]⟩))||xb tb L (.call ⟨.builtin .append,#[x,y],#[t,t]⟩))=true:=hq
   simp[qz,xb] at h1
def Fv(hp:Hp)(g:Gh):Addr→Prop:=fun p=>g.F p∧∀k ds,hp.vars.lookup k=some ds→g.μ k≠p.block
def AR(hp:Hp)(d d':D):Prop:=∀(B:Nat) (g:Gh) (w:World) (v:Value),HR B hp g w→aF hp g w d v→kW w (Fv hp g) d' v
theorem AR.data(h:d.ex.pure=true):AR hp d d.ex:=fun _ _ _ _ _ hd=>(hd.xport h).less fun _ hp=>hp.1
theorem AR.sl {k z n off:Nat}{F:List E}(hv:hp.vars.lookup k=some (dC F))(hz:0<z)(hl:off+n*z≤F.length):AR hp (.ow k off z n) (.e (.sl z n ((F.drop off).take (n*z)))):=by
 intro B g w v hr hd
 obtain⟨h1,h2,h3,cs,ty,h4,h5,h6⟩:=hr.var k _ hv
 rw[fH] at h5
 cases hd with
 |ow _ _ _ _ c hk oo nR=>
  refine .e _ _ (.sl z n _ (some ⟨g.μ k,off,none⟩) c (fun i=>cs.getD (off+i) undef) (by rw[cz,fZ];omega) hz oo nR (fun _=>⟨_,rfl,(dW.1 h4).1⟩) (fun ad ha i e hi=>?_) (fun i e hi=>?_))
  ·injection ha with ha
   subst ha
   have sM:i<n*z:=by
    have:=(lV.1 hi).1
    rw[cz] at this;omega
   have Mr:(⟨g.μ k,off,none⟩:Addr).add i=⟨g.μ k,off+i,none⟩:=by unfold Addr.add;split <;> simp_all
   refine⟨?_,fun hf=>hf.2 k _ hv (by rw[iX])⟩
   rw[Mr]
   have bh:off+i<cs.size:=by omega
   simp[World.cell?,h4,e7,bh]
  ·have sM:i<n*z:=by
    have:=(lV.1 hi).1
    rw[cz] at this;omega
   have bh:off+i<cs.size:=by omega
   rw[fY,an sM,nt] at hi
   have hu:=h6 (off+i) (cs.getD (off+i) undef) (by simp[e7,bh])
   have:=hu.2 (.e e) (by unfold dC;rw[bE,hi];rfl)
   cases this with
   |e _ _ h7=>exact h7.less fun p hp=>hp.1
def ARs(hp:Hp):List D→List D→Prop
 |[],[]=>True
 |d::ds,e::es=>AR hp d e∧ARs hp ds es
 |_,_=>False
theorem ARs.get:∀{ds es:List D},ARs hp ds es→ds.length=es.length∧∀(j:Nat) (e:D),es[j]? =some e→∃d,ds[j]? =some d∧AR hp d e
 |[],[],_=>⟨rfl,fun j e h=>by simp at h⟩
 |d::ds,e::es,⟨h1,h2⟩=>by
  obtain⟨h3,h4⟩:=ARs.get h2
  refine⟨by simp[h3],fun j x hx=>?_⟩
  cases j with
  |zero=>simp at hx;subst hx;exact⟨d,rfl,h1⟩
  |succ j=>exact h4 j x (by simpa using hx)
 |[],_::_,h=>h.elim
 |_::_,[],h=>h.elim
theorem AR.ag {ds es:List D}(h:ARs hp ds es):AR hp (.ag ds) (.ag es):=by
 intro B g w v hr hd
 obtain⟨h1,h2⟩:=h.get
 cases hd with
 |ag _ cs hl ho IV=>
  refine .ag es cs (by omega) ho fun j e u hj hu=>?_
  obtain⟨d,h3,h4⟩:=h2 j e hj
  exact h4 B g w u hr (IV j d u h3 hu)
def D.flatC:D→Bool
 | .e (.lit _)=>true
 |_=>false
def D.flat1:D→Bool
 | .ag ds=>ds.all D.flatC
 |d=>d.flatC
def D.flat:D→Bool
 | .tu ds=>ds.all D.flat1
 |d=>d.flat1
theorem Kk {F:Addr→Prop}(h:kW w F d v)(hf:d.flatC=true)(hp:Hp)(g:Gh)(w':World):aF hp g w' d v:=by
 cases h with
 |e x v h=>
  cases x with
  |lit u=>cases h with|lit _ ho=>exact .e _ _ (.lit _ ho)
  |_=>cases hf
 |_=>cases hf
theorem Kl {F:Addr→Prop}(h:kW w F d v)(hf:d.flat1=true)(hp:Hp)(g:Gh)(w':World):aF hp g w' d v:=by
 cases d with
 |ag ds=>
  cases h with
  |ag _ cs hl ho IV=>exact .ag ds cs hl ho fun j d u hj hu=>Kk (IV j d u hj hu) (bx.1 hf d (bL hj)) hp g w'
 |_=>exact Kk h hf hp g w'
theorem flat_to {F:Addr→Prop}(h:kW w F d v)(hf:d.flat=true)(hp:Hp)(g:Gh)(w':World):aF hp g w' d v:=by
 cases d with
 |tu ds=>
  cases h with
  |tu _ cs hl IV=>exact .tu ds cs hl fun j d u hj hu=>Kl (IV j d u hj hu) (bx.1 hf d (bL hj)) hp g w'
 |_=>exact Kl h hf hp g w'
theorem PA(hr:HR B hp g w):∀p:Addr,Fv hp g p→p.block<w.heap.size:=fun p h=>hr.fits p h.1
theorem Ai {f:FuncId}{ds ds':List D}{r:D}(hc:ar P f ds' r)(ha:ARs hp ds ds'){vs:Array Value}(hr:HR B hp g w)(hsz:vs.size=ds.length)(cJ:∀(j:Nat) (d:D) (u:Value),ds[j]? =some d→vs[j]? =some u→aF hp g w d u):
  Calls P f vs w fun e w'=>∃v,e=.returned v∧uk w.heap.size (Fv hp g) w' r v∧Below w.heap.size w w':=by
 obtain⟨h1,h2⟩:=ha.get
 refine hc.2 w _ vs (PA hr) (by omega) fun j e u hj hu=>?_
 obtain⟨d,h3,h4⟩:=h2 j e hj
 exact h4 B g w u hr (cJ j d u h3 hu)
theorem HC.frz {f:FuncId}{ds ds':List D}{r:D}(hc:ar P f ds' r)(ha:ARs hp ds ds')(hf:r.flat=true):HC P f ds hp r hp:=by
 refine⟨hc.1,fun B g w vs hr hsz cJ=>(Ai hc ha hr hsz cJ).mono ?_⟩
 rintro e w' ⟨v,rfl,l4,hb⟩
 have SL:kW w' (Fv hp g) r v:=by
  unfold uk at l4
  split at l4
  ·cases hf
  ·exact l4
 exact⟨v,g,rfl,hr.keep hb.size hb.block,bu.keep hp g hb.size hb.block,flat_to SL hf hp g w',hb.mono hr.base,fun _ _ h=>h⟩
def E.isLit:E→Bool
 | .lit _=>true
 |_=>false
theorem HC.adopt {f:FuncId}{ds ds':List D}{e z n:Nat}{xs:List E}(hc:ar P f ds' (.own e z n xs))(ha:ARs hp ds ds')(hn:0<n)(hx:xs.all E.isLit=true):HC P f ds hp (.gw hp.next z n) (hp.var (dC xs)):=by
 refine⟨hc.1,fun B g w vs hr hsz cJ=>(Ai hc ha hr hsz cJ).mono ?_⟩
 rintro en w' ⟨v,rfl,⟨hz,⟨us,ho⟩,l4⟩,hb⟩
 rcases ho.2 with⟨rfl,rfl⟩|⟨b,cap,cur,rfl,hB,hh,oo,nR,q9,SH⟩
 ·omega
 have zV:xs.length=n*z:=by cases l4 with|sl _ _ _ _ _ _ hl=>exact hl
 have Le:=ho.1
 have hns:n*z≤cap*z:=bY _ oo
 have mo:=bu.addVar hp g (dC xs) hb.size hb.block hB
 have xy:(g.var hp.next b).μ hp.next=b:=an rfl
 have cells:∀(i:Nat) (u:Value),cur[i]? =some u→∀x,xs[i]? =some x→∃y,x=.lit y∧u=y∧y.oneCell'=true:=fun i u hu x hxi=>by
  have hlit:x.isLit=true:=bx.1 hx x (bL hxi)
  cases l4 with
  |sl _ _ _ _ _ us2 _ _ _ _ hA FP IV=>
   obtain⟨h5,_⟩:=FP _ rfl i x hxi
   have h6:w'.cell? ((⟨b,0,none⟩:Addr).add i)=cur[i]? :=by rw[Addr.add_lit];simp[World.cell?,hh]
   rw[h6,hu] at h5
   injection h5 with h5
   have h7:=IV i x hxi
   rw[←h5] at h7
   cases x with
   |lit y=>cases h7 with|lit _ ho=>exact⟨_,rfl,rfl,ho⟩
   |_=>cases hlit
 refine⟨_,g.var hp.next b,rfl,hr.addVar (dC xs) hb.size hb.block hB cur e hh (by rw[fH,zV,q9];exact hns) (fun i u hu=>⟨fun hi=>?_,fun d hd=>?_⟩),mo,?_,hb.mono hr.base,fun p _ h=>.inl h⟩
 ·rw[fH] at hi
  obtain⟨y,_,rfl,h⟩:=cells i u hu xs[i] (eG hi)
  exact h
 ·unfold dC at hd
  rw[bE] at hd
  obtain⟨x,BU,rfl⟩:=rG.1 hd
  obtain⟨y,rfl,rfl,h⟩:=cells i u hu x BU
  exact .e _ _ (.lit _ h)
 ·have:=aF.gw (hp:=hp.var (dC xs)) (g:=g.var hp.next b) (w:=w') hp.next z n cap (dH _) oo nR ⟨cur,e,(0,0),by rw[xy];exact hh,by omega⟩
  rwa[xy] at this
end
end
section
section
variable {P:Program} {tb:TypeId→Option TyE} {md:Md} {hp hp':Hp} {d:D} {dst:Option Tmp} {ty:TypeId} {pos:String} {af:Array Edge} {gd:Option (Nat×Bool)} {ev:Operand→D}
theorem PY {x:Operand}{f:FuncId}{aS:List Operand}{ts:Array TypeId}{ds:List D}(uL:ev x=.e (.lit (.func (.func f) #[] #[])))(hc:HC P f ds hp d hp')(hd:aS.map ev=ds):oA P ⟨dst,.call ⟨.value x,aS.toArray,ts⟩,ty,pos,af,gd⟩ ev hp d hp':=by
 intro B g w a Kn Q hr hx AU
 subst hd
 obtain⟨⟨fn,hf,hn,A1⟩,qI⟩:=hc
 have hv:=hx x (by simp[Op.operands,Call.operands])
 rw[uL] at hv
 have hv:=hv.lit
 have wV:=qI B g w (aS.map a.eval).toArray hr (by simp) (fun j d u hd hu=>by
  rw[bE] at hd
  obtain⟨y,hy,rfl⟩:=rG.1 hd
  have te:(aS.map a.eval)[j]? =some u:=by simpa using hu
  rw[bE,hy] at te
  injection te with te
  subst te
  exact hx y (cm (by simpa using bL hy)))
 refine Di (R:=fun v w'=>∃g',HR B hp' g' w'∧bu hp g w hp' g' w'∧aF hp' g' w' d v∧Below B w w'∧∀p:Addr,p.block<B→g.F p→g'.F p) ?_ (wV.mono ?_) ?_
 ·have hn' : fn.name ≠ "runtime.NumGoroutine" := by simpa using hn
  have pK:¬fn.body=none:=fun e=>by rw[e] at A1;cases A1
  have hcf:(callFunc f (aS.map a.eval).toArray).run P w=.ok (.enter f (aS.map a.eval).toArray) w:=by
   simp[callFunc,hf,hn',pK]
  rw[←hcf]
  simp[execOp,resolve,invoke,Deferred.ofValue,hv]
 ·rintro e w' ⟨v,g',rfl,h1⟩
  exact⟨v,rfl,g',h1⟩
 ·rintro v w' ⟨g',h1,h2,h3,h4,h5⟩
  exact AU v g' w' h1 h2 h3 h4 h5
theorem opHF {x:Operand}{f:FuncId}{ks:List Nat}{aS:List Operand}{ts:Array TypeId}{ds:List D}(uL:ev x=.fn f ks)(hc:HC P f ds hp d hp')(hd:aS.map ev++ks.map (fun k=>D.pt k 0)=ds):oA P ⟨dst,.call ⟨.value x,aS.toArray,ts⟩,ty,pos,af,gd⟩ ev hp d hp':=by
 intro B g w a Kn Q hr hx AU
 subst hd
 obtain⟨⟨fn,hf,hn,A1⟩,qI⟩:=hc
 have hv:=hx x (by simp[Op.operands,Call.operands])
 rw[uL] at hv
 generalize hu0:a.eval x=u0 at hv
 cases hv with
 |fn _ _ Qj=>
 have wV:=qI B g w (aS.map a.eval++ks.map fun k=>Value.pointer (some ⟨g.μ k,0,none⟩)).toArray hr (by simp) (fun j d u hd hu=>by
  have te:(aS.map a.eval++ks.map fun k=>Value.pointer (some ⟨g.μ k,0,none⟩))[j]? =some u:=by simpa using hu
  rcases bO j aS.length with hj|hj
  ·rw[uQ (by simpa using hj),bE] at hd te
   obtain⟨y,hy,rfl⟩:=rG.1 hd
   rw[hy] at te
   injection te with te
   subst te
   exact hx y (cm (by simpa using bL hy))
  ·rw[rH (by simpa using hj),bE] at hd te
   obtain⟨k,hk,rfl⟩:=rG.1 hd
   simp only[bc] at hk te
   rw[hk] at te
   injection te with te
   subst te
   exact .pt k 0 (Qj k (bL hk)))
 refine Di (R:=fun v w'=>∃g',HR B hp' g' w'∧bu hp g w hp' g' w'∧aF hp' g' w' d v∧Below B w w'∧∀p:Addr,p.block<B→g.F p→g'.F p) ?_ (wV.mono ?_) ?_
 ·have hn' : fn.name ≠ "runtime.NumGoroutine" := by simpa using hn
  have pK:¬fn.body=none:=fun e=>by rw[e] at A1;cases A1
  have hcf:(callFunc f (aS.map a.eval++ks.map fun k=>Value.pointer (some ⟨g.μ k,0,none⟩)).toArray).run P w=.ok (.enter f (aS.map a.eval++ks.map fun k=>Value.pointer (some ⟨g.μ k,0,none⟩)).toArray) w:=by
   simp[callFunc,hf,hn',pK]
  have rx:(aS.map a.eval++ks.map fun k=>Value.pointer (some ⟨g.μ k,0,none⟩)).toArray=aS.toArray.map a.eval++(ks.map fun k=>Value.pointer (some ⟨g.μ k,0,none⟩)).toArray:=by apply j6.1;simp
  rw[←hcf,rx]
  simp[execOp,resolve,invoke,Deferred.ofValue,hu0]
 ·rintro e w' ⟨v,g',rfl,h1⟩
  exact⟨v,rfl,g',h1⟩
 ·rintro v w' ⟨g',h1,h2,h3,h4,h5⟩
  exact AU v g' w' h1 h2 h3 h4 h5
theorem sndOf {c:Call}{x:Operand}(FP:c.callee=.value x)(h:oA P ⟨dst,.call c,ty,pos,af,gd⟩ ev hp d hp')(S5:hvB tb c=true∨Fr hp hp')(hn:md.nc tb (.call c)=true):mz P tb md ⟨dst,.call c,ty,pos,af,gd⟩ ev hp d hp':=by
 refine⟨h,fun hq=>?_,fun hv=>?_,fun h=>by cases h⟩
 ·exfalso
  cases md with
  |seq=>cases hq
  |any L=>
   have h1:((qz (.call c)&&!Sq tb (.call c))||xb tb L (.call c))=true:=hq
   have h2:(!inL L (.call c))=true:=hn
   rw[ww] at h2
   have h2:=CV (tb:=tb) h2
   rw[h2,Bool.or_false] at h1
   simp[qz,FP] at h1
 ·rcases S5 with h1|h1
  ·have h2:(hvB tb c||cpB tb c)=false:=Md.vr_C hn hv
   rw[h1] at h2;cases h2
  ·exact h1
theorem sndF {c:Call}{x:Operand}(FP:c.callee=.value x)(h:oA P ⟨dst,.call c,ty,pos,af,gd⟩ ev hp d hp')(hv:hvB tb c=true)(S5:Fr hp hp'):mz P tb md ⟨dst,.call c,ty,pos,af,gd⟩ ev hp d hp':=by
 refine⟨h,fun hq=>?_,fun _=>S5,fun h=>by cases h⟩
 exfalso
 cases md with
 |seq=>cases hq
 |any L=>
  have h1:((qz (.call c)&&!Sq tb (.call c))||((match c.callee with| .value (.func f)=>L.elem f|_=>false)&&!hvB tb c))=true:=hq
  rw[hv] at h1
  simp[qz,FP] at h1
theorem sHCf {x:Operand}{f:FuncId}{aS:List Operand}{ts:Array TypeId}{ds:List D}(hc:HC P f ds hp d hp')(hd:aS.map ev=ds)(S5:Fr hp hp')(uL:ev x=.e (.lit (.func (.func f) #[] #[])):=by exact rfl)(hv:hvB tb ⟨.value x,aS.toArray,ts⟩=true:=by exact rfl):
  mz P tb md ⟨dst,.call ⟨.value x,aS.toArray,ts⟩,ty,pos,af,gd⟩ ev hp d hp':=sndF rfl (PY uL hc hd) hv S5
theorem sHC {x:Operand}{f:FuncId}{aS:List Operand}{ts:Array TypeId}{ds:List D}(hc:HC P f ds hp d hp')(hd:aS.map ev=ds)(S5:hvB tb ⟨.value x,aS.toArray,ts⟩=true∨Fr hp hp')(uL:ev x=.e (.lit (.func (.func f) #[] #[])):=by exact rfl)(hn:md.nc tb (.call ⟨.value x,aS.toArray,ts⟩)=true:=by exact rfl):
  mz P tb md ⟨dst,.call ⟨.value x,aS.toArray,ts⟩,ty,pos,af,gd⟩ ev hp d hp':=sndOf rfl (PY uL hc hd) S5 hn
theorem sHF {x:Operand}{f:FuncId}{ks:List Nat}{aS:List Operand}{ts:Array TypeId}{ds:List D}(hc:HC P f ds hp d hp')(hd:aS.map ev++ks.map (fun k=>D.pt k 0)=ds)(uL:ev x=.fn f ks:=by exact rfl)(S5:hvB tb ⟨.value x,aS.toArray,ts⟩=true:=by exact rfl)(hn:md.nc tb (.call ⟨.value x,aS.toArray,ts⟩)=true:=by exact rfl):
  mz P tb md ⟨dst,.call ⟨.value x,aS.toArray,ts⟩,ty,pos,af,gd⟩ ev hp d hp':=sndOf rfl (opHF uL hc hd) (.inl S5) hn
end
structure Pt(F:List D)(o:Nat)(bs:List D)(F':List D→List D):Prop where
 le:o+bs.length≤F.length
 g:(F.drop o).take bs.length=bs
 p:∀ys:List D,ys.length=bs.length→F.take o++ys++F.drop (o+bs.length)=F' ys
theorem Pt.of {F bs:List D}{o:Nat}{F':List D→List D}(A C:List D)(hA:A.length=o)(hF:F=A++bs++C)(hp:∀y,F' y=A++y++C):Pt F o bs F':=by
 subst hA hF
 refine⟨by simp only[cN];omega,?_,fun y hy=>?_⟩
 ·rw[bP,pO,sU]
 ·rw[hp,bP A bs C,sU,←j7,pO,pO]
section
variable {P:Program} {tb:TypeId→Option TyE} {dr:Bool} {ty:TypeId} {ev:Operand→D} {hp:Hp} {k o:Nat} {F bs:List D} {F':List D→List D} {t:TypeId} {i:TyE} {x y:Operand} {d:D}
theorem UF(L:Pt F o bs F')(hv:hp.vars.lookup k=some F)(hk:k<hp.next)(ht:tb t=some i)(hz:bs.length=i.size)(hg:i.ty.agg=true:=by exact rfl)(hx:ev x=.pt k o:=by exact rfl):AVC P tb dr (.load t x) ty ev hp (Kq (.ag bs) hp):=by
 rw[rE,hx,nP,ht,hv]
 simp only[hg]
 refine⟨hk,by rw[←hz];exact L.le,?_⟩
 rw[←hz,L.g]
 exact Kq.here _ _
theorem UG(L:Pt F o [d] F')(hv:hp.vars.lookup k=some F)(hk:k<hp.next)(ht:tb t=some i)(hg:i.ty.agg=false:=by exact rfl)(hx:ev x=.pt k o:=by exact rfl):AVC P tb dr (.load t x) ty ev hp (Kq d hp):=by
 rw[rE,hx,nP,ht,hv]
 simp only[hg]
 refine⟨hk,d,?_,Kq.here _ _⟩
 have h:=L.g
 have hle:=L.le
 have:((F.drop o).take 1)[0]? =some d:=by rw[show (1:Nat)=[d].length from rfl,h];rfl
 rw[fY,ifp_,nt,i9] at this
 exact this
theorem O3 {ys F2:List D}{hp':Hp}(L:Pt F o bs F')(hv:hp.vars.lookup k=some F)(hyc:(ev y).cells=some ys)(ht:tb t=some i)(hz:bs.length=i.size)(hl:ys.length=bs.length)(h2:F' ys=F2)(hx:ev x=.pt k o:=by exact rfl)(he:hp.set k F2=hp':=by exact rfl):AVC P tb dr (.store t x y) ty ev hp (Kq .top hp'):=by
 subst he h2
 rw[DD,hx,zq,ht,hv,hyc]
 simp only
 refine⟨by omega,by rw[←hz];exact L.le,?_⟩
 rw[hl,L.p ys hl]
 exact Kq.here _ _
end
end
section
class eH where
 M:Nat
inductive T where
 |int (k:IntKind)
 |bool
 |str
 |sl (t:T)
 |arr (n:Nat) (t:T)
 |st (i:Nat)
 deriving DecidableEq
structure SD where
 A:Nat→Type
 inh:(i:Nat)→Inhabited (A i)
 c:(i:Nat)→Cd (A i)
def T.den(S:SD):T→Type
 | .int _=>Int
 | .bool=>Bool
 | .str=>ByteArray
 | .sl t=>List (t.den S)
 | .arr n t=>Vector (t.den S) n
 | .st i=>S.A i
def T.cd(S:SD):(t:T)→Cd (t.den S)
 | .int k=>cI k
 | .bool=>cB
 | .str=>cS
 | .sl t=>cL (t.cd S)
 | .arr n t=>cA n (t.cd S)
 | .st i=>S.c i
@[reducible] def T.inh(S:SD):(t:T)→Inhabited (t.den S)
 | .int _=>(inferInstance:Inhabited Int)
 | .bool=>(inferInstance:Inhabited Bool)
 | .str=>(inferInstance:Inhabited ByteArray)
 | .sl t=>(inferInstance:Inhabited (List (t.den S)))
 | .arr n t=>(letI:=t.inh S;(inferInstance:Inhabited (Vector (t.den S) n)))
 | .st i=>S.inh i
def T.agg:T→Bool
 | .arr _ _=>true
 | .st _=>true
 |_=>false
section
variable [eH] {S:SD}
def gE(t:T)(l:List (t.den S))(i:Nat):t.den S:=letI:=t.inh S;l[i]!
def gV(t:T){n:Nat}(l:Vector (t.den S) n)(i:Nat):t.den S:=letI:=t.inh S;l[i]!
inductive Stp where
 |f (i o:Nat)
 |x (n i z:Nat) (h:i<n)
def Stp.off:Stp→Nat
 | .f _ o=>o
 | .x _ i z _=>i*z
def xT:List Stp→Nat
 |[]=>0
 |s::p=>xT p+s.off
def CC:List Stp→Nat
 |[]=>0
 |s::p=>s.off+CC p
theorem JE:∀(p q:List Stp),CC (p++q)=CC p+CC q
 |[],q=>by show CC q=0+CC q;omega
 |s::p,q=>by show s.off+CC (p++q)=s.off+CC p+CC q;rw[JE p q];omega
theorem CB:∀p:List Stp,CC p.reverse=xT p
 |[]=>rfl
 |s::p=>by rw[List.reverse_cons,JE,CB p];rfl
inductive TV (S:SD) where
 |v (t:T) (x:t.den S)
 |ag (fs:List (TV S))
 |nil
 |own (id ver:Nat) (t:T) (l:List (t.den S))
 |fu (t:T) (l:List (t.den S))
 |fp (t:T) (l:List (t.den S)) (n:Nat) (h:n<l.length) (u:T) (o:Nat) (y:u.den S) (L:∃F',a8 ((t.cd S).f (gE t l n)) (u.cd S) o y F')
 |pt (k:Nat) (p:List Stp)
 |ow (k:Nat) (p:List Stp) (lo n:Nat) (t:T)
 |tu (l:List (TV S))
 |fn (f:FuncId) (ks:List Nat)
 |fl (f:FuncId)
 |mp
 |top
def vD:(t:T)→t.den S→D
 | .int k,x=>dI k x
 | .bool,x=>dB x
 | .str,x=>dS x
 | .sl t,x=>dL (t.cd S) x
 | .arr n t,x=>dG ((T.arr n t).cd S) x
 | .st i,x=>dG (S.c i) x
mutual
def TV.toD:TV S→D
 | .v t x=>vD t x
 | .ag fs=>.ag (bt fs)
 | .nil=>dN
 | .own id _ t l=>dO id (t.cd S) l
 | .fu t l=>dF (t.cd S) l
 | .fp t l n _ _ o _ _=>.fp (l.flatMap (t.cd S).f) (n*(t.cd S).sz+o)
 | .pt k p=>.pt k (xT p)
 | .ow k p lo n t=>.ow k (xT p+lo*(t.cd S).sz) (t.cd S).sz n
 | .tu l=>.tu (GN l)
 | .fn f ks=>.fn f ks
 | .fl f=>.e (.lit (.func (.func f) #[] #[]))
 | .mp=>.e (.lit (.map (some eH.M)))
 | .top=>.top
def TV.cells:TV S→List D
 | .v t x=>dC ((t.cd S).f x)
 | .ag fs=>bt fs
 | .nil=>[dN]
 | .own id _ t l=>[dO id (t.cd S) l]
 | .fu t l=>[dF (t.cd S) l]
 | .fp t l n _ _ o _ _=>[.fp (l.flatMap (t.cd S).f) (n*(t.cd S).sz+o)]
 | .pt k p=>[.pt k (xT p)]
 | .ow k p lo n t=>[.ow k (xT p+lo*(t.cd S).sz) (t.cd S).sz n]
 | .tu _=>[]
 | .fn f ks=>[.fn f ks]
 | .fl f=>[.e (.lit (.func (.func f) #[] #[]))]
 | .mp=>[.e (.lit (.map (some eH.M)))]
 | .top=>[]
def bt:List (TV S)→List D
 |[]=>[]
 |a::l=>a.cells++bt l
def GN:List (TV S)→List D
 |[]=>[]
 |a::l=>a.toD::GN l
end
def TV.isC:TV S→Bool
 | .tu _=>false
 | .top=>false
 |_=>true
theorem Jh:∀(t:T) (x:t.den S),(vD t x).cells=some (dC ((t.cd S).f x))
 | .int _,_=>rfl
 | .bool,_=>rfl
 | .str,_=>rfl
 | .sl _,_=>rfl
 | .arr _ _,_=>rfl
 | .st _,_=>rfl
theorem TV.toD_cells:∀{a:TV S},a.isC=true→a.toD.cells=some a.cells
 | .v t x,_=>by simp only[TV.toD,TV.cells];exact Jh t x
 | .ag fs,_=>by simp only[TV.toD,TV.cells];rfl
 | .nil,_=>by simp only[TV.toD,TV.cells];rfl
 | .own ..,_=>by simp only[TV.toD,TV.cells];rfl
 | .fu ..,_=>by simp only[TV.toD,TV.cells];rfl
 | .fp ..,_=>by simp only[TV.toD,TV.cells];rfl
 | .pt ..,_=>by simp only[TV.toD,TV.cells];rfl
 | .ow ..,_=>by simp only[TV.toD,TV.cells];rfl
 | .fn ..,_=>by simp only[TV.toD,TV.cells];rfl
 | .fl ..,_=>by simp only[TV.toD,TV.cells];rfl
 | .mp,_=>by simp only[TV.toD,TV.cells];rfl
theorem xa:∀(l m:List (TV S)),bt (l++m)=bt l++bt m
 |[],m=>by simp only[mm,bt]
 |a::l,m=>by simp only[yI,bt];rw[xa l m,bP]
theorem oW(l m:List E):dC (l++m)=dC l++dC m:=lf
structure Fld(S:SD)(i:Nat) where
 u:T
 o:Nat
 get:S.A i→u.den S
 put:S.A i→u.den S→S.A i
 ln:∀x,a8 ((S.c i).f x) (u.cd S) o (get x) (fun y=>(S.c i).f (put x y))
theorem yf {β:Type}{F:List E}{c':Cd β}{o:Nat}{b:β}{F':β→List E}(h:a8 F c' o b F'):∃A C:List E,A.length=o∧F=A++(c'.f b++C)∧∀y,F' y=A++(c'.f y++C):=by
 refine⟨F.take o,F.drop (o+c'.sz),by rw[cz];have:=h.le;omega,?_,fun y=>?_⟩
 ·rw[←h.g,←j7,n9,n9]
 ·rw[←h.p y,bP]
def Cp {i:Nat}:List (Fld S i)→Nat→Nat→Bool
 |[],o,z=>Nat.beq o z
 |F::l,o,z=>Nat.beq F.o o&&Cp l (o+(F.u.cd S).sz) z
def uN {s:Nat}(l:List (Fld S s))(x:S.A s):List (TV S):=l.map fun F=>.v F.u (F.get x)
theorem wZ {s:Nat}(x:S.A s):∀{l:List (Fld S s)} {o:Nat},Cp l o (S.c s).sz=true→bt (uN l x)=dC (((S.c s).f x).drop o)
 |[],o,h=>by
  have ho:o=(S.c s).sz:=f7 h
  rw[ho,uS (by rw[(S.c s).h];exact aC _)]
  simp only[uN,pN,bt];rfl
 |F::l,o,h=>by
  unfold Cp at h
  rw[c8] at h
  have ho:F.o=o:=f7 h.1
  have ih:=wZ x h.2
  obtain⟨A,C,h1,h2,_⟩:=yf (F.ln x)
  have e:bt (uN (F::l) x)=dC ((F.u.cd S).f (F.get x))++bt (uN l x):=by simp only[uN,gZ,bt,TV.cells]
  rw[e,ih,←j7,h2,←ho,←h1,pO,←(F.u.cd S).h (F.get x),pO,←oW]
def reF {s:Nat}(l:List (Fld S s))(x:S.A s)(i:Nat)(F:Fld S s):TV S→Option (TV S)
 | .v u z=>if h:u=F.u then some (.v (.st s) (F.put x (h▸z))) else none
 |w=>if Cp l 0 (S.c s).sz=true then some (.ag ((uN l x).set i w)) else none
section
variable (B:(i:Nat)→List (Fld S i))
mutual
def TV.szB:TV S→Nat
 | .v t _=>(t.cd S).sz
 | .ag fs=>szL fs
 | .tu _=>0
 | .top=>0
 |_=>1
def szL:List (TV S)→Nat
 |[]=>0
 |a::l=>a.szB+szL l
end
mutual
theorem TV.szB_eq:∀a:TV S,a.cells.length=a.szB
 | .v t x=>by simp only[TV.cells,TV.szB];rw[fH,(t.cd S).h]
 | .ag fs=>by simp only[TV.cells,TV.szB];exact GT fs
 | .nil=>by simp only[TV.cells,TV.szB];rfl
 | .own ..=>by simp only[TV.cells,TV.szB];rfl
 | .fu ..=>by simp only[TV.cells,TV.szB];rfl
 | .fp ..=>by simp only[TV.cells,TV.szB];rfl
 | .pt ..=>by simp only[TV.cells,TV.szB];rfl
 | .ow ..=>by simp only[TV.cells,TV.szB];rfl
 | .tu ..=>by simp only[TV.cells,TV.szB];rfl
 | .fn ..=>by simp only[TV.cells,TV.szB];rfl
 | .fl ..=>by simp only[TV.cells,TV.szB];rfl
 | .mp=>by simp only[TV.cells,TV.szB];rfl
 | .top=>by simp only[TV.cells,TV.szB];rfl
theorem GT:∀l:List (TV S),(bt l).length=szL l
 |[]=>by simp only[bt,szL];rfl
 |a::l=>by simp only[bt,szL];rw[cN,TV.szB_eq a,GT l]
end
def sub:List Stp→TV S→Option (TV S)
 |[],a=>some a
 | .f i o::p,.v (.st s) x=>match (B s)[i]? with
  |some F=>if F.o=o then sub p (.v F.u (F.get x)) else none
  |none=>none
 | .x n i z _::p,.v (.arr m t) x=>if n=m∧(t.cd S).sz=z then sub p (.v t (gV t x i)) else none
 | .f i o::p,.ag fs=>match fs[i]? with
  |some w=>if szL (fs.take i)=o then sub p w else none
  |none=>none
 |_,_=>none
def upd:List Stp→TV S→TV S→Option (TV S)
 |[],_,y=>some y
 | .f i o::p,.v (.st s) x,y=>match (B s)[i]? with
  |some F=>if F.o=o then match upd p (.v F.u (F.get x)) y with
   |some w=>reF (B s) x i F w
   |none=>none
   else none
  |none=>none
 | .x n i z _::p,.v (.arr m t) x,y=>if n=m∧(t.cd S).sz=z then match upd p (.v t (gV t x i)) y with
   |some (.v u w)=>if h:u=t then some (.v (.arr m t) (x.set! i (h▸w))) else none
   |_=>none
   else none
 | .f i o::p,.ag fs,y=>match fs[i]? with
  |some w=>if szL (fs.take i)=o then match upd p w y with
   |some w'=>some (.ag (fs.set i w'))
   |none=>none
   else none
  |none=>none
 |_,_,_=>none
theorem gV_ln {t:T}{n i:Nat}(x:Vector (t.den S) n)(h:i<n):a8 (((T.arr n t).cd S).f x) (t.cd S) (i*(t.cd S).sz) (gV t x i) (fun y=>((T.arr n t).cd S).f (x.set! i y)):=by
 letI:=t.inh S
 exact a8.vec (t.cd S) x i h
theorem KX {fs:List (TV S)}{i:Nat}{w:TV S}(h:fs[i]? =some w):bt fs=bt (fs.take i)++(w.cells++bt (fs.drop (i+1)))∧∀w',bt (fs.set i w')=bt (fs.take i)++(w'.cells++bt (fs.drop (i+1))):=by
 obtain⟨hi,hw⟩:=lV.1 h
 constructor
 ·have h1:fs=fs.take i++w::fs.drop (i+1):=by rw[←hw,←Il hi,n9]
  have h2:bt fs=bt (fs.take i++w::fs.drop (i+1)):=congrArg bt h1
  rw[h2,xa]
  simp only[bt]
 ·intro w'
  rw[Ut,an hi,xa]
  simp only[bt]
theorem NO {s:Nat}(x:S.A s){F:Fld S s}:∀{l:List (Fld S s)} {o i:Nat},Cp l o (S.c s).sz=true→l[i]? =some F→szL ((uN l x).take i)+o=F.o
 |G::l,o,0,h,hF=>by
  unfold Cp at h
  rw[c8] at h
  have hF:G=F:=by simpa using hF
  subst hF
  rw[xi]
  simp only[szL]
  have:=f7 h.1
  omega
 |G::l,o,i+1,h,hF=>by
  unfold Cp at h
  rw[c8] at h
  have ih:=NO x h.2 (i:=i) (by simpa using hF)
  have e:(uN (G::l) x).take (i+1)=.v G.u (G.get x)::(uN l x).take i:=rfl
  rw[e]
  simp only[szL,TV.szB]
  omega
 |[],_,_,_,hF=>by simp at hF
theorem PQ {s:Nat}{l:List (Fld S s)}{x:S.A s}{i:Nat}{F:Fld S s}{w a':TV S}{A C:List E}(hF:l[i]? =some F)(h:reF l x i F w=some a')(h4:A.length=F.o)(h5:(S.c s).f x=A++((F.u.cd S).f (F.get x)++C))(h6:∀y,(S.c s).f (F.put x y)=A++((F.u.cd S).f y++C)):a'.cells=dC A++(w.cells++dC C):=by
 unfold reF at h
 split at h
 ·rename_i u z
  split at h
  ·rename_i he
   cases h
   subst he
   simp only[TV.cells]
   show dC ((S.c s).f (F.put x z))=_
   rw[h6,oW,oW]
  ·cases h
 ·split at h
  ·rename_i hs
   cases h
   have h1:=wZ x hs
   rw[pH,h5,oW,oW] at h1
   have h2:(uN l x)[i]? =some (.v F.u (F.get x)):=by
    unfold uN
    rw[bE,hF];rfl
   obtain⟨q1,q2⟩:=KX h2
   simp only[TV.cells] at q1 ⊢
   rw[q1] at h1
   have hl:(bt ((uN l x).take i)).length=(dC A).length:=by
    rw[GT,fH,h4]
    have:=NO x hs hF
    omega
   obtain⟨r1,r2⟩:=xl h1 hl
   have r3:=List.append_cancel_left r2
   rw[q2,r1,r3]
  ·cases h
theorem qh:∀{p:List Stp} {a b:TV S},sub B p a=some b→∃X Y:List D,X.length=CC p∧a.cells=X++(b.cells++Y)∧∀y a',upd B p a y=some a'→a'.cells=X++(y.cells++Y)
 |[],a,b,h=>by
  unfold sub at h
  cases h
  exact⟨[],[],rfl,by simp,fun y a' h=>by unfold upd at h;cases h;simp⟩
 |s::p,a,b,h=>by
  unfold sub at h
  split at h
  ·rename_i h0;cases h0
  ·rename_i i o p' s' x h0
   cases h0
   split at h
   ·rename_i F hF
    split at h
    ·rename_i ho
     obtain⟨X,Y,h1,h2,h3⟩:=qh h
     obtain⟨A,C,h4,h5,h6⟩:=yf (F.ln x)
     refine⟨dC A++X,Y++dC C,?_,?_,fun y a' hu=>?_⟩
     ·rw[cN,fH,h4,h1,ho];rfl
     ·simp only[TV.cells] at h2 ⊢
      show dC ((S.c s').f x)=_
      rw[h5,oW,oW,h2]
      simp only[bP]
     ·unfold upd at hu
      rw[hF] at hu
      dsimp only at hu
      rw[an ho] at hu
      split at hu
      ·rename_i w hw
       rw[PQ hF hu h4 h5 h6,h3 _ _ hw]
       simp only[bP]
      ·cases hu
    ·cases h
   ·cases h
  ·rename_i n i z hi p' m t x h0
   cases h0
   split at h
   ·rename_i hc
    obtain⟨rfl,hz⟩:=hc
    obtain⟨X,Y,h1,h2,h3⟩:=qh h
    obtain⟨A,C,h4,h5,h6⟩:=yf (gV_ln x hi)
    refine⟨dC A++X,Y++dC C,?_,?_,fun y a' hu=>?_⟩
    ·rw[cN,fH,h4,h1,hz];rfl
    ·simp only[TV.cells] at h2 ⊢
     rw[h5,oW,oW,h2]
     simp only[bP]
    ·unfold upd at hu
     rw[an ⟨rfl,hz⟩] at hu
     split at hu
     ·rename_i u w hw
      split at hu
      ·rename_i he
       cases hu
       subst he
       have h7:=h3 _ _ hw
       simp only[TV.cells] at h7 ⊢
       rw[h6,oW,oW,h7]
       simp only[bP]
      ·cases hu
     ·cases hu
   ·cases h
  ·rename_i i o p' fs h0
   cases h0
   split at h
   ·rename_i w hw
    split at h
    ·rename_i ho
     obtain⟨X,Y,h1,h2,h3⟩:=qh h
     obtain⟨h5,h6⟩:=KX hw
     refine⟨bt (fs.take i)++X,Y++bt (fs.drop (i+1)),?_,?_,fun y a' hu=>?_⟩
     ·rw[cN,GT,ho,h1];rfl
     ·simp only[TV.cells]
      rw[h5,h2]
      simp only[bP]
     ·unfold upd at hu
      rw[hw] at hu
      dsimp only at hu
      rw[an ho] at hu
      split at hu
      ·rename_i w' hw'
       cases hu
       simp only[TV.cells]
       rw[h6,h3 _ _ hw']
       simp only[bP]
      ·cases hu
    ·cases h
   ·cases h
  ·cases h
theorem Rv {p:List Stp}{a b y a':TV S}(h:sub B p.reverse a=some b)(hu:upd B p.reverse a y=some a'):∃F',Pt a.cells (xT p) b.cells F'∧F' y.cells=a'.cells:=by
 obtain⟨X,Y,h1,h2,h3⟩:=qh B h
 exact⟨fun ys=>X++ys++Y,.of X Y (by rw[h1,CB]) (by rw[h2,bP]) fun _=>rfl,by rw[h3 _ _ hu];exact bP ..⟩
theorem GU {p:List Stp}{a b:TV S}(h:sub B p.reverse a=some b):∃F',Pt a.cells (xT p) b.cells F':=by
 obtain⟨X,Y,h1,h2,h3⟩:=qh B h
 exact⟨fun ys=>X++ys++Y,.of X Y (by rw[h1,CB]) (by rw[h2,bP]) fun _=>rfl⟩
end
end
end
section
section
variable [eH] {S:SD}
theorem B4:∀{a a' b b':List D},ot a a'→ot b b'→ot (a++b) (a'++b')
 |[],[],_,_,_,h=>h
 |_::_,_::_,_,_,h,h'=>⟨h.1,B4 h.2 h'⟩
 |[],_::_,_,_,h,_=>h.elim
 |_::_,[],_,_,h,_=>h.elim
def stO(s:Nat)(o:Option (S.A s)):Option ((T.st s).den S):=o
def unS(s:Nat)(x:(T.st s).den S):S.A s:=x
theorem Cn {s:Nat}{c:Bool}{o:Option (S.A s)}{x:(T.st s).den S}(h:stO s (if c=true then o else none)=some x):c=true∧o=some (unS s x):=by
 cases c with
 |true=>exact⟨rfl,h⟩
 |false=>cases h
section
variable (B:(i:Nat)→List (Fld S i)) (ex:Bool)
mutual
def asT:(t:T)→TV S→Option (t.den S)
 |t,.v u x=>if h:u=t then some (h▸x) else none
 | .sl t,.nil=>if (!ex&&Nat.ble 1 (t.cd S).sz)=true then some ([]:List (t.den S)) else none
 | .sl t,.own _ _ u l=>if ex=true then none else if h:u=t then some (h▸l) else none
 | .sl t,.fu u l=>if ex=true then none else if h:u=t then some (h▸l) else none
 | .st s,.ag fs=>stO s (if Cp (B s) 0 (S.c s).sz=true then asL s (B s) fs (S.inh s).default else none)
 |_,_=>none
def asL(s:Nat):List (Fld S s)→List (TV S)→S.A s→Option (S.A s)
 |[],[],x=>some x
 |F::Fs,w::fs,x=>match asT F.u w with
  |some y=>asL s Fs fs (F.put x y)
  |none=>none
 |_,_,_=>none
end
mutual
theorem KP {t:T}:∀{a:TV S} {x:t.den S},asT B ex t a=some x→ot a.cells (dC ((t.cd S).f x))∧(ex=true→a.cells=dC ((t.cd S).f x))
 |a,x,h=>by
  unfold asT at h
  split at h
  ·split at h
   ·rename_i he
    subst he
    cases h
    exact⟨by simp only[TV.cells];exact m9 _,fun _=>by simp only[TV.cells]⟩
   ·cases h
  ·split at h
   ·rename_i hc
    rw[c8,ww] at hc
    cases h
    simp only[TV.cells]
    exact⟨⟨.inr (.inr ⟨rfl,_,cD hc.2,rfl⟩),trivial⟩,fun e=>by rw[e] at hc;cases hc.1⟩
   ·cases h
  ·split at h
   ·cases h
   ·rename_i hx
    split at h
    ·rename_i he
     subst he
     cases h
     simp only[TV.cells]
     exact⟨⟨.inr (.inl rfl),trivial⟩,fun e=>absurd e hx⟩
    ·cases h
  ·split at h
   ·cases h
   ·rename_i hx
    split at h
    ·rename_i he
     subst he
     cases h
     simp only[TV.cells]
     exact⟨⟨.inr (.inl rfl),trivial⟩,fun e=>absurd e hx⟩
    ·cases h
  ·rename_i s fs
   obtain⟨hs,h⟩:=Cn h
   ·obtain⟨Y,h1,h2,h3⟩:=OT hs h
    simp only[TV.cells]
    show ot (bt fs) (dC ((S.c s).f (unS s x)))∧(ex=true→bt fs=dC ((S.c s).f (unS s x)))
    rw[h1,xi,mm]
    exact⟨h2,h3⟩
  ·cases h
theorem OT {s:Nat}:∀{Fs:List (Fld S s)} {o:Nat},Cp Fs o (S.c s).sz=true→∀{fs:List (TV S)} {x x':S.A s},asL B ex s Fs fs x=some x'→∃Y:List E,(S.c s).f x'=((S.c s).f x).take o++Y∧ot (bt fs) (dC Y)∧(ex=true→bt fs=dC Y)
 |[],o,hs,[],x,x',h=>by
  unfold asL at h
  cases h
  have ho:o=(S.c s).sz:=f7 hs
  refine⟨[],?_,?_,fun _=>?_⟩
  ·rw[pY,e9 (by rw[(S.c s).h,ho];exact aC _)]
  ·simp only[bt];exact trivial
  ·simp only[bt];rfl
 |F::Fs,o,hs,w::fs,x,x',h=>by
  unfold asL at h
  unfold Cp at hs
  rw[c8] at hs
  have ho:F.o=o:=f7 hs.1
  split at h
  ·rename_i y hy
   obtain⟨g1,g2⟩:=KP hy
   obtain⟨Y,h1,h2,h3⟩:=OT hs.2 h
   obtain⟨A,C,q1,q2,q3⟩:=yf (F.ln x)
   refine⟨(F.u.cd S).f y++Y,?_,?_,fun e=>?_⟩
   ·rw[h1,q3 y,q2,←bP,←bP,sb (by rw[cN,q1,(F.u.cd S).h,ho];exact aC _),e9 (by rw[cN,q1,(F.u.cd S).h,ho];exact aC _),bP A,sb (by rw[q1,ho];exact aC _),e9 (by rw[q1,ho];exact aC _),bP]
   ·simp only[bt]
    rw[oW]
    exact B4 g1 h2
   ·simp only[bt]
    rw[oW,g2 e,h3 e]
  ·cases h
 |[],_,_,_::_,_,_,h=>by unfold asL at h;cases h
 |_::_,_,_,[],_,_,h=>by unfold asL at h;cases h
end
end
theorem ME {B:(i:Nat)→List (Fld S i)}{t:T}{a:TV S}{x:t.den S}(h:asT B true t a=some x):a.toD=vD t x:=by
 have hc:=(KP B true h).2 rfl
 unfold asT at h
 split at h
 ·split at h
  ·rename_i he
   subst he
   cases h
   simp only[TV.toD]
  ·cases h
 ·cases h
 ·cases h
 ·cases h
 ·simp only[TV.cells] at hc
  simp only[TV.toD]
  rw[hc];rfl
 ·cases h
theorem asT_le {B:(i:Nat)→List (Fld S i)}{ex:Bool}{t:T}{a:TV S}{x:t.den S}(h:asT B ex t a=some x):a.toD.le (vD t x):=by
 have hc:=(KP B ex h).1
 unfold asT at h
 split at h
 ·split at h
  ·rename_i he
   subst he
   cases h
   simp only[TV.toD]
   exact ao _
  ·cases h
 ·split at h
  ·cases h
   simp only[TV.toD,TV.cells] at hc ⊢
   exact .inl hc.1
  ·cases h
 ·split at h
  ·cases h
  ·split at h
   ·rename_i he
    subst he
    cases h
    simp only[TV.toD]
    exact pV _
   ·cases h
 ·split at h
  ·cases h
  ·split at h
   ·rename_i he
    subst he
    cases h
    simp only[TV.toD]
    exact pV _
   ·cases h
 ·simp only[TV.cells] at hc
  simp only[TV.toD]
  exact i7 hc
 ·cases h
theorem vD_ex:∀(t:T) (x:t.den S),(vD t x).ex=vD t x
 | .int _,_=>rfl
 | .bool,_=>rfl
 | .str,_=>rfl
 | .sl _,_=>rfl
 | .arr _ _,_=>ex_G _ _
 | .st _,_=>ex_G _ _
theorem rl:∀(t:T) (x:t.den S),(vD t x).pure=true
 | .int _,_=>rfl
 | .bool,_=>rfl
 | .str,_=>rfl
 | .sl _,_=>rfl
 | .arr _ _,_=>mr _ _
 | .st _,_=>mr _ _
theorem asT_ex {B:(i:Nat)→List (Fld S i)}{ex:Bool}{t:T}{a:TV S}{x:t.den S}(h:asT B ex t a=some x):a.toD.ex.le (vD t x):=by
 unfold asT at h
 split at h
 ·split at h
  ·rename_i he
   subst he
   cases h
   simp only[TV.toD]
   rw[vD_ex]
   exact ao _
  ·cases h
 ·split at h
  ·rename_i hc
   rw[c8] at hc
   cases h
   simp only[TV.toD]
   exact Hm (cD hc.2)
  ·cases h
 ·split at h
  ·cases h
  ·split at h
   ·rename_i he
    subst he
    cases h
    simp only[TV.toD]
    exact ao _
   ·cases h
 ·split at h
  ·cases h
  ·split at h
   ·rename_i he
    subst he
    cases h
    simp only[TV.toD]
    exact ao _
   ·cases h
 ·rename_i s fs
  obtain⟨hs,h⟩:=Cn h
  ·obtain⟨Y,h1,h2,_⟩:=OT B ex hs h
   rw[xi,mm] at h1
   simp only[TV.toD]
   show D.le (.ag ((bt fs).map D.exC)) (.ag (dC ((S.c s).f (unS s x))))
   rw[h1]
   refine i7 ?_
   have:∀{l:List D} {Y:List E},ot l (dC Y)→ot (l.map D.exC) (dC Y):=by
    intro l
    induction l with
    |nil=>intro Y h;exact h
    |cons d l ih=>
     intro Y h
     cases Y with
     |nil=>exact h.elim
     |cons e Y=>
      refine⟨?_,ih h.2⟩
      rcases h.1 with h|h|⟨h,z,hz,h'⟩
      ·left
       have h:D.e e=d:=h
       rw[←h];rfl
      ·left;exact h
      ·right;right
       refine⟨by rw[h];rfl,z,hz,h'⟩
   exact this h2
 ·cases h
theorem asT_pex {B:(i:Nat)→List (Fld S i)}{ex:Bool}{t:T}{a:TV S}{x:t.den S}(h:asT B ex t a=some x):a.toD.ex.pure=true:=by
 unfold asT at h
 split at h
 ·split at h
  ·rename_i he
   subst he
   cases h
   simp only[TV.toD]
   rw[vD_ex]
   exact rl _ _
  ·cases h
 ·simp only[TV.toD];rfl
 ·simp only[TV.toD];rfl
 ·simp only[TV.toD];rfl
 ·rename_i s fs
  obtain⟨hs,h⟩:=Cn h
  ·obtain⟨Y,h1,h2,_⟩:=OT B ex hs h
   simp only[TV.toD]
   show ((bt fs).map D.exC).all D.pureC=true
   have:∀{l:List D} {Y:List E},ot l (dC Y)→(l.map D.exC).all D.pureC=true:=by
    intro l
    induction l with
    |nil=>intro Y h;rfl
    |cons d l ih=>
     intro Y h
     cases Y with
     |nil=>exact h.elim
     |cons e Y=>
      rw[gZ,jL,ih h.2,iY]
      rcases h.1 with h|h|⟨h,z,hz,h'⟩
      ·have h:D.e e=d:=h
       rw[←h];rfl
      ·rw[←h];rfl
      ·rw[h];rfl
   exact this h2
 ·cases h
mutual
def TV.owns:TV S→List (Nat×Nat×Nat)
 | .own id ver _ l=>[(id,ver,l.length)]
 | .ag fs=>pT fs
 | .tu l=>pT l
 |_=>[]
def pT:List (TV S)→List (Nat×Nat×Nat)
 |[]=>[]
 |a::l=>a.owns++pT l
end
structure Lv where
 ver:Nat
 n:Nat
 z:Nat
 e:TypeId
structure St(S:SD) where
 tm:List (Nat×TV S)
 vs:List (Nat×TV S)
 lv:List (Nat×Option Lv)
 nx:Nat
def lvL:List (Nat×Option Lv)→List (Nat×Nat×Nat×TypeId)
 |[]=>[]
 |(i,some y)::l=>(i,y.n,y.z,y.e)::lvL l
 |(i,none)::l=>(lvL l).filter fun p=>!Nat.beq p.1 i
def tmL(l:List (Nat×TV S)):List (Nat×D):=l.map fun p=>(p.1,p.2.toD)
def vsL(l:List (Nat×TV S)):List (Nat×List D):=l.map fun p=>(p.1,p.2.cells)
abbrev St.tmD(s:St S):List (Nat×D):=tmL s.tm
abbrev St.hp(s:St S):Hp:=⟨vsL s.vs,lvL s.lv,s.nx⟩
theorem LV {α β:Type}(f:α→β):∀(l:List (Nat×α)) (k:Nat),(l.map fun p=>(p.1,f p.2)).lookup k=(l.lookup k).map f
 |[],_=>rfl
 |(i,a)::l,k=>by
  rw[gZ,If,If]
  dsimp only
  cases (k == i)
  ·exact LV f l k
  ·rfl
theorem ly(l:List (Nat×TV S))(t:Nat):(tmL l).lookup t=(l.lookup t).map TV.toD:=LV _ l t
theorem rN(l:List (Nat×TV S))(t:Nat):(vsL l).lookup t=(l.lookup t).map TV.cells:=LV _ l t
theorem FF {α:Type}(i:Nat):∀(l:List (Nat×α)) (t:Nat),(l.filter fun p=>!Nat.beq p.1 i).lookup t=if t=i then none else l.lookup t
 |[],t=>by split <;> rfl
 |(j,a)::l,t=>by
  have ih:=FF i l t
  by_cases hj:j=i
  ·rw[MR (by show ¬(!Nat.beq j i)=true;rw[hj,yG];decide),ih]
   by_cases ht:t=i
   ·rw[an ht,an ht]
   ·rw[az ht,az ht,al (by omega)]
  ·rw[MQ (by
    show (!Nat.beq j i)=true
    rw[ww]
    exact Uq.2 fun e=>hj (f7 e))]
   by_cases hjt:t=j
   ·subst hjt
    rw[ah,az hj,ah]
   ·rw[al hjt,ih,al hjt]
def lvO(o:Option (Option Lv)):Option (Nat×Nat×TypeId):=match o with
 |some (some y)=>some (y.n,y.z,y.e)
 |_=>none
theorem wS:∀(l:List (Nat×Option Lv)) (t:Nat),(lvL l).lookup t=lvO (l.lookup t)
 |[],_=>rfl
 |(i,some y)::l,t=>by
  unfold lvL
  by_cases h:t=i
  ·subst h;rw[ah,ah];rfl
  ·rw[al h,al h,wS l t]
 |(i,none)::l,t=>by
  unfold lvL
  rw[FF]
  by_cases h:t=i
  ·subst h;rw[an rfl,ah];rfl
  ·rw[az h,al h,wS l t]
def Qa:Value→TV S
 | .int k n=>.v (.int k) n
 | .bool b=>.v .bool b
 | .string s=>.v .str s
 | .slice none 0 0=>.nil
 |_=>.top
def lkT(o:Option (TV S)):TV S:=match o with
 |some a=>a
 |none=>.top
def evT(l:List (Nat×TV S)):Operand→TV S
 | .tmp t=>lkT (l.lookup t)
 | .const v=>Qa v
 | .global _=>.top
 | .func f=>.fl f
theorem evT_eq {l:List (Nat×TV S)}{x:Operand}{a:TV S}(h:evT l x=a)(hn:a≠.top):evD (tmL l) x=a.toD:=by
 subst h
 cases x with
 |tmp t=>
  show ((tmL l).lookup t).getD .top=(lkT (l.lookup t)).toD
  rw[ly]
  cases l.lookup t with
  |none=>simp only[lkT,TV.toD];rfl
  |some a=>rfl
 |const v=>
  show H2 v=(Qa v:TV S).toD
  have hn:(Qa v:TV S)≠.top:=hn
  unfold Qa at hn ⊢
  split at hn <;> first|(exact absurd rfl hn)|(simp only[TV.toD];rfl)
 |global g=>exact absurd rfl hn
 |func f=>simp only[evT,TV.toD];rfl
abbrev iv(k:IntKind)(n:Int):TV S:=.v (.int k) n
abbrev bv'(b:Bool):TV S:=.v .bool b
abbrev sv(s:ByteArray):TV S:=.v .str s
theorem rV(k:IntKind)(n:Int):(iv k n:TV S).toD=dI k n:=by simp only[TV.toD];rfl
theorem ri(b:Bool):(bv' b:TV S).toD=dB b:=by simp only[TV.toD];rfl
theorem Jm(s:ByteArray):(sv s:TV S).toD=dS s:=by simp only[TV.toD];rfl
variable {R:Type}
def intB(op:BinOp)(k:IntKind)(x y:Int)(kk:TV S→Option R):Option R:=match op with
 | .add=>kk (iv k (k.wrap (x+y)))
 | .sub=>kk (iv k (k.wrap (x - y)))
 | .mul=>kk (iv k (k.wrap (x*y)))
 | .quo=>gd (y≠0) (kk (iv k (k.wrap (Int.tdiv x y))))
 | .rem=>gd (y≠0) (kk (iv k (Int.tmod x y)))
 | .and=>kk (iv k (Hz k x y))
 | .or=>kk (iv k (ior k x y))
 | .xor=>kk (iv k (ixor k x y))
 | .eql=>kk (bv' (decide (x=y)))
 | .neq=>kk (bv' (decide (x≠y)))
 | .lss=>kk (bv' (decide (x<y)))
 | .leq=>kk (bv' (decide (x≤y)))
 | .gtr=>kk (bv' (decide (y<x)))
 | .geq=>kk (bv' (decide (y≤x)))
 |_=>none
section
variable {P:Program} {tb:TypeId→Option TyE}
theorem intB_ok {op:BinOp}{k:IntKind}{x y:Int}{kk:TV S→Option R}{r:R}(h:intB op k x y kk=some r):∃v:TV S,(∀{dr:Bool} {ty t t':TypeId} {ev:Operand→D} {p q:Operand} {hp:Hp},ev p=dI k x→ev q=dI k y→AVC P tb dr (.binOp op t p q t') ty ev hp (Kq v.toD hp))∧kk v=some r∧v.owns=[]:=by
 unfold intB at h
 split at h
 ·exact⟨_,fun hp hq=>by rw[rV];exact Ph hp hq,h,by simp only[TV.owns]⟩
 ·exact⟨_,fun hp hq=>by rw[rV];exact O2 hp hq,h,by simp only[TV.owns]⟩
 ·exact⟨_,fun hp hq=>by rw[rV];exact O8 hp hq,h,by simp only[TV.owns]⟩
 ·obtain⟨hc,h⟩:=ax h
  exact⟨_,fun hp hq=>by rw[rV];exact Gs hc hp hq,h,by simp only[TV.owns]⟩
 ·obtain⟨hc,h⟩:=ax h
  exact⟨_,fun hp hq=>by rw[rV];exact Ec hc hp hq,h,by simp only[TV.owns]⟩
 ·exact⟨_,fun hp hq=>by rw[rV];exact UN hp hq,h,by simp only[TV.owns]⟩
 ·exact⟨_,fun hp hq=>by rw[rV];exact T_or hp hq,h,by simp only[TV.owns]⟩
 ·exact⟨_,fun hp hq=>by rw[rV];exact UC hp hq,h,by simp only[TV.owns]⟩
 ·exact⟨_,fun hp hq=>by rw[ri];exact Pf hp hq,h,by simp only[TV.owns]⟩
 ·exact⟨_,fun hp hq=>by rw[ri];exact O7 hp hq,h,by simp only[TV.owns]⟩
 ·exact⟨_,fun hp hq=>by rw[ri];exact O9 hp hq,h,by simp only[TV.owns]⟩
 ·exact⟨_,fun hp hq=>by rw[ri];exact Pb hp hq,h,by simp only[TV.owns]⟩
 ·exact⟨_,fun hp hq=>by rw[ri];exact Pc hp hq,h,by simp only[TV.owns]⟩
 ·exact⟨_,fun hp hq=>by rw[ri];exact Pd hp hq,h,by simp only[TV.owns]⟩
 ·cases h
structure EqS(P:Program)(tb:TypeId→Option TyE)(S:SD)(id:TypeId) where
 t:T
 dec:DecidableEq (t.den S)
 eq:∀{dr:Bool} {ty t':TypeId} {ev:Operand→D} {p q:Operand} {hp:Hp} {a b:t.den S},ev p=vD t a→ev q=vD t b→AVC P tb dr (.binOp .eql id p q t') ty ev hp (Kq (dB (@decide (a=b) (dec a b))) hp)
 ne:∀{dr:Bool} {ty t':TypeId} {ev:Operand→D} {p q:Operand} {hp:Hp} {a b:t.den S},ev p=vD t a→ev q=vD t b→AVC P tb dr (.binOp .neq id p q t') ty ev hp (Kq (dB (@decide (¬a=b) (@instDecidableNot _ (dec a b)))) hp)
structure Zt(tb:TypeId→Option TyE)(S:SD)(id:TypeId) where
 a:TV S
 ok:∃i,tb id=some i∧dC (i.zero.map E.lit)=a.cells
 no:a.owns=[]
structure Tb(P:Program)(tb:TypeId→Option TyE)(S:SD) where
 fl:(i:Nat)→List (Fld S i)
 zt:(id:TypeId)→Option (Zt tb S id)
 eqs:(id:TypeId)→Option (EqS P tb S id)
 boo:TypeId→Bool
 booOk:∀id,boo id=true→P.underlying id=some .bool
 tyT:TypeId→Option T
def numB(op:BinOp)(k k':IntKind)(x y:Int)(kk:TV S→Option R):Option R:=match op with
 | .shl=>gd (0≤y) (kk (iv k (vU k x y)))
 | .shr=>gd (0≤y) (kk (iv k (li k x y)))
 |op=>if k=k' then intB op k x y kk else none
def strB'(op:BinOp)(x y:ByteArray)(kk:TV S→Option R):Option R:=match op with
 | .add=>gd (x.size+y.size≤9223372036854775807) (kk (sv (x++y)))
 | .eql=>kk (bv' (decide (x=y)))
 | .neq=>kk (bv' (decide (x≠y)))
 |_=>none
def booB(op:BinOp)(x y:Bool)(kk:TV S→Option R):Option R:=match op with
 | .eql=>kk (bv' (x == y))
 | .neq=>kk (bv' (!(x == y)))
 |_=>none
def aggB(B:Tb P tb S)(op:BinOp)(t:TypeId)(a b:TV S)(kk:TV S→Option R):Option R:=match B.eqs t with
 |some e=>match asT B.fl true e.t a,asT B.fl true e.t b with
  |some x,some y=>match op with
   | .eql=>kk (bv' (@decide (x=y) (e.dec x y)))
   | .neq=>kk (bv' (@decide (¬x=y) (@instDecidableNot _ (e.dec x y))))
   |_=>none
  |_,_=>none
 |none=>none
def binE(B:Tb P tb S)(op:BinOp)(t:TypeId)(a b:TV S)(kk:TV S→Option R):Option R:=match a,b with
 | .v (.int k) x,.v (.int k') y=>numB op k k' x y kk
 | .v .str x,.v .str y=>strB' op x y kk
 | .v .bool x,.v .bool y=>if B.boo t=true then booB op x y kk else none
 |a,b=>aggB B op t a b kk
theorem numB_ok {op:BinOp}{k k':IntKind}{x y:Int}{kk:TV S→Option R}{r:R}(h:numB op k k' x y kk=some r):∃v:TV S,(∀{dr:Bool} {ty t t':TypeId} {ev:Operand→D} {p q:Operand} {hp:Hp},ev p=dI k x→ev q=dI k' y→AVC P tb dr (.binOp op t p q t') ty ev hp (Kq v.toD hp))∧kk v=some r∧v.owns=[]:=by
 unfold numB at h
 split at h
 ·obtain⟨hc,h⟩:=ax h
  exact⟨_,fun hp hq=>by rw[rV];exact O5 hc hp hq,h,by simp only[TV.owns]⟩
 ·obtain⟨hc,h⟩:=ax h
  exact⟨_,fun hp hq=>by rw[rV];exact O4 hc hp hq,h,by simp only[TV.owns]⟩
 ·split at h
  ·rename_i he
   subst he
   exact intB_ok (P:=P) (tb:=tb) h
  ·cases h
theorem binE_ok {B:Tb P tb S}{op:BinOp}{t:TypeId}{a b:TV S}{kk:TV S→Option R}{r:R}(h:binE B op t a b kk=some r):∃v:TV S,(∀{dr:Bool} {ty t':TypeId} {ev:Operand→D} {p q:Operand} {hp:Hp},ev p=a.toD→ev q=b.toD→AVC P tb dr (.binOp op t p q t') ty ev hp (Kq v.toD hp))∧kk v=some r∧v.owns=[]:=by
 unfold binE at h
 split at h
 ·rename_i k x k' y
  obtain⟨v,h1,h2⟩:=numB_ok (P:=P) (tb:=tb) h
  exact⟨v,fun hp hq=>h1 (hp.trans (rV _ _)) (hq.trans (rV _ _)),h2⟩
 ·unfold strB' at h
  split at h
  ·obtain⟨hc,h⟩:=ax h
   exact⟨_,fun hp hq=>by rw[Jm];exact T_sadd hc (hp.trans (Jm _)) (hq.trans (Jm _)),h,by simp only[TV.owns]⟩
  ·exact⟨_,fun hp hq=>by rw[ri];exact IC (hp.trans (Jm _)) (hq.trans (Jm _)),h,by simp only[TV.owns]⟩
  ·exact⟨_,fun hp hq=>by rw[ri];exact IB (hp.trans (Jm _)) (hq.trans (Jm _)),h,by simp only[TV.owns]⟩
  ·cases h
 ·split at h
  ·rename_i hb
   have hu:=B.booOk _ hb
   unfold booB at h
   split at h
   ·exact⟨_,fun hp hq=>by rw[ri];exact IF hu (hp.trans (ri _)) (hq.trans (ri _)),h,by simp only[TV.owns]⟩
   ·exact⟨_,fun hp hq=>by rw[ri];exact IE hu (hp.trans (ri _)) (hq.trans (ri _)),h,by simp only[TV.owns]⟩
   ·cases h
  ·cases h
 ·unfold aggB at h
  split at h
  ·rename_i e he
   split at h
   ·rename_i x y hx hy
    have ex:=ME hx
    have ey:=ME hy
    split at h
    ·exact⟨_,fun hp hq=>by rw[ri];exact e.eq (hp.trans ex) (hq.trans ey),h,by simp only[TV.owns]⟩
    ·exact⟨_,fun hp hq=>by rw[ri];exact e.ne (hp.trans ex) (hq.trans ey),h,by simp only[TV.owns]⟩
    ·cases h
   ·cases h
  ·cases h
def notU(x:Bool)(kk:TV S→Option R):Option R:=kk (bv' (!x))
def negU(k:IntKind)(x:Int)(kk:TV S→Option R):Option R:=kk (iv k (k.wrap (0 - x)))
def unE(op:UnOp)(a:TV S)(kk:TV S→Option R):Option R:=match op,a with
 | .not,.v .bool x=>notU x kk
 | .neg,.v (.int k) x=>negU k x kk
 |_,_=>none
end
end
end
section
section
variable [eH] {S:SD}
def GO(lv:List (Nat×Option Lv))(nx:Nat)(o:Nat×Nat×Nat):Prop:=o.1<nx∧∀y,lv.lookup o.1=some (some y)→o.2.1≤y.ver∧(y.ver=o.2.1→y.n=o.2.2)
def OV(lv:List (Nat×Option Lv))(nx:Nat)(a:TV S):Prop:=∀o∈a.owns,GO lv nx o
def OVs(lv:List (Nat×Option Lv))(nx:Nat)(l:List (Nat×TV S)):Prop:=∀p∈l,OV lv nx p.2
def St.Ok(s:St S):Prop:=OVs s.lv s.nx s.tm∧OVs s.lv s.nx s.vs
theorem gS {lv:List (Nat×Option Lv)}{nx:Nat}{a:TV S}(h:a.owns=[]):OV lv nx a:=fun o ho=>by rw[h] at ho;cases ho
theorem va {lv:List (Nat×Option Lv)}{nx:Nat}{l:List (Nat×TV S)}(h:OVs lv nx l){t:Nat}{a:TV S}(hl:l.lookup t=some a):OV lv nx a:=h (t,a) (aK hl)
theorem nh {l:List (TV S)}{o:Nat×Nat×Nat}:o∈pT l↔∃a∈l,o∈a.owns:=by
 induction l with
 |nil=>simp only[pT];simp
 |cons a l ih=>simp only[pT];simp[ih]
theorem Sp(v:Value):(Qa v:TV S).owns=[]:=by
 unfold Qa;split <;> simp only[TV.owns]
def opd(l:List (Nat×TV S))(x:Operand):Option (TV S):=match evT l x with
 | .top=>none
 |a=>some a
theorem bM {l:List (Nat×TV S)}{x:Operand}{a:TV S}(h:opd l x=some a):evD (tmL l) x=a.toD∧a≠.top:=by
 unfold opd at h
 split at h
 ·cases h
 ·rename_i hn
  cases h
  exact⟨evT_eq rfl hn,hn⟩
theorem rT {l:List (Nat×TV S)}{x:Operand}{a:TV S}{lv:List (Nat×Option Lv)}{nx:Nat}(h:opd l x=some a)(ho:OVs lv nx l):OV lv nx a:=by
 unfold opd at h
 split at h
 ·cases h
 ·cases h
  cases x with
  |tmp t=>
   show OV lv nx (lkT (l.lookup t))
   cases ht:l.lookup t with
   |none=>exact gS (by simp only[lkT,TV.owns])
   |some a=>exact va ho ht
  |const v=>exact gS (Sp v)
  |global g=>exact gS (by simp only[evT,TV.owns])
  |func f=>exact gS (by simp only[evT,TV.owns])
theorem IN {lv:List (Nat×Option Lv)}{nx nx':Nat}{o:Nat×Nat×Nat}(h:GO lv nx o)(hn:nx≤nx'):GO lv nx' o:=⟨bC h.1 hn,h.2⟩
theorem Ey {lv:List (Nat×Option Lv)}{nx:Nat}{o:Nat×Nat×Nat}(h:GO lv nx o)(y:Option Lv):GO ((nx,y)::lv) (nx+1) o:=
 ⟨pZ h.1,fun z hz=>h.2 z (by rw[←hz];exact (al (by have:=h.1;omega)).symm)⟩
theorem vL {lv QT:List (Nat×Option Lv)}{nx nx':Nat}{l:List (Nat×TV S)}(h:OVs lv nx l)(hg:∀o,GO lv nx o→GO QT nx' o):OVs QT nx' l:=fun p hp o ho=>hg o (h p hp o ho)
theorem ol {lv:List (Nat×Option Lv)}{nx t:Nat}{a:TV S}{l:List (Nat×TV S)}(ha:OV lv nx a)(h:OVs lv nx l):OVs lv nx ((t,a)::l):=fun p hp=>by
 rcases e8.1 hp with rfl|hp
 ·exact ha
 ·exact h p hp
section
variable {B:(i:Nat)→List (Fld S i)}
theorem uB:∀{p:List Stp} {a b:TV S},sub B p a=some b→∀o∈b.owns,o∈a.owns
 |[],a,b,h,o,ho=>by unfold sub at h;cases h;exact ho
 |s::p,a,b,h,o,ho=>by
  unfold sub at h
  split at h
  ·rename_i h0;cases h0
  ·rename_i h0;cases h0
   split at h
   ·split at h
    ·have:=uB h o ho
     simp only[TV.owns] at this;cases this
    ·cases h
   ·cases h
  ·rename_i h0;cases h0
   split at h
   ·have:=uB h o ho
    simp only[TV.owns] at this;cases this
   ·cases h
  ·rename_i h0;cases h0
   split at h
   ·rename_i w hw
    split at h
    ·have:=uB h o ho
     simp only[TV.owns]
     exact nh.2 ⟨w,bL hw,this⟩
    ·cases h
   ·cases h
  ·cases h
theorem FY {s:Nat}{l:List (Fld S s)}{x:S.A s}:∀w∈uN l x,w.owns=[]:=fun w hw=>by
 unfold uN at hw
 obtain⟨F,_,rfl⟩:=nz.1 hw
 simp only[TV.owns]
theorem O1 {fs:List (TV S)}{i:Nat}{w:TV S}{o:Nat×Nat×Nat}(h:o∈pT (fs.set i w)):o∈w.owns∨o∈pT fs:=by
 obtain⟨a,ha,ho⟩:=nh.1 h
 rcases List.mem_or_eq_of_mem_set ha with h|h
 ·exact .inr (nh.2 ⟨a,h,ho⟩)
 ·exact .inl (h▸ho)
theorem uz:∀{p:List Stp} {a y a':TV S},upd B p a y=some a'→∀o∈a'.owns,o∈y.owns∨o∈a.owns
 |[],a,y,a',h,o,ho=>by unfold upd at h;cases h;exact .inl ho
 |s::p,a,y,a',h,o,ho=>by
  unfold upd at h
  split at h
  ·rename_i h0;cases h0
  ·rename_i h0;cases h0
   split at h
   ·rename_i F hF
    split at h
    ·split at h
     ·rename_i w hw
      have ih:=uz hw
      unfold reF at h
      split at h
      ·split at h
       ·cases h;simp only[TV.owns] at ho;cases ho
       ·cases h
      ·split at h
       ·cases h
        simp only[TV.owns] at ho
        rcases O1 ho with ho|ho
        ·rcases ih o ho with h1|h1
         ·exact .inl h1
         ·simp only[TV.owns] at h1;cases h1
        ·obtain⟨b,hb,hbo⟩:=nh.1 ho
         rw[FY b hb] at hbo;cases hbo
       ·cases h
     ·cases h
    ·cases h
   ·cases h
  ·rename_i h0;cases h0
   split at h
   ·split at h
    ·split at h
     ·cases h;simp only[TV.owns] at ho;cases ho
     ·cases h
    ·cases h
   ·cases h
  ·rename_i h0;cases h0
   split at h
   ·rename_i w hw
    split at h
    ·split at h
     ·rename_i w' hw'
      cases h
      simp only[TV.owns] at ho ⊢
      rcases O1 ho with ho|ho
      ·rcases uz hw' o ho with h1|h1
       ·exact .inl h1
       ·exact .inr (nh.2 ⟨w,bL hw,h1⟩)
      ·exact .inr ho
     ·cases h
    ·cases h
   ·cases h
  ·cases h
end
variable {R:Type} {P:Program} {tb:TypeId→Option TyE} {B:Tb P tb S}
def Ex(s s':St S):Prop:=(∃p,s'.vs=p++s.vs)∧(∃p,s'.lv=p++s.lv)∧s.nx≤s'.nx
theorem Ex.refl(s:St S):Ex s s:=⟨⟨[],rfl⟩,⟨[],rfl⟩,aC _⟩
theorem Ex.trans {s s' s'':St S}(h:Ex s s')(h':Ex s' s''):Ex s s'':=by
 obtain⟨⟨p,h1⟩,⟨q,h2⟩,h3⟩:=h
 obtain⟨⟨p',ni⟩,⟨q',lj⟩,HO⟩:=h'
 exact⟨⟨p'++p,by rw[ni,h1,bP]⟩,⟨q'++q,by rw[lj,h2,bP]⟩,cg h3 HO⟩
def Sat(P:Program)(tb:TypeId→Option TyE)(dr:Bool)(op:Op)(ty:TypeId)(s:St S)(v:TV S)(s':St S):Prop:=
 AVC P tb dr op ty (evD s.tmD) s.hp (Kq v.toD s'.hp)∧s'.tm=s.tm∧(s.Ok→s'.Ok∧OV s'.lv s'.nx v)∧Ex s s'
theorem Sat.here {dr:Bool}{op:Op}{ty:TypeId}{s:St S}{v:TV S}(h:AVC P tb dr op ty (evD s.tmD) s.hp (Kq v.toD s.hp))(ho:s.Ok→OV s.lv s.nx v):Sat P tb dr op ty s v s:=⟨h,rfl,fun hk=>⟨hk,ho hk⟩,Ex.refl s⟩
abbrev KK(S:SD)(R:Type):=TV S→St S→Option R
def LQ(s:St S)(x:Operand)(k:KK S R):Option R:=match opd s.tm x with
 |some a=>k a s
 |none=>none
theorem movE_ok {dr:Bool}{ty:TypeId}{s:St S}{x:Operand}{k:KK S R}{r:R}(h:LQ s x k=some r):∃v s',Sat P tb dr (.move x) ty s v s'∧k v s'=some r:=by
 unfold LQ at h
 split at h
 ·rename_i a ha
  exact⟨a,s,.here (Ax (bM ha).1) fun hk=>rT ha hk.1,h⟩
 ·cases h
def elT(B:Tb P tb S)(ty:TypeId):Option (TypeId×TyE×T):=match tb ty with
 |some i=>match i.ty with
  | .slice e=>match tb e,B.tyT e with
   |some j,some u=>if (u.cd S).sz=j.size∧Nat.ble (0+1) j.size=true then some (e,j,u) else none
   |_,_=>none
  |_=>none
 |none=>none
theorem Dl {ty e:TypeId}{j:TyE}{u:T}(h:elT B ty=some (e,j,u)):∃i,tb ty=some i∧i.ty=.slice e∧tb e=some j∧(u.cd S).sz=j.size∧Nat.ble (0+1) j.size=true:=by
 unfold elT at h
 split at h
 ·rename_i i hi
  split at h
  ·rename_i e' he
   split at h
   ·rename_i j' u' hj hu
    split at h
    ·rename_i hc
     cases h
     exact⟨i,hi,he,hj,hc.1,hc.2⟩
    ·cases h
   ·cases h
  ·cases h
 ·cases h
def zD(s:St S)(u:T)(l:List (u.den S))(z:Nat)(e:TypeId):St S:=⟨s.tm,s.vs,(s.nx,some ⟨0,l.length,z,e⟩)::s.lv,s.nx+1⟩
theorem BM {s:St S}{u:T}{l:List (u.den S)}{z:Nat}{e:TypeId}(h:s.Ok):(zD s u l z e).Ok∧OV (zD s u l z e).lv (zD s u l z e).nx (.own s.nx 0 u l):=by
 refine⟨⟨vL h.1 fun o ho=>Ey ho _,vL h.2 fun o ho=>Ey ho _⟩,fun o ho=>?_⟩
 simp only[TV.owns,qU] at ho
 subst ho
 refine⟨dH _,fun y hy=>?_⟩
 unfold zD at hy
 dsimp only at hy
 rw[ah] at hy
 cases hy
 exact⟨aC _,fun _=>rfl⟩
theorem ex_O {s:St S}{u:T}{l:List (u.den S)}{z:Nat}{e:TypeId}:Ex s (zD s u l z e):=⟨⟨[],rfl⟩,⟨[_],rfl⟩,eQ _⟩
def isNil:TV S→Bool
 | .nil=>true
 |_=>false
def asgE(B:Tb P tb S)(ty:TypeId)(s:St S)(x:Operand)(k:KK S R):Option R:=match opd s.tm x with
 |some .nil=>match elT B ty with
  |some (e,j,u)=>k (.own s.nx 0 u []) (zD s u [] j.size e)
  |none=>none
 |some a=>k a s
 |none=>none
theorem vD_noN:∀(t:T) (x:t.den S),vD t x≠dN
 | .int _,_=>by unfold vD;intro h;cases h
 | .bool,_=>by unfold vD;intro h;cases h
 | .str,_=>by unfold vD;intro h;cases h
 | .sl _,_=>by unfold vD;intro h;cases h
 | .arr _ _,_=>by unfold vD;intro h;cases h
 | .st _,_=>by unfold vD;intro h;cases h
theorem toD_noN:∀{a:TV S},a≠.nil→a.toD≠dN
 | .v t x,_=>by simp only[TV.toD];exact vD_noN t x
 | .ag fs,_=>by simp only[TV.toD];intro h;cases h
 | .nil,h=>absurd rfl h
 | .own ..,_=>by simp only[TV.toD];intro h;cases h
 | .fu ..,_=>by simp only[TV.toD];intro h;cases h
 | .fp ..,_=>by simp only[TV.toD];intro h;cases h
 | .pt ..,_=>by simp only[TV.toD];intro h;cases h
 | .ow ..,_=>by simp only[TV.toD];intro h;cases h
 | .tu ..,_=>by simp only[TV.toD];intro h;cases h
 | .fn ..,_=>by simp only[TV.toD];intro h;cases h
 | .fl ..,_=>by simp only[TV.toD];intro h;cases h
 | .mp,_=>by simp only[TV.toD];intro h;cases h
 | .top,_=>by simp only[TV.toD];intro h;cases h
theorem asg_of {ty:TypeId}{d:D}{hp:Hp}{k:D→Hp→Prop}(h:d≠dN):KO tb ty d hp k=k d hp:=by
 unfold KO
 split
 ·exact absurd rfl h
 ·rfl
theorem asgE_ok {dr:Bool}{ty:TypeId}{s:St S}{x:Operand}{k:KK S R}{r:R}(h:asgE B ty s x k=some r):∃v s',Sat P tb dr (.assign x) ty s v s'∧k v s'=some r:=by
 unfold asgE at h
 split at h
 ·rename_i ha
  split at h
  ·rename_i e j u he
   obtain⟨i,h1,h2,h3,h4,h5⟩:=Dl he
   refine⟨_,zD s u [] j.size e,⟨?_,rfl,BM,ex_O⟩,h⟩
   simp only[TV.toD]
   have:=d8 (P:=P) (dr:=dr) (vs:=vsL s.vs) (lv:=lvL s.lv) (N0:=s.nx) (ev:=evD s.tmD) (x:=x) h1 h3 (h:=by rw[(bM ha).1];simp only[TV.toD]) h2 h5
   rw[←h4] at this
   rw[←h4]
   exact this
  ·cases h
 ·rename_i a hn ha
  exact⟨a,s,.here (Ef (bM ha).1 (asg_of (toD_noN fun e=>hn e))) fun hk=>rT ha hk.1,h⟩
 ·cases h
end
end
section
section
variable [eH] {S:SD} {R:Type} {P:Program} {tb:TypeId→Option TyE} {B:Tb P tb S}
def JP(s:St S)(a:TV S):St S:=⟨s.tm,(s.nx,a)::s.vs,s.lv,s.nx+1⟩
theorem N4 {s:St S}{a:TV S}(h:s.Ok)(ha:OV s.lv s.nx a):(JP s a).Ok∧OV (JP s a).lv (JP s a).nx (.pt s.nx []:TV S):=by
 refine⟨⟨vL h.1 fun o ho=>IN ho (eQ _),ol (fun o ho=>IN (ha o ho) (eQ _)) (vL h.2 fun o ho=>IN ho (eQ _))⟩,gS (by simp only[TV.owns])⟩
theorem ex_V {s:St S}{a:TV S}:Ex s (JP s a):=⟨⟨[_],rfl⟩,⟨[],rfl⟩,eQ _⟩
def alcE(B:Tb P tb S)(s:St S)(t:TypeId)(k:KK S R):Option R:=match B.zt t with
 |some z=>k (.pt s.nx []) (JP s z.a)
 |none=>none
theorem pt0_D(n:Nat):(.pt n []:TV S).toD=.pt n 0:=by simp only[TV.toD];rfl
theorem alcE_ok {dr:Bool}{ty t:TypeId}{s:St S}{k:KK S R}{r:R}(h:alcE B s t k=some r):∃v s',Sat P tb dr (.alloc t) ty s v s'∧k v s'=some r:=by
 unfold alcE at h
 split at h
 ·rename_i z hz
  obtain⟨i,hi,hc⟩:=z.ok
  refine⟨_,JP s z.a,⟨?_,rfl,fun hk=>N4 hk (gS z.no),ex_V⟩,h⟩
  rw[pt0_D]
  have:=cc (P:=P) (dr:=dr) (ty:=ty) (ev:=evD s.tmD) (vs:=vsL s.vs) (lv:=lvL s.lv) (N0:=s.nx) hi
  rw[show (i.zero.map fun v=>D.e (.lit v))=z.a.cells by rw[←hc];unfold dC;rw[kP];rfl] at this
  exact this
 ·cases h
def boxE(s:St S)(x:Operand)(k:KK S R):Option R:=match opd s.tm x with
 |some a=>if a.isC=true then k (.pt s.nx []) (JP s a) else none
 |none=>none
theorem boxE_ok {dr:Bool}{ty t:TypeId}{s:St S}{x:Operand}{k:KK S R}{r:R}(h:boxE s x k=some r):∃v s',Sat P tb dr (.box t x) ty s v s'∧k v s'=some r:=by
 unfold boxE at h
 split at h
 ·rename_i a ha
  split at h
  ·rename_i hc
   refine⟨_,JP s a,⟨?_,rfl,fun hk=>N4 hk (rT ha hk.1),ex_V⟩,h⟩
   rw[pt0_D]
   exact jb (h:=by rw[(bM ha).1];exact TV.toD_cells hc)
  ·cases h
 ·cases h
def TV.isA:TV S→Bool
 | .v t _=>t.agg
 | .ag _=>true
 |_=>false
theorem yp:∀{a:TV S},a.isA=true→a.toD=.ag a.cells
 | .v (.arr n t) x,_=>by simp only[TV.toD,TV.cells];rfl
 | .v (.st s) x,_=>by simp only[TV.toD,TV.cells];rfl
 | .v (.int k) x,h=>by cases h
 | .v .bool x,h=>by cases h
 | .v .str x,h=>by cases h
 | .v (.sl t) x,h=>by cases h
 | .ag fs,_=>by simp only[TV.toD,TV.cells]
theorem CD:∀{a:TV S},a.isA=false→a.isC=true→a.cells=[a.toD]
 | .v (.arr n t) x,h,_=>by cases h
 | .v (.st s) x,h,_=>by cases h
 | .v (.int k) x,_,_=>by simp only[TV.toD,TV.cells];rfl
 | .v .bool x,_,_=>by simp only[TV.toD,TV.cells];rfl
 | .v .str x,_,_=>by simp only[TV.toD,TV.cells];rfl
 | .v (.sl t) x,_,_=>by simp only[TV.toD,TV.cells];rfl
 | .ag fs,h,_=>by cases h
 | .nil,_,_=>by simp only[TV.toD,TV.cells]
 | .own ..,_,_=>by simp only[TV.toD,TV.cells]
 | .fu ..,_,_=>by simp only[TV.toD,TV.cells]
 | .fp ..,_,_=>by simp only[TV.toD,TV.cells]
 | .pt ..,_,_=>by simp only[TV.toD,TV.cells]
 | .ow ..,_,_=>by simp only[TV.toD,TV.cells]
 | .tu ..,_,h=>by cases h
 | .fn ..,_,_=>by simp only[TV.toD,TV.cells]
 | .fl ..,_,_=>by simp only[TV.toD,TV.cells]
 | .mp,_,_=>by simp only[TV.toD,TV.cells]
 | .top,_,h=>by cases h
def atV(B:Tb P tb S)(s:St S)(n:Nat)(p:List Stp):Option (TV S×TV S):=match s.vs.lookup n with
 |some a=>match sub B.fl p.reverse a with
  |some b=>if Nat.ble (n+1) s.nx=true then some (a,b) else none
  |none=>none
 |none=>none
theorem DE {s:St S}{n:Nat}{p:List Stp}{a b:TV S}(h:atV B s n p=some (a,b)):s.vs.lookup n=some a∧sub B.fl p.reverse a=some b∧n<s.nx:=by
 unfold atV at h
 split at h
 ·rename_i a' ha
  split at h
  ·rename_i b' hb
   split at h
   ·rename_i hn
    cases h
    exact⟨ha,hb,cD hn⟩
   ·cases h
  ·cases h
 ·cases h
def F3(tb:TypeId→Option TyE)(t:TypeId)(z:Nat)(g:Bool):Bool:=match tb t with
 |some i=>Nat.beq z i.size&&(g == i.ty.agg)
 |none=>false
theorem vn {t:TypeId}{z:Nat}{g:Bool}(h:F3 tb t z g=true):∃i,tb t=some i∧z=i.size∧i.ty.agg=g:=by
 unfold F3 at h
 split at h
 ·rename_i i hi
  rw[c8] at h
  exact⟨i,hi,f7 h.1,(eq_of_beq h.2).symm⟩
 ·cases h
def ldE(B:Tb P tb S)(s:St S)(t:TypeId)(x:Operand)(k:KK S R):Option R:=match opd s.tm x with
 |some (.pt n p)=>match atV B s n p with
  |some (_,b)=>if (F3 tb t b.szB b.isA&&b.isC)=true then k b s else none
  |none=>none
 |some (.fp _ _ _ _ u _ y _)=>if F3 tb t (u.cd S).sz u.agg=true then k (.v u y) s else none
 |_=>none
theorem lnat_ge {α:Type}[Inhabited α]{β:Type}{c:Cd α}{c':Cd β}{l:List α}{n o:Nat}{y:β}(h:∃F',a8 (c.f l[n]!) c' o y F'):((c.f l[n]!).drop o).take c'.sz=c'.f y∧o+c'.sz≤c.sz:=by
 obtain⟨F',L⟩:=h
 exact⟨L.g,by have:=L.le;rw[c.h] at this;exact this⟩
theorem notA_f:∀{u:T} (y:u.den S),u.agg=false→(u.cd S).f y=[(match vD u y with| .e x=>x|_=>.any)]∧vD u y=.e (match vD u y with| .e x=>x|_=>.any)∧(u.cd S).sz=1
 | .int _,_,_=>⟨rfl,rfl,rfl⟩
 | .bool,_,_=>⟨rfl,rfl,rfl⟩
 | .str,_,_=>⟨rfl,rfl,rfl⟩
 | .sl _,_,_=>⟨rfl,rfl,rfl⟩
 | .arr _ _,_,h=>by cases h
 | .st _,_,h=>by cases h
theorem isA_v {u:T}(y:u.den S)(h:u.agg=true):vD u y=dG (u.cd S) y:=by
 have:=yp (a:=.v u y) (by exact h)
 simp only[TV.toD,TV.cells] at this
 exact this
theorem ldE_ok {dr:Bool}{ty t:TypeId}{s:St S}{x:Operand}{k:KK S R}{r:R}(h:ldE B s t x k=some r):∃v s',Sat P tb dr (.load t x) ty s v s'∧k v s'=some r:=by
 unfold ldE at h
 split at h
 ·rename_i n p hx
  split at h
  ·rename_i a b A2
   split at h
   ·rename_i hc
    rw[c8] at hc
    obtain⟨i,hi,hz,hg⟩:=vn hc.1
    obtain⟨hv,hs,hn⟩:=DE A2
    obtain⟨F',hP⟩:=GU B.fl hs
    have Mh:(vsL s.vs).lookup n=some a.cells:=by rw[rN,hv];rfl
    have BT:evD s.tmD x=.pt n (xT p):=by rw[(bM hx).1];simp only[TV.toD]
    refine⟨b,s,.here ?_ fun hk o ho=>va hk.2 hv o (uB hs o ho),h⟩
    cases hA:b.isA with
    |true=>
     rw[yp hA]
     exact UF (hp:=s.hp) hP Mh hn hi (by rw[TV.szB_eq,hz]) (by rw[hg,hA]) BT
    |false=>
     have wV:=CD hA hc.2
     rw[wV] at hP
     exact UG (hp:=s.hp) hP Mh hn hi (by rw[hg,hA]) BT
   ·cases h
  ·cases h
 ·rename_i t' l m hm u o y L hx
  split at h
  ·rename_i hc
   obtain⟨i,hi,hz,hg⟩:=vn hc
   have BT:evD s.tmD x=.fp (l.flatMap (t'.cd S).f) (m*(t'.cd S).sz+o):=by rw[(bM hx).1];simp only[TV.toD]
   letI:=t'.inh S
   obtain⟨q1,q2⟩:=lnat_ge (c:=t'.cd S) (c':=u.cd S) (l:=l) L
   refine⟨_,s,.here ?_ fun _=>gS (by simp only[TV.owns]),h⟩
   simp only[TV.toD]
   cases hA:u.agg with
   |true=>
    rw[isA_v y hA]
    exact rK (c:=t'.cd S) hi hm (es:=(u.cd S).f y) (by rw[←hz];exact q1) (by rw[hg,hA]) BT (by
     apply Nat.ble_eq_true_of_le
     rw[←hz];omega)
   |false=>
    obtain⟨e1,e2,e3⟩:=notA_f y hA
    rw[e2]
    refine s7 (c:=t'.cd S) hi hm (by rw[hg,hA]) BT ?_
    rw[e1,e3] at q1
    have:((((t'.cd S).f l[m]!).drop o).take 1)[0]? =some (match vD u y with| .e x=>x|_=>.any):=by rw[q1];rfl
    rw[fY,ifp_,nt,i9] at this
    exact this
  ·cases h
 ·cases h
def stE(B:Tb P tb S)(s:St S)(t:TypeId)(x y:Operand)(k:KK S R):Option R:=match opd s.tm x,opd s.tm y with
 |some (.pt n p),some c=>match atV B s n p with
  |some (a,b)=>if (F3 tb t b.szB b.isA&&c.isC&&Nat.beq c.szB b.szB)=true then match upd B.fl p.reverse a c with
   |some a'=>k .top ⟨s.tm,(n,a')::s.vs,s.lv,s.nx⟩
   |none=>none
   else none
  |none=>none
 |_,_=>none
theorem stE_ok {dr:Bool}{ty t:TypeId}{s:St S}{x y:Operand}{k:KK S R}{r:R}(h:stE B s t x y k=some r):∃v s',Sat P tb dr (.store t x y) ty s v s'∧k v s'=some r:=by
 unfold stE at h
 split at h
 ·rename_i n p c hx hy
  split at h
  ·rename_i a b A2
   split at h
   ·rename_i hc
    rw[c8,c8] at hc
    split at h
    ·rename_i a' ha'
     obtain⟨i,hi,hz,hg⟩:=vn hc.1.1
     obtain⟨hv,hs,hn⟩:=DE A2
     obtain⟨F',hP,hF⟩:=Rv B.fl hs ha'
     have Mh:(vsL s.vs).lookup n=some a.cells:=by rw[rN,hv];rfl
     have BT:evD s.tmD x=.pt n (xT p):=by rw[(bM hx).1];simp only[TV.toD]
     have hcz:=f7 hc.2
     refine⟨.top,⟨s.tm,(n,a')::s.vs,s.lv,s.nx⟩,⟨?_,rfl,fun hk=>⟨⟨hk.1,ol (fun o ho=>?_) hk.2⟩,gS (by simp only[TV.owns])⟩,⟨⟨[_],rfl⟩,⟨[],rfl⟩,aC _⟩⟩,h⟩
     ·simp only[TV.toD]
      exact O3 (hp:=s.hp) hP Mh (by rw[(bM hy).1];exact TV.toD_cells hc.1.2) hi (by rw[TV.szB_eq,hz]) (by rw[TV.szB_eq,TV.szB_eq,hcz]) hF BT rfl
     ·rcases uz ha' o ho with h1|h1
      ·exact rT hy hk.1 o h1
      ·exact va hk.2 hv o h1
    ·cases h
   ·cases h
  ·cases h
 ·cases h
def fldO(tb:TypeId→Option TyE)(s:TypeId)(f:Nat):Option (Nat×TyE):=match tb s with
 |some i=>match i.ty with
  | .struct fs=>match fs[f]? with
   |some (o,tt)=>match tb tt with
    |some j=>if Nat.ble 1 j.size=true then some (o,j) else none
    |none=>none
   |none=>none
  |_=>none
 |none=>none
theorem FZ {s:TypeId}{f o:Nat}{j:TyE}(h:fldO tb s f=some (o,j)):∃i fs tt,tb s=some i∧i.ty=.struct fs∧fs[f]? =some (o,tt)∧tb tt=some j∧Nat.ble 1 j.size=true:=by
 unfold fldO at h
 split at h
 ·rename_i i hi
  split at h
  ·rename_i fs hf
   split at h
   ·rename_i o' tt ho
    split at h
    ·rename_i j' hj
     split at h
     ·rename_i hz
      cases h
      exact⟨i,fs,tt,hi,hf,ho,hj,hz⟩
     ·cases h
    ·cases h
   ·cases h
  ·cases h
 ·cases h
def fpF(B:Tb P tb S)(t:T)(l:List (t.den S))(n:Nat)(h:n<l.length)(o f of:Nat):(u:T)→(y:u.den S)→(∃F',a8 ((t.cd S).f (gE t l n)) (u.cd S) o y F')→Option (TV S)
 | .st s,y,L=>match (B.fl s)[f]? with
  |some F=>if F.o=of then some (.fp t l n h F.u (o+F.o) (F.get y) (by
    obtain⟨F',L⟩:=L
    exact⟨_,L.comp (F.ln y) fun _=>rfl⟩)) else none
  |none=>none
 |_,_,_=>none
theorem fpF_D {t:T}{l:List (t.den S)}{n:Nat}{h:n<l.length}{o f of:Nat}{u:T}{y:u.den S}{L:∃F',a8 ((t.cd S).f (gE t l n)) (u.cd S) o y F'}{a:TV S}(h2:fpF B t l n h o f of u y L=some a):a.toD=.fp (l.flatMap (t.cd S).f) (n*(t.cd S).sz+o+of)∧a.owns=[]:=by
 unfold fpF at h2
 split at h2
 ·split at h2
  ·split at h2
   ·rename_i ho
    have h2:=bZ h2
    subst h2
    simp only[TV.toD,TV.owns]
    rw[ho,kU]
    exact⟨rfl,trivial⟩
   ·exact absurd h2 (by nofun)
  ·exact absurd h2 (by nofun)
 ·exact absurd h2 (by nofun)
def faE(B:Tb P tb S)(s:St S)(t:TypeId)(x:Operand)(f:Nat)(k:KK S R):Option R:=match fldO tb t f with
 |some (o,_)=>match opd s.tm x with
  |some (.pt n p)=>k (.pt n (.f f o::p)) s
  |some (.fp u l n h w o' y L)=>match fpF B u l n h o' f o w y L with
   |some a=>k a s
   |none=>none
  |_=>none
 |none=>none
theorem faE_ok {dr:Bool}{ty t:TypeId}{s:St S}{x:Operand}{f:Nat}{k:KK S R}{r:R}(h:faE B s t x f k=some r):∃v s',Sat P tb dr (.fieldAddr t x f) ty s v s'∧k v s'=some r:=by
 unfold faE at h
 split at h
 ·rename_i o j ho
  obtain⟨i,fs,tt,h1,h2,h3,h4,h5⟩:=FZ ho
  split at h
  ·rename_i n p hx
   refine⟨_,s,.here ?_ fun _=>gS (by simp only[TV.owns]),h⟩
   simp only[TV.toD]
   exact T_faP h1 h4 h2 h3 h5 (by rw[(bM hx).1];simp only[TV.toD])
  ·rename_i u l n hn w o' y L hx
   split at h
   ·rename_i a ha
    obtain⟨e1,e2⟩:=fpF_D ha
    refine⟨_,s,.here ?_ fun _=>gS e2,h⟩
    rw[e1]
    exact T_faF h1 h4 h2 h3 h5 (by rw[(bM hx).1];simp only[TV.toD])
   ·cases h
  ·cases h
 ·cases h
def fdE(B:Tb P tb S)(s:St S)(t:TypeId)(x:Operand)(f:Nat)(k:KK S R):Option R:=match fldO tb t f with
 |some (o,j)=>match opd s.tm x with
  |some a=>match sub B.fl [.f f o] a with
   |some b=>if (a.isA&&b.isC&&Nat.beq b.szB j.size&&(b.isA == j.ty.agg))=true then k b s else none
   |none=>none
  |none=>none
 |none=>none
theorem fdE_ok {dr:Bool}{ty t:TypeId}{s:St S}{x:Operand}{f:Nat}{k:KK S R}{r:R}(h:fdE B s t x f k=some r):∃v s',Sat P tb dr (.field t x f) ty s v s'∧k v s'=some r:=by
 unfold fdE at h
 split at h
 ·rename_i o j ho
  obtain⟨i,fs,tt,h1,h2,h3,h4,h5⟩:=FZ ho
  split at h
  ·rename_i a hx
   split at h
   ·rename_i b hb
    split at h
    ·rename_i hc
     rw[c8,c8,c8] at hc
     obtain⟨⟨⟨c1,c2⟩,c3⟩,c4⟩:=hc
     have BT:evD s.tmD x=.ag a.cells:=by rw[(bM hx).1,yp c1]
     have hz:=f7 c3
     obtain⟨F',hP⟩:=GU B.fl (p:=[.f f o]) hb
     have hoff:xT [.f f o]=o:=by show 0+o=o;omega
     rw[hoff] at hP
     refine⟨b,s,.here ?_ fun hk o' mM=>rT hx hk.1 o' (uB hb o' mM),h⟩
     have hg:=eq_of_beq c4
     cases hA:b.isA with
     |true=>
      rw[yp hA]
      have hl:b.cells.length=j.size:=by rw[TV.szB_eq,hz]
      refine T_fldA h1 h4 h2 h3 (by rw[←hg,hA]) BT ?_ (by rw[←hl];exact hP.g)
      apply Nat.ble_eq_true_of_le
      rw[←hl];exact hP.le
     |false=>
      have wV:=CD hA c2
      rw[wV] at hP
      refine UI h1 h4 h2 h3 (by rw[←hg,hA]) BT ?_
      have h:=hP.g
      have hle:=hP.le
      have:((a.cells.drop o).take 1)[0]? =some b.toD:=by rw[show (1:Nat)=[b.toD].length from rfl,h];rfl
      rw[fY,ifp_,nt,i9] at this
      exact this
    ·cases h
   ·cases h
  ·cases h
 ·cases h
end
end
section
def dgd {R:Type}(c:Prop)[Decidable c](k:c→Option R):Option R:=if h:c then k h else none
theorem Kv {R:Type}{c:Prop}{_:Decidable c}{k:c→Option R}{r:R}(h:dgd c k=some r):∃hc:c,k hc=some r:=by
 unfold dgd at h
 split at h
 ·rename_i hc;exact⟨hc,h⟩
 ·cases h
section
variable [eH] {S:SD} {R:Type} {P:Program} {tb:TypeId→Option TyE} {B:Tb P tb S}
def lsE:TV S→Option ((u:T)×List (u.den S))
 | .v (.sl u) l=>some ⟨u,l⟩
 | .own _ _ u l=>some ⟨u,l⟩
 | .fu u l=>some ⟨u,l⟩
 |_=>none
theorem JV {a:TV S}{u:T}{l:List (u.den S)}(h:lsE a=some ⟨u,l⟩):(∀z,(u.cd S).sz=z→a.toD.asSl z=some (l.length,l.flatMap (u.cd S).f))∧a.toD.strOf=none∧∀b,a.toD≠dS b:=by
 unfold lsE at h
 split at h
 ·cases h
  simp only[TV.toD]
  exact⟨fun z hz=>by subst hz;exact an rfl,rfl,fun b h=>by unfold vD at h;cases h⟩
 ·cases h
  simp only[TV.toD]
  exact⟨fun z hz=>by subst hz;exact an rfl,rfl,fun b h=>by cases h⟩
 ·cases h
  simp only[TV.toD]
  exact⟨fun z hz=>by subst hz;exact an rfl,rfl,fun b h=>by cases h⟩
 ·cases h
theorem Sk {v:Int}{n:Nat}(h:0≤v∧v<(n:Int)):v.toNat<n:=by omega
theorem fp_id(u:T)(l:List (u.den S))(n:Nat):∃F',a8 ((u.cd S).f (gE u l n)) (u.cd S) 0 (gE u l n) F':=⟨_,a8.id _ _⟩
def iaS(u:T)(l:List (u.den S))(v:Int)(kk:TV S→Option R):Option R:=dgd (0≤v∧v<(l.length:Int)) fun h=>kk (.fp u l v.toNat (Sk h) u 0 (gE u l v.toNat) (fp_id u l v.toNat))
def iaA(m n z:Nat)(p:List Stp)(v:Int)(kk:TV S→Option R):Option R:=dgd (0≤v∧v<(n:Int)) fun h=>kk (.pt m (.x n v.toNat z (Sk h)::p))
def iaE(s:St S)(t:TypeId)(x y:Operand)(k:KK S R):Option R:=match tb t with
 |some ti=>match ti.ty with
  | .slice e=>match tb e,opd s.tm x,opd s.tm y with
   |some j,some a,some (.v (.int _) v)=>match lsE a with
    |some ⟨u,l⟩=>if (u.cd S).sz=j.size then iaS u l v (fun v=>k v s) else none
    |none=>none
   |_,_,_=>none
  | .arr n e=>match tb e,opd s.tm x,opd s.tm y with
   |some j,some (.pt m p),some (.v (.int _) v)=>iaA m n j.size p v (fun v=>k v s)
   |_,_,_=>none
  |_=>none
 |none=>none
theorem iaE_ok {dr:Bool}{ty t:TypeId}{s:St S}{x y:Operand}{k:KK S R}{r:R}(h:iaE (tb:=tb) s t x y k=some r):∃v s',Sat P tb dr (.indexAddr t x y) ty s v s'∧k v s'=some r:=by
 unfold iaE at h
 split at h
 ·rename_i ti uK
  split at h
  ·rename_i e he
   split at h
   ·rename_i j a kn v hj hx hy
    split at h
    ·rename_i u l hl
     split at h
     ·rename_i hz
      obtain⟨hb,h⟩:=Kv h
      refine⟨_,s,.here ?_ fun _=>gS (by simp only[TV.owns]),h⟩
      simp only[TV.toD]
      rw[hz,i9]
      exact UH (n:=l.length) hb uK hj he (by rw[(bM hx).1];exact (JV hl).1 _ hz) ((bM hy).1.trans (rV _ _))
     ·cases h
    ·cases h
   ·cases h
  ·rename_i n e he
   split at h
   ·rename_i j m p kn v hj hx hy
    obtain⟨hb,h⟩:=Kv h
    refine⟨_,s,.here ?_ fun _=>gS (by simp only[TV.owns]),h⟩
    simp only[TV.toD]
    exact s8 hb uK hj he (by rw[(bM hx).1];simp only[TV.toD]) ((bM hy).1.trans (rV _ _))
   ·cases h
  ·cases h
 ·cases h
def ixA(n:Nat)(u:T)(y:Vector (u.den S) n)(v:Int)(kk:TV S→Option R):Option R:=dgd (0≤v∧v<(n:Int)) fun _=>kk (.v u (gV u y v.toNat))
def ixS(b:ByteArray)(v:Int)(kk:TV S→Option R):Option R:=gd (0≤v∧v<(b.size:Int)) (kk (iv .u8 (sAt b v.toNat)))
def ixE(s:St S)(t:TypeId)(x y:Operand)(k:KK S R):Option R:=match tb t with
 |some ti=>match ti.ty with
  | .str=>match opd s.tm x,opd s.tm y with
   |some (.v .str b),some (.v (.int _) v)=>ixS b v (fun v=>k v s)
   |_,_=>none
  | .arr n e=>match tb e,opd s.tm x,opd s.tm y with
   |some j,some (.v (.arr m u) a),some (.v (.int _) v)=>if n=m∧(u.cd S).sz=j.size∧j.ty.agg=u.agg then ixA m u a v (fun v=>k v s) else none
   |_,_,_=>none
  |_=>none
 |none=>none
def Cq:Operand→Operand→Bool
 | .tmp a,.tmp b=>Nat.beq a b
 |_,_=>false
def lenI(n:Int)(kk:TV S→Option R):Option R:=kk (iv .i64 n)
def lenE(s:St S)(t:TypeId)(x:Operand)(k:KK S R):Option R:=match tb t with
 |some ti=>match ti.ty with
  | .str=>match opd s.tm x with
   |some (.v .str b)=>lenI (ByteArray.size b) (fun v=>k v s)
   |_=>none
  | .arr n _=>lenI n (fun v=>k v s)
  | .slice e=>match tb e,opd s.tm x with
   |some j,some a=>match lsE a with
    |some ⟨u,l⟩=>if (u.cd S).sz=j.size then lenI l.length (fun v=>k v s) else none
    |none=>none
   |_,_=>none
  |_=>none
 |none=>none
theorem lenE_ok {dr:Bool}{ty t:TypeId}{s:St S}{x:Operand}{k:KK S R}{r:R}(h:lenE (tb:=tb) s t x k=some r):∃v s',Sat P tb dr (.call ⟨.builtin .len,#[x],#[t]⟩) ty s v s'∧k v s'=some r:=by
 unfold lenE at h
 split at h
 ·rename_i ti uK
  split at h
  ·rename_i he
   split at h
   ·rename_i b hx
    refine⟨_,s,.here ?_ fun _=>gS (by simp only[TV.owns]),h⟩
    rw[rV]
    exact ID uK he ((bM hx).1.trans (Jm _))
   ·cases h
  ·rename_i n e he
   refine⟨_,s,.here ?_ fun _=>gS (by simp only[TV.owns]),h⟩
   rw[rV]
   exact Nk uK he
  ·rename_i e he
   split at h
   ·rename_i j a hj hx
    split at h
    ·rename_i u l hl
     split at h
     ·rename_i hz
      refine⟨_,s,.here ?_ fun _=>gS (by simp only[TV.owns]),h⟩
      rw[rV]
      exact UE uK hj he (by rw[(bM hx).1];exact (JV hl).1 _ hz)
     ·cases h
    ·cases h
   ·cases h
  ·cases h
 ·cases h
end
end
section
section
variable [eH] {S:SD} {R:Type} {P:Program} {tb:TypeId→Option TyE} {B:Tb P tb S}
def plS(tb:TypeId→Option TyE)(fs:List (Nat×TypeId))(i:Nat):Option (Stp×Nat):=match fs[i]? with
 |some (o,tt)=>match tb tt with
  |some j=>some (.f i o,j.size)
  |none=>none
 |none=>none
def plA(z:Nat)(c:TV S)(i:Nat):Option (Stp×Nat):=match c with
 | .v (.arr m _) _=>if h:i<m then some (.x m i z h,z) else none
 |_=>some (.f i (i*z),z)
def bld(B:Tb P tb S)(s:St S)(pl:TV S→Nat→Option (Stp×Nat)):List (Nat×Operand)→TV S→Option (TV S)
 |[],c=>some c
 |(i,x)::ps,c=>match opd s.tm x,pl c i with
  |some a,some (st,z)=>if (a.isC&&Nat.beq a.szB z)=true then match sub B.fl [st] c,upd B.fl [st] c a with
    |some b,some c'=>if Nat.beq a.szB b.szB=true then bld B s pl ps c' else none
    |_,_=>none
   else none
  |_,_=>none
theorem MA {s:St S}{pl:TV S→Nat→Option (Stp×Nat)}{place:Nat→Option (Nat×Nat)}(Oj:∀c i st z,pl c i=some (st,z)→place i=some (st.off,z)):∀{ps:List (Nat×Operand)} {c c':TV S},bld B s pl ps c=some c'→
  ∃qs,g6 (ps.map fun p=>(p.1,evD s.tmD p.2))=some qs∧fJ place c.cells qs=some c'.cells∧∀o∈c'.owns,o∈c.owns∨∃x a,opd s.tm x=some a∧o∈a.owns
 |[],c,c',h=>by
  unfold bld at h
  cases h
  exact⟨[],rfl,rfl,fun o ho=>.inl ho⟩
 |(i,x)::ps,c,c',h=>by
  unfold bld at h
  split at h
  ·rename_i a st z hx hp
   split at h
   ·rename_i hc
    rw[c8] at hc
    split at h
    ·rename_i b c1 hb HK
     split at h
     ·rename_i hz
      obtain⟨qs,h1,h2,h3⟩:=MA Oj h
      obtain⟨F',hP,hF⟩:=Rv B.fl (p:=[st]) hb HK
      have hoff:xT [st]=st.off:=by show 0+st.off=st.off;omega
      rw[hoff] at hP
      have hza:=f7 hc.2
      have hzb:=f7 hz
      have hl:a.cells.length=b.cells.length:=by rw[TV.szB_eq,TV.szB_eq,hzb]
      refine⟨(i,a.cells)::qs,?_,?_,fun o ho=>?_⟩
      ·rw[gZ]
       unfold g6
       rw[(bM hx).1,TV.toD_cells hc.1,h1]
      ·unfold fJ
       rw[Oj _ _ _ _ hp]
       dsimp only
       rw[az]
       ·rw[hl,hP.p _ hl,hF]
        exact h2
       ·have:=hP.le
        rw[TV.szB_eq,hza]
        rw[←hl,TV.szB_eq,hza] at this
        omega
      ·rcases h3 o ho with h4|h4
       ·rcases uz HK o h4 with h5|h5
        ·exact .inr ⟨x,a,hx,h5⟩
        ·exact .inl h5
       ·exact .inr h4
     ·cases h
    ·cases h
   ·cases h
  ·cases h
theorem plS_ok {fs:List (Nat×TypeId)}(c:TV S)(i:Nat)(st:Stp)(z:Nat)(h:plS tb fs i=some (st,z)):mV tb fs i=some (st.off,z):=by
 unfold plS at h
 unfold mV
 split at h
 ·rename_i o tt ho
  split at h
  ·rename_i j hj
   cases h
   rw[ho]
   dsimp only
   rw[hj];rfl
  ·cases h
 ·cases h
theorem plA_ok {z:Nat}(c:TV S)(i:Nat)(st:Stp)(z':Nat)(h:plA z c i=some (st,z')):(fun n=>some (n*z,z):Nat→Option (Nat×Nat)) i=some (st.off,z'):=by
 unfold plA at h
 split at h
 ·split at h
  ·cases h;rfl
  ·cases h
 ·cases h;rfl
def buiE(B:Tb P tb S)(s:St S)(t:TypeId)(ps:List (Nat×Operand))(k:KK S R):Option R:=match tb t,B.zt t with
 |some i,some z=>match i.ty with
  | .struct fs=>if (fs.all fun f=>(tb f.2).isSome)=true then match bld B s (fun _=>plS tb fs) ps z.a with
    |some c=>if c.isA=true then k c s else none
    |none=>none
   else none
  | .arr _ e=>match tb e with
   |some j=>match bld B s (plA j.size) ps z.a with
    |some c=>if c.isA=true then k c s else none
    |none=>none
   |none=>none
  |_=>none
 |_,_=>none
theorem buiE_ok {dr:Bool}{ty t:TypeId}{s:St S}{ps:List (Nat×Operand)}{k:KK S R}{r:R}(h:buiE B s t ps k=some r):∃v s',Sat P tb dr (.build t ps.toArray) ty s v s'∧k v s'=some r:=by
 unfold buiE at h
 split at h
 ·rename_i i z hi hz
  obtain⟨i',sM,hc⟩:=z.ok
  rw[hi] at sM
  cases sM
  have Br:(i.zero.map fun v=>D.e (.lit v))=z.a.cells:=by rw[←hc];unfold dC;rw[kP];rfl
  split at h
  ·rename_i fs FN
   split at h
   ·rename_i ha
    split at h
    ·rename_i c hb
     split at h
     ·rename_i hA
      obtain⟨qs,h1,h2,h3⟩:=MA (place:=mV tb fs) (fun c i st z=>plS_ok c i st z) hb
      refine⟨c,s,.here ?_ fun hk o ho=>?_,h⟩
      ·rw[yp hA]
       exact cp hi FN ha h1 (by rw[Br];exact h2)
      ·rcases h3 o ho with h4|⟨x,a,hx,h4⟩
       ·rw[z.no] at h4;cases h4
       ·exact rT hx hk.1 o h4
     ·cases h
    ·cases h
   ·cases h
  ·rename_i n e he
   split at h
   ·rename_i j hj
    split at h
    ·rename_i c hb
     split at h
     ·rename_i hA
      obtain⟨qs,h1,h2,h3⟩:=MA (place:=fun n=>some (n*j.size,j.size)) (fun c i st z=>plA_ok c i st z) hb
      refine⟨c,s,.here ?_ fun hk o ho=>?_,h⟩
      ·rw[yp hA]
       exact kB hi hj he h1 (by rw[Br];exact h2)
      ·rcases h3 o ho with h4|⟨x,a,hx,h4⟩
       ·rw[z.no] at h4;cases h4
       ·exact rT hx hk.1 o h4
     ·cases h
    ·cases h
   ·cases h
  ·cases h
 ·cases h
def T6(B:Tb P tb S)(s:St S)(u:T):List (Nat×Operand)→Nat→Option (List (u.den S))
 |[],_=>some []
 |(i,x)::ps,m=>if Nat.beq i m=true then match opd s.tm x with
   |some a=>match asT B.fl true u a,T6 B s u ps (m+1) with
    |some y,some l=>some (y::l)
    |_,_=>none
   |none=>none
  else none
theorem ON {s:St S}{u:T}:∀{ps:List (Nat×Operand)} {m:Nat} {l:List (u.den S)},T6 B s u ps m=some l→g6 (ps.map fun p=>(p.1,evD s.tmD p.2))=some ((l.zipIdx m).map fun p=>(p.2,dC ((u.cd S).f p.1)))
 |[],m,l,h=>by unfold T6 at h;cases h;rfl
 |(i,x)::ps,m,l,h=>by
  unfold T6 at h
  split at h
  ·rename_i hi
   obtain rfl:=f7 hi
   split at h
   ·rename_i a hx
    split at h
    ·rename_i y l' hy hl
     cases h
     rw[gZ]
     unfold g6
     rw[(bM hx).1,ME hy,Jh,ON hl]
     rfl
    ·cases h
   ·cases h
  ·cases h
def bslE(B:Tb P tb S)(dr:Bool)(s:St S)(t:TypeId)(n:Nat)(ps:List (Nat×Operand))(k:KK S R):Option R:=match elT B t with
 |some (e,j,u)=>match n with
  |0=>match ps with
   |[]=>k (.own s.nx 0 u []) (zD s u [] j.size e)
   |_=>none
  |n+1=>match T6 B s u ps 0 with
   |some l=>if (Nat.beq l.length (n+1)&&Nat.ble ((n+1)*j.size) 16777216)=true then match dr with
     |true=>k (.fu u l) s
     |false=>k (.own s.nx 0 u l) (zD s u l j.size e)
    else none
   |none=>none
 |none=>none
theorem bslE_ok {dr:Bool}{ty t:TypeId}{s:St S}{n:Nat}{ps:List (Nat×Operand)}{k:KK S R}{r:R}(h:bslE B dr s t n ps k=some r):∃v s',Sat P tb dr (.buildSlice t n ps.toArray) ty s v s'∧k v s'=some r:=by
 unfold bslE at h
 split at h
 ·rename_i e j u he
  obtain⟨i,h1,h2,h3,h4,h5⟩:=Dl he
  split at h
  ·split at h
   ·refine⟨_,zD s u [] j.size e,⟨?_,rfl,BM,ex_O⟩,h⟩
    simp only[TV.toD]
    have:=UL (P:=P) (dr:=dr) (ty:=ty) (ev:=evD s.tmD) (vs:=vsL s.vs) (lv:=lvL s.lv) (N0:=s.nx) h1 h3 h2 h5
    rw[←h4] at this
    rw[←h4]
    exact this
   ·cases h
  ·rename_i n'
   split at h
   ·rename_i l hl
    split at h
    ·rename_i hc
     rw[c8] at hc
     have hn:=f7 hc.1
     have hp1:=ON hl
     split at h
     ·refine⟨_,s,.here ?_ fun _=>gS (by simp only[TV.owns]),h⟩
      simp only[TV.toD]
      exact ka l (u.cd S) h1 h3 h2 h4 h5 hn hc.2 hp1 rfl
     ·refine⟨_,zD s u l j.size e,⟨?_,rfl,BM,ex_O⟩,h⟩
      simp only[TV.toD]
      exact pP (vs:=vsL s.vs) (lv:=lvL s.lv) (N0:=s.nx) l (u.cd S) h1 h3 h2 h4 h5 hn hc.2 hp1 rfl
    ·cases h
   ·cases h
 ·cases h
theorem Jk:∀{l:List (TV S)} {i:Nat} {a:TV S},l[i]? =some a→(GN l)[i]? =some a.toD
 |b::l,0,a,h=>by
  have h:b=a:=by simpa using h
  subst h
  simp only[GN];rfl
 |b::l,i+1,a,h=>by
  simp only[GN]
  rw[Iy]
  exact Jk (by simpa using h)
 |[],_,_,h=>by simp at h
def extE(s:St S)(x:Operand)(i:Nat)(k:KK S R):Option R:=match opd s.tm x with
 |some (.tu l)=>match l[i]? with
  |some a=>k a s
  |none=>none
 |_=>none
theorem extE_ok {dr:Bool}{ty:TypeId}{s:St S}{x:Operand}{i:Nat}{k:KK S R}{r:R}(h:extE s x i k=some r):∃v s',Sat P tb dr (.extract x i) ty s v s'∧k v s'=some r:=by
 unfold extE at h
 split at h
 ·rename_i l hx
  split at h
  ·rename_i a ha
   refine⟨a,s,.here (Pe (by rw[(bM hx).1];simp only[TV.toD]) (Jk ha)) fun hk o ho=>?_,h⟩
   exact rT hx hk.1 o (by simp only[TV.owns];exact nh.2 ⟨a,bL ha,ho⟩)
  ·cases h
 ·cases h
def Tup(S:SD):List T→Type
 |[]=>Unit
 |[t]=>t.den S
 |t::u::l=>t.den S×Tup S (u::l)
inductive Pa where
 |d (t:T)
 |f (g:FuncId)
def paT:List Pa→List T
 |[]=>[]
 | .d t::l=>t::paT l
 | .f _::l=>paT l
def Dv {S:SD}(t:T)(x:t.den S):(l:List T)→Tup S l→Tup S (t::l)
 |[],_=>x
 |_::_,y=>(x,y)
def hdU {S:SD}{t:T}:{l:List T}→Tup S (t::l)→t.den S
 |[],x=>x
 |_::_,x=>x.1
def tlU {S:SD}{t:T}:{l:List T}→Tup S (t::l)→Tup S l
 |[],_=>()
 |_::_,x=>x.2
theorem HI {t:T}{x:t.den S}:∀{l:List T} {y:Tup S l},hdU (Dv t x l y)=x
 |[],_=>rfl
 |_::_,_=>rfl
theorem GQ {t:T}{x:t.den S}:∀{l:List T} {y:Tup S l},tlU (Dv t x l y)=y
 |[],_=>rfl
 |_::_,_=>rfl
def paD:(l:List Pa)→Tup S (paT l)→List D
 |[],_=>[]
 | .d t::l,x=>vD t (hdU (t:=t) (l:=paT l) x)::paD l (tlU (t:=t) (l:=paT l) x)
 | .f g::l,x=>.e (.lit (.func (.func g) #[] #[]))::paD l x
inductive Re where
 |d (t:T)
 |o (e:TypeId) (t:T)
 |m (l:List T)
def Re.T'(S:SD):Re→Type
 | .d t=>t.den S
 | .o _ t=>List (t.den S)
 | .m l=>Tup S l
def tuD:(l:List T)→Tup S l→List D
 |[],_=>[]
 |t::l,x=>vD t (hdU x)::tuD l (tlU x)
def tuV:(l:List T)→Tup S l→List (TV S)
 |[],_=>[]
 |t::l,x=>.v t (hdU x)::tuV l (tlU x)
theorem tuV_D:∀(l:List T) (x:Tup S l),GN (tuV l x)=tuD l x
 |[],_=>by simp only[tuV,tuD,GN]
 |t::l,x=>by simp only[tuV,tuD,GN,TV.toD];rw[tuV_D l]
theorem Rn:∀(l:List T) (x:Tup S l),pT (tuV l x)=[]
 |[],_=>by simp only[tuV,pT]
 |t::l,x=>by simp only[tuV,pT,TV.owns];rw[Rn l];rfl
def reD:(re:Re)→re.T' S→D
 | .d t,x=>vD t x
 | .o e t,x=>.own e (t.cd S).sz (List.length x) (List.flatMap (t.cd S).f x)
 | .m l,x=>.tu (tuD l x)
structure Ctr(P:Program)(S:SD) where
 f:FuncId
 ps:List Pa
 re:Re
 g:Tup S (paT ps)→Option (re.T' S)
 ok:∀x y,g x=some y→ar P f (paD ps x) (reD re y)
def gO {α:Type}(c:Bool)(o:Option α):Option α:=match c with
 |true=>o
 |false=>none
theorem HS {α:Type}{c:Bool}{o:Option α}{y:α}(h:gO c o=some y):c=true∧o=some y:=by
 cases c with
 |true=>exact⟨rfl,h⟩
 |false=>cases h
def isF(s:St S)(x:Operand)(g:FuncId):Bool:=match opd s.tm x with
 |some (.fl g')=>Nat.beq g g'
 |_=>false
theorem isF_D {s:St S}{x:Operand}{g:FuncId}(h:isF s x g=true):evD s.tmD x=.e (.lit (.func (.func g) #[] #[])):=by
 unfold isF at h
 split at h
 ·rename_i g' hx
  obtain rfl:=f7 h
  rw[(bM hx).1];simp only[TV.toD]
 ·cases h
def H9(B:Tb P tb S)(s:St S):(l:List Pa)→List Operand→Option (Tup S (paT l))
 |[],[]=>some ()
 | .d t::l,x::xs=>match opd s.tm x,H9 B s l xs with
  |some a,some y=>match asT B.fl false t a with
   |some z=>some (Dv t z (paT l) y)
   |none=>none
  |_,_=>none
 | .f g::l,x::xs=>gO (isF s x g) (H9 B s l xs)
 |_,_=>none
theorem H8 {s:St S}:∀{l:List Pa} {xs:List Operand} {y:Tup S (paT l)},H9 B s l xs=some y→leL ((xs.map (evD s.tmD)).map D.ex) (paD l y)∧((xs.map (evD s.tmD)).map D.ex).all D.pure=true
 |[],[],y,_=>⟨trivial,rfl⟩
 | .d t::l,x::xs,y,h=>by
  unfold H9 at h
  split at h
  ·rename_i a y' hx hl
   split at h
   ·rename_i z hz
    cases h
    obtain⟨h1,h2⟩:=H8 hl
    rw[gZ,gZ,jL,(bM hx).1,asT_pex hz,h2]
    refine⟨?_,rfl⟩
    show leL _ (vD t (hdU (Dv t z (paT l) y'))::paD l (tlU (Dv t z (paT l) y')))
    rw[HI,GQ]
    exact⟨asT_ex hz,h1⟩
   ·cases h
  ·cases h
 | .f g::l,x::xs,y,h=>by
  unfold H9 at h
  obtain⟨hg,h⟩:=HS (α:=Tup S (paT l)) h
  obtain⟨h1,h2⟩:=H8 h
  rw[gZ,gZ,jL,isF_D hg,h2]
  exact⟨⟨ao _,h1⟩,rfl⟩
 |[],_::_,_,h=>by unfold H9 at h;cases h
 | .d _::_,[],_,h=>by unfold H9 at h;cases h
 | .f _::_,[],_,h=>by unfold H9 at h;cases h
def fits(B:Tb P tb S)(s:St S):List Pa→List Operand→Bool
 |[],[]=>true
 | .d _::l,_::xs=>fits B s l xs
 | .f g::l,x::xs=>isF s x g&&fits B s l xs
 |_,_=>false
def H0(B:Tb P tb S):List (Ctr P S)→FuncId→List Operand→St S→Option (Ctr P S)
 |[],_,_,_=>none
 |c::l,f,xs,s=>if (Nat.beq c.f f&&fits B s c.ps xs)=true then some c else H0 B l f xs s
theorem Kx:∀{l:List (Ctr P S)} {f:FuncId} {xs:List Operand} {s:St S} {c:Ctr P S},H0 B l f xs s=some c→c.f=f
 |c::l,f,xs,s,c',h=>by
  unfold H0 at h
  split at h
  ·rename_i hf
   cases h
   rw[c8] at hf
   exact f7 hf.1
  ·exact Kx h
def resE(s:St S)(k:KK S R):(re:Re)→re.T' S→Option R
 | .d t,x=>k (.v t x) s
 | .o e t,x=>k (.own s.nx 0 t x) (zD s t x (t.cd S).sz e)
 | .m l,x=>k (.tu (tuV l x)) s
def okRe:Re→Bool
 | .o _ _=>false
 |_=>true
def calE(B:Tb P tb S)(C:List (Ctr P S))(nc:Bool)(s:St S)(x:Operand)(xs:List Operand)(k:KK S R):Option R:=match opd s.tm x with
 |some (.fl f)=>match H0 B C f xs s with
  |some c=>match H9 B s c.ps xs with
   |some y=>if (nc||okRe c.re)=true then bnd (c.g y) fun z=>resE s k c.re z else none
   |none=>none
  |none=>none
 |_=>none
end
end
section
section
variable {P:Program} {tb:TypeId→Option TyE} {md:Md} {ev:Operand→D} {hp:Hp} {t e ty2:TypeId} {ti j:TyE} {x y:Operand} {dst:Option Tmp} {pos:String} {af:Array Edge} {gd:Option (Nat×Bool)}
theorem sMkD {α:Type}{c:Cd α}{z0:α}{kl kc:IntKind}{v:Int}(tok:TOk P tb)(hb:0≤v∧v≤1000000)(ht:tb t=some ti)(he:tb e=some j)(hz:j.zero.map E.lit=c.f z0)(hsz0:c.sz=j.size)(hpos:0<j.size)(uK:ti.ty=.slice e)(hx:ev x=dI kl v)(hy:ev y=dI kc v)(hbt:Nat.ble j.bytes 100000000=true):
  mz P tb md ⟨dst,.makeSlice t x y,ty2,pos,af,gd⟩ ev hp (dL c (List.replicate v.toNat z0)) hp:=by
 refine (Snd.loud (dr:=md.dr) (.step fun B g w a hr vX=>?_) (fun _=>rfl) fun _=>⟨aC _,fun j hj=>rfl⟩).q (by cases md <;> rfl)
 have h1:=vX x (by simp[Op.operands])
 have h2:=vX y (by simp[Op.operands])
 rw[hx] at h1;rw[hy] at h2
 obtain⟨f,zz,Oo,Kd,S8,hf3,S7,_⟩:=tok.inf he
 have hbt':f.bytes≤100000000:=by rw[S8];exact cD hbt
 obtain⟨m,rfl⟩:∃m:Nat,v=m:=⟨v.toNat,by omega⟩
 have hm:m≤1000000:=by omega
 have FK:f.bytes*m≤281474976710656:=cg (gG hbt' hm) (by decide)
 have bm:=run_make (P:=P) w t e f zz (tok.slice ht uK) Oo hf3 kl kc m m (by omega) (by omega) (by rw[←ob];exact Int.ofNat_le.2 FK) (by omega)
 rw[aD] at bm
 have hsz:zz.cells.size=f.size:=by
  have h4:=(tok e j he).2.2.1
  rw[←dY,S7,h4,Kd]
 have Kb:=zO zz.cells f.size hsz m
 have Oq:(List.replicate m z0).flatMap c.f=(madeCells zz.cells (m*f.size)).toList.map E.lit:=by
  rw[Kb,S7,List.map_flatten,DG,hz,List.flatMap_def,DG]
 have h1c:∀u∈(madeCells zz.cells (m*f.size)).toList,u.oneCell'=true:=by
  intro u hu
  rw[Kb,S7] at hu
  obtain⟨l,hl,Le⟩:=List.mem_flatten.1 hu
  obtain rfl:=(Ii.1 hl).2
  exact bx.1 (tok e j he).2.2.2 u Le
 have hs:w.heap.size≤(w.alloc (.cells (madeCells zz.cells (m*f.size)) e)).heap.size:=by simp
 have hbk:∀b,b<w.heap.size→(w.alloc (.cells (madeCells zz.cells (m*f.size)) e)).heap[b]? =w.heap[b]? :=fun b hb=>Below.heap_alloc w _ b hb
 have C5:bu hp g w hp g (w.alloc (.cells (madeCells zz.cells (m*f.size)) e)):=⟨hs,fun _ hq _=>World.cell?_of_block (hbk _ hq),fun _ _ h=>h,aC _,fun _ _=>rfl,fun _ _ m _ h=>⟨m,h,aC _,fun _=>rfl⟩,fun b hq h=>⟨hbk b hq,fun _ _ h=>h,h⟩,fun b=>.same (hbk b)⟩
 refine⟨.slice (some ⟨w.heap.size,0,none⟩) m m,g,w.alloc (.cells (madeCells zz.cells (m*f.size)) e),?_,hr.keep hs hbk,C5,?_,(Below.refl _ _).alloc hr.base _,fun p _ h=>h⟩
 ·have e1:=h1.lit
  have e2:=h2.lit
  simp only[execOp,e1,e2,Sem.run_bind,bm,Result.andThen_ok]
  rfl
 ·rw[aD]
  show aF hp g _ (.e (.sl c.sz (List.replicate m z0).length ((List.replicate m z0).flatMap c.f))) _
  rw[ny,Oq]
  refine .e _ _ (.sl _ _ _ _ _ (fun i=>((madeCells zz.cells (m*f.size)).toList[i]?).getD undef) ?_ (by omega) (aC _) (by unfold maxLen;omega) (fun _=>⟨_,rfl,by simp⟩) (fun ad Mr i x hx=>?_) (fun i x hx=>?_))
  ·rw[bc,dY,hsz0,←Kd]
   unfold madeCells
   simp
  ·cases Mr
   rw[bE] at hx
   cases hu:(madeCells zz.cells (m*f.size)).toList[i]? with
   |none=>rw[hu] at hx;cases hx
   |some u=>
    rw[hu] at hx
    have hadd:(⟨w.heap.size,0,none⟩:Addr).add i=⟨w.heap.size,i,none⟩:=by
     unfold Addr.add
     split
     ·rename_i h0;rw[h0]
     ·rw[cj]
    rw[hadd]
    refine⟨?_,fun hF=>?_⟩
    ·have hh:(w.alloc (.cells (madeCells zz.cells (m*f.size)) e)).heap[w.heap.size]? =some (.cells (madeCells zz.cells (m*f.size)) e):=by
      show (w.heap.push _)[w.heap.size]? =_
      simp
     unfold World.cell?
     dsimp only
     rw[hh]
     have te:(madeCells zz.cells (m*f.size))[i]? =some u:=by simpa using hu
     rw[wv,←te]
     exact az (by decide)
    ·exact absurd (hr.fits _ hF) (u3 _)
  ·rw[bE] at hx
   cases hu:(madeCells zz.cells (m*f.size)).toList[i]? with
   |none=>rw[hu] at hx;cases hx
   |some u=>
    rw[hu] at hx
    cases hx
    exact .lit u (h1c u (bL hu))
end
end
section
section
variable [eH] {S:SD} {R:Type} {P:Program} {tb:TypeId→Option TyE} {B:Tb P tb S} {C:List (Ctr P S)} {md:Md}
def UP(P:Program)(tb:TypeId→Option TyE)(md:Md)(op:Op)(ty:TypeId)(s:St S)(v:TV S)(s':St S):Prop:=
 (∀dst pos af gd,mz P tb md ⟨dst,op,ty,pos,af,gd⟩ (evD s.tmD) s.hp v.toD s'.hp)∧s'.tm=s.tm∧(s.Ok→s'.Ok∧OV s'.lv s'.nx v)∧Ex s s'
theorem Sat.q(tok:TOk P tb){op:Op}{ty:TypeId}{s s':St S}{v:TV S}(h:Sat P tb md.dr op ty s v s')(hn:md.nc tb op=true):UP P tb md op ty s v s':=
 ⟨fun dst pos af gd=>(AVC.snd tok (o:=⟨dst,op,ty,pos,af,gd⟩) h.1).q hn,h.2⟩
theorem Sat.q'(tok:TOk P tb){op:Op}{ty:TypeId}{s:St S}{k:KK S R}{r:R}(h:∃v s',Sat P tb md.dr op ty s v s'∧k v s'=some r)(hn:md.nc tb op=true):∃v s',UP P tb md op ty s v s'∧k v s'=some r:=by
 obtain⟨v,s',h1,h2⟩:=h
 exact⟨v,s',h1.q tok hn,h2⟩
theorem resE_ok {s:St S}{k:KK S R}{r:R}{re:Re}{z:re.T' S}(h:resE s k re z=some r)(ho:∀e t,re≠.o e t):∃v,k v s=some r∧v.toD=reD re z∧v.owns=[]∧((reD re z).pure=true∨∃ds,reD re z=.tu ds):=by
 cases re with
 |d t=>exact⟨_,h,by simp only[TV.toD];rfl,by simp only[TV.owns],.inl (rl _ _)⟩
 |o e t=>exact absurd rfl (ho e t)
 |m l=>exact⟨_,h,by simp only[TV.toD];exact congrArg D.tu (tuV_D l z),by simp only[TV.owns];exact Rn _ _,.inr ⟨_,rfl⟩⟩
theorem calE_ok(tok:TOk P tb){ty:TypeId}{s:St S}{x:Operand}{xs:List Operand}{ts:Array TypeId}{k:KK S R}{r:R}(h:calE B C (md.nc tb (.call ⟨.value x,xs.toArray,ts⟩)) s x xs k=some r):∃v s',UP P tb md (.call ⟨.value x,xs.toArray,ts⟩) ty s v s'∧k v s'=some r:=by
 unfold calE at h
 split at h
 ·rename_i f hx
  split at h
  ·rename_i c hc
   split at h
   ·rename_i y hy
    split at h
    ·rename_i hn
     obtain⟨z,hz,h⟩:=ai h
     obtain⟨h1,h2⟩:=H8 hy
     have hcf:=Kx hc
     have qI:=c.ok y z hz
     rw[hcf] at qI
     have BT:evD s.tmD x=.e (.lit (.func (.func f) #[] #[])):=by rw[(bM hx).1];simp only[TV.toD]
     by_cases ho:∃e t,c.re=.o e t
     ·obtain⟨f',ps,re,g,ok⟩:=c
      obtain⟨e,t,ho⟩:=ho
      dsimp only at ho z hz h qI hn
      subst ho
      rw[show okRe (.o e t)=false from rfl,Bool.or_false] at hn
      refine⟨.own s.nx 0 t z,zD s t z (t.cd S).sz e,?_,h⟩
      refine Sat.q tok (md:=md) ⟨?_,rfl,BM,ex_O⟩ hn
      simp only[TV.toD]
      exact yV (vs:=vsL s.vs) (lv:=lvL s.lv) (N0:=s.nx) BT qI h2 h1
     ·obtain⟨v,q1,q2,q3,q4⟩:=resE_ok h fun e t e'=>ho ⟨e,t,e'⟩
      refine⟨v,s,?_,q1⟩
      cases oo:md.nc tb (.call ⟨.value x,xs.toArray,ts⟩) with
      |true=>
       refine Sat.q tok (.here ?_ fun _=>gS q3) oo
       rw[q2]
       exact Az BT qI h2 h1 q4
      |false=>
       have hf:x=.func f:=by
        cases md with
        |seq=>cases oo
        |any L=>
         have hi:(!inL L (.call ⟨.value x,xs.toArray,ts⟩))=false:=oo
         cases x with
         |func g=>
          have:evD s.tmD (.func g)=.e (.lit (.func (.func g) #[] #[])):=rfl
          rw[this] at BT
          cases BT;rfl
         |tmp t=>exact absurd hi (by simp[inL])
         |const v=>exact absurd hi (by simp[inL])
         |global g=>exact absurd hi (by simp[inL])
       subst hf
       refine⟨fun dst pos af gd=>?_,rfl,fun hk=>⟨hk,gS q3⟩,Ex.refl s⟩
       rw[q2]
       exact LJ tok rfl (ar.le qI h1) h2 q4
    ·cases h
   ·cases h
  ·cases h
 ·cases h
def mkI(v:Int)(k:Nat→Option R):Option R:=gd (0≤v∧v≤1000000) (k v.toNat)
theorem R8 {v:Int}{k:Nat→Option R}{r:R}(h:mkI v k=some r):(0≤v∧v≤1000000)∧k v.toNat=some r:=ax h
def mksE(B:Tb P tb S)(s:St S)(t:TypeId)(x y:Operand)(k:KK S R):Option R:=match Cq x y with
 |true=>match elT B t,opd s.tm x with
  |some (e,j,u),some (.v (.int _) v)=>match B.zt e with
   |some z=>match asT B.fl true u z.a with
    |some z0=>match Nat.ble j.bytes 100000000 with
     |true=>mkI v fun n=>k (.v (.sl u) (List.replicate n z0)) s
     |false=>none
    |none=>none
   |none=>none
  |_,_=>none
 |false=>none
theorem zu {x y:Operand}(h:Cq x y=true):x=y:=by
 unfold Cq at h
 split at h
 ·rw[f7 h]
 ·cases h
theorem TP:∀{l m:List E},dC l=dC m→l=m
 |[],[],_=>rfl
 |a::l,b::m,h=>by
  unfold dC at h
  rw[gZ,gZ] at h
  injection h with h1 h2
  injection h1 with h1
  rw[h1,TP h2]
 |[],_::_,h=>by cases h
 |_::_,[],h=>by cases h
theorem mksE_ok(tok:TOk P tb){ty:TypeId}{s:St S}{t:TypeId}{x y:Operand}{k:KK S R}{r:R}(h:mksE B s t x y k=some r):∃v s',UP P tb md (.makeSlice t x y) ty s v s'∧k v s'=some r:=by
 unfold mksE at h
 split at h
 ·rename_i hxy
  obtain rfl:=zu hxy
  split at h
  ·rename_i e j u kk v he hx
   obtain⟨i,h1,h2,h3,h4,h5⟩:=Dl he
   split at h
   ·rename_i z hz
    split at h
    ·rename_i z0 hz0
     split at h
     ·rename_i hbt
      obtain⟨hb,h⟩:=R8 h
      obtain⟨i',sM,Br⟩:=z.ok
      rw[h3] at sM
      cases sM
      have hc:=(KP B.fl true hz0).2 rfl
      have BT:evD s.tmD x=dI kk v:=by rw[(bM hx).1];exact rV _ _
      refine⟨_,s,⟨fun dst pos af gd=>?_,rfl,fun hk=>⟨hk,gS (by simp only[TV.owns])⟩,Ex.refl s⟩,h⟩
      have:=sMkD (md:=md) (dst:=dst) (pos:=pos) (af:=af) (gd:=gd) (ty2:=ty) (hp:=s.hp) (c:=u.cd S) (z0:=z0) tok hb h1 h3 (TP (Br.trans hc)) h4 (bC Nat.zero_lt_one (cD h5)) h2 BT BT hbt
      exact this
     ·cases h
    ·cases h
   ·cases h
  ·cases h
 ·cases h
def pkE(q:Bool)(x y:Option R):Option R:=match q with
 |true=>x
 |false=>y
theorem RT {q:Bool}{x y:Option R}{r:R}(h:pkE q x y=some r):(q=true∧x=some r)∨(q=false∧y=some r):=by
 cases q
 ·exact .inr ⟨rfl,h⟩
 ·exact .inl ⟨rfl,h⟩
def opE(B:Tb P tb S)(C:List (Ctr P S))(md:Md)(op:Op)(ty:TypeId)(s:St S)(k:KK S R):Option R:=match op with
 | .call ⟨.value x,xs,ts⟩=>calE B C (md.nc tb (.call ⟨.value x,xs,ts⟩)) s x xs.toList k
 | .call ⟨.builtin b,xs,ts⟩=>if md.nc tb (.call ⟨.builtin b,xs,ts⟩)=true then match b,xs.toList,ts.toList with
   | .len,[x],[t]=>lenE (tb:=tb) s t x k
   |_,_,_=>none
  else none
 |op=>if md.nc tb op=true then match op with
   | .move x=>LQ s x k
   | .assign x=>asgE B ty s x k
   | .pick c a b=>match opd s.tm c with
    |some (.v .bool q)=>pkE q (LQ s a k) (LQ s b k)
    |_=>none
   | .alloc t=>alcE B s t k
   | .box _ x=>boxE s x k
   | .build t ps=>buiE B s t ps.toList k
   | .buildSlice t n ps=>bslE B md.dr s t n ps.toList k
   | .load t x=>ldE B s t x k
   | .store t x y=>stE B s t x y k
   | .binOp o t x y _=>match opd s.tm x,opd s.tm y with
    |some a,some b=>binE B o t a b (fun v=>k v s)
    |_,_=>none
   | .unOp o _ x=>match opd s.tm x with
    |some a=>unE o a (fun v=>k v s)
    |_=>none
   | .fieldAddr t x f=>faE B s t x f k
   | .field t x f=>fdE B s t x f k
   | .indexAddr t x i=>iaE (tb:=tb) s t x i k
   | .extract x i=>extE s x i k
   | .makeSlice t x y=>mksE B s t x y k
   |_=>none
  else none
theorem Rm {op:UnOp}{a:TV S}{kk:TV S→Option R}{r:R}(h:unE op a kk=some r):∃v:TV S,(∀{dr:Bool} {ty t:TypeId} {ev:Operand→D} {p:Operand} {hp:Hp},ev p=a.toD→AVC P tb dr (.unOp op t p) ty ev hp (Kq v.toD hp))∧kk v=some r∧v.owns=[]:=by
 unfold unE at h
 split at h
 ·exact⟨_,fun hp=>by rw[ri];exact O6 (hp.trans (ri _)),h,by simp only[TV.owns]⟩
 ·exact⟨_,fun hp=>by rw[rV];exact UD (hp.trans (rV _ _)),h,by simp only[TV.owns]⟩
 ·cases h
theorem zo {α:Type}{a:Array α}{l:List α}(h:a.toList=l):a=l.toArray:=by rw[←h]
theorem RV(tok:TOk P tb){op:Op}{ty:TypeId}{s:St S}{k:KK S R}{r:R}(hk:s.Ok)(h:opE B C md op ty s k=some r):∃v s',UP P tb md op ty s v s'∧k v s'=some r:=by
 unfold opE at h
 split at h
 ·rename_i x xs ts
  exact calE_ok (xs:=xs.toList) tok h
 ·rename_i b xs ts
  split at h
  ·rename_i hn
   split at h
   ·rename_i x t hx ht
    obtain rfl:=zo hx
    obtain rfl:=zo ht
    exact Sat.q' tok (lenE_ok h) hn
   ·cases h
  ·cases h
 ·split at h
  ·rename_i hn
   split at h
   ·exact Sat.q' tok (movE_ok h) hn
   ·exact Sat.q' tok (asgE_ok h) hn
   ·rename_i c a b
    split at h
    ·rename_i q hc
     rcases RT h with⟨hq,h⟩|⟨hq,h⟩
     ·unfold LQ at h
      split at h
      ·rename_i v hv
       refine Sat.q' tok ⟨v,s,.here (vJ (b:=true) rfl ?_ (bM hv).1) fun hk=>rT hv hk.1,h⟩ hn
       rw[(bM hc).1,show q=true from hq];exact ri _
      ·cases h
     ·unfold LQ at h
      split at h
      ·rename_i v hv
       refine Sat.q' tok ⟨v,s,.here (tT (b:=false) rfl ?_ (bM hv).1) fun hk=>rT hv hk.1,h⟩ hn
       rw[(bM hc).1,show q=false from hq];exact ri _
      ·cases h
    ·cases h
   ·exact Sat.q' tok (alcE_ok h) hn
   ·exact Sat.q' tok (boxE_ok h) hn
   ·exact Sat.q' tok (buiE_ok h) hn
   ·exact Sat.q' tok (bslE_ok h) hn
   ·exact Sat.q' tok (ldE_ok h) hn
   ·exact Sat.q' tok (stE_ok h) hn
   ·split at h
    ·rename_i a b hx hy
     obtain⟨v,h1,h2,h3⟩:=binE_ok h
     exact Sat.q' tok ⟨v,s,.here (h1 (bM hx).1 (bM hy).1) fun _=>gS h3,h2⟩ hn
    ·cases h
   ·split at h
    ·rename_i a hx
     obtain⟨v,h1,h2,h3⟩:=Rm (P:=P) (tb:=tb) h
     exact Sat.q' tok ⟨v,s,.here (h1 (bM hx).1) fun _=>gS h3,h2⟩ hn
    ·cases h
   ·exact Sat.q' tok (faE_ok h) hn
   ·exact Sat.q' tok (fdE_ok h) hn
   ·exact Sat.q' tok (iaE_ok h) hn
   ·exact Sat.q' tok (extE_ok h) hn
   ·exact mksE_ok tok h
   ·cases h
  ·cases h
def JA(dst:Option Tmp)(v:TV S)(s:St S):St S:=match dst with
 |some t=>⟨(t,v)::s.tm,s.vs,s.lv,s.nx⟩
 |none=>s
theorem uF {dst:Option Tmp}{v:TV S}{s:St S}:(JA dst v s).tmD=xR dst v.toD s.tmD∧(JA dst v s).hp=s.hp:=by
 cases dst <;> exact⟨rfl,rfl⟩
theorem BL {dst:Option Tmp}{v:TV S}{s:St S}(h:s.Ok)(hv:OV s.lv s.nx v):(JA dst v s).Ok:=by
 cases dst with
 |none=>exact h
 |some t=>exact⟨ol hv h.1,h.2⟩
def Lz(t:Nat)(a:TV S):List (Nat×TV S)→List (Nat×TV S)
 |[]=>[]
 |(i,b)::l=>if Nat.beq i t=true then (i,a)::l else (i,b)::Lz t a l
theorem RC {t:Nat}{a b:TV S}(A2:a.toD=b.toD):∀{l:List (Nat×TV S)},l.lookup t=some b→tmL (Lz t a l)=tmL l
 |(i,c)::l,h=>by
  unfold Lz
  split
  ·rename_i hi
   obtain rfl:=f7 hi
   rw[ah] at h
   have hcb:=bZ h
   show (i,a.toD)::tmL l=(i,c.toD)::tmL l
   rw[A2,hcb]
  ·rename_i hi
   rw[al (fun e=>hi (by rw[e];exact yG _))] at h
   show (i,c.toD)::tmL (Lz t a l)=(i,c.toD)::tmL l
   rw[RC A2 h]
 |[],h=>by cases h
theorem NN {lv:List (Nat×Option Lv)}{nx t:Nat}{a:TV S}(ha:a.owns=[]):∀{l:List (Nat×TV S)},OVs lv nx l→OVs lv nx (Lz t a l)
 |[],h=>h
 |(i,b)::l,h=>by
  unfold Lz
  split
  ·exact ol (gS ha) fun p hp=>h p (.tail _ hp)
  ·exact ol (h _ (.head _)) (NN ha fun p hp=>h p (.tail _ hp))
def yi(s:St S)(t:Nat)(b:Bool):St S:=⟨Lz t (bv' b) s.tm,s.vs,s.lv,s.nx⟩
theorem Hq {s:St S}{t:Nat}{b c:Bool}(h:s.tm.lookup t=some (.v .bool c))(hb:c=b):(yi s t b).tmD=s.tmD∧(yi s t b).hp=s.hp:=by
 subst hb
 exact⟨RC (by rfl) h,rfl⟩
theorem J5 {s:St S}{t:Nat}{b:Bool}(h:s.Ok):(yi s t b).Ok:=⟨NN (by simp only[TV.owns]) h.1,h.2⟩
def cndE(b:Bool)(k:Bool→Option R):Option R:=cnd b (k true) (k false)
theorem F8 {b:Bool}{k:Bool→Option R}{r:R}(h:cndE b k=some r):k b=some r:=by
 cases b <;> exact h
def shrE(on:Bool)(v:TV S)(s:St S)(k:KK S R):Option R:=match on with
 |false=>k v s
 |true=>match v with
  | .v t x=>bnd (some x) fun x=>k (.v t x) s
  | .top=>match s with
   |⟨tm,(n,.v t x)::vs,lv,nx⟩=>bnd (some x) fun x=>k .top ⟨tm,(n,.v t x)::vs,lv,nx⟩
   |s=>k .top s
  |v=>k v s
theorem NL {on:Bool}{v:TV S}{s:St S}{k:KK S R}:shrE on v s k=k v s:=by
 unfold shrE
 split
 ·rfl
 ·split
  ·rfl
  ·split <;> rfl
  ·rfl
def EQ(B:Tb P tb S)(C:List (Ctr P S))(md:Md)(X:List Nat)(ops:Array Oper):List Oper→St S→(St S→Option R)→Option R
 |[],s,k=>k s
 |⟨dst,op,ty,_,_,none⟩::os,s,k=>opE B C md op ty s fun v s'=>shrE (X.elem os.length) v s' fun v s'=>EQ B C md X ops os (JA dst v s') k
 |⟨dst,op,ty,_,_,some (j,want)⟩::os,s,k=>match (ops[j]?).bind (·.dst) with
  |some t=>match s.tm.lookup t with
   |some (.v .bool b)=>cndE b fun b'=>if (b' == want)=true then opE B C md op ty (yi s t b') fun v s'=>shrE (X.elem os.length) v s' fun v s'=>EQ B C md X ops os (JA dst v s') k
     else EQ B C md X ops os (JA dst (.tu []) (yi s t b')) k
   |some (.tu [])=>EQ B C md X ops os (JA dst (.tu []) s) k
   |_=>none
  |none=>none
def Bx:List Oper→List Nat
 |[]=>[]
 |⟨some t,_,_,_,_,_⟩::os=>t::Bx os
 |⟨none,_,_,_,_,_⟩::os=>Bx os
def ExT(D:List Nat)(s s':St S):Prop:=(∀t,D.elem t=false→(tmL s'.tm).lookup t=(tmL s.tm).lookup t)∧Ex s s'
theorem ExT.refl(D:List Nat)(s:St S):ExT D s s:=⟨fun _ _=>rfl,Ex.refl s⟩
theorem qL {t:Nat}{D D':List Nat}(h:(D++D').elem t=false):D.elem t=false∧D'.elem t=false:=by
 simp only[KT,Gb,jK,not_or] at h ⊢
 exact h
theorem ExT.trans {D D':List Nat}{s s' s'':St S}(h:ExT D s s')(h':ExT D' s' s''):ExT (D++D') s s'':=
 ⟨fun t ht=>(h'.1 t (qL ht).2).trans (h.1 t (qL ht).1),h.2.trans h'.2⟩
theorem ExT.put {s s':St S}{dst:Option Tmp}{v:TV S}(h:Ex s s')(ht:tmL s'.tm=tmL s.tm):ExT (match dst with|some t=>[t]|none=>[]) s (JA dst v s'):=by
 cases dst with
 |none=>exact⟨fun t _=>by show (tmL s'.tm).lookup t=_;rw[ht],h⟩
 |some t=>exact⟨fun u hu=>by
   show ((t,v.toD)::tmL s'.tm).lookup u=_
   rw[al (fun e=>by rw[e] at hu;simp at hu),ht],h⟩
theorem ExT.app {D D':List Nat}{s s' s'':St S}(h:ExT D s s')(h':ExT D' s' s''){E:List Nat}(hE:E=D++D'):ExT E s s'':=hE▸h.trans h'
theorem Ro:(.tu []:TV S).toD=.tu []:=by simp only[TV.toD,GN]
theorem tz(tok:TOk P tb){X:List Nat}{ops:Array Oper}{K:List (Nat×D)→Hp→Prop}:∀{os:List Oper} {s:St S} {k:St S→Option R} {r:R},s.Ok→EQ B C md X ops os s k=some r→(∀s',k s'=some r→s'.Ok→ExT (Bx os) s s'→K s'.tmD s'.hp)→aQ P tb md ops K os s.tmD s.hp
 |[],s,k,r,hk,h,hK=>.nil (hK s h hk (ExT.refl _ s))
 |⟨dst,op,ty,pos,af,none⟩::os,s,k,r,hk,h,hK=>by
  unfold EQ at h
  obtain⟨v,s',⟨h1,h2,h3,hE⟩,h4⟩:=RV tok hk h
  rw[NL] at h4
  obtain⟨k1,k2⟩:=h3 hk
  have lj:s'.tmD=s.tmD:=by show tmL s'.tm=tmL s.tm;rw[h2]
  have ih:=tz tok (K:=K) (BL k1 k2) h4 fun s2 q1 q2 q3=>hK s2 q1 q2 ((ExT.put hE lj).app q3 (by cases dst <;> rfl))
  rw[uF.1,uF.2] at ih
  rw[lj] at ih
  exact .on _ _ rfl (h1 dst pos af none) ih
 |⟨dst,op,ty,pos,af,some (j,want)⟩::os,s,k,r,hk,h,hK=>by
  unfold EQ at h
  split at h
  ·rename_i t ht
   split at h
   ·rename_i b hb
    have h:=F8 h
    have Mh:s.tmD.lookup t=some (.e (.lit (.bool b))):=by rw[ly,hb];show some (TV.v T.bool b:TV S).toD=_;rw[show (TV.v T.bool b:TV S).toD=dB b from ri b]
    obtain⟨e1,e2⟩:=Hq hb (b:=b) rfl
    have pf:=J5 (t:=t) (b:=b) hk
    split at h
    ·rename_i hw
     obtain⟨v,s',⟨h1,h2,h3,hE⟩,h4⟩:=RV tok pf h
     rw[NL] at h4
     obtain⟨k1,k2⟩:=h3 pf
     have lj:s'.tmD=s.tmD:=by rw[←e1];show tmL s'.tm=tmL _;rw[h2]
     have ih:=tz tok (K:=K) (BL k1 k2) h4 fun s2 q1 q2 q3=>hK s2 q1 q2 ((ExT.put (show Ex s s' from hE) lj).app q3 (by cases dst <;> rfl))
     rw[uF.1,uF.2] at ih
     rw[lj] at ih
     have ni:=h1 dst pos af (some (j,want))
     rw[e1,e2] at ni
     exact .on _ _ (.inl ⟨t,b,ht,Mh,hw⟩) ni ih
    ·rename_i hw
     have ih:=tz tok (K:=K) (BL pf (gS (by simp only[TV.owns,pT]))) h fun s2 q1 q2 q3=>hK s2 q1 q2 ((ExT.put (show Ex s (yi s t b) from Ex.refl s) e1).app q3 (by cases dst <;> rfl))
     rw[uF.1,uF.2,e1,e2,Ro] at ih
     exact .off _ (.inl ⟨t,b,ht,Mh,by simpa using hw⟩) (fun hp g w a _=>BI hp g w) ih
   ·rename_i hb
    have Mh:s.tmD.lookup t=some (.tu []):=by rw[ly,hb];show some (TV.tu []:TV S).toD=_;rw[Ro]
    have ih:=tz tok (K:=K) (BL hk (gS (by simp only[TV.owns,pT]))) h fun s2 q1 q2 q3=>hK s2 q1 q2 ((ExT.put (Ex.refl s) rfl).app q3 (by cases dst <;> rfl))
    rw[uF.1,uF.2,Ro] at ih
    exact .off _ (.inr ⟨t,ht,Mh,rfl⟩) (fun hp g w a _=>BI hp g w) ih
   ·cases h
  ·cases h
end
end
section
section
variable {P:Program} {tb:TypeId→Option TyE} {x:Cx} {tm tm':List (Nat×D)} {hp hp':Hp} {a:Act} {w:World}
theorem Wk.gen {vars':List (Nat×List D)}{eJ:List (Nat×Nat×Nat×TypeId)}{m:Nat}(σ:Nat→Nat)(h0:x.hp0.next≤m)(bh:∀i,i<x.hp0.next→σ i=i)
  (ht:∀t d,tm'.lookup t=some d→(∃d0,tm.lookup t=some d0∧d0.le (d.ren σ))∧d.idsB m=true∧d.noOs=true)
  (hv:∀k ds,vars'.lookup k=some ds→k<m∧(∃sQ,hp.vars.lookup (σ k)=some sQ∧ot sQ (ds.map (D.renC σ)))∧ds.all (D.idsC m)=true∧ds.all D.noO=true)
  (hvi:∀k k' ds ds',vars'.lookup k=some ds→vars'.lookup k'=some ds'→σ k=σ k'→k=k')
  (hl:∀k y,eJ.lookup k=some y→k<m∧hp.live.lookup (σ k)=some y)
  (hli:∀k k' y y',eJ.lookup k=some y→eJ.lookup k'=some y'→σ k=σ k'→k=k'):Wk x tm hp tm' ⟨vars',eJ,m⟩:=by
 intro a w ⟨g,hr,fh,hsz,pg,hB,hF,hM⟩
 have cZ:∀id y,(⟨vars',eJ,m⟩:Hp).live.lookup id=some y→hp.live.lookup (σ id)=some y:=fun id y h=>(hl _ _ h).2
 refine⟨⟨fun i=>g.μ (σ i),fun i=>g.τ (σ i),g.F⟩,⟨fun k ds hk=>?_,fun k k' ds ds' hk pf he=>?_,fun id n e hi=>?_,fun id sr t t' b hi sM hb pK=>?_,hr.base,hr.fits⟩,fun t d h=>?_,hsz,pg,hB,hF,
  ⟨hM.size,hM.cell,hM.forb,h0,fun k hk=>by show g.μ _=_;rw[bh k hk];exact hM.μ k hk,fun id hid n e Mi=>?_,fun b hb hf=>⟨(hM.fr b hb hf).1,(hM.fr b hb hf).2.1,fun k ds hk=>by obtain⟨_,⟨_,h,_⟩,_⟩:=hv _ _ hk;exact (hM.fr b hb hf).2.2.1 _ _ h,fun id t hi=>(hM.fr b hb hf).2.2.2 _ t (cZ id _ hi)⟩,hM.szs⟩⟩
 ·obtain⟨h1,⟨sQ,h2,lj⟩,h3,h4⟩:=hv _ _ hk
  obtain⟨_,h5,h6,cs,ty,h7,h8,h9⟩:=hr.var _ _ h2
  have HO:∀d∈ds,D.idsC m d=true:=by simpa using h3
  have h4':∀d∈ds,D.noO d=true:=by simpa using h4
  have A3:=qq lj
  refine⟨h1,h5,h6,cs,ty,h7,by rw[bc] at A3;have Ms:sQ.length=ds.length:=A3.symm;omega,fun j u hu=>⟨fun h=>(h9 j u hu).1 (by rw[bc] at A3;have Ms:sQ.length=ds.length:=A3.symm;have Qt:j<ds.length:=h;omega),fun d hd=>?_⟩⟩
  obtain⟨d0,E7,hle⟩:=su lj (j:=j) (d':=d.renC σ) (by rw[bE,hd];rfl)
  exact iE (((h9 j u hu).2 d0 E7).leC hle) (HO d (bL hd)) (h4' d (bL hd)) rfl (fun _=>rfl) (fun _=>rfl) rfl cZ
 ·obtain⟨h1,⟨_,h2,_⟩,_⟩:=hv _ _ hk
  obtain⟨ni,⟨_,lj,_⟩,_⟩:=hv _ _ pf
  exact hvi k k' _ _ hk pf (hr.inj _ _ _ _ h2 lj he)
 ·obtain⟨h1,h2⟩:=hl _ _ hi
  obtain⟨_,us,h3,h4,h5⟩:=hr.tok _ n e h2
  exact⟨h1,us,h3,h4,fun b hb=>⟨(h5 b hb).1,fun k ds hk=>by
   obtain⟨_,⟨_,h6,_⟩,_⟩:=hv _ _ hk
   exact (h5 b hb).2 _ _ h6⟩⟩
 ·obtain⟨h1,h2⟩:=hl _ _ hi
  obtain⟨ni,lj⟩:=hl _ _ sM
  exact hli id sr _ _ hi sM (hr.tinj _ _ _ _ b h2 lj hb pK)
 ·obtain⟨⟨d0,h1,hle⟩,h2,h3⟩:=ht _ _ h
  exact BJ ((fh t _ h1).le hle) h2 h3 rfl (fun _=>rfl) (fun _=>rfl) rfl cZ
 ·obtain⟨m0,h1,h2,h3⟩:=hM.live id hid n e (by rw[←bh id hid];exact cZ id _ Mi)
  exact⟨m0,h1,h2,fun h=>by show g.τ _=_;rw[bh id hid];exact h3 h⟩
end
section
variable [eH] {S:SD}
inductive Sh where
 |d (t:T)
 |o (t:T) (e:TypeId)
 |n
 |p (h:Sh)
 |ag (l:List Sh)
mutual
def Sh.ts:Sh→List T
 | .d t=>[t]
 | .o t _=>[.sl t]
 | .n=>[]
 | .p h=>h.ts
 | .ag l=>tsL l
def tsL:List Sh→List T
 |[]=>[]
 |a::l=>a.ts++tsL l
end
mutual
def yA(B:(i:Nat)→List (Fld S i))(vs:List (Nat×TV S)):Sh→TV S→Option (List (TV S))
 | .d _,a=>if a.isC=true then some [a] else none
 | .o _ _,a=>match a with
  | .own ..=>some [a]
  |_=>none
 | .n,a=>match a with
  | .nil=>some []
  |_=>none
 | .p h,a=>match a with
  | .pt k []=>match vs.lookup k with
   |some c=>yA B vs h c
   |none=>none
  |_=>none
 | .ag l,a=>match a with
  | .ag fs=>qO B vs l fs
  | .v (.st s) y=>if Cp (B s) 0 (S.c s).sz=true then qO B vs l (uN (B s) y) else none
  |_=>none
def qO(B:(i:Nat)→List (Fld S i))(vs:List (Nat×TV S)):List Sh→List (TV S)→Option (List (TV S))
 |[],[]=>some []
 |h::l,a::fs=>match yA B vs h a,qO B vs l fs with
  |some x,some y=>some (x++y)
  |_,_=>none
 |_,_=>none
end
structure Bu(S:SD)(α:Type) where
 a:α
 l:List (TV S)
 j:Nat
 nv:List (Nat×TV S)
 tk:List (Nat×Option Lv)
mutual
def bul:Sh→List (TV S)→Nat→Option (Bu S (TV S))
 | .d _,l,j=>match l with
  |a::l=>some ⟨a,l,j,[],[]⟩
  |[]=>none
 | .o t e,l,j=>match l with
  | .v (.sl u) y::l=>if u=t then some ⟨.own j 0 u y,l,j+1,[],[(j,some ⟨0,List.length y,(u.cd S).sz,e⟩)]⟩ else none
  |_=>none
 | .n,l,j=>some ⟨.nil,l,j,[],[]⟩
 | .p h,l,j=>match bul h l (j+1) with
  |some r=>some ⟨.pt j [],r.l,r.j,(j,r.a)::r.nv,r.tk⟩
  |none=>none
 | .ag sh,l,j=>match QD sh l j with
  |some r=>some ⟨.ag r.a,r.l,r.j,r.nv,r.tk⟩
  |none=>none
def QD:List Sh→List (TV S)→Nat→Option (Bu S (List (TV S)))
 |[],l,j=>some ⟨[],l,j,[],[]⟩
 |h::sh,l,j=>match bul h l j with
  |some r=>match QD sh r.l r.j with
   |some q=>some ⟨r.a::q.a,q.l,q.j,r.nv++q.nv,r.tk++q.tk⟩
   |none=>none
  |none=>none
end
end
end
end
end Go.Proofs.YtgfcnncojhkcoaaGreat
