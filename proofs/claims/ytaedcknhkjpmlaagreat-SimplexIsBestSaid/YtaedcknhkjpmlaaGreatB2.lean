/-
  Lemmas, part 2. Conditions: none.
-/
import Derived.Test.YtaedcknhkjpmlaaGreatB1
import Derived.Laws.MakeOwn
import Derived.Laws.CopyRow
import Derived.Test.YtaedcknhkjpmlaaGreatProg
set_option linter.all false
set_option maxRecDepth 100000
set_option maxHeartbeats 4000000
namespace Go.Proofs.YtaedcknhkjpmlaaGreat
open Go.RowKit Go.IntKind Tryz
noncomputable section
section
def dC(es:List E):List D:=es.map D.e
theorem Uf(σ:Nat→Nat)(es:List E):(dC es).map (D.renC σ)=dC es:=by
 unfold dC;rw[qv];exact sr fun _ _=>rfl
theorem eA(es:List E):(dC es).length=es.length:=bb _
theorem IW {p:D→Bool}(h:∀e,p (.e e)=true)(es:List E):(dC es).all p=true:=by
 unfold dC;rw[Ln];exact ba.2 fun e _=>h e
structure bV {β:Type}(F:List E)(c':Cd β)(o:Nat)(b:β)(F':β→List E):Prop where
 le:o+c'.sz≤F.length
 g:(F.drop o).take c'.sz=c'.f b
 p:∀y,F.take o++c'.f y++F.drop (o+c'.sz)=F' y
section
variable {α β γ:Type} {F:List E}
theorem bV.id(c:Cd α)(x:α):bV (c.f x) c 0 x c.f:=
 ⟨by rw[c.h];omega,by rw[qS,g9 (by rw[c.h];exact ax _)],fun y=>by rw[EP,br,CK (by rw[c.h];exact ax _),nB,th]⟩
theorem bV.comp {c1:Cd α}{c2:Cd β}{o1 o2:Nat}{b1:α}{b2:β}{F1:α→List E}{P2:β→List E}{P:β→α}(h1:bV F c1 o1 b1 F1)(h2:bV (c1.f b1) c2 o2 b2 P2)(hp:∀y,P2 y=c1.f (P y)):bV F c2 (o1+o2) b2 (fun y=>F1 (P y)):=by
 have l1:=h1.le
 have l2:=h2.le
 rw[c1.h] at l2
 refine⟨by omega,?_,fun y=>?_⟩
 ·rw[←h2.g,←h1.g,←qR,Lq,Hu,tf (by omega)]
 ·rw[←h1.p (P y),←hp y,←h2.p y,←h1.g,Hu,tf (by omega),List.take_add]
  have e:((F.drop o1).take c1.sz).drop (o2+c2.sz)++F.drop (o1+c1.sz)=F.drop (o1+o2+c2.sz):=by
   have e1:F.drop (o1+c1.sz)=(F.drop o1).drop c1.sz:=(qR ..).symm
   rw[e1,←NO (by rw[eg,fa];omega),tL,qR,xW]
  rw[←e]
  simp only[c5]
theorem bV.of {c':Cd β}{o:Nat}{b:β}{F':β→List E}(A C:List E)(hA:A.length=o)(hF:F=A++(c'.f b++C))(hp:∀y,F' y=A++(c'.f y++C)):bV F c' o b F':=by
 subst hA hF
 refine⟨by simp[c'.h],?_,fun y=>?_⟩
 ·rw[tK,vg (by rw[c'.h];exact ax _),g9 (by rw[c'.h];exact ax _)]
 ·rw[hp,vO,←qR,tK,←c'.h b,tK,c5]
theorem bV.seq [Inhabited α](c:Cd α)(l:List α)(i:Nat)(h:i<l.length):bV (l.flatMap c.f) c (i*c.sz) l[i]! (fun y=>(l.set i y).flatMap c.f):=by
 have hl:(l.flatMap c.f).length=l.length*c.sz:=ip c.f c.h l
 have hm:(i+1)*c.sz≤l.length*c.sz:=cK _ h
 rw[bX,e8] at hm
 refine⟨by rw[hl];exact hm,?_,fun y=>?_⟩
 ·have:=kr c.f c.h (l.drop i) 1
  rw[e8] at this
  rw[nZ c.f c.h,this,Fd h,bL l i h,NM,EP,nQ,List.flatMap_nil,th]
 ·rw[kr c.f c.h,show i*c.sz+c.sz=(i+1)*c.sz by rw[bX,e8],nZ c.f c.h,UT,ai h,Jn,nQ,c5]
theorem zU [Inhabited α]{n:Nat}(v:Vector α n){i:Nat}(h:i<n):v.toList[i]! =v[i]! :=by
 rw[bL v.toList i (by rw[nP];exact h),bL v i h,Vector.getElem_toList]
theorem vec_set {n:Nat}(v:Vector α n)(i:Nat)(y:α):(v.set! i y).toList=v.toList.set i y:=by
 show (v.setIfInBounds i y).toList=_
 exact Vector.toList_setIfInBounds ..
theorem bV.vec [Inhabited α]{n:Nat}(c:Cd α)(v:Vector α n)(i:Nat)(h:i<n):bV ((cA n c).f v) c (i*c.sz) v[i]! (fun y=>(cA n c).f (v.set! i y)):=by
 have:=bV.seq c v.toList i (by rw[nP];exact h)
 rw[zU v h] at this
 refine⟨this.le,this.g,fun y=>?_⟩
 rw[show (cA n c).f (v.set! i y)=(v.set! i y).toList.flatMap c.f from rfl,vec_set]
 exact this.p y
end
section
variable {P:Program} {tb:TypeId→Option TyE} {dr:Bool} {ty:TypeId} {ev:Operand→D} {x y:Operand} {vs:List (Nat×List D)} {lv:List (Nat×Nat×Nat×TypeId)} {N k o:Nat} {F:List E} {β:Type} {c':Cd β} {b:β} {F':β→List E} {t:TypeId} {i:TyE}
theorem AQ(L:bV F c' o b F')(ht:tb t=some i)(hg:i.ty.agg=true:=by exact rfl)(hz:c'.sz=i.size:=by exact rfl)(hx:ev x=.pt k o:=by exact rfl)(hv:vs.lookup k=some (dC F):=by exact rfl)(hk:Nat.ble (k+1) N=true:=by exact rfl):AVC P tb dr (.load t x) ty ev ⟨vs,lv,N⟩ (Kq (dG c' b) ⟨vs,lv,N⟩):=by
 rw[ri,hx,oq,ht,hv]
 simp only[hg]
 refine⟨a9 hk,by rw[eA,←hz];exact L.le,?_⟩
 have:((dC F).drop o).take i.size=(c'.f b).map D.e:=by
  unfold dC
  rw[←xb,←vf,←hz,L.g]
 rw[this]
 exact Kq.here _ _
theorem xh {e:E}(L:bV F c' o b F')(ht:tb t=some i)(he:c'.f b=[e]:=by exact rfl)(hg:i.ty.agg=false:=by exact rfl)(hx:ev x=.pt k o:=by exact rfl)(hv:vs.lookup k=some (dC F):=by exact rfl)(hk:Nat.ble (k+1) N=true:=by exact rfl):AVC P tb dr (.load t x) ty ev ⟨vs,lv,N⟩ (Kq (.e e) ⟨vs,lv,N⟩):=by
 have hs:c'.sz=1:=by rw[←c'.h b,he];rfl
 have En:=L.g
 have hle:=L.le
 rw[hs] at En hle
 rw[he] at En
 rw[ri,hx,oq,ht,hv]
 simp only[hg]
 refine⟨a9 hk,.e e,?_,Kq.here _ _⟩
 unfold dC
 rw[dV]
 have:F[o]? =some e:=by
  have h0:(F.drop o)[0]? =F[o]? :=by rw[nA,iM]
  have h1:((F.drop o).take 1)[0]? =(F.drop o)[0]? :=by rw[gM];rfl
  rw[←h0,←h1,En]
  rfl
 rw[this];rfl
theorem yB {b':β}(L:bV F c' o b F')(ht:tb t=some i)(hy:(ev y).cells=some (dC (c'.f b')):=by exact rfl)(hz:c'.sz=i.size:=by exact rfl)(hx:ev x=.pt k o:=by exact rfl)(hv:vs.lookup k=some (dC F):=by exact rfl):AVC P tb dr (.store t x y) ty ev ⟨vs,lv,N⟩ (Kq .top ⟨(k,dC (F' b'))::vs,lv,N⟩):=by
 rw[EN,hx,Bg,ht,hv,hy]
 have hl:(dC (c'.f b')).length=i.size:=by rw[eA,c'.h,hz]
 refine⟨hl,by rw[eA,←hz];exact L.le,?_⟩
 have:(dC F).take o++dC (c'.f b')++(dC F).drop (o+(dC (c'.f b')).length)=dC (F' b'):=by
  rw[hl,←hz,←L.p b']
  unfold dC
  simp only[iP,vf,xb]
 rw[this]
 exact Kq.here _ _
theorem nR {b':β}{γ:Type}{c:Cd γ}{nw nm:γ}(L:bV F c' o b F')(ht:tb t=some i)(Ra:nw=nm)(hF:F' b'=c.f nw:=by exact rfl)(hy:(ev y).cells=some (dC (c'.f b')):=by exact rfl)(hz:c'.sz=i.size:=by exact rfl)(hx:ev x=.pt k o:=by exact rfl)(hv:vs.lookup k=some (dC F):=by exact rfl):AVC P tb dr (.store t x y) ty ev ⟨vs,lv,N⟩ (Kq .top ⟨(k,dC (c.f nm))::vs,lv,N⟩):=by
 have:=yB (P:=P) (dr:=dr) (ty:=ty) (lv:=lv) (N:=N) L ht hy hz hx hv
 rw[hF,Ra] at this
 exact this
theorem yD(ht:tb t=some i)(hz:i.zero.map E.lit=F:=by kernel_rfl):AVC P tb dr (.alloc t) ty ev ⟨vs,lv,N⟩ (Kq (.pt N 0) ⟨(N,dC F)::vs,lv,N+1⟩):=by
 subst hz
 have:=p8 (P:=P) (dr:=dr) (ty:=ty) (ev:=ev) (vs:=vs) (lv:=lv) (N0:=N) ht
 unfold dC
 rw[qv]
 exact this
theorem Vd(h:(ev x).cells=some (dC F):=by exact rfl):AVC P tb dr (.box t x) ty ev ⟨vs,lv,N⟩ (Kq (.pt N 0) ⟨(N,dC F)::vs,lv,N+1⟩):=fQ h
variable {hp:Hp} {j:TyE} {e:TypeId} {n:Nat} {kn:IntKind} {v:Int}
variable {s tt:TypeId} {fi:Nat} {fs:List (Nat×TypeId)}
inductive FL (tb:TypeId→Option TyE) (fs:List (Nat×TypeId)):List E→List (Nat×List D)→List E→Prop
 |nil (F:List E):FL tb fs F [] F
 |cons {γ:Type} {c:Cd γ} {F F2:List E} {o i:Nat} {b y:γ} {F':γ→List E} {rest:List (Nat×List D)} {cs:List D} (L:bV F c o b F') (hp:oo tb fs i=some (o,c.sz)) (hc:cs=dC (c.f y)) (h:FL tb fs (F' y) rest F2):FL tb fs F ((i,cs)::rest) F2
theorem FL.fill {F F2:List E}{qs:List (Nat×List D)}(h:FL tb fs F qs F2):f8 (oo tb fs) (dC F) qs=some (dC F2):=by
 induction h with
 |nil F=>rfl
 |cons L hp hc h ih=>
  rename_i c F F2 o i b y F' rest cs
  subst hc
  unfold f8
  rw[hp]
  dsimp only
  have hl:(dC (c.f y)).length=c.sz:=by rw[eA,c.h]
  rw[ah (by rw[hl,eA];have:=L.le;omega),hl,←ih]
  congr 1
  rw[←L.p y]
  unfold dC
  simp only[iP,vf,xb]
theorem hJ {ps:List (Nat×Operand)}{qs:List (Nat×List D)}{F2:List E}(h:FL tb fs F qs F2)(ht:tb t=some i)(h0:i.zero.map E.lit=F:=by kernel_rfl)(hi:i.ty=.struct fs:=by exact rfl)(ha:(fs.all fun f=>(tb f.2).isSome)=true:=by exact rfl)(jH:mf (ps.map fun p=>(p.1,ev p.2))=some qs:=by exact rfl):AVC P tb dr (.build t ps.toArray) ty ev hp (Kq (.ag (dC F2)) hp):=by
 subst h0
 rw[wV,uf,ht,jH]
 simp only[hi]
 have:(i.zero.map fun v=>D.e (.lit v))=dC (i.zero.map E.lit):=by unfold dC;rw[qv];rfl
 rw[this,h.fill]
 exact⟨fun f hf=>(ba.1 ha) f hf,Kq.here _ _⟩
theorem vC {σ:Nat→Nat}{m:Nat}{l:List (Nat×List D)}{F:List E}(h1:vs.lookup (σ k)=some (dC F))(hl:wkV σ m vs l)(h0:Nat.ble (k+1) m=true:=by exact rfl):wkV σ m vs ((k,dC F)::l):=
 ⟨⟨ltb h0,⟨_,h1,by rw[Uf];exact ro _⟩,IW (fun _=>rfl) _,IW (fun _=>rfl) _⟩,hl⟩
def rnV(ρ:Nat→Nat):List (Nat×List D)→List (Nat×List D)→Prop
 |[],[]=>True
 |p::l,q::l'=>(ρ p.1=q.1∧p.2.map (D.renC ρ)=q.2∧p.2.all D.okC=true)∧rnV ρ l l'
 |_,_=>False
theorem rnV.map {ρ:Nat→Nat}:∀{l l':List (Nat×List D)},rnV ρ l l'→l.map (fun p=>(ρ p.1,p.2.map (D.renC ρ)))=l'∧(l.all fun p=>p.2.all D.okC)=true
 |[],[],_=>⟨rfl,rfl⟩
 |p::l,q::l',h=>by
  obtain⟨h1,h2⟩:=rnV.map h.2
  obtain⟨a,b,c⟩:=h.1
  refine⟨?_,by rw[f5,c,h2];rfl⟩
  rw[iW,h1,a,b]
 |[],_::_,h=>h.elim
 |_::_,[],h=>h.elim
theorem rvN {ρ:Nat→Nat}:rnV ρ [] []:=trivial
theorem rvC {ρ:Nat→Nat}{k k2:Nat}{F:List E}{l l':List (Nat×List D)}(h:rnV ρ l l')(hk:ρ k=k2:=by exact rfl):rnV ρ ((k,dC F)::l) ((k2,dC F)::l'):=⟨⟨hk,Uf _ _,IW (fun _=>rfl) _⟩,h⟩
theorem Js {x:Operand}{f:FuncId}{aS:List Operand}{ts:Array TypeId}{O5:List D}{r r':D}{FG n8 vs PL vs2:List (Nat×List D)}{FH sH lv FI:List (Nat×Nat×Nat×TypeId)}{m n' N N2:Nat}(os:List Nat)
  (Aq:ev x=.e (.lit (.func (.func f) #[] #[]))) (hc:HC P f O5 ⟨FG,FH,m⟩ r ⟨n8,sH,n'⟩) (ha:frA (fun i=>os.getD i 0) m (aS.map ev) O5) (hv:wkV (fun i=>os.getD i 0) m vs FG) (hl:wkL (fun i=>os.getD i 0) m lv FH) (hrn:rnV (rn os m N) n8 PL)
  (pW:r.ren (rn os m N)=r') (hr:r.okF=true) (hos:os.length=m:=by exact rfl) (Ap:os.Nodup:=by decide) (bI:(os.all fun o=>Nat.ble (o+1) N)=true:=by exact rfl)
  (KD:PL++vs.filter (fun p=>!os.contains p.1)=vs2:=by exact rfl) (Rc:frL (rn os m N) os sH lv=FI:=by exact rfl) (hN:N+(n' - m)=N2:=by exact rfl)
  (hh:hvB tb ⟨.value x,aS.toArray,ts⟩=true:=by kernel_rfl):AVC P tb dr (.call ⟨.value x,aS.toArray,ts⟩) ty ev ⟨vs,lv,N⟩ (Kq r' ⟨vs2,FI,N2⟩):=
 T_callH Aq (HC.fr os hc ha hv hl hos Ap bI hr hrn.map.2 pW (by unfold frV;rw[hrn.map.1,KD]) Rc hN) rfl hh
theorem ex_G {α:Type}(c:Cd α)(a:α):D.ex (dG c a)=dG c a:=by
 show D.ag (((c.f a).map D.e).map D.exC)=_
 rw[qv];rfl
theorem nJ {α:Type}(c:Cd α)(a:α):(D.ex (dG c a)).le (dG c a):=by rw[ex_G];exact au _
theorem xi {off z m:Nat}(hb:0≤v∧v<(n:Int))(ht:tb t=some i)(he:tb e=some j)(hi:i.ty=.slice e:=by exact rfl)(hx:ev x=.ow m off z n:=by exact rfl)(hz:z=j.size:=by exact rfl)(hy:ev y=dI kn v:=by exact rfl):AVC P tb dr (.indexAddr t x y) ty ev hp (Kq (.pt m (off+v.toNat*j.size)) hp):=by
 rw[uY,hx,hy,tA,ht]
 simp only[hi,he]
 exact⟨hz,hb,Kq.here _ _⟩
end
section
variable {P:Program} {tb:TypeId→Option TyE}
structure EqC(tb:TypeId→Option TyE)(d:Nat)(t:TypeId){α:Type}(c:Cd α)(us:α→List Value):Prop where
 hf:∀x,c.f x=(us x).map E.lit
 ft:∀x,nL tb d t (us x)
 inj:∀x y,us x=us y↔x=y
theorem EqC.int {d:Nat}{t:TypeId}{k:IntKind}{i:TyE}(ht:tb t=some i)(hi:i.ty=.int k:=by exact rfl):EqC tb (d+1) t (cI k) (fun n=>[.int k n]):=
 ⟨fun _=>rfl,fun n=>by unfold nL;rw[ht];simp only[hi];exact⟨n,rfl⟩,fun x y=>by simp⟩
theorem EqC.bool {d:Nat}{t:TypeId}{i:TyE}(ht:tb t=some i)(hi:i.ty=.bool:=by exact rfl):EqC tb (d+1) t cB (fun n=>[.bool n]):=
 ⟨fun _=>rfl,fun n=>by unfold nL;rw[ht];simp only[hi];exact⟨n,rfl⟩,fun x y=>by simp⟩
theorem EqC.len {d:Nat}{t:TypeId}{α:Type}{c:Cd α}{us:α→List Value}(h:EqC tb d t c us)(x:α):(us x).length=c.sz:=by
 rw[←c.h x,h.hf,bb]
theorem GP {α:Type}{f:α→List Value}{z:Nat}(hz:∀a,(f a).length=z):∀l:List α,(l.flatMap f).length=l.length*z
 |[]=>by simp
 |a::l=>by rw[nQ,cD,hz,GP hz l,sb,bX,e8,qw]
theorem J5 {α:Type}{f:α→List Value}{z:Nat}(hz:∀a,(f a).length=z):∀(l:List α) (i:Nat) (h:i<l.length),((l.flatMap f).drop (i*z)).take z=f l[i]
 |a::l,0,_=>by rw[gL,qS,nQ,vg (by rw[hz];exact ax _),g9 (by rw[hz];exact ax _)];rfl
 |a::l,i+1,h=>by
  rw[nQ,bX,e8,qw,←hz a,←qR,tK,hz a]
  exact J5 hz l i (by simpa using h)
theorem GQ {α:Type}{f:α→List Value}{z:Nat}(hz:∀a,(f a).length=z)(hi:∀x y,f x=f y→x=y):∀l m:List α,l.length=m.length→l.flatMap f=m.flatMap f→l=m
 |[],[],_,_=>rfl
 |a::l,b::m,hl,h=>by
  rw[nQ,nQ] at h
  obtain⟨h1,h2⟩:=Ce h (by rw[hz,hz])
  rw[hi a b h1,GQ hz hi l m (by simpa using hl) h2]
 |[],_::_,hl,_=>by simp at hl
 |_::_,[],hl,_=>by simp at hl
theorem EqC.arr {d n:Nat}{t e:TypeId}{α:Type}{c:Cd α}{us:α→List Value}{i j:TyE}(h:EqC tb d e c us)(ht:tb t=some i)(he:tb e=some j)(hi:i.ty=.arr n e:=by exact rfl)(hz:c.sz=j.size:=by exact rfl):EqC tb (d+1) t (cA n c) (fun v=>v.toList.flatMap us):=by
 refine⟨fun v=>?_,fun v=>?_,fun v w=>⟨fun hh=>?_,fun hh=>by rw[hh]⟩⟩
 ·show v.toList.flatMap c.f=_
  rw[List.map_flatMap]
  congr 1
  exact funext h.hf
 ·unfold nL
  rw[ht]
  simp only[hi,he]
  have hl:=h.len
  refine⟨by rw[GP hl,nP,hz],fun q hq=>?_⟩
  rw[←hz,J5 hl _ _ (by rw[nP];exact hq)]
  exact h.ft _
 ·have:=GQ h.len (fun x y hxy=>(h.inj x y).1 hxy) v.toList w.toList (by rw[nP,nP]) hh
  exact Vector.toList_inj.1 this
theorem rY {d o off:Nat}{t:TypeId}{fs:List (Nat×TypeId)}{α:Type}{c:Cd α}{us:α→List Value}{j:TyE}{x:α}{rest:List Value}(h:EqC tb d t c us)(ht:tb t=some j)(ho:o=off)(hr:uc tb (nL tb d) fs (off+j.size) rest)(hz:c.sz=j.size:=by exact rfl):uc tb (nL tb d) ((o,t)::fs) off (us x++rest):=by
 unfold uc
 have hl:=h.len x
 rw[ht]
 refine⟨ho,?_,by rw[cD];omega,?_⟩
 ·rw[←hz,←hl,vO];exact h.ft x
 ·rw[←hz,←hl,tK,hl,hz];exact hr
theorem EqC.struct {d:Nat}{t:TypeId}{α:Type}{c:Cd α}{us:α→List Value}{i:TyE}{fs:List (Nat×TypeId)}(ht:tb t=some i)(hf:∀x,c.f x=(us x).map E.lit)(JJ:∀x,uc tb (nL tb d) fs 0 (us x))(Gz:∀x y,us x=us y→x=y)(hi:i.ty=.struct fs:=by exact rfl):EqC tb (d+1) t c us:=
 ⟨hf,fun x=>by unfold nL;rw[ht];simp only[hi];exact JJ x,fun x y=>⟨Gz x y,fun h=>by rw[h]⟩⟩
theorem qj:∀us:List Value,lN (dC (us.map E.lit))=some us
 |[]=>rfl
 |u::us=>by
  show (lN (dC (us.map E.lit))).map (u::·)=_
  rw[qj us];rfl
variable {dr:Bool} {ty:TypeId} {ev:Operand→D} {x y:Operand} {hp:Hp} {α:Type} {c:Cd α} {us:α→List Value} {a b:α} {t t':TypeId} {i:TyE}
theorem Fo(tok:TOk P tb)(n:Nat)(hd:n≤10000)(h:EqC tb n t c us)(ht:tb t=some i)[DecidableEq α](hg:i.ty.agg=true:=by exact rfl)(hm:P.eqGuardType P.depth t=false:=by kernel_rfl)(hn:lV P n t=true:=by kernel_rfl)(hx:ev x=dG c a:=by exact rfl)(hy:ev y=dG c b:=by exact rfl):AVC P tb dr (.binOp .eql t x y t') ty ev hp (Kq (dB (decide (a=b))) hp):=by
 have e:∀z,(c.f z).map D.e=dC ((us z).map E.lit):=fun z=>by rw[h.hf];rfl
 exact T_geql tok n hd ht hg hm hn hx hy (by rw[e,qj]) (by rw[e,qj]) (h.ft a) (h.ft b) (h.inj a b)
theorem xj(tok:TOk P tb)(n:Nat)(hd:n≤10000)(h:EqC tb n t c us)(ht:tb t=some i)[DecidableEq α](hg:i.ty.agg=true:=by exact rfl)(hm:P.eqGuardType P.depth t=false:=by kernel_rfl)(hn:lV P n t=true:=by kernel_rfl)(hx:ev x=dG c a:=by exact rfl)(hy:ev y=dG c b:=by exact rfl):AVC P tb dr (.binOp .neq t x y t') ty ev hp (Kq (dB (decide (¬a=b))) hp):=by
 have e:∀z,(c.f z).map D.e=dC ((us z).map E.lit):=fun z=>by rw[h.hf];rfl
 exact T_gneq tok n hd ht hg hm hn hx hy (by rw[e,qj]) (by rw[e,qj]) (h.ft a) (h.ft b) (h.inj a b)
theorem BN(c:Cd α){z:Nat}(hz:c.sz=z):∀(l:List α) (m:Nat) (pre rest:List D),pre.length=m*z→rest.length=l.length*z→f8 (fun n=>some (n*z,z)) (pre++rest) ((l.zipIdx m).map fun p=>(p.2,dC (c.f p.1)))=some (pre++dC (l.flatMap c.f))
 |[],m,pre,rest,_,hr=>by
  have:rest=[]:=sI (by simpa using hr)
  subst this;rfl
 |a::l,m,pre,rest,hp,hr=>by
  have hl:(dC (c.f a)).length=z:=by rw[eA,c.h,hz]
  rw[sb,bX,e8] at hr
  show f8 (fun n=>some (n*z,z)) (pre++rest) ((m,dC (c.f a))::(l.zipIdx (m+1)).map _)=_
  unfold f8
  dsimp only
  rw[ah (by rw[hl,cD];omega),←hp,vO,hl,←qR,tK]
  have:=BN c hz l (m+1) (pre++dC (c.f a)) (rest.drop z) (by rw[cD,hl,hp,bX,e8]) (by rw[fa];omega)
  rw[this,c5]
  unfold dC
  rw[nQ,iP]
theorem BS:∀es:List E,uV (dC es)=some es
 |[]=>rfl
 |e::es=>by
  show (match D.cellE (.e e),uV (dC es) with|some x,some xs=>some (x::xs)|_,_=>none)=_
  rw[BS es];rfl
theorem lj {vs:List (Nat×List D)}{lv:List (Nat×Nat×Nat×TypeId)}{N0:Nat}{e:TypeId}{j:TyE}{n:Nat}{ps:List (Nat×Operand)}(l:List α)(c:Cd α)(ht:tb t=some i)(he:tb e=some j)(hi:i.ty=.slice e:=by exact rfl)(hz:c.sz=j.size:=by exact rfl)(ME:Nat.ble (0+1) (j.size)=true:=by exact rfl)(LU:l.length=n+1:=by exact rfl)(hn:Nat.ble ((n+1)*j.size) (16777216)=true:=by exact rfl)(jH:mf (ps.map fun p=>(p.1,ev p.2))=some ((l.zipIdx 0).map fun p=>(p.2,dC (c.f p.1))):=by exact rfl)(hd:dr=false:=by exact rfl):
  AVC P tb dr (.buildSlice t (n+1) ps.toArray) ty ev ⟨vs,lv,N0⟩ (Kq (dO N0 c l) ⟨vs,(N0,l.length,j.size,e)::lv,N0+1⟩):=by
 have hf:=BN c hz l 0 [] (List.replicate ((n+1)*j.size) (D.e .any)) (by simp) (by rw[tJ,LU])
 rw[nB,nB] at hf
 have:=kH (P:=P) (dr:=dr) (ty:=ty) (ev:=ev) (vs:=vs) (lv:=lv) (N0:=N0) ht he hi ME hn jH hf (BS _) hd
 show AVC _ _ _ _ _ _ _ (Kq (.own N0 c.sz l.length (l.flatMap c.f)) _)
 rw[hz,LU]
 exact this
theorem Ia {tm:List (Nat×D)}{p:Tmp}{ty:TypeId}{j:Nat}{i:TyE}{F:List E}{k:D→Prop}(h:tm.lookup p=some (.pt j 0))(ht:tb ty=some i)(hg:i.ty.agg=true)(hv:hp.vars.lookup j=some (dC F))(hn:j<hp.next)(hl:F.length=i.size)(hk:k (.ag (dC F))):tw tb tm hp (.cell p ty) k:=
 RZ h ht hg hv hn (by rw[eA,hl];omega) (by rw[qS,g9 (by rw[eA,hl];exact ax _)]) hk
end
end
section
structure FW(α:Type) where
 f:α→List E
def cW {α:Type}(c:Cd α):FW (List α):=⟨fun l=>l.flatMap c.f⟩
theorem bV.seqW {α:Type}[Inhabited α](c:Cd α)(l:List α)(i:Nat)(h:i<l.length):bV ((cW c).f l) c (0+i*c.sz) l[i]! (fun y=>(cW c).f (l.set i y)):=by
 rw[br];exact bV.seq c l i h
def vOf {α:Type}[Inhabited α](n:Nat)(l:List α):Vector α n:=Vector.ofFn fun i=>l[i.val]!
theorem yN {α:Type}[Inhabited α]{n:Nat}{l:List α}(h:l.length=n):(vOf n l).toList=l:=by
 unfold vOf
 apply Fc
 ·rw[nP,h]
 ·intro i h1 h2
  rw[Vector.getElem_toList,NL,bL l i h2]
theorem vOf_f {α:Type}[Inhabited α](c:Cd α){n:Nat}{l:List α}(h:l.length=n):(cA n c).f (vOf n l)=l.flatMap c.f:=by
 show (vOf n l).toList.flatMap c.f=_
 rw[yN h]
theorem bV.sub {α:Type}[Inhabited α]{n:Nat}(m:Nat)(c:Cd α)(v:Vector α n)(i:Nat)(h:i+m≤n){o:Nat}(ho:i*c.sz=o):bV ((cA n c).f v) (cA m c) o (vOf m ((v.toList.drop i).take m)) (fun y=>((cA n c).f v).take o++(cA m c).f y++((cA n c).f v).drop (o+m*c.sz)):=by
 subst ho
 have hl:((v.toList.drop i).take m).length=m:=by rw[eg,fa,nP];omega
 refine⟨?_,?_,fun y=>rfl⟩
 ·rw[(cA n c).h]
  show i*c.sz+m*c.sz≤n*c.sz
  rw[←bX];exact cK _ h
 ·rw[vOf_f c hl]
  show ((v.toList.flatMap c.f).drop (i*c.sz)).take (m*c.sz)=_
  rw[nZ c.f c.h,kr c.f c.h]
section
variable {P:Program} {tb:TypeId→Option TyE} {md:Md} {ev:Operand→D} {hp:Hp} {dst:Option Tmp} {ty2:TypeId} {pos:String} {af:Array Edge} {gd:Option (Nat×Bool)} {x y:Operand} {lo hi:Option Operand} {t t2 e:TypeId} {ti j:TyE} {k k' off o o' z n m:Nat} {l h:Int}
def QQ(ev:Operand→D)(b:Option Operand)(GG l:Int):Prop:=
 match b with
 |none=>l=GG
 |some y=>∃k,ev y=dI k l
theorem QQ.val {b:Option Operand}{GG l:Int}(h:QQ ev b GG l){L:Nat}(hL:l=L){N:Nat}(hN:GG=N){g:Gh}{w:World}{ρ:Operand→Value}(hr:∀y,b=some y→aD hp g w (ev y) (ρ y)):(b.map ρ=none∧L=N)∨∃kd,b.map ρ=some (.int kd (L:Int)):=by
 cases b with
 |none=>exact .inl ⟨rfl,by have:l=GG:=h;omega⟩
 |some y=>
  obtain⟨kd,hy⟩:=h
  have:=hr y rfl
  rw[hy] at this
  exact .inr ⟨kd,by rw[←hL,n3,this.lit]⟩
theorem slA(tok:TOk P tb)(hb:0≤l∧l≤h∧h≤(n:Int)∧l<(n:Int))(ht:tb t=some ti)(he:tb e=some j)(Em:QQ ev lo 0 l)(ON:QQ ev hi (n:Int) h)(yl:ti.ty=.arr n e:=by exact rfl)(hx:ev x=.pt k off:=by exact rfl)(hn:Nat.ble n 1000000=true:=by exact rfl):
  mR P tb md ⟨dst,.slice t x lo hi none,ty2,pos,af,gd⟩ ev hp (.ow k (off+l.toNat*j.size) j.size (h - l).toNat) hp:=by
 refine (Snd.calm (dr:=md.dr) fun c7 _=>.pure fun B g w a hr yj=>?_).q (by cases md <;> rfl)
 have h1:=yj x (by simp[Op.operands])
 rw[hx] at h1
 obtain⟨L,rfl⟩:∃L:Nat,l=L:=⟨l.toNat,by omega⟩
 obtain⟨H,rfl⟩:∃H:Nat,h=H:=⟨h.toNat,by omega⟩
 have e1:((H:Int) - L).toNat=H - L:=by omega
 have hn':n≤1000000:=a9 hn
 have hbd:=iA (P:=P) (w:=w) false n n (lo.map a.eval) (hi.map a.eval) L H (Em.val rfl rfl fun y hy=>yj y (by subst hy;simp[Op.operands])) (ON.val rfl rfl fun y hy=>yj y (by subst hy;simp[Op.operands])) (by omega) (by omega)
 have hs:=tok.run_sizeOf he w
 generalize hv:a.eval x=v at h1
 cases h1 with
 |pt _ _ hk=>
  refine⟨.slice (some ⟨g.μ k,off+L*j.size,none⟩) (H - L) (n - L),?_,?_⟩
  ·have fI:¬n=L:=by omega
   have Rf:(⟨g.μ k,off,none⟩:Addr).add (L*j.size)=⟨g.μ k,off+L*j.size,none⟩:=by unfold Addr.add;split <;> simp_all
   simp[execOp,Instr.sliceAt,Instr.sureAddr,hv,run_underlying (tok.arr ht yl),hbd,hs,fI,Rf]
  ·rw[e1,bW]
   exact .ow _ _ _ _ _ hk (by omega) (by unfold maxLen;omega)
theorem slW(tok:TOk P tb)(hb:0≤l∧l≤h∧h≤(n:Int)∧l<(n:Int))(ht:tb t=some ti)(he:tb e=some j)(Em:QQ ev lo 0 l)(ON:QQ ev hi (n:Int) h)(yl:ti.ty=.slice e:=by exact rfl)(hx:ev x=.ow k off z n:=by exact rfl)(hz:z=j.size:=by exact rfl):
  mR P tb md ⟨dst,.slice t x lo hi none,ty2,pos,af,gd⟩ ev hp (.ow k (off+l.toNat*z) z (h - l).toNat) hp:=by
 subst hz
 refine (Snd.calm (dr:=md.dr) fun c7 _=>.pure fun B g w a hr yj=>?_).q (by cases md <;> rfl)
 have h1:=yj x (by simp[Op.operands])
 rw[hx] at h1
 obtain⟨L,rfl⟩:∃L:Nat,l=L:=⟨l.toNat,by omega⟩
 obtain⟨H,rfl⟩:∃H:Nat,h=H:=⟨h.toNat,by omega⟩
 have e1:((H:Int) - L).toNat=H - L:=by omega
 have hs:=tok.run_sizeOf he w
 generalize hv:a.eval x=v at h1
 cases h1 with
 |ow _ _ _ _ c hk qz o9=>
  have hbd:=iA (P:=P) (w:=w) true n c (lo.map a.eval) (hi.map a.eval) L H (Em.val rfl rfl fun y hy=>yj y (by subst hy;simp[Op.operands])) (ON.val rfl rfl fun y hy=>yj y (by subst hy;simp[Op.operands])) (by omega) (by omega)
  refine⟨.slice (some ⟨g.μ k,off+L*j.size,none⟩) (H - L) (c - L),?_,?_⟩
  ·have fI:¬c=L:=by omega
   have Rf:(⟨g.μ k,off,none⟩:Addr).add (L*j.size)=⟨g.μ k,off+L*j.size,none⟩:=by unfold Addr.add;split <;> simp_all
   simp[execOp,Instr.sliceAt,Instr.slice,hv,run_underlying (tok.slice ht yl),hbd,hs,fI,Rf]
  ·rw[e1,bW]
   exact .ow _ _ _ _ _ hk (by omega) (by omega)
theorem sPtr(tok:TOk P tb)(hm:Nat.ble m n=true)(ht:tb t=some ti)(yl:ti.ty=.arr m e:=by exact rfl)(hx:ev x=.ow k off z n:=by exact rfl):
  mR P tb md ⟨dst,.sliceToArrayPointer t x,ty2,pos,af,gd⟩ ev hp (.pt k off) hp:=by
 refine (Snd.calm (dr:=md.dr) fun c7 _=>.pure fun B g w a hr yj=>?_).q (by cases md <;> rfl)
 have h1:=yj x (by simp[Op.operands])
 rw[hx] at h1
 have hm':=a9 hm
 generalize hv:a.eval x=v at h1
 cases h1 with
 |ow _ _ _ _ c hk qz o9=>
  refine⟨.pointer (some ⟨g.μ k,off,none⟩),?_,.pt _ _ hk⟩
  have fI:¬n<m:=by omega
  simp[execOp,Instr.arrayAt,hv,run_underlying (tok.arr ht yl),fI]
theorem Cf {dr:Bool}{ty:TypeId}(ht:tb t=some ti)(he:tb e=some j)(hi:ti.ty=.slice e:=by exact rfl)(hx:ev x=.ow k off z n:=by exact rfl):AVC P tb dr (.call ⟨.builtin .len,#[x],#[t]⟩) ty ev hp (Kq (dI .i64 n) hp):=by
 show kw tb .len [t] [ev x] hp _
 rw[CI,OE,ht]
 simp only[hi,he,hx,D.asSl]
 exact Kq.here _ _
theorem T_stVw {dr:Bool}{ty:TypeId}{vs:List (Nat×List D)}{lv:List (Nat×Nat×Nat×TypeId)}{N:Nat}{F:List E}{β γ:Type}{c':Cd β}{b b':β}{F':β→List E}{c:Cd γ}{nw nm:List γ}(L:bV F c' o b F')(ht:tb t=some ti)(Ra:nw=nm)(hF:F' b'=(cW c).f nw:=by exact rfl)(hy:(ev y).cells=some (dC (c'.f b')):=by exact rfl)(hz:c'.sz=ti.size:=by exact rfl)(hx:ev x=.pt k o:=by exact rfl)(hv:vs.lookup k=some (dC F):=by exact rfl):AVC P tb dr (.store t x y) ty ev ⟨vs,lv,N⟩ (Kq .top ⟨(k,dC ((cW c).f nm))::vs,lv,N⟩):=by
 have:=yB (P:=P) (dr:=dr) (ty:=ty) (lv:=lv) (N:=N) L ht hy hz hx hv
 rw[hF,Ra] at this
 exact this
theorem G7(z:Array Value)(s:Nat)(hs:z.size=s):∀n:Nat,(madeCells z (n*s)).toList=(List.replicate n z.toList).flatten
 |0=>by simp[madeCells]
 |n+1=>by
  have ih:=G7 z s hs n
  unfold madeCells at ih ⊢
  rw[Array.toList_map,Array.toList_range] at ih ⊢
  rw[bX,e8,List.range_add,iP,ih,List.replicate_succ',List.flatten_append]
  congr 1
  rw[qv,List.flatten_cons,List.flatten_nil,th]
  apply Fc
  ·simp[hs]
  ·intro i h1 h2
   have hi:i<s:=by simpa using h1
   simp only[Fb,NK,Function.comp]
   rw[hs,bx,Nat.mul_add_mod,ep hi,bL z i (by omega),Array.getElem_toList]
theorem sMk {α:Type}{c:Cd α}{z0:α}{kl kc:IntKind}{v:Int}{hp':Hp}(tok:TOk P tb)(hb:0≤v∧v≤1000000)(ht:tb t=some ti)(he:tb e=some j)(hz:j.zero.map E.lit=c.f z0)(yl:ti.ty=.slice e:=by exact rfl)(hx:ev x=dI kl v:=by exact rfl)(hy:ev y=dI kc v:=by exact rfl)(hbt:Nat.ble j.bytes 100000000=true:=by exact rfl)(jH:hp.var (dC ((cW c).f (List.replicate v.toNat z0)))=hp':=by exact rfl):
  mR P tb md ⟨dst,.makeSlice t x y,ty2,pos,af,gd⟩ ev hp (.ow hp.next 0 j.size v.toNat) hp':=by
 subst jH
 refine (Snd.loud (dr:=md.dr) (.step fun B g w a hr yj=>?_) (fun _=>rfl) fun _=>⟨jD _,fun j hj=>an (by omega)⟩).q (by cases md <;> rfl)
 have h1:=yj x (by simp[Op.operands])
 have h2:=yj y (by simp[Op.operands])
 rw[hx] at h1;rw[hy] at h2
 obtain⟨f,zz,Re,OS,CY,OR,hf4,_⟩:=tok.inf he
 have hbt':f.bytes≤100000000:=by rw[CY];exact a9 hbt
 obtain⟨m,rfl⟩:∃m:Nat,v=m:=⟨v.toNat,by omega⟩
 have hm:m≤1000000:=by omega
 have OJ:f.bytes*m≤281474976710656:=dv (kD hbt' hm) (by decide)
 have bZ:=run_make (P:=P) w t e f zz (tok.slice ht yl) Re OR kl kc m m (by omega) (by omega) (by rw[←ig];exact Int.ofNat_le.2 OJ) (by omega)
 rw[bW] at bZ
 have hsz:zz.cells.size=f.size:=by
  have h4:=(tok e j he).2.2.1
  rw[←iQ,hf4,h4,OS]
 have hlist:=G7 zz.cells f.size hsz m
 have hcont:(cW c).f (List.replicate m z0)=(madeCells zz.cells (m*f.size)).toList.map E.lit:=by
  rw[hlist,hf4,List.map_flatten,Fa,hz]
  show (List.replicate m z0).flatMap c.f=_
  rw[List.flatMap_def,Fa]
 have h1c:∀u∈(madeCells zz.cells (m*f.size)).toList,u.oneCell'=true:=by
  intro u hu
  rw[hlist,hf4] at hu
  obtain⟨l,hl,OH⟩:=List.mem_flatten.1 hu
  obtain rfl:=(List.mem_replicate.1 hl).2
  exact ba.1 (tok e j he).2.2.2 u OH
 refine⟨.slice (some ⟨w.heap.size,0,none⟩) m m,_,w.alloc (.cells (madeCells zz.cells (m*f.size)) e),?_,hr.newVar _ _ e ?_ (fun i u hu=>?_),cC.var hp g w _ _,?_,(Below.refl _ _).alloc hr.base _,fun p _ h=>.inl h⟩
 ·have e1:=h1.lit
  have e2:=h2.lit
  simp only[execOp,e1,e2,Sem.run_bind,bZ,Result.andThen_ok]
  rfl
 ·rw[bW,hcont,eA,bb,iQ];exact ax _
 ·have vG:(madeCells zz.cells (m*f.size)).toList[i]? =some u:=by simpa using hu
  refine⟨fun _=>h1c u (dZ vG),fun d hd=>?_⟩
  rw[bW,hcont] at hd
  unfold dC at hd
  rw[dV,dV,vG] at hd
  injection hd with hd
  subst hd
  exact .e _ _ (.lit u (h1c u (dZ vG)))
 ·rw[bW]
  have:=aD.ow (hp:=hp.var (dC ((cW c).f (List.replicate ((m:Int).toNat) z0)))) (g:=g.var hp.next w.heap.size) (w:=w.alloc (.cells (madeCells zz.cells (m*f.size)) e)) hp.next 0 j.size m m (ek _) (ax _) (by unfold maxLen;omega)
  rwa[show (g.var hp.next w.heap.size).μ hp.next=w.heap.size from ai rfl] at this
theorem PV(w:World)(t t2 ty e:TypeId)(i:TypeInfo)(hu:P.underlying t=some (.slice e))(hi:P.info? e=some i)(b o n c:Nat)(A:Option Addr)(m c':Nat)(cur:Array Value)(tt:TypeId)(cs:List Value)(hA:0<m→∃ad,A=some ad)(hl:cs.length=min m n*i.size)
  (SQ:∀ad,A=some ad→∀j v,cs[j]? =some v→w.cell? (ad.add j)=some v) (hg:w.heap[b]? =some (.cells cur tt (0,0))) (GA:o+cs.length≤cur.size) (h1:∀v∈cs,v.oneCell'=true):
  (Builtin.copy_ #[t,t2] ty #[.slice (some ⟨b,o,none⟩) n c,.slice A m c']).run P w=   .ok (goInt ((min m n:Nat):Int)) (w.setRow b (cur.toList.take o++cs++cur.toList.drop (o+cs.length)).toArray):=by
 have Hc:=run_storeCells_at P b o tt cs 0 cur w hg (by simpa using GA) h1
 have e0:Nat.min m n=min m n:=rfl
 cases A with
 |none=>
  have hm:m=0:=by
   rcases sd m with h|h
   ·exact h
   ·obtain⟨_,h⟩:=hA h;cases h
  subst hm
  have:cs=[]:=sI (by rw[hl];simp)
  subst this
  simp at Hc
  simp[Builtin.copy_,run_underlying hu,Builtin.lenOf,Builtin.firstCells,sizeOf,typeInfo,hi,Hc]
 |some a=>
  have FR:=run_loadCells_list (P:=P) w a cs (SQ a rfl)
  rw[hl] at FR
  simp[Builtin.copy_,run_underlying hu,Builtin.lenOf,Builtin.firstCells,sizeOf,typeInfo,hi,e0,FR,Hc]
def xm(hp:Hp)(d:D)(z m:Nat)(xs:List E):Prop:=xs.length=m*z∧∀(B:Nat) (g:Gh) (w:World) (v:Value),HR B hp g w→aD hp g w d v→
 ∃A c us,v=.slice A m c∧(0<m→∃ad,A=some ad)∧(∀ad,A=some ad→∀j u,us[j]? =some u→w.cell? (ad.add j)=some u)∧Pw (db w g.F) xs us
theorem xm.own {vs:List (Nat×List D)}{lv:List (Nat×Nat×Nat×TypeId)}{N:Nat}{F:List E}{xs:List E}(hv:vs.lookup k=some (dC F))(hle:off+m*z≤F.length)(hF:(F.drop off).take (m*z)=xs):xm ⟨vs,lv,N⟩ (.ow k off z m) z m xs:=by
 subst hF
 refine⟨by rw[eg,fa];omega,fun B g w v hr hd=>?_⟩
 cases hd with
 |ow _ _ _ _ c hk qz o9=>
  obtain⟨h1,h2,h3,cs,ty,h4,h5,h6⟩:=hr.var k _ hv
  rw[eA] at h5
  refine⟨_,c,(cs.toList.drop off).take (m*z),rfl,fun _=>⟨_,rfl⟩,fun ad ha j u hu=>?_,?_,fun j x u hx hu=>?_⟩
  ·injection ha with ha
   subst ha
   rw[gM] at hu
   split at hu
   ·rw[nA,Lr] at hu
    have Rf:(⟨g.μ k,off,none⟩:Addr).add j=⟨g.μ k,off+j,none⟩:=by unfold Addr.add;split <;> simp_all
    rw[Rf]
    simpa[World.cell?,h4] using hu
   ·cases hu
  ·simp only[eg,fa,iQ];omega
  ·rw[gM] at hx hu
   split at hx
   ·rename_i hj
    rw[ai hj,nA,Lr] at hu
    rw[nA] at hx
    have:=(h6 (off+j) u hu).2 (.e x) (by unfold dC;rw[dV,hx];rfl)
    cases this
    assumption
   ·cases hx
theorem xm.dat {hp:Hp}{d:D}{z m:Nat}{xs:List E}(h:d.asSl z=some (m,xs))(hl:xs.length=m*z):xm hp d z m xs:=by
 refine⟨hl,fun B g w v hr hd=>?_⟩
 obtain⟨A,c,rfl,cQ⟩:=r6 hd h
 obtain⟨_,_,_,_,hA,us,OH,hc,hp⟩:=cQ.reads
 exact⟨A,c,us,rfl,fun hm=>(hA hm).imp fun ad h=>h.1,fun ad ha j u hu=>(hc ad ha j u hu).1,hp⟩
theorem db.oneL {w:World}{F:Addr→Prop}{xs:List E}{us:List Value}(h:Pw (db w F) xs us):∀u∈us,u.oneCell'=true:=by
 intro u hu
 obtain⟨i,hi⟩:=List.mem_iff_getElem?.1 hu
 have:i<xs.length:=by rw[h.1];exact (fP.1 hi).1
 exact (h.2 i xs[i] u (cH this) hi).one
theorem sCp {vs:List (Nat×List D)}{lv:List (Nat×Nat×Nat×TypeId)}{N:Nat}{F xs:List E}(tok:TOk P tb)(ht:tb t=some ti)(he:tb e=some j)(hs:xm ⟨vs,lv,N⟩ (ev y) z m xs)(hv:vs.lookup k=some (dC F))(GA:off+n*z≤F.length)(yl:ti.ty=.slice e:=by exact rfl)(hx:ev x=.ow k off z n:=by exact rfl)(hz:z=j.size:=by exact rfl):
  mR P tb md ⟨dst,.call ⟨.builtin .copy,#[x,y],#[t,t2]⟩,ty2,pos,af,gd⟩ ev ⟨vs,lv,N⟩ (dI .i64 (min m n:Nat)) ⟨(k,dC (F.take off++xs.take (min m n*z)++F.drop (off+min m n*z)))::vs,lv,N⟩:=by
 subst hz
 refine (Snd.loud (dr:=md.dr) (.step fun B g w a hr yj=>?_) (fun _=>rfl) fun h=>by simp[xQ,cpB] at h).q (by cases md <;> rfl)
 have h1:=yj x (cP (by simp))
 have h2:=yj y (cP (by simp))
 rw[hx] at h1
 obtain⟨BI,hs⟩:=hs
 obtain⟨A,c',us,hy,hA,SQ,xS⟩:=hs B g w _ hr h2
 obtain⟨q1,q2,q3,cs,ty,q4,q5,q6⟩:=hr.var k _ hv
 rw[eA] at q5
 obtain⟨f,zz,Re,OS,_⟩:=tok.inf he
 have Ei:min m n*j.size≤n*j.size:=cK _ (Nat.min_le_right _ _)
 have hmin2:min m n*j.size≤m*j.size:=cK _ (Nat.min_le_left _ _)
 have OH:us.length=m*j.size:=by rw[←xS.1,BI]
 have htl:(us.take (min m n*j.size)).length=min m n*j.size:=by rw[eg];omega
 have hxt:(xs.take (min m n*j.size)).length=min m n*j.size:=by rw[eg];omega
 generalize hv1:a.eval x=v1 at h1
 cases h1 with
 |ow _ _ _ _ c hk qz o9=>
  have hone:∀u∈us.take (min m n*j.size),u.oneCell'=true:=fun u hu=>db.oneL xS u (Pj hu)
  have bZ:=PV (P:=P) w t t2 ty2 e f (tok.slice ht yl) Re (g.μ k) off n c A m c' cs ty (us.take (min m n*j.size)) hA (by rw[htl,OS]) (fun ad ha i v hi=>SQ ad ha i v (by
   rw[gM] at hi
   split at hi
   ·exact hi
   ·cases hi)) q4 (by omega) hone
  have Tk:=setRow_heap w (g.μ k) cs (cs.toList.take off++us.take (min m n*j.size)++cs.toList.drop (off+(us.take (min m n*j.size)).length)).toArray ty (0,0) q4
  have Tp:eW ⟨vs,lv,N⟩ g w (dC F) (cs.toList.take F.length):=⟨⟨by simp only[eA,eg,iQ];omega,fun i d u hd hu=>(q6 i u (by
   rw[gM] at hu
   split at hu
   ·simpa using hu
   ·cases hu)).2 d hd⟩,fun u hu=>by
   obtain⟨i,hi⟩:=List.mem_iff_getElem?.1 hu
   rw[gM] at hi
   split at hi
   ·rename_i bI
    exact (q6 i u (by simpa using hi)).1 (by rw[eA];exact bI)
   ·cases hi⟩
  have hmid:eW ⟨vs,lv,N⟩ g w (dC (xs.take (min m n*j.size))) (us.take (min m n*j.size)):=by
   refine⟨⟨by rw[eA,hxt,htl],fun i d u hd hu=>?_⟩,hone⟩
   unfold dC at hd
   rw[dV] at hd
   cases hx':(xs.take (min m n*j.size))[i]? with
   |none=>rw[hx'] at hd;cases hd
   |some x'=>
    rw[hx'] at hd
    injection hd with hd
    subst hd
    exact .e _ _ ((xS.take _).2 i x' u hx' hu)
  have CX:eW ⟨vs,lv,N⟩ g w (dC (F.take off++xs.take (min m n*j.size)++F.drop (off+min m n*j.size))) ((cs.toList.take off++us.take (min m n*j.size)++cs.toList.drop (off+(us.take (min m n*j.size)).length)).take F.length):=by
   have:=((Tp.take off).append hmid).append (Tp.drop (off+min m n*j.size))
   rw[htl]
   have e1:(cs.toList.take off++us.take (min m n*j.size)++cs.toList.drop (off+min m n*j.size)).take F.length=((cs.toList.take F.length).take off++us.take (min m n*j.size))++(cs.toList.take F.length).drop (off+min m n*j.size):=by
    have hlA:(cs.toList.take off++us.take (min m n*j.size)).length=off+min m n*j.size:=by rw[cD,htl,eg,iQ];omega
    rw[UO,hlA,g9 (by rw[hlA];omega),Lq,Hu,tf (show off≤F.length by omega)]
   rw[e1]
   unfold dC at this ⊢
   simpa only[iP,vf,xb] using this
  have LU:(F.take off++xs.take (min m n*j.size)++F.drop (off+min m n*j.size)).length=F.length:=by
   simp only[cD,eg,fa];omega
  have Am:=SzB.row (new:=(cs.toList.take off++us.take (min m n*j.size)++cs.toList.drop (off+(us.take (min m n*j.size)).length)).toArray) q4 (by simp only[se,cD,eg,fa,iQ];omega)
  refine⟨goInt ((min m n:Nat):Int),g,_,?_,hr.setVar hv _ _ ty (by simp[World.setRow]) (fun b hb=>setRow_other w _ b _ hb) Tk (by rw[eA,LU];simp only[se,cD,eg,fa,iQ];omega) Am (fun i u hu=>?_),cC.setVar hr hv _ (by simp[World.setRow]) (fun b hb=>setRow_other w _ b _ hb) Am,.e _ _ (.lit _ rfl),yv w q2 _,fun _ _ h=>h⟩
  ·simp only[execOp,Array.map_map,al_5,iW,l8,resolve,invoke,builtin,hv1,hy,Sem.run_bind]
   simp[resolve,invoke,builtin,hv1,hy,bZ]
  ·have vG:(cs.toList.take off++us.take (min m n*j.size)++cs.toList.drop (off+(us.take (min m n*j.size)).length))[i]? =some u:=by simpa using hu
   have hw:i<F.length→((cs.toList.take off++us.take (min m n*j.size)++cs.toList.drop (off+(us.take (min m n*j.size)).length)).take F.length)[i]? =some u:=fun hi=>by
    rw[gM,ai hi];exact vG
   exact⟨fun hi=>CX.2 u (dZ (hw (by rw[eA,LU] at hi;exact hi))),fun d hd=>CX.1.2 i d u hd (hw (by rw[←LU,←eA];exact (fP.1 hd).1))⟩
def lCp {α:Type}(l:List α)(o:Nat)(s:List α):List α:=l.take o++s++l.drop (o+s.length)
theorem lCp_len {α:Type}{l s:List α}{o:Nat}(h:o+s.length≤l.length):(lCp l o s).length=l.length:=by
 unfold lCp;simp only[cD,eg,fa];omega
theorem Kz {α:Type}(c:Cd α)(l s:List α)(o:Nat):(lCp l o s).flatMap c.f=(l.flatMap c.f).take (o*c.sz)++s.flatMap c.f++(l.flatMap c.f).drop (o*c.sz+s.length*c.sz):=by
 unfold lCp
 rw[Jn,Jn,kr c.f c.h,←bX,nZ c.f c.h]
section
variable {α:Type} [Inhabited α] {c:Cd α} {vs:List (Nat×List D)} {lv:List (Nat×Nat×Nat×TypeId)} {N N0:Nat}
theorem xm.arr {v:Vector α N0}(hv:vs.lookup k=some (dC ((cA N0 c).f v)))(o:Nat)(hm:o+m≤N0)(ho:off=o*c.sz:=by exact rfl)(hz:z=c.sz:=by exact rfl):xm ⟨vs,lv,N⟩ (.ow k off z m) z m (((v.toList.drop o).take m).flatMap c.f):=by
 subst ho hz
 refine xm.own hv ?_ ?_
 ·rw[(cA N0 c).h]
  show o*c.sz+m*c.sz≤N0*c.sz
  rw[←bX];exact cK _ hm
 ·show ((v.toList.flatMap c.f).drop (o*c.sz)).take (m*c.sz)=_
  rw[nZ c.f c.h,kr c.f c.h]
theorem xm.lst {l:List α}(hv:vs.lookup k=some (dC ((cW c).f l)))(o:Nat)(hm:o+m≤l.length)(ho:off=o*c.sz:=by exact rfl)(hz:z=c.sz:=by exact rfl):xm ⟨vs,lv,N⟩ (.ow k off z m) z m (((l.drop o).take m).flatMap c.f):=by
 subst ho hz
 refine xm.own hv ?_ ?_
 ·show _≤(l.flatMap c.f).length
  rw[ip c.f c.h,←bX];exact cK _ hm
 ·show ((l.flatMap c.f).drop (o*c.sz)).take (m*c.sz)=_
  rw[nZ c.f c.h,kr c.f c.h]
theorem sCpA {v:Vector α N0}{s:List α}{r:List (Nat×List D)}(tok:TOk P tb)(ht:tb t=some ti)(he:tb e=some j)(hs:xm ⟨vs,lv,N⟩ (ev y) z m (s.flatMap c.f))(FK:s.length=m)(hv:vs.lookup k=some (dC ((cA N0 c).f v)))(o:Nat)(GA:o+n≤N0)(hr:(k,dC ((cA N0 c).f (vOf N0 (lCp v.toList o (s.take n)))))::vs=r)(ho:off=o*c.sz:=by exact rfl)(Ha:z=c.sz:=by exact rfl)(yl:ti.ty=.slice e:=by exact rfl)(hx:ev x=.ow k off z n:=by exact rfl)(hz:z=j.size:=by exact rfl):
  mR P tb md ⟨dst,.call ⟨.builtin .copy,#[x,y],#[t,t2]⟩,ty2,pos,af,gd⟩ ev ⟨vs,lv,N⟩ (dI .i64 (min m n:Nat)) ⟨r,lv,N⟩:=by
 subst ho Ha hr
 have:=sCp (P:=P) (md:=md) (dst:=dst) (ty2:=ty2) (pos:=pos) (af:=af) (gd:=gd) (t2:=t2) (lv:=lv) tok ht he hs hv (by
  rw[(cA N0 c).h]
  show _≤N0*c.sz
  rw[←bX];exact cK _ GA) yl hx hz
 have e1:(s.take n).length=min m n:=by rw[eg,FK,Nat.min_comm]
 have e2:(cA N0 c).f (vOf N0 (lCp v.toList o (s.take n)))=((cA N0 c).f v).take (o*c.sz)++(s.flatMap c.f).take (min m n*c.sz)++((cA N0 c).f v).drop (o*c.sz+min m n*c.sz):=by
  rw[vOf_f c (by rw[lCp_len (by rw[e1,nP];have:=Nat.min_le_right m n;omega),nP]),Kz,e1]
  have e3:(s.flatMap c.f).take (min m n*c.sz)=(s.take n).flatMap c.f:=by
   rw[kr c.f c.h]
   congr 1
   rcases Nat.le_total m n with h|h
   ·rw[tf h,g9 (by omega),g9 (by omega)]
   ·rw[Nat.min_eq_right h]
  rw[e3];rfl
 rw[e2];exact this
theorem sCpW {l s:List α}{r:List (Nat×List D)}(tok:TOk P tb)(ht:tb t=some ti)(he:tb e=some j)(hs:xm ⟨vs,lv,N⟩ (ev y) z m (s.flatMap c.f))(FK:s.length=m)(hv:vs.lookup k=some (dC ((cW c).f l)))(o:Nat)(GA:o+n≤l.length)(hr:(k,dC ((cW c).f (lCp l o (s.take n))))::vs=r)(ho:off=o*c.sz:=by exact rfl)(Ha:z=c.sz:=by exact rfl)(yl:ti.ty=.slice e:=by exact rfl)(hx:ev x=.ow k off z n:=by exact rfl)(hz:z=j.size:=by exact rfl):
  mR P tb md ⟨dst,.call ⟨.builtin .copy,#[x,y],#[t,t2]⟩,ty2,pos,af,gd⟩ ev ⟨vs,lv,N⟩ (dI .i64 (min m n:Nat)) ⟨r,lv,N⟩:=by
 subst ho Ha hr
 have:=sCp (P:=P) (md:=md) (dst:=dst) (ty2:=ty2) (pos:=pos) (af:=af) (gd:=gd) (t2:=t2) (lv:=lv) tok ht he hs hv (by
  show _≤(l.flatMap c.f).length
  rw[ip c.f c.h,←bX];exact cK _ GA) yl hx hz
 have e1:(s.take n).length=min m n:=by rw[eg,FK,Nat.min_comm]
 have e2:(cW c).f (lCp l o (s.take n))=((cW c).f l).take (o*c.sz)++(s.flatMap c.f).take (min m n*c.sz)++((cW c).f l).drop (o*c.sz+min m n*c.sz):=by
  show (lCp l o (s.take n)).flatMap c.f=_
  rw[Kz,e1]
  have e3:(s.flatMap c.f).take (min m n*c.sz)=(s.take n).flatMap c.f:=by
   rw[kr c.f c.h]
   congr 1
   rcases Nat.le_total m n with h|h
   ·rw[tf h,g9 (by omega),g9 (by omega)]
   ·rw[Nat.min_eq_right h]
  rw[e3];rfl
 rw[e2];exact this
end
theorem WkS.free {tm:List (Nat×D)}{vs:List (Nat×List D)}{lv:List (Nat×Nat×Nat×TypeId)}{N k:Nat}{ds:List D}(hv:vs.lookup k=some ds):∀(B:Nat) (g:Gh) (w:World) (ρ:Nat→Value),HR B ⟨vs,lv,N⟩ g w→(∀t d,tm.lookup t=some d→aD ⟨vs,lv,N⟩ g w d (ρ t))→
  ∃g':Gh,g'=⟨g.μ,g.τ,fun p=>g.F p∧p.block≠g.μ k⟩∧HR B ⟨vs.filter fun p=>!([k]:List Nat).contains p.1,lv,N⟩ g' w∧cC ⟨vs,lv,N⟩ g w ⟨vs.filter fun p=>!([k]:List Nat).contains p.1,lv,N⟩ g' w∧(∀t d,tm.lookup t=some d→aD ⟨vs.filter fun p=>!([k]:List Nat).contains p.1,lv,N⟩ g' w d (ρ t))∧∀p:Addr,p.block<B→g.F p→g'.F p:=by
 intro B g w ρ hr nF
 obtain⟨h1,h2,h3,cs,ty,h4,h5,h6⟩:=hr.var k _ hv
 have look:∀{j:Nat} {ds:List D},(vs.filter fun p=>!([k]:List Nat).contains p.1).lookup j=some ds→j≠k∧vs.lookup j=some ds:=by
  intro j ds h
  obtain⟨a,b⟩:=jl h
  exact⟨by simpa using a,b⟩
 have fI:∀{j:Nat} {ds:List D},j≠k→vs.lookup j=some ds→g.μ j≠g.μ k:=fun hj hl e=>hj (hr.inj _ _ _ _ hl hv e)
 have mo:cC ⟨vs,lv,N⟩ g w ⟨vs.filter fun p=>!([k]:List Nat).contains p.1,lv,N⟩ ⟨g.μ,g.τ,fun p=>g.F p∧p.block≠g.μ k⟩ w:=by
  refine⟨ax _,fun _ _ _=>rfl,fun _ _ h=>h.1,ax _,fun _ _=>rfl,fun _ _ m _ h=>⟨m,h,ax _,fun _=>rfl⟩,fun b hb hf=>⟨rfl,fun p hp hq=>⟨hq,?_⟩,fun j ds hj=>hf.1 j ds (look hj).2,hf.2⟩,fun _=>.same fun _=>rfl⟩
  rw[hp];exact fun e=>hf.1 k _ hv e.symm
 refine⟨_,rfl,⟨fun j ds hj=>?_,fun j j' ds ds' hj Cw he=>hr.inj j j' ds ds' (look hj).2 (look Cw).2 he,fun id m e hi=>?_,hr.tinj,hr.base,fun p hp=>hr.fits p hp.1⟩,mo,fun t' d hd=>(nF t' d hd).mono mo,fun p hp hq=>⟨hq,?_⟩⟩
 ·obtain⟨a1,a2⟩:=look hj
  obtain⟨b1,b2,b3,wP,LR,b4,b5,b6⟩:=hr.var j ds a2
  exact⟨b1,b2,fun p hp=>⟨b3 p hp,by rw[hp];exact fI a1 a2⟩,wP,LR,b4,b5,fun i u hu=>⟨(b6 i u hu).1,fun d hd=>((b6 i u hu).2 d hd).mono mo⟩⟩
 ·obtain⟨b1,us,b2,b3,b4⟩:=hr.tok id m e hi
  exact⟨b1,us,b2,b3,fun b hb=>⟨fun p hp hq=>⟨(b4 b hb).1 p hp hq,by rw[hp];exact fun e=>(b4 b hb).2 k _ hv e.symm⟩,fun j ds hj=>(b4 b hb).2 j ds (look hj).2⟩⟩
 ·intro e
  omega
theorem D5 {tm:List (Nat×D)}{d0:D}:∀{ts:List Nat} {t:Nat} {d:D},(ts.map (fun t=>(t,d0))++tm).lookup t=some d→(t∈ts∧d=d0)∨tm.lookup t=some d
 |[],t,d,h=>.inr h
 |s::ts,t,d,h=>by
  by_cases Hc:t=s
  ·subst Hc
   have:some d0=some d:=by rw[←h];exact aa.symm
   injection this with this
   exact .inl ⟨qT ..,this.symm⟩
  ·rcases D5 (ts:=ts) (t:=t) (d:=d) (by rw[←h];exact (an Hc).symm) with⟨h1,h2⟩|h1
   ·exact .inl ⟨pb _ h1,h2⟩
   ·exact .inr h1
theorem WkS.frzs {tm:List (Nat×D)}{vs:List (Nat×List D)}{lv:List (Nat×Nat×Nat×TypeId)}{N k z n:Nat}{F:List E}(ts:List Nat)(hz:0<z)(ht:∀t∈ts,tm.lookup t=some (.ow k 0 z n))(hv:vs.lookup k=some (dC F))(hF:F.length=n*z):
  WkS tm ⟨vs,lv,N⟩ (ts.map (fun t=>(t,.e (.sl z n F)))++tm) ⟨vs.filter fun p=>!([k]:List Nat).contains p.1,lv,N⟩:=by
 intro B g w ρ hr nF
 have one:∀t∈ts,∃g',(g':Gh)=⟨g.μ,g.τ,fun p=>g.F p∧p.block≠g.μ k⟩∧aD ⟨vs.filter fun p=>!([k]:List Nat).contains p.1,lv,N⟩ g' w (.e (.sl z n F)) (ρ t):=by
  intro t rt
  refine⟨_,rfl,?_⟩
  obtain⟨h1,h2,h3,cs,ty,h4,h5,h6⟩:=hr.var k _ hv
  have cQ:=nF t _ (ht t rt)
  generalize ρ t=u at cQ
  cases cQ with
  |ow _ _ _ _ c hk qz o9=>
   have oV:F.length≤cs.size:=by rw[eA] at h5;exact h5
   refine .e _ _ (.sl z n F (some ⟨g.μ k,0,none⟩) c (fun i=>cs.getD i undef) hF hz qz o9 (fun _=>⟨_,rfl,(oR.1 h4).1⟩) (fun ad ha i e hi=>?_) (fun i e hi=>?_))
   ·injection ha with ha
    subst ha
    have bI:i<cs.size:=bH (fP.1 hi).1 oV
    refine⟨?_,fun hf=>hf.2 (by rw[gi])⟩
    have e0:w.cell? (({block:=g.μ k,off:=0,spot:=none}:Addr).add i)=cs[0+i]? :=by
     by_cases h0:i=0
     ·subst h0;simp[World.cell?,Addr.add,h4]
     ·simp[World.cell?,Addr.add,h4,h0]
    rw[e0,br]
    simp[eQ,bI]
   ·have bI:i<cs.size:=bH (fP.1 hi).1 oV
    have hu:=h6 i (cs.getD i undef) (by simp[eQ,bI])
    have:=hu.2 (.e e) (by unfold dC;rw[dV,hi];rfl)
    cases this with
    |e _ _ h7=>exact db.less h7 fun p hp=>hp.1
 obtain⟨g',hg',q1,q2,q3,q4⟩:=WkS.free (lv:=lv) (N:=N) (tm:=tm) (k:=k) hv B g w ρ hr nF
 subst hg'
 refine⟨_,q1,q2,fun t d hd=>?_,q4⟩
 rcases D5 hd with⟨h1,rfl⟩|h1
 ·obtain⟨g',hg',h2⟩:=one t h1
  subst hg'
  exact h2
 ·exact q3 t d h1
theorem WkS.frzG {α:Type}(c:Cd α){l:List α}{tm:List (Nat×D)}{vs:List (Nat×List D)}{lv:List (Nat×Nat×Nat×TypeId)}{N k n:Nat}(ts:List Nat)(hn:n=l.length)(ht:∀t∈ts,tm.lookup t=some (.ow k 0 c.sz n))(hv:vs.lookup k=some (dC ((cW c).f l)))(hz:Nat.ble 1 c.sz=true:=by exact rfl):
  WkS tm ⟨vs,lv,N⟩ (ts.map (fun t=>(t,.e (slE c l)))++tm) ⟨vs.filter fun p=>!([k]:List Nat).contains p.1,lv,N⟩:=by
 subst hn
 exact WkS.frzs ts (a9 hz) ht hv (ip c.f c.h l)
end
end
section
section
variable {P:Program} {tb:TypeId→Option TyE} {dr:Bool} {ev:Operand→D} {hp:Hp} {ty:TypeId} {α:Type}
theorem Jt {t e:TypeId}{i j:TyE}{n:Nat}{ps:List (Nat×Operand)}(l:List α)(c:Cd α)(ht:tb t=some i)(he:tb e=some j)(hi:i.ty=.slice e:=by exact rfl)(hz:c.sz=j.size:=by exact rfl)(ME:Nat.ble (0+1) (j.size)=true:=by exact rfl)(LU:l.length=n+1:=by exact rfl)(hn:Nat.ble ((n+1)*j.size) (16777216)=true:=by exact rfl)(jH:mf (ps.map fun p=>(p.1,ev p.2))=some ((l.zipIdx 0).map fun p=>(p.2,dC (c.f p.1))):=by exact rfl)(hd:dr=true:=by exact rfl):
  AVC P tb dr (.buildSlice t (n+1) ps.toArray) ty ev hp (Kq (dF c l) hp):=by
 have hf:=BN c hz l 0 [] (List.replicate ((n+1)*j.size) (D.e .any)) (by simp) (by rw[tJ,LU])
 rw[nB,nB] at hf
 have:=Fp (P:=P) (dr:=dr) (ty:=ty) (ev:=ev) (hp:=hp) ht he hi ME hn jH hf (BS _) hd
 show AVC _ _ _ _ _ _ _ (Kq (.fu c.sz l.length (l.flatMap c.f)) _)
 rw[hz,LU]
 exact this
end
end
section
def Way(ops:Array Oper):List Nat→Array Bool→Prop
 |[],s=>Region.ready .any ops s=[]
 |i::l,s=>i∈Region.ready .any ops s∧Way ops l (s.setIfInBounds i true)
def Bfr(a b:Nat):List Nat→Array Bool→Prop
 |[],_=>True
 |i::l,s=>(i=b→s.getD a false=true)∧Bfr a b l (s.setIfInBounds i true)
theorem me {ops:Array Oper}{s:Array Bool}{i:Nat}:i∈Region.ready .any ops s↔i<ops.size∧s.getD i true=false∧∃o,ops[i]? =some o∧∀e∈o.after,Region.binds .any e=true→s.getD e.on false=true:=by
 unfold Region.ready
 rw[List.mem_filter,kC]
 refine and_congr_right fun h=>?_
 rw[b8,Cb]
 refine and_congr_right fun _=>?_
 cases ho:ops[i]? with
 |none=>simp
 |some o=>
  simp only[n3,wY,Array.all_eq_true',Jm,Cb,n0,exists_eq_left']
  refine forall_congr' fun e=>forall_congr' fun _=>?_
  cases Region.binds .any e <;> simp
theorem TR {s:Array Bool}{i j:Nat}(h:s.getD j false=true):(s.setIfInBounds i true).getD j false=true:=by
 simp only[eQ] at h ⊢
 rw[Jl]
 split
 ·rename_i e
  subst e
  split
  ·rfl
  ·rename_i hs
   rw[al_2 (by omega)] at h
   simp at h
 ·exact h
theorem Hj {s:Array Bool}{i:Nat}(h:i<s.size):(s.setIfInBounds i true).getD i false=true:=by
 simp[eQ,Jl,h]
theorem Bfr.of {a b:Nat}:∀(l:List Nat) (s:Array Bool),s.getD a false=true→Bfr a b l s
 |[],_,_=>trivial
 |_::l,_,h=>⟨fun _=>h,Bfr.of l _ (TR h)⟩
theorem UD {ops:Array Oper}{a b:Nat}(FX:a≠b):∀(l:List Nat) (s:Array Bool),s.size=ops.size→Way ops l s→Bfr a b l s∨Bfr b a l s
 |[],_,_,_=>.inl trivial
 |i::l,s,hs,⟨h1,h2⟩=>by
  have hi:=(me.1 h1).1
  by_cases ha:i=a
  ·subst ha
   exact .inl ⟨fun h=>absurd h FX,Bfr.of l _ (Hj (by omega))⟩
  ·by_cases hb:i=b
   ·subst hb
    exact .inr ⟨fun h=>absurd h.symm FX,Bfr.of l _ (Hj (by omega))⟩
   ·rcases UD FX l (s.setIfInBounds i true) (by simpa using hs) h2 with h|h
    ·exact .inl ⟨fun h=>absurd h hb,h⟩
    ·exact .inr ⟨fun h=>absurd h ha,h⟩
theorem Rs {ops:Array Oper}:∀(fuel t:Nat) (s:Array Bool),s.size=ops.size→unl s ops.size≤fuel→Way ops (Region.linearise.go .any ops fuel t s []) s
 |0,t,s,hs,hu=>by
  show Region.ready .any ops s=[]
  rw[US]
  intro i hi
  obtain⟨h1,h2,_⟩:=me.1 hi
  have:i∈(List.range ops.size).filter fun j=>!s.getD j false:=by
   rw[List.mem_filter,kC]
   refine⟨h1,?_⟩
   have bI:i<s.size:=by omega
   have e1:s[i]?.getD true=false:=by rw[←eQ];exact h2
   rw[eQ]
   rw[te bI] at e1 ⊢
   simp at e1 ⊢
   exact e1
  have hlen:=List.length_pos_of_mem this
  unfold unl at hu
  omega
 |fuel+1,t,s,hs,hu=>by
  simp only[Region.linearise.go]
  change Way ops (match (Region.ready .any ops s)[t % (Region.ready .any ops s).length]? with
   |some i=>Region.linearise.go .any ops fuel (t / (Region.ready .any ops s).length) (s.setIfInBounds i true) [i]
   |none=>[].reverse) s
  cases hi:(Region.ready .any ops s)[t % (Region.ready .any ops s).length]? with
  |none=>
   show Region.ready .any ops s=[]
   cases hr:Region.ready .any ops s with
   |nil=>rfl
   |cons x xs=>
    rw[hr] at hi
    have bI:t % (x::xs).length<(x::xs).length:=ej _ (by simp)
    rw[cH bI] at hi
    cases hi
  |some i=>
   simp only[]
   rw[linearise_go_acc,List.reverse_singleton,List.singleton_append]
   have hm:=dZ hi
   obtain⟨h1,h2,_⟩:=me.1 hm
   have bI:i<s.size:=by omega
   have hf:s.getD i false=false:=by
    have e1:s[i]?.getD true=false:=by rw[←eQ];exact h2
    rw[eQ]
    rw[te bI] at e1 ⊢
    simpa using e1
   exact⟨hm,Rs fuel _ _ (by simpa using hs) (by have:=HY (n:=ops.size) h1 bI hf;omega)⟩
theorem GO {P:Program}{ops:Array Oper}{Q:Exit→Act→World→Prop}:∀(l:List Nat) (fuel:Nat) (s:Array Bool) (a:Act) (w:World),wpAny P .any ops Q fuel s a w→Way ops l s→wpOps P ops Q l a w
 |[],0,_,_,_,h,_=>by simpa[wpOps] using h.2
 |[],_+1,_,_,_,h,hw=>by simpa[wpOps] using h.1 hw
 |i::l,0,_,_,_,h,hw=>by
  have:=hw.1
  rw[h.1] at this
  cases this
 |i::l,fuel+1,s,a,w,h,hw=>by
  rw[wpOps_cons]
  exact wpOp_mono (fun a w h=>GO l fuel _ a w h hw.2) (h.2 i hw.1)
def mZ:List Oper→Nat→Oper
 |[],_=>default
 |o::_,0=>o
 |_::l,n+1=>mZ l n
def lU:List Nat→Nat→Nat
 |[],_=>0
 |j::l,i=>match Nat.beq j i with
  |true=>0
  |false=>lU l i+1
def Ku(p:List Nat)(i:Nat):List (Nat×Nat)→List Edge
 |[]=>[]
 |(a,b)::C=>match Nat.beq b i with
  |true=>⟨lU p a,.data⟩::Ku p i C
  |false=>Ku p i C
def mP(p:List Nat)(C:List (Nat×Nat))(i:Nat)(o:Oper):Oper:=⟨o.dst,o.op,o.type,o.pos,((o.after.toList.map fun e=>(⟨lU p e.on,e.ground⟩:Edge))++Ku p i C).toArray,none⟩
def d8(p:List Nat)(C:List (Nat×Nat))(l:List Oper):List Oper:=p.map fun i=>mP p C i (mZ l i)
def Ou(p:List Nat)(l:List Oper):Bool:=Nat.beq p.length l.length&&(List.range l.length).all (fun i=>p.elem i)&&(l.all fun o=>o.guard.isNone)&&p.all (fun i=>Nat.blt i l.length)&&(List.range l.length).all fun k=>(List.range l.length).any fun i=>Nat.beq (lU p i) k
theorem nI:∀{p:List Nat} {i:Nat},i∈p→lU p i<p.length∧p[lU p i]? =some i
 |j::p,i,h=>by
  unfold lU
  cases hb:Nat.beq j i with
  |true=>exact⟨by simp,by simpa using zA hb⟩
  |false=>
   have fI:¬i=j:=by
    intro e;subst e
    have:Nat.beq i i=true:=Jk i
    rw[this] at hb;cases hb
   rcases kP.1 h with h|h
   ·exact absurd h fI
   ·obtain⟨h1,h2⟩:=nI h
    exact⟨by simpa using h1,by simpa using h2⟩
theorem P0 {p:List Nat}{i j:Nat}(hi:i∈p)(hj:j∈p)(h:lU p i=lU p j):i=j:=by
 have h1:=(nI hi).2
 rw[h,(nI hj).2] at h1
 injection h1 with h1
 exact h1.symm
theorem Sm {l:List Oper}{o:Oper}:∀{i:Nat},l[i]? =some o→mZ l i=o:=by
 induction l with
 |nil=>intro i h;simp at h
 |cons o' l ih=>
  intro i h
  cases i with
  |zero=>rw[UM] at h;injection h
  |succ i=>rw[List.getElem?_cons_succ] at h;exact ih h
theorem Bv {p:List Nat}{i:Nat}{e:Edge}:∀{C:List (Nat×Nat)},e∈Ku p i C→∃a,(a,i)∈C∧e=⟨lU p a,.data⟩
 |(a,b)::C,h=>by
  unfold Ku at h
  cases hb:Nat.beq b i with
  |true=>
   rw[hb] at h
   obtain rfl:=zA hb
   rcases kP.1 h with rfl|h
   ·exact⟨a,qT ..,rfl⟩
   ·obtain⟨a',h1,h2⟩:=Bv h
    exact⟨a',pb _ h1,h2⟩
  |false=>
   rw[hb] at h
   obtain⟨a',h1,h2⟩:=Bv h
   exact⟨a',pb _ h1,h2⟩
structure LC(p:List Nat)(l:List Oper):Prop where
 len:p.length=l.length
 mem:∀i,i<l.length→i∈p
 gd:∀o∈l,o.guard=none
 bd:∀i∈p,i<l.length
 inv:∀k,k<l.length→∃i,i<l.length∧lU p i=k
theorem Mp {p:List Nat}{l:List Oper}(h:Ou p l=true):LC p l:=by
 unfold Ou at h
 simp only[b8,ba,kC] at h
 obtain⟨⟨⟨⟨h1,h2⟩,h3⟩,h4⟩,h5⟩:=h
 refine⟨zA h1,fun i hi=>by simpa using h2 i hi,fun o ho=>by simpa using h3 o ho,fun i hi=>?_,fun k hk=>?_⟩
 ·exact a9 (h4 i hi)
 ·obtain⟨i,hi,hb⟩:=NJ.1 (h5 k hk)
  exact⟨i,kC.1 hi,zA hb⟩
section
variable {P:Program} {p:List Nat} {C:List (Nat×Nat)} {l:List Oper}
theorem LC.get(h:LC p l){i:Nat}{o:Oper}(ho:l[i]? =some o):(d8 p C l).toArray[lU p i]? =some (mP p C i o):=by
 have hi:i<l.length:=(fP.1 ho).1
 obtain⟨_,h2⟩:=nI (h.mem i hi)
 unfold d8
 rw[E9,dV,h2,n3,Sm ho]
theorem PI(h:LC p l){Q:Exit→Act→World→Prop}{K:Act→World→Prop}{i:Nat}(hi:i<l.length){a:Act}{w:World}(hw:wpOp P (d8 p C l).toArray Q (lU p i) K a w):wpOp P l.toArray Q i K a w:=by
 have ho:l[i]? =some l[i]:=cH hi
 unfold wpOp at hw ⊢
 rw[h.get ho] at hw
 rw[E9,ho]
 generalize hoo:l[i]=o at hw ho ⊢
 have hg:=h.gd o (dZ ho)
 obtain⟨dst,op,ty,pos,af,gd⟩:=o
 simp only at hg
 subst hg
 exact hw
theorem Dw(h:LC p l){Q:Exit→Act→World→Prop}:∀(is:List Nat) (a:Act) (w:World),(∀i∈is,i<l.length)→wpOps P (d8 p C l).toArray Q (is.map (lU p)) a w→wpOps P l.toArray Q is a w
 |[],a,w,_,hw=>hw
 |i::is,a,w,hi,hw=>by
  rw[iW,wpOps_cons] at hw
  rw[wpOps_cons]
  exact PI h (hi i (qT ..)) (wpOp_mono (fun a w h'=>Dw h is a w (fun i we=>hi i (pb _ we)) h') hw)
structure Fq(p:List Nat)(n:Nat)(s s':Array Bool):Prop where
 s1:s.size=n
 s2:s'.size=n
 eq:∀i,i<n→s'[lU p i]? =s[i]?
theorem Fq.set(h:LC p l){s s':Array Bool}(hs:Fq p l.length s s'){i:Nat}(hi:i<l.length):Fq p l.length (s.setIfInBounds i true) (s'.setIfInBounds (lU p i) true):=by
 refine⟨by simpa using hs.s1,by simpa using hs.s2,fun j hj=>?_⟩
 rw[Jl,Jl]
 have hpi:lU p i<s'.size:=by rw[hs.s2,←h.len];exact (nI (h.mem i hi)).1
 by_cases Cy:i=j
 ·subst Cy
  rw[ai rfl,ai rfl,ai hpi,ai (by rw[hs.s1];exact hi)]
 ·rw[ah Cy,ah (fun e=>Cy (P0 (h.mem i hi) (h.mem j hj) e))]
  exact hs.eq j hj
theorem Fq.getD(h:LC p l){s s':Array Bool}(hs:Fq p l.length s s'){j:Nat}(d:Bool)(hj:j<l.length):s'.getD (lU p j) d=s.getD j d:=by
 rw[eQ,eQ,hs.eq j hj]
theorem BC {s:Array Bool}{j:Nat}(h:s.getD j false=true):j<s.size:=by
 rcases dX j s.size with h1|h1
 ·exact h1
 ·rw[eQ,al_2 h1] at h;cases h
theorem JP(h:LC p l):∀(is:List Nat) (s s':Array Bool),Fq p l.length s s'→Way l.toArray is s→(∀c∈C,Bfr c.1 c.2 is s)→Way (d8 p C l).toArray (is.map (lU p)) s'
 |[],s,s',hs,hw,_=>by
  show Region.ready _ _ _=[]
  rw[US]
  intro k hk
  obtain⟨h1,h2,o',h3,h4⟩:=me.1 hk
  have hkp:k<p.length:=by
   have:(d8 p C l).length=p.length:=bb _
   simpa[this] using h1
  -- rI operation at k is rI one that stood at i
  have hik:=h.inv k (by rw[←h.len];exact hkp)
  obtain⟨i,hi,rfl⟩:=hik
  have ho:l[i]? =some l[i]:=cH hi
  rw[h.get ho] at h3
  injection h3 with h3
  subst h3
  have:i∈Region.ready .any l.toArray s:=by
   refine me.2 ⟨by simpa using hi,by rw[←hs.getD h true hi];exact h2,l[i],by rw[E9];exact ho,fun e he hb=>?_⟩
   have h5:=h4 ⟨lU p e.on,e.ground⟩ (by
    unfold mP
    rw[Pf]
    exact List.mem_append_left _ (uh.2 ⟨e,by simpa using he,rfl⟩)) hb
   have bI:lU p e.on<l.length:=by rw[←hs.s2];exact BC h5
   by_cases Tf:e.on∈p
   ·-- it is one of rI operations
    have hon:e.on<l.length:=h.bd _ Tf
    rwa[hs.getD h false hon] at h5
   ·exfalso
    have:lU p e.on=p.length:=by
     have gen:∀(q:List Nat),e.on∉q→lU q e.on=q.length:=by
      intro q
      induction q with
      |nil=>intro _;rfl
      |cons j q ih=>
       intro hq
       have fI:Nat.beq j e.on=false:=by
        cases hb:Nat.beq j e.on with
        |true=>exact absurd (kP.2 (.inl (zA hb).symm)) hq
        |false=>rfl
       unfold lU
       rw[fI]
       simp only[sb]
       rw[ih fun hh=>hq (pb _ hh)]
     exact gen p Tf
    rw[this,h.len] at bI
    omega
  rw[show Region.ready .any l.toArray s=[] from hw] at this
  cases this
 |i::is,s,s',hs,⟨h1,h2⟩,hC=>by
  obtain⟨hi0,Re,o,ho,he⟩:=me.1 h1
  have hi:i<l.length:=by simpa using hi0
  rw[E9] at ho
  refine⟨me.2 ⟨?_,by rw[hs.getD h true hi];exact Re,_,h.get ho,fun e hm hb=>?_⟩,JP h is _ _ (hs.set h hi) h2 fun c hc=>(hC c hc).2⟩
  ·have:(d8 p C l).length=p.length:=bb _
   simp only[se,this]
   exact (nI (h.mem i hi)).1
  ·unfold mP at hm
   rw[Pf] at hm
   rcases vM.1 hm with hm|hm
   ·obtain⟨e0,he0,rfl⟩:=uh.1 hm
    have h6:=he e0 (by simpa using he0) hb
    have bI:e0.on<l.length:=by rw[←hs.s1];exact BC h6
    rw[hs.getD h false bI];exact h6
   ·obtain⟨a,LX,rfl⟩:=Bv hm
    have h6:=(hC _ LX).1 rfl
    have bI:a<l.length:=by rw[←hs.s1];exact BC h6
    rw[hs.getD h false bI];exact h6
end
section
variable {P:Program} {tb:TypeId→Option TyE} {x:Cx} {tm:List (Nat×D)} {hp:Hp} {Q:Exit→List (Nat×D)→Hp→Prop} {L:List FuncId} {C:List (Nat×Nat)} {l:List Oper}
def DW(P:Program)(x:Cx)(l:List Oper)(C:List (Nat×Nat))(tm:List (Nat×D))(hp:Hp)(Q:Exit→List (Nat×D)→Hp→Prop):Prop:=
 ∀(a:Act) (w:World) (is:List Nat),RS x tm hp a w→(∀i∈is,i<l.length)→Way l.toArray is (Array.replicate l.length false)→(∀c∈C,Bfr c.1 c.2 is (Array.replicate l.length false))→wpOps P l.toArray (fun ex a' w'=>∃tm' hp',RS x tm' hp' a' w'∧Q ex tm' hp') is a w
theorem RS.drew {a:Act}{w:World}(h:RS x tm hp a w):RS x tm hp a {w with drawn:=w.drawn+1}:=by
 obtain⟨g,hr,nF,hsz,Dh,hB,hF,hM⟩:=h
 exact⟨g,hr.keep (ax _) (fun _ _=>rfl),fun t d hl=>(nF t d hl).mono (cC.keep hp g (ax _) (fun _ _=>rfl)),hsz,Dh,hB.drew,hF,hM.trans (cC.keep hp g (ax _) (fun _ _=>rfl))⟩
theorem Rr {ops:Array Oper}:∀(is:List Nat) (s:Array Bool),Way ops is s→∀i∈is,i<ops.size
 |[],_,_,_,h=>by cases h
 |j::is,s,hw,i,h=>by
  rcases kP.1 h with rfl|h
  ·exact (me.1 hw.1).1
  ·exact Rr is _ hw.2 i h
theorem AW.dw {id:Nat}(hm:P.follows .mixedOrders=true)(h:DW P x l [] tm hp Q):AW P x (.region id l.toArray true) tm hp Q:=by
 intro a w hr
 refine wp_region_draw fun t=>?_
 simp only[Region.schedule,hm,Bool.true_or,ve]
 have hway:=Rs (ops:=l.toArray) l.toArray.size t (Array.replicate l.toArray.size false) (by simp) (by unfold unl;exact dv (NI _ _) (by simp))
 have bI:=Rr _ _ hway
 simp only[se] at hway bI
 exact h a _ _ hr.drew bI hway (fun c hc=>by cases hc)
theorem DW.split(a b:Nat)(FX:a≠b)(h1:DW P x l ((a,b)::C) tm hp Q)(h2:DW P x l ((b,a)::C) tm hp Q):DW P x l C tm hp Q:=by
 intro ac w is hr bI hw hC
 rcases UD FX is _ (by simp) hw with h|h
 ·exact h1 ac w is hr bI hw fun c hc=>by
   rcases kP.1 hc with rfl|hc
   ·exact h
   ·exact hC c hc
 ·exact h2 ac w is hr bI hw fun c hc=>by
   rcases kP.1 hc with rfl|hc
   ·exact h
   ·exact hC c hc
theorem L6 {ops:Array Oper}(hN:mr x.N ops=true)(rW:Ab tb L ops=true)
  (h:∀K:List (Nat×D)→Hp→Prop,(∀tm hp,Q .normal tm hp→K tm hp)→aX P tb (.any L) ops K ops.toList tm hp) {a:Act} {w:World} (hr:RS x tm hp a w):wpAny P .any ops (fun ex a' w'=>∃tm' hp',RS x tm' hp' a' w'∧Q ex tm' hp') ops.size (Array.replicate ops.size false) a w:=by
 obtain⟨dd,hh,ac,sG,bZ,hK,h1,h2⟩:=Mj (ops:=ops) ops.toList 0 (fun _=>.top) (fun _=>hp) (fun _=>false) (fun _=>tm) ⟨fun _ _ h=>absurd h (by omega),fun _ _ h=>absurd h (by omega),fun _ _ h=>absurd h (by omega)⟩ rfl (h _ fun _ _ h=>h)
 simp only[br,iQ] at bZ hK h1 h2
 obtain⟨g,FN,nF,hsz,Dh,hB,hF,hM⟩:=hr
 refine JN hN (DV rW) bZ (fun a w hr=>⟨_,_,hr,hK⟩) ops.size _ a _ 0 g ?_ ?_
 ·have AU:∀j,¬(Array.replicate ops.size false).getD j false=true:=by
   intro j
   simp[eQ,Jj]
   split <;> simp
  refine⟨by simp,fun i _ _ _ hl=>absurd hl (AU i),cr _,fun j _ _ _=>⟨fun hl=>absurd hl (AU j),fun h=>absurd h (by omega)⟩,?_,fun t d hl=>?_,hsz,Dh,hB,hF,?_⟩
  rotate_right
  ·rw[h2];exact hM
  ·rw[h2];exact FN
  ·rw[h2]
   rcases hl with⟨i,_,_,hl,_⟩|⟨_,hl⟩
   ·exact absurd hl (AU i)
   ·rw[h1] at hl
    exact nF t d hl
 ·unfold unl
  exact dv (NI _ _) (by simp)
theorem DW.go(p:List Nat)(jH:Ou p l=true)(hN:mr x.N (d8 p C l).toArray=true)(rW:Ab tb L (d8 p C l).toArray=true)
  (h:∀K:List (Nat×D)→Hp→Prop,(∀tm hp,Q .normal tm hp→K tm hp)→aX P tb (.any L) (d8 p C l).toArray K (d8 p C l) tm hp):DW P x l C tm hp Q:=by
 intro a w is hr bI hw hC
 have hP:=Mp jH
 have h1:=L6 hN rW h hr
 have hlen:(d8 p C l).toArray.size=l.length:=by simp[d8,hP.len]
 rw[hlen] at h1
 have hs0:Fq p l.length (Array.replicate l.length false) (Array.replicate l.length false):=by
  refine⟨by simp,by simp,fun i hi=>?_⟩
  have:=(nI (hP.mem i hi)).1
  rw[Jj,Jj,ai hi,ai (by rw[←hP.len];exact this)]
 exact Dw hP is a w bI (GO _ _ _ a w h1 (JP hP is _ _ hs0 hw hC))
end
end
def tblL:List (Nat×TyE):=[
 (3,⟨.int .i64,1,8,[.int .i64 (0)]⟩),
 (4,⟨.bool,1,1,[.bool false]⟩),
 (5,⟨.int .u8,1,1,[.int .u8 (0)]⟩),
 (9,⟨.str,1,16,[.string ⟨#[]⟩]⟩),
 (22,⟨.slice 43,1,24,[.slice none 0 0]⟩),
 (24,⟨.struct [(0,3),(1,3),(2,22)],3,40,[.int .i64 (0),.int .i64 (0),.slice none 0 0]⟩),
 (26,⟨.struct [(0,24),(3,22),(4,22)],5,88,[.int .i64 (0),.int .i64 (0),.slice none 0 0,.slice none 0 0,.slice none 0 0]⟩),
 (29,⟨.struct [(0,3),(1,22),(2,22),(3,22)],4,80,[.int .i64 (0),.slice none 0 0,.slice none 0 0,.slice none 0 0]⟩),
 (38,⟨.int .u32,1,4,[aj]⟩),
 (39,⟨.arr 16 38,16,64,[aj,aj,aj,aj,aj,aj,aj,aj,aj,aj,aj,aj,aj,aj,aj,aj]⟩),
 (41,⟨.struct [(0,4),(1,4),(2,39)],18,68,[.bool false,.bool false,aj,aj,aj,aj,aj,aj,aj,aj,aj,aj,aj,aj,aj,aj,aj,aj]⟩),
 (43,⟨.struct [(0,41),(18,41)],36,136,[.bool false,.bool false,aj,aj,aj,aj,aj,aj,aj,aj,aj,aj,aj,aj,aj,aj,aj,aj,.bool false,.bool false,aj,aj,aj,aj,aj,aj,aj,aj,aj,aj,aj,aj,aj,aj,aj,aj]⟩),
 (67,⟨.slice 3,1,24,[.slice none 0 0]⟩),
 (71,⟨.slice 78,1,24,[.slice none 0 0]⟩),
 (73,⟨.struct [(0,43),(36,22)],37,160,[.bool false,.bool false,aj,aj,aj,aj,aj,aj,aj,aj,aj,aj,aj,aj,aj,aj,aj,aj,.bool false,.bool false,aj,aj,aj,aj,aj,aj,aj,aj,aj,aj,aj,aj,aj,aj,aj,aj,.slice none 0 0]⟩),
 (75,⟨.struct [(0,71),(1,73),(38,3),(39,3),(40,3)],41,208,[.slice none 0 0,.bool false,.bool false,aj,aj,aj,aj,aj,aj,aj,aj,aj,aj,aj,aj,aj,aj,aj,aj,.bool false,.bool false,aj,aj,aj,aj,aj,aj,aj,aj,aj,aj,aj,aj,aj,aj,aj,aj,.slice none 0 0,.int .i64 (0),.int .i64 (0),.int .i64 (0)]⟩),
 (78,⟨.struct [(0,73),(37,3)],38,168,[.bool false,.bool false,aj,aj,aj,aj,aj,aj,aj,aj,aj,aj,aj,aj,aj,aj,aj,aj,.bool false,.bool false,aj,aj,aj,aj,aj,aj,aj,aj,aj,aj,aj,aj,aj,aj,aj,aj,.slice none 0 0,.int .i64 (0)]⟩),
 (145,⟨.int .u64,1,8,[.int .u64 (0)]⟩),
 (147,⟨.int .u64,1,8,[.int .u64 (0)]⟩),
 (149,⟨.arr 32 38,32,128,[aj,aj,aj,aj,aj,aj,aj,aj,aj,aj,aj,aj,aj,aj,aj,aj,aj,aj,aj,aj,aj,aj,aj,aj,aj,aj,aj,aj,aj,aj,aj,aj]⟩),
 (151,⟨.slice 38,1,24,[.slice none 0 0]⟩),
 (160,⟨.other,1,8,[.pointer none]⟩),
 (161,⟨.slice 160,1,24,[.slice none 0 0]⟩),
 (179,⟨.slice 41,1,24,[.slice none 0 0]⟩),
 (191,⟨.arr 17 38,17,68,[aj,aj,aj,aj,aj,aj,aj,aj,aj,aj,aj,aj,aj,aj,aj,aj,aj]⟩)
]
def tbl(t:TypeId):Option TyE:=tblL.lookup t
theorem dW:tbl 3=some ⟨.int .i64,1,8,[.int .i64 (0)]⟩:=rfl
theorem uF:tbl 4=some ⟨.bool,1,1,[.bool false]⟩:=rfl
theorem tb_5:tbl 5=some ⟨.int .u8,1,1,[.int .u8 (0)]⟩:=rfl
theorem tb_9:tbl 9=some ⟨.str,1,16,[.string ⟨#[]⟩]⟩:=rfl
theorem b9:tbl 22=some ⟨.slice 43,1,24,[.slice none 0 0]⟩:=rfl
theorem ye:tbl 24=some ⟨.struct [(0,3),(1,3),(2,22)],3,40,[.int .i64 (0),.int .i64 (0),.slice none 0 0]⟩:=rfl
theorem rJ:tbl 26=some ⟨.struct [(0,24),(3,22),(4,22)],5,88,[.int .i64 (0),.int .i64 (0),.slice none 0 0,.slice none 0 0,.slice none 0 0]⟩:=rfl
theorem o5:tbl 29=some ⟨.struct [(0,3),(1,22),(2,22),(3,22)],4,80,[.int .i64 (0),.slice none 0 0,.slice none 0 0,.slice none 0 0]⟩:=rfl
theorem bQ:tbl 38=some ⟨.int .u32,1,4,[aj]⟩:=rfl
theorem cU:tbl 39=some ⟨.arr 16 38,16,64,[aj,aj,aj,aj,aj,aj,aj,aj,aj,aj,aj,aj,aj,aj,aj,aj]⟩:=rfl
theorem fc:tbl 41=some ⟨.struct [(0,4),(1,4),(2,39)],18,68,[.bool false,.bool false,aj,aj,aj,aj,aj,aj,aj,aj,aj,aj,aj,aj,aj,aj,aj,aj]⟩:=rfl
theorem aR:tbl 43=some ⟨.struct [(0,41),(18,41)],36,136,[.bool false,.bool false,aj,aj,aj,aj,aj,aj,aj,aj,aj,aj,aj,aj,aj,aj,aj,aj,.bool false,.bool false,aj,aj,aj,aj,aj,aj,aj,aj,aj,aj,aj,aj,aj,aj,aj,aj]⟩:=rfl
theorem cZ:tbl 67=some ⟨.slice 3,1,24,[.slice none 0 0]⟩:=rfl
theorem Ck:tbl 71=some ⟨.slice 78,1,24,[.slice none 0 0]⟩:=rfl
theorem zW:tbl 73=some ⟨.struct [(0,43),(36,22)],37,160,[.bool false,.bool false,aj,aj,aj,aj,aj,aj,aj,aj,aj,aj,aj,aj,aj,aj,aj,aj,.bool false,.bool false,aj,aj,aj,aj,aj,aj,aj,aj,aj,aj,aj,aj,aj,aj,aj,aj,.slice none 0 0]⟩:=rfl
theorem tb_75:tbl 75=some ⟨.struct [(0,71),(1,73),(38,3),(39,3),(40,3)],41,208,[.slice none 0 0,.bool false,.bool false,aj,aj,aj,aj,aj,aj,aj,aj,aj,aj,aj,aj,aj,aj,aj,aj,.bool false,.bool false,aj,aj,aj,aj,aj,aj,aj,aj,aj,aj,aj,aj,aj,aj,aj,aj,.slice none 0 0,.int .i64 (0),.int .i64 (0),.int .i64 (0)]⟩:=rfl
theorem tV:tbl 78=some ⟨.struct [(0,73),(37,3)],38,168,[.bool false,.bool false,aj,aj,aj,aj,aj,aj,aj,aj,aj,aj,aj,aj,aj,aj,aj,aj,.bool false,.bool false,aj,aj,aj,aj,aj,aj,aj,aj,aj,aj,aj,aj,aj,aj,aj,aj,.slice none 0 0,.int .i64 (0)]⟩:=rfl
theorem tb_145:tbl 145=some ⟨.int .u64,1,8,[.int .u64 (0)]⟩:=rfl
theorem tb_147:tbl 147=some ⟨.int .u64,1,8,[.int .u64 (0)]⟩:=rfl
theorem H2:tbl 149=some ⟨.arr 32 38,32,128,[aj,aj,aj,aj,aj,aj,aj,aj,aj,aj,aj,aj,aj,aj,aj,aj,aj,aj,aj,aj,aj,aj,aj,aj,aj,aj,aj,aj,aj,aj,aj,aj]⟩:=rfl
theorem RC:tbl 151=some ⟨.slice 38,1,24,[.slice none 0 0]⟩:=rfl
theorem yO:tbl 160=some ⟨.other,1,8,[.pointer none]⟩:=rfl
theorem Be:tbl 161=some ⟨.slice 160,1,24,[.slice none 0 0]⟩:=rfl
theorem qD:tbl 179=some ⟨.slice 41,1,24,[.slice none 0 0]⟩:=rfl
theorem DG:tbl 191=some ⟨.arr 17 38,17,68,[aj,aj,aj,aj,aj,aj,aj,aj,aj,aj,aj,aj,aj,aj,aj,aj,aj]⟩:=rfl
class TB (t:TypeId) (i:outParam TyE):Prop where
 h:tbl t=some i
theorem tbI {t:TypeId}{i:TyE}[h:TB t i]:tbl t=some i:=h.h
@[reducible,instance] def itb_3:=TB.mk dW
@[reducible,instance] def itb_4:=TB.mk uF
@[reducible,instance] def itb_5:=TB.mk tb_5
@[reducible,instance] def itb_9:=TB.mk tb_9
@[reducible,instance] def itb_22:=TB.mk b9
@[reducible,instance] def itb_24:=TB.mk ye
@[reducible,instance] def itb_26:=TB.mk rJ
@[reducible,instance] def itb_29:=TB.mk o5
@[reducible,instance] def itb_38:=TB.mk bQ
@[reducible,instance] def itb_39:=TB.mk cU
@[reducible,instance] def itb_41:=TB.mk fc
@[reducible,instance] def itb_43:=TB.mk aR
@[reducible,instance] def itb_67:=TB.mk cZ
@[reducible,instance] def itb_71:=TB.mk Ck
@[reducible,instance] def itb_73:=TB.mk zW
@[reducible,instance] def itb_75:=TB.mk tb_75
@[reducible,instance] def itb_78:=TB.mk tV
@[reducible,instance] def itb_145:=TB.mk tb_145
@[reducible,instance] def itb_147:=TB.mk tb_147
@[reducible,instance] def itb_149:=TB.mk H2
@[reducible,instance] def itb_151:=TB.mk RC
@[reducible,instance] def itb_160:=TB.mk yO
@[reducible,instance] def itb_161:=TB.mk Be
@[reducible,instance] def itb_179:=TB.mk qD
@[reducible,instance] def itb_191:=TB.mk DG
def Vg(P:Program):List (Nat×TyE)→Prop
 |[]=>True
 |(t,i)::l=>((P.underlying t).map Ty.of=some i.ty∧(P.info? t).map (fun f=>(f.size,f.bytes,f.zero.map fun v=>(v.cells.toList,v.isAggV)))=some (i.size,i.bytes,some (i.zero,i.ty.agg))∧i.zero.length=i.size∧i.zero.all Value.oneCell'=true)∧Vg P l
theorem Vg.get {P:Program}:∀{l:List (Nat×TyE)} {t:Nat} {i:TyE},Vg P l→l.lookup t=some i→(P.underlying t).map Ty.of=some i.ty∧(P.info? t).map (fun f=>(f.size,f.bytes,f.zero.map fun v=>(v.cells.toList,v.isAggV)))=some (i.size,i.bytes,some (i.zero,i.ty.agg))∧i.zero.length=i.size∧i.zero.all Value.oneCell'=true
 |[],t,i,_,h=>by simp at h
 |(s,j)::l,t,i,h,hl=>by
  by_cases rt:t=s
  ·subst rt
   have:some j=some i:=by rw[←hl];exact aa.symm
   injection this with this
   subst this
   exact h.1
  ·exact Vg.get h.2 (by rw[←hl];exact (an rt).symm)
theorem tokL:Vg prog tblL:=by
 iterate 25 refine⟨⟨by kernel_rfl,by kernel_rfl,by kernel_rfl,by kernel_rfl⟩,?_⟩
 exact trivial
theorem tok:TOk prog tbl:=fun _ _ h=>tokL.get h
theorem tU:prog.underlying 4=some .bool:=by kernel_rfl
section
section
variable {md:Md} {ops:Array Oper} {K:List (Nat×D)→Hp→Prop} {os:List Oper} {tm:List (Nat×D)} {hp hp':Hp} {t s:Tmp} {op:Op} {ty:TypeId} {pos:String} {af:Array Edge} {d d2:D} {j:Nat} {want c:Bool}
theorem s1(h:AVC prog tbl md.dr op ty (evD tm) hp (Kq d hp'))(h2:aX prog tbl md ops K os ((t,d)::tm) hp')(hn:md.nc tbl op=true:=by exact rfl):aX prog tbl md ops K (⟨some t,op,ty,pos,af,none⟩::os) tm hp:=st tok hn h h2
theorem s0(h:AVC prog tbl md.dr op ty (evD tm) hp (Kq d hp'))(h2:aX prog tbl md ops K os tm hp')(hn:md.nc tbl op=true:=by exact rfl):aX prog tbl md ops K (⟨none,op,ty,pos,af,none⟩::os) tm hp:=st_n tok hn h h2
theorem s2(h:AVC prog tbl md.dr op ty (evD tm) hp (Kq d hp'))(hl:d.le d2)(h2:aX prog tbl md ops K os ((t,d2)::tm) hp')(hn:md.nc tbl op=true:=by exact rfl):aX prog tbl md ops K (⟨some t,op,ty,pos,af,none⟩::os) tm hp:=st_le tok hn h hl h2
theorem g1(hw:c=want)(h:AVC prog tbl md.dr op ty (evD tm) hp (Kq d hp'))(h2:aX prog tbl md ops K os ((t,d)::tm) hp')(hj:(ops[j]?).bind (·.dst)=some s:=by exact rfl)(hc:tm.lookup s=some (.e (.lit (.bool c))):=by exact rfl)(hn:md.nc tbl op=true:=by exact rfl):aX prog tbl md ops K (⟨some t,op,ty,pos,af,some (j,want)⟩::os) tm hp:=QC tok hn hj hc hw h h2
theorem q1(h:mR prog tbl md ⟨some t,op,ty,pos,af,none⟩ (evD tm) hp d hp')(h2:aX prog tbl md ops K os ((t,d)::tm) hp'):aX prog tbl md ops K (⟨some t,op,ty,pos,af,none⟩::os) tm hp:=PU rfl h h2
theorem fzO {α:Type}(c:Cd α){l:List α}{vs vs2:List (Nat×List D)}{lv:List (Nat×Nat×Nat×TypeId)}{N n:Nat}(k:Nat)(ts:List Nat)(hn:n=l.length)(h2:aX prog tbl .seq ops K os (ts.map (fun t=>(t,.e (slE c l)))++tm) ⟨vs2,lv,N⟩)(ht:∀t∈ts,tm.lookup t=some (.ow k 0 c.sz n))(hv:vs.lookup k=some (dC ((cW c).f l)):=by exact rfl)(hz:Nat.ble 1 c.sz=true:=by exact rfl)(KD:(vs.filter fun p=>!([k]:List Nat).contains p.1)=vs2:=by exact rfl):aX prog tbl .seq ops K os tm ⟨vs,lv,N⟩:=by
 subst KD
 exact .wk rfl (WkS.frzG c ts hn ht hv hz) h2
theorem fzA {x:Cx}{Q:Exit→List (Nat×D)→Hp→Prop}{cd:Code}{α:Type}(c:Cd α){l:List α}{vs vs2:List (Nat×List D)}{lv:List (Nat×Nat×Nat×TypeId)}{N n:Nat}(k:Nat)(ts:List Nat)(hn:n=l.length)(h2:AW prog x cd (ts.map (fun t=>(t,.e (slE c l)))++tm) ⟨vs2,lv,N⟩ Q)(ht:∀t∈ts,tm.lookup t=some (.ow k 0 c.sz n))(hv:vs.lookup k=some (dC ((cW c).f l)):=by exact rfl)(hz:Nat.ble 1 c.sz=true:=by exact rfl)(KD:(vs.filter fun p=>!([k]:List Nat).contains p.1)=vs2:=by exact rfl):AW prog x cd tm ⟨vs,lv,N⟩ Q:=by
 subst KD
 exact AW.weak (fun _ _ hr=>(WkS.frzG c ts hn ht hv hz).rs hr) h2
theorem all1 {p:Nat→Prop}{a:Nat}(h:p a):∀t∈[a],p t:=by simpa using h
theorem all2 {p:Nat→Prop}{a:Nat}{l:List Nat}(h:p a)(hl:∀t∈l,p t):∀t∈a::l,p t:=by simpa using⟨h,hl⟩
variable {x:Cx} {Q:Exit→List (Nat×D)→Hp→Prop}
theorem rg {n id:Nat}{l:List Oper}(hx:x.N=n)(hN:mr n l.toArray=true)(h:∀K:List (Nat×D)→Hp→Prop,(∀tm hp,Q .normal tm hp→K tm hp)→aX prog tbl .seq l.toArray K l tm hp):AW prog x (.region id l.toArray false) tm hp Q:=AW.regS tbl (by rw[hx];exact hN) h
theorem rd {n id:Nat}{l:List Oper}(L:List FuncId)(hx:x.N=n)(hN:mr n l.toArray=true)(rW:Ab tbl L l.toArray=true)(h:∀K:List (Nat×D)→Hp→Prop,(∀tm hp,Q .normal tm hp→K tm hp)→aX prog tbl (.any L) l.toArray K l tm hp):AW prog x (.region id l.toArray true) tm hp Q:=AW.drwS tbl L (by kernel_rfl) (by rw[hx];exact hN) rW h
theorem dw {id:Nat}{l:List Oper}(h:DW prog x l [] tm hp Q):AW prog x (.region id l.toArray true) tm hp Q:=AW.dw (by kernel_rfl) h
theorem dwg {n:Nat}{l:List Oper}{C:List (Nat×Nat)}(L:List FuncId)(p:List Nat)(hx:x.N=n)(jH:Ou p l=true)(hN:mr n (d8 p C l).toArray=true)(rW:Ab tbl L (d8 p C l).toArray=true)(h:∀K:List (Nat×D)→Hp→Prop,(∀tm hp,Q .normal tm hp→K tm hp)→aX prog tbl (.any L) (d8 p C l).toArray K (d8 p C l) tm hp):DW prog x l C tm hp Q:=DW.go p jH (by rw[hx];exact hN) rW h
def PE(x:Cx){S:Type}(e:Exit)(T:S→List (Nat×D))(H:S→Hp)(y:S)(ex:Exit)(tm:List (Nat×D))(hp:Hp):Prop:=ex=e∧Wk x tm hp (T y) (H y)
def PR(rs:List ResultVar){R:Type}(dR:R→D)(y:R)(ex:Exit)(tm:List (Nat×D))(hp:Hp):Prop:=ex=.ret∧od tbl rs tm hp (dR y)
def PS {A B:Type}(p:A→Exit→List (Nat×D)→Hp→Prop)(q:B→Exit→List (Nat×D)→Hp→Prop)(y:A⊕B)(ex:Exit)(tm:List (Nat×D))(hp:Hp):Prop:=match y with| .inl a=>p a ex tm hp| .inr b=>q b ex tm hp
theorem PS.l {A B:Type}{p:A→Exit→List (Nat×D)→Hp→Prop}{q:B→Exit→List (Nat×D)→Hp→Prop}{a:A}{ex:Exit}(h:p a ex tm hp):PS p q (.inl a) ex tm hp:=h
theorem PS.r {A B:Type}{p:A→Exit→List (Nat×D)→Hp→Prop}{q:B→Exit→List (Nat×D)→Hp→Prop}{b:B}{ex:Exit}(h:q b ex tm hp):PS p q (.inr b) ex tm hp:=h
theorem PE.i {S:Type}{e:Exit}{T:S→List (Nat×D)}{H:S→Hp}{y:S}(hw:Wk x tm hp (T y) (H y)):PE x e T H y e tm hp:=⟨rfl,hw⟩
theorem PR.i {rs:List ResultVar}{R:Type}{dR:R→D}{y:R}(hw:od tbl rs tm hp (dR y)):PR rs dR y .ret tm hp:=⟨rfl,hw⟩
theorem jn {c:Code}{Q':Exit→List (Nat×D)→Hp→Prop}(Q:Exit→List (Nat×D)→Hp→Prop)(h:AW prog x c tm hp Q)(hq:∀ex tm hp,Q ex tm hp→Q' ex tm hp):AW prog x c tm hp Q':=AW.mono h hq
theorem lp {c:Code}{S X:Type}{b:S→Option (S⊕X)}{Q:Exit→List (Nat×D)→Hp→Prop}{s:S}{e:X}(T:S→List (Nat×D))(H:S→Hp)(QX:X→Exit→List (Nat×D)→Hp→Prop)(h:bq b s=some e)(hw:Wk x tm hp (T s) (H s))
  (round:∀s y,b s=some y→AW prog x c (T s) (H s) (PS (PE x .normal T H) (fun e ex tm hp=>ex≠.normal∧QX e ex tm hp) y)) (hq:∀ex tm hp,QX e ex tm hp→Q ex tm hp):AW prog x (.loop c) tm hp Q:=
 AW.mono (AW.loopO T H QX (fun s y hy=>AW.mono (round s y hy) fun ex tm' hp' h=>by cases y <;> exact h) h hw) hq
end
end
section
section
variable {md:Md} {ops:Array Oper} {K:List (Nat×D)→Hp→Prop} {os:List Oper} {tm:List (Nat×D)} {hp hp':Hp} {t s:Tmp} {op:Op} {ty:TypeId} {pos:String} {af:Array Edge} {d d2:D} {j:Nat} {want c:Bool}
variable {dr:Bool} {ev:List (Nat×D)}
theorem VJ {k:IntKind}{n:Int}:AVC prog tbl dr (.assign (.const (.int k n))) ty (evD ev) hp (Kq (dI k n) hp):=LA
theorem N4 {b:Bool}:AVC prog tbl dr (.assign (.const (.bool b))) ty (evD ev) hp (Kq (dB b) hp):=LA
theorem Vn {k:IntKind}{n:Int}:AVC prog tbl dr (.move (.const (.int k n))) ty (evD ev) hp (Kq (dI k n) hp):=Fl
theorem Vs {s tt:TypeId}{x:Operand}{i j:TyE}{f o k off:Nat}{fs:List (Nat×TypeId)}{ev:Operand→D}(hs:tbl s=some i:=by exact tbI)(hi:i.ty=.struct fs:=by exact rfl)(hf:fs[f]? =some (o,tt):=by exact rfl)(hx:ev x=.pt k off:=by exact rfl)(ht:tbl tt=some j:=by exact tbI)(hz:Nat.ble 1 j.size=true:=by exact rfl):AVC prog tbl dr (.fieldAddr s x f) ty ev hp (Kq (.pt k (off+o)) hp):=T_faP hs ht hi hf hz hx
theorem Vt {s tt:TypeId}{x:Operand}{i j:TyE}{f o off:Nat}{xs:List E}{fs:List (Nat×TypeId)}{ev:Operand→D}(hs:tbl s=some i:=by exact tbI)(hi:i.ty=.struct fs:=by exact rfl)(hf:fs[f]? =some (o,tt):=by exact rfl)(hx:ev x=.fp xs off:=by exact rfl)(ht:tbl tt=some j:=by exact tbI)(hz:Nat.ble 1 j.size=true:=by exact rfl):AVC prog tbl dr (.fieldAddr s x f) ty ev hp (Kq (.fp xs (off+o)) hp):=T_faF hs ht hi hf hz hx
theorem Vr {t e:TypeId}{x:Operand}{i j:TyE}{n:Nat}{xs:List E}{ev:Operand→D}(ht:tbl t=some i:=by exact tbI)(hi:i.ty=.slice e:=by exact rfl)(he:tbl e=some j:=by exact tbI)(hx:(ev x).asSl j.size=some (n,xs):=by exact rfl):AVC prog tbl dr (.call ⟨.builtin .len,#[x],#[t]⟩) ty ev hp (Kq (dI .i64 n) hp):=U7 ht he hi hx
theorem Vq {t e:TypeId}{x:Operand}{i j:TyE}{k off z n:Nat}{ev:Operand→D}(ht:tbl t=some i:=by exact tbI)(hi:i.ty=.slice e:=by exact rfl)(he:tbl e=some j:=by exact tbI)(hx:ev x=.ow k off z n:=by exact rfl):AVC prog tbl dr (.call ⟨.builtin .len,#[x],#[t]⟩) ty ev hp (Kq (dI .i64 n) hp):=Cf ht he hi hx
theorem K_shl {t t':TypeId}{x y:Operand}{k k':IntKind}{a b:Int}{ev:Operand→D}(hx:ev x=dI k a:=by exact rfl)(hy:ev y=dI k' b:=by exact rfl)(hb:0≤b:=by decide):AVC prog tbl dr (.binOp .shl t x y t') ty ev hp (Kq (dI k (za k a b)) hp):=U1 hb hx hy
theorem K_shr {t t':TypeId}{x y:Operand}{k k':IntKind}{a b:Int}{ev:Operand→D}(hx:ev x=dI k a:=by exact rfl)(hy:ev y=dI k' b:=by exact rfl)(hb:0≤b:=by decide):AVC prog tbl dr (.binOp .shr t x y t') ty ev hp (Kq (dI k (mh k a b)) hp):=U0 hb hx hy
theorem K_quo {t t':TypeId}{x y:Operand}{k:IntKind}{a b:Int}{ev:Operand→D}(hx:ev x=dI k a:=by exact rfl)(hy:ev y=dI k b:=by exact rfl)(hb:b≠0:=by decide):AVC prog tbl dr (.binOp .quo t x y t') ty ev hp (Kq (dI k (k.wrap (a.tdiv b))) hp):=HG hb hx hy
theorem K_rem {t t':TypeId}{x y:Operand}{k:IntKind}{a b:Int}{ev:Operand→D}(hx:ev x=dI k a:=by exact rfl)(hy:ev y=dI k b:=by exact rfl)(hb:b≠0:=by decide):AVC prog tbl dr (.binOp .rem t x y t') ty ev hp (Kq (dI k (a.tmod b)) hp):=Fk hb hx hy
theorem sa(h2:aX prog tbl md ops K os ((t,d)::tm) hp')(h:AVC prog tbl md.dr op ty (evD tm) hp (Kq d hp'):=by (first|exact T_mv|exact lH|exact VJ|exact N4|exact A_str|exact Vn|exact M_bool|exact M_str|exact LA|exact Fl|exact U2|exact NP|exact NQ|exact Va|exact Vf|exact UZ|exact U4|exact Vb|exact U3|exact U5|exact U6|exact U8|exact U9|exact T_seql|exact T_sneq|exact NS tU|exact NR tU|exact T_and|exact T_or|exact T_xor|exact T_neg|exact K_shl|exact K_shr|exact K_quo|exact K_rem|exact Vs|exact Vt|exact Vc tbI tbI|exact T_cvS tbI tbI|exact Vr|exact T_lenS tbI|exact T_lenA tbI|exact Vq|exact T_min|exact T_max|exact Vd))(hn:md.nc tbl op=true:=by exact rfl):aX prog tbl md ops K (⟨some t,op,ty,pos,af,none⟩::os) tm hp:=st tok hn h h2
theorem ga(hw:c=want)(h2:aX prog tbl md ops K os ((t,d)::tm) hp')(hj:(ops[j]?).bind (·.dst)=some s:=by exact rfl)(hc:tm.lookup s=some (.e (.lit (.bool c))):=by exact rfl)(h:AVC prog tbl md.dr op ty (evD tm) hp (Kq d hp'):=by (first|exact T_mv|exact lH|exact VJ|exact N4|exact A_str|exact Vn|exact M_bool|exact M_str|exact LA|exact Fl|exact U2|exact NP|exact NQ|exact Va|exact Vf|exact UZ|exact U4|exact Vb|exact U3|exact U5|exact U6|exact U8|exact U9|exact T_seql|exact T_sneq|exact NS tU|exact NR tU|exact Vs|exact Vt|exact Vc tbI tbI|exact Vr|exact T_lenS tbI))(hn:md.nc tbl op=true:=by exact rfl):aX prog tbl md ops K (⟨some t,op,ty,pos,af,some (j,want)⟩::os) tm hp:=QC tok hn hj hc hw h h2
theorem pn {ev:Operand→D}:((([]:List Operand).map ev).map D.ex).all D.pure=true:=rfl
theorem pA {ev:Operand→D}{a:Operand}{la:List Operand}(h:(ev a).ex.pure=true)(hl:((la.map ev).map D.ex).all D.pure=true):(((a::la).map ev).map D.ex).all D.pure=true:=by
 rw[iW,iW,f5,h,hl];rfl
theorem lC {ev:Operand→D}{a:Operand}{la:List Operand}{d':D}{ds':List D}(h:(ev a).ex.le d')(hl:leL ((la.map ev).map D.ex) ds'):leL (((a::la).map ev).map D.ex) (d'::ds'):=⟨h,hl⟩
theorem cq {f:FuncId}{la:List Operand}{ts:Array TypeId}{ds:List D}{r:D}(hc:aq prog f ds r)(h2:aX prog tbl md ops K os ((t,r)::tm) hp)(jH:((la.map (evD tm)).map D.ex).all D.pure=true:=by repeat (first|exact pn|refine pA (cm _ _) ?_|refine pA rfl ?_))(hl:leL ((la.map (evD tm)).map D.ex) ds:=by repeat (first|exact lAn|refine lC (nJ _ _) ?_|refine lC (au _) ?_))(hr:r.pure=true∨∃ds,r=.tu ds:=by (first|exact .inl (jJ _ _)|exact .inl rfl|exact .inr ⟨_,rfl⟩)):
  aX prog tbl md ops K (⟨some t,.call ⟨.value (.func f),la.toArray,ts⟩,ty,pos,af,none⟩::os) tm hp:=sq tok hc jH hl hr h2
theorem sc {x:Operand}{f:FuncId}{la:List Operand}{ts:Array TypeId}{ds:List D}{r:D}(hc:aq prog f ds r)(h2:aX prog tbl md ops K os ((t,r)::tm) hp)(Aq:evD tm x=.e (.lit (.func (.func f) #[] #[])):=by exact rfl)(jH:((la.map (evD tm)).map D.ex).all D.pure=true:=by repeat (first|exact pn|refine pA (cm _ _) ?_|refine pA rfl ?_))(hl:leL ((la.map (evD tm)).map D.ex) ds:=by repeat (first|exact lAn|refine lC (nJ _ _) ?_|refine lC (au _) ?_))(hr:r.pure=true∨∃ds,r=.tu ds:=by (first|exact .inl (jJ _ _)|exact .inl rfl|exact .inr ⟨_,rfl⟩))(hn:md.nc tbl (.call ⟨.value x,la.toArray,ts⟩)=true:=by exact rfl):
  aX prog tbl md ops K (⟨some t,.call ⟨.value x,la.toArray,ts⟩,ty,pos,af,none⟩::os) tm hp:=st tok hn (tM Aq hc jH hl hr) h2
variable {x:Cx} {Q:Exit→List (Nat×D)→Hp→Prop}
theorem rq {n id:Nat}{l:List Oper}(hx:x.N=n)(h:∀K:List (Nat×D)→Hp→Prop,(∀tm hp,Q .normal tm hp→K tm hp)→aX prog tbl .seq l.toArray K l tm hp)(hN:mr n l.toArray=true:=by kernel_rfl):AW prog x (.region id l.toArray false) tm hp Q:=rg hx hN h
theorem rqd {n id:Nat}{l:List Oper}(L:List FuncId)(hx:x.N=n)(h:∀K:List (Nat×D)→Hp→Prop,(∀tm hp,Q .normal tm hp→K tm hp)→aX prog tbl (.any L) l.toArray K l tm hp)(hN:mr n l.toArray=true:=by kernel_rfl)(rW:Ab tbl L l.toArray=true:=by kernel_rfl):AW prog x (.region id l.toArray true) tm hp Q:=rd L hx hN rW h
theorem rv1 {q:ResultVar}{r:D}(h:od tbl [q] tm hp r:=by (first|exact od.mk1 (H9 rfl (.inr (.inr ⟨_,(au _),rfl,rfl⟩)))|exact od.mk1 (Ia rfl tbI rfl rfl (ltb rfl) (Cd.h _ _) (.inr (.inr ⟨_,(au _),jJ _ _,rfl⟩))))):od tbl [q] tm hp r:=h
theorem rv2 {q q':ResultVar}{r:D}(h:od tbl [q,q'] tm hp r:=by (first|exact od.mk2 (H9 rfl (H9 rfl (.inr ⟨_,_,(au _),(au _),⟨rfl,rfl⟩,rfl⟩)))|exact od.mk2 (Ia rfl tbI rfl rfl (ltb rfl) (Cd.h _ _) (H9 rfl (.inr ⟨_,_,(au _),(au _),⟨jJ _ _,rfl⟩,rfl⟩)))|exact od.mk2 (Ia rfl tbI rfl rfl (ltb rfl) (Cd.h _ _) (Ia rfl tbI rfl rfl (ltb rfl) (Cd.h _ _) (.inr ⟨_,_,(au _),(au _),⟨jJ _ _,jJ _ _⟩,rfl⟩))))):od tbl [q,q'] tm hp r:=h
theorem pe0 {S:Type}{e:Exit}{T:S→List (Nat×D)}{H:S→Hp}{y:S}{vars':List (Nat×List D)}{iB:List (Nat×Nat×Nat×TypeId)}{m:Nat}{tm':List (Nat×D)}(h0:x.hp0=⟨[],[],0⟩)(os:List Nat)(hT:T y=tm':=by exact rfl)(hH:H y=⟨vars',iB,m⟩:=by exact rfl)(ht:wkT (sg 0 os) m tm tm':=by repeat (first|exact wTn|refine wR rfl ?_|refine wG rfl (au _) ?_))(hv:wkV (sg 0 os) m hp.vars vars':=by repeat (first|exact wVn|refine vC rfl ?_|refine vR rfl ?_))(hl:wkL (sg 0 os) m hp.live iB:=by repeat (first|exact wLn|refine wL rfl rfl ?_))(Ap:os.Nodup:=by decide)(hm:m=0+os.length:=by exact rfl):PE x e T H y e tm hp:=PE.i (by rw[hT,hH];exact wk h0 os ht hv hl Ap hm)
theorem rs {n id:Nat}{l:List Oper}{b:Code}(hx:x.N=n)(h:∀K:List (Nat×D)→Hp→Prop,(∀tm hp,AW prog x b tm hp Q→K tm hp)→aX prog tbl .seq l.toArray K l tm hp)(hN:mr n l.toArray=true:=by kernel_rfl):AW prog x (.seq (.region id l.toArray false) b) tm hp Q:=AW.seq (rg hx hN fun K hK=>h K hK)
theorem rsd {n id:Nat}{l:List Oper}{b:Code}(L:List FuncId)(hx:x.N=n)(h:∀K:List (Nat×D)→Hp→Prop,(∀tm hp,AW prog x b tm hp Q→K tm hp)→aX prog tbl (.any L) l.toArray K l tm hp)(hN:mr n l.toArray=true:=by kernel_rfl)(rW:Ab tbl L l.toArray=true:=by kernel_rfl):AW prog x (.seq (.region id l.toArray true) b) tm hp Q:=AW.seq (rd L hx hN rW fun K hK=>h K hK)
theorem ra {n id:Nat}{l:List Oper}{b:Code}{tm':List (Nat×D)}(hx:x.N=n)(h2:AW prog x b tm' hp' Q)(h:∀K:List (Nat×D)→Hp→Prop,K tm' hp'→aX prog tbl .seq l.toArray K l tm hp:=by (intro K hK;(repeat (refine sa ?_));exact .nil hK))(hN:mr n l.toArray=true:=by kernel_rfl):AW prog x (.seq (.region id l.toArray false) b) tm hp Q:=rs hx (fun K hK=>h K (hK _ _ h2)) hN
theorem rb {n id:Nat}{l:List Oper}{tm':List (Nat×D)}(hx:x.N=n)(h2:Q .normal tm' hp')(h:∀K:List (Nat×D)→Hp→Prop,K tm' hp'→aX prog tbl .seq l.toArray K l tm hp:=by (intro K hK;(repeat (refine sa ?_));exact .nil hK))(hN:mr n l.toArray=true:=by kernel_rfl):AW prog x (.region id l.toArray false) tm hp Q:=rq hx (fun K hK=>h K (hK _ _ h2)) hN
theorem cdh {R:Type}{y z:Option R}{r:R}{c:Operand}{c1 c2:Code}{b:Bool}(h:cnd b y z=some r)(hc:evD tm c=.e (.lit (.bool b)))(ht:b=true→y=some r→AW prog x c1 tm hp Q)(hf:b=false→z=some r→AW prog x c2 tm hp Q):AW prog x (.cond c c1 c2) tm hp Q:=AW.condS hc (fun hb=>ht hb (cnd_t hb h)) fun hb=>hf hb (cnd_f hb h)
theorem scb {R S:Type}{g:Option S}{k:S→Option R}{z:R}{x:Operand}{f:FuncId}{la:List Operand}{ts:Array TypeId}{ds:List D}{dr:S→D}(h:bnd g k=some z)(w:∀{y:S},g=some y→aq prog f ds (dr y))(h2:∀y,k y=some z→aX prog tbl md ops K os ((t,dr y)::tm) hp)(Aq:evD tm x=.e (.lit (.func (.func f) #[] #[])):=by exact rfl)(jH:((la.map (evD tm)).map D.ex).all D.pure=true:=by repeat (first|exact pn|refine pA (cm _ _) ?_|refine pA rfl ?_))(hl:leL ((la.map (evD tm)).map D.ex) ds:=by repeat (first|exact lAn|refine lC (nJ _ _) ?_|refine lC (au _) ?_))(hr:∀y,(dr y).pure=true∨∃ds,dr y=.tu ds:=by (intro y;first|exact .inl (jJ _ _)|exact .inl rfl|exact .inr ⟨_,rfl⟩))(hn:md.nc tbl (.call ⟨.value x,la.toArray,ts⟩)=true:=by exact rfl):
  aX prog tbl md ops K (⟨some t,.call ⟨.value x,la.toArray,ts⟩,ty,pos,af,none⟩::os) tm hp:=by
 obtain⟨y,h3,h4⟩:=ae h
 exact st tok hn (tM Aq (w h3) jH hl (hr y)) (h2 y h4)
theorem cqb {R S:Type}{g:Option S}{k:S→Option R}{z:R}{f:FuncId}{la:List Operand}{ts:Array TypeId}{ds:List D}{dr:S→D}(h:bnd g k=some z)(w:∀{y:S},g=some y→aq prog f ds (dr y))(h2:∀y,k y=some z→aX prog tbl md ops K os ((t,dr y)::tm) hp)(jH:((la.map (evD tm)).map D.ex).all D.pure=true:=by repeat (first|exact pn|refine pA (cm _ _) ?_|refine pA rfl ?_))(hl:leL ((la.map (evD tm)).map D.ex) ds:=by repeat (first|exact lAn|refine lC (nJ _ _) ?_|refine lC (au _) ?_))(hr:∀y,(dr y).pure=true∨∃ds,dr y=.tu ds:=by (intro y;first|exact .inl (jJ _ _)|exact .inl rfl|exact .inr ⟨_,rfl⟩)):
  aX prog tbl md ops K (⟨some t,.call ⟨.value (.func f),la.toArray,ts⟩,ty,pos,af,none⟩::os) tm hp:=by
 obtain⟨y,h3,h4⟩:=ae h
 exact sq tok (w h3) jH hl (hr y) (h2 y h4)
theorem bh {f : FuncId} {fn : Func} {c : Code} {ds : List D} {r : D} {rs : List ResultVar} {tm0 : List (Nat × D)} (h : ∀ x : Cx, x.N = fn.ntmps → x.hp0 = ⟨[], [], 0⟩ → AW prog x c tm0 ⟨[], [], 0⟩ fun ex tm hp => match ex with | .normal | .ret => od tbl rs tm hp r | _ => False) (hf : prog.funcs[f]? = some fn) (hb : fn.body = some c := by exact rfl) (Eg : (fn.name == "runtime.NumGoroutine") = false := by exact rfl) (hN : Nat.ble ds.length fn.ntmps = true := by exact rfl) (FM : fn.results.toList = rs := by exact rfl) (nF : fC 0 ds = tm0 := by (simp only [fC, Nat.reduceAdd, br]; rfl)) : aq prog f ds r := aq.of tok hf hb Eg (a9 hN) FM (by rw [nF]; exact h)
end
end
section
variable {md:Md} {ops:Array Oper} {K:List (Nat×D)→Hp→Prop} {os:List Oper} {tm:List (Nat×D)} {hp hp':Hp} {t s:Tmp} {op:Op} {ty:TypeId} {pos:String} {af:Array Edge} {d d2:D} {j:Nat} {want c:Bool}
variable {dr:Bool} {ev:Operand→D}
theorem KT_T {cn x y:Operand}{b:Bool}(hc:ev cn=dB b:=by exact rfl)(h:ev x=d:=by exact rfl)(hb:b=true:=by (with_reducible first|rfl|assumption)):AVC prog tbl dr (.pick cn x y) ty ev hp (Kq d hp):=oU hb hc h
theorem KT_F {cn x y:Operand}{b:Bool}(hc:ev cn=dB b:=by exact rfl)(h:ev y=d:=by exact rfl)(hb:b=false:=by (with_reducible first|rfl|assumption)):AVC prog tbl dr (.pick cn x y) ty ev hp (Kq d hp):=l6 hb hc h
theorem KT_S {x y:Operand}{t e:TypeId}{i j:TyE}{n:Nat}{xs:List E}{k:IntKind}{v:Int}(ht:tbl t=some i:=by exact tbI)(hi:i.ty=.slice e:=by exact rfl)(he:tbl e=some j:=by exact tbI)(hx:(ev x).asSl j.size=some (n,xs):=by exact rfl)(hy:ev y=dI k v:=by exact rfl)(hb:0≤v∧v<(n:Int):=by assumption):AVC prog tbl dr (.indexAddr t x y) ty ev hp (Kq (.fp xs (v.toNat*j.size)) hp):=Pp hb ht he hi hx hy
theorem KT_A {x y:Operand}{t e:TypeId}{i j:TyE}{n m off:Nat}{k:IntKind}{v:Int}(ht:tbl t=some i:=by exact tbI)(hi:i.ty=.arr n e:=by exact rfl)(he:tbl e=some j:=by exact tbI)(hx:ev x=.pt m off:=by exact rfl)(hy:ev y=dI k v:=by exact rfl)(hb:0≤v∧v<(n:Int):=by (first|assumption|decide)):AVC prog tbl dr (.indexAddr t x y) ty ev hp (Kq (.pt m (off+v.toNat*j.size)) hp):=vT hb ht he hi hx hy
theorem Kr(h2:aX prog tbl md ops K os ((t,.tu [])::tm) hp)(hj:(ops[j]?).bind (·.dst)=some s:=by exact rfl)(hc:tm.lookup s=some (.e (.lit (.bool c))):=by exact rfl)(hw:c= !want:=by (first|(show _=false;with_reducible first|rfl|assumption)|(show _=true;with_reducible first|rfl|assumption))):aX prog tbl md ops K (⟨some t,op,ty,pos,af,some (j,want)⟩::os) tm hp:=D0 hj hc hw h2
theorem KV_i {α:Type}{x:Operand}{c1:Cd α}{k N:Nat}{b:α}{vs:List (Nat×List D)}{lv:List (Nat×Nat×Nat×TypeId)}{t:TypeId}{i:TyE}(hx:ev x=.pt k 0:=by exact rfl)(hv:vs.lookup k=some (dC (c1.f b)):=by exact rfl)(ht:tbl t=some i:=by exact tbI)(hg:i.ty.agg=true:=by exact rfl)(hz:c1.sz=i.size:=by exact rfl)(hk:Nat.ble (k+1) N=true:=by exact rfl):AVC prog tbl dr (.load t x) ty ev ⟨vs,lv,N⟩ (Kq (dG c1 b) ⟨vs,lv,N⟩):=AQ (bV.id _ _) ht hg hz hx hv hk
theorem KV_s {α:Type}{x y:Operand}{c1:Cd α}{k N:Nat}{b b':α}{vs:List (Nat×List D)}{lv:List (Nat×Nat×Nat×TypeId)}{t:TypeId}{i:TyE}(hx:ev x=.pt k 0:=by exact rfl)(hv:vs.lookup k=some (dC (c1.f b)):=by exact rfl)(ht:tbl t=some i:=by exact tbI)(hz:c1.sz=i.size:=by exact rfl)(hy:(ev y).cells=some (dC (c1.f b')):=by exact rfl):AVC prog tbl dr (.store t x y) ty ev ⟨vs,lv,N⟩ (Kq .top ⟨(k,dC (c1.f b'))::vs,lv,N⟩):=yB (bV.id _ _) ht hy hz hx hv
theorem KV_l {α:Type}[Inhabited α]{x:Operand}{F:List E}{c1:Cd α}{m o n k N off:Nat}{b:Vector α m}{F':Vector α m→List E}{vs:List (Nat×List D)}{lv:List (Nat×Nat×Nat×TypeId)}{t:TypeId}{i:TyE}{e:E}(L:bV F (cA m c1) o b F')(ht:tbl t=some i:=by exact tbI)(hg:i.ty.agg=false:=by exact rfl)(hx:ev x=.pt k off:=by exact rfl)(hv:vs.lookup k=some (dC F):=by exact rfl)(ho:off=o+n*c1.sz:=by exact rfl)(he:c1.f b[n]! =[e]:=by exact rfl)(hk:Nat.ble (k+1) N=true:=by exact rfl)(hn:n<m:=by (first|assumption|omega)):AVC prog tbl dr (.load t x) ty ev ⟨vs,lv,N⟩ (Kq (.e e) ⟨vs,lv,N⟩):=xh (bV.comp L (bV.vec c1 b n hn) (fun _=>rfl)) ht he hg (ho▸hx) hv hk
theorem nl {R:List (Nat×D)→Hp→Prop}(hK:∀tm hp,R tm hp→K tm hp)(h2:R tm hp):aX prog tbl md ops K [] tm hp:=.nil (hK _ _ h2)
theorem gcl {x:Operand}{f:FuncId}{la:List Operand}{ts:Array TypeId}{ds:List D}{r:D}(hc:aq prog f ds r)(h2:aX prog tbl md ops K os ((t,r)::tm) hp)(Aq:evD tm x=.e (.lit (.func (.func f) #[] #[])):=by exact rfl)(jH:((la.map (evD tm)).map D.ex).all D.pure=true:=by repeat (first|exact pn|refine pA (cm _ _) ?_|refine pA rfl ?_))(hl:leL ((la.map (evD tm)).map D.ex) ds:=by repeat (first|exact lAn|refine lC (nJ _ _) ?_|refine lC (au _) ?_))(hr:r.pure=true∨∃ds,r=.tu ds:=by (first|exact .inl (jJ _ _)|exact .inl rfl|exact .inr ⟨_,rfl⟩))(hj:(ops[j]?).bind (·.dst)=some s:=by exact rfl)(hg:tm.lookup s=some (.e (.lit (.bool c))):=by exact rfl)(hw:c=want:=by (with_reducible first|rfl|assumption))(hn:md.nc tbl (.call ⟨.value x,la.toArray,ts⟩)=true:=by exact rfl):aX prog tbl md ops K (⟨some t,.call ⟨.value x,la.toArray,ts⟩,ty,pos,af,some (j,want)⟩::os) tm hp:=QC tok hn hj hg hw (tM Aq hc jH hl hr) h2
theorem gcb {R S:Type}{g:Option S}{k:S→Option R}{z:R}{x:Operand}{f:FuncId}{la:List Operand}{ts:Array TypeId}{ds:List D}{dr:S→D}(h:bnd g k=some z)(w:∀{y:S},g=some y→aq prog f ds (dr y))(h2:∀y,k y=some z→aX prog tbl md ops K os ((t,dr y)::tm) hp)(Aq:evD tm x=.e (.lit (.func (.func f) #[] #[])):=by exact rfl)(jH:((la.map (evD tm)).map D.ex).all D.pure=true:=by repeat (first|exact pn|refine pA (cm _ _) ?_|refine pA rfl ?_))(hl:leL ((la.map (evD tm)).map D.ex) ds:=by repeat (first|exact lAn|refine lC (nJ _ _) ?_|refine lC (au _) ?_))(hr:∀y,(dr y).pure=true∨∃ds,dr y=.tu ds:=by (intro y;first|exact .inl (jJ _ _)|exact .inl rfl|exact .inr ⟨_,rfl⟩))(hj:(ops[j]?).bind (·.dst)=some s:=by exact rfl)(hg:tm.lookup s=some (.e (.lit (.bool c))):=by exact rfl)(hw:c=want:=by (with_reducible first|rfl|assumption))(hn:md.nc tbl (.call ⟨.value x,la.toArray,ts⟩)=true:=by exact rfl):aX prog tbl md ops K (⟨some t,.call ⟨.value x,la.toArray,ts⟩,ty,pos,af,some (j,want)⟩::os) tm hp:=by
 obtain⟨y,h3,h4⟩:=ae h
 exact QC tok hn hj hg hw (tM Aq (w h3) jH hl (hr y)) (h2 y h4)
end
section
variable {x:Cx} {tm:List (Nat×D)} {hp hp':Hp} {Q:Exit→List (Nat×D)→Hp→Prop}
theorem aE {R:Type}{b:Bool}{y z:Option R}{r:R}(h:cnd b y z=some r):(b=true∧y=some r)∨(b=false∧z=some r):=by cases b <;> simpa[cnd] using h
theorem wk0 {tm':List (Nat×D)}{vars':List (Nat×List D)}{iB:List (Nat×Nat×Nat×TypeId)}{m:Nat}(h0:x.hp0=⟨[],[],0⟩)(os:List Nat)(ht:wkT (sg 0 os) m tm tm':=by repeat (first|exact wTn|refine wR rfl ?_))(hv:wkV (sg 0 os) m hp.vars vars':=by repeat (first|exact wVn|refine vC rfl ?_|refine vR rfl ?_))(hl:wkL (sg 0 os) m hp.live iB:=by repeat (first|exact wLn|refine wL rfl rfl ?_))(Ap:os.Nodup:=by decide)(hm:m=0+os.length:=by exact rfl):Wk x tm hp tm' ⟨vars',iB,m⟩:=wk h0 os ht hv hl Ap hm
theorem pe1 {S:Type}{e:Exit}{T:S→List (Nat×D)}{H:S→Hp}{a:S}{vars':List (Nat×List D)}{iB:List (Nat×Nat×Nat×TypeId)}{m:Nat}{tm':List (Nat×D)}{y:S}(h:some a=some y)(h0:x.hp0=⟨[],[],0⟩)(os:List Nat)(hT:T a=tm':=by exact rfl)(hH:H a=⟨vars',iB,m⟩:=by exact rfl)(ht:wkT (sg 0 os) m tm tm':=by repeat (first|exact wTn|refine wR rfl ?_|refine wG rfl (au _) ?_))(hv:wkV (sg 0 os) m hp.vars vars':=by repeat (first|exact wVn|refine vC rfl ?_|refine vR rfl ?_))(hl:wkL (sg 0 os) m hp.live iB:=by repeat (first|exact wLn|refine wL rfl rfl ?_))(Ap:os.Nodup:=by decide)(hm:m=0+os.length:=by exact rfl):PE x e T H y e tm hp:=by cases h;exact pe0 h0 os hT hH ht hv hl Ap hm
theorem pel {S:Type}{e:Exit}{T:S→List (Nat×D)}{H:S→Hp}{a:S}{vars':List (Nat×List D)}{iB:List (Nat×Nat×Nat×TypeId)}{m:Nat}{tm':List (Nat×D)}{B:Type}{q:B→Exit→List (Nat×D)→Hp→Prop}{y:S⊕B}(h:some (.inl a)=some y)(h0:x.hp0=⟨[],[],0⟩)(os:List Nat)(hT:T a=tm':=by exact rfl)(hH:H a=⟨vars',iB,m⟩:=by exact rfl)(ht:wkT (sg 0 os) m tm tm':=by repeat (first|exact wTn|refine wR rfl ?_|refine wG rfl (au _) ?_))(hv:wkV (sg 0 os) m hp.vars vars':=by repeat (first|exact wVn|refine vC rfl ?_|refine vR rfl ?_))(hl:wkL (sg 0 os) m hp.live iB:=by repeat (first|exact wLn|refine wL rfl rfl ?_))(Ap:os.Nodup:=by decide)(hm:m=0+os.length:=by exact rfl):PS (PE x e T H) q y e tm hp:=by cases h;exact pe0 h0 os hT hH ht hv hl Ap hm
theorem per {S:Type}{T:S→List (Nat×D)}{H:S→Hp}{a:S}{vars':List (Nat×List D)}{iB:List (Nat×Nat×Nat×TypeId)}{m:Nat}{tm':List (Nat×D)}{A:Type}{p:A→Exit→List (Nat×D)→Hp→Prop}{y:A⊕S}{id:Nat}(h:some (.inr a)=some y)(h0:x.hp0=⟨[],[],0⟩)(os:List Nat)(hT:T a=tm':=by exact rfl)(hH:H a=⟨vars',iB,m⟩:=by exact rfl)(ht:wkT (sg 0 os) m tm tm':=by repeat (first|exact wTn|refine wR rfl ?_|refine wG rfl (au _) ?_))(hv:wkV (sg 0 os) m hp.vars vars':=by repeat (first|exact wVn|refine vC rfl ?_|refine vR rfl ?_))(hl:wkL (sg 0 os) m hp.live iB:=by repeat (first|exact wLn|refine wL rfl rfl ?_))(Ap:os.Nodup:=by decide)(hm:m=0+os.length:=by exact rfl):PS p (fun z ex tm hp=>ex≠Exit.normal∧PE x (.exit id) T H z ex tm hp) y (.exit id) tm hp:=by cases h;exact⟨by nofun,pe0 h0 os hT hH ht hv hl Ap hm⟩
theorem peq {S:Type}{T:S→List (Nat×D)}{H:S→Hp}{a:S}{vars':List (Nat×List D)}{iB:List (Nat×Nat×Nat×TypeId)}{m:Nat}{tm':List (Nat×D)}{A B:Type}{p:A→Exit→List (Nat×D)→Hp→Prop}{q:B→Exit→List (Nat×D)→Hp→Prop}{y:A⊕(B⊕S)}{id:Nat}(h:some (.inr (.inr a))=some y)(h0:x.hp0=⟨[],[],0⟩)(os:List Nat)(hT:T a=tm':=by exact rfl)(hH:H a=⟨vars',iB,m⟩:=by exact rfl)(ht:wkT (sg 0 os) m tm tm':=by repeat (first|exact wTn|refine wR rfl ?_|refine wG rfl (au _) ?_))(hv:wkV (sg 0 os) m hp.vars vars':=by repeat (first|exact wVn|refine vC rfl ?_|refine vR rfl ?_))(hl:wkL (sg 0 os) m hp.live iB:=by repeat (first|exact wLn|refine wL rfl rfl ?_))(Ap:os.Nodup:=by decide)(hm:m=0+os.length:=by exact rfl):PS p (fun z ex tm hp=>ex≠Exit.normal∧PS q (PE x (.exit id) T H) z ex tm hp) y (.exit id) tm hp:=by cases h;exact⟨by nofun,pe0 h0 os hT hH ht hv hl Ap hm⟩
theorem lw0 {S:Type}{e:Exit}{T:S→List (Nat×D)}{H:S→Hp}{y:S}{c:Code}{Q0:Exit→List (Nat×D)→Hp→Prop}(h2:AW prog x c (T y) (H y) Q)(hQ:∀tm hp,AW prog x c tm hp Q→Q0 e tm hp:=by (intro _ _ hq;(try dsimp only);(try simp only[ve,reduceIte,Nat.reduceEqDiff,reduceCtorEq]);exact hq)):∀ex tm hp,PE x e T H y ex tm hp→Q0 ex tm hp:=by
 rintro ex tm hp ⟨rfl,hw⟩
 exact hQ _ _ (AW.weak hw h2)
theorem rtv {R:Type}{a r:R}{q:ResultVar}{f:R→D}(h:some a=some r)(hq:od tbl [q] tm hp (f a):=by exact rv1):od tbl [q] tm hp (f r):=by cases h;exact hq
theorem lwr {S:Type}{e:Exit}{T:S→List (Nat×D)}{H:S→Hp}{y:S}{A:Type}{p:A→Exit→List (Nat×D)→Hp→Prop}{c:Code}{Q0:Exit→List (Nat×D)→Hp→Prop}(h2:AW prog x c (T y) (H y) Q)(hQ:∀tm hp,AW prog x c tm hp Q→Q0 e tm hp:=by (intro _ _ hq;(try dsimp only);(try simp only[ve,reduceIte,Nat.reduceEqDiff,reduceCtorEq]);exact hq)):∀ex tm hp,PS p (PE x e T H) (.inr y) ex tm hp→Q0 ex tm hp:=lw0 h2 hQ
end
structure ao where
 vBad:Bool
 vNeg:Bool
 vW:Vector Int 16
 deriving Inhabited,DecidableEq
abbrev cj:ao:=⟨false,false,ee⟩
def ap:Cd ao:=⟨18,fun x=>[.lit (.bool x.vBad),.lit (.bool x.vNeg)]++(cA 16 (cI .u32)).f x.vW,fun x=>by simp[(cA 16 (cI .u32)).h,show (cA 16 (cI .u32)).sz=16 from rfl]⟩
theorem sW(x:ao):bV (ap.f x) cB 0 x.vBad (fun y=>ap.f (⟨y,x.vNeg,x.vW⟩:ao)):=
 bV.of ([]) ((cB).f x.vNeg++((cA 16 (cI .u32))).f x.vW) (by first|rfl|(simp[(cA 16 (cI .u32)).h,cB.h];first|rfl|done)) (by first|rfl|simp[ap,cI,cB,cS,cL,c5]) (fun y=>by first|rfl|simp[ap,cI,cB,cS,cL,c5])
theorem nU(x:ao):bV (ap.f x) cB 1 x.vNeg (fun y=>ap.f (⟨x.vBad,y,x.vW⟩:ao)):=
 bV.of ((cB).f x.vBad) (((cA 16 (cI .u32))).f x.vW) (by first|rfl|(simp[(cA 16 (cI .u32)).h,cB.h];first|rfl|done)) (by first|rfl|simp[ap,cI,cB,cS,cL,c5]) (fun y=>by first|rfl|simp[ap,cI,cB,cS,cL,c5])
theorem nT(x:ao):bV (ap.f x) (cA 16 (cI .u32)) 2 x.vW (fun y=>ap.f (⟨x.vBad,x.vNeg,y⟩:ao)):=
 bV.of ((cB).f x.vBad++(cB).f x.vNeg) ([]) (by first|rfl|(simp[(cA 16 (cI .u32)).h,cB.h];first|rfl|done)) (by first|rfl|simp[ap,cI,cB,cS,cL,c5]) (fun y=>by first|rfl|simp[ap,cI,cB,cS,cL,c5])
section
variable {md:Md} {ops:Array Oper} {K:List (Nat×D)→Hp→Prop} {os:List Oper} {tm:List (Nat×D)} {hp hp':Hp} {t s:Tmp} {op:Op} {ty:TypeId} {pos:String} {af:Array Edge} {d d2:D} {j:Nat} {want c:Bool}
variable {dr:Bool} {ev:Operand→D}
theorem av(h:AVC prog tbl dr op ty ev hp (Kq d hp'):=by (first|exact T_mv|exact lH|exact VJ|exact N4|exact A_str|exact Vn|exact M_bool|exact M_str|exact LA|exact Fl|exact U2|exact NP|exact NQ|exact Va|exact Vf|exact UZ|exact U4|exact Vb|exact U3|exact U5|exact U6|exact U8|exact U9|exact T_seql|exact T_sneq|exact NS tU|exact NR tU|exact T_and|exact T_or|exact T_xor|exact T_neg|exact K_shl|exact K_shr|exact K_quo|exact K_rem|exact Vs|exact Vt|exact Vc tbI tbI|exact T_cvS tbI tbI|exact Vr|exact T_lenS tbI|exact T_lenA tbI|exact Vq|exact T_min|exact T_max|exact Vd|exact KT_T|exact KT_F|exact KT_A|exact KT_S|exact KV_i)):AVC prog tbl dr op ty ev hp (Kq d hp'):=h
theorem avi(h:AVC prog tbl dr op ty ev hp (Kq d hp'):=by (first|exact av|exact KV_l (bV.id _ _)|exact yD (F:=(cA 16 (cI .u32)).f (ee)) cU|exact xh (nU _) tbI|exact xh (sW _) tbI|exact AQ (nT _) tbI|exact KV_l (nT _)|exact yD (F:=ap.f (⟨false,false,(ee)⟩:ao)) fc|exact T_ldC tbI|exact T_ldA tbI)):AVC prog tbl dr op ty ev hp (Kq d hp'):=h
theorem sbi(h2:aX prog tbl md ops K os ((t,d)::tm) hp')(h:AVC prog tbl md.dr op ty (evD tm) hp (Kq d hp'):=by exact avi)(hn:md.nc tbl op=true:=by exact rfl):aX prog tbl md ops K (⟨some t,op,ty,pos,af,none⟩::os) tm hp:=st tok hn h h2
theorem tzi(h2:aX prog tbl md ops K os tm hp')(h:AVC prog tbl md.dr op ty (evD tm) hp (Kq .top hp'):=by (first|exact KV_s))(hn:md.nc tbl op=true:=by exact rfl):aX prog tbl md ops K (⟨none,op,ty,pos,af,none⟩::os) tm hp:=st_n tok hn h h2
theorem gbi(h2:aX prog tbl md ops K os ((t,d)::tm) hp')(hj:(ops[j]?).bind (·.dst)=some s:=by exact rfl)(hc:tm.lookup s=some (.e (.lit (.bool c))):=by exact rfl)(hw:c=want:=by (with_reducible first|rfl|assumption))(h:AVC prog tbl md.dr op ty (evD tm) hp (Kq d hp'):=by exact avi)(hn:md.nc tbl op=true:=by exact rfl):aX prog tbl md ops K (⟨some t,op,ty,pos,af,some (j,want)⟩::os) tm hp:=QC tok hn hj hc hw h h2
theorem mbi {os':List Oper}{tm':List (Nat×D)}(h2:aX prog tbl md ops K os' tm' hp')(h:aX prog tbl md ops K os' tm' hp'→aX prog tbl md ops K os tm hp:=by (intro h;(repeat (first|refine sbi ?_|refine tzi ?_|refine gbi ?_|refine Kr ?_));exact h)):aX prog tbl md ops K os tm hp:=h h2
theorem nbi {R:List (Nat×D)→Hp→Prop}{tm':List (Nat×D)}(hK:∀tm hp,R tm hp→K tm hp)(h2:R tm' hp')(h:K tm' hp'→aX prog tbl md ops K os tm hp:=by (intro h;(repeat (first|refine sbi ?_|refine tzi ?_|refine gbi ?_|refine Kr ?_));exact .nil h)):aX prog tbl md ops K os tm hp:=h (hK _ _ h2)
end
section
variable {x:Cx} {tm:List (Nat×D)} {hp hp':Hp} {Q:Exit→List (Nat×D)→Hp→Prop}
theorem rai {n id:Nat}{l:List Oper}{b:Code}{tm':List (Nat×D)}(hx:x.N=n)(h2:AW prog x b tm' hp' Q)(h:∀K:List (Nat×D)→Hp→Prop,K tm' hp'→aX prog tbl .seq l.toArray K l tm hp:=by (intro K h;(repeat (first|refine sbi ?_|refine tzi ?_|refine gbi ?_|refine Kr ?_));exact .nil h))(hN:mr n l.toArray=true:=by kernel_rfl):AW prog x (.seq (.region id l.toArray false) b) tm hp Q:=rs hx (fun K hK=>h K (hK _ _ h2)) hN
theorem rbi {n id:Nat}{l:List Oper}{tm':List (Nat×D)}(hx:x.N=n)(h2:Q .normal tm' hp')(h:∀K:List (Nat×D)→Hp→Prop,K tm' hp'→aX prog tbl .seq l.toArray K l tm hp:=by (intro K h;(repeat (first|refine sbi ?_|refine tzi ?_|refine gbi ?_|refine Kr ?_));exact .nil h))(hN:mr n l.toArray=true:=by kernel_rfl):AW prog x (.region id l.toArray false) tm hp Q:=rq hx (fun K hK=>h K (hK _ _ h2)) hN
end
def lI(aM:ao):Option Bool:=bnd (some (decide (aM.vW=#v[(0:Int),0,0,0,0,0,0,0,0,0,0,0,0,0,0,0]))) fun x1=>cnd aM.vBad (bnd (S:=Bool) (cnd x1 (some (!aM.vNeg)) (some (false))) fun n6=>some n6) (bnd (S:=Bool) (cnd (!x1) (some (true)) (some (!aM.vNeg))) fun ey=>some ey)
theorem xZ {aM:ao}{r:Bool}(h:lI aM=some r):aq prog 178 [dG ap aM] (dB r):=by
 refine bh (rs:=[.tmp 2]) (fun cx hx h0=>?_) func178
 unfold lI at h
 refine ra hx ?_
 refine rs hx fun K hK=>?_
 iterate 2 refine sbi ?_
 refine s1 (d:=dG (cA 16 (cI .u32)) (#v[(0:Int),0,0,0,0,0,0,0,0,0,0,0,0,0,0,0])) (mz cU bQ) ?_
 refine s1 (Fo tok 2 (by decide) (EqC.arr (EqC.int (d:=0) bQ) cU bQ) cU) ?_
 obtain⟨x1,xy,h⟩:=ae h
 replace xy:=bC xy
 refine s2 (d2:=dB x1) lH (gq (congrArg dB xy)) ?_
 refine nl hK ?_
 refine AW.seq (rai hx ?_)
 refine cdh h rfl (fun fG h=>?_) (fun fG h=>?_)
 refine AW.seq ?_
 obtain⟨n6,hy,h⟩:=ae h
 refine jn ((PE cx .normal (fun n6=>[(2,dB n6)]) fun n6=>⟨[],[],0⟩) n6) ?_ ?_
 replace h:=hy
 refine rq hx fun K hK=>?_
 refine mbi ?_
 rcases aE h with⟨FV,h⟩|⟨FV,h⟩
 refine nbi hK ?_
 exact pe1 h h0 []
 refine nbi hK ?_
 exact pe1 h h0 []
 refine lw0 ?_
 exact AW.ret (rtv h)
 refine AW.skip (AW.seq ?_)
 obtain⟨ey,hy,h⟩:=ae h
 refine jn ((PE cx .normal (fun ey=>[(2,dB ey)]) fun ey=>⟨[],[],0⟩) ey) ?_ ?_
 replace h:=hy
 refine rq hx fun K hK=>?_
 refine mbi ?_
 rcases aE h with⟨qP,h⟩|⟨qP,h⟩
 refine nbi hK ?_
 exact pe1 h h0 []
 refine nbi hK ?_
 exact pe1 h h0 []
 refine lw0 ?_
 exact AW.ret (rtv h)
def d9 :Option ao:=some (⟨true,false,(ee)⟩:ao)
theorem gl  {r:ao}(h:d9=some r):aq prog 121 [] (dG ap r):=by
 refine bh (rs:=[.cell 0 41]) (fun cx hx h0=>?_) func121
 unfold d9 at h
 refine rai hx ?_
 refine rs hx fun K hK=>?_
 refine s1 (d:=dG ap (⟨true,false,(ee)⟩:ao)) (hJ (FL.cons (y:=true) (sW cj) rfl rfl (FL.nil _)) fc) ?_
 refine nbi hK ?_
 exact AW.ret (rtv h)
def nG(er:List ao):Int→Option (Int⊕(Bool⊕Unit)):=fun aC=>cnd (decide (aC<((er).length:Int))) (gd (0≤aC∧aC<((er).length:Int)) (bnd (S:=Bool) (cnd (((er)[(aC).toNat]!).vBad) (some (true)) (bnd (lI ((er)[(aC).toNat]!)) fun x5=>some (!x5))) fun bt=>cnd bt (some (.inr (.inl false))) (some (.inl (i64.wrap (aC+(1:Int))))))) (some (.inr (.inr ())))
def cv(er:List ao):Option Bool:=bnd (bq (nG er) (0:Int)) fun y9=>match y9 with| .inl r=>some r| .inr ()=>some true
theorem fb {er:List ao}{r:Bool}(h:cv er=some r):aq prog 147 [dL ap er] (dB r):=by
 refine bh (rs:=[.tmp 2]) (fun cx hx h0=>?_) func147
 unfold cv at h
 refine ra hx ?_
 refine AW.seq (ra hx ?_)
 refine AW.block ?_
 obtain⟨y,hy,h⟩:=ae h
 refine lp (S:=Int) (X:=Bool⊕Unit) (fun aC=>[(5,dL ap er),(6,dI .i64 ((er).length:Int)),(7,dI .i64 aC)]) (fun aC=>⟨[],[],0⟩) (PS (PR [.tmp 2] fun r=>dB r) (PE cx (.exit 0) (fun ()=>[]) fun ()=>⟨[],[],0⟩)) hy ?_ ?_ ?_
 exact wk0 h0 []
 clear hy h
 rintro aC y h
 dsimp only[nG] at h
 refine ra hx ?_
 refine AW.seq (cdh h rfl (fun fJ h=>?_) (fun fJ h=>?_))
 refine AW.skip (AW.seq (AW.block (rs hx fun K hK=>?_)))
 obtain⟨q8,h⟩:=ay h
 have xT:(aC).toNat<(er).length:=by omega
 refine sbi ?_
 refine s1 (d:=dG ap ((er)[(aC).toNat]!)) (jF (c:=ap) (l:=er) (n:=(aC).toNat) (o:=0) fc xT (eY _ _ rfl)) ?_
 refine nbi hK ?_
 refine AW.seq ?_
 obtain⟨bt,hy,h⟩:=ae h
 refine jn ((PE cx .normal (fun bt=>[(5,dL ap er),(6,dI .i64 ((er).length:Int)),(7,dI .i64 aC),(17,dB bt)]) fun bt=>⟨[],[],0⟩) bt) ?_ ?_
 replace h:=hy
 refine rq hx fun K hK=>?_
 refine mbi ?_
 rcases aE h with⟨FV,h⟩|⟨FV,h⟩
 refine nbi hK ?_
 exact pe1 h h0 []
 refine gbi ?_
 refine gcb h xZ fun x5 h=>?_
 refine nbi hK ?_
 exact pe1 h h0 []
 refine lw0 ?_
 refine cdh h rfl (fun ua h=>?_) (fun ua h=>?_)
 refine ra hx ?_
 refine AW.ret ?_
 cases h
 refine PS.r ⟨by nofun,PS.l (PR.i ?_)⟩
 exact rv1
 refine AW.skip (rb hx ?_)
 exact pel h h0 []
 exact AW.exit (peq h h0 [])
 rcases y with r|⟨⟩
 rintro ex tm' hp' ⟨rfl,hw⟩
 cases h
 exact hw
 refine lwr ?_
 refine ra hx ?_
 exact AW.ret (rtv h)
def bG(z9:Bool)(tz:Vector Int 16):Option ao:=bnd (S:=ao) (cnd z9 (bnd (some ((⟨false,decide (¬(tz=#v[(0:Int),0,0,0,0,0,0,0,0,0,0,0,0,0,0,0])),tz⟩:ao))) fun x2=>some (x2)) (some ((⟨false,false,tz⟩:ao)))) fun bi=>some bi
theorem de {z9:Bool}{tz:Vector Int 16}{r:ao}(h:bG z9 tz=some r):aq prog 145 [dB z9,dG (cA 16 (cI .u32)) tz] (dG ap r):=by
 refine bh (rs:=[.cell 4 41]) (fun cx hx h0=>?_) func145
 unfold bG at h
 refine rai hx ?_
 refine AW.seq ?_
 obtain⟨bi,hy,h⟩:=ae h
 refine jn ((PE cx .normal (fun bi=>[(4,.pt 0 0)]) fun bi=>⟨[(0,dC (ap.f bi))],[],1⟩) bi) ?_ ?_
 replace h:=hy
 refine rqd [] hx fun K hK=>?_
 refine mbi ?_
 rcases aE h with⟨fJ,h⟩|⟨fJ,h⟩
 refine gbi ?_
 refine g1 (d:=dG (cA 16 (cI .u32)) (#v[(0:Int),0,0,0,0,0,0,0,0,0,0,0,0,0,0,0])) fJ (mz cU bQ) ?_
 refine g1 fJ (xj tok 2 (by decide) (EqC.arr (EqC.int (d:=0) bQ) cU bQ) cU) ?_
 iterate 2 refine sbi ?_
 refine s1 (d:=dG ap (⟨false,decide (¬(tz=#v[(0:Int),0,0,0,0,0,0,0,0,0,0,0,0,0,0,0])),tz⟩:ao)) (hJ (FL.cons (y:=decide (¬(tz=#v[(0:Int),0,0,0,0,0,0,0,0,0,0,0,0,0,0,0]))) (nU cj) rfl rfl (FL.cons (y:=tz) (nT (⟨false,decide (¬(tz=#v[(0:Int),0,0,0,0,0,0,0,0,0,0,0,0,0,0,0])),(ee)⟩:ao)) rfl rfl (FL.nil _))) fc) ?_
 obtain⟨x2,hx3,h⟩:=ae h
 replace hx3:=bC hx3
 refine s0 (nR (b':=(⟨false,decide (¬(tz=#v[(0:Int),0,0,0,0,0,0,0,0,0,0,0,0,0,0,0])),tz⟩:ao)) (bV.id _ _) fc hx3) ?_
 refine nl hK ?_
 exact pe1 h h0 [1]
 iterate 3 refine D0 rfl rfl fJ ?_
 iterate 2 refine sbi ?_
 refine s1 (d:=dG ap (⟨false,false,tz⟩:ao)) (hJ (FL.cons (y:=false) (nU cj) rfl rfl (FL.cons (y:=tz) (nT cj) rfl rfl (FL.nil _))) fc) ?_
 refine nbi hK ?_
 exact pe1 h h0 [1]
 refine lw0 ?_
 exact AW.ret (rtv h)
def gU(c0:Int):Option ao:=bnd (S:=Int) (cnd (decide (c0<(0:Int))) (some (u64.wrap (0 - (u64.wrap (c0))))) (some (u64.wrap (c0)))) fun gZ=>bnd (bG (decide (c0<(0:Int))) (#v[u32.wrap (gZ),u32.wrap (mh .u64 gZ (32:Int)),0,0,0,0,0,0,0,0,0,0,0,0,0,0])) fun x3=>some x3
theorem rC {c0:Int}{r:ao}(h:gU c0=some r):aq prog 91 [dI .i64 c0] (dG ap r):=by
 refine bh (rs:=[.cell 2 41]) (fun cx hx h0=>?_) func91
 unfold gU at h
 refine rai hx ?_
 refine ra hx ?_
 refine AW.seq ?_
 obtain⟨gZ,hy,h⟩:=ae h
 refine jn ((PE cx .normal (fun gZ=>[(0,dI .i64 c0),(2,.pt 0 0),(3,dI .u64 gZ)]) fun gZ=>⟨[(0,dC (ap.f cj))],[],1⟩) gZ) ?_ ?_
 replace h:=hy
 refine ra hx ?_
 refine cdh h rfl (fun fJ h=>?_) (fun fJ h=>?_)
 refine rb hx ?_
 exact pe1 h h0 [0]
 exact AW.skip (pe1 h h0 [0])
 refine lw0 ?_
 refine rs hx fun K hK=>?_
 iterate 7 refine sa ?_
 refine s1 (d:=dG (cA 16 (cI .u32)) (#v[u32.wrap (gZ),u32.wrap (mh .u64 gZ (32:Int)),0,0,0,0,0,0,0,0,0,0,0,0,0,0])) (mz cU bQ) ?_
 refine scb h de fun x3 h=>?_
 refine nbi hK ?_
 exact AW.ret (rtv h)
def ln(tz:Vector Int 16):Int→Option (Int⊕Int):=fun aC=>bnd (S:=Bool) (cnd (decide ((0:Int)<aC)) (gd (0≤i64.wrap (aC - (1:Int))∧i64.wrap (aC - (1:Int))<16) (some (decide (((tz)[(i64.wrap (aC - (1:Int))).toNat]!)=(0:Int))))) (some (false))) fun n6=>cnd n6 (some (.inl (i64.wrap (aC - (1:Int))))) (some (.inr aC))
def eK(tz:Vector Int 16):Option Int:=bnd (bq (ln tz) (16:Int)) fun oS=>some oS
theorem kQ {tz:Vector Int 16}{r:Int}(h:eK tz=some r):aq prog 148 [dG (cA 16 (cI .u32)) tz] (dI .i64 r):=by
 refine bh (rs:=[.tmp 2]) (fun cx hx h0=>?_) func148
 unfold eK at h
 iterate 2 refine ra hx ?_
 refine AW.seq (AW.block ?_)
 obtain⟨oS,hy,h⟩:=ae h
 refine lp (S:=Int) (X:=Int) (fun aC=>[(1,.pt 0 0),(3,dI .i64 aC)]) (fun aC=>⟨[(0,dC ((cA 16 (cI .u32)).f tz))],[],1⟩) (PE cx (.exit 0) (fun oS=>[(3,dI .i64 oS)]) fun oS=>⟨[],[],0⟩) hy ?_ ?_ ?_
 exact wk0 h0 [0]
 clear hy h
 rintro aC y h
 dsimp only[ln] at h
 iterate 2 refine AW.seq ?_
 obtain⟨n6,hy,h⟩:=ae h
 refine jn ((PE cx .normal (fun n6=>[(1,.pt 0 0),(3,dI .i64 aC),(12,dB n6)]) fun n6=>⟨[(0,dC ((cA 16 (cI .u32)).f tz))],[],1⟩) n6) ?_ ?_
 replace h:=hy
 refine rq hx fun K hK=>?_
 refine mbi ?_
 rcases aE h with⟨fJ,h⟩|⟨fJ,h⟩
 iterate 2 refine ga fJ ?_
 obtain⟨q8,h⟩:=ay h
 refine nbi hK ?_
 exact pe1 h h0 [0]
 refine nbi hK ?_
 exact pe1 h h0 [0]
 refine lw0 ?_
 refine cdh h rfl (fun rX h=>?_) (fun rX h=>?_)
 refine AW.skip (AW.block (rb hx ?_))
 exact pel h h0 [0]
 exact AW.exit (per h h0 [])
 refine lw0 ?_
 refine ra hx ?_
 exact AW.ret (rtv h)
def mK(aM:Int):Option Int:=bnd (S:=Int×Int) (cnd (decide ((65536:Int)≤aM)) (some ((mh .u32 aM (16:Int),(16:Int)))) (some ((aM,(0:Int))))) fun (bi,Jq)=>bnd (S:=Int×Int) (cnd (decide ((256:Int)≤bi)) (some ((mh .u32 bi (8:Int),i64.wrap (Jq+(8:Int))))) (some ((bi,Jq)))) fun (pe,Fi)=>gd (0≤u8.wrap (pe)∧u8.wrap (pe)<((⟨#[0,1,2,2,3,3,3,3,4,4,4,4,4,4,4,4,5,5,5,5,5,5,5,5,5,5,5,5,5,5,5,5,6,6,6,6,6,6,6,6,6,6,6,6,6,6,6,6,6,6,6,6,6,6,6,6,6,6,6,6,6,6,6,6,7,7,7,7,7,7,7,7,7,7,7,7,7,7,7,7,7,7,7,7,7,7,7,7,7,7,7,7,7,7,7,7,7,7,7,7,7,7,7,7,7,7,7,7,7,7,7,7,7,7,7,7,7,7,7,7,7,7,7,7,7,7,7,7,8,8,8,8,8,8,8,8,8,8,8,8,8,8,8,8,8,8,8,8,8,8,8,8,8,8,8,8,8,8,8,8,8,8,8,8,8,8,8,8,8,8,8,8,8,8,8,8,8,8,8,8,8,8,8,8,8,8,8,8,8,8,8,8,8,8,8,8,8,8,8,8,8,8,8,8,8,8,8,8,8,8,8,8,8,8,8,8,8,8,8,8,8,8,8,8,8,8,8,8,8,8,8,8,8,8,8,8,8,8,8,8,8,8,8,8,8,8,8,8,8,8,8,8,8,8,8,8]⟩:ByteArray).size:Int)) (bnd (some (i64.wrap (Fi+(i64.wrap (sAt (⟨#[0,1,2,2,3,3,3,3,4,4,4,4,4,4,4,4,5,5,5,5,5,5,5,5,5,5,5,5,5,5,5,5,6,6,6,6,6,6,6,6,6,6,6,6,6,6,6,6,6,6,6,6,6,6,6,6,6,6,6,6,6,6,6,6,7,7,7,7,7,7,7,7,7,7,7,7,7,7,7,7,7,7,7,7,7,7,7,7,7,7,7,7,7,7,7,7,7,7,7,7,7,7,7,7,7,7,7,7,7,7,7,7,7,7,7,7,7,7,7,7,7,7,7,7,7,7,7,7,8,8,8,8,8,8,8,8,8,8,8,8,8,8,8,8,8,8,8,8,8,8,8,8,8,8,8,8,8,8,8,8,8,8,8,8,8,8,8,8,8,8,8,8,8,8,8,8,8,8,8,8,8,8,8,8,8,8,8,8,8,8,8,8,8,8,8,8,8,8,8,8,8,8,8,8,8,8,8,8,8,8,8,8,8,8,8,8,8,8,8,8,8,8,8,8,8,8,8,8,8,8,8,8,8,8,8,8,8,8,8,8,8,8,8,8,8,8,8,8,8,8,8,8,8,8,8,8]⟩:ByteArray) (u8.wrap (pe)).toNat))))) fun x6=>some x6)
theorem zT {aM:Int}{r:Int}(h:mK aM=some r):aq prog 197 [dI .u32 aM] (dI .i64 r):=by
 refine bh (rs:=[.tmp 2]) (fun cx hx h0=>?_) func197
 unfold mK at h
 refine ra hx ?_
 refine AW.seq ?_
 obtain⟨y,hy,h⟩:=ae h
 refine jn ((PE cx .normal (fun (bi,Jq)=>[(0,dI .u32 bi),(2,dI .i64 Jq)]) fun (bi,Jq)=>⟨[],[],0⟩) y) ?_ ?_
 replace h:=hy
 refine ra hx ?_
 refine cdh h rfl (fun fJ h=>?_) (fun fJ h=>?_)
 refine ra hx ?_
 refine rb hx ?_
 exact pe1 h h0 []
 exact AW.skip (pe1 h h0 [])
 obtain⟨bi,Jq⟩:=y
 refine lw0 ?_
 refine AW.seq ?_
 obtain⟨y,hy,h⟩:=ae h
 refine jn ((PE cx .normal (fun (pe,Fi)=>[(0,dI .u32 pe),(2,dI .i64 Fi)]) fun (pe,Fi)=>⟨[],[],0⟩) y) ?_ ?_
 replace h:=hy
 refine ra hx ?_
 refine cdh h rfl (fun fG h=>?_) (fun fG h=>?_)
 refine ra hx ?_
 refine rb hx ?_
 exact pe1 h h0 []
 exact AW.skip (pe1 h h0 [])
 obtain⟨pe,Fi⟩:=y
 refine lw0 ?_
 refine rs hx fun K hK=>?_
 iterate 3 refine sa ?_
 obtain⟨hc5,h⟩:=ay h
 refine s1 (T_ixS hc5 tb_9) ?_
 iterate 2 refine sa ?_
 obtain⟨x6,v8,h⟩:=ae h
 replace v8:=bC v8
 refine s2 (d2:=dI .i64 x6) lH (gq (congrArg (dI .i64) v8)) ?_
 refine nl hK ?_
 exact AW.ret (rtv h)
def oz(aM:ao):Option Int:=bnd (eK aM.vW) fun x1=>bnd (S:=Bool) (bnd (cv [aM]) fun x3=>cnd (!x3) (some (true)) (some (decide (x1=(0:Int))))) fun aC=>cnd aC (some (0:Int)) (gd (0≤i64.wrap (x1 - (1:Int))∧i64.wrap (x1 - (1:Int))<16) (bnd (mK ((aM.vW)[(i64.wrap (x1 - (1:Int))).toNat]!)) fun n7=>some (i64.wrap ((i64.wrap ((32:Int)*(i64.wrap (x1 - (1:Int)))))+n7))))
theorem HT {aM:ao}{r:Int}(h:oz aM=some r):aq prog 196 [dG ap aM] (dI .i64 r):=by
 refine bh (rs:=[.tmp 2]) (fun cx hx h0=>?_) func196
 unfold oz at h
 refine ra hx ?_
 refine rs hx fun K hK=>?_
 refine mbi ?_
 refine scb h kQ fun x1 h=>?_
 refine nbi hK ?_
 iterate 2 refine AW.seq ?_
 obtain⟨aC,hy,h⟩:=ae h
 refine jn ((PE cx .normal (fun aC=>[(1,.pt 0 0),(3,dI .i64 x1),(14,dB aC)]) fun aC=>⟨[(0,dC (ap.f aM))],[],1⟩) aC) ?_ ?_
 replace h:=hy
 refine rq hx fun K hK=>?_
 refine sbi ?_
 refine s1 (lj ([aM]:List ao) ap qD fc) ?_
 refine scb h fb fun x3 h=>?_
 refine mbi ?_
 rcases aE h with⟨rX,h⟩|⟨rX,h⟩
 refine nbi hK ?_
 exact pe1 h h0 [0]
 refine nbi hK ?_
 exact pe1 h h0 [0]
 refine lw0 ?_
 refine cdh h rfl (fun sZ h=>?_) (fun sZ h=>?_)
 refine ra hx ?_
 exact AW.ret (rtv h)
 refine AW.skip (rs hx fun K hK=>?_)
 iterate 6 refine sa ?_
 obtain⟨hc8,h⟩:=ay h
 refine mbi ?_
 refine scb h zT fun n7 h=>?_
 refine nbi hK ?_
 exact AW.ret (rtv h)
def lJ(aM:ao):Option (Int×Bool):=bnd (S:=Bool) (bnd (cv [aM]) fun x1=>cnd (!x1) (some (true)) (bnd (oz aM) fun x4=>some (decide ((64:Int)<x4)))) fun dK=>cnd dK (some ((0:Int),false)) (bnd (some (ior .u64 (za .u64 (u64.wrap ((aM.vW)[((1:Int)).toNat]!)) (32:Int)) (u64.wrap ((aM.vW)[((0:Int)).toNat]!)))) fun n7=>bnd (S:=Bool) (cnd aM.vNeg (some (decide (n7≤(9223372036854775808:Int)))) (some (false))) fun ut=>cnd ut (some (i64.wrap (u64.wrap (0 - n7)),true)) (bnd (S:=Bool) (cnd (!aM.vNeg) (some (decide (n7<(9223372036854775808:Int)))) (some (false))) fun iq=>cnd iq (some (i64.wrap (n7),true)) (some ((0:Int),false))))
theorem ya {aM:ao}{r:Int×Bool}(h:lJ aM=some r):aq prog 180 [dG ap aM] (.tu [dI .i64 r.1,dB r.2]):=by
 refine bh (rs:=[.tmp 2,.tmp 3]) (fun cx hx h0=>?_) func180
 unfold lJ at h
 refine ra hx ?_
 iterate 2 refine AW.seq ?_
 obtain⟨dK,hy,h⟩:=ae h
 refine jn ((PE cx .normal (fun dK=>[(1,.pt 0 0),(13,dB dK)]) fun dK=>⟨[(0,dC (ap.f aM))],[],1⟩) dK) ?_ ?_
 replace h:=hy
 refine rq hx fun K hK=>?_
 refine sbi ?_
 refine s1 (lj ([aM]:List ao) ap qD fc) ?_
 refine scb h fb fun x1 h=>?_
 refine mbi ?_
 rcases aE h with⟨fG,h⟩|⟨fG,h⟩
 refine nbi hK ?_
 exact pe1 h h0 [0]
 refine gbi ?_
 refine gcb h HT fun x4 h=>?_
 refine nbi hK ?_
 exact pe1 h h0 [0]
 refine lw0 ?_
 refine cdh h rfl (fun sZ h=>?_) (fun sZ h=>?_)
 refine ra hx ?_
 refine AW.ret ?_
 cases h
 exact rv2
 refine AW.skip (rs hx fun K hK=>?_)
 refine sa ?_
 refine s1 (vT (by decide:0≤(1:Int)∧(1:Int)<((16:Nat):Int)) cU bQ) ?_
 iterate 4 refine sbi ?_
 refine s1 (vT (by decide:0≤(0:Int)∧(0:Int)<((16:Nat):Int)) cU bQ) ?_
 iterate 3 refine sbi ?_
 obtain⟨n7,Gw,h⟩:=ae h
 replace Gw:=bC Gw
 refine s2 (d2:=dI .u64 n7) lH (gq (congrArg (dI .u64) Gw)) ?_
 refine nl hK ?_
 refine AW.seq (AW.block (AW.seq ?_))
 obtain⟨ut,hy,h⟩:=ae h
 refine jn ((PE cx .normal (fun ut=>[(1,.pt 0 0),(4,dI .u64 n7),(24,dB ut)]) fun ut=>⟨[(0,dC (ap.f aM))],[],1⟩) ut) ?_ ?_
 replace h:=hy
 refine rq hx fun K hK=>?_
 refine mbi ?_
 rcases aE h with⟨BK,h⟩|⟨BK,h⟩
 refine nbi hK ?_
 exact pe1 h h0 [0]
 refine nbi hK ?_
 exact pe1 h h0 [0]
 refine lw0 ?_
 refine cdh h rfl (fun uO h=>?_) (fun uO h=>?_)
 refine ra hx ?_
 refine AW.ret ?_
 cases h
 exact rv2
 refine AW.seq ?_
 obtain⟨iq,hy,h⟩:=ae h
 refine jn ((PE cx .normal (fun iq=>[(4,dI .u64 n7),(34,dB iq)]) fun iq=>⟨[],[],0⟩) iq) ?_ ?_
 replace h:=hy
 refine rq hx fun K hK=>?_
 refine mbi ?_
 rcases aE h with⟨MX,h⟩|⟨MX,h⟩
 refine nbi hK ?_
 exact pe1 h h0 []
 refine nbi hK ?_
 exact pe1 h h0 []
 refine lw0 ?_
 refine cdh h rfl (fun IF h=>?_) (fun IF h=>?_)
 refine ra hx ?_
 refine AW.ret ?_
 cases h
 exact rv2
 refine AW.skip (ra hx ?_)
 refine AW.ret ?_
 cases h
 exact rv2
def fZ(aM:Int):Option Bool:=some (decide (aM≠aM))
theorem rG {aM:Int}{r:Bool}(h:fZ aM=some r):aq prog 195 [dI .u32 aM] (dB r):=by
 refine bh (rs:=[.tmp 2]) (fun cx hx h0=>?_) func195
 unfold fZ at h
 iterate 2 refine ra hx ?_
 exact AW.ret (rtv h)
def gD(aM:Int)(mA:Int):Option Int:=bnd (fZ aM) fun x1=>bnd (fZ mA) fun x3=>cnd x1 (cnd x3 (some (0:Int)) (some (-1:Int))) (cnd x3 (some (1:Int)) (cnd (decide (aM<mA)) (some (-1:Int)) (cnd (decide (mA<aM)) (some (1:Int)) (some (0:Int)))))
theorem wz {aM:Int}{mA:Int}{r:Int}(h:gD aM mA=some r):aq prog 179 [dI .u32 aM,dI .u32 mA] (dI .i64 r):=by
 refine bh (rs:=[.tmp 4]) (fun cx hx h0=>?_) func179
 unfold gD at h
 refine ra hx ?_
 refine rs hx fun K hK=>?_
 refine sa ?_
 refine scb h rG fun x1 h=>?_
 refine nbi hK ?_
 refine rs hx fun K hK=>?_
 refine sa ?_
 refine scb h rG fun x3 h=>?_
 refine nbi hK ?_
 refine AW.seq (ra hx ?_)
 refine cdh h rfl (fun rX h=>?_) (fun rX h=>?_)
 refine AW.seq (ra hx ?_)
 refine cdh h rfl (fun qP h=>?_) (fun qP h=>?_)
 refine ra hx ?_
 exact AW.ret (rtv h)
 refine AW.skip (ra hx ?_)
 exact AW.ret (rtv h)
 refine AW.skip (AW.seq (ra hx ?_))
 refine cdh h rfl (fun sZ h=>?_) (fun sZ h=>?_)
 refine ra hx ?_
 exact AW.ret (rtv h)
 refine AW.skip (AW.seq (ra hx ?_))
 refine cdh h rfl (fun ua h=>?_) (fun ua h=>?_)
 refine ra hx ?_
 exact AW.ret (rtv h)
 refine AW.skip (AW.seq (ra hx ?_))
 refine cdh h rfl (fun KN h=>?_) (fun KN h=>?_)
 refine ra hx ?_
 exact AW.ret (rtv h)
 refine AW.skip (ra hx ?_)
 exact AW.ret (rtv h)
def j6(aI:Vector Int 16)(aQ:Vector Int 16):Int→Option (Int⊕(Int⊕Unit)):=fun aC=>cnd (decide ((0:Int)≤aC)) (gd (0≤aC∧aC<16) (gd (0≤aC∧aC<16) (cnd (decide (((aI)[(aC).toNat]!)≠((aQ)[(aC).toNat]!))) (gd (0≤aC∧aC<16) (gd (0≤aC∧aC<16) (bnd (gD ((aI)[(aC).toNat]!) ((aQ)[(aC).toNat]!)) fun sJ=>some (.inr (.inl sJ))))) (some (.inl (i64.wrap (aC - (1:Int)))))))) (some (.inr (.inr ())))
def ii(aI:Vector Int 16)(aQ:Vector Int 16):Option Int:=bnd (bq (j6 aI aQ) (15:Int)) fun y13=>match y13 with| .inl r=>some r| .inr ()=>some (0:Int)
theorem pR {aI:Vector Int 16}{aQ:Vector Int 16}{r:Int}(h:ii aI aQ=some r):aq prog 149 [dG (cA 16 (cI .u32)) aI,dG (cA 16 (cI .u32)) aQ] (dI .i64 r):=by
 refine bh (rs:=[.tmp 4]) (fun cx hx h0=>?_) func149
 unfold ii at h
 refine ra hx ?_
 refine AW.seq (ra hx ?_)
 refine AW.block ?_
 obtain⟨y,hy,h⟩:=ae h
 refine lp (S:=Int) (X:=Int⊕Unit) (fun aC=>[(2,.pt 0 0),(3,.pt 1 0),(5,dI .i64 aC)]) (fun aC=>⟨[(0,dC ((cA 16 (cI .u32)).f aI)),(1,dC ((cA 16 (cI .u32)).f aQ))],[],2⟩) (PS (PR [.tmp 4] fun r=>dI .i64 r) (PE cx (.exit 0) (fun ()=>[]) fun ()=>⟨[],[],0⟩)) hy ?_ ?_ ?_
 exact wk0 h0 [0,1]
 clear hy h
 rintro aC y h
 dsimp only[j6] at h
 refine AW.seq (ra hx ?_)
 refine cdh h rfl (fun fJ h=>?_) (fun fJ h=>?_)
 refine AW.skip (AW.seq (AW.block (rsd [] hx fun K hK=>?_)))
 refine sa ?_
 obtain⟨q8,h⟩:=ay h
 iterate 3 refine sbi ?_
 obtain⟨OU,h⟩:=ay h
 refine nbi hK ?_
 refine cdh h rfl (fun qP h=>?_) (fun qP h=>?_)
 refine rsd [179] hx fun K hK=>?_
 refine sa ?_
 obtain⟨hc7,h⟩:=ay h
 iterate 3 refine sbi ?_
 obtain⟨hc9,h⟩:=ay h
 refine mbi ?_
 refine cqb h wz fun sJ h=>?_
 refine nbi hK ?_
 refine AW.ret ?_
 cases h
 refine PS.r ⟨by nofun,PS.l (PR.i ?_)⟩
 exact rv1
 refine AW.skip (rb hx ?_)
 exact pel h h0 [0,1]
 exact AW.exit (peq h h0 [])
 rcases y with r|⟨⟩
 rintro ex tm' hp' ⟨rfl,hw⟩
 cases h
 exact hw
 refine lwr ?_
 refine ra hx ?_
 exact AW.ret (rtv h)
def j5(aI:Vector Int 16)(aQ:Vector Int 16):Int×Int×(Vector Int 16)→Option ((Int×Int×(Vector Int 16))⊕(Int×(Vector Int 16))):=fun (dA,bP,eo)=>cnd (decide (bP<(16:Int))) (gd (0≤bP∧bP<16) (gd (0≤bP∧bP<16) (bnd (some (u64.wrap (dA+(u64.wrap ((u64.wrap ((aI)[(bP).toNat]!))+(u64.wrap ((aQ)[(bP).toNat]!))))))) fun x6=>gd (0≤bP∧bP<16) (some (.inl (mh .u64 x6 (32:Int),i64.wrap (bP+(1:Int)),(eo).set! (bP).toNat (u32.wrap (x6)))))))) (some (.inr (dA,eo)))
def ox(aI:Vector Int 16)(aQ:Vector Int 16):Option ((Vector Int 16)×Bool):=bnd (bq (j5 aI aQ) ((0:Int),(0:Int),(ee))) fun (cl,oT)=>some (oT,decide (cl=(0:Int)))
theorem HQ {aI:Vector Int 16}{aQ:Vector Int 16}{r:(Vector Int 16)×Bool}(h:ox aI aQ=some r):aq prog 164 [dG (cA 16 (cI .u32)) aI,dG (cA 16 (cI .u32)) aQ] (.tu [dG (cA 16 (cI .u32)) r.1,dB r.2]):=by
 refine bh (rs:=[.cell 4 39,.tmp 5]) (fun cx hx h0=>?_) func164
 unfold ox at h
 refine rai hx ?_
 refine rai hx ?_
 refine ra hx ?_
 refine AW.seq (ra hx ?_)
 refine AW.block ?_
 obtain⟨y,hy,h⟩:=ae h
 refine lp (S:=Int×Int×(Vector Int 16)) (X:=Int×(Vector Int 16)) (fun (dA,bP,eo)=>[(2,.pt 0 0),(3,.pt 1 0),(4,.pt 2 0),(6,.pt 3 0),(7,dI .u64 dA),(9,dI .i64 bP)]) (fun (dA,bP,eo)=>⟨[(0,dC ((cA 16 (cI .u32)).f aI)),(1,dC ((cA 16 (cI .u32)).f aQ)),(2,dC ((cA 16 (cI .u32)).f (ee))),(3,dC ((cA 16 (cI .u32)).f eo))],[],4⟩) (PE cx (.exit 0) (fun (cl,oT)=>[(4,.pt 0 0),(6,.pt 1 0),(7,dI .u64 cl)]) fun (cl,oT)=>⟨[(0,dC ((cA 16 (cI .u32)).f (ee))),(1,dC ((cA 16 (cI .u32)).f oT))],[],2⟩) hy ?_ ?_ ?_
 exact wk0 h0 [0,1,2,3]
 clear hy h
 rintro⟨dA,bP,eo⟩ y h
 dsimp only[j5] at h
 refine ra hx ?_
 refine AW.seq (cdh h rfl (fun fJ h=>?_) (fun fJ h=>?_))
 refine AW.skip (AW.seq (AW.block (ra hx ?_)))
 refine rsd [] hx fun K hK=>?_
 iterate 2 refine sa ?_
 obtain⟨q8,h⟩:=ay h
 iterate 4 refine sbi ?_
 obtain⟨OU,h⟩:=ay h
 iterate 5 refine sbi ?_
 obtain⟨x6,v8,h⟩:=ae h
 replace v8:=bC v8
 refine s2 (d2:=dI .u64 x6) lH (gq (congrArg (dI .u64) v8)) ?_
 refine nl hK ?_
 refine rs hx fun K hK=>?_
 iterate 3 refine sa ?_
 obtain⟨hc8,h⟩:=ay h
 have hn9:(bP).toNat<16:=by omega
 refine sbi ?_
 refine s0 (yB (b':=u32.wrap (x6)) (bV.comp (bV.id _ _) (bV.vec (cI .u32) eo (bP).toNat hn9) (fun _=>rfl)) bQ) ?_
 refine nl hK ?_
 iterate 2 refine rb hx ?_
 exact pel h h0 [0,1,2,3]
 exact AW.exit (per h h0 [2,3])
 obtain⟨cl,oT⟩:=y
 refine lw0 ?_
 refine rai hx ?_
 refine AW.ret ?_
 cases h
 exact rv2
def jp(aI:Vector Int 16)(aQ:Vector Int 16):Int×Int×(Vector Int 16)→Option ((Int×Int×(Vector Int 16))⊕((Vector Int 16))):=fun (dA,bP,eo)=>cnd (decide (bP<(16:Int))) (gd (0≤bP∧bP<16) (gd (0≤bP∧bP<16) (bnd (some (u64.wrap ((u64.wrap ((u64.wrap ((aI)[(bP).toNat]!)) - (u64.wrap ((aQ)[(bP).toNat]!)))) - dA))) fun x6=>gd (0≤bP∧bP<16) (some (.inl (mh .u64 x6 (63:Int),i64.wrap (bP+(1:Int)),(eo).set! (bP).toNat (u32.wrap (x6)))))))) (some (.inr eo))
def ij(aI:Vector Int 16)(aQ:Vector Int 16):Option (Vector Int 16):=bnd (bq (jp aI aQ) ((0:Int),(0:Int),(ee))) fun cl=>some cl
theorem tr {aI:Vector Int 16}{aQ:Vector Int 16}{r:Vector Int 16}(h:ij aI aQ=some r):aq prog 165 [dG (cA 16 (cI .u32)) aI,dG (cA 16 (cI .u32)) aQ] (dG (cA 16 (cI .u32)) r):=by
 refine bh (rs:=[.cell 4 39]) (fun cx hx h0=>?_) func165
 unfold ij at h
 refine rai hx ?_
 refine rai hx ?_
 refine ra hx ?_
 refine AW.seq (ra hx ?_)
 refine AW.block ?_
 obtain⟨cl,hy,h⟩:=ae h
 refine lp (S:=Int×Int×(Vector Int 16)) (X:=(Vector Int 16)) (fun (dA,bP,eo)=>[(2,.pt 0 0),(3,.pt 1 0),(4,.pt 2 0),(5,.pt 3 0),(6,dI .u64 dA),(9,dI .i64 bP)]) (fun (dA,bP,eo)=>⟨[(0,dC ((cA 16 (cI .u32)).f aI)),(1,dC ((cA 16 (cI .u32)).f aQ)),(2,dC ((cA 16 (cI .u32)).f (ee))),(3,dC ((cA 16 (cI .u32)).f eo))],[],4⟩) (PE cx (.exit 0) (fun cl=>[(4,.pt 0 0),(5,.pt 1 0)]) fun cl=>⟨[(0,dC ((cA 16 (cI .u32)).f (ee))),(1,dC ((cA 16 (cI .u32)).f cl))],[],2⟩) hy ?_ ?_ ?_
 exact wk0 h0 [0,1,2,3]
 clear hy h
 rintro⟨dA,bP,eo⟩ y h
 dsimp only[jp] at h
 refine ra hx ?_
 refine AW.seq (cdh h rfl (fun fJ h=>?_) (fun fJ h=>?_))
 refine AW.skip (AW.seq (AW.block (ra hx ?_)))
 refine rsd [] hx fun K hK=>?_
 refine sa ?_
 obtain⟨q8,h⟩:=ay h
 iterate 4 refine sbi ?_
 obtain⟨OU,h⟩:=ay h
 iterate 6 refine sbi ?_
 obtain⟨x6,v8,h⟩:=ae h
 replace v8:=bC v8
 refine s2 (d2:=dI .u64 x6) lH (gq (congrArg (dI .u64) v8)) ?_
 refine nl hK ?_
 refine rs hx fun K hK=>?_
 iterate 3 refine sa ?_
 obtain⟨hc8,h⟩:=ay h
 have hn9:(bP).toNat<16:=by omega
 refine sbi ?_
 refine s0 (yB (b':=u32.wrap (x6)) (bV.comp (bV.id _ _) (bV.vec (cI .u32) eo (bP).toNat hn9) (fun _=>rfl)) bQ) ?_
 refine nl hK ?_
 iterate 2 refine rb hx ?_
 exact pel h h0 [0,1,2,3]
 exact AW.exit (per h h0 [2,3])
 refine lw0 ?_
 refine rai hx ?_
 exact AW.ret (rtv h)
def js(aI:ao)(aQ:ao):Option ao:=bnd (cv [aI,aQ]) fun x1=>cnd (!x1) (bnd (d9) fun x4=>some x4) (cnd (aI.vNeg == aQ.vNeg) (bnd (ox aI.vW aQ.vW) fun x7=>cnd (!x7.2) (bnd (d9) fun n7=>some n7) (bnd (bG aI.vNeg x7.1) fun nC=>some nC)) (bnd (ii aI.vW aQ.vW) fun qc=>cnd (decide ((0:Int)≤qc)) (bnd (ij aI.vW aQ.vW) fun o3=>bnd (bG aI.vNeg o3) fun vU=>some vU) (bnd (ij aQ.vW aI.vW) fun wm=>bnd (bG aQ.vNeg wm) fun xY=>some xY)))
theorem Ci {aI:ao}{aQ:ao}{r:ao}(h:js aI aQ=some r):aq prog 123 [dG ap aI,dG ap aQ] (dG ap r):=by
 refine bh (rs:=[.cell 4 41]) (fun cx hx h0=>?_) func123
 unfold js at h
 refine rai hx ?_
 refine AW.seq (rs hx fun K hK=>?_)
 iterate 2 refine sbi ?_
 refine s1 (lj ([aI,aQ]:List ao) ap qD fc) ?_
 refine scb h fb fun x1 h=>?_
 refine nbi hK ?_
 refine cdh h rfl (fun fG h=>?_) (fun fG h=>?_)
 refine rs hx fun K hK=>?_
 refine scb h gl fun x4 h=>?_
 refine nbi hK ?_
 exact AW.ret (rtv h)
 refine AW.skip (AW.seq (rai hx ?_))
 refine cdh h rfl (fun qP h=>?_) (fun qP h=>?_)
 refine rs hx fun K hK=>?_
 refine mbi ?_
 refine scb h HQ fun x7 h=>?_
 refine nbi hK ?_
 refine AW.seq (ra hx ?_)
 refine cdh h rfl (fun KN h=>?_) (fun KN h=>?_)
 refine rs hx fun K hK=>?_
 refine scb h gl fun n7 h=>?_
 refine nbi hK ?_
 exact AW.ret (rtv h)
 refine AW.skip (rs hx fun K hK=>?_)
 refine mbi ?_
 refine scb h de fun nC h=>?_
 refine nbi hK ?_
 exact AW.ret (rtv h)
 refine AW.skip (AW.seq (rs hx fun K hK=>?_))
 refine mbi ?_
 refine scb h pR fun qc h=>?_
 refine nbi hK ?_
 refine cdh h rfl (fun tD h=>?_) (fun tD h=>?_)
 refine rsd [165,145] hx fun K hK=>?_
 refine mbi ?_
 refine cqb h tr fun o3 h=>?_
 refine cqb h de fun vU h=>?_
 refine nbi hK ?_
 exact AW.ret (rtv h)
 refine AW.skip (rsd [165,145] hx fun K hK=>?_)
 refine mbi ?_
 refine cqb h tr fun wm h=>?_
 refine cqb h de fun xY h=>?_
 refine nbi hK ?_
 exact AW.ret (rtv h)
def fk(aM:ao):Option ao:=bnd (cv [aM]) fun x1=>cnd (!x1) (bnd (d9) fun x4=>some x4) (bnd (bG (!aM.vNeg) aM.vW) fun x6=>some x6)
theorem sL {aM:ao}{r:ao}(h:fk aM=some r):aq prog 100 [dG ap aM] (dG ap r):=by
 refine bh (rs:=[.cell 2 41]) (fun cx hx h0=>?_) func100
 unfold fk at h
 refine rai hx ?_
 refine AW.seq (rs hx fun K hK=>?_)
 refine sbi ?_
 refine s1 (lj ([aM]:List ao) ap qD fc) ?_
 refine scb h fb fun x1 h=>?_
 refine nbi hK ?_
 refine cdh h rfl (fun fG h=>?_) (fun fG h=>?_)
 refine rs hx fun K hK=>?_
 refine scb h gl fun x4 h=>?_
 refine nbi hK ?_
 exact AW.ret (rtv h)
 refine AW.skip (rs hx fun K hK=>?_)
 refine mbi ?_
 refine scb h de fun x6 h=>?_
 refine nbi hK ?_
 exact AW.ret (rtv h)
def nV(aI:ao)(aQ:ao):Option ao:=bnd (fk aQ) fun x1=>bnd (js aI x1) fun x3=>some x3
theorem JR {aI:ao}{aQ:ao}{r:ao}(h:nV aI aQ=some r):aq prog 181 [dG ap aI,dG ap aQ] (dG ap r):=by
 refine bh (rs:=[.cell 4 41]) (fun cx hx h0=>?_) func181
 unfold nV at h
 refine rai hx ?_
 refine rsd [100,123] hx fun K hK=>?_
 refine mbi ?_
 refine cqb h sL fun x1 h=>?_
 refine cqb h Ci fun x3 h=>?_
 refine nbi hK ?_
 exact AW.ret (rtv h)
def fe(aM:ao):Option Int:=bnd (S:=Bool) (bnd (cv [aM]) fun x1=>cnd (!x1) (some (true)) (some (decide (aM.vW=#v[(0:Int),0,0,0,0,0,0,0,0,0,0,0,0,0,0,0])))) fun gZ=>cnd gZ (some (0:Int)) (cnd aM.vNeg (some (-1:Int)) (some (1:Int)))
theorem kR {aM:ao}{r:Int}(h:fe aM=some r):aq prog 95 [dG ap aM] (dI .i64 r):=by
 refine bh (rs:=[.tmp 2]) (fun cx hx h0=>?_) func95
 unfold fe at h
 refine ra hx ?_
 refine AW.seq (AW.block (AW.seq ?_))
 obtain⟨gZ,hy,h⟩:=ae h
 refine jn ((PE cx .normal (fun gZ=>[(1,.pt 0 0),(3,dB gZ)]) fun gZ=>⟨[(0,dC (ap.f aM))],[],1⟩) gZ) ?_ ?_
 replace h:=hy
 refine rq hx fun K hK=>?_
 refine sbi ?_
 refine s1 (lj ([aM]:List ao) ap qD fc) ?_
 refine scb h fb fun x1 h=>?_
 refine mbi ?_
 rcases aE h with⟨fG,h⟩|⟨fG,h⟩
 refine nbi hK ?_
 exact pe1 h h0 [0]
 refine ga fG ?_
 refine gbi ?_
 refine g1 (d:=dG (cA 16 (cI .u32)) (#v[(0:Int),0,0,0,0,0,0,0,0,0,0,0,0,0,0,0])) fG (mz cU bQ) ?_
 refine g1 fG (Fo tok 2 (by decide) (EqC.arr (EqC.int (d:=0) bQ) cU bQ) cU) ?_
 refine nbi hK ?_
 exact pe1 h h0 [0]
 refine lw0 ?_
 refine cdh h rfl (fun rX h=>?_) (fun rX h=>?_)
 refine ra hx ?_
 exact AW.ret (rtv h)
 refine rai hx ?_
 refine cdh h rfl (fun qP h=>?_) (fun qP h=>?_)
 refine ra hx ?_
 exact AW.ret (rtv h)
 refine AW.skip (ra hx ?_)
 exact AW.ret (rtv h)
def mi(tz:Vector Int 16)(c0:Int):Int×Int×(Vector Int 16)→Option ((Int×Int×(Vector Int 16))⊕(Int×(Vector Int 16))):=fun (dA,bP,eo)=>cnd (decide (bP<(16:Int))) (gd (0≤bP∧bP<16) (gd (0≤c0) (bnd (some (ior .u64 dA (za .u64 (u64.wrap ((tz)[(bP).toNat]!)) c0))) fun x5=>gd (0≤bP∧bP<16) (some (.inl (mh .u64 x5 (32:Int),i64.wrap (bP+(1:Int)),(eo).set! (bP).toNat (u32.wrap (x5)))))))) (some (.inr (dA,eo)))
def pD(tz:Vector Int 16)(c0:Int):Option ((Vector Int 16)×Int):=bnd (bq (mi tz c0) ((0:Int),(0:Int),(ee))) fun (cl,oT)=>some (oT,u32.wrap (cl))
theorem Dx {tz:Vector Int 16}{c0:Int}{r:(Vector Int 16)×Int}(h:pD tz c0=some r):aq prog 189 [dG (cA 16 (cI .u32)) tz,dI .i64 c0] (.tu [dG (cA 16 (cI .u32)) r.1,dI .u32 r.2]):=by
 refine bh (rs:=[.cell 4 39,.tmp 5]) (fun cx hx h0=>?_) func189
 unfold pD at h
 refine rai hx ?_
 refine rai hx ?_
 refine ra hx ?_
 refine AW.seq (ra hx ?_)
 refine AW.block ?_
 obtain⟨y,hy,h⟩:=ae h
 refine lp (S:=Int×Int×(Vector Int 16)) (X:=Int×(Vector Int 16)) (fun (dA,bP,eo)=>[(1,dI .i64 c0),(2,.pt 0 0),(4,.pt 1 0),(6,.pt 2 0),(7,dI .u64 dA),(9,dI .i64 bP)]) (fun (dA,bP,eo)=>⟨[(0,dC ((cA 16 (cI .u32)).f tz)),(1,dC ((cA 16 (cI .u32)).f (ee))),(2,dC ((cA 16 (cI .u32)).f eo))],[],3⟩) (PE cx (.exit 0) (fun (cl,oT)=>[(4,.pt 0 0),(6,.pt 1 0),(7,dI .u64 cl)]) fun (cl,oT)=>⟨[(0,dC ((cA 16 (cI .u32)).f (ee))),(1,dC ((cA 16 (cI .u32)).f oT))],[],2⟩) hy ?_ ?_ ?_
 exact wk0 h0 [0,1,2]
 clear hy h
 rintro⟨dA,bP,eo⟩ y h
 dsimp only[mi] at h
 refine ra hx ?_
 refine AW.seq (cdh h rfl (fun fJ h=>?_) (fun fJ h=>?_))
 refine AW.skip (AW.seq (AW.block (ra hx ?_)))
 refine rs hx fun K hK=>?_
 iterate 2 refine sa ?_
 obtain⟨q8,h⟩:=ay h
 iterate 4 refine sbi ?_
 obtain⟨OU,h⟩:=ay h
 refine s1 (U1 OU) ?_
 refine sa ?_
 obtain⟨x5,Gu,h⟩:=ae h
 replace Gu:=bC Gu
 refine s2 (d2:=dI .u64 x5) lH (gq (congrArg (dI .u64) Gu)) ?_
 refine nl hK ?_
 refine rs hx fun K hK=>?_
 iterate 3 refine sa ?_
 obtain⟨hc7,h⟩:=ay h
 have Rb:(bP).toNat<16:=by omega
 refine sbi ?_
 refine s0 (yB (b':=u32.wrap (x5)) (bV.comp (bV.id _ _) (bV.vec (cI .u32) eo (bP).toNat Rb) (fun _=>rfl)) bQ) ?_
 refine nl hK ?_
 iterate 2 refine rb hx ?_
 exact pel h h0 [0,1,2]
 exact AW.exit (per h h0 [1,2])
 obtain⟨cl,oT⟩:=y
 refine lw0 ?_
 refine rai hx ?_
 refine AW.ret ?_
 cases h
 exact rv2
def lq(tz:Vector Int 16)(c0:Int):Int×(Vector Int 16)→Option ((Int×(Vector Int 16))⊕((Vector Int 16))):=fun (aP,bp)=>cnd (decide (aP<(16:Int))) (bnd (S:=Int) (cnd (decide ((i64.wrap (aP+(1:Int)))<(16:Int))) (gd (0≤i64.wrap (aP+(1:Int))∧i64.wrap (aP+(1:Int))<16) (bnd (some (u64.wrap ((tz)[(i64.wrap (aP+(1:Int))).toNat]!))) fun x5=>some (x5))) (some ((0:Int)))) fun Fh=>gd (0≤aP∧aP<16) (gd (0≤c0) (gd (0≤aP∧aP<16) (bnd (some ((bp).set! (aP).toNat (u32.wrap (mh .u64 (ior .u64 (za .u64 Fh (32:Int)) (u64.wrap ((tz)[(aP).toNat]!))) c0)))) fun qA=>some (.inl (i64.wrap (aP+(1:Int)),qA)))))) (some (.inr bp))
def oy(tz:Vector Int 16)(c0:Int):Option (Vector Int 16):=bnd (bq (lq tz c0) ((0:Int),(ee))) fun be=>some be
theorem HS {tz:Vector Int 16}{c0:Int}{r:Vector Int 16}(h:oy tz c0=some r):aq prog 193 [dG (cA 16 (cI .u32)) tz,dI .i64 c0] (dG (cA 16 (cI .u32)) r):=by
 refine bh (rs:=[.cell 4 39]) (fun cx hx h0=>?_) func193
 unfold oy at h
 refine rai hx ?_
 refine rai hx ?_
 refine AW.seq (ra hx ?_)
 refine AW.block ?_
 obtain⟨be,hy,h⟩:=ae h
 refine lp (S:=Int×(Vector Int 16)) (X:=(Vector Int 16)) (fun (aP,bp)=>[(1,dI .i64 c0),(2,.pt 0 0),(4,.pt 1 0),(5,.pt 2 0),(8,dI .i64 aP)]) (fun (aP,bp)=>⟨[(0,dC ((cA 16 (cI .u32)).f tz)),(1,dC ((cA 16 (cI .u32)).f (ee))),(2,dC ((cA 16 (cI .u32)).f bp))],[],3⟩) (PE cx (.exit 0) (fun be=>[(4,.pt 0 0),(5,.pt 1 0)]) fun be=>⟨[(0,dC ((cA 16 (cI .u32)).f (ee))),(1,dC ((cA 16 (cI .u32)).f be))],[],2⟩) hy ?_ ?_ ?_
 exact wk0 h0 [0,1,2]
 clear hy h
 rintro⟨aP,bp⟩ y h
 dsimp only[lq] at h
 refine ra hx ?_
 refine AW.seq (cdh h rfl (fun fJ h=>?_) (fun fJ h=>?_))
 refine AW.skip (AW.seq (AW.block ?_))
 iterate 2 refine ra hx ?_
 refine AW.seq ?_
 obtain⟨Fh,hy,h⟩:=ae h
 refine jn ((PE cx .normal (fun Fh=>[(1,dI .i64 c0),(2,.pt 0 0),(4,.pt 1 0),(5,.pt 2 0),(6,dI .i64 aP),(7,dI .u64 Fh),(8,dI .i64 aP)]) fun Fh=>⟨[(0,dC ((cA 16 (cI .u32)).f tz)),(1,dC ((cA 16 (cI .u32)).f (ee))),(2,dC ((cA 16 (cI .u32)).f bp))],[],3⟩) Fh) ?_ ?_
 replace h:=hy
 refine ra hx ?_
 refine cdh h rfl (fun wI h=>?_) (fun wI h=>?_)
 refine rq hx fun K hK=>?_
 iterate 2 refine sa ?_
 obtain⟨hc3,h⟩:=ay h
 iterate 3 refine sbi ?_
 obtain⟨x5,Gu,h⟩:=ae h
 replace Gu:=bC Gu
 refine s2 (d2:=dI .u64 x5) lH (gq (congrArg (dI .u64) Gu)) ?_
 refine nl hK ?_
 exact pe1 h h0 [0,1,2]
 exact AW.skip (pe1 h h0 [0,1,2])
 refine lw0 ?_
 refine rq hx fun K hK=>?_
 iterate 4 refine sa ?_
 obtain⟨hc8,h⟩:=ay h
 iterate 5 refine sbi ?_
 obtain⟨MU,h⟩:=ay h
 refine s1 (U0 MU) ?_
 refine sa ?_
 obtain⟨Tt,h⟩:=ay h
 have hn12:(aP).toNat<16:=by omega
 refine sbi ?_
 obtain⟨qA,SO,h⟩:=ae h
 replace SO:=bC SO
 refine s0 (nR (b':=u32.wrap (mh .u64 (ior .u64 (za .u64 Fh (32:Int)) (u64.wrap ((tz)[(aP).toNat]!))) c0)) (bV.comp (bV.id _ _) (bV.vec (cI .u32) bp (aP).toNat hn12) (fun _=>rfl)) bQ SO) ?_
 refine nl hK ?_
 refine rb hx ?_
 exact pel h h0 [0,1,2]
 exact AW.exit (per h h0 [1,2])
 refine lw0 ?_
 refine rai hx ?_
 exact AW.ret (rtv h)
def j4(aI:Vector Int 16)(aQ:Int):Int×Int×(Vector Int 16)→Option ((Int×Int×(Vector Int 16))⊕(Int×(Vector Int 16))):=fun (aP,bp,mQ)=>cnd (decide ((0:Int)≤bp)) (gd (0≤bp∧bp<16) (bnd (some (ior .u64 (za .u64 aP (32:Int)) (u64.wrap ((aI)[(bp).toNat]!)))) fun x4=>gd (u64.wrap (aQ)≠0) (gd (0≤bp∧bp<16) (bnd (some ((mQ).set! (bp).toNat (u32.wrap (u64.wrap (Int.tdiv x4 (u64.wrap (aQ))))))) fun x9=>gd (u64.wrap (aQ)≠0) (some (.inl (Int.tmod x4 (u64.wrap (aQ)),i64.wrap (bp - (1:Int)),x9))))))) (some (.inr (aP,mQ)))
def nj(aI:Vector Int 16)(aQ:Int):Option ((Vector Int 16)×Int):=bnd (bq (j4 aI aQ) ((0:Int),(15:Int),(ee))) fun (be,kE)=>some (kE,u32.wrap (be))
theorem F8 {aI:Vector Int 16}{aQ:Int}{r:(Vector Int 16)×Int}(h:nj aI aQ=some r):aq prog 187 [dG (cA 16 (cI .u32)) aI,dI .u32 aQ] (.tu [dG (cA 16 (cI .u32)) r.1,dI .u32 r.2]):=by
 refine bh (rs:=[.cell 4 39,.tmp 5]) (fun cx hx h0=>?_) func187
 unfold nj at h
 refine rai hx ?_
 refine ra hx ?_
 refine AW.seq (ra hx ?_)
 refine AW.block ?_
 obtain⟨y,hy,h⟩:=ae h
 refine lp (S:=Int×Int×(Vector Int 16)) (X:=Int×(Vector Int 16)) (fun (aP,bp,mQ)=>[(1,dI .u32 aQ),(2,.pt 0 0),(4,.pt 1 0),(6,dI .u64 aP),(7,dI .i64 bp)]) (fun (aP,bp,mQ)=>⟨[(0,dC ((cA 16 (cI .u32)).f aI)),(1,dC ((cA 16 (cI .u32)).f mQ))],[],2⟩) (PE cx (.exit 0) (fun (be,kE)=>[(4,.pt 0 0),(6,dI .u64 be)]) fun (be,kE)=>⟨[(0,dC ((cA 16 (cI .u32)).f kE))],[],1⟩) hy ?_ ?_ ?_
 exact wk0 h0 [0,1]
 clear hy h
 rintro⟨aP,bp,mQ⟩ y h
 dsimp only[j4] at h
 refine AW.seq (ra hx ?_)
 refine cdh h rfl (fun fJ h=>?_) (fun fJ h=>?_)
 refine AW.skip (AW.seq (AW.block (rs hx fun K hK=>?_)))
 iterate 3 refine sa ?_
 obtain⟨q8,h⟩:=ay h
 iterate 4 refine sbi ?_
 obtain⟨x4,Qf,h⟩:=ae h
 replace Qf:=bC Qf
 refine s2 (d2:=dI .u64 x4) lH (gq (congrArg (dI .u64) Qf)) ?_
 refine nl hK ?_
 refine rs hx fun K hK=>?_
 iterate 4 refine sa ?_
 obtain⟨hc6,h⟩:=ay h
 refine s1 (HG hc6) ?_
 refine sa ?_
 obtain⟨hc7,h⟩:=ay h
 have Rb:(bp).toNat<16:=by omega
 refine sbi ?_
 obtain⟨x9,MH,h⟩:=ae h
 replace MH:=bC MH
 refine s0 (nR (b':=u32.wrap (u64.wrap (Int.tdiv x4 (u64.wrap (aQ))))) (bV.comp (bV.id _ _) (bV.vec (cI .u32) mQ (bp).toNat Rb) (fun _=>rfl)) bQ MH) ?_
 refine nl hK ?_
 refine rq hx fun K hK=>?_
 iterate 3 refine sa ?_
 obtain⟨Tt,h⟩:=ay h
 refine s1 (Fk Tt) ?_
 refine nbi hK ?_
 refine rb hx ?_
 exact pel h h0 [0,1]
 exact AW.exit (per h h0 [1])
 obtain⟨be,kE⟩:=y
 refine lw0 ?_
 refine rai hx ?_
 refine AW.ret ?_
 cases h
 exact rv2
section
section
variable {b A B k m d:Nat}
theorem pQ(hb:0<b):((A % b ^ k+B % b ^ k) / b ^ k+dg b A k+dg b B k) % b=dg b (A+B) k∧((A % b ^ k+B % b ^ k) / b ^ k+dg b A k+dg b B k) / b=(A % b ^ (k+1)+B % b ^ (k+1)) / b ^ (k+1):=by
 have hp:0<b ^ k:=bO hb
 have hs:A % b ^ (k+1)+B % b ^ (k+1)=(A % b ^ k+B % b ^ k)+b ^ k*(dg b A k+dg b B k):=by
  rw[g6,g6,vd];omega
 have h1:(A % b ^ (k+1)+B % b ^ (k+1)) / b ^ k=(A % b ^ k+B % b ^ k) / b ^ k+dg b A k+dg b B k:=by
  rw[hs,zy _ _ hp];omega
 refine⟨?_,?_⟩
 ·have e:A+B=(A % b ^ (k+1)+B % b ^ (k+1))+b ^ k*(b*(A / b ^ (k+1)+B / b ^ (k+1))):=by
   have e1:=lS A (b ^ (k+1))
   have e2:=lS B (b ^ (k+1))
   have e3:b ^ k*(b*(A / b ^ (k+1)+B / b ^ (k+1)))=b ^ (k+1)*(A / b ^ (k+1))+b ^ (k+1)*(B / b ^ (k+1)):=by
    rw[←e7,←cz,vd]
   omega
  unfold dg
  rw[e,zy _ _ hp,h1]
  unfold dg
  rw[Ca]
 ·rw[cz,←gY,←cz,h1]
theorem oJ(hb:0<b):(A % b ^ k+B % b ^ k) / b ^ k≤1:=by
 have hp:0<b ^ k:=bO hb
 have h1:=ej A hp
 have h2:=ej B hp
 have:(A % b ^ k+B % b ^ k) / b ^ k<2:=(lR hp).2 (by omega)
 omega
theorem G6(hb:0<b):(A % b ^ k*m / b ^ k+dg b A k*m) % b=dg b (A*m) k∧(A % b ^ k*m / b ^ k+dg b A k*m) / b=A % b ^ (k+1)*m / b ^ (k+1):=by
 have hp:0<b ^ k:=bO hb
 have hs:A % b ^ (k+1)*m=A % b ^ k*m+b ^ k*(dg b A k*m):=by
  rw[g6,bX,e7]
 have h1:A % b ^ (k+1)*m / b ^ k=A % b ^ k*m / b ^ k+dg b A k*m:=by
  rw[hs,zy _ _ hp]
 refine⟨?_,?_⟩
 ·have e:A*m=A % b ^ (k+1)*m+b ^ k*(b*(A / b ^ (k+1)*m)):=by
   have e1:=lS A (b ^ (k+1))
   have e3:b ^ k*(b*(A / b ^ (k+1)*m))=b ^ (k+1)*(A / b ^ (k+1))*m:=by
    rw[←e7,←cz,←e7]
   rw[e3,←bX]
   congr 1
   omega
  have h2:dg b (A*m) k=A*m / b ^ k % b:=rfl
  rw[h2,e,zy _ _ hp,h1,Ca]
 ·rw[cz,←gY,←cz,h1]
theorem Bw(hb:0<b)(hm:0<m):A % b ^ k*m / b ^ k<m:=by
 have hp:0<b ^ k:=bO hb
 rw[lR hp,bx]
 exact Nat.mul_lt_mul_of_pos_left (ej A hp) hm
theorem yT(hb:0<b)(hd:0<d):(A / b ^ (k+1) % d*b+dg b A k) / d=dg b (A / d) k∧(A / b ^ (k+1) % d*b+dg b A k) % d=A / b ^ k % d:=by
 have e:=cw (b:=b) (A:=A) (k:=k)
 have hR:=lS (A / b ^ (k+1)) d
 generalize hr:A / b ^ (k+1) % d=r at hR ⊢
 generalize ht:A / b ^ (k+1) / d=t at hR
 have hrd:r<d:=by rw[←hr];exact ej _ hd
 have ha:dg b A k<b:=Ua hb
 generalize dg b A k=a at e ha ⊢
 have e2:A / b ^ k=r*b+a+d*(t*b):=by
  rw[e,←hR,bX,e7];omega
 have bI:(r*b+a) / d<b:=by
  rw[lR hd]
  have:(r+1)*b≤d*b:=cK _ hrd
  rw[bX,e8,bx d b] at this
  omega
 refine⟨?_,?_⟩
 ·have:dg b (A / d) k=A / b ^ k / d % b:=by unfold dg;rw[gY,bx,←gY]
  rw[this,e2,zy _ _ hd,NH,ep bI]
 ·rw[e2,Ca]
end
abbrev W(A:Nat):Vector Int 16:=vN 4294967296 16 A
theorem gN {A k:Nat}(h:k<16):(W A)[k]! =(dg 4294967296 A k:Int):=jI h
theorem dgl {A k:Nat}:dg 4294967296 A k<4294967296:=Ua (by decide)
theorem G_plus {A B:Nat}(hA:A<4294967296 ^ 16)(hB:B<4294967296 ^ 16):ox (W A) (W B)=some (W (A+B),decide (A+B<4294967296 ^ 16)):=by
 have hl:=rR (b:=j5 (W A) (W B)) (s0:=((0:Int),(0:Int),ee)) (fun k=>(((A % 4294967296 ^ k+B % 4294967296 ^ k) / 4294967296 ^ k:Nat),(k:Int),vN 4294967296 16 ((A+B) % 4294967296 ^ k))) 16 (((A % 4294967296 ^ 16+B % 4294967296 ^ 16) / 4294967296 ^ 16:Nat),vN 4294967296 16 ((A+B) % 4294967296 ^ 16))
  (by simp only[f4,m9,sR];rfl)
  (fun k hk=>by
   have hc:=oJ (b:=4294967296) (A:=A) (B:=B) (k:=k) (by decide)
   obtain⟨h1,h2⟩:=pQ (b:=4294967296) (A:=A) (B:=B) (k:=k) (by decide)
   have ha:=@dgl A k
   have hb:=@dgl B k
   dsimp only[j5]
   rw[cy _ _,aB,aB,ab,aB,bW,gN hk,gN hk,iu,iu,←kB,iu,←kB,iu,yf,Ba,←xW,h1,h2,C9 (by decide) hk,bY,kB]
   rfl)
  (by
   dsimp only[j5]
   rw[ci _ _])
 unfold ox
 rw[hl,ab,ep hA,ep hB,HX (by decide)]
 dsimp only
 congr 2
 have:((((A+B) / 4294967296 ^ 16:Nat):Int)=0)↔A+B<4294967296 ^ 16:=by
  rw[Int.natCast_eq_zero,Ji (by decide)]
 exact li.2 this
theorem JC {A B:Nat}(hBA:B≤A):ij (W A) (W B)=some (W (A - B)):=by
 obtain⟨D,rfl⟩:∃D,A=D+B:=⟨A - B,by omega⟩
 rw[vb]
 have hl:=rR (b:=jp (W (D+B)) (W B)) (s0:=((0:Int),(0:Int),ee)) (fun k=>(((D % 4294967296 ^ k+B % 4294967296 ^ k) / 4294967296 ^ k:Nat),(k:Int),vN 4294967296 16 (D % 4294967296 ^ k))) 16 (vN 4294967296 16 (D % 4294967296 ^ 16))
  (by simp only[f4,m9,sR];rfl)
  (fun k hk=>by
   have hc:=oJ (b:=4294967296) (A:=D) (B:=B) (k:=k) (by decide)
   obtain⟨h1,h2⟩:=pQ (b:=4294967296) (A:=D) (B:=B) (k:=k) (by decide)
   have ha:=@dgl D k
   have hb:=@dgl B k
   have hd:=@dgl (D+B) k
   generalize (D % 4294967296 ^ k+B % 4294967296 ^ k) / 4294967296 ^ k=c at h1 h2 hc ⊢
   generalize (D % 4294967296 ^ (k+1)+B % 4294967296 ^ (k+1)) / 4294967296 ^ (k+1)=c' at h2 ⊢
   dsimp only[jp]
   rw[cy _ _,aB,aB,ab,aB,bW,gN hk,gN hk,iu,iu,bY]
   have hx:∃x:Nat,u64.wrap (u64.wrap ((dg 4294967296 (D+B) k:Int) - (dg 4294967296 B k:Int)) - (c:Int))=(x:Int)∧x / 9223372036854775808=c'∧x % 4294967296=dg 4294967296 D k:=by
    rw[IntKind.wrap_u64,IntKind.wrap_u64]
    refine⟨((((dg 4294967296 (D+B) k:Int) - (dg 4294967296 B k:Int)) % 18446744073709551616 - (c:Int)) % 18446744073709551616).toNat,by omega,by omega,by omega⟩
   obtain⟨x,Hb,xy,hx3⟩:=hx
   rw[Hb,RN,Ba,xy,hx3,C9 (by decide) hk]
   rfl)
  (by
   dsimp only[jp]
   rw[ci _ _])
 unfold ij
 rw[hl,ab,HX (by decide)]
theorem G_up {A s:Nat}(hs:s<32):pD (W A) (s:Int)=some (W (A*2 ^ s),((A % 4294967296 ^ 16*2 ^ s / 4294967296 ^ 16:Nat):Int)):=by
 have LT:2 ^ s≤2 ^ 31:=gX (by decide) (by omega)
 have hs3:0<2 ^ s:=bO (by decide)
 have hl:=rR (b:=mi (W A) (s:Int)) (s0:=((0:Int),(0:Int),ee)) (fun k=>((A % 4294967296 ^ k*2 ^ s / 4294967296 ^ k:Nat),(k:Int),vN 4294967296 16 (A*2 ^ s % 4294967296 ^ k))) 16 ((A % 4294967296 ^ 16*2 ^ s / 4294967296 ^ 16:Nat),vN 4294967296 16 (A*2 ^ s % 4294967296 ^ 16))
  (by simp only[f4,m9,sR,gL,Nat.zero_div];rfl)
  (fun k hk=>by
   have hc:=Bw (b:=4294967296) (A:=A) (k:=k) (m:=2 ^ s) (by decide) hs3
   obtain⟨h1,h2⟩:=G6 (b:=4294967296) (A:=A) (k:=k) (m:=2 ^ s) (by decide)
   have ha:=@dgl A k
   have hm:dg 4294967296 A k*2 ^ s≤4294967295*2 ^ s:=cK _ (by omega)
   generalize A % 4294967296 ^ k*2 ^ s / 4294967296 ^ k=c at h1 h2 hc ⊢
   generalize A % 4294967296 ^ (k+1)*2 ^ s / 4294967296 ^ (k+1)=c' at h2 ⊢
   dsimp only[mi]
   rw[cy _ _,aB,aB,ab,aB,bW,gN hk,iu,SC _ _ (by omega) (by omega),SD,ior_n hc (by omega),yf,Ba,bY,qw _ c,h1,h2,C9 (by decide) hk]
   rfl)
  (by
   dsimp only[mi]
   rw[ci _ _])
 have hc:A % 4294967296 ^ 16*2 ^ s / 4294967296 ^ 16<2 ^ s:=Bw (by decide) hs3
 unfold pD
 rw[hl,ab,HX (by decide)]
 dsimp only
 rw[A9]
theorem G_down {A s:Nat}(hA:A<4294967296 ^ 16)(hs:s<32):oy (W A) (s:Int)=some (W (A / 2 ^ s)):=by
 have LT:2 ^ s≤2 ^ 31:=gX (by decide) (by omega)
 have hs3:0<2 ^ s:=bO (by decide)
 have hl:=rR (b:=lq (W A) (s:Int)) (s0:=((0:Int),ee)) (fun k=>((k:Int),vN 4294967296 16 (A / 2 ^ s % 4294967296 ^ k))) 16 (vN 4294967296 16 (A / 2 ^ s % 4294967296 ^ 16))
  (by simp only[f4,m9,sR];rfl)
  (fun k hk=>by
   have ha:=@dgl A k
   have ha1:=@dgl A (k+1)
   have hd:(dg 4294967296 A (k+1)*4294967296+dg 4294967296 A k) / 2 ^ s % 4294967296=dg 4294967296 (A / 2 ^ s) k:=by
    have e1:dg 4294967296 (A / 2 ^ s) k=A / 4294967296 ^ k / 2 ^ s % 4294967296:=by
     unfold dg;rw[gY,bx,←gY]
    have e2:A / 4294967296 ^ k=(dg 4294967296 A (k+1)*4294967296+dg 4294967296 A k)+2 ^ s*(4294967296*(2 ^ (32 - s)*(A / 4294967296 ^ (k+2)))):=by
     have e3:=cw (b:=4294967296) (A:=A) (k:=k)
     have e4:=cw (b:=4294967296) (A:=A) (k:=k+1)
     have e5:2 ^ s*(4294967296*(2 ^ (32 - s)*(A / 4294967296 ^ (k+2))))=2 ^ s*2 ^ (32 - s)*4294967296*(A / 4294967296 ^ (k+2)):=by
      simp only[e7,xa]
     rw[e5,←ie,show s+(32 - s)=32 from by omega,e3,e4,show k+1+1=k+2 from rfl,show (2:Nat) ^ 32=4294967296 from rfl]
     generalize A / 4294967296 ^ (k+2)=q
     generalize dg 4294967296 A (k+1)=d1
     generalize dg 4294967296 A k=d0
     omega
    rw[e1,e2,zy _ _ hs3,Ca]
   dsimp only[lq]
   rw[cy _ _]
   have Cu:(bnd (S:=Int) (cnd (decide ((i64.wrap ((k:Int)+(1:Int)))<(16:Int))) (gd (0≤i64.wrap ((k:Int)+(1:Int))∧i64.wrap ((k:Int)+(1:Int))<16) (bnd (some (u64.wrap ((W A)[(i64.wrap ((k:Int)+(1:Int))).toNat]!))) fun x5=>some (x5))) (some ((0:Int)))) (fun a=>some a))=some ((dg 4294967296 A (k+1):Nat):Int):=by
    rw[bY]
    by_cases Ti:k+1<16
    ·rw[cy _ _,aB,ab,show ((k:Int)+1).toNat=k+1 from by omega,gN Ti,iu,ab]
    ·rw[ci _ _,ab,l5 (bH hA (gX (by decide) (by omega)))]
     rfl
   rw[uX] at Cu
   rw[Cu,ab,aB,aB,aB,ab,bW,gN hk,iu,Ki ha1,KA ha ha1,BE .u64 _ _ (by show s≤64;omega),Ba,hd,C9 (by decide) hk,bY]
   rfl)
  (by
   dsimp only[lq]
   rw[ci _ _])
 unfold oy
 rw[hl,ab,HX (by decide)]
theorem G_short {A d:Nat}(hA:A<4294967296 ^ 16)(hd:0<d)(yo:d<4294967296):nj (W A) (d:Int)=some (W (A / d),((A % d:Nat):Int)):=by
 have hl:=Ss (b:=j4 (W A) (d:Int)) (s0:=((0:Int),(15:Int),ee)) (fun k=>((A / 4294967296 ^ k % d:Nat),(k:Int) - 1,vN 4294967296 16 (A / d / 4294967296 ^ k*4294967296 ^ k))) 16 ((A / 4294967296 ^ 0 % d:Nat),vN 4294967296 16 (A / d / 4294967296 ^ 0*4294967296 ^ 0))
  (by
   have h1:A / d<4294967296 ^ 16:=dq (oQ _ _) hA
   simp only[eC hA,eC h1,gL,sR,Nat.zero_mod];rfl)
  (fun k hk=>by
   have ha:=@dgl A k
   have hq:=@dgl (A / d) k
   obtain⟨h1,h2⟩:=yT (b:=4294967296) (A:=A) (k:=k) (d:=d) (by decide) hd
   have hr:A / 4294967296 ^ (k+1) % d<d:=ej _ hd
   generalize A / 4294967296 ^ (k+1) % d=r at h1 h2 hr ⊢
   generalize A / 4294967296 ^ k % d=r' at h2 ⊢
   have ed:u64.wrap (d:Int)=(d:Int):=iu
   dsimp only[j4]
   rw[cy _ _,aB,ab,ed,aB,aB,ab,aB,show (((k+1:Nat):Int) - 1).toNat=k from by omega,gN hk,iu,Ki (by omega),KA ha (by omega),←tI,←tH,h1,h2,iu,A9 hq,Oa (by decide) hk,bY]
   congr 4
   omega)
  (by
   dsimp only[j4]
   rw[ci _ _])
 rw[f4,m8,m8,yz] at hl
 have hr:A % d<d:=ej _ hd
 unfold nj
 rw[hl,ab]
 dsimp only
 rw[A9]
end
def LIM:Nat:=4294967296 ^ 16
theorem Fx:LIM=4294967296 ^ 16:=rfl
theorem xN:0<LIM:=by decide
theorem W_zero:W 0=ee:=sR
theorem z16:(#v[(0:Int),0,0,0,0,0,0,0,0,0,0,0,0,0,0,0]:Vector Int 16)=W 0:=by
 rw[W_zero];rfl
theorem r16:ee=W 0:=sR.symm
theorem Fj {A B:Nat}(hA:A<LIM)(hB:B<LIM):W A=W B↔A=B:=⟨vN_inj hA hB,fun h=>by rw[h]⟩
def Ii(A B:Nat):Int:=if A<B then -1 else if B<A then 1 else 0
theorem G_cmp(x y:Int):gD x y=some (if x<y then -1 else if y<x then 1 else 0):=by
 have hn:∀z:Int,fZ z=some false:=fun z=>by unfold fZ;simp
 unfold gD
 rw[hn,hn,ab,ab,aF,aF,fH,fH]
 split
 ·rfl
 ·split <;> rfl
theorem Cr {A B k:Nat}(he:A / 4294967296 ^ (k+1)=B / 4294967296 ^ (k+1))(h:dg 4294967296 A k<dg 4294967296 B k):A<B:=by
 have e1:=cw (b:=4294967296) (A:=A) (k:=k)
 have e2:=cw (b:=4294967296) (A:=B) (k:=k)
 have h1:A / 4294967296 ^ k<B / 4294967296 ^ k:=by
  rw[e1,e2,he];exact E8 h _
 rcases dX A B with h2|h2
 ·exact h2
 ·exact absurd (NG h2) (Nat.not_le.2 h1)
theorem Dv {A B:Nat}(hA:A<LIM)(hB:B<LIM):ii (W A) (W B)=some (Ii A B):=by
 rw[Fx] at hA hB
 obtain⟨x,hl,hx⟩:=vE (b:=j6 (W A) (W B)) (fun s=>∃k:Nat,s=(k:Int) - 1∧k≤16∧A / 4294967296 ^ k=B / 4294967296 ^ k) (fun s=>(s+1).toNat) (fun x=>match x with| .inl r=>r=Ii A B| .inr _=>A=B)
  (by
   rintro s ⟨k,rfl,hk,he⟩
   cases k with
   |zero=>
    right
    refine⟨(Sum.inr ():Int⊕Unit),?_,?_⟩
    ·dsimp only[j6]
     rw[ci _ _]
    ·simpa using he
   |succ k=>
    have wd:k<16:=by omega
    have e:((k+1:Nat):Int) - 1=(k:Int):=by omega
    rw[e]
    dsimp only[j6]
    rw[cy _ _,aB,aB,bW,gN wd,gN wd]
    by_cases hd:dg 4294967296 A k=dg 4294967296 B k
    ·left
     refine⟨(k:Int) - 1,?_,⟨k,rfl,by omega,?_⟩,by omega⟩
     ·rw[ci _ _ (by rw[hd];simp),bY]
     ·rw[cw (b:=4294967296) (A:=A) (k:=k),cw (b:=4294967296) (A:=B) (k:=k),he,hd]
    ·right
     refine⟨(Sum.inl (Ii A B):Int⊕Unit),?_,rfl⟩
     rw[cy _ _,aB,aB,G_cmp,ab]
     congr 3
     unfold Ii
     rcases Nat.lt_or_gt_of_ne hd with h|h
     ·have:=Cr he h
      rw[ai (by omega),ai this]
     ·have:=Cr he.symm h
      rw[ah (by omega),ai (by omega),ah (by omega),ai this]) (15:Int) ⟨16,rfl,ax _,by rw[eC hA,eC hB]⟩
 unfold ii
 rw[hl,ab]
 cases x with
 |inl r=>obtain rfl:r=_:=hx;rfl
 |inr u=>
  obtain rfl:A=B:=hx
  unfold Ii
  simp
def szp(b A n:Nat):Prop:=A<b ^ n∧(0<n→b ^ (n - 1)≤A)
theorem RD {b A n m:Nat}(hb:0<b)(h:szp b A n)(h':szp b A m):n=m:=by
 have key:∀{n m:Nat},szp b A n→szp b A m→m≤n:=by
  intro n m h h'
  rcases dX n m with h1|h1
  ·have h2:=h'.2 (by omega)
   have h3:b ^ n≤b ^ (m - 1):=gX hb (by omega)
   have:=h.1
   omega
  ·exact h1
 have:=key h h'
 have:=key h' h
 omega
theorem Mb {b A n k:Nat}(hb:0<b)(h:szp b A n)(hA:A<b ^ k):n≤k:=by
 rcases dX k n with h1|h1
 ·have h2:=h.2 (by omega)
  have h3:b ^ k≤b ^ (n - 1):=gX hb (by omega)
  omega
 ·exact h1
theorem Cg {A:Nat}(hA:A<LIM):∃n:Nat,n≤16∧eK (W A)=some (n:Int)∧szp 4294967296 A n:=by
 rw[Fx] at hA
 obtain⟨x,hl,n,rfl,hn,hs⟩:=vE (b:=ln (W A)) (fun s=>∃n:Nat,s=(n:Int)∧n≤16∧A<4294967296 ^ n) (fun s=>s.toNat) (fun x=>∃n:Nat,x=(n:Int)∧n≤16∧szp 4294967296 A n)
  (by
   rintro s ⟨n,rfl,hn,bI⟩
   cases n with
   |zero=>
    right
    refine⟨_,?_,0,rfl,by omega,bI,fun h=>by omega⟩
    dsimp only[ln]
    rw[ci _ _,ab,aF]
   |succ k=>
    have hk:k<16:=by omega
    have e:i64.wrap (((k+1:Nat):Int) - 1)=(k:Int):=by rw[bY];omega
    dsimp only[ln]
    rw[cy _ _,e,aB,ab,bW,gN hk,fH]
    by_cases hd:dg 4294967296 A k=0
    ·left
     refine⟨(k:Int),by rw[ai (by omega)],⟨k,rfl,by omega,?_⟩,by omega⟩
     unfold dg at hd
     have h1:A / 4294967296 ^ k<4294967296:=by
      rw[lR (bO (by decide)),bx,←cz];exact bI
     rw[ep h1] at hd
     exact (Ji (bO (by decide))).1 hd
    ·right
     refine⟨_,by rw[ah (by omega)],k+1,rfl,hn,bI,fun _=>?_⟩
     rcases dX A (4294967296 ^ k) with h|h
     ·exact absurd (l5 h) hd
     ·exact h) (16:Int) ⟨16,rfl,ax _,hA⟩
 refine⟨n,hn,?_,hs⟩
 unfold eK
 rw[hl,ab]
def BU:ao:=⟨true,false,W 0⟩
def enc(z:Int):ao:=if z.natAbs<LIM then⟨false,decide (z<0),W z.natAbs⟩ else BU
theorem r4 {z:Int}(h:z.natAbs<LIM):enc z=⟨false,decide (z<0),W z.natAbs⟩:=ai h
theorem Ey {z:Int}(h:¬z.natAbs<LIM):enc z=BU:=ah h
def dU(x:ao):Bool:=!x.vBad&&(!decide (x.vW=W 0)||!x.vNeg)
def okI(x:ao):Prop:=∀j:Nat,j<16→0≤x.vW[j]!∧x.vW[j]! <4294967296
theorem De(z:Int):okI (enc z):=by
 have key:∀(A j:Nat),j<16→0≤(W A)[j]!∧(W A)[j]! <4294967296:=fun A j hj=>by
  rw[gN hj];have:=@dgl A j;omega
 unfold enc
 split
 ·exact key _
 ·exact key 0
theorem bf {z:Int}(h:z.natAbs<LIM):dU (enc z)=true:=by
 rw[r4 h]
 unfold dU
 dsimp only
 by_cases hz:z=0
 ·subst hz;simp
 ·have:¬W z.natAbs=W 0:=fun e=>hz (by have:=(Fj h xN).1 e;omega)
  simp[this]
theorem As {x:ao}(h:okI x)(hg:dU x=true):∃z:Int,z.natAbs<LIM∧x=enc z:=by
 obtain⟨A,hA,hv⟩:=vN_of (b:=4294967296) (n:=16) (by decide) x.vW (fun j hj=>h j hj)
 obtain⟨bad,neg,w⟩:=x
 dsimp only at hv
 subst hv
 unfold dU at hg
 simp only[b8,Jm,Cb,decide_eq_false_iff_not] at hg
 obtain⟨rfl,hg⟩:=hg
 have OZ:A<LIM:=hA
 cases neg with
 |false=>
  refine⟨(A:Int),OZ,?_⟩
  rw[r4 (by simpa using OZ)]
  simp
 |true=>
  refine⟨-(A:Int),by simpa using OZ,?_⟩
  have h0:A≠0:=by
   rintro rfl
   rcases hg with h|h
   ·exact h rfl
   ·cases h
  rw[r4 (by simpa using OZ)]
  have:-(A:Int)<0:=by omega
  simp[this,zx h0]
theorem BL:dU BU=false:=rfl
theorem Aw {z y:Int}(hz:z.natAbs<LIM)(hy:y.natAbs<LIM)(h:enc z=enc y):z=y:=by
 rw[r4 hz,r4 hy] at h
 simp only[ao.mk.injEq,true_and] at h
 obtain⟨h1,h2⟩:=h
 have h3:=(Fj hz hy).1 h2
 have h4:=li.1 h1
 omega
theorem T4 {A:Nat}(hA:A<LIM)(neg:Bool):(⟨false,neg&&!decide (A=0),W A⟩:ao)=enc (bif neg then -(A:Int) else A):=by
 cases neg with
 |false=>rw[r4 (by simpa using hA)];simp
 |true=>
  rw[r4 (by simpa using hA)]
  simp only[B9,kA,Int.natAbs_neg,dT,ao.mk.injEq,true_and,and_true]
  by_cases h:A=0
  ·subst h;simp
  ·have:-(A:Int)<0:=by omega
   simp[h,this,zx h]
theorem PA(x:ao):lI x=some (if x.vBad then decide (x.vW=W 0)&&!x.vNeg else !decide (x.vW=W 0)||!x.vNeg):=by
 unfold lI
 rw[ab,z16]
 cases x.vBad <;> cases decide (x.vW=W 0) <;> rfl
theorem VD {l:List ao}(hl:l.length<1000000):cv l=some (l.all dU):=by
 obtain⟨x,h1,hx⟩:=vE (b:=nG l) (fun s=>∃n:Nat,s=(n:Int)∧n≤l.length∧(l.take n).all dU=true) (fun s=>l.length - s.toNat) (fun x=>match x with| .inl r=>r=false∧l.all dU=false| .inr _=>l.all dU=true)
  (by
   rintro s ⟨n,rfl,hn,ha⟩
   dsimp only[nG]
   by_cases bI:n<l.length
   ·rw[cy _ _,aB,bW,PA,ab]
    have hg:cnd (l[n]!.vBad) (some true) (some (!(if l[n]!.vBad then decide (l[n]!.vW=W 0)&&!l[n]!.vNeg else !decide (l[n]!.vW=W 0)||!l[n]!.vNeg)))=some (!dU l[n]!):=by
     unfold dU
     cases l[n]!.vBad <;> rfl
    rw[hg,ab]
    have Ed:(l.take (n+1)).all dU=((l.take n).all dU&&dU l[n]!):=by
     rw[bL l n bI,List.take_succ_eq_append_getElem bI,lE]
     simp
    cases hgb:dU l[n]! with
    |true=>
     left
     refine⟨((n+1:Nat):Int),?_,⟨n+1,rfl,bI,by rw[Ed,ha,hgb];rfl⟩,by omega⟩
     rw[cG,aF,bY]
     rfl
    |false=>
     right
     refine⟨_,rfl,rfl,?_⟩
     rw[←tL (n+1) l,lE,Ed,hgb]
     simp
   ·right
    refine⟨_,by rw[ci _ _],?_⟩
    rw[g9 (by omega)] at ha
    exact ha) (0:Int) ⟨0,rfl,cr _,by simp⟩
 unfold cv
 rw[h1,ab]
 cases x with
 |inl r=>obtain⟨rfl,h2⟩:=hx;rw[h2]
 |inr u=>rw[show l.all dU=true from hx]
theorem jG {A:Nat}(hA:A<LIM)(neg:Bool):bG neg (W A)=some (enc (bif neg then -(A:Int) else A)):=by
 unfold bG
 rw[z16,←T4 hA]
 cases neg with
 |true=>
  rw[fO,ab]
  simp only[ab,Fj hA xN,B9,Lp]
 |false=>rfl
theorem HO:d9=some BU:=by unfold d9;rw[r16];rfl
theorem all2g(x y:ao):([x,y].all dU)=(dU x&&dU y):=by simp
theorem all1g(x:ao):([x].all dU)=dU x:=by simp
theorem vn(x y:ao):cv [x,y]=some (dU x&&dU y):=by rw[VD (by simp),all2g]
theorem tq(x:ao):cv [x]=some (dU x):=by rw[VD (by simp),all1g]
theorem lZ {z:Int}(h:z.natAbs<LIM):(enc z).vW=W z.natAbs:=by rw[r4 h]
theorem jT {z:Int}(h:z.natAbs<LIM):(enc z).vNeg=decide (z<0):=by rw[r4 h]
theorem G_Add {a c:Int}(ha:a.natAbs<LIM)(hc:c.natAbs<LIM):js (enc a) (enc c)=some (enc (a+c)):=by
 unfold js
 rw[vn,bf ha,bf hc,ab]
 simp only[eI,cG,aF,lZ ha,lZ hc,jT ha,jT hc]
 rw[G_plus (by rw[←Fx];exact ha) (by rw[←Fx];exact hc),ab,Dv ha hc,ab,←Fx]
 dsimp only
 by_cases hs:decide (a<0)=decide (c<0)
 ·have KF:=li.1 hs
  rw[hs,E7,fO]
  by_cases bI:a.natAbs+c.natAbs<LIM
  ·rw[aA bI,cG,aF,jG bI,ab]
   congr 2
   by_cases h:c<0
   ·simp only[h,sn,kA];omega
   ·simp only[h,si,cond_false];omega
  ·rw[a8 bI,qM,fO,HO,ab,Ey (by omega)]
 ·have KF:¬((a<0)↔(c<0)):=fun h=>hs (li.2 h)
  have hb:(decide (a<0) == decide (c<0))=false:=Lt.2 hs
  rw[hb,aF]
  unfold Ii
  by_cases h1:a.natAbs<c.natAbs
  ·rw[ai h1,ci _ _,JC (mw h1),ab,jG (by omega),ab]
   congr 2
   by_cases h:c<0
   ·simp only[h,sn,kA];omega
   ·simp only[h,si,cond_false];omega
  ·have h2:(0:Int)≤(if a.natAbs<c.natAbs then -1 else if c.natAbs<a.natAbs then 1 else 0):=by
    rw[ah h1];split <;> omega
   rw[cy _ _ h2,JC (by omega),ab,jG (by omega),ab]
   congr 2
   by_cases h:a<0
   ·simp only[h,sn,kA];omega
   ·simp only[h,si,cond_false];omega
theorem Q4 {x y:ao}(h:(dU x&&dU y)=false):js x y=some BU:=by
 unfold js
 rw[vn,h,ab,qM,fO,HO,ab]
theorem PC {a:Int}(ha:a.natAbs<LIM):fk (enc a)=some (enc (-a)):=by
 unfold fk
 rw[tq,bf ha,ab,cG,aF,lZ ha,jT ha,jG ha,ab]
 congr 2
 by_cases h:a<0
 ·simp only[h,sn,cG,cond_false];omega
 ·simp only[h,si,qM,kA];omega
theorem Q3 {x:ao}(h:dU x=false):fk x=some BU:=by
 unfold fk
 rw[tq,h,ab,qM,fO,HO,ab]
theorem G_Sub {a c:Int}(ha:a.natAbs<LIM)(hc:c.natAbs<LIM):nV (enc a) (enc c)=some (enc (a - c)):=by
 unfold nV
 rw[PC hc,ab,G_Add ha (by omega),ab]
 rfl
theorem xo {a:Int}(ha:a.natAbs<LIM):fe (enc a)=some a.sign:=by
 unfold fe
 rw[tq,bf ha,ab,cG,aF,ab,lZ ha,jT ha,z16]
 simp only[Fj ha xN]
 rcases w9 a 0 with h|h|h
 ·rw[ci _ _,cy _ _ h,w8 h]
 ·subst h;rfl
 ·rw[ci _ _,ci _ _,sh h]
end
end Go.Proofs.YtaedcknhkjpmlaaGreat
