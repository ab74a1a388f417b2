/-
Lemmas. Conditions: none.
-/
import Derived.Test.YtaedcknhkjpmlaaGreatL1
import Derived.Laws.MakeOwn
import Derived.Laws.CopyRow
import Derived.Test.YtaedcknhkjpmlaaGreatProg
set_option linter.all false
set_option maxRecDepth 100000
set_option maxHeartbeats 4000000
namespace Go.Proofs.YtaedcknhkjpmlaaGreat
open Go.RowKit Go.IntKind Tryz
noncomputable section
section
def dC(es:List E):List D:=es.map D.e
theorem Uy(σ:Nat→Nat)(es:List E):(dC es).map (D.renC σ)=dC es:=by
 unfold dC;rw[qQ];exact sR fun _ _=>rfl
theorem eH(es:List E):(dC es).length=es.length:=bg _
theorem Ja {p:D→Bool}(h:∀e,p (.e e)=true)(es:List E):(dC es).all p=true:=by
 unfold dC;rw[LH];exact a7.2 fun e _=>h e
structure b9 {β:Type}(F:List E)(c':Cd β)(o:Nat)(b:β)(F':β→List E):Prop where
 le:o+c'.sz≤F.length
 g:(F.drop o).take c'.sz=c'.f b
 p:∀y,F.take o++c'.f y++F.drop (o+c'.sz)=F' y
section
variable {α β γ:Type} {F:List E}
theorem b9.id(c:Cd α)(x:α):b9 (c.f x) c 0 x c.f:=
 ⟨by rw[c.h];omega,by rw[rp,ii (by rw[c.h];exact az _)],fun y=>by rw[Fb,bw,Db (by rw[c.h];exact az _),nR,tG]⟩
theorem b9.comp {c1:Cd α}{c2:Cd β}{o1 o2:Nat}{b1:α}{b2:β}{F1:α→List E}{P2:β→List E}{P:β→α}(h1:b9 F c1 o1 b1 F1)(h2:b9 (c1.f b1) c2 o2 b2 P2)(hp:∀y,P2 y=c1.f (P y)):b9 F c2 (o1+o2) b2 (fun y=>F1 (P y)):=by
 have l1:=h1.le
 have l2:=h2.le
 rw[c1.h] at l2
 refine⟨by omega,?_,fun y=>?_⟩
 ·rw[←h2.g,←h1.g,←nG,LK,HI,tE (by omega)]
 ·rw[←h1.p (P y),←hp y,←h2.p y,←h1.g,HI,tE (by omega),List.take_add]
  have e:((F.drop o1).take c1.sz).drop (o2+c2.sz)++F.drop (o1+c1.sz)=F.drop (o1+o2+c2.sz):=by
   have e1:F.drop (o1+c1.sz)=(F.drop o1).drop c1.sz:=(nG ..).symm
   rw[e1,←JD (by rw[eu,fh];omega),t4,nG,xE]
  rw[←e]
  simp only[dh]
theorem b9.of {c':Cd β}{o:Nat}{b:β}{F':β→List E}(A C:List E)(hA:A.length=o)(hF:F=A++(c'.f b++C))(hp:∀y,F' y=A++(c'.f y++C)):b9 F c' o b F':=by
 subst hA hF
 refine⟨by simp[c'.h],?_,fun y=>?_⟩
 ·rw[t3,t0 (by rw[c'.h];exact az _),ii (by rw[c'.h];exact az _)]
 ·rw[hp,wr,←nG,t3,←c'.h b,t3,dh]
theorem b9.seq [Inhabited α](c:Cd α)(l:List α)(i:Nat)(h:i<l.length):b9 (l.flatMap c.f) c (i*c.sz) l[i]! (fun y=>(l.set i y).flatMap c.f):=by
 have hl:(l.flatMap c.f).length=l.length*c.sz:=iB c.f c.h l
 have hm:(i+1)*c.sz≤l.length*c.sz:=cz _ h
 rw[bP,fk] at hm
 refine⟨by rw[hl];exact hm,?_,fun y=>?_⟩
 ·have:=kE c.f c.h (l.drop i) 1
  rw[fk] at this
  rw[ox c.f c.h,this,FA h,bT l i h,N6,Fb,n9,List.flatMap_nil,tG]
 ·rw[kE c.f c.h,show i*c.sz+c.sz=(i+1)*c.sz by rw[bP,fk],ox c.f c.h,Vc,ah h,JC,n9,dh]
theorem Ap [Inhabited α]{n:Nat}(v:Vector α n){i:Nat}(h:i<n):v.toList[i]! =v[i]! :=by
 rw[bT v.toList i (by rw[n8];exact h),bT v i h,Vector.getElem_toList]
theorem vec_set {n:Nat}(v:Vector α n)(i:Nat)(y:α):(v.set! i y).toList=v.toList.set i y:=by
 show (v.setIfInBounds i y).toList=_
 exact Vector.toList_setIfInBounds ..
theorem b9.vec [Inhabited α]{n:Nat}(c:Cd α)(v:Vector α n)(i:Nat)(h:i<n):b9 ((cA n c).f v) c (i*c.sz) v[i]! (fun y=>(cA n c).f (v.set! i y)):=by
 have:=b9.seq c v.toList i (by rw[n8];exact h)
 rw[Ap v h] at this
 refine⟨this.le,this.g,fun y=>?_⟩
 rw[show (cA n c).f (v.set! i y)=(v.set! i y).toList.flatMap c.f from rfl,vec_set]
 exact this.p y
end
section
variable {P:Program} {tb:TypeId→Option TyE} {dr:Bool} {ty:TypeId} {ev:Operand→D} {x y:Operand} {vs:List (Nat×List D)} {lv:List (Nat×Nat×Nat×TypeId)} {N k o:Nat} {F:List E} {β:Type} {c':Cd β} {b:β} {F':β→List E} {t:TypeId} {i:TyE}
theorem Bm(L:b9 F c' o b F')(ht:tb t=some i)(hg:i.ty.agg=true:=by exact rfl)(hz:c'.sz=i.size:=by exact rfl)(hx:ev x=.pt k o:=by exact rfl)(hv:vs.lookup k=some (dC F):=by exact rfl)(hk:Nat.ble (k+1) N=true:=by exact rfl):AVC P tb dr (.load t x) ty ev ⟨vs,lv,N⟩ (Kq (dG c' b) ⟨vs,lv,N⟩):=by
 rw[rF,hx,oX,ht,hv]
 simp only[hg]
 refine⟨bb hk,by rw[eH,←hz];exact L.le,?_⟩
 have:((dC F).drop o).take i.size=(c'.f b).map D.e:=by
  unfold dC
  rw[←xD,←vP,←hz,L.g]
 rw[this]
 exact Kq.here _ _
theorem xI {e:E}(L:b9 F c' o b F')(ht:tb t=some i)(he:c'.f b=[e]:=by exact rfl)(hg:i.ty.agg=false:=by exact rfl)(hx:ev x=.pt k o:=by exact rfl)(hv:vs.lookup k=some (dC F):=by exact rfl)(hk:Nat.ble (k+1) N=true:=by exact rfl):AVC P tb dr (.load t x) ty ev ⟨vs,lv,N⟩ (Kq (.e e) ⟨vs,lv,N⟩):=by
 have hs:c'.sz=1:=by rw[←c'.h b,he];rfl
 have EN:=L.g
 have hle:=L.le
 rw[hs] at EN hle
 rw[he] at EN
 rw[rF,hx,oX,ht,hv]
 simp only[hg]
 refine⟨bb hk,.e e,?_,Kq.here _ _⟩
 unfold dC
 rw[dW]
 have:F[o]? =some e:=by
  have h0:(F.drop o)[0]? =F[o]? :=by rw[nQ,iT]
  have h1:((F.drop o).take 1)[0]? =(F.drop o)[0]? :=by rw[gU];rfl
  rw[←h0,←h1,EN]
  rfl
 rw[this];rfl
theorem zd {b':β}(L:b9 F c' o b F')(ht:tb t=some i)(hy:(ev y).cells=some (dC (c'.f b')):=by exact rfl)(hz:c'.sz=i.size:=by exact rfl)(hx:ev x=.pt k o:=by exact rfl)(hv:vs.lookup k=some (dC F):=by exact rfl):AVC P tb dr (.store t x y) ty ev ⟨vs,lv,N⟩ (Kq .top ⟨(k,dC (F' b'))::vs,lv,N⟩):=by
 rw[E9,hx,BG,ht,hv,hy]
 have hl:(dC (c'.f b')).length=i.size:=by rw[eH,c'.h,hz]
 refine⟨hl,by rw[eH,←hz];exact L.le,?_⟩
 have:(dC F).take o++dC (c'.f b')++(dC F).drop (o+(dC (c'.f b')).length)=dC (F' b'):=by
  rw[hl,←hz,←L.p b']
  unfold dC
  simp only[iZ,vP,xD]
 rw[this]
 exact Kq.here _ _
theorem oa {b':β}{γ:Type}{c:Cd γ}{nw nm:γ}(L:b9 F c' o b F')(ht:tb t=some i)(Ru:nw=nm)(hF:F' b'=c.f nw:=by exact rfl)(hy:(ev y).cells=some (dC (c'.f b')):=by exact rfl)(hz:c'.sz=i.size:=by exact rfl)(hx:ev x=.pt k o:=by exact rfl)(hv:vs.lookup k=some (dC F):=by exact rfl):AVC P tb dr (.store t x y) ty ev ⟨vs,lv,N⟩ (Kq .top ⟨(k,dC (c.f nm))::vs,lv,N⟩):=by
 have:=zd (P:=P) (dr:=dr) (ty:=ty) (lv:=lv) (N:=N) L ht hy hz hx hv
 rw[hF,Ru] at this
 exact this
theorem zf(ht:tb t=some i)(hz:i.zero.map E.lit=F:=by kernel_rfl):AVC P tb dr (.alloc t) ty ev ⟨vs,lv,N⟩ (Kq (.pt N 0) ⟨(N,dC F)::vs,lv,N+1⟩):=by
 subst hz
 have:=m9 (P:=P) (dr:=dr) (ty:=ty) (ev:=ev) (vs:=vs) (lv:=lv) (N0:=N) ht
 unfold dC
 rw[qQ]
 exact this
theorem Vw(h:(ev x).cells=some (dC F):=by exact rfl):AVC P tb dr (.box t x) ty ev ⟨vs,lv,N⟩ (Kq (.pt N 0) ⟨(N,dC F)::vs,lv,N+1⟩):=fQ h
variable {hp:Hp} {j:TyE} {e:TypeId} {n:Nat} {kn:IntKind} {v:Int}
variable {s tt:TypeId} {fi:Nat} {fs:List (Nat×TypeId)}
inductive FL (tb:TypeId→Option TyE) (fs:List (Nat×TypeId)):List E→List (Nat×List D)→List E→Prop
 |nil (F:List E):FL tb fs F [] F
 |cons {γ:Type} {c:Cd γ} {F F2:List E} {o i:Nat} {b y:γ} {F':γ→List E} {rest:List (Nat×List D)} {cs:List D} (L:b9 F c o b F') (hp:oV tb fs i=some (o,c.sz)) (hc:cs=dC (c.f y)) (h:FL tb fs (F' y) rest F2):FL tb fs F ((i,cs)::rest) F2
theorem FL.fill {F F2:List E}{qs:List (Nat×List D)}(h:FL tb fs F qs F2):gp (oV tb fs) (dC F) qs=some (dC F2):=by
 induction h with
 |nil F=>rfl
 |cons L hp hc h ih=>
  rename_i c F F2 o i b y F' rest cs
  subst hc
  unfold gp
  rw[hp]
  dsimp only
  have hl:(dC (c.f y)).length=c.sz:=by rw[eH,c.h]
  rw[ai (by rw[hl,eH];have:=L.le;omega),hl,←ih]
  congr 1
  rw[←L.p y]
  unfold dC
  simp only[iZ,vP,xD]
theorem ij {ps:List (Nat×Operand)}{qs:List (Nat×List D)}{F2:List E}(h:FL tb fs F qs F2)(ht:tb t=some i)(h0:i.zero.map E.lit=F:=by kernel_rfl)(hi:i.ty=.struct fs:=by exact rfl)(ha:(fs.all fun f=>(tb f.2).isSome)=true:=by exact rfl)(jP:my (ps.map fun p=>(p.1,ev p.2))=some qs:=by exact rfl):AVC P tb dr (.build t ps.toArray) ty ev hp (Kq (.ag (dC F2)) hp):=by
 subst h0
 rw[xr,uD,ht,jP]
 simp only[hi]
 have:(i.zero.map fun v=>D.e (.lit v))=dC (i.zero.map E.lit):=by unfold dC;rw[qQ];rfl
 rw[this,h.fill]
 exact⟨fun f hf=>(a7.1 ha) f hf,Kq.here _ _⟩
theorem vC {σ:Nat→Nat}{m:Nat}{l:List (Nat×List D)}{F:List E}(h1:vs.lookup (σ k)=some (dC F))(hl:wkV σ m vs l)(h0:Nat.ble (k+1) m=true:=by exact rfl):wkV σ m vs ((k,dC F)::l):=
 ⟨⟨ltb h0,⟨_,h1,by rw[Uy];exact rM _⟩,Ja (fun _=>rfl) _,Ja (fun _=>rfl) _⟩,hl⟩
def rnV(ρ:Nat→Nat):List (Nat×List D)→List (Nat×List D)→Prop
 |[],[]=>True
 |p::l,q::l'=>(ρ p.1=q.1∧p.2.map (D.renC ρ)=q.2∧p.2.all D.okC=true)∧rnV ρ l l'
 |_,_=>False
theorem rnV.map {ρ:Nat→Nat}:∀{l l':List (Nat×List D)},rnV ρ l l'→l.map (fun p=>(ρ p.1,p.2.map (D.renC ρ)))=l'∧(l.all fun p=>p.2.all D.okC)=true
 |[],[],_=>⟨rfl,rfl⟩
 |p::l,q::l',h=>by
  obtain⟨h1,h2⟩:=rnV.map h.2
  obtain⟨a,b,c⟩:=h.1
  refine⟨?_,by rw[gh,c,h2];rfl⟩
  rw[iX,h1,a,b]
 |[],_::_,h=>h.elim
 |_::_,[],h=>h.elim
theorem rvN {ρ:Nat→Nat}:rnV ρ [] []:=trivial
theorem rvC {ρ:Nat→Nat}{k k2:Nat}{F:List E}{l l':List (Nat×List D)}(h:rnV ρ l l')(hk:ρ k=k2:=by exact rfl):rnV ρ ((k,dC F)::l) ((k2,dC F)::l'):=⟨⟨hk,Uy _ _,Ja (fun _=>rfl) _⟩,h⟩
theorem JI {x:Operand}{f:FuncId}{aS:List Operand}{ts:Array TypeId}{Pr:List D}{r r':D}{F7 oH vs P8 vs2:List (Nat×List D)}{F8 s8 lv F9:List (Nat×Nat×Nat×TypeId)}{m n' N N2:Nat}(os:List Nat)
  (AQ:ev x=.e (.lit (.func (.func f) #[] #[]))) (hc:HC P f Pr ⟨F7,F8,m⟩ r ⟨oH,s8,n'⟩) (ha:frA (fun i=>os.getD i 0) m (aS.map ev) Pr) (hv:wkV (fun i=>os.getD i 0) m vs F7) (hl:wkL (fun i=>os.getD i 0) m lv F8) (hrn:rnV (rn os m N) oH P8)
  (qu:r.ren (rn os m N)=r') (hr:r.okF=true) (hos:os.length=m:=by exact rfl) (AP:os.Nodup:=by decide) (bO:(os.all fun o=>Nat.ble (o+1) N)=true:=by exact rfl)
  (KY:P8++vs.filter (fun p=>!os.contains p.1)=vs2:=by exact rfl) (Rw:frL (rn os m N) os s8 lv=F9:=by exact rfl) (hN:N+(n' - m)=N2:=by exact rfl)
  (hh:hvB tb ⟨.value x,aS.toArray,ts⟩=true:=by kernel_rfl):AVC P tb dr (.call ⟨.value x,aS.toArray,ts⟩) ty ev ⟨vs,lv,N⟩ (Kq r' ⟨vs2,F9,N2⟩):=
 T_callH AQ (HC.fr os hc ha hv hl hos AP bO hr hrn.map.2 qu (by unfold frV;rw[hrn.map.1,KY]) Rw hN) rfl hh
theorem ex_G {α:Type}(c:Cd α)(a:α):D.ex (dG c a)=dG c a:=by
 show D.ag (((c.f a).map D.e).map D.exC)=_
 rw[qQ];rfl
theorem nZ {α:Type}(c:Cd α)(a:α):(D.ex (dG c a)).le (dG c a):=by rw[ex_G];exact aw _
theorem xJ {off z m:Nat}(hb:0≤v∧v<(n:Int))(ht:tb t=some i)(he:tb e=some j)(hi:i.ty=.slice e:=by exact rfl)(hx:ev x=.ow m off z n:=by exact rfl)(hz:z=j.size:=by exact rfl)(hy:ev y=dI kn v:=by exact rfl):AVC P tb dr (.indexAddr t x y) ty ev hp (Kq (.pt m (off+v.toNat*j.size)) hp):=by
 rw[vy,hx,hy,tP,ht]
 simp only[hi,he]
 exact⟨hz,hb,Kq.here _ _⟩
end
section
variable {P:Program} {tb:TypeId→Option TyE}
structure EqC(tb:TypeId→Option TyE)(d:Nat)(t:TypeId){α:Type}(c:Cd α)(us:α→List Value):Prop where
 hf:∀x,c.f x=(us x).map E.lit
 ft:∀x,n3 tb d t (us x)
 inj:∀x y,us x=us y↔x=y
theorem EqC.int {d:Nat}{t:TypeId}{k:IntKind}{i:TyE}(ht:tb t=some i)(hi:i.ty=.int k:=by exact rfl):EqC tb (d+1) t (cI k) (fun n=>[.int k n]):=
 ⟨fun _=>rfl,fun n=>by unfold n3;rw[ht];simp only[hi];exact⟨n,rfl⟩,fun x y=>by simp⟩
theorem EqC.bool {d:Nat}{t:TypeId}{i:TyE}(ht:tb t=some i)(hi:i.ty=.bool:=by exact rfl):EqC tb (d+1) t cB (fun n=>[.bool n]):=
 ⟨fun _=>rfl,fun n=>by unfold n3;rw[ht];simp only[hi];exact⟨n,rfl⟩,fun x y=>by simp⟩
theorem EqC.len {d:Nat}{t:TypeId}{α:Type}{c:Cd α}{us:α→List Value}(h:EqC tb d t c us)(x:α):(us x).length=c.sz:=by
 rw[←c.h x,h.hf,bg]
theorem G3 {α:Type}{f:α→List Value}{z:Nat}(hz:∀a,(f a).length=z):∀l:List α,(l.flatMap f).length=l.length*z
 |[]=>by simp
 |a::l=>by rw[n9,cJ,hz,G3 hz l,sI,bP,fk,qR]
theorem Kl {α:Type}{f:α→List Value}{z:Nat}(hz:∀a,(f a).length=z):∀(l:List α) (i:Nat) (h:i<l.length),((l.flatMap f).drop (i*z)).take z=f l[i]
 |a::l,0,_=>by rw[gS,rp,n9,t0 (by rw[hz];exact az _),ii (by rw[hz];exact az _)];rfl
 |a::l,i+1,h=>by
  rw[n9,bP,fk,qR,←hz a,←nG,t3,hz a]
  exact Kl hz l i (by simpa using h)
theorem G4 {α:Type}{f:α→List Value}{z:Nat}(hz:∀a,(f a).length=z)(hi:∀x y,f x=f y→x=y):∀l m:List α,l.length=m.length→l.flatMap f=m.flatMap f→l=m
 |[],[],_,_=>rfl
 |a::l,b::m,hl,h=>by
  rw[n9,n9] at h
  obtain⟨h1,h2⟩:=CF h (by rw[hz,hz])
  rw[hi a b h1,G4 hz hi l m (by simpa using hl) h2]
 |[],_::_,hl,_=>by simp at hl
 |_::_,[],hl,_=>by simp at hl
theorem EqC.arr {d n:Nat}{t e:TypeId}{α:Type}{c:Cd α}{us:α→List Value}{i j:TyE}(h:EqC tb d e c us)(ht:tb t=some i)(he:tb e=some j)(hi:i.ty=.arr n e:=by exact rfl)(hz:c.sz=j.size:=by exact rfl):EqC tb (d+1) t (cA n c) (fun v=>v.toList.flatMap us):=by
 refine⟨fun v=>?_,fun v=>?_,fun v w=>⟨fun hh=>?_,fun hh=>by rw[hh]⟩⟩
 ·show v.toList.flatMap c.f=_
  rw[List.map_flatMap]
  congr 1
  exact funext h.hf
 ·unfold n3
  rw[ht]
  simp only[hi,he]
  have hl:=h.len
  refine⟨by rw[G3 hl,n8,hz],fun q hq=>?_⟩
  rw[←hz,Kl hl _ _ (by rw[n8];exact hq)]
  exact h.ft _
 ·have:=G4 h.len (fun x y hxy=>(h.inj x y).1 hxy) v.toList w.toList (by rw[n8,n8]) hh
  exact Vector.toList_inj.1 this
theorem sv {d o off:Nat}{t:TypeId}{fs:List (Nat×TypeId)}{α:Type}{c:Cd α}{us:α→List Value}{j:TyE}{x:α}{rest:List Value}(h:EqC tb d t c us)(ht:tb t=some j)(ho:o=off)(hr:uA tb (n3 tb d) fs (off+j.size) rest)(hz:c.sz=j.size:=by exact rfl):uA tb (n3 tb d) ((o,t)::fs) off (us x++rest):=by
 unfold uA
 have hl:=h.len x
 rw[ht]
 refine⟨ho,?_,by rw[cJ];omega,?_⟩
 ·rw[←hz,←hl,wr];exact h.ft x
 ·rw[←hz,←hl,t3,hl,hz];exact hr
theorem EqC.struct {d:Nat}{t:TypeId}{α:Type}{c:Cd α}{us:α→List Value}{i:TyE}{fs:List (Nat×TypeId)}(ht:tb t=some i)(hf:∀x,c.f x=(us x).map E.lit)(JZ:∀x,uA tb (n3 tb d) fs 0 (us x))(GP:∀x y,us x=us y→x=y)(hi:i.ty=.struct fs:=by exact rfl):EqC tb (d+1) t c us:=
 ⟨hf,fun x=>by unfold n3;rw[ht];simp only[hi];exact JZ x,fun x y=>⟨GP x y,fun h=>by rw[h]⟩⟩
theorem qI:∀us:List Value,lY (dC (us.map E.lit))=some us
 |[]=>rfl
 |u::us=>by
  show (lY (dC (us.map E.lit))).map (u::·)=_
  rw[qI us];rfl
variable {dr:Bool} {ty:TypeId} {ev:Operand→D} {x y:Operand} {hp:Hp} {α:Type} {c:Cd α} {us:α→List Value} {a b:α} {t t':TypeId} {i:TyE}
theorem FK(tok:TOk P tb)(n:Nat)(hd:n≤10000)(h:EqC tb n t c us)(ht:tb t=some i)[DecidableEq α](hg:i.ty.agg=true:=by exact rfl)(hm:P.eqGuardType P.depth t=false:=by kernel_rfl)(hn:mb P n t=true:=by kernel_rfl)(hx:ev x=dG c a:=by exact rfl)(hy:ev y=dG c b:=by exact rfl):AVC P tb dr (.binOp .eql t x y t') ty ev hp (Kq (dB (decide (a=b))) hp):=by
 have e:∀z,(c.f z).map D.e=dC ((us z).map E.lit):=fun z=>by rw[h.hf];rfl
 exact T_geql tok n hd ht hg hm hn hx hy (by rw[e,qI]) (by rw[e,qI]) (h.ft a) (h.ft b) (h.inj a b)
theorem xK(tok:TOk P tb)(n:Nat)(hd:n≤10000)(h:EqC tb n t c us)(ht:tb t=some i)[DecidableEq α](hg:i.ty.agg=true:=by exact rfl)(hm:P.eqGuardType P.depth t=false:=by kernel_rfl)(hn:mb P n t=true:=by kernel_rfl)(hx:ev x=dG c a:=by exact rfl)(hy:ev y=dG c b:=by exact rfl):AVC P tb dr (.binOp .neq t x y t') ty ev hp (Kq (dB (decide (¬a=b))) hp):=by
 have e:∀z,(c.f z).map D.e=dC ((us z).map E.lit):=fun z=>by rw[h.hf];rfl
 exact T_gneq tok n hd ht hg hm hn hx hy (by rw[e,qI]) (by rw[e,qI]) (h.ft a) (h.ft b) (h.inj a b)
theorem Ci(c:Cd α){z:Nat}(hz:c.sz=z):∀(l:List α) (m:Nat) (pre rest:List D),pre.length=m*z→rest.length=l.length*z→gp (fun n=>some (n*z,z)) (pre++rest) ((l.zipIdx m).map fun p=>(p.2,dC (c.f p.1)))=some (pre++dC (l.flatMap c.f))
 |[],m,pre,rest,_,hr=>by
  have:rest=[]:=s9 (by simpa using hr)
  subst this;rfl
 |a::l,m,pre,rest,hp,hr=>by
  have hl:(dC (c.f a)).length=z:=by rw[eH,c.h,hz]
  rw[sI,bP,fk] at hr
  show gp (fun n=>some (n*z,z)) (pre++rest) ((m,dC (c.f a))::(l.zipIdx (m+1)).map _)=_
  unfold gp
  dsimp only
  rw[ai (by rw[hl,cJ];omega),←hp,wr,hl,←nG,t3]
  have:=Ci c hz l (m+1) (pre++dC (c.f a)) (rest.drop z) (by rw[cJ,hl,hp,bP,fk]) (by rw[fh];omega)
  rw[this,dh]
  unfold dC
  rw[n9,iZ]
theorem Co:∀es:List E,vt (dC es)=some es
 |[]=>rfl
 |e::es=>by
  show (match D.cellE (.e e),vt (dC es) with|some x,some xs=>some (x::xs)|_,_=>none)=_
  rw[Co es];rfl
theorem kP {vs:List (Nat×List D)}{lv:List (Nat×Nat×Nat×TypeId)}{N0:Nat}{e:TypeId}{j:TyE}{n:Nat}{ps:List (Nat×Operand)}(l:List α)(c:Cd α)(ht:tb t=some i)(he:tb e=some j)(hi:i.ty=.slice e:=by exact rfl)(hz:c.sz=j.size:=by exact rfl)(MW:Nat.ble (0+1) (j.size)=true:=by exact rfl)(Ml:l.length=n+1:=by exact rfl)(hn:Nat.ble ((n+1)*j.size) (16777216)=true:=by exact rfl)(jP:my (ps.map fun p=>(p.1,ev p.2))=some ((l.zipIdx 0).map fun p=>(p.2,dC (c.f p.1))):=by exact rfl)(hd:dr=false:=by exact rfl):
  AVC P tb dr (.buildSlice t (n+1) ps.toArray) ty ev ⟨vs,lv,N0⟩ (Kq (dO N0 c l) ⟨vs,(N0,l.length,j.size,e)::lv,N0+1⟩):=by
 have hf:=Ci c hz l 0 [] (List.replicate ((n+1)*j.size) (D.e .any)) (by simp) (by rw[sS,Ml])
 rw[nR,nR] at hf
 have:=kQ (P:=P) (dr:=dr) (ty:=ty) (ev:=ev) (vs:=vs) (lv:=lv) (N0:=N0) ht he hi MW hn jP hf (Co _) hd
 show AVC _ _ _ _ _ _ _ (Kq (.own N0 c.sz l.length (l.flatMap c.f)) _)
 rw[hz,Ml]
 exact this
theorem In {tm:List (Nat×D)}{p:Tmp}{ty:TypeId}{j:Nat}{i:TyE}{F:List E}{k:D→Prop}(h:tm.lookup p=some (.pt j 0))(ht:tb ty=some i)(hg:i.ty.agg=true)(hv:hp.vars.lookup j=some (dC F))(hn:j<hp.next)(hl:F.length=i.size)(hk:k (.ag (dC F))):tM tb tm hp (.cell p ty) k:=
 Sg h ht hg hv hn (by rw[eH,hl];omega) (by rw[rp,ii (by rw[eH,hl];exact az _)]) hk
end
end
section
structure FW(α:Type) where
 f:α→List E
def cW {α:Type}(c:Cd α):FW (List α):=⟨fun l=>l.flatMap c.f⟩
theorem b9.seqW {α:Type}[Inhabited α](c:Cd α)(l:List α)(i:Nat)(h:i<l.length):b9 ((cW c).f l) c (0+i*c.sz) l[i]! (fun y=>(cW c).f (l.set i y)):=by
 rw[bw];exact b9.seq c l i h
def vOf {α:Type}[Inhabited α](n:Nat)(l:List α):Vector α n:=Vector.ofFn fun i=>l[i.val]!
theorem zu {α:Type}[Inhabited α]{n:Nat}{l:List α}(h:l.length=n):(vOf n l).toList=l:=by
 unfold vOf
 apply Fz
 ·rw[n8,h]
 ·intro i h1 h2
  rw[Vector.getElem_toList,N5,bT l i h2]
theorem vOf_f {α:Type}[Inhabited α](c:Cd α){n:Nat}{l:List α}(h:l.length=n):(cA n c).f (vOf n l)=l.flatMap c.f:=by
 show (vOf n l).toList.flatMap c.f=_
 rw[zu h]
theorem b9.sub {α:Type}[Inhabited α]{n:Nat}(m:Nat)(c:Cd α)(v:Vector α n)(i:Nat)(h:i+m≤n){o:Nat}(ho:i*c.sz=o):b9 ((cA n c).f v) (cA m c) o (vOf m ((v.toList.drop i).take m)) (fun y=>((cA n c).f v).take o++(cA m c).f y++((cA n c).f v).drop (o+m*c.sz)):=by
 subst ho
 have hl:((v.toList.drop i).take m).length=m:=by rw[eu,fh,n8];omega
 refine⟨?_,?_,fun y=>rfl⟩
 ·rw[(cA n c).h]
  show i*c.sz+m*c.sz≤n*c.sz
  rw[←bP];exact cz _ h
 ·rw[vOf_f c hl]
  show ((v.toList.flatMap c.f).drop (i*c.sz)).take (m*c.sz)=_
  rw[ox c.f c.h,kE c.f c.h]
section
variable {P:Program} {tb:TypeId→Option TyE} {md:Md} {ev:Operand→D} {hp:Hp} {dst:Option Tmp} {ty2:TypeId} {pos:String} {af:Array Edge} {gd:Option (Nat×Bool)} {x y:Operand} {lo hi:Option Operand} {t t2 e:TypeId} {ti j:TyE} {k k' off o o' z n m:Nat} {l h:Int}
def Rf(ev:Operand→D)(b:Option Operand)(GW l:Int):Prop:=
 match b with
 |none=>l=GW
 |some y=>∃k,ev y=dI k l
theorem Rf.val {b:Option Operand}{GW l:Int}(h:Rf ev b GW l){L:Nat}(hL:l=L){N:Nat}(hN:GW=N){g:Gh}{w:World}{ρ:Operand→Value}(hr:∀y,b=some y→aF hp g w (ev y) (ρ y)):(b.map ρ=none∧L=N)∨∃kd,b.map ρ=some (.int kd (L:Int)):=by
 cases b with
 |none=>exact .inl ⟨rfl,by have:l=GW:=h;omega⟩
 |some y=>
  obtain⟨kd,hy⟩:=h
  have:=hr y rfl
  rw[hy] at this
  exact .inr ⟨kd,by rw[←hL,oD,this.lit]⟩
theorem slA(tok:TOk P tb)(hb:0≤l∧l≤h∧h≤(n:Int)∧l<(n:Int))(ht:tb t=some ti)(he:tb e=some j)(EM:Rf ev lo 0 l)(O7:Rf ev hi (n:Int) h)(yO:ti.ty=.arr n e:=by exact rfl)(hx:ev x=.pt k off:=by exact rfl)(hn:Nat.ble n 1000000=true:=by exact rfl):
  nf P tb md ⟨dst,.slice t x lo hi none,ty2,pos,af,gd⟩ ev hp (.ow k (off+l.toNat*j.size) j.size (h - l).toNat) hp:=by
 refine (Snd.calm (dr:=md.dr) fun dp _=>.pure fun B g w a hr yM=>?_).q (by cases md <;> rfl)
 have h1:=yM x (by simp[Op.operands])
 rw[hx] at h1
 obtain⟨L,rfl⟩:∃L:Nat,l=L:=⟨l.toNat,by omega⟩
 obtain⟨H,rfl⟩:∃H:Nat,h=H:=⟨h.toNat,by omega⟩
 have e1:((H:Int) - L).toNat=H - L:=by omega
 have hn':n≤1000000:=bb hn
 have hbd:=iI (P:=P) (w:=w) false n n (lo.map a.eval) (hi.map a.eval) L H (EM.val rfl rfl fun y hy=>yM y (by subst hy;simp[Op.operands])) (O7.val rfl rfl fun y hy=>yM y (by subst hy;simp[Op.operands])) (by omega) (by omega)
 have hs:=tok.run_sizeOf he w
 generalize hv:a.eval x=v at h1
 cases h1 with
 |pt _ _ hk=>
  refine⟨.slice (some ⟨g.μ k,off+L*j.size,none⟩) (H - L) (n - L),?_,?_⟩
  ·have fS:¬n=L:=by omega
   have Rz:(⟨g.μ k,off,none⟩:Addr).add (L*j.size)=⟨g.μ k,off+L*j.size,none⟩:=by unfold Addr.add;split <;> simp_all
   simp[execOp,Instr.sliceAt,Instr.sureAddr,hv,run_underlying (tok.arr ht yO),hbd,hs,fS,Rz]
  ·rw[e1,bH]
   exact .ow _ _ _ _ _ hk (by omega) (by unfold maxLen;omega)
theorem slW(tok:TOk P tb)(hb:0≤l∧l≤h∧h≤(n:Int)∧l<(n:Int))(ht:tb t=some ti)(he:tb e=some j)(EM:Rf ev lo 0 l)(O7:Rf ev hi (n:Int) h)(yO:ti.ty=.slice e:=by exact rfl)(hx:ev x=.ow k off z n:=by exact rfl)(hz:z=j.size:=by exact rfl):
  nf P tb md ⟨dst,.slice t x lo hi none,ty2,pos,af,gd⟩ ev hp (.ow k (off+l.toNat*z) z (h - l).toNat) hp:=by
 subst hz
 refine (Snd.calm (dr:=md.dr) fun dp _=>.pure fun B g w a hr yM=>?_).q (by cases md <;> rfl)
 have h1:=yM x (by simp[Op.operands])
 rw[hx] at h1
 obtain⟨L,rfl⟩:∃L:Nat,l=L:=⟨l.toNat,by omega⟩
 obtain⟨H,rfl⟩:∃H:Nat,h=H:=⟨h.toNat,by omega⟩
 have e1:((H:Int) - L).toNat=H - L:=by omega
 have hs:=tok.run_sizeOf he w
 generalize hv:a.eval x=v at h1
 cases h1 with
 |ow _ _ _ _ c hk qU oY=>
  have hbd:=iI (P:=P) (w:=w) true n c (lo.map a.eval) (hi.map a.eval) L H (EM.val rfl rfl fun y hy=>yM y (by subst hy;simp[Op.operands])) (O7.val rfl rfl fun y hy=>yM y (by subst hy;simp[Op.operands])) (by omega) (by omega)
  refine⟨.slice (some ⟨g.μ k,off+L*j.size,none⟩) (H - L) (c - L),?_,?_⟩
  ·have fS:¬c=L:=by omega
   have Rz:(⟨g.μ k,off,none⟩:Addr).add (L*j.size)=⟨g.μ k,off+L*j.size,none⟩:=by unfold Addr.add;split <;> simp_all
   simp[execOp,Instr.sliceAt,Instr.slice,hv,run_underlying (tok.slice ht yO),hbd,hs,fS,Rz]
  ·rw[e1,bH]
   exact .ow _ _ _ _ _ hk (by omega) (by omega)
theorem sPtr(tok:TOk P tb)(hm:Nat.ble m n=true)(ht:tb t=some ti)(yO:ti.ty=.arr m e:=by exact rfl)(hx:ev x=.ow k off z n:=by exact rfl):
  nf P tb md ⟨dst,.sliceToArrayPointer t x,ty2,pos,af,gd⟩ ev hp (.pt k off) hp:=by
 refine (Snd.calm (dr:=md.dr) fun dp _=>.pure fun B g w a hr yM=>?_).q (by cases md <;> rfl)
 have h1:=yM x (by simp[Op.operands])
 rw[hx] at h1
 have hm':=bb hm
 generalize hv:a.eval x=v at h1
 cases h1 with
 |ow _ _ _ _ c hk qU oY=>
  refine⟨.pointer (some ⟨g.μ k,off,none⟩),?_,.pt _ _ hk⟩
  have fS:¬n<m:=by omega
  simp[execOp,Instr.arrayAt,hv,run_underlying (tok.arr ht yO),fS]
theorem CH {dr:Bool}{ty:TypeId}(ht:tb t=some ti)(he:tb e=some j)(hi:ti.ty=.slice e:=by exact rfl)(hx:ev x=.ow k off z n:=by exact rfl):AVC P tb dr (.call ⟨.builtin .len,#[x],#[t]⟩) ty ev hp (Kq (dI .i64 n) hp):=by
 show kG tb .len [t] [ev x] hp _
 rw[C9,OW,ht]
 simp only[hi,he,hx,D.asSl]
 exact Kq.here _ _
theorem T_stVw {dr:Bool}{ty:TypeId}{vs:List (Nat×List D)}{lv:List (Nat×Nat×Nat×TypeId)}{N:Nat}{F:List E}{β γ:Type}{c':Cd β}{b b':β}{F':β→List E}{c:Cd γ}{nw nm:List γ}(L:b9 F c' o b F')(ht:tb t=some ti)(Ru:nw=nm)(hF:F' b'=(cW c).f nw:=by exact rfl)(hy:(ev y).cells=some (dC (c'.f b')):=by exact rfl)(hz:c'.sz=ti.size:=by exact rfl)(hx:ev x=.pt k o:=by exact rfl)(hv:vs.lookup k=some (dC F):=by exact rfl):AVC P tb dr (.store t x y) ty ev ⟨vs,lv,N⟩ (Kq .top ⟨(k,dC ((cW c).f nm))::vs,lv,N⟩):=by
 have:=zd (P:=P) (dr:=dr) (ty:=ty) (lv:=lv) (N:=N) L ht hy hz hx hv
 rw[hF,Ru] at this
 exact this
theorem Hj(z:Array Value)(s:Nat)(hs:z.size=s):∀n:Nat,(madeCells z (n*s)).toList=(List.replicate n z.toList).flatten
 |0=>by simp[madeCells]
 |n+1=>by
  have ih:=Hj z s hs n
  unfold madeCells at ih ⊢
  rw[Array.toList_map,Array.toList_range] at ih ⊢
  rw[bP,fk,List.range_add,iZ,ih,List.replicate_succ',List.flatten_append]
  congr 1
  rw[qQ,List.flatten_cons,List.flatten_nil,tG]
  apply Fz
  ·simp[hs]
  ·intro i h1 h2
   have hi:i<s:=by simpa using h1
   simp only[Fy,N4,Function.comp]
   rw[hs,bz,Nat.mul_add_mod,eD hi,bT z i (by omega),Array.getElem_toList]
theorem sMk {α:Type}{c:Cd α}{z0:α}{kl kc:IntKind}{v:Int}{hp':Hp}(tok:TOk P tb)(hb:0≤v∧v≤1000000)(ht:tb t=some ti)(he:tb e=some j)(hz:j.zero.map E.lit=c.f z0)(yO:ti.ty=.slice e:=by exact rfl)(hx:ev x=dI kl v:=by exact rfl)(hy:ev y=dI kc v:=by exact rfl)(hbt:Nat.ble j.bytes 100000000=true:=by exact rfl)(jP:hp.var (dC ((cW c).f (List.replicate v.toNat z0)))=hp':=by exact rfl):
  nf P tb md ⟨dst,.makeSlice t x y,ty2,pos,af,gd⟩ ev hp (.ow hp.next 0 j.size v.toNat) hp':=by
 subst jP
 refine (Snd.loud (dr:=md.dr) (.step fun B g w a hr yM=>?_) (fun _=>rfl) fun _=>⟨jM _,fun j hj=>ao (by omega)⟩).q (by cases md <;> rfl)
 have h1:=yM x (by simp[Op.operands])
 have h2:=yM y (by simp[Op.operands])
 rw[hx] at h1;rw[hy] at h2
 obtain⟨f,zz,Rx,Pd,Dq,Pc,hf4,_⟩:=tok.inf he
 have hbt':f.bytes≤100000000:=by rw[Dq];exact bb hbt
 obtain⟨m,rfl⟩:∃m:Nat,v=m:=⟨v.toNat,by omega⟩
 have hm:m≤1000000:=by omega
 have O3:f.bytes*m≤281474976710656:=dm (kL hbt' hm) (by decide)
 have cf:=run_make (P:=P) w t e f zz (tok.slice ht yO) Rx Pc kl kc m m (by omega) (by omega) (by rw[←ir];exact Int.ofNat_le.2 O3) (by omega)
 rw[bH] at cf
 have hsz:zz.cells.size=f.size:=by
  have h4:=(tok e j he).2.2.1
  rw[←i7,hf4,h4,Pd]
 have hlist:=Hj zz.cells f.size hsz m
 have hcont:(cW c).f (List.replicate m z0)=(madeCells zz.cells (m*f.size)).toList.map E.lit:=by
  rw[hlist,hf4,List.map_flatten,Fx,hz]
  show (List.replicate m z0).flatMap c.f=_
  rw[List.flatMap_def,Fx]
 have h1c:∀u∈(madeCells zz.cells (m*f.size)).toList,u.oneCell'=true:=by
  intro u hu
  rw[hlist,hf4] at hu
  obtain⟨l,hl,O1⟩:=List.mem_flatten.1 hu
  obtain rfl:=(List.mem_replicate.1 hl).2
  exact a7.1 (tok e j he).2.2.2 u O1
 refine⟨.slice (some ⟨w.heap.size,0,none⟩) m m,_,w.alloc (.cells (madeCells zz.cells (m*f.size)) e),?_,hr.newVar _ _ e ?_ (fun i u hu=>?_),cM.var hp g w _ _,?_,(Below.refl _ _).alloc hr.base _,fun p _ h=>.inl h⟩
 ·have e1:=h1.lit
  have e2:=h2.lit
  simp only[execOp,e1,e2,Sem.run_bind,cf,Result.andThen_ok]
  rfl
 ·rw[bH,hcont,eH,bg,i7];exact az _
 ·have wi:(madeCells zz.cells (m*f.size)).toList[i]? =some u:=by simpa using hu
  refine⟨fun _=>h1c u (eg wi),fun d hd=>?_⟩
  rw[bH,hcont] at hd
  unfold dC at hd
  rw[dW,dW,wi] at hd
  injection hd with hd
  subst hd
  exact .e _ _ (.lit u (h1c u (eg wi)))
 ·rw[bH]
  have:=aF.ow (hp:=hp.var (dC ((cW c).f (List.replicate ((m:Int).toNat) z0)))) (g:=g.var hp.next w.heap.size) (w:=w.alloc (.cells (madeCells zz.cells (m*f.size)) e)) hp.next 0 j.size m m (ez _) (az _) (by unfold maxLen;omega)
  rwa[show (g.var hp.next w.heap.size).μ hp.next=w.heap.size from ah rfl] at this
theorem Qh(w:World)(t t2 ty e:TypeId)(i:TypeInfo)(hu:P.underlying t=some (.slice e))(hi:P.info? e=some i)(b o n c:Nat)(A:Option Addr)(m c':Nat)(cur:Array Value)(tt:TypeId)(cs:List Value)(hA:0<m→∃ad,A=some ad)(hl:cs.length=min m n*i.size)
  (S6:∀ad,A=some ad→∀j v,cs[j]? =some v→w.cell? (ad.add j)=some v) (hg:w.heap[b]? =some (.cells cur tt (0,0))) (GQ:o+cs.length≤cur.size) (h1:∀v∈cs,v.oneCell'=true):
  (Builtin.copy_ #[t,t2] ty #[.slice (some ⟨b,o,none⟩) n c,.slice A m c']).run P w=   .ok (goInt ((min m n:Nat):Int)) (w.setRow b (cur.toList.take o++cs++cur.toList.drop (o+cs.length)).toArray):=by
 have Ho:=run_storeCells_at P b o tt cs 0 cur w hg (by simpa using GQ) h1
 have e0:Nat.min m n=min m n:=rfl
 cases A with
 |none=>
  have hm:m=0:=by
   rcases sJ m with h|h
   ·exact h
   ·obtain⟨_,h⟩:=hA h;cases h
  subst hm
  have:cs=[]:=s9 (by rw[hl];simp)
  subst this
  simp at Ho
  simp[Builtin.copy_,run_underlying hu,Builtin.lenOf,Builtin.firstCells,sizeOf,typeInfo,hi,Ho]
 |some a=>
  have Gj:=run_loadCells_list (P:=P) w a cs (S6 a rfl)
  rw[hl] at Gj
  simp[Builtin.copy_,run_underlying hu,Builtin.lenOf,Builtin.firstCells,sizeOf,typeInfo,hi,e0,Gj,Ho]
def xM(hp:Hp)(d:D)(z m:Nat)(xs:List E):Prop:=xs.length=m*z∧∀(B:Nat) (g:Gh) (w:World) (v:Value),HR B hp g w→aF hp g w d v→
 ∃A c us,v=.slice A m c∧(0<m→∃ad,A=some ad)∧(∀ad,A=some ad→∀j u,us[j]? =some u→w.cell? (ad.add j)=some u)∧Pw (dA w g.F) xs us
theorem xM.own {vs:List (Nat×List D)}{lv:List (Nat×Nat×Nat×TypeId)}{N:Nat}{F:List E}{xs:List E}(hv:vs.lookup k=some (dC F))(hle:off+m*z≤F.length)(hF:(F.drop off).take (m*z)=xs):xM ⟨vs,lv,N⟩ (.ow k off z m) z m xs:=by
 subst hF
 refine⟨by rw[eu,fh];omega,fun B g w v hr hd=>?_⟩
 cases hd with
 |ow _ _ _ _ c hk qU oY=>
  obtain⟨h1,h2,h3,cs,ty,h4,h5,h6⟩:=hr.var k _ hv
  rw[eH] at h5
  refine⟨_,c,(cs.toList.drop off).take (m*z),rfl,fun _=>⟨_,rfl⟩,fun ad ha j u hu=>?_,?_,fun j x u hx hu=>?_⟩
  ·injection ha with ha
   subst ha
   rw[gU] at hu
   split at hu
   ·rw[nQ,LL] at hu
    have Rz:(⟨g.μ k,off,none⟩:Addr).add j=⟨g.μ k,off+j,none⟩:=by unfold Addr.add;split <;> simp_all
    rw[Rz]
    simpa[World.cell?,h4] using hu
   ·cases hu
  ·simp only[eu,fh,i7];omega
  ·rw[gU] at hx hu
   split at hx
   ·rename_i hj
    rw[ah hj,nQ,LL] at hu
    rw[nQ] at hx
    have:=(h6 (off+j) u hu).2 (.e x) (by unfold dC;rw[dW,hx];rfl)
    cases this
    assumption
   ·cases hx
theorem xM.dat {hp:Hp}{d:D}{z m:Nat}{xs:List E}(h:d.asSl z=some (m,xs))(hl:xs.length=m*z):xM hp d z m xs:=by
 refine⟨hl,fun B g w v hr hd=>?_⟩
 obtain⟨A,c,rfl,cY⟩:=sF hd h
 obtain⟨_,_,_,_,hA,us,O1,hc,hp⟩:=cY.reads
 exact⟨A,c,us,rfl,fun hm=>(hA hm).imp fun ad h=>h.1,fun ad ha j u hu=>(hc ad ha j u hu).1,hp⟩
theorem dA.oneL {w:World}{F:Addr→Prop}{xs:List E}{us:List Value}(h:Pw (dA w F) xs us):∀u∈us,u.oneCell'=true:=by
 intro u hu
 obtain⟨i,hi⟩:=List.mem_iff_getElem?.1 hu
 have:i<xs.length:=by rw[h.1];exact (fW.1 hi).1
 exact (h.2 i xs[i] u (cP this) hi).one
theorem sCp {vs:List (Nat×List D)}{lv:List (Nat×Nat×Nat×TypeId)}{N:Nat}{F xs:List E}(tok:TOk P tb)(ht:tb t=some ti)(he:tb e=some j)(hs:xM ⟨vs,lv,N⟩ (ev y) z m xs)(hv:vs.lookup k=some (dC F))(GQ:off+n*z≤F.length)(yO:ti.ty=.slice e:=by exact rfl)(hx:ev x=.ow k off z n:=by exact rfl)(hz:z=j.size:=by exact rfl):
  nf P tb md ⟨dst,.call ⟨.builtin .copy,#[x,y],#[t,t2]⟩,ty2,pos,af,gd⟩ ev ⟨vs,lv,N⟩ (dI .i64 (min m n:Nat)) ⟨(k,dC (F.take off++xs.take (min m n*z)++F.drop (off+min m n*z)))::vs,lv,N⟩:=by
 subst hz
 refine (Snd.loud (dr:=md.dr) (.step fun B g w a hr yM=>?_) (fun _=>rfl) fun h=>by simp[yq,cpB] at h).q (by cases md <;> rfl)
 have h1:=yM x (cX (by simp))
 have h2:=yM y (cX (by simp))
 rw[hx] at h1
 obtain⟨Ce,hs⟩:=hs
 obtain⟨A,c',us,hy,hA,S6,yu⟩:=hs B g w _ hr h2
 obtain⟨q1,q2,q3,cs,ty,q4,q5,q6⟩:=hr.var k _ hv
 rw[eH] at q5
 obtain⟨f,zz,Rx,Pd,_⟩:=tok.inf he
 have EJ:min m n*j.size≤n*j.size:=cz _ (Nat.min_le_right _ _)
 have hmin2:min m n*j.size≤m*j.size:=cz _ (Nat.min_le_left _ _)
 have O1:us.length=m*j.size:=by rw[←yu.1,Ce]
 have htl:(us.take (min m n*j.size)).length=min m n*j.size:=by rw[eu];omega
 have hxt:(xs.take (min m n*j.size)).length=min m n*j.size:=by rw[eu];omega
 generalize hv1:a.eval x=v1 at h1
 cases h1 with
 |ow _ _ _ _ c hk qU oY=>
  have hone:∀u∈us.take (min m n*j.size),u.oneCell'=true:=fun u hu=>dA.oneL yu u (PJ hu)
  have cf:=Qh (P:=P) w t t2 ty2 e f (tok.slice ht yO) Rx (g.μ k) off n c A m c' cs ty (us.take (min m n*j.size)) hA (by rw[htl,Pd]) (fun ad ha i v hi=>S6 ad ha i v (by
   rw[gU] at hi
   split at hi
   ·exact hi
   ·cases hi)) q4 (by omega) hone
  have TE:=setRow_heap w (g.μ k) cs (cs.toList.take off++us.take (min m n*j.size)++cs.toList.drop (off+(us.take (min m n*j.size)).length)).toArray ty (0,0) q4
  have TI:fj ⟨vs,lv,N⟩ g w (dC F) (cs.toList.take F.length):=⟨⟨by simp only[eH,eu,i7];omega,fun i d u hd hu=>(q6 i u (by
   rw[gU] at hu
   split at hu
   ·simpa using hu
   ·cases hu)).2 d hd⟩,fun u hu=>by
   obtain⟨i,hi⟩:=List.mem_iff_getElem?.1 hu
   rw[gU] at hi
   split at hi
   ·rename_i bO
    exact (q6 i u (by simpa using hi)).1 (by rw[eH];exact bO)
   ·cases hi⟩
  have hmid:fj ⟨vs,lv,N⟩ g w (dC (xs.take (min m n*j.size))) (us.take (min m n*j.size)):=by
   refine⟨⟨by rw[eH,hxt,htl],fun i d u hd hu=>?_⟩,hone⟩
   unfold dC at hd
   rw[dW] at hd
   cases hx':(xs.take (min m n*j.size))[i]? with
   |none=>rw[hx'] at hd;cases hd
   |some x'=>
    rw[hx'] at hd
    injection hd with hd
    subst hd
    exact .e _ _ ((yu.take _).2 i x' u hx' hu)
  have Dp:fj ⟨vs,lv,N⟩ g w (dC (F.take off++xs.take (min m n*j.size)++F.drop (off+min m n*j.size))) ((cs.toList.take off++us.take (min m n*j.size)++cs.toList.drop (off+(us.take (min m n*j.size)).length)).take F.length):=by
   have:=((TI.take off).append hmid).append (TI.drop (off+min m n*j.size))
   rw[htl]
   have e1:(cs.toList.take off++us.take (min m n*j.size)++cs.toList.drop (off+min m n*j.size)).take F.length=((cs.toList.take F.length).take off++us.take (min m n*j.size))++(cs.toList.take F.length).drop (off+min m n*j.size):=by
    have hlA:(cs.toList.take off++us.take (min m n*j.size)).length=off+min m n*j.size:=by rw[cJ,htl,eu,i7];omega
    rw[U7,hlA,ii (by rw[hlA];omega),LK,HI,tE (show off≤F.length by omega)]
   rw[e1]
   unfold dC at this ⊢
   simpa only[iZ,vP,xD] using this
  have Ml:(F.take off++xs.take (min m n*j.size)++F.drop (off+min m n*j.size)).length=F.length:=by
   simp only[cJ,eu,fh];omega
  have AM:=SzB.row (new:=(cs.toList.take off++us.take (min m n*j.size)++cs.toList.drop (off+(us.take (min m n*j.size)).length)).toArray) q4 (by simp only[sK,cJ,eu,fh,i7];omega)
  refine⟨goInt ((min m n:Nat):Int),g,_,?_,hr.setVar hv _ _ ty (by simp[World.setRow]) (fun b hb=>setRow_other w _ b _ hb) TE (by rw[eH,Ml];simp only[sK,cJ,eu,fh,i7];omega) AM (fun i u hu=>?_),cM.setVar hr hv _ (by simp[World.setRow]) (fun b hb=>setRow_other w _ b _ hb) AM,.e _ _ (.lit _ rfl),yW w q2 _,fun _ _ h=>h⟩
  ·simp only[execOp,Array.map_map,al_5,iX,l6,resolve,invoke,builtin,hv1,hy,Sem.run_bind]
   simp[resolve,invoke,builtin,hv1,hy,cf]
  ·have wi:(cs.toList.take off++us.take (min m n*j.size)++cs.toList.drop (off+(us.take (min m n*j.size)).length))[i]? =some u:=by simpa using hu
   have hw:i<F.length→((cs.toList.take off++us.take (min m n*j.size)++cs.toList.drop (off+(us.take (min m n*j.size)).length)).take F.length)[i]? =some u:=fun hi=>by
    rw[gU,ah hi];exact wi
   exact⟨fun hi=>Dp.2 u (eg (hw (by rw[eH,Ml] at hi;exact hi))),fun d hd=>Dp.1.2 i d u hd (hw (by rw[←Ml,←eH];exact (fW.1 hd).1))⟩
def lCp {α:Type}(l:List α)(o:Nat)(s:List α):List α:=l.take o++s++l.drop (o+s.length)
theorem lCp_len {α:Type}{l s:List α}{o:Nat}(h:o+s.length≤l.length):(lCp l o s).length=l.length:=by
 unfold lCp;simp only[cJ,eu,fh];omega
theorem KV {α:Type}(c:Cd α)(l s:List α)(o:Nat):(lCp l o s).flatMap c.f=(l.flatMap c.f).take (o*c.sz)++s.flatMap c.f++(l.flatMap c.f).drop (o*c.sz+s.length*c.sz):=by
 unfold lCp
 rw[JC,JC,kE c.f c.h,←bP,ox c.f c.h]
section
variable {α:Type} [Inhabited α] {c:Cd α} {vs:List (Nat×List D)} {lv:List (Nat×Nat×Nat×TypeId)} {N N0:Nat}
theorem xM.arr {v:Vector α N0}(hv:vs.lookup k=some (dC ((cA N0 c).f v)))(o:Nat)(hm:o+m≤N0)(ho:off=o*c.sz:=by exact rfl)(hz:z=c.sz:=by exact rfl):xM ⟨vs,lv,N⟩ (.ow k off z m) z m (((v.toList.drop o).take m).flatMap c.f):=by
 subst ho hz
 refine xM.own hv ?_ ?_
 ·rw[(cA N0 c).h]
  show o*c.sz+m*c.sz≤N0*c.sz
  rw[←bP];exact cz _ hm
 ·show ((v.toList.flatMap c.f).drop (o*c.sz)).take (m*c.sz)=_
  rw[ox c.f c.h,kE c.f c.h]
theorem xM.lst {l:List α}(hv:vs.lookup k=some (dC ((cW c).f l)))(o:Nat)(hm:o+m≤l.length)(ho:off=o*c.sz:=by exact rfl)(hz:z=c.sz:=by exact rfl):xM ⟨vs,lv,N⟩ (.ow k off z m) z m (((l.drop o).take m).flatMap c.f):=by
 subst ho hz
 refine xM.own hv ?_ ?_
 ·show _≤(l.flatMap c.f).length
  rw[iB c.f c.h,←bP];exact cz _ hm
 ·show ((l.flatMap c.f).drop (o*c.sz)).take (m*c.sz)=_
  rw[ox c.f c.h,kE c.f c.h]
theorem sCpA {v:Vector α N0}{s:List α}{r:List (Nat×List D)}(tok:TOk P tb)(ht:tb t=some ti)(he:tb e=some j)(hs:xM ⟨vs,lv,N⟩ (ev y) z m (s.flatMap c.f))(Gb:s.length=m)(hv:vs.lookup k=some (dC ((cA N0 c).f v)))(o:Nat)(GQ:o+n≤N0)(hr:(k,dC ((cA N0 c).f (vOf N0 (lCp v.toList o (s.take n)))))::vs=r)(ho:off=o*c.sz:=by exact rfl)(Hm:z=c.sz:=by exact rfl)(yO:ti.ty=.slice e:=by exact rfl)(hx:ev x=.ow k off z n:=by exact rfl)(hz:z=j.size:=by exact rfl):
  nf P tb md ⟨dst,.call ⟨.builtin .copy,#[x,y],#[t,t2]⟩,ty2,pos,af,gd⟩ ev ⟨vs,lv,N⟩ (dI .i64 (min m n:Nat)) ⟨r,lv,N⟩:=by
 subst ho Hm hr
 have:=sCp (P:=P) (md:=md) (dst:=dst) (ty2:=ty2) (pos:=pos) (af:=af) (gd:=gd) (t2:=t2) (lv:=lv) tok ht he hs hv (by
  rw[(cA N0 c).h]
  show _≤N0*c.sz
  rw[←bP];exact cz _ GQ) yO hx hz
 have e1:(s.take n).length=min m n:=by rw[eu,Gb,Nat.min_comm]
 have e2:(cA N0 c).f (vOf N0 (lCp v.toList o (s.take n)))=((cA N0 c).f v).take (o*c.sz)++(s.flatMap c.f).take (min m n*c.sz)++((cA N0 c).f v).drop (o*c.sz+min m n*c.sz):=by
  rw[vOf_f c (by rw[lCp_len (by rw[e1,n8];have:=Nat.min_le_right m n;omega),n8]),KV,e1]
  have e3:(s.flatMap c.f).take (min m n*c.sz)=(s.take n).flatMap c.f:=by
   rw[kE c.f c.h]
   congr 1
   rcases Nat.le_total m n with h|h
   ·rw[tE h,ii (by omega),ii (by omega)]
   ·rw[Nat.min_eq_right h]
  rw[e3];rfl
 rw[e2];exact this
theorem sCpW {l s:List α}{r:List (Nat×List D)}(tok:TOk P tb)(ht:tb t=some ti)(he:tb e=some j)(hs:xM ⟨vs,lv,N⟩ (ev y) z m (s.flatMap c.f))(Gb:s.length=m)(hv:vs.lookup k=some (dC ((cW c).f l)))(o:Nat)(GQ:o+n≤l.length)(hr:(k,dC ((cW c).f (lCp l o (s.take n))))::vs=r)(ho:off=o*c.sz:=by exact rfl)(Hm:z=c.sz:=by exact rfl)(yO:ti.ty=.slice e:=by exact rfl)(hx:ev x=.ow k off z n:=by exact rfl)(hz:z=j.size:=by exact rfl):
  nf P tb md ⟨dst,.call ⟨.builtin .copy,#[x,y],#[t,t2]⟩,ty2,pos,af,gd⟩ ev ⟨vs,lv,N⟩ (dI .i64 (min m n:Nat)) ⟨r,lv,N⟩:=by
 subst ho Hm hr
 have:=sCp (P:=P) (md:=md) (dst:=dst) (ty2:=ty2) (pos:=pos) (af:=af) (gd:=gd) (t2:=t2) (lv:=lv) tok ht he hs hv (by
  show _≤(l.flatMap c.f).length
  rw[iB c.f c.h,←bP];exact cz _ GQ) yO hx hz
 have e1:(s.take n).length=min m n:=by rw[eu,Gb,Nat.min_comm]
 have e2:(cW c).f (lCp l o (s.take n))=((cW c).f l).take (o*c.sz)++(s.flatMap c.f).take (min m n*c.sz)++((cW c).f l).drop (o*c.sz+min m n*c.sz):=by
  show (lCp l o (s.take n)).flatMap c.f=_
  rw[KV,e1]
  have e3:(s.flatMap c.f).take (min m n*c.sz)=(s.take n).flatMap c.f:=by
   rw[kE c.f c.h]
   congr 1
   rcases Nat.le_total m n with h|h
   ·rw[tE h,ii (by omega),ii (by omega)]
   ·rw[Nat.min_eq_right h]
  rw[e3];rfl
 rw[e2];exact this
end
theorem WkS.free {tm:List (Nat×D)}{vs:List (Nat×List D)}{lv:List (Nat×Nat×Nat×TypeId)}{N k:Nat}{ds:List D}(hv:vs.lookup k=some ds):∀(B:Nat) (g:Gh) (w:World) (ρ:Nat→Value),HR B ⟨vs,lv,N⟩ g w→(∀t d,tm.lookup t=some d→aF ⟨vs,lv,N⟩ g w d (ρ t))→
  ∃g':Gh,g'=⟨g.μ,g.τ,fun p=>g.F p∧p.block≠g.μ k⟩∧HR B ⟨vs.filter fun p=>!([k]:List Nat).contains p.1,lv,N⟩ g' w∧cM ⟨vs,lv,N⟩ g w ⟨vs.filter fun p=>!([k]:List Nat).contains p.1,lv,N⟩ g' w∧(∀t d,tm.lookup t=some d→aF ⟨vs.filter fun p=>!([k]:List Nat).contains p.1,lv,N⟩ g' w d (ρ t))∧∀p:Addr,p.block<B→g.F p→g'.F p:=by
 intro B g w ρ hr nV
 obtain⟨h1,h2,h3,cs,ty,h4,h5,h6⟩:=hr.var k _ hv
 have look:∀{j:Nat} {ds:List D},(vs.filter fun p=>!([k]:List Nat).contains p.1).lookup j=some ds→j≠k∧vs.lookup j=some ds:=by
  intro j ds h
  obtain⟨a,b⟩:=jx h
  exact⟨by simpa using a,b⟩
 have fS:∀{j:Nat} {ds:List D},j≠k→vs.lookup j=some ds→g.μ j≠g.μ k:=fun hj hl e=>hj (hr.inj _ _ _ _ hl hv e)
 have mo:cM ⟨vs,lv,N⟩ g w ⟨vs.filter fun p=>!([k]:List Nat).contains p.1,lv,N⟩ ⟨g.μ,g.τ,fun p=>g.F p∧p.block≠g.μ k⟩ w:=by
  refine⟨az _,fun _ _ _=>rfl,fun _ _ h=>h.1,az _,fun _ _=>rfl,fun _ _ m _ h=>⟨m,h,az _,fun _=>rfl⟩,fun b hb hf=>⟨rfl,fun p hp hq=>⟨hq,?_⟩,fun j ds hj=>hf.1 j ds (look hj).2,hf.2⟩,fun _=>.same fun _=>rfl⟩
  rw[hp];exact fun e=>hf.1 k _ hv e.symm
 refine⟨_,rfl,⟨fun j ds hj=>?_,fun j j' ds ds' hj CW he=>hr.inj j j' ds ds' (look hj).2 (look CW).2 he,fun id m e hi=>?_,hr.tinj,hr.base,fun p hp=>hr.fits p hp.1⟩,mo,fun t' d hd=>(nV t' d hd).mono mo,fun p hp hq=>⟨hq,?_⟩⟩
 ·obtain⟨a1,a2⟩:=look hj
  obtain⟨b1,b2,b3,xn,Mj,b4,b5,b6⟩:=hr.var j ds a2
  exact⟨b1,b2,fun p hp=>⟨b3 p hp,by rw[hp];exact fS a1 a2⟩,xn,Mj,b4,b5,fun i u hu=>⟨(b6 i u hu).1,fun d hd=>((b6 i u hu).2 d hd).mono mo⟩⟩
 ·obtain⟨b1,us,b2,b3,b4⟩:=hr.tok id m e hi
  exact⟨b1,us,b2,b3,fun b hb=>⟨fun p hp hq=>⟨(b4 b hb).1 p hp hq,by rw[hp];exact fun e=>(b4 b hb).2 k _ hv e.symm⟩,fun j ds hj=>(b4 b hb).2 j ds (look hj).2⟩⟩
 ·intro e
  omega
theorem Ex {tm:List (Nat×D)}{d0:D}:∀{ts:List Nat} {t:Nat} {d:D},(ts.map (fun t=>(t,d0))++tm).lookup t=some d→(t∈ts∧d=d0)∨tm.lookup t=some d
 |[],t,d,h=>.inr h
 |s::ts,t,d,h=>by
  by_cases Ho:t=s
  ·subst Ho
   have:some d0=some d:=by rw[←h];exact aa.symm
   injection this with this
   exact .inl ⟨rr ..,this.symm⟩
  ·rcases Ex (ts:=ts) (t:=t) (d:=d) (by rw[←h];exact (ao Ho).symm) with⟨h1,h2⟩|h1
   ·exact .inl ⟨pK _ h1,h2⟩
   ·exact .inr h1
theorem WkS.frzs {tm:List (Nat×D)}{vs:List (Nat×List D)}{lv:List (Nat×Nat×Nat×TypeId)}{N k z n:Nat}{F:List E}(ts:List Nat)(hz:0<z)(ht:∀t∈ts,tm.lookup t=some (.ow k 0 z n))(hv:vs.lookup k=some (dC F))(hF:F.length=n*z):
  WkS tm ⟨vs,lv,N⟩ (ts.map (fun t=>(t,.e (.sl z n F)))++tm) ⟨vs.filter fun p=>!([k]:List Nat).contains p.1,lv,N⟩:=by
 intro B g w ρ hr nV
 have one:∀t∈ts,∃g',(g':Gh)=⟨g.μ,g.τ,fun p=>g.F p∧p.block≠g.μ k⟩∧aF ⟨vs.filter fun p=>!([k]:List Nat).contains p.1,lv,N⟩ g' w (.e (.sl z n F)) (ρ t):=by
  intro t rO
  refine⟨_,rfl,?_⟩
  obtain⟨h1,h2,h3,cs,ty,h4,h5,h6⟩:=hr.var k _ hv
  have cY:=nV t _ (ht t rO)
  generalize ρ t=u at cY
  cases cY with
  |ow _ _ _ _ c hk qU oY=>
   have pw:F.length≤cs.size:=by rw[eH] at h5;exact h5
   refine .e _ _ (.sl z n F (some ⟨g.μ k,0,none⟩) c (fun i=>cs.getD i undef) hF hz qU oY (fun _=>⟨_,rfl,(pl.1 h4).1⟩) (fun ad ha i e hi=>?_) (fun i e hi=>?_))
   ·injection ha with ha
    subst ha
    have bO:i<cs.size:=bM (fW.1 hi).1 pw
    refine⟨?_,fun hf=>hf.2 (by rw[gD])⟩
    have e0:w.cell? (({block:=g.μ k,off:=0,spot:=none}:Addr).add i)=cs[0+i]? :=by
     by_cases h0:i=0
     ·subst h0;simp[World.cell?,Addr.add,h4]
     ·simp[World.cell?,Addr.add,h4,h0]
    rw[e0,bw]
    simp[e9,bO]
   ·have bO:i<cs.size:=bM (fW.1 hi).1 pw
    have hu:=h6 i (cs.getD i undef) (by simp[e9,bO])
    have:=hu.2 (.e e) (by unfold dC;rw[dW,hi];rfl)
    cases this with
    |e _ _ h7=>exact dA.less h7 fun p hp=>hp.1
 obtain⟨g',hg',q1,q2,q3,q4⟩:=WkS.free (lv:=lv) (N:=N) (tm:=tm) (k:=k) hv B g w ρ hr nV
 subst hg'
 refine⟨_,q1,q2,fun t d hd=>?_,q4⟩
 rcases Ex hd with⟨h1,rfl⟩|h1
 ·obtain⟨g',hg',h2⟩:=one t h1
  subst hg'
  exact h2
 ·exact q3 t d h1
theorem WkS.frzG {α:Type}(c:Cd α){l:List α}{tm:List (Nat×D)}{vs:List (Nat×List D)}{lv:List (Nat×Nat×Nat×TypeId)}{N k n:Nat}(ts:List Nat)(hn:n=l.length)(ht:∀t∈ts,tm.lookup t=some (.ow k 0 c.sz n))(hv:vs.lookup k=some (dC ((cW c).f l)))(hz:Nat.ble 1 c.sz=true:=by exact rfl):
  WkS tm ⟨vs,lv,N⟩ (ts.map (fun t=>(t,.e (slE c l)))++tm) ⟨vs.filter fun p=>!([k]:List Nat).contains p.1,lv,N⟩:=by
 subst hn
 exact WkS.frzs ts (bb hz) ht hv (iB c.f c.h l)
end
end
section
section
variable {P:Program} {tb:TypeId→Option TyE} {dr:Bool} {ev:Operand→D} {hp:Hp} {ty:TypeId} {α:Type}
theorem JJ {t e:TypeId}{i j:TyE}{n:Nat}{ps:List (Nat×Operand)}(l:List α)(c:Cd α)(ht:tb t=some i)(he:tb e=some j)(hi:i.ty=.slice e:=by exact rfl)(hz:c.sz=j.size:=by exact rfl)(MW:Nat.ble (0+1) (j.size)=true:=by exact rfl)(Ml:l.length=n+1:=by exact rfl)(hn:Nat.ble ((n+1)*j.size) (16777216)=true:=by exact rfl)(jP:my (ps.map fun p=>(p.1,ev p.2))=some ((l.zipIdx 0).map fun p=>(p.2,dC (c.f p.1))):=by exact rfl)(hd:dr=true:=by exact rfl):
  AVC P tb dr (.buildSlice t (n+1) ps.toArray) ty ev hp (Kq (dF c l) hp):=by
 have hf:=Ci c hz l 0 [] (List.replicate ((n+1)*j.size) (D.e .any)) (by simp) (by rw[sS,Ml])
 rw[nR,nR] at hf
 have:=FM (P:=P) (dr:=dr) (ty:=ty) (ev:=ev) (hp:=hp) ht he hi MW hn jP hf (Co _) hd
 show AVC _ _ _ _ _ _ _ (Kq (.fu c.sz l.length (l.flatMap c.f)) _)
 rw[hz,Ml]
 exact this
end
end
section
def Way(ops:Array Oper):List Nat→Array Bool→Prop
 |[],s=>Region.ready .any ops s=[]
 |i::l,s=>i∈Region.ready .any ops s∧Way ops l (s.setIfInBounds i true)
def Bfr(a b:Nat):List Nat→Array Bool→Prop
 |[],_=>True
 |i::l,s=>(i=b→s.getD a false=true)∧Bfr a b l (s.setIfInBounds i true)
theorem mw {ops:Array Oper}{s:Array Bool}{i:Nat}:i∈Region.ready .any ops s↔i<ops.size∧s.getD i true=false∧∃o,ops[i]? =some o∧∀e∈o.after,Region.binds .any e=true→s.getD e.on false=true:=by
 unfold Region.ready
 rw[List.mem_filter,iq]
 refine and_congr_right fun h=>?_
 rw[bK,CE]
 refine and_congr_right fun _=>?_
 cases ho:ops[i]? with
 |none=>simp
 |some o=>
  simp only[oD,xv,Array.all_eq_true',JB,CE,oz,exists_eq_left']
  refine forall_congr' fun e=>forall_congr' fun _=>?_
  cases Region.binds .any e <;> simp
theorem T9 {s:Array Bool}{i j:Nat}(h:s.getD j false=true):(s.setIfInBounds i true).getD j false=true:=by
 simp only[e9] at h ⊢
 rw[JA]
 split
 ·rename_i e
  subst e
  split
  ·rfl
  ·rename_i hs
   rw[al_2 (by omega)] at h
   simp at h
 ·exact h
theorem Hx {s:Array Bool}{i:Nat}(h:i<s.size):(s.setIfInBounds i true).getD i false=true:=by
 simp[e9,JA,h]
theorem Bfr.of {a b:Nat}:∀(l:List Nat) (s:Array Bool),s.getD a false=true→Bfr a b l s
 |[],_,_=>trivial
 |_::l,_,h=>⟨fun _=>h,Bfr.of l _ (T9 h)⟩
theorem UX {ops:Array Oper}{a b:Nat}(Gn:a≠b):∀(l:List Nat) (s:Array Bool),s.size=ops.size→Way ops l s→Bfr a b l s∨Bfr b a l s
 |[],_,_,_=>.inl trivial
 |i::l,s,hs,⟨h1,h2⟩=>by
  have hi:=(mw.1 h1).1
  by_cases ha:i=a
  ·subst ha
   exact .inl ⟨fun h=>absurd h Gn,Bfr.of l _ (Hx (by omega))⟩
  ·by_cases hb:i=b
   ·subst hb
    exact .inr ⟨fun h=>absurd h.symm Gn,Bfr.of l _ (Hx (by omega))⟩
   ·rcases UX Gn l (s.setIfInBounds i true) (by simpa using hs) h2 with h|h
    ·exact .inl ⟨fun h=>absurd h hb,h⟩
    ·exact .inr ⟨fun h=>absurd h ha,h⟩
theorem RM {ops:Array Oper}:∀(fuel t:Nat) (s:Array Bool),s.size=ops.size→unl s ops.size≤fuel→Way ops (Region.linearise.go .any ops fuel t s []) s
 |0,t,s,hs,hu=>by
  show Region.ready .any ops s=[]
  rw[Vb]
  intro i hi
  obtain⟨h1,h2,_⟩:=mw.1 hi
  have:i∈(List.range ops.size).filter fun j=>!s.getD j false:=by
   rw[List.mem_filter,iq]
   refine⟨h1,?_⟩
   have bO:i<s.size:=by omega
   have e1:s[i]?.getD true=false:=by rw[←e9];exact h2
   rw[e9]
   rw[tD bO] at e1 ⊢
   simp at e1 ⊢
   exact e1
  have hlen:=List.length_pos_of_mem this
  unfold unl at hu
  omega
 |fuel+1,t,s,hs,hu=>by
  simp only[Region.linearise.go]
  change Way ops (match (Region.ready .any ops s)[t % (Region.ready .any ops s).length]? with
   |some i=>Region.linearise.go .any ops fuel (t / (Region.ready .any ops s).length) (s.setIfInBounds i true) [i]
   |none=>[].reverse) s
  cases hi:(Region.ready .any ops s)[t % (Region.ready .any ops s).length]? with
  |none=>
   show Region.ready .any ops s=[]
   cases hr:Region.ready .any ops s with
   |nil=>rfl
   |cons x xs=>
    rw[hr] at hi
    have bO:t % (x::xs).length<(x::xs).length:=ey _ (by simp)
    rw[cP bO] at hi
    cases hi
  |some i=>
   simp only[]
   rw[linearise_go_acc,List.reverse_singleton,List.singleton_append]
   have hm:=eg hi
   obtain⟨h1,h2,_⟩:=mw.1 hm
   have bO:i<s.size:=by omega
   have hf:s.getD i false=false:=by
    have e1:s[i]?.getD true=false:=by rw[←e9];exact h2
    rw[e9]
    rw[tD bO] at e1 ⊢
    simpa using e1
   exact⟨hm,RM fuel _ _ (by simpa using hs) (by have:=Id (n:=ops.size) h1 bO hf;omega)⟩
theorem G2 {P:Program}{ops:Array Oper}{Q:Exit→Act→World→Prop}:∀(l:List Nat) (fuel:Nat) (s:Array Bool) (a:Act) (w:World),wpAny P .any ops Q fuel s a w→Way ops l s→wpOps P ops Q l a w
 |[],0,_,_,_,h,_=>by simpa[wpOps] using h.2
 |[],_+1,_,_,_,h,hw=>by simpa[wpOps] using h.1 hw
 |i::l,0,_,_,_,h,hw=>by
  have:=hw.1
  rw[h.1] at this
  cases this
 |i::l,fuel+1,s,a,w,h,hw=>by
  rw[wpOps_cons]
  exact wpOp_mono (fun a w h=>G2 l fuel _ a w h hw.2) (h.2 i hw.1)
def nA:List Oper→Nat→Oper
 |[],_=>default
 |o::_,0=>o
 |_::l,n+1=>nA l n
def ma:List Nat→Nat→Nat
 |[],_=>0
 |j::l,i=>match Nat.beq j i with
  |true=>0
  |false=>ma l i+1
def KO(p:List Nat)(i:Nat):List (Nat×Nat)→List Edge
 |[]=>[]
 |(a,b)::C=>match Nat.beq b i with
  |true=>⟨ma p a,.data⟩::KO p i C
  |false=>KO p i C
def m7(p:List Nat)(C:List (Nat×Nat))(i:Nat)(o:Oper):Oper:=⟨o.dst,o.op,o.type,o.pos,((o.after.toList.map fun e=>(⟨ma p e.on,e.ground⟩:Edge))++KO p i C).toArray,none⟩
def ek(p:List Nat)(C:List (Nat×Nat))(l:List Oper):List Oper:=p.map fun i=>m7 p C i (nA l i)
def OL(p:List Nat)(l:List Oper):Bool:=Nat.beq p.length l.length&&(List.range l.length).all (fun i=>p.elem i)&&(l.all fun o=>o.guard.isNone)&&p.all (fun i=>Nat.blt i l.length)&&(List.range l.length).all fun k=>(List.range l.length).any fun i=>Nat.beq (ma p i) k
theorem nY:∀{p:List Nat} {i:Nat},i∈p→ma p i<p.length∧p[ma p i]? =some i
 |j::p,i,h=>by
  unfold ma
  cases hb:Nat.beq j i with
  |true=>exact⟨by simp,by simpa using z6 hb⟩
  |false=>
   have fS:¬i=j:=by
    intro e;subst e
    have:Nat.beq i i=true:=Jz i
    rw[this] at hb;cases hb
   rcases kY.1 h with h|h
   ·exact absurd h fS
   ·obtain⟨h1,h2⟩:=nY h
    exact⟨by simpa using h1,by simpa using h2⟩
theorem Qm {p:List Nat}{i j:Nat}(hi:i∈p)(hj:j∈p)(h:ma p i=ma p j):i=j:=by
 have h1:=(nY hi).2
 rw[h,(nY hj).2] at h1
 injection h1 with h1
 exact h1.symm
theorem SF {l:List Oper}{o:Oper}:∀{i:Nat},l[i]? =some o→nA l i=o:=by
 induction l with
 |nil=>intro i h;simp at h
 |cons o' l ih=>
  intro i h
  cases i with
  |zero=>rw[U5] at h;injection h
  |succ i=>rw[List.getElem?_cons_succ] at h;exact ih h
theorem BW {p:List Nat}{i:Nat}{e:Edge}:∀{C:List (Nat×Nat)},e∈KO p i C→∃a,(a,i)∈C∧e=⟨ma p a,.data⟩
 |(a,b)::C,h=>by
  unfold KO at h
  cases hb:Nat.beq b i with
  |true=>
   rw[hb] at h
   obtain rfl:=z6 hb
   rcases kY.1 h with rfl|h
   ·exact⟨a,rr ..,rfl⟩
   ·obtain⟨a',h1,h2⟩:=BW h
    exact⟨a',pK _ h1,h2⟩
  |false=>
   rw[hb] at h
   obtain⟨a',h1,h2⟩:=BW h
   exact⟨a',pK _ h1,h2⟩
structure LX(p:List Nat)(l:List Oper):Prop where
 len:p.length=l.length
 mem:∀i,i<l.length→i∈p
 gd:∀o∈l,o.guard=none
 bd:∀i∈p,i<l.length
 inv:∀k,k<l.length→∃i,i<l.length∧ma p i=k
theorem MI {p:List Nat}{l:List Oper}(h:OL p l=true):LX p l:=by
 unfold OL at h
 simp only[bK,a7,iq] at h
 obtain⟨⟨⟨⟨h1,h2⟩,h3⟩,h4⟩,h5⟩:=h
 refine⟨z6 h1,fun i hi=>by simpa using h2 i hi,fun o ho=>by simpa using h3 o ho,fun i hi=>?_,fun k hk=>?_⟩
 ·exact bb (h4 i hi)
 ·obtain⟨i,hi,hb⟩:=N3.1 (h5 k hk)
  exact⟨i,iq.1 hi,z6 hb⟩
section
variable {P:Program} {p:List Nat} {C:List (Nat×Nat)} {l:List Oper}
theorem LX.get(h:LX p l){i:Nat}{o:Oper}(ho:l[i]? =some o):(ek p C l).toArray[ma p i]? =some (m7 p C i o):=by
 have hi:i<l.length:=(fW.1 ho).1
 obtain⟨_,h2⟩:=nY (h.mem i hi)
 unfold ek
 rw[Fw,dW,h2,oD,SF ho]
theorem P5(h:LX p l){Q:Exit→Act→World→Prop}{K:Act→World→Prop}{i:Nat}(hi:i<l.length){a:Act}{w:World}(hw:wpOp P (ek p C l).toArray Q (ma p i) K a w):wpOp P l.toArray Q i K a w:=by
 have ho:l[i]? =some l[i]:=cP hi
 unfold wpOp at hw ⊢
 rw[h.get ho] at hw
 rw[Fw,ho]
 generalize hoo:l[i]=o at hw ho ⊢
 have hg:=h.gd o (eg ho)
 obtain⟨dst,op,ty,pos,af,gd⟩:=o
 simp only at hg
 subst hg
 exact hw
theorem DX(h:LX p l){Q:Exit→Act→World→Prop}:∀(is:List Nat) (a:Act) (w:World),(∀i∈is,i<l.length)→wpOps P (ek p C l).toArray Q (is.map (ma p)) a w→wpOps P l.toArray Q is a w
 |[],a,w,_,hw=>hw
 |i::is,a,w,hi,hw=>by
  rw[iX,wpOps_cons] at hw
  rw[wpOps_cons]
  exact P5 h (hi i (rr ..)) (wpOp_mono (fun a w h'=>DX h is a w (fun i wE=>hi i (pK _ wE)) h') hw)
structure FN(p:List Nat)(n:Nat)(s s':Array Bool):Prop where
 s1:s.size=n
 s2:s'.size=n
 eq:∀i,i<n→s'[ma p i]? =s[i]?
theorem FN.set(h:LX p l){s s':Array Bool}(hs:FN p l.length s s'){i:Nat}(hi:i<l.length):FN p l.length (s.setIfInBounds i true) (s'.setIfInBounds (ma p i) true):=by
 refine⟨by simpa using hs.s1,by simpa using hs.s2,fun j hj=>?_⟩
 rw[JA,JA]
 have hpi:ma p i<s'.size:=by rw[hs.s2,←h.len];exact (nY (h.mem i hi)).1
 by_cases CX:i=j
 ·subst CX
  rw[ah rfl,ah rfl,ah hpi,ah (by rw[hs.s1];exact hi)]
 ·rw[ai CX,ai (fun e=>CX (Qm (h.mem i hi) (h.mem j hj) e))]
  exact hs.eq j hj
theorem FN.getD(h:LX p l){s s':Array Bool}(hs:FN p l.length s s'){j:Nat}(d:Bool)(hj:j<l.length):s'.getD (ma p j) d=s.getD j d:=by
 rw[e9,e9,hs.eq j hj]
theorem B6 {s:Array Bool}{j:Nat}(h:s.getD j false=true):j<s.size:=by
 rcases d9 j s.size with h1|h1
 ·exact h1
 ·rw[e9,al_2 h1] at h;cases h
theorem J5(h:LX p l):∀(is:List Nat) (s s':Array Bool),FN p l.length s s'→Way l.toArray is s→(∀c∈C,Bfr c.1 c.2 is s)→Way (ek p C l).toArray (is.map (ma p)) s'
 |[],s,s',hs,hw,_=>by
  show Region.ready _ _ _=[]
  rw[Vb]
  intro k hk
  obtain⟨h1,h2,o',h3,h4⟩:=mw.1 hk
  have hkp:k<p.length:=by
   have:(ek p C l).length=p.length:=bg _
   simpa[this] using h1
  -- r4 operation at k is r4 one that stood at i
  have hik:=h.inv k (by rw[←h.len];exact hkp)
  obtain⟨i,hi,rfl⟩:=hik
  have ho:l[i]? =some l[i]:=cP hi
  rw[h.get ho] at h3
  injection h3 with h3
  subst h3
  have:i∈Region.ready .any l.toArray s:=by
   refine mw.2 ⟨by simpa using hi,by rw[←hs.getD h true hi];exact h2,l[i],by rw[Fw];exact ho,fun e he hb=>?_⟩
   have h5:=h4 ⟨ma p e.on,e.ground⟩ (by
    unfold m7
    rw[PD]
    exact List.mem_append_left _ (uF.2 ⟨e,by simpa using he,rfl⟩)) hb
   have bO:ma p e.on<l.length:=by rw[←hs.s2];exact B6 h5
   by_cases Tx:e.on∈p
   ·-- it is one of r4 operations
    have hon:e.on<l.length:=h.bd _ Tx
    rwa[hs.getD h false hon] at h5
   ·exfalso
    have:ma p e.on=p.length:=by
     have gen:∀(q:List Nat),e.on∉q→ma q e.on=q.length:=by
      intro q
      induction q with
      |nil=>intro _;rfl
      |cons j q ih=>
       intro hq
       have fS:Nat.beq j e.on=false:=by
        cases hb:Nat.beq j e.on with
        |true=>exact absurd (kY.2 (.inl (z6 hb).symm)) hq
        |false=>rfl
       unfold ma
       rw[fS]
       simp only[sI]
       rw[ih fun hh=>hq (pK _ hh)]
     exact gen p Tx
    rw[this,h.len] at bO
    omega
  rw[show Region.ready .any l.toArray s=[] from hw] at this
  cases this
 |i::is,s,s',hs,⟨h1,h2⟩,hC=>by
  obtain⟨hi0,Rx,o,ho,he⟩:=mw.1 h1
  have hi:i<l.length:=by simpa using hi0
  rw[Fw] at ho
  refine⟨mw.2 ⟨?_,by rw[hs.getD h true hi];exact Rx,_,h.get ho,fun e hm hb=>?_⟩,J5 h is _ _ (hs.set h hi) h2 fun c hc=>(hC c hc).2⟩
  ·have:(ek p C l).length=p.length:=bg _
   simp only[sK,this]
   exact (nY (h.mem i hi)).1
  ·unfold m7 at hm
   rw[PD] at hm
   rcases wq.1 hm with hm|hm
   ·obtain⟨e0,he0,rfl⟩:=uF.1 hm
    have h6:=he e0 (by simpa using he0) hb
    have bO:e0.on<l.length:=by rw[←hs.s1];exact B6 h6
    rw[hs.getD h false bO];exact h6
   ·obtain⟨a,Mp,rfl⟩:=BW hm
    have h6:=(hC _ Mp).1 rfl
    have bO:a<l.length:=by rw[←hs.s1];exact B6 h6
    rw[hs.getD h false bO];exact h6
end
section
variable {P:Program} {tb:TypeId→Option TyE} {x:Cx} {tm:List (Nat×D)} {hp:Hp} {Q:Exit→List (Nat×D)→Hp→Prop} {L:List FuncId} {C:List (Nat×Nat)} {l:List Oper}
def DW(P:Program)(x:Cx)(l:List Oper)(C:List (Nat×Nat))(tm:List (Nat×D))(hp:Hp)(Q:Exit→List (Nat×D)→Hp→Prop):Prop:=
 ∀(a:Act) (w:World) (is:List Nat),RS x tm hp a w→(∀i∈is,i<l.length)→Way l.toArray is (Array.replicate l.length false)→(∀c∈C,Bfr c.1 c.2 is (Array.replicate l.length false))→wpOps P l.toArray (fun ex a' w'=>∃tm' hp',RS x tm' hp' a' w'∧Q ex tm' hp') is a w
theorem RS.drew {a:Act}{w:World}(h:RS x tm hp a w):RS x tm hp a {w with drawn:=w.drawn+1}:=by
 obtain⟨g,hr,nV,hsz,DH,hB,hF,hM⟩:=h
 exact⟨g,hr.keep (az _) (fun _ _=>rfl),fun t d hl=>(nV t d hl).mono (cM.keep hp g (az _) (fun _ _=>rfl)),hsz,DH,hB.drew,hF,hM.trans (cM.keep hp g (az _) (fun _ _=>rfl))⟩
theorem RL {ops:Array Oper}:∀(is:List Nat) (s:Array Bool),Way ops is s→∀i∈is,i<ops.size
 |[],_,_,_,h=>by cases h
 |j::is,s,hw,i,h=>by
  rcases kY.1 h with rfl|h
  ·exact (mw.1 hw.1).1
  ·exact RL is _ hw.2 i h
theorem AW.dw {id:Nat}(hm:P.follows .mixedOrders=true)(h:DW P x l [] tm hp Q):AW P x (.region id l.toArray true) tm hp Q:=by
 intro a w hr
 refine wp_region_draw fun t=>?_
 simp only[Region.schedule,hm,Bool.true_or,vO]
 have hway:=RM (ops:=l.toArray) l.toArray.size t (Array.replicate l.toArray.size false) (by simp) (by unfold unl;exact dm (N1 _ _) (by simp))
 have bO:=RL _ _ hway
 simp only[sK] at hway bO
 exact h a _ _ hr.drew bO hway (fun c hc=>by cases hc)
theorem DW.split(a b:Nat)(Gn:a≠b)(h1:DW P x l ((a,b)::C) tm hp Q)(h2:DW P x l ((b,a)::C) tm hp Q):DW P x l C tm hp Q:=by
 intro ac w is hr bO hw hC
 rcases UX Gn is _ (by simp) hw with h|h
 ·exact h1 ac w is hr bO hw fun c hc=>by
   rcases kY.1 hc with rfl|hc
   ·exact h
   ·exact hC c hc
 ·exact h2 ac w is hr bO hw fun c hc=>by
   rcases kY.1 hc with rfl|hc
   ·exact h
   ·exact hC c hc
theorem Ms {ops:Array Oper}(hN:mI x.N ops=true)(sr:AB tb L ops=true)
  (h:∀K:List (Nat×D)→Hp→Prop,(∀tm hp,Q .normal tm hp→K tm hp)→a8 P tb (.any L) ops K ops.toList tm hp) {a:Act} {w:World} (hr:RS x tm hp a w):wpAny P .any ops (fun ex a' w'=>∃tm' hp',RS x tm' hp' a' w'∧Q ex tm' hp') ops.size (Array.replicate ops.size false) a w:=by
 obtain⟨dd,hh,ac,s7,cf,hK,h1,h2⟩:=MD (ops:=ops) ops.toList 0 (fun _=>.top) (fun _=>hp) (fun _=>false) (fun _=>tm) ⟨fun _ _ h=>absurd h (by omega),fun _ _ h=>absurd h (by omega),fun _ _ h=>absurd h (by omega)⟩ rfl (h _ fun _ _ h=>h)
 simp only[bw,i7] at cf hK h1 h2
 obtain⟨g,Ge,nV,hsz,DH,hB,hF,hM⟩:=hr
 refine J3 hN (En sr) cf (fun a w hr=>⟨_,_,hr,hK⟩) ops.size _ a _ 0 g ?_ ?_
 ·have Bp:∀j,¬(Array.replicate ops.size false).getD j false=true:=by
   intro j
   simp[e9,Jy]
   split <;> simp
  refine⟨by simp,fun i _ _ _ hl=>absurd hl (Bp i),cy _,fun j _ _ _=>⟨fun hl=>absurd hl (Bp j),fun h=>absurd h (by omega)⟩,?_,fun t d hl=>?_,hsz,DH,hB,hF,?_⟩
  rotate_right
  ·rw[h2];exact hM
  ·rw[h2];exact Ge
  ·rw[h2]
   rcases hl with⟨i,_,_,hl,_⟩|⟨_,hl⟩
   ·exact absurd hl (Bp i)
   ·rw[h1] at hl
    exact nV t d hl
 ·unfold unl
  exact dm (N1 _ _) (by simp)
theorem DW.go(p:List Nat)(jP:OL p l=true)(hN:mI x.N (ek p C l).toArray=true)(sr:AB tb L (ek p C l).toArray=true)
  (h:∀K:List (Nat×D)→Hp→Prop,(∀tm hp,Q .normal tm hp→K tm hp)→a8 P tb (.any L) (ek p C l).toArray K (ek p C l) tm hp):DW P x l C tm hp Q:=by
 intro a w is hr bO hw hC
 have hP:=MI jP
 have h1:=Ms hN sr h hr
 have hlen:(ek p C l).toArray.size=l.length:=by simp[ek,hP.len]
 rw[hlen] at h1
 have hs0:FN p l.length (Array.replicate l.length false) (Array.replicate l.length false):=by
  refine⟨by simp,by simp,fun i hi=>?_⟩
  have:=(nY (hP.mem i hi)).1
  rw[Jy,Jy,ah hi,ah (by rw[←hP.len];exact this)]
 exact DX hP is a w bO (G2 _ _ _ a w h1 (J5 hP is _ _ hs0 hw hC))
end
end
def tblL:List (Nat×TyE):=[
 (3,⟨.int .i64,1,8,[.int .i64 (0)]⟩),
 (4,⟨.bool,1,1,[.bool false]⟩),
 (5,⟨.int .u8,1,1,[.int .u8 (0)]⟩),
 (9,⟨.str,1,16,[.string ⟨#[]⟩]⟩),
 (22,⟨.slice 43,1,24,[.slice none 0 0]⟩),
 (24,⟨.struct [(0,3),(1,3),(2,22)],3,40,[.int .i64 (0),.int .i64 (0),.slice none 0 0]⟩),
 (26,⟨.struct [(0,24),(3,22),(4,22)],5,88,[.int .i64 (0),.int .i64 (0),.slice none 0 0,.slice none 0 0,.slice none 0 0]⟩),
 (29,⟨.struct [(0,3),(1,22),(2,22),(3,22)],4,80,[.int .i64 (0),.slice none 0 0,.slice none 0 0,.slice none 0 0]⟩),
 (38,⟨.int .u32,1,4,[ak]⟩),
 (39,⟨.arr 16 38,16,64,[ak,ak,ak,ak,ak,ak,ak,ak,ak,ak,ak,ak,ak,ak,ak,ak]⟩),
 (41,⟨.struct [(0,4),(1,4),(2,39)],18,68,[.bool false,.bool false,ak,ak,ak,ak,ak,ak,ak,ak,ak,ak,ak,ak,ak,ak,ak,ak]⟩),
 (43,⟨.struct [(0,41),(18,41)],36,136,[.bool false,.bool false,ak,ak,ak,ak,ak,ak,ak,ak,ak,ak,ak,ak,ak,ak,ak,ak,.bool false,.bool false,ak,ak,ak,ak,ak,ak,ak,ak,ak,ak,ak,ak,ak,ak,ak,ak]⟩),
 (67,⟨.slice 3,1,24,[.slice none 0 0]⟩),
 (71,⟨.slice 78,1,24,[.slice none 0 0]⟩),
 (73,⟨.struct [(0,43),(36,22)],37,160,[.bool false,.bool false,ak,ak,ak,ak,ak,ak,ak,ak,ak,ak,ak,ak,ak,ak,ak,ak,.bool false,.bool false,ak,ak,ak,ak,ak,ak,ak,ak,ak,ak,ak,ak,ak,ak,ak,ak,.slice none 0 0]⟩),
 (75,⟨.struct [(0,71),(1,73),(38,3),(39,3),(40,3)],41,208,[.slice none 0 0,.bool false,.bool false,ak,ak,ak,ak,ak,ak,ak,ak,ak,ak,ak,ak,ak,ak,ak,ak,.bool false,.bool false,ak,ak,ak,ak,ak,ak,ak,ak,ak,ak,ak,ak,ak,ak,ak,ak,.slice none 0 0,.int .i64 (0),.int .i64 (0),.int .i64 (0)]⟩),
 (78,⟨.struct [(0,73),(37,3)],38,168,[.bool false,.bool false,ak,ak,ak,ak,ak,ak,ak,ak,ak,ak,ak,ak,ak,ak,ak,ak,.bool false,.bool false,ak,ak,ak,ak,ak,ak,ak,ak,ak,ak,ak,ak,ak,ak,ak,ak,.slice none 0 0,.int .i64 (0)]⟩),
 (145,⟨.int .u64,1,8,[.int .u64 (0)]⟩),
 (147,⟨.int .u64,1,8,[.int .u64 (0)]⟩),
 (149,⟨.arr 32 38,32,128,[ak,ak,ak,ak,ak,ak,ak,ak,ak,ak,ak,ak,ak,ak,ak,ak,ak,ak,ak,ak,ak,ak,ak,ak,ak,ak,ak,ak,ak,ak,ak,ak]⟩),
 (151,⟨.slice 38,1,24,[.slice none 0 0]⟩),
 (160,⟨.other,1,8,[.pointer none]⟩),
 (161,⟨.slice 160,1,24,[.slice none 0 0]⟩),
 (179,⟨.slice 41,1,24,[.slice none 0 0]⟩),
 (191,⟨.arr 17 38,17,68,[ak,ak,ak,ak,ak,ak,ak,ak,ak,ak,ak,ak,ak,ak,ak,ak,ak]⟩)
]
def tbl(t:TypeId):Option TyE:=tblL.lookup t
theorem d8:tbl 3=some ⟨.int .i64,1,8,[.int .i64 (0)]⟩:=rfl
theorem uY:tbl 4=some ⟨.bool,1,1,[.bool false]⟩:=rfl
theorem tb_5:tbl 5=some ⟨.int .u8,1,1,[.int .u8 (0)]⟩:=rfl
theorem tb_9:tbl 9=some ⟨.str,1,16,[.string ⟨#[]⟩]⟩:=rfl
theorem cg:tbl 22=some ⟨.slice 43,1,24,[.slice none 0 0]⟩:=rfl
theorem yH:tbl 24=some ⟨.struct [(0,3),(1,3),(2,22)],3,40,[.int .i64 (0),.int .i64 (0),.slice none 0 0]⟩:=rfl
theorem rm:tbl 26=some ⟨.struct [(0,24),(3,22),(4,22)],5,88,[.int .i64 (0),.int .i64 (0),.slice none 0 0,.slice none 0 0,.slice none 0 0]⟩:=rfl
theorem ms:tbl 29=some ⟨.struct [(0,3),(1,22),(2,22),(3,22)],4,80,[.int .i64 (0),.slice none 0 0,.slice none 0 0,.slice none 0 0]⟩:=rfl
theorem bX:tbl 38=some ⟨.int .u32,1,4,[ak]⟩:=rfl
theorem c5:tbl 39=some ⟨.arr 16 38,16,64,[ak,ak,ak,ak,ak,ak,ak,ak,ak,ak,ak,ak,ak,ak,ak,ak]⟩:=rfl
theorem fy:tbl 41=some ⟨.struct [(0,4),(1,4),(2,39)],18,68,[.bool false,.bool false,ak,ak,ak,ak,ak,ak,ak,ak,ak,ak,ak,ak,ak,ak,ak,ak]⟩:=rfl
theorem aQ:tbl 43=some ⟨.struct [(0,41),(18,41)],36,136,[.bool false,.bool false,ak,ak,ak,ak,ak,ak,ak,ak,ak,ak,ak,ak,ak,ak,ak,ak,.bool false,.bool false,ak,ak,ak,ak,ak,ak,ak,ak,ak,ak,ak,ak,ak,ak,ak,ak]⟩:=rfl
theorem c9:tbl 67=some ⟨.slice 3,1,24,[.slice none 0 0]⟩:=rfl
theorem CM:tbl 71=some ⟨.slice 78,1,24,[.slice none 0 0]⟩:=rfl
theorem Ar:tbl 73=some ⟨.struct [(0,43),(36,22)],37,160,[.bool false,.bool false,ak,ak,ak,ak,ak,ak,ak,ak,ak,ak,ak,ak,ak,ak,ak,ak,.bool false,.bool false,ak,ak,ak,ak,ak,ak,ak,ak,ak,ak,ak,ak,ak,ak,ak,ak,.slice none 0 0]⟩:=rfl
theorem tb_75:tbl 75=some ⟨.struct [(0,71),(1,73),(38,3),(39,3),(40,3)],41,208,[.slice none 0 0,.bool false,.bool false,ak,ak,ak,ak,ak,ak,ak,ak,ak,ak,ak,ak,ak,ak,ak,ak,.bool false,.bool false,ak,ak,ak,ak,ak,ak,ak,ak,ak,ak,ak,ak,ak,ak,ak,ak,.slice none 0 0,.int .i64 (0),.int .i64 (0),.int .i64 (0)]⟩:=rfl
theorem ud:tbl 78=some ⟨.struct [(0,73),(37,3)],38,168,[.bool false,.bool false,ak,ak,ak,ak,ak,ak,ak,ak,ak,ak,ak,ak,ak,ak,ak,ak,.bool false,.bool false,ak,ak,ak,ak,ak,ak,ak,ak,ak,ak,ak,ak,ak,ak,ak,ak,.slice none 0 0,.int .i64 (0)]⟩:=rfl
theorem tb_145:tbl 145=some ⟨.int .u64,1,8,[.int .u64 (0)]⟩:=rfl
theorem tb_147:tbl 147=some ⟨.int .u64,1,8,[.int .u64 (0)]⟩:=rfl
theorem Ig:tbl 149=some ⟨.arr 32 38,32,128,[ak,ak,ak,ak,ak,ak,ak,ak,ak,ak,ak,ak,ak,ak,ak,ak,ak,ak,ak,ak,ak,ak,ak,ak,ak,ak,ak,ak,ak,ak,ak,ak]⟩:=rfl
theorem RX:tbl 151=some ⟨.slice 38,1,24,[.slice none 0 0]⟩:=rfl
theorem zw:tbl 160=some ⟨.other,1,8,[.pointer none]⟩:=rfl
theorem BE:tbl 161=some ⟨.slice 160,1,24,[.slice none 0 0]⟩:=rfl
theorem qZ:tbl 179=some ⟨.slice 41,1,24,[.slice none 0 0]⟩:=rfl
theorem D7:tbl 191=some ⟨.arr 17 38,17,68,[ak,ak,ak,ak,ak,ak,ak,ak,ak,ak,ak,ak,ak,ak,ak,ak,ak]⟩:=rfl
class TB (t:TypeId) (i:outParam TyE):Prop where
 h:tbl t=some i
theorem tbI {t:TypeId}{i:TyE}[h:TB t i]:tbl t=some i:=h.h
@[reducible,instance] def itb_3:=TB.mk d8
@[reducible,instance] def itb_4:=TB.mk uY
@[reducible,instance] def itb_5:=TB.mk tb_5
@[reducible,instance] def itb_9:=TB.mk tb_9
@[reducible,instance] def itb_22:=TB.mk cg
@[reducible,instance] def itb_24:=TB.mk yH
@[reducible,instance] def itb_26:=TB.mk rm
@[reducible,instance] def itb_29:=TB.mk ms
@[reducible,instance] def itb_38:=TB.mk bX
@[reducible,instance] def itb_39:=TB.mk c5
@[reducible,instance] def itb_41:=TB.mk fy
@[reducible,instance] def itb_43:=TB.mk aQ
@[reducible,instance] def itb_67:=TB.mk c9
@[reducible,instance] def itb_71:=TB.mk CM
@[reducible,instance] def itb_73:=TB.mk Ar
@[reducible,instance] def itb_75:=TB.mk tb_75
@[reducible,instance] def itb_78:=TB.mk ud
@[reducible,instance] def itb_145:=TB.mk tb_145
@[reducible,instance] def itb_147:=TB.mk tb_147
@[reducible,instance] def itb_149:=TB.mk Ig
@[reducible,instance] def itb_151:=TB.mk RX
@[reducible,instance] def itb_160:=TB.mk zw
@[reducible,instance] def itb_161:=TB.mk BE
@[reducible,instance] def itb_179:=TB.mk qZ
@[reducible,instance] def itb_191:=TB.mk D7
def Vz(P:Program):List (Nat×TyE)→Prop
 |[]=>True
 |(t,i)::l=>((P.underlying t).map Ty.of=some i.ty∧(P.info? t).map (fun f=>(f.size,f.bytes,f.zero.map fun v=>(v.cells.toList,v.isAggV)))=some (i.size,i.bytes,some (i.zero,i.ty.agg))∧i.zero.length=i.size∧i.zero.all Value.oneCell'=true)∧Vz P l
theorem Vz.get {P:Program}:∀{l:List (Nat×TyE)} {t:Nat} {i:TyE},Vz P l→l.lookup t=some i→(P.underlying t).map Ty.of=some i.ty∧(P.info? t).map (fun f=>(f.size,f.bytes,f.zero.map fun v=>(v.cells.toList,v.isAggV)))=some (i.size,i.bytes,some (i.zero,i.ty.agg))∧i.zero.length=i.size∧i.zero.all Value.oneCell'=true
 |[],t,i,_,h=>by simp at h
 |(s,j)::l,t,i,h,hl=>by
  by_cases rO:t=s
  ·subst rO
   have:some j=some i:=by rw[←hl];exact aa.symm
   injection this with this
   subst this
   exact h.1
  ·exact Vz.get h.2 (by rw[←hl];exact (ao rO).symm)
theorem tokL:Vz prog tblL:=by
 iterate 25 refine⟨⟨by kernel_rfl,by kernel_rfl,by kernel_rfl,by kernel_rfl⟩,?_⟩
 exact trivial
theorem tok:TOk prog tbl:=fun _ _ h=>tokL.get h
theorem uc:prog.underlying 4=some .bool:=by kernel_rfl
section
section
variable {md:Md} {ops:Array Oper} {K:List (Nat×D)→Hp→Prop} {os:List Oper} {tm:List (Nat×D)} {hp hp':Hp} {t s:Tmp} {op:Op} {ty:TypeId} {pos:String} {af:Array Edge} {d d2:D} {j:Nat} {want c:Bool}
theorem s1(h:AVC prog tbl md.dr op ty (evD tm) hp (Kq d hp'))(h2:a8 prog tbl md ops K os ((t,d)::tm) hp')(hn:md.nc tbl op=true:=by exact rfl):a8 prog tbl md ops K (⟨some t,op,ty,pos,af,none⟩::os) tm hp:=st tok hn h h2
theorem s0(h:AVC prog tbl md.dr op ty (evD tm) hp (Kq d hp'))(h2:a8 prog tbl md ops K os tm hp')(hn:md.nc tbl op=true:=by exact rfl):a8 prog tbl md ops K (⟨none,op,ty,pos,af,none⟩::os) tm hp:=st_n tok hn h h2
theorem s2(h:AVC prog tbl md.dr op ty (evD tm) hp (Kq d hp'))(hl:d.le d2)(h2:a8 prog tbl md ops K os ((t,d2)::tm) hp')(hn:md.nc tbl op=true:=by exact rfl):a8 prog tbl md ops K (⟨some t,op,ty,pos,af,none⟩::os) tm hp:=st_le tok hn h hl h2
theorem g1(hw:c=want)(h:AVC prog tbl md.dr op ty (evD tm) hp (Kq d hp'))(h2:a8 prog tbl md ops K os ((t,d)::tm) hp')(hj:(ops[j]?).bind (·.dst)=some s:=by exact rfl)(hc:tm.lookup s=some (.e (.lit (.bool c))):=by exact rfl)(hn:md.nc tbl op=true:=by exact rfl):a8 prog tbl md ops K (⟨some t,op,ty,pos,af,some (j,want)⟩::os) tm hp:=Q3 tok hn hj hc hw h h2
theorem q1(h:nf prog tbl md ⟨some t,op,ty,pos,af,none⟩ (evD tm) hp d hp')(h2:a8 prog tbl md ops K os ((t,d)::tm) hp'):a8 prog tbl md ops K (⟨some t,op,ty,pos,af,none⟩::os) tm hp:=Qf rfl h h2
theorem fzO {α:Type}(c:Cd α){l:List α}{vs vs2:List (Nat×List D)}{lv:List (Nat×Nat×Nat×TypeId)}{N n:Nat}(k:Nat)(ts:List Nat)(hn:n=l.length)(h2:a8 prog tbl .seq ops K os (ts.map (fun t=>(t,.e (slE c l)))++tm) ⟨vs2,lv,N⟩)(ht:∀t∈ts,tm.lookup t=some (.ow k 0 c.sz n))(hv:vs.lookup k=some (dC ((cW c).f l)):=by exact rfl)(hz:Nat.ble 1 c.sz=true:=by exact rfl)(KY:(vs.filter fun p=>!([k]:List Nat).contains p.1)=vs2:=by exact rfl):a8 prog tbl .seq ops K os tm ⟨vs,lv,N⟩:=by
 subst KY
 exact .wk rfl (WkS.frzG c ts hn ht hv hz) h2
theorem fzA {x:Cx}{Q:Exit→List (Nat×D)→Hp→Prop}{cd:Code}{α:Type}(c:Cd α){l:List α}{vs vs2:List (Nat×List D)}{lv:List (Nat×Nat×Nat×TypeId)}{N n:Nat}(k:Nat)(ts:List Nat)(hn:n=l.length)(h2:AW prog x cd (ts.map (fun t=>(t,.e (slE c l)))++tm) ⟨vs2,lv,N⟩ Q)(ht:∀t∈ts,tm.lookup t=some (.ow k 0 c.sz n))(hv:vs.lookup k=some (dC ((cW c).f l)):=by exact rfl)(hz:Nat.ble 1 c.sz=true:=by exact rfl)(KY:(vs.filter fun p=>!([k]:List Nat).contains p.1)=vs2:=by exact rfl):AW prog x cd tm ⟨vs,lv,N⟩ Q:=by
 subst KY
 exact AW.weak (fun _ _ hr=>(WkS.frzG c ts hn ht hv hz).rs hr) h2
theorem all1 {p:Nat→Prop}{a:Nat}(h:p a):∀t∈[a],p t:=by simpa using h
theorem all2 {p:Nat→Prop}{a:Nat}{l:List Nat}(h:p a)(hl:∀t∈l,p t):∀t∈a::l,p t:=by simpa using⟨h,hl⟩
variable {x:Cx} {Q:Exit→List (Nat×D)→Hp→Prop}
theorem rg {n id:Nat}{l:List Oper}(hx:x.N=n)(hN:mI n l.toArray=true)(h:∀K:List (Nat×D)→Hp→Prop,(∀tm hp,Q .normal tm hp→K tm hp)→a8 prog tbl .seq l.toArray K l tm hp):AW prog x (.region id l.toArray false) tm hp Q:=AW.regS tbl (by rw[hx];exact hN) h
theorem rd {n id:Nat}{l:List Oper}(L:List FuncId)(hx:x.N=n)(hN:mI n l.toArray=true)(sr:AB tbl L l.toArray=true)(h:∀K:List (Nat×D)→Hp→Prop,(∀tm hp,Q .normal tm hp→K tm hp)→a8 prog tbl (.any L) l.toArray K l tm hp):AW prog x (.region id l.toArray true) tm hp Q:=AW.drwS tbl L (by kernel_rfl) (by rw[hx];exact hN) sr h
theorem dw {id:Nat}{l:List Oper}(h:DW prog x l [] tm hp Q):AW prog x (.region id l.toArray true) tm hp Q:=AW.dw (by kernel_rfl) h
theorem dwg {n:Nat}{l:List Oper}{C:List (Nat×Nat)}(L:List FuncId)(p:List Nat)(hx:x.N=n)(jP:OL p l=true)(hN:mI n (ek p C l).toArray=true)(sr:AB tbl L (ek p C l).toArray=true)(h:∀K:List (Nat×D)→Hp→Prop,(∀tm hp,Q .normal tm hp→K tm hp)→a8 prog tbl (.any L) (ek p C l).toArray K (ek p C l) tm hp):DW prog x l C tm hp Q:=DW.go p jP (by rw[hx];exact hN) sr h
def PE(x:Cx){S:Type}(e:Exit)(T:S→List (Nat×D))(H:S→Hp)(y:S)(ex:Exit)(tm:List (Nat×D))(hp:Hp):Prop:=ex=e∧Wk x tm hp (T y) (H y)
def PR(rs:List ResultVar){R:Type}(dR:R→D)(y:R)(ex:Exit)(tm:List (Nat×D))(hp:Hp):Prop:=ex=.ret∧oL tbl rs tm hp (dR y)
def PS {A B:Type}(p:A→Exit→List (Nat×D)→Hp→Prop)(q:B→Exit→List (Nat×D)→Hp→Prop)(y:A⊕B)(ex:Exit)(tm:List (Nat×D))(hp:Hp):Prop:=match y with| .inl a=>p a ex tm hp| .inr b=>q b ex tm hp
theorem PS.l {A B:Type}{p:A→Exit→List (Nat×D)→Hp→Prop}{q:B→Exit→List (Nat×D)→Hp→Prop}{a:A}{ex:Exit}(h:p a ex tm hp):PS p q (.inl a) ex tm hp:=h
theorem PS.r {A B:Type}{p:A→Exit→List (Nat×D)→Hp→Prop}{q:B→Exit→List (Nat×D)→Hp→Prop}{b:B}{ex:Exit}(h:q b ex tm hp):PS p q (.inr b) ex tm hp:=h
theorem PE.i {S:Type}{e:Exit}{T:S→List (Nat×D)}{H:S→Hp}{y:S}(hw:Wk x tm hp (T y) (H y)):PE x e T H y e tm hp:=⟨rfl,hw⟩
theorem PR.i {rs:List ResultVar}{R:Type}{dR:R→D}{y:R}(hw:oL tbl rs tm hp (dR y)):PR rs dR y .ret tm hp:=⟨rfl,hw⟩
theorem jn {c:Code}{Q':Exit→List (Nat×D)→Hp→Prop}(Q:Exit→List (Nat×D)→Hp→Prop)(h:AW prog x c tm hp Q)(hq:∀ex tm hp,Q ex tm hp→Q' ex tm hp):AW prog x c tm hp Q':=AW.mono h hq
theorem lp {c:Code}{S X:Type}{b:S→Option (S⊕X)}{Q:Exit→List (Nat×D)→Hp→Prop}{s:S}{e:X}(T:S→List (Nat×D))(H:S→Hp)(QX:X→Exit→List (Nat×D)→Hp→Prop)(h:bt b s=some e)(hw:Wk x tm hp (T s) (H s))
  (round:∀s y,b s=some y→AW prog x c (T s) (H s) (PS (PE x .normal T H) (fun e ex tm hp=>ex≠.normal∧QX e ex tm hp) y)) (hq:∀ex tm hp,QX e ex tm hp→Q ex tm hp):AW prog x (.loop c) tm hp Q:=
 AW.mono (AW.loopO T H QX (fun s y hy=>AW.mono (round s y hy) fun ex tm' hp' h=>by cases y <;> exact h) h hw) hq
end
end
section
section
variable {md:Md} {ops:Array Oper} {K:List (Nat×D)→Hp→Prop} {os:List Oper} {tm:List (Nat×D)} {hp hp':Hp} {t s:Tmp} {op:Op} {ty:TypeId} {pos:String} {af:Array Edge} {d d2:D} {j:Nat} {want c:Bool}
variable {dr:Bool} {ev:List (Nat×D)}
theorem V9 {k:IntKind}{n:Int}:AVC prog tbl dr (.assign (.const (.int k n))) ty (evD ev) hp (Kq (dI k n) hp):=LU
theorem Om {b:Bool}:AVC prog tbl dr (.assign (.const (.bool b))) ty (evD ev) hp (Kq (dB b) hp):=LU
theorem VJ {k:IntKind}{n:Int}:AVC prog tbl dr (.move (.const (.int k n))) ty (evD ev) hp (Kq (dI k n) hp):=FI
theorem VO {s tt:TypeId}{x:Operand}{i j:TyE}{f o k off:Nat}{fs:List (Nat×TypeId)}{ev:Operand→D}(hs:tbl s=some i:=by exact tbI)(hi:i.ty=.struct fs:=by exact rfl)(hf:fs[f]? =some (o,tt):=by exact rfl)(hx:ev x=.pt k off:=by exact rfl)(ht:tbl tt=some j:=by exact tbI)(hz:Nat.ble 1 j.size=true:=by exact rfl):AVC prog tbl dr (.fieldAddr s x f) ty ev hp (Kq (.pt k (off+o)) hp):=T_faP hs ht hi hf hz hx
theorem VQ {s tt:TypeId}{x:Operand}{i j:TyE}{f o off:Nat}{xs:List E}{fs:List (Nat×TypeId)}{ev:Operand→D}(hs:tbl s=some i:=by exact tbI)(hi:i.ty=.struct fs:=by exact rfl)(hf:fs[f]? =some (o,tt):=by exact rfl)(hx:ev x=.fp xs off:=by exact rfl)(ht:tbl tt=some j:=by exact tbI)(hz:Nat.ble 1 j.size=true:=by exact rfl):AVC prog tbl dr (.fieldAddr s x f) ty ev hp (Kq (.fp xs (off+o)) hp):=T_faF hs ht hi hf hz hx
theorem VN {t e:TypeId}{x:Operand}{i j:TyE}{n:Nat}{xs:List E}{ev:Operand→D}(ht:tbl t=some i:=by exact tbI)(hi:i.ty=.slice e:=by exact rfl)(he:tbl e=some j:=by exact tbI)(hx:(ev x).asSl j.size=some (n,xs):=by exact rfl):AVC prog tbl dr (.call ⟨.builtin .len,#[x],#[t]⟩) ty ev hp (Kq (dI .i64 n) hp):=Vq ht he hi hx
theorem VM {t e:TypeId}{x:Operand}{i j:TyE}{k off z n:Nat}{ev:Operand→D}(ht:tbl t=some i:=by exact tbI)(hi:i.ty=.slice e:=by exact rfl)(he:tbl e=some j:=by exact tbI)(hx:ev x=.ow k off z n:=by exact rfl):AVC prog tbl dr (.call ⟨.builtin .len,#[x],#[t]⟩) ty ev hp (Kq (dI .i64 n) hp):=CH ht he hi hx
theorem K_shl {t t':TypeId}{x y:Operand}{k k':IntKind}{a b:Int}{ev:Operand→D}(hx:ev x=dI k a:=by exact rfl)(hy:ev y=dI k' b:=by exact rfl)(hb:0≤b:=by decide):AVC prog tbl dr (.binOp .shl t x y t') ty ev hp (Kq (dI k (zI k a b)) hp):=Vk hb hx hy
theorem K_shr {t t':TypeId}{x y:Operand}{k k':IntKind}{a b:Int}{ev:Operand→D}(hx:ev x=dI k a:=by exact rfl)(hy:ev y=dI k' b:=by exact rfl)(hb:0≤b:=by decide):AVC prog tbl dr (.binOp .shr t x y t') ty ev hp (Kq (dI k (mA k a b)) hp):=Vj hb hx hy
theorem K_quo {t t':TypeId}{x y:Operand}{k:IntKind}{a b:Int}{ev:Operand→D}(hx:ev x=dI k a:=by exact rfl)(hy:ev y=dI k b:=by exact rfl)(hb:b≠0:=by decide):AVC prog tbl dr (.binOp .quo t x y t') ty ev hp (Kq (dI k (k.wrap (a.tdiv b))) hp):=HX hb hx hy
theorem K_rem {t t':TypeId}{x y:Operand}{k:IntKind}{a b:Int}{ev:Operand→D}(hx:ev x=dI k a:=by exact rfl)(hy:ev y=dI k b:=by exact rfl)(hb:b≠0:=by decide):AVC prog tbl dr (.binOp .rem t x y t') ty ev hp (Kq (dI k (a.tmod b)) hp):=FH hb hx hy
theorem sa(h2:a8 prog tbl md ops K os ((t,d)::tm) hp')(h:AVC prog tbl md.dr op ty (evD tm) hp (Kq d hp'):=by (first|exact T_mv|exact lP|exact V9|exact Om|exact A_str|exact VJ|exact M_bool|exact M_str|exact LU|exact FI|exact Vl|exact N7|exact N8|exact Vt|exact Vy|exact Vi|exact Vn|exact Vu|exact Vm|exact Vo|exact Vp|exact Vr|exact Vs|exact T_seql|exact T_sneq|exact Oa uc|exact N9 uc|exact T_and|exact T_or|exact T_xor|exact T_neg|exact K_shl|exact K_shr|exact K_quo|exact K_rem|exact VO|exact VQ|exact Vv tbI tbI|exact T_cvS tbI tbI|exact VN|exact T_lenS tbI|exact T_lenA tbI|exact VM|exact T_min|exact T_max|exact Vw))(hn:md.nc tbl op=true:=by exact rfl):a8 prog tbl md ops K (⟨some t,op,ty,pos,af,none⟩::os) tm hp:=st tok hn h h2
theorem ga(hw:c=want)(h2:a8 prog tbl md ops K os ((t,d)::tm) hp')(hj:(ops[j]?).bind (·.dst)=some s:=by exact rfl)(hc:tm.lookup s=some (.e (.lit (.bool c))):=by exact rfl)(h:AVC prog tbl md.dr op ty (evD tm) hp (Kq d hp'):=by (first|exact T_mv|exact lP|exact V9|exact Om|exact A_str|exact VJ|exact M_bool|exact M_str|exact LU|exact FI|exact Vl|exact N7|exact N8|exact Vt|exact Vy|exact Vi|exact Vn|exact Vu|exact Vm|exact Vo|exact Vp|exact Vr|exact Vs|exact T_seql|exact T_sneq|exact Oa uc|exact N9 uc|exact VO|exact VQ|exact Vv tbI tbI|exact VN|exact T_lenS tbI))(hn:md.nc tbl op=true:=by exact rfl):a8 prog tbl md ops K (⟨some t,op,ty,pos,af,some (j,want)⟩::os) tm hp:=Q3 tok hn hj hc hw h h2
theorem pn {ev:Operand→D}:((([]:List Operand).map ev).map D.ex).all D.pure=true:=rfl
theorem pA {ev:Operand→D}{a:Operand}{la:List Operand}(h:(ev a).ex.pure=true)(hl:((la.map ev).map D.ex).all D.pure=true):(((a::la).map ev).map D.ex).all D.pure=true:=by
 rw[iX,iX,gh,h,hl];rfl
theorem lC {ev:Operand→D}{a:Operand}{la:List Operand}{d':D}{ds':List D}(h:(ev a).ex.le d')(hl:leL ((la.map ev).map D.ex) ds'):leL (((a::la).map ev).map D.ex) (d'::ds'):=⟨h,hl⟩
theorem cq {f:FuncId}{la:List Operand}{ts:Array TypeId}{ds:List D}{r:D}(hc:ar prog f ds r)(h2:a8 prog tbl md ops K os ((t,r)::tm) hp)(jP:((la.map (evD tm)).map D.ex).all D.pure=true:=by repeat (first|exact pn|refine pA (cl _ _) ?_|refine pA rfl ?_))(hl:leL ((la.map (evD tm)).map D.ex) ds:=by repeat (first|exact lAn|refine lC (nZ _ _) ?_|refine lC (aw _) ?_))(hr:r.pure=true∨∃ds,r=.tu ds:=by (first|exact .inl (jS _ _)|exact .inl rfl|exact .inr ⟨_,rfl⟩)):
  a8 prog tbl md ops K (⟨some t,.call ⟨.value (.func f),la.toArray,ts⟩,ty,pos,af,none⟩::os) tm hp:=sq tok hc jP hl hr h2
theorem sc {x:Operand}{f:FuncId}{la:List Operand}{ts:Array TypeId}{ds:List D}{r:D}(hc:ar prog f ds r)(h2:a8 prog tbl md ops K os ((t,r)::tm) hp)(AQ:evD tm x=.e (.lit (.func (.func f) #[] #[])):=by exact rfl)(jP:((la.map (evD tm)).map D.ex).all D.pure=true:=by repeat (first|exact pn|refine pA (cl _ _) ?_|refine pA rfl ?_))(hl:leL ((la.map (evD tm)).map D.ex) ds:=by repeat (first|exact lAn|refine lC (nZ _ _) ?_|refine lC (aw _) ?_))(hr:r.pure=true∨∃ds,r=.tu ds:=by (first|exact .inl (jS _ _)|exact .inl rfl|exact .inr ⟨_,rfl⟩))(hn:md.nc tbl (.call ⟨.value x,la.toArray,ts⟩)=true:=by exact rfl):
  a8 prog tbl md ops K (⟨some t,.call ⟨.value x,la.toArray,ts⟩,ty,pos,af,none⟩::os) tm hp:=st tok hn (sV AQ hc jP hl hr) h2
variable {x:Cx} {Q:Exit→List (Nat×D)→Hp→Prop}
theorem rq {n id:Nat}{l:List Oper}(hx:x.N=n)(h:∀K:List (Nat×D)→Hp→Prop,(∀tm hp,Q .normal tm hp→K tm hp)→a8 prog tbl .seq l.toArray K l tm hp)(hN:mI n l.toArray=true:=by kernel_rfl):AW prog x (.region id l.toArray false) tm hp Q:=rg hx hN h
theorem rqd {n id:Nat}{l:List Oper}(L:List FuncId)(hx:x.N=n)(h:∀K:List (Nat×D)→Hp→Prop,(∀tm hp,Q .normal tm hp→K tm hp)→a8 prog tbl (.any L) l.toArray K l tm hp)(hN:mI n l.toArray=true:=by kernel_rfl)(sr:AB tbl L l.toArray=true:=by kernel_rfl):AW prog x (.region id l.toArray true) tm hp Q:=rd L hx hN sr h
theorem rv1 {q:ResultVar}{r:D}(h:oL tbl [q] tm hp r:=by (first|exact oL.mk1 (Im rfl (.inr (.inr ⟨_,(aw _),rfl,rfl⟩)))|exact oL.mk1 (In rfl tbI rfl rfl (ltb rfl) (Cd.h _ _) (.inr (.inr ⟨_,(aw _),jS _ _,rfl⟩))))):oL tbl [q] tm hp r:=h
theorem rv2 {q q':ResultVar}{r:D}(h:oL tbl [q,q'] tm hp r:=by (first|exact oL.mk2 (Im rfl (Im rfl (.inr ⟨_,_,(aw _),(aw _),⟨rfl,rfl⟩,rfl⟩)))|exact oL.mk2 (In rfl tbI rfl rfl (ltb rfl) (Cd.h _ _) (Im rfl (.inr ⟨_,_,(aw _),(aw _),⟨jS _ _,rfl⟩,rfl⟩)))|exact oL.mk2 (In rfl tbI rfl rfl (ltb rfl) (Cd.h _ _) (In rfl tbI rfl rfl (ltb rfl) (Cd.h _ _) (.inr ⟨_,_,(aw _),(aw _),⟨jS _ _,jS _ _⟩,rfl⟩))))):oL tbl [q,q'] tm hp r:=h
theorem pe0 {S:Type}{e:Exit}{T:S→List (Nat×D)}{H:S→Hp}{y:S}{vars':List (Nat×List D)}{iJ:List (Nat×Nat×Nat×TypeId)}{m:Nat}{tm':List (Nat×D)}(h0:x.hp0=⟨[],[],0⟩)(os:List Nat)(hT:T y=tm':=by exact rfl)(hH:H y=⟨vars',iJ,m⟩:=by exact rfl)(ht:wkT (sg 0 os) m tm tm':=by repeat (first|exact wTn|refine wR rfl ?_|refine wG rfl (aw _) ?_))(hv:wkV (sg 0 os) m hp.vars vars':=by repeat (first|exact wVn|refine vC rfl ?_|refine vR rfl ?_))(hl:wkL (sg 0 os) m hp.live iJ:=by repeat (first|exact wLn|refine wL rfl rfl ?_))(AP:os.Nodup:=by decide)(hm:m=0+os.length:=by exact rfl):PE x e T H y e tm hp:=PE.i (by rw[hT,hH];exact wk h0 os ht hv hl AP hm)
theorem rs {n id:Nat}{l:List Oper}{b:Code}(hx:x.N=n)(h:∀K:List (Nat×D)→Hp→Prop,(∀tm hp,AW prog x b tm hp Q→K tm hp)→a8 prog tbl .seq l.toArray K l tm hp)(hN:mI n l.toArray=true:=by kernel_rfl):AW prog x (.seq (.region id l.toArray false) b) tm hp Q:=AW.seq (rg hx hN fun K hK=>h K hK)
theorem rsd {n id:Nat}{l:List Oper}{b:Code}(L:List FuncId)(hx:x.N=n)(h:∀K:List (Nat×D)→Hp→Prop,(∀tm hp,AW prog x b tm hp Q→K tm hp)→a8 prog tbl (.any L) l.toArray K l tm hp)(hN:mI n l.toArray=true:=by kernel_rfl)(sr:AB tbl L l.toArray=true:=by kernel_rfl):AW prog x (.seq (.region id l.toArray true) b) tm hp Q:=AW.seq (rd L hx hN sr fun K hK=>h K hK)
theorem ra {n id:Nat}{l:List Oper}{b:Code}{tm':List (Nat×D)}(hx:x.N=n)(h2:AW prog x b tm' hp' Q)(h:∀K:List (Nat×D)→Hp→Prop,K tm' hp'→a8 prog tbl .seq l.toArray K l tm hp:=by (intro K hK;(repeat (refine sa ?_));exact .nil hK))(hN:mI n l.toArray=true:=by kernel_rfl):AW prog x (.seq (.region id l.toArray false) b) tm hp Q:=rs hx (fun K hK=>h K (hK _ _ h2)) hN
theorem rb {n id:Nat}{l:List Oper}{tm':List (Nat×D)}(hx:x.N=n)(h2:Q .normal tm' hp')(h:∀K:List (Nat×D)→Hp→Prop,K tm' hp'→a8 prog tbl .seq l.toArray K l tm hp:=by (intro K hK;(repeat (refine sa ?_));exact .nil hK))(hN:mI n l.toArray=true:=by kernel_rfl):AW prog x (.region id l.toArray false) tm hp Q:=rq hx (fun K hK=>h K (hK _ _ h2)) hN
theorem cdh {R:Type}{y z:Option R}{r:R}{c:Operand}{c1 c2:Code}{b:Bool}(h:cnd b y z=some r)(hc:evD tm c=.e (.lit (.bool b)))(ht:b=true→y=some r→AW prog x c1 tm hp Q)(hf:b=false→z=some r→AW prog x c2 tm hp Q):AW prog x (.cond c c1 c2) tm hp Q:=AW.condS hc (fun hb=>ht hb (cnd_t hb h)) fun hb=>hf hb (cnd_f hb h)
theorem scb {R S:Type}{g:Option S}{k:S→Option R}{z:R}{x:Operand}{f:FuncId}{la:List Operand}{ts:Array TypeId}{ds:List D}{dr:S→D}(h:bnd g k=some z)(w:∀{y:S},g=some y→ar prog f ds (dr y))(h2:∀y,k y=some z→a8 prog tbl md ops K os ((t,dr y)::tm) hp)(AQ:evD tm x=.e (.lit (.func (.func f) #[] #[])):=by exact rfl)(jP:((la.map (evD tm)).map D.ex).all D.pure=true:=by repeat (first|exact pn|refine pA (cl _ _) ?_|refine pA rfl ?_))(hl:leL ((la.map (evD tm)).map D.ex) ds:=by repeat (first|exact lAn|refine lC (nZ _ _) ?_|refine lC (aw _) ?_))(hr:∀y,(dr y).pure=true∨∃ds,dr y=.tu ds:=by (intro y;first|exact .inl (jS _ _)|exact .inl rfl|exact .inr ⟨_,rfl⟩))(hn:md.nc tbl (.call ⟨.value x,la.toArray,ts⟩)=true:=by exact rfl):
  a8 prog tbl md ops K (⟨some t,.call ⟨.value x,la.toArray,ts⟩,ty,pos,af,none⟩::os) tm hp:=by
 obtain⟨y,h3,h4⟩:=ae h
 exact st tok hn (sV AQ (w h3) jP hl (hr y)) (h2 y h4)
theorem cqb {R S:Type}{g:Option S}{k:S→Option R}{z:R}{f:FuncId}{la:List Operand}{ts:Array TypeId}{ds:List D}{dr:S→D}(h:bnd g k=some z)(w:∀{y:S},g=some y→ar prog f ds (dr y))(h2:∀y,k y=some z→a8 prog tbl md ops K os ((t,dr y)::tm) hp)(jP:((la.map (evD tm)).map D.ex).all D.pure=true:=by repeat (first|exact pn|refine pA (cl _ _) ?_|refine pA rfl ?_))(hl:leL ((la.map (evD tm)).map D.ex) ds:=by repeat (first|exact lAn|refine lC (nZ _ _) ?_|refine lC (aw _) ?_))(hr:∀y,(dr y).pure=true∨∃ds,dr y=.tu ds:=by (intro y;first|exact .inl (jS _ _)|exact .inl rfl|exact .inr ⟨_,rfl⟩)):
  a8 prog tbl md ops K (⟨some t,.call ⟨.value (.func f),la.toArray,ts⟩,ty,pos,af,none⟩::os) tm hp:=by
 obtain⟨y,h3,h4⟩:=ae h
 exact sq tok (w h3) jP hl (hr y) (h2 y h4)
theorem bk {f : FuncId} {fn : Func} {c : Code} {ds : List D} {r : D} {rs : List ResultVar} {tm0 : List (Nat × D)} (h : ∀ x : Cx, x.N = fn.ntmps → x.hp0 = ⟨[], [], 0⟩ → AW prog x c tm0 ⟨[], [], 0⟩ fun ex tm hp => match ex with | .normal | .ret => oL tbl rs tm hp r | _ => False) (hf : prog.funcs[f]? = some fn) (hb : fn.body = some c := by exact rfl) (EI : (fn.name == "runtime.NumGoroutine") = false := by exact rfl) (hN : Nat.ble ds.length fn.ntmps = true := by exact rfl) (Gc : fn.results.toList = rs := by exact rfl) (nV : fP 0 ds = tm0 := by (simp only [fP, Nat.reduceAdd, bw]; rfl)) : ar prog f ds r := ar.of tok hf hb EI (bb hN) Gc (by rw [nV]; exact h)
end
end
section
variable {md:Md} {ops:Array Oper} {K:List (Nat×D)→Hp→Prop} {os:List Oper} {tm:List (Nat×D)} {hp hp':Hp} {t s:Tmp} {op:Op} {ty:TypeId} {pos:String} {af:Array Edge} {d d2:D} {j:Nat} {want c:Bool}
variable {dr:Bool} {ev:Operand→D}
theorem KT_T {cn x y:Operand}{b:Bool}(hc:ev cn=dB b:=by exact rfl)(h:ev x=d:=by exact rfl)(hb:b=true:=by (with_reducible first|rfl|assumption)):AVC prog tbl dr (.pick cn x y) ty ev hp (Kq d hp):=pp hb hc h
theorem KT_F {cn x y:Operand}{b:Bool}(hc:ev cn=dB b:=by exact rfl)(h:ev y=d:=by exact rfl)(hb:b=false:=by (with_reducible first|rfl|assumption)):AVC prog tbl dr (.pick cn x y) ty ev hp (Kq d hp):=mm hb hc h
theorem KT_S {x y:Operand}{t e:TypeId}{i j:TyE}{n:Nat}{xs:List E}{k:IntKind}{v:Int}(ht:tbl t=some i:=by exact tbI)(hi:i.ty=.slice e:=by exact rfl)(he:tbl e=some j:=by exact tbI)(hx:(ev x).asSl j.size=some (n,xs):=by exact rfl)(hy:ev y=dI k v:=by exact rfl)(hb:0≤v∧v<(n:Int):=by assumption):AVC prog tbl dr (.indexAddr t x y) ty ev hp (Kq (.fp xs (v.toNat*j.size)) hp):=PN hb ht he hi hx hy
theorem KT_A {x y:Operand}{t e:TypeId}{i j:TyE}{n m off:Nat}{k:IntKind}{v:Int}(ht:tbl t=some i:=by exact tbI)(hi:i.ty=.arr n e:=by exact rfl)(he:tbl e=some j:=by exact tbI)(hx:ev x=.pt m off:=by exact rfl)(hy:ev y=dI k v:=by exact rfl)(hb:0≤v∧v<(n:Int):=by (first|assumption|decide)):AVC prog tbl dr (.indexAddr t x y) ty ev hp (Kq (.pt m (off+v.toNat*j.size)) hp):=wv hb ht he hi hx hy
theorem KJ(h2:a8 prog tbl md ops K os ((t,.tu [])::tm) hp)(hj:(ops[j]?).bind (·.dst)=some s:=by exact rfl)(hc:tm.lookup s=some (.e (.lit (.bool c))):=by exact rfl)(hw:c= !want:=by (first|(show _=false;with_reducible first|rfl|assumption)|(show _=true;with_reducible first|rfl|assumption))):a8 prog tbl md ops K (⟨some t,op,ty,pos,af,some (j,want)⟩::os) tm hp:=Es hj hc hw h2
theorem KV_i {α:Type}{x:Operand}{c1:Cd α}{k N:Nat}{b:α}{vs:List (Nat×List D)}{lv:List (Nat×Nat×Nat×TypeId)}{t:TypeId}{i:TyE}(hx:ev x=.pt k 0:=by exact rfl)(hv:vs.lookup k=some (dC (c1.f b)):=by exact rfl)(ht:tbl t=some i:=by exact tbI)(hg:i.ty.agg=true:=by exact rfl)(hz:c1.sz=i.size:=by exact rfl)(hk:Nat.ble (k+1) N=true:=by exact rfl):AVC prog tbl dr (.load t x) ty ev ⟨vs,lv,N⟩ (Kq (dG c1 b) ⟨vs,lv,N⟩):=Bm (b9.id _ _) ht hg hz hx hv hk
theorem KV_s {α:Type}{x y:Operand}{c1:Cd α}{k N:Nat}{b b':α}{vs:List (Nat×List D)}{lv:List (Nat×Nat×Nat×TypeId)}{t:TypeId}{i:TyE}(hx:ev x=.pt k 0:=by exact rfl)(hv:vs.lookup k=some (dC (c1.f b)):=by exact rfl)(ht:tbl t=some i:=by exact tbI)(hz:c1.sz=i.size:=by exact rfl)(hy:(ev y).cells=some (dC (c1.f b')):=by exact rfl):AVC prog tbl dr (.store t x y) ty ev ⟨vs,lv,N⟩ (Kq .top ⟨(k,dC (c1.f b'))::vs,lv,N⟩):=zd (b9.id _ _) ht hy hz hx hv
theorem KV_l {α:Type}[Inhabited α]{x:Operand}{F:List E}{c1:Cd α}{m o n k N off:Nat}{b:Vector α m}{F':Vector α m→List E}{vs:List (Nat×List D)}{lv:List (Nat×Nat×Nat×TypeId)}{t:TypeId}{i:TyE}{e:E}(L:b9 F (cA m c1) o b F')(ht:tbl t=some i:=by exact tbI)(hg:i.ty.agg=false:=by exact rfl)(hx:ev x=.pt k off:=by exact rfl)(hv:vs.lookup k=some (dC F):=by exact rfl)(ho:off=o+n*c1.sz:=by exact rfl)(he:c1.f b[n]! =[e]:=by exact rfl)(hk:Nat.ble (k+1) N=true:=by exact rfl)(hn:n<m:=by (first|assumption|omega)):AVC prog tbl dr (.load t x) ty ev ⟨vs,lv,N⟩ (Kq (.e e) ⟨vs,lv,N⟩):=xI (b9.comp L (b9.vec c1 b n hn) (fun _=>rfl)) ht he hg (ho▸hx) hv hk
theorem nl {R:List (Nat×D)→Hp→Prop}(hK:∀tm hp,R tm hp→K tm hp)(h2:R tm hp):a8 prog tbl md ops K [] tm hp:=.nil (hK _ _ h2)
theorem gcl {x:Operand}{f:FuncId}{la:List Operand}{ts:Array TypeId}{ds:List D}{r:D}(hc:ar prog f ds r)(h2:a8 prog tbl md ops K os ((t,r)::tm) hp)(AQ:evD tm x=.e (.lit (.func (.func f) #[] #[])):=by exact rfl)(jP:((la.map (evD tm)).map D.ex).all D.pure=true:=by repeat (first|exact pn|refine pA (cl _ _) ?_|refine pA rfl ?_))(hl:leL ((la.map (evD tm)).map D.ex) ds:=by repeat (first|exact lAn|refine lC (nZ _ _) ?_|refine lC (aw _) ?_))(hr:r.pure=true∨∃ds,r=.tu ds:=by (first|exact .inl (jS _ _)|exact .inl rfl|exact .inr ⟨_,rfl⟩))(hj:(ops[j]?).bind (·.dst)=some s:=by exact rfl)(hg:tm.lookup s=some (.e (.lit (.bool c))):=by exact rfl)(hw:c=want:=by (with_reducible first|rfl|assumption))(hn:md.nc tbl (.call ⟨.value x,la.toArray,ts⟩)=true:=by exact rfl):a8 prog tbl md ops K (⟨some t,.call ⟨.value x,la.toArray,ts⟩,ty,pos,af,some (j,want)⟩::os) tm hp:=Q3 tok hn hj hg hw (sV AQ hc jP hl hr) h2
theorem gcb {R S:Type}{g:Option S}{k:S→Option R}{z:R}{x:Operand}{f:FuncId}{la:List Operand}{ts:Array TypeId}{ds:List D}{dr:S→D}(h:bnd g k=some z)(w:∀{y:S},g=some y→ar prog f ds (dr y))(h2:∀y,k y=some z→a8 prog tbl md ops K os ((t,dr y)::tm) hp)(AQ:evD tm x=.e (.lit (.func (.func f) #[] #[])):=by exact rfl)(jP:((la.map (evD tm)).map D.ex).all D.pure=true:=by repeat (first|exact pn|refine pA (cl _ _) ?_|refine pA rfl ?_))(hl:leL ((la.map (evD tm)).map D.ex) ds:=by repeat (first|exact lAn|refine lC (nZ _ _) ?_|refine lC (aw _) ?_))(hr:∀y,(dr y).pure=true∨∃ds,dr y=.tu ds:=by (intro y;first|exact .inl (jS _ _)|exact .inl rfl|exact .inr ⟨_,rfl⟩))(hj:(ops[j]?).bind (·.dst)=some s:=by exact rfl)(hg:tm.lookup s=some (.e (.lit (.bool c))):=by exact rfl)(hw:c=want:=by (with_reducible first|rfl|assumption))(hn:md.nc tbl (.call ⟨.value x,la.toArray,ts⟩)=true:=by exact rfl):a8 prog tbl md ops K (⟨some t,.call ⟨.value x,la.toArray,ts⟩,ty,pos,af,some (j,want)⟩::os) tm hp:=by
 obtain⟨y,h3,h4⟩:=ae h
 exact Q3 tok hn hj hg hw (sV AQ (w h3) jP hl (hr y)) (h2 y h4)
end
section
variable {x:Cx} {tm:List (Nat×D)} {hp hp':Hp} {Q:Exit→List (Nat×D)→Hp→Prop}
theorem aE {R:Type}{b:Bool}{y z:Option R}{r:R}(h:cnd b y z=some r):(b=true∧y=some r)∨(b=false∧z=some r):=by cases b <;> simpa[cnd] using h
theorem wk0 {tm':List (Nat×D)}{vars':List (Nat×List D)}{iJ:List (Nat×Nat×Nat×TypeId)}{m:Nat}(h0:x.hp0=⟨[],[],0⟩)(os:List Nat)(ht:wkT (sg 0 os) m tm tm':=by repeat (first|exact wTn|refine wR rfl ?_))(hv:wkV (sg 0 os) m hp.vars vars':=by repeat (first|exact wVn|refine vC rfl ?_|refine vR rfl ?_))(hl:wkL (sg 0 os) m hp.live iJ:=by repeat (first|exact wLn|refine wL rfl rfl ?_))(AP:os.Nodup:=by decide)(hm:m=0+os.length:=by exact rfl):Wk x tm hp tm' ⟨vars',iJ,m⟩:=wk h0 os ht hv hl AP hm
theorem pe1 {S:Type}{e:Exit}{T:S→List (Nat×D)}{H:S→Hp}{a:S}{vars':List (Nat×List D)}{iJ:List (Nat×Nat×Nat×TypeId)}{m:Nat}{tm':List (Nat×D)}{y:S}(h:some a=some y)(h0:x.hp0=⟨[],[],0⟩)(os:List Nat)(hT:T a=tm':=by exact rfl)(hH:H a=⟨vars',iJ,m⟩:=by exact rfl)(ht:wkT (sg 0 os) m tm tm':=by repeat (first|exact wTn|refine wR rfl ?_|refine wG rfl (aw _) ?_))(hv:wkV (sg 0 os) m hp.vars vars':=by repeat (first|exact wVn|refine vC rfl ?_|refine vR rfl ?_))(hl:wkL (sg 0 os) m hp.live iJ:=by repeat (first|exact wLn|refine wL rfl rfl ?_))(AP:os.Nodup:=by decide)(hm:m=0+os.length:=by exact rfl):PE x e T H y e tm hp:=by cases h;exact pe0 h0 os hT hH ht hv hl AP hm
theorem pel {S:Type}{e:Exit}{T:S→List (Nat×D)}{H:S→Hp}{a:S}{vars':List (Nat×List D)}{iJ:List (Nat×Nat×Nat×TypeId)}{m:Nat}{tm':List (Nat×D)}{B:Type}{q:B→Exit→List (Nat×D)→Hp→Prop}{y:S⊕B}(h:some (.inl a)=some y)(h0:x.hp0=⟨[],[],0⟩)(os:List Nat)(hT:T a=tm':=by exact rfl)(hH:H a=⟨vars',iJ,m⟩:=by exact rfl)(ht:wkT (sg 0 os) m tm tm':=by repeat (first|exact wTn|refine wR rfl ?_|refine wG rfl (aw _) ?_))(hv:wkV (sg 0 os) m hp.vars vars':=by repeat (first|exact wVn|refine vC rfl ?_|refine vR rfl ?_))(hl:wkL (sg 0 os) m hp.live iJ:=by repeat (first|exact wLn|refine wL rfl rfl ?_))(AP:os.Nodup:=by decide)(hm:m=0+os.length:=by exact rfl):PS (PE x e T H) q y e tm hp:=by cases h;exact pe0 h0 os hT hH ht hv hl AP hm
theorem per {S:Type}{T:S→List (Nat×D)}{H:S→Hp}{a:S}{vars':List (Nat×List D)}{iJ:List (Nat×Nat×Nat×TypeId)}{m:Nat}{tm':List (Nat×D)}{A:Type}{p:A→Exit→List (Nat×D)→Hp→Prop}{y:A⊕S}{id:Nat}(h:some (.inr a)=some y)(h0:x.hp0=⟨[],[],0⟩)(os:List Nat)(hT:T a=tm':=by exact rfl)(hH:H a=⟨vars',iJ,m⟩:=by exact rfl)(ht:wkT (sg 0 os) m tm tm':=by repeat (first|exact wTn|refine wR rfl ?_|refine wG rfl (aw _) ?_))(hv:wkV (sg 0 os) m hp.vars vars':=by repeat (first|exact wVn|refine vC rfl ?_|refine vR rfl ?_))(hl:wkL (sg 0 os) m hp.live iJ:=by repeat (first|exact wLn|refine wL rfl rfl ?_))(AP:os.Nodup:=by decide)(hm:m=0+os.length:=by exact rfl):PS p (fun z ex tm hp=>ex≠Exit.normal∧PE x (.exit id) T H z ex tm hp) y (.exit id) tm hp:=by cases h;exact⟨by nofun,pe0 h0 os hT hH ht hv hl AP hm⟩
theorem peq {S:Type}{T:S→List (Nat×D)}{H:S→Hp}{a:S}{vars':List (Nat×List D)}{iJ:List (Nat×Nat×Nat×TypeId)}{m:Nat}{tm':List (Nat×D)}{A B:Type}{p:A→Exit→List (Nat×D)→Hp→Prop}{q:B→Exit→List (Nat×D)→Hp→Prop}{y:A⊕(B⊕S)}{id:Nat}(h:some (.inr (.inr a))=some y)(h0:x.hp0=⟨[],[],0⟩)(os:List Nat)(hT:T a=tm':=by exact rfl)(hH:H a=⟨vars',iJ,m⟩:=by exact rfl)(ht:wkT (sg 0 os) m tm tm':=by repeat (first|exact wTn|refine wR rfl ?_|refine wG rfl (aw _) ?_))(hv:wkV (sg 0 os) m hp.vars vars':=by repeat (first|exact wVn|refine vC rfl ?_|refine vR rfl ?_))(hl:wkL (sg 0 os) m hp.live iJ:=by repeat (first|exact wLn|refine wL rfl rfl ?_))(AP:os.Nodup:=by decide)(hm:m=0+os.length:=by exact rfl):PS p (fun z ex tm hp=>ex≠Exit.normal∧PS q (PE x (.exit id) T H) z ex tm hp) y (.exit id) tm hp:=by cases h;exact⟨by nofun,pe0 h0 os hT hH ht hv hl AP hm⟩
theorem lw0 {S:Type}{e:Exit}{T:S→List (Nat×D)}{H:S→Hp}{y:S}{c:Code}{Q0:Exit→List (Nat×D)→Hp→Prop}(h2:AW prog x c (T y) (H y) Q)(hQ:∀tm hp,AW prog x c tm hp Q→Q0 e tm hp:=by (intro _ _ hq;(try dsimp only);(try simp only[vO,reduceIte,Nat.reduceEqDiff,reduceCtorEq]);exact hq)):∀ex tm hp,PE x e T H y ex tm hp→Q0 ex tm hp:=by
 rintro ex tm hp ⟨rfl,hw⟩
 exact hQ _ _ (AW.weak hw h2)
theorem rtv {R:Type}{a r:R}{q:ResultVar}{f:R→D}(h:some a=some r)(hq:oL tbl [q] tm hp (f a):=by exact rv1):oL tbl [q] tm hp (f r):=by cases h;exact hq
theorem lwr {S:Type}{e:Exit}{T:S→List (Nat×D)}{H:S→Hp}{y:S}{A:Type}{p:A→Exit→List (Nat×D)→Hp→Prop}{c:Code}{Q0:Exit→List (Nat×D)→Hp→Prop}(h2:AW prog x c (T y) (H y) Q)(hQ:∀tm hp,AW prog x c tm hp Q→Q0 e tm hp:=by (intro _ _ hq;(try dsimp only);(try simp only[vO,reduceIte,Nat.reduceEqDiff,reduceCtorEq]);exact hq)):∀ex tm hp,PS p (PE x e T H) (.inr y) ex tm hp→Q0 ex tm hp:=lw0 h2 hQ
end
abbrev al_cV:Cd (Vector Int 16):=cA 16 (cI .u32)
structure ap where
 vBad:Bool
 vNeg:Bool
 vW:Vector Int 16
 deriving Inhabited,DecidableEq
abbrev ct:ap:=⟨false,false,er⟩
def aq:Cd ap:=⟨18,fun x=>[.lit (.bool x.vBad),.lit (.bool x.vNeg)]++al_cV.f x.vW,fun x=>by simp[al_cV.h,show al_cV.sz=16 from rfl]⟩
theorem tq(x:ap):b9 (aq.f x) cB 0 x.vBad (fun y=>aq.f (⟨y,x.vNeg,x.vW⟩:ap)):=
 b9.of ([]) ((cB).f x.vNeg++(al_cV).f x.vW) (by first|rfl|(simp[al_cV.h,cB.h];first|rfl|done)) (by first|rfl|simp[aq,cI,cB,cS,cL,dh]) (fun y=>by first|rfl|simp[aq,cI,cB,cS,cL,dh])
theorem oe(x:ap):b9 (aq.f x) cB 1 x.vNeg (fun y=>aq.f (⟨x.vBad,y,x.vW⟩:ap)):=
 b9.of ((cB).f x.vBad) ((al_cV).f x.vW) (by first|rfl|(simp[al_cV.h,cB.h];first|rfl|done)) (by first|rfl|simp[aq,cI,cB,cS,cL,dh]) (fun y=>by first|rfl|simp[aq,cI,cB,cS,cL,dh])
theorem od(x:ap):b9 (aq.f x) al_cV 2 x.vW (fun y=>aq.f (⟨x.vBad,x.vNeg,y⟩:ap)):=
 b9.of ((cB).f x.vBad++(cB).f x.vNeg) ([]) (by first|rfl|(simp[al_cV.h,cB.h];first|rfl|done)) (by first|rfl|simp[aq,cI,cB,cS,cL,dh]) (fun y=>by first|rfl|simp[aq,cI,cB,cS,cL,dh])
section
variable {md:Md} {ops:Array Oper} {K:List (Nat×D)→Hp→Prop} {os:List Oper} {tm:List (Nat×D)} {hp hp':Hp} {t s:Tmp} {op:Op} {ty:TypeId} {pos:String} {af:Array Edge} {d d2:D} {j:Nat} {want c:Bool}
variable {dr:Bool} {ev:Operand→D}
theorem av(h:AVC prog tbl dr op ty ev hp (Kq d hp'):=by (first|exact T_mv|exact lP|exact V9|exact Om|exact A_str|exact VJ|exact M_bool|exact M_str|exact LU|exact FI|exact Vl|exact N7|exact N8|exact Vt|exact Vy|exact Vi|exact Vn|exact Vu|exact Vm|exact Vo|exact Vp|exact Vr|exact Vs|exact T_seql|exact T_sneq|exact Oa uc|exact N9 uc|exact T_and|exact T_or|exact T_xor|exact T_neg|exact K_shl|exact K_shr|exact K_quo|exact K_rem|exact VO|exact VQ|exact Vv tbI tbI|exact T_cvS tbI tbI|exact VN|exact T_lenS tbI|exact T_lenA tbI|exact VM|exact T_min|exact T_max|exact Vw|exact KT_T|exact KT_F|exact KT_A|exact KT_S|exact KV_i)):AVC prog tbl dr op ty ev hp (Kq d hp'):=h
theorem avi(h:AVC prog tbl dr op ty ev hp (Kq d hp'):=by (first|exact av|exact KV_l (b9.id _ _)|exact zf (F:=al_cV.f (er)) c5|exact xI (oe _) tbI|exact xI (tq _) tbI|exact Bm (od _) tbI|exact KV_l (od _)|exact zf (F:=aq.f (⟨false,false,(er)⟩:ap)) fy|exact T_ldC tbI|exact T_ldA tbI)):AVC prog tbl dr op ty ev hp (Kq d hp'):=h
theorem sbi(h2:a8 prog tbl md ops K os ((t,d)::tm) hp')(h:AVC prog tbl md.dr op ty (evD tm) hp (Kq d hp'):=by exact avi)(hn:md.nc tbl op=true:=by exact rfl):a8 prog tbl md ops K (⟨some t,op,ty,pos,af,none⟩::os) tm hp:=st tok hn h h2
theorem tzi(h2:a8 prog tbl md ops K os tm hp')(h:AVC prog tbl md.dr op ty (evD tm) hp (Kq .top hp'):=by (first|exact KV_s))(hn:md.nc tbl op=true:=by exact rfl):a8 prog tbl md ops K (⟨none,op,ty,pos,af,none⟩::os) tm hp:=st_n tok hn h h2
theorem gbi(h2:a8 prog tbl md ops K os ((t,d)::tm) hp')(hj:(ops[j]?).bind (·.dst)=some s:=by exact rfl)(hc:tm.lookup s=some (.e (.lit (.bool c))):=by exact rfl)(hw:c=want:=by (with_reducible first|rfl|assumption))(h:AVC prog tbl md.dr op ty (evD tm) hp (Kq d hp'):=by exact avi)(hn:md.nc tbl op=true:=by exact rfl):a8 prog tbl md ops K (⟨some t,op,ty,pos,af,some (j,want)⟩::os) tm hp:=Q3 tok hn hj hc hw h h2
theorem mbi {os':List Oper}{tm':List (Nat×D)}(h2:a8 prog tbl md ops K os' tm' hp')(h:a8 prog tbl md ops K os' tm' hp'→a8 prog tbl md ops K os tm hp:=by (intro h;(repeat (first|refine sbi ?_|refine tzi ?_|refine gbi ?_|refine KJ ?_));exact h)):a8 prog tbl md ops K os tm hp:=h h2
theorem nbi {R:List (Nat×D)→Hp→Prop}{tm':List (Nat×D)}(hK:∀tm hp,R tm hp→K tm hp)(h2:R tm' hp')(h:K tm' hp'→a8 prog tbl md ops K os tm hp:=by (intro h;(repeat (first|refine sbi ?_|refine tzi ?_|refine gbi ?_|refine KJ ?_));exact .nil h)):a8 prog tbl md ops K os tm hp:=h (hK _ _ h2)
end
section
variable {x:Cx} {tm:List (Nat×D)} {hp hp':Hp} {Q:Exit→List (Nat×D)→Hp→Prop}
theorem rai {n id:Nat}{l:List Oper}{b:Code}{tm':List (Nat×D)}(hx:x.N=n)(h2:AW prog x b tm' hp' Q)(h:∀K:List (Nat×D)→Hp→Prop,K tm' hp'→a8 prog tbl .seq l.toArray K l tm hp:=by (intro K h;(repeat (first|refine sbi ?_|refine tzi ?_|refine gbi ?_|refine KJ ?_));exact .nil h))(hN:mI n l.toArray=true:=by kernel_rfl):AW prog x (.seq (.region id l.toArray false) b) tm hp Q:=rs hx (fun K hK=>h K (hK _ _ h2)) hN
theorem rbi {n id:Nat}{l:List Oper}{tm':List (Nat×D)}(hx:x.N=n)(h2:Q .normal tm' hp')(h:∀K:List (Nat×D)→Hp→Prop,K tm' hp'→a8 prog tbl .seq l.toArray K l tm hp:=by (intro K h;(repeat (first|refine sbi ?_|refine tzi ?_|refine gbi ?_|refine KJ ?_));exact .nil h))(hN:mI n l.toArray=true:=by kernel_rfl):AW prog x (.region id l.toArray false) tm hp Q:=rq hx (fun K hK=>h K (hK _ _ h2)) hN
end
def lQ(aK:ap):Option Bool:=bnd (some (decide (aK.vW=#v[(0:Int),0,0,0,0,0,0,0,0,0,0,0,0,0,0,0]))) fun x1=>cnd aK.vBad (bnd (S:=Bool) (cnd x1 (some (!aK.vNeg)) (some (false))) fun oF=>some oF) (bnd (S:=Bool) (cnd (!x1) (some (true)) (some (!aK.vNeg))) fun eF=>some eF)
theorem yA {aK:ap}{r:Bool}(h:lQ aK=some r):ar prog 178 [dG aq aK] (dB r):=by
 refine bk (rs:=[.tmp 2]) (fun cx hx h0=>?_) func178
 unfold lQ at h
 refine ra hx ?_
 refine rs hx fun K hK=>?_
 iterate 2 refine sbi ?_
 refine s1 (d:=dG al_cV (#v[(0:Int),0,0,0,0,0,0,0,0,0,0,0,0,0,0,0])) (mN c5 bX) ?_
 refine s1 (FK tok 2 (by decide) (EqC.arr (EqC.int (d:=0) bX) c5 bX) c5) ?_
 obtain⟨x1,xX,h⟩:=ae h
 replace xX:=bD xX
 refine s2 (d2:=dB x1) lP (gG (congrArg dB xX)) ?_
 refine nl hK ?_
 refine AW.seq (rai hx ?_)
 refine cdh h rfl (fun fI h=>?_) (fun fI h=>?_)
 refine AW.seq ?_
 obtain⟨oF,hy,h⟩:=ae h
 refine jn ((PE cx .normal (fun oF=>[(2,dB oF)]) fun oF=>⟨[],[],0⟩) oF) ?_ ?_
 replace h:=hy
 refine rq hx fun K hK=>?_
 refine mbi ?_
 rcases aE h with⟨Gm,h⟩|⟨Gm,h⟩
 refine nbi hK ?_
 exact pe1 h h0 []
 refine nbi hK ?_
 exact pe1 h h0 []
 refine lw0 ?_
 exact AW.ret (rtv h)
 refine AW.skip (AW.seq ?_)
 obtain⟨eF,hy,h⟩:=ae h
 refine jn ((PE cx .normal (fun eF=>[(2,dB eF)]) fun eF=>⟨[],[],0⟩) eF) ?_ ?_
 replace h:=hy
 refine rq hx fun K hK=>?_
 refine mbi ?_
 rcases aE h with⟨qV,h⟩|⟨qV,h⟩
 refine nbi hK ?_
 exact pe1 h h0 []
 refine nbi hK ?_
 exact pe1 h h0 []
 refine lw0 ?_
 exact AW.ret (rtv h)
def eo :Option ap:=some (⟨true,false,(er)⟩:ap)
theorem gE  {r:ap}(h:eo=some r):ar prog 121 [] (dG aq r):=by
 refine bk (rs:=[.cell 0 41]) (fun cx hx h0=>?_) func121
 unfold eo at h
 refine rai hx ?_
 refine rs hx fun K hK=>?_
 refine s1 (d:=dG aq (⟨true,false,(er)⟩:ap)) (ij (FL.cons (y:=true) (tq ct) rfl rfl (FL.nil _)) fy) ?_
 refine nbi hK ?_
 exact AW.ret (rtv h)
def nW(eE:List ap):Int→Option (Int⊕(Bool⊕Unit)):=fun aD=>cnd (decide (aD<((eE).length:Int))) (gd (0≤aD∧aD<((eE).length:Int)) (bnd (S:=Bool) (cnd (((eE)[(aD).toNat]!).vBad) (some (true)) (bnd (lQ ((eE)[(aD).toNat]!)) fun x5=>some (!x5))) fun a9=>cnd a9 (some (.inr (.inl false))) (some (.inl (i64.wrap (aD+(1:Int))))))) (some (.inr (.inr ())))
def cE(eE:List ap):Option Bool:=bnd (bt (nW eE) (0:Int)) fun y9=>match y9 with| .inl r=>some r| .inr ()=>some true
theorem fx {eE:List ap}{r:Bool}(h:cE eE=some r):ar prog 147 [dL aq eE] (dB r):=by
 refine bk (rs:=[.tmp 2]) (fun cx hx h0=>?_) func147
 unfold cE at h
 refine ra hx ?_
 refine AW.seq (ra hx ?_)
 refine AW.block ?_
 obtain⟨y,hy,h⟩:=ae h
 refine lp (S:=Int) (X:=Bool⊕Unit) (fun aD=>[(5,dL aq eE),(6,dI .i64 ((eE).length:Int)),(7,dI .i64 aD)]) (fun aD=>⟨[],[],0⟩) (PS (PR [.tmp 2] fun r=>dB r) (PE cx (.exit 0) (fun ()=>[]) fun ()=>⟨[],[],0⟩)) hy ?_ ?_ ?_
 exact wk0 h0 []
 clear hy h
 rintro aD y h
 dsimp only[nW] at h
 refine ra hx ?_
 refine AW.seq (cdh h rfl (fun fT h=>?_) (fun fT h=>?_))
 refine AW.skip (AW.seq (AW.block (rs hx fun K hK=>?_)))
 obtain⟨rA,h⟩:=aA h
 have yv:(aD).toNat<(eE).length:=by omega
 refine sbi ?_
 refine s1 (d:=dG aq ((eE)[(aD).toNat]!)) (i8 (c:=aq) (l:=eE) (n:=(aD).toNat) (o:=0) fy yv (eS _ _ rfl)) ?_
 refine nbi hK ?_
 refine AW.seq ?_
 obtain⟨a9,hy,h⟩:=ae h
 refine jn ((PE cx .normal (fun a9=>[(5,dL aq eE),(6,dI .i64 ((eE).length:Int)),(7,dI .i64 aD),(17,dB a9)]) fun a9=>⟨[],[],0⟩) a9) ?_ ?_
 replace h:=hy
 refine rq hx fun K hK=>?_
 refine mbi ?_
 rcases aE h with⟨Gm,h⟩|⟨Gm,h⟩
 refine nbi hK ?_
 exact pe1 h h0 []
 refine gbi ?_
 refine gcb h yA fun x5 h=>?_
 refine nbi hK ?_
 exact pe1 h h0 []
 refine lw0 ?_
 refine cdh h rfl (fun uw h=>?_) (fun uw h=>?_)
 refine ra hx ?_
 refine AW.ret ?_
 cases h
 refine PS.r ⟨by nofun,PS.l (PR.i ?_)⟩
 exact rv1
 refine AW.skip (rb hx ?_)
 exact pel h h0 []
 exact AW.exit (peq h h0 [])
 rcases y with r|⟨⟩
 rintro ex tm' hp' ⟨rfl,hw⟩
 cases h
 exact hw
 refine lwr ?_
 refine ra hx ?_
 exact AW.ret (rtv h)
def bJ(Az:Bool)(tO:Vector Int 16):Option ap:=bnd (S:=ap) (cnd Az (bnd (some ((⟨false,decide (¬(tO=#v[(0:Int),0,0,0,0,0,0,0,0,0,0,0,0,0,0,0])),tO⟩:ap))) fun x2=>some (x2)) (some ((⟨false,false,tO⟩:ap)))) fun bn=>some bn
theorem dE {Az:Bool}{tO:Vector Int 16}{r:ap}(h:bJ Az tO=some r):ar prog 145 [dB Az,dG al_cV tO] (dG aq r):=by
 refine bk (rs:=[.cell 4 41]) (fun cx hx h0=>?_) func145
 unfold bJ at h
 refine rai hx ?_
 refine AW.seq ?_
 obtain⟨bn,hy,h⟩:=ae h
 refine jn ((PE cx .normal (fun bn=>[(4,.pt 0 0)]) fun bn=>⟨[(0,dC (aq.f bn))],[],1⟩) bn) ?_ ?_
 replace h:=hy
 refine rqd [] hx fun K hK=>?_
 refine mbi ?_
 rcases aE h with⟨fT,h⟩|⟨fT,h⟩
 refine gbi ?_
 refine g1 (d:=dG al_cV (#v[(0:Int),0,0,0,0,0,0,0,0,0,0,0,0,0,0,0])) fT (mN c5 bX) ?_
 refine g1 fT (xK tok 2 (by decide) (EqC.arr (EqC.int (d:=0) bX) c5 bX) c5) ?_
 iterate 2 refine sbi ?_
 refine s1 (d:=dG aq (⟨false,decide (¬(tO=#v[(0:Int),0,0,0,0,0,0,0,0,0,0,0,0,0,0,0])),tO⟩:ap)) (ij (FL.cons (y:=decide (¬(tO=#v[(0:Int),0,0,0,0,0,0,0,0,0,0,0,0,0,0,0]))) (oe ct) rfl rfl (FL.cons (y:=tO) (od (⟨false,decide (¬(tO=#v[(0:Int),0,0,0,0,0,0,0,0,0,0,0,0,0,0,0])),(er)⟩:ap)) rfl rfl (FL.nil _))) fy) ?_
 obtain⟨x2,hx3,h⟩:=ae h
 replace hx3:=bD hx3
 refine s0 (oa (b':=(⟨false,decide (¬(tO=#v[(0:Int),0,0,0,0,0,0,0,0,0,0,0,0,0,0,0])),tO⟩:ap)) (b9.id _ _) fy hx3) ?_
 refine nl hK ?_
 exact pe1 h h0 [1]
 iterate 3 refine Es rfl rfl fT ?_
 iterate 2 refine sbi ?_
 refine s1 (d:=dG aq (⟨false,false,tO⟩:ap)) (ij (FL.cons (y:=false) (oe ct) rfl rfl (FL.cons (y:=tO) (od ct) rfl rfl (FL.nil _))) fy) ?_
 refine nbi hK ?_
 exact pe1 h h0 [1]
 refine lw0 ?_
 exact AW.ret (rtv h)
def g6(db:Int):Option ap:=bnd (S:=Int) (cnd (decide (db<(0:Int))) (some (u64.wrap (0 - (u64.wrap (db))))) (some (u64.wrap (db)))) fun ib=>bnd (bJ (decide (db<(0:Int))) (#v[u32.wrap (ib),u32.wrap (mA .u64 ib (32:Int)),0,0,0,0,0,0,0,0,0,0,0,0,0,0])) fun x3=>some x3
theorem rU {db:Int}{r:ap}(h:g6 db=some r):ar prog 91 [dI .i64 db] (dG aq r):=by
 refine bk (rs:=[.cell 2 41]) (fun cx hx h0=>?_) func91
 unfold g6 at h
 refine rai hx ?_
 refine ra hx ?_
 refine AW.seq ?_
 obtain⟨ib,hy,h⟩:=ae h
 refine jn ((PE cx .normal (fun ib=>[(0,dI .i64 db),(2,.pt 0 0),(3,dI .u64 ib)]) fun ib=>⟨[(0,dC (aq.f ct))],[],1⟩) ib) ?_ ?_
 replace h:=hy
 refine ra hx ?_
 refine cdh h rfl (fun fT h=>?_) (fun fT h=>?_)
 refine rb hx ?_
 exact pe1 h h0 [0]
 exact AW.skip (pe1 h h0 [0])
 refine lw0 ?_
 refine rs hx fun K hK=>?_
 iterate 7 refine sa ?_
 refine s1 (d:=dG al_cV (#v[u32.wrap (ib),u32.wrap (mA .u64 ib (32:Int)),0,0,0,0,0,0,0,0,0,0,0,0,0,0])) (mN c5 bX) ?_
 refine scb h dE fun x3 h=>?_
 refine nbi hK ?_
 exact AW.ret (rtv h)
def lJ(tO:Vector Int 16):Int→Option (Int⊕Int):=fun aD=>bnd (S:=Bool) (cnd (decide ((0:Int)<aD)) (gd (0≤i64.wrap (aD - (1:Int))∧i64.wrap (aD - (1:Int))<16) (some (decide (((tO)[(i64.wrap (aD - (1:Int))).toNat]!)=(0:Int))))) (some (false))) fun oF=>cnd oF (some (.inl (i64.wrap (aD - (1:Int))))) (some (.inr aD))
def eV(tO:Vector Int 16):Option Int:=bnd (bt (lJ tO) (16:Int)) fun pm=>some pm
theorem kZ {tO:Vector Int 16}{r:Int}(h:eV tO=some r):ar prog 148 [dG al_cV tO] (dI .i64 r):=by
 refine bk (rs:=[.tmp 2]) (fun cx hx h0=>?_) func148
 unfold eV at h
 iterate 2 refine ra hx ?_
 refine AW.seq (AW.block ?_)
 obtain⟨pm,hy,h⟩:=ae h
 refine lp (S:=Int) (X:=Int) (fun aD=>[(1,.pt 0 0),(3,dI .i64 aD)]) (fun aD=>⟨[(0,dC (al_cV.f tO))],[],1⟩) (PE cx (.exit 0) (fun pm=>[(3,dI .i64 pm)]) fun pm=>⟨[],[],0⟩) hy ?_ ?_ ?_
 exact wk0 h0 [0]
 clear hy h
 rintro aD y h
 dsimp only[lJ] at h
 iterate 2 refine AW.seq ?_
 obtain⟨oF,hy,h⟩:=ae h
 refine jn ((PE cx .normal (fun oF=>[(1,.pt 0 0),(3,dI .i64 aD),(12,dB oF)]) fun oF=>⟨[(0,dC (al_cV.f tO))],[],1⟩) oF) ?_ ?_
 replace h:=hy
 refine rq hx fun K hK=>?_
 refine mbi ?_
 rcases aE h with⟨fT,h⟩|⟨fT,h⟩
 iterate 2 refine ga fT ?_
 obtain⟨rA,h⟩:=aA h
 refine nbi hK ?_
 exact pe1 h h0 [0]
 refine nbi hK ?_
 exact pe1 h h0 [0]
 refine lw0 ?_
 refine cdh h rfl (fun su h=>?_) (fun su h=>?_)
 refine AW.skip (AW.block (rb hx ?_))
 exact pel h h0 [0]
 exact AW.exit (per h h0 [])
 refine lw0 ?_
 refine ra hx ?_
 exact AW.ret (rtv h)
def mW(aK:Int):Option Int:=bnd (S:=Int×Int) (cnd (decide ((65536:Int)≤aK)) (some ((mA .u32 aK (16:Int),(16:Int)))) (some ((aK,(0:Int))))) fun (bn,JG)=>bnd (S:=Int×Int) (cnd (decide ((256:Int)≤bn)) (some ((mA .u32 bn (8:Int),i64.wrap (JG+(8:Int))))) (some ((bn,JG)))) fun (pM,FF)=>gd (0≤u8.wrap (pM)∧u8.wrap (pM)<((⟨#[0,1,2,2,3,3,3,3,4,4,4,4,4,4,4,4,5,5,5,5,5,5,5,5,5,5,5,5,5,5,5,5,6,6,6,6,6,6,6,6,6,6,6,6,6,6,6,6,6,6,6,6,6,6,6,6,6,6,6,6,6,6,6,6,7,7,7,7,7,7,7,7,7,7,7,7,7,7,7,7,7,7,7,7,7,7,7,7,7,7,7,7,7,7,7,7,7,7,7,7,7,7,7,7,7,7,7,7,7,7,7,7,7,7,7,7,7,7,7,7,7,7,7,7,7,7,7,7,8,8,8,8,8,8,8,8,8,8,8,8,8,8,8,8,8,8,8,8,8,8,8,8,8,8,8,8,8,8,8,8,8,8,8,8,8,8,8,8,8,8,8,8,8,8,8,8,8,8,8,8,8,8,8,8,8,8,8,8,8,8,8,8,8,8,8,8,8,8,8,8,8,8,8,8,8,8,8,8,8,8,8,8,8,8,8,8,8,8,8,8,8,8,8,8,8,8,8,8,8,8,8,8,8,8,8,8,8,8,8,8,8,8,8,8,8,8,8,8,8,8,8,8,8,8,8,8]⟩:ByteArray).size:Int)) (bnd (some (i64.wrap (FF+(i64.wrap (sAt (⟨#[0,1,2,2,3,3,3,3,4,4,4,4,4,4,4,4,5,5,5,5,5,5,5,5,5,5,5,5,5,5,5,5,6,6,6,6,6,6,6,6,6,6,6,6,6,6,6,6,6,6,6,6,6,6,6,6,6,6,6,6,6,6,6,6,7,7,7,7,7,7,7,7,7,7,7,7,7,7,7,7,7,7,7,7,7,7,7,7,7,7,7,7,7,7,7,7,7,7,7,7,7,7,7,7,7,7,7,7,7,7,7,7,7,7,7,7,7,7,7,7,7,7,7,7,7,7,7,7,8,8,8,8,8,8,8,8,8,8,8,8,8,8,8,8,8,8,8,8,8,8,8,8,8,8,8,8,8,8,8,8,8,8,8,8,8,8,8,8,8,8,8,8,8,8,8,8,8,8,8,8,8,8,8,8,8,8,8,8,8,8,8,8,8,8,8,8,8,8,8,8,8,8,8,8,8,8,8,8,8,8,8,8,8,8,8,8,8,8,8,8,8,8,8,8,8,8,8,8,8,8,8,8,8,8,8,8,8,8,8,8,8,8,8,8,8,8,8,8,8,8,8,8,8,8,8,8]⟩:ByteArray) (u8.wrap (pM)).toNat))))) fun x6=>some x6)
theorem Ao {aK:Int}{r:Int}(h:mW aK=some r):ar prog 197 [dI .u32 aK] (dI .i64 r):=by
 refine bk (rs:=[.tmp 2]) (fun cx hx h0=>?_) func197
 unfold mW at h
 refine ra hx ?_
 refine AW.seq ?_
 obtain⟨y,hy,h⟩:=ae h
 refine jn ((PE cx .normal (fun (bn,JG)=>[(0,dI .u32 bn),(2,dI .i64 JG)]) fun (bn,JG)=>⟨[],[],0⟩) y) ?_ ?_
 replace h:=hy
 refine ra hx ?_
 refine cdh h rfl (fun fT h=>?_) (fun fT h=>?_)
 refine ra hx ?_
 refine rb hx ?_
 exact pe1 h h0 []
 exact AW.skip (pe1 h h0 [])
 obtain⟨bn,JG⟩:=y
 refine lw0 ?_
 refine AW.seq ?_
 obtain⟨y,hy,h⟩:=ae h
 refine jn ((PE cx .normal (fun (pM,FF)=>[(0,dI .u32 pM),(2,dI .i64 FF)]) fun (pM,FF)=>⟨[],[],0⟩) y) ?_ ?_
 replace h:=hy
 refine ra hx ?_
 refine cdh h rfl (fun fI h=>?_) (fun fI h=>?_)
 refine ra hx ?_
 refine rb hx ?_
 exact pe1 h h0 []
 exact AW.skip (pe1 h h0 [])
 obtain⟨pM,FF⟩:=y
 refine lw0 ?_
 refine rs hx fun K hK=>?_
 iterate 3 refine sa ?_
 obtain⟨hc5,h⟩:=aA h
 refine s1 (T_ixS hc5 tb_9) ?_
 iterate 2 refine sa ?_
 obtain⟨x6,wA,h⟩:=ae h
 replace wA:=bD wA
 refine s2 (d2:=dI .i64 x6) lP (gG (congrArg (dI .i64) wA)) ?_
 refine nl hK ?_
 exact AW.ret (rtv h)
def o3(aK:ap):Option Int:=bnd (eV aK.vW) fun x1=>bnd (S:=Bool) (bnd (cE [aK]) fun x3=>cnd (!x3) (some (true)) (some (decide (x1=(0:Int))))) fun aD=>cnd aD (some (0:Int)) (gd (0≤i64.wrap (x1 - (1:Int))∧i64.wrap (x1 - (1:Int))<16) (bnd (mW ((aK.vW)[(i64.wrap (x1 - (1:Int))).toNat]!)) fun oG=>some (i64.wrap ((i64.wrap ((32:Int)*(i64.wrap (x1 - (1:Int)))))+oG))))
theorem H8 {aK:ap}{r:Int}(h:o3 aK=some r):ar prog 196 [dG aq aK] (dI .i64 r):=by
 refine bk (rs:=[.tmp 2]) (fun cx hx h0=>?_) func196
 unfold o3 at h
 refine ra hx ?_
 refine rs hx fun K hK=>?_
 refine mbi ?_
 refine scb h kZ fun x1 h=>?_
 refine nbi hK ?_
 iterate 2 refine AW.seq ?_
 obtain⟨aD,hy,h⟩:=ae h
 refine jn ((PE cx .normal (fun aD=>[(1,.pt 0 0),(3,dI .i64 x1),(14,dB aD)]) fun aD=>⟨[(0,dC (aq.f aK))],[],1⟩) aD) ?_ ?_
 replace h:=hy
 refine rq hx fun K hK=>?_
 refine sbi ?_
 refine s1 (kP ([aK]:List ap) aq qZ fy) ?_
 refine scb h fx fun x3 h=>?_
 refine mbi ?_
 rcases aE h with⟨su,h⟩|⟨su,h⟩
 refine nbi hK ?_
 exact pe1 h h0 [0]
 refine nbi hK ?_
 exact pe1 h h0 [0]
 refine lw0 ?_
 refine cdh h rfl (fun ss h=>?_) (fun ss h=>?_)
 refine ra hx ?_
 exact AW.ret (rtv h)
 refine AW.skip (rs hx fun K hK=>?_)
 iterate 6 refine sa ?_
 obtain⟨hc8,h⟩:=aA h
 refine mbi ?_
 refine scb h Ao fun oG h=>?_
 refine nbi hK ?_
 exact AW.ret (rtv h)
def lR(aK:ap):Option (Int×Bool):=bnd (S:=Bool) (bnd (cE [aK]) fun x1=>cnd (!x1) (some (true)) (bnd (o3 aK) fun x4=>some (decide ((64:Int)<x4)))) fun dU=>cnd dU (some ((0:Int),false)) (bnd (some (ior .u64 (zI .u64 (u64.wrap ((aK.vW)[((1:Int)).toNat]!)) (32:Int)) (u64.wrap ((aK.vW)[((0:Int)).toNat]!)))) fun oG=>bnd (S:=Bool) (cnd aK.vNeg (some (decide (oG≤(9223372036854775808:Int)))) (some (false))) fun uO=>cnd uO (some (i64.wrap (u64.wrap (0 - oG)),true)) (bnd (S:=Bool) (cnd (!aK.vNeg) (some (decide (oG<(9223372036854775808:Int)))) (some (false))) fun iC=>cnd iC (some (i64.wrap (oG),true)) (some ((0:Int),false))))
theorem yB {aK:ap}{r:Int×Bool}(h:lR aK=some r):ar prog 180 [dG aq aK] (.tu [dI .i64 r.1,dB r.2]):=by
 refine bk (rs:=[.tmp 2,.tmp 3]) (fun cx hx h0=>?_) func180
 unfold lR at h
 refine ra hx ?_
 iterate 2 refine AW.seq ?_
 obtain⟨dU,hy,h⟩:=ae h
 refine jn ((PE cx .normal (fun dU=>[(1,.pt 0 0),(13,dB dU)]) fun dU=>⟨[(0,dC (aq.f aK))],[],1⟩) dU) ?_ ?_
 replace h:=hy
 refine rq hx fun K hK=>?_
 refine sbi ?_
 refine s1 (kP ([aK]:List ap) aq qZ fy) ?_
 refine scb h fx fun x1 h=>?_
 refine mbi ?_
 rcases aE h with⟨fI,h⟩|⟨fI,h⟩
 refine nbi hK ?_
 exact pe1 h h0 [0]
 refine gbi ?_
 refine gcb h H8 fun x4 h=>?_
 refine nbi hK ?_
 exact pe1 h h0 [0]
 refine lw0 ?_
 refine cdh h rfl (fun ss h=>?_) (fun ss h=>?_)
 refine ra hx ?_
 refine AW.ret ?_
 cases h
 exact rv2
 refine AW.skip (rs hx fun K hK=>?_)
 refine sa ?_
 refine s1 (wv (by decide:0≤(1:Int)∧(1:Int)<((16:Nat):Int)) c5 bX) ?_
 iterate 4 refine sbi ?_
 refine s1 (wv (by decide:0≤(0:Int)∧(0:Int)<((16:Nat):Int)) c5 bX) ?_
 iterate 3 refine sbi ?_
 obtain⟨oG,GM,h⟩:=ae h
 replace GM:=bD GM
 refine s2 (d2:=dI .u64 oG) lP (gG (congrArg (dI .u64) GM)) ?_
 refine nl hK ?_
 refine AW.seq (AW.block (AW.seq ?_))
 obtain⟨uO,hy,h⟩:=ae h
 refine jn ((PE cx .normal (fun uO=>[(1,.pt 0 0),(4,dI .u64 oG),(24,dB uO)]) fun uO=>⟨[(0,dC (aq.f aK))],[],1⟩) uO) ?_ ?_
 replace h:=hy
 refine rq hx fun K hK=>?_
 refine mbi ?_
 rcases aE h with⟨Cg,h⟩|⟨Cg,h⟩
 refine nbi hK ?_
 exact pe1 h h0 [0]
 refine nbi hK ?_
 exact pe1 h h0 [0]
 refine lw0 ?_
 refine cdh h rfl (fun tT h=>?_) (fun tT h=>?_)
 refine ra hx ?_
 refine AW.ret ?_
 cases h
 exact rv2
 refine AW.seq ?_
 obtain⟨iC,hy,h⟩:=ae h
 refine jn ((PE cx .normal (fun iC=>[(4,dI .u64 oG),(34,dB iC)]) fun iC=>⟨[],[],0⟩) iC) ?_ ?_
 replace h:=hy
 refine rq hx fun K hK=>?_
 refine mbi ?_
 rcases aE h with⟨Ng,h⟩|⟨Ng,h⟩
 refine nbi hK ?_
 exact pe1 h h0 []
 refine nbi hK ?_
 exact pe1 h h0 []
 refine lw0 ?_
 refine cdh h rfl (fun IV h=>?_) (fun IV h=>?_)
 refine ra hx ?_
 refine AW.ret ?_
 cases h
 exact rv2
 refine AW.skip (ra hx ?_)
 refine AW.ret ?_
 cases h
 exact rv2
def ge(aK:Int):Option Bool:=some (decide (aK≠aK))
theorem rY {aK:Int}{r:Bool}(h:ge aK=some r):ar prog 195 [dI .u32 aK] (dB r):=by
 refine bk (rs:=[.tmp 2]) (fun cx hx h0=>?_) func195
 unfold ge at h
 iterate 2 refine ra hx ?_
 exact AW.ret (rtv h)
def gL(aK:Int)(kR:Int):Option Int:=bnd (ge aK) fun x1=>bnd (ge kR) fun x3=>cnd x1 (cnd x3 (some (0:Int)) (some (-1:Int))) (cnd x3 (some (1:Int)) (cnd (decide (aK<kR)) (some (-1:Int)) (cnd (decide (kR<aK)) (some (1:Int)) (some (0:Int)))))
theorem wX {aK:Int}{kR:Int}{r:Int}(h:gL aK kR=some r):ar prog 179 [dI .u32 aK,dI .u32 kR] (dI .i64 r):=by
 refine bk (rs:=[.tmp 4]) (fun cx hx h0=>?_) func179
 unfold gL at h
 refine ra hx ?_
 refine rs hx fun K hK=>?_
 refine sa ?_
 refine scb h rY fun x1 h=>?_
 refine nbi hK ?_
 refine rs hx fun K hK=>?_
 refine sa ?_
 refine scb h rY fun x3 h=>?_
 refine nbi hK ?_
 refine AW.seq (ra hx ?_)
 refine cdh h rfl (fun su h=>?_) (fun su h=>?_)
 refine AW.seq (ra hx ?_)
 refine cdh h rfl (fun qV h=>?_) (fun qV h=>?_)
 refine ra hx ?_
 exact AW.ret (rtv h)
 refine AW.skip (ra hx ?_)
 exact AW.ret (rtv h)
 refine AW.skip (AW.seq (ra hx ?_))
 refine cdh h rfl (fun ss h=>?_) (fun ss h=>?_)
 refine ra hx ?_
 exact AW.ret (rtv h)
 refine AW.skip (AW.seq (ra hx ?_))
 refine cdh h rfl (fun uw h=>?_) (fun uw h=>?_)
 refine ra hx ?_
 exact AW.ret (rtv h)
 refine AW.skip (AW.seq (ra hx ?_))
 refine cdh h rfl (fun K8 h=>?_) (fun K8 h=>?_)
 refine ra hx ?_
 exact AW.ret (rtv h)
 refine AW.skip (ra hx ?_)
 exact AW.ret (rtv h)
def kr(aG:Vector Int 16)(aP:Vector Int 16):Int→Option (Int⊕(Int⊕Unit)):=fun aD=>cnd (decide ((0:Int)≤aD)) (gd (0≤aD∧aD<16) (gd (0≤aD∧aD<16) (cnd (decide (((aG)[(aD).toNat]!)≠((aP)[(aD).toNat]!))) (gd (0≤aD∧aD<16) (gd (0≤aD∧aD<16) (bnd (gL ((aG)[(aD).toNat]!) ((aP)[(aD).toNat]!)) fun ta=>some (.inr (.inl ta))))) (some (.inl (i64.wrap (aD - (1:Int)))))))) (some (.inr (.inr ())))
def iu(aG:Vector Int 16)(aP:Vector Int 16):Option Int:=bnd (bt (kr aG aP) (15:Int)) fun y13=>match y13 with| .inl r=>some r| .inr ()=>some (0:Int)
theorem qo {aG:Vector Int 16}{aP:Vector Int 16}{r:Int}(h:iu aG aP=some r):ar prog 149 [dG al_cV aG,dG al_cV aP] (dI .i64 r):=by
 refine bk (rs:=[.tmp 4]) (fun cx hx h0=>?_) func149
 unfold iu at h
 refine ra hx ?_
 refine AW.seq (ra hx ?_)
 refine AW.block ?_
 obtain⟨y,hy,h⟩:=ae h
 refine lp (S:=Int) (X:=Int⊕Unit) (fun aD=>[(2,.pt 0 0),(3,.pt 1 0),(5,dI .i64 aD)]) (fun aD=>⟨[(0,dC (al_cV.f aG)),(1,dC (al_cV.f aP))],[],2⟩) (PS (PR [.tmp 4] fun r=>dI .i64 r) (PE cx (.exit 0) (fun ()=>[]) fun ()=>⟨[],[],0⟩)) hy ?_ ?_ ?_
 exact wk0 h0 [0,1]
 clear hy h
 rintro aD y h
 dsimp only[kr] at h
 refine AW.seq (ra hx ?_)
 refine cdh h rfl (fun fT h=>?_) (fun fT h=>?_)
 refine AW.skip (AW.seq (AW.block (rsd [] hx fun K hK=>?_)))
 refine sa ?_
 obtain⟨rA,h⟩:=aA h
 iterate 3 refine sbi ?_
 obtain⟨Pf,h⟩:=aA h
 refine nbi hK ?_
 refine cdh h rfl (fun qV h=>?_) (fun qV h=>?_)
 refine rsd [179] hx fun K hK=>?_
 refine sa ?_
 obtain⟨hc7,h⟩:=aA h
 iterate 3 refine sbi ?_
 obtain⟨hc9,h⟩:=aA h
 refine mbi ?_
 refine cqb h wX fun ta h=>?_
 refine nbi hK ?_
 refine AW.ret ?_
 cases h
 refine PS.r ⟨by nofun,PS.l (PR.i ?_)⟩
 exact rv1
 refine AW.skip (rb hx ?_)
 exact pel h h0 [0,1]
 exact AW.exit (peq h h0 [])
 rcases y with r|⟨⟩
 rintro ex tm' hp' ⟨rfl,hw⟩
 cases h
 exact hw
 refine lwr ?_
 refine ra hx ?_
 exact AW.ret (rtv h)
def kj(aG:Vector Int 16)(aP:Vector Int 16):Int×Int×(Vector Int 16)→Option ((Int×Int×(Vector Int 16))⊕(Int×(Vector Int 16))):=fun (dP,bW,eA)=>cnd (decide (bW<(16:Int))) (gd (0≤bW∧bW<16) (gd (0≤bW∧bW<16) (bnd (some (u64.wrap (dP+(u64.wrap ((u64.wrap ((aG)[(bW).toNat]!))+(u64.wrap ((aP)[(bW).toNat]!))))))) fun x6=>gd (0≤bW∧bW<16) (some (.inl (mA .u64 x6 (32:Int),i64.wrap (bW+(1:Int)),(eA).set! (bW).toNat (u32.wrap (x6)))))))) (some (.inr (dP,eA)))
def oZ(aG:Vector Int 16)(aP:Vector Int 16):Option ((Vector Int 16)×Bool):=bnd (bt (kj aG aP) ((0:Int),(0:Int),(er))) fun (cu,po)=>some (po,decide (cu=(0:Int)))
theorem H6 {aG:Vector Int 16}{aP:Vector Int 16}{r:(Vector Int 16)×Bool}(h:oZ aG aP=some r):ar prog 164 [dG al_cV aG,dG al_cV aP] (.tu [dG al_cV r.1,dB r.2]):=by
 refine bk (rs:=[.cell 4 39,.tmp 5]) (fun cx hx h0=>?_) func164
 unfold oZ at h
 refine rai hx ?_
 refine rai hx ?_
 refine ra hx ?_
 refine AW.seq (ra hx ?_)
 refine AW.block ?_
 obtain⟨y,hy,h⟩:=ae h
 refine lp (S:=Int×Int×(Vector Int 16)) (X:=Int×(Vector Int 16)) (fun (dP,bW,eA)=>[(2,.pt 0 0),(3,.pt 1 0),(4,.pt 2 0),(6,.pt 3 0),(7,dI .u64 dP),(9,dI .i64 bW)]) (fun (dP,bW,eA)=>⟨[(0,dC (al_cV.f aG)),(1,dC (al_cV.f aP)),(2,dC (al_cV.f (er))),(3,dC (al_cV.f eA))],[],4⟩) (PE cx (.exit 0) (fun (cu,po)=>[(4,.pt 0 0),(6,.pt 1 0),(7,dI .u64 cu)]) fun (cu,po)=>⟨[(0,dC (al_cV.f (er))),(1,dC (al_cV.f po))],[],2⟩) hy ?_ ?_ ?_
 exact wk0 h0 [0,1,2,3]
 clear hy h
 rintro⟨dP,bW,eA⟩ y h
 dsimp only[kj] at h
 refine ra hx ?_
 refine AW.seq (cdh h rfl (fun fT h=>?_) (fun fT h=>?_))
 refine AW.skip (AW.seq (AW.block (ra hx ?_)))
 refine rsd [] hx fun K hK=>?_
 iterate 2 refine sa ?_
 obtain⟨rA,h⟩:=aA h
 iterate 4 refine sbi ?_
 obtain⟨Pf,h⟩:=aA h
 iterate 5 refine sbi ?_
 obtain⟨x6,wA,h⟩:=ae h
 replace wA:=bD wA
 refine s2 (d2:=dI .u64 x6) lP (gG (congrArg (dI .u64) wA)) ?_
 refine nl hK ?_
 refine rs hx fun K hK=>?_
 iterate 3 refine sa ?_
 obtain⟨hc8,h⟩:=aA h
 have hn9:(bW).toNat<16:=by omega
 refine sbi ?_
 refine s0 (zd (b':=u32.wrap (x6)) (b9.comp (b9.id _ _) (b9.vec (cI .u32) eA (bW).toNat hn9) (fun _=>rfl)) bX) ?_
 refine nl hK ?_
 iterate 2 refine rb hx ?_
 exact pel h h0 [0,1,2,3]
 exact AW.exit (per h h0 [2,3])
 obtain⟨cu,po⟩:=y
 refine lw0 ?_
 refine rai hx ?_
 refine AW.ret ?_
 cases h
 exact rv2
def jA(aG:Vector Int 16)(aP:Vector Int 16):Int×Int×(Vector Int 16)→Option ((Int×Int×(Vector Int 16))⊕((Vector Int 16))):=fun (dP,bW,eA)=>cnd (decide (bW<(16:Int))) (gd (0≤bW∧bW<16) (gd (0≤bW∧bW<16) (bnd (some (u64.wrap ((u64.wrap ((u64.wrap ((aG)[(bW).toNat]!)) - (u64.wrap ((aP)[(bW).toNat]!)))) - dP))) fun x6=>gd (0≤bW∧bW<16) (some (.inl (mA .u64 x6 (63:Int),i64.wrap (bW+(1:Int)),(eA).set! (bW).toNat (u32.wrap (x6)))))))) (some (.inr eA))
def iv(aG:Vector Int 16)(aP:Vector Int 16):Option (Vector Int 16):=bnd (bt (jA aG aP) ((0:Int),(0:Int),(er))) fun cu=>some cu
theorem tK {aG:Vector Int 16}{aP:Vector Int 16}{r:Vector Int 16}(h:iv aG aP=some r):ar prog 165 [dG al_cV aG,dG al_cV aP] (dG al_cV r):=by
 refine bk (rs:=[.cell 4 39]) (fun cx hx h0=>?_) func165
 unfold iv at h
 refine rai hx ?_
 refine rai hx ?_
 refine ra hx ?_
 refine AW.seq (ra hx ?_)
 refine AW.block ?_
 obtain⟨cu,hy,h⟩:=ae h
 refine lp (S:=Int×Int×(Vector Int 16)) (X:=(Vector Int 16)) (fun (dP,bW,eA)=>[(2,.pt 0 0),(3,.pt 1 0),(4,.pt 2 0),(5,.pt 3 0),(6,dI .u64 dP),(9,dI .i64 bW)]) (fun (dP,bW,eA)=>⟨[(0,dC (al_cV.f aG)),(1,dC (al_cV.f aP)),(2,dC (al_cV.f (er))),(3,dC (al_cV.f eA))],[],4⟩) (PE cx (.exit 0) (fun cu=>[(4,.pt 0 0),(5,.pt 1 0)]) fun cu=>⟨[(0,dC (al_cV.f (er))),(1,dC (al_cV.f cu))],[],2⟩) hy ?_ ?_ ?_
 exact wk0 h0 [0,1,2,3]
 clear hy h
 rintro⟨dP,bW,eA⟩ y h
 dsimp only[jA] at h
 refine ra hx ?_
 refine AW.seq (cdh h rfl (fun fT h=>?_) (fun fT h=>?_))
 refine AW.skip (AW.seq (AW.block (ra hx ?_)))
 refine rsd [] hx fun K hK=>?_
 refine sa ?_
 obtain⟨rA,h⟩:=aA h
 iterate 4 refine sbi ?_
 obtain⟨Pf,h⟩:=aA h
 iterate 6 refine sbi ?_
 obtain⟨x6,wA,h⟩:=ae h
 replace wA:=bD wA
 refine s2 (d2:=dI .u64 x6) lP (gG (congrArg (dI .u64) wA)) ?_
 refine nl hK ?_
 refine rs hx fun K hK=>?_
 iterate 3 refine sa ?_
 obtain⟨hc8,h⟩:=aA h
 have hn9:(bW).toNat<16:=by omega
 refine sbi ?_
 refine s0 (zd (b':=u32.wrap (x6)) (b9.comp (b9.id _ _) (b9.vec (cI .u32) eA (bW).toNat hn9) (fun _=>rfl)) bX) ?_
 refine nl hK ?_
 iterate 2 refine rb hx ?_
 exact pel h h0 [0,1,2,3]
 exact AW.exit (per h h0 [2,3])
 refine lw0 ?_
 refine rai hx ?_
 exact AW.ret (rtv h)
def jD(aG:ap)(aP:ap):Option ap:=bnd (cE [aG,aP]) fun x1=>cnd (!x1) (bnd (eo) fun x4=>some x4) (cnd (aG.vNeg == aP.vNeg) (bnd (oZ aG.vW aP.vW) fun x7=>cnd (!x7.2) (bnd (eo) fun oG=>some oG) (bnd (bJ aG.vNeg x7.1) fun nq=>some nq)) (bnd (iu aG.vW aP.vW) fun qB=>cnd (decide ((0:Int)≤qB)) (bnd (iv aG.vW aP.vW) fun oN=>bnd (bJ aG.vNeg oN) fun ww=>some ww) (bnd (iv aP.vW aG.vW) fun wJ=>bnd (bJ aP.vNeg wJ) fun yz=>some yz)))
theorem CK {aG:ap}{aP:ap}{r:ap}(h:jD aG aP=some r):ar prog 123 [dG aq aG,dG aq aP] (dG aq r):=by
 refine bk (rs:=[.cell 4 41]) (fun cx hx h0=>?_) func123
 unfold jD at h
 refine rai hx ?_
 refine AW.seq (rs hx fun K hK=>?_)
 iterate 2 refine sbi ?_
 refine s1 (kP ([aG,aP]:List ap) aq qZ fy) ?_
 refine scb h fx fun x1 h=>?_
 refine nbi hK ?_
 refine cdh h rfl (fun fI h=>?_) (fun fI h=>?_)
 refine rs hx fun K hK=>?_
 refine scb h gE fun x4 h=>?_
 refine nbi hK ?_
 exact AW.ret (rtv h)
 refine AW.skip (AW.seq (rai hx ?_))
 refine cdh h rfl (fun qV h=>?_) (fun qV h=>?_)
 refine rs hx fun K hK=>?_
 refine mbi ?_
 refine scb h H6 fun x7 h=>?_
 refine nbi hK ?_
 refine AW.seq (ra hx ?_)
 refine cdh h rfl (fun K8 h=>?_) (fun K8 h=>?_)
 refine rs hx fun K hK=>?_
 refine scb h gE fun oG h=>?_
 refine nbi hK ?_
 exact AW.ret (rtv h)
 refine AW.skip (rs hx fun K hK=>?_)
 refine mbi ?_
 refine scb h dE fun nq h=>?_
 refine nbi hK ?_
 exact AW.ret (rtv h)
 refine AW.skip (AW.seq (rs hx fun K hK=>?_))
 refine mbi ?_
 refine scb h qo fun qB h=>?_
 refine nbi hK ?_
 refine cdh h rfl (fun tS h=>?_) (fun tS h=>?_)
 refine rsd [165,145] hx fun K hK=>?_
 refine mbi ?_
 refine cqb h tK fun oN h=>?_
 refine cqb h dE fun ww h=>?_
 refine nbi hK ?_
 exact AW.ret (rtv h)
 refine AW.skip (rsd [165,145] hx fun K hK=>?_)
 refine mbi ?_
 refine cqb h tK fun wJ h=>?_
 refine cqb h dE fun yz h=>?_
 refine nbi hK ?_
 exact AW.ret (rtv h)
def kV(aK:ap):Option ap:=bnd (cE [aK]) fun x1=>cnd (!x1) (bnd (eo) fun x4=>some x4) (bnd (bJ (!aK.vNeg) aK.vW) fun x6=>some x6)
theorem te {aK:ap}{r:ap}(h:kV aK=some r):ar prog 100 [dG aq aK] (dG aq r):=by
 refine bk (rs:=[.cell 2 41]) (fun cx hx h0=>?_) func100
 unfold kV at h
 refine rai hx ?_
 refine AW.seq (rs hx fun K hK=>?_)
 refine sbi ?_
 refine s1 (kP ([aK]:List ap) aq qZ fy) ?_
 refine scb h fx fun x1 h=>?_
 refine nbi hK ?_
 refine cdh h rfl (fun fI h=>?_) (fun fI h=>?_)
 refine rs hx fun K hK=>?_
 refine scb h gE fun x4 h=>?_
 refine nbi hK ?_
 exact AW.ret (rtv h)
 refine AW.skip (rs hx fun K hK=>?_)
 refine mbi ?_
 refine scb h dE fun x6 h=>?_
 refine nbi hK ?_
 exact AW.ret (rtv h)
def oh(aG:ap)(aP:ap):Option ap:=bnd (kV aP) fun x1=>bnd (jD aG x1) fun x3=>some x3
theorem J7 {aG:ap}{aP:ap}{r:ap}(h:oh aG aP=some r):ar prog 181 [dG aq aG,dG aq aP] (dG aq r):=by
 refine bk (rs:=[.cell 4 41]) (fun cx hx h0=>?_) func181
 unfold oh at h
 refine rai hx ?_
 refine rsd [100,123] hx fun K hK=>?_
 refine mbi ?_
 refine cqb h te fun x1 h=>?_
 refine cqb h CK fun x3 h=>?_
 refine nbi hK ?_
 exact AW.ret (rtv h)
def fC(aK:ap):Option Int:=bnd (S:=Bool) (bnd (cE [aK]) fun x1=>cnd (!x1) (some (true)) (some (decide (aK.vW=#v[(0:Int),0,0,0,0,0,0,0,0,0,0,0,0,0,0,0])))) fun ib=>cnd ib (some (0:Int)) (cnd aK.vNeg (some (-1:Int)) (some (1:Int)))
theorem lf {aK:ap}{r:Int}(h:fC aK=some r):ar prog 95 [dG aq aK] (dI .i64 r):=by
 refine bk (rs:=[.tmp 2]) (fun cx hx h0=>?_) func95
 unfold fC at h
 refine ra hx ?_
 refine AW.seq (AW.block (AW.seq ?_))
 obtain⟨ib,hy,h⟩:=ae h
 refine jn ((PE cx .normal (fun ib=>[(1,.pt 0 0),(3,dB ib)]) fun ib=>⟨[(0,dC (aq.f aK))],[],1⟩) ib) ?_ ?_
 replace h:=hy
 refine rq hx fun K hK=>?_
 refine sbi ?_
 refine s1 (kP ([aK]:List ap) aq qZ fy) ?_
 refine scb h fx fun x1 h=>?_
 refine mbi ?_
 rcases aE h with⟨fI,h⟩|⟨fI,h⟩
 refine nbi hK ?_
 exact pe1 h h0 [0]
 refine ga fI ?_
 refine gbi ?_
 refine g1 (d:=dG al_cV (#v[(0:Int),0,0,0,0,0,0,0,0,0,0,0,0,0,0,0])) fI (mN c5 bX) ?_
 refine g1 fI (FK tok 2 (by decide) (EqC.arr (EqC.int (d:=0) bX) c5 bX) c5) ?_
 refine nbi hK ?_
 exact pe1 h h0 [0]
 refine lw0 ?_
 refine cdh h rfl (fun su h=>?_) (fun su h=>?_)
 refine ra hx ?_
 exact AW.ret (rtv h)
 refine rai hx ?_
 refine cdh h rfl (fun qV h=>?_) (fun qV h=>?_)
 refine ra hx ?_
 exact AW.ret (rtv h)
 refine AW.skip (ra hx ?_)
 exact AW.ret (rtv h)
def mB(tO:Vector Int 16)(db:Int):Int×Int×(Vector Int 16)→Option ((Int×Int×(Vector Int 16))⊕(Int×(Vector Int 16))):=fun (dP,bW,eA)=>cnd (decide (bW<(16:Int))) (gd (0≤bW∧bW<16) (gd (0≤db) (bnd (some (ior .u64 dP (zI .u64 (u64.wrap ((tO)[(bW).toNat]!)) db))) fun x5=>gd (0≤bW∧bW<16) (some (.inl (mA .u64 x5 (32:Int),i64.wrap (bW+(1:Int)),(eA).set! (bW).toNat (u32.wrap (x5)))))))) (some (.inr (dP,eA)))
def p8(tO:Vector Int 16)(db:Int):Option ((Vector Int 16)×Int):=bnd (bt (mB tO db) ((0:Int),(0:Int),(er))) fun (cu,po)=>some (po,u32.wrap (cu))
theorem DY {tO:Vector Int 16}{db:Int}{r:(Vector Int 16)×Int}(h:p8 tO db=some r):ar prog 189 [dG al_cV tO,dI .i64 db] (.tu [dG al_cV r.1,dI .u32 r.2]):=by
 refine bk (rs:=[.cell 4 39,.tmp 5]) (fun cx hx h0=>?_) func189
 unfold p8 at h
 refine rai hx ?_
 refine rai hx ?_
 refine ra hx ?_
 refine AW.seq (ra hx ?_)
 refine AW.block ?_
 obtain⟨y,hy,h⟩:=ae h
 refine lp (S:=Int×Int×(Vector Int 16)) (X:=Int×(Vector Int 16)) (fun (dP,bW,eA)=>[(1,dI .i64 db),(2,.pt 0 0),(4,.pt 1 0),(6,.pt 2 0),(7,dI .u64 dP),(9,dI .i64 bW)]) (fun (dP,bW,eA)=>⟨[(0,dC (al_cV.f tO)),(1,dC (al_cV.f (er))),(2,dC (al_cV.f eA))],[],3⟩) (PE cx (.exit 0) (fun (cu,po)=>[(4,.pt 0 0),(6,.pt 1 0),(7,dI .u64 cu)]) fun (cu,po)=>⟨[(0,dC (al_cV.f (er))),(1,dC (al_cV.f po))],[],2⟩) hy ?_ ?_ ?_
 exact wk0 h0 [0,1,2]
 clear hy h
 rintro⟨dP,bW,eA⟩ y h
 dsimp only[mB] at h
 refine ra hx ?_
 refine AW.seq (cdh h rfl (fun fT h=>?_) (fun fT h=>?_))
 refine AW.skip (AW.seq (AW.block (ra hx ?_)))
 refine rs hx fun K hK=>?_
 iterate 2 refine sa ?_
 obtain⟨rA,h⟩:=aA h
 iterate 4 refine sbi ?_
 obtain⟨Pf,h⟩:=aA h
 refine s1 (Vk Pf) ?_
 refine sa ?_
 obtain⟨x5,GK,h⟩:=ae h
 replace GK:=bD GK
 refine s2 (d2:=dI .u64 x5) lP (gG (congrArg (dI .u64) GK)) ?_
 refine nl hK ?_
 refine rs hx fun K hK=>?_
 iterate 3 refine sa ?_
 obtain⟨hc7,h⟩:=aA h
 have Rv:(bW).toNat<16:=by omega
 refine sbi ?_
 refine s0 (zd (b':=u32.wrap (x5)) (b9.comp (b9.id _ _) (b9.vec (cI .u32) eA (bW).toNat Rv) (fun _=>rfl)) bX) ?_
 refine nl hK ?_
 iterate 2 refine rb hx ?_
 exact pel h h0 [0,1,2]
 exact AW.exit (per h h0 [1,2])
 obtain⟨cu,po⟩:=y
 refine lw0 ?_
 refine rai hx ?_
 refine AW.ret ?_
 cases h
 exact rv2
def lK(tO:Vector Int 16)(db:Int):Int×(Vector Int 16)→Option ((Int×(Vector Int 16))⊕((Vector Int 16))):=fun (aU,bu)=>cnd (decide (aU<(16:Int))) (bnd (S:=Int) (cnd (decide ((i64.wrap (aU+(1:Int)))<(16:Int))) (gd (0≤i64.wrap (aU+(1:Int))∧i64.wrap (aU+(1:Int))<16) (bnd (some (u64.wrap ((tO)[(i64.wrap (aU+(1:Int))).toNat]!))) fun x5=>some (x5))) (some ((0:Int)))) fun FE=>gd (0≤aU∧aU<16) (gd (0≤db) (gd (0≤aU∧aU<16) (bnd (some ((bu).set! (aU).toNat (u32.wrap (mA .u64 (ior .u64 (zI .u64 FE (32:Int)) (u64.wrap ((tO)[(aU).toNat]!))) db)))) fun qW=>some (.inl (i64.wrap (aU+(1:Int)),qW)))))) (some (.inr bu))
def o0(tO:Vector Int 16)(db:Int):Option (Vector Int 16):=bnd (bt (lK tO db) ((0:Int),(er))) fun bh=>some bh
theorem H7 {tO:Vector Int 16}{db:Int}{r:Vector Int 16}(h:o0 tO db=some r):ar prog 193 [dG al_cV tO,dI .i64 db] (dG al_cV r):=by
 refine bk (rs:=[.cell 4 39]) (fun cx hx h0=>?_) func193
 unfold o0 at h
 refine rai hx ?_
 refine rai hx ?_
 refine AW.seq (ra hx ?_)
 refine AW.block ?_
 obtain⟨bh,hy,h⟩:=ae h
 refine lp (S:=Int×(Vector Int 16)) (X:=(Vector Int 16)) (fun (aU,bu)=>[(1,dI .i64 db),(2,.pt 0 0),(4,.pt 1 0),(5,.pt 2 0),(8,dI .i64 aU)]) (fun (aU,bu)=>⟨[(0,dC (al_cV.f tO)),(1,dC (al_cV.f (er))),(2,dC (al_cV.f bu))],[],3⟩) (PE cx (.exit 0) (fun bh=>[(4,.pt 0 0),(5,.pt 1 0)]) fun bh=>⟨[(0,dC (al_cV.f (er))),(1,dC (al_cV.f bh))],[],2⟩) hy ?_ ?_ ?_
 exact wk0 h0 [0,1,2]
 clear hy h
 rintro⟨aU,bu⟩ y h
 dsimp only[lK] at h
 refine ra hx ?_
 refine AW.seq (cdh h rfl (fun fT h=>?_) (fun fT h=>?_))
 refine AW.skip (AW.seq (AW.block ?_))
 iterate 2 refine ra hx ?_
 refine AW.seq ?_
 obtain⟨FE,hy,h⟩:=ae h
 refine jn ((PE cx .normal (fun FE=>[(1,dI .i64 db),(2,.pt 0 0),(4,.pt 1 0),(5,.pt 2 0),(6,dI .i64 aU),(7,dI .u64 FE),(8,dI .i64 aU)]) fun FE=>⟨[(0,dC (al_cV.f tO)),(1,dC (al_cV.f (er))),(2,dC (al_cV.f bu))],[],3⟩) FE) ?_ ?_
 replace h:=hy
 refine ra hx ?_
 refine cdh h rfl (fun xf h=>?_) (fun xf h=>?_)
 refine rq hx fun K hK=>?_
 iterate 2 refine sa ?_
 obtain⟨hc3,h⟩:=aA h
 iterate 3 refine sbi ?_
 obtain⟨x5,GK,h⟩:=ae h
 replace GK:=bD GK
 refine s2 (d2:=dI .u64 x5) lP (gG (congrArg (dI .u64) GK)) ?_
 refine nl hK ?_
 exact pe1 h h0 [0,1,2]
 exact AW.skip (pe1 h h0 [0,1,2])
 refine lw0 ?_
 refine rq hx fun K hK=>?_
 iterate 4 refine sa ?_
 obtain⟨hc8,h⟩:=aA h
 iterate 5 refine sbi ?_
 obtain⟨Nd,h⟩:=aA h
 refine s1 (Vj Nd) ?_
 refine sa ?_
 obtain⟨TM,h⟩:=aA h
 have hn12:(aU).toNat<16:=by omega
 refine sbi ?_
 obtain⟨qW,S4,h⟩:=ae h
 replace S4:=bD S4
 refine s0 (oa (b':=u32.wrap (mA .u64 (ior .u64 (zI .u64 FE (32:Int)) (u64.wrap ((tO)[(aU).toNat]!))) db)) (b9.comp (b9.id _ _) (b9.vec (cI .u32) bu (aU).toNat hn12) (fun _=>rfl)) bX S4) ?_
 refine nl hK ?_
 refine rb hx ?_
 exact pel h h0 [0,1,2]
 exact AW.exit (per h h0 [1,2])
 refine lw0 ?_
 refine rai hx ?_
 exact AW.ret (rtv h)
def kg(aG:Vector Int 16)(aP:Int):Int×Int×(Vector Int 16)→Option ((Int×Int×(Vector Int 16))⊕(Int×(Vector Int 16))):=fun (aU,bu,m8)=>cnd (decide ((0:Int)≤bu)) (gd (0≤bu∧bu<16) (bnd (some (ior .u64 (zI .u64 aU (32:Int)) (u64.wrap ((aG)[(bu).toNat]!)))) fun x4=>gd (u64.wrap (aP)≠0) (gd (0≤bu∧bu<16) (bnd (some ((m8).set! (bu).toNat (u32.wrap (u64.wrap (Int.tdiv x4 (u64.wrap (aP))))))) fun x9=>gd (u64.wrap (aP)≠0) (some (.inl (Int.tmod x4 (u64.wrap (aP)),i64.wrap (bu - (1:Int)),x9))))))) (some (.inr (aU,m8)))
def nL(aG:Vector Int 16)(aP:Int):Option ((Vector Int 16)×Int):=bnd (bt (kg aG aP) ((0:Int),(15:Int),(er))) fun (bh,kM)=>some (kM,u32.wrap (bh))
theorem Gt {aG:Vector Int 16}{aP:Int}{r:(Vector Int 16)×Int}(h:nL aG aP=some r):ar prog 187 [dG al_cV aG,dI .u32 aP] (.tu [dG al_cV r.1,dI .u32 r.2]):=by
 refine bk (rs:=[.cell 4 39,.tmp 5]) (fun cx hx h0=>?_) func187
 unfold nL at h
 refine rai hx ?_
 refine ra hx ?_
 refine AW.seq (ra hx ?_)
 refine AW.block ?_
 obtain⟨y,hy,h⟩:=ae h
 refine lp (S:=Int×Int×(Vector Int 16)) (X:=Int×(Vector Int 16)) (fun (aU,bu,m8)=>[(1,dI .u32 aP),(2,.pt 0 0),(4,.pt 1 0),(6,dI .u64 aU),(7,dI .i64 bu)]) (fun (aU,bu,m8)=>⟨[(0,dC (al_cV.f aG)),(1,dC (al_cV.f m8))],[],2⟩) (PE cx (.exit 0) (fun (bh,kM)=>[(4,.pt 0 0),(6,dI .u64 bh)]) fun (bh,kM)=>⟨[(0,dC (al_cV.f kM))],[],1⟩) hy ?_ ?_ ?_
 exact wk0 h0 [0,1]
 clear hy h
 rintro⟨aU,bu,m8⟩ y h
 dsimp only[kg] at h
 refine AW.seq (ra hx ?_)
 refine cdh h rfl (fun fT h=>?_) (fun fT h=>?_)
 refine AW.skip (AW.seq (AW.block (rs hx fun K hK=>?_)))
 iterate 3 refine sa ?_
 obtain⟨rA,h⟩:=aA h
 iterate 4 refine sbi ?_
 obtain⟨x4,QB,h⟩:=ae h
 replace QB:=bD QB
 refine s2 (d2:=dI .u64 x4) lP (gG (congrArg (dI .u64) QB)) ?_
 refine nl hK ?_
 refine rs hx fun K hK=>?_
 iterate 4 refine sa ?_
 obtain⟨hc6,h⟩:=aA h
 refine s1 (HX hc6) ?_
 refine sa ?_
 obtain⟨hc7,h⟩:=aA h
 have Rv:(bu).toNat<16:=by omega
 refine sbi ?_
 obtain⟨x9,MZ,h⟩:=ae h
 replace MZ:=bD MZ
 refine s0 (oa (b':=u32.wrap (u64.wrap (Int.tdiv x4 (u64.wrap (aP))))) (b9.comp (b9.id _ _) (b9.vec (cI .u32) m8 (bu).toNat Rv) (fun _=>rfl)) bX MZ) ?_
 refine nl hK ?_
 refine rq hx fun K hK=>?_
 iterate 3 refine sa ?_
 obtain⟨TM,h⟩:=aA h
 refine s1 (FH TM) ?_
 refine nbi hK ?_
 refine rb hx ?_
 exact pel h h0 [0,1]
 exact AW.exit (per h h0 [1])
 obtain⟨bh,kM⟩:=y
 refine lw0 ?_
 refine rai hx ?_
 refine AW.ret ?_
 cases h
 exact rv2
section
section
variable {b A B k m d:Nat}
theorem qm(hb:0<b):((A % b ^ k+B % b ^ k) / b ^ k+dg b A k+dg b B k) % b=dg b (A+B) k∧((A % b ^ k+B % b ^ k) / b ^ k+dg b A k+dg b B k) / b=(A % b ^ (k+1)+B % b ^ (k+1)) / b ^ (k+1):=by
 have hp:0<b ^ k:=bV hb
 have hs:A % b ^ (k+1)+B % b ^ (k+1)=(A % b ^ k+B % b ^ k)+b ^ k*(dg b A k+dg b B k):=by
  rw[ic,ic,vM];omega
 have h1:(A % b ^ (k+1)+B % b ^ (k+1)) / b ^ k=(A % b ^ k+B % b ^ k) / b ^ k+dg b A k+dg b B k:=by
  rw[hs,z5 _ _ hp];omega
 refine⟨?_,?_⟩
 ·have e:A+B=(A % b ^ (k+1)+B % b ^ (k+1))+b ^ k*(b*(A / b ^ (k+1)+B / b ^ (k+1))):=by
   have e1:=l8 A (b ^ (k+1))
   have e2:=l8 B (b ^ (k+1))
   have e3:b ^ k*(b*(A / b ^ (k+1)+B / b ^ (k+1)))=b ^ (k+1)*(A / b ^ (k+1))+b ^ (k+1)*(B / b ^ (k+1)):=by
    rw[←eR,←cK,vM]
   omega
  unfold dg
  rw[e,z5 _ _ hp,h1]
  unfold dg
  rw[CD]
 ·rw[cK,←ia,←cK,h1]
theorem pb(hb:0<b):(A % b ^ k+B % b ^ k) / b ^ k≤1:=by
 have hp:0<b ^ k:=bV hb
 have h1:=ey A hp
 have h2:=ey B hp
 have:(A % b ^ k+B % b ^ k) / b ^ k<2:=(l7 hp).2 (by omega)
 omega
theorem Hi(hb:0<b):(A % b ^ k*m / b ^ k+dg b A k*m) % b=dg b (A*m) k∧(A % b ^ k*m / b ^ k+dg b A k*m) / b=A % b ^ (k+1)*m / b ^ (k+1):=by
 have hp:0<b ^ k:=bV hb
 have hs:A % b ^ (k+1)*m=A % b ^ k*m+b ^ k*(dg b A k*m):=by
  rw[ic,bP,eR]
 have h1:A % b ^ (k+1)*m / b ^ k=A % b ^ k*m / b ^ k+dg b A k*m:=by
  rw[hs,z5 _ _ hp]
 refine⟨?_,?_⟩
 ·have e:A*m=A % b ^ (k+1)*m+b ^ k*(b*(A / b ^ (k+1)*m)):=by
   have e1:=l8 A (b ^ (k+1))
   have e3:b ^ k*(b*(A / b ^ (k+1)*m))=b ^ (k+1)*(A / b ^ (k+1))*m:=by
    rw[←eR,←cK,←eR]
   rw[e3,←bP]
   congr 1
   omega
  have h2:dg b (A*m) k=A*m / b ^ k % b:=rfl
  rw[h2,e,z5 _ _ hp,h1,CD]
 ·rw[cK,←ia,←cK,h1]
theorem BX(hb:0<b)(hm:0<m):A % b ^ k*m / b ^ k<m:=by
 have hp:0<b ^ k:=bV hb
 rw[l7 hp,bz]
 exact Nat.mul_lt_mul_of_pos_left (ey A hp) hm
theorem zB(hb:0<b)(hd:0<d):(A / b ^ (k+1) % d*b+dg b A k) / d=dg b (A / d) k∧(A / b ^ (k+1) % d*b+dg b A k) % d=A / b ^ k % d:=by
 have e:=cG (b:=b) (A:=A) (k:=k)
 have hR:=l8 (A / b ^ (k+1)) d
 generalize hr:A / b ^ (k+1) % d=r at hR ⊢
 generalize ht:A / b ^ (k+1) / d=t at hR
 have hrd:r<d:=by rw[←hr];exact ey _ hd
 have ha:dg b A k<b:=Ut hb
 generalize dg b A k=a at e ha ⊢
 have e2:A / b ^ k=r*b+a+d*(t*b):=by
  rw[e,←hR,bP,eR];omega
 have bO:(r*b+a) / d<b:=by
  rw[l7 hd]
  have:(r+1)*b≤d*b:=cz _ hrd
  rw[bP,fk,bz d b] at this
  omega
 refine⟨?_,?_⟩
 ·have:dg b (A / d) k=A / b ^ k / d % b:=by unfold dg;rw[ia,bz,←ia]
  rw[this,e2,z5 _ _ hd,NZ,eD bO]
 ·rw[e2,CD]
end
abbrev W(A:Nat):Vector Int 16:=vN 4294967296 16 A
theorem gV {A k:Nat}(h:k<16):(W A)[k]! =(dg 4294967296 A k:Int):=jQ h
theorem dgl {A k:Nat}:dg 4294967296 A k<4294967296:=Ut (by decide)
theorem G_plus {A B:Nat}(hA:A<4294967296 ^ 16)(hB:B<4294967296 ^ 16):oZ (W A) (W B)=some (W (A+B),decide (A+B<4294967296 ^ 16)):=by
 have hl:=sf (b:=kj (W A) (W B)) (s0:=((0:Int),(0:Int),er)) (fun k=>(((A % 4294967296 ^ k+B % 4294967296 ^ k) / 4294967296 ^ k:Nat),(k:Int),vN 4294967296 16 ((A+B) % 4294967296 ^ k))) 16 (((A % 4294967296 ^ 16+B % 4294967296 ^ 16) / 4294967296 ^ 16:Nat),vN 4294967296 16 ((A+B) % 4294967296 ^ 16))
  (by simp only[gf,nF,tn];rfl)
  (fun k hk=>by
   have hc:=pb (b:=4294967296) (A:=A) (B:=B) (k:=k) (by decide)
   obtain⟨h1,h2⟩:=qm (b:=4294967296) (A:=A) (B:=B) (k:=k) (by decide)
   have ha:=@dgl A k
   have hb:=@dgl B k
   dsimp only[kj]
   rw[cH _ _,aC,aC,ab,aC,bH,gV hk,gV hk,iE,iE,←kK,iE,←kK,iE,yI,BB,←xE,h1,h2,Dz (by decide) hk,ce,kK]
   rfl)
  (by
   dsimp only[kj]
   rw[cr _ _])
 unfold oZ
 rw[hl,ab,eD hA,eD hB,Ic (by decide)]
 dsimp only
 congr 2
 have:((((A+B) / 4294967296 ^ 16:Nat):Int)=0)↔A+B<4294967296 ^ 16:=by
  rw[Int.natCast_eq_zero,Jx (by decide)]
 exact lE.2 this
theorem JQ {A B:Nat}(hBA:B≤A):iv (W A) (W B)=some (W (A - B)):=by
 obtain⟨D,rfl⟩:∃D,A=D+B:=⟨A - B,by omega⟩
 rw[vL]
 have hl:=sf (b:=jA (W (D+B)) (W B)) (s0:=((0:Int),(0:Int),er)) (fun k=>(((D % 4294967296 ^ k+B % 4294967296 ^ k) / 4294967296 ^ k:Nat),(k:Int),vN 4294967296 16 (D % 4294967296 ^ k))) 16 (vN 4294967296 16 (D % 4294967296 ^ 16))
  (by simp only[gf,nF,tn];rfl)
  (fun k hk=>by
   have hc:=pb (b:=4294967296) (A:=D) (B:=B) (k:=k) (by decide)
   obtain⟨h1,h2⟩:=qm (b:=4294967296) (A:=D) (B:=B) (k:=k) (by decide)
   have ha:=@dgl D k
   have hb:=@dgl B k
   have hd:=@dgl (D+B) k
   generalize (D % 4294967296 ^ k+B % 4294967296 ^ k) / 4294967296 ^ k=c at h1 h2 hc ⊢
   generalize (D % 4294967296 ^ (k+1)+B % 4294967296 ^ (k+1)) / 4294967296 ^ (k+1)=c' at h2 ⊢
   dsimp only[jA]
   rw[cH _ _,aC,aC,ab,aC,bH,gV hk,gV hk,iE,iE,ce]
   have hx:∃x:Nat,u64.wrap (u64.wrap ((dg 4294967296 (D+B) k:Int) - (dg 4294967296 B k:Int)) - (c:Int))=(x:Int)∧x / 9223372036854775808=c'∧x % 4294967296=dg 4294967296 D k:=by
    rw[IntKind.wrap_u64,IntKind.wrap_u64]
    refine⟨((((dg 4294967296 (D+B) k:Int) - (dg 4294967296 B k:Int)) % 18446744073709551616 - (c:Int)) % 18446744073709551616).toNat,by omega,by omega,by omega⟩
   obtain⟨x,Hn,xX,hx3⟩:=hx
   rw[Hn,R7,BB,xX,hx3,Dz (by decide) hk]
   rfl)
  (by
   dsimp only[jA]
   rw[cr _ _])
 unfold iv
 rw[hl,ab,Ic (by decide)]
theorem G_up {A s:Nat}(hs:s<32):p8 (W A) (s:Int)=some (W (A*2 ^ s),((A % 4294967296 ^ 16*2 ^ s / 4294967296 ^ 16:Nat):Int)):=by
 have Mk:2 ^ s≤2 ^ 31:=hJ (by decide) (by omega)
 have hs3:0<2 ^ s:=bV (by decide)
 have hl:=sf (b:=mB (W A) (s:Int)) (s0:=((0:Int),(0:Int),er)) (fun k=>((A % 4294967296 ^ k*2 ^ s / 4294967296 ^ k:Nat),(k:Int),vN 4294967296 16 (A*2 ^ s % 4294967296 ^ k))) 16 ((A % 4294967296 ^ 16*2 ^ s / 4294967296 ^ 16:Nat),vN 4294967296 16 (A*2 ^ s % 4294967296 ^ 16))
  (by simp only[gf,nF,tn,gS,Nat.zero_div];rfl)
  (fun k hk=>by
   have hc:=BX (b:=4294967296) (A:=A) (k:=k) (m:=2 ^ s) (by decide) hs3
   obtain⟨h1,h2⟩:=Hi (b:=4294967296) (A:=A) (k:=k) (m:=2 ^ s) (by decide)
   have ha:=@dgl A k
   have hm:dg 4294967296 A k*2 ^ s≤4294967295*2 ^ s:=cz _ (by omega)
   generalize A % 4294967296 ^ k*2 ^ s / 4294967296 ^ k=c at h1 h2 hc ⊢
   generalize A % 4294967296 ^ (k+1)*2 ^ s / 4294967296 ^ (k+1)=c' at h2 ⊢
   dsimp only[mB]
   rw[cH _ _,aC,aC,ab,aC,bH,gV hk,iE,ST _ _ (by omega) (by omega),SU,ior_n hc (by omega),yI,BB,ce,qR _ c,h1,h2,Dz (by decide) hk]
   rfl)
  (by
   dsimp only[mB]
   rw[cr _ _])
 have hc:A % 4294967296 ^ 16*2 ^ s / 4294967296 ^ 16<2 ^ s:=BX (by decide) hs3
 unfold p8
 rw[hl,ab,Ic (by decide)]
 dsimp only
 rw[BA]
theorem G_down {A s:Nat}(hA:A<4294967296 ^ 16)(hs:s<32):o0 (W A) (s:Int)=some (W (A / 2 ^ s)):=by
 have Mk:2 ^ s≤2 ^ 31:=hJ (by decide) (by omega)
 have hs3:0<2 ^ s:=bV (by decide)
 have hl:=sf (b:=lK (W A) (s:Int)) (s0:=((0:Int),er)) (fun k=>((k:Int),vN 4294967296 16 (A / 2 ^ s % 4294967296 ^ k))) 16 (vN 4294967296 16 (A / 2 ^ s % 4294967296 ^ 16))
  (by simp only[gf,nF,tn];rfl)
  (fun k hk=>by
   have ha:=@dgl A k
   have ha1:=@dgl A (k+1)
   have hd:(dg 4294967296 A (k+1)*4294967296+dg 4294967296 A k) / 2 ^ s % 4294967296=dg 4294967296 (A / 2 ^ s) k:=by
    have e1:dg 4294967296 (A / 2 ^ s) k=A / 4294967296 ^ k / 2 ^ s % 4294967296:=by
     unfold dg;rw[ia,bz,←ia]
    have e2:A / 4294967296 ^ k=(dg 4294967296 A (k+1)*4294967296+dg 4294967296 A k)+2 ^ s*(4294967296*(2 ^ (32 - s)*(A / 4294967296 ^ (k+2)))):=by
     have e3:=cG (b:=4294967296) (A:=A) (k:=k)
     have e4:=cG (b:=4294967296) (A:=A) (k:=k+1)
     have e5:2 ^ s*(4294967296*(2 ^ (32 - s)*(A / 4294967296 ^ (k+2))))=2 ^ s*2 ^ (32 - s)*4294967296*(A / 4294967296 ^ (k+2)):=by
      simp only[eR,xC]
     rw[e5,←ip,show s+(32 - s)=32 from by omega,e3,e4,show k+1+1=k+2 from rfl,show (2:Nat) ^ 32=4294967296 from rfl]
     generalize A / 4294967296 ^ (k+2)=q
     generalize dg 4294967296 A (k+1)=d1
     generalize dg 4294967296 A k=d0
     omega
    rw[e1,e2,z5 _ _ hs3,CD]
   dsimp only[lK]
   rw[cH _ _]
   have CU:(bnd (S:=Int) (cnd (decide ((i64.wrap ((k:Int)+(1:Int)))<(16:Int))) (gd (0≤i64.wrap ((k:Int)+(1:Int))∧i64.wrap ((k:Int)+(1:Int))<16) (bnd (some (u64.wrap ((W A)[(i64.wrap ((k:Int)+(1:Int))).toNat]!))) fun x5=>some (x5))) (some ((0:Int)))) (fun a=>some a))=some ((dg 4294967296 A (k+1):Nat):Int):=by
    rw[ce]
    by_cases TC:k+1<16
    ·rw[cH _ _,aC,ab,show ((k:Int)+1).toNat=k+1 from by omega,gV TC,iE,ab]
    ·rw[cr _ _,ab,mg (bM hA (hJ (by decide) (by omega)))]
     rfl
   rw[vw] at CU
   rw[CU,ab,aC,aC,aC,ab,bH,gV hk,iE,KB ha1,KW ha ha1,B8 .u64 _ _ (by show s≤64;omega),BB,hd,Dz (by decide) hk,ce]
   rfl)
  (by
   dsimp only[lK]
   rw[cr _ _])
 unfold o0
 rw[hl,ab,Ic (by decide)]
theorem G_short {A d:Nat}(hA:A<4294967296 ^ 16)(hd:0<d)(yR:d<4294967296):nL (W A) (d:Int)=some (W (A / d),((A % d:Nat):Int)):=by
 have hl:=SK (b:=kg (W A) (d:Int)) (s0:=((0:Int),(15:Int),er)) (fun k=>((A / 4294967296 ^ k % d:Nat),(k:Int) - 1,vN 4294967296 16 (A / d / 4294967296 ^ k*4294967296 ^ k))) 16 ((A / 4294967296 ^ 0 % d:Nat),vN 4294967296 16 (A / d / 4294967296 ^ 0*4294967296 ^ 0))
  (by
   have h1:A / d<4294967296 ^ 16:=dM (pj _ _) hA
   simp only[eI hA,eI h1,gS,tn,Nat.zero_mod];rfl)
  (fun k hk=>by
   have ha:=@dgl A k
   have hq:=@dgl (A / d) k
   obtain⟨h1,h2⟩:=zB (b:=4294967296) (A:=A) (k:=k) (d:=d) (by decide) hd
   have hr:A / 4294967296 ^ (k+1) % d<d:=ey _ hd
   generalize A / 4294967296 ^ (k+1) % d=r at h1 h2 hr ⊢
   generalize A / 4294967296 ^ k % d=r' at h2 ⊢
   have ed:u64.wrap (d:Int)=(d:Int):=iE
   dsimp only[kg]
   rw[cH _ _,aC,ab,ed,aC,aC,ab,aC,show (((k+1:Nat):Int) - 1).toNat=k from by omega,gV hk,iE,KB (by omega),KW ha (by omega),←tZ,←tY,h1,h2,iE,BA hq,Ov (by decide) hk,ce]
   congr 4
   omega)
  (by
   dsimp only[kg]
   rw[cr _ _])
 rw[gf,nE,nE,zb] at hl
 have hr:A % d<d:=ey _ hd
 unfold nL
 rw[hl,ab]
 dsimp only
 rw[BA]
end
def LIM:Nat:=4294967296 ^ 16
theorem FT:LIM=4294967296 ^ 16:=rfl
theorem ym:0<LIM:=by decide
theorem W_zero:W 0=er:=tn
theorem z16:(#v[(0:Int),0,0,0,0,0,0,0,0,0,0,0,0,0,0,0]:Vector Int 16)=W 0:=by
 rw[W_zero];rfl
theorem r16:er=W 0:=tn.symm
theorem FG {A B:Nat}(hA:A<LIM)(hB:B<LIM):W A=W B↔A=B:=⟨vN_inj hA hB,fun h=>by rw[h]⟩
def Iv(A B:Nat):Int:=if A<B then -1 else if B<A then 1 else 0
theorem G_cmp(x y:Int):gL x y=some (if x<y then -1 else if y<x then 1 else 0):=by
 have hn:∀z:Int,ge z=some false:=fun z=>by unfold ge;simp
 unfold gL
 rw[hn,hn,ab,ab,aI,aI,gz,gz]
 split
 ·rfl
 ·split <;> rfl
theorem CR {A B k:Nat}(he:A / 4294967296 ^ (k+1)=B / 4294967296 ^ (k+1))(h:dg 4294967296 A k<dg 4294967296 B k):A<B:=by
 have e1:=cG (b:=4294967296) (A:=A) (k:=k)
 have e2:=cG (b:=4294967296) (A:=B) (k:=k)
 have h1:A / 4294967296 ^ k<B / 4294967296 ^ k:=by
  rw[e1,e2,he];exact Fu h _
 rcases d9 A B with h2|h2
 ·exact h2
 ·exact absurd (NY h2) (Nat.not_le.2 h1)
theorem DU {A B:Nat}(hA:A<LIM)(hB:B<LIM):iu (W A) (W B)=some (Iv A B):=by
 rw[FT] at hA hB
 obtain⟨x,hl,hx⟩:=wh (b:=kr (W A) (W B)) (fun s=>∃k:Nat,s=(k:Int) - 1∧k≤16∧A / 4294967296 ^ k=B / 4294967296 ^ k) (fun s=>(s+1).toNat) (fun x=>match x with| .inl r=>r=Iv A B| .inr _=>A=B)
  (by
   rintro s ⟨k,rfl,hk,he⟩
   cases k with
   |zero=>
    right
    refine⟨(Sum.inr ():Int⊕Unit),?_,?_⟩
    ·dsimp only[kr]
     rw[cr _ _]
    ·simpa using he
   |succ k=>
    have wD:k<16:=by omega
    have e:((k+1:Nat):Int) - 1=(k:Int):=by omega
    rw[e]
    dsimp only[kr]
    rw[cH _ _,aC,aC,bH,gV wD,gV wD]
    by_cases hd:dg 4294967296 A k=dg 4294967296 B k
    ·left
     refine⟨(k:Int) - 1,?_,⟨k,rfl,by omega,?_⟩,by omega⟩
     ·rw[cr _ _ (by rw[hd];simp),ce]
     ·rw[cG (b:=4294967296) (A:=A) (k:=k),cG (b:=4294967296) (A:=B) (k:=k),he,hd]
    ·right
     refine⟨(Sum.inl (Iv A B):Int⊕Unit),?_,rfl⟩
     rw[cH _ _,aC,aC,G_cmp,ab]
     congr 3
     unfold Iv
     rcases Nat.lt_or_gt_of_ne hd with h|h
     ·have:=CR he h
      rw[ifp_,ah this]
     ·have:=CR he.symm h
      rw[ifn_,ifp_,ifn_,ah this]) (15:Int) ⟨16,rfl,az _,by rw[eI hA,eI hB]⟩
 unfold iu
 rw[hl,ab]
 cases x with
 |inl r=>obtain rfl:r=_:=hx;rfl
 |inr u=>
  obtain rfl:A=B:=hx
  unfold Iv
  simp
def szp(b A n:Nat):Prop:=A<b ^ n∧(0<n→b ^ (n - 1)≤A)
theorem RY {b A n m:Nat}(hb:0<b)(h:szp b A n)(h':szp b A m):n=m:=by
 have key:∀{n m:Nat},szp b A n→szp b A m→m≤n:=by
  intro n m h h'
  rcases d9 n m with h1|h1
  ·have h2:=h'.2 (by omega)
   have h3:b ^ n≤b ^ (m - 1):=hJ hb (by omega)
   have:=h.1
   omega
  ·exact h1
 have:=key h h'
 have:=key h' h
 omega
theorem Mx {b A n k:Nat}(hb:0<b)(h:szp b A n)(hA:A<b ^ k):n≤k:=by
 rcases d9 k n with h1|h1
 ·have h2:=h.2 (by omega)
  have h3:b ^ k≤b ^ (n - 1):=hJ hb (by omega)
  omega
 ·exact h1
theorem CI {A:Nat}(hA:A<LIM):∃n:Nat,n≤16∧eV (W A)=some (n:Int)∧szp 4294967296 A n:=by
 rw[FT] at hA
 obtain⟨x,hl,n,rfl,hn,hs⟩:=wh (b:=lJ (W A)) (fun s=>∃n:Nat,s=(n:Int)∧n≤16∧A<4294967296 ^ n) (fun s=>s.toNat) (fun x=>∃n:Nat,x=(n:Int)∧n≤16∧szp 4294967296 A n)
  (by
   rintro s ⟨n,rfl,hn,bO⟩
   cases n with
   |zero=>
    right
    refine⟨_,?_,0,rfl,by omega,bO,fun h=>by omega⟩
    dsimp only[lJ]
    rw[cr _ _,ab,aI]
   |succ k=>
    have hk:k<16:=by omega
    have e:i64.wrap (((k+1:Nat):Int) - 1)=(k:Int):=by rw[ce];omega
    dsimp only[lJ]
    rw[cH _ _,e,aC,ab,bH,gV hk,gz]
    by_cases hd:dg 4294967296 A k=0
    ·left
     refine⟨(k:Int),by rw[ifp_],⟨k,rfl,by omega,?_⟩,by omega⟩
     unfold dg at hd
     have h1:A / 4294967296 ^ k<4294967296:=by
      rw[l7 (bV (by decide)),bz,←cK];exact bO
     rw[eD h1] at hd
     exact (Jx (bV (by decide))).1 hd
    ·right
     refine⟨_,by rw[ifn_],k+1,rfl,hn,bO,fun _=>?_⟩
     rcases d9 A (4294967296 ^ k) with h|h
     ·exact absurd (mg h) hd
     ·exact h) (16:Int) ⟨16,rfl,az _,hA⟩
 refine⟨n,hn,?_,hs⟩
 unfold eV
 rw[hl,ab]
def LC:ap:=⟨true,false,W 0⟩
def enc(z:Int):ap:=if z.natAbs<LIM then⟨false,decide (z<0),W z.natAbs⟩ else LC
theorem sx {z:Int}(h:z.natAbs<LIM):enc z=⟨false,decide (z<0),W z.natAbs⟩:=ah h
theorem EV {z:Int}(h:¬z.natAbs<LIM):enc z=LC:=ai h
def ee(x:ap):Bool:=!x.vBad&&(!decide (x.vW=W 0)||!x.vNeg)
def okI(x:ap):Prop:=∀j:Nat,j<16→0≤x.vW[j]!∧x.vW[j]! <4294967296
theorem DE(z:Int):okI (enc z):=by
 have key:∀(A j:Nat),j<16→0≤(W A)[j]!∧(W A)[j]! <4294967296:=fun A j hj=>by
  rw[gV hj];have:=@dgl A j;omega
 unfold enc
 split
 ·exact key _
 ·exact key 0
theorem bi {z:Int}(h:z.natAbs<LIM):ee (enc z)=true:=by
 rw[sx h]
 unfold ee
 dsimp only
 by_cases hz:z=0
 ·subst hz;simp
 ·have:¬W z.natAbs=W 0:=fun e=>hz (by have:=(FG h ym).1 e;omega)
  simp[this]
theorem AT {x:ap}(h:okI x)(hg:ee x=true):∃z:Int,z.natAbs<LIM∧x=enc z:=by
 obtain⟨A,hA,hv⟩:=vN_of (b:=4294967296) (n:=16) (by decide) x.vW (fun j hj=>h j hj)
 obtain⟨bad,neg,w⟩:=x
 dsimp only at hv
 subst hv
 unfold ee at hg
 simp only[bK,JB,CE,decide_eq_false_iff_not] at hg
 obtain⟨rfl,hg⟩:=hg
 have Pj:A<LIM:=hA
 cases neg with
 |false=>
  refine⟨(A:Int),Pj,?_⟩
  rw[sx (by simpa using Pj)]
  simp
 |true=>
  refine⟨-(A:Int),by simpa using Pj,?_⟩
  have h0:A≠0:=by
   rintro rfl
   rcases hg with h|h
   ·exact h rfl
   ·cases h
  rw[sx (by simpa using Pj)]
  have:-(A:Int)<0:=by omega
  simp[this,z4 h0]
theorem Hw:ee LC=false:=rfl
theorem AZ {z y:Int}(hz:z.natAbs<LIM)(hy:y.natAbs<LIM)(h:enc z=enc y):z=y:=by
 rw[sx hz,sx hy] at h
 simp only[ap.mk.injEq,true_and] at h
 obtain⟨h1,h2⟩:=h
 have h3:=(FG hz hy).1 h2
 have h4:=lE.1 h1
 omega
theorem Um {A:Nat}(hA:A<LIM)(neg:Bool):(⟨false,neg&&!decide (A=0),W A⟩:ap)=enc (bif neg then -(A:Int) else A):=by
 cases neg with
 |false=>rw[sx (by simpa using hA)];simp
 |true=>
  rw[sx (by simpa using hA)]
  simp only[Fs,kJ,Int.natAbs_neg,dZ,ap.mk.injEq,true_and,and_true]
  by_cases h:A=0
  ·subst h;simp
  ·have:-(A:Int)<0:=by omega
   simp[h,this,z4 h]
theorem PW(x:ap):lQ x=some (if x.vBad then decide (x.vW=W 0)&&!x.vNeg else !decide (x.vW=W 0)||!x.vNeg):=by
 unfold lQ
 rw[ab,z16]
 cases x.vBad <;> cases decide (x.vW=W 0) <;> rfl
theorem V1 {l:List ap}(hl:l.length<1000000):cE l=some (l.all ee):=by
 obtain⟨x,h1,hx⟩:=wh (b:=nW l) (fun s=>∃n:Nat,s=(n:Int)∧n≤l.length∧(l.take n).all ee=true) (fun s=>l.length - s.toNat) (fun x=>match x with| .inl r=>r=false∧l.all ee=false| .inr _=>l.all ee=true)
  (by
   rintro s ⟨n,rfl,hn,ha⟩
   dsimp only[nW]
   by_cases bO:n<l.length
   ·rw[cH _ _,aC,bH,PW,ab]
    have hg:cnd (l[n]!.vBad) (some true) (some (!(if l[n]!.vBad then decide (l[n]!.vW=W 0)&&!l[n]!.vNeg else !decide (l[n]!.vW=W 0)||!l[n]!.vNeg)))=some (!ee l[n]!):=by
     unfold ee
     cases l[n]!.vBad <;> rfl
    rw[hg,ab]
    have EF:(l.take (n+1)).all ee=((l.take n).all ee&&ee l[n]!):=by
     rw[bT l n bO,List.take_succ_eq_append_getElem bO,mi]
     simp
    cases hgb:ee l[n]! with
    |true=>
     left
     refine⟨((n+1:Nat):Int),?_,⟨n+1,rfl,bO,by rw[EF,ha,hgb];rfl⟩,by omega⟩
     rw[c8,aI,ce]
     rfl
    |false=>
     right
     refine⟨_,rfl,rfl,?_⟩
     rw[←t4 (n+1) l,mi,EF,hgb]
     simp
   ·right
    refine⟨_,by rw[cr _ _],?_⟩
    rw[ii (by omega)] at ha
    exact ha) (0:Int) ⟨0,rfl,cy _,by simp⟩
 unfold cE
 rw[h1,ab]
 cases x with
 |inl r=>obtain⟨rfl,h2⟩:=hx;rw[h2]
 |inr u=>rw[show l.all ee=true from hx]
theorem jO {A:Nat}(hA:A<LIM)(neg:Bool):bJ neg (W A)=some (enc (bif neg then -(A:Int) else A)):=by
 unfold bJ
 rw[z16,←Um hA]
 cases neg with
 |true=>
  rw[gN,ab]
  simp only[ab,FG hA ym,Fs,LJ]
 |false=>rfl
theorem P0:eo=some LC:=by unfold eo;rw[r16];rfl
theorem all2g(x y:ap):([x,y].all ee)=(ee x&&ee y):=by simp
theorem all1g(x:ap):([x].all ee)=ee x:=by simp
theorem vZ(x y:ap):cE [x,y]=some (ee x&&ee y):=by rw[V1 (by simp),all2g]
theorem v6(x:ap):cE [x]=some (ee x):=by rw[V1 (by simp),all1g]
theorem mf {z:Int}(h:z.natAbs<LIM):(enc z).vW=W z.natAbs:=by rw[sx h]
theorem jY {z:Int}(h:z.natAbs<LIM):(enc z).vNeg=decide (z<0):=by rw[sx h]
theorem G_Add {a c:Int}(ha:a.natAbs<LIM)(hc:c.natAbs<LIM):jD (enc a) (enc c)=some (enc (a+c)):=by
 unfold jD
 rw[vZ,bi ha,bi hc,ab]
 simp only[eQ,c8,aI,mf ha,mf hc,jY ha,jY hc]
 rw[G_plus (by rw[←FT];exact ha) (by rw[←FT];exact hc),ab,DU ha hc,ab,←FT]
 dsimp only
 by_cases hs:decide (a<0)=decide (c<0)
 ·have QF:=lE.1 hs
  rw[hs,Ft,gN]
  by_cases bO:a.natAbs+c.natAbs<LIM
  ·rw[aB bO,c8,aI,jO bO,ab]
   congr 2
   by_cases h:c<0
   ·simp only[h,sQ,kJ];omega
   ·simp only[h,sP,cond_false];omega
  ·rw[bm bO,sO,gN,P0,ab,EV (by omega)]
 ·have QF:¬((a<0)↔(c<0)):=fun h=>hs (lE.2 h)
  have hb:(decide (a<0) == decide (c<0))=false:=LN.2 hs
  rw[hb,aI]
  unfold Iv
  by_cases h1:a.natAbs<c.natAbs
  ·rw[ah h1,cr _ _,JQ (mL h1),ab,jO (by omega),ab]
   congr 2
   by_cases h:c<0
   ·simp only[h,sQ,kJ];omega
   ·simp only[h,sP,cond_false];omega
  ·have h2:(0:Int)≤(if a.natAbs<c.natAbs then -1 else if c.natAbs<a.natAbs then 1 else 0):=by
    rw[ai h1];split <;> omega
   rw[cH _ _ h2,JQ (by omega),ab,jO (by omega),ab]
   congr 2
   by_cases h:a<0
   ·simp only[h,sQ,kJ];omega
   ·simp only[h,sP,cond_false];omega
theorem Ro {x y:ap}(h:(ee x&&ee y)=false):jD x y=some LC:=by
 unfold jD
 rw[vZ,h,ab,sO,gN,P0,ab]
theorem V6 {a:Int}(ha:a.natAbs<LIM):kV (enc a)=some (enc (-a)):=by
 unfold kV
 rw[v6,bi ha,ab,c8,aI,mf ha,jY ha,jO ha,ab]
 congr 2
 by_cases h:a<0
 ·simp only[h,sQ,c8,cond_false];omega
 ·simp only[h,sP,sO,kJ];omega
theorem G_Sub {a c:Int}(ha:a.natAbs<LIM)(hc:c.natAbs<LIM):oh (enc a) (enc c)=some (enc (a - c)):=by
 unfold oh
 rw[V6 hc,ab,G_Add ha (by omega),ab]
 rfl
theorem xP {a:Int}(ha:a.natAbs<LIM):fC (enc a)=some a.sign:=by
 unfold fC
 rw[v6,bi ha,ab,c8,aI,ab,mf ha,jY ha,z16]
 simp only[FG ha ym]
 rcases xB a 0 with h|h|h
 ·rw[cr _ _,cH _ _ h,vK h]
 ·subst h;rfl
 ·rw[cr _ _,cr _ _,sM h]
end
end Go.Proofs.YtaedcknhkjpmlaaGreat
