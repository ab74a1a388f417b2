/-
  Lemmas, part 2. Conditions: none.
-/
import Derived.Test.YtgfcnncojhkcoaaGreatZ1
import Derived.Laws.MakeOwn
import Derived.Laws.CopyRow
import Derived.Test.YtgfcnncojhkcoaaGreatProg
set_option linter.all false
set_option maxRecDepth 100000
set_option maxHeartbeats 4000000
namespace Go.Proofs.YtgfcnncojhkcoaaGreat
open Go.RowKit Go.IntKind Tryz
noncomputable section
section
def dC(es:List E):List D:=es.map D.e
theorem RF(σ:Nat→Nat)(es:List E):(dC es).map (D.renC σ)=dC es:=by
 unfold dC;rw[rX];exact tK fun _ _=>rfl
theorem fL(es:List E):(dC es).length=es.length:=bW _
theorem DK {p:D→Bool}(h:∀e,p (.e e)=true)(es:List E):(dC es).all p=true:=by
 unfold dC;rw[D3];exact cb.2 fun e _=>h e
structure aX {β:Type}(F:List E)(c':Cd β)(o:Nat)(b:β)(F':β→List E):Prop where
 le:o+c'.sz≤F.length
 g:(F.drop o).take c'.sz=c'.f b
 p:∀y,F.take o++c'.f y++F.drop (o+c'.sz)=F' y
section
variable {α β γ:Type} {F:List E}
theorem aX.id(c:Cd α)(x:α):aX (c.f x) c 0 x c.f:=
 ⟨by rw[c.h];omega,by rw[oa,gu (by rw[c.h];exact aD _)],fun y=>by rw[H3,bB,yO (by rw[c.h];exact aD _),qw,vQ]⟩
theorem aX.comp {c1:Cd α}{c2:Cd β}{o1 o2:Nat}{b1:α}{b2:β}{F1:α→List E}{P2:β→List E}{P:β→α}(h1:aX F c1 o1 b1 F1)(h2:aX (c1.f b1) c2 o2 b2 P2)(hp:∀y,P2 y=c1.f (P y)):aX F c2 (o1+o2) b2 (fun y=>F1 (P y)):=by
 have l1:=h1.le
 have l2:=h2.le
 rw[c1.h] at l2
 refine⟨by omega,?_,fun y=>?_⟩
 ·rw[←h2.g,←h1.g,←nj,DZ,Bo,sZ (by omega)]
 ·rw[←h1.p (P y),←hp y,←h2.p y,←h1.g,Bo,sZ (by omega),List.take_add]
  have e:((F.drop o1).take c1.sz).drop (o2+c2.sz)++F.drop (o1+c1.sz)=F.drop (o1+o2+c2.sz):=by
   have e1:F.drop (o1+c1.sz)=(F.drop o1).drop c1.sz:=(nj ..).symm
   rw[e1,←LJ (by rw[e6,ie];omega),s4,nj,ob]
  rw[←e]
  simp only[fy]
theorem aX.of {c':Cd β}{o:Nat}{b:β}{F':β→List E}(A C:List E)(hA:A.length=o)(hF:F=A++(c'.f b++C))(hp:∀y,F' y=A++(c'.f y++C)):aX F c' o b F':=by
 subst hA hF
 refine⟨by simp[c'.h],?_,fun y=>?_⟩
 ·rw[t4,wJ (by rw[c'.h];exact aD _),gu (by rw[c'.h];exact aD _)]
 ·rw[hp,rP,←nj,t4,←c'.h b,t4,fy]
theorem aX.seq [Inhabited α](c:Cd α)(l:List α)(i:Nat)(h:i<l.length):aX (l.flatMap c.f) c (i*c.sz) l[i]! (fun y=>(l.set i y).flatMap c.f):=by
 have hl:(l.flatMap c.f).length=l.length*c.sz:=fZ c.f c.h l
 have hm:(i+1)*c.sz≤l.length*c.sz:=bJ _ h
 rw[bZ,d8] at hm
 refine⟨by rw[hl];exact hm,?_,fun y=>?_⟩
 ·have:=mq c.f c.h (l.drop i) 1
  rw[d8] at this
  rw[pd c.f c.h,this,LS h,f7 l i h,List.take_succ_cons,H3,oL,List.flatMap_nil,vQ]
 ·rw[mq c.f c.h,show i*c.sz+c.sz=(i+1)*c.sz by rw[bZ,d8],pd c.f c.h,List.set_eq_take_append_cons_drop,ar h,D8,oL,fy]
theorem zw [Inhabited α]{n:Nat}(v:Vector α n){i:Nat}(h:i<n):v.toList[i]! =v[i]! :=by
 rw[f7 v.toList i (by rw[sY];exact h),f7 v i h,Vector.getElem_toList]
theorem vec_set {n:Nat}(v:Vector α n)(i:Nat)(y:α):(v.set! i y).toList=v.toList.set i y:=by
 show (v.setIfInBounds i y).toList=_
 exact Vector.toList_setIfInBounds ..
theorem aX.vec [Inhabited α]{n:Nat}(c:Cd α)(v:Vector α n)(i:Nat)(h:i<n):aX ((cA n c).f v) c (i*c.sz) v[i]! (fun y=>(cA n c).f (v.set! i y)):=by
 have:=aX.seq c v.toList i (by rw[sY];exact h)
 rw[zw v h] at this
 refine⟨this.le,this.g,fun y=>?_⟩
 rw[show (cA n c).f (v.set! i y)=(v.set! i y).toList.flatMap c.f from rfl,vec_set]
 exact this.p y
end
section
variable {P:Program} {tb:TypeId→Option TyE} {dr:Bool} {ty:TypeId} {ev:Operand→D} {x y:Operand} {vs:List (Nat×List D)} {lv:List (Nat×Nat×Nat×TypeId)} {N k o:Nat} {F:List E} {β:Type} {c':Cd β} {b:β} {F':β→List E} {t:TypeId} {i:TyE}
theorem nq(L:aX F c' o b F')(ht:tb t=some i)(hg:i.ty.agg=true:=by exact rfl)(hz:c'.sz=i.size:=by exact rfl)(hx:ev x=.pt k o:=by exact rfl)(hv:vs.lookup k=some (dC F):=by exact rfl)(hk:Nat.ble (k+1) N=true:=by exact rfl):AVC P tb dr (.load t x) ty ev ⟨vs,lv,N⟩ (Kq (dG c' b) ⟨vs,lv,N⟩):=by
 rw[tH,hx,pG,ht,hv]
 simp only[hg]
 refine⟨b7 hk,by rw[fL,←hz];exact L.le,?_⟩
 have:((dC F).drop o).take i.size=(c'.f b).map D.e:=by
  unfold dC
  rw[←yj,←wH,←hz,L.g]
 rw[this]
 exact Kq.here _ _
theorem qU {e:E}(L:aX F c' o b F')(ht:tb t=some i)(he:c'.f b=[e]:=by exact rfl)(hg:i.ty.agg=false:=by exact rfl)(hx:ev x=.pt k o:=by exact rfl)(hv:vs.lookup k=some (dC F):=by exact rfl)(hk:Nat.ble (k+1) N=true:=by exact rfl):AVC P tb dr (.load t x) ty ev ⟨vs,lv,N⟩ (Kq (.e e) ⟨vs,lv,N⟩):=by
 have hs:c'.sz=1:=by rw[←c'.h b,he];rfl
 have MW:=L.g
 have hle:=L.le
 rw[hs] at MW hle
 rw[he] at MW
 rw[tH,hx,pG,ht,hv]
 simp only[hg]
 refine⟨b7 hk,.e e,?_,Kq.here _ _⟩
 unfold dC
 rw[fO]
 have:F[o]? =some e:=by
  have h0:(F.drop o)[0]? =F[o]? :=by rw[lX,mK]
  have h1:((F.drop o).take 1)[0]? =(F.drop o)[0]? :=by rw[ez];rfl
  rw[←h0,←h1,MW]
  rfl
 rw[this];rfl
theorem ig {b':β}(L:aX F c' o b F')(ht:tb t=some i)(hy:(ev y).cells=some (dC (c'.f b')):=by exact rfl)(hz:c'.sz=i.size:=by exact rfl)(hx:ev x=.pt k o:=by exact rfl)(hv:vs.lookup k=some (dC F):=by exact rfl):AVC P tb dr (.store t x y) ty ev ⟨vs,lv,N⟩ (Kq .top ⟨(k,dC (F' b'))::vs,lv,N⟩):=by
 rw[DS,hx,AI,ht,hv,hy]
 have hl:(dC (c'.f b')).length=i.size:=by rw[fL,c'.h,hz]
 refine⟨hl,by rw[fL,←hz];exact L.le,?_⟩
 have:(dC F).take o++dC (c'.f b')++(dC F).drop (o+(dC (c'.f b')).length)=dC (F' b'):=by
  rw[hl,←hz,←L.p b']
  unfold dC
  simp only[jR,wH,yj]
 rw[this]
 exact Kq.here _ _
theorem fq {b':β}{γ:Type}{c:Cd γ}{nw nm:γ}(L:aX F c' o b F')(ht:tb t=some i)(Oj:nw=nm)(hF:F' b'=c.f nw:=by exact rfl)(hy:(ev y).cells=some (dC (c'.f b')):=by exact rfl)(hz:c'.sz=i.size:=by exact rfl)(hx:ev x=.pt k o:=by exact rfl)(hv:vs.lookup k=some (dC F):=by exact rfl):AVC P tb dr (.store t x y) ty ev ⟨vs,lv,N⟩ (Kq .top ⟨(k,dC (c.f nm))::vs,lv,N⟩):=by
 have:=ig (P:=P) (dr:=dr) (ty:=ty) (lv:=lv) (N:=N) L ht hy hz hx hv
 rw[hF,Oj] at this
 exact this
theorem lB(ht:tb t=some i)(hz:i.zero.map E.lit=F:=by kernel_rfl):AVC P tb dr (.alloc t) ty ev ⟨vs,lv,N⟩ (Kq (.pt N 0) ⟨(N,dC F)::vs,lv,N+1⟩):=by
 subst hz
 have:=aO (P:=P) (dr:=dr) (ty:=ty) (ev:=ev) (vs:=vs) (lv:=lv) (N0:=N) ht
 unfold dC
 rw[rX]
 exact this
theorem Sx(h:(ev x).cells=some (dC F):=by exact rfl):AVC P tb dr (.box t x) ty ev ⟨vs,lv,N⟩ (Kq (.pt N 0) ⟨(N,dC F)::vs,lv,N+1⟩):=fC h
variable {hp:Hp} {j:TyE} {e:TypeId} {n:Nat} {kn:IntKind} {v:Int}
variable {s tt:TypeId} {fi:Nat} {fs:List (Nat×TypeId)}
inductive FL (tb:TypeId→Option TyE) (fs:List (Nat×TypeId)):List E→List (Nat×List D)→List E→Prop
 |nil (F:List E):FL tb fs F [] F
 |cons {γ:Type} {c:Cd γ} {F F2:List E} {o i:Nat} {b y:γ} {F':γ→List E} {rest:List (Nat×List D)} {cs:List D} (L:aX F c o b F') (hp:rH tb fs i=some (o,c.sz)) (hc:cs=dC (c.f y)) (h:FL tb fs (F' y) rest F2):FL tb fs F ((i,cs)::rest) F2
theorem FL.fill {F F2:List E}{qs:List (Nat×List D)}(h:FL tb fs F qs F2):gU (rH tb fs) (dC F) qs=some (dC F2):=by
 induction h with
 |nil F=>rfl
 |cons L hp hc h ih=>
  rename_i c F F2 o i b y F' rest cs
  subst hc
  unfold gU
  rw[hp]
  dsimp only
  have hl:(dC (c.f y)).length=c.sz:=by rw[fL,c.h]
  rw[aA (by rw[hl,fL];have:=L.le;omega),hl,←ih]
  congr 1
  rw[←L.p y]
  unfold dC
  simp only[jR,wH,yj]
theorem eT {ps:List (Nat×Operand)}{qs:List (Nat×List D)}{F2:List E}(h:FL tb fs F qs F2)(ht:tb t=some i)(h0:i.zero.map E.lit=F:=by kernel_rfl)(hi:i.ty=.struct fs:=by exact rfl)(ha:(fs.all fun f=>(tb f.2).isSome)=true:=by exact rfl)(hp1:lM (ps.map fun p=>(p.1,ev p.2))=some qs:=by exact rfl):AVC P tb dr (.build t ps.toArray) ty ev hp (Kq (.ag (dC F2)) hp):=by
 subst h0
 rw[z3,xl,ht,hp1]
 simp only[hi]
 have:(i.zero.map fun v=>D.e (.lit v))=dC (i.zero.map E.lit):=by unfold dC;rw[rX];rfl
 rw[this,h.fill]
 exact⟨fun f hf=>(cb.1 ha) f hf,Kq.here _ _⟩
theorem vC {σ:Nat→Nat}{m:Nat}{l:List (Nat×List D)}{F:List E}(h1:vs.lookup (σ k)=some (dC F))(hl:wkV σ m vs l)(h0:Nat.ble (k+1) m=true:=by exact rfl):wkV σ m vs ((k,dC F)::l):=
 ⟨⟨ltb h0,⟨_,h1,by rw[RF];exact ud _⟩,DK (fun _=>rfl) _,DK (fun _=>rfl) _⟩,hl⟩
def rnV(ρ:Nat→Nat):List (Nat×List D)→List (Nat×List D)→Prop
 |[],[]=>True
 |p::l,q::l'=>(ρ p.1=q.1∧p.2.map (D.renC ρ)=q.2∧p.2.all D.okC=true)∧rnV ρ l l'
 |_,_=>False
theorem rnV.map {ρ:Nat→Nat}:∀{l l':List (Nat×List D)},rnV ρ l l'→l.map (fun p=>(ρ p.1,p.2.map (D.renC ρ)))=l'∧(l.all fun p=>p.2.all D.okC)=true
 |[],[],_=>⟨rfl,rfl⟩
 |p::l,q::l',h=>by
  obtain⟨h1,h2⟩:=rnV.map h.2
  obtain⟨a,b,c⟩:=h.1
  refine⟨?_,by rw[nZ,c,h2];rfl⟩
  rw[fx,h1,a,b]
 |[],_::_,h=>h.elim
 |_::_,[],h=>h.elim
theorem rvN {ρ:Nat→Nat}:rnV ρ [] []:=trivial
theorem rvC {ρ:Nat→Nat}{k k2:Nat}{F:List E}{l l':List (Nat×List D)}(h:rnV ρ l l')(hk:ρ k=k2:=by exact rfl):rnV ρ ((k,dC F)::l) ((k2,dC F)::l'):=⟨⟨hk,RF _ _,DK (fun _=>rfl) _⟩,h⟩
theorem rvE {ρ:Nat→Nat}{k k2:Nat}{ds ds2:List D}{l l':List (Nat×List D)}(h:rnV ρ l l')(hk:ρ k=k2:=by exact rfl)(hd:ds.map (D.renC ρ)=ds2:=by exact rfl)(ho:ds.all D.okC=true:=by exact rfl):rnV ρ ((k,ds)::l) ((k2,ds2)::l'):=⟨⟨hk,hd,ho⟩,h⟩
theorem H7 {x:Operand}{f:FuncId}{aS:List Operand}{ts:Array TypeId}{Nb:List D}{r r':D}{Il qj vs vs1 v6:List (Nat×List D)}{Im vZ lv EN:List (Nat×Nat×Nat×TypeId)}{m n' N N2:Nat}(os:List Nat)
  (v4:ev x=.e (.lit (.func (.func f) #[] #[]))) (hc:HC P f Nb ⟨Il,Im,m⟩ r ⟨qj,vZ,n'⟩) (ha:frA (fun i=>os.getD i 0) m (aS.map ev) Nb) (hv:wkV (fun i=>os.getD i 0) m vs Il) (hl:wkL (fun i=>os.getD i 0) m lv Im) (hrn:rnV (rn os m N) qj vs1)
  (rD:r.ren (rn os m N)=r') (hr:r.okF=true) (hos:os.length=m:=by exact rfl) (uH:os.Nodup:=by decide) (bG:(os.all fun o=>Nat.ble (o+1) N)=true:=by exact rfl)
  (xg:vs1++vs.filter (fun p=>!os.contains p.1)=v6:=by exact rfl) (QV:frL (rn os m N) os vZ lv=EN:=by exact rfl) (hN:N+(n' - m)=N2:=by exact rfl)
  (hh:hvB tb ⟨.value x,aS.toArray,ts⟩=true:=by kernel_rfl):AVC P tb dr (.call ⟨.value x,aS.toArray,ts⟩) ty ev ⟨vs,lv,N⟩ (Kq r' ⟨v6,EN,N2⟩):=
 Nw v4 (HC.fr os hc ha hv hl hos uH bG hr hrn.map.2 rD (by unfold frV;rw[hrn.map.1,xg]) QV hN) rfl hh
theorem uE {x:Operand}{f:FuncId}{ks:List Nat}{aS:List Operand}{ts:Array TypeId}{Nb:List D}{r r':D}{Il qj vs vs1 v6:List (Nat×List D)}{Im vZ lv EN:List (Nat×Nat×Nat×TypeId)}{m n' N N2:Nat}(os:List Nat)
  (v4:ev x=.fn f ks) (hc:HC P f Nb ⟨Il,Im,m⟩ r ⟨qj,vZ,n'⟩) (ha:frA (fun i=>os.getD i 0) m (aS.map ev++ks.map fun k=>.pt k 0) Nb) (hv:wkV (fun i=>os.getD i 0) m vs Il) (hl:wkL (fun i=>os.getD i 0) m lv Im) (hrn:rnV (rn os m N) qj vs1)
  (rD:r.ren (rn os m N)=r') (hr:r.okF=true) (hos:os.length=m:=by exact rfl) (uH:os.Nodup:=by decide) (bG:(os.all fun o=>Nat.ble (o+1) N)=true:=by exact rfl)
  (xg:vs1++vs.filter (fun p=>!os.contains p.1)=v6:=by exact rfl) (QV:frL (rn os m N) os vZ lv=EN:=by exact rfl) (hN:N+(n' - m)=N2:=by exact rfl)
  (hh:hvB tb ⟨.value x,aS.toArray,ts⟩=true:=by kernel_rfl):AVC P tb dr (.call ⟨.value x,aS.toArray,ts⟩) ty ev ⟨vs,lv,N⟩ (Kq r' ⟨v6,EN,N2⟩):=
 T_callF v4 (HC.fr os hc ha hv hl hos uH bG hr hrn.map.2 rD (by unfold frV;rw[hrn.map.1,xg]) QV hN) rfl hh
theorem ex_G {α:Type}(c:Cd α)(a:α):D.ex (dG c a)=dG c a:=by
 show D.ag (((c.f a).map D.e).map D.exC)=_
 rw[rX];rfl
theorem tS {α:Type}(c:Cd α)(a:α):(D.ex (dG c a)).le (dG c a):=by rw[ex_G];exact ao _
theorem FD {α:Type}(c:Cd α)(a:α):(dG c a).okF=true:=DK (p:=D.okC) (fun _=>rfl) (c.f a)
theorem nr {off z m:Nat}(hb:0≤v∧v<(n:Int))(ht:tb t=some i)(he:tb e=some j)(hi:i.ty=.slice e:=by exact rfl)(hx:ev x=.ow m off z n:=by exact rfl)(hz:z=j.size:=by exact rfl)(hy:ev y=dI kn v:=by exact rfl):AVC P tb dr (.indexAddr t x y) ty ev hp (Kq (.pt m (off+v.toNat*j.size)) hp):=by
 rw[vj,hx,hy,tU,ht]
 simp only[hi,he]
 exact⟨hz,hb,Kq.here _ _⟩
end
section
variable {P:Program} {tb:TypeId→Option TyE}
structure EqC(tb:TypeId→Option TyE)(d:Nat)(t:TypeId){α:Type}(c:Cd α)(us:α→List Value):Prop where
 hf:∀x,c.f x=(us x).map E.lit
 ft:∀x,oH tb d t (us x)
 inj:∀x y,us x=us y↔x=y
theorem EqC.int {d:Nat}{t:TypeId}{k:IntKind}{i:TyE}(ht:tb t=some i)(hi:i.ty=.int k:=by exact rfl):EqC tb (d+1) t (cI k) (fun n=>[.int k n]):=
 ⟨fun _=>rfl,fun n=>by unfold oH;rw[ht];simp only[hi];exact⟨n,rfl⟩,fun x y=>by simp⟩
theorem EqC.bool {d:Nat}{t:TypeId}{i:TyE}(ht:tb t=some i)(hi:i.ty=.bool:=by exact rfl):EqC tb (d+1) t cB (fun n=>[.bool n]):=
 ⟨fun _=>rfl,fun n=>by unfold oH;rw[ht];simp only[hi];exact⟨n,rfl⟩,fun x y=>by simp⟩
theorem EqC.len {d:Nat}{t:TypeId}{α:Type}{c:Cd α}{us:α→List Value}(h:EqC tb d t c us)(x:α):(us x).length=c.sz:=by
 rw[←c.h x,h.hf,bW]
theorem Ft {α:Type}{f:α→List Value}{z:Nat}(hz:∀a,(f a).length=z):∀l:List α,(l.flatMap f).length=l.length*z
 |[]=>by simp
 |a::l=>by rw[oL,eI,hz,Ft hz l,n7,bZ,d8,rz]
theorem IH {α:Type}{f:α→List Value}{z:Nat}(hz:∀a,(f a).length=z):∀(l:List α) (i:Nat) (h:i<l.length),((l.flatMap f).drop (i*z)).take z=f l[i]
 |a::l,0,_=>by rw[fP,oa,oL,wJ (by rw[hz];exact aD _),gu (by rw[hz];exact aD _)];rfl
 |a::l,i+1,h=>by
  rw[oL,bZ,d8,rz,←hz a,←nj,t4,hz a]
  exact IH hz l i (by simpa using h)
theorem Fu {α:Type}{f:α→List Value}{z:Nat}(hz:∀a,(f a).length=z)(hi:∀x y,f x=f y→x=y):∀l m:List α,l.length=m.length→l.flatMap f=m.flatMap f→l=m
 |[],[],_,_=>rfl
 |a::l,b::m,hl,h=>by
  rw[oL,oL] at h
  obtain⟨h1,h2⟩:=Bn h (by rw[hz,hz])
  rw[hi a b h1,Fu hz hi l m (by simpa using hl) h2]
 |[],_::_,hl,_=>by simp at hl
 |_::_,[],hl,_=>by simp at hl
theorem EqC.arr {d n:Nat}{t e:TypeId}{α:Type}{c:Cd α}{us:α→List Value}{i j:TyE}(h:EqC tb d e c us)(ht:tb t=some i)(he:tb e=some j)(hi:i.ty=.arr n e:=by exact rfl)(hz:c.sz=j.size:=by exact rfl):EqC tb (d+1) t (cA n c) (fun v=>v.toList.flatMap us):=by
 refine⟨fun v=>?_,fun v=>?_,fun v w=>⟨fun hh=>?_,fun hh=>by rw[hh]⟩⟩
 ·show v.toList.flatMap c.f=_
  rw[List.map_flatMap]
  congr 1
  exact funext h.hf
 ·unfold oH
  rw[ht]
  simp only[hi,he]
  have hl:=h.len
  refine⟨by rw[Ft hl,sY,hz],fun q hq=>?_⟩
  rw[←hz,IH hl _ _ (by rw[sY];exact hq)]
  exact h.ft _
 ·have:=Fu h.len (fun x y hxy=>(h.inj x y).1 hxy) v.toList w.toList (by rw[sY,sY]) hh
  exact Vector.toList_inj.1 this
theorem sT {d o off:Nat}{t:TypeId}{fs:List (Nat×TypeId)}{α:Type}{c:Cd α}{us:α→List Value}{j:TyE}{x:α}{rest:List Value}(h:EqC tb d t c us)(ht:tb t=some j)(ho:o=off)(hr:uw tb (oH tb d) fs (off+j.size) rest)(hz:c.sz=j.size:=by exact rfl):uw tb (oH tb d) ((o,t)::fs) off (us x++rest):=by
 unfold uw
 have hl:=h.len x
 rw[ht]
 refine⟨ho,?_,by rw[eI];omega,?_⟩
 ·rw[←hz,←hl,rP];exact h.ft x
 ·rw[←hz,←hl,t4,hl,hz];exact hr
theorem EqC.struct {d:Nat}{t:TypeId}{α:Type}{c:Cd α}{us:α→List Value}{i:TyE}{fs:List (Nat×TypeId)}(ht:tb t=some i)(hf:∀x,c.f x=(us x).map E.lit)(Ir:∀x,uw tb (oH tb d) fs 0 (us x))(G3:∀x y,us x=us y→x=y)(hi:i.ty=.struct fs:=by exact rfl):EqC tb (d+1) t c us:=
 ⟨hf,fun x=>by unfold oH;rw[ht];simp only[hi];exact Ir x,fun x y=>⟨G3 x y,fun h=>by rw[h]⟩⟩
theorem rj:∀us:List Value,mv (dC (us.map E.lit))=some us
 |[]=>rfl
 |u::us=>by
  show (mv (dC (us.map E.lit))).map (u::·)=_
  rw[rj us];rfl
variable {dr:Bool} {ty:TypeId} {ev:Operand→D} {x y:Operand} {hp:Hp} {α:Type} {c:Cd α} {us:α→List Value} {a b:α} {t t':TypeId} {i:TyE}
theorem yT(tok:TOk P tb)(n:Nat)(hd:n≤10000)(h:EqC tb n t c us)(ht:tb t=some i)[DecidableEq α](hg:i.ty.agg=true:=by exact rfl)(hm:P.eqGuardType P.depth t=false:=by kernel_rfl)(hn:mC P n t=true:=by kernel_rfl)(hx:ev x=dG c a:=by exact rfl)(hy:ev y=dG c b:=by exact rfl):AVC P tb dr (.binOp .eql t x y t') ty ev hp (Kq (dB (decide (a=b))) hp):=by
 have e:∀z,(c.f z).map D.e=dC ((us z).map E.lit):=fun z=>by rw[h.hf];rfl
 exact T_geql tok n hd ht hg hm hn hx hy (by rw[e,rj]) (by rw[e,rj]) (h.ft a) (h.ft b) (h.inj a b)
theorem wY(tok:TOk P tb)(n:Nat)(hd:n≤10000)(h:EqC tb n t c us)(ht:tb t=some i)[DecidableEq α](hg:i.ty.agg=true:=by exact rfl)(hm:P.eqGuardType P.depth t=false:=by kernel_rfl)(hn:mC P n t=true:=by kernel_rfl)(hx:ev x=dG c a:=by exact rfl)(hy:ev y=dG c b:=by exact rfl):AVC P tb dr (.binOp .neq t x y t') ty ev hp (Kq (dB (decide (¬a=b))) hp):=by
 have e:∀z,(c.f z).map D.e=dC ((us z).map E.lit):=fun z=>by rw[h.hf];rfl
 exact T_gneq tok n hd ht hg hm hn hx hy (by rw[e,rj]) (by rw[e,rj]) (h.ft a) (h.ft b) (h.inj a b)
theorem Bf(c:Cd α){z:Nat}(hz:c.sz=z):∀(l:List α) (m:Nat) (pre rest:List D),pre.length=m*z→rest.length=l.length*z→gU (fun n=>some (n*z,z)) (pre++rest) ((l.zipIdx m).map fun p=>(p.2,dC (c.f p.1)))=some (pre++dC (l.flatMap c.f))
 |[],m,pre,rest,_,hr=>by
  have:rest=[]:=kY (by simpa using hr)
  subst this;rfl
 |a::l,m,pre,rest,hp,hr=>by
  have hl:(dC (c.f a)).length=z:=by rw[fL,c.h,hz]
  rw[n7,bZ,d8] at hr
  show gU (fun n=>some (n*z,z)) (pre++rest) ((m,dC (c.f a))::(l.zipIdx (m+1)).map _)=_
  unfold gU
  dsimp only
  rw[aA (by rw[hl,eI];omega),←hp,rP,hl,←nj,t4]
  have:=Bf c hz l (m+1) (pre++dC (c.f a)) (rest.drop z) (by rw[eI,hl,hp,bZ,d8]) (by rw[ie];omega)
  rw[this,fy]
  unfold dC
  rw[oL,jR]
theorem Bi:∀es:List E,vf (dC es)=some es
 |[]=>rfl
 |e::es=>by
  show (match D.cellE (.e e),vf (dC es) with|some x,some xs=>some (x::xs)|_,_=>none)=_
  rw[Bi es];rfl
theorem s8 {vs:List (Nat×List D)}{lv:List (Nat×Nat×Nat×TypeId)}{N0:Nat}{e:TypeId}{j:TyE}{n:Nat}{ps:List (Nat×Operand)}(l:List α)(c:Cd α)(ht:tb t=some i)(he:tb e=some j)(hi:i.ty=.slice e:=by exact rfl)(hz:c.sz=j.size:=by exact rfl)(K0:Nat.ble (0+1) (j.size)=true:=by exact rfl)(Lg:l.length=n+1:=by exact rfl)(hn:Nat.ble ((n+1)*j.size) (16777216)=true:=by exact rfl)(hp1:lM (ps.map fun p=>(p.1,ev p.2))=some ((l.zipIdx 0).map fun p=>(p.2,dC (c.f p.1))):=by exact rfl)(hd:dr=false:=by exact rfl):
  AVC P tb dr (.buildSlice t (n+1) ps.toArray) ty ev ⟨vs,lv,N0⟩ (Kq (dO N0 c l) ⟨vs,(N0,l.length,j.size,e)::lv,N0+1⟩):=by
 have hf:=Bf c hz l 0 [] (List.replicate ((n+1)*j.size) (D.e .any)) (by simp) (by rw[Bm,Lg])
 rw[qw,qw] at hf
 have:=jc (P:=P) (dr:=dr) (ty:=ty) (ev:=ev) (vs:=vs) (lv:=lv) (N0:=N0) ht he hi K0 hn hp1 hf (Bi _) hd
 show AVC _ _ _ _ _ _ _ (Kq (.own N0 c.sz l.length (l.flatMap c.f)) _)
 rw[hz,Lg]
 exact this
theorem ws {tm:List (Nat×D)}{p:Tmp}{ty:TypeId}{j:Nat}{i:TyE}{F:List E}{k:D→Prop}(h:tm.lookup p=some (.pt j 0))(ht:tb ty=some i)(hg:i.ty.agg=true)(hv:hp.vars.lookup j=some (dC F))(hn:j<hp.next)(hl:F.length=i.size)(hk:k (.ag (dC F))):rG tb tm hp (.cell p ty) k:=
 bN h ht hg hv hn (by rw[fL,hl];omega) (by rw[oa,gu (by rw[fL,hl];exact aD _)]) hk
end
end
section
structure FW(α:Type) where
 f:α→List E
def cW {α:Type}(c:Cd α):FW (List α):=⟨fun l=>l.flatMap c.f⟩
theorem aX.seqW {α:Type}[Inhabited α](c:Cd α)(l:List α)(i:Nat)(h:i<l.length):aX ((cW c).f l) c (0+i*c.sz) l[i]! (fun y=>(cW c).f (l.set i y)):=by
 rw[bB];exact aX.seq c l i h
def vOf {α:Type}[Inhabited α](n:Nat)(l:List α):Vector α n:=Vector.ofFn fun i=>l[i.val]!
theorem yu {α:Type}[Inhabited α]{n:Nat}{l:List α}(h:l.length=n):(vOf n l).toList=l:=by
 unfold vOf
 apply HE
 ·rw[sY,h]
 ·intro i h1 h2
  rw[Vector.getElem_toList,Ma,f7 l i h2]
theorem vOf_f {α:Type}[Inhabited α](c:Cd α){n:Nat}{l:List α}(h:l.length=n):(cA n c).f (vOf n l)=l.flatMap c.f:=by
 show (vOf n l).toList.flatMap c.f=_
 rw[yu h]
theorem aX.sub {α:Type}[Inhabited α]{n:Nat}(m:Nat)(c:Cd α)(v:Vector α n)(i:Nat)(h:i+m≤n){o:Nat}(ho:i*c.sz=o):aX ((cA n c).f v) (cA m c) o (vOf m ((v.toList.drop i).take m)) (fun y=>((cA n c).f v).take o++(cA m c).f y++((cA n c).f v).drop (o+m*c.sz)):=by
 subst ho
 have hl:((v.toList.drop i).take m).length=m:=by rw[e6,ie,sY];omega
 refine⟨?_,?_,fun y=>rfl⟩
 ·rw[(cA n c).h]
  show i*c.sz+m*c.sz≤n*c.sz
  rw[←bZ];exact bJ _ h
 ·rw[vOf_f c hl]
  show ((v.toList.flatMap c.f).drop (i*c.sz)).take (m*c.sz)=_
  rw[pd c.f c.h,mq c.f c.h]
section
variable {P:Program} {tb:TypeId→Option TyE} {md:Md} {ev:Operand→D} {hp:Hp} {dst:Option Tmp} {ty2:TypeId} {pos:String} {af:Array Edge} {gd:Option (Nat×Bool)} {x y:Operand} {lo hi:Option Operand} {t t2 e:TypeId} {ti j:TyE} {k k' off o o' z n m:Nat} {l h:Int}
def OJ(ev:Operand→D)(b:Option Operand)(Fk l:Int):Prop:=
 match b with
 |none=>l=Fk
 |some y=>∃k,ev y=dI k l
theorem OJ.val {b:Option Operand}{Fk l:Int}(h:OJ ev b Fk l){L:Nat}(hL:l=L){N:Nat}(hN:Fk=N){g:Gh}{w:World}{ρ:Operand→Value}(hr:∀y,b=some y→aI hp g w (ev y) (ρ y)):(b.map ρ=none∧L=N)∨∃kd,b.map ρ=some (.int kd (L:Int)):=by
 cases b with
 |none=>exact .inl ⟨rfl,by have:l=Fk:=h;omega⟩
 |some y=>
  obtain⟨kd,hy⟩:=h
  have:=hr y rfl
  rw[hy] at this
  exact .inr ⟨kd,by rw[←hL,lc,this.lit]⟩
theorem slA(tok:TOk P tb)(hb:0≤l∧l≤h∧h≤(n:Int)∧l<(n:Int))(ht:tb t=some ti)(he:tb e=some j)(Dt:OJ ev lo 0 l)(Kw:OJ ev hi (n:Int) h)(xZ:ti.ty=.arr n e:=by exact rfl)(hx:ev x=.pt k off:=by exact rfl)(hn:Nat.ble n 1000000=true:=by exact rfl):
  nT P tb md ⟨dst,.slice t x lo hi none,ty2,pos,af,gd⟩ ev hp (.ow k (off+l.toNat*j.size) j.size (h - l).toNat) hp:=by
 refine (Snd.calm (dr:=md.dr) fun bQ _=>.pure fun B g w a hr xf=>?_).q (by cases md <;> rfl)
 have h1:=xf x (by simp[Op.operands])
 rw[hx] at h1
 obtain⟨L,rfl⟩:∃L:Nat,l=L:=⟨l.toNat,by omega⟩
 obtain⟨H,rfl⟩:∃H:Nat,h=H:=⟨h.toNat,by omega⟩
 have e1:((H:Int) - L).toNat=H - L:=by omega
 have hn':n≤1000000:=b7 hn
 have hbd:=lK (P:=P) (w:=w) false n n (lo.map a.eval) (hi.map a.eval) L H (Dt.val rfl rfl fun y hy=>xf y (by subst hy;simp[Op.operands])) (Kw.val rfl rfl fun y hy=>xf y (by subst hy;simp[Op.operands])) (by omega) (by omega)
 have hs:=tok.run_sizeOf he w
 generalize hv:a.eval x=v at h1
 cases h1 with
 |pt _ _ hk=>
  refine⟨.slice (some ⟨g.μ k,off+L*j.size,none⟩) (H - L) (n - L),?_,?_⟩
  ·have qu:¬n=L:=by omega
   have OA:(⟨g.μ k,off,none⟩:Addr).add (L*j.size)=⟨g.μ k,off+L*j.size,none⟩:=by unfold Addr.add;split <;> simp_all
   simp[execOp,Instr.sliceAt,Instr.sureAddr,hv,run_underlying (tok.arr ht xZ),hbd,hs,qu,OA]
  ·rw[e1,aJ]
   exact .ow _ _ _ _ _ hk (by omega) (by unfold maxLen;omega)
theorem slW(tok:TOk P tb)(hb:0≤l∧l≤h∧h≤(n:Int)∧l<(n:Int))(ht:tb t=some ti)(he:tb e=some j)(Dt:OJ ev lo 0 l)(Kw:OJ ev hi (n:Int) h)(xZ:ti.ty=.slice e:=by exact rfl)(hx:ev x=.ow k off z n:=by exact rfl)(hz:z=j.size:=by exact rfl):
  nT P tb md ⟨dst,.slice t x lo hi none,ty2,pos,af,gd⟩ ev hp (.ow k (off+l.toNat*z) z (h - l).toNat) hp:=by
 subst hz
 refine (Snd.calm (dr:=md.dr) fun bQ _=>.pure fun B g w a hr xf=>?_).q (by cases md <;> rfl)
 have h1:=xf x (by simp[Op.operands])
 rw[hx] at h1
 obtain⟨L,rfl⟩:∃L:Nat,l=L:=⟨l.toNat,by omega⟩
 obtain⟨H,rfl⟩:∃H:Nat,h=H:=⟨h.toNat,by omega⟩
 have e1:((H:Int) - L).toNat=H - L:=by omega
 have hs:=tok.run_sizeOf he w
 generalize hv:a.eval x=v at h1
 cases h1 with
 |ow _ _ _ _ c hk pl oF=>
  have hbd:=lK (P:=P) (w:=w) true n c (lo.map a.eval) (hi.map a.eval) L H (Dt.val rfl rfl fun y hy=>xf y (by subst hy;simp[Op.operands])) (Kw.val rfl rfl fun y hy=>xf y (by subst hy;simp[Op.operands])) (by omega) (by omega)
  refine⟨.slice (some ⟨g.μ k,off+L*j.size,none⟩) (H - L) (c - L),?_,?_⟩
  ·have qu:¬c=L:=by omega
   have OA:(⟨g.μ k,off,none⟩:Addr).add (L*j.size)=⟨g.μ k,off+L*j.size,none⟩:=by unfold Addr.add;split <;> simp_all
   simp[execOp,Instr.sliceAt,Instr.slice,hv,run_underlying (tok.slice ht xZ),hbd,hs,qu,OA]
  ·rw[e1,aJ]
   exact .ow _ _ _ _ _ hk (by omega) (by omega)
theorem sPtr(tok:TOk P tb)(hm:Nat.ble m n=true)(ht:tb t=some ti)(xZ:ti.ty=.arr m e:=by exact rfl)(hx:ev x=.ow k off z n:=by exact rfl):
  nT P tb md ⟨dst,.sliceToArrayPointer t x,ty2,pos,af,gd⟩ ev hp (.pt k off) hp:=by
 refine (Snd.calm (dr:=md.dr) fun bQ _=>.pure fun B g w a hr xf=>?_).q (by cases md <;> rfl)
 have h1:=xf x (by simp[Op.operands])
 rw[hx] at h1
 have ww:=b7 hm
 generalize hv:a.eval x=v at h1
 cases h1 with
 |ow _ _ _ _ c hk pl oF=>
  refine⟨.pointer (some ⟨g.μ k,off,none⟩),?_,.pt _ _ hk⟩
  have qu:¬n<m:=by omega
  simp[execOp,Instr.arrayAt,hv,run_underlying (tok.arr ht xZ),qu]
theorem Bx {dr:Bool}{ty:TypeId}(ht:tb t=some ti)(he:tb e=some j)(hi:ti.ty=.slice e:=by exact rfl)(hx:ev x=.ow k off z n:=by exact rfl):AVC P tb dr (.call ⟨.builtin .len,#[x],#[t]⟩) ty ev hp (Kq (dI .i64 n) hp):=by
 show kW tb .len [t] [ev x] hp _
 rw[BW,MM,ht]
 simp only[hi,he,hx,D.asSl]
 exact Kq.here _ _
theorem wX {dr:Bool}{ty:TypeId}{vs:List (Nat×List D)}{lv:List (Nat×Nat×Nat×TypeId)}{N:Nat}{F:List E}{β γ:Type}{c':Cd β}{b b':β}{F':β→List E}{c:Cd γ}{nw nm:List γ}(L:aX F c' o b F')(ht:tb t=some ti)(Oj:nw=nm)(hF:F' b'=(cW c).f nw:=by exact rfl)(hy:(ev y).cells=some (dC (c'.f b')):=by exact rfl)(hz:c'.sz=ti.size:=by exact rfl)(hx:ev x=.pt k o:=by exact rfl)(hv:vs.lookup k=some (dC F):=by exact rfl):AVC P tb dr (.store t x y) ty ev ⟨vs,lv,N⟩ (Kq .top ⟨(k,dC ((cW c).f nm))::vs,lv,N⟩):=by
 have:=ig (P:=P) (dr:=dr) (ty:=ty) (lv:=lv) (N:=N) L ht hy hz hx hv
 rw[hF,Oj] at this
 exact this
theorem FF(z:Array Value)(s:Nat)(hs:z.size=s):∀n:Nat,(madeCells z (n*s)).toList=(List.replicate n z.toList).flatten
 |0=>by simp[madeCells]
 |n+1=>by
  have ih:=FF z s hs n
  unfold madeCells at ih ⊢
  rw[Array.toList_map,Array.toList_range] at ih ⊢
  rw[bZ,d8,List.range_add,jR,ih,List.replicate_succ',List.flatten_append]
  congr 1
  rw[rX,List.flatten_cons,List.flatten_nil,vQ]
  apply HE
  ·simp[hs]
  ·intro i h1 h2
   have hi:i<s:=by simpa using h1
   simp only[HF,List.getElem_range,Function.comp]
   rw[hs,cC,Nat.mul_add_mod,gW hi,f7 z i (by omega),Array.getElem_toList]
theorem sMk {α:Type}{c:Cd α}{z0:α}{kl kc:IntKind}{v:Int}{hp':Hp}(tok:TOk P tb)(hb:0≤v∧v≤1000000)(ht:tb t=some ti)(he:tb e=some j)(hz:j.zero.map E.lit=c.f z0)(xZ:ti.ty=.slice e:=by exact rfl)(hx:ev x=dI kl v:=by exact rfl)(hy:ev y=dI kc v:=by exact rfl)(hbt:Nat.ble j.bytes 100000000=true:=by exact rfl)(hp1:hp.var (dC ((cW c).f (List.replicate v.toNat z0)))=hp':=by exact rfl):
  nT P tb md ⟨dst,.makeSlice t x y,ty2,pos,af,gd⟩ ev hp (.ow hp.next 0 j.size v.toNat) hp':=by
 subst hp1
 refine (Snd.loud (dr:=md.dr) (.step fun B g w a hr xf=>?_) (fun _=>rfl) fun _=>⟨gN _,fun j hj=>ay (by omega)⟩).q (by cases md <;> rfl)
 have h1:=xf x (by simp[Op.operands])
 have h2:=xf y (by simp[Op.operands])
 rw[hx] at h1;rw[hy] at h2
 obtain⟨f,zz,Li,Jv,Q8,hf3,hf4,_⟩:=tok.inf he
 have hbt':f.bytes≤100000000:=by rw[Q8];exact b7 hbt
 obtain⟨m,rfl⟩:∃m:Nat,v=m:=⟨v.toNat,by omega⟩
 have hm:m≤1000000:=by omega
 have MT:f.bytes*m≤281474976710656:=cw (ja hbt' hm) (by decide)
 have bR:=run_make (P:=P) w t e f zz (tok.slice ht xZ) Li hf3 kl kc m m (by omega) (by omega) (by rw[←ry];exact Int.ofNat_le.2 MT) (by omega)
 rw[aJ] at bR
 have hsz:zz.cells.size=f.size:=by
  have h4:=(tok e j he).2.2.1
  rw[←eK,hf4,h4,Jv]
 have hlist:=FF zz.cells f.size hsz m
 have hcont:(cW c).f (List.replicate m z0)=(madeCells zz.cells (m*f.size)).toList.map E.lit:=by
  rw[hlist,hf4,List.map_flatten,al_4,hz]
  show (List.replicate m z0).flatMap c.f=_
  rw[List.flatMap_def,al_4]
 have h1c:∀u∈(madeCells zz.cells (m*f.size)).toList,u.oneCell'=true:=by
  intro u hu
  rw[hlist,hf4] at hu
  obtain⟨l,hl,MQ⟩:=List.mem_flatten.1 hu
  obtain rfl:=(List.mem_replicate.1 hl).2
  exact cb.1 (tok e j he).2.2.2 u MQ
 refine⟨.slice (some ⟨w.heap.size,0,none⟩) m m,_,w.alloc (.cells (madeCells zz.cells (m*f.size)) e),?_,hr.newVar _ _ e ?_ (fun i u hu=>?_),bC.var hp g w _ _,?_,(Below.refl _ _).alloc hr.base _,fun p _ h=>.inl h⟩
 ·have e1:=h1.lit
  have e2:=h2.lit
  simp only[execOp,e1,e2,Sem.run_bind,bR,Result.andThen_ok]
  rfl
 ·rw[aJ,hcont,fL,bW,eK];exact aD _
 ·have vJ:(madeCells zz.cells (m*f.size)).toList[i]? =some u:=by simpa using hu
  refine⟨fun _=>h1c u (bT vJ),fun d hd=>?_⟩
  rw[aJ,hcont] at hd
  unfold dC at hd
  rw[fO,fO,vJ] at hd
  injection hd with hd
  subst hd
  exact .e _ _ (.lit u (h1c u (bT vJ)))
 ·rw[aJ]
  have:=aI.ow (hp:=hp.var (dC ((cW c).f (List.replicate ((m:Int).toNat) z0)))) (g:=g.var hp.next w.heap.size) (w:=w.alloc (.cells (madeCells zz.cells (m*f.size)) e)) hp.next 0 j.size m m (cp _) (aD _) (by unfold maxLen;omega)
  rwa[show (g.var hp.next w.heap.size).μ hp.next=w.heap.size from ar rfl] at this
theorem NT(w:World)(t t2 ty e:TypeId)(i:TypeInfo)(hu:P.underlying t=some (.slice e))(hi:P.info? e=some i)(b o n c:Nat)(A:Option Addr)(m c':Nat)(cur:Array Value)(tt:TypeId)(cs:List Value)(hA:0<m→∃ad,A=some ad)(hl:cs.length=min m n*i.size)
  (Qt:∀ad,A=some ad→∀j v,cs[j]? =some v→w.cell? (ad.add j)=some v) (hg:w.heap[b]? =some (.cells cur tt (0,0))) (Fc:o+cs.length≤cur.size) (h1:∀v∈cs,v.oneCell'=true):
  (Builtin.copy_ #[t,t2] ty #[.slice (some ⟨b,o,none⟩) n c,.slice A m c']).run P w=   .ok (goInt ((min m n:Nat):Int)) (w.setRow b (cur.toList.take o++cs++cur.toList.drop (o+cs.length)).toArray):=by
 have Dp:=run_storeCells_at P b o tt cs 0 cur w hg (by simpa using Fc) h1
 have e0:Nat.min m n=min m n:=rfl
 cases A with
 |none=>
  have hm:m=0:=by
   rcases mJ m with h|h
   ·exact h
   ·obtain⟨_,h⟩:=hA h;cases h
  subst hm
  have:cs=[]:=kY (by rw[hl];simp)
  subst this
  simp at Dp
  simp[Builtin.copy_,run_underlying hu,Builtin.lenOf,Builtin.firstCells,sizeOf,typeInfo,hi,Dp]
 |some a=>
  have Cj:=run_loadCells_list (P:=P) w a cs (Qt a rfl)
  rw[hl] at Cj
  simp[Builtin.copy_,run_underlying hu,Builtin.lenOf,Builtin.firstCells,sizeOf,typeInfo,hi,e0,Cj,Dp]
def w4(hp:Hp)(d:D)(z m:Nat)(xs:List E):Prop:=xs.length=m*z∧∀(B:Nat) (g:Gh) (w:World) (v:Value),HR B hp g w→aI hp g w d v→
 ∃A c us,v=.slice A m c∧(0<m→∃ad,A=some ad)∧(∀ad,A=some ad→∀j u,us[j]? =some u→w.cell? (ad.add j)=some u)∧Pw (dq w g.F) xs us
theorem w4.own {vs:List (Nat×List D)}{lv:List (Nat×Nat×Nat×TypeId)}{N:Nat}{F:List E}{xs:List E}(hv:vs.lookup k=some (dC F))(hle:off+m*z≤F.length)(hF:(F.drop off).take (m*z)=xs):w4 ⟨vs,lv,N⟩ (.ow k off z m) z m xs:=by
 subst hF
 refine⟨by rw[e6,ie];omega,fun B g w v hr hd=>?_⟩
 cases hd with
 |ow _ _ _ _ c hk pl oF=>
  obtain⟨h1,h2,h3,cs,ty,h4,h5,h6⟩:=hr.var k _ hv
  rw[fL] at h5
  refine⟨_,c,(cs.toList.drop off).take (m*z),rfl,fun _=>⟨_,rfl⟩,fun ad ha j u hu=>?_,?_,fun j x u hx hu=>?_⟩
  ·injection ha with ha
   subst ha
   rw[ez] at hu
   split at hu
   ·rw[lX,yK] at hu
    have OA:(⟨g.μ k,off,none⟩:Addr).add j=⟨g.μ k,off+j,none⟩:=by unfold Addr.add;split <;> simp_all
    rw[OA]
    simpa[World.cell?,h4] using hu
   ·cases hu
  ·simp only[e6,ie,eK];omega
  ·rw[ez] at hx hu
   split at hx
   ·rename_i hj
    rw[ar hj,lX,yK] at hu
    rw[lX] at hx
    have:=(h6 (off+j) u hu).2 (.e x) (by unfold dC;rw[fO,hx];rfl)
    cases this
    assumption
   ·cases hx
theorem w4.dat {hp:Hp}{d:D}{z m:Nat}{xs:List E}(h:d.asSl z=some (m,xs))(hl:xs.length=m*z):w4 hp d z m xs:=by
 refine⟨hl,fun B g w v hr hd=>?_⟩
 obtain⟨A,c,rfl,dy⟩:=rx hd h
 obtain⟨_,_,_,_,hA,us,MQ,hc,hp⟩:=dy.reads
 exact⟨A,c,us,rfl,fun hm=>(hA hm).imp fun ad h=>h.1,fun ad ha j u hu=>(hc ad ha j u hu).1,hp⟩
theorem dq.oneL {w:World}{F:Addr→Prop}{xs:List E}{us:List Value}(h:Pw (dq w F) xs us):∀u∈us,u.oneCell'=true:=by
 intro u hu
 obtain⟨i,hi⟩:=List.mem_iff_getElem?.1 hu
 have:i<xs.length:=by rw[h.1];exact (j4.1 hi).1
 exact (h.2 i xs[i] u (i8 this) hi).one
theorem sCp {vs:List (Nat×List D)}{lv:List (Nat×Nat×Nat×TypeId)}{N:Nat}{F xs:List E}(tok:TOk P tb)(ht:tb t=some ti)(he:tb e=some j)(hs:w4 ⟨vs,lv,N⟩ (ev y) z m xs)(hv:vs.lookup k=some (dC F))(Fc:off+n*z≤F.length)(xZ:ti.ty=.slice e:=by exact rfl)(hx:ev x=.ow k off z n:=by exact rfl)(hz:z=j.size:=by exact rfl):
  nT P tb md ⟨dst,.call ⟨.builtin .copy,#[x,y],#[t,t2]⟩,ty2,pos,af,gd⟩ ev ⟨vs,lv,N⟩ (dI .i64 (min m n:Nat)) ⟨(k,dC (F.take off++xs.take (min m n*z)++F.drop (off+min m n*z)))::vs,lv,N⟩:=by
 subst hz
 refine (Snd.loud (dr:=md.dr) (.step fun B g w a hr xf=>?_) (fun _=>rfl) fun h=>by simp[II,cpB] at h).q (by cases md <;> rfl)
 have h1:=xf x (cr (by simp))
 have h2:=xf y (cr (by simp))
 rw[hx] at h1
 obtain⟨An,hs⟩:=hs
 obtain⟨A,c',us,hy,hA,Qt,xD⟩:=hs B g w _ hr h2
 obtain⟨q1,q2,q3,cs,ty,q4,q5,q6⟩:=hr.var k _ hv
 rw[fL] at q5
 obtain⟨f,zz,Li,Jv,_⟩:=tok.inf he
 have QS:min m n*j.size≤n*j.size:=bJ _ (Nat.min_le_right _ _)
 have hmin2:min m n*j.size≤m*j.size:=bJ _ (Nat.min_le_left _ _)
 have MQ:us.length=m*j.size:=by rw[←xD.1,An]
 have htl:(us.take (min m n*j.size)).length=min m n*j.size:=by rw[e6];omega
 have hxt:(xs.take (min m n*j.size)).length=min m n*j.size:=by rw[e6];omega
 generalize Qr:a.eval x=v1 at h1
 cases h1 with
 |ow _ _ _ _ c hk pl oF=>
  have hone:∀u∈us.take (min m n*j.size),u.oneCell'=true:=fun u hu=>dq.oneL xD u (LI hu)
  have bR:=NT (P:=P) w t t2 ty2 e f (tok.slice ht xZ) Li (g.μ k) off n c A m c' cs ty (us.take (min m n*j.size)) hA (by rw[htl,Jv]) (fun ad ha i v hi=>Qt ad ha i v (by
   rw[ez] at hi
   split at hi
   ·exact hi
   ·cases hi)) q4 (by omega) hone
  have Q2:=setRow_heap w (g.μ k) cs (cs.toList.take off++us.take (min m n*j.size)++cs.toList.drop (off+(us.take (min m n*j.size)).length)).toArray ty (0,0) q4
  have Q9:fk ⟨vs,lv,N⟩ g w (dC F) (cs.toList.take F.length):=⟨⟨by simp only[fL,e6,eK];omega,fun i d u hd hu=>(q6 i u (by
   rw[ez] at hu
   split at hu
   ·simpa using hu
   ·cases hu)).2 d hd⟩,fun u hu=>by
   obtain⟨i,hi⟩:=List.mem_iff_getElem?.1 hu
   rw[ez] at hi
   split at hi
   ·rename_i bG
    exact (q6 i u (by simpa using hi)).1 (by rw[fL];exact bG)
   ·cases hi⟩
  have hmid:fk ⟨vs,lv,N⟩ g w (dC (xs.take (min m n*j.size))) (us.take (min m n*j.size)):=by
   refine⟨⟨by rw[fL,hxt,htl],fun i d u hd hu=>?_⟩,hone⟩
   unfold dC at hd
   rw[fO] at hd
   cases hx':(xs.take (min m n*j.size))[i]? with
   |none=>rw[hx'] at hd;cases hd
   |some x'=>
    rw[hx'] at hd
    injection hd with hd
    subst hd
    exact .e _ _ ((xD.take _).2 i x' u hx' hu)
  have tW:fk ⟨vs,lv,N⟩ g w (dC (F.take off++xs.take (min m n*j.size)++F.drop (off+min m n*j.size))) ((cs.toList.take off++us.take (min m n*j.size)++cs.toList.drop (off+(us.take (min m n*j.size)).length)).take F.length):=by
   have:=((Q9.take off).append hmid).append (Q9.drop (off+min m n*j.size))
   rw[htl]
   have e1:(cs.toList.take off++us.take (min m n*j.size)++cs.toList.drop (off+min m n*j.size)).take F.length=((cs.toList.take F.length).take off++us.take (min m n*j.size))++(cs.toList.take F.length).drop (off+min m n*j.size):=by
    have hlA:(cs.toList.take off++us.take (min m n*j.size)).length=off+min m n*j.size:=by rw[eI,htl,e6,eK];omega
    rw[LR,hlA,gu (by rw[hlA];omega),DZ,Bo,sZ (show off≤F.length by omega)]
   rw[e1]
   unfold dC at this ⊢
   simpa only[jR,wH,yj] using this
  have Lg:(F.take off++xs.take (min m n*j.size)++F.drop (off+min m n*j.size)).length=F.length:=by
   simp only[eI,e6,ie];omega
  have Jt:=SzB.row (new:=(cs.toList.take off++us.take (min m n*j.size)++cs.toList.drop (off+(us.take (min m n*j.size)).length)).toArray) q4 (by simp only[my,eI,e6,ie,eK];omega)
  refine⟨goInt ((min m n:Nat):Int),g,_,?_,hr.setVar hv _ _ ty (by simp[World.setRow]) (fun b hb=>setRow_other w _ b _ hb) Q2 (by rw[fL,Lg];simp only[my,eI,e6,ie,eK];omega) Jt (fun i u hu=>?_),bC.setVar hr hv _ (by simp[World.setRow]) (fun b hb=>setRow_other w _ b _ hb) Jt,.e _ _ (.lit _ rfl),yh w q2 _,fun _ _ h=>h⟩
  ·simp only[execOp,HT,D7,fx,i2,resolve,invoke,builtin,Qr,hy,Sem.run_bind]
   simp[resolve,invoke,builtin,Qr,hy,bR]
  ·have vJ:(cs.toList.take off++us.take (min m n*j.size)++cs.toList.drop (off+(us.take (min m n*j.size)).length))[i]? =some u:=by simpa using hu
   have hw:i<F.length→((cs.toList.take off++us.take (min m n*j.size)++cs.toList.drop (off+(us.take (min m n*j.size)).length)).take F.length)[i]? =some u:=fun hi=>by
    rw[ez,ar hi];exact vJ
   exact⟨fun hi=>tW.2 u (bT (hw (by rw[fL,Lg] at hi;exact hi))),fun d hd=>tW.1.2 i d u hd (hw (by rw[←Lg,←fL];exact (j4.1 hd).1))⟩
def lCp {α:Type}(l:List α)(o:Nat)(s:List α):List α:=l.take o++s++l.drop (o+s.length)
theorem lCp_len {α:Type}{l s:List α}{o:Nat}(h:o+s.length≤l.length):(lCp l o s).length=l.length:=by
 unfold lCp;simp only[eI,e6,ie];omega
theorem Jk {α:Type}(c:Cd α)(l s:List α)(o:Nat):(lCp l o s).flatMap c.f=(l.flatMap c.f).take (o*c.sz)++s.flatMap c.f++(l.flatMap c.f).drop (o*c.sz+s.length*c.sz):=by
 unfold lCp
 rw[D8,D8,mq c.f c.h,←bZ,pd c.f c.h]
section
variable {α:Type} [Inhabited α] {c:Cd α} {vs:List (Nat×List D)} {lv:List (Nat×Nat×Nat×TypeId)} {N N0:Nat}
theorem w4.arr {v:Vector α N0}(hv:vs.lookup k=some (dC ((cA N0 c).f v)))(o:Nat)(hm:o+m≤N0)(ho:off=o*c.sz:=by exact rfl)(hz:z=c.sz:=by exact rfl):w4 ⟨vs,lv,N⟩ (.ow k off z m) z m (((v.toList.drop o).take m).flatMap c.f):=by
 subst ho hz
 refine w4.own hv ?_ ?_
 ·rw[(cA N0 c).h]
  show o*c.sz+m*c.sz≤N0*c.sz
  rw[←bZ];exact bJ _ hm
 ·show ((v.toList.flatMap c.f).drop (o*c.sz)).take (m*c.sz)=_
  rw[pd c.f c.h,mq c.f c.h]
theorem w4.lst {l:List α}(hv:vs.lookup k=some (dC ((cW c).f l)))(o:Nat)(hm:o+m≤l.length)(ho:off=o*c.sz:=by exact rfl)(hz:z=c.sz:=by exact rfl):w4 ⟨vs,lv,N⟩ (.ow k off z m) z m (((l.drop o).take m).flatMap c.f):=by
 subst ho hz
 refine w4.own hv ?_ ?_
 ·show _≤(l.flatMap c.f).length
  rw[fZ c.f c.h,←bZ];exact bJ _ hm
 ·show ((l.flatMap c.f).drop (o*c.sz)).take (m*c.sz)=_
  rw[pd c.f c.h,mq c.f c.h]
theorem sCpA {v:Vector α N0}{s:List α}{r:List (Nat×List D)}(tok:TOk P tb)(ht:tb t=some ti)(he:tb e=some j)(hs:w4 ⟨vs,lv,N⟩ (ev y) z m (s.flatMap c.f))(Js:s.length=m)(hv:vs.lookup k=some (dC ((cA N0 c).f v)))(o:Nat)(Fc:o+n≤N0)(hr:(k,dC ((cA N0 c).f (vOf N0 (lCp v.toList o (s.take n)))))::vs=r)(ho:off=o*c.sz:=by exact rfl)(FK:z=c.sz:=by exact rfl)(xZ:ti.ty=.slice e:=by exact rfl)(hx:ev x=.ow k off z n:=by exact rfl)(hz:z=j.size:=by exact rfl):
  nT P tb md ⟨dst,.call ⟨.builtin .copy,#[x,y],#[t,t2]⟩,ty2,pos,af,gd⟩ ev ⟨vs,lv,N⟩ (dI .i64 (min m n:Nat)) ⟨r,lv,N⟩:=by
 subst ho FK hr
 have:=sCp (P:=P) (md:=md) (dst:=dst) (ty2:=ty2) (pos:=pos) (af:=af) (gd:=gd) (t2:=t2) (lv:=lv) tok ht he hs hv (by
  rw[(cA N0 c).h]
  show _≤N0*c.sz
  rw[←bZ];exact bJ _ Fc) xZ hx hz
 have e1:(s.take n).length=min m n:=by rw[e6,Js,Nat.min_comm]
 have e2:(cA N0 c).f (vOf N0 (lCp v.toList o (s.take n)))=((cA N0 c).f v).take (o*c.sz)++(s.flatMap c.f).take (min m n*c.sz)++((cA N0 c).f v).drop (o*c.sz+min m n*c.sz):=by
  rw[vOf_f c (by rw[lCp_len (by rw[e1,sY];have:=Nat.min_le_right m n;omega),sY]),Jk,e1]
  have e3:(s.flatMap c.f).take (min m n*c.sz)=(s.take n).flatMap c.f:=by
   rw[mq c.f c.h]
   congr 1
   rcases Nat.le_total m n with h|h
   ·rw[sZ h,gu (by omega),gu (by omega)]
   ·rw[Nat.min_eq_right h]
  rw[e3];rfl
 rw[e2];exact this
theorem sCpW {l s:List α}{r:List (Nat×List D)}(tok:TOk P tb)(ht:tb t=some ti)(he:tb e=some j)(hs:w4 ⟨vs,lv,N⟩ (ev y) z m (s.flatMap c.f))(Js:s.length=m)(hv:vs.lookup k=some (dC ((cW c).f l)))(o:Nat)(Fc:o+n≤l.length)(hr:(k,dC ((cW c).f (lCp l o (s.take n))))::vs=r)(ho:off=o*c.sz:=by exact rfl)(FK:z=c.sz:=by exact rfl)(xZ:ti.ty=.slice e:=by exact rfl)(hx:ev x=.ow k off z n:=by exact rfl)(hz:z=j.size:=by exact rfl):
  nT P tb md ⟨dst,.call ⟨.builtin .copy,#[x,y],#[t,t2]⟩,ty2,pos,af,gd⟩ ev ⟨vs,lv,N⟩ (dI .i64 (min m n:Nat)) ⟨r,lv,N⟩:=by
 subst ho FK hr
 have:=sCp (P:=P) (md:=md) (dst:=dst) (ty2:=ty2) (pos:=pos) (af:=af) (gd:=gd) (t2:=t2) (lv:=lv) tok ht he hs hv (by
  show _≤(l.flatMap c.f).length
  rw[fZ c.f c.h,←bZ];exact bJ _ Fc) xZ hx hz
 have e1:(s.take n).length=min m n:=by rw[e6,Js,Nat.min_comm]
 have e2:(cW c).f (lCp l o (s.take n))=((cW c).f l).take (o*c.sz)++(s.flatMap c.f).take (min m n*c.sz)++((cW c).f l).drop (o*c.sz+min m n*c.sz):=by
  show (lCp l o (s.take n)).flatMap c.f=_
  rw[Jk,e1]
  have e3:(s.flatMap c.f).take (min m n*c.sz)=(s.take n).flatMap c.f:=by
   rw[mq c.f c.h]
   congr 1
   rcases Nat.le_total m n with h|h
   ·rw[sZ h,gu (by omega),gu (by omega)]
   ·rw[Nat.min_eq_right h]
  rw[e3];rfl
 rw[e2];exact this
end
theorem WkS.free {tm:List (Nat×D)}{vs:List (Nat×List D)}{lv:List (Nat×Nat×Nat×TypeId)}{N k:Nat}{ds:List D}(hv:vs.lookup k=some ds):∀(B:Nat) (g:Gh) (w:World) (ρ:Nat→Value),HR B ⟨vs,lv,N⟩ g w→(∀t d,tm.lookup t=some d→aI ⟨vs,lv,N⟩ g w d (ρ t))→
  ∃g':Gh,g'=⟨g.μ,g.τ,fun p=>g.F p∧p.block≠g.μ k⟩∧HR B ⟨vs.filter fun p=>!([k]:List Nat).contains p.1,lv,N⟩ g' w∧bC ⟨vs,lv,N⟩ g w ⟨vs.filter fun p=>!([k]:List Nat).contains p.1,lv,N⟩ g' w∧(∀t d,tm.lookup t=some d→aI ⟨vs.filter fun p=>!([k]:List Nat).contains p.1,lv,N⟩ g' w d (ρ t))∧∀p:Addr,p.block<B→g.F p→g'.F p:=by
 intro B g w ρ hr i4
 obtain⟨h1,h2,h3,cs,ty,h4,h5,h6⟩:=hr.var k _ hv
 have look:∀{j:Nat} {ds:List D},(vs.filter fun p=>!([k]:List Nat).contains p.1).lookup j=some ds→j≠k∧vs.lookup j=some ds:=by
  intro j ds h
  obtain⟨a,b⟩:=lq h
  exact⟨by simpa using a,b⟩
 have qu:∀{j:Nat} {ds:List D},j≠k→vs.lookup j=some ds→g.μ j≠g.μ k:=fun hj hl e=>hj (hr.inj _ _ _ _ hl hv e)
 have mo:bC ⟨vs,lv,N⟩ g w ⟨vs.filter fun p=>!([k]:List Nat).contains p.1,lv,N⟩ ⟨g.μ,g.τ,fun p=>g.F p∧p.block≠g.μ k⟩ w:=by
  refine⟨aD _,fun _ _ _=>rfl,fun _ _ h=>h.1,aD _,fun _ _=>rfl,fun _ _ m _ h=>⟨m,h,aD _,fun _=>rfl⟩,fun b hb hf=>⟨rfl,fun p hp hq=>⟨hq,?_⟩,fun j ds hj=>hf.1 j ds (look hj).2,hf.2⟩,fun _=>.same fun _=>rfl⟩
  rw[hp];exact fun e=>hf.1 k _ hv e.symm
 refine⟨_,rfl,⟨fun j ds hj=>?_,fun j j' ds ds' hj Ip he=>hr.inj j j' ds ds' (look hj).2 (look Ip).2 he,fun id m e hi=>?_,hr.tinj,hr.base,fun p hp=>hr.fits p hp.1⟩,mo,fun t' d hd=>(i4 t' d hd).mono mo,fun p hp hq=>⟨hq,?_⟩⟩
 ·obtain⟨a1,a2⟩:=look hj
  obtain⟨b1,b2,b3,vd,Ku,b4,b5,b6⟩:=hr.var j ds a2
  exact⟨b1,b2,fun p hp=>⟨b3 p hp,by rw[hp];exact qu a1 a2⟩,vd,Ku,b4,b5,fun i u hu=>⟨(b6 i u hu).1,fun d hd=>((b6 i u hu).2 d hd).mono mo⟩⟩
 ·obtain⟨b1,us,b2,b3,b4⟩:=hr.tok id m e hi
  exact⟨b1,us,b2,b3,fun b hb=>⟨fun p hp hq=>⟨(b4 b hb).1 p hp hq,by rw[hp];exact fun e=>(b4 b hb).2 k _ hv e.symm⟩,fun j ds hj=>(b4 b hb).2 j ds (look hj).2⟩⟩
 ·intro e
  omega
theorem Df {tm:List (Nat×D)}{d0:D}:∀{ts:List Nat} {t:Nat} {d:D},(ts.map (fun t=>(t,d0))++tm).lookup t=some d→(t∈ts∧d=d0)∨tm.lookup t=some d
 |[],t,d,h=>.inr h
 |s::ts,t,d,h=>by
  by_cases Dp:t=s
  ·subst Dp
   have:some d0=some d:=by rw[←h];exact ak.symm
   injection this with this
   exact .inl ⟨ni ..,this.symm⟩
  ·rcases Df (ts:=ts) (t:=t) (d:=d) (by rw[←h];exact (ay Dp).symm) with⟨h1,h2⟩|h1
   ·exact .inl ⟨lV _ h1,h2⟩
   ·exact .inr h1
theorem WkS.frzs {tm:List (Nat×D)}{vs:List (Nat×List D)}{lv:List (Nat×Nat×Nat×TypeId)}{N k z n:Nat}{F:List E}(ts:List Nat)(hz:0<z)(ht:∀t∈ts,tm.lookup t=some (.ow k 0 z n))(hv:vs.lookup k=some (dC F))(hF:F.length=n*z):
  WkS tm ⟨vs,lv,N⟩ (ts.map (fun t=>(t,.e (.sl z n F)))++tm) ⟨vs.filter fun p=>!([k]:List Nat).contains p.1,lv,N⟩:=by
 intro B g w ρ hr i4
 have one:∀t∈ts,∃g',(g':Gh)=⟨g.μ,g.τ,fun p=>g.F p∧p.block≠g.μ k⟩∧aI ⟨vs.filter fun p=>!([k]:List Nat).contains p.1,lv,N⟩ g' w (.e (.sl z n F)) (ρ t):=by
  intro t MR
  refine⟨_,rfl,?_⟩
  obtain⟨h1,h2,h3,cs,ty,h4,h5,h6⟩:=hr.var k _ hv
  have dy:=i4 t _ (ht t MR)
  generalize ρ t=u at dy
  cases dy with
  |ow _ _ _ _ c hk pl oF=>
   have rL:F.length≤cs.size:=by rw[fL] at h5;exact h5
   refine .e _ _ (.sl z n F (some ⟨g.μ k,0,none⟩) c (fun i=>cs.getD i undef) hF hz pl oF (fun _=>⟨_,rfl,(ey.1 h4).1⟩) (fun ad ha i e hi=>?_) (fun i e hi=>?_))
   ·injection ha with ha
    subst ha
    have bG:i<cs.size:=bU (j4.1 hi).1 rL
    refine⟨?_,fun hf=>hf.2 (by rw[iw])⟩
    have e0:w.cell? (({block:=g.μ k,off:=0,spot:=none}:Addr).add i)=cs[0+i]? :=by
     by_cases h0:i=0
     ·subst h0;simp[World.cell?,Addr.add,h4]
     ·simp[World.cell?,Addr.add,h4,h0]
    rw[e0,bB]
    simp[de,bG]
   ·have bG:i<cs.size:=bU (j4.1 hi).1 rL
    have hu:=h6 i (cs.getD i undef) (by simp[de,bG])
    have:=hu.2 (.e e) (by unfold dC;rw[fO,hi];rfl)
    cases this with
    |e _ _ h7=>exact dq.less h7 fun p hp=>hp.1
 obtain⟨g',hg',q1,q2,q3,q4⟩:=WkS.free (lv:=lv) (N:=N) (tm:=tm) (k:=k) hv B g w ρ hr i4
 subst hg'
 refine⟨_,q1,q2,fun t d hd=>?_,q4⟩
 rcases Df hd with⟨h1,rfl⟩|h1
 ·obtain⟨g',hg',h2⟩:=one t h1
  subst hg'
  exact h2
 ·exact q3 t d h1
theorem WkS.frzG {α:Type}(c:Cd α){l:List α}{tm:List (Nat×D)}{vs:List (Nat×List D)}{lv:List (Nat×Nat×Nat×TypeId)}{N k n:Nat}(ts:List Nat)(hn:n=l.length)(ht:∀t∈ts,tm.lookup t=some (.ow k 0 c.sz n))(hv:vs.lookup k=some (dC ((cW c).f l)))(hz:Nat.ble 1 c.sz=true:=by exact rfl):
  WkS tm ⟨vs,lv,N⟩ (ts.map (fun t=>(t,.e (slE c l)))++tm) ⟨vs.filter fun p=>!([k]:List Nat).contains p.1,lv,N⟩:=by
 subst hn
 exact WkS.frzs ts (b7 hz) ht hv (fZ c.f c.h l)
end
end
section
section
variable {P:Program} {tb:TypeId→Option TyE} {dr:Bool} {ev:Operand→D} {hp:Hp} {ty:TypeId} {α:Type}
theorem mM {t e:TypeId}{i j:TyE}{n:Nat}{ps:List (Nat×Operand)}(l:List α)(c:Cd α)(ht:tb t=some i)(he:tb e=some j)(hi:i.ty=.slice e:=by exact rfl)(hz:c.sz=j.size:=by exact rfl)(K0:Nat.ble (0+1) (j.size)=true:=by exact rfl)(Lg:l.length=n+1:=by exact rfl)(hn:Nat.ble ((n+1)*j.size) (16777216)=true:=by exact rfl)(hp1:lM (ps.map fun p=>(p.1,ev p.2))=some ((l.zipIdx 0).map fun p=>(p.2,dC (c.f p.1))):=by exact rfl)(hd:dr=true:=by exact rfl):
  AVC P tb dr (.buildSlice t (n+1) ps.toArray) ty ev hp (Kq (dF c l) hp):=by
 have hf:=Bf c hz l 0 [] (List.replicate ((n+1)*j.size) (D.e .any)) (by simp) (by rw[Bm,Lg])
 rw[qw,qw] at hf
 have:=By (P:=P) (dr:=dr) (ty:=ty) (ev:=ev) (hp:=hp) ht he hi K0 hn hp1 hf (Bi _) hd
 show AVC _ _ _ _ _ _ _ (Kq (.fu c.sz l.length (l.flatMap c.f)) _)
 rw[hz,Lg]
 exact this
end
end
section
def Way(ops:Array Oper):List Nat→Array Bool→Prop
 |[],s=>Region.ready .any ops s=[]
 |i::l,s=>i∈Region.ready .any ops s∧Way ops l (s.setIfInBounds i true)
def Bfr(a b:Nat):List Nat→Array Bool→Prop
 |[],_=>True
 |i::l,s=>(i=b→s.getD a false=true)∧Bfr a b l (s.setIfInBounds i true)
theorem mU {ops:Array Oper}{s:Array Bool}{i:Nat}:i∈Region.ready .any ops s↔i<ops.size∧s.getD i true=false∧∃o,ops[i]? =some o∧∀e∈o.after,Region.binds .any e=true→s.getD e.on false=true:=by
 unfold Region.ready
 rw[List.mem_filter,B1]
 refine and_congr_right fun h=>?_
 rw[mf,yM]
 refine and_congr_right fun _=>?_
 cases ho:ops[i]? with
 |none=>simp
 |some o=>
  simp only[lc,vk,LU,Bool.or_eq_true,yM,kZ,exists_eq_left']
  refine forall_congr' fun e=>forall_congr' fun _=>?_
  cases Region.binds .any e <;> simp
theorem Rm {s:Array Bool}{i j:Nat}(h:s.getD j false=true):(s.setIfInBounds i true).getD j false=true:=by
 simp only[de] at h ⊢
 rw[HD]
 split
 ·rename_i e
  subst e
  split
  ·rfl
  ·rename_i hs
   rw[HN (by omega)] at h
   simp at h
 ·exact h
theorem FR {s:Array Bool}{i:Nat}(h:i<s.size):(s.setIfInBounds i true).getD i false=true:=by
 simp[de,HD,h]
theorem Bfr.of {a b:Nat}:∀(l:List Nat) (s:Array Bool),s.getD a false=true→Bfr a b l s
 |[],_,_=>trivial
 |_::l,_,h=>⟨fun _=>h,Bfr.of l _ (Rm h)⟩
theorem RX {ops:Array Oper}{a b:Nat}(MX:a≠b):∀(l:List Nat) (s:Array Bool),s.size=ops.size→Way ops l s→Bfr a b l s∨Bfr b a l s
 |[],_,_,_=>.inl trivial
 |i::l,s,hs,⟨h1,h2⟩=>by
  have hi:=(mU.1 h1).1
  by_cases ha:i=a
  ·subst ha
   exact .inl ⟨fun h=>absurd h MX,Bfr.of l _ (FR (by omega))⟩
  ·by_cases hb:i=b
   ·subst hb
    exact .inr ⟨fun h=>absurd h.symm MX,Bfr.of l _ (FR (by omega))⟩
   ·rcases RX MX l (s.setIfInBounds i true) (by simpa using hs) h2 with h|h
    ·exact .inl ⟨fun h=>absurd h hb,h⟩
    ·exact .inr ⟨fun h=>absurd h ha,h⟩
theorem Pc {ops:Array Oper}:∀(fuel t:Nat) (s:Array Bool),s.size=ops.size→unl s ops.size≤fuel→Way ops (Region.linearise.go .any ops fuel t s []) s
 |0,t,s,hs,hu=>by
  show Region.ready .any ops s=[]
  rw[Sa]
  intro i hi
  obtain⟨h1,h2,_⟩:=mU.1 hi
  have:i∈(List.range ops.size).filter fun j=>!s.getD j false:=by
   rw[List.mem_filter,B1]
   refine⟨h1,?_⟩
   have bG:i<s.size:=by omega
   have e1:s[i]?.getD true=false:=by rw[←de];exact h2
   rw[de]
   rw[nh bG] at e1 ⊢
   simp at e1 ⊢
   exact e1
  have hlen:=List.length_pos_of_mem this
  unfold unl at hu
  omega
 |fuel+1,t,s,hs,hu=>by
  simp only[Region.linearise.go]
  change Way ops (match (Region.ready .any ops s)[t % (Region.ready .any ops s).length]? with
   |some i=>Region.linearise.go .any ops fuel (t / (Region.ready .any ops s).length) (s.setIfInBounds i true) [i]
   |none=>[].reverse) s
  cases hi:(Region.ready .any ops s)[t % (Region.ready .any ops s).length]? with
  |none=>
   show Region.ready .any ops s=[]
   cases hr:Region.ready .any ops s with
   |nil=>rfl
   |cons x xs=>
    rw[hr] at hi
    have bG:t % (x::xs).length<(x::xs).length:=ep _ (by simp)
    rw[i8 bG] at hi
    cases hi
  |some i=>
   simp only[]
   rw[linearise_go_acc,List.reverse_singleton,List.singleton_append]
   have hm:=bT hi
   obtain⟨h1,h2,_⟩:=mU.1 hm
   have bG:i<s.size:=by omega
   have hf:s.getD i false=false:=by
    have e1:s[i]?.getD true=false:=by rw[←de];exact h2
    rw[de]
    rw[nh bG] at e1 ⊢
    simpa using e1
   exact⟨hm,Pc fuel _ _ (by simpa using hs) (by have:=Gy (n:=ops.size) h1 bG hf;omega)⟩
theorem Fs {P:Program}{ops:Array Oper}{Q:Exit→Act→World→Prop}:∀(l:List Nat) (fuel:Nat) (s:Array Bool) (a:Act) (w:World),wpAny P .any ops Q fuel s a w→Way ops l s→wpOps P ops Q l a w
 |[],0,_,_,_,h,_=>by simpa[wpOps] using h.2
 |[],_+1,_,_,_,h,hw=>by simpa[wpOps] using h.1 hw
 |i::l,0,_,_,_,h,hw=>by
  have:=hw.1
  rw[h.1] at this
  cases this
 |i::l,fuel+1,s,a,w,h,hw=>by
  rw[wpOps_cons]
  exact wpOp_mono (fun a w h=>Fs l fuel _ a w h hw.2) (h.2 i hw.1)
def li:List Oper→Nat→Oper
 |[],_=>default
 |o::_,0=>o
 |_::l,n+1=>li l n
def mB:List Nat→Nat→Nat
 |[],_=>0
 |j::l,i=>match Nat.beq j i with
  |true=>0
  |false=>mB l i+1
def Ja(p:List Nat)(i:Nat):List (Nat×Nat)→List Edge
 |[]=>[]
 |(a,b)::C=>match Nat.beq b i with
  |true=>⟨mB p a,.data⟩::Ja p i C
  |false=>Ja p i C
def lf(p:List Nat)(C:List (Nat×Nat))(i:Nat)(o:Oper):Oper:=⟨o.dst,o.op,o.type,o.pos,((o.after.toList.map fun e=>(⟨mB p e.on,e.ground⟩:Edge))++Ja p i C).toArray,none⟩
def dt(p:List Nat)(C:List (Nat×Nat))(l:List Oper):List Oper:=p.map fun i=>lf p C i (li l i)
def MF(p:List Nat)(l:List Oper):Bool:=Nat.beq p.length l.length&&(List.range l.length).all (fun i=>p.elem i)&&(l.all fun o=>o.guard.isNone)&&p.all (fun i=>Nat.blt i l.length)&&(List.range l.length).all fun k=>(List.range l.length).any fun i=>Nat.beq (mB p i) k
theorem oE:∀{p:List Nat} {i:Nat},i∈p→mB p i<p.length∧p[mB p i]? =some i
 |j::p,i,h=>by
  unfold mB
  cases hb:Nat.beq j i with
  |true=>exact⟨by simp,by simpa using yL hb⟩
  |false=>
   have qu:¬i=j:=by
    intro e;subst e
    have:Nat.beq i i=true:=HO i
    rw[this] at hb;cases hb
   rcases je.1 h with h|h
   ·exact absurd h qu
   ·obtain⟨h1,h2⟩:=oE h
    exact⟨by simpa using h1,by simpa using h2⟩
theorem NY {p:List Nat}{i j:Nat}(hi:i∈p)(hj:j∈p)(h:mB p i=mB p j):i=j:=by
 have h1:=(oE hi).2
 rw[h,(oE hj).2] at h1
 injection h1 with h1
 exact h1.symm
theorem PX {l:List Oper}{o:Oper}:∀{i:Nat},l[i]? =some o→li l i=o:=by
 induction l with
 |nil=>intro i h;simp at h
 |cons o' l ih=>
  intro i h
  cases i with
  |zero=>rw[LN] at h;injection h
  |succ i=>rw[LM] at h;exact ih h
theorem AT {p:List Nat}{i:Nat}{e:Edge}:∀{C:List (Nat×Nat)},e∈Ja p i C→∃a,(a,i)∈C∧e=⟨mB p a,.data⟩
 |(a,b)::C,h=>by
  unfold Ja at h
  cases hb:Nat.beq b i with
  |true=>
   rw[hb] at h
   obtain rfl:=yL hb
   rcases je.1 h with rfl|h
   ·exact⟨a,ni ..,rfl⟩
   ·obtain⟨a',h1,h2⟩:=AT h
    exact⟨a',lV _ h1,h2⟩
  |false=>
   rw[hb] at h
   obtain⟨a',h1,h2⟩:=AT h
   exact⟨a',lV _ h1,h2⟩
structure Kh(p:List Nat)(l:List Oper):Prop where
 len:p.length=l.length
 mem:∀i,i<l.length→i∈p
 gd:∀o∈l,o.guard=none
 bd:∀i∈p,i<l.length
 inv:∀k,k<l.length→∃i,i<l.length∧mB p i=k
theorem KQ {p:List Nat}{l:List Oper}(h:MF p l=true):Kh p l:=by
 unfold MF at h
 simp only[mf,cb,B1] at h
 obtain⟨⟨⟨⟨h1,h2⟩,h3⟩,h4⟩,h5⟩:=h
 refine⟨yL h1,fun i hi=>by simpa using h2 i hi,fun o ho=>by simpa using h3 o ho,fun i hi=>?_,fun k hk=>?_⟩
 ·exact b7 (h4 i hi)
 ·obtain⟨i,hi,hb⟩:=LK.1 (h5 k hk)
  exact⟨i,B1.1 hi,yL hb⟩
section
variable {P:Program} {p:List Nat} {C:List (Nat×Nat)} {l:List Oper}
theorem Kh.get(h:Kh p l){i:Nat}{o:Oper}(ho:l[i]? =some o):(dt p C l).toArray[mB p i]? =some (lf p C i o):=by
 have hi:i<l.length:=(j4.1 ho).1
 obtain⟨_,h2⟩:=oE (h.mem i hi)
 unfold dt
 rw[Bq,fO,h2,lc,PX ho]
theorem NL(h:Kh p l){Q:Exit→Act→World→Prop}{K:Act→World→Prop}{i:Nat}(hi:i<l.length){a:Act}{w:World}(hw:wpOp P (dt p C l).toArray Q (mB p i) K a w):wpOp P l.toArray Q i K a w:=by
 have ho:l[i]? =some l[i]:=i8 hi
 unfold wpOp at hw ⊢
 rw[h.get ho] at hw
 rw[Bq,ho]
 generalize hoo:l[i]=o at hw ho ⊢
 have hg:=h.gd o (bT ho)
 obtain⟨dst,op,ty,pos,af,gd⟩:=o
 simp only at hg
 subst hg
 exact hw
theorem CJ(h:Kh p l){Q:Exit→Act→World→Prop}:∀(is:List Nat) (a:Act) (w:World),(∀i∈is,i<l.length)→wpOps P (dt p C l).toArray Q (is.map (mB p)) a w→wpOps P l.toArray Q is a w
 |[],a,w,_,hw=>hw
 |i::is,a,w,hi,hw=>by
  rw[fx,wpOps_cons] at hw
  rw[wpOps_cons]
  exact NL h (hi i (ni ..)) (wpOp_mono (fun a w h'=>CJ h is a w (fun i Ap=>hi i (lV _ Ap)) h') hw)
structure Ew(p:List Nat)(n:Nat)(s s':Array Bool):Prop where
 s1:s.size=n
 s2:s'.size=n
 eq:∀i,i<n→s'[mB p i]? =s[i]?
theorem Ew.set(h:Kh p l){s s':Array Bool}(hs:Ew p l.length s s'){i:Nat}(hi:i<l.length):Ew p l.length (s.setIfInBounds i true) (s'.setIfInBounds (mB p i) true):=by
 refine⟨by simpa using hs.s1,by simpa using hs.s2,fun j hj=>?_⟩
 rw[HD,HD]
 have hpi:mB p i<s'.size:=by rw[hs.s2,←h.len];exact (oE (h.mem i hi)).1
 by_cases hij:i=j
 ·subst hij
  rw[ar rfl,ar rfl,ar hpi,ar (by rw[hs.s1];exact hi)]
 ·rw[aA hij,aA (fun e=>hij (NY (h.mem i hi) (h.mem j hj) e))]
  exact hs.eq j hj
theorem Ew.getD(h:Kh p l){s s':Array Bool}(hs:Ew p l.length s s'){j:Nat}(d:Bool)(hj:j<l.length):s'.getD (mB p j) d=s.getD j d:=by
 rw[de,de,hs.eq j hj]
theorem A5 {s:Array Bool}{j:Nat}(h:s.getD j false=true):j<s.size:=by
 rcases bt j s.size with h1|h1
 ·exact h1
 ·rw[de,HN h1] at h;cases h
theorem Iw(h:Kh p l):∀(is:List Nat) (s s':Array Bool),Ew p l.length s s'→Way l.toArray is s→(∀c∈C,Bfr c.1 c.2 is s)→Way (dt p C l).toArray (is.map (mB p)) s'
 |[],s,s',hs,hw,_=>by
  show Region.ready _ _ _=[]
  rw[Sa]
  intro k hk
  obtain⟨h1,h2,o',h3,h4⟩:=mU.1 hk
  have hkp:k<p.length:=by
   have:(dt p C l).length=p.length:=bW _
   simpa[this] using h1
  -- GA operation at k is GA one that stood at i
  have hik:=h.inv k (by rw[←h.len];exact hkp)
  obtain⟨i,hi,rfl⟩:=hik
  have ho:l[i]? =some l[i]:=i8 hi
  rw[h.get ho] at h3
  injection h3 with h3
  subst h3
  have:i∈Region.ready .any l.toArray s:=by
   refine mU.2 ⟨by simpa using hi,by rw[←hs.getD h true hi];exact h2,l[i],by rw[Bq];exact ho,fun e he hb=>?_⟩
   have h5:=h4 ⟨mB p e.on,e.ground⟩ (by
    unfold lf
    rw[HB]
    exact List.mem_append_left _ (mw.2 ⟨e,by simpa using he,rfl⟩)) hb
   have bG:mB p e.on<l.length:=by rw[←hs.s2];exact A5 h5
   by_cases QT:e.on∈p
   ·-- it is one of GA operations
    have hon:e.on<l.length:=h.bd _ QT
    rwa[hs.getD h false hon] at h5
   ·exfalso
    have:mB p e.on=p.length:=by
     have gen:∀(q:List Nat),e.on∉q→mB q e.on=q.length:=by
      intro q
      induction q with
      |nil=>intro _;rfl
      |cons j q ih=>
       intro hq
       have qu:Nat.beq j e.on=false:=by
        cases hb:Nat.beq j e.on with
        |true=>exact absurd (je.2 (.inl (yL hb).symm)) hq
        |false=>rfl
       unfold mB
       rw[qu]
       simp only[n7]
       rw[ih fun hh=>hq (lV _ hh)]
     exact gen p QT
    rw[this,h.len] at bG
    omega
  rw[show Region.ready .any l.toArray s=[] from hw] at this
  cases this
 |i::is,s,s',hs,⟨h1,h2⟩,hC=>by
  obtain⟨hi0,Li,o,ho,he⟩:=mU.1 h1
  have hi:i<l.length:=by simpa using hi0
  rw[Bq] at ho
  refine⟨mU.2 ⟨?_,by rw[hs.getD h true hi];exact Li,_,h.get ho,fun e hm hb=>?_⟩,Iw h is _ _ (hs.set h hi) h2 fun c hc=>(hC c hc).2⟩
  ·have:(dt p C l).length=p.length:=bW _
   simp only[my,this]
   exact (oE (h.mem i hi)).1
  ·unfold lf at hm
   rw[HB] at hm
   rcases s5.1 hm with hm|hm
   ·obtain⟨e0,he0,rfl⟩:=mw.1 hm
    have h6:=he e0 (by simpa using he0) hb
    have bG:e0.on<l.length:=by rw[←hs.s1];exact A5 h6
    rw[hs.getD h false bG];exact h6
   ·obtain⟨a,Kx,rfl⟩:=AT hm
    have h6:=(hC _ Kx).1 rfl
    have bG:a<l.length:=by rw[←hs.s1];exact A5 h6
    rw[hs.getD h false bG];exact h6
end
section
variable {P:Program} {tb:TypeId→Option TyE} {x:Cx} {tm:List (Nat×D)} {hp:Hp} {Q:Exit→List (Nat×D)→Hp→Prop} {L:List FuncId} {C:List (Nat×Nat)} {l:List Oper}
def DW(P:Program)(x:Cx)(l:List Oper)(C:List (Nat×Nat))(tm:List (Nat×D))(hp:Hp)(Q:Exit→List (Nat×D)→Hp→Prop):Prop:=
 ∀(a:Act) (w:World) (is:List Nat),RS x tm hp a w→(∀i∈is,i<l.length)→Way l.toArray is (Array.replicate l.length false)→(∀c∈C,Bfr c.1 c.2 is (Array.replicate l.length false))→wpOps P l.toArray (fun ex a' w'=>∃tm' hp',RS x tm' hp' a' w'∧Q ex tm' hp') is a w
theorem RS.drew {a:Act}{w:World}(h:RS x tm hp a w):RS x tm hp a {w with drawn:=w.drawn+1}:=by
 obtain⟨g,hr,i4,hsz,uc,hB,hF,hM⟩:=h
 exact⟨g,hr.keep (aD _) (fun _ _=>rfl),fun t d hl=>(i4 t d hl).mono (bC.keep hp g (aD _) (fun _ _=>rfl)),hsz,uc,hB.drew,hF,hM.trans (bC.keep hp g (aD _) (fun _ _=>rfl))⟩
theorem Pb {ops:Array Oper}:∀(is:List Nat) (s:Array Bool),Way ops is s→∀i∈is,i<ops.size
 |[],_,_,_,h=>by cases h
 |j::is,s,hw,i,h=>by
  rcases je.1 h with rfl|h
  ·exact (mU.1 hw.1).1
  ·exact Pb is _ hw.2 i h
theorem AW.dw {id:Nat}(hm:P.follows .mixedOrders=true)(h:DW P x l [] tm hp Q):AW P x (.region id l.toArray true) tm hp Q:=by
 intro a w hr
 refine wp_region_draw fun t=>?_
 simp only[Region.schedule,hm,Bool.true_or,bP]
 have hway:=Pc (ops:=l.toArray) l.toArray.size t (Array.replicate l.toArray.size false) (by simp) (by unfold unl;exact cw (F6 _ _) (by simp))
 have bG:=Pb _ _ hway
 simp only[my] at hway bG
 exact h a _ _ hr.drew bG hway (fun c hc=>by cases hc)
theorem DW.split(a b:Nat)(MX:a≠b)(h1:DW P x l ((a,b)::C) tm hp Q)(h2:DW P x l ((b,a)::C) tm hp Q):DW P x l C tm hp Q:=by
 intro ac w is hr bG hw hC
 rcases RX MX is _ (by simp) hw with h|h
 ·exact h1 ac w is hr bG hw fun c hc=>by
   rcases je.1 hc with rfl|hc
   ·exact h
   ·exact hC c hc
 ·exact h2 ac w is hr bG hw fun c hc=>by
   rcases je.1 hc with rfl|hc
   ·exact h
   ·exact hC c hc
theorem KB {ops:Array Oper}(hN:iZ x.N ops=true)(rK:xR tb L ops=true)
  (h:∀K:List (Nat×D)→Hp→Prop,(∀tm hp,Q .normal tm hp→K tm hp)→ba P tb (.any L) ops K ops.toList tm hp) {a:Act} {w:World} (hr:RS x tm hp a w):wpAny P .any ops (fun ex a' w'=>∃tm' hp',RS x tm' hp' a' w'∧Q ex tm' hp') ops.size (Array.replicate ops.size false) a w:=by
 obtain⟨dd,hh,ac,tms,bR,hK,h1,h2⟩:=KM (ops:=ops) ops.toList 0 (fun _=>.top) (fun _=>hp) (fun _=>false) (fun _=>tm) ⟨fun _ _ h=>absurd h (by omega),fun _ _ h=>absurd h (by omega),fun _ _ h=>absurd h (by omega)⟩ rfl (h _ fun _ _ h=>h)
 simp only[bB,eK] at bR hK h1 h2
 obtain⟨g,Qy,i4,hsz,uc,hB,hF,hM⟩:=hr
 refine Iv hN (C5 rK) bR (fun a w hr=>⟨_,_,hr,hK⟩) ops.size _ a _ 0 g ?_ ?_
 ·have zd:∀j,¬(Array.replicate ops.size false).getD j false=true:=by
   intro j
   simp[de,HM]
   split <;> simp
  refine⟨by simp,fun i _ _ _ hl=>absurd hl (zd i),bY _,fun j _ _ _=>⟨fun hl=>absurd hl (zd j),fun h=>absurd h (by omega)⟩,?_,fun t d hl=>?_,hsz,uc,hB,hF,?_⟩
  rotate_right
  ·rw[h2];exact hM
  ·rw[h2];exact Qy
  ·rw[h2]
   rcases hl with⟨i,_,_,hl,_⟩|⟨_,hl⟩
   ·exact absurd hl (zd i)
   ·rw[h1] at hl
    exact i4 t d hl
 ·unfold unl
  exact cw (F6 _ _) (by simp)
theorem DW.go(p:List Nat)(hp1:MF p l=true)(hN:iZ x.N (dt p C l).toArray=true)(rK:xR tb L (dt p C l).toArray=true)
  (h:∀K:List (Nat×D)→Hp→Prop,(∀tm hp,Q .normal tm hp→K tm hp)→ba P tb (.any L) (dt p C l).toArray K (dt p C l) tm hp):DW P x l C tm hp Q:=by
 intro a w is hr bG hw hC
 have hP:=KQ hp1
 have h1:=KB hN rK h hr
 have hlen:(dt p C l).toArray.size=l.length:=by simp[dt,hP.len]
 rw[hlen] at h1
 have hs0:Ew p l.length (Array.replicate l.length false) (Array.replicate l.length false):=by
  refine⟨by simp,by simp,fun i hi=>?_⟩
  have:=(oE (hP.mem i hi)).1
  rw[HM,HM,ar hi,ar (by rw[←hP.len];exact this)]
 exact CJ hP is a w bG (Fs _ _ _ a w h1 (Iw hP is _ _ hs0 hw hC))
end
end
def tblL:List (Nat×TyE):=[
 (2,⟨.int .i64,1,8,[.int .i64 (0)]⟩),
 (3,⟨.int .i64,1,8,[.int .i64 (0)]⟩),
 (4,⟨.bool,1,1,[.bool false]⟩),
 (5,⟨.int .u8,1,1,[.int .u8 (0)]⟩),
 (9,⟨.str,1,16,[.string ⟨#[]⟩]⟩),
 (12,⟨.int .u64,1,8,[.int .u64 (0)]⟩),
 (13,⟨.struct [(0,9),(1,12)],2,24,[.string ⟨#[]⟩,.int .u64 (0)]⟩),
 (21,⟨.int .i32,1,4,[.int .i32 (0)]⟩),
 (22,⟨.slice 34,1,24,[.slice none 0 0]⟩),
 (23,⟨.struct [(0,3),(1,3),(2,22)],3,40,[.int .i64 (0),.int .i64 (0),.slice none 0 0]⟩),
 (24,⟨.struct [(0,3),(1,3),(2,22)],3,40,[.int .i64 (0),.int .i64 (0),.slice none 0 0]⟩),
 (26,⟨.int .i64,1,8,[.int .i64 (0)]⟩),
 (29,⟨.int .u32,1,4,[aj]⟩),
 (30,⟨.arr 16 29,16,64,[aj,aj,aj,aj,aj,aj,aj,aj,aj,aj,aj,aj,aj,aj,aj,aj]⟩),
 (31,⟨.struct [(0,4),(1,4),(2,30)],18,68,[.bool false,.bool false,aj,aj,aj,aj,aj,aj,aj,aj,aj,aj,aj,aj,aj,aj,aj,aj]⟩),
 (32,⟨.struct [(0,4),(1,4),(2,30)],18,68,[.bool false,.bool false,aj,aj,aj,aj,aj,aj,aj,aj,aj,aj,aj,aj,aj,aj,aj,aj]⟩),
 (33,⟨.struct [(0,32),(18,32)],36,136,[.bool false,.bool false,aj,aj,aj,aj,aj,aj,aj,aj,aj,aj,aj,aj,aj,aj,aj,aj,.bool false,.bool false,aj,aj,aj,aj,aj,aj,aj,aj,aj,aj,aj,aj,aj,aj,aj,aj]⟩),
 (34,⟨.struct [(0,32),(18,32)],36,136,[.bool false,.bool false,aj,aj,aj,aj,aj,aj,aj,aj,aj,aj,aj,aj,aj,aj,aj,aj,.bool false,.bool false,aj,aj,aj,aj,aj,aj,aj,aj,aj,aj,aj,aj,aj,aj,aj,aj]⟩),
 (35,⟨.slice 3,1,24,[.slice none 0 0]⟩),
 (44,⟨.struct [(0,24),(3,35),(4,22),(5,4),(6,26),(7,3)],8,112,[.int .i64 (0),.int .i64 (0),.slice none 0 0,.slice none 0 0,.slice none 0 0,.bool false,.int .i64 (0),.int .i64 (0)]⟩),
 (45,⟨.struct [(0,24),(3,35),(4,22),(5,4),(6,26),(7,3)],8,112,[.int .i64 (0),.int .i64 (0),.slice none 0 0,.slice none 0 0,.slice none 0 0,.bool false,.int .i64 (0),.int .i64 (0)]⟩),
 (47,⟨.struct [(0,34),(36,26)],37,144,[.bool false,.bool false,aj,aj,aj,aj,aj,aj,aj,aj,aj,aj,aj,aj,aj,aj,aj,aj,.bool false,.bool false,aj,aj,aj,aj,aj,aj,aj,aj,aj,aj,aj,aj,aj,aj,aj,aj,.int .i64 (0)]⟩),
 (48,⟨.struct [(0,34),(36,26)],37,144,[.bool false,.bool false,aj,aj,aj,aj,aj,aj,aj,aj,aj,aj,aj,aj,aj,aj,aj,aj,.bool false,.bool false,aj,aj,aj,aj,aj,aj,aj,aj,aj,aj,aj,aj,aj,aj,aj,aj,.int .i64 (0)]⟩),
 (52,⟨.slice 22,1,24,[.slice none 0 0]⟩),
 (55,⟨.struct [(0,52),(1,26)],2,32,[.slice none 0 0,.int .i64 (0)]⟩),
 (56,⟨.struct [(0,52),(1,26)],2,32,[.slice none 0 0,.int .i64 (0)]⟩),
 (60,⟨.struct [(0,4),(1,26)],2,16,[.bool false,.int .i64 (0)]⟩),
 (61,⟨.struct [(0,4),(1,26)],2,16,[.bool false,.int .i64 (0)]⟩),
 (64,⟨.struct [(0,24),(3,26)],4,48,[.int .i64 (0),.int .i64 (0),.slice none 0 0,.int .i64 (0)]⟩),
 (65,⟨.struct [(0,24),(3,26)],4,48,[.int .i64 (0),.int .i64 (0),.slice none 0 0,.int .i64 (0)]⟩),
 (71,⟨.struct [(0,22),(1,26)],2,32,[.slice none 0 0,.int .i64 (0)]⟩),
 (72,⟨.struct [(0,22),(1,26)],2,32,[.slice none 0 0,.int .i64 (0)]⟩),
 (95,⟨.slice 102,1,24,[.slice none 0 0]⟩),
 (96,⟨.struct [(0,24),(3,95)],4,64,[.int .i64 (0),.int .i64 (0),.slice none 0 0,.slice none 0 0]⟩),
 (97,⟨.struct [(0,24),(3,95)],4,64,[.int .i64 (0),.int .i64 (0),.slice none 0 0,.slice none 0 0]⟩),
 (101,⟨.struct [(0,3),(1,34),(37,4)],38,152,[.int .i64 (0),.bool false,.bool false,aj,aj,aj,aj,aj,aj,aj,aj,aj,aj,aj,aj,aj,aj,aj,aj,.bool false,.bool false,aj,aj,aj,aj,aj,aj,aj,aj,aj,aj,aj,aj,aj,aj,aj,aj,.bool false]⟩),
 (102,⟨.struct [(0,3),(1,34),(37,4)],38,152,[.int .i64 (0),.bool false,.bool false,aj,aj,aj,aj,aj,aj,aj,aj,aj,aj,aj,aj,aj,aj,aj,aj,.bool false,.bool false,aj,aj,aj,aj,aj,aj,aj,aj,aj,aj,aj,aj,aj,aj,aj,aj,.bool false]⟩),
 (122,⟨.slice 24,1,24,[.slice none 0 0]⟩),
 (130,⟨.int .u64,1,8,[.int .u64 (0)]⟩),
 (134,⟨.arr 32 29,32,128,[aj,aj,aj,aj,aj,aj,aj,aj,aj,aj,aj,aj,aj,aj,aj,aj,aj,aj,aj,aj,aj,aj,aj,aj,aj,aj,aj,aj,aj,aj,aj,aj]⟩),
 (136,⟨.int .u64,1,8,[.int .u64 (0)]⟩),
 (137,⟨.slice 29,1,24,[.slice none 0 0]⟩),
 (149,⟨.slice 32,1,24,[.slice none 0 0]⟩),
 (172,⟨.arr 17 29,17,68,[aj,aj,aj,aj,aj,aj,aj,aj,aj,aj,aj,aj,aj,aj,aj,aj,aj]⟩)
]
def tbl(t:TypeId):Option TyE:=tblL.lookup t
theorem tb_2:tbl 2=some ⟨.int .i64,1,8,[.int .i64 (0)]⟩:=rfl
theorem bh:tbl 3=some ⟨.int .i64,1,8,[.int .i64 (0)]⟩:=rfl
theorem sD:tbl 4=some ⟨.bool,1,1,[.bool false]⟩:=rfl
theorem tb_5:tbl 5=some ⟨.int .u8,1,1,[.int .u8 (0)]⟩:=rfl
theorem tb_9:tbl 9=some ⟨.str,1,16,[.string ⟨#[]⟩]⟩:=rfl
theorem tb_12:tbl 12=some ⟨.int .u64,1,8,[.int .u64 (0)]⟩:=rfl
theorem tb_13:tbl 13=some ⟨.struct [(0,9),(1,12)],2,24,[.string ⟨#[]⟩,.int .u64 (0)]⟩:=rfl
theorem tb_21:tbl 21=some ⟨.int .i32,1,4,[.int .i32 (0)]⟩:=rfl
theorem aF:tbl 22=some ⟨.slice 34,1,24,[.slice none 0 0]⟩:=rfl
theorem tb_23:tbl 23=some ⟨.struct [(0,3),(1,3),(2,22)],3,40,[.int .i64 (0),.int .i64 (0),.slice none 0 0]⟩:=rfl
theorem aq:tbl 24=some ⟨.struct [(0,3),(1,3),(2,22)],3,40,[.int .i64 (0),.int .i64 (0),.slice none 0 0]⟩:=rfl
theorem wq:tbl 26=some ⟨.int .i64,1,8,[.int .i64 (0)]⟩:=rfl
theorem bX:tbl 29=some ⟨.int .u32,1,4,[aj]⟩:=rfl
theorem da:tbl 30=some ⟨.arr 16 29,16,64,[aj,aj,aj,aj,aj,aj,aj,aj,aj,aj,aj,aj,aj,aj,aj,aj]⟩:=rfl
theorem tb_31:tbl 31=some ⟨.struct [(0,4),(1,4),(2,30)],18,68,[.bool false,.bool false,aj,aj,aj,aj,aj,aj,aj,aj,aj,aj,aj,aj,aj,aj,aj,aj]⟩:=rfl
theorem iO:tbl 32=some ⟨.struct [(0,4),(1,4),(2,30)],18,68,[.bool false,.bool false,aj,aj,aj,aj,aj,aj,aj,aj,aj,aj,aj,aj,aj,aj,aj,aj]⟩:=rfl
theorem tb_33:tbl 33=some ⟨.struct [(0,32),(18,32)],36,136,[.bool false,.bool false,aj,aj,aj,aj,aj,aj,aj,aj,aj,aj,aj,aj,aj,aj,aj,aj,.bool false,.bool false,aj,aj,aj,aj,aj,aj,aj,aj,aj,aj,aj,aj,aj,aj,aj,aj]⟩:=rfl
theorem aC:tbl 34=some ⟨.struct [(0,32),(18,32)],36,136,[.bool false,.bool false,aj,aj,aj,aj,aj,aj,aj,aj,aj,aj,aj,aj,aj,aj,aj,aj,.bool false,.bool false,aj,aj,aj,aj,aj,aj,aj,aj,aj,aj,aj,aj,aj,aj,aj,aj]⟩:=rfl
theorem b9:tbl 35=some ⟨.slice 3,1,24,[.slice none 0 0]⟩:=rfl
theorem tb_44:tbl 44=some ⟨.struct [(0,24),(3,35),(4,22),(5,4),(6,26),(7,3)],8,112,[.int .i64 (0),.int .i64 (0),.slice none 0 0,.slice none 0 0,.slice none 0 0,.bool false,.int .i64 (0),.int .i64 (0)]⟩:=rfl
theorem eb:tbl 45=some ⟨.struct [(0,24),(3,35),(4,22),(5,4),(6,26),(7,3)],8,112,[.int .i64 (0),.int .i64 (0),.slice none 0 0,.slice none 0 0,.slice none 0 0,.bool false,.int .i64 (0),.int .i64 (0)]⟩:=rfl
theorem tb_47:tbl 47=some ⟨.struct [(0,34),(36,26)],37,144,[.bool false,.bool false,aj,aj,aj,aj,aj,aj,aj,aj,aj,aj,aj,aj,aj,aj,aj,aj,.bool false,.bool false,aj,aj,aj,aj,aj,aj,aj,aj,aj,aj,aj,aj,aj,aj,aj,aj,.int .i64 (0)]⟩:=rfl
theorem tr:tbl 48=some ⟨.struct [(0,34),(36,26)],37,144,[.bool false,.bool false,aj,aj,aj,aj,aj,aj,aj,aj,aj,aj,aj,aj,aj,aj,aj,aj,.bool false,.bool false,aj,aj,aj,aj,aj,aj,aj,aj,aj,aj,aj,aj,aj,aj,aj,aj,.int .i64 (0)]⟩:=rfl
theorem js:tbl 52=some ⟨.slice 22,1,24,[.slice none 0 0]⟩:=rfl
theorem tb_55:tbl 55=some ⟨.struct [(0,52),(1,26)],2,32,[.slice none 0 0,.int .i64 (0)]⟩:=rfl
theorem ri:tbl 56=some ⟨.struct [(0,52),(1,26)],2,32,[.slice none 0 0,.int .i64 (0)]⟩:=rfl
theorem tb_60:tbl 60=some ⟨.struct [(0,4),(1,26)],2,16,[.bool false,.int .i64 (0)]⟩:=rfl
theorem pD:tbl 61=some ⟨.struct [(0,4),(1,26)],2,16,[.bool false,.int .i64 (0)]⟩:=rfl
theorem tb_64:tbl 64=some ⟨.struct [(0,24),(3,26)],4,48,[.int .i64 (0),.int .i64 (0),.slice none 0 0,.int .i64 (0)]⟩:=rfl
theorem jr:tbl 65=some ⟨.struct [(0,24),(3,26)],4,48,[.int .i64 (0),.int .i64 (0),.slice none 0 0,.int .i64 (0)]⟩:=rfl
theorem tb_71:tbl 71=some ⟨.struct [(0,22),(1,26)],2,32,[.slice none 0 0,.int .i64 (0)]⟩:=rfl
theorem tb_72:tbl 72=some ⟨.struct [(0,22),(1,26)],2,32,[.slice none 0 0,.int .i64 (0)]⟩:=rfl
theorem tq:tbl 95=some ⟨.slice 102,1,24,[.slice none 0 0]⟩:=rfl
theorem tb_96:tbl 96=some ⟨.struct [(0,24),(3,95)],4,64,[.int .i64 (0),.int .i64 (0),.slice none 0 0,.slice none 0 0]⟩:=rfl
theorem kq:tbl 97=some ⟨.struct [(0,24),(3,95)],4,64,[.int .i64 (0),.int .i64 (0),.slice none 0 0,.slice none 0 0]⟩:=rfl
theorem tb_101:tbl 101=some ⟨.struct [(0,3),(1,34),(37,4)],38,152,[.int .i64 (0),.bool false,.bool false,aj,aj,aj,aj,aj,aj,aj,aj,aj,aj,aj,aj,aj,aj,aj,aj,.bool false,.bool false,aj,aj,aj,aj,aj,aj,aj,aj,aj,aj,aj,aj,aj,aj,aj,aj,.bool false]⟩:=rfl
theorem im:tbl 102=some ⟨.struct [(0,3),(1,34),(37,4)],38,152,[.int .i64 (0),.bool false,.bool false,aj,aj,aj,aj,aj,aj,aj,aj,aj,aj,aj,aj,aj,aj,aj,aj,.bool false,.bool false,aj,aj,aj,aj,aj,aj,aj,aj,aj,aj,aj,aj,aj,aj,aj,aj,.bool false]⟩:=rfl
theorem uT:tbl 122=some ⟨.slice 24,1,24,[.slice none 0 0]⟩:=rfl
theorem tb_130:tbl 130=some ⟨.int .u64,1,8,[.int .u64 (0)]⟩:=rfl
theorem GB:tbl 134=some ⟨.arr 32 29,32,128,[aj,aj,aj,aj,aj,aj,aj,aj,aj,aj,aj,aj,aj,aj,aj,aj,aj,aj,aj,aj,aj,aj,aj,aj,aj,aj,aj,aj,aj,aj,aj,aj]⟩:=rfl
theorem tb_136:tbl 136=some ⟨.int .u64,1,8,[.int .u64 (0)]⟩:=rfl
theorem Pk:tbl 137=some ⟨.slice 29,1,24,[.slice none 0 0]⟩:=rfl
theorem tQ:tbl 149=some ⟨.slice 32,1,24,[.slice none 0 0]⟩:=rfl
theorem CW:tbl 172=some ⟨.arr 17 29,17,68,[aj,aj,aj,aj,aj,aj,aj,aj,aj,aj,aj,aj,aj,aj,aj,aj,aj]⟩:=rfl
class TB (t:TypeId) (i:outParam TyE):Prop where
 h:tbl t=some i
theorem tbI {t:TypeId}{i:TyE}[h:TB t i]:tbl t=some i:=h.h
@[reducible,instance] def itb_2:=TB.mk tb_2
@[reducible,instance] def itb_3:=TB.mk bh
@[reducible,instance] def itb_4:=TB.mk sD
@[reducible,instance] def itb_5:=TB.mk tb_5
@[reducible,instance] def itb_9:=TB.mk tb_9
@[reducible,instance] def itb_12:=TB.mk tb_12
@[reducible,instance] def itb_13:=TB.mk tb_13
@[reducible,instance] def itb_21:=TB.mk tb_21
@[reducible,instance] def itb_22:=TB.mk aF
@[reducible,instance] def itb_23:=TB.mk tb_23
@[reducible,instance] def itb_24:=TB.mk aq
@[reducible,instance] def itb_26:=TB.mk wq
@[reducible,instance] def itb_29:=TB.mk bX
@[reducible,instance] def itb_30:=TB.mk da
@[reducible,instance] def itb_31:=TB.mk tb_31
@[reducible,instance] def itb_32:=TB.mk iO
@[reducible,instance] def itb_33:=TB.mk tb_33
@[reducible,instance] def itb_34:=TB.mk aC
@[reducible,instance] def itb_35:=TB.mk b9
@[reducible,instance] def itb_44:=TB.mk tb_44
@[reducible,instance] def itb_45:=TB.mk eb
@[reducible,instance] def itb_47:=TB.mk tb_47
@[reducible,instance] def itb_48:=TB.mk tr
@[reducible,instance] def itb_52:=TB.mk js
@[reducible,instance] def itb_55:=TB.mk tb_55
@[reducible,instance] def itb_56:=TB.mk ri
@[reducible,instance] def itb_60:=TB.mk tb_60
@[reducible,instance] def itb_61:=TB.mk pD
@[reducible,instance] def itb_64:=TB.mk tb_64
@[reducible,instance] def itb_65:=TB.mk jr
@[reducible,instance] def itb_71:=TB.mk tb_71
@[reducible,instance] def itb_72:=TB.mk tb_72
@[reducible,instance] def itb_95:=TB.mk tq
@[reducible,instance] def itb_96:=TB.mk tb_96
@[reducible,instance] def itb_97:=TB.mk kq
@[reducible,instance] def itb_101:=TB.mk tb_101
@[reducible,instance] def itb_102:=TB.mk im
@[reducible,instance] def itb_122:=TB.mk uT
@[reducible,instance] def itb_130:=TB.mk tb_130
@[reducible,instance] def itb_134:=TB.mk GB
@[reducible,instance] def itb_136:=TB.mk tb_136
@[reducible,instance] def itb_137:=TB.mk Pk
@[reducible,instance] def itb_149:=TB.mk tQ
@[reducible,instance] def itb_172:=TB.mk CW
def Sz(P:Program):List (Nat×TyE)→Prop
 |[]=>True
 |(t,i)::l=>((P.underlying t).map Ty.of=some i.ty∧(P.info? t).map (fun f=>(f.size,f.bytes,f.zero.map fun v=>(v.cells.toList,v.isAggV)))=some (i.size,i.bytes,some (i.zero,i.ty.agg))∧i.zero.length=i.size∧i.zero.all Value.oneCell'=true)∧Sz P l
theorem Sz.get {P:Program}:∀{l:List (Nat×TyE)} {t:Nat} {i:TyE},Sz P l→l.lookup t=some i→(P.underlying t).map Ty.of=some i.ty∧(P.info? t).map (fun f=>(f.size,f.bytes,f.zero.map fun v=>(v.cells.toList,v.isAggV)))=some (i.size,i.bytes,some (i.zero,i.ty.agg))∧i.zero.length=i.size∧i.zero.all Value.oneCell'=true
 |[],t,i,_,h=>by simp at h
 |(s,j)::l,t,i,h,hl=>by
  by_cases MR:t=s
  ·subst MR
   have:some j=some i:=by rw[←hl];exact ak.symm
   injection this with this
   subst this
   exact h.1
  ·exact Sz.get h.2 (by rw[←hl];exact (ay MR).symm)
theorem tokL:Sz prog tblL:=by
 iterate 44 refine⟨⟨by kernel_rfl,by kernel_rfl,by kernel_rfl,by kernel_rfl⟩,?_⟩
 exact trivial
theorem tok:TOk prog tbl:=fun _ _ h=>tokL.get h
theorem uh:prog.underlying 4=some .bool:=by kernel_rfl
section
section
variable {md:Md} {ops:Array Oper} {K:List (Nat×D)→Hp→Prop} {os:List Oper} {tm:List (Nat×D)} {hp hp':Hp} {t s:Tmp} {op:Op} {ty:TypeId} {pos:String} {af:Array Edge} {d d2:D} {j:Nat} {want c:Bool}
theorem s1(h:AVC prog tbl md.dr op ty (evD tm) hp (Kq d hp'))(h2:ba prog tbl md ops K os ((t,d)::tm) hp')(hn:md.nc tbl op=true:=by exact rfl):ba prog tbl md ops K (⟨some t,op,ty,pos,af,none⟩::os) tm hp:=st tok hn h h2
theorem s0(h:AVC prog tbl md.dr op ty (evD tm) hp (Kq d hp'))(h2:ba prog tbl md ops K os tm hp')(hn:md.nc tbl op=true:=by exact rfl):ba prog tbl md ops K (⟨none,op,ty,pos,af,none⟩::os) tm hp:=st_n tok hn h h2
theorem s2(h:AVC prog tbl md.dr op ty (evD tm) hp (Kq d hp'))(hl:d.le d2)(h2:ba prog tbl md ops K os ((t,d2)::tm) hp')(hn:md.nc tbl op=true:=by exact rfl):ba prog tbl md ops K (⟨some t,op,ty,pos,af,none⟩::os) tm hp:=st_le tok hn h hl h2
theorem g1(hw:c=want)(h:AVC prog tbl md.dr op ty (evD tm) hp (Kq d hp'))(h2:ba prog tbl md ops K os ((t,d)::tm) hp')(hj:(ops[j]?).bind (·.dst)=some s:=by exact rfl)(hc:tm.lookup s=some (.e (.lit (.bool c))):=by exact rfl)(hn:md.nc tbl op=true:=by exact rfl):ba prog tbl md ops K (⟨some t,op,ty,pos,af,some (j,want)⟩::os) tm hp:=OE tok hn hj hc hw h h2
theorem q1(h:nT prog tbl md ⟨some t,op,ty,pos,af,none⟩ (evD tm) hp d hp')(h2:ba prog tbl md ops K os ((t,d)::tm) hp'):ba prog tbl md ops K (⟨some t,op,ty,pos,af,none⟩::os) tm hp:=GE rfl h h2
theorem fzO {α:Type}(c:Cd α){l:List α}{vs v6:List (Nat×List D)}{lv:List (Nat×Nat×Nat×TypeId)}{N n:Nat}(k:Nat)(ts:List Nat)(hn:n=l.length)(h2:ba prog tbl .seq ops K os (ts.map (fun t=>(t,.e (slE c l)))++tm) ⟨v6,lv,N⟩)(ht:∀t∈ts,tm.lookup t=some (.ow k 0 c.sz n))(hv:vs.lookup k=some (dC ((cW c).f l)):=by exact rfl)(hz:Nat.ble 1 c.sz=true:=by exact rfl)(xg:(vs.filter fun p=>!([k]:List Nat).contains p.1)=v6:=by exact rfl):ba prog tbl .seq ops K os tm ⟨vs,lv,N⟩:=by
 subst xg
 exact .wk rfl (WkS.frzG c ts hn ht hv hz) h2
theorem all1 {p:Nat→Prop}{a:Nat}(h:p a):∀t∈[a],p t:=by simpa using h
theorem all2 {p:Nat→Prop}{a:Nat}{l:List Nat}(h:p a)(hl:∀t∈l,p t):∀t∈a::l,p t:=by simpa using⟨h,hl⟩
variable {x:Cx} {Q:Exit→List (Nat×D)→Hp→Prop}
theorem rg {n id:Nat}{l:List Oper}(hx:x.N=n)(hN:iZ n l.toArray=true)(h:∀K:List (Nat×D)→Hp→Prop,(∀tm hp,Q .normal tm hp→K tm hp)→ba prog tbl .seq l.toArray K l tm hp):AW prog x (.region id l.toArray false) tm hp Q:=AW.regS tbl (by rw[hx];exact hN) h
theorem rd {n id:Nat}{l:List Oper}(L:List FuncId)(hx:x.N=n)(hN:iZ n l.toArray=true)(rK:xR tbl L l.toArray=true)(h:∀K:List (Nat×D)→Hp→Prop,(∀tm hp,Q .normal tm hp→K tm hp)→ba prog tbl (.any L) l.toArray K l tm hp):AW prog x (.region id l.toArray true) tm hp Q:=AW.drwS tbl L (by kernel_rfl) (by rw[hx];exact hN) rK h
theorem dw {id:Nat}{l:List Oper}(h:DW prog x l [] tm hp Q):AW prog x (.region id l.toArray true) tm hp Q:=AW.dw (by kernel_rfl) h
theorem dwg {n:Nat}{l:List Oper}{C:List (Nat×Nat)}(L:List FuncId)(p:List Nat)(hx:x.N=n)(hp1:MF p l=true)(hN:iZ n (dt p C l).toArray=true)(rK:xR tbl L (dt p C l).toArray=true)(h:∀K:List (Nat×D)→Hp→Prop,(∀tm hp,Q .normal tm hp→K tm hp)→ba prog tbl (.any L) (dt p C l).toArray K (dt p C l) tm hp):DW prog x l C tm hp Q:=DW.go p hp1 (by rw[hx];exact hN) rK h
def PE(x:Cx){S:Type}(e:Exit)(T:S→List (Nat×D))(H:S→Hp)(y:S)(ex:Exit)(tm:List (Nat×D))(hp:Hp):Prop:=ex=e∧Wk x tm hp (T y) (H y)
def PR(rs:List ResultVar){R:Type}(dR:R→D)(y:R)(ex:Exit)(tm:List (Nat×D))(hp:Hp):Prop:=ex=.ret∧dm tbl rs tm hp (dR y)
def PS {A B:Type}(p:A→Exit→List (Nat×D)→Hp→Prop)(q:B→Exit→List (Nat×D)→Hp→Prop)(y:A⊕B)(ex:Exit)(tm:List (Nat×D))(hp:Hp):Prop:=match y with| .inl a=>p a ex tm hp| .inr b=>q b ex tm hp
theorem PS.l {A B:Type}{p:A→Exit→List (Nat×D)→Hp→Prop}{q:B→Exit→List (Nat×D)→Hp→Prop}{a:A}{ex:Exit}(h:p a ex tm hp):PS p q (.inl a) ex tm hp:=h
theorem PS.r {A B:Type}{p:A→Exit→List (Nat×D)→Hp→Prop}{q:B→Exit→List (Nat×D)→Hp→Prop}{b:B}{ex:Exit}(h:q b ex tm hp):PS p q (.inr b) ex tm hp:=h
theorem PE.i {S:Type}{e:Exit}{T:S→List (Nat×D)}{H:S→Hp}{y:S}(hw:Wk x tm hp (T y) (H y)):PE x e T H y e tm hp:=⟨rfl,hw⟩
theorem PR.i {rs:List ResultVar}{R:Type}{dR:R→D}{y:R}(hw:dm tbl rs tm hp (dR y)):PR rs dR y .ret tm hp:=⟨rfl,hw⟩
theorem jn {c:Code}{Q':Exit→List (Nat×D)→Hp→Prop}(Q:Exit→List (Nat×D)→Hp→Prop)(h:AW prog x c tm hp Q)(hq:∀ex tm hp,Q ex tm hp→Q' ex tm hp):AW prog x c tm hp Q':=AW.mono h hq
theorem lp {c:Code}{S X:Type}{b:S→Option (S⊕X)}{Q:Exit→List (Nat×D)→Hp→Prop}{s:S}{e:X}(T:S→List (Nat×D))(H:S→Hp)(QX:X→Exit→List (Nat×D)→Hp→Prop)(h:aK b s=some e)(hw:Wk x tm hp (T s) (H s))
  (round:∀s y,b s=some y→AW prog x c (T s) (H s) (PS (PE x .normal T H) (fun e ex tm hp=>ex≠.normal∧QX e ex tm hp) y)) (hq:∀ex tm hp,QX e ex tm hp→Q ex tm hp):AW prog x (.loop c) tm hp Q:=
 AW.mono (AW.loopO T H QX (fun s y hy=>AW.mono (round s y hy) fun ex tm' hp' h=>by cases y <;> exact h) h hw) hq
end
end
section
section
variable {md:Md} {ops:Array Oper} {K:List (Nat×D)→Hp→Prop} {os:List Oper} {tm:List (Nat×D)} {hp hp':Hp} {t s:Tmp} {op:Op} {ty:TypeId} {pos:String} {af:Array Edge} {d d2:D} {j:Nat} {want c:Bool}
variable {dr:Bool} {ev:List (Nat×D)}
theorem S6 {k:IntKind}{n:Int}:AVC prog tbl dr (.assign (.const (.int k n))) ty (evD ev) hp (Kq (dI k n) hp):=Gk
theorem Mt {b:Bool}:AVC prog tbl dr (.assign (.const (.bool b))) ty (evD ev) hp (Kq (dB b) hp):=Gk
theorem SM {k:IntKind}{n:Int}:AVC prog tbl dr (.move (.const (.int k n))) ty (evD ev) hp (Kq (dI k n) hp):=Ev
theorem SS {s tt:TypeId}{x:Operand}{i j:TyE}{f o k off:Nat}{fs:List (Nat×TypeId)}{ev:Operand→D}(hs:tbl s=some i:=by exact tbI)(hi:i.ty=.struct fs:=by exact rfl)(hf:fs[f]? =some (o,tt):=by exact rfl)(hx:ev x=.pt k off:=by exact rfl)(ht:tbl tt=some j:=by exact tbI)(hz:Nat.ble 1 j.size=true:=by exact rfl):AVC prog tbl dr (.fieldAddr s x f) ty ev hp (Kq (.pt k (off+o)) hp):=T_faP hs ht hi hf hz hx
theorem ST {s tt:TypeId}{x:Operand}{i j:TyE}{f o off:Nat}{xs:List E}{fs:List (Nat×TypeId)}{ev:Operand→D}(hs:tbl s=some i:=by exact tbI)(hi:i.ty=.struct fs:=by exact rfl)(hf:fs[f]? =some (o,tt):=by exact rfl)(hx:ev x=.fp xs off:=by exact rfl)(ht:tbl tt=some j:=by exact tbI)(hz:Nat.ble 1 j.size=true:=by exact rfl):AVC prog tbl dr (.fieldAddr s x f) ty ev hp (Kq (.fp xs (off+o)) hp):=T_faF hs ht hi hf hz hx
theorem SR {t e:TypeId}{x:Operand}{i j:TyE}{n:Nat}{xs:List E}{ev:Operand→D}(ht:tbl t=some i:=by exact tbI)(hi:i.ty=.slice e:=by exact rfl)(he:tbl e=some j:=by exact tbI)(hx:(ev x).asSl j.size=some (n,xs):=by exact rfl):AVC prog tbl dr (.call ⟨.builtin .len,#[x],#[t]⟩) ty ev hp (Kq (dI .i64 n) hp):=T_len ht he hi hx
theorem SQ {t e:TypeId}{x:Operand}{i j:TyE}{k off z n:Nat}{ev:Operand→D}(ht:tbl t=some i:=by exact tbI)(hi:i.ty=.slice e:=by exact rfl)(he:tbl e=some j:=by exact tbI)(hx:ev x=.ow k off z n:=by exact rfl):AVC prog tbl dr (.call ⟨.builtin .len,#[x],#[t]⟩) ty ev hp (Kq (dI .i64 n) hp):=Bx ht he hi hx
theorem K_shl {t t':TypeId}{x y:Operand}{k k':IntKind}{a b:Int}{ev:Operand→D}(hx:ev x=dI k a:=by exact rfl)(hy:ev y=dI k' b:=by exact rfl)(hb:0≤b:=by decide):AVC prog tbl dr (.binOp .shl t x y t') ty ev hp (Kq (dI k (yB k a b)) hp):=Sm hb hx hy
theorem K_shr {t t':TypeId}{x y:Operand}{k k':IntKind}{a b:Int}{ev:Operand→D}(hx:ev x=dI k a:=by exact rfl)(hy:ev y=dI k' b:=by exact rfl)(hb:0≤b:=by decide):AVC prog tbl dr (.binOp .shr t x y t') ty ev hp (Kq (dI k (mX k a b)) hp):=Sk hb hx hy
theorem K_quo {t t':TypeId}{x y:Operand}{k:IntKind}{a b:Int}{ev:Operand→D}(hx:ev x=dI k a:=by exact rfl)(hy:ev y=dI k b:=by exact rfl)(hb:b≠0:=by decide):AVC prog tbl dr (.binOp .quo t x y t') ty ev hp (Kq (dI k (k.wrap (a.tdiv b))) hp):=Gj hb hx hy
theorem K_rem {t t':TypeId}{x y:Operand}{k:IntKind}{a b:Int}{ev:Operand→D}(hx:ev x=dI k a:=by exact rfl)(hy:ev y=dI k b:=by exact rfl)(hb:b≠0:=by decide):AVC prog tbl dr (.binOp .rem t x y t') ty ev hp (Kq (dI k (a.tmod b)) hp):=Eu hb hx hy
theorem sa(h2:ba prog tbl md ops K os ((t,d)::tm) hp')(h:AVC prog tbl md.dr op ty (evD tm) hp (Kq d hp'):=by (first|exact T_mv|exact mi|exact S6|exact Mt|exact A_str|exact SM|exact M_bool|exact M_str|exact Gk|exact Ev|exact Sn|exact Mb|exact T_nilF|exact Su|exact Sy|exact Sh|exact Sp|exact Sv|exact So|exact Sq|exact Sr|exact Ss|exact St|exact T_seql|exact T_sneq|exact Mf uh|exact Me uh|exact T_and|exact T_or|exact T_xor|exact T_neg|exact K_shl|exact K_shr|exact K_quo|exact K_rem|exact SS|exact ST|exact Sw tbI tbI|exact T_cvS tbI tbI|exact SR|exact T_lenS tbI|exact T_lenA tbI|exact SQ|exact Nv|exact T_max|exact Sx))(hn:md.nc tbl op=true:=by exact rfl):ba prog tbl md ops K (⟨some t,op,ty,pos,af,none⟩::os) tm hp:=st tok hn h h2
theorem ga(hw:c=want)(h2:ba prog tbl md ops K os ((t,d)::tm) hp')(hj:(ops[j]?).bind (·.dst)=some s:=by exact rfl)(hc:tm.lookup s=some (.e (.lit (.bool c))):=by exact rfl)(h:AVC prog tbl md.dr op ty (evD tm) hp (Kq d hp'):=by (first|exact T_mv|exact mi|exact S6|exact Mt|exact A_str|exact SM|exact M_bool|exact M_str|exact Gk|exact Ev|exact Sn|exact Mb|exact T_nilF|exact Su|exact Sy|exact Sh|exact Sp|exact Sv|exact So|exact Sq|exact Sr|exact Ss|exact St|exact T_seql|exact T_sneq|exact Mf uh|exact Me uh|exact SS|exact ST|exact Sw tbI tbI|exact SR|exact T_lenS tbI))(hn:md.nc tbl op=true:=by exact rfl):ba prog tbl md ops K (⟨some t,op,ty,pos,af,some (j,want)⟩::os) tm hp:=OE tok hn hj hc hw h h2
theorem pn {ev:Operand→D}:((([]:List Operand).map ev).map D.ex).all D.pure=true:=rfl
theorem pA {ev:Operand→D}{a:Operand}{la:List Operand}(h:(ev a).ex.pure=true)(hl:((la.map ev).map D.ex).all D.pure=true):(((a::la).map ev).map D.ex).all D.pure=true:=by
 rw[fx,fx,nZ,h,hl];rfl
theorem lC {ev:Operand→D}{a:Operand}{la:List Operand}{d':D}{ds':List D}(h:(ev a).ex.le d')(hl:leL ((la.map ev).map D.ex) ds'):leL (((a::la).map ev).map D.ex) (d'::ds'):=⟨h,hl⟩
theorem cq {f:FuncId}{la:List Operand}{ts:Array TypeId}{ds:List D}{r:D}(hc:ax prog f ds r)(h2:ba prog tbl md ops K os ((t,r)::tm) hp)(hp1:((la.map (evD tm)).map D.ex).all D.pure=true:=by repeat (first|exact pn|refine pA (dH _ _) ?_|refine pA rfl ?_))(hl:leL ((la.map (evD tm)).map D.ex) ds:=by repeat (first|exact lAn|refine lC (tS _ _) ?_|refine lC (ao _) ?_))(hr:r.pure=true∨∃ds,r=.tu ds:=by (first|exact .inl (lL _ _)|exact .inl rfl|exact .inr ⟨_,rfl⟩)):
  ba prog tbl md ops K (⟨some t,.call ⟨.value (.func f),la.toArray,ts⟩,ty,pos,af,none⟩::os) tm hp:=sq tok hc hp1 hl hr h2
theorem sc {x:Operand}{f:FuncId}{la:List Operand}{ts:Array TypeId}{ds:List D}{r:D}(hc:ax prog f ds r)(h2:ba prog tbl md ops K os ((t,r)::tm) hp)(v4:evD tm x=.e (.lit (.func (.func f) #[] #[])):=by exact rfl)(hp1:((la.map (evD tm)).map D.ex).all D.pure=true:=by repeat (first|exact pn|refine pA (dH _ _) ?_|refine pA rfl ?_))(hl:leL ((la.map (evD tm)).map D.ex) ds:=by repeat (first|exact lAn|refine lC (tS _ _) ?_|refine lC (ao _) ?_))(hr:r.pure=true∨∃ds,r=.tu ds:=by (first|exact .inl (lL _ _)|exact .inl rfl|exact .inr ⟨_,rfl⟩))(hn:md.nc tbl (.call ⟨.value x,la.toArray,ts⟩)=true:=by exact rfl):
  ba prog tbl md ops K (⟨some t,.call ⟨.value x,la.toArray,ts⟩,ty,pos,af,none⟩::os) tm hp:=st tok hn (wZ v4 hc hp1 hl hr) h2
variable {x:Cx} {Q:Exit→List (Nat×D)→Hp→Prop}
theorem rq {n id:Nat}{l:List Oper}(hx:x.N=n)(h:∀K:List (Nat×D)→Hp→Prop,(∀tm hp,Q .normal tm hp→K tm hp)→ba prog tbl .seq l.toArray K l tm hp)(hN:iZ n l.toArray=true:=by kernel_rfl):AW prog x (.region id l.toArray false) tm hp Q:=rg hx hN h
theorem rqd {n id:Nat}{l:List Oper}(L:List FuncId)(hx:x.N=n)(h:∀K:List (Nat×D)→Hp→Prop,(∀tm hp,Q .normal tm hp→K tm hp)→ba prog tbl (.any L) l.toArray K l tm hp)(hN:iZ n l.toArray=true:=by kernel_rfl)(rK:xR tbl L l.toArray=true:=by kernel_rfl):AW prog x (.region id l.toArray true) tm hp Q:=rd L hx hN rK h
theorem rv1 {q:ResultVar}{r:D}(h:dm tbl [q] tm hp r:=by (first|exact dm.mk1 (cK rfl (.inr (.inr ⟨_,(ao _),rfl,rfl⟩)))|exact dm.mk1 (ws rfl tbI rfl rfl (ltb rfl) (Cd.h _ _) (.inr (.inr ⟨_,(ao _),lL _ _,rfl⟩))))):dm tbl [q] tm hp r:=h
theorem rv2 {q q':ResultVar}{r:D}(h:dm tbl [q,q'] tm hp r:=by (first|exact dm.mk2 (cK rfl (cK rfl (.inr ⟨_,_,(ao _),(ao _),⟨rfl,rfl⟩,rfl⟩)))|exact dm.mk2 (ws rfl tbI rfl rfl (ltb rfl) (Cd.h _ _) (cK rfl (.inr ⟨_,_,(ao _),(ao _),⟨lL _ _,rfl⟩,rfl⟩)))|exact dm.mk2 (ws rfl tbI rfl rfl (ltb rfl) (Cd.h _ _) (ws rfl tbI rfl rfl (ltb rfl) (Cd.h _ _) (.inr ⟨_,_,(ao _),(ao _),⟨lL _ _,lL _ _⟩,rfl⟩))))):dm tbl [q,q'] tm hp r:=h
theorem pe0 {S:Type}{e:Exit}{T:S→List (Nat×D)}{H:S→Hp}{y:S}{vars':List (Nat×List D)}{iQ:List (Nat×Nat×Nat×TypeId)}{m:Nat}{tm':List (Nat×D)}(h0:x.hp0=⟨[],[],0⟩)(os:List Nat)(hT:T y=tm':=by exact rfl)(hH:H y=⟨vars',iQ,m⟩:=by exact rfl)(ht:wkT (sg 0 os) m tm tm':=by repeat (first|exact wTn|refine wR rfl ?_|refine wG rfl (ao _) ?_))(hv:wkV (sg 0 os) m hp.vars vars':=by repeat (first|exact wVn|refine vC rfl ?_|refine vR rfl ?_))(hl:wkL (sg 0 os) m hp.live iQ:=by repeat (first|exact wLn|refine wL rfl rfl ?_))(uH:os.Nodup:=by decide)(hm:m=0+os.length:=by exact rfl):PE x e T H y e tm hp:=PE.i (by rw[hT,hH];exact wk h0 os ht hv hl uH hm)
theorem rs {n id:Nat}{l:List Oper}{b:Code}(hx:x.N=n)(h:∀K:List (Nat×D)→Hp→Prop,(∀tm hp,AW prog x b tm hp Q→K tm hp)→ba prog tbl .seq l.toArray K l tm hp)(hN:iZ n l.toArray=true:=by kernel_rfl):AW prog x (.seq (.region id l.toArray false) b) tm hp Q:=AW.seq (rg hx hN fun K hK=>h K hK)
theorem rsd {n id:Nat}{l:List Oper}{b:Code}(L:List FuncId)(hx:x.N=n)(h:∀K:List (Nat×D)→Hp→Prop,(∀tm hp,AW prog x b tm hp Q→K tm hp)→ba prog tbl (.any L) l.toArray K l tm hp)(hN:iZ n l.toArray=true:=by kernel_rfl)(rK:xR tbl L l.toArray=true:=by kernel_rfl):AW prog x (.seq (.region id l.toArray true) b) tm hp Q:=AW.seq (rd L hx hN rK fun K hK=>h K hK)
theorem ra {n id:Nat}{l:List Oper}{b:Code}{tm':List (Nat×D)}(hx:x.N=n)(h2:AW prog x b tm' hp' Q)(h:∀K:List (Nat×D)→Hp→Prop,K tm' hp'→ba prog tbl .seq l.toArray K l tm hp:=by (intro K hK;(repeat (refine sa ?_));exact .nil hK))(hN:iZ n l.toArray=true:=by kernel_rfl):AW prog x (.seq (.region id l.toArray false) b) tm hp Q:=rs hx (fun K hK=>h K (hK _ _ h2)) hN
theorem rb {n id:Nat}{l:List Oper}{tm':List (Nat×D)}(hx:x.N=n)(h2:Q .normal tm' hp')(h:∀K:List (Nat×D)→Hp→Prop,K tm' hp'→ba prog tbl .seq l.toArray K l tm hp:=by (intro K hK;(repeat (refine sa ?_));exact .nil hK))(hN:iZ n l.toArray=true:=by kernel_rfl):AW prog x (.region id l.toArray false) tm hp Q:=rq hx (fun K hK=>h K (hK _ _ h2)) hN
theorem cdh {R:Type}{y z:Option R}{r:R}{c:Operand}{c1 c2:Code}{b:Bool}(h:cnd b y z=some r)(hc:evD tm c=.e (.lit (.bool b)))(ht:b=true→y=some r→AW prog x c1 tm hp Q)(hf:b=false→z=some r→AW prog x c2 tm hp Q):AW prog x (.cond c c1 c2) tm hp Q:=AW.condS hc (fun hb=>ht hb (ek hb h)) fun hb=>hf hb (eo hb h)
theorem scb {R S:Type}{g:Option S}{k:S→Option R}{z:R}{x:Operand}{f:FuncId}{la:List Operand}{ts:Array TypeId}{ds:List D}{dr:S→D}(h:bnd g k=some z)(w:∀{y:S},g=some y→ax prog f ds (dr y))(h2:∀y,k y=some z→ba prog tbl md ops K os ((t,dr y)::tm) hp)(v4:evD tm x=.e (.lit (.func (.func f) #[] #[])):=by exact rfl)(hp1:((la.map (evD tm)).map D.ex).all D.pure=true:=by repeat (first|exact pn|refine pA (dH _ _) ?_|refine pA rfl ?_))(hl:leL ((la.map (evD tm)).map D.ex) ds:=by repeat (first|exact lAn|refine lC (tS _ _) ?_|refine lC (ao _) ?_))(hr:∀y,(dr y).pure=true∨∃ds,dr y=.tu ds:=by (intro y;first|exact .inl (lL _ _)|exact .inl rfl|exact .inr ⟨_,rfl⟩))(hn:md.nc tbl (.call ⟨.value x,la.toArray,ts⟩)=true:=by exact rfl):
  ba prog tbl md ops K (⟨some t,.call ⟨.value x,la.toArray,ts⟩,ty,pos,af,none⟩::os) tm hp:=by
 obtain⟨y,h3,h4⟩:=ah h
 exact st tok hn (wZ v4 (w h3) hp1 hl (hr y)) (h2 y h4)
theorem cqb {R S:Type}{g:Option S}{k:S→Option R}{z:R}{f:FuncId}{la:List Operand}{ts:Array TypeId}{ds:List D}{dr:S→D}(h:bnd g k=some z)(w:∀{y:S},g=some y→ax prog f ds (dr y))(h2:∀y,k y=some z→ba prog tbl md ops K os ((t,dr y)::tm) hp)(hp1:((la.map (evD tm)).map D.ex).all D.pure=true:=by repeat (first|exact pn|refine pA (dH _ _) ?_|refine pA rfl ?_))(hl:leL ((la.map (evD tm)).map D.ex) ds:=by repeat (first|exact lAn|refine lC (tS _ _) ?_|refine lC (ao _) ?_))(hr:∀y,(dr y).pure=true∨∃ds,dr y=.tu ds:=by (intro y;first|exact .inl (lL _ _)|exact .inl rfl|exact .inr ⟨_,rfl⟩)):
  ba prog tbl md ops K (⟨some t,.call ⟨.value (.func f),la.toArray,ts⟩,ty,pos,af,none⟩::os) tm hp:=by
 obtain⟨y,h3,h4⟩:=ah h
 exact sq tok (w h3) hp1 hl (hr y) (h2 y h4)
theorem bn {f : FuncId} {fn : Func} {c : Code} {ds : List D} {r : D} {rs : List ResultVar} {tm0 : List (Nat × D)} (h : ∀ x : Cx, x.N = fn.ntmps → x.hp0 = ⟨[], [], 0⟩ → AW prog x c tm0 ⟨[], [], 0⟩ fun ex tm hp => match ex with | .normal | .ret => dm tbl rs tm hp r | _ => False) (hf : prog.funcs[f]? = some fn) (hb : fn.body = some c := by exact rfl) (uu : (fn.name == "runtime.NumGoroutine") = false := by exact rfl) (hN : Nat.ble ds.length fn.ntmps = true := by exact rfl) (hrs : fn.results.toList = rs := by exact rfl) (i4 : fj 0 ds = tm0 := by (simp only [fj, Nat.reduceAdd, bB]; rfl)) : ax prog f ds r := ax.of tok hf hb uu (b7 hN) hrs (by rw [i4]; exact h)
end
end
section
variable {md:Md} {ops:Array Oper} {K:List (Nat×D)→Hp→Prop} {os:List Oper} {tm:List (Nat×D)} {hp hp':Hp} {t s:Tmp} {op:Op} {ty:TypeId} {pos:String} {af:Array Edge} {d d2:D} {j:Nat} {want c:Bool}
variable {dr:Bool} {ev:Operand→D}
theorem KT_T {cn x y:Operand}{b:Bool}(hc:ev cn=dB b:=by exact rfl)(h:ev x=d:=by exact rfl)(hb:b=true:=by (with_reducible first|rfl|assumption)):AVC prog tbl dr (.pick cn x y) ty ev hp (Kq d hp):=au hb hc h
theorem KT_F {cn x y:Operand}{b:Bool}(hc:ev cn=dB b:=by exact rfl)(h:ev y=d:=by exact rfl)(hb:b=false:=by (with_reducible first|rfl|assumption)):AVC prog tbl dr (.pick cn x y) ty ev hp (Kq d hp):=aN hb hc h
theorem KT_S {x y:Operand}{t e:TypeId}{i j:TyE}{n:Nat}{xs:List E}{k:IntKind}{v:Int}(ht:tbl t=some i:=by exact tbI)(hi:i.ty=.slice e:=by exact rfl)(he:tbl e=some j:=by exact tbI)(hx:(ev x).asSl j.size=some (n,xs):=by exact rfl)(hy:ev y=dI k v:=by exact rfl)(hb:0≤v∧v<(n:Int):=by assumption):AVC prog tbl dr (.indexAddr t x y) ty ev hp (Kq (.fp xs (v.toNat*j.size)) hp):=mL hb ht he hi hx hy
theorem KT_A {x y:Operand}{t e:TypeId}{i j:TyE}{n m off:Nat}{k:IntKind}{v:Int}(ht:tbl t=some i:=by exact tbI)(hi:i.ty=.arr n e:=by exact rfl)(he:tbl e=some j:=by exact tbI)(hx:ev x=.pt m off:=by exact rfl)(hy:ev y=dI k v:=by exact rfl)(hb:0≤v∧v<(n:Int):=by (first|assumption|decide)):AVC prog tbl dr (.indexAddr t x y) ty ev hp (Kq (.pt m (off+v.toNat*j.size)) hp):=vU hb ht he hi hx hy
theorem I3(h2:ba prog tbl md ops K os ((t,.tu [])::tm) hp)(hj:(ops[j]?).bind (·.dst)=some s:=by exact rfl)(hc:tm.lookup s=some (.e (.lit (.bool c))):=by exact rfl)(hw:c= !want:=by (first|(show _=false;with_reducible first|rfl|assumption)|(show _=true;with_reducible first|rfl|assumption))):ba prog tbl md ops K (⟨some t,op,ty,pos,af,some (j,want)⟩::os) tm hp:=aT hj hc hw h2
theorem KV_i {α:Type}{x:Operand}{c1:Cd α}{k N:Nat}{b:α}{vs:List (Nat×List D)}{lv:List (Nat×Nat×Nat×TypeId)}{t:TypeId}{i:TyE}(hx:ev x=.pt k 0:=by exact rfl)(hv:vs.lookup k=some (dC (c1.f b)):=by exact rfl)(ht:tbl t=some i:=by exact tbI)(hg:i.ty.agg=true:=by exact rfl)(hz:c1.sz=i.size:=by exact rfl)(hk:Nat.ble (k+1) N=true:=by exact rfl):AVC prog tbl dr (.load t x) ty ev ⟨vs,lv,N⟩ (Kq (dG c1 b) ⟨vs,lv,N⟩):=nq (aX.id _ _) ht hg hz hx hv hk
theorem KV_s {α:Type}{x y:Operand}{c1:Cd α}{k N:Nat}{b b':α}{vs:List (Nat×List D)}{lv:List (Nat×Nat×Nat×TypeId)}{t:TypeId}{i:TyE}(hx:ev x=.pt k 0:=by exact rfl)(hv:vs.lookup k=some (dC (c1.f b)):=by exact rfl)(ht:tbl t=some i:=by exact tbI)(hz:c1.sz=i.size:=by exact rfl)(hy:(ev y).cells=some (dC (c1.f b')):=by exact rfl):AVC prog tbl dr (.store t x y) ty ev ⟨vs,lv,N⟩ (Kq .top ⟨(k,dC (c1.f b'))::vs,lv,N⟩):=ig (aX.id _ _) ht hy hz hx hv
theorem KV_l {α:Type}[Inhabited α]{x:Operand}{F:List E}{c1:Cd α}{m o n k N off:Nat}{b:Vector α m}{F':Vector α m→List E}{vs:List (Nat×List D)}{lv:List (Nat×Nat×Nat×TypeId)}{t:TypeId}{i:TyE}{e:E}(L:aX F (cA m c1) o b F')(ht:tbl t=some i:=by exact tbI)(hg:i.ty.agg=false:=by exact rfl)(hx:ev x=.pt k off:=by exact rfl)(hv:vs.lookup k=some (dC F):=by exact rfl)(ho:off=o+n*c1.sz:=by exact rfl)(he:c1.f b[n]! =[e]:=by exact rfl)(hk:Nat.ble (k+1) N=true:=by exact rfl)(hn:n<m:=by (first|assumption|omega)):AVC prog tbl dr (.load t x) ty ev ⟨vs,lv,N⟩ (Kq (.e e) ⟨vs,lv,N⟩):=qU (aX.comp L (aX.vec c1 b n hn) (fun _=>rfl)) ht he hg (ho▸hx) hv hk
theorem nl {R:List (Nat×D)→Hp→Prop}(hK:∀tm hp,R tm hp→K tm hp)(h2:R tm hp):ba prog tbl md ops K [] tm hp:=.nil (hK _ _ h2)
theorem gcl {x:Operand}{f:FuncId}{la:List Operand}{ts:Array TypeId}{ds:List D}{r:D}(hc:ax prog f ds r)(h2:ba prog tbl md ops K os ((t,r)::tm) hp)(v4:evD tm x=.e (.lit (.func (.func f) #[] #[])):=by exact rfl)(hp1:((la.map (evD tm)).map D.ex).all D.pure=true:=by repeat (first|exact pn|refine pA (dH _ _) ?_|refine pA rfl ?_))(hl:leL ((la.map (evD tm)).map D.ex) ds:=by repeat (first|exact lAn|refine lC (tS _ _) ?_|refine lC (ao _) ?_))(hr:r.pure=true∨∃ds,r=.tu ds:=by (first|exact .inl (lL _ _)|exact .inl rfl|exact .inr ⟨_,rfl⟩))(hj:(ops[j]?).bind (·.dst)=some s:=by exact rfl)(hg:tm.lookup s=some (.e (.lit (.bool c))):=by exact rfl)(hw:c=want:=by (with_reducible first|rfl|assumption))(hn:md.nc tbl (.call ⟨.value x,la.toArray,ts⟩)=true:=by exact rfl):ba prog tbl md ops K (⟨some t,.call ⟨.value x,la.toArray,ts⟩,ty,pos,af,some (j,want)⟩::os) tm hp:=OE tok hn hj hg hw (wZ v4 hc hp1 hl hr) h2
theorem gcb {R S:Type}{g:Option S}{k:S→Option R}{z:R}{x:Operand}{f:FuncId}{la:List Operand}{ts:Array TypeId}{ds:List D}{dr:S→D}(h:bnd g k=some z)(w:∀{y:S},g=some y→ax prog f ds (dr y))(h2:∀y,k y=some z→ba prog tbl md ops K os ((t,dr y)::tm) hp)(v4:evD tm x=.e (.lit (.func (.func f) #[] #[])):=by exact rfl)(hp1:((la.map (evD tm)).map D.ex).all D.pure=true:=by repeat (first|exact pn|refine pA (dH _ _) ?_|refine pA rfl ?_))(hl:leL ((la.map (evD tm)).map D.ex) ds:=by repeat (first|exact lAn|refine lC (tS _ _) ?_|refine lC (ao _) ?_))(hr:∀y,(dr y).pure=true∨∃ds,dr y=.tu ds:=by (intro y;first|exact .inl (lL _ _)|exact .inl rfl|exact .inr ⟨_,rfl⟩))(hj:(ops[j]?).bind (·.dst)=some s:=by exact rfl)(hg:tm.lookup s=some (.e (.lit (.bool c))):=by exact rfl)(hw:c=want:=by (with_reducible first|rfl|assumption))(hn:md.nc tbl (.call ⟨.value x,la.toArray,ts⟩)=true:=by exact rfl):ba prog tbl md ops K (⟨some t,.call ⟨.value x,la.toArray,ts⟩,ty,pos,af,some (j,want)⟩::os) tm hp:=by
 obtain⟨y,h3,h4⟩:=ah h
 exact OE tok hn hj hg hw (wZ v4 (w h3) hp1 hl (hr y)) (h2 y h4)
end
section
variable {x:Cx} {tm:List (Nat×D)} {hp hp':Hp} {Q:Exit→List (Nat×D)→Hp→Prop}
theorem bE {R:Type}{b:Bool}{y z:Option R}{r:R}(h:cnd b y z=some r):(b=true∧y=some r)∨(b=false∧z=some r):=by cases b <;> simpa[cnd] using h
theorem wk0 {tm':List (Nat×D)}{vars':List (Nat×List D)}{iQ:List (Nat×Nat×Nat×TypeId)}{m:Nat}(h0:x.hp0=⟨[],[],0⟩)(os:List Nat)(ht:wkT (sg 0 os) m tm tm':=by repeat (first|exact wTn|refine wR rfl ?_))(hv:wkV (sg 0 os) m hp.vars vars':=by repeat (first|exact wVn|refine vC rfl ?_|refine vR rfl ?_))(hl:wkL (sg 0 os) m hp.live iQ:=by repeat (first|exact wLn|refine wL rfl rfl ?_))(uH:os.Nodup:=by decide)(hm:m=0+os.length:=by exact rfl):Wk x tm hp tm' ⟨vars',iQ,m⟩:=wk h0 os ht hv hl uH hm
theorem pe1 {S:Type}{e:Exit}{T:S→List (Nat×D)}{H:S→Hp}{a:S}{vars':List (Nat×List D)}{iQ:List (Nat×Nat×Nat×TypeId)}{m:Nat}{tm':List (Nat×D)}{y:S}(h:some a=some y)(h0:x.hp0=⟨[],[],0⟩)(os:List Nat)(hT:T a=tm':=by exact rfl)(hH:H a=⟨vars',iQ,m⟩:=by exact rfl)(ht:wkT (sg 0 os) m tm tm':=by repeat (first|exact wTn|refine wR rfl ?_|refine wG rfl (ao _) ?_))(hv:wkV (sg 0 os) m hp.vars vars':=by repeat (first|exact wVn|refine vC rfl ?_|refine vR rfl ?_))(hl:wkL (sg 0 os) m hp.live iQ:=by repeat (first|exact wLn|refine wL rfl rfl ?_))(uH:os.Nodup:=by decide)(hm:m=0+os.length:=by exact rfl):PE x e T H y e tm hp:=by cases h;exact pe0 h0 os hT hH ht hv hl uH hm
theorem pel {S:Type}{e:Exit}{T:S→List (Nat×D)}{H:S→Hp}{a:S}{vars':List (Nat×List D)}{iQ:List (Nat×Nat×Nat×TypeId)}{m:Nat}{tm':List (Nat×D)}{B:Type}{q:B→Exit→List (Nat×D)→Hp→Prop}{y:S⊕B}(h:some (.inl a)=some y)(h0:x.hp0=⟨[],[],0⟩)(os:List Nat)(hT:T a=tm':=by exact rfl)(hH:H a=⟨vars',iQ,m⟩:=by exact rfl)(ht:wkT (sg 0 os) m tm tm':=by repeat (first|exact wTn|refine wR rfl ?_|refine wG rfl (ao _) ?_))(hv:wkV (sg 0 os) m hp.vars vars':=by repeat (first|exact wVn|refine vC rfl ?_|refine vR rfl ?_))(hl:wkL (sg 0 os) m hp.live iQ:=by repeat (first|exact wLn|refine wL rfl rfl ?_))(uH:os.Nodup:=by decide)(hm:m=0+os.length:=by exact rfl):PS (PE x e T H) q y e tm hp:=by cases h;exact pe0 h0 os hT hH ht hv hl uH hm
theorem per {S:Type}{T:S→List (Nat×D)}{H:S→Hp}{a:S}{vars':List (Nat×List D)}{iQ:List (Nat×Nat×Nat×TypeId)}{m:Nat}{tm':List (Nat×D)}{A:Type}{p:A→Exit→List (Nat×D)→Hp→Prop}{y:A⊕S}{id:Nat}(h:some (.inr a)=some y)(h0:x.hp0=⟨[],[],0⟩)(os:List Nat)(hT:T a=tm':=by exact rfl)(hH:H a=⟨vars',iQ,m⟩:=by exact rfl)(ht:wkT (sg 0 os) m tm tm':=by repeat (first|exact wTn|refine wR rfl ?_|refine wG rfl (ao _) ?_))(hv:wkV (sg 0 os) m hp.vars vars':=by repeat (first|exact wVn|refine vC rfl ?_|refine vR rfl ?_))(hl:wkL (sg 0 os) m hp.live iQ:=by repeat (first|exact wLn|refine wL rfl rfl ?_))(uH:os.Nodup:=by decide)(hm:m=0+os.length:=by exact rfl):PS p (fun z ex tm hp=>ex≠Exit.normal∧PE x (.exit id) T H z ex tm hp) y (.exit id) tm hp:=by cases h;exact⟨by nofun,pe0 h0 os hT hH ht hv hl uH hm⟩
theorem peq {S:Type}{T:S→List (Nat×D)}{H:S→Hp}{a:S}{vars':List (Nat×List D)}{iQ:List (Nat×Nat×Nat×TypeId)}{m:Nat}{tm':List (Nat×D)}{A B:Type}{p:A→Exit→List (Nat×D)→Hp→Prop}{q:B→Exit→List (Nat×D)→Hp→Prop}{y:A⊕(B⊕S)}{id:Nat}(h:some (.inr (.inr a))=some y)(h0:x.hp0=⟨[],[],0⟩)(os:List Nat)(hT:T a=tm':=by exact rfl)(hH:H a=⟨vars',iQ,m⟩:=by exact rfl)(ht:wkT (sg 0 os) m tm tm':=by repeat (first|exact wTn|refine wR rfl ?_|refine wG rfl (ao _) ?_))(hv:wkV (sg 0 os) m hp.vars vars':=by repeat (first|exact wVn|refine vC rfl ?_|refine vR rfl ?_))(hl:wkL (sg 0 os) m hp.live iQ:=by repeat (first|exact wLn|refine wL rfl rfl ?_))(uH:os.Nodup:=by decide)(hm:m=0+os.length:=by exact rfl):PS p (fun z ex tm hp=>ex≠Exit.normal∧PS q (PE x (.exit id) T H) z ex tm hp) y (.exit id) tm hp:=by cases h;exact⟨by nofun,pe0 h0 os hT hH ht hv hl uH hm⟩
theorem lw0 {S:Type}{e:Exit}{T:S→List (Nat×D)}{H:S→Hp}{y:S}{c:Code}{Q0:Exit→List (Nat×D)→Hp→Prop}(h2:AW prog x c (T y) (H y) Q)(hQ:∀tm hp,AW prog x c tm hp Q→Q0 e tm hp:=by (intro _ _ hq;(try dsimp only);(try simp only[bP,reduceIte,Nat.reduceEqDiff,reduceCtorEq]);exact hq)):∀ex tm hp,PE x e T H y ex tm hp→Q0 ex tm hp:=by
 rintro ex tm hp ⟨rfl,hw⟩
 exact hQ _ _ (AW.weak hw h2)
theorem rtv {R:Type}{a r:R}{q:ResultVar}{f:R→D}(h:some a=some r)(hq:dm tbl [q] tm hp (f a):=by exact rv1):dm tbl [q] tm hp (f r):=by cases h;exact hq
theorem lwr {S:Type}{e:Exit}{T:S→List (Nat×D)}{H:S→Hp}{y:S}{A:Type}{p:A→Exit→List (Nat×D)→Hp→Prop}{c:Code}{Q0:Exit→List (Nat×D)→Hp→Prop}(h2:AW prog x c (T y) (H y) Q)(hQ:∀tm hp,AW prog x c tm hp Q→Q0 e tm hp:=by (intro _ _ hq;(try dsimp only);(try simp only[bP,reduceIte,Nat.reduceEqDiff,reduceCtorEq]);exact hq)):∀ex tm hp,PS p (PE x e T H) (.inr y) ex tm hp→Q0 ex tm hp:=lw0 h2 hQ
end
abbrev al_cV:Cd (Vector Int 16):=cA 16 (cI .u32)
structure ap where
 vBad:Bool
 vNeg:Bool
 vW:Vector Int 16
 deriving Inhabited,DecidableEq
abbrev cE:ap:=⟨false,false,cQ⟩
def az:Cd ap:=⟨18,fun x=>[.lit (.bool x.vBad),.lit (.bool x.vNeg)]++al_cV.f x.vW,fun x=>by simp[al_cV.h,show al_cV.sz=16 from rfl]⟩
theorem tw(x:ap):aX (az.f x) cB 0 x.vBad (fun y=>az.f (⟨y,x.vNeg,x.vW⟩:ap)):=
 aX.of ([]) ((cB).f x.vNeg++(al_cV).f x.vW) (by first|rfl|(simp[al_cV.h,cB.h];first|rfl|done)) (by first|rfl|simp[az,cI,cB,cS,cL,fy]) (fun y=>by first|rfl|simp[az,cI,cB,cS,cL,fy])
theorem oS(x:ap):aX (az.f x) cB 1 x.vNeg (fun y=>az.f (⟨x.vBad,y,x.vW⟩:ap)):=
 aX.of ((cB).f x.vBad) ((al_cV).f x.vW) (by first|rfl|(simp[al_cV.h,cB.h];first|rfl|done)) (by first|rfl|simp[az,cI,cB,cS,cL,fy]) (fun y=>by first|rfl|simp[az,cI,cB,cS,cL,fy])
theorem oR(x:ap):aX (az.f x) al_cV 2 x.vW (fun y=>az.f (⟨x.vBad,x.vNeg,y⟩:ap)):=
 aX.of ((cB).f x.vBad++(cB).f x.vNeg) ([]) (by first|rfl|(simp[al_cV.h,cB.h];first|rfl|done)) (by first|rfl|simp[az,cI,cB,cS,cL,fy]) (fun y=>by first|rfl|simp[az,cI,cB,cS,cL,fy])
section
variable {md:Md} {ops:Array Oper} {K:List (Nat×D)→Hp→Prop} {os:List Oper} {tm:List (Nat×D)} {hp hp':Hp} {t s:Tmp} {op:Op} {ty:TypeId} {pos:String} {af:Array Edge} {d d2:D} {j:Nat} {want c:Bool}
variable {dr:Bool} {ev:Operand→D}
theorem av(h:AVC prog tbl dr op ty ev hp (Kq d hp'):=by (first|exact T_mv|exact mi|exact S6|exact Mt|exact A_str|exact SM|exact M_bool|exact M_str|exact Gk|exact Ev|exact Sn|exact Mb|exact T_nilF|exact Su|exact Sy|exact Sh|exact Sp|exact Sv|exact So|exact Sq|exact Sr|exact Ss|exact St|exact T_seql|exact T_sneq|exact Mf uh|exact Me uh|exact T_and|exact T_or|exact T_xor|exact T_neg|exact K_shl|exact K_shr|exact K_quo|exact K_rem|exact SS|exact ST|exact Sw tbI tbI|exact T_cvS tbI tbI|exact SR|exact T_lenS tbI|exact T_lenA tbI|exact SQ|exact Nv|exact T_max|exact Sx|exact KT_T|exact KT_F|exact KT_A|exact KT_S|exact KV_i)):AVC prog tbl dr op ty ev hp (Kq d hp'):=h
theorem avi(h:AVC prog tbl dr op ty ev hp (Kq d hp'):=by (first|exact av|exact KV_l (aX.id _ _)|exact lB (F:=al_cV.f (cQ)) da|exact qU (oS _) tbI|exact qU (tw _) tbI|exact nq (oR _) tbI|exact KV_l (oR _)|exact lB (F:=az.f (⟨false,false,(cQ)⟩:ap)) iO|exact bK tbI|exact bp tbI)):AVC prog tbl dr op ty ev hp (Kq d hp'):=h
theorem sbi(h2:ba prog tbl md ops K os ((t,d)::tm) hp')(h:AVC prog tbl md.dr op ty (evD tm) hp (Kq d hp'):=by exact avi)(hn:md.nc tbl op=true:=by exact rfl):ba prog tbl md ops K (⟨some t,op,ty,pos,af,none⟩::os) tm hp:=st tok hn h h2
theorem tzi(h2:ba prog tbl md ops K os tm hp')(h:AVC prog tbl md.dr op ty (evD tm) hp (Kq .top hp'):=by (first|exact KV_s))(hn:md.nc tbl op=true:=by exact rfl):ba prog tbl md ops K (⟨none,op,ty,pos,af,none⟩::os) tm hp:=st_n tok hn h h2
theorem gbi(h2:ba prog tbl md ops K os ((t,d)::tm) hp')(hj:(ops[j]?).bind (·.dst)=some s:=by exact rfl)(hc:tm.lookup s=some (.e (.lit (.bool c))):=by exact rfl)(hw:c=want:=by (with_reducible first|rfl|assumption))(h:AVC prog tbl md.dr op ty (evD tm) hp (Kq d hp'):=by exact avi)(hn:md.nc tbl op=true:=by exact rfl):ba prog tbl md ops K (⟨some t,op,ty,pos,af,some (j,want)⟩::os) tm hp:=OE tok hn hj hc hw h h2
theorem mbi {os':List Oper}{tm':List (Nat×D)}(h2:ba prog tbl md ops K os' tm' hp')(h:ba prog tbl md ops K os' tm' hp'→ba prog tbl md ops K os tm hp:=by (intro h;(repeat (first|refine sbi ?_|refine tzi ?_|refine gbi ?_|refine I3 ?_));exact h)):ba prog tbl md ops K os tm hp:=h h2
theorem nbi {R:List (Nat×D)→Hp→Prop}{tm':List (Nat×D)}(hK:∀tm hp,R tm hp→K tm hp)(h2:R tm' hp')(h:K tm' hp'→ba prog tbl md ops K os tm hp:=by (intro h;(repeat (first|refine sbi ?_|refine tzi ?_|refine gbi ?_|refine I3 ?_));exact .nil h)):ba prog tbl md ops K os tm hp:=h (hK _ _ h2)
end
section
variable {x:Cx} {tm:List (Nat×D)} {hp hp':Hp} {Q:Exit→List (Nat×D)→Hp→Prop}
theorem rai {n id:Nat}{l:List Oper}{b:Code}{tm':List (Nat×D)}(hx:x.N=n)(h2:AW prog x b tm' hp' Q)(h:∀K:List (Nat×D)→Hp→Prop,K tm' hp'→ba prog tbl .seq l.toArray K l tm hp:=by (intro K h;(repeat (first|refine sbi ?_|refine tzi ?_|refine gbi ?_|refine I3 ?_));exact .nil h))(hN:iZ n l.toArray=true:=by kernel_rfl):AW prog x (.seq (.region id l.toArray false) b) tm hp Q:=rs hx (fun K hK=>h K (hK _ _ h2)) hN
theorem rbi {n id:Nat}{l:List Oper}{tm':List (Nat×D)}(hx:x.N=n)(h2:Q .normal tm' hp')(h:∀K:List (Nat×D)→Hp→Prop,K tm' hp'→ba prog tbl .seq l.toArray K l tm hp:=by (intro K h;(repeat (first|refine sbi ?_|refine tzi ?_|refine gbi ?_|refine I3 ?_));exact .nil h))(hN:iZ n l.toArray=true:=by kernel_rfl):AW prog x (.region id l.toArray false) tm hp Q:=rq hx (fun K hK=>h K (hK _ _ h2)) hN
end
def mm(bS:ap):Option Bool:=bnd (some (decide (bS.vW=#v[(0:Int),0,0,0,0,0,0,0,0,0,0,0,0,0,0,0]))) fun x1=>cnd bS.vBad (bnd (S:=Bool) (cnd x1 (some (!bS.vNeg)) (some (false))) fun pj=>some pj) (bnd (S:=Bool) (cnd (!x1) (some (true)) (some (!bS.vNeg))) fun gx=>some gx)
theorem xK {bS:ap}{r:Bool}(h:mm bS=some r):ax prog 129 [dG az bS] (dB r):=by
 refine bn (rs:=[.tmp 2]) (fun cx hx h0=>?_) func129
 unfold mm at h
 refine ra hx ?_
 refine rs hx fun K hK=>?_
 iterate 2 refine sbi ?_
 refine s1 (d:=dG al_cV (#v[(0:Int),0,0,0,0,0,0,0,0,0,0,0,0,0,0,0])) (nt da bX) ?_
 refine s1 (yT tok 2 (by decide) (EqC.arr (EqC.int (d:=0) bX) da bX) da) ?_
 obtain⟨x1,Cf,h⟩:=ah h
 replace Cf:=d5 Cf
 refine s2 (d2:=dB x1) mi (gD (congrArg dB Cf)) ?_
 refine nl hK ?_
 refine AW.seq (rai hx ?_)
 refine cdh h rfl (fun cj h=>?_) (fun cj h=>?_)
 refine AW.seq ?_
 obtain⟨pj,hy,h⟩:=ah h
 refine jn ((PE cx .normal (fun pj=>[(2,dB pj)]) fun pj=>⟨[],[],0⟩) pj) ?_ ?_
 replace h:=hy
 refine rq hx fun K hK=>?_
 refine mbi ?_
 rcases bE h with⟨yE,h⟩|⟨yE,h⟩
 refine nbi hK ?_
 exact pe1 h h0 []
 refine nbi hK ?_
 exact pe1 h h0 []
 refine lw0 ?_
 exact AW.ret (rtv h)
 refine AW.skip (AW.seq ?_)
 obtain⟨gx,hy,h⟩:=ah h
 refine jn ((PE cx .normal (fun gx=>[(2,dB gx)]) fun gx=>⟨[],[],0⟩) gx) ?_ ?_
 replace h:=hy
 refine rq hx fun K hK=>?_
 refine mbi ?_
 rcases bE h with⟨lZ,h⟩|⟨lZ,h⟩
 refine nbi hK ?_
 exact pe1 h h0 []
 refine nbi hK ?_
 exact pe1 h h0 []
 refine lw0 ?_
 exact AW.ret (rtv h)
def eL :Option ap:=some (⟨true,false,(cQ)⟩:ap)
theorem iz  {r:ap}(h:eL=some r):ax prog 109 [] (dG az r):=by
 refine bn (rs:=[.cell 0 32]) (fun cx hx h0=>?_) func109
 unfold eL at h
 refine rai hx ?_
 refine rs hx fun K hK=>?_
 refine s1 (d:=dG az (⟨true,false,(cQ)⟩:ap)) (eT (FL.cons (y:=true) (tw cE) rfl rfl (FL.nil _)) iO) ?_
 refine nbi hK ?_
 exact AW.ret (rtv h)
def ox(io:List ap):Int→Option (Int⊕(Bool⊕Unit)):=fun aU=>cnd (decide (aU<((io).length:Int))) (gd (0≤aU∧aU<((io).length:Int)) (bnd (S:=Bool) (cnd (((io)[(aU).toNat]!).vBad) (some (true)) (bnd (mm ((io)[(aU).toNat]!)) fun x5=>some (!x5))) fun bz=>cnd bz (some (.inr (.inl false))) (some (.inl (i64.wrap (aU+(1:Int))))))) (some (.inr (.inr ())))
def dM(io:List ap):Option Bool:=bnd (aK (ox io) (0:Int)) fun y9=>match y9 with| .inl r=>some r| .inr ()=>some true
theorem ij {io:List ap}{r:Bool}(h:dM io=some r):ax prog 110 [dL az io] (dB r):=by
 refine bn (rs:=[.tmp 2]) (fun cx hx h0=>?_) func110
 unfold dM at h
 refine ra hx ?_
 refine AW.seq (ra hx ?_)
 refine AW.block ?_
 obtain⟨y,hy,h⟩:=ah h
 refine lp (S:=Int) (X:=Bool⊕Unit) (fun aU=>[(5,dL az io),(6,dI .i64 ((io).length:Int)),(7,dI .i64 aU)]) (fun aU=>⟨[],[],0⟩) (PS (PR [.tmp 2] fun r=>dB r) (PE cx (.exit 0) (fun ()=>[]) fun ()=>⟨[],[],0⟩)) hy ?_ ?_ ?_
 exact wk0 h0 []
 clear hy h
 rintro aU y h
 dsimp only[ox] at h
 refine ra hx ?_
 refine AW.seq (cdh h rfl (fun eF h=>?_) (fun eF h=>?_))
 refine AW.skip (AW.seq (AW.block (rs hx fun K hK=>?_)))
 obtain⟨rk,h⟩:=am h
 have xE:(aU).toNat<(io).length:=by omega
 refine sbi ?_
 refine s1 (d:=dG az ((io)[(aU).toNat]!)) (gk (c:=az) (l:=io) (n:=(aU).toNat) (o:=0) iO xE (cH _ _ rfl)) ?_
 refine nbi hK ?_
 refine AW.seq ?_
 obtain⟨bz,hy,h⟩:=ah h
 refine jn ((PE cx .normal (fun bz=>[(5,dL az io),(6,dI .i64 ((io).length:Int)),(7,dI .i64 aU),(17,dB bz)]) fun bz=>⟨[],[],0⟩) bz) ?_ ?_
 replace h:=hy
 refine rq hx fun K hK=>?_
 refine mbi ?_
 rcases bE h with⟨yE,h⟩|⟨yE,h⟩
 refine nbi hK ?_
 exact pe1 h h0 []
 refine gbi ?_
 refine gcb h xK fun x5 h=>?_
 refine nbi hK ?_
 exact pe1 h h0 []
 refine lw0 ?_
 refine cdh h rfl (fun Bd h=>?_) (fun Bd h=>?_)
 refine ra hx ?_
 refine AW.ret ?_
 cases h
 refine PS.r ⟨by nofun,PS.l (PR.i ?_)⟩
 exact rv1
 refine AW.skip (rb hx ?_)
 exact pel h h0 []
 exact AW.exit (peq h h0 [])
 rcases y with r|⟨⟩
 rintro ex tm' hp' ⟨rfl,hw⟩
 cases h
 exact hw
 refine lwr ?_
 refine ra hx ?_
 exact AW.ret (rtv h)
def bO(zD:Bool)(tR:Vector Int 16):Option ap:=bnd (S:=ap) (cnd zD (bnd (some ((⟨false,decide (¬(tR=#v[(0:Int),0,0,0,0,0,0,0,0,0,0,0,0,0,0,0])),tR⟩:ap))) fun x2=>some (x2)) (some ((⟨false,false,tR⟩:ap)))) fun gP=>some gP
theorem dW {zD:Bool}{tR:Vector Int 16}{r:ap}(h:bO zD tR=some r):ax prog 111 [dB zD,dG al_cV tR] (dG az r):=by
 refine bn (rs:=[.cell 4 32]) (fun cx hx h0=>?_) func111
 unfold bO at h
 refine rai hx ?_
 refine AW.seq ?_
 obtain⟨gP,hy,h⟩:=ah h
 refine jn ((PE cx .normal (fun gP=>[(4,.pt 0 0)]) fun gP=>⟨[(0,dC (az.f gP))],[],1⟩) gP) ?_ ?_
 replace h:=hy
 refine rqd [] hx fun K hK=>?_
 refine mbi ?_
 rcases bE h with⟨eF,h⟩|⟨eF,h⟩
 refine gbi ?_
 refine g1 (d:=dG al_cV (#v[(0:Int),0,0,0,0,0,0,0,0,0,0,0,0,0,0,0])) eF (nt da bX) ?_
 refine g1 eF (wY tok 2 (by decide) (EqC.arr (EqC.int (d:=0) bX) da bX) da) ?_
 iterate 2 refine sbi ?_
 refine s1 (d:=dG az (⟨false,decide (¬(tR=#v[(0:Int),0,0,0,0,0,0,0,0,0,0,0,0,0,0,0])),tR⟩:ap)) (eT (FL.cons (y:=decide (¬(tR=#v[(0:Int),0,0,0,0,0,0,0,0,0,0,0,0,0,0,0]))) (oS cE) rfl rfl (FL.cons (y:=tR) (oR (⟨false,decide (¬(tR=#v[(0:Int),0,0,0,0,0,0,0,0,0,0,0,0,0,0,0])),(cQ)⟩:ap)) rfl rfl (FL.nil _))) iO) ?_
 obtain⟨x2,Qn,h⟩:=ah h
 replace Qn:=d5 Qn
 refine s0 (fq (b':=(⟨false,decide (¬(tR=#v[(0:Int),0,0,0,0,0,0,0,0,0,0,0,0,0,0,0])),tR⟩:ap)) (aX.id _ _) iO Qn) ?_
 refine nl hK ?_
 exact pe1 h h0 [1]
 iterate 3 refine aT rfl rfl eF ?_
 iterate 2 refine sbi ?_
 refine s1 (d:=dG az (⟨false,false,tR⟩:ap)) (eT (FL.cons (y:=false) (oS cE) rfl rfl (FL.cons (y:=tR) (oR cE) rfl rfl (FL.nil _))) iO) ?_
 refine nbi hK ?_
 exact pe1 h h0 [1]
 refine lw0 ?_
 exact AW.ret (rtv h)
def fE(bF:Int):Option ap:=bnd (S:=Int) (cnd (decide (bF<(0:Int))) (some (u64.wrap (0 - (u64.wrap (bF))))) (some (u64.wrap (bF)))) fun jT=>bnd (bO (decide (bF<(0:Int))) (#v[u32.wrap (jT),u32.wrap (mX .u64 jT (32:Int)),0,0,0,0,0,0,0,0,0,0,0,0,0,0])) fun x3=>some x3
theorem oA {bF:Int}{r:ap}(h:fE bF=some r):ax prog 105 [dI .i64 bF] (dG az r):=by
 refine bn (rs:=[.cell 2 32]) (fun cx hx h0=>?_) func105
 unfold fE at h
 refine rai hx ?_
 refine ra hx ?_
 refine AW.seq ?_
 obtain⟨jT,hy,h⟩:=ah h
 refine jn ((PE cx .normal (fun jT=>[(0,dI .i64 bF),(2,.pt 0 0),(3,dI .u64 jT)]) fun jT=>⟨[(0,dC (az.f cE))],[],1⟩) jT) ?_ ?_
 replace h:=hy
 refine ra hx ?_
 refine cdh h rfl (fun eF h=>?_) (fun eF h=>?_)
 refine rb hx ?_
 exact pe1 h h0 [0]
 exact AW.skip (pe1 h h0 [0])
 refine lw0 ?_
 refine rs hx fun K hK=>?_
 iterate 7 refine sa ?_
 refine s1 (d:=dG al_cV (#v[u32.wrap (jT),u32.wrap (mX .u64 jT (32:Int)),0,0,0,0,0,0,0,0,0,0,0,0,0,0])) (nt da bX) ?_
 refine scb h dW fun x3 h=>?_
 refine nbi hK ?_
 exact AW.ret (rtv h)
def l4(tR:Vector Int 16):Int→Option (Int⊕Int):=fun aU=>bnd (S:=Bool) (cnd (decide ((0:Int)<aU)) (gd (0≤i64.wrap (aU - (1:Int))∧i64.wrap (aU - (1:Int))<16) (some (decide (((tR)[(i64.wrap (aU - (1:Int))).toNat]!)=(0:Int))))) (some (false))) fun pj=>cnd pj (some (.inl (i64.wrap (aU - (1:Int))))) (some (.inr aU))
def eU(tR:Vector Int 16):Option Int:=bnd (aK (l4 tR) (16:Int)) fun p7=>some p7
theorem lD {tR:Vector Int 16}{r:Int}(h:eU tR=some r):ax prog 128 [dG al_cV tR] (dI .i64 r):=by
 refine bn (rs:=[.tmp 2]) (fun cx hx h0=>?_) func128
 unfold eU at h
 iterate 2 refine ra hx ?_
 refine AW.seq (AW.block ?_)
 obtain⟨p7,hy,h⟩:=ah h
 refine lp (S:=Int) (X:=Int) (fun aU=>[(1,.pt 0 0),(3,dI .i64 aU)]) (fun aU=>⟨[(0,dC (al_cV.f tR))],[],1⟩) (PE cx (.exit 0) (fun p7=>[(3,dI .i64 p7)]) fun p7=>⟨[],[],0⟩) hy ?_ ?_ ?_
 exact wk0 h0 [0]
 clear hy h
 rintro aU y h
 dsimp only[l4] at h
 iterate 2 refine AW.seq ?_
 obtain⟨pj,hy,h⟩:=ah h
 refine jn ((PE cx .normal (fun pj=>[(1,.pt 0 0),(3,dI .i64 aU),(12,dB pj)]) fun pj=>⟨[(0,dC (al_cV.f tR))],[],1⟩) pj) ?_ ?_
 replace h:=hy
 refine rq hx fun K hK=>?_
 refine mbi ?_
 rcases bE h with⟨eF,h⟩|⟨eF,h⟩
 iterate 2 refine ga eF ?_
 obtain⟨rk,h⟩:=am h
 refine nbi hK ?_
 exact pe1 h h0 [0]
 refine nbi hK ?_
 exact pe1 h h0 [0]
 refine lw0 ?_
 refine cdh h rfl (fun pI h=>?_) (fun pI h=>?_)
 refine AW.skip (AW.block (rb hx ?_))
 exact pel h h0 [0]
 exact AW.exit (per h h0 [])
 refine lw0 ?_
 refine ra hx ?_
 exact AW.ret (rtv h)
def nP(bS:Int):Option Int:=bnd (S:=Int×Int) (cnd (decide ((65536:Int)≤bS)) (some ((mX .u32 bS (16:Int),(16:Int)))) (some ((bS,(0:Int))))) fun (gP,H6)=>bnd (S:=Int×Int) (cnd (decide ((256:Int)≤gP)) (some ((mX .u32 gP (8:Int),i64.wrap (H6+(8:Int))))) (some ((gP,H6)))) fun (mg,Es)=>gd (0≤u8.wrap (mg)∧u8.wrap (mg)<((⟨#[0,1,2,2,3,3,3,3,4,4,4,4,4,4,4,4,5,5,5,5,5,5,5,5,5,5,5,5,5,5,5,5,6,6,6,6,6,6,6,6,6,6,6,6,6,6,6,6,6,6,6,6,6,6,6,6,6,6,6,6,6,6,6,6,7,7,7,7,7,7,7,7,7,7,7,7,7,7,7,7,7,7,7,7,7,7,7,7,7,7,7,7,7,7,7,7,7,7,7,7,7,7,7,7,7,7,7,7,7,7,7,7,7,7,7,7,7,7,7,7,7,7,7,7,7,7,7,7,8,8,8,8,8,8,8,8,8,8,8,8,8,8,8,8,8,8,8,8,8,8,8,8,8,8,8,8,8,8,8,8,8,8,8,8,8,8,8,8,8,8,8,8,8,8,8,8,8,8,8,8,8,8,8,8,8,8,8,8,8,8,8,8,8,8,8,8,8,8,8,8,8,8,8,8,8,8,8,8,8,8,8,8,8,8,8,8,8,8,8,8,8,8,8,8,8,8,8,8,8,8,8,8,8,8,8,8,8,8,8,8,8,8,8,8,8,8,8,8,8,8,8,8,8,8,8,8]⟩:ByteArray).size:Int)) (bnd (some (i64.wrap (Es+(i64.wrap (sAt (⟨#[0,1,2,2,3,3,3,3,4,4,4,4,4,4,4,4,5,5,5,5,5,5,5,5,5,5,5,5,5,5,5,5,6,6,6,6,6,6,6,6,6,6,6,6,6,6,6,6,6,6,6,6,6,6,6,6,6,6,6,6,6,6,6,6,7,7,7,7,7,7,7,7,7,7,7,7,7,7,7,7,7,7,7,7,7,7,7,7,7,7,7,7,7,7,7,7,7,7,7,7,7,7,7,7,7,7,7,7,7,7,7,7,7,7,7,7,7,7,7,7,7,7,7,7,7,7,7,7,8,8,8,8,8,8,8,8,8,8,8,8,8,8,8,8,8,8,8,8,8,8,8,8,8,8,8,8,8,8,8,8,8,8,8,8,8,8,8,8,8,8,8,8,8,8,8,8,8,8,8,8,8,8,8,8,8,8,8,8,8,8,8,8,8,8,8,8,8,8,8,8,8,8,8,8,8,8,8,8,8,8,8,8,8,8,8,8,8,8,8,8,8,8,8,8,8,8,8,8,8,8,8,8,8,8,8,8,8,8,8,8,8,8,8,8,8,8,8,8,8,8,8,8,8,8,8,8]⟩:ByteArray) (u8.wrap (mg)).toNat))))) fun x6=>some x6)
theorem zu {bS:Int}{r:Int}(h:nP bS=some r):ax prog 179 [dI .u32 bS] (dI .i64 r):=by
 refine bn (rs:=[.tmp 2]) (fun cx hx h0=>?_) func179
 unfold nP at h
 refine ra hx ?_
 refine AW.seq ?_
 obtain⟨y,hy,h⟩:=ah h
 refine jn ((PE cx .normal (fun (gP,H6)=>[(0,dI .u32 gP),(2,dI .i64 H6)]) fun (gP,H6)=>⟨[],[],0⟩) y) ?_ ?_
 replace h:=hy
 refine ra hx ?_
 refine cdh h rfl (fun eF h=>?_) (fun eF h=>?_)
 refine ra hx ?_
 refine rb hx ?_
 exact pe1 h h0 []
 exact AW.skip (pe1 h h0 [])
 obtain⟨gP,H6⟩:=y
 refine lw0 ?_
 refine AW.seq ?_
 obtain⟨y,hy,h⟩:=ah h
 refine jn ((PE cx .normal (fun (mg,Es)=>[(0,dI .u32 mg),(2,dI .i64 Es)]) fun (mg,Es)=>⟨[],[],0⟩) y) ?_ ?_
 replace h:=hy
 refine ra hx ?_
 refine cdh h rfl (fun cj h=>?_) (fun cj h=>?_)
 refine ra hx ?_
 refine rb hx ?_
 exact pe1 h h0 []
 exact AW.skip (pe1 h h0 [])
 obtain⟨mg,Es⟩:=y
 refine lw0 ?_
 refine rs hx fun K hK=>?_
 iterate 3 refine sa ?_
 obtain⟨FQ,h⟩:=am h
 refine s1 (T_ixS FQ tb_9) ?_
 iterate 2 refine sa ?_
 obtain⟨x6,tV,h⟩:=ah h
 replace tV:=d5 tV
 refine s2 (d2:=dI .i64 x6) mi (gD (congrArg (dI .i64) tV)) ?_
 refine nl hK ?_
 exact AW.ret (rtv h)
def pL(bS:ap):Option Int:=bnd (eU bS.vW) fun x1=>bnd (S:=Bool) (bnd (dM [bS]) fun x3=>cnd (!x3) (some (true)) (some (decide (x1=(0:Int))))) fun aU=>cnd aU (some (0:Int)) (gd (0≤i64.wrap (x1 - (1:Int))∧i64.wrap (x1 - (1:Int))<16) (bnd (nP ((bS.vW)[(i64.wrap (x1 - (1:Int))).toNat]!)) fun iM=>some (i64.wrap ((i64.wrap ((32:Int)*(i64.wrap (x1 - (1:Int)))))+iM))))
theorem Gr {bS:ap}{r:Int}(h:pL bS=some r):ax prog 180 [dG az bS] (dI .i64 r):=by
 refine bn (rs:=[.tmp 2]) (fun cx hx h0=>?_) func180
 unfold pL at h
 refine ra hx ?_
 refine rs hx fun K hK=>?_
 refine mbi ?_
 refine scb h lD fun x1 h=>?_
 refine nbi hK ?_
 iterate 2 refine AW.seq ?_
 obtain⟨aU,hy,h⟩:=ah h
 refine jn ((PE cx .normal (fun aU=>[(1,.pt 0 0),(3,dI .i64 x1),(14,dB aU)]) fun aU=>⟨[(0,dC (az.f bS))],[],1⟩) aU) ?_ ?_
 replace h:=hy
 refine rq hx fun K hK=>?_
 refine sbi ?_
 refine s1 (s8 ([bS]:List ap) az tQ iO) ?_
 refine scb h ij fun x3 h=>?_
 refine mbi ?_
 rcases bE h with⟨pI,h⟩|⟨pI,h⟩
 refine nbi hK ?_
 exact pe1 h h0 [0]
 refine nbi hK ?_
 exact pe1 h h0 [0]
 refine lw0 ?_
 refine cdh h rfl (fun tX h=>?_) (fun tX h=>?_)
 refine ra hx ?_
 exact AW.ret (rtv h)
 refine AW.skip (rs hx fun K hK=>?_)
 iterate 6 refine sa ?_
 obtain⟨O4,h⟩:=am h
 refine mbi ?_
 refine scb h zu fun iM h=>?_
 refine nbi hK ?_
 exact AW.ret (rtv h)
def mn(bS:ap):Option (Int×Bool):=bnd (S:=Bool) (bnd (dM [bS]) fun x1=>cnd (!x1) (some (true)) (bnd (pL bS) fun x4=>some (decide ((64:Int)<x4)))) fun a8=>cnd a8 (some ((0:Int),false)) (bnd (some (ior .u64 (yB .u64 (u64.wrap ((bS.vW)[((1:Int)).toNat]!)) (32:Int)) (u64.wrap ((bS.vW)[((0:Int)).toNat]!)))) fun iM=>bnd (S:=Bool) (cnd bS.vNeg (some (decide (iM≤(9223372036854775808:Int)))) (some (false))) fun Gi=>cnd Gi (some (i64.wrap (u64.wrap (0 - iM)),true)) (bnd (S:=Bool) (cnd (!bS.vNeg) (some (decide (iM<(9223372036854775808:Int)))) (some (false))) fun iH=>cnd iH (some (i64.wrap (iM),true)) (some ((0:Int),false))))
theorem xL {bS:ap}{r:Int×Bool}(h:mn bS=some r):ax prog 176 [dG az bS] (.tu [dI .i64 r.1,dB r.2]):=by
 refine bn (rs:=[.tmp 2,.tmp 3]) (fun cx hx h0=>?_) func176
 unfold mn at h
 refine ra hx ?_
 iterate 2 refine AW.seq ?_
 obtain⟨a8,hy,h⟩:=ah h
 refine jn ((PE cx .normal (fun a8=>[(1,.pt 0 0),(13,dB a8)]) fun a8=>⟨[(0,dC (az.f bS))],[],1⟩) a8) ?_ ?_
 replace h:=hy
 refine rq hx fun K hK=>?_
 refine sbi ?_
 refine s1 (s8 ([bS]:List ap) az tQ iO) ?_
 refine scb h ij fun x1 h=>?_
 refine mbi ?_
 rcases bE h with⟨cj,h⟩|⟨cj,h⟩
 refine nbi hK ?_
 exact pe1 h h0 [0]
 refine gbi ?_
 refine gcb h Gr fun x4 h=>?_
 refine nbi hK ?_
 exact pe1 h h0 [0]
 refine lw0 ?_
 refine cdh h rfl (fun tX h=>?_) (fun tX h=>?_)
 refine ra hx ?_
 refine AW.ret ?_
 cases h
 exact rv2
 refine AW.skip (rs hx fun K hK=>?_)
 refine sa ?_
 refine s1 (vU (by decide:0≤(1:Int)∧(1:Int)<((16:Nat):Int)) da bX) ?_
 iterate 4 refine sbi ?_
 refine s1 (vU (by decide:0≤(0:Int)∧(0:Int)<((16:Nat):Int)) da bX) ?_
 iterate 3 refine sbi ?_
 obtain⟨iM,Cg,h⟩:=ah h
 replace Cg:=d5 Cg
 refine s2 (d2:=dI .u64 iM) mi (gD (congrArg (dI .u64) Cg)) ?_
 refine nl hK ?_
 refine AW.seq (AW.block (AW.seq ?_))
 obtain⟨Gi,hy,h⟩:=ah h
 refine jn ((PE cx .normal (fun Gi=>[(1,.pt 0 0),(4,dI .u64 iM),(24,dB Gi)]) fun Gi=>⟨[(0,dC (az.f bS))],[],1⟩) Gi) ?_ ?_
 replace h:=hy
 refine rq hx fun K hK=>?_
 refine mbi ?_
 rcases bE h with⟨wB,h⟩|⟨wB,h⟩
 refine nbi hK ?_
 exact pe1 h h0 [0]
 refine nbi hK ?_
 exact pe1 h h0 [0]
 refine lw0 ?_
 refine cdh h rfl (fun u7 h=>?_) (fun u7 h=>?_)
 refine ra hx ?_
 refine AW.ret ?_
 cases h
 exact rv2
 refine AW.seq ?_
 obtain⟨iH,hy,h⟩:=ah h
 refine jn ((PE cx .normal (fun iH=>[(4,dI .u64 iM),(34,dB iH)]) fun iH=>⟨[],[],0⟩) iH) ?_ ?_
 replace h:=hy
 refine rq hx fun K hK=>?_
 refine mbi ?_
 rcases bE h with⟨Hg,h⟩|⟨Hg,h⟩
 refine nbi hK ?_
 exact pe1 h h0 []
 refine nbi hK ?_
 exact pe1 h h0 []
 refine lw0 ?_
 refine cdh h rfl (fun yF h=>?_) (fun yF h=>?_)
 refine ra hx ?_
 refine AW.ret ?_
 cases h
 exact rv2
 refine AW.skip (ra hx ?_)
 refine AW.ret ?_
 cases h
 exact rv2
def gt(bS:Int):Option Bool:=some (decide (bS≠bS))
theorem sC {bS:Int}{r:Bool}(h:gt bS=some r):ax prog 181 [dI .u32 bS] (dB r):=by
 refine bn (rs:=[.tmp 2]) (fun cx hx h0=>?_) func181
 unfold gt at h
 iterate 2 refine ra hx ?_
 exact AW.ret (rtv h)
def gM(bS:Int)(od:Int):Option Int:=bnd (gt bS) fun x1=>bnd (gt od) fun x3=>cnd x1 (cnd x3 (some (0:Int)) (some (-1:Int))) (cnd x3 (some (1:Int)) (cnd (decide (bS<od)) (some (-1:Int)) (cnd (decide (od<bS)) (some (1:Int)) (some (0:Int)))))
theorem wn {bS:Int}{od:Int}{r:Int}(h:gM bS od=some r):ax prog 178 [dI .u32 bS,dI .u32 od] (dI .i64 r):=by
 refine bn (rs:=[.tmp 4]) (fun cx hx h0=>?_) func178
 unfold gM at h
 refine ra hx ?_
 refine rs hx fun K hK=>?_
 refine sa ?_
 refine scb h sC fun x1 h=>?_
 refine nbi hK ?_
 refine rs hx fun K hK=>?_
 refine sa ?_
 refine scb h sC fun x3 h=>?_
 refine nbi hK ?_
 refine AW.seq (ra hx ?_)
 refine cdh h rfl (fun pI h=>?_) (fun pI h=>?_)
 refine AW.seq (ra hx ?_)
 refine cdh h rfl (fun lZ h=>?_) (fun lZ h=>?_)
 refine ra hx ?_
 exact AW.ret (rtv h)
 refine AW.skip (ra hx ?_)
 exact AW.ret (rtv h)
 refine AW.skip (AW.seq (ra hx ?_))
 refine cdh h rfl (fun tX h=>?_) (fun tX h=>?_)
 refine ra hx ?_
 exact AW.ret (rtv h)
 refine AW.skip (AW.seq (ra hx ?_))
 refine cdh h rfl (fun Bd h=>?_) (fun Bd h=>?_)
 refine ra hx ?_
 exact AW.ret (rtv h)
 refine AW.skip (AW.seq (ra hx ?_))
 refine cdh h rfl (fun G6 h=>?_) (fun G6 h=>?_)
 refine ra hx ?_
 exact AW.ret (rtv h)
 refine AW.skip (ra hx ?_)
 exact AW.ret (rtv h)
def kB(a6:Vector Int 16)(aZ:Vector Int 16):Int→Option (Int⊕(Int⊕Unit)):=fun aU=>cnd (decide ((0:Int)≤aU)) (gd (0≤aU∧aU<16) (gd (0≤aU∧aU<16) (cnd (decide (((a6)[(aU).toNat]!)≠((aZ)[(aU).toNat]!))) (gd (0≤aU∧aU<16) (gd (0≤aU∧aU<16) (bnd (gM ((a6)[(aU).toNat]!) ((aZ)[(aU).toNat]!)) fun fU=>some (.inr (.inl fU))))) (some (.inl (i64.wrap (aU - (1:Int)))))))) (some (.inr (.inr ())))
def ml(a6:Vector Int 16)(aZ:Vector Int 16):Option Int:=bnd (aK (kB a6 aZ) (15:Int)) fun y13=>match y13 with| .inl r=>some r| .inr ()=>some (0:Int)
theorem xJ {a6:Vector Int 16}{aZ:Vector Int 16}{r:Int}(h:ml a6 aZ=some r):ax prog 161 [dG al_cV a6,dG al_cV aZ] (dI .i64 r):=by
 refine bn (rs:=[.tmp 4]) (fun cx hx h0=>?_) func161
 unfold ml at h
 refine ra hx ?_
 refine AW.seq (ra hx ?_)
 refine AW.block ?_
 obtain⟨y,hy,h⟩:=ah h
 refine lp (S:=Int) (X:=Int⊕Unit) (fun aU=>[(2,.pt 0 0),(3,.pt 1 0),(5,dI .i64 aU)]) (fun aU=>⟨[(0,dC (al_cV.f a6)),(1,dC (al_cV.f aZ))],[],2⟩) (PS (PR [.tmp 4] fun r=>dI .i64 r) (PE cx (.exit 0) (fun ()=>[]) fun ()=>⟨[],[],0⟩)) hy ?_ ?_ ?_
 exact wk0 h0 [0,1]
 clear hy h
 rintro aU y h
 dsimp only[kB] at h
 refine AW.seq (ra hx ?_)
 refine cdh h rfl (fun eF h=>?_) (fun eF h=>?_)
 refine AW.skip (AW.seq (AW.block (rsd [] hx fun K hK=>?_)))
 refine sa ?_
 obtain⟨rk,h⟩:=am h
 iterate 3 refine sbi ?_
 obtain⟨Ck,h⟩:=am h
 refine nbi hK ?_
 refine cdh h rfl (fun lZ h=>?_) (fun lZ h=>?_)
 refine rsd [178] hx fun K hK=>?_
 refine sa ?_
 obtain⟨hc7,h⟩:=am h
 iterate 3 refine sbi ?_
 obtain⟨hc9,h⟩:=am h
 refine mbi ?_
 refine cqb h wn fun fU h=>?_
 refine nbi hK ?_
 refine AW.ret ?_
 cases h
 refine PS.r ⟨by nofun,PS.l (PR.i ?_)⟩
 exact rv1
 refine AW.skip (rb hx ?_)
 exact pel h h0 [0,1]
 exact AW.exit (peq h h0 [])
 rcases y with r|⟨⟩
 rintro ex tm' hp' ⟨rfl,hw⟩
 cases h
 exact hw
 refine lwr ?_
 refine ra hx ?_
 exact AW.ret (rtv h)
def kA(a6:Vector Int 16)(aZ:Vector Int 16):Int×Int×(Vector Int 16)→Option ((Int×Int×(Vector Int 16))⊕(Int×(Vector Int 16))):=fun (bo,bm,eu)=>cnd (decide (bm<(16:Int))) (gd (0≤bm∧bm<16) (gd (0≤bm∧bm<16) (bnd (some (u64.wrap (bo+(u64.wrap ((u64.wrap ((a6)[(bm).toNat]!))+(u64.wrap ((aZ)[(bm).toNat]!))))))) fun x6=>gd (0≤bm∧bm<16) (some (.inl (mX .u64 x6 (32:Int),i64.wrap (bm+(1:Int)),(eu).set! (bm).toNat (u32.wrap (x6)))))))) (some (.inr (bo,eu)))
def pJ(a6:Vector Int 16)(aZ:Vector Int 16):Option ((Vector Int 16)×Bool):=bnd (aK (kA a6 aZ) ((0:Int),(0:Int),(cQ))) fun (bw,qf)=>some (qf,decide (bw=(0:Int)))
theorem Gp {a6:Vector Int 16}{aZ:Vector Int 16}{r:(Vector Int 16)×Bool}(h:pJ a6 aZ=some r):ax prog 160 [dG al_cV a6,dG al_cV aZ] (.tu [dG al_cV r.1,dB r.2]):=by
 refine bn (rs:=[.cell 4 30,.tmp 5]) (fun cx hx h0=>?_) func160
 unfold pJ at h
 refine rai hx ?_
 refine rai hx ?_
 refine ra hx ?_
 refine AW.seq (ra hx ?_)
 refine AW.block ?_
 obtain⟨y,hy,h⟩:=ah h
 refine lp (S:=Int×Int×(Vector Int 16)) (X:=Int×(Vector Int 16)) (fun (bo,bm,eu)=>[(2,.pt 0 0),(3,.pt 1 0),(4,.pt 2 0),(6,.pt 3 0),(7,dI .u64 bo),(9,dI .i64 bm)]) (fun (bo,bm,eu)=>⟨[(0,dC (al_cV.f a6)),(1,dC (al_cV.f aZ)),(2,dC (al_cV.f (cQ))),(3,dC (al_cV.f eu))],[],4⟩) (PE cx (.exit 0) (fun (bw,qf)=>[(4,.pt 0 0),(6,.pt 1 0),(7,dI .u64 bw)]) fun (bw,qf)=>⟨[(0,dC (al_cV.f (cQ))),(1,dC (al_cV.f qf))],[],2⟩) hy ?_ ?_ ?_
 exact wk0 h0 [0,1,2,3]
 clear hy h
 rintro⟨bo,bm,eu⟩ y h
 dsimp only[kA] at h
 refine ra hx ?_
 refine AW.seq (cdh h rfl (fun eF h=>?_) (fun eF h=>?_))
 refine AW.skip (AW.seq (AW.block (ra hx ?_)))
 refine rsd [] hx fun K hK=>?_
 iterate 2 refine sa ?_
 obtain⟨rk,h⟩:=am h
 iterate 4 refine sbi ?_
 obtain⟨Ck,h⟩:=am h
 iterate 5 refine sbi ?_
 obtain⟨x6,tV,h⟩:=ah h
 replace tV:=d5 tV
 refine s2 (d2:=dI .u64 x6) mi (gD (congrArg (dI .u64) tV)) ?_
 refine nl hK ?_
 refine rs hx fun K hK=>?_
 iterate 3 refine sa ?_
 obtain⟨O4,h⟩:=am h
 have Ok:(bm).toNat<16:=by omega
 refine sbi ?_
 refine s0 (ig (b':=u32.wrap (x6)) (aX.comp (aX.id _ _) (aX.vec (cI .u32) eu (bm).toNat Ok) (fun _=>rfl)) bX) ?_
 refine nl hK ?_
 iterate 2 refine rb hx ?_
 exact pel h h0 [0,1,2,3]
 exact AW.exit (per h h0 [2,3])
 obtain⟨bw,qf⟩:=y
 refine lw0 ?_
 refine rai hx ?_
 refine AW.ret ?_
 cases h
 exact rv2
def jy(a6:Vector Int 16)(aZ:Vector Int 16):Int×Int×(Vector Int 16)→Option ((Int×Int×(Vector Int 16))⊕((Vector Int 16))):=fun (bo,bm,eu)=>cnd (decide (bm<(16:Int))) (gd (0≤bm∧bm<16) (gd (0≤bm∧bm<16) (bnd (some (u64.wrap ((u64.wrap ((u64.wrap ((a6)[(bm).toNat]!)) - (u64.wrap ((aZ)[(bm).toNat]!)))) - bo))) fun x6=>gd (0≤bm∧bm<16) (some (.inl (mX .u64 x6 (63:Int),i64.wrap (bm+(1:Int)),(eu).set! (bm).toNat (u32.wrap (x6)))))))) (some (.inr eu))
def iB(a6:Vector Int 16)(aZ:Vector Int 16):Option (Vector Int 16):=bnd (aK (jy a6 aZ) ((0:Int),(0:Int),(cQ))) fun bw=>some bw
theorem tP {a6:Vector Int 16}{aZ:Vector Int 16}{r:Vector Int 16}(h:iB a6 aZ=some r):ax prog 162 [dG al_cV a6,dG al_cV aZ] (dG al_cV r):=by
 refine bn (rs:=[.cell 4 30]) (fun cx hx h0=>?_) func162
 unfold iB at h
 refine rai hx ?_
 refine rai hx ?_
 refine ra hx ?_
 refine AW.seq (ra hx ?_)
 refine AW.block ?_
 obtain⟨bw,hy,h⟩:=ah h
 refine lp (S:=Int×Int×(Vector Int 16)) (X:=(Vector Int 16)) (fun (bo,bm,eu)=>[(2,.pt 0 0),(3,.pt 1 0),(4,.pt 2 0),(5,.pt 3 0),(6,dI .u64 bo),(9,dI .i64 bm)]) (fun (bo,bm,eu)=>⟨[(0,dC (al_cV.f a6)),(1,dC (al_cV.f aZ)),(2,dC (al_cV.f (cQ))),(3,dC (al_cV.f eu))],[],4⟩) (PE cx (.exit 0) (fun bw=>[(4,.pt 0 0),(5,.pt 1 0)]) fun bw=>⟨[(0,dC (al_cV.f (cQ))),(1,dC (al_cV.f bw))],[],2⟩) hy ?_ ?_ ?_
 exact wk0 h0 [0,1,2,3]
 clear hy h
 rintro⟨bo,bm,eu⟩ y h
 dsimp only[jy] at h
 refine ra hx ?_
 refine AW.seq (cdh h rfl (fun eF h=>?_) (fun eF h=>?_))
 refine AW.skip (AW.seq (AW.block (ra hx ?_)))
 refine rsd [] hx fun K hK=>?_
 refine sa ?_
 obtain⟨rk,h⟩:=am h
 iterate 4 refine sbi ?_
 obtain⟨Ck,h⟩:=am h
 iterate 6 refine sbi ?_
 obtain⟨x6,tV,h⟩:=ah h
 replace tV:=d5 tV
 refine s2 (d2:=dI .u64 x6) mi (gD (congrArg (dI .u64) tV)) ?_
 refine nl hK ?_
 refine rs hx fun K hK=>?_
 iterate 3 refine sa ?_
 obtain⟨O4,h⟩:=am h
 have Ok:(bm).toNat<16:=by omega
 refine sbi ?_
 refine s0 (ig (b':=u32.wrap (x6)) (aX.comp (aX.id _ _) (aX.vec (cI .u32) eu (bm).toNat Ok) (fun _=>rfl)) bX) ?_
 refine nl hK ?_
 iterate 2 refine rb hx ?_
 exact pel h h0 [0,1,2,3]
 exact AW.exit (per h h0 [2,3])
 refine lw0 ?_
 refine rai hx ?_
 exact AW.ret (rtv h)
def jB(a6:ap)(aZ:ap):Option ap:=bnd (dM [a6,aZ]) fun x1=>cnd (!x1) (bnd (eL) fun x4=>some x4) (cnd (a6.vNeg == aZ.vNeg) (bnd (pJ a6.vW aZ.vW) fun x7=>cnd (!x7.2) (bnd (eL) fun iM=>some iM) (bnd (bO a6.vNeg x7.1) fun jW=>some jW)) (bnd (ml a6.vW aZ.vW) fun nV=>cnd (decide ((0:Int)≤nV)) (bnd (iB a6.vW aZ.vW) fun pk=>bnd (bO a6.vNeg pk) fun uK=>some uK) (bnd (iB aZ.vW a6.vW) fun te=>bnd (bO aZ.vNeg te) fun xx=>some xx)))
theorem BF {a6:ap}{aZ:ap}{r:ap}(h:jB a6 aZ=some r):ax prog 127 [dG az a6,dG az aZ] (dG az r):=by
 refine bn (rs:=[.cell 4 32]) (fun cx hx h0=>?_) func127
 unfold jB at h
 refine rai hx ?_
 refine AW.seq (rs hx fun K hK=>?_)
 iterate 2 refine sbi ?_
 refine s1 (s8 ([a6,aZ]:List ap) az tQ iO) ?_
 refine scb h ij fun x1 h=>?_
 refine nbi hK ?_
 refine cdh h rfl (fun cj h=>?_) (fun cj h=>?_)
 refine rs hx fun K hK=>?_
 refine scb h iz fun x4 h=>?_
 refine nbi hK ?_
 exact AW.ret (rtv h)
 refine AW.skip (AW.seq (rai hx ?_))
 refine cdh h rfl (fun lZ h=>?_) (fun lZ h=>?_)
 refine rs hx fun K hK=>?_
 refine mbi ?_
 refine scb h Gp fun x7 h=>?_
 refine nbi hK ?_
 refine AW.seq (ra hx ?_)
 refine cdh h rfl (fun G6 h=>?_) (fun G6 h=>?_)
 refine rs hx fun K hK=>?_
 refine scb h iz fun iM h=>?_
 refine nbi hK ?_
 exact AW.ret (rtv h)
 refine AW.skip (rs hx fun K hK=>?_)
 refine mbi ?_
 refine scb h dW fun jW h=>?_
 refine nbi hK ?_
 exact AW.ret (rtv h)
 refine AW.skip (AW.seq (rs hx fun K hK=>?_))
 refine mbi ?_
 refine scb h xJ fun nV h=>?_
 refine nbi hK ?_
 refine cdh h rfl (fun DB h=>?_) (fun DB h=>?_)
 refine rsd [162,111] hx fun K hK=>?_
 refine mbi ?_
 refine cqb h tP fun pk h=>?_
 refine cqb h dW fun uK h=>?_
 refine nbi hK ?_
 exact AW.ret (rtv h)
 refine AW.skip (rsd [162,111] hx fun K hK=>?_)
 refine mbi ?_
 refine cqb h tP fun te h=>?_
 refine cqb h dW fun xx h=>?_
 refine nbi hK ?_
 exact AW.ret (rtv h)
def m3(bS:ap):Option ap:=bnd (dM [bS]) fun x1=>cnd (!x1) (bnd (eL) fun x4=>some x4) (bnd (bO (!bS.vNeg) bS.vW) fun x6=>some x6)
theorem v9 {bS:ap}{r:ap}(h:m3 bS=some r):ax prog 66 [dG az bS] (dG az r):=by
 refine bn (rs:=[.cell 2 32]) (fun cx hx h0=>?_) func66
 unfold m3 at h
 refine rai hx ?_
 refine AW.seq (rs hx fun K hK=>?_)
 refine sbi ?_
 refine s1 (s8 ([bS]:List ap) az tQ iO) ?_
 refine scb h ij fun x1 h=>?_
 refine nbi hK ?_
 refine cdh h rfl (fun cj h=>?_) (fun cj h=>?_)
 refine rs hx fun K hK=>?_
 refine scb h iz fun x4 h=>?_
 refine nbi hK ?_
 exact AW.ret (rtv h)
 refine AW.skip (rs hx fun K hK=>?_)
 refine mbi ?_
 refine scb h dW fun x6 h=>?_
 refine nbi hK ?_
 exact AW.ret (rtv h)
def oT(a6:ap)(aZ:ap):Option ap:=bnd (m3 aZ) fun x1=>bnd (jB a6 x1) fun x3=>some x3
theorem Ix {a6:ap}{aZ:ap}{r:ap}(h:oT a6 aZ=some r):ax prog 177 [dG az a6,dG az aZ] (dG az r):=by
 refine bn (rs:=[.cell 4 32]) (fun cx hx h0=>?_) func177
 unfold oT at h
 refine rai hx ?_
 refine rsd [66,127] hx fun K hK=>?_
 refine mbi ?_
 refine cqb h v9 fun x1 h=>?_
 refine cqb h BF fun x3 h=>?_
 refine nbi hK ?_
 exact AW.ret (rtv h)
def ir(bS:ap):Option Int:=bnd (S:=Bool) (bnd (dM [bS]) fun x1=>cnd (!x1) (some (true)) (some (decide (bS.vW=#v[(0:Int),0,0,0,0,0,0,0,0,0,0,0,0,0,0,0])))) fun jT=>cnd jT (some (0:Int)) (cnd bS.vNeg (some (-1:Int)) (some (1:Int)))
theorem po {bS:ap}{r:Int}(h:ir bS=some r):ax prog 92 [dG az bS] (dI .i64 r):=by
 refine bn (rs:=[.tmp 2]) (fun cx hx h0=>?_) func92
 unfold ir at h
 refine ra hx ?_
 refine AW.seq (AW.block (AW.seq ?_))
 obtain⟨jT,hy,h⟩:=ah h
 refine jn ((PE cx .normal (fun jT=>[(1,.pt 0 0),(3,dB jT)]) fun jT=>⟨[(0,dC (az.f bS))],[],1⟩) jT) ?_ ?_
 replace h:=hy
 refine rq hx fun K hK=>?_
 refine sbi ?_
 refine s1 (s8 ([bS]:List ap) az tQ iO) ?_
 refine scb h ij fun x1 h=>?_
 refine mbi ?_
 rcases bE h with⟨cj,h⟩|⟨cj,h⟩
 refine nbi hK ?_
 exact pe1 h h0 [0]
 refine ga cj ?_
 refine gbi ?_
 refine g1 (d:=dG al_cV (#v[(0:Int),0,0,0,0,0,0,0,0,0,0,0,0,0,0,0])) cj (nt da bX) ?_
 refine g1 cj (yT tok 2 (by decide) (EqC.arr (EqC.int (d:=0) bX) da bX) da) ?_
 refine nbi hK ?_
 exact pe1 h h0 [0]
 refine lw0 ?_
 refine cdh h rfl (fun pI h=>?_) (fun pI h=>?_)
 refine ra hx ?_
 exact AW.ret (rtv h)
 refine rai hx ?_
 refine cdh h rfl (fun lZ h=>?_) (fun lZ h=>?_)
 refine ra hx ?_
 exact AW.ret (rtv h)
 refine AW.skip (ra hx ?_)
 exact AW.ret (rtv h)
def mY(tR:Vector Int 16)(bF:Int):Int×Int×(Vector Int 16)→Option ((Int×Int×(Vector Int 16))⊕(Int×(Vector Int 16))):=fun (bo,bm,eu)=>cnd (decide (bm<(16:Int))) (gd (0≤bm∧bm<16) (gd (0≤bF) (bnd (some (ior .u64 bo (yB .u64 (u64.wrap ((tR)[(bm).toNat]!)) bF))) fun x5=>gd (0≤bm∧bm<16) (some (.inl (mX .u64 x5 (32:Int),i64.wrap (bm+(1:Int)),(eu).set! (bm).toNat (u32.wrap (x5)))))))) (some (.inr (bo,eu)))
def qG(tR:Vector Int 16)(bF:Int):Option ((Vector Int 16)×Int):=bnd (aK (mY tR bF) ((0:Int),(0:Int),(cQ))) fun (bw,qf)=>some (qf,u32.wrap (bw))
theorem CM {tR:Vector Int 16}{bF:Int}{r:(Vector Int 16)×Int}(h:qG tR bF=some r):ax prog 165 [dG al_cV tR,dI .i64 bF] (.tu [dG al_cV r.1,dI .u32 r.2]):=by
 refine bn (rs:=[.cell 4 30,.tmp 5]) (fun cx hx h0=>?_) func165
 unfold qG at h
 refine rai hx ?_
 refine rai hx ?_
 refine ra hx ?_
 refine AW.seq (ra hx ?_)
 refine AW.block ?_
 obtain⟨y,hy,h⟩:=ah h
 refine lp (S:=Int×Int×(Vector Int 16)) (X:=Int×(Vector Int 16)) (fun (bo,bm,eu)=>[(1,dI .i64 bF),(2,.pt 0 0),(4,.pt 1 0),(6,.pt 2 0),(7,dI .u64 bo),(9,dI .i64 bm)]) (fun (bo,bm,eu)=>⟨[(0,dC (al_cV.f tR)),(1,dC (al_cV.f (cQ))),(2,dC (al_cV.f eu))],[],3⟩) (PE cx (.exit 0) (fun (bw,qf)=>[(4,.pt 0 0),(6,.pt 1 0),(7,dI .u64 bw)]) fun (bw,qf)=>⟨[(0,dC (al_cV.f (cQ))),(1,dC (al_cV.f qf))],[],2⟩) hy ?_ ?_ ?_
 exact wk0 h0 [0,1,2]
 clear hy h
 rintro⟨bo,bm,eu⟩ y h
 dsimp only[mY] at h
 refine ra hx ?_
 refine AW.seq (cdh h rfl (fun eF h=>?_) (fun eF h=>?_))
 refine AW.skip (AW.seq (AW.block (ra hx ?_)))
 refine rs hx fun K hK=>?_
 iterate 2 refine sa ?_
 obtain⟨rk,h⟩:=am h
 iterate 4 refine sbi ?_
 obtain⟨Ck,h⟩:=am h
 refine s1 (Sm Ck) ?_
 refine sa ?_
 obtain⟨x5,Ce,h⟩:=ah h
 replace Ce:=d5 Ce
 refine s2 (d2:=dI .u64 x5) mi (gD (congrArg (dI .u64) Ce)) ?_
 refine nl hK ?_
 refine rs hx fun K hK=>?_
 iterate 3 refine sa ?_
 obtain⟨hc7,h⟩:=am h
 have hn8:(bm).toNat<16:=by omega
 refine sbi ?_
 refine s0 (ig (b':=u32.wrap (x5)) (aX.comp (aX.id _ _) (aX.vec (cI .u32) eu (bm).toNat hn8) (fun _=>rfl)) bX) ?_
 refine nl hK ?_
 iterate 2 refine rb hx ?_
 exact pel h h0 [0,1,2]
 exact AW.exit (per h h0 [1,2])
 obtain⟨bw,qf⟩:=y
 refine lw0 ?_
 refine rai hx ?_
 refine AW.ret ?_
 cases h
 exact rv2
def l5(tR:Vector Int 16)(bF:Int):Int×(Vector Int 16)→Option ((Int×(Vector Int 16))⊕((Vector Int 16))):=fun (aG,aS)=>cnd (decide (aG<(16:Int))) (bnd (S:=Int) (cnd (decide ((i64.wrap (aG+(1:Int)))<(16:Int))) (gd (0≤i64.wrap (aG+(1:Int))∧i64.wrap (aG+(1:Int))<16) (bnd (some (u64.wrap ((tR)[(i64.wrap (aG+(1:Int))).toNat]!))) fun x5=>some (x5))) (some ((0:Int)))) fun dX=>gd (0≤aG∧aG<16) (gd (0≤bF) (gd (0≤aG∧aG<16) (bnd (some ((aS).set! (aG).toNat (u32.wrap (mX .u64 (ior .u64 (yB .u64 dX (32:Int)) (u64.wrap ((tR)[(aG).toNat]!))) bF)))) fun qz=>some (.inl (i64.wrap (aG+(1:Int)),qz)))))) (some (.inr aS))
def pK(tR:Vector Int 16)(bF:Int):Option (Vector Int 16):=bnd (aK (l5 tR bF) ((0:Int),(cQ))) fun aE=>some aE
theorem Gq {tR:Vector Int 16}{bF:Int}{r:Vector Int 16}(h:pK tR bF=some r):ax prog 169 [dG al_cV tR,dI .i64 bF] (dG al_cV r):=by
 refine bn (rs:=[.cell 4 30]) (fun cx hx h0=>?_) func169
 unfold pK at h
 refine rai hx ?_
 refine rai hx ?_
 refine AW.seq (ra hx ?_)
 refine AW.block ?_
 obtain⟨aE,hy,h⟩:=ah h
 refine lp (S:=Int×(Vector Int 16)) (X:=(Vector Int 16)) (fun (aG,aS)=>[(1,dI .i64 bF),(2,.pt 0 0),(4,.pt 1 0),(5,.pt 2 0),(8,dI .i64 aG)]) (fun (aG,aS)=>⟨[(0,dC (al_cV.f tR)),(1,dC (al_cV.f (cQ))),(2,dC (al_cV.f aS))],[],3⟩) (PE cx (.exit 0) (fun aE=>[(4,.pt 0 0),(5,.pt 1 0)]) fun aE=>⟨[(0,dC (al_cV.f (cQ))),(1,dC (al_cV.f aE))],[],2⟩) hy ?_ ?_ ?_
 exact wk0 h0 [0,1,2]
 clear hy h
 rintro⟨aG,aS⟩ y h
 dsimp only[l5] at h
 refine ra hx ?_
 refine AW.seq (cdh h rfl (fun eF h=>?_) (fun eF h=>?_))
 refine AW.skip (AW.seq (AW.block ?_))
 iterate 2 refine ra hx ?_
 refine AW.seq ?_
 obtain⟨dX,hy,h⟩:=ah h
 refine jn ((PE cx .normal (fun dX=>[(1,dI .i64 bF),(2,.pt 0 0),(4,.pt 1 0),(5,.pt 2 0),(6,dI .i64 aG),(7,dI .u64 dX),(8,dI .i64 aG)]) fun dX=>⟨[(0,dC (al_cV.f tR)),(1,dC (al_cV.f (cQ))),(2,dC (al_cV.f aS))],[],3⟩) dX) ?_ ?_
 replace h:=hy
 refine ra hx ?_
 refine cdh h rfl (fun tz h=>?_) (fun tz h=>?_)
 refine rq hx fun K hK=>?_
 iterate 2 refine sa ?_
 obtain⟨Ou,h⟩:=am h
 iterate 3 refine sbi ?_
 obtain⟨x5,Ce,h⟩:=ah h
 replace Ce:=d5 Ce
 refine s2 (d2:=dI .u64 x5) mi (gD (congrArg (dI .u64) Ce)) ?_
 refine nl hK ?_
 exact pe1 h h0 [0,1,2]
 exact AW.skip (pe1 h h0 [0,1,2])
 refine lw0 ?_
 refine rq hx fun K hK=>?_
 iterate 4 refine sa ?_
 obtain⟨O4,h⟩:=am h
 iterate 5 refine sbi ?_
 obtain⟨G5,h⟩:=am h
 refine s1 (Sk G5) ?_
 refine sa ?_
 obtain⟨Jy,h⟩:=am h
 have hn12:(aG).toNat<16:=by omega
 refine sbi ?_
 obtain⟨qz,hx14,h⟩:=ah h
 replace hx14:=d5 hx14
 refine s0 (fq (b':=u32.wrap (mX .u64 (ior .u64 (yB .u64 dX (32:Int)) (u64.wrap ((tR)[(aG).toNat]!))) bF)) (aX.comp (aX.id _ _) (aX.vec (cI .u32) aS (aG).toNat hn12) (fun _=>rfl)) bX hx14) ?_
 refine nl hK ?_
 refine rb hx ?_
 exact pel h h0 [0,1,2]
 exact AW.exit (per h h0 [1,2])
 refine lw0 ?_
 refine rai hx ?_
 exact AW.ret (rtv h)
def kz(a6:Vector Int 16)(aZ:Int):Int×Int×(Vector Int 16)→Option ((Int×Int×(Vector Int 16))⊕(Int×(Vector Int 16))):=fun (aG,aS,nR)=>cnd (decide ((0:Int)≤aS)) (gd (0≤aS∧aS<16) (bnd (some (ior .u64 (yB .u64 aG (32:Int)) (u64.wrap ((a6)[(aS).toNat]!)))) fun x4=>gd (u64.wrap (aZ)≠0) (gd (0≤aS∧aS<16) (bnd (some ((nR).set! (aS).toNat (u32.wrap (u64.wrap (Int.tdiv x4 (u64.wrap (aZ))))))) fun x9=>gd (u64.wrap (aZ)≠0) (some (.inl (Int.tmod x4 (u64.wrap (aZ)),i64.wrap (aS - (1:Int)),x9))))))) (some (.inr (aG,nR)))
def og(a6:Vector Int 16)(aZ:Int):Option ((Vector Int 16)×Int):=bnd (aK (kz a6 aZ) ((0:Int),(15:Int),(cQ))) fun (aE,lg)=>some (lg,u32.wrap (aE))
theorem ES {a6:Vector Int 16}{aZ:Int}{r:(Vector Int 16)×Int}(h:og a6 aZ=some r):ax prog 163 [dG al_cV a6,dI .u32 aZ] (.tu [dG al_cV r.1,dI .u32 r.2]):=by
 refine bn (rs:=[.cell 4 30,.tmp 5]) (fun cx hx h0=>?_) func163
 unfold og at h
 refine rai hx ?_
 refine ra hx ?_
 refine AW.seq (ra hx ?_)
 refine AW.block ?_
 obtain⟨y,hy,h⟩:=ah h
 refine lp (S:=Int×Int×(Vector Int 16)) (X:=Int×(Vector Int 16)) (fun (aG,aS,nR)=>[(1,dI .u32 aZ),(2,.pt 0 0),(4,.pt 1 0),(6,dI .u64 aG),(7,dI .i64 aS)]) (fun (aG,aS,nR)=>⟨[(0,dC (al_cV.f a6)),(1,dC (al_cV.f nR))],[],2⟩) (PE cx (.exit 0) (fun (aE,lg)=>[(4,.pt 0 0),(6,dI .u64 aE)]) fun (aE,lg)=>⟨[(0,dC (al_cV.f lg))],[],1⟩) hy ?_ ?_ ?_
 exact wk0 h0 [0,1]
 clear hy h
 rintro⟨aG,aS,nR⟩ y h
 dsimp only[kz] at h
 refine AW.seq (ra hx ?_)
 refine cdh h rfl (fun eF h=>?_) (fun eF h=>?_)
 refine AW.skip (AW.seq (AW.block (rs hx fun K hK=>?_)))
 iterate 3 refine sa ?_
 obtain⟨rk,h⟩:=am h
 iterate 4 refine sbi ?_
 obtain⟨x4,Jq,h⟩:=ah h
 replace Jq:=d5 Jq
 refine s2 (d2:=dI .u64 x4) mi (gD (congrArg (dI .u64) Jq)) ?_
 refine nl hK ?_
 refine rs hx fun K hK=>?_
 iterate 4 refine sa ?_
 obtain⟨Re,h⟩:=am h
 refine s1 (Gj Re) ?_
 refine sa ?_
 obtain⟨hc7,h⟩:=am h
 have hn8:(aS).toNat<16:=by omega
 refine sbi ?_
 obtain⟨x9,GY,h⟩:=ah h
 replace GY:=d5 GY
 refine s0 (fq (b':=u32.wrap (u64.wrap (Int.tdiv x4 (u64.wrap (aZ))))) (aX.comp (aX.id _ _) (aX.vec (cI .u32) nR (aS).toNat hn8) (fun _=>rfl)) bX GY) ?_
 refine nl hK ?_
 refine rq hx fun K hK=>?_
 iterate 3 refine sa ?_
 obtain⟨Jy,h⟩:=am h
 refine s1 (Eu Jy) ?_
 refine nbi hK ?_
 refine rb hx ?_
 exact pel h h0 [0,1]
 exact AW.exit (per h h0 [1])
 obtain⟨aE,lg⟩:=y
 refine lw0 ?_
 refine rai hx ?_
 refine AW.ret ?_
 cases h
 exact rv2
section
section
variable {b A B k m d:Nat}
theorem qS(hb:0<b):((A % b ^ k+B % b ^ k) / b ^ k+dg b A k+dg b B k) % b=dg b (A+B) k∧((A % b ^ k+B % b ^ k) / b ^ k+dg b A k+dg b B k) / b=(A % b ^ (k+1)+B % b ^ (k+1)) / b ^ (k+1):=by
 have hp:0<b ^ k:=dE hb
 have hs:A % b ^ (k+1)+B % b ^ (k+1)=(A % b ^ k+B % b ^ k)+b ^ k*(dg b A k+dg b B k):=by
  rw[g7,g7,z4];omega
 have h1:(A % b ^ (k+1)+B % b ^ (k+1)) / b ^ k=(A % b ^ k+B % b ^ k) / b ^ k+dg b A k+dg b B k:=by
  rw[hs,DU _ _ hp];omega
 refine⟨?_,?_⟩
 ·have e:A+B=(A % b ^ (k+1)+B % b ^ (k+1))+b ^ k*(b*(A / b ^ (k+1)+B / b ^ (k+1))):=by
   have e1:=pW A (b ^ (k+1))
   have e2:=pW B (b ^ (k+1))
   have e3:b ^ k*(b*(A / b ^ (k+1)+B / b ^ (k+1)))=b ^ (k+1)*(A / b ^ (k+1))+b ^ (k+1)*(B / b ^ (k+1)):=by
    rw[←i1,←eZ,z4]
   omega
  unfold dg
  rw[e,DU _ _ hp,h1]
  unfold dg
  rw[F4]
 ·rw[eZ,←mc,←eZ,h1]
theorem pQ(hb:0<b):(A % b ^ k+B % b ^ k) / b ^ k≤1:=by
 have hp:0<b ^ k:=dE hb
 have h1:=ep A hp
 have h2:=ep B hp
 have:(A % b ^ k+B % b ^ k) / b ^ k<2:=(qv hp).2 (by omega)
 omega
theorem FE(hb:0<b):(A % b ^ k*m / b ^ k+dg b A k*m) % b=dg b (A*m) k∧(A % b ^ k*m / b ^ k+dg b A k*m) / b=A % b ^ (k+1)*m / b ^ (k+1):=by
 have hp:0<b ^ k:=dE hb
 have hs:A % b ^ (k+1)*m=A % b ^ k*m+b ^ k*(dg b A k*m):=by
  rw[g7,bZ,i1]
 have h1:A % b ^ (k+1)*m / b ^ k=A % b ^ k*m / b ^ k+dg b A k*m:=by
  rw[hs,DU _ _ hp]
 refine⟨?_,?_⟩
 ·have e:A*m=A % b ^ (k+1)*m+b ^ k*(b*(A / b ^ (k+1)*m)):=by
   have e1:=pW A (b ^ (k+1))
   have e3:b ^ k*(b*(A / b ^ (k+1)*m))=b ^ (k+1)*(A / b ^ (k+1))*m:=by
    rw[←i1,←eZ,←i1]
   rw[e3,←bZ]
   congr 1
   omega
  have h2:dg b (A*m) k=A*m / b ^ k % b:=rfl
  rw[h2,e,DU _ _ hp,h1,F4]
 ·rw[eZ,←mc,←eZ,h1]
theorem AU(hb:0<b)(hm:0<m):A % b ^ k*m / b ^ k<m:=by
 have hp:0<b ^ k:=dE hb
 rw[qv hp,cC]
 exact Nat.mul_lt_mul_of_pos_left (ep A hp) hm
theorem yw(hb:0<b)(hd:0<d):(A / b ^ (k+1) % d*b+dg b A k) / d=dg b (A / d) k∧(A / b ^ (k+1) % d*b+dg b A k) % d=A / b ^ k % d:=by
 have e:=cO (b:=b) (A:=A) (k:=k)
 have hR:=pW (A / b ^ (k+1)) d
 generalize hr:A / b ^ (k+1) % d=r at hR ⊢
 generalize ht:A / b ^ (k+1) / d=t at hR
 have hrd:r<d:=by rw[←hr];exact ep _ hd
 have ha:dg b A k<b:=RC hb
 generalize dg b A k=a at e ha ⊢
 have e2:A / b ^ k=r*b+a+d*(t*b):=by
  rw[e,←hR,bZ,i1];omega
 have bG:(r*b+a) / d<b:=by
  rw[qv hd]
  have:(r+1)*b≤d*b:=bJ _ hrd
  rw[bZ,d8,cC d b] at this
  omega
 refine⟨?_,?_⟩
 ·have:dg b (A / d) k=A / b ^ k / d % b:=by unfold dg;rw[mc,cC,←mc]
  rw[this,e2,DU _ _ hd,LP,gW bG]
 ·rw[e2,F4]
end
abbrev W(A:Nat):Vector Int 16:=vN 4294967296 16 A
theorem gX {A k:Nat}(h:k<16):(W A)[k]! =(dg 4294967296 A k:Int):=jX h
theorem dgl {A k:Nat}:dg 4294967296 A k<4294967296:=RC (by decide)
theorem G_plus {A B:Nat}(hA:A<4294967296 ^ 16)(hB:B<4294967296 ^ 16):pJ (W A) (W B)=some (W (A+B),decide (A+B<4294967296 ^ 16)):=by
 have hl:=sL (b:=kA (W A) (W B)) (s0:=((0:Int),(0:Int),cQ)) (fun k=>(((A % 4294967296 ^ k+B % 4294967296 ^ k) / 4294967296 ^ k:Nat),(k:Int),vN 4294967296 16 ((A+B) % 4294967296 ^ k))) 16 (((A % 4294967296 ^ 16+B % 4294967296 ^ 16) / 4294967296 ^ 16:Nat),vN 4294967296 16 ((A+B) % 4294967296 ^ 16))
  (by simp only[kX,rV,tp];rfl)
  (fun k hk=>by
   have hc:=pQ (b:=4294967296) (A:=A) (B:=B) (k:=k) (by decide)
   obtain⟨h1,h2⟩:=qS (b:=4294967296) (A:=A) (B:=B) (k:=k) (by decide)
   have ha:=@dgl A k
   have hb:=@dgl B k
   dsimp only[kA]
   rw[bb _ _,aB,aB,ab,aB,aJ,gX hk,gX hk,iJ,iJ,←pf,iJ,←pf,iJ,xP,AF,←ob,h1,h2,Cu (by decide) hk,cg,pf]
   rfl)
  (by
   dsimp only[kA]
   rw[a7 _ _])
 unfold pJ
 rw[hl,ab,gW hA,gW hB,Gx (by decide)]
 dsimp only
 congr 2
 have:((((A+B) / 4294967296 ^ 16:Nat):Int)=0)↔A+B<4294967296 ^ 16:=by
  rw[Int.natCast_eq_zero,Np (by decide)]
 exact i3.2 this
theorem Ie {A B:Nat}(hBA:B≤A):iB (W A) (W B)=some (W (A - B)):=by
 obtain⟨D,rfl⟩:∃D,A=D+B:=⟨A - B,by omega⟩
 rw[Bu]
 have hl:=sL (b:=jy (W (D+B)) (W B)) (s0:=((0:Int),(0:Int),cQ)) (fun k=>(((D % 4294967296 ^ k+B % 4294967296 ^ k) / 4294967296 ^ k:Nat),(k:Int),vN 4294967296 16 (D % 4294967296 ^ k))) 16 (vN 4294967296 16 (D % 4294967296 ^ 16))
  (by simp only[kX,rV,tp];rfl)
  (fun k hk=>by
   have hc:=pQ (b:=4294967296) (A:=D) (B:=B) (k:=k) (by decide)
   obtain⟨h1,h2⟩:=qS (b:=4294967296) (A:=D) (B:=B) (k:=k) (by decide)
   have ha:=@dgl D k
   have hb:=@dgl B k
   have hd:=@dgl (D+B) k
   generalize (D % 4294967296 ^ k+B % 4294967296 ^ k) / 4294967296 ^ k=c at h1 h2 hc ⊢
   generalize (D % 4294967296 ^ (k+1)+B % 4294967296 ^ (k+1)) / 4294967296 ^ (k+1)=c' at h2 ⊢
   dsimp only[jy]
   rw[bb _ _,aB,aB,ab,aB,aJ,gX hk,gX hk,iJ,iJ,cg]
   have hx:∃x:Nat,u64.wrap (u64.wrap ((dg 4294967296 (D+B) k:Int) - (dg 4294967296 B k:Int)) - (c:Int))=(x:Int)∧x / 9223372036854775808=c'∧x % 4294967296=dg 4294967296 D k:=by
    rw[IntKind.wrap_u64,IntKind.wrap_u64]
    refine⟨((((dg 4294967296 (D+B) k:Int) - (dg 4294967296 B k:Int)) % 18446744073709551616 - (c:Int)) % 18446744073709551616).toNat,by omega,by omega,by omega⟩
   obtain⟨x,E7,Cf,Qn⟩:=hx
   rw[E7,Pu,AF,Cf,Qn,Cu (by decide) hk]
   rfl)
  (by
   dsimp only[jy]
   rw[a7 _ _])
 unfold iB
 rw[hl,ab,Gx (by decide)]
theorem G_up {A s:Nat}(hs:s<32):qG (W A) (s:Int)=some (W (A*2 ^ s),((A % 4294967296 ^ 16*2 ^ s / 4294967296 ^ 16:Nat):Int)):=by
 have FM:2 ^ s≤2 ^ 31:=nY (by decide) (by omega)
 have hs3:0<2 ^ s:=dE (by decide)
 have hl:=sL (b:=mY (W A) (s:Int)) (s0:=((0:Int),(0:Int),cQ)) (fun k=>((A % 4294967296 ^ k*2 ^ s / 4294967296 ^ k:Nat),(k:Int),vN 4294967296 16 (A*2 ^ s % 4294967296 ^ k))) 16 ((A % 4294967296 ^ 16*2 ^ s / 4294967296 ^ 16:Nat),vN 4294967296 16 (A*2 ^ s % 4294967296 ^ 16))
  (by simp only[kX,rV,tp,fP,Nat.zero_div];rfl)
  (fun k hk=>by
   have hc:=AU (b:=4294967296) (A:=A) (k:=k) (m:=2 ^ s) (by decide) hs3
   obtain⟨h1,h2⟩:=FE (b:=4294967296) (A:=A) (k:=k) (m:=2 ^ s) (by decide)
   have ha:=@dgl A k
   have hm:dg 4294967296 A k*2 ^ s≤4294967295*2 ^ s:=bJ _ (by omega)
   generalize A % 4294967296 ^ k*2 ^ s / 4294967296 ^ k=c at h1 h2 hc ⊢
   generalize A % 4294967296 ^ (k+1)*2 ^ s / 4294967296 ^ (k+1)=c' at h2 ⊢
   dsimp only[mY]
   rw[bb _ _,aB,aB,ab,aB,aJ,gX hk,iJ,Qg _ _ (by omega) (by omega),Qh,ior_n hc (by omega),xP,AF,cg,rz _ c,h1,h2,Cu (by decide) hk]
   rfl)
  (by
   dsimp only[mY]
   rw[a7 _ _])
 have hc:A % 4294967296 ^ 16*2 ^ s / 4294967296 ^ 16<2 ^ s:=AU (by decide) hs3
 unfold qG
 rw[hl,ab,Gx (by decide)]
 dsimp only
 rw[AE]
theorem G_down {A s:Nat}(hA:A<4294967296 ^ 16)(hs:s<32):pK (W A) (s:Int)=some (W (A / 2 ^ s)):=by
 have FM:2 ^ s≤2 ^ 31:=nY (by decide) (by omega)
 have hs3:0<2 ^ s:=dE (by decide)
 have hl:=sL (b:=l5 (W A) (s:Int)) (s0:=((0:Int),cQ)) (fun k=>((k:Int),vN 4294967296 16 (A / 2 ^ s % 4294967296 ^ k))) 16 (vN 4294967296 16 (A / 2 ^ s % 4294967296 ^ 16))
  (by simp only[kX,rV,tp];rfl)
  (fun k hk=>by
   have ha:=@dgl A k
   have ha1:=@dgl A (k+1)
   have hd:(dg 4294967296 A (k+1)*4294967296+dg 4294967296 A k) / 2 ^ s % 4294967296=dg 4294967296 (A / 2 ^ s) k:=by
    have e1:dg 4294967296 (A / 2 ^ s) k=A / 4294967296 ^ k / 2 ^ s % 4294967296:=by
     unfold dg;rw[mc,cC,←mc]
    have e2:A / 4294967296 ^ k=(dg 4294967296 A (k+1)*4294967296+dg 4294967296 A k)+2 ^ s*(4294967296*(2 ^ (32 - s)*(A / 4294967296 ^ (k+2)))):=by
     have e3:=cO (b:=4294967296) (A:=A) (k:=k)
     have e4:=cO (b:=4294967296) (A:=A) (k:=k+1)
     have e5:2 ^ s*(4294967296*(2 ^ (32 - s)*(A / 4294967296 ^ (k+2))))=2 ^ s*2 ^ (32 - s)*4294967296*(A / 4294967296 ^ (k+2)):=by
      simp only[i1,F5]
     rw[e5,←me,show s+(32 - s)=32 from by omega,e3,e4,show k+1+1=k+2 from rfl,show (2:Nat) ^ 32=4294967296 from rfl]
     generalize A / 4294967296 ^ (k+2)=q
     generalize dg 4294967296 A (k+1)=d1
     generalize dg 4294967296 A k=d0
     omega
    rw[e1,e2,DU _ _ hs3,F4]
   dsimp only[l5]
   rw[bb _ _]
   have hnext:(bnd (S:=Int) (cnd (decide ((i64.wrap ((k:Int)+(1:Int)))<(16:Int))) (gd (0≤i64.wrap ((k:Int)+(1:Int))∧i64.wrap ((k:Int)+(1:Int))<16) (bnd (some (u64.wrap ((W A)[(i64.wrap ((k:Int)+(1:Int))).toNat]!))) fun x5=>some (x5))) (some ((0:Int)))) (fun a=>some a))=some ((dg 4294967296 A (k+1):Nat):Int):=by
    rw[cg]
    by_cases hk1:k+1<16
    ·rw[bb _ _,aB,ab,show ((k:Int)+1).toNat=k+1 from by omega,gX hk1,iJ,ab]
    ·rw[a7 _ _,ab,mI (bU hA (nY (by decide) (by omega)))]
     rfl
   rw[pU] at hnext
   rw[hnext,ab,aB,aB,aB,ab,aJ,gX hk,iJ,IS ha1,Jl ha ha1,A6 .u64 _ _ (by show s≤64;omega),AF,hd,Cu (by decide) hk,cg]
   rfl)
  (by
   dsimp only[l5]
   rw[a7 _ _])
 unfold pK
 rw[hl,ab,Gx (by decide)]
theorem G_short {A d:Nat}(hA:A<4294967296 ^ 16)(hd:0<d)(Jw:d<4294967296):og (W A) (d:Int)=some (W (A / d),((A % d:Nat):Int)):=by
 have hl:=P9 (b:=kz (W A) (d:Int)) (s0:=((0:Int),(15:Int),cQ)) (fun k=>((A / 4294967296 ^ k % d:Nat),(k:Int) - 1,vN 4294967296 16 (A / d / 4294967296 ^ k*4294967296 ^ k))) 16 ((A / 4294967296 ^ 0 % d:Nat),vN 4294967296 16 (A / d / 4294967296 ^ 0*4294967296 ^ 0))
  (by
   have h1:A / d<4294967296 ^ 16:=cD (qN _ _) hA
   simp only[gO hA,gO h1,fP,tp,Nat.zero_mod];rfl)
  (fun k hk=>by
   have ha:=@dgl A k
   have hq:=@dgl (A / d) k
   obtain⟨h1,h2⟩:=yw (b:=4294967296) (A:=A) (k:=k) (d:=d) (by decide) hd
   have hr:A / 4294967296 ^ (k+1) % d<d:=ep _ hd
   generalize A / 4294967296 ^ (k+1) % d=r at h1 h2 hr ⊢
   generalize A / 4294967296 ^ k % d=r' at h2 ⊢
   have ed:u64.wrap (d:Int)=(d:Int):=iJ
   dsimp only[kz]
   rw[bb _ _,aB,ab,ed,aB,aB,ab,aB,show (((k+1:Nat):Int) - 1).toNat=k from by omega,gX hk,iJ,IS (by omega),Jl ha (by omega),←t7,←t6,h1,h2,iJ,AE hq,My (by decide) hk,cg]
   congr 4
   omega)
  (by
   dsimp only[kz]
   rw[a7 _ _])
 rw[kX,sX,sX,z5] at hl
 have hr:A % d<d:=ep _ hd
 unfold og
 rw[hl,ab]
 dsimp only
 rw[AE]
end
def LIM:Nat:=4294967296 ^ 16
theorem EF:LIM=4294967296 ^ 16:=rfl
theorem xt:0<LIM:=by decide
theorem W_zero:W 0=cQ:=tp
theorem z16:(#v[(0:Int),0,0,0,0,0,0,0,0,0,0,0,0,0,0,0]:Vector Int 16)=W 0:=by
 rw[W_zero];rfl
theorem r16:cQ=W 0:=tp.symm
theorem Et {A B:Nat}(hA:A<LIM)(hB:B<LIM):W A=W B↔A=B:=⟨vN_inj hA hB,fun h=>by rw[h]⟩
def IZ(A B:Nat):Int:=if A<B then -1 else if B<A then 1 else 0
theorem G_cmp(x y:Int):gM x y=some (if x<y then -1 else if y<x then 1 else 0):=by
 have hn:∀z:Int,gt z=some false:=fun z=>by unfold gt;simp
 unfold gM
 rw[hn,hn,ab,ab,aL,aL,fM,fM]
 split
 ·rfl
 ·split <;> rfl
theorem BN {A B k:Nat}(he:A / 4294967296 ^ (k+1)=B / 4294967296 ^ (k+1))(h:dg 4294967296 A k<dg 4294967296 B k):A<B:=by
 have e1:=cO (b:=4294967296) (A:=A) (k:=k)
 have e2:=cO (b:=4294967296) (A:=B) (k:=k)
 have h1:A / 4294967296 ^ k<B / 4294967296 ^ k:=by
  rw[e1,e2,he];exact wQ h _
 rcases bt A B with h2|h2
 ·exact h2
 ·exact absurd (L7 h2) (Nat.not_le.2 h1)
theorem NA {A B:Nat}(hA:A<LIM)(hB:B<LIM):ml (W A) (W B)=some (IZ A B):=by
 rw[EF] at hA hB
 obtain⟨x,hl,hx⟩:=xV (b:=kB (W A) (W B)) (fun s=>∃k:Nat,s=(k:Int) - 1∧k≤16∧A / 4294967296 ^ k=B / 4294967296 ^ k) (fun s=>(s+1).toNat) (fun x=>match x with| .inl r=>r=IZ A B| .inr _=>A=B)
  (by
   rintro s ⟨k,rfl,hk,he⟩
   cases k with
   |zero=>
    right
    refine⟨(Sum.inr ():Int⊕Unit),?_,?_⟩
    ·dsimp only[kB]
     rw[a7 _ _]
    ·simpa using he
   |succ k=>
    have v3:k<16:=by omega
    have e:((k+1:Nat):Int) - 1=(k:Int):=by omega
    rw[e]
    dsimp only[kB]
    rw[bb _ _,aB,aB,aJ,gX v3,gX v3]
    by_cases hd:dg 4294967296 A k=dg 4294967296 B k
    ·left
     refine⟨(k:Int) - 1,?_,⟨k,rfl,by omega,?_⟩,by omega⟩
     ·rw[a7 _ _ (by rw[hd];simp),cg]
     ·rw[cO (b:=4294967296) (A:=A) (k:=k),cO (b:=4294967296) (A:=B) (k:=k),he,hd]
    ·right
     refine⟨(Sum.inl (IZ A B):Int⊕Unit),?_,rfl⟩
     rw[bb _ _,aB,aB,G_cmp,ab]
     congr 3
     unfold IZ
     rcases Nat.lt_or_gt_of_ne hd with h|h
     ·have:=BN he h
      rw[ifp_,ar this]
     ·have:=BN he.symm h
      rw[ifn_,ifp_,ifn_,ar this]) (15:Int) ⟨16,rfl,aD _,by rw[gO hA,gO hB]⟩
 unfold ml
 rw[hl,ab]
 cases x with
 |inl r=>obtain rfl:r=_:=hx;rfl
 |inr u=>
  obtain rfl:A=B:=hx
  unfold IZ
  simp
def szp(b A n:Nat):Prop:=A<b ^ n∧(0<n→b ^ (n - 1)≤A)
theorem Pn {b A n m:Nat}(hb:0<b)(h:szp b A n)(h':szp b A m):n=m:=by
 have key:∀{n m:Nat},szp b A n→szp b A m→m≤n:=by
  intro n m h h'
  rcases bt n m with h1|h1
  ·have h2:=h'.2 (by omega)
   have h3:b ^ n≤b ^ (m - 1):=nY hb (by omega)
   have:=h.1
   omega
  ·exact h1
 have:=key h h'
 have:=key h' h
 omega
theorem KH {b A n k:Nat}(hb:0<b)(h:szp b A n)(hA:A<b ^ k):n≤k:=by
 rcases bt k n with h1|h1
 ·have h2:=h.2 (by omega)
  have h3:b ^ k≤b ^ (n - 1):=nY hb (by omega)
  omega
 ·exact h1
theorem BB {A:Nat}(hA:A<LIM):∃n:Nat,n≤16∧eU (W A)=some (n:Int)∧szp 4294967296 A n:=by
 rw[EF] at hA
 obtain⟨x,hl,n,rfl,hn,hs⟩:=xV (b:=l4 (W A)) (fun s=>∃n:Nat,s=(n:Int)∧n≤16∧A<4294967296 ^ n) (fun s=>s.toNat) (fun x=>∃n:Nat,x=(n:Int)∧n≤16∧szp 4294967296 A n)
  (by
   rintro s ⟨n,rfl,hn,bG⟩
   cases n with
   |zero=>
    right
    refine⟨_,?_,0,rfl,by omega,bG,fun h=>by omega⟩
    dsimp only[l4]
    rw[a7 _ _,ab,aL]
   |succ k=>
    have hk:k<16:=by omega
    have e:i64.wrap (((k+1:Nat):Int) - 1)=(k:Int):=by rw[cg];omega
    dsimp only[l4]
    rw[bb _ _,e,aB,ab,aJ,gX hk,fM]
    by_cases hd:dg 4294967296 A k=0
    ·left
     refine⟨(k:Int),by rw[ifp_],⟨k,rfl,by omega,?_⟩,by omega⟩
     unfold dg at hd
     have h1:A / 4294967296 ^ k<4294967296:=by
      rw[qv (dE (by decide)),cC,←eZ];exact bG
     rw[gW h1] at hd
     exact (Np (dE (by decide))).1 hd
    ·right
     refine⟨_,by rw[ifn_],k+1,rfl,hn,bG,fun _=>?_⟩
     rcases bt A (4294967296 ^ k) with h|h
     ·exact absurd (mI h) hd
     ·exact h) (16:Int) ⟨16,rfl,aD _,hA⟩
 refine⟨n,hn,?_,hs⟩
 unfold eU
 rw[hl,ab]
def Fo:ap:=⟨true,false,W 0⟩
def enc(z:Int):ap:=if z.natAbs<LIM then⟨false,decide (z<0),W z.natAbs⟩ else Fo
theorem sU {z:Int}(h:z.natAbs<LIM):enc z=⟨false,decide (z<0),W z.natAbs⟩:=ar h
theorem DI {z:Int}(h:¬z.natAbs<LIM):enc z=Fo:=aA h
def cv(x:ap):Bool:=!x.vBad&&(!decide (x.vW=W 0)||!x.vNeg)
def okI(x:ap):Prop:=∀j:Nat,j<16→0≤x.vW[j]!∧x.vW[j]! <4294967296
theorem xc(z:Int):okI (enc z):=by
 have key:∀(A j:Nat),j<16→0≤(W A)[j]!∧(W A)[j]! <4294967296:=fun A j hj=>by
  rw[gX hj];have:=@dgl A j;omega
 unfold enc
 split
 ·exact key _
 ·exact key 0
theorem bg {z:Int}(h:z.natAbs<LIM):cv (enc z)=true:=by
 rw[sU h]
 unfold cv
 dsimp only
 by_cases hz:z=0
 ·subst hz;simp
 ·have:¬W z.natAbs=W 0:=fun e=>hz (by have:=(Et h xt).1 e;omega)
  simp[this]
theorem sQ {x:ap}(h:okI x)(hg:cv x=true):∃z:Int,z.natAbs<LIM∧x=enc z:=by
 obtain⟨A,hA,hv⟩:=vN_of (b:=4294967296) (n:=16) (by decide) x.vW (fun j hj=>h j hj)
 obtain⟨bad,neg,w⟩:=x
 dsimp only at hv
 subst hv
 unfold cv at hg
 simp only[mf,Bool.or_eq_true,yM,LL] at hg
 obtain⟨rfl,hg⟩:=hg
 have MY:A<LIM:=hA
 cases neg with
 |false=>
  refine⟨(A:Int),MY,?_⟩
  rw[sU (by simpa using MY)]
  simp
 |true=>
  refine⟨-(A:Int),by simpa using MY,?_⟩
  have h0:A≠0:=by
   rintro rfl
   rcases hg with h|h
   ·exact h rfl
   ·cases h
  rw[sU (by simpa using MY)]
  have:-(A:Int)<0:=by omega
  simp[this,vp h0]
theorem Be:cv Fo=false:=rfl
theorem zV {z y:Int}(hz:z.natAbs<LIM)(hy:y.natAbs<LIM)(h:enc z=enc y):z=y:=by
 rw[sU hz,sU hy] at h
 simp only[ap.mk.injEq,true_and] at h
 obtain⟨h1,h2⟩:=h
 have h3:=(Et hz hy).1 h2
 have h4:=i3.1 h1
 omega
theorem Rw {A:Nat}(hA:A<LIM)(neg:Bool):(⟨false,neg&&!decide (A=0),W A⟩:ap)=enc (bif neg then -(A:Int) else A):=by
 cases neg with
 |false=>rw[sU (by simpa using hA)];simp
 |true=>
  rw[sU (by simpa using hA)]
  simp only[D2,ix,Int.natAbs_neg,dQ,ap.mk.injEq,true_and,and_true]
  by_cases h:A=0
  ·subst h;simp
  ·have:-(A:Int)<0:=by omega
   simp[h,this,vp h]
theorem ND(x:ap):mm x=some (if x.vBad then decide (x.vW=W 0)&&!x.vNeg else !decide (x.vW=W 0)||!x.vNeg):=by
 unfold mm
 rw[ab,z16]
 cases x.vBad <;> cases decide (x.vW=W 0) <;> rfl
theorem S2 {l:List ap}(hl:l.length<1000000):dM l=some (l.all cv):=by
 obtain⟨x,h1,hx⟩:=xV (b:=ox l) (fun s=>∃n:Nat,s=(n:Int)∧n≤l.length∧(l.take n).all cv=true) (fun s=>l.length - s.toNat) (fun x=>match x with| .inl r=>r=false∧l.all cv=false| .inr _=>l.all cv=true)
  (by
   rintro s ⟨n,rfl,hn,ha⟩
   dsimp only[ox]
   by_cases bG:n<l.length
   ·rw[bb _ _,aB,aJ,ND,ab]
    have hg:cnd (l[n]!.vBad) (some true) (some (!(if l[n]!.vBad then decide (l[n]!.vW=W 0)&&!l[n]!.vNeg else !decide (l[n]!.vW=W 0)||!l[n]!.vNeg)))=some (!cv l[n]!):=by
     unfold cv
     cases l[n]!.vBad <;> rfl
    rw[hg,ab]
    have Dn:(l.take (n+1)).all cv=((l.take n).all cv&&cv l[n]!):=by
     rw[f7 l n bG,List.take_succ_eq_append_getElem bG,vn]
     simp
    cases hgb:cv l[n]! with
    |true=>
     left
     refine⟨((n+1:Nat):Int),?_,⟨n+1,rfl,bG,by rw[Dn,ha,hgb];rfl⟩,by omega⟩
     rw[eH,aL,cg]
     rfl
    |false=>
     right
     refine⟨_,rfl,rfl,?_⟩
     rw[←s4 (n+1) l,vn,Dn,hgb]
     simp
   ·right
    refine⟨_,by rw[a7 _ _],?_⟩
    rw[gu (by omega)] at ha
    exact ha) (0:Int) ⟨0,rfl,bY _,by simp⟩
 unfold dM
 rw[h1,ab]
 cases x with
 |inl r=>obtain⟨rfl,h2⟩:=hx;rw[h2]
 |inr u=>rw[show l.all cv=true from hx]
theorem jV {A:Nat}(hA:A<LIM)(neg:Bool):bO neg (W A)=some (enc (bif neg then -(A:Int) else A)):=by
 unfold bO
 rw[z16,←Rw hA]
 cases neg with
 |true=>
  rw[ej,ab]
  simp only[ab,Et hA xt,D2,Ea]
 |false=>rfl
theorem NI:eL=some Fo:=by unfold eL;rw[r16];rfl
theorem all2g(x y:ap):([x,y].all cv)=(cv x&&cv y):=by simp
theorem all1g(x:ap):([x].all cv)=cv x:=by simp
theorem vy(x y:ap):dM [x,y]=some (cv x&&cv y):=by rw[S2 (by simp),all2g]
theorem Ak(x:ap):dM [x]=some (cv x):=by rw[S2 (by simp),all1g]
theorem nX {z:Int}(h:z.natAbs<LIM):(enc z).vW=W z.natAbs:=by rw[sU h]
theorem i5 {z:Int}(h:z.natAbs<LIM):(enc z).vNeg=decide (z<0):=by rw[sU h]
theorem G_Add {a c:Int}(ha:a.natAbs<LIM)(hc:c.natAbs<LIM):jB (enc a) (enc c)=some (enc (a+c)):=by
 unfold jB
 rw[vy,bg ha,bg hc,ab]
 simp only[j7,eH,aL,nX ha,nX hc,i5 ha,i5 hc]
 rw[G_plus (by rw[←EF];exact ha) (by rw[←EF];exact hc),ab,NA ha hc,ab,←EF]
 dsimp only
 by_cases hs:decide (a<0)=decide (c<0)
 ·have Kv:=i3.1 hs
  rw[hs,wV,ej]
  by_cases bG:a.natAbs+c.natAbs<LIM
  ·rw[d6 bG,eH,aL,jV bG,ab]
   congr 2
   by_cases h:c<0
   ·simp only[h,tJ,ix];omega
   ·simp only[h,p6,cond_false];omega
  ·rw[f8 bG,qQ,ej,NI,ab,DI (by omega)]
 ·have Kv:¬((a<0)↔(c<0)):=fun h=>hs (i3.2 h)
  have hb:(decide (a<0) == decide (c<0))=false:=Bs.2 hs
  rw[hb,aL]
  unfold IZ
  by_cases h1:a.natAbs<c.natAbs
  ·rw[ar h1,a7 _ _,Ie (pX h1),ab,jV (by omega),ab]
   congr 2
   by_cases h:c<0
   ·simp only[h,tJ,ix];omega
   ·simp only[h,p6,cond_false];omega
  ·have h2:(0:Int)≤(if a.natAbs<c.natAbs then -1 else if c.natAbs<a.natAbs then 1 else 0):=by
    rw[aA h1];split <;> omega
   rw[bb _ _ h2,Ie (by omega),ab,jV (by omega),ab]
   congr 2
   by_cases h:a<0
   ·simp only[h,tJ,ix];omega
   ·simp only[h,p6,cond_false];omega
theorem OW {x y:ap}(h:(cv x&&cv y)=false):jB x y=some Fo:=by
 unfold jB
 rw[vy,h,ab,qQ,ej,NI,ab]
theorem S5 {a:Int}(ha:a.natAbs<LIM):m3 (enc a)=some (enc (-a)):=by
 unfold m3
 rw[Ak,bg ha,ab,eH,aL,nX ha,i5 ha,jV ha,ab]
 congr 2
 by_cases h:a<0
 ·simp only[h,tJ,eH,cond_false];omega
 ·simp only[h,p6,qQ,ix];omega
theorem G_Sub {a c:Int}(ha:a.natAbs<LIM)(hc:c.natAbs<LIM):oT (enc a) (enc c)=some (enc (a - c)):=by
 unfold oT
 rw[S5 hc,ab,G_Add ha (by omega),ab]
 rfl
theorem BC {a:Int}(ha:a.natAbs<LIM):ir (enc a)=some a.sign:=by
 unfold ir
 rw[Ak,bg ha,ab,eH,aL,ab,nX ha,i5 ha,z16]
 simp only[Et ha xt]
 rcases L2 a 0 with h|h|h
 ·rw[a7 _ _,bb _ _ h,L0 h]
 ·subst h;rfl
 ·rw[a7 _ _,a7 _ _,D9 h]
end
end Go.Proofs.YtgfcnncojhkcoaaGreat
