/-
  Lemmas, part 2. Conditions: none.
-/
import Derived.Test.YtgfcnncojhkcoaaGreatY1
import Derived.Laws.MakeOwn
import Derived.Laws.CopyRow
import Derived.Test.YtgfcnncojhkcoaaGreatProg
set_option linter.all false
set_option maxRecDepth 100000
set_option maxHeartbeats 4000000
namespace Go.Proofs.YtgfcnncojhkcoaaGreat
open Go.RowKit Go.IntKind Tryz
noncomputable section
section
def dC(es:List E):List D:=es.map D.e
theorem OA(σ:Nat→Nat)(es:List E):(dC es).map (D.renC σ)=dC es:=by
 unfold dC;rw[mz];exact oX fun _ _=>rfl
theorem gW(es:List E):(dC es).length=es.length:=ew _
theorem A8 {p:D→Bool}(h:∀e,p (.e e)=true)(es:List E):(dC es).all p=true:=by
 unfold dC;rw[Bw];exact bZ.2 fun e _=>h e
structure ao {β:Type}(F:List E)(c':Cd β)(o:Nat)(b:β)(F':β→List E):Prop where
 le:o+c'.sz≤F.length
 g:(F.drop o).take c'.sz=c'.f b
 p:∀y,F.take o++c'.f y++F.drop (o+c'.sz)=F' y
section
variable {α β γ:Type} {F:List E}
theorem ao.id(c:Cd α)(x:α):ao (c.f x) c 0 x c.f:=
 ⟨by rw[c.h];omega,by rw[qg,jD (by rw[c.h];exact aL _)],fun y=>by rw[EU,br,Bk (by rw[c.h];exact aL _),ph,tG]⟩
theorem ao.comp {c1:Cd α}{c2:Cd β}{o1 o2:Nat}{b1:α}{b2:β}{F1:α→List E}{P2:β→List E}{P:β→α}(h1:ao F c1 o1 b1 F1)(h2:ao (c1.f b1) c2 o2 b2 P2)(hp:∀y,P2 y=c1.f (P y)):ao F c2 (o1+o2) b2 (fun y=>F1 (P y)):=by
 have l1:=h1.le
 have l2:=h2.le
 rw[c1.h] at l2
 refine⟨by omega,?_,fun y=>?_⟩
 ·rw[←h2.g,←h1.g,←oK,G0,Dd,tD (by omega)]
 ·rw[←h1.p (P y),←hp y,←h2.p y,←h1.g,Dd,tD (by omega),List.take_add]
  have e:((F.drop o1).take c1.sz).drop (o2+c2.sz)++F.drop (o1+c1.sz)=F.drop (o1+o2+c2.sz):=by
   have e1:F.drop (o1+c1.sz)=(F.drop o1).drop c1.sz:=(oK ..).symm
   rw[e1,←OZ (by rw[eI,gi];omega),tC,oK,l4]
  rw[←e]
  simp only[dP]
theorem ao.of {c':Cd β}{o:Nat}{b:β}{F':β→List E}(A C:List E)(hA:A.length=o)(hF:F=A++(c'.f b++C))(hp:∀y,F' y=A++(c'.f y++C)):ao F c' o b F':=by
 subst hA hF
 refine⟨by simp[c'.h],?_,fun y=>?_⟩
 ·rw[qU,zc (by rw[c'.h];exact aL _),jD (by rw[c'.h];exact aL _)]
 ·rw[hp,oV,←oK,qU,←c'.h b,qU,dP]
theorem ao.seq [Inhabited α](c:Cd α)(l:List α)(i:Nat)(h:i<l.length):ao (l.flatMap c.f) c (i*c.sz) l[i]! (fun y=>(l.set i y).flatMap c.f):=by
 have hl:(l.flatMap c.f).length=l.length*c.sz:=jC c.f c.h l
 have hm:(i+1)*c.sz≤l.length*c.sz:=cg _ h
 rw[bj,de] at hm
 refine⟨by rw[hl];exact hm,?_,fun y=>?_⟩
 ·have:=kj c.f c.h (l.drop i) 1
  rw[de] at this
  rw[mJ c.f c.h,this,IU h,eG l i h,List.take_succ_cons,EU,qf,List.flatMap_nil,tG]
 ·rw[kj c.f c.h,show i*c.sz+c.sz=(i+1)*c.sz by rw[bj,de],mJ c.f c.h,List.set_eq_take_append_cons_drop,az h,Br,qf,dP]
theorem v9 [Inhabited α]{n:Nat}(v:Vector α n){i:Nat}(h:i<n):v.toList[i]! =v[i]! :=by
 rw[eG v.toList i (by rw[mC];exact h),eG v i h,Vector.getElem_toList]
theorem vec_set {n:Nat}(v:Vector α n)(i:Nat)(y:α):(v.set! i y).toList=v.toList.set i y:=by
 show (v.setIfInBounds i y).toList=_
 exact Vector.toList_setIfInBounds ..
theorem ao.vec [Inhabited α]{n:Nat}(c:Cd α)(v:Vector α n)(i:Nat)(h:i<n):ao ((cA n c).f v) c (i*c.sz) v[i]! (fun y=>(cA n c).f (v.set! i y)):=by
 have:=ao.seq c v.toList i (by rw[mC];exact h)
 rw[v9 v h] at this
 refine⟨this.le,this.g,fun y=>?_⟩
 rw[show (cA n c).f (v.set! i y)=(v.set! i y).toList.flatMap c.f from rfl,vec_set]
 exact this.p y
end
section
variable {P:Program} {tb:TypeId→Option TyE} {dr:Bool} {ty:TypeId} {ev:Operand→D} {x y:Operand} {vs:List (Nat×List D)} {lv:List (Nat×Nat×Nat×TypeId)} {N k o:Nat} {F:List E} {β:Type} {c':Cd β} {b:β} {F':β→List E} {t:TypeId} {i:TyE}
theorem aE(L:ao F c' o b F')(ht:tb t=some i)(hg:i.ty.agg=true:=by exact rfl)(hz:c'.sz=i.size:=by exact rfl)(hx:ev x=.pt k o:=by exact rfl)(hv:vs.lookup k=some (dC F):=by exact rfl)(hk:Nat.ble (k+1) N=true:=by exact rfl):AVC P tb dr (.load t x) ty ev ⟨vs,lv,N⟩ (Kq (dG c' b) ⟨vs,lv,N⟩):=by
 rw[qH,hx,m9,ht,hv]
 simp only[hg]
 refine⟨bg hk,by rw[gW,←hz];exact L.le,?_⟩
 have:((dC F).drop o).take i.size=(c'.f b).map D.e:=by
  unfold dC
  rw[←yo,←vA,←hz,L.g]
 rw[this]
 exact Kq.here _ _
theorem a4 {e:E}(L:ao F c' o b F')(ht:tb t=some i)(he:c'.f b=[e]:=by exact rfl)(hg:i.ty.agg=false:=by exact rfl)(hx:ev x=.pt k o:=by exact rfl)(hv:vs.lookup k=some (dC F):=by exact rfl)(hk:Nat.ble (k+1) N=true:=by exact rfl):AVC P tb dr (.load t x) ty ev ⟨vs,lv,N⟩ (Kq (.e e) ⟨vs,lv,N⟩):=by
 have hs:c'.sz=1:=by rw[←c'.h b,he];rfl
 have If:=L.g
 have hle:=L.le
 rw[hs] at If hle
 rw[he] at If
 rw[qH,hx,m9,ht,hv]
 simp only[hg]
 refine⟨bg hk,.e e,?_,Kq.here _ _⟩
 unfold dC
 rw[dc]
 have:F[o]? =some e:=by
  have h0:(F.drop o)[0]? =F[o]? :=by rw[pg,mf]
  have h1:((F.drop o).take 1)[0]? =(F.drop o)[0]? :=by rw[gY];rfl
  rw[←h0,←h1,If]
  rfl
 rw[this];rfl
theorem aO {b':β}(L:ao F c' o b F')(ht:tb t=some i)(hy:(ev y).cells=some (dC (c'.f b')):=by exact rfl)(hz:c'.sz=i.size:=by exact rfl)(hx:ev x=.pt k o:=by exact rfl)(hv:vs.lookup k=some (dC F):=by exact rfl):AVC P tb dr (.store t x y) ty ev ⟨vs,lv,N⟩ (Kq .top ⟨(k,dC (F' b'))::vs,lv,N⟩):=by
 rw[Bg,hx,xv,ht,hv,hy]
 have hl:(dC (c'.f b')).length=i.size:=by rw[gW,c'.h,hz]
 refine⟨hl,by rw[gW,←hz];exact L.le,?_⟩
 have:(dC F).take o++dC (c'.f b')++(dC F).drop (o+(dC (c'.f b')).length)=dC (F' b'):=by
  rw[hl,←hz,←L.p b']
  unfold dC
  simp only[mg,vA,yo]
 rw[this]
 exact Kq.here _ _
theorem jT {b':β}{γ:Type}{c:Cd γ}{nw nm:γ}(L:ao F c' o b F')(ht:tb t=some i)(LW:nw=nm)(hF:F' b'=c.f nw:=by exact rfl)(hy:(ev y).cells=some (dC (c'.f b')):=by exact rfl)(hz:c'.sz=i.size:=by exact rfl)(hx:ev x=.pt k o:=by exact rfl)(hv:vs.lookup k=some (dC F):=by exact rfl):AVC P tb dr (.store t x y) ty ev ⟨vs,lv,N⟩ (Kq .top ⟨(k,dC (c.f nm))::vs,lv,N⟩):=by
 have:=aO (P:=P) (dr:=dr) (ty:=ty) (lv:=lv) (N:=N) L ht hy hz hx hv
 rw[hF,LW] at this
 exact this
theorem bp(ht:tb t=some i)(hz:i.zero.map E.lit=F:=by kernel_rfl):AVC P tb dr (.alloc t) ty ev ⟨vs,lv,N⟩ (Kq (.pt N 0) ⟨(N,dC F)::vs,lv,N+1⟩):=by
 subst hz
 have:=b9 (P:=P) (dr:=dr) (ty:=ty) (ev:=ev) (vs:=vs) (lv:=lv) (N0:=N) ht
 unfold dC
 rw[mz]
 exact this
theorem T_boxV(h:(ev x).cells=some (dC F):=by exact rfl):AVC P tb dr (.box t x) ty ev ⟨vs,lv,N⟩ (Kq (.pt N 0) ⟨(N,dC F)::vs,lv,N+1⟩):=iX h
variable {hp:Hp} {j:TyE} {e:TypeId} {n:Nat} {kn:IntKind} {v:Int}
variable {s tt:TypeId} {fi:Nat} {fs:List (Nat×TypeId)}
inductive FL (tb:TypeId→Option TyE) (fs:List (Nat×TypeId)):List E→List (Nat×List D)→List E→Prop
 |nil (F:List E):FL tb fs F [] F
 |cons {γ:Type} {c:Cd γ} {F F2:List E} {o i:Nat} {b y:γ} {F':γ→List E} {rest:List (Nat×List D)} {cs:List D} (L:ao F c o b F') (hp:oP tb fs i=some (o,c.sz)) (hc:cs=dC (c.f y)) (h:FL tb fs (F' y) rest F2):FL tb fs F ((i,cs)::rest) F2
theorem FL.fill {F F2:List E}{qs:List (Nat×List D)}(h:FL tb fs F qs F2):fU (oP tb fs) (dC F) qs=some (dC F2):=by
 induction h with
 |nil F=>rfl
 |cons L hp hc h ih=>
  rename_i c F F2 o i b y F' rest cs
  subst hc
  unfold fU
  rw[hp]
  dsimp only
  have hl:(dC (c.f y)).length=c.sz:=by rw[gW,c.h]
  rw[ay (by rw[hl,gW];have:=L.le;omega),hl,←ih]
  congr 1
  rw[←L.p y]
  unfold dC
  simp only[mg,vA,yo]
theorem jz {ps:List (Nat×Operand)}{qs:List (Nat×List D)}{F2:List E}(h:FL tb fs F qs F2)(ht:tb t=some i)(h0:i.zero.map E.lit=F:=by kernel_rfl)(hi:i.ty=.struct fs:=by exact rfl)(ha:(fs.all fun f=>(tb f.2).isSome)=true:=by exact rfl)(hp1:kq (ps.map fun p=>(p.1,ev p.2))=some qs:=by exact rfl):AVC P tb dr (.build t ps.toArray) ty ev hp (Kq (.ag (dC F2)) hp):=by
 subst h0
 rw[wM,t6,ht,hp1]
 simp only[hi]
 have:(i.zero.map fun v=>D.e (.lit v))=dC (i.zero.map E.lit):=by unfold dC;rw[mz];rfl
 rw[this,h.fill]
 exact⟨fun f hf=>(bZ.1 ha) f hf,Kq.here _ _⟩
theorem vC {σ:Nat→Nat}{m:Nat}{l:List (Nat×List D)}{F:List E}(h1:vs.lookup (σ k)=some (dC F))(hl:wkV σ m vs l)(h0:Nat.ble (k+1) m=true:=by exact rfl):wkV σ m vs ((k,dC F)::l):=
 ⟨⟨ltb h0,⟨_,h1,by rw[OA];exact q8 _⟩,A8 (fun _=>rfl) _,A8 (fun _=>rfl) _⟩,hl⟩
def rnV(ρ:Nat→Nat):List (Nat×List D)→List (Nat×List D)→Prop
 |[],[]=>True
 |p::l,q::l'=>(ρ p.1=q.1∧p.2.map (D.renC ρ)=q.2∧p.2.all D.okC=true)∧rnV ρ l l'
 |_,_=>False
theorem rnV.map {ρ:Nat→Nat}:∀{l l':List (Nat×List D)},rnV ρ l l'→l.map (fun p=>(ρ p.1,p.2.map (D.renC ρ)))=l'∧(l.all fun p=>p.2.all D.okC)=true
 |[],[],_=>⟨rfl,rfl⟩
 |p::l,q::l',h=>by
  obtain⟨h1,h2⟩:=rnV.map h.2
  obtain⟨a,b,c⟩:=h.1
  refine⟨?_,by rw[jy,c,h2];rfl⟩
  rw[cp,h1,a,b]
 |[],_::_,h=>h.elim
 |_::_,[],h=>h.elim
theorem rvN {ρ:Nat→Nat}:rnV ρ [] []:=trivial
theorem rvC {ρ:Nat→Nat}{k k2:Nat}{F:List E}{l l':List (Nat×List D)}(h:rnV ρ l l')(hk:ρ k=k2:=by exact rfl):rnV ρ ((k,dC F)::l) ((k2,dC F)::l'):=⟨⟨hk,OA _ _,A8 (fun _=>rfl) _⟩,h⟩
theorem rvE {ρ:Nat→Nat}{k k2:Nat}{ds ds2:List D}{l l':List (Nat×List D)}(h:rnV ρ l l')(hk:ρ k=k2:=by exact rfl)(hd:ds.map (D.renC ρ)=ds2:=by exact rfl)(ho:ds.all D.okC=true:=by exact rfl):rnV ρ ((k,ds)::l) ((k2,ds2)::l'):=⟨⟨hk,hd,ho⟩,h⟩
theorem E1 {x:Operand}{f:FuncId}{aS:List Operand}{ts:Array TypeId}{Kb:List D}{r r':D}{Fb nH vs vs1 sT:List (Nat×List D)}{Fc sN lv B1:List (Nat×Nat×Nat×TypeId)}{m n' N N2:Nat}(os:List Nat)
  (vd:ev x=.e (.lit (.func (.func f) #[] #[]))) (hc:HC P f Kb ⟨Fb,Fc,m⟩ r ⟨nH,sN,n'⟩) (ha:frA (fun i=>os.getD i 0) m (aS.map ev) Kb) (hv:wkV (fun i=>os.getD i 0) m vs Fb) (hl:wkL (fun i=>os.getD i 0) m lv Fc) (hrn:rnV (rn os m N) nH vs1)
  (oN:r.ren (rn os m N)=r') (hr:r.okF=true) (hos:os.length=m:=by exact rfl) (vY:os.Nodup:=by decide) (bF:(os.all fun o=>Nat.ble (o+1) N)=true:=by exact rfl)
  (tX:vs1++vs.filter (fun p=>!os.contains p.1)=sT:=by exact rfl) (NQ:frL (rn os m N) os sN lv=B1:=by exact rfl) (hN:N+(n' - m)=N2:=by exact rfl)
  (hh:hvB tb ⟨.value x,aS.toArray,ts⟩=true:=by kernel_rfl):AVC P tb dr (.call ⟨.value x,aS.toArray,ts⟩) ty ev ⟨vs,lv,N⟩ (Kq r' ⟨sT,B1,N2⟩):=
 Kz vd (HC.fr os hc ha hv hl hos vY bF hr hrn.map.2 oN (by unfold frV;rw[hrn.map.1,tX]) NQ hN) rfl hh
theorem mj {x:Operand}{f:FuncId}{ks:List Nat}{aS:List Operand}{ts:Array TypeId}{Kb:List D}{r r':D}{Fb nH vs vs1 sT:List (Nat×List D)}{Fc sN lv B1:List (Nat×Nat×Nat×TypeId)}{m n' N N2:Nat}(os:List Nat)
  (vd:ev x=.fn f ks) (hc:HC P f Kb ⟨Fb,Fc,m⟩ r ⟨nH,sN,n'⟩) (ha:frA (fun i=>os.getD i 0) m (aS.map ev++ks.map fun k=>.pt k 0) Kb) (hv:wkV (fun i=>os.getD i 0) m vs Fb) (hl:wkL (fun i=>os.getD i 0) m lv Fc) (hrn:rnV (rn os m N) nH vs1)
  (oN:r.ren (rn os m N)=r') (hr:r.okF=true) (hos:os.length=m:=by exact rfl) (vY:os.Nodup:=by decide) (bF:(os.all fun o=>Nat.ble (o+1) N)=true:=by exact rfl)
  (tX:vs1++vs.filter (fun p=>!os.contains p.1)=sT:=by exact rfl) (NQ:frL (rn os m N) os sN lv=B1:=by exact rfl) (hN:N+(n' - m)=N2:=by exact rfl)
  (hh:hvB tb ⟨.value x,aS.toArray,ts⟩=true:=by kernel_rfl):AVC P tb dr (.call ⟨.value x,aS.toArray,ts⟩) ty ev ⟨vs,lv,N⟩ (Kq r' ⟨sT,B1,N2⟩):=
 T_callF vd (HC.fr os hc ha hv hl hos vY bF hr hrn.map.2 oN (by unfold frV;rw[hrn.map.1,tX]) NQ hN) rfl hh
theorem ex_G {α:Type}(c:Cd α)(a:α):D.ex (dG c a)=dG c a:=by
 show D.ag (((c.f a).map D.e).map D.exC)=_
 rw[mz];rfl
theorem fm {α:Type}(c:Cd α)(a:α):(D.ex (dG c a)).le (dG c a):=by rw[ex_G];exact an _
theorem uB {α:Type}(c:Cd α)(a:α):(dG c a).okF=true:=A8 (p:=D.okC) (fun _=>rfl) (c.f a)
theorem w5 {off z m:Nat}(hb:0≤v∧v<(n:Int))(ht:tb t=some i)(he:tb e=some j)(hi:i.ty=.slice e:=by exact rfl)(hx:ev x=.ow m off z n:=by exact rfl)(hz:z=j.size:=by exact rfl)(hy:ev y=dI kn v:=by exact rfl):AVC P tb dr (.indexAddr t x y) ty ev hp (Kq (.pt m (off+v.toNat*j.size)) hp):=by
 rw[si,hx,hy,qQ,ht]
 simp only[hi,he]
 exact⟨hz,hb,Kq.here _ _⟩
end
section
variable {P:Program} {tb:TypeId→Option TyE}
structure EqC(tb:TypeId→Option TyE)(d:Nat)(t:TypeId){α:Type}(c:Cd α)(us:α→List Value):Prop where
 hf:∀x,c.f x=(us x).map E.lit
 ft:∀x,mv tb d t (us x)
 inj:∀x y,us x=us y↔x=y
theorem EqC.int {d:Nat}{t:TypeId}{k:IntKind}{i:TyE}(ht:tb t=some i)(hi:i.ty=.int k:=by exact rfl):EqC tb (d+1) t (cI k) (fun n=>[.int k n]):=
 ⟨fun _=>rfl,fun n=>by unfold mv;rw[ht];simp only[hi];exact⟨n,rfl⟩,fun x y=>by simp⟩
theorem EqC.bool {d:Nat}{t:TypeId}{i:TyE}(ht:tb t=some i)(hi:i.ty=.bool:=by exact rfl):EqC tb (d+1) t cB (fun n=>[.bool n]):=
 ⟨fun _=>rfl,fun n=>by unfold mv;rw[ht];simp only[hi];exact⟨n,rfl⟩,fun x y=>by simp⟩
theorem EqC.len {d:Nat}{t:TypeId}{α:Type}{c:Cd α}{us:α→List Value}(h:EqC tb d t c us)(x:α):(us x).length=c.sz:=by
 rw[←c.h x,h.hf,ew]
theorem CG {α:Type}{f:α→List Value}{z:Nat}(hz:∀a,(f a).length=z):∀l:List α,(l.flatMap f).length=l.length*z
 |[]=>by simp
 |a::l=>by rw[qf,eT,hz,CG hz l,lX,bj,de,ls]
theorem Fz {α:Type}{f:α→List Value}{z:Nat}(hz:∀a,(f a).length=z):∀(l:List α) (i:Nat) (h:i<l.length),((l.flatMap f).drop (i*z)).take z=f l[i]
 |a::l,0,_=>by rw[fj,qg,qf,zc (by rw[hz];exact aL _),jD (by rw[hz];exact aL _)];rfl
 |a::l,i+1,h=>by
  rw[qf,bj,de,ls,←hz a,←oK,qU,hz a]
  exact Fz hz l i (by simpa using h)
theorem CH {α:Type}{f:α→List Value}{z:Nat}(hz:∀a,(f a).length=z)(hi:∀x y,f x=f y→x=y):∀l m:List α,l.length=m.length→l.flatMap f=m.flatMap f→l=m
 |[],[],_,_=>rfl
 |a::l,b::m,hl,h=>by
  rw[qf,qf] at h
  obtain⟨h1,h2⟩:=yn h (by rw[hz,hz])
  rw[hi a b h1,CH hz hi l m (by simpa using hl) h2]
 |[],_::_,hl,_=>by simp at hl
 |_::_,[],hl,_=>by simp at hl
theorem EqC.arr {d n:Nat}{t e:TypeId}{α:Type}{c:Cd α}{us:α→List Value}{i j:TyE}(h:EqC tb d e c us)(ht:tb t=some i)(he:tb e=some j)(hi:i.ty=.arr n e:=by exact rfl)(hz:c.sz=j.size:=by exact rfl):EqC tb (d+1) t (cA n c) (fun v=>v.toList.flatMap us):=by
 refine⟨fun v=>?_,fun v=>?_,fun v w=>⟨fun hh=>?_,fun hh=>by rw[hh]⟩⟩
 ·show v.toList.flatMap c.f=_
  rw[List.map_flatMap]
  congr 1
  exact funext h.hf
 ·unfold mv
  rw[ht]
  simp only[hi,he]
  have hl:=h.len
  refine⟨by rw[CG hl,mC,hz],fun q hq=>?_⟩
  rw[←hz,Fz hl _ _ (by rw[mC];exact hq)]
  exact h.ft _
 ·have:=CH h.len (fun x y hxy=>(h.inj x y).1 hxy) v.toList w.toList (by rw[mC,mC]) hh
  exact Vector.toList_inj.1 this
theorem qa {d o off:Nat}{t:TypeId}{fs:List (Nat×TypeId)}{α:Type}{c:Cd α}{us:α→List Value}{j:TyE}{x:α}{rest:List Value}(h:EqC tb d t c us)(ht:tb t=some j)(ho:o=off)(hr:ru tb (mv tb d) fs (off+j.size) rest)(hz:c.sz=j.size:=by exact rfl):ru tb (mv tb d) ((o,t)::fs) off (us x++rest):=by
 unfold ru
 have hl:=h.len x
 rw[ht]
 refine⟨ho,?_,by rw[eT];omega,?_⟩
 ·rw[←hz,←hl,oV];exact h.ft x
 ·rw[←hz,←hl,qU,hl,hz];exact hr
theorem EqC.struct {d:Nat}{t:TypeId}{α:Type}{c:Cd α}{us:α→List Value}{i:TyE}{fs:List (Nat×TypeId)}(ht:tb t=some i)(hf:∀x,c.f x=(us x).map E.lit)(Ff:∀x,ru tb (mv tb d) fs 0 (us x))(Cp:∀x y,us x=us y→x=y)(hi:i.ty=.struct fs:=by exact rfl):EqC tb (d+1) t c us:=
 ⟨hf,fun x=>by unfold mv;rw[ht];simp only[hi];exact Ff x,fun x y=>⟨Cp x y,fun h=>by rw[h]⟩⟩
theorem oA:∀us:List Value,kt (dC (us.map E.lit))=some us
 |[]=>rfl
 |u::us=>by
  show (kt (dC (us.map E.lit))).map (u::·)=_
  rw[oA us];rfl
variable {dr:Bool} {ty:TypeId} {ev:Operand→D} {x y:Operand} {hp:Hp} {α:Type} {c:Cd α} {us:α→List Value} {a b:α} {t t':TypeId} {i:TyE}
theorem vJ(tok:TOk P tb)(n:Nat)(hd:n≤10000)(h:EqC tb n t c us)(ht:tb t=some i)[DecidableEq α](hg:i.ty.agg=true:=by exact rfl)(hm:P.eqGuardType P.depth t=false:=by kernel_rfl)(hn:kG P n t=true:=by kernel_rfl)(hx:ev x=dG c a:=by exact rfl)(hy:ev y=dG c b:=by exact rfl):AVC P tb dr (.binOp .eql t x y t') ty ev hp (Kq (dB (decide (a=b))) hp):=by
 have e:∀z,(c.f z).map D.e=dC ((us z).map E.lit):=fun z=>by rw[h.hf];rfl
 exact T_geql tok n hd ht hg hm hn hx hy (by rw[e,oA]) (by rw[e,oA]) (h.ft a) (h.ft b) (h.inj a b)
theorem sw(tok:TOk P tb)(n:Nat)(hd:n≤10000)(h:EqC tb n t c us)(ht:tb t=some i)[DecidableEq α](hg:i.ty.agg=true:=by exact rfl)(hm:P.eqGuardType P.depth t=false:=by kernel_rfl)(hn:kG P n t=true:=by kernel_rfl)(hx:ev x=dG c a:=by exact rfl)(hy:ev y=dG c b:=by exact rfl):AVC P tb dr (.binOp .neq t x y t') ty ev hp (Kq (dB (decide (¬a=b))) hp):=by
 have e:∀z,(c.f z).map D.e=dC ((us z).map E.lit):=fun z=>by rw[h.hf];rfl
 exact T_gneq tok n hd ht hg hm hn hx hy (by rw[e,oA]) (by rw[e,oA]) (h.ft a) (h.ft b) (h.inj a b)
theorem yc(c:Cd α){z:Nat}(hz:c.sz=z):∀(l:List α) (m:Nat) (pre rest:List D),pre.length=m*z→rest.length=l.length*z→fU (fun n=>some (n*z,z)) (pre++rest) ((l.zipIdx m).map fun p=>(p.2,dC (c.f p.1)))=some (pre++dC (l.flatMap c.f))
 |[],m,pre,rest,_,hr=>by
  have:rest=[]:=kJ (by simpa using hr)
  subst this;rfl
 |a::l,m,pre,rest,hp,hr=>by
  have hl:(dC (c.f a)).length=z:=by rw[gW,c.h,hz]
  rw[lX,bj,de] at hr
  show fU (fun n=>some (n*z,z)) (pre++rest) ((m,dC (c.f a))::(l.zipIdx (m+1)).map _)=_
  unfold fU
  dsimp only
  rw[ay (by rw[hl,eT];omega),←hp,oV,hl,←oK,qU]
  have:=yc c hz l (m+1) (pre++dC (c.f a)) (rest.drop z) (by rw[eT,hl,hp,bj,de]) (by rw[gi];omega)
  rw[this,dP]
  unfold dC
  rw[qf,mg]
theorem yj:∀es:List E,se (dC es)=some es
 |[]=>rfl
 |e::es=>by
  show (match D.cellE (.e e),se (dC es) with|some x,some xs=>some (x::xs)|_,_=>none)=_
  rw[yj es];rfl
theorem qm {vs:List (Nat×List D)}{lv:List (Nat×Nat×Nat×TypeId)}{N0:Nat}{e:TypeId}{j:TyE}{n:Nat}{ps:List (Nat×Operand)}(l:List α)(c:Cd α)(ht:tb t=some i)(he:tb e=some j)(hi:i.ty=.slice e:=by exact rfl)(hz:c.sz=j.size:=by exact rfl)(HZ:Nat.ble (0+1) (j.size)=true:=by exact rfl)(Id:l.length=n+1:=by exact rfl)(hn:Nat.ble ((n+1)*j.size) (16777216)=true:=by exact rfl)(hp1:kq (ps.map fun p=>(p.1,ev p.2))=some ((l.zipIdx 0).map fun p=>(p.2,dC (c.f p.1))):=by exact rfl)(hd:dr=false:=by exact rfl):
  AVC P tb dr (.buildSlice t (n+1) ps.toArray) ty ev ⟨vs,lv,N0⟩ (Kq (dO N0 c l) ⟨vs,(N0,l.length,j.size,e)::lv,N0+1⟩):=by
 have hf:=yc c hz l 0 [] (List.replicate ((n+1)*j.size) (D.e .any)) (by simp) (by rw[uN,Id])
 rw[ph,ph] at hf
 have:=iW (P:=P) (dr:=dr) (ty:=ty) (ev:=ev) (vs:=vs) (lv:=lv) (N0:=N0) ht he hi HZ hn hp1 hf (yj _) hd
 show AVC _ _ _ _ _ _ _ (Kq (.own N0 c.sz l.length (l.flatMap c.f)) _)
 rw[hz,Id]
 exact this
theorem pR {tm:List (Nat×D)}{p:Tmp}{ty:TypeId}{j:Nat}{i:TyE}{F:List E}{k:D→Prop}(h:tm.lookup p=some (.pt j 0))(ht:tb ty=some i)(hg:i.ty.agg=true)(hv:hp.vars.lookup j=some (dC F))(hn:j<hp.next)(hl:F.length=i.size)(hk:k (.ag (dC F))):oO tb tm hp (.cell p ty) k:=
 ey h ht hg hv hn (by rw[gW,hl];omega) (by rw[qg,jD (by rw[gW,hl];exact aL _)]) hk
end
end
section
structure FW(α:Type) where
 f:α→List E
def cW {α:Type}(c:Cd α):FW (List α):=⟨fun l=>l.flatMap c.f⟩
theorem ao.seqW {α:Type}[Inhabited α](c:Cd α)(l:List α)(i:Nat)(h:i<l.length):ao ((cW c).f l) c (0+i*c.sz) l[i]! (fun y=>(cW c).f (l.set i y)):=by
 rw[br];exact ao.seq c l i h
def vOf {α:Type}[Inhabited α](n:Nat)(l:List α):Vector α n:=Vector.ofFn fun i=>l[i.val]!
theorem uU {α:Type}[Inhabited α]{n:Nat}{l:List α}(h:l.length=n):(vOf n l).toList=l:=by
 unfold vOf
 apply Ku
 ·rw[mC,h]
 ·intro i h1 h2
  rw[Vector.getElem_toList,I8,eG l i h2]
theorem vOf_f {α:Type}[Inhabited α](c:Cd α){n:Nat}{l:List α}(h:l.length=n):(cA n c).f (vOf n l)=l.flatMap c.f:=by
 show (vOf n l).toList.flatMap c.f=_
 rw[uU h]
theorem ao.sub {α:Type}[Inhabited α]{n:Nat}(m:Nat)(c:Cd α)(v:Vector α n)(i:Nat)(h:i+m≤n){o:Nat}(ho:i*c.sz=o):ao ((cA n c).f v) (cA m c) o (vOf m ((v.toList.drop i).take m)) (fun y=>((cA n c).f v).take o++(cA m c).f y++((cA n c).f v).drop (o+m*c.sz)):=by
 subst ho
 have hl:((v.toList.drop i).take m).length=m:=by rw[eI,gi,mC];omega
 refine⟨?_,?_,fun y=>rfl⟩
 ·rw[(cA n c).h]
  show i*c.sz+m*c.sz≤n*c.sz
  rw[←bj];exact cg _ h
 ·rw[vOf_f c hl]
  show ((v.toList.flatMap c.f).drop (i*c.sz)).take (m*c.sz)=_
  rw[mJ c.f c.h,kj c.f c.h]
section
variable {P:Program} {tb:TypeId→Option TyE} {md:Md} {ev:Operand→D} {hp:Hp} {dst:Option Tmp} {ty2:TypeId} {pos:String} {af:Array Edge} {gd:Option (Nat×Bool)} {x y:Operand} {lo hi:Option Operand} {t t2 e:TypeId} {ti j:TyE} {k k' off o o' z n m:Nat} {l h:Int}
def LA(ev:Operand→D)(b:Option Operand)(Cy l:Int):Prop:=
 match b with
 |none=>l=Cy
 |some y=>∃k,ev y=dI k l
theorem LA.val {b:Option Operand}{Cy l:Int}(h:LA ev b Cy l){L:Nat}(hL:l=L){N:Nat}(hN:Cy=N){g:Gh}{w:World}{ρ:Operand→Value}(hr:∀y,b=some y→aM hp g w (ev y) (ρ y)):(b.map ρ=none∧L=N)∨∃kd,b.map ρ=some (.int kd (L:Int)):=by
 cases b with
 |none=>exact .inl ⟨rfl,by have:l=Cy:=h;omega⟩
 |some y=>
  obtain⟨kd,hy⟩:=h
  have:=hr y rfl
  rw[hy] at this
  exact .inr ⟨kd,by rw[←hL,mM,this.lit]⟩
theorem slA(tok:TOk P tb)(hb:0≤l∧l≤h∧h≤(n:Int)∧l<(n:Int))(ht:tb t=some ti)(he:tb e=some j)(AJ:LA ev lo 0 l)(Hl:LA ev hi (n:Int) h)(yR:ti.ty=.arr n e:=by exact rfl)(hx:ev x=.pt k off:=by exact rfl)(hn:Nat.ble n 1000000=true:=by exact rfl):
  mD P tb md ⟨dst,.slice t x lo hi none,ty2,pos,af,gd⟩ ev hp (.ow k (off+l.toNat*j.size) j.size (h - l).toNat) hp:=by
 refine (Snd.calm (dr:=md.dr) fun bG _=>.pure fun B g w a hr vX=>?_).q (by cases md <;> rfl)
 have h1:=vX x (by simp[Op.operands])
 rw[hx] at h1
 obtain⟨L,rfl⟩:∃L:Nat,l=L:=⟨l.toNat,by omega⟩
 obtain⟨H,rfl⟩:∃H:Nat,h=H:=⟨h.toNat,by omega⟩
 have e1:((H:Int) - L).toNat=H - L:=by omega
 have hn':n≤1000000:=bg hn
 have hbd:=jJ (P:=P) (w:=w) false n n (lo.map a.eval) (hi.map a.eval) L H (AJ.val rfl rfl fun y hy=>vX y (by subst hy;simp[Op.operands])) (Hl.val rfl rfl fun y hy=>vX y (by subst hy;simp[Op.operands])) (by omega) (by omega)
 have hs:=tok.run_sizeOf he w
 generalize hv:a.eval x=v at h1
 cases h1 with
 |pt _ _ hk=>
  refine⟨.slice (some ⟨g.μ k,off+L*j.size,none⟩) (H - L) (n - L),?_,?_⟩
  ·have lg:¬n=L:=by omega
   have Lq:(⟨g.μ k,off,none⟩:Addr).add (L*j.size)=⟨g.μ k,off+L*j.size,none⟩:=by unfold Addr.add;split <;> simp_all
   simp[execOp,Instr.sliceAt,Instr.sureAddr,hv,run_underlying (tok.arr ht yR),hbd,hs,lg,Lq]
  ·rw[e1,bL]
   exact .ow _ _ _ _ _ hk (by omega) (by unfold maxLen;omega)
theorem slW(tok:TOk P tb)(hb:0≤l∧l≤h∧h≤(n:Int)∧l<(n:Int))(ht:tb t=some ti)(he:tb e=some j)(AJ:LA ev lo 0 l)(Hl:LA ev hi (n:Int) h)(yR:ti.ty=.slice e:=by exact rfl)(hx:ev x=.ow k off z n:=by exact rfl)(hz:z=j.size:=by exact rfl):
  mD P tb md ⟨dst,.slice t x lo hi none,ty2,pos,af,gd⟩ ev hp (.ow k (off+l.toNat*z) z (h - l).toNat) hp:=by
 subst hz
 refine (Snd.calm (dr:=md.dr) fun bG _=>.pure fun B g w a hr vX=>?_).q (by cases md <;> rfl)
 have h1:=vX x (by simp[Op.operands])
 rw[hx] at h1
 obtain⟨L,rfl⟩:∃L:Nat,l=L:=⟨l.toNat,by omega⟩
 obtain⟨H,rfl⟩:∃H:Nat,h=H:=⟨h.toNat,by omega⟩
 have e1:((H:Int) - L).toNat=H - L:=by omega
 have hs:=tok.run_sizeOf he w
 generalize hv:a.eval x=v at h1
 cases h1 with
 |ow _ _ _ _ c hk oB nJ=>
  have hbd:=jJ (P:=P) (w:=w) true n c (lo.map a.eval) (hi.map a.eval) L H (AJ.val rfl rfl fun y hy=>vX y (by subst hy;simp[Op.operands])) (Hl.val rfl rfl fun y hy=>vX y (by subst hy;simp[Op.operands])) (by omega) (by omega)
  refine⟨.slice (some ⟨g.μ k,off+L*j.size,none⟩) (H - L) (c - L),?_,?_⟩
  ·have lg:¬c=L:=by omega
   have Lq:(⟨g.μ k,off,none⟩:Addr).add (L*j.size)=⟨g.μ k,off+L*j.size,none⟩:=by unfold Addr.add;split <;> simp_all
   simp[execOp,Instr.sliceAt,Instr.slice,hv,run_underlying (tok.slice ht yR),hbd,hs,lg,Lq]
  ·rw[e1,bL]
   exact .ow _ _ _ _ _ hk (by omega) (by omega)
theorem sPtr(tok:TOk P tb)(hm:Nat.ble m n=true)(ht:tb t=some ti)(yR:ti.ty=.arr m e:=by exact rfl)(hx:ev x=.ow k off z n:=by exact rfl):
  mD P tb md ⟨dst,.sliceToArrayPointer t x,ty2,pos,af,gd⟩ ev hp (.pt k off) hp:=by
 refine (Snd.calm (dr:=md.dr) fun bG _=>.pure fun B g w a hr vX=>?_).q (by cases md <;> rfl)
 have h1:=vX x (by simp[Op.operands])
 rw[hx] at h1
 have wx:=bg hm
 generalize hv:a.eval x=v at h1
 cases h1 with
 |ow _ _ _ _ c hk oB nJ=>
  refine⟨.pointer (some ⟨g.μ k,off,none⟩),?_,.pt _ _ hk⟩
  have lg:¬n<m:=by omega
  simp[execOp,Instr.arrayAt,hv,run_underlying (tok.arr ht yR),lg]
theorem yB {dr:Bool}{ty:TypeId}(ht:tb t=some ti)(he:tb e=some j)(hi:ti.ty=.slice e:=by exact rfl)(hx:ev x=.ow k off z n:=by exact rfl):AVC P tb dr (.call ⟨.builtin .len,#[x],#[t]⟩) ty ev hp (Kq (dI .i64 n) hp):=by
 show ju tb .len [t] [ev x] hp _
 rw[za,JM,ht]
 simp only[hi,he,hx,D.asSl]
 exact Kq.here _ _
theorem T_stVw {dr:Bool}{ty:TypeId}{vs:List (Nat×List D)}{lv:List (Nat×Nat×Nat×TypeId)}{N:Nat}{F:List E}{β γ:Type}{c':Cd β}{b b':β}{F':β→List E}{c:Cd γ}{nw nm:List γ}(L:ao F c' o b F')(ht:tb t=some ti)(LW:nw=nm)(hF:F' b'=(cW c).f nw:=by exact rfl)(hy:(ev y).cells=some (dC (c'.f b')):=by exact rfl)(hz:c'.sz=ti.size:=by exact rfl)(hx:ev x=.pt k o:=by exact rfl)(hv:vs.lookup k=some (dC F):=by exact rfl):AVC P tb dr (.store t x y) ty ev ⟨vs,lv,N⟩ (Kq .top ⟨(k,dC ((cW c).f nm))::vs,lv,N⟩):=by
 have:=aO (P:=P) (dr:=dr) (ty:=ty) (lv:=lv) (N:=N) L ht hy hz hx hv
 rw[hF,LW] at this
 exact this
theorem CU(z:Array Value)(s:Nat)(hs:z.size=s):∀n:Nat,(madeCells z (n*s)).toList=(List.replicate n z.toList).flatten
 |0=>by simp[madeCells]
 |n+1=>by
  have ih:=CU z s hs n
  unfold madeCells at ih ⊢
  rw[Array.toList_map,Array.toList_range] at ih ⊢
  rw[bj,de,List.range_add,mg,ih,List.replicate_succ',List.flatten_append]
  congr 1
  rw[mz,List.flatten_cons,List.flatten_nil,tG]
  apply Ku
  ·simp[hs]
  ·intro i h1 h2
   have hi:i<s:=by simpa using h1
   simp only[Kv,List.getElem_range,Function.comp]
   rw[hs,cj,Nat.mul_add_mod,dJ hi,eG z i (by omega),Array.getElem_toList]
theorem sMk {α:Type}{c:Cd α}{z0:α}{kl kc:IntKind}{v:Int}{hp':Hp}(tok:TOk P tb)(hb:0≤v∧v≤1000000)(ht:tb t=some ti)(he:tb e=some j)(hz:j.zero.map E.lit=c.f z0)(yR:ti.ty=.slice e:=by exact rfl)(hx:ev x=dI kl v:=by exact rfl)(hy:ev y=dI kc v:=by exact rfl)(hbt:Nat.ble j.bytes 100000000=true:=by exact rfl)(hp1:hp.var (dC ((cW c).f (List.replicate v.toNat z0)))=hp':=by exact rfl):
  mD P tb md ⟨dst,.makeSlice t x y,ty2,pos,af,gd⟩ ev hp (.ow hp.next 0 j.size v.toNat) hp':=by
 subst hp1
 refine (Snd.loud (dr:=md.dr) (.step fun B g w a hr vX=>?_) (fun _=>rfl) fun _=>⟨dH _,fun j hj=>ar (by omega)⟩).q (by cases md <;> rfl)
 have h1:=vX x (by simp[Op.operands])
 have h2:=vX y (by simp[Op.operands])
 rw[hx] at h1;rw[hy] at h2
 obtain⟨f,zz,LX,JW,hf2,hf3,hf4,_⟩:=tok.inf he
 have hbt':f.bytes≤100000000:=by rw[hf2];exact bg hbt
 obtain⟨m,rfl⟩:∃m:Nat,v=m:=⟨v.toNat,by omega⟩
 have hm:m≤1000000:=by omega
 have JS:f.bytes*m≤281474976710656:=cU (pC hbt' hm) (by decide)
 have bK:=run_make (P:=P) w t e f zz (tok.slice ht yR) LX hf3 kl kc m m (by omega) (by omega) (by rw[←oa];exact Int.ofNat_le.2 JS) (by omega)
 rw[bL] at bK
 have hsz:zz.cells.size=f.size:=by
  have h4:=(tok e j he).2.2.1
  rw[←eg,hf4,h4,JW]
 have hlist:=CU zz.cells f.size hsz m
 have hcont:(cW c).f (List.replicate m z0)=(madeCells zz.cells (m*f.size)).toList.map E.lit:=by
  rw[hlist,hf4,List.map_flatten,Kx,hz]
  show (List.replicate m z0).flatMap c.f=_
  rw[List.flatMap_def,Kx]
 have h1c:∀u∈(madeCells zz.cells (m*f.size)).toList,u.oneCell'=true:=by
  intro u hu
  rw[hlist,hf4] at hu
  obtain⟨l,hl,JR⟩:=List.mem_flatten.1 hu
  obtain rfl:=(List.mem_replicate.1 hl).2
  exact bZ.1 (tok e j he).2.2.2 u JR
 refine⟨.slice (some ⟨w.heap.size,0,none⟩) m m,_,w.alloc (.cells (madeCells zz.cells (m*f.size)) e),?_,hr.newVar _ _ e ?_ (fun i u hu=>?_),bI.var hp g w _ _,?_,(Below.refl _ _).alloc hr.base _,fun p _ h=>.inl h⟩
 ·have e1:=h1.lit
  have e2:=h2.lit
  simp only[execOp,e1,e2,Sem.run_bind,bK,Result.andThen_ok]
  rfl
 ·rw[bL,hcont,gW,ew,eg];exact aL _
 ·have sG:(madeCells zz.cells (m*f.size)).toList[i]? =some u:=by simpa using hu
  refine⟨fun _=>h1c u (b8 sG),fun d hd=>?_⟩
  rw[bL,hcont] at hd
  unfold dC at hd
  rw[dc,dc,sG] at hd
  injection hd with hd
  subst hd
  exact .e _ _ (.lit u (h1c u (b8 sG)))
 ·rw[bL]
  have:=aM.ow (hp:=hp.var (dC ((cW c).f (List.replicate ((m:Int).toNat) z0)))) (g:=g.var hp.next w.heap.size) (w:=w.alloc (.cells (madeCells zz.cells (m*f.size)) e)) hp.next 0 j.size m m (dY _) (aL _) (by unfold maxLen;omega)
  rwa[show (g.var hp.next w.heap.size).μ hp.next=w.heap.size from az rfl] at this
theorem KY(w:World)(t t2 ty e:TypeId)(i:TypeInfo)(hu:P.underlying t=some (.slice e))(hi:P.info? e=some i)(b o n c:Nat)(A:Option Addr)(m c':Nat)(cur:Array Value)(tt:TypeId)(cs:List Value)(hA:0<m→∃ad,A=some ad)(hl:cs.length=min m n*i.size)
  (Np:∀ad,A=some ad→∀j v,cs[j]? =some v→w.cell? (ad.add j)=some v) (hg:w.heap[b]? =some (.cells cur tt (0,0))) (Cs:o+cs.length≤cur.size) (h1:∀v∈cs,v.oneCell'=true):
  (Builtin.copy_ #[t,t2] ty #[.slice (some ⟨b,o,none⟩) n c,.slice A m c']).run P w=   .ok (goInt ((min m n:Nat):Int)) (w.setRow b (cur.toList.take o++cs++cur.toList.drop (o+cs.length)).toArray):=by
 have xU:=run_storeCells_at P b o tt cs 0 cur w hg (by simpa using Cs) h1
 have e0:Nat.min m n=min m n:=rfl
 cases A with
 |none=>
  have hm:m=0:=by
   rcases iS m with h|h
   ·exact h
   ·obtain⟨_,h⟩:=hA h;cases h
  subst hm
  have:cs=[]:=kJ (by rw[hl];simp)
  subst this
  simp at xU
  simp[Builtin.copy_,run_underlying hu,Builtin.lenOf,Builtin.firstCells,sizeOf,typeInfo,hi,xU]
 |some a=>
  have vZ:=run_loadCells_list (P:=P) w a cs (Np a rfl)
  rw[hl] at vZ
  simp[Builtin.copy_,run_underlying hu,Builtin.lenOf,Builtin.firstCells,sizeOf,typeInfo,hi,e0,vZ,xU]
def tO(hp:Hp)(d:D)(z m:Nat)(xs:List E):Prop:=xs.length=m*z∧∀(B:Nat) (g:Gh) (w:World) (v:Value),HR B hp g w→aM hp g w d v→
 ∃A c us,v=.slice A m c∧(0<m→∃ad,A=some ad)∧(∀ad,A=some ad→∀j u,us[j]? =some u→w.cell? (ad.add j)=some u)∧Pw (cG w g.F) xs us
theorem tO.own {vs:List (Nat×List D)}{lv:List (Nat×Nat×Nat×TypeId)}{N:Nat}{F:List E}{xs:List E}(hv:vs.lookup k=some (dC F))(hle:off+m*z≤F.length)(hF:(F.drop off).take (m*z)=xs):tO ⟨vs,lv,N⟩ (.ow k off z m) z m xs:=by
 subst hF
 refine⟨by rw[eI,gi];omega,fun B g w v hr hd=>?_⟩
 cases hd with
 |ow _ _ _ _ c hk oB nJ=>
  obtain⟨h1,h2,h3,cs,ty,h4,h5,h6⟩:=hr.var k _ hv
  rw[gW] at h5
  refine⟨_,c,(cs.toList.drop off).take (m*z),rfl,fun _=>⟨_,rfl⟩,fun ad ha j u hu=>?_,?_,fun j x u hx hu=>?_⟩
  ·injection ha with ha
   subst ha
   rw[gY] at hu
   split at hu
   ·rw[pg,vu] at hu
    have Lq:(⟨g.μ k,off,none⟩:Addr).add j=⟨g.μ k,off+j,none⟩:=by unfold Addr.add;split <;> simp_all
    rw[Lq]
    simpa[World.cell?,h4] using hu
   ·cases hu
  ·simp only[eI,gi,eg];omega
  ·rw[gY] at hx hu
   split at hx
   ·rename_i hj
    rw[az hj,pg,vu] at hu
    rw[pg] at hx
    have:=(h6 (off+j) u hu).2 (.e x) (by unfold dC;rw[dc,hx];rfl)
    cases this
    assumption
   ·cases hx
theorem tO.dat {hp:Hp}{d:D}{z m:Nat}{xs:List E}(h:d.asSl z=some (m,xs))(hl:xs.length=m*z):tO hp d z m xs:=by
 refine⟨hl,fun B g w v hr hd=>?_⟩
 obtain⟨A,c,rfl,cM⟩:=qe hd h
 obtain⟨_,_,_,_,hA,us,JR,hc,hp⟩:=cM.reads
 exact⟨A,c,us,rfl,fun hm=>(hA hm).imp fun ad h=>h.1,fun ad ha j u hu=>(hc ad ha j u hu).1,hp⟩
theorem cG.oneL {w:World}{F:Addr→Prop}{xs:List E}{us:List Value}(h:Pw (cG w F) xs us):∀u∈us,u.oneCell'=true:=by
 intro u hu
 obtain⟨i,hi⟩:=List.mem_iff_getElem?.1 hu
 have:i<xs.length:=by rw[h.1];exact (pf.1 hi).1
 exact (h.2 i xs[i] u (e7 this) hi).one
theorem sCp {vs:List (Nat×List D)}{lv:List (Nat×Nat×Nat×TypeId)}{N:Nat}{F xs:List E}(tok:TOk P tb)(ht:tb t=some ti)(he:tb e=some j)(hs:tO ⟨vs,lv,N⟩ (ev y) z m xs)(hv:vs.lookup k=some (dC F))(Cs:off+n*z≤F.length)(yR:ti.ty=.slice e:=by exact rfl)(hx:ev x=.ow k off z n:=by exact rfl)(hz:z=j.size:=by exact rfl):
  mD P tb md ⟨dst,.call ⟨.builtin .copy,#[x,y],#[t,t2]⟩,ty2,pos,af,gd⟩ ev ⟨vs,lv,N⟩ (dI .i64 (min m n:Nat)) ⟨(k,dC (F.take off++xs.take (min m n*z)++F.drop (off+min m n*z)))::vs,lv,N⟩:=by
 subst hz
 refine (Snd.loud (dr:=md.dr) (.step fun B g w a hr vX=>?_) (fun _=>rfl) fun h=>by simp[FA,cpB] at h).q (by cases md <;> rfl)
 have h1:=vX x (cz (by simp))
 have h2:=vX y (cz (by simp))
 rw[hx] at h1
 obtain⟨zS,hs⟩:=hs
 obtain⟨A,c',us,hy,hA,Np,ui⟩:=hs B g w _ hr h2
 obtain⟨q1,q2,q3,cs,ty,q4,q5,q6⟩:=hr.var k _ hv
 rw[gW] at q5
 obtain⟨f,zz,LX,JW,_⟩:=tok.inf he
 have NN:min m n*j.size≤n*j.size:=cg _ (Nat.min_le_right _ _)
 have hmin2:min m n*j.size≤m*j.size:=cg _ (Nat.min_le_left _ _)
 have JR:us.length=m*j.size:=by rw[←ui.1,zS]
 have htl:(us.take (min m n*j.size)).length=min m n*j.size:=by rw[eI];omega
 have hxt:(xs.take (min m n*j.size)).length=min m n*j.size:=by rw[eI];omega
 generalize hv1:a.eval x=v1 at h1
 cases h1 with
 |ow _ _ _ _ c hk oB nJ=>
  have Lf:∀u∈us.take (min m n*j.size),u.oneCell'=true:=fun u hu=>cG.oneL ui u (IM hu)
  have bK:=KY (P:=P) w t t2 ty2 e f (tok.slice ht yR) LX (g.μ k) off n c A m c' cs ty (us.take (min m n*j.size)) hA (by rw[htl,JW]) (fun ad ha i v hi=>Np ad ha i v (by
   rw[gY] at hi
   split at hi
   ·exact hi
   ·cases hi)) q4 (by omega) Lf
  have NU:=setRow_heap w (g.μ k) cs (cs.toList.take off++us.take (min m n*j.size)++cs.toList.drop (off+(us.take (min m n*j.size)).length)).toArray ty (0,0) q4
  have NY:eH ⟨vs,lv,N⟩ g w (dC F) (cs.toList.take F.length):=⟨⟨by simp only[gW,eI,eg];omega,fun i d u hd hu=>(q6 i u (by
   rw[gY] at hu
   split at hu
   ·simpa using hu
   ·cases hu)).2 d hd⟩,fun u hu=>by
   obtain⟨i,hi⟩:=List.mem_iff_getElem?.1 hu
   rw[gY] at hi
   split at hi
   ·rename_i bF
    exact (q6 i u (by simpa using hi)).1 (by rw[gW];exact bF)
   ·cases hi⟩
  have hmid:eH ⟨vs,lv,N⟩ g w (dC (xs.take (min m n*j.size))) (us.take (min m n*j.size)):=by
   refine⟨⟨by rw[gW,hxt,htl],fun i d u hd hu=>?_⟩,Lf⟩
   unfold dC at hd
   rw[dc] at hd
   cases hx':(xs.take (min m n*j.size))[i]? with
   |none=>rw[hx'] at hd;cases hd
   |some x'=>
    rw[hx'] at hd
    injection hd with hd
    subst hd
    exact .e _ _ ((ui.take _).2 i x' u hx' hu)
  have sP:eH ⟨vs,lv,N⟩ g w (dC (F.take off++xs.take (min m n*j.size)++F.drop (off+min m n*j.size))) ((cs.toList.take off++us.take (min m n*j.size)++cs.toList.drop (off+(us.take (min m n*j.size)).length)).take F.length):=by
   have:=((NY.take off).append hmid).append (NY.drop (off+min m n*j.size))
   rw[htl]
   have e1:(cs.toList.take off++us.take (min m n*j.size)++cs.toList.drop (off+min m n*j.size)).take F.length=((cs.toList.take F.length).take off++us.take (min m n*j.size))++(cs.toList.take F.length).drop (off+min m n*j.size):=by
    have hlA:(cs.toList.take off++us.take (min m n*j.size)).length=off+min m n*j.size:=by rw[eT,htl,eI,eg];omega
    rw[IS,hlA,jD (by rw[hlA];omega),G0,Dd,tD (show off≤F.length by omega)]
   rw[e1]
   unfold dC at this ⊢
   simpa only[mg,vA,yo] using this
  have Id:(F.take off++xs.take (min m n*j.size)++F.drop (off+min m n*j.size)).length=F.length:=by
   simp only[eT,eI,gi];omega
  have Gm:=SzB.row (new:=(cs.toList.take off++us.take (min m n*j.size)++cs.toList.drop (off+(us.take (min m n*j.size)).length)).toArray) q4 (by simp only[lW,eT,eI,gi,eg];omega)
  refine⟨goInt ((min m n:Nat):Int),g,_,?_,hr.setVar hv _ _ ty (by simp[World.setRow]) (fun b hb=>setRow_other w _ b _ hb) NU (by rw[gW,Id];simp only[lW,eT,eI,gi,eg];omega) Gm (fun i u hu=>?_),bI.setVar hr hv _ (by simp[World.setRow]) (fun b hb=>setRow_other w _ b _ hb) Gm,.e _ _ (.lit _ rfl),uL w q2 _,fun _ _ h=>h⟩
  ·simp only[execOp,Array.map_map,EF,cp,dh,resolve,invoke,builtin,hv1,hy,Sem.run_bind]
   simp[resolve,invoke,builtin,hv1,hy,bK]
  ·have sG:(cs.toList.take off++us.take (min m n*j.size)++cs.toList.drop (off+(us.take (min m n*j.size)).length))[i]? =some u:=by simpa using hu
   have hw:i<F.length→((cs.toList.take off++us.take (min m n*j.size)++cs.toList.drop (off+(us.take (min m n*j.size)).length)).take F.length)[i]? =some u:=fun hi=>by
    rw[gY,az hi];exact sG
   exact⟨fun hi=>sP.2 u (b8 (hw (by rw[gW,Id] at hi;exact hi))),fun d hd=>sP.1.2 i d u hd (hw (by rw[←Id,←gW];exact (pf.1 hd).1))⟩
def lCp {α:Type}(l:List α)(o:Nat)(s:List α):List α:=l.take o++s++l.drop (o+s.length)
theorem lCp_len {α:Type}{l s:List α}{o:Nat}(h:o+s.length≤l.length):(lCp l o s).length=l.length:=by
 unfold lCp;simp only[eT,eI,gi];omega
theorem Gf {α:Type}(c:Cd α)(l s:List α)(o:Nat):(lCp l o s).flatMap c.f=(l.flatMap c.f).take (o*c.sz)++s.flatMap c.f++(l.flatMap c.f).drop (o*c.sz+s.length*c.sz):=by
 unfold lCp
 rw[Br,Br,kj c.f c.h,←bj,mJ c.f c.h]
section
variable {α:Type} [Inhabited α] {c:Cd α} {vs:List (Nat×List D)} {lv:List (Nat×Nat×Nat×TypeId)} {N N0:Nat}
theorem tO.arr {v:Vector α N0}(hv:vs.lookup k=some (dC ((cA N0 c).f v)))(o:Nat)(hm:o+m≤N0)(ho:off=o*c.sz:=by exact rfl)(hz:z=c.sz:=by exact rfl):tO ⟨vs,lv,N⟩ (.ow k off z m) z m (((v.toList.drop o).take m).flatMap c.f):=by
 subst ho hz
 refine tO.own hv ?_ ?_
 ·rw[(cA N0 c).h]
  show o*c.sz+m*c.sz≤N0*c.sz
  rw[←bj];exact cg _ hm
 ·show ((v.toList.flatMap c.f).drop (o*c.sz)).take (m*c.sz)=_
  rw[mJ c.f c.h,kj c.f c.h]
theorem tO.lst {l:List α}(hv:vs.lookup k=some (dC ((cW c).f l)))(o:Nat)(hm:o+m≤l.length)(ho:off=o*c.sz:=by exact rfl)(hz:z=c.sz:=by exact rfl):tO ⟨vs,lv,N⟩ (.ow k off z m) z m (((l.drop o).take m).flatMap c.f):=by
 subst ho hz
 refine tO.own hv ?_ ?_
 ·show _≤(l.flatMap c.f).length
  rw[jC c.f c.h,←bj];exact cg _ hm
 ·show ((l.flatMap c.f).drop (o*c.sz)).take (m*c.sz)=_
  rw[mJ c.f c.h,kj c.f c.h]
theorem sCpA {v:Vector α N0}{s:List α}{r:List (Nat×List D)}(tok:TOk P tb)(ht:tb t=some ti)(he:tb e=some j)(hs:tO ⟨vs,lv,N⟩ (ev y) z m (s.flatMap c.f))(LT:s.length=m)(hv:vs.lookup k=some (dC ((cA N0 c).f v)))(o:Nat)(Cs:o+n≤N0)(hr:(k,dC ((cA N0 c).f (vOf N0 (lCp v.toList o (s.take n)))))::vs=r)(ho:off=o*c.sz:=by exact rfl)(CZ:z=c.sz:=by exact rfl)(yR:ti.ty=.slice e:=by exact rfl)(hx:ev x=.ow k off z n:=by exact rfl)(hz:z=j.size:=by exact rfl):
  mD P tb md ⟨dst,.call ⟨.builtin .copy,#[x,y],#[t,t2]⟩,ty2,pos,af,gd⟩ ev ⟨vs,lv,N⟩ (dI .i64 (min m n:Nat)) ⟨r,lv,N⟩:=by
 subst ho CZ hr
 have:=sCp (P:=P) (md:=md) (dst:=dst) (ty2:=ty2) (pos:=pos) (af:=af) (gd:=gd) (t2:=t2) (lv:=lv) tok ht he hs hv (by
  rw[(cA N0 c).h]
  show _≤N0*c.sz
  rw[←bj];exact cg _ Cs) yR hx hz
 have e1:(s.take n).length=min m n:=by rw[eI,LT,Nat.min_comm]
 have e2:(cA N0 c).f (vOf N0 (lCp v.toList o (s.take n)))=((cA N0 c).f v).take (o*c.sz)++(s.flatMap c.f).take (min m n*c.sz)++((cA N0 c).f v).drop (o*c.sz+min m n*c.sz):=by
  rw[vOf_f c (by rw[lCp_len (by rw[e1,mC];have:=Nat.min_le_right m n;omega),mC]),Gf,e1]
  have e3:(s.flatMap c.f).take (min m n*c.sz)=(s.take n).flatMap c.f:=by
   rw[kj c.f c.h]
   congr 1
   rcases Nat.le_total m n with h|h
   ·rw[tD h,jD (by omega),jD (by omega)]
   ·rw[Nat.min_eq_right h]
  rw[e3];rfl
 rw[e2];exact this
theorem sCpW {l s:List α}{r:List (Nat×List D)}(tok:TOk P tb)(ht:tb t=some ti)(he:tb e=some j)(hs:tO ⟨vs,lv,N⟩ (ev y) z m (s.flatMap c.f))(LT:s.length=m)(hv:vs.lookup k=some (dC ((cW c).f l)))(o:Nat)(Cs:o+n≤l.length)(hr:(k,dC ((cW c).f (lCp l o (s.take n))))::vs=r)(ho:off=o*c.sz:=by exact rfl)(CZ:z=c.sz:=by exact rfl)(yR:ti.ty=.slice e:=by exact rfl)(hx:ev x=.ow k off z n:=by exact rfl)(hz:z=j.size:=by exact rfl):
  mD P tb md ⟨dst,.call ⟨.builtin .copy,#[x,y],#[t,t2]⟩,ty2,pos,af,gd⟩ ev ⟨vs,lv,N⟩ (dI .i64 (min m n:Nat)) ⟨r,lv,N⟩:=by
 subst ho CZ hr
 have:=sCp (P:=P) (md:=md) (dst:=dst) (ty2:=ty2) (pos:=pos) (af:=af) (gd:=gd) (t2:=t2) (lv:=lv) tok ht he hs hv (by
  show _≤(l.flatMap c.f).length
  rw[jC c.f c.h,←bj];exact cg _ Cs) yR hx hz
 have e1:(s.take n).length=min m n:=by rw[eI,LT,Nat.min_comm]
 have e2:(cW c).f (lCp l o (s.take n))=((cW c).f l).take (o*c.sz)++(s.flatMap c.f).take (min m n*c.sz)++((cW c).f l).drop (o*c.sz+min m n*c.sz):=by
  show (lCp l o (s.take n)).flatMap c.f=_
  rw[Gf,e1]
  have e3:(s.flatMap c.f).take (min m n*c.sz)=(s.take n).flatMap c.f:=by
   rw[kj c.f c.h]
   congr 1
   rcases Nat.le_total m n with h|h
   ·rw[tD h,jD (by omega),jD (by omega)]
   ·rw[Nat.min_eq_right h]
  rw[e3];rfl
 rw[e2];exact this
end
theorem WkS.free {tm:List (Nat×D)}{vs:List (Nat×List D)}{lv:List (Nat×Nat×Nat×TypeId)}{N k:Nat}{ds:List D}(hv:vs.lookup k=some ds):∀(B:Nat) (g:Gh) (w:World) (ρ:Nat→Value),HR B ⟨vs,lv,N⟩ g w→(∀t d,tm.lookup t=some d→aM ⟨vs,lv,N⟩ g w d (ρ t))→
  ∃g':Gh,g'=⟨g.μ,g.τ,fun p=>g.F p∧p.block≠g.μ k⟩∧HR B ⟨vs.filter fun p=>!([k]:List Nat).contains p.1,lv,N⟩ g' w∧bI ⟨vs,lv,N⟩ g w ⟨vs.filter fun p=>!([k]:List Nat).contains p.1,lv,N⟩ g' w∧(∀t d,tm.lookup t=some d→aM ⟨vs.filter fun p=>!([k]:List Nat).contains p.1,lv,N⟩ g' w d (ρ t))∧∀p:Addr,p.block<B→g.F p→g'.F p:=by
 intro B g w ρ hr ia
 obtain⟨h1,h2,h3,cs,ty,h4,h5,h6⟩:=hr.var k _ hv
 have look:∀{j:Nat} {ds:List D},(vs.filter fun p=>!([k]:List Nat).contains p.1).lookup j=some ds→j≠k∧vs.lookup j=some ds:=by
  intro j ds h
  obtain⟨a,b⟩:=lc h
  exact⟨by simpa using a,b⟩
 have lg:∀{j:Nat} {ds:List D},j≠k→vs.lookup j=some ds→g.μ j≠g.μ k:=fun hj hl e=>hj (hr.inj _ _ _ _ hl hv e)
 have mo:bI ⟨vs,lv,N⟩ g w ⟨vs.filter fun p=>!([k]:List Nat).contains p.1,lv,N⟩ ⟨g.μ,g.τ,fun p=>g.F p∧p.block≠g.μ k⟩ w:=by
  refine⟨aL _,fun _ _ _=>rfl,fun _ _ h=>h.1,aL _,fun _ _=>rfl,fun _ _ m _ h=>⟨m,h,aL _,fun _=>rfl⟩,fun b hb hf=>⟨rfl,fun p hp hq=>⟨hq,?_⟩,fun j ds hj=>hf.1 j ds (look hj).2,hf.2⟩,fun _=>.same fun _=>rfl⟩
  rw[hp];exact fun e=>hf.1 k _ hv e.symm
 refine⟨_,rfl,⟨fun j ds hj=>?_,fun j j' ds ds' hj Hk he=>hr.inj j j' ds ds' (look hj).2 (look Hk).2 he,fun id m e hi=>?_,hr.tinj,hr.base,fun p hp=>hr.fits p hp.1⟩,mo,fun t' d hd=>(ia t' d hd).mono mo,fun p hp hq=>⟨hq,?_⟩⟩
 ·obtain⟨a1,a2⟩:=look hj
  obtain⟨b1,b2,b3,sR,Jp,b4,b5,b6⟩:=hr.var j ds a2
  exact⟨b1,b2,fun p hp=>⟨b3 p hp,by rw[hp];exact lg a1 a2⟩,sR,Jp,b4,b5,fun i u hu=>⟨(b6 i u hu).1,fun d hd=>((b6 i u hu).2 d hd).mono mo⟩⟩
 ·obtain⟨b1,us,b2,b3,b4⟩:=hr.tok id m e hi
  exact⟨b1,us,b2,b3,fun b hb=>⟨fun p hp hq=>⟨(b4 b hb).1 p hp hq,by rw[hp];exact fun e=>(b4 b hb).2 k _ hv e.symm⟩,fun j ds hj=>(b4 b hb).2 j ds (look hj).2⟩⟩
 ·intro e
  omega
theorem Av {tm:List (Nat×D)}{d0:D}:∀{ts:List Nat} {t:Nat} {d:D},(ts.map (fun t=>(t,d0))++tm).lookup t=some d→(t∈ts∧d=d0)∨tm.lookup t=some d
 |[],t,d,h=>.inr h
 |s::ts,t,d,h=>by
  by_cases xU:t=s
  ·subst xU
   have:some d0=some d:=by rw[←h];exact ai.symm
   injection this with this
   exact .inl ⟨nP ..,this.symm⟩
  ·rcases Av (ts:=ts) (t:=t) (d:=d) (by rw[←h];exact (ar xU).symm) with⟨h1,h2⟩|h1
   ·exact .inl ⟨mN _ h1,h2⟩
   ·exact .inr h1
theorem WkS.frzs {tm:List (Nat×D)}{vs:List (Nat×List D)}{lv:List (Nat×Nat×Nat×TypeId)}{N k z n:Nat}{F:List E}(ts:List Nat)(hz:0<z)(ht:∀t∈ts,tm.lookup t=some (.ow k 0 z n))(hv:vs.lookup k=some (dC F))(hF:F.length=n*z):
  WkS tm ⟨vs,lv,N⟩ (ts.map (fun t=>(t,.e (.sl z n F)))++tm) ⟨vs.filter fun p=>!([k]:List Nat).contains p.1,lv,N⟩:=by
 intro B g w ρ hr ia
 have one:∀t∈ts,∃g',(g':Gh)=⟨g.μ,g.τ,fun p=>g.F p∧p.block≠g.μ k⟩∧aM ⟨vs.filter fun p=>!([k]:List Nat).contains p.1,lv,N⟩ g' w (.e (.sl z n F)) (ρ t):=by
  intro t hts
  refine⟨_,rfl,?_⟩
  obtain⟨h1,h2,h3,cs,ty,h4,h5,h6⟩:=hr.var k _ hv
  have cM:=ia t _ (ht t hts)
  generalize ρ t=u at cM
  cases cM with
  |ow _ _ _ _ c hk oB nJ=>
   have qr:F.length≤cs.size:=by rw[gW] at h5;exact h5
   refine .e _ _ (.sl z n F (some ⟨g.μ k,0,none⟩) c (fun i=>cs.getD i undef) hF hz oB nJ (fun _=>⟨_,rfl,(gH.1 h4).1⟩) (fun ad ha i e hi=>?_) (fun i e hi=>?_))
   ·injection ha with ha
    subst ha
    have bF:i<cs.size:=bT (pf.1 hi).1 qr
    refine⟨?_,fun hf=>hf.2 (by rw[iN])⟩
    have e0:w.cell? (({block:=g.μ k,off:=0,spot:=none}:Addr).add i)=cs[0+i]? :=by
     by_cases h0:i=0
     ·subst h0;simp[World.cell?,Addr.add,h4]
     ·simp[World.cell?,Addr.add,h4,h0]
    rw[e0,br]
    simp[cP,bF]
   ·have bF:i<cs.size:=bT (pf.1 hi).1 qr
    have hu:=h6 i (cs.getD i undef) (by simp[cP,bF])
    have:=hu.2 (.e e) (by unfold dC;rw[dc,hi];rfl)
    cases this with
    |e _ _ h7=>exact cG.less h7 fun p hp=>hp.1
 obtain⟨g',hg',q1,q2,q3,q4⟩:=WkS.free (lv:=lv) (N:=N) (tm:=tm) (k:=k) hv B g w ρ hr ia
 subst hg'
 refine⟨_,q1,q2,fun t d hd=>?_,q4⟩
 rcases Av hd with⟨h1,rfl⟩|h1
 ·obtain⟨g',hg',h2⟩:=one t h1
  subst hg'
  exact h2
 ·exact q3 t d h1
theorem WkS.frzG {α:Type}(c:Cd α){l:List α}{tm:List (Nat×D)}{vs:List (Nat×List D)}{lv:List (Nat×Nat×Nat×TypeId)}{N k n:Nat}(ts:List Nat)(hn:n=l.length)(ht:∀t∈ts,tm.lookup t=some (.ow k 0 c.sz n))(hv:vs.lookup k=some (dC ((cW c).f l)))(hz:Nat.ble 1 c.sz=true:=by exact rfl):
  WkS tm ⟨vs,lv,N⟩ (ts.map (fun t=>(t,.e (slE c l)))++tm) ⟨vs.filter fun p=>!([k]:List Nat).contains p.1,lv,N⟩:=by
 subst hn
 exact WkS.frzs ts (bg hz) ht hv (jC c.f c.h l)
end
end
section
section
variable {P:Program} {tb:TypeId→Option TyE} {dr:Bool} {ev:Operand→D} {hp:Hp} {ty:TypeId} {α:Type}
theorem kK {t e:TypeId}{i j:TyE}{n:Nat}{ps:List (Nat×Operand)}(l:List α)(c:Cd α)(ht:tb t=some i)(he:tb e=some j)(hi:i.ty=.slice e:=by exact rfl)(hz:c.sz=j.size:=by exact rfl)(HZ:Nat.ble (0+1) (j.size)=true:=by exact rfl)(Id:l.length=n+1:=by exact rfl)(hn:Nat.ble ((n+1)*j.size) (16777216)=true:=by exact rfl)(hp1:kq (ps.map fun p=>(p.1,ev p.2))=some ((l.zipIdx 0).map fun p=>(p.2,dC (c.f p.1))):=by exact rfl)(hd:dr=true:=by exact rfl):
  AVC P tb dr (.buildSlice t (n+1) ps.toArray) ty ev hp (Kq (dF c l) hp):=by
 have hf:=yc c hz l 0 [] (List.replicate ((n+1)*j.size) (D.e .any)) (by simp) (by rw[uN,Id])
 rw[ph,ph] at hf
 have:=yC (P:=P) (dr:=dr) (ty:=ty) (ev:=ev) (hp:=hp) ht he hi HZ hn hp1 hf (yj _) hd
 show AVC _ _ _ _ _ _ _ (Kq (.fu c.sz l.length (l.flatMap c.f)) _)
 rw[hz,Id]
 exact this
end
end
section
def Way(ops:Array Oper):List Nat→Array Bool→Prop
 |[],s=>Region.ready .any ops s=[]
 |i::l,s=>i∈Region.ready .any ops s∧Way ops l (s.setIfInBounds i true)
def Bfr(a b:Nat):List Nat→Array Bool→Prop
 |[],_=>True
 |i::l,s=>(i=b→s.getD a false=true)∧Bfr a b l (s.setIfInBounds i true)
theorem kX {ops:Array Oper}{s:Array Bool}{i:Nat}:i∈Region.ready .any ops s↔i<ops.size∧s.getD i true=false∧∃o,ops[i]? =some o∧∀e∈o.after,Region.binds .any e=true→s.getD e.on false=true:=by
 unfold Region.ready
 rw[List.mem_filter,wO]
 refine and_congr_right fun h=>?_
 rw[dW,vp]
 refine and_congr_right fun _=>?_
 cases ho:ops[i]? with
 |none=>simp
 |some o=>
  simp only[mM,wN,IX,Bool.or_eq_true,vp,mL,exists_eq_left']
  refine forall_congr' fun e=>forall_congr' fun _=>?_
  cases Region.binds .any e <;> simp
theorem Oe {s:Array Bool}{i j:Nat}(h:s.getD j false=true):(s.setIfInBounds i true).getD j false=true:=by
 simp only[cP] at h ⊢
 rw[EE]
 split
 ·rename_i e
  subst e
  split
  ·rfl
  ·rename_i hs
   rw[EK (by omega)] at h
   simp at h
 ·exact h
theorem C5 {s:Array Bool}{i:Nat}(h:i<s.size):(s.setIfInBounds i true).getD i false=true:=by
 simp[cP,EE,h]
theorem Bfr.of {a b:Nat}:∀(l:List Nat) (s:Array Bool),s.getD a false=true→Bfr a b l s
 |[],_,_=>trivial
 |_::l,_,h=>⟨fun _=>h,Bfr.of l _ (Oe h)⟩
theorem OP {ops:Array Oper}{a b:Nat}(ya:a≠b):∀(l:List Nat) (s:Array Bool),s.size=ops.size→Way ops l s→Bfr a b l s∨Bfr b a l s
 |[],_,_,_=>.inl trivial
 |i::l,s,hs,⟨h1,h2⟩=>by
  have hi:=(kX.1 h1).1
  by_cases ha:i=a
  ·subst ha
   exact .inl ⟨fun h=>absurd h ya,Bfr.of l _ (C5 (by omega))⟩
  ·by_cases hb:i=b
   ·subst hb
    exact .inr ⟨fun h=>absurd h.symm ya,Bfr.of l _ (C5 (by omega))⟩
   ·rcases OP ya l (s.setIfInBounds i true) (by simpa using hs) h2 with h|h
    ·exact .inl ⟨fun h=>absurd h hb,h⟩
    ·exact .inr ⟨fun h=>absurd h ha,h⟩
theorem L7 {ops:Array Oper}:∀(fuel t:Nat) (s:Array Bool),s.size=ops.size→unl s ops.size≤fuel→Way ops (Region.linearise.go .any ops fuel t s []) s
 |0,t,s,hs,hu=>by
  show Region.ready .any ops s=[]
  rw[O0]
  intro i hi
  obtain⟨h1,h2,_⟩:=kX.1 hi
  have:i∈(List.range ops.size).filter fun j=>!s.getD j false:=by
   rw[List.mem_filter,wO]
   refine⟨h1,?_⟩
   have bF:i<s.size:=by omega
   have e1:s[i]?.getD true=false:=by rw[←cP];exact h2
   rw[cP]
   rw[lY bF] at e1 ⊢
   simp at e1 ⊢
   exact e1
  have hlen:=List.length_pos_of_mem this
  unfold unl at hu
  omega
 |fuel+1,t,s,hs,hu=>by
  simp only[Region.linearise.go]
  change Way ops (match (Region.ready .any ops s)[t % (Region.ready .any ops s).length]? with
   |some i=>Region.linearise.go .any ops fuel (t / (Region.ready .any ops s).length) (s.setIfInBounds i true) [i]
   |none=>[].reverse) s
  cases hi:(Region.ready .any ops s)[t % (Region.ready .any ops s).length]? with
  |none=>
   show Region.ready .any ops s=[]
   cases hr:Region.ready .any ops s with
   |nil=>rfl
   |cons x xs=>
    rw[hr] at hi
    have bF:t % (x::xs).length<(x::xs).length:=dv _ (by simp)
    rw[e7 bF] at hi
    cases hi
  |some i=>
   simp only[]
   rw[linearise_go_acc,List.reverse_singleton,List.singleton_append]
   have hm:=b8 hi
   obtain⟨h1,h2,_⟩:=kX.1 hm
   have bF:i<s.size:=by omega
   have hf:s.getD i false=false:=by
    have e1:s[i]?.getD true=false:=by rw[←cP];exact h2
    rw[cP]
    rw[lY bF] at e1 ⊢
    simpa using e1
   exact⟨hm,L7 fuel _ _ (by simpa using hs) (by have:=DF (n:=ops.size) h1 bF hf;omega)⟩
theorem CF {P:Program}{ops:Array Oper}{Q:Exit→Act→World→Prop}:∀(l:List Nat) (fuel:Nat) (s:Array Bool) (a:Act) (w:World),wpAny P .any ops Q fuel s a w→Way ops l s→wpOps P ops Q l a w
 |[],0,_,_,_,h,_=>by simpa[wpOps] using h.2
 |[],_+1,_,_,_,h,hw=>by simpa[wpOps] using h.1 hw
 |i::l,0,_,_,_,h,hw=>by
  have:=hw.1
  rw[h.1] at this
  cases this
 |i::l,fuel+1,s,a,w,h,hw=>by
  rw[wpOps_cons]
  exact wpOp_mono (fun a w h=>CF l fuel _ a w h hw.2) (h.2 i hw.1)
def m7:List Oper→Nat→Oper
 |[],_=>default
 |o::_,0=>o
 |_::l,n+1=>m7 l n
def kD:List Nat→Nat→Nat
 |[],_=>0
 |j::l,i=>match Nat.beq j i with
  |true=>0
  |false=>kD l i+1
def F6(p:List Nat)(i:Nat):List (Nat×Nat)→List Edge
 |[]=>[]
 |(a,b)::C=>match Nat.beq b i with
  |true=>⟨kD p a,.data⟩::F6 p i C
  |false=>F6 p i C
def mT(p:List Nat)(C:List (Nat×Nat))(i:Nat)(o:Oper):Oper:=⟨o.dst,o.op,o.type,o.pos,((o.after.toList.map fun e=>(⟨kD p e.on,e.ground⟩:Edge))++F6 p i C).toArray,none⟩
def d6(p:List Nat)(C:List (Nat×Nat))(l:List Oper):List Oper:=p.map fun i=>mT p C i (m7 l i)
def JA(p:List Nat)(l:List Oper):Bool:=Nat.beq p.length l.length&&(List.range l.length).all (fun i=>p.elem i)&&(l.all fun o=>o.guard.isNone)&&p.all (fun i=>Nat.blt i l.length)&&(List.range l.length).all fun k=>(List.range l.length).any fun i=>Nat.beq (kD p i) k
theorem mr:∀{p:List Nat} {i:Nat},i∈p→kD p i<p.length∧p[kD p i]? =some i
 |j::p,i,h=>by
  unfold kD
  cases hb:Nat.beq j i with
  |true=>exact⟨by simp,by simpa using vq hb⟩
  |false=>
   have lg:¬i=j:=by
    intro e;subst e
    have:Nat.beq i i=true:=EL i
    rw[this] at hb;cases hb
   rcases jx.1 h with h|h
   ·exact absurd h lg
   ·obtain⟨h1,h2⟩:=mr h
    exact⟨by simpa using h1,by simpa using h2⟩
theorem K3 {p:List Nat}{i j:Nat}(hi:i∈p)(hj:j∈p)(h:kD p i=kD p j):i=j:=by
 have h1:=(mr hi).2
 rw[h,(mr hj).2] at h1
 injection h1 with h1
 exact h1.symm
theorem MR {l:List Oper}{o:Oper}:∀{i:Nat},l[i]? =some o→m7 l i=o:=by
 induction l with
 |nil=>intro i h;simp at h
 |cons o' l ih=>
  intro i h
  cases i with
  |zero=>rw[IN] at h;injection h
  |succ i=>rw[IW] at h;exact ih h
theorem xF {p:List Nat}{i:Nat}{e:Edge}:∀{C:List (Nat×Nat)},e∈F6 p i C→∃a,(a,i)∈C∧e=⟨kD p a,.data⟩
 |(a,b)::C,h=>by
  unfold F6 at h
  cases hb:Nat.beq b i with
  |true=>
   rw[hb] at h
   obtain rfl:=vq hb
   rcases jx.1 h with rfl|h
   ·exact⟨a,nP ..,rfl⟩
   ·obtain⟨a',h1,h2⟩:=xF h
    exact⟨a',mN _ h1,h2⟩
  |false=>
   rw[hb] at h
   obtain⟨a',h1,h2⟩:=xF h
   exact⟨a',mN _ h1,h2⟩
structure G9(p:List Nat)(l:List Oper):Prop where
 len:p.length=l.length
 mem:∀i,i<l.length→i∈p
 gd:∀o∈l,o.guard=none
 bd:∀i∈p,i<l.length
 inv:∀k,k<l.length→∃i,i<l.length∧kD p i=k
theorem HJ {p:List Nat}{l:List Oper}(h:JA p l=true):G9 p l:=by
 unfold JA at h
 simp only[dW,bZ,wO] at h
 obtain⟨⟨⟨⟨h1,h2⟩,h3⟩,h4⟩,h5⟩:=h
 refine⟨vq h1,fun i hi=>by simpa using h2 i hi,fun o ho=>by simpa using h3 o ho,fun i hi=>?_,fun k hk=>?_⟩
 ·exact bg (h4 i hi)
 ·obtain⟨i,hi,hb⟩:=List.any_eq_true.1 (h5 k hk)
  exact⟨i,wO.1 hi,vq hb⟩
section
variable {P:Program} {p:List Nat} {C:List (Nat×Nat)} {l:List Oper}
theorem G9.get(h:G9 p l){i:Nat}{o:Oper}(ho:l[i]? =some o):(d6 p C l).toArray[kD p i]? =some (mT p C i o):=by
 have hi:i<l.length:=(pf.1 ho).1
 obtain⟨_,h2⟩:=mr (h.mem i hi)
 unfold d6
 rw[Bq,dc,h2,mM,MR ho]
theorem KP(h:G9 p l){Q:Exit→Act→World→Prop}{K:Act→World→Prop}{i:Nat}(hi:i<l.length){a:Act}{w:World}(hw:wpOp P (d6 p C l).toArray Q (kD p i) K a w):wpOp P l.toArray Q i K a w:=by
 have ho:l[i]? =some l[i]:=e7 hi
 unfold wpOp at hw ⊢
 rw[h.get ho] at hw
 rw[Bq,ho]
 generalize hoo:l[i]=o at hw ho ⊢
 have hg:=h.gd o (b8 ho)
 obtain⟨dst,op,ty,pos,af,gd⟩:=o
 simp only at hg
 subst hg
 exact hw
theorem zZ(h:G9 p l){Q:Exit→Act→World→Prop}:∀(is:List Nat) (a:Act) (w:World),(∀i∈is,i<l.length)→wpOps P (d6 p C l).toArray Q (is.map (kD p)) a w→wpOps P l.toArray Q is a w
 |[],a,w,_,hw=>hw
 |i::is,a,w,hi,hw=>by
  rw[cp,wpOps_cons] at hw
  rw[wpOps_cons]
  exact KP h (hi i (nP ..)) (wpOp_mono (fun a w h'=>zZ h is a w (fun i yU=>hi i (mN _ yU)) h') hw)
structure BM(p:List Nat)(n:Nat)(s s':Array Bool):Prop where
 s1:s.size=n
 s2:s'.size=n
 eq:∀i,i<n→s'[kD p i]? =s[i]?
theorem BM.set(h:G9 p l){s s':Array Bool}(hs:BM p l.length s s'){i:Nat}(hi:i<l.length):BM p l.length (s.setIfInBounds i true) (s'.setIfInBounds (kD p i) true):=by
 refine⟨by simpa using hs.s1,by simpa using hs.s2,fun j hj=>?_⟩
 rw[EE,EE]
 have hpi:kD p i<s'.size:=by rw[hs.s2,←h.len];exact (mr (h.mem i hi)).1
 by_cases Gq:i=j
 ·subst Gq
  rw[az rfl,az rfl,az hpi,az (by rw[hs.s1];exact hi)]
 ·rw[ay Gq,ay (fun e=>Gq (K3 (h.mem i hi) (h.mem j hj) e))]
  exact hs.eq j hj
theorem BM.getD(h:G9 p l){s s':Array Bool}(hs:BM p l.length s s'){j:Nat}(d:Bool)(hj:j<l.length):s'.getD (kD p j) d=s.getD j d:=by
 rw[cP,cP,hs.eq j hj]
theorem xM {s:Array Bool}{j:Nat}(h:s.getD j false=true):j<s.size:=by
 rcases ci j s.size with h1|h1
 ·exact h1
 ·rw[cP,EK h1] at h;cases h
theorem Fm(h:G9 p l):∀(is:List Nat) (s s':Array Bool),BM p l.length s s'→Way l.toArray is s→(∀c∈C,Bfr c.1 c.2 is s)→Way (d6 p C l).toArray (is.map (kD p)) s'
 |[],s,s',hs,hw,_=>by
  show Region.ready _ _ _=[]
  rw[O0]
  intro k hk
  obtain⟨h1,h2,o',h3,h4⟩:=kX.1 hk
  have hkp:k<p.length:=by
   have:(d6 p C l).length=p.length:=ew _
   simpa[this] using h1
  -- the operation at k is the one that stood at i
  have hik:=h.inv k (by rw[←h.len];exact hkp)
  obtain⟨i,hi,rfl⟩:=hik
  have ho:l[i]? =some l[i]:=e7 hi
  rw[h.get ho] at h3
  injection h3 with h3
  subst h3
  have:i∈Region.ready .any l.toArray s:=by
   refine kX.2 ⟨by simpa using hi,by rw[←hs.getD h true hi];exact h2,l[i],by rw[Bq];exact ho,fun e he hb=>?_⟩
   have h5:=h4 ⟨kD p e.on,e.ground⟩ (by
    unfold mT
    rw[ED]
    exact List.mem_append_left _ (qh.2 ⟨e,by simpa using he,rfl⟩)) hb
   have bF:kD p e.on<l.length:=by rw[←hs.s2];exact xM h5
   by_cases NP:e.on∈p
   ·-- it is one of the operations
    have hon:e.on<l.length:=h.bd _ NP
    rwa[hs.getD h false hon] at h5
   ·exfalso
    have:kD p e.on=p.length:=by
     have gen:∀(q:List Nat),e.on∉q→kD q e.on=q.length:=by
      intro q
      induction q with
      |nil=>intro _;rfl
      |cons j q ih=>
       intro hq
       have lg:Nat.beq j e.on=false:=by
        cases hb:Nat.beq j e.on with
        |true=>exact absurd (jx.2 (.inl (vq hb).symm)) hq
        |false=>rfl
       unfold kD
       rw[lg]
       simp only[lX]
       rw[ih fun hh=>hq (mN _ hh)]
     exact gen p NP
    rw[this,h.len] at bF
    omega
  rw[show Region.ready .any l.toArray s=[] from hw] at this
  cases this
 |i::is,s,s',hs,⟨h1,h2⟩,hC=>by
  obtain⟨hi0,LX,o,ho,he⟩:=kX.1 h1
  have hi:i<l.length:=by simpa using hi0
  rw[Bq] at ho
  refine⟨kX.2 ⟨?_,by rw[hs.getD h true hi];exact LX,_,h.get ho,fun e hm hb=>?_⟩,Fm h is _ _ (hs.set h hi) h2 fun c hc=>(hC c hc).2⟩
  ·have:(d6 p C l).length=p.length:=ew _
   simp only[lW,this]
   exact (mr (h.mem i hi)).1
  ·unfold mT at hm
   rw[ED] at hm
   rcases sK.1 hm with hm|hm
   ·obtain⟨e0,he0,rfl⟩:=qh.1 hm
    have h6:=he e0 (by simpa using he0) hb
    have bF:e0.on<l.length:=by rw[←hs.s1];exact xM h6
    rw[hs.getD h false bF];exact h6
   ·obtain⟨a,Hm,rfl⟩:=xF hm
    have h6:=(hC _ Hm).1 rfl
    have bF:a<l.length:=by rw[←hs.s1];exact xM h6
    rw[hs.getD h false bF];exact h6
end
section
variable {P:Program} {tb:TypeId→Option TyE} {x:Cx} {tm:List (Nat×D)} {hp:Hp} {Q:Exit→List (Nat×D)→Hp→Prop} {L:List FuncId} {C:List (Nat×Nat)} {l:List Oper}
def DW(P:Program)(x:Cx)(l:List Oper)(C:List (Nat×Nat))(tm:List (Nat×D))(hp:Hp)(Q:Exit→List (Nat×D)→Hp→Prop):Prop:=
 ∀(a:Act) (w:World) (is:List Nat),RS x tm hp a w→(∀i∈is,i<l.length)→Way l.toArray is (Array.replicate l.length false)→(∀c∈C,Bfr c.1 c.2 is (Array.replicate l.length false))→wpOps P l.toArray (fun ex a' w'=>∃tm' hp',RS x tm' hp' a' w'∧Q ex tm' hp') is a w
theorem RS.drew {a:Act}{w:World}(h:RS x tm hp a w):RS x tm hp a {w with drawn:=w.drawn+1}:=by
 obtain⟨g,hr,ia,hsz,q7,hB,hF,hM⟩:=h
 exact⟨g,hr.keep (aL _) (fun _ _=>rfl),fun t d hl=>(ia t d hl).mono (bI.keep hp g (aL _) (fun _ _=>rfl)),hsz,q7,hB.drew,hF,hM.trans (bI.keep hp g (aL _) (fun _ _=>rfl))⟩
theorem L6 {ops:Array Oper}:∀(is:List Nat) (s:Array Bool),Way ops is s→∀i∈is,i<ops.size
 |[],_,_,_,h=>by cases h
 |j::is,s,hw,i,h=>by
  rcases jx.1 h with rfl|h
  ·exact (kX.1 hw.1).1
  ·exact L6 is _ hw.2 i h
theorem AW.dw {id:Nat}(hm:P.follows .mixedOrders=true)(h:DW P x l [] tm hp Q):AW P x (.region id l.toArray true) tm hp Q:=by
 intro a w hr
 refine wp_region_draw fun t=>?_
 simp only[Region.schedule,hm,Bool.true_or,aN]
 have hway:=L7 (ops:=l.toArray) l.toArray.size t (Array.replicate l.toArray.size false) (by simp) (by unfold unl;exact cU (Ky _ _) (by simp))
 have bF:=L6 _ _ hway
 simp only[lW] at hway bF
 exact h a _ _ hr.drew bF hway (fun c hc=>by cases hc)
theorem DW.split(a b:Nat)(ya:a≠b)(h1:DW P x l ((a,b)::C) tm hp Q)(h2:DW P x l ((b,a)::C) tm hp Q):DW P x l C tm hp Q:=by
 intro ac w is hr bF hw hC
 rcases OP ya is _ (by simp) hw with h|h
 ·exact h1 ac w is hr bF hw fun c hc=>by
   rcases jx.1 hc with rfl|hc
   ·exact h
   ·exact hC c hc
 ·exact h2 ac w is hr bF hw fun c hc=>by
   rcases jx.1 hc with rfl|hc
   ·exact h
   ·exact hC c hc
theorem Hq {ops:Array Oper}(hN:jt x.N ops=true)(oS:uz tb L ops=true)
  (h:∀K:List (Nat×D)→Hp→Prop,(∀tm hp,Q .normal tm hp→K tm hp)→bB P tb (.any L) ops K ops.toList tm hp) {a:Act} {w:World} (hr:RS x tm hp a w):wpAny P .any ops (fun ex a' w'=>∃tm' hp',RS x tm' hp' a' w'∧Q ex tm' hp') ops.size (Array.replicate ops.size false) a w:=by
 obtain⟨dd,hh,ac,tms,bK,hK,h1,h2⟩:=HE (ops:=ops) ops.toList 0 (fun _=>.top) (fun _=>hp) (fun _=>false) (fun _=>tm) ⟨fun _ _ h=>absurd h (by omega),fun _ _ h=>absurd h (by omega),fun _ _ h=>absurd h (by omega)⟩ rfl (h _ fun _ _ h=>h)
 simp only[br,eg] at bK hK h1 h2
 obtain⟨g,Nv,ia,hsz,q7,hB,hF,hM⟩:=hr
 refine Fl hN (Am oS) bK (fun a w hr=>⟨_,_,hr,hK⟩) ops.size _ a _ 0 g ?_ ?_
 ·have AF:∀j,¬(Array.replicate ops.size false).getD j false=true:=by
   intro j
   simp[cP,EJ]
   split <;> simp
  refine⟨by simp,fun i _ _ _ hl=>absurd hl (AF i),dZ _,fun j _ _ _=>⟨fun hl=>absurd hl (AF j),fun h=>absurd h (by omega)⟩,?_,fun t d hl=>?_,hsz,q7,hB,hF,?_⟩
  rotate_right
  ·rw[h2];exact hM
  ·rw[h2];exact Nv
  ·rw[h2]
   rcases hl with⟨i,_,_,hl,_⟩|⟨_,hl⟩
   ·exact absurd hl (AF i)
   ·rw[h1] at hl
    exact ia t d hl
 ·unfold unl
  exact cU (Ky _ _) (by simp)
theorem DW.go(p:List Nat)(hp1:JA p l=true)(hN:jt x.N (d6 p C l).toArray=true)(oS:uz tb L (d6 p C l).toArray=true)
  (h:∀K:List (Nat×D)→Hp→Prop,(∀tm hp,Q .normal tm hp→K tm hp)→bB P tb (.any L) (d6 p C l).toArray K (d6 p C l) tm hp):DW P x l C tm hp Q:=by
 intro a w is hr bF hw hC
 have hP:=HJ hp1
 have h1:=Hq hN oS h hr
 have hlen:(d6 p C l).toArray.size=l.length:=by simp[d6,hP.len]
 rw[hlen] at h1
 have hs0:BM p l.length (Array.replicate l.length false) (Array.replicate l.length false):=by
  refine⟨by simp,by simp,fun i hi=>?_⟩
  have:=(mr (hP.mem i hi)).1
  rw[EJ,EJ,az hi,az (by rw[←hP.len];exact this)]
 exact zZ hP is a w bF (CF _ _ _ a w h1 (Fm hP is _ _ hs0 hw hC))
end
end
def tblL:List (Nat×TyE):=[
 (2,⟨.int .i64,1,8,[.int .i64 (0)]⟩),
 (3,⟨.int .i64,1,8,[.int .i64 (0)]⟩),
 (4,⟨.bool,1,1,[.bool false]⟩),
 (5,⟨.int .u8,1,1,[.int .u8 (0)]⟩),
 (9,⟨.str,1,16,[.string ⟨#[]⟩]⟩),
 (12,⟨.int .u64,1,8,[.int .u64 (0)]⟩),
 (13,⟨.struct [(0,9),(1,12)],2,24,[.string ⟨#[]⟩,.int .u64 (0)]⟩),
 (21,⟨.int .i32,1,4,[.int .i32 (0)]⟩),
 (22,⟨.slice 34,1,24,[.slice none 0 0]⟩),
 (23,⟨.struct [(0,3),(1,3),(2,22)],3,40,[.int .i64 (0),.int .i64 (0),.slice none 0 0]⟩),
 (24,⟨.struct [(0,3),(1,3),(2,22)],3,40,[.int .i64 (0),.int .i64 (0),.slice none 0 0]⟩),
 (26,⟨.int .i64,1,8,[.int .i64 (0)]⟩),
 (29,⟨.int .u32,1,4,[ae]⟩),
 (30,⟨.arr 16 29,16,64,[ae,ae,ae,ae,ae,ae,ae,ae,ae,ae,ae,ae,ae,ae,ae,ae]⟩),
 (31,⟨.struct [(0,4),(1,4),(2,30)],18,68,[.bool false,.bool false,ae,ae,ae,ae,ae,ae,ae,ae,ae,ae,ae,ae,ae,ae,ae,ae]⟩),
 (32,⟨.struct [(0,4),(1,4),(2,30)],18,68,[.bool false,.bool false,ae,ae,ae,ae,ae,ae,ae,ae,ae,ae,ae,ae,ae,ae,ae,ae]⟩),
 (33,⟨.struct [(0,32),(18,32)],36,136,[.bool false,.bool false,ae,ae,ae,ae,ae,ae,ae,ae,ae,ae,ae,ae,ae,ae,ae,ae,.bool false,.bool false,ae,ae,ae,ae,ae,ae,ae,ae,ae,ae,ae,ae,ae,ae,ae,ae]⟩),
 (34,⟨.struct [(0,32),(18,32)],36,136,[.bool false,.bool false,ae,ae,ae,ae,ae,ae,ae,ae,ae,ae,ae,ae,ae,ae,ae,ae,.bool false,.bool false,ae,ae,ae,ae,ae,ae,ae,ae,ae,ae,ae,ae,ae,ae,ae,ae]⟩),
 (35,⟨.slice 3,1,24,[.slice none 0 0]⟩),
 (44,⟨.struct [(0,24),(3,35),(4,22),(5,4),(6,26),(7,3)],8,112,[.int .i64 (0),.int .i64 (0),.slice none 0 0,.slice none 0 0,.slice none 0 0,.bool false,.int .i64 (0),.int .i64 (0)]⟩),
 (45,⟨.struct [(0,24),(3,35),(4,22),(5,4),(6,26),(7,3)],8,112,[.int .i64 (0),.int .i64 (0),.slice none 0 0,.slice none 0 0,.slice none 0 0,.bool false,.int .i64 (0),.int .i64 (0)]⟩),
 (47,⟨.struct [(0,34),(36,26)],37,144,[.bool false,.bool false,ae,ae,ae,ae,ae,ae,ae,ae,ae,ae,ae,ae,ae,ae,ae,ae,.bool false,.bool false,ae,ae,ae,ae,ae,ae,ae,ae,ae,ae,ae,ae,ae,ae,ae,ae,.int .i64 (0)]⟩),
 (48,⟨.struct [(0,34),(36,26)],37,144,[.bool false,.bool false,ae,ae,ae,ae,ae,ae,ae,ae,ae,ae,ae,ae,ae,ae,ae,ae,.bool false,.bool false,ae,ae,ae,ae,ae,ae,ae,ae,ae,ae,ae,ae,ae,ae,ae,ae,.int .i64 (0)]⟩),
 (52,⟨.slice 22,1,24,[.slice none 0 0]⟩),
 (55,⟨.struct [(0,52),(1,26)],2,32,[.slice none 0 0,.int .i64 (0)]⟩),
 (56,⟨.struct [(0,52),(1,26)],2,32,[.slice none 0 0,.int .i64 (0)]⟩),
 (60,⟨.struct [(0,4),(1,26)],2,16,[.bool false,.int .i64 (0)]⟩),
 (61,⟨.struct [(0,4),(1,26)],2,16,[.bool false,.int .i64 (0)]⟩),
 (64,⟨.struct [(0,24),(3,26)],4,48,[.int .i64 (0),.int .i64 (0),.slice none 0 0,.int .i64 (0)]⟩),
 (65,⟨.struct [(0,24),(3,26)],4,48,[.int .i64 (0),.int .i64 (0),.slice none 0 0,.int .i64 (0)]⟩),
 (71,⟨.struct [(0,22),(1,26)],2,32,[.slice none 0 0,.int .i64 (0)]⟩),
 (72,⟨.struct [(0,22),(1,26)],2,32,[.slice none 0 0,.int .i64 (0)]⟩),
 (95,⟨.slice 102,1,24,[.slice none 0 0]⟩),
 (96,⟨.struct [(0,24),(3,95)],4,64,[.int .i64 (0),.int .i64 (0),.slice none 0 0,.slice none 0 0]⟩),
 (97,⟨.struct [(0,24),(3,95)],4,64,[.int .i64 (0),.int .i64 (0),.slice none 0 0,.slice none 0 0]⟩),
 (101,⟨.struct [(0,3),(1,34),(37,4)],38,152,[.int .i64 (0),.bool false,.bool false,ae,ae,ae,ae,ae,ae,ae,ae,ae,ae,ae,ae,ae,ae,ae,ae,.bool false,.bool false,ae,ae,ae,ae,ae,ae,ae,ae,ae,ae,ae,ae,ae,ae,ae,ae,.bool false]⟩),
 (102,⟨.struct [(0,3),(1,34),(37,4)],38,152,[.int .i64 (0),.bool false,.bool false,ae,ae,ae,ae,ae,ae,ae,ae,ae,ae,ae,ae,ae,ae,ae,ae,.bool false,.bool false,ae,ae,ae,ae,ae,ae,ae,ae,ae,ae,ae,ae,ae,ae,ae,ae,.bool false]⟩),
 (122,⟨.slice 24,1,24,[.slice none 0 0]⟩),
 (130,⟨.int .u64,1,8,[.int .u64 (0)]⟩),
 (134,⟨.arr 32 29,32,128,[ae,ae,ae,ae,ae,ae,ae,ae,ae,ae,ae,ae,ae,ae,ae,ae,ae,ae,ae,ae,ae,ae,ae,ae,ae,ae,ae,ae,ae,ae,ae,ae]⟩),
 (136,⟨.int .u64,1,8,[.int .u64 (0)]⟩),
 (137,⟨.slice 29,1,24,[.slice none 0 0]⟩),
 (149,⟨.slice 32,1,24,[.slice none 0 0]⟩),
 (172,⟨.arr 17 29,17,68,[ae,ae,ae,ae,ae,ae,ae,ae,ae,ae,ae,ae,ae,ae,ae,ae,ae]⟩)
]
def tbl(t:TypeId):Option TyE:=tblL.lookup t
theorem tb_2:tbl 2=some ⟨.int .i64,1,8,[.int .i64 (0)]⟩:=rfl
theorem aY:tbl 3=some ⟨.int .i64,1,8,[.int .i64 (0)]⟩:=rfl
theorem gp:tbl 4=some ⟨.bool,1,1,[.bool false]⟩:=rfl
theorem tb_5:tbl 5=some ⟨.int .u8,1,1,[.int .u8 (0)]⟩:=rfl
theorem tb_9:tbl 9=some ⟨.str,1,16,[.string ⟨#[]⟩]⟩:=rfl
theorem tb_12:tbl 12=some ⟨.int .u64,1,8,[.int .u64 (0)]⟩:=rfl
theorem tb_13:tbl 13=some ⟨.struct [(0,9),(1,12)],2,24,[.string ⟨#[]⟩,.int .u64 (0)]⟩:=rfl
theorem tb_21:tbl 21=some ⟨.int .i32,1,4,[.int .i32 (0)]⟩:=rfl
theorem aP:tbl 22=some ⟨.slice 34,1,24,[.slice none 0 0]⟩:=rfl
theorem tb_23:tbl 23=some ⟨.struct [(0,3),(1,3),(2,22)],3,40,[.int .i64 (0),.int .i64 (0),.slice none 0 0]⟩:=rfl
theorem av:tbl 24=some ⟨.struct [(0,3),(1,3),(2,22)],3,40,[.int .i64 (0),.int .i64 (0),.slice none 0 0]⟩:=rfl
theorem Js:tbl 26=some ⟨.int .i64,1,8,[.int .i64 (0)]⟩:=rfl
theorem aI:tbl 29=some ⟨.int .u32,1,4,[ae]⟩:=rfl
theorem aF:tbl 30=some ⟨.arr 16 29,16,64,[ae,ae,ae,ae,ae,ae,ae,ae,ae,ae,ae,ae,ae,ae,ae,ae]⟩:=rfl
theorem tb_31:tbl 31=some ⟨.struct [(0,4),(1,4),(2,30)],18,68,[.bool false,.bool false,ae,ae,ae,ae,ae,ae,ae,ae,ae,ae,ae,ae,ae,ae,ae,ae]⟩:=rfl
theorem ax:tbl 32=some ⟨.struct [(0,4),(1,4),(2,30)],18,68,[.bool false,.bool false,ae,ae,ae,ae,ae,ae,ae,ae,ae,ae,ae,ae,ae,ae,ae,ae]⟩:=rfl
theorem tb_33:tbl 33=some ⟨.struct [(0,32),(18,32)],36,136,[.bool false,.bool false,ae,ae,ae,ae,ae,ae,ae,ae,ae,ae,ae,ae,ae,ae,ae,ae,.bool false,.bool false,ae,ae,ae,ae,ae,ae,ae,ae,ae,ae,ae,ae,ae,ae,ae,ae]⟩:=rfl
theorem aA:tbl 34=some ⟨.struct [(0,32),(18,32)],36,136,[.bool false,.bool false,ae,ae,ae,ae,ae,ae,ae,ae,ae,ae,ae,ae,ae,ae,ae,ae,.bool false,.bool false,ae,ae,ae,ae,ae,ae,ae,ae,ae,ae,ae,ae,ae,ae,ae,ae]⟩:=rfl
theorem bV:tbl 35=some ⟨.slice 3,1,24,[.slice none 0 0]⟩:=rfl
theorem tb_44:tbl 44=some ⟨.struct [(0,24),(3,35),(4,22),(5,4),(6,26),(7,3)],8,112,[.int .i64 (0),.int .i64 (0),.slice none 0 0,.slice none 0 0,.slice none 0 0,.bool false,.int .i64 (0),.int .i64 (0)]⟩:=rfl
theorem tb_45:tbl 45=some ⟨.struct [(0,24),(3,35),(4,22),(5,4),(6,26),(7,3)],8,112,[.int .i64 (0),.int .i64 (0),.slice none 0 0,.slice none 0 0,.slice none 0 0,.bool false,.int .i64 (0),.int .i64 (0)]⟩:=rfl
theorem tb_47:tbl 47=some ⟨.struct [(0,34),(36,26)],37,144,[.bool false,.bool false,ae,ae,ae,ae,ae,ae,ae,ae,ae,ae,ae,ae,ae,ae,ae,ae,.bool false,.bool false,ae,ae,ae,ae,ae,ae,ae,ae,ae,ae,ae,ae,ae,ae,ae,ae,.int .i64 (0)]⟩:=rfl
theorem tb_48:tbl 48=some ⟨.struct [(0,34),(36,26)],37,144,[.bool false,.bool false,ae,ae,ae,ae,ae,ae,ae,ae,ae,ae,ae,ae,ae,ae,ae,ae,.bool false,.bool false,ae,ae,ae,ae,ae,ae,ae,ae,ae,ae,ae,ae,ae,ae,ae,ae,.int .i64 (0)]⟩:=rfl
theorem l5:tbl 52=some ⟨.slice 22,1,24,[.slice none 0 0]⟩:=rfl
theorem tb_55:tbl 55=some ⟨.struct [(0,52),(1,26)],2,32,[.slice none 0 0,.int .i64 (0)]⟩:=rfl
theorem tb_56:tbl 56=some ⟨.struct [(0,52),(1,26)],2,32,[.slice none 0 0,.int .i64 (0)]⟩:=rfl
theorem tb_60:tbl 60=some ⟨.struct [(0,4),(1,26)],2,16,[.bool false,.int .i64 (0)]⟩:=rfl
theorem tb_61:tbl 61=some ⟨.struct [(0,4),(1,26)],2,16,[.bool false,.int .i64 (0)]⟩:=rfl
theorem tb_64:tbl 64=some ⟨.struct [(0,24),(3,26)],4,48,[.int .i64 (0),.int .i64 (0),.slice none 0 0,.int .i64 (0)]⟩:=rfl
theorem tb_65:tbl 65=some ⟨.struct [(0,24),(3,26)],4,48,[.int .i64 (0),.int .i64 (0),.slice none 0 0,.int .i64 (0)]⟩:=rfl
theorem tb_71:tbl 71=some ⟨.struct [(0,22),(1,26)],2,32,[.slice none 0 0,.int .i64 (0)]⟩:=rfl
theorem tb_72:tbl 72=some ⟨.struct [(0,22),(1,26)],2,32,[.slice none 0 0,.int .i64 (0)]⟩:=rfl
theorem qz:tbl 95=some ⟨.slice 102,1,24,[.slice none 0 0]⟩:=rfl
theorem tb_96:tbl 96=some ⟨.struct [(0,24),(3,95)],4,64,[.int .i64 (0),.int .i64 (0),.slice none 0 0,.slice none 0 0]⟩:=rfl
theorem i6:tbl 97=some ⟨.struct [(0,24),(3,95)],4,64,[.int .i64 (0),.int .i64 (0),.slice none 0 0,.slice none 0 0]⟩:=rfl
theorem tb_101:tbl 101=some ⟨.struct [(0,3),(1,34),(37,4)],38,152,[.int .i64 (0),.bool false,.bool false,ae,ae,ae,ae,ae,ae,ae,ae,ae,ae,ae,ae,ae,ae,ae,ae,.bool false,.bool false,ae,ae,ae,ae,ae,ae,ae,ae,ae,ae,ae,ae,ae,ae,ae,ae,.bool false]⟩:=rfl
theorem gq:tbl 102=some ⟨.struct [(0,3),(1,34),(37,4)],38,152,[.int .i64 (0),.bool false,.bool false,ae,ae,ae,ae,ae,ae,ae,ae,ae,ae,ae,ae,ae,ae,ae,ae,.bool false,.bool false,ae,ae,ae,ae,ae,ae,ae,ae,ae,ae,ae,ae,ae,ae,ae,ae,.bool false]⟩:=rfl
theorem pQ:tbl 122=some ⟨.slice 24,1,24,[.slice none 0 0]⟩:=rfl
theorem tb_130:tbl 130=some ⟨.int .u64,1,8,[.int .u64 (0)]⟩:=rfl
theorem uV:tbl 134=some ⟨.arr 32 29,32,128,[ae,ae,ae,ae,ae,ae,ae,ae,ae,ae,ae,ae,ae,ae,ae,ae,ae,ae,ae,ae,ae,ae,ae,ae,ae,ae,ae,ae,ae,ae,ae,ae]⟩:=rfl
theorem tb_136:tbl 136=some ⟨.int .u64,1,8,[.int .u64 (0)]⟩:=rfl
theorem Mi:tbl 137=some ⟨.slice 29,1,24,[.slice none 0 0]⟩:=rfl
theorem pP:tbl 149=some ⟨.slice 32,1,24,[.slice none 0 0]⟩:=rfl
theorem lS:tbl 172=some ⟨.arr 17 29,17,68,[ae,ae,ae,ae,ae,ae,ae,ae,ae,ae,ae,ae,ae,ae,ae,ae,ae]⟩:=rfl
class TB (t:TypeId) (i:outParam TyE):Prop where
 h:tbl t=some i
theorem tbI {t:TypeId}{i:TyE}[h:TB t i]:tbl t=some i:=h.h
@[reducible,instance] def itb_2:=TB.mk tb_2
@[reducible,instance] def itb_3:=TB.mk aY
@[reducible,instance] def itb_4:=TB.mk gp
@[reducible,instance] def itb_5:=TB.mk tb_5
@[reducible,instance] def itb_9:=TB.mk tb_9
@[reducible,instance] def itb_12:=TB.mk tb_12
@[reducible,instance] def itb_13:=TB.mk tb_13
@[reducible,instance] def itb_21:=TB.mk tb_21
@[reducible,instance] def itb_22:=TB.mk aP
@[reducible,instance] def itb_23:=TB.mk tb_23
@[reducible,instance] def itb_24:=TB.mk av
@[reducible,instance] def itb_26:=TB.mk Js
@[reducible,instance] def itb_29:=TB.mk aI
@[reducible,instance] def itb_30:=TB.mk aF
@[reducible,instance] def itb_31:=TB.mk tb_31
@[reducible,instance] def itb_32:=TB.mk ax
@[reducible,instance] def itb_33:=TB.mk tb_33
@[reducible,instance] def itb_34:=TB.mk aA
@[reducible,instance] def itb_35:=TB.mk bV
@[reducible,instance] def itb_44:=TB.mk tb_44
@[reducible,instance] def itb_45:=TB.mk tb_45
@[reducible,instance] def itb_47:=TB.mk tb_47
@[reducible,instance] def itb_48:=TB.mk tb_48
@[reducible,instance] def itb_52:=TB.mk l5
@[reducible,instance] def itb_55:=TB.mk tb_55
@[reducible,instance] def itb_56:=TB.mk tb_56
@[reducible,instance] def itb_60:=TB.mk tb_60
@[reducible,instance] def itb_61:=TB.mk tb_61
@[reducible,instance] def itb_64:=TB.mk tb_64
@[reducible,instance] def itb_65:=TB.mk tb_65
@[reducible,instance] def itb_71:=TB.mk tb_71
@[reducible,instance] def itb_72:=TB.mk tb_72
@[reducible,instance] def itb_95:=TB.mk qz
@[reducible,instance] def itb_96:=TB.mk tb_96
@[reducible,instance] def itb_97:=TB.mk i6
@[reducible,instance] def itb_101:=TB.mk tb_101
@[reducible,instance] def itb_102:=TB.mk gq
@[reducible,instance] def itb_122:=TB.mk pQ
@[reducible,instance] def itb_130:=TB.mk tb_130
@[reducible,instance] def itb_134:=TB.mk uV
@[reducible,instance] def itb_136:=TB.mk tb_136
@[reducible,instance] def itb_137:=TB.mk Mi
@[reducible,instance] def itb_149:=TB.mk pP
@[reducible,instance] def itb_172:=TB.mk lS
def Pd(P:Program):List (Nat×TyE)→Prop
 |[]=>True
 |(t,i)::l=>((P.underlying t).map Ty.of=some i.ty∧(P.info? t).map (fun f=>(f.size,f.bytes,f.zero.map fun v=>(v.cells.toList,v.isAggV)))=some (i.size,i.bytes,some (i.zero,i.ty.agg))∧i.zero.length=i.size∧i.zero.all Value.oneCell'=true)∧Pd P l
theorem Pd.get {P:Program}:∀{l:List (Nat×TyE)} {t:Nat} {i:TyE},Pd P l→l.lookup t=some i→(P.underlying t).map Ty.of=some i.ty∧(P.info? t).map (fun f=>(f.size,f.bytes,f.zero.map fun v=>(v.cells.toList,v.isAggV)))=some (i.size,i.bytes,some (i.zero,i.ty.agg))∧i.zero.length=i.size∧i.zero.all Value.oneCell'=true
 |[],t,i,_,h=>by simp at h
 |(s,j)::l,t,i,h,hl=>by
  by_cases hts:t=s
  ·subst hts
   have:some j=some i:=by rw[←hl];exact ai.symm
   injection this with this
   subst this
   exact h.1
  ·exact Pd.get h.2 (by rw[←hl];exact (ar hts).symm)
theorem tokL:Pd prog tblL:=by
 iterate 44 refine⟨⟨by kernel_rfl,by kernel_rfl,by kernel_rfl,by kernel_rfl⟩,?_⟩
 exact trivial
theorem tok:TOk prog tbl:=fun _ _ h=>tokL.get h
theorem wa:prog.underlying 4=some .bool:=by kernel_rfl
section
section
variable {md:Md} {ops:Array Oper} {K:List (Nat×D)→Hp→Prop} {os:List Oper} {tm:List (Nat×D)} {hp hp':Hp} {t s:Tmp} {op:Op} {ty:TypeId} {pos:String} {af:Array Edge} {d d2:D} {j:Nat} {want c:Bool}
theorem s1(h:AVC prog tbl md.dr op ty (evD tm) hp (Kq d hp'))(h2:bB prog tbl md ops K os ((t,d)::tm) hp')(hn:md.nc tbl op=true:=by exact rfl):bB prog tbl md ops K (⟨some t,op,ty,pos,af,none⟩::os) tm hp:=st tok hn h h2
theorem s0(h:AVC prog tbl md.dr op ty (evD tm) hp (Kq d hp'))(h2:bB prog tbl md ops K os tm hp')(hn:md.nc tbl op=true:=by exact rfl):bB prog tbl md ops K (⟨none,op,ty,pos,af,none⟩::os) tm hp:=st_n tok hn h h2
theorem s2(h:AVC prog tbl md.dr op ty (evD tm) hp (Kq d hp'))(hl:d.le d2)(h2:bB prog tbl md ops K os ((t,d2)::tm) hp')(hn:md.nc tbl op=true:=by exact rfl):bB prog tbl md ops K (⟨some t,op,ty,pos,af,none⟩::os) tm hp:=st_le tok hn h hl h2
theorem g1(hw:c=want)(h:AVC prog tbl md.dr op ty (evD tm) hp (Kq d hp'))(h2:bB prog tbl md ops K os ((t,d)::tm) hp')(hj:(ops[j]?).bind (·.dst)=some s:=by exact rfl)(hc:tm.lookup s=some (.e (.lit (.bool c))):=by exact rfl)(hn:md.nc tbl op=true:=by exact rfl):bB prog tbl md ops K (⟨some t,op,ty,pos,af,some (j,want)⟩::os) tm hp:=go_t tok hn hj hc hw h h2
theorem q1(h:mD prog tbl md ⟨some t,op,ty,pos,af,none⟩ (evD tm) hp d hp')(h2:bB prog tbl md ops K os ((t,d)::tm) hp'):bB prog tbl md ops K (⟨some t,op,ty,pos,af,none⟩::os) tm hp:=FI rfl h h2
theorem fzO {α:Type}(c:Cd α){l:List α}{vs sT:List (Nat×List D)}{lv:List (Nat×Nat×Nat×TypeId)}{N n:Nat}(k:Nat)(ts:List Nat)(hn:n=l.length)(h2:bB prog tbl .seq ops K os (ts.map (fun t=>(t,.e (slE c l)))++tm) ⟨sT,lv,N⟩)(ht:∀t∈ts,tm.lookup t=some (.ow k 0 c.sz n))(hv:vs.lookup k=some (dC ((cW c).f l)):=by exact rfl)(hz:Nat.ble 1 c.sz=true:=by exact rfl)(tX:(vs.filter fun p=>!([k]:List Nat).contains p.1)=sT:=by exact rfl):bB prog tbl .seq ops K os tm ⟨vs,lv,N⟩:=by
 subst tX
 exact .wk rfl (WkS.frzG c ts hn ht hv hz) h2
theorem all1 {p:Nat→Prop}{a:Nat}(h:p a):∀t∈[a],p t:=by simpa using h
theorem all2 {p:Nat→Prop}{a:Nat}{l:List Nat}(h:p a)(hl:∀t∈l,p t):∀t∈a::l,p t:=by simpa using⟨h,hl⟩
variable {x:Cx} {Q:Exit→List (Nat×D)→Hp→Prop}
theorem rg {n id:Nat}{l:List Oper}(hx:x.N=n)(hN:jt n l.toArray=true)(h:∀K:List (Nat×D)→Hp→Prop,(∀tm hp,Q .normal tm hp→K tm hp)→bB prog tbl .seq l.toArray K l tm hp):AW prog x (.region id l.toArray false) tm hp Q:=AW.regS tbl (by rw[hx];exact hN) h
theorem rd {n id:Nat}{l:List Oper}(L:List FuncId)(hx:x.N=n)(hN:jt n l.toArray=true)(oS:uz tbl L l.toArray=true)(h:∀K:List (Nat×D)→Hp→Prop,(∀tm hp,Q .normal tm hp→K tm hp)→bB prog tbl (.any L) l.toArray K l tm hp):AW prog x (.region id l.toArray true) tm hp Q:=AW.drwS tbl L (by kernel_rfl) (by rw[hx];exact hN) oS h
theorem dw {id:Nat}{l:List Oper}(h:DW prog x l [] tm hp Q):AW prog x (.region id l.toArray true) tm hp Q:=AW.dw (by kernel_rfl) h
theorem dwg {n:Nat}{l:List Oper}{C:List (Nat×Nat)}(L:List FuncId)(p:List Nat)(hx:x.N=n)(hp1:JA p l=true)(hN:jt n (d6 p C l).toArray=true)(oS:uz tbl L (d6 p C l).toArray=true)(h:∀K:List (Nat×D)→Hp→Prop,(∀tm hp,Q .normal tm hp→K tm hp)→bB prog tbl (.any L) (d6 p C l).toArray K (d6 p C l) tm hp):DW prog x l C tm hp Q:=DW.go p hp1 (by rw[hx];exact hN) oS h
def PE(x:Cx){S:Type}(e:Exit)(T:S→List (Nat×D))(H:S→Hp)(y:S)(ex:Exit)(tm:List (Nat×D))(hp:Hp):Prop:=ex=e∧Wk x tm hp (T y) (H y)
def PR(rs:List ResultVar){R:Type}(dR:R→D)(y:R)(ex:Exit)(tm:List (Nat×D))(hp:Hp):Prop:=ex=.ret∧fG tbl rs tm hp (dR y)
def PS {A B:Type}(p:A→Exit→List (Nat×D)→Hp→Prop)(q:B→Exit→List (Nat×D)→Hp→Prop)(y:A⊕B)(ex:Exit)(tm:List (Nat×D))(hp:Hp):Prop:=match y with| .inl a=>p a ex tm hp| .inr b=>q b ex tm hp
theorem PS.l {A B:Type}{p:A→Exit→List (Nat×D)→Hp→Prop}{q:B→Exit→List (Nat×D)→Hp→Prop}{a:A}{ex:Exit}(h:p a ex tm hp):PS p q (.inl a) ex tm hp:=h
theorem PS.r {A B:Type}{p:A→Exit→List (Nat×D)→Hp→Prop}{q:B→Exit→List (Nat×D)→Hp→Prop}{b:B}{ex:Exit}(h:q b ex tm hp):PS p q (.inr b) ex tm hp:=h
theorem PE.i {S:Type}{e:Exit}{T:S→List (Nat×D)}{H:S→Hp}{y:S}(hw:Wk x tm hp (T y) (H y)):PE x e T H y e tm hp:=⟨rfl,hw⟩
theorem PR.i {rs:List ResultVar}{R:Type}{dR:R→D}{y:R}(hw:fG tbl rs tm hp (dR y)):PR rs dR y .ret tm hp:=⟨rfl,hw⟩
theorem jn {c:Code}{Q':Exit→List (Nat×D)→Hp→Prop}(Q:Exit→List (Nat×D)→Hp→Prop)(h:AW prog x c tm hp Q)(hq:∀ex tm hp,Q ex tm hp→Q' ex tm hp):AW prog x c tm hp Q':=AW.mono h hq
theorem lp {c:Code}{S X:Type}{b:S→Option (S⊕X)}{Q:Exit→List (Nat×D)→Hp→Prop}{s:S}{e:X}(T:S→List (Nat×D))(H:S→Hp)(QX:X→Exit→List (Nat×D)→Hp→Prop)(h:a7 b s=some e)(hw:Wk x tm hp (T s) (H s))
  (round:∀s y,b s=some y→AW prog x c (T s) (H s) (PS (PE x .normal T H) (fun e ex tm hp=>ex≠.normal∧QX e ex tm hp) y)) (hq:∀ex tm hp,QX e ex tm hp→Q ex tm hp):AW prog x (.loop c) tm hp Q:=
 AW.mono (AW.loopO T H QX (fun s y hy=>AW.mono (round s y hy) fun ex tm' hp' h=>by cases y <;> exact h) h hw) hq
end
end
section
section
variable {md:Md} {ops:Array Oper} {K:List (Nat×D)→Hp→Prop} {os:List Oper} {tm:List (Nat×D)} {hp hp':Hp} {t s:Tmp} {op:Op} {ty:TypeId} {pos:String} {af:Array Edge} {d d2:D} {j:Nat} {want c:Bool}
variable {dr:Bool} {ev:List (Nat×D)}
theorem A_int {k:IntKind}{n:Int}:AVC prog tbl dr (.assign (.const (.int k n))) ty (evD ev) hp (Kq (dI k n) hp):=G8
theorem PF {b:Bool}:AVC prog tbl dr (.assign (.const (.bool b))) ty (evD ev) hp (Kq (dB b) hp):=G8
theorem M_int {k:IntKind}{n:Int}:AVC prog tbl dr (.move (.const (.int k n))) ty (evD ev) hp (Kq (dI k n) hp):=E0
theorem K_faP {s tt:TypeId}{x:Operand}{i j:TyE}{f o k off:Nat}{fs:List (Nat×TypeId)}{ev:Operand→D}(hs:tbl s=some i:=by exact tbI)(hi:i.ty=.struct fs:=by exact rfl)(hf:fs[f]? =some (o,tt):=by exact rfl)(hx:ev x=.pt k off:=by exact rfl)(ht:tbl tt=some j:=by exact tbI)(hz:Nat.ble 1 j.size=true:=by exact rfl):AVC prog tbl dr (.fieldAddr s x f) ty ev hp (Kq (.pt k (off+o)) hp):=T_faP hs ht hi hf hz hx
theorem K_faF {s tt:TypeId}{x:Operand}{i j:TyE}{f o off:Nat}{xs:List E}{fs:List (Nat×TypeId)}{ev:Operand→D}(hs:tbl s=some i:=by exact tbI)(hi:i.ty=.struct fs:=by exact rfl)(hf:fs[f]? =some (o,tt):=by exact rfl)(hx:ev x=.fp xs off:=by exact rfl)(ht:tbl tt=some j:=by exact tbI)(hz:Nat.ble 1 j.size=true:=by exact rfl):AVC prog tbl dr (.fieldAddr s x f) ty ev hp (Kq (.fp xs (off+o)) hp):=T_faF hs ht hi hf hz hx
theorem K_len {t e:TypeId}{x:Operand}{i j:TyE}{n:Nat}{xs:List E}{ev:Operand→D}(ht:tbl t=some i:=by exact tbI)(hi:i.ty=.slice e:=by exact rfl)(he:tbl e=some j:=by exact tbI)(hx:(ev x).asSl j.size=some (n,xs):=by exact rfl):AVC prog tbl dr (.call ⟨.builtin .len,#[x],#[t]⟩) ty ev hp (Kq (dI .i64 n) hp):=T_len ht he hi hx
theorem K_lenW {t e:TypeId}{x:Operand}{i j:TyE}{k off z n:Nat}{ev:Operand→D}(ht:tbl t=some i:=by exact tbI)(hi:i.ty=.slice e:=by exact rfl)(he:tbl e=some j:=by exact tbI)(hx:ev x=.ow k off z n:=by exact rfl):AVC prog tbl dr (.call ⟨.builtin .len,#[x],#[t]⟩) ty ev hp (Kq (dI .i64 n) hp):=yB ht he hi hx
theorem K_shl {t t':TypeId}{x y:Operand}{k k':IntKind}{a b:Int}{ev:Operand→D}(hx:ev x=dI k a:=by exact rfl)(hy:ev y=dI k' b:=by exact rfl)(hb:0≤b:=by decide):AVC prog tbl dr (.binOp .shl t x y t') ty ev hp (Kq (dI k (u9 k a b)) hp):=O9 hb hx hy
theorem K_shr {t t':TypeId}{x y:Operand}{k k':IntKind}{a b:Int}{ev:Operand→D}(hx:ev x=dI k a:=by exact rfl)(hy:ev y=dI k' b:=by exact rfl)(hb:0≤b:=by decide):AVC prog tbl dr (.binOp .shr t x y t') ty ev hp (Kq (dI k (lf k a b)) hp):=O8 hb hx hy
theorem K_quo {t t':TypeId}{x y:Operand}{k:IntKind}{a b:Int}{ev:Operand→D}(hx:ev x=dI k a:=by exact rfl)(hy:ev y=dI k b:=by exact rfl)(hb:b≠0:=by decide):AVC prog tbl dr (.binOp .quo t x y t') ty ev hp (Kq (dI k (k.wrap (a.tdiv b))) hp):=G7 hb hx hy
theorem K_rem {t t':TypeId}{x y:Operand}{k:IntKind}{a b:Int}{ev:Operand→D}(hx:ev x=dI k a:=by exact rfl)(hy:ev y=dI k b:=by exact rfl)(hb:b≠0:=by decide):AVC prog tbl dr (.binOp .rem t x y t') ty ev hp (Kq (dI k (a.tmod b)) hp):=Dp hb hx hy
theorem sa(h2:bB prog tbl md ops K os ((t,d)::tm) hp')(h:AVC prog tbl md.dr op ty (evD tm) hp (Kq d hp'):=by (first|exact T_mv|exact kO|exact A_int|exact PF|exact A_str|exact M_int|exact M_bool|exact M_str|exact G8|exact E0|exact T_not|exact Pa|exact T_nilF|exact T_ext|exact T_add|exact T_sub|exact T_mul|exact T_eql|exact T_neq|exact T_lss|exact T_leq|exact T_gtr|exact T_geq|exact T_seql|exact T_sneq|exact Pc wa|exact Pb wa|exact T_and|exact T_or|exact T_xor|exact T_neg|exact K_shl|exact K_shr|exact K_quo|exact K_rem|exact K_faP|exact K_faF|exact T_cvI tbI tbI|exact T_cvS tbI tbI|exact K_len|exact T_lenS tbI|exact T_lenA tbI|exact K_lenW|exact T_min|exact T_max|exact T_boxV))(hn:md.nc tbl op=true:=by exact rfl):bB prog tbl md ops K (⟨some t,op,ty,pos,af,none⟩::os) tm hp:=st tok hn h h2
theorem ga(hw:c=want)(h2:bB prog tbl md ops K os ((t,d)::tm) hp')(hj:(ops[j]?).bind (·.dst)=some s:=by exact rfl)(hc:tm.lookup s=some (.e (.lit (.bool c))):=by exact rfl)(h:AVC prog tbl md.dr op ty (evD tm) hp (Kq d hp'):=by (first|exact T_mv|exact kO|exact A_int|exact PF|exact A_str|exact M_int|exact M_bool|exact M_str|exact G8|exact E0|exact T_not|exact Pa|exact T_nilF|exact T_ext|exact T_add|exact T_sub|exact T_mul|exact T_eql|exact T_neq|exact T_lss|exact T_leq|exact T_gtr|exact T_geq|exact T_seql|exact T_sneq|exact Pc wa|exact Pb wa|exact K_faP|exact K_faF|exact T_cvI tbI tbI|exact K_len|exact T_lenS tbI))(hn:md.nc tbl op=true:=by exact rfl):bB prog tbl md ops K (⟨some t,op,ty,pos,af,some (j,want)⟩::os) tm hp:=go_t tok hn hj hc hw h h2
theorem pn {ev:Operand→D}:((([]:List Operand).map ev).map D.ex).all D.pure=true:=rfl
theorem pA {ev:Operand→D}{a:Operand}{la:List Operand}(h:(ev a).ex.pure=true)(hl:((la.map ev).map D.ex).all D.pure=true):(((a::la).map ev).map D.ex).all D.pure=true:=by
 rw[cp,cp,jy,h,hl];rfl
theorem lC {ev:Operand→D}{a:Operand}{la:List Operand}{d':D}{ds':List D}(h:(ev a).ex.le d')(hl:leL ((la.map ev).map D.ex) ds'):leL (((a::la).map ev).map D.ex) (d'::ds'):=⟨h,hl⟩
theorem cq {f:FuncId}{la:List Operand}{ts:Array TypeId}{ds:List D}{r:D}(hc:aC prog f ds r)(h2:bB prog tbl md ops K os ((t,r)::tm) hp)(hp1:((la.map (evD tm)).map D.ex).all D.pure=true:=by repeat (first|exact pn|refine pA (bc _ _) ?_|refine pA rfl ?_))(hl:leL ((la.map (evD tm)).map D.ex) ds:=by repeat (first|exact lAn|refine lC (fm _ _) ?_|refine lC (an _) ?_))(hr:r.pure=true∨∃ds,r=.tu ds:=by (first|exact .inl (gP _ _)|exact .inl rfl|exact .inr ⟨_,rfl⟩)):
  bB prog tbl md ops K (⟨some t,.call ⟨.value (.func f),la.toArray,ts⟩,ty,pos,af,none⟩::os) tm hp:=sq tok hc hp1 hl hr h2
theorem sc {x:Operand}{f:FuncId}{la:List Operand}{ts:Array TypeId}{ds:List D}{r:D}(hc:aC prog f ds r)(h2:bB prog tbl md ops K os ((t,r)::tm) hp)(vd:evD tm x=.e (.lit (.func (.func f) #[] #[])):=by exact rfl)(hp1:((la.map (evD tm)).map D.ex).all D.pure=true:=by repeat (first|exact pn|refine pA (bc _ _) ?_|refine pA rfl ?_))(hl:leL ((la.map (evD tm)).map D.ex) ds:=by repeat (first|exact lAn|refine lC (fm _ _) ?_|refine lC (an _) ?_))(hr:r.pure=true∨∃ds,r=.tu ds:=by (first|exact .inl (gP _ _)|exact .inl rfl|exact .inr ⟨_,rfl⟩))(hn:md.nc tbl (.call ⟨.value x,la.toArray,ts⟩)=true:=by exact rfl):
  bB prog tbl md ops K (⟨some t,.call ⟨.value x,la.toArray,ts⟩,ty,pos,af,none⟩::os) tm hp:=st tok hn (eC vd hc hp1 hl hr) h2
variable {x:Cx} {Q:Exit→List (Nat×D)→Hp→Prop}
theorem rq {n id:Nat}{l:List Oper}(hx:x.N=n)(h:∀K:List (Nat×D)→Hp→Prop,(∀tm hp,Q .normal tm hp→K tm hp)→bB prog tbl .seq l.toArray K l tm hp)(hN:jt n l.toArray=true:=by kernel_rfl):AW prog x (.region id l.toArray false) tm hp Q:=rg hx hN h
theorem rqd {n id:Nat}{l:List Oper}(L:List FuncId)(hx:x.N=n)(h:∀K:List (Nat×D)→Hp→Prop,(∀tm hp,Q .normal tm hp→K tm hp)→bB prog tbl (.any L) l.toArray K l tm hp)(hN:jt n l.toArray=true:=by kernel_rfl)(oS:uz tbl L l.toArray=true:=by kernel_rfl):AW prog x (.region id l.toArray true) tm hp Q:=rd L hx hN oS h
theorem rv1 {q:ResultVar}{r:D}(h:fG tbl [q] tm hp r:=by (first|exact fG.mk1 (bR rfl (.inr (.inr ⟨_,(an _),rfl,rfl⟩)))|exact fG.mk1 (pR rfl tbI rfl rfl (ltb rfl) (Cd.h _ _) (.inr (.inr ⟨_,(an _),gP _ _,rfl⟩))))):fG tbl [q] tm hp r:=h
theorem rv2 {q q':ResultVar}{r:D}(h:fG tbl [q,q'] tm hp r:=by (first|exact fG.mk2 (bR rfl (bR rfl (.inr ⟨_,_,(an _),(an _),⟨rfl,rfl⟩,rfl⟩)))|exact fG.mk2 (pR rfl tbI rfl rfl (ltb rfl) (Cd.h _ _) (bR rfl (.inr ⟨_,_,(an _),(an _),⟨gP _ _,rfl⟩,rfl⟩)))|exact fG.mk2 (pR rfl tbI rfl rfl (ltb rfl) (Cd.h _ _) (pR rfl tbI rfl rfl (ltb rfl) (Cd.h _ _) (.inr ⟨_,_,(an _),(an _),⟨gP _ _,gP _ _⟩,rfl⟩))))):fG tbl [q,q'] tm hp r:=h
theorem pe0 {S:Type}{e:Exit}{T:S→List (Nat×D)}{H:S→Hp}{y:S}{vars':List (Nat×List D)}{pc:List (Nat×Nat×Nat×TypeId)}{m:Nat}{tm':List (Nat×D)}(h0:x.hp0=⟨[],[],0⟩)(os:List Nat)(hT:T y=tm':=by exact rfl)(hH:H y=⟨vars',pc,m⟩:=by exact rfl)(ht:wkT (sg 0 os) m tm tm':=by repeat (first|exact wTn|refine wR rfl ?_|refine wG rfl (an _) ?_))(hv:wkV (sg 0 os) m hp.vars vars':=by repeat (first|exact wVn|refine vC rfl ?_|refine vR rfl ?_))(hl:wkL (sg 0 os) m hp.live pc:=by repeat (first|exact wLn|refine wL rfl rfl ?_))(vY:os.Nodup:=by decide)(hm:m=0+os.length:=by exact rfl):PE x e T H y e tm hp:=PE.i (by rw[hT,hH];exact wk h0 os ht hv hl vY hm)
theorem rs {n id:Nat}{l:List Oper}{b:Code}(hx:x.N=n)(h:∀K:List (Nat×D)→Hp→Prop,(∀tm hp,AW prog x b tm hp Q→K tm hp)→bB prog tbl .seq l.toArray K l tm hp)(hN:jt n l.toArray=true:=by kernel_rfl):AW prog x (.seq (.region id l.toArray false) b) tm hp Q:=AW.seq (rg hx hN fun K hK=>h K hK)
theorem rsd {n id:Nat}{l:List Oper}{b:Code}(L:List FuncId)(hx:x.N=n)(h:∀K:List (Nat×D)→Hp→Prop,(∀tm hp,AW prog x b tm hp Q→K tm hp)→bB prog tbl (.any L) l.toArray K l tm hp)(hN:jt n l.toArray=true:=by kernel_rfl)(oS:uz tbl L l.toArray=true:=by kernel_rfl):AW prog x (.seq (.region id l.toArray true) b) tm hp Q:=AW.seq (rd L hx hN oS fun K hK=>h K hK)
theorem ra {n id:Nat}{l:List Oper}{b:Code}{tm':List (Nat×D)}(hx:x.N=n)(h2:AW prog x b tm' hp' Q)(h:∀K:List (Nat×D)→Hp→Prop,K tm' hp'→bB prog tbl .seq l.toArray K l tm hp:=by (intro K hK;(repeat (refine sa ?_));exact .nil hK))(hN:jt n l.toArray=true:=by kernel_rfl):AW prog x (.seq (.region id l.toArray false) b) tm hp Q:=rs hx (fun K hK=>h K (hK _ _ h2)) hN
theorem rb {n id:Nat}{l:List Oper}{tm':List (Nat×D)}(hx:x.N=n)(h2:Q .normal tm' hp')(h:∀K:List (Nat×D)→Hp→Prop,K tm' hp'→bB prog tbl .seq l.toArray K l tm hp:=by (intro K hK;(repeat (refine sa ?_));exact .nil hK))(hN:jt n l.toArray=true:=by kernel_rfl):AW prog x (.region id l.toArray false) tm hp Q:=rq hx (fun K hK=>h K (hK _ _ h2)) hN
theorem cdh {R:Type}{y z:Option R}{r:R}{c:Operand}{c1 c2:Code}{b:Bool}(h:cnd b y z=some r)(hc:evD tm c=.e (.lit (.bool b)))(ht:b=true→y=some r→AW prog x c1 tm hp Q)(hf:b=false→z=some r→AW prog x c2 tm hp Q):AW prog x (.cond c c1 c2) tm hp Q:=AW.condS hc (fun hb=>ht hb (aZ hb h)) fun hb=>hf hb (a3 hb h)
theorem scb {R S:Type}{g:Option S}{k:S→Option R}{z:R}{x:Operand}{f:FuncId}{la:List Operand}{ts:Array TypeId}{ds:List D}{dr:S→D}(h:bnd g k=some z)(w:∀{y:S},g=some y→aC prog f ds (dr y))(h2:∀y,k y=some z→bB prog tbl md ops K os ((t,dr y)::tm) hp)(vd:evD tm x=.e (.lit (.func (.func f) #[] #[])):=by exact rfl)(hp1:((la.map (evD tm)).map D.ex).all D.pure=true:=by repeat (first|exact pn|refine pA (bc _ _) ?_|refine pA rfl ?_))(hl:leL ((la.map (evD tm)).map D.ex) ds:=by repeat (first|exact lAn|refine lC (fm _ _) ?_|refine lC (an _) ?_))(hr:∀y,(dr y).pure=true∨∃ds,dr y=.tu ds:=by (intro y;first|exact .inl (gP _ _)|exact .inl rfl|exact .inr ⟨_,rfl⟩))(hn:md.nc tbl (.call ⟨.value x,la.toArray,ts⟩)=true:=by exact rfl):
  bB prog tbl md ops K (⟨some t,.call ⟨.value x,la.toArray,ts⟩,ty,pos,af,none⟩::os) tm hp:=by
 obtain⟨y,h3,h4⟩:=ah h
 exact st tok hn (eC vd (w h3) hp1 hl (hr y)) (h2 y h4)
theorem cqb {R S:Type}{g:Option S}{k:S→Option R}{z:R}{f:FuncId}{la:List Operand}{ts:Array TypeId}{ds:List D}{dr:S→D}(h:bnd g k=some z)(w:∀{y:S},g=some y→aC prog f ds (dr y))(h2:∀y,k y=some z→bB prog tbl md ops K os ((t,dr y)::tm) hp)(hp1:((la.map (evD tm)).map D.ex).all D.pure=true:=by repeat (first|exact pn|refine pA (bc _ _) ?_|refine pA rfl ?_))(hl:leL ((la.map (evD tm)).map D.ex) ds:=by repeat (first|exact lAn|refine lC (fm _ _) ?_|refine lC (an _) ?_))(hr:∀y,(dr y).pure=true∨∃ds,dr y=.tu ds:=by (intro y;first|exact .inl (gP _ _)|exact .inl rfl|exact .inr ⟨_,rfl⟩)):
  bB prog tbl md ops K (⟨some t,.call ⟨.value (.func f),la.toArray,ts⟩,ty,pos,af,none⟩::os) tm hp:=by
 obtain⟨y,h3,h4⟩:=ah h
 exact sq tok (w h3) hp1 hl (hr y) (h2 y h4)
theorem bQ {f : FuncId} {fn : Func} {c : Code} {ds : List D} {r : D} {rs : List ResultVar} {tm0 : List (Nat × D)} (h : ∀ x : Cx, x.N = fn.ntmps → x.hp0 = ⟨[], [], 0⟩ → AW prog x c tm0 ⟨[], [], 0⟩ fun ex tm hp => match ex with | .normal | .ret => fG tbl rs tm hp r | _ => False) (hf : prog.funcs[f]? = some fn) (hb : fn.body = some c := by exact rfl) (rt : (fn.name == "runtime.NumGoroutine") = false := by exact rfl) (hN : Nat.ble ds.length fn.ntmps = true := by exact rfl) (hrs : fn.results.toList = rs := by exact rfl) (ia : ee 0 ds = tm0 := by (simp only [ee, Nat.reduceAdd, br]; rfl)) : aC prog f ds r := aC.of tok hf hb rt (bg hN) hrs (by rw [ia]; exact h)
end
end
abbrev al_cV:Cd (Vector Int 16):=cA 16 (cI .u32)
structure aq where
 vBad:Bool
 vNeg:Bool
 vW:Vector Int 16
 deriving Inhabited,DecidableEq
abbrev bz:aq:=⟨false,false,bS⟩
def ap:Cd aq:=⟨18,fun x=>[.lit (.bool x.vBad),.lit (.bool x.vNeg)]++al_cV.f x.vW,fun x=>by simp[al_cV.h,show al_cV.sz=16 from rfl]⟩
theorem iv(x:aq):ao (ap.f x) cB 0 x.vBad (fun y=>ap.f (⟨y,x.vNeg,x.vW⟩:aq)):=
 ao.of ([]) ((cB).f x.vNeg++(al_cV).f x.vW) (by first|rfl|(simp[al_cV.h,cB.h];first|rfl|done)) (by first|rfl|simp[ap,cI,cB,cS,cL,dP]) (fun y=>by first|rfl|simp[ap,cI,cB,cS,cL,dP])
theorem bu(x:aq):ao (ap.f x) cB 1 x.vNeg (fun y=>ap.f (⟨x.vBad,y,x.vW⟩:aq)):=
 ao.of ((cB).f x.vBad) ((al_cV).f x.vW) (by first|rfl|(simp[al_cV.h,cB.h];first|rfl|done)) (by first|rfl|simp[ap,cI,cB,cS,cL,dP]) (fun y=>by first|rfl|simp[ap,cI,cB,cS,cL,dP])
theorem aT(x:aq):ao (ap.f x) al_cV 2 x.vW (fun y=>ap.f (⟨x.vBad,x.vNeg,y⟩:aq)):=
 ao.of ((cB).f x.vBad++(cB).f x.vNeg) ([]) (by first|rfl|(simp[al_cV.h,cB.h];first|rfl|done)) (by first|rfl|simp[ap,cI,cB,cS,cL,dP]) (fun y=>by first|rfl|simp[ap,cI,cB,cS,cL,dP])
def j9(bn:aq):Option Bool:=bnd (some (decide (bn.vW=#v[(0:Int),0,0,0,0,0,0,0,0,0,0,0,0,0,0,0]))) fun x1=>cnd bn.vBad (bnd (S:=Bool) (cnd x1 (some (!bn.vNeg)) (some (false))) fun mQ=>some mQ) (bnd (S:=Bool) (cnd (!x1) (some (true)) (some (!bn.vNeg))) fun g8=>some g8)
theorem uq {bn:aq}{r:Bool}(h:j9 bn=some r):aC prog 129 [dG ap bn] (dB r):=by
 refine bQ (rs:=[.tmp 2]) (fun cx hx h0=>?_) func129
 unfold j9 at h
 refine ra hx ?_
 refine rs hx fun K hK=>?_
 refine sa ?_
 refine s1 (aE (aT bn) aF) ?_
 refine s1 (d:=dG al_cV (#v[(0:Int),0,0,0,0,0,0,0,0,0,0,0,0,0,0,0])) (lx aF aI) ?_
 refine s1 (vJ tok 2 (by decide) (EqC.arr (EqC.int (d:=0) aI) aF aI) aF) ?_
 obtain⟨x1,zw,h⟩:=ah h
 replace zw:=cv zw
 refine s2 (d2:=dB x1) kO (fR (congrArg dB zw)) ?_
 refine .nil (hK _ _ (AW.seq (rs hx fun K hK=>?_)))
 refine sa ?_
 refine s1 (a4 (iv bn) gp) ?_
 refine .nil (hK _ _ (cdh h rfl (fun bo h=>?_) (fun bo h=>?_)))
 refine AW.seq ?_
 obtain⟨mQ,hy,h⟩:=ah h
 refine jn ((PE cx .normal (fun mQ=>[(2,dB mQ)]) fun mQ=>⟨[],[],0⟩) mQ) ?_ ?_
 replace h:=hy
 refine rq hx fun K hK=>?_
 iterate 2 refine sa ?_
 rcases aX x1 with qR|qR
 replace h:=aZ qR h
 refine ga qR ?_
 refine g1 qR (a4 (bu bn) gp) ?_
 refine ga qR ?_
 refine s1 (al qR) ?_
 refine sa ?_
 refine .nil (hK _ _ ?_)
 cases h
 exact pe0 h0 []
 replace h:=a3 qR h
 iterate 3 refine aH rfl rfl qR ?_
 refine s1 (au qR) ?_
 refine sa ?_
 refine .nil (hK _ _ ?_)
 cases h
 exact pe0 h0 []
 rintro ex tm' hp' ⟨rfl,hw⟩
 refine AW.weak hw (AW.ret ?_)
 cases h
 exact rv1
 refine AW.skip (AW.seq ?_)
 obtain⟨g8,hy,h⟩:=ah h
 refine jn ((PE cx .normal (fun g8=>[(2,dB g8)]) fun g8=>⟨[],[],0⟩) g8) ?_ ?_
 replace h:=hy
 refine rq hx fun K hK=>?_
 iterate 3 refine sa ?_
 rcases aX (!x1) with eW|eW
 replace h:=aZ eW h
 iterate 3 refine aH rfl rfl eW ?_
 refine s1 (al eW) ?_
 refine sa ?_
 refine .nil (hK _ _ ?_)
 cases h
 exact pe0 h0 []
 replace h:=a3 eW h
 refine ga eW ?_
 refine g1 eW (a4 (bu bn) gp) ?_
 refine ga eW ?_
 refine s1 (au eW) ?_
 refine sa ?_
 refine .nil (hK _ _ ?_)
 cases h
 exact pe0 h0 []
 rintro ex tm' hp' ⟨rfl,hw⟩
 refine AW.weak hw (AW.ret ?_)
 cases h
 exact rv1
def dT :Option aq:=some (⟨true,false,(bS)⟩:aq)
theorem gB  {r:aq}(h:dT=some r):aC prog 109 [] (dG ap r):=by
 refine bQ (rs:=[.cell 0 32]) (fun cx hx h0=>?_) func109
 unfold dT at h
 refine rs hx fun K hK=>?_
 refine s1 (bp (F:=ap.f bz) ax) ?_
 refine .nil (hK _ _ (rs hx fun K hK=>?_))
 refine s1 (d:=dG ap (⟨true,false,(bS)⟩:aq)) (jz (FL.cons (y:=true) (iv bz) rfl rfl (FL.nil _)) ax) ?_
 refine s0 (aO (b':=(⟨true,false,(bS)⟩:aq)) (ao.id _ _) ax) ?_
 refine .nil (hK _ _ (AW.ret ?_))
 cases h
 exact rv1
def ml(f8:List aq):Int→Option (Int⊕(Bool⊕Unit)):=fun aV=>cnd (decide (aV<((f8).length:Int))) (gd (0≤aV∧aV<((f8).length:Int)) (bnd (S:=Bool) (cnd (((f8)[(aV).toNat]!).vBad) (some (true)) (bnd (j9 ((f8)[(aV).toNat]!)) fun x5=>some (!x5))) fun bm=>cnd bm (some (.inr (.inl false))) (some (.inl (i64.wrap (aV+(1:Int))))))) (some (.inr (.inr ())))
def cN(f8:List aq):Option Bool:=bnd (a7 (ml f8) (0:Int)) fun y9=>match y9 with| .inl r=>some r| .inr ()=>some true
theorem gl {f8:List aq}{r:Bool}(h:cN f8=some r):aC prog 110 [dL ap f8] (dB r):=by
 refine bQ (rs:=[.tmp 2]) (fun cx hx h0=>?_) func110
 unfold cN at h
 refine ra hx ?_
 refine AW.seq (ra hx ?_)
 refine AW.block ?_
 obtain⟨y,hy,h⟩:=ah h
 refine lp (S:=Int) (X:=Bool⊕Unit) (fun aV=>[(5,dL ap f8),(6,dI .i64 ((f8).length:Int)),(7,dI .i64 aV)]) (fun aV=>⟨[],[],0⟩) (PS (PR [.tmp 2] fun r=>dB r) (PE cx (.exit 0) (fun ()=>[]) fun ()=>⟨[],[],0⟩)) hy ?_ ?_ ?_
 exact wk h0 [] (wR rfl (wR rfl (wR rfl wTn))) wVn wLn
 clear hy h
 rintro aV y h
 dsimp only[ml] at h
 refine ra hx ?_
 refine AW.seq (cdh h rfl (fun cH h=>?_) (fun cH h=>?_))
 refine AW.skip (AW.seq (AW.block (rs hx fun K hK=>?_)))
 obtain⟨nb,h⟩:=aD h
 have p8:(aV).toNat<(f8).length:=by omega
 refine s1 (gk nb pP ax) ?_
 refine s1 (d:=dG ap ((f8)[(aV).toNat]!)) (pm (c:=ap) (l:=f8) (n:=(aV).toNat) (o:=0) ax p8 (kC _ _ rfl)) ?_
 refine s1 (bp (F:=ap.f bz) ax) ?_
 refine s0 (aO (b':=(f8)[(aV).toNat]!) (ao.id _ _) ax) ?_
 refine .nil (hK _ _ (AW.seq ?_))
 obtain⟨bm,hy,h⟩:=ah h
 refine jn ((PE cx .normal (fun bm=>[(5,dL ap f8),(6,dI .i64 ((f8).length:Int)),(7,dI .i64 aV),(17,dB bm)]) fun bm=>⟨[],[],0⟩) bm) ?_ ?_
 replace h:=hy
 refine rq hx fun K hK=>?_
 refine sa ?_
 refine s1 (a4 (iv ((f8)[(aV).toNat]!)) gp) ?_
 refine sa ?_
 rcases aX (((f8)[(aV).toNat]!).vBad) with qR|qR
 replace h:=aZ qR h
 iterate 3 refine aH rfl rfl qR ?_
 refine s1 (al qR) ?_
 refine .nil (hK _ _ ?_)
 cases h
 exact pe0 h0 []
 replace h:=a3 qR h
 refine g1 (d:=dG ap ((f8)[(aV).toNat]!)) qR (aE (ao.id _ _) ax) ?_
 obtain⟨x5,D5,h⟩:=ah h
 refine g1 qR (eC rfl (uq D5) (by simp only[cp,dh,jy,fO,dX,dW];exact bc _ _) (lA (fm _ _) lAn) (.inl rfl)) ?_
 refine ga qR ?_
 refine s1 (au qR) ?_
 refine .nil (hK _ _ ?_)
 cases h
 exact pe0 h0 []
 rintro ex tm' hp' ⟨rfl,hw⟩
 refine AW.weak hw (cdh h rfl (fun qD h=>?_) (fun qD h=>?_))
 refine ra hx ?_
 refine AW.ret ?_
 cases h
 refine PS.r ⟨by nofun,PS.l (PR.i ?_)⟩
 exact rv1
 refine AW.skip (rb hx ?_)
 cases h
 exact PS.l (pe0 h0 [])
 refine AW.exit ?_
 try dsimp only
 try simp only[aN,reduceIte,Nat.reduceEqDiff,reduceCtorEq]
 cases h
 exact PS.r ⟨by nofun,PS.r (PE.i (wk h0 [] wTn wVn wLn))⟩
 rcases y with r|⟨⟩
 rintro ex tm' hp' ⟨rfl,hw⟩
 cases h
 exact hw
 rintro ex tm' hp' ⟨rfl,hw⟩
 try dsimp only
 try simp only[aN,reduceIte,Nat.reduceEqDiff,reduceCtorEq]
 refine AW.weak hw (ra hx ?_)
 refine AW.ret ?_
 cases h
 exact rv1
def bE(s9:Bool)(oQ:Vector Int 16):Option aq:=bnd (S:=aq) (cnd s9 (bnd (some ((⟨false,decide (¬(oQ=#v[(0:Int),0,0,0,0,0,0,0,0,0,0,0,0,0,0,0])),oQ⟩:aq))) fun x2=>some (x2)) (some ((⟨false,false,oQ⟩:aq)))) fun jR=>some jR
theorem cT {s9:Bool}{oQ:Vector Int 16}{r:aq}(h:bE s9 oQ=some r):aC prog 111 [dB s9,dG al_cV oQ] (dG ap r):=by
 refine bQ (rs:=[.cell 4 32]) (fun cx hx h0=>?_) func111
 unfold bE at h
 refine rs hx fun K hK=>?_
 refine sa ?_
 refine s1 (bp (F:=ap.f bz) ax) ?_
 refine .nil (hK _ _ (AW.seq ?_))
 obtain⟨jR,hy,h⟩:=ah h
 refine jn ((PE cx .normal (fun jR=>[(4,.pt 0 0)]) fun jR=>⟨[(0,dC (ap.f jR))],[],1⟩) jR) ?_ ?_
 replace h:=hy
 refine rqd [] hx fun K hK=>?_
 iterate 2 refine sa ?_
 rcases aX s9 with cH|cH
 replace h:=aZ cH h
 refine g1 (d:=dG al_cV oQ) cH (aE (ao.id _ _) aF) ?_
 refine g1 (d:=dG al_cV (#v[(0:Int),0,0,0,0,0,0,0,0,0,0,0,0,0,0,0])) cH (lx aF aI) ?_
 refine g1 cH (sw tok 2 (by decide) (EqC.arr (EqC.int (d:=0) aI) aF aI) aF) ?_
 refine s1 (al cH) ?_
 refine s1 (d:=dG al_cV oQ) (aE (ao.id _ _) aF) ?_
 refine s1 (d:=dG ap (⟨false,decide (¬(oQ=#v[(0:Int),0,0,0,0,0,0,0,0,0,0,0,0,0,0,0])),oQ⟩:aq)) (jz (FL.cons (y:=decide (¬(oQ=#v[(0:Int),0,0,0,0,0,0,0,0,0,0,0,0,0,0,0]))) (bu bz) rfl rfl (FL.cons (y:=oQ) (aT (⟨false,decide (¬(oQ=#v[(0:Int),0,0,0,0,0,0,0,0,0,0,0,0,0,0,0])),(bS)⟩:aq)) rfl rfl (FL.nil _))) ax) ?_
 obtain⟨x2,Ni,h⟩:=ah h
 replace Ni:=cv Ni
 refine s0 (jT (b':=(⟨false,decide (¬(oQ=#v[(0:Int),0,0,0,0,0,0,0,0,0,0,0,0,0,0,0])),oQ⟩:aq)) (ao.id _ _) ax Ni) ?_
 refine .nil (hK _ _ ?_)
 cases h
 exact pe0 h0 [1]
 replace h:=a3 cH h
 iterate 3 refine aH rfl rfl cH ?_
 refine s1 (au cH) ?_
 refine s1 (d:=dG al_cV oQ) (aE (ao.id _ _) aF) ?_
 refine s1 (d:=dG ap (⟨false,false,oQ⟩:aq)) (jz (FL.cons (y:=false) (bu bz) rfl rfl (FL.cons (y:=oQ) (aT bz) rfl rfl (FL.nil _))) ax) ?_
 refine s0 (aO (b':=(⟨false,false,oQ⟩:aq)) (ao.id _ _) ax) ?_
 refine .nil (hK _ _ ?_)
 cases h
 exact pe0 h0 [1]
 rintro ex tm' hp' ⟨rfl,hw⟩
 refine AW.weak hw (AW.ret ?_)
 cases h
 exact rv1
def eM(c8:Int):Option aq:=bnd (S:=Int) (cnd (decide (c8<(0:Int))) (some (u64.wrap (0 - (u64.wrap (c8))))) (some (u64.wrap (c8)))) fun kA=>bnd (bE (decide (c8<(0:Int))) (#v[u32.wrap (kA),u32.wrap (lf .u64 kA (32:Int)),0,0,0,0,0,0,0,0,0,0,0,0,0,0])) fun x3=>some x3
theorem mn {c8:Int}{r:aq}(h:eM c8=some r):aC prog 105 [dI .i64 c8] (dG ap r):=by
 refine bQ (rs:=[.cell 2 32]) (fun cx hx h0=>?_) func105
 unfold eM at h
 refine rs hx fun K hK=>?_
 refine s1 (bp (F:=ap.f bz) ax) ?_
 refine .nil (hK _ _ (ra hx ?_))
 refine AW.seq ?_
 obtain⟨kA,hy,h⟩:=ah h
 refine jn ((PE cx .normal (fun kA=>[(0,dI .i64 c8),(2,.pt 0 0),(3,dI .u64 kA)]) fun kA=>⟨[(0,dC (ap.f bz))],[],1⟩) kA) ?_ ?_
 replace h:=hy
 refine ra hx ?_
 refine cdh h rfl (fun cH h=>?_) (fun cH h=>?_)
 refine rb hx ?_
 cases h
 exact pe0 h0 [0]
 refine AW.skip ?_
 cases h
 exact pe0 h0 [0]
 rintro ex tm' hp' ⟨rfl,hw⟩
 refine AW.weak hw (rs hx fun K hK=>?_)
 iterate 7 refine sa ?_
 refine s1 (d:=dG al_cV (#v[u32.wrap (kA),u32.wrap (lf .u64 kA (32:Int)),0,0,0,0,0,0,0,0,0,0,0,0,0,0])) (lx aF aI) ?_
 refine scb h cT fun x3 h=>?_
 refine s0 (aO (b':=x3) (ao.id _ _) ax) ?_
 refine .nil (hK _ _ (AW.ret ?_))
 cases h
 exact rv1
def jV(oQ:Vector Int 16):Int→Option (Int⊕Int):=fun aV=>bnd (S:=Bool) (cnd (decide ((0:Int)<aV)) (gd (0≤i64.wrap (aV - (1:Int))∧i64.wrap (aV - (1:Int))<16) (some (decide (((oQ)[(i64.wrap (aV - (1:Int))).toNat]!)=(0:Int))))) (some (false))) fun mQ=>cnd mQ (some (.inl (i64.wrap (aV - (1:Int))))) (some (.inr aV))
def eo(oQ:Vector Int 16):Option Int:=bnd (a7 (jV oQ) (16:Int)) fun nC=>some nC
theorem jE {oQ:Vector Int 16}{r:Int}(h:eo oQ=some r):aC prog 128 [dG al_cV oQ] (dI .i64 r):=by
 refine bQ (rs:=[.tmp 2]) (fun cx hx h0=>?_) func128
 unfold eo at h
 iterate 2 refine ra hx ?_
 refine AW.seq (AW.block ?_)
 obtain⟨nC,hy,h⟩:=ah h
 refine lp (S:=Int) (X:=Int) (fun aV=>[(1,.pt 0 0),(3,dI .i64 aV)]) (fun aV=>⟨[(0,dC (al_cV.f oQ))],[],1⟩) (PE cx (.exit 0) (fun nC=>[(3,dI .i64 nC)]) fun nC=>⟨[],[],0⟩) hy ?_ ?_ ?_
 exact wk h0 [0] (wR rfl (wR rfl wTn)) (vC rfl wVn) wLn
 clear hy h
 rintro aV y h
 dsimp only[jV] at h
 iterate 2 refine AW.seq ?_
 obtain⟨mQ,hy,h⟩:=ah h
 refine jn ((PE cx .normal (fun mQ=>[(1,.pt 0 0),(3,dI .i64 aV),(12,dB mQ)]) fun mQ=>⟨[(0,dC (al_cV.f oQ))],[],1⟩) mQ) ?_ ?_
 replace h:=hy
 refine rq hx fun K hK=>?_
 iterate 3 refine sa ?_
 rcases aX (decide ((0:Int)<aV)) with cH|cH
 replace h:=aZ cH h
 iterate 2 refine ga cH ?_
 obtain⟨nb,h⟩:=aD h
 have p8:(i64.wrap (aV - (1:Int))).toNat<16:=by omega
 refine g1 cH (ck nb aF aI) ?_
 refine g1 cH (a4 (ao.comp (ao.id _ _) (ao.vec (cI .u32) oQ (i64.wrap (aV - (1:Int))).toNat p8) (fun _=>rfl)) aI) ?_
 refine ga cH ?_
 refine s1 (al cH) ?_
 refine .nil (hK _ _ ?_)
 cases h
 exact pe0 h0 [0]
 replace h:=a3 cH h
 iterate 5 refine aH rfl rfl cH ?_
 refine s1 (au cH) ?_
 refine .nil (hK _ _ ?_)
 cases h
 exact pe0 h0 [0]
 rintro ex tm' hp' ⟨rfl,hw⟩
 refine AW.weak hw (cdh h rfl (fun oT h=>?_) (fun oT h=>?_))
 refine AW.skip (AW.block (rb hx ?_))
 cases h
 exact PS.l (pe0 h0 [0])
 refine AW.exit ?_
 try dsimp only
 try simp only[aN,reduceIte,Nat.reduceEqDiff,reduceCtorEq]
 cases h
 exact PS.r ⟨by nofun,PE.i (wk h0 [] (wR rfl wTn) wVn wLn)⟩
 rintro ex tm' hp' ⟨rfl,hw⟩
 try dsimp only
 try simp only[aN,reduceIte,Nat.reduceEqDiff,reduceCtorEq]
 refine AW.weak hw (ra hx ?_)
 refine AW.ret ?_
 cases h
 exact rv1
def lI(bn:Int):Option Int:=bnd (S:=Int×Int) (cnd (decide ((65536:Int)≤bn)) (some ((lf .u32 bn (16:Int),(16:Int)))) (some ((bn,(0:Int))))) fun (jR,EZ)=>bnd (S:=Int×Int) (cnd (decide ((256:Int)≤jR)) (some ((lf .u32 jR (8:Int),i64.wrap (EZ+(8:Int))))) (some ((jR,EZ)))) fun (j6,BK)=>gd (0≤u8.wrap (j6)∧u8.wrap (j6)<((⟨#[0,1,2,2,3,3,3,3,4,4,4,4,4,4,4,4,5,5,5,5,5,5,5,5,5,5,5,5,5,5,5,5,6,6,6,6,6,6,6,6,6,6,6,6,6,6,6,6,6,6,6,6,6,6,6,6,6,6,6,6,6,6,6,6,7,7,7,7,7,7,7,7,7,7,7,7,7,7,7,7,7,7,7,7,7,7,7,7,7,7,7,7,7,7,7,7,7,7,7,7,7,7,7,7,7,7,7,7,7,7,7,7,7,7,7,7,7,7,7,7,7,7,7,7,7,7,7,7,8,8,8,8,8,8,8,8,8,8,8,8,8,8,8,8,8,8,8,8,8,8,8,8,8,8,8,8,8,8,8,8,8,8,8,8,8,8,8,8,8,8,8,8,8,8,8,8,8,8,8,8,8,8,8,8,8,8,8,8,8,8,8,8,8,8,8,8,8,8,8,8,8,8,8,8,8,8,8,8,8,8,8,8,8,8,8,8,8,8,8,8,8,8,8,8,8,8,8,8,8,8,8,8,8,8,8,8,8,8,8,8,8,8,8,8,8,8,8,8,8,8,8,8,8,8,8,8]⟩:ByteArray).size:Int)) (bnd (some (i64.wrap (BK+(i64.wrap (sAt (⟨#[0,1,2,2,3,3,3,3,4,4,4,4,4,4,4,4,5,5,5,5,5,5,5,5,5,5,5,5,5,5,5,5,6,6,6,6,6,6,6,6,6,6,6,6,6,6,6,6,6,6,6,6,6,6,6,6,6,6,6,6,6,6,6,6,7,7,7,7,7,7,7,7,7,7,7,7,7,7,7,7,7,7,7,7,7,7,7,7,7,7,7,7,7,7,7,7,7,7,7,7,7,7,7,7,7,7,7,7,7,7,7,7,7,7,7,7,7,7,7,7,7,7,7,7,7,7,7,7,8,8,8,8,8,8,8,8,8,8,8,8,8,8,8,8,8,8,8,8,8,8,8,8,8,8,8,8,8,8,8,8,8,8,8,8,8,8,8,8,8,8,8,8,8,8,8,8,8,8,8,8,8,8,8,8,8,8,8,8,8,8,8,8,8,8,8,8,8,8,8,8,8,8,8,8,8,8,8,8,8,8,8,8,8,8,8,8,8,8,8,8,8,8,8,8,8,8,8,8,8,8,8,8,8,8,8,8,8,8,8,8,8,8,8,8,8,8,8,8,8,8,8,8,8,8,8,8]⟩:ByteArray) (u8.wrap (j6)).toNat))))) fun x6=>some x6)
theorem v8 {bn:Int}{r:Int}(h:lI bn=some r):aC prog 179 [dI .u32 bn] (dI .i64 r):=by
 refine bQ (rs:=[.tmp 2]) (fun cx hx h0=>?_) func179
 unfold lI at h
 refine ra hx ?_
 refine AW.seq ?_
 obtain⟨y,hy,h⟩:=ah h
 refine jn ((PE cx .normal (fun (jR,EZ)=>[(0,dI .u32 jR),(2,dI .i64 EZ)]) fun (jR,EZ)=>⟨[],[],0⟩) y) ?_ ?_
 replace h:=hy
 refine ra hx ?_
 refine cdh h rfl (fun cH h=>?_) (fun cH h=>?_)
 refine ra hx ?_
 refine rb hx ?_
 cases h
 exact pe0 h0 []
 refine AW.skip ?_
 cases h
 exact pe0 h0 []
 obtain⟨jR,EZ⟩:=y
 rintro ex tm' hp' ⟨rfl,hw⟩
 refine AW.weak hw (AW.seq ?_)
 obtain⟨y,hy,h⟩:=ah h
 refine jn ((PE cx .normal (fun (j6,BK)=>[(0,dI .u32 j6),(2,dI .i64 BK)]) fun (j6,BK)=>⟨[],[],0⟩) y) ?_ ?_
 replace h:=hy
 refine ra hx ?_
 refine cdh h rfl (fun bo h=>?_) (fun bo h=>?_)
 refine ra hx ?_
 refine rb hx ?_
 cases h
 exact pe0 h0 []
 refine AW.skip ?_
 cases h
 exact pe0 h0 []
 obtain⟨j6,BK⟩:=y
 rintro ex tm' hp' ⟨rfl,hw⟩
 refine AW.weak hw (rs hx fun K hK=>?_)
 iterate 3 refine sa ?_
 obtain⟨Ct,h⟩:=aD h
 refine s1 (T_ixS Ct tb_9) ?_
 iterate 2 refine sa ?_
 obtain⟨x6,sO,h⟩:=ah h
 replace sO:=cv sO
 refine s2 (d2:=dI .i64 x6) kO (fR (congrArg (dI .i64) sO)) ?_
 refine .nil (hK _ _ (AW.ret ?_))
 cases h
 exact rv1
def nh(bn:aq):Option Int:=bnd (eo bn.vW) fun x1=>bnd (S:=Bool) (bnd (cN [bn]) fun x3=>cnd (!x3) (some (true)) (some (decide (x1=(0:Int))))) fun aV=>cnd aV (some (0:Int)) (gd (0≤i64.wrap (x1 - (1:Int))∧i64.wrap (x1 - (1:Int))<16) (bnd (lI ((bn.vW)[(i64.wrap (x1 - (1:Int))).toNat]!)) fun mU=>some (i64.wrap ((i64.wrap ((32:Int)*(i64.wrap (x1 - (1:Int)))))+mU))))
theorem Dw {bn:aq}{r:Int}(h:nh bn=some r):aC prog 180 [dG ap bn] (dI .i64 r):=by
 refine bQ (rs:=[.tmp 2]) (fun cx hx h0=>?_) func180
 unfold nh at h
 refine ra hx ?_
 refine rs hx fun K hK=>?_
 refine sa ?_
 refine s1 (aE (aT bn) aF) ?_
 refine scb h jE fun x1 h=>?_
 refine sa ?_
 refine .nil (hK _ _ ?_)
 iterate 2 refine AW.seq ?_
 obtain⟨aV,hy,h⟩:=ah h
 refine jn ((PE cx .normal (fun aV=>[(1,.pt 0 0),(3,dI .i64 x1),(14,dB aV)]) fun aV=>⟨[(0,dC (ap.f bn))],[],1⟩) aV) ?_ ?_
 replace h:=hy
 refine rq hx fun K hK=>?_
 refine s1 (d:=dG ap bn) (aE (ao.id _ _) ax) ?_
 refine s1 (qm ([bn]:List aq) ap pP ax) ?_
 refine scb h gl fun x3 h=>?_
 iterate 2 refine sa ?_
 rcases aX (!x3) with oT|oT
 replace h:=aZ oT h
 iterate 2 refine aH rfl rfl oT ?_
 refine s1 (al oT) ?_
 refine .nil (hK _ _ ?_)
 cases h
 exact pe0 h0 [0]
 replace h:=a3 oT h
 iterate 2 refine ga oT ?_
 refine s1 (au oT) ?_
 refine .nil (hK _ _ ?_)
 cases h
 exact pe0 h0 [0]
 rintro ex tm' hp' ⟨rfl,hw⟩
 refine AW.weak hw (cdh h rfl (fun xY h=>?_) (fun xY h=>?_))
 refine ra hx ?_
 refine AW.ret ?_
 cases h
 exact rv1
 refine AW.skip (rs hx fun K hK=>?_)
 iterate 6 refine sa ?_
 obtain⟨Ih,h⟩:=aD h
 have Ia:(i64.wrap (x1 - (1:Int))).toNat<16:=by omega
 refine s1 (ck Ih aF aI) ?_
 refine s1 (a4 (ao.comp (aT bn) (ao.vec (cI .u32) bn.vW (i64.wrap (x1 - (1:Int))).toNat Ia) (fun _=>rfl)) aI) ?_
 refine scb h v8 fun mU h=>?_
 iterate 2 refine sa ?_
 refine .nil (hK _ _ (AW.ret ?_))
 cases h
 exact rv1
def ka(bn:aq):Option (Int×Bool):=bnd (S:=Bool) (bnd (cN [bn]) fun x1=>cnd (!x1) (some (true)) (bnd (nh bn) fun x4=>some (decide ((64:Int)<x4)))) fun bM=>cnd bM (some ((0:Int),false)) (bnd (some (ior .u64 (u9 .u64 (u64.wrap ((bn.vW)[((1:Int)).toNat]!)) (32:Int)) (u64.wrap ((bn.vW)[((0:Int)).toNat]!)))) fun mU=>bnd (S:=Bool) (cnd bn.vNeg (some (decide (mU≤(9223372036854775808:Int)))) (some (false))) fun Do=>cnd Do (some (i64.wrap (u64.wrap (0 - mU)),true)) (bnd (S:=Bool) (cnd (!bn.vNeg) (some (decide (mU<(9223372036854775808:Int)))) (some (false))) fun gI=>cnd gI (some (i64.wrap (mU),true)) (some ((0:Int),false))))
theorem ur {bn:aq}{r:Int×Bool}(h:ka bn=some r):aC prog 176 [dG ap bn] (.tu [dI .i64 r.1,dB r.2]):=by
 refine bQ (rs:=[.tmp 2,.tmp 3]) (fun cx hx h0=>?_) func176
 unfold ka at h
 refine ra hx ?_
 iterate 2 refine AW.seq ?_
 obtain⟨bM,hy,h⟩:=ah h
 refine jn ((PE cx .normal (fun bM=>[(1,.pt 0 0),(13,dB bM)]) fun bM=>⟨[(0,dC (ap.f bn))],[],1⟩) bM) ?_ ?_
 replace h:=hy
 refine rq hx fun K hK=>?_
 refine s1 (d:=dG ap bn) (aE (ao.id _ _) ax) ?_
 refine s1 (qm ([bn]:List aq) ap pP ax) ?_
 refine scb h gl fun x1 h=>?_
 iterate 2 refine sa ?_
 rcases aX (!x1) with bo|bo
 replace h:=aZ bo h
 iterate 3 refine aH rfl rfl bo ?_
 refine s1 (al bo) ?_
 refine .nil (hK _ _ ?_)
 cases h
 exact pe0 h0 [0]
 replace h:=a3 bo h
 refine g1 (d:=dG ap bn) bo (aE (ao.id _ _) ax) ?_
 obtain⟨x4,va,h⟩:=ah h
 refine g1 bo (eC rfl (Dw va) (by simp only[cp,dh,jy,fO,dX,dW];exact bc _ _) (lA (fm _ _) lAn) (.inl rfl)) ?_
 refine ga bo ?_
 refine s1 (au bo) ?_
 refine .nil (hK _ _ ?_)
 cases h
 exact pe0 h0 [0]
 rintro ex tm' hp' ⟨rfl,hw⟩
 refine AW.weak hw (cdh h rfl (fun xY h=>?_) (fun xY h=>?_))
 refine ra hx ?_
 refine AW.ret ?_
 cases h
 exact rv2
 refine AW.skip (rs hx fun K hK=>?_)
 refine sa ?_
 have NG:((1:Int)).toNat<16:=by omega
 refine s1 (ck (by decide:0≤(1:Int)∧(1:Int)<((16:Nat):Int)) aF aI) ?_
 refine s1 (a4 (ao.comp (aT bn) (ao.vec (cI .u32) bn.vW ((1:Int)).toNat NG) (fun _=>rfl)) aI) ?_
 iterate 3 refine sa ?_
 have Ia:((0:Int)).toNat<16:=by omega
 refine s1 (ck (by decide:0≤(0:Int)∧(0:Int)<((16:Nat):Int)) aF aI) ?_
 refine s1 (a4 (ao.comp (aT bn) (ao.vec (cI .u32) bn.vW ((0:Int)).toNat Ia) (fun _=>rfl)) aI) ?_
 iterate 2 refine sa ?_
 obtain⟨mU,ww,h⟩:=ah h
 replace ww:=cv ww
 refine s2 (d2:=dI .u64 mU) kO (fR (congrArg (dI .u64) ww)) ?_
 refine .nil (hK _ _ (AW.seq (AW.block (AW.seq ?_))))
 obtain⟨Do,hy,h⟩:=ah h
 refine jn ((PE cx .normal (fun Do=>[(1,.pt 0 0),(4,dI .u64 mU),(24,dB Do)]) fun Do=>⟨[(0,dC (ap.f bn))],[],1⟩) Do) ?_ ?_
 replace h:=hy
 refine rq hx fun K hK=>?_
 refine sa ?_
 refine s1 (a4 (bu bn) gp) ?_
 refine sa ?_
 rcases aX bn.vNeg with nd|nd
 replace h:=aZ nd h
 iterate 2 refine ga nd ?_
 refine s1 (al nd) ?_
 refine sa ?_
 refine .nil (hK _ _ ?_)
 cases h
 exact pe0 h0 [0]
 replace h:=a3 nd h
 iterate 2 refine aH rfl rfl nd ?_
 refine s1 (au nd) ?_
 refine sa ?_
 refine .nil (hK _ _ ?_)
 cases h
 exact pe0 h0 [0]
 rintro ex tm' hp' ⟨rfl,hw⟩
 refine AW.weak hw (cdh h rfl (fun iR h=>?_) (fun iR h=>?_))
 refine ra hx ?_
 refine AW.ret ?_
 cases h
 exact rv2
 refine AW.seq ?_
 obtain⟨gI,hy,h⟩:=ah h
 refine jn ((PE cx .normal (fun gI=>[(4,dI .u64 mU),(34,dB gI)]) fun gI=>⟨[],[],0⟩) gI) ?_ ?_
 replace h:=hy
 refine rq hx fun K hK=>?_
 refine sa ?_
 refine s1 (a4 (bu bn) gp) ?_
 iterate 2 refine sa ?_
 rcases aX (!bn.vNeg) with qS|qS
 replace h:=aZ qS h
 iterate 2 refine ga qS ?_
 refine s1 (al qS) ?_
 refine sa ?_
 refine .nil (hK _ _ ?_)
 cases h
 exact pe0 h0 []
 replace h:=a3 qS h
 iterate 2 refine aH rfl rfl qS ?_
 refine s1 (au qS) ?_
 refine sa ?_
 refine .nil (hK _ _ ?_)
 cases h
 exact pe0 h0 []
 rintro ex tm' hp' ⟨rfl,hw⟩
 refine AW.weak hw (cdh h rfl (fun tr h=>?_) (fun tr h=>?_))
 refine ra hx ?_
 refine AW.ret ?_
 cases h
 exact rv2
 refine AW.skip (ra hx ?_)
 refine AW.ret ?_
 cases h
 exact rv2
def fC(bn:Int):Option Bool:=some (decide (bn≠bn))
theorem pO {bn:Int}{r:Bool}(h:fC bn=some r):aC prog 181 [dI .u32 bn] (dB r):=by
 refine bQ (rs:=[.tmp 2]) (fun cx hx h0=>?_) func181
 unfold fC at h
 iterate 2 refine ra hx ?_
 refine AW.ret ?_
 cases h
 exact rv1
def fM(bn:Int)(nE:Int):Option Int:=bnd (fC bn) fun x1=>bnd (fC nE) fun x3=>cnd x1 (cnd x3 (some (0:Int)) (some (-1:Int))) (cnd x3 (some (1:Int)) (cnd (decide (bn<nE)) (some (-1:Int)) (cnd (decide (nE<bn)) (some (1:Int)) (some (0:Int)))))
theorem sZ {bn:Int}{nE:Int}{r:Int}(h:fM bn nE=some r):aC prog 178 [dI .u32 bn,dI .u32 nE] (dI .i64 r):=by
 refine bQ (rs:=[.tmp 4]) (fun cx hx h0=>?_) func178
 unfold fM at h
 refine ra hx ?_
 refine rs hx fun K hK=>?_
 refine sa ?_
 refine scb h pO fun x1 h=>?_
 refine sa ?_
 refine .nil (hK _ _ (rs hx fun K hK=>?_))
 refine sa ?_
 refine scb h pO fun x3 h=>?_
 refine sa ?_
 refine .nil (hK _ _ (AW.seq (ra hx ?_)))
 refine cdh h rfl (fun oT h=>?_) (fun oT h=>?_)
 refine AW.seq (ra hx ?_)
 refine cdh h rfl (fun eW h=>?_) (fun eW h=>?_)
 refine ra hx ?_
 refine AW.ret ?_
 cases h
 exact rv1
 refine AW.skip (ra hx ?_)
 refine AW.ret ?_
 cases h
 exact rv1
 refine AW.skip (AW.seq (ra hx ?_))
 refine cdh h rfl (fun xY h=>?_) (fun xY h=>?_)
 refine ra hx ?_
 refine AW.ret ?_
 cases h
 exact rv1
 refine AW.skip (AW.seq (ra hx ?_))
 refine cdh h rfl (fun qD h=>?_) (fun qD h=>?_)
 refine ra hx ?_
 refine AW.ret ?_
 cases h
 exact rv1
 refine AW.skip (AW.seq (ra hx ?_))
 refine cdh h rfl (fun wz h=>?_) (fun wz h=>?_)
 refine ra hx ?_
 refine AW.ret ?_
 cases h
 exact rv1
 refine AW.skip (ra hx ?_)
 refine AW.ret ?_
 cases h
 exact rv1
def jc(aW:Vector Int 16)(a6:Vector Int 16):Int→Option (Int⊕(Int⊕Unit)):=fun aV=>cnd (decide ((0:Int)≤aV)) (gd (0≤aV∧aV<16) (gd (0≤aV∧aV<16) (cnd (decide (((aW)[(aV).toNat]!)≠((a6)[(aV).toNat]!))) (gd (0≤aV∧aV<16) (gd (0≤aV∧aV<16) (bnd (fM ((aW)[(aV).toNat]!) ((a6)[(aV).toNat]!)) fun om=>some (.inr (.inl om))))) (some (.inl (i64.wrap (aV - (1:Int)))))))) (some (.inr (.inr ())))
def j8(aW:Vector Int 16)(a6:Vector Int 16):Option Int:=bnd (a7 (jc aW a6) (15:Int)) fun y13=>match y13 with| .inl r=>some r| .inr ()=>some (0:Int)
theorem uo {aW:Vector Int 16}{a6:Vector Int 16}{r:Int}(h:j8 aW a6=some r):aC prog 161 [dG al_cV aW,dG al_cV a6] (dI .i64 r):=by
 refine bQ (rs:=[.tmp 4]) (fun cx hx h0=>?_) func161
 unfold j8 at h
 refine ra hx ?_
 refine AW.seq (ra hx ?_)
 refine AW.block ?_
 obtain⟨y,hy,h⟩:=ah h
 refine lp (S:=Int) (X:=Int⊕Unit) (fun aV=>[(2,.pt 0 0),(3,.pt 1 0),(5,dI .i64 aV)]) (fun aV=>⟨[(0,dC (al_cV.f aW)),(1,dC (al_cV.f a6))],[],2⟩) (PS (PR [.tmp 4] fun r=>dI .i64 r) (PE cx (.exit 0) (fun ()=>[]) fun ()=>⟨[],[],0⟩)) hy ?_ ?_ ?_
 exact wk h0 [0,1] (wR rfl (wR rfl (wR rfl wTn))) (vC rfl (vC rfl wVn)) wLn
 clear hy h
 rintro aV y h
 dsimp only[jc] at h
 refine AW.seq (ra hx ?_)
 refine cdh h rfl (fun cH h=>?_) (fun cH h=>?_)
 refine AW.skip (AW.seq (AW.block (rsd [] hx fun K hK=>?_)))
 refine sa ?_
 obtain⟨nb,h⟩:=aD h
 have p8:(aV).toNat<16:=by omega
 refine s1 (ck nb aF aI) ?_
 refine s1 (a4 (ao.comp (ao.id _ _) (ao.vec (cI .u32) aW (aV).toNat p8) (fun _=>rfl)) aI) ?_
 refine sa ?_
 obtain⟨Fh,h⟩:=aD h
 have NH:(aV).toNat<16:=by omega
 refine s1 (ck Fh aF aI) ?_
 refine s1 (a4 (ao.comp (ao.id _ _) (ao.vec (cI .u32) a6 (aV).toNat NH) (fun _=>rfl)) aI) ?_
 refine sa ?_
 refine .nil (hK _ _ (cdh h rfl (fun eW h=>?_) (fun eW h=>?_)))
 refine rsd [178] hx fun K hK=>?_
 refine sa ?_
 obtain⟨N5,h⟩:=aD h
 have NG:(aV).toNat<16:=by omega
 refine s1 (ck N5 aF aI) ?_
 refine s1 (a4 (ao.comp (ao.id _ _) (ao.vec (cI .u32) aW (aV).toNat NG) (fun _=>rfl)) aI) ?_
 refine sa ?_
 obtain⟨hc9,h⟩:=aD h
 have hn10:(aV).toNat<16:=by omega
 refine s1 (ck hc9 aF aI) ?_
 refine s1 (a4 (ao.comp (ao.id _ _) (ao.vec (cI .u32) a6 (aV).toNat hn10) (fun _=>rfl)) aI) ?_
 refine cqb h sZ fun om h=>?_
 refine sa ?_
 refine .nil (hK _ _ (AW.ret ?_))
 cases h
 refine PS.r ⟨by nofun,PS.l (PR.i ?_)⟩
 exact rv1
 refine AW.skip (rb hx ?_)
 cases h
 exact PS.l (pe0 h0 [0,1])
 refine AW.exit ?_
 try dsimp only
 try simp only[aN,reduceIte,Nat.reduceEqDiff,reduceCtorEq]
 cases h
 exact PS.r ⟨by nofun,PS.r (PE.i (wk h0 [] wTn wVn wLn))⟩
 rcases y with r|⟨⟩
 rintro ex tm' hp' ⟨rfl,hw⟩
 cases h
 exact hw
 rintro ex tm' hp' ⟨rfl,hw⟩
 try dsimp only
 try simp only[aN,reduceIte,Nat.reduceEqDiff,reduceCtorEq]
 refine AW.weak hw (ra hx ?_)
 refine AW.ret ?_
 cases h
 exact rv1
def jb(aW:Vector Int 16)(a6:Vector Int 16):Int×Int×(Vector Int 16)→Option ((Int×Int×(Vector Int 16))⊕(Int×(Vector Int 16))):=fun (cR,bq,dA)=>cnd (decide (bq<(16:Int))) (gd (0≤bq∧bq<16) (gd (0≤bq∧bq<16) (bnd (some (u64.wrap (cR+(u64.wrap ((u64.wrap ((aW)[(bq).toNat]!))+(u64.wrap ((a6)[(bq).toNat]!))))))) fun x6=>gd (0≤bq∧bq<16) (some (.inl (lf .u64 x6 (32:Int),i64.wrap (bq+(1:Int)),(dA).set! (bq).toNat (u32.wrap (x6)))))))) (some (.inr (cR,dA)))
def nf(aW:Vector Int 16)(a6:Vector Int 16):Option ((Vector Int 16)×Bool):=bnd (a7 (jb aW a6) ((0:Int),(0:Int),(bS))) fun (bY,jS)=>some (jS,decide (bY=(0:Int)))
theorem Du {aW:Vector Int 16}{a6:Vector Int 16}{r:(Vector Int 16)×Bool}(h:nf aW a6=some r):aC prog 160 [dG al_cV aW,dG al_cV a6] (.tu [dG al_cV r.1,dB r.2]):=by
 refine bQ (rs:=[.cell 4 30,.tmp 5]) (fun cx hx h0=>?_) func160
 unfold nf at h
 refine rs hx fun K hK=>?_
 iterate 2 refine sa ?_
 refine s1 (bp (F:=al_cV.f (bS)) aF) ?_
 refine sa ?_
 refine .nil (hK _ _ (rs hx fun K hK=>?_))
 refine s1 (bp (F:=al_cV.f (bS)) aF) ?_
 refine .nil (hK _ _ (ra hx ?_))
 refine AW.seq (ra hx ?_)
 refine AW.block ?_
 obtain⟨y,hy,h⟩:=ah h
 refine lp (S:=Int×Int×(Vector Int 16)) (X:=Int×(Vector Int 16)) (fun (cR,bq,dA)=>[(2,.pt 0 0),(3,.pt 1 0),(4,.pt 2 0),(6,.pt 3 0),(7,dI .u64 cR),(9,dI .i64 bq)]) (fun (cR,bq,dA)=>⟨[(0,dC (al_cV.f aW)),(1,dC (al_cV.f a6)),(2,dC (al_cV.f (bS))),(3,dC (al_cV.f dA))],[],4⟩) (PE cx (.exit 0) (fun (bY,jS)=>[(4,.pt 0 0),(6,.pt 1 0),(7,dI .u64 bY)]) fun (bY,jS)=>⟨[(0,dC (al_cV.f (bS))),(1,dC (al_cV.f jS))],[],2⟩) hy ?_ ?_ ?_
 exact wk h0 [0,1,2,3] (wR rfl (wR rfl (wR rfl (wR rfl (wR rfl (wR rfl wTn)))))) (vC rfl (vC rfl (vC rfl (vC rfl wVn)))) wLn
 clear hy h
 rintro⟨cR,bq,dA⟩ y h
 dsimp only[jb] at h
 refine ra hx ?_
 refine AW.seq (cdh h rfl (fun cH h=>?_) (fun cH h=>?_))
 refine AW.skip (AW.seq (AW.block (ra hx ?_)))
 refine rsd [] hx fun K hK=>?_
 iterate 2 refine sa ?_
 obtain⟨nb,h⟩:=aD h
 have p8:(bq).toNat<16:=by omega
 refine s1 (ck nb aF aI) ?_
 refine s1 (a4 (ao.comp (ao.id _ _) (ao.vec (cI .u32) aW (bq).toNat p8) (fun _=>rfl)) aI) ?_
 iterate 2 refine sa ?_
 obtain⟨Fh,h⟩:=aD h
 have NH:(bq).toNat<16:=by omega
 refine s1 (ck Fh aF aI) ?_
 refine s1 (a4 (ao.comp (ao.id _ _) (ao.vec (cI .u32) a6 (bq).toNat NH) (fun _=>rfl)) aI) ?_
 iterate 3 refine sa ?_
 obtain⟨x6,sO,h⟩:=ah h
 replace sO:=cv sO
 refine s2 (d2:=dI .u64 x6) kO (fR (congrArg (dI .u64) sO)) ?_
 refine .nil (hK _ _ (rs hx fun K hK=>?_))
 iterate 3 refine sa ?_
 obtain⟨Ih,h⟩:=aD h
 have Ia:(bq).toNat<16:=by omega
 refine s1 (ck Ih aF aI) ?_
 refine s0 (aO (b':=u32.wrap (x6)) (ao.comp (ao.id _ _) (ao.vec (cI .u32) dA (bq).toNat Ia) (fun _=>rfl)) aI) ?_
 refine .nil (hK _ _ ?_)
 iterate 2 refine rb hx ?_
 cases h
 exact PS.l (pe0 h0 [0,1,2,3])
 refine AW.exit ?_
 try dsimp only
 try simp only[aN,reduceIte,Nat.reduceEqDiff,reduceCtorEq]
 cases h
 exact PS.r ⟨by nofun,PE.i (wk h0 [2,3] (wR rfl (wR rfl (wR rfl wTn))) (vC rfl (vC rfl wVn)) wLn)⟩
 obtain⟨bY,jS⟩:=y
 rintro ex tm' hp' ⟨rfl,hw⟩
 try dsimp only
 try simp only[aN,reduceIte,Nat.reduceEqDiff,reduceCtorEq]
 refine AW.weak hw (rs hx fun K hK=>?_)
 refine s1 (d:=dG al_cV jS) (aE (ao.id _ _) aF) ?_
 iterate 2 refine sa ?_
 refine s0 (aO (b':=jS) (ao.id _ _) aF) ?_
 refine sa ?_
 refine .nil (hK _ _ (AW.ret ?_))
 cases h
 exact rv2
def iy(aW:Vector Int 16)(a6:Vector Int 16):Int×Int×(Vector Int 16)→Option ((Int×Int×(Vector Int 16))⊕((Vector Int 16))):=fun (cR,bq,dA)=>cnd (decide (bq<(16:Int))) (gd (0≤bq∧bq<16) (gd (0≤bq∧bq<16) (bnd (some (u64.wrap ((u64.wrap ((u64.wrap ((aW)[(bq).toNat]!)) - (u64.wrap ((a6)[(bq).toNat]!)))) - cR))) fun x6=>gd (0≤bq∧bq<16) (some (.inl (lf .u64 x6 (63:Int),i64.wrap (bq+(1:Int)),(dA).set! (bq).toNat (u32.wrap (x6)))))))) (some (.inr dA))
def gD(aW:Vector Int 16)(a6:Vector Int 16):Option (Vector Int 16):=bnd (a7 (iy aW a6) ((0:Int),(0:Int),(bS))) fun bY=>some bY
theorem qN {aW:Vector Int 16}{a6:Vector Int 16}{r:Vector Int 16}(h:gD aW a6=some r):aC prog 162 [dG al_cV aW,dG al_cV a6] (dG al_cV r):=by
 refine bQ (rs:=[.cell 4 30]) (fun cx hx h0=>?_) func162
 unfold gD at h
 refine rs hx fun K hK=>?_
 iterate 2 refine sa ?_
 refine s1 (bp (F:=al_cV.f (bS)) aF) ?_
 refine .nil (hK _ _ (rs hx fun K hK=>?_))
 refine s1 (bp (F:=al_cV.f (bS)) aF) ?_
 refine .nil (hK _ _ (ra hx ?_))
 refine AW.seq (ra hx ?_)
 refine AW.block ?_
 obtain⟨bY,hy,h⟩:=ah h
 refine lp (S:=Int×Int×(Vector Int 16)) (X:=(Vector Int 16)) (fun (cR,bq,dA)=>[(2,.pt 0 0),(3,.pt 1 0),(4,.pt 2 0),(5,.pt 3 0),(6,dI .u64 cR),(9,dI .i64 bq)]) (fun (cR,bq,dA)=>⟨[(0,dC (al_cV.f aW)),(1,dC (al_cV.f a6)),(2,dC (al_cV.f (bS))),(3,dC (al_cV.f dA))],[],4⟩) (PE cx (.exit 0) (fun bY=>[(4,.pt 0 0),(5,.pt 1 0)]) fun bY=>⟨[(0,dC (al_cV.f (bS))),(1,dC (al_cV.f bY))],[],2⟩) hy ?_ ?_ ?_
 exact wk h0 [0,1,2,3] (wR rfl (wR rfl (wR rfl (wR rfl (wR rfl (wR rfl wTn)))))) (vC rfl (vC rfl (vC rfl (vC rfl wVn)))) wLn
 clear hy h
 rintro⟨cR,bq,dA⟩ y h
 dsimp only[iy] at h
 refine ra hx ?_
 refine AW.seq (cdh h rfl (fun cH h=>?_) (fun cH h=>?_))
 refine AW.skip (AW.seq (AW.block (ra hx ?_)))
 refine rsd [] hx fun K hK=>?_
 refine sa ?_
 obtain⟨nb,h⟩:=aD h
 have p8:(bq).toNat<16:=by omega
 refine s1 (ck nb aF aI) ?_
 refine s1 (a4 (ao.comp (ao.id _ _) (ao.vec (cI .u32) aW (bq).toNat p8) (fun _=>rfl)) aI) ?_
 iterate 2 refine sa ?_
 obtain⟨Fh,h⟩:=aD h
 have NH:(bq).toNat<16:=by omega
 refine s1 (ck Fh aF aI) ?_
 refine s1 (a4 (ao.comp (ao.id _ _) (ao.vec (cI .u32) a6 (bq).toNat NH) (fun _=>rfl)) aI) ?_
 iterate 4 refine sa ?_
 obtain⟨x6,sO,h⟩:=ah h
 replace sO:=cv sO
 refine s2 (d2:=dI .u64 x6) kO (fR (congrArg (dI .u64) sO)) ?_
 refine .nil (hK _ _ (rs hx fun K hK=>?_))
 iterate 3 refine sa ?_
 obtain⟨Ih,h⟩:=aD h
 have Ia:(bq).toNat<16:=by omega
 refine s1 (ck Ih aF aI) ?_
 refine s0 (aO (b':=u32.wrap (x6)) (ao.comp (ao.id _ _) (ao.vec (cI .u32) dA (bq).toNat Ia) (fun _=>rfl)) aI) ?_
 refine .nil (hK _ _ ?_)
 iterate 2 refine rb hx ?_
 cases h
 exact PS.l (pe0 h0 [0,1,2,3])
 refine AW.exit ?_
 try dsimp only
 try simp only[aN,reduceIte,Nat.reduceEqDiff,reduceCtorEq]
 cases h
 exact PS.r ⟨by nofun,PE.i (wk h0 [2,3] (wR rfl (wR rfl wTn)) (vC rfl (vC rfl wVn)) wLn)⟩
 rintro ex tm' hp' ⟨rfl,hw⟩
 try dsimp only
 try simp only[aN,reduceIte,Nat.reduceEqDiff,reduceCtorEq]
 refine AW.weak hw (rs hx fun K hK=>?_)
 refine s1 (d:=dG al_cV bY) (aE (ao.id _ _) aF) ?_
 refine s0 (aO (b':=bY) (ao.id _ _) aF) ?_
 refine .nil (hK _ _ (AW.ret ?_))
 cases h
 exact rv1
def iB(aW:aq)(a6:aq):Option aq:=bnd (cN [aW,a6]) fun x1=>cnd (!x1) (bnd (dT) fun x4=>some x4) (cnd (aW.vNeg == a6.vNeg) (bnd (nf aW.vW a6.vW) fun x7=>cnd (!x7.2) (bnd (dT) fun mU=>some mU) (bnd (bE aW.vNeg x7.1) fun jA=>some jA)) (bnd (j8 aW.vW a6.vW) fun pL=>cnd (decide ((0:Int)≤pL)) (bnd (gD aW.vW a6.vW) fun po=>bnd (bE aW.vNeg po) fun Dt=>some Dt) (bnd (gD a6.vW aW.vW) fun B0=>bnd (bE a6.vNeg B0) fun Fa=>some Fa)))
theorem yI {aW:aq}{a6:aq}{r:aq}(h:iB aW a6=some r):aC prog 127 [dG ap aW,dG ap a6] (dG ap r):=by
 refine bQ (rs:=[.cell 4 32]) (fun cx hx h0=>?_) func127
 unfold iB at h
 refine rs hx fun K hK=>?_
 iterate 2 refine sa ?_
 refine s1 (bp (F:=ap.f bz) ax) ?_
 refine .nil (hK _ _ (AW.seq (rs hx fun K hK=>?_)))
 refine s1 (d:=dG ap aW) (aE (ao.id _ _) ax) ?_
 refine s1 (d:=dG ap a6) (aE (ao.id _ _) ax) ?_
 refine s1 (qm ([aW,a6]:List aq) ap pP ax) ?_
 refine scb h gl fun x1 h=>?_
 refine sa ?_
 refine .nil (hK _ _ (cdh h rfl (fun bo h=>?_) (fun bo h=>?_)))
 refine rs hx fun K hK=>?_
 refine scb h gB fun x4 h=>?_
 refine s0 (aO (b':=x4) (ao.id _ _) ax) ?_
 refine .nil (hK _ _ (AW.ret ?_))
 cases h
 exact rv1
 refine AW.skip (AW.seq (rs hx fun K hK=>?_))
 refine sa ?_
 refine s1 (a4 (bu aW) gp) ?_
 refine sa ?_
 refine s1 (a4 (bu a6) gp) ?_
 refine sa ?_
 refine .nil (hK _ _ (cdh h rfl (fun eW h=>?_) (fun eW h=>?_)))
 refine rs hx fun K hK=>?_
 refine sa ?_
 refine s1 (aE (aT aW) aF) ?_
 refine sa ?_
 refine s1 (aE (aT a6) aF) ?_
 refine scb h Du fun x7 h=>?_
 iterate 3 refine sa ?_
 refine s1 (bp (F:=al_cV.f (bS)) aF) ?_
 refine s0 (aO (b':=x7.1) (ao.id _ _) aF) ?_
 refine sa ?_
 refine .nil (hK _ _ (AW.seq (ra hx ?_)))
 refine cdh h rfl (fun wz h=>?_) (fun wz h=>?_)
 refine rs hx fun K hK=>?_
 refine scb h gB fun mU h=>?_
 refine s0 (aO (b':=mU) (ao.id _ _) ax) ?_
 refine .nil (hK _ _ (AW.ret ?_))
 cases h
 exact rv1
 refine AW.skip (rs hx fun K hK=>?_)
 refine sa ?_
 refine s1 (a4 (bu aW) gp) ?_
 refine s1 (d:=dG al_cV x7.1) (aE (ao.id _ _) aF) ?_
 refine scb h cT fun jA h=>?_
 refine s0 (aO (b':=jA) (ao.id _ _) ax) ?_
 refine .nil (hK _ _ (AW.ret ?_))
 cases h
 exact rv1
 refine AW.skip (AW.seq (rs hx fun K hK=>?_))
 refine sa ?_
 refine s1 (aE (aT aW) aF) ?_
 refine sa ?_
 refine s1 (aE (aT a6) aF) ?_
 refine scb h uo fun pL h=>?_
 refine sa ?_
 refine .nil (hK _ _ (cdh h rfl (fun Iv h=>?_) (fun Iv h=>?_)))
 refine rsd [162,111] hx fun K hK=>?_
 refine sa ?_
 refine s1 (a4 (bu aW) gp) ?_
 refine sa ?_
 refine s1 (aE (aT aW) aF) ?_
 refine sa ?_
 refine s1 (aE (aT a6) aF) ?_
 refine cqb h qN fun po h=>?_
 refine cqb h cT fun Dt h=>?_
 refine s0 (aO (b':=Dt) (ao.id _ _) ax) ?_
 refine .nil (hK _ _ (AW.ret ?_))
 cases h
 exact rv1
 refine AW.skip (rsd [162,111] hx fun K hK=>?_)
 refine sa ?_
 refine s1 (a4 (bu a6) gp) ?_
 refine sa ?_
 refine s1 (aE (aT a6) aF) ?_
 refine sa ?_
 refine s1 (aE (aT aW) aF) ?_
 refine cqb h qN fun B0 h=>?_
 refine cqb h cT fun Fa h=>?_
 refine s0 (aO (b':=Fa) (ao.id _ _) ax) ?_
 refine .nil (hK _ _ (AW.ret ?_))
 cases h
 exact rv1
def li(bn:aq):Option aq:=bnd (cN [bn]) fun x1=>cnd (!x1) (bnd (dT) fun x4=>some x4) (bnd (bE (!bn.vNeg) bn.vW) fun x6=>some x6)
theorem sV {bn:aq}{r:aq}(h:li bn=some r):aC prog 66 [dG ap bn] (dG ap r):=by
 refine bQ (rs:=[.cell 2 32]) (fun cx hx h0=>?_) func66
 unfold li at h
 refine rs hx fun K hK=>?_
 refine sa ?_
 refine s1 (bp (F:=ap.f bz) ax) ?_
 refine .nil (hK _ _ (AW.seq (rs hx fun K hK=>?_)))
 refine s1 (d:=dG ap bn) (aE (ao.id _ _) ax) ?_
 refine s1 (qm ([bn]:List aq) ap pP ax) ?_
 refine scb h gl fun x1 h=>?_
 refine sa ?_
 refine .nil (hK _ _ (cdh h rfl (fun bo h=>?_) (fun bo h=>?_)))
 refine rs hx fun K hK=>?_
 refine scb h gB fun x4 h=>?_
 refine s0 (aO (b':=x4) (ao.id _ _) ax) ?_
 refine .nil (hK _ _ (AW.ret ?_))
 cases h
 exact rv1
 refine AW.skip (rs hx fun K hK=>?_)
 refine sa ?_
 refine s1 (a4 (bu bn) gp) ?_
 iterate 2 refine sa ?_
 refine s1 (aE (aT bn) aF) ?_
 refine scb h cT fun x6 h=>?_
 refine s0 (aO (b':=x6) (ao.id _ _) ax) ?_
 refine .nil (hK _ _ (AW.ret ?_))
 cases h
 exact rv1
def mH(aW:aq)(a6:aq):Option aq:=bnd (li a6) fun x1=>bnd (iB aW x1) fun x3=>some x3
theorem Fo {aW:aq}{a6:aq}{r:aq}(h:mH aW a6=some r):aC prog 177 [dG ap aW,dG ap a6] (dG ap r):=by
 refine bQ (rs:=[.cell 4 32]) (fun cx hx h0=>?_) func177
 unfold mH at h
 refine rs hx fun K hK=>?_
 iterate 2 refine sa ?_
 refine s1 (bp (F:=ap.f bz) ax) ?_
 refine .nil (hK _ _ (rsd [66,127] hx fun K hK=>?_))
 refine s1 (d:=dG ap aW) (aE (ao.id _ _) ax) ?_
 refine s1 (d:=dG ap a6) (aE (ao.id _ _) ax) ?_
 refine cqb h sV fun x1 h=>?_
 refine cqb h yI fun x3 h=>?_
 refine s0 (aO (b':=x3) (ao.id _ _) ax) ?_
 refine .nil (hK _ _ (AW.ret ?_))
 cases h
 exact rv1
def gt(bn:aq):Option Int:=bnd (S:=Bool) (bnd (cN [bn]) fun x1=>cnd (!x1) (some (true)) (some (decide (bn.vW=#v[(0:Int),0,0,0,0,0,0,0,0,0,0,0,0,0,0,0])))) fun kA=>cnd kA (some (0:Int)) (cnd bn.vNeg (some (-1:Int)) (some (1:Int)))
theorem mV {bn:aq}{r:Int}(h:gt bn=some r):aC prog 92 [dG ap bn] (dI .i64 r):=by
 refine bQ (rs:=[.tmp 2]) (fun cx hx h0=>?_) func92
 unfold gt at h
 refine ra hx ?_
 refine AW.seq (AW.block (AW.seq ?_))
 obtain⟨kA,hy,h⟩:=ah h
 refine jn ((PE cx .normal (fun kA=>[(1,.pt 0 0),(3,dB kA)]) fun kA=>⟨[(0,dC (ap.f bn))],[],1⟩) kA) ?_ ?_
 replace h:=hy
 refine rq hx fun K hK=>?_
 refine s1 (d:=dG ap bn) (aE (ao.id _ _) ax) ?_
 refine s1 (qm ([bn]:List aq) ap pP ax) ?_
 refine scb h gl fun x1 h=>?_
 iterate 2 refine sa ?_
 rcases aX (!x1) with bo|bo
 replace h:=aZ bo h
 iterate 4 refine aH rfl rfl bo ?_
 refine s1 (al bo) ?_
 refine sa ?_
 refine .nil (hK _ _ ?_)
 cases h
 exact pe0 h0 [0]
 replace h:=a3 bo h
 refine ga bo ?_
 refine g1 bo (aE (aT bn) aF) ?_
 refine g1 (d:=dG al_cV (#v[(0:Int),0,0,0,0,0,0,0,0,0,0,0,0,0,0,0])) bo (lx aF aI) ?_
 refine g1 bo (vJ tok 2 (by decide) (EqC.arr (EqC.int (d:=0) aI) aF aI) aF) ?_
 refine s1 (au bo) ?_
 refine sa ?_
 refine .nil (hK _ _ ?_)
 cases h
 exact pe0 h0 [0]
 rintro ex tm' hp' ⟨rfl,hw⟩
 refine AW.weak hw (cdh h rfl (fun oT h=>?_) (fun oT h=>?_))
 refine ra hx ?_
 refine AW.ret ?_
 cases h
 exact rv1
 refine rs hx fun K hK=>?_
 refine sa ?_
 refine s1 (a4 (bu bn) gp) ?_
 refine sa ?_
 refine .nil (hK _ _ (cdh h rfl (fun eW h=>?_) (fun eW h=>?_)))
 refine ra hx ?_
 refine AW.ret ?_
 cases h
 exact rv1
 refine AW.skip (ra hx ?_)
 refine AW.ret ?_
 cases h
 exact rv1
def lh(oQ:Vector Int 16)(c8:Int):Int×Int×(Vector Int 16)→Option ((Int×Int×(Vector Int 16))⊕(Int×(Vector Int 16))):=fun (cR,bq,dA)=>cnd (decide (bq<(16:Int))) (gd (0≤bq∧bq<16) (gd (0≤c8) (bnd (some (ior .u64 cR (u9 .u64 (u64.wrap ((oQ)[(bq).toNat]!)) c8))) fun x5=>gd (0≤bq∧bq<16) (some (.inl (lf .u64 x5 (32:Int),i64.wrap (bq+(1:Int)),(dA).set! (bq).toNat (u32.wrap (x5)))))))) (some (.inr (cR,dA)))
def n0(oQ:Vector Int 16)(c8:Int):Option ((Vector Int 16)×Int):=bnd (a7 (lh oQ c8) ((0:Int),(0:Int),(bS))) fun (bY,jS)=>some (jS,u32.wrap (bY))
theorem z5 {oQ:Vector Int 16}{c8:Int}{r:(Vector Int 16)×Int}(h:n0 oQ c8=some r):aC prog 165 [dG al_cV oQ,dI .i64 c8] (.tu [dG al_cV r.1,dI .u32 r.2]):=by
 refine bQ (rs:=[.cell 4 30,.tmp 5]) (fun cx hx h0=>?_) func165
 unfold n0 at h
 refine rs hx fun K hK=>?_
 refine sa ?_
 refine s1 (bp (F:=al_cV.f (bS)) aF) ?_
 refine sa ?_
 refine .nil (hK _ _ (rs hx fun K hK=>?_))
 refine s1 (bp (F:=al_cV.f (bS)) aF) ?_
 refine .nil (hK _ _ (ra hx ?_))
 refine AW.seq (ra hx ?_)
 refine AW.block ?_
 obtain⟨y,hy,h⟩:=ah h
 refine lp (S:=Int×Int×(Vector Int 16)) (X:=Int×(Vector Int 16)) (fun (cR,bq,dA)=>[(1,dI .i64 c8),(2,.pt 0 0),(4,.pt 1 0),(6,.pt 2 0),(7,dI .u64 cR),(9,dI .i64 bq)]) (fun (cR,bq,dA)=>⟨[(0,dC (al_cV.f oQ)),(1,dC (al_cV.f (bS))),(2,dC (al_cV.f dA))],[],3⟩) (PE cx (.exit 0) (fun (bY,jS)=>[(4,.pt 0 0),(6,.pt 1 0),(7,dI .u64 bY)]) fun (bY,jS)=>⟨[(0,dC (al_cV.f (bS))),(1,dC (al_cV.f jS))],[],2⟩) hy ?_ ?_ ?_
 exact wk h0 [0,1,2] (wR rfl (wR rfl (wR rfl (wR rfl (wR rfl (wR rfl wTn)))))) (vC rfl (vC rfl (vC rfl wVn))) wLn
 clear hy h
 rintro⟨cR,bq,dA⟩ y h
 dsimp only[lh] at h
 refine ra hx ?_
 refine AW.seq (cdh h rfl (fun cH h=>?_) (fun cH h=>?_))
 refine AW.skip (AW.seq (AW.block (ra hx ?_)))
 refine rs hx fun K hK=>?_
 iterate 2 refine sa ?_
 obtain⟨nb,h⟩:=aD h
 have p8:(bq).toNat<16:=by omega
 refine s1 (ck nb aF aI) ?_
 refine s1 (a4 (ao.comp (ao.id _ _) (ao.vec (cI .u32) oQ (bq).toNat p8) (fun _=>rfl)) aI) ?_
 iterate 2 refine sa ?_
 obtain⟨Fh,h⟩:=aD h
 refine s1 (O9 Fh) ?_
 refine sa ?_
 obtain⟨x5,D5,h⟩:=ah h
 replace D5:=cv D5
 refine s2 (d2:=dI .u64 x5) kO (fR (congrArg (dI .u64) D5)) ?_
 refine .nil (hK _ _ (rs hx fun K hK=>?_))
 iterate 3 refine sa ?_
 obtain⟨N5,h⟩:=aD h
 have NG:(bq).toNat<16:=by omega
 refine s1 (ck N5 aF aI) ?_
 refine s0 (aO (b':=u32.wrap (x5)) (ao.comp (ao.id _ _) (ao.vec (cI .u32) dA (bq).toNat NG) (fun _=>rfl)) aI) ?_
 refine .nil (hK _ _ ?_)
 iterate 2 refine rb hx ?_
 cases h
 exact PS.l (pe0 h0 [0,1,2])
 refine AW.exit ?_
 try dsimp only
 try simp only[aN,reduceIte,Nat.reduceEqDiff,reduceCtorEq]
 cases h
 exact PS.r ⟨by nofun,PE.i (wk h0 [1,2] (wR rfl (wR rfl (wR rfl wTn))) (vC rfl (vC rfl wVn)) wLn)⟩
 obtain⟨bY,jS⟩:=y
 rintro ex tm' hp' ⟨rfl,hw⟩
 try dsimp only
 try simp only[aN,reduceIte,Nat.reduceEqDiff,reduceCtorEq]
 refine AW.weak hw (rs hx fun K hK=>?_)
 refine s1 (d:=dG al_cV jS) (aE (ao.id _ _) aF) ?_
 iterate 2 refine sa ?_
 refine s0 (aO (b':=jS) (ao.id _ _) aF) ?_
 refine sa ?_
 refine .nil (hK _ _ (AW.ret ?_))
 cases h
 exact rv2
def jW(oQ:Vector Int 16)(c8:Int):Int×(Vector Int 16)→Option ((Int×(Vector Int 16))⊕((Vector Int 16))):=fun (aK,aS)=>cnd (decide (aK<(16:Int))) (bnd (S:=Int) (cnd (decide ((i64.wrap (aK+(1:Int)))<(16:Int))) (gd (0≤i64.wrap (aK+(1:Int))∧i64.wrap (aK+(1:Int))<16) (bnd (some (u64.wrap ((oQ)[(i64.wrap (aK+(1:Int))).toNat]!))) fun x5=>some (x5))) (some ((0:Int)))) fun bU=>gd (0≤aK∧aK<16) (gd (0≤c8) (gd (0≤aK∧aK<16) (bnd (some ((aS).set! (aK).toNat (u32.wrap (lf .u64 (ior .u64 (u9 .u64 bU (32:Int)) (u64.wrap ((oQ)[(aK).toNat]!))) c8)))) fun qv=>some (.inl (i64.wrap (aK+(1:Int)),qv)))))) (some (.inr aS))
def ng(oQ:Vector Int 16)(c8:Int):Option (Vector Int 16):=bnd (a7 (jW oQ c8) ((0:Int),(bS))) fun aG=>some aG
theorem Dv {oQ:Vector Int 16}{c8:Int}{r:Vector Int 16}(h:ng oQ c8=some r):aC prog 169 [dG al_cV oQ,dI .i64 c8] (dG al_cV r):=by
 refine bQ (rs:=[.cell 4 30]) (fun cx hx h0=>?_) func169
 unfold ng at h
 refine rs hx fun K hK=>?_
 refine sa ?_
 refine s1 (bp (F:=al_cV.f (bS)) aF) ?_
 refine .nil (hK _ _ (rs hx fun K hK=>?_))
 refine s1 (bp (F:=al_cV.f (bS)) aF) ?_
 refine .nil (hK _ _ (AW.seq (ra hx ?_)))
 refine AW.block ?_
 obtain⟨aG,hy,h⟩:=ah h
 refine lp (S:=Int×(Vector Int 16)) (X:=(Vector Int 16)) (fun (aK,aS)=>[(1,dI .i64 c8),(2,.pt 0 0),(4,.pt 1 0),(5,.pt 2 0),(8,dI .i64 aK)]) (fun (aK,aS)=>⟨[(0,dC (al_cV.f oQ)),(1,dC (al_cV.f (bS))),(2,dC (al_cV.f aS))],[],3⟩) (PE cx (.exit 0) (fun aG=>[(4,.pt 0 0),(5,.pt 1 0)]) fun aG=>⟨[(0,dC (al_cV.f (bS))),(1,dC (al_cV.f aG))],[],2⟩) hy ?_ ?_ ?_
 exact wk h0 [0,1,2] (wR rfl (wR rfl (wR rfl (wR rfl (wR rfl wTn))))) (vC rfl (vC rfl (vC rfl wVn))) wLn
 clear hy h
 rintro⟨aK,aS⟩ y h
 dsimp only[jW] at h
 refine ra hx ?_
 refine AW.seq (cdh h rfl (fun cH h=>?_) (fun cH h=>?_))
 refine AW.skip (AW.seq (AW.block ?_))
 iterate 2 refine ra hx ?_
 refine AW.seq ?_
 obtain⟨bU,hy,h⟩:=ah h
 refine jn ((PE cx .normal (fun bU=>[(1,dI .i64 c8),(2,.pt 0 0),(4,.pt 1 0),(5,.pt 2 0),(6,dI .i64 aK),(7,dI .u64 bU),(8,dI .i64 aK)]) fun bU=>⟨[(0,dC (al_cV.f oQ)),(1,dC (al_cV.f (bS))),(2,dC (al_cV.f aS))],[],3⟩) bU) ?_ ?_
 replace h:=hy
 refine ra hx ?_
 refine cdh h rfl (fun ly h=>?_) (fun ly h=>?_)
 refine rq hx fun K hK=>?_
 iterate 2 refine sa ?_
 obtain⟨N6,h⟩:=aD h
 have hn4:(i64.wrap (aK+(1:Int))).toNat<16:=by omega
 refine s1 (ck N6 aF aI) ?_
 refine s1 (a4 (ao.comp (ao.id _ _) (ao.vec (cI .u32) oQ (i64.wrap (aK+(1:Int))).toNat hn4) (fun _=>rfl)) aI) ?_
 refine sa ?_
 obtain⟨x5,D5,h⟩:=ah h
 replace D5:=cv D5
 refine s2 (d2:=dI .u64 x5) kO (fR (congrArg (dI .u64) D5)) ?_
 refine .nil (hK _ _ ?_)
 cases h
 exact pe0 h0 [0,1,2]
 refine AW.skip ?_
 cases h
 exact pe0 h0 [0,1,2]
 rintro ex tm' hp' ⟨rfl,hw⟩
 refine AW.weak hw (rq hx fun K hK=>?_)
 iterate 4 refine sa ?_
 obtain⟨Ih,h⟩:=aD h
 have Ia:(aK).toNat<16:=by omega
 refine s1 (ck Ih aF aI) ?_
 refine s1 (a4 (ao.comp (ao.id _ _) (ao.vec (cI .u32) oQ (aK).toNat Ia) (fun _=>rfl)) aI) ?_
 iterate 3 refine sa ?_
 obtain⟨Gt,h⟩:=aD h
 refine s1 (O8 Gt) ?_
 refine sa ?_
 obtain⟨Ij,h⟩:=aD h
 have NL:(aK).toNat<16:=by omega
 refine s1 (ck Ij aF aI) ?_
 obtain⟨qv,Nl,h⟩:=ah h
 replace Nl:=cv Nl
 refine s0 (jT (b':=u32.wrap (lf .u64 (ior .u64 (u9 .u64 bU (32:Int)) (u64.wrap ((oQ)[(aK).toNat]!))) c8)) (ao.comp (ao.id _ _) (ao.vec (cI .u32) aS (aK).toNat NL) (fun _=>rfl)) aI Nl) ?_
 refine .nil (hK _ _ (rb hx ?_))
 cases h
 exact PS.l (pe0 h0 [0,1,2])
 refine AW.exit ?_
 try dsimp only
 try simp only[aN,reduceIte,Nat.reduceEqDiff,reduceCtorEq]
 cases h
 exact PS.r ⟨by nofun,PE.i (wk h0 [1,2] (wR rfl (wR rfl wTn)) (vC rfl (vC rfl wVn)) wLn)⟩
 rintro ex tm' hp' ⟨rfl,hw⟩
 try dsimp only
 try simp only[aN,reduceIte,Nat.reduceEqDiff,reduceCtorEq]
 refine AW.weak hw (rs hx fun K hK=>?_)
 refine s1 (d:=dG al_cV aG) (aE (ao.id _ _) aF) ?_
 refine s0 (aO (b':=aG) (ao.id _ _) aF) ?_
 refine .nil (hK _ _ (AW.ret ?_))
 cases h
 exact rv1
def ja(aW:Vector Int 16)(a6:Int):Int×Int×(Vector Int 16)→Option ((Int×Int×(Vector Int 16))⊕(Int×(Vector Int 16))):=fun (aK,aS,jQ)=>cnd (decide ((0:Int)≤aS)) (gd (0≤aS∧aS<16) (bnd (some (ior .u64 (u9 .u64 aK (32:Int)) (u64.wrap ((aW)[(aS).toNat]!)))) fun x4=>gd (u64.wrap (a6)≠0) (gd (0≤aS∧aS<16) (bnd (some ((jQ).set! (aS).toNat (u32.wrap (u64.wrap (Int.tdiv x4 (u64.wrap (a6))))))) fun x9=>gd (u64.wrap (a6)≠0) (some (.inl (Int.tmod x4 (u64.wrap (a6)),i64.wrap (aS - (1:Int)),x9))))))) (some (.inr (aK,jQ)))
def l6(aW:Vector Int 16)(a6:Int):Option ((Vector Int 16)×Int):=bnd (a7 (ja aW a6) ((0:Int),(15:Int),(bS))) fun (aG,gZ)=>some (gZ,u32.wrap (aG))
theorem B5 {aW:Vector Int 16}{a6:Int}{r:(Vector Int 16)×Int}(h:l6 aW a6=some r):aC prog 163 [dG al_cV aW,dI .u32 a6] (.tu [dG al_cV r.1,dI .u32 r.2]):=by
 refine bQ (rs:=[.cell 4 30,.tmp 5]) (fun cx hx h0=>?_) func163
 unfold l6 at h
 refine rs hx fun K hK=>?_
 refine sa ?_
 refine s1 (bp (F:=al_cV.f (bS)) aF) ?_
 refine sa ?_
 refine .nil (hK _ _ (ra hx ?_))
 refine AW.seq (ra hx ?_)
 refine AW.block ?_
 obtain⟨y,hy,h⟩:=ah h
 refine lp (S:=Int×Int×(Vector Int 16)) (X:=Int×(Vector Int 16)) (fun (aK,aS,jQ)=>[(1,dI .u32 a6),(2,.pt 0 0),(4,.pt 1 0),(6,dI .u64 aK),(7,dI .i64 aS)]) (fun (aK,aS,jQ)=>⟨[(0,dC (al_cV.f aW)),(1,dC (al_cV.f jQ))],[],2⟩) (PE cx (.exit 0) (fun (aG,gZ)=>[(4,.pt 0 0),(6,dI .u64 aG)]) fun (aG,gZ)=>⟨[(0,dC (al_cV.f gZ))],[],1⟩) hy ?_ ?_ ?_
 exact wk h0 [0,1] (wR rfl (wR rfl (wR rfl (wR rfl (wR rfl wTn))))) (vC rfl (vC rfl wVn)) wLn
 clear hy h
 rintro⟨aK,aS,jQ⟩ y h
 dsimp only[ja] at h
 refine AW.seq (ra hx ?_)
 refine cdh h rfl (fun cH h=>?_) (fun cH h=>?_)
 refine AW.skip (AW.seq (AW.block (rs hx fun K hK=>?_)))
 iterate 3 refine sa ?_
 obtain⟨nb,h⟩:=aD h
 have p8:(aS).toNat<16:=by omega
 refine s1 (ck nb aF aI) ?_
 refine s1 (a4 (ao.comp (ao.id _ _) (ao.vec (cI .u32) aW (aS).toNat p8) (fun _=>rfl)) aI) ?_
 iterate 2 refine sa ?_
 obtain⟨x4,va,h⟩:=ah h
 replace va:=cv va
 refine s2 (d2:=dI .u64 x4) kO (fR (congrArg (dI .u64) va)) ?_
 refine .nil (hK _ _ (rs hx fun K hK=>?_))
 iterate 4 refine sa ?_
 obtain⟨hc6,h⟩:=aD h
 refine s1 (G7 hc6) ?_
 refine sa ?_
 obtain⟨N5,h⟩:=aD h
 have NG:(aS).toNat<16:=by omega
 refine s1 (ck N5 aF aI) ?_
 obtain⟨x9,xT,h⟩:=ah h
 replace xT:=cv xT
 refine s0 (jT (b':=u32.wrap (u64.wrap (Int.tdiv x4 (u64.wrap (a6))))) (ao.comp (ao.id _ _) (ao.vec (cI .u32) jQ (aS).toNat NG) (fun _=>rfl)) aI xT) ?_
 refine .nil (hK _ _ (rq hx fun K hK=>?_))
 iterate 3 refine sa ?_
 obtain⟨Ij,h⟩:=aD h
 refine s1 (Dp Ij) ?_
 refine sa ?_
 refine .nil (hK _ _ (rb hx ?_))
 cases h
 exact PS.l (pe0 h0 [0,1])
 refine AW.exit ?_
 try dsimp only
 try simp only[aN,reduceIte,Nat.reduceEqDiff,reduceCtorEq]
 cases h
 exact PS.r ⟨by nofun,PE.i (wk h0 [1] (wR rfl (wR rfl wTn)) (vC rfl wVn) wLn)⟩
 obtain⟨aG,gZ⟩:=y
 rintro ex tm' hp' ⟨rfl,hw⟩
 try dsimp only
 try simp only[aN,reduceIte,Nat.reduceEqDiff,reduceCtorEq]
 refine AW.weak hw (rs hx fun K hK=>?_)
 refine s1 (d:=dG al_cV gZ) (aE (ao.id _ _) aF) ?_
 iterate 2 refine sa ?_
 refine s0 (aO (b':=gZ) (ao.id _ _) aF) ?_
 refine sa ?_
 refine .nil (hK _ _ (AW.ret ?_))
 cases h
 exact rv2
section
section
variable {b A B k m d:Nat}
theorem oc(hb:0<b):((A % b ^ k+B % b ^ k) / b ^ k+dg b A k+dg b B k) % b=dg b (A+B) k∧((A % b ^ k+B % b ^ k) / b ^ k+dg b A k+dg b B k) / b=(A % b ^ (k+1)+B % b ^ (k+1)) / b ^ (k+1):=by
 have hp:0<b ^ k:=cJ hb
 have hs:A % b ^ (k+1)+B % b ^ (k+1)=(A % b ^ k+B % b ^ k)+b ^ k*(dg b A k+dg b B k):=by
  rw[ge,ge,ss];omega
 have h1:(A % b ^ (k+1)+B % b ^ (k+1)) / b ^ k=(A % b ^ k+B % b ^ k) / b ^ k+dg b A k+dg b B k:=by
  rw[hs,vG _ _ hp];omega
 refine⟨?_,?_⟩
 ·have e:A+B=(A % b ^ (k+1)+B % b ^ (k+1))+b ^ k*(b*(A / b ^ (k+1)+B / b ^ (k+1))):=by
   have e1:=nQ A (b ^ (k+1))
   have e2:=nQ B (b ^ (k+1))
   have e3:b ^ k*(b*(A / b ^ (k+1)+B / b ^ (k+1)))=b ^ (k+1)*(A / b ^ (k+1))+b ^ (k+1)*(B / b ^ (k+1)):=by
    rw[←eU,←eF,ss]
   omega
  unfold dg
  rw[e,vG _ _ hp,h1]
  unfold dg
  rw[yy]
 ·rw[eF,←f9,←eF,h1]
theorem ny(hb:0<b):(A % b ^ k+B % b ^ k) / b ^ k≤1:=by
 have hp:0<b ^ k:=cJ hb
 have h1:=dv A hp
 have h2:=dv B hp
 have:(A % b ^ k+B % b ^ k) / b ^ k<2:=(nR hp).2 (by omega)
 omega
theorem CT(hb:0<b):(A % b ^ k*m / b ^ k+dg b A k*m) % b=dg b (A*m) k∧(A % b ^ k*m / b ^ k+dg b A k*m) / b=A % b ^ (k+1)*m / b ^ (k+1):=by
 have hp:0<b ^ k:=cJ hb
 have hs:A % b ^ (k+1)*m=A % b ^ k*m+b ^ k*(dg b A k*m):=by
  rw[ge,bj,eU]
 have h1:A % b ^ (k+1)*m / b ^ k=A % b ^ k*m / b ^ k+dg b A k*m:=by
  rw[hs,vG _ _ hp]
 refine⟨?_,?_⟩
 ·have e:A*m=A % b ^ (k+1)*m+b ^ k*(b*(A / b ^ (k+1)*m)):=by
   have e1:=nQ A (b ^ (k+1))
   have e3:b ^ k*(b*(A / b ^ (k+1)*m))=b ^ (k+1)*(A / b ^ (k+1))*m:=by
    rw[←eU,←eF,←eU]
   rw[e3,←bj]
   congr 1
   omega
  have h2:dg b (A*m) k=A*m / b ^ k % b:=rfl
  rw[h2,e,vG _ _ hp,h1,yy]
 ·rw[eF,←f9,←eF,h1]
theorem xG(hb:0<b)(hm:0<m):A % b ^ k*m / b ^ k<m:=by
 have hp:0<b ^ k:=cJ hb
 rw[nR hp,cj]
 exact Nat.mul_lt_mul_of_pos_left (dv A hp) hm
theorem uY(hb:0<b)(hd:0<d):(A / b ^ (k+1) % d*b+dg b A k) / d=dg b (A / d) k∧(A / b ^ (k+1) % d*b+dg b A k) % d=A / b ^ k % d:=by
 have e:=cm (b:=b) (A:=A) (k:=k)
 have hR:=nQ (A / b ^ (k+1)) d
 generalize hr:A / b ^ (k+1) % d=r at hR ⊢
 generalize ht:A / b ^ (k+1) / d=t at hR
 have hrd:r<d:=by rw[←hr];exact dv _ hd
 have ha:dg b A k<b:=Ov hb
 generalize dg b A k=a at e ha ⊢
 have e2:A / b ^ k=r*b+a+d*(t*b):=by
  rw[e,←hR,bj,eU];omega
 have bF:(r*b+a) / d<b:=by
  rw[nR hd]
  have:(r+1)*b≤d*b:=cg _ hrd
  rw[bj,de,cj d b] at this
  omega
 refine⟨?_,?_⟩
 ·have:dg b (A / d) k=A / b ^ k / d % b:=by unfold dg;rw[f9,cj,←f9]
  rw[this,e2,vG _ _ hd,IQ,dJ bF]
 ·rw[e2,yy]
end
abbrev W(A:Nat):Vector Int 16:=vN 4294967296 16 A
theorem fX {A k:Nat}(h:k<16):(W A)[k]! =(dg 4294967296 A k:Int):=iQ h
theorem dgl {A k:Nat}:dg 4294967296 A k<4294967296:=Ov (by decide)
theorem G_plus {A B:Nat}(hA:A<4294967296 ^ 16)(hB:B<4294967296 ^ 16):nf (W A) (W B)=some (W (A+B),decide (A+B<4294967296 ^ 16)):=by
 have hl:=pX (b:=jb (W A) (W B)) (s0:=((0:Int),(0:Int),bS)) (fun k=>(((A % 4294967296 ^ k+B % 4294967296 ^ k) / 4294967296 ^ k:Nat),(k:Int),vN 4294967296 16 ((A+B) % 4294967296 ^ k))) 16 (((A % 4294967296 ^ 16+B % 4294967296 ^ 16) / 4294967296 ^ 16:Nat),vN 4294967296 16 ((A+B) % 4294967296 ^ 16))
  (by simp only[fE,lZ,qy];rfl)
  (fun k hk=>by
   have hc:=ny (b:=4294967296) (A:=A) (B:=B) (k:=k) (by decide)
   obtain⟨h1,h2⟩:=oc (b:=4294967296) (A:=A) (B:=B) (k:=k) (by decide)
   have ha:=@dgl A k
   have hb:=@dgl B k
   dsimp only[jb]
   rw[bw _ _,aJ,aJ,ab,aJ,bL,fX hk,fX hk,gK,gK,←kw,gK,←kw,gK,uy,xr,←l4,h1,h2,zJ (by decide) hk,cb,kw]
   rfl)
  (by
   dsimp only[jb]
   rw[bx _ _])
 unfold nf
 rw[hl,ab,dJ hA,dJ hB,DE (by decide)]
 dsimp only
 congr 2
 have:((((A+B) / 4294967296 ^ 16:Nat):Int)=0)↔A+B<4294967296 ^ 16:=by
  rw[Int.natCast_eq_zero,EV (by decide)]
 exact mA.2 this
theorem E7 {A B:Nat}(hBA:B≤A):gD (W A) (W B)=some (W (A - B)):=by
 obtain⟨D,rfl⟩:∃D,A=D+B:=⟨A - B,by omega⟩
 rw[yv]
 have hl:=pX (b:=iy (W (D+B)) (W B)) (s0:=((0:Int),(0:Int),bS)) (fun k=>(((D % 4294967296 ^ k+B % 4294967296 ^ k) / 4294967296 ^ k:Nat),(k:Int),vN 4294967296 16 (D % 4294967296 ^ k))) 16 (vN 4294967296 16 (D % 4294967296 ^ 16))
  (by simp only[fE,lZ,qy];rfl)
  (fun k hk=>by
   have hc:=ny (b:=4294967296) (A:=D) (B:=B) (k:=k) (by decide)
   obtain⟨h1,h2⟩:=oc (b:=4294967296) (A:=D) (B:=B) (k:=k) (by decide)
   have ha:=@dgl D k
   have hb:=@dgl B k
   have hd:=@dgl (D+B) k
   generalize (D % 4294967296 ^ k+B % 4294967296 ^ k) / 4294967296 ^ k=c at h1 h2 hc ⊢
   generalize (D % 4294967296 ^ (k+1)+B % 4294967296 ^ (k+1)) / 4294967296 ^ (k+1)=c' at h2 ⊢
   dsimp only[iy]
   rw[bw _ _,aJ,aJ,ab,aJ,bL,fX hk,fX hk,gK,gK,cb]
   have hx:∃x:Nat,u64.wrap (u64.wrap ((dg 4294967296 (D+B) k:Int) - (dg 4294967296 B k:Int)) - (c:Int))=(x:Int)∧x / 9223372036854775808=c'∧x % 4294967296=dg 4294967296 D k:=by
    rw[IntKind.wrap_u64,IntKind.wrap_u64]
    refine⟨((((dg 4294967296 (D+B) k:Int) - (dg 4294967296 B k:Int)) % 18446744073709551616 - (c:Int)) % 18446744073709551616).toNat,by omega,by omega,by omega⟩
   obtain⟨x,Cm,zw,Ni⟩:=hx
   rw[Cm,Ms,xr,zw,Ni,zJ (by decide) hk]
   rfl)
  (by
   dsimp only[iy]
   rw[bx _ _])
 unfold gD
 rw[hl,ab,DE (by decide)]
theorem G_up {A s:Nat}(hs:s<32):n0 (W A) (s:Int)=some (W (A*2 ^ s),((A % 4294967296 ^ 16*2 ^ s / 4294967296 ^ 16:Nat):Int)):=by
 have H6:2 ^ s≤2 ^ 31:=ib (by decide) (by omega)
 have hs3:0<2 ^ s:=cJ (by decide)
 have hl:=pX (b:=lh (W A) (s:Int)) (s0:=((0:Int),(0:Int),bS)) (fun k=>((A % 4294967296 ^ k*2 ^ s / 4294967296 ^ k:Nat),(k:Int),vN 4294967296 16 (A*2 ^ s % 4294967296 ^ k))) 16 ((A % 4294967296 ^ 16*2 ^ s / 4294967296 ^ 16:Nat),vN 4294967296 16 (A*2 ^ s % 4294967296 ^ 16))
  (by simp only[fE,lZ,qy,fj,Nat.zero_div];rfl)
  (fun k hk=>by
   have hc:=xG (b:=4294967296) (A:=A) (k:=k) (m:=2 ^ s) (by decide) hs3
   obtain⟨h1,h2⟩:=CT (b:=4294967296) (A:=A) (k:=k) (m:=2 ^ s) (by decide)
   have ha:=@dgl A k
   have hm:dg 4294967296 A k*2 ^ s≤4294967295*2 ^ s:=cg _ (by omega)
   generalize A % 4294967296 ^ k*2 ^ s / 4294967296 ^ k=c at h1 h2 hc ⊢
   generalize A % 4294967296 ^ (k+1)*2 ^ s / 4294967296 ^ (k+1)=c' at h2 ⊢
   dsimp only[lh]
   rw[bw _ _,aJ,aJ,ab,aJ,bL,fX hk,gK,Na _ _ (by omega) (by omega),Nb,ior_n hc (by omega),uy,xr,cb,ls _ c,h1,h2,zJ (by decide) hk]
   rfl)
  (by
   dsimp only[lh]
   rw[bx _ _])
 have hc:A % 4294967296 ^ 16*2 ^ s / 4294967296 ^ 16<2 ^ s:=xG (by decide) hs3
 unfold n0
 rw[hl,ab,DE (by decide)]
 dsimp only
 rw[xq]
theorem G_down {A s:Nat}(hA:A<4294967296 ^ 16)(hs:s<32):ng (W A) (s:Int)=some (W (A / 2 ^ s)):=by
 have H6:2 ^ s≤2 ^ 31:=ib (by decide) (by omega)
 have hs3:0<2 ^ s:=cJ (by decide)
 have hl:=pX (b:=jW (W A) (s:Int)) (s0:=((0:Int),bS)) (fun k=>((k:Int),vN 4294967296 16 (A / 2 ^ s % 4294967296 ^ k))) 16 (vN 4294967296 16 (A / 2 ^ s % 4294967296 ^ 16))
  (by simp only[fE,lZ,qy];rfl)
  (fun k hk=>by
   have ha:=@dgl A k
   have ha1:=@dgl A (k+1)
   have hd:(dg 4294967296 A (k+1)*4294967296+dg 4294967296 A k) / 2 ^ s % 4294967296=dg 4294967296 (A / 2 ^ s) k:=by
    have e1:dg 4294967296 (A / 2 ^ s) k=A / 4294967296 ^ k / 2 ^ s % 4294967296:=by
     unfold dg;rw[f9,cj,←f9]
    have e2:A / 4294967296 ^ k=(dg 4294967296 A (k+1)*4294967296+dg 4294967296 A k)+2 ^ s*(4294967296*(2 ^ (32 - s)*(A / 4294967296 ^ (k+2)))):=by
     have e3:=cm (b:=4294967296) (A:=A) (k:=k)
     have e4:=cm (b:=4294967296) (A:=A) (k:=k+1)
     have e5:2 ^ s*(4294967296*(2 ^ (32 - s)*(A / 4294967296 ^ (k+2))))=2 ^ s*2 ^ (32 - s)*4294967296*(A / 4294967296 ^ (k+2)):=by
      simp only[eU,yz]
     rw[e5,←gA,show s+(32 - s)=32 from by omega,e3,e4,show k+1+1=k+2 from rfl,show (2:Nat) ^ 32=4294967296 from rfl]
     generalize A / 4294967296 ^ (k+2)=q
     generalize dg 4294967296 A (k+1)=d1
     generalize dg 4294967296 A k=d0
     omega
    rw[e1,e2,vG _ _ hs3,yy]
   dsimp only[jW]
   rw[bw _ _]
   have hnext:(bnd (S:=Int) (cnd (decide ((i64.wrap ((k:Int)+(1:Int)))<(16:Int))) (gd (0≤i64.wrap ((k:Int)+(1:Int))∧i64.wrap ((k:Int)+(1:Int))<16) (bnd (some (u64.wrap ((W A)[(i64.wrap ((k:Int)+(1:Int))).toNat]!))) fun x5=>some (x5))) (some ((0:Int)))) (fun a=>some a))=some ((dg 4294967296 A (k+1):Nat):Int):=by
    rw[cb]
    by_cases hk1:k+1<16
    ·rw[bw _ _,aJ,ab,show ((k:Int)+1).toNat=k+1 from by omega,fX hk1,gK,ab]
    ·rw[bx _ _,ab,kI (bT hA (ib (by decide) (by omega)))]
     rfl
   rw[vk] at hnext
   rw[hnext,ab,aJ,aJ,aJ,ab,bL,fX hk,gK,FK ha1,Gg ha ha1,xN .u64 _ _ (by show s≤64;omega),xr,hd,zJ (by decide) hk,cb]
   rfl)
  (by
   dsimp only[jW]
   rw[bx _ _])
 unfold ng
 rw[hl,ab,DE (by decide)]
theorem G_short {A d:Nat}(hA:A<4294967296 ^ 16)(hd:0<d)(Gr:d<4294967296):l6 (W A) (d:Int)=some (W (A / d),((A % d:Nat):Int)):=by
 have hl:=M3 (b:=ja (W A) (d:Int)) (s0:=((0:Int),(15:Int),bS)) (fun k=>((A / 4294967296 ^ k % d:Nat),(k:Int) - 1,vN 4294967296 16 (A / d / 4294967296 ^ k*4294967296 ^ k))) 16 ((A / 4294967296 ^ 0 % d:Nat),vN 4294967296 16 (A / d / 4294967296 ^ 0*4294967296 ^ 0))
  (by
   have h1:A / d<4294967296 ^ 16:=fb (tH _ _) hA
   simp only[dt hA,dt h1,fj,qy,Nat.zero_mod];rfl)
  (fun k hk=>by
   have ha:=@dgl A k
   have hq:=@dgl (A / d) k
   obtain⟨h1,h2⟩:=uY (b:=4294967296) (A:=A) (k:=k) (d:=d) (by decide) hd
   have hr:A / 4294967296 ^ (k+1) % d<d:=dv _ hd
   generalize A / 4294967296 ^ (k+1) % d=r at h1 h2 hr ⊢
   generalize A / 4294967296 ^ k % d=r' at h2 ⊢
   have ed:u64.wrap (d:Int)=(d:Int):=gK
   dsimp only[ja]
   rw[bw _ _,aJ,ab,ed,aJ,aJ,ab,aJ,show (((k+1:Nat):Int) - 1).toNat=k from by omega,fX hk,gK,FK (by omega),Gg ha (by omega),←qW,←qV,h1,h2,gK,xq hq,Jl (by decide) hk,cb]
   congr 4
   omega)
  (by
   dsimp only[ja]
   rw[bx _ _])
 rw[fE,mB,mB,sr] at hl
 have hr:A % d<d:=dv _ hd
 unfold l6
 rw[hl,ab]
 dsimp only
 rw[xq]
end
def LIM:Nat:=4294967296 ^ 16
theorem BU:LIM=4294967296 ^ 16:=rfl
theorem ue:0<LIM:=by decide
theorem W_zero:W 0=bS:=qy
theorem z16:(#v[(0:Int),0,0,0,0,0,0,0,0,0,0,0,0,0,0,0]:Vector Int 16)=W 0:=by
 rw[W_zero];rfl
theorem r16:bS=W 0:=qy.symm
theorem BL {A B:Nat}(hA:A<LIM)(hB:B<LIM):W A=W B↔A=B:=⟨vN_inj hA hB,fun h=>by rw[h]⟩
def FU(A B:Nat):Int:=if A<B then -1 else if B<A then 1 else 0
theorem G_cmp(x y:Int):fM x y=some (if x<y then -1 else if y<x then 1 else 0):=by
 have hn:∀z:Int,fC z=some false:=fun z=>by unfold fC;simp
 unfold fM
 rw[hn,hn,ab,ab,a9,a9,i5,i5]
 split
 ·rfl
 ·split <;> rfl
theorem yO {A B k:Nat}(he:A / 4294967296 ^ (k+1)=B / 4294967296 ^ (k+1))(h:dg 4294967296 A k<dg 4294967296 B k):A<B:=by
 have e1:=cm (b:=4294967296) (A:=A) (k:=k)
 have e2:=cm (b:=4294967296) (A:=B) (k:=k)
 have h1:A / 4294967296 ^ k<B / 4294967296 ^ k:=by
  rw[e1,e2,he];exact tJ h _
 rcases ci A B with h2|h2
 ·exact h2
 ·exact absurd (I5 h2) (Nat.not_le.2 h1)
theorem KF {A B:Nat}(hA:A<LIM)(hB:B<LIM):j8 (W A) (W B)=some (FU A B):=by
 rw[BU] at hA hB
 obtain⟨x,hl,hx⟩:=uD (b:=jc (W A) (W B)) (fun s=>∃k:Nat,s=(k:Int) - 1∧k≤16∧A / 4294967296 ^ k=B / 4294967296 ^ k) (fun s=>(s+1).toNat) (fun x=>match x with| .inl r=>r=FU A B| .inr _=>A=B)
  (by
   rintro s ⟨k,rfl,hk,he⟩
   cases k with
   |zero=>
    right
    refine⟨(Sum.inr ():Int⊕Unit),?_,?_⟩
    ·dsimp only[jc]
     rw[bx _ _]
    ·simpa using he
   |succ k=>
    have tj:k<16:=by omega
    have e:((k+1:Nat):Int) - 1=(k:Int):=by omega
    rw[e]
    dsimp only[jc]
    rw[bw _ _,aJ,aJ,bL,fX tj,fX tj]
    by_cases hd:dg 4294967296 A k=dg 4294967296 B k
    ·left
     refine⟨(k:Int) - 1,?_,⟨k,rfl,by omega,?_⟩,by omega⟩
     ·rw[bx _ _ (by rw[hd];simp),cb]
     ·rw[cm (b:=4294967296) (A:=A) (k:=k),cm (b:=4294967296) (A:=B) (k:=k),he,hd]
    ·right
     refine⟨(Sum.inl (FU A B):Int⊕Unit),?_,rfl⟩
     rw[bw _ _,aJ,aJ,G_cmp,ab]
     congr 3
     unfold FU
     rcases Nat.lt_or_gt_of_ne hd with h|h
     ·have:=yO he h
      rw[ifp_,az this]
     ·have:=yO he.symm h
      rw[ifn_,ifp_,ifn_,az this]) (15:Int) ⟨16,rfl,aL _,by rw[dt hA,dt hB]⟩
 unfold j8
 rw[hl,ab]
 cases x with
 |inl r=>obtain rfl:r=_:=hx;rfl
 |inr u=>
  obtain rfl:A=B:=hx
  unfold FU
  simp
def szp(b A n:Nat):Prop:=A<b ^ n∧(0<n→b ^ (n - 1)≤A)
theorem Mj {b A n m:Nat}(hb:0<b)(h:szp b A n)(h':szp b A m):n=m:=by
 have key:∀{n m:Nat},szp b A n→szp b A m→m≤n:=by
  intro n m h h'
  rcases ci n m with h1|h1
  ·have h2:=h'.2 (by omega)
   have h3:b ^ n≤b ^ (m - 1):=ib hb (by omega)
   have:=h.1
   omega
  ·exact h1
 have:=key h h'
 have:=key h' h
 omega
theorem Hw {b A n k:Nat}(hb:0<b)(h:szp b A n)(hA:A<b ^ k):n≤k:=by
 rcases ci k n with h1|h1
 ·have h2:=h.2 (by omega)
  have h3:b ^ k≤b ^ (n - 1):=ib hb (by omega)
  omega
 ·exact h1
theorem yE {A:Nat}(hA:A<LIM):∃n:Nat,n≤16∧eo (W A)=some (n:Int)∧szp 4294967296 A n:=by
 rw[BU] at hA
 obtain⟨x,hl,n,rfl,hn,hs⟩:=uD (b:=jV (W A)) (fun s=>∃n:Nat,s=(n:Int)∧n≤16∧A<4294967296 ^ n) (fun s=>s.toNat) (fun x=>∃n:Nat,x=(n:Int)∧n≤16∧szp 4294967296 A n)
  (by
   rintro s ⟨n,rfl,hn,bF⟩
   cases n with
   |zero=>
    right
    refine⟨_,?_,0,rfl,by omega,bF,fun h=>by omega⟩
    dsimp only[jV]
    rw[bx _ _,ab,a9]
   |succ k=>
    have hk:k<16:=by omega
    have e:i64.wrap (((k+1:Nat):Int) - 1)=(k:Int):=by rw[cb];omega
    dsimp only[jV]
    rw[bw _ _,e,aJ,ab,bL,fX hk,i5]
    by_cases hd:dg 4294967296 A k=0
    ·left
     refine⟨(k:Int),by rw[ifp_],⟨k,rfl,by omega,?_⟩,by omega⟩
     unfold dg at hd
     have h1:A / 4294967296 ^ k<4294967296:=by
      rw[nR (cJ (by decide)),cj,←eF];exact bF
     rw[dJ h1] at hd
     exact (EV (cJ (by decide))).1 hd
    ·right
     refine⟨_,by rw[ifn_],k+1,rfl,hn,bF,fun _=>?_⟩
     rcases ci A (4294967296 ^ k) with h|h
     ·exact absurd (kI h) hd
     ·exact h) (16:Int) ⟨16,rfl,aL _,hA⟩
 refine⟨n,hn,?_,hs⟩
 unfold eo
 rw[hl,ab]
def GT:aq:=⟨true,false,W 0⟩
def enc(z:Int):aq:=if z.natAbs<LIM then⟨false,decide (z<0),W z.natAbs⟩ else GT
theorem qb {z:Int}(h:z.natAbs<LIM):enc z=⟨false,decide (z<0),W z.natAbs⟩:=az h
theorem A4 {z:Int}(h:¬z.natAbs<LIM):enc z=GT:=ay h
def dm(x:aq):Bool:=!x.vBad&&(!decide (x.vW=W 0)||!x.vNeg)
def okI(x:aq):Prop:=∀j:Nat,j<16→0≤x.vW[j]!∧x.vW[j]! <4294967296
theorem DU(z:Int):okI (enc z):=by
 have key:∀(A j:Nat),j<16→0≤(W A)[j]!∧(W A)[j]! <4294967296:=fun A j hj=>by
  rw[fX hj];have:=@dgl A j;omega
 unfold enc
 split
 ·exact key _
 ·exact key 0
theorem bN {z:Int}(h:z.natAbs<LIM):dm (enc z)=true:=by
 rw[qb h]
 unfold dm
 dsimp only
 by_cases hz:z=0
 ·subst hz;simp
 ·have:¬W z.natAbs=W 0:=fun e=>hz (by have:=(BL h ue).1 e;omega)
  simp[this]
theorem tv {x:aq}(h:okI x)(hg:dm x=true):∃z:Int,z.natAbs<LIM∧x=enc z:=by
 obtain⟨A,hA,hv⟩:=vN_of (b:=4294967296) (n:=16) (by decide) x.vW (fun j hj=>h j hj)
 obtain⟨bad,neg,w⟩:=x
 dsimp only at hv
 subst hv
 unfold dm at hg
 simp only[dW,Bool.or_eq_true,vp,decide_eq_false_iff_not] at hg
 obtain⟨rfl,hg⟩:=hg
 have JZ:A<LIM:=hA
 cases neg with
 |false=>
  refine⟨(A:Int),JZ,?_⟩
  rw[qb (by simpa using JZ)]
  simp
 |true=>
  refine⟨-(A:Int),by simpa using JZ,?_⟩
  have h0:A≠0:=by
   rintro rfl
   rcases hg with h|h
   ·exact h rfl
   ·cases h
  rw[qb (by simpa using JZ)]
  have:-(A:Int)<0:=by omega
  simp[this,sm h0]
theorem C4:dm GT=false:=rfl
theorem wH {z y:Int}(hz:z.natAbs<LIM)(hy:y.natAbs<LIM)(h:enc z=enc y):z=y:=by
 rw[qb hz,qb hy] at h
 simp only[aq.mk.injEq,true_and] at h
 obtain⟨h1,h2⟩:=h
 have h3:=(BL hz hy).1 h2
 have h4:=mA.1 h1
 omega
theorem Om {A:Nat}(hA:A<LIM)(neg:Bool):(⟨false,neg&&!decide (A=0),W A⟩:aq)=enc (bif neg then -(A:Int) else A):=by
 cases neg with
 |false=>rw[qb (by simpa using hA)];simp
 |true=>
  rw[qb (by simpa using hA)]
  simp only[G1,lr,Int.natAbs_neg,eh,aq.mk.injEq,true_and,and_true]
  by_cases h:A=0
  ·subst h;simp
  ·have:-(A:Int)<0:=by omega
   simp[h,this,sm h]
theorem KH(x:aq):j9 x=some (if x.vBad then decide (x.vW=W 0)&&!x.vNeg else !decide (x.vW=W 0)||!x.vNeg):=by
 unfold j9
 rw[ab,z16]
 cases x.vBad <;> cases decide (x.vW=W 0) <;> rfl
theorem Py {l:List aq}(hl:l.length<1000000):cN l=some (l.all dm):=by
 obtain⟨x,h1,hx⟩:=uD (b:=ml l) (fun s=>∃n:Nat,s=(n:Int)∧n≤l.length∧(l.take n).all dm=true) (fun s=>l.length - s.toNat) (fun x=>match x with| .inl r=>r=false∧l.all dm=false| .inr _=>l.all dm=true)
  (by
   rintro s ⟨n,rfl,hn,ha⟩
   dsimp only[ml]
   by_cases bF:n<l.length
   ·rw[bw _ _,aJ,bL,KH,ab]
    have hg:cnd (l[n]!.vBad) (some true) (some (!(if l[n]!.vBad then decide (l[n]!.vW=W 0)&&!l[n]!.vNeg else !decide (l[n]!.vW=W 0)||!l[n]!.vNeg)))=some (!dm l[n]!):=by
     unfold dm
     cases l[n]!.vBad <;> rfl
    rw[hg,ab]
    have AC:(l.take (n+1)).all dm=((l.take n).all dm&&dm l[n]!):=by
     rw[eG l n bF,List.take_succ_eq_append_getElem bF,sj]
     simp
    cases hgb:dm l[n]! with
    |true=>
     left
     refine⟨((n+1:Nat):Int),?_,⟨n+1,rfl,bF,by rw[AC,ha,hgb];rfl⟩,by omega⟩
     rw[ej,a9,cb]
     rfl
    |false=>
     right
     refine⟨_,rfl,rfl,?_⟩
     rw[←tC (n+1) l,sj,AC,hgb]
     simp
   ·right
    refine⟨_,by rw[bx _ _],?_⟩
    rw[jD (by omega)] at ha
    exact ha) (0:Int) ⟨0,rfl,dZ _,by simp⟩
 unfold cN
 rw[h1,ab]
 cases x with
 |inl r=>obtain⟨rfl,h2⟩:=hx;rw[h2]
 |inr u=>rw[show l.all dm=true from hx]
theorem iO {A:Nat}(hA:A<LIM)(neg:Bool):bE neg (W A)=some (enc (bif neg then -(A:Int) else A)):=by
 unfold bE
 rw[z16,←Om hA]
 cases neg with
 |true=>
  rw[gX,ab]
  simp only[ab,BL hA ue,G1,decide_not]
 |false=>rfl
theorem KM:dT=some GT:=by unfold dT;rw[r16];rfl
theorem all2g(x y:aq):([x,y].all dm)=(dm x&&dm y):=by simp
theorem all1g(x:aq):([x].all dm)=dm x:=by simp
theorem sy(x y:aq):cN [x,y]=some (dm x&&dm y):=by rw[Py (by simp),all2g]
theorem w8(x:aq):cN [x]=some (dm x):=by rw[Py (by simp),all1g]
theorem lO {z:Int}(h:z.natAbs<LIM):(enc z).vW=W z.natAbs:=by rw[qb h]
theorem nr {z:Int}(h:z.natAbs<LIM):(enc z).vNeg=decide (z<0):=by rw[qb h]
theorem G_Add {a c:Int}(ha:a.natAbs<LIM)(hc:c.natAbs<LIM):iB (enc a) (enc c)=some (enc (a+c)):=by
 unfold iB
 rw[sy,bN ha,bN hc,ab]
 simp only[dX,ej,a9,lO ha,lO hc,nr ha,nr hc]
 rw[G_plus (by rw[←BU];exact ha) (by rw[←BU];exact hc),ab,KF ha hc,ab,←BU]
 dsimp only
 by_cases hs:decide (a<0)=decide (c<0)
 ·have LU:=mA.1 hs
  rw[hs,BC,gX]
  by_cases bF:a.natAbs+c.natAbs<LIM
  ·rw[dU bF,ej,a9,iO bF,ab]
   congr 2
   by_cases h:c<0
   ·simp only[h,qY,lr];omega
   ·simp only[h,qX,cond_false];omega
  ·rw[jw bF,tL,gX,KM,ab,A4 (by omega)]
 ·have LU:¬((a<0)↔(c<0)):=fun h=>hs (mA.2 h)
  have hb:(decide (a<0) == decide (c<0))=false:=EQ.2 hs
  rw[hb,a9]
  unfold FU
  by_cases h1:a.natAbs<c.natAbs
  ·rw[az h1,bx _ _,E7 (kz h1),ab,iO (by omega),ab]
   congr 2
   by_cases h:c<0
   ·simp only[h,qY,lr];omega
   ·simp only[h,qX,cond_false];omega
  ·have h2:(0:Int)≤(if a.natAbs<c.natAbs then -1 else if c.natAbs<a.natAbs then 1 else 0):=by
    rw[ay h1];split <;> omega
   rw[bw _ _ h2,E7 (by omega),ab,iO (by omega),ab]
   congr 2
   by_cases h:a<0
   ·simp only[h,qY,lr];omega
   ·simp only[h,qX,cond_false];omega
theorem LM {x y:aq}(h:(dm x&&dm y)=false):iB x y=some GT:=by
 unfold iB
 rw[sy,h,ab,tL,gX,KM,ab]
theorem PD {a:Int}(ha:a.natAbs<LIM):li (enc a)=some (enc (-a)):=by
 unfold li
 rw[w8,bN ha,ab,ej,a9,lO ha,nr ha,iO ha,ab]
 congr 2
 by_cases h:a<0
 ·simp only[h,qY,ej,cond_false];omega
 ·simp only[h,qX,tL,lr];omega
theorem G_Sub {a c:Int}(ha:a.natAbs<LIM)(hc:c.natAbs<LIM):mH (enc a) (enc c)=some (enc (a - c)):=by
 unfold mH
 rw[PD hc,ab,G_Add ha (by omega),ab]
 rfl
theorem yF {a:Int}(ha:a.natAbs<LIM):gt (enc a)=some a.sign:=by
 unfold gt
 rw[w8,bN ha,ab,ej,a9,ab,lO ha,nr ha,z16]
 simp only[BL ha ue]
 rcases I0 a 0 with h|h|h
 ·rw[bx _ _,bw _ _ h,IL h]
 ·subst h;rfl
 ·rw[bx _ _,bx _ _,Bp h]
end
end Go.Proofs.YtgfcnncojhkcoaaGreat
