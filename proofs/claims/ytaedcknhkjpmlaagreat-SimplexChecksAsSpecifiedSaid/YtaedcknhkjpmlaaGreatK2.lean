/-
  Lemmas, part 2. Conditions: none.
-/
import Derived.Test.YtaedcknhkjpmlaaGreatK1
import Derived.Laws.MakeOwn
import Derived.Laws.CopyRow
import Derived.Test.YtaedcknhkjpmlaaGreatProg
set_option linter.all false
set_option maxRecDepth 100000
namespace Go.Proofs.YtaedcknhkjpmlaaGreat
open Go.RowKit Go.IntKind
noncomputable section
section
def dC(es:List E):List D:=es.map D.e
theorem P0(σ:Nat→Nat)(es:List E):(dC es).map (D.renC σ)=dC es:=by
 unfold dC;rw[pY];exact sw fun _ _=>rfl
theorem eT(es:List E):(dC es).length=es.length:=bw _
theorem GI {p:D→Bool}(h:∀e,p (.e e)=true)(es:List E):(dC es).all p=true:=by
 unfold dC;rw[List.all_map];exact dc.2 fun e _=>h e
structure ak {β:Type}(F:List E)(c':Cd β)(o:Nat)(b:β)(F':β→List E):Prop where
 le:o+c'.sz≤F.length
 g:(F.drop o).take c'.sz=c'.f b
 p:∀y,F.take o++c'.f y++F.drop (o+c'.sz)=F' y
section
variable {α β γ:Type} {F:List E}
theorem ak.id(c:Cd α)(x:α):ak (c.f x) c 0 x c.f:=
 ⟨by rw[c.h];omega,by rw[rB,iP (by rw[c.h];exact aB _)],fun y=>by rw[Dk,bJ,Be (by rw[c.h];exact aB _),mL,sv]⟩
theorem ak.comp {c1:Cd α}{c2:Cd β}{o1 o2:Nat}{b1:α}{b2:β}{F1:α→List E}{P2:β→List E}{P:β→α}(h1:ak F c1 o1 b1 F1)(h2:ak (c1.f b1) c2 o2 b2 P2)(hp:∀y,P2 y=c1.f (P y)):ak F c2 (o1+o2) b2 (fun y=>F1 (P y)):=by
 have l1:=h1.le
 have l2:=h2.le
 rw[c1.h] at l2
 refine⟨by omega,?_,fun y=>?_⟩
 ·rw[←h2.g,←h1.g,←qv,List.drop_take,List.take_take,su (by omega)]
 ·rw[←h1.p (P y),←hp y,←h2.p y,←h1.g,List.take_take,su (by omega),List.take_add]
  have e:((F.drop o1).take c1.sz).drop (o2+c2.sz)++F.drop (o1+c1.sz)=F.drop (o1+o2+c2.sz):=by
   have e1:F.drop (o1+c1.sz)=(F.drop o1).drop c1.sz:=(qv ..).symm
   rw[e1,←List.drop_append_of_le_length (by rw[eH,fT];omega),xr,qv,wV]
  rw[←e]
  simp only[dU]
theorem ak.of {c':Cd β}{o:Nat}{b:β}{F':β→List E}(A C:List E)(hA:A.length=o)(hF:F=A++(c'.f b++C))(hp:∀y,F' y=A++(c'.f y++C)):ak F c' o b F':=by
 subst hA hF
 refine⟨by simp[c'.h],?_,fun y=>?_⟩
 ·rw[zf,Bd (by rw[c'.h];exact aB _),iP (by rw[c'.h];exact aB _)]
 ·rw[hp,uM,←qv,zf,←c'.h b,zf,dU]
theorem ak.seq [Inhabited α](c:Cd α)(l:List α)(i:Nat)(h:i<l.length):ak (l.flatMap c.f) c (i*c.sz) l[i]! (fun y=>(l.set i y).flatMap c.f):=by
 have hl:(l.flatMap c.f).length=l.length*c.sz:=iB c.f c.h l
 have hm:(i+1)*c.sz≤l.length*c.sz:=dZ _ h
 rw[cz,kG] at hm
 refine⟨by rw[hl];exact hm,?_,fun y=>?_⟩
 ·have:=kE c.f c.h (l.drop i) 1
  rw[kG] at this
  rw[n4 c.f c.h,this,IH h,cO l i h,List.take_succ_cons,Dk,rA,List.flatMap_nil,sv]
 ·rw[kE c.f c.h,show i*c.sz+c.sz=(i+1)*c.sz by rw[cz,kG],n4 c.f c.h,List.set_eq_take_append_cons_drop,if_pos h,List.flatMap_append,rA,dU]
theorem yy [Inhabited α]{n:Nat}(v:Vector α n){i:Nat}(h:i<n):v.toList[i]! =v[i]! :=by
 rw[cO v.toList i (by rw[qu];exact h),cO v i h,Vector.getElem_toList]
theorem vec_set {n:Nat}(v:Vector α n)(i:Nat)(y:α):(v.set! i y).toList=v.toList.set i y:=by
 show (v.setIfInBounds i y).toList=_
 exact Vector.toList_setIfInBounds ..
theorem ak.vec [Inhabited α]{n:Nat}(c:Cd α)(v:Vector α n)(i:Nat)(h:i<n):ak ((cA n c).f v) c (i*c.sz) v[i]! (fun y=>(cA n c).f (v.set! i y)):=by
 have:=ak.seq c v.toList i (by rw[qu];exact h)
 rw[yy v h] at this
 refine⟨this.le,this.g,fun y=>?_⟩
 rw[show (cA n c).f (v.set! i y)=(v.set! i y).toList.flatMap c.f from rfl,vec_set]
 exact this.p y
end
section
variable {P:Program} {tb:TypeId→Option TyE} {dr:Bool} {ty:TypeId} {ev:Operand→D} {x y:Operand} {vs:List (Nat×List D)} {lv:List (Nat×Nat×Nat×TypeId)} {N k o:Nat} {F:List E} {β:Type} {c':Cd β} {b:β} {F':β→List E} {t:TypeId} {i:TyE}
theorem aq(L:ak F c' o b F')(ht:tb t=some i)(hg:i.ty.agg=true:=by exact rfl)(hz:c'.sz=i.size:=by exact rfl)(hx:ev x=.pt k o:=by exact rfl)(hv:vs.lookup k=some (dC F):=by exact rfl)(hk:Nat.ble (k+1) N=true:=by exact rfl):AVC P tb dr (.load t x) ty ev ⟨vs,lv,N⟩ (Kq (dG c' b) ⟨vs,lv,N⟩):=by
 rw[qL,hx,ox,ht,hv]
 simp only[hg]
 refine⟨dK hk,by rw[eT,←hz];exact L.le,?_⟩
 have:((dC F).drop o).take i.size=(c'.f b).map D.e:=by
  unfold dC
  rw[←Bc,←ze,←hz,L.g]
 rw[this]
 exact Kq.here _ _
theorem aT {e:E}(L:ak F c' o b F')(ht:tb t=some i)(he:c'.f b=[e]:=by exact rfl)(hg:i.ty.agg=false:=by exact rfl)(hx:ev x=.pt k o:=by exact rfl)(hv:vs.lookup k=some (dC F):=by exact rfl)(hk:Nat.ble (k+1) N=true:=by exact rfl):AVC P tb dr (.load t x) ty ev ⟨vs,lv,N⟩ (Kq (.e e) ⟨vs,lv,N⟩):=by
 have hs:c'.sz=1:=by rw[←c'.h b,he];rfl
 have Ex:=L.g
 have hle:=L.le
 rw[hs] at Ex hle
 rw[he] at Ex
 rw[qL,hx,ox,ht,hv]
 simp only[hg]
 refine⟨dK hk,.e e,?_,Kq.here _ _⟩
 unfold dC
 rw[ep]
 have:F[o]? =some e:=by
  have h0:(F.drop o)[0]? =F[o]? :=by rw[oQ,mK]
  have h1:((F.drop o).take 1)[0]? =(F.drop o)[0]? :=by rw[ie];rfl
  rw[←h0,←h1,Ex]
  rfl
 rw[this];rfl
theorem aE {b':β}(L:ak F c' o b F')(ht:tb t=some i)(hy:(ev y).cells=some (dC (c'.f b')):=by exact rfl)(hz:c'.sz=i.size:=by exact rfl)(hx:ev x=.pt k o:=by exact rfl)(hv:vs.lookup k=some (dC F):=by exact rfl):AVC P tb dr (.store t x y) ty ev ⟨vs,lv,N⟩ (Kq .top ⟨(k,dC (F' b'))::vs,lv,N⟩):=by
 rw[Di,hx,zV,ht,hv,hy]
 have hl:(dC (c'.f b')).length=i.size:=by rw[eT,c'.h,hz]
 refine⟨hl,by rw[eT,←hz];exact L.le,?_⟩
 have:(dC F).take o++dC (c'.f b')++(dC F).drop (o+(dC (c'.f b')).length)=dC (F' b'):=by
  rw[hl,←hz,←L.p b']
  unfold dC
  simp only[iU,ze,Bc]
 rw[this]
 exact Kq.here _ _
theorem nS {b':β}{γ:Type}{c:Cd γ}{nw nm:γ}(L:ak F c' o b F')(ht:tb t=some i)(MZ:nw=nm)(hF:F' b'=c.f nw:=by exact rfl)(hy:(ev y).cells=some (dC (c'.f b')):=by exact rfl)(hz:c'.sz=i.size:=by exact rfl)(hx:ev x=.pt k o:=by exact rfl)(hv:vs.lookup k=some (dC F):=by exact rfl):AVC P tb dr (.store t x y) ty ev ⟨vs,lv,N⟩ (Kq .top ⟨(k,dC (c.f nm))::vs,lv,N⟩):=by
 have:=aE (P:=P) (dr:=dr) (ty:=ty) (lv:=lv) (N:=N) L ht hy hz hx hv
 rw[hF,MZ] at this
 exact this
theorem be(ht:tb t=some i)(hz:i.zero.map E.lit=F:=by kernel_rfl):AVC P tb dr (.alloc t) ty ev ⟨vs,lv,N⟩ (Kq (.pt N 0) ⟨(N,dC F)::vs,lv,N+1⟩):=by
 subst hz
 have:=um (P:=P) (dr:=dr) (ty:=ty) (ev:=ev) (vs:=vs) (lv:=lv) (N0:=N) ht
 unfold dC
 rw[pY]
 exact this
theorem T_boxV(h:(ev x).cells=some (dC F):=by exact rfl):AVC P tb dr (.box t x) ty ev ⟨vs,lv,N⟩ (Kq (.pt N 0) ⟨(N,dC F)::vs,lv,N+1⟩):=fB h
variable {hp:Hp} {j:TyE} {e:TypeId} {n:Nat} {kn:IntKind} {v:Int}
variable {s tt:TypeId} {fi:Nat} {fs:List (Nat×TypeId)}
inductive FL (tb:TypeId→Option TyE) (fs:List (Nat×TypeId)):List E→List (Nat×List D)→List E→Prop
 |nil (F:List E):FL tb fs F [] F
 |cons {γ:Type} {c:Cd γ} {F F2:List E} {o i:Nat} {b y:γ} {F':γ→List E} {rest:List (Nat×List D)} {cs:List D} (L:ak F c o b F') (hp:oi tb fs i=some (o,c.sz)) (hc:cs=dC (c.f y)) (h:FL tb fs (F' y) rest F2):FL tb fs F ((i,cs)::rest) F2
theorem FL.fill {F F2:List E}{qs:List (Nat×List D)}(h:FL tb fs F qs F2):gp (oi tb fs) (dC F) qs=some (dC F2):=by
 induction h with
 |nil F=>rfl
 |cons L hp hc h ih=>
  rename_i c F F2 o i b y F' rest cs
  subst hc
  unfold gp
  rw[hp]
  dsimp only
  have hl:(dC (c.f y)).length=c.sz:=by rw[eT,c.h]
  rw[if_neg (by rw[hl,eT];have:=L.le;omega),hl,←ih]
  congr 1
  rw[←L.p y]
  unfold dC
  simp only[iU,ze,Bc]
theorem ig {ps:List (Nat×Operand)}{qs:List (Nat×List D)}{F2:List E}(h:FL tb fs F qs F2)(ht:tb t=some i)(h0:i.zero.map E.lit=F:=by kernel_rfl)(hi:i.ty=.struct fs:=by exact rfl)(ha:(fs.all fun f=>(tb f.2).isSome)=true:=by exact rfl)(ka:l5 (ps.map fun p=>(p.1,ev p.2))=some qs:=by exact rfl):AVC P tb dr (.build t ps.toArray) ty ev hp (Kq (.ag (dC F2)) hp):=by
 subst h0
 rw[vK,tf,ht,ka]
 simp only[hi]
 have:(i.zero.map fun v=>D.e (.lit v))=dC (i.zero.map E.lit):=by unfold dC;rw[pY];rfl
 rw[this,h.fill]
 exact⟨fun f hf=>(dc.1 ha) f hf,Kq.here _ _⟩
theorem vC {σ:Nat→Nat}{m:Nat}{l:List (Nat×List D)}{F:List E}(h1:vs.lookup (σ k)=some (dC F))(hl:wkV σ m vs l)(h0:Nat.ble (k+1) m=true:=by exact rfl):wkV σ m vs ((k,dC F)::l):=
 ⟨⟨ltb h0,⟨_,h1,by rw[P0];exact qO _⟩,GI (fun _=>rfl) _,GI (fun _=>rfl) _⟩,hl⟩
def rnV(ρ:Nat→Nat):List (Nat×List D)→List (Nat×List D)→Prop
 |[],[]=>True
 |p::l,q::l'=>(ρ p.1=q.1∧p.2.map (D.renC ρ)=q.2∧p.2.all D.okC=true)∧rnV ρ l l'
 |_,_=>False
theorem rnV.map {ρ:Nat→Nat}:∀{l l':List (Nat×List D)},rnV ρ l l'→l.map (fun p=>(ρ p.1,p.2.map (D.renC ρ)))=l'∧(l.all fun p=>p.2.all D.okC)=true
 |[],[],_=>⟨rfl,rfl⟩
 |p::l,q::l',h=>by
  obtain⟨h1,h2⟩:=rnV.map h.2
  obtain⟨a,b,c⟩:=h.1
  refine⟨?_,by rw[bX,c,h2];rfl⟩
  rw[cP,h1,a,b]
 |[],_::_,h=>h.elim
 |_::_,[],h=>h.elim
theorem rvN {ρ:Nat→Nat}:rnV ρ [] []:=trivial
theorem rvC {ρ:Nat→Nat}{k k2:Nat}{F:List E}{l l':List (Nat×List D)}(h:rnV ρ l l')(hk:ρ k=k2:=by exact rfl):rnV ρ ((k,dC F)::l) ((k2,dC F)::l'):=⟨⟨hk,P0 _ _,GI (fun _=>rfl) _⟩,h⟩
theorem GS {x:Operand}{f:FuncId}{aS:List Operand}{ts:Array TypeId}{K5:List D}{r r':D}{DS n8 vs LD vs2:List (Nat×List D)}{DT rS lv DU:List (Nat×Nat×Nat×TypeId)}{m n' N N2:Nat}(os:List Nat)
  (Bu:ev x=.e (.lit (.func (.func f) #[] #[]))) (hc:HC P f K5 ⟨DS,DT,m⟩ r ⟨n8,rS,n'⟩) (ha:frA (fun i=>os.getD i 0) m (aS.map ev) K5) (hv:wkV (fun i=>os.getD i 0) m vs DS) (hl:wkL (fun i=>os.getD i 0) m lv DT) (hrn:rnV (rn os m N) n8 LD)
  (pB:r.ren (rn os m N)=r') (hr:r.okF=true) (hos:os.length=m:=by exact rfl) (Gn:os.Nodup:=by decide) (b8:(os.all fun o=>Nat.ble (o+1) N)=true:=by exact rfl)
  (HW:LD++vs.filter (fun p=>!os.contains p.1)=vs2:=by exact rfl) (M0:frL (rn os m N) os rS lv=DU:=by exact rfl) (hN:N+(n' - m)=N2:=by exact rfl)
  (hh:hvB tb ⟨.value x,aS.toArray,ts⟩=true:=by kernel_rfl):AVC P tb dr (.call ⟨.value x,aS.toArray,ts⟩) ty ev ⟨vs,lv,N⟩ (Kq r' ⟨vs2,DU,N2⟩):=
 T_callH Bu (HC.fr os hc ha hv hl hos Gn b8 hr hrn.map.2 pB (by unfold frV;rw[hrn.map.1,HW]) M0 hN) rfl hh
theorem ex_G {α:Type}(c:Cd α)(a:α):D.ex (dG c a)=dG c a:=by
 show D.ag (((c.f a).map D.e).map D.exC)=_
 rw[pY];rfl
theorem bZ {α:Type}(c:Cd α)(a:α):(D.ex (dG c a)).le (dG c a):=by rw[ex_G];exact ap _
theorem v7 {off z m:Nat}(hb:0≤v∧v<(n:Int))(ht:tb t=some i)(he:tb e=some j)(hi:i.ty=.slice e:=by exact rfl)(hx:ev x=.ow m off z n:=by exact rfl)(hz:z=j.size:=by exact rfl)(hy:ev y=dI kn v:=by exact rfl):AVC P tb dr (.indexAddr t x y) ty ev hp (Kq (.pt m (off+v.toNat*j.size)) hp):=by
 rw[ub,hx,hy,sF,ht]
 simp only[hi,he]
 exact⟨hz,hb,Kq.here _ _⟩
end
section
variable {P:Program} {tb:TypeId→Option TyE}
structure EqC(tb:TypeId→Option TyE)(d:Nat)(t:TypeId){α:Type}(c:Cd α)(us:α→List Value):Prop where
 hf:∀x,c.f x=(us x).map E.lit
 ft:∀x,nO tb d t (us x)
 inj:∀x y,us x=us y↔x=y
theorem EqC.int {d:Nat}{t:TypeId}{k:IntKind}{i:TyE}(ht:tb t=some i)(hi:i.ty=.int k:=by exact rfl):EqC tb (d+1) t (cI k) (fun n=>[.int k n]):=
 ⟨fun _=>rfl,fun n=>by unfold nO;rw[ht];simp only[hi];exact⟨n,rfl⟩,fun x y=>by simp⟩
theorem EqC.bool {d:Nat}{t:TypeId}{i:TyE}(ht:tb t=some i)(hi:i.ty=.bool:=by exact rfl):EqC tb (d+1) t cB (fun n=>[.bool n]):=
 ⟨fun _=>rfl,fun n=>by unfold nO;rw[ht];simp only[hi];exact⟨n,rfl⟩,fun x y=>by simp⟩
theorem EqC.len {d:Nat}{t:TypeId}{α:Type}{c:Cd α}{us:α→List Value}(h:EqC tb d t c us)(x:α):(us x).length=c.sz:=by
 rw[←c.h x,h.hf,bw]
theorem EL {α:Type}{f:α→List Value}{z:Nat}(hz:∀a,(f a).length=z):∀l:List α,(l.flatMap f).length=l.length*z
 |[]=>by simp
 |a::l=>by rw[rA,c8,hz,EL hz l,rD,cz,kG,qx]
theorem Ho {α:Type}{f:α→List Value}{z:Nat}(hz:∀a,(f a).length=z):∀(l:List α) (i:Nat) (h:i<l.length),((l.flatMap f).drop (i*z)).take z=f l[i]
 |a::l,0,_=>by rw[ic,rB,rA,Bd (by rw[hz];exact aB _),iP (by rw[hz];exact aB _)];rfl
 |a::l,i+1,h=>by
  rw[rA,cz,kG,qx,←hz a,←qv,zf,hz a]
  exact Ho hz l i (by simpa using h)
theorem EM {α:Type}{f:α→List Value}{z:Nat}(hz:∀a,(f a).length=z)(hi:∀x y,f x=f y→x=y):∀l m:List α,l.length=m.length→l.flatMap f=m.flatMap f→l=m
 |[],[],_,_=>rfl
 |a::l,b::m,hl,h=>by
  rw[rA,rA] at h
  obtain⟨h1,h2⟩:=List.append_inj h (by rw[hz,hz])
  rw[hi a b h1,EM hz hi l m (by simpa using hl) h2]
 |[],_::_,hl,_=>by simp at hl
 |_::_,[],hl,_=>by simp at hl
theorem EqC.arr {d n:Nat}{t e:TypeId}{α:Type}{c:Cd α}{us:α→List Value}{i j:TyE}(h:EqC tb d e c us)(ht:tb t=some i)(he:tb e=some j)(hi:i.ty=.arr n e:=by exact rfl)(hz:c.sz=j.size:=by exact rfl):EqC tb (d+1) t (cA n c) (fun v=>v.toList.flatMap us):=by
 refine⟨fun v=>?_,fun v=>?_,fun v w=>⟨fun hh=>?_,fun hh=>by rw[hh]⟩⟩
 ·show v.toList.flatMap c.f=_
  rw[List.map_flatMap]
  congr 1
  exact funext h.hf
 ·unfold nO
  rw[ht]
  simp only[hi,he]
  have hl:=h.len
  refine⟨by rw[EL hl,qu,hz],fun q hq=>?_⟩
  rw[←hz,Ho hl _ _ (by rw[qu];exact hq)]
  exact h.ft _
 ·have:=EM h.len (fun x y hxy=>(h.inj x y).1 hxy) v.toList w.toList (by rw[qu,qu]) hh
  exact Vector.toList_inj.1 this
theorem rl {d o off:Nat}{t:TypeId}{fs:List (Nat×TypeId)}{α:Type}{c:Cd α}{us:α→List Value}{j:TyE}{x:α}{rest:List Value}(h:EqC tb d t c us)(ht:tb t=some j)(ho:o=off)(hr:te tb (nO tb d) fs (off+j.size) rest)(hz:c.sz=j.size:=by exact rfl):te tb (nO tb d) ((o,t)::fs) off (us x++rest):=by
 unfold te
 have hl:=h.len x
 rw[ht]
 refine⟨ho,?_,by rw[c8];omega,?_⟩
 ·rw[←hz,←hl,uM];exact h.ft x
 ·rw[←hz,←hl,zf,hl,hz];exact hr
theorem EqC.struct {d:Nat}{t:TypeId}{α:Type}{c:Cd α}{us:α→List Value}{i:TyE}{fs:List (Nat×TypeId)}(ht:tb t=some i)(hf:∀x,c.f x=(us x).map E.lit)(G8:∀x,te tb (nO tb d) fs 0 (us x))(Ew:∀x y,us x=us y→x=y)(hi:i.ty=.struct fs:=by exact rfl):EqC tb (d+1) t c us:=
 ⟨hf,fun x=>by unfold nO;rw[ht];simp only[hi];exact G8 x,fun x y=>⟨Ew x y,fun h=>by rw[h]⟩⟩
theorem pN:∀us:List Value,l6 (dC (us.map E.lit))=some us
 |[]=>rfl
 |u::us=>by
  show (l6 (dC (us.map E.lit))).map (u::·)=_
  rw[pN us];rfl
variable {dr:Bool} {ty:TypeId} {ev:Operand→D} {x y:Operand} {hp:Hp} {α:Type} {c:Cd α} {us:α→List Value} {a b:α} {t t':TypeId} {i:TyE}
theorem AF(tok:TOk P tb)(n:Nat)(hd:n≤10000)(h:EqC tb n t c us)(ht:tb t=some i)[DecidableEq α](hg:i.ty.agg=true:=by exact rfl)(hm:P.eqGuardType P.depth t=false:=by kernel_rfl)(hn:mc P n t=true:=by kernel_rfl)(hx:ev x=dG c a:=by exact rfl)(hy:ev y=dG c b:=by exact rfl):AVC P tb dr (.binOp .eql t x y t') ty ev hp (Kq (dB (decide (a=b))) hp):=by
 have e:∀z,(c.f z).map D.e=dC ((us z).map E.lit):=fun z=>by rw[h.hf];rfl
 exact T_geql tok n hd ht hg hm hn hx hy (by rw[e,pN]) (by rw[e,pN]) (h.ft a) (h.ft b) (h.inj a b)
theorem DD(tok:TOk P tb)(n:Nat)(hd:n≤10000)(h:EqC tb n t c us)(ht:tb t=some i)[DecidableEq α](hg:i.ty.agg=true:=by exact rfl)(hm:P.eqGuardType P.depth t=false:=by kernel_rfl)(hn:mc P n t=true:=by kernel_rfl)(hx:ev x=dG c a:=by exact rfl)(hy:ev y=dG c b:=by exact rfl):AVC P tb dr (.binOp .neq t x y t') ty ev hp (Kq (dB (decide (¬a=b))) hp):=by
 have e:∀z,(c.f z).map D.e=dC ((us z).map E.lit):=fun z=>by rw[h.hf];rfl
 exact T_gneq tok n hd ht hg hm hn hx hy (by rw[e,pN]) (by rw[e,pN]) (h.ft a) (h.ft b) (h.inj a b)
theorem wu(c:Cd α){z:Nat}(hz:c.sz=z):∀(l:List α) (m:Nat) (pre rest:List D),pre.length=m*z→rest.length=l.length*z→gp (fun n=>some (n*z,z)) (pre++rest) ((l.zipIdx m).map fun p=>(p.2,dC (c.f p.1)))=some (pre++dC (l.flatMap c.f))
 |[],m,pre,rest,_,hr=>by
  have:rest=[]:=rX (by simpa using hr)
  subst this;rfl
 |a::l,m,pre,rest,hp,hr=>by
  have hl:(dC (c.f a)).length=z:=by rw[eT,c.h,hz]
  rw[rD,cz,kG] at hr
  show gp (fun n=>some (n*z,z)) (pre++rest) ((m,dC (c.f a))::(l.zipIdx (m+1)).map _)=_
  unfold gp
  dsimp only
  rw[if_neg (by rw[hl,c8];omega),←hp,uM,hl,←qv,zf]
  have:=wu c hz l (m+1) (pre++dC (c.f a)) (rest.drop z) (by rw[c8,hl,hp,cz,kG]) (by rw[fT];omega)
  rw[this,dU]
  unfold dC
  rw[rA,iU]
theorem At:∀es:List E,t9 (dC es)=some es
 |[]=>rfl
 |e::es=>by
  show (match D.cellE (.e e),t9 (dC es) with|some x,some xs=>some (x::xs)|_,_=>none)=_
  rw[At es];rfl
theorem kJ {vs:List (Nat×List D)}{lv:List (Nat×Nat×Nat×TypeId)}{N0:Nat}{e:TypeId}{j:TyE}{n:Nat}{ps:List (Nat×Operand)}(l:List α)(c:Cd α)(ht:tb t=some i)(he:tb e=some j)(hi:i.ty=.slice e:=by exact rfl)(hz:c.sz=j.size:=by exact rfl)(Jx:Nat.ble (0+1) (j.size)=true:=by exact rfl)(IY:l.length=n+1:=by exact rfl)(hn:Nat.ble ((n+1)*j.size) (16777216)=true:=by exact rfl)(ka:l5 (ps.map fun p=>(p.1,ev p.2))=some ((l.zipIdx 0).map fun p=>(p.2,dC (c.f p.1))):=by exact rfl)(hd:dr=false:=by exact rfl):
  AVC P tb dr (.buildSlice t (n+1) ps.toArray) ty ev ⟨vs,lv,N0⟩ (Kq (dO N0 c l) ⟨vs,(N0,l.length,j.size,e)::lv,N0+1⟩):=by
 have hf:=wu c hz l 0 [] (List.replicate ((n+1)*j.size) (D.e .any)) (by simp) (by rw[xq,IY])
 rw[mL,mL] at hf
 have:=kK (P:=P) (dr:=dr) (ty:=ty) (ev:=ev) (vs:=vs) (lv:=lv) (N0:=N0) ht he hi Jx hn ka hf (At _) hd
 show AVC _ _ _ _ _ _ _ (Kq (.own N0 c.sz l.length (l.flatMap c.f)) _)
 rw[hz,IY]
 exact this
theorem FM {tm:List (Nat×D)}{p:Tmp}{ty:TypeId}{j:Nat}{i:TyE}{F:List E}{k:D→Prop}(h:tm.lookup p=some (.pt j 0))(ht:tb ty=some i)(hg:i.ty.agg=true)(hv:hp.vars.lookup j=some (dC F))(hn:j<hp.next)(hl:F.length=i.size)(hk:k (.ag (dC F))):sB tb tm hp (.cell p ty) k:=
 NG h ht hg hv hn (by rw[eT,hl];omega) (by rw[rB,iP (by rw[eT,hl];exact aB _)]) hk
end
end
section
structure FW(α:Type) where
 f:α→List E
def cW {α:Type}(c:Cd α):FW (List α):=⟨fun l=>l.flatMap c.f⟩
theorem ak.seqW {α:Type}[Inhabited α](c:Cd α)(l:List α)(i:Nat)(h:i<l.length):ak ((cW c).f l) c (0+i*c.sz) l[i]! (fun y=>(cW c).f (l.set i y)):=by
 rw[bJ];exact ak.seq c l i h
def vOf {α:Type}[Inhabited α](n:Nat)(l:List α):Vector α n:=Vector.ofFn fun i=>l[i.val]!
theorem xG {α:Type}[Inhabited α]{n:Nat}{l:List α}(h:l.length=n):(vOf n l).toList=l:=by
 unfold vOf
 apply List.ext_getElem
 ·rw[qu,h]
 ·intro i h1 h2
  rw[Vector.getElem_toList,Vector.getElem_ofFn,cO l i h2]
theorem vOf_f {α:Type}[Inhabited α](c:Cd α){n:Nat}{l:List α}(h:l.length=n):(cA n c).f (vOf n l)=l.flatMap c.f:=by
 show (vOf n l).toList.flatMap c.f=_
 rw[xG h]
theorem ak.sub {α:Type}[Inhabited α]{n:Nat}(m:Nat)(c:Cd α)(v:Vector α n)(i:Nat)(h:i+m≤n){o:Nat}(ho:i*c.sz=o):ak ((cA n c).f v) (cA m c) o (vOf m ((v.toList.drop i).take m)) (fun y=>((cA n c).f v).take o++(cA m c).f y++((cA n c).f v).drop (o+m*c.sz)):=by
 subst ho
 have hl:((v.toList.drop i).take m).length=m:=by rw[eH,fT,qu];omega
 refine⟨?_,?_,fun y=>rfl⟩
 ·rw[(cA n c).h]
  show i*c.sz+m*c.sz≤n*c.sz
  rw[←cz];exact dZ _ h
 ·rw[vOf_f c hl]
  show ((v.toList.flatMap c.f).drop (i*c.sz)).take (m*c.sz)=_
  rw[n4 c.f c.h,kE c.f c.h]
section
variable {P:Program} {tb:TypeId→Option TyE} {md:Md} {ev:Operand→D} {hp:Hp} {dst:Option Tmp} {ty2:TypeId} {pos:String} {af:Array Edge} {gd:Option (Nat×Bool)} {x y:Operand} {lo hi:Option Operand} {t t2 e:TypeId} {ti j:TyE} {k k' off o o' z n m:Nat} {l h:Int}
def MH(ev:Operand→D)(b:Option Operand)(EF l:Int):Prop:=
 match b with
 |none=>l=EF
 |some y=>∃k,ev y=dI k l
theorem MH.val {b:Option Operand}{EF l:Int}(h:MH ev b EF l){L:Nat}(hL:l=L){N:Nat}(hN:EF=N){g:Gh}{w:World}{ρ:Operand→Value}(hr:∀y,b=some y→aR hp g w (ev y) (ρ y)):(b.map ρ=none∧L=N)∨∃kd,b.map ρ=some (.int kd (L:Int)):=by
 cases b with
 |none=>exact .inl ⟨rfl,by have:l=EF:=h;omega⟩
 |some y=>
  obtain⟨kd,hy⟩:=h
  have:=hr y rfl
  rw[hy] at this
  exact .inr ⟨kd,by rw[←hL,n6,this.lit]⟩
theorem slA(tok:TOk P tb)(hb:0≤l∧l≤h∧h≤(n:Int)∧l<(n:Int))(ht:tb t=some ti)(he:tb e=some j)(Eu:MH ev lo 0 l)(KW:MH ev hi (n:Int) h)(yR:ti.ty=.arr n e:=by exact rfl)(hx:ev x=.pt k off:=by exact rfl)(hn:Nat.ble n 1000000=true:=by exact rfl):
  m3 P tb md ⟨dst,.slice t x lo hi none,ty2,pos,af,gd⟩ ev hp (.ow k (off+l.toNat*j.size) j.size (h - l).toNat) hp:=by
 refine (Snd.calm (dr:=md.dr) fun dW _=>.pure fun B g w a hr xg=>?_).q (by cases md <;> rfl)
 have h1:=xg x (by simp[Op.operands])
 rw[hx] at h1
 obtain⟨L,rfl⟩:∃L:Nat,l=L:=⟨l.toNat,by omega⟩
 obtain⟨H,rfl⟩:∃H:Nat,h=H:=⟨h.toNat,by omega⟩
 have e1:((H:Int) - L).toNat=H - L:=by omega
 have hn':n≤1000000:=dK hn
 have hbd:=iF (P:=P) (w:=w) false n n (lo.map a.eval) (hi.map a.eval) L H (Eu.val rfl rfl fun y hy=>xg y (by subst hy;simp[Op.operands])) (KW.val rfl rfl fun y hy=>xg y (by subst hy;simp[Op.operands])) (by omega) (by omega)
 have hs:=tok.run_sizeOf he w
 generalize hv:a.eval x=v at h1
 cases h1 with
 |pt _ _ hk=>
  refine⟨.slice (some ⟨g.μ k,off+L*j.size,none⟩) (H - L) (n - L),?_,?_⟩
  ·have gt:¬n=L:=by omega
   have M3:(⟨g.μ k,off,none⟩:Addr).add (L*j.size)=⟨g.μ k,off+L*j.size,none⟩:=by unfold Addr.add;split <;> simp_all
   simp[execOp,Instr.sliceAt,Instr.sureAddr,hv,run_underlying (tok.arr ht yR),hbd,hs,gt,M3]
  ·rw[e1,ct]
   exact .ow _ _ _ _ _ hk (by omega) (by unfold maxLen;omega)
theorem slW(tok:TOk P tb)(hb:0≤l∧l≤h∧h≤(n:Int)∧l<(n:Int))(ht:tb t=some ti)(he:tb e=some j)(Eu:MH ev lo 0 l)(KW:MH ev hi (n:Int) h)(yR:ti.ty=.slice e:=by exact rfl)(hx:ev x=.ow k off z n:=by exact rfl)(hz:z=j.size:=by exact rfl):
  m3 P tb md ⟨dst,.slice t x lo hi none,ty2,pos,af,gd⟩ ev hp (.ow k (off+l.toNat*z) z (h - l).toNat) hp:=by
 subst hz
 refine (Snd.calm (dr:=md.dr) fun dW _=>.pure fun B g w a hr xg=>?_).q (by cases md <;> rfl)
 have h1:=xg x (by simp[Op.operands])
 rw[hx] at h1
 obtain⟨L,rfl⟩:∃L:Nat,l=L:=⟨l.toNat,by omega⟩
 obtain⟨H,rfl⟩:∃H:Nat,h=H:=⟨h.toNat,by omega⟩
 have e1:((H:Int) - L).toNat=H - L:=by omega
 have hs:=tok.run_sizeOf he w
 generalize hv:a.eval x=v at h1
 cases h1 with
 |ow _ _ _ _ c hk p6 o0=>
  have hbd:=iF (P:=P) (w:=w) true n c (lo.map a.eval) (hi.map a.eval) L H (Eu.val rfl rfl fun y hy=>xg y (by subst hy;simp[Op.operands])) (KW.val rfl rfl fun y hy=>xg y (by subst hy;simp[Op.operands])) (by omega) (by omega)
  refine⟨.slice (some ⟨g.μ k,off+L*j.size,none⟩) (H - L) (c - L),?_,?_⟩
  ·have gt:¬c=L:=by omega
   have M3:(⟨g.μ k,off,none⟩:Addr).add (L*j.size)=⟨g.μ k,off+L*j.size,none⟩:=by unfold Addr.add;split <;> simp_all
   simp[execOp,Instr.sliceAt,Instr.slice,hv,run_underlying (tok.slice ht yR),hbd,hs,gt,M3]
  ·rw[e1,ct]
   exact .ow _ _ _ _ _ hk (by omega) (by omega)
theorem sPtr(tok:TOk P tb)(hm:Nat.ble m n=true)(ht:tb t=some ti)(yR:ti.ty=.arr m e:=by exact rfl)(hx:ev x=.ow k off z n:=by exact rfl):
  m3 P tb md ⟨dst,.sliceToArrayPointer t x,ty2,pos,af,gd⟩ ev hp (.pt k off) hp:=by
 refine (Snd.calm (dr:=md.dr) fun dW _=>.pure fun B g w a hr xg=>?_).q (by cases md <;> rfl)
 have h1:=xg x (by simp[Op.operands])
 rw[hx] at h1
 have hm':=dK hm
 generalize hv:a.eval x=v at h1
 cases h1 with
 |ow _ _ _ _ c hk p6 o0=>
  refine⟨.pointer (some ⟨g.μ k,off,none⟩),?_,.pt _ _ hk⟩
  have gt:¬n<m:=by omega
  simp[execOp,Instr.arrayAt,hv,run_underlying (tok.arr ht yR),gt]
theorem AE {dr:Bool}{ty:TypeId}(ht:tb t=some ti)(he:tb e=some j)(hi:ti.ty=.slice e:=by exact rfl)(hx:ev x=.ow k off z n:=by exact rfl):AVC P tb dr (.call ⟨.builtin .len,#[x],#[t]⟩) ty ev hp (Kq (dI .i64 n) hp):=by
 show kF tb .len [t] [ev x] hp _
 rw[A9,KN,ht]
 simp only[hi,he,hx,D.asSl]
 exact Kq.here _ _
theorem T_stVw {dr:Bool}{ty:TypeId}{vs:List (Nat×List D)}{lv:List (Nat×Nat×Nat×TypeId)}{N:Nat}{F:List E}{β γ:Type}{c':Cd β}{b b':β}{F':β→List E}{c:Cd γ}{nw nm:List γ}(L:ak F c' o b F')(ht:tb t=some ti)(MZ:nw=nm)(hF:F' b'=(cW c).f nw:=by exact rfl)(hy:(ev y).cells=some (dC (c'.f b')):=by exact rfl)(hz:c'.sz=ti.size:=by exact rfl)(hx:ev x=.pt k o:=by exact rfl)(hv:vs.lookup k=some (dC F):=by exact rfl):AVC P tb dr (.store t x y) ty ev ⟨vs,lv,N⟩ (Kq .top ⟨(k,dC ((cW c).f nm))::vs,lv,N⟩):=by
 have:=aE (P:=P) (dr:=dr) (ty:=ty) (lv:=lv) (N:=N) L ht hy hz hx hv
 rw[hF,MZ] at this
 exact this
theorem EY(z:Array Value)(s:Nat)(hs:z.size=s):∀n:Nat,(madeCells z (n*s)).toList=(List.replicate n z.toList).flatten
 |0=>by simp[madeCells]
 |n+1=>by
  have ih:=EY z s hs n
  unfold madeCells at ih ⊢
  rw[Array.toList_map,Array.toList_range] at ih ⊢
  rw[cz,kG,List.range_add,iU,ih,List.replicate_succ',List.flatten_append]
  congr 1
  rw[pY,List.flatten_cons,List.flatten_nil,sv]
  apply List.ext_getElem
  ·simp[hs]
  ·intro i h1 h2
   have hi:i<s:=by simpa using h1
   simp only[List.getElem_map,List.getElem_range,Function.comp]
   rw[hs,db,Nat.mul_add_mod,gS hi,cO z i (by omega),Array.getElem_toList]
theorem sMk {α:Type}{c:Cd α}{z0:α}{kl kc:IntKind}{v:Int}{hp':Hp}(tok:TOk P tb)(hb:0≤v∧v≤1000000)(ht:tb t=some ti)(he:tb e=some j)(hz:j.zero.map E.lit=c.f z0)(yR:ti.ty=.slice e:=by exact rfl)(hx:ev x=dI kl v:=by exact rfl)(hy:ev y=dI kc v:=by exact rfl)(hbt:Nat.ble j.bytes 100000000=true:=by exact rfl)(ka:hp.var (dC ((cW c).f (List.replicate v.toNat z0)))=hp':=by exact rfl):
  m3 P tb md ⟨dst,.makeSlice t x y,ty2,pos,af,gd⟩ ev hp (.ow hp.next 0 j.size v.toNat) hp':=by
 subst ka
 refine (Snd.loud (dr:=md.dr) (.step fun B g w a hr xg=>?_) (fun _=>rfl) fun _=>⟨jP _,fun j hj=>au (by omega)⟩).q (by cases md <;> rfl)
 have h1:=xg x (by simp[Op.operands])
 have h2:=xg y (by simp[Op.operands])
 rw[hx] at h1;rw[hy] at h2
 obtain⟨f,zz,M2,Pa,CO,hf3,hf4,_⟩:=tok.inf he
 have hbt':f.bytes≤100000000:=by rw[CO];exact dK hbt
 obtain⟨m,rfl⟩:∃m:Nat,v=m:=⟨v.toNat,by omega⟩
 have hm:m≤1000000:=by omega
 have KT:f.bytes*m≤281474976710656:=dP (uJ hbt' hm) (by decide)
 have cu:=run_make (P:=P) w t e f zz (tok.slice ht yR) M2 hf3 kl kc m m (by omega) (by omega) (by rw[←jZ];exact Int.ofNat_le.2 KT) (by omega)
 rw[ct] at cu
 have hsz:zz.cells.size=f.size:=by
  have h4:=(tok e j he).2.2.1
  rw[←iV,hf4,h4,Pa]
 have hlist:=EY zz.cells f.size hsz m
 have hcont:(cW c).f (List.replicate m z0)=(madeCells zz.cells (m*f.size)).toList.map E.lit:=by
  rw[hlist,hf4,List.map_flatten,List.map_replicate,hz]
  show (List.replicate m z0).flatMap c.f=_
  rw[List.flatMap_def,List.map_replicate]
 have h1c:∀u∈(madeCells zz.cells (m*f.size)).toList,u.oneCell'=true:=by
  intro u hu
  rw[hlist,hf4] at hu
  obtain⟨l,hl,KS⟩:=List.mem_flatten.1 hu
  obtain rfl:=(List.mem_replicate.1 hl).2
  exact dc.1 (tok e j he).2.2.2 u KS
 refine⟨.slice (some ⟨w.heap.size,0,none⟩) m m,_,w.alloc (.cells (madeCells zz.cells (m*f.size)) e),?_,hr.newVar _ _ e ?_ (fun i u hu=>?_),dm.var hp g w _ _,?_,(Below.refl _ _).alloc hr.base _,fun p _ h=>.inl h⟩
 ·have e1:=h1.lit
  have e2:=h2.lit
  simp only[execOp,e1,e2,Sem.run_bind,cu,Result.andThen_ok]
  rfl
 ·rw[ct,hcont,eT,bw,iV];exact aB _
 ·have uE:(madeCells zz.cells (m*f.size)).toList[i]? =some u:=by simpa using hu
  refine⟨fun _=>h1c u (er uE),fun d hd=>?_⟩
  rw[ct,hcont] at hd
  unfold dC at hd
  rw[ep,ep,uE] at hd
  injection hd with hd
  subst hd
  exact .e _ _ (.lit u (h1c u (er uE)))
 ·rw[ct]
  have:=aR.ow (hp:=hp.var (dC ((cW c).f (List.replicate ((m:Int).toNat) z0)))) (g:=g.var hp.next w.heap.size) (w:=w.alloc (.cells (madeCells zz.cells (m*f.size)) e)) hp.next 0 j.size m m (e9 _) (aB _) (by unfold maxLen;omega)
  rwa[show (g.var hp.next w.heap.size).μ hp.next=w.heap.size from if_pos rfl] at this
theorem LK(w:World)(t t2 ty e:TypeId)(i:TypeInfo)(hu:P.underlying t=some (.slice e))(hi:P.info? e=some i)(b o n c:Nat)(A:Option Addr)(m c':Nat)(cur:Array Value)(tt:TypeId)(cs:List Value)(hA:0<m→∃ad,A=some ad)(hl:cs.length=min m n*i.size)
  (OC:∀ad,A=some ad→∀j v,cs[j]? =some v→w.cell? (ad.add j)=some v) (hg:w.heap[b]? =some (.cells cur tt (0,0))) (Ey:o+cs.length≤cur.size) (h1:∀v∈cs,v.oneCell'=true):
  (Builtin.copy_ #[t,t2] ty #[.slice (some ⟨b,o,none⟩) n c,.slice A m c']).run P w=   .ok (goInt ((min m n:Nat):Int)) (w.setRow b (cur.toList.take o++cs++cur.toList.drop (o+cs.length)).toArray):=by
 have JC:=run_storeCells_at P b o tt cs 0 cur w hg (by simpa using Ey) h1
 have e0:Nat.min m n=min m n:=rfl
 cases A with
 |none=>
  have hm:m=0:=by
   rcases rF m with h|h
   ·exact h
   ·obtain⟨_,h⟩:=hA h;cases h
  subst hm
  have:cs=[]:=rX (by rw[hl];simp)
  subst this
  simp at JC
  simp[Builtin.copy_,run_underlying hu,Builtin.lenOf,Builtin.firstCells,sizeOf,typeInfo,hi,JC]
 |some a=>
  have Gp:=run_loadCells_list (P:=P) w a cs (OC a rfl)
  rw[hl] at Gp
  simp[Builtin.copy_,run_underlying hu,Builtin.lenOf,Builtin.firstCells,sizeOf,typeInfo,hi,e0,Gp,JC]
def v9(hp:Hp)(d:D)(z m:Nat)(xs:List E):Prop:=xs.length=m*z∧∀(B:Nat) (g:Gh) (w:World) (v:Value),HR B hp g w→aR hp g w d v→
 ∃A c us,v=.slice A m c∧(0<m→∃ad,A=some ad)∧(∀ad,A=some ad→∀j u,us[j]? =some u→w.cell? (ad.add j)=some u)∧Pw (d6 w g.F) xs us
theorem v9.own {vs:List (Nat×List D)}{lv:List (Nat×Nat×Nat×TypeId)}{N:Nat}{F:List E}{xs:List E}(hv:vs.lookup k=some (dC F))(hle:off+m*z≤F.length)(hF:(F.drop off).take (m*z)=xs):v9 ⟨vs,lv,N⟩ (.ow k off z m) z m xs:=by
 subst hF
 refine⟨by rw[eH,fT];omega,fun B g w v hr hd=>?_⟩
 cases hd with
 |ow _ _ _ _ c hk p6 o0=>
  obtain⟨h1,h2,h3,cs,ty,h4,h5,h6⟩:=hr.var k _ hv
  rw[eT] at h5
  refine⟨_,c,(cs.toList.drop off).take (m*z),rfl,fun _=>⟨_,rfl⟩,fun ad ha j u hu=>?_,?_,fun j x u hx hu=>?_⟩
  ·injection ha with ha
   subst ha
   rw[ie] at hu
   split at hu
   ·rw[oQ,IJ] at hu
    have M3:(⟨g.μ k,off,none⟩:Addr).add j=⟨g.μ k,off+j,none⟩:=by unfold Addr.add;split <;> simp_all
    rw[M3]
    simpa[World.cell?,h4] using hu
   ·cases hu
  ·simp only[eH,fT,iV];omega
  ·rw[ie] at hx hu
   split at hx
   ·rename_i hj
    rw[if_pos hj,oQ,IJ] at hu
    rw[oQ] at hx
    have:=(h6 (off+j) u hu).2 (.e x) (by unfold dC;rw[ep,hx];rfl)
    cases this
    assumption
   ·cases hx
theorem v9.dat {hp:Hp}{d:D}{z m:Nat}{xs:List E}(h:d.asSl z=some (m,xs))(hl:xs.length=m*z):v9 hp d z m xs:=by
 refine⟨hl,fun B g w v hr hd=>?_⟩
 obtain⟨A,c,rfl,dx⟩:=rx hd h
 obtain⟨_,_,_,_,hA,us,KS,hc,hp⟩:=dx.reads
 exact⟨A,c,us,rfl,fun hm=>(hA hm).imp fun ad h=>h.1,fun ad ha j u hu=>(hc ad ha j u hu).1,hp⟩
theorem d6.oneL {w:World}{F:Addr→Prop}{xs:List E}{us:List Value}(h:Pw (d6 w F) xs us):∀u∈us,u.oneCell'=true:=by
 intro u hu
 obtain⟨i,hi⟩:=List.mem_iff_getElem?.1 hu
 have:i<xs.length:=by rw[h.1];exact (fZ.1 hi).1
 exact (h.2 i xs[i] u (de this) hi).one
theorem sCp {vs:List (Nat×List D)}{lv:List (Nat×Nat×Nat×TypeId)}{N:Nat}{F xs:List E}(tok:TOk P tb)(ht:tb t=some ti)(he:tb e=some j)(hs:v9 ⟨vs,lv,N⟩ (ev y) z m xs)(hv:vs.lookup k=some (dC F))(Ey:off+n*z≤F.length)(yR:ti.ty=.slice e:=by exact rfl)(hx:ev x=.ow k off z n:=by exact rfl)(hz:z=j.size:=by exact rfl):
  m3 P tb md ⟨dst,.call ⟨.builtin .copy,#[x,y],#[t,t2]⟩,ty2,pos,af,gd⟩ ev ⟨vs,lv,N⟩ (dI .i64 (min m n:Nat)) ⟨(k,dC (F.take off++xs.take (min m n*z)++F.drop (off+min m n*z)))::vs,lv,N⟩:=by
 subst hz
 refine (Snd.loud (dr:=md.dr) (.step fun B g w a hr xg=>?_) (fun _=>rfl) fun h=>by simp[wK,cpB] at h).q (by cases md <;> rfl)
 have h1:=xg x (dv (by simp))
 have h2:=xg y (dv (by simp))
 rw[hx] at h1
 obtain⟨AV,hs⟩:=hs
 obtain⟨A,c',us,hy,hA,OC,wO⟩:=hs B g w _ hr h2
 obtain⟨q1,q2,q3,cs,ty,q4,q5,q6⟩:=hr.var k _ hv
 rw[eT] at q5
 obtain⟨f,zz,M2,Pa,_⟩:=tok.inf he
 have O2:min m n*j.size≤n*j.size:=dZ _ (Nat.min_le_right _ _)
 have hmin2:min m n*j.size≤m*j.size:=dZ _ (Nat.min_le_left _ _)
 have KS:us.length=m*j.size:=by rw[←wO.1,AV]
 have htl:(us.take (min m n*j.size)).length=min m n*j.size:=by rw[eH];omega
 have hxt:(xs.take (min m n*j.size)).length=min m n*j.size:=by rw[eH];omega
 generalize hv1:a.eval x=v1 at h1
 cases h1 with
 |ow _ _ _ _ c hk p6 o0=>
  have hone:∀u∈us.take (min m n*j.size),u.oneCell'=true:=fun u hu=>d6.oneL wO u (List.mem_of_mem_take hu)
  have cu:=LK (P:=P) w t t2 ty2 e f (tok.slice ht yR) M2 (g.μ k) off n c A m c' cs ty (us.take (min m n*j.size)) hA (by rw[htl,Pa]) (fun ad ha i v hi=>OC ad ha i v (by
   rw[ie] at hi
   split at hi
   ·exact hi
   ·cases hi)) q4 (by omega) hone
  have O7:=setRow_heap w (g.μ k) cs (cs.toList.take off++us.take (min m n*j.size)++cs.toList.drop (off+(us.take (min m n*j.size)).length)).toArray ty (0,0) q4
  have Pc:fk ⟨vs,lv,N⟩ g w (dC F) (cs.toList.take F.length):=⟨⟨by simp only[eT,eH,iV];omega,fun i d u hd hu=>(q6 i u (by
   rw[ie] at hu
   split at hu
   ·simpa using hu
   ·cases hu)).2 d hd⟩,fun u hu=>by
   obtain⟨i,hi⟩:=List.mem_iff_getElem?.1 hu
   rw[ie] at hi
   split at hi
   ·rename_i b8
    exact (q6 i u (by simpa using hi)).1 (by rw[eT];exact b8)
   ·cases hi⟩
  have hmid:fk ⟨vs,lv,N⟩ g w (dC (xs.take (min m n*j.size))) (us.take (min m n*j.size)):=by
   refine⟨⟨by rw[eT,hxt,htl],fun i d u hd hu=>?_⟩,hone⟩
   unfold dC at hd
   rw[ep] at hd
   cases hx':(xs.take (min m n*j.size))[i]? with
   |none=>rw[hx'] at hd;cases hd
   |some x'=>
    rw[hx'] at hd
    injection hd with hd
    subst hd
    exact .e _ _ ((wO.take _).2 i x' u hx' hu)
  have Bt:fk ⟨vs,lv,N⟩ g w (dC (F.take off++xs.take (min m n*j.size)++F.drop (off+min m n*j.size))) ((cs.toList.take off++us.take (min m n*j.size)++cs.toList.drop (off+(us.take (min m n*j.size)).length)).take F.length):=by
   have:=((Pc.take off).append hmid).append (Pc.drop (off+min m n*j.size))
   rw[htl]
   have e1:(cs.toList.take off++us.take (min m n*j.size)++cs.toList.drop (off+min m n*j.size)).take F.length=((cs.toList.take F.length).take off++us.take (min m n*j.size))++(cs.toList.take F.length).drop (off+min m n*j.size):=by
    have hlA:(cs.toList.take off++us.take (min m n*j.size)).length=off+min m n*j.size:=by rw[c8,htl,eH,iV];omega
    rw[List.take_append,hlA,iP (by rw[hlA];omega),List.drop_take,List.take_take,su (show off≤F.length by omega)]
   rw[e1]
   unfold dC at this ⊢
   simpa only[iU,ze,Bc] using this
  have IY:(F.take off++xs.take (min m n*j.size)++F.drop (off+min m n*j.size)).length=F.length:=by
   simp only[c8,eH,fT];omega
  have HY:=SzB.row (new:=(cs.toList.take off++us.take (min m n*j.size)++cs.toList.drop (off+(us.take (min m n*j.size)).length)).toArray) q4 (by simp only[rE,c8,eH,fT,iV];omega)
  refine⟨goInt ((min m n:Nat):Int),g,_,?_,hr.setVar hv _ _ ty (by simp[World.setRow]) (fun b hb=>setRow_other w _ b _ hb) O7 (by rw[eT,IY];simp only[rE,c8,eH,fT,iV];omega) HY (fun i u hu=>?_),dm.setVar hr hv _ (by simp[World.setRow]) (fun b hb=>setRow_other w _ b _ hb) HY,.e _ _ (.lit _ rfl),xo w q2 _,fun _ _ h=>h⟩
  ·simp only[execOp,Array.map_map,List.map_toArray,cP,dA,resolve,invoke,builtin,hv1,hy,Sem.run_bind]
   simp[resolve,invoke,builtin,hv1,hy,cu]
  ·have uE:(cs.toList.take off++us.take (min m n*j.size)++cs.toList.drop (off+(us.take (min m n*j.size)).length))[i]? =some u:=by simpa using hu
   have hw:i<F.length→((cs.toList.take off++us.take (min m n*j.size)++cs.toList.drop (off+(us.take (min m n*j.size)).length)).take F.length)[i]? =some u:=fun hi=>by
    rw[ie,if_pos hi];exact uE
   exact⟨fun hi=>Bt.2 u (er (hw (by rw[eT,IY] at hi;exact hi))),fun d hd=>Bt.1.2 i d u hd (hw (by rw[←IY,←eT];exact (fZ.1 hd).1))⟩
def lCp {α:Type}(l:List α)(o:Nat)(s:List α):List α:=l.take o++s++l.drop (o+s.length)
theorem lCp_len {α:Type}{l s:List α}{o:Nat}(h:o+s.length≤l.length):(lCp l o s).length=l.length:=by
 unfold lCp;simp only[c8,eH,fT];omega
theorem HS {α:Type}(c:Cd α)(l s:List α)(o:Nat):(lCp l o s).flatMap c.f=(l.flatMap c.f).take (o*c.sz)++s.flatMap c.f++(l.flatMap c.f).drop (o*c.sz+s.length*c.sz):=by
 unfold lCp
 rw[List.flatMap_append,List.flatMap_append,kE c.f c.h,←cz,n4 c.f c.h]
section
variable {α:Type} [Inhabited α] {c:Cd α} {vs:List (Nat×List D)} {lv:List (Nat×Nat×Nat×TypeId)} {N N0:Nat}
theorem v9.arr {v:Vector α N0}(hv:vs.lookup k=some (dC ((cA N0 c).f v)))(o:Nat)(hm:o+m≤N0)(ho:off=o*c.sz:=by exact rfl)(hz:z=c.sz:=by exact rfl):v9 ⟨vs,lv,N⟩ (.ow k off z m) z m (((v.toList.drop o).take m).flatMap c.f):=by
 subst ho hz
 refine v9.own hv ?_ ?_
 ·rw[(cA N0 c).h]
  show o*c.sz+m*c.sz≤N0*c.sz
  rw[←cz];exact dZ _ hm
 ·show ((v.toList.flatMap c.f).drop (o*c.sz)).take (m*c.sz)=_
  rw[n4 c.f c.h,kE c.f c.h]
theorem v9.lst {l:List α}(hv:vs.lookup k=some (dC ((cW c).f l)))(o:Nat)(hm:o+m≤l.length)(ho:off=o*c.sz:=by exact rfl)(hz:z=c.sz:=by exact rfl):v9 ⟨vs,lv,N⟩ (.ow k off z m) z m (((l.drop o).take m).flatMap c.f):=by
 subst ho hz
 refine v9.own hv ?_ ?_
 ·show _≤(l.flatMap c.f).length
  rw[iB c.f c.h,←cz];exact dZ _ hm
 ·show ((l.flatMap c.f).drop (o*c.sz)).take (m*c.sz)=_
  rw[n4 c.f c.h,kE c.f c.h]
theorem sCpA {v:Vector α N0}{s:List α}{r:List (Nat×List D)}(tok:TOk P tb)(ht:tb t=some ti)(he:tb e=some j)(hs:v9 ⟨vs,lv,N⟩ (ev y) z m (s.flatMap c.f))(DX:s.length=m)(hv:vs.lookup k=some (dC ((cA N0 c).f v)))(o:Nat)(Ey:o+n≤N0)(hr:(k,dC ((cA N0 c).f (vOf N0 (lCp v.toList o (s.take n)))))::vs=r)(ho:off=o*c.sz:=by exact rfl)(E2:z=c.sz:=by exact rfl)(yR:ti.ty=.slice e:=by exact rfl)(hx:ev x=.ow k off z n:=by exact rfl)(hz:z=j.size:=by exact rfl):
  m3 P tb md ⟨dst,.call ⟨.builtin .copy,#[x,y],#[t,t2]⟩,ty2,pos,af,gd⟩ ev ⟨vs,lv,N⟩ (dI .i64 (min m n:Nat)) ⟨r,lv,N⟩:=by
 subst ho E2 hr
 have:=sCp (P:=P) (md:=md) (dst:=dst) (ty2:=ty2) (pos:=pos) (af:=af) (gd:=gd) (t2:=t2) (lv:=lv) tok ht he hs hv (by
  rw[(cA N0 c).h]
  show _≤N0*c.sz
  rw[←cz];exact dZ _ Ey) yR hx hz
 have e1:(s.take n).length=min m n:=by rw[eH,DX,Nat.min_comm]
 have e2:(cA N0 c).f (vOf N0 (lCp v.toList o (s.take n)))=((cA N0 c).f v).take (o*c.sz)++(s.flatMap c.f).take (min m n*c.sz)++((cA N0 c).f v).drop (o*c.sz+min m n*c.sz):=by
  rw[vOf_f c (by rw[lCp_len (by rw[e1,qu];have:=Nat.min_le_right m n;omega),qu]),HS,e1]
  have e3:(s.flatMap c.f).take (min m n*c.sz)=(s.take n).flatMap c.f:=by
   rw[kE c.f c.h]
   congr 1
   rcases Nat.le_total m n with h|h
   ·rw[su h,iP (by omega),iP (by omega)]
   ·rw[Nat.min_eq_right h]
  rw[e3];rfl
 rw[e2];exact this
theorem sCpW {l s:List α}{r:List (Nat×List D)}(tok:TOk P tb)(ht:tb t=some ti)(he:tb e=some j)(hs:v9 ⟨vs,lv,N⟩ (ev y) z m (s.flatMap c.f))(DX:s.length=m)(hv:vs.lookup k=some (dC ((cW c).f l)))(o:Nat)(Ey:o+n≤l.length)(hr:(k,dC ((cW c).f (lCp l o (s.take n))))::vs=r)(ho:off=o*c.sz:=by exact rfl)(E2:z=c.sz:=by exact rfl)(yR:ti.ty=.slice e:=by exact rfl)(hx:ev x=.ow k off z n:=by exact rfl)(hz:z=j.size:=by exact rfl):
  m3 P tb md ⟨dst,.call ⟨.builtin .copy,#[x,y],#[t,t2]⟩,ty2,pos,af,gd⟩ ev ⟨vs,lv,N⟩ (dI .i64 (min m n:Nat)) ⟨r,lv,N⟩:=by
 subst ho E2 hr
 have:=sCp (P:=P) (md:=md) (dst:=dst) (ty2:=ty2) (pos:=pos) (af:=af) (gd:=gd) (t2:=t2) (lv:=lv) tok ht he hs hv (by
  show _≤(l.flatMap c.f).length
  rw[iB c.f c.h,←cz];exact dZ _ Ey) yR hx hz
 have e1:(s.take n).length=min m n:=by rw[eH,DX,Nat.min_comm]
 have e2:(cW c).f (lCp l o (s.take n))=((cW c).f l).take (o*c.sz)++(s.flatMap c.f).take (min m n*c.sz)++((cW c).f l).drop (o*c.sz+min m n*c.sz):=by
  show (lCp l o (s.take n)).flatMap c.f=_
  rw[HS,e1]
  have e3:(s.flatMap c.f).take (min m n*c.sz)=(s.take n).flatMap c.f:=by
   rw[kE c.f c.h]
   congr 1
   rcases Nat.le_total m n with h|h
   ·rw[su h,iP (by omega),iP (by omega)]
   ·rw[Nat.min_eq_right h]
  rw[e3];rfl
 rw[e2];exact this
end
theorem WkS.free {tm:List (Nat×D)}{vs:List (Nat×List D)}{lv:List (Nat×Nat×Nat×TypeId)}{N k:Nat}{ds:List D}(hv:vs.lookup k=some ds):∀(B:Nat) (g:Gh) (w:World) (ρ:Nat→Value),HR B ⟨vs,lv,N⟩ g w→(∀t d,tm.lookup t=some d→aR ⟨vs,lv,N⟩ g w d (ρ t))→
  ∃g':Gh,g'=⟨g.μ,g.τ,fun p=>g.F p∧p.block≠g.μ k⟩∧HR B ⟨vs.filter fun p=>!([k]:List Nat).contains p.1,lv,N⟩ g' w∧dm ⟨vs,lv,N⟩ g w ⟨vs.filter fun p=>!([k]:List Nat).contains p.1,lv,N⟩ g' w∧(∀t d,tm.lookup t=some d→aR ⟨vs.filter fun p=>!([k]:List Nat).contains p.1,lv,N⟩ g' w d (ρ t))∧∀p:Addr,p.block<B→g.F p→g'.F p:=by
 intro B g w ρ hr nX
 obtain⟨h1,h2,h3,cs,ty,h4,h5,h6⟩:=hr.var k _ hv
 have look:∀{j:Nat} {ds:List D},(vs.filter fun p=>!([k]:List Nat).contains p.1).lookup j=some ds→j≠k∧vs.lookup j=some ds:=by
  intro j ds h
  obtain⟨a,b⟩:=js h
  exact⟨by simpa using a,b⟩
 have gt:∀{j:Nat} {ds:List D},j≠k→vs.lookup j=some ds→g.μ j≠g.μ k:=fun hj hl e=>hj (hr.inj _ _ _ _ hl hv e)
 have mo:dm ⟨vs,lv,N⟩ g w ⟨vs.filter fun p=>!([k]:List Nat).contains p.1,lv,N⟩ ⟨g.μ,g.τ,fun p=>g.F p∧p.block≠g.μ k⟩ w:=by
  refine⟨aB _,fun _ _ _=>rfl,fun _ _ h=>h.1,aB _,fun _ _=>rfl,fun _ _ m _ h=>⟨m,h,aB _,fun _=>rfl⟩,fun b hb hf=>⟨rfl,fun p hp hq=>⟨hq,?_⟩,fun j ds hj=>hf.1 j ds (look hj).2,hf.2⟩,fun _=>.same fun _=>rfl⟩
  rw[hp];exact fun e=>hf.1 k _ hv e.symm
 refine⟨_,rfl,⟨fun j ds hj=>?_,fun j j' ds ds' hj Gr he=>hr.inj j j' ds ds' (look hj).2 (look Gr).2 he,fun id m e hi=>?_,hr.tinj,hr.base,fun p hp=>hr.fits p hp.1⟩,mo,fun t' d hd=>(nX t' d hd).mono mo,fun p hp hq=>⟨hq,?_⟩⟩
 ·obtain⟨a1,a2⟩:=look hj
  obtain⟨b1,b2,b3,vI,IX,b4,b5,b6⟩:=hr.var j ds a2
  exact⟨b1,b2,fun p hp=>⟨b3 p hp,by rw[hp];exact gt a1 a2⟩,vI,IX,b4,b5,fun i u hu=>⟨(b6 i u hu).1,fun d hd=>((b6 i u hu).2 d hd).mono mo⟩⟩
 ·obtain⟨b1,us,b2,b3,b4⟩:=hr.tok id m e hi
  exact⟨b1,us,b2,b3,fun b hb=>⟨fun p hp hq=>⟨(b4 b hb).1 p hp hq,by rw[hp];exact fun e=>(b4 b hb).2 k _ hv e.symm⟩,fun j ds hj=>(b4 b hb).2 j ds (look hj).2⟩⟩
 ·intro e
  omega
theorem CA {tm:List (Nat×D)}{d0:D}:∀{ts:List Nat} {t:Nat} {d:D},(ts.map (fun t=>(t,d0))++tm).lookup t=some d→(t∈ts∧d=d0)∨tm.lookup t=some d
 |[],t,d,h=>.inr h
 |s::ts,t,d,h=>by
  by_cases JC:t=s
  ·subst JC
   have:some d0=some d:=by rw[←h];exact ab.symm
   injection this with this
   exact .inl ⟨qw ..,this.symm⟩
  ·rcases CA (ts:=ts) (t:=t) (d:=d) (by rw[←h];exact (au JC).symm) with⟨h1,h2⟩|h1
   ·exact .inl ⟨o3 _ h1,h2⟩
   ·exact .inr h1
theorem WkS.frzs {tm:List (Nat×D)}{vs:List (Nat×List D)}{lv:List (Nat×Nat×Nat×TypeId)}{N k z n:Nat}{F:List E}(ts:List Nat)(hz:0<z)(ht:∀t∈ts,tm.lookup t=some (.ow k 0 z n))(hv:vs.lookup k=some (dC F))(hF:F.length=n*z):
  WkS tm ⟨vs,lv,N⟩ (ts.map (fun t=>(t,.e (.sl z n F)))++tm) ⟨vs.filter fun p=>!([k]:List Nat).contains p.1,lv,N⟩:=by
 intro B g w ρ hr nX
 have one:∀t∈ts,∃g',(g':Gh)=⟨g.μ,g.τ,fun p=>g.F p∧p.block≠g.μ k⟩∧aR ⟨vs.filter fun p=>!([k]:List Nat).contains p.1,lv,N⟩ g' w (.e (.sl z n F)) (ρ t):=by
  intro t OB
  refine⟨_,rfl,?_⟩
  obtain⟨h1,h2,h3,cs,ty,h4,h5,h6⟩:=hr.var k _ hv
  have dx:=nX t _ (ht t OB)
  generalize ρ t=u at dx
  cases dx with
  |ow _ _ _ _ c hk p6 o0=>
   have qE:F.length≤cs.size:=by rw[eT] at h5;exact h5
   refine .e _ _ (.sl z n F (some ⟨g.μ k,0,none⟩) c (fun i=>cs.getD i undef) hF hz p6 o0 (fun _=>⟨_,rfl,(oR.1 h4).1⟩) (fun ad ha i e hi=>?_) (fun i e hi=>?_))
   ·injection ha with ha
    subst ha
    have b8:i<cs.size:=eD (fZ.1 hi).1 qE
    refine⟨?_,fun hf=>hf.2 (by rw[gv])⟩
    have e0:w.cell? (({block:=g.μ k,off:=0,spot:=none}:Addr).add i)=cs[0+i]? :=by
     by_cases h0:i=0
     ·subst h0;simp[World.cell?,Addr.add,h4]
     ·simp[World.cell?,Addr.add,h4,h0]
    rw[e0,bJ]
    simp[iO,b8]
   ·have b8:i<cs.size:=eD (fZ.1 hi).1 qE
    have hu:=h6 i (cs.getD i undef) (by simp[iO,b8])
    have:=hu.2 (.e e) (by unfold dC;rw[ep,hi];rfl)
    cases this with
    |e _ _ h7=>exact d6.less h7 fun p hp=>hp.1
 obtain⟨g',hg',q1,q2,q3,q4⟩:=WkS.free (lv:=lv) (N:=N) (tm:=tm) (k:=k) hv B g w ρ hr nX
 subst hg'
 refine⟨_,q1,q2,fun t d hd=>?_,q4⟩
 rcases CA hd with⟨h1,rfl⟩|h1
 ·obtain⟨g',hg',h2⟩:=one t h1
  subst hg'
  exact h2
 ·exact q3 t d h1
theorem WkS.frzG {α:Type}(c:Cd α){l:List α}{tm:List (Nat×D)}{vs:List (Nat×List D)}{lv:List (Nat×Nat×Nat×TypeId)}{N k n:Nat}(ts:List Nat)(hn:n=l.length)(ht:∀t∈ts,tm.lookup t=some (.ow k 0 c.sz n))(hv:vs.lookup k=some (dC ((cW c).f l)))(hz:Nat.ble 1 c.sz=true:=by exact rfl):
  WkS tm ⟨vs,lv,N⟩ (ts.map (fun t=>(t,.e (slE c l)))++tm) ⟨vs.filter fun p=>!([k]:List Nat).contains p.1,lv,N⟩:=by
 subst hn
 exact WkS.frzs ts (dK hz) ht hv (iB c.f c.h l)
end
end
section
section
variable {P:Program} {tb:TypeId→Option TyE} {dr:Bool} {ev:Operand→D} {hp:Hp} {ty:TypeId} {α:Type}
theorem Lj {t e:TypeId}{i j:TyE}{n:Nat}{ps:List (Nat×Operand)}(l:List α)(c:Cd α)(ht:tb t=some i)(he:tb e=some j)(hi:i.ty=.slice e:=by exact rfl)(hz:c.sz=j.size:=by exact rfl)(Jx:Nat.ble (0+1) (j.size)=true:=by exact rfl)(IY:l.length=n+1:=by exact rfl)(hn:Nat.ble ((n+1)*j.size) (16777216)=true:=by exact rfl)(ka:l5 (ps.map fun p=>(p.1,ev p.2))=some ((l.zipIdx 0).map fun p=>(p.2,dC (c.f p.1))):=by exact rfl)(hd:dr=true:=by exact rfl):
  AVC P tb dr (.buildSlice t (n+1) ps.toArray) ty ev hp (Kq (dF c l) hp):=by
 have hf:=wu c hz l 0 [] (List.replicate ((n+1)*j.size) (D.e .any)) (by simp) (by rw[xq,IY])
 rw[mL,mL] at hf
 have:=DE (P:=P) (dr:=dr) (ty:=ty) (ev:=ev) (hp:=hp) ht he hi Jx hn ka hf (At _) hd
 show AVC _ _ _ _ _ _ _ (Kq (.fu c.sz l.length (l.flatMap c.f)) _)
 rw[hz,IY]
 exact this
theorem wD {t e:TypeId}{n:Nat}{i j:TyE}{ps:List (Nat×Operand)}(l:List α)(c:Cd α)(v:Vector α n)(ht:tb t=some i)(he:tb e=some j)(hv:v.toList=l:=by exact rfl)(hi:i.ty=.arr n e:=by exact rfl)(hz:c.sz=j.size:=by exact rfl)(hz0:Nat.beq i.zero.length (n*j.size)=true:=by exact rfl)(ka:l5 (ps.map fun p=>(p.1,ev p.2))=some ((l.zipIdx 0).map fun p=>(p.2,dC (c.f p.1))):=by exact rfl):
  AVC P tb dr (.build t ps.toArray) ty ev hp (Kq (dG (cA n c) v) hp):=by
 have hf:=wu c hz l 0 [] (i.zero.map fun v=>D.e (.lit v)) (by simp) (by rw[bw,Bb hz0,←hv,qu])
 rw[mL,mL] at hf
 have:=lP (P:=P) (dr:=dr) (ty:=ty) (ev:=ev) (hp:=hp) ht he hi ka hf
 show AVC _ _ _ _ _ _ _ (Kq (.ag (dC (v.toList.flatMap c.f))) _)
 rw[hv]
 exact this
end
end
section
def Way(ops:Array Oper):List Nat→Array Bool→Prop
 |[],s=>Region.ready .any ops s=[]
 |i::l,s=>i∈Region.ready .any ops s∧Way ops l (s.setIfInBounds i true)
def Bfr(a b:Nat):List Nat→Array Bool→Prop
 |[],_=>True
 |i::l,s=>(i=b→s.getD a false=true)∧Bfr a b l (s.setIfInBounds i true)
theorem mv {ops:Array Oper}{s:Array Bool}{i:Nat}:i∈Region.ready .any ops s↔i<ops.size∧s.getD i true=false∧∃o,ops[i]? =some o∧∀e∈o.after,Region.binds .any e=true→s.getD e.on false=true:=by
 unfold Region.ready
 rw[List.mem_filter,sr]
 refine and_congr_right fun h=>?_
 rw[bp,v3]
 refine and_congr_right fun _=>?_
 cases ho:ops[i]? with
 |none=>simp
 |some o=>
  simp only[n6,vQ,Array.all_eq_true',Bool.or_eq_true,v3,n5,exists_eq_left']
  refine forall_congr' fun e=>forall_congr' fun _=>?_
  cases Region.binds .any e <;> simp
theorem PF {s:Array Bool}{i j:Nat}(h:s.getD j false=true):(s.setIfInBounds i true).getD j false=true:=by
 simp only[iO] at h ⊢
 rw[GN]
 split
 ·rename_i e
  subst e
  split
  ·rfl
  ·rename_i hs
   rw[Array.getElem?_eq_none (by omega)] at h
   simp at h
 ·exact h
theorem Fa {s:Array Bool}{i:Nat}(h:i<s.size):(s.setIfInBounds i true).getD i false=true:=by
 simp[iO,GN,h]
theorem Bfr.of {a b:Nat}:∀(l:List Nat) (s:Array Bool),s.getD a false=true→Bfr a b l s
 |[],_,_=>trivial
 |_::l,_,h=>⟨fun _=>h,Bfr.of l _ (PF h)⟩
theorem Qj {ops:Array Oper}{a b:Nat}(M4:a≠b):∀(l:List Nat) (s:Array Bool),s.size=ops.size→Way ops l s→Bfr a b l s∨Bfr b a l s
 |[],_,_,_=>.inl trivial
 |i::l,s,hs,⟨h1,h2⟩=>by
  have hi:=(mv.1 h1).1
  by_cases ha:i=a
  ·subst ha
   exact .inl ⟨fun h=>absurd h M4,Bfr.of l _ (Fa (by omega))⟩
  ·by_cases hb:i=b
   ·subst hb
    exact .inr ⟨fun h=>absurd h.symm M4,Bfr.of l _ (Fa (by omega))⟩
   ·rcases Qj M4 l (s.setIfInBounds i true) (by simpa using hs) h2 with h|h
    ·exact .inl ⟨fun h=>absurd h hb,h⟩
    ·exact .inr ⟨fun h=>absurd h ha,h⟩
theorem Nf {ops:Array Oper}:∀(fuel t:Nat) (s:Array Bool),s.size=ops.size→unl s ops.size≤fuel→Way ops (Region.linearise.go .any ops fuel t s []) s
 |0,t,s,hs,hu=>by
  show Region.ready .any ops s=[]
  rw[List.eq_nil_iff_forall_not_mem]
  intro i hi
  obtain⟨h1,h2,_⟩:=mv.1 hi
  have:i∈(List.range ops.size).filter fun j=>!s.getD j false:=by
   rw[List.mem_filter,sr]
   refine⟨h1,?_⟩
   have b8:i<s.size:=by omega
   have e1:s[i]?.getD true=false:=by rw[←iO];exact h2
   rw[iO]
   rw[ss b8] at e1 ⊢
   simp at e1 ⊢
   exact e1
  have hlen:=List.length_pos_of_mem this
  unfold unl at hu
  omega
 |fuel+1,t,s,hs,hu=>by
  simp only[Region.linearise.go]
  change Way ops (match (Region.ready .any ops s)[t % (Region.ready .any ops s).length]? with
   |some i=>Region.linearise.go .any ops fuel (t / (Region.ready .any ops s).length) (s.setIfInBounds i true) [i]
   |none=>[].reverse) s
  cases hi:(Region.ready .any ops s)[t % (Region.ready .any ops s).length]? with
  |none=>
   show Region.ready .any ops s=[]
   cases hr:Region.ready .any ops s with
   |nil=>rfl
   |cons x xs=>
    rw[hr] at hi
    have b8:t % (x::xs).length<(x::xs).length:=eO _ (by simp)
    rw[de b8] at hi
    cases hi
  |some i=>
   simp only[]
   rw[linearise_go_acc,List.reverse_singleton,List.singleton_append]
   have hm:=er hi
   obtain⟨h1,h2,_⟩:=mv.1 hm
   have b8:i<s.size:=by omega
   have hf:s.getD i false=false:=by
    have e1:s[i]?.getD true=false:=by rw[←iO];exact h2
    rw[iO]
    rw[ss b8] at e1 ⊢
    simpa using e1
   exact⟨hm,Nf fuel _ _ (by simpa using hs) (by have:=FC (n:=ops.size) h1 b8 hf;omega)⟩
theorem EK {P:Program}{ops:Array Oper}{Q:Exit→Act→World→Prop}:∀(l:List Nat) (fuel:Nat) (s:Array Bool) (a:Act) (w:World),wpAny P .any ops Q fuel s a w→Way ops l s→wpOps P ops Q l a w
 |[],0,_,_,_,h,_=>by simpa[wpOps] using h.2
 |[],_+1,_,_,_,h,hw=>by simpa[wpOps] using h.1 hw
 |i::l,0,_,_,_,h,hw=>by
  have:=hw.1
  rw[h.1] at this
  cases this
 |i::l,fuel+1,s,a,w,h,hw=>by
  rw[wpOps_cons]
  exact wpOp_mono (fun a w h=>EK l fuel _ a w h hw.2) (h.2 i hw.1)
def na:List Oper→Nat→Oper
 |[],_=>default
 |o::_,0=>o
 |_::l,n+1=>na l n
def mb:List Nat→Nat→Nat
 |[],_=>0
 |j::l,i=>match Nat.beq j i with
  |true=>0
  |false=>mb l i+1
def HM(p:List Nat)(i:Nat):List (Nat×Nat)→List Edge
 |[]=>[]
 |(a,b)::C=>match Nat.beq b i with
  |true=>⟨mb p a,.data⟩::HM p i C
  |false=>HM p i C
def mZ(p:List Nat)(C:List (Nat×Nat))(i:Nat)(o:Oper):Oper:=⟨o.dst,o.op,o.type,o.pos,((o.after.toList.map fun e=>(⟨mb p e.on,e.ground⟩:Edge))++HM p i C).toArray,none⟩
def ez(p:List Nat)(C:List (Nat×Nat))(l:List Oper):List Oper:=p.map fun i=>mZ p C i (na l i)
def KA(p:List Nat)(l:List Oper):Bool:=Nat.beq p.length l.length&&(List.range l.length).all (fun i=>p.elem i)&&(l.all fun o=>o.guard.isNone)&&p.all (fun i=>Nat.blt i l.length)&&(List.range l.length).all fun k=>(List.range l.length).any fun i=>Nat.beq (mb p i) k
theorem nK:∀{p:List Nat} {i:Nat},i∈p→mb p i<p.length∧p[mb p i]? =some i
 |j::p,i,h=>by
  unfold mb
  cases hb:Nat.beq j i with
  |true=>exact⟨by simp,by simpa using Bb hb⟩
  |false=>
   have gt:¬i=j:=by
    intro e;subst e
    have:Nat.beq i i=true:=Nat.beq_refl i
    rw[this] at hb;cases hb
   rcases kO.1 h with h|h
   ·exact absurd h gt
   ·obtain⟨h1,h2⟩:=nK h
    exact⟨by simpa using h1,by simpa using h2⟩
theorem LS {p:List Nat}{i j:Nat}(hi:i∈p)(hj:j∈p)(h:mb p i=mb p j):i=j:=by
 have h1:=(nK hi).2
 rw[h,(nK hj).2] at h1
 injection h1 with h1
 exact h1.symm
theorem N4 {l:List Oper}{o:Oper}:∀{i:Nat},l[i]? =some o→na l i=o:=by
 induction l with
 |nil=>intro i h;simp at h
 |cons o' l ih=>
  intro i h
  cases i with
  |zero=>rw[List.getElem?_cons_zero] at h;injection h
  |succ i=>rw[List.getElem?_cons_succ] at h;exact ih h
theorem z8 {p:List Nat}{i:Nat}{e:Edge}:∀{C:List (Nat×Nat)},e∈HM p i C→∃a,(a,i)∈C∧e=⟨mb p a,.data⟩
 |(a,b)::C,h=>by
  unfold HM at h
  cases hb:Nat.beq b i with
  |true=>
   rw[hb] at h
   obtain rfl:=Bb hb
   rcases kO.1 h with rfl|h
   ·exact⟨a,qw ..,rfl⟩
   ·obtain⟨a',h1,h2⟩:=z8 h
    exact⟨a',o3 _ h1,h2⟩
  |false=>
   rw[hb] at h
   obtain⟨a',h1,h2⟩:=z8 h
   exact⟨a',o3 _ h1,h2⟩
structure IN(p:List Nat)(l:List Oper):Prop where
 len:p.length=l.length
 mem:∀i,i<l.length→i∈p
 gd:∀o∈l,o.guard=none
 bd:∀i∈p,i<l.length
 inv:∀k,k<l.length→∃i,i<l.length∧mb p i=k
theorem Jk {p:List Nat}{l:List Oper}(h:KA p l=true):IN p l:=by
 unfold KA at h
 simp only[bp,dc,sr] at h
 obtain⟨⟨⟨⟨h1,h2⟩,h3⟩,h4⟩,h5⟩:=h
 refine⟨Bb h1,fun i hi=>by simpa using h2 i hi,fun o ho=>by simpa using h3 o ho,fun i hi=>?_,fun k hk=>?_⟩
 ·exact dK (h4 i hi)
 ·obtain⟨i,hi,hb⟩:=List.any_eq_true.1 (h5 k hk)
  exact⟨i,sr.1 hi,Bb hb⟩
section
variable {P:Program} {p:List Nat} {C:List (Nat×Nat)} {l:List Oper}
theorem IN.get(h:IN p l){i:Nat}{o:Oper}(ho:l[i]? =some o):(ez p C l).toArray[mb p i]? =some (mZ p C i o):=by
 have hi:i<l.length:=(fZ.1 ho).1
 obtain⟨_,h2⟩:=nK (h.mem i hi)
 unfold ez
 rw[Dr,ep,h2,n6,N4 ho]
theorem LA(h:IN p l){Q:Exit→Act→World→Prop}{K:Act→World→Prop}{i:Nat}(hi:i<l.length){a:Act}{w:World}(hw:wpOp P (ez p C l).toArray Q (mb p i) K a w):wpOp P l.toArray Q i K a w:=by
 have ho:l[i]? =some l[i]:=de hi
 unfold wpOp at hw ⊢
 rw[h.get ho] at hw
 rw[Dr,ho]
 generalize hoo:l[i]=o at hw ho ⊢
 have hg:=h.gd o (er ho)
 obtain⟨dst,op,ty,pos,af,gd⟩:=o
 simp only at hg
 subst hg
 exact hw
theorem BX(h:IN p l){Q:Exit→Act→World→Prop}:∀(is:List Nat) (a:Act) (w:World),(∀i∈is,i<l.length)→wpOps P (ez p C l).toArray Q (is.map (mb p)) a w→wpOps P l.toArray Q is a w
 |[],a,w,_,hw=>hw
 |i::is,a,w,hi,hw=>by
  rw[cP,wpOps_cons] at hw
  rw[wpOps_cons]
  exact LA h (hi i (qw ..)) (wpOp_mono (fun a w h'=>BX h is a w (fun i xj=>hi i (o3 _ xj)) h') hw)
structure DF(p:List Nat)(n:Nat)(s s':Array Bool):Prop where
 s1:s.size=n
 s2:s'.size=n
 eq:∀i,i<n→s'[mb p i]? =s[i]?
theorem DF.set(h:IN p l){s s':Array Bool}(hs:DF p l.length s s'){i:Nat}(hi:i<l.length):DF p l.length (s.setIfInBounds i true) (s'.setIfInBounds (mb p i) true):=by
 refine⟨by simpa using hs.s1,by simpa using hs.s2,fun j hj=>?_⟩
 rw[GN,GN]
 have hpi:mb p i<s'.size:=by rw[hs.s2,←h.len];exact (nK (h.mem i hi)).1
 by_cases G7:i=j
 ·subst G7
  rw[if_pos rfl,if_pos rfl,if_pos hpi,if_pos (by rw[hs.s1];exact hi)]
 ·rw[if_neg G7,if_neg (fun e=>G7 (LS (h.mem i hi) (h.mem j hj) e))]
  exact hs.eq j hj
theorem DF.getD(h:IN p l){s s':Array Bool}(hs:DF p l.length s s'){j:Nat}(d:Bool)(hj:j<l.length):s'.getD (mb p j) d=s.getD j d:=by
 rw[iO,iO,hs.eq j hj]
theorem Af {s:Array Bool}{j:Nat}(h:s.getD j false=true):j<s.size:=by
 rcases hE j s.size with h1|h1
 ·exact h1
 ·rw[iO,Array.getElem?_eq_none h1] at h;cases h
theorem Hb(h:IN p l):∀(is:List Nat) (s s':Array Bool),DF p l.length s s'→Way l.toArray is s→(∀c∈C,Bfr c.1 c.2 is s)→Way (ez p C l).toArray (is.map (mb p)) s'
 |[],s,s',hs,hw,_=>by
  show Region.ready _ _ _=[]
  rw[List.eq_nil_iff_forall_not_mem]
  intro k hk
  obtain⟨h1,h2,o',h3,h4⟩:=mv.1 hk
  have hkp:k<p.length:=by
   have:(ez p C l).length=p.length:=bw _
   simpa[this] using h1
  -- the operation at k is the one that stood at i
  have hik:=h.inv k (by rw[←h.len];exact hkp)
  obtain⟨i,hi,rfl⟩:=hik
  have ho:l[i]? =some l[i]:=de hi
  rw[h.get ho] at h3
  injection h3 with h3
  subst h3
  have:i∈Region.ready .any l.toArray s:=by
   refine mv.2 ⟨by simpa using hi,by rw[←hs.getD h true hi];exact h2,l[i],by rw[Dr];exact ho,fun e he hb=>?_⟩
   have h5:=h4 ⟨mb p e.on,e.ground⟩ (by
    unfold mZ
    rw[List.mem_toArray]
    exact List.mem_append_left _ (tj.2 ⟨e,by simpa using he,rfl⟩)) hb
   have b8:mb p e.on<l.length:=by rw[←hs.s2];exact Af h5
   by_cases O3:e.on∈p
   ·-- it is one of the operations
    have hon:e.on<l.length:=h.bd _ O3
    rwa[hs.getD h false hon] at h5
   ·exfalso
    have:mb p e.on=p.length:=by
     have gen:∀(q:List Nat),e.on∉q→mb q e.on=q.length:=by
      intro q
      induction q with
      |nil=>intro _;rfl
      |cons j q ih=>
       intro hq
       have gt:Nat.beq j e.on=false:=by
        cases hb:Nat.beq j e.on with
        |true=>exact absurd (kO.2 (.inl (Bb hb).symm)) hq
        |false=>rfl
       unfold mb
       rw[gt]
       simp only[rD]
       rw[ih fun hh=>hq (o3 _ hh)]
     exact gen p O3
    rw[this,h.len] at b8
    omega
  rw[show Region.ready .any l.toArray s=[] from hw] at this
  cases this
 |i::is,s,s',hs,⟨h1,h2⟩,hC=>by
  obtain⟨hi0,M2,o,ho,he⟩:=mv.1 h1
  have hi:i<l.length:=by simpa using hi0
  rw[Dr] at ho
  refine⟨mv.2 ⟨?_,by rw[hs.getD h true hi];exact M2,_,h.get ho,fun e hm hb=>?_⟩,Hb h is _ _ (hs.set h hi) h2 fun c hc=>(hC c hc).2⟩
  ·have:(ez p C l).length=p.length:=bw _
   simp only[rE,this]
   exact (nK (h.mem i hi)).1
  ·unfold mZ at hm
   rw[List.mem_toArray] at hm
   rcases uL.1 hm with hm|hm
   ·obtain⟨e0,he0,rfl⟩:=tj.1 hm
    have h6:=he e0 (by simpa using he0) hb
    have b8:e0.on<l.length:=by rw[←hs.s1];exact Af h6
    rw[hs.getD h false b8];exact h6
   ·obtain⟨a,I0,rfl⟩:=z8 hm
    have h6:=(hC _ I0).1 rfl
    have b8:a<l.length:=by rw[←hs.s1];exact Af h6
    rw[hs.getD h false b8];exact h6
end
section
variable {P:Program} {tb:TypeId→Option TyE} {x:Cx} {tm:List (Nat×D)} {hp:Hp} {Q:Exit→List (Nat×D)→Hp→Prop} {L:List FuncId} {C:List (Nat×Nat)} {l:List Oper}
def DW(P:Program)(x:Cx)(l:List Oper)(C:List (Nat×Nat))(tm:List (Nat×D))(hp:Hp)(Q:Exit→List (Nat×D)→Hp→Prop):Prop:=
 ∀(a:Act) (w:World) (is:List Nat),RS x tm hp a w→(∀i∈is,i<l.length)→Way l.toArray is (Array.replicate l.length false)→(∀c∈C,Bfr c.1 c.2 is (Array.replicate l.length false))→wpOps P l.toArray (fun ex a' w'=>∃tm' hp',RS x tm' hp' a' w'∧Q ex tm' hp') is a w
theorem RS.drew {a:Act}{w:World}(h:RS x tm hp a w):RS x tm hp a {w with drawn:=w.drawn+1}:=by
 obtain⟨g,hr,nX,hsz,D4,hB,hF,hM⟩:=h
 exact⟨g,hr.keep (aB _) (fun _ _=>rfl),fun t d hl=>(nX t d hl).mono (dm.keep hp g (aB _) (fun _ _=>rfl)),hsz,D4,hB.drew,hF,hM.trans (dm.keep hp g (aB _) (fun _ _=>rfl))⟩
theorem Nd {ops:Array Oper}:∀(is:List Nat) (s:Array Bool),Way ops is s→∀i∈is,i<ops.size
 |[],_,_,_,h=>by cases h
 |j::is,s,hw,i,h=>by
  rcases kO.1 h with rfl|h
  ·exact (mv.1 hw.1).1
  ·exact Nd is _ hw.2 i h
theorem AW.dw {id:Nat}(hm:P.follows .mixedOrders=true)(h:DW P x l [] tm hp Q):AW P x (.region id l.toArray true) tm hp Q:=by
 intro a w hr
 refine wp_region_draw fun t=>?_
 simp only[Region.schedule,hm,Bool.true_or,aS]
 have hway:=Nf (ops:=l.toArray) l.toArray.size t (Array.replicate l.toArray.size false) (by simp) (by unfold unl;exact dP (List.length_filter_le _ _) (by simp))
 have b8:=Nd _ _ hway
 simp only[rE] at hway b8
 exact h a _ _ hr.drew b8 hway (fun c hc=>by cases hc)
theorem DW.split(a b:Nat)(M4:a≠b)(h1:DW P x l ((a,b)::C) tm hp Q)(h2:DW P x l ((b,a)::C) tm hp Q):DW P x l C tm hp Q:=by
 intro ac w is hr b8 hw hC
 rcases Qj M4 is _ (by simp) hw with h|h
 ·exact h1 ac w is hr b8 hw fun c hc=>by
   rcases kO.1 hc with rfl|hc
   ·exact h
   ·exact hC c hc
 ·exact h2 ac w is hr b8 hw fun c hc=>by
   rcases kO.1 hc with rfl|hc
   ·exact h
   ·exact hC c hc
theorem I3 {ops:Array Oper}(hN:oJ x.N ops=true)(rk:yI tb L ops=true)
  (h:∀K:List (Nat×D)→Hp→Prop,(∀tm hp,Q .normal tm hp→K tm hp)→ci P tb (.any L) ops K ops.toList tm hp) {a:Act} {w:World} (hr:RS x tm hp a w):wpAny P .any ops (fun ex a' w'=>∃tm' hp',RS x tm' hp' a' w'∧Q ex tm' hp') ops.size (Array.replicate ops.size false) a w:=by
 obtain⟨dd,hh,ac,rQ,cu,hK,h1,h2⟩:=Je (ops:=ops) ops.toList 0 (fun _=>.top) (fun _=>hp) (fun _=>false) (fun _=>tm) ⟨fun _ _ h=>absurd h (by omega),fun _ _ h=>absurd h (by omega),fun _ _ h=>absurd h (by omega)⟩ rfl (h _ fun _ _ h=>h)
 simp only[bJ,iV] at cu hK h1 h2
 obtain⟨g,G5,nX,hsz,D4,hB,hF,hM⟩:=hr
 refine Ha hN (Cs rk) cu (fun a w hr=>⟨_,_,hr,hK⟩) ops.size _ a _ 0 g ?_ ?_
 ·have zF:∀j,¬(Array.replicate ops.size false).getD j false=true:=by
   intro j
   simp[iO,Array.getElem?_replicate]
   split <;> simp
  refine⟨by simp,fun i _ _ _ hl=>absurd hl (zF i),cX _,fun j _ _ _=>⟨fun hl=>absurd hl (zF j),fun h=>absurd h (by omega)⟩,?_,fun t d hl=>?_,hsz,D4,hB,hF,?_⟩
  rotate_right
  ·rw[h2];exact hM
  ·rw[h2];exact G5
  ·rw[h2]
   rcases hl with⟨i,_,_,hl,_⟩|⟨_,hl⟩
   ·exact absurd hl (zF i)
   ·rw[h1] at hl
    exact nX t d hl
 ·unfold unl
  exact dP (List.length_filter_le _ _) (by simp)
theorem DW.go(p:List Nat)(ka:KA p l=true)(hN:oJ x.N (ez p C l).toArray=true)(rk:yI tb L (ez p C l).toArray=true)
  (h:∀K:List (Nat×D)→Hp→Prop,(∀tm hp,Q .normal tm hp→K tm hp)→ci P tb (.any L) (ez p C l).toArray K (ez p C l) tm hp):DW P x l C tm hp Q:=by
 intro a w is hr b8 hw hC
 have hP:=Jk ka
 have h1:=I3 hN rk h hr
 have hlen:(ez p C l).toArray.size=l.length:=by simp[ez,hP.len]
 rw[hlen] at h1
 have hs0:DF p l.length (Array.replicate l.length false) (Array.replicate l.length false):=by
  refine⟨by simp,by simp,fun i hi=>?_⟩
  have:=(nK (hP.mem i hi)).1
  rw[Array.getElem?_replicate,Array.getElem?_replicate,if_pos hi,if_pos (by rw[←hP.len];exact this)]
 exact BX hP is a w b8 (EK _ _ _ a w h1 (Hb hP is _ _ hs0 hw hC))
end
end
def tblL:List (Nat×TyE):=[
 (2,⟨.int .i64,1,8,[.int .i64 (0)]⟩),
 (3,⟨.int .i64,1,8,[.int .i64 (0)]⟩),
 (4,⟨.bool,1,1,[.bool false]⟩),
 (5,⟨.int .u8,1,1,[.int .u8 (0)]⟩),
 (9,⟨.str,1,16,[.string ⟨#[]⟩]⟩),
 (21,⟨.int .i32,1,4,[.int .i32 (0)]⟩),
 (22,⟨.slice 43,1,24,[.slice none 0 0]⟩),
 (24,⟨.struct [(0,3),(1,3),(2,22)],3,40,[.int .i64 (0),.int .i64 (0),.slice none 0 0]⟩),
 (26,⟨.struct [(0,24),(3,22),(4,22)],5,88,[.int .i64 (0),.int .i64 (0),.slice none 0 0,.slice none 0 0,.slice none 0 0]⟩),
 (29,⟨.struct [(0,3),(1,22),(2,22),(3,22)],4,80,[.int .i64 (0),.slice none 0 0,.slice none 0 0,.slice none 0 0]⟩),
 (30,⟨.int .i64,1,8,[.int .i64 (0)]⟩),
 (38,⟨.int .u32,1,4,[ah]⟩),
 (39,⟨.arr 16 38,16,64,[ah,ah,ah,ah,ah,ah,ah,ah,ah,ah,ah,ah,ah,ah,ah,ah]⟩),
 (41,⟨.struct [(0,4),(1,4),(2,39)],18,68,[.bool false,.bool false,ah,ah,ah,ah,ah,ah,ah,ah,ah,ah,ah,ah,ah,ah,ah,ah]⟩),
 (43,⟨.struct [(0,41),(18,41)],36,136,[.bool false,.bool false,ah,ah,ah,ah,ah,ah,ah,ah,ah,ah,ah,ah,ah,ah,ah,ah,.bool false,.bool false,ah,ah,ah,ah,ah,ah,ah,ah,ah,ah,ah,ah,ah,ah,ah,ah]⟩),
 (67,⟨.slice 3,1,24,[.slice none 0 0]⟩),
 (70,⟨.other,1,8,[.pointer none]⟩),
 (71,⟨.slice 78,1,24,[.slice none 0 0]⟩),
 (73,⟨.struct [(0,43),(36,22)],37,160,[.bool false,.bool false,ah,ah,ah,ah,ah,ah,ah,ah,ah,ah,ah,ah,ah,ah,ah,ah,.bool false,.bool false,ah,ah,ah,ah,ah,ah,ah,ah,ah,ah,ah,ah,ah,ah,ah,ah,.slice none 0 0]⟩),
 (75,⟨.struct [(0,71),(1,73),(38,3),(39,3),(40,3)],41,208,[.slice none 0 0,.bool false,.bool false,ah,ah,ah,ah,ah,ah,ah,ah,ah,ah,ah,ah,ah,ah,ah,ah,.bool false,.bool false,ah,ah,ah,ah,ah,ah,ah,ah,ah,ah,ah,ah,ah,ah,ah,ah,.slice none 0 0,.int .i64 (0),.int .i64 (0),.int .i64 (0)]⟩),
 (78,⟨.struct [(0,73),(37,3)],38,168,[.bool false,.bool false,ah,ah,ah,ah,ah,ah,ah,ah,ah,ah,ah,ah,ah,ah,ah,ah,.bool false,.bool false,ah,ah,ah,ah,ah,ah,ah,ah,ah,ah,ah,ah,ah,ah,ah,ah,.slice none 0 0,.int .i64 (0)]⟩),
 (145,⟨.int .u64,1,8,[.int .u64 (0)]⟩),
 (147,⟨.int .u64,1,8,[.int .u64 (0)]⟩),
 (149,⟨.arr 32 38,32,128,[ah,ah,ah,ah,ah,ah,ah,ah,ah,ah,ah,ah,ah,ah,ah,ah,ah,ah,ah,ah,ah,ah,ah,ah,ah,ah,ah,ah,ah,ah,ah,ah]⟩),
 (151,⟨.slice 38,1,24,[.slice none 0 0]⟩),
 (157,⟨.other,1,8,[.pointer none]⟩),
 (158,⟨.other,1,8,[.pointer none]⟩),
 (160,⟨.other,1,8,[.pointer none]⟩),
 (161,⟨.slice 160,1,24,[.slice none 0 0]⟩),
 (179,⟨.slice 41,1,24,[.slice none 0 0]⟩),
 (186,⟨.arr 2 41,36,136,[.bool false,.bool false,ah,ah,ah,ah,ah,ah,ah,ah,ah,ah,ah,ah,ah,ah,ah,ah,.bool false,.bool false,ah,ah,ah,ah,ah,ah,ah,ah,ah,ah,ah,ah,ah,ah,ah,ah]⟩),
 (191,⟨.arr 17 38,17,68,[ah,ah,ah,ah,ah,ah,ah,ah,ah,ah,ah,ah,ah,ah,ah,ah,ah]⟩),
 (193,⟨.other,1,8,[.pointer none]⟩)
]
def tbl(t:TypeId):Option TyE:=tblL.lookup t
theorem tb_2:tbl 2=some ⟨.int .i64,1,8,[.int .i64 (0)]⟩:=rfl
theorem bE:tbl 3=some ⟨.int .i64,1,8,[.int .i64 (0)]⟩:=rfl
theorem ey:tbl 4=some ⟨.bool,1,1,[.bool false]⟩:=rfl
theorem tb_5:tbl 5=some ⟨.int .u8,1,1,[.int .u8 (0)]⟩:=rfl
theorem tb_9:tbl 9=some ⟨.str,1,16,[.string ⟨#[]⟩]⟩:=rfl
theorem tb_21:tbl 21=some ⟨.int .i32,1,4,[.int .i32 (0)]⟩:=rfl
theorem aH:tbl 22=some ⟨.slice 43,1,24,[.slice none 0 0]⟩:=rfl
theorem iS:tbl 24=some ⟨.struct [(0,3),(1,3),(2,22)],3,40,[.int .i64 (0),.int .i64 (0),.slice none 0 0]⟩:=rfl
theorem m5:tbl 26=some ⟨.struct [(0,24),(3,22),(4,22)],5,88,[.int .i64 (0),.int .i64 (0),.slice none 0 0,.slice none 0 0,.slice none 0 0]⟩:=rfl
theorem ma:tbl 29=some ⟨.struct [(0,3),(1,22),(2,22),(3,22)],4,80,[.int .i64 (0),.slice none 0 0,.slice none 0 0,.slice none 0 0]⟩:=rfl
theorem tb_30:tbl 30=some ⟨.int .i64,1,8,[.int .i64 (0)]⟩:=rfl
theorem aI:tbl 38=some ⟨.int .u32,1,4,[ah]⟩:=rfl
theorem aA:tbl 39=some ⟨.arr 16 38,16,64,[ah,ah,ah,ah,ah,ah,ah,ah,ah,ah,ah,ah,ah,ah,ah,ah]⟩:=rfl
theorem am:tbl 41=some ⟨.struct [(0,4),(1,4),(2,39)],18,68,[.bool false,.bool false,ah,ah,ah,ah,ah,ah,ah,ah,ah,ah,ah,ah,ah,ah,ah,ah]⟩:=rfl
theorem aw:tbl 43=some ⟨.struct [(0,41),(18,41)],36,136,[.bool false,.bool false,ah,ah,ah,ah,ah,ah,ah,ah,ah,ah,ah,ah,ah,ah,ah,ah,.bool false,.bool false,ah,ah,ah,ah,ah,ah,ah,ah,ah,ah,ah,ah,ah,ah,ah,ah]⟩:=rfl
theorem cC:tbl 67=some ⟨.slice 3,1,24,[.slice none 0 0]⟩:=rfl
theorem tb_70:tbl 70=some ⟨.other,1,8,[.pointer none]⟩:=rfl
theorem AN:tbl 71=some ⟨.slice 78,1,24,[.slice none 0 0]⟩:=rfl
theorem yA:tbl 73=some ⟨.struct [(0,43),(36,22)],37,160,[.bool false,.bool false,ah,ah,ah,ah,ah,ah,ah,ah,ah,ah,ah,ah,ah,ah,ah,ah,.bool false,.bool false,ah,ah,ah,ah,ah,ah,ah,ah,ah,ah,ah,ah,ah,ah,ah,ah,.slice none 0 0]⟩:=rfl
theorem tb_75:tbl 75=some ⟨.struct [(0,71),(1,73),(38,3),(39,3),(40,3)],41,208,[.slice none 0 0,.bool false,.bool false,ah,ah,ah,ah,ah,ah,ah,ah,ah,ah,ah,ah,ah,ah,ah,ah,.bool false,.bool false,ah,ah,ah,ah,ah,ah,ah,ah,ah,ah,ah,ah,ah,ah,ah,ah,.slice none 0 0,.int .i64 (0),.int .i64 (0),.int .i64 (0)]⟩:=rfl
theorem sT:tbl 78=some ⟨.struct [(0,73),(37,3)],38,168,[.bool false,.bool false,ah,ah,ah,ah,ah,ah,ah,ah,ah,ah,ah,ah,ah,ah,ah,ah,.bool false,.bool false,ah,ah,ah,ah,ah,ah,ah,ah,ah,ah,ah,ah,ah,ah,ah,ah,.slice none 0 0,.int .i64 (0)]⟩:=rfl
theorem tb_145:tbl 145=some ⟨.int .u64,1,8,[.int .u64 (0)]⟩:=rfl
theorem tb_147:tbl 147=some ⟨.int .u64,1,8,[.int .u64 (0)]⟩:=rfl
theorem xJ:tbl 149=some ⟨.arr 32 38,32,128,[ah,ah,ah,ah,ah,ah,ah,ah,ah,ah,ah,ah,ah,ah,ah,ah,ah,ah,ah,ah,ah,ah,ah,ah,ah,ah,ah,ah,ah,ah,ah,ah]⟩:=rfl
theorem Nn:tbl 151=some ⟨.slice 38,1,24,[.slice none 0 0]⟩:=rfl
theorem tb_157:tbl 157=some ⟨.other,1,8,[.pointer none]⟩:=rfl
theorem tb_158:tbl 158=some ⟨.other,1,8,[.pointer none]⟩:=rfl
theorem xI:tbl 160=some ⟨.other,1,8,[.pointer none]⟩:=rfl
theorem zS:tbl 161=some ⟨.slice 160,1,24,[.slice none 0 0]⟩:=rfl
theorem pd:tbl 179=some ⟨.slice 41,1,24,[.slice none 0 0]⟩:=rfl
theorem gX:tbl 186=some ⟨.arr 2 41,36,136,[.bool false,.bool false,ah,ah,ah,ah,ah,ah,ah,ah,ah,ah,ah,ah,ah,ah,ah,ah,.bool false,.bool false,ah,ah,ah,ah,ah,ah,ah,ah,ah,ah,ah,ah,ah,ah,ah,ah]⟩:=rfl
theorem m8:tbl 191=some ⟨.arr 17 38,17,68,[ah,ah,ah,ah,ah,ah,ah,ah,ah,ah,ah,ah,ah,ah,ah,ah,ah]⟩:=rfl
theorem tb_193:tbl 193=some ⟨.other,1,8,[.pointer none]⟩:=rfl
class TB (t:TypeId) (i:outParam TyE):Prop where
 h:tbl t=some i
theorem tbI {t:TypeId}{i:TyE}[h:TB t i]:tbl t=some i:=h.h
@[reducible,instance] def itb_2:=TB.mk tb_2
@[reducible,instance] def itb_3:=TB.mk bE
@[reducible,instance] def itb_4:=TB.mk ey
@[reducible,instance] def itb_5:=TB.mk tb_5
@[reducible,instance] def itb_9:=TB.mk tb_9
@[reducible,instance] def itb_21:=TB.mk tb_21
@[reducible,instance] def itb_22:=TB.mk aH
@[reducible,instance] def itb_24:=TB.mk iS
@[reducible,instance] def itb_26:=TB.mk m5
@[reducible,instance] def itb_29:=TB.mk ma
@[reducible,instance] def itb_30:=TB.mk tb_30
@[reducible,instance] def itb_38:=TB.mk aI
@[reducible,instance] def itb_39:=TB.mk aA
@[reducible,instance] def itb_41:=TB.mk am
@[reducible,instance] def itb_43:=TB.mk aw
@[reducible,instance] def itb_67:=TB.mk cC
@[reducible,instance] def itb_70:=TB.mk tb_70
@[reducible,instance] def itb_71:=TB.mk AN
@[reducible,instance] def itb_73:=TB.mk yA
@[reducible,instance] def itb_75:=TB.mk tb_75
@[reducible,instance] def itb_78:=TB.mk sT
@[reducible,instance] def itb_145:=TB.mk tb_145
@[reducible,instance] def itb_147:=TB.mk tb_147
@[reducible,instance] def itb_149:=TB.mk xJ
@[reducible,instance] def itb_151:=TB.mk Nn
@[reducible,instance] def itb_157:=TB.mk tb_157
@[reducible,instance] def itb_158:=TB.mk tb_158
@[reducible,instance] def itb_160:=TB.mk xI
@[reducible,instance] def itb_161:=TB.mk zS
@[reducible,instance] def itb_179:=TB.mk pd
@[reducible,instance] def itb_186:=TB.mk gX
@[reducible,instance] def itb_191:=TB.mk m8
@[reducible,instance] def itb_193:=TB.mk tb_193
def QB(P:Program):List (Nat×TyE)→Prop
 |[]=>True
 |(t,i)::l=>((P.underlying t).map Ty.of=some i.ty∧(P.info? t).map (fun f=>(f.size,f.bytes,f.zero.map fun v=>(v.cells.toList,v.isAggV)))=some (i.size,i.bytes,some (i.zero,i.ty.agg))∧i.zero.length=i.size∧i.zero.all Value.oneCell'=true)∧QB P l
theorem QB.get {P:Program}:∀{l:List (Nat×TyE)} {t:Nat} {i:TyE},QB P l→l.lookup t=some i→(P.underlying t).map Ty.of=some i.ty∧(P.info? t).map (fun f=>(f.size,f.bytes,f.zero.map fun v=>(v.cells.toList,v.isAggV)))=some (i.size,i.bytes,some (i.zero,i.ty.agg))∧i.zero.length=i.size∧i.zero.all Value.oneCell'=true
 |[],t,i,_,h=>by simp at h
 |(s,j)::l,t,i,h,hl=>by
  by_cases OB:t=s
  ·subst OB
   have:some j=some i:=by rw[←hl];exact ab.symm
   injection this with this
   subst this
   exact h.1
  ·exact QB.get h.2 (by rw[←hl];exact (au OB).symm)
theorem tokL:QB Tryz.prog tblL:=by
 iterate 33 refine⟨⟨by kernel_rfl,by kernel_rfl,by kernel_rfl,by kernel_rfl⟩,?_⟩
 exact trivial
theorem tok:TOk Tryz.prog tbl:=fun _ _ h=>tokL.get h
theorem yz:Tryz.prog.underlying 4=some .bool:=by kernel_rfl
section
section
variable {md:Md} {ops:Array Oper} {K:List (Nat×D)→Hp→Prop} {os:List Oper} {tm:List (Nat×D)} {hp hp':Hp} {t s:Tmp} {op:Op} {ty:TypeId} {pos:String} {af:Array Edge} {d d2:D} {j:Nat} {want c:Bool}
theorem s1(h:AVC Tryz.prog tbl md.dr op ty (evD tm) hp (Kq d hp'))(h2:ci Tryz.prog tbl md ops K os ((t,d)::tm) hp')(hn:md.nc tbl op=true:=by exact rfl):ci Tryz.prog tbl md ops K (⟨some t,op,ty,pos,af,none⟩::os) tm hp:=st tok hn h h2
theorem s0(h:AVC Tryz.prog tbl md.dr op ty (evD tm) hp (Kq d hp'))(h2:ci Tryz.prog tbl md ops K os tm hp')(hn:md.nc tbl op=true:=by exact rfl):ci Tryz.prog tbl md ops K (⟨none,op,ty,pos,af,none⟩::os) tm hp:=st_n tok hn h h2
theorem s2(h:AVC Tryz.prog tbl md.dr op ty (evD tm) hp (Kq d hp'))(hl:d.le d2)(h2:ci Tryz.prog tbl md ops K os ((t,d2)::tm) hp')(hn:md.nc tbl op=true:=by exact rfl):ci Tryz.prog tbl md ops K (⟨some t,op,ty,pos,af,none⟩::os) tm hp:=st_le tok hn h hl h2
theorem g1(hw:c=want)(h:AVC Tryz.prog tbl md.dr op ty (evD tm) hp (Kq d hp'))(h2:ci Tryz.prog tbl md ops K os ((t,d)::tm) hp')(hj:(ops[j]?).bind (·.dst)=some s:=by exact rfl)(hc:tm.lookup s=some (.e (.lit (.bool c))):=by exact rfl)(hn:md.nc tbl op=true:=by exact rfl):ci Tryz.prog tbl md ops K (⟨some t,op,ty,pos,af,some (j,want)⟩::os) tm hp:=go_t tok hn hj hc hw h h2
theorem q1(h:m3 Tryz.prog tbl md ⟨some t,op,ty,pos,af,none⟩ (evD tm) hp d hp')(h2:ci Tryz.prog tbl md ops K os ((t,d)::tm) hp'):ci Tryz.prog tbl md ops K (⟨some t,op,ty,pos,af,none⟩::os) tm hp:=LJ rfl h h2
theorem fzO {α:Type}(c:Cd α){l:List α}{vs vs2:List (Nat×List D)}{lv:List (Nat×Nat×Nat×TypeId)}{N n:Nat}(k:Nat)(ts:List Nat)(hn:n=l.length)(h2:ci Tryz.prog tbl .seq ops K os (ts.map (fun t=>(t,.e (slE c l)))++tm) ⟨vs2,lv,N⟩)(ht:∀t∈ts,tm.lookup t=some (.ow k 0 c.sz n))(hv:vs.lookup k=some (dC ((cW c).f l)):=by exact rfl)(hz:Nat.ble 1 c.sz=true:=by exact rfl)(HW:(vs.filter fun p=>!([k]:List Nat).contains p.1)=vs2:=by exact rfl):ci Tryz.prog tbl .seq ops K os tm ⟨vs,lv,N⟩:=by
 subst HW
 exact .wk rfl (WkS.frzG c ts hn ht hv hz) h2
theorem fzA {x:Cx}{Q:Exit→List (Nat×D)→Hp→Prop}{cd:Code}{α:Type}(c:Cd α){l:List α}{vs vs2:List (Nat×List D)}{lv:List (Nat×Nat×Nat×TypeId)}{N n:Nat}(k:Nat)(ts:List Nat)(hn:n=l.length)(h2:AW Tryz.prog x cd (ts.map (fun t=>(t,.e (slE c l)))++tm) ⟨vs2,lv,N⟩ Q)(ht:∀t∈ts,tm.lookup t=some (.ow k 0 c.sz n))(hv:vs.lookup k=some (dC ((cW c).f l)):=by exact rfl)(hz:Nat.ble 1 c.sz=true:=by exact rfl)(HW:(vs.filter fun p=>!([k]:List Nat).contains p.1)=vs2:=by exact rfl):AW Tryz.prog x cd tm ⟨vs,lv,N⟩ Q:=by
 subst HW
 exact AW.weak (fun _ _ hr=>(WkS.frzG c ts hn ht hv hz).rs hr) h2
theorem all1 {p:Nat→Prop}{a:Nat}(h:p a):∀t∈[a],p t:=by simpa using h
theorem all2 {p:Nat→Prop}{a:Nat}{l:List Nat}(h:p a)(hl:∀t∈l,p t):∀t∈a::l,p t:=by simpa using⟨h,hl⟩
variable {x:Cx} {Q:Exit→List (Nat×D)→Hp→Prop}
theorem rg {n id:Nat}{l:List Oper}(hx:x.N=n)(hN:oJ n l.toArray=true)(h:∀K:List (Nat×D)→Hp→Prop,(∀tm hp,Q .normal tm hp→K tm hp)→ci Tryz.prog tbl .seq l.toArray K l tm hp):AW Tryz.prog x (.region id l.toArray false) tm hp Q:=AW.regS tbl (by rw[hx];exact hN) h
theorem rd {n id:Nat}{l:List Oper}(L:List FuncId)(hx:x.N=n)(hN:oJ n l.toArray=true)(rk:yI tbl L l.toArray=true)(h:∀K:List (Nat×D)→Hp→Prop,(∀tm hp,Q .normal tm hp→K tm hp)→ci Tryz.prog tbl (.any L) l.toArray K l tm hp):AW Tryz.prog x (.region id l.toArray true) tm hp Q:=AW.drwS tbl L (by kernel_rfl) (by rw[hx];exact hN) rk h
theorem dw {id:Nat}{l:List Oper}(h:DW Tryz.prog x l [] tm hp Q):AW Tryz.prog x (.region id l.toArray true) tm hp Q:=AW.dw (by kernel_rfl) h
theorem dwg {n:Nat}{l:List Oper}{C:List (Nat×Nat)}(L:List FuncId)(p:List Nat)(hx:x.N=n)(ka:KA p l=true)(hN:oJ n (ez p C l).toArray=true)(rk:yI tbl L (ez p C l).toArray=true)(h:∀K:List (Nat×D)→Hp→Prop,(∀tm hp,Q .normal tm hp→K tm hp)→ci Tryz.prog tbl (.any L) (ez p C l).toArray K (ez p C l) tm hp):DW Tryz.prog x l C tm hp Q:=DW.go p ka (by rw[hx];exact hN) rk h
def PE(x:Cx){S:Type}(e:Exit)(T:S→List (Nat×D))(H:S→Hp)(y:S)(ex:Exit)(tm:List (Nat×D))(hp:Hp):Prop:=ex=e∧Wk x tm hp (T y) (H y)
def PR(rs:List ResultVar){R:Type}(dR:R→D)(y:R)(ex:Exit)(tm:List (Nat×D))(hp:Hp):Prop:=ex=.ret∧oT tbl rs tm hp (dR y)
def PS {A B:Type}(p:A→Exit→List (Nat×D)→Hp→Prop)(q:B→Exit→List (Nat×D)→Hp→Prop)(y:A⊕B)(ex:Exit)(tm:List (Nat×D))(hp:Hp):Prop:=match y with| .inl a=>p a ex tm hp| .inr b=>q b ex tm hp
theorem PS.l {A B:Type}{p:A→Exit→List (Nat×D)→Hp→Prop}{q:B→Exit→List (Nat×D)→Hp→Prop}{a:A}{ex:Exit}(h:p a ex tm hp):PS p q (.inl a) ex tm hp:=h
theorem PS.r {A B:Type}{p:A→Exit→List (Nat×D)→Hp→Prop}{q:B→Exit→List (Nat×D)→Hp→Prop}{b:B}{ex:Exit}(h:q b ex tm hp):PS p q (.inr b) ex tm hp:=h
theorem PE.i {S:Type}{e:Exit}{T:S→List (Nat×D)}{H:S→Hp}{y:S}(hw:Wk x tm hp (T y) (H y)):PE x e T H y e tm hp:=⟨rfl,hw⟩
theorem PR.i {rs:List ResultVar}{R:Type}{dR:R→D}{y:R}(hw:oT tbl rs tm hp (dR y)):PR rs dR y .ret tm hp:=⟨rfl,hw⟩
theorem jn {c:Code}{Q':Exit→List (Nat×D)→Hp→Prop}(Q:Exit→List (Nat×D)→Hp→Prop)(h:AW Tryz.prog x c tm hp Q)(hq:∀ex tm hp,Q ex tm hp→Q' ex tm hp):AW Tryz.prog x c tm hp Q':=AW.mono h hq
theorem lp {c:Code}{S X:Type}{b:S→Option (S⊕X)}{Q:Exit→List (Nat×D)→Hp→Prop}{s:S}{e:X}(T:S→List (Nat×D))(H:S→Hp)(QX:X→Exit→List (Nat×D)→Hp→Prop)(h:bL b s=some e)(hw:Wk x tm hp (T s) (H s))
  (round:∀s y,b s=some y→AW Tryz.prog x c (T s) (H s) (PS (PE x .normal T H) (fun e ex tm hp=>ex≠.normal∧QX e ex tm hp) y)) (hq:∀ex tm hp,QX e ex tm hp→Q ex tm hp):AW Tryz.prog x (.loop c) tm hp Q:=
 AW.mono (AW.loopO T H QX (fun s y hy=>AW.mono (round s y hy) fun ex tm' hp' h=>by cases y <;> exact h) h hw) hq
end
end
section
section
variable {md:Md} {ops:Array Oper} {K:List (Nat×D)→Hp→Prop} {os:List Oper} {tm:List (Nat×D)} {hp hp':Hp} {t s:Tmp} {op:Op} {ty:TypeId} {pos:String} {af:Array Edge} {d d2:D} {j:Nat} {want c:Bool}
variable {dr:Bool} {ev:List (Nat×D)}
theorem A_int {k:IntKind}{n:Int}:AVC Tryz.prog tbl dr (.assign (.const (.int k n))) ty (evD ev) hp (Kq (dI k n) hp):=Lk
theorem Q3 {b:Bool}:AVC Tryz.prog tbl dr (.assign (.const (.bool b))) ty (evD ev) hp (Kq (dB b) hp):=Lk
theorem M_int {k:IntKind}{n:Int}:AVC Tryz.prog tbl dr (.move (.const (.int k n))) ty (evD ev) hp (Kq (dI k n) hp):=GR
theorem K_faP {s tt:TypeId}{x:Operand}{i j:TyE}{f o k off:Nat}{fs:List (Nat×TypeId)}{ev:Operand→D}(hs:tbl s=some i:=by exact tbI)(hi:i.ty=.struct fs:=by exact rfl)(hf:fs[f]? =some (o,tt):=by exact rfl)(hx:ev x=.pt k off:=by exact rfl)(ht:tbl tt=some j:=by exact tbI)(hz:Nat.ble 1 j.size=true:=by exact rfl):AVC Tryz.prog tbl dr (.fieldAddr s x f) ty ev hp (Kq (.pt k (off+o)) hp):=T_faP hs ht hi hf hz hx
theorem K_faF {s tt:TypeId}{x:Operand}{i j:TyE}{f o off:Nat}{xs:List E}{fs:List (Nat×TypeId)}{ev:Operand→D}(hs:tbl s=some i:=by exact tbI)(hi:i.ty=.struct fs:=by exact rfl)(hf:fs[f]? =some (o,tt):=by exact rfl)(hx:ev x=.fp xs off:=by exact rfl)(ht:tbl tt=some j:=by exact tbI)(hz:Nat.ble 1 j.size=true:=by exact rfl):AVC Tryz.prog tbl dr (.fieldAddr s x f) ty ev hp (Kq (.fp xs (off+o)) hp):=T_faF hs ht hi hf hz hx
theorem K_len {t e:TypeId}{x:Operand}{i j:TyE}{n:Nat}{xs:List E}{ev:Operand→D}(ht:tbl t=some i:=by exact tbI)(hi:i.ty=.slice e:=by exact rfl)(he:tbl e=some j:=by exact tbI)(hx:(ev x).asSl j.size=some (n,xs):=by exact rfl):AVC Tryz.prog tbl dr (.call ⟨.builtin .len,#[x],#[t]⟩) ty ev hp (Kq (dI .i64 n) hp):=Qx ht he hi hx
theorem K_lenW {t e:TypeId}{x:Operand}{i j:TyE}{k off z n:Nat}{ev:Operand→D}(ht:tbl t=some i:=by exact tbI)(hi:i.ty=.slice e:=by exact rfl)(he:tbl e=some j:=by exact tbI)(hx:ev x=.ow k off z n:=by exact rfl):AVC Tryz.prog tbl dr (.call ⟨.builtin .len,#[x],#[t]⟩) ty ev hp (Kq (dI .i64 n) hp):=AE ht he hi hx
theorem K_shl {t t':TypeId}{x y:Operand}{k k':IntKind}{a b:Int}{ev:Operand→D}(hx:ev x=dI k a:=by exact rfl)(hy:ev y=dI k' b:=by exact rfl)(hb:0≤b:=by decide):AVC Tryz.prog tbl dr (.binOp .shl t x y t') ty ev hp (Kq (dI k (xP k a b)) hp):=Qu hb hx hy
theorem K_shr {t t':TypeId}{x y:Operand}{k k':IntKind}{a b:Int}{ev:Operand→D}(hx:ev x=dI k a:=by exact rfl)(hy:ev y=dI k' b:=by exact rfl)(hb:0≤b:=by decide):AVC Tryz.prog tbl dr (.binOp .shr t x y t') ty ev hp (Kq (dI k (mR k a b)) hp):=T_shr hb hx hy
theorem K_quo {t t':TypeId}{x y:Operand}{k:IntKind}{a b:Int}{ev:Operand→D}(hx:ev x=dI k a:=by exact rfl)(hy:ev y=dI k b:=by exact rfl)(hb:b≠0:=by decide):AVC Tryz.prog tbl dr (.binOp .quo t x y t') ty ev hp (Kq (dI k (k.wrap (a.tdiv b))) hp):=Fo hb hx hy
theorem K_rem {t t':TypeId}{x y:Operand}{k:IntKind}{a b:Int}{ev:Operand→D}(hx:ev x=dI k a:=by exact rfl)(hy:ev y=dI k b:=by exact rfl)(hb:b≠0:=by decide):AVC Tryz.prog tbl dr (.binOp .rem t x y t') ty ev hp (Kq (dI k (a.tmod b)) hp):=DB hb hx hy
theorem sa(h2:ci Tryz.prog tbl md ops K os ((t,d)::tm) hp')(h:AVC Tryz.prog tbl md.dr op ty (evD tm) hp (Kq d hp'):=by (first|exact T_mv|exact mp|exact A_int|exact Q3|exact A_str|exact M_int|exact M_bool|exact M_str|exact Lk|exact GR|exact T_not|exact Qv|exact Qw|exact T_ext|exact T_add|exact T_sub|exact T_mul|exact T_eql|exact T_neq|exact T_lss|exact T_leq|exact T_gtr|exact T_geq|exact T_seql|exact T_sneq|exact QA yz|exact Qy yz|exact T_and|exact T_or|exact T_xor|exact T_neg|exact K_shl|exact K_shr|exact K_quo|exact K_rem|exact K_faP|exact K_faF|exact T_cvI tbI tbI|exact T_cvS tbI tbI|exact K_len|exact T_lenS tbI|exact T_lenA tbI|exact K_lenW|exact T_min|exact T_max|exact T_boxV))(hn:md.nc tbl op=true:=by exact rfl):ci Tryz.prog tbl md ops K (⟨some t,op,ty,pos,af,none⟩::os) tm hp:=st tok hn h h2
theorem ga(hw:c=want)(h2:ci Tryz.prog tbl md ops K os ((t,d)::tm) hp')(hj:(ops[j]?).bind (·.dst)=some s:=by exact rfl)(hc:tm.lookup s=some (.e (.lit (.bool c))):=by exact rfl)(h:AVC Tryz.prog tbl md.dr op ty (evD tm) hp (Kq d hp'):=by (first|exact T_mv|exact mp|exact A_int|exact Q3|exact A_str|exact M_int|exact M_bool|exact M_str|exact Lk|exact GR|exact T_not|exact Qv|exact Qw|exact T_ext|exact T_add|exact T_sub|exact T_mul|exact T_eql|exact T_neq|exact T_lss|exact T_leq|exact T_gtr|exact T_geq|exact T_seql|exact T_sneq|exact QA yz|exact Qy yz|exact K_faP|exact K_faF|exact T_cvI tbI tbI|exact K_len|exact T_lenS tbI))(hn:md.nc tbl op=true:=by exact rfl):ci Tryz.prog tbl md ops K (⟨some t,op,ty,pos,af,some (j,want)⟩::os) tm hp:=go_t tok hn hj hc hw h h2
theorem pn {ev:Operand→D}:((([]:List Operand).map ev).map D.ex).all D.pure=true:=rfl
theorem pA {ev:Operand→D}{a:Operand}{la:List Operand}(h:(ev a).ex.pure=true)(hl:((la.map ev).map D.ex).all D.pure=true):(((a::la).map ev).map D.ex).all D.pure=true:=by
 rw[cP,cP,bX,h,hl];rfl
theorem lC {ev:Operand→D}{a:Operand}{la:List Operand}{d':D}{ds':List D}(h:(ev a).ex.le d')(hl:leL ((la.map ev).map D.ex) ds'):leL (((a::la).map ev).map D.ex) (d'::ds'):=⟨h,hl⟩
theorem cq {f:FuncId}{la:List Operand}{ts:Array TypeId}{ds:List D}{r:D}(hc:ax Tryz.prog f ds r)(h2:ci Tryz.prog tbl md ops K os ((t,r)::tm) hp)(ka:((la.map (evD tm)).map D.ex).all D.pure=true:=by repeat (first|exact pn|refine pA (aC _ _) ?_|refine pA rfl ?_))(hl:leL ((la.map (evD tm)).map D.ex) ds:=by repeat (first|exact lAn|refine lC (bZ _ _) ?_|refine lC (ap _) ?_))(hr:r.pure=true∨∃ds,r=.tu ds:=by (first|exact .inl (ii _ _)|exact .inl rfl|exact .inr ⟨_,rfl⟩)):
  ci Tryz.prog tbl md ops K (⟨some t,.call ⟨.value (.func f),la.toArray,ts⟩,ty,pos,af,none⟩::os) tm hp:=sq tok hc ka hl hr h2
theorem sc {x:Operand}{f:FuncId}{la:List Operand}{ts:Array TypeId}{ds:List D}{r:D}(hc:ax Tryz.prog f ds r)(h2:ci Tryz.prog tbl md ops K os ((t,r)::tm) hp)(Bu:evD tm x=.e (.lit (.func (.func f) #[] #[])):=by exact rfl)(ka:((la.map (evD tm)).map D.ex).all D.pure=true:=by repeat (first|exact pn|refine pA (aC _ _) ?_|refine pA rfl ?_))(hl:leL ((la.map (evD tm)).map D.ex) ds:=by repeat (first|exact lAn|refine lC (bZ _ _) ?_|refine lC (ap _) ?_))(hr:r.pure=true∨∃ds,r=.tu ds:=by (first|exact .inl (ii _ _)|exact .inl rfl|exact .inr ⟨_,rfl⟩))(hn:md.nc tbl (.call ⟨.value x,la.toArray,ts⟩)=true:=by exact rfl):
  ci Tryz.prog tbl md ops K (⟨some t,.call ⟨.value x,la.toArray,ts⟩,ty,pos,af,none⟩::os) tm hp:=st tok hn (bb Bu hc ka hl hr) h2
variable {x:Cx} {Q:Exit→List (Nat×D)→Hp→Prop}
theorem rq {n id:Nat}{l:List Oper}(hx:x.N=n)(h:∀K:List (Nat×D)→Hp→Prop,(∀tm hp,Q .normal tm hp→K tm hp)→ci Tryz.prog tbl .seq l.toArray K l tm hp)(hN:oJ n l.toArray=true:=by kernel_rfl):AW Tryz.prog x (.region id l.toArray false) tm hp Q:=rg hx hN h
theorem rqd {n id:Nat}{l:List Oper}(L:List FuncId)(hx:x.N=n)(h:∀K:List (Nat×D)→Hp→Prop,(∀tm hp,Q .normal tm hp→K tm hp)→ci Tryz.prog tbl (.any L) l.toArray K l tm hp)(hN:oJ n l.toArray=true:=by kernel_rfl)(rk:yI tbl L l.toArray=true:=by kernel_rfl):AW Tryz.prog x (.region id l.toArray true) tm hp Q:=rd L hx hN rk h
theorem rv1 {q:ResultVar}{r:D}(h:oT tbl [q] tm hp r:=by (first|exact oT.mk1 (FK rfl (.inr (.inr ⟨_,(ap _),rfl,rfl⟩)))|exact oT.mk1 (FM rfl tbI rfl rfl (ltb rfl) (Cd.h _ _) (.inr (.inr ⟨_,(ap _),ii _ _,rfl⟩))))):oT tbl [q] tm hp r:=h
theorem rv2 {q q':ResultVar}{r:D}(h:oT tbl [q,q'] tm hp r:=by (first|exact oT.mk2 (FK rfl (FK rfl (.inr ⟨_,_,(ap _),(ap _),⟨rfl,rfl⟩,rfl⟩)))|exact oT.mk2 (FM rfl tbI rfl rfl (ltb rfl) (Cd.h _ _) (FK rfl (.inr ⟨_,_,(ap _),(ap _),⟨ii _ _,rfl⟩,rfl⟩)))|exact oT.mk2 (FM rfl tbI rfl rfl (ltb rfl) (Cd.h _ _) (FM rfl tbI rfl rfl (ltb rfl) (Cd.h _ _) (.inr ⟨_,_,(ap _),(ap _),⟨ii _ _,ii _ _⟩,rfl⟩))))):oT tbl [q,q'] tm hp r:=h
theorem pe0 {S:Type}{e:Exit}{T:S→List (Nat×D)}{H:S→Hp}{y:S}{vars':List (Nat×List D)}{qq:List (Nat×Nat×Nat×TypeId)}{m:Nat}{tm':List (Nat×D)}(h0:x.hp0=⟨[],[],0⟩)(os:List Nat)(hT:T y=tm':=by exact rfl)(hH:H y=⟨vars',qq,m⟩:=by exact rfl)(ht:wkT (sg 0 os) m tm tm':=by repeat (first|exact wTn|refine wR rfl ?_|refine wG rfl (ap _) ?_))(hv:wkV (sg 0 os) m hp.vars vars':=by repeat (first|exact wVn|refine vC rfl ?_|refine vR rfl ?_))(hl:wkL (sg 0 os) m hp.live qq:=by repeat (first|exact wLn|refine wL rfl rfl ?_))(Gn:os.Nodup:=by decide)(hm:m=0+os.length:=by exact rfl):PE x e T H y e tm hp:=PE.i (by rw[hT,hH];exact wk h0 os ht hv hl Gn hm)
theorem rs {n id:Nat}{l:List Oper}{b:Code}(hx:x.N=n)(h:∀K:List (Nat×D)→Hp→Prop,(∀tm hp,AW Tryz.prog x b tm hp Q→K tm hp)→ci Tryz.prog tbl .seq l.toArray K l tm hp)(hN:oJ n l.toArray=true:=by kernel_rfl):AW Tryz.prog x (.seq (.region id l.toArray false) b) tm hp Q:=AW.seq (rg hx hN fun K hK=>h K hK)
theorem rsd {n id:Nat}{l:List Oper}{b:Code}(L:List FuncId)(hx:x.N=n)(h:∀K:List (Nat×D)→Hp→Prop,(∀tm hp,AW Tryz.prog x b tm hp Q→K tm hp)→ci Tryz.prog tbl (.any L) l.toArray K l tm hp)(hN:oJ n l.toArray=true:=by kernel_rfl)(rk:yI tbl L l.toArray=true:=by kernel_rfl):AW Tryz.prog x (.seq (.region id l.toArray true) b) tm hp Q:=AW.seq (rd L hx hN rk fun K hK=>h K hK)
theorem ra {n id:Nat}{l:List Oper}{b:Code}{tm':List (Nat×D)}(hx:x.N=n)(h2:AW Tryz.prog x b tm' hp' Q)(h:∀K:List (Nat×D)→Hp→Prop,K tm' hp'→ci Tryz.prog tbl .seq l.toArray K l tm hp:=by (intro K hK;(repeat (refine sa ?_));exact .nil hK))(hN:oJ n l.toArray=true:=by kernel_rfl):AW Tryz.prog x (.seq (.region id l.toArray false) b) tm hp Q:=rs hx (fun K hK=>h K (hK _ _ h2)) hN
theorem rb {n id:Nat}{l:List Oper}{tm':List (Nat×D)}(hx:x.N=n)(h2:Q .normal tm' hp')(h:∀K:List (Nat×D)→Hp→Prop,K tm' hp'→ci Tryz.prog tbl .seq l.toArray K l tm hp:=by (intro K hK;(repeat (refine sa ?_));exact .nil hK))(hN:oJ n l.toArray=true:=by kernel_rfl):AW Tryz.prog x (.region id l.toArray false) tm hp Q:=rq hx (fun K hK=>h K (hK _ _ h2)) hN
theorem cdh {R:Type}{y z:Option R}{r:R}{c:Operand}{c1 c2:Code}{b:Bool}(h:cnd b y z=some r)(hc:evD tm c=.e (.lit (.bool b)))(ht:b=true→y=some r→AW Tryz.prog x c1 tm hp Q)(hf:b=false→z=some r→AW Tryz.prog x c2 tm hp Q):AW Tryz.prog x (.cond c c1 c2) tm hp Q:=AW.condS hc (fun hb=>ht hb (aO hb h)) fun hb=>hf hb (aP hb h)
theorem scb {R S:Type}{g:Option S}{k:S→Option R}{z:R}{x:Operand}{f:FuncId}{la:List Operand}{ts:Array TypeId}{ds:List D}{dr:S→D}(h:bnd g k=some z)(w:∀{y:S},g=some y→ax Tryz.prog f ds (dr y))(h2:∀y,k y=some z→ci Tryz.prog tbl md ops K os ((t,dr y)::tm) hp)(Bu:evD tm x=.e (.lit (.func (.func f) #[] #[])):=by exact rfl)(ka:((la.map (evD tm)).map D.ex).all D.pure=true:=by repeat (first|exact pn|refine pA (aC _ _) ?_|refine pA rfl ?_))(hl:leL ((la.map (evD tm)).map D.ex) ds:=by repeat (first|exact lAn|refine lC (bZ _ _) ?_|refine lC (ap _) ?_))(hr:∀y,(dr y).pure=true∨∃ds,dr y=.tu ds:=by (intro y;first|exact .inl (ii _ _)|exact .inl rfl|exact .inr ⟨_,rfl⟩))(hn:md.nc tbl (.call ⟨.value x,la.toArray,ts⟩)=true:=by exact rfl):
  ci Tryz.prog tbl md ops K (⟨some t,.call ⟨.value x,la.toArray,ts⟩,ty,pos,af,none⟩::os) tm hp:=by
 obtain⟨y,h3,h4⟩:=ae h
 exact st tok hn (bb Bu (w h3) ka hl (hr y)) (h2 y h4)
theorem cqb {R S:Type}{g:Option S}{k:S→Option R}{z:R}{f:FuncId}{la:List Operand}{ts:Array TypeId}{ds:List D}{dr:S→D}(h:bnd g k=some z)(w:∀{y:S},g=some y→ax Tryz.prog f ds (dr y))(h2:∀y,k y=some z→ci Tryz.prog tbl md ops K os ((t,dr y)::tm) hp)(ka:((la.map (evD tm)).map D.ex).all D.pure=true:=by repeat (first|exact pn|refine pA (aC _ _) ?_|refine pA rfl ?_))(hl:leL ((la.map (evD tm)).map D.ex) ds:=by repeat (first|exact lAn|refine lC (bZ _ _) ?_|refine lC (ap _) ?_))(hr:∀y,(dr y).pure=true∨∃ds,dr y=.tu ds:=by (intro y;first|exact .inl (ii _ _)|exact .inl rfl|exact .inr ⟨_,rfl⟩)):
  ci Tryz.prog tbl md ops K (⟨some t,.call ⟨.value (.func f),la.toArray,ts⟩,ty,pos,af,none⟩::os) tm hp:=by
 obtain⟨y,h3,h4⟩:=ae h
 exact sq tok (w h3) ka hl (hr y) (h2 y h4)
theorem bC {f : FuncId} {fn : Func} {c : Code} {ds : List D} {r : D} {rs : List ResultVar} {tm0 : List (Nat × D)} (h : ∀ x : Cx, x.N = fn.ntmps → x.hp0 = ⟨[], [], 0⟩ → AW Tryz.prog x c tm0 ⟨[], [], 0⟩ fun ex tm hp => match ex with | .normal | .ret => oT tbl rs tm hp r | _ => False) (hf : Tryz.prog.funcs[f]? = some fn) (hb : fn.body = some c := by exact rfl) (CL : (fn.name == "runtime.NumGoroutine") = false := by exact rfl) (hN : Nat.ble ds.length fn.ntmps = true := by exact rfl) (H0 : fn.results.toList = rs := by exact rfl) (nX : fS 0 ds = tm0 := by (simp only [fS, Nat.reduceAdd, bJ]; rfl)) : ax Tryz.prog f ds r := ax.of tok hf hb CL (dK hN) H0 (by rw [nX]; exact h)
end
end
structure av where
 vBad:Bool
 vNeg:Bool
 vW:Vector Int 16
 deriving Inhabited,DecidableEq
abbrev a6:av:=⟨false,false,cH⟩
def aj:Cd av:=⟨18,fun x=>[.lit (.bool x.vBad),.lit (.bool x.vNeg)]++(cA 16 (cI .u32)).f x.vW,fun x=>by simp[(cA 16 (cI .u32)).h,show (cA 16 (cI .u32)).sz=16 from rfl]⟩
theorem jt(x:av):ak (aj.f x) cB 0 x.vBad (fun y=>aj.f (⟨y,x.vNeg,x.vW⟩:av)):=
 ak.of ([]) ((cB).f x.vNeg++((cA 16 (cI .u32))).f x.vW) (by first|rfl|(simp[(cA 16 (cI .u32)).h,cB.h];first|rfl|done)) (by first|rfl|simp[aj,cI,cB,cS,cL,dU]) (fun y=>by first|rfl|simp[aj,cI,cB,cS,cL,dU])
theorem aN(x:av):ak (aj.f x) cB 1 x.vNeg (fun y=>aj.f (⟨x.vBad,y,x.vW⟩:av)):=
 ak.of ((cB).f x.vBad) (((cA 16 (cI .u32))).f x.vW) (by first|rfl|(simp[(cA 16 (cI .u32)).h,cB.h];first|rfl|done)) (by first|rfl|simp[aj,cI,cB,cS,cL,dU]) (fun y=>by first|rfl|simp[aj,cI,cB,cS,cL,dU])
theorem aY(x:av):ak (aj.f x) (cA 16 (cI .u32)) 2 x.vW (fun y=>aj.f (⟨x.vBad,x.vNeg,y⟩:av)):=
 ak.of ((cB).f x.vBad++(cB).f x.vNeg) ([]) (by first|rfl|(simp[(cA 16 (cI .u32)).h,cB.h];first|rfl|done)) (by first|rfl|simp[aj,cI,cB,cS,cL,dU]) (fun y=>by first|rfl|simp[aj,cI,cB,cS,cL,dU])
def lT(aU:av):Option Bool:=bnd (some (decide (aU.vW=#v[(0:Int),0,0,0,0,0,0,0,0,0,0,0,0,0,0,0]))) fun x1=>cnd aU.vBad (bnd (S:=Bool) (cnd x1 (some (!aU.vNeg)) (some (false))) fun n7=>some n7) (bnd (S:=Bool) (cnd (!x1) (some (true)) (some (!aU.vNeg))) fun dp=>some dp)
theorem w5 {aU:av}{r:Bool}(h:lT aU=some r):ax Tryz.prog 178 [dG aj aU] (dB r):=by
 refine bC (rs:=[.tmp 2]) (fun cx hx h0=>?_) Tryz.func178
 unfold lT at h
 refine ra hx ?_
 refine rs hx fun K hK=>?_
 refine sa ?_
 refine s1 (aq (aY aU) aA) ?_
 refine s1 (d:=dG (cA 16 (cI .u32)) (#v[(0:Int),0,0,0,0,0,0,0,0,0,0,0,0,0,0,0])) (lP aA aI) ?_
 refine s1 (AF tok 2 (by decide) (EqC.arr (EqC.int (d:=0) aI) aA aI) aA) ?_
 obtain⟨x1,wq,h⟩:=ae h
 replace wq:=bW wq
 refine s2 (d2:=dB x1) mp (gM (congrArg dB wq)) ?_
 refine .nil (hK _ _ (AW.seq (rs hx fun K hK=>?_)))
 refine sa ?_
 refine s1 (aT (jt aU) ey) ?_
 refine .nil (hK _ _ (cdh h rfl (fun a8 h=>?_) (fun a8 h=>?_)))
 refine AW.seq ?_
 obtain⟨n7,hy,h⟩:=ae h
 refine jn ((PE cx .normal (fun n7=>[(2,dB n7)]) fun n7=>⟨[],[],0⟩) n7) ?_ ?_
 replace h:=hy
 refine rq hx fun K hK=>?_
 iterate 2 refine sa ?_
 rcases az x1 with gO|gO
 replace h:=aO gO h
 refine ga gO ?_
 refine g1 gO (aT (aN aU) ey) ?_
 refine ga gO ?_
 refine s1 (ar gO) ?_
 refine sa ?_
 refine .nil (hK _ _ ?_)
 cases h
 exact pe0 h0 []
 replace h:=aP gO h
 iterate 3 refine aG rfl rfl gO ?_
 refine s1 (an gO) ?_
 refine sa ?_
 refine .nil (hK _ _ ?_)
 cases h
 exact pe0 h0 []
 rintro ex tm' hp' ⟨rfl,hw⟩
 refine AW.weak hw (AW.ret ?_)
 cases h
 exact rv1
 refine AW.skip (AW.seq ?_)
 obtain⟨dp,hy,h⟩:=ae h
 refine jn ((PE cx .normal (fun dp=>[(2,dB dp)]) fun dp=>⟨[],[],0⟩) dp) ?_ ?_
 replace h:=hy
 refine rq hx fun K hK=>?_
 iterate 3 refine sa ?_
 rcases az (!x1) with fC|fC
 replace h:=aO fC h
 iterate 3 refine aG rfl rfl fC ?_
 refine s1 (ar fC) ?_
 refine sa ?_
 refine .nil (hK _ _ ?_)
 cases h
 exact pe0 h0 []
 replace h:=aP fC h
 refine ga fC ?_
 refine g1 fC (aT (aN aU) ey) ?_
 refine ga fC ?_
 refine s1 (an fC) ?_
 refine sa ?_
 refine .nil (hK _ _ ?_)
 cases h
 exact pe0 h0 []
 rintro ex tm' hp' ⟨rfl,hw⟩
 refine AW.weak hw (AW.ret ?_)
 cases h
 exact rv1
def eW :Option av:=some (⟨true,false,(cH)⟩:av)
theorem ip  {r:av}(h:eW=some r):ax Tryz.prog 121 [] (dG aj r):=by
 refine bC (rs:=[.cell 0 41]) (fun cx hx h0=>?_) Tryz.func121
 unfold eW at h
 refine rs hx fun K hK=>?_
 refine s1 (be (F:=aj.f a6) am) ?_
 refine .nil (hK _ _ (rs hx fun K hK=>?_))
 refine s1 (d:=dG aj (⟨true,false,(cH)⟩:av)) (ig (FL.cons (y:=true) (jt a6) rfl rfl (FL.nil _)) am) ?_
 refine s0 (aE (b':=(⟨true,false,(cH)⟩:av)) (ak.id _ _) am) ?_
 refine .nil (hK _ _ (AW.ret ?_))
 cases h
 exact rv1
def nH(eZ:List av):Int→Option (Int⊕(Bool⊕Unit)):=fun aL=>cnd (decide (aL<((eZ).length:Int))) (gd (0≤aL∧aL<((eZ).length:Int)) (bnd (S:=Bool) (cnd (((eZ)[(aL).toNat]!).vBad) (some (true)) (bnd (lT ((eZ)[(aL).toNat]!)) fun x5=>some (!x5))) fun bB=>cnd bB (some (.inr (.inl false))) (some (.inl (i64.wrap (aL+(1:Int))))))) (some (.inr (.inr ())))
def c0(eZ:List av):Option Bool:=bnd (bL (nH eZ) (0:Int)) fun y9=>match y9 with| .inl r=>some r| .inr ()=>some true
set_option maxHeartbeats 4000000 in
theorem fE {eZ:List av}{r:Bool}(h:c0 eZ=some r):ax Tryz.prog 147 [dL aj eZ] (dB r):=by
 refine bC (rs:=[.tmp 2]) (fun cx hx h0=>?_) Tryz.func147
 unfold c0 at h
 refine ra hx ?_
 refine AW.seq (ra hx ?_)
 refine AW.block ?_
 obtain⟨y,hy,h⟩:=ae h
 refine lp (S:=Int) (X:=Bool⊕Unit) (fun aL=>[(5,dL aj eZ),(6,dI .i64 ((eZ).length:Int)),(7,dI .i64 aL)]) (fun aL=>⟨[],[],0⟩) (PS (PR [.tmp 2] fun r=>dB r) (PE cx (.exit 0) (fun ()=>[]) fun ()=>⟨[],[],0⟩)) hy ?_ ?_ ?_
 exact wk h0 [] (wR rfl (wR rfl (wR rfl wTn))) wVn wLn
 clear hy h
 rintro aL y h
 dsimp only[nH] at h
 refine ra hx ?_
 refine AW.seq (cdh h rfl (fun cv h=>?_) (fun cv h=>?_))
 refine AW.skip (AW.seq (AW.block (rs hx fun K hK=>?_)))
 obtain⟨mq,h⟩:=aD h
 have qD:(aL).toNat<(eZ).length:=by omega
 refine s1 (gV mq pd am) ?_
 refine s1 (d:=dG aj ((eZ)[(aL).toNat]!)) (mj (c:=aj) (l:=eZ) (n:=(aL).toNat) (o:=0) am qD (fm _ _ rfl)) ?_
 refine s1 (be (F:=aj.f a6) am) ?_
 refine s0 (aE (b':=(eZ)[(aL).toNat]!) (ak.id _ _) am) ?_
 refine .nil (hK _ _ (AW.seq ?_))
 obtain⟨bB,hy,h⟩:=ae h
 refine jn ((PE cx .normal (fun bB=>[(5,dL aj eZ),(6,dI .i64 ((eZ).length:Int)),(7,dI .i64 aL),(17,dB bB)]) fun bB=>⟨[],[],0⟩) bB) ?_ ?_
 replace h:=hy
 refine rq hx fun K hK=>?_
 refine sa ?_
 refine s1 (aT (jt ((eZ)[(aL).toNat]!)) ey) ?_
 refine sa ?_
 rcases az (((eZ)[(aL).toNat]!).vBad) with gO|gO
 replace h:=aO gO h
 iterate 3 refine aG rfl rfl gO ?_
 refine s1 (ar gO) ?_
 refine .nil (hK _ _ ?_)
 cases h
 exact pe0 h0 []
 replace h:=aP gO h
 refine g1 (d:=dG aj ((eZ)[(aL).toNat]!)) gO (aq (ak.id _ _) am) ?_
 obtain⟨x5,Bq,h⟩:=ae h
 refine g1 gO (bb rfl (w5 Bq) (by simp only[cP,dA,bX,bt,bc,bp];exact aC _ _) (lA (bZ _ _) lAn) (.inl rfl)) ?_
 refine ga gO ?_
 refine s1 (an gO) ?_
 refine .nil (hK _ _ ?_)
 cases h
 exact pe0 h0 []
 rintro ex tm' hp' ⟨rfl,hw⟩
 refine AW.weak hw (cdh h rfl (fun ju h=>?_) (fun ju h=>?_))
 refine ra hx ?_
 refine AW.ret ?_
 cases h
 refine PS.r ⟨by nofun,PS.l (PR.i ?_)⟩
 exact rv1
 refine AW.skip (rb hx ?_)
 cases h
 exact PS.l (pe0 h0 [])
 refine AW.exit ?_
 try dsimp only
 try simp only[aS,reduceIte,Nat.reduceEqDiff,reduceCtorEq]
 cases h
 exact PS.r ⟨by nofun,PS.r (PE.i (wk h0 [] wTn wVn wLn))⟩
 rcases y with r|⟨⟩
 rintro ex tm' hp' ⟨rfl,hw⟩
 cases h
 exact hw
 rintro ex tm' hp' ⟨rfl,hw⟩
 try dsimp only
 try simp only[aS,reduceIte,Nat.reduceEqDiff,reduceCtorEq]
 refine AW.weak hw (ra hx ?_)
 refine AW.ret ?_
 cases h
 exact rv1
def bV(vn:Bool)(qa:Vector Int 16):Option av:=bnd (S:=av) (cnd vn (bnd (some ((⟨false,decide (¬(qa=#v[(0:Int),0,0,0,0,0,0,0,0,0,0,0,0,0,0,0])),qa⟩:av))) fun x2=>some (x2)) (some ((⟨false,false,qa⟩:av)))) fun bI=>some bI
theorem d7 {vn:Bool}{qa:Vector Int 16}{r:av}(h:bV vn qa=some r):ax Tryz.prog 145 [dB vn,dG (cA 16 (cI .u32)) qa] (dG aj r):=by
 refine bC (rs:=[.cell 4 41]) (fun cx hx h0=>?_) Tryz.func145
 unfold bV at h
 refine rs hx fun K hK=>?_
 refine sa ?_
 refine s1 (be (F:=aj.f a6) am) ?_
 refine .nil (hK _ _ (AW.seq ?_))
 obtain⟨bI,hy,h⟩:=ae h
 refine jn ((PE cx .normal (fun bI=>[(4,.pt 0 0)]) fun bI=>⟨[(0,dC (aj.f bI))],[],1⟩) bI) ?_ ?_
 replace h:=hy
 refine rqd [] hx fun K hK=>?_
 iterate 2 refine sa ?_
 rcases az vn with cv|cv
 replace h:=aO cv h
 refine g1 (d:=dG (cA 16 (cI .u32)) qa) cv (aq (ak.id _ _) aA) ?_
 refine g1 (d:=dG (cA 16 (cI .u32)) (#v[(0:Int),0,0,0,0,0,0,0,0,0,0,0,0,0,0,0])) cv (lP aA aI) ?_
 refine g1 cv (DD tok 2 (by decide) (EqC.arr (EqC.int (d:=0) aI) aA aI) aA) ?_
 refine s1 (ar cv) ?_
 refine s1 (d:=dG (cA 16 (cI .u32)) qa) (aq (ak.id _ _) aA) ?_
 refine s1 (d:=dG aj (⟨false,decide (¬(qa=#v[(0:Int),0,0,0,0,0,0,0,0,0,0,0,0,0,0,0])),qa⟩:av)) (ig (FL.cons (y:=decide (¬(qa=#v[(0:Int),0,0,0,0,0,0,0,0,0,0,0,0,0,0,0]))) (aN a6) rfl rfl (FL.cons (y:=qa) (aY (⟨false,decide (¬(qa=#v[(0:Int),0,0,0,0,0,0,0,0,0,0,0,0,0,0,0])),(cH)⟩:av)) rfl rfl (FL.nil _))) am) ?_
 obtain⟨x2,Gi,h⟩:=ae h
 replace Gi:=bW Gi
 refine s0 (nS (b':=(⟨false,decide (¬(qa=#v[(0:Int),0,0,0,0,0,0,0,0,0,0,0,0,0,0,0])),qa⟩:av)) (ak.id _ _) am Gi) ?_
 refine .nil (hK _ _ ?_)
 cases h
 exact pe0 h0 [1]
 replace h:=aP cv h
 iterate 3 refine aG rfl rfl cv ?_
 refine s1 (an cv) ?_
 refine s1 (d:=dG (cA 16 (cI .u32)) qa) (aq (ak.id _ _) aA) ?_
 refine s1 (d:=dG aj (⟨false,false,qa⟩:av)) (ig (FL.cons (y:=false) (aN a6) rfl rfl (FL.cons (y:=qa) (aY a6) rfl rfl (FL.nil _))) am) ?_
 refine s0 (aE (b':=(⟨false,false,qa⟩:av)) (ak.id _ _) am) ?_
 refine .nil (hK _ _ ?_)
 cases h
 exact pe0 h0 [1]
 rintro ex tm' hp' ⟨rfl,hw⟩
 refine AW.weak hw (AW.ret ?_)
 cases h
 exact rv1
def g5(cy:Int):Option av:=bnd (S:=Int) (cnd (decide (cy<(0:Int))) (some (u64.wrap (0 - (u64.wrap (cy))))) (some (u64.wrap (cy)))) fun jQ=>bnd (bV (decide (cy<(0:Int))) (#v[u32.wrap (jQ),u32.wrap (mR .u64 jQ (32:Int)),0,0,0,0,0,0,0,0,0,0,0,0,0,0])) fun x3=>some x3
theorem qS {cy:Int}{r:av}(h:g5 cy=some r):ax Tryz.prog 91 [dI .i64 cy] (dG aj r):=by
 refine bC (rs:=[.cell 2 41]) (fun cx hx h0=>?_) Tryz.func91
 unfold g5 at h
 refine rs hx fun K hK=>?_
 refine s1 (be (F:=aj.f a6) am) ?_
 refine .nil (hK _ _ (ra hx ?_))
 refine AW.seq ?_
 obtain⟨jQ,hy,h⟩:=ae h
 refine jn ((PE cx .normal (fun jQ=>[(0,dI .i64 cy),(2,.pt 0 0),(3,dI .u64 jQ)]) fun jQ=>⟨[(0,dC (aj.f a6))],[],1⟩) jQ) ?_ ?_
 replace h:=hy
 refine ra hx ?_
 refine cdh h rfl (fun cv h=>?_) (fun cv h=>?_)
 refine rb hx ?_
 cases h
 exact pe0 h0 [0]
 refine AW.skip ?_
 cases h
 exact pe0 h0 [0]
 rintro ex tm' hp' ⟨rfl,hw⟩
 refine AW.weak hw (rs hx fun K hK=>?_)
 iterate 7 refine sa ?_
 refine s1 (d:=dG (cA 16 (cI .u32)) (#v[u32.wrap (jQ),u32.wrap (mR .u64 jQ (32:Int)),0,0,0,0,0,0,0,0,0,0,0,0,0,0])) (lP aA aI) ?_
 refine scb h d7 fun x3 h=>?_
 refine s0 (aE (b':=x3) (ak.id _ _) am) ?_
 refine .nil (hK _ _ (AW.ret ?_))
 cases h
 exact rv1
def lD(qa:Vector Int 16):Int→Option (Int⊕Int):=fun aL=>bnd (S:=Bool) (cnd (decide ((0:Int)<aL)) (gd (0≤i64.wrap (aL - (1:Int))∧i64.wrap (aL - (1:Int))<16) (some (decide (((qa)[(i64.wrap (aL - (1:Int))).toNat]!)=(0:Int))))) (some (false))) fun n7=>cnd n7 (some (.inl (i64.wrap (aL - (1:Int))))) (some (.inr aL))
def fb(qa:Vector Int 16):Option Int:=bnd (bL (lD qa) (16:Int)) fun oS=>some oS
theorem kP {qa:Vector Int 16}{r:Int}(h:fb qa=some r):ax Tryz.prog 148 [dG (cA 16 (cI .u32)) qa] (dI .i64 r):=by
 refine bC (rs:=[.tmp 2]) (fun cx hx h0=>?_) Tryz.func148
 unfold fb at h
 iterate 2 refine ra hx ?_
 refine AW.seq (AW.block ?_)
 obtain⟨oS,hy,h⟩:=ae h
 refine lp (S:=Int) (X:=Int) (fun aL=>[(1,.pt 0 0),(3,dI .i64 aL)]) (fun aL=>⟨[(0,dC ((cA 16 (cI .u32)).f qa))],[],1⟩) (PE cx (.exit 0) (fun oS=>[(3,dI .i64 oS)]) fun oS=>⟨[],[],0⟩) hy ?_ ?_ ?_
 exact wk h0 [0] (wR rfl (wR rfl wTn)) (vC rfl wVn) wLn
 clear hy h
 rintro aL y h
 dsimp only[lD] at h
 iterate 2 refine AW.seq ?_
 obtain⟨n7,hy,h⟩:=ae h
 refine jn ((PE cx .normal (fun n7=>[(1,.pt 0 0),(3,dI .i64 aL),(12,dB n7)]) fun n7=>⟨[(0,dC ((cA 16 (cI .u32)).f qa))],[],1⟩) n7) ?_ ?_
 replace h:=hy
 refine rq hx fun K hK=>?_
 iterate 3 refine sa ?_
 rcases az (decide ((0:Int)<aL)) with cv|cv
 replace h:=aO cv h
 iterate 2 refine ga cv ?_
 obtain⟨mq,h⟩:=aD h
 have qD:(i64.wrap (aL - (1:Int))).toNat<16:=by omega
 refine g1 cv (bY mq aA aI) ?_
 refine g1 cv (aT (ak.comp (ak.id _ _) (ak.vec (cI .u32) qa (i64.wrap (aL - (1:Int))).toNat qD) (fun _=>rfl)) aI) ?_
 refine ga cv ?_
 refine s1 (ar cv) ?_
 refine .nil (hK _ _ ?_)
 cases h
 exact pe0 h0 [0]
 replace h:=aP cv h
 iterate 5 refine aG rfl rfl cv ?_
 refine s1 (an cv) ?_
 refine .nil (hK _ _ ?_)
 cases h
 exact pe0 h0 [0]
 rintro ex tm' hp' ⟨rfl,hw⟩
 refine AW.weak hw (cdh h rfl (fun dy h=>?_) (fun dy h=>?_))
 refine AW.skip (AW.block (rb hx ?_))
 cases h
 exact PS.l (pe0 h0 [0])
 refine AW.exit ?_
 try dsimp only
 try simp only[aS,reduceIte,Nat.reduceEqDiff,reduceCtorEq]
 cases h
 exact PS.r ⟨by nofun,PE.i (wk h0 [] (wR rfl wTn) wVn wLn)⟩
 rintro ex tm' hp' ⟨rfl,hw⟩
 try dsimp only
 try simp only[aS,reduceIte,Nat.reduceEqDiff,reduceCtorEq]
 refine AW.weak hw (ra hx ?_)
 refine AW.ret ?_
 cases h
 exact rv1
def mX(aU:Int):Option Int:=bnd (S:=Int×Int) (cnd (decide ((65536:Int)≤aU)) (some ((mR .u32 aU (16:Int),(16:Int)))) (some ((aU,(0:Int))))) fun (bI,GQ)=>bnd (S:=Int×Int) (cnd (decide ((256:Int)≤bI)) (some ((mR .u32 bI (8:Int),i64.wrap (GQ+(8:Int))))) (some ((bI,GQ)))) fun (lO,Dy)=>gd (0≤u8.wrap (lO)∧u8.wrap (lO)<((⟨#[0,1,2,2,3,3,3,3,4,4,4,4,4,4,4,4,5,5,5,5,5,5,5,5,5,5,5,5,5,5,5,5,6,6,6,6,6,6,6,6,6,6,6,6,6,6,6,6,6,6,6,6,6,6,6,6,6,6,6,6,6,6,6,6,7,7,7,7,7,7,7,7,7,7,7,7,7,7,7,7,7,7,7,7,7,7,7,7,7,7,7,7,7,7,7,7,7,7,7,7,7,7,7,7,7,7,7,7,7,7,7,7,7,7,7,7,7,7,7,7,7,7,7,7,7,7,7,7,8,8,8,8,8,8,8,8,8,8,8,8,8,8,8,8,8,8,8,8,8,8,8,8,8,8,8,8,8,8,8,8,8,8,8,8,8,8,8,8,8,8,8,8,8,8,8,8,8,8,8,8,8,8,8,8,8,8,8,8,8,8,8,8,8,8,8,8,8,8,8,8,8,8,8,8,8,8,8,8,8,8,8,8,8,8,8,8,8,8,8,8,8,8,8,8,8,8,8,8,8,8,8,8,8,8,8,8,8,8,8,8,8,8,8,8,8,8,8,8,8,8,8,8,8,8,8,8]⟩:ByteArray).size:Int)) (bnd (some (i64.wrap (Dy+(i64.wrap (sAt (⟨#[0,1,2,2,3,3,3,3,4,4,4,4,4,4,4,4,5,5,5,5,5,5,5,5,5,5,5,5,5,5,5,5,6,6,6,6,6,6,6,6,6,6,6,6,6,6,6,6,6,6,6,6,6,6,6,6,6,6,6,6,6,6,6,6,7,7,7,7,7,7,7,7,7,7,7,7,7,7,7,7,7,7,7,7,7,7,7,7,7,7,7,7,7,7,7,7,7,7,7,7,7,7,7,7,7,7,7,7,7,7,7,7,7,7,7,7,7,7,7,7,7,7,7,7,7,7,7,7,8,8,8,8,8,8,8,8,8,8,8,8,8,8,8,8,8,8,8,8,8,8,8,8,8,8,8,8,8,8,8,8,8,8,8,8,8,8,8,8,8,8,8,8,8,8,8,8,8,8,8,8,8,8,8,8,8,8,8,8,8,8,8,8,8,8,8,8,8,8,8,8,8,8,8,8,8,8,8,8,8,8,8,8,8,8,8,8,8,8,8,8,8,8,8,8,8,8,8,8,8,8,8,8,8,8,8,8,8,8,8,8,8,8,8,8,8,8,8,8,8,8,8,8,8,8,8,8]⟩:ByteArray) (u8.wrap (lO)).toNat))))) fun x6=>some x6)
theorem yx {aU:Int}{r:Int}(h:mX aU=some r):ax Tryz.prog 197 [dI .u32 aU] (dI .i64 r):=by
 refine bC (rs:=[.tmp 2]) (fun cx hx h0=>?_) Tryz.func197
 unfold mX at h
 refine ra hx ?_
 refine AW.seq ?_
 obtain⟨y,hy,h⟩:=ae h
 refine jn ((PE cx .normal (fun (bI,GQ)=>[(0,dI .u32 bI),(2,dI .i64 GQ)]) fun (bI,GQ)=>⟨[],[],0⟩) y) ?_ ?_
 replace h:=hy
 refine ra hx ?_
 refine cdh h rfl (fun cv h=>?_) (fun cv h=>?_)
 refine ra hx ?_
 refine rb hx ?_
 cases h
 exact pe0 h0 []
 refine AW.skip ?_
 cases h
 exact pe0 h0 []
 obtain⟨bI,GQ⟩:=y
 rintro ex tm' hp' ⟨rfl,hw⟩
 refine AW.weak hw (AW.seq ?_)
 obtain⟨y,hy,h⟩:=ae h
 refine jn ((PE cx .normal (fun (lO,Dy)=>[(0,dI .u32 lO),(2,dI .i64 Dy)]) fun (lO,Dy)=>⟨[],[],0⟩) y) ?_ ?_
 replace h:=hy
 refine ra hx ?_
 refine cdh h rfl (fun a8 h=>?_) (fun a8 h=>?_)
 refine ra hx ?_
 refine rb hx ?_
 cases h
 exact pe0 h0 []
 refine AW.skip ?_
 cases h
 exact pe0 h0 []
 obtain⟨lO,Dy⟩:=y
 rintro ex tm' hp' ⟨rfl,hw⟩
 refine AW.weak hw (rs hx fun K hK=>?_)
 iterate 3 refine sa ?_
 obtain⟨hc5,h⟩:=aD h
 refine s1 (T_ixS hc5 tb_9) ?_
 iterate 2 refine sa ?_
 obtain⟨x6,rT,h⟩:=ae h
 replace rT:=bW rT
 refine s2 (d2:=dI .i64 x6) mp (gM (congrArg (dI .i64) rT)) ?_
 refine .nil (hK _ _ (AW.ret ?_))
 cases h
 exact rv1
def oF(aU:av):Option Int:=bnd (fb aU.vW) fun x1=>bnd (S:=Bool) (bnd (c0 [aU]) fun x3=>cnd (!x3) (some (true)) (some (decide (x1=(0:Int))))) fun aL=>cnd aL (some (0:Int)) (gd (0≤i64.wrap (x1 - (1:Int))∧i64.wrap (x1 - (1:Int))<16) (bnd (mX ((aU.vW)[(i64.wrap (x1 - (1:Int))).toNat]!)) fun jm=>some (i64.wrap ((i64.wrap ((32:Int)*(i64.wrap (x1 - (1:Int)))))+jm))))
theorem Fy {aU:av}{r:Int}(h:oF aU=some r):ax Tryz.prog 196 [dG aj aU] (dI .i64 r):=by
 refine bC (rs:=[.tmp 2]) (fun cx hx h0=>?_) Tryz.func196
 unfold oF at h
 refine ra hx ?_
 refine rs hx fun K hK=>?_
 refine sa ?_
 refine s1 (aq (aY aU) aA) ?_
 refine scb h kP fun x1 h=>?_
 refine sa ?_
 refine .nil (hK _ _ ?_)
 iterate 2 refine AW.seq ?_
 obtain⟨aL,hy,h⟩:=ae h
 refine jn ((PE cx .normal (fun aL=>[(1,.pt 0 0),(3,dI .i64 x1),(14,dB aL)]) fun aL=>⟨[(0,dC (aj.f aU))],[],1⟩) aL) ?_ ?_
 replace h:=hy
 refine rq hx fun K hK=>?_
 refine s1 (d:=dG aj aU) (aq (ak.id _ _) am) ?_
 refine s1 (kJ ([aU]:List av) aj pd am) ?_
 refine scb h fE fun x3 h=>?_
 iterate 2 refine sa ?_
 rcases az (!x3) with dy|dy
 replace h:=aO dy h
 iterate 2 refine aG rfl rfl dy ?_
 refine s1 (ar dy) ?_
 refine .nil (hK _ _ ?_)
 cases h
 exact pe0 h0 [0]
 replace h:=aP dy h
 iterate 2 refine ga dy ?_
 refine s1 (an dy) ?_
 refine .nil (hK _ _ ?_)
 cases h
 exact pe0 h0 [0]
 rintro ex tm' hp' ⟨rfl,hw⟩
 refine AW.weak hw (cdh h rfl (fun nN h=>?_) (fun nN h=>?_))
 refine ra hx ?_
 refine AW.ret ?_
 cases h
 exact rv1
 refine AW.skip (rs hx fun K hK=>?_)
 iterate 6 refine sa ?_
 obtain⟨Gs,h⟩:=aD h
 have H3:(i64.wrap (x1 - (1:Int))).toNat<16:=by omega
 refine s1 (bY Gs aA aI) ?_
 refine s1 (aT (ak.comp (aY aU) (ak.vec (cI .u32) aU.vW (i64.wrap (x1 - (1:Int))).toNat H3) (fun _=>rfl)) aI) ?_
 refine scb h yx fun jm h=>?_
 iterate 2 refine sa ?_
 refine .nil (hK _ _ (AW.ret ?_))
 cases h
 exact rv1
def lU(aU:av):Option (Int×Bool):=bnd (S:=Bool) (bnd (c0 [aU]) fun x1=>cnd (!x1) (some (true)) (bnd (oF aU) fun x4=>some (decide ((64:Int)<x4)))) fun cZ=>cnd cZ (some ((0:Int),false)) (bnd (some (ior .u64 (xP .u64 (u64.wrap ((aU.vW)[((1:Int)).toNat]!)) (32:Int)) (u64.wrap ((aU.vW)[((0:Int)).toNat]!)))) fun jm=>bnd (S:=Bool) (cnd aU.vNeg (some (decide (jm≤(9223372036854775808:Int)))) (some (false))) fun tB=>cnd tB (some (i64.wrap (u64.wrap (0 - jm)),true)) (bnd (S:=Bool) (cnd (!aU.vNeg) (some (decide (jm<(9223372036854775808:Int)))) (some (false))) fun fj=>cnd fj (some (i64.wrap (jm),true)) (some ((0:Int),false))))
set_option maxHeartbeats 4000000 in
theorem w6 {aU:av}{r:Int×Bool}(h:lU aU=some r):ax Tryz.prog 180 [dG aj aU] (.tu [dI .i64 r.1,dB r.2]):=by
 refine bC (rs:=[.tmp 2,.tmp 3]) (fun cx hx h0=>?_) Tryz.func180
 unfold lU at h
 refine ra hx ?_
 iterate 2 refine AW.seq ?_
 obtain⟨cZ,hy,h⟩:=ae h
 refine jn ((PE cx .normal (fun cZ=>[(1,.pt 0 0),(13,dB cZ)]) fun cZ=>⟨[(0,dC (aj.f aU))],[],1⟩) cZ) ?_ ?_
 replace h:=hy
 refine rq hx fun K hK=>?_
 refine s1 (d:=dG aj aU) (aq (ak.id _ _) am) ?_
 refine s1 (kJ ([aU]:List av) aj pd am) ?_
 refine scb h fE fun x1 h=>?_
 iterate 2 refine sa ?_
 rcases az (!x1) with a8|a8
 replace h:=aO a8 h
 iterate 3 refine aG rfl rfl a8 ?_
 refine s1 (ar a8) ?_
 refine .nil (hK _ _ ?_)
 cases h
 exact pe0 h0 [0]
 replace h:=aP a8 h
 refine g1 (d:=dG aj aU) a8 (aq (ak.id _ _) am) ?_
 obtain⟨x4,qd,h⟩:=ae h
 refine g1 a8 (bb rfl (Fy qd) (by simp only[cP,dA,bX,bt,bc,bp];exact aC _ _) (lA (bZ _ _) lAn) (.inl rfl)) ?_
 refine ga a8 ?_
 refine s1 (an a8) ?_
 refine .nil (hK _ _ ?_)
 cases h
 exact pe0 h0 [0]
 rintro ex tm' hp' ⟨rfl,hw⟩
 refine AW.weak hw (cdh h rfl (fun nN h=>?_) (fun nN h=>?_))
 refine ra hx ?_
 refine AW.ret ?_
 cases h
 exact rv2
 refine AW.skip (rs hx fun K hK=>?_)
 refine sa ?_
 have G6:((1:Int)).toNat<16:=by omega
 refine s1 (bY (by decide:0≤(1:Int)∧(1:Int)<((16:Nat):Int)) aA aI) ?_
 refine s1 (aT (ak.comp (aY aU) (ak.vec (cI .u32) aU.vW ((1:Int)).toNat G6) (fun _=>rfl)) aI) ?_
 iterate 3 refine sa ?_
 have H3:((0:Int)).toNat<16:=by omega
 refine s1 (bY (by decide:0≤(0:Int)∧(0:Int)<((16:Nat):Int)) aA aI) ?_
 refine s1 (aT (ak.comp (aY aU) (ak.vec (cI .u32) aU.vW ((0:Int)).toNat H3) (fun _=>rfl)) aI) ?_
 iterate 2 refine sa ?_
 obtain⟨jm,yQ,h⟩:=ae h
 replace yQ:=bW yQ
 refine s2 (d2:=dI .u64 jm) mp (gM (congrArg (dI .u64) yQ)) ?_
 refine .nil (hK _ _ (AW.seq (AW.block (AW.seq ?_))))
 obtain⟨tB,hy,h⟩:=ae h
 refine jn ((PE cx .normal (fun tB=>[(1,.pt 0 0),(4,dI .u64 jm),(24,dB tB)]) fun tB=>⟨[(0,dC (aj.f aU))],[],1⟩) tB) ?_ ?_
 replace h:=hy
 refine rq hx fun K hK=>?_
 refine sa ?_
 refine s1 (aT (aN aU) ey) ?_
 refine sa ?_
 rcases az aU.vNeg with nh|nh
 replace h:=aO nh h
 iterate 2 refine ga nh ?_
 refine s1 (ar nh) ?_
 refine sa ?_
 refine .nil (hK _ _ ?_)
 cases h
 exact pe0 h0 [0]
 replace h:=aP nh h
 iterate 2 refine aG rfl rfl nh ?_
 refine s1 (an nh) ?_
 refine sa ?_
 refine .nil (hK _ _ ?_)
 cases h
 exact pe0 h0 [0]
 rintro ex tm' hp' ⟨rfl,hw⟩
 refine AW.weak hw (cdh h rfl (fun eM h=>?_) (fun eM h=>?_))
 refine ra hx ?_
 refine AW.ret ?_
 cases h
 exact rv2
 refine AW.seq ?_
 obtain⟨fj,hy,h⟩:=ae h
 refine jn ((PE cx .normal (fun fj=>[(4,dI .u64 jm),(34,dB fj)]) fun fj=>⟨[],[],0⟩) fj) ?_ ?_
 replace h:=hy
 refine rq hx fun K hK=>?_
 refine sa ?_
 refine s1 (aT (aN aU) ey) ?_
 iterate 2 refine sa ?_
 rcases az (!aU.vNeg) with nf|nf
 replace h:=aO nf h
 iterate 2 refine ga nf ?_
 refine s1 (ar nf) ?_
 refine sa ?_
 refine .nil (hK _ _ ?_)
 cases h
 exact pe0 h0 []
 replace h:=aP nf h
 iterate 2 refine aG rfl rfl nf ?_
 refine s1 (an nf) ?_
 refine sa ?_
 refine .nil (hK _ _ ?_)
 cases h
 exact pe0 h0 []
 rintro ex tm' hp' ⟨rfl,hw⟩
 refine AW.weak hw (cdh h rfl (fun vG h=>?_) (fun vG h=>?_))
 refine ra hx ?_
 refine AW.ret ?_
 cases h
 exact rv2
 refine AW.skip (ra hx ?_)
 refine AW.ret ?_
 cases h
 exact rv2
def gi(aU:Int):Option Bool:=some (decide (aU≠aU))
theorem qW {aU:Int}{r:Bool}(h:gi aU=some r):ax Tryz.prog 195 [dI .u32 aU] (dB r):=by
 refine bC (rs:=[.tmp 2]) (fun cx hx h0=>?_) Tryz.func195
 unfold gi at h
 iterate 2 refine ra hx ?_
 refine AW.ret ?_
 cases h
 exact rv1
def gH(aU:Int)(gy:Int):Option Int:=bnd (gi aU) fun x1=>bnd (gi gy) fun x3=>cnd x1 (cnd x3 (some (0:Int)) (some (-1:Int))) (cnd x3 (some (1:Int)) (cnd (decide (aU<gy)) (some (-1:Int)) (cnd (decide (gy<aU)) (some (1:Int)) (some (0:Int)))))
set_option maxHeartbeats 4000000 in
theorem vh {aU:Int}{gy:Int}{r:Int}(h:gH aU gy=some r):ax Tryz.prog 179 [dI .u32 aU,dI .u32 gy] (dI .i64 r):=by
 refine bC (rs:=[.tmp 4]) (fun cx hx h0=>?_) Tryz.func179
 unfold gH at h
 refine ra hx ?_
 refine rs hx fun K hK=>?_
 refine sa ?_
 refine scb h qW fun x1 h=>?_
 refine sa ?_
 refine .nil (hK _ _ (rs hx fun K hK=>?_))
 refine sa ?_
 refine scb h qW fun x3 h=>?_
 refine sa ?_
 refine .nil (hK _ _ (AW.seq (ra hx ?_)))
 refine cdh h rfl (fun dy h=>?_) (fun dy h=>?_)
 refine AW.seq (ra hx ?_)
 refine cdh h rfl (fun fC h=>?_) (fun fC h=>?_)
 refine ra hx ?_
 refine AW.ret ?_
 cases h
 exact rv1
 refine AW.skip (ra hx ?_)
 refine AW.ret ?_
 cases h
 exact rv1
 refine AW.skip (AW.seq (ra hx ?_))
 refine cdh h rfl (fun nN h=>?_) (fun nN h=>?_)
 refine ra hx ?_
 refine AW.ret ?_
 cases h
 exact rv1
 refine AW.skip (AW.seq (ra hx ?_))
 refine cdh h rfl (fun ju h=>?_) (fun ju h=>?_)
 refine ra hx ?_
 refine AW.ret ?_
 cases h
 exact rv1
 refine AW.skip (AW.seq (ra hx ?_))
 refine cdh h rfl (fun wr h=>?_) (fun wr h=>?_)
 refine ra hx ?_
 refine AW.ret ?_
 cases h
 exact rv1
 refine AW.skip (ra hx ?_)
 refine AW.ret ?_
 cases h
 exact rv1
def kr(aJ:Vector Int 16)(aQ:Vector Int 16):Int→Option (Int⊕(Int⊕Unit)):=fun aL=>cnd (decide ((0:Int)≤aL)) (gd (0≤aL∧aL<16) (gd (0≤aL∧aL<16) (cnd (decide (((aJ)[(aL).toNat]!)≠((aQ)[(aL).toNat]!))) (gd (0≤aL∧aL<16) (gd (0≤aL∧aL<16) (bnd (gH ((aJ)[(aL).toNat]!) ((aQ)[(aL).toNat]!)) fun o7=>some (.inr (.inl o7))))) (some (.inl (i64.wrap (aL - (1:Int)))))))) (some (.inr (.inr ())))
def iu(aJ:Vector Int 16)(aQ:Vector Int 16):Option Int:=bnd (bL (kr aJ aQ) (15:Int)) fun y13=>match y13 with| .inl r=>some r| .inr ()=>some (0:Int)
theorem pz {aJ:Vector Int 16}{aQ:Vector Int 16}{r:Int}(h:iu aJ aQ=some r):ax Tryz.prog 149 [dG (cA 16 (cI .u32)) aJ,dG (cA 16 (cI .u32)) aQ] (dI .i64 r):=by
 refine bC (rs:=[.tmp 4]) (fun cx hx h0=>?_) Tryz.func149
 unfold iu at h
 refine ra hx ?_
 refine AW.seq (ra hx ?_)
 refine AW.block ?_
 obtain⟨y,hy,h⟩:=ae h
 refine lp (S:=Int) (X:=Int⊕Unit) (fun aL=>[(2,.pt 0 0),(3,.pt 1 0),(5,dI .i64 aL)]) (fun aL=>⟨[(0,dC ((cA 16 (cI .u32)).f aJ)),(1,dC ((cA 16 (cI .u32)).f aQ))],[],2⟩) (PS (PR [.tmp 4] fun r=>dI .i64 r) (PE cx (.exit 0) (fun ()=>[]) fun ()=>⟨[],[],0⟩)) hy ?_ ?_ ?_
 exact wk h0 [0,1] (wR rfl (wR rfl (wR rfl wTn))) (vC rfl (vC rfl wVn)) wLn
 clear hy h
 rintro aL y h
 dsimp only[kr] at h
 refine AW.seq (ra hx ?_)
 refine cdh h rfl (fun cv h=>?_) (fun cv h=>?_)
 refine AW.skip (AW.seq (AW.block (rsd [] hx fun K hK=>?_)))
 refine sa ?_
 obtain⟨mq,h⟩:=aD h
 have qD:(aL).toNat<16:=by omega
 refine s1 (bY mq aA aI) ?_
 refine s1 (aT (ak.comp (ak.id _ _) (ak.vec (cI .u32) aJ (aL).toNat qD) (fun _=>rfl)) aI) ?_
 refine sa ?_
 obtain⟨D5,h⟩:=aD h
 have Mj:(aL).toNat<16:=by omega
 refine s1 (bY D5 aA aI) ?_
 refine s1 (aT (ak.comp (ak.id _ _) (ak.vec (cI .u32) aQ (aL).toNat Mj) (fun _=>rfl)) aI) ?_
 refine sa ?_
 refine .nil (hK _ _ (cdh h rfl (fun fC h=>?_) (fun fC h=>?_)))
 refine rsd [179] hx fun K hK=>?_
 refine sa ?_
 obtain⟨JO,h⟩:=aD h
 have G6:(aL).toNat<16:=by omega
 refine s1 (bY JO aA aI) ?_
 refine s1 (aT (ak.comp (ak.id _ _) (ak.vec (cI .u32) aJ (aL).toNat G6) (fun _=>rfl)) aI) ?_
 refine sa ?_
 obtain⟨hc9,h⟩:=aD h
 have JK:(aL).toNat<16:=by omega
 refine s1 (bY hc9 aA aI) ?_
 refine s1 (aT (ak.comp (ak.id _ _) (ak.vec (cI .u32) aQ (aL).toNat JK) (fun _=>rfl)) aI) ?_
 refine cqb h vh fun o7 h=>?_
 refine sa ?_
 refine .nil (hK _ _ (AW.ret ?_))
 cases h
 refine PS.r ⟨by nofun,PS.l (PR.i ?_)⟩
 exact rv1
 refine AW.skip (rb hx ?_)
 cases h
 exact PS.l (pe0 h0 [0,1])
 refine AW.exit ?_
 try dsimp only
 try simp only[aS,reduceIte,Nat.reduceEqDiff,reduceCtorEq]
 cases h
 exact PS.r ⟨by nofun,PS.r (PE.i (wk h0 [] wTn wVn wLn))⟩
 rcases y with r|⟨⟩
 rintro ex tm' hp' ⟨rfl,hw⟩
 cases h
 exact hw
 rintro ex tm' hp' ⟨rfl,hw⟩
 try dsimp only
 try simp only[aS,reduceIte,Nat.reduceEqDiff,reduceCtorEq]
 refine AW.weak hw (ra hx ?_)
 refine AW.ret ?_
 cases h
 exact rv1
def kj(aJ:Vector Int 16)(aQ:Vector Int 16):Int×Int×(Vector Int 16)→Option ((Int×Int×(Vector Int 16))⊕(Int×(Vector Int 16))):=fun (d5,bH,eI)=>cnd (decide (bH<(16:Int))) (gd (0≤bH∧bH<16) (gd (0≤bH∧bH<16) (bnd (some (u64.wrap (d5+(u64.wrap ((u64.wrap ((aJ)[(bH).toNat]!))+(u64.wrap ((aQ)[(bH).toNat]!))))))) fun x6=>gd (0≤bH∧bH<16) (some (.inl (mR .u64 x6 (32:Int),i64.wrap (bH+(1:Int)),(eI).set! (bH).toNat (u32.wrap (x6)))))))) (some (.inr (d5,eI)))
def oD(aJ:Vector Int 16)(aQ:Vector Int 16):Option ((Vector Int 16)×Bool):=bnd (bL (kj aJ aQ) ((0:Int),(0:Int),(cH))) fun (cw,lw)=>some (lw,decide (cw=(0:Int)))
set_option maxHeartbeats 4000000 in
theorem Fw {aJ:Vector Int 16}{aQ:Vector Int 16}{r:(Vector Int 16)×Bool}(h:oD aJ aQ=some r):ax Tryz.prog 164 [dG (cA 16 (cI .u32)) aJ,dG (cA 16 (cI .u32)) aQ] (.tu [dG (cA 16 (cI .u32)) r.1,dB r.2]):=by
 refine bC (rs:=[.cell 4 39,.tmp 5]) (fun cx hx h0=>?_) Tryz.func164
 unfold oD at h
 refine rs hx fun K hK=>?_
 iterate 2 refine sa ?_
 refine s1 (be (F:=(cA 16 (cI .u32)).f (cH)) aA) ?_
 refine sa ?_
 refine .nil (hK _ _ (rs hx fun K hK=>?_))
 refine s1 (be (F:=(cA 16 (cI .u32)).f (cH)) aA) ?_
 refine .nil (hK _ _ (ra hx ?_))
 refine AW.seq (ra hx ?_)
 refine AW.block ?_
 obtain⟨y,hy,h⟩:=ae h
 refine lp (S:=Int×Int×(Vector Int 16)) (X:=Int×(Vector Int 16)) (fun (d5,bH,eI)=>[(2,.pt 0 0),(3,.pt 1 0),(4,.pt 2 0),(6,.pt 3 0),(7,dI .u64 d5),(9,dI .i64 bH)]) (fun (d5,bH,eI)=>⟨[(0,dC ((cA 16 (cI .u32)).f aJ)),(1,dC ((cA 16 (cI .u32)).f aQ)),(2,dC ((cA 16 (cI .u32)).f (cH))),(3,dC ((cA 16 (cI .u32)).f eI))],[],4⟩) (PE cx (.exit 0) (fun (cw,lw)=>[(4,.pt 0 0),(6,.pt 1 0),(7,dI .u64 cw)]) fun (cw,lw)=>⟨[(0,dC ((cA 16 (cI .u32)).f (cH))),(1,dC ((cA 16 (cI .u32)).f lw))],[],2⟩) hy ?_ ?_ ?_
 exact wk h0 [0,1,2,3] (wR rfl (wR rfl (wR rfl (wR rfl (wR rfl (wR rfl wTn)))))) (vC rfl (vC rfl (vC rfl (vC rfl wVn)))) wLn
 clear hy h
 rintro⟨d5,bH,eI⟩ y h
 dsimp only[kj] at h
 refine ra hx ?_
 refine AW.seq (cdh h rfl (fun cv h=>?_) (fun cv h=>?_))
 refine AW.skip (AW.seq (AW.block (ra hx ?_)))
 refine rsd [] hx fun K hK=>?_
 iterate 2 refine sa ?_
 obtain⟨mq,h⟩:=aD h
 have qD:(bH).toNat<16:=by omega
 refine s1 (bY mq aA aI) ?_
 refine s1 (aT (ak.comp (ak.id _ _) (ak.vec (cI .u32) aJ (bH).toNat qD) (fun _=>rfl)) aI) ?_
 iterate 2 refine sa ?_
 obtain⟨D5,h⟩:=aD h
 have Mj:(bH).toNat<16:=by omega
 refine s1 (bY D5 aA aI) ?_
 refine s1 (aT (ak.comp (ak.id _ _) (ak.vec (cI .u32) aQ (bH).toNat Mj) (fun _=>rfl)) aI) ?_
 iterate 3 refine sa ?_
 obtain⟨x6,rT,h⟩:=ae h
 replace rT:=bW rT
 refine s2 (d2:=dI .u64 x6) mp (gM (congrArg (dI .u64) rT)) ?_
 refine .nil (hK _ _ (rs hx fun K hK=>?_))
 iterate 3 refine sa ?_
 obtain⟨Gs,h⟩:=aD h
 have H3:(bH).toNat<16:=by omega
 refine s1 (bY Gs aA aI) ?_
 refine s0 (aE (b':=u32.wrap (x6)) (ak.comp (ak.id _ _) (ak.vec (cI .u32) eI (bH).toNat H3) (fun _=>rfl)) aI) ?_
 refine .nil (hK _ _ ?_)
 iterate 2 refine rb hx ?_
 cases h
 exact PS.l (pe0 h0 [0,1,2,3])
 refine AW.exit ?_
 try dsimp only
 try simp only[aS,reduceIte,Nat.reduceEqDiff,reduceCtorEq]
 cases h
 exact PS.r ⟨by nofun,PE.i (wk h0 [2,3] (wR rfl (wR rfl (wR rfl wTn))) (vC rfl (vC rfl wVn)) wLn)⟩
 obtain⟨cw,lw⟩:=y
 rintro ex tm' hp' ⟨rfl,hw⟩
 try dsimp only
 try simp only[aS,reduceIte,Nat.reduceEqDiff,reduceCtorEq]
 refine AW.weak hw (rs hx fun K hK=>?_)
 refine s1 (d:=dG (cA 16 (cI .u32)) lw) (aq (ak.id _ _) aA) ?_
 iterate 2 refine sa ?_
 refine s0 (aE (b':=lw) (ak.id _ _) aA) ?_
 refine sa ?_
 refine .nil (hK _ _ (AW.ret ?_))
 cases h
 exact rv2
def jw(aJ:Vector Int 16)(aQ:Vector Int 16):Int×Int×(Vector Int 16)→Option ((Int×Int×(Vector Int 16))⊕((Vector Int 16))):=fun (d5,bH,eI)=>cnd (decide (bH<(16:Int))) (gd (0≤bH∧bH<16) (gd (0≤bH∧bH<16) (bnd (some (u64.wrap ((u64.wrap ((u64.wrap ((aJ)[(bH).toNat]!)) - (u64.wrap ((aQ)[(bH).toNat]!)))) - d5))) fun x6=>gd (0≤bH∧bH<16) (some (.inl (mR .u64 x6 (63:Int),i64.wrap (bH+(1:Int)),(eI).set! (bH).toNat (u32.wrap (x6)))))))) (some (.inr eI))
def iv(aJ:Vector Int 16)(aQ:Vector Int 16):Option (Vector Int 16):=bnd (bL (jw aJ aQ) ((0:Int),(0:Int),(cH))) fun cw=>some cw
set_option maxHeartbeats 4000000 in
theorem sy {aJ:Vector Int 16}{aQ:Vector Int 16}{r:Vector Int 16}(h:iv aJ aQ=some r):ax Tryz.prog 165 [dG (cA 16 (cI .u32)) aJ,dG (cA 16 (cI .u32)) aQ] (dG (cA 16 (cI .u32)) r):=by
 refine bC (rs:=[.cell 4 39]) (fun cx hx h0=>?_) Tryz.func165
 unfold iv at h
 refine rs hx fun K hK=>?_
 iterate 2 refine sa ?_
 refine s1 (be (F:=(cA 16 (cI .u32)).f (cH)) aA) ?_
 refine .nil (hK _ _ (rs hx fun K hK=>?_))
 refine s1 (be (F:=(cA 16 (cI .u32)).f (cH)) aA) ?_
 refine .nil (hK _ _ (ra hx ?_))
 refine AW.seq (ra hx ?_)
 refine AW.block ?_
 obtain⟨cw,hy,h⟩:=ae h
 refine lp (S:=Int×Int×(Vector Int 16)) (X:=(Vector Int 16)) (fun (d5,bH,eI)=>[(2,.pt 0 0),(3,.pt 1 0),(4,.pt 2 0),(5,.pt 3 0),(6,dI .u64 d5),(9,dI .i64 bH)]) (fun (d5,bH,eI)=>⟨[(0,dC ((cA 16 (cI .u32)).f aJ)),(1,dC ((cA 16 (cI .u32)).f aQ)),(2,dC ((cA 16 (cI .u32)).f (cH))),(3,dC ((cA 16 (cI .u32)).f eI))],[],4⟩) (PE cx (.exit 0) (fun cw=>[(4,.pt 0 0),(5,.pt 1 0)]) fun cw=>⟨[(0,dC ((cA 16 (cI .u32)).f (cH))),(1,dC ((cA 16 (cI .u32)).f cw))],[],2⟩) hy ?_ ?_ ?_
 exact wk h0 [0,1,2,3] (wR rfl (wR rfl (wR rfl (wR rfl (wR rfl (wR rfl wTn)))))) (vC rfl (vC rfl (vC rfl (vC rfl wVn)))) wLn
 clear hy h
 rintro⟨d5,bH,eI⟩ y h
 dsimp only[jw] at h
 refine ra hx ?_
 refine AW.seq (cdh h rfl (fun cv h=>?_) (fun cv h=>?_))
 refine AW.skip (AW.seq (AW.block (ra hx ?_)))
 refine rsd [] hx fun K hK=>?_
 refine sa ?_
 obtain⟨mq,h⟩:=aD h
 have qD:(bH).toNat<16:=by omega
 refine s1 (bY mq aA aI) ?_
 refine s1 (aT (ak.comp (ak.id _ _) (ak.vec (cI .u32) aJ (bH).toNat qD) (fun _=>rfl)) aI) ?_
 iterate 2 refine sa ?_
 obtain⟨D5,h⟩:=aD h
 have Mj:(bH).toNat<16:=by omega
 refine s1 (bY D5 aA aI) ?_
 refine s1 (aT (ak.comp (ak.id _ _) (ak.vec (cI .u32) aQ (bH).toNat Mj) (fun _=>rfl)) aI) ?_
 iterate 4 refine sa ?_
 obtain⟨x6,rT,h⟩:=ae h
 replace rT:=bW rT
 refine s2 (d2:=dI .u64 x6) mp (gM (congrArg (dI .u64) rT)) ?_
 refine .nil (hK _ _ (rs hx fun K hK=>?_))
 iterate 3 refine sa ?_
 obtain⟨Gs,h⟩:=aD h
 have H3:(bH).toNat<16:=by omega
 refine s1 (bY Gs aA aI) ?_
 refine s0 (aE (b':=u32.wrap (x6)) (ak.comp (ak.id _ _) (ak.vec (cI .u32) eI (bH).toNat H3) (fun _=>rfl)) aI) ?_
 refine .nil (hK _ _ ?_)
 iterate 2 refine rb hx ?_
 cases h
 exact PS.l (pe0 h0 [0,1,2,3])
 refine AW.exit ?_
 try dsimp only
 try simp only[aS,reduceIte,Nat.reduceEqDiff,reduceCtorEq]
 cases h
 exact PS.r ⟨by nofun,PE.i (wk h0 [2,3] (wR rfl (wR rfl wTn)) (vC rfl (vC rfl wVn)) wLn)⟩
 rintro ex tm' hp' ⟨rfl,hw⟩
 try dsimp only
 try simp only[aS,reduceIte,Nat.reduceEqDiff,reduceCtorEq]
 refine AW.weak hw (rs hx fun K hK=>?_)
 refine s1 (d:=dG (cA 16 (cI .u32)) cw) (aq (ak.id _ _) aA) ?_
 refine s0 (aE (b':=cw) (ak.id _ _) aA) ?_
 refine .nil (hK _ _ (AW.ret ?_))
 cases h
 exact rv1
def jz(aJ:av)(aQ:av):Option av:=bnd (c0 [aJ,aQ]) fun x1=>cnd (!x1) (bnd (eW) fun x4=>some x4) (cnd (aJ.vNeg == aQ.vNeg) (bnd (oD aJ.vW aQ.vW) fun x7=>cnd (!x7.2) (bnd (eW) fun jm=>some jm) (bnd (bV aJ.vNeg x7.1) fun iE=>some iE)) (bnd (iu aJ.vW aQ.vW) fun m4=>cnd (decide ((0:Int)≤m4)) (bnd (iv aJ.vW aQ.vW) fun nT=>bnd (bV aJ.vNeg nT) fun rP=>some rP) (bnd (iv aQ.vW aJ.vW) fun qR=>bnd (bV aQ.vNeg qR) fun rY=>some rY)))
set_option maxHeartbeats 4000000 in
theorem AJ {aJ:av}{aQ:av}{r:av}(h:jz aJ aQ=some r):ax Tryz.prog 123 [dG aj aJ,dG aj aQ] (dG aj r):=by
 refine bC (rs:=[.cell 4 41]) (fun cx hx h0=>?_) Tryz.func123
 unfold jz at h
 refine rs hx fun K hK=>?_
 iterate 2 refine sa ?_
 refine s1 (be (F:=aj.f a6) am) ?_
 refine .nil (hK _ _ (AW.seq (rs hx fun K hK=>?_)))
 refine s1 (d:=dG aj aJ) (aq (ak.id _ _) am) ?_
 refine s1 (d:=dG aj aQ) (aq (ak.id _ _) am) ?_
 refine s1 (kJ ([aJ,aQ]:List av) aj pd am) ?_
 refine scb h fE fun x1 h=>?_
 refine sa ?_
 refine .nil (hK _ _ (cdh h rfl (fun a8 h=>?_) (fun a8 h=>?_)))
 refine rs hx fun K hK=>?_
 refine scb h ip fun x4 h=>?_
 refine s0 (aE (b':=x4) (ak.id _ _) am) ?_
 refine .nil (hK _ _ (AW.ret ?_))
 cases h
 exact rv1
 refine AW.skip (AW.seq (rs hx fun K hK=>?_))
 refine sa ?_
 refine s1 (aT (aN aJ) ey) ?_
 refine sa ?_
 refine s1 (aT (aN aQ) ey) ?_
 refine sa ?_
 refine .nil (hK _ _ (cdh h rfl (fun fC h=>?_) (fun fC h=>?_)))
 refine rs hx fun K hK=>?_
 refine sa ?_
 refine s1 (aq (aY aJ) aA) ?_
 refine sa ?_
 refine s1 (aq (aY aQ) aA) ?_
 refine scb h Fw fun x7 h=>?_
 iterate 3 refine sa ?_
 refine s1 (be (F:=(cA 16 (cI .u32)).f (cH)) aA) ?_
 refine s0 (aE (b':=x7.1) (ak.id _ _) aA) ?_
 refine sa ?_
 refine .nil (hK _ _ (AW.seq (ra hx ?_)))
 refine cdh h rfl (fun wr h=>?_) (fun wr h=>?_)
 refine rs hx fun K hK=>?_
 refine scb h ip fun jm h=>?_
 refine s0 (aE (b':=jm) (ak.id _ _) am) ?_
 refine .nil (hK _ _ (AW.ret ?_))
 cases h
 exact rv1
 refine AW.skip (rs hx fun K hK=>?_)
 refine sa ?_
 refine s1 (aT (aN aJ) ey) ?_
 refine s1 (d:=dG (cA 16 (cI .u32)) x7.1) (aq (ak.id _ _) aA) ?_
 refine scb h d7 fun iE h=>?_
 refine s0 (aE (b':=iE) (ak.id _ _) am) ?_
 refine .nil (hK _ _ (AW.ret ?_))
 cases h
 exact rv1
 refine AW.skip (AW.seq (rs hx fun K hK=>?_))
 refine sa ?_
 refine s1 (aq (aY aJ) aA) ?_
 refine sa ?_
 refine s1 (aq (aY aQ) aA) ?_
 refine scb h pz fun m4 h=>?_
 refine sa ?_
 refine .nil (hK _ _ (cdh h rfl (fun oz h=>?_) (fun oz h=>?_)))
 refine rsd [165,145] hx fun K hK=>?_
 refine sa ?_
 refine s1 (aT (aN aJ) ey) ?_
 refine sa ?_
 refine s1 (aq (aY aJ) aA) ?_
 refine sa ?_
 refine s1 (aq (aY aQ) aA) ?_
 refine cqb h sy fun nT h=>?_
 refine cqb h d7 fun rP h=>?_
 refine s0 (aE (b':=rP) (ak.id _ _) am) ?_
 refine .nil (hK _ _ (AW.ret ?_))
 cases h
 exact rv1
 refine AW.skip (rsd [165,145] hx fun K hK=>?_)
 refine sa ?_
 refine s1 (aT (aN aQ) ey) ?_
 refine sa ?_
 refine s1 (aq (aY aQ) aA) ?_
 refine sa ?_
 refine s1 (aq (aY aJ) aA) ?_
 refine cqb h sy fun qR h=>?_
 refine cqb h d7 fun rY h=>?_
 refine s0 (aE (b':=rY) (ak.id _ _) am) ?_
 refine .nil (hK _ _ (AW.ret ?_))
 cases h
 exact rv1
def mA(aU:av):Option av:=bnd (c0 [aU]) fun x1=>cnd (!x1) (bnd (eW) fun x4=>some x4) (bnd (bV (!aU.vNeg) aU.vW) fun x6=>some x6)
theorem u5 {aU:av}{r:av}(h:mA aU=some r):ax Tryz.prog 100 [dG aj aU] (dG aj r):=by
 refine bC (rs:=[.cell 2 41]) (fun cx hx h0=>?_) Tryz.func100
 unfold mA at h
 refine rs hx fun K hK=>?_
 refine sa ?_
 refine s1 (be (F:=aj.f a6) am) ?_
 refine .nil (hK _ _ (AW.seq (rs hx fun K hK=>?_)))
 refine s1 (d:=dG aj aU) (aq (ak.id _ _) am) ?_
 refine s1 (kJ ([aU]:List av) aj pd am) ?_
 refine scb h fE fun x1 h=>?_
 refine sa ?_
 refine .nil (hK _ _ (cdh h rfl (fun a8 h=>?_) (fun a8 h=>?_)))
 refine rs hx fun K hK=>?_
 refine scb h ip fun x4 h=>?_
 refine s0 (aE (b':=x4) (ak.id _ _) am) ?_
 refine .nil (hK _ _ (AW.ret ?_))
 cases h
 exact rv1
 refine AW.skip (rs hx fun K hK=>?_)
 refine sa ?_
 refine s1 (aT (aN aU) ey) ?_
 iterate 2 refine sa ?_
 refine s1 (aq (aY aU) aA) ?_
 refine scb h d7 fun x6 h=>?_
 refine s0 (aE (b':=x6) (ak.id _ _) am) ?_
 refine .nil (hK _ _ (AW.ret ?_))
 cases h
 exact rv1
def nY(aJ:av)(aQ:av):Option av:=bnd (mA aQ) fun x1=>bnd (jz aJ x1) fun x3=>some x3
theorem Hd {aJ:av}{aQ:av}{r:av}(h:nY aJ aQ=some r):ax Tryz.prog 181 [dG aj aJ,dG aj aQ] (dG aj r):=by
 refine bC (rs:=[.cell 4 41]) (fun cx hx h0=>?_) Tryz.func181
 unfold nY at h
 refine rs hx fun K hK=>?_
 iterate 2 refine sa ?_
 refine s1 (be (F:=aj.f a6) am) ?_
 refine .nil (hK _ _ (rsd [100,123] hx fun K hK=>?_))
 refine s1 (d:=dG aj aJ) (aq (ak.id _ _) am) ?_
 refine s1 (d:=dG aj aQ) (aq (ak.id _ _) am) ?_
 refine cqb h u5 fun x1 h=>?_
 refine cqb h AJ fun x3 h=>?_
 refine s0 (aE (b':=x3) (ak.id _ _) am) ?_
 refine .nil (hK _ _ (AW.ret ?_))
 cases h
 exact rv1
def fG(aU:av):Option Int:=bnd (S:=Bool) (bnd (c0 [aU]) fun x1=>cnd (!x1) (some (true)) (some (decide (aU.vW=#v[(0:Int),0,0,0,0,0,0,0,0,0,0,0,0,0,0,0])))) fun jQ=>cnd jQ (some (0:Int)) (cnd aU.vNeg (some (-1:Int)) (some (1:Int)))
theorem kQ {aU:av}{r:Int}(h:fG aU=some r):ax Tryz.prog 95 [dG aj aU] (dI .i64 r):=by
 refine bC (rs:=[.tmp 2]) (fun cx hx h0=>?_) Tryz.func95
 unfold fG at h
 refine ra hx ?_
 refine AW.seq (AW.block (AW.seq ?_))
 obtain⟨jQ,hy,h⟩:=ae h
 refine jn ((PE cx .normal (fun jQ=>[(1,.pt 0 0),(3,dB jQ)]) fun jQ=>⟨[(0,dC (aj.f aU))],[],1⟩) jQ) ?_ ?_
 replace h:=hy
 refine rq hx fun K hK=>?_
 refine s1 (d:=dG aj aU) (aq (ak.id _ _) am) ?_
 refine s1 (kJ ([aU]:List av) aj pd am) ?_
 refine scb h fE fun x1 h=>?_
 iterate 2 refine sa ?_
 rcases az (!x1) with a8|a8
 replace h:=aO a8 h
 iterate 4 refine aG rfl rfl a8 ?_
 refine s1 (ar a8) ?_
 refine sa ?_
 refine .nil (hK _ _ ?_)
 cases h
 exact pe0 h0 [0]
 replace h:=aP a8 h
 refine ga a8 ?_
 refine g1 a8 (aq (aY aU) aA) ?_
 refine g1 (d:=dG (cA 16 (cI .u32)) (#v[(0:Int),0,0,0,0,0,0,0,0,0,0,0,0,0,0,0])) a8 (lP aA aI) ?_
 refine g1 a8 (AF tok 2 (by decide) (EqC.arr (EqC.int (d:=0) aI) aA aI) aA) ?_
 refine s1 (an a8) ?_
 refine sa ?_
 refine .nil (hK _ _ ?_)
 cases h
 exact pe0 h0 [0]
 rintro ex tm' hp' ⟨rfl,hw⟩
 refine AW.weak hw (cdh h rfl (fun dy h=>?_) (fun dy h=>?_))
 refine ra hx ?_
 refine AW.ret ?_
 cases h
 exact rv1
 refine rs hx fun K hK=>?_
 refine sa ?_
 refine s1 (aT (aN aU) ey) ?_
 refine sa ?_
 refine .nil (hK _ _ (cdh h rfl (fun fC h=>?_) (fun fC h=>?_)))
 refine ra hx ?_
 refine AW.ret ?_
 cases h
 exact rv1
 refine AW.skip (ra hx ?_)
 refine AW.ret ?_
 cases h
 exact rv1
def mz(qa:Vector Int 16)(cy:Int):Int×Int×(Vector Int 16)→Option ((Int×Int×(Vector Int 16))⊕(Int×(Vector Int 16))):=fun (d5,bH,eI)=>cnd (decide (bH<(16:Int))) (gd (0≤bH∧bH<16) (gd (0≤cy) (bnd (some (ior .u64 d5 (xP .u64 (u64.wrap ((qa)[(bH).toNat]!)) cy))) fun x5=>gd (0≤bH∧bH<16) (some (.inl (mR .u64 x5 (32:Int),i64.wrap (bH+(1:Int)),(eI).set! (bH).toNat (u32.wrap (x5)))))))) (some (.inr (d5,eI)))
def pi(qa:Vector Int 16)(cy:Int):Option ((Vector Int 16)×Int):=bnd (bL (mz qa cy) ((0:Int),(0:Int),(cH))) fun (cw,lw)=>some (lw,u32.wrap (cw))
set_option maxHeartbeats 4000000 in
theorem BY {qa:Vector Int 16}{cy:Int}{r:(Vector Int 16)×Int}(h:pi qa cy=some r):ax Tryz.prog 189 [dG (cA 16 (cI .u32)) qa,dI .i64 cy] (.tu [dG (cA 16 (cI .u32)) r.1,dI .u32 r.2]):=by
 refine bC (rs:=[.cell 4 39,.tmp 5]) (fun cx hx h0=>?_) Tryz.func189
 unfold pi at h
 refine rs hx fun K hK=>?_
 refine sa ?_
 refine s1 (be (F:=(cA 16 (cI .u32)).f (cH)) aA) ?_
 refine sa ?_
 refine .nil (hK _ _ (rs hx fun K hK=>?_))
 refine s1 (be (F:=(cA 16 (cI .u32)).f (cH)) aA) ?_
 refine .nil (hK _ _ (ra hx ?_))
 refine AW.seq (ra hx ?_)
 refine AW.block ?_
 obtain⟨y,hy,h⟩:=ae h
 refine lp (S:=Int×Int×(Vector Int 16)) (X:=Int×(Vector Int 16)) (fun (d5,bH,eI)=>[(1,dI .i64 cy),(2,.pt 0 0),(4,.pt 1 0),(6,.pt 2 0),(7,dI .u64 d5),(9,dI .i64 bH)]) (fun (d5,bH,eI)=>⟨[(0,dC ((cA 16 (cI .u32)).f qa)),(1,dC ((cA 16 (cI .u32)).f (cH))),(2,dC ((cA 16 (cI .u32)).f eI))],[],3⟩) (PE cx (.exit 0) (fun (cw,lw)=>[(4,.pt 0 0),(6,.pt 1 0),(7,dI .u64 cw)]) fun (cw,lw)=>⟨[(0,dC ((cA 16 (cI .u32)).f (cH))),(1,dC ((cA 16 (cI .u32)).f lw))],[],2⟩) hy ?_ ?_ ?_
 exact wk h0 [0,1,2] (wR rfl (wR rfl (wR rfl (wR rfl (wR rfl (wR rfl wTn)))))) (vC rfl (vC rfl (vC rfl wVn))) wLn
 clear hy h
 rintro⟨d5,bH,eI⟩ y h
 dsimp only[mz] at h
 refine ra hx ?_
 refine AW.seq (cdh h rfl (fun cv h=>?_) (fun cv h=>?_))
 refine AW.skip (AW.seq (AW.block (ra hx ?_)))
 refine rs hx fun K hK=>?_
 iterate 2 refine sa ?_
 obtain⟨mq,h⟩:=aD h
 have qD:(bH).toNat<16:=by omega
 refine s1 (bY mq aA aI) ?_
 refine s1 (aT (ak.comp (ak.id _ _) (ak.vec (cI .u32) qa (bH).toNat qD) (fun _=>rfl)) aI) ?_
 iterate 2 refine sa ?_
 obtain⟨D5,h⟩:=aD h
 refine s1 (Qu D5) ?_
 refine sa ?_
 obtain⟨x5,Bq,h⟩:=ae h
 replace Bq:=bW Bq
 refine s2 (d2:=dI .u64 x5) mp (gM (congrArg (dI .u64) Bq)) ?_
 refine .nil (hK _ _ (rs hx fun K hK=>?_))
 iterate 3 refine sa ?_
 obtain⟨JO,h⟩:=aD h
 have G6:(bH).toNat<16:=by omega
 refine s1 (bY JO aA aI) ?_
 refine s0 (aE (b':=u32.wrap (x5)) (ak.comp (ak.id _ _) (ak.vec (cI .u32) eI (bH).toNat G6) (fun _=>rfl)) aI) ?_
 refine .nil (hK _ _ ?_)
 iterate 2 refine rb hx ?_
 cases h
 exact PS.l (pe0 h0 [0,1,2])
 refine AW.exit ?_
 try dsimp only
 try simp only[aS,reduceIte,Nat.reduceEqDiff,reduceCtorEq]
 cases h
 exact PS.r ⟨by nofun,PE.i (wk h0 [1,2] (wR rfl (wR rfl (wR rfl wTn))) (vC rfl (vC rfl wVn)) wLn)⟩
 obtain⟨cw,lw⟩:=y
 rintro ex tm' hp' ⟨rfl,hw⟩
 try dsimp only
 try simp only[aS,reduceIte,Nat.reduceEqDiff,reduceCtorEq]
 refine AW.weak hw (rs hx fun K hK=>?_)
 refine s1 (d:=dG (cA 16 (cI .u32)) lw) (aq (ak.id _ _) aA) ?_
 iterate 2 refine sa ?_
 refine s0 (aE (b':=lw) (ak.id _ _) aA) ?_
 refine sa ?_
 refine .nil (hK _ _ (AW.ret ?_))
 cases h
 exact rv2
def lE(qa:Vector Int 16)(cy:Int):Int×(Vector Int 16)→Option ((Int×(Vector Int 16))⊕((Vector Int 16))):=fun (aZ,bm)=>cnd (decide (aZ<(16:Int))) (bnd (S:=Int) (cnd (decide ((i64.wrap (aZ+(1:Int)))<(16:Int))) (gd (0≤i64.wrap (aZ+(1:Int))∧i64.wrap (aZ+(1:Int))<16) (bnd (some (u64.wrap ((qa)[(i64.wrap (aZ+(1:Int))).toNat]!))) fun x5=>some (x5))) (some ((0:Int)))) fun sx=>gd (0≤aZ∧aZ<16) (gd (0≤cy) (gd (0≤aZ∧aZ<16) (bnd (some ((bm).set! (aZ).toNat (u32.wrap (mR .u64 (ior .u64 (xP .u64 sx (32:Int)) (u64.wrap ((qa)[(aZ).toNat]!))) cy)))) fun nD=>some (.inl (i64.wrap (aZ+(1:Int)),nD)))))) (some (.inr bm))
def oE(qa:Vector Int 16)(cy:Int):Option (Vector Int 16):=bnd (bL (lE qa cy) ((0:Int),(cH))) fun bj=>some bj
set_option maxHeartbeats 4000000 in
theorem Fx {qa:Vector Int 16}{cy:Int}{r:Vector Int 16}(h:oE qa cy=some r):ax Tryz.prog 193 [dG (cA 16 (cI .u32)) qa,dI .i64 cy] (dG (cA 16 (cI .u32)) r):=by
 refine bC (rs:=[.cell 4 39]) (fun cx hx h0=>?_) Tryz.func193
 unfold oE at h
 refine rs hx fun K hK=>?_
 refine sa ?_
 refine s1 (be (F:=(cA 16 (cI .u32)).f (cH)) aA) ?_
 refine .nil (hK _ _ (rs hx fun K hK=>?_))
 refine s1 (be (F:=(cA 16 (cI .u32)).f (cH)) aA) ?_
 refine .nil (hK _ _ (AW.seq (ra hx ?_)))
 refine AW.block ?_
 obtain⟨bj,hy,h⟩:=ae h
 refine lp (S:=Int×(Vector Int 16)) (X:=(Vector Int 16)) (fun (aZ,bm)=>[(1,dI .i64 cy),(2,.pt 0 0),(4,.pt 1 0),(5,.pt 2 0),(8,dI .i64 aZ)]) (fun (aZ,bm)=>⟨[(0,dC ((cA 16 (cI .u32)).f qa)),(1,dC ((cA 16 (cI .u32)).f (cH))),(2,dC ((cA 16 (cI .u32)).f bm))],[],3⟩) (PE cx (.exit 0) (fun bj=>[(4,.pt 0 0),(5,.pt 1 0)]) fun bj=>⟨[(0,dC ((cA 16 (cI .u32)).f (cH))),(1,dC ((cA 16 (cI .u32)).f bj))],[],2⟩) hy ?_ ?_ ?_
 exact wk h0 [0,1,2] (wR rfl (wR rfl (wR rfl (wR rfl (wR rfl wTn))))) (vC rfl (vC rfl (vC rfl wVn))) wLn
 clear hy h
 rintro⟨aZ,bm⟩ y h
 dsimp only[lE] at h
 refine ra hx ?_
 refine AW.seq (cdh h rfl (fun cv h=>?_) (fun cv h=>?_))
 refine AW.skip (AW.seq (AW.block ?_))
 iterate 2 refine ra hx ?_
 refine AW.seq ?_
 obtain⟨sx,hy,h⟩:=ae h
 refine jn ((PE cx .normal (fun sx=>[(1,dI .i64 cy),(2,.pt 0 0),(4,.pt 1 0),(5,.pt 2 0),(6,dI .i64 aZ),(7,dI .u64 sx),(8,dI .i64 aZ)]) fun sx=>⟨[(0,dC ((cA 16 (cI .u32)).f qa)),(1,dC ((cA 16 (cI .u32)).f (cH))),(2,dC ((cA 16 (cI .u32)).f bm))],[],3⟩) sx) ?_ ?_
 replace h:=hy
 refine ra hx ?_
 refine cdh h rfl (fun ly h=>?_) (fun ly h=>?_)
 refine rq hx fun K hK=>?_
 iterate 2 refine sa ?_
 obtain⟨Pg,h⟩:=aD h
 have hn4:(i64.wrap (aZ+(1:Int))).toNat<16:=by omega
 refine s1 (bY Pg aA aI) ?_
 refine s1 (aT (ak.comp (ak.id _ _) (ak.vec (cI .u32) qa (i64.wrap (aZ+(1:Int))).toNat hn4) (fun _=>rfl)) aI) ?_
 refine sa ?_
 obtain⟨x5,Bq,h⟩:=ae h
 replace Bq:=bW Bq
 refine s2 (d2:=dI .u64 x5) mp (gM (congrArg (dI .u64) Bq)) ?_
 refine .nil (hK _ _ ?_)
 cases h
 exact pe0 h0 [0,1,2]
 refine AW.skip ?_
 cases h
 exact pe0 h0 [0,1,2]
 rintro ex tm' hp' ⟨rfl,hw⟩
 refine AW.weak hw (rq hx fun K hK=>?_)
 iterate 4 refine sa ?_
 obtain⟨Gs,h⟩:=aD h
 have H3:(aZ).toNat<16:=by omega
 refine s1 (bY Gs aA aI) ?_
 refine s1 (aT (ak.comp (ak.id _ _) (ak.vec (cI .u32) qa (aZ).toNat H3) (fun _=>rfl)) aI) ?_
 iterate 3 refine sa ?_
 obtain⟨H7,h⟩:=aD h
 refine s1 (T_shr H7) ?_
 refine sa ?_
 obtain⟨JQ,h⟩:=aD h
 have OZ:(aZ).toNat<16:=by omega
 refine s1 (bY JQ aA aI) ?_
 obtain⟨nD,xQ,h⟩:=ae h
 replace xQ:=bW xQ
 refine s0 (nS (b':=u32.wrap (mR .u64 (ior .u64 (xP .u64 sx (32:Int)) (u64.wrap ((qa)[(aZ).toNat]!))) cy)) (ak.comp (ak.id _ _) (ak.vec (cI .u32) bm (aZ).toNat OZ) (fun _=>rfl)) aI xQ) ?_
 refine .nil (hK _ _ (rb hx ?_))
 cases h
 exact PS.l (pe0 h0 [0,1,2])
 refine AW.exit ?_
 try dsimp only
 try simp only[aS,reduceIte,Nat.reduceEqDiff,reduceCtorEq]
 cases h
 exact PS.r ⟨by nofun,PE.i (wk h0 [1,2] (wR rfl (wR rfl wTn)) (vC rfl (vC rfl wVn)) wLn)⟩
 rintro ex tm' hp' ⟨rfl,hw⟩
 try dsimp only
 try simp only[aS,reduceIte,Nat.reduceEqDiff,reduceCtorEq]
 refine AW.weak hw (rs hx fun K hK=>?_)
 refine s1 (d:=dG (cA 16 (cI .u32)) bj) (aq (ak.id _ _) aA) ?_
 refine s0 (aE (b':=bj) (ak.id _ _) aA) ?_
 refine .nil (hK _ _ (AW.ret ?_))
 cases h
 exact rv1
def kg(aJ:Vector Int 16)(aQ:Int):Int×Int×(Vector Int 16)→Option ((Int×Int×(Vector Int 16))⊕(Int×(Vector Int 16))):=fun (aZ,bm,lq)=>cnd (decide ((0:Int)≤bm)) (gd (0≤bm∧bm<16) (bnd (some (ior .u64 (xP .u64 aZ (32:Int)) (u64.wrap ((aJ)[(bm).toNat]!)))) fun x4=>gd (u64.wrap (aQ)≠0) (gd (0≤bm∧bm<16) (bnd (some ((lq).set! (bm).toNat (u32.wrap (u64.wrap (Int.tdiv x4 (u64.wrap (aQ))))))) fun x9=>gd (u64.wrap (aQ)≠0) (some (.inl (Int.tmod x4 (u64.wrap (aQ)),i64.wrap (bm - (1:Int)),x9))))))) (some (.inr (aZ,lq)))
def nt(aJ:Vector Int 16)(aQ:Int):Option ((Vector Int 16)×Int):=bnd (bL (kg aJ aQ) ((0:Int),(15:Int),(cH))) fun (bj,iQ)=>some (iQ,u32.wrap (bj))
set_option maxHeartbeats 4000000 in
theorem Eb {aJ:Vector Int 16}{aQ:Int}{r:(Vector Int 16)×Int}(h:nt aJ aQ=some r):ax Tryz.prog 187 [dG (cA 16 (cI .u32)) aJ,dI .u32 aQ] (.tu [dG (cA 16 (cI .u32)) r.1,dI .u32 r.2]):=by
 refine bC (rs:=[.cell 4 39,.tmp 5]) (fun cx hx h0=>?_) Tryz.func187
 unfold nt at h
 refine rs hx fun K hK=>?_
 refine sa ?_
 refine s1 (be (F:=(cA 16 (cI .u32)).f (cH)) aA) ?_
 refine sa ?_
 refine .nil (hK _ _ (ra hx ?_))
 refine AW.seq (ra hx ?_)
 refine AW.block ?_
 obtain⟨y,hy,h⟩:=ae h
 refine lp (S:=Int×Int×(Vector Int 16)) (X:=Int×(Vector Int 16)) (fun (aZ,bm,lq)=>[(1,dI .u32 aQ),(2,.pt 0 0),(4,.pt 1 0),(6,dI .u64 aZ),(7,dI .i64 bm)]) (fun (aZ,bm,lq)=>⟨[(0,dC ((cA 16 (cI .u32)).f aJ)),(1,dC ((cA 16 (cI .u32)).f lq))],[],2⟩) (PE cx (.exit 0) (fun (bj,iQ)=>[(4,.pt 0 0),(6,dI .u64 bj)]) fun (bj,iQ)=>⟨[(0,dC ((cA 16 (cI .u32)).f iQ))],[],1⟩) hy ?_ ?_ ?_
 exact wk h0 [0,1] (wR rfl (wR rfl (wR rfl (wR rfl (wR rfl wTn))))) (vC rfl (vC rfl wVn)) wLn
 clear hy h
 rintro⟨aZ,bm,lq⟩ y h
 dsimp only[kg] at h
 refine AW.seq (ra hx ?_)
 refine cdh h rfl (fun cv h=>?_) (fun cv h=>?_)
 refine AW.skip (AW.seq (AW.block (rs hx fun K hK=>?_)))
 iterate 3 refine sa ?_
 obtain⟨mq,h⟩:=aD h
 have qD:(bm).toNat<16:=by omega
 refine s1 (bY mq aA aI) ?_
 refine s1 (aT (ak.comp (ak.id _ _) (ak.vec (cI .u32) aJ (bm).toNat qD) (fun _=>rfl)) aI) ?_
 iterate 2 refine sa ?_
 obtain⟨x4,qd,h⟩:=ae h
 replace qd:=bW qd
 refine s2 (d2:=dI .u64 x4) mp (gM (congrArg (dI .u64) qd)) ?_
 refine .nil (hK _ _ (rs hx fun K hK=>?_))
 iterate 4 refine sa ?_
 obtain⟨hc6,h⟩:=aD h
 refine s1 (Fo hc6) ?_
 refine sa ?_
 obtain⟨JO,h⟩:=aD h
 have G6:(bm).toNat<16:=by omega
 refine s1 (bY JO aA aI) ?_
 obtain⟨x9,vw,h⟩:=ae h
 replace vw:=bW vw
 refine s0 (nS (b':=u32.wrap (u64.wrap (Int.tdiv x4 (u64.wrap (aQ))))) (ak.comp (ak.id _ _) (ak.vec (cI .u32) lq (bm).toNat G6) (fun _=>rfl)) aI vw) ?_
 refine .nil (hK _ _ (rq hx fun K hK=>?_))
 iterate 3 refine sa ?_
 obtain⟨JQ,h⟩:=aD h
 refine s1 (DB JQ) ?_
 refine sa ?_
 refine .nil (hK _ _ (rb hx ?_))
 cases h
 exact PS.l (pe0 h0 [0,1])
 refine AW.exit ?_
 try dsimp only
 try simp only[aS,reduceIte,Nat.reduceEqDiff,reduceCtorEq]
 cases h
 exact PS.r ⟨by nofun,PE.i (wk h0 [1] (wR rfl (wR rfl wTn)) (vC rfl wVn) wLn)⟩
 obtain⟨bj,iQ⟩:=y
 rintro ex tm' hp' ⟨rfl,hw⟩
 try dsimp only
 try simp only[aS,reduceIte,Nat.reduceEqDiff,reduceCtorEq]
 refine AW.weak hw (rs hx fun K hK=>?_)
 refine s1 (d:=dG (cA 16 (cI .u32)) iQ) (aq (ak.id _ _) aA) ?_
 iterate 2 refine sa ?_
 refine s0 (aE (b':=iQ) (ak.id _ _) aA) ?_
 refine sa ?_
 refine .nil (hK _ _ (AW.ret ?_))
 cases h
 exact rv2
section
section
variable {b A B k m d:Nat}
theorem py(hb:0<b):((A % b ^ k+B % b ^ k) / b ^ k+dg b A k+dg b B k) % b=dg b (A+B) k∧((A % b ^ k+B % b ^ k) / b ^ k+dg b A k+dg b B k) / b=(A % b ^ (k+1)+B % b ^ (k+1)) / b ^ (k+1):=by
 have hp:0<b ^ k:=cr hb
 have hs:A % b ^ (k+1)+B % b ^ (k+1)=(A % b ^ k+B % b ^ k)+b ^ k*(dg b A k+dg b B k):=by
  rw[ia,ia,ui];omega
 have h1:(A % b ^ (k+1)+B % b ^ (k+1)) / b ^ k=(A % b ^ k+B % b ^ k) / b ^ k+dg b A k+dg b B k:=by
  rw[hs,yd _ _ hp];omega
 refine⟨?_,?_⟩
 ·have e:A+B=(A % b ^ (k+1)+B % b ^ (k+1))+b ^ k*(b*(A / b ^ (k+1)+B / b ^ (k+1))):=by
   have e1:=ln A (b ^ (k+1))
   have e2:=ln B (b ^ (k+1))
   have e3:b ^ k*(b*(A / b ^ (k+1)+B / b ^ (k+1)))=b ^ (k+1)*(A / b ^ (k+1))+b ^ (k+1)*(B / b ^ (k+1)):=by
    rw[←fL,←dM,ui]
   omega
  unfold dg
  rw[e,yd _ _ hp,h1]
  unfold dg
  rw[AC]
 ·rw[dM,←g9,←dM,h1]
theorem oL(hb:0<b):(A % b ^ k+B % b ^ k) / b ^ k≤1:=by
 have hp:0<b ^ k:=cr hb
 have h1:=eO A hp
 have h2:=eO B hp
 have:(A % b ^ k+B % b ^ k) / b ^ k<2:=(mN hp).2 (by omega)
 omega
theorem EX(hb:0<b):(A % b ^ k*m / b ^ k+dg b A k*m) % b=dg b (A*m) k∧(A % b ^ k*m / b ^ k+dg b A k*m) / b=A % b ^ (k+1)*m / b ^ (k+1):=by
 have hp:0<b ^ k:=cr hb
 have hs:A % b ^ (k+1)*m=A % b ^ k*m+b ^ k*(dg b A k*m):=by
  rw[ia,cz,fL]
 have h1:A % b ^ (k+1)*m / b ^ k=A % b ^ k*m / b ^ k+dg b A k*m:=by
  rw[hs,yd _ _ hp]
 refine⟨?_,?_⟩
 ·have e:A*m=A % b ^ (k+1)*m+b ^ k*(b*(A / b ^ (k+1)*m)):=by
   have e1:=ln A (b ^ (k+1))
   have e3:b ^ k*(b*(A / b ^ (k+1)*m))=b ^ (k+1)*(A / b ^ (k+1))*m:=by
    rw[←fL,←dM,←fL]
   rw[e3,←cz]
   congr 1
   omega
  have h2:dg b (A*m) k=A*m / b ^ k % b:=rfl
  rw[h2,e,yd _ _ hp,h1,AC]
 ·rw[dM,←g9,←dM,h1]
theorem z9(hb:0<b)(hm:0<m):A % b ^ k*m / b ^ k<m:=by
 have hp:0<b ^ k:=cr hb
 rw[mN hp,db]
 exact Nat.mul_lt_mul_of_pos_left (eO A hp) hm
theorem xM(hb:0<b)(hd:0<d):(A / b ^ (k+1) % d*b+dg b A k) / d=dg b (A / d) k∧(A / b ^ (k+1) % d*b+dg b A k) % d=A / b ^ k % d:=by
 have e:=c6 (b:=b) (A:=A) (k:=k)
 have hR:=ln (A / b ^ (k+1)) d
 generalize hr:A / b ^ (k+1) % d=r at hR ⊢
 generalize ht:A / b ^ (k+1) / d=t at hR
 have hrd:r<d:=by rw[←hr];exact eO _ hd
 have ha:dg b A k<b:=PY hb
 generalize dg b A k=a at e ha ⊢
 have e2:A / b ^ k=r*b+a+d*(t*b):=by
  rw[e,←hR,cz,fL];omega
 have b8:(r*b+a) / d<b:=by
  rw[mN hd]
  have:(r+1)*b≤d*b:=dZ _ hrd
  rw[cz,kG,db d b] at this
  omega
 refine⟨?_,?_⟩
 ·have:dg b (A / d) k=A / b ^ k / d % b:=by unfold dg;rw[g9,db,←g9]
  rw[this,e2,yd _ _ hd,Nat.add_mul_mod_self_right,gS b8]
 ·rw[e2,AC]
end
abbrev W(A:Nat):Vector Int 16:=vN 4294967296 16 A
theorem gU {A k:Nat}(h:k<16):(W A)[k]! =(dg 4294967296 A k:Int):=jT h
theorem dgl {A k:Nat}:dg 4294967296 A k<4294967296:=PY (by decide)
theorem G_plus {A B:Nat}(hA:A<4294967296 ^ 16)(hB:B<4294967296 ^ 16):oD (W A) (W B)=some (W (A+B),decide (A+B<4294967296 ^ 16)):=by
 have hl:=rf (b:=kj (W A) (W B)) (s0:=((0:Int),(0:Int),cH)) (fun k=>(((A % 4294967296 ^ k+B % 4294967296 ^ k) / 4294967296 ^ k:Nat),(k:Int),vN 4294967296 16 ((A+B) % 4294967296 ^ k))) 16 (((A % 4294967296 ^ 16+B % 4294967296 ^ 16) / 4294967296 ^ 16:Nat),vN 4294967296 16 ((A+B) % 4294967296 ^ 16))
  (by simp only[gj,np,r8];rfl)
  (fun k hk=>by
   have hc:=oL (b:=4294967296) (A:=A) (B:=B) (k:=k) (by decide)
   obtain⟨h1,h2⟩:=py (b:=4294967296) (A:=A) (B:=B) (k:=k) (by decide)
   have ha:=@dgl A k
   have hb:=@dgl B k
   dsimp only[kj]
   rw[cE _ _ (by omega),aM (by omega),aM (by omega),aa,aM (by omega),ct,gU hk,gU hk,iD (by omega),iD (by omega),←jX,iD (by omega),←jX,iD (by omega),xb,zP,←wV,h1,h2,BE (by decide) hk,b7 (by omega),jX]
   rfl)
  (by
   dsimp only[kj]
   rw[co _ _ (by omega)])
 unfold oD
 rw[hl,aa,gS hA,gS hB,FB (by decide)]
 dsimp only
 congr 2
 have:((((A+B) / 4294967296 ^ 16:Nat):Int)=0)↔A+B<4294967296 ^ 16:=by
  rw[Int.natCast_eq_zero,Nat.div_eq_zero_iff_lt (by decide)]
 exact im.2 this
theorem G0 {A B:Nat}(hBA:B≤A):iv (W A) (W B)=some (W (A - B)):=by
 obtain⟨D,rfl⟩:∃D,A=D+B:=⟨A - B,by omega⟩
 rw[AB]
 have hl:=rf (b:=jw (W (D+B)) (W B)) (s0:=((0:Int),(0:Int),cH)) (fun k=>(((D % 4294967296 ^ k+B % 4294967296 ^ k) / 4294967296 ^ k:Nat),(k:Int),vN 4294967296 16 (D % 4294967296 ^ k))) 16 (vN 4294967296 16 (D % 4294967296 ^ 16))
  (by simp only[gj,np,r8];rfl)
  (fun k hk=>by
   have hc:=oL (b:=4294967296) (A:=D) (B:=B) (k:=k) (by decide)
   obtain⟨h1,h2⟩:=py (b:=4294967296) (A:=D) (B:=B) (k:=k) (by decide)
   have ha:=@dgl D k
   have hb:=@dgl B k
   have hd:=@dgl (D+B) k
   generalize (D % 4294967296 ^ k+B % 4294967296 ^ k) / 4294967296 ^ k=c at h1 h2 hc ⊢
   generalize (D % 4294967296 ^ (k+1)+B % 4294967296 ^ (k+1)) / 4294967296 ^ (k+1)=c' at h2 ⊢
   dsimp only[jw]
   rw[cE _ _ (by omega),aM (by omega),aM (by omega),aa,aM (by omega),ct,gU hk,gU hk,iD (by omega),iD (by omega),b7 (by omega)]
   have hx:∃x:Nat,u64.wrap (u64.wrap ((dg 4294967296 (D+B) k:Int) - (dg 4294967296 B k:Int)) - (c:Int))=(x:Int)∧x / 9223372036854775808=c'∧x % 4294967296=dg 4294967296 D k:=by
    rw[IntKind.wrap_u64,IntKind.wrap_u64]
    refine⟨((((dg 4294967296 (D+B) k:Int) - (dg 4294967296 B k:Int)) % 18446744073709551616 - (c:Int)) % 18446744073709551616).toNat,by omega,by omega,by omega⟩
   obtain⟨x,E3,wq,Gi⟩:=hx
   rw[E3,Nz,zP,wq,Gi,BE (by decide) hk]
   rfl)
  (by
   dsimp only[jw]
   rw[co _ _ (by omega)])
 unfold iv
 rw[hl,aa,FB (by decide)]
theorem G_up {A s:Nat}(hs:s<32):pi (W A) (s:Int)=some (W (A*2 ^ s),((A % 4294967296 ^ 16*2 ^ s / 4294967296 ^ 16:Nat):Int)):=by
 have MY:2 ^ s≤2 ^ 31:=i9 (by decide) (by omega)
 have hs3:0<2 ^ s:=cr (by decide)
 have hl:=rf (b:=mz (W A) (s:Int)) (s0:=((0:Int),(0:Int),cH)) (fun k=>((A % 4294967296 ^ k*2 ^ s / 4294967296 ^ k:Nat),(k:Int),vN 4294967296 16 (A*2 ^ s % 4294967296 ^ k))) 16 ((A % 4294967296 ^ 16*2 ^ s / 4294967296 ^ 16:Nat),vN 4294967296 16 (A*2 ^ s % 4294967296 ^ 16))
  (by simp only[gj,np,r8,ic,Nat.zero_div];rfl)
  (fun k hk=>by
   have hc:=z9 (b:=4294967296) (A:=A) (k:=k) (m:=2 ^ s) (by decide) hs3
   obtain⟨h1,h2⟩:=EX (b:=4294967296) (A:=A) (k:=k) (m:=2 ^ s) (by decide)
   have ha:=@dgl A k
   have hm:dg 4294967296 A k*2 ^ s≤4294967295*2 ^ s:=dZ _ (by omega)
   generalize A % 4294967296 ^ k*2 ^ s / 4294967296 ^ k=c at h1 h2 hc ⊢
   generalize A % 4294967296 ^ (k+1)*2 ^ s / 4294967296 ^ (k+1)=c' at h2 ⊢
   dsimp only[mz]
   rw[cE _ _ (by omega),aM (by omega),aM (by omega),aa,aM (by omega),ct,gU hk,iD (by omega),Ok _ _ (by omega) (by omega),Ol,ior_n hc (by omega),xb,zP,b7 (by omega),qx _ c,h1,h2,BE (by decide) hk]
   rfl)
  (by
   dsimp only[mz]
   rw[co _ _ (by omega)])
 have hc:A % 4294967296 ^ 16*2 ^ s / 4294967296 ^ 16<2 ^ s:=z9 (by decide) hs3
 unfold pi
 rw[hl,aa,FB (by decide)]
 dsimp only
 rw[zO (by omega)]
theorem G_down {A s:Nat}(hA:A<4294967296 ^ 16)(hs:s<32):oE (W A) (s:Int)=some (W (A / 2 ^ s)):=by
 have MY:2 ^ s≤2 ^ 31:=i9 (by decide) (by omega)
 have hs3:0<2 ^ s:=cr (by decide)
 have hl:=rf (b:=lE (W A) (s:Int)) (s0:=((0:Int),cH)) (fun k=>((k:Int),vN 4294967296 16 (A / 2 ^ s % 4294967296 ^ k))) 16 (vN 4294967296 16 (A / 2 ^ s % 4294967296 ^ 16))
  (by simp only[gj,np,r8];rfl)
  (fun k hk=>by
   have ha:=@dgl A k
   have ha1:=@dgl A (k+1)
   have hd:(dg 4294967296 A (k+1)*4294967296+dg 4294967296 A k) / 2 ^ s % 4294967296=dg 4294967296 (A / 2 ^ s) k:=by
    have e1:dg 4294967296 (A / 2 ^ s) k=A / 4294967296 ^ k / 2 ^ s % 4294967296:=by
     unfold dg;rw[g9,db,←g9]
    have e2:A / 4294967296 ^ k=(dg 4294967296 A (k+1)*4294967296+dg 4294967296 A k)+2 ^ s*(4294967296*(2 ^ (32 - s)*(A / 4294967296 ^ (k+2)))):=by
     have e3:=c6 (b:=4294967296) (A:=A) (k:=k)
     have e4:=c6 (b:=4294967296) (A:=A) (k:=k+1)
     have e5:2 ^ s*(4294967296*(2 ^ (32 - s)*(A / 4294967296 ^ (k+2))))=2 ^ s*2 ^ (32 - s)*4294967296*(A / 4294967296 ^ (k+2)):=by
      simp only[fL,AA]
     rw[e5,←g8,show s+(32 - s)=32 from by omega,e3,e4,show k+1+1=k+2 from rfl,show (2:Nat) ^ 32=4294967296 from rfl]
     generalize A / 4294967296 ^ (k+2)=q
     generalize dg 4294967296 A (k+1)=d1
     generalize dg 4294967296 A k=d0
     omega
    rw[e1,e2,yd _ _ hs3,AC]
   dsimp only[lE]
   rw[cE _ _ (by omega)]
   have AY:(bnd (S:=Int) (cnd (decide ((i64.wrap ((k:Int)+(1:Int)))<(16:Int))) (gd (0≤i64.wrap ((k:Int)+(1:Int))∧i64.wrap ((k:Int)+(1:Int))<16) (bnd (some (u64.wrap ((W A)[(i64.wrap ((k:Int)+(1:Int))).toNat]!))) fun x5=>some (x5))) (some ((0:Int)))) (fun a=>some a))=some ((dg 4294967296 A (k+1):Nat):Int):=by
    rw[b7 (by omega)]
    by_cases hk1:k+1<16
    ·rw[cE _ _ (by omega),aM (by omega),aa,show ((k:Int)+1).toNat=k+1 from by omega,gU hk1,iD (by omega),aa]
    ·rw[co _ _ (by omega),aa,mh (eD hA (i9 (by decide) (by omega)))]
     rfl
   rw[nQ] at AY
   rw[AY,aa,aM (by omega),aM (by omega),aM (by omega),aa,ct,gU hk,iD (by omega),Hz ha1,HT ha ha1,CE .u64 _ _ (by show s≤64;omega),zP,hd,BE (by decide) hk,b7 (by omega)]
   rfl)
  (by
   dsimp only[lE]
   rw[co _ _ (by omega)])
 unfold oE
 rw[hl,aa,FB (by decide)]
theorem G_short {A d:Nat}(hA:A<4294967296 ^ 16)(hd:0<d)(CP:d<4294967296):nt (W A) (d:Int)=some (W (A / d),((A % d:Nat):Int)):=by
 have hl:=Oa (b:=kg (W A) (d:Int)) (s0:=((0:Int),(15:Int),cH)) (fun k=>((A / 4294967296 ^ k % d:Nat),(k:Int) - 1,vN 4294967296 16 (A / d / 4294967296 ^ k*4294967296 ^ k))) 16 ((A / 4294967296 ^ 0 % d:Nat),vN 4294967296 16 (A / d / 4294967296 ^ 0*4294967296 ^ 0))
  (by
   have h1:A / d<4294967296 ^ 16:=cp (pw _ _) hA
   simp only[eV hA,eV h1,ic,r8,Nat.zero_mod];rfl)
  (fun k hk=>by
   have ha:=@dgl A k
   have hq:=@dgl (A / d) k
   obtain⟨h1,h2⟩:=xM (b:=4294967296) (A:=A) (k:=k) (d:=d) (by decide) hd
   have hr:A / 4294967296 ^ (k+1) % d<d:=eO _ hd
   generalize A / 4294967296 ^ (k+1) % d=r at h1 h2 hr ⊢
   generalize A / 4294967296 ^ k % d=r' at h2 ⊢
   have ed:u64.wrap (d:Int)=(d:Int):=iD (by omega)
   dsimp only[kg]
   rw[cE _ _ (by omega),aM (by omega),aa,ed,aM (by omega),aM (by omega),aa,aM (by omega),show (((k+1:Nat):Int) - 1).toNat=k from by omega,gU hk,iD (by omega),Hz (by omega),HT ha (by omega),←sP,←sO,h1,h2,iD (by omega),zO hq,Ko (by decide) hk,b7 (by omega)]
   congr 4
   omega)
  (by
   dsimp only[kg]
   rw[co _ _ (by omega)])
 rw[gj,nl,nl,xu] at hl
 have hr:A % d<d:=eO _ hd
 unfold nt
 rw[hl,aa]
 dsimp only
 rw[zO (by omega)]
end
def LIM:Nat:=4294967296 ^ 16
theorem DJ:LIM=4294967296 ^ 16:=rfl
theorem wF:0<LIM:=by decide
theorem W_zero:W 0=cH:=r8
theorem z16:(#v[(0:Int),0,0,0,0,0,0,0,0,0,0,0,0,0,0,0]:Vector Int 16)=W 0:=by
 rw[W_zero];rfl
theorem r16:cH=W 0:=r8.symm
theorem Dz {A B:Nat}(hA:A<LIM)(hB:B<LIM):W A=W B↔A=B:=⟨vN_inj hA hB,fun h=>by rw[h]⟩
def FT(A B:Nat):Int:=if A<B then -1 else if B<A then 1 else 0
theorem G_cmp(x y:Int):gH x y=some (if x<y then -1 else if y<x then 1 else 0):=by
 have hn:∀z:Int,gi z=some false:=fun z=>by unfold gi;simp
 unfold gH
 rw[hn,hn,aa,aa,aK,aK,eg,eg]
 split
 ·rfl
 ·split <;> rfl
theorem AT {A B k:Nat}(he:A / 4294967296 ^ (k+1)=B / 4294967296 ^ (k+1))(h:dg 4294967296 A k<dg 4294967296 B k):A<B:=by
 have e1:=c6 (b:=4294967296) (A:=A) (k:=k)
 have e2:=c6 (b:=4294967296) (A:=B) (k:=k)
 have h1:A / 4294967296 ^ k<B / 4294967296 ^ k:=by
  rw[e1,e2,he];exact Dq h _
 rcases hE A B with h2|h2
 ·exact h2
 ·exact absurd (Nat.div_le_div_right h2) (Nat.not_le.2 h1)
theorem BW {A B:Nat}(hA:A<LIM)(hB:B<LIM):iu (W A) (W B)=some (FT A B):=by
 rw[DJ] at hA hB
 obtain⟨x,hl,hx⟩:=vp (b:=kr (W A) (W B)) (fun s=>∃k:Nat,s=(k:Int) - 1∧k≤16∧A / 4294967296 ^ k=B / 4294967296 ^ k) (fun s=>(s+1).toNat) (fun x=>match x with| .inl r=>r=FT A B| .inr _=>A=B)
  (by
   rintro s ⟨k,rfl,hk,he⟩
   cases k with
   |zero=>
    right
    refine⟨(Sum.inr ():Int⊕Unit),?_,?_⟩
    ·dsimp only[kr]
     rw[co _ _ (by omega)]
    ·simpa using he
   |succ k=>
    have uW:k<16:=by omega
    have e:((k+1:Nat):Int) - 1=(k:Int):=by omega
    rw[e]
    dsimp only[kr]
    rw[cE _ _ (by omega),aM (by omega),aM (by omega),ct,gU uW,gU uW]
    by_cases hd:dg 4294967296 A k=dg 4294967296 B k
    ·left
     refine⟨(k:Int) - 1,?_,⟨k,rfl,by omega,?_⟩,by omega⟩
     ·rw[co _ _ (by rw[hd];simp),b7 (by omega)]
     ·rw[c6 (b:=4294967296) (A:=A) (k:=k),c6 (b:=4294967296) (A:=B) (k:=k),he,hd]
    ·right
     refine⟨(Sum.inl (FT A B):Int⊕Unit),?_,rfl⟩
     rw[cE _ _ (by omega),aM (by omega),aM (by omega),G_cmp,aa]
     congr 3
     unfold FT
     rcases Nat.lt_or_gt_of_ne hd with h|h
     ·have:=AT he h
      rw[if_pos (by omega),if_pos this]
     ·have:=AT he.symm h
      rw[if_neg (by omega),if_pos (by omega),if_neg (by omega),if_pos this]) (15:Int) ⟨16,rfl,aB _,by rw[eV hA,eV hB]⟩
 unfold iu
 rw[hl,aa]
 cases x with
 |inl r=>obtain rfl:r=_:=hx;rfl
 |inr u=>
  obtain rfl:A=B:=hx
  unfold FT
  simp
def szp(b A n:Nat):Prop:=A<b ^ n∧(0<n→b ^ (n - 1)≤A)
theorem No {b A n m:Nat}(hb:0<b)(h:szp b A n)(h':szp b A m):n=m:=by
 have key:∀{n m:Nat},szp b A n→szp b A m→m≤n:=by
  intro n m h h'
  rcases hE n m with h1|h1
  ·have h2:=h'.2 (by omega)
   have h3:b ^ n≤b ^ (m - 1):=i9 hb (by omega)
   have:=h.1
   omega
  ·exact h1
 have:=key h h'
 have:=key h' h
 omega
theorem I9 {b A n k:Nat}(hb:0<b)(h:szp b A n)(hA:A<b ^ k):n≤k:=by
 rcases hE k n with h1|h1
 ·have h2:=h.2 (by omega)
  have h3:b ^ k≤b ^ (n - 1):=i9 hb (by omega)
  omega
 ·exact h1
theorem AH {A:Nat}(hA:A<LIM):∃n:Nat,n≤16∧fb (W A)=some (n:Int)∧szp 4294967296 A n:=by
 rw[DJ] at hA
 obtain⟨x,hl,n,rfl,hn,hs⟩:=vp (b:=lD (W A)) (fun s=>∃n:Nat,s=(n:Int)∧n≤16∧A<4294967296 ^ n) (fun s=>s.toNat) (fun x=>∃n:Nat,x=(n:Int)∧n≤16∧szp 4294967296 A n)
  (by
   rintro s ⟨n,rfl,hn,b8⟩
   cases n with
   |zero=>
    right
    refine⟨_,?_,0,rfl,by omega,b8,fun h=>by omega⟩
    dsimp only[lD]
    rw[co _ _ (by omega),aa,aK]
   |succ k=>
    have hk:k<16:=by omega
    have e:i64.wrap (((k+1:Nat):Int) - 1)=(k:Int):=by rw[b7 (by omega)];omega
    dsimp only[lD]
    rw[cE _ _ (by omega),e,aM (by omega),aa,ct,gU hk,eg]
    by_cases hd:dg 4294967296 A k=0
    ·left
     refine⟨(k:Int),by rw[if_pos (by omega)],⟨k,rfl,by omega,?_⟩,by omega⟩
     unfold dg at hd
     have h1:A / 4294967296 ^ k<4294967296:=by
      rw[mN (cr (by decide)),db,←dM];exact b8
     rw[gS h1] at hd
     exact (Nat.div_eq_zero_iff_lt (cr (by decide))).1 hd
    ·right
     refine⟨_,by rw[if_neg (by omega)],k+1,rfl,hn,b8,fun _=>?_⟩
     rcases hE A (4294967296 ^ k) with h|h
     ·exact absurd (mh h) hd
     ·exact h) (16:Int) ⟨16,rfl,aB _,hA⟩
 refine⟨n,hn,?_,hs⟩
 unfold fb
 rw[hl,aa]
def Dh:av:=⟨true,false,W 0⟩
def enc(z:Int):av:=if z.natAbs<LIM then⟨false,decide (z<0),W z.natAbs⟩ else Dh
theorem ro {z:Int}(h:z.natAbs<LIM):enc z=⟨false,decide (z<0),W z.natAbs⟩:=if_pos h
theorem C4 {z:Int}(h:¬z.natAbs<LIM):enc z=Dh:=if_neg h
def cR(x:av):Bool:=!x.vBad&&(!decide (x.vW=W 0)||!x.vNeg)
def okI(x:av):Prop:=∀j:Nat,j<16→0≤x.vW[j]!∧x.vW[j]! <4294967296
theorem tW(z:Int):okI (enc z):=by
 have key:∀(A j:Nat),j<16→0≤(W A)[j]!∧(W A)[j]! <4294967296:=fun A j hj=>by
  rw[gU hj];have:=@dgl A j;omega
 unfold enc
 split
 ·exact key _
 ·exact key 0
theorem bh {z:Int}(h:z.natAbs<LIM):cR (enc z)=true:=by
 rw[ro h]
 unfold cR
 dsimp only
 by_cases hz:z=0
 ·subst hz;simp
 ·have:¬W z.natAbs=W 0:=fun e=>hz (by have:=(Dz h wF).1 e;omega)
  simp[this]
theorem td {x:av}(h:okI x)(hg:cR x=true):∃z:Int,z.natAbs<LIM∧x=enc z:=by
 obtain⟨A,hA,hv⟩:=vN_of (b:=4294967296) (n:=16) (by decide) x.vW (fun j hj=>h j hj)
 obtain⟨bad,neg,w⟩:=x
 dsimp only at hv
 subst hv
 unfold cR at hg
 simp only[bp,Bool.or_eq_true,v3,decide_eq_false_iff_not] at hg
 obtain⟨rfl,hg⟩:=hg
 have KZ:A<LIM:=hA
 cases neg with
 |false=>
  refine⟨(A:Int),KZ,?_⟩
  rw[ro (by simpa using KZ)]
  simp
 |true=>
  refine⟨-(A:Int),by simpa using KZ,?_⟩
  have h0:A≠0:=by
   rintro rfl
   rcases hg with h|h
   ·exact h rfl
   ·cases h
  rw[ro (by simpa using KZ)]
  have:-(A:Int)<0:=by omega
  simp[this,yc h0]
theorem qP:cR Dh=false:=rfl
theorem za {z y:Int}(hz:z.natAbs<LIM)(hy:y.natAbs<LIM)(h:enc z=enc y):z=y:=by
 rw[ro hz,ro hy] at h
 simp only[av.mk.injEq,true_and] at h
 obtain⟨h1,h2⟩:=h
 have h3:=(Dz hz hy).1 h2
 have h4:=im.1 h1
 omega
theorem PP {A:Nat}(hA:A<LIM)(neg:Bool):(⟨false,neg&&!decide (A=0),W A⟩:av)=enc (bif neg then -(A:Int) else A):=by
 cases neg with
 |false=>rw[ro (by simpa using hA)];simp
 |true=>
  rw[ro (by simpa using hA)]
  simp only[Bool.true_and,fx,Int.natAbs_neg,dQ,av.mk.injEq,true_and,and_true]
  by_cases h:A=0
  ·subst h;simp
  ·have:-(A:Int)<0:=by omega
   simp[h,this,yc h]
theorem Lt(x:av):lT x=some (if x.vBad then decide (x.vW=W 0)&&!x.vNeg else !decide (x.vW=W 0)||!x.vNeg):=by
 unfold lT
 rw[aa,z16]
 cases x.vBad <;> cases decide (x.vW=W 0) <;> rfl
theorem QW {l:List av}(hl:l.length<1000000):c0 l=some (l.all cR):=by
 obtain⟨x,h1,hx⟩:=vp (b:=nH l) (fun s=>∃n:Nat,s=(n:Int)∧n≤l.length∧(l.take n).all cR=true) (fun s=>l.length - s.toNat) (fun x=>match x with| .inl r=>r=false∧l.all cR=false| .inr _=>l.all cR=true)
  (by
   rintro s ⟨n,rfl,hn,ha⟩
   dsimp only[nH]
   by_cases b8:n<l.length
   ·rw[cE _ _ (by omega),aM (by omega),ct,Lt,aa]
    have hg:cnd (l[n]!.vBad) (some true) (some (!(if l[n]!.vBad then decide (l[n]!.vW=W 0)&&!l[n]!.vNeg else !decide (l[n]!.vW=W 0)||!l[n]!.vNeg)))=some (!cR l[n]!):=by
     unfold cR
     cases l[n]!.vBad <;> rfl
    rw[hg,aa]
    have CH:(l.take (n+1)).all cR=((l.take n).all cR&&cR l[n]!):=by
     rw[cO l n b8,List.take_succ_eq_append_getElem b8,mi]
     simp
    cases hgb:cR l[n]! with
    |true=>
     left
     refine⟨((n+1:Nat):Int),?_,⟨n+1,rfl,b8,by rw[CH,ha,hgb];rfl⟩,by omega⟩
     rw[cj,aK,b7 (by omega)]
     rfl
    |false=>
     right
     refine⟨_,rfl,rfl,?_⟩
     rw[←xr (n+1) l,mi,CH,hgb]
     simp
   ·right
    refine⟨_,by rw[co _ _ (by omega)],?_⟩
    rw[iP (by omega)] at ha
    exact ha) (0:Int) ⟨0,rfl,cX _,by simp⟩
 unfold c0
 rw[h1,aa]
 cases x with
 |inl r=>obtain⟨rfl,h2⟩:=hx;rw[h2]
 |inr u=>rw[show l.all cR=true from hx]
theorem jR {A:Nat}(hA:A<LIM)(neg:Bool):bV neg (W A)=some (enc (bif neg then -(A:Int) else A)):=by
 unfold bV
 rw[z16,←PP hA]
 cases neg with
 |true=>
  rw[c7,aa]
  simp only[aa,Dz hA wF,Bool.true_and,decide_not]
 |false=>rfl
theorem Lx:eW=some Dh:=by unfold eW;rw[r16];rfl
theorem all2g(x y:av):([x,y].all cR)=(cR x&&cR y):=by simp
theorem all1g(x:av):([x].all cR)=cR x:=by simp
theorem uu(x y:av):c0 [x,y]=some (cR x&&cR y):=by rw[QW (by simp),all2g]
theorem uw(x:av):c0 [x]=some (cR x):=by rw[QW (by simp),all1g]
theorem mg {z:Int}(h:z.natAbs<LIM):(enc z).vW=W z.natAbs:=by rw[ro h]
theorem fq {z:Int}(h:z.natAbs<LIM):(enc z).vNeg=decide (z<0):=by rw[ro h]
theorem G_Add {a c:Int}(ha:a.natAbs<LIM)(hc:c.natAbs<LIM):jz (enc a) (enc c)=some (enc (a+c)):=by
 unfold jz
 rw[uu,bh ha,bh hc,aa]
 simp only[bc,cj,aK,mg ha,mg hc,fq ha,fq hc]
 rw[G_plus (by rw[←DJ];exact ha) (by rw[←DJ];exact hc),aa,BW ha hc,aa,←DJ]
 dsimp only
 by_cases hs:decide (a<0)=decide (c<0)
 ·have HZ:=im.1 hs
  rw[hs,vZ,c7]
  by_cases b8:a.natAbs+c.natAbs<LIM
  ·rw[aF b8,cj,aK,jR b8,aa]
   congr 2
   by_cases h:c<0
   ·simp only[h,nk,fx];omega
   ·simp only[h,nj,cond_false];omega
  ·rw[bf b8,lm,c7,Lx,aa,C4 (by omega)]
 ·have HZ:¬((a<0)↔(c<0)):=fun h=>hs (im.2 h)
  have hb:(decide (a<0) == decide (c<0))=false:=Dp.2 hs
  rw[hb,aK]
  unfold FT
  by_cases h1:a.natAbs<c.natAbs
  ·rw[if_pos h1,co _ _ (by omega),G0 (lj h1),aa,jR (by omega),aa]
   congr 2
   by_cases h:c<0
   ·simp only[h,nk,fx];omega
   ·simp only[h,nj,cond_false];omega
  ·have h2:(0:Int)≤(if a.natAbs<c.natAbs then -1 else if c.natAbs<a.natAbs then 1 else 0):=by
    rw[if_neg h1];split <;> omega
   rw[cE _ _ h2,G0 (by omega),aa,jR (by omega),aa]
   congr 2
   by_cases h:a<0
   ·simp only[h,nk,fx];omega
   ·simp only[h,nj,cond_false];omega
theorem MT {x y:av}(h:(cR x&&cR y)=false):jz x y=some Dh:=by
 unfold jz
 rw[uu,h,aa,lm,c7,Lx,aa]
theorem Q1 {a:Int}(ha:a.natAbs<LIM):mA (enc a)=some (enc (-a)):=by
 unfold mA
 rw[uw,bh ha,aa,cj,aK,mg ha,fq ha,jR ha,aa]
 congr 2
 by_cases h:a<0
 ·simp only[h,nk,cj,cond_false];omega
 ·simp only[h,nj,lm,fx];omega
theorem G_Sub {a c:Int}(ha:a.natAbs<LIM)(hc:c.natAbs<LIM):nY (enc a) (enc c)=some (enc (a - c)):=by
 unfold nY
 rw[Q1 hc,aa,G_Add ha (by omega),aa]
 rfl
theorem wh {a:Int}(ha:a.natAbs<LIM):fG (enc a)=some a.sign:=by
 unfold fG
 rw[uw,bh ha,aa,cj,aK,aa,mg ha,fq ha,z16]
 simp only[Dz ha wF]
 rcases yb a 0 with h|h|h
 ·rw[co _ _ (by omega),cE _ _ h,Az h]
 ·subst h;rfl
 ·rw[co _ _ (by omega),co _ _ (by omega),uh h]
end
end Go.Proofs.YtaedcknhkjpmlaaGreat
