/-
  Lemmas, part 2. Conditions: none.
-/
import Derived.Test.YtaedcknhkjpmlaaGreatA1
import Derived.Laws.MakeOwn
import Derived.Laws.CopyRow
import Derived.Test.YtaedcknhkjpmlaaGreatProg
set_option linter.all false
set_option maxRecDepth 100000
namespace Go.Proofs.YtaedcknhkjpmlaaGreat
open Go.RowKit Go.IntKind
noncomputable section
section
def dC(es:List E):List D:=es.map D.e
theorem O6(σ:Nat→Nat)(es:List E):(dC es).map (D.renC σ)=dC es:=by
 unfold dC;rw[px];exact rN fun _ _=>rfl
theorem eK(es:List E):(dC es).length=es.length:=bT _
theorem FT {p:D→Bool}(h:∀e,p (.e e)=true)(es:List E):(dC es).all p=true:=by
 unfold dC;rw[List.all_map];exact cX.2 fun e _=>h e
structure am {β:Type}(F:List E)(c':Cd β)(o:Nat)(b:β)(F':β→List E):Prop where
 le:o+c'.sz≤F.length
 g:(F.drop o).take c'.sz=c'.f b
 p:∀y,F.take o++c'.f y++F.drop (o+c'.sz)=F' y
section
variable {α β γ:Type} {F:List E}
theorem am.id(c:Cd α)(x:α):am (c.f x) c 0 x c.f:=
 ⟨by rw[c.h];omega,by rw[pR,g6 (by rw[c.h];exact aB _)],fun y=>by rw[CA,bJ,Ar (by rw[c.h];exact aB _),mU,rM]⟩
theorem am.comp {c1:Cd α}{c2:Cd β}{o1 o2:Nat}{b1:α}{b2:β}{F1:α→List E}{P2:β→List E}{P:β→α}(h1:am F c1 o1 b1 F1)(h2:am (c1.f b1) c2 o2 b2 P2)(hp:∀y,P2 y=c1.f (P y)):am F c2 (o1+o2) b2 (fun y=>F1 (P y)):=by
 have l1:=h1.le
 have l2:=h2.le
 rw[c1.h] at l2
 refine⟨by omega,?_,fun y=>?_⟩
 ·rw[←h2.g,←h1.g,←pQ,List.drop_take,List.take_take,rL (by omega)]
 ·rw[←h1.p (P y),←hp y,←h2.p y,←h1.g,List.take_take,rL (by omega),List.take_add]
  have e:((F.drop o1).take c1.sz).drop (o2+c2.sz)++F.drop (o1+c1.sz)=F.drop (o1+o2+c2.sz):=by
   have e1:F.drop (o1+c1.sz)=(F.drop o1).drop c1.sz:=(pQ ..).symm
   rw[e1,←List.drop_append_of_le_length (by rw[ey,fB];omega),wA,pQ,wb]
  rw[←e]
  simp only[dy]
theorem am.of {c':Cd β}{o:Nat}{b:β}{F':β→List E}(A C:List E)(hA:A.length=o)(hF:F=A++(c'.f b++C))(hp:∀y,F' y=A++(c'.f y++C)):am F c' o b F':=by
 subst hA hF
 refine⟨by simp[c'.h],?_,fun y=>?_⟩
 ·rw[wz,yk (by rw[c'.h];exact aB _),g6 (by rw[c'.h];exact aB _)]
 ·rw[hp,t9,←pQ,wz,←c'.h b,wz,dy]
theorem am.seq [Inhabited α](c:Cd α)(l:List α)(i:Nat)(h:i<l.length):am (l.flatMap c.f) c (i*c.sz) l[i]! (fun y=>(l.set i y).flatMap c.f):=by
 have hl:(l.flatMap c.f).length=l.length*c.sz:=im c.f c.h l
 have hm:(i+1)*c.sz≤l.length*c.sz:=dx _ h
 rw[cp,jZ] at hm
 refine⟨by rw[hl];exact hm,?_,fun y=>?_⟩
 ·have:=jX c.f c.h (l.drop i) 1
  rw[jZ] at this
  rw[nz c.f c.h,this,HU h,cz l i h,List.take_succ_cons,CA,qK,List.flatMap_nil,rM]
 ·rw[jX c.f c.h,show i*c.sz+c.sz=(i+1)*c.sz by rw[cp,jZ],nz c.f c.h,List.set_eq_take_append_cons_drop,if_pos h,List.flatMap_append,qK,dy]
theorem xI [Inhabited α]{n:Nat}(v:Vector α n){i:Nat}(h:i<n):v.toList[i]! =v[i]! :=by
 rw[cz v.toList i (by rw[qJ];exact h),cz v i h,Vector.getElem_toList]
theorem vec_set {n:Nat}(v:Vector α n)(i:Nat)(y:α):(v.set! i y).toList=v.toList.set i y:=by
 show (v.setIfInBounds i y).toList=_
 exact Vector.toList_setIfInBounds ..
theorem am.vec [Inhabited α]{n:Nat}(c:Cd α)(v:Vector α n)(i:Nat)(h:i<n):am ((cA n c).f v) c (i*c.sz) v[i]! (fun y=>(cA n c).f (v.set! i y)):=by
 have:=am.seq c v.toList i (by rw[qJ];exact h)
 rw[xI v h] at this
 refine⟨this.le,this.g,fun y=>?_⟩
 rw[show (cA n c).f (v.set! i y)=(v.set! i y).toList.flatMap c.f from rfl,vec_set]
 exact this.p y
end
section
variable {P:Program} {tb:TypeId→Option TyE} {dr:Bool} {ty:TypeId} {ev:Operand→D} {x y:Operand} {vs:List (Nat×List D)} {lv:List (Nat×Nat×Nat×TypeId)} {N k o:Nat} {F:List E} {β:Type} {c':Cd β} {b:β} {F':β→List E} {t:TypeId} {i:TyE}
theorem au(L:am F c' o b F')(ht:tb t=some i)(hg:i.ty.agg=true:=by exact rfl)(hz:c'.sz=i.size:=by exact rfl)(hx:ev x=.pt k o:=by exact rfl)(hv:vs.lookup k=some (dC F):=by exact rfl)(hk:Nat.ble (k+1) N=true:=by exact rfl):AVC P tb dr (.load t x) ty ev ⟨vs,lv,N⟩ (Kq (dG c' b) ⟨vs,lv,N⟩):=by
 rw[qe,hx,nR,ht,hv]
 simp only[hg]
 refine⟨dq hk,by rw[eK,←hz];exact L.le,?_⟩
 have:((dC F).drop o).take i.size=(c'.f b).map D.e:=by
  unfold dC
  rw[←List.map_drop,←Aq,←hz,L.g]
 rw[this]
 exact Kq.here _ _
theorem aW {e:E}(L:am F c' o b F')(ht:tb t=some i)(he:c'.f b=[e]:=by exact rfl)(hg:i.ty.agg=false:=by exact rfl)(hx:ev x=.pt k o:=by exact rfl)(hv:vs.lookup k=some (dC F):=by exact rfl)(hk:Nat.ble (k+1) N=true:=by exact rfl):AVC P tb dr (.load t x) ty ev ⟨vs,lv,N⟩ (Kq (.e e) ⟨vs,lv,N⟩):=by
 have hs:c'.sz=1:=by rw[←c'.h b,he];rfl
 have DO:=L.g
 have hle:=L.le
 rw[hs] at DO hle
 rw[he] at DO
 rw[qe,hx,nR,ht,hv]
 simp only[hg]
 refine⟨dq hk,.e e,?_,Kq.here _ _⟩
 unfold dC
 rw[ek]
 have:F[o]? =some e:=by
  have h0:(F.drop o)[0]? =F[o]? :=by rw[nA,mf]
  have h1:((F.drop o).take 1)[0]? =(F.drop o)[0]? :=by rw[gM];rfl
  rw[←h0,←h1,DO]
  rfl
 rw[this];rfl
theorem aE {b':β}(L:am F c' o b F')(ht:tb t=some i)(hy:(ev y).cells=some (dC (c'.f b')):=by exact rfl)(hz:c'.sz=i.size:=by exact rfl)(hx:ev x=.pt k o:=by exact rfl)(hv:vs.lookup k=some (dC F):=by exact rfl):AVC P tb dr (.store t x y) ty ev ⟨vs,lv,N⟩ (Kq .top ⟨(k,dC (F' b'))::vs,lv,N⟩):=by
 rw[Cz,hx,yS,ht,hv,hy]
 have hl:(dC (c'.f b')).length=i.size:=by rw[eK,c'.h,hz]
 refine⟨hl,by rw[eK,←hz];exact L.le,?_⟩
 have:(dC F).take o++dC (c'.f b')++(dC F).drop (o+(dC (c'.f b')).length)=dC (F' b'):=by
  rw[hl,←hz,←L.p b']
  unfold dC
  simp only[jz,Aq,List.map_drop]
 rw[this]
 exact Kq.here _ _
theorem nk {b':β}{γ:Type}{c:Cd γ}{nw nm:γ}(L:am F c' o b F')(ht:tb t=some i)(Mh:nw=nm)(hF:F' b'=c.f nw:=by exact rfl)(hy:(ev y).cells=some (dC (c'.f b')):=by exact rfl)(hz:c'.sz=i.size:=by exact rfl)(hx:ev x=.pt k o:=by exact rfl)(hv:vs.lookup k=some (dC F):=by exact rfl):AVC P tb dr (.store t x y) ty ev ⟨vs,lv,N⟩ (Kq .top ⟨(k,dC (c.f nm))::vs,lv,N⟩):=by
 have:=aE (P:=P) (dr:=dr) (ty:=ty) (lv:=lv) (N:=N) L ht hy hz hx hv
 rw[hF,Mh] at this
 exact this
theorem bm(ht:tb t=some i)(hz:i.zero.map E.lit=F:=by kernel_rfl):AVC P tb dr (.alloc t) ty ev ⟨vs,lv,N⟩ (Kq (.pt N 0) ⟨(N,dC F)::vs,lv,N+1⟩):=by
 subst hz
 have:=tM (P:=P) (dr:=dr) (ty:=ty) (ev:=ev) (vs:=vs) (lv:=lv) (N0:=N) ht
 unfold dC
 rw[px]
 exact this
theorem T_boxV(h:(ev x).cells=some (dC F):=by exact rfl):AVC P tb dr (.box t x) ty ev ⟨vs,lv,N⟩ (Kq (.pt N 0) ⟨(N,dC F)::vs,lv,N+1⟩):=gD h
variable {hp:Hp} {j:TyE} {e:TypeId} {n:Nat} {kn:IntKind} {v:Int}
variable {s tt:TypeId} {fi:Nat} {fs:List (Nat×TypeId)}
inductive FL (tb:TypeId→Option TyE) (fs:List (Nat×TypeId)):List E→List (Nat×List D)→List E→Prop
 |nil (F:List E):FL tb fs F [] F
 |cons {γ:Type} {c:Cd γ} {F F2:List E} {o i:Nat} {b y:γ} {F':γ→List E} {rest:List (Nat×List D)} {cs:List D} (L:am F c o b F') (hp:nP tb fs i=some (o,c.sz)) (hc:cs=dC (c.f y)) (h:FL tb fs (F' y) rest F2):FL tb fs F ((i,cs)::rest) F2
theorem FL.fill {F F2:List E}{qs:List (Nat×List D)}(h:FL tb fs F qs F2):f5 (nP tb fs) (dC F) qs=some (dC F2):=by
 induction h with
 |nil F=>rfl
 |cons L hp hc h ih=>
  rename_i c F F2 o i b y F' rest cs
  subst hc
  unfold f5
  rw[hp]
  dsimp only
  have hl:(dC (c.f y)).length=c.sz:=by rw[eK,c.h]
  rw[if_neg (by rw[hl,eK];have:=L.le;omega),hl,←ih]
  congr 1
  rw[←L.p y]
  unfold dC
  simp only[jz,Aq,List.map_drop]
theorem g8 {ps:List (Nat×Operand)}{qs:List (Nat×List D)}{F2:List E}(h:FL tb fs F qs F2)(ht:tb t=some i)(h0:i.zero.map E.lit=F:=by kernel_rfl)(hi:i.ty=.struct fs:=by exact rfl)(ha:(fs.all fun f=>(tb f.2).isSome)=true:=by exact rfl)(ka:lU (ps.map fun p=>(p.1,ev p.2))=some qs:=by exact rfl):AVC P tb dr (.build t ps.toArray) ty ev hp (Kq (.ag (dC F2)) hp):=by
 subst h0
 rw[u2,sF,ht,ka]
 simp only[hi]
 have:(i.zero.map fun v=>D.e (.lit v))=dC (i.zero.map E.lit):=by unfold dC;rw[px];rfl
 rw[this,h.fill]
 exact⟨fun f hf=>(cX.1 ha) f hf,Kq.here _ _⟩
theorem vC {σ:Nat→Nat}{m:Nat}{l:List (Nat×List D)}{F:List E}(h1:vs.lookup (σ k)=some (dC F))(hl:wkV σ m vs l)(h0:Nat.ble (k+1) m=true:=by exact rfl):wkV σ m vs ((k,dC F)::l):=
 ⟨⟨ltb h0,⟨_,h1,by rw[O6];exact qj _⟩,FT (fun _=>rfl) _,FT (fun _=>rfl) _⟩,hl⟩
def rnV(ρ:Nat→Nat):List (Nat×List D)→List (Nat×List D)→Prop
 |[],[]=>True
 |p::l,q::l'=>(ρ p.1=q.1∧p.2.map (D.renC ρ)=q.2∧p.2.all D.okC=true)∧rnV ρ l l'
 |_,_=>False
theorem rnV.map {ρ:Nat→Nat}:∀{l l':List (Nat×List D)},rnV ρ l l'→l.map (fun p=>(ρ p.1,p.2.map (D.renC ρ)))=l'∧(l.all fun p=>p.2.all D.okC)=true
 |[],[],_=>⟨rfl,rfl⟩
 |p::l,q::l',h=>by
  obtain⟨h1,h2⟩:=rnV.map h.2
  obtain⟨a,b,c⟩:=h.1
  refine⟨?_,by rw[cH,c,h2];rfl⟩
  rw[dJ,h1,a,b]
 |[],_::_,h=>h.elim
 |_::_,[],h=>h.elim
theorem rvN {ρ:Nat→Nat}:rnV ρ [] []:=trivial
theorem rvC {ρ:Nat→Nat}{k k2:Nat}{F:List E}{l l':List (Nat×List D)}(h:rnV ρ l l')(hk:ρ k=k2:=by exact rfl):rnV ρ ((k,dC F)::l) ((k2,dC F)::l'):=⟨⟨hk,O6 _ _,FT (fun _=>rfl) _⟩,h⟩
theorem F9 {x:Operand}{f:FuncId}{aS:List Operand}{ts:Array TypeId}{Kp:List D}{r r':D}{Dc nF vs KU vs2:List (Nat×List D)}{Dd rj lv De:List (Nat×Nat×Nat×TypeId)}{m n' N N2:Nat}(os:List Nat)
  (AH:ev x=.e (.lit (.func (.func f) #[] #[]))) (hc:HC P f Kp ⟨Dc,Dd,m⟩ r ⟨nF,rj,n'⟩) (ha:frA (fun i=>os.getD i 0) m (aS.map ev) Kp) (hv:wkV (fun i=>os.getD i 0) m vs Dc) (hl:wkL (fun i=>os.getD i 0) m lv Dd) (hrn:rnV (rn os m N) nF KU)
  (o4:r.ren (rn os m N)=r') (hr:r.okF=true) (hos:os.length=m:=by exact rfl) (FA:os.Nodup:=by decide) (bX:(os.all fun o=>Nat.ble (o+1) N)=true:=by exact rfl)
  (Hb:KU++vs.filter (fun p=>!os.contains p.1)=vs2:=by exact rfl) (Mi:frL (rn os m N) os rj lv=De:=by exact rfl) (hN:N+(n' - m)=N2:=by exact rfl)
  (hh:hvB tb ⟨.value x,aS.toArray,ts⟩=true:=by kernel_rfl):AVC P tb dr (.call ⟨.value x,aS.toArray,ts⟩) ty ev ⟨vs,lv,N⟩ (Kq r' ⟨vs2,De,N2⟩):=
 T_callH AH (HC.fr os hc ha hv hl hos FA bX hr hrn.map.2 o4 (by unfold frV;rw[hrn.map.1,Hb]) Mi hN) rfl hh
theorem ex_G {α:Type}(c:Cd α)(a:α):D.ex (dG c a)=dG c a:=by
 show D.ag (((c.f a).map D.e).map D.exC)=_
 rw[px];rfl
theorem cD {α:Type}(c:Cd α)(a:α):(D.ex (dG c a)).le (dG c a):=by rw[ex_G];exact ao _
theorem vf {off z m:Nat}(hb:0≤v∧v<(n:Int))(ht:tb t=some i)(he:tb e=some j)(hi:i.ty=.slice e:=by exact rfl)(hx:ev x=.ow m off z n:=by exact rfl)(hz:z=j.size:=by exact rfl)(hy:ev y=dI kn v:=by exact rfl):AVC P tb dr (.indexAddr t x y) ty ev hp (Kq (.pt m (off+v.toNat*j.size)) hp):=by
 rw[tC,hx,hy,rT,ht]
 simp only[hi,he]
 exact⟨hz,hb,Kq.here _ _⟩
end
section
variable {P:Program} {tb:TypeId→Option TyE}
structure EqC(tb:TypeId→Option TyE)(d:Nat)(t:TypeId){α:Type}(c:Cd α)(us:α→List Value):Prop where
 hf:∀x,c.f x=(us x).map E.lit
 ft:∀x,nd tb d t (us x)
 inj:∀x y,us x=us y↔x=y
theorem EqC.int {d:Nat}{t:TypeId}{k:IntKind}{i:TyE}(ht:tb t=some i)(hi:i.ty=.int k:=by exact rfl):EqC tb (d+1) t (cI k) (fun n=>[.int k n]):=
 ⟨fun _=>rfl,fun n=>by unfold nd;rw[ht];simp only[hi];exact⟨n,rfl⟩,fun x y=>by simp⟩
theorem EqC.bool {d:Nat}{t:TypeId}{i:TyE}(ht:tb t=some i)(hi:i.ty=.bool:=by exact rfl):EqC tb (d+1) t cB (fun n=>[.bool n]):=
 ⟨fun _=>rfl,fun n=>by unfold nd;rw[ht];simp only[hi];exact⟨n,rfl⟩,fun x y=>by simp⟩
theorem EqC.len {d:Nat}{t:TypeId}{α:Type}{c:Cd α}{us:α→List Value}(h:EqC tb d t c us)(x:α):(us x).length=c.sz:=by
 rw[←c.h x,h.hf,bT]
theorem D4 {α:Type}{f:α→List Value}{z:Nat}(hz:∀a,(f a).length=z):∀l:List α,(l.flatMap f).length=l.length*z
 |[]=>by simp
 |a::l=>by rw[qK,cR,hz,D4 hz l,qM,cp,jZ,pT]
theorem GJ {α:Type}{f:α→List Value}{z:Nat}(hz:∀a,(f a).length=z):∀(l:List α) (i:Nat) (h:i<l.length),((l.flatMap f).drop (i*z)).take z=f l[i]
 |a::l,0,_=>by rw[g5,pR,qK,yk (by rw[hz];exact aB _),g6 (by rw[hz];exact aB _)];rfl
 |a::l,i+1,h=>by
  rw[qK,cp,jZ,pT,←hz a,←pQ,wz,hz a]
  exact GJ hz l i (by simpa using h)
theorem D5 {α:Type}{f:α→List Value}{z:Nat}(hz:∀a,(f a).length=z)(hi:∀x y,f x=f y→x=y):∀l m:List α,l.length=m.length→l.flatMap f=m.flatMap f→l=m
 |[],[],_,_=>rfl
 |a::l,b::m,hl,h=>by
  rw[qK,qK] at h
  obtain⟨h1,h2⟩:=List.append_inj h (by rw[hz,hz])
  rw[hi a b h1,D5 hz hi l m (by simpa using hl) h2]
 |[],_::_,hl,_=>by simp at hl
 |_::_,[],hl,_=>by simp at hl
theorem EqC.arr {d n:Nat}{t e:TypeId}{α:Type}{c:Cd α}{us:α→List Value}{i j:TyE}(h:EqC tb d e c us)(ht:tb t=some i)(he:tb e=some j)(hi:i.ty=.arr n e:=by exact rfl)(hz:c.sz=j.size:=by exact rfl):EqC tb (d+1) t (cA n c) (fun v=>v.toList.flatMap us):=by
 refine⟨fun v=>?_,fun v=>?_,fun v w=>⟨fun hh=>?_,fun hh=>by rw[hh]⟩⟩
 ·show v.toList.flatMap c.f=_
  rw[List.map_flatMap]
  congr 1
  exact funext h.hf
 ·unfold nd
  rw[ht]
  simp only[hi,he]
  have hl:=h.len
  refine⟨by rw[D4 hl,qJ,hz],fun q hq=>?_⟩
  rw[←hz,GJ hl _ _ (by rw[qJ];exact hq)]
  exact h.ft _
 ·have:=D5 h.len (fun x y hxy=>(h.inj x y).1 hxy) v.toList w.toList (by rw[qJ,qJ]) hh
  exact Vector.toList_inj.1 this
theorem qC {d o off:Nat}{t:TypeId}{fs:List (Nat×TypeId)}{α:Type}{c:Cd α}{us:α→List Value}{j:TyE}{x:α}{rest:List Value}(h:EqC tb d t c us)(ht:tb t=some j)(ho:o=off)(hr:sE tb (nd tb d) fs (off+j.size) rest)(hz:c.sz=j.size:=by exact rfl):sE tb (nd tb d) ((o,t)::fs) off (us x++rest):=by
 unfold sE
 have hl:=h.len x
 rw[ht]
 refine⟨ho,?_,by rw[cR];omega,?_⟩
 ·rw[←hz,←hl,t9];exact h.ft x
 ·rw[←hz,←hl,wz,hl,hz];exact hr
theorem EqC.struct {d:Nat}{t:TypeId}{α:Type}{c:Cd α}{us:α→List Value}{i:TyE}{fs:List (Nat×TypeId)}(ht:tb t=some i)(hf:∀x,c.f x=(us x).map E.lit)(Gr:∀x,sE tb (nd tb d) fs 0 (us x))(DN:∀x y,us x=us y→x=y)(hi:i.ty=.struct fs:=by exact rfl):EqC tb (d+1) t c us:=
 ⟨hf,fun x=>by unfold nd;rw[ht];simp only[hi];exact Gr x,fun x y=>⟨DN x y,fun h=>by rw[h]⟩⟩
theorem pe:∀us:List Value,ln (dC (us.map E.lit))=some us
 |[]=>rfl
 |u::us=>by
  show (ln (dC (us.map E.lit))).map (u::·)=_
  rw[pe us];rfl
variable {dr:Bool} {ty:TypeId} {ev:Operand→D} {x y:Operand} {hp:Hp} {α:Type} {c:Cd α} {us:α→List Value} {a b:α} {t t':TypeId} {i:TyE}
theorem zV(tok:TOk P tb)(n:Nat)(hd:n≤10000)(h:EqC tb n t c us)(ht:tb t=some i)[DecidableEq α](hg:i.ty.agg=true:=by exact rfl)(hm:P.eqGuardType P.depth t=false:=by kernel_rfl)(hn:lI P n t=true:=by kernel_rfl)(hx:ev x=dG c a:=by exact rfl)(hy:ev y=dG c b:=by exact rfl):AVC P tb dr (.binOp .eql t x y t') ty ev hp (Kq (dB (decide (a=b))) hp):=by
 have e:∀z,(c.f z).map D.e=dC ((us z).map E.lit):=fun z=>by rw[h.hf];rfl
 exact T_geql tok n hd ht hg hm hn hx hy (by rw[e,pe]) (by rw[e,pe]) (h.ft a) (h.ft b) (h.inj a b)
theorem CV(tok:TOk P tb)(n:Nat)(hd:n≤10000)(h:EqC tb n t c us)(ht:tb t=some i)[DecidableEq α](hg:i.ty.agg=true:=by exact rfl)(hm:P.eqGuardType P.depth t=false:=by kernel_rfl)(hn:lI P n t=true:=by kernel_rfl)(hx:ev x=dG c a:=by exact rfl)(hy:ev y=dG c b:=by exact rfl):AVC P tb dr (.binOp .neq t x y t') ty ev hp (Kq (dB (decide (¬a=b))) hp):=by
 have e:∀z,(c.f z).map D.e=dC ((us z).map E.lit):=fun z=>by rw[h.hf];rfl
 exact T_gneq tok n hd ht hg hm hn hx hy (by rw[e,pe]) (by rw[e,pe]) (h.ft a) (h.ft b) (h.inj a b)
theorem zA(c:Cd α){z:Nat}(hz:c.sz=z):∀(l:List α) (m:Nat) (pre rest:List D),pre.length=m*z→rest.length=l.length*z→f5 (fun n=>some (n*z,z)) (pre++rest) ((l.zipIdx m).map fun p=>(p.2,dC (c.f p.1)))=some (pre++dC (l.flatMap c.f))
 |[],m,pre,rest,_,hr=>by
  have:rest=[]:=rm (by simpa using hr)
  subst this;rfl
 |a::l,m,pre,rest,hp,hr=>by
  have hl:(dC (c.f a)).length=z:=by rw[eK,c.h,hz]
  rw[qM,cp,jZ] at hr
  show f5 (fun n=>some (n*z,z)) (pre++rest) ((m,dC (c.f a))::(l.zipIdx (m+1)).map _)=_
  unfold f5
  dsimp only
  rw[if_neg (by rw[hl,cR];omega),←hp,t9,hl,←pQ,wz]
  have:=zA c hz l (m+1) (pre++dC (c.f a)) (rest.drop z) (by rw[cR,hl,hp,cp,jZ]) (by rw[fB];omega)
  rw[this,dy]
  unfold dC
  rw[qK,jz]
theorem zH:∀es:List E,tz (dC es)=some es
 |[]=>rfl
 |e::es=>by
  show (match D.cellE (.e e),tz (dC es) with|some x,some xs=>some (x::xs)|_,_=>none)=_
  rw[zH es];rfl
theorem kP {vs:List (Nat×List D)}{lv:List (Nat×Nat×Nat×TypeId)}{N0:Nat}{e:TypeId}{j:TyE}{n:Nat}{ps:List (Nat×Operand)}(l:List α)(c:Cd α)(ht:tb t=some i)(he:tb e=some j)(hi:i.ty=.slice e:=by exact rfl)(hz:c.sz=j.size:=by exact rfl)(IN:Nat.ble (0+1) (j.size)=true:=by exact rfl)(Ig:l.length=n+1:=by exact rfl)(hn:Nat.ble ((n+1)*j.size) (16777216)=true:=by exact rfl)(ka:lU (ps.map fun p=>(p.1,ev p.2))=some ((l.zipIdx 0).map fun p=>(p.2,dC (c.f p.1))):=by exact rfl)(hd:dr=false:=by exact rfl):
  AVC P tb dr (.buildSlice t (n+1) ps.toArray) ty ev ⟨vs,lv,N0⟩ (Kq (dO N0 c l) ⟨vs,(N0,l.length,j.size,e)::lv,N0+1⟩):=by
 have hf:=zA c hz l 0 [] (List.replicate ((n+1)*j.size) (D.e .any)) (by simp) (by rw[Ap,Ig])
 rw[mU,mU] at hf
 have:=j9 (P:=P) (dr:=dr) (ty:=ty) (ev:=ev) (vs:=vs) (lv:=lv) (N0:=N0) ht he hi IN hn ka hf (zH _) hd
 show AVC _ _ _ _ _ _ _ (Kq (.own N0 c.sz l.length (l.flatMap c.f)) _)
 rw[hz,Ig]
 exact this
theorem Fa {tm:List (Nat×D)}{p:Tmp}{ty:TypeId}{j:Nat}{i:TyE}{F:List E}{k:D→Prop}(h:tm.lookup p=some (.pt j 0))(ht:tb ty=some i)(hg:i.ty.agg=true)(hv:hp.vars.lookup j=some (dC F))(hn:j<hp.next)(hl:F.length=i.size)(hk:k (.ag (dC F))):rQ tb tm hp (.cell p ty) k:=
 MV h ht hg hv hn (by rw[eK,hl];omega) (by rw[pR,g6 (by rw[eK,hl];exact aB _)]) hk
end
end
section
structure FW(α:Type) where
 f:α→List E
def cW {α:Type}(c:Cd α):FW (List α):=⟨fun l=>l.flatMap c.f⟩
theorem am.seqW {α:Type}[Inhabited α](c:Cd α)(l:List α)(i:Nat)(h:i<l.length):am ((cW c).f l) c (0+i*c.sz) l[i]! (fun y=>(cW c).f (l.set i y)):=by
 rw[bJ];exact am.seq c l i h
def vOf {α:Type}[Inhabited α](n:Nat)(l:List α):Vector α n:=Vector.ofFn fun i=>l[i.val]!
theorem wQ {α:Type}[Inhabited α]{n:Nat}{l:List α}(h:l.length=n):(vOf n l).toList=l:=by
 unfold vOf
 apply List.ext_getElem
 ·rw[qJ,h]
 ·intro i h1 h2
  rw[Vector.getElem_toList,Vector.getElem_ofFn,cz l i h2]
theorem vOf_f {α:Type}[Inhabited α](c:Cd α){n:Nat}{l:List α}(h:l.length=n):(cA n c).f (vOf n l)=l.flatMap c.f:=by
 show (vOf n l).toList.flatMap c.f=_
 rw[wQ h]
theorem am.sub {α:Type}[Inhabited α]{n:Nat}(m:Nat)(c:Cd α)(v:Vector α n)(i:Nat)(h:i+m≤n){o:Nat}(ho:i*c.sz=o):am ((cA n c).f v) (cA m c) o (vOf m ((v.toList.drop i).take m)) (fun y=>((cA n c).f v).take o++(cA m c).f y++((cA n c).f v).drop (o+m*c.sz)):=by
 subst ho
 have hl:((v.toList.drop i).take m).length=m:=by rw[ey,fB,qJ];omega
 refine⟨?_,?_,fun y=>rfl⟩
 ·rw[(cA n c).h]
  show i*c.sz+m*c.sz≤n*c.sz
  rw[←cp];exact dx _ h
 ·rw[vOf_f c hl]
  show ((v.toList.flatMap c.f).drop (i*c.sz)).take (m*c.sz)=_
  rw[nz c.f c.h,jX c.f c.h]
section
variable {P:Program} {tb:TypeId→Option TyE} {md:Md} {ev:Operand→D} {hp:Hp} {dst:Option Tmp} {ty2:TypeId} {pos:String} {af:Array Edge} {gd:Option (Nat×Bool)} {x y:Operand} {lo hi:Option Operand} {t t2 e:TypeId} {ti j:TyE} {k k' off o o' z n m:Nat} {l h:Int}
def LT(ev:Operand→D)(b:Option Operand)(DV l:Int):Prop:=
 match b with
 |none=>l=DV
 |some y=>∃k,ev y=dI k l
theorem LT.val {b:Option Operand}{DV l:Int}(h:LT ev b DV l){L:Nat}(hL:l=L){N:Nat}(hN:DV=N){g:Gh}{w:World}{ρ:Operand→Value}(hr:∀y,b=some y→aO hp g w (ev y) (ρ y)):(b.map ρ=none∧L=N)∨∃kd,b.map ρ=some (.int kd (L:Int)):=by
 cases b with
 |none=>exact .inl ⟨rfl,by have:l=DV:=h;omega⟩
 |some y=>
  obtain⟨kd,hy⟩:=h
  have:=hr y rfl
  rw[hy] at this
  exact .inr ⟨kd,by rw[←hL,nC,this.lit]⟩
theorem slA(tok:TOk P tb)(hb:0≤l∧l≤h∧h≤(n:Int)∧l<(n:Int))(ht:tb t=some ti)(he:tb e=some j)(DL:LT ev lo 0 l)(Ke:LT ev hi (n:Int) h)(xZ:ti.ty=.arr n e:=by exact rfl)(hx:ev x=.pt k off:=by exact rfl)(hn:Nat.ble n 1000000=true:=by exact rfl):
  mB P tb md ⟨dst,.slice t x lo hi none,ty2,pos,af,gd⟩ ev hp (.ow k (off+l.toNat*j.size) j.size (h - l).toNat) hp:=by
 refine (Snd.calm (dr:=md.dr) fun dA _=>.pure fun B g w a hr wn=>?_).q (by cases md <;> rfl)
 have h1:=wn x (by simp[Op.operands])
 rw[hx] at h1
 obtain⟨L,rfl⟩:∃L:Nat,l=L:=⟨l.toNat,by omega⟩
 obtain⟨H,rfl⟩:∃H:Nat,h=H:=⟨h.toNat,by omega⟩
 have e1:((H:Int) - L).toNat=H - L:=by omega
 have hn':n≤1000000:=dq hn
 have hbd:=iu (P:=P) (w:=w) false n n (lo.map a.eval) (hi.map a.eval) L H (DL.val rfl rfl fun y hy=>wn y (by subst hy;simp[Op.operands])) (Ke.val rfl rfl fun y hy=>wn y (by subst hy;simp[Op.operands])) (by omega) (by omega)
 have hs:=tok.run_sizeOf he w
 generalize hv:a.eval x=v at h1
 cases h1 with
 |pt _ _ hk=>
  refine⟨.slice (some ⟨g.μ k,off+L*j.size,none⟩) (H - L) (n - L),?_,?_⟩
  ·have ge:¬n=L:=by omega
   have Ml:(⟨g.μ k,off,none⟩:Addr).add (L*j.size)=⟨g.μ k,off+L*j.size,none⟩:=by unfold Addr.add;split <;> simp_all
   simp[execOp,Instr.sliceAt,Instr.sureAddr,hv,run_underlying (tok.arr ht xZ),hbd,hs,ge,Ml]
  ·rw[e1,cl]
   exact .ow _ _ _ _ _ hk (by omega) (by unfold maxLen;omega)
theorem slW(tok:TOk P tb)(hb:0≤l∧l≤h∧h≤(n:Int)∧l<(n:Int))(ht:tb t=some ti)(he:tb e=some j)(DL:LT ev lo 0 l)(Ke:LT ev hi (n:Int) h)(xZ:ti.ty=.slice e:=by exact rfl)(hx:ev x=.ow k off z n:=by exact rfl)(hz:z=j.size:=by exact rfl):
  mB P tb md ⟨dst,.slice t x lo hi none,ty2,pos,af,gd⟩ ev hp (.ow k (off+l.toNat*z) z (h - l).toNat) hp:=by
 subst hz
 refine (Snd.calm (dr:=md.dr) fun dA _=>.pure fun B g w a hr wn=>?_).q (by cases md <;> rfl)
 have h1:=wn x (by simp[Op.operands])
 rw[hx] at h1
 obtain⟨L,rfl⟩:∃L:Nat,l=L:=⟨l.toNat,by omega⟩
 obtain⟨H,rfl⟩:∃H:Nat,h=H:=⟨h.toNat,by omega⟩
 have e1:((H:Int) - L).toNat=H - L:=by omega
 have hs:=tok.run_sizeOf he w
 generalize hv:a.eval x=v at h1
 cases h1 with
 |ow _ _ _ _ c hk pz oo=>
  have hbd:=iu (P:=P) (w:=w) true n c (lo.map a.eval) (hi.map a.eval) L H (DL.val rfl rfl fun y hy=>wn y (by subst hy;simp[Op.operands])) (Ke.val rfl rfl fun y hy=>wn y (by subst hy;simp[Op.operands])) (by omega) (by omega)
  refine⟨.slice (some ⟨g.μ k,off+L*j.size,none⟩) (H - L) (c - L),?_,?_⟩
  ·have ge:¬c=L:=by omega
   have Ml:(⟨g.μ k,off,none⟩:Addr).add (L*j.size)=⟨g.μ k,off+L*j.size,none⟩:=by unfold Addr.add;split <;> simp_all
   simp[execOp,Instr.sliceAt,Instr.slice,hv,run_underlying (tok.slice ht xZ),hbd,hs,ge,Ml]
  ·rw[e1,cl]
   exact .ow _ _ _ _ _ hk (by omega) (by omega)
theorem sPtr(tok:TOk P tb)(hm:Nat.ble m n=true)(ht:tb t=some ti)(xZ:ti.ty=.arr m e:=by exact rfl)(hx:ev x=.ow k off z n:=by exact rfl):
  mB P tb md ⟨dst,.sliceToArrayPointer t x,ty2,pos,af,gd⟩ ev hp (.pt k off) hp:=by
 refine (Snd.calm (dr:=md.dr) fun dA _=>.pure fun B g w a hr wn=>?_).q (by cases md <;> rfl)
 have h1:=wn x (by simp[Op.operands])
 rw[hx] at h1
 have hm':=dq hm
 generalize hv:a.eval x=v at h1
 cases h1 with
 |ow _ _ _ _ c hk pz oo=>
  refine⟨.pointer (some ⟨g.μ k,off,none⟩),?_,.pt _ _ hk⟩
  have ge:¬n<m:=by omega
  simp[execOp,Instr.arrayAt,hv,run_underlying (tok.arr ht xZ),ge]
theorem zU {dr:Bool}{ty:TypeId}(ht:tb t=some ti)(he:tb e=some j)(hi:ti.ty=.slice e:=by exact rfl)(hx:ev x=.ow k off z n:=by exact rfl):AVC P tb dr (.call ⟨.builtin .len,#[x],#[t]⟩) ty ev hp (Kq (dI .i64 n) hp):=by
 show jY tb .len [t] [ev x] hp _
 rw[An,J5,ht]
 simp only[hi,he,hx,D.asSl]
 exact Kq.here _ _
theorem T_stVw {dr:Bool}{ty:TypeId}{vs:List (Nat×List D)}{lv:List (Nat×Nat×Nat×TypeId)}{N:Nat}{F:List E}{β γ:Type}{c':Cd β}{b b':β}{F':β→List E}{c:Cd γ}{nw nm:List γ}(L:am F c' o b F')(ht:tb t=some ti)(Mh:nw=nm)(hF:F' b'=(cW c).f nw:=by exact rfl)(hy:(ev y).cells=some (dC (c'.f b')):=by exact rfl)(hz:c'.sz=ti.size:=by exact rfl)(hx:ev x=.pt k o:=by exact rfl)(hv:vs.lookup k=some (dC F):=by exact rfl):AVC P tb dr (.store t x y) ty ev ⟨vs,lv,N⟩ (Kq .top ⟨(k,dC ((cW c).f nm))::vs,lv,N⟩):=by
 have:=aE (P:=P) (dr:=dr) (ty:=ty) (lv:=lv) (N:=N) L ht hy hz hx hv
 rw[hF,Mh] at this
 exact this
theorem Ej(z:Array Value)(s:Nat)(hs:z.size=s):∀n:Nat,(madeCells z (n*s)).toList=(List.replicate n z.toList).flatten
 |0=>by simp[madeCells]
 |n+1=>by
  have ih:=Ej z s hs n
  unfold madeCells at ih ⊢
  rw[Array.toList_map,Array.toList_range] at ih ⊢
  rw[cp,jZ,List.range_add,jz,ih,List.replicate_succ',List.flatten_append]
  congr 1
  rw[px,List.flatten_cons,List.flatten_nil,rM]
  apply List.ext_getElem
  ·simp[hs]
  ·intro i h1 h2
   have hi:i<s:=by simpa using h1
   simp only[List.getElem_map,List.getElem_range,Function.comp]
   rw[hs,cZ,Nat.mul_add_mod,gL hi,cz z i (by omega),Array.getElem_toList]
theorem sMk {α:Type}{c:Cd α}{z0:α}{kl kc:IntKind}{v:Int}{hp':Hp}(tok:TOk P tb)(hb:0≤v∧v≤1000000)(ht:tb t=some ti)(he:tb e=some j)(hz:j.zero.map E.lit=c.f z0)(xZ:ti.ty=.slice e:=by exact rfl)(hx:ev x=dI kl v:=by exact rfl)(hy:ev y=dI kc v:=by exact rfl)(hbt:Nat.ble j.bytes 100000000=true:=by exact rfl)(ka:hp.var (dC ((cW c).f (List.replicate v.toNat z0)))=hp':=by exact rfl):
  mB P tb md ⟨dst,.makeSlice t x y,ty2,pos,af,gd⟩ ev hp (.ow hp.next 0 j.size v.toNat) hp':=by
 subst ka
 refine (Snd.loud (dr:=md.dr) (.step fun B g w a hr wn=>?_) (fun _=>rfl) fun _=>⟨jt _,fun j hj=>ar (by omega)⟩).q (by cases md <;> rfl)
 have h1:=wn x (by simp[Op.operands])
 have h2:=wn y (by simp[Op.operands])
 rw[hx] at h1;rw[hy] at h2
 obtain⟨f,zz,Mk,On,B0,hf3,hf4,_⟩:=tok.inf he
 have hbt':f.bytes≤100000000:=by rw[B0];exact dq hbt
 obtain⟨m,rfl⟩:∃m:Nat,v=m:=⟨v.toNat,by omega⟩
 have hm:m≤1000000:=by omega
 have Kb:f.bytes*m≤281474976710656:=ez (t7 hbt' hm) (by decide)
 have co:=run_make (P:=P) w t e f zz (tok.slice ht xZ) Mk hf3 kl kc m m (by omega) (by omega) (by rw[←mT];exact Int.ofNat_le.2 Kb) (by omega)
 rw[cl] at co
 have hsz:zz.cells.size=f.size:=by
  have h4:=(tok e j he).2.2.1
  rw[←iN,hf4,h4,On]
 have hlist:=Ej zz.cells f.size hsz m
 have hcont:(cW c).f (List.replicate m z0)=(madeCells zz.cells (m*f.size)).toList.map E.lit:=by
  rw[hlist,hf4,List.map_flatten,List.map_replicate,hz]
  show (List.replicate m z0).flatMap c.f=_
  rw[List.flatMap_def,List.map_replicate]
 have h1c:∀u∈(madeCells zz.cells (m*f.size)).toList,u.oneCell'=true:=by
  intro u hu
  rw[hlist,hf4] at hu
  obtain⟨l,hl,Ka⟩:=List.mem_flatten.1 hu
  obtain rfl:=(List.mem_replicate.1 hl).2
  exact cX.1 (tok e j he).2.2.2 u Ka
 refine⟨.slice (some ⟨w.heap.size,0,none⟩) m m,_,w.alloc (.cells (madeCells zz.cells (m*f.size)) e),?_,hr.newVar _ _ e ?_ (fun i u hu=>?_),c9.var hp g w _ _,?_,(Below.refl _ _).alloc hr.base _,fun p _ h=>.inl h⟩
 ·have e1:=h1.lit
  have e2:=h2.lit
  simp only[execOp,e1,e2,Sem.run_bind,co,Result.andThen_ok]
  rfl
 ·rw[cl,hcont,eK,bT,iN];exact aB _
 ·have t0:(madeCells zz.cells (m*f.size)).toList[i]? =some u:=by simpa using hu
  refine⟨fun _=>h1c u (eo t0),fun d hd=>?_⟩
  rw[cl,hcont] at hd
  unfold dC at hd
  rw[ek,ek,t0] at hd
  injection hd with hd
  subst hd
  exact .e _ _ (.lit u (h1c u (eo t0)))
 ·rw[cl]
  have:=aO.ow (hp:=hp.var (dC ((cW c).f (List.replicate ((m:Int).toNat) z0)))) (g:=g.var hp.next w.heap.size) (w:=w.alloc (.cells (madeCells zz.cells (m*f.size)) e)) hp.next 0 j.size m m (eT _) (aB _) (by unfold maxLen;omega)
  rwa[show (g.var hp.next w.heap.size).μ hp.next=w.heap.size from if_pos rfl] at this
theorem K2(w:World)(t t2 ty e:TypeId)(i:TypeInfo)(hu:P.underlying t=some (.slice e))(hi:P.info? e=some i)(b o n c:Nat)(A:Option Addr)(m c':Nat)(cur:Array Value)(tt:TypeId)(cs:List Value)(hA:0<m→∃ad,A=some ad)(hl:cs.length=min m n*i.size)
  (NM:∀ad,A=some ad→∀j v,cs[j]? =some v→w.cell? (ad.add j)=some v) (hg:w.heap[b]? =some (.cells cur tt (0,0))) (DP:o+cs.length≤cur.size) (h1:∀v∈cs,v.oneCell'=true):
  (Builtin.copy_ #[t,t2] ty #[.slice (some ⟨b,o,none⟩) n c,.slice A m c']).run P w=   .ok (goInt ((min m n:Nat):Int)) (w.setRow b (cur.toList.take o++cs++cur.toList.drop (o+cs.length)).toArray):=by
 have IU:=run_storeCells_at P b o tt cs 0 cur w hg (by simpa using DP) h1
 have e0:Nat.min m n=min m n:=rfl
 cases A with
 |none=>
  have hm:m=0:=by
   rcases qO m with h|h
   ·exact h
   ·obtain⟨_,h⟩:=hA h;cases h
  subst hm
  have:cs=[]:=rm (by rw[hl];simp)
  subst this
  simp at IU
  simp[Builtin.copy_,run_underlying hu,Builtin.lenOf,Builtin.firstCells,sizeOf,typeInfo,hi,IU]
 |some a=>
  have FC:=run_loadCells_list (P:=P) w a cs (NM a rfl)
  rw[hl] at FC
  simp[Builtin.copy_,run_underlying hu,Builtin.lenOf,Builtin.firstCells,sizeOf,typeInfo,hi,e0,FC,IU]
def vh(hp:Hp)(d:D)(z m:Nat)(xs:List E):Prop:=xs.length=m*z∧∀(B:Nat) (g:Gh) (w:World) (v:Value),HR B hp g w→aO hp g w d v→
 ∃A c us,v=.slice A m c∧(0<m→∃ad,A=some ad)∧(∀ad,A=some ad→∀j u,us[j]? =some u→w.cell? (ad.add j)=some u)∧Pw (dP w g.F) xs us
theorem vh.own {vs:List (Nat×List D)}{lv:List (Nat×Nat×Nat×TypeId)}{N:Nat}{F:List E}{xs:List E}(hv:vs.lookup k=some (dC F))(hle:off+m*z≤F.length)(hF:(F.drop off).take (m*z)=xs):vh ⟨vs,lv,N⟩ (.ow k off z m) z m xs:=by
 subst hF
 refine⟨by rw[ey,fB];omega,fun B g w v hr hd=>?_⟩
 cases hd with
 |ow _ _ _ _ c hk pz oo=>
  obtain⟨h1,h2,h3,cs,ty,h4,h5,h6⟩:=hr.var k _ hv
  rw[eK] at h5
  refine⟨_,c,(cs.toList.drop off).take (m*z),rfl,fun _=>⟨_,rfl⟩,fun ad ha j u hu=>?_,?_,fun j x u hx hu=>?_⟩
  ·injection ha with ha
   subst ha
   rw[gM] at hu
   split at hu
   ·rw[nA,HW] at hu
    have Ml:(⟨g.μ k,off,none⟩:Addr).add j=⟨g.μ k,off+j,none⟩:=by unfold Addr.add;split <;> simp_all
    rw[Ml]
    simpa[World.cell?,h4] using hu
   ·cases hu
  ·simp only[ey,fB,iN];omega
  ·rw[gM] at hx hu
   split at hx
   ·rename_i hj
    rw[if_pos hj,nA,HW] at hu
    rw[nA] at hx
    have:=(h6 (off+j) u hu).2 (.e x) (by unfold dC;rw[ek,hx];rfl)
    cases this
    assumption
   ·cases hx
theorem vh.dat {hp:Hp}{d:D}{z m:Nat}{xs:List E}(h:d.asSl z=some (m,xs))(hl:xs.length=m*z):vh hp d z m xs:=by
 refine⟨hl,fun B g w v hr hd=>?_⟩
 obtain⟨A,c,rfl,dc⟩:=qG hd h
 obtain⟨_,_,_,_,hA,us,Ka,hc,hp⟩:=dc.reads
 exact⟨A,c,us,rfl,fun hm=>(hA hm).imp fun ad h=>h.1,fun ad ha j u hu=>(hc ad ha j u hu).1,hp⟩
theorem dP.oneL {w:World}{F:Addr→Prop}{xs:List E}{us:List Value}(h:Pw (dP w F) xs us):∀u∈us,u.oneCell'=true:=by
 intro u hu
 obtain⟨i,hi⟩:=List.mem_iff_getElem?.1 hu
 have:i<xs.length:=by rw[h.1];exact (fP.1 hi).1
 exact (h.2 i xs[i] u (c0 this) hi).one
theorem sCp {vs:List (Nat×List D)}{lv:List (Nat×Nat×Nat×TypeId)}{N:Nat}{F xs:List E}(tok:TOk P tb)(ht:tb t=some ti)(he:tb e=some j)(hs:vh ⟨vs,lv,N⟩ (ev y) z m xs)(hv:vs.lookup k=some (dC F))(DP:off+n*z≤F.length)(xZ:ti.ty=.slice e:=by exact rfl)(hx:ev x=.ow k off z n:=by exact rfl)(hz:z=j.size:=by exact rfl):
  mB P tb md ⟨dst,.call ⟨.builtin .copy,#[x,y],#[t,t2]⟩,ty2,pos,af,gd⟩ ev ⟨vs,lv,N⟩ (dI .i64 (min m n:Nat)) ⟨(k,dC (F.take off++xs.take (min m n*z)++F.drop (off+min m n*z)))::vs,lv,N⟩:=by
 subst hz
 refine (Snd.loud (dr:=md.dr) (.step fun B g w a hr wn=>?_) (fun _=>rfl) fun h=>by simp[vU,cpB] at h).q (by cases md <;> rfl)
 have h1:=wn x (db (by simp))
 have h2:=wn y (db (by simp))
 rw[hx] at h1
 obtain⟨Ad,hs⟩:=hs
 obtain⟨A,c',us,hy,hA,NM,v6⟩:=hs B g w _ hr h2
 obtain⟨q1,q2,q3,cs,ty,q4,q5,q6⟩:=hr.var k _ hv
 rw[eK] at q5
 obtain⟨f,zz,Mk,On,_⟩:=tok.inf he
 have Og:min m n*j.size≤n*j.size:=dx _ (Nat.min_le_right _ _)
 have hmin2:min m n*j.size≤m*j.size:=dx _ (Nat.min_le_left _ _)
 have Ka:us.length=m*j.size:=by rw[←v6.1,Ad]
 have htl:(us.take (min m n*j.size)).length=min m n*j.size:=by rw[ey];omega
 have hxt:(xs.take (min m n*j.size)).length=min m n*j.size:=by rw[ey];omega
 generalize hv1:a.eval x=v1 at h1
 cases h1 with
 |ow _ _ _ _ c hk pz oo=>
  have hone:∀u∈us.take (min m n*j.size),u.oneCell'=true:=fun u hu=>dP.oneL v6 u (List.mem_of_mem_take hu)
  have co:=K2 (P:=P) w t t2 ty2 e f (tok.slice ht xZ) Mk (g.μ k) off n c A m c' cs ty (us.take (min m n*j.size)) hA (by rw[htl,On]) (fun ad ha i v hi=>NM ad ha i v (by
   rw[gM] at hi
   split at hi
   ·exact hi
   ·cases hi)) q4 (by omega) hone
  have Ol:=setRow_heap w (g.μ k) cs (cs.toList.take off++us.take (min m n*j.size)++cs.toList.drop (off+(us.take (min m n*j.size)).length)).toArray ty (0,0) q4
  have Oq:fa ⟨vs,lv,N⟩ g w (dC F) (cs.toList.take F.length):=⟨⟨by simp only[eK,ey,iN];omega,fun i d u hd hu=>(q6 i u (by
   rw[gM] at hu
   split at hu
   ·simpa using hu
   ·cases hu)).2 d hd⟩,fun u hu=>by
   obtain⟨i,hi⟩:=List.mem_iff_getElem?.1 hu
   rw[gM] at hi
   split at hi
   ·rename_i bX
    exact (q6 i u (by simpa using hi)).1 (by rw[eK];exact bX)
   ·cases hi⟩
  have hmid:fa ⟨vs,lv,N⟩ g w (dC (xs.take (min m n*j.size))) (us.take (min m n*j.size)):=by
   refine⟨⟨by rw[eK,hxt,htl],fun i d u hd hu=>?_⟩,hone⟩
   unfold dC at hd
   rw[ek] at hd
   cases hx':(xs.take (min m n*j.size))[i]? with
   |none=>rw[hx'] at hd;cases hd
   |some x'=>
    rw[hx'] at hd
    injection hd with hd
    subst hd
    exact .e _ _ ((v6.take _).2 i x' u hx' hu)
  have AG:fa ⟨vs,lv,N⟩ g w (dC (F.take off++xs.take (min m n*j.size)++F.drop (off+min m n*j.size))) ((cs.toList.take off++us.take (min m n*j.size)++cs.toList.drop (off+(us.take (min m n*j.size)).length)).take F.length):=by
   have:=((Oq.take off).append hmid).append (Oq.drop (off+min m n*j.size))
   rw[htl]
   have e1:(cs.toList.take off++us.take (min m n*j.size)++cs.toList.drop (off+min m n*j.size)).take F.length=((cs.toList.take F.length).take off++us.take (min m n*j.size))++(cs.toList.take F.length).drop (off+min m n*j.size):=by
    have hlA:(cs.toList.take off++us.take (min m n*j.size)).length=off+min m n*j.size:=by rw[cR,htl,ey,iN];omega
    rw[List.take_append,hlA,g6 (by rw[hlA];omega),List.drop_take,List.take_take,rL (show off≤F.length by omega)]
   rw[e1]
   unfold dC at this ⊢
   simpa only[jz,Aq,List.map_drop] using this
  have Ig:(F.take off++xs.take (min m n*j.size)++F.drop (off+min m n*j.size)).length=F.length:=by
   simp only[cR,ey,fB];omega
  have Hd:=SzB.row (new:=(cs.toList.take off++us.take (min m n*j.size)++cs.toList.drop (off+(us.take (min m n*j.size)).length)).toArray) q4 (by simp only[qN,cR,ey,fB,iN];omega)
  refine⟨goInt ((min m n:Nat):Int),g,_,?_,hr.setVar hv _ _ ty (by simp[World.setRow]) (fun b hb=>setRow_other w _ b _ hb) Ol (by rw[eK,Ig];simp only[qN,cR,ey,fB,iN];omega) Hd (fun i u hu=>?_),c9.setVar hr hv _ (by simp[World.setRow]) (fun b hb=>setRow_other w _ b _ hb) Hd,.e _ _ (.lit _ rfl),wx w q2 _,fun _ _ h=>h⟩
  ·simp only[execOp,Array.map_map,List.map_toArray,dJ,eD,resolve,invoke,builtin,hv1,hy,Sem.run_bind]
   simp[resolve,invoke,builtin,hv1,hy,co]
  ·have t0:(cs.toList.take off++us.take (min m n*j.size)++cs.toList.drop (off+(us.take (min m n*j.size)).length))[i]? =some u:=by simpa using hu
   have hw:i<F.length→((cs.toList.take off++us.take (min m n*j.size)++cs.toList.drop (off+(us.take (min m n*j.size)).length)).take F.length)[i]? =some u:=fun hi=>by
    rw[gM,if_pos hi];exact t0
   exact⟨fun hi=>AG.2 u (eo (hw (by rw[eK,Ig] at hi;exact hi))),fun d hd=>AG.1.2 i d u hd (hw (by rw[←Ig,←eK];exact (fP.1 hd).1))⟩
def lCp {α:Type}(l:List α)(o:Nat)(s:List α):List α:=l.take o++s++l.drop (o+s.length)
theorem lCp_len {α:Type}{l s:List α}{o:Nat}(h:o+s.length≤l.length):(lCp l o s).length=l.length:=by
 unfold lCp;simp only[cR,ey,fB];omega
theorem G8 {α:Type}(c:Cd α)(l s:List α)(o:Nat):(lCp l o s).flatMap c.f=(l.flatMap c.f).take (o*c.sz)++s.flatMap c.f++(l.flatMap c.f).drop (o*c.sz+s.length*c.sz):=by
 unfold lCp
 rw[List.flatMap_append,List.flatMap_append,jX c.f c.h,←cp,nz c.f c.h]
section
variable {α:Type} [Inhabited α] {c:Cd α} {vs:List (Nat×List D)} {lv:List (Nat×Nat×Nat×TypeId)} {N N0:Nat}
theorem vh.arr {v:Vector α N0}(hv:vs.lookup k=some (dC ((cA N0 c).f v)))(o:Nat)(hm:o+m≤N0)(ho:off=o*c.sz:=by exact rfl)(hz:z=c.sz:=by exact rfl):vh ⟨vs,lv,N⟩ (.ow k off z m) z m (((v.toList.drop o).take m).flatMap c.f):=by
 subst ho hz
 refine vh.own hv ?_ ?_
 ·rw[(cA N0 c).h]
  show o*c.sz+m*c.sz≤N0*c.sz
  rw[←cp];exact dx _ hm
 ·show ((v.toList.flatMap c.f).drop (o*c.sz)).take (m*c.sz)=_
  rw[nz c.f c.h,jX c.f c.h]
theorem vh.lst {l:List α}(hv:vs.lookup k=some (dC ((cW c).f l)))(o:Nat)(hm:o+m≤l.length)(ho:off=o*c.sz:=by exact rfl)(hz:z=c.sz:=by exact rfl):vh ⟨vs,lv,N⟩ (.ow k off z m) z m (((l.drop o).take m).flatMap c.f):=by
 subst ho hz
 refine vh.own hv ?_ ?_
 ·show _≤(l.flatMap c.f).length
  rw[im c.f c.h,←cp];exact dx _ hm
 ·show ((l.flatMap c.f).drop (o*c.sz)).take (m*c.sz)=_
  rw[nz c.f c.h,jX c.f c.h]
theorem sCpA {v:Vector α N0}{s:List α}{r:List (Nat×List D)}(tok:TOk P tb)(ht:tb t=some ti)(he:tb e=some j)(hs:vh ⟨vs,lv,N⟩ (ev y) z m (s.flatMap c.f))(Dg:s.length=m)(hv:vs.lookup k=some (dC ((cA N0 c).f v)))(o:Nat)(DP:o+n≤N0)(hr:(k,dC ((cA N0 c).f (vOf N0 (lCp v.toList o (s.take n)))))::vs=r)(ho:off=o*c.sz:=by exact rfl)(Eo:z=c.sz:=by exact rfl)(xZ:ti.ty=.slice e:=by exact rfl)(hx:ev x=.ow k off z n:=by exact rfl)(hz:z=j.size:=by exact rfl):
  mB P tb md ⟨dst,.call ⟨.builtin .copy,#[x,y],#[t,t2]⟩,ty2,pos,af,gd⟩ ev ⟨vs,lv,N⟩ (dI .i64 (min m n:Nat)) ⟨r,lv,N⟩:=by
 subst ho Eo hr
 have:=sCp (P:=P) (md:=md) (dst:=dst) (ty2:=ty2) (pos:=pos) (af:=af) (gd:=gd) (t2:=t2) (lv:=lv) tok ht he hs hv (by
  rw[(cA N0 c).h]
  show _≤N0*c.sz
  rw[←cp];exact dx _ DP) xZ hx hz
 have e1:(s.take n).length=min m n:=by rw[ey,Dg,Nat.min_comm]
 have e2:(cA N0 c).f (vOf N0 (lCp v.toList o (s.take n)))=((cA N0 c).f v).take (o*c.sz)++(s.flatMap c.f).take (min m n*c.sz)++((cA N0 c).f v).drop (o*c.sz+min m n*c.sz):=by
  rw[vOf_f c (by rw[lCp_len (by rw[e1,qJ];have:=Nat.min_le_right m n;omega),qJ]),G8,e1]
  have e3:(s.flatMap c.f).take (min m n*c.sz)=(s.take n).flatMap c.f:=by
   rw[jX c.f c.h]
   congr 1
   rcases Nat.le_total m n with h|h
   ·rw[rL h,g6 (by omega),g6 (by omega)]
   ·rw[Nat.min_eq_right h]
  rw[e3];rfl
 rw[e2];exact this
theorem sCpW {l s:List α}{r:List (Nat×List D)}(tok:TOk P tb)(ht:tb t=some ti)(he:tb e=some j)(hs:vh ⟨vs,lv,N⟩ (ev y) z m (s.flatMap c.f))(Dg:s.length=m)(hv:vs.lookup k=some (dC ((cW c).f l)))(o:Nat)(DP:o+n≤l.length)(hr:(k,dC ((cW c).f (lCp l o (s.take n))))::vs=r)(ho:off=o*c.sz:=by exact rfl)(Eo:z=c.sz:=by exact rfl)(xZ:ti.ty=.slice e:=by exact rfl)(hx:ev x=.ow k off z n:=by exact rfl)(hz:z=j.size:=by exact rfl):
  mB P tb md ⟨dst,.call ⟨.builtin .copy,#[x,y],#[t,t2]⟩,ty2,pos,af,gd⟩ ev ⟨vs,lv,N⟩ (dI .i64 (min m n:Nat)) ⟨r,lv,N⟩:=by
 subst ho Eo hr
 have:=sCp (P:=P) (md:=md) (dst:=dst) (ty2:=ty2) (pos:=pos) (af:=af) (gd:=gd) (t2:=t2) (lv:=lv) tok ht he hs hv (by
  show _≤(l.flatMap c.f).length
  rw[im c.f c.h,←cp];exact dx _ DP) xZ hx hz
 have e1:(s.take n).length=min m n:=by rw[ey,Dg,Nat.min_comm]
 have e2:(cW c).f (lCp l o (s.take n))=((cW c).f l).take (o*c.sz)++(s.flatMap c.f).take (min m n*c.sz)++((cW c).f l).drop (o*c.sz+min m n*c.sz):=by
  show (lCp l o (s.take n)).flatMap c.f=_
  rw[G8,e1]
  have e3:(s.flatMap c.f).take (min m n*c.sz)=(s.take n).flatMap c.f:=by
   rw[jX c.f c.h]
   congr 1
   rcases Nat.le_total m n with h|h
   ·rw[rL h,g6 (by omega),g6 (by omega)]
   ·rw[Nat.min_eq_right h]
  rw[e3];rfl
 rw[e2];exact this
end
theorem WkS.free {tm:List (Nat×D)}{vs:List (Nat×List D)}{lv:List (Nat×Nat×Nat×TypeId)}{N k:Nat}{ds:List D}(hv:vs.lookup k=some ds):∀(B:Nat) (g:Gh) (w:World) (ρ:Nat→Value),HR B ⟨vs,lv,N⟩ g w→(∀t d,tm.lookup t=some d→aO ⟨vs,lv,N⟩ g w d (ρ t))→
  ∃g':Gh,g'=⟨g.μ,g.τ,fun p=>g.F p∧p.block≠g.μ k⟩∧HR B ⟨vs.filter fun p=>!([k]:List Nat).contains p.1,lv,N⟩ g' w∧c9 ⟨vs,lv,N⟩ g w ⟨vs.filter fun p=>!([k]:List Nat).contains p.1,lv,N⟩ g' w∧(∀t d,tm.lookup t=some d→aO ⟨vs.filter fun p=>!([k]:List Nat).contains p.1,lv,N⟩ g' w d (ρ t))∧∀p:Addr,p.block<B→g.F p→g'.F p:=by
 intro B g w ρ hr np
 obtain⟨h1,h2,h3,cs,ty,h4,h5,h6⟩:=hr.var k _ hv
 have look:∀{j:Nat} {ds:List D},(vs.filter fun p=>!([k]:List Nat).contains p.1).lookup j=some ds→j≠k∧vs.lookup j=some ds:=by
  intro j ds h
  obtain⟨a,b⟩:=je h
  exact⟨by simpa using a,b⟩
 have ge:∀{j:Nat} {ds:List D},j≠k→vs.lookup j=some ds→g.μ j≠g.μ k:=fun hj hl e=>hj (hr.inj _ _ _ _ hl hv e)
 have mo:c9 ⟨vs,lv,N⟩ g w ⟨vs.filter fun p=>!([k]:List Nat).contains p.1,lv,N⟩ ⟨g.μ,g.τ,fun p=>g.F p∧p.block≠g.μ k⟩ w:=by
  refine⟨aB _,fun _ _ _=>rfl,fun _ _ h=>h.1,aB _,fun _ _=>rfl,fun _ _ m _ h=>⟨m,h,aB _,fun _=>rfl⟩,fun b hb hf=>⟨rfl,fun p hp hq=>⟨hq,?_⟩,fun j ds hj=>hf.1 j ds (look hj).2,hf.2⟩,fun _=>.same fun _=>rfl⟩
  rw[hp];exact fun e=>hf.1 k _ hv e.symm
 refine⟨_,rfl,⟨fun j ds hj=>?_,fun j j' ds ds' hj FE he=>hr.inj j j' ds ds' (look hj).2 (look FE).2 he,fun id m e hi=>?_,hr.tinj,hr.base,fun p hp=>hr.fits p hp.1⟩,mo,fun t' d hd=>(np t' d hd).mono mo,fun p hp hq=>⟨hq,?_⟩⟩
 ·obtain⟨a1,a2⟩:=look hj
  obtain⟨b1,b2,b3,uZ,If,b4,b5,b6⟩:=hr.var j ds a2
  exact⟨b1,b2,fun p hp=>⟨b3 p hp,by rw[hp];exact ge a1 a2⟩,uZ,If,b4,b5,fun i u hu=>⟨(b6 i u hu).1,fun d hd=>((b6 i u hu).2 d hd).mono mo⟩⟩
 ·obtain⟨b1,us,b2,b3,b4⟩:=hr.tok id m e hi
  exact⟨b1,us,b2,b3,fun b hb=>⟨fun p hp hq=>⟨(b4 b hb).1 p hp hq,by rw[hp];exact fun e=>(b4 b hb).2 k _ hv e.symm⟩,fun j ds hj=>(b4 b hb).2 j ds (look hj).2⟩⟩
 ·intro e
  omega
theorem BM {tm:List (Nat×D)}{d0:D}:∀{ts:List Nat} {t:Nat} {d:D},(ts.map (fun t=>(t,d0))++tm).lookup t=some d→(t∈ts∧d=d0)∨tm.lookup t=some d
 |[],t,d,h=>.inr h
 |s::ts,t,d,h=>by
  by_cases IU:t=s
  ·subst IU
   have:some d0=some d:=by rw[←h];exact aa.symm
   injection this with this
   exact .inl ⟨pS ..,this.symm⟩
  ·rcases BM (ts:=ts) (t:=t) (d:=d) (by rw[←h];exact (ar IU).symm) with⟨h1,h2⟩|h1
   ·exact .inl ⟨ox _ h1,h2⟩
   ·exact .inr h1
theorem WkS.frzs {tm:List (Nat×D)}{vs:List (Nat×List D)}{lv:List (Nat×Nat×Nat×TypeId)}{N k z n:Nat}{F:List E}(ts:List Nat)(hz:0<z)(ht:∀t∈ts,tm.lookup t=some (.ow k 0 z n))(hv:vs.lookup k=some (dC F))(hF:F.length=n*z):
  WkS tm ⟨vs,lv,N⟩ (ts.map (fun t=>(t,.e (.sl z n F)))++tm) ⟨vs.filter fun p=>!([k]:List Nat).contains p.1,lv,N⟩:=by
 intro B g w ρ hr np
 have one:∀t∈ts,∃g',(g':Gh)=⟨g.μ,g.τ,fun p=>g.F p∧p.block≠g.μ k⟩∧aO ⟨vs.filter fun p=>!([k]:List Nat).contains p.1,lv,N⟩ g' w (.e (.sl z n F)) (ρ t):=by
  intro t NL
  refine⟨_,rfl,?_⟩
  obtain⟨h1,h2,h3,cs,ty,h4,h5,h6⟩:=hr.var k _ hv
  have dc:=np t _ (ht t NL)
  generalize ρ t=u at dc
  cases dc with
  |ow _ _ _ _ c hk pz oo=>
   have p9:F.length≤cs.size:=by rw[eK] at h5;exact h5
   refine .e _ _ (.sl z n F (some ⟨g.μ k,0,none⟩) c (fun i=>cs.getD i undef) hF hz pz oo (fun _=>⟨_,rfl,(n8.1 h4).1⟩) (fun ad ha i e hi=>?_) (fun i e hi=>?_))
   ·injection ha with ha
    subst ha
    have bX:i<cs.size:=d8 (fP.1 hi).1 p9
    refine⟨?_,fun hf=>hf.2 (by rw[gl])⟩
    have e0:w.cell? (({block:=g.μ k,off:=0,spot:=none}:Addr).add i)=cs[0+i]? :=by
     by_cases h0:i=0
     ·subst h0;simp[World.cell?,Addr.add,h4]
     ·simp[World.cell?,Addr.add,h4,h0]
    rw[e0,bJ]
    simp[iF,bX]
   ·have bX:i<cs.size:=d8 (fP.1 hi).1 p9
    have hu:=h6 i (cs.getD i undef) (by simp[iF,bX])
    have:=hu.2 (.e e) (by unfold dC;rw[ek,hi];rfl)
    cases this with
    |e _ _ h7=>exact dP.less h7 fun p hp=>hp.1
 obtain⟨g',hg',q1,q2,q3,q4⟩:=WkS.free (lv:=lv) (N:=N) (tm:=tm) (k:=k) hv B g w ρ hr np
 subst hg'
 refine⟨_,q1,q2,fun t d hd=>?_,q4⟩
 rcases BM hd with⟨h1,rfl⟩|h1
 ·obtain⟨g',hg',h2⟩:=one t h1
  subst hg'
  exact h2
 ·exact q3 t d h1
theorem WkS.frzG {α:Type}(c:Cd α){l:List α}{tm:List (Nat×D)}{vs:List (Nat×List D)}{lv:List (Nat×Nat×Nat×TypeId)}{N k n:Nat}(ts:List Nat)(hn:n=l.length)(ht:∀t∈ts,tm.lookup t=some (.ow k 0 c.sz n))(hv:vs.lookup k=some (dC ((cW c).f l)))(hz:Nat.ble 1 c.sz=true:=by exact rfl):
  WkS tm ⟨vs,lv,N⟩ (ts.map (fun t=>(t,.e (slE c l)))++tm) ⟨vs.filter fun p=>!([k]:List Nat).contains p.1,lv,N⟩:=by
 subst hn
 exact WkS.frzs ts (dq hz) ht hv (im c.f c.h l)
end
end
section
section
variable {P:Program} {tb:TypeId→Option TyE} {dr:Bool} {ev:Operand→D} {hp:Hp} {ty:TypeId} {α:Type}
theorem KD {t e:TypeId}{i j:TyE}{n:Nat}{ps:List (Nat×Operand)}(l:List α)(c:Cd α)(ht:tb t=some i)(he:tb e=some j)(hi:i.ty=.slice e:=by exact rfl)(hz:c.sz=j.size:=by exact rfl)(IN:Nat.ble (0+1) (j.size)=true:=by exact rfl)(Ig:l.length=n+1:=by exact rfl)(hn:Nat.ble ((n+1)*j.size) (16777216)=true:=by exact rfl)(ka:lU (ps.map fun p=>(p.1,ev p.2))=some ((l.zipIdx 0).map fun p=>(p.2,dC (c.f p.1))):=by exact rfl)(hd:dr=true:=by exact rfl):
  AVC P tb dr (.buildSlice t (n+1) ps.toArray) ty ev hp (Kq (dF c l) hp):=by
 have hf:=zA c hz l 0 [] (List.replicate ((n+1)*j.size) (D.e .any)) (by simp) (by rw[Ap,Ig])
 rw[mU,mU] at hf
 have:=CW (P:=P) (dr:=dr) (ty:=ty) (ev:=ev) (hp:=hp) ht he hi IN hn ka hf (zH _) hd
 show AVC _ _ _ _ _ _ _ (Kq (.fu c.sz l.length (l.flatMap c.f)) _)
 rw[hz,Ig]
 exact this
end
end
section
def Way(ops:Array Oper):List Nat→Array Bool→Prop
 |[],s=>Region.ready .any ops s=[]
 |i::l,s=>i∈Region.ready .any ops s∧Way ops l (s.setIfInBounds i true)
def Bfr(a b:Nat):List Nat→Array Bool→Prop
 |[],_=>True
 |i::l,s=>(i=b→s.getD a false=true)∧Bfr a b l (s.setIfInBounds i true)
theorem lT {ops:Array Oper}{s:Array Bool}{i:Nat}:i∈Region.ready .any ops s↔i<ops.size∧s.getD i true=false∧∃o,ops[i]? =some o∧∀e∈o.after,Region.binds .any e=true→s.getD e.on false=true:=by
 unfold Region.ready
 rw[List.mem_filter,pw]
 refine and_congr_right fun h=>?_
 rw[bq,EG]
 refine and_congr_right fun _=>?_
 cases ho:ops[i]? with
 |none=>simp
 |some o=>
  simp only[nC,u5,Array.all_eq_true',Bool.or_eq_true,EG,nB,exists_eq_left']
  refine forall_congr' fun e=>forall_congr' fun _=>?_
  cases Region.binds .any e <;> simp
theorem OP {s:Array Bool}{i j:Nat}(h:s.getD j false=true):(s.setIfInBounds i true).getD j false=true:=by
 simp only[iF] at h ⊢
 rw[Ky]
 split
 ·rename_i e
  subst e
  split
  ·rfl
  ·rename_i hs
   rw[Array.getElem?_eq_none (by omega)] at h
   simp at h
 ·exact h
theorem Ez {s:Array Bool}{i:Nat}(h:i<s.size):(s.setIfInBounds i true).getD i false=true:=by
 simp[iF,Ky,h]
theorem Bfr.of {a b:Nat}:∀(l:List Nat) (s:Array Bool),s.getD a false=true→Bfr a b l s
 |[],_,_=>trivial
 |_::l,_,h=>⟨fun _=>h,Bfr.of l _ (OP h)⟩
theorem Px {ops:Array Oper}{a b:Nat}(Mm:a≠b):∀(l:List Nat) (s:Array Bool),s.size=ops.size→Way ops l s→Bfr a b l s∨Bfr b a l s
 |[],_,_,_=>.inl trivial
 |i::l,s,hs,⟨h1,h2⟩=>by
  have hi:=(lT.1 h1).1
  by_cases ha:i=a
  ·subst ha
   exact .inl ⟨fun h=>absurd h Mm,Bfr.of l _ (Ez (by omega))⟩
  ·by_cases hb:i=b
   ·subst hb
    exact .inr ⟨fun h=>absurd h.symm Mm,Bfr.of l _ (Ez (by omega))⟩
   ·rcases Px Mm l (s.setIfInBounds i true) (by simpa using hs) h2 with h|h
    ·exact .inl ⟨fun h=>absurd h hb,h⟩
    ·exact .inr ⟨fun h=>absurd h ha,h⟩
theorem Mw {ops:Array Oper}:∀(fuel t:Nat) (s:Array Bool),s.size=ops.size→unl s ops.size≤fuel→Way ops (Region.linearise.go .any ops fuel t s []) s
 |0,t,s,hs,hu=>by
  show Region.ready .any ops s=[]
  rw[List.eq_nil_iff_forall_not_mem]
  intro i hi
  obtain⟨h1,h2,_⟩:=lT.1 hi
  have:i∈(List.range ops.size).filter fun j=>!s.getD j false:=by
   rw[List.mem_filter,pw]
   refine⟨h1,?_⟩
   have bX:i<s.size:=by omega
   have e1:s[i]?.getD true=false:=by rw[←iF];exact h2
   rw[iF]
   rw[rK bX] at e1 ⊢
   simp at e1 ⊢
   exact e1
  have hlen:=List.length_pos_of_mem this
  unfold unl at hu
  omega
 |fuel+1,t,s,hs,hu=>by
  simp only[Region.linearise.go]
  change Way ops (match (Region.ready .any ops s)[t % (Region.ready .any ops s).length]? with
   |some i=>Region.linearise.go .any ops fuel (t / (Region.ready .any ops s).length) (s.setIfInBounds i true) [i]
   |none=>[].reverse) s
  cases hi:(Region.ready .any ops s)[t % (Region.ready .any ops s).length]? with
  |none=>
   show Region.ready .any ops s=[]
   cases hr:Region.ready .any ops s with
   |nil=>rfl
   |cons x xs=>
    rw[hr] at hi
    have bX:t % (x::xs).length<(x::xs).length:=eE _ (by simp)
    rw[c0 bX] at hi
    cases hi
  |some i=>
   simp only[]
   rw[linearise_go_acc,List.reverse_singleton,List.singleton_append]
   have hm:=eo hi
   obtain⟨h1,h2,_⟩:=lT.1 hm
   have bX:i<s.size:=by omega
   have hf:s.getD i false=false:=by
    have e1:s[i]?.getD true=false:=by rw[←iF];exact h2
    rw[iF]
    rw[rK bX] at e1 ⊢
    simpa using e1
   exact⟨hm,Mw fuel _ _ (by simpa using hs) (by have:=E2 (n:=ops.size) h1 bX hf;omega)⟩
theorem D3 {P:Program}{ops:Array Oper}{Q:Exit→Act→World→Prop}:∀(l:List Nat) (fuel:Nat) (s:Array Bool) (a:Act) (w:World),wpAny P .any ops Q fuel s a w→Way ops l s→wpOps P ops Q l a w
 |[],0,_,_,_,h,_=>by simpa[wpOps] using h.2
 |[],_+1,_,_,_,h,hw=>by simpa[wpOps] using h.1 hw
 |i::l,0,_,_,_,h,hw=>by
  have:=hw.1
  rw[h.1] at this
  cases this
 |i::l,fuel+1,s,a,w,h,hw=>by
  rw[wpOps_cons]
  exact wpOp_mono (fun a w h=>D3 l fuel _ a w h hw.2) (h.2 i hw.1)
def mK:List Oper→Nat→Oper
 |[],_=>default
 |o::_,0=>o
 |_::l,n+1=>mK l n
def lH:List Nat→Nat→Nat
 |[],_=>0
 |j::l,i=>match Nat.beq j i with
  |true=>0
  |false=>lH l i+1
def G3(p:List Nat)(i:Nat):List (Nat×Nat)→List Edge
 |[]=>[]
 |(a,b)::C=>match Nat.beq b i with
  |true=>⟨lH p a,.data⟩::G3 p i C
  |false=>G3 p i C
def mA(p:List Nat)(C:List (Nat×Nat))(i:Nat)(o:Oper):Oper:=⟨o.dst,o.op,o.type,o.pos,((o.after.toList.map fun e=>(⟨lH p e.on,e.ground⟩:Edge))++G3 p i C).toArray,none⟩
def et(p:List Nat)(C:List (Nat×Nat))(l:List Oper):List Oper:=p.map fun i=>mA p C i (mK l i)
def JV(p:List Nat)(l:List Oper):Bool:=Nat.beq p.length l.length&&(List.range l.length).all (fun i=>p.elem i)&&(l.all fun o=>o.guard.isNone)&&p.all (fun i=>Nat.blt i l.length)&&(List.range l.length).all fun k=>(List.range l.length).any fun i=>Nat.beq (lH p i) k
theorem m7:∀{p:List Nat} {i:Nat},i∈p→lH p i<p.length∧p[lH p i]? =some i
 |j::p,i,h=>by
  unfold lH
  cases hb:Nat.beq j i with
  |true=>exact⟨by simp,by simpa using xp hb⟩
  |false=>
   have ge:¬i=j:=by
    intro e;subst e
    have:Nat.beq i i=true:=Nat.beq_refl i
    rw[this] at hb;cases hb
   rcases kj.1 h with h|h
   ·exact absurd h ge
   ·obtain⟨h1,h2⟩:=m7 h
    exact⟨by simpa using h1,by simpa using h2⟩
theorem K9 {p:List Nat}{i j:Nat}(hi:i∈p)(hj:j∈p)(h:lH p i=lH p j):i=j:=by
 have h1:=(m7 hi).2
 rw[h,(m7 hj).2] at h1
 injection h1 with h1
 exact h1.symm
theorem Nj {l:List Oper}{o:Oper}:∀{i:Nat},l[i]? =some o→mK l i=o:=by
 induction l with
 |nil=>intro i h;simp at h
 |cons o' l ih=>
  intro i h
  cases i with
  |zero=>rw[List.getElem?_cons_zero] at h;injection h
  |succ i=>rw[List.getElem?_cons_succ] at h;exact ih h
theorem zd {p:List Nat}{i:Nat}{e:Edge}:∀{C:List (Nat×Nat)},e∈G3 p i C→∃a,(a,i)∈C∧e=⟨lH p a,.data⟩
 |(a,b)::C,h=>by
  unfold G3 at h
  cases hb:Nat.beq b i with
  |true=>
   rw[hb] at h
   obtain rfl:=xp hb
   rcases kj.1 h with rfl|h
   ·exact⟨a,pS ..,rfl⟩
   ·obtain⟨a',h1,h2⟩:=zd h
    exact⟨a',ox _ h1,h2⟩
  |false=>
   rw[hb] at h
   obtain⟨a',h1,h2⟩:=zd h
   exact⟨a',ox _ h1,h2⟩
structure H3(p:List Nat)(l:List Oper):Prop where
 len:p.length=l.length
 mem:∀i,i<l.length→i∈p
 gd:∀o∈l,o.guard=none
 bd:∀i∈p,i<l.length
 inv:∀k,k<l.length→∃i,i<l.length∧lH p i=k
theorem Iz {p:List Nat}{l:List Oper}(h:JV p l=true):H3 p l:=by
 unfold JV at h
 simp only[bq,cX,pw] at h
 obtain⟨⟨⟨⟨h1,h2⟩,h3⟩,h4⟩,h5⟩:=h
 refine⟨xp h1,fun i hi=>by simpa using h2 i hi,fun o ho=>by simpa using h3 o ho,fun i hi=>?_,fun k hk=>?_⟩
 ·exact dq (h4 i hi)
 ·obtain⟨i,hi,hb⟩:=List.any_eq_true.1 (h5 k hk)
  exact⟨i,pw.1 hi,xp hb⟩
section
variable {P:Program} {p:List Nat} {C:List (Nat×Nat)} {l:List Oper}
theorem H3.get(h:H3 p l){i:Nat}{o:Oper}(ho:l[i]? =some o):(et p C l).toArray[lH p i]? =some (mA p C i o):=by
 have hi:i<l.length:=(fP.1 ho).1
 obtain⟨_,h2⟩:=m7 (h.mem i hi)
 unfold et
 rw[CJ,ek,h2,nC,Nj ho]
theorem KR(h:H3 p l){Q:Exit→Act→World→Prop}{K:Act→World→Prop}{i:Nat}(hi:i<l.length){a:Act}{w:World}(hw:wpOp P (et p C l).toArray Q (lH p i) K a w):wpOp P l.toArray Q i K a w:=by
 have ho:l[i]? =some l[i]:=c0 hi
 unfold wpOp at hw ⊢
 rw[h.get ho] at hw
 rw[CJ,ho]
 generalize hoo:l[i]=o at hw ho ⊢
 have hg:=h.gd o (eo ho)
 obtain⟨dst,op,ty,pos,af,gd⟩:=o
 simp only at hg
 subst hg
 exact hw
theorem Bg(h:H3 p l){Q:Exit→Act→World→Prop}:∀(is:List Nat) (a:Act) (w:World),(∀i∈is,i<l.length)→wpOps P (et p C l).toArray Q (is.map (lH p)) a w→wpOps P l.toArray Q is a w
 |[],a,w,_,hw=>hw
 |i::is,a,w,hi,hw=>by
  rw[dJ,wpOps_cons] at hw
  rw[wpOps_cons]
  exact KR h (hi i (pS ..)) (wpOp_mono (fun a w h'=>Bg h is a w (fun i wr=>hi i (ox _ wr)) h') hw)
structure CX(p:List Nat)(n:Nat)(s s':Array Bool):Prop where
 s1:s.size=n
 s2:s'.size=n
 eq:∀i,i<n→s'[lH p i]? =s[i]?
theorem CX.set(h:H3 p l){s s':Array Bool}(hs:CX p l.length s s'){i:Nat}(hi:i<l.length):CX p l.length (s.setIfInBounds i true) (s'.setIfInBounds (lH p i) true):=by
 refine⟨by simpa using hs.s1,by simpa using hs.s2,fun j hj=>?_⟩
 rw[Ky,Ky]
 have hpi:lH p i<s'.size:=by rw[hs.s2,←h.len];exact (m7 (h.mem i hi)).1
 by_cases Gq:i=j
 ·subst Gq
  rw[if_pos rfl,if_pos rfl,if_pos hpi,if_pos (by rw[hs.s1];exact hi)]
 ·rw[if_neg Gq,if_neg (fun e=>Gq (K9 (h.mem i hi) (h.mem j hj) e))]
  exact hs.eq j hj
theorem CX.getD(h:H3 p l){s s':Array Bool}(hs:CX p l.length s s'){j:Nat}(d:Bool)(hj:j<l.length):s'.getD (lH p j) d=s.getD j d:=by
 rw[iF,iF,hs.eq j hj]
theorem zm {s:Array Bool}{j:Nat}(h:s.getD j false=true):j<s.size:=by
 rcases gW j s.size with h1|h1
 ·exact h1
 ·rw[iF,Array.getElem?_eq_none h1] at h;cases h
theorem Gu(h:H3 p l):∀(is:List Nat) (s s':Array Bool),CX p l.length s s'→Way l.toArray is s→(∀c∈C,Bfr c.1 c.2 is s)→Way (et p C l).toArray (is.map (lH p)) s'
 |[],s,s',hs,hw,_=>by
  show Region.ready _ _ _=[]
  rw[List.eq_nil_iff_forall_not_mem]
  intro k hk
  obtain⟨h1,h2,o',h3,h4⟩:=lT.1 hk
  have hkp:k<p.length:=by
   have:(et p C l).length=p.length:=bT _
   simpa[this] using h1
  -- the operation at k is the one that stood at i
  have hik:=h.inv k (by rw[←h.len];exact hkp)
  obtain⟨i,hi,rfl⟩:=hik
  have ho:l[i]? =some l[i]:=c0 hi
  rw[h.get ho] at h3
  injection h3 with h3
  subst h3
  have:i∈Region.ready .any l.toArray s:=by
   refine lT.2 ⟨by simpa using hi,by rw[←hs.getD h true hi];exact h2,l[i],by rw[CJ];exact ho,fun e he hb=>?_⟩
   have h5:=h4 ⟨lH p e.on,e.ground⟩ (by
    unfold mA
    rw[List.mem_toArray]
    exact List.mem_append_left _ (sH.2 ⟨e,by simpa using he,rfl⟩)) hb
   have bX:lH p e.on<l.length:=by rw[←hs.s2];exact zm h5
   by_cases Oh:e.on∈p
   ·-- it is one of the operations
    have hon:e.on<l.length:=h.bd _ Oh
    rwa[hs.getD h false hon] at h5
   ·exfalso
    have:lH p e.on=p.length:=by
     have gen:∀(q:List Nat),e.on∉q→lH q e.on=q.length:=by
      intro q
      induction q with
      |nil=>intro _;rfl
      |cons j q ih=>
       intro hq
       have ge:Nat.beq j e.on=false:=by
        cases hb:Nat.beq j e.on with
        |true=>exact absurd (kj.2 (.inl (xp hb).symm)) hq
        |false=>rfl
       unfold lH
       rw[ge]
       simp only[qM]
       rw[ih fun hh=>hq (ox _ hh)]
     exact gen p Oh
    rw[this,h.len] at bX
    omega
  rw[show Region.ready .any l.toArray s=[] from hw] at this
  cases this
 |i::is,s,s',hs,⟨h1,h2⟩,hC=>by
  obtain⟨hi0,Mk,o,ho,he⟩:=lT.1 h1
  have hi:i<l.length:=by simpa using hi0
  rw[CJ] at ho
  refine⟨lT.2 ⟨?_,by rw[hs.getD h true hi];exact Mk,_,h.get ho,fun e hm hb=>?_⟩,Gu h is _ _ (hs.set h hi) h2 fun c hc=>(hC c hc).2⟩
  ·have:(et p C l).length=p.length:=bT _
   simp only[qN,this]
   exact (m7 (h.mem i hi)).1
  ·unfold mA at hm
   rw[List.mem_toArray] at hm
   rcases t8.1 hm with hm|hm
   ·obtain⟨e0,he0,rfl⟩:=sH.1 hm
    have h6:=he e0 (by simpa using he0) hb
    have bX:e0.on<l.length:=by rw[←hs.s1];exact zm h6
    rw[hs.getD h false bX];exact h6
   ·obtain⟨a,Ih,rfl⟩:=zd hm
    have h6:=(hC _ Ih).1 rfl
    have bX:a<l.length:=by rw[←hs.s1];exact zm h6
    rw[hs.getD h false bX];exact h6
end
section
variable {P:Program} {tb:TypeId→Option TyE} {x:Cx} {tm:List (Nat×D)} {hp:Hp} {Q:Exit→List (Nat×D)→Hp→Prop} {L:List FuncId} {C:List (Nat×Nat)} {l:List Oper}
def DW(P:Program)(x:Cx)(l:List Oper)(C:List (Nat×Nat))(tm:List (Nat×D))(hp:Hp)(Q:Exit→List (Nat×D)→Hp→Prop):Prop:=
 ∀(a:Act) (w:World) (is:List Nat),RS x tm hp a w→(∀i∈is,i<l.length)→Way l.toArray is (Array.replicate l.length false)→(∀c∈C,Bfr c.1 c.2 is (Array.replicate l.length false))→wpOps P l.toArray (fun ex a' w'=>∃tm' hp',RS x tm' hp' a' w'∧Q ex tm' hp') is a w
theorem RS.drew {a:Act}{w:World}(h:RS x tm hp a w):RS x tm hp a {w with drawn:=w.drawn+1}:=by
 obtain⟨g,hr,np,hsz,Dn,hB,hF,hM⟩:=h
 exact⟨g,hr.keep (aB _) (fun _ _=>rfl),fun t d hl=>(np t d hl).mono (c9.keep hp g (aB _) (fun _ _=>rfl)),hsz,Dn,hB.drew,hF,hM.trans (c9.keep hp g (aB _) (fun _ _=>rfl))⟩
theorem Mv {ops:Array Oper}:∀(is:List Nat) (s:Array Bool),Way ops is s→∀i∈is,i<ops.size
 |[],_,_,_,h=>by cases h
 |j::is,s,hw,i,h=>by
  rcases kj.1 h with rfl|h
  ·exact (lT.1 hw.1).1
  ·exact Mv is _ hw.2 i h
theorem AW.dw {id:Nat}(hm:P.follows .mixedOrders=true)(h:DW P x l [] tm hp Q):AW P x (.region id l.toArray true) tm hp Q:=by
 intro a w hr
 refine wp_region_draw fun t=>?_
 simp only[Region.schedule,hm,Bool.true_or,aU]
 have hway:=Mw (ops:=l.toArray) l.toArray.size t (Array.replicate l.toArray.size false) (by simp) (by unfold unl;exact ez (List.length_filter_le _ _) (by simp))
 have bX:=Mv _ _ hway
 simp only[qN] at hway bX
 exact h a _ _ hr.drew bX hway (fun c hc=>by cases hc)
theorem DW.split(a b:Nat)(Mm:a≠b)(h1:DW P x l ((a,b)::C) tm hp Q)(h2:DW P x l ((b,a)::C) tm hp Q):DW P x l C tm hp Q:=by
 intro ac w is hr bX hw hC
 rcases Px Mm is _ (by simp) hw with h|h
 ·exact h1 ac w is hr bX hw fun c hc=>by
   rcases kj.1 hc with rfl|hc
   ·exact h
   ·exact hC c hc
 ·exact h2 ac w is hr bX hw fun c hc=>by
   rcases kj.1 hc with rfl|hc
   ·exact h
   ·exact hC c hc
theorem Ij {ops:Array Oper}(hN:nZ x.N ops=true)(qy:xS tb L ops=true)
  (h:∀K:List (Nat×D)→Hp→Prop,(∀tm hp,Q .normal tm hp→K tm hp)→ce P tb (.any L) ops K ops.toList tm hp) {a:Act} {w:World} (hr:RS x tm hp a w):wpAny P .any ops (fun ex a' w'=>∃tm' hp',RS x tm' hp' a' w'∧Q ex tm' hp') ops.size (Array.replicate ops.size false) a w:=by
 obtain⟨dd,hh,ac,rh,co,hK,h1,h2⟩:=It (ops:=ops) ops.toList 0 (fun _=>.top) (fun _=>hp) (fun _=>false) (fun _=>tm) ⟨fun _ _ h=>absurd h (by omega),fun _ _ h=>absurd h (by omega),fun _ _ h=>absurd h (by omega)⟩ rfl (h _ fun _ _ h=>h)
 simp only[bJ,iN] at co hK h1 h2
 obtain⟨g,Gn,np,hsz,Dn,hB,hF,hM⟩:=hr
 refine Gt hN (BD qy) co (fun a w hr=>⟨_,_,hr,hK⟩) ops.size _ a _ 0 g ?_ ?_
 ·have yF:∀j,¬(Array.replicate ops.size false).getD j false=true:=by
   intro j
   simp[iF,Array.getElem?_replicate]
   split <;> simp
  refine⟨by simp,fun i _ _ _ hl=>absurd hl (yF i),cQ _,fun j _ _ _=>⟨fun hl=>absurd hl (yF j),fun h=>absurd h (by omega)⟩,?_,fun t d hl=>?_,hsz,Dn,hB,hF,?_⟩
  rotate_right
  ·rw[h2];exact hM
  ·rw[h2];exact Gn
  ·rw[h2]
   rcases hl with⟨i,_,_,hl,_⟩|⟨_,hl⟩
   ·exact absurd hl (yF i)
   ·rw[h1] at hl
    exact np t d hl
 ·unfold unl
  exact ez (List.length_filter_le _ _) (by simp)
theorem DW.go(p:List Nat)(ka:JV p l=true)(hN:nZ x.N (et p C l).toArray=true)(qy:xS tb L (et p C l).toArray=true)
  (h:∀K:List (Nat×D)→Hp→Prop,(∀tm hp,Q .normal tm hp→K tm hp)→ce P tb (.any L) (et p C l).toArray K (et p C l) tm hp):DW P x l C tm hp Q:=by
 intro a w is hr bX hw hC
 have hP:=Iz ka
 have h1:=Ij hN qy h hr
 have hlen:(et p C l).toArray.size=l.length:=by simp[et,hP.len]
 rw[hlen] at h1
 have hs0:CX p l.length (Array.replicate l.length false) (Array.replicate l.length false):=by
  refine⟨by simp,by simp,fun i hi=>?_⟩
  have:=(m7 (hP.mem i hi)).1
  rw[Array.getElem?_replicate,Array.getElem?_replicate,if_pos hi,if_pos (by rw[←hP.len];exact this)]
 exact Bg hP is a w bX (D3 _ _ _ a w h1 (Gu hP is _ _ hs0 hw hC))
end
end
def tblL:List (Nat×TyE):=[
 (2,⟨.int .i64,1,8,[.int .i64 (0)]⟩),
 (3,⟨.int .i64,1,8,[.int .i64 (0)]⟩),
 (4,⟨.bool,1,1,[.bool false]⟩),
 (5,⟨.int .u8,1,1,[.int .u8 (0)]⟩),
 (9,⟨.str,1,16,[.string ⟨#[]⟩]⟩),
 (21,⟨.int .i32,1,4,[.int .i32 (0)]⟩),
 (22,⟨.slice 43,1,24,[.slice none 0 0]⟩),
 (24,⟨.struct [(0,3),(1,3),(2,22)],3,40,[.int .i64 (0),.int .i64 (0),.slice none 0 0]⟩),
 (26,⟨.struct [(0,24),(3,22),(4,22)],5,88,[.int .i64 (0),.int .i64 (0),.slice none 0 0,.slice none 0 0,.slice none 0 0]⟩),
 (29,⟨.struct [(0,3),(1,22),(2,22),(3,22)],4,80,[.int .i64 (0),.slice none 0 0,.slice none 0 0,.slice none 0 0]⟩),
 (30,⟨.int .i64,1,8,[.int .i64 (0)]⟩),
 (38,⟨.int .u32,1,4,[ah]⟩),
 (39,⟨.arr 16 38,16,64,[ah,ah,ah,ah,ah,ah,ah,ah,ah,ah,ah,ah,ah,ah,ah,ah]⟩),
 (41,⟨.struct [(0,4),(1,4),(2,39)],18,68,[.bool false,.bool false,ah,ah,ah,ah,ah,ah,ah,ah,ah,ah,ah,ah,ah,ah,ah,ah]⟩),
 (43,⟨.struct [(0,41),(18,41)],36,136,[.bool false,.bool false,ah,ah,ah,ah,ah,ah,ah,ah,ah,ah,ah,ah,ah,ah,ah,ah,.bool false,.bool false,ah,ah,ah,ah,ah,ah,ah,ah,ah,ah,ah,ah,ah,ah,ah,ah]⟩),
 (67,⟨.slice 3,1,24,[.slice none 0 0]⟩),
 (70,⟨.other,1,8,[.pointer none]⟩),
 (71,⟨.slice 78,1,24,[.slice none 0 0]⟩),
 (73,⟨.struct [(0,43),(36,22)],37,160,[.bool false,.bool false,ah,ah,ah,ah,ah,ah,ah,ah,ah,ah,ah,ah,ah,ah,ah,ah,.bool false,.bool false,ah,ah,ah,ah,ah,ah,ah,ah,ah,ah,ah,ah,ah,ah,ah,ah,.slice none 0 0]⟩),
 (75,⟨.struct [(0,71),(1,73),(38,3),(39,3),(40,3)],41,208,[.slice none 0 0,.bool false,.bool false,ah,ah,ah,ah,ah,ah,ah,ah,ah,ah,ah,ah,ah,ah,ah,ah,.bool false,.bool false,ah,ah,ah,ah,ah,ah,ah,ah,ah,ah,ah,ah,ah,ah,ah,ah,.slice none 0 0,.int .i64 (0),.int .i64 (0),.int .i64 (0)]⟩),
 (78,⟨.struct [(0,73),(37,3)],38,168,[.bool false,.bool false,ah,ah,ah,ah,ah,ah,ah,ah,ah,ah,ah,ah,ah,ah,ah,ah,.bool false,.bool false,ah,ah,ah,ah,ah,ah,ah,ah,ah,ah,ah,ah,ah,ah,ah,ah,.slice none 0 0,.int .i64 (0)]⟩),
 (145,⟨.int .u64,1,8,[.int .u64 (0)]⟩),
 (147,⟨.int .u64,1,8,[.int .u64 (0)]⟩),
 (149,⟨.arr 32 38,32,128,[ah,ah,ah,ah,ah,ah,ah,ah,ah,ah,ah,ah,ah,ah,ah,ah,ah,ah,ah,ah,ah,ah,ah,ah,ah,ah,ah,ah,ah,ah,ah,ah]⟩),
 (151,⟨.slice 38,1,24,[.slice none 0 0]⟩),
 (157,⟨.other,1,8,[.pointer none]⟩),
 (158,⟨.other,1,8,[.pointer none]⟩),
 (160,⟨.other,1,8,[.pointer none]⟩),
 (161,⟨.slice 160,1,24,[.slice none 0 0]⟩),
 (179,⟨.slice 41,1,24,[.slice none 0 0]⟩),
 (186,⟨.arr 2 41,36,136,[.bool false,.bool false,ah,ah,ah,ah,ah,ah,ah,ah,ah,ah,ah,ah,ah,ah,ah,ah,.bool false,.bool false,ah,ah,ah,ah,ah,ah,ah,ah,ah,ah,ah,ah,ah,ah,ah,ah]⟩),
 (191,⟨.arr 17 38,17,68,[ah,ah,ah,ah,ah,ah,ah,ah,ah,ah,ah,ah,ah,ah,ah,ah,ah]⟩),
 (193,⟨.other,1,8,[.pointer none]⟩)
]
def tbl(t:TypeId):Option TyE:=tblL.lookup t
theorem tb_2:tbl 2=some ⟨.int .i64,1,8,[.int .i64 (0)]⟩:=rfl
theorem bG:tbl 3=some ⟨.int .i64,1,8,[.int .i64 (0)]⟩:=rfl
theorem eY:tbl 4=some ⟨.bool,1,1,[.bool false]⟩:=rfl
theorem tb_5:tbl 5=some ⟨.int .u8,1,1,[.int .u8 (0)]⟩:=rfl
theorem tb_9:tbl 9=some ⟨.str,1,16,[.string ⟨#[]⟩]⟩:=rfl
theorem tb_21:tbl 21=some ⟨.int .i32,1,4,[.int .i32 (0)]⟩:=rfl
theorem aM:tbl 22=some ⟨.slice 43,1,24,[.slice none 0 0]⟩:=rfl
theorem lE:tbl 24=some ⟨.struct [(0,3),(1,3),(2,22)],3,40,[.int .i64 (0),.int .i64 (0),.slice none 0 0]⟩:=rfl
theorem mE:tbl 26=some ⟨.struct [(0,24),(3,22),(4,22)],5,88,[.int .i64 (0),.int .i64 (0),.slice none 0 0,.slice none 0 0,.slice none 0 0]⟩:=rfl
theorem lD:tbl 29=some ⟨.struct [(0,3),(1,22),(2,22),(3,22)],4,80,[.int .i64 (0),.slice none 0 0,.slice none 0 0,.slice none 0 0]⟩:=rfl
theorem tb_30:tbl 30=some ⟨.int .i64,1,8,[.int .i64 (0)]⟩:=rfl
theorem aG:tbl 38=some ⟨.int .u32,1,4,[ah]⟩:=rfl
theorem aA:tbl 39=some ⟨.arr 16 38,16,64,[ah,ah,ah,ah,ah,ah,ah,ah,ah,ah,ah,ah,ah,ah,ah,ah]⟩:=rfl
theorem ap:tbl 41=some ⟨.struct [(0,4),(1,4),(2,39)],18,68,[.bool false,.bool false,ah,ah,ah,ah,ah,ah,ah,ah,ah,ah,ah,ah,ah,ah,ah,ah]⟩:=rfl
theorem ay:tbl 43=some ⟨.struct [(0,41),(18,41)],36,136,[.bool false,.bool false,ah,ah,ah,ah,ah,ah,ah,ah,ah,ah,ah,ah,ah,ah,ah,ah,.bool false,.bool false,ah,ah,ah,ah,ah,ah,ah,ah,ah,ah,ah,ah,ah,ah,ah,ah]⟩:=rfl
theorem ct:tbl 67=some ⟨.slice 3,1,24,[.slice none 0 0]⟩:=rfl
theorem tb_70:tbl 70=some ⟨.other,1,8,[.pointer none]⟩:=rfl
theorem z4:tbl 71=some ⟨.slice 78,1,24,[.slice none 0 0]⟩:=rfl
theorem xL:tbl 73=some ⟨.struct [(0,43),(36,22)],37,160,[.bool false,.bool false,ah,ah,ah,ah,ah,ah,ah,ah,ah,ah,ah,ah,ah,ah,ah,ah,.bool false,.bool false,ah,ah,ah,ah,ah,ah,ah,ah,ah,ah,ah,ah,ah,ah,ah,ah,.slice none 0 0]⟩:=rfl
theorem tb_75:tbl 75=some ⟨.struct [(0,71),(1,73),(38,3),(39,3),(40,3)],41,208,[.slice none 0 0,.bool false,.bool false,ah,ah,ah,ah,ah,ah,ah,ah,ah,ah,ah,ah,ah,ah,ah,ah,.bool false,.bool false,ah,ah,ah,ah,ah,ah,ah,ah,ah,ah,ah,ah,ah,ah,ah,ah,.slice none 0 0,.int .i64 (0),.int .i64 (0),.int .i64 (0)]⟩:=rfl
theorem sf:tbl 78=some ⟨.struct [(0,73),(37,3)],38,168,[.bool false,.bool false,ah,ah,ah,ah,ah,ah,ah,ah,ah,ah,ah,ah,ah,ah,ah,ah,.bool false,.bool false,ah,ah,ah,ah,ah,ah,ah,ah,ah,ah,ah,ah,ah,ah,ah,ah,.slice none 0 0,.int .i64 (0)]⟩:=rfl
theorem tb_145:tbl 145=some ⟨.int .u64,1,8,[.int .u64 (0)]⟩:=rfl
theorem tb_147:tbl 147=some ⟨.int .u64,1,8,[.int .u64 (0)]⟩:=rfl
theorem wV:tbl 149=some ⟨.arr 32 38,32,128,[ah,ah,ah,ah,ah,ah,ah,ah,ah,ah,ah,ah,ah,ah,ah,ah,ah,ah,ah,ah,ah,ah,ah,ah,ah,ah,ah,ah,ah,ah,ah,ah]⟩:=rfl
theorem ME:tbl 151=some ⟨.slice 38,1,24,[.slice none 0 0]⟩:=rfl
theorem tb_157:tbl 157=some ⟨.other,1,8,[.pointer none]⟩:=rfl
theorem tb_158:tbl 158=some ⟨.other,1,8,[.pointer none]⟩:=rfl
theorem wU:tbl 160=some ⟨.other,1,8,[.pointer none]⟩:=rfl
theorem yQ:tbl 161=some ⟨.slice 160,1,24,[.slice none 0 0]⟩:=rfl
theorem oJ:tbl 179=some ⟨.slice 41,1,24,[.slice none 0 0]⟩:=rfl
theorem tb_186:tbl 186=some ⟨.arr 2 41,36,136,[.bool false,.bool false,ah,ah,ah,ah,ah,ah,ah,ah,ah,ah,ah,ah,ah,ah,ah,ah,.bool false,.bool false,ah,ah,ah,ah,ah,ah,ah,ah,ah,ah,ah,ah,ah,ah,ah,ah]⟩:=rfl
theorem mI:tbl 191=some ⟨.arr 17 38,17,68,[ah,ah,ah,ah,ah,ah,ah,ah,ah,ah,ah,ah,ah,ah,ah,ah,ah]⟩:=rfl
theorem tb_193:tbl 193=some ⟨.other,1,8,[.pointer none]⟩:=rfl
class TB (t:TypeId) (i:outParam TyE):Prop where
 h:tbl t=some i
theorem tbI {t:TypeId}{i:TyE}[h:TB t i]:tbl t=some i:=h.h
@[reducible,instance] def itb_2:=TB.mk tb_2
@[reducible,instance] def itb_3:=TB.mk bG
@[reducible,instance] def itb_4:=TB.mk eY
@[reducible,instance] def itb_5:=TB.mk tb_5
@[reducible,instance] def itb_9:=TB.mk tb_9
@[reducible,instance] def itb_21:=TB.mk tb_21
@[reducible,instance] def itb_22:=TB.mk aM
@[reducible,instance] def itb_24:=TB.mk lE
@[reducible,instance] def itb_26:=TB.mk mE
@[reducible,instance] def itb_29:=TB.mk lD
@[reducible,instance] def itb_30:=TB.mk tb_30
@[reducible,instance] def itb_38:=TB.mk aG
@[reducible,instance] def itb_39:=TB.mk aA
@[reducible,instance] def itb_41:=TB.mk ap
@[reducible,instance] def itb_43:=TB.mk ay
@[reducible,instance] def itb_67:=TB.mk ct
@[reducible,instance] def itb_70:=TB.mk tb_70
@[reducible,instance] def itb_71:=TB.mk z4
@[reducible,instance] def itb_73:=TB.mk xL
@[reducible,instance] def itb_75:=TB.mk tb_75
@[reducible,instance] def itb_78:=TB.mk sf
@[reducible,instance] def itb_145:=TB.mk tb_145
@[reducible,instance] def itb_147:=TB.mk tb_147
@[reducible,instance] def itb_149:=TB.mk wV
@[reducible,instance] def itb_151:=TB.mk ME
@[reducible,instance] def itb_157:=TB.mk tb_157
@[reducible,instance] def itb_158:=TB.mk tb_158
@[reducible,instance] def itb_160:=TB.mk wU
@[reducible,instance] def itb_161:=TB.mk yQ
@[reducible,instance] def itb_179:=TB.mk oJ
@[reducible,instance] def itb_186:=TB.mk tb_186
@[reducible,instance] def itb_191:=TB.mk mI
@[reducible,instance] def itb_193:=TB.mk tb_193
def PQ(P:Program):List (Nat×TyE)→Prop
 |[]=>True
 |(t,i)::l=>((P.underlying t).map Ty.of=some i.ty∧(P.info? t).map (fun f=>(f.size,f.bytes,f.zero.map fun v=>(v.cells.toList,v.isAggV)))=some (i.size,i.bytes,some (i.zero,i.ty.agg))∧i.zero.length=i.size∧i.zero.all Value.oneCell'=true)∧PQ P l
theorem PQ.get {P:Program}:∀{l:List (Nat×TyE)} {t:Nat} {i:TyE},PQ P l→l.lookup t=some i→(P.underlying t).map Ty.of=some i.ty∧(P.info? t).map (fun f=>(f.size,f.bytes,f.zero.map fun v=>(v.cells.toList,v.isAggV)))=some (i.size,i.bytes,some (i.zero,i.ty.agg))∧i.zero.length=i.size∧i.zero.all Value.oneCell'=true
 |[],t,i,_,h=>by simp at h
 |(s,j)::l,t,i,h,hl=>by
  by_cases NL:t=s
  ·subst NL
   have:some j=some i:=by rw[←hl];exact aa.symm
   injection this with this
   subst this
   exact h.1
  ·exact PQ.get h.2 (by rw[←hl];exact (ar NL).symm)
theorem tokL:PQ Tryz.prog tblL:=by
 iterate 33 refine⟨⟨by kernel_rfl,by kernel_rfl,by kernel_rfl,by kernel_rfl⟩,?_⟩
 exact trivial
theorem tok:TOk Tryz.prog tbl:=fun _ _ h=>tokL.get h
theorem xK:Tryz.prog.underlying 4=some .bool:=by kernel_rfl
section
section
variable {md:Md} {ops:Array Oper} {K:List (Nat×D)→Hp→Prop} {os:List Oper} {tm:List (Nat×D)} {hp hp':Hp} {t s:Tmp} {op:Op} {ty:TypeId} {pos:String} {af:Array Edge} {d d2:D} {j:Nat} {want c:Bool}
theorem s1(h:AVC Tryz.prog tbl md.dr op ty (evD tm) hp (Kq d hp'))(h2:ce Tryz.prog tbl md ops K os ((t,d)::tm) hp')(hn:md.nc tbl op=true:=by exact rfl):ce Tryz.prog tbl md ops K (⟨some t,op,ty,pos,af,none⟩::os) tm hp:=st tok hn h h2
theorem s0(h:AVC Tryz.prog tbl md.dr op ty (evD tm) hp (Kq d hp'))(h2:ce Tryz.prog tbl md ops K os tm hp')(hn:md.nc tbl op=true:=by exact rfl):ce Tryz.prog tbl md ops K (⟨none,op,ty,pos,af,none⟩::os) tm hp:=st_n tok hn h h2
theorem s2(h:AVC Tryz.prog tbl md.dr op ty (evD tm) hp (Kq d hp'))(hl:d.le d2)(h2:ce Tryz.prog tbl md ops K os ((t,d2)::tm) hp')(hn:md.nc tbl op=true:=by exact rfl):ce Tryz.prog tbl md ops K (⟨some t,op,ty,pos,af,none⟩::os) tm hp:=st_le tok hn h hl h2
theorem g1(hw:c=want)(h:AVC Tryz.prog tbl md.dr op ty (evD tm) hp (Kq d hp'))(h2:ce Tryz.prog tbl md ops K os ((t,d)::tm) hp')(hj:(ops[j]?).bind (·.dst)=some s:=by exact rfl)(hc:tm.lookup s=some (.e (.lit (.bool c))):=by exact rfl)(hn:md.nc tbl op=true:=by exact rfl):ce Tryz.prog tbl md ops K (⟨some t,op,ty,pos,af,some (j,want)⟩::os) tm hp:=go_t tok hn hj hc hw h h2
theorem q1(h:mB Tryz.prog tbl md ⟨some t,op,ty,pos,af,none⟩ (evD tm) hp d hp')(h2:ce Tryz.prog tbl md ops K os ((t,d)::tm) hp'):ce Tryz.prog tbl md ops K (⟨some t,op,ty,pos,af,none⟩::os) tm hp:=K1 rfl h h2
theorem fzO {α:Type}(c:Cd α){l:List α}{vs vs2:List (Nat×List D)}{lv:List (Nat×Nat×Nat×TypeId)}{N n:Nat}(k:Nat)(ts:List Nat)(hn:n=l.length)(h2:ce Tryz.prog tbl .seq ops K os (ts.map (fun t=>(t,.e (slE c l)))++tm) ⟨vs2,lv,N⟩)(ht:∀t∈ts,tm.lookup t=some (.ow k 0 c.sz n))(hv:vs.lookup k=some (dC ((cW c).f l)):=by exact rfl)(hz:Nat.ble 1 c.sz=true:=by exact rfl)(Hb:(vs.filter fun p=>!([k]:List Nat).contains p.1)=vs2:=by exact rfl):ce Tryz.prog tbl .seq ops K os tm ⟨vs,lv,N⟩:=by
 subst Hb
 exact .wk rfl (WkS.frzG c ts hn ht hv hz) h2
theorem fzA {x:Cx}{Q:Exit→List (Nat×D)→Hp→Prop}{cd:Code}{α:Type}(c:Cd α){l:List α}{vs vs2:List (Nat×List D)}{lv:List (Nat×Nat×Nat×TypeId)}{N n:Nat}(k:Nat)(ts:List Nat)(hn:n=l.length)(h2:AW Tryz.prog x cd (ts.map (fun t=>(t,.e (slE c l)))++tm) ⟨vs2,lv,N⟩ Q)(ht:∀t∈ts,tm.lookup t=some (.ow k 0 c.sz n))(hv:vs.lookup k=some (dC ((cW c).f l)):=by exact rfl)(hz:Nat.ble 1 c.sz=true:=by exact rfl)(Hb:(vs.filter fun p=>!([k]:List Nat).contains p.1)=vs2:=by exact rfl):AW Tryz.prog x cd tm ⟨vs,lv,N⟩ Q:=by
 subst Hb
 exact AW.weak (fun _ _ hr=>(WkS.frzG c ts hn ht hv hz).rs hr) h2
theorem all1 {p:Nat→Prop}{a:Nat}(h:p a):∀t∈[a],p t:=by simpa using h
theorem all2 {p:Nat→Prop}{a:Nat}{l:List Nat}(h:p a)(hl:∀t∈l,p t):∀t∈a::l,p t:=by simpa using⟨h,hl⟩
variable {x:Cx} {Q:Exit→List (Nat×D)→Hp→Prop}
theorem rg {n id:Nat}{l:List Oper}(hx:x.N=n)(hN:nZ n l.toArray=true)(h:∀K:List (Nat×D)→Hp→Prop,(∀tm hp,Q .normal tm hp→K tm hp)→ce Tryz.prog tbl .seq l.toArray K l tm hp):AW Tryz.prog x (.region id l.toArray false) tm hp Q:=AW.regS tbl (by rw[hx];exact hN) h
theorem rd {n id:Nat}{l:List Oper}(L:List FuncId)(hx:x.N=n)(hN:nZ n l.toArray=true)(qy:xS tbl L l.toArray=true)(h:∀K:List (Nat×D)→Hp→Prop,(∀tm hp,Q .normal tm hp→K tm hp)→ce Tryz.prog tbl (.any L) l.toArray K l tm hp):AW Tryz.prog x (.region id l.toArray true) tm hp Q:=AW.drwS tbl L (by kernel_rfl) (by rw[hx];exact hN) qy h
theorem dw {id:Nat}{l:List Oper}(h:DW Tryz.prog x l [] tm hp Q):AW Tryz.prog x (.region id l.toArray true) tm hp Q:=AW.dw (by kernel_rfl) h
theorem dwg {n:Nat}{l:List Oper}{C:List (Nat×Nat)}(L:List FuncId)(p:List Nat)(hx:x.N=n)(ka:JV p l=true)(hN:nZ n (et p C l).toArray=true)(qy:xS tbl L (et p C l).toArray=true)(h:∀K:List (Nat×D)→Hp→Prop,(∀tm hp,Q .normal tm hp→K tm hp)→ce Tryz.prog tbl (.any L) (et p C l).toArray K (et p C l) tm hp):DW Tryz.prog x l C tm hp Q:=DW.go p ka (by rw[hx];exact hN) qy h
def PE(x:Cx){S:Type}(e:Exit)(T:S→List (Nat×D))(H:S→Hp)(y:S)(ex:Exit)(tm:List (Nat×D))(hp:Hp):Prop:=ex=e∧Wk x tm hp (T y) (H y)
def PR(rs:List ResultVar){R:Type}(dR:R→D)(y:R)(ex:Exit)(tm:List (Nat×D))(hp:Hp):Prop:=ex=.ret∧og tbl rs tm hp (dR y)
def PS {A B:Type}(p:A→Exit→List (Nat×D)→Hp→Prop)(q:B→Exit→List (Nat×D)→Hp→Prop)(y:A⊕B)(ex:Exit)(tm:List (Nat×D))(hp:Hp):Prop:=match y with| .inl a=>p a ex tm hp| .inr b=>q b ex tm hp
theorem PS.l {A B:Type}{p:A→Exit→List (Nat×D)→Hp→Prop}{q:B→Exit→List (Nat×D)→Hp→Prop}{a:A}{ex:Exit}(h:p a ex tm hp):PS p q (.inl a) ex tm hp:=h
theorem PS.r {A B:Type}{p:A→Exit→List (Nat×D)→Hp→Prop}{q:B→Exit→List (Nat×D)→Hp→Prop}{b:B}{ex:Exit}(h:q b ex tm hp):PS p q (.inr b) ex tm hp:=h
theorem PE.i {S:Type}{e:Exit}{T:S→List (Nat×D)}{H:S→Hp}{y:S}(hw:Wk x tm hp (T y) (H y)):PE x e T H y e tm hp:=⟨rfl,hw⟩
theorem PR.i {rs:List ResultVar}{R:Type}{dR:R→D}{y:R}(hw:og tbl rs tm hp (dR y)):PR rs dR y .ret tm hp:=⟨rfl,hw⟩
theorem jn {c:Code}{Q':Exit→List (Nat×D)→Hp→Prop}(Q:Exit→List (Nat×D)→Hp→Prop)(h:AW Tryz.prog x c tm hp Q)(hq:∀ex tm hp,Q ex tm hp→Q' ex tm hp):AW Tryz.prog x c tm hp Q':=AW.mono h hq
theorem lp {c:Code}{S X:Type}{b:S→Option (S⊕X)}{Q:Exit→List (Nat×D)→Hp→Prop}{s:S}{e:X}(T:S→List (Nat×D))(H:S→Hp)(QX:X→Exit→List (Nat×D)→Hp→Prop)(h:bS b s=some e)(hw:Wk x tm hp (T s) (H s))
  (round:∀s y,b s=some y→AW Tryz.prog x c (T s) (H s) (PS (PE x .normal T H) (fun e ex tm hp=>ex≠.normal∧QX e ex tm hp) y)) (hq:∀ex tm hp,QX e ex tm hp→Q ex tm hp):AW Tryz.prog x (.loop c) tm hp Q:=
 AW.mono (AW.loopO T H QX (fun s y hy=>AW.mono (round s y hy) fun ex tm' hp' h=>by cases y <;> exact h) h hw) hq
end
end
section
section
variable {md:Md} {ops:Array Oper} {K:List (Nat×D)→Hp→Prop} {os:List Oper} {tm:List (Nat×D)} {hp hp':Hp} {t s:Tmp} {op:Op} {ty:TypeId} {pos:String} {af:Array Edge} {d d2:D} {j:Nat} {want c:Bool}
variable {dr:Bool} {ev:List (Nat×D)}
theorem A_int {k:IntKind}{n:Int}:AVC Tryz.prog tbl dr (.assign (.const (.int k n))) ty (evD ev) hp (Kq (dI k n) hp):=KE
theorem Qh {b:Bool}:AVC Tryz.prog tbl dr (.assign (.const (.bool b))) ty (evD ev) hp (Kq (dB b) hp):=KE
theorem M_int {k:IntKind}{n:Int}:AVC Tryz.prog tbl dr (.move (.const (.int k n))) ty (evD ev) hp (Kq (dI k n) hp):=F8
theorem K_faP {s tt:TypeId}{x:Operand}{i j:TyE}{f o k off:Nat}{fs:List (Nat×TypeId)}{ev:Operand→D}(hs:tbl s=some i:=by exact tbI)(hi:i.ty=.struct fs:=by exact rfl)(hf:fs[f]? =some (o,tt):=by exact rfl)(hx:ev x=.pt k off:=by exact rfl)(ht:tbl tt=some j:=by exact tbI)(hz:Nat.ble 1 j.size=true:=by exact rfl):AVC Tryz.prog tbl dr (.fieldAddr s x f) ty ev hp (Kq (.pt k (off+o)) hp):=T_faP hs ht hi hf hz hx
theorem K_faF {s tt:TypeId}{x:Operand}{i j:TyE}{f o off:Nat}{xs:List E}{fs:List (Nat×TypeId)}{ev:Operand→D}(hs:tbl s=some i:=by exact tbI)(hi:i.ty=.struct fs:=by exact rfl)(hf:fs[f]? =some (o,tt):=by exact rfl)(hx:ev x=.fp xs off:=by exact rfl)(ht:tbl tt=some j:=by exact tbI)(hz:Nat.ble 1 j.size=true:=by exact rfl):AVC Tryz.prog tbl dr (.fieldAddr s x f) ty ev hp (Kq (.fp xs (off+o)) hp):=T_faF hs ht hi hf hz hx
theorem K_len {t e:TypeId}{x:Operand}{i j:TyE}{n:Nat}{xs:List E}{ev:Operand→D}(ht:tbl t=some i:=by exact tbI)(hi:i.ty=.slice e:=by exact rfl)(he:tbl e=some j:=by exact tbI)(hx:(ev x).asSl j.size=some (n,xs):=by exact rfl):AVC Tryz.prog tbl dr (.call ⟨.builtin .len,#[x],#[t]⟩) ty ev hp (Kq (dI .i64 n) hp):=PM ht he hi hx
theorem K_lenW {t e:TypeId}{x:Operand}{i j:TyE}{k off z n:Nat}{ev:Operand→D}(ht:tbl t=some i:=by exact tbI)(hi:i.ty=.slice e:=by exact rfl)(he:tbl e=some j:=by exact tbI)(hx:ev x=.ow k off z n:=by exact rfl):AVC Tryz.prog tbl dr (.call ⟨.builtin .len,#[x],#[t]⟩) ty ev hp (Kq (dI .i64 n) hp):=zU ht he hi hx
theorem K_shl {t t':TypeId}{x y:Operand}{k k':IntKind}{a b:Int}{ev:Operand→D}(hx:ev x=dI k a:=by exact rfl)(hy:ev y=dI k' b:=by exact rfl)(hb:0≤b:=by decide):AVC Tryz.prog tbl dr (.binOp .shl t x y t') ty ev hp (Kq (dI k (w7 k a b)) hp):=PJ hb hx hy
theorem K_shr {t t':TypeId}{x y:Operand}{k k':IntKind}{a b:Int}{ev:Operand→D}(hx:ev x=dI k a:=by exact rfl)(hy:ev y=dI k' b:=by exact rfl)(hb:0≤b:=by decide):AVC Tryz.prog tbl dr (.binOp .shr t x y t') ty ev hp (Kq (dI k (lX k a b)) hp):=PI hb hx hy
theorem K_quo {t t':TypeId}{x y:Operand}{k:IntKind}{a b:Int}{ev:Operand→D}(hx:ev x=dI k a:=by exact rfl)(hy:ev y=dI k b:=by exact rfl)(hb:b≠0:=by decide):AVC Tryz.prog tbl dr (.binOp .quo t x y t') ty ev hp (Kq (dI k (k.wrap (a.tdiv b))) hp):=EO hb hx hy
theorem K_rem {t t':TypeId}{x y:Operand}{k:IntKind}{a b:Int}{ev:Operand→D}(hx:ev x=dI k a:=by exact rfl)(hy:ev y=dI k b:=by exact rfl)(hb:b≠0:=by decide):AVC Tryz.prog tbl dr (.binOp .rem t x y t') ty ev hp (Kq (dI k (a.tmod b)) hp):=CT hb hx hy
theorem sa(h2:ce Tryz.prog tbl md ops K os ((t,d)::tm) hp')(h:AVC Tryz.prog tbl md.dr op ty (evD tm) hp (Kq d hp'):=by (first|exact T_mv|exact ly|exact A_int|exact Qh|exact A_str|exact M_int|exact M_bool|exact M_str|exact KE|exact F8|exact T_not|exact PK|exact PL|exact T_ext|exact T_add|exact T_sub|exact T_mul|exact T_eql|exact T_neq|exact T_lss|exact T_leq|exact T_gtr|exact T_geq|exact T_seql|exact T_sneq|exact PP xK|exact PN xK|exact T_and|exact T_or|exact T_xor|exact T_neg|exact K_shl|exact K_shr|exact K_quo|exact K_rem|exact K_faP|exact K_faF|exact T_cvI tbI tbI|exact T_cvS tbI tbI|exact K_len|exact T_lenS tbI|exact T_lenA tbI|exact K_lenW|exact T_min|exact T_max|exact T_boxV))(hn:md.nc tbl op=true:=by exact rfl):ce Tryz.prog tbl md ops K (⟨some t,op,ty,pos,af,none⟩::os) tm hp:=st tok hn h h2
theorem ga(hw:c=want)(h2:ce Tryz.prog tbl md ops K os ((t,d)::tm) hp')(hj:(ops[j]?).bind (·.dst)=some s:=by exact rfl)(hc:tm.lookup s=some (.e (.lit (.bool c))):=by exact rfl)(h:AVC Tryz.prog tbl md.dr op ty (evD tm) hp (Kq d hp'):=by (first|exact T_mv|exact ly|exact A_int|exact Qh|exact A_str|exact M_int|exact M_bool|exact M_str|exact KE|exact F8|exact T_not|exact PK|exact PL|exact T_ext|exact T_add|exact T_sub|exact T_mul|exact T_eql|exact T_neq|exact T_lss|exact T_leq|exact T_gtr|exact T_geq|exact T_seql|exact T_sneq|exact PP xK|exact PN xK|exact K_faP|exact K_faF|exact T_cvI tbI tbI|exact K_len|exact T_lenS tbI))(hn:md.nc tbl op=true:=by exact rfl):ce Tryz.prog tbl md ops K (⟨some t,op,ty,pos,af,some (j,want)⟩::os) tm hp:=go_t tok hn hj hc hw h h2
theorem pn {ev:Operand→D}:((([]:List Operand).map ev).map D.ex).all D.pure=true:=rfl
theorem pA {ev:Operand→D}{a:Operand}{la:List Operand}(h:(ev a).ex.pure=true)(hl:((la.map ev).map D.ex).all D.pure=true):(((a::la).map ev).map D.ex).all D.pure=true:=by
 rw[dJ,dJ,cH,h,hl];rfl
theorem lC {ev:Operand→D}{a:Operand}{la:List Operand}{d':D}{ds':List D}(h:(ev a).ex.le d')(hl:leL ((la.map ev).map D.ex) ds'):leL (((a::la).map ev).map D.ex) (d'::ds'):=⟨h,hl⟩
theorem cq {f:FuncId}{la:List Operand}{ts:Array TypeId}{ds:List D}{r:D}(hc:ax Tryz.prog f ds r)(h2:ce Tryz.prog tbl md ops K os ((t,r)::tm) hp)(ka:((la.map (evD tm)).map D.ex).all D.pure=true:=by repeat (first|exact pn|refine pA (aI _ _) ?_|refine pA rfl ?_))(hl:leL ((la.map (evD tm)).map D.ex) ds:=by repeat (first|exact lAn|refine lC (cD _ _) ?_|refine lC (ao _) ?_))(hr:r.pure=true∨∃ds,r=.tu ds:=by (first|exact .inl (g9 _ _)|exact .inl rfl|exact .inr ⟨_,rfl⟩)):
  ce Tryz.prog tbl md ops K (⟨some t,.call ⟨.value (.func f),la.toArray,ts⟩,ty,pos,af,none⟩::os) tm hp:=sq tok hc ka hl hr h2
theorem sc {x:Operand}{f:FuncId}{la:List Operand}{ts:Array TypeId}{ds:List D}{r:D}(hc:ax Tryz.prog f ds r)(h2:ce Tryz.prog tbl md ops K os ((t,r)::tm) hp)(AH:evD tm x=.e (.lit (.func (.func f) #[] #[])):=by exact rfl)(ka:((la.map (evD tm)).map D.ex).all D.pure=true:=by repeat (first|exact pn|refine pA (aI _ _) ?_|refine pA rfl ?_))(hl:leL ((la.map (evD tm)).map D.ex) ds:=by repeat (first|exact lAn|refine lC (cD _ _) ?_|refine lC (ao _) ?_))(hr:r.pure=true∨∃ds,r=.tu ds:=by (first|exact .inl (g9 _ _)|exact .inl rfl|exact .inr ⟨_,rfl⟩))(hn:md.nc tbl (.call ⟨.value x,la.toArray,ts⟩)=true:=by exact rfl):
  ce Tryz.prog tbl md ops K (⟨some t,.call ⟨.value x,la.toArray,ts⟩,ty,pos,af,none⟩::os) tm hp:=st tok hn (bj AH hc ka hl hr) h2
variable {x:Cx} {Q:Exit→List (Nat×D)→Hp→Prop}
theorem rq {n id:Nat}{l:List Oper}(hx:x.N=n)(h:∀K:List (Nat×D)→Hp→Prop,(∀tm hp,Q .normal tm hp→K tm hp)→ce Tryz.prog tbl .seq l.toArray K l tm hp)(hN:nZ n l.toArray=true:=by kernel_rfl):AW Tryz.prog x (.region id l.toArray false) tm hp Q:=rg hx hN h
theorem rqd {n id:Nat}{l:List Oper}(L:List FuncId)(hx:x.N=n)(h:∀K:List (Nat×D)→Hp→Prop,(∀tm hp,Q .normal tm hp→K tm hp)→ce Tryz.prog tbl (.any L) l.toArray K l tm hp)(hN:nZ n l.toArray=true:=by kernel_rfl)(qy:xS tbl L l.toArray=true:=by kernel_rfl):AW Tryz.prog x (.region id l.toArray true) tm hp Q:=rd L hx hN qy h
theorem rv1 {q:ResultVar}{r:D}(h:og tbl [q] tm hp r:=by (first|exact og.mk1 (E9 rfl (.inr (.inr ⟨_,(ao _),rfl,rfl⟩)))|exact og.mk1 (Fa rfl tbI rfl rfl (ltb rfl) (Cd.h _ _) (.inr (.inr ⟨_,(ao _),g9 _ _,rfl⟩))))):og tbl [q] tm hp r:=h
theorem rv2 {q q':ResultVar}{r:D}(h:og tbl [q,q'] tm hp r:=by (first|exact og.mk2 (E9 rfl (E9 rfl (.inr ⟨_,_,(ao _),(ao _),⟨rfl,rfl⟩,rfl⟩)))|exact og.mk2 (Fa rfl tbI rfl rfl (ltb rfl) (Cd.h _ _) (E9 rfl (.inr ⟨_,_,(ao _),(ao _),⟨g9 _ _,rfl⟩,rfl⟩)))|exact og.mk2 (Fa rfl tbI rfl rfl (ltb rfl) (Cd.h _ _) (Fa rfl tbI rfl rfl (ltb rfl) (Cd.h _ _) (.inr ⟨_,_,(ao _),(ao _),⟨g9 _ _,g9 _ _⟩,rfl⟩))))):og tbl [q,q'] tm hp r:=h
theorem pe0 {S:Type}{e:Exit}{T:S→List (Nat×D)}{H:S→Hp}{y:S}{vars':List (Nat×List D)}{pN:List (Nat×Nat×Nat×TypeId)}{m:Nat}{tm':List (Nat×D)}(h0:x.hp0=⟨[],[],0⟩)(os:List Nat)(hT:T y=tm':=by exact rfl)(hH:H y=⟨vars',pN,m⟩:=by exact rfl)(ht:wkT (sg 0 os) m tm tm':=by repeat (first|exact wTn|refine wR rfl ?_|refine wG rfl (ao _) ?_))(hv:wkV (sg 0 os) m hp.vars vars':=by repeat (first|exact wVn|refine vC rfl ?_|refine vR rfl ?_))(hl:wkL (sg 0 os) m hp.live pN:=by repeat (first|exact wLn|refine wL rfl rfl ?_))(FA:os.Nodup:=by decide)(hm:m=0+os.length:=by exact rfl):PE x e T H y e tm hp:=PE.i (by rw[hT,hH];exact wk h0 os ht hv hl FA hm)
theorem rs {n id:Nat}{l:List Oper}{b:Code}(hx:x.N=n)(h:∀K:List (Nat×D)→Hp→Prop,(∀tm hp,AW Tryz.prog x b tm hp Q→K tm hp)→ce Tryz.prog tbl .seq l.toArray K l tm hp)(hN:nZ n l.toArray=true:=by kernel_rfl):AW Tryz.prog x (.seq (.region id l.toArray false) b) tm hp Q:=AW.seq (rg hx hN fun K hK=>h K hK)
theorem rsd {n id:Nat}{l:List Oper}{b:Code}(L:List FuncId)(hx:x.N=n)(h:∀K:List (Nat×D)→Hp→Prop,(∀tm hp,AW Tryz.prog x b tm hp Q→K tm hp)→ce Tryz.prog tbl (.any L) l.toArray K l tm hp)(hN:nZ n l.toArray=true:=by kernel_rfl)(qy:xS tbl L l.toArray=true:=by kernel_rfl):AW Tryz.prog x (.seq (.region id l.toArray true) b) tm hp Q:=AW.seq (rd L hx hN qy fun K hK=>h K hK)
theorem ra {n id:Nat}{l:List Oper}{b:Code}{tm':List (Nat×D)}(hx:x.N=n)(h2:AW Tryz.prog x b tm' hp' Q)(h:∀K:List (Nat×D)→Hp→Prop,K tm' hp'→ce Tryz.prog tbl .seq l.toArray K l tm hp:=by (intro K hK;(repeat (refine sa ?_));exact .nil hK))(hN:nZ n l.toArray=true:=by kernel_rfl):AW Tryz.prog x (.seq (.region id l.toArray false) b) tm hp Q:=rs hx (fun K hK=>h K (hK _ _ h2)) hN
theorem rb {n id:Nat}{l:List Oper}{tm':List (Nat×D)}(hx:x.N=n)(h2:Q .normal tm' hp')(h:∀K:List (Nat×D)→Hp→Prop,K tm' hp'→ce Tryz.prog tbl .seq l.toArray K l tm hp:=by (intro K hK;(repeat (refine sa ?_));exact .nil hK))(hN:nZ n l.toArray=true:=by kernel_rfl):AW Tryz.prog x (.region id l.toArray false) tm hp Q:=rq hx (fun K hK=>h K (hK _ _ h2)) hN
theorem cdh {R:Type}{y z:Option R}{r:R}{c:Operand}{c1 c2:Code}{b:Bool}(h:cnd b y z=some r)(hc:evD tm c=.e (.lit (.bool b)))(ht:b=true→y=some r→AW Tryz.prog x c1 tm hp Q)(hf:b=false→z=some r→AW Tryz.prog x c2 tm hp Q):AW Tryz.prog x (.cond c c1 c2) tm hp Q:=AW.condS hc (fun hb=>ht hb (aP hb h)) fun hb=>hf hb (aQ hb h)
theorem scb {R S:Type}{g:Option S}{k:S→Option R}{z:R}{x:Operand}{f:FuncId}{la:List Operand}{ts:Array TypeId}{ds:List D}{dr:S→D}(h:bnd g k=some z)(w:∀{y:S},g=some y→ax Tryz.prog f ds (dr y))(h2:∀y,k y=some z→ce Tryz.prog tbl md ops K os ((t,dr y)::tm) hp)(AH:evD tm x=.e (.lit (.func (.func f) #[] #[])):=by exact rfl)(ka:((la.map (evD tm)).map D.ex).all D.pure=true:=by repeat (first|exact pn|refine pA (aI _ _) ?_|refine pA rfl ?_))(hl:leL ((la.map (evD tm)).map D.ex) ds:=by repeat (first|exact lAn|refine lC (cD _ _) ?_|refine lC (ao _) ?_))(hr:∀y,(dr y).pure=true∨∃ds,dr y=.tu ds:=by (intro y;first|exact .inl (g9 _ _)|exact .inl rfl|exact .inr ⟨_,rfl⟩))(hn:md.nc tbl (.call ⟨.value x,la.toArray,ts⟩)=true:=by exact rfl):
  ce Tryz.prog tbl md ops K (⟨some t,.call ⟨.value x,la.toArray,ts⟩,ty,pos,af,none⟩::os) tm hp:=by
 obtain⟨y,h3,h4⟩:=ab h
 exact st tok hn (bj AH (w h3) ka hl (hr y)) (h2 y h4)
theorem cqb {R S:Type}{g:Option S}{k:S→Option R}{z:R}{f:FuncId}{la:List Operand}{ts:Array TypeId}{ds:List D}{dr:S→D}(h:bnd g k=some z)(w:∀{y:S},g=some y→ax Tryz.prog f ds (dr y))(h2:∀y,k y=some z→ce Tryz.prog tbl md ops K os ((t,dr y)::tm) hp)(ka:((la.map (evD tm)).map D.ex).all D.pure=true:=by repeat (first|exact pn|refine pA (aI _ _) ?_|refine pA rfl ?_))(hl:leL ((la.map (evD tm)).map D.ex) ds:=by repeat (first|exact lAn|refine lC (cD _ _) ?_|refine lC (ao _) ?_))(hr:∀y,(dr y).pure=true∨∃ds,dr y=.tu ds:=by (intro y;first|exact .inl (g9 _ _)|exact .inl rfl|exact .inr ⟨_,rfl⟩)):
  ce Tryz.prog tbl md ops K (⟨some t,.call ⟨.value (.func f),la.toArray,ts⟩,ty,pos,af,none⟩::os) tm hp:=by
 obtain⟨y,h3,h4⟩:=ab h
 exact sq tok (w h3) ka hl (hr y) (h2 y h4)
theorem bE {f : FuncId} {fn : Func} {c : Code} {ds : List D} {r : D} {rs : List ResultVar} {tm0 : List (Nat × D)} (h : ∀ x : Cx, x.N = fn.ntmps → x.hp0 = ⟨[], [], 0⟩ → AW Tryz.prog x c tm0 ⟨[], [], 0⟩ fun ex tm hp => match ex with | .normal | .ret => og tbl rs tm hp r | _ => False) (hf : Tryz.prog.funcs[f]? = some fn) (hb : fn.body = some c := by exact rfl) (BX : (fn.name == "runtime.NumGoroutine") = false := by exact rfl) (hN : Nat.ble ds.length fn.ntmps = true := by exact rfl) (He : fn.results.toList = rs := by exact rfl) (np : fL 0 ds = tm0 := by (simp only [fL, Nat.reduceAdd, bJ]; rfl)) : ax Tryz.prog f ds r := ax.of tok hf hb BX (dq hN) He (by rw [np]; exact h)
end
end
structure av where
 vBad:Bool
 vNeg:Bool
 vW:Vector Int 16
 deriving Inhabited,DecidableEq
abbrev be:av:=⟨false,false,cy⟩
def aj:Cd av:=⟨18,fun x=>[.lit (.bool x.vBad),.lit (.bool x.vNeg)]++(cA 16 (cI .u32)).f x.vW,fun x=>by simp[(cA 16 (cI .u32)).h,show (cA 16 (cI .u32)).sz=16 from rfl]⟩
theorem jf(x:av):am (aj.f x) cB 0 x.vBad (fun y=>aj.f (⟨y,x.vNeg,x.vW⟩:av)):=
 am.of ([]) ((cB).f x.vNeg++((cA 16 (cI .u32))).f x.vW) (by first|rfl|(simp[(cA 16 (cI .u32)).h,cB.h];first|rfl|done)) (by first|rfl|simp[aj,cI,cB,cS,cL,dy]) (fun y=>by first|rfl|simp[aj,cI,cB,cS,cL,dy])
theorem aR(x:av):am (aj.f x) cB 1 x.vNeg (fun y=>aj.f (⟨x.vBad,y,x.vW⟩:av)):=
 am.of ((cB).f x.vBad) (((cA 16 (cI .u32))).f x.vW) (by first|rfl|(simp[(cA 16 (cI .u32)).h,cB.h];first|rfl|done)) (by first|rfl|simp[aj,cI,cB,cS,cL,dy]) (fun y=>by first|rfl|simp[aj,cI,cB,cS,cL,dy])
theorem aT(x:av):am (aj.f x) (cA 16 (cI .u32)) 2 x.vW (fun y=>aj.f (⟨x.vBad,x.vNeg,y⟩:av)):=
 am.of ((cB).f x.vBad++(cB).f x.vNeg) ([]) (by first|rfl|(simp[(cA 16 (cI .u32)).h,cB.h];first|rfl|done)) (by first|rfl|simp[aj,cI,cB,cS,cL,dy]) (fun y=>by first|rfl|simp[aj,cI,cB,cS,cL,dy])
def lf(aY:av):Option Bool:=bnd (some (decide (aY.vW=#v[(0:Int),0,0,0,0,0,0,0,0,0,0,0,0,0,0,0]))) fun x1=>cnd aY.vBad (bnd (S:=Bool) (cnd x1 (some (!aY.vNeg)) (some (false))) fun nE=>some nE) (bnd (S:=Bool) (cnd (!x1) (some (true)) (some (!aY.vNeg))) fun d9=>some d9)
theorem we {aY:av}{r:Bool}(h:lf aY=some r):ax Tryz.prog 178 [dG aj aY] (dB r):=by
 refine bE (rs:=[.tmp 2]) (fun cx hx h0=>?_) Tryz.func178
 unfold lf at h
 refine ra hx ?_
 refine rs hx fun K hK=>?_
 refine sa ?_
 refine s1 (au (aT aY) aA) ?_
 refine s1 (d:=dG (cA 16 (cI .u32)) (#v[(0:Int),0,0,0,0,0,0,0,0,0,0,0,0,0,0,0])) (mj aA aG) ?_
 refine s1 (zV tok 2 (by decide) (EqC.arr (EqC.int (d:=0) aG) aA aG) aA) ?_
 obtain⟨x1,vu,h⟩:=ab h
 replace vu:=bQ vu
 refine s2 (d2:=dB x1) ly (gq (congrArg dB vu)) ?_
 refine .nil (hK _ _ (AW.seq (rs hx fun K hK=>?_)))
 refine sa ?_
 refine s1 (aW (jf aY) eY) ?_
 refine .nil (hK _ _ (cdh h rfl (fun bb h=>?_) (fun bb h=>?_)))
 refine AW.seq ?_
 obtain⟨nE,hy,h⟩:=ab h
 refine jn ((PE cx .normal (fun nE=>[(2,dB nE)]) fun nE=>⟨[],[],0⟩) nE) ?_ ?_
 replace h:=hy
 refine rq hx fun K hK=>?_
 iterate 2 refine sa ?_
 rcases aD x1 with gH|gH
 replace h:=aP gH h
 refine ga gH ?_
 refine g1 gH (aW (aR aY) eY) ?_
 refine ga gH ?_
 refine s1 (aw gH) ?_
 refine sa ?_
 refine .nil (hK _ _ ?_)
 cases h
 exact pe0 h0 []
 replace h:=aQ gH h
 iterate 3 refine aH rfl rfl gH ?_
 refine s1 (al gH) ?_
 refine sa ?_
 refine .nil (hK _ _ ?_)
 cases h
 exact pe0 h0 []
 rintro ex tm' hp' ⟨rfl,hw⟩
 refine AW.weak hw (AW.ret ?_)
 cases h
 exact rv1
 refine AW.skip (AW.seq ?_)
 obtain⟨d9,hy,h⟩:=ab h
 refine jn ((PE cx .normal (fun d9=>[(2,dB d9)]) fun d9=>⟨[],[],0⟩) d9) ?_ ?_
 replace h:=hy
 refine rq hx fun K hK=>?_
 iterate 3 refine sa ?_
 rcases aD (!x1) with fe|fe
 replace h:=aP fe h
 iterate 3 refine aH rfl rfl fe ?_
 refine s1 (aw fe) ?_
 refine sa ?_
 refine .nil (hK _ _ ?_)
 cases h
 exact pe0 h0 []
 replace h:=aQ fe h
 refine ga fe ?_
 refine g1 fe (aW (aR aY) eY) ?_
 refine ga fe ?_
 refine s1 (al fe) ?_
 refine sa ?_
 refine .nil (hK _ _ ?_)
 cases h
 exact pe0 h0 []
 rintro ex tm' hp' ⟨rfl,hw⟩
 refine AW.weak hw (AW.ret ?_)
 cases h
 exact rv1
def eN :Option av:=some (⟨true,false,(cy)⟩:av)
theorem ib  {r:av}(h:eN=some r):ax Tryz.prog 121 [] (dG aj r):=by
 refine bE (rs:=[.cell 0 41]) (fun cx hx h0=>?_) Tryz.func121
 unfold eN at h
 refine rs hx fun K hK=>?_
 refine s1 (bm (F:=aj.f be) ap) ?_
 refine .nil (hK _ _ (rs hx fun K hK=>?_))
 refine s1 (d:=dG aj (⟨true,false,(cy)⟩:av)) (g8 (FL.cons (y:=true) (jf be) rfl rfl (FL.nil _)) ap) ?_
 refine s0 (aE (b':=(⟨true,false,(cy)⟩:av)) (am.id _ _) ap) ?_
 refine .nil (hK _ _ (AW.ret ?_))
 cases h
 exact rv1
def m5(ep:List av):Int→Option (Int⊕(Bool⊕Unit)):=fun aJ=>cnd (decide (aJ<((ep).length:Int))) (gd (0≤aJ∧aJ<((ep).length:Int)) (bnd (S:=Bool) (cnd (((ep)[(aJ).toNat]!).vBad) (some (true)) (bnd (lf ((ep)[(aJ).toNat]!)) fun x5=>some (!x5))) fun bx=>cnd bx (some (.inr (.inl false))) (some (.inl (i64.wrap (aJ+(1:Int))))))) (some (.inr (.inr ())))
def cO(ep:List av):Option Bool:=bnd (bS (m5 ep) (0:Int)) fun y9=>match y9 with| .inl r=>some r| .inr ()=>some true
set_option maxHeartbeats 4000000 in
theorem ff {ep:List av}{r:Bool}(h:cO ep=some r):ax Tryz.prog 147 [dL aj ep] (dB r):=by
 refine bE (rs:=[.tmp 2]) (fun cx hx h0=>?_) Tryz.func147
 unfold cO at h
 refine ra hx ?_
 refine AW.seq (ra hx ?_)
 refine AW.block ?_
 obtain⟨y,hy,h⟩:=ab h
 refine lp (S:=Int) (X:=Bool⊕Unit) (fun aJ=>[(5,dL aj ep),(6,dI .i64 ((ep).length:Int)),(7,dI .i64 aJ)]) (fun aJ=>⟨[],[],0⟩) (PS (PR [.tmp 2] fun r=>dB r) (PE cx (.exit 0) (fun ()=>[]) fun ()=>⟨[],[],0⟩)) hy ?_ ?_ ?_
 exact wk h0 [] (wR rfl (wR rfl (wR rfl wTn))) wVn wLn
 clear hy h
 rintro aJ y h
 dsimp only[m5] at h
 refine ra hx ?_
 refine AW.seq (cdh h rfl (fun c5 h=>?_) (fun c5 h=>?_))
 refine AW.skip (AW.seq (AW.block (rs hx fun K hK=>?_)))
 obtain⟨ml,h⟩:=aC h
 have p8:(aJ).toNat<(ep).length:=by omega
 refine s1 (g7 ml oJ ap) ?_
 refine s1 (d:=dG aj ((ep)[(aJ).toNat]!)) (mi (c:=aj) (l:=ep) (n:=(aJ).toNat) (o:=0) ap p8 (f8 _ _ rfl)) ?_
 refine s1 (bm (F:=aj.f be) ap) ?_
 refine s0 (aE (b':=(ep)[(aJ).toNat]!) (am.id _ _) ap) ?_
 refine .nil (hK _ _ (AW.seq ?_))
 obtain⟨bx,hy,h⟩:=ab h
 refine jn ((PE cx .normal (fun bx=>[(5,dL aj ep),(6,dI .i64 ((ep).length:Int)),(7,dI .i64 aJ),(17,dB bx)]) fun bx=>⟨[],[],0⟩) bx) ?_ ?_
 replace h:=hy
 refine rq hx fun K hK=>?_
 refine sa ?_
 refine s1 (aW (jf ((ep)[(aJ).toNat]!)) eY) ?_
 refine sa ?_
 rcases aD (((ep)[(aJ).toNat]!).vBad) with gH|gH
 replace h:=aP gH h
 iterate 3 refine aH rfl rfl gH ?_
 refine s1 (aw gH) ?_
 refine .nil (hK _ _ ?_)
 cases h
 exact pe0 h0 []
 replace h:=aQ gH h
 refine g1 (d:=dG aj ((ep)[(aJ).toNat]!)) gH (au (am.id _ _) ap) ?_
 obtain⟨x5,AD,h⟩:=ab h
 refine g1 gH (bj rfl (we AD) (by simp only[dJ,eD,cH,bP,bB,bq];exact aI _ _) (lA (cD _ _) lAn) (.inl rfl)) ?_
 refine ga gH ?_
 refine s1 (al gH) ?_
 refine .nil (hK _ _ ?_)
 cases h
 exact pe0 h0 []
 rintro ex tm' hp' ⟨rfl,hw⟩
 refine AW.weak hw (cdh h rfl (fun iS h=>?_) (fun iS h=>?_))
 refine ra hx ?_
 refine AW.ret ?_
 cases h
 refine PS.r ⟨by nofun,PS.l (PR.i ?_)⟩
 exact rv1
 refine AW.skip (rb hx ?_)
 cases h
 exact PS.l (pe0 h0 [])
 refine AW.exit ?_
 try dsimp only
 try simp only[aU,reduceIte,Nat.reduceEqDiff,reduceCtorEq]
 cases h
 exact PS.r ⟨by nofun,PS.r (PE.i (wk h0 [] wTn wVn wLn))⟩
 rcases y with r|⟨⟩
 rintro ex tm' hp' ⟨rfl,hw⟩
 cases h
 exact hw
 rintro ex tm' hp' ⟨rfl,hw⟩
 try dsimp only
 try simp only[aU,reduceIte,Nat.reduceEqDiff,reduceCtorEq]
 refine AW.weak hw (ra hx ?_)
 refine AW.ret ?_
 cases h
 exact rv1
def bV(uI:Bool)(pC:Vector Int 16):Option av:=bnd (S:=av) (cnd uI (bnd (some ((⟨false,decide (¬(pC=#v[(0:Int),0,0,0,0,0,0,0,0,0,0,0,0,0,0,0])),pC⟩:av))) fun x2=>some (x2)) (some ((⟨false,false,pC⟩:av)))) fun bI=>some bI
theorem dQ {uI:Bool}{pC:Vector Int 16}{r:av}(h:bV uI pC=some r):ax Tryz.prog 145 [dB uI,dG (cA 16 (cI .u32)) pC] (dG aj r):=by
 refine bE (rs:=[.cell 4 41]) (fun cx hx h0=>?_) Tryz.func145
 unfold bV at h
 refine rs hx fun K hK=>?_
 refine sa ?_
 refine s1 (bm (F:=aj.f be) ap) ?_
 refine .nil (hK _ _ (AW.seq ?_))
 obtain⟨bI,hy,h⟩:=ab h
 refine jn ((PE cx .normal (fun bI=>[(4,.pt 0 0)]) fun bI=>⟨[(0,dC (aj.f bI))],[],1⟩) bI) ?_ ?_
 replace h:=hy
 refine rqd [] hx fun K hK=>?_
 iterate 2 refine sa ?_
 rcases aD uI with c5|c5
 replace h:=aP c5 h
 refine g1 (d:=dG (cA 16 (cI .u32)) pC) c5 (au (am.id _ _) aA) ?_
 refine g1 (d:=dG (cA 16 (cI .u32)) (#v[(0:Int),0,0,0,0,0,0,0,0,0,0,0,0,0,0,0])) c5 (mj aA aG) ?_
 refine g1 c5 (CV tok 2 (by decide) (EqC.arr (EqC.int (d:=0) aG) aA aG) aA) ?_
 refine s1 (aw c5) ?_
 refine s1 (d:=dG (cA 16 (cI .u32)) pC) (au (am.id _ _) aA) ?_
 refine s1 (d:=dG aj (⟨false,decide (¬(pC=#v[(0:Int),0,0,0,0,0,0,0,0,0,0,0,0,0,0,0])),pC⟩:av)) (g8 (FL.cons (y:=decide (¬(pC=#v[(0:Int),0,0,0,0,0,0,0,0,0,0,0,0,0,0,0]))) (aR be) rfl rfl (FL.cons (y:=pC) (aT (⟨false,decide (¬(pC=#v[(0:Int),0,0,0,0,0,0,0,0,0,0,0,0,0,0,0])),(cy)⟩:av)) rfl rfl (FL.nil _))) ap) ?_
 obtain⟨x2,IP,h⟩:=ab h
 replace IP:=bQ IP
 refine s0 (nk (b':=(⟨false,decide (¬(pC=#v[(0:Int),0,0,0,0,0,0,0,0,0,0,0,0,0,0,0])),pC⟩:av)) (am.id _ _) ap IP) ?_
 refine .nil (hK _ _ ?_)
 cases h
 exact pe0 h0 [1]
 replace h:=aQ c5 h
 iterate 3 refine aH rfl rfl c5 ?_
 refine s1 (al c5) ?_
 refine s1 (d:=dG (cA 16 (cI .u32)) pC) (au (am.id _ _) aA) ?_
 refine s1 (d:=dG aj (⟨false,false,pC⟩:av)) (g8 (FL.cons (y:=false) (aR be) rfl rfl (FL.cons (y:=pC) (aT be) rfl rfl (FL.nil _))) ap) ?_
 refine s0 (aE (b':=(⟨false,false,pC⟩:av)) (am.id _ _) ap) ?_
 refine .nil (hK _ _ ?_)
 cases h
 exact pe0 h0 [1]
 rintro ex tm' hp' ⟨rfl,hw⟩
 refine AW.weak hw (AW.ret ?_)
 cases h
 exact rv1
def gS(cG:Int):Option av:=bnd (S:=Int) (cnd (decide (cG<(0:Int))) (some (u64.wrap (0 - (u64.wrap (cG))))) (some (u64.wrap (cG)))) fun ju=>bnd (bV (decide (cG<(0:Int))) (#v[u32.wrap (ju),u32.wrap (lX .u64 ju (32:Int)),0,0,0,0,0,0,0,0,0,0,0,0,0,0])) fun x3=>some x3
theorem ql {cG:Int}{r:av}(h:gS cG=some r):ax Tryz.prog 91 [dI .i64 cG] (dG aj r):=by
 refine bE (rs:=[.cell 2 41]) (fun cx hx h0=>?_) Tryz.func91
 unfold gS at h
 refine rs hx fun K hK=>?_
 refine s1 (bm (F:=aj.f be) ap) ?_
 refine .nil (hK _ _ (ra hx ?_))
 refine AW.seq ?_
 obtain⟨ju,hy,h⟩:=ab h
 refine jn ((PE cx .normal (fun ju=>[(0,dI .i64 cG),(2,.pt 0 0),(3,dI .u64 ju)]) fun ju=>⟨[(0,dC (aj.f be))],[],1⟩) ju) ?_ ?_
 replace h:=hy
 refine ra hx ?_
 refine cdh h rfl (fun c5 h=>?_) (fun c5 h=>?_)
 refine rb hx ?_
 cases h
 exact pe0 h0 [0]
 refine AW.skip ?_
 cases h
 exact pe0 h0 [0]
 rintro ex tm' hp' ⟨rfl,hw⟩
 refine AW.weak hw (rs hx fun K hK=>?_)
 iterate 7 refine sa ?_
 refine s1 (d:=dG (cA 16 (cI .u32)) (#v[u32.wrap (ju),u32.wrap (lX .u64 ju (32:Int)),0,0,0,0,0,0,0,0,0,0,0,0,0,0])) (mj aA aG) ?_
 refine scb h dQ fun x3 h=>?_
 refine s0 (aE (b':=x3) (am.id _ _) ap) ?_
 refine .nil (hK _ _ (AW.ret ?_))
 cases h
 exact rv1
def kS(pC:Vector Int 16):Int→Option (Int⊕Int):=fun aJ=>bnd (S:=Bool) (cnd (decide ((0:Int)<aJ)) (gd (0≤i64.wrap (aJ - (1:Int))∧i64.wrap (aJ - (1:Int))<16) (some (decide (((pC)[(i64.wrap (aJ - (1:Int))).toNat]!)=(0:Int))))) (some (false))) fun nE=>cnd nE (some (.inl (i64.wrap (aJ - (1:Int))))) (some (.inr aJ))
def eZ(pC:Vector Int 16):Option Int:=bnd (bS (kS pC) (16:Int)) fun n9=>some n9
theorem kr {pC:Vector Int 16}{r:Int}(h:eZ pC=some r):ax Tryz.prog 148 [dG (cA 16 (cI .u32)) pC] (dI .i64 r):=by
 refine bE (rs:=[.tmp 2]) (fun cx hx h0=>?_) Tryz.func148
 unfold eZ at h
 iterate 2 refine ra hx ?_
 refine AW.seq (AW.block ?_)
 obtain⟨n9,hy,h⟩:=ab h
 refine lp (S:=Int) (X:=Int) (fun aJ=>[(1,.pt 0 0),(3,dI .i64 aJ)]) (fun aJ=>⟨[(0,dC ((cA 16 (cI .u32)).f pC))],[],1⟩) (PE cx (.exit 0) (fun n9=>[(3,dI .i64 n9)]) fun n9=>⟨[],[],0⟩) hy ?_ ?_ ?_
 exact wk h0 [0] (wR rfl (wR rfl wTn)) (vC rfl wVn) wLn
 clear hy h
 rintro aJ y h
 dsimp only[kS] at h
 iterate 2 refine AW.seq ?_
 obtain⟨nE,hy,h⟩:=ab h
 refine jn ((PE cx .normal (fun nE=>[(1,.pt 0 0),(3,dI .i64 aJ),(12,dB nE)]) fun nE=>⟨[(0,dC ((cA 16 (cI .u32)).f pC))],[],1⟩) nE) ?_ ?_
 replace h:=hy
 refine rq hx fun K hK=>?_
 iterate 3 refine sa ?_
 rcases aD (decide ((0:Int)<aJ)) with c5|c5
 replace h:=aP c5 h
 iterate 2 refine ga c5 ?_
 obtain⟨ml,h⟩:=aC h
 have p8:(i64.wrap (aJ - (1:Int))).toNat<16:=by omega
 refine g1 c5 (cJ ml aA aG) ?_
 refine g1 c5 (aW (am.comp (am.id _ _) (am.vec (cI .u32) pC (i64.wrap (aJ - (1:Int))).toNat p8) (fun _=>rfl)) aG) ?_
 refine ga c5 ?_
 refine s1 (aw c5) ?_
 refine .nil (hK _ _ ?_)
 cases h
 exact pe0 h0 [0]
 replace h:=aQ c5 h
 iterate 5 refine aH rfl rfl c5 ?_
 refine s1 (al c5) ?_
 refine .nil (hK _ _ ?_)
 cases h
 exact pe0 h0 [0]
 rintro ex tm' hp' ⟨rfl,hw⟩
 refine AW.weak hw (cdh h rfl (fun eH h=>?_) (fun eH h=>?_))
 refine AW.skip (AW.block (rb hx ?_))
 cases h
 exact PS.l (pe0 h0 [0])
 refine AW.exit ?_
 try dsimp only
 try simp only[aU,reduceIte,Nat.reduceEqDiff,reduceCtorEq]
 cases h
 exact PS.r ⟨by nofun,PE.i (wk h0 [] (wR rfl wTn) wVn wLn)⟩
 rintro ex tm' hp' ⟨rfl,hw⟩
 try dsimp only
 try simp only[aU,reduceIte,Nat.reduceEqDiff,reduceCtorEq]
 refine AW.weak hw (ra hx ?_)
 refine AW.ret ?_
 cases h
 exact rv1
def mw(aY:Int):Option Int:=bnd (S:=Int×Int) (cnd (decide ((65536:Int)≤aY)) (some ((lX .u32 aY (16:Int),(16:Int)))) (some ((aY,(0:Int))))) fun (bI,F7)=>bnd (S:=Int×Int) (cnd (decide ((256:Int)≤bI)) (some ((lX .u32 bI (8:Int),i64.wrap (F7+(8:Int))))) (some ((bI,F7)))) fun (oz,CQ)=>gd (0≤u8.wrap (oz)∧u8.wrap (oz)<((⟨#[0,1,2,2,3,3,3,3,4,4,4,4,4,4,4,4,5,5,5,5,5,5,5,5,5,5,5,5,5,5,5,5,6,6,6,6,6,6,6,6,6,6,6,6,6,6,6,6,6,6,6,6,6,6,6,6,6,6,6,6,6,6,6,6,7,7,7,7,7,7,7,7,7,7,7,7,7,7,7,7,7,7,7,7,7,7,7,7,7,7,7,7,7,7,7,7,7,7,7,7,7,7,7,7,7,7,7,7,7,7,7,7,7,7,7,7,7,7,7,7,7,7,7,7,7,7,7,7,8,8,8,8,8,8,8,8,8,8,8,8,8,8,8,8,8,8,8,8,8,8,8,8,8,8,8,8,8,8,8,8,8,8,8,8,8,8,8,8,8,8,8,8,8,8,8,8,8,8,8,8,8,8,8,8,8,8,8,8,8,8,8,8,8,8,8,8,8,8,8,8,8,8,8,8,8,8,8,8,8,8,8,8,8,8,8,8,8,8,8,8,8,8,8,8,8,8,8,8,8,8,8,8,8,8,8,8,8,8,8,8,8,8,8,8,8,8,8,8,8,8,8,8,8,8,8,8]⟩:ByteArray).size:Int)) (bnd (some (i64.wrap (CQ+(i64.wrap (sAt (⟨#[0,1,2,2,3,3,3,3,4,4,4,4,4,4,4,4,5,5,5,5,5,5,5,5,5,5,5,5,5,5,5,5,6,6,6,6,6,6,6,6,6,6,6,6,6,6,6,6,6,6,6,6,6,6,6,6,6,6,6,6,6,6,6,6,7,7,7,7,7,7,7,7,7,7,7,7,7,7,7,7,7,7,7,7,7,7,7,7,7,7,7,7,7,7,7,7,7,7,7,7,7,7,7,7,7,7,7,7,7,7,7,7,7,7,7,7,7,7,7,7,7,7,7,7,7,7,7,7,8,8,8,8,8,8,8,8,8,8,8,8,8,8,8,8,8,8,8,8,8,8,8,8,8,8,8,8,8,8,8,8,8,8,8,8,8,8,8,8,8,8,8,8,8,8,8,8,8,8,8,8,8,8,8,8,8,8,8,8,8,8,8,8,8,8,8,8,8,8,8,8,8,8,8,8,8,8,8,8,8,8,8,8,8,8,8,8,8,8,8,8,8,8,8,8,8,8,8,8,8,8,8,8,8,8,8,8,8,8,8,8,8,8,8,8,8,8,8,8,8,8,8,8,8,8,8,8]⟩:ByteArray) (u8.wrap (oz)).toNat))))) fun x6=>some x6)
theorem xH {aY:Int}{r:Int}(h:mw aY=some r):ax Tryz.prog 197 [dI .u32 aY] (dI .i64 r):=by
 refine bE (rs:=[.tmp 2]) (fun cx hx h0=>?_) Tryz.func197
 unfold mw at h
 refine ra hx ?_
 refine AW.seq ?_
 obtain⟨y,hy,h⟩:=ab h
 refine jn ((PE cx .normal (fun (bI,F7)=>[(0,dI .u32 bI),(2,dI .i64 F7)]) fun (bI,F7)=>⟨[],[],0⟩) y) ?_ ?_
 replace h:=hy
 refine ra hx ?_
 refine cdh h rfl (fun c5 h=>?_) (fun c5 h=>?_)
 refine ra hx ?_
 refine rb hx ?_
 cases h
 exact pe0 h0 []
 refine AW.skip ?_
 cases h
 exact pe0 h0 []
 obtain⟨bI,F7⟩:=y
 rintro ex tm' hp' ⟨rfl,hw⟩
 refine AW.weak hw (AW.seq ?_)
 obtain⟨y,hy,h⟩:=ab h
 refine jn ((PE cx .normal (fun (oz,CQ)=>[(0,dI .u32 oz),(2,dI .i64 CQ)]) fun (oz,CQ)=>⟨[],[],0⟩) y) ?_ ?_
 replace h:=hy
 refine ra hx ?_
 refine cdh h rfl (fun bb h=>?_) (fun bb h=>?_)
 refine ra hx ?_
 refine rb hx ?_
 cases h
 exact pe0 h0 []
 refine AW.skip ?_
 cases h
 exact pe0 h0 []
 obtain⟨oz,CQ⟩:=y
 rintro ex tm' hp' ⟨rfl,hw⟩
 refine AW.weak hw (rs hx fun K hK=>?_)
 iterate 3 refine sa ?_
 obtain⟨hc5,h⟩:=aC h
 refine s1 (T_ixS hc5 tb_9) ?_
 iterate 2 refine sa ?_
 obtain⟨x6,pZ,h⟩:=ab h
 replace pZ:=bQ pZ
 refine s2 (d2:=dI .i64 x6) ly (gq (congrArg (dI .i64) pZ)) ?_
 refine .nil (hK _ _ (AW.ret ?_))
 cases h
 exact rv1
def nV(aY:av):Option Int:=bnd (eZ aY.vW) fun x1=>bnd (S:=Bool) (bnd (cO [aY]) fun x3=>cnd (!x3) (some (true)) (some (decide (x1=(0:Int))))) fun aJ=>cnd aJ (some (0:Int)) (gd (0≤i64.wrap (x1 - (1:Int))∧i64.wrap (x1 - (1:Int))<16) (bnd (mw ((aY.vW)[(i64.wrap (x1 - (1:Int))).toNat]!)) fun jA=>some (i64.wrap ((i64.wrap ((32:Int)*(i64.wrap (x1 - (1:Int)))))+jA))))
theorem EY {aY:av}{r:Int}(h:nV aY=some r):ax Tryz.prog 196 [dG aj aY] (dI .i64 r):=by
 refine bE (rs:=[.tmp 2]) (fun cx hx h0=>?_) Tryz.func196
 unfold nV at h
 refine ra hx ?_
 refine rs hx fun K hK=>?_
 refine sa ?_
 refine s1 (au (aT aY) aA) ?_
 refine scb h kr fun x1 h=>?_
 refine sa ?_
 refine .nil (hK _ _ ?_)
 iterate 2 refine AW.seq ?_
 obtain⟨aJ,hy,h⟩:=ab h
 refine jn ((PE cx .normal (fun aJ=>[(1,.pt 0 0),(3,dI .i64 x1),(14,dB aJ)]) fun aJ=>⟨[(0,dC (aj.f aY))],[],1⟩) aJ) ?_ ?_
 replace h:=hy
 refine rq hx fun K hK=>?_
 refine s1 (d:=dG aj aY) (au (am.id _ _) ap) ?_
 refine s1 (kP ([aY]:List av) aj oJ ap) ?_
 refine scb h ff fun x3 h=>?_
 iterate 2 refine sa ?_
 rcases aD (!x3) with eH|eH
 replace h:=aP eH h
 iterate 2 refine aH rfl rfl eH ?_
 refine s1 (aw eH) ?_
 refine .nil (hK _ _ ?_)
 cases h
 exact pe0 h0 [0]
 replace h:=aQ eH h
 iterate 2 refine ga eH ?_
 refine s1 (al eH) ?_
 refine .nil (hK _ _ ?_)
 cases h
 exact pe0 h0 [0]
 rintro ex tm' hp' ⟨rfl,hw⟩
 refine AW.weak hw (cdh h rfl (fun qz h=>?_) (fun qz h=>?_))
 refine ra hx ?_
 refine AW.ret ?_
 cases h
 exact rv1
 refine AW.skip (rs hx fun K hK=>?_)
 iterate 6 refine sa ?_
 obtain⟨Hi,h⟩:=aC h
 have IZ:(i64.wrap (x1 - (1:Int))).toNat<16:=by omega
 refine s1 (cJ Hi aA aG) ?_
 refine s1 (aW (am.comp (aT aY) (am.vec (cI .u32) aY.vW (i64.wrap (x1 - (1:Int))).toNat IZ) (fun _=>rfl)) aG) ?_
 refine scb h xH fun jA h=>?_
 iterate 2 refine sa ?_
 refine .nil (hK _ _ (AW.ret ?_))
 cases h
 exact rv1
def lh(aY:av):Option (Int×Bool):=bnd (S:=Bool) (bnd (cO [aY]) fun x1=>cnd (!x1) (some (true)) (bnd (nV aY) fun x4=>some (decide ((64:Int)<x4)))) fun dY=>cnd dY (some ((0:Int),false)) (bnd (some (ior .u64 (w7 .u64 (u64.wrap ((aY.vW)[((1:Int)).toNat]!)) (32:Int)) (u64.wrap ((aY.vW)[((0:Int)).toNat]!)))) fun jA=>bnd (S:=Bool) (cnd aY.vNeg (some (decide (jA≤(9223372036854775808:Int)))) (some (false))) fun sQ=>cnd sQ (some (i64.wrap (u64.wrap (0 - jA)),true)) (bnd (S:=Bool) (cnd (!aY.vNeg) (some (decide (jA<(9223372036854775808:Int)))) (some (false))) fun io=>cnd io (some (i64.wrap (jA),true)) (some ((0:Int),false))))
set_option maxHeartbeats 4000000 in
theorem wg {aY:av}{r:Int×Bool}(h:lh aY=some r):ax Tryz.prog 180 [dG aj aY] (.tu [dI .i64 r.1,dB r.2]):=by
 refine bE (rs:=[.tmp 2,.tmp 3]) (fun cx hx h0=>?_) Tryz.func180
 unfold lh at h
 refine ra hx ?_
 iterate 2 refine AW.seq ?_
 obtain⟨dY,hy,h⟩:=ab h
 refine jn ((PE cx .normal (fun dY=>[(1,.pt 0 0),(13,dB dY)]) fun dY=>⟨[(0,dC (aj.f aY))],[],1⟩) dY) ?_ ?_
 replace h:=hy
 refine rq hx fun K hK=>?_
 refine s1 (d:=dG aj aY) (au (am.id _ _) ap) ?_
 refine s1 (kP ([aY]:List av) aj oJ ap) ?_
 refine scb h ff fun x1 h=>?_
 iterate 2 refine sa ?_
 rcases aD (!x1) with bb|bb
 replace h:=aP bb h
 iterate 3 refine aH rfl rfl bb ?_
 refine s1 (aw bb) ?_
 refine .nil (hK _ _ ?_)
 cases h
 exact pe0 h0 [0]
 replace h:=aQ bb h
 refine g1 (d:=dG aj aY) bb (au (am.id _ _) ap) ?_
 obtain⟨x4,p6,h⟩:=ab h
 refine g1 bb (bj rfl (EY p6) (by simp only[dJ,eD,cH,bP,bB,bq];exact aI _ _) (lA (cD _ _) lAn) (.inl rfl)) ?_
 refine ga bb ?_
 refine s1 (al bb) ?_
 refine .nil (hK _ _ ?_)
 cases h
 exact pe0 h0 [0]
 rintro ex tm' hp' ⟨rfl,hw⟩
 refine AW.weak hw (cdh h rfl (fun qz h=>?_) (fun qz h=>?_))
 refine ra hx ?_
 refine AW.ret ?_
 cases h
 exact rv2
 refine AW.skip (rs hx fun K hK=>?_)
 refine sa ?_
 have Gp:((1:Int)).toNat<16:=by omega
 refine s1 (cJ (by decide:0≤(1:Int)∧(1:Int)<((16:Nat):Int)) aA aG) ?_
 refine s1 (aW (am.comp (aT aY) (am.vec (cI .u32) aY.vW ((1:Int)).toNat Gp) (fun _=>rfl)) aG) ?_
 iterate 3 refine sa ?_
 have IZ:((0:Int)).toNat<16:=by omega
 refine s1 (cJ (by decide:0≤(0:Int)∧(0:Int)<((16:Nat):Int)) aA aG) ?_
 refine s1 (aW (am.comp (aT aY) (am.vec (cI .u32) aY.vW ((0:Int)).toNat IZ) (fun _=>rfl)) aG) ?_
 iterate 2 refine sa ?_
 obtain⟨jA,v5,h⟩:=ab h
 replace v5:=bQ v5
 refine s2 (d2:=dI .u64 jA) ly (gq (congrArg (dI .u64) v5)) ?_
 refine .nil (hK _ _ (AW.seq (AW.block (AW.seq ?_))))
 obtain⟨sQ,hy,h⟩:=ab h
 refine jn ((PE cx .normal (fun sQ=>[(1,.pt 0 0),(4,dI .u64 jA),(24,dB sQ)]) fun sQ=>⟨[(0,dC (aj.f aY))],[],1⟩) sQ) ?_ ?_
 replace h:=hy
 refine rq hx fun K hK=>?_
 refine sa ?_
 refine s1 (aW (aR aY) eY) ?_
 refine sa ?_
 rcases aD aY.vNeg with iK|iK
 replace h:=aP iK h
 iterate 2 refine ga iK ?_
 refine s1 (aw iK) ?_
 refine sa ?_
 refine .nil (hK _ _ ?_)
 cases h
 exact pe0 h0 [0]
 replace h:=aQ iK h
 iterate 2 refine aH rfl rfl iK ?_
 refine s1 (al iK) ?_
 refine sa ?_
 refine .nil (hK _ _ ?_)
 cases h
 exact pe0 h0 [0]
 rintro ex tm' hp' ⟨rfl,hw⟩
 refine AW.weak hw (cdh h rfl (fun jM h=>?_) (fun jM h=>?_))
 refine ra hx ?_
 refine AW.ret ?_
 cases h
 exact rv2
 refine AW.seq ?_
 obtain⟨io,hy,h⟩:=ab h
 refine jn ((PE cx .normal (fun io=>[(4,dI .u64 jA),(34,dB io)]) fun io=>⟨[],[],0⟩) io) ?_ ?_
 replace h:=hy
 refine rq hx fun K hK=>?_
 refine sa ?_
 refine s1 (aW (aR aY) eY) ?_
 iterate 2 refine sa ?_
 rcases aD (!aY.vNeg) with nJ|nJ
 replace h:=aP nJ h
 iterate 2 refine ga nJ ?_
 refine s1 (aw nJ) ?_
 refine sa ?_
 refine .nil (hK _ _ ?_)
 cases h
 exact pe0 h0 []
 replace h:=aQ nJ h
 iterate 2 refine aH rfl rfl nJ ?_
 refine s1 (al nJ) ?_
 refine sa ?_
 refine .nil (hK _ _ ?_)
 cases h
 exact pe0 h0 []
 rintro ex tm' hp' ⟨rfl,hw⟩
 refine AW.weak hw (cdh h rfl (fun uT h=>?_) (fun uT h=>?_))
 refine ra hx ?_
 refine AW.ret ?_
 cases h
 exact rv2
 refine AW.skip (ra hx ?_)
 refine AW.ret ?_
 cases h
 exact rv2
def fY(aY:Int):Option Bool:=some (decide (aY≠aY))
theorem qp {aY:Int}{r:Bool}(h:fY aY=some r):ax Tryz.prog 195 [dI .u32 aY] (dB r):=by
 refine bE (rs:=[.tmp 2]) (fun cx hx h0=>?_) Tryz.func195
 unfold fY at h
 iterate 2 refine ra hx ?_
 refine AW.ret ?_
 cases h
 exact rv1
def gx(aY:Int)(jx:Int):Option Int:=bnd (fY aY) fun x1=>bnd (fY jx) fun x3=>cnd x1 (cnd x3 (some (0:Int)) (some (-1:Int))) (cnd x3 (some (1:Int)) (cnd (decide (aY<jx)) (some (-1:Int)) (cnd (decide (jx<aY)) (some (1:Int)) (some (0:Int)))))
set_option maxHeartbeats 4000000 in
theorem uB {aY:Int}{jx:Int}{r:Int}(h:gx aY jx=some r):ax Tryz.prog 179 [dI .u32 aY,dI .u32 jx] (dI .i64 r):=by
 refine bE (rs:=[.tmp 4]) (fun cx hx h0=>?_) Tryz.func179
 unfold gx at h
 refine ra hx ?_
 refine rs hx fun K hK=>?_
 refine sa ?_
 refine scb h qp fun x1 h=>?_
 refine sa ?_
 refine .nil (hK _ _ (rs hx fun K hK=>?_))
 refine sa ?_
 refine scb h qp fun x3 h=>?_
 refine sa ?_
 refine .nil (hK _ _ (AW.seq (ra hx ?_)))
 refine cdh h rfl (fun eH h=>?_) (fun eH h=>?_)
 refine AW.seq (ra hx ?_)
 refine cdh h rfl (fun fe h=>?_) (fun fe h=>?_)
 refine ra hx ?_
 refine AW.ret ?_
 cases h
 exact rv1
 refine AW.skip (ra hx ?_)
 refine AW.ret ?_
 cases h
 exact rv1
 refine AW.skip (AW.seq (ra hx ?_))
 refine cdh h rfl (fun qz h=>?_) (fun qz h=>?_)
 refine ra hx ?_
 refine AW.ret ?_
 cases h
 exact rv1
 refine AW.skip (AW.seq (ra hx ?_))
 refine cdh h rfl (fun iS h=>?_) (fun iS h=>?_)
 refine ra hx ?_
 refine AW.ret ?_
 cases h
 exact rv1
 refine AW.skip (AW.seq (ra hx ?_))
 refine cdh h rfl (fun rY h=>?_) (fun rY h=>?_)
 refine ra hx ?_
 refine AW.ret ?_
 cases h
 exact rv1
 refine AW.skip (ra hx ?_)
 refine AW.ret ?_
 cases h
 exact rv1
def jQ(aN:Vector Int 16)(aV:Vector Int 16):Int→Option (Int⊕(Int⊕Unit)):=fun aJ=>cnd (decide ((0:Int)≤aJ)) (gd (0≤aJ∧aJ<16) (gd (0≤aJ∧aJ<16) (cnd (decide (((aN)[(aJ).toNat]!)≠((aV)[(aJ).toNat]!))) (gd (0≤aJ∧aJ<16) (gd (0≤aJ∧aJ<16) (bnd (gx ((aN)[(aJ).toNat]!) ((aV)[(aJ).toNat]!)) fun ro=>some (.inr (.inl ro))))) (some (.inl (i64.wrap (aJ - (1:Int)))))))) (some (.inr (.inr ())))
def ic(aN:Vector Int 16)(aV:Vector Int 16):Option Int:=bnd (bS (jQ aN aV) (15:Int)) fun y13=>match y13 with| .inl r=>some r| .inr ()=>some (0:Int)
theorem o0 {aN:Vector Int 16}{aV:Vector Int 16}{r:Int}(h:ic aN aV=some r):ax Tryz.prog 149 [dG (cA 16 (cI .u32)) aN,dG (cA 16 (cI .u32)) aV] (dI .i64 r):=by
 refine bE (rs:=[.tmp 4]) (fun cx hx h0=>?_) Tryz.func149
 unfold ic at h
 refine ra hx ?_
 refine AW.seq (ra hx ?_)
 refine AW.block ?_
 obtain⟨y,hy,h⟩:=ab h
 refine lp (S:=Int) (X:=Int⊕Unit) (fun aJ=>[(2,.pt 0 0),(3,.pt 1 0),(5,dI .i64 aJ)]) (fun aJ=>⟨[(0,dC ((cA 16 (cI .u32)).f aN)),(1,dC ((cA 16 (cI .u32)).f aV))],[],2⟩) (PS (PR [.tmp 4] fun r=>dI .i64 r) (PE cx (.exit 0) (fun ()=>[]) fun ()=>⟨[],[],0⟩)) hy ?_ ?_ ?_
 exact wk h0 [0,1] (wR rfl (wR rfl (wR rfl wTn))) (vC rfl (vC rfl wVn)) wLn
 clear hy h
 rintro aJ y h
 dsimp only[jQ] at h
 refine AW.seq (ra hx ?_)
 refine cdh h rfl (fun c5 h=>?_) (fun c5 h=>?_)
 refine AW.skip (AW.seq (AW.block (rsd [] hx fun K hK=>?_)))
 refine sa ?_
 obtain⟨ml,h⟩:=aC h
 have p8:(aJ).toNat<16:=by omega
 refine s1 (cJ ml aA aG) ?_
 refine s1 (aW (am.comp (am.id _ _) (am.vec (cI .u32) aN (aJ).toNat p8) (fun _=>rfl)) aG) ?_
 refine sa ?_
 obtain⟨Eu,h⟩:=aC h
 have Lt:(aJ).toNat<16:=by omega
 refine s1 (cJ Eu aA aG) ?_
 refine s1 (aW (am.comp (am.id _ _) (am.vec (cI .u32) aV (aJ).toNat Lt) (fun _=>rfl)) aG) ?_
 refine sa ?_
 refine .nil (hK _ _ (cdh h rfl (fun fe h=>?_) (fun fe h=>?_)))
 refine rsd [179] hx fun K hK=>?_
 refine sa ?_
 obtain⟨I5,h⟩:=aC h
 have Gp:(aJ).toNat<16:=by omega
 refine s1 (cJ I5 aA aG) ?_
 refine s1 (aW (am.comp (am.id _ _) (am.vec (cI .u32) aN (aJ).toNat Gp) (fun _=>rfl)) aG) ?_
 refine sa ?_
 obtain⟨hc9,h⟩:=aC h
 have Oe:(aJ).toNat<16:=by omega
 refine s1 (cJ hc9 aA aG) ?_
 refine s1 (aW (am.comp (am.id _ _) (am.vec (cI .u32) aV (aJ).toNat Oe) (fun _=>rfl)) aG) ?_
 refine cqb h uB fun ro h=>?_
 refine sa ?_
 refine .nil (hK _ _ (AW.ret ?_))
 cases h
 refine PS.r ⟨by nofun,PS.l (PR.i ?_)⟩
 exact rv1
 refine AW.skip (rb hx ?_)
 cases h
 exact PS.l (pe0 h0 [0,1])
 refine AW.exit ?_
 try dsimp only
 try simp only[aU,reduceIte,Nat.reduceEqDiff,reduceCtorEq]
 cases h
 exact PS.r ⟨by nofun,PS.r (PE.i (wk h0 [] wTn wVn wLn))⟩
 rcases y with r|⟨⟩
 rintro ex tm' hp' ⟨rfl,hw⟩
 cases h
 exact hw
 rintro ex tm' hp' ⟨rfl,hw⟩
 try dsimp only
 try simp only[aU,reduceIte,Nat.reduceEqDiff,reduceCtorEq]
 refine AW.weak hw (ra hx ?_)
 refine AW.ret ?_
 cases h
 exact rv1
def jP(aN:Vector Int 16)(aV:Vector Int 16):Int×Int×(Vector Int 16)→Option ((Int×Int×(Vector Int 16))⊕(Int×(Vector Int 16))):=fun (dK,bF,eF)=>cnd (decide (bF<(16:Int))) (gd (0≤bF∧bF<16) (gd (0≤bF∧bF<16) (bnd (some (u64.wrap (dK+(u64.wrap ((u64.wrap ((aN)[(bF).toNat]!))+(u64.wrap ((aV)[(bF).toNat]!))))))) fun x6=>gd (0≤bF∧bF<16) (some (.inl (lX .u64 x6 (32:Int),i64.wrap (bF+(1:Int)),(eF).set! (bF).toNat (u32.wrap (x6)))))))) (some (.inr (dK,eF)))
def nT(aN:Vector Int 16)(aV:Vector Int 16):Option ((Vector Int 16)×Bool):=bnd (bS (jP aN aV) ((0:Int),(0:Int),(cy))) fun (cr,kO)=>some (kO,decide (cr=(0:Int)))
set_option maxHeartbeats 4000000 in
theorem EW {aN:Vector Int 16}{aV:Vector Int 16}{r:(Vector Int 16)×Bool}(h:nT aN aV=some r):ax Tryz.prog 164 [dG (cA 16 (cI .u32)) aN,dG (cA 16 (cI .u32)) aV] (.tu [dG (cA 16 (cI .u32)) r.1,dB r.2]):=by
 refine bE (rs:=[.cell 4 39,.tmp 5]) (fun cx hx h0=>?_) Tryz.func164
 unfold nT at h
 refine rs hx fun K hK=>?_
 iterate 2 refine sa ?_
 refine s1 (bm (F:=(cA 16 (cI .u32)).f (cy)) aA) ?_
 refine sa ?_
 refine .nil (hK _ _ (rs hx fun K hK=>?_))
 refine s1 (bm (F:=(cA 16 (cI .u32)).f (cy)) aA) ?_
 refine .nil (hK _ _ (ra hx ?_))
 refine AW.seq (ra hx ?_)
 refine AW.block ?_
 obtain⟨y,hy,h⟩:=ab h
 refine lp (S:=Int×Int×(Vector Int 16)) (X:=Int×(Vector Int 16)) (fun (dK,bF,eF)=>[(2,.pt 0 0),(3,.pt 1 0),(4,.pt 2 0),(6,.pt 3 0),(7,dI .u64 dK),(9,dI .i64 bF)]) (fun (dK,bF,eF)=>⟨[(0,dC ((cA 16 (cI .u32)).f aN)),(1,dC ((cA 16 (cI .u32)).f aV)),(2,dC ((cA 16 (cI .u32)).f (cy))),(3,dC ((cA 16 (cI .u32)).f eF))],[],4⟩) (PE cx (.exit 0) (fun (cr,kO)=>[(4,.pt 0 0),(6,.pt 1 0),(7,dI .u64 cr)]) fun (cr,kO)=>⟨[(0,dC ((cA 16 (cI .u32)).f (cy))),(1,dC ((cA 16 (cI .u32)).f kO))],[],2⟩) hy ?_ ?_ ?_
 exact wk h0 [0,1,2,3] (wR rfl (wR rfl (wR rfl (wR rfl (wR rfl (wR rfl wTn)))))) (vC rfl (vC rfl (vC rfl (vC rfl wVn)))) wLn
 clear hy h
 rintro⟨dK,bF,eF⟩ y h
 dsimp only[jP] at h
 refine ra hx ?_
 refine AW.seq (cdh h rfl (fun c5 h=>?_) (fun c5 h=>?_))
 refine AW.skip (AW.seq (AW.block (ra hx ?_)))
 refine rsd [] hx fun K hK=>?_
 iterate 2 refine sa ?_
 obtain⟨ml,h⟩:=aC h
 have p8:(bF).toNat<16:=by omega
 refine s1 (cJ ml aA aG) ?_
 refine s1 (aW (am.comp (am.id _ _) (am.vec (cI .u32) aN (bF).toNat p8) (fun _=>rfl)) aG) ?_
 iterate 2 refine sa ?_
 obtain⟨Eu,h⟩:=aC h
 have Lt:(bF).toNat<16:=by omega
 refine s1 (cJ Eu aA aG) ?_
 refine s1 (aW (am.comp (am.id _ _) (am.vec (cI .u32) aV (bF).toNat Lt) (fun _=>rfl)) aG) ?_
 iterate 3 refine sa ?_
 obtain⟨x6,pZ,h⟩:=ab h
 replace pZ:=bQ pZ
 refine s2 (d2:=dI .u64 x6) ly (gq (congrArg (dI .u64) pZ)) ?_
 refine .nil (hK _ _ (rs hx fun K hK=>?_))
 iterate 3 refine sa ?_
 obtain⟨Hi,h⟩:=aC h
 have IZ:(bF).toNat<16:=by omega
 refine s1 (cJ Hi aA aG) ?_
 refine s0 (aE (b':=u32.wrap (x6)) (am.comp (am.id _ _) (am.vec (cI .u32) eF (bF).toNat IZ) (fun _=>rfl)) aG) ?_
 refine .nil (hK _ _ ?_)
 iterate 2 refine rb hx ?_
 cases h
 exact PS.l (pe0 h0 [0,1,2,3])
 refine AW.exit ?_
 try dsimp only
 try simp only[aU,reduceIte,Nat.reduceEqDiff,reduceCtorEq]
 cases h
 exact PS.r ⟨by nofun,PE.i (wk h0 [2,3] (wR rfl (wR rfl (wR rfl wTn))) (vC rfl (vC rfl wVn)) wLn)⟩
 obtain⟨cr,kO⟩:=y
 rintro ex tm' hp' ⟨rfl,hw⟩
 try dsimp only
 try simp only[aU,reduceIte,Nat.reduceEqDiff,reduceCtorEq]
 refine AW.weak hw (rs hx fun K hK=>?_)
 refine s1 (d:=dG (cA 16 (cI .u32)) kO) (au (am.id _ _) aA) ?_
 iterate 2 refine sa ?_
 refine s0 (aE (b':=kO) (am.id _ _) aA) ?_
 refine sa ?_
 refine .nil (hK _ _ (AW.ret ?_))
 cases h
 exact rv2
def jh(aN:Vector Int 16)(aV:Vector Int 16):Int×Int×(Vector Int 16)→Option ((Int×Int×(Vector Int 16))⊕((Vector Int 16))):=fun (dK,bF,eF)=>cnd (decide (bF<(16:Int))) (gd (0≤bF∧bF<16) (gd (0≤bF∧bF<16) (bnd (some (u64.wrap ((u64.wrap ((u64.wrap ((aN)[(bF).toNat]!)) - (u64.wrap ((aV)[(bF).toNat]!)))) - dK))) fun x6=>gd (0≤bF∧bF<16) (some (.inl (lX .u64 x6 (63:Int),i64.wrap (bF+(1:Int)),(eF).set! (bF).toNat (u32.wrap (x6)))))))) (some (.inr eF))
def ie(aN:Vector Int 16)(aV:Vector Int 16):Option (Vector Int 16):=bnd (bS (jh aN aV) ((0:Int),(0:Int),(cy))) fun cr=>some cr
set_option maxHeartbeats 4000000 in
theorem rP {aN:Vector Int 16}{aV:Vector Int 16}{r:Vector Int 16}(h:ie aN aV=some r):ax Tryz.prog 165 [dG (cA 16 (cI .u32)) aN,dG (cA 16 (cI .u32)) aV] (dG (cA 16 (cI .u32)) r):=by
 refine bE (rs:=[.cell 4 39]) (fun cx hx h0=>?_) Tryz.func165
 unfold ie at h
 refine rs hx fun K hK=>?_
 iterate 2 refine sa ?_
 refine s1 (bm (F:=(cA 16 (cI .u32)).f (cy)) aA) ?_
 refine .nil (hK _ _ (rs hx fun K hK=>?_))
 refine s1 (bm (F:=(cA 16 (cI .u32)).f (cy)) aA) ?_
 refine .nil (hK _ _ (ra hx ?_))
 refine AW.seq (ra hx ?_)
 refine AW.block ?_
 obtain⟨cr,hy,h⟩:=ab h
 refine lp (S:=Int×Int×(Vector Int 16)) (X:=(Vector Int 16)) (fun (dK,bF,eF)=>[(2,.pt 0 0),(3,.pt 1 0),(4,.pt 2 0),(5,.pt 3 0),(6,dI .u64 dK),(9,dI .i64 bF)]) (fun (dK,bF,eF)=>⟨[(0,dC ((cA 16 (cI .u32)).f aN)),(1,dC ((cA 16 (cI .u32)).f aV)),(2,dC ((cA 16 (cI .u32)).f (cy))),(3,dC ((cA 16 (cI .u32)).f eF))],[],4⟩) (PE cx (.exit 0) (fun cr=>[(4,.pt 0 0),(5,.pt 1 0)]) fun cr=>⟨[(0,dC ((cA 16 (cI .u32)).f (cy))),(1,dC ((cA 16 (cI .u32)).f cr))],[],2⟩) hy ?_ ?_ ?_
 exact wk h0 [0,1,2,3] (wR rfl (wR rfl (wR rfl (wR rfl (wR rfl (wR rfl wTn)))))) (vC rfl (vC rfl (vC rfl (vC rfl wVn)))) wLn
 clear hy h
 rintro⟨dK,bF,eF⟩ y h
 dsimp only[jh] at h
 refine ra hx ?_
 refine AW.seq (cdh h rfl (fun c5 h=>?_) (fun c5 h=>?_))
 refine AW.skip (AW.seq (AW.block (ra hx ?_)))
 refine rsd [] hx fun K hK=>?_
 refine sa ?_
 obtain⟨ml,h⟩:=aC h
 have p8:(bF).toNat<16:=by omega
 refine s1 (cJ ml aA aG) ?_
 refine s1 (aW (am.comp (am.id _ _) (am.vec (cI .u32) aN (bF).toNat p8) (fun _=>rfl)) aG) ?_
 iterate 2 refine sa ?_
 obtain⟨Eu,h⟩:=aC h
 have Lt:(bF).toNat<16:=by omega
 refine s1 (cJ Eu aA aG) ?_
 refine s1 (aW (am.comp (am.id _ _) (am.vec (cI .u32) aV (bF).toNat Lt) (fun _=>rfl)) aG) ?_
 iterate 4 refine sa ?_
 obtain⟨x6,pZ,h⟩:=ab h
 replace pZ:=bQ pZ
 refine s2 (d2:=dI .u64 x6) ly (gq (congrArg (dI .u64) pZ)) ?_
 refine .nil (hK _ _ (rs hx fun K hK=>?_))
 iterate 3 refine sa ?_
 obtain⟨Hi,h⟩:=aC h
 have IZ:(bF).toNat<16:=by omega
 refine s1 (cJ Hi aA aG) ?_
 refine s0 (aE (b':=u32.wrap (x6)) (am.comp (am.id _ _) (am.vec (cI .u32) eF (bF).toNat IZ) (fun _=>rfl)) aG) ?_
 refine .nil (hK _ _ ?_)
 iterate 2 refine rb hx ?_
 cases h
 exact PS.l (pe0 h0 [0,1,2,3])
 refine AW.exit ?_
 try dsimp only
 try simp only[aU,reduceIte,Nat.reduceEqDiff,reduceCtorEq]
 cases h
 exact PS.r ⟨by nofun,PE.i (wk h0 [2,3] (wR rfl (wR rfl wTn)) (vC rfl (vC rfl wVn)) wLn)⟩
 rintro ex tm' hp' ⟨rfl,hw⟩
 try dsimp only
 try simp only[aU,reduceIte,Nat.reduceEqDiff,reduceCtorEq]
 refine AW.weak hw (rs hx fun K hK=>?_)
 refine s1 (d:=dG (cA 16 (cI .u32)) cr) (au (am.id _ _) aA) ?_
 refine s0 (aE (b':=cr) (am.id _ _) aA) ?_
 refine .nil (hK _ _ (AW.ret ?_))
 cases h
 exact rv1
def jl(aN:av)(aV:av):Option av:=bnd (cO [aN,aV]) fun x1=>cnd (!x1) (bnd (eN) fun x4=>some x4) (cnd (aN.vNeg == aV.vNeg) (bnd (nT aN.vW aV.vW) fun x7=>cnd (!x7.2) (bnd (eN) fun jA=>some jA) (bnd (bV aN.vNeg x7.1) fun jB=>some jB)) (bnd (ic aN.vW aV.vW) fun mD=>cnd (decide ((0:Int)≤mD)) (bnd (ie aN.vW aV.vW) fun nL=>bnd (bV aN.vNeg nL) fun rf=>some rf) (bnd (ie aV.vW aN.vW) fun sb=>bnd (bV aV.vNeg sb) fun sS=>some sS)))
set_option maxHeartbeats 4000000 in
theorem zZ {aN:av}{aV:av}{r:av}(h:jl aN aV=some r):ax Tryz.prog 123 [dG aj aN,dG aj aV] (dG aj r):=by
 refine bE (rs:=[.cell 4 41]) (fun cx hx h0=>?_) Tryz.func123
 unfold jl at h
 refine rs hx fun K hK=>?_
 iterate 2 refine sa ?_
 refine s1 (bm (F:=aj.f be) ap) ?_
 refine .nil (hK _ _ (AW.seq (rs hx fun K hK=>?_)))
 refine s1 (d:=dG aj aN) (au (am.id _ _) ap) ?_
 refine s1 (d:=dG aj aV) (au (am.id _ _) ap) ?_
 refine s1 (kP ([aN,aV]:List av) aj oJ ap) ?_
 refine scb h ff fun x1 h=>?_
 refine sa ?_
 refine .nil (hK _ _ (cdh h rfl (fun bb h=>?_) (fun bb h=>?_)))
 refine rs hx fun K hK=>?_
 refine scb h ib fun x4 h=>?_
 refine s0 (aE (b':=x4) (am.id _ _) ap) ?_
 refine .nil (hK _ _ (AW.ret ?_))
 cases h
 exact rv1
 refine AW.skip (AW.seq (rs hx fun K hK=>?_))
 refine sa ?_
 refine s1 (aW (aR aN) eY) ?_
 refine sa ?_
 refine s1 (aW (aR aV) eY) ?_
 refine sa ?_
 refine .nil (hK _ _ (cdh h rfl (fun fe h=>?_) (fun fe h=>?_)))
 refine rs hx fun K hK=>?_
 refine sa ?_
 refine s1 (au (aT aN) aA) ?_
 refine sa ?_
 refine s1 (au (aT aV) aA) ?_
 refine scb h EW fun x7 h=>?_
 iterate 3 refine sa ?_
 refine s1 (bm (F:=(cA 16 (cI .u32)).f (cy)) aA) ?_
 refine s0 (aE (b':=x7.1) (am.id _ _) aA) ?_
 refine sa ?_
 refine .nil (hK _ _ (AW.seq (ra hx ?_)))
 refine cdh h rfl (fun rY h=>?_) (fun rY h=>?_)
 refine rs hx fun K hK=>?_
 refine scb h ib fun jA h=>?_
 refine s0 (aE (b':=jA) (am.id _ _) ap) ?_
 refine .nil (hK _ _ (AW.ret ?_))
 cases h
 exact rv1
 refine AW.skip (rs hx fun K hK=>?_)
 refine sa ?_
 refine s1 (aW (aR aN) eY) ?_
 refine s1 (d:=dG (cA 16 (cI .u32)) x7.1) (au (am.id _ _) aA) ?_
 refine scb h dQ fun jB h=>?_
 refine s0 (aE (b':=jB) (am.id _ _) ap) ?_
 refine .nil (hK _ _ (AW.ret ?_))
 cases h
 exact rv1
 refine AW.skip (AW.seq (rs hx fun K hK=>?_))
 refine sa ?_
 refine s1 (au (aT aN) aA) ?_
 refine sa ?_
 refine s1 (au (aT aV) aA) ?_
 refine scb h o0 fun mD h=>?_
 refine sa ?_
 refine .nil (hK _ _ (cdh h rfl (fun nS h=>?_) (fun nS h=>?_)))
 refine rsd [165,145] hx fun K hK=>?_
 refine sa ?_
 refine s1 (aW (aR aN) eY) ?_
 refine sa ?_
 refine s1 (au (aT aN) aA) ?_
 refine sa ?_
 refine s1 (au (aT aV) aA) ?_
 refine cqb h rP fun nL h=>?_
 refine cqb h dQ fun rf h=>?_
 refine s0 (aE (b':=rf) (am.id _ _) ap) ?_
 refine .nil (hK _ _ (AW.ret ?_))
 cases h
 exact rv1
 refine AW.skip (rsd [165,145] hx fun K hK=>?_)
 refine sa ?_
 refine s1 (aW (aR aV) eY) ?_
 refine sa ?_
 refine s1 (au (aT aV) aA) ?_
 refine sa ?_
 refine s1 (au (aT aN) aA) ?_
 refine cqb h rP fun sb h=>?_
 refine cqb h dQ fun sS h=>?_
 refine s0 (aE (b':=sS) (am.id _ _) ap) ?_
 refine .nil (hK _ _ (AW.ret ?_))
 cases h
 exact rv1
def l5(aY:av):Option av:=bnd (cO [aY]) fun x1=>cnd (!x1) (bnd (eN) fun x4=>some x4) (bnd (bV (!aY.vNeg) aY.vW) fun x6=>some x6)
theorem um {aY:av}{r:av}(h:l5 aY=some r):ax Tryz.prog 100 [dG aj aY] (dG aj r):=by
 refine bE (rs:=[.cell 2 41]) (fun cx hx h0=>?_) Tryz.func100
 unfold l5 at h
 refine rs hx fun K hK=>?_
 refine sa ?_
 refine s1 (bm (F:=aj.f be) ap) ?_
 refine .nil (hK _ _ (AW.seq (rs hx fun K hK=>?_)))
 refine s1 (d:=dG aj aY) (au (am.id _ _) ap) ?_
 refine s1 (kP ([aY]:List av) aj oJ ap) ?_
 refine scb h ff fun x1 h=>?_
 refine sa ?_
 refine .nil (hK _ _ (cdh h rfl (fun bb h=>?_) (fun bb h=>?_)))
 refine rs hx fun K hK=>?_
 refine scb h ib fun x4 h=>?_
 refine s0 (aE (b':=x4) (am.id _ _) ap) ?_
 refine .nil (hK _ _ (AW.ret ?_))
 cases h
 exact rv1
 refine AW.skip (rs hx fun K hK=>?_)
 refine sa ?_
 refine s1 (aW (aR aY) eY) ?_
 iterate 2 refine sa ?_
 refine s1 (au (aT aY) aA) ?_
 refine scb h dQ fun x6 h=>?_
 refine s0 (aE (b':=x6) (am.id _ _) ap) ?_
 refine .nil (hK _ _ (AW.ret ?_))
 cases h
 exact rv1
def nq(aN:av)(aV:av):Option av:=bnd (l5 aV) fun x1=>bnd (jl aN x1) fun x3=>some x3
theorem Gw {aN:av}{aV:av}{r:av}(h:nq aN aV=some r):ax Tryz.prog 181 [dG aj aN,dG aj aV] (dG aj r):=by
 refine bE (rs:=[.cell 4 41]) (fun cx hx h0=>?_) Tryz.func181
 unfold nq at h
 refine rs hx fun K hK=>?_
 iterate 2 refine sa ?_
 refine s1 (bm (F:=aj.f be) ap) ?_
 refine .nil (hK _ _ (rsd [100,123] hx fun K hK=>?_))
 refine s1 (d:=dG aj aN) (au (am.id _ _) ap) ?_
 refine s1 (d:=dG aj aV) (au (am.id _ _) ap) ?_
 refine cqb h um fun x1 h=>?_
 refine cqb h zZ fun x3 h=>?_
 refine s0 (aE (b':=x3) (am.id _ _) ap) ?_
 refine .nil (hK _ _ (AW.ret ?_))
 cases h
 exact rv1
def fk(aY:av):Option Int:=bnd (S:=Bool) (bnd (cO [aY]) fun x1=>cnd (!x1) (some (true)) (some (decide (aY.vW=#v[(0:Int),0,0,0,0,0,0,0,0,0,0,0,0,0,0,0])))) fun ju=>cnd ju (some (0:Int)) (cnd aY.vNeg (some (-1:Int)) (some (1:Int)))
theorem ku {aY:av}{r:Int}(h:fk aY=some r):ax Tryz.prog 95 [dG aj aY] (dI .i64 r):=by
 refine bE (rs:=[.tmp 2]) (fun cx hx h0=>?_) Tryz.func95
 unfold fk at h
 refine ra hx ?_
 refine AW.seq (AW.block (AW.seq ?_))
 obtain⟨ju,hy,h⟩:=ab h
 refine jn ((PE cx .normal (fun ju=>[(1,.pt 0 0),(3,dB ju)]) fun ju=>⟨[(0,dC (aj.f aY))],[],1⟩) ju) ?_ ?_
 replace h:=hy
 refine rq hx fun K hK=>?_
 refine s1 (d:=dG aj aY) (au (am.id _ _) ap) ?_
 refine s1 (kP ([aY]:List av) aj oJ ap) ?_
 refine scb h ff fun x1 h=>?_
 iterate 2 refine sa ?_
 rcases aD (!x1) with bb|bb
 replace h:=aP bb h
 iterate 4 refine aH rfl rfl bb ?_
 refine s1 (aw bb) ?_
 refine sa ?_
 refine .nil (hK _ _ ?_)
 cases h
 exact pe0 h0 [0]
 replace h:=aQ bb h
 refine ga bb ?_
 refine g1 bb (au (aT aY) aA) ?_
 refine g1 (d:=dG (cA 16 (cI .u32)) (#v[(0:Int),0,0,0,0,0,0,0,0,0,0,0,0,0,0,0])) bb (mj aA aG) ?_
 refine g1 bb (zV tok 2 (by decide) (EqC.arr (EqC.int (d:=0) aG) aA aG) aA) ?_
 refine s1 (al bb) ?_
 refine sa ?_
 refine .nil (hK _ _ ?_)
 cases h
 exact pe0 h0 [0]
 rintro ex tm' hp' ⟨rfl,hw⟩
 refine AW.weak hw (cdh h rfl (fun eH h=>?_) (fun eH h=>?_))
 refine ra hx ?_
 refine AW.ret ?_
 cases h
 exact rv1
 refine rs hx fun K hK=>?_
 refine sa ?_
 refine s1 (aW (aR aY) eY) ?_
 refine sa ?_
 refine .nil (hK _ _ (cdh h rfl (fun fe h=>?_) (fun fe h=>?_)))
 refine ra hx ?_
 refine AW.ret ?_
 cases h
 exact rv1
 refine AW.skip (ra hx ?_)
 refine AW.ret ?_
 cases h
 exact rv1
def lZ(pC:Vector Int 16)(cG:Int):Int×Int×(Vector Int 16)→Option ((Int×Int×(Vector Int 16))⊕(Int×(Vector Int 16))):=fun (dK,bF,eF)=>cnd (decide (bF<(16:Int))) (gd (0≤bF∧bF<16) (gd (0≤cG) (bnd (some (ior .u64 dK (w7 .u64 (u64.wrap ((pC)[(bF).toNat]!)) cG))) fun x5=>gd (0≤bF∧bF<16) (some (.inl (lX .u64 x5 (32:Int),i64.wrap (bF+(1:Int)),(eF).set! (bF).toNat (u32.wrap (x5)))))))) (some (.inr (dK,eF)))
def oP(pC:Vector Int 16)(cG:Int):Option ((Vector Int 16)×Int):=bnd (bS (lZ pC cG) ((0:Int),(0:Int),(cy))) fun (cr,kO)=>some (kO,u32.wrap (cr))
set_option maxHeartbeats 4000000 in
theorem Bh {pC:Vector Int 16}{cG:Int}{r:(Vector Int 16)×Int}(h:oP pC cG=some r):ax Tryz.prog 189 [dG (cA 16 (cI .u32)) pC,dI .i64 cG] (.tu [dG (cA 16 (cI .u32)) r.1,dI .u32 r.2]):=by
 refine bE (rs:=[.cell 4 39,.tmp 5]) (fun cx hx h0=>?_) Tryz.func189
 unfold oP at h
 refine rs hx fun K hK=>?_
 refine sa ?_
 refine s1 (bm (F:=(cA 16 (cI .u32)).f (cy)) aA) ?_
 refine sa ?_
 refine .nil (hK _ _ (rs hx fun K hK=>?_))
 refine s1 (bm (F:=(cA 16 (cI .u32)).f (cy)) aA) ?_
 refine .nil (hK _ _ (ra hx ?_))
 refine AW.seq (ra hx ?_)
 refine AW.block ?_
 obtain⟨y,hy,h⟩:=ab h
 refine lp (S:=Int×Int×(Vector Int 16)) (X:=Int×(Vector Int 16)) (fun (dK,bF,eF)=>[(1,dI .i64 cG),(2,.pt 0 0),(4,.pt 1 0),(6,.pt 2 0),(7,dI .u64 dK),(9,dI .i64 bF)]) (fun (dK,bF,eF)=>⟨[(0,dC ((cA 16 (cI .u32)).f pC)),(1,dC ((cA 16 (cI .u32)).f (cy))),(2,dC ((cA 16 (cI .u32)).f eF))],[],3⟩) (PE cx (.exit 0) (fun (cr,kO)=>[(4,.pt 0 0),(6,.pt 1 0),(7,dI .u64 cr)]) fun (cr,kO)=>⟨[(0,dC ((cA 16 (cI .u32)).f (cy))),(1,dC ((cA 16 (cI .u32)).f kO))],[],2⟩) hy ?_ ?_ ?_
 exact wk h0 [0,1,2] (wR rfl (wR rfl (wR rfl (wR rfl (wR rfl (wR rfl wTn)))))) (vC rfl (vC rfl (vC rfl wVn))) wLn
 clear hy h
 rintro⟨dK,bF,eF⟩ y h
 dsimp only[lZ] at h
 refine ra hx ?_
 refine AW.seq (cdh h rfl (fun c5 h=>?_) (fun c5 h=>?_))
 refine AW.skip (AW.seq (AW.block (ra hx ?_)))
 refine rs hx fun K hK=>?_
 iterate 2 refine sa ?_
 obtain⟨ml,h⟩:=aC h
 have p8:(bF).toNat<16:=by omega
 refine s1 (cJ ml aA aG) ?_
 refine s1 (aW (am.comp (am.id _ _) (am.vec (cI .u32) pC (bF).toNat p8) (fun _=>rfl)) aG) ?_
 iterate 2 refine sa ?_
 obtain⟨Eu,h⟩:=aC h
 refine s1 (PJ Eu) ?_
 refine sa ?_
 obtain⟨x5,AD,h⟩:=ab h
 replace AD:=bQ AD
 refine s2 (d2:=dI .u64 x5) ly (gq (congrArg (dI .u64) AD)) ?_
 refine .nil (hK _ _ (rs hx fun K hK=>?_))
 iterate 3 refine sa ?_
 obtain⟨I5,h⟩:=aC h
 have Gp:(bF).toNat<16:=by omega
 refine s1 (cJ I5 aA aG) ?_
 refine s0 (aE (b':=u32.wrap (x5)) (am.comp (am.id _ _) (am.vec (cI .u32) eF (bF).toNat Gp) (fun _=>rfl)) aG) ?_
 refine .nil (hK _ _ ?_)
 iterate 2 refine rb hx ?_
 cases h
 exact PS.l (pe0 h0 [0,1,2])
 refine AW.exit ?_
 try dsimp only
 try simp only[aU,reduceIte,Nat.reduceEqDiff,reduceCtorEq]
 cases h
 exact PS.r ⟨by nofun,PE.i (wk h0 [1,2] (wR rfl (wR rfl (wR rfl wTn))) (vC rfl (vC rfl wVn)) wLn)⟩
 obtain⟨cr,kO⟩:=y
 rintro ex tm' hp' ⟨rfl,hw⟩
 try dsimp only
 try simp only[aU,reduceIte,Nat.reduceEqDiff,reduceCtorEq]
 refine AW.weak hw (rs hx fun K hK=>?_)
 refine s1 (d:=dG (cA 16 (cI .u32)) kO) (au (am.id _ _) aA) ?_
 iterate 2 refine sa ?_
 refine s0 (aE (b':=kO) (am.id _ _) aA) ?_
 refine sa ?_
 refine .nil (hK _ _ (AW.ret ?_))
 cases h
 exact rv2
def kT(pC:Vector Int 16)(cG:Int):Int×(Vector Int 16)→Option ((Int×(Vector Int 16))⊕((Vector Int 16))):=fun (bc,bt)=>cnd (decide (bc<(16:Int))) (bnd (S:=Int) (cnd (decide ((i64.wrap (bc+(1:Int)))<(16:Int))) (gd (0≤i64.wrap (bc+(1:Int))∧i64.wrap (bc+(1:Int))<16) (bnd (some (u64.wrap ((pC)[(i64.wrap (bc+(1:Int))).toNat]!))) fun x5=>some (x5))) (some ((0:Int)))) fun CO=>gd (0≤bc∧bc<16) (gd (0≤cG) (gd (0≤bc∧bc<16) (bnd (some ((bt).set! (bc).toNat (u32.wrap (lX .u64 (ior .u64 (w7 .u64 CO (32:Int)) (u64.wrap ((pC)[(bc).toNat]!))) cG)))) fun mX=>some (.inl (i64.wrap (bc+(1:Int)),mX)))))) (some (.inr bt))
def nU(pC:Vector Int 16)(cG:Int):Option (Vector Int 16):=bnd (bS (kT pC cG) ((0:Int),(cy))) fun bo=>some bo
set_option maxHeartbeats 4000000 in
theorem EX {pC:Vector Int 16}{cG:Int}{r:Vector Int 16}(h:nU pC cG=some r):ax Tryz.prog 193 [dG (cA 16 (cI .u32)) pC,dI .i64 cG] (dG (cA 16 (cI .u32)) r):=by
 refine bE (rs:=[.cell 4 39]) (fun cx hx h0=>?_) Tryz.func193
 unfold nU at h
 refine rs hx fun K hK=>?_
 refine sa ?_
 refine s1 (bm (F:=(cA 16 (cI .u32)).f (cy)) aA) ?_
 refine .nil (hK _ _ (rs hx fun K hK=>?_))
 refine s1 (bm (F:=(cA 16 (cI .u32)).f (cy)) aA) ?_
 refine .nil (hK _ _ (AW.seq (ra hx ?_)))
 refine AW.block ?_
 obtain⟨bo,hy,h⟩:=ab h
 refine lp (S:=Int×(Vector Int 16)) (X:=(Vector Int 16)) (fun (bc,bt)=>[(1,dI .i64 cG),(2,.pt 0 0),(4,.pt 1 0),(5,.pt 2 0),(8,dI .i64 bc)]) (fun (bc,bt)=>⟨[(0,dC ((cA 16 (cI .u32)).f pC)),(1,dC ((cA 16 (cI .u32)).f (cy))),(2,dC ((cA 16 (cI .u32)).f bt))],[],3⟩) (PE cx (.exit 0) (fun bo=>[(4,.pt 0 0),(5,.pt 1 0)]) fun bo=>⟨[(0,dC ((cA 16 (cI .u32)).f (cy))),(1,dC ((cA 16 (cI .u32)).f bo))],[],2⟩) hy ?_ ?_ ?_
 exact wk h0 [0,1,2] (wR rfl (wR rfl (wR rfl (wR rfl (wR rfl wTn))))) (vC rfl (vC rfl (vC rfl wVn))) wLn
 clear hy h
 rintro⟨bc,bt⟩ y h
 dsimp only[kT] at h
 refine ra hx ?_
 refine AW.seq (cdh h rfl (fun c5 h=>?_) (fun c5 h=>?_))
 refine AW.skip (AW.seq (AW.block ?_))
 iterate 2 refine ra hx ?_
 refine AW.seq ?_
 obtain⟨CO,hy,h⟩:=ab h
 refine jn ((PE cx .normal (fun CO=>[(1,dI .i64 cG),(2,.pt 0 0),(4,.pt 1 0),(5,.pt 2 0),(6,dI .i64 bc),(7,dI .u64 CO),(8,dI .i64 bc)]) fun CO=>⟨[(0,dC ((cA 16 (cI .u32)).f pC)),(1,dC ((cA 16 (cI .u32)).f (cy))),(2,dC ((cA 16 (cI .u32)).f bt))],[],3⟩) CO) ?_ ?_
 replace h:=hy
 refine ra hx ?_
 refine cdh h rfl (fun oq h=>?_) (fun oq h=>?_)
 refine rq hx fun K hK=>?_
 iterate 2 refine sa ?_
 obtain⟨Ly,h⟩:=aC h
 have hn4:(i64.wrap (bc+(1:Int))).toNat<16:=by omega
 refine s1 (cJ Ly aA aG) ?_
 refine s1 (aW (am.comp (am.id _ _) (am.vec (cI .u32) pC (i64.wrap (bc+(1:Int))).toNat hn4) (fun _=>rfl)) aG) ?_
 refine sa ?_
 obtain⟨x5,AD,h⟩:=ab h
 replace AD:=bQ AD
 refine s2 (d2:=dI .u64 x5) ly (gq (congrArg (dI .u64) AD)) ?_
 refine .nil (hK _ _ ?_)
 cases h
 exact pe0 h0 [0,1,2]
 refine AW.skip ?_
 cases h
 exact pe0 h0 [0,1,2]
 rintro ex tm' hp' ⟨rfl,hw⟩
 refine AW.weak hw (rq hx fun K hK=>?_)
 iterate 4 refine sa ?_
 obtain⟨Hi,h⟩:=aC h
 have IZ:(bc).toNat<16:=by omega
 refine s1 (cJ Hi aA aG) ?_
 refine s1 (aW (am.comp (am.id _ _) (am.vec (cI .u32) pC (bc).toNat IZ) (fun _=>rfl)) aG) ?_
 iterate 3 refine sa ?_
 obtain⟨Hk,h⟩:=aC h
 refine s1 (PI Hk) ?_
 refine sa ?_
 obtain⟨I8,h⟩:=aC h
 have Oc:(bc).toNat<16:=by omega
 refine s1 (cJ I8 aA aG) ?_
 obtain⟨mX,uQ,h⟩:=ab h
 replace uQ:=bQ uQ
 refine s0 (nk (b':=u32.wrap (lX .u64 (ior .u64 (w7 .u64 CO (32:Int)) (u64.wrap ((pC)[(bc).toNat]!))) cG)) (am.comp (am.id _ _) (am.vec (cI .u32) bt (bc).toNat Oc) (fun _=>rfl)) aG uQ) ?_
 refine .nil (hK _ _ (rb hx ?_))
 cases h
 exact PS.l (pe0 h0 [0,1,2])
 refine AW.exit ?_
 try dsimp only
 try simp only[aU,reduceIte,Nat.reduceEqDiff,reduceCtorEq]
 cases h
 exact PS.r ⟨by nofun,PE.i (wk h0 [1,2] (wR rfl (wR rfl wTn)) (vC rfl (vC rfl wVn)) wLn)⟩
 rintro ex tm' hp' ⟨rfl,hw⟩
 try dsimp only
 try simp only[aU,reduceIte,Nat.reduceEqDiff,reduceCtorEq]
 refine AW.weak hw (rs hx fun K hK=>?_)
 refine s1 (d:=dG (cA 16 (cI .u32)) bo) (au (am.id _ _) aA) ?_
 refine s0 (aE (b':=bo) (am.id _ _) aA) ?_
 refine .nil (hK _ _ (AW.ret ?_))
 cases h
 exact rv1
def jO(aN:Vector Int 16)(aV:Int):Int×Int×(Vector Int 16)→Option ((Int×Int×(Vector Int 16))⊕(Int×(Vector Int 16))):=fun (bc,bt,kN)=>cnd (decide ((0:Int)≤bt)) (gd (0≤bt∧bt<16) (bnd (some (ior .u64 (w7 .u64 bc (32:Int)) (u64.wrap ((aN)[(bt).toNat]!)))) fun x4=>gd (u64.wrap (aV)≠0) (gd (0≤bt∧bt<16) (bnd (some ((kN).set! (bt).toNat (u32.wrap (u64.wrap (Int.tdiv x4 (u64.wrap (aV))))))) fun x9=>gd (u64.wrap (aV)≠0) (some (.inl (Int.tmod x4 (u64.wrap (aV)),i64.wrap (bt - (1:Int)),x9))))))) (some (.inr (bc,kN)))
def mP(aN:Vector Int 16)(aV:Int):Option ((Vector Int 16)×Int):=bnd (bS (jO aN aV) ((0:Int),(15:Int),(cy))) fun (bo,iG)=>some (iG,u32.wrap (bo))
set_option maxHeartbeats 4000000 in
theorem Ds {aN:Vector Int 16}{aV:Int}{r:(Vector Int 16)×Int}(h:mP aN aV=some r):ax Tryz.prog 187 [dG (cA 16 (cI .u32)) aN,dI .u32 aV] (.tu [dG (cA 16 (cI .u32)) r.1,dI .u32 r.2]):=by
 refine bE (rs:=[.cell 4 39,.tmp 5]) (fun cx hx h0=>?_) Tryz.func187
 unfold mP at h
 refine rs hx fun K hK=>?_
 refine sa ?_
 refine s1 (bm (F:=(cA 16 (cI .u32)).f (cy)) aA) ?_
 refine sa ?_
 refine .nil (hK _ _ (ra hx ?_))
 refine AW.seq (ra hx ?_)
 refine AW.block ?_
 obtain⟨y,hy,h⟩:=ab h
 refine lp (S:=Int×Int×(Vector Int 16)) (X:=Int×(Vector Int 16)) (fun (bc,bt,kN)=>[(1,dI .u32 aV),(2,.pt 0 0),(4,.pt 1 0),(6,dI .u64 bc),(7,dI .i64 bt)]) (fun (bc,bt,kN)=>⟨[(0,dC ((cA 16 (cI .u32)).f aN)),(1,dC ((cA 16 (cI .u32)).f kN))],[],2⟩) (PE cx (.exit 0) (fun (bo,iG)=>[(4,.pt 0 0),(6,dI .u64 bo)]) fun (bo,iG)=>⟨[(0,dC ((cA 16 (cI .u32)).f iG))],[],1⟩) hy ?_ ?_ ?_
 exact wk h0 [0,1] (wR rfl (wR rfl (wR rfl (wR rfl (wR rfl wTn))))) (vC rfl (vC rfl wVn)) wLn
 clear hy h
 rintro⟨bc,bt,kN⟩ y h
 dsimp only[jO] at h
 refine AW.seq (ra hx ?_)
 refine cdh h rfl (fun c5 h=>?_) (fun c5 h=>?_)
 refine AW.skip (AW.seq (AW.block (rs hx fun K hK=>?_)))
 iterate 3 refine sa ?_
 obtain⟨ml,h⟩:=aC h
 have p8:(bt).toNat<16:=by omega
 refine s1 (cJ ml aA aG) ?_
 refine s1 (aW (am.comp (am.id _ _) (am.vec (cI .u32) aN (bt).toNat p8) (fun _=>rfl)) aG) ?_
 iterate 2 refine sa ?_
 obtain⟨x4,p6,h⟩:=ab h
 replace p6:=bQ p6
 refine s2 (d2:=dI .u64 x4) ly (gq (congrArg (dI .u64) p6)) ?_
 refine .nil (hK _ _ (rs hx fun K hK=>?_))
 iterate 4 refine sa ?_
 obtain⟨hc6,h⟩:=aC h
 refine s1 (EO hc6) ?_
 refine sa ?_
 obtain⟨I5,h⟩:=aC h
 have Gp:(bt).toNat<16:=by omega
 refine s1 (cJ I5 aA aG) ?_
 obtain⟨x9,rW,h⟩:=ab h
 replace rW:=bQ rW
 refine s0 (nk (b':=u32.wrap (u64.wrap (Int.tdiv x4 (u64.wrap (aV))))) (am.comp (am.id _ _) (am.vec (cI .u32) kN (bt).toNat Gp) (fun _=>rfl)) aG rW) ?_
 refine .nil (hK _ _ (rq hx fun K hK=>?_))
 iterate 3 refine sa ?_
 obtain⟨I8,h⟩:=aC h
 refine s1 (CT I8) ?_
 refine sa ?_
 refine .nil (hK _ _ (rb hx ?_))
 cases h
 exact PS.l (pe0 h0 [0,1])
 refine AW.exit ?_
 try dsimp only
 try simp only[aU,reduceIte,Nat.reduceEqDiff,reduceCtorEq]
 cases h
 exact PS.r ⟨by nofun,PE.i (wk h0 [1] (wR rfl (wR rfl wTn)) (vC rfl wVn) wLn)⟩
 obtain⟨bo,iG⟩:=y
 rintro ex tm' hp' ⟨rfl,hw⟩
 try dsimp only
 try simp only[aU,reduceIte,Nat.reduceEqDiff,reduceCtorEq]
 refine AW.weak hw (rs hx fun K hK=>?_)
 refine s1 (d:=dG (cA 16 (cI .u32)) iG) (au (am.id _ _) aA) ?_
 iterate 2 refine sa ?_
 refine s0 (aE (b':=iG) (am.id _ _) aA) ?_
 refine sa ?_
 refine .nil (hK _ _ (AW.ret ?_))
 cases h
 exact rv2
section
section
variable {b A B k m d:Nat}
theorem oZ(hb:0<b):((A % b ^ k+B % b ^ k) / b ^ k+dg b A k+dg b B k) % b=dg b (A+B) k∧((A % b ^ k+B % b ^ k) / b ^ k+dg b A k+dg b B k) / b=(A % b ^ (k+1)+B % b ^ (k+1)) / b ^ (k+1):=by
 have hp:0<b ^ k:=b9 hb
 have hs:A % b ^ (k+1)+B % b ^ (k+1)=(A % b ^ k+B % b ^ k)+b ^ k*(dg b A k+dg b B k):=by
  rw[gY,gY,tI];omega
 have h1:(A % b ^ (k+1)+B % b ^ (k+1)) / b ^ k=(A % b ^ k+B % b ^ k) / b ^ k+dg b A k+dg b B k:=by
  rw[hs,xo _ _ hp];omega
 refine⟨?_,?_⟩
 ·have e:A+B=(A % b ^ (k+1)+B % b ^ (k+1))+b ^ k*(b*(A / b ^ (k+1)+B / b ^ (k+1))):=by
   have e1:=lx A (b ^ (k+1))
   have e2:=lx B (b ^ (k+1))
   have e3:b ^ k*(b*(A / b ^ (k+1)+B / b ^ (k+1)))=b ^ (k+1)*(A / b ^ (k+1))+b ^ (k+1)*(B / b ^ (k+1)):=by
    rw[←fC,←c8,tI]
   omega
  unfold dg
  rw[e,xo _ _ hp,h1]
  unfold dg
  rw[zS]
 ·rw[c8,←gV,←c8,h1]
theorem n3(hb:0<b):(A % b ^ k+B % b ^ k) / b ^ k≤1:=by
 have hp:0<b ^ k:=b9 hb
 have h1:=eE A hp
 have h2:=eE B hp
 have:(A % b ^ k+B % b ^ k) / b ^ k<2:=(lw hp).2 (by omega)
 omega
theorem Ei(hb:0<b):(A % b ^ k*m / b ^ k+dg b A k*m) % b=dg b (A*m) k∧(A % b ^ k*m / b ^ k+dg b A k*m) / b=A % b ^ (k+1)*m / b ^ (k+1):=by
 have hp:0<b ^ k:=b9 hb
 have hs:A % b ^ (k+1)*m=A % b ^ k*m+b ^ k*(dg b A k*m):=by
  rw[gY,cp,fC]
 have h1:A % b ^ (k+1)*m / b ^ k=A % b ^ k*m / b ^ k+dg b A k*m:=by
  rw[hs,xo _ _ hp]
 refine⟨?_,?_⟩
 ·have e:A*m=A % b ^ (k+1)*m+b ^ k*(b*(A / b ^ (k+1)*m)):=by
   have e1:=lx A (b ^ (k+1))
   have e3:b ^ k*(b*(A / b ^ (k+1)*m))=b ^ (k+1)*(A / b ^ (k+1))*m:=by
    rw[←fC,←c8,←fC]
   rw[e3,←cp]
   congr 1
   omega
  have h2:dg b (A*m) k=A*m / b ^ k % b:=rfl
  rw[h2,e,xo _ _ hp,h1,zS]
 ·rw[c8,←gV,←c8,h1]
theorem ze(hb:0<b)(hm:0<m):A % b ^ k*m / b ^ k<m:=by
 have hp:0<b ^ k:=b9 hb
 rw[lw hp,cZ]
 exact Nat.mul_lt_mul_of_pos_left (eE A hp) hm
theorem wX(hb:0<b)(hd:0<d):(A / b ^ (k+1) % d*b+dg b A k) / d=dg b (A / d) k∧(A / b ^ (k+1) % d*b+dg b A k) % d=A / b ^ k % d:=by
 have e:=cP (b:=b) (A:=A) (k:=k)
 have hR:=lx (A / b ^ (k+1)) d
 generalize hr:A / b ^ (k+1) % d=r at hR ⊢
 generalize ht:A / b ^ (k+1) / d=t at hR
 have hrd:r<d:=by rw[←hr];exact eE _ hd
 have ha:dg b A k<b:=O4 hb
 generalize dg b A k=a at e ha ⊢
 have e2:A / b ^ k=r*b+a+d*(t*b):=by
  rw[e,←hR,cp,fC];omega
 have bX:(r*b+a) / d<b:=by
  rw[lw hd]
  have:(r+1)*b≤d*b:=dx _ hrd
  rw[cp,jZ,cZ d b] at this
  omega
 refine⟨?_,?_⟩
 ·have:dg b (A / d) k=A / b ^ k / d % b:=by unfold dg;rw[gV,cZ,←gV]
  rw[this,e2,xo _ _ hd,Nat.add_mul_mod_self_right,gL bX]
 ·rw[e2,zS]
end
abbrev W(A:Nat):Vector Int 16:=vN 4294967296 16 A
theorem gO {A k:Nat}(h:k<16):(W A)[k]! =(dg 4294967296 A k:Int):=jw h
theorem dgl {A k:Nat}:dg 4294967296 A k<4294967296:=O4 (by decide)
theorem G_plus {A B:Nat}(hA:A<4294967296 ^ 16)(hB:B<4294967296 ^ 16):nT (W A) (W B)=some (W (A+B),decide (A+B<4294967296 ^ 16)):=by
 have hl:=qv (b:=jP (W A) (W B)) (s0:=((0:Int),(0:Int),cy)) (fun k=>(((A % 4294967296 ^ k+B % 4294967296 ^ k) / 4294967296 ^ k:Nat),(k:Int),vN 4294967296 16 ((A+B) % 4294967296 ^ k))) 16 (((A % 4294967296 ^ 16+B % 4294967296 ^ 16) / 4294967296 ^ 16:Nat),vN 4294967296 16 ((A+B) % 4294967296 ^ 16))
  (by simp only[fZ,mO,ry];rfl)
  (fun k hk=>by
   have hc:=n3 (b:=4294967296) (A:=A) (B:=B) (k:=k) (by decide)
   obtain⟨h1,h2⟩:=oZ (b:=4294967296) (A:=A) (B:=B) (k:=k) (by decide)
   have ha:=@dgl A k
   have hb:=@dgl B k
   dsimp only[jP]
   rw[de _ _ (by omega),aL (by omega),aL (by omega),ae,aL (by omega),cl,gO hk,gO hk,iq (by omega),iq (by omega),←j5,iq (by omega),←j5,iq (by omega),wj,yN,←wb,h1,h2,AT (by decide) hk,cm (by omega),j5]
   rfl)
  (by
   dsimp only[jP]
   rw[cK _ _ (by omega)])
 unfold nT
 rw[hl,ae,gL hA,gL hB,E1 (by decide)]
 dsimp only
 congr 2
 have:((((A+B) / 4294967296 ^ 16:Nat):Int)=0)↔A+B<4294967296 ^ 16:=by
  rw[Int.natCast_eq_zero,Nat.div_eq_zero_iff_lt (by decide)]
 exact kM.2 this
theorem Gi {A B:Nat}(hBA:B≤A):ie (W A) (W B)=some (W (A - B)):=by
 obtain⟨D,rfl⟩:∃D,A=D+B:=⟨A - B,by omega⟩
 rw[zR]
 have hl:=qv (b:=jh (W (D+B)) (W B)) (s0:=((0:Int),(0:Int),cy)) (fun k=>(((D % 4294967296 ^ k+B % 4294967296 ^ k) / 4294967296 ^ k:Nat),(k:Int),vN 4294967296 16 (D % 4294967296 ^ k))) 16 (vN 4294967296 16 (D % 4294967296 ^ 16))
  (by simp only[fZ,mO,ry];rfl)
  (fun k hk=>by
   have hc:=n3 (b:=4294967296) (A:=D) (B:=B) (k:=k) (by decide)
   obtain⟨h1,h2⟩:=oZ (b:=4294967296) (A:=D) (B:=B) (k:=k) (by decide)
   have ha:=@dgl D k
   have hb:=@dgl B k
   have hd:=@dgl (D+B) k
   generalize (D % 4294967296 ^ k+B % 4294967296 ^ k) / 4294967296 ^ k=c at h1 h2 hc ⊢
   generalize (D % 4294967296 ^ (k+1)+B % 4294967296 ^ (k+1)) / 4294967296 ^ (k+1)=c' at h2 ⊢
   dsimp only[jh]
   rw[de _ _ (by omega),aL (by omega),aL (by omega),ae,aL (by omega),cl,gO hk,gO hk,iq (by omega),iq (by omega),cm (by omega)]
   have hx:∃x:Nat,u64.wrap (u64.wrap ((dg 4294967296 (D+B) k:Int) - (dg 4294967296 B k:Int)) - (c:Int))=(x:Int)∧x / 9223372036854775808=c'∧x % 4294967296=dg 4294967296 D k:=by
    rw[IntKind.wrap_u64,IntKind.wrap_u64]
    refine⟨((((dg 4294967296 (D+B) k:Int) - (dg 4294967296 B k:Int)) % 18446744073709551616 - (c:Int)) % 18446744073709551616).toNat,by omega,by omega,by omega⟩
   obtain⟨x,Ep,vu,IP⟩:=hx
   rw[Ep,MO,yN,vu,IP,AT (by decide) hk]
   rfl)
  (by
   dsimp only[jh]
   rw[cK _ _ (by omega)])
 unfold ie
 rw[hl,ae,E1 (by decide)]
theorem G_up {A s:Nat}(hs:s<32):oP (W A) (s:Int)=some (W (A*2 ^ s),((A % 4294967296 ^ 16*2 ^ s / 4294967296 ^ 16:Nat):Int)):=by
 have Mg:2 ^ s≤2 ^ 31:=ia (by decide) (by omega)
 have hs3:0<2 ^ s:=b9 (by decide)
 have hl:=qv (b:=lZ (W A) (s:Int)) (s0:=((0:Int),(0:Int),cy)) (fun k=>((A % 4294967296 ^ k*2 ^ s / 4294967296 ^ k:Nat),(k:Int),vN 4294967296 16 (A*2 ^ s % 4294967296 ^ k))) 16 ((A % 4294967296 ^ 16*2 ^ s / 4294967296 ^ 16:Nat),vN 4294967296 16 (A*2 ^ s % 4294967296 ^ 16))
  (by simp only[fZ,mO,ry,g5,Nat.zero_div];rfl)
  (fun k hk=>by
   have hc:=ze (b:=4294967296) (A:=A) (k:=k) (m:=2 ^ s) (by decide) hs3
   obtain⟨h1,h2⟩:=Ei (b:=4294967296) (A:=A) (k:=k) (m:=2 ^ s) (by decide)
   have ha:=@dgl A k
   have hm:dg 4294967296 A k*2 ^ s≤4294967295*2 ^ s:=dx _ (by omega)
   generalize A % 4294967296 ^ k*2 ^ s / 4294967296 ^ k=c at h1 h2 hc ⊢
   generalize A % 4294967296 ^ (k+1)*2 ^ s / 4294967296 ^ (k+1)=c' at h2 ⊢
   dsimp only[lZ]
   rw[de _ _ (by omega),aL (by omega),aL (by omega),ae,aL (by omega),cl,gO hk,iq (by omega),Ny _ _ (by omega) (by omega),Nz,ior_n hc (by omega),wj,yN,cm (by omega),pT _ c,h1,h2,AT (by decide) hk]
   rfl)
  (by
   dsimp only[lZ]
   rw[cK _ _ (by omega)])
 have hc:A % 4294967296 ^ 16*2 ^ s / 4294967296 ^ 16<2 ^ s:=ze (by decide) hs3
 unfold oP
 rw[hl,ae,E1 (by decide)]
 dsimp only
 rw[yM (by omega)]
theorem G_down {A s:Nat}(hA:A<4294967296 ^ 16)(hs:s<32):nU (W A) (s:Int)=some (W (A / 2 ^ s)):=by
 have Mg:2 ^ s≤2 ^ 31:=ia (by decide) (by omega)
 have hs3:0<2 ^ s:=b9 (by decide)
 have hl:=qv (b:=kT (W A) (s:Int)) (s0:=((0:Int),cy)) (fun k=>((k:Int),vN 4294967296 16 (A / 2 ^ s % 4294967296 ^ k))) 16 (vN 4294967296 16 (A / 2 ^ s % 4294967296 ^ 16))
  (by simp only[fZ,mO,ry];rfl)
  (fun k hk=>by
   have ha:=@dgl A k
   have ha1:=@dgl A (k+1)
   have hd:(dg 4294967296 A (k+1)*4294967296+dg 4294967296 A k) / 2 ^ s % 4294967296=dg 4294967296 (A / 2 ^ s) k:=by
    have e1:dg 4294967296 (A / 2 ^ s) k=A / 4294967296 ^ k / 2 ^ s % 4294967296:=by
     unfold dg;rw[gV,cZ,←gV]
    have e2:A / 4294967296 ^ k=(dg 4294967296 A (k+1)*4294967296+dg 4294967296 A k)+2 ^ s*(4294967296*(2 ^ (32 - s)*(A / 4294967296 ^ (k+2)))):=by
     have e3:=cP (b:=4294967296) (A:=A) (k:=k)
     have e4:=cP (b:=4294967296) (A:=A) (k:=k+1)
     have e5:2 ^ s*(4294967296*(2 ^ (32 - s)*(A / 4294967296 ^ (k+2))))=2 ^ s*2 ^ (32 - s)*4294967296*(A / 4294967296 ^ (k+2)):=by
      simp only[fC,zQ]
     rw[e5,←hJ,show s+(32 - s)=32 from by omega,e3,e4,show k+1+1=k+2 from rfl,show (2:Nat) ^ 32=4294967296 from rfl]
     generalize A / 4294967296 ^ (k+2)=q
     generalize dg 4294967296 A (k+1)=d1
     generalize dg 4294967296 A k=d0
     omega
    rw[e1,e2,xo _ _ hs3,zS]
   dsimp only[kT]
   rw[de _ _ (by omega)]
   have Af:(bnd (S:=Int) (cnd (decide ((i64.wrap ((k:Int)+(1:Int)))<(16:Int))) (gd (0≤i64.wrap ((k:Int)+(1:Int))∧i64.wrap ((k:Int)+(1:Int))<16) (bnd (some (u64.wrap ((W A)[(i64.wrap ((k:Int)+(1:Int))).toNat]!))) fun x5=>some (x5))) (some ((0:Int)))) (fun a=>some a))=some ((dg 4294967296 A (k+1):Nat):Int):=by
    rw[cm (by omega)]
    by_cases hk1:k+1<16
    ·rw[de _ _ (by omega),aL (by omega),ae,show ((k:Int)+1).toNat=k+1 from by omega,gO hk1,iq (by omega),ae]
    ·rw[cK _ _ (by omega),ae,lM (d8 hA (ia (by decide) (by omega)))]
     rfl
   rw[tB] at Af
   rw[Af,ae,aL (by omega),aL (by omega),aL (by omega),ae,cl,gO hk,iq (by omega),GT ha1,G9 ha ha1,zo .u64 _ _ (by show s≤64;omega),yN,hd,AT (by decide) hk,cm (by omega)]
   rfl)
  (by
   dsimp only[kT]
   rw[cK _ _ (by omega)])
 unfold nU
 rw[hl,ae,E1 (by decide)]
theorem G_short {A d:Nat}(hA:A<4294967296 ^ 16)(hd:0<d)(B1:d<4294967296):mP (W A) (d:Int)=some (W (A / d),((A % d:Nat):Int)):=by
 have hl:=No (b:=jO (W A) (d:Int)) (s0:=((0:Int),(15:Int),cy)) (fun k=>((A / 4294967296 ^ k % d:Nat),(k:Int) - 1,vN 4294967296 16 (A / d / 4294967296 ^ k*4294967296 ^ k))) 16 ((A / 4294967296 ^ 0 % d:Nat),vN 4294967296 16 (A / d / 4294967296 ^ 0*4294967296 ^ 0))
  (by
   have h1:A / d<4294967296 ^ 16:=eV (qU _ _) hA
   simp only[eM hA,eM h1,g5,ry,Nat.zero_mod];rfl)
  (fun k hk=>by
   have ha:=@dgl A k
   have hq:=@dgl (A / d) k
   obtain⟨h1,h2⟩:=wX (b:=4294967296) (A:=A) (k:=k) (d:=d) (by decide) hd
   have hr:A / 4294967296 ^ (k+1) % d<d:=eE _ hd
   generalize A / 4294967296 ^ (k+1) % d=r at h1 h2 hr ⊢
   generalize A / 4294967296 ^ k % d=r' at h2 ⊢
   have ed:u64.wrap (d:Int)=(d:Int):=iq (by omega)
   dsimp only[jO]
   rw[de _ _ (by omega),aL (by omega),ae,ed,aL (by omega),aL (by omega),ae,aL (by omega),show (((k+1:Nat):Int) - 1).toNat=k from by omega,gO hk,iq (by omega),GT (by omega),G9 ha (by omega),←r8,←r7,h1,h2,iq (by omega),yM hq,JG (by decide) hk,cm (by omega)]
   congr 4
   omega)
  (by
   dsimp only[jO]
   rw[cK _ _ (by omega)])
 rw[fZ,mN,mN,wD] at hl
 have hr:A % d<d:=eE _ hd
 unfold mP
 rw[hl,ae]
 dsimp only
 rw[yM (by omega)]
end
def LIM:Nat:=4294967296 ^ 16
theorem C3:LIM=4294967296 ^ 16:=rfl
theorem vO:0<LIM:=by decide
theorem W_zero:W 0=cy:=ry
theorem z16:(#v[(0:Int),0,0,0,0,0,0,0,0,0,0,0,0,0,0,0]:Vector Int 16)=W 0:=by
 rw[W_zero];rfl
theorem r16:cy=W 0:=ry.symm
theorem CR {A B:Nat}(hA:A<LIM)(hB:B<LIM):W A=W B↔A=B:=⟨vN_inj hA hB,fun h=>by rw[h]⟩
def Fe(A B:Nat):Int:=if A<B then -1 else if B<A then 1 else 0
theorem G_cmp(x y:Int):gx x y=some (if x<y then -1 else if y<x then 1 else 0):=by
 have hn:∀z:Int,fY z=some false:=fun z=>by unfold fY;simp
 unfold gx
 rw[hn,hn,ae,ae,aX,aX,gj,gj]
 split
 ·rfl
 ·split <;> rfl
theorem Ab {A B k:Nat}(he:A / 4294967296 ^ (k+1)=B / 4294967296 ^ (k+1))(h:dg 4294967296 A k<dg 4294967296 B k):A<B:=by
 have e1:=cP (b:=4294967296) (A:=A) (k:=k)
 have e2:=cP (b:=4294967296) (A:=B) (k:=k)
 have h1:A / 4294967296 ^ k<B / 4294967296 ^ k:=by
  rw[e1,e2,he];exact CI h _
 rcases gW A B with h2|h2
 ·exact h2
 ·exact absurd (Nat.div_le_div_right h2) (Nat.not_le.2 h1)
theorem Bf {A B:Nat}(hA:A<LIM)(hB:B<LIM):ic (W A) (W B)=some (Fe A B):=by
 rw[C3] at hA hB
 obtain⟨x,hl,hx⟩:=tZ (b:=jQ (W A) (W B)) (fun s=>∃k:Nat,s=(k:Int) - 1∧k≤16∧A / 4294967296 ^ k=B / 4294967296 ^ k) (fun s=>(s+1).toNat) (fun x=>match x with| .inl r=>r=Fe A B| .inr _=>A=B)
  (by
   rintro s ⟨k,rfl,hk,he⟩
   cases k with
   |zero=>
    right
    refine⟨(Sum.inr ():Int⊕Unit),?_,?_⟩
    ·dsimp only[jQ]
     rw[cK _ _ (by omega)]
    ·simpa using he
   |succ k=>
    have uh:k<16:=by omega
    have e:((k+1:Nat):Int) - 1=(k:Int):=by omega
    rw[e]
    dsimp only[jQ]
    rw[de _ _ (by omega),aL (by omega),aL (by omega),cl,gO uh,gO uh]
    by_cases hd:dg 4294967296 A k=dg 4294967296 B k
    ·left
     refine⟨(k:Int) - 1,?_,⟨k,rfl,by omega,?_⟩,by omega⟩
     ·rw[cK _ _ (by rw[hd];simp),cm (by omega)]
     ·rw[cP (b:=4294967296) (A:=A) (k:=k),cP (b:=4294967296) (A:=B) (k:=k),he,hd]
    ·right
     refine⟨(Sum.inl (Fe A B):Int⊕Unit),?_,rfl⟩
     rw[de _ _ (by omega),aL (by omega),aL (by omega),G_cmp,ae]
     congr 3
     unfold Fe
     rcases Nat.lt_or_gt_of_ne hd with h|h
     ·have:=Ab he h
      rw[if_pos (by omega),if_pos this]
     ·have:=Ab he.symm h
      rw[if_neg (by omega),if_pos (by omega),if_neg (by omega),if_pos this]) (15:Int) ⟨16,rfl,aB _,by rw[eM hA,eM hB]⟩
 unfold ic
 rw[hl,ae]
 cases x with
 |inl r=>obtain rfl:r=_:=hx;rfl
 |inr u=>
  obtain rfl:A=B:=hx
  unfold Fe
  simp
def szp(b A n:Nat):Prop:=A<b ^ n∧(0<n→b ^ (n - 1)≤A)
theorem MF {b A n m:Nat}(hb:0<b)(h:szp b A n)(h':szp b A m):n=m:=by
 have key:∀{n m:Nat},szp b A n→szp b A m→m≤n:=by
  intro n m h h'
  rcases gW n m with h1|h1
  ·have h2:=h'.2 (by omega)
   have h3:b ^ n≤b ^ (m - 1):=ia hb (by omega)
   have:=h.1
   omega
  ·exact h1
 have:=key h h'
 have:=key h' h
 omega
theorem Io {b A n k:Nat}(hb:0<b)(h:szp b A n)(hA:A<b ^ k):n≤k:=by
 rcases gW k n with h1|h1
 ·have h2:=h.2 (by omega)
  have h3:b ^ k≤b ^ (n - 1):=ia hb (by omega)
  omega
 ·exact h1
theorem zW {A:Nat}(hA:A<LIM):∃n:Nat,n≤16∧eZ (W A)=some (n:Int)∧szp 4294967296 A n:=by
 rw[C3] at hA
 obtain⟨x,hl,n,rfl,hn,hs⟩:=tZ (b:=kS (W A)) (fun s=>∃n:Nat,s=(n:Int)∧n≤16∧A<4294967296 ^ n) (fun s=>s.toNat) (fun x=>∃n:Nat,x=(n:Int)∧n≤16∧szp 4294967296 A n)
  (by
   rintro s ⟨n,rfl,hn,bX⟩
   cases n with
   |zero=>
    right
    refine⟨_,?_,0,rfl,by omega,bX,fun h=>by omega⟩
    dsimp only[kS]
    rw[cK _ _ (by omega),ae,aX]
   |succ k=>
    have hk:k<16:=by omega
    have e:i64.wrap (((k+1:Nat):Int) - 1)=(k:Int):=by rw[cm (by omega)];omega
    dsimp only[kS]
    rw[de _ _ (by omega),e,aL (by omega),ae,cl,gO hk,gj]
    by_cases hd:dg 4294967296 A k=0
    ·left
     refine⟨(k:Int),by rw[if_pos (by omega)],⟨k,rfl,by omega,?_⟩,by omega⟩
     unfold dg at hd
     have h1:A / 4294967296 ^ k<4294967296:=by
      rw[lw (b9 (by decide)),cZ,←c8];exact bX
     rw[gL h1] at hd
     exact (Nat.div_eq_zero_iff_lt (b9 (by decide))).1 hd
    ·right
     refine⟨_,by rw[if_neg (by omega)],k+1,rfl,hn,bX,fun _=>?_⟩
     rcases gW A (4294967296 ^ k) with h|h
     ·exact absurd (lM h) hd
     ·exact h) (16:Int) ⟨16,rfl,aB _,hA⟩
 refine⟨n,hn,?_,hs⟩
 unfold eZ
 rw[hl,ae]
def HO:av:=⟨true,false,W 0⟩
def enc(z:Int):av:=if z.natAbs<LIM then⟨false,decide (z<0),W z.natAbs⟩ else HO
theorem qE {z:Int}(h:z.natAbs<LIM):enc z=⟨false,decide (z<0),W z.natAbs⟩:=if_pos h
theorem Ck {z:Int}(h:¬z.natAbs<LIM):enc z=HO:=if_neg h
def ej(x:av):Bool:=!x.vBad&&(!decide (x.vW=W 0)||!x.vNeg)
def okI(x:av):Prop:=∀j:Nat,j<16→0≤x.vW[j]!∧x.vW[j]! <4294967296
theorem A0(z:Int):okI (enc z):=by
 have key:∀(A j:Nat),j<16→0≤(W A)[j]!∧(W A)[j]! <4294967296:=fun A j hj=>by
  rw[gO hj];have:=@dgl A j;omega
 unfold enc
 split
 ·exact key _
 ·exact key 0
theorem bz {z:Int}(h:z.natAbs<LIM):ej (enc z)=true:=by
 rw[qE h]
 unfold ej
 dsimp only
 by_cases hz:z=0
 ·subst hz;simp
 ·have:¬W z.natAbs=W 0:=fun e=>hz (by have:=(CR h vO).1 e;omega)
  simp[this]
theorem yc {x:av}(h:okI x)(hg:ej x=true):∃z:Int,z.natAbs<LIM∧x=enc z:=by
 obtain⟨A,hA,hv⟩:=vN_of (b:=4294967296) (n:=16) (by decide) x.vW (fun j hj=>h j hj)
 obtain⟨bad,neg,w⟩:=x
 dsimp only at hv
 subst hv
 unfold ej at hg
 simp only[bq,Bool.or_eq_true,EG,decide_eq_false_iff_not] at hg
 obtain⟨rfl,hg⟩:=hg
 have Ki:A<LIM:=hA
 cases neg with
 |false=>
  refine⟨(A:Int),Ki,?_⟩
  rw[qE (by simpa using Ki)]
  simp
 |true=>
  refine⟨-(A:Int),by simpa using Ki,?_⟩
  have h0:A≠0:=by
   rintro rfl
   rcases hg with h|h
   ·exact h rfl
   ·cases h
  rw[qE (by simpa using Ki)]
  have:-(A:Int)<0:=by omega
  simp[this,xn h0]
theorem Ey:ej HO=false:=rfl
theorem yh {z y:Int}(hz:z.natAbs<LIM)(hy:y.natAbs<LIM)(h:enc z=enc y):z=y:=by
 rw[qE hz,qE hy] at h
 simp only[av.mk.injEq,true_and] at h
 obtain⟨h1,h2⟩:=h
 have h3:=(CR hz hy).1 h2
 have h4:=kM.1 h1
 omega
theorem OY {A:Nat}(hA:A<LIM)(neg:Bool):(⟨false,neg&&!decide (A=0),W A⟩:av)=enc (bif neg then -(A:Int) else A):=by
 cases neg with
 |false=>rw[qE (by simpa using hA)];simp
 |true=>
  rw[qE (by simpa using hA)]
  simp only[Bool.true_and,j4,Int.natAbs_neg,eU,av.mk.injEq,true_and,and_true]
  by_cases h:A=0
  ·subst h;simp
  ·have:-(A:Int)<0:=by omega
   simp[h,this,xn h]
theorem KL(x:av):lf x=some (if x.vBad then decide (x.vW=W 0)&&!x.vNeg else !decide (x.vW=W 0)||!x.vNeg):=by
 unfold lf
 rw[ae,z16]
 cases x.vBad <;> cases decide (x.vW=W 0) <;> rfl
theorem Qa {l:List av}(hl:l.length<1000000):cO l=some (l.all ej):=by
 obtain⟨x,h1,hx⟩:=tZ (b:=m5 l) (fun s=>∃n:Nat,s=(n:Int)∧n≤l.length∧(l.take n).all ej=true) (fun s=>l.length - s.toNat) (fun x=>match x with| .inl r=>r=false∧l.all ej=false| .inr _=>l.all ej=true)
  (by
   rintro s ⟨n,rfl,hn,ha⟩
   dsimp only[m5]
   by_cases bX:n<l.length
   ·rw[de _ _ (by omega),aL (by omega),cl,KL,ae]
    have hg:cnd (l[n]!.vBad) (some true) (some (!(if l[n]!.vBad then decide (l[n]!.vW=W 0)&&!l[n]!.vNeg else !decide (l[n]!.vW=W 0)||!l[n]!.vNeg)))=some (!ej l[n]!):=by
     unfold ej
     cases l[n]!.vBad <;> rfl
    rw[hg,ae]
    have BT:(l.take (n+1)).all ej=((l.take n).all ej&&ej l[n]!):=by
     rw[cz l n bX,List.take_succ_eq_append_getElem bX,lN]
     simp
    cases hgb:ej l[n]! with
    |true=>
     left
     refine⟨((n+1:Nat):Int),?_,⟨n+1,rfl,bX,by rw[BT,ha,hgb];rfl⟩,by omega⟩
     rw[c7,aX,cm (by omega)]
     rfl
    |false=>
     right
     refine⟨_,rfl,rfl,?_⟩
     rw[←wA (n+1) l,lN,BT,hgb]
     simp
   ·right
    refine⟨_,by rw[cK _ _ (by omega)],?_⟩
    rw[g6 (by omega)] at ha
    exact ha) (0:Int) ⟨0,rfl,cQ _,by simp⟩
 unfold cO
 rw[h1,ae]
 cases x with
 |inl r=>obtain⟨rfl,h2⟩:=hx;rw[h2]
 |inr u=>rw[show l.all ej=true from hx]
theorem jv {A:Nat}(hA:A<LIM)(neg:Bool):bV neg (W A)=some (enc (bif neg then -(A:Int) else A)):=by
 unfold bV
 rw[z16,←OY hA]
 cases neg with
 |true=>
  rw[gz,ae]
  simp only[ae,CR hA vO,Bool.true_and,decide_not]
 |false=>rfl
theorem KP:eN=some HO:=by unfold eN;rw[r16];rfl
theorem all2g(x y:av):([x,y].all ej)=(ej x&&ej y):=by simp
theorem all1g(x:av):([x].all ej)=ej x:=by simp
theorem tP(x y:av):cO [x,y]=some (ej x&&ej y):=by rw[Qa (by simp),all2g]
theorem tQ(x:av):cO [x]=some (ej x):=by rw[Qa (by simp),all1g]
theorem lL {z:Int}(h:z.natAbs<LIM):(enc z).vW=W z.natAbs:=by rw[qE h]
theorem jE {z:Int}(h:z.natAbs<LIM):(enc z).vNeg=decide (z<0):=by rw[qE h]
theorem G_Add {a c:Int}(ha:a.natAbs<LIM)(hc:c.natAbs<LIM):jl (enc a) (enc c)=some (enc (a+c)):=by
 unfold jl
 rw[tP,bz ha,bz hc,ae]
 simp only[bB,c7,aX,lL ha,lL hc,jE ha,jE hc]
 rw[G_plus (by rw[←C3];exact ha) (by rw[←C3];exact hc),ae,Bf ha hc,ae,←C3]
 dsimp only
 by_cases hs:decide (a<0)=decide (c<0)
 ·have Lq:=kM.1 hs
  rw[hs,CF,gz]
  by_cases bX:a.natAbs+c.natAbs<LIM
  ·rw[aF bX,c7,aX,jv bX,ae]
   congr 2
   by_cases h:c<0
   ·simp only[h,qT,j4];omega
   ·simp only[h,qS,cond_false];omega
  ·rw[bH bX,qR,gz,KP,ae,Ck (by omega)]
 ·have Lq:¬((a<0)↔(c<0)):=fun h=>hs (kM.2 h)
  have hb:(decide (a<0) == decide (c<0))=false:=HX.2 hs
  rw[hb,aX]
  unfold Fe
  by_cases h1:a.natAbs<c.natAbs
  ·rw[if_pos h1,cK _ _ (by omega),Gi (mh h1),ae,jv (by omega),ae]
   congr 2
   by_cases h:c<0
   ·simp only[h,qT,j4];omega
   ·simp only[h,qS,cond_false];omega
  ·have h2:(0:Int)≤(if a.natAbs<c.natAbs then -1 else if c.natAbs<a.natAbs then 1 else 0):=by
    rw[if_neg h1];split <;> omega
   rw[de _ _ h2,Gi (by omega),ae,jv (by omega),ae]
   congr 2
   by_cases h:a<0
   ·simp only[h,qT,j4];omega
   ·simp only[h,qS,cond_false];omega
theorem Ma {x y:av}(h:(ej x&&ej y)=false):jl x y=some HO:=by
 unfold jl
 rw[tP,h,ae,qR,gz,KP,ae]
theorem Qf {a:Int}(ha:a.natAbs<LIM):l5 (enc a)=some (enc (-a)):=by
 unfold l5
 rw[tQ,bz ha,ae,c7,aX,lL ha,jE ha,jv ha,ae]
 congr 2
 by_cases h:a<0
 ·simp only[h,qT,c7,cond_false];omega
 ·simp only[h,qS,qR,j4];omega
theorem G_Sub {a c:Int}(ha:a.natAbs<LIM)(hc:c.natAbs<LIM):nq (enc a) (enc c)=some (enc (a - c)):=by
 unfold nq
 rw[Qf hc,ae,G_Add ha (by omega),ae]
 rfl
theorem vl {a:Int}(ha:a.natAbs<LIM):fk (enc a)=some a.sign:=by
 unfold fk
 rw[tQ,bz ha,ae,c7,aX,ae,lL ha,jE ha,z16]
 simp only[CR ha vO]
 rcases zP a 0 with h|h|h
 ·rw[cK _ _ (by omega),de _ _ h,CH h]
 ·subst h;rfl
 ·rw[cK _ _ (by omega),cK _ _ (by omega),va h]
end
end Go.Proofs.YtaedcknhkjpmlaaGreat
