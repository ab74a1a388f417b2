/-
  Lemmas, part 5. Conditions: none.
-/
import Derived.Test.YtgfcnncojhkcoaaGreatY4
import Derived.RangeFuncNested
import Derived.RangeFuncLeaves
set_option linter.all false
set_option maxRecDepth 100000
set_option maxHeartbeats 4000000
namespace Go.Proofs.YtgfcnncojhkcoaaGreat
open Go.RowKit Go.IntKind Tryz
noncomputable section
section
section
variable {B k z n N:Nat} {F:List E} {vs og:List (Nat×List D)} {lv:List (Nat×Nat×Nat×TypeId)} {g:Gh} {w:World} {d d':D} {v:Value}
theorem HT {α:Type}{l:List (Nat×α)}{k:Nat}{y:α}(h:l.lookup k=some y):(k,y)∈l:=by
 induction l with
 |nil=>simp at h
 |cons p l ih=>
  obtain⟨a,b⟩:=p
  by_cases hk:k=a
  ·subst hk
   rw[ai] at h
   injection h with h
   subst h
   exact nP ..
  ·rw[ar hk] at h
   exact mN _ (ih h)
end
theorem AR.le {hp:Hp}{d d2:D}(h:d.ex.le d2)(hp1:d.ex.pure=true):AR hp d d2:=fun B g w v hr hd=>(AR.data hp1 B g w v hr hd).le h
def D.refC:D→Bool
 | .e (.lit _)=>true
 | .pt _ _=>true
 | .ow _ _ _ _=>true
 | .gw _ _ _=>true
 |_=>false
def D.ref1:D→Bool
 | .ag ds=>ds.all D.refC
 |d=>d.refC
def D.ref2:D→Bool
 | .tu ds=>ds.all D.ref1
 |d=>d.ref1
section
variable {P:Program} {hp bG:Hp} {g g2:Gh} {w:World} {ρ:Nat→Nat} {d:D} {v:Value}
theorem rk(h:aM hp g w d v)(hn:d.refC=true)(qZ:∀i,i<hp.next→ρ i<bG.next)(hμ:∀i,i<hp.next→g2.μ (ρ i)=g.μ i):aM bG g2 w (d.renC ρ) v:=by
 cases h with
 |e x v h=>
  cases x with
  |lit u=>cases h with|lit _ ho=>exact .e _ _ (.lit _ ho)
  |_=>cases hn
 |pt k off hk=>rw[←hμ k hk];exact .pt _ off (qZ k hk)
 |ow k off z n c hk h1 h2=>rw[←hμ k hk];exact .ow _ off z n c (qZ k hk) h1 h2
 |gw k z n c hk h1 h2 hs=>rw[←hμ k hk];exact .gw _ z n c (qZ k hk) h1 h2 (by rw[hμ k hk];exact hs)
 |_=>cases hn
theorem rl(h:aM hp g w d v)(hn:d.ref1=true)(qZ:∀i,i<hp.next→ρ i<bG.next)(hμ:∀i,i<hp.next→g2.μ (ρ i)=g.μ i):aM bG g2 w (d.ren ρ) v:=by
 cases d with
 |ag ds=>
  cases h with
  |ag _ cs hl ho Fe=>
   refine .ag _ cs (by simpa using hl) ho fun j d u hj hu=>?_
   rw[dc] at hj
   obtain⟨d0,h4,rfl⟩:=qj.1 hj
   exact rk (Fe j d0 u h4 hu) (bZ.1 hn d0 (b8 h4)) qZ hμ
 |e x=>exact rk h hn qZ hμ
 |pt k o=>exact rk h hn qZ hμ
 |ow k o z n=>exact rk h hn qZ hμ
 |gw k z n=>exact rk h hn qZ hμ
 |_=>cases hn
theorem MD(h:aM hp g w d v)(hn:d.ref2=true)(qZ:∀i,i<hp.next→ρ i<bG.next)(hμ:∀i,i<hp.next→g2.μ (ρ i)=g.μ i):aM bG g2 w (d.ren2 ρ) v:=by
 cases d with
 |tu ds=>
  cases h with
  |tu _ cs hl Fe=>
   refine .tu _ cs (by simpa using hl) fun j d u hj hu=>?_
   rw[dc] at hj
   obtain⟨d0,h4,rfl⟩:=qj.1 hj
   exact rl (Fe j d0 u h4 hu) (bZ.1 hn d0 (b8 h4)) qZ hμ
 |ag ds=>exact rl h hn qZ hμ
 |e x=>exact rl h hn qZ hμ
 |pt k o=>exact rl h hn qZ hμ
 |ow k o z n=>exact rl h hn qZ hμ
 |gw k z n=>exact rl h hn qZ hμ
 |_=>cases hn
end
theorem HC.frame0R {P:Program}{f:FuncId}{ds dsE:List D}{r:D}{nH vs:List (Nat×List D)}{lv:List (Nat×Nat×Nat×TypeId)}{n' N:Nat}(h:HC P f dsE ⟨[],[],0⟩ r ⟨nH,[],n'⟩)
  (ha:ARs ⟨vs,lv,N⟩ ds dsE) (hr:r.ref2=true) (hvo:∀k cs,nH.lookup k=some cs→cs.all D.refC=true):
  HC P f ds ⟨vs,lv,N⟩ (r.ren2 (fun i=>N+i)) ⟨nH.map (fun p=>(N+p.1,p.2.map (D.renC fun i=>N+i)))++vs,lv,N+n'⟩:=by
 refine⟨h.1,fun B g w us hR hsz cM=>?_⟩
 obtain⟨zA,vZ⟩:=ha.get
 have hS0:HR w.heap.size ⟨[],[],0⟩ ⟨fun _=>0,fun _=>default,Fv ⟨vs,lv,N⟩ g⟩ w:=
  ⟨fun k ds h=>by simp at h,fun k k' a b h=>by simp at h,fun id n e h=>by simp at h,fun id yQ a b c h=>by simp at h,aL _,KN hR⟩
 refine (h.2 w.heap.size _ w us hS0 (by omega) (fun j e u he hu=>?_)).mono ?_
 ·obtain⟨d,h3,h4⟩:=vZ j e he
  exact h4 B g w u hR (cM j d u h3 hu)
 rintro en w' ⟨v,g',rfl,Gy,hM,lB,hB,hF⟩
 let g2:Gh:=⟨fun i=>if i<N then g.μ i else g'.μ (i - N),g.τ,fun p=>g.F p∨∃k cs,nH.lookup k=some cs∧p.block=g'.μ k⟩
 have hμo:∀i,i<N→g2.μ i=g.μ i:=fun i hi=>az hi
 have vU:∀i,g2.μ (N+i)=g'.μ i:=fun i=>by
  show (if N+i<N then _ else g'.μ (N+i - N))=_
  rw[ifn_,Bl]
 have look:∀{j:Nat} {cs:List D},(nH.map (fun p=>(N+p.1,p.2.map (D.renC fun i=>N+i)))++vs).lookup j=some cs→
   (∃i a,N+i=j∧nH.lookup i=some a∧a.map (D.renC fun i=>N+i)=cs)∨(j<N∧vs.lookup j=some cs):=fun {j cs} h=>by
  rcases rU h with h|h
  ·exact .inl (m8 (fun i=>N+i) (fun l:List D=>l.map (D.renC fun i=>N+i)) h)
  ·exact .inr ⟨(hR.var j cs h).1,h⟩
 have hold:∀b,b<w.heap.size→w'.heap[b]? =w.heap[b]? :=hB.block
 have mo:bI ⟨vs,lv,N⟩ g w ⟨nH.map (fun p=>(N+p.1,p.2.map (D.renC fun i=>N+i)))++vs,lv,N+n'⟩ g2 w':=by
  refine⟨hB.size,fun p hp _=>World.cell?_of_block (hold _ hp),fun p hp hf=>?_,n8 _ _,fun k hk=>hμo k hk,fun id _ m e hm=>⟨m,hm,aL _,fun _=>rfl⟩,fun b hb hf=>⟨hold b hb,fun p _ hq=>.inl hq,fun k ds hk=>?_,hf.2⟩,fun b=>.same (hold b)⟩
  ·rcases hf with hf|⟨k,cs,hk,he⟩
   ·exact hf
   ·have:=(Gy.var k cs hk).2.1
    omega
  ·rcases look hk with⟨i,a,rfl,h1,_⟩|⟨h1,h2⟩
   ·rw[vU]
    have:=(Gy.var i a h1).2.1
    omega
   ·rw[hμo k h1];exact hf.1 k ds h2
 refine⟨v,g2,rfl,⟨fun k cs hk=>?_,fun k k' a b hk tj he=>?_,fun id m e hi=>?_,fun id yQ t t' b h1 h2 h3 h4=>hR.tinj id yQ t t' b h1 h2 h3 h4,cU hR.base hB.size,fun p hf=>?_⟩,mo,MD lB hr (fun i hi=>tJ hi N) (fun i _=>vU i),hB.mono hR.base,fun p _ hp=>.inl hp⟩
 ·rcases look hk with⟨i,a,rfl,h1,h2⟩|⟨h1,h2⟩
  ·obtain⟨b1,b2,b3,ys,ty,b4,b5,b6⟩:=Gy.var i a h1
   refine⟨tJ b1 N,by rw[vU];exact cU hR.base b2,fun p hp=>.inr ⟨i,a,h1,by rw[hp,vU]⟩,ys,ty,by rw[vU];exact b4,by rw[←h2,ew];exact b5,fun j u hu=>⟨fun hj=>(b6 j u hu).1 (by rw[←h2,ew] at hj;exact hj),fun d hd=>?_⟩⟩
   rw[←h2,dc] at hd
   obtain⟨d0,h4,rfl⟩:=qj.1 hd
   exact rk ((b6 j u hu).2 d0 h4) (bZ.1 (hvo i a h1) d0 (b8 h4)) (fun i hi=>tJ hi N) (fun i _=>vU i)
  ·have bF:=hR.var_lt h2
   obtain⟨b1,b2,b3,ys,ty,b4,b5,b6⟩:=hR.var k cs h2
   exact⟨bT b1 (n8 _ _),by rw[hμo k h1];exact b2,fun p hp=>.inl (b3 p (by rw[hp,hμo k h1])),ys,ty,by rw[hμo k h1,hold _ bF];exact b4,b5,fun j u hu=>⟨(b6 j u hu).1,fun d hd=>((b6 j u hu).2 d hd).mono mo⟩⟩
 ·rcases look hk with⟨i,x,rfl,h1,_⟩|⟨h1,h2⟩ <;> rcases look tj with⟨i',x',rfl,sJ,_⟩|⟨sJ,rX⟩
  ·rw[vU,vU] at he
   rw[Gy.inj i i' x x' h1 sJ he]
  ·rw[vU,hμo _ sJ] at he
   have h3:=(Gy.var i x h1).2.1
   have h4:=hR.var_lt rX
   omega
  ·rw[vU,hμo _ h1] at he
   have h3:=(Gy.var i' x' sJ).2.1
   have h4:=hR.var_lt h2
   omega
  ·rw[hμo _ h1,hμo _ sJ] at he
   exact hR.inj k k' a b h2 rX he
 ·obtain⟨b1,ys,b2,b3,b4⟩:=hR.tok id m e hi
  refine⟨bT b1 (n8 _ _),ys,b2,⟨b3.1,?_⟩,fun b hb=>⟨fun p hp hq=>.inl ((b4 b hb).1 p hp hq),fun k cs hk=>?_⟩⟩
  ·rcases b3.2 with h0|⟨b,cap,cur,hv,hBb,hh,r⟩
   ·exact .inl h0
   ·exact .inr ⟨b,cap,cur,hv,hBb,(hold b (gH.1 hh).1).trans hh,r⟩
  ·have hblt:b<w.heap.size:=by
    rcases b3.2 with⟨h0,_⟩|⟨b',cap,cur,hv,hBb,hh,r⟩
    ·rw[show g2.τ id=g.τ id from rfl,h0] at hb;simp[Value.ownBlock] at hb
    ·rw[show g2.τ id=g.τ id from rfl,hv] at hb
     simp[Value.ownBlock] at hb
     subst hb
     exact (gH.1 hh).1
   rcases look hk with⟨i,x,rfl,h1,_⟩|⟨h1,h2⟩
   ·rw[vU]
    have:=(Gy.var i x h1).2.1
    omega
   ·rw[hμo _ h1];exact (b4 b hb).2 k cs h2
 ·rcases hf with hf|⟨k,cs,hk,he⟩
  ·exact bT (hR.fits p hf) hB.size
  ·obtain⟨_,_,_,ys,ty,b4,_⟩:=Gy.var k cs hk
   rw[he];exact (gH.1 b4).1
def qq(x:Cx)(d:D)(hp:Hp)(d':D)(hp':Hp):Prop:=∀(g:Gh) (w:World) (v:Value),HR x.B hp g w→aM hp g w d v→bI x.hp0 x.g0 x.w0 hp g w→Below x.B x.w0 w→(∀p:Addr,p.block<x.B→x.F0 p→g.F p)→∃g',HR x.B hp' g' w∧aM hp' g' w d' v∧bI x.hp0 x.g0 x.w0 hp' g' w∧∀p:Addr,p.block<x.B→x.F0 p→g'.F p
theorem qq.of_wk {x:Cx}{d d':D}{hp hp':Hp}(hN:0<x.N)(hw:Wk x [(0,d)] hp [(0,d')] hp'):qq x d hp d' hp':=by
 intro g w v hr hd hM hB hF
 have hrs:RS x [(0,d)] hp {tmps:=(Array.replicate x.N undef).setIfInBounds 0 v,defers:=x.df} w:=by
  refine⟨g,hr,fun t d2 ht=>?_,by simp,rfl,hB,hF,hM⟩
  by_cases h0:t=0
  ·subst h0
   have:some d=some d2:=by rw[←ht];exact ai.symm
   injection this with this
   subst this
   have:((Array.replicate x.N undef).setIfInBounds 0 v).getD 0 undef=v:=by simp[cP,hN]
   dsimp only
   rw[this];exact hd
  ·rw[ar h0] at ht;cases ht
 obtain⟨g',h1,h2,_,_,_,h3,h4⟩:=hw _ _ hrs
 refine⟨g',h1,?_,h4,h3⟩
 have:=h2 0 d' ai
 have e:((Array.replicate x.N undef).setIfInBounds 0 v).getD 0 undef=v:=by simp[cP,hN]
 dsimp only at this
 rwa[e] at this
theorem qq.of_wk2 {x:Cx}{d d' e e':D}{hp hp':Hp}(hN:1<x.N)(hw:Wk x [(0,d),(1,e)] hp [(0,d'),(1,e')] hp'):qq x (.tu [d,e]) hp (.tu [d',e']) hp':=by
 intro g w v hr hd hM hB hF
 cases hd with
 |tu _ cs hl Fe=>
  have vZ:cs.size=2:=hl
  have c0:cs[0]? =some cs[0]:=lY (by omega)
  have c1:cs[1]? =some cs[1]:=lY (by omega)
  have t0:((((Array.replicate x.N undef).setIfInBounds 0 cs[0]).setIfInBounds 1 cs[1]).getD 0 undef)=cs[0]:=by
   have:0<x.N:=by omega
   rw[cP,By (by decide)]
   simp[this]
  have t1:((((Array.replicate x.N undef).setIfInBounds 0 cs[0]).setIfInBounds 1 cs[1]).getD 1 undef)=cs[1]:=by
   simp[cP,hN]
  have hrs:RS x [(0,d),(1,e)] hp {tmps:=((Array.replicate x.N undef).setIfInBounds 0 cs[0]).setIfInBounds 1 cs[1],defers:=x.df} w:=by
   refine⟨g,hr,fun t d2 ht=>?_,by simp,rfl,hB,hF,hM⟩
   by_cases h0:t=0
   ·subst h0
    have:some d=some d2:=by rw[←ht];exact ai.symm
    injection this with this
    subst this
    dsimp only
    rw[t0]
    exact Fe 0 d _ rfl c0
   ·rw[ar h0] at ht
    by_cases h1:t=1
    ·subst h1
     have:some e=some d2:=by rw[←ht];exact ai.symm
     injection this with this
     subst this
     dsimp only
     rw[t1]
     exact Fe 1 e _ rfl c1
    ·rw[ar h1] at ht;cases ht
  obtain⟨g',h1,h2,_,_,_,h3,h4⟩:=hw _ _ hrs
  have k0:=h2 0 d' ai
  have k1:=h2 1 e' ((ar (by decide)).trans ai)
  dsimp only at k0 k1
  rw[t0] at k0
  rw[t1] at k1
  refine⟨g',h1,.tu _ cs hl fun j dj u hj hu=>?_,h4,h3⟩
  match j,hj,hu with
  |0,hj,hu=>
   have e1:some d'=some dj:=hj
   injection e1 with e1
   rw[c0] at hu
   injection hu with hu
   rw[←e1,←hu];exact k0
  |1,hj,hu=>
   have e1:some e'=some dj:=hj
   injection e1 with e1
   rw[c1] at hu
   injection hu with hu
   rw[←e1,←hu];exact k1
  |n+2,hj,hu=>cases hj
theorem HC.ofX {P : Program} {tb : TypeId → Option TyE} (tok : TOk P tb) {f : FuncId} {fn : Func} {c : Code} {ds : List D} {hp hp' : Hp} {r : D} {rs : List ResultVar} (hf : P.funcs[f]? = some fn) (hb : fn.body = some c) (rt : (fn.name == "runtime.NumGoroutine") = false) (hN : ds.length ≤ fn.ntmps) (hrs : fn.results.toList = rs)
  (h:∀x:Cx,x.N=fn.ntmps→x.hp0=hp→AW P x c (ee 0 ds) hp fun ex tm bG=>match ex with| .normal| .ret=>∃d,vL tb rs tm bG d∧qq x d bG r hp'|_=>False):HC P f ds hp r hp':=by
 subst hrs
 refine⟨⟨fn,hf,rt,by rw[hb];rfl⟩,fun B g w vs hr hsz tX=>?_⟩
 refine calls_of_wp hf hb ?_
 have AD:RS ⟨B,w,g.F,fn.ntmps,hp,g,[]⟩ (ee 0 ds) hp {tmps:=vs++Array.replicate (fn.ntmps - vs.size) undef,defers:=[]} w:=by
  refine⟨g,hr,fun t d ht=>?_,by simp;omega,rfl,Below.refl _ _,fun _ _ h=>h,bI.refl _ _ _⟩
  obtain⟨_,h2⟩:=nB ht
  have bF:t<ds.length:=by
   rw[Bx] at h2
   rcases ci t ds.length with hh|hh
   ·exact hh
   ·rw[jv hh] at h2;cases h2
  have hv:vs[t]? =some vs[t]:=lY (by omega)
  have:=tX t d vs[t] (by simpa using h2) hv
  have he:(vs++Array.replicate (fn.ntmps - vs.size) undef).getD t undef=vs[t]:=by
   rw[cP,yp (by omega),hv];rfl
  rw[he]
  exact this
 refine wp_mono (h ⟨B,w,g.F,fn.ntmps,hp,g,[]⟩ rfl rfl _ _ AD) ?_
 rintro ex a' w' ⟨tm',bG,h1,h2⟩
 have fin:(∃d,vL tb fn.results.toList tm' bG d∧qq ⟨B,w,g.F,fn.ntmps,hp,g,[]⟩ d bG r hp')→a'.defers=[]∧∃v,(results fn a'.tmps).run P w'=.ok v w'∧∃v' g',Ending.returned v=.returned v'∧HR B hp' g' w'∧bI hp g w hp' g' w'∧aM hp' g' w' r v'∧Below B w w'∧∀p:Addr,p.block<B→g.F p→g'.F p:=by
  rintro⟨d,H8,hend⟩
  obtain⟨g1,oN,ia,_,q7,hB,hF,hM⟩:=h1
  obtain⟨v,bK,lB⟩:=sx (x:=⟨B,w,g.F,fn.ntmps,hp,g,[]⟩) tok rfl H8 oN ia
  obtain⟨g',h3,h4,h5,h6⟩:=hend g1 w' v oN lB hM hB hF
  exact⟨q7,v,bK,v,g',rfl,h3,h5,h4,hB,h6⟩
 cases ex with
 |normal=>exact fin h2
 |ret=>exact fin h2
 |_=>cases h2
end
section
theorem ARs.nil {hp:Hp}:ARs hp [] []:=trivial
theorem ARs.cons {hp:Hp}{d e:D}{ds es:List D}(h:AR hp d e)(hl:ARs hp ds es):ARs hp (d::ds) (e::es):=⟨h,hl⟩
class w7 {α:Type} (c:Cd α):Prop where
 h:∀x,(c.f x).all E.isLit=true
theorem w7.l {α:Type}(c:Cd α)(l:List α)[w7 c]:(l.flatMap c.f).all E.isLit=true:=by
 rw[List.all_flatMap,bZ]
 exact fun x _=>w7.h x
instance(k:IntKind):w7 (cI k):=⟨fun _=>rfl⟩
instance:w7 cS:=⟨fun _=>rfl⟩
instance:w7 cB:=⟨fun _=>rfl⟩
instance {α:Type}(n:Nat)(c:Cd α)[w7 c]:w7 (cA n c):=⟨fun x=>w7.l c x.toList⟩
theorem MB {xs:List E}(ρ:Nat→Nat):(dC xs).map (D.renC ρ)=dC xs:=by
 unfold dC
 rw[mz]
 exact oX fun x _=>rfl
theorem MC {xs:List E}(h:xs.all E.isLit=true):(dC xs).all D.refC=true:=by
 unfold dC
 rw[Bw,bZ]
 intro y hy
 have:=bZ.1 h y hy
 cases y with
 |lit u=>rfl
 |_=>cases this
section
variable {md:Md} {ops:Array Oper} {K:List (Nat×D)→Hp→Prop} {os:List Oper} {tm:List (Nat×D)} {hp hp':Hp} {t s:Tmp} {op:Op} {ty:TypeId} {pos:String} {af:Array Edge} {d d2:D} {j:Nat} {want c:Bool}
theorem sC0 {x:Operand}{f:FuncId}{la:List Operand}{ts:Array TypeId}{dsE:List D}{r:D}{xs:List E}{vs:List (Nat×List D)}{lv:List (Nat×Nat×Nat×TypeId)}{N q:Nat}(hc:HC prog f dsE ⟨[],[],0⟩ r ⟨[(q,dC xs)],[],q+1⟩)(ha:ARs ⟨vs,lv,N⟩ (la.map (evD tm)) dsE)(hx:xs.all E.isLit=true)(h2:bB prog tbl md ops K os ((t,d)::tm) hp')(hr:r.ref2=true:=by exact rfl)(hd:r.ren2 (fun i=>N+i)=d:=by exact rfl)(hh:(⟨(N+q,dC xs)::vs,lv,N+(q+1)⟩:Hp)=hp':=by exact rfl)(vd:evD tm x=.e (.lit (.func (.func f) #[] #[])):=by exact rfl)(hn:md.nc tbl (.call ⟨.value x,la.toArray,ts⟩)=true:=by exact rfl):
  bB prog tbl md ops K (⟨some t,.call ⟨.value x,la.toArray,ts⟩,ty,pos,af,none⟩::os) tm ⟨vs,lv,N⟩:=by
 subst hd hh
 have h:=HC.frame0R (vs:=vs) (lv:=lv) (N:=N) hc ha hr (fun k cs hk=>by
  by_cases h0:k=q
  ·subst h0
   rw[ai] at hk
   injection hk with hk
   subst hk
   exact MC hx
  ·rw[ar h0] at hk;cases hk)
 rw[cp,dh,MB] at h
 exact FI rfl (sHC h rfl (.inr ⟨n8 _ _,fun j hj=>ar (Nat.ne_of_lt (bT hj (n8 _ _)))⟩) vd hn) h2
variable {x:Cx} {Q:Exit→List (Nat×D)→Hp→Prop}
end
end
instance:w7 ap:=⟨fun x=>by unfold ap;simp only[sj,jy,fO,E.isLit,w7.h,dX,G1]⟩
instance:w7 aj:=⟨fun x=>by unfold aj;simp only[sj,jy,fO,E.isLit,w7.h,dX,G1]⟩
theorem pG0 {α:Type}(c:Cd α)(a:α)(l:List E){z:Nat}(h:c.sz=z):((c.f a++l).drop 0).take z=c.f a:=by
 have hl:(c.f a).length=z:=(c.h a).trans h
 rw[qg,zc (by omega),jD (by omega)]
theorem pG1 {α β:Type}(c:Cd α)(a:α)(k:Cd β)(b:β){o z:Nat}(h:c.sz=o)(h2:k.sz=z):((c.f a++k.f b).drop o).take z=k.f b:=by
 have hl:(c.f a).length=o:=(c.h a).trans h
 have hk:(k.f b).length=z:=(k.h b).trans h2
 rw[←hl,qU,jD (by omega)]
def a5:Cd Nu:=⟨36,fun x=>aj.f x.1,fun x=>aj.h x.1⟩
theorem w_Mul(x y:Nu):aC prog 40 [dG a5 x,dG a5 y] (dG a5 (nI x y)):=by rw[wq];exact mF (Je x.2 y.2)
theorem w_Sub(x y:Nu):aC prog 146 [dG a5 x,dG a5 y] (dG a5 (zq x y)):=by rw[F3];exact Fw (G_osub x.2 y.2)
theorem w_Div(x y:Nu):aC prog 144 [dG a5 x,dG a5 y] (dG a5 (u5 x y)):=by rw[F5];exact Fx (G_odiv x.2 y.2)
theorem Ma(x:Nu):aC prog 42 [dG a5 x] (dI .i64 (kY x)):=by rw[xD];exact rK (Ps x.2)
theorem w_Good(x:Nu):aC prog 41 [dG a5 x] (dB (aR x)):=by rw[fk];exact eK (kL x.2)
def nv(x:Nu):ak:=x.1
section
theorem pY(a:Nu):(dC (a5.f a)).length=36:=by rw[gW,a5.h];rfl
section
variable {dr:Bool} {ty:TypeId} {ev:Operand→D} {hp hp':Hp} {k o:Nat} {F F2:List D} {F':List D→List D} {x y:Operand} {a b:Nu}
theorem ldN(L:Pt F o (dC (a5.f a)) F')(hv:hp.vars.lookup k=some F)(hk:k<hp.next)(hx:ev x=.pt k o:=by exact rfl):AVC prog tbl dr (.load 34 x) ty ev hp (Kq (dG a5 a) hp):=T_ldP L hv hk aA (pY a) rfl hx
theorem stN(L:Pt F o (dC (a5.f a)) F')(hv:hp.vars.lookup k=some F)(h2:F' (dC (a5.f b))=F2)(hx:ev x=.pt k o:=by exact rfl)(hy:ev y=dG a5 b:=by exact rfl)(he:hp.set k F2=hp':=by exact rfl):AVC prog tbl dr (.store 34 x y) ty ev hp (Kq .top hp'):=
 O7 (ys:=dC (a5.f b)) L hv (by rw[hy];rfl) aA (pY a) (by rw[pY,pY]) h2 hx he
theorem Pt.idN(a:Nu):Pt (dC (a5.f a)) 0 (dC (a5.f a)) id:=Pt.of [] [] rfl (by simp) (fun y=>by simp)
end
section
variable {vs sT og:List (Nat×List D)} {lv:List (Nat×Nat×Nat×TypeId)} {N n2 k:Nat}
theorem eY.lt(hok:eY ⟨vs,lv,N⟩){ds:List D}(h:vs.lookup k=some ds):k<N:=(hok.var k ds h).1
theorem eY.ne(hok:eY ⟨vs,lv,N⟩){ds:List D}(h:vs.lookup k=some ds){m:Nat}(hm:N≤m):k≠m:=by have:=hok.lt h;omega
theorem am {j m:Nat}{b:List D}{l:List (Nat×List D)}{r:Option (List D)}(hj:j≠m)(h:l.lookup j=r):((m,b)::l).lookup j=r:=(ar hj).trans h
theorem nY(l:List E):(dC l).all (D.idsC N)=true:=A8 (fun _=>rfl) l
theorem eY.cons {M:Nat}{ds:List D}(hok:eY ⟨vs,lv,N⟩)(hN:N≤M)(hk:k<M)(hd:ds.all (D.idsC M)=true):eY ⟨(k,ds)::vs,lv,M⟩:=by
 refine⟨fun j es h=>?_,fun id e h=>bT (hok.tok id e h) hN⟩
 by_cases hj:j=k
 ·subst hj
  have:some ds=some es:=by rw[←h];exact ai.symm
  injection this with this
  subst this
  exact⟨hk,hd⟩
 ·obtain⟨h1,h2⟩:=hok.var j es (by rw[←h];exact (ar hj).symm)
  exact⟨bT h1 hN,bZ.2 fun d hd=>D.idsC_le hN (bZ.1 h2 d hd)⟩
def od(n:Nat)(tm tm':List (Nat×D)):Prop:=∀p∈tm',(∃d,tm.lookup p.1=some d∧(p.2=d∨p.2=d.ex))∧p.2.idsB n=true
theorem od.nil {n:Nat}{tm:List (Nat×D)}:od n tm []:=fun p hp=>absurd hp (vB)
theorem od.cons {n t:Nat}{d:D}{tm tm':List (Nat×D)}(h2:od n tm tm')(h:tm.lookup t=some d:=by exact rfl)(hi:d.idsB n=true:=by exact rfl):od n tm ((t,d)::tm'):=fun p hp=>by
 rcases jx.1 hp with rfl|hp
 ·exact⟨⟨d,h,.inl rfl⟩,hi⟩
 ·exact h2 p hp
theorem wkS {x:Cx}{tm tm':List (Nat×D)}{n':Nat}(h0:x.hp0.next≤n')(hn:n'≤n2)(hok:eY ⟨og,lv,n'⟩)(hv:∀j ds,og.lookup j=some ds→sT.lookup j=some ds)(ht:od n' tm tm'):Wk x tm ⟨sT,lv,n2⟩ tm' ⟨og,lv,n'⟩:=
 Wk.look h0 hn ht (fun j ds h=>⟨(hok.var j ds h).1,ds,hv j ds h,q8 _,(hok.var j ds h).2⟩) fun id y h=>⟨hok.tok id y h,h⟩
theorem Ga {j:Nat}{a b:List D}{l:List (Nat×List D)}:((k,b)::(k,a)::l).lookup j=((k,b)::l).lookup j:=by
 by_cases hj:j=k
 ·subst hj;rw[ai,ai]
 ·rw[ar hj,ar hj,ar hj]
theorem dE {j a:Nat}{x ds:List D}{l:List (Nat×List D)}(h:((a,x)::l).lookup j=some ds):(j=a∧ds=x)∨(j≠a∧l.lookup j=some ds):=by
 by_cases hj:j=a
 ·subst hj
  have:some x=some ds:=by rw[←h];exact ai.symm
  injection this with this
  exact .inl ⟨rfl,this.symm⟩
 ·exact .inr ⟨hj,by rw[←h];exact (ar hj).symm⟩
theorem Pt.elN(l:List Nu)(i:Nat)(h:i<l.length):Pt (dC ((cW a5).f l)) (0+i*36) (dC (a5.f l[i]!)) (fun ys=>(dC ((cW a5).f l)).take (0+i*36)++ys++(dC ((cW a5).f l)).drop (0+i*36+36)):=by
 have L:=ao.seqW a5 l i h
 have e:a5.sz=36:=rfl
 rw[e] at L
 refine⟨?_,?_,fun ys hy=>by rw[pY]⟩
 ·have:=L.le
  rw[pY,gW];exact this
 ·have:=L.g
  rw[pY]
  unfold dC
  rw[←yo,←vA]
  exact congrArg _ this
theorem Pt.elN_set(l:List Nu)(i:Nat)(h:i<l.length)(b:Nu):(dC ((cW a5).f l)).take (0+i*36)++dC (a5.f b)++(dC ((cW a5).f l)).drop (0+i*36+36)=dC ((cW a5).f (l.set i b)):=by
 have L:=ao.seqW a5 l i h
 have e:a5.sz=36:=rfl
 rw[e] at L
 have:=L.p b
 rw[e] at this
 unfold dC
 rw[←vA,←yo,←mg,←mg]
 exact congrArg _ this
end
end
theorem na {t:Nat}(h:t<9223372036854775807:=by omega):i64.wrap ((t:Int)+1)=((t+1:Nat):Int):=by
 rw[qw (by omega) (by omega)];omega
def zN:List E:=(List.replicate 2 (E.lit (.bool false))++List.replicate 16 (E.lit (.int .u32 0)))++(List.replicate 2 (E.lit (.bool false))++List.replicate 16 (E.lit (.int .u32 0)))
theorem T_alN {dr:Bool}{ty:TypeId}{ev:Operand→D}{vs:List (Nat×List D)}{lv:List (Nat×Nat×Nat×TypeId)}{N:Nat}:AVC prog tbl dr (.alloc 34) ty ev ⟨vs,lv,N⟩ (Kq (.pt N 0) ⟨(N,dC zN)::vs,lv,N+1⟩):=bp aA
theorem Pt.zN:Pt (dC zN) 0 (dC zN) id:=Pt.of [] [] rfl (by simp) (fun y=>by simp)
theorem stZ {dr:Bool}{ty:TypeId}{ev:Operand→D}{hp hp':Hp}{k:Nat}{x y:Operand}{b:Nu}(hv:hp.vars.lookup k=some (dC zN))(hx:ev x=.pt k 0:=by exact rfl)(hy:ev y=dG a5 b:=by exact rfl)(he:hp.set k (dC (a5.f b))=hp':=by exact rfl):AVC prog tbl dr (.store 34 x y) ty ev hp (Kq .top hp'):=
 O7 (ys:=dC (a5.f b)) Pt.zN hv (by rw[hy];rfl) aA rfl (by rw[pY];rfl) rfl hx he
theorem Pt.el(l:List Nu)(i:Nat)(h:i<l.length):Pt (dC ((cW a5).f l)) (i*36) (dC (a5.f l[i]!)) (fun ys=>(dC ((cW a5).f l)).take (i*36)++ys++(dC ((cW a5).f l)).drop (i*36+36)):=by
 have:=Pt.elN l i h
 rwa[br] at this
theorem Pt.el_set(l:List Nu)(i:Nat)(h:i<l.length)(b:Nu):(dC ((cW a5).f l)).take (i*36)++dC (a5.f b)++(dC ((cW a5).f l)).drop (i*36+36)=dC ((cW a5).f (l.set i b)):=by
 have:=Pt.elN_set l i h b
 rwa[br] at this
section
section
variable {hp:Hp}
theorem AR.list {k n:Nat}{l:List Nu}(hv:hp.vars.lookup k=some (dC ((cW a5).f l)))(hl:l.length=n):AR hp (.ow k 0 36 n) (.e (slE a5 l)):=by
 subst hl
 have hlen:((cW a5).f l).length=l.length*36:=jC a5.f a5.h l
 have:=AR.sl (off:=0) hv (n:=l.length) (z:=36) (by omega) (by omega)
 rw[qg,jD (by omega)] at this
 exact this
end
end
def py(bn:Int)(nE:Int):Option (Int×Int):=bnd (some (u64.wrap ((Gk .u64 bn (4294967295:Int))*(Gk .u64 nE (4294967295:Int))))) fun x1=>bnd (some (u64.wrap ((u64.wrap ((lf .u64 bn (32:Int))*(Gk .u64 nE (4294967295:Int))))+(lf .u64 x1 (32:Int))))) fun x3=>bnd (some (u64.wrap ((Gk .u64 x3 (4294967295:Int))+(u64.wrap ((Gk .u64 bn (4294967295:Int))*(lf .u64 nE (32:Int))))))) fun x5=>bnd (some (u64.wrap ((u64.wrap ((u64.wrap ((lf .u64 bn (32:Int))*(lf .u64 nE (32:Int))))+(lf .u64 x3 (32:Int))))+(lf .u64 x5 (32:Int))))) fun x7=>some (x7,u64.wrap (bn*nE))
theorem DD {bn:Int}{nE:Int}{r:Int×Int}(h:py bn nE=some r):aC prog 156 [dI .u64 bn,dI .u64 nE] (.tu [dI .u64 r.1,dI .u64 r.2]):=by
 refine bQ (rs:=[.tmp 4,.tmp 5]) (fun cx hx h0=>?_) func156
 unfold py at h
 iterate 5 refine ra hx ?_
 refine rs hx fun K hK=>?_
 iterate 3 refine sa ?_
 obtain⟨x1,zw,h⟩:=ah h
 replace zw:=cv zw
 refine s2 (d2:=dI .u64 x1) kO (fR (congrArg (dI .u64) zw)) ?_
 refine .nil (hK _ _ (rs hx fun K hK=>?_))
 iterate 6 refine sa ?_
 obtain⟨x3,xQ,h⟩:=ah h
 replace xQ:=cv xQ
 refine s2 (d2:=dI .u64 x3) kO (fR (congrArg (dI .u64) xQ)) ?_
 refine .nil (hK _ _ ?_)
 iterate 2 refine ra hx ?_
 refine rs hx fun K hK=>?_
 iterate 5 refine sa ?_
 obtain⟨x5,D5,h⟩:=ah h
 replace D5:=cv D5
 refine s2 (d2:=dI .u64 x5) kO (fR (congrArg (dI .u64) D5)) ?_
 refine .nil (hK _ _ (rs hx fun K hK=>?_))
 iterate 8 refine sa ?_
 obtain⟨x7,zu,h⟩:=ah h
 replace zu:=cv zu
 refine s2 (d2:=dI .u64 x7) kO (fR (congrArg (dI .u64) zu)) ?_
 refine .nil (hK _ _ (ra hx ?_))
 refine AW.ret ?_
 cases h
 exact rv2
def sb(bn:Int)(nE:Int):Option (Int×Int):=bnd (py bn nE) fun x1=>some (x1.1,x1.2)
theorem Hr {bn:Int}{nE:Int}{r:Int×Int}(h:sb bn nE=some r):aC prog 122 [dI .u64 bn,dI .u64 nE] (.tu [dI .u64 r.1,dI .u64 r.2]):=by
 refine bQ (rs:=[.tmp 4,.tmp 5]) (fun cx hx h0=>?_) func122
 unfold sb at h
 refine ra hx ?_
 refine AW.seq (AW.condF rfl rfl (AW.skip (rs hx fun K hK=>?_)))
 iterate 2 refine sa ?_
 refine scb h DD fun x1 h=>?_
 iterate 5 refine sa ?_
 refine .nil (hK _ _ (ra hx ?_))
 refine AW.ret ?_
 cases h
 exact rv2
theorem Ng {m:Nat}(h:m<4294967296):Gk .u64 (m:Int) (4294967295:Int)=(m:Int):=by
 have h1:(BitVec.ofInt 64 (m:Int) &&&BitVec.ofInt 64 (4294967295:Int)).toNat=m:=by
  have a:(BitVec.ofInt 64 (m:Int)).toNat=m:=by
   rw[BitVec.ofInt_natCast,BitVec.toNat_ofNat];omega
  have b:(BitVec.ofInt 64 (4294967295:Int)).toNat=2 ^ 32 - 1:=by decide
  rw[BitVec.toNat_and,a,b,Nat.and_two_pow_sub_one_eq_mod];omega
 show u64.wrap (((BitVec.ofInt 64 (m:Int) &&&BitVec.ofInt 64 (4294967295:Int)).toNat:Nat):Int)=m
 rw[h1]
 exact gK
theorem mul1 {n:Nat}(h:n≤1000000):sb (u64.wrap 1) (u64.wrap (n:Int))=some (0,(n:Int)):=by
 have e1:u64.wrap 1=((1:Nat):Int):=gK (n:=1) (by omega)
 have a1:=Ng (m:=1) (by omega)
 have a2:=Ng (m:=n) (by omega)
 have s1:=uy 1
 have s2:=uy n
 have m1:(1:Nat) / 4294967296=0:=rfl
 have m2:n / 4294967296=0:=dt (by omega)
 rw[m1] at s1
 rw[m2] at s2
 have z0:u64.wrap ((0:Nat):Int)=((0:Nat):Int):=gK (n:=0) (by omega)
 have zn:u64.wrap (n:Int)=(n:Int):=gK
 have i0:Gk .u64 ((0:Nat):Int) (4294967295:Int)=((0:Nat):Int):=Ng (m:=0) (by omega)
 have h0:lf .u64 ((0:Nat):Int) (32:Int)=((0:Nat):Int):=uy 0
 rw[e1,zn]
 unfold sb py
 rw[a1,a2,s1,s2]
 simp only[bnd,Bv]
 have p1:((1:Nat):Int)*(n:Int)=(n:Int):=by omega
 have p2:((0:Nat):Int)*(n:Int)=((0:Nat):Int):=by omega
 have p3:((1:Nat):Int)*((0:Nat):Int)=((0:Nat):Int):=by omega
 have p4:((0:Nat):Int)*((0:Nat):Int)=((0:Nat):Int):=by omega
 have p5:((0:Nat):Int)+((0:Nat):Int)=((0:Nat):Int):=by omega
 rw[p1,p2,p3,p4,zn,z0,s2,p5,z0,i0,p5,z0,h0,p5,z0,p5,z0]
 rfl
section
def vh(a:Nu)(n s:Nat):List Nu:=List.replicate s a++List.replicate (n - s) default
theorem A9 {a:Nu}{n s:Nat}(h:s≤n):(vh a n s).length=n:=by
 unfold vh;rw[eT,uN,uN];omega
theorem cont_cp {a:Nu}{n s:Nat}(h:s≤n):lCp (vh a n s) s (((((vh a n s).drop 0).take s)).take (n - s))=vh a n (s+min s (n - s)):=by
 have h1:((vh a n s).drop 0).take s=List.replicate s a:=by
  unfold vh
  rw[qg,zc (by simp),jD (by simp)]
 rw[h1,List.take_replicate]
 unfold lCp
 rw[uN]
 unfold vh
 rw[zc (by simp),jD (by simp),OY,uN,Bk (by simp),ph,List.drop_replicate]
 rw[List.replicate_append_replicate,Nat.min_comm,show n - s - (s+min s (n - s) - s)=n - (s+min s (n - s)) by omega]
theorem wkS2 {x:Cx}{tm tm':List (Nat×D)}{sT og:List (Nat×List D)}{lv B1:List (Nat×Nat×Nat×TypeId)}{n' n2:Nat}(h0:x.hp0.next≤n')(hn:n'≤n2)(hok:eY ⟨og,lv,n'⟩)(hv:∀j ds,og.lookup j=some ds→sT.lookup j=some ds)(hl:∀j y,lv.lookup j=some y→B1.lookup j=some y)(ht:od n' tm tm'):Wk x tm ⟨sT,B1,n2⟩ tm' ⟨og,lv,n'⟩:=
 Wk.look h0 hn ht (fun j ds h=>⟨(hok.var j ds h).1,ds,hv j ds h,q8 _,(hok.var j ds h).2⟩) fun id y h=>⟨hok.tok id y h,hl id y h⟩
section
variable {md:Md} {dst:Option Tmp} {ty:TypeId} {pos:String} {af:Array Edge} {gd:Option (Nat×Bool)} {ev:Operand→D} {hp:Hp} {k s n:Nat} {x y:Operand}
theorem slT(h:s<n)(hx:ev x=.ow k 0 36 n:=by exact rfl)(hy:ev y=dI .i64 (s:Int):=by exact rfl):mD prog tbl md ⟨dst,.slice 22 x (some y) none none,ty,pos,af,gd⟩ ev hp (.ow k (s*36) 36 (n - s)) hp:=by
 have:=slW (P:=prog) (tb:=tbl) (md:=md) (dst:=dst) (ty2:=ty) (pos:=pos) (af:=af) (gd:=gd) (ev:=ev) (hp:=hp) (x:=x) (lo:=some y) (hi:=none) (l:=(s:Int)) (h:=(n:Int)) tok ⟨by omega,by omega,by omega,by omega⟩ aP aA ⟨.i64,hy⟩ rfl rfl hx rfl
 rw[show ((n:Int) - (s:Int)).toNat=n - s by omega,bL,br] at this
 exact this
theorem slHd(h:s≤n)(h0:0<n)(hx:ev x=.ow k 0 36 n:=by exact rfl)(hy:ev y=dI .i64 (s:Int):=by exact rfl):mD prog tbl md ⟨dst,.slice 22 x none (some y) none,ty,pos,af,gd⟩ ev hp (.ow k (0*36) 36 s) hp:=by
 have:=slW (P:=prog) (tb:=tbl) (md:=md) (dst:=dst) (ty2:=ty) (pos:=pos) (af:=af) (gd:=gd) (ev:=ev) (hp:=hp) (x:=x) (lo:=none) (hi:=some y) (l:=(0:Int)) (h:=(s:Int)) tok ⟨by omega,by omega,by omega,by omega⟩ aP aA rfl ⟨.i64,hy⟩ rfl hx rfl
 rw[show ((s:Int) - 0).toNat=s by omega,br] at this
 exact this
end
section
variable {vs:List (Nat×List D)} {lv:List (Nat×Nat×Nat×TypeId)} {N n:Nat} {a:Nu}
theorem Ob(hn:n≤1000000):HC prog 77 [.e (slE a5 [a]),dI .i64 n] ⟨vs,lv,N⟩ (.ow (N+1) 0 36 n) ⟨(N+1,dC ((cW a5).f (List.replicate n a)))::vs,lv,N+1+1⟩:=by
 refine HC.of (rs:=[.tmp 4]) tok func77 rfl rfl (bg rfl) rfl (fun cx hx h0 hok=>?_)
 simp only[ee,Nat.reduceAdd,br]
 refine rs hx fun K hK=>?_
 refine s1 (d:=dO N a5 ([]:List Nu)) (ek aP aA) ?_
 refine .nil (hK _ _ (AW.seq (rs hx fun K hK=>?_)))
 iterate 2 refine sa ?_
 refine .nil (hK _ _ (AW.condF rfl (def_) (AW.skip (rs hx fun K hK=>?_))))
 iterate 5 refine sa ?_
 refine cq (Hr (mul1 hn)) ?_
 iterate 5 refine sa ?_
 refine .nil (hK _ _ (AW.seq (rs hx fun K hK=>?_)))
 iterate 3 refine sa ?_
 iterate 2 refine ga (show decide ((0:Int)<0)=false by decide) ?_
 refine s1 (au (show decide ((0:Int)<0)=false by decide)) ?_
 refine .nil (hK _ _ (AW.condF rfl (def_) (AW.skip (rs hx fun K hK=>?_))))
 iterate 2 refine sa ?_
 rw[qw (show -9223372036854775808≤(n:Int) by omega) (by omega)]
 refine q1 (sMk (c:=a5) (z0:=default) (v:=(n:Int)) tok ⟨by omega,by omega⟩ aP aA rfl) ?_
 rw[bL]
 refine sa ?_
 refine .nil (hK _ _ ?_)
 have Np:tO ⟨(N+1,dC ((cW a5).f (List.replicate n default)))::vs,(N,0,36,34)::lv,N+1+1⟩ (.e (slE a5 [a])) 36 1 ([a].flatMap a5.f):=tO.dat rfl (by simp[a5.h];rfl)
 refine rs hx fun K hK=>?_
 iterate 2 refine sa ?_
 refine q1 (sCpW (c:=a5) (l:=List.replicate n default) (s:=[a]) (m:=1) (n:=n) tok aP aA Np rfl ai 0 (by simp) rfl) ?_
 refine sa ?_
 refine .nil (hK _ _ ?_)
 have hc0:lCp (List.replicate n (default:Nu)) 0 ([a].take n)=vh a n (min 1 n):=by
  cases n with
  |zero=>rfl
  |succ n=>
   unfold lCp vh
   rw[show min 1 (n+1)=1 by omega]
   simp[List.replicate_succ]
 rw[hc0]
 have hokA:∀l:List Nu,eY ⟨(N+1,dC ((cW a5).f l))::vs,lv,N+1+1⟩:=fun l=>hok.cons (by omega) (dY _) (nY _)
 have hNlv:∀j y,lv.lookup j=some y→((N,0,36,34)::lv).lookup j=some y:=fun j y h=>(ar (by have:=hok.tok j y h;have h2:j<N:=this;omega)).trans h
 refine AW.seq (AW.block (AW.loopW (fun s:Nat=>[(7,.ow (N+1) 0 36 n),(8,dI .i64 s)]) (fun s=>⟨(N+1,dC ((cW a5).f (vh a n s)))::vs,lv,N+1+1⟩) (fun s=>s≤n∧(0<n→0<s)) (fun s=>n - s) (min 1 n) ?_ ⟨by omega,by omega⟩ ?_))
 ·exact wkS2 (by rw[h0];show N≤N+1+1;omega) (aL _) (hokA _) (fun j ds h=>by rw[Ga];exact h) hNlv (od.cons (t:=7) (d:=.ow (N+1) 0 36 n) (od.cons (t:=8) (d:=dI .i64 (min 1 n:Nat)) od.nil rfl rfl) rfl (dU (dY _)))
 ·rintro s ⟨hsn,hs0⟩
  refine AW.seq (rs hx fun K hK=>?_)
  iterate 4 refine sa ?_
  refine .nil (hK _ _ (AW.condS rfl (fun hb=>?_) (fun hb=>?_)))
  ·have bF:s<n:=by have:=pi hb;omega
   have hs1:0<s:=hs0 (by omega)
   refine AW.skip (AW.block (rqd [] hx fun K hK=>?_))
   iterate 3 refine sa ?_
   refine q1 (slT bF) ?_
   iterate 2 refine sa ?_
   refine q1 (slHd (by omega) (by omega)) ?_
   refine q1 (sCpW (c:=a5) (l:=vh a n s) (s:=((vh a n s).drop 0).take s) (m:=s) (n:=n - s) tok aP aA (tO.lst ai 0 (by rw[A9 hsn];omega)) (by rw[eI,qg,A9 hsn];omega) ai s (by rw[A9 hsn];omega) rfl) ?_
   rw[cont_cp hsn]
   iterate 2 refine sa ?_
   refine .nil (hK _ _ ?_)
   rw[show i64.wrap ((s:Int)+(min s (n - s):Nat))=((s+min s (n - s):Nat):Int) by rw[qw (by omega) (by omega)];omega]
   exact⟨s+min s (n - s),wkS (by rw[h0];show N≤N+1+1;omega) (aL _) (hokA _) (fun j ds h=>by rw[Ga];exact h) (od.cons (t:=7) (d:=.ow (N+1) 0 36 n) (od.cons (t:=8) (d:=dI .i64 (s+min s (n - s):Nat)) od.nil rfl rfl) rfl (dU (dY _))),⟨by omega,by omega⟩,by omega⟩
  ·refine AW.exit ?_
   have hsn2:s=n:=by have:=oW hb;omega
   subst hsn2
   have Fg:vh a s s=List.replicate s a:=by unfold vh;simp
   rw[Fg]
   refine rs hx fun K hK=>?_
   iterate 2 refine sa ?_
   exact .nil (hK _ _ (AW.ret (⟨[(4,.ow (N+1) 0 36 s)],wkS (by rw[h0];show N≤N+1+1;omega) (aL _) (hokA _) (fun j ds h=>h) (od.cons (t:=4) (d:=.ow (N+1) 0 36 s) od.nil rfl (dU (dY _))),⟨_,ai,rfl⟩⟩)))
end
end
theorem OI(l:List Nu):(cW a5).f l=(cW aj).f (l.map nv):=by
 show l.flatMap a5.f=(l.map nv).flatMap aj.f
 rw[IY]
 rfl
theorem HA(l:List Nu):slE a5 l=slE aj (l.map nv):=by
 unfold slE
 have:=OI l
 rw[ew]
 show E.sl 36 l.length ((cW a5).f l)=E.sl 36 l.length ((cW aj).f (l.map nv))
 rw[this]
structure aB where
 vR:Int
 vC:Int
 vV:List ak
 deriving Inhabited,DecidableEq
def aQ:Cd aB:=⟨3,fun x=>[.lit (.int .i64 x.vR),.lit (.int .i64 x.vC),slE aj x.vV],fun _=>rfl⟩
def jY(f8:List ak):Int→Option (Int⊕(Bool⊕Unit)):=fun aV=>cnd (decide (aV<((f8).length:Int))) (gd (0≤aV∧aV<((f8).length:Int)) (bnd (lD ((f8)[(aV).toNat]!)) fun x4=>cnd (!x4) (some (.inr (.inl false))) (some (.inl (i64.wrap (aV+(1:Int))))))) (some (.inr (.inr ())))
def ni(f8:List ak):Option Bool:=bnd (a7 (jY f8) (0:Int)) fun y7=>match y7 with| .inl r=>some r| .inr ()=>some true
theorem Dx {f8:List ak}{r:Bool}(h:ni f8=some r):aC prog 69 [dL aj f8] (dB r):=by
 refine bQ (rs:=[.tmp 2]) (fun cx hx h0=>?_) func69
 unfold ni at h
 refine ra hx ?_
 refine AW.seq (ra hx ?_)
 refine AW.block ?_
 obtain⟨y,hy,h⟩:=ah h
 refine lp (S:=Int) (X:=Bool⊕Unit) (fun aV=>[(0,dL aj f8),(3,dI .i64 aV)]) (fun aV=>⟨[],[],0⟩) (PS (PR [.tmp 2] fun r=>dB r) (PE cx (.exit 0) (fun ()=>[]) fun ()=>⟨[],[],0⟩)) hy ?_ ?_ ?_
 exact wk h0 [] (wR rfl (wR rfl wTn)) wVn wLn
 clear hy h
 rintro aV y h
 dsimp only[jY] at h
 refine AW.seq (ra hx ?_)
 refine cdh h rfl (fun cH h=>?_) (fun cH h=>?_)
 refine AW.skip (AW.seq (AW.block (rs hx fun K hK=>?_)))
 iterate 2 refine sa ?_
 obtain⟨nb,h⟩:=aD h
 have p8:(aV).toNat<(f8).length:=by omega
 refine s1 (gk nb aP aA) ?_
 refine s1 (d:=dG aj ((f8)[(aV).toNat]!)) (pm (c:=aj) (l:=f8) (n:=(aV).toNat) (o:=0) aA p8 (kC _ _ rfl)) ?_
 refine scb h Dy fun x4 h=>?_
 refine sa ?_
 refine .nil (hK _ _ (ra hx ?_))
 refine cdh h rfl (fun eW h=>?_) (fun eW h=>?_)
 refine ra hx ?_
 refine AW.ret ?_
 cases h
 refine PS.r ⟨by nofun,PS.l (PR.i ?_)⟩
 exact rv1
 refine AW.skip (rb hx ?_)
 cases h
 exact PS.l (pe0 h0 [])
 refine AW.exit ?_
 try dsimp only
 try simp only[aN,reduceIte,Nat.reduceEqDiff,reduceCtorEq]
 cases h
 exact PS.r ⟨by nofun,PS.r (PE.i (wk h0 [] wTn wVn wLn))⟩
 rcases y with r|⟨⟩
 rintro ex tm' hp' ⟨rfl,hw⟩
 cases h
 exact hw
 rintro ex tm' hp' ⟨rfl,hw⟩
 try dsimp only
 try simp only[aN,reduceIte,Nat.reduceEqDiff,reduceCtorEq]
 refine AW.weak hw (ra hx ?_)
 refine AW.ret ?_
 cases h
 exact rv1
def l9(gc:aB):Option Int:=bnd (S:=Bool) (cnd (decide (gc.vR<(0:Int))) (some (true)) (cnd (decide ((200:Int)<gc.vR)) (some (true)) (cnd (decide (gc.vC<(0:Int))) (some (true)) (some (decide ((200:Int)<gc.vC)))))) fun bM=>cnd bM (some (2:Int)) (bnd (S:=Bool) (cnd (decide (((gc.vV).length:Int)≠(i64.wrap (gc.vR*gc.vC)))) (some (true)) (bnd (ni gc.vV) fun x7=>some (!x7))) fun mP=>cnd mP (some (1:Int)) (some (0:Int)))
theorem B9 {gc:aB}{r:Int}(h:l9 gc=some r):aC prog 46 [dG aQ gc] (dI .i64 r):=by
 refine bQ (rs:=[.tmp 2]) (fun cx hx h0=>?_) func46
 unfold l9 at h
 refine rs hx fun K hK=>?_
 refine s1 (d:=.pt 0 0) iX ?_
 refine sa ?_
 refine .nil (hK _ _ ?_)
 iterate 2 refine AW.seq ?_
 obtain⟨bM,hy,h⟩:=ah h
 refine jn ((PE cx .normal (fun bM=>[(1,.pt 0 0),(20,dB bM)]) fun bM=>⟨[(0,[dI .i64 gc.vR,dI .i64 gc.vC,dL aj gc.vV])],[],1⟩) bM) ?_ ?_
 replace h:=hy
 refine rq hx fun K hK=>?_
 refine sa ?_
 refine s1 (ba aY) ?_
 iterate 2 refine sa ?_
 rcases aX (decide (gc.vR<(0:Int))) with cH|cH
 replace h:=aZ cH h
 iterate 3 refine aH rfl rfl cH ?_
 refine s1 (al cH) ?_
 refine sa ?_
 iterate 3 refine aH rfl rfl rfl ?_
 refine s1 (al rfl) ?_
 refine sa ?_
 iterate 3 refine aH rfl rfl rfl ?_
 refine s1 (al rfl) ?_
 refine .nil (hK _ _ ?_)
 cases h
 exact pe0 h0 [0]
 replace h:=a3 cH h
 refine ga cH ?_
 refine g1 cH (ba aY) ?_
 refine ga cH ?_
 refine s1 (au cH) ?_
 refine sa ?_
 rcases aX (decide ((200:Int)<gc.vR)) with ly|ly
 replace h:=aZ ly h
 iterate 3 refine aH rfl rfl ly ?_
 refine s1 (al ly) ?_
 refine sa ?_
 iterate 3 refine aH rfl rfl rfl ?_
 refine s1 (al rfl) ?_
 refine .nil (hK _ _ ?_)
 cases h
 exact pe0 h0 [0]
 replace h:=a3 ly h
 refine ga ly ?_
 refine g1 ly (ba aY) ?_
 refine ga ly ?_
 refine s1 (au ly) ?_
 refine sa ?_
 rcases aX (decide (gc.vC<(0:Int))) with bo|bo
 replace h:=aZ bo h
 iterate 3 refine aH rfl rfl bo ?_
 refine s1 (al bo) ?_
 refine .nil (hK _ _ ?_)
 cases h
 exact pe0 h0 [0]
 replace h:=a3 bo h
 refine ga bo ?_
 refine g1 bo (ba aY) ?_
 refine ga bo ?_
 refine s1 (au bo) ?_
 refine .nil (hK _ _ ?_)
 cases h
 exact pe0 h0 [0]
 rintro ex tm' hp' ⟨rfl,hw⟩
 refine AW.weak hw (cdh h rfl (fun oT h=>?_) (fun oT h=>?_))
 refine ra hx ?_
 refine AW.ret ?_
 cases h
 exact rv1
 refine AW.skip ?_
 iterate 2 refine AW.seq ?_
 obtain⟨mP,hy,h⟩:=ah h
 refine jn ((PE cx .normal (fun mP=>[(35,dB mP)]) fun mP=>⟨[],[],0⟩) mP) ?_ ?_
 replace h:=hy
 refine rq hx fun K hK=>?_
 refine sa ?_
 refine s1 (ba aP) ?_
 iterate 2 refine sa ?_
 refine s1 (ba aY) ?_
 refine sa ?_
 refine s1 (ba aY) ?_
 iterate 3 refine sa ?_
 rcases aX (decide (((gc.vV).length:Int)≠(i64.wrap (gc.vR*gc.vC)))) with eW|eW
 replace h:=aZ eW h
 iterate 4 refine aH rfl rfl eW ?_
 refine s1 (al eW) ?_
 refine .nil (hK _ _ ?_)
 cases h
 exact pe0 h0 []
 replace h:=a3 eW h
 refine ga eW ?_
 refine g1 eW (ba aP) ?_
 obtain⟨x7,zu,h⟩:=ah h
 refine g1 eW (eC rfl (Dx zu) rfl (lA (an _) lAn) (.inl rfl)) ?_
 refine ga eW ?_
 refine s1 (au eW) ?_
 refine .nil (hK _ _ ?_)
 cases h
 exact pe0 h0 []
 rintro ex tm' hp' ⟨rfl,hw⟩
 refine AW.weak hw (cdh h rfl (fun fa h=>?_) (fun fa h=>?_))
 refine ra hx ?_
 refine AW.ret ?_
 cases h
 exact rv1
 refine AW.skip (ra hx ?_)
 refine AW.ret ?_
 cases h
 exact rv1
def l7(gc:aB):Option Bool:=bnd (l9 gc) fun x1=>some (decide (x1=(0:Int)))
theorem B7 {gc:aB}{r:Bool}(h:l7 gc=some r):aC prog 57 [dG aQ gc] (dB r):=by
 refine bQ (rs:=[.tmp 2]) (fun cx hx h0=>?_) func57
 unfold l7 at h
 refine rs hx fun K hK=>?_
 refine s1 (d:=.pt 0 0) iX ?_
 refine sa ?_
 refine .nil (hK _ _ (rs hx fun K hK=>?_))
 refine s1 (d:=dG aQ gc) (bP av) ?_
 refine scb h B9 fun x1 h=>?_
 iterate 2 refine sa ?_
 refine .nil (hK _ _ (AW.ret ?_))
 cases h
 exact rv1
def ep(aW:aB)(a6:aB):Option Bool:=bnd (S:=Bool) (cnd (decide (aW.vR=a6.vR)) (cnd (decide (aW.vC=a6.vC)) (bnd (cZ aW.vV a6.vV) fun x3=>some (x3)) (some (false))) (some (false))) fun jR=>some jR
theorem mW {aW:aB}{a6:aB}{r:Bool}(h:ep aW a6=some r):aC prog 14 [dG aQ aW,dG aQ a6] (dB r):=by
 refine bQ (rs:=[.tmp 4]) (fun cx hx h0=>?_) func14
 unfold ep at h
 refine rs hx fun K hK=>?_
 refine s1 (d:=.pt 0 0) iX ?_
 refine s1 (d:=.pt 1 0) iX ?_
 refine sa ?_
 refine .nil (hK _ _ (AW.seq ?_))
 obtain⟨jR,hy,h⟩:=ah h
 refine jn ((PE cx .normal (fun jR=>[(4,dB jR)]) fun jR=>⟨[],[],0⟩) jR) ?_ ?_
 replace h:=hy
 refine rq hx fun K hK=>?_
 refine sa ?_
 refine s1 (ba aY) ?_
 refine sa ?_
 refine s1 (ba aY) ?_
 iterate 2 refine sa ?_
 rcases aX (decide (aW.vR=a6.vR)) with cH|cH
 replace h:=aZ cH h
 refine ga cH ?_
 refine g1 cH (ba aY) ?_
 refine ga cH ?_
 refine g1 cH (ba aY) ?_
 refine ga cH ?_
 refine s1 (al cH) ?_
 refine sa ?_
 rcases aX (decide (aW.vC=a6.vC)) with ly|ly
 replace h:=aZ ly h
 refine ga ly ?_
 refine g1 ly (ba aP) ?_
 refine ga ly ?_
 refine g1 ly (ba aP) ?_
 obtain⟨x3,xQ,h⟩:=ah h
 refine g1 ly (eC rfl (nT xQ) rfl (lA (an _) (lA (an _) lAn)) (.inl rfl)) ?_
 refine s1 (al ly) ?_
 refine sa ?_
 refine .nil (hK _ _ ?_)
 cases h
 exact pe0 h0 []
 replace h:=a3 ly h
 iterate 5 refine aH rfl rfl ly ?_
 refine s1 (au ly) ?_
 refine sa ?_
 refine .nil (hK _ _ ?_)
 cases h
 exact pe0 h0 []
 replace h:=a3 cH h
 iterate 5 refine aH rfl rfl cH ?_
 refine s1 (au cH) ?_
 refine sa ?_
 iterate 5 refine aH rfl rfl rfl ?_
 refine s1 (au rfl) ?_
 refine sa ?_
 refine .nil (hK _ _ ?_)
 cases h
 exact pe0 h0 []
 rintro ex tm' hp' ⟨rfl,hw⟩
 refine AW.weak hw (AW.ret ?_)
 cases h
 exact rv1
def je(f8:List ak):Int→Option (Int⊕(Bool⊕Unit)):=fun aV=>cnd (decide (aV<((f8).length:Int))) (bnd (S:=Bool) (gd (0≤aV∧aV<((f8).length:Int)) (bnd (et ((f8)[(aV).toNat]!.vN)) fun x4=>cnd (decide ((60:Int)<x4)) (some (true)) (gd (0≤aV∧aV<((f8).length:Int)) (bnd (et ((f8)[(aV).toNat]!.vD)) fun x9=>some (decide ((60:Int)<x9)))))) fun cQ=>cnd cQ (some (.inr (.inl false))) (some (.inl (i64.wrap (aV+(1:Int)))))) (some (.inr (.inr ())))
def l8(f8:List ak):Option Bool:=bnd (a7 (je f8) (0:Int)) fun y13=>match y13 with| .inl r=>some r| .inr ()=>some true
theorem B8 {f8:List ak}{r:Bool}(h:l8 f8=some r):aC prog 28 [dL aj f8] (dB r):=by
 refine bQ (rs:=[.tmp 2]) (fun cx hx h0=>?_) func28
 unfold l8 at h
 refine ra hx ?_
 refine AW.seq (ra hx ?_)
 refine AW.block ?_
 obtain⟨y,hy,h⟩:=ah h
 refine lp (S:=Int) (X:=Bool⊕Unit) (fun aV=>[(0,dL aj f8),(3,dI .i64 aV)]) (fun aV=>⟨[],[],0⟩) (PS (PR [.tmp 2] fun r=>dB r) (PE cx (.exit 0) (fun ()=>[]) fun ()=>⟨[],[],0⟩)) hy ?_ ?_ ?_
 exact wk h0 [] (wR rfl (wR rfl wTn)) wVn wLn
 clear hy h
 rintro aV y h
 dsimp only[je] at h
 refine AW.seq (ra hx ?_)
 refine cdh h rfl (fun cH h=>?_) (fun cH h=>?_)
 refine AW.skip (AW.seq (AW.block (AW.seq ?_)))
 obtain⟨cQ,hy,h⟩:=ah h
 refine jn ((PE cx .normal (fun cQ=>[(0,dL aj f8),(3,dI .i64 aV),(25,dB cQ)]) fun cQ=>⟨[],[],0⟩) cQ) ?_ ?_
 replace h:=hy
 refine rq hx fun K hK=>?_
 iterate 2 refine sa ?_
 obtain⟨nb,h⟩:=aD h
 have p8:(aV).toNat<(f8).length:=by omega
 refine s1 (gk nb aP aA) ?_
 refine sa ?_
 refine s1 (d:=dG ap ((f8)[(aV).toNat]!.vN)) (pm (c:=aj) (l:=f8) (n:=(aV).toNat) (o:=0) ax p8 (by first|exact rfl|exact pG0 _ _ _ rfl|exact pG1 _ _ _ _ rfl rfl)) ?_
 refine scb h v7 fun x4 h=>?_
 iterate 2 refine sa ?_
 rcases aX (decide ((60:Int)<x4)) with eW|eW
 replace h:=aZ eW h
 iterate 7 refine aH rfl rfl eW ?_
 refine s1 (al eW) ?_
 refine .nil (hK _ _ ?_)
 cases h
 exact pe0 h0 []
 replace h:=a3 eW h
 iterate 2 refine ga eW ?_
 obtain⟨N5,h⟩:=aD h
 have NG:(aV).toNat<(f8).length:=by omega
 refine g1 eW (gk N5 aP aA) ?_
 refine ga eW ?_
 refine g1 (d:=dG ap ((f8)[(aV).toNat]!.vD)) eW (pm (c:=aj) (l:=f8) (n:=(aV).toNat) (o:=18) ax NG (by first|exact rfl|exact pG0 _ _ _ rfl|exact pG1 _ _ _ _ rfl rfl)) ?_
 obtain⟨x9,xT,h⟩:=ah h
 refine g1 eW (eC rfl (v7 xT) (by simp only[cp,dh,jy,fO,dX,dW];exact bc _ _) (lA (fm _ _) lAn) (.inl rfl)) ?_
 refine ga eW ?_
 refine s1 (au eW) ?_
 refine .nil (hK _ _ ?_)
 cases h
 exact pe0 h0 []
 rintro ex tm' hp' ⟨rfl,hw⟩
 refine AW.weak hw (cdh h rfl (fun nd h=>?_) (fun nd h=>?_))
 refine ra hx ?_
 refine AW.ret ?_
 cases h
 refine PS.r ⟨by nofun,PS.l (PR.i ?_)⟩
 exact rv1
 refine AW.skip (rb hx ?_)
 cases h
 exact PS.l (pe0 h0 [])
 refine AW.exit ?_
 try dsimp only
 try simp only[aN,reduceIte,Nat.reduceEqDiff,reduceCtorEq]
 cases h
 exact PS.r ⟨by nofun,PS.r (PE.i (wk h0 [] wTn wVn wLn))⟩
 rcases y with r|⟨⟩
 rintro ex tm' hp' ⟨rfl,hw⟩
 cases h
 exact hw
 rintro ex tm' hp' ⟨rfl,hw⟩
 try dsimp only
 try simp only[aN,reduceIte,Nat.reduceEqDiff,reduceCtorEq]
 refine AW.weak hw (ra hx ?_)
 refine AW.ret ?_
 cases h
 exact rv1
def kb(gc:aB):Option Bool:=cnd (decide ((60:Int)<((gc.vV).length:Int))) (some false) (bnd (l7 gc) fun x2=>cnd (!x2) (some true) (bnd (S:=Bool) (cnd (decide (gc.vR≤(6:Int))) (cnd (decide (gc.vC≤(7:Int))) (bnd (l8 gc.vV) fun x7=>some (x7)) (some (false))) (some (false))) fun mO=>some mO))
theorem uu {gc:aB}{r:Bool}(h:kb gc=some r):aC prog 10 [dG aQ gc] (dB r):=by
 refine bQ (rs:=[.tmp 2]) (fun cx hx h0=>?_) func10
 unfold kb at h
 refine rs hx fun K hK=>?_
 refine s1 (d:=.pt 0 0) iX ?_
 refine sa ?_
 refine .nil (hK _ _ (AW.seq (rs hx fun K hK=>?_)))
 refine sa ?_
 refine s1 (ba aP) ?_
 iterate 2 refine sa ?_
 refine .nil (hK _ _ (cdh h rfl (fun cH h=>?_) (fun cH h=>?_)))
 refine ra hx ?_
 refine AW.ret ?_
 cases h
 exact rv1
 refine AW.skip (AW.seq (rs hx fun K hK=>?_))
 refine s1 (d:=dG aQ gc) (bP av) ?_
 refine scb h B7 fun x2 h=>?_
 refine sa ?_
 refine .nil (hK _ _ (cdh h rfl (fun qR h=>?_) (fun qR h=>?_)))
 refine ra hx ?_
 refine AW.ret ?_
 cases h
 exact rv1
 refine AW.skip (AW.seq ?_)
 obtain⟨mO,hy,h⟩:=ah h
 refine jn ((PE cx .normal (fun mO=>[(2,dB mO)]) fun mO=>⟨[],[],0⟩) mO) ?_ ?_
 replace h:=hy
 refine rq hx fun K hK=>?_
 refine sa ?_
 refine s1 (ba aY) ?_
 iterate 2 refine sa ?_
 rcases aX (decide (gc.vR≤(6:Int))) with oT|oT
 replace h:=aZ oT h
 refine ga oT ?_
 refine g1 oT (ba aY) ?_
 refine ga oT ?_
 refine s1 (al oT) ?_
 refine sa ?_
 rcases aX (decide (gc.vC≤(7:Int))) with eW|eW
 replace h:=aZ eW h
 refine ga eW ?_
 refine g1 eW (ba aP) ?_
 obtain⟨x7,zu,h⟩:=ah h
 refine g1 eW (eC rfl (B8 zu) rfl (lA (an _) lAn) (.inl rfl)) ?_
 refine s1 (al eW) ?_
 refine sa ?_
 refine .nil (hK _ _ ?_)
 cases h
 exact pe0 h0 []
 replace h:=a3 eW h
 iterate 3 refine aH rfl rfl eW ?_
 refine s1 (au eW) ?_
 refine sa ?_
 refine .nil (hK _ _ ?_)
 cases h
 exact pe0 h0 []
 replace h:=a3 oT h
 iterate 3 refine aH rfl rfl oT ?_
 refine s1 (au oT) ?_
 refine sa ?_
 iterate 3 refine aH rfl rfl rfl ?_
 refine s1 (au rfl) ?_
 refine sa ?_
 refine .nil (hK _ _ ?_)
 cases h
 exact pe0 h0 []
 rintro ex tm' hp' ⟨rfl,hw⟩
 refine AW.weak hw (AW.ret ?_)
 cases h
 exact rv1
structure lL where
 vcol:Int
 vby:ak
 vmoved:Bool
 deriving Inhabited,DecidableEq
def bh:Cd lL:=⟨38,fun x=>[.lit (.int .i64 x.vcol)]++aj.f x.vby++[.lit (.bool x.vmoved)],fun x=>by simp[aj.h,show aj.sz=36 from rfl]⟩
theorem uE(x:lL):ao (bh.f x) (cI .i64) 0 x.vcol (fun y=>bh.f (⟨y,x.vby,x.vmoved⟩:lL)):=
 ao.of ([]) ((aj).f x.vby++(cB).f x.vmoved) (by first|rfl|(simp[(cI .i64).h,cB.h,aj.h];first|rfl|done)) (by first|rfl|simp[bh,cI,cB,cS,cL,dP]) (fun y=>by first|rfl|simp[bh,cI,cB,cS,cL,dP])
theorem D0(x:lL):ao (bh.f x) aj 1 x.vby (fun y=>bh.f (⟨x.vcol,y,x.vmoved⟩:lL)):=
 ao.of (((cI .i64)).f x.vcol) ((cB).f x.vmoved) (by first|rfl|(simp[(cI .i64).h,cB.h,aj.h];first|rfl|done)) (by first|rfl|simp[bh,cI,cB,cS,cL,dP]) (fun y=>by first|rfl|simp[bh,cI,cB,cS,cL,dP])
theorem zt(x:lL):ao (bh.f x) cB 37 x.vmoved (fun y=>bh.f (⟨x.vcol,x.vby,y⟩:lL)):=
 ao.of (((cI .i64)).f x.vcol++(aj).f x.vby) ([]) (by first|rfl|(simp[(cI .i64).h,cB.h,aj.h];first|rfl|done)) (by first|rfl|simp[bh,cI,cB,cS,cL,dP]) (fun y=>by first|rfl|simp[bh,cI,cB,cS,cL,dP])
structure cD where
 vm:aB
 vl:List lL
 deriving Inhabited,DecidableEq
def pJ:Cd cD:=⟨4,fun x=>aQ.f x.vm++[slE bh x.vl],fun x=>by simp[aQ.h,show aQ.sz=3 from rfl]⟩
section
section
variable {vs sT og:List (Nat×List D)} {lv B1:List (Nat×Nat×Nat×TypeId)} {N M n2 k:Nat}
theorem eY.up(hok:eY ⟨vs,lv,N⟩)(h:N≤M):eY ⟨vs,lv,M⟩:=
 ⟨fun j es hj=>by obtain⟨h1,h2⟩:=hok.var j es hj;exact⟨bT h1 h,bZ.2 fun d hd=>D.idsC_le h (bZ.1 h2 d hd)⟩,fun id e hi=>bT (hok.tok id e hi) h⟩
theorem eY.consM {ds:List D}(hok:eY ⟨vs,lv,M⟩)(hk:k<M)(hd:ds.all (D.idsC M)=true):eY ⟨(k,ds)::vs,lv,M⟩:=hok.cons (aL M) hk hd
theorem wk1 {x:Cx}{tm tm':List (Nat×D)}{vs0:List (Nat×List D)}{lv0:List (Nat×Nat×Nat×TypeId)}{N0 n':Nat}(h0:x.hp0=⟨vs0,lv0,N0⟩)(hN:N0≤n':=by omega)(hn:n'≤n2:=by omega)(hok:eY ⟨og,lv,n'⟩:=by (repeat (first|assumption|refine eY.consM ?_ (by omega) (by (first|exact nY _|exact lineD_ids (by omega)|exact dicC_ids (by omega) (by omega)|assumption|exact rfl|(simp only[jy,fO,dX];exact det_)))|exact eY.up (by assumption) (by omega))))
  (hv:∀j ds,og.lookup j=some ds→sT.lookup j=some ds:=by (intro j ds h;(repeat (rcases dE h with⟨rfl,rfl⟩|⟨hj,h⟩;·(repeat (first|exact ai|assumption|refine am (by first|assumption|exact lP (by assumption)|omega) ?_))));have hjN:=eY.lt (by assumption) h;(repeat (first|exact ai|assumption|refine am (by first|assumption|exact lP (by assumption)|omega) ?_)))) (ht:od n' tm tm':=by (repeat (first|exact od.nil|refine od.cons ?_ (by exact rfl) (by (first|exact rfl|assumption|exact det_|exact bZ.2 (fun k hk=>dU (by simp only[jx,vB,or_false] at hk;omega))))))):Wk x tm ⟨sT,lv,n2⟩ tm' ⟨og,lv,n'⟩:=wkS (by rw[h0];exact hN) hn hok hv ht
theorem rt1 {x:Cx}{tm:List (Nat×D)}{q:Nat}{d:D}(h0:x.hp0=⟨vs,lv,N⟩)(hok:eY ⟨og,lv,N⟩:=by (repeat (first|assumption|refine eY.consM ?_ (by omega) (by (first|exact nY _|exact lineD_ids (by omega)|exact dicC_ids (by omega) (by omega)|assumption|exact rfl|(simp only[jy,fO,dX];exact det_)))|exact eY.up (by assumption) (by omega))))(hN:N≤n2:=by omega)(hv:∀j ds,og.lookup j=some ds→sT.lookup j=some ds:=by (intro j ds h;(repeat (rcases dE h with⟨rfl,rfl⟩|⟨hj,h⟩;·(repeat (first|exact ai|assumption|refine am (by first|assumption|exact lP (by assumption)|omega) ?_))));have hjN:=eY.lt (by assumption) h;(repeat (first|exact ai|assumption|refine am (by first|assumption|exact lP (by assumption)|omega) ?_))))(hq:tm.lookup q=some d:=by exact rfl)(hd:d.idsB N=true:=by (first|exact rfl|assumption|exact det_|exact bZ.2 (fun k hk=>dU (by simp only[jx,vB,or_false] at hk;omega)))):
  ∃tm',Wk x tm ⟨sT,lv,n2⟩ tm' ⟨og,lv,N⟩∧vL tbl [.tmp q] tm' ⟨og,lv,N⟩ d:=
 ⟨[(q,d)],wkS (by rw[h0];exact aL N) hN hok hv (od.nil.cons hq hd),⟨d,ai,rfl⟩⟩
end
section
variable {md:Md} {ops:Array Oper} {K:List (Nat×D)→Hp→Prop} {os:List Oper} {tm:List (Nat×D)} {hp hp':Hp} {t s:Tmp} {op:Op} {ty:TypeId} {pos:String} {af:Array Edge} {d:D} {j k o n i:Nat} {want c:Bool} {F F2:List D} {F':List D→List D} {a b:Nu} {x y:Operand}
theorem gn(hw:c= !want)(h2:bB prog tbl md ops K os ((t,.tu [])::tm) hp)(hj:(ops[j]?).bind (·.dst)=some s:=by exact rfl)(hc:tm.lookup s=some (.e (.lit (.bool c))):=by exact rfl):bB prog tbl md ops K (⟨some t,op,ty,pos,af,some (j,want)⟩::os) tm hp:=aH hj hc hw h2
theorem l1(L:Pt F o (dC (a5.f a)) F')(h2:bB prog tbl md ops K os ((t,dG a5 a)::tm) hp)(hx:evD tm x=.pt k o:=by exact rfl)(hv:hp.vars.lookup k=some F:=by (repeat (first|exact ai|assumption|refine am (by first|assumption|exact lP (by assumption)|omega) ?_)))(hk:k<hp.next:=by (first|omega|(dsimp only;omega)))(hn:md.nc tbl (.load 34 x)=true:=by exact rfl):bB prog tbl md ops K (⟨some t,.load 34 x,ty,pos,af,none⟩::os) tm hp:=s1 (ldN L hv hk hx) h2 hn
theorem t1 {vs:List (Nat×List D)}{lv:List (Nat×Nat×Nat×TypeId)}{N:Nat}(L:Pt F o (dC (a5.f a)) F')(h3:F' (dC (a5.f b))=F2)(h2:bB prog tbl md ops K os tm ⟨(k,F2)::vs,lv,N⟩)(hx:evD tm x=.pt k o:=by exact rfl)(hv:vs.lookup k=some F:=by (repeat (first|exact ai|assumption|refine am (by first|assumption|exact lP (by assumption)|omega) ?_)))(hy:evD tm y=dG a5 b:=by exact rfl)(hn:md.nc tbl (.store 34 x y)=true:=by exact rfl):bB prog tbl md ops K (⟨none,.store 34 x y,ty,pos,af,none⟩::os) tm ⟨vs,lv,N⟩:=s0 (stN L hv h3 hx hy rfl) h2 hn
theorem l1g(L:Pt F o (dC (a5.f a)) F')(hw:c=want)(h2:bB prog tbl md ops K os ((t,dG a5 a)::tm) hp)(hx:evD tm x=.pt k o:=by exact rfl)(hv:hp.vars.lookup k=some F:=by (repeat (first|exact ai|assumption|refine am (by first|assumption|exact lP (by assumption)|omega) ?_)))(hk:k<hp.next:=by (first|omega|(dsimp only;omega)))(hj:(ops[j]?).bind (·.dst)=some s:=by exact rfl)(hc:tm.lookup s=some (.e (.lit (.bool c))):=by exact rfl)(hn:md.nc tbl (.load 34 x)=true:=by exact rfl):bB prog tbl md ops K (⟨some t,.load 34 x,ty,pos,af,some (j,want)⟩::os) tm hp:=g1 hw (ldN L hv hk hx) h2 hj hc hn
theorem cqg {f:FuncId}{la:List Operand}{ts:Array TypeId}{ds:List D}{r:D}(hc:aC prog f ds r)(hw:c=want)(h2:bB prog tbl md ops K os ((t,r)::tm) hp)(hj:(ops[j]?).bind (·.dst)=some s:=by exact rfl)(hg:tm.lookup s=some (.e (.lit (.bool c))):=by exact rfl)(hp1:((la.map (evD tm)).map D.ex).all D.pure=true:=by repeat (first|exact pn|refine pA (bc _ _) ?_|refine pA rfl ?_))(hl:leL ((la.map (evD tm)).map D.ex) ds:=by repeat (first|exact lAn|refine lC (fm _ _) ?_|refine lC (an _) ?_))(hr:r.pure=true∨∃ds,r=.tu ds:=by (first|exact .inl (gP _ _)|exact .inl rfl|exact .inr ⟨_,rfl⟩)):
  bB prog tbl md ops K (⟨some t,.call ⟨.value (.func f),la.toArray,ts⟩,ty,pos,af,some (j,want)⟩::os) tm hp:=sqg tok hj hg hw hc hp1 hl hr h2
theorem n1 {vs:List (Nat×List D)}{lv:List (Nat×Nat×Nat×TypeId)}{N:Nat}(h2:bB prog tbl md ops K os ((t,.pt N 0)::tm) ⟨(N,dC zN)::vs,lv,N+1⟩)(hn:md.nc tbl (.alloc 34)=true:=by exact rfl):bB prog tbl md ops K (⟨some t,.alloc 34,ty,pos,af,none⟩::os) tm ⟨vs,lv,N⟩:=s1 T_alN h2 hn
theorem z1 {vs:List (Nat×List D)}{lv:List (Nat×Nat×Nat×TypeId)}{N:Nat}(h2:bB prog tbl md ops K os tm ⟨(k,(dC (a5.f b)))::vs,lv,N⟩)(hx:evD tm x=.pt k 0:=by exact rfl)(hv:vs.lookup k=some (dC zN):=by (repeat (first|exact ai|assumption|refine am (by first|assumption|exact lP (by assumption)|omega) ?_)))(hy:evD tm y=dG a5 b:=by exact rfl)(hn:md.nc tbl (.store 34 x y)=true:=by exact rfl):bB prog tbl md ops K (⟨none,.store 34 x y,ty,pos,af,none⟩::os) tm ⟨vs,lv,N⟩:=s0 (stZ hv hx hy rfl) h2 hn
theorem c1 {tt:TypeId}{ti:TyE}(L:Pt F o [d] F')(h2:bB prog tbl md ops K os ((t,d)::tm) hp)(hx:evD tm x=.pt k o:=by exact rfl)(hv:hp.vars.lookup k=some F:=by (repeat (first|exact ai|assumption|refine am (by first|assumption|exact lP (by assumption)|omega) ?_)))(hk:k<hp.next:=by (first|omega|(dsimp only;omega)))(ht:tbl tt=some ti:=by exact tbI)(hg:ti.ty.agg=false:=by exact rfl)(hn:md.nc tbl (.load tt x)=true:=by exact rfl):bB prog tbl md ops K (⟨some t,.load tt x,ty,pos,af,none⟩::os) tm hp:=s1 (T_ld1 L hv hk ht hg hx) h2 hn
theorem c1g {tt:TypeId}{ti:TyE}(L:Pt F o [d] F')(hw:c=want)(h2:bB prog tbl md ops K os ((t,d)::tm) hp)(hx:evD tm x=.pt k o:=by exact rfl)(hv:hp.vars.lookup k=some F:=by (repeat (first|exact ai|assumption|refine am (by first|assumption|exact lP (by assumption)|omega) ?_)))(hk:k<hp.next:=by (first|omega|(dsimp only;omega)))(ht:tbl tt=some ti:=by exact tbI)(hg:ti.ty.agg=false:=by exact rfl)(hj:(ops[j]?).bind (·.dst)=some s:=by exact rfl)(hc:tm.lookup s=some (.e (.lit (.bool c))):=by exact rfl)(hn:md.nc tbl (.load tt x)=true:=by exact rfl):bB prog tbl md ops K (⟨some t,.load tt x,ty,pos,af,some (j,want)⟩::os) tm hp:=g1 hw (T_ld1 L hv hk ht hg hx) h2 hj hc hn
theorem p1 {tt:TypeId}{ti:TyE}{bs:List D}(L:Pt F o bs F')(hz:bs.length=ti.size)(h2:bB prog tbl md ops K os ((t,.ag bs)::tm) hp)(hx:evD tm x=.pt k o:=by exact rfl)(hv:hp.vars.lookup k=some F:=by (repeat (first|exact ai|assumption|refine am (by first|assumption|exact lP (by assumption)|omega) ?_)))(hk:k<hp.next:=by (first|omega|(dsimp only;omega)))(ht:tbl tt=some ti:=by exact tbI)(hg:ti.ty.agg=true:=by exact rfl)(hn:md.nc tbl (.load tt x)=true:=by exact rfl):bB prog tbl md ops K (⟨some t,.load tt x,ty,pos,af,none⟩::os) tm hp:=s1 (T_ldP L hv hk ht hz hg hx) h2 hn
theorem v1 {vs:List (Nat×List D)}{lv:List (Nat×Nat×Nat×TypeId)}{N:Nat}{tt:TypeId}{ti:TyE}{bs ys:List D}(L:Pt F o bs F')(hz:bs.length=ti.size)(hl:ys.length=bs.length)(h3:F' ys=F2)(h2:bB prog tbl md ops K os tm ⟨(k,F2)::vs,lv,N⟩)(hx:evD tm x=.pt k o:=by exact rfl)(hv:vs.lookup k=some F:=by (repeat (first|exact ai|assumption|refine am (by first|assumption|exact lP (by assumption)|omega) ?_)))(hyc:(evD tm y).cells=some ys:=by exact rfl)(ht:tbl tt=some ti:=by exact tbI)(hn:md.nc tbl (.store tt x y)=true:=by exact rfl):bB prog tbl md ops K (⟨none,.store tt x y,ty,pos,af,none⟩::os) tm ⟨vs,lv,N⟩:=s0 (O7 L hv hyc ht hz hl h3 hx rfl) h2 hn
theorem a1 {vs:List (Nat×List D)}{lv:List (Nat×Nat×Nat×TypeId)}{N:Nat}{tt:TypeId}{ti:TyE}{F:List E}(ht:tbl tt=some ti)(h2:bB prog tbl md ops K os ((t,.pt N 0)::tm) ⟨(N,dC F)::vs,lv,N+1⟩)(hz:ti.zero.map E.lit=F:=by kernel_rfl)(hn:md.nc tbl (.alloc tt)=true:=by exact rfl):bB prog tbl md ops K (⟨some t,.alloc tt,ty,pos,af,none⟩::os) tm ⟨vs,lv,N⟩:=s1 (bp ht hz) h2 hn
end
end
section
section
variable {vs:List (Nat×List D)} {lv:List (Nat×Nat×Nat×TypeId)} {N kd R G w:Nat} {C:Nat→Nat}
theorem Pt.all {F:List D}:Pt F 0 F id:=Pt.of [] [] rfl (by simp) fun y=>by simp
end
end
def HY(p:Nu→Bool)(l:List Nu):Int:=match l.findIdx? p with
 |some i=>i
 |none=>-1
theorem Nf {p:Nu→Bool}{l:List Nu}{i:Nat}(hi:i<l.length)(h:p l[i]! =true)(Cn:∀j,j<i→p l[j]! =false):HY p l=i:=by
 have:l.findIdx? p=some i:=by
  rw[O1]
  refine⟨hi,by rw[eG l i hi] at h;exact h,fun j hj=>?_⟩
  have:=Cn j hj
  rw[eG l j (by omega)] at this
  simp[this]
 unfold HY;rw[this]
theorem Le {p:Nu→Bool}{l:List Nu}(Cn:∀j,j<l.length→p l[j]! =false):HY p l=-1:=by
 have:l.findIdx? p=none:=by
  rw[List.findIdx?_eq_none_iff]
  intro x hx
  obtain⟨j,hj,rfl⟩:=List.mem_iff_getElem.1 hx
  have:=Cn j hj
  rwa[eG l j hj] at this
 unfold HY;rw[this]
theorem Mb {f:FuncId}{p:Nu→Bool}(hf:∀x:Nu,aC prog f [dG a5 x] (dB (p x))){l:List Nu}(hl:l.length≤1000000):aC prog 135 [.e (slE a5 l),.e (.lit (.func (.func f) #[] #[]))] (dI .i64 (HY p l)):=by
 refine bQ (rs:=[.tmp 4]) (fun cx hx h0=>?_) func135
 refine ra hx ?_
 refine AW.seq (ra hx ?_)
 refine AW.block (AW.loopW (fun i:Nat=>[(0,.e (slE a5 l)),(1,.e (.lit (.func (.func f) #[] #[]))),(7,dI .i64 (l.length:Nat)),(8,dI .i64 (i:Nat))]) (fun _=>⟨[],[],0⟩) (fun i=>i≤l.length∧∀j,j<i→p l[j]! =false) (fun i=>l.length - i) 0 ?_ ⟨dZ _,fun j h=>absurd h (zd _)⟩ ?_)
 ·exact wk h0 [] (wR rfl (wR rfl (wR rfl (wR rfl wTn)))) wVn wLn
 ·rintro i ⟨hi,Cn⟩
  refine ra hx ?_
  refine AW.seq (AW.condS rfl (fun hb=>?_) (fun hb=>?_))
  ·have JT:i<l.length:=by have:=pi hb;omega
   refine AW.skip (AW.seq (AW.block (ra hx ?_)))
   refine rs hx fun K hK=>?_
   iterate 3 refine sa ?_
   have nb:0≤(i:Int)∧(i:Int)<((l.length:Nat):Int):=by omega
   refine s1 (gk nb aP aA) ?_
   refine s1 (d:=dG a5 l[i]!) (pm (c:=a5) (l:=l) (n:=i) (o:=0) aA JT (kC _ _ rfl)) ?_
   refine sc (hf _) ?_
   refine .nil (hK _ _ (AW.condS rfl (fun hb=>?_) (fun hb=>?_)))
   ·refine ra hx ?_
    refine AW.ret ?_
    rw[Nf JT hb Cn]
    exact rv1
   ·refine AW.skip (rq hx fun K hK=>?_)
    iterate 2 refine sa ?_
    refine .nil (hK _ _ ?_)
    rw[na]
    refine⟨i+1,wk h0 [] (wR rfl (wR rfl (wR rfl (wR rfl wTn)))) wVn wLn,⟨JT,fun j hj=>?_⟩,by omega⟩
    rcases ci j i with h1|h1
    ·exact Cn j h1
    ·obtain rfl:j=i:=by omega
     exact hb
  ·refine AW.exit ?_
   have JT:i=l.length:=by have:=oW hb;omega
   refine ra hx ?_
   refine AW.ret ?_
   rw[Le fun j hj=>Cn j (by omega)]
   exact rv1
section
section
variable {vs:List (Nat×List D)} {lv:List (Nat×Nat×Nat×TypeId)} {N kd R G w m nn:Nat} {C:Nat→Nat}
theorem lit_Nu(l:List Nu):(l.flatMap a5.f).all E.isLit=true:=by
 rw[bZ]
 intro x hx
 obtain⟨a,_,ha⟩:=List.mem_flatMap.1 hx
 have h2:∀y,y∈ap.f a.1.vN∨y∈ap.f a.1.vD→y.isLit=true:=by
  have h3:∀z:aq,∀y∈ap.f z,y.isLit=true:=fun z y hy=>by
   rcases sK.1 (show y∈[E.lit (.bool z.vBad),.lit (.bool z.vNeg)]++al_cV.f z.vW from hy) with h|h
   ·simp at h;rcases h with rfl|rfl <;> rfl
   ·obtain⟨n,_,hn⟩:=List.mem_flatMap.1 (show y∈z.vW.toList.flatMap (cI .u32).f from h)
    rw[G3.1 hn];rfl
  rintro y (h|h)
  ·exact h3 _ y h
  ·exact h3 _ y h
 exact h2 x (sK.1 (show x∈ap.f a.1.vN++ap.f a.1.vD from ha))
end
end
section
theorem HC.weak {P:Program}{f:FuncId}{ds:List D}{hp:Hp}{d:D}{vars vars':List (Nat×List D)}{lv lv':List (Nat×Nat×Nat×TypeId)}{n n':Nat}(hc:HC P f ds hp d ⟨vars,lv,n⟩)(h0:hp.next≤n')
  (h:eY hp→eY ⟨vars',lv',n'⟩∧(∀j ds,vars'.lookup j=some ds→vars.lookup j=some ds)∧(∀j y,lv'.lookup j=some y→lv.lookup j=some y)∧d.idsB n'=true):HC P f ds hp d ⟨vars',lv',n'⟩:=by
 refine⟨hc.1,fun B g w vs hr hsz cM=>(hc.2 B g w vs hr hsz cM).mono ?_⟩
 obtain⟨hok,hv,hl,hd⟩:=h hr.ok
 rintro e w' ⟨v,g',rfl,oN,hM,hrd,hb,hF⟩
 have eZ:∀id y,lv'.lookup id=some y→lv.lookup id=some y:=hl
 refine⟨v,g',rfl,⟨fun k ds hk=>?_,fun k k' a b hk tj he=>oN.inj k k' a b (hv k a hk) (hv k' b tj) he,fun id m e hi=>?_,fun id yQ t t' b hi yU=>oN.tinj id yQ t t' b (eZ _ _ hi) (eZ _ _ yU),oN.base,oN.fits⟩,
  ⟨hM.size,hM.cell,hM.forb,h0,hM.μ,fun id hid m e NR=>hM.live id hid m e (eZ id _ NR),fun b hb hf=>⟨(hM.fr b hb hf).1,(hM.fr b hb hf).2.1,fun k ds hk=>(hM.fr b hb hf).2.2.1 k ds (hv k ds hk),fun id t hi=>(hM.fr b hb hf).2.2.2 id t (eZ id _ hi)⟩,hM.szs⟩,Gj hrd hd rfl eZ,hb,hF⟩
 ·obtain⟨_,h3,h4,cs,ty,h5,h6,h7⟩:=oN.var k ds (hv k ds hk)
  obtain⟨h1,h2⟩:=hok.var k ds hk
  exact⟨h1,h3,h4,cs,ty,h5,h6,fun j u hu=>⟨(h7 j u hu).1,fun d hd=>iw ((h7 j u hu).2 d hd) (bZ.1 h2 d (b8 hd)) rfl eZ⟩⟩
 ·obtain⟨_,us,h2,h3,h4⟩:=oN.tok id m e (eZ _ _ hi)
  exact⟨hok.tok id _ hi,us,h2,h3,fun b hb=>⟨(h4 b hb).1,fun k ds hk=>(h4 b hb).2 k ds (hv k ds hk)⟩⟩
theorem resV {q:Nat}{tt:TypeId}{ti:TyE}{k:Nat}{F:List D}{vs:List (Nat×List D)}{lv:List (Nat×Nat×Nat×TypeId)}{N:Nat}{tm:List (Nat×D)}{k2:D→Prop}(ht:tbl tt=some ti)(hl:tm.lookup q=some (.pt k 0))(hv:vs.lookup k=some F)(hk:k<N)(hz:F.length=ti.size)(hg:ti.ty.agg=true)(h:k2 (.ag F)):oO tbl tm ⟨vs,lv,N⟩ (.cell q tt) k2:=by
 refine⟨.pt k 0,hl,⟨_,ht⟩,?_⟩
 rw[m9,ht]
 simp only[hv,hg]
 refine⟨hk,by omega,?_⟩
 rw[qg,jD (by omega)]
 exact h
theorem HC.forget {P:Program}{f:FuncId}{ds:List D}{d:D}{vs vars:List (Nat×List D)}{lv:List (Nat×Nat×Nat×TypeId)}{N n:Nat}(hc:HC P f ds ⟨vs,lv,N⟩ d ⟨vars,lv,n⟩)(hv:∀j ds,j<N→vs.lookup j=some ds→vars.lookup j=some ds)(hd:d.idsB N=true):HC P f ds ⟨vs,lv,N⟩ d ⟨vs,lv,N⟩:=
 hc.weak (aL N) fun hok=>⟨hok,fun j ds h=>hv j ds (hok.lt h) h,fun _ _ h=>h,hd⟩
section
variable {vs:List (Nat×List D)} {lv:List (Nat×Nat×Nat×TypeId)} {N w i ks s:Nat} {C:Nat→Nat}
theorem rtN1 {x:Cx}{tm:List (Nat×D)}{og sT:List (Nat×List D)}{vs0:List (Nat×List D)}{lv0:List (Nat×Nat×Nat×TypeId)}{N0 M n2 q k:Nat}{a:Nu}(h0:x.hp0=⟨vs0,lv0,N0⟩)(hM:N0≤M)(hok:eY ⟨og,lv,M⟩)(hN:M≤n2)(hv:∀j ds,og.lookup j=some ds→sT.lookup j=some ds)(hk:og.lookup k=some (dC (a5.f a)))(hq:tm.lookup q=some (.pt k 0)):
  ∃tm',Wk x tm ⟨sT,lv,n2⟩ tm' ⟨og,lv,M⟩∧vL tbl [.cell q 34] tm' ⟨og,lv,M⟩ (dG a5 a):=
 ⟨[(q,.pt k 0)],wkS (by rw[h0];exact hM) hN hok hv (od.nil.cons hq (dU (hok.lt hk))),resV aA ai hk (hok.lt hk) (pY a) rfl rfl⟩
end
end
section
section
variable {x:Cx} {tm tm':List (Nat×D)} {hp:Hp}
theorem Wk.perm {vars':List (Nat×List D)}{pc:List (Nat×Nat×Nat×TypeId)}{m:Nat}(σ:Nat→Nat)(h0:x.hp0.next≤m)(bF:∀i,i<x.hp0.next→σ i=i)(hinj:∀i j,i<m→j<m→σ i=σ j→i=j)
  (ht:∀p∈tm',tm.lookup p.1=some (p.2.ren σ)∧p.2.idsB m=true∧p.2.noOs=true)
  (hv:∀k ds,vars'.lookup k=some ds→k<m∧hp.vars.lookup (σ k)=some (ds.map (D.renC σ))∧ds.all (D.idsC m)=true∧ds.all D.noO=true)
  (hl:∀k y,pc.lookup k=some y→k<m∧hp.live.lookup (σ k)=some y):Wk x tm hp tm' ⟨vars',pc,m⟩:=by
 intro a w ⟨g,hr,ia,hsz,q7,hB,hF,hM⟩
 have eZ:∀id y,(⟨vars',pc,m⟩:Hp).live.lookup id=some y→hp.live.lookup (σ id)=some y:=fun id y h=>(hl _ _ h).2
 refine⟨⟨fun i=>g.μ (σ i),fun i=>g.τ (σ i),g.F⟩,⟨fun k ds hk=>?_,fun k k' ds ds' hk tj he=>?_,fun id n e hi=>?_,fun id yQ t t' b hi yU hb p9=>?_,hr.base,hr.fits⟩,fun t d h=>?_,hsz,q7,hB,hF,
  ⟨hM.size,hM.cell,hM.forb,h0,fun k hk=>by show g.μ _=_;rw[bF k hk];exact hM.μ k hk,fun id hid n e NR=>?_,fun b hb hf=>⟨(hM.fr b hb hf).1,(hM.fr b hb hf).2.1,fun k ds hk=>(hM.fr b hb hf).2.2.1 _ _ (hv _ _ hk).2.1,fun id t hi=>(hM.fr b hb hf).2.2.2 _ t (eZ id _ hi)⟩,hM.szs⟩⟩
 ·obtain⟨h1,h2,h3,h4⟩:=hv _ _ hk
  obtain⟨_,h5,h6,cs,ty,h7,h8,h9⟩:=hr.var _ _ h2
  refine⟨h1,h5,h6,cs,ty,h7,by simpa using h8,fun j u hu=>⟨fun h=>(h9 j u hu).1 (by simpa using h),fun d hd=>?_⟩⟩
  exact i7 ((h9 j u hu).2 (d.renC _) (by rw[dc,hd];rfl)) (bZ.1 h3 d (b8 hd)) (bZ.1 h4 d (b8 hd)) rfl (fun _=>rfl) (fun _=>rfl) rfl eZ
 ·obtain⟨h1,h2,_⟩:=hv _ _ hk
  obtain⟨sJ,rX,_⟩:=hv _ _ tj
  exact hinj _ _ h1 sJ (hr.inj _ _ _ _ h2 rX he)
 ·obtain⟨h1,h2⟩:=hl _ _ hi
  obtain⟨_,us,h3,h4,h5⟩:=hr.tok _ n e h2
  exact⟨h1,us,h3,h4,fun b hb=>⟨(h5 b hb).1,fun k ds hk=>(h5 b hb).2 _ _ (hv _ _ hk).2.1⟩⟩
 ·obtain⟨h1,h2⟩:=hl _ _ hi
  obtain⟨sJ,rX⟩:=hl _ _ yU
  exact hinj _ _ h1 sJ (hr.tinj _ _ _ _ b h2 rX hb p9)
 ·obtain⟨h1,h2,h3⟩:=ht _ (cf h)
  exact DN (ia t _ h1) h2 h3 rfl (fun _=>rfl) (fun _=>rfl) rfl eZ
 ·obtain⟨m0,h1,h2,h3⟩:=hM.live id hid n e (by rw[←bF id hid];exact eZ id _ NR)
  exact⟨m0,h1,h2,fun h=>by show g.τ _=_;rw[bF id hid];exact h3 h⟩
theorem MA {σ:Nat→Nat}{n:Nat}(hσ:∀i,i<n→σ i=i){d:D}(hd:d.idsC n=true)(hn:d.noO=true):d.renC σ=d:=by
 cases d with
 |own id z n xs=>simp only[D.idsC,qJ] at hd;simp only[D.renC,hσ id hd]
 |pt k o=>simp only[D.idsC,qJ] at hd;simp only[D.renC,hσ k hd]
 |ow k o z n=>simp only[D.idsC,qJ] at hd;simp only[D.renC,hσ k hd]
 |gw k z n=>simp only[D.idsC,qJ] at hd;simp only[D.renC,hσ k hd]
 |fn f ks=>
  simp only[D.idsC,bZ,qJ] at hd
  simp only[D.renC]
  congr 1
  exact (oX fun k hk=>hσ k (hd k hk)).trans (Bu _)
 |opt b d=>cases hn
 |_=>rfl
theorem JJ {σ:Nat→Nat}{n:Nat}(hσ:∀i,i<n→σ i=i){ds:List D}(hd:ds.all (D.idsC n)=true)(hn:ds.all D.noO=true):ds.map (D.renC σ)=ds:=
 (oX fun d h=>MA hσ (bZ.1 hd d h) (bZ.1 hn d h)).trans (Bu _)
end
def TmR(σ:Nat→Nat)(m:Nat)(tm tm':List (Nat×D)):Prop:=∀p∈tm',tm.lookup p.1=some (p.2.ren σ)∧p.2.idsB m=true∧p.2.noOs=true
theorem TmR.nil {σ:Nat→Nat}{m:Nat}{tm:List (Nat×D)}:TmR σ m tm []:=fun p hp=>absurd hp (vB)
theorem TmR.cons {σ:Nat→Nat}{m t:Nat}{d:D}{tm tm':List (Nat×D)}(h2:TmR σ m tm tm')(h:tm.lookup t=some (d.ren σ))(hi:d.idsB m=true)(hn:d.noOs=true:=by exact rfl):TmR σ m tm ((t,d)::tm'):=fun p hp=>by
 rcases jx.1 hp with rfl|hp
 ·exact⟨h,hi,hn⟩
 ·exact h2 p hp
end
section
theorem AR.tu {hp:Hp}{ds es:List D}(h:ARs hp ds es):AR hp (.tu ds) (.tu es):=by
 intro B g w v hr hd
 obtain⟨h1,h2⟩:=h.get
 cases hd with
 |tu _ cs hl Fe=>
  refine aM.tu es cs (by omega) fun j e u hj hu=>?_
  obtain⟨d,h3,h4⟩:=h2 j e hj
  exact h4 B g w u hr (Fe j d u h3 hu)
def mkNu(x:ak)(h:okR x):Nu:=⟨x,h⟩
open Classical in
def te(x:ak):Nu:=if h:okR x then mkNu x h else default
theorem DV {x:ak}(h:okR x):nv (te x)=x:=by unfold te;rw[dif_pos h];rfl
theorem nuOf_nv(x:Nu):te (nv x)=x:=by unfold te;rw[dif_pos (show okR (nv x) from x.2)];rfl
def okL(l:List ak):Prop:=∀x∈l,okR x
theorem F8 {l:List ak}(h:okL l):(l.map te).map nv=l:=by
 rw[mz]
 exact (oX fun x hx=>DV (h x hx)).trans (Bu _)
theorem okL_nv(l:List Nu):okL (l.map nv):=fun x hx=>by
 obtain⟨a,_,rfl⟩:=qh.1 hx
 exact a.2
theorem map_nv(l:List Nu):(l.map nv).map te=l:=by
 rw[mz]
 exact (oX fun x _=>nuOf_nv x).trans (Bu _)
theorem AR.dn {hp:Hp}{e:E}(h:(D.e e).pure=true):AR hp (.e e) (.e e):=AR.data (d:=.e e) h
end
theorem nK:El prog 22 34 (.agg #[.bool false,.bool false,ae,ae,ae,ae,ae,ae,ae,ae,ae,ae,ae,ae,ae,ae,ae,ae,.bool false,.bool false,ae,ae,ae,ae,ae,ae,ae,ae,ae,ae,ae,ae,ae,ae,ae,ae]) 36 136:=⟨underlying22,info_parts (by kernel_rfl),rfl,by decide⟩
theorem nF(n:Nat)(us:List Value)(v:Value)(w:World)(hl:Sl w v 36 n us)(h1:∀u∈us,u.oneCell'=true)(hn:n≤1000000):
  Calls prog 97 #[v] w fun e w'=>∃q,e=.returned q∧w'.ownsRow w.heap.size 34 36 q n us∧Below w.heap.size w w':=by
 obtain⟨A,c,rfl,oB,nJ,hr⟩:=id hl
 cases A with
 |none=>
  obtain rfl:n=0:=by
   rcases iS n with h|h
   ·exact h
   ·obtain⟨_,h,_⟩:=hr.2 h;cases h
  obtain rfl:us=[]:=kJ (by simpa using hr.1)
  have he:(binOp .eql 22 (.slice none 0 c) (.slice none 0 0)).run prog w=.ok (.bool true) w:=by kernel_rfl
  go_enter func97,ntmps97
  go_wp2_with fail
  go_ret
  exact⟨_,rfl,⟨rfl,.inl ⟨rfl,rfl⟩⟩,Below.refl _ _⟩
 |some ad=>
  have he:(binOp .eql 22 (.slice (some ad) n c) (.slice none 0 0)).run prog w=.ok (.bool false) w:=by kernel_rfl
  go_enter func97,ntmps97
  have hown0:=own_mtG w 34 w.heap.size 36 (aL _)
  have Gz:=(Below.refl w.heap.size w).alloc (aL _) (.cells #[] 34)
  have vZ:=hl.below Gz
  have HL:=Lib.hid vZ
  have H1:=Lib.hid h1
  clear hl hr vZ h1
  go_wp2_with (at_builtin;refine v4 _ rfl _ _ _ rfl nK w.heap.size _ _ _ rfl hown0 _ _ _ rfl HL.out H1.out (by omega) (by omega) (by simp) w w.heap.size Gz (aL _) ?_)
  intro v' w' ku hb
  go_wp2_with fail
  go_ret
  refine⟨_,rfl,?_,hb⟩
  simpa using ku
theorem e8(n:Nat)(xs:List E)(hn:n≤1000000):aC prog 97 [.e (.sl 36 n xs)] (.own 34 36 n xs):=
 OH (by decide) ⟨_,func97,rfl,rfl⟩ (fun us v w h1 h2=>nF n us v w h1 h2 hn)
section
def FWd(ro:Option Nat):Fence:={Fence.wide with round:=ro}
section
variable {P:Program} {ro:Option Nat} {n:Nat}
theorem y0 {f:FuncId}{args:Array Value}{w:World}{R:Ending→World→Prop}(h:Calls P f args w R):CallsIn (FWd ro) n P f args w R:=(callsIn_wide (n:=n)).2 h
theorem HF {row:String}{args:Array Value}{w:World}{R:Value→World→Prop}(h:Rows P row args w R):RowsIn (FWd ro) n P row args w R:=fun c cs _=>by
 obtain⟨v,w',hr,hs⟩:=h c cs
 exact⟨v,w',hr,stepsIn_wide.2 hs⟩
theorem upon_in {o:Oper}{a:Act}{K:Act→World→Prop}{Q:Exit→Act→World→Prop}{r:Result Next}(h:o.upon P a K Q r):o.uponIn (FWd ro) n P a K Q r:=by
 cases r with
 |ok nx w'=>
  cases nx with
  |enter f args=>
   rw[Oper.upon_enter] at h
   rw[Oper.uponIn_enter]
   refine⟨fun hd=>(by cases hd),(y0 h).mono ?_⟩
   intro e w'' hh
   cases e <;> exact hh
  |row r args=>
   rw[Oper.uponIn_row]
   exact⟨fun hd=>(by cases hd),HF h⟩
  |value v=>exact h
  |skip=>exact h
  |«defer» d=>exact h
  |_=>exact h.elim
 |halt hx w'=>
  cases hx with
  |panic v=>exact h
  |_=>exact h.elim
def rR(ops:Array Oper):Bool:=ops.all fun o=>match o.op with
 | .defer _=>false
 |_=>true
theorem wl {ops:Array Oper}(h:rR ops=true){i:Nat}{o:Oper}(hi:ops[i]? =some o):∀c,o.op≠.defer c:=by
 unfold rR at h
 rw[IX] at h
 have:=h o (Array.mem_of_getElem? hi)
 intro c hc
 rw[hc] at this
 cases this
theorem op_in {o:Oper}{a:Act}{w:World}{K:Act→World→Prop}{Q:Exit→Act→World→Prop}(hd:∀c,o.op≠.defer c)(h:o.wp P a w K Q):o.wpIn (FWd ro) n P a w K Q:=by
 refine⟨fun _ _=>trivial,?_⟩
 rw[Oper.semAt_eq _ _ _ hd]
 exact upon_in h
end
section
variable {P:Program} {tb:TypeId→Option TyE} {x:Cx} {tm tm':List (Nat×D)} {hp hp':Hp} {a:Act} {w w':World} {ro:Option Nat} {n:Nat}
theorem z3 {ops:Array Oper}{K:List (Nat×D)→Hp→Prop}{Q:Exit→Act→World→Prop}(hN:jt x.N ops=true)(vY:rR ops=true)(tl:List Nat)(r2:List Oper)
  (hk:∀tm hp a w,K tm hp→RS x tm hp a w→wpOpsIn (FWd ro) n P ops Q tl a w)
  (rest:List Oper) (i:Nat) (tm:List (Nat×D)) (hp:Hp) (a:Act) (w:World) (hd:ops.toList.drop i=rest++r2) (h:bB P tb .seq ops K rest tm hp) (hr:RS x tm hp a w):wpOpsIn (FWd ro) n P ops Q (List.range' i rest.length++tl) a w:=by
 have step:∀{o:Oper} {os:List Oper} {i:Nat},ops.toList.drop i=o::os→ops[i]? =some o∧ops.toList.drop (i+1)=os:=by
  intro o os i hd
  refine⟨?_,by rw[←oK,hd];rfl⟩
  have:(ops.toList.drop i)[0]? =some o:=by rw[hd];rfl
  rw[pg] at this
  simpa using this
 induction h generalizing i a w with
 |nil h=>exact hk _ _ _ _ h hr
 |on d hp' hg h2 h1 ih=>
  obtain⟨ho,B3⟩:=step hd
  have vc:=fun t ht=>jN hN ho (t:=t) ht
  simp only[lX,EW,Bt]
  unfold wpOpsIn
  rw[ho]
  dsimp only
  obtain⟨g,_,ia,_⟩:=id hr
  rw[hg.wanted ia,az rfl]
  exact op_in (wl vY ho) (hr.op h2.ok vc fun a' w' oN=>ih (i+1) a' w' B3 oN)
 |off d hg hs h1 ih=>
  obtain⟨ho,B3⟩:=step hd
  have vc:=fun t ht=>jN hN ho (t:=t) ht
  simp only[lX,EW,Bt]
  unfold wpOpsIn
  rw[ho]
  dsimp only
  obtain⟨g,_,ia,_⟩:=id hr
  rw[hg.wanted ia,ay (by simp)]
  exact⟨fun _ _=>trivial,ih (i+1) _ _ B3 (hr.skip hs vc)⟩
 |sq _ d hp' hg h2 h1 ih=>
  obtain⟨ho,B3⟩:=step hd
  have vc:=fun t ht=>jN hN ho (t:=t) ht
  simp only[lX,EW,Bt]
  unfold wpOpsIn
  rw[ho]
  dsimp only
  obtain⟨g,_,ia,_⟩:=id hr
  rw[hg.wanted ia,az rfl]
  exact op_in (wl vY ho) (hr.op h2 vc fun a' w' oN=>ih (i+1) a' w' B3 oN)
 |wk _ hw h ih=>exact ih i a w hd (hw.rs hr)
def AV(P:Program)(ro:Option Nat)(x:Cx)(c:Code)(tm:List (Nat×D))(hp:Hp)(Q:Exit→Act→World→Prop):Prop:=∀a w,RS x tm hp a w→c.wpIn (FWd ro) 0 P Q a w
variable {Q:Exit→Act→World→Prop}
theorem AV.mono {c:Code}{Q':Exit→Act→World→Prop}(h:AV P ro x c tm hp Q)(hq:∀ex a w,Q ex a w→Q' ex a w):AV P ro x c tm hp Q':=fun a w hr=>wpIn_mono (h a w hr) hq
theorem z4 {c:Code}:c.wpIn (FWd none) n P Q a w↔c.wp P Q a w:=wpIn_wide (n:=n)
theorem AV.aw {c:Code}{Q':Exit→List (Nat×D)→Hp→Prop}(h:AW P x c tm hp Q')(hq:∀ex tm' hp' a w,Q' ex tm' hp'→RS x tm' hp' a w→Q ex a w):AV P none x c tm hp Q:=
 fun a w hr=>z4.2 (wp_mono (h a w hr) fun ex a' w' ⟨tm',hp',h1,h2⟩=>hq ex tm' hp' a' w' h2 h1)
theorem AV.seq {c c':Code}(h:AV P ro x c tm hp (Exit.then (fun a w=>c'.wpIn (FWd ro) 0 P Q a w) Q)):AV P ro x (.seq c c') tm hp Q:=fun a w hr=>wpIn_seq (h a w hr)
theorem AV.seqA {c c':Code}(h:AW P x c tm hp fun ex tm' hp'=>match ex with| .normal=>AV P none x c' tm' hp' Q|ex=>∀a w,RS x tm' hp' a w→Q ex a w):AV P none x (.seq c c') tm hp Q:=by
 refine AV.seq (AV.aw h ?_)
 intro ex tm' hp' a w h1 hr
 cases ex with
 |normal=>exact h1 a w hr
 |_=>exact h1 a w hr
theorem AV.block {id:Nat}{c:Code}(h:AV P ro x c tm hp (Exit.inBlock id Q)):AV P ro x (.block id c) tm hp Q:=fun a w hr=>wpIn_block (h a w hr)
theorem AV.ret(h:∀a w,RS x tm hp a w→Q .ret a w):AV P ro x .ret tm hp Q:=fun a w hr=>wpIn_ret (h a w hr)
theorem AV.skip(h:∀a w,RS x tm hp a w→Q .normal a w):AV P ro x .skip tm hp Q:=fun a w hr=>wpIn_skip (h a w hr)
theorem AV.weak {c:Code}(hw:Wk x tm hp tm' hp')(h:AV P ro x c tm' hp' Q):AV P ro x c tm hp Q:=fun a w hr=>h a w (hw a w hr)
theorem AV.cond {c:Operand}{c1 c2:Code}{b:Bool}(hc:evD tm c=.e (.lit (.bool b)))(ht:b=true→AV P ro x c1 tm hp Q)(hf:b=false→AV P ro x c2 tm hp Q):AV P ro x (.cond c c1 c2) tm hp Q:=by
 intro a w hr
 obtain⟨g,_,ia,_⟩:=id hr
 have hv:=wF ia c
 rw[hc] at hv
 refine wpIn_cond (t:=b) hv.lit ?_
 cases b
 ·exact hf rfl a w hr
 ·exact ht rfl a w hr
theorem AV.region {id:Nat}{ops:Array Oper}(hN:jt x.N ops=true)(vY:rR ops=true)(h:∀K:List (Nat×D)→Hp→Prop,(∀tm hp,(∀a w,RS x tm hp a w→Q .normal a w)→K tm hp)→bB P tb .seq ops K ops.toList tm hp):AV P ro x (.region id ops false) tm hp Q:=by
 intro a w hr
 refine wpIn_region ?_
 have:=z3 (ro:=ro) (n:=0) (Q:=Q) hN vY [] [] (fun tm hp a w hk hr=>by unfold wpOpsIn;exact hk a w hr) ops.toList 0 tm hp a w (by simp) (h _ fun _ _ h=>h) hr
 rwa[tG,eg,←LG] at this
theorem AV.loop {c:Code}(I:Nat→List (Nat×D)→Hp→Prop){n:Nat}{tm0:List (Nat×D)}{hp0:Hp}(hw:Wk x tm hp tm0 hp0)(h0:I n tm0 hp0)
  (round:∀n tm hp,I n tm hp→AV P none x c tm hp (Exit.then (fun a w=>∃m KU bG,m<n∧RS x KU bG a w∧I m KU bG) Q)):AV P none x (.loop c) tm hp Q:=by
 intro a w hr
 refine z4.2 (um (fun n a w=>∃tm hp,RS x tm hp a w∧I n tm hp) (n:=n) ⟨tm0,hp0,hw a w hr,h0⟩ (fun n a w ⟨tm,hp,hr,hI⟩=>wp_mono (z4.1 (round n tm hp hI a w hr)) ?_))
 intro ex a' w' h1
 cases ex with
 |normal=>
  obtain⟨m,KU,bG,h2,h3,h4⟩:=h1
  exact⟨m,h2,KU,bG,h3,h4⟩
 |_=>exact h1
theorem FN {tc:Option Tmp}{ty ta:Tmp}{ts:Array TypeId}{tyid:TypeId}{pos:String}{af:Array Edge}{l:Nat}{gd:Option (Nat×Bool)}(hy:a.eval (.tmp ty)=.func (.yield l) #[] #[]){fn:FuncId}{tmps:Array Value}{assign body:Code}(hr:(Instr.yield l #[a.eval (.tmp ta)]).run P w=.ok (.round l fn tmps assign body) w):
  (execOp a.eval ⟨tc,.call ⟨.value (.tmp ty),#[.tmp ta],ts⟩,tyid,pos,af,gd⟩).run P w=.ok (.round l fn tmps assign body) w:=by
 have AA:a.tmps[ty]?.getD undef=.func (.yield l) #[] #[]:=by simpa[Act.eval,cP] using hy
 have H9:(Instr.yield l #[a.tmps[ta]?.getD undef]).run P w=.ok (.round l fn tmps assign body) w:=by simpa[Act.eval,cP] using hr
 simp[execOp,resolve,invoke,AA,H9,go_sem]
end
end
section
section
variable {B:Nat} {hp hp' hp1 bG:Hp} {g g' g1 g2:Gh} {w w' w1 w2:World} {l:Nat} {o o':Obj}
theorem ry(hl:w.heap[l]? =some o)(ho:o.isCells=false)(rG:o'.isCells=false)(p:Addr):(w.putObj l o').cell? p=w.cell? p:=by
 by_cases hp:p.block=l
 ·unfold World.cell?
  rw[hp,hl,World.putObj_heap_same (gH.1 hl).1]
  cases o <;> cases o' <;> first|rfl|(cases rG;done)|(cases ho;done)
 ·exact World.cell?_of_block (World.putObj_heap_other hp)
theorem rp(hl:w.heap[l]? =some o)(ho:o.isCells=false){b:Nat}{cs:Array Value}{ty:TypeId}{r:Nat×Nat}(hb:w.heap[b]? =some (.cells cs ty r)):b≠l:=by
 rintro rfl
 rw[hl] at hb
 injection hb with hb
 subst hb
 cases ho
theorem cG.putO {F:Addr→Prop}{x:E}{v:Value}(h:cG w F x v)(hl:w.heap[l]? =some o)(ho:o.isCells=false)(rG:o'.isCells=false):cG (w.putObj l o') F x v:=
 h.mono (by simp) (fun p _ _=>ry hl ho rG p) fun _ _ h=>h
theorem aM.putO {d:D}{v:Value}(h:aM hp g w d v)(hl:w.heap[l]? =some o)(ho:o.isCells=false)(rG:o'.isCells=false):aM hp g (w.putObj l o') d v:=by
 induction h with
 |e x v h=>exact .e x v (h.putO hl ho rG)
 |own id z n xs v h hid ht=>exact .own id z n xs v (h.putO hl ho rG) hid ht
 |fu z n xs A h=>exact .fu z n xs A (h.putO hl ho rG)
 |ag ds cs hl h1 _ ih=>exact .ag ds cs hl h1 ih
 |tu ds cs hl _ ih=>exact .tu ds cs hl ih
 |fp xs off ad hb hc=>
  refine .fp xs off ad (by simpa using hb) (fun j x hx=>?_)
  obtain⟨u,h1,h2,h3⟩:=hc j x hx
  exact⟨u,(ry hl ho rG _).trans h1,h2,h3.putO hl ho rG⟩
 |pt k off hk=>exact .pt k off hk
 |ow k off z n c hk h1 h2=>exact .ow k off z n c hk h1 h2
 |gw k z n c hk h1 h2 hs=>
  obtain⟨cs,ty,r,h3,h4⟩:=hs
  exact .gw k z n c hk h1 h2 ⟨cs,ty,r,(World.putObj_heap_other (rp hl ho h3)).trans h3,h4⟩
 |fn f ks hk=>exact .fn f ks hk
 |opt b d v hi _ ih=>exact .opt b d v hi ih
 |top v=>exact .top v
theorem HR.putO(h:HR B hp g w)(hl:w.heap[l]? =some o)(ho:o.isCells=false)(rG:o'.isCells=false):HR B hp g (w.putObj l o'):=by
 refine⟨fun k ds hk=>?_,h.inj,fun id n e hi=>?_,h.tinj,by simpa using h.base,fun p hf=>by simpa using h.fits p hf⟩
 ·obtain⟨h1,h2,h3,cs,ty,h4,h5,h6⟩:=h.var k ds hk
  exact⟨h1,h2,h3,cs,ty,(World.putObj_heap_other (rp hl ho h4)).trans h4,h5,fun j u hu=>⟨(h6 j u hu).1,fun d hd=>((h6 j u hu).2 d hd).putO hl ho rG⟩⟩
 ·obtain⟨h1,us,hz,h2,h3⟩:=h.tok id n e hi
  refine⟨h1,us,hz,⟨h2.1,?_⟩,h3⟩
  rcases h2.2 with h0|⟨b,cap,cur,hv,hB,hh,r⟩
  ·exact .inl h0
  ·exact .inr ⟨b,cap,cur,hv,hB,(World.putObj_heap_other (rp hl ho hh)).trans hh,r⟩
theorem HR.free(h:HR B hp g w)(hl:w.heap[l]? =some o)(ho:o.isCells=false):Jg hp g l:=by
 refine⟨fun k ds hk=>?_,fun id t hi he=>?_⟩
 ·obtain⟨_,_,_,cs,ty,h4,_⟩:=h.var k ds hk
  exact rp hl ho h4
 ·obtain⟨h1,us,hz,h2,h3⟩:=h.tok id t.1 t.2 hi
  rcases h2.2 with⟨h0,_⟩|⟨b,cap,cur,hv,hB,hh,r⟩
  ·rw[h0] at he;cases he
  ·rw[hv] at he
   have:b=l:=by injection he
   exact rp hl ho hh this
theorem bI.patch {o1:Obj}(m:bI hp1 g1 (w1.putObj l o1) bG g2 w2)(hl:w1.heap[l]? =some o)(ho:o.isCells=false)(ho1:o1.isCells=false)(hf:Jg hp1 g1 l):bI hp1 g1 w1 bG g2 (w2.putObj l o):=by
 have bF:l<w1.heap.size:=(gH.1 hl).1
 have hs1:(w1.putObj l o1).heap.size=w1.heap.size:=by simp
 obtain⟨h2,h3,h4⟩:=m.fr l (by rw[hs1];exact bF) hf
 have h2:w2.heap[l]? =some o1:=h2.trans (World.putObj_heap_same bF)
 have hlt2:l<w2.heap.size:=(gH.1 h2).1
 refine⟨by have:=m.size;rw[hs1] at this;simpa using this,fun p hp hF=>?_,fun p hp hF=>m.forb p (by rw[hs1];exact hp) hF,m.next,m.μ,m.live,fun b hb hfb=>?_,fun b cs ty r hc=>?_⟩
 ·rw[ry h2 ho1 ho,m.cell p (by rw[hs1];exact hp) hF,ry hl ho ho1]
 ·obtain⟨h5,h6,h7⟩:=m.fr b (by rw[hs1];exact hb) hfb
  refine⟨?_,h6,h7⟩
  by_cases e:b=l
  ·subst e;rw[World.putObj_heap_same hlt2,hl]
  ·rw[World.putObj_heap_other e,h5,World.putObj_heap_other e]
 ·have e:b≠l:=rp hl ho hc
  obtain⟨sR,h5,h6⟩:=m.szs b cs ty r ((World.putObj_heap_other e).trans hc)
  exact⟨sR,(World.putObj_heap_other e).trans h5,h6⟩
theorem bI.putNew(m:bI hp g w hp' g' w')(hn:w.heap.size≤l)(hl:w'.heap[l]? =some o)(ho:o.isCells=false)(rG:o'.isCells=false):bI hp g w hp' g' (w'.putObj l o'):=by
 refine⟨by simpa using m.size,fun p hp hF=>by rw[ry hl ho rG];exact m.cell p hp hF,m.forb,m.next,m.μ,m.live,fun b hb hfb=>?_,fun b cs ty r hc=>?_⟩
 ·obtain⟨h5,h6,h7⟩:=m.fr b hb hfb
  exact⟨(World.putObj_heap_other (by omega)).trans h5,h6,h7⟩
 ·obtain⟨sR,h5,h6⟩:=m.szs b cs ty r hc
  have:b<w.heap.size:=(gH.1 hc).1
  exact⟨sR,(World.putObj_heap_other (by omega)).trans h5,h6⟩
theorem sh {w0:World}(h:Below B w0 w)(hl:B≤l):Below B w0 (w.putObj l o'):=
 ⟨h.os,h.tape,h.output,by simpa using h.size,fun k hk=>(World.putObj_heap_other (by omega)).trans (h.block k hk)⟩
end
structure vS(B:Nat)(hp:Hp)(g:Gh)(w:World)(hp':Hp)(g':Gh)(w':World):Prop where
 hr:HR B hp' g' w'
 mo:bI hp g w hp' g' w'
 bl:Below B w w'
 fo:∀p:Addr,p.block<B→g.F p→g'.F p
theorem vS.trans {B:Nat}{hp hp' bG:Hp}{g g' g2:Gh}{w w' w2:World}(h:vS B hp g w hp' g' w')(h':vS B hp' g' w' bG g2 w2):vS B hp g w bG g2 w2:=
 ⟨h'.hr,h.mo.trans h'.mo,h.bl.trans h'.bl,fun p hp hq=>h'.fo p hp (h.fo p hp hq)⟩
def Dc(r:Loop):Loop:={r with state:=.busy}
def pZ(r:Loop):Loop:={r with state:=.done,pending:=some .ret}
def YOk(P:Program)(B l:Nat)(rec:Loop)(hpE:Hp)(gE:Gh)(wE:World)(hp:Hp)(d:D)(Y S:Hp→Prop):Prop:=
 ∀g W v,vS B hpE gE wE hp g W→aM hp g W d v→YieldAt Fence.wide 0 P l #[v] W fun e w'=>
  (e=.returned (.bool true)∧∃hp' g',vS B hp g W hp' g' w'∧Y hp')∨
  (e=.returned (.bool false)∧∃hp' g' W',w'=W'.putObj l (.loop (pZ rec))∧W'.heap[l]? =some (.loop rec)∧vS B hp g W hp' g' W'∧S hp')
section
variable {P:Program} {tb:TypeId→Option TyE} {B l:Nat} {rec:Loop} {hpE hp:Hp} {gE:Gh} {wE:World} {d:D} {tm0:List (Nat×D)} {Y S:Hp→Prop}
theorem YOk.of {p:Tmp}(hlE:wE.heap[l]? =some (.loop rec))(hrE:HR B hpE gE wE)(xU:rec.state=.ready)(hpe:rec.pending=none)(hpar:rec.params=#[p])(hB:B≤l)(hp0:p<rec.tmps.size)
  (ia:∀t d,tm0.lookup t=some d→aM hpE gE wE d (rec.tmps.getD t undef))
  (has:∀x:Cx,x.N=rec.tmps.size→x.df=[]→x.hp0=hp→AV P (some l) x rec.assign ((p,d)::tm0) hp fun ex a w=>ex=.normal∧∃CK hp1,RS x CK hp1 a w∧
   ∀x:Cx,x.N=rec.tmps.size→x.df=[]→x.hp0=hp1→AV P (some l) x rec.body CK hp1 fun ex a w=>∃tm hp',RS x tm hp' a w∧match ex with| .normal=>Y hp'| .ret=>S hp'|_=>False):
  YOk P B l rec hpE gE wE hp d Y S:=by
 intro g W v hc hv
 have hfE:=hrE.free hlE rfl
 obtain⟨hl0,_,hf0⟩:=hc.mo.fr l (gH.1 hlE).1 hfE
 have hl:W.heap[l]? =some (.loop rec):=hl0.trans hlE
 refine⟨_,_,_,_,run_yield hl (by rw[hpar];rfl),roundIn_of_wpIn trivial ?_⟩
 rw[hpar]
 have AD:RS ⟨B,W,g.F,rec.tmps.size,hp,g,[]⟩ ((p,d)::tm0) hp {tmps:=((#[p]:Array Tmp).zip #[v]).foldl (fun tmps (t,a)=>tmps.setIfInBounds t a) rec.tmps,defers:=[]} W:=by
  refine⟨g,hc.hr,fun t d' ht=>?_,by simp,rfl,Below.refl _ _,fun _ _ h=>h,bI.refl _ _ _⟩
  have hz:(#[p]:Array Tmp).zip #[v]=#[(p,v)]:=by apply Array.ext';simp
  rw[hz]
  simp only[List.foldl_toArray',tE,List.foldl_nil,lW,lX,List.length_nil,br]
  by_cases e:t=p
  ·subst e
   have:some d=some d':=by rw[←ht];exact ai.symm
   injection this with this
   subst this
   simpa[cP,hp0] using hv
  ·have h0:=ia t d' (by rw[←ht];exact (ar e).symm)
   have:=h0.mono hc.mo
   simpa[cP,By (fun h:p=t=>e h.symm)] using this
 refine wpIn_mono (has ⟨B,W,g.F,rec.tmps.size,hp,g,[]⟩ rfl rfl rfl _ _ AD) ?_
 rintro ex a1 w1 ⟨rfl,CK,hp1,⟨g1,Nv,htm1,hsz1,hdf1,hB1,Fi,hM1⟩,hbo⟩
 obtain⟨hl1',_,JW⟩:=hM1.fr l (gH.1 hl).1 hf0
 have zA:w1.heap[l]? =some (.loop rec):=hl1'.trans hl
 have hlt1:=(gH.1 zA).1
 refine⟨_,run_beginRound zA xU,?_⟩
 have hmid:RS ⟨B,w1.putObj l (.loop (Dc rec)),g.F,rec.tmps.size,hp1,g1,[]⟩ CK hp1 a1 (w1.putObj l (.loop (Dc rec))):=
  ⟨g1,Nv.putO zA rfl rfl,fun t d ht=>(htm1 t d ht).putO zA rfl rfl,hsz1,hdf1,Below.refl _ _,Fi,bI.refl _ _ _⟩
 refine wpIn_mono (hbo ⟨B,w1.putObj l (.loop (Dc rec)),g.F,rec.tmps.size,hp1,g1,[]⟩ rfl rfl rfl _ _ hmid) ?_
 rintro ex a2 w2 ⟨tm,bG,⟨g2,H9,_,_,_,hB2,hF2,hM2⟩,hq⟩
 obtain⟨hl2',_,hf2⟩:=hM2.fr l (by simpa using hlt1) JW
 have vZ:w2.heap[l]? =some (.loop (Dc rec)):=hl2'.trans (World.putObj_heap_same hlt1)
 have hlt2:=(gH.1 vZ).1
 have hbl:Below B w1 w2:=⟨hB2.os,hB2.tape,hB2.output,by simpa using hB2.size,fun k hk=>(hB2.block k hk).trans (World.putObj_heap_other (by omega))⟩
 have uI:vS B hp g W bG g2 (w2.putObj l (.loop rec)):=⟨H9.putO vZ rfl rfl,hM1.trans (hM2.patch zA rfl rfl JW),sh (hB1.trans hbl) hB,hF2⟩
 cases ex with
 |normal=>
  refine⟨_,_,run_endRound none vZ,.inl ⟨rfl,bG,g2,?_,hq⟩⟩
  have:({(Dc rec) with state:=if (none:Option Code).isNone then .ready else .done,pending:=none}:Loop)=rec:=by
   obtain⟨s,q,f1,f2,f3,f4,f5,f6⟩:=rec
   dsimp only at xU hpe
   subst xU;subst hpe
   rfl
  rw[this];exact uI
 |ret=>
  refine⟨_,_,run_endRound (some .ret) vZ,.inr ⟨rfl,bG,g2,w2.putObj l (.loop rec),?_,World.putObj_heap_same hlt2,uI,hq⟩⟩
  show w2.putObj l _=(w2.putObj l _).putObj l _
  unfold World.putObj
  dsimp only
  congr 1
  simp[pZ,Dc]
 |_=>exact hq.elim
end
section
variable {P:Program} {tb:TypeId→Option TyE} {x:Cx} {tm CK:List (Nat×D)} {hp hp1:Hp} {Q:Exit→Act→World→Prop}
theorem AV.yield {id:Nat}{ops:Array Oper}{tc ty ta tn:Tmp}{ts:Array TypeId}{ty1 ty2 ty3:TypeId}{p1 p2:String}{a1 a2:Array Edge}{l:Nat}{rec:Loop}{hpE:Hp}{gE:Gh}{wE:World}(m:Nat)
  (NA:ops.toList=ops.toList.take m++[⟨some tc,.call ⟨.value (.tmp ty),#[.tmp ta],ts⟩,ty1,p1,a1,none⟩,⟨some tn,.unOp .not ty2 (.tmp tc),ty3,p2,a2,none⟩]) (hN:jt x.N ops=true) (vY:rR ops=true)
  (hx:x.hp0=hpE∧x.g0=gE∧x.w0=wE∧∀p:Addr,p.block<x.B→gE.F p→x.F0 p)
  (h1:∀K:List (Nat×D)→Hp→Prop,(∀CK hp1 d Y S,CK.lookup ty=some (.e (.lit (.func (.yield l) #[] #[])))→CK.lookup ta=some d→YOk P x.B l rec hpE gE wE hp1 d Y S→
    (∀bG a w,Y bG→RS x ((tn,.e (.lit (.bool false)))::(tc,.e (.lit (.bool true)))::CK) bG a w→Q .normal a w)→
    (∀bG g2 W' a,S bG→W'.heap[l]? =some (.loop rec)→vS x.B hpE gE wE bG g2 W'→a.defers=x.df→Q .ret a (W'.putObj l (.loop (pZ rec))))→K CK hp1)→bB P tb .seq ops K (ops.toList.take m) tm hp):
  AV P none x (.seq (.region id ops false) (.cond (.tmp tn) .ret .skip)) tm hp Q:=by
 generalize ops.toList.take m=pre at NA h1
 intro a w hr
 refine wpIn_seq (wpIn_region ?_)
 have hlen:ops.size=pre.length+2:=by rw[←eg,NA];simp
 have Cr:ops[pre.length]? =some ⟨some tc,.call ⟨.value (.tmp ty),#[.tmp ta],ts⟩,ty1,p1,a1,none⟩:=by
  rw[←vu,NA,tF (aL _)];simp
 have If:ops[pre.length+1]? =some ⟨some tn,.unOp .not ty2 (.tmp tc),ty3,p2,a2,none⟩:=by
  rw[←vu,NA,tF (by omega),show pre.length+1 - pre.length=1 by omega];rfl
 have JX:tc<x.N:=jN hN Cr rfl
 have nb:tn<x.N:=jN hN If rfl
 rw[hlen,LG,show List.range' 0 (pre.length+2)=List.range' 0 pre.length++[pre.length,pre.length+1] from by
  rw[←List.range'_append_1];simp[List.range']]
 refine z3 (K:=fun CK hp1=>∃d Y S,CK.lookup ty=some (.e (.lit (.func (.yield l) #[] #[])))∧CK.lookup ta=some d∧YOk P x.B l rec hpE gE wE hp1 d Y S∧
   (∀bG a w,Y bG→RS x ((tn,.e (.lit (.bool false)))::(tc,.e (.lit (.bool true)))::CK) bG a w→Q .normal a w)∧
   (∀bG g2 W' a,S bG→W'.heap[l]? =some (.loop rec)→vS x.B hpE gE wE bG g2 W'→a.defers=x.df→Q .ret a (W'.putObj l (.loop (pZ rec))))) hN vY _ _ ?_ pre 0 tm hp a w (by rw[qg];exact NA) (h1 _ fun CK hp1 d Y S q1 q2 q3 q4 q5=>⟨d,Y,S,q1,q2,q3,q4,q5⟩) hr
 rintro CK hp1 a w ⟨d,Y,S,hy,ha,hY,ht,hf⟩ ⟨g,hh,ia,hsz,q7,hB,hF,hM⟩
 -- the round
 unfold wpOpsIn
 rw[Cr]
 dsimp only
 rw[show Region.wanted (⟨some tc,.call ⟨.value (.tmp ty),#[.tmp ta],ts⟩,ty1,p1,a1,none⟩:Oper) (yielded ops a.tmps)=true from rfl,az rfl]
 have hye:a.eval (.tmp ty)=.func (.yield l) #[] #[]:=by
  have:=ia ty _ hy
  exact this.lit
 obtain⟨rfl,rfl,rfl,Lt⟩:=hx
 obtain⟨fn,tmps,assign,body,bK,hR⟩:=hY g w (a.eval (.tmp ta)) ⟨hh,hM,hB,fun p hp hq=>hF p hp (Lt p hp hq)⟩ (ia ta d ha)
 refine⟨fun _ _=>trivial,?_⟩
 rw[Oper.semAt_eq _ _ _ (by intro c h;cases h),FN hye bK]
 refine⟨fun h=>(by cases h),?_⟩
 have hR2:RoundIn (FWd none) 0 P l fn tmps assign body w _:=hR
 refine hR2.mono ?_
 intro e w' hq
 have ND:∀(b:Bool) (Q':Exit→Act→World→Prop),(∀aa,aa=(a.put (some tc) (.bool b)).put (some tn) (.bool (!b))→Q' .normal aa w')→wpOpsIn (FWd none) 0 P ops Q' [pre.length+1] (a.put (some tc) (.bool b)) w':=by
  intro b Q' hq
  unfold wpOpsIn
  rw[If]
  dsimp only
  rw[show Region.wanted (⟨some tn,.unOp .not ty2 (.tmp tc),ty3,p2,a2,none⟩:Oper) (yielded ops (a.put (some tc) (.bool b)).tmps)=true from rfl,az rfl]
  refine⟨fun _ _=>trivial,?_⟩
  rw[Oper.semAt_eq _ _ _ (by intro c h;cases h)]
  have he:(a.put (some tc) (.bool b)).eval (.tmp tc)=.bool b:=wh (by rw[hsz];exact JX)
  have hrun2:(execOp (a.put (some tc) (.bool b)).eval ⟨some tn,.unOp .not ty2 (.tmp tc),ty3,p2,a2,none⟩).run P w'=.ok (.value (.bool (!b))) w':=by
   have bF:tc<a.tmps.size:=by rw[hsz];exact JX
   simp[execOp,bF,Op.unary,go_sem]
  rw[hrun2]
  show wpOpsIn (FWd none) 0 P ops Q' [] _ w'
  unfold wpOpsIn
  exact hq _ rfl
 have yW:∀b:Bool,((a.put (some tc) (.bool b)).put (some tn) (.bool (!b))).eval (.tmp tn)=.bool (!b):=fun b=>wh (by rw[pT,hsz];exact nb)
 rcases hq with⟨rfl,bG,g2,hc,hq⟩|⟨rfl,bG,g2,W',rfl,hl,hc,hq⟩
 ·refine ND true _ ?_
  rintro aa rfl
  refine wpIn_cond_false (yW true) (wpIn_skip (ht bG _ _ hq ?_))
  refine⟨g2,hc.hr,zP (dst:=some tn) (d:=.e (.lit (.bool false))) (v:=.bool (!true)) (zP (dst:=some tc) (d:=.e (.lit (.bool true))) (v:=.bool true) (fun t d ht=>(ia t d ht).mono hc.mo) (.e _ _ (.lit (.bool true) rfl)) ?_) (.e _ _ (.lit (.bool false) rfl)) ?_,by rw[pT,pT,hsz],by rw[mq,mq,q7],hB.trans hc.bl,fun p h1 h2=>hc.fo p h1 (hF p h1 h2),hM.trans hc.mo⟩
  ·intro t e;cases e;rw[hsz];exact JX
  ·intro t e;cases e;rw[pT,hsz];exact nb
 ·refine ND false _ ?_
  rintro aa rfl
  refine wpIn_cond_true (yW false) (wpIn_ret (hf bG g2 W' _ hq hl ?_ (by rw[mq,mq,q7])))
  exact (vS.mk hh hM hB fun p hp hq=>hF p hp (Lt p hp hq)).trans hc
end
end
section
section
variable {P:Program} {tb:TypeId→Option TyE} {x:Cx} {tm CK:List (Nat×D)} {hp hp1:Hp} {Q:Exit→Act→World→Prop}
def DR(g:Gh)(ks:List Nat):Array Value:=(ks.map fun k=>Value.pointer (some ⟨g.μ k,0,none⟩)).toArray
def Jd(P:Program)(f:FuncId)(ks:List Nat)(B:Nat)(hp:Hp)(p:Tmp)(N:Nat)(LD bod:Code)(tm:List (Nat×D))(Y S:Hp→Prop):Prop:=
 ∀(g:Gh) (w:World) (l:Nat) (rec:Loop),HR B hp g w→w.heap[l]? =some (.loop rec)→B≤l→rec.state=.ready→rec.pending=none→rec.params=#[p]→rec.assign=LD→rec.body=bod→rec.tmps.size=N→(∀t d,tm.lookup t=some d→aM hp g w d (rec.tmps.getD t undef))→
  Calls P f (#[.func (.yield l) #[] #[]]++DR g ks) w fun e w'=>∃v,e=.returned v∧∃hp' g' W',vS B hp g w hp' g' W'∧((w'=W'∧Y hp')∨(w'=W'.putObj l (.loop (pZ rec))∧W'.heap[l]? =some (.loop rec)∧S hp'))
structure E9(x x':Cx)(D:Nat)(hp:Hp)(w:World):Prop where
 B:x'.B=x.B
 F0:x'.F0=x.F0
 N:x'.N=x.N
 df:x'.df={target:=.collected D,args:=#[]}::x.df
 hp0:x'.hp0=hp
 w0:x'.w0=w
 came:bI x.hp0 x.g0 x.w0 hp x'.g0 w
 below:Below x.B x.w0 w
 blk:w.heap[D]? =some (.deferred (some []))
 new:x.w0.heap.size≤D
 hr:HR x.B hp x'.g0 w
theorem AV.range {gop:Operand}{p:Tmp}{assign body:Code}{f:FuncId}{ks:List Nat}{Y S:Hp→Prop}(hg:evD tm gop=.fn f ks)(NX:Jh P f)(hB:x.B≤x.w0.heap.size)
  (hit:Jd P f ks x.B hp p x.N assign body tm Y S)
  (hn:∀x' D hp' a w,E9 x x' D hp' w→RS x' tm hp' a w→Y hp'→Q .normal a w)
  (hs:∀x' D hp' a w,E9 x x' D hp' w→RS x' tm hp' a w→S hp'→Q .ret a w):AV P none x (.rangeFunc gop #[p] assign body) tm hp Q:=by
 intro a w hr
 obtain⟨g,hh,ia,hsz,q7,hBl,hF,hM⟩:=id hr
 have hgv:=wF ia gop
 rw[hg] at hgv
 have hgv:a.eval gop=.func (.func f) #[] (DR g ks):=by
  generalize a.eval gop=v at hgv
  cases hgv with
  |fn _ _ _=>rfl
 refine wpIn_rangeFunc ?_
 intro fn _
 obtain⟨rec,zx⟩:∃rec:Loop,rec={state:=.ready,pending:=none,fn,tmps:=a.tmps,params:=#[p],assign,body,defers:=w.heap.size}:=⟨_,rfl⟩
 obtain⟨W1,hW1⟩:∃W1,(w.alloc (.deferred (some []))).alloc (.loop rec)=W1:=⟨_,rfl⟩
 have hL1:W1.heap[w.heap.size+1]? =some (.loop rec):=by
  rw[←hW1];have:=World.alloc_heap_new (w.alloc (.deferred (some []))) (.loop rec);rwa[World.size_alloc] at this
 have hK1:W1.heap[w.heap.size]? =some (.deferred (some [])):=by
  rw[←hW1];exact (Below.heap_alloc _ _ _ (by simp)).trans (World.alloc_heap_new w _)
 have hold:∀b,b<w.heap.size→W1.heap[b]? =w.heap[b]? :=fun b hb=>by
  rw[←hW1];exact (Below.heap_alloc _ _ _ (by simp;omega)).trans (Below.heap_alloc _ _ _ hb)
 have hsW:w.heap.size≤W1.heap.size:=by rw[←hW1];simp;omega
 have h1:HR x.B hp g W1:=hh.keep hsW hold
 have m1:bI hp g w hp g W1:=bI.keep hp g hsW hold
 have b1:Below x.B w W1:=by
  rw[←hW1]
  exact ((Below.refl x.B w).alloc hh.base _).alloc (by have:=hh.base;simp;omega) _
 have hD1:Jg hp g w.heap.size:=h1.free hK1 rfl
 refine⟨w.heap.size+1,[{target:=.collected w.heap.size,args:=#[]}],W1,{target:=.fn (.func f) (DR g ks),args:=#[.func (.yield (w.heap.size+1)) #[] #[]]},W1,f,
  #[.func (.yield (w.heap.size+1)) #[] #[]]++DR g ks,W1,?_,?_,fun _ _=>trivial,?_,fun h=>(by cases h),?_⟩
 ·rw[←hW1,zx];exact run_enterLoop_outer _ _ _ _ _
 ·simp only[resolve,hgv]
  simp[go_sem]
 ·obtain⟨fn',hf',hn',p9⟩:=NX
  have Gp : fn'.name ≠ "runtime.NumGoroutine" := by simpa using hn'
  have ly:¬fn'.body=none:=fun e=>by rw[e] at p9;cases p9
  simp[invoke,callFunc,hf',Gp,ly,go_sem]
 ·have hc:=hit g W1 (w.heap.size+1) rec h1 hL1 (by have:=hh.base;omega) (by rw[zx]) (by rw[zx]) (by rw[zx]) (by rw[zx]) (by rw[zx]) (by rw[zx];exact hsz) (fun t d ht=>by rw[zx];exact (ia t d ht).mono m1)
  refine (y0 (n:=0) hc).mono ?_
  rintro e w3 ⟨v,rfl,hp',g',W',uI,hq⟩
  obtain⟨xW,_,hfk⟩:=uI.mo.fr w.heap.size (gH.1 hK1).1 hD1
  have hkW:W'.heap[w.heap.size]? =some (.deferred (some [])):=xW.trans hK1
  -- what holds behind,whatever the record says
  have fin:∀(o':Obj),o'.isCells=false→W'.heap[w.heap.size+1]? =some (.loop rec)→
    E9 x ⟨x.B,W'.putObj (w.heap.size+1) o',x.F0,x.N,hp',g',{target:=.collected w.heap.size,args:=#[]}::x.df⟩ w.heap.size hp' (W'.putObj (w.heap.size+1) o')∧
    RS ⟨x.B,W'.putObj (w.heap.size+1) o',x.F0,x.N,hp',g',{target:=.collected w.heap.size,args:=#[]}::x.df⟩ tm hp' {a with defers:=[{target:=.collected w.heap.size,args:=#[]}]++a.defers} (W'.putObj (w.heap.size+1) o'):=by
   intro o' rG hl
   have oN:=uI.hr.putO (o':=o') hl rfl rG
   refine⟨⟨rfl,rfl,rfl,rfl,rfl,rfl,?_,?_,?_,?_,oN⟩,g',oN,fun t d ht=>(((ia t d ht).mono m1).mono uI.mo).putO hl rfl rG,hsz,by simp[q7],Below.refl _ _,fun p h1 h2=>uI.fo p h1 (hF p h1 h2),bI.refl _ _ _⟩
   ·exact hM.trans ((m1.trans uI.mo).putNew (by omega) hl rfl rG)
   ·exact sh (hBl.trans (b1.trans uI.bl)) (by have:=hh.base;omega)
   ·exact (World.putObj_heap_other (by omega)).trans hkW
   ·exact hM.size
  have hlW:W'.heap[w.heap.size+1]? =some (.loop rec):=(uI.mo.fr _ (gH.1 hL1).1 (h1.free hL1 rfl)).1.trans hL1
  rcases hq with⟨rfl,hY⟩|⟨rfl,_,hS⟩
  ·have he:=run_endLoop (P:=P) hlW (by rw[zx];simp)
   have hpn:rec.pending=none:=by rw[zx]
   refine⟨none,_,he.trans (congrArg (fun q=>Result.ok q _) hpn),?_⟩
   obtain⟨h5,h6⟩:=fin (.loop {rec with state:=.exhausted}) rfl hlW
   exact hn _ _ hp' _ _ h5 h6 hY
  ·have Lj:(W'.putObj (w.heap.size+1) (.loop (pZ rec))).heap[w.heap.size+1]? =some (.loop (pZ rec)):=World.putObj_heap_same (gH.1 hlW).1
   have he:=run_endLoop (P:=P) Lj (by simp[pZ])
   refine⟨some .ret,_,he,?_⟩
   obtain⟨h5,h6⟩:=fin (.loop {(pZ rec) with state:=.exhausted}) rfl hlW
   have hw:(W'.putObj (w.heap.size+1) (.loop (pZ rec))).putObj (w.heap.size+1) (.loop {(pZ rec) with state:=.exhausted})=W'.putObj (w.heap.size+1) (.loop {(pZ rec) with state:=.exhausted}):=by
    unfold World.putObj
    dsimp only
    congr 1
    simp
   rw[hw]
   exact wpIn_ret (hs _ _ hp' _ _ h5 h6 hS)
theorem Ex {B:Nat}{w:World}{F:Addr→Prop}{N:Nat}{g:Gh}{ds:List D}{vs:Array Value}(hr:HR B hp g w)(hF:∀p:Addr,p.block<B→F p→g.F p)(hN:ds.length≤N)(hsz:vs.size=ds.length)(tX:∀(j:Nat) (d:D) (u:Value),ds[j]? =some d→vs[j]? =some u→aM hp g w d u):
  RS ⟨B,w,F,N,hp,g,[]⟩ (ee 0 ds) hp {tmps:=vs++Array.replicate (N - vs.size) undef,defers:=[]} w:=by
 refine⟨g,hr,fun t d ht=>?_,by simp;omega,rfl,Below.refl _ _,hF,bI.refl _ _ _⟩
 obtain⟨_,h2⟩:=nB ht
 have bF:t<ds.length:=by
  rw[Bx] at h2
  rcases ci t ds.length with hh|hh
  ·exact hh
  ·rw[jv hh] at h2;cases h2
 have hv:vs[t]? =some vs[t]:=lY (by omega)
 have:=tX t d vs[t] (by simpa using h2) hv
 have he:(vs++Array.replicate (N - vs.size) undef).getD t undef=vs[t]:=by
  rw[cP,yp (by omega),hv];rfl
 rw[he]
 exact this
def LN(x:Cx)(G:Cx→List (Nat×D)→Hp→Prop)(ex:Exit)(a:Act)(w:World):Prop:=
 (ex=.normal∨ex=.ret)∧∃x' D hp1 w1 tm bG,E9 x x' D hp1 w1∧RS x' tm bG a w∧G {x with df:=x'.df} tm bG
theorem LN.leaves {fn:Func}{R:Ending→World→Prop}{G:Cx→List (Nat×D)→Hp→Prop}{ex:Exit}{a:Act}{w:World}(h:LN x G ex a w)(q7:x.df=[])
  (hk:∀x2 tm bG D w2,x2.B=x.B→x2.w0=x.w0→x2.F0=x.F0→x2.N=x.N→x2.hp0=x.hp0→x2.g0=x.g0→RS x2 tm bG a w→G x2 tm bG→w2=w.putObj D (.deferred none)→w.heap[D]? =some (.deferred (some []))→x.w0.heap.size≤D→∃v,(results fn a.tmps).run P w2=.ok v w2∧R (.returned v) w2):
  bodyPostM (FWd none) 0 P fn R ex a w:=by
 obtain⟨hex,x',D,hp1,w1,tm,bG,hb,hr,hG⟩:=h
 obtain⟨g,hh,ia,hsz,hdf2,hBl,hF,hM⟩:=hr
 rw[hb.hp0,hb.w0] at hM
 rw[hb.B] at hh hBl hF
 rw[hb.w0] at hBl
 have NW:=hb.hr.free hb.blk rfl
 obtain⟨hkD,_,_⟩:=hM.fr D (gH.1 hb.blk).1 NW
 have hkD:w.heap[D]? =some (.deferred (some [])):=hkD.trans hb.blk
 have H9:RS {x with df:=x'.df} tm bG a w:=⟨g,hh,ia,by rw[hsz,hb.N],hdf2,hb.below.trans hBl,fun p h1 h2=>hF p h1 (by rw[hb.F0];exact h2),hb.came.trans hM⟩
 have fin:LeavesInM (FWd none) 0 P fn a.tmps R a.defers .returning w:=by
  rw[hdf2,hb.df,q7]
  refine⟨by simp,.inl ⟨D,_,rfl,run_takeDeferred hkD,?_⟩⟩
  obtain⟨v,h1,h2⟩:=hk {x with df:=x'.df} tm bG D _ rfl rfl rfl rfl rfl rfl H9 hG rfl hkD hb.new
  exact⟨v,h1,h2⟩
 rcases hex with rfl|rfl <;> exact fin
theorem HC.ofM (tok : TOk P tb) {f : FuncId} {fn : Func} {c : Code} {ds : List D} {hp hp' : Hp} {r : D} {rs : List ResultVar} (hf : P.funcs[f]? = some fn) (hb : fn.body = some c) (rt : (fn.name == "runtime.NumGoroutine") = false) (hN : ds.length ≤ fn.ntmps) (hrs : fn.results.toList = rs)
  (h:∀x:Cx,x.N=fn.ntmps→x.hp0=hp→x.df=[]→eY hp→x.B≤x.w0.heap.size→AV P none x c (ee 0 ds) hp (LN x fun x2 tm bG=>∃tm',Wk x2 tm bG tm' hp'∧vL tb rs tm' hp' r)):HC P f ds hp r hp':=by
 subst hrs
 refine⟨⟨fn,hf,rt,by rw[hb];rfl⟩,fun B g w vs hr hsz tX=>?_⟩
 refine (callsIn_wide (n:=0)).1 (callsIn_of_wp_marks (F:=FWd none) hf hb trivial (wpIn_mono (h ⟨B,w,g.F,fn.ntmps,hp,g,[]⟩ rfl rfl rfl hr.ok hr.base _ _ (Ex hr (fun _ _ h=>h) hN hsz tX)) ?_))
 intro ex a w' he
 refine he.leaves rfl ?_
 rintro x2 tm bG D w2 h1 h2 h3 h4 h5 h6 hrs ⟨tm',LS,H8⟩ rfl hD sP
 obtain⟨g',oN,ia,_,_,hB,hF,hM⟩:=LS a w' hrs
 rw[h1] at oN hB hF
 rw[h2] at hB
 rw[h2,h5,h6] at hM
 rw[h3] at hF
 have sI:=hr.base
 obtain⟨v,bK,lB⟩:=sx (x:=⟨B,w,g.F,fn.ntmps,hp,g,[]⟩) (g:=g') tok rfl H8 (oN.putO (o':=.deferred none) hD rfl rfl) (fun t d ht=>(ia t d ht).putO hD rfl rfl)
 have sP:w.heap.size≤D:=sP
 exact⟨v,bK,v,g',rfl,oN.putO hD rfl rfl,hM.putNew sP hD rfl rfl,lB,sh hB (by omega),hF⟩
def RdOk(P:Program)(N:Nat)(p:Tmp)(LD bod:Code)(tm:List (Nat×D))(hp:Hp)(d:D)(Y S:Hp→Prop):Prop:=∀(l:Nat) (x:Cx),x.N=N→x.df=[]→x.hp0=hp→AV P (some l) x LD ((p,d)::tm) hp fun ex a w=>ex=.normal∧∃CK hp1,RS x CK hp1 a w∧
 ∀x:Cx,x.N=N→x.df=[]→x.hp0=hp1→AV P (some l) x bod CK hp1 fun ex a w=>∃tm hp',RS x tm hp' a w∧match ex with| .normal=>Y hp'| .ret=>S hp'|_=>False
theorem Jd.of {f:FuncId}{fn:Func}{c:Code}{ks:List Nat}{B:Nat}{p:Tmp}{N:Nat}{LD bod:Code}{Y S:Hp→Prop}(hf:P.funcs[f]? =some fn)(hb:fn.body=some c)(hN:ks.length+1≤fn.ntmps)(lB:fn.results=#[])(hpN:p<N)(Lk:∀k∈ks,k<hp.next)
  (h:∀(g:Gh) (w:World) (l:Nat) (rec:Loop) (x:Cx),x.B=B→x.hp0=hp→x.g0=g→x.w0=w→x.F0=g.F→x.N=fn.ntmps→x.df=[]→eY hp→(∀hp1 d Y' S',RdOk P N p LD bod tm hp1 d Y' S'→YOk P B l rec hp g w hp1 d Y' S')→
   AV P none x c (ee 0 (.e (.lit (.func (.yield l) #[] #[]))::ks.map fun k=>.pt k 0)) hp fun ex a w'=>((ex=.normal∨ex=.ret)∧∃tm' hp',RS x tm' hp' a w'∧Y hp')∨
    (ex=.ret∧a.defers=x.df∧∃hp' g' W',w'=W'.putObj l (.loop (pZ rec))∧W'.heap[l]? =some (.loop rec)∧vS B hp g w hp' g' W'∧S hp')):Jd P f ks B hp p N LD bod tm Y S:=by
 intro g w l rec hr hl hBl xU hpe hpar hasg hbod hsz ia
 have hmk:∀hp1 d Y' S',RdOk P N p LD bod tm hp1 d Y' S'→YOk P B l rec hp g w hp1 d Y' S':=by
  intro hp1 d Y' S' hrd
  subst hasg hbod hsz
  exact YOk.of hl hr xU hpe hpar hBl hpN ia (hrd l)
 have qE:RS ⟨B,w,g.F,fn.ntmps,hp,g,[]⟩ (ee 0 (.e (.lit (.func (.yield l) #[] #[]))::ks.map fun k=>.pt k 0)) hp {tmps:=(#[Value.func (.yield l) #[] #[]]++DR g ks)++Array.replicate (fn.ntmps - (#[Value.func (.yield l) #[] #[]]++DR g ks).size) undef,defers:=[]} w:=by
  refine Ex hr (fun _ _ h=>h) (by simpa using hN) (by simp[DR,ls]) fun j d u hd hu=>?_
  cases j with
  |zero=>
   have hu0:(#[Value.func (.yield l) #[] #[]]++DR g ks)[0]? =some (Value.func (.yield l) #[] #[]):=by rw[yp (by simp)];rfl
   rw[hu0] at hu
   injection hu with hu
   injection hd with hd
   subst hd;subst hu
   exact .e _ _ (.lit _ rfl)
  |succ j=>
   simp only[IW,dc] at hd
   rw[Array.getElem?_append_right (by simp)] at hu
   simp[DR] at hu
   cases hk:ks[j]? with
   |none=>simp[hk] at hd
   |some k=>
    simp[hk] at hd hu
    subst hd;subst hu
    exact .pt k 0 (Lk k (b8 hk))
 have hend:∀(a:Act) (w':World),(results fn a.tmps).run P w'=.ok (.tuple #[]) w':=fun a w'=>by
  unfold results
  rw[lB,Sem.run_bind]
  simp
 refine (callsIn_wide (n:=0)).1 (callsIn_of_wp (F:=FWd none) hf hb trivial (wpIn_mono (h g w l rec ⟨B,w,g.F,fn.ntmps,hp,g,[]⟩ rfl rfl rfl rfl rfl rfl rfl hr.ok hmk _ _ qE) ?_))
 rintro ex a w' (⟨hex,tm',hp',⟨g',h1,_,_,h4,h5,h6,h7⟩,hY⟩|⟨rfl,q7,hp',g',W',h1,h2,h3,hS⟩)
 ·have:bodyPost P fn (fun e w'=>∃v,e=.returned v∧∃hp' g' W',vS B hp g w hp' g' W'∧((w'=W'∧Y hp')∨(w'=W'.putObj l (.loop (pZ rec))∧W'.heap[l]? =some (.loop rec)∧S hp'))) .ret a w':=
   ⟨h4,_,hend a w',_,rfl,hp',g',w',⟨h1,h7,h5,h6⟩,.inl ⟨rfl,hY⟩⟩
  rcases hex with rfl|rfl <;> exact this
 ·exact⟨q7,_,hend a w',_,rfl,hp',g',W',h3,.inr ⟨h1,h2,hS⟩⟩
end
end
section
theorem Pt.one(d:D):Pt [d] 0 [d] id:=Pt.of [] [] rfl rfl fun y=>by simp
section
variable {P:Program} {tb:TypeId→Option TyE} {md:Md} {dst:Option Tmp} {ty2:TypeId} {pos:String} {af:Array Edge} {gd:Option (Nat×Bool)} {ev:Operand→D} {hp:Hp} {x lo hi mx:Operand} {k off z n l h:Nat} {t e:TypeId} {ti j:TyE} {k1 k2 k3:IntKind}
theorem slW3(tok:TOk P tb)(hlh:l<h)(hhn:h≤n)(ht:tb t=some ti)(he:tb e=some j)(AJ:ev lo=dI k1 (l:Int))(Hl:ev hi=dI k2 (h:Int))(hmx:ev mx=dI k3 (h:Int))(yR:ti.ty=.slice e:=by exact rfl)(hx:ev x=.ow k off z n:=by exact rfl)(hz:z=j.size:=by exact rfl):
  mD P tb md ⟨dst,.slice t x (some lo) (some hi) (some mx),ty2,pos,af,gd⟩ ev hp (.ow k (off+l*z) z (h - l)) hp:=by
 subst hz
 refine (Snd.calm (dr:=md.dr) fun bG _=>.pure fun B g w a hr vX=>?_).q (by cases md <;> rfl)
 have h1:=vX x (by simp[Op.operands])
 have e1:=vX lo (by simp[Op.operands])
 have e2:=vX hi (by simp[Op.operands])
 have e3:=vX mx (by simp[Op.operands])
 rw[hx] at h1
 rw[AJ] at e1
 rw[Hl] at e2
 rw[hmx] at e3
 have e1:=e1.lit
 have e2:=e2.lit
 have e3:=e3.lit
 have hs:=tok.run_sizeOf he w
 generalize hv:a.eval x=v at h1
 cases h1 with
 |ow _ _ _ _ c hk oB nJ=>
  have hb:(Instr.sliceBounds true n c (some (Value.int k1 (l:Int))) (some (Value.int k2 (h:Int))) (some (Value.int k3 (h:Int)))).run P w=.ok (l,h,h) w:=by
   have q1:h≤c:=by omega
   have q2:l≤h:=by omega
   simp[Instr.sliceBounds,run_sliceBound,q1,q2]
  refine⟨.slice (some ⟨g.μ k,off+l*j.size,none⟩) (h - l) (h - l),?_,.ow _ _ _ _ _ hk (aL _) (by omega)⟩
  have lg:¬h=l:=by omega
  have Lq:(⟨g.μ k,off,none⟩:Addr).add (l*j.size)=⟨g.μ k,off+l*j.size,none⟩:=by unfold Addr.add;split <;> simp_all
  simp[execOp,Instr.sliceAt,Instr.slice,hv,e1,e2,e3,run_underlying (tok.slice ht yR),hb,hs,lg,Lq]
end
section
variable {ops:Array Oper} {K:List (Nat×D)→Hp→Prop} {os:List Oper} {tm:List (Nat×D)} {hp hp':Hp} {t:Tmp} {op:Op} {ty:TypeId} {pos:String} {af:Array Edge} {d:D}
theorem q1s(h:nL prog ⟨some t,op,ty,pos,af,none⟩ (evD tm) hp d hp')(h2:bB prog tbl .seq ops K os ((t,d)::tm) hp'):bB prog tbl .seq ops K (⟨some t,op,ty,pos,af,none⟩::os) tm hp:=.sq rfl d hp' rfl h h2
end
section
variable {x:Cx} {Q:Exit→Act→World→Prop} {tm:List (Nat×D)} {hp:Hp}
theorem vrs {n id:Nat}{l:List Oper}{b:Code}(hx:x.N=n)(h:∀K:List (Nat×D)→Hp→Prop,(∀tm hp,AV prog none x b tm hp Q→K tm hp)→bB prog tbl .seq l.toArray K l tm hp)(hN:jt n l.toArray=true:=by kernel_rfl):AV prog none x (.seq (.region id l.toArray false) b) tm hp Q:=
 AV.seqA (rq hx (fun K hK=>h K fun tm hp hh=>hK _ _ hh) hN)
theorem vrsd {n id:Nat}{l:List Oper}{b:Code}(L:List FuncId)(hx:x.N=n)(h:∀K:List (Nat×D)→Hp→Prop,(∀tm hp,AV prog none x b tm hp Q→K tm hp)→bB prog tbl (.any L) l.toArray K l tm hp)(hN:jt n l.toArray=true:=by kernel_rfl)(oS:uz tbl L l.toArray=true:=by kernel_rfl):AV prog none x (.seq (.region id l.toArray true) b) tm hp Q:=
 AV.seqA (rqd L hx (fun K hK=>h K fun tm hp hh=>hK _ _ hh) hN oS)
theorem vrq {n id:Nat}{l:List Oper}(hx:x.N=n)(h:∀K:List (Nat×D)→Hp→Prop,(∀tm hp,(∀a w,RS x tm hp a w→Q .normal a w)→K tm hp)→bB prog tbl .seq l.toArray K l tm hp)(hN:jt n l.toArray=true:=by kernel_rfl):AV prog none x (.region id l.toArray false) tm hp Q:=
 AV.aw (Q':=fun ex tm' hp'=>ex=.normal∧∀a w,RS x tm' hp' a w→Q .normal a w) (rq hx (fun K hK=>h K fun tm hp hh=>hK _ _ ⟨rfl,hh⟩) hN) fun ex tm' hp' a w h1 hr=>by obtain⟨rfl,h1⟩:=h1;exact h1 a w hr
theorem vrr {n id:Nat}{ro:Option Nat}{l:List Oper}(hx:x.N=n)(h:∀K:List (Nat×D)→Hp→Prop,(∀tm hp,(∀a w,RS x tm hp a w→Q .normal a w)→K tm hp)→bB prog tbl .seq l.toArray K l tm hp)(hN:jt n l.toArray=true:=by kernel_rfl)(vY:rR l.toArray=true:=by kernel_rfl):AV prog ro x (.region id l.toArray false) tm hp Q:=
 AV.region (tb:=tbl) (by rw[hx];exact hN) vY h
theorem vrrs {n id:Nat}{ro:Option Nat}{l:List Oper}{b:Code}(hx:x.N=n)(h:∀K:List (Nat×D)→Hp→Prop,(∀tm hp,AV prog ro x b tm hp Q→K tm hp)→bB prog tbl .seq l.toArray K l tm hp)(hN:jt n l.toArray=true:=by kernel_rfl)(vY:rR l.toArray=true:=by kernel_rfl):AV prog ro x (.seq (.region id l.toArray false) b) tm hp Q:=
 AV.seq (vrr hx (fun K hK=>h K fun tm hp hh=>hK _ _ fun a w hr=>hh a w hr) hN vY)
end
section
variable {vs:List (Nat×List D)} {lv:List (Nat×Nat×Nat×TypeId)} {N C R kM:Nat}
def gQ(kM n:Nat):D:=if n=0 then dL a5 [] else .ow kM 0 36 n
theorem h_Chunk {dV:D}(hC:1≤C)(hC2:C≤1000000)(hV:dV.idsC N=true)(yX:D.cells dV=some [dV]):
  HC prog 139 [dV,dI .i64 C] ⟨vs,lv,N⟩ (.fn 174 [N,N+1]) ⟨(N+1,[dI .i64 C])::(N,[dV])::vs,lv,N+1+1⟩:=by
 refine HC.of (rs:=[.tmp 4]) tok func139 rfl rfl (bg rfl) rfl (fun cx hx h0 hok=>?_)
 simp only[ee,Nat.reduceAdd,br]
 have NC:eY ⟨(N,[dV])::vs,lv,N+1⟩:=hok.cons (dH _) (dY _) (by simpa using D.idsC_le (dH N) hV)
 have xV:eY ⟨(N+1,[dI .i64 C])::(N,[dV])::vs,lv,N+1+1⟩:=NC.cons (dH _) (dY _) rfl
 refine rs hx fun K hK=>?_
 refine s1 (d:=.pt N 0) (iX (cs:=[dV]) (show D.cells (evD [(0,dV),(1,dI .i64 C)] (.tmp 0))=_ from yX)) ?_
 refine s1 (d:=.pt (N+1) 0) (iX (cs:=[dI .i64 C]) rfl) ?_
 refine sa ?_
 refine .nil (hK _ _ (AW.seq (rs hx fun K hK=>?_)))
 refine c1 (Pt.one _) ?_
 refine sa ?_
 refine .nil (hK _ _ (AW.condF rfl (def_) (AW.skip (rs hx fun K hK=>?_))))
 refine s1 (d:=.fn 174 [N,N+1]) uQ ?_
 refine sa ?_
 exact .nil (hK _ _ (AW.ret (⟨[(4,.fn 174 [N,N+1])],wkS (by rw[h0];show N≤N+1+1;omega) (aL _) xV (fun j ds h=>h) (od.cons od.nil rfl (by simp[D.idsB,D.idsC];omega)),⟨_,ai,rfl⟩⟩)))
end
theorem Wk.tmS {x:Cx}{tm tm':List (Nat×D)}{hp:Hp}(h:∀t d,tm'.lookup t=some d→tm.lookup t=some d):Wk x tm hp tm' hp:=by
 rintro a w ⟨g,h1,h2,h3,h4,h5,h6,h7⟩
 exact⟨g,h1,fun t d ht=>h2 t d (h t d ht),h3,h4,h5,h6,h7⟩
theorem KV {tm:List (Nat×D)}:∀t d,([]:List (Nat×D)).lookup t=some d→tm.lookup t=some d:=fun t d h=>by simp at h
theorem tin {tm tm':List (Nat×D)}{t:Nat}{d:D}(h2:∀t d,tm'.lookup t=some d→tm.lookup t=some d)(h:tm.lookup t=some d:=by exact rfl):∀t' d',((t,d)::tm').lookup t'=some d'→tm.lookup t'=some d':=fun t' d' ht=>by
 by_cases e:t'=t
 ·subst e
  have:some d=some d':=by rw[←ht];exact ai.symm
  rw[h,this]
 ·exact h2 t' d' (by rw[←ht];exact (ar e).symm)
theorem lenM {dr:Bool}{ty:TypeId}{ev:Operand→D}{hp:Hp}{kM n:Nat}{x:Operand}(hx:ev x=gQ kM n):AVC prog tbl dr (.call ⟨.builtin .len,#[x],#[22]⟩) ty ev hp (Kq (dI .i64 (n:Nat)) hp):=by
 by_cases h:n=0
 ·subst h
  have hx:ev x=dL a5 []:=hx
  exact T_len (n:=0) (xs:=[]) aP aA rfl (by rw[hx];rfl)
 ·have hx:ev x=.ow kM 0 36 n:=by rw[hx];exact ay h
  exact yB aP aA rfl hx
section
variable {hpE:Hp} {I:Nat→Hp→Prop} {ks kn kM R C B:Nat} {p:Tmp} {Nt:Nat} {LD bod:Code} {tm0:List (Nat×D)}
theorem M9(hC:1≤C)(JY:R*C≤1000000)(hC2:C≤1000000)(Lk:ks<hpE.next)(yT:kn<hpE.next)(hpN:p<Nt)(h0:I 0 hpE)
  (hI:∀q hp,I q hp→hp.vars.lookup ks=some [gQ kM (R*C)]∧hp.vars.lookup kn=some [dI .i64 C]∧ks<hp.next∧kn<hp.next)
  (hrd:∀q hp,q<R→I q hp→RdOk prog Nt p LD bod tm0 hp (.ow kM (q*C*36) 36 C) (I (q+1)) (fun _=>False)):
  Jd prog 174 [ks,kn] B hpE p Nt LD bod tm0 (I R) (fun _=>False):=by
 refine Jd.of func174 rfl (bg rfl) rfl hpN (by simp[Lk,yT]) (fun g w l rec x hB xb hg0 hw0 Lt hN q7 hok hmk=>?_)
 simp only[cp,dh,ee,Nat.reduceAdd,br]
 refine vrs hN fun K hK=>?_
 refine sa ?_
 refine .nil (hK _ _ (AV.block ?_))
 refine AV.loop (fun n tm hp=>∃q:Nat,q≤R∧n=R - q∧I q hp∧tm=[(0,.e (.lit (.func (.yield l) #[] #[]))),(1,.pt ks 0),(2,.pt kn 0),(4,dI .i64 (q*C:Nat))]) (tm0:=[(0,.e (.lit (.func (.yield l) #[] #[]))),(1,.pt ks 0),(2,.pt kn 0),(4,dI .i64 (0*C:Nat))]) (hp0:=hpE) (n:=R) ?_ ⟨0,dZ _,rfl,h0,rfl⟩ ?_
 ·rw[fj]
  exact Wk.tmS (tin (tin (tin (tin KV))))
 ·rintro n tm hp ⟨q,hq,rfl,hIq,rfl⟩
  obtain⟨e1,e2,hk1,xW⟩:=hI q hp hIq
  have hqC:q*C≤R*C:=cg C hq
  refine AV.seqA ?_
  refine rs hN fun K hK=>?_
  refine sa ?_
  refine c1 (Pt.one _) ?_
  refine s1 (d:=dI .i64 (R*C:Nat)) (lenM rfl) ?_
  refine sa ?_
  refine .nil (hK _ _ (AW.condS rfl (fun hb=>?_) (fun hb=>?_)))
  ·have bF:q<R:=by
    have:=pi hb
    rcases ci q R with h|h
    ·exact h
    ·have:R*C≤q*C:=cg C h
     omega
   have hq1:(q+1)*C≤R*C:=cg C bF
   rw[bj,de] at hq1
   have hm:gQ kM (R*C)=.ow kM 0 36 (R*C):=ifn_
   rw[hm] at e1
   refine AW.skip (AV.seq (AV.block ?_))
   refine vrsd [] hN fun K hK=>?_
   refine c1 (Pt.one _) ?_
   refine c1 (Pt.one _) ?_
   refine sa ?_
   refine q1 (slW (l:=((q*C:Nat):Int)) (h:=((R*C:Nat):Int)) tok ⟨by omega,by omega,by omega,by omega⟩ aP aA ⟨.i64,rfl⟩ rfl) ?_
   refine s1 (yB aP aA) ?_
   iterate 2 refine sa ?_
   refine .nil (hK _ _ ?_)
   rw[show min (C:Int) ((((R*C:Nat):Int) - ((q*C:Nat):Int)).toNat:Int)=(C:Int) by omega]
   refine AV.yield (tb:=tbl) (x:=x) (l:=l) (rec:=rec) (hpE:=hpE) (gE:=g) (wE:=w) 10 rfl (by rw[hN];kernel_rfl) (by kernel_rfl) ⟨xb,hg0,hw0,fun p _ hp=>by rw[Lt];exact hp⟩ (fun K hK=>?_)
   refine sa ?_
   refine c1 (Pt.one _) ?_
   iterate 7 refine sa ?_
   rw[qw (show -9223372036854775808≤((q*C:Nat):Int)+(C:Int) by omega) (by omega)]
   refine q1 (slW3 (l:=q*C) (h:=q*C+C) tok (by omega) (by omega) aP aA rfl rfl rfl) ?_
   rw[show q*C+C - q*C=C by omega,br]
   refine .nil (hK _ _ _ (I (q+1)) (fun _=>False) rfl rfl (by rw[hB];exact hmk _ _ _ _ (hrd q hp bF hIq)) ?_ ?_)
   ·intro bG a w hI2 hr
    obtain⟨e3,e4,hk3,hk4⟩:=hI (q+1) bG hI2
    show Code.wpIn (FWd none) 0 prog _ _ a w
    refine (vrq hN fun K hK=>?_) a w hr
    refine sa ?_
    refine c1 (Pt.one _) ?_
    iterate 2 refine sa ?_
    rw[qw (show -9223372036854775808≤((q*C:Nat):Int)+(C:Int) by omega) (by omega)]
    refine .nil (hK _ _ ?_)
    intro a w hr
    refine⟨R - (q+1),_,bG,by omega,?_,q+1,bF,rfl,hI2,rfl⟩
    have hc:((q*C:Nat):Int)+(C:Int)=(((q+1)*C:Nat):Int):=by rw[bj,de];omega
    rw[hc] at hr
    exact Wk.tmS (tin (tin (tin (tin KV)))) a w hr
   ·rintro bG g2 W' a hS
    exact hS.elim
  ·refine AW.exit ?_
   intro a w hr
   have hqR:q=R:=by
    have:=oW hb
    rcases ci q R with h|h
    ·have:(q+1)*C≤R*C:=cg C h
     rw[bj,de] at this
     omega
    ·omega
   subst hqR
   exact .inl ⟨.inl rfl,_,_,hr,hIq⟩
end
end
section
def iU(kM C n:Nat):List D:=(List.range n).map fun i=>.ow kM (i*C*36) 36 C
theorem u3(kM C n:Nat):iU kM C (n+1)=iU kM C n++[.ow kM (n*C*36) 36 C]:=by
 unfold iU;rw[uO,mg];rfl
theorem CN(kM C n:Nat):(iU kM C n).length=n:=by unfold iU;simp
theorem ri {kM C n N:Nat}(h:kM<N):(iU kM C n).all (D.idsC N)=true:=by
 unfold iU
 rw[bZ]
 intro d hd
 obtain⟨i,_,rfl⟩:=qh.1 hd
 exact dU h
def we(k n:Nat):D:=if n=0 then .e (.lit (.slice none 0 0)) else .gw k 1 n
theorem C9 {l:List (Nat×List D)}{k j:Nat}(h:j≠k):(l.filter fun p=>!([k]:List Nat).contains p.1).lookup j=l.lookup j:=by
 induction l with
 |nil=>rfl
 |cons p l ih=>
  obtain⟨a,b⟩:=p
  by_cases e:a=k
  ·subst e
   rw[List.filter_cons_of_neg (by simp),ih,ar h]
  ·rw[List.filter_cons_of_pos (by simpa using e)]
   by_cases e2:j=a
   ·subst e2;rw[ai,ai]
   ·rw[ar e2,ar e2,ih]
def o0(k n:Nat):D:=if n=0 then .e (.sl 1 0 []) else .gw k 1 n
def qA(k kM C n:Nat)(vs:List (Nat×List D)):List (Nat×List D):=if n=0 then vs else (k,iU kM C n)::vs
section
variable {vs:List (Nat×List D)} {lv:List (Nat×Nat×Nat×TypeId)} {N C R kM ks kn:Nat}
def AsI(vs:List (Nat×List D))(lv:List (Nat×Nat×Nat×TypeId))(N kM C q:Nat)(hp:Hp):Prop:=
 ∃V N1 kR,hp=⟨V,lv,N1⟩∧eY hp∧N+2≤N1∧V.lookup N=some [we kR q]∧(∀j ds,vs.lookup j=some ds→V.lookup j=some ds)∧(0<q→N+2≤kR∧kR<N1∧V.lookup kR=some (iU kM C q))
theorem Gx(hC:1≤C)(JY:R*C≤1000000)(hC2:C≤1000000)(hs:vs.lookup ks=some [gQ kM (R*C)])(hn:vs.lookup kn=some [dI .i64 C])(hkM:kM<N)(vc:∀k ds,vs.lookup k=some ds→ds.all D.noO=true):
  HC prog 173 [.e (.lit (.slice none 0 0)),.fn 174 [ks,kn]] ⟨vs,lv,N⟩ (o0 N R) ⟨qA N kM C R vs,lv,N+1⟩:=by
 refine HC.ofM (rs:=[.tmp 4]) tok func173 rfl rfl (bg rfl) rfl (fun x hN h0 q7 hok hB=>?_)
 simp only[ee,Nat.reduceAdd,br]
 have Lk:=hok.lt hs
 have yT:=hok.lt hn
 refine vrs hN fun K hK=>?_
 refine s1 (d:=.pt N 0) (iX (cs:=[.e (.lit (.slice none 0 0))]) rfl) ?_
 refine s1 (d:=.own (N+1) 1 0 []) (ek l5 aP) ?_
 refine .nil (hK _ _ (AV.seq ?_))
 refine vrs hN fun K hK=>?_
 refine sa ?_
 refine .nil (hK _ _ (AV.block ?_))
 have NC:eY ⟨(N,[.e (.lit (.slice none 0 0))])::vs,(N+1,0,1,22)::lv,N+2⟩:=by
  refine⟨fun j es hj=>?_,fun id e hi=>?_⟩
  ·rcases dE hj with⟨e1,rfl⟩|⟨_,hj⟩
   ·exact⟨by rw[e1];show N<N+2;omega,rfl⟩
   ·obtain⟨h1,h2⟩:=hok.var j es hj
    exact⟨bT h1 (by show N≤N+2;omega),bZ.2 fun d hd=>D.idsC_le (by show N≤N+2;omega) (bZ.1 h2 d hd)⟩
  ·by_cases e1:id=N+1
   ·rw[e1];show N+1<N+2;omega
   ·have:=hok.tok id e (by rw[←hi];exact (ar e1).symm)
    have h2:id<N:=this
    show id<N+2;omega
 refine AV.range (f:=174) (ks:=[ks,kn]) (Y:=AsI vs ((N+1,0,1,22)::lv) N kM C R) (S:=fun _=>False) rfl ⟨_,func174,rfl,rfl⟩ hB
  (M9 (kM:=kM) (I:=AsI vs ((N+1,0,1,22)::lv) N kM C) hC JY hC2 (by show ks<N+2;omega) (by show kn<N+2;omega) (by rw[hN];exact bg rfl) ?_ ?_ ?_) ?_ ?_
 ·exact⟨_,_,0,rfl,NC,aL _,ai,fun j ds h=>am (hok.ne h (aL _)) h,fun h=>absurd h (by omega)⟩
 ·rintro q hp ⟨V,N1,kR,rfl,hokV,hN1,e1,tX,hR⟩
  exact⟨tX _ _ hs,tX _ _ hn,by show ks<N1;omega,by show kn<N1;omega⟩
 ·rintro q hp hq ⟨V,N1,kR,rfl,hokV,hN1,e1,tX,hR⟩ l y hy _ _
  refine vrr (hy.trans hN) (fun K hK=>?_)
  refine sa ?_
  refine .nil (hK _ _ fun a w hr=>⟨rfl,_,_,hr,fun y2 AA _ h0y=>AV.block (vrr (AA.trans hN) (fun K hK=>?_))⟩)
  have hkN:N<N1:=by omega
  have p7:([.ow kM (q*C*36) 36 C]:List D).length=1:=rfl
  by_cases hq0:q=0
  ·have hd:we kR q=.e (.lit (.slice none 0 0)):=by rw[hq0];rfl
   rw[hd] at e1
   refine c1 (Pt.one _) ?_
   refine sa ?_
   have Cm:D.cells (D.ow kM (q*C*36) 36 C)=some [.ow kM (q*C*36) 36 C]:=rfl
   refine q1s (d:=.gw N1 1 1) (hp':=⟨(N1,[D.ow kM (q*C*36) 36 C])::V,(N+1,0,1,22)::lv,N1+1⟩) (JL (cs:=[.ow kM (q*C*36) 36 C]) tok l5 aP Cm rfl) ?_
   refine q1 (d:=.gw (N1+1) 1 1) (hp':=⟨(N1+1,[D.ow kM (q*C*36) 36 C])::(N1,[D.ow kM (q*C*36) 36 C])::V,(N+1,0,1,22)::lv,N1+1+1⟩) (appN (ky:=N1) (news:=[.ow kM (q*C*36) 36 C]) tok l5 aP ai rfl rfl rfl (by decide)) ?_
   refine v1 (k:=N) (F:=[we kR q]) (ys:=[.gw (N1+1) 1 1]) (Pt.one _) rfl rfl rfl ?_ rfl (am (show N≠N1+1 by omega) (am (show N≠N1 by omega) (by rw[hd];exact e1)))
   refine .nil (hK _ _ ?_)
   intro a w hr
   refine⟨_,_,hr,?_⟩
   refine⟨_,_,N1+1,rfl,?_,by omega,?_,fun j ds hj=>?_,fun _=>⟨by omega,by omega,?_⟩⟩
   ·exact ((hokV.cons (M:=N1+1+1) (by omega) (show N1<N1+1+1 by omega) (by simp[D.idsC];omega)).consM (show N1+1<N1+1+1 by omega) (by simp[D.idsC];omega)).consM (show N<N1+1+1 by omega) (by simp[D.idsC])
   ·rw[show we (N1+1) (q+1)=.gw (N1+1) 1 1 by rw[hq0];rfl];exact ai
   ·have h1:=hok.lt hj
    exact am (by omega) (am (by omega) (am (by omega) (tX j ds hj)))
   ·rw[u3,show iU kM C q=[] by rw[hq0];rfl]
    exact am (by omega) ai
  ·have hqp:0<q:=by omega
   obtain⟨k1,k2,k3⟩:=hR hqp
   have hd:we kR q=.gw kR 1 q:=ay hq0
   rw[hd] at e1
   have Cm:D.cells (D.ow kM (q*C*36) 36 C)=some [.ow kM (q*C*36) 36 C]:=rfl
   refine c1 (Pt.one _) ?_
   refine sa ?_
   refine q1s (d:=.gw N1 1 1) (hp':=⟨(N1,[D.ow kM (q*C*36) 36 C])::V,(N+1,0,1,22)::lv,N1+1⟩) (JL (cs:=[.ow kM (q*C*36) 36 C]) tok l5 aP Cm rfl) ?_
   refine q1s (d:=.gw (N1+1) 1 (q+1)) (hp':=⟨(N1+1,iU kM C q++[D.ow kM (q*C*36) 36 C])::((N1,[D.ow kM (q*C*36) 36 C])::V).filter (fun p=>!([kR]:List Nat).contains p.1),(N+1,0,1,22)::lv,N1+1+1⟩) (appR_ok (k:=kR) (n:=q) (ky:=N1) (ds:=iU kM C q) (news:=[.ow kM (q*C*36) 36 C]) tok l5 aP (am (show kR≠N1 by omega) k3) ai rfl rfl (by rw[CN];exact (sr q).symm) rfl (by
    have:q*1≤R*C:=pC (kz hq) hC
    show (q+1)*24≤_;omega)) ?_
   refine v1 (k:=N) (F:=[we kR q]) (ys:=[.gw (N1+1) 1 (q+1)]) (Pt.one _) rfl rfl rfl ?_ rfl (am (show N≠N1+1 by omega) ((C9 (show N≠kR by omega)).trans (am (show N≠N1 by omega) (by rw[hd];exact e1))))
   refine .nil (hK _ _ ?_)
   intro a w hr
   refine⟨_,_,hr,?_⟩
   have hfil:eY ⟨((N1,[D.ow kM (q*C*36) 36 C])::V).filter fun p=>!([kR]:List Nat).contains p.1,(N+1,0,1,22)::lv,N1+1+1⟩:=by
    have h1:=hokV.cons (M:=N1+1+1) (by omega) (show N1<N1+1+1 by omega) (show ([D.ow kM (q*C*36) 36 C]).all (D.idsC (N1+1+1))=true by simp[D.idsC];omega)
    exact⟨fun j ds hj=>h1.var j ds (lc hj).2,h1.tok⟩
   refine⟨_,_,N1+1,rfl,?_,by omega,?_,fun j ds hj=>?_,fun _=>⟨by omega,by omega,?_⟩⟩
   ·refine (hfil.consM (show N1+1<N1+1+1 by omega) ?_).consM (show N<N1+1+1 by omega) (by simp[D.idsC])
    rw[←u3]
    exact ri (by omega)
   ·rw[show we (N1+1) (q+1)=.gw (N1+1) 1 (q+1) from ifn_];exact ai
   ·have h1:=hok.lt hj
    exact am (by omega) (am (by omega) ((C9 (by omega)).trans (am (by omega) (tX j ds hj))))
   ·rw[u3]
    exact am (by omega) ai
 ·rintro x' Db hp' a w hbh hrs ⟨V,N1,kR,rfl,hokV,hN1,e1,tX,hR⟩
  show Code.wpIn (FWd none) 0 prog _ _ a w
  refine (vrs (x:=x') (hbh.N.trans hN) fun K hK=>?_) a w hrs
  have hokL:∀id e,lv.lookup id=some e→id<N:=hok.tok
  by_cases Ho:R=0
  ·have hd:we kR R=.e (.lit (.slice none 0 0)):=by rw[Ho];rfl
   rw[hd] at e1
   refine c1 (Pt.one _) ?_
   refine s1 (d:=.own N1 1 0 []) (hp':=⟨V,(N1,0,1,22)::(N+1,0,1,22)::lv,N1+1⟩) (ek l5 aP) ?_
   refine .nil (hK _ _ (AV.ret fun a w hr=>⟨.inr rfl,x',Db,_,_,_,_,hbh,hr,[(4,.e (.sl 1 0 []))],?_,⟨_,ai,az Ho⟩⟩))
   unfold qA
   rw[az Ho]
   refine wkS2 (by show x.hp0.next≤_;rw[h0];exact dH N) (by omega) (hok.up (dH N)) tX (fun j y hj=>?_) (fun p hp=>?_)
   ·have:=hokL j y hj
    exact (ar (by omega)).trans ((ar (by omega)).trans hj)
   ·rw[G3] at hp
    subst hp
    exact⟨⟨_,ai,.inr rfl⟩,rfl⟩
  ·obtain⟨k1,k2,k3⟩:=hR (by omega)
   have hd:we kR R=.gw kR 1 R:=ay Ho
   rw[hd] at e1
   refine c1 (Pt.one _) ?_
   refine sa ?_
   refine .nil (hK _ _ (AV.ret fun a w hr=>⟨.inr rfl,x',Db,_,_,_,_,hbh,hr,[(4,.gw N 1 R)],?_,?_⟩))
   ·obtain⟨σ,hσ⟩:∃σ:Nat→Nat,σ=fun i=>if i=N then kR else i:=⟨_,rfl⟩
    have s1:σ N=kR:=by rw[hσ];exact az rfl
    have s2:∀i,i<N→σ i=i:=fun i hi=>by rw[hσ];exact ifn_
    refine Wk.perm σ (by show x.hp0.next≤_;rw[h0];exact dH N) (fun i hi=>s2 i (by have:i<x.hp0.next:=hi;rw[h0] at this;exact this)) (fun i j hi hj he=>?_) (TmR.cons TmR.nil ?_ ?_) (fun k ds hk=>?_) (fun k y hk=>?_)
    ·rcases ci i N with h1|h1 <;> rcases ci j N with h2|h2
     ·rw[s2 i h1,s2 j h2] at he;exact he
     ·rw[s2 i h1,show j=N by omega,s1] at he;omega
     ·rw[s2 j h2,show i=N by omega,s1] at he;omega
     ·omega
    ·show _=some (D.gw (σ N) 1 R)
     rw[s1];exact rfl
    ·exact dU (dY N)
    ·unfold qA at hk
     rw[ay Ho] at hk
     rcases dE hk with⟨e,rfl⟩|⟨e,hk⟩
     ·rw[e]
      refine⟨dY N,?_,ri (by omega),?_⟩
      ·rw[s1,JJ s2 (ri hkM) (by unfold iU;rw[bZ];intro d hd;obtain⟨i,_,rfl⟩:=qh.1 hd;rfl)]
       exact k3
      ·unfold iU;rw[bZ];intro d hd;obtain⟨i,_,rfl⟩:=qh.1 hd;rfl
     ·have hkN:=hok.lt hk
      have h2:=(hok.var k ds hk).2
      refine⟨by omega,?_,bZ.2 fun d hd=>D.idsC_le (dH N) (bZ.1 h2 d hd),vc k ds hk⟩
      rw[s2 k hkN,JJ s2 h2 (vc k ds hk)]
      exact tX k ds hk
    ·have hkN:=hokL k y hk
     refine⟨by omega,?_⟩
     rw[s2 k hkN]
     exact (ar (by omega)).trans hk
   ·exact⟨_,ai,ay Ho⟩
 ·rintro x' D hp' a w _ _ hS
  exact hS.elim
end
end
section
section
variable {vs:List (Nat×List D)} {lv:List (Nat×Nat×Nat×TypeId)} {N C R kM ks kn:Nat}
theorem Lr(hC:1≤C)(JY:R*C≤1000000)(hC2:C≤1000000)(hs:vs.lookup ks=some [gQ kM (R*C)])(hn:vs.lookup kn=some [dI .i64 C])(hkM:kM<N)(vc:∀k ds,vs.lookup k=some ds→ds.all D.noO=true):
  HC prog 138 [.fn 174 [ks,kn]] ⟨vs,lv,N⟩ (o0 (N+1) R) ⟨qA (N+1) kM C R vs,lv,N+1+1⟩:=by
 refine HC.of (rs:=[.tmp 2]) tok func138 rfl rfl (bg rfl) rfl (fun cx hx h0 hok=>?_)
 simp only[ee,Nat.reduceAdd,br]
 have hap:=Gx (lv:=(N,0,1,22)::lv) (N:=N+1) hC JY hC2 hs hn (by omega) vc
 have hokL:∀id e,lv.lookup id=some e→id<N:=hok.tok
 have hokH:eY ⟨qA (N+1) kM C R vs,lv,N+1+1⟩:=by
  unfold qA
  split
  ·exact hok.up (by omega)
  ·exact hok.cons (by omega) (by omega) (ri (by omega))
 refine rs hx fun K hK=>?_
 refine s1 (d:=.own N 1 0 []) (hp':=⟨vs,(N,0,1,22)::lv,N+1⟩) (ek l5 aP) ?_
 refine .nil (hK _ _ ?_)
 have LS:∀tm,tm.lookup 2=some (o0 (N+1) R)→∃tm',Wk cx tm ⟨qA (N+1) kM C R vs,(N,0,1,22)::lv,N+1+1⟩ tm' ⟨qA (N+1) kM C R vs,lv,N+1+1⟩∧vL tbl [.tmp 2] tm' ⟨qA (N+1) kM C R vs,lv,N+1+1⟩ (o0 (N+1) R):=by
  intro tm ht
  refine⟨[(2,o0 (N+1) R)],wkS2 (by rw[h0];show N≤_;omega) (aL _) hokH (fun j ds h=>h) (fun j y hj=>(ar (by have:=hokL j y hj;omega)).trans hj) (od.cons od.nil ht ?_),⟨_,ai,rfl⟩⟩
  unfold o0
  split
  ·rfl
  ·exact det_
 by_cases Ho:R=0
 ·have hq:o0 (N+1) R=.e (.sl 1 0 []):=az Ho
  rw[hq] at hap LS ⊢
  refine rs hx fun K hK=>?_
  refine sa ?_
  refine q1 (sHC hap rfl (.inl (by kernel_rfl))) ?_
  refine sa ?_
  exact .nil (hK _ _ (AW.ret (LS _ rfl)))
 ·have hq:o0 (N+1) R=.gw (N+1) 1 R:=ay Ho
  rw[hq] at hap LS ⊢
  refine rs hx fun K hK=>?_
  refine sa ?_
  refine q1 (sHC hap rfl (.inl (by kernel_rfl))) ?_
  refine sa ?_
  exact .nil (hK _ _ (AW.ret (LS _ rfl)))
def kZ(kM R C:Nat):List D:=[dI .i64 R,dI .i64 C,gQ kM (R*C)]
theorem At {M:Nat}(h:kM<M)(n:Nat):(gQ kM n).idsC M=true:=by
 unfold gQ
 split
 ·rfl
 ·exact dU h
theorem HO(kM n:Nat):D.cells (gQ kM n)=some [gQ kM n]:=by
 unfold gQ
 split <;> rfl
theorem h_steps(hkM:kM<N):HC prog 108 [.ag (kZ kM R C)] ⟨vs,lv,N⟩ (.fn 137 [N]) ⟨(N,kZ kM R C)::vs,lv,N+1⟩:=by
 refine HC.of (rs:=[.tmp 2]) tok func108 rfl rfl (bg rfl) rfl (fun cx hx h0 hok=>?_)
 simp only[ee,Nat.reduceAdd,br]
 have NC:eY ⟨(N,kZ kM R C)::vs,lv,N+1⟩:=hok.cons (dH _) (dY _) (by unfold kZ;simp only[jy,fO,dX];simp only[At (show kM<N+1 by omega),dX];rfl)
 refine rs hx fun K hK=>?_
 refine s1 (d:=.pt N 0) (iX (cs:=kZ kM R C) rfl) ?_
 refine sa ?_
 refine .nil (hK _ _ (rs hx fun K hK=>?_))
 refine s1 (d:=.fn 137 [N]) uQ ?_
 refine sa ?_
 exact .nil (hK _ _ (AW.ret (⟨[(2,.fn 137 [N])],wkS (by rw[h0];show N≤N+1;omega) (aL _) NC (fun j ds h=>h) (od.cons od.nil rfl (by simp[D.idsB,D.idsC])),⟨_,ai,rfl⟩⟩)))
end
section
variable {md:Md} {ops:Array Oper} {K:List (Nat×D)→Hp→Prop} {os:List Oper} {tm:List (Nat×D)} {hp:Hp} {t:Tmp} {ty:TypeId} {pos:String} {af:Array Edge} {k i j o n C:Nat} {x y:Operand}
theorem i1r(h:j<C)(h2:bB prog tbl md ops K os ((t,.pt k ((i*C+j)*36))::tm) hp)(hx:evD tm x=.ow k (i*C*36) 36 C:=by exact rfl)(hy:evD tm y=dI .i64 (j:Int):=by exact rfl)(hn:md.nc tbl (.indexAddr 22 x y)=true:=by exact rfl):bB prog tbl md ops K (⟨some t,.indexAddr 22 x y,ty,pos,af,none⟩::os) tm hp:=by
 have:=w5 (P:=prog) (tb:=tbl) (dr:=md.dr) (ty:=ty) (ev:=evD tm) (hp:=hp) (x:=x) (y:=y) (v:=(j:Int)) (n:=C) (kn:=.i64) ⟨by omega,by omega⟩ aP aA rfl hx rfl hy
 rw[bL,show i*C*36+j*36=(i*C+j)*36 by rw[bj]] at this
 exact s1 this h2 hn
theorem uF(h:i<n)(h2:bB prog tbl md ops K os ((t,.pt k (o+i))::tm) hp)(hx:(evD tm x).toOw=.ow k o 1 n:=by exact rfl)(hy:(evD tm y).toOw=dI .i64 (i:Int):=by exact rfl)(hn:md.nc tbl (.indexAddr 52 x y)=true:=by exact rfl):bB prog tbl md ops K (⟨some t,.indexAddr 52 x y,ty,pos,af,none⟩::os) tm hp:=by
 have:=w5 (P:=prog) (tb:=tbl) (dr:=md.dr) (ty:=ty) (ev:=fun x=>(evD tm x).toOw) (hp:=hp) (x:=x) (y:=y) (v:=(i:Int)) (n:=n) (kn:=.i64) ⟨by omega,by omega⟩ l5 aP rfl hx rfl hy
 rw[bL,show o+i*1=o+i by omega] at this
 exact stG (d:=.pt k (o+i)) tok this h2 hn
end
theorem Pt.row {kM C n i:Nat}(h:i<n):Pt (iU kM C n) i [.ow kM (i*C*36) 36 C] (fun ys=>(iU kM C n).take i++ys++(iU kM C n).drop (i+1)):=by
 have hlen:=CN kM C n
 have hg:(iU kM C n)[i]? =some (.ow kM (i*C*36) 36 C):=by unfold iU;rw[dc,IV h];rfl
 refine Pt.of ((iU kM C n).take i) ((iU kM C n).drop (i+1)) (by rw[eI,hlen];omega) ?_ fun y=>rfl
 conv=>lhs;rw[←tC i (iU kM C n)]
 rw[dP]
 congr 1
 rw[IU (by rw[hlen];exact h)]
 have:=pf.1 hg
 obtain⟨_,h2⟩:=this
 rw[h2];rfl
section
variable {vs:List (Nat×List D)} {lv:List (Nat×Nat×Nat×TypeId)} {N C R kM kk kR k i:Nat} {V:List Nu}
theorem h_pred(hM:vs.lookup kM=some (dC ((cW a5).f V)))(NS:vs.lookup kk=some [dI .i64 k])(hV:V.length=R*C)(hi:i<R)(hk:k<C):
  HC prog 141 [.ow kM (i*C*36) 36 C,.pt kk 0] ⟨vs,lv,N⟩ (dB (decide (kY V[i*C+k]!≠0))) ⟨vs,lv,N⟩:=by
 refine HC.of (rs:=[.tmp 3]) tok func141 rfl rfl (bg rfl) rfl (fun cx hx h0 hok=>?_)
 simp only[ee,Nat.reduceAdd,br]
 have hkM:=hok.lt hM
 have hkN:=hok.lt NS
 have hpl:i*C+k<V.length:=by rw[hV];exact cd hi hk
 refine rs hx fun K hK=>?_
 refine sa ?_
 refine .nil (hK _ _ (rs hx fun K hK=>?_))
 refine sa ?_
 refine c1 (Pt.one _) ?_
 refine i1r (i:=i) (j:=k) hk ?_
 refine l1 (Pt.el V (i*C+k) hpl) ?_
 refine cq (Ma _) ?_
 refine sa ?_
 refine sa ?_
 exact .nil (hK _ _ (AW.ret (rt1 h0 (hv:=fun j ds h=>h))))
end
end
section
def Em(C k:Nat)(V:List Nu)(n r:Nat):Int:=match vf C k V n r with
 |some i=>(i:Int) - (r:Int)
 |none=>-1
section
variable {vs:List (Nat×List D)} {lv:List (Nat×Nat×Nat×TypeId)} {N C R kM kk kR kr kp k r i:Nat} {V:List Nu}
theorem h_IdxF(hM:vs.lookup kM=some (dC ((cW a5).f V)))(NS:vs.lookup kk=some [dI .i64 k])(hkR:vs.lookup kR=some (iU kM C R))(hV:V.length=R*C)(hk:k<C)(hr:r<R)(hR:R≤1000000):
  HC prog 140 [.ow kR r 1 (R - r),.fn 141 [kk]] ⟨vs,lv,N⟩ (dI .i64 (Em C k V (R - r) r)) ⟨vs,lv,N⟩:=by
 refine HC.of (rs:=[.tmp 4]) tok func140 rfl rfl (bg rfl) rfl (fun cx hx h0 hok=>?_)
 simp only[ee,Nat.reduceAdd,br]
 have hk1:=hok.lt hM
 have xW:=hok.lt NS
 have hk3:=hok.lt hkR
 refine rs hx fun K hK=>?_
 refine sa ?_
 refine .nil (hK _ _ (AW.seq (rs hx fun K hK=>?_)))
 refine sa ?_
 refine s1 (d:=dI .i64 ((R - r:Nat):Int)) (yB l5 aP) ?_
 refine sa ?_
 refine .nil (hK _ _ (AW.block (AW.loopW (fun i:Nat=>[(0,.ow kR r 1 (R - r)),(1,.fn 141 [kk]),(7,dI .i64 ((R - r:Nat):Int)),(8,dI .i64 (i:Nat))]) (fun _=>⟨vs,lv,N⟩) (fun i=>i≤R - r∧vf C k V (R - r) r=vf C k V (R - r - i) (r+i)) (fun i=>R - r - i) 0 ?_ ⟨dZ _,rfl⟩ ?_)))
 ·exact wk1 h0 (hv:=fun j ds h=>h)
 ·rintro i ⟨hi,hf⟩
  refine rs hx fun K hK=>?_
  refine sa ?_
  refine .nil (hK _ _ (AW.seq (AW.condS rfl (fun hb=>?_) (fun hb=>?_))))
  ·have JT:i<R - r:=by have:=pi hb;omega
   refine AW.skip (AW.seq (AW.block (rs hx fun K hK=>?_)))
   iterate 2 refine sa ?_
   refine .nil (hK _ _ (rs hx fun K hK=>?_))
   iterate 3 refine sa ?_
   refine uF (k:=kR) (o:=r) (i:=i) (n:=R - r) JT ?_
   refine c1 (Pt.row (kM:=kM) (C:=C) (n:=R) (i:=r+i) (by omega)) ?_
   refine q1 (sHF (h_pred hM NS hV (show r+i<R by omega) hk) rfl) ?_
   refine .nil (hK _ _ ?_)
   obtain⟨m,hm⟩:∃m,R - r - i=m+1:=⟨R - r - i - 1,by omega⟩
   rw[hm] at hf
   refine AW.condS rfl (fun hb=>?_) (fun hb=>?_)
   ·refine rs hx fun K hK=>?_
    iterate 2 refine sa ?_
    refine .nil (hK _ _ (AW.ret ?_))
    have he:Em C k V (R - r) r=(i:Int):=by
     unfold Em
     rw[hf];unfold vf
     rw[az (pi hb)]
     show ((r+i:Nat):Int) - (r:Int)=i
     omega
    rw[he]
    exact rt1 h0 (hv:=fun j ds h=>h)
   ·refine AW.skip (rq hx fun K hK=>?_)
    iterate 2 refine sa ?_
    refine .nil (hK _ _ ?_)
    rw[na]
    refine⟨i+1,wk1 h0 (hv:=fun j ds h=>h),⟨JT,?_⟩,by omega⟩
    rw[hf]
    conv=>lhs;unfold vf
    rw[ay (oW hb),show R - r - (i+1)=m by omega]
    rfl
  ·refine AW.exit ?_
   have JT:i=R - r:=by have:=oW hb;omega
   subst JT
   refine rs hx fun K hK=>?_
   refine sa ?_
   refine .nil (hK _ _ (AW.ret ?_))
   have he:Em C k V (R - r) r=-1:=by
    unfold Em
    rw[hf,Nat.sub_self];rfl
   rw[he]
   exact rt1 h0 (hv:=fun j ds h=>h)
theorem Gw {f:FuncId}{ks:List Nat}{h:List Nu→Nat→Nu}(hM:vs.lookup kM=some (dC ((cW a5).f V)))(Lk:∀j∈ks,j<N)(hV:V.length=R*C)(hi:i<R)(hC:C≤1000000)
  (hf:∀(U:List Nu) j,j<C→U.length=R*C→HC prog f ([dI .i64 j]++ks.map fun k=>.pt k 0) ⟨(kM,dC ((cW a5).f U))::vs,lv,N⟩ (dG a5 (h U j)) ⟨(kM,dC ((cW a5).f U))::vs,lv,N⟩):
  HC prog 142 [.ow kM (i*C*36) 36 C,.fn f ks] ⟨vs,lv,N⟩ (.tu []) ⟨(kM,dC ((cW a5).f (tA V (i*C) h C)))::vs,lv,N⟩:=by
 refine HC.of (rs:=[]) tok func142 rfl rfl (bg rfl) rfl (fun cx hx h0 hok=>?_)
 simp only[ee,Nat.reduceAdd,br]
 have hk1:=hok.lt hM
 have Lg:∀U:List Nu,eY ⟨(kM,dC ((cW a5).f U))::vs,lv,N⟩:=fun U=>hok.consM hk1 (nY _)
 have NX:D.idsB N (.fn f ks)=true:=bZ.2 fun k hk=>dU (Lk k hk)
 refine rs hx fun K hK=>?_
 refine sa ?_
 refine s1 (d:=dI .i64 (C:Nat)) (yB aP aA) ?_
 refine sa ?_
 refine .nil (hK _ _ (AW.block (AW.loopW (fun j:Nat=>[(0,.ow kM (i*C*36) 36 C),(1,.fn f ks),(6,dI .i64 (C:Nat)),(7,dI .i64 (j:Nat))]) (fun j=>⟨(kM,dC ((cW a5).f (tA V (i*C) h j)))::vs,lv,N⟩) (fun j=>j≤C) (fun j=>C - j) 0 ?_ (dZ _) ?_)))
 ·exact wk1 h0 (hok:=Lg _) (hv:=fun j ds h=>by
   rcases dE h with⟨rfl,rfl⟩|⟨hj,h⟩
   ·exact hM
   ·exact h)
 ·intro j hj
  refine rs hx fun K hK=>?_
  refine sa ?_
  refine .nil (hK _ _ (AW.seq (AW.condS rfl (fun hb=>?_) (fun hb=>?_))))
  ·have D9:j<C:=by have:=pi hb;omega
   have hlen:(tA V (i*C) h j).length=R*C:=by rw[qd,hV]
   have hpl:i*C+j<(tA V (i*C) h j).length:=by rw[hlen];exact cd hi D9
   refine AW.skip (AW.seq (AW.block (rs hx fun K hK=>?_)))
   iterate 2 refine sa ?_
   refine .nil (hK _ _ (rq hx fun K hK=>?_))
   iterate 4 refine sa ?_
   refine q1 (sHF (hf _ j D9 hlen) rfl) ?_
   refine i1r (i:=i) (j:=j) D9 ?_
   refine t1 (Pt.el _ (i*C+j) hpl) (Pt.el_set _ (i*C+j) hpl _) ?_
   refine .nil (hK _ _ (rq hx fun K hK=>?_))
   iterate 2 refine sa ?_
   refine .nil (hK _ _ ?_)
   rw[na]
   refine⟨j+1,wk1 h0 (hok:=Lg _) (hv:=fun j' ds h=>by
    rcases dE h with⟨rfl,rfl⟩|⟨hj,h⟩
    ·exact ai
    ·exact am hj (am hj h)),D9,by omega⟩
  ·refine AW.exit ?_
   have D9:j=C:=by have:=oW hb;omega
   subst D9
   exact⟨_,wkS (by rw[h0];exact aL N) (aL N) (Lg _) (fun j ds h=>h) od.nil,rfl⟩
end
end
section
def pvD(p:Pv):List D:=[dI .i64 p.col]++dC (a5.f p.by')++[dB p.mov]
theorem zO(p:Pv):(pvD p).length=38:=by unfold pvD;simp only[eT,pY];rfl
theorem pvD_by {p:Pv}:Pt (pvD p) (0+1) (dC (a5.f p.by')) (fun ys=>[dI .i64 p.col]++ys++[dB p.mov]):=Pt.of [dI .i64 p.col] [dB p.mov] rfl (by unfold pvD;simp only[dP]) fun y=>rfl
section
variable {vs:List (Nat×List D)} {lv:List (Nat×Nat×Nat×TypeId)} {N C R kM krs kR kr kp kl kx k r i j:Nat} {V:List Nu} {p:Pv} {b:Nu}
theorem h_by3(hM:vs.lookup kM=some (dC ((cW a5).f V)))(hrs:vs.lookup krs=some [.gw kR 1 R])(hkr:vs.lookup kr=some [dI .i64 r])(hkp:vs.lookup kp=some (pvD p))(hkR:vs.lookup kR=some (iU kM C R))(hV:V.length=R*C)(hj:j<C)(hr:r<R):
  HC prog 143 ([dI .i64 j]++[krs,kr,kp].map fun k=>.pt k 0) ⟨vs,lv,N⟩ (dG a5 (u5 V[r*C+j]! p.by')) ⟨vs,lv,N⟩:=by
 refine HC.forget (vars:=(N,dC (a5.f (u5 V[r*C+j]! p.by')))::vs) (n:=N+1) ?_ (fun j ds hj h=>am (by omega) h) (nY _)
 refine HC.of (rs:=[.cell 5 34]) tok func143 rfl rfl (bg rfl) rfl (fun cx hx h0 hok=>?_)
 simp only[ee,dh,cp,Bt,ph,Nat.reduceAdd,br]
 have h1:=hok.lt hM
 have h2:=hok.lt hrs
 have h3:=hok.lt hkr
 have h4:=hok.lt hkp
 have h5:=hok.lt hkR
 refine rs hx fun K hK=>?_
 refine n1 ?_
 refine .nil (hK _ _ (rsd [144] hx fun K hK=>?_))
 refine c1 (Pt.one _) ?_
 refine c1 (Pt.one _) ?_
 refine uF (k:=kR) (o:=0) (i:=r) (n:=R) hr ?_
 rw[br]
 refine c1 (Pt.row (kM:=kM) (C:=C) (n:=R) (i:=r) hr) ?_
 refine sa ?_
 refine i1r (i:=r) (j:=j) hj ?_
 refine l1 (Pt.el V (r*C+j) (by rw[hV];exact cd hr hj)) ?_
 refine sa ?_
 refine l1 (pvD_by (p:=p)) ?_
 refine cq (w_Div _ _) ?_
 refine z1 ?_
 refine .nil (hK _ _ (AW.ret ?_))
 exact rtN1 h0 (by omega) (eY.consM (hok.up (by omega)) (by omega) (nY _)) (aL _) (fun j ds h=>by
  rcases dE h with⟨rfl,rfl⟩|⟨hj,h⟩
  ·exact ai
  ·have:=hok.lt h
   exact am hj (am hj h)) ai rfl
theorem h_by4(hM:vs.lookup kM=some (dC ((cW a5).f V)))(hkl:vs.lookup kl=some [.ow kM (i*C*36) 36 C])(hkx:vs.lookup kx=some (dC (a5.f b)))(hrs:vs.lookup krs=some [.gw kR 1 R])(hkr:vs.lookup kr=some [dI .i64 r])(hkR:vs.lookup kR=some (iU kM C R))(hV:V.length=R*C)(hj:j<C)(hr:r<R)(hi:i<R):
  HC prog 145 ([dI .i64 j]++[kl,kx,krs,kr].map fun k=>.pt k 0) ⟨vs,lv,N⟩ (dG a5 (zq V[i*C+j]! (nI b V[r*C+j]!))) ⟨vs,lv,N⟩:=by
 refine HC.forget (vars:=(N,dC (a5.f (zq V[i*C+j]! (nI b V[r*C+j]!))))::vs) (n:=N+1) ?_ (fun j ds hj h=>am (by omega) h) (nY _)
 refine HC.of (rs:=[.cell 6 34]) tok func145 rfl rfl (bg rfl) rfl (fun cx hx h0 hok=>?_)
 simp only[ee,dh,cp,Bt,ph,Nat.reduceAdd,br]
 have h1:=hok.lt hM
 have h2:=hok.lt hrs
 have h3:=hok.lt hkr
 have h4:=hok.lt hkl
 have h5:=hok.lt hkR
 have h6:=hok.lt hkx
 refine rs hx fun K hK=>?_
 refine n1 ?_
 refine .nil (hK _ _ (rsd [40,146] hx fun K hK=>?_))
 refine c1 (Pt.one _) ?_
 refine sa ?_
 refine i1r (i:=i) (j:=j) hj ?_
 refine l1 (Pt.el V (i*C+j) (by rw[hV];exact cd hi hj)) ?_
 refine l1 (Pt.idN b) ?_
 refine c1 (Pt.one _) ?_
 refine c1 (Pt.one _) ?_
 refine uF (k:=kR) (o:=0) (i:=r) (n:=R) hr ?_
 rw[br]
 refine c1 (Pt.row (kM:=kM) (C:=C) (n:=R) (i:=r) hr) ?_
 refine sa ?_
 refine i1r (i:=r) (j:=j) hj ?_
 refine l1 (Pt.el V (r*C+j) (by rw[hV];exact cd hr hj)) ?_
 refine cq (w_Mul _ _) ?_
 refine cq (w_Sub _ _) ?_
 refine z1 ?_
 refine .nil (hK _ _ (AW.ret ?_))
 exact rtN1 h0 (by omega) (eY.consM (hok.up (by omega)) (by omega) (nY _)) (aL _) (fun j ds h=>by
  rcases dE h with⟨rfl,rfl⟩|⟨hj,h⟩
  ·exact ai
  ·have:=hok.lt h
   exact am hj (am hj h)) ai rfl
end
end
section
theorem T_bldPv {dr:Bool}{ty:TypeId}{ev:Operand→D}{hp:Hp}{x y z:Operand}{p:Pv}(hx:ev x=dI .i64 p.col:=by exact rfl)(hy:ev y=dG a5 p.by':=by exact rfl)(hz:ev z=dB p.mov:=by exact rfl):AVC prog tbl dr (.build 102 #[(0,x),(1,y),(2,z)]) ty ev hp (Kq (.ag (pvD p)) hp):=by
 have h0:([(0,x),(1,y),(2,z)]:List (Nat×Operand)).map (fun p=>(p.1,ev p.2))=[(0,dI .i64 p.col),(1,dG a5 p.by'),(2,dB p.mov)]:=by simp only[cp,dh,hx,hy,hz]
 rw[show (#[(0,x),(1,y),(2,z)]:Array (Nat×Operand))=([(0,x),(1,y),(2,z)]:List (Nat×Operand)).toArray from rfl,wM,h0,t6,gq]
 have hp:kq [(0,dI .i64 p.col),(1,dG a5 p.by'),(2,dB p.mov)]=some [(0,[dI .i64 p.col]),(1,dC (a5.f p.by')),(2,[dB p.mov])]:=rfl
 rw[hp]
 dsimp only
 refine⟨by decide,?_⟩
 have hz:∀zs:List D,zs.length=38→fU (oP tbl [(0,3),(1,34),(37,4)]) zs [(0,[dI .i64 p.col]),(1,dC (a5.f p.by')),(2,[dB p.mov])]=some (pvD p):=fun zs hzs=>by
  have p0:oP tbl [(0,3),(1,34),(37,4)] 0=some (0,1):=rfl
  have p1:oP tbl [(0,3),(1,34),(37,4)] 1=some (1,36):=rfl
  have p2:oP tbl [(0,3),(1,34),(37,4)] 2=some (37,1):=rfl
  obtain⟨z0,zr,rfl⟩:∃z0 zr,zs=z0::zr:=by
   cases zs with
   |nil=>cases hzs
   |cons a b=>exact⟨a,b,rfl⟩
  have hzr:zr.length=37:=by simpa using hzs
  have hl:=pY p.by'
  simp only[fU,p0,p1,p2,hl]
  rw[ay (by simp[hzr]),ay (by simp[hzr]),ay (by simp[hzr,hl])]
  unfold pvD
  have e1:(List.take 0 (z0::zr)++[dI IntKind.i64 (p.col:Int)]++List.drop (0+[dI IntKind.i64 (p.col:Int)].length) (z0::zr))=dI .i64 p.col::zr:=rfl
  rw[e1]
  have e2:List.take 1 (dI IntKind.i64 (p.col:Int)::zr)=[dI .i64 p.col]:=rfl
  have e3:List.drop (1+36) (dI IntKind.i64 (p.col:Int)::zr)=zr.drop 36:=rfl
  rw[e2,e3]
  have h37:([dI IntKind.i64 (p.col:Int)]++dC (a5.f p.by')).length=37:=by rw[eT,hl];rfl
  rw[zc (by rw[h37];exact aL _),jD (by rw[h37];exact aL _),Bk (by rw[eT,h37,gi,hzr];exact aL _),tG]
 rw[hz _ (by rfl)]
 exact Kq.here _ _
section
variable {kM R C:Nat}
theorem mat_R:Pt (kZ kM R C) (0+0) [dI .i64 R] (fun ys=>ys++[dI .i64 C,gQ kM (R*C)]):=Pt.of [] [dI .i64 C,gQ kM (R*C)] rfl rfl fun y=>rfl
theorem MW:Pt (kZ kM R C) (0+1) [dI .i64 C] (fun ys=>[dI .i64 R]++ys++[gQ kM (R*C)]):=Pt.of [dI .i64 R] [gQ kM (R*C)] rfl rfl fun y=>rfl
theorem mat_D:Pt (kZ kM R C) (0+2) [gQ kM (R*C)] (fun ys=>[dI .i64 R,dI .i64 C]++ys++[]):=Pt.of [dI .i64 R,dI .i64 C] [] rfl rfl fun y=>rfl
theorem FO(k n:Nat):D.cells (o0 k n)=some [o0 k n]:=by unfold o0;split <;> rfl
theorem KZ {k n M:Nat}(h:k<M):D.idsC M (o0 k n)=true:=by
 unfold o0
 split
 ·rfl
 ·exact dU h
end
structure Kept(W:List Nat)(hp hp':Hp):Prop where
 ok:eY hp'
 next:hp.next≤hp'.next
 vars:∀j ds,j∉W→hp.vars.lookup j=some ds→hp'.vars.lookup j=some ds
structure StH(E kM k0 R C r k kk:Nat)(V:List Nu)(hp:Hp):Prop where
 ok:eY hp
 nx:E+6≤kk
 kn:kk<hp.next
 len:V.length=R*C
 hM:0<R→0<C→hp.vars.lookup kM=some (dC ((cW a5).f V))
 h0:hp.vars.lookup k0=some (kZ kM R C)
 hr:hp.vars.lookup (E+5)=some [dI .i64 r]
 hk:hp.vars.lookup kk=some [dI .i64 k]
 hrs:0<R→0<C→hp.vars.lookup (E+4)=some [.gw (E+3) 1 R]
 hR:0<R→0<C→hp.vars.lookup (E+3)=some (iU kM C R)
end
section
theorem J4 {C k:Nat}{V:List Nu}:∀{n r i:Nat},vf C k V n r=some i→r≤i∧i<r+n
 |0,r,i,h=>by cases h
 |n+1,r,i,h=>by
  unfold vf at h
  split at h
  ·injection h with h;omega
  ·have:=J4 h;omega
theorem FP {R C n k r:Nat}{V:List Nu}{acc:List Pv}(h:n=0∨¬r<R):kN R C n k r V acc=some (V,acc):=by
 cases n with
 |zero=>rfl
 |succ n=>
  unfold kN
  rcases h with h|h
  ·cases h
  ·rw[ay h]
section
variable {Hs:List (Nat×List D)} {M1:List (Nat×Nat×Nat×TypeId)} {E B kM k0 k4 R C:Nat} {p:Tmp} {Nt:Nat} {LD bod:Code} {tm0:List (Nat×D)} {J:List Pv→Hp→Prop} {S:Hp→Prop} {V0:List Nu}
def TH(l E k0 kk:Nat):List (Nat×D):=[(0,.e (.lit (.func (.yield l) #[] #[]))),(1,.pt k0 0),(3,.pt (E+4) 0),(4,.pt (E+5) 0),(5,.pt kk 0)]
theorem M8(hkM:kM<E)(hk0:k0<E)(hk4:k4<E)(h4M:k4≠kM)(h40:k4≠k0)(hM0:kM≠k0)
  (Eg:V0.length=R*C) (JY:R*C≤1000000) (hR:R≤1000000) (hC:C≤1000000)
  (hM:0<R→0<C→Hs.lookup kM=some (dC ((cW a5).f V0))) (h0:Hs.lookup k0=some (kZ kM R C))
  (vc:∀k ds,Hs.lookup k=some ds→ds.all D.noO=true)
  (hpN:p<Nt) (hJ0:J [] ⟨Hs,M1,E⟩)
  (hJ:∀acc vs og lv N N',J acc ⟨vs,lv,N⟩→N≤N'→E≤N→(∀j ds,j≠kM→j<E→vs.lookup j=some ds→og.lookup j=some ds)→J acc ⟨og,lv,N'⟩)
  (hrd:∀V acc pv hp,0<R→acc.length<C→V.length=R*C→eY hp→hp.vars.lookup kM=some (dC ((cW a5).f V))→J acc hp→RdOk prog Nt p LD bod tm0 hp (.ag (pvD pv)) (fun hp'=>V.all aR=true∧Kept [k4] hp hp'∧J (acc++[pv]) hp') (fun hp'=>V.all aR=false∧S hp')):
  Jd prog 137 [k0] B ⟨Hs,M1,E⟩ p Nt LD bod tm0 (fun hp=>∃V acc,kN R C C 0 0 V0 []=some (V,acc)∧eY hp∧(0<R→0<C→hp.vars.lookup kM=some (dC ((cW a5).f V)))∧J acc hp) (fun hp=>kN R C C 0 0 V0 []=none∧S hp):=by
 refine Jd.of func137 rfl (bg rfl) rfl hpN (by simp[hk0]) (fun g w l rec x hB xb hg0 hw0 Lt hN q7 hok hmk=>?_)
 simp only[cp,dh,ee,Nat.reduceAdd,br]
 obtain⟨R1,C1,hC1,hR1,hC1p,hC1le,hR1le⟩:∃R1 C1,C1=max 1 C∧R1*C1=R*C∧1≤C1∧C1≤1000000∧(0<C→C1=C∧R1=R):=by
  rcases iS C with h|h
  ·exact⟨0,max 1 C,rfl,by rw[h,fj,EP],EO _ _,by omega,fun h'=>by omega⟩
  ·exact⟨R,max 1 C,rfl,by rw[show max 1 C=C by omega],EO _ _,by omega,fun _=>⟨by omega,rfl⟩⟩
 have hmx:max (1:Int) (C:Int)=((C1:Nat):Int):=by omega
 refine vrs hN fun K hK=>?_
 refine sa ?_
 refine c1 mat_D ?_
 refine sa ?_
 refine c1 MW ?_
 refine sa ?_
 rw[hmx]
 have hch:=h_Chunk (vs:=Hs) (lv:=M1) (N:=E) (dV:=gQ kM (R*C)) hC1p hC1le (At hkM _) (HO _ _)
 refine q1s (d:=.fn 174 [E,E+1]) (hp':=⟨(E+1,[dI .i64 C1])::(E,[gQ kM (R*C)])::Hs,M1,E+1+1⟩) (K6 rfl hch rfl) ?_
 have hcol:=Lr (vs:=(E+1,[dI .i64 C1])::(E,[gQ kM (R*C)])::Hs) (lv:=M1) (N:=E+1+1) (R:=R1) (C:=C1) (kM:=kM) (ks:=E) (kn:=E+1) hC1p (by rw[hR1];exact JY) hC1le (by rw[hR1];exact am (by omega) ai) ai (by omega) (fun k ds hk=>by
  rcases dE hk with⟨rfl,rfl⟩|⟨_,hk⟩
  ·rfl
  rcases dE hk with⟨rfl,rfl⟩|⟨_,hk⟩
  ·unfold gQ;split <;> rfl
  ·exact vc k ds hk)
 refine q1s (d:=o0 (E+3) R1) (hp':=⟨qA (E+3) kM C1 R1 ((E+1,[dI .i64 C1])::(E,[gQ kM (R*C)])::Hs),M1,E+4⟩) (K6 rfl hcol rfl) ?_
 obtain⟨VR,hVR⟩:∃VR,VR=qA (E+3) kM C1 R1 ((E+1,[dI .i64 C1])::(E,[gQ kM (R*C)])::Hs):=⟨_,rfl⟩
 rw[←hVR]
 have hokC:eY ⟨(E+1,[dI .i64 C1])::(E,[gQ kM (R*C)])::Hs,M1,E+4⟩:=((hok.up (M:=E+4) (by omega)).consM (by omega) (by simp[At (show kM<E+4 by omega)])).consM (by omega) (by rfl)
 have hokR:eY ⟨VR,M1,E+4⟩:=by
  rw[hVR];unfold qA
  split
  ·exact hokC
  ·exact hokC.consM (by omega) (ri (by omega))
 have hoR:∀j ds,j<E→Hs.lookup j=some ds→VR.lookup j=some ds:=fun j ds hj h=>by
  rw[hVR];unfold qA
  split
  ·exact am (by omega) (am (by omega) h)
  ·exact am (by omega) (am (by omega) (am (by omega) h))
 have hRR:0<R→0<C→o0 (E+3) R1=.gw (E+3) 1 R∧VR.lookup (E+3)=some (iU kM C R):=fun h1 h2=>by
  obtain⟨e1,e2⟩:=hR1le h2
  subst e1 e2
  refine⟨ifn_,?_⟩
  rw[hVR];unfold qA
  rw[ifn_]
  exact ai
 refine a1 l5 (hz:=rfl) ?_
 refine v1 (k:=E+4) (F:=[D.e (.lit (.slice none 0 0))]) (ys:=[o0 (E+3) R1]) (Pt.one _) rfl rfl rfl ?_ rfl ai (FO _ _)
 refine .nil (hK _ _ (vrs hN fun K hK=>?_))
 refine a1 aY (hz:=rfl) ?_
 refine v1 (k:=E+5) (ys:=[dI .i64 0]) (Pt.one _) rfl rfl rfl ?_ rfl ai rfl
 refine .nil (hK _ _ (vrs hN fun K hK=>?_))
 refine a1 aY (hz:=rfl) ?_
 refine v1 (k:=E+6) (ys:=[dI .i64 0]) (Pt.one _) rfl rfl rfl ?_ rfl ai rfl
 refine .nil (hK _ _ (AV.block ?_))
 refine AV.loop (fun n tm hp=>∃k r V acc kk,n=C - k∧k≤C∧tm=TH l E k0 kk∧StH E kM k0 R C r k kk V hp∧J acc hp∧acc.length≤k∧kN R C C 0 0 V0 []=kN R C (C - k) k r V acc) (n:=C) (Wk.tmS (tm':=TH l E k0 (E+6)) (tin (tin (tin (tin (tin KV)))))) ?_ ?_
 ·refine⟨0,0,V0,[],E+6,rfl,dZ _,rfl,⟨?_,aL _,dY _,Eg,fun h1 h2=>?_,?_,?_,?_,fun h1 h2=>?_,fun h1 h2=>?_⟩,?_,aL _,rfl⟩
  ·exact (((((hokR.up (M:=E+7) (by omega)).consM (by omega) (by rfl)).consM (by omega) (by simp[KZ (show E+3<E+7 by omega)])).consM (by omega) (by rfl)).consM (by omega) (by rfl)).consM (by omega) (by rfl) |>.consM (by omega) (by rfl)
  ·exact am (by omega) (am (by omega) (am (by omega) (am (by omega) (am (by omega) (am (by omega) (hoR _ _ hkM (hM h1 h2)))))))
  ·exact am (by omega) (am (by omega) (am (by omega) (am (by omega) (am (by omega) (am (by omega) (hoR _ _ hk0 h0))))))
  ·exact am (by omega) (am (by omega) ai)
  ·exact ai
  ·rw[←(hRR h1 h2).1]
   exact am (by omega) (am (by omega) (am (by omega) (am (by omega) ai)))
  ·exact am (by omega) (am (by omega) (am (by omega) (am (by omega) (am (by omega) (am (by omega) (hRR h1 h2).2)))))
  ·refine hJ [] Hs _ M1 E _ hJ0 (by omega) (aL _) fun j ds _ hj h=>?_
   exact am (by omega) (am (by omega) (am (by omega) (am (by omega) (am (by omega) (am (by omega) (hoR _ _ hj h))))))
 ·rintro n tm hp ⟨k,r,V,acc,kk,rfl,hkC,rfl,⟨Lh,qZ,hkkN,hlen,Nn,hv0,hvr,hvk,H3,hvR⟩,hJa,Lp,lT⟩
  obtain⟨vs,lv,N⟩:=hp
  dsimp only at hkkN Nn hv0 hvr hvk H3 hvR
  refine AV.seqA ?_
  refine rs hN fun K hK=>?_
  refine c1 (Pt.one _) ?_
  refine sa ?_
  refine c1 MW ?_
  iterate 2 refine sa ?_
  rcases aX (decide ((k:Int)<(C:Int))) with hb|hb
  ·refine c1g (Pt.one _) hb ?_
   refine ga hb ?_
   refine c1g mat_R hb ?_
   refine ga hb ?_
   refine s1 (al hb) ?_
   refine .nil (hK _ _ ?_)
   have Ie:k<C:=by have:=pi hb;omega
   refine AW.condS rfl (fun ly=>?_) (fun ly=>?_)
   ·have D7:r<R:=by have:=pi ly;omega
    have H3:=H3 (by omega) (by omega)
    have hvR:=hvR (by omega) (by omega)
    have Nn:=Nn (by omega) (by omega)
    refine AW.skip ?_
    have hkM2:kM≠kk:=by omega
    have hkMN:kM<N:=by omega
    refine AV.seq (AV.mono (Q:=fun ex a w'=>(ex=.normal∧∃r' V' LH hp',RS x (TH l E k0 kk) hp' a w'∧StH E kM k0 R C r' k kk V' hp'∧J LH hp'∧LH.length≤k+1∧kN R C C 0 0 V0 []=kN R C (C - (k+1)) (k+1) r' V' LH)∨
     (ex=.ret∧a.defers=x.df∧∃hp' g' W',w'=W'.putObj l (.loop (pZ rec))∧W'.heap[l]? =some (.loop rec)∧vS B ⟨Hs,M1,E⟩ g w hp' g' W'∧kN R C C 0 0 V0 []=none∧S hp')) (AV.block ?_) ?_)
    ·refine vrsd [140] hN fun K hK=>?_
     refine c1 (Pt.one _) ?_
     refine c1 (Pt.one _) ?_
     refine c1 (Pt.one _) ?_
     refine q1 (mD.toOw (slW (l:=(r:Int)) (h:=(R:Int)) (n:=R) (k:=E+3) (off:=0) (z:=1) tok ⟨by omega,by omega,by omega,by omega⟩ l5 aP ⟨.i64,rfl⟩ rfl)) ?_
     rw[show 0+((r:Nat):Int).toNat*1=r by omega,show (((R:Nat):Int) - ((r:Nat):Int)).toNat=R - r by omega]
     refine s1 (d:=.fn 141 [kk]) uQ ?_
     refine q1 (sHCf (h_IdxF (kM:=kM) (kk:=kk) (kR:=E+3) (k:=k) (r:=r) (V:=V) Nn hvk hvR hlen Ie D7 hR) rfl (Fr.refl _) (hv:=by kernel_rfl)) ?_
     iterate 2 refine sa ?_
     refine .nil (hK _ _ (AV.seqA ?_))
     refine rs hN fun K hK=>?_
     refine sa ?_
     refine c1 (Pt.one _) ?_
     refine sa ?_
     refine .nil (hK _ _ ?_)
     obtain⟨m,hm⟩:∃m,C - k=m+1:=⟨C - k - 1,by omega⟩
     have Li:C - (k+1)=m:=by omega
     rcases hf:vf C k V (R - r) r with _|i
     ·have hv:Em C k V (R - r) r=-1:=by unfold Em;rw[hf]
      rw[hv,qw (by omega) (by omega)]
      refine AW.condT rfl (det_) (AW.exit ?_)
      intro a w hr
      refine .inl ⟨rfl,r,V,acc,_,Wk.tmS (tin (tin (tin (tin (tin KV))))) a w hr,⟨Lh,qZ,hkkN,hlen,fun _ _=>Nn,hv0,hvr,hvk,fun _ _=>H3,fun _ _=>hvR⟩,hJa,by omega,?_⟩
      rw[lT,hm,Li]
      conv=>lhs;unfold kN
      rw[az D7,hf]
     ·obtain⟨hri,hiR⟩:=J4 hf
      have hiR:i<R:=by omega
      have hv:Em C k V (R - r) r=(i:Int) - (r:Int):=by unfold Em;rw[hf]
      rw[hv,show (r:Int)+((i:Int) - (r:Int))=(i:Int) by omega,qw (by omega) (by omega)]
      refine AW.condF rfl (def_) (AW.skip (AV.seqA ?_))
      refine rs hN fun K hK=>?_
      refine sa ?_
      refine c1 MW ?_
      refine sa ?_
      refine .nil (hK _ _ (AW.block ?_))
      have Lg:∀U:List Nu,eY ⟨(kM,dC ((cW a5).f U))::vs,lv,N⟩:=fun U=>Lh.consM hkMN (nY _)
      refine AW.loopW (fun j:Nat=>[(0,.e (.lit (.func (.yield l) #[] #[]))),(1,.pt k0 0),(3,.pt (E+4) 0),(4,.pt (E+5) 0),(5,.pt kk 0),(6,dI .i64 (i:Nat)),(43,dI .i64 (C:Nat)),(44,dI .i64 (j:Nat))]) (fun j=>⟨(kM,dC ((cW a5).f (gb C V i r j)))::vs,lv,N⟩) (fun j=>j≤C) (fun j=>C - j) 0 ?_ (dZ _) ?_
      ·exact wk1 xb (hok:=Lg _) (hv:=fun j ds h=>by
        rcases dE h with⟨rfl,rfl⟩|⟨hj,h⟩
        ·exact Nn
        ·exact h)
      ·intro j hj
       refine rs hN fun K hK=>?_
       refine sa ?_
       refine .nil (hK _ _ (AW.seq (AW.condS rfl (fun bo=>?_) (fun bo=>?_))))
       ·have D9:j<C:=by have:=pi bo;omega
        have hlU:(gb C V i r j).length=R*C:=by rw[nV,hlen]
        have hp1:i*C+j<(gb C V i r j).length:=by rw[hlU];exact cd hiR D9
        have bG:r*C+j<(gb C V i r j).length:=by rw[hlU];exact cd D7 D9
        have hp3:r*C+j<((gb C V i r j).set (i*C+j) (gb C V i r j)[r*C+j]!).length:=by rw[ID];exact bG
        refine AW.skip (AW.seq (AW.block (rs hN fun K hK=>?_)))
        iterate 2 refine sa ?_
        refine .nil (hK _ _ (rqd [] hN fun K hK=>?_))
        refine c1 (Pt.one _) ?_
        refine sa ?_
        refine uF (k:=E+3) (o:=0) (i:=i) (n:=R) hiR ?_
        rw[br]
        refine c1 (Pt.row (kM:=kM) (C:=C) (n:=R) (i:=i) hiR) ?_
        refine sa ?_
        refine c1 (Pt.one _) ?_
        refine c1 (Pt.one _) ?_
        refine uF (k:=E+3) (o:=0) (i:=r) (n:=R) D7 ?_
        rw[br]
        refine c1 (Pt.row (kM:=kM) (C:=C) (n:=R) (i:=r) D7) ?_
        refine sa ?_
        refine c1 (Pt.one _) ?_
        refine c1 (Pt.one _) ?_
        refine uF (k:=E+3) (o:=0) (i:=r) (n:=R) D7 ?_
        rw[br]
        refine c1 (Pt.row (kM:=kM) (C:=C) (n:=R) (i:=r) D7) ?_
        refine sa ?_
        refine i1r (i:=r) (j:=j) D9 ?_
        refine l1 (Pt.el _ (r*C+j) bG) ?_
        refine c1 (Pt.one _) ?_
        refine sa ?_
        refine uF (k:=E+3) (o:=0) (i:=i) (n:=R) hiR ?_
        rw[br]
        refine c1 (Pt.row (kM:=kM) (C:=C) (n:=R) (i:=i) hiR) ?_
        refine sa ?_
        refine i1r (i:=i) (j:=j) D9 ?_
        refine l1 (Pt.el _ (i*C+j) hp1) ?_
        refine i1r (i:=i) (j:=j) D9 ?_
        refine t1 (Pt.el _ (i*C+j) hp1) (Pt.el_set _ (i*C+j) hp1 _) ?_
        refine i1r (i:=r) (j:=j) D9 ?_
        refine t1 (Pt.el _ (r*C+j) hp3) (Pt.el_set _ (r*C+j) hp3 _) ?_
        refine .nil (hK _ _ (rq hN fun K hK=>?_))
        iterate 2 refine sa ?_
        refine .nil (hK _ _ ?_)
        rw[na]
        refine⟨j+1,wk1 xb (hok:=Lg _) (hv:=fun j' ds h=>by
         rcases dE h with⟨rfl,rfl⟩|⟨hj,h⟩
         ·exact ai
         ·exact am hj (am hj (am hj h))),D9,by omega⟩
       ·refine AW.exit ?_
        have D9:j=C:=by have:=oW bo;omega
        rw[D9]
        clear bo hj D9
        have zA:(gb C V i r C).length=R*C:=by rw[nV,hlen]
        have hp1:r*C+k<(gb C V i r C).length:=by rw[zA];exact cd D7 Ie
        refine vrsd [] hN fun K hK=>?_
        refine c1 (Pt.one _) ?_
        refine c1 (Pt.one _) ?_
        refine c1 (Pt.one _) ?_
        refine uF (k:=E+3) (o:=0) (i:=r) (n:=R) D7 ?_
        rw[br]
        refine c1 (Pt.row (kM:=kM) (C:=C) (n:=R) (i:=r) D7) ?_
        refine c1 (Pt.one _) ?_
        refine i1r (i:=r) (j:=k) Ie ?_
        refine l1 (Pt.el _ (r*C+k) hp1) ?_
        refine sa ?_
        refine c1 (Pt.one _) ?_
        refine sa ?_
        obtain⟨pv,hpv⟩:∃pv:Pv,pv=⟨k,byN C k i r V,decide (i≠r)⟩:=⟨_,rfl⟩
        refine s1 (d:=.ag (pvD pv)) (T_bldPv (p:=pv) (by rw[hpv];rfl) (by rw[hpv];rfl) (by rw[hpv];exact congrArg (fun b=>dB b) (mA.2 (by omega)))) ?_
        refine a1 gq (hz:=rfl) ?_
        refine v1 (k:=N) (ys:=pvD pv) (F2:=pvD pv) Pt.all (by exact rfl) (by exact zO pv) rfl ?_ rfl ai rfl (ht:=gq)
        refine .nil (hK _ _ (vrs hN fun K hK=>?_))
        refine s1 (d:=.e (.lit (.func (.func 142) #[] #[]))) G8 ?_
        refine .nil (hK _ _ (vrs hN fun K hK=>?_))
        refine sa ?_
        refine c1 (Pt.one _) ?_
        refine c1 (Pt.one _) ?_
        refine uF (k:=E+3) (o:=0) (i:=r) (n:=R) D7 ?_
        rw[br]
        refine c1 (Pt.row (kM:=kM) (C:=C) (n:=R) (i:=r) D7) ?_
        refine s1 (d:=.fn 143 [E+4,E+5,N]) uQ ?_
        refine q1 (sHC (Gw (kM:=kM) (i:=r) (V:=gb C V i r C) (R:=R) (h:=fun U j=>u5 U[r*C+j]! pv.by') (am (by omega) (am (by omega) ai)) (fun j hj=>by simp at hj;rcases hj with rfl|rfl|rfl <;> omega) zA D7 hC (fun U j hj hU=>h_by3 (kM:=kM) (krs:=E+4) (kr:=E+5) (kp:=N) (kR:=E+3) (p:=pv) ai (am (by omega) (am (by omega) (am (by omega) (am (by omega) H3)))) (am (by omega) (am (by omega) (am (by omega) (am (by omega) hvr)))) (am (by omega) ai) (am (by omega) (am (by omega) (am (by omega) (am (by omega) hvR)))) hU hj D7)) rfl (.inl (by kernel_rfl))) ?_
        refine .nil (hK _ _ ?_)
        obtain⟨U2,hU2⟩:∃U2,U2=tA (gb C V i r C) (r*C) (fun U j=>u5 U[r*C+j]! pv.by') C:=⟨_,rfl⟩
        rw[←hU2]
        have vZ:U2.length=R*C:=by rw[hU2,qd,zA]
        have hstep:ir C k r U2 R=oy R C k i r V:=by rw[hU2,hpv];rfl
        have xV:∀U:List Nu,eY ⟨(kM,dC ((cW a5).f U))::(N,pvD pv)::vs,lv,N+1⟩:=fun U=>((Lh.up (M:=N+1) (dH _)).consM (dY _) (by unfold pvD;rw[sj,sj,nY];rfl)).consM (by omega) (nY _)
        refine AV.weak (hp':=⟨(kM,dC ((cW a5).f U2))::(N,pvD pv)::vs,lv,N+1⟩) (tm':=[(0,.e (.lit (.func (.yield l) #[] #[]))),(1,.pt k0 0),(3,.pt (E+4) 0),(4,.pt (E+5) 0),(5,.pt kk 0),(8,.pt N 0),(9,.e (.lit (.func (.func 142) #[] #[])))]) (wk1 xb (hok:=xV _) (hv:=fun j ds h=>by
         rcases dE h with⟨rfl,rfl⟩|⟨hj,h⟩
         ·exact ai
         rcases dE h with⟨rfl,rfl⟩|⟨zB,h⟩
         ·exact am hj ai
         ·exact am hj (am zB (am zB (am hj h))))) ?_
        have g1:∀U:List Nu,((kM,dC ((cW a5).f U))::(N,pvD pv)::vs).lookup (E+4)=some [.gw (E+3) 1 R]:=fun U=>am (by omega) (am (by omega) H3)
        have g2:∀U:List Nu,((kM,dC ((cW a5).f U))::(N,pvD pv)::vs).lookup (E+5)=some [dI .i64 r]:=fun U=>am (by omega) (am (by omega) hvr)
        have g3:∀U:List Nu,((kM,dC ((cW a5).f U))::(N,pvD pv)::vs).lookup (E+3)=some (iU kM C R):=fun U=>am (by omega) (am (by omega) hvR)
        have g4:∀U:List Nu,((kM,dC ((cW a5).f U))::(N,pvD pv)::vs).lookup kk=some [dI .i64 k]:=fun U=>am (by omega) (am (by omega) hvk)
        refine AV.seqA ?_
        refine rs hN fun K hK=>?_
        refine c1 (Pt.one _) ?_ (hv:=g1 _)
        refine stG (d:=dI .i64 (R:Nat)) tok (yB (k:=E+3) (off:=0) (z:=1) l5 aP rfl rfl) ?_
        refine sa ?_
        refine .nil (hK _ _ (AW.block (AW.loopW (fun n:Nat=>[(0,.e (.lit (.func (.yield l) #[] #[]))),(1,.pt k0 0),(3,.pt (E+4) 0),(4,.pt (E+5) 0),(5,.pt kk 0),(8,.pt N 0),(9,.e (.lit (.func (.func 142) #[] #[]))),(93,.gw (E+3) 1 R),(94,dI .i64 (R:Nat)),(95,dI .i64 (n:Nat))]) (fun n=>⟨(kM,dC ((cW a5).f (ir C k r U2 n)))::(N,pvD pv)::vs,lv,N+1⟩) (fun n=>n≤R) (fun n=>R - n) 0 ?_ (dZ _) ?_)))
        ·exact wk1 xb (hok:=xV _) (hv:=fun j ds h=>h)
        ·intro n hn
         refine rs hN fun K hK=>?_
         refine sa ?_
         refine .nil (hK _ _ (AW.seq (AW.condS rfl (fun bo=>?_) (fun bo=>?_))))
         ·have NF:n<R:=by have:=pi bo;omega
          have Lj:(ir C k r U2 n).length=R*C:=by rw[rj,vZ]
          have hp3:n*C+k<(ir C k r U2 n).length:=by rw[Lj];exact cd NF Ie
          refine AW.skip (AW.seq (AW.block (rs hN fun K hK=>?_)))
          refine sa ?_
          refine uF (k:=E+3) (o:=0) (i:=n) (n:=R) NF ?_
          rw[br]
          refine c1 (Pt.row (kM:=kM) (C:=C) (n:=R) (i:=n) NF) ?_ (hv:=g3 _)
          refine a1 aP (hz:=rfl) ?_
          refine sa ?_
          refine v1 (k:=N+1) (F:=[D.e (.lit (.slice none 0 0))]) (ys:=[.ow kM (n*C*36) 36 C]) (Pt.one _) rfl rfl rfl ?_ rfl ai rfl
          refine .nil (hK _ _ (rs hN fun K hK=>?_))
          refine c1 (Pt.one _) ?_
          refine c1 (Pt.one _) ?_ (hv:=am (by omega) (am (by omega) (g4 _)))
          refine i1r (i:=n) (j:=k) Ie ?_
          refine l1 (Pt.el _ (n*C+k) hp3) ?_
          refine n1 ?_
          refine z1 ?_
          refine .nil (hK _ _ (rs hN fun K hK=>?_))
          refine sa ?_
          refine c1 (Pt.one _) ?_ (hv:=am (by omega) (am (by omega) (am (by omega) (am (by omega) (g2 _)))))
          iterate 2 refine sa ?_
          have hvT:∀(U:List Nu) (a b c d e:List D) j ds,((kM,dC ((cW a5).f U))::(N,pvD pv)::vs).lookup j=some ds→((kM,dC ((cW a5).f U))::(N+1+1,a)::(N+1+1,b)::(N+1,c)::(N+1,d)::(kM,e)::(N,pvD pv)::vs).lookup j=some ds:=fun U a b c d e j ds h=>by
           rcases dE h with⟨rfl,rfl⟩|⟨hj,h⟩
           ·exact ai
           have hjN:j<N+1:=by
            rcases dE h with⟨rfl,_⟩|⟨_,h⟩
            ·omega
            ·exact qi (Lh.lt h)
           exact am hj (am (by omega) (am (by omega) (am (by omega) (am (by omega) (am hj h)))))
          have hvF:∀(U:List Nu) (a b c d:List D) j ds,((kM,dC ((cW a5).f U))::(N,pvD pv)::vs).lookup j=some ds→((N+1+1,a)::(N+1+1,b)::(N+1,c)::(N+1,d)::(kM,dC ((cW a5).f U))::(N,pvD pv)::vs).lookup j=some ds:=fun U a b c d j ds h=>by
           have hjN:j<N+1:=(xV U).lt h
           exact am (by omega) (am (by omega) (am (by omega) (am (by omega) h)))
          rcases aX (decide ((n:Int)≠(r:Int))) with qR|qR
          ·have hnr:n≠r:=by have:=pi qR;omega
           refine l1g (Pt.idN _) qR ?_
           refine cqg (Ma _) qR ?_
           refine ga qR ?_
           refine s1 (al qR) ?_
           refine .nil (hK _ _ (AW.condS rfl (fun oT=>?_) (fun oT=>?_)))
           ·have e:ir C k r U2 (n+1)=tA (ir C k r U2 n) (n*C) (fun U j=>zq U[n*C+j]! (nI (ir C k r U2 n)[n*C+k]! U[r*C+j]!)) C:=by
             conv=>lhs;unfold ir
             rw[az ⟨hnr,pi oT⟩]
            refine rq hN fun K hK=>?_
            refine sa ?_
            refine c1 (Pt.one _) ?_ (hv:=am (by omega) (am (by omega) ai))
            refine s1 (d:=.fn 145 [N+1,N+1+1,E+4,E+5]) uQ ?_
            refine q1 (sHC (Gw (kM:=kM) (i:=n) (V:=ir C k r U2 n) (R:=R) (h:=fun U j=>zq U[n*C+j]! (nI (ir C k r U2 n)[n*C+k]! U[r*C+j]!)) (am (by omega) (am (by omega) (am (by omega) (am (by omega) ai)))) (fun j hj=>by simp at hj;rcases hj with rfl|rfl|rfl|rfl <;> omega) Lj NF hC (fun U j hj hU=>h_by4 (kM:=kM) (kl:=N+1) (kx:=N+1+1) (krs:=E+4) (kr:=E+5) (kR:=E+3) (i:=n) (b:=(ir C k r U2 n)[n*C+k]!) ai (am (by omega) (am (by omega) (am (by omega) ai))) (am (by omega) ai) (am (by omega) (am (by omega) (am (by omega) (am (by omega) (am (by omega) (g1 _)))))) (am (by omega) (am (by omega) (am (by omega) (am (by omega) (am (by omega) (g2 _)))))) (am (by omega) (am (by omega) (am (by omega) (am (by omega) (am (by omega) (g3 _)))))) hU hj D7 NF)) rfl (.inl (by kernel_rfl))) ?_
            refine .nil (hK _ _ (rq hN fun K hK=>?_))
            iterate 2 refine sa ?_
            refine .nil (hK _ _ ?_)
            rw[na]
            refine⟨n+1,?_,NF,by omega⟩
            dsimp only
            rw[e]
            exact wk1 xb (hok:=xV _) (hv:=fun j ds h=>hvT _ _ _ _ _ _ j ds h)
           ·have e:ir C k r U2 (n+1)=ir C k r U2 n:=by
             conv=>lhs;unfold ir
             rw[ay fun h=>oW oT h.2]
            refine AW.skip (rq hN fun K hK=>?_)
            iterate 2 refine sa ?_
            refine .nil (hK _ _ ?_)
            rw[na]
            refine⟨n+1,?_,NF,by omega⟩
            dsimp only
            rw[e]
            exact wk1 xb (hok:=xV _) (hv:=fun j ds h=>hvF _ _ _ _ _ j ds h)
          ·have e:ir C k r U2 (n+1)=ir C k r U2 n:=by
            conv=>lhs;unfold ir
            rw[ay fun h=>by have:=oW qR;omega]
           iterate 3 refine gn qR ?_
           refine s1 (au qR) ?_
           refine .nil (hK _ _ (AW.condF rfl rfl (AW.skip (rq hN fun K hK=>?_))))
           iterate 2 refine sa ?_
           refine .nil (hK _ _ ?_)
           rw[na]
           refine⟨n+1,?_,NF,by omega⟩
           dsimp only
           rw[e]
           exact wk1 xb (hok:=xV _) (hv:=fun j ds h=>hvF _ _ _ _ _ j ds h)
         ·refine AW.exit ?_
          have NF:n=R:=by have:=oW bo;omega
          rw[NF,hstep]
          clear bo hn NF
          have hls:(oy R C k i r V).length=R*C:=by rw[tU,hlen]
          refine AV.seq ?_
          refine AV.yield (tb:=tbl) (x:=x) (l:=l) (rec:=rec) (hpE:=⟨Hs,M1,E⟩) (gE:=g) (wE:=w) 2 rfl (by rw[hN];kernel_rfl) (by kernel_rfl) ⟨xb,hg0,hw0,fun p _ hp=>by rw[Lt];exact hp⟩ (fun K hK=>?_)
          refine sa ?_
          refine p1 (Pt.all (F:=pvD pv)) (zO pv) ?_
          have hJ2:=hJ acc vs ((kM,dC ((cW a5).f (oy R C k i r V)))::(N,pvD pv)::vs) lv N (N+1) hJa (dH _) (by omega) (fun j ds hj hjE h=>am hj (am (by omega) h))
          refine .nil (hK _ _ _ _ _ rfl rfl (by rw[hB];exact hmk _ _ _ _ (hrd (oy R C k i r V) acc pv _ (by omega) (by omega) hls (xV _) ai hJ2)) ?_ ?_)
          ·rintro⟨v2,l2,N2⟩ a w ⟨JV,⟨hok3,p8,hv3⟩,hJ3⟩ hr
           dsimp only at p8 hv3
           show Code.wpIn (FWd none) 0 prog _ _ a w
           have kp:∀j ds,j≠k4→j≠kM→j<N→vs.lookup j=some ds→v2.lookup j=some ds:=fun j ds h1 h2 h3 h=>hv3 j ds (by simpa using h1) (am h2 (am (by omega) h))
           have q5:v2.lookup (E+5)=some [dI .i64 r]:=kp _ _ (by omega) (by omega) (by omega) hvr
           refine (vrq hN fun K hK=>?_) a w hr
           refine c1 (Pt.one _) ?_
           refine sa ?_
           rw[na]
           refine v1 (k:=E+5) (F:=[dI .i64 r]) (ys:=[dI .i64 ((r+1:Nat):Int)]) (Pt.one _) rfl rfl rfl ?_ rfl q5 rfl
           refine .nil (hK _ _ ?_)
           intro a w hr
           refine .inl ⟨rfl,r+1,oy R C k i r V,acc++[pv],_,Wk.tmS (tin (tin (tin (tin (tin KV))))) a w hr,⟨hok3.consM (by omega) rfl,qZ,by show kk<N2;omega,hls,fun _ _=>?_,?_,ai,?_,fun _ _=>?_,fun _ _=>?_⟩,?_,by rw[eT];exact Nat.succ_le_succ Lp,?_⟩
           ·exact am (by omega) (hv3 _ _ (by simpa using fun e=>h4M e.symm) ai)
           ·exact am (by omega) (kp _ _ (fun e=>h40 e.symm) (fun e=>hM0 e.symm) (by omega) hv0)
           ·exact am (by omega) (kp _ _ (by omega) (by omega) (by omega) hvk)
           ·exact am (by omega) (kp _ _ (by omega) (by omega) (by omega) H3)
           ·exact am (by omega) (kp _ _ (by omega) (by omega) (by omega) hvR)
           ·exact hJ (acc++[pv]) v2 _ l2 N2 N2 hJ3 (aL _) (by omega) (fun j ds _ hjE h=>am (by omega) h)
           ·rw[lT,hm,Li]
            conv=>lhs;unfold kN
            rw[az D7,hf]
            dsimp only
            rw[az JV,hpv]
          ·rintro bG g2 W' a ⟨JV,hS2⟩ vZ nb Gr
           rw[hB] at nb
           refine .inr ⟨rfl,Gr,bG,g2,W',rfl,vZ,nb,?_,hS2⟩
           rw[lT,hm]
           conv=>lhs;unfold kN
           rw[az D7,hf]
           dsimp only
           rw[ay (by rw[JV];simp)]
    ·rintro ex a w' (⟨rfl,r',V',LH,⟨og,lv',N'⟩,hr,⟨hok',hnx',hkn',hlen',hvM',hv0',hvr',hvk',hvrs',hvR'⟩,hJ',hal',hred'⟩|⟨rfl,hd,hp',g',W',rfl,hl,hc,hn,hS'⟩)
     ·show Code.wpIn (FWd none) 0 prog _ _ a w'
      dsimp only at hkn' hvM' hv0' hvr' hvk' hvrs' hvR'
      refine (?_:AV prog none x _ (TH l E k0 kk) ⟨og,lv',N'⟩ _) a w' hr
      refine AV.seqA ?_
      refine rs hN fun K hK=>?_
      refine c1 (Pt.one _) ?_
      refine .nil (hK _ _ (rq hN fun K hK=>?_))
      refine a1 aY (hz:=rfl) ?_
      refine v1 (k:=N') (F:=[dI .i64 0]) (ys:=[dI .i64 (k:Int)]) (Pt.one _) rfl rfl rfl ?_ rfl ai rfl
      refine .nil (hK _ _ (vrq hN fun K hK=>?_))
      refine c1 (Pt.one _) ?_
      refine sa ?_
      rw[na]
      refine v1 (k:=N') (F:=[dI .i64 (k:Int)]) (ys:=[dI .i64 ((k+1:Nat):Int)]) (Pt.one _) rfl rfl rfl ?_ rfl ai rfl
      refine .nil (hK _ _ ?_)
      intro a w hr
      refine⟨C - (k+1),_,_,by omega,Wk.tmS (tm':=TH l E k0 N') (tin (tin (tin (tin (tin KV))))) a w hr,k+1,r',V',LH,N',rfl,Ie,rfl,⟨?_,by omega,dY _,hlen',fun h1 h2=>?_,?_,?_,ai,fun h1 h2=>?_,fun h1 h2=>?_⟩,?_,hal',hred'⟩
      ·exact ((hok'.up (M:=N'+1) (dH _)).consM (dY _) rfl).consM (dY _) rfl |>.consM (dY _) rfl
      ·exact am (by omega) (am (by omega) (am (by omega) (hvM' h1 h2)))
      ·exact am (by omega) (am (by omega) (am (by omega) hv0'))
      ·exact am (by omega) (am (by omega) (am (by omega) hvr'))
      ·exact am (by omega) (am (by omega) (am (by omega) (hvrs' h1 h2)))
      ·exact am (by omega) (am (by omega) (am (by omega) (hvR' h1 h2)))
      ·exact hJ LH og _ lv' N' (N'+1) hJ' (dH _) (by omega) (fun j ds _ hjE h=>am (by omega) (am (by omega) (am (by omega) h)))
     ·exact .inr ⟨rfl,hd,hp',g',W',rfl,hl,hc,hn,hS'⟩
   ·refine AW.exit ?_
    intro a w hr
    have D7:¬r<R:=by have:=oW ly;omega
    exact .inl ⟨.inl rfl,_,_,hr,V,acc,lT.trans (FP (.inr D7)),Lh,Nn,hJa⟩
  ·iterate 4 refine gn hb ?_
   refine s1 (au hb) ?_
   refine .nil (hK _ _ (AW.condF rfl rfl (AW.exit ?_)))
   intro a w hr
   have Ie:¬k<C:=by have:=oW hb;omega
   exact .inl ⟨.inl rfl,_,_,hr,V,acc,lT.trans (FP (.inl (by omega))),Lh,Nn,hJa⟩
end
end
theorem L9(x:Nu):aC prog 103 [dG a5 x] (dB (!aR x)):=by
 refine bQ (rs:=[.tmp 2]) (fun cx hx h0=>?_) func103
 refine ra hx ?_
 refine rs hx fun K hK=>?_
 refine s1 (d:=dG a5 x) (aE (ao.id _ _) aA) ?_
 refine sc (w_Good x) ?_
 iterate 2 refine sa ?_
 exact .nil (hK _ _ (AW.ret (rv1)))
theorem idxP_ge {p:Nu→Bool}{l:List Nu}:decide (0≤HY p l)=l.any p:=by
 unfold HY
 cases h:l.findIdx? p with
 |none=>
  rw[List.findIdx?_eq_none_iff] at h
  have:l.any p=false:=by
   rw[List.any_eq_false]
   intro x hx
   rw[h x hx];simp
  rw[this];rfl
 |some i=>
  obtain⟨hi,h1,_⟩:=O1.1 h
  have:l.any p=true:=List.any_eq_true.2 ⟨l[i],vt hi,h1⟩
  rw[this]
  exact dU (show (0:Int)≤(i:Int) by omega)
theorem Fy {f:FuncId}{p:Nu→Bool}(hf:∀x:Nu,aC prog f [dG a5 x] (dB (p x))){l:List Nu}(hl:l.length≤1000000):aC prog 102 [.e (slE a5 l),.e (.lit (.func (.func f) #[] #[]))] (dB (l.any p)):=by
 refine bQ (rs:=[.tmp 4]) (fun cx hx h0=>?_) func102
 refine ra hx ?_
 refine rs hx fun K hK=>?_
 iterate 2 refine sa ?_
 refine sc (Mb hf hl) ?_
 iterate 2 refine sa ?_
 refine .nil (hK _ _ (AW.ret ?_))
 rw[idxP_ge]
 exact rv1
theorem LF(l:List Nu):(!l.any fun x=>!aR x)=l.all aR:=by
 induction l with
 |nil=>rfl
 |cons a l ih=>rw[List.any_cons,jy,Bool.not_or,Bool.not_not,ih]
theorem w_mgood {l:List Nu}(hl:l.length≤1000000):aC prog 58 [.e (slE a5 l)] (dB (l.all aR)):=by
 refine bQ (rs:=[.tmp 2]) (fun cx hx h0=>?_) func58
 refine ra hx ?_
 refine rs hx fun K hK=>?_
 refine sa ?_
 refine sc (Fy L9 hl) ?_
 iterate 2 refine sa ?_
 refine .nil (hK _ _ (AW.ret ?_))
 rw[LF]
 exact rv1
theorem AR.own {hp:Hp}{id z n:Nat}{xs:List E}:AR hp (.own id z n xs) (.e (.sl z n xs)):=by
 intro B g w v hr hd
 cases hd with
 |own _ _ _ _ _ h hid ht=>exact .e _ _ (h.less fun p hp=>hp.1)
theorem aC.ofMA {P : Program} {tb : TypeId → Option TyE} (tok : TOk P tb) {f : FuncId} {fn : Func} {c : Code} {ds es : List D} {rs : List ResultVar} (hf : P.funcs[f]? = some fn) (hb : fn.body = some c) (rt : (fn.name == "runtime.NumGoroutine") = false) (hN : ds.length ≤ fn.ntmps) (hrs : fn.results.toList = rs)
  (h:∀x:Cx,x.N=fn.ntmps→x.hp0=⟨[],[],0⟩→x.df=[]→x.B≤x.w0.heap.size→AV P none x c (ee 0 ds) ⟨[],[],0⟩ (LN x fun _ tm bG=>∃d,vL tb rs tm bG d∧AR bG d (.tu es))):aC P f ds (.tu es):=by
 subst hrs
 refine⟨⟨fn,hf,rt,by rw[hb];rfl⟩,fun w F vs hF hsz tX=>?_⟩
 have hr:HR w.heap.size ⟨[],[],0⟩ ⟨fun _=>0,fun _=>default,F⟩ w:=⟨fun k ds h=>by simp at h,fun _ _ _ _ h=>by simp at h,fun _ _ _ h=>by simp at h,fun _ _ _ _ _ h=>by simp at h,aL _,hF⟩
 refine (callsIn_wide (n:=0)).1 (callsIn_of_wp_marks (F:=FWd none) hf hb trivial (wpIn_mono (h ⟨w.heap.size,w,F,fn.ntmps,⟨[],[],0⟩,⟨fun _=>0,fun _=>default,F⟩,[]⟩ rfl rfl rfl (aL _) _ _ (Ex hr (fun _ _ h=>h) hN hsz tX)) ?_))
 intro ex a w' he
 refine he.leaves rfl ?_
 rintro x2 tm bG D w2 h1 h2 h3 h4 h5 h6 ⟨g',oN,ia,LU,B3,hB,hF',hM⟩ ⟨d,H8,har⟩ rfl hD sP
 have sP:w.heap.size≤D:=sP
 rw[h1] at oN hB hF'
 rw[h2] at hB
 rw[h3] at hF'
 have H9:=oN.putO (o':=.deferred none) hD rfl rfl
 obtain⟨v,bK,lB⟩:=sx (x:=⟨w.heap.size,w,F,fn.ntmps,⟨[],[],0⟩,⟨fun _=>0,fun _=>default,F⟩,[]⟩) (g:=g') tok rfl H8 H9 (fun t d ht=>(ia t d ht).putO hD rfl rfl)
 refine⟨v,bK,v,rfl,(har _ g' _ v H9 lB).less fun p hp=>⟨hF' p (hF p hp) hp,fun k ds hk he=>?_⟩,sh hB sP⟩
 have h7:=(H9.var k ds hk).2.1
 have h8:=hF p hp
 dsimp only at h7
 omega
section
theorem bI.up1 {vs:List (Nat×List D)}{lv:List (Nat×Nat×Nat×TypeId)}{N:Nat}{g:Gh}{w:World}:bI ⟨vs,lv,N⟩ g w ⟨vs,lv,N+1⟩ g w:=
 ⟨aL _,fun _ _ _=>rfl,fun _ _ h=>h,dH N,fun _ _=>rfl,fun _ _ m _ h=>⟨m,h,aL _,fun _=>rfl⟩,fun _ _ h=>⟨rfl,fun _ _ h=>h,h⟩,fun _=>.same fun _=>rfl⟩
theorem HR.up1 {vs:List (Nat×List D)}{lv:List (Nat×Nat×Nat×TypeId)}{N B:Nat}{g:Gh}{w:World}(hr:HR B ⟨vs,lv,N⟩ g w):HR B ⟨vs,lv,N+1⟩ g w:=by
 refine⟨fun k ds h=>?_,hr.inj,fun id n e h=>?_,hr.tinj,hr.base,hr.fits⟩
 ·obtain⟨a,b,c,cs,ty,d,e,f⟩:=hr.var k ds h
  exact⟨qi a,b,c,cs,ty,d,e,fun j u hu=>⟨(f j u hu).1,fun d hd=>((f j u hu).2 d hd).mono bI.up1⟩⟩
 ·obtain⟨a,b⟩:=hr.tok id n e h
  exact⟨qi a,b⟩
theorem HC.gwOw {P:Program}{f:FuncId}{ds:List D}{hp hp':Hp}{k z n:Nat}(h:HC P f ds hp (.gw k z n) hp'):HC P f ds hp (.ow k 0 z n) hp':=by
 refine⟨h.1,fun B g w vs hr hsz cM=>(h.2 B g w vs hr hsz cM).mono ?_⟩
 rintro e w' ⟨v,g',rfl,h1,h2,h3,h4,h5⟩
 refine⟨v,g',rfl,h1,h2,?_,h4,h5⟩
 cases h3 with
 |gw _ _ _ c hk oB nJ hs=>exact .ow k 0 z n c hk oB nJ
section
variable {vs:List (Nat×List D)} {lv:List (Nat×Nat×Nat×TypeId)} {N:Nat}
theorem Oa {V:List Nu}(hl:V.length≤1000000):HC prog 97 [.e (slE a5 V)] ⟨vs,lv,N⟩ (gQ N V.length) ⟨if V.length=0 then vs else (N,dC ((cW a5).f V))::vs,lv,N+1⟩:=by
 by_cases h0:V.length=0
 ·obtain rfl:V=[]:=kJ h0
  refine⟨(e8 0 [] (by decide)).1,fun B g w us hr hsz cM=>(yk (hp:=⟨vs,lv,N⟩) (ds:=[.e (slE a5 [])]) (e8 0 [] (by decide)) ⟨AR.dn rfl,trivial⟩ hr hsz cM).mono ?_⟩
  rintro e w' ⟨v,rfl,⟨_,_,hE⟩,hb⟩
  have hE2:cG w' g.F (.sl 36 0 []) v:=by
   cases hE with
   |sl _ _ _ A c cs hl hz oB nJ hA h1 h2=>exact .sl _ _ _ A c cs hl hz oB nJ hA (fun ad ha i e hi=>by simp at hi) (fun i e hi=>by simp at hi)
  exact⟨v,g,rfl,(hr.keep hb.size hb.block).up1,(bI.keep _ g hb.size hb.block).trans bI.up1,.e _ _ hE2,hb.mono hr.base,fun _ _ h=>h⟩
 ·have h:=HC.adopt (hp:=⟨vs,lv,N⟩) (ds:=[.e (slE a5 V)]) (e8 V.length (V.flatMap a5.f) hl) ⟨AR.dn rfl,trivial⟩ (by omega) (lit_Nu V)
  have h2:=h.gwOw
  rw[show gQ N V.length=.ow N 0 36 V.length from ay h0,ay h0]
  exact h2
end
def vj:Cd Pv:=⟨38,fun p=>[.lit (.int .i64 p.col)]++a5.f p.by'++[.lit (.bool p.mov)],fun p=>by simp[a5.h p.by'];rfl⟩
theorem pvD_c(p:Pv):D.ag (pvD p)=dG vj p:=by
 show D.ag (pvD p)=D.ag (([E.lit (.int .i64 p.col)]++a5.f p.by'++[E.lit (.bool p.mov)]).map .e)
 rw[mg,mg]
 rfl
def redE(R C:Nat):Option (List Nu×List Pv)→List D
 |some (U,acc)=>[.ag [dI .i64 R,dI .i64 C,.e (slE a5 U),.e (slE vj acc)],dI .i64 0]
 |none=>[.ag [dI .i64 0,dI .i64 0,.e (slE a5 []),.e (slE vj [])],dI .i64 30]
def PvO(acc:List Pv)(d:D)(hp:Hp):Prop:=(acc=[]∧d=dN)∨∃tk,tk<hp.next∧d=dO tk vj acc∧hp.live.lookup tk=some (acc.length,38,102)
def redJ(kM k4 R C:Nat)(acc:List Pv)(hp:Hp):Prop:=6≤hp.next∧hp.vars.lookup 1=some [dI .i64 0,dI .i64 0,dN,dN]∧hp.vars.lookup 2=some [dI .i64 0]∧∃d,hp.vars.lookup k4=some (kZ kM R C++[d])∧PvO acc d hp
def redS(hp:Hp):Prop:=6≤hp.next∧hp.vars.lookup 1=some [dI .i64 0,dI .i64 0,dN,dN]∧hp.vars.lookup 2=some [dI .i64 30]
section
variable {kM R C:Nat}
theorem red_m {d:D}:Pt (kZ kM R C++[d]) (0+0) (kZ kM R C) (fun ys=>ys++[d]):=Pt.of [] [d] rfl rfl fun y=>rfl
theorem red_D {d:D}:Pt (kZ kM R C++[d]) (0+0+2) [gQ kM (R*C)] (fun ys=>[dI .i64 R,dI .i64 C]++ys++[d]):=Pt.of [dI .i64 R,dI .i64 C] [d] rfl rfl fun y=>rfl
theorem red_l {d:D}:Pt (kZ kM R C++[d]) (0+3) [d] (fun ys=>kZ kM R C++ys):=Pt.of (kZ kM R C) [] rfl (by simp) fun y=>by simp
theorem MX {d:D}:Pt [dI .i64 R,dI .i64 C,d] (0+0) [dI .i64 R] (fun ys=>ys++[dI .i64 C,d]):=Pt.of [] _ rfl rfl fun y=>rfl
theorem MZ {d:D}:Pt [dI .i64 R,dI .i64 C,d] (0+1) [dI .i64 C] (fun ys=>[dI .i64 R]++ys++[d]):=Pt.of [dI .i64 R] [d] rfl rfl fun y=>rfl
theorem MY {d:D}:Pt [dI .i64 R,dI .i64 C,d] (0+2) [d] (fun ys=>[dI .i64 R,dI .i64 C]++ys++[]):=Pt.of [dI .i64 R,dI .i64 C] [] rfl rfl fun y=>rfl
end
end
section
def restC:Code:=match (f63).body with
 |some (.seq _ (.seq _ c))=>c
 |_=>.skip
theorem RS.wk {x:Cx}{tm tm':List (Nat×D)}{hp hp':Hp}{a:Act}{w:World}(hr:RS x tm hp a w)(hw:Wk x tm hp tm' hp'):RS x tm' hp' a w:=hw a w hr
theorem redJ_up {kM k4 R C:Nat}{acc:List Pv}{vs og:List (Nat×List D)}{lv:List (Nat×Nat×Nat×TypeId)}{N N':Nat}(hM:kM=3∨kM=4)(h4:k4=3∨k4=4)(lg:k4≠kM)(h:redJ kM k4 R C acc ⟨vs,lv,N⟩)(hN:N≤N')(hv:∀j ds,j≠kM→j<6→vs.lookup j=some ds→og.lookup j=some ds):redJ kM k4 R C acc ⟨og,lv,N'⟩:=by
 obtain⟨h0,h1,h2,d,h3,h5⟩:=h
 refine⟨cU h0 hN,hv _ _ (by omega) (by omega) h1,hv _ _ (by omega) (by omega) h2,d,hv _ _ lg (by omega) h3,?_⟩
 rcases h5 with h5|⟨tk,a,b,c⟩
 ·exact .inl h5
 ·exact .inr ⟨tk,bT a hN,b,c⟩
theorem kW {R C:Nat}:∀{n k r:Nat} {V:List Nu} {acc:List Pv} {W:List Nu} {l:List Pv},V.length=R*C→kN R C n k r V acc=some (W,l)→W.length=R*C
 |0,_,_,_,_,_,_,hV,h=>by
  unfold kN at h
  injection h with h
  injection h with h1 h2
  rw[←h1];exact hV
 |n+1,k,r,V,acc,W,l,hV,h=>by
  unfold kN at h
  split at h
  ·split at h
   ·exact kW hV h
   ·split at h
    ·exact kW (by rw[tU];exact hV) h
    ·cases h
  ·injection h with h
   injection h with h1 h2
   rw[←h1];exact hV
section
variable {R C kM k4:Nat} {V:List Nu} {x:Cx} {vs:List (Nat×List D)}
theorem yM(hM:kM=3∨kM=4)(h4:k4=3∨k4=4)(lg:k4≠kM)(hN:x.N=(f63).ntmps)(h0:x.hp0=⟨[],[],0⟩)(q7:x.df=[])(hB:x.B≤x.w0.heap.size)(hok:eY ⟨vs,[],5⟩)
  (hV:V.length=R*C) (JY:R*C≤1000000) (hR:R≤1000000) (hC:C≤1000000)
  (zA:vs.lookup 1=some [dI .i64 0,dI .i64 0,dN,dN]) (vZ:vs.lookup 2=some [dI .i64 0]) (hl4:vs.lookup k4=some (kZ kM R C++[dN])) (hlM:0<R→0<C→vs.lookup kM=some (dC ((cW a5).f V)))
  (vc:∀k ds,vs.lookup k=some ds→ds.all D.noO=true):
  AV prog none x restC [(2,.pt 1 0),(3,.pt 2 0),(4,.pt k4 0)] ⟨vs,[],5⟩ (LN x fun _ tm bG=>∃d,vL tbl [.cell 2 97,.cell 3 26] tm bG d∧AR bG d (.tu (redE R C (kN R C C 0 0 V [])))):=by
 have hkM6:kM<5:=by omega
 have hk46:k4<5:=by omega
 refine AV.seq ?_
 refine vrs hN fun K hK=>?_
 refine sa ?_
 refine p1 red_m rfl ?_
 refine q1s (d:=.fn 137 [5]) (hp':=⟨(5,kZ kM R C)::vs,[],6⟩) (K6 rfl (h_steps (kM:=kM) (R:=R) (C:=C) hkM6) rfl) ?_
 refine .nil (hK _ _ (AV.block ?_))
 have hl5:∀j ds,vs.lookup j=some ds→((5,kZ kM R C)::vs).lookup j=some ds:=fun j ds h=>am (hok.ne h (aL _)) h
 refine AV.range (f:=137) (ks:=[5]) rfl ⟨_,func137,rfl,rfl⟩ hB
  (M8 (kM:=kM) (k0:=5) (k4:=k4) (E:=6) (R:=R) (C:=C) (V0:=V) (J:=redJ kM k4 R C) (S:=redS) (by omega) (by omega) (by omega) lg (by omega) (by omega) hV JY hR hC (fun h1 h2=>hl5 _ _ (hlM h1 h2)) ai (fun k ds h=>?_) (by rw[hN];exact bg rfl) ?_ ?_ ?_) ?_ ?_
 ·rcases dE h with⟨rfl,rfl⟩|⟨_,h⟩
  ·unfold kZ gQ;split <;> rfl
  ·exact vc k ds h
 ·exact⟨aL _,hl5 _ _ zA,hl5 _ _ vZ,dN,hl5 _ _ hl4,.inl ⟨rfl,rfl⟩⟩
 ·exact fun acc vs og lv N N' h hN _ hv=>redJ_up hM h4 lg h hN hv
 ·rintro V' acc pv ⟨v1',lv,N⟩ Ho uj hV' hokp Nn ⟨hN6,hj1,zB,d,hj4,hpo⟩ l y hy _ hy0
  dsimp only at hN6 hj1 zB hj4 Nn
  have hk4N:k4<N:=by omega
  have hmD:gQ kM (R*C)=.ow kM 0 36 (R*C):=ay (Nat.ne_of_gt (rB Ho (by omega)))
  refine vrr (hy.trans hN) (fun K hK=>?_)
  refine a1 gq (hz:=rfl) ?_
  refine v1 (k:=N) (ys:=pvD pv) (F2:=pvD pv) Pt.all (by exact rfl) (by exact zO pv) rfl ?_ rfl ai rfl (ht:=gq)
  have hokN:eY ⟨(N,pvD pv)::v1',lv,N+1⟩:=(hokp.up (M:=N+1) (dH _)).consM (dY _) (by unfold pvD;rw[sj,sj,nY];rfl)
  refine .nil (hK _ _ fun a w hr=>⟨rfl,[(2,.pt 1 0),(3,.pt 2 0),(4,.pt k4 0),(5,.pt N 0)],⟨(N,pvD pv)::v1',lv,N+1⟩,RS.wk hr (wk1 hy0 (hok:=hokN) (hv:=fun j ds h=>by
   rcases dE h with⟨rfl,rfl⟩|⟨hj,h⟩
   ·exact ai
   ·exact am hj (am hj h))),fun y2 AA _ h0y=>?_⟩)
  have AA:=AA.trans hN
  refine AV.block ?_
  refine AV.seq ?_
  refine vrrs AA fun K hK=>?_
  iterate 2 refine sa ?_
  refine c1 red_D ?_ (hv:=am (by omega) hj4)
  have JV:=HC.frz (hp:=⟨(N,pvD pv)::v1',lv,N+1⟩) (ds:=[gQ kM (R*C)]) (w_mgood (l:=V') (by rw[hV'];exact JY)) ⟨by rw[hmD];exact AR.list (am (by omega) Nn) hV',trivial⟩ rfl
  refine q1s (K6 rfl JV rfl) ?_
  refine sa ?_
  refine .nil (hK _ _ (AV.cond rfl (fun hb=>?_) (fun hb=>?_)))
  ·have hbad:V'.all aR=false:=by simpa using hb
   refine vrrs AA fun K hK=>?_
   refine s1 (d:=.ag [dI .i64 0,dI .i64 0,dN,dN]) (cV (ps:=[]) i6) ?_
   refine v1 (k:=1) (F:=[dI .i64 0,dI .i64 0,dN,dN]) (ys:=[dI .i64 0,dI .i64 0,dN,dN]) Pt.all (by exact rfl) (by exact rfl) rfl ?_ rfl (am (by omega) hj1) rfl (ht:=i6)
   refine v1 (k:=2) (F:=[dI .i64 0]) (ys:=[dI .i64 30]) (Pt.one _) rfl rfl rfl ?_ rfl (am (by omega) (am (by omega) zB)) rfl
   refine .nil (hK _ _ (AV.ret fun a w hr=>⟨_,_,hr,hbad,by show 6≤N+1;omega,am (by omega) ai,ai⟩))
  ·have hgood:V'.all aR=true:=by simpa using hb
   have key:∃sT B1 N2 tk,(∀tm,Wk y2 tm ⟨(N,pvD pv)::v1',lv,N+1⟩ tm ⟨sT,B1,N2⟩)∧eY ⟨sT,B1,N2⟩∧N+1≤N2∧tk<N2∧sT.lookup k4=some (kZ kM R C++[dO tk vj acc])∧B1.lookup tk=some (acc.length,38,102)∧∀j ds,j≠k4→((N,pvD pv)::v1').lookup j=some ds→sT.lookup j=some ds:=by
    rcases hpo with⟨rfl,rfl⟩|⟨tk,No,rfl,NQ⟩
    ·refine⟨_,_,_,N+1,fun tm=>Wk.nilOwn k4 3 102 38 (hk:=am (by omega) hj4) (hj:=rfl) (hd:=rfl),?_,dH _,dY _,ai,ai,fun j ds hj h=>am hj h⟩
     have h1:=hokN.up (M:=N+1+1) (dH _)
     refine⟨fun j es hj=>?_,fun id e hi=>?_⟩
     ·rcases dE hj with⟨e1,rfl⟩|⟨_,hj⟩
      ·refine⟨by rw[e1];show k4<N+1+1;omega,?_⟩
       unfold kZ gQ
       split <;> simp[D.idsC,dI] <;> omega
      ·exact h1.var j es hj
     ·by_cases e1:id=N+1
      ·rw[e1];show N+1<N+1+1;omega
      ·exact h1.tok id e (by rw[←hi];exact (ar e1).symm)
    ·exact⟨_,_,_,tk,fun tm=>Wk.refl _ _ _,hokN,aL _,qi No,am (by omega) hj4,NQ,fun j ds hj h=>h⟩
   obtain⟨sT,B1,N2,tk,hw,xV,hN2,No,hd4,NQ,hkp⟩:=key
   refine AV.skip fun a w hr=>?_
   show Code.wpIn (FWd (some l)) 0 prog _ _ a w
   refine (AV.weak (hw _) ?_:AV prog (some l) y2 _ _ ⟨(N,pvD pv)::v1',lv,N+1⟩ _) a w hr
   refine vrr AA (fun K hK=>?_)
   refine sa ?_
   refine c1 red_l ?_ (hv:=hd4)
   refine p1 (Pt.all (F:=pvD pv)) (zO pv) ?_ (hv:=hkp _ _ (by omega) ai)
   rw[pvD_c]
   refine s1 (d:=dO N2 vj [pv]) (hp':=⟨sT,(N2,1,38,102)::B1,N2+1⟩) (qm ([pv]:List Pv) vj qz gq) ?_
   have Lp:(acc++[pv]).length≤1000000:=by rw[eT];show acc.length+1≤1000000;omega
   refine s1 (d:=dO tk vj (acc++[pv])) (hp':=⟨sT,(tk,(acc++[pv]).length,38,102)::(N2,1,38,102)::B1,N2+1⟩) (iT (l:=acc) (l':=[pv]) (c:=vj) (id:=tk) qz gq (cU (cg _ Lp) (by decide)) (hl:=(ar (by omega)).trans NQ)) ?_
   refine sa ?_
   refine v1 (k:=k4) (F:=kZ kM R C++[dO tk vj acc]) (ys:=[dO tk vj (acc++[pv])]) (F2:=kZ kM R C++[dO tk vj (acc++[pv])]) red_l rfl rfl rfl ?_ rfl hd4 rfl
   refine .nil (hK _ _ fun a w hr=>⟨_,_,hr,hgood,⟨?_,?_,?_⟩,?_⟩)
   ·have h1:=(xV.up (M:=N2+1) (dH _)).consM (k:=k4) (ds:=kZ kM R C++[dO tk vj (acc++[pv])]) (by omega) (by unfold kZ gQ;split <;> simp[D.idsC,dI,dO] <;> omega)
    refine⟨fun j es hj=>h1.var j es hj,fun id e hi=>?_⟩
    by_cases e1:id=tk
    ·rw[e1];show tk<N2+1;omega
    ·by_cases e2:id=N2
     ·rw[e2];show N2<N2+1;omega
     ·exact h1.tok id e (by rw[←hi];exact ((ar e1).trans (ar e2)).symm)
   ·show N≤N2+1;omega
   ·intro j ds hj h
    have hj4':j≠k4:=by simpa using hj
    exact am hj4' (hkp j ds hj4' (am (hokp.ne h (aL _)) h))
   ·refine⟨by show 6≤N2+1;omega,am (by omega) (hkp _ _ (by omega) (am (by omega) hj1)),am (by omega) (hkp _ _ (by omega) (am (by omega) zB)),_,ai,.inr ⟨tk,by show tk<N2+1;omega,rfl,ai⟩⟩
 ·rintro x' Db ⟨v1',lv,N⟩ a w hbh hrs ⟨V',acc,lT,hok',hM',hN6,hj1,zB,d,hj4,hpo⟩
  dsimp only at hN6 hj1 zB hj4 hM'
  have hlen:V'.length=R*C:=kW hV lT
  show Code.wpIn (FWd none) 0 prog _ _ a w
  refine (vrs (x:=x') (hbh.N.trans hN) fun K hK=>?_) a w hrs
  refine p1 (Pt.all (F:=kZ kM R C++[d])) (by exact rfl) ?_ (hv:=hj4) (ht:=i6)
  refine v1 (k:=1) (F:=[dI .i64 0,dI .i64 0,dN,dN]) (ys:=kZ kM R C++[d]) Pt.all (by exact rfl) (by exact rfl) rfl ?_ rfl hj1 rfl (ht:=i6)
  refine v1 (k:=2) (F:=[dI .i64 0]) (ys:=[dI .i64 0]) (Pt.one _) rfl rfl rfl ?_ rfl (am (by omega) zB) rfl
  refine .nil (hK _ _ (AV.ret fun a w hr=>⟨.inr rfl,x',Db,_,_,_,_,hbh,hr,_,resV i6 rfl (am (by omega) ai) (by show 1<N;omega) rfl rfl (Mz rfl Js rfl ai (by show 2<N;omega) rfl rfl),?_⟩))
  rw[lT]
  refine AR.tu ⟨AR.ag ⟨AR.dn rfl,AR.dn rfl,?_,?_,trivial⟩,AR.dn rfl,trivial⟩
  ·show AR _ (gQ kM (R*C)) (.e (slE a5 V'))
   unfold gQ
   by_cases h0:R*C=0
   ·rw[az h0]
    have:V'=[]:=kJ (by omega)
    subst this
    exact AR.dn rfl
   ·rw[ay h0]
    have hRp:0<R:=sm fun e=>h0 (by rw[e,fj])
    have hCp:0<C:=sm fun e=>h0 (by rw[e,EP])
    exact AR.list (am (by omega) (am (by omega) (hM' hRp hCp))) hlen
  ·rcases hpo with⟨rfl,rfl⟩|⟨tk,_,rfl,_⟩
   ·exact AR.le (HV (ltb rfl)) rfl
   ·exact AR.own
 ·rintro x' Db ⟨v1',lv,N⟩ a w hbh hrs ⟨lT,hN6,hj1,zB⟩
  dsimp only at hN6 hj1 zB
  show LN x (fun _ tm bG=>∃d,vL tbl [.cell 2 97,.cell 3 26] tm bG d∧AR bG d (.tu (redE R C (kN R C C 0 0 V [])))) .ret a w
  refine⟨.inr rfl,x',Db,_,_,_,_,hbh,hrs,_,resV i6 rfl hj1 (by show 1<N;omega) rfl rfl (Mz rfl Js rfl zB (by show 2<N;omega) rfl rfl),?_⟩
  rw[lT]
  exact AR.tu ⟨AR.ag ⟨AR.dn rfl,AR.dn rfl,AR.le (HV (ltb rfl)) rfl,AR.le (HV (ltb rfl)) rfl,trivial⟩,AR.dn rfl,trivial⟩
end
end
section
theorem Wk.tms {x:Cx}{tm tm':List (Nat×D)}{hp:Hp}(hs:∀p∈tm',tm.lookup p.1=some p.2):Wk x tm hp tm' hp:=by
 rintro a w ⟨g,hh,ia,h1⟩
 exact⟨g,hh,fun t d h=>ia t d (hs _ (HT h)),h1⟩
def Bb(V:List Nu)(N:Nat)(vs:List (Nat×List D)):List (Nat×List D):=if V.length=0 then vs else (N,dC ((cW a5).f V))::vs
section
variable {md:Md} {ops:Array Oper} {K:List (Nat×D)→Hp→Prop} {os:List Oper} {tm:List (Nat×D)} {hp hp':Hp} {t s:Tmp} {ty:TypeId} {pos:String} {af:Array Edge} {vs:List (Nat×List D)} {lv:List (Nat×Nat×Nat×TypeId)} {N n R C:Nat} {V:List Nu}
theorem pI {j:Nat}(h:j≠N):(Bb V N vs).lookup j=vs.lookup j:=by
 unfold Bb
 split
 ·rfl
 ·exact ar h
theorem Ki(hok:eY ⟨vs,lv,N⟩):eY ⟨Bb V N vs,lv,N+1⟩:=by
 unfold Bb
 split
 ·exact hok.up (dH N)
 ·exact (hok.up (dH N)).consM (dY N) (nY _)
theorem Kj(vc:∀k ds,vs.lookup k=some ds→ds.all D.noO=true):∀k ds,(Bb V N vs).lookup k=some ds→ds.all D.noO=true:=by
 intro k ds h
 unfold Bb at h
 split at h
 ·exact vc k ds h
 ·rcases dE h with⟨rfl,rfl⟩|⟨_,h⟩
  ·rw[bZ]
   intro d hd
   obtain⟨e,_,rfl⟩:=qh.1 hd
   rfl
  ·exact vc k ds h
theorem Mx {x:Operand}{ts:Array TypeId}(hl:V.length≤1000000)(hn:V.length=n)(h2:bB prog tbl md ops K os ((t,gQ N n)::tm) ⟨Bb V N vs,lv,N+1⟩)(hx:evD tm x=.e (slE a5 V):=by exact rfl)(oB:md.nc tbl (.call ⟨.value (.func 97),[x].toArray,ts⟩)=true:=by exact rfl):
  bB prog tbl md ops K (⟨some t,.call ⟨.value (.func 97),[x].toArray,ts⟩,ty,pos,af,none⟩::os) tm ⟨vs,lv,N⟩:=by
 subst hn
 refine FI rfl (sHC (Oa (vs:=vs) (lv:=lv) (N:=N) hl) (by show [evD tm x]=_;rw[hx]) (.inr ⟨dH _,fun j hj=>?_⟩) rfl oB) h2
 exact pI (V:=V) (Nat.ne_of_lt hj)
end
section
variable {R C:Nat} {V:List Nu}
theorem L8(hV:V.length=R*C)(JY:R*C≤1000000)(hR:R≤1000000)(hC:C≤1000000):aC prog 63 [.ag [dI .i64 R,dI .i64 C,.e (slE a5 V)]] (.tu (redE R C (kN R C C 0 0 V []))):=by
 refine aC.ofMA tok func63 rfl rfl (bg rfl) rfl (fun x hN h0 q7 hB=>?_)
 simp only[ee,Nat.reduceAdd,br]
 obtain⟨V0,Eg⟩:∃V0:List (Nat×List D),V0=[(2,[dI .i64 0]),(1,[dI .i64 0,dI .i64 0,dN,dN]),(0,[dI .i64 R,dI .i64 C,.e (slE a5 V)])]:=⟨_,rfl⟩
 refine vrs hN fun K hK=>?_
 refine s1 (d:=.pt 0 0) (hp':=⟨[(0,[dI .i64 R,dI .i64 C,.e (slE a5 V)])],[],1⟩) iX ?_
 refine a1 i6 (hz:=rfl) ?_
 refine a1 Js (hz:=rfl) ?_
 refine .nil (hK _ _ ?_)
 have hok0:eY ⟨V0,[],3⟩:=by
  rw[Eg]
  exact (((eY.nil.up (M:=3) (dZ _)).consM (by decide) rfl).consM (by decide) rfl).consM (by decide) rfl
 have hno0:∀k ds,V0.lookup k=some ds→ds.all D.noO=true:=by
  intro k ds h
  rw[Eg] at h
  rcases dE h with⟨_,rfl⟩|⟨_,h⟩
  ·rfl
  ·rcases dE h with⟨_,rfl⟩|⟨_,h⟩
   ·rfl
   ·rcases dE h with⟨_,rfl⟩|⟨_,h⟩
    ·rfl
    ·cases h
 have l1:V0.lookup 1=some [dI .i64 0,dI .i64 0,dN,dN]:=by rw[Eg];rfl
 have l2:V0.lookup 2=some [dI .i64 0]:=by rw[Eg];rfl
 have l0:V0.lookup 0=some [dI .i64 R,dI .i64 C,.e (slE a5 V)]:=by rw[Eg];rfl
 have hVl:V.length≤1000000:=by omega
 have F7:∀{kM M:Nat},kM<M→(kZ kM R C++[dN]).all (D.idsC M)=true:=fun {kM M} h=>by
  unfold kZ gQ;split <;> simp[D.idsC,dI] <;> omega
 have JI:∀{kM:Nat},(kZ kM R C++[dN]).all D.noO=true:=fun {kM}=>by
  unfold kZ gQ;split <;> rfl
 have hMl:∀N,0<R→0<C→(Bb V N V0).lookup N=some (dC ((cW a5).f V)):=fun N h1 h2=>by
  have:0<R*C:=rB h1 h2
  unfold Bb
  rw[ifn_]
  exact ai
 have hcM:∀k,(gQ k (R*C)).cells=some [gQ k (R*C)]:=fun k=>by unfold gQ;split <;> rfl
 have hpt:∀k,kq [(0,dI .i64 R),(1,dI .i64 C),(2,gQ k (R*C))]=some [(0,[dI .i64 R]),(1,[dI .i64 C]),(2,[gQ k (R*C)])]:=fun k=>by
  simp only[kq,hcM]
  rfl
 show AV prog none x _ [(3,.pt 2 0),(2,.pt 1 0),(1,.pt 0 0),(0,.ag [dI .i64 R,dI .i64 C,.e (slE a5 V)])] ⟨[(2,[dI .i64 0]),(1,[dI .i64 0,dI .i64 0,dN,dN]),(0,[dI .i64 R,dI .i64 C,.e (slE a5 V)])],[],3⟩ _
 rw[←Eg]
 refine AV.seqA (dw (DW.split 6 9 (by decide) ?_ ?_))
 ·refine dwg [] [0,1,2,3,4,5,6,7,8,9,10] hN (by kernel_rfl) (by kernel_rfl) (by kernel_rfl) fun K hK=>?_
  dsimp only[d6,mT,m7,List.map]
  refine sa ?_
  refine c1 MX ?_ (hv:=l0)
  refine sa ?_
  refine c1 MZ ?_ (hv:=l0)
  refine sa ?_
  refine c1 MY ?_ (hv:=l0)
  refine Mx hVl hV ?_
  refine s1 (d:=.ag [dI .i64 R,dI .i64 C,gQ 3 (R*C)]) (cV (qs:=[(0,[dI .i64 R]),(1,[dI .i64 C]),(2,[gQ 3 (R*C)])]) av (hp1:=hpt 3)) ?_
  refine s1 (d:=.ag [dI .i64 R,dI .i64 C,gQ 3 (R*C),dN]) (cV i6) ?_
  refine a1 i6 (hz:=rfl) ?_
  refine v1 (k:=4) (F:=[dI .i64 0,dI .i64 0,dN,dN]) (ys:=kZ 3 R C++[dN]) Pt.all (by exact rfl) (by exact rfl) rfl ?_ rfl ai rfl (ht:=i6)
  refine .nil (hK _ _ ?_)
  have h1:=(Ki (V:=V) hok0).up (M:=5) (by decide)
  refine AV.weak (Wk.tms ?_) (yM (kM:=3) (k4:=4) (.inl rfl) (.inr rfl) (by decide) hN h0 q7 hB ((h1.consM (k:=4) (ds:=[dI .i64 0,dI .i64 0,dN,dN]) (by decide) rfl).consM (k:=4) (by decide) (F7 (by decide))) hV JY hR hC (am (by decide) (am (by decide) ((pI (by decide)).trans l1))) (am (by decide) (am (by decide) ((pI (by decide)).trans l2))) ai (fun a b=>am (by decide) (am (by decide) (hMl 3 a b))) (fun k ds h=>?_))
  ·intro p hp
   simp only[jx,vB,or_false] at hp
   rcases hp with rfl|rfl|rfl <;> rfl
  ·rcases dE h with⟨_,rfl⟩|⟨_,h⟩
   ·exact JI
   ·rcases dE h with⟨_,rfl⟩|⟨_,h⟩
    ·rfl
    ·exact Kj hno0 k ds h
 ·refine dwg [] [0,1,2,3,4,5,9,6,7,8,10] hN (by kernel_rfl) (by kernel_rfl) (by kernel_rfl) fun K hK=>?_
  dsimp only[d6,mT,m7,List.map]
  refine sa ?_
  refine c1 MX ?_ (hv:=l0)
  refine sa ?_
  refine c1 MZ ?_ (hv:=l0)
  refine sa ?_
  refine c1 MY ?_ (hv:=l0)
  refine a1 i6 (hz:=rfl) ?_
  refine Mx hVl hV ?_
  refine s1 (d:=.ag [dI .i64 R,dI .i64 C,gQ 4 (R*C)]) (cV (qs:=[(0,[dI .i64 R]),(1,[dI .i64 C]),(2,[gQ 4 (R*C)])]) av (hp1:=hpt 4)) ?_
  refine s1 (d:=.ag [dI .i64 R,dI .i64 C,gQ 4 (R*C),dN]) (cV i6) ?_
  have l3:(Bb V 4 ((3,[dI .i64 0,dI .i64 0,dN,dN])::V0)).lookup 3=some [dI .i64 0,dI .i64 0,dN,dN]:=(pI (by decide)).trans ai
  refine v1 (k:=3) (F:=[dI .i64 0,dI .i64 0,dN,dN]) (ys:=kZ 4 R C++[dN]) Pt.all (by exact rfl) (by exact rfl) rfl ?_ rfl l3 rfl (ht:=i6)
  refine .nil (hK _ _ ?_)
  have h1:=Ki (V:=V) ((hok0.up (M:=4) (by decide)).consM (k:=3) (ds:=[dI .i64 0,dI .i64 0,dN,dN]) (by decide) rfl)
  refine AV.weak (Wk.tms ?_) (yM (kM:=4) (k4:=3) (.inr rfl) (.inl rfl) (by decide) hN h0 q7 hB (h1.consM (k:=3) (by decide) (F7 (by decide))) hV JY hR hC (am (by decide) ((pI (by decide)).trans (am (by decide) l1))) (am (by decide) ((pI (by decide)).trans (am (by decide) l2))) ai (fun a b=>am (by decide) ?_) (fun k ds h=>?_))
  ·intro p hp
   simp only[jx,vB,or_false] at hp
   rcases hp with rfl|rfl|rfl <;> rfl
  ·have:0<R*C:=rB a b
   unfold Bb
   rw[ifn_]
   exact ai
  ·rcases dE h with⟨_,rfl⟩|⟨_,h⟩
   ·exact JI
   ·refine Kj (fun k ds h=>?_) k ds h
    rcases dE h with⟨_,rfl⟩|⟨_,h⟩
    ·rfl
    ·exact hno0 k ds h
end
end
end
end Go.Proofs.YtgfcnncojhkcoaaGreat
