/-
  Lemmas, part 5. Conditions: none.
-/
import Derived.Test.YtgfcnncojhkcoaaGreatU4
import Derived.RangeFuncNested
import Derived.RangeFuncLeaves
set_option linter.all false
set_option maxRecDepth 100000
set_option maxHeartbeats 4000000
namespace Go.Proofs.YtgfcnncojhkcoaaGreat
open Go.RowKit Go.IntKind Tryz
noncomputable section
section
section
variable {B k z n N:Nat} {F:List E} {vs oM:List (Nat×List D)} {lv:List (Nat×Nat×Nat×TypeId)} {g:Gh} {w:World} {d d':D} {v:Value}
theorem Id {α:Type}{l:List (Nat×α)}{k:Nat}{y:α}(h:l.lookup k=some y):(k,y)∈l:=by
 induction l with
 |nil=>simp at h
 |cons p l ih=>
  obtain⟨a,b⟩:=p
  by_cases hk:k=a
  ·subst hk
   rw[ai] at h
   injection h with h
   subst h
   exact pk ..
  ·rw[ar hk] at h
   exact nV _ (ih h)
end
theorem AR.le {hp:Hp}{d d2:D}(h:d.ex.le d2)(hp1:d.ex.pure=true):AR hp d d2:=fun B g w v hr hd=>(AR.data hp1 B g w v hr hd).le h
def D.refC:D→Bool
 | .e (.lit _)=>true
 | .pt _ _=>true
 | .ow _ _ _ _=>true
 | .gw _ _ _=>true
 |_=>false
def D.ref1:D→Bool
 | .ag ds=>ds.all D.refC
 |d=>d.refC
def D.ref2:D→Bool
 | .tu ds=>ds.all D.ref1
 |d=>d.ref1
section
variable {P:Program} {hp bK:Hp} {g g2:Gh} {w:World} {ρ:Nat→Nat} {d:D} {v:Value}
theorem rH(h:aN hp g w d v)(hn:d.refC=true)(rx:∀i,i<hp.next→ρ i<bK.next)(hμ:∀i,i<hp.next→g2.μ (ρ i)=g.μ i):aN bK g2 w (d.renC ρ) v:=by
 cases h with
 |e x v h=>
  cases x with
  |lit u=>cases h with|lit _ ho=>exact .e _ _ (.lit _ ho)
  |_=>cases hn
 |pt k off hk=>rw[←hμ k hk];exact .pt _ off (rx k hk)
 |ow k off z n c hk h1 h2=>rw[←hμ k hk];exact .ow _ off z n c (rx k hk) h1 h2
 |gw k z n c hk h1 h2 hs=>rw[←hμ k hk];exact .gw _ z n c (rx k hk) h1 h2 (by rw[hμ k hk];exact hs)
 |_=>cases hn
theorem rI(h:aN hp g w d v)(hn:d.ref1=true)(rx:∀i,i<hp.next→ρ i<bK.next)(hμ:∀i,i<hp.next→g2.μ (ρ i)=g.μ i):aN bK g2 w (d.ren ρ) v:=by
 cases d with
 |ag ds=>
  cases h with
  |ag _ cs hl ho Fu=>
   refine .ag _ cs (by simpa using hl) ho fun j d u hj hu=>?_
   rw[de] at hj
   obtain⟨d0,h4,rfl⟩:=qC.1 hj
   exact rH (Fu j d0 u h4 hu) (bV.1 hn d0 (cc h4)) rx hμ
 |e x=>exact rH h hn rx hμ
 |pt k o=>exact rH h hn rx hμ
 |ow k o z n=>exact rH h hn rx hμ
 |gw k z n=>exact rH h hn rx hμ
 |_=>cases hn
theorem MO(h:aN hp g w d v)(hn:d.ref2=true)(rx:∀i,i<hp.next→ρ i<bK.next)(hμ:∀i,i<hp.next→g2.μ (ρ i)=g.μ i):aN bK g2 w (d.ren2 ρ) v:=by
 cases d with
 |tu ds=>
  cases h with
  |tu _ cs hl Fu=>
   refine .tu _ cs (by simpa using hl) fun j d u hj hu=>?_
   rw[de] at hj
   obtain⟨d0,h4,rfl⟩:=qC.1 hj
   exact rI (Fu j d0 u h4 hu) (bV.1 hn d0 (cc h4)) rx hμ
 |ag ds=>exact rI h hn rx hμ
 |e x=>exact rI h hn rx hμ
 |pt k o=>exact rI h hn rx hμ
 |ow k o z n=>exact rI h hn rx hμ
 |gw k z n=>exact rI h hn rx hμ
 |_=>cases hn
end
theorem HC.frame0R {P:Program}{f:FuncId}{ds dsE:List D}{r:D}{n5 vs:List (Nat×List D)}{lv:List (Nat×Nat×Nat×TypeId)}{n' N:Nat}(h:HC P f dsE ⟨[],[],0⟩ r ⟨n5,[],n'⟩)
  (ha:ARs ⟨vs,lv,N⟩ ds dsE) (hr:r.ref2=true) (hvo:∀k cs,n5.lookup k=some cs→cs.all D.refC=true):
  HC P f ds ⟨vs,lv,N⟩ (r.ren2 (fun i=>N+i)) ⟨n5.map (fun p=>(N+p.1,p.2.map (D.renC fun i=>N+i)))++vs,lv,N+n'⟩:=by
 refine⟨h.1,fun B g w us hR hsz cM=>?_⟩
 obtain⟨zM,wd⟩:=ha.get
 have hS0:HR w.heap.size ⟨[],[],0⟩ ⟨fun _=>0,fun _=>default,Fv ⟨vs,lv,N⟩ g⟩ w:=
  ⟨fun k ds h=>by simp at h,fun k k' a b h=>by simp at h,fun id n e h=>by simp at h,fun id zb a b c h=>by simp at h,aL _,K4 hR⟩
 refine (h.2 w.heap.size _ w us hS0 (by omega) (fun j e u he hu=>?_)).mono ?_
 ·obtain⟨d,h3,h4⟩:=wd j e he
  exact h4 B g w u hR (cM j d u h3 hu)
 rintro en w' ⟨v,g',rfl,GS,hM,lT,hB,hF⟩
 let g2:Gh:=⟨fun i=>if i<N then g.μ i else g'.μ (i - N),g.τ,fun p=>g.F p∨∃k cs,n5.lookup k=some cs∧p.block=g'.μ k⟩
 have hμo:∀i,i<N→g2.μ i=g.μ i:=fun i hi=>ay hi
 have v9:∀i,g2.μ (N+i)=g'.μ i:=fun i=>by
  show (if N+i<N then _ else g'.μ (N+i - N))=_
  rw[ifn_,Fa]
 have look:∀{j:Nat} {cs:List D},(n5.map (fun p=>(N+p.1,p.2.map (D.renC fun i=>N+i)))++vs).lookup j=some cs→
   (∃i a,N+i=j∧n5.lookup i=some a∧a.map (D.renC fun i=>N+i)=cs)∨(j<N∧vs.lookup j=some cs):=fun {j cs} h=>by
  rcases sA h with h|h
  ·exact .inl (nB (fun i=>N+i) (fun l:List D=>l.map (D.renC fun i=>N+i)) h)
  ·exact .inr ⟨(hR.var j cs h).1,h⟩
 have hold:∀b,b<w.heap.size→w'.heap[b]? =w.heap[b]? :=hB.block
 have mo:bO ⟨vs,lv,N⟩ g w ⟨n5.map (fun p=>(N+p.1,p.2.map (D.renC fun i=>N+i)))++vs,lv,N+n'⟩ g2 w':=by
  refine⟨hB.size,fun p hp _=>World.cell?_of_block (hold _ hp),fun p hp hf=>?_,oF _ _,fun k hk=>hμo k hk,fun id _ m e hm=>⟨m,hm,aL _,fun _=>rfl⟩,fun b hb hf=>⟨hold b hb,fun p _ hq=>.inl hq,fun k ds hk=>?_,hf.2⟩,fun b=>.same (hold b)⟩
  ·rcases hf with hf|⟨k,cs,hk,he⟩
   ·exact hf
   ·have:=(GS.var k cs hk).2.1
    omega
  ·rcases look hk with⟨i,a,rfl,h1,_⟩|⟨h1,h2⟩
   ·rw[v9]
    have:=(GS.var i a h1).2.1
    omega
   ·rw[hμo k h1];exact hf.1 k ds h2
 refine⟨v,g2,rfl,⟨fun k cs hk=>?_,fun k k' a b hk tJ he=>?_,fun id m e hi=>?_,fun id zb t t' b h1 h2 h3 h4=>hR.tinj id zb t t' b h1 h2 h3 h4,cX hR.base hB.size,fun p hf=>?_⟩,mo,MO lT hr (fun i hi=>t3 hi N) (fun i _=>v9 i),hB.mono hR.base,fun p _ hp=>.inl hp⟩
 ·rcases look hk with⟨i,a,rfl,h1,h2⟩|⟨h1,h2⟩
  ·obtain⟨b1,b2,b3,ys,ty,b4,b5,b6⟩:=GS.var i a h1
   refine⟨t3 b1 N,by rw[v9];exact cX hR.base b2,fun p hp=>.inr ⟨i,a,h1,by rw[hp,v9]⟩,ys,ty,by rw[v9];exact b4,by rw[←h2,eG];exact b5,fun j u hu=>⟨fun hj=>(b6 j u hu).1 (by rw[←h2,eG] at hj;exact hj),fun d hd=>?_⟩⟩
   rw[←h2,de] at hd
   obtain⟨d0,h4,rfl⟩:=qC.1 hd
   exact rH ((b6 j u hu).2 d0 h4) (bV.1 (hvo i a h1) d0 (cc h4)) (fun i hi=>t3 hi N) (fun i _=>v9 i)
  ·have bI:=hR.var_lt h2
   obtain⟨b1,b2,b3,ys,ty,b4,b5,b6⟩:=hR.var k cs h2
   exact⟨bW b1 (oF _ _),by rw[hμo k h1];exact b2,fun p hp=>.inl (b3 p (by rw[hp,hμo k h1])),ys,ty,by rw[hμo k h1,hold _ bI];exact b4,b5,fun j u hu=>⟨(b6 j u hu).1,fun d hd=>((b6 j u hu).2 d hd).mono mo⟩⟩
 ·rcases look hk with⟨i,x,rfl,h1,_⟩|⟨h1,h2⟩ <;> rcases look tJ with⟨i',x',rfl,s6,_⟩|⟨s6,sD⟩
  ·rw[v9,v9] at he
   rw[GS.inj i i' x x' h1 s6 he]
  ·rw[v9,hμo _ s6] at he
   have h3:=(GS.var i x h1).2.1
   have h4:=hR.var_lt sD
   omega
  ·rw[v9,hμo _ h1] at he
   have h3:=(GS.var i' x' s6).2.1
   have h4:=hR.var_lt h2
   omega
  ·rw[hμo _ h1,hμo _ s6] at he
   exact hR.inj k k' a b h2 sD he
 ·obtain⟨b1,ys,b2,b3,b4⟩:=hR.tok id m e hi
  refine⟨bW b1 (oF _ _),ys,b2,⟨b3.1,?_⟩,fun b hb=>⟨fun p hp hq=>.inl ((b4 b hb).1 p hp hq),fun k cs hk=>?_⟩⟩
  ·rcases b3.2 with h0|⟨b,cap,cur,hv,hBb,hh,r⟩
   ·exact .inl h0
   ·exact .inr ⟨b,cap,cur,hv,hBb,(hold b (gD.1 hh).1).trans hh,r⟩
  ·have hblt:b<w.heap.size:=by
    rcases b3.2 with⟨h0,_⟩|⟨b',cap,cur,hv,hBb,hh,r⟩
    ·rw[show g2.τ id=g.τ id from rfl,h0] at hb;simp[Value.ownBlock] at hb
    ·rw[show g2.τ id=g.τ id from rfl,hv] at hb
     simp[Value.ownBlock] at hb
     subst hb
     exact (gD.1 hh).1
   rcases look hk with⟨i,x,rfl,h1,_⟩|⟨h1,h2⟩
   ·rw[v9]
    have:=(GS.var i x h1).2.1
    omega
   ·rw[hμo _ h1];exact (b4 b hb).2 k cs h2
 ·rcases hf with hf|⟨k,cs,hk,he⟩
  ·exact bW (hR.fits p hf) hB.size
  ·obtain⟨_,_,_,ys,ty,b4,_⟩:=GS.var k cs hk
   rw[he];exact (gD.1 b4).1
def qK(x:Cx)(d:D)(hp:Hp)(d':D)(hp':Hp):Prop:=∀(g:Gh) (w:World) (v:Value),HR x.B hp g w→aN hp g w d v→bO x.hp0 x.g0 x.w0 hp g w→Below x.B x.w0 w→(∀p:Addr,p.block<x.B→x.F0 p→g.F p)→∃g',HR x.B hp' g' w∧aN hp' g' w d' v∧bO x.hp0 x.g0 x.w0 hp' g' w∧∀p:Addr,p.block<x.B→x.F0 p→g'.F p
theorem qK.of_wk {x:Cx}{d d':D}{hp hp':Hp}(hN:0<x.N)(hw:Wk x [(0,d)] hp [(0,d')] hp'):qK x d hp d' hp':=by
 intro g w v hr hd hM hB hF
 have hrs:RS x [(0,d)] hp {tmps:=(Array.replicate x.N undef).setIfInBounds 0 v,defers:=x.df} w:=by
  refine⟨g,hr,fun t d2 ht=>?_,by simp,rfl,hB,hF,hM⟩
  by_cases h0:t=0
  ·subst h0
   have:some d=some d2:=by rw[←ht];exact ai.symm
   injection this with this
   subst this
   have:((Array.replicate x.N undef).setIfInBounds 0 v).getD 0 undef=v:=by simp[cP,hN]
   dsimp only
   rw[this];exact hd
  ·rw[ar h0] at ht;cases ht
 obtain⟨g',h1,h2,_,_,_,h3,h4⟩:=hw _ _ hrs
 refine⟨g',h1,?_,h4,h3⟩
 have:=h2 0 d' ai
 have e:((Array.replicate x.N undef).setIfInBounds 0 v).getD 0 undef=v:=by simp[cP,hN]
 dsimp only at this
 rwa[e] at this
theorem qK.of_wk2 {x:Cx}{d d' e e':D}{hp hp':Hp}(hN:1<x.N)(hw:Wk x [(0,d),(1,e)] hp [(0,d'),(1,e')] hp'):qK x (.tu [d,e]) hp (.tu [d',e']) hp':=by
 intro g w v hr hd hM hB hF
 cases hd with
 |tu _ cs hl Fu=>
  have wd:cs.size=2:=hl
  have c0:cs[0]? =some cs[0]:=ml (by omega)
  have c1:cs[1]? =some cs[1]:=ml (by omega)
  have t0:((((Array.replicate x.N undef).setIfInBounds 0 cs[0]).setIfInBounds 1 cs[1]).getD 0 undef)=cs[0]:=by
   have:0<x.N:=by omega
   rw[cP,BH (by decide)]
   simp[this]
  have t1:((((Array.replicate x.N undef).setIfInBounds 0 cs[0]).setIfInBounds 1 cs[1]).getD 1 undef)=cs[1]:=by
   simp[cP,hN]
  have hrs:RS x [(0,d),(1,e)] hp {tmps:=((Array.replicate x.N undef).setIfInBounds 0 cs[0]).setIfInBounds 1 cs[1],defers:=x.df} w:=by
   refine⟨g,hr,fun t d2 ht=>?_,by simp,rfl,hB,hF,hM⟩
   by_cases h0:t=0
   ·subst h0
    have:some d=some d2:=by rw[←ht];exact ai.symm
    injection this with this
    subst this
    dsimp only
    rw[t0]
    exact Fu 0 d _ rfl c0
   ·rw[ar h0] at ht
    by_cases h1:t=1
    ·subst h1
     have:some e=some d2:=by rw[←ht];exact ai.symm
     injection this with this
     subst this
     dsimp only
     rw[t1]
     exact Fu 1 e _ rfl c1
    ·rw[ar h1] at ht;cases ht
  obtain⟨g',h1,h2,_,_,_,h3,h4⟩:=hw _ _ hrs
  have k0:=h2 0 d' ai
  have k1:=h2 1 e' ((ar (by decide)).trans ai)
  dsimp only at k0 k1
  rw[t0] at k0
  rw[t1] at k1
  refine⟨g',h1,.tu _ cs hl fun j dj u hj hu=>?_,h4,h3⟩
  match j,hj,hu with
  |0,hj,hu=>
   have e1:some d'=some dj:=hj
   injection e1 with e1
   rw[c0] at hu
   injection hu with hu
   rw[←e1,←hu];exact k0
  |1,hj,hu=>
   have e1:some e'=some dj:=hj
   injection e1 with e1
   rw[c1] at hu
   injection hu with hu
   rw[←e1,←hu];exact k1
  |n+2,hj,hu=>cases hj
theorem HC.ofX {P : Program} {tb : TypeId → Option TyE} (tok : TOk P tb) {f : FuncId} {fn : Func} {c : Code} {ds : List D} {hp hp' : Hp} {r : D} {rs : List ResultVar} (hf : P.funcs[f]? = some fn) (hb : fn.body = some c) (rO : (fn.name == "runtime.NumGoroutine") = false) (hN : ds.length ≤ fn.ntmps) (hrs : fn.results.toList = rs)
  (h:∀x:Cx,x.N=fn.ntmps→x.hp0=hp→AW P x c (eg 0 ds) hp fun ex tm bK=>match ex with| .normal| .ret=>∃d,v4 tb rs tm bK d∧qK x d bK r hp'|_=>False):HC P f ds hp r hp':=by
 subst hrs
 refine⟨⟨fn,hf,rO,by rw[hb];rfl⟩,fun B g w vs hr hsz uj=>?_⟩
 refine calls_of_wp hf hb ?_
 have AS:RS ⟨B,w,g.F,fn.ntmps,hp,g,[]⟩ (eg 0 ds) hp {tmps:=vs++Array.replicate (fn.ntmps - vs.size) undef,defers:=[]} w:=by
  refine⟨g,hr,fun t d ht=>?_,by simp;omega,rfl,Below.refl _ _,fun _ _ h=>h,bO.refl _ _ _⟩
  obtain⟨_,h2⟩:=nU ht
  have bI:t<ds.length:=by
   rw[BG] at h2
   rcases ck t ds.length with hh|hh
   ·exact hh
   ·rw[kw hh] at h2;cases h2
  have hv:vs[t]? =some vs[t]:=ml (by omega)
  have:=uj t d vs[t] (by simpa using h2) hv
  have he:(vs++Array.replicate (fn.ntmps - vs.size) undef).getD t undef=vs[t]:=by
   rw[cP,yC (by omega),hv];rfl
  rw[he]
  exact this
 refine wp_mono (h ⟨B,w,g.F,fn.ntmps,hp,g,[]⟩ rfl rfl _ _ AS) ?_
 rintro ex a' w' ⟨tm',bK,h1,h2⟩
 have fin:(∃d,v4 tb fn.results.toList tm' bK d∧qK ⟨B,w,g.F,fn.ntmps,hp,g,[]⟩ d bK r hp')→a'.defers=[]∧∃v,(results fn a'.tmps).run P w'=.ok v w'∧∃v' g',Ending.returned v=.returned v'∧HR B hp' g' w'∧bO hp g w hp' g' w'∧aN hp' g' w' r v'∧Below B w w'∧∀p:Addr,p.block<B→g.F p→g'.F p:=by
  rintro⟨d,Ip,hend⟩
  obtain⟨g1,po,g8,_,ry,hB,hF,hM⟩:=h1
  obtain⟨v,bP,lT⟩:=sR (x:=⟨B,w,g.F,fn.ntmps,hp,g,[]⟩) tok rfl Ip po g8
  obtain⟨g',h3,h4,h5,h6⟩:=hend g1 w' v po lT hM hB hF
  exact⟨ry,v,bP,v,g',rfl,h3,h5,h4,hB,h6⟩
 cases ex with
 |normal=>exact fin h2
 |ret=>exact fin h2
 |_=>cases h2
end
section
theorem ARs.nil {hp:Hp}:ARs hp [] []:=trivial
theorem ARs.cons {hp:Hp}{d e:D}{ds es:List D}(h:AR hp d e)(hl:ARs hp ds es):ARs hp (d::ds) (e::es):=⟨h,hl⟩
class xl {α:Type} (c:Cd α):Prop where
 h:∀x,(c.f x).all E.isLit=true
theorem xl.l {α:Type}(c:Cd α)(l:List α)[xl c]:(l.flatMap c.f).all E.isLit=true:=by
 rw[List.all_flatMap,bV]
 exact fun x _=>xl.h x
instance(k:IntKind):xl (cI k):=⟨fun _=>rfl⟩
instance:xl cS:=⟨fun _=>rfl⟩
instance:xl cB:=⟨fun _=>rfl⟩
instance {α:Type}(n:Nat)(c:Cd α)[xl c]:xl (cA n c):=⟨fun x=>xl.l c x.toList⟩
theorem MM {xs:List E}(ρ:Nat→Nat):(dC xs).map (D.renC ρ)=dC xs:=by
 unfold dC
 rw[mV]
 exact pD fun x _=>rfl
theorem MN {xs:List E}(h:xs.all E.isLit=true):(dC xs).all D.refC=true:=by
 unfold dC
 rw[BF,bV]
 intro y hy
 have:=bV.1 h y hy
 cases y with
 |lit u=>rfl
 |_=>cases this
section
variable {md:Md} {ops:Array Oper} {K:List (Nat×D)→Hp→Prop} {os:List Oper} {tm:List (Nat×D)} {hp hp':Hp} {t s:Tmp} {op:Op} {ty:TypeId} {pos:String} {af:Array Edge} {d d2:D} {j:Nat} {want c:Bool}
theorem sC0 {x:Operand}{f:FuncId}{la:List Operand}{ts:Array TypeId}{dsE:List D}{r:D}{xs:List E}{vs:List (Nat×List D)}{lv:List (Nat×Nat×Nat×TypeId)}{N q:Nat}(hc:HC prog f dsE ⟨[],[],0⟩ r ⟨[(q,dC xs)],[],q+1⟩)(ha:ARs ⟨vs,lv,N⟩ (la.map (evD tm)) dsE)(hx:xs.all E.isLit=true)(h2:bC prog tbl md ops K os ((t,d)::tm) hp')(hr:r.ref2=true:=by exact rfl)(hd:r.ren2 (fun i=>N+i)=d:=by exact rfl)(hh:(⟨(N+q,dC xs)::vs,lv,N+(q+1)⟩:Hp)=hp':=by exact rfl)(vy:evD tm x=.e (.lit (.func (.func f) #[] #[])):=by exact rfl)(hn:md.nc tbl (.call ⟨.value x,la.toArray,ts⟩)=true:=by exact rfl):
  bC prog tbl md ops K (⟨some t,.call ⟨.value x,la.toArray,ts⟩,ty,pos,af,none⟩::os) tm ⟨vs,lv,N⟩:=by
 subst hd hh
 have h:=HC.frame0R (vs:=vs) (lv:=lv) (N:=N) hc ha hr (fun k cs hk=>by
  by_cases h0:k=q
  ·subst h0
   rw[ai] at hk
   injection hk with hk
   subst hk
   exact MN hx
  ·rw[ar h0] at hk;cases hk)
 rw[cD,dT,MM] at h
 exact F3 rfl (sHC h rfl (.inr ⟨oF _ _,fun j hj=>ar (Nat.ne_of_lt (bW hj (oF _ _)))⟩) vy hn) h2
variable {x:Cx} {Q:Exit→List (Nat×D)→Hp→Prop}
end
end
instance:xl ap:=⟨fun x=>by unfold ap;simp only[sL,jZ,gj,E.isLit,xl.h,eh,Hl]⟩
instance:xl aj:=⟨fun x=>by unfold aj;simp only[sL,jZ,gj,E.isLit,xl.h,eh,Hl]⟩
theorem pG0 {α:Type}(c:Cd α)(a:α)(l:List E){z:Nat}(h:c.sz=z):((c.f a++l).drop 0).take z=c.f a:=by
 have hl:(c.f a).length=z:=(c.h a).trans h
 rw[qA,zt (by omega),jL (by omega)]
theorem pG1 {α β:Type}(c:Cd α)(a:α)(k:Cd β)(b:β){o z:Nat}(h:c.sz=o)(h2:k.sz=z):((c.f a++k.f b).drop o).take z=k.f b:=by
 have hl:(c.f a).length=o:=(c.h a).trans h
 have hk:(k.f b).length=z:=(k.h b).trans h2
 rw[←hl,rm,jL (by omega)]
def a7:Cd Nu:=⟨36,fun x=>aj.f x.1,fun x=>aj.h x.1⟩
theorem w_Mul(x y:Nu):aB prog 40 [dG a7 x,dG a7 y] (dG a7 (qM x y)):=by rw[wB];exact oS (Jw x.2 y.2)
theorem w_Sub(x y:Nu):aB prog 146 [dG a7 x,dG a7 y] (dG a7 (zJ x y)):=by rw[Gm];exact FJ (G_osub x.2 y.2)
theorem w_Div(x y:Nu):aB prog 144 [dG a7 x,dG a7 y] (dG a7 (vo x y)):=by rw[Gp];exact FK (G_odiv x.2 y.2)
theorem Mo(x:Nu):aB prog 42 [dG a7 x] (dI .i64 (eA x)):=by rw[xM];exact lS (PL x.2)
theorem w_Good(x:Nu):aB prog 41 [dG a7 x] (dB (aQ x)):=by rw[fy];exact eM (lg x.2)
def nv(x:Nu):ak:=x.1
section
theorem qn(a:Nu):(dC (a7.f a)).length=36:=by rw[gT,a7.h];rfl
section
variable {dr:Bool} {ty:TypeId} {ev:Operand→D} {hp hp':Hp} {k o:Nat} {F F2:List D} {F':List D→List D} {x y:Operand} {a b:Nu}
theorem ldN(L:Pt F o (dC (a7.f a)) F')(hv:hp.vars.lookup k=some F)(hk:k<hp.next)(hx:ev x=.pt k o:=by exact rfl):AVC prog tbl dr (.load 34 x) ty ev hp (Kq (dG a7 a) hp):=T_ldP L hv hk aD (qn a) rfl hx
theorem stN(L:Pt F o (dC (a7.f a)) F')(hv:hp.vars.lookup k=some F)(h2:F' (dC (a7.f b))=F2)(hx:ev x=.pt k o:=by exact rfl)(hy:ev y=dG a7 b:=by exact rfl)(he:hp.set k F2=hp':=by exact rfl):AVC prog tbl dr (.store 34 x y) ty ev hp (Kq .top hp'):=
 Pk (ys:=dC (a7.f b)) L hv (by rw[hy];rfl) aD (qn a) (by rw[qn,qn]) h2 hx he
theorem Pt.idN(a:Nu):Pt (dC (a7.f a)) 0 (dC (a7.f a)) id:=Pt.of [] [] rfl (by simp) (fun y=>by simp)
end
section
variable {vs tq oM:List (Nat×List D)} {lv:List (Nat×Nat×Nat×TypeId)} {N n2 k:Nat}
theorem eZ.lt(hok:eZ ⟨vs,lv,N⟩){ds:List D}(h:vs.lookup k=some ds):k<N:=(hok.var k ds h).1
theorem eZ.ne(hok:eZ ⟨vs,lv,N⟩){ds:List D}(h:vs.lookup k=some ds){m:Nat}(hm:N≤m):k≠m:=by have:=hok.lt h;omega
theorem am {j m:Nat}{b:List D}{l:List (Nat×List D)}{r:Option (List D)}(hj:j≠m)(h:l.lookup j=r):((m,b)::l).lookup j=r:=(ar hj).trans h
theorem oy(l:List E):(dC l).all (D.idsC N)=true:=Bh (fun _=>rfl) l
theorem eZ.cons {M:Nat}{ds:List D}(hok:eZ ⟨vs,lv,N⟩)(hN:N≤M)(hk:k<M)(hd:ds.all (D.idsC M)=true):eZ ⟨(k,ds)::vs,lv,M⟩:=by
 refine⟨fun j es h=>?_,fun id e h=>bW (hok.tok id e h) hN⟩
 by_cases hj:j=k
 ·subst hj
  have:some ds=some es:=by rw[←h];exact ai.symm
  injection this with this
  subst this
  exact⟨hk,hd⟩
 ·obtain⟨h1,h2⟩:=hok.var j es (by rw[←h];exact (ar hj).symm)
  exact⟨bW h1 hN,bV.2 fun d hd=>D.idsC_le hN (bV.1 h2 d hd)⟩
def oK(n:Nat)(tm tm':List (Nat×D)):Prop:=∀p∈tm',(∃d,tm.lookup p.1=some d∧(p.2=d∨p.2=d.ex))∧p.2.idsB n=true
theorem oK.nil {n:Nat}{tm:List (Nat×D)}:oK n tm []:=fun p hp=>absurd hp (yB)
theorem oK.cons {n t:Nat}{d:D}{tm tm':List (Nat×D)}(h2:oK n tm tm')(h:tm.lookup t=some d:=by exact rfl)(hi:d.idsB n=true:=by exact rfl):oK n tm ((t,d)::tm'):=fun p hp=>by
 rcases m9.1 hp with rfl|hp
 ·exact⟨⟨d,h,.inl rfl⟩,hi⟩
 ·exact h2 p hp
theorem wkS {x:Cx}{tm tm':List (Nat×D)}{n':Nat}(h0:x.hp0.next≤n')(hn:n'≤n2)(hok:eZ ⟨oM,lv,n'⟩)(hv:∀j ds,oM.lookup j=some ds→tq.lookup j=some ds)(ht:oK n' tm tm'):Wk x tm ⟨tq,lv,n2⟩ tm' ⟨oM,lv,n'⟩:=
 Wk.look h0 hn ht (fun j ds h=>⟨(hok.var j ds h).1,ds,hv j ds h,rz _,(hok.var j ds h).2⟩) fun id y h=>⟨hok.tok id y h,h⟩
theorem Gv {j:Nat}{a b:List D}{l:List (Nat×List D)}:((k,b)::(k,a)::l).lookup j=((k,b)::l).lookup j:=by
 by_cases hj:j=k
 ·subst hj;rw[ai,ai]
 ·rw[ar hj,ar hj,ar hj]
theorem dH {j a:Nat}{x ds:List D}{l:List (Nat×List D)}(h:((a,x)::l).lookup j=some ds):(j=a∧ds=x)∨(j≠a∧l.lookup j=some ds):=by
 by_cases hj:j=a
 ·subst hj
  have:some x=some ds:=by rw[←h];exact ai.symm
  injection this with this
  exact .inl ⟨rfl,this.symm⟩
 ·exact .inr ⟨hj,by rw[←h];exact (ar hj).symm⟩
theorem Pt.elN(l:List Nu)(i:Nat)(h:i<l.length):Pt (dC ((cW a7).f l)) (0+i*36) (dC (a7.f l[i]!)) (fun ys=>(dC ((cW a7).f l)).take (0+i*36)++ys++(dC ((cW a7).f l)).drop (0+i*36+36)):=by
 have L:=an.seqW a7 l i h
 have e:a7.sz=36:=rfl
 rw[e] at L
 refine⟨?_,?_,fun ys hy=>by rw[qn]⟩
 ·have:=L.le
  rw[qn,gT];exact this
 ·have:=L.g
  rw[qn]
  unfold dC
  rw[←yA,←vU]
  exact congrArg _ this
theorem Pt.elN_set(l:List Nu)(i:Nat)(h:i<l.length)(b:Nu):(dC ((cW a7).f l)).take (0+i*36)++dC (a7.f b)++(dC ((cW a7).f l)).drop (0+i*36+36)=dC ((cW a7).f (l.set i b)):=by
 have L:=an.seqW a7 l i h
 have e:a7.sz=36:=rfl
 rw[e] at L
 have:=L.p b
 rw[e] at this
 unfold dC
 rw[←vU,←yA,←nd,←nd]
 exact congrArg _ this
end
end
theorem nD {t:Nat}(h:t<9223372036854775807:=by omega):i64.wrap ((t:Int)+1)=((t+1:Nat):Int):=by
 rw[qO (by omega) (by omega)];omega
def zN:List E:=(List.replicate 2 (E.lit (.bool false))++List.replicate 16 (E.lit (.int .u32 0)))++(List.replicate 2 (E.lit (.bool false))++List.replicate 16 (E.lit (.int .u32 0)))
theorem T_alN {dr:Bool}{ty:TypeId}{ev:Operand→D}{vs:List (Nat×List D)}{lv:List (Nat×Nat×Nat×TypeId)}{N:Nat}:AVC prog tbl dr (.alloc 34) ty ev ⟨vs,lv,N⟩ (Kq (.pt N 0) ⟨(N,dC zN)::vs,lv,N+1⟩):=bo aD
theorem Pt.zN:Pt (dC zN) 0 (dC zN) id:=Pt.of [] [] rfl (by simp) (fun y=>by simp)
theorem stZ {dr:Bool}{ty:TypeId}{ev:Operand→D}{hp hp':Hp}{k:Nat}{x y:Operand}{b:Nu}(hv:hp.vars.lookup k=some (dC zN))(hx:ev x=.pt k 0:=by exact rfl)(hy:ev y=dG a7 b:=by exact rfl)(he:hp.set k (dC (a7.f b))=hp':=by exact rfl):AVC prog tbl dr (.store 34 x y) ty ev hp (Kq .top hp'):=
 Pk (ys:=dC (a7.f b)) Pt.zN hv (by rw[hy];rfl) aD rfl (by rw[qn];rfl) rfl hx he
theorem Pt.el(l:List Nu)(i:Nat)(h:i<l.length):Pt (dC ((cW a7).f l)) (i*36) (dC (a7.f l[i]!)) (fun ys=>(dC ((cW a7).f l)).take (i*36)++ys++(dC ((cW a7).f l)).drop (i*36+36)):=by
 have:=Pt.elN l i h
 rwa[bq] at this
theorem Pt.el_set(l:List Nu)(i:Nat)(h:i<l.length)(b:Nu):(dC ((cW a7).f l)).take (i*36)++dC (a7.f b)++(dC ((cW a7).f l)).drop (i*36+36)=dC ((cW a7).f (l.set i b)):=by
 have:=Pt.elN_set l i h b
 rwa[bq] at this
section
section
variable {hp:Hp}
theorem AR.list {k n:Nat}{l:List Nu}(hv:hp.vars.lookup k=some (dC ((cW a7).f l)))(hl:l.length=n):AR hp (.ow k 0 36 n) (.e (slE a7 l)):=by
 subst hl
 have hlen:((cW a7).f l).length=l.length*36:=jK a7.f a7.h l
 have:=AR.sl (off:=0) hv (n:=l.length) (z:=36) (by omega) (by omega)
 rw[qA,jL (by omega)] at this
 exact this
end
end
def pV(bj:Int)(n0:Int):Option (Int×Int):=bnd (some (u64.wrap ((GF .u64 bj (4294967295:Int))*(GF .u64 n0 (4294967295:Int))))) fun x1=>bnd (some (u64.wrap ((u64.wrap ((lE .u64 bj (32:Int))*(GF .u64 n0 (4294967295:Int))))+(lE .u64 x1 (32:Int))))) fun x3=>bnd (some (u64.wrap ((GF .u64 x3 (4294967295:Int))+(u64.wrap ((GF .u64 bj (4294967295:Int))*(lE .u64 n0 (32:Int))))))) fun x5=>bnd (some (u64.wrap ((u64.wrap ((u64.wrap ((lE .u64 bj (32:Int))*(lE .u64 n0 (32:Int))))+(lE .u64 x3 (32:Int))))+(lE .u64 x5 (32:Int))))) fun x7=>some (x7,u64.wrap (bj*n0))
theorem DU {bj:Int}{n0:Int}{r:Int×Int}(h:pV bj n0=some r):aB prog 156 [dI .u64 bj,dI .u64 n0] (.tu [dI .u64 r.1,dI .u64 r.2]):=by
 refine bL (rs:=[.tmp 4,.tmp 5]) (fun cx hx h0=>?_) func156
 unfold pV at h
 iterate 5 refine ra hx ?_
 refine rs hx fun K hK=>?_
 iterate 3 refine sa ?_
 obtain⟨x1,yb,h⟩:=ah h
 replace yb:=co yb
 refine s2 (d2:=dI .u64 x1) li (fT (congrArg (dI .u64) yb)) ?_
 refine .nil (hK _ _ (rs hx fun K hK=>?_))
 iterate 6 refine sa ?_
 obtain⟨x3,ya,h⟩:=ah h
 replace ya:=co ya
 refine s2 (d2:=dI .u64 x3) li (fT (congrArg (dI .u64) ya)) ?_
 refine .nil (hK _ _ ?_)
 iterate 2 refine ra hx ?_
 refine rs hx fun K hK=>?_
 iterate 5 refine sa ?_
 obtain⟨x5,Em,h⟩:=ah h
 replace Em:=co Em
 refine s2 (d2:=dI .u64 x5) li (fT (congrArg (dI .u64) Em)) ?_
 refine .nil (hK _ _ (rs hx fun K hK=>?_))
 iterate 8 refine sa ?_
 obtain⟨x7,xZ,h⟩:=ah h
 replace xZ:=co xZ
 refine s2 (d2:=dI .u64 x7) li (fT (congrArg (dI .u64) xZ)) ?_
 refine .nil (hK _ _ (ra hx ?_))
 refine AW.ret ?_
 cases h
 exact rv2
def sF(bj:Int)(n0:Int):Option (Int×Int):=bnd (pV bj n0) fun x1=>some (x1.1,x1.2)
theorem HP {bj:Int}{n0:Int}{r:Int×Int}(h:sF bj n0=some r):aB prog 122 [dI .u64 bj,dI .u64 n0] (.tu [dI .u64 r.1,dI .u64 r.2]):=by
 refine bL (rs:=[.tmp 4,.tmp 5]) (fun cx hx h0=>?_) func122
 unfold sF at h
 refine ra hx ?_
 refine AW.seq (AW.condF rfl rfl (AW.skip (rs hx fun K hK=>?_)))
 iterate 2 refine sa ?_
 refine scb h DU fun x1 h=>?_
 iterate 5 refine sa ?_
 refine .nil (hK _ _ (ra hx ?_))
 refine AW.ret ?_
 cases h
 exact rv2
theorem Ns {m:Nat}(h:m<4294967296):GF .u64 (m:Int) (4294967295:Int)=(m:Int):=by
 have h1:(BitVec.ofInt 64 (m:Int) &&&BitVec.ofInt 64 (4294967295:Int)).toNat=m:=by
  have a:(BitVec.ofInt 64 (m:Int)).toNat=m:=by
   rw[BitVec.ofInt_natCast,BitVec.toNat_ofNat];omega
  have b:(BitVec.ofInt 64 (4294967295:Int)).toNat=2 ^ 32 - 1:=by decide
  rw[BitVec.toNat_and,a,b,Nat.and_two_pow_sub_one_eq_mod];omega
 show u64.wrap (((BitVec.ofInt 64 (m:Int) &&&BitVec.ofInt 64 (4294967295:Int)).toNat:Nat):Int)=m
 rw[h1]
 exact gJ
theorem mul1 {n:Nat}(h:n≤1000000):sF (u64.wrap 1) (u64.wrap (n:Int))=some (0,(n:Int)):=by
 have e1:u64.wrap 1=((1:Nat):Int):=gJ (n:=1) (by omega)
 have a1:=Ns (m:=1) (by omega)
 have a2:=Ns (m:=n) (by omega)
 have s1:=uO 1
 have s2:=uO n
 have m1:(1:Nat) / 4294967296=0:=rfl
 have m2:n / 4294967296=0:=dv (by omega)
 rw[m1] at s1
 rw[m2] at s2
 have z0:u64.wrap ((0:Nat):Int)=((0:Nat):Int):=gJ (n:=0) (by omega)
 have zn:u64.wrap (n:Int)=(n:Int):=gJ
 have i0:GF .u64 ((0:Nat):Int) (4294967295:Int)=((0:Nat):Int):=Ns (m:=0) (by omega)
 have h0:lE .u64 ((0:Nat):Int) (32:Int)=((0:Nat):Int):=uO 0
 rw[e1,zn]
 unfold sF pV
 rw[a1,a2,s1,s2]
 simp only[bnd,BE]
 have p1:((1:Nat):Int)*(n:Int)=(n:Int):=by omega
 have p2:((0:Nat):Int)*(n:Int)=((0:Nat):Int):=by omega
 have p3:((1:Nat):Int)*((0:Nat):Int)=((0:Nat):Int):=by omega
 have p4:((0:Nat):Int)*((0:Nat):Int)=((0:Nat):Int):=by omega
 have p5:((0:Nat):Int)+((0:Nat):Int)=((0:Nat):Int):=by omega
 rw[p1,p2,p3,p4,zn,z0,s2,p5,z0,i0,p5,z0,h0,p5,z0,p5,z0]
 rfl
section
def vI(a:Nu)(n s:Nat):List Nu:=List.replicate s a++List.replicate (n - s) default
theorem Bi {a:Nu}{n s:Nat}(h:s≤n):(vI a n s).length=n:=by
 unfold vI;rw[eU,u6,u6];omega
theorem cont_cp {a:Nu}{n s:Nat}(h:s≤n):lCp (vI a n s) s (((((vI a n s).drop 0).take s)).take (n - s))=vI a n (s+min s (n - s)):=by
 have h1:((vI a n s).drop 0).take s=List.replicate s a:=by
  unfold vI
  rw[qA,zt (by simp),jL (by simp)]
 rw[h1,List.take_replicate]
 unfold lCp
 rw[u6]
 unfold vI
 rw[zt (by simp),jL (by simp),Pb,u6,Bt (by simp),pN,List.drop_replicate]
 rw[List.replicate_append_replicate,Nat.min_comm,show n - s - (s+min s (n - s) - s)=n - (s+min s (n - s)) by omega]
theorem wkS2 {x:Cx}{tm tm':List (Nat×D)}{tq oM:List (Nat×List D)}{lv Ca:List (Nat×Nat×Nat×TypeId)}{n' n2:Nat}(h0:x.hp0.next≤n')(hn:n'≤n2)(hok:eZ ⟨oM,lv,n'⟩)(hv:∀j ds,oM.lookup j=some ds→tq.lookup j=some ds)(hl:∀j y,lv.lookup j=some y→Ca.lookup j=some y)(ht:oK n' tm tm'):Wk x tm ⟨tq,Ca,n2⟩ tm' ⟨oM,lv,n'⟩:=
 Wk.look h0 hn ht (fun j ds h=>⟨(hok.var j ds h).1,ds,hv j ds h,rz _,(hok.var j ds h).2⟩) fun id y h=>⟨hok.tok id y h,hl id y h⟩
section
variable {md:Md} {dst:Option Tmp} {ty:TypeId} {pos:String} {af:Array Edge} {gd:Option (Nat×Bool)} {ev:Operand→D} {hp:Hp} {k s n:Nat} {x y:Operand}
theorem slT(h:s<n)(hx:ev x=.ow k 0 36 n:=by exact rfl)(hy:ev y=dI .i64 (s:Int):=by exact rfl):m3 prog tbl md ⟨dst,.slice 22 x (some y) none none,ty,pos,af,gd⟩ ev hp (.ow k (s*36) 36 (n - s)) hp:=by
 have:=slW (P:=prog) (tb:=tbl) (md:=md) (dst:=dst) (ty2:=ty) (pos:=pos) (af:=af) (gd:=gd) (ev:=ev) (hp:=hp) (x:=x) (lo:=some y) (hi:=none) (l:=(s:Int)) (h:=(n:Int)) tok ⟨by omega,by omega,by omega,by omega⟩ aP aD ⟨.i64,hy⟩ rfl rfl hx rfl
 rw[show ((n:Int) - (s:Int)).toNat=n - s by omega,bH,bq] at this
 exact this
theorem slHd(h:s≤n)(h0:0<n)(hx:ev x=.ow k 0 36 n:=by exact rfl)(hy:ev y=dI .i64 (s:Int):=by exact rfl):m3 prog tbl md ⟨dst,.slice 22 x none (some y) none,ty,pos,af,gd⟩ ev hp (.ow k (0*36) 36 s) hp:=by
 have:=slW (P:=prog) (tb:=tbl) (md:=md) (dst:=dst) (ty2:=ty) (pos:=pos) (af:=af) (gd:=gd) (ev:=ev) (hp:=hp) (x:=x) (lo:=none) (hi:=some y) (l:=(0:Int)) (h:=(s:Int)) tok ⟨by omega,by omega,by omega,by omega⟩ aP aD rfl ⟨.i64,hy⟩ rfl hx rfl
 rw[show ((s:Int) - 0).toNat=s by omega,bq] at this
 exact this
end
section
variable {vs:List (Nat×List D)} {lv:List (Nat×Nat×Nat×TypeId)} {N n:Nat} {a:Nu}
theorem Om(hn:n≤1000000):HC prog 77 [.e (slE a7 [a]),dI .i64 n] ⟨vs,lv,N⟩ (.ow (N+1) 0 36 n) ⟨(N+1,dC ((cW a7).f (List.replicate n a)))::vs,lv,N+1+1⟩:=by
 refine HC.of (rs:=[.tmp 4]) tok func77 rfl rfl (bg rfl) rfl (fun cx hx h0 hok=>?_)
 simp only[eg,Nat.reduceAdd,bq]
 refine rs hx fun K hK=>?_
 refine s1 (d:=dO N a7 ([]:List Nu)) (ep aP aD) ?_
 refine .nil (hK _ _ (AW.seq (rs hx fun K hK=>?_)))
 iterate 2 refine sa ?_
 refine .nil (hK _ _ (AW.condF rfl (def_) (AW.skip (rs hx fun K hK=>?_))))
 iterate 5 refine sa ?_
 refine cq (HP (mul1 hn)) ?_
 iterate 5 refine sa ?_
 refine .nil (hK _ _ (AW.seq (rs hx fun K hK=>?_)))
 iterate 3 refine sa ?_
 iterate 2 refine ga (show decide ((0:Int)<0)=false by decide) ?_
 refine s1 (au (show decide ((0:Int)<0)=false by decide)) ?_
 refine .nil (hK _ _ (AW.condF rfl (def_) (AW.skip (rs hx fun K hK=>?_))))
 iterate 2 refine sa ?_
 rw[qO (show -9223372036854775808≤(n:Int) by omega) (by omega)]
 refine q1 (sMk (c:=a7) (z0:=default) (v:=(n:Int)) tok ⟨by omega,by omega⟩ aP aD rfl) ?_
 rw[bH]
 refine sa ?_
 refine .nil (hK _ _ ?_)
 have NB:t8 ⟨(N+1,dC ((cW a7).f (List.replicate n default)))::vs,(N,0,36,34)::lv,N+1+1⟩ (.e (slE a7 [a])) 36 1 ([a].flatMap a7.f):=t8.dat rfl (by simp[a7.h];rfl)
 refine rs hx fun K hK=>?_
 iterate 2 refine sa ?_
 refine q1 (sCpW (c:=a7) (l:=List.replicate n default) (s:=[a]) (m:=1) (n:=n) tok aP aD NB rfl ai 0 (by simp) rfl) ?_
 refine sa ?_
 refine .nil (hK _ _ ?_)
 have hc0:lCp (List.replicate n (default:Nu)) 0 ([a].take n)=vI a n (min 1 n):=by
  cases n with
  |zero=>rfl
  |succ n=>
   unfold lCp vI
   rw[show min 1 (n+1)=1 by omega]
   simp[List.replicate_succ]
 rw[hc0]
 have hokA:∀l:List Nu,eZ ⟨(N+1,dC ((cW a7).f l))::vs,lv,N+1+1⟩:=fun l=>hok.cons (by omega) (cr _) (oy _)
 have hNlv:∀j y,lv.lookup j=some y→((N,0,36,34)::lv).lookup j=some y:=fun j y h=>(ar (by have:=hok.tok j y h;have h2:j<N:=this;omega)).trans h
 refine AW.seq (AW.block (AW.loopW (fun s:Nat=>[(7,.ow (N+1) 0 36 n),(8,dI .i64 s)]) (fun s=>⟨(N+1,dC ((cW a7).f (vI a n s)))::vs,lv,N+1+1⟩) (fun s=>s≤n∧(0<n→0<s)) (fun s=>n - s) (min 1 n) ?_ ⟨by omega,by omega⟩ ?_))
 ·exact wkS2 (by rw[h0];show N≤N+1+1;omega) (aL _) (hokA _) (fun j ds h=>by rw[Gv];exact h) hNlv (oK.cons (t:=7) (d:=.ow (N+1) 0 36 n) (oK.cons (t:=8) (d:=dI .i64 (min 1 n:Nat)) oK.nil rfl rfl) rfl (cV (cr _)))
 ·rintro s ⟨hsn,hs0⟩
  refine AW.seq (rs hx fun K hK=>?_)
  iterate 4 refine sa ?_
  refine .nil (hK _ _ (AW.condS rfl (fun hb=>?_) (fun hb=>?_)))
  ·have bI:s<n:=by have:=pO hb;omega
   have hs1:0<s:=hs0 (by omega)
   refine AW.skip (AW.block (rqd [] hx fun K hK=>?_))
   iterate 3 refine sa ?_
   refine q1 (slT bI) ?_
   iterate 2 refine sa ?_
   refine q1 (slHd (by omega) (by omega)) ?_
   refine q1 (sCpW (c:=a7) (l:=vI a n s) (s:=((vI a n s).drop 0).take s) (m:=s) (n:=n - s) tok aP aD (t8.lst ai 0 (by rw[Bi hsn];omega)) (by rw[eL,qA,Bi hsn];omega) ai s (by rw[Bi hsn];omega) rfl) ?_
   rw[cont_cp hsn]
   iterate 2 refine sa ?_
   refine .nil (hK _ _ ?_)
   rw[show i64.wrap ((s:Int)+(min s (n - s):Nat))=((s+min s (n - s):Nat):Int) by rw[qO (by omega) (by omega)];omega]
   exact⟨s+min s (n - s),wkS (by rw[h0];show N≤N+1+1;omega) (aL _) (hokA _) (fun j ds h=>by rw[Gv];exact h) (oK.cons (t:=7) (d:=.ow (N+1) 0 36 n) (oK.cons (t:=8) (d:=dI .i64 (s+min s (n - s):Nat)) oK.nil rfl rfl) rfl (cV (cr _))),⟨by omega,by omega⟩,by omega⟩
  ·refine AW.exit ?_
   have hsn2:s=n:=by have:=pC hb;omega
   subst hsn2
   have Fx:vI a s s=List.replicate s a:=by unfold vI;simp
   rw[Fx]
   refine rs hx fun K hK=>?_
   iterate 2 refine sa ?_
   exact .nil (hK _ _ (AW.ret (⟨[(4,.ow (N+1) 0 36 s)],wkS (by rw[h0];show N≤N+1+1;omega) (aL _) (hokA _) (fun j ds h=>h) (oK.cons (t:=4) (d:=.ow (N+1) 0 36 s) oK.nil rfl (cV (cr _))),⟨_,ai,rfl⟩⟩)))
end
end
theorem OW(l:List Nu):(cW a7).f l=(cW aj).f (l.map nv):=by
 show l.flatMap a7.f=(l.map nv).flatMap aj.f
 rw[Jf]
 rfl
theorem HY(l:List Nu):slE a7 l=slE aj (l.map nv):=by
 unfold slE
 have:=OW l
 rw[eG]
 show E.sl 36 l.length ((cW a7).f l)=E.sl 36 l.length ((cW aj).f (l.map nv))
 rw[this]
structure av where
 vR:Int
 vC:Int
 vV:List ak
 deriving Inhabited,DecidableEq
def aR:Cd av:=⟨3,fun x=>[.lit (.int .i64 x.vR),.lit (.int .i64 x.vC),slE aj x.vV],fun _=>rfl⟩
def ke(eJ:List ak):Int→Option (Int⊕(Bool⊕Unit)):=fun aS=>cnd (decide (aS<((eJ).length:Int))) (gd (0≤aS∧aS<((eJ).length:Int)) (bnd (lU ((eJ)[(aS).toNat]!)) fun x4=>cnd (!x4) (some (.inr (.inl false))) (some (.inl (i64.wrap (aS+(1:Int))))))) (some (.inr (.inr ())))
def nJ(eJ:List ak):Option Bool:=bnd (a5 (ke eJ) (0:Int)) fun y7=>match y7 with| .inl r=>some r| .inr ()=>some true
theorem DN {eJ:List ak}{r:Bool}(h:nJ eJ=some r):aB prog 69 [dL aj eJ] (dB r):=by
 refine bL (rs:=[.tmp 2]) (fun cx hx h0=>?_) func69
 unfold nJ at h
 refine ra hx ?_
 refine AW.seq (ra hx ?_)
 refine AW.block ?_
 obtain⟨y,hy,h⟩:=ah h
 refine lp (S:=Int) (X:=Bool⊕Unit) (fun aS=>[(0,dL aj eJ),(3,dI .i64 aS)]) (fun aS=>⟨[],[],0⟩) (PS (PR [.tmp 2] fun r=>dB r) (PE cx (.exit 0) (fun ()=>[]) fun ()=>⟨[],[],0⟩)) hy ?_ ?_ ?_
 exact wk h0 [] (wR rfl (wR rfl wTn)) wVn wLn
 clear hy h
 rintro aS y h
 dsimp only[ke] at h
 refine AW.seq (ra hx ?_)
 refine cdh h rfl (fun cE h=>?_) (fun cE h=>?_)
 refine AW.skip (AW.seq (AW.block (rs hx fun K hK=>?_)))
 iterate 2 refine sa ?_
 obtain⟨ni,h⟩:=aC h
 have pU:(aS).toNat<(eJ).length:=by omega
 refine s1 (fZ ni aP aD) ?_
 refine s1 (d:=dG aj ((eJ)[(aS).toNat]!)) (pl (c:=aj) (l:=eJ) (n:=(aS).toNat) (o:=0) aD pU (jM _ _ rfl)) ?_
 refine scb h DO fun x4 h=>?_
 refine sa ?_
 refine .nil (hK _ _ (ra hx ?_))
 refine cdh h rfl (fun dy h=>?_) (fun dy h=>?_)
 refine ra hx ?_
 refine AW.ret ?_
 cases h
 refine PS.r ⟨by nofun,PS.l (PR.i ?_)⟩
 exact rv1
 refine AW.skip (rb hx ?_)
 cases h
 exact PS.l (pe0 h0 [])
 refine AW.exit ?_
 try dsimp only
 try simp only[aM,reduceIte,Nat.reduceEqDiff,reduceCtorEq]
 cases h
 exact PS.r ⟨by nofun,PS.r (PE.i (wk h0 [] wTn wVn wLn))⟩
 rcases y with r|⟨⟩
 rintro ex tm' hp' ⟨rfl,hw⟩
 cases h
 exact hw
 rintro ex tm' hp' ⟨rfl,hw⟩
 try dsimp only
 try simp only[aM,reduceIte,Nat.reduceEqDiff,reduceCtorEq]
 refine AW.weak hw (ra hx ?_)
 refine AW.ret ?_
 cases h
 exact rv1
def mw(fR:av):Option Int:=bnd (S:=Bool) (cnd (decide (fR.vR<(0:Int))) (some (true)) (cnd (decide ((200:Int)<fR.vR)) (some (true)) (cnd (decide (fR.vC<(0:Int))) (some (true)) (some (decide ((200:Int)<fR.vC)))))) fun bB=>cnd bB (some (2:Int)) (bnd (S:=Bool) (cnd (decide (((fR.vV).length:Int)≠(i64.wrap (fR.vR*fR.vC)))) (some (true)) (bnd (nJ fR.vV) fun x7=>some (!x7))) fun ng=>cnd ng (some (1:Int)) (some (0:Int)))
theorem Cj {fR:av}{r:Int}(h:mw fR=some r):aB prog 46 [dG aR fR] (dI .i64 r):=by
 refine bL (rs:=[.tmp 2]) (fun cx hx h0=>?_) func46
 unfold mw at h
 refine rs hx fun K hK=>?_
 refine s1 (d:=.pt 0 0) iN ?_
 refine sa ?_
 refine .nil (hK _ _ ?_)
 iterate 2 refine AW.seq ?_
 obtain⟨bB,hy,h⟩:=ah h
 refine jn ((PE cx .normal (fun bB=>[(1,.pt 0 0),(20,dB bB)]) fun bB=>⟨[(0,[dI .i64 fR.vR,dI .i64 fR.vC,dL aj fR.vV])],[],1⟩) bB) ?_ ?_
 replace h:=hy
 refine rq hx fun K hK=>?_
 refine sa ?_
 refine s1 (bc a6) ?_
 iterate 2 refine sa ?_
 rcases aZ (decide (fR.vR<(0:Int))) with cE|cE
 replace h:=a3 cE h
 iterate 3 refine aI rfl rfl cE ?_
 refine s1 (al cE) ?_
 refine sa ?_
 iterate 3 refine aI rfl rfl rfl ?_
 refine s1 (al rfl) ?_
 refine sa ?_
 iterate 3 refine aI rfl rfl rfl ?_
 refine s1 (al rfl) ?_
 refine .nil (hK _ _ ?_)
 cases h
 exact pe0 h0 [0]
 replace h:=a4 cE h
 refine ga cE ?_
 refine g1 cE (bc a6) ?_
 refine ga cE ?_
 refine s1 (au cE) ?_
 refine sa ?_
 rcases aZ (decide ((200:Int)<fR.vR)) with lR|lR
 replace h:=a3 lR h
 iterate 3 refine aI rfl rfl lR ?_
 refine s1 (al lR) ?_
 refine sa ?_
 iterate 3 refine aI rfl rfl rfl ?_
 refine s1 (al rfl) ?_
 refine .nil (hK _ _ ?_)
 cases h
 exact pe0 h0 [0]
 replace h:=a4 lR h
 refine ga lR ?_
 refine g1 lR (bc a6) ?_
 refine ga lR ?_
 refine s1 (au lR) ?_
 refine sa ?_
 rcases aZ (decide (fR.vC<(0:Int))) with bm|bm
 replace h:=a3 bm h
 iterate 3 refine aI rfl rfl bm ?_
 refine s1 (al bm) ?_
 refine .nil (hK _ _ ?_)
 cases h
 exact pe0 h0 [0]
 replace h:=a4 bm h
 refine ga bm ?_
 refine g1 bm (bc a6) ?_
 refine ga bm ?_
 refine s1 (au bm) ?_
 refine .nil (hK _ _ ?_)
 cases h
 exact pe0 h0 [0]
 rintro ex tm' hp' ⟨rfl,hw⟩
 refine AW.weak hw (cdh h rfl (fun nE h=>?_) (fun nE h=>?_))
 refine ra hx ?_
 refine AW.ret ?_
 cases h
 exact rv1
 refine AW.skip ?_
 iterate 2 refine AW.seq ?_
 obtain⟨ng,hy,h⟩:=ah h
 refine jn ((PE cx .normal (fun ng=>[(35,dB ng)]) fun ng=>⟨[],[],0⟩) ng) ?_ ?_
 replace h:=hy
 refine rq hx fun K hK=>?_
 refine sa ?_
 refine s1 (bc aP) ?_
 iterate 2 refine sa ?_
 refine s1 (bc a6) ?_
 refine sa ?_
 refine s1 (bc a6) ?_
 iterate 3 refine sa ?_
 rcases aZ (decide (((fR.vV).length:Int)≠(i64.wrap (fR.vR*fR.vC)))) with dy|dy
 replace h:=a3 dy h
 iterate 4 refine aI rfl rfl dy ?_
 refine s1 (al dy) ?_
 refine .nil (hK _ _ ?_)
 cases h
 exact pe0 h0 []
 replace h:=a4 dy h
 refine ga dy ?_
 refine g1 dy (bc aP) ?_
 obtain⟨x7,xZ,h⟩:=ah h
 refine g1 dy (dP rfl (DN xZ) rfl (lA (ao _) lAn) (.inl rfl)) ?_
 refine ga dy ?_
 refine s1 (au dy) ?_
 refine .nil (hK _ _ ?_)
 cases h
 exact pe0 h0 []
 rintro ex tm' hp' ⟨rfl,hw⟩
 refine AW.weak hw (cdh h rfl (fun fh h=>?_) (fun fh h=>?_))
 refine ra hx ?_
 refine AW.ret ?_
 cases h
 exact rv1
 refine AW.skip (ra hx ?_)
 refine AW.ret ?_
 cases h
 exact rv1
def mu(fR:av):Option Bool:=bnd (mw fR) fun x1=>some (decide (x1=(0:Int)))
theorem Ch {fR:av}{r:Bool}(h:mu fR=some r):aB prog 57 [dG aR fR] (dB r):=by
 refine bL (rs:=[.tmp 2]) (fun cx hx h0=>?_) func57
 unfold mu at h
 refine rs hx fun K hK=>?_
 refine s1 (d:=.pt 0 0) iN ?_
 refine sa ?_
 refine .nil (hK _ _ (rs hx fun K hK=>?_))
 refine s1 (d:=dG aR fR) (bS ax) ?_
 refine scb h Cj fun x1 h=>?_
 iterate 2 refine sa ?_
 refine .nil (hK _ _ (AW.ret ?_))
 cases h
 exact rv1
def gu(aY:av)(a9:av):Option Bool:=bnd (S:=Bool) (cnd (decide (aY.vR=a9.vR)) (cnd (decide (aY.vC=a9.vC)) (bnd (c6 aY.vV a9.vV) fun x3=>some (x3)) (some (false))) (some (false))) fun j4=>some j4
theorem wi {aY:av}{a9:av}{r:Bool}(h:gu aY a9=some r):aB prog 14 [dG aR aY,dG aR a9] (dB r):=by
 refine bL (rs:=[.tmp 4]) (fun cx hx h0=>?_) func14
 unfold gu at h
 refine rs hx fun K hK=>?_
 refine s1 (d:=.pt 0 0) iN ?_
 refine s1 (d:=.pt 1 0) iN ?_
 refine sa ?_
 refine .nil (hK _ _ (AW.seq ?_))
 obtain⟨j4,hy,h⟩:=ah h
 refine jn ((PE cx .normal (fun j4=>[(4,dB j4)]) fun j4=>⟨[],[],0⟩) j4) ?_ ?_
 replace h:=hy
 refine rq hx fun K hK=>?_
 refine sa ?_
 refine s1 (bc a6) ?_
 refine sa ?_
 refine s1 (bc a6) ?_
 iterate 2 refine sa ?_
 rcases aZ (decide (aY.vR=a9.vR)) with cE|cE
 replace h:=a3 cE h
 refine ga cE ?_
 refine g1 cE (bc a6) ?_
 refine ga cE ?_
 refine g1 cE (bc a6) ?_
 refine ga cE ?_
 refine s1 (al cE) ?_
 refine sa ?_
 rcases aZ (decide (aY.vC=a9.vC)) with lR|lR
 replace h:=a3 lR h
 refine ga lR ?_
 refine g1 lR (bc aP) ?_
 refine ga lR ?_
 refine g1 lR (bc aP) ?_
 obtain⟨x3,ya,h⟩:=ah h
 refine g1 lR (dP rfl (om ya) rfl (lA (ao _) (lA (ao _) lAn)) (.inl rfl)) ?_
 refine s1 (al lR) ?_
 refine sa ?_
 refine .nil (hK _ _ ?_)
 cases h
 exact pe0 h0 []
 replace h:=a4 lR h
 iterate 5 refine aI rfl rfl lR ?_
 refine s1 (au lR) ?_
 refine sa ?_
 refine .nil (hK _ _ ?_)
 cases h
 exact pe0 h0 []
 replace h:=a4 cE h
 iterate 5 refine aI rfl rfl cE ?_
 refine s1 (au cE) ?_
 refine sa ?_
 iterate 5 refine aI rfl rfl rfl ?_
 refine s1 (au rfl) ?_
 refine sa ?_
 refine .nil (hK _ _ ?_)
 cases h
 exact pe0 h0 []
 rintro ex tm' hp' ⟨rfl,hw⟩
 refine AW.weak hw (AW.ret ?_)
 cases h
 exact rv1
def jo(eJ:List ak):Int→Option (Int⊕(Bool⊕Unit)):=fun aS=>cnd (decide (aS<((eJ).length:Int))) (bnd (S:=Bool) (gd (0≤aS∧aS<((eJ).length:Int)) (bnd (ew ((eJ)[(aS).toNat]!.vN)) fun x4=>cnd (decide ((60:Int)<x4)) (some (true)) (gd (0≤aS∧aS<((eJ).length:Int)) (bnd (ew ((eJ)[(aS).toNat]!.vD)) fun x9=>some (decide ((60:Int)<x9)))))) fun cQ=>cnd cQ (some (.inr (.inl false))) (some (.inl (i64.wrap (aS+(1:Int)))))) (some (.inr (.inr ())))
def kG(eJ:List ak):Option Bool:=bnd (a5 (jo eJ) (0:Int)) fun y13=>match y13 with| .inl r=>some r| .inr ()=>some true
theorem uM {eJ:List ak}{r:Bool}(h:kG eJ=some r):aB prog 28 [dL aj eJ] (dB r):=by
 refine bL (rs:=[.tmp 2]) (fun cx hx h0=>?_) func28
 unfold kG at h
 refine ra hx ?_
 refine AW.seq (ra hx ?_)
 refine AW.block ?_
 obtain⟨y,hy,h⟩:=ah h
 refine lp (S:=Int) (X:=Bool⊕Unit) (fun aS=>[(0,dL aj eJ),(3,dI .i64 aS)]) (fun aS=>⟨[],[],0⟩) (PS (PR [.tmp 2] fun r=>dB r) (PE cx (.exit 0) (fun ()=>[]) fun ()=>⟨[],[],0⟩)) hy ?_ ?_ ?_
 exact wk h0 [] (wR rfl (wR rfl wTn)) wVn wLn
 clear hy h
 rintro aS y h
 dsimp only[jo] at h
 refine AW.seq (ra hx ?_)
 refine cdh h rfl (fun cE h=>?_) (fun cE h=>?_)
 refine AW.skip (AW.seq (AW.block (AW.seq ?_)))
 obtain⟨cQ,hy,h⟩:=ah h
 refine jn ((PE cx .normal (fun cQ=>[(0,dL aj eJ),(3,dI .i64 aS),(25,dB cQ)]) fun cQ=>⟨[],[],0⟩) cQ) ?_ ?_
 replace h:=hy
 refine rq hx fun K hK=>?_
 iterate 2 refine sa ?_
 obtain⟨ni,h⟩:=aC h
 have pU:(aS).toNat<(eJ).length:=by omega
 refine s1 (fZ ni aP aD) ?_
 refine sa ?_
 refine s1 (d:=dG ap ((eJ)[(aS).toNat]!.vN)) (pl (c:=aj) (l:=eJ) (n:=(aS).toNat) (o:=0) az pU (by first|exact rfl|exact pG0 _ _ _ rfl|exact pG1 _ _ _ _ rfl rfl)) ?_
 refine scb h wl fun x4 h=>?_
 iterate 2 refine sa ?_
 rcases aZ (decide ((60:Int)<x4)) with dy|dy
 replace h:=a3 dy h
 iterate 7 refine aI rfl rfl dy ?_
 refine s1 (al dy) ?_
 refine .nil (hK _ _ ?_)
 cases h
 exact pe0 h0 []
 replace h:=a4 dy h
 iterate 2 refine ga dy ?_
 obtain⟨Oe,h⟩:=aC h
 have NQ:(aS).toNat<(eJ).length:=by omega
 refine g1 dy (fZ Oe aP aD) ?_
 refine ga dy ?_
 refine g1 (d:=dG ap ((eJ)[(aS).toNat]!.vD)) dy (pl (c:=aj) (l:=eJ) (n:=(aS).toNat) (o:=18) az NQ (by first|exact rfl|exact pG0 _ _ _ rfl|exact pG1 _ _ _ _ rfl rfl)) ?_
 obtain⟨x9,ye,h⟩:=ah h
 refine g1 dy (dP rfl (wl ye) (by simp only[cD,dT,jZ,gj,eh,eC];exact bn _ _) (lA (eK _ _) lAn) (.inl rfl)) ?_
 refine ga dy ?_
 refine s1 (au dy) ?_
 refine .nil (hK _ _ ?_)
 cases h
 exact pe0 h0 []
 rintro ex tm' hp' ⟨rfl,hw⟩
 refine AW.weak hw (cdh h rfl (fun tL h=>?_) (fun tL h=>?_))
 refine ra hx ?_
 refine AW.ret ?_
 cases h
 refine PS.r ⟨by nofun,PS.l (PR.i ?_)⟩
 exact rv1
 refine AW.skip (rb hx ?_)
 cases h
 exact PS.l (pe0 h0 [])
 refine AW.exit ?_
 try dsimp only
 try simp only[aM,reduceIte,Nat.reduceEqDiff,reduceCtorEq]
 cases h
 exact PS.r ⟨by nofun,PS.r (PE.i (wk h0 [] wTn wVn wLn))⟩
 rcases y with r|⟨⟩
 rintro ex tm' hp' ⟨rfl,hw⟩
 cases h
 exact hw
 rintro ex tm' hp' ⟨rfl,hw⟩
 try dsimp only
 try simp only[aM,reduceIte,Nat.reduceEqDiff,reduceCtorEq]
 refine AW.weak hw (ra hx ?_)
 refine AW.ret ?_
 cases h
 exact rv1
def mv(fR:av):Option Bool:=cnd (decide ((60:Int)<((fR.vV).length:Int))) (some false) (bnd (mu fR) fun x2=>cnd (!x2) (some true) (bnd (S:=Bool) (cnd (decide (fR.vR≤(6:Int))) (cnd (decide (fR.vC≤(7:Int))) (bnd (kG fR.vV) fun x7=>some (x7)) (some (false))) (some (false))) fun nf=>some nf))
theorem Ci {fR:av}{r:Bool}(h:mv fR=some r):aB prog 10 [dG aR fR] (dB r):=by
 refine bL (rs:=[.tmp 2]) (fun cx hx h0=>?_) func10
 unfold mv at h
 refine rs hx fun K hK=>?_
 refine s1 (d:=.pt 0 0) iN ?_
 refine sa ?_
 refine .nil (hK _ _ (AW.seq (rs hx fun K hK=>?_)))
 refine sa ?_
 refine s1 (bc aP) ?_
 iterate 2 refine sa ?_
 refine .nil (hK _ _ (cdh h rfl (fun cE h=>?_) (fun cE h=>?_)))
 refine ra hx ?_
 refine AW.ret ?_
 cases h
 exact rv1
 refine AW.skip (AW.seq (rs hx fun K hK=>?_))
 refine s1 (d:=dG aR fR) (bS ax) ?_
 refine scb h Ch fun x2 h=>?_
 refine sa ?_
 refine .nil (hK _ _ (cdh h rfl (fun mr h=>?_) (fun mr h=>?_)))
 refine ra hx ?_
 refine AW.ret ?_
 cases h
 exact rv1
 refine AW.skip (AW.seq ?_)
 obtain⟨nf,hy,h⟩:=ah h
 refine jn ((PE cx .normal (fun nf=>[(2,dB nf)]) fun nf=>⟨[],[],0⟩) nf) ?_ ?_
 replace h:=hy
 refine rq hx fun K hK=>?_
 refine sa ?_
 refine s1 (bc a6) ?_
 iterate 2 refine sa ?_
 rcases aZ (decide (fR.vR≤(6:Int))) with nE|nE
 replace h:=a3 nE h
 refine ga nE ?_
 refine g1 nE (bc a6) ?_
 refine ga nE ?_
 refine s1 (al nE) ?_
 refine sa ?_
 rcases aZ (decide (fR.vC≤(7:Int))) with dy|dy
 replace h:=a3 dy h
 refine ga dy ?_
 refine g1 dy (bc aP) ?_
 obtain⟨x7,xZ,h⟩:=ah h
 refine g1 dy (dP rfl (uM xZ) rfl (lA (ao _) lAn) (.inl rfl)) ?_
 refine s1 (al dy) ?_
 refine sa ?_
 refine .nil (hK _ _ ?_)
 cases h
 exact pe0 h0 []
 replace h:=a4 dy h
 iterate 3 refine aI rfl rfl dy ?_
 refine s1 (au dy) ?_
 refine sa ?_
 refine .nil (hK _ _ ?_)
 cases h
 exact pe0 h0 []
 replace h:=a4 nE h
 iterate 3 refine aI rfl rfl nE ?_
 refine s1 (au nE) ?_
 refine sa ?_
 iterate 3 refine aI rfl rfl rfl ?_
 refine s1 (au rfl) ?_
 refine sa ?_
 refine .nil (hK _ _ ?_)
 cases h
 exact pe0 h0 []
 rintro ex tm' hp' ⟨rfl,hw⟩
 refine AW.weak hw (AW.ret ?_)
 cases h
 exact rv1
structure mK where
 vcol:Int
 vby:ak
 vmoved:Bool
 deriving Inhabited,DecidableEq
def bT:Cd mK:=⟨38,fun x=>[.lit (.int .i64 x.vcol)]++aj.f x.vby++[.lit (.bool x.vmoved)],fun x=>by simp[aj.h,show aj.sz=36 from rfl]⟩
theorem Cv(x:mK):an (bT.f x) (cI .i64) 0 x.vcol (fun y=>bT.f (⟨y,x.vby,x.vmoved⟩:mK)):=
 an.of ([]) ((aj).f x.vby++(cB).f x.vmoved) (by first|rfl|(simp[(cI .i64).h,cB.h,aj.h];first|rfl|done)) (by first|rfl|simp[bT,cI,cB,cS,cL,dW]) (fun y=>by first|rfl|simp[bT,cI,cB,cS,cL,dW])
theorem Eh(x:mK):an (bT.f x) aj 1 x.vby (fun y=>bT.f (⟨x.vcol,y,x.vmoved⟩:mK)):=
 an.of (((cI .i64)).f x.vcol) ((cB).f x.vmoved) (by first|rfl|(simp[(cI .i64).h,cB.h,aj.h];first|rfl|done)) (by first|rfl|simp[bT,cI,cB,cS,cL,dW]) (fun y=>by first|rfl|simp[bT,cI,cB,cS,cL,dW])
theorem zK(x:mK):an (bT.f x) cB 37 x.vmoved (fun y=>bT.f (⟨x.vcol,x.vby,y⟩:mK)):=
 an.of (((cI .i64)).f x.vcol++(aj).f x.vby) ([]) (by first|rfl|(simp[(cI .i64).h,cB.h,aj.h];first|rfl|done)) (by first|rfl|simp[bT,cI,cB,cS,cL,dW]) (fun y=>by first|rfl|simp[bT,cI,cB,cS,cL,dW])
structure c8 where
 vm:av
 vl:List mK
 deriving Inhabited,DecidableEq
def qb:Cd c8:=⟨4,fun x=>aR.f x.vm++[slE bT x.vl],fun x=>by simp[aR.h,show aR.sz=3 from rfl]⟩
section
section
variable {vs tq oM:List (Nat×List D)} {lv Ca:List (Nat×Nat×Nat×TypeId)} {N M n2 k:Nat}
theorem eZ.up(hok:eZ ⟨vs,lv,N⟩)(h:N≤M):eZ ⟨vs,lv,M⟩:=
 ⟨fun j es hj=>by obtain⟨h1,h2⟩:=hok.var j es hj;exact⟨bW h1 h,bV.2 fun d hd=>D.idsC_le h (bV.1 h2 d hd)⟩,fun id e hi=>bW (hok.tok id e hi) h⟩
theorem eZ.consM {ds:List D}(hok:eZ ⟨vs,lv,M⟩)(hk:k<M)(hd:ds.all (D.idsC M)=true):eZ ⟨(k,ds)::vs,lv,M⟩:=hok.cons (aL M) hk hd
theorem wk1 {x:Cx}{tm tm':List (Nat×D)}{vs0:List (Nat×List D)}{lv0:List (Nat×Nat×Nat×TypeId)}{N0 n':Nat}(h0:x.hp0=⟨vs0,lv0,N0⟩)(hN:N0≤n':=by omega)(hn:n'≤n2:=by omega)(hok:eZ ⟨oM,lv,n'⟩:=by (repeat (first|assumption|refine eZ.consM ?_ (by omega) (by (first|exact oy _|exact lineD_ids (by omega)|exact dicC_ids (by omega) (by omega)|assumption|exact rfl|(simp only[jZ,gj,eh];exact det_)))|exact eZ.up (by assumption) (by omega))))
  (hv:∀j ds,oM.lookup j=some ds→tq.lookup j=some ds:=by (intro j ds h;(repeat (rcases dH h with⟨rfl,rfl⟩|⟨hj,h⟩;·(repeat (first|exact ai|assumption|refine am (by first|assumption|exact mb (by assumption)|omega) ?_))));have hjN:=eZ.lt (by assumption) h;(repeat (first|exact ai|assumption|refine am (by first|assumption|exact mb (by assumption)|omega) ?_)))) (ht:oK n' tm tm':=by (repeat (first|exact oK.nil|refine oK.cons ?_ (by exact rfl) (by (first|exact rfl|assumption|exact det_|exact bV.2 (fun k hk=>cV (by simp only[m9,yB,or_false] at hk;omega))))))):Wk x tm ⟨tq,lv,n2⟩ tm' ⟨oM,lv,n'⟩:=wkS (by rw[h0];exact hN) hn hok hv ht
theorem rt1 {x:Cx}{tm:List (Nat×D)}{q:Nat}{d:D}(h0:x.hp0=⟨vs,lv,N⟩)(hok:eZ ⟨oM,lv,N⟩:=by (repeat (first|assumption|refine eZ.consM ?_ (by omega) (by (first|exact oy _|exact lineD_ids (by omega)|exact dicC_ids (by omega) (by omega)|assumption|exact rfl|(simp only[jZ,gj,eh];exact det_)))|exact eZ.up (by assumption) (by omega))))(hN:N≤n2:=by omega)(hv:∀j ds,oM.lookup j=some ds→tq.lookup j=some ds:=by (intro j ds h;(repeat (rcases dH h with⟨rfl,rfl⟩|⟨hj,h⟩;·(repeat (first|exact ai|assumption|refine am (by first|assumption|exact mb (by assumption)|omega) ?_))));have hjN:=eZ.lt (by assumption) h;(repeat (first|exact ai|assumption|refine am (by first|assumption|exact mb (by assumption)|omega) ?_))))(hq:tm.lookup q=some d:=by exact rfl)(hd:d.idsB N=true:=by (first|exact rfl|assumption|exact det_|exact bV.2 (fun k hk=>cV (by simp only[m9,yB,or_false] at hk;omega)))):
  ∃tm',Wk x tm ⟨tq,lv,n2⟩ tm' ⟨oM,lv,N⟩∧v4 tbl [.tmp q] tm' ⟨oM,lv,N⟩ d:=
 ⟨[(q,d)],wkS (by rw[h0];exact aL N) hN hok hv (oK.nil.cons hq hd),⟨d,ai,rfl⟩⟩
end
section
variable {md:Md} {ops:Array Oper} {K:List (Nat×D)→Hp→Prop} {os:List Oper} {tm:List (Nat×D)} {hp hp':Hp} {t s:Tmp} {op:Op} {ty:TypeId} {pos:String} {af:Array Edge} {d:D} {j k o n i:Nat} {want c:Bool} {F F2:List D} {F':List D→List D} {a b:Nu} {x y:Operand}
theorem gn(hw:c= !want)(h2:bC prog tbl md ops K os ((t,.tu [])::tm) hp)(hj:(ops[j]?).bind (·.dst)=some s:=by exact rfl)(hc:tm.lookup s=some (.e (.lit (.bool c))):=by exact rfl):bC prog tbl md ops K (⟨some t,op,ty,pos,af,some (j,want)⟩::os) tm hp:=aI hj hc hw h2
theorem l1(L:Pt F o (dC (a7.f a)) F')(h2:bC prog tbl md ops K os ((t,dG a7 a)::tm) hp)(hx:evD tm x=.pt k o:=by exact rfl)(hv:hp.vars.lookup k=some F:=by (repeat (first|exact ai|assumption|refine am (by first|assumption|exact mb (by assumption)|omega) ?_)))(hk:k<hp.next:=by (first|omega|(dsimp only;omega)))(hn:md.nc tbl (.load 34 x)=true:=by exact rfl):bC prog tbl md ops K (⟨some t,.load 34 x,ty,pos,af,none⟩::os) tm hp:=s1 (ldN L hv hk hx) h2 hn
theorem t1 {vs:List (Nat×List D)}{lv:List (Nat×Nat×Nat×TypeId)}{N:Nat}(L:Pt F o (dC (a7.f a)) F')(h3:F' (dC (a7.f b))=F2)(h2:bC prog tbl md ops K os tm ⟨(k,F2)::vs,lv,N⟩)(hx:evD tm x=.pt k o:=by exact rfl)(hv:vs.lookup k=some F:=by (repeat (first|exact ai|assumption|refine am (by first|assumption|exact mb (by assumption)|omega) ?_)))(hy:evD tm y=dG a7 b:=by exact rfl)(hn:md.nc tbl (.store 34 x y)=true:=by exact rfl):bC prog tbl md ops K (⟨none,.store 34 x y,ty,pos,af,none⟩::os) tm ⟨vs,lv,N⟩:=s0 (stN L hv h3 hx hy rfl) h2 hn
theorem l1g(L:Pt F o (dC (a7.f a)) F')(hw:c=want)(h2:bC prog tbl md ops K os ((t,dG a7 a)::tm) hp)(hx:evD tm x=.pt k o:=by exact rfl)(hv:hp.vars.lookup k=some F:=by (repeat (first|exact ai|assumption|refine am (by first|assumption|exact mb (by assumption)|omega) ?_)))(hk:k<hp.next:=by (first|omega|(dsimp only;omega)))(hj:(ops[j]?).bind (·.dst)=some s:=by exact rfl)(hc:tm.lookup s=some (.e (.lit (.bool c))):=by exact rfl)(hn:md.nc tbl (.load 34 x)=true:=by exact rfl):bC prog tbl md ops K (⟨some t,.load 34 x,ty,pos,af,some (j,want)⟩::os) tm hp:=g1 hw (ldN L hv hk hx) h2 hj hc hn
theorem cqg {f:FuncId}{la:List Operand}{ts:Array TypeId}{ds:List D}{r:D}(hc:aB prog f ds r)(hw:c=want)(h2:bC prog tbl md ops K os ((t,r)::tm) hp)(hj:(ops[j]?).bind (·.dst)=some s:=by exact rfl)(hg:tm.lookup s=some (.e (.lit (.bool c))):=by exact rfl)(hp1:((la.map (evD tm)).map D.ex).all D.pure=true:=by repeat (first|exact pn|refine pA (bn _ _) ?_|refine pA rfl ?_))(hl:leL ((la.map (evD tm)).map D.ex) ds:=by repeat (first|exact lAn|refine lC (eK _ _) ?_|refine lC (ao _) ?_))(hr:r.pure=true∨∃ds,r=.tu ds:=by (first|exact .inl (jf _ _)|exact .inl rfl|exact .inr ⟨_,rfl⟩)):
  bC prog tbl md ops K (⟨some t,.call ⟨.value (.func f),la.toArray,ts⟩,ty,pos,af,some (j,want)⟩::os) tm hp:=sqg tok hj hg hw hc hp1 hl hr h2
theorem n1 {vs:List (Nat×List D)}{lv:List (Nat×Nat×Nat×TypeId)}{N:Nat}(h2:bC prog tbl md ops K os ((t,.pt N 0)::tm) ⟨(N,dC zN)::vs,lv,N+1⟩)(hn:md.nc tbl (.alloc 34)=true:=by exact rfl):bC prog tbl md ops K (⟨some t,.alloc 34,ty,pos,af,none⟩::os) tm ⟨vs,lv,N⟩:=s1 T_alN h2 hn
theorem z1 {vs:List (Nat×List D)}{lv:List (Nat×Nat×Nat×TypeId)}{N:Nat}(h2:bC prog tbl md ops K os tm ⟨(k,(dC (a7.f b)))::vs,lv,N⟩)(hx:evD tm x=.pt k 0:=by exact rfl)(hv:vs.lookup k=some (dC zN):=by (repeat (first|exact ai|assumption|refine am (by first|assumption|exact mb (by assumption)|omega) ?_)))(hy:evD tm y=dG a7 b:=by exact rfl)(hn:md.nc tbl (.store 34 x y)=true:=by exact rfl):bC prog tbl md ops K (⟨none,.store 34 x y,ty,pos,af,none⟩::os) tm ⟨vs,lv,N⟩:=s0 (stZ hv hx hy rfl) h2 hn
theorem c1 {tt:TypeId}{ti:TyE}(L:Pt F o [d] F')(h2:bC prog tbl md ops K os ((t,d)::tm) hp)(hx:evD tm x=.pt k o:=by exact rfl)(hv:hp.vars.lookup k=some F:=by (repeat (first|exact ai|assumption|refine am (by first|assumption|exact mb (by assumption)|omega) ?_)))(hk:k<hp.next:=by (first|omega|(dsimp only;omega)))(ht:tbl tt=some ti:=by exact tbI)(hg:ti.ty.agg=false:=by exact rfl)(hn:md.nc tbl (.load tt x)=true:=by exact rfl):bC prog tbl md ops K (⟨some t,.load tt x,ty,pos,af,none⟩::os) tm hp:=s1 (T_ld1 L hv hk ht hg hx) h2 hn
theorem c1g {tt:TypeId}{ti:TyE}(L:Pt F o [d] F')(hw:c=want)(h2:bC prog tbl md ops K os ((t,d)::tm) hp)(hx:evD tm x=.pt k o:=by exact rfl)(hv:hp.vars.lookup k=some F:=by (repeat (first|exact ai|assumption|refine am (by first|assumption|exact mb (by assumption)|omega) ?_)))(hk:k<hp.next:=by (first|omega|(dsimp only;omega)))(ht:tbl tt=some ti:=by exact tbI)(hg:ti.ty.agg=false:=by exact rfl)(hj:(ops[j]?).bind (·.dst)=some s:=by exact rfl)(hc:tm.lookup s=some (.e (.lit (.bool c))):=by exact rfl)(hn:md.nc tbl (.load tt x)=true:=by exact rfl):bC prog tbl md ops K (⟨some t,.load tt x,ty,pos,af,some (j,want)⟩::os) tm hp:=g1 hw (T_ld1 L hv hk ht hg hx) h2 hj hc hn
theorem p1 {tt:TypeId}{ti:TyE}{bs:List D}(L:Pt F o bs F')(hz:bs.length=ti.size)(h2:bC prog tbl md ops K os ((t,.ag bs)::tm) hp)(hx:evD tm x=.pt k o:=by exact rfl)(hv:hp.vars.lookup k=some F:=by (repeat (first|exact ai|assumption|refine am (by first|assumption|exact mb (by assumption)|omega) ?_)))(hk:k<hp.next:=by (first|omega|(dsimp only;omega)))(ht:tbl tt=some ti:=by exact tbI)(hg:ti.ty.agg=true:=by exact rfl)(hn:md.nc tbl (.load tt x)=true:=by exact rfl):bC prog tbl md ops K (⟨some t,.load tt x,ty,pos,af,none⟩::os) tm hp:=s1 (T_ldP L hv hk ht hz hg hx) h2 hn
theorem v1 {vs:List (Nat×List D)}{lv:List (Nat×Nat×Nat×TypeId)}{N:Nat}{tt:TypeId}{ti:TyE}{bs ys:List D}(L:Pt F o bs F')(hz:bs.length=ti.size)(hl:ys.length=bs.length)(h3:F' ys=F2)(h2:bC prog tbl md ops K os tm ⟨(k,F2)::vs,lv,N⟩)(hx:evD tm x=.pt k o:=by exact rfl)(hv:vs.lookup k=some F:=by (repeat (first|exact ai|assumption|refine am (by first|assumption|exact mb (by assumption)|omega) ?_)))(hyc:(evD tm y).cells=some ys:=by exact rfl)(ht:tbl tt=some ti:=by exact tbI)(hn:md.nc tbl (.store tt x y)=true:=by exact rfl):bC prog tbl md ops K (⟨none,.store tt x y,ty,pos,af,none⟩::os) tm ⟨vs,lv,N⟩:=s0 (Pk L hv hyc ht hz hl h3 hx rfl) h2 hn
theorem a1 {vs:List (Nat×List D)}{lv:List (Nat×Nat×Nat×TypeId)}{N:Nat}{tt:TypeId}{ti:TyE}{F:List E}(ht:tbl tt=some ti)(h2:bC prog tbl md ops K os ((t,.pt N 0)::tm) ⟨(N,dC F)::vs,lv,N+1⟩)(hz:ti.zero.map E.lit=F:=by kernel_rfl)(hn:md.nc tbl (.alloc tt)=true:=by exact rfl):bC prog tbl md ops K (⟨some t,.alloc tt,ty,pos,af,none⟩::os) tm ⟨vs,lv,N⟩:=s1 (bo ht hz) h2 hn
end
end
section
section
variable {vs:List (Nat×List D)} {lv:List (Nat×Nat×Nat×TypeId)} {N kd R G w:Nat} {C:Nat→Nat}
theorem Pt.all {F:List D}:Pt F 0 F id:=Pt.of [] [] rfl (by simp) fun y=>by simp
end
end
def Ih(p:Nu→Bool)(l:List Nu):Int:=match l.findIdx? p with
 |some i=>i
 |none=>-1
theorem Nr {p:Nu→Bool}{l:List Nu}{i:Nat}(hi:i<l.length)(h:p l[i]! =true)(CA:∀j,j<i→p l[j]! =false):Ih p l=i:=by
 have:l.findIdx? p=some i:=by
  rw[Pe]
  refine⟨hi,by rw[gF l i hi] at h;exact h,fun j hj=>?_⟩
  have:=CA j hj
  rw[gF l j (by omega)] at this
  simp[this]
 unfold Ih;rw[this]
theorem Ls {p:Nu→Bool}{l:List Nu}(CA:∀j,j<l.length→p l[j]! =false):Ih p l=-1:=by
 have:l.findIdx? p=none:=by
  rw[List.findIdx?_eq_none_iff]
  intro x hx
  obtain⟨j,hj,rfl⟩:=List.mem_iff_getElem.1 hx
  have:=CA j hj
  rwa[gF l j hj] at this
 unfold Ih;rw[this]
theorem Mp {f:FuncId}{p:Nu→Bool}(hf:∀x:Nu,aB prog f [dG a7 x] (dB (p x))){l:List Nu}(hl:l.length≤1000000):aB prog 135 [.e (slE a7 l),.e (.lit (.func (.func f) #[] #[]))] (dI .i64 (Ih p l)):=by
 refine bL (rs:=[.tmp 4]) (fun cx hx h0=>?_) func135
 refine ra hx ?_
 refine AW.seq (ra hx ?_)
 refine AW.block (AW.loopW (fun i:Nat=>[(0,.e (slE a7 l)),(1,.e (.lit (.func (.func f) #[] #[]))),(7,dI .i64 (l.length:Nat)),(8,dI .i64 (i:Nat))]) (fun _=>⟨[],[],0⟩) (fun i=>i≤l.length∧∀j,j<i→p l[j]! =false) (fun i=>l.length - i) 0 ?_ ⟨dU _,fun j h=>absurd h (w6 _)⟩ ?_)
 ·exact wk h0 [] (wR rfl (wR rfl (wR rfl (wR rfl wTn)))) wVn wLn
 ·rintro i ⟨hi,CA⟩
  refine ra hx ?_
  refine AW.seq (AW.condS rfl (fun hb=>?_) (fun hb=>?_))
  ·have Kc:i<l.length:=by have:=pO hb;omega
   refine AW.skip (AW.seq (AW.block (ra hx ?_)))
   refine rs hx fun K hK=>?_
   iterate 3 refine sa ?_
   have ni:0≤(i:Int)∧(i:Int)<((l.length:Nat):Int):=by omega
   refine s1 (fZ ni aP aD) ?_
   refine s1 (d:=dG a7 l[i]!) (pl (c:=a7) (l:=l) (n:=i) (o:=0) aD Kc (jM _ _ rfl)) ?_
   refine sc (hf _) ?_
   refine .nil (hK _ _ (AW.condS rfl (fun hb=>?_) (fun hb=>?_)))
   ·refine ra hx ?_
    refine AW.ret ?_
    rw[Nr Kc hb CA]
    exact rv1
   ·refine AW.skip (rq hx fun K hK=>?_)
    iterate 2 refine sa ?_
    refine .nil (hK _ _ ?_)
    rw[nD]
    refine⟨i+1,wk h0 [] (wR rfl (wR rfl (wR rfl (wR rfl wTn)))) wVn wLn,⟨Kc,fun j hj=>?_⟩,by omega⟩
    rcases ck j i with h1|h1
    ·exact CA j h1
    ·obtain rfl:j=i:=by omega
     exact hb
  ·refine AW.exit ?_
   have Kc:i=l.length:=by have:=pC hb;omega
   refine ra hx ?_
   refine AW.ret ?_
   rw[Ls fun j hj=>CA j (by omega)]
   exact rv1
section
section
variable {vs:List (Nat×List D)} {lv:List (Nat×Nat×Nat×TypeId)} {N kd R G w m nn:Nat} {C:Nat→Nat}
theorem lit_Nu(l:List Nu):(l.flatMap a7.f).all E.isLit=true:=by
 rw[bV]
 intro x hx
 obtain⟨a,_,ha⟩:=List.mem_flatMap.1 hx
 have h2:∀y,y∈ap.f a.1.vN∨y∈ap.f a.1.vD→y.isLit=true:=by
  have h3:∀z:aq,∀y∈ap.f z,y.isLit=true:=fun z y hy=>by
   rcases tU.1 (show y∈[E.lit (.bool z.vBad),.lit (.bool z.vNeg)]++al_cV.f z.vW from hy) with h|h
   ·simp at h;rcases h with rfl|rfl <;> rfl
   ·obtain⟨n,_,hn⟩:=List.mem_flatMap.1 (show y∈z.vW.toList.flatMap (cI .u32).f from h)
    rw[Je.1 hn];rfl
  rintro y (h|h)
  ·exact h3 _ y h
  ·exact h3 _ y h
 exact h2 x (tU.1 (show x∈ap.f a.1.vN++ap.f a.1.vD from ha))
end
end
section
theorem HC.weak {P:Program}{f:FuncId}{ds:List D}{hp:Hp}{d:D}{vars vars':List (Nat×List D)}{lv lv':List (Nat×Nat×Nat×TypeId)}{n n':Nat}(hc:HC P f ds hp d ⟨vars,lv,n⟩)(h0:hp.next≤n')
  (h:eZ hp→eZ ⟨vars',lv',n'⟩∧(∀j ds,vars'.lookup j=some ds→vars.lookup j=some ds)∧(∀j y,lv'.lookup j=some y→lv.lookup j=some y)∧d.idsB n'=true):HC P f ds hp d ⟨vars',lv',n'⟩:=by
 refine⟨hc.1,fun B g w vs hr hsz cM=>(hc.2 B g w vs hr hsz cM).mono ?_⟩
 obtain⟨hok,hv,hl,hd⟩:=h hr.ok
 rintro e w' ⟨v,g',rfl,po,hM,hrd,hb,hF⟩
 have fa:∀id y,lv'.lookup id=some y→lv.lookup id=some y:=hl
 refine⟨v,g',rfl,⟨fun k ds hk=>?_,fun k k' a b hk tJ he=>po.inj k k' a b (hv k a hk) (hv k' b tJ) he,fun id m e hi=>?_,fun id zb t t' b hi zf=>po.tinj id zb t t' b (fa _ _ hi) (fa _ _ zf),po.base,po.fits⟩,
  ⟨hM.size,hM.cell,hM.forb,h0,hM.μ,fun id hid m e N3=>hM.live id hid m e (fa id _ N3),fun b hb hf=>⟨(hM.fr b hb hf).1,(hM.fr b hb hf).2.1,fun k ds hk=>(hM.fr b hb hf).2.2.1 k ds (hv k ds hk),fun id t hi=>(hM.fr b hb hf).2.2.2 id t (fa id _ hi)⟩,hM.szs⟩,GD hrd hd rfl fa,hb,hF⟩
 ·obtain⟨_,h3,h4,cs,ty,h5,h6,h7⟩:=po.var k ds (hv k ds hk)
  obtain⟨h1,h2⟩:=hok.var k ds hk
  exact⟨h1,h3,h4,cs,ty,h5,h6,fun j u hu=>⟨(h7 j u hu).1,fun d hd=>ir ((h7 j u hu).2 d hd) (bV.1 h2 d (cc hd)) rfl fa⟩⟩
 ·obtain⟨_,us,h2,h3,h4⟩:=po.tok id m e (fa _ _ hi)
  exact⟨hok.tok id _ hi,us,h2,h3,fun b hb=>⟨(h4 b hb).1,fun k ds hk=>(h4 b hb).2 k ds (hv k ds hk)⟩⟩
theorem resV {q:Nat}{tt:TypeId}{ti:TyE}{k:Nat}{F:List D}{vs:List (Nat×List D)}{lv:List (Nat×Nat×Nat×TypeId)}{N:Nat}{tm:List (Nat×D)}{k2:D→Prop}(ht:tbl tt=some ti)(hl:tm.lookup q=some (.pt k 0))(hv:vs.lookup k=some F)(hk:k<N)(hz:F.length=ti.size)(hg:ti.ty.agg=true)(h:k2 (.ag F)):pq tbl tm ⟨vs,lv,N⟩ (.cell q tt) k2:=by
 refine⟨.pt k 0,hl,⟨_,ht⟩,?_⟩
 rw[nC,ht]
 simp only[hv,hg]
 refine⟨hk,by omega,?_⟩
 rw[qA,jL (by omega)]
 exact h
theorem HC.forget {P:Program}{f:FuncId}{ds:List D}{d:D}{vs vars:List (Nat×List D)}{lv:List (Nat×Nat×Nat×TypeId)}{N n:Nat}(hc:HC P f ds ⟨vs,lv,N⟩ d ⟨vars,lv,n⟩)(hv:∀j ds,j<N→vs.lookup j=some ds→vars.lookup j=some ds)(hd:d.idsB N=true):HC P f ds ⟨vs,lv,N⟩ d ⟨vs,lv,N⟩:=
 hc.weak (aL N) fun hok=>⟨hok,fun j ds h=>hv j ds (hok.lt h) h,fun _ _ h=>h,hd⟩
section
variable {vs:List (Nat×List D)} {lv:List (Nat×Nat×Nat×TypeId)} {N w i ks s:Nat} {C:Nat→Nat}
theorem rtN1 {x:Cx}{tm:List (Nat×D)}{oM tq:List (Nat×List D)}{vs0:List (Nat×List D)}{lv0:List (Nat×Nat×Nat×TypeId)}{N0 M n2 q k:Nat}{a:Nu}(h0:x.hp0=⟨vs0,lv0,N0⟩)(hM:N0≤M)(hok:eZ ⟨oM,lv,M⟩)(hN:M≤n2)(hv:∀j ds,oM.lookup j=some ds→tq.lookup j=some ds)(hk:oM.lookup k=some (dC (a7.f a)))(hq:tm.lookup q=some (.pt k 0)):
  ∃tm',Wk x tm ⟨tq,lv,n2⟩ tm' ⟨oM,lv,M⟩∧v4 tbl [.cell q 34] tm' ⟨oM,lv,M⟩ (dG a7 a):=
 ⟨[(q,.pt k 0)],wkS (by rw[h0];exact hM) hN hok hv (oK.nil.cons hq (cV (hok.lt hk))),resV aD ai hk (hok.lt hk) (qn a) rfl rfl⟩
end
end
section
section
variable {x:Cx} {tm tm':List (Nat×D)} {hp:Hp}
theorem Wk.perm {vars':List (Nat×List D)}{pJ:List (Nat×Nat×Nat×TypeId)}{m:Nat}(σ:Nat→Nat)(h0:x.hp0.next≤m)(bI:∀i,i<x.hp0.next→σ i=i)(hinj:∀i j,i<m→j<m→σ i=σ j→i=j)
  (ht:∀p∈tm',tm.lookup p.1=some (p.2.ren σ)∧p.2.idsB m=true∧p.2.noOs=true)
  (hv:∀k ds,vars'.lookup k=some ds→k<m∧hp.vars.lookup (σ k)=some (ds.map (D.renC σ))∧ds.all (D.idsC m)=true∧ds.all D.noO=true)
  (hl:∀k y,pJ.lookup k=some y→k<m∧hp.live.lookup (σ k)=some y):Wk x tm hp tm' ⟨vars',pJ,m⟩:=by
 intro a w ⟨g,hr,g8,hsz,ry,hB,hF,hM⟩
 have fa:∀id y,(⟨vars',pJ,m⟩:Hp).live.lookup id=some y→hp.live.lookup (σ id)=some y:=fun id y h=>(hl _ _ h).2
 refine⟨⟨fun i=>g.μ (σ i),fun i=>g.τ (σ i),g.F⟩,⟨fun k ds hk=>?_,fun k k' ds ds' hk tJ he=>?_,fun id n e hi=>?_,fun id zb t t' b hi zf hb qr=>?_,hr.base,hr.fits⟩,fun t d h=>?_,hsz,ry,hB,hF,
  ⟨hM.size,hM.cell,hM.forb,h0,fun k hk=>by show g.μ _=_;rw[bI k hk];exact hM.μ k hk,fun id hid n e N3=>?_,fun b hb hf=>⟨(hM.fr b hb hf).1,(hM.fr b hb hf).2.1,fun k ds hk=>(hM.fr b hb hf).2.2.1 _ _ (hv _ _ hk).2.1,fun id t hi=>(hM.fr b hb hf).2.2.2 _ t (fa id _ hi)⟩,hM.szs⟩⟩
 ·obtain⟨h1,h2,h3,h4⟩:=hv _ _ hk
  obtain⟨_,h5,h6,cs,ty,h7,h8,h9⟩:=hr.var _ _ h2
  refine⟨h1,h5,h6,cs,ty,h7,by simpa using h8,fun j u hu=>⟨fun h=>(h9 j u hu).1 (by simpa using h),fun d hd=>?_⟩⟩
  exact je ((h9 j u hu).2 (d.renC _) (by rw[de,hd];rfl)) (bV.1 h3 d (cc hd)) (bV.1 h4 d (cc hd)) rfl (fun _=>rfl) (fun _=>rfl) rfl fa
 ·obtain⟨h1,h2,_⟩:=hv _ _ hk
  obtain⟨s6,sD,_⟩:=hv _ _ tJ
  exact hinj _ _ h1 s6 (hr.inj _ _ _ _ h2 sD he)
 ·obtain⟨h1,h2⟩:=hl _ _ hi
  obtain⟨_,us,h3,h4,h5⟩:=hr.tok _ n e h2
  exact⟨h1,us,h3,h4,fun b hb=>⟨(h5 b hb).1,fun k ds hk=>(h5 b hb).2 _ _ (hv _ _ hk).2.1⟩⟩
 ·obtain⟨h1,h2⟩:=hl _ _ hi
  obtain⟨s6,sD⟩:=hl _ _ zf
  exact hinj _ _ h1 s6 (hr.tinj _ _ _ _ b h2 sD hb qr)
 ·obtain⟨h1,h2,h3⟩:=ht _ (cg h)
  exact D5 (g8 t _ h1) h2 h3 rfl (fun _=>rfl) (fun _=>rfl) rfl fa
 ·obtain⟨m0,h1,h2,h3⟩:=hM.live id hid n e (by rw[←bI id hid];exact fa id _ N3)
  exact⟨m0,h1,h2,fun h=>by show g.τ _=_;rw[bI id hid];exact h3 h⟩
theorem ML {σ:Nat→Nat}{n:Nat}(hσ:∀i,i<n→σ i=i){d:D}(hd:d.idsC n=true)(hn:d.noO=true):d.renC σ=d:=by
 cases d with
 |own id z n xs=>simp only[D.idsC,qZ] at hd;simp only[D.renC,hσ id hd]
 |pt k o=>simp only[D.idsC,qZ] at hd;simp only[D.renC,hσ k hd]
 |ow k o z n=>simp only[D.idsC,qZ] at hd;simp only[D.renC,hσ k hd]
 |gw k z n=>simp only[D.idsC,qZ] at hd;simp only[D.renC,hσ k hd]
 |fn f ks=>
  simp only[D.idsC,bV,qZ] at hd
  simp only[D.renC]
  congr 1
  exact (pD fun k hk=>hσ k (hd k hk)).trans (BD _)
 |opt b d=>cases hn
 |_=>rfl
theorem J1 {σ:Nat→Nat}{n:Nat}(hσ:∀i,i<n→σ i=i){ds:List D}(hd:ds.all (D.idsC n)=true)(hn:ds.all D.noO=true):ds.map (D.renC σ)=ds:=
 (pD fun d h=>ML hσ (bV.1 hd d h) (bV.1 hn d h)).trans (BD _)
end
def TmR(σ:Nat→Nat)(m:Nat)(tm tm':List (Nat×D)):Prop:=∀p∈tm',tm.lookup p.1=some (p.2.ren σ)∧p.2.idsB m=true∧p.2.noOs=true
theorem TmR.nil {σ:Nat→Nat}{m:Nat}{tm:List (Nat×D)}:TmR σ m tm []:=fun p hp=>absurd hp (yB)
theorem TmR.cons {σ:Nat→Nat}{m t:Nat}{d:D}{tm tm':List (Nat×D)}(h2:TmR σ m tm tm')(h:tm.lookup t=some (d.ren σ))(hi:d.idsB m=true)(hn:d.noOs=true:=by exact rfl):TmR σ m tm ((t,d)::tm'):=fun p hp=>by
 rcases m9.1 hp with rfl|hp
 ·exact⟨h,hi,hn⟩
 ·exact h2 p hp
end
section
theorem AR.tu {hp:Hp}{ds es:List D}(h:ARs hp ds es):AR hp (.tu ds) (.tu es):=by
 intro B g w v hr hd
 obtain⟨h1,h2⟩:=h.get
 cases hd with
 |tu _ cs hl Fu=>
  refine aN.tu es cs (by omega) fun j e u hj hu=>?_
  obtain⟨d,h3,h4⟩:=h2 j e hj
  exact h4 B g w u hr (Fu j d u h3 hu)
def mkNu(x:ak)(h:okR x):Nu:=⟨x,h⟩
open Classical in
def tI(x:ak):Nu:=if h:okR x then mkNu x h else default
theorem Ef {x:ak}(h:okR x):nv (tI x)=x:=by unfold tI;rw[dif_pos h];rfl
theorem nuOf_nv(x:Nu):tI (nv x)=x:=by unfold tI;rw[dif_pos (show okR (nv x) from x.2)];rfl
def okL(l:List ak):Prop:=∀x∈l,okR x
theorem Gt {l:List ak}(h:okL l):(l.map tI).map nv=l:=by
 rw[mV]
 exact (pD fun x hx=>Ef (h x hx)).trans (BD _)
theorem okL_nv(l:List Nu):okL (l.map nv):=fun x hx=>by
 obtain⟨a,_,rfl⟩:=nW.1 hx
 exact a.2
theorem map_nv(l:List Nu):(l.map nv).map tI=l:=by
 rw[mV]
 exact (pD fun x _=>nuOf_nv x).trans (BD _)
theorem AR.dn {hp:Hp}{e:E}(h:(D.e e).pure=true):AR hp (.e e) (.e e):=AR.data (d:=.e e) h
end
theorem n8:El prog 22 34 (.agg #[.bool false,.bool false,ae,ae,ae,ae,ae,ae,ae,ae,ae,ae,ae,ae,ae,ae,ae,ae,.bool false,.bool false,ae,ae,ae,ae,ae,ae,ae,ae,ae,ae,ae,ae,ae,ae,ae,ae]) 36 136:=⟨underlying22,info_parts (by kernel_rfl),rfl,by decide⟩
theorem n3(n:Nat)(us:List Value)(v:Value)(w:World)(hl:Sl w v 36 n us)(h1:∀u∈us,u.oneCell'=true)(hn:n≤1000000):
  Calls prog 97 #[v] w fun e w'=>∃q,e=.returned q∧w'.ownsRow w.heap.size 34 36 q n us∧Below w.heap.size w w':=by
 obtain⟨A,c,rfl,oY,n7,hr⟩:=id hl
 cases A with
 |none=>
  obtain rfl:n=0:=by
   rcases ma n with h|h
   ·exact h
   ·obtain⟨_,h,_⟩:=hr.2 h;cases h
  obtain rfl:us=[]:=lb (by simpa using hr.1)
  have he:(binOp .eql 22 (.slice none 0 c) (.slice none 0 0)).run prog w=.ok (.bool true) w:=by kernel_rfl
  go_enter func97,ntmps97
  go_wp2_with fail
  go_ret
  exact⟨_,rfl,⟨rfl,.inl ⟨rfl,rfl⟩⟩,Below.refl _ _⟩
 |some ad=>
  have he:(binOp .eql 22 (.slice (some ad) n c) (.slice none 0 0)).run prog w=.ok (.bool false) w:=by kernel_rfl
  go_enter func97,ntmps97
  have hown0:=own_mtG w 34 w.heap.size 36 (aL _)
  have GT:=(Below.refl w.heap.size w).alloc (aL _) (.cells #[] 34)
  have wd:=hl.below GT
  have HL:=Lib.hid wd
  have H1:=Lib.hid h1
  clear hl hr wd h1
  go_wp2_with (at_builtin;refine wg _ rfl _ _ _ rfl n8 w.heap.size _ _ _ rfl hown0 _ _ _ rfl HL.out H1.out (by omega) (by omega) (by simp) w w.heap.size GT (aL _) ?_)
  intro v' w' kO hb
  go_wp2_with fail
  go_ret
  refine⟨_,rfl,?_,hb⟩
  simpa using kO
theorem dm(n:Nat)(xs:List E)(hn:n≤1000000):aB prog 97 [.e (.sl 36 n xs)] (.own 34 36 n xs):=
 OV (by decide) ⟨_,func97,rfl,rfl⟩ (fun us v w h1 h2=>n3 n us v w h1 h2 hn)
def fC(l:List ak):Option (List ak):=gd (l.length≤1000000) (some l)
theorem ol {l r:List ak}(h:fC l=some r):aB prog 97 [dL aj l] (.own 34 aj.sz r.length (r.flatMap aj.f)):=by
 obtain⟨hn,h⟩:=aC h
 obtain rfl:=co h
 exact dm _ _ hn
section
def FWd(ro:Option Nat):Fence:={Fence.wide with round:=ro}
section
variable {P:Program} {ro:Option Nat} {n:Nat}
theorem zo {f:FuncId}{args:Array Value}{w:World}{R:Ending→World→Prop}(h:Calls P f args w R):CallsIn (FWd ro) n P f args w R:=(callsIn_wide (n:=n)).2 h
theorem H3 {row:String}{args:Array Value}{w:World}{R:Value→World→Prop}(h:Rows P row args w R):RowsIn (FWd ro) n P row args w R:=fun c cs _=>by
 obtain⟨v,w',hr,hs⟩:=h c cs
 exact⟨v,w',hr,stepsIn_wide.2 hs⟩
theorem upon_in {o:Oper}{a:Act}{K:Act→World→Prop}{Q:Exit→Act→World→Prop}{r:Result Next}(h:o.upon P a K Q r):o.uponIn (FWd ro) n P a K Q r:=by
 cases r with
 |ok nx w'=>
  cases nx with
  |enter f args=>
   rw[Oper.upon_enter] at h
   rw[Oper.uponIn_enter]
   refine⟨fun hd=>(by cases hd),(zo h).mono ?_⟩
   intro e w'' hh
   cases e <;> exact hh
  |row r args=>
   rw[Oper.uponIn_row]
   exact⟨fun hd=>(by cases hd),H3 h⟩
  |value v=>exact h
  |skip=>exact h
  |«defer» d=>exact h
  |_=>exact h.elim
 |halt hx w'=>
  cases hx with
  |panic v=>exact h
  |_=>exact h.elim
def sw(ops:Array Oper):Bool:=ops.all fun o=>match o.op with
 | .defer _=>false
 |_=>true
theorem wy {ops:Array Oper}(h:sw ops=true){i:Nat}{o:Oper}(hi:ops[i]? =some o):∀c,o.op≠.defer c:=by
 unfold sw at h
 rw[Jd] at h
 have:=h o (Array.mem_of_getElem? hi)
 intro c hc
 rw[hc] at this
 cases this
theorem op_in {o:Oper}{a:Act}{w:World}{K:Act→World→Prop}{Q:Exit→Act→World→Prop}(hd:∀c,o.op≠.defer c)(h:o.wp P a w K Q):o.wpIn (FWd ro) n P a w K Q:=by
 refine⟨fun _ _=>trivial,?_⟩
 rw[Oper.semAt_eq _ _ _ hd]
 exact upon_in h
end
section
variable {P:Program} {tb:TypeId→Option TyE} {x:Cx} {tm tm':List (Nat×D)} {hp hp':Hp} {a:Act} {w w':World} {ro:Option Nat} {n:Nat}
theorem Ae {ops:Array Oper}{K:List (Nat×D)→Hp→Prop}{Q:Exit→Act→World→Prop}(hN:jC x.N ops=true)(wb:sw ops=true)(tl:List Nat)(r2:List Oper)
  (hk:∀tm hp a w,K tm hp→RS x tm hp a w→wpOpsIn (FWd ro) n P ops Q tl a w)
  (rest:List Oper) (i:Nat) (tm:List (Nat×D)) (hp:Hp) (a:Act) (w:World) (hd:ops.toList.drop i=rest++r2) (h:bC P tb .seq ops K rest tm hp) (hr:RS x tm hp a w):wpOpsIn (FWd ro) n P ops Q (List.range' i rest.length++tl) a w:=by
 have step:∀{o:Oper} {os:List Oper} {i:Nat},ops.toList.drop i=o::os→ops[i]? =some o∧ops.toList.drop (i+1)=os:=by
  intro o os i hd
  refine⟨?_,by rw[←pj,hd];rfl⟩
  have:(ops.toList.drop i)[0]? =some o:=by rw[hd];rfl
  rw[pM] at this
  simpa using this
 induction h generalizing i a w with
 |nil h=>exact hk _ _ _ _ h hr
 |on d hp' hg h2 h1 ih=>
  obtain⟨ho,Cc⟩:=step hd
  have wM:=fun t ht=>jW hN ho (t:=t) ht
  simp only[mj,Fc,BC]
  unfold wpOpsIn
  rw[ho]
  dsimp only
  obtain⟨g,_,g8,_⟩:=id hr
  rw[hg.wanted g8,ay rfl]
  exact op_in (wy wb ho) (hr.op h2.ok wM fun a' w' po=>ih (i+1) a' w' Cc po)
 |off d hg hs h1 ih=>
  obtain⟨ho,Cc⟩:=step hd
  have wM:=fun t ht=>jW hN ho (t:=t) ht
  simp only[mj,Fc,BC]
  unfold wpOpsIn
  rw[ho]
  dsimp only
  obtain⟨g,_,g8,_⟩:=id hr
  rw[hg.wanted g8,aA (by simp)]
  exact⟨fun _ _=>trivial,ih (i+1) _ _ Cc (hr.skip hs wM)⟩
 |sq _ d hp' hg h2 h1 ih=>
  obtain⟨ho,Cc⟩:=step hd
  have wM:=fun t ht=>jW hN ho (t:=t) ht
  simp only[mj,Fc,BC]
  unfold wpOpsIn
  rw[ho]
  dsimp only
  obtain⟨g,_,g8,_⟩:=id hr
  rw[hg.wanted g8,ay rfl]
  exact op_in (wy wb ho) (hr.op h2 wM fun a' w' po=>ih (i+1) a' w' Cc po)
 |wk _ hw h ih=>exact ih i a w hd (hw.rs hr)
def AV(P:Program)(ro:Option Nat)(x:Cx)(c:Code)(tm:List (Nat×D))(hp:Hp)(Q:Exit→Act→World→Prop):Prop:=∀a w,RS x tm hp a w→c.wpIn (FWd ro) 0 P Q a w
variable {Q:Exit→Act→World→Prop}
theorem AV.mono {c:Code}{Q':Exit→Act→World→Prop}(h:AV P ro x c tm hp Q)(hq:∀ex a w,Q ex a w→Q' ex a w):AV P ro x c tm hp Q':=fun a w hr=>wpIn_mono (h a w hr) hq
theorem Af {c:Code}:c.wpIn (FWd none) n P Q a w↔c.wp P Q a w:=wpIn_wide (n:=n)
theorem AV.aw {c:Code}{Q':Exit→List (Nat×D)→Hp→Prop}(h:AW P x c tm hp Q')(hq:∀ex tm' hp' a w,Q' ex tm' hp'→RS x tm' hp' a w→Q ex a w):AV P none x c tm hp Q:=
 fun a w hr=>Af.2 (wp_mono (h a w hr) fun ex a' w' ⟨tm',hp',h1,h2⟩=>hq ex tm' hp' a' w' h2 h1)
theorem AV.seq {c c':Code}(h:AV P ro x c tm hp (Exit.then (fun a w=>c'.wpIn (FWd ro) 0 P Q a w) Q)):AV P ro x (.seq c c') tm hp Q:=fun a w hr=>wpIn_seq (h a w hr)
theorem AV.seqA {c c':Code}(h:AW P x c tm hp fun ex tm' hp'=>match ex with| .normal=>AV P none x c' tm' hp' Q|ex=>∀a w,RS x tm' hp' a w→Q ex a w):AV P none x (.seq c c') tm hp Q:=by
 refine AV.seq (AV.aw h ?_)
 intro ex tm' hp' a w h1 hr
 cases ex with
 |normal=>exact h1 a w hr
 |_=>exact h1 a w hr
theorem AV.block {id:Nat}{c:Code}(h:AV P ro x c tm hp (Exit.inBlock id Q)):AV P ro x (.block id c) tm hp Q:=fun a w hr=>wpIn_block (h a w hr)
theorem AV.ret(h:∀a w,RS x tm hp a w→Q .ret a w):AV P ro x .ret tm hp Q:=fun a w hr=>wpIn_ret (h a w hr)
theorem AV.skip(h:∀a w,RS x tm hp a w→Q .normal a w):AV P ro x .skip tm hp Q:=fun a w hr=>wpIn_skip (h a w hr)
theorem AV.weak {c:Code}(hw:Wk x tm hp tm' hp')(h:AV P ro x c tm' hp' Q):AV P ro x c tm hp Q:=fun a w hr=>h a w (hw a w hr)
theorem AV.cond {c:Operand}{c1 c2:Code}{b:Bool}(hc:evD tm c=.e (.lit (.bool b)))(ht:b=true→AV P ro x c1 tm hp Q)(hf:b=false→AV P ro x c2 tm hp Q):AV P ro x (.cond c c1 c2) tm hp Q:=by
 intro a w hr
 obtain⟨g,_,g8,_⟩:=id hr
 have hv:=wW g8 c
 rw[hc] at hv
 refine wpIn_cond (t:=b) hv.lit ?_
 cases b
 ·exact hf rfl a w hr
 ·exact ht rfl a w hr
theorem AV.region {id:Nat}{ops:Array Oper}(hN:jC x.N ops=true)(wb:sw ops=true)(h:∀K:List (Nat×D)→Hp→Prop,(∀tm hp,(∀a w,RS x tm hp a w→Q .normal a w)→K tm hp)→bC P tb .seq ops K ops.toList tm hp):AV P ro x (.region id ops false) tm hp Q:=by
 intro a w hr
 refine wpIn_region ?_
 have:=Ae (ro:=ro) (n:=0) (Q:=Q) hN wb [] [] (fun tm hp a w hk hr=>by unfold wpOpsIn;exact hk a w hr) ops.toList 0 tm hp a w (by simp) (h _ fun _ _ h=>h) hr
 rwa[tX,ej,←LU] at this
theorem AV.loop {c:Code}(I:Nat→List (Nat×D)→Hp→Prop){n:Nat}{tm0:List (Nat×D)}{hp0:Hp}(hw:Wk x tm hp tm0 hp0)(h0:I n tm0 hp0)
  (round:∀n tm hp,I n tm hp→AV P none x c tm hp (Exit.then (fun a w=>∃m La bK,m<n∧RS x La bK a w∧I m La bK) Q)):AV P none x (.loop c) tm hp Q:=by
 intro a w hr
 refine Af.2 (uH (fun n a w=>∃tm hp,RS x tm hp a w∧I n tm hp) (n:=n) ⟨tm0,hp0,hw a w hr,h0⟩ (fun n a w ⟨tm,hp,hr,hI⟩=>wp_mono (Af.1 (round n tm hp hI a w hr)) ?_))
 intro ex a' w' h1
 cases ex with
 |normal=>
  obtain⟨m,La,bK,h2,h3,h4⟩:=h1
  exact⟨m,h2,La,bK,h3,h4⟩
 |_=>exact h1
theorem F6 {tc:Option Tmp}{ty ta:Tmp}{ts:Array TypeId}{tyid:TypeId}{pos:String}{af:Array Edge}{l:Nat}{gd:Option (Nat×Bool)}(hy:a.eval (.tmp ty)=.func (.yield l) #[] #[]){fn:FuncId}{tmps:Array Value}{assign body:Code}(hr:(Instr.yield l #[a.eval (.tmp ta)]).run P w=.ok (.round l fn tmps assign body) w):
  (execOp a.eval ⟨tc,.call ⟨.value (.tmp ty),#[.tmp ta],ts⟩,tyid,pos,af,gd⟩).run P w=.ok (.round l fn tmps assign body) w:=by
 have AO:a.tmps[ty]?.getD undef=.func (.yield l) #[] #[]:=by simpa[Act.eval,cP] using hy
 have Iq:(Instr.yield l #[a.tmps[ta]?.getD undef]).run P w=.ok (.round l fn tmps assign body) w:=by simpa[Act.eval,cP] using hr
 simp[execOp,resolve,invoke,AO,Iq,go_sem]
end
end
section
section
variable {B:Nat} {hp hp' hp1 bK:Hp} {g g' g1 g2:Gh} {w w' w1 w2:World} {l:Nat} {o o':Obj}
theorem rS(hl:w.heap[l]? =some o)(ho:o.isCells=false)(sd:o'.isCells=false)(p:Addr):(w.putObj l o').cell? p=w.cell? p:=by
 by_cases hp:p.block=l
 ·unfold World.cell?
  rw[hp,hl,World.putObj_heap_same (gD.1 hl).1]
  cases o <;> cases o' <;> first|rfl|(cases sd;done)|(cases ho;done)
 ·exact World.cell?_of_block (World.putObj_heap_other hp)
theorem rK(hl:w.heap[l]? =some o)(ho:o.isCells=false){b:Nat}{cs:Array Value}{ty:TypeId}{r:Nat×Nat}(hb:w.heap[b]? =some (.cells cs ty r)):b≠l:=by
 rintro rfl
 rw[hl] at hb
 injection hb with hb
 subst hb
 cases ho
theorem cH.putO {F:Addr→Prop}{x:E}{v:Value}(h:cH w F x v)(hl:w.heap[l]? =some o)(ho:o.isCells=false)(sd:o'.isCells=false):cH (w.putObj l o') F x v:=
 h.mono (by simp) (fun p _ _=>rS hl ho sd p) fun _ _ h=>h
theorem aN.putO {d:D}{v:Value}(h:aN hp g w d v)(hl:w.heap[l]? =some o)(ho:o.isCells=false)(sd:o'.isCells=false):aN hp g (w.putObj l o') d v:=by
 induction h with
 |e x v h=>exact .e x v (h.putO hl ho sd)
 |own id z n xs v h hid ht=>exact .own id z n xs v (h.putO hl ho sd) hid ht
 |fu z n xs A h=>exact .fu z n xs A (h.putO hl ho sd)
 |ag ds cs hl h1 _ ih=>exact .ag ds cs hl h1 ih
 |tu ds cs hl _ ih=>exact .tu ds cs hl ih
 |fp xs off ad hb hc=>
  refine .fp xs off ad (by simpa using hb) (fun j x hx=>?_)
  obtain⟨u,h1,h2,h3⟩:=hc j x hx
  exact⟨u,(rS hl ho sd _).trans h1,h2,h3.putO hl ho sd⟩
 |pt k off hk=>exact .pt k off hk
 |ow k off z n c hk h1 h2=>exact .ow k off z n c hk h1 h2
 |gw k z n c hk h1 h2 hs=>
  obtain⟨cs,ty,r,h3,h4⟩:=hs
  exact .gw k z n c hk h1 h2 ⟨cs,ty,r,(World.putObj_heap_other (rK hl ho h3)).trans h3,h4⟩
 |fn f ks hk=>exact .fn f ks hk
 |opt b d v hi _ ih=>exact .opt b d v hi ih
 |top v=>exact .top v
theorem HR.putO(h:HR B hp g w)(hl:w.heap[l]? =some o)(ho:o.isCells=false)(sd:o'.isCells=false):HR B hp g (w.putObj l o'):=by
 refine⟨fun k ds hk=>?_,h.inj,fun id n e hi=>?_,h.tinj,by simpa using h.base,fun p hf=>by simpa using h.fits p hf⟩
 ·obtain⟨h1,h2,h3,cs,ty,h4,h5,h6⟩:=h.var k ds hk
  exact⟨h1,h2,h3,cs,ty,(World.putObj_heap_other (rK hl ho h4)).trans h4,h5,fun j u hu=>⟨(h6 j u hu).1,fun d hd=>((h6 j u hu).2 d hd).putO hl ho sd⟩⟩
 ·obtain⟨h1,us,hz,h2,h3⟩:=h.tok id n e hi
  refine⟨h1,us,hz,⟨h2.1,?_⟩,h3⟩
  rcases h2.2 with h0|⟨b,cap,cur,hv,hB,hh,r⟩
  ·exact .inl h0
  ·exact .inr ⟨b,cap,cur,hv,hB,(World.putObj_heap_other (rK hl ho hh)).trans hh,r⟩
theorem HR.free(h:HR B hp g w)(hl:w.heap[l]? =some o)(ho:o.isCells=false):Jy hp g l:=by
 refine⟨fun k ds hk=>?_,fun id t hi he=>?_⟩
 ·obtain⟨_,_,_,cs,ty,h4,_⟩:=h.var k ds hk
  exact rK hl ho h4
 ·obtain⟨h1,us,hz,h2,h3⟩:=h.tok id t.1 t.2 hi
  rcases h2.2 with⟨h0,_⟩|⟨b,cap,cur,hv,hB,hh,r⟩
  ·rw[h0] at he;cases he
  ·rw[hv] at he
   have:b=l:=by injection he
   exact rK hl ho hh this
theorem bO.patch {o1:Obj}(m:bO hp1 g1 (w1.putObj l o1) bK g2 w2)(hl:w1.heap[l]? =some o)(ho:o.isCells=false)(ho1:o1.isCells=false)(hf:Jy hp1 g1 l):bO hp1 g1 w1 bK g2 (w2.putObj l o):=by
 have bI:l<w1.heap.size:=(gD.1 hl).1
 have hs1:(w1.putObj l o1).heap.size=w1.heap.size:=by simp
 obtain⟨h2,h3,h4⟩:=m.fr l (by rw[hs1];exact bI) hf
 have h2:w2.heap[l]? =some o1:=h2.trans (World.putObj_heap_same bI)
 have hlt2:l<w2.heap.size:=(gD.1 h2).1
 refine⟨by have:=m.size;rw[hs1] at this;simpa using this,fun p hp hF=>?_,fun p hp hF=>m.forb p (by rw[hs1];exact hp) hF,m.next,m.μ,m.live,fun b hb hfb=>?_,fun b cs ty r hc=>?_⟩
 ·rw[rS h2 ho1 ho,m.cell p (by rw[hs1];exact hp) hF,rS hl ho ho1]
 ·obtain⟨h5,h6,h7⟩:=m.fr b (by rw[hs1];exact hb) hfb
  refine⟨?_,h6,h7⟩
  by_cases e:b=l
  ·subst e;rw[World.putObj_heap_same hlt2,hl]
  ·rw[World.putObj_heap_other e,h5,World.putObj_heap_other e]
 ·have e:b≠l:=rK hl ho hc
  obtain⟨th,h5,h6⟩:=m.szs b cs ty r ((World.putObj_heap_other e).trans hc)
  exact⟨th,(World.putObj_heap_other e).trans h5,h6⟩
theorem bO.putNew(m:bO hp g w hp' g' w')(hn:w.heap.size≤l)(hl:w'.heap[l]? =some o)(ho:o.isCells=false)(sd:o'.isCells=false):bO hp g w hp' g' (w'.putObj l o'):=by
 refine⟨by simpa using m.size,fun p hp hF=>by rw[rS hl ho sd];exact m.cell p hp hF,m.forb,m.next,m.μ,m.live,fun b hb hfb=>?_,fun b cs ty r hc=>?_⟩
 ·obtain⟨h5,h6,h7⟩:=m.fr b hb hfb
  exact⟨(World.putObj_heap_other (by omega)).trans h5,h6,h7⟩
 ·obtain⟨th,h5,h6⟩:=m.szs b cs ty r hc
  have:b<w.heap.size:=(gD.1 hc).1
  exact⟨th,(World.putObj_heap_other (by omega)).trans h5,h6⟩
theorem sJ {w0:World}(h:Below B w0 w)(hl:B≤l):Below B w0 (w.putObj l o'):=
 ⟨h.os,h.tape,h.output,by simpa using h.size,fun k hk=>(World.putObj_heap_other (by omega)).trans (h.block k hk)⟩
end
structure v7(B:Nat)(hp:Hp)(g:Gh)(w:World)(hp':Hp)(g':Gh)(w':World):Prop where
 hr:HR B hp' g' w'
 mo:bO hp g w hp' g' w'
 bl:Below B w w'
 fo:∀p:Addr,p.block<B→g.F p→g'.F p
theorem v7.trans {B:Nat}{hp hp' bK:Hp}{g g' g2:Gh}{w w' w2:World}(h:v7 B hp g w hp' g' w')(h':v7 B hp' g' w' bK g2 w2):v7 B hp g w bK g2 w2:=
 ⟨h'.hr,h.mo.trans h'.mo,h.bl.trans h'.bl,fun p hp hq=>h'.fo p hp (h.fo p hp hq)⟩
def Dt(r:Loop):Loop:={r with state:=.busy}
def qo(r:Loop):Loop:={r with state:=.done,pending:=some .ret}
def YOk(P:Program)(B l:Nat)(rec:Loop)(hpE:Hp)(gE:Gh)(wE:World)(hp:Hp)(d:D)(Y S:Hp→Prop):Prop:=
 ∀g W v,v7 B hpE gE wE hp g W→aN hp g W d v→YieldAt Fence.wide 0 P l #[v] W fun e w'=>
  (e=.returned (.bool true)∧∃hp' g',v7 B hp g W hp' g' w'∧Y hp')∨
  (e=.returned (.bool false)∧∃hp' g' W',w'=W'.putObj l (.loop (qo rec))∧W'.heap[l]? =some (.loop rec)∧v7 B hp g W hp' g' W'∧S hp')
section
variable {P:Program} {tb:TypeId→Option TyE} {B l:Nat} {rec:Loop} {hpE hp:Hp} {gE:Gh} {wE:World} {d:D} {tm0:List (Nat×D)} {Y S:Hp→Prop}
theorem YOk.of {p:Tmp}(hlE:wE.heap[l]? =some (.loop rec))(hrE:HR B hpE gE wE)(yf:rec.state=.ready)(hpe:rec.pending=none)(hpar:rec.params=#[p])(hB:B≤l)(hp0:p<rec.tmps.size)
  (g8:∀t d,tm0.lookup t=some d→aN hpE gE wE d (rec.tmps.getD t undef))
  (has:∀x:Cx,x.N=rec.tmps.size→x.df=[]→x.hp0=hp→AV P (some l) x rec.assign ((p,d)::tm0) hp fun ex a w=>ex=.normal∧∃CZ hp1,RS x CZ hp1 a w∧
   ∀x:Cx,x.N=rec.tmps.size→x.df=[]→x.hp0=hp1→AV P (some l) x rec.body CZ hp1 fun ex a w=>∃tm hp',RS x tm hp' a w∧match ex with| .normal=>Y hp'| .ret=>S hp'|_=>False):
  YOk P B l rec hpE gE wE hp d Y S:=by
 intro g W v hc hv
 have hfE:=hrE.free hlE rfl
 obtain⟨hl0,_,hf0⟩:=hc.mo.fr l (gD.1 hlE).1 hfE
 have hl:W.heap[l]? =some (.loop rec):=hl0.trans hlE
 refine⟨_,_,_,_,run_yield hl (by rw[hpar];rfl),roundIn_of_wpIn trivial ?_⟩
 rw[hpar]
 have AS:RS ⟨B,W,g.F,rec.tmps.size,hp,g,[]⟩ ((p,d)::tm0) hp {tmps:=((#[p]:Array Tmp).zip #[v]).foldl (fun tmps (t,a)=>tmps.setIfInBounds t a) rec.tmps,defers:=[]} W:=by
  refine⟨g,hc.hr,fun t d' ht=>?_,by simp,rfl,Below.refl _ _,fun _ _ h=>h,bO.refl _ _ _⟩
  have hz:(#[p]:Array Tmp).zip #[v]=#[(p,v)]:=by apply Array.ext';simp
  rw[hz]
  simp only[List.foldl_toArray',tV,List.foldl_nil,mi,mj,List.length_nil,bq]
  by_cases e:t=p
  ·subst e
   have:some d=some d':=by rw[←ht];exact ai.symm
   injection this with this
   subst this
   simpa[cP,hp0] using hv
  ·have h0:=g8 t d' (by rw[←ht];exact (ar e).symm)
   have:=h0.mono hc.mo
   simpa[cP,BH (fun h:p=t=>e h.symm)] using this
 refine wpIn_mono (has ⟨B,W,g.F,rec.tmps.size,hp,g,[]⟩ rfl rfl rfl _ _ AS) ?_
 rintro ex a1 w1 ⟨rfl,CZ,hp1,⟨g1,NF,htm1,hsz1,hdf1,hB1,Fz,hM1⟩,hbo⟩
 obtain⟨hl1',_,Kf⟩:=hM1.fr l (gD.1 hl).1 hf0
 have zM:w1.heap[l]? =some (.loop rec):=hl1'.trans hl
 have hlt1:=(gD.1 zM).1
 refine⟨_,run_beginRound zM yf,?_⟩
 have hmid:RS ⟨B,w1.putObj l (.loop (Dt rec)),g.F,rec.tmps.size,hp1,g1,[]⟩ CZ hp1 a1 (w1.putObj l (.loop (Dt rec))):=
  ⟨g1,NF.putO zM rfl rfl,fun t d ht=>(htm1 t d ht).putO zM rfl rfl,hsz1,hdf1,Below.refl _ _,Fz,bO.refl _ _ _⟩
 refine wpIn_mono (hbo ⟨B,w1.putObj l (.loop (Dt rec)),g.F,rec.tmps.size,hp1,g1,[]⟩ rfl rfl rfl _ _ hmid) ?_
 rintro ex a2 w2 ⟨tm,bK,⟨g2,Iq,_,_,_,hB2,hF2,hM2⟩,hq⟩
 obtain⟨hl2',_,hf2⟩:=hM2.fr l (by simpa using hlt1) Kf
 have wd:w2.heap[l]? =some (.loop (Dt rec)):=hl2'.trans (World.putObj_heap_same hlt1)
 have hlt2:=(gD.1 wd).1
 have hbl:Below B w1 w2:=⟨hB2.os,hB2.tape,hB2.output,by simpa using hB2.size,fun k hk=>(hB2.block k hk).trans (World.putObj_heap_other (by omega))⟩
 have uX:v7 B hp g W bK g2 (w2.putObj l (.loop rec)):=⟨Iq.putO wd rfl rfl,hM1.trans (hM2.patch zM rfl rfl Kf),sJ (hB1.trans hbl) hB,hF2⟩
 cases ex with
 |normal=>
  refine⟨_,_,run_endRound none wd,.inl ⟨rfl,bK,g2,?_,hq⟩⟩
  have:({(Dt rec) with state:=if (none:Option Code).isNone then .ready else .done,pending:=none}:Loop)=rec:=by
   obtain⟨s,q,f1,f2,f3,f4,f5,f6⟩:=rec
   dsimp only at yf hpe
   subst yf;subst hpe
   rfl
  rw[this];exact uX
 |ret=>
  refine⟨_,_,run_endRound (some .ret) wd,.inr ⟨rfl,bK,g2,w2.putObj l (.loop rec),?_,World.putObj_heap_same hlt2,uX,hq⟩⟩
  show w2.putObj l _=(w2.putObj l _).putObj l _
  unfold World.putObj
  dsimp only
  congr 1
  simp[qo,Dt]
 |_=>exact hq.elim
end
section
variable {P:Program} {tb:TypeId→Option TyE} {x:Cx} {tm CZ:List (Nat×D)} {hp hp1:Hp} {Q:Exit→Act→World→Prop}
theorem AV.yield {id:Nat}{ops:Array Oper}{tc ty ta tn:Tmp}{ts:Array TypeId}{ty1 ty2 ty3:TypeId}{p1 p2:String}{a1 a2:Array Edge}{l:Nat}{rec:Loop}{hpE:Hp}{gE:Gh}{wE:World}(m:Nat)
  (NK:ops.toList=ops.toList.take m++[⟨some tc,.call ⟨.value (.tmp ty),#[.tmp ta],ts⟩,ty1,p1,a1,none⟩,⟨some tn,.unOp .not ty2 (.tmp tc),ty3,p2,a2,none⟩]) (hN:jC x.N ops=true) (wb:sw ops=true)
  (hx:x.hp0=hpE∧x.g0=gE∧x.w0=wE∧∀p:Addr,p.block<x.B→gE.F p→x.F0 p)
  (h1:∀K:List (Nat×D)→Hp→Prop,(∀CZ hp1 d Y S,CZ.lookup ty=some (.e (.lit (.func (.yield l) #[] #[])))→CZ.lookup ta=some d→YOk P x.B l rec hpE gE wE hp1 d Y S→
    (∀bK a w,Y bK→RS x ((tn,.e (.lit (.bool false)))::(tc,.e (.lit (.bool true)))::CZ) bK a w→Q .normal a w)→
    (∀bK g2 W' a,S bK→W'.heap[l]? =some (.loop rec)→v7 x.B hpE gE wE bK g2 W'→a.defers=x.df→Q .ret a (W'.putObj l (.loop (qo rec))))→K CZ hp1)→bC P tb .seq ops K (ops.toList.take m) tm hp):
  AV P none x (.seq (.region id ops false) (.cond (.tmp tn) .ret .skip)) tm hp Q:=by
 generalize ops.toList.take m=pre at NK h1
 intro a w hr
 refine wpIn_seq (wpIn_region ?_)
 have hlen:ops.size=pre.length+2:=by rw[←ej,NK];simp
 have CE:ops[pre.length]? =some ⟨some tc,.call ⟨.value (.tmp ty),#[.tmp ta],ts⟩,ty1,p1,a1,none⟩:=by
  rw[←vT,NK,tW (aL _)];simp
 have Ix:ops[pre.length+1]? =some ⟨some tn,.unOp .not ty2 (.tmp tc),ty3,p2,a2,none⟩:=by
  rw[←vT,NK,tW (by omega),show pre.length+1 - pre.length=1 by omega];rfl
 have Kg:tc<x.N:=jW hN CE rfl
 have ni:tn<x.N:=jW hN Ix rfl
 rw[hlen,LU,show List.range' 0 (pre.length+2)=List.range' 0 pre.length++[pre.length,pre.length+1] from by
  rw[←List.range'_append_1];simp[List.range']]
 refine Ae (K:=fun CZ hp1=>∃d Y S,CZ.lookup ty=some (.e (.lit (.func (.yield l) #[] #[])))∧CZ.lookup ta=some d∧YOk P x.B l rec hpE gE wE hp1 d Y S∧
   (∀bK a w,Y bK→RS x ((tn,.e (.lit (.bool false)))::(tc,.e (.lit (.bool true)))::CZ) bK a w→Q .normal a w)∧
   (∀bK g2 W' a,S bK→W'.heap[l]? =some (.loop rec)→v7 x.B hpE gE wE bK g2 W'→a.defers=x.df→Q .ret a (W'.putObj l (.loop (qo rec))))) hN wb _ _ ?_ pre 0 tm hp a w (by rw[qA];exact NK) (h1 _ fun CZ hp1 d Y S q1 q2 q3 q4 q5=>⟨d,Y,S,q1,q2,q3,q4,q5⟩) hr
 rintro CZ hp1 a w ⟨d,Y,S,hy,ha,hY,ht,hf⟩ ⟨g,hh,g8,hsz,ry,hB,hF,hM⟩
 -- the round
 unfold wpOpsIn
 rw[CE]
 dsimp only
 rw[show Region.wanted (⟨some tc,.call ⟨.value (.tmp ty),#[.tmp ta],ts⟩,ty1,p1,a1,none⟩:Oper) (yielded ops a.tmps)=true from rfl,ay rfl]
 have hye:a.eval (.tmp ty)=.func (.yield l) #[] #[]:=by
  have:=g8 ty _ hy
  exact this.lit
 obtain⟨rfl,rfl,rfl,LH⟩:=hx
 obtain⟨fn,tmps,assign,body,bP,hR⟩:=hY g w (a.eval (.tmp ta)) ⟨hh,hM,hB,fun p hp hq=>hF p hp (LH p hp hq)⟩ (g8 ta d ha)
 refine⟨fun _ _=>trivial,?_⟩
 rw[Oper.semAt_eq _ _ _ (by intro c h;cases h),F6 hye bP]
 refine⟨fun h=>(by cases h),?_⟩
 have hR2:RoundIn (FWd none) 0 P l fn tmps assign body w _:=hR
 refine hR2.mono ?_
 intro e w' hq
 have NN:∀(b:Bool) (Q':Exit→Act→World→Prop),(∀aa,aa=(a.put (some tc) (.bool b)).put (some tn) (.bool (!b))→Q' .normal aa w')→wpOpsIn (FWd none) 0 P ops Q' [pre.length+1] (a.put (some tc) (.bool b)) w':=by
  intro b Q' hq
  unfold wpOpsIn
  rw[Ix]
  dsimp only
  rw[show Region.wanted (⟨some tn,.unOp .not ty2 (.tmp tc),ty3,p2,a2,none⟩:Oper) (yielded ops (a.put (some tc) (.bool b)).tmps)=true from rfl,ay rfl]
  refine⟨fun _ _=>trivial,?_⟩
  rw[Oper.semAt_eq _ _ _ (by intro c h;cases h)]
  have he:(a.put (some tc) (.bool b)).eval (.tmp tc)=.bool b:=ww (by rw[hsz];exact Kg)
  have hrun2:(execOp (a.put (some tc) (.bool b)).eval ⟨some tn,.unOp .not ty2 (.tmp tc),ty3,p2,a2,none⟩).run P w'=.ok (.value (.bool (!b))) w':=by
   have bI:tc<a.tmps.size:=by rw[hsz];exact Kg
   simp[execOp,bI,Op.unary,go_sem]
  rw[hrun2]
  show wpOpsIn (FWd none) 0 P ops Q' [] _ w'
  unfold wpOpsIn
  exact hq _ rfl
 have zh:∀b:Bool,((a.put (some tc) (.bool b)).put (some tn) (.bool (!b))).eval (.tmp tn)=.bool (!b):=fun b=>ww (by rw[qj,hsz];exact ni)
 rcases hq with⟨rfl,bK,g2,hc,hq⟩|⟨rfl,bK,g2,W',rfl,hl,hc,hq⟩
 ·refine NN true _ ?_
  rintro aa rfl
  refine wpIn_cond_false (zh true) (wpIn_skip (ht bK _ _ hq ?_))
  refine⟨g2,hc.hr,zZ (dst:=some tn) (d:=.e (.lit (.bool false))) (v:=.bool (!true)) (zZ (dst:=some tc) (d:=.e (.lit (.bool true))) (v:=.bool true) (fun t d ht=>(g8 t d ht).mono hc.mo) (.e _ _ (.lit (.bool true) rfl)) ?_) (.e _ _ (.lit (.bool false) rfl)) ?_,by rw[qj,qj,hsz],by rw[mN,mN,ry],hB.trans hc.bl,fun p h1 h2=>hc.fo p h1 (hF p h1 h2),hM.trans hc.mo⟩
  ·intro t e;cases e;rw[hsz];exact Kg
  ·intro t e;cases e;rw[qj,hsz];exact ni
 ·refine NN false _ ?_
  rintro aa rfl
  refine wpIn_cond_true (zh false) (wpIn_ret (hf bK g2 W' _ hq hl ?_ (by rw[mN,mN,ry])))
  exact (v7.mk hh hM hB fun p hp hq=>hF p hp (LH p hp hq)).trans hc
end
end
section
section
variable {P:Program} {tb:TypeId→Option TyE} {x:Cx} {tm CZ:List (Nat×D)} {hp hp1:Hp} {Q:Exit→Act→World→Prop}
def Ea(g:Gh)(ks:List Nat):Array Value:=(ks.map fun k=>Value.pointer (some ⟨g.μ k,0,none⟩)).toArray
def Ju(P:Program)(f:FuncId)(ks:List Nat)(B:Nat)(hp:Hp)(p:Tmp)(N:Nat)(LR bod:Code)(tm:List (Nat×D))(Y S:Hp→Prop):Prop:=
 ∀(g:Gh) (w:World) (l:Nat) (rec:Loop),HR B hp g w→w.heap[l]? =some (.loop rec)→B≤l→rec.state=.ready→rec.pending=none→rec.params=#[p]→rec.assign=LR→rec.body=bod→rec.tmps.size=N→(∀t d,tm.lookup t=some d→aN hp g w d (rec.tmps.getD t undef))→
  Calls P f (#[.func (.yield l) #[] #[]]++Ea g ks) w fun e w'=>∃v,e=.returned v∧∃hp' g' W',v7 B hp g w hp' g' W'∧((w'=W'∧Y hp')∨(w'=W'.putObj l (.loop (qo rec))∧W'.heap[l]? =some (.loop rec)∧S hp'))
structure Fo(x x':Cx)(D:Nat)(hp:Hp)(w:World):Prop where
 B:x'.B=x.B
 F0:x'.F0=x.F0
 N:x'.N=x.N
 df:x'.df={target:=.collected D,args:=#[]}::x.df
 hp0:x'.hp0=hp
 w0:x'.w0=w
 came:bO x.hp0 x.g0 x.w0 hp x'.g0 w
 below:Below x.B x.w0 w
 blk:w.heap[D]? =some (.deferred (some []))
 new:x.w0.heap.size≤D
 hr:HR x.B hp x'.g0 w
theorem AV.range {gop:Operand}{p:Tmp}{assign body:Code}{f:FuncId}{ks:List Nat}{Y S:Hp→Prop}(hg:evD tm gop=.fn f ks)(N9:Jz P f)(hB:x.B≤x.w0.heap.size)
  (hit:Ju P f ks x.B hp p x.N assign body tm Y S)
  (hn:∀x' D hp' a w,Fo x x' D hp' w→RS x' tm hp' a w→Y hp'→Q .normal a w)
  (hs:∀x' D hp' a w,Fo x x' D hp' w→RS x' tm hp' a w→S hp'→Q .ret a w):AV P none x (.rangeFunc gop #[p] assign body) tm hp Q:=by
 intro a w hr
 obtain⟨g,hh,g8,hsz,ry,hBl,hF,hM⟩:=id hr
 have hgv:=wW g8 gop
 rw[hg] at hgv
 have hgv:a.eval gop=.func (.func f) #[] (Ea g ks):=by
  generalize a.eval gop=v at hgv
  cases hgv with
  |fn _ _ _=>rfl
 refine wpIn_rangeFunc ?_
 intro fn _
 obtain⟨rec,zL⟩:∃rec:Loop,rec={state:=.ready,pending:=none,fn,tmps:=a.tmps,params:=#[p],assign,body,defers:=w.heap.size}:=⟨_,rfl⟩
 obtain⟨W1,hW1⟩:∃W1,(w.alloc (.deferred (some []))).alloc (.loop rec)=W1:=⟨_,rfl⟩
 have hL1:W1.heap[w.heap.size+1]? =some (.loop rec):=by
  rw[←hW1];have:=World.alloc_heap_new (w.alloc (.deferred (some []))) (.loop rec);rwa[World.size_alloc] at this
 have hK1:W1.heap[w.heap.size]? =some (.deferred (some [])):=by
  rw[←hW1];exact (Below.heap_alloc _ _ _ (by simp)).trans (World.alloc_heap_new w _)
 have hold:∀b,b<w.heap.size→W1.heap[b]? =w.heap[b]? :=fun b hb=>by
  rw[←hW1];exact (Below.heap_alloc _ _ _ (by simp;omega)).trans (Below.heap_alloc _ _ _ hb)
 have hsW:w.heap.size≤W1.heap.size:=by rw[←hW1];simp;omega
 have h1:HR x.B hp g W1:=hh.keep hsW hold
 have m1:bO hp g w hp g W1:=bO.keep hp g hsW hold
 have b1:Below x.B w W1:=by
  rw[←hW1]
  exact ((Below.refl x.B w).alloc hh.base _).alloc (by have:=hh.base;simp;omega) _
 have hD1:Jy hp g w.heap.size:=h1.free hK1 rfl
 refine⟨w.heap.size+1,[{target:=.collected w.heap.size,args:=#[]}],W1,{target:=.fn (.func f) (Ea g ks),args:=#[.func (.yield (w.heap.size+1)) #[] #[]]},W1,f,
  #[.func (.yield (w.heap.size+1)) #[] #[]]++Ea g ks,W1,?_,?_,fun _ _=>trivial,?_,fun h=>(by cases h),?_⟩
 ·rw[←hW1,zL];exact run_enterLoop_outer _ _ _ _ _
 ·simp only[resolve,hgv]
  simp[go_sem]
 ·obtain⟨fn',hf',hn',qr⟩:=N9
  have GJ : fn'.name ≠ "runtime.NumGoroutine" := by simpa using hn'
  have lR:¬fn'.body=none:=fun e=>by rw[e] at qr;cases qr
  simp[invoke,callFunc,hf',GJ,lR,go_sem]
 ·have hc:=hit g W1 (w.heap.size+1) rec h1 hL1 (by have:=hh.base;omega) (by rw[zL]) (by rw[zL]) (by rw[zL]) (by rw[zL]) (by rw[zL]) (by rw[zL];exact hsz) (fun t d ht=>by rw[zL];exact (g8 t d ht).mono m1)
  refine (zo (n:=0) hc).mono ?_
  rintro e w3 ⟨v,rfl,hp',g',W',uX,hq⟩
  obtain⟨yh,_,hfk⟩:=uX.mo.fr w.heap.size (gD.1 hK1).1 hD1
  have hkW:W'.heap[w.heap.size]? =some (.deferred (some [])):=yh.trans hK1
  -- what holds behind,whatever the record says
  have fin:∀(o':Obj),o'.isCells=false→W'.heap[w.heap.size+1]? =some (.loop rec)→
    Fo x ⟨x.B,W'.putObj (w.heap.size+1) o',x.F0,x.N,hp',g',{target:=.collected w.heap.size,args:=#[]}::x.df⟩ w.heap.size hp' (W'.putObj (w.heap.size+1) o')∧
    RS ⟨x.B,W'.putObj (w.heap.size+1) o',x.F0,x.N,hp',g',{target:=.collected w.heap.size,args:=#[]}::x.df⟩ tm hp' {a with defers:=[{target:=.collected w.heap.size,args:=#[]}]++a.defers} (W'.putObj (w.heap.size+1) o'):=by
   intro o' sd hl
   have po:=uX.hr.putO (o':=o') hl rfl sd
   refine⟨⟨rfl,rfl,rfl,rfl,rfl,rfl,?_,?_,?_,?_,po⟩,g',po,fun t d ht=>(((g8 t d ht).mono m1).mono uX.mo).putO hl rfl sd,hsz,by simp[ry],Below.refl _ _,fun p h1 h2=>uX.fo p h1 (hF p h1 h2),bO.refl _ _ _⟩
   ·exact hM.trans ((m1.trans uX.mo).putNew (by omega) hl rfl sd)
   ·exact sJ (hBl.trans (b1.trans uX.bl)) (by have:=hh.base;omega)
   ·exact (World.putObj_heap_other (by omega)).trans hkW
   ·exact hM.size
  have hlW:W'.heap[w.heap.size+1]? =some (.loop rec):=(uX.mo.fr _ (gD.1 hL1).1 (h1.free hL1 rfl)).1.trans hL1
  rcases hq with⟨rfl,hY⟩|⟨rfl,_,hS⟩
  ·have he:=run_endLoop (P:=P) hlW (by rw[zL];simp)
   have hpn:rec.pending=none:=by rw[zL]
   refine⟨none,_,he.trans (congrArg (fun q=>Result.ok q _) hpn),?_⟩
   obtain⟨h5,h6⟩:=fin (.loop {rec with state:=.exhausted}) rfl hlW
   exact hn _ _ hp' _ _ h5 h6 hY
  ·have Lx:(W'.putObj (w.heap.size+1) (.loop (qo rec))).heap[w.heap.size+1]? =some (.loop (qo rec)):=World.putObj_heap_same (gD.1 hlW).1
   have he:=run_endLoop (P:=P) Lx (by simp[qo])
   refine⟨some .ret,_,he,?_⟩
   obtain⟨h5,h6⟩:=fin (.loop {(qo rec) with state:=.exhausted}) rfl hlW
   have hw:(W'.putObj (w.heap.size+1) (.loop (qo rec))).putObj (w.heap.size+1) (.loop {(qo rec) with state:=.exhausted})=W'.putObj (w.heap.size+1) (.loop {(qo rec) with state:=.exhausted}):=by
    unfold World.putObj
    dsimp only
    congr 1
    simp
   rw[hw]
   exact wpIn_ret (hs _ _ hp' _ _ h5 h6 hS)
theorem EL {B:Nat}{w:World}{F:Addr→Prop}{N:Nat}{g:Gh}{ds:List D}{vs:Array Value}(hr:HR B hp g w)(hF:∀p:Addr,p.block<B→F p→g.F p)(hN:ds.length≤N)(hsz:vs.size=ds.length)(uj:∀(j:Nat) (d:D) (u:Value),ds[j]? =some d→vs[j]? =some u→aN hp g w d u):
  RS ⟨B,w,F,N,hp,g,[]⟩ (eg 0 ds) hp {tmps:=vs++Array.replicate (N - vs.size) undef,defers:=[]} w:=by
 refine⟨g,hr,fun t d ht=>?_,by simp;omega,rfl,Below.refl _ _,hF,bO.refl _ _ _⟩
 obtain⟨_,h2⟩:=nU ht
 have bI:t<ds.length:=by
  rw[BG] at h2
  rcases ck t ds.length with hh|hh
  ·exact hh
  ·rw[kw hh] at h2;cases h2
 have hv:vs[t]? =some vs[t]:=ml (by omega)
 have:=uj t d vs[t] (by simpa using h2) hv
 have he:(vs++Array.replicate (N - vs.size) undef).getD t undef=vs[t]:=by
  rw[cP,yC (by omega),hv];rfl
 rw[he]
 exact this
def L1(x:Cx)(G:Cx→List (Nat×D)→Hp→Prop)(ex:Exit)(a:Act)(w:World):Prop:=
 (ex=.normal∨ex=.ret)∧∃x' D hp1 w1 tm bK,Fo x x' D hp1 w1∧RS x' tm bK a w∧G {x with df:=x'.df} tm bK
theorem L1.leaves {fn:Func}{R:Ending→World→Prop}{G:Cx→List (Nat×D)→Hp→Prop}{ex:Exit}{a:Act}{w:World}(h:L1 x G ex a w)(ry:x.df=[])
  (hk:∀x2 tm bK D w2,x2.B=x.B→x2.w0=x.w0→x2.F0=x.F0→x2.N=x.N→x2.hp0=x.hp0→x2.g0=x.g0→RS x2 tm bK a w→G x2 tm bK→w2=w.putObj D (.deferred none)→w.heap[D]? =some (.deferred (some []))→x.w0.heap.size≤D→∃v,(results fn a.tmps).run P w2=.ok v w2∧R (.returned v) w2):
  bodyPostM (FWd none) 0 P fn R ex a w:=by
 obtain⟨hex,x',D,hp1,w1,tm,bK,hb,hr,hG⟩:=h
 obtain⟨g,hh,g8,hsz,hdf2,hBl,hF,hM⟩:=hr
 rw[hb.hp0,hb.w0] at hM
 rw[hb.B] at hh hBl hF
 rw[hb.w0] at hBl
 have N8:=hb.hr.free hb.blk rfl
 obtain⟨hkD,_,_⟩:=hM.fr D (gD.1 hb.blk).1 N8
 have hkD:w.heap[D]? =some (.deferred (some [])):=hkD.trans hb.blk
 have Iq:RS {x with df:=x'.df} tm bK a w:=⟨g,hh,g8,by rw[hsz,hb.N],hdf2,hb.below.trans hBl,fun p h1 h2=>hF p h1 (by rw[hb.F0];exact h2),hb.came.trans hM⟩
 have fin:LeavesInM (FWd none) 0 P fn a.tmps R a.defers .returning w:=by
  rw[hdf2,hb.df,ry]
  refine⟨by simp,.inl ⟨D,_,rfl,run_takeDeferred hkD,?_⟩⟩
  obtain⟨v,h1,h2⟩:=hk {x with df:=x'.df} tm bK D _ rfl rfl rfl rfl rfl rfl Iq hG rfl hkD hb.new
  exact⟨v,h1,h2⟩
 rcases hex with rfl|rfl <;> exact fin
theorem HC.ofM (tok : TOk P tb) {f : FuncId} {fn : Func} {c : Code} {ds : List D} {hp hp' : Hp} {r : D} {rs : List ResultVar} (hf : P.funcs[f]? = some fn) (hb : fn.body = some c) (rO : (fn.name == "runtime.NumGoroutine") = false) (hN : ds.length ≤ fn.ntmps) (hrs : fn.results.toList = rs)
  (h:∀x:Cx,x.N=fn.ntmps→x.hp0=hp→x.df=[]→eZ hp→x.B≤x.w0.heap.size→AV P none x c (eg 0 ds) hp (L1 x fun x2 tm bK=>∃tm',Wk x2 tm bK tm' hp'∧v4 tb rs tm' hp' r)):HC P f ds hp r hp':=by
 subst hrs
 refine⟨⟨fn,hf,rO,by rw[hb];rfl⟩,fun B g w vs hr hsz uj=>?_⟩
 refine (callsIn_wide (n:=0)).1 (callsIn_of_wp_marks (F:=FWd none) hf hb trivial (wpIn_mono (h ⟨B,w,g.F,fn.ntmps,hp,g,[]⟩ rfl rfl rfl hr.ok hr.base _ _ (EL hr (fun _ _ h=>h) hN hsz uj)) ?_))
 intro ex a w' he
 refine he.leaves rfl ?_
 rintro x2 tm bK D w2 h1 h2 h3 h4 h5 h6 hrs ⟨tm',L5,Ip⟩ rfl hD tf
 obtain⟨g',po,g8,_,_,hB,hF,hM⟩:=L5 a w' hrs
 rw[h1] at po hB hF
 rw[h2] at hB
 rw[h2,h5,h6] at hM
 rw[h3] at hF
 have s5:=hr.base
 obtain⟨v,bP,lT⟩:=sR (x:=⟨B,w,g.F,fn.ntmps,hp,g,[]⟩) (g:=g') tok rfl Ip (po.putO (o':=.deferred none) hD rfl rfl) (fun t d ht=>(g8 t d ht).putO hD rfl rfl)
 have tf:w.heap.size≤D:=tf
 exact⟨v,bP,v,g',rfl,po.putO hD rfl rfl,hM.putNew tf hD rfl rfl,lT,sJ hB (by omega),hF⟩
def RdOk(P:Program)(N:Nat)(p:Tmp)(LR bod:Code)(tm:List (Nat×D))(hp:Hp)(d:D)(Y S:Hp→Prop):Prop:=∀(l:Nat) (x:Cx),x.N=N→x.df=[]→x.hp0=hp→AV P (some l) x LR ((p,d)::tm) hp fun ex a w=>ex=.normal∧∃CZ hp1,RS x CZ hp1 a w∧
 ∀x:Cx,x.N=N→x.df=[]→x.hp0=hp1→AV P (some l) x bod CZ hp1 fun ex a w=>∃tm hp',RS x tm hp' a w∧match ex with| .normal=>Y hp'| .ret=>S hp'|_=>False
theorem Ju.of {f:FuncId}{fn:Func}{c:Code}{ks:List Nat}{B:Nat}{p:Tmp}{N:Nat}{LR bod:Code}{Y S:Hp→Prop}(hf:P.funcs[f]? =some fn)(hb:fn.body=some c)(hN:ks.length+1≤fn.ntmps)(lT:fn.results=#[])(hpN:p<N)(Ly:∀k∈ks,k<hp.next)
  (h:∀(g:Gh) (w:World) (l:Nat) (rec:Loop) (x:Cx),x.B=B→x.hp0=hp→x.g0=g→x.w0=w→x.F0=g.F→x.N=fn.ntmps→x.df=[]→eZ hp→(∀hp1 d Y' S',RdOk P N p LR bod tm hp1 d Y' S'→YOk P B l rec hp g w hp1 d Y' S')→
   AV P none x c (eg 0 (.e (.lit (.func (.yield l) #[] #[]))::ks.map fun k=>.pt k 0)) hp fun ex a w'=>((ex=.normal∨ex=.ret)∧∃tm' hp',RS x tm' hp' a w'∧Y hp')∨
    (ex=.ret∧a.defers=x.df∧∃hp' g' W',w'=W'.putObj l (.loop (qo rec))∧W'.heap[l]? =some (.loop rec)∧v7 B hp g w hp' g' W'∧S hp')):Ju P f ks B hp p N LR bod tm Y S:=by
 intro g w l rec hr hl hBl yf hpe hpar hasg hbod hsz g8
 have hmk:∀hp1 d Y' S',RdOk P N p LR bod tm hp1 d Y' S'→YOk P B l rec hp g w hp1 d Y' S':=by
  intro hp1 d Y' S' hrd
  subst hasg hbod hsz
  exact YOk.of hl hr yf hpe hpar hBl hpN g8 (hrd l)
 have qU:RS ⟨B,w,g.F,fn.ntmps,hp,g,[]⟩ (eg 0 (.e (.lit (.func (.yield l) #[] #[]))::ks.map fun k=>.pt k 0)) hp {tmps:=(#[Value.func (.yield l) #[] #[]]++Ea g ks)++Array.replicate (fn.ntmps - (#[Value.func (.yield l) #[] #[]]++Ea g ks).size) undef,defers:=[]} w:=by
  refine EL hr (fun _ _ h=>h) (by simpa using hN) (by simp[Ea,pi]) fun j d u hd hu=>?_
  cases j with
  |zero=>
   have hu0:(#[Value.func (.yield l) #[] #[]]++Ea g ks)[0]? =some (Value.func (.yield l) #[] #[]):=by rw[yC (by simp)];rfl
   rw[hu0] at hu
   injection hu with hu
   injection hd with hd
   subst hd;subst hu
   exact .e _ _ (.lit _ rfl)
  |succ j=>
   simp only[Jc,de] at hd
   rw[Array.getElem?_append_right (by simp)] at hu
   simp[Ea] at hu
   cases hk:ks[j]? with
   |none=>simp[hk] at hd
   |some k=>
    simp[hk] at hd hu
    subst hd;subst hu
    exact .pt k 0 (Ly k (cc hk))
 have hend:∀(a:Act) (w':World),(results fn a.tmps).run P w'=.ok (.tuple #[]) w':=fun a w'=>by
  unfold results
  rw[lT,Sem.run_bind]
  simp
 refine (callsIn_wide (n:=0)).1 (callsIn_of_wp (F:=FWd none) hf hb trivial (wpIn_mono (h g w l rec ⟨B,w,g.F,fn.ntmps,hp,g,[]⟩ rfl rfl rfl rfl rfl rfl rfl hr.ok hmk _ _ qU) ?_))
 rintro ex a w' (⟨hex,tm',hp',⟨g',h1,_,_,h4,h5,h6,h7⟩,hY⟩|⟨rfl,ry,hp',g',W',h1,h2,h3,hS⟩)
 ·have:bodyPost P fn (fun e w'=>∃v,e=.returned v∧∃hp' g' W',v7 B hp g w hp' g' W'∧((w'=W'∧Y hp')∨(w'=W'.putObj l (.loop (qo rec))∧W'.heap[l]? =some (.loop rec)∧S hp'))) .ret a w':=
   ⟨h4,_,hend a w',_,rfl,hp',g',w',⟨h1,h7,h5,h6⟩,.inl ⟨rfl,hY⟩⟩
  rcases hex with rfl|rfl <;> exact this
 ·exact⟨ry,_,hend a w',_,rfl,hp',g',W',h3,.inr ⟨h1,h2,hS⟩⟩
end
end
section
theorem Pt.one(d:D):Pt [d] 0 [d] id:=Pt.of [] [] rfl rfl fun y=>by simp
section
variable {P:Program} {tb:TypeId→Option TyE} {md:Md} {dst:Option Tmp} {ty2:TypeId} {pos:String} {af:Array Edge} {gd:Option (Nat×Bool)} {ev:Operand→D} {hp:Hp} {x lo hi mx:Operand} {k off z n l h:Nat} {t e:TypeId} {ti j:TyE} {k1 k2 k3:IntKind}
theorem slW3(tok:TOk P tb)(hlh:l<h)(hhn:h≤n)(ht:tb t=some ti)(he:tb e=some j)(A0:ev lo=dI k1 (l:Int))(HH:ev hi=dI k2 (h:Int))(hmx:ev mx=dI k3 (h:Int))(zc:ti.ty=.slice e:=by exact rfl)(hx:ev x=.ow k off z n:=by exact rfl)(hz:z=j.size:=by exact rfl):
  m3 P tb md ⟨dst,.slice t x (some lo) (some hi) (some mx),ty2,pos,af,gd⟩ ev hp (.ow k (off+l*z) z (h - l)) hp:=by
 subst hz
 refine (Snd.calm (dr:=md.dr) fun bK _=>.pure fun B g w a hr wa=>?_).q (by cases md <;> rfl)
 have h1:=wa x (by simp[Op.operands])
 have e1:=wa lo (by simp[Op.operands])
 have e2:=wa hi (by simp[Op.operands])
 have e3:=wa mx (by simp[Op.operands])
 rw[hx] at h1
 rw[A0] at e1
 rw[HH] at e2
 rw[hmx] at e3
 have e1:=e1.lit
 have e2:=e2.lit
 have e3:=e3.lit
 have hs:=tok.run_sizeOf he w
 generalize hv:a.eval x=v at h1
 cases h1 with
 |ow _ _ _ _ c hk oY n7=>
  have hb:(Instr.sliceBounds true n c (some (Value.int k1 (l:Int))) (some (Value.int k2 (h:Int))) (some (Value.int k3 (h:Int)))).run P w=.ok (l,h,h) w:=by
   have q1:h≤c:=by omega
   have q2:l≤h:=by omega
   simp[Instr.sliceBounds,run_sliceBound,q1,q2]
  refine⟨.slice (some ⟨g.μ k,off+l*j.size,none⟩) (h - l) (h - l),?_,.ow _ _ _ _ _ hk (aL _) (by omega)⟩
  have lh:¬h=l:=by omega
  have LE:(⟨g.μ k,off,none⟩:Addr).add (l*j.size)=⟨g.μ k,off+l*j.size,none⟩:=by unfold Addr.add;split <;> simp_all
  simp[execOp,Instr.sliceAt,Instr.slice,hv,e1,e2,e3,run_underlying (tok.slice ht zc),hb,hs,lh,LE]
end
section
variable {ops:Array Oper} {K:List (Nat×D)→Hp→Prop} {os:List Oper} {tm:List (Nat×D)} {hp hp':Hp} {t:Tmp} {op:Op} {ty:TypeId} {pos:String} {af:Array Edge} {d:D}
theorem q1s(h:n9 prog ⟨some t,op,ty,pos,af,none⟩ (evD tm) hp d hp')(h2:bC prog tbl .seq ops K os ((t,d)::tm) hp'):bC prog tbl .seq ops K (⟨some t,op,ty,pos,af,none⟩::os) tm hp:=.sq rfl d hp' rfl h h2
end
section
variable {x:Cx} {Q:Exit→Act→World→Prop} {tm:List (Nat×D)} {hp:Hp}
theorem vrs {n id:Nat}{l:List Oper}{b:Code}(hx:x.N=n)(h:∀K:List (Nat×D)→Hp→Prop,(∀tm hp,AV prog none x b tm hp Q→K tm hp)→bC prog tbl .seq l.toArray K l tm hp)(hN:jC n l.toArray=true:=by kernel_rfl):AV prog none x (.seq (.region id l.toArray false) b) tm hp Q:=
 AV.seqA (rq hx (fun K hK=>h K fun tm hp hh=>hK _ _ hh) hN)
theorem vrsd {n id:Nat}{l:List Oper}{b:Code}(L:List FuncId)(hx:x.N=n)(h:∀K:List (Nat×D)→Hp→Prop,(∀tm hp,AV prog none x b tm hp Q→K tm hp)→bC prog tbl (.any L) l.toArray K l tm hp)(hN:jC n l.toArray=true:=by kernel_rfl)(pz:uP tbl L l.toArray=true:=by kernel_rfl):AV prog none x (.seq (.region id l.toArray true) b) tm hp Q:=
 AV.seqA (rqd L hx (fun K hK=>h K fun tm hp hh=>hK _ _ hh) hN pz)
theorem vrq {n id:Nat}{l:List Oper}(hx:x.N=n)(h:∀K:List (Nat×D)→Hp→Prop,(∀tm hp,(∀a w,RS x tm hp a w→Q .normal a w)→K tm hp)→bC prog tbl .seq l.toArray K l tm hp)(hN:jC n l.toArray=true:=by kernel_rfl):AV prog none x (.region id l.toArray false) tm hp Q:=
 AV.aw (Q':=fun ex tm' hp'=>ex=.normal∧∀a w,RS x tm' hp' a w→Q .normal a w) (rq hx (fun K hK=>h K fun tm hp hh=>hK _ _ ⟨rfl,hh⟩) hN) fun ex tm' hp' a w h1 hr=>by obtain⟨rfl,h1⟩:=h1;exact h1 a w hr
theorem vrr {n id:Nat}{ro:Option Nat}{l:List Oper}(hx:x.N=n)(h:∀K:List (Nat×D)→Hp→Prop,(∀tm hp,(∀a w,RS x tm hp a w→Q .normal a w)→K tm hp)→bC prog tbl .seq l.toArray K l tm hp)(hN:jC n l.toArray=true:=by kernel_rfl)(wb:sw l.toArray=true:=by kernel_rfl):AV prog ro x (.region id l.toArray false) tm hp Q:=
 AV.region (tb:=tbl) (by rw[hx];exact hN) wb h
theorem vrrs {n id:Nat}{ro:Option Nat}{l:List Oper}{b:Code}(hx:x.N=n)(h:∀K:List (Nat×D)→Hp→Prop,(∀tm hp,AV prog ro x b tm hp Q→K tm hp)→bC prog tbl .seq l.toArray K l tm hp)(hN:jC n l.toArray=true:=by kernel_rfl)(wb:sw l.toArray=true:=by kernel_rfl):AV prog ro x (.seq (.region id l.toArray false) b) tm hp Q:=
 AV.seq (vrr hx (fun K hK=>h K fun tm hp hh=>hK _ _ fun a w hr=>hh a w hr) hN wb)
end
section
variable {vs:List (Nat×List D)} {lv:List (Nat×Nat×Nat×TypeId)} {N C R kM:Nat}
def gN(kM n:Nat):D:=if n=0 then dL a7 [] else .ow kM 0 36 n
theorem h_Chunk {dV:D}(hC:1≤C)(hC2:C≤1000000)(hV:dV.idsC N=true)(zi:D.cells dV=some [dV]):
  HC prog 139 [dV,dI .i64 C] ⟨vs,lv,N⟩ (.fn 174 [N,N+1]) ⟨(N+1,[dI .i64 C])::(N,[dV])::vs,lv,N+1+1⟩:=by
 refine HC.of (rs:=[.tmp 4]) tok func139 rfl rfl (bg rfl) rfl (fun cx hx h0 hok=>?_)
 simp only[eg,Nat.reduceAdd,bq]
 have NM:eZ ⟨(N,[dV])::vs,lv,N+1⟩:=hok.cons (dJ _) (cr _) (by simpa using D.idsC_le (dJ N) hV)
 have yg:eZ ⟨(N+1,[dI .i64 C])::(N,[dV])::vs,lv,N+1+1⟩:=NM.cons (dJ _) (cr _) rfl
 refine rs hx fun K hK=>?_
 refine s1 (d:=.pt N 0) (iN (cs:=[dV]) (show D.cells (evD [(0,dV),(1,dI .i64 C)] (.tmp 0))=_ from zi)) ?_
 refine s1 (d:=.pt (N+1) 0) (iN (cs:=[dI .i64 C]) rfl) ?_
 refine sa ?_
 refine .nil (hK _ _ (AW.seq (rs hx fun K hK=>?_)))
 refine c1 (Pt.one _) ?_
 refine sa ?_
 refine .nil (hK _ _ (AW.condF rfl (def_) (AW.skip (rs hx fun K hK=>?_))))
 refine s1 (d:=.fn 174 [N,N+1]) va ?_
 refine sa ?_
 exact .nil (hK _ _ (AW.ret (⟨[(4,.fn 174 [N,N+1])],wkS (by rw[h0];show N≤N+1+1;omega) (aL _) yg (fun j ds h=>h) (oK.cons oK.nil rfl (by simp[D.idsB,D.idsC];omega)),⟨_,ai,rfl⟩⟩)))
end
theorem Wk.tmS {x:Cx}{tm tm':List (Nat×D)}{hp:Hp}(h:∀t d,tm'.lookup t=some d→tm.lookup t=some d):Wk x tm hp tm' hp:=by
 rintro a w ⟨g,h1,h2,h3,h4,h5,h6,h7⟩
 exact⟨g,h1,fun t d ht=>h2 t d (h t d ht),h3,h4,h5,h6,h7⟩
theorem Lb {tm:List (Nat×D)}:∀t d,([]:List (Nat×D)).lookup t=some d→tm.lookup t=some d:=fun t d h=>by simp at h
theorem tin {tm tm':List (Nat×D)}{t:Nat}{d:D}(h2:∀t d,tm'.lookup t=some d→tm.lookup t=some d)(h:tm.lookup t=some d:=by exact rfl):∀t' d',((t,d)::tm').lookup t'=some d'→tm.lookup t'=some d':=fun t' d' ht=>by
 by_cases e:t'=t
 ·subst e
  have:some d=some d':=by rw[←ht];exact ai.symm
  rw[h,this]
 ·exact h2 t' d' (by rw[←ht];exact (ar e).symm)
theorem lenM {dr:Bool}{ty:TypeId}{ev:Operand→D}{hp:Hp}{kM n:Nat}{x:Operand}(hx:ev x=gN kM n):AVC prog tbl dr (.call ⟨.builtin .len,#[x],#[22]⟩) ty ev hp (Kq (dI .i64 (n:Nat)) hp):=by
 by_cases h:n=0
 ·subst h
  have hx:ev x=dL a7 []:=hx
  exact T_len (n:=0) (xs:=[]) aP aD rfl (by rw[hx];rfl)
 ·have hx:ev x=.ow kM 0 36 n:=by rw[hx];exact aA h
  exact yL aP aD rfl hx
section
variable {hpE:Hp} {I:Nat→Hp→Prop} {ks kn kM R C B:Nat} {p:Tmp} {Nt:Nat} {LR bod:Code} {tm0:List (Nat×D)}
theorem No(hC:1≤C)(Kh:R*C≤1000000)(hC2:C≤1000000)(Ly:ks<hpE.next)(wN:kn<hpE.next)(hpN:p<Nt)(h0:I 0 hpE)
  (hI:∀q hp,I q hp→hp.vars.lookup ks=some [gN kM (R*C)]∧hp.vars.lookup kn=some [dI .i64 C]∧ks<hp.next∧kn<hp.next)
  (hrd:∀q hp,q<R→I q hp→RdOk prog Nt p LR bod tm0 hp (.ow kM (q*C*36) 36 C) (I (q+1)) (fun _=>False)):
  Ju prog 174 [ks,kn] B hpE p Nt LR bod tm0 (I R) (fun _=>False):=by
 refine Ju.of func174 rfl (bg rfl) rfl hpN (by simp[Ly,wN]) (fun g w l rec x hB xp hg0 hw0 LH hN ry hok hmk=>?_)
 simp only[cD,dT,eg,Nat.reduceAdd,bq]
 refine vrs hN fun K hK=>?_
 refine sa ?_
 refine .nil (hK _ _ (AV.block ?_))
 refine AV.loop (fun n tm hp=>∃q:Nat,q≤R∧n=R - q∧I q hp∧tm=[(0,.e (.lit (.func (.yield l) #[] #[]))),(1,.pt ks 0),(2,.pt kn 0),(4,dI .i64 (q*C:Nat))]) (tm0:=[(0,.e (.lit (.func (.yield l) #[] #[]))),(1,.pt ks 0),(2,.pt kn 0),(4,dI .i64 (0*C:Nat))]) (hp0:=hpE) (n:=R) ?_ ⟨0,dU _,rfl,h0,rfl⟩ ?_
 ·rw[fe]
  exact Wk.tmS (tin (tin (tin (tin Lb))))
 ·rintro n tm hp ⟨q,hq,rfl,hIq,rfl⟩
  obtain⟨e1,e2,hk1,yh⟩:=hI q hp hIq
  have hqC:q*C≤R*C:=ci C hq
  refine AV.seqA ?_
  refine rs hN fun K hK=>?_
  refine sa ?_
  refine c1 (Pt.one _) ?_
  refine s1 (d:=dI .i64 (R*C:Nat)) (lenM rfl) ?_
  refine sa ?_
  refine .nil (hK _ _ (AW.condS rfl (fun hb=>?_) (fun hb=>?_)))
  ·have bI:q<R:=by
    have:=pO hb
    rcases ck q R with h|h
    ·exact h
    ·have:R*C≤q*C:=ci C h
     omega
   have hq1:(q+1)*C≤R*C:=ci C bI
   rw[bk,dh] at hq1
   have hm:gN kM (R*C)=.ow kM 0 36 (R*C):=ifn_
   rw[hm] at e1
   refine AW.skip (AV.seq (AV.block ?_))
   refine vrsd [] hN fun K hK=>?_
   refine c1 (Pt.one _) ?_
   refine c1 (Pt.one _) ?_
   refine sa ?_
   refine q1 (slW (l:=((q*C:Nat):Int)) (h:=((R*C:Nat):Int)) tok ⟨by omega,by omega,by omega,by omega⟩ aP aD ⟨.i64,rfl⟩ rfl) ?_
   refine s1 (yL aP aD) ?_
   iterate 2 refine sa ?_
   refine .nil (hK _ _ ?_)
   rw[show min (C:Int) ((((R*C:Nat):Int) - ((q*C:Nat):Int)).toNat:Int)=(C:Int) by omega]
   refine AV.yield (tb:=tbl) (x:=x) (l:=l) (rec:=rec) (hpE:=hpE) (gE:=g) (wE:=w) 10 rfl (by rw[hN];kernel_rfl) (by kernel_rfl) ⟨xp,hg0,hw0,fun p _ hp=>by rw[LH];exact hp⟩ (fun K hK=>?_)
   refine sa ?_
   refine c1 (Pt.one _) ?_
   iterate 7 refine sa ?_
   rw[qO (show -9223372036854775808≤((q*C:Nat):Int)+(C:Int) by omega) (by omega)]
   refine q1 (slW3 (l:=q*C) (h:=q*C+C) tok (by omega) (by omega) aP aD rfl rfl rfl) ?_
   rw[show q*C+C - q*C=C by omega,bq]
   refine .nil (hK _ _ _ (I (q+1)) (fun _=>False) rfl rfl (by rw[hB];exact hmk _ _ _ _ (hrd q hp bI hIq)) ?_ ?_)
   ·intro bK a w hI2 hr
    obtain⟨e3,e4,hk3,hk4⟩:=hI (q+1) bK hI2
    show Code.wpIn (FWd none) 0 prog _ _ a w
    refine (vrq hN fun K hK=>?_) a w hr
    refine sa ?_
    refine c1 (Pt.one _) ?_
    iterate 2 refine sa ?_
    rw[qO (show -9223372036854775808≤((q*C:Nat):Int)+(C:Int) by omega) (by omega)]
    refine .nil (hK _ _ ?_)
    intro a w hr
    refine⟨R - (q+1),_,bK,by omega,?_,q+1,bI,rfl,hI2,rfl⟩
    have hc:((q*C:Nat):Int)+(C:Int)=(((q+1)*C:Nat):Int):=by rw[bk,dh];omega
    rw[hc] at hr
    exact Wk.tmS (tin (tin (tin (tin Lb)))) a w hr
   ·rintro bK g2 W' a hS
    exact hS.elim
  ·refine AW.exit ?_
   intro a w hr
   have hqR:q=R:=by
    have:=pC hb
    rcases ck q R with h|h
    ·have:(q+1)*C≤R*C:=ci C h
     rw[bk,dh] at this
     omega
    ·omega
   subst hqR
   exact .inl ⟨.inl rfl,_,_,hr,hIq⟩
end
end
section
def iT(kM C n:Nat):List D:=(List.range n).map fun i=>.ow kM (i*C*36) 36 C
theorem vk(kM C n:Nat):iT kM C (n+1)=iT kM C n++[.ow kM (n*C*36) 36 C]:=by
 unfold iT;rw[u7,nd];rfl
theorem C4(kM C n:Nat):(iT kM C n).length=n:=by unfold iT;simp
theorem rF {kM C n N:Nat}(h:kM<N):(iT kM C n).all (D.idsC N)=true:=by
 unfold iT
 rw[bV]
 intro d hd
 obtain⟨i,_,rfl⟩:=nW.1 hd
 exact cV h
def wu(k n:Nat):D:=if n=0 then .e (.lit (.slice none 0 0)) else .gw k 1 n
theorem Dq {l:List (Nat×List D)}{k j:Nat}(h:j≠k):(l.filter fun p=>!([k]:List Nat).contains p.1).lookup j=l.lookup j:=by
 induction l with
 |nil=>rfl
 |cons p l ih=>
  obtain⟨a,b⟩:=p
  by_cases e:a=k
  ·subst e
   rw[List.filter_cons_of_neg (by simp),ih,ar h]
  ·rw[List.filter_cons_of_pos (by simpa using e)]
   by_cases e2:j=a
   ·subst e2;rw[ai,ai]
   ·rw[ar e2,ar e2,ih]
def pI(k n:Nat):D:=if n=0 then .e (.sl 1 0 []) else .gw k 1 n
def qR(k kM C n:Nat)(vs:List (Nat×List D)):List (Nat×List D):=if n=0 then vs else (k,iT kM C n)::vs
section
variable {vs:List (Nat×List D)} {lv:List (Nat×Nat×Nat×TypeId)} {N C R kM ks kn:Nat}
def AsI(vs:List (Nat×List D))(lv:List (Nat×Nat×Nat×TypeId))(N kM C q:Nat)(hp:Hp):Prop:=
 ∃V N1 kR,hp=⟨V,lv,N1⟩∧eZ hp∧N+2≤N1∧V.lookup N=some [wu kR q]∧(∀j ds,vs.lookup j=some ds→V.lookup j=some ds)∧(0<q→N+2≤kR∧kR<N1∧V.lookup kR=some (iT kM C q))
theorem GR(hC:1≤C)(Kh:R*C≤1000000)(hC2:C≤1000000)(hs:vs.lookup ks=some [gN kM (R*C)])(hn:vs.lookup kn=some [dI .i64 C])(hkM:kM<N)(wM:∀k ds,vs.lookup k=some ds→ds.all D.noO=true):
  HC prog 173 [.e (.lit (.slice none 0 0)),.fn 174 [ks,kn]] ⟨vs,lv,N⟩ (pI N R) ⟨qR N kM C R vs,lv,N+1⟩:=by
 refine HC.ofM (rs:=[.tmp 4]) tok func173 rfl rfl (bg rfl) rfl (fun x hN h0 ry hok hB=>?_)
 simp only[eg,Nat.reduceAdd,bq]
 have Ly:=hok.lt hs
 have wN:=hok.lt hn
 refine vrs hN fun K hK=>?_
 refine s1 (d:=.pt N 0) (iN (cs:=[.e (.lit (.slice none 0 0))]) rfl) ?_
 refine s1 (d:=.own (N+1) 1 0 []) (ep mp aP) ?_
 refine .nil (hK _ _ (AV.seq ?_))
 refine vrs hN fun K hK=>?_
 refine sa ?_
 refine .nil (hK _ _ (AV.block ?_))
 have NM:eZ ⟨(N,[.e (.lit (.slice none 0 0))])::vs,(N+1,0,1,22)::lv,N+2⟩:=by
  refine⟨fun j es hj=>?_,fun id e hi=>?_⟩
  ·rcases dH hj with⟨e1,rfl⟩|⟨_,hj⟩
   ·exact⟨by rw[e1];show N<N+2;omega,rfl⟩
   ·obtain⟨h1,h2⟩:=hok.var j es hj
    exact⟨bW h1 (by show N≤N+2;omega),bV.2 fun d hd=>D.idsC_le (by show N≤N+2;omega) (bV.1 h2 d hd)⟩
  ·by_cases e1:id=N+1
   ·rw[e1];show N+1<N+2;omega
   ·have:=hok.tok id e (by rw[←hi];exact (ar e1).symm)
    have h2:id<N:=this
    show id<N+2;omega
 refine AV.range (f:=174) (ks:=[ks,kn]) (Y:=AsI vs ((N+1,0,1,22)::lv) N kM C R) (S:=fun _=>False) rfl ⟨_,func174,rfl,rfl⟩ hB
  (No (kM:=kM) (I:=AsI vs ((N+1,0,1,22)::lv) N kM C) hC Kh hC2 (by show ks<N+2;omega) (by show kn<N+2;omega) (by rw[hN];exact bg rfl) ?_ ?_ ?_) ?_ ?_
 ·exact⟨_,_,0,rfl,NM,aL _,ai,fun j ds h=>am (hok.ne h (aL _)) h,fun h=>absurd h (by omega)⟩
 ·rintro q hp ⟨V,N1,kR,rfl,hokV,hN1,e1,uj,hR⟩
  exact⟨uj _ _ hs,uj _ _ hn,by show ks<N1;omega,by show kn<N1;omega⟩
 ·rintro q hp hq ⟨V,N1,kR,rfl,hokV,hN1,e1,uj,hR⟩ l y hy _ _
  refine vrr (hy.trans hN) (fun K hK=>?_)
  refine sa ?_
  refine .nil (hK _ _ fun a w hr=>⟨rfl,_,_,hr,fun y2 AO _ h0y=>AV.block (vrr (AO.trans hN) (fun K hK=>?_))⟩)
  have hkN:N<N1:=by omega
  have qq:([.ow kM (q*C*36) 36 C]:List D).length=1:=rfl
  by_cases hq0:q=0
  ·have hd:wu kR q=.e (.lit (.slice none 0 0)):=by rw[hq0];rfl
   rw[hd] at e1
   refine c1 (Pt.one _) ?_
   refine sa ?_
   have Cy:D.cells (D.ow kM (q*C*36) 36 C)=some [.ow kM (q*C*36) 36 C]:=rfl
   refine q1s (d:=.gw N1 1 1) (hp':=⟨(N1,[D.ow kM (q*C*36) 36 C])::V,(N+1,0,1,22)::lv,N1+1⟩) (J4 (cs:=[.ow kM (q*C*36) 36 C]) tok mp aP Cy rfl) ?_
   refine q1 (d:=.gw (N1+1) 1 1) (hp':=⟨(N1+1,[D.ow kM (q*C*36) 36 C])::(N1,[D.ow kM (q*C*36) 36 C])::V,(N+1,0,1,22)::lv,N1+1+1⟩) (appN (ky:=N1) (news:=[.ow kM (q*C*36) 36 C]) tok mp aP ai rfl rfl rfl (by decide)) ?_
   refine v1 (k:=N) (F:=[wu kR q]) (ys:=[.gw (N1+1) 1 1]) (Pt.one _) rfl rfl rfl ?_ rfl (am (show N≠N1+1 by omega) (am (show N≠N1 by omega) (by rw[hd];exact e1)))
   refine .nil (hK _ _ ?_)
   intro a w hr
   refine⟨_,_,hr,?_⟩
   refine⟨_,_,N1+1,rfl,?_,by omega,?_,fun j ds hj=>?_,fun _=>⟨by omega,by omega,?_⟩⟩
   ·exact ((hokV.cons (M:=N1+1+1) (by omega) (show N1<N1+1+1 by omega) (by simp[D.idsC];omega)).consM (show N1+1<N1+1+1 by omega) (by simp[D.idsC];omega)).consM (show N<N1+1+1 by omega) (by simp[D.idsC])
   ·rw[show wu (N1+1) (q+1)=.gw (N1+1) 1 1 by rw[hq0];rfl];exact ai
   ·have h1:=hok.lt hj
    exact am (by omega) (am (by omega) (am (by omega) (uj j ds hj)))
   ·rw[vk,show iT kM C q=[] by rw[hq0];rfl]
    exact am (by omega) ai
  ·have hqp:0<q:=by omega
   obtain⟨k1,k2,k3⟩:=hR hqp
   have hd:wu kR q=.gw kR 1 q:=aA hq0
   rw[hd] at e1
   have Cy:D.cells (D.ow kM (q*C*36) 36 C)=some [.ow kM (q*C*36) 36 C]:=rfl
   refine c1 (Pt.one _) ?_
   refine sa ?_
   refine q1s (d:=.gw N1 1 1) (hp':=⟨(N1,[D.ow kM (q*C*36) 36 C])::V,(N+1,0,1,22)::lv,N1+1⟩) (J4 (cs:=[.ow kM (q*C*36) 36 C]) tok mp aP Cy rfl) ?_
   refine q1s (d:=.gw (N1+1) 1 (q+1)) (hp':=⟨(N1+1,iT kM C q++[D.ow kM (q*C*36) 36 C])::((N1,[D.ow kM (q*C*36) 36 C])::V).filter (fun p=>!([kR]:List Nat).contains p.1),(N+1,0,1,22)::lv,N1+1+1⟩) (appR_ok (k:=kR) (n:=q) (ky:=N1) (ds:=iT kM C q) (news:=[.ow kM (q*C*36) 36 C]) tok mp aP (am (show kR≠N1 by omega) k3) ai rfl rfl (by rw[C4];exact (pE q).symm) rfl (by
    have:q*1≤R*C:=pY (kQ hq) hC
    show (q+1)*24≤_;omega)) ?_
   refine v1 (k:=N) (F:=[wu kR q]) (ys:=[.gw (N1+1) 1 (q+1)]) (Pt.one _) rfl rfl rfl ?_ rfl (am (show N≠N1+1 by omega) ((Dq (show N≠kR by omega)).trans (am (show N≠N1 by omega) (by rw[hd];exact e1))))
   refine .nil (hK _ _ ?_)
   intro a w hr
   refine⟨_,_,hr,?_⟩
   have hfil:eZ ⟨((N1,[D.ow kM (q*C*36) 36 C])::V).filter fun p=>!([kR]:List Nat).contains p.1,(N+1,0,1,22)::lv,N1+1+1⟩:=by
    have h1:=hokV.cons (M:=N1+1+1) (by omega) (show N1<N1+1+1 by omega) (show ([D.ow kM (q*C*36) 36 C]).all (D.idsC (N1+1+1))=true by simp[D.idsC];omega)
    exact⟨fun j ds hj=>h1.var j ds (lB hj).2,h1.tok⟩
   refine⟨_,_,N1+1,rfl,?_,by omega,?_,fun j ds hj=>?_,fun _=>⟨by omega,by omega,?_⟩⟩
   ·refine (hfil.consM (show N1+1<N1+1+1 by omega) ?_).consM (show N<N1+1+1 by omega) (by simp[D.idsC])
    rw[←vk]
    exact rF (by omega)
   ·rw[show wu (N1+1) (q+1)=.gw (N1+1) 1 (q+1) from ifn_];exact ai
   ·have h1:=hok.lt hj
    exact am (by omega) (am (by omega) ((Dq (by omega)).trans (am (by omega) (uj j ds hj))))
   ·rw[vk]
    exact am (by omega) ai
 ·rintro x' Db hp' a w hbh hrs ⟨V,N1,kR,rfl,hokV,hN1,e1,uj,hR⟩
  show Code.wpIn (FWd none) 0 prog _ _ a w
  refine (vrs (x:=x') (hbh.N.trans hN) fun K hK=>?_) a w hrs
  have hokL:∀id e,lv.lookup id=some e→id<N:=hok.tok
  by_cases HK:R=0
  ·have hd:wu kR R=.e (.lit (.slice none 0 0)):=by rw[HK];rfl
   rw[hd] at e1
   refine c1 (Pt.one _) ?_
   refine s1 (d:=.own N1 1 0 []) (hp':=⟨V,(N1,0,1,22)::(N+1,0,1,22)::lv,N1+1⟩) (ep mp aP) ?_
   refine .nil (hK _ _ (AV.ret fun a w hr=>⟨.inr rfl,x',Db,_,_,_,_,hbh,hr,[(4,.e (.sl 1 0 []))],?_,⟨_,ai,ay HK⟩⟩))
   unfold qR
   rw[ay HK]
   refine wkS2 (by show x.hp0.next≤_;rw[h0];exact dJ N) (by omega) (hok.up (dJ N)) uj (fun j y hj=>?_) (fun p hp=>?_)
   ·have:=hokL j y hj
    exact (ar (by omega)).trans ((ar (by omega)).trans hj)
   ·rw[Je] at hp
    subst hp
    exact⟨⟨_,ai,.inr rfl⟩,rfl⟩
  ·obtain⟨k1,k2,k3⟩:=hR (by omega)
   have hd:wu kR R=.gw kR 1 R:=aA HK
   rw[hd] at e1
   refine c1 (Pt.one _) ?_
   refine sa ?_
   refine .nil (hK _ _ (AV.ret fun a w hr=>⟨.inr rfl,x',Db,_,_,_,_,hbh,hr,[(4,.gw N 1 R)],?_,?_⟩))
   ·obtain⟨σ,hσ⟩:∃σ:Nat→Nat,σ=fun i=>if i=N then kR else i:=⟨_,rfl⟩
    have s1:σ N=kR:=by rw[hσ];exact ay rfl
    have s2:∀i,i<N→σ i=i:=fun i hi=>by rw[hσ];exact ifn_
    refine Wk.perm σ (by show x.hp0.next≤_;rw[h0];exact dJ N) (fun i hi=>s2 i (by have:i<x.hp0.next:=hi;rw[h0] at this;exact this)) (fun i j hi hj he=>?_) (TmR.cons TmR.nil ?_ ?_) (fun k ds hk=>?_) (fun k y hk=>?_)
    ·rcases ck i N with h1|h1 <;> rcases ck j N with h2|h2
     ·rw[s2 i h1,s2 j h2] at he;exact he
     ·rw[s2 i h1,show j=N by omega,s1] at he;omega
     ·rw[s2 j h2,show i=N by omega,s1] at he;omega
     ·omega
    ·show _=some (D.gw (σ N) 1 R)
     rw[s1];exact rfl
    ·exact cV (cr N)
    ·unfold qR at hk
     rw[aA HK] at hk
     rcases dH hk with⟨e,rfl⟩|⟨e,hk⟩
     ·rw[e]
      refine⟨cr N,?_,rF (by omega),?_⟩
      ·rw[s1,J1 s2 (rF hkM) (by unfold iT;rw[bV];intro d hd;obtain⟨i,_,rfl⟩:=nW.1 hd;rfl)]
       exact k3
      ·unfold iT;rw[bV];intro d hd;obtain⟨i,_,rfl⟩:=nW.1 hd;rfl
     ·have hkN:=hok.lt hk
      have h2:=(hok.var k ds hk).2
      refine⟨by omega,?_,bV.2 fun d hd=>D.idsC_le (dJ N) (bV.1 h2 d hd),wM k ds hk⟩
      rw[s2 k hkN,J1 s2 h2 (wM k ds hk)]
      exact uj k ds hk
    ·have hkN:=hokL k y hk
     refine⟨by omega,?_⟩
     rw[s2 k hkN]
     exact (ar (by omega)).trans hk
   ·exact⟨_,ai,aA HK⟩
 ·rintro x' D hp' a w _ _ hS
  exact hS.elim
end
end
section
section
variable {vs:List (Nat×List D)} {lv:List (Nat×Nat×Nat×TypeId)} {N C R kM ks kn:Nat}
theorem LF(hC:1≤C)(Kh:R*C≤1000000)(hC2:C≤1000000)(hs:vs.lookup ks=some [gN kM (R*C)])(hn:vs.lookup kn=some [dI .i64 C])(hkM:kM<N)(wM:∀k ds,vs.lookup k=some ds→ds.all D.noO=true):
  HC prog 138 [.fn 174 [ks,kn]] ⟨vs,lv,N⟩ (pI (N+1) R) ⟨qR (N+1) kM C R vs,lv,N+1+1⟩:=by
 refine HC.of (rs:=[.tmp 2]) tok func138 rfl rfl (bg rfl) rfl (fun cx hx h0 hok=>?_)
 simp only[eg,Nat.reduceAdd,bq]
 have hap:=GR (lv:=(N,0,1,22)::lv) (N:=N+1) hC Kh hC2 hs hn (by omega) wM
 have hokL:∀id e,lv.lookup id=some e→id<N:=hok.tok
 have hokH:eZ ⟨qR (N+1) kM C R vs,lv,N+1+1⟩:=by
  unfold qR
  split
  ·exact hok.up (by omega)
  ·exact hok.cons (by omega) (by omega) (rF (by omega))
 refine rs hx fun K hK=>?_
 refine s1 (d:=.own N 1 0 []) (hp':=⟨vs,(N,0,1,22)::lv,N+1⟩) (ep mp aP) ?_
 refine .nil (hK _ _ ?_)
 have L5:∀tm,tm.lookup 2=some (pI (N+1) R)→∃tm',Wk cx tm ⟨qR (N+1) kM C R vs,(N,0,1,22)::lv,N+1+1⟩ tm' ⟨qR (N+1) kM C R vs,lv,N+1+1⟩∧v4 tbl [.tmp 2] tm' ⟨qR (N+1) kM C R vs,lv,N+1+1⟩ (pI (N+1) R):=by
  intro tm ht
  refine⟨[(2,pI (N+1) R)],wkS2 (by rw[h0];show N≤_;omega) (aL _) hokH (fun j ds h=>h) (fun j y hj=>(ar (by have:=hokL j y hj;omega)).trans hj) (oK.cons oK.nil ht ?_),⟨_,ai,rfl⟩⟩
  unfold pI
  split
  ·rfl
  ·exact det_
 by_cases HK:R=0
 ·have hq:pI (N+1) R=.e (.sl 1 0 []):=ay HK
  rw[hq] at hap L5 ⊢
  refine rs hx fun K hK=>?_
  refine sa ?_
  refine q1 (sHC hap rfl (.inl (by kernel_rfl))) ?_
  refine sa ?_
  exact .nil (hK _ _ (AW.ret (L5 _ rfl)))
 ·have hq:pI (N+1) R=.gw (N+1) 1 R:=aA HK
  rw[hq] at hap L5 ⊢
  refine rs hx fun K hK=>?_
  refine sa ?_
  refine q1 (sHC hap rfl (.inl (by kernel_rfl))) ?_
  refine sa ?_
  exact .nil (hK _ _ (AW.ret (L5 _ rfl)))
def ly(kM R C:Nat):List D:=[dI .i64 R,dI .i64 C,gN kM (R*C)]
theorem AH {M:Nat}(h:kM<M)(n:Nat):(gN kM n).idsC M=true:=by
 unfold gN
 split
 ·rfl
 ·exact cV h
theorem Ia(kM n:Nat):D.cells (gN kM n)=some [gN kM n]:=by
 unfold gN
 split <;> rfl
theorem h_steps(hkM:kM<N):HC prog 108 [.ag (ly kM R C)] ⟨vs,lv,N⟩ (.fn 137 [N]) ⟨(N,ly kM R C)::vs,lv,N+1⟩:=by
 refine HC.of (rs:=[.tmp 2]) tok func108 rfl rfl (bg rfl) rfl (fun cx hx h0 hok=>?_)
 simp only[eg,Nat.reduceAdd,bq]
 have NM:eZ ⟨(N,ly kM R C)::vs,lv,N+1⟩:=hok.cons (dJ _) (cr _) (by unfold ly;simp only[jZ,gj,eh];simp only[AH (show kM<N+1 by omega),eh];rfl)
 refine rs hx fun K hK=>?_
 refine s1 (d:=.pt N 0) (iN (cs:=ly kM R C) rfl) ?_
 refine sa ?_
 refine .nil (hK _ _ (rs hx fun K hK=>?_))
 refine s1 (d:=.fn 137 [N]) va ?_
 refine sa ?_
 exact .nil (hK _ _ (AW.ret (⟨[(2,.fn 137 [N])],wkS (by rw[h0];show N≤N+1;omega) (aL _) NM (fun j ds h=>h) (oK.cons oK.nil rfl (by simp[D.idsB,D.idsC])),⟨_,ai,rfl⟩⟩)))
end
section
variable {md:Md} {ops:Array Oper} {K:List (Nat×D)→Hp→Prop} {os:List Oper} {tm:List (Nat×D)} {hp:Hp} {t:Tmp} {ty:TypeId} {pos:String} {af:Array Edge} {k i j o n C:Nat} {x y:Operand}
theorem i1r(h:j<C)(h2:bC prog tbl md ops K os ((t,.pt k ((i*C+j)*36))::tm) hp)(hx:evD tm x=.ow k (i*C*36) 36 C:=by exact rfl)(hy:evD tm y=dI .i64 (j:Int):=by exact rfl)(hn:md.nc tbl (.indexAddr 22 x y)=true:=by exact rfl):bC prog tbl md ops K (⟨some t,.indexAddr 22 x y,ty,pos,af,none⟩::os) tm hp:=by
 have:=xj (P:=prog) (tb:=tbl) (dr:=md.dr) (ty:=ty) (ev:=evD tm) (hp:=hp) (x:=x) (y:=y) (v:=(j:Int)) (n:=C) (kn:=.i64) ⟨by omega,by omega⟩ aP aD rfl hx rfl hy
 rw[bH,show i*C*36+j*36=(i*C+j)*36 by rw[bk]] at this
 exact s1 this h2 hn
theorem uU(h:i<n)(h2:bC prog tbl md ops K os ((t,.pt k (o+i))::tm) hp)(hx:(evD tm x).toOw=.ow k o 1 n:=by exact rfl)(hy:(evD tm y).toOw=dI .i64 (i:Int):=by exact rfl)(hn:md.nc tbl (.indexAddr 52 x y)=true:=by exact rfl):bC prog tbl md ops K (⟨some t,.indexAddr 52 x y,ty,pos,af,none⟩::os) tm hp:=by
 have:=xj (P:=prog) (tb:=tbl) (dr:=md.dr) (ty:=ty) (ev:=fun x=>(evD tm x).toOw) (hp:=hp) (x:=x) (y:=y) (v:=(i:Int)) (n:=n) (kn:=.i64) ⟨by omega,by omega⟩ mp aP rfl hx rfl hy
 rw[bH,show o+i*1=o+i by omega] at this
 exact stG (d:=.pt k (o+i)) tok this h2 hn
end
theorem Pt.row {kM C n i:Nat}(h:i<n):Pt (iT kM C n) i [.ow kM (i*C*36) 36 C] (fun ys=>(iT kM C n).take i++ys++(iT kM C n).drop (i+1)):=by
 have hlen:=C4 kM C n
 have hg:(iT kM C n)[i]? =some (.ow kM (i*C*36) 36 C):=by unfold iT;rw[de,Jb h];rfl
 refine Pt.of ((iT kM C n).take i) ((iT kM C n).drop (i+1)) (by rw[eL,hlen];omega) ?_ fun y=>rfl
 conv=>lhs;rw[←tS i (iT kM C n)]
 rw[dW]
 congr 1
 rw[Ja (by rw[hlen];exact h)]
 have:=pL.1 hg
 obtain⟨_,h2⟩:=this
 rw[h2];rfl
section
variable {vs:List (Nat×List D)} {lv:List (Nat×Nat×Nat×TypeId)} {N C R kM kk kR k i:Nat} {V:List Nu}
theorem h_pred(hM:vs.lookup kM=some (dC ((cW a7).f V)))(N4:vs.lookup kk=some [dI .i64 k])(hV:V.length=R*C)(hi:i<R)(hk:k<C):
  HC prog 141 [.ow kM (i*C*36) 36 C,.pt kk 0] ⟨vs,lv,N⟩ (dB (decide (eA V[i*C+k]!≠0))) ⟨vs,lv,N⟩:=by
 refine HC.of (rs:=[.tmp 3]) tok func141 rfl rfl (bg rfl) rfl (fun cx hx h0 hok=>?_)
 simp only[eg,Nat.reduceAdd,bq]
 have hkM:=hok.lt hM
 have hkN:=hok.lt N4
 have hpl:i*C+k<V.length:=by rw[hV];exact cC hi hk
 refine rs hx fun K hK=>?_
 refine sa ?_
 refine .nil (hK _ _ (rs hx fun K hK=>?_))
 refine sa ?_
 refine c1 (Pt.one _) ?_
 refine i1r (i:=i) (j:=k) hk ?_
 refine l1 (Pt.el V (i*C+k) hpl) ?_
 refine cq (Mo _) ?_
 refine sa ?_
 refine sa ?_
 exact .nil (hK _ _ (AW.ret (rt1 h0 (hv:=fun j ds h=>h))))
end
end
section
def EC(C k:Nat)(V:List Nu)(n r:Nat):Int:=match vG C k V n r with
 |some i=>(i:Int) - (r:Int)
 |none=>-1
section
variable {vs:List (Nat×List D)} {lv:List (Nat×Nat×Nat×TypeId)} {N C R kM kk kR kr kp k r i:Nat} {V:List Nu}
theorem h_IdxF(hM:vs.lookup kM=some (dC ((cW a7).f V)))(N4:vs.lookup kk=some [dI .i64 k])(hkR:vs.lookup kR=some (iT kM C R))(hV:V.length=R*C)(hk:k<C)(hr:r<R)(hR:R≤1000000):
  HC prog 140 [.ow kR r 1 (R - r),.fn 141 [kk]] ⟨vs,lv,N⟩ (dI .i64 (EC C k V (R - r) r)) ⟨vs,lv,N⟩:=by
 refine HC.of (rs:=[.tmp 4]) tok func140 rfl rfl (bg rfl) rfl (fun cx hx h0 hok=>?_)
 simp only[eg,Nat.reduceAdd,bq]
 have hk1:=hok.lt hM
 have yh:=hok.lt N4
 have hk3:=hok.lt hkR
 refine rs hx fun K hK=>?_
 refine sa ?_
 refine .nil (hK _ _ (AW.seq (rs hx fun K hK=>?_)))
 refine sa ?_
 refine s1 (d:=dI .i64 ((R - r:Nat):Int)) (yL mp aP) ?_
 refine sa ?_
 refine .nil (hK _ _ (AW.block (AW.loopW (fun i:Nat=>[(0,.ow kR r 1 (R - r)),(1,.fn 141 [kk]),(7,dI .i64 ((R - r:Nat):Int)),(8,dI .i64 (i:Nat))]) (fun _=>⟨vs,lv,N⟩) (fun i=>i≤R - r∧vG C k V (R - r) r=vG C k V (R - r - i) (r+i)) (fun i=>R - r - i) 0 ?_ ⟨dU _,rfl⟩ ?_)))
 ·exact wk1 h0 (hv:=fun j ds h=>h)
 ·rintro i ⟨hi,hf⟩
  refine rs hx fun K hK=>?_
  refine sa ?_
  refine .nil (hK _ _ (AW.seq (AW.condS rfl (fun hb=>?_) (fun hb=>?_))))
  ·have Kc:i<R - r:=by have:=pO hb;omega
   refine AW.skip (AW.seq (AW.block (rs hx fun K hK=>?_)))
   iterate 2 refine sa ?_
   refine .nil (hK _ _ (rs hx fun K hK=>?_))
   iterate 3 refine sa ?_
   refine uU (k:=kR) (o:=r) (i:=i) (n:=R - r) Kc ?_
   refine c1 (Pt.row (kM:=kM) (C:=C) (n:=R) (i:=r+i) (by omega)) ?_
   refine q1 (sHF (h_pred hM N4 hV (show r+i<R by omega) hk) rfl) ?_
   refine .nil (hK _ _ ?_)
   obtain⟨m,hm⟩:∃m,R - r - i=m+1:=⟨R - r - i - 1,by omega⟩
   rw[hm] at hf
   refine AW.condS rfl (fun hb=>?_) (fun hb=>?_)
   ·refine rs hx fun K hK=>?_
    iterate 2 refine sa ?_
    refine .nil (hK _ _ (AW.ret ?_))
    have he:EC C k V (R - r) r=(i:Int):=by
     unfold EC
     rw[hf];unfold vG
     rw[ay (pO hb)]
     show ((r+i:Nat):Int) - (r:Int)=i
     omega
    rw[he]
    exact rt1 h0 (hv:=fun j ds h=>h)
   ·refine AW.skip (rq hx fun K hK=>?_)
    iterate 2 refine sa ?_
    refine .nil (hK _ _ ?_)
    rw[nD]
    refine⟨i+1,wk1 h0 (hv:=fun j ds h=>h),⟨Kc,?_⟩,by omega⟩
    rw[hf]
    conv=>lhs;unfold vG
    rw[aA (pC hb),show R - r - (i+1)=m by omega]
    rfl
  ·refine AW.exit ?_
   have Kc:i=R - r:=by have:=pC hb;omega
   subst Kc
   refine rs hx fun K hK=>?_
   refine sa ?_
   refine .nil (hK _ _ (AW.ret ?_))
   have he:EC C k V (R - r) r=-1:=by
    unfold EC
    rw[hf,Nat.sub_self];rfl
   rw[he]
   exact rt1 h0 (hv:=fun j ds h=>h)
theorem GQ {f:FuncId}{ks:List Nat}{h:List Nu→Nat→Nu}(hM:vs.lookup kM=some (dC ((cW a7).f V)))(Ly:∀j∈ks,j<N)(hV:V.length=R*C)(hi:i<R)(hC:C≤1000000)
  (hf:∀(U:List Nu) j,j<C→U.length=R*C→HC prog f ([dI .i64 j]++ks.map fun k=>.pt k 0) ⟨(kM,dC ((cW a7).f U))::vs,lv,N⟩ (dG a7 (h U j)) ⟨(kM,dC ((cW a7).f U))::vs,lv,N⟩):
  HC prog 142 [.ow kM (i*C*36) 36 C,.fn f ks] ⟨vs,lv,N⟩ (.tu []) ⟨(kM,dC ((cW a7).f (tQ V (i*C) h C)))::vs,lv,N⟩:=by
 refine HC.of (rs:=[]) tok func142 rfl rfl (bg rfl) rfl (fun cx hx h0 hok=>?_)
 simp only[eg,Nat.reduceAdd,bq]
 have hk1:=hok.lt hM
 have Lu:∀U:List Nu,eZ ⟨(kM,dC ((cW a7).f U))::vs,lv,N⟩:=fun U=>hok.consM hk1 (oy _)
 have N9:D.idsB N (.fn f ks)=true:=bV.2 fun k hk=>cV (Ly k hk)
 refine rs hx fun K hK=>?_
 refine sa ?_
 refine s1 (d:=dI .i64 (C:Nat)) (yL aP aD) ?_
 refine sa ?_
 refine .nil (hK _ _ (AW.block (AW.loopW (fun j:Nat=>[(0,.ow kM (i*C*36) 36 C),(1,.fn f ks),(6,dI .i64 (C:Nat)),(7,dI .i64 (j:Nat))]) (fun j=>⟨(kM,dC ((cW a7).f (tQ V (i*C) h j)))::vs,lv,N⟩) (fun j=>j≤C) (fun j=>C - j) 0 ?_ (dU _) ?_)))
 ·exact wk1 h0 (hok:=Lu _) (hv:=fun j ds h=>by
   rcases dH h with⟨rfl,rfl⟩|⟨hj,h⟩
   ·exact hM
   ·exact h)
 ·intro j hj
  refine rs hx fun K hK=>?_
  refine sa ?_
  refine .nil (hK _ _ (AW.seq (AW.condS rfl (fun hb=>?_) (fun hb=>?_))))
  ·have Er:j<C:=by have:=pO hb;omega
   have hlen:(tQ V (i*C) h j).length=R*C:=by rw[qx,hV]
   have hpl:i*C+j<(tQ V (i*C) h j).length:=by rw[hlen];exact cC hi Er
   refine AW.skip (AW.seq (AW.block (rs hx fun K hK=>?_)))
   iterate 2 refine sa ?_
   refine .nil (hK _ _ (rq hx fun K hK=>?_))
   iterate 4 refine sa ?_
   refine q1 (sHF (hf _ j Er hlen) rfl) ?_
   refine i1r (i:=i) (j:=j) Er ?_
   refine t1 (Pt.el _ (i*C+j) hpl) (Pt.el_set _ (i*C+j) hpl _) ?_
   refine .nil (hK _ _ (rq hx fun K hK=>?_))
   iterate 2 refine sa ?_
   refine .nil (hK _ _ ?_)
   rw[nD]
   refine⟨j+1,wk1 h0 (hok:=Lu _) (hv:=fun j' ds h=>by
    rcases dH h with⟨rfl,rfl⟩|⟨hj,h⟩
    ·exact ai
    ·exact am hj (am hj h)),Er,by omega⟩
  ·refine AW.exit ?_
   have Er:j=C:=by have:=pC hb;omega
   subst Er
   exact⟨_,wkS (by rw[h0];exact aL N) (aL N) (Lu _) (fun j ds h=>h) oK.nil,rfl⟩
end
end
section
def pvD(p:Pv):List D:=[dI .i64 p.col]++dC (a7.f p.by')++[dB p.mov]
theorem zY(p:Pv):(pvD p).length=38:=by unfold pvD;simp only[eU,qn];rfl
theorem pvD_by {p:Pv}:Pt (pvD p) (0+1) (dC (a7.f p.by')) (fun ys=>[dI .i64 p.col]++ys++[dB p.mov]):=Pt.of [dI .i64 p.col] [dB p.mov] rfl (by unfold pvD;simp only[dW]) fun y=>rfl
section
variable {vs:List (Nat×List D)} {lv:List (Nat×Nat×Nat×TypeId)} {N C R kM krs kR kr kp kl kx k r i j:Nat} {V:List Nu} {p:Pv} {b:Nu}
theorem h_by3(hM:vs.lookup kM=some (dC ((cW a7).f V)))(hrs:vs.lookup krs=some [.gw kR 1 R])(hkr:vs.lookup kr=some [dI .i64 r])(hkp:vs.lookup kp=some (pvD p))(hkR:vs.lookup kR=some (iT kM C R))(hV:V.length=R*C)(hj:j<C)(hr:r<R):
  HC prog 143 ([dI .i64 j]++[krs,kr,kp].map fun k=>.pt k 0) ⟨vs,lv,N⟩ (dG a7 (vo V[r*C+j]! p.by')) ⟨vs,lv,N⟩:=by
 refine HC.forget (vars:=(N,dC (a7.f (vo V[r*C+j]! p.by')))::vs) (n:=N+1) ?_ (fun j ds hj h=>am (by omega) h) (oy _)
 refine HC.of (rs:=[.cell 5 34]) tok func143 rfl rfl (bg rfl) rfl (fun cx hx h0 hok=>?_)
 simp only[eg,dT,cD,BC,pN,Nat.reduceAdd,bq]
 have h1:=hok.lt hM
 have h2:=hok.lt hrs
 have h3:=hok.lt hkr
 have h4:=hok.lt hkp
 have h5:=hok.lt hkR
 refine rs hx fun K hK=>?_
 refine n1 ?_
 refine .nil (hK _ _ (rsd [144] hx fun K hK=>?_))
 refine c1 (Pt.one _) ?_
 refine c1 (Pt.one _) ?_
 refine uU (k:=kR) (o:=0) (i:=r) (n:=R) hr ?_
 rw[bq]
 refine c1 (Pt.row (kM:=kM) (C:=C) (n:=R) (i:=r) hr) ?_
 refine sa ?_
 refine i1r (i:=r) (j:=j) hj ?_
 refine l1 (Pt.el V (r*C+j) (by rw[hV];exact cC hr hj)) ?_
 refine sa ?_
 refine l1 (pvD_by (p:=p)) ?_
 refine cq (w_Div _ _) ?_
 refine z1 ?_
 refine .nil (hK _ _ (AW.ret ?_))
 exact rtN1 h0 (by omega) (eZ.consM (hok.up (by omega)) (by omega) (oy _)) (aL _) (fun j ds h=>by
  rcases dH h with⟨rfl,rfl⟩|⟨hj,h⟩
  ·exact ai
  ·have:=hok.lt h
   exact am hj (am hj h)) ai rfl
theorem h_by4(hM:vs.lookup kM=some (dC ((cW a7).f V)))(hkl:vs.lookup kl=some [.ow kM (i*C*36) 36 C])(hkx:vs.lookup kx=some (dC (a7.f b)))(hrs:vs.lookup krs=some [.gw kR 1 R])(hkr:vs.lookup kr=some [dI .i64 r])(hkR:vs.lookup kR=some (iT kM C R))(hV:V.length=R*C)(hj:j<C)(hr:r<R)(hi:i<R):
  HC prog 145 ([dI .i64 j]++[kl,kx,krs,kr].map fun k=>.pt k 0) ⟨vs,lv,N⟩ (dG a7 (zJ V[i*C+j]! (qM b V[r*C+j]!))) ⟨vs,lv,N⟩:=by
 refine HC.forget (vars:=(N,dC (a7.f (zJ V[i*C+j]! (qM b V[r*C+j]!))))::vs) (n:=N+1) ?_ (fun j ds hj h=>am (by omega) h) (oy _)
 refine HC.of (rs:=[.cell 6 34]) tok func145 rfl rfl (bg rfl) rfl (fun cx hx h0 hok=>?_)
 simp only[eg,dT,cD,BC,pN,Nat.reduceAdd,bq]
 have h1:=hok.lt hM
 have h2:=hok.lt hrs
 have h3:=hok.lt hkr
 have h4:=hok.lt hkl
 have h5:=hok.lt hkR
 have h6:=hok.lt hkx
 refine rs hx fun K hK=>?_
 refine n1 ?_
 refine .nil (hK _ _ (rsd [40,146] hx fun K hK=>?_))
 refine c1 (Pt.one _) ?_
 refine sa ?_
 refine i1r (i:=i) (j:=j) hj ?_
 refine l1 (Pt.el V (i*C+j) (by rw[hV];exact cC hi hj)) ?_
 refine l1 (Pt.idN b) ?_
 refine c1 (Pt.one _) ?_
 refine c1 (Pt.one _) ?_
 refine uU (k:=kR) (o:=0) (i:=r) (n:=R) hr ?_
 rw[bq]
 refine c1 (Pt.row (kM:=kM) (C:=C) (n:=R) (i:=r) hr) ?_
 refine sa ?_
 refine i1r (i:=r) (j:=j) hj ?_
 refine l1 (Pt.el V (r*C+j) (by rw[hV];exact cC hr hj)) ?_
 refine cq (w_Mul _ _) ?_
 refine cq (w_Sub _ _) ?_
 refine z1 ?_
 refine .nil (hK _ _ (AW.ret ?_))
 exact rtN1 h0 (by omega) (eZ.consM (hok.up (by omega)) (by omega) (oy _)) (aL _) (fun j ds h=>by
  rcases dH h with⟨rfl,rfl⟩|⟨hj,h⟩
  ·exact ai
  ·have:=hok.lt h
   exact am hj (am hj h)) ai rfl
end
end
section
theorem T_bldPv {dr:Bool}{ty:TypeId}{ev:Operand→D}{hp:Hp}{x y z:Operand}{p:Pv}(hx:ev x=dI .i64 p.col:=by exact rfl)(hy:ev y=dG a7 p.by':=by exact rfl)(hz:ev z=dB p.mov:=by exact rfl):AVC prog tbl dr (.build 102 #[(0,x),(1,y),(2,z)]) ty ev hp (Kq (.ag (pvD p)) hp):=by
 have h0:([(0,x),(1,y),(2,z)]:List (Nat×Operand)).map (fun p=>(p.1,ev p.2))=[(0,dI .i64 p.col),(1,dG a7 p.by'),(2,dB p.mov)]:=by simp only[cD,dT,hx,hy,hz]
 rw[show (#[(0,x),(1,y),(2,z)]:Array (Nat×Operand))=([(0,x),(1,y),(2,z)]:List (Nat×Operand)).toArray from rfl,w4,h0,uq,jd]
 have hp:kL [(0,dI .i64 p.col),(1,dG a7 p.by'),(2,dB p.mov)]=some [(0,[dI .i64 p.col]),(1,dC (a7.f p.by')),(2,[dB p.mov])]:=rfl
 rw[hp]
 dsimp only
 refine⟨by decide,?_⟩
 have hz:∀zs:List D,zs.length=38→fW (pw tbl [(0,3),(1,34),(37,4)]) zs [(0,[dI .i64 p.col]),(1,dC (a7.f p.by')),(2,[dB p.mov])]=some (pvD p):=fun zs hzs=>by
  have p0:pw tbl [(0,3),(1,34),(37,4)] 0=some (0,1):=rfl
  have p1:pw tbl [(0,3),(1,34),(37,4)] 1=some (1,36):=rfl
  have p2:pw tbl [(0,3),(1,34),(37,4)] 2=some (37,1):=rfl
  obtain⟨z0,zr,rfl⟩:∃z0 zr,zs=z0::zr:=by
   cases zs with
   |nil=>cases hzs
   |cons a b=>exact⟨a,b,rfl⟩
  have hzr:zr.length=37:=by simpa using hzs
  have hl:=qn p.by'
  simp only[fW,p0,p1,p2,hl]
  rw[aA (by simp[hzr]),aA (by simp[hzr]),aA (by simp[hzr,hl])]
  unfold pvD
  have e1:(List.take 0 (z0::zr)++[dI IntKind.i64 (p.col:Int)]++List.drop (0+[dI IntKind.i64 (p.col:Int)].length) (z0::zr))=dI .i64 p.col::zr:=rfl
  rw[e1]
  have e2:List.take 1 (dI IntKind.i64 (p.col:Int)::zr)=[dI .i64 p.col]:=rfl
  have e3:List.drop (1+36) (dI IntKind.i64 (p.col:Int)::zr)=zr.drop 36:=rfl
  rw[e2,e3]
  have h37:([dI IntKind.i64 (p.col:Int)]++dC (a7.f p.by')).length=37:=by rw[eU,hl];rfl
  rw[zt (by rw[h37];exact aL _),jL (by rw[h37];exact aL _),Bt (by rw[eU,h37,gi,hzr];exact aL _),tX]
 rw[hz _ (by rfl)]
 exact Kq.here _ _
section
variable {kM R C:Nat}
theorem mat_R:Pt (ly kM R C) (0+0) [dI .i64 R] (fun ys=>ys++[dI .i64 C,gN kM (R*C)]):=Pt.of [] [dI .i64 C,gN kM (R*C)] rfl rfl fun y=>rfl
theorem Na:Pt (ly kM R C) (0+1) [dI .i64 C] (fun ys=>[dI .i64 R]++ys++[gN kM (R*C)]):=Pt.of [dI .i64 R] [gN kM (R*C)] rfl rfl fun y=>rfl
theorem mat_D:Pt (ly kM R C) (0+2) [gN kM (R*C)] (fun ys=>[dI .i64 R,dI .i64 C]++ys++[]):=Pt.of [dI .i64 R,dI .i64 C] [] rfl rfl fun y=>rfl
theorem F7(k n:Nat):D.cells (pI k n)=some [pI k n]:=by unfold pI;split <;> rfl
theorem Lg {k n M:Nat}(h:k<M):D.idsC M (pI k n)=true:=by
 unfold pI
 split
 ·rfl
 ·exact cV h
end
structure Kept(W:List Nat)(hp hp':Hp):Prop where
 ok:eZ hp'
 next:hp.next≤hp'.next
 vars:∀j ds,j∉W→hp.vars.lookup j=some ds→hp'.vars.lookup j=some ds
structure StH(E kM k0 R C r k kk:Nat)(V:List Nu)(hp:Hp):Prop where
 ok:eZ hp
 nx:E+6≤kk
 kn:kk<hp.next
 len:V.length=R*C
 hM:0<R→0<C→hp.vars.lookup kM=some (dC ((cW a7).f V))
 h0:hp.vars.lookup k0=some (ly kM R C)
 hr:hp.vars.lookup (E+5)=some [dI .i64 r]
 hk:hp.vars.lookup kk=some [dI .i64 k]
 hrs:0<R→0<C→hp.vars.lookup (E+4)=some [.gw (E+3) 1 R]
 hR:0<R→0<C→hp.vars.lookup (E+3)=some (iT kM C R)
end
section
theorem Ko {C k:Nat}{V:List Nu}:∀{n r i:Nat},vG C k V n r=some i→r≤i∧i<r+n
 |0,r,i,h=>by cases h
 |n+1,r,i,h=>by
  unfold vG at h
  split at h
  ·injection h with h;omega
  ·have:=Ko h;omega
theorem F8 {R C n k r:Nat}{V:List Nu}{acc:List Pv}(h:n=0∨¬r<R):mf R C n k r V acc=some (V,acc):=by
 cases n with
 |zero=>rfl
 |succ n=>
  unfold mf
  rcases h with h|h
  ·cases h
  ·rw[aA h]
section
variable {HQ:List (Nat×List D)} {Ng:List (Nat×Nat×Nat×TypeId)} {E B kM k0 k4 R C:Nat} {p:Tmp} {Nt:Nat} {LR bod:Code} {tm0:List (Nat×D)} {J:List Pv→Hp→Prop} {S:Hp→Prop} {V0:List Nu}
def TH(l E k0 kk:Nat):List (Nat×D):=[(0,.e (.lit (.func (.yield l) #[] #[]))),(1,.pt k0 0),(3,.pt (E+4) 0),(4,.pt (E+5) 0),(5,.pt kk 0)]
theorem Nn(hkM:kM<E)(hk0:k0<E)(hk4:k4<E)(h4M:k4≠kM)(h40:k4≠k0)(hM0:kM≠k0)
  (Ey:V0.length=R*C) (Kh:R*C≤1000000) (hR:R≤1000000) (hC:C≤1000000)
  (hM:0<R→0<C→HQ.lookup kM=some (dC ((cW a7).f V0))) (h0:HQ.lookup k0=some (ly kM R C))
  (wM:∀k ds,HQ.lookup k=some ds→ds.all D.noO=true)
  (hpN:p<Nt) (hJ0:J [] ⟨HQ,Ng,E⟩)
  (hJ:∀acc vs oM lv N N',J acc ⟨vs,lv,N⟩→N≤N'→E≤N→(∀j ds,j≠kM→j<E→vs.lookup j=some ds→oM.lookup j=some ds)→J acc ⟨oM,lv,N'⟩)
  (hrd:∀V acc pv hp,0<R→acc.length<C→V.length=R*C→eZ hp→hp.vars.lookup kM=some (dC ((cW a7).f V))→J acc hp→RdOk prog Nt p LR bod tm0 hp (.ag (pvD pv)) (fun hp'=>V.all aQ=true∧Kept [k4] hp hp'∧J (acc++[pv]) hp') (fun hp'=>V.all aQ=false∧S hp')):
  Ju prog 137 [k0] B ⟨HQ,Ng,E⟩ p Nt LR bod tm0 (fun hp=>∃V acc,mf R C C 0 0 V0 []=some (V,acc)∧eZ hp∧(0<R→0<C→hp.vars.lookup kM=some (dC ((cW a7).f V)))∧J acc hp) (fun hp=>mf R C C 0 0 V0 []=none∧S hp):=by
 refine Ju.of func137 rfl (bg rfl) rfl hpN (by simp[hk0]) (fun g w l rec x hB xp hg0 hw0 LH hN ry hok hmk=>?_)
 simp only[cD,dT,eg,Nat.reduceAdd,bq]
 obtain⟨R1,C1,hC1,hR1,hC1p,hC1le,hR1le⟩:∃R1 C1,C1=max 1 C∧R1*C1=R*C∧1≤C1∧C1≤1000000∧(0<C→C1=C∧R1=R):=by
  rcases ma C with h|h
  ·exact⟨0,max 1 C,rfl,by rw[h,fe,E4],E3 _ _,by omega,fun h'=>by omega⟩
  ·exact⟨R,max 1 C,rfl,by rw[show max 1 C=C by omega],E3 _ _,by omega,fun _=>⟨by omega,rfl⟩⟩
 have hmx:max (1:Int) (C:Int)=((C1:Nat):Int):=by omega
 refine vrs hN fun K hK=>?_
 refine sa ?_
 refine c1 mat_D ?_
 refine sa ?_
 refine c1 Na ?_
 refine sa ?_
 rw[hmx]
 have hch:=h_Chunk (vs:=HQ) (lv:=Ng) (N:=E) (dV:=gN kM (R*C)) hC1p hC1le (AH hkM _) (Ia _ _)
 refine q1s (d:=.fn 174 [E,E+1]) (hp':=⟨(E+1,[dI .i64 C1])::(E,[gN kM (R*C)])::HQ,Ng,E+1+1⟩) (Lm rfl hch rfl) ?_
 have hcol:=LF (vs:=(E+1,[dI .i64 C1])::(E,[gN kM (R*C)])::HQ) (lv:=Ng) (N:=E+1+1) (R:=R1) (C:=C1) (kM:=kM) (ks:=E) (kn:=E+1) hC1p (by rw[hR1];exact Kh) hC1le (by rw[hR1];exact am (by omega) ai) ai (by omega) (fun k ds hk=>by
  rcases dH hk with⟨rfl,rfl⟩|⟨_,hk⟩
  ·rfl
  rcases dH hk with⟨rfl,rfl⟩|⟨_,hk⟩
  ·unfold gN;split <;> rfl
  ·exact wM k ds hk)
 refine q1s (d:=pI (E+3) R1) (hp':=⟨qR (E+3) kM C1 R1 ((E+1,[dI .i64 C1])::(E,[gN kM (R*C)])::HQ),Ng,E+4⟩) (Lm rfl hcol rfl) ?_
 obtain⟨VR,hVR⟩:∃VR,VR=qR (E+3) kM C1 R1 ((E+1,[dI .i64 C1])::(E,[gN kM (R*C)])::HQ):=⟨_,rfl⟩
 rw[←hVR]
 have hokC:eZ ⟨(E+1,[dI .i64 C1])::(E,[gN kM (R*C)])::HQ,Ng,E+4⟩:=((hok.up (M:=E+4) (by omega)).consM (by omega) (by simp[AH (show kM<E+4 by omega)])).consM (by omega) (by rfl)
 have hokR:eZ ⟨VR,Ng,E+4⟩:=by
  rw[hVR];unfold qR
  split
  ·exact hokC
  ·exact hokC.consM (by omega) (rF (by omega))
 have hoR:∀j ds,j<E→HQ.lookup j=some ds→VR.lookup j=some ds:=fun j ds hj h=>by
  rw[hVR];unfold qR
  split
  ·exact am (by omega) (am (by omega) h)
  ·exact am (by omega) (am (by omega) (am (by omega) h))
 have hRR:0<R→0<C→pI (E+3) R1=.gw (E+3) 1 R∧VR.lookup (E+3)=some (iT kM C R):=fun h1 h2=>by
  obtain⟨e1,e2⟩:=hR1le h2
  subst e1 e2
  refine⟨ifn_,?_⟩
  rw[hVR];unfold qR
  rw[ifn_]
  exact ai
 refine a1 mp (hz:=rfl) ?_
 refine v1 (k:=E+4) (F:=[D.e (.lit (.slice none 0 0))]) (ys:=[pI (E+3) R1]) (Pt.one _) rfl rfl rfl ?_ rfl ai (F7 _ _)
 refine .nil (hK _ _ (vrs hN fun K hK=>?_))
 refine a1 a6 (hz:=rfl) ?_
 refine v1 (k:=E+5) (ys:=[dI .i64 0]) (Pt.one _) rfl rfl rfl ?_ rfl ai rfl
 refine .nil (hK _ _ (vrs hN fun K hK=>?_))
 refine a1 a6 (hz:=rfl) ?_
 refine v1 (k:=E+6) (ys:=[dI .i64 0]) (Pt.one _) rfl rfl rfl ?_ rfl ai rfl
 refine .nil (hK _ _ (AV.block ?_))
 refine AV.loop (fun n tm hp=>∃k r V acc kk,n=C - k∧k≤C∧tm=TH l E k0 kk∧StH E kM k0 R C r k kk V hp∧J acc hp∧acc.length≤k∧mf R C C 0 0 V0 []=mf R C (C - k) k r V acc) (n:=C) (Wk.tmS (tm':=TH l E k0 (E+6)) (tin (tin (tin (tin (tin Lb)))))) ?_ ?_
 ·refine⟨0,0,V0,[],E+6,rfl,dU _,rfl,⟨?_,aL _,cr _,Ey,fun h1 h2=>?_,?_,?_,?_,fun h1 h2=>?_,fun h1 h2=>?_⟩,?_,aL _,rfl⟩
  ·exact (((((hokR.up (M:=E+7) (by omega)).consM (by omega) (by rfl)).consM (by omega) (by simp[Lg (show E+3<E+7 by omega)])).consM (by omega) (by rfl)).consM (by omega) (by rfl)).consM (by omega) (by rfl) |>.consM (by omega) (by rfl)
  ·exact am (by omega) (am (by omega) (am (by omega) (am (by omega) (am (by omega) (am (by omega) (hoR _ _ hkM (hM h1 h2)))))))
  ·exact am (by omega) (am (by omega) (am (by omega) (am (by omega) (am (by omega) (am (by omega) (hoR _ _ hk0 h0))))))
  ·exact am (by omega) (am (by omega) ai)
  ·exact ai
  ·rw[←(hRR h1 h2).1]
   exact am (by omega) (am (by omega) (am (by omega) (am (by omega) ai)))
  ·exact am (by omega) (am (by omega) (am (by omega) (am (by omega) (am (by omega) (am (by omega) (hRR h1 h2).2)))))
  ·refine hJ [] HQ _ Ng E _ hJ0 (by omega) (aL _) fun j ds _ hj h=>?_
   exact am (by omega) (am (by omega) (am (by omega) (am (by omega) (am (by omega) (am (by omega) (hoR _ _ hj h))))))
 ·rintro n tm hp ⟨k,r,V,acc,kk,rfl,hkC,rfl,⟨Lv,rx,hkkN,hlen,Nz,hv0,hvr,hvk,Il,hvR⟩,hJa,LD,n6⟩
  obtain⟨vs,lv,N⟩:=hp
  dsimp only at hkkN Nz hv0 hvr hvk Il hvR
  refine AV.seqA ?_
  refine rs hN fun K hK=>?_
  refine c1 (Pt.one _) ?_
  refine sa ?_
  refine c1 Na ?_
  iterate 2 refine sa ?_
  rcases aZ (decide ((k:Int)<(C:Int))) with hb|hb
  ·refine c1g (Pt.one _) hb ?_
   refine ga hb ?_
   refine c1g mat_R hb ?_
   refine ga hb ?_
   refine s1 (al hb) ?_
   refine .nil (hK _ _ ?_)
   have Iv:k<C:=by have:=pO hb;omega
   refine AW.condS rfl (fun lR=>?_) (fun lR=>?_)
   ·have Eo:r<R:=by have:=pO lR;omega
    have Il:=Il (by omega) (by omega)
    have hvR:=hvR (by omega) (by omega)
    have Nz:=Nz (by omega) (by omega)
    refine AW.skip ?_
    have hkM2:kM≠kk:=by omega
    have hkMN:kM<N:=by omega
    refine AV.seq (AV.mono (Q:=fun ex a w'=>(ex=.normal∧∃r' V' LW hp',RS x (TH l E k0 kk) hp' a w'∧StH E kM k0 R C r' k kk V' hp'∧J LW hp'∧LW.length≤k+1∧mf R C C 0 0 V0 []=mf R C (C - (k+1)) (k+1) r' V' LW)∨
     (ex=.ret∧a.defers=x.df∧∃hp' g' W',w'=W'.putObj l (.loop (qo rec))∧W'.heap[l]? =some (.loop rec)∧v7 B ⟨HQ,Ng,E⟩ g w hp' g' W'∧mf R C C 0 0 V0 []=none∧S hp')) (AV.block ?_) ?_)
    ·refine vrsd [140] hN fun K hK=>?_
     refine c1 (Pt.one _) ?_
     refine c1 (Pt.one _) ?_
     refine c1 (Pt.one _) ?_
     refine q1 (m3.toOw (slW (l:=(r:Int)) (h:=(R:Int)) (n:=R) (k:=E+3) (off:=0) (z:=1) tok ⟨by omega,by omega,by omega,by omega⟩ mp aP ⟨.i64,rfl⟩ rfl)) ?_
     rw[show 0+((r:Nat):Int).toNat*1=r by omega,show (((R:Nat):Int) - ((r:Nat):Int)).toNat=R - r by omega]
     refine s1 (d:=.fn 141 [kk]) va ?_
     refine q1 (sHCf (h_IdxF (kM:=kM) (kk:=kk) (kR:=E+3) (k:=k) (r:=r) (V:=V) Nz hvk hvR hlen Iv Eo hR) rfl (Fr.refl _) (hv:=by kernel_rfl)) ?_
     iterate 2 refine sa ?_
     refine .nil (hK _ _ (AV.seqA ?_))
     refine rs hN fun K hK=>?_
     refine sa ?_
     refine c1 (Pt.one _) ?_
     refine sa ?_
     refine .nil (hK _ _ ?_)
     obtain⟨m,hm⟩:∃m,C - k=m+1:=⟨C - k - 1,by omega⟩
     have Lw:C - (k+1)=m:=by omega
     rcases hf:vG C k V (R - r) r with _|i
     ·have hv:EC C k V (R - r) r=-1:=by unfold EC;rw[hf]
      rw[hv,qO (by omega) (by omega)]
      refine AW.condT rfl (det_) (AW.exit ?_)
      intro a w hr
      refine .inl ⟨rfl,r,V,acc,_,Wk.tmS (tin (tin (tin (tin (tin Lb))))) a w hr,⟨Lv,rx,hkkN,hlen,fun _ _=>Nz,hv0,hvr,hvk,fun _ _=>Il,fun _ _=>hvR⟩,hJa,by omega,?_⟩
      rw[n6,hm,Lw]
      conv=>lhs;unfold mf
      rw[ay Eo,hf]
     ·obtain⟨hri,hiR⟩:=Ko hf
      have hiR:i<R:=by omega
      have hv:EC C k V (R - r) r=(i:Int) - (r:Int):=by unfold EC;rw[hf]
      rw[hv,show (r:Int)+((i:Int) - (r:Int))=(i:Int) by omega,qO (by omega) (by omega)]
      refine AW.condF rfl (def_) (AW.skip (AV.seqA ?_))
      refine rs hN fun K hK=>?_
      refine sa ?_
      refine c1 Na ?_
      refine sa ?_
      refine .nil (hK _ _ (AW.block ?_))
      have Lu:∀U:List Nu,eZ ⟨(kM,dC ((cW a7).f U))::vs,lv,N⟩:=fun U=>Lv.consM hkMN (oy _)
      refine AW.loopW (fun j:Nat=>[(0,.e (.lit (.func (.yield l) #[] #[]))),(1,.pt k0 0),(3,.pt (E+4) 0),(4,.pt (E+5) 0),(5,.pt kk 0),(6,dI .i64 (i:Nat)),(43,dI .i64 (C:Nat)),(44,dI .i64 (j:Nat))]) (fun j=>⟨(kM,dC ((cW a7).f (gc C V i r j)))::vs,lv,N⟩) (fun j=>j≤C) (fun j=>C - j) 0 ?_ (dU _) ?_
      ·exact wk1 xp (hok:=Lu _) (hv:=fun j ds h=>by
        rcases dH h with⟨rfl,rfl⟩|⟨hj,h⟩
        ·exact Nz
        ·exact h)
      ·intro j hj
       refine rs hN fun K hK=>?_
       refine sa ?_
       refine .nil (hK _ _ (AW.seq (AW.condS rfl (fun bm=>?_) (fun bm=>?_))))
       ·have Er:j<C:=by have:=pO bm;omega
        have hlU:(gc C V i r j).length=R*C:=by rw[oq,hlen]
        have hp1:i*C+j<(gc C V i r j).length:=by rw[hlU];exact cC hiR Er
        have bK:r*C+j<(gc C V i r j).length:=by rw[hlU];exact cC Eo Er
        have hp3:r*C+j<((gc C V i r j).set (i*C+j) (gc C V i r j)[r*C+j]!).length:=by rw[IU];exact bK
        refine AW.skip (AW.seq (AW.block (rs hN fun K hK=>?_)))
        iterate 2 refine sa ?_
        refine .nil (hK _ _ (rqd [] hN fun K hK=>?_))
        refine c1 (Pt.one _) ?_
        refine sa ?_
        refine uU (k:=E+3) (o:=0) (i:=i) (n:=R) hiR ?_
        rw[bq]
        refine c1 (Pt.row (kM:=kM) (C:=C) (n:=R) (i:=i) hiR) ?_
        refine sa ?_
        refine c1 (Pt.one _) ?_
        refine c1 (Pt.one _) ?_
        refine uU (k:=E+3) (o:=0) (i:=r) (n:=R) Eo ?_
        rw[bq]
        refine c1 (Pt.row (kM:=kM) (C:=C) (n:=R) (i:=r) Eo) ?_
        refine sa ?_
        refine c1 (Pt.one _) ?_
        refine c1 (Pt.one _) ?_
        refine uU (k:=E+3) (o:=0) (i:=r) (n:=R) Eo ?_
        rw[bq]
        refine c1 (Pt.row (kM:=kM) (C:=C) (n:=R) (i:=r) Eo) ?_
        refine sa ?_
        refine i1r (i:=r) (j:=j) Er ?_
        refine l1 (Pt.el _ (r*C+j) bK) ?_
        refine c1 (Pt.one _) ?_
        refine sa ?_
        refine uU (k:=E+3) (o:=0) (i:=i) (n:=R) hiR ?_
        rw[bq]
        refine c1 (Pt.row (kM:=kM) (C:=C) (n:=R) (i:=i) hiR) ?_
        refine sa ?_
        refine i1r (i:=i) (j:=j) Er ?_
        refine l1 (Pt.el _ (i*C+j) hp1) ?_
        refine i1r (i:=i) (j:=j) Er ?_
        refine t1 (Pt.el _ (i*C+j) hp1) (Pt.el_set _ (i*C+j) hp1 _) ?_
        refine i1r (i:=r) (j:=j) Er ?_
        refine t1 (Pt.el _ (r*C+j) hp3) (Pt.el_set _ (r*C+j) hp3 _) ?_
        refine .nil (hK _ _ (rq hN fun K hK=>?_))
        iterate 2 refine sa ?_
        refine .nil (hK _ _ ?_)
        rw[nD]
        refine⟨j+1,wk1 xp (hok:=Lu _) (hv:=fun j' ds h=>by
         rcases dH h with⟨rfl,rfl⟩|⟨hj,h⟩
         ·exact ai
         ·exact am hj (am hj (am hj h))),Er,by omega⟩
       ·refine AW.exit ?_
        have Er:j=C:=by have:=pC bm;omega
        rw[Er]
        clear bm hj Er
        have zM:(gc C V i r C).length=R*C:=by rw[oq,hlen]
        have hp1:r*C+k<(gc C V i r C).length:=by rw[zM];exact cC Eo Iv
        refine vrsd [] hN fun K hK=>?_
        refine c1 (Pt.one _) ?_
        refine c1 (Pt.one _) ?_
        refine c1 (Pt.one _) ?_
        refine uU (k:=E+3) (o:=0) (i:=r) (n:=R) Eo ?_
        rw[bq]
        refine c1 (Pt.row (kM:=kM) (C:=C) (n:=R) (i:=r) Eo) ?_
        refine c1 (Pt.one _) ?_
        refine i1r (i:=r) (j:=k) Iv ?_
        refine l1 (Pt.el _ (r*C+k) hp1) ?_
        refine sa ?_
        refine c1 (Pt.one _) ?_
        refine sa ?_
        obtain⟨pv,hpv⟩:∃pv:Pv,pv=⟨k,byN C k i r V,decide (i≠r)⟩:=⟨_,rfl⟩
        refine s1 (d:=.ag (pvD pv)) (T_bldPv (p:=pv) (by rw[hpv];rfl) (by rw[hpv];rfl) (by rw[hpv];exact congrArg (fun b=>dB b) (mW.2 (by omega)))) ?_
        refine a1 jd (hz:=rfl) ?_
        refine v1 (k:=N) (ys:=pvD pv) (F2:=pvD pv) Pt.all (by exact rfl) (by exact zY pv) rfl ?_ rfl ai rfl (ht:=jd)
        refine .nil (hK _ _ (vrs hN fun K hK=>?_))
        refine s1 (d:=.e (.lit (.func (.func 142) #[] #[]))) Hs ?_
        refine .nil (hK _ _ (vrs hN fun K hK=>?_))
        refine sa ?_
        refine c1 (Pt.one _) ?_
        refine c1 (Pt.one _) ?_
        refine uU (k:=E+3) (o:=0) (i:=r) (n:=R) Eo ?_
        rw[bq]
        refine c1 (Pt.row (kM:=kM) (C:=C) (n:=R) (i:=r) Eo) ?_
        refine s1 (d:=.fn 143 [E+4,E+5,N]) va ?_
        refine q1 (sHC (GQ (kM:=kM) (i:=r) (V:=gc C V i r C) (R:=R) (h:=fun U j=>vo U[r*C+j]! pv.by') (am (by omega) (am (by omega) ai)) (fun j hj=>by simp at hj;rcases hj with rfl|rfl|rfl <;> omega) zM Eo hC (fun U j hj hU=>h_by3 (kM:=kM) (krs:=E+4) (kr:=E+5) (kp:=N) (kR:=E+3) (p:=pv) ai (am (by omega) (am (by omega) (am (by omega) (am (by omega) Il)))) (am (by omega) (am (by omega) (am (by omega) (am (by omega) hvr)))) (am (by omega) ai) (am (by omega) (am (by omega) (am (by omega) (am (by omega) hvR)))) hU hj Eo)) rfl (.inl (by kernel_rfl))) ?_
        refine .nil (hK _ _ ?_)
        obtain⟨U2,hU2⟩:∃U2,U2=tQ (gc C V i r C) (r*C) (fun U j=>vo U[r*C+j]! pv.by') C:=⟨_,rfl⟩
        rw[←hU2]
        have wd:U2.length=R*C:=by rw[hU2,qx,zM]
        have hstep:io C k r U2 R=oV R C k i r V:=by rw[hU2,hpv];rfl
        have yg:∀U:List Nu,eZ ⟨(kM,dC ((cW a7).f U))::(N,pvD pv)::vs,lv,N+1⟩:=fun U=>((Lv.up (M:=N+1) (dJ _)).consM (cr _) (by unfold pvD;rw[sL,sL,oy];rfl)).consM (by omega) (oy _)
        refine AV.weak (hp':=⟨(kM,dC ((cW a7).f U2))::(N,pvD pv)::vs,lv,N+1⟩) (tm':=[(0,.e (.lit (.func (.yield l) #[] #[]))),(1,.pt k0 0),(3,.pt (E+4) 0),(4,.pt (E+5) 0),(5,.pt kk 0),(8,.pt N 0),(9,.e (.lit (.func (.func 142) #[] #[])))]) (wk1 xp (hok:=yg _) (hv:=fun j ds h=>by
         rcases dH h with⟨rfl,rfl⟩|⟨hj,h⟩
         ·exact ai
         rcases dH h with⟨rfl,rfl⟩|⟨Iw,h⟩
         ·exact am hj ai
         ·exact am hj (am Iw (am Iw (am hj h))))) ?_
        have g1:∀U:List Nu,((kM,dC ((cW a7).f U))::(N,pvD pv)::vs).lookup (E+4)=some [.gw (E+3) 1 R]:=fun U=>am (by omega) (am (by omega) Il)
        have g2:∀U:List Nu,((kM,dC ((cW a7).f U))::(N,pvD pv)::vs).lookup (E+5)=some [dI .i64 r]:=fun U=>am (by omega) (am (by omega) hvr)
        have g3:∀U:List Nu,((kM,dC ((cW a7).f U))::(N,pvD pv)::vs).lookup (E+3)=some (iT kM C R):=fun U=>am (by omega) (am (by omega) hvR)
        have g4:∀U:List Nu,((kM,dC ((cW a7).f U))::(N,pvD pv)::vs).lookup kk=some [dI .i64 k]:=fun U=>am (by omega) (am (by omega) hvk)
        refine AV.seqA ?_
        refine rs hN fun K hK=>?_
        refine c1 (Pt.one _) ?_ (hv:=g1 _)
        refine stG (d:=dI .i64 (R:Nat)) tok (yL (k:=E+3) (off:=0) (z:=1) mp aP rfl rfl) ?_
        refine sa ?_
        refine .nil (hK _ _ (AW.block (AW.loopW (fun n:Nat=>[(0,.e (.lit (.func (.yield l) #[] #[]))),(1,.pt k0 0),(3,.pt (E+4) 0),(4,.pt (E+5) 0),(5,.pt kk 0),(8,.pt N 0),(9,.e (.lit (.func (.func 142) #[] #[]))),(93,.gw (E+3) 1 R),(94,dI .i64 (R:Nat)),(95,dI .i64 (n:Nat))]) (fun n=>⟨(kM,dC ((cW a7).f (io C k r U2 n)))::(N,pvD pv)::vs,lv,N+1⟩) (fun n=>n≤R) (fun n=>R - n) 0 ?_ (dU _) ?_)))
        ·exact wk1 xp (hok:=yg _) (hv:=fun j ds h=>h)
        ·intro n hn
         refine rs hN fun K hK=>?_
         refine sa ?_
         refine .nil (hK _ _ (AW.seq (AW.condS rfl (fun bm=>?_) (fun bm=>?_))))
         ·have NP:n<R:=by have:=pO bm;omega
          have Lx:(io C k r U2 n).length=R*C:=by rw[rG,wd]
          have hp3:n*C+k<(io C k r U2 n).length:=by rw[Lx];exact cC NP Iv
          refine AW.skip (AW.seq (AW.block (rs hN fun K hK=>?_)))
          refine sa ?_
          refine uU (k:=E+3) (o:=0) (i:=n) (n:=R) NP ?_
          rw[bq]
          refine c1 (Pt.row (kM:=kM) (C:=C) (n:=R) (i:=n) NP) ?_ (hv:=g3 _)
          refine a1 aP (hz:=rfl) ?_
          refine sa ?_
          refine v1 (k:=N+1) (F:=[D.e (.lit (.slice none 0 0))]) (ys:=[.ow kM (n*C*36) 36 C]) (Pt.one _) rfl rfl rfl ?_ rfl ai rfl
          refine .nil (hK _ _ (rs hN fun K hK=>?_))
          refine c1 (Pt.one _) ?_
          refine c1 (Pt.one _) ?_ (hv:=am (by omega) (am (by omega) (g4 _)))
          refine i1r (i:=n) (j:=k) Iv ?_
          refine l1 (Pt.el _ (n*C+k) hp3) ?_
          refine n1 ?_
          refine z1 ?_
          refine .nil (hK _ _ (rs hN fun K hK=>?_))
          refine sa ?_
          refine c1 (Pt.one _) ?_ (hv:=am (by omega) (am (by omega) (am (by omega) (am (by omega) (g2 _)))))
          iterate 2 refine sa ?_
          have hvT:∀(U:List Nu) (a b c d e:List D) j ds,((kM,dC ((cW a7).f U))::(N,pvD pv)::vs).lookup j=some ds→((kM,dC ((cW a7).f U))::(N+1+1,a)::(N+1+1,b)::(N+1,c)::(N+1,d)::(kM,e)::(N,pvD pv)::vs).lookup j=some ds:=fun U a b c d e j ds h=>by
           rcases dH h with⟨rfl,rfl⟩|⟨hj,h⟩
           ·exact ai
           have hjN:j<N+1:=by
            rcases dH h with⟨rfl,_⟩|⟨_,h⟩
            ·omega
            ·exact oE (Lv.lt h)
           exact am hj (am (by omega) (am (by omega) (am (by omega) (am (by omega) (am hj h)))))
          have hvF:∀(U:List Nu) (a b c d:List D) j ds,((kM,dC ((cW a7).f U))::(N,pvD pv)::vs).lookup j=some ds→((N+1+1,a)::(N+1+1,b)::(N+1,c)::(N+1,d)::(kM,dC ((cW a7).f U))::(N,pvD pv)::vs).lookup j=some ds:=fun U a b c d j ds h=>by
           have hjN:j<N+1:=(yg U).lt h
           exact am (by omega) (am (by omega) (am (by omega) (am (by omega) h)))
          rcases aZ (decide ((n:Int)≠(r:Int))) with mr|mr
          ·have hnr:n≠r:=by have:=pO mr;omega
           refine l1g (Pt.idN _) mr ?_
           refine cqg (Mo _) mr ?_
           refine ga mr ?_
           refine s1 (al mr) ?_
           refine .nil (hK _ _ (AW.condS rfl (fun nE=>?_) (fun nE=>?_)))
           ·have e:io C k r U2 (n+1)=tQ (io C k r U2 n) (n*C) (fun U j=>zJ U[n*C+j]! (qM (io C k r U2 n)[n*C+k]! U[r*C+j]!)) C:=by
             conv=>lhs;unfold io
             rw[ay ⟨hnr,pO nE⟩]
            refine rq hN fun K hK=>?_
            refine sa ?_
            refine c1 (Pt.one _) ?_ (hv:=am (by omega) (am (by omega) ai))
            refine s1 (d:=.fn 145 [N+1,N+1+1,E+4,E+5]) va ?_
            refine q1 (sHC (GQ (kM:=kM) (i:=n) (V:=io C k r U2 n) (R:=R) (h:=fun U j=>zJ U[n*C+j]! (qM (io C k r U2 n)[n*C+k]! U[r*C+j]!)) (am (by omega) (am (by omega) (am (by omega) (am (by omega) ai)))) (fun j hj=>by simp at hj;rcases hj with rfl|rfl|rfl|rfl <;> omega) Lx NP hC (fun U j hj hU=>h_by4 (kM:=kM) (kl:=N+1) (kx:=N+1+1) (krs:=E+4) (kr:=E+5) (kR:=E+3) (i:=n) (b:=(io C k r U2 n)[n*C+k]!) ai (am (by omega) (am (by omega) (am (by omega) ai))) (am (by omega) ai) (am (by omega) (am (by omega) (am (by omega) (am (by omega) (am (by omega) (g1 _)))))) (am (by omega) (am (by omega) (am (by omega) (am (by omega) (am (by omega) (g2 _)))))) (am (by omega) (am (by omega) (am (by omega) (am (by omega) (am (by omega) (g3 _)))))) hU hj Eo NP)) rfl (.inl (by kernel_rfl))) ?_
            refine .nil (hK _ _ (rq hN fun K hK=>?_))
            iterate 2 refine sa ?_
            refine .nil (hK _ _ ?_)
            rw[nD]
            refine⟨n+1,?_,NP,by omega⟩
            dsimp only
            rw[e]
            exact wk1 xp (hok:=yg _) (hv:=fun j ds h=>hvT _ _ _ _ _ _ j ds h)
           ·have e:io C k r U2 (n+1)=io C k r U2 n:=by
             conv=>lhs;unfold io
             rw[aA fun h=>pC nE h.2]
            refine AW.skip (rq hN fun K hK=>?_)
            iterate 2 refine sa ?_
            refine .nil (hK _ _ ?_)
            rw[nD]
            refine⟨n+1,?_,NP,by omega⟩
            dsimp only
            rw[e]
            exact wk1 xp (hok:=yg _) (hv:=fun j ds h=>hvF _ _ _ _ _ j ds h)
          ·have e:io C k r U2 (n+1)=io C k r U2 n:=by
            conv=>lhs;unfold io
            rw[aA fun h=>by have:=pC mr;omega]
           iterate 3 refine gn mr ?_
           refine s1 (au mr) ?_
           refine .nil (hK _ _ (AW.condF rfl rfl (AW.skip (rq hN fun K hK=>?_))))
           iterate 2 refine sa ?_
           refine .nil (hK _ _ ?_)
           rw[nD]
           refine⟨n+1,?_,NP,by omega⟩
           dsimp only
           rw[e]
           exact wk1 xp (hok:=yg _) (hv:=fun j ds h=>hvF _ _ _ _ _ j ds h)
         ·refine AW.exit ?_
          have NP:n=R:=by have:=pC bm;omega
          rw[NP,hstep]
          clear bm hn NP
          have hls:(oV R C k i r V).length=R*C:=by rw[uf,hlen]
          refine AV.seq ?_
          refine AV.yield (tb:=tbl) (x:=x) (l:=l) (rec:=rec) (hpE:=⟨HQ,Ng,E⟩) (gE:=g) (wE:=w) 2 rfl (by rw[hN];kernel_rfl) (by kernel_rfl) ⟨xp,hg0,hw0,fun p _ hp=>by rw[LH];exact hp⟩ (fun K hK=>?_)
          refine sa ?_
          refine p1 (Pt.all (F:=pvD pv)) (zY pv) ?_
          have hJ2:=hJ acc vs ((kM,dC ((cW a7).f (oV R C k i r V)))::(N,pvD pv)::vs) lv N (N+1) hJa (dJ _) (by omega) (fun j ds hj hjE h=>am hj (am (by omega) h))
          refine .nil (hK _ _ _ _ _ rfl rfl (by rw[hB];exact hmk _ _ _ _ (hrd (oV R C k i r V) acc pv _ (by omega) (by omega) hls (yg _) ai hJ2)) ?_ ?_)
          ·rintro⟨v2,l2,N2⟩ a w ⟨Ke,⟨hok3,pU,hv3⟩,hJ3⟩ hr
           dsimp only at pU hv3
           show Code.wpIn (FWd none) 0 prog _ _ a w
           have kp:∀j ds,j≠k4→j≠kM→j<N→vs.lookup j=some ds→v2.lookup j=some ds:=fun j ds h1 h2 h3 h=>hv3 j ds (by simpa using h1) (am h2 (am (by omega) h))
           have q5:v2.lookup (E+5)=some [dI .i64 r]:=kp _ _ (by omega) (by omega) (by omega) hvr
           refine (vrq hN fun K hK=>?_) a w hr
           refine c1 (Pt.one _) ?_
           refine sa ?_
           rw[nD]
           refine v1 (k:=E+5) (F:=[dI .i64 r]) (ys:=[dI .i64 ((r+1:Nat):Int)]) (Pt.one _) rfl rfl rfl ?_ rfl q5 rfl
           refine .nil (hK _ _ ?_)
           intro a w hr
           refine .inl ⟨rfl,r+1,oV R C k i r V,acc++[pv],_,Wk.tmS (tin (tin (tin (tin (tin Lb))))) a w hr,⟨hok3.consM (by omega) rfl,rx,by show kk<N2;omega,hls,fun _ _=>?_,?_,ai,?_,fun _ _=>?_,fun _ _=>?_⟩,?_,by rw[eU];exact Nat.succ_le_succ LD,?_⟩
           ·exact am (by omega) (hv3 _ _ (by simpa using fun e=>h4M e.symm) ai)
           ·exact am (by omega) (kp _ _ (fun e=>h40 e.symm) (fun e=>hM0 e.symm) (by omega) hv0)
           ·exact am (by omega) (kp _ _ (by omega) (by omega) (by omega) hvk)
           ·exact am (by omega) (kp _ _ (by omega) (by omega) (by omega) Il)
           ·exact am (by omega) (kp _ _ (by omega) (by omega) (by omega) hvR)
           ·exact hJ (acc++[pv]) v2 _ l2 N2 N2 hJ3 (aL _) (by omega) (fun j ds _ hjE h=>am (by omega) h)
           ·rw[n6,hm,Lw]
            conv=>lhs;unfold mf
            rw[ay Eo,hf]
            dsimp only
            rw[ay Ke,hpv]
          ·rintro bK g2 W' a ⟨Ke,hS2⟩ wd ni GK
           rw[hB] at ni
           refine .inr ⟨rfl,GK,bK,g2,W',rfl,wd,ni,?_,hS2⟩
           rw[n6,hm]
           conv=>lhs;unfold mf
           rw[ay Eo,hf]
           dsimp only
           rw[aA (by rw[Ke];simp)]
    ·rintro ex a w' (⟨rfl,r',V',LW,⟨oM,lv',N'⟩,hr,⟨hok',hnx',hkn',hlen',hvM',hv0',hvr',hvk',hvrs',hvR'⟩,hJ',hal',hred'⟩|⟨rfl,hd,hp',g',W',rfl,hl,hc,hn,hS'⟩)
     ·show Code.wpIn (FWd none) 0 prog _ _ a w'
      dsimp only at hkn' hvM' hv0' hvr' hvk' hvrs' hvR'
      refine (?_:AV prog none x _ (TH l E k0 kk) ⟨oM,lv',N'⟩ _) a w' hr
      refine AV.seqA ?_
      refine rs hN fun K hK=>?_
      refine c1 (Pt.one _) ?_
      refine .nil (hK _ _ (rq hN fun K hK=>?_))
      refine a1 a6 (hz:=rfl) ?_
      refine v1 (k:=N') (F:=[dI .i64 0]) (ys:=[dI .i64 (k:Int)]) (Pt.one _) rfl rfl rfl ?_ rfl ai rfl
      refine .nil (hK _ _ (vrq hN fun K hK=>?_))
      refine c1 (Pt.one _) ?_
      refine sa ?_
      rw[nD]
      refine v1 (k:=N') (F:=[dI .i64 (k:Int)]) (ys:=[dI .i64 ((k+1:Nat):Int)]) (Pt.one _) rfl rfl rfl ?_ rfl ai rfl
      refine .nil (hK _ _ ?_)
      intro a w hr
      refine⟨C - (k+1),_,_,by omega,Wk.tmS (tm':=TH l E k0 N') (tin (tin (tin (tin (tin Lb))))) a w hr,k+1,r',V',LW,N',rfl,Iv,rfl,⟨?_,by omega,cr _,hlen',fun h1 h2=>?_,?_,?_,ai,fun h1 h2=>?_,fun h1 h2=>?_⟩,?_,hal',hred'⟩
      ·exact ((hok'.up (M:=N'+1) (dJ _)).consM (cr _) rfl).consM (cr _) rfl |>.consM (cr _) rfl
      ·exact am (by omega) (am (by omega) (am (by omega) (hvM' h1 h2)))
      ·exact am (by omega) (am (by omega) (am (by omega) hv0'))
      ·exact am (by omega) (am (by omega) (am (by omega) hvr'))
      ·exact am (by omega) (am (by omega) (am (by omega) (hvrs' h1 h2)))
      ·exact am (by omega) (am (by omega) (am (by omega) (hvR' h1 h2)))
      ·exact hJ LW oM _ lv' N' (N'+1) hJ' (dJ _) (by omega) (fun j ds _ hjE h=>am (by omega) (am (by omega) (am (by omega) h)))
     ·exact .inr ⟨rfl,hd,hp',g',W',rfl,hl,hc,hn,hS'⟩
   ·refine AW.exit ?_
    intro a w hr
    have Eo:¬r<R:=by have:=pC lR;omega
    exact .inl ⟨.inl rfl,_,_,hr,V,acc,n6.trans (F8 (.inr Eo)),Lv,Nz,hJa⟩
  ·iterate 4 refine gn hb ?_
   refine s1 (au hb) ?_
   refine .nil (hK _ _ (AW.condF rfl rfl (AW.exit ?_)))
   intro a w hr
   have Iv:¬k<C:=by have:=pC hb;omega
   exact .inl ⟨.inl rfl,_,_,hr,V,acc,n6.trans (F8 (.inl (by omega))),Lv,Nz,hJa⟩
end
end
theorem Mn(x:Nu):aB prog 103 [dG a7 x] (dB (!aQ x)):=by
 refine bL (rs:=[.tmp 2]) (fun cx hx h0=>?_) func103
 refine ra hx ?_
 refine rs hx fun K hK=>?_
 refine s1 (d:=dG a7 x) (aF (an.id _ _) aD) ?_
 refine sc (w_Good x) ?_
 iterate 2 refine sa ?_
 exact .nil (hK _ _ (AW.ret (rv1)))
theorem idxP_ge {p:Nu→Bool}{l:List Nu}:decide (0≤Ih p l)=l.any p:=by
 unfold Ih
 cases h:l.findIdx? p with
 |none=>
  rw[List.findIdx?_eq_none_iff] at h
  have:l.any p=false:=by
   rw[List.any_eq_false]
   intro x hx
   rw[h x hx];simp
  rw[this];rfl
 |some i=>
  obtain⟨hi,h1,_⟩:=Pe.1 h
  have:l.any p=true:=List.any_eq_true.2 ⟨l[i],yz hi,h1⟩
  rw[this]
  exact cV (show (0:Int)≤(i:Int) by omega)
theorem FN {f:FuncId}{p:Nu→Bool}(hf:∀x:Nu,aB prog f [dG a7 x] (dB (p x))){l:List Nu}(hl:l.length≤1000000):aB prog 102 [.e (slE a7 l),.e (.lit (.func (.func f) #[] #[]))] (dB (l.any p)):=by
 refine bL (rs:=[.tmp 4]) (fun cx hx h0=>?_) func102
 refine ra hx ?_
 refine rs hx fun K hK=>?_
 iterate 2 refine sa ?_
 refine sc (Mp hf hl) ?_
 iterate 2 refine sa ?_
 refine .nil (hK _ _ (AW.ret ?_))
 rw[idxP_ge]
 exact rv1
theorem LT(l:List Nu):(!l.any fun x=>!aQ x)=l.all aQ:=by
 induction l with
 |nil=>rfl
 |cons a l ih=>rw[List.any_cons,jZ,Bool.not_or,Bool.not_not,ih]
theorem w_mgood {l:List Nu}(hl:l.length≤1000000):aB prog 58 [.e (slE a7 l)] (dB (l.all aQ)):=by
 refine bL (rs:=[.tmp 2]) (fun cx hx h0=>?_) func58
 refine ra hx ?_
 refine rs hx fun K hK=>?_
 refine sa ?_
 refine sc (FN Mn hl) ?_
 iterate 2 refine sa ?_
 refine .nil (hK _ _ (AW.ret ?_))
 rw[LT]
 exact rv1
theorem AR.own {hp:Hp}{id z n:Nat}{xs:List E}:AR hp (.own id z n xs) (.e (.sl z n xs)):=by
 intro B g w v hr hd
 cases hd with
 |own _ _ _ _ _ h hid ht=>exact .e _ _ (h.less fun p hp=>hp.1)
theorem aB.ofMA {P : Program} {tb : TypeId → Option TyE} (tok : TOk P tb) {f : FuncId} {fn : Func} {c : Code} {ds es : List D} {rs : List ResultVar} (hf : P.funcs[f]? = some fn) (hb : fn.body = some c) (rO : (fn.name == "runtime.NumGoroutine") = false) (hN : ds.length ≤ fn.ntmps) (hrs : fn.results.toList = rs)
  (h:∀x:Cx,x.N=fn.ntmps→x.hp0=⟨[],[],0⟩→x.df=[]→x.B≤x.w0.heap.size→AV P none x c (eg 0 ds) ⟨[],[],0⟩ (L1 x fun _ tm bK=>∃d,v4 tb rs tm bK d∧AR bK d (.tu es))):aB P f ds (.tu es):=by
 subst hrs
 refine⟨⟨fn,hf,rO,by rw[hb];rfl⟩,fun w F vs hF hsz uj=>?_⟩
 have hr:HR w.heap.size ⟨[],[],0⟩ ⟨fun _=>0,fun _=>default,F⟩ w:=⟨fun k ds h=>by simp at h,fun _ _ _ _ h=>by simp at h,fun _ _ _ h=>by simp at h,fun _ _ _ _ _ h=>by simp at h,aL _,hF⟩
 refine (callsIn_wide (n:=0)).1 (callsIn_of_wp_marks (F:=FWd none) hf hb trivial (wpIn_mono (h ⟨w.heap.size,w,F,fn.ntmps,⟨[],[],0⟩,⟨fun _=>0,fun _=>default,F⟩,[]⟩ rfl rfl rfl (aL _) _ _ (EL hr (fun _ _ h=>h) hN hsz uj)) ?_))
 intro ex a w' he
 refine he.leaves rfl ?_
 rintro x2 tm bK D w2 h1 h2 h3 h4 h5 h6 ⟨g',po,g8,L8,Cc,hB,hF',hM⟩ ⟨d,Ip,har⟩ rfl hD tf
 have tf:w.heap.size≤D:=tf
 rw[h1] at po hB hF'
 rw[h2] at hB
 rw[h3] at hF'
 have Iq:=po.putO (o':=.deferred none) hD rfl rfl
 obtain⟨v,bP,lT⟩:=sR (x:=⟨w.heap.size,w,F,fn.ntmps,⟨[],[],0⟩,⟨fun _=>0,fun _=>default,F⟩,[]⟩) (g:=g') tok rfl Ip Iq (fun t d ht=>(g8 t d ht).putO hD rfl rfl)
 refine⟨v,bP,v,rfl,(har _ g' _ v Iq lT).less fun p hp=>⟨hF' p (hF p hp) hp,fun k ds hk he=>?_⟩,sJ hB tf⟩
 have h7:=(Iq.var k ds hk).2.1
 have h8:=hF p hp
 dsimp only at h7
 omega
section
theorem bO.up1 {vs:List (Nat×List D)}{lv:List (Nat×Nat×Nat×TypeId)}{N:Nat}{g:Gh}{w:World}:bO ⟨vs,lv,N⟩ g w ⟨vs,lv,N+1⟩ g w:=
 ⟨aL _,fun _ _ _=>rfl,fun _ _ h=>h,dJ N,fun _ _=>rfl,fun _ _ m _ h=>⟨m,h,aL _,fun _=>rfl⟩,fun _ _ h=>⟨rfl,fun _ _ h=>h,h⟩,fun _=>.same fun _=>rfl⟩
theorem HR.up1 {vs:List (Nat×List D)}{lv:List (Nat×Nat×Nat×TypeId)}{N B:Nat}{g:Gh}{w:World}(hr:HR B ⟨vs,lv,N⟩ g w):HR B ⟨vs,lv,N+1⟩ g w:=by
 refine⟨fun k ds h=>?_,hr.inj,fun id n e h=>?_,hr.tinj,hr.base,hr.fits⟩
 ·obtain⟨a,b,c,cs,ty,d,e,f⟩:=hr.var k ds h
  exact⟨oE a,b,c,cs,ty,d,e,fun j u hu=>⟨(f j u hu).1,fun d hd=>((f j u hu).2 d hd).mono bO.up1⟩⟩
 ·obtain⟨a,b⟩:=hr.tok id n e h
  exact⟨oE a,b⟩
theorem HC.gwOw {P:Program}{f:FuncId}{ds:List D}{hp hp':Hp}{k z n:Nat}(h:HC P f ds hp (.gw k z n) hp'):HC P f ds hp (.ow k 0 z n) hp':=by
 refine⟨h.1,fun B g w vs hr hsz cM=>(h.2 B g w vs hr hsz cM).mono ?_⟩
 rintro e w' ⟨v,g',rfl,h1,h2,h3,h4,h5⟩
 refine⟨v,g',rfl,h1,h2,?_,h4,h5⟩
 cases h3 with
 |gw _ _ _ c hk oY n7 hs=>exact .ow k 0 z n c hk oY n7
section
variable {vs:List (Nat×List D)} {lv:List (Nat×Nat×Nat×TypeId)} {N:Nat}
theorem Ol {V:List Nu}(hl:V.length≤1000000):HC prog 97 [.e (slE a7 V)] ⟨vs,lv,N⟩ (gN N V.length) ⟨if V.length=0 then vs else (N,dC ((cW a7).f V))::vs,lv,N+1⟩:=by
 by_cases h0:V.length=0
 ·obtain rfl:V=[]:=lb h0
  refine⟨(dm 0 [] (by decide)).1,fun B g w us hr hsz cM=>(yv (hp:=⟨vs,lv,N⟩) (ds:=[.e (slE a7 [])]) (dm 0 [] (by decide)) ⟨AR.dn rfl,trivial⟩ hr hsz cM).mono ?_⟩
  rintro e w' ⟨v,rfl,⟨_,_,hE⟩,hb⟩
  have hE2:cH w' g.F (.sl 36 0 []) v:=by
   cases hE with
   |sl _ _ _ A c cs hl hz oY n7 hA h1 h2=>exact .sl _ _ _ A c cs hl hz oY n7 hA (fun ad ha i e hi=>by simp at hi) (fun i e hi=>by simp at hi)
  exact⟨v,g,rfl,(hr.keep hb.size hb.block).up1,(bO.keep _ g hb.size hb.block).trans bO.up1,.e _ _ hE2,hb.mono hr.base,fun _ _ h=>h⟩
 ·have h:=HC.adopt (hp:=⟨vs,lv,N⟩) (ds:=[.e (slE a7 V)]) (dm V.length (V.flatMap a7.f) hl) ⟨AR.dn rfl,trivial⟩ (by omega) (lit_Nu V)
  have h2:=h.gwOw
  rw[show gN N V.length=.ow N 0 36 V.length from aA h0,aA h0]
  exact h2
end
def vL:Cd Pv:=⟨38,fun p=>[.lit (.int .i64 p.col)]++a7.f p.by'++[.lit (.bool p.mov)],fun p=>by simp[a7.h p.by'];rfl⟩
theorem pvD_c(p:Pv):D.ag (pvD p)=dG vL p:=by
 show D.ag (pvD p)=D.ag (([E.lit (.int .i64 p.col)]++a7.f p.by'++[E.lit (.bool p.mov)]).map .e)
 rw[nd,nd]
 rfl
def redE(R C:Nat):Option (List Nu×List Pv)→List D
 |some (U,acc)=>[.ag [dI .i64 R,dI .i64 C,.e (slE a7 U),.e (slE vL acc)],dI .i64 0]
 |none=>[.ag [dI .i64 0,dI .i64 0,.e (slE a7 []),.e (slE vL [])],dI .i64 30]
def PvO(acc:List Pv)(d:D)(hp:Hp):Prop:=(acc=[]∧d=dN)∨∃tk,tk<hp.next∧d=dO tk vL acc∧hp.live.lookup tk=some (acc.length,38,102)
def redJ(kM k4 R C:Nat)(acc:List Pv)(hp:Hp):Prop:=6≤hp.next∧hp.vars.lookup 1=some [dI .i64 0,dI .i64 0,dN,dN]∧hp.vars.lookup 2=some [dI .i64 0]∧∃d,hp.vars.lookup k4=some (ly kM R C++[d])∧PvO acc d hp
def redS(hp:Hp):Prop:=6≤hp.next∧hp.vars.lookup 1=some [dI .i64 0,dI .i64 0,dN,dN]∧hp.vars.lookup 2=some [dI .i64 30]
section
variable {kM R C:Nat}
theorem red_m {d:D}:Pt (ly kM R C++[d]) (0+0) (ly kM R C) (fun ys=>ys++[d]):=Pt.of [] [d] rfl rfl fun y=>rfl
theorem red_D {d:D}:Pt (ly kM R C++[d]) (0+0+2) [gN kM (R*C)] (fun ys=>[dI .i64 R,dI .i64 C]++ys++[d]):=Pt.of [dI .i64 R,dI .i64 C] [d] rfl rfl fun y=>rfl
theorem red_l {d:D}:Pt (ly kM R C++[d]) (0+3) [d] (fun ys=>ly kM R C++ys):=Pt.of (ly kM R C) [] rfl (by simp) fun y=>by simp
theorem Nb {d:D}:Pt [dI .i64 R,dI .i64 C,d] (0+0) [dI .i64 R] (fun ys=>ys++[dI .i64 C,d]):=Pt.of [] _ rfl rfl fun y=>rfl
theorem Nd {d:D}:Pt [dI .i64 R,dI .i64 C,d] (0+1) [dI .i64 C] (fun ys=>[dI .i64 R]++ys++[d]):=Pt.of [dI .i64 R] [d] rfl rfl fun y=>rfl
theorem Nc {d:D}:Pt [dI .i64 R,dI .i64 C,d] (0+2) [d] (fun ys=>[dI .i64 R,dI .i64 C]++ys++[]):=Pt.of [dI .i64 R,dI .i64 C] [] rfl rfl fun y=>rfl
end
end
section
def restC:Code:=match (f63).body with
 |some (.seq _ (.seq _ c))=>c
 |_=>.skip
theorem RS.wk {x:Cx}{tm tm':List (Nat×D)}{hp hp':Hp}{a:Act}{w:World}(hr:RS x tm hp a w)(hw:Wk x tm hp tm' hp'):RS x tm' hp' a w:=hw a w hr
theorem redJ_up {kM k4 R C:Nat}{acc:List Pv}{vs oM:List (Nat×List D)}{lv:List (Nat×Nat×Nat×TypeId)}{N N':Nat}(hM:kM=3∨kM=4)(h4:k4=3∨k4=4)(lh:k4≠kM)(h:redJ kM k4 R C acc ⟨vs,lv,N⟩)(hN:N≤N')(hv:∀j ds,j≠kM→j<6→vs.lookup j=some ds→oM.lookup j=some ds):redJ kM k4 R C acc ⟨oM,lv,N'⟩:=by
 obtain⟨h0,h1,h2,d,h3,h5⟩:=h
 refine⟨cX h0 hN,hv _ _ (by omega) (by omega) h1,hv _ _ (by omega) (by omega) h2,d,hv _ _ lh (by omega) h3,?_⟩
 rcases h5 with h5|⟨tk,a,b,c⟩
 ·exact .inl h5
 ·exact .inr ⟨tk,bW a hN,b,c⟩
theorem m5 {R C:Nat}:∀{n k r:Nat} {V:List Nu} {acc:List Pv} {W:List Nu} {l:List Pv},V.length=R*C→mf R C n k r V acc=some (W,l)→W.length=R*C
 |0,_,_,_,_,_,_,hV,h=>by
  unfold mf at h
  injection h with h
  injection h with h1 h2
  rw[←h1];exact hV
 |n+1,k,r,V,acc,W,l,hV,h=>by
  unfold mf at h
  split at h
  ·split at h
   ·exact m5 hV h
   ·split at h
    ·exact m5 (by rw[uf];exact hV) h
    ·cases h
  ·injection h with h
   injection h with h1 h2
   rw[←h1];exact hV
section
variable {R C kM k4:Nat} {V:List Nu} {x:Cx} {vs:List (Nat×List D)}
theorem yY(hM:kM=3∨kM=4)(h4:k4=3∨k4=4)(lh:k4≠kM)(hN:x.N=(f63).ntmps)(h0:x.hp0=⟨[],[],0⟩)(ry:x.df=[])(hB:x.B≤x.w0.heap.size)(hok:eZ ⟨vs,[],5⟩)
  (hV:V.length=R*C) (Kh:R*C≤1000000) (hR:R≤1000000) (hC:C≤1000000)
  (zM:vs.lookup 1=some [dI .i64 0,dI .i64 0,dN,dN]) (wd:vs.lookup 2=some [dI .i64 0]) (hl4:vs.lookup k4=some (ly kM R C++[dN])) (hlM:0<R→0<C→vs.lookup kM=some (dC ((cW a7).f V)))
  (wM:∀k ds,vs.lookup k=some ds→ds.all D.noO=true):
  AV prog none x restC [(2,.pt 1 0),(3,.pt 2 0),(4,.pt k4 0)] ⟨vs,[],5⟩ (L1 x fun _ tm bK=>∃d,v4 tbl [.cell 2 97,.cell 3 26] tm bK d∧AR bK d (.tu (redE R C (mf R C C 0 0 V [])))):=by
 have hkM6:kM<5:=by omega
 have hk46:k4<5:=by omega
 refine AV.seq ?_
 refine vrs hN fun K hK=>?_
 refine sa ?_
 refine p1 red_m rfl ?_
 refine q1s (d:=.fn 137 [5]) (hp':=⟨(5,ly kM R C)::vs,[],6⟩) (Lm rfl (h_steps (kM:=kM) (R:=R) (C:=C) hkM6) rfl) ?_
 refine .nil (hK _ _ (AV.block ?_))
 have hl5:∀j ds,vs.lookup j=some ds→((5,ly kM R C)::vs).lookup j=some ds:=fun j ds h=>am (hok.ne h (aL _)) h
 refine AV.range (f:=137) (ks:=[5]) rfl ⟨_,func137,rfl,rfl⟩ hB
  (Nn (kM:=kM) (k0:=5) (k4:=k4) (E:=6) (R:=R) (C:=C) (V0:=V) (J:=redJ kM k4 R C) (S:=redS) (by omega) (by omega) (by omega) lh (by omega) (by omega) hV Kh hR hC (fun h1 h2=>hl5 _ _ (hlM h1 h2)) ai (fun k ds h=>?_) (by rw[hN];exact bg rfl) ?_ ?_ ?_) ?_ ?_
 ·rcases dH h with⟨rfl,rfl⟩|⟨_,h⟩
  ·unfold ly gN;split <;> rfl
  ·exact wM k ds h
 ·exact⟨aL _,hl5 _ _ zM,hl5 _ _ wd,dN,hl5 _ _ hl4,.inl ⟨rfl,rfl⟩⟩
 ·exact fun acc vs oM lv N N' h hN _ hv=>redJ_up hM h4 lh h hN hv
 ·rintro V' acc pv ⟨v1',lv,N⟩ HK uE hV' hokp Nz ⟨hN6,hj1,Iw,d,hj4,hpo⟩ l y hy _ hy0
  dsimp only at hN6 hj1 Iw hj4 Nz
  have hk4N:k4<N:=by omega
  have hmD:gN kM (R*C)=.ow kM 0 36 (R*C):=aA (Nat.ne_of_gt (rU HK (by omega)))
  refine vrr (hy.trans hN) (fun K hK=>?_)
  refine a1 jd (hz:=rfl) ?_
  refine v1 (k:=N) (ys:=pvD pv) (F2:=pvD pv) Pt.all (by exact rfl) (by exact zY pv) rfl ?_ rfl ai rfl (ht:=jd)
  have hokN:eZ ⟨(N,pvD pv)::v1',lv,N+1⟩:=(hokp.up (M:=N+1) (dJ _)).consM (cr _) (by unfold pvD;rw[sL,sL,oy];rfl)
  refine .nil (hK _ _ fun a w hr=>⟨rfl,[(2,.pt 1 0),(3,.pt 2 0),(4,.pt k4 0),(5,.pt N 0)],⟨(N,pvD pv)::v1',lv,N+1⟩,RS.wk hr (wk1 hy0 (hok:=hokN) (hv:=fun j ds h=>by
   rcases dH h with⟨rfl,rfl⟩|⟨hj,h⟩
   ·exact ai
   ·exact am hj (am hj h))),fun y2 AO _ h0y=>?_⟩)
  have AO:=AO.trans hN
  refine AV.block ?_
  refine AV.seq ?_
  refine vrrs AO fun K hK=>?_
  iterate 2 refine sa ?_
  refine c1 red_D ?_ (hv:=am (by omega) hj4)
  have Ke:=HC.frz (hp:=⟨(N,pvD pv)::v1',lv,N+1⟩) (ds:=[gN kM (R*C)]) (w_mgood (l:=V') (by rw[hV'];exact Kh)) ⟨by rw[hmD];exact AR.list (am (by omega) Nz) hV',trivial⟩ rfl
  refine q1s (Lm rfl Ke rfl) ?_
  refine sa ?_
  refine .nil (hK _ _ (AV.cond rfl (fun hb=>?_) (fun hb=>?_)))
  ·have hbad:V'.all aQ=false:=by simpa using hb
   refine vrrs AO fun K hK=>?_
   refine s1 (d:=.ag [dI .i64 0,dI .i64 0,dN,dN]) (cY (ps:=[]) j7) ?_
   refine v1 (k:=1) (F:=[dI .i64 0,dI .i64 0,dN,dN]) (ys:=[dI .i64 0,dI .i64 0,dN,dN]) Pt.all (by exact rfl) (by exact rfl) rfl ?_ rfl (am (by omega) hj1) rfl (ht:=j7)
   refine v1 (k:=2) (F:=[dI .i64 0]) (ys:=[dI .i64 30]) (Pt.one _) rfl rfl rfl ?_ rfl (am (by omega) (am (by omega) Iw)) rfl
   refine .nil (hK _ _ (AV.ret fun a w hr=>⟨_,_,hr,hbad,by show 6≤N+1;omega,am (by omega) ai,ai⟩))
  ·have hgood:V'.all aQ=true:=by simpa using hb
   have key:∃tq Ca N2 tk,(∀tm,Wk y2 tm ⟨(N,pvD pv)::v1',lv,N+1⟩ tm ⟨tq,Ca,N2⟩)∧eZ ⟨tq,Ca,N2⟩∧N+1≤N2∧tk<N2∧tq.lookup k4=some (ly kM R C++[dO tk vL acc])∧Ca.lookup tk=some (acc.length,38,102)∧∀j ds,j≠k4→((N,pvD pv)::v1').lookup j=some ds→tq.lookup j=some ds:=by
    rcases hpo with⟨rfl,rfl⟩|⟨tk,NA,rfl,NZ⟩
    ·refine⟨_,_,_,N+1,fun tm=>Wk.nilOwn k4 3 102 38 (hk:=am (by omega) hj4) (hj:=rfl) (hd:=rfl),?_,dJ _,cr _,ai,ai,fun j ds hj h=>am hj h⟩
     have h1:=hokN.up (M:=N+1+1) (dJ _)
     refine⟨fun j es hj=>?_,fun id e hi=>?_⟩
     ·rcases dH hj with⟨e1,rfl⟩|⟨_,hj⟩
      ·refine⟨by rw[e1];show k4<N+1+1;omega,?_⟩
       unfold ly gN
       split <;> simp[D.idsC,dI] <;> omega
      ·exact h1.var j es hj
     ·by_cases e1:id=N+1
      ·rw[e1];show N+1<N+1+1;omega
      ·exact h1.tok id e (by rw[←hi];exact (ar e1).symm)
    ·exact⟨_,_,_,tk,fun tm=>Wk.refl _ _ _,hokN,aL _,oE NA,am (by omega) hj4,NZ,fun j ds hj h=>h⟩
   obtain⟨tq,Ca,N2,tk,hw,yg,hN2,NA,hd4,NZ,hkp⟩:=key
   refine AV.skip fun a w hr=>?_
   show Code.wpIn (FWd (some l)) 0 prog _ _ a w
   refine (AV.weak (hw _) ?_:AV prog (some l) y2 _ _ ⟨(N,pvD pv)::v1',lv,N+1⟩ _) a w hr
   refine vrr AO (fun K hK=>?_)
   refine sa ?_
   refine c1 red_l ?_ (hv:=hd4)
   refine p1 (Pt.all (F:=pvD pv)) (zY pv) ?_ (hv:=hkp _ _ (by omega) ai)
   rw[pvD_c]
   refine s1 (d:=dO N2 vL [pv]) (hp':=⟨tq,(N2,1,38,102)::Ca,N2+1⟩) (qG ([pv]:List Pv) vL sW jd) ?_
   have LD:(acc++[pv]).length≤1000000:=by rw[eU];show acc.length+1≤1000000;omega
   refine s1 (d:=dO tk vL (acc++[pv])) (hp':=⟨tq,(tk,(acc++[pv]).length,38,102)::(N2,1,38,102)::Ca,N2+1⟩) (iS (l:=acc) (l':=[pv]) (c:=vL) (id:=tk) sW jd (cX (ci _ LD) (by decide)) (hl:=(ar (by omega)).trans NZ)) ?_
   refine sa ?_
   refine v1 (k:=k4) (F:=ly kM R C++[dO tk vL acc]) (ys:=[dO tk vL (acc++[pv])]) (F2:=ly kM R C++[dO tk vL (acc++[pv])]) red_l rfl rfl rfl ?_ rfl hd4 rfl
   refine .nil (hK _ _ fun a w hr=>⟨_,_,hr,hgood,⟨?_,?_,?_⟩,?_⟩)
   ·have h1:=(yg.up (M:=N2+1) (dJ _)).consM (k:=k4) (ds:=ly kM R C++[dO tk vL (acc++[pv])]) (by omega) (by unfold ly gN;split <;> simp[D.idsC,dI,dO] <;> omega)
    refine⟨fun j es hj=>h1.var j es hj,fun id e hi=>?_⟩
    by_cases e1:id=tk
    ·rw[e1];show tk<N2+1;omega
    ·by_cases e2:id=N2
     ·rw[e2];show N2<N2+1;omega
     ·exact h1.tok id e (by rw[←hi];exact ((ar e1).trans (ar e2)).symm)
   ·show N≤N2+1;omega
   ·intro j ds hj h
    have hj4':j≠k4:=by simpa using hj
    exact am hj4' (hkp j ds hj4' (am (hokp.ne h (aL _)) h))
   ·refine⟨by show 6≤N2+1;omega,am (by omega) (hkp _ _ (by omega) (am (by omega) hj1)),am (by omega) (hkp _ _ (by omega) (am (by omega) Iw)),_,ai,.inr ⟨tk,by show tk<N2+1;omega,rfl,ai⟩⟩
 ·rintro x' Db ⟨v1',lv,N⟩ a w hbh hrs ⟨V',acc,n6,hok',hM',hN6,hj1,Iw,d,hj4,hpo⟩
  dsimp only at hN6 hj1 Iw hj4 hM'
  have hlen:V'.length=R*C:=m5 hV n6
  show Code.wpIn (FWd none) 0 prog _ _ a w
  refine (vrs (x:=x') (hbh.N.trans hN) fun K hK=>?_) a w hrs
  refine p1 (Pt.all (F:=ly kM R C++[d])) (by exact rfl) ?_ (hv:=hj4) (ht:=j7)
  refine v1 (k:=1) (F:=[dI .i64 0,dI .i64 0,dN,dN]) (ys:=ly kM R C++[d]) Pt.all (by exact rfl) (by exact rfl) rfl ?_ rfl hj1 rfl (ht:=j7)
  refine v1 (k:=2) (F:=[dI .i64 0]) (ys:=[dI .i64 0]) (Pt.one _) rfl rfl rfl ?_ rfl (am (by omega) Iw) rfl
  refine .nil (hK _ _ (AV.ret fun a w hr=>⟨.inr rfl,x',Db,_,_,_,_,hbh,hr,_,resV j7 rfl (am (by omega) ai) (by show 1<N;omega) rfl rfl (MK rfl JN rfl ai (by show 2<N;omega) rfl rfl),?_⟩))
  rw[n6]
  refine AR.tu ⟨AR.ag ⟨AR.dn rfl,AR.dn rfl,?_,?_,trivial⟩,AR.dn rfl,trivial⟩
  ·show AR _ (gN kM (R*C)) (.e (slE a7 V'))
   unfold gN
   by_cases h0:R*C=0
   ·rw[ay h0]
    have:V'=[]:=lb (by omega)
    subst this
    exact AR.dn rfl
   ·rw[aA h0]
    have hRp:0<R:=sN fun e=>h0 (by rw[e,fe])
    have hCp:0<C:=sN fun e=>h0 (by rw[e,E4])
    exact AR.list (am (by omega) (am (by omega) (hM' hRp hCp))) hlen
  ·rcases hpo with⟨rfl,rfl⟩|⟨tk,_,rfl,_⟩
   ·exact AR.le (If (ltb rfl)) rfl
   ·exact AR.own
 ·rintro x' Db ⟨v1',lv,N⟩ a w hbh hrs ⟨n6,hN6,hj1,Iw⟩
  dsimp only at hN6 hj1 Iw
  show L1 x (fun _ tm bK=>∃d,v4 tbl [.cell 2 97,.cell 3 26] tm bK d∧AR bK d (.tu (redE R C (mf R C C 0 0 V [])))) .ret a w
  refine⟨.inr rfl,x',Db,_,_,_,_,hbh,hrs,_,resV j7 rfl hj1 (by show 1<N;omega) rfl rfl (MK rfl JN rfl Iw (by show 2<N;omega) rfl rfl),?_⟩
  rw[n6]
  exact AR.tu ⟨AR.ag ⟨AR.dn rfl,AR.dn rfl,AR.le (If (ltb rfl)) rfl,AR.le (If (ltb rfl)) rfl,trivial⟩,AR.dn rfl,trivial⟩
end
end
section
theorem Wk.tms {x:Cx}{tm tm':List (Nat×D)}{hp:Hp}(hs:∀p∈tm',tm.lookup p.1=some p.2):Wk x tm hp tm' hp:=by
 rintro a w ⟨g,hh,g8,h1⟩
 exact⟨g,hh,fun t d h=>g8 t d (hs _ (Id h)),h1⟩
def Bk(V:List Nu)(N:Nat)(vs:List (Nat×List D)):List (Nat×List D):=if V.length=0 then vs else (N,dC ((cW a7).f V))::vs
section
variable {md:Md} {ops:Array Oper} {K:List (Nat×D)→Hp→Prop} {os:List Oper} {tm:List (Nat×D)} {hp hp':Hp} {t s:Tmp} {ty:TypeId} {pos:String} {af:Array Edge} {vs:List (Nat×List D)} {lv:List (Nat×Nat×Nat×TypeId)} {N n R C:Nat} {V:List Nu}
theorem qa {j:Nat}(h:j≠N):(Bk V N vs).lookup j=vs.lookup j:=by
 unfold Bk
 split
 ·rfl
 ·exact ar h
theorem KC(hok:eZ ⟨vs,lv,N⟩):eZ ⟨Bk V N vs,lv,N+1⟩:=by
 unfold Bk
 split
 ·exact hok.up (dJ N)
 ·exact (hok.up (dJ N)).consM (cr N) (oy _)
theorem KD(wM:∀k ds,vs.lookup k=some ds→ds.all D.noO=true):∀k ds,(Bk V N vs).lookup k=some ds→ds.all D.noO=true:=by
 intro k ds h
 unfold Bk at h
 split at h
 ·exact wM k ds h
 ·rcases dH h with⟨rfl,rfl⟩|⟨_,h⟩
  ·rw[bV]
   intro d hd
   obtain⟨e,_,rfl⟩:=nW.1 hd
   rfl
  ·exact wM k ds h
theorem MJ {x:Operand}{ts:Array TypeId}(hl:V.length≤1000000)(hn:V.length=n)(h2:bC prog tbl md ops K os ((t,gN N n)::tm) ⟨Bk V N vs,lv,N+1⟩)(hx:evD tm x=.e (slE a7 V):=by exact rfl)(oY:md.nc tbl (.call ⟨.value (.func 97),[x].toArray,ts⟩)=true:=by exact rfl):
  bC prog tbl md ops K (⟨some t,.call ⟨.value (.func 97),[x].toArray,ts⟩,ty,pos,af,none⟩::os) tm ⟨vs,lv,N⟩:=by
 subst hn
 refine F3 rfl (sHC (Ol (vs:=vs) (lv:=lv) (N:=N) hl) (by show [evD tm x]=_;rw[hx]) (.inr ⟨dJ _,fun j hj=>?_⟩) rfl oY) h2
 exact qa (V:=V) (Nat.ne_of_lt hj)
end
section
variable {R C:Nat} {V:List Nu}
theorem Mm(hV:V.length=R*C)(Kh:R*C≤1000000)(hR:R≤1000000)(hC:C≤1000000):aB prog 63 [.ag [dI .i64 R,dI .i64 C,.e (slE a7 V)]] (.tu (redE R C (mf R C C 0 0 V []))):=by
 refine aB.ofMA tok func63 rfl rfl (bg rfl) rfl (fun x hN h0 ry hB=>?_)
 simp only[eg,Nat.reduceAdd,bq]
 obtain⟨V0,Ey⟩:∃V0:List (Nat×List D),V0=[(2,[dI .i64 0]),(1,[dI .i64 0,dI .i64 0,dN,dN]),(0,[dI .i64 R,dI .i64 C,.e (slE a7 V)])]:=⟨_,rfl⟩
 refine vrs hN fun K hK=>?_
 refine s1 (d:=.pt 0 0) (hp':=⟨[(0,[dI .i64 R,dI .i64 C,.e (slE a7 V)])],[],1⟩) iN ?_
 refine a1 j7 (hz:=rfl) ?_
 refine a1 JN (hz:=rfl) ?_
 refine .nil (hK _ _ ?_)
 have hok0:eZ ⟨V0,[],3⟩:=by
  rw[Ey]
  exact (((eZ.nil.up (M:=3) (dU _)).consM (by decide) rfl).consM (by decide) rfl).consM (by decide) rfl
 have hno0:∀k ds,V0.lookup k=some ds→ds.all D.noO=true:=by
  intro k ds h
  rw[Ey] at h
  rcases dH h with⟨_,rfl⟩|⟨_,h⟩
  ·rfl
  ·rcases dH h with⟨_,rfl⟩|⟨_,h⟩
   ·rfl
   ·rcases dH h with⟨_,rfl⟩|⟨_,h⟩
    ·rfl
    ·cases h
 have l1:V0.lookup 1=some [dI .i64 0,dI .i64 0,dN,dN]:=by rw[Ey];rfl
 have l2:V0.lookup 2=some [dI .i64 0]:=by rw[Ey];rfl
 have l0:V0.lookup 0=some [dI .i64 R,dI .i64 C,.e (slE a7 V)]:=by rw[Ey];rfl
 have hVl:V.length≤1000000:=by omega
 have Gs:∀{kM M:Nat},kM<M→(ly kM R C++[dN]).all (D.idsC M)=true:=fun {kM M} h=>by
  unfold ly gN;split <;> simp[D.idsC,dI] <;> omega
 have J0:∀{kM:Nat},(ly kM R C++[dN]).all D.noO=true:=fun {kM}=>by
  unfold ly gN;split <;> rfl
 have hMl:∀N,0<R→0<C→(Bk V N V0).lookup N=some (dC ((cW a7).f V)):=fun N h1 h2=>by
  have:0<R*C:=rU h1 h2
  unfold Bk
  rw[ifn_]
  exact ai
 have hcM:∀k,(gN k (R*C)).cells=some [gN k (R*C)]:=fun k=>by unfold gN;split <;> rfl
 have hpt:∀k,kL [(0,dI .i64 R),(1,dI .i64 C),(2,gN k (R*C))]=some [(0,[dI .i64 R]),(1,[dI .i64 C]),(2,[gN k (R*C)])]:=fun k=>by
  simp only[kL,hcM]
  rfl
 show AV prog none x _ [(3,.pt 2 0),(2,.pt 1 0),(1,.pt 0 0),(0,.ag [dI .i64 R,dI .i64 C,.e (slE a7 V)])] ⟨[(2,[dI .i64 0]),(1,[dI .i64 0,dI .i64 0,dN,dN]),(0,[dI .i64 R,dI .i64 C,.e (slE a7 V)])],[],3⟩ _
 rw[←Ey]
 refine AV.seqA (dw (DW.split 6 9 (by decide) ?_ ?_))
 ·refine dwg [] [0,1,2,3,4,5,6,7,8,9,10] hN (by kernel_rfl) (by kernel_rfl) (by kernel_rfl) fun K hK=>?_
  dsimp only[d8,nj,nA,List.map]
  refine sa ?_
  refine c1 Nb ?_ (hv:=l0)
  refine sa ?_
  refine c1 Nd ?_ (hv:=l0)
  refine sa ?_
  refine c1 Nc ?_ (hv:=l0)
  refine MJ hVl hV ?_
  refine s1 (d:=.ag [dI .i64 R,dI .i64 C,gN 3 (R*C)]) (cY (qs:=[(0,[dI .i64 R]),(1,[dI .i64 C]),(2,[gN 3 (R*C)])]) ax (hp1:=hpt 3)) ?_
  refine s1 (d:=.ag [dI .i64 R,dI .i64 C,gN 3 (R*C),dN]) (cY j7) ?_
  refine a1 j7 (hz:=rfl) ?_
  refine v1 (k:=4) (F:=[dI .i64 0,dI .i64 0,dN,dN]) (ys:=ly 3 R C++[dN]) Pt.all (by exact rfl) (by exact rfl) rfl ?_ rfl ai rfl (ht:=j7)
  refine .nil (hK _ _ ?_)
  have h1:=(KC (V:=V) hok0).up (M:=5) (by decide)
  refine AV.weak (Wk.tms ?_) (yY (kM:=3) (k4:=4) (.inl rfl) (.inr rfl) (by decide) hN h0 ry hB ((h1.consM (k:=4) (ds:=[dI .i64 0,dI .i64 0,dN,dN]) (by decide) rfl).consM (k:=4) (by decide) (Gs (by decide))) hV Kh hR hC (am (by decide) (am (by decide) ((qa (by decide)).trans l1))) (am (by decide) (am (by decide) ((qa (by decide)).trans l2))) ai (fun a b=>am (by decide) (am (by decide) (hMl 3 a b))) (fun k ds h=>?_))
  ·intro p hp
   simp only[m9,yB,or_false] at hp
   rcases hp with rfl|rfl|rfl <;> rfl
  ·rcases dH h with⟨_,rfl⟩|⟨_,h⟩
   ·exact J0
   ·rcases dH h with⟨_,rfl⟩|⟨_,h⟩
    ·rfl
    ·exact KD hno0 k ds h
 ·refine dwg [] [0,1,2,3,4,5,9,6,7,8,10] hN (by kernel_rfl) (by kernel_rfl) (by kernel_rfl) fun K hK=>?_
  dsimp only[d8,nj,nA,List.map]
  refine sa ?_
  refine c1 Nb ?_ (hv:=l0)
  refine sa ?_
  refine c1 Nd ?_ (hv:=l0)
  refine sa ?_
  refine c1 Nc ?_ (hv:=l0)
  refine a1 j7 (hz:=rfl) ?_
  refine MJ hVl hV ?_
  refine s1 (d:=.ag [dI .i64 R,dI .i64 C,gN 4 (R*C)]) (cY (qs:=[(0,[dI .i64 R]),(1,[dI .i64 C]),(2,[gN 4 (R*C)])]) ax (hp1:=hpt 4)) ?_
  refine s1 (d:=.ag [dI .i64 R,dI .i64 C,gN 4 (R*C),dN]) (cY j7) ?_
  have l3:(Bk V 4 ((3,[dI .i64 0,dI .i64 0,dN,dN])::V0)).lookup 3=some [dI .i64 0,dI .i64 0,dN,dN]:=(qa (by decide)).trans ai
  refine v1 (k:=3) (F:=[dI .i64 0,dI .i64 0,dN,dN]) (ys:=ly 4 R C++[dN]) Pt.all (by exact rfl) (by exact rfl) rfl ?_ rfl l3 rfl (ht:=j7)
  refine .nil (hK _ _ ?_)
  have h1:=KC (V:=V) ((hok0.up (M:=4) (by decide)).consM (k:=3) (ds:=[dI .i64 0,dI .i64 0,dN,dN]) (by decide) rfl)
  refine AV.weak (Wk.tms ?_) (yY (kM:=4) (k4:=3) (.inr rfl) (.inl rfl) (by decide) hN h0 ry hB (h1.consM (k:=3) (by decide) (Gs (by decide))) hV Kh hR hC (am (by decide) ((qa (by decide)).trans (am (by decide) l1))) (am (by decide) ((qa (by decide)).trans (am (by decide) l2))) ai (fun a b=>am (by decide) ?_) (fun k ds h=>?_))
  ·intro p hp
   simp only[m9,yB,or_false] at hp
   rcases hp with rfl|rfl|rfl <;> rfl
  ·have:0<R*C:=rU a b
   unfold Bk
   rw[ifn_]
   exact ai
  ·rcases dH h with⟨_,rfl⟩|⟨_,h⟩
   ·exact J0
   ·refine KD (fun k ds h=>?_) k ds h
    rcases dH h with⟨_,rfl⟩|⟨_,h⟩
    ·rfl
    ·exact hno0 k ds h
end
end
end
end Go.Proofs.YtgfcnncojhkcoaaGreat
