/-
  Lemmas, part 5. Conditions: none.
-/
import Derived.Test.YtgfcnncojhkcoaaGreatV4
import Derived.RangeFuncNested
import Derived.RangeFuncLeaves
set_option linter.all false
set_option maxRecDepth 100000
set_option maxHeartbeats 4000000
namespace Go.Proofs.YtgfcnncojhkcoaaGreat
open Go.RowKit Go.IntKind Tryz
noncomputable section
section
inductive FzC (k z n n2:Nat) (F:List E):D→D→Prop
 |hit:FzC k z n n2 F (.ow k 0 z n) (.e (.sl z n2 F))
 |hitG:FzC k z n n2 F (.gw k z n) (.e (.sl z n2 F))
 |keep (d:D):FzC k z n n2 F d d
 |drop (d:D):FzC k z n n2 F d .top
inductive FzL (k z n n2:Nat) (F:List E):List D→List D→Prop
 |nil:FzL k z n n2 F [] []
 |cons {a b:D} {l m:List D} (h:FzC k z n n2 F a b) (hl:FzL k z n n2 F l m):FzL k z n n2 F (a::l) (b::m)
inductive FzD (k z n n2:Nat) (F:List E):D→D→Prop
 |c {a b:D} (h:FzC k z n n2 F a b):FzD k z n n2 F a b
 |ag {l m:List D} (h:FzL k z n n2 F l m):FzD k z n n2 F (.ag l) (.ag m)
theorem FzL.get {k z n n2:Nat}{F:List E}{l m:List D}(h:FzL k z n n2 F l m):l.length=m.length∧∀(i:Nat) (b:D),m[i]? =some b→∃a,l[i]? =some a∧FzC k z n n2 F a b:=by
 induction h with
 |nil=>exact⟨rfl,fun i b h=>by simp at h⟩
 |cons h hl ih=>
  refine⟨by simp[ih.1],fun i b hb=>?_⟩
  cases i with
  |zero=>simp at hb;subst hb;exact⟨_,rfl,h⟩
  |succ i=>exact ih.2 i b (by simpa using hb)
theorem FzL.same {k z n n2:Nat}{F:List E}:∀l:List D,FzL k z n n2 F l l
 |[]=>.nil
 |a::l=>.cons (.keep a) (FzL.same l)
section
variable {B k z n N:Nat} {F:List E} {vs mJ:List (Nat×List D)} {lv:List (Nat×Nat×Nat×TypeId)} {g:Gh} {w:World} {d d':D} {v:Value}
def Gh.less(g:Gh)(k:Nat):Gh:=⟨g.μ,g.τ,fun p=>g.F p∧p.block≠g.μ k⟩
theorem FzC.rep(hr:HR B ⟨vs,lv,N⟩ g w)(hv:vs.lookup k=some (dC F))(hF:F.length=n*z)(hz:0<z)(mo:bB ⟨vs,lv,N⟩ g w ⟨mJ,lv,N⟩ (g.less k) w)(h:FzC k z n n F d d')(hd:aM ⟨vs,lv,N⟩ g w d v):aM ⟨mJ,lv,N⟩ (g.less k) w d' v:=by
 have key:∀v,aM ⟨vs,lv,N⟩ g w (.ow k 0 z n) v→aM ⟨mJ,lv,N⟩ (g.less k) w (.e (.sl z n F)) v:=by
  intro u cE
  obtain⟨h1,h2,h3,cs,ty,h4,h5,h6⟩:=hr.var k _ hv
  cases cE with
  |ow _ _ _ _ c hk nJ mQ=>
   have oW:F.length≤cs.size:=by rw[fH] at h5;exact h5
   refine .e _ _ (.sl z n F (some ⟨g.μ k,0,none⟩) c (fun i=>cs.getD i undef) hF hz nJ mQ (fun _=>⟨_,rfl,(f7.1 h4).1⟩) (fun ad ha i e hi=>?_) (fun i e hi=>?_))
   ·injection ha with ha
    subst ha
    have bz:i<cs.size:=bG (lX.1 hi).1 oW
    refine⟨?_,fun hf=>hf.2 (by rw[gk])⟩
    rw[Addr.add_lit]
    simp[World.cell?,h4,cz,bz]
   ·have bz:i<cs.size:=bG (lX.1 hi).1 oW
    have hu:=h6 i (cs.getD i undef) (by simp[cz,bz])
    have:=hu.2 (.e e) (by unfold dC;rw[cF,hi];rfl)
    cases this with
    |e _ _ h7=>exact cC.less h7 fun p hp=>hp.1
 cases h with
 |hit=>exact key v hd
 |hitG=>exact key v hd.toOw
 |keep=>exact hd.mono mo
 |drop=>exact .top v
theorem FzD.rep(hr:HR B ⟨vs,lv,N⟩ g w)(hv:vs.lookup k=some (dC F))(hF:F.length=n*z)(hz:0<z)(mo:bB ⟨vs,lv,N⟩ g w ⟨mJ,lv,N⟩ (g.less k) w)(h:FzD k z n n F d d')(hd:aM ⟨vs,lv,N⟩ g w d v):aM ⟨mJ,lv,N⟩ (g.less k) w d' v:=by
 cases h with
 |c h=>exact h.rep hr hv hF hz mo hd
 |ag h=>
  obtain⟨h1,h2⟩:=h.get
  cases hd with
  |ag _ cs hl ho BG=>
   refine .ag _ cs (by omega) ho fun j b u hj hu=>?_
   obtain⟨a,h3,h4⟩:=h2 j b hj
   exact h4.rep hr hv hF hz mo (BG j a u h3 hu)
theorem uO {α:Type}{l:List (Nat×α)}{k:Nat}{y:α}(h:l.lookup k=some y):(k,y)∈l:=by
 induction l with
 |nil=>simp at h
 |cons p l ih=>
  obtain⟨a,b⟩:=p
  by_cases hk:k=a
  ·subst hk
   rw[ai] at h
   injection h with h
   subst h
   exact lq ..
  ·rw[au hk] at h
   exact mA _ (ih h)
theorem WkS.frzD {tm ts:List (Nat×D)}{us:List (Nat×List D)}(hF:F.length=n*z)(hz:0<z)(hv:vs.lookup k=some (dC F))(LC:∀p∈ts,∃d0,tm.lookup p.1=some d0∧FzD k z n n F d0 p.2)(M5:∀p∈us,p.1≠k∧∃nl,vs.lookup p.1=some nl∧FzL k z n n F nl p.2):
  WkS tm ⟨vs,lv,N⟩ (ts++tm) ⟨us++vs.filter fun p=>!([k]:List Nat).contains p.1,lv,N⟩:=by
 intro B g w ρ hr gJ
 obtain⟨h1,h2,h3,cs,ty,h4,h5,h6⟩:=hr.var k _ hv
 have look:∀{j:Nat} {ds:List D},(us++vs.filter fun p=>!([k]:List Nat).contains p.1).lookup j=some ds→j≠k∧∃nl,vs.lookup j=some nl∧FzL k z n n F nl ds:=by
  intro j ds h
  rcases nG h with h|h
  ·exact M5 _ (uO h)
  ·obtain⟨a,b⟩:=ja h
   exact⟨by simpa using a,ds,b,FzL.same ds⟩
 have lK:∀{j:Nat} {ds:List D},j≠k→vs.lookup j=some ds→g.μ j≠g.μ k:=fun hj hl e=>hj (hr.inj _ _ _ _ hl hv e)
 have mo:bB ⟨vs,lv,N⟩ g w ⟨us++vs.filter fun p=>!([k]:List Nat).contains p.1,lv,N⟩ (g.less k) w:=by
  refine⟨aI _,fun _ _ _=>rfl,fun _ _ h=>h.1,aI _,fun _ _=>rfl,fun _ _ m _ h=>⟨m,h,aI _,fun _=>rfl⟩,fun b hb hf=>⟨rfl,fun p hp hq=>⟨hq,?_⟩,fun j ds hj=>?_,hf.2⟩,fun _=>.same fun _=>rfl⟩
  ·rw[hp];exact fun e=>hf.1 k _ hv e.symm
  ·obtain⟨_,nl,h,_⟩:=look hj
   exact hf.1 j nl h
 refine⟨g.less k,⟨fun j ds hj=>?_,fun j j' ds ds' hj EZ he=>?_,fun id m e hi=>?_,hr.tinj,hr.base,fun p hp=>hr.fits p hp.1⟩,mo,fun t' d hd=>?_,fun p hp hq=>⟨hq,?_⟩⟩
 ·obtain⟨a1,nl,a2,a3⟩:=look hj
  obtain⟨a4,a5⟩:=a3.get
  obtain⟨b1,b2,b3,rM,G6,b4,b5,b6⟩:=hr.var j nl a2
  refine⟨b1,b2,fun p hp=>⟨b3 p hp,by rw[hp];exact lK a1 a2⟩,rM,G6,b4,by omega,fun i u hu=>⟨fun hi=>(b6 i u hu).1 (by omega),fun d hd=>?_⟩⟩
  obtain⟨d0,c1,c2⟩:=a5 i d hd
  exact c2.rep hr hv hF hz mo ((b6 i u hu).2 d0 c1)
 ·obtain⟨_,_,a2,_⟩:=look hj
  obtain⟨_,_,a2',_⟩:=look EZ
  exact hr.inj j j' _ _ a2 a2' he
 ·obtain⟨b1,sI,b2,b3,b4⟩:=hr.tok id m e hi
  refine⟨b1,sI,b2,b3,fun b hb=>⟨fun p hp hq=>⟨(b4 b hb).1 p hp hq,by rw[hp];exact fun e=>(b4 b hb).2 k _ hv e.symm⟩,fun j ds hj=>?_⟩⟩
  obtain⟨_,_,a2,_⟩:=look hj
  exact (b4 b hb).2 j _ a2
 ·rcases nG hd with h|h
  ·obtain⟨d0,c1,c2⟩:=LC _ (uO h)
   exact c2.rep hr hv hF hz mo (gJ _ _ c1)
  ·exact (gJ t' d h).mono mo
 ·intro e
  omega
end
theorem AR.le {hp:Hp}{d d2:D}(h:d.ex.le d2)(hp1:d.ex.pure=true):AR hp d d2:=fun B g w v hr hd=>(AR.data hp1 B g w v hr hd).le h
def D.refC:D→Bool
 | .e (.lit _)=>true
 | .pt _ _=>true
 | .ow _ _ _ _=>true
 | .gw _ _ _=>true
 |_=>false
def D.ref1:D→Bool
 | .ag ds=>ds.all D.refC
 |d=>d.refC
def D.ref2:D→Bool
 | .tu ds=>ds.all D.ref1
 |d=>d.ref1
section
variable {P:Program} {hp bF:Hp} {g g2:Gh} {w:World} {ρ:Nat→Nat} {d:D} {v:Value}
theorem qQ(h:aM hp g w d v)(hn:d.refC=true)(qH:∀i,i<hp.next→ρ i<bF.next)(hμ:∀i,i<hp.next→g2.μ (ρ i)=g.μ i):aM bF g2 w (d.renC ρ) v:=by
 cases h with
 |e x v h=>
  cases x with
  |lit u=>cases h with|lit _ ho=>exact .e _ _ (.lit _ ho)
  |_=>cases hn
 |pt k off hk=>rw[←hμ k hk];exact .pt _ off (qH k hk)
 |ow k off z n c hk h1 h2=>rw[←hμ k hk];exact .ow _ off z n c (qH k hk) h1 h2
 |gw k z n c hk h1 h2 hs=>rw[←hμ k hk];exact .gw _ z n c (qH k hk) h1 h2 (by rw[hμ k hk];exact hs)
 |_=>cases hn
theorem qR(h:aM hp g w d v)(hn:d.ref1=true)(qH:∀i,i<hp.next→ρ i<bF.next)(hμ:∀i,i<hp.next→g2.μ (ρ i)=g.μ i):aM bF g2 w (d.ren ρ) v:=by
 cases d with
 |ag ds=>
  cases h with
  |ag _ cs hl ho BG=>
   refine .ag _ cs (by simpa using hl) ho fun j d u hj hu=>?_
   rw[cF] at hj
   obtain⟨d0,h4,rfl⟩:=nT.1 hj
   exact qQ (BG j d0 u h4 hu) (b7.1 hn d0 (bO h4)) qH hμ
 |e x=>exact qQ h hn qH hμ
 |pt k o=>exact qQ h hn qH hμ
 |ow k o z n=>exact qQ h hn qH hμ
 |gw k z n=>exact qQ h hn qH hμ
 |_=>cases hn
theorem Mm(h:aM hp g w d v)(hn:d.ref2=true)(qH:∀i,i<hp.next→ρ i<bF.next)(hμ:∀i,i<hp.next→g2.μ (ρ i)=g.μ i):aM bF g2 w (d.ren2 ρ) v:=by
 cases d with
 |tu ds=>
  cases h with
  |tu _ cs hl BG=>
   refine .tu _ cs (by simpa using hl) fun j d u hj hu=>?_
   rw[cF] at hj
   obtain⟨d0,h4,rfl⟩:=nT.1 hj
   exact qR (BG j d0 u h4 hu) (b7.1 hn d0 (bO h4)) qH hμ
 |ag ds=>exact qR h hn qH hμ
 |e x=>exact qR h hn qH hμ
 |pt k o=>exact qR h hn qH hμ
 |ow k o z n=>exact qR h hn qH hμ
 |gw k z n=>exact qR h hn qH hμ
 |_=>cases hn
end
theorem HC.frame0R {P:Program}{f:FuncId}{ds dsE:List D}{r:D}{nj vs:List (Nat×List D)}{lv:List (Nat×Nat×Nat×TypeId)}{n' N:Nat}(h:HC P f dsE ⟨[],[],0⟩ r ⟨nj,[],n'⟩)
  (ha:ARs ⟨vs,lv,N⟩ ds dsE) (hr:r.ref2=true) (hvo:∀k cs,nj.lookup k=some cs→cs.all D.refC=true):
  HC P f ds ⟨vs,lv,N⟩ (r.ren2 (fun i=>N+i)) ⟨nj.map (fun p=>(N+p.1,p.2.map (D.renC fun i=>N+i)))++vs,lv,N+n'⟩:=by
 refine⟨h.1,fun B g w us hR hsz cE=>?_⟩
 obtain⟨yU,vo⟩:=ha.get
 have hS0:HR w.heap.size ⟨[],[],0⟩ ⟨fun _=>0,fun _=>default,Fv ⟨vs,lv,N⟩ g⟩ w:=
  ⟨fun k ds h=>by simp at h,fun k k' a b h=>by simp at h,fun id n e h=>by simp at h,fun id yn a b c h=>by simp at h,aI _,Kv hR⟩
 refine (h.2 w.heap.size _ w us hS0 (by omega) (fun j e u he hu=>?_)).mono ?_
 ·obtain⟨d,h3,h4⟩:=vo j e he
  exact h4 B g w u hR (cE j d u h3 hu)
 rintro en w' ⟨v,g',rfl,Gj,hM,kS,hB,hF⟩
 let g2:Gh:=⟨fun i=>if i<N then g.μ i else g'.μ (i - N),g.τ,fun p=>g.F p∨∃k cs,nj.lookup k=some cs∧p.block=g'.μ k⟩
 have hμo:∀i,i<N→g2.μ i=g.μ i:=fun i hi=>ao hi
 have t7:∀i,g2.μ (N+i)=g'.μ i:=fun i=>by
  show (if N+i<N then _ else g'.μ (N+i - N))=_
  rw[ifn_,EH]
 have look:∀{j:Nat} {cs:List D},(nj.map (fun p=>(N+p.1,p.2.map (D.renC fun i=>N+i)))++vs).lookup j=some cs→
   (∃i a,N+i=j∧nj.lookup i=some a∧a.map (D.renC fun i=>N+i)=cs)∨(j<N∧vs.lookup j=some cs):=fun {j cs} h=>by
  rcases nG h with h|h
  ·exact .inl (mN (fun i=>N+i) (fun l:List D=>l.map (D.renC fun i=>N+i)) h)
  ·exact .inr ⟨(hR.var j cs h).1,h⟩
 have hold:∀b,b<w.heap.size→w'.heap[b]? =w.heap[b]? :=hB.block
 have mo:bB ⟨vs,lv,N⟩ g w ⟨nj.map (fun p=>(N+p.1,p.2.map (D.renC fun i=>N+i)))++vs,lv,N+n'⟩ g2 w':=by
  refine⟨hB.size,fun p hp _=>World.cell?_of_block (hold _ hp),fun p hp hf=>?_,nU _ _,fun k hk=>hμo k hk,fun id _ m e hm=>⟨m,hm,aI _,fun _=>rfl⟩,fun b hb hf=>⟨hold b hb,fun p _ hq=>.inl hq,fun k ds hk=>?_,hf.2⟩,fun b=>.same (hold b)⟩
  ·rcases hf with hf|⟨k,cs,hk,he⟩
   ·exact hf
   ·have:=(Gj.var k cs hk).2.1
    omega
  ·rcases look hk with⟨i,a,rfl,h1,_⟩|⟨h1,h2⟩
   ·rw[t7]
    have:=(Gj.var i a h1).2.1
    omega
   ·rw[hμo k h1];exact hf.1 k ds h2
 refine⟨v,g2,rfl,⟨fun k cs hk=>?_,fun k k' a b hk s5 he=>?_,fun id m e hi=>?_,fun id yn t t' b h1 h2 h3 h4=>hR.tinj id yn t t' b h1 h2 h3 h4,cG hR.base hB.size,fun p hf=>?_⟩,mo,Mm kS hr (fun i hi=>tw hi N) (fun i _=>t7 i),hB.mono hR.base,fun p _ hp=>.inl hp⟩
 ·rcases look hk with⟨i,a,rfl,h1,h2⟩|⟨h1,h2⟩
  ·obtain⟨b1,b2,b3,ys,ty,b4,b5,b6⟩:=Gj.var i a h1
   refine⟨tw b1 N,by rw[t7];exact cG hR.base b2,fun p hp=>.inr ⟨i,a,h1,by rw[hp,t7]⟩,ys,ty,by rw[t7];exact b4,by rw[←h2,bS];exact b5,fun j u hu=>⟨fun hj=>(b6 j u hu).1 (by rw[←h2,bS] at hj;exact hj),fun d hd=>?_⟩⟩
   rw[←h2,cF] at hd
   obtain⟨d0,h4,rfl⟩:=nT.1 hd
   exact qQ ((b6 j u hu).2 d0 h4) (b7.1 (hvo i a h1) d0 (bO h4)) (fun i hi=>tw hi N) (fun i _=>t7 i)
  ·have bz:=hR.var_lt h2
   obtain⟨b1,b2,b3,ys,ty,b4,b5,b6⟩:=hR.var k cs h2
   exact⟨bG b1 (nU _ _),by rw[hμo k h1];exact b2,fun p hp=>.inl (b3 p (by rw[hp,hμo k h1])),ys,ty,by rw[hμo k h1,hold _ bz];exact b4,b5,fun j u hu=>⟨(b6 j u hu).1,fun d hd=>((b6 j u hu).2 d hd).mono mo⟩⟩
 ·rcases look hk with⟨i,x,rfl,h1,_⟩|⟨h1,h2⟩ <;> rcases look s5 with⟨i',x',rfl,sB,_⟩|⟨sB,rJ⟩
  ·rw[t7,t7] at he
   rw[Gj.inj i i' x x' h1 sB he]
  ·rw[t7,hμo _ sB] at he
   have h3:=(Gj.var i x h1).2.1
   have h4:=hR.var_lt rJ
   omega
  ·rw[t7,hμo _ h1] at he
   have h3:=(Gj.var i' x' sB).2.1
   have h4:=hR.var_lt h2
   omega
  ·rw[hμo _ h1,hμo _ sB] at he
   exact hR.inj k k' a b h2 rJ he
 ·obtain⟨b1,ys,b2,b3,b4⟩:=hR.tok id m e hi
  refine⟨bG b1 (nU _ _),ys,b2,⟨b3.1,?_⟩,fun b hb=>⟨fun p hp hq=>.inl ((b4 b hb).1 p hp hq),fun k cs hk=>?_⟩⟩
  ·rcases b3.2 with h0|⟨b,cap,cur,hv,hBb,hh,r⟩
   ·exact .inl h0
   ·exact .inr ⟨b,cap,cur,hv,hBb,(hold b (f7.1 hh).1).trans hh,r⟩
  ·have hblt:b<w.heap.size:=by
    rcases b3.2 with⟨h0,_⟩|⟨b',cap,cur,hv,hBb,hh,r⟩
    ·rw[show g2.τ id=g.τ id from rfl,h0] at hb;simp[Value.ownBlock] at hb
    ·rw[show g2.τ id=g.τ id from rfl,hv] at hb
     simp[Value.ownBlock] at hb
     subst hb
     exact (f7.1 hh).1
   rcases look hk with⟨i,x,rfl,h1,_⟩|⟨h1,h2⟩
   ·rw[t7]
    have:=(Gj.var i x h1).2.1
    omega
   ·rw[hμo _ h1];exact (b4 b hb).2 k cs h2
 ·rcases hf with hf|⟨k,cs,hk,he⟩
  ·exact bG (hR.fits p hf) hB.size
  ·obtain⟨_,_,_,ys,ty,b4,_⟩:=Gj.var k cs hk
   rw[he];exact (f7.1 b4).1
def yd(x:Cx)(d:D)(hp:Hp)(d':D)(hp':Hp):Prop:=∀(g:Gh) (w:World) (v:Value),HR x.B hp g w→aM hp g w d v→bB x.hp0 x.g0 x.w0 hp g w→Below x.B x.w0 w→(∀p:Addr,p.block<x.B→x.F0 p→g.F p)→∃g',HR x.B hp' g' w∧aM hp' g' w d' v∧bB x.hp0 x.g0 x.w0 hp' g' w∧∀p:Addr,p.block<x.B→x.F0 p→g'.F p
theorem yd.of_wk {x:Cx}{d d':D}{hp hp':Hp}(hN:0<x.N)(hw:Wk x [(0,d)] hp [(0,d')] hp'):yd x d hp d' hp':=by
 intro g w v hr hd hM hB hF
 have hrs:RS x [(0,d)] hp {tmps:=(Array.replicate x.N undef).setIfInBounds 0 v,defers:=x.df} w:=by
  refine⟨g,hr,fun t d2 ht=>?_,by simp,rfl,hB,hF,hM⟩
  by_cases h0:t=0
  ·subst h0
   have:some d=some d2:=by rw[←ht];exact ai.symm
   injection this with this
   subst this
   have:((Array.replicate x.N undef).setIfInBounds 0 v).getD 0 undef=v:=by simp[cz,hN]
   dsimp only
   rw[this];exact hd
  ·rw[au h0] at ht;cases ht
 obtain⟨g',h1,h2,_,_,_,h3,h4⟩:=hw _ _ hrs
 refine⟨g',h1,?_,h4,h3⟩
 have:=h2 0 d' ai
 have e:((Array.replicate x.N undef).setIfInBounds 0 v).getD 0 undef=v:=by simp[cz,hN]
 dsimp only at this
 rwa[e] at this
theorem yd.of_wk2 {x:Cx}{d d' e e':D}{hp hp':Hp}(hN:1<x.N)(hw:Wk x [(0,d),(1,e)] hp [(0,d'),(1,e')] hp'):yd x (.tu [d,e]) hp (.tu [d',e']) hp':=by
 intro g w v hr hd hM hB hF
 cases hd with
 |tu _ cs hl BG=>
  have vo:cs.size=2:=hl
  have c0:cs[0]? =some cs[0]:=lI (by omega)
  have c1:cs[1]? =some cs[1]:=lI (by omega)
  have t0:((((Array.replicate x.N undef).setIfInBounds 0 cs[0]).setIfInBounds 1 cs[1]).getD 0 undef)=cs[0]:=by
   have:0<x.N:=by omega
   rw[cz,A9 (by decide)]
   simp[this]
  have t1:((((Array.replicate x.N undef).setIfInBounds 0 cs[0]).setIfInBounds 1 cs[1]).getD 1 undef)=cs[1]:=by
   simp[cz,hN]
  have hrs:RS x [(0,d),(1,e)] hp {tmps:=((Array.replicate x.N undef).setIfInBounds 0 cs[0]).setIfInBounds 1 cs[1],defers:=x.df} w:=by
   refine⟨g,hr,fun t d2 ht=>?_,by simp,rfl,hB,hF,hM⟩
   by_cases h0:t=0
   ·subst h0
    have:some d=some d2:=by rw[←ht];exact ai.symm
    injection this with this
    subst this
    dsimp only
    rw[t0]
    exact BG 0 d _ rfl c0
   ·rw[au h0] at ht
    by_cases h1:t=1
    ·subst h1
     have:some e=some d2:=by rw[←ht];exact ai.symm
     injection this with this
     subst this
     dsimp only
     rw[t1]
     exact BG 1 e _ rfl c1
    ·rw[au h1] at ht;cases ht
  obtain⟨g',h1,h2,_,_,_,h3,h4⟩:=hw _ _ hrs
  have k0:=h2 0 d' ai
  have k1:=h2 1 e' ((au (by decide)).trans ai)
  dsimp only at k0 k1
  rw[t0] at k0
  rw[t1] at k1
  refine⟨g',h1,.tu _ cs hl fun j dj u hj hu=>?_,h4,h3⟩
  match j,hj,hu with
  |0,hj,hu=>
   have e1:some d'=some dj:=hj
   injection e1 with e1
   rw[c0] at hu
   injection hu with hu
   rw[←e1,←hu];exact k0
  |1,hj,hu=>
   have e1:some e'=some dj:=hj
   injection e1 with e1
   rw[c1] at hu
   injection hu with hu
   rw[←e1,←hu];exact k1
  |n+2,hj,hu=>cases hj
theorem HC.ofX {P : Program} {tb : TypeId → Option TyE} (tok : TOk P tb) {f : FuncId} {fn : Func} {c : Code} {ds : List D} {hp hp' : Hp} {r : D} {rs : List ResultVar} (hf : P.funcs[f]? = some fn) (hb : fn.body = some c) (qW : (fn.name == "runtime.NumGoroutine") = false) (hN : ds.length ≤ fn.ntmps) (hrs : fn.results.toList = rs)
  (h:∀x:Cx,x.N=fn.ntmps→x.hp0=hp→AW P x c (eZ 0 ds) hp fun ex tm bF=>match ex with| .normal| .ret=>∃d,vg tb rs tm bF d∧yd x d bF r hp'|_=>False):HC P f ds hp r hp':=by
 subst hrs
 refine⟨⟨fn,hf,qW,by rw[hb];rfl⟩,fun B g w vs hr hsz tN=>?_⟩
 refine calls_of_wp hf hb ?_
 have Ad:RS ⟨B,w,g.F,fn.ntmps,hp,g,[]⟩ (eZ 0 ds) hp {tmps:=vs++Array.replicate (fn.ntmps - vs.size) undef,defers:=[]} w:=by
  refine⟨g,hr,fun t d ht=>?_,by simp;omega,rfl,Below.refl _ _,fun _ _ h=>h,bB.refl _ _ _⟩
  obtain⟨_,h2⟩:=m9 ht
  have bz:t<ds.length:=by
   rw[A8] at h2
   rcases bZ t ds.length with hh|hh
   ·exact hh
   ·rw[i5 hh] at h2;cases h2
  have hv:vs[t]? =some vs[t]:=lI (by omega)
  have:=tN t d vs[t] (by simpa using h2) hv
  have he:(vs++Array.replicate (fn.ntmps - vs.size) undef).getD t undef=vs[t]:=by
   rw[cz,vb (by omega),hv];rfl
  rw[he]
  exact this
 refine wp_mono (h ⟨B,w,g.F,fn.ntmps,hp,g,[]⟩ rfl rfl _ _ Ad) ?_
 rintro ex a' w' ⟨tm',bF,h1,h2⟩
 have fin:(∃d,vg tb fn.results.toList tm' bF d∧yd ⟨B,w,g.F,fn.ntmps,hp,g,[]⟩ d bF r hp')→a'.defers=[]∧∃v,(results fn a'.tmps).run P w'=.ok v w'∧∃v' g',Ending.returned v=.returned v'∧HR B hp' g' w'∧bB hp g w hp' g' w'∧aM hp' g' w' r v'∧Below B w w'∧∀p:Addr,p.block<B→g.F p→g'.F p:=by
  rintro⟨d,HU,hend⟩
  obtain⟨g1,oo,gJ,_,qI,hB,hF,hM⟩:=h1
  obtain⟨v,bD,kS⟩:=sj (x:=⟨B,w,g.F,fn.ntmps,hp,g,[]⟩) tok rfl HU oo gJ
  obtain⟨g',h3,h4,h5,h6⟩:=hend g1 w' v oo kS hM hB hF
  exact⟨qI,v,bD,v,g',rfl,h3,h5,h4,hB,h6⟩
 cases ex with
 |normal=>exact fin h2
 |ret=>exact fin h2
 |_=>cases h2
section
variable {P:Program} {tb:TypeId→Option TyE} {md:Md} {hp:Hp}
theorem MM(tok:TOk P tb){ev:Operand→D}{dst:Option Tmp}{ty:TypeId}{pos:String}{af:Array Edge}{gd:Option (Nat×Bool)}{tt e:TypeId}{ti j:TyE}(ht:tb tt=some ti)(he:tb e=some j)(uq:ti.ty=.slice e:=by exact rfl)(hz:Nat.ble 1 j.size=true:=by exact rfl):
  lh P tb md ⟨dst,.buildSlice tt 0 #[],ty,pos,af,gd⟩ ev hp (.fu j.size 0 []) hp:=by
 have hu:=tok.slice ht uq
 have hz:=cg hz
 refine⟨.step fun B g w a hr tM=>?_,fun hq=>?_,fun _=>⟨aI _,fun j hj=>rfl⟩,fun h=>by cases h⟩
 ·have hs:=tok.run_sizeOf he w
  have h00:∀f:Nat→Value,Array.map f (Array.range 0)=#[]:=fun f=>A7 (by simp)
  have bD:(Instr.buildSlice tt 0 #[]).run P w=.ok (.slice (some ⟨w.heap.size,0,none⟩) 0 0) (w.alloc (.cells #[] e)):=by
   simp only[Instr.buildSlice,Sem.run_bind,run_underlying hu,Result.andThen_ok,hs,e7,Instr.fill,h00]
   rfl
  have hsz:w.heap.size≤(w.alloc (.cells #[] e)).heap.size:=by simp
  have hbl:∀b,b<w.heap.size→(w.alloc (.cells #[] e)).heap[b]? =w.heap[b]? :=fun b hb=>heap_alloc_old w _ hb
  refine⟨.slice (some ⟨w.heap.size,0,none⟩) 0 0,g,w.alloc (.cells #[] e),?_,hr.keep hsz hbl,bB.keep _ g hsz hbl,?_,(Below.refl _ _).alloc hr.base _,fun p _ h=>h⟩
  ·simp[execOp,bD]
  ·exact .fu _ 0 [] _ (.sl _ 0 [] _ 0 (fun _=>undef) (by simp) hz (aI _) (by decide) (fun h=>absurd h (by omega)) (fun _ _ _ _ h=>by simp at h) (fun _ _ h=>by simp at h))
 ·exfalso
  cases md with
  |seq=>cases hq
  |any L=>
   have h1:((mb (.buildSlice tt 0 #[])&&!HE tb (.buildSlice tt 0 #[]))||pN tb L (.buildSlice tt 0 #[]))=true:=hq
   simp[mb,pN] at h1
theorem news_of {z m:Nat}{ys:List E}{A2:Option Addr}{c2:Nat}{g:Gh}{w:World}(Na:cC w g.F (.sl z m ys) (.slice A2 m c2))(HZ:ys.all E.isLit=true):
  ys.length=m*z∧∃news:List Value,news.length=m*z∧(0<m→∃ad:Addr,A2=some ad∧∀(i:Nat) (u:Value),news[i]? =some u→w.cell? (ad.add i)=some u)∧(∀u∈news,u.oneCell'=true)∧∀(i:Nat) (x:E),ys[i]? =some x→∃u,x=.lit u∧news[i]? =some u:=by
 cases Na with
 |sl _ _ _ _ _ us hyl hz2 hnc2 hcm2 hA BJ BG=>
  have bz:∀i (x:E),ys[i]? =some x→∃u,x=.lit u∧us i=u∧u.oneCell'=true:=fun i x hi=>by
   have h8:=BG i x hi
   have h9:x.isLit=true:=b7.1 HZ x (bO hi)
   generalize us i=q at h8
   cases x with
   |lit u=>cases h8 with|lit _ ho=>exact⟨_,rfl,rfl,ho⟩
   |_=>cases h9
  refine⟨hyl,(List.range (m*z)).map us,by simp,fun hm=>?_,fun u hu=>?_,fun i x hi=>?_⟩
  ·obtain⟨ad,e1,_⟩:=hA hm
   refine⟨ad,e1,fun i u hu=>?_⟩
   rw[cF] at hu
   obtain⟨i',h8,rfl⟩:=nT.1 hu
   have DT:i<m*z:=by have:=(lX.1 h8).1;simpa using this
   obtain rfl:i=i':=by
    rw[A6 DT] at h8
    injection h8
   exact (BJ ad e1 i ys[i] (eg (by omega))).1
  ·obtain⟨i,hi,rfl⟩:=mm.1 hu
   have DT:i<m*z:=by simpa using hi
   obtain⟨u,_,h9,Cg⟩:=bz i ys[i] (eg (by omega))
   rw[h9];exact Cg
  ·obtain⟨u,h8,h9,_⟩:=bz i x hi
   have DT:i<m*z:=by have:=(lX.1 hi).1;omega
   exact⟨u,h8,by rw[cF,A6 DT,←h9];rfl⟩
theorem appNW(tok:TOk P tb){ev:Operand→D}{dst:Option Tmp}{ty:TypeId}{pos:String}{af:Array Edge}{gd:Option (Nat×Bool)}{t e:TypeId}{ti j:TyE}{x y:Operand}{m:Nat}{ys:List E}(ht:tb t=some ti)(he:tb e=some j)(hx:ev x=.e (.lit (.slice none 0 0))∨ev x=.fu j.size 0 [])(hyy:(ev y).asSl j.size=some (m,ys))(hb:m*max 1 j.bytes≤140737488355328)(hm:0<m)(HZ:ys.all E.isLit=true)
  (uq:ti.ty=.slice e:=by exact rfl) (hz:Nat.ble 1 j.size=true:=by exact rfl):
  lh P tb md ⟨dst,.call ⟨.builtin .append,#[x,y],#[t,t]⟩,ty,pos,af,gd⟩ ev hp (.gw hp.next j.size m) (hp.var (dC ys)):=by
 have hz:=cg hz
 refine⟨.step fun B g w a hr tM=>?_,fun hq=>?_,fun _=>⟨dx _,fun j hj=>au (by omega)⟩,fun h=>by cases h⟩
 ·have h1:=tM x (cd (by simp))
  have h2:=tM y (cd (by simp))
  have M4:∃A,a.eval x=.slice A 0 0:=by
   rcases hx with hx|hx
   ·rw[hx] at h1;exact⟨none,h1.lit⟩
   ·rw[hx] at h1
    generalize a.eval x=v1 at h1
    cases h1 with
    |fu _ _ _ A h=>exact⟨A,rfl⟩
  obtain⟨A1,M4⟩:=M4
  generalize LB:a.eval y=v2 at h2
  obtain⟨A2,c2,rfl,Na⟩:=og h2 hyy
  obtain⟨hyl,news,wF,hnad,LH,hnlit⟩:=news_of Na HZ
  obtain⟨ad,rfl,s6⟩:=hnad hm
  obtain⟨f,zz,H2,Ga,NF,hf3,hf4,_⟩:=tok.inf he
  have hu:=tok.slice ht uq
  have hzs:zz.cells.size=j.size:=by
   have h4:=(tok e j he).2.2.1
   rw[←dT,hf4,h4]
  have K0:m≤140737488355328:=cG (vc _ (by omega)) hb
  have yS:m*f.bytes≤140737488355328:=cG (rY _ (by rw[NF];omega)) hb
  have bD:(Builtin.append_ #[t,t] ty #[.slice A1 0 0,.slice (some ad) m c2]).run P w=.ok (.slice (some ⟨w.heap.size,0,none⟩) m (grownCap w m 0 e)) (w.drew.alloc (.cells (news.toArray++Builtin.zeroCells zz.cells (grownCap w m 0 e - m)) e)):=by
   cases A1 with
   |none=>exact run_append_nil (P:=P) w t ty e f zz hu H2 hf3 ad m c2 news (by rw[Ga];exact wF) s6 (by omega) (by omega) (by omega)
   |some a1=>
    have:=run_append_grow (P:=P) w t ty e f zz hu H2 hf3 a1 0 0 [] (by simp) (fun i u h=>by simp at h) ad m c2 news (by rw[Ga];exact wF) s6 (by omega) (by omega) (growslice_fits (by omega) (by rw[bE];exact yS))
    simpa using this
  have xv:=grownCap_ge w m 0 e
  have hold:∀c,c<w.heap.size→(w.drew.alloc (.cells (news.toArray++Builtin.zeroCells zz.cells (grownCap w m 0 e - m)) e)).heap[c]? =w.heap[c]? :=fun c hc=>heap_alloc_old w.drew _ hc
  have qx:=heap_alloc_new w.drew (.cells (news.toArray++Builtin.zeroCells zz.cells (grownCap w m 0 e - m)) e)
  have mo:=bB.addVar (w:=w) (w':=w.drew.alloc (.cells (news.toArray++Builtin.zeroCells zz.cells (grownCap w m 0 e - m)) e)) hp g (dC ys) (b:=w.heap.size) (by simp) hold (aI _)
  have hsz:(news.toArray++Builtin.zeroCells zz.cells (grownCap w m 0 e - m)).size=grownCap w m 0 e*j.size:=by
   simp only[xQ,jY,size_zeroCells,hzs,wF]
   have:grownCap w m 0 e=m+(grownCap w m 0 e - m):=by omega
   rw[this,bN]
   congr 2
   omega
  have hmz:m*j.size≤grownCap w m 0 e*j.size:=cc _ xv
  refine⟨.slice (some ⟨w.heap.size,0,none⟩) m (grownCap w m 0 e),g.var hp.next w.heap.size,w.drew.alloc (.cells (news.toArray++Builtin.zeroCells zz.cells (grownCap w m 0 e - m)) e),?_,hr.addVar (dC ys) (w':=w.drew.alloc (.cells (news.toArray++Builtin.zeroCells zz.cells (grownCap w m 0 e - m)) e)) (by simp) hold (aI _) _ e qx (by rw[hsz,fH,hyl];omega) (fun i u hu=>?_),mo,?_,⟨rfl,rfl,rfl,by simp,fun c hc=>hold c (bG hc hr.base)⟩,fun p h5 h6=>.inl h6⟩
  rotate_left
  ·have DS:i<m*j.size→news[i]? =some u:=fun hi=>by
    have wH:i<news.toArray.size:=by rw[jY,wF];omega
    rw[vb wH,xP] at hu
    exact hu
   refine⟨fun hi=>?_,fun d hd=>?_⟩
   ·rw[fH,hyl] at hi
    exact LH u (bO (DS hi))
   ·unfold dC at hd
    rw[cF] at hd
    obtain⟨y0,HM,rfl⟩:=nT.1 hd
    obtain⟨q,rfl,hq⟩:=hnlit _ y0 HM
    have hi:i<m*j.size:=by have:=(lX.1 HM).1;omega
    rw[DS hi] at hq
    injection hq with hq
    subst hq
    exact .e _ _ (.lit _ (LH u (bO (DS hi))))
  ·have t7:(g.var hp.next w.heap.size).μ hp.next=w.heap.size:=ao rfl
   have:=aM.gw (hp:=hp.var (dC ys)) (g:=g.var hp.next w.heap.size) (w:=w.drew.alloc (.cells (news.toArray++Builtin.zeroCells zz.cells (grownCap w m 0 e - m)) e)) hp.next j.size m (grownCap w m 0 e) (cl _) xv (grownCap_le_maxLen w m 0 e (by unfold maxLen;omega)) ⟨_,e,(0,0),by rw[t7];exact qx,by rw[hsz];exact aI _⟩
   rwa[t7] at this
  ·simp only[execOp,EB,A5,e8,gL,resolve,invoke,builtin,M4,LB,Sem.run_bind]
   simp[resolve,invoke,builtin,M4,LB,bD]
 ·exfalso
  cases md with
  |seq=>cases hq
  |any L=>
   have h1:((mb (.call ⟨.builtin .append,#[x,y],#[t,t]⟩)&&!HE tb (.call ⟨.builtin .append,#[x,y],#[t,t]⟩))||pN tb L (.call ⟨.builtin .append,#[x,y],#[t,t]⟩))=true:=hq
   simp[mb,pN] at h1
end
end
section
theorem ARs.nil {hp:Hp}:ARs hp [] []:=trivial
theorem ARs.cons {hp:Hp}{d e:D}{ds es:List D}(h:AR hp d e)(hl:ARs hp ds es):ARs hp (d::ds) (e::es):=⟨h,hl⟩
class tF {α:Type} (c:Cd α):Prop where
 h:∀x,(c.f x).all E.isLit=true
theorem tF.l {α:Type}(c:Cd α)(l:List α)[tF c]:(l.flatMap c.f).all E.isLit=true:=by
 rw[List.all_flatMap,b7]
 exact fun x _=>tF.h x
instance(k:IntKind):tF (cI k):=⟨fun _=>rfl⟩
instance:tF cS:=⟨fun _=>rfl⟩
instance:tF cB:=⟨fun _=>rfl⟩
instance {α:Type}(n:Nat)(c:Cd α)[tF c]:tF (cA n c):=⟨fun x=>tF.l c x.toList⟩
theorem Mk {xs:List E}(ρ:Nat→Nat):(dC xs).map (D.renC ρ)=dC xs:=by
 unfold dC
 rw[ol]
 exact oE fun x _=>rfl
theorem Ml {xs:List E}(h:xs.all E.isLit=true):(dC xs).all D.refC=true:=by
 unfold dC
 rw[A4,b7]
 intro y hy
 have:=b7.1 h y hy
 cases y with
 |lit u=>rfl
 |_=>cases this
def orO {α:Type}(a b:Option α):Option α:=match a with
 |some x=>some x
 |none=>b
theorem Mx {α:Type}{a b:Option α}{r:α}(h:orO a b=some r):a=some r∨b=some r:=by
 cases a with
 |none=>exact .inr h
 |some x=>exact .inl h
section
variable {md:Md} {ops:Array Oper} {K:List (Nat×D)→Hp→Prop} {os:List Oper} {tm:List (Nat×D)} {hp hp':Hp} {t s:Tmp} {op:Op} {ty:TypeId} {pos:String} {af:Array Edge} {d d2:D} {j:Nat} {want c:Bool}
theorem sG(h:AVC prog tbl md.dr op ty (fun x=>(evD tm x).toOw) hp (Kq d hp'))(h2:bt prog tbl md ops K os ((t,d)::tm) hp')(hn:md.nc tbl op=true:=by exact rfl):bt prog tbl md ops K (⟨some t,op,ty,pos,af,none⟩::os) tm hp:=stG tok h h2 hn
theorem sC0 {x:Operand}{f:FuncId}{la:List Operand}{ts:Array TypeId}{dsE:List D}{r:D}{xs:List E}{vs:List (Nat×List D)}{lv:List (Nat×Nat×Nat×TypeId)}{N q:Nat}(hc:HC prog f dsE ⟨[],[],0⟩ r ⟨[(q,dC xs)],[],q+1⟩)(ha:ARs ⟨vs,lv,N⟩ (la.map (evD tm)) dsE)(hx:xs.all E.isLit=true)(h2:bt prog tbl md ops K os ((t,d)::tm) hp')(hr:r.ref2=true:=by exact rfl)(hd:r.ren2 (fun i=>N+i)=d:=by exact rfl)(hh:(⟨(N+q,dC xs)::vs,lv,N+(q+1)⟩:Hp)=hp':=by exact rfl)(uS:evD tm x=.e (.lit (.func (.func f) #[] #[])):=by exact rfl)(hn:md.nc tbl (.call ⟨.value x,la.toArray,ts⟩)=true:=by exact rfl):
  bt prog tbl md ops K (⟨some t,.call ⟨.value x,la.toArray,ts⟩,ty,pos,af,none⟩::os) tm ⟨vs,lv,N⟩:=by
 subst hd hh
 have h:=HC.frame0R (vs:=vs) (lv:=lv) (N:=N) hc ha hr (fun k cs hk=>by
  by_cases h0:k=q
  ·subst h0
   rw[ai] at hk
   injection hk with hk
   subst hk
   exact Ml hx
  ·rw[au h0] at hk;cases hk)
 rw[e8,gL,Mk] at h
 exact Ft rfl (sHC h rfl (.inr ⟨nU _ _,fun j hj=>au (Nat.ne_of_lt (bG hj (nU _ _)))⟩) uS hn) h2
theorem sApN {ev:Operand→D}{dst:Option Tmp}{gd:Option (Nat×Bool)}{α:Type}{c:Cd α}{m:List α}{tt e:TypeId}{ti j:TyE}{x y:Operand}(tok:TOk prog tbl)(ht:tbl tt=some ti)(he:tbl e=some j)(hf:m.length*max 1 j.bytes≤140737488355328)(hn:0<m.length)(HZ:(m.flatMap c.f).all E.isLit=true)(hx:ev x=.e (.lit (.slice none 0 0))∨ev x=.fu j.size 0 [])(hy:(ev y).asSl j.size=some (m.length,m.flatMap c.f):=by exact rfl)(uq:ti.ty=.slice e:=by exact rfl)(hz:Nat.ble 1 j.size=true:=by exact rfl):
  lh prog tbl md ⟨dst,.call ⟨.builtin .append,#[x,y],#[tt,tt]⟩,ty,pos,af,gd⟩ ev hp (.gw hp.next j.size m.length) (hp.var (dC ((cW c).f m))):=appNW tok ht he hx hy hf hn HZ uq hz
theorem ftn {k z n n2:Nat}{F:List E}:∀p∈([]:List (Nat×D)),∃d0,tm.lookup p.1=some d0∧FzD k z n n2 F d0 p.2:=fun p h=>by cases h
theorem ftc {k z n n2:Nat}{F:List E}{t:Nat}{d d0:D}{l:List (Nat×D)}(h:tm.lookup t=some d0)(hf:FzD k z n n2 F d0 d)(hl:∀p∈l,∃d0,tm.lookup p.1=some d0∧FzD k z n n2 F d0 p.2):∀p∈(t,d)::l,∃d0,tm.lookup p.1=some d0∧FzD k z n n2 F d0 p.2:=fun p hp=>by
 rcases jI.1 hp with rfl|hp
 ·exact⟨d0,h,hf⟩
 ·exact hl p hp
theorem fvn {k z n n2:Nat}{F:List E}{vs:List (Nat×List D)}:∀p∈([]:List (Nat×List D)),p.1≠k∧∃nl,vs.lookup p.1=some nl∧FzL k z n n2 F nl p.2:=fun p h=>by cases h
theorem fvc {k z n n2:Nat}{F:List E}{vs:List (Nat×List D)}{t:Nat}{d d0:List D}{l:List (Nat×List D)}(hk:t≠k)(h:vs.lookup t=some d0)(hf:FzL k z n n2 F d0 d)(hl:∀p∈l,p.1≠k∧∃nl,vs.lookup p.1=some nl∧FzL k z n n2 F nl p.2):∀p∈(t,d)::l,p.1≠k∧∃nl,vs.lookup p.1=some nl∧FzL k z n n2 F nl p.2:=fun p hp=>by
 rcases jI.1 hp with rfl|hp
 ·exact⟨hk,d0,h,hf⟩
 ·exact hl p hp
theorem fzOD {α:Type}(c:Cd α){l:List α}{vs:List (Nat×List D)}{lv:List (Nat×Nat×Nat×TypeId)}{N n:Nat}(k:Nat)(ts:List (Nat×D))(us:List (Nat×List D))(hn:n=l.length)(h2:bt prog tbl .seq ops K os (ts++tm) ⟨us++vs.filter fun p=>!([k]:List Nat).contains p.1,lv,N⟩)(LC:∀p∈ts,∃d0,tm.lookup p.1=some d0∧FzD k c.sz n l.length ((cW c).f l) d0 p.2)(M5:∀p∈us,p.1≠k∧∃nl,vs.lookup p.1=some nl∧FzL k c.sz n l.length ((cW c).f l) nl p.2)(hv:vs.lookup k=some (dC ((cW c).f l)):=by exact rfl)(hz:Nat.ble 1 c.sz=true:=by exact rfl):bt prog tbl .seq ops K os tm ⟨vs,lv,N⟩:=by
 subst hn
 exact .wk rfl (WkS.frzD (iu c.f c.h l) (cg hz) hv LC M5) h2
variable {x:Cx} {Q:Exit→List (Nat×D)→Hp→Prop}
end
end
instance:tF ap:=⟨fun x=>by unfold ap;simp only[rU,js,lE,E.isLit,tF.h,iC,GT]⟩
instance:tF aj:=⟨fun x=>by unfold aj;simp only[rU,js,lE,E.isLit,tF.h,iC,GT]⟩
theorem pG0 {α:Type}(c:Cd α)(a:α)(l:List E){z:Nat}(h:c.sz=z):((c.f a++l).drop 0).take z=c.f a:=by
 have hl:(c.f a).length=z:=(c.h a).trans h
 rw[pQ,yA (by omega),jc (by omega)]
theorem pG1 {α β:Type}(c:Cd α)(a:α)(k:Cd β)(b:β){o z:Nat}(h:c.sz=o)(h2:k.sz=z):((c.f a++k.f b).drop o).take z=k.f b:=by
 have hl:(c.f a).length=o:=(c.h a).trans h
 have hk:(k.f b).length=z:=(k.h b).trans h2
 rw[←hl,qC,jc (by omega)]
def aX:Cd Nu:=⟨36,fun x=>aj.f x.1,fun x=>aj.h x.1⟩
theorem w_Mul(x y:Nu):aB prog 40 [dG aX x,dG aX y] (dG aX (qv x y)):=by rw[vQ];exact sO (I2 x.2 y.2)
theorem w_Sub(x y:Nu):aB prog 146 [dG aX x,dG aX y] (dG aX (yN x y)):=by rw[FJ];exact Fd (G_osub x.2 y.2)
theorem w_Div(x y:Nu):aB prog 144 [dG aX x,dG aX y] (dG aX (t6 x y)):=by rw[zX];exact Fe (G_odiv x.2 y.2)
theorem LV(x:Nu):aB prog 42 [dG aX x] (dI .i64 (kw x)):=by rw[xa];exact vy (Pb x.2)
theorem w_Good(x:Nu):aB prog 41 [dG aX x] (dB (aT x)):=by rw[e9];exact fx (kb x.2)
def nv(x:Nu):ak:=x.1
section
theorem pD(a:Nu):(dC (aX.f a)).length=36:=by rw[fH,aX.h];rfl
section
variable {dr:Bool} {ty:TypeId} {ev:Operand→D} {hp hp':Hp} {k o:Nat} {F F2:List D} {F':List D→List D} {x y:Operand} {a b:Nu}
theorem ldN(L:Pt F o (dC (aX.f a)) F')(hv:hp.vars.lookup k=some F)(hk:k<hp.next)(hx:ev x=.pt k o:=by exact rfl):AVC prog tbl dr (.load 34 x) ty ev hp (Kq (dG aX a) hp):=T_ldP L hv hk ay (pD a) rfl hx
theorem stN(L:Pt F o (dC (aX.f a)) F')(hv:hp.vars.lookup k=some F)(h2:F' (dC (aX.f b))=F2)(hx:ev x=.pt k o:=by exact rfl)(hy:ev y=dG aX b:=by exact rfl)(he:hp.set k F2=hp':=by exact rfl):AVC prog tbl dr (.store 34 x y) ty ev hp (Kq .top hp'):=
 OS (ys:=dC (aX.f b)) L hv (by rw[hy];rfl) ay (pD a) (by rw[pD,pD]) h2 hx he
theorem Pt.idN(a:Nu):Pt (dC (aX.f a)) 0 (dC (aX.f a)) id:=Pt.of [] [] rfl (by simp) (fun y=>by simp)
end
section
variable {vs sD mJ:List (Nat×List D)} {lv:List (Nat×Nat×Nat×TypeId)} {N n2 k:Nat}
theorem eM.lt(hok:eM ⟨vs,lv,N⟩){ds:List D}(h:vs.lookup k=some ds):k<N:=(hok.var k ds h).1
theorem eM.ne(hok:eM ⟨vs,lv,N⟩){ds:List D}(h:vs.lookup k=some ds){m:Nat}(hm:N≤m):k≠m:=by have:=hok.lt h;omega
theorem al {j m:Nat}{b:List D}{l:List (Nat×List D)}{r:Option (List D)}(hj:j≠m)(h:l.lookup j=r):((m,b)::l).lookup j=r:=(au hj).trans h
theorem nI(l:List E):(dC l).all (D.idsC N)=true:=AC (fun _=>rfl) l
theorem eM.cons {M:Nat}{ds:List D}(hok:eM ⟨vs,lv,N⟩)(hN:N≤M)(hk:k<M)(hd:ds.all (D.idsC M)=true):eM ⟨(k,ds)::vs,lv,M⟩:=by
 refine⟨fun j es h=>?_,fun id e h=>bG (hok.tok id e h) hN⟩
 by_cases hj:j=k
 ·subst hj
  have:some ds=some es:=by rw[←h];exact ai.symm
  injection this with this
  subst this
  exact⟨hk,hd⟩
 ·obtain⟨h1,h2⟩:=hok.var j es (by rw[←h];exact (au hj).symm)
  exact⟨bG h1 hN,b7.2 fun d hd=>D.idsC_le hN (b7.1 h2 d hd)⟩
def nZ(n:Nat)(tm tm':List (Nat×D)):Prop:=∀p∈tm',(∃d,tm.lookup p.1=some d∧(p.2=d∨p.2=d.ex))∧p.2.idsB n=true
theorem nZ.nil {n:Nat}{tm:List (Nat×D)}:nZ n tm []:=fun p hp=>absurd hp (va)
theorem nZ.cons {n t:Nat}{d:D}{tm tm':List (Nat×D)}(h2:nZ n tm tm')(h:tm.lookup t=some d:=by exact rfl)(hi:d.idsB n=true:=by exact rfl):nZ n tm ((t,d)::tm'):=fun p hp=>by
 rcases jI.1 hp with rfl|hp
 ·exact⟨⟨d,h,.inl rfl⟩,hi⟩
 ·exact h2 p hp
theorem wkS {x:Cx}{tm tm':List (Nat×D)}{n':Nat}(h0:x.hp0.next≤n')(hn:n'≤n2)(hok:eM ⟨mJ,lv,n'⟩)(hv:∀j ds,mJ.lookup j=some ds→sD.lookup j=some ds)(ht:nZ n' tm tm'):Wk x tm ⟨sD,lv,n2⟩ tm' ⟨mJ,lv,n'⟩:=
 Wk.look h0 hn ht (fun j ds h=>⟨(hok.var j ds h).1,ds,hv j ds h,qJ _,(hok.var j ds h).2⟩) fun id y h=>⟨hok.tok id y h,h⟩
theorem FP {j:Nat}{a b:List D}{l:List (Nat×List D)}:((k,b)::(k,a)::l).lookup j=((k,b)::l).lookup j:=by
 by_cases hj:j=k
 ·subst hj;rw[ai,ai]
 ·rw[au hj,au hj,au hj]
theorem dJ {j a:Nat}{x ds:List D}{l:List (Nat×List D)}(h:((a,x)::l).lookup j=some ds):(j=a∧ds=x)∨(j≠a∧l.lookup j=some ds):=by
 by_cases hj:j=a
 ·subst hj
  have:some x=some ds:=by rw[←h];exact ai.symm
  injection this with this
  exact .inl ⟨rfl,this.symm⟩
 ·exact .inr ⟨hj,by rw[←h];exact (au hj).symm⟩
theorem Pt.elN(l:List Nu)(i:Nat)(h:i<l.length):Pt (dC ((cW aX).f l)) (0+i*36) (dC (aX.f l[i]!)) (fun ys=>(dC ((cW aX).f l)).take (0+i*36)++ys++(dC ((cW aX).f l)).drop (0+i*36+36)):=by
 have L:=an.seqW aX l i h
 have e:aX.sz=36:=rfl
 rw[e] at L
 refine⟨?_,?_,fun ys hy=>by rw[pD]⟩
 ·have:=L.le
  rw[pD,fH];exact this
 ·have:=L.g
  rw[pD]
  unfold dC
  rw[←xO,←u9]
  exact congrArg _ this
theorem Pt.elN_set(l:List Nu)(i:Nat)(h:i<l.length)(b:Nu):(dC ((cW aX).f l)).take (0+i*36)++dC (aX.f b)++(dC ((cW aX).f l)).drop (0+i*36+36)=dC ((cW aX).f (l.set i b)):=by
 have L:=an.seqW aX l i h
 have e:aX.sz=36:=rfl
 rw[e] at L
 have:=L.p b
 rw[e] at this
 unfold dC
 rw[←u9,←xO,←lY,←lY]
 exact congrArg _ this
end
end
theorem mP {t:Nat}(h:t<9223372036854775807:=by omega):i64.wrap ((t:Int)+1)=((t+1:Nat):Int):=by
 rw[p8 (by omega) (by omega)];omega
def zN:List E:=(List.replicate 2 (E.lit (.bool false))++List.replicate 16 (E.lit (.int .u32 0)))++(List.replicate 2 (E.lit (.bool false))++List.replicate 16 (E.lit (.int .u32 0)))
theorem T_alN {dr:Bool}{ty:TypeId}{ev:Operand→D}{vs:List (Nat×List D)}{lv:List (Nat×Nat×Nat×TypeId)}{N:Nat}:AVC prog tbl dr (.alloc 34) ty ev ⟨vs,lv,N⟩ (Kq (.pt N 0) ⟨(N,dC zN)::vs,lv,N+1⟩):=bq ay
theorem Pt.zN:Pt (dC zN) 0 (dC zN) id:=Pt.of [] [] rfl (by simp) (fun y=>by simp)
theorem stZ {dr:Bool}{ty:TypeId}{ev:Operand→D}{hp hp':Hp}{k:Nat}{x y:Operand}{b:Nu}(hv:hp.vars.lookup k=some (dC zN))(hx:ev x=.pt k 0:=by exact rfl)(hy:ev y=dG aX b:=by exact rfl)(he:hp.set k (dC (aX.f b))=hp':=by exact rfl):AVC prog tbl dr (.store 34 x y) ty ev hp (Kq .top hp'):=
 OS (ys:=dC (aX.f b)) Pt.zN hv (by rw[hy];rfl) ay rfl (by rw[pD];rfl) rfl hx he
theorem Pt.el(l:List Nu)(i:Nat)(h:i<l.length):Pt (dC ((cW aX).f l)) (i*36) (dC (aX.f l[i]!)) (fun ys=>(dC ((cW aX).f l)).take (i*36)++ys++(dC ((cW aX).f l)).drop (i*36+36)):=by
 have:=Pt.elN l i h
 rwa[bE] at this
theorem Pt.el_set(l:List Nu)(i:Nat)(h:i<l.length)(b:Nu):(dC ((cW aX).f l)).take (i*36)++dC (aX.f b)++(dC ((cW aX).f l)).drop (i*36+36)=dC ((cW aX).f (l.set i b)):=by
 have:=Pt.elN_set l i h b
 rwa[bE] at this
section
section
variable {hp:Hp}
theorem AR.list {k n:Nat}{l:List Nu}(hv:hp.vars.lookup k=some (dC ((cW aX).f l)))(hl:l.length=n):AR hp (.ow k 0 36 n) (.e (slE aX l)):=by
 subst hl
 have hlen:((cW aX).f l).length=l.length*36:=iu aX.f aX.h l
 have:=AR.sl (off:=0) hv (n:=l.length) (z:=36) (by omega) (by omega)
 rw[pQ,jc (by omega)] at this
 exact this
end
end
def oY(bj:Int)(ng:Int):Option (Int×Int):=bnd (some (u64.wrap ((F3 .u64 bj (4294967295:Int))*(F3 .u64 ng (4294967295:Int))))) fun x1=>bnd (some (u64.wrap ((u64.wrap ((kA .u64 bj (32:Int))*(F3 .u64 ng (4294967295:Int))))+(kA .u64 x1 (32:Int))))) fun x3=>bnd (some (u64.wrap ((F3 .u64 x3 (4294967295:Int))+(u64.wrap ((F3 .u64 bj (4294967295:Int))*(kA .u64 ng (32:Int))))))) fun x5=>bnd (some (u64.wrap ((u64.wrap ((u64.wrap ((kA .u64 bj (32:Int))*(kA .u64 ng (32:Int))))+(kA .u64 x3 (32:Int))))+(kA .u64 x5 (32:Int))))) fun x7=>some (x7,u64.wrap (bj*ng))
theorem Dn {bj:Int}{ng:Int}{r:Int×Int}(h:oY bj ng=some r):aB prog 156 [dI .u64 bj,dI .u64 ng] (.tu [dI .u64 r.1,dI .u64 r.2]):=by
 refine bJ (rs:=[.tmp 4,.tmp 5]) (fun cx hx h0=>?_) func156
 unfold oY at h
 iterate 5 refine ra hx ?_
 refine rs hx fun K hK=>?_
 iterate 3 refine sa ?_
 obtain⟨x1,yP,h⟩:=ah h
 replace yP:=eG yP
 refine s2 (d2:=dI .u64 x1) ke (fK (congrArg (dI .u64) yP)) ?_
 refine .nil (hK _ _ (rs hx fun K hK=>?_))
 iterate 6 refine sa ?_
 obtain⟨x3,EX,h⟩:=ah h
 replace EX:=eG EX
 refine s2 (d2:=dI .u64 x3) ke (fK (congrArg (dI .u64) EX)) ?_
 refine .nil (hK _ _ ?_)
 iterate 2 refine ra hx ?_
 refine rs hx fun K hK=>?_
 iterate 5 refine sa ?_
 obtain⟨x5,DO,h⟩:=ah h
 replace DO:=eG DO
 refine s2 (d2:=dI .u64 x5) ke (fK (congrArg (dI .u64) DO)) ?_
 refine .nil (hK _ _ (rs hx fun K hK=>?_))
 iterate 8 refine sa ?_
 obtain⟨x7,Aa,h⟩:=ah h
 replace Aa:=eG Aa
 refine s2 (d2:=dI .u64 x7) ke (fK (congrArg (dI .u64) Aa)) ?_
 refine .nil (hK _ _ (ra hx ?_))
 refine AW.ret ?_
 cases h
 exact rv2
def rL(bj:Int)(ng:Int):Option (Int×Int):=bnd (oY bj ng) fun x1=>some (x1.1,x1.2)
theorem Hc {bj:Int}{ng:Int}{r:Int×Int}(h:rL bj ng=some r):aB prog 122 [dI .u64 bj,dI .u64 ng] (.tu [dI .u64 r.1,dI .u64 r.2]):=by
 refine bJ (rs:=[.tmp 4,.tmp 5]) (fun cx hx h0=>?_) func122
 unfold rL at h
 refine ra hx ?_
 refine AW.seq (AW.condF rfl rfl (AW.skip (rs hx fun K hK=>?_)))
 iterate 2 refine sa ?_
 refine scb h Dn fun x1 h=>?_
 iterate 5 refine sa ?_
 refine .nil (hK _ _ (ra hx ?_))
 refine AW.ret ?_
 cases h
 exact rv2
theorem MX {m:Nat}(h:m<4294967296):F3 .u64 (m:Int) (4294967295:Int)=(m:Int):=by
 have h1:(BitVec.ofInt 64 (m:Int) &&&BitVec.ofInt 64 (4294967295:Int)).toNat=m:=by
  have a:(BitVec.ofInt 64 (m:Int)).toNat=m:=by
   rw[BitVec.ofInt_natCast,BitVec.toNat_ofNat];omega
  have b:(BitVec.ofInt 64 (4294967295:Int)).toNat=2 ^ 32 - 1:=by decide
  rw[BitVec.toNat_and,a,b,Nat.and_two_pow_sub_one_eq_mod];omega
 show u64.wrap (((BitVec.ofInt 64 (m:Int) &&&BitVec.ofInt 64 (4294967295:Int)).toNat:Nat):Int)=m
 rw[h1]
 exact gu
theorem mul1 {n:Nat}(h:n≤1000000):rL (u64.wrap 1) (u64.wrap (n:Int))=some (0,(n:Int)):=by
 have e1:u64.wrap 1=((1:Nat):Int):=gu (n:=1) (by omega)
 have a1:=MX (m:=1) (by omega)
 have a2:=MX (m:=n) (by omega)
 have s1:=uh 1
 have s2:=uh n
 have m1:(1:Nat) / 4294967296=0:=rfl
 have m2:n / 4294967296=0:=fI (by omega)
 rw[m1] at s1
 rw[m2] at s2
 have z0:u64.wrap ((0:Nat):Int)=((0:Nat):Int):=gu (n:=0) (by omega)
 have zn:u64.wrap (n:Int)=(n:Int):=gu
 have i0:F3 .u64 ((0:Nat):Int) (4294967295:Int)=((0:Nat):Int):=MX (m:=0) (by omega)
 have h0:kA .u64 ((0:Nat):Int) (32:Int)=((0:Nat):Int):=uh 0
 rw[e1,zn]
 unfold rL oY
 rw[a1,a2,s1,s2]
 simp only[bnd,A3]
 have p1:((1:Nat):Int)*(n:Int)=(n:Int):=by omega
 have p2:((0:Nat):Int)*(n:Int)=((0:Nat):Int):=by omega
 have p3:((1:Nat):Int)*((0:Nat):Int)=((0:Nat):Int):=by omega
 have p4:((0:Nat):Int)*((0:Nat):Int)=((0:Nat):Int):=by omega
 have p5:((0:Nat):Int)+((0:Nat):Int)=((0:Nat):Int):=by omega
 rw[p1,p2,p3,p4,zn,z0,s2,p5,z0,i0,p5,z0,h0,p5,z0,p5,z0]
 rfl
section
def uW(a:Nu)(n s:Nat):List Nu:=List.replicate s a++List.replicate (n - s) default
theorem AD {a:Nu}{n s:Nat}(h:s≤n):(uW a n s).length=n:=by
 unfold uW;rw[eH,qB,qB];omega
theorem cont_cp {a:Nu}{n s:Nat}(h:s≤n):lCp (uW a n s) s (((((uW a n s).drop 0).take s)).take (n - s))=uW a n (s+min s (n - s)):=by
 have h1:((uW a n s).drop 0).take s=List.replicate s a:=by
  unfold uW
  rw[pQ,yA (by simp),jc (by simp)]
 rw[h1,List.take_replicate]
 unfold lCp
 rw[qB]
 unfold uW
 rw[yA (by simp),jc (by simp),OI,qB,AO (by simp),oN,List.drop_replicate]
 rw[List.replicate_append_replicate,Nat.min_comm,show n - s - (s+min s (n - s) - s)=n - (s+min s (n - s)) by omega]
theorem wkS2 {x:Cx}{tm tm':List (Nat×D)}{sD mJ:List (Nat×List D)}{lv BF:List (Nat×Nat×Nat×TypeId)}{n' n2:Nat}(h0:x.hp0.next≤n')(hn:n'≤n2)(hok:eM ⟨mJ,lv,n'⟩)(hv:∀j ds,mJ.lookup j=some ds→sD.lookup j=some ds)(hl:∀j y,lv.lookup j=some y→BF.lookup j=some y)(ht:nZ n' tm tm'):Wk x tm ⟨sD,BF,n2⟩ tm' ⟨mJ,lv,n'⟩:=
 Wk.look h0 hn ht (fun j ds h=>⟨(hok.var j ds h).1,ds,hv j ds h,qJ _,(hok.var j ds h).2⟩) fun id y h=>⟨hok.tok id y h,hl id y h⟩
section
variable {md:Md} {dst:Option Tmp} {ty:TypeId} {pos:String} {af:Array Edge} {gd:Option (Nat×Bool)} {ev:Operand→D} {hp:Hp} {k s n:Nat} {x y:Operand}
theorem slT(h:s<n)(hx:ev x=.ow k 0 36 n:=by exact rfl)(hy:ev y=dI .i64 (s:Int):=by exact rfl):lh prog tbl md ⟨dst,.slice 22 x (some y) none none,ty,pos,af,gd⟩ ev hp (.ow k (s*36) 36 (n - s)) hp:=by
 have:=slW (P:=prog) (tb:=tbl) (md:=md) (dst:=dst) (ty2:=ty) (pos:=pos) (af:=af) (gd:=gd) (ev:=ev) (hp:=hp) (x:=x) (lo:=some y) (hi:=none) (l:=(s:Int)) (h:=(n:Int)) tok ⟨by omega,by omega,by omega,by omega⟩ aJ ay ⟨.i64,hy⟩ rfl rfl hx rfl
 rw[show ((n:Int) - (s:Int)).toNat=n - s by omega,aW,bE] at this
 exact this
theorem slHd(h:s≤n)(h0:0<n)(hx:ev x=.ow k 0 36 n:=by exact rfl)(hy:ev y=dI .i64 (s:Int):=by exact rfl):lh prog tbl md ⟨dst,.slice 22 x none (some y) none,ty,pos,af,gd⟩ ev hp (.ow k (0*36) 36 s) hp:=by
 have:=slW (P:=prog) (tb:=tbl) (md:=md) (dst:=dst) (ty2:=ty) (pos:=pos) (af:=af) (gd:=gd) (ev:=ev) (hp:=hp) (x:=x) (lo:=none) (hi:=some y) (l:=(0:Int)) (h:=(s:Int)) tok ⟨by omega,by omega,by omega,by omega⟩ aJ ay rfl ⟨.i64,hy⟩ rfl hx rfl
 rw[show ((s:Int) - 0).toNat=s by omega,bE] at this
 exact this
end
section
variable {vs:List (Nat×List D)} {lv:List (Nat×Nat×Nat×TypeId)} {N n:Nat} {a:Nu}
theorem NP(hn:n≤1000000):HC prog 77 [.e (slE aX [a]),dI .i64 n] ⟨vs,lv,N⟩ (.ow (N+1) 0 36 n) ⟨(N+1,dC ((cW aX).f (List.replicate n a)))::vs,lv,N+1+1⟩:=by
 refine HC.of (rs:=[.tmp 4]) tok func77 rfl rfl (cg rfl) rfl (fun cx hx h0 hok=>?_)
 simp only[eZ,Nat.reduceAdd,bE]
 refine rs hx fun K hK=>?_
 refine s1 (d:=dO N aX ([]:List Nu)) (d8 aJ ay) ?_
 refine .nil (hK _ _ (AW.seq (rs hx fun K hK=>?_)))
 iterate 2 refine sa ?_
 refine .nil (hK _ _ (AW.condF rfl (def_) (AW.skip (rs hx fun K hK=>?_))))
 iterate 5 refine sa ?_
 refine cq (Hc (mul1 hn)) ?_
 iterate 5 refine sa ?_
 refine .nil (hK _ _ (AW.seq (rs hx fun K hK=>?_)))
 iterate 3 refine sa ?_
 iterate 2 refine ga (show decide ((0:Int)<0)=false by decide) ?_
 refine s1 (ax (show decide ((0:Int)<0)=false by decide)) ?_
 refine .nil (hK _ _ (AW.condF rfl (def_) (AW.skip (rs hx fun K hK=>?_))))
 iterate 2 refine sa ?_
 rw[p8 (show -9223372036854775808≤(n:Int) by omega) (by omega)]
 refine q1 (sMk (c:=aX) (z0:=default) (v:=(n:Int)) tok ⟨by omega,by omega⟩ aJ ay rfl) ?_
 rw[aW]
 refine sa ?_
 refine .nil (hK _ _ ?_)
 have M7:tC ⟨(N+1,dC ((cW aX).f (List.replicate n default)))::vs,(N,0,36,34)::lv,N+1+1⟩ (.e (slE aX [a])) 36 1 ([a].flatMap aX.f):=tC.dat rfl (by simp[aX.h];rfl)
 refine rs hx fun K hK=>?_
 iterate 2 refine sa ?_
 refine q1 (sCpW (c:=aX) (l:=List.replicate n default) (s:=[a]) (m:=1) (n:=n) tok aJ ay M7 rfl ai 0 (by simp) rfl) ?_
 refine sa ?_
 refine .nil (hK _ _ ?_)
 have hc0:lCp (List.replicate n (default:Nu)) 0 ([a].take n)=uW a n (min 1 n):=by
  cases n with
  |zero=>rfl
  |succ n=>
   unfold lCp uW
   rw[show min 1 (n+1)=1 by omega]
   simp[List.replicate_succ]
 rw[hc0]
 have hokA:∀l:List Nu,eM ⟨(N+1,dC ((cW aX).f l))::vs,lv,N+1+1⟩:=fun l=>hok.cons (by omega) (cl _) (nI _)
 have hNlv:∀j y,lv.lookup j=some y→((N,0,36,34)::lv).lookup j=some y:=fun j y h=>(au (by have:=hok.tok j y h;have h2:j<N:=this;omega)).trans h
 refine AW.seq (AW.block (AW.loopW (fun s:Nat=>[(7,.ow (N+1) 0 36 n),(8,dI .i64 s)]) (fun s=>⟨(N+1,dC ((cW aX).f (uW a n s)))::vs,lv,N+1+1⟩) (fun s=>s≤n∧(0<n→0<s)) (fun s=>n - s) (min 1 n) ?_ ⟨by omega,by omega⟩ ?_))
 ·exact wkS2 (by rw[h0];show N≤N+1+1;omega) (aI _) (hokA _) (fun j ds h=>by rw[FP];exact h) hNlv (nZ.cons (t:=7) (d:=.ow (N+1) 0 36 n) (nZ.cons (t:=8) (d:=dI .i64 (min 1 n:Nat)) nZ.nil rfl rfl) rfl (dy (cl _)))
 ·rintro s ⟨hsn,hs0⟩
  refine AW.seq (rs hx fun K hK=>?_)
  iterate 4 refine sa ?_
  refine .nil (hK _ _ (AW.condS rfl (fun hb=>?_) (fun hb=>?_)))
  ·have bz:s<n:=by have:=pT hb;omega
   have hs1:0<s:=hs0 (by omega)
   refine AW.skip (AW.block (rqd [] hx fun K hK=>?_))
   iterate 3 refine sa ?_
   refine q1 (slT bz) ?_
   iterate 2 refine sa ?_
   refine q1 (slHd (by omega) (by omega)) ?_
   refine q1 (sCpW (c:=aX) (l:=uW a n s) (s:=((uW a n s).drop 0).take s) (m:=s) (n:=n - s) tok aJ ay (tC.lst ai 0 (by rw[AD hsn];omega)) (by rw[eA,pQ,AD hsn];omega) ai s (by rw[AD hsn];omega) rfl) ?_
   rw[cont_cp hsn]
   iterate 2 refine sa ?_
   refine .nil (hK _ _ ?_)
   rw[show i64.wrap ((s:Int)+(min s (n - s):Nat))=((s+min s (n - s):Nat):Int) by rw[p8 (by omega) (by omega)];omega]
   exact⟨s+min s (n - s),wkS (by rw[h0];show N≤N+1+1;omega) (aI _) (hokA _) (fun j ds h=>by rw[FP];exact h) (nZ.cons (t:=7) (d:=.ow (N+1) 0 36 n) (nZ.cons (t:=8) (d:=dI .i64 (s+min s (n - s):Nat)) nZ.nil rfl rfl) rfl (dy (cl _))),⟨by omega,by omega⟩,by omega⟩
  ·refine AW.exit ?_
   have hsn2:s=n:=by have:=oD hb;omega
   subst hsn2
   have E1:uW a s s=List.replicate s a:=by unfold uW;simp
   rw[E1]
   refine rs hx fun K hK=>?_
   iterate 2 refine sa ?_
   exact .nil (hK _ _ (AW.ret (⟨[(4,.ow (N+1) 0 36 s)],wkS (by rw[h0];show N≤N+1+1;omega) (aI _) (hokA _) (fun j ds h=>h) (nZ.cons (t:=4) (d:=.ow (N+1) 0 36 s) nZ.nil rfl (dy (cl _))),⟨_,ai,rfl⟩⟩)))
end
end
theorem Ou(l:List Nu):(cW aX).f l=(cW aj).f (l.map nv):=by
 show l.flatMap aX.f=(l.map nv).flatMap aj.f
 rw[IK]
 rfl
theorem Hk(l:List Nu):slE aX l=slE aj (l.map nv):=by
 unfold slE
 have:=Ou l
 rw[bS]
 show E.sl 36 l.length ((cW aX).f l)=E.sl 36 l.length ((cW aj).f (l.map nv))
 rw[this]
structure aE where
 vR:Int
 vC:Int
 vV:List ak
 deriving Inhabited,DecidableEq
def a9:Cd aE:=⟨3,fun x=>[.lit (.int .i64 x.vR),.lit (.int .i64 x.vC),slE aj x.vV],fun _=>rfl⟩
def jE(fV:List ak):Int→Option (Int⊕(Bool⊕Unit)):=fun aV=>cnd (decide (aV<((fV).length:Int))) (gd (0≤aV∧aV<((fV).length:Int)) (bnd (kU ((fV)[(aV).toNat]!)) fun x4=>cnd (!x4) (some (.inr (.inl false))) (some (.inl (i64.wrap (aV+(1:Int))))))) (some (.inr (.inr ())))
def mW(fV:List ak):Option Bool:=bnd (a7 (jE fV) (0:Int)) fun y7=>match y7 with| .inl r=>some r| .inr ()=>some true
theorem Dh {fV:List ak}{r:Bool}(h:mW fV=some r):aB prog 69 [dL aj fV] (dB r):=by
 refine bJ (rs:=[.tmp 2]) (fun cx hx h0=>?_) func69
 unfold mW at h
 refine ra hx ?_
 refine AW.seq (ra hx ?_)
 refine AW.block ?_
 obtain⟨y,hy,h⟩:=ah h
 refine lp (S:=Int) (X:=Bool⊕Unit) (fun aV=>[(0,dL aj fV),(3,dI .i64 aV)]) (fun aV=>⟨[],[],0⟩) (PS (PR [.tmp 2] fun r=>dB r) (PE cx (.exit 0) (fun ()=>[]) fun ()=>⟨[],[],0⟩)) hy ?_ ?_ ?_
 exact wk h0 [] (wR rfl (wR rfl wTn)) wVn wLn
 clear hy h
 rintro aV y h
 dsimp only[jE] at h
 refine AW.seq (ra hx ?_)
 refine cdh h rfl (fun cQ h=>?_) (fun cQ h=>?_)
 refine AW.skip (AW.seq (AW.block (rs hx fun K hK=>?_)))
 iterate 2 refine sa ?_
 obtain⟨mR,h⟩:=az h
 have pH:(aV).toNat<(fV).length:=by omega
 refine s1 (eh mR aJ ay) ?_
 refine s1 (d:=dG aj ((fV)[(aV).toNat]!)) (kN (c:=aj) (l:=fV) (n:=(aV).toNat) (o:=0) ay pH (fm _ _ rfl)) ?_
 refine scb h Di fun x4 h=>?_
 refine sa ?_
 refine .nil (hK _ _ (ra hx ?_))
 refine cdh h rfl (fun ej h=>?_) (fun ej h=>?_)
 refine ra hx ?_
 refine AW.ret ?_
 cases h
 refine PS.r ⟨by nofun,PS.l (PR.i ?_)⟩
 exact rv1
 refine AW.skip (rb hx ?_)
 cases h
 exact PS.l (pe0 h0 [])
 refine AW.exit ?_
 try dsimp only
 try simp only[bk,reduceIte,Nat.reduceEqDiff,reduceCtorEq]
 cases h
 exact PS.r ⟨by nofun,PS.r (PE.i (wk h0 [] wTn wVn wLn))⟩
 rcases y with r|⟨⟩
 rintro ex tm' hp' ⟨rfl,hw⟩
 cases h
 exact hw
 rintro ex tm' hp' ⟨rfl,hw⟩
 try dsimp only
 try simp only[bk,reduceIte,Nat.reduceEqDiff,reduceCtorEq]
 refine AW.weak hw (ra hx ?_)
 refine AW.ret ?_
 cases h
 exact rv1
def lR(eJ:aE):Option Int:=bnd (S:=Bool) (cnd (decide (eJ.vR<(0:Int))) (some (true)) (cnd (decide ((200:Int)<eJ.vR)) (some (true)) (cnd (decide (eJ.vC<(0:Int))) (some (true)) (some (decide ((200:Int)<eJ.vC)))))) fun bQ=>cnd bQ (some (2:Int)) (bnd (S:=Bool) (cnd (decide (((eJ.vV).length:Int)≠(i64.wrap (eJ.vR*eJ.vC)))) (some (true)) (bnd (mW eJ.vV) fun x7=>some (!x7))) fun mC=>cnd mC (some (1:Int)) (some (0:Int)))
theorem BP {eJ:aE}{r:Int}(h:lR eJ=some r):aB prog 46 [dG a9 eJ] (dI .i64 r):=by
 refine bJ (rs:=[.tmp 2]) (fun cx hx h0=>?_) func46
 unfold lR at h
 refine rs hx fun K hK=>?_
 refine s1 (d:=.pt 0 0) ka ?_
 refine sa ?_
 refine .nil (hK _ _ ?_)
 iterate 2 refine AW.seq ?_
 obtain⟨bQ,hy,h⟩:=ah h
 refine jn ((PE cx .normal (fun bQ=>[(1,.pt 0 0),(20,dB bQ)]) fun bQ=>⟨[(0,[dI .i64 eJ.vR,dI .i64 eJ.vC,dL aj eJ.vV])],[],1⟩) bQ) ?_ ?_
 replace h:=hy
 refine rq hx fun K hK=>?_
 refine sa ?_
 refine s1 (aP aR) ?_
 iterate 2 refine sa ?_
 rcases bP (decide (eJ.vR<(0:Int))) with cQ|cQ
 replace h:=ba cQ h
 iterate 3 refine aK rfl rfl cQ ?_
 refine s1 (am cQ) ?_
 refine sa ?_
 iterate 3 refine aK rfl rfl rfl ?_
 refine s1 (am rfl) ?_
 refine sa ?_
 iterate 3 refine aK rfl rfl rfl ?_
 refine s1 (am rfl) ?_
 refine .nil (hK _ _ ?_)
 cases h
 exact pe0 h0 [0]
 replace h:=bb cQ h
 refine ga cQ ?_
 refine g1 cQ (aP aR) ?_
 refine ga cQ ?_
 refine s1 (ax cQ) ?_
 refine sa ?_
 rcases bP (decide ((200:Int)<eJ.vR)) with lL|lL
 replace h:=ba lL h
 iterate 3 refine aK rfl rfl lL ?_
 refine s1 (am lL) ?_
 refine sa ?_
 iterate 3 refine aK rfl rfl rfl ?_
 refine s1 (am rfl) ?_
 refine .nil (hK _ _ ?_)
 cases h
 exact pe0 h0 [0]
 replace h:=bb lL h
 refine ga lL ?_
 refine g1 lL (aP aR) ?_
 refine ga lL ?_
 refine s1 (ax lL) ?_
 refine sa ?_
 rcases bP (decide (eJ.vC<(0:Int))) with bn|bn
 replace h:=ba bn h
 iterate 3 refine aK rfl rfl bn ?_
 refine s1 (am bn) ?_
 refine .nil (hK _ _ ?_)
 cases h
 exact pe0 h0 [0]
 replace h:=bb bn h
 refine ga bn ?_
 refine g1 bn (aP aR) ?_
 refine ga bn ?_
 refine s1 (ax bn) ?_
 refine .nil (hK _ _ ?_)
 cases h
 exact pe0 h0 [0]
 rintro ex tm' hp' ⟨rfl,hw⟩
 refine AW.weak hw (cdh h rfl (fun pI h=>?_) (fun pI h=>?_))
 refine ra hx ?_
 refine AW.ret ?_
 cases h
 exact rv1
 refine AW.skip ?_
 iterate 2 refine AW.seq ?_
 obtain⟨mC,hy,h⟩:=ah h
 refine jn ((PE cx .normal (fun mC=>[(35,dB mC)]) fun mC=>⟨[],[],0⟩) mC) ?_ ?_
 replace h:=hy
 refine rq hx fun K hK=>?_
 refine sa ?_
 refine s1 (aP aJ) ?_
 iterate 2 refine sa ?_
 refine s1 (aP aR) ?_
 refine sa ?_
 refine s1 (aP aR) ?_
 iterate 3 refine sa ?_
 rcases bP (decide (((eJ.vV).length:Int)≠(i64.wrap (eJ.vR*eJ.vC)))) with ej|ej
 replace h:=ba ej h
 iterate 4 refine aK rfl rfl ej ?_
 refine s1 (am ej) ?_
 refine .nil (hK _ _ ?_)
 cases h
 exact pe0 h0 []
 replace h:=bb ej h
 refine ga ej ?_
 refine g1 ej (aP aJ) ?_
 obtain⟨x7,Aa,h⟩:=ah h
 refine g1 ej (c9 rfl (Dh Aa) rfl (lA (av _) lAn) (.inl rfl)) ?_
 refine ga ej ?_
 refine s1 (ax ej) ?_
 refine .nil (hK _ _ ?_)
 cases h
 exact pe0 h0 []
 rintro ex tm' hp' ⟨rfl,hw⟩
 refine AW.weak hw (cdh h rfl (fun gz h=>?_) (fun gz h=>?_))
 refine ra hx ?_
 refine AW.ret ?_
 cases h
 exact rv1
 refine AW.skip (ra hx ?_)
 refine AW.ret ?_
 cases h
 exact rv1
def lP(eJ:aE):Option Bool:=bnd (lR eJ) fun x1=>some (decide (x1=(0:Int)))
theorem BN {eJ:aE}{r:Bool}(h:lP eJ=some r):aB prog 57 [dG a9 eJ] (dB r):=by
 refine bJ (rs:=[.tmp 2]) (fun cx hx h0=>?_) func57
 unfold lP at h
 refine rs hx fun K hK=>?_
 refine s1 (d:=.pt 0 0) ka ?_
 refine sa ?_
 refine .nil (hK _ _ (rs hx fun K hK=>?_))
 refine s1 (d:=dG a9 eJ) (cm aG) ?_
 refine scb h BP fun x1 h=>?_
 iterate 2 refine sa ?_
 refine .nil (hK _ _ (AW.ret ?_))
 cases h
 exact rv1
def dK(aY:aE)(a8:aE):Option Bool:=bnd (S:=Bool) (cnd (decide (aY.vR=a8.vR)) (cnd (decide (aY.vC=a8.vC)) (bnd (cY aY.vV a8.vV) fun x3=>some (x3)) (some (false))) (some (false))) fun jv=>some jv
theorem kP {aY:aE}{a8:aE}{r:Bool}(h:dK aY a8=some r):aB prog 14 [dG a9 aY,dG a9 a8] (dB r):=by
 refine bJ (rs:=[.tmp 4]) (fun cx hx h0=>?_) func14
 unfold dK at h
 refine rs hx fun K hK=>?_
 refine s1 (d:=.pt 0 0) ka ?_
 refine s1 (d:=.pt 1 0) ka ?_
 refine sa ?_
 refine .nil (hK _ _ (AW.seq ?_))
 obtain⟨jv,hy,h⟩:=ah h
 refine jn ((PE cx .normal (fun jv=>[(4,dB jv)]) fun jv=>⟨[],[],0⟩) jv) ?_ ?_
 replace h:=hy
 refine rq hx fun K hK=>?_
 refine sa ?_
 refine s1 (aP aR) ?_
 refine sa ?_
 refine s1 (aP aR) ?_
 iterate 2 refine sa ?_
 rcases bP (decide (aY.vR=a8.vR)) with cQ|cQ
 replace h:=ba cQ h
 refine ga cQ ?_
 refine g1 cQ (aP aR) ?_
 refine ga cQ ?_
 refine g1 cQ (aP aR) ?_
 refine ga cQ ?_
 refine s1 (am cQ) ?_
 refine sa ?_
 rcases bP (decide (aY.vC=a8.vC)) with lL|lL
 replace h:=ba lL h
 refine ga lL ?_
 refine g1 lL (aP aJ) ?_
 refine ga lL ?_
 refine g1 lL (aP aJ) ?_
 obtain⟨x3,EX,h⟩:=ah h
 refine g1 lL (c9 rfl (nE EX) rfl (lA (av _) (lA (av _) lAn)) (.inl rfl)) ?_
 refine s1 (am lL) ?_
 refine sa ?_
 refine .nil (hK _ _ ?_)
 cases h
 exact pe0 h0 []
 replace h:=bb lL h
 iterate 5 refine aK rfl rfl lL ?_
 refine s1 (ax lL) ?_
 refine sa ?_
 refine .nil (hK _ _ ?_)
 cases h
 exact pe0 h0 []
 replace h:=bb cQ h
 iterate 5 refine aK rfl rfl cQ ?_
 refine s1 (ax cQ) ?_
 refine sa ?_
 iterate 5 refine aK rfl rfl rfl ?_
 refine s1 (ax rfl) ?_
 refine sa ?_
 refine .nil (hK _ _ ?_)
 cases h
 exact pe0 h0 []
 rintro ex tm' hp' ⟨rfl,hw⟩
 refine AW.weak hw (AW.ret ?_)
 cases h
 exact rv1
def iR(fV:List ak):Int→Option (Int⊕(Bool⊕Unit)):=fun aV=>cnd (decide (aV<((fV).length:Int))) (bnd (S:=Bool) (gd (0≤aV∧aV<((fV).length:Int)) (bnd (eb ((fV)[(aV).toNat]!.vN)) fun x4=>cnd (decide ((60:Int)<x4)) (some (true)) (gd (0≤aV∧aV<((fV).length:Int)) (bnd (eb ((fV)[(aV).toNat]!.vD)) fun x9=>some (decide ((60:Int)<x9)))))) fun dh=>cnd dh (some (.inr (.inl false))) (some (.inl (i64.wrap (aV+(1:Int)))))) (some (.inr (.inr ())))
def lQ(fV:List ak):Option Bool:=bnd (a7 (iR fV) (0:Int)) fun y13=>match y13 with| .inl r=>some r| .inr ()=>some true
theorem BO {fV:List ak}{r:Bool}(h:lQ fV=some r):aB prog 28 [dL aj fV] (dB r):=by
 refine bJ (rs:=[.tmp 2]) (fun cx hx h0=>?_) func28
 unfold lQ at h
 refine ra hx ?_
 refine AW.seq (ra hx ?_)
 refine AW.block ?_
 obtain⟨y,hy,h⟩:=ah h
 refine lp (S:=Int) (X:=Bool⊕Unit) (fun aV=>[(0,dL aj fV),(3,dI .i64 aV)]) (fun aV=>⟨[],[],0⟩) (PS (PR [.tmp 2] fun r=>dB r) (PE cx (.exit 0) (fun ()=>[]) fun ()=>⟨[],[],0⟩)) hy ?_ ?_ ?_
 exact wk h0 [] (wR rfl (wR rfl wTn)) wVn wLn
 clear hy h
 rintro aV y h
 dsimp only[iR] at h
 refine AW.seq (ra hx ?_)
 refine cdh h rfl (fun cQ h=>?_) (fun cQ h=>?_)
 refine AW.skip (AW.seq (AW.block (AW.seq ?_)))
 obtain⟨dh,hy,h⟩:=ah h
 refine jn ((PE cx .normal (fun dh=>[(0,dL aj fV),(3,dI .i64 aV),(25,dB dh)]) fun dh=>⟨[],[],0⟩) dh) ?_ ?_
 replace h:=hy
 refine rq hx fun K hK=>?_
 iterate 2 refine sa ?_
 obtain⟨mR,h⟩:=az h
 have pH:(aV).toNat<(fV).length:=by omega
 refine s1 (eh mR aJ ay) ?_
 refine sa ?_
 refine s1 (d:=dG ap ((fV)[(aV).toNat]!.vN)) (kN (c:=aj) (l:=fV) (n:=(aV).toNat) (o:=0) aA pH (by first|exact rfl|exact pG0 _ _ _ rfl|exact pG1 _ _ _ _ rfl rfl)) ?_
 refine scb h vw fun x4 h=>?_
 iterate 2 refine sa ?_
 rcases bP (decide ((60:Int)<x4)) with ej|ej
 replace h:=ba ej h
 iterate 7 refine aK rfl rfl ej ?_
 refine s1 (am ej) ?_
 refine .nil (hK _ _ ?_)
 cases h
 exact pe0 h0 []
 replace h:=bb ej h
 iterate 2 refine ga ej ?_
 obtain⟨NK,h⟩:=az h
 have Nn:(aV).toNat<(fV).length:=by omega
 refine g1 ej (eh NK aJ ay) ?_
 refine ga ej ?_
 refine g1 (d:=dG ap ((fV)[(aV).toNat]!.vD)) ej (kN (c:=aj) (l:=fV) (n:=(aV).toNat) (o:=18) aA Nn (by first|exact rfl|exact pG0 _ _ _ rfl|exact pG1 _ _ _ _ rfl rfl)) ?_
 obtain⟨x9,xr,h⟩:=ah h
 refine g1 ej (c9 rfl (vw xr) (by simp only[e8,gL,js,lE,iC,iB];exact bh _ _) (lA (fb _ _) lAn) (.inl rfl)) ?_
 refine ga ej ?_
 refine s1 (ax ej) ?_
 refine .nil (hK _ _ ?_)
 cases h
 exact pe0 h0 []
 rintro ex tm' hp' ⟨rfl,hw⟩
 refine AW.weak hw (cdh h rfl (fun td h=>?_) (fun td h=>?_))
 refine ra hx ?_
 refine AW.ret ?_
 cases h
 refine PS.r ⟨by nofun,PS.l (PR.i ?_)⟩
 exact rv1
 refine AW.skip (rb hx ?_)
 cases h
 exact PS.l (pe0 h0 [])
 refine AW.exit ?_
 try dsimp only
 try simp only[bk,reduceIte,Nat.reduceEqDiff,reduceCtorEq]
 cases h
 exact PS.r ⟨by nofun,PS.r (PE.i (wk h0 [] wTn wVn wLn))⟩
 rcases y with r|⟨⟩
 rintro ex tm' hp' ⟨rfl,hw⟩
 cases h
 exact hw
 rintro ex tm' hp' ⟨rfl,hw⟩
 try dsimp only
 try simp only[bk,reduceIte,Nat.reduceEqDiff,reduceCtorEq]
 refine AW.weak hw (ra hx ?_)
 refine AW.ret ?_
 cases h
 exact rv1
def jR(eJ:aE):Option Bool:=cnd (decide ((60:Int)<((eJ.vV).length:Int))) (some false) (bnd (lP eJ) fun x2=>cnd (!x2) (some true) (bnd (S:=Bool) (cnd (decide (eJ.vR≤(6:Int))) (cnd (decide (eJ.vC≤(7:Int))) (bnd (lQ eJ.vV) fun x7=>some (x7)) (some (false))) (some (false))) fun mB=>some mB))
theorem uf {eJ:aE}{r:Bool}(h:jR eJ=some r):aB prog 10 [dG a9 eJ] (dB r):=by
 refine bJ (rs:=[.tmp 2]) (fun cx hx h0=>?_) func10
 unfold jR at h
 refine rs hx fun K hK=>?_
 refine s1 (d:=.pt 0 0) ka ?_
 refine sa ?_
 refine .nil (hK _ _ (AW.seq (rs hx fun K hK=>?_)))
 refine sa ?_
 refine s1 (aP aJ) ?_
 iterate 2 refine sa ?_
 refine .nil (hK _ _ (cdh h rfl (fun cQ h=>?_) (fun cQ h=>?_)))
 refine ra hx ?_
 refine AW.ret ?_
 cases h
 exact rv1
 refine AW.skip (AW.seq (rs hx fun K hK=>?_))
 refine s1 (d:=dG a9 eJ) (cm aG) ?_
 refine scb h BN fun x2 h=>?_
 refine sa ?_
 refine .nil (hK _ _ (cdh h rfl (fun qy h=>?_) (fun qy h=>?_)))
 refine ra hx ?_
 refine AW.ret ?_
 cases h
 exact rv1
 refine AW.skip (AW.seq ?_)
 obtain⟨mB,hy,h⟩:=ah h
 refine jn ((PE cx .normal (fun mB=>[(2,dB mB)]) fun mB=>⟨[],[],0⟩) mB) ?_ ?_
 replace h:=hy
 refine rq hx fun K hK=>?_
 refine sa ?_
 refine s1 (aP aR) ?_
 iterate 2 refine sa ?_
 rcases bP (decide (eJ.vR≤(6:Int))) with pI|pI
 replace h:=ba pI h
 refine ga pI ?_
 refine g1 pI (aP aR) ?_
 refine ga pI ?_
 refine s1 (am pI) ?_
 refine sa ?_
 rcases bP (decide (eJ.vC≤(7:Int))) with ej|ej
 replace h:=ba ej h
 refine ga ej ?_
 refine g1 ej (aP aJ) ?_
 obtain⟨x7,Aa,h⟩:=ah h
 refine g1 ej (c9 rfl (BO Aa) rfl (lA (av _) lAn) (.inl rfl)) ?_
 refine s1 (am ej) ?_
 refine sa ?_
 refine .nil (hK _ _ ?_)
 cases h
 exact pe0 h0 []
 replace h:=bb ej h
 iterate 3 refine aK rfl rfl ej ?_
 refine s1 (ax ej) ?_
 refine sa ?_
 refine .nil (hK _ _ ?_)
 cases h
 exact pe0 h0 []
 replace h:=bb pI h
 iterate 3 refine aK rfl rfl pI ?_
 refine s1 (ax pI) ?_
 refine sa ?_
 iterate 3 refine aK rfl rfl rfl ?_
 refine s1 (ax rfl) ?_
 refine sa ?_
 refine .nil (hK _ _ ?_)
 cases h
 exact pe0 h0 []
 rintro ex tm' hp' ⟨rfl,hw⟩
 refine AW.weak hw (AW.ret ?_)
 cases h
 exact rv1
structure l8 where
 vcol:Int
 vby:ak
 vmoved:Bool
 deriving Inhabited,DecidableEq
def bL:Cd l8:=⟨38,fun x=>[.lit (.int .i64 x.vcol)]++aj.f x.vby++[.lit (.bool x.vmoved)],fun x=>by simp[aj.h,show aj.sz=36 from rfl]⟩
theorem BZ(x:l8):an (bL.f x) (cI .i64) 0 x.vcol (fun y=>bL.f (⟨y,x.vby,x.vmoved⟩:l8)):=
 an.of ([]) ((aj).f x.vby++(cB).f x.vmoved) (by first|rfl|(simp[(cI .i64).h,cB.h,aj.h];first|rfl|done)) (by first|rfl|simp[bL,cI,cB,cS,cL,dQ]) (fun y=>by first|rfl|simp[bL,cI,cB,cS,cL,dQ])
theorem DK(x:l8):an (bL.f x) aj 1 x.vby (fun y=>bL.f (⟨x.vcol,y,x.vmoved⟩:l8)):=
 an.of (((cI .i64)).f x.vcol) ((cB).f x.vmoved) (by first|rfl|(simp[(cI .i64).h,cB.h,aj.h];first|rfl|done)) (by first|rfl|simp[bL,cI,cB,cS,cL,dQ]) (fun y=>by first|rfl|simp[bL,cI,cB,cS,cL,dQ])
theorem yO(x:l8):an (bL.f x) cB 37 x.vmoved (fun y=>bL.f (⟨x.vcol,x.vby,y⟩:l8)):=
 an.of (((cI .i64)).f x.vcol++(aj).f x.vby) ([]) (by first|rfl|(simp[(cI .i64).h,cB.h,aj.h];first|rfl|done)) (by first|rfl|simp[bL,cI,cB,cS,cL,dQ]) (fun y=>by first|rfl|simp[bL,cI,cB,cS,cL,dQ])
structure c5 where
 vm:aE
 vl:List l8
 deriving Inhabited,DecidableEq
def pk:Cd c5:=⟨4,fun x=>a9.f x.vm++[slE bL x.vl],fun x=>by simp[a9.h,show a9.sz=3 from rfl]⟩
section
section
variable {vs sD mJ:List (Nat×List D)} {lv BF:List (Nat×Nat×Nat×TypeId)} {N M n2 k:Nat}
theorem eM.up(hok:eM ⟨vs,lv,N⟩)(h:N≤M):eM ⟨vs,lv,M⟩:=
 ⟨fun j es hj=>by obtain⟨h1,h2⟩:=hok.var j es hj;exact⟨bG h1 h,b7.2 fun d hd=>D.idsC_le h (b7.1 h2 d hd)⟩,fun id e hi=>bG (hok.tok id e hi) h⟩
theorem eM.consM {ds:List D}(hok:eM ⟨vs,lv,M⟩)(hk:k<M)(hd:ds.all (D.idsC M)=true):eM ⟨(k,ds)::vs,lv,M⟩:=hok.cons (aI M) hk hd
theorem wk1 {x:Cx}{tm tm':List (Nat×D)}{vs0:List (Nat×List D)}{lv0:List (Nat×Nat×Nat×TypeId)}{N0 n':Nat}(h0:x.hp0=⟨vs0,lv0,N0⟩)(hN:N0≤n':=by omega)(hn:n'≤n2:=by omega)(hok:eM ⟨mJ,lv,n'⟩:=by (repeat (first|assumption|refine eM.consM ?_ (by omega) (by (first|exact nI _|exact lineD_ids (by omega)|exact dicC_ids (by omega) (by omega)|assumption|exact rfl|(simp only[js,lE,iC];exact det_)))|exact eM.up (by assumption) (by omega))))
  (hv:∀j ds,mJ.lookup j=some ds→sD.lookup j=some ds:=by (intro j ds h;(repeat (rcases dJ h with⟨rfl,rfl⟩|⟨hj,h⟩;·(repeat (first|exact ai|assumption|refine al (by first|assumption|exact kJ (by assumption)|omega) ?_))));have hjN:=eM.lt (by assumption) h;(repeat (first|exact ai|assumption|refine al (by first|assumption|exact kJ (by assumption)|omega) ?_)))) (ht:nZ n' tm tm':=by (repeat (first|exact nZ.nil|refine nZ.cons ?_ (by exact rfl) (by (first|exact rfl|assumption|exact det_|exact b7.2 (fun k hk=>dy (by simp only[jI,va,or_false] at hk;omega))))))):Wk x tm ⟨sD,lv,n2⟩ tm' ⟨mJ,lv,n'⟩:=wkS (by rw[h0];exact hN) hn hok hv ht
theorem rt1 {x:Cx}{tm:List (Nat×D)}{q:Nat}{d:D}(h0:x.hp0=⟨vs,lv,N⟩)(hok:eM ⟨mJ,lv,N⟩:=by (repeat (first|assumption|refine eM.consM ?_ (by omega) (by (first|exact nI _|exact lineD_ids (by omega)|exact dicC_ids (by omega) (by omega)|assumption|exact rfl|(simp only[js,lE,iC];exact det_)))|exact eM.up (by assumption) (by omega))))(hN:N≤n2:=by omega)(hv:∀j ds,mJ.lookup j=some ds→sD.lookup j=some ds:=by (intro j ds h;(repeat (rcases dJ h with⟨rfl,rfl⟩|⟨hj,h⟩;·(repeat (first|exact ai|assumption|refine al (by first|assumption|exact kJ (by assumption)|omega) ?_))));have hjN:=eM.lt (by assumption) h;(repeat (first|exact ai|assumption|refine al (by first|assumption|exact kJ (by assumption)|omega) ?_))))(hq:tm.lookup q=some d:=by exact rfl)(hd:d.idsB N=true:=by (first|exact rfl|assumption|exact det_|exact b7.2 (fun k hk=>dy (by simp only[jI,va,or_false] at hk;omega)))):
  ∃tm',Wk x tm ⟨sD,lv,n2⟩ tm' ⟨mJ,lv,N⟩∧vg tbl [.tmp q] tm' ⟨mJ,lv,N⟩ d:=
 ⟨[(q,d)],wkS (by rw[h0];exact aI N) hN hok hv (nZ.nil.cons hq hd),⟨d,ai,rfl⟩⟩
end
section
variable {md:Md} {ops:Array Oper} {K:List (Nat×D)→Hp→Prop} {os:List Oper} {tm:List (Nat×D)} {hp hp':Hp} {t s:Tmp} {op:Op} {ty:TypeId} {pos:String} {af:Array Edge} {d:D} {j k o n i:Nat} {want c:Bool} {F F2:List D} {F':List D→List D} {a b:Nu} {x y:Operand}
theorem gn(hw:c= !want)(h2:bt prog tbl md ops K os ((t,.tu [])::tm) hp)(hj:(ops[j]?).bind (·.dst)=some s:=by exact rfl)(hc:tm.lookup s=some (.e (.lit (.bool c))):=by exact rfl):bt prog tbl md ops K (⟨some t,op,ty,pos,af,some (j,want)⟩::os) tm hp:=aK hj hc hw h2
theorem l1(L:Pt F o (dC (aX.f a)) F')(h2:bt prog tbl md ops K os ((t,dG aX a)::tm) hp)(hx:evD tm x=.pt k o:=by exact rfl)(hv:hp.vars.lookup k=some F:=by (repeat (first|exact ai|assumption|refine al (by first|assumption|exact kJ (by assumption)|omega) ?_)))(hk:k<hp.next:=by (first|omega|(dsimp only;omega)))(hn:md.nc tbl (.load 34 x)=true:=by exact rfl):bt prog tbl md ops K (⟨some t,.load 34 x,ty,pos,af,none⟩::os) tm hp:=s1 (ldN L hv hk hx) h2 hn
theorem t1 {vs:List (Nat×List D)}{lv:List (Nat×Nat×Nat×TypeId)}{N:Nat}(L:Pt F o (dC (aX.f a)) F')(h3:F' (dC (aX.f b))=F2)(h2:bt prog tbl md ops K os tm ⟨(k,F2)::vs,lv,N⟩)(hx:evD tm x=.pt k o:=by exact rfl)(hv:vs.lookup k=some F:=by (repeat (first|exact ai|assumption|refine al (by first|assumption|exact kJ (by assumption)|omega) ?_)))(hy:evD tm y=dG aX b:=by exact rfl)(hn:md.nc tbl (.store 34 x y)=true:=by exact rfl):bt prog tbl md ops K (⟨none,.store 34 x y,ty,pos,af,none⟩::os) tm ⟨vs,lv,N⟩:=s0 (stN L hv h3 hx hy rfl) h2 hn
theorem l1g(L:Pt F o (dC (aX.f a)) F')(hw:c=want)(h2:bt prog tbl md ops K os ((t,dG aX a)::tm) hp)(hx:evD tm x=.pt k o:=by exact rfl)(hv:hp.vars.lookup k=some F:=by (repeat (first|exact ai|assumption|refine al (by first|assumption|exact kJ (by assumption)|omega) ?_)))(hk:k<hp.next:=by (first|omega|(dsimp only;omega)))(hj:(ops[j]?).bind (·.dst)=some s:=by exact rfl)(hc:tm.lookup s=some (.e (.lit (.bool c))):=by exact rfl)(hn:md.nc tbl (.load 34 x)=true:=by exact rfl):bt prog tbl md ops K (⟨some t,.load 34 x,ty,pos,af,some (j,want)⟩::os) tm hp:=g1 hw (ldN L hv hk hx) h2 hj hc hn
theorem cqg {f:FuncId}{la:List Operand}{ts:Array TypeId}{ds:List D}{r:D}(hc:aB prog f ds r)(hw:c=want)(h2:bt prog tbl md ops K os ((t,r)::tm) hp)(hj:(ops[j]?).bind (·.dst)=some s:=by exact rfl)(hg:tm.lookup s=some (.e (.lit (.bool c))):=by exact rfl)(hp1:((la.map (evD tm)).map D.ex).all D.pure=true:=by repeat (first|exact pn|refine pA (bh _ _) ?_|refine pA rfl ?_))(hl:leL ((la.map (evD tm)).map D.ex) ds:=by repeat (first|exact lAn|refine lC (fb _ _) ?_|refine lC (av _) ?_))(hr:r.pure=true∨∃ds,r=.tu ds:=by (first|exact .inl (iK _ _)|exact .inl rfl|exact .inr ⟨_,rfl⟩)):
  bt prog tbl md ops K (⟨some t,.call ⟨.value (.func f),la.toArray,ts⟩,ty,pos,af,some (j,want)⟩::os) tm hp:=sqg tok hj hg hw hc hp1 hl hr h2
theorem n1 {vs:List (Nat×List D)}{lv:List (Nat×Nat×Nat×TypeId)}{N:Nat}(h2:bt prog tbl md ops K os ((t,.pt N 0)::tm) ⟨(N,dC zN)::vs,lv,N+1⟩)(hn:md.nc tbl (.alloc 34)=true:=by exact rfl):bt prog tbl md ops K (⟨some t,.alloc 34,ty,pos,af,none⟩::os) tm ⟨vs,lv,N⟩:=s1 T_alN h2 hn
theorem z1 {vs:List (Nat×List D)}{lv:List (Nat×Nat×Nat×TypeId)}{N:Nat}(h2:bt prog tbl md ops K os tm ⟨(k,(dC (aX.f b)))::vs,lv,N⟩)(hx:evD tm x=.pt k 0:=by exact rfl)(hv:vs.lookup k=some (dC zN):=by (repeat (first|exact ai|assumption|refine al (by first|assumption|exact kJ (by assumption)|omega) ?_)))(hy:evD tm y=dG aX b:=by exact rfl)(hn:md.nc tbl (.store 34 x y)=true:=by exact rfl):bt prog tbl md ops K (⟨none,.store 34 x y,ty,pos,af,none⟩::os) tm ⟨vs,lv,N⟩:=s0 (stZ hv hx hy rfl) h2 hn
theorem c1 {tt:TypeId}{ti:TyE}(L:Pt F o [d] F')(h2:bt prog tbl md ops K os ((t,d)::tm) hp)(hx:evD tm x=.pt k o:=by exact rfl)(hv:hp.vars.lookup k=some F:=by (repeat (first|exact ai|assumption|refine al (by first|assumption|exact kJ (by assumption)|omega) ?_)))(hk:k<hp.next:=by (first|omega|(dsimp only;omega)))(ht:tbl tt=some ti:=by exact tbI)(hg:ti.ty.agg=false:=by exact rfl)(hn:md.nc tbl (.load tt x)=true:=by exact rfl):bt prog tbl md ops K (⟨some t,.load tt x,ty,pos,af,none⟩::os) tm hp:=s1 (T_ld1 L hv hk ht hg hx) h2 hn
theorem c1g {tt:TypeId}{ti:TyE}(L:Pt F o [d] F')(hw:c=want)(h2:bt prog tbl md ops K os ((t,d)::tm) hp)(hx:evD tm x=.pt k o:=by exact rfl)(hv:hp.vars.lookup k=some F:=by (repeat (first|exact ai|assumption|refine al (by first|assumption|exact kJ (by assumption)|omega) ?_)))(hk:k<hp.next:=by (first|omega|(dsimp only;omega)))(ht:tbl tt=some ti:=by exact tbI)(hg:ti.ty.agg=false:=by exact rfl)(hj:(ops[j]?).bind (·.dst)=some s:=by exact rfl)(hc:tm.lookup s=some (.e (.lit (.bool c))):=by exact rfl)(hn:md.nc tbl (.load tt x)=true:=by exact rfl):bt prog tbl md ops K (⟨some t,.load tt x,ty,pos,af,some (j,want)⟩::os) tm hp:=g1 hw (T_ld1 L hv hk ht hg hx) h2 hj hc hn
theorem p1 {tt:TypeId}{ti:TyE}{bs:List D}(L:Pt F o bs F')(hz:bs.length=ti.size)(h2:bt prog tbl md ops K os ((t,.ag bs)::tm) hp)(hx:evD tm x=.pt k o:=by exact rfl)(hv:hp.vars.lookup k=some F:=by (repeat (first|exact ai|assumption|refine al (by first|assumption|exact kJ (by assumption)|omega) ?_)))(hk:k<hp.next:=by (first|omega|(dsimp only;omega)))(ht:tbl tt=some ti:=by exact tbI)(hg:ti.ty.agg=true:=by exact rfl)(hn:md.nc tbl (.load tt x)=true:=by exact rfl):bt prog tbl md ops K (⟨some t,.load tt x,ty,pos,af,none⟩::os) tm hp:=s1 (T_ldP L hv hk ht hz hg hx) h2 hn
theorem v1 {vs:List (Nat×List D)}{lv:List (Nat×Nat×Nat×TypeId)}{N:Nat}{tt:TypeId}{ti:TyE}{bs ys:List D}(L:Pt F o bs F')(hz:bs.length=ti.size)(hl:ys.length=bs.length)(h3:F' ys=F2)(h2:bt prog tbl md ops K os tm ⟨(k,F2)::vs,lv,N⟩)(hx:evD tm x=.pt k o:=by exact rfl)(hv:vs.lookup k=some F:=by (repeat (first|exact ai|assumption|refine al (by first|assumption|exact kJ (by assumption)|omega) ?_)))(hyc:(evD tm y).cells=some ys:=by exact rfl)(ht:tbl tt=some ti:=by exact tbI)(hn:md.nc tbl (.store tt x y)=true:=by exact rfl):bt prog tbl md ops K (⟨none,.store tt x y,ty,pos,af,none⟩::os) tm ⟨vs,lv,N⟩:=s0 (OS L hv hyc ht hz hl h3 hx rfl) h2 hn
theorem a1 {vs:List (Nat×List D)}{lv:List (Nat×Nat×Nat×TypeId)}{N:Nat}{tt:TypeId}{ti:TyE}{F:List E}(ht:tbl tt=some ti)(h2:bt prog tbl md ops K os ((t,.pt N 0)::tm) ⟨(N,dC F)::vs,lv,N+1⟩)(hz:ti.zero.map E.lit=F:=by kernel_rfl)(hn:md.nc tbl (.alloc tt)=true:=by exact rfl):bt prog tbl md ops K (⟨some t,.alloc tt,ty,pos,af,none⟩::os) tm ⟨vs,lv,N⟩:=s1 (bq ht hz) h2 hn
end
end
section
section
variable {vs:List (Nat×List D)} {lv:List (Nat×Nat×Nat×TypeId)} {N kd R G w:Nat} {C:Nat→Nat}
theorem Pt.all {F:List D}:Pt F 0 F id:=Pt.of [] [] rfl (by simp) fun y=>by simp
end
end
def HJ(p:Nu→Bool)(l:List Nu):Int:=match l.findIdx? p with
 |some i=>i
 |none=>-1
theorem MW {p:Nu→Bool}{l:List Nu}{i:Nat}(hi:i<l.length)(h:p l[i]! =true)(B6:∀j,j<i→p l[j]! =false):HJ p l=i:=by
 have:l.findIdx? p=some i:=by
  rw[OM]
  refine⟨hi,by rw[eI l i hi] at h;exact h,fun j hj=>?_⟩
  have:=B6 j hj
  rw[eI l j (by omega)] at this
  simp[this]
 unfold HJ;rw[this]
theorem KU {p:Nu→Bool}{l:List Nu}(B6:∀j,j<l.length→p l[j]! =false):HJ p l=-1:=by
 have:l.findIdx? p=none:=by
  rw[List.findIdx?_eq_none_iff]
  intro x hx
  obtain⟨j,hj,rfl⟩:=List.mem_iff_getElem.1 hx
  have:=B6 j hj
  rwa[eI l j hj] at this
 unfold HJ;rw[this]
theorem LW {f:FuncId}{p:Nu→Bool}(hf:∀x:Nu,aB prog f [dG aX x] (dB (p x))){l:List Nu}(hl:l.length≤1000000):aB prog 135 [.e (slE aX l),.e (.lit (.func (.func f) #[] #[]))] (dI .i64 (HJ p l)):=by
 refine bJ (rs:=[.tmp 4]) (fun cx hx h0=>?_) func135
 refine ra hx ?_
 refine AW.seq (ra hx ?_)
 refine AW.block (AW.loopW (fun i:Nat=>[(0,.e (slE aX l)),(1,.e (.lit (.func (.func f) #[] #[]))),(7,dI .i64 (l.length:Nat)),(8,dI .i64 (i:Nat))]) (fun _=>⟨[],[],0⟩) (fun i=>i≤l.length∧∀j,j<i→p l[j]! =false) (fun i=>l.length - i) 0 ?_ ⟨de _,fun j h=>absurd h (yB _)⟩ ?_)
 ·exact wk h0 [] (wR rfl (wR rfl (wR rfl (wR rfl wTn)))) wVn wLn
 ·rintro i ⟨hi,B6⟩
  refine ra hx ?_
  refine AW.seq (AW.condS rfl (fun hb=>?_) (fun hb=>?_))
  ·have DT:i<l.length:=by have:=pT hb;omega
   refine AW.skip (AW.seq (AW.block (ra hx ?_)))
   refine rs hx fun K hK=>?_
   iterate 3 refine sa ?_
   have mR:0≤(i:Int)∧(i:Int)<((l.length:Nat):Int):=by omega
   refine s1 (eh mR aJ ay) ?_
   refine s1 (d:=dG aX l[i]!) (kN (c:=aX) (l:=l) (n:=i) (o:=0) ay DT (fm _ _ rfl)) ?_
   refine sc (hf _) ?_
   refine .nil (hK _ _ (AW.condS rfl (fun hb=>?_) (fun hb=>?_)))
   ·refine ra hx ?_
    refine AW.ret ?_
    rw[MW DT hb B6]
    exact rv1
   ·refine AW.skip (rq hx fun K hK=>?_)
    iterate 2 refine sa ?_
    refine .nil (hK _ _ ?_)
    rw[mP]
    refine⟨i+1,wk h0 [] (wR rfl (wR rfl (wR rfl (wR rfl wTn)))) wVn wLn,⟨DT,fun j hj=>?_⟩,by omega⟩
    rcases bZ j i with h1|h1
    ·exact B6 j h1
    ·obtain rfl:j=i:=by omega
     exact hb
  ·refine AW.exit ?_
   have DT:i=l.length:=by have:=oD hb;omega
   refine ra hx ?_
   refine AW.ret ?_
   rw[KU fun j hj=>B6 j (by omega)]
   exact rv1
section
section
variable {vs:List (Nat×List D)} {lv:List (Nat×Nat×Nat×TypeId)} {N kd R G w m nn:Nat} {C:Nat→Nat}
theorem lit_Nu(l:List Nu):(l.flatMap aX.f).all E.isLit=true:=by
 rw[b7]
 intro x hx
 obtain⟨a,_,ha⟩:=List.mem_flatMap.1 hx
 have h2:∀y,y∈ap.f a.1.vN∨y∈ap.f a.1.vD→y.isLit=true:=by
  have h3:∀z:ar,∀y∈ap.f z,y.isLit=true:=fun z y hy=>by
   rcases tq.1 (show y∈[E.lit (.bool z.vBad),.lit (.bool z.vNeg)]++al_cV.f z.vW from hy) with h|h
   ·simp at h;rcases h with rfl|rfl <;> rfl
   ·obtain⟨n,_,hn⟩:=List.mem_flatMap.1 (show y∈z.vW.toList.flatMap (cI .u32).f from h)
    rw[IJ.1 hn];rfl
  rintro y (h|h)
  ·exact h3 _ y h
  ·exact h3 _ y h
 exact h2 x (tq.1 (show x∈ap.f a.1.vN++ap.f a.1.vD from ha))
end
end
section
theorem HC.weak {P:Program}{f:FuncId}{ds:List D}{hp:Hp}{d:D}{vars vars':List (Nat×List D)}{lv lv':List (Nat×Nat×Nat×TypeId)}{n n':Nat}(hc:HC P f ds hp d ⟨vars,lv,n⟩)(h0:hp.next≤n')
  (h:eM hp→eM ⟨vars',lv',n'⟩∧(∀j ds,vars'.lookup j=some ds→vars.lookup j=some ds)∧(∀j y,lv'.lookup j=some y→lv.lookup j=some y)∧d.idsB n'=true):HC P f ds hp d ⟨vars',lv',n'⟩:=by
 refine⟨hc.1,fun B g w vs hr hsz cE=>(hc.2 B g w vs hr hsz cE).mono ?_⟩
 obtain⟨hok,hv,hl,hd⟩:=h hr.ok
 rintro e w' ⟨v,g',rfl,oo,hM,hrd,hb,hF⟩
 have eO:∀id y,lv'.lookup id=some y→lv.lookup id=some y:=hl
 refine⟨v,g',rfl,⟨fun k ds hk=>?_,fun k k' a b hk s5 he=>oo.inj k k' a b (hv k a hk) (hv k' b s5) he,fun id m e hi=>?_,fun id yn t t' b hi wH=>oo.tinj id yn t t' b (eO _ _ hi) (eO _ _ wH),oo.base,oo.fits⟩,
  ⟨hM.size,hM.cell,hM.forb,h0,hM.μ,fun id hid m e Nz=>hM.live id hid m e (eO id _ Nz),fun b hb hf=>⟨(hM.fr b hb hf).1,(hM.fr b hb hf).2.1,fun k ds hk=>(hM.fr b hb hf).2.2.1 k ds (hv k ds hk),fun id t hi=>(hM.fr b hb hf).2.2.2 id t (eO id _ hi)⟩,hM.szs⟩,FY hrd hd rfl eO,hb,hF⟩
 ·obtain⟨_,h3,h4,cs,ty,h5,h6,h7⟩:=oo.var k ds (hv k ds hk)
  obtain⟨h1,h2⟩:=hok.var k ds hk
  exact⟨h1,h3,h4,cs,ty,h5,h6,fun j u hu=>⟨(h7 j u hu).1,fun d hd=>g6 ((h7 j u hu).2 d hd) (b7.1 h2 d (bO hd)) rfl eO⟩⟩
 ·obtain⟨_,us,h2,h3,h4⟩:=oo.tok id m e (eO _ _ hi)
  exact⟨hok.tok id _ hi,us,h2,h3,fun b hb=>⟨(h4 b hb).1,fun k ds hk=>(h4 b hb).2 k ds (hv k ds hk)⟩⟩
theorem resV {q:Nat}{tt:TypeId}{ti:TyE}{k:Nat}{F:List D}{vs:List (Nat×List D)}{lv:List (Nat×Nat×Nat×TypeId)}{N:Nat}{tm:List (Nat×D)}{k2:D→Prop}(ht:tbl tt=some ti)(hl:tm.lookup q=some (.pt k 0))(hv:vs.lookup k=some F)(hk:k<N)(hz:F.length=ti.size)(hg:ti.ty.agg=true)(h:k2 (.ag F)):oq tbl tm ⟨vs,lv,N⟩ (.cell q tt) k2:=by
 refine⟨.pt k 0,hl,⟨_,ht⟩,?_⟩
 rw[mO,ht]
 simp only[hv,hg]
 refine⟨hk,by omega,?_⟩
 rw[pQ,jc (by omega)]
 exact h
theorem HC.forget {P:Program}{f:FuncId}{ds:List D}{d:D}{vs vars:List (Nat×List D)}{lv:List (Nat×Nat×Nat×TypeId)}{N n:Nat}(hc:HC P f ds ⟨vs,lv,N⟩ d ⟨vars,lv,n⟩)(hv:∀j ds,j<N→vs.lookup j=some ds→vars.lookup j=some ds)(hd:d.idsB N=true):HC P f ds ⟨vs,lv,N⟩ d ⟨vs,lv,N⟩:=
 hc.weak (aI N) fun hok=>⟨hok,fun j ds h=>hv j ds (hok.lt h) h,fun _ _ h=>h,hd⟩
section
variable {vs:List (Nat×List D)} {lv:List (Nat×Nat×Nat×TypeId)} {N w i ks s:Nat} {C:Nat→Nat}
theorem rtN1 {x:Cx}{tm:List (Nat×D)}{mJ sD:List (Nat×List D)}{vs0:List (Nat×List D)}{lv0:List (Nat×Nat×Nat×TypeId)}{N0 M n2 q k:Nat}{a:Nu}(h0:x.hp0=⟨vs0,lv0,N0⟩)(hM:N0≤M)(hok:eM ⟨mJ,lv,M⟩)(hN:M≤n2)(hv:∀j ds,mJ.lookup j=some ds→sD.lookup j=some ds)(hk:mJ.lookup k=some (dC (aX.f a)))(hq:tm.lookup q=some (.pt k 0)):
  ∃tm',Wk x tm ⟨sD,lv,n2⟩ tm' ⟨mJ,lv,M⟩∧vg tbl [.cell q 34] tm' ⟨mJ,lv,M⟩ (dG aX a):=
 ⟨[(q,.pt k 0)],wkS (by rw[h0];exact hM) hN hok hv (nZ.nil.cons hq (dy (hok.lt hk))),resV ay ai hk (hok.lt hk) (pD a) rfl rfl⟩
end
end
section
section
variable {x:Cx} {tm tm':List (Nat×D)} {hp:Hp}
theorem Wk.perm {vars':List (Nat×List D)}{oI:List (Nat×Nat×Nat×TypeId)}{m:Nat}(σ:Nat→Nat)(h0:x.hp0.next≤m)(bz:∀i,i<x.hp0.next→σ i=i)(hinj:∀i j,i<m→j<m→σ i=σ j→i=j)
  (ht:∀p∈tm',tm.lookup p.1=some (p.2.ren σ)∧p.2.idsB m=true∧p.2.noOs=true)
  (hv:∀k ds,vars'.lookup k=some ds→k<m∧hp.vars.lookup (σ k)=some (ds.map (D.renC σ))∧ds.all (D.idsC m)=true∧ds.all D.noO=true)
  (hl:∀k y,oI.lookup k=some y→k<m∧hp.live.lookup (σ k)=some y):Wk x tm hp tm' ⟨vars',oI,m⟩:=by
 intro a w ⟨g,hr,gJ,hsz,qI,hB,hF,hM⟩
 have eO:∀id y,(⟨vars',oI,m⟩:Hp).live.lookup id=some y→hp.live.lookup (σ id)=some y:=fun id y h=>(hl _ _ h).2
 refine⟨⟨fun i=>g.μ (σ i),fun i=>g.τ (σ i),g.F⟩,⟨fun k ds hk=>?_,fun k k' ds ds' hk s5 he=>?_,fun id n e hi=>?_,fun id yn t t' b hi wH hb pJ=>?_,hr.base,hr.fits⟩,fun t d h=>?_,hsz,qI,hB,hF,
  ⟨hM.size,hM.cell,hM.forb,h0,fun k hk=>by show g.μ _=_;rw[bz k hk];exact hM.μ k hk,fun id hid n e Nz=>?_,fun b hb hf=>⟨(hM.fr b hb hf).1,(hM.fr b hb hf).2.1,fun k ds hk=>(hM.fr b hb hf).2.2.1 _ _ (hv _ _ hk).2.1,fun id t hi=>(hM.fr b hb hf).2.2.2 _ t (eO id _ hi)⟩,hM.szs⟩⟩
 ·obtain⟨h1,h2,h3,h4⟩:=hv _ _ hk
  obtain⟨_,h5,h6,cs,ty,h7,h8,h9⟩:=hr.var _ _ h2
  refine⟨h1,h5,h6,cs,ty,h7,by simpa using h8,fun j u hu=>⟨fun h=>(h9 j u hu).1 (by simpa using h),fun d hd=>?_⟩⟩
  exact iJ ((h9 j u hu).2 (d.renC _) (by rw[cF,hd];rfl)) (b7.1 h3 d (bO hd)) (b7.1 h4 d (bO hd)) rfl (fun _=>rfl) (fun _=>rfl) rfl eO
 ·obtain⟨h1,h2,_⟩:=hv _ _ hk
  obtain⟨sB,rJ,_⟩:=hv _ _ s5
  exact hinj _ _ h1 sB (hr.inj _ _ _ _ h2 rJ he)
 ·obtain⟨h1,h2⟩:=hl _ _ hi
  obtain⟨_,us,h3,h4,h5⟩:=hr.tok _ n e h2
  exact⟨h1,us,h3,h4,fun b hb=>⟨(h5 b hb).1,fun k ds hk=>(h5 b hb).2 _ _ (hv _ _ hk).2.1⟩⟩
 ·obtain⟨h1,h2⟩:=hl _ _ hi
  obtain⟨sB,rJ⟩:=hl _ _ wH
  exact hinj _ _ h1 sB (hr.tinj _ _ _ _ b h2 rJ hb pJ)
 ·obtain⟨h1,h2,h3⟩:=ht _ (cf h)
  exact Dx (gJ t _ h1) h2 h3 rfl (fun _=>rfl) (fun _=>rfl) rfl eO
 ·obtain⟨m0,h1,h2,h3⟩:=hM.live id hid n e (by rw[←bz id hid];exact eO id _ Nz)
  exact⟨m0,h1,h2,fun h=>by show g.τ _=_;rw[bz id hid];exact h3 h⟩
theorem Mj {σ:Nat→Nat}{n:Nat}(hσ:∀i,i<n→σ i=i){d:D}(hd:d.idsC n=true)(hn:d.noO=true):d.renC σ=d:=by
 cases d with
 |own id z n xs=>simp only[D.idsC,ql] at hd;simp only[D.renC,hσ id hd]
 |pt k o=>simp only[D.idsC,ql] at hd;simp only[D.renC,hσ k hd]
 |ow k o z n=>simp only[D.idsC,ql] at hd;simp only[D.renC,hσ k hd]
 |gw k z n=>simp only[D.idsC,ql] at hd;simp only[D.renC,hσ k hd]
 |fn f ks=>
  simp only[D.idsC,b7,ql] at hd
  simp only[D.renC]
  congr 1
  exact (oE fun k hk=>hσ k (hd k hk)).trans (A0 _)
 |opt b d=>cases hn
 |_=>rfl
theorem Jz {σ:Nat→Nat}{n:Nat}(hσ:∀i,i<n→σ i=i){ds:List D}(hd:ds.all (D.idsC n)=true)(hn:ds.all D.noO=true):ds.map (D.renC σ)=ds:=
 (oE fun d h=>Mj hσ (b7.1 hd d h) (b7.1 hn d h)).trans (A0 _)
end
def TmR(σ:Nat→Nat)(m:Nat)(tm tm':List (Nat×D)):Prop:=∀p∈tm',tm.lookup p.1=some (p.2.ren σ)∧p.2.idsB m=true∧p.2.noOs=true
theorem TmR.nil {σ:Nat→Nat}{m:Nat}{tm:List (Nat×D)}:TmR σ m tm []:=fun p hp=>absurd hp (va)
theorem TmR.cons {σ:Nat→Nat}{m t:Nat}{d:D}{tm tm':List (Nat×D)}(h2:TmR σ m tm tm')(h:tm.lookup t=some (d.ren σ))(hi:d.idsB m=true)(hn:d.noOs=true:=by exact rfl):TmR σ m tm ((t,d)::tm'):=fun p hp=>by
 rcases jI.1 hp with rfl|hp
 ·exact⟨h,hi,hn⟩
 ·exact h2 p hp
end
section
theorem AR.tu {hp:Hp}{ds es:List D}(h:ARs hp ds es):AR hp (.tu ds) (.tu es):=by
 intro B g w v hr hd
 obtain⟨h1,h2⟩:=h.get
 cases hd with
 |tu _ cs hl BG=>
  refine aM.tu es cs (by omega) fun j e u hj hu=>?_
  obtain⟨d,h3,h4⟩:=h2 j e hj
  exact h4 B g w u hr (BG j d u h3 hu)
def mkNu(x:ak)(h:okR x):Nu:=⟨x,h⟩
open Classical in
def sY(x:ak):Nu:=if h:okR x then mkNu x h else default
theorem DF {x:ak}(h:okR x):nv (sY x)=x:=by unfold sY;rw[dif_pos h];rfl
theorem nuOf_nv(x:Nu):sY (nv x)=x:=by unfold sY;rw[dif_pos (show okR (nv x) from x.2)];rfl
def okL(l:List ak):Prop:=∀x∈l,okR x
theorem FN {l:List ak}(h:okL l):(l.map sY).map nv=l:=by
 rw[ol]
 exact (oE fun x hx=>DF (h x hx)).trans (A0 _)
theorem okL_nv(l:List Nu):okL (l.map nv):=fun x hx=>by
 obtain⟨a,_,rfl⟩:=mm.1 hx
 exact a.2
theorem map_nv(l:List Nu):(l.map nv).map sY=l:=by
 rw[ol]
 exact (oE fun x _=>nuOf_nv x).trans (A0 _)
theorem AR.dn {hp:Hp}{e:E}(h:(D.e e).pure=true):AR hp (.e e) (.e e):=AR.data (d:=.e e) h
end
theorem nk:El prog 22 34 (.agg #[.bool false,.bool false,ae,ae,ae,ae,ae,ae,ae,ae,ae,ae,ae,ae,ae,ae,ae,ae,.bool false,.bool false,ae,ae,ae,ae,ae,ae,ae,ae,ae,ae,ae,ae,ae,ae,ae,ae]) 36 136:=⟨underlying22,info_parts (by kernel_rfl),rfl,by decide⟩
theorem nh(n:Nat)(us:List Value)(v:Value)(w:World)(hl:Sl w v 36 n us)(h1:∀u∈us,u.oneCell'=true)(hn:n≤1000000):
  Calls prog 97 #[v] w fun e w'=>∃q,e=.returned q∧w'.ownsRow w.heap.size 34 36 q n us∧Below w.heap.size w w':=by
 obtain⟨A,c,rfl,nJ,mQ,hr⟩:=id hl
 cases A with
 |none=>
  obtain rfl:n=0:=by
   rcases ln n with h|h
   ·exact h
   ·obtain⟨_,h,_⟩:=hr.2 h;cases h
  obtain rfl:us=[]:=jJ (by simpa using hr.1)
  have he:(binOp .eql 22 (.slice none 0 c) (.slice none 0 0)).run prog w=.ok (.bool true) w:=by kernel_rfl
  go_enter func97,ntmps97
  go_wp2_with fail
  go_ret
  exact⟨_,rfl,⟨rfl,.inl ⟨rfl,rfl⟩⟩,Below.refl _ _⟩
 |some ad=>
  have he:(binOp .eql 22 (.slice (some ad) n c) (.slice none 0 0)).run prog w=.ok (.bool false) w:=by kernel_rfl
  go_enter func97,ntmps97
  have hown0:=own_mtG w 34 w.heap.size 36 (aI _)
  have Gk:=(Below.refl w.heap.size w).alloc (aI _) (.cells #[] 34)
  have vo:=hl.below Gk
  have HL:=Lib.hid vo
  have H1:=Lib.hid h1
  clear hl hr vo h1
  go_wp2_with (at_builtin;refine vq _ rfl _ _ _ rfl nk w.heap.size _ _ _ rfl hown0 _ _ _ rfl HL.out H1.out (by omega) (by omega) (by simp) w w.heap.size Gk (aI _) ?_)
  intro v' w' jX hb
  go_wp2_with fail
  go_ret
  refine⟨_,rfl,?_,hb⟩
  simpa using jX
theorem eR(n:Nat)(xs:List E)(hn:n≤1000000):aB prog 97 [.e (.sl 36 n xs)] (.own 34 36 n xs):=
 Ot (by decide) ⟨_,func97,rfl,rfl⟩ (fun us v w h1 h2=>nh n us v w h1 h2 hn)
section
def FWd(ro:Option Nat):Fence:={Fence.wide with round:=ro}
section
variable {P:Program} {ro:Option Nat} {n:Nat}
theorem yw {f:FuncId}{args:Array Value}{w:World}{R:Ending→World→Prop}(h:Calls P f args w R):CallsIn (FWd ro) n P f args w R:=(callsIn_wide (n:=n)).2 h
theorem Ho {row:String}{args:Array Value}{w:World}{R:Value→World→Prop}(h:Rows P row args w R):RowsIn (FWd ro) n P row args w R:=fun c cs _=>by
 obtain⟨v,w',hr,hs⟩:=h c cs
 exact⟨v,w',hr,stepsIn_wide.2 hs⟩
theorem upon_in {o:Oper}{a:Act}{K:Act→World→Prop}{Q:Exit→Act→World→Prop}{r:Result Next}(h:o.upon P a K Q r):o.uponIn (FWd ro) n P a K Q r:=by
 cases r with
 |ok nx w'=>
  cases nx with
  |enter f args=>
   rw[Oper.upon_enter] at h
   rw[Oper.uponIn_enter]
   refine⟨fun hd=>(by cases hd),(yw h).mono ?_⟩
   intro e w'' hh
   cases e <;> exact hh
  |row r args=>
   rw[Oper.uponIn_row]
   exact⟨fun hd=>(by cases hd),Ho h⟩
  |value v=>exact h
  |skip=>exact h
  |«defer» d=>exact h
  |_=>exact h.elim
 |halt hx w'=>
  cases hx with
  |panic v=>exact h
  |_=>exact h.elim
def rE(ops:Array Oper):Bool:=ops.all fun o=>match o.op with
 | .defer _=>false
 |_=>true
theorem vM {ops:Array Oper}(h:rE ops=true){i:Nat}{o:Oper}(hi:ops[i]? =some o):∀c,o.op≠.defer c:=by
 unfold rE at h
 rw[II] at h
 have:=h o (Array.mem_of_getElem? hi)
 intro c hc
 rw[hc] at this
 cases this
theorem op_in {o:Oper}{a:Act}{w:World}{K:Act→World→Prop}{Q:Exit→Act→World→Prop}(hd:∀c,o.op≠.defer c)(h:o.wp P a w K Q):o.wpIn (FWd ro) n P a w K Q:=by
 refine⟨fun _ _=>trivial,?_⟩
 rw[Oper.semAt_eq _ _ _ hd]
 exact upon_in h
end
section
variable {P:Program} {tb:TypeId→Option TyE} {x:Cx} {tm tm':List (Nat×D)} {hp hp':Hp} {a:Act} {w w':World} {ro:Option Nat} {n:Nat}
theorem zw {ops:Array Oper}{K:List (Nat×D)→Hp→Prop}{Q:Exit→Act→World→Prop}(hN:i3 x.N ops=true)(vn:rE ops=true)(tl:List Nat)(r2:List Oper)
  (hk:∀tm hp a w,K tm hp→RS x tm hp a w→wpOpsIn (FWd ro) n P ops Q tl a w)
  (rest:List Oper) (i:Nat) (tm:List (Nat×D)) (hp:Hp) (a:Act) (w:World) (hd:ops.toList.drop i=rest++r2) (h:bt P tb .seq ops K rest tm hp) (hr:RS x tm hp a w):wpOpsIn (FWd ro) n P ops Q (List.range' i rest.length++tl) a w:=by
 have step:∀{o:Oper} {os:List Oper} {i:Nat},ops.toList.drop i=o::os→ops[i]? =some o∧ops.toList.drop (i+1)=os:=by
  intro o os i hd
  refine⟨?_,by rw[←oi,hd];rfl⟩
  have:(ops.toList.drop i)[0]? =some o:=by rw[hd];rfl
  rw[oM] at this
  simpa using this
 induction h generalizing i a w with
 |nil h=>exact hk _ _ _ _ h hr
 |on d hp' hg h2 h1 ih=>
  obtain⟨ho,BI⟩:=step hd
  have ut:=fun t ht=>jq hN ho (t:=t) ht
  simp only[lH,rT,AZ]
  unfold wpOpsIn
  rw[ho]
  dsimp only
  obtain⟨g,_,gJ,_⟩:=id hr
  rw[hg.wanted gJ,ao rfl]
  exact op_in (vM vn ho) (hr.op h2.ok ut fun a' w' oo=>ih (i+1) a' w' BI oo)
 |off d hg hs h1 ih=>
  obtain⟨ho,BI⟩:=step hd
  have ut:=fun t ht=>jq hN ho (t:=t) ht
  simp only[lH,rT,AZ]
  unfold wpOpsIn
  rw[ho]
  dsimp only
  obtain⟨g,_,gJ,_⟩:=id hr
  rw[hg.wanted gJ,aq (by simp)]
  exact⟨fun _ _=>trivial,ih (i+1) _ _ BI (hr.skip hs ut)⟩
 |sq _ d hp' hg h2 h1 ih=>
  obtain⟨ho,BI⟩:=step hd
  have ut:=fun t ht=>jq hN ho (t:=t) ht
  simp only[lH,rT,AZ]
  unfold wpOpsIn
  rw[ho]
  dsimp only
  obtain⟨g,_,gJ,_⟩:=id hr
  rw[hg.wanted gJ,ao rfl]
  exact op_in (vM vn ho) (hr.op h2 ut fun a' w' oo=>ih (i+1) a' w' BI oo)
 |wk _ hw h ih=>exact ih i a w hd (hw.rs hr)
def AV(P:Program)(ro:Option Nat)(x:Cx)(c:Code)(tm:List (Nat×D))(hp:Hp)(Q:Exit→Act→World→Prop):Prop:=∀a w,RS x tm hp a w→c.wpIn (FWd ro) 0 P Q a w
variable {Q:Exit→Act→World→Prop}
theorem AV.mono {c:Code}{Q':Exit→Act→World→Prop}(h:AV P ro x c tm hp Q)(hq:∀ex a w,Q ex a w→Q' ex a w):AV P ro x c tm hp Q':=fun a w hr=>wpIn_mono (h a w hr) hq
theorem zx {c:Code}:c.wpIn (FWd none) n P Q a w↔c.wp P Q a w:=wpIn_wide (n:=n)
theorem AV.aw {c:Code}{Q':Exit→List (Nat×D)→Hp→Prop}(h:AW P x c tm hp Q')(hq:∀ex tm' hp' a w,Q' ex tm' hp'→RS x tm' hp' a w→Q ex a w):AV P none x c tm hp Q:=
 fun a w hr=>zx.2 (wp_mono (h a w hr) fun ex a' w' ⟨tm',hp',h1,h2⟩=>hq ex tm' hp' a' w' h2 h1)
theorem AV.seq {c c':Code}(h:AV P ro x c tm hp (Exit.then (fun a w=>c'.wpIn (FWd ro) 0 P Q a w) Q)):AV P ro x (.seq c c') tm hp Q:=fun a w hr=>wpIn_seq (h a w hr)
theorem AV.seqA {c c':Code}(h:AW P x c tm hp fun ex tm' hp'=>match ex with| .normal=>AV P none x c' tm' hp' Q|ex=>∀a w,RS x tm' hp' a w→Q ex a w):AV P none x (.seq c c') tm hp Q:=by
 refine AV.seq (AV.aw h ?_)
 intro ex tm' hp' a w h1 hr
 cases ex with
 |normal=>exact h1 a w hr
 |_=>exact h1 a w hr
theorem AV.block {id:Nat}{c:Code}(h:AV P ro x c tm hp (Exit.inBlock id Q)):AV P ro x (.block id c) tm hp Q:=fun a w hr=>wpIn_block (h a w hr)
theorem AV.ret(h:∀a w,RS x tm hp a w→Q .ret a w):AV P ro x .ret tm hp Q:=fun a w hr=>wpIn_ret (h a w hr)
theorem AV.skip(h:∀a w,RS x tm hp a w→Q .normal a w):AV P ro x .skip tm hp Q:=fun a w hr=>wpIn_skip (h a w hr)
theorem AV.weak {c:Code}(hw:Wk x tm hp tm' hp')(h:AV P ro x c tm' hp' Q):AV P ro x c tm hp Q:=fun a w hr=>h a w (hw a w hr)
theorem AV.cond {c:Operand}{c1 c2:Code}{b:Bool}(hc:evD tm c=.e (.lit (.bool b)))(ht:b=true→AV P ro x c1 tm hp Q)(hf:b=false→AV P ro x c2 tm hp Q):AV P ro x (.cond c c1 c2) tm hp Q:=by
 intro a w hr
 obtain⟨g,_,gJ,_⟩:=id hr
 have hv:=wb gJ c
 rw[hc] at hv
 refine wpIn_cond (t:=b) hv.lit ?_
 cases b
 ·exact hf rfl a w hr
 ·exact ht rfl a w hr
theorem AV.region {id:Nat}{ops:Array Oper}(hN:i3 x.N ops=true)(vn:rE ops=true)(h:∀K:List (Nat×D)→Hp→Prop,(∀tm hp,(∀a w,RS x tm hp a w→Q .normal a w)→K tm hp)→bt P tb .seq ops K ops.toList tm hp):AV P ro x (.region id ops false) tm hp Q:=by
 intro a w hr
 refine wpIn_region ?_
 have:=zw (ro:=ro) (n:=0) (Q:=Q) hN vn [] [] (fun tm hp a w hk hr=>by unfold wpOpsIn;exact hk a w hr) ops.toList 0 tm hp a w (by simp) (h _ fun _ _ h=>h) hr
 rwa[tp,dT,←xN] at this
theorem AV.loop {c:Code}(I:Nat→List (Nat×D)→Hp→Prop){n:Nat}{tm0:List (Nat×D)}{hp0:Hp}(hw:Wk x tm hp tm0 hp0)(h0:I n tm0 hp0)
  (round:∀n tm hp,I n tm hp→AV P none x c tm hp (Exit.then (fun a w=>∃m KB bF,m<n∧RS x KB bF a w∧I m KB bF) Q)):AV P none x (.loop c) tm hp Q:=by
 intro a w hr
 refine zx.2 (ua (fun n a w=>∃tm hp,RS x tm hp a w∧I n tm hp) (n:=n) ⟨tm0,hp0,hw a w hr,h0⟩ (fun n a w ⟨tm,hp,hr,hI⟩=>wp_mono (zx.1 (round n tm hp hI a w hr)) ?_))
 intro ex a' w' h1
 cases ex with
 |normal=>
  obtain⟨m,KB,bF,h2,h3,h4⟩:=h1
  exact⟨m,h2,KB,bF,h3,h4⟩
 |_=>exact h1
theorem Fy {tc:Option Tmp}{ty ta:Tmp}{ts:Array TypeId}{tyid:TypeId}{pos:String}{af:Array Edge}{l:Nat}{gd:Option (Nat×Bool)}(hy:a.eval (.tmp ty)=.func (.yield l) #[] #[]){fn:FuncId}{tmps:Array Value}{assign body:Code}(hr:(Instr.yield l #[a.eval (.tmp ta)]).run P w=.ok (.round l fn tmps assign body) w):
  (execOp a.eval ⟨tc,.call ⟨.value (.tmp ty),#[.tmp ta],ts⟩,tyid,pos,af,gd⟩).run P w=.ok (.round l fn tmps assign body) w:=by
 have z9:a.tmps[ty]?.getD undef=.func (.yield l) #[] #[]:=by simpa[Act.eval,cz] using hy
 have HV:(Instr.yield l #[a.tmps[ta]?.getD undef]).run P w=.ok (.round l fn tmps assign body) w:=by simpa[Act.eval,cz] using hr
 simp[execOp,resolve,invoke,z9,HV,go_sem]
end
end
section
section
variable {B:Nat} {hp hp' hp1 bF:Hp} {g g' g1 g2:Gh} {w w' w1 w2:World} {l:Nat} {o o':Obj}
theorem q8(hl:w.heap[l]? =some o)(ho:o.isCells=false)(rt:o'.isCells=false)(p:Addr):(w.putObj l o').cell? p=w.cell? p:=by
 by_cases hp:p.block=l
 ·unfold World.cell?
  rw[hp,hl,World.putObj_heap_same (f7.1 hl).1]
  cases o <;> cases o' <;> first|rfl|(cases rt;done)|(cases ho;done)
 ·exact World.cell?_of_block (World.putObj_heap_other hp)
theorem qT(hl:w.heap[l]? =some o)(ho:o.isCells=false){b:Nat}{cs:Array Value}{ty:TypeId}{r:Nat×Nat}(hb:w.heap[b]? =some (.cells cs ty r)):b≠l:=by
 rintro rfl
 rw[hl] at hb
 injection hb with hb
 subst hb
 cases ho
theorem cC.putO {F:Addr→Prop}{x:E}{v:Value}(h:cC w F x v)(hl:w.heap[l]? =some o)(ho:o.isCells=false)(rt:o'.isCells=false):cC (w.putObj l o') F x v:=
 h.mono (by simp) (fun p _ _=>q8 hl ho rt p) fun _ _ h=>h
theorem aM.putO {d:D}{v:Value}(h:aM hp g w d v)(hl:w.heap[l]? =some o)(ho:o.isCells=false)(rt:o'.isCells=false):aM hp g (w.putObj l o') d v:=by
 induction h with
 |e x v h=>exact .e x v (h.putO hl ho rt)
 |own id z n xs v h hid ht=>exact .own id z n xs v (h.putO hl ho rt) hid ht
 |fu z n xs A h=>exact .fu z n xs A (h.putO hl ho rt)
 |ag ds cs hl h1 _ ih=>exact .ag ds cs hl h1 ih
 |tu ds cs hl _ ih=>exact .tu ds cs hl ih
 |fp xs off ad hb hc=>
  refine .fp xs off ad (by simpa using hb) (fun j x hx=>?_)
  obtain⟨u,h1,h2,h3⟩:=hc j x hx
  exact⟨u,(q8 hl ho rt _).trans h1,h2,h3.putO hl ho rt⟩
 |pt k off hk=>exact .pt k off hk
 |ow k off z n c hk h1 h2=>exact .ow k off z n c hk h1 h2
 |gw k z n c hk h1 h2 hs=>
  obtain⟨cs,ty,r,h3,h4⟩:=hs
  exact .gw k z n c hk h1 h2 ⟨cs,ty,r,(World.putObj_heap_other (qT hl ho h3)).trans h3,h4⟩
 |fn f ks hk=>exact .fn f ks hk
 |opt b d v hi _ ih=>exact .opt b d v hi ih
 |top v=>exact .top v
theorem HR.putO(h:HR B hp g w)(hl:w.heap[l]? =some o)(ho:o.isCells=false)(rt:o'.isCells=false):HR B hp g (w.putObj l o'):=by
 refine⟨fun k ds hk=>?_,h.inj,fun id n e hi=>?_,h.tinj,by simpa using h.base,fun p hf=>by simpa using h.fits p hf⟩
 ·obtain⟨h1,h2,h3,cs,ty,h4,h5,h6⟩:=h.var k ds hk
  exact⟨h1,h2,h3,cs,ty,(World.putObj_heap_other (qT hl ho h4)).trans h4,h5,fun j u hu=>⟨(h6 j u hu).1,fun d hd=>((h6 j u hu).2 d hd).putO hl ho rt⟩⟩
 ·obtain⟨h1,us,hz,h2,h3⟩:=h.tok id n e hi
  refine⟨h1,us,hz,⟨h2.1,?_⟩,h3⟩
  rcases h2.2 with h0|⟨b,cap,cur,hv,hB,hh,r⟩
  ·exact .inl h0
  ·exact .inr ⟨b,cap,cur,hv,hB,(World.putObj_heap_other (qT hl ho hh)).trans hh,r⟩
theorem HR.free(h:HR B hp g w)(hl:w.heap[l]? =some o)(ho:o.isCells=false):I5 hp g l:=by
 refine⟨fun k ds hk=>?_,fun id t hi he=>?_⟩
 ·obtain⟨_,_,_,cs,ty,h4,_⟩:=h.var k ds hk
  exact qT hl ho h4
 ·obtain⟨h1,us,hz,h2,h3⟩:=h.tok id t.1 t.2 hi
  rcases h2.2 with⟨h0,_⟩|⟨b,cap,cur,hv,hB,hh,r⟩
  ·rw[h0] at he;cases he
  ·rw[hv] at he
   have:b=l:=by injection he
   exact qT hl ho hh this
theorem bB.patch {o1:Obj}(m:bB hp1 g1 (w1.putObj l o1) bF g2 w2)(hl:w1.heap[l]? =some o)(ho:o.isCells=false)(ho1:o1.isCells=false)(hf:I5 hp1 g1 l):bB hp1 g1 w1 bF g2 (w2.putObj l o):=by
 have bz:l<w1.heap.size:=(f7.1 hl).1
 have hs1:(w1.putObj l o1).heap.size=w1.heap.size:=by simp
 obtain⟨h2,h3,h4⟩:=m.fr l (by rw[hs1];exact bz) hf
 have h2:w2.heap[l]? =some o1:=h2.trans (World.putObj_heap_same bz)
 have hlt2:l<w2.heap.size:=(f7.1 h2).1
 refine⟨by have:=m.size;rw[hs1] at this;simpa using this,fun p hp hF=>?_,fun p hp hF=>m.forb p (by rw[hs1];exact hp) hF,m.next,m.μ,m.live,fun b hb hfb=>?_,fun b cs ty r hc=>?_⟩
 ·rw[q8 h2 ho1 ho,m.cell p (by rw[hs1];exact hp) hF,q8 hl ho ho1]
 ·obtain⟨h5,h6,h7⟩:=m.fr b (by rw[hs1];exact hb) hfb
  refine⟨?_,h6,h7⟩
  by_cases e:b=l
  ·subst e;rw[World.putObj_heap_same hlt2,hl]
  ·rw[World.putObj_heap_other e,h5,World.putObj_heap_other e]
 ·have e:b≠l:=qT hl ho hc
  obtain⟨rM,h5,h6⟩:=m.szs b cs ty r ((World.putObj_heap_other e).trans hc)
  exact⟨rM,(World.putObj_heap_other e).trans h5,h6⟩
theorem bB.putNew(m:bB hp g w hp' g' w')(hn:w.heap.size≤l)(hl:w'.heap[l]? =some o)(ho:o.isCells=false)(rt:o'.isCells=false):bB hp g w hp' g' (w'.putObj l o'):=by
 refine⟨by simpa using m.size,fun p hp hF=>by rw[q8 hl ho rt];exact m.cell p hp hF,m.forb,m.next,m.μ,m.live,fun b hb hfb=>?_,fun b cs ty r hc=>?_⟩
 ·obtain⟨h5,h6,h7⟩:=m.fr b hb hfb
  exact⟨(World.putObj_heap_other (by omega)).trans h5,h6,h7⟩
 ·obtain⟨rM,h5,h6⟩:=m.szs b cs ty r hc
  have:b<w.heap.size:=(f7.1 hc).1
  exact⟨rM,(World.putObj_heap_other (by omega)).trans h5,h6⟩
theorem rR {w0:World}(h:Below B w0 w)(hl:B≤l):Below B w0 (w.putObj l o'):=
 ⟨h.os,h.tape,h.output,by simpa using h.size,fun k hk=>(World.putObj_heap_other (by omega)).trans (h.block k hk)⟩
end
structure vk(B:Nat)(hp:Hp)(g:Gh)(w:World)(hp':Hp)(g':Gh)(w':World):Prop where
 hr:HR B hp' g' w'
 mo:bB hp g w hp' g' w'
 bl:Below B w w'
 fo:∀p:Addr,p.block<B→g.F p→g'.F p
theorem vk.trans {B:Nat}{hp hp' bF:Hp}{g g' g2:Gh}{w w' w2:World}(h:vk B hp g w hp' g' w')(h':vk B hp' g' w' bF g2 w2):vk B hp g w bF g2 w2:=
 ⟨h'.hr,h.mo.trans h'.mo,h.bl.trans h'.bl,fun p hp hq=>h'.fo p hp (h.fo p hp hq)⟩
def CW(r:Loop):Loop:={r with state:=.busy}
def pE(r:Loop):Loop:={r with state:=.done,pending:=some .ret}
def YOk(P:Program)(B l:Nat)(rec:Loop)(hpE:Hp)(gE:Gh)(wE:World)(hp:Hp)(d:D)(Y S:Hp→Prop):Prop:=
 ∀g W v,vk B hpE gE wE hp g W→aM hp g W d v→YieldAt Fence.wide 0 P l #[v] W fun e w'=>
  (e=.returned (.bool true)∧∃hp' g',vk B hp g W hp' g' w'∧Y hp')∨
  (e=.returned (.bool false)∧∃hp' g' W',w'=W'.putObj l (.loop (pE rec))∧W'.heap[l]? =some (.loop rec)∧vk B hp g W hp' g' W'∧S hp')
section
variable {P:Program} {tb:TypeId→Option TyE} {B l:Nat} {rec:Loop} {hpE hp:Hp} {gE:Gh} {wE:World} {d:D} {tm0:List (Nat×D)} {Y S:Hp→Prop}
theorem YOk.of {p:Tmp}(hlE:wE.heap[l]? =some (.loop rec))(hrE:HR B hpE gE wE)(v3:rec.state=.ready)(hpe:rec.pending=none)(hpar:rec.params=#[p])(hB:B≤l)(hp0:p<rec.tmps.size)
  (gJ:∀t d,tm0.lookup t=some d→aM hpE gE wE d (rec.tmps.getD t undef))
  (has:∀x:Cx,x.N=rec.tmps.size→x.df=[]→x.hp0=hp→AV P (some l) x rec.assign ((p,d)::tm0) hp fun ex a w=>ex=.normal∧∃Cu hp1,RS x Cu hp1 a w∧
   ∀x:Cx,x.N=rec.tmps.size→x.df=[]→x.hp0=hp1→AV P (some l) x rec.body Cu hp1 fun ex a w=>∃tm hp',RS x tm hp' a w∧match ex with| .normal=>Y hp'| .ret=>S hp'|_=>False):
  YOk P B l rec hpE gE wE hp d Y S:=by
 intro g W v hc hv
 have hfE:=hrE.free hlE rfl
 obtain⟨hl0,_,hf0⟩:=hc.mo.fr l (f7.1 hlE).1 hfE
 have hl:W.heap[l]? =some (.loop rec):=hl0.trans hlE
 refine⟨_,_,_,_,run_yield hl (by rw[hpar];rfl),roundIn_of_wpIn trivial ?_⟩
 rw[hpar]
 have Ad:RS ⟨B,W,g.F,rec.tmps.size,hp,g,[]⟩ ((p,d)::tm0) hp {tmps:=((#[p]:Array Tmp).zip #[v]).foldl (fun tmps (t,a)=>tmps.setIfInBounds t a) rec.tmps,defers:=[]} W:=by
  refine⟨g,hc.hr,fun t d' ht=>?_,by simp,rfl,Below.refl _ _,fun _ _ h=>h,bB.refl _ _ _⟩
  have hz:(#[p]:Array Tmp).zip #[v]=#[(p,v)]:=by apply Array.ext';simp
  rw[hz]
  simp only[List.foldl_toArray',pS,List.foldl_nil,jY,lH,List.length_nil,bE]
  by_cases e:t=p
  ·subst e
   have:some d=some d':=by rw[←ht];exact ai.symm
   injection this with this
   subst this
   simpa[cz,hp0] using hv
  ·have h0:=gJ t d' (by rw[←ht];exact (au e).symm)
   have:=h0.mono hc.mo
   simpa[cz,A9 (fun h:p=t=>e h.symm)] using this
 refine wpIn_mono (has ⟨B,W,g.F,rec.tmps.size,hp,g,[]⟩ rfl rfl rfl _ _ Ad) ?_
 rintro ex a1 w1 ⟨rfl,Cu,hp1,⟨g1,Nb,htm1,hsz1,hdf1,hB1,E3,hM1⟩,hbo⟩
 obtain⟨hl1',_,Ga⟩:=hM1.fr l (f7.1 hl).1 hf0
 have yU:w1.heap[l]? =some (.loop rec):=hl1'.trans hl
 have hlt1:=(f7.1 yU).1
 refine⟨_,run_beginRound yU v3,?_⟩
 have hmid:RS ⟨B,w1.putObj l (.loop (CW rec)),g.F,rec.tmps.size,hp1,g1,[]⟩ Cu hp1 a1 (w1.putObj l (.loop (CW rec))):=
  ⟨g1,Nb.putO yU rfl rfl,fun t d ht=>(htm1 t d ht).putO yU rfl rfl,hsz1,hdf1,Below.refl _ _,E3,bB.refl _ _ _⟩
 refine wpIn_mono (hbo ⟨B,w1.putObj l (.loop (CW rec)),g.F,rec.tmps.size,hp1,g1,[]⟩ rfl rfl rfl _ _ hmid) ?_
 rintro ex a2 w2 ⟨tm,bF,⟨g2,HV,_,_,_,hB2,hF2,hM2⟩,hq⟩
 obtain⟨hl2',_,NF⟩:=hM2.fr l (by simpa using hlt1) Ga
 have vo:w2.heap[l]? =some (.loop (CW rec)):=hl2'.trans (World.putObj_heap_same hlt1)
 have hlt2:=(f7.1 vo).1
 have hbl:Below B w1 w2:=⟨hB2.os,hB2.tape,hB2.output,by simpa using hB2.size,fun k hk=>(hB2.block k hk).trans (World.putObj_heap_other (by omega))⟩
 have uu:vk B hp g W bF g2 (w2.putObj l (.loop rec)):=⟨HV.putO vo rfl rfl,hM1.trans (hM2.patch yU rfl rfl Ga),rR (hB1.trans hbl) hB,hF2⟩
 cases ex with
 |normal=>
  refine⟨_,_,run_endRound none vo,.inl ⟨rfl,bF,g2,?_,hq⟩⟩
  have:({(CW rec) with state:=if (none:Option Code).isNone then .ready else .done,pending:=none}:Loop)=rec:=by
   obtain⟨s,q,f1,f2,f3,f4,f5,f6⟩:=rec
   dsimp only at v3 hpe
   subst v3;subst hpe
   rfl
  rw[this];exact uu
 |ret=>
  refine⟨_,_,run_endRound (some .ret) vo,.inr ⟨rfl,bF,g2,w2.putObj l (.loop rec),?_,World.putObj_heap_same hlt2,uu,hq⟩⟩
  show w2.putObj l _=(w2.putObj l _).putObj l _
  unfold World.putObj
  dsimp only
  congr 1
  simp[pE,CW]
 |_=>exact hq.elim
end
section
variable {P:Program} {tb:TypeId→Option TyE} {x:Cx} {tm Cu:List (Nat×D)} {hp hp1:Hp} {Q:Exit→Act→World→Prop}
theorem AV.yield {id:Nat}{ops:Array Oper}{tc ty ta tn:Tmp}{ts:Array TypeId}{ty1 ty2 ty3:TypeId}{p1 p2:String}{a1 a2:Array Edge}{l:Nat}{rec:Loop}{hpE:Hp}{gE:Gh}{wE:World}(m:Nat)
  (Nh:ops.toList=ops.toList.take m++[⟨some tc,.call ⟨.value (.tmp ty),#[.tmp ta],ts⟩,ty1,p1,a1,none⟩,⟨some tn,.unOp .not ty2 (.tmp tc),ty3,p2,a2,none⟩]) (hN:i3 x.N ops=true) (vn:rE ops=true)
  (hx:x.hp0=hpE∧x.g0=gE∧x.w0=wE∧∀p:Addr,p.block<x.B→gE.F p→x.F0 p)
  (h1:∀K:List (Nat×D)→Hp→Prop,(∀Cu hp1 d Y S,Cu.lookup ty=some (.e (.lit (.func (.yield l) #[] #[])))→Cu.lookup ta=some d→YOk P x.B l rec hpE gE wE hp1 d Y S→
    (∀bF a w,Y bF→RS x ((tn,.e (.lit (.bool false)))::(tc,.e (.lit (.bool true)))::Cu) bF a w→Q .normal a w)→
    (∀bF g2 W' a,S bF→W'.heap[l]? =some (.loop rec)→vk x.B hpE gE wE bF g2 W'→a.defers=x.df→Q .ret a (W'.putObj l (.loop (pE rec))))→K Cu hp1)→bt P tb .seq ops K (ops.toList.take m) tm hp):
  AV P none x (.seq (.region id ops false) (.cond (.tmp tn) .ret .skip)) tm hp Q:=by
 generalize ops.toList.take m=pre at Nh h1
 intro a w hr
 refine wpIn_seq (wpIn_region ?_)
 have hlen:ops.size=pre.length+2:=by rw[←dT,Nh];simp
 have B9:ops[pre.length]? =some ⟨some tc,.call ⟨.value (.tmp ty),#[.tmp ta],ts⟩,ty1,p1,a1,none⟩:=by
  rw[←u7,Nh,tr (aI _)];simp
 have H3:ops[pre.length+1]? =some ⟨some tn,.unOp .not ty2 (.tmp tc),ty3,p2,a2,none⟩:=by
  rw[←u7,Nh,tr (by omega),show pre.length+1 - pre.length=1 by omega];rfl
 have JJ:tc<x.N:=jq hN B9 rfl
 have mR:tn<x.N:=jq hN H3 rfl
 rw[hlen,xN,show List.range' 0 (pre.length+2)=List.range' 0 pre.length++[pre.length,pre.length+1] from by
  rw[←List.range'_append_1];simp[List.range']]
 refine zw (K:=fun Cu hp1=>∃d Y S,Cu.lookup ty=some (.e (.lit (.func (.yield l) #[] #[])))∧Cu.lookup ta=some d∧YOk P x.B l rec hpE gE wE hp1 d Y S∧
   (∀bF a w,Y bF→RS x ((tn,.e (.lit (.bool false)))::(tc,.e (.lit (.bool true)))::Cu) bF a w→Q .normal a w)∧
   (∀bF g2 W' a,S bF→W'.heap[l]? =some (.loop rec)→vk x.B hpE gE wE bF g2 W'→a.defers=x.df→Q .ret a (W'.putObj l (.loop (pE rec))))) hN vn _ _ ?_ pre 0 tm hp a w (by rw[pQ];exact Nh) (h1 _ fun Cu hp1 d Y S q1 q2 q3 q4 q5=>⟨d,Y,S,q1,q2,q3,q4,q5⟩) hr
 rintro Cu hp1 a w ⟨d,Y,S,hy,ha,hY,ht,hf⟩ ⟨g,hh,gJ,hsz,qI,hB,hF,hM⟩
 -- the round
 unfold wpOpsIn
 rw[B9]
 dsimp only
 rw[show Region.wanted (⟨some tc,.call ⟨.value (.tmp ty),#[.tmp ta],ts⟩,ty1,p1,a1,none⟩:Oper) (yielded ops a.tmps)=true from rfl,ao rfl]
 have hye:a.eval (.tmp ty)=.func (.yield l) #[] #[]:=by
  have:=gJ ty _ hy
  exact this.lit
 obtain⟨rfl,rfl,rfl,Lc⟩:=hx
 obtain⟨fn,tmps,assign,body,bD,hR⟩:=hY g w (a.eval (.tmp ta)) ⟨hh,hM,hB,fun p hp hq=>hF p hp (Lc p hp hq)⟩ (gJ ta d ha)
 refine⟨fun _ _=>trivial,?_⟩
 rw[Oper.semAt_eq _ _ _ (by intro c h;cases h),Fy hye bD]
 refine⟨fun h=>(by cases h),?_⟩
 have hR2:RoundIn (FWd none) 0 P l fn tmps assign body w _:=hR
 refine hR2.mono ?_
 intro e w' hq
 have Nk:∀(b:Bool) (Q':Exit→Act→World→Prop),(∀aa,aa=(a.put (some tc) (.bool b)).put (some tn) (.bool (!b))→Q' .normal aa w')→wpOpsIn (FWd none) 0 P ops Q' [pre.length+1] (a.put (some tc) (.bool b)) w':=by
  intro b Q' hq
  unfold wpOpsIn
  rw[H3]
  dsimp only
  rw[show Region.wanted (⟨some tn,.unOp .not ty2 (.tmp tc),ty3,p2,a2,none⟩:Oper) (yielded ops (a.put (some tc) (.bool b)).tmps)=true from rfl,ao rfl]
  refine⟨fun _ _=>trivial,?_⟩
  rw[Oper.semAt_eq _ _ _ (by intro c h;cases h)]
  have he:(a.put (some tc) (.bool b)).eval (.tmp tc)=.bool b:=vK (by rw[hsz];exact JJ)
  have hrun2:(execOp (a.put (some tc) (.bool b)).eval ⟨some tn,.unOp .not ty2 (.tmp tc),ty3,p2,a2,none⟩).run P w'=.ok (.value (.bool (!b))) w':=by
   have bz:tc<a.tmps.size:=by rw[hsz];exact JJ
   simp[execOp,bz,Op.unary,go_sem]
  rw[hrun2]
  show wpOpsIn (FWd none) 0 P ops Q' [] _ w'
  unfold wpOpsIn
  exact hq _ rfl
 have yr:∀b:Bool,((a.put (some tc) (.bool b)).put (some tn) (.bool (!b))).eval (.tmp tn)=.bool (!b):=fun b=>vK (by rw[py,hsz];exact mR)
 rcases hq with⟨rfl,bF,g2,hc,hq⟩|⟨rfl,bF,g2,W',rfl,hl,hc,hq⟩
 ·refine Nk true _ ?_
  rintro aa rfl
  refine wpIn_cond_false (yr true) (wpIn_skip (ht bF _ _ hq ?_))
  refine⟨g2,hc.hr,zg (dst:=some tn) (d:=.e (.lit (.bool false))) (v:=.bool (!true)) (zg (dst:=some tc) (d:=.e (.lit (.bool true))) (v:=.bool true) (fun t d ht=>(gJ t d ht).mono hc.mo) (.e _ _ (.lit (.bool true) rfl)) ?_) (.e _ _ (.lit (.bool false) rfl)) ?_,by rw[py,py,hsz],by rw[mc,mc,qI],hB.trans hc.bl,fun p h1 h2=>hc.fo p h1 (hF p h1 h2),hM.trans hc.mo⟩
  ·intro t e;cases e;rw[hsz];exact JJ
  ·intro t e;cases e;rw[py,hsz];exact mR
 ·refine Nk false _ ?_
  rintro aa rfl
  refine wpIn_cond_true (yr false) (wpIn_ret (hf bF g2 W' _ hq hl ?_ (by rw[mc,mc,qI])))
  exact (vk.mk hh hM hB fun p hp hq=>hF p hp (Lc p hp hq)).trans hc
end
end
section
section
variable {P:Program} {tb:TypeId→Option TyE} {x:Cx} {tm Cu:List (Nat×D)} {hp hp1:Hp} {Q:Exit→Act→World→Prop}
def DB(g:Gh)(ks:List Nat):Array Value:=(ks.map fun k=>Value.pointer (some ⟨g.μ k,0,none⟩)).toArray
def I1(P:Program)(f:FuncId)(ks:List Nat)(B:Nat)(hp:Hp)(p:Tmp)(N:Nat)(Ln bod:Code)(tm:List (Nat×D))(Y S:Hp→Prop):Prop:=
 ∀(g:Gh) (w:World) (l:Nat) (rec:Loop),HR B hp g w→w.heap[l]? =some (.loop rec)→B≤l→rec.state=.ready→rec.pending=none→rec.params=#[p]→rec.assign=Ln→rec.body=bod→rec.tmps.size=N→(∀t d,tm.lookup t=some d→aM hp g w d (rec.tmps.getD t undef))→
  Calls P f (#[.func (.yield l) #[] #[]]++DB g ks) w fun e w'=>∃v,e=.returned v∧∃hp' g' W',vk B hp g w hp' g' W'∧((w'=W'∧Y hp')∨(w'=W'.putObj l (.loop (pE rec))∧W'.heap[l]? =some (.loop rec)∧S hp'))
structure ET(x x':Cx)(D:Nat)(hp:Hp)(w:World):Prop where
 B:x'.B=x.B
 F0:x'.F0=x.F0
 N:x'.N=x.N
 df:x'.df={target:=.collected D,args:=#[]}::x.df
 hp0:x'.hp0=hp
 w0:x'.w0=w
 came:bB x.hp0 x.g0 x.w0 hp x'.g0 w
 below:Below x.B x.w0 w
 blk:w.heap[D]? =some (.deferred (some []))
 new:x.w0.heap.size≤D
 hr:HR x.B hp x'.g0 w
theorem AV.range {gop:Operand}{p:Tmp}{assign body:Code}{f:FuncId}{ks:List Nat}{Y S:Hp→Prop}(hg:evD tm gop=.fn f ks)(NE:I6 P f)(hB:x.B≤x.w0.heap.size)
  (hit:I1 P f ks x.B hp p x.N assign body tm Y S)
  (hn:∀x' D hp' a w,ET x x' D hp' w→RS x' tm hp' a w→Y hp'→Q .normal a w)
  (hs:∀x' D hp' a w,ET x x' D hp' w→RS x' tm hp' a w→S hp'→Q .ret a w):AV P none x (.rangeFunc gop #[p] assign body) tm hp Q:=by
 intro a w hr
 obtain⟨g,hh,gJ,hsz,qI,hBl,hF,hM⟩:=id hr
 have hgv:=wb gJ gop
 rw[hg] at hgv
 have hgv:a.eval gop=.func (.func f) #[] (DB g ks):=by
  generalize a.eval gop=v at hgv
  cases hgv with
  |fn _ _ _=>rfl
 refine wpIn_rangeFunc ?_
 intro fn _
 obtain⟨rec,yR⟩:∃rec:Loop,rec={state:=.ready,pending:=none,fn,tmps:=a.tmps,params:=#[p],assign,body,defers:=w.heap.size}:=⟨_,rfl⟩
 obtain⟨W1,hW1⟩:∃W1,(w.alloc (.deferred (some []))).alloc (.loop rec)=W1:=⟨_,rfl⟩
 have hL1:W1.heap[w.heap.size+1]? =some (.loop rec):=by
  rw[←hW1];have:=World.alloc_heap_new (w.alloc (.deferred (some []))) (.loop rec);rwa[World.size_alloc] at this
 have hK1:W1.heap[w.heap.size]? =some (.deferred (some [])):=by
  rw[←hW1];exact (Below.heap_alloc _ _ _ (by simp)).trans (World.alloc_heap_new w _)
 have hold:∀b,b<w.heap.size→W1.heap[b]? =w.heap[b]? :=fun b hb=>by
  rw[←hW1];exact (Below.heap_alloc _ _ _ (by simp;omega)).trans (Below.heap_alloc _ _ _ hb)
 have hsW:w.heap.size≤W1.heap.size:=by rw[←hW1];simp;omega
 have h1:HR x.B hp g W1:=hh.keep hsW hold
 have m1:bB hp g w hp g W1:=bB.keep hp g hsW hold
 have b1:Below x.B w W1:=by
  rw[←hW1]
  exact ((Below.refl x.B w).alloc hh.base _).alloc (by have:=hh.base;simp;omega) _
 have hD1:I5 hp g w.heap.size:=h1.free hK1 rfl
 refine⟨w.heap.size+1,[{target:=.collected w.heap.size,args:=#[]}],W1,{target:=.fn (.func f) (DB g ks),args:=#[.func (.yield (w.heap.size+1)) #[] #[]]},W1,f,
  #[.func (.yield (w.heap.size+1)) #[] #[]]++DB g ks,W1,?_,?_,fun _ _=>trivial,?_,fun h=>(by cases h),?_⟩
 ·rw[←hW1,yR];exact run_enterLoop_outer _ _ _ _ _
 ·simp only[resolve,hgv]
  simp[go_sem]
 ·obtain⟨fn',hf',hn',pJ⟩:=NE
  have F8 : fn'.name ≠ "runtime.NumGoroutine" := by simpa using hn'
  have lL:¬fn'.body=none:=fun e=>by rw[e] at pJ;cases pJ
  simp[invoke,callFunc,hf',F8,lL,go_sem]
 ·have hc:=hit g W1 (w.heap.size+1) rec h1 hL1 (by have:=hh.base;omega) (by rw[yR]) (by rw[yR]) (by rw[yR]) (by rw[yR]) (by rw[yR]) (by rw[yR];exact hsz) (fun t d ht=>by rw[yR];exact (gJ t d ht).mono m1)
  refine (yw (n:=0) hc).mono ?_
  rintro e w3 ⟨v,rfl,hp',g',W',uu,hq⟩
  obtain⟨yV,_,hfk⟩:=uu.mo.fr w.heap.size (f7.1 hK1).1 hD1
  have hkW:W'.heap[w.heap.size]? =some (.deferred (some [])):=yV.trans hK1
  -- what holds behind,whatever the record says
  have fin:∀(o':Obj),o'.isCells=false→W'.heap[w.heap.size+1]? =some (.loop rec)→
    ET x ⟨x.B,W'.putObj (w.heap.size+1) o',x.F0,x.N,hp',g',{target:=.collected w.heap.size,args:=#[]}::x.df⟩ w.heap.size hp' (W'.putObj (w.heap.size+1) o')∧
    RS ⟨x.B,W'.putObj (w.heap.size+1) o',x.F0,x.N,hp',g',{target:=.collected w.heap.size,args:=#[]}::x.df⟩ tm hp' {a with defers:=[{target:=.collected w.heap.size,args:=#[]}]++a.defers} (W'.putObj (w.heap.size+1) o'):=by
   intro o' rt hl
   have oo:=uu.hr.putO (o':=o') hl rfl rt
   refine⟨⟨rfl,rfl,rfl,rfl,rfl,rfl,?_,?_,?_,?_,oo⟩,g',oo,fun t d ht=>(((gJ t d ht).mono m1).mono uu.mo).putO hl rfl rt,hsz,by simp[qI],Below.refl _ _,fun p h1 h2=>uu.fo p h1 (hF p h1 h2),bB.refl _ _ _⟩
   ·exact hM.trans ((m1.trans uu.mo).putNew (by omega) hl rfl rt)
   ·exact rR (hBl.trans (b1.trans uu.bl)) (by have:=hh.base;omega)
   ·exact (World.putObj_heap_other (by omega)).trans hkW
   ·exact hM.size
  have hlW:W'.heap[w.heap.size+1]? =some (.loop rec):=(uu.mo.fr _ (f7.1 hL1).1 (h1.free hL1 rfl)).1.trans hL1
  rcases hq with⟨rfl,hY⟩|⟨rfl,_,hS⟩
  ·have he:=run_endLoop (P:=P) hlW (by rw[yR];simp)
   have hpn:rec.pending=none:=by rw[yR]
   refine⟨none,_,he.trans (congrArg (fun q=>Result.ok q _) hpn),?_⟩
   obtain⟨h5,h6⟩:=fin (.loop {rec with state:=.exhausted}) rfl hlW
   exact hn _ _ hp' _ _ h5 h6 hY
  ·have K3:(W'.putObj (w.heap.size+1) (.loop (pE rec))).heap[w.heap.size+1]? =some (.loop (pE rec)):=World.putObj_heap_same (f7.1 hlW).1
   have he:=run_endLoop (P:=P) K3 (by simp[pE])
   refine⟨some .ret,_,he,?_⟩
   obtain⟨h5,h6⟩:=fin (.loop {(pE rec) with state:=.exhausted}) rfl hlW
   have hw:(W'.putObj (w.heap.size+1) (.loop (pE rec))).putObj (w.heap.size+1) (.loop {(pE rec) with state:=.exhausted})=W'.putObj (w.heap.size+1) (.loop {(pE rec) with state:=.exhausted}):=by
    unfold World.putObj
    dsimp only
    congr 1
    simp
   rw[hw]
   exact wpIn_ret (hs _ _ hp' _ _ h5 h6 hS)
theorem Ef {B:Nat}{w:World}{F:Addr→Prop}{N:Nat}{g:Gh}{ds:List D}{vs:Array Value}(hr:HR B hp g w)(hF:∀p:Addr,p.block<B→F p→g.F p)(hN:ds.length≤N)(hsz:vs.size=ds.length)(tN:∀(j:Nat) (d:D) (u:Value),ds[j]? =some d→vs[j]? =some u→aM hp g w d u):
  RS ⟨B,w,F,N,hp,g,[]⟩ (eZ 0 ds) hp {tmps:=vs++Array.replicate (N - vs.size) undef,defers:=[]} w:=by
 refine⟨g,hr,fun t d ht=>?_,by simp;omega,rfl,Below.refl _ _,hF,bB.refl _ _ _⟩
 obtain⟨_,h2⟩:=m9 ht
 have bz:t<ds.length:=by
  rw[A8] at h2
  rcases bZ t ds.length with hh|hh
  ·exact hh
  ·rw[i5 hh] at h2;cases h2
 have hv:vs[t]? =some vs[t]:=lI (by omega)
 have:=tN t d vs[t] (by simpa using h2) hv
 have he:(vs++Array.replicate (N - vs.size) undef).getD t undef=vs[t]:=by
  rw[cz,vb (by omega),hv];rfl
 rw[he]
 exact this
def Lw(x:Cx)(G:Cx→List (Nat×D)→Hp→Prop)(ex:Exit)(a:Act)(w:World):Prop:=
 (ex=.normal∨ex=.ret)∧∃x' D hp1 w1 tm bF,ET x x' D hp1 w1∧RS x' tm bF a w∧G {x with df:=x'.df} tm bF
theorem Lw.leaves {fn:Func}{R:Ending→World→Prop}{G:Cx→List (Nat×D)→Hp→Prop}{ex:Exit}{a:Act}{w:World}(h:Lw x G ex a w)(qI:x.df=[])
  (hk:∀x2 tm bF D w2,x2.B=x.B→x2.w0=x.w0→x2.F0=x.F0→x2.N=x.N→x2.hp0=x.hp0→x2.g0=x.g0→RS x2 tm bF a w→G x2 tm bF→w2=w.putObj D (.deferred none)→w.heap[D]? =some (.deferred (some []))→x.w0.heap.size≤D→∃v,(results fn a.tmps).run P w2=.ok v w2∧R (.returned v) w2):
  bodyPostM (FWd none) 0 P fn R ex a w:=by
 obtain⟨hex,x',D,hp1,w1,tm,bF,hb,hr,hG⟩:=h
 obtain⟨g,hh,gJ,hsz,hdf2,hBl,hF,hM⟩:=hr
 rw[hb.hp0,hb.w0] at hM
 rw[hb.B] at hh hBl hF
 rw[hb.w0] at hBl
 have ND:=hb.hr.free hb.blk rfl
 obtain⟨hkD,_,_⟩:=hM.fr D (f7.1 hb.blk).1 ND
 have hkD:w.heap[D]? =some (.deferred (some [])):=hkD.trans hb.blk
 have HV:RS {x with df:=x'.df} tm bF a w:=⟨g,hh,gJ,by rw[hsz,hb.N],hdf2,hb.below.trans hBl,fun p h1 h2=>hF p h1 (by rw[hb.F0];exact h2),hb.came.trans hM⟩
 have fin:LeavesInM (FWd none) 0 P fn a.tmps R a.defers .returning w:=by
  rw[hdf2,hb.df,qI]
  refine⟨by simp,.inl ⟨D,_,rfl,run_takeDeferred hkD,?_⟩⟩
  obtain⟨v,h1,h2⟩:=hk {x with df:=x'.df} tm bF D _ rfl rfl rfl rfl rfl rfl HV hG rfl hkD hb.new
  exact⟨v,h1,h2⟩
 rcases hex with rfl|rfl <;> exact fin
theorem HC.ofM (tok : TOk P tb) {f : FuncId} {fn : Func} {c : Code} {ds : List D} {hp hp' : Hp} {r : D} {rs : List ResultVar} (hf : P.funcs[f]? = some fn) (hb : fn.body = some c) (qW : (fn.name == "runtime.NumGoroutine") = false) (hN : ds.length ≤ fn.ntmps) (hrs : fn.results.toList = rs)
  (h:∀x:Cx,x.N=fn.ntmps→x.hp0=hp→x.df=[]→eM hp→x.B≤x.w0.heap.size→AV P none x c (eZ 0 ds) hp (Lw x fun x2 tm bF=>∃tm',Wk x2 tm bF tm' hp'∧vg tb rs tm' hp' r)):HC P f ds hp r hp':=by
 subst hrs
 refine⟨⟨fn,hf,qW,by rw[hb];rfl⟩,fun B g w vs hr hsz tN=>?_⟩
 refine (callsIn_wide (n:=0)).1 (callsIn_of_wp_marks (F:=FWd none) hf hb trivial (wpIn_mono (h ⟨B,w,g.F,fn.ntmps,hp,g,[]⟩ rfl rfl rfl hr.ok hr.base _ _ (Ef hr (fun _ _ h=>h) hN hsz tN)) ?_))
 intro ex a w' he
 refine he.leaves rfl ?_
 rintro x2 tm bF D w2 h1 h2 h3 h4 h5 h6 hrs ⟨tm',LA,HU⟩ rfl hD qx
 obtain⟨g',oo,gJ,_,_,hB,hF,hM⟩:=LA a w' hrs
 rw[h1] at oo hB hF
 rw[h2] at hB
 rw[h2,h5,h6] at hM
 rw[h3] at hF
 have sA:=hr.base
 obtain⟨v,bD,kS⟩:=sj (x:=⟨B,w,g.F,fn.ntmps,hp,g,[]⟩) (g:=g') tok rfl HU (oo.putO (o':=.deferred none) hD rfl rfl) (fun t d ht=>(gJ t d ht).putO hD rfl rfl)
 have qx:w.heap.size≤D:=qx
 exact⟨v,bD,v,g',rfl,oo.putO hD rfl rfl,hM.putNew qx hD rfl rfl,kS,rR hB (by omega),hF⟩
def RdOk(P:Program)(N:Nat)(p:Tmp)(Ln bod:Code)(tm:List (Nat×D))(hp:Hp)(d:D)(Y S:Hp→Prop):Prop:=∀(l:Nat) (x:Cx),x.N=N→x.df=[]→x.hp0=hp→AV P (some l) x Ln ((p,d)::tm) hp fun ex a w=>ex=.normal∧∃Cu hp1,RS x Cu hp1 a w∧
 ∀x:Cx,x.N=N→x.df=[]→x.hp0=hp1→AV P (some l) x bod Cu hp1 fun ex a w=>∃tm hp',RS x tm hp' a w∧match ex with| .normal=>Y hp'| .ret=>S hp'|_=>False
theorem I1.of {f:FuncId}{fn:Func}{c:Code}{ks:List Nat}{B:Nat}{p:Tmp}{N:Nat}{Ln bod:Code}{Y S:Hp→Prop}(hf:P.funcs[f]? =some fn)(hb:fn.body=some c)(hN:ks.length+1≤fn.ntmps)(kS:fn.results=#[])(hpN:p<N)(K4:∀k∈ks,k<hp.next)
  (h:∀(g:Gh) (w:World) (l:Nat) (rec:Loop) (x:Cx),x.B=B→x.hp0=hp→x.g0=g→x.w0=w→x.F0=g.F→x.N=fn.ntmps→x.df=[]→eM hp→(∀hp1 d Y' S',RdOk P N p Ln bod tm hp1 d Y' S'→YOk P B l rec hp g w hp1 d Y' S')→
   AV P none x c (eZ 0 (.e (.lit (.func (.yield l) #[] #[]))::ks.map fun k=>.pt k 0)) hp fun ex a w'=>((ex=.normal∨ex=.ret)∧∃tm' hp',RS x tm' hp' a w'∧Y hp')∨
    (ex=.ret∧a.defers=x.df∧∃hp' g' W',w'=W'.putObj l (.loop (pE rec))∧W'.heap[l]? =some (.loop rec)∧vk B hp g w hp' g' W'∧S hp')):I1 P f ks B hp p N Ln bod tm Y S:=by
 intro g w l rec hr hl hBl v3 hpe hpar hasg hbod hsz gJ
 have hmk:∀hp1 d Y' S',RdOk P N p Ln bod tm hp1 d Y' S'→YOk P B l rec hp g w hp1 d Y' S':=by
  intro hp1 d Y' S' hrd
  subst hasg hbod hsz
  exact YOk.of hl hr v3 hpe hpar hBl hpN gJ (hrd l)
 have qe:RS ⟨B,w,g.F,fn.ntmps,hp,g,[]⟩ (eZ 0 (.e (.lit (.func (.yield l) #[] #[]))::ks.map fun k=>.pt k 0)) hp {tmps:=(#[Value.func (.yield l) #[] #[]]++DB g ks)++Array.replicate (fn.ntmps - (#[Value.func (.yield l) #[] #[]]++DB g ks).size) undef,defers:=[]} w:=by
  refine Ef hr (fun _ _ h=>h) (by simpa using hN) (by simp[DB,oh]) fun j d u hd hu=>?_
  cases j with
  |zero=>
   have hu0:(#[Value.func (.yield l) #[] #[]]++DB g ks)[0]? =some (Value.func (.yield l) #[] #[]):=by rw[vb (by simp)];rfl
   rw[hu0] at hu
   injection hu with hu
   injection hd with hd
   subst hd;subst hu
   exact .e _ _ (.lit _ rfl)
  |succ j=>
   simp only[IH,cF] at hd
   rw[Array.getElem?_append_right (by simp)] at hu
   simp[DB] at hu
   cases hk:ks[j]? with
   |none=>simp[hk] at hd
   |some k=>
    simp[hk] at hd hu
    subst hd;subst hu
    exact .pt k 0 (K4 k (bO hk))
 have hend:∀(a:Act) (w':World),(results fn a.tmps).run P w'=.ok (.tuple #[]) w':=fun a w'=>by
  unfold results
  rw[kS,Sem.run_bind]
  simp
 refine (callsIn_wide (n:=0)).1 (callsIn_of_wp (F:=FWd none) hf hb trivial (wpIn_mono (h g w l rec ⟨B,w,g.F,fn.ntmps,hp,g,[]⟩ rfl rfl rfl rfl rfl rfl rfl hr.ok hmk _ _ qe) ?_))
 rintro ex a w' (⟨hex,tm',hp',⟨g',h1,_,_,h4,h5,h6,h7⟩,hY⟩|⟨rfl,qI,hp',g',W',h1,h2,h3,hS⟩)
 ·have:bodyPost P fn (fun e w'=>∃v,e=.returned v∧∃hp' g' W',vk B hp g w hp' g' W'∧((w'=W'∧Y hp')∨(w'=W'.putObj l (.loop (pE rec))∧W'.heap[l]? =some (.loop rec)∧S hp'))) .ret a w':=
   ⟨h4,_,hend a w',_,rfl,hp',g',w',⟨h1,h7,h5,h6⟩,.inl ⟨rfl,hY⟩⟩
  rcases hex with rfl|rfl <;> exact this
 ·exact⟨qI,_,hend a w',_,rfl,hp',g',W',h3,.inr ⟨h1,h2,hS⟩⟩
end
end
section
theorem Pt.one(d:D):Pt [d] 0 [d] id:=Pt.of [] [] rfl rfl fun y=>by simp
section
variable {P:Program} {tb:TypeId→Option TyE} {md:Md} {dst:Option Tmp} {ty2:TypeId} {pos:String} {af:Array Edge} {gd:Option (Nat×Bool)} {ev:Operand→D} {hp:Hp} {x lo hi mx:Operand} {k off z n l h:Nat} {t e:TypeId} {ti j:TyE} {k1 k2 k3:IntKind}
theorem slW3(tok:TOk P tb)(hlh:l<h)(hhn:h≤n)(ht:tb t=some ti)(he:tb e=some j)(Ah:ev lo=dI k1 (l:Int))(G7:ev hi=dI k2 (h:Int))(hmx:ev mx=dI k3 (h:Int))(uq:ti.ty=.slice e:=by exact rfl)(hx:ev x=.ow k off z n:=by exact rfl)(hz:z=j.size:=by exact rfl):
  lh P tb md ⟨dst,.slice t x (some lo) (some hi) (some mx),ty2,pos,af,gd⟩ ev hp (.ow k (off+l*z) z (h - l)) hp:=by
 subst hz
 refine (Snd.calm (dr:=md.dr) fun bF _=>.pure fun B g w a hr tM=>?_).q (by cases md <;> rfl)
 have h1:=tM x (by simp[Op.operands])
 have e1:=tM lo (by simp[Op.operands])
 have e2:=tM hi (by simp[Op.operands])
 have e3:=tM mx (by simp[Op.operands])
 rw[hx] at h1
 rw[Ah] at e1
 rw[G7] at e2
 rw[hmx] at e3
 have e1:=e1.lit
 have e2:=e2.lit
 have e3:=e3.lit
 have hs:=tok.run_sizeOf he w
 generalize hv:a.eval x=v at h1
 cases h1 with
 |ow _ _ _ _ c hk nJ mQ=>
  have hb:(Instr.sliceBounds true n c (some (Value.int k1 (l:Int))) (some (Value.int k2 (h:Int))) (some (Value.int k3 (h:Int)))).run P w=.ok (l,h,h) w:=by
   have q1:h≤c:=by omega
   have q2:l≤h:=by omega
   simp[Instr.sliceBounds,run_sliceBound,q1,q2]
  refine⟨.slice (some ⟨g.μ k,off+l*j.size,none⟩) (h - l) (h - l),?_,.ow _ _ _ _ _ hk (aI _) (by omega)⟩
  have lK:¬h=l:=by omega
  have K9:(⟨g.μ k,off,none⟩:Addr).add (l*j.size)=⟨g.μ k,off+l*j.size,none⟩:=by unfold Addr.add;split <;> simp_all
  simp[execOp,Instr.sliceAt,Instr.slice,hv,e1,e2,e3,run_underlying (tok.slice ht uq),hb,hs,lK,K9]
end
section
variable {ops:Array Oper} {K:List (Nat×D)→Hp→Prop} {os:List Oper} {tm:List (Nat×D)} {hp hp':Hp} {t:Tmp} {op:Op} {ty:TypeId} {pos:String} {af:Array Edge} {d:D}
theorem q1s(h:np prog ⟨some t,op,ty,pos,af,none⟩ (evD tm) hp d hp')(h2:bt prog tbl .seq ops K os ((t,d)::tm) hp'):bt prog tbl .seq ops K (⟨some t,op,ty,pos,af,none⟩::os) tm hp:=.sq rfl d hp' rfl h h2
end
section
variable {x:Cx} {Q:Exit→Act→World→Prop} {tm:List (Nat×D)} {hp:Hp}
theorem vrs {n id:Nat}{l:List Oper}{b:Code}(hx:x.N=n)(h:∀K:List (Nat×D)→Hp→Prop,(∀tm hp,AV prog none x b tm hp Q→K tm hp)→bt prog tbl .seq l.toArray K l tm hp)(hN:i3 n l.toArray=true:=by kernel_rfl):AV prog none x (.seq (.region id l.toArray false) b) tm hp Q:=
 AV.seqA (rq hx (fun K hK=>h K fun tm hp hh=>hK _ _ hh) hN)
theorem vrsd {n id:Nat}{l:List Oper}{b:Code}(L:List FuncId)(hx:x.N=n)(h:∀K:List (Nat×D)→Hp→Prop,(∀tm hp,AV prog none x b tm hp Q→K tm hp)→bt prog tbl (.any L) l.toArray K l tm hp)(hN:i3 n l.toArray=true:=by kernel_rfl)(oz:ui tbl L l.toArray=true:=by kernel_rfl):AV prog none x (.seq (.region id l.toArray true) b) tm hp Q:=
 AV.seqA (rqd L hx (fun K hK=>h K fun tm hp hh=>hK _ _ hh) hN oz)
theorem vrq {n id:Nat}{l:List Oper}(hx:x.N=n)(h:∀K:List (Nat×D)→Hp→Prop,(∀tm hp,(∀a w,RS x tm hp a w→Q .normal a w)→K tm hp)→bt prog tbl .seq l.toArray K l tm hp)(hN:i3 n l.toArray=true:=by kernel_rfl):AV prog none x (.region id l.toArray false) tm hp Q:=
 AV.aw (Q':=fun ex tm' hp'=>ex=.normal∧∀a w,RS x tm' hp' a w→Q .normal a w) (rq hx (fun K hK=>h K fun tm hp hh=>hK _ _ ⟨rfl,hh⟩) hN) fun ex tm' hp' a w h1 hr=>by obtain⟨rfl,h1⟩:=h1;exact h1 a w hr
theorem vrr {n id:Nat}{ro:Option Nat}{l:List Oper}(hx:x.N=n)(h:∀K:List (Nat×D)→Hp→Prop,(∀tm hp,(∀a w,RS x tm hp a w→Q .normal a w)→K tm hp)→bt prog tbl .seq l.toArray K l tm hp)(hN:i3 n l.toArray=true:=by kernel_rfl)(vn:rE l.toArray=true:=by kernel_rfl):AV prog ro x (.region id l.toArray false) tm hp Q:=
 AV.region (tb:=tbl) (by rw[hx];exact hN) vn h
theorem vrrs {n id:Nat}{ro:Option Nat}{l:List Oper}{b:Code}(hx:x.N=n)(h:∀K:List (Nat×D)→Hp→Prop,(∀tm hp,AV prog ro x b tm hp Q→K tm hp)→bt prog tbl .seq l.toArray K l tm hp)(hN:i3 n l.toArray=true:=by kernel_rfl)(vn:rE l.toArray=true:=by kernel_rfl):AV prog ro x (.seq (.region id l.toArray false) b) tm hp Q:=
 AV.seq (vrr hx (fun K hK=>h K fun tm hp hh=>hK _ _ fun a w hr=>hh a w hr) hN vn)
end
section
variable {vs:List (Nat×List D)} {lv:List (Nat×Nat×Nat×TypeId)} {N C R kM:Nat}
def gy(kM n:Nat):D:=if n=0 then dL aX [] else .ow kM 0 36 n
theorem h_Chunk {dV:D}(hC:1≤C)(hC2:C≤1000000)(hV:dV.idsC N=true)(s6:D.cells dV=some [dV]):
  HC prog 139 [dV,dI .i64 C] ⟨vs,lv,N⟩ (.fn 174 [N,N+1]) ⟨(N+1,[dI .i64 C])::(N,[dV])::vs,lv,N+1+1⟩:=by
 refine HC.of (rs:=[.tmp 4]) tok func139 rfl rfl (cg rfl) rfl (fun cx hx h0 hok=>?_)
 simp only[eZ,Nat.reduceAdd,bE]
 have Nj:eM ⟨(N,[dV])::vs,lv,N+1⟩:=hok.cons (dx _) (cl _) (by simpa using D.idsC_le (dx N) hV)
 have xt:eM ⟨(N+1,[dI .i64 C])::(N,[dV])::vs,lv,N+1+1⟩:=Nj.cons (dx _) (cl _) rfl
 refine rs hx fun K hK=>?_
 refine s1 (d:=.pt N 0) (ka (cs:=[dV]) (show D.cells (evD [(0,dV),(1,dI .i64 C)] (.tmp 0))=_ from s6)) ?_
 refine s1 (d:=.pt (N+1) 0) (ka (cs:=[dI .i64 C]) rfl) ?_
 refine sa ?_
 refine .nil (hK _ _ (AW.seq (rs hx fun K hK=>?_)))
 refine c1 (Pt.one _) ?_
 refine sa ?_
 refine .nil (hK _ _ (AW.condF rfl (def_) (AW.skip (rs hx fun K hK=>?_))))
 refine s1 (d:=.fn 174 [N,N+1]) Bn ?_
 refine sa ?_
 exact .nil (hK _ _ (AW.ret (⟨[(4,.fn 174 [N,N+1])],wkS (by rw[h0];show N≤N+1+1;omega) (aI _) xt (fun j ds h=>h) (nZ.cons nZ.nil rfl (by simp[D.idsB,D.idsC];omega)),⟨_,ai,rfl⟩⟩)))
end
theorem Wk.tmS {x:Cx}{tm tm':List (Nat×D)}{hp:Hp}(h:∀t d,tm'.lookup t=some d→tm.lookup t=some d):Wk x tm hp tm' hp:=by
 rintro a w ⟨g,h1,h2,h3,h4,h5,h6,h7⟩
 exact⟨g,h1,fun t d ht=>h2 t d (h t d ht),h3,h4,h5,h6,h7⟩
theorem KC {tm:List (Nat×D)}:∀t d,([]:List (Nat×D)).lookup t=some d→tm.lookup t=some d:=fun t d h=>by simp at h
theorem tin {tm tm':List (Nat×D)}{t:Nat}{d:D}(h2:∀t d,tm'.lookup t=some d→tm.lookup t=some d)(h:tm.lookup t=some d:=by exact rfl):∀t' d',((t,d)::tm').lookup t'=some d'→tm.lookup t'=some d':=fun t' d' ht=>by
 by_cases e:t'=t
 ·subst e
  have:some d=some d':=by rw[←ht];exact ai.symm
  rw[h,this]
 ·exact h2 t' d' (by rw[←ht];exact (au e).symm)
theorem lenM {dr:Bool}{ty:TypeId}{ev:Operand→D}{hp:Hp}{kM n:Nat}{x:Operand}(hx:ev x=gy kM n):AVC prog tbl dr (.call ⟨.builtin .len,#[x],#[22]⟩) ty ev hp (Kq (dI .i64 (n:Nat)) hp):=by
 by_cases h:n=0
 ·subst h
  have hx:ev x=dL aX []:=hx
  exact T_len (n:=0) (xs:=[]) aJ ay rfl (by rw[hx];rfl)
 ·have hx:ev x=.ow kM 0 36 n:=by rw[hx];exact aq h
  exact xX aJ ay rfl hx
section
variable {hpE:Hp} {I:Nat→Hp→Prop} {ks kn kM R C B:Nat} {p:Tmp} {Nt:Nat} {Ln bod:Code} {tm0:List (Nat×D)}
theorem MR(hC:1≤C)(JK:R*C≤1000000)(hC2:C≤1000000)(K4:ks<hpE.next)(yp:kn<hpE.next)(hpN:p<Nt)(h0:I 0 hpE)
  (hI:∀q hp,I q hp→hp.vars.lookup ks=some [gy kM (R*C)]∧hp.vars.lookup kn=some [dI .i64 C]∧ks<hp.next∧kn<hp.next)
  (hrd:∀q hp,q<R→I q hp→RdOk prog Nt p Ln bod tm0 hp (.ow kM (q*C*36) 36 C) (I (q+1)) (fun _=>False)):
  I1 prog 174 [ks,kn] B hpE p Nt Ln bod tm0 (I R) (fun _=>False):=by
 refine I1.of func174 rfl (cg rfl) rfl hpN (by simp[K4,yp]) (fun g w l rec x hB wC hg0 hw0 Lc hN qI hok hmk=>?_)
 simp only[e8,gL,eZ,Nat.reduceAdd,bE]
 refine vrs hN fun K hK=>?_
 refine sa ?_
 refine .nil (hK _ _ (AV.block ?_))
 refine AV.loop (fun n tm hp=>∃q:Nat,q≤R∧n=R - q∧I q hp∧tm=[(0,.e (.lit (.func (.yield l) #[] #[]))),(1,.pt ks 0),(2,.pt kn 0),(4,dI .i64 (q*C:Nat))]) (tm0:=[(0,.e (.lit (.func (.yield l) #[] #[]))),(1,.pt ks 0),(2,.pt kn 0),(4,dI .i64 (0*C:Nat))]) (hp0:=hpE) (n:=R) ?_ ⟨0,de _,rfl,h0,rfl⟩ ?_
 ·rw[e7]
  exact Wk.tmS (tin (tin (tin (tin KC))))
 ·rintro n tm hp ⟨q,hq,rfl,hIq,rfl⟩
  obtain⟨e1,e2,hk1,yV⟩:=hI q hp hIq
  have hqC:q*C≤R*C:=cc C hq
  refine AV.seqA ?_
  refine rs hN fun K hK=>?_
  refine sa ?_
  refine c1 (Pt.one _) ?_
  refine s1 (d:=dI .i64 (R*C:Nat)) (lenM rfl) ?_
  refine sa ?_
  refine .nil (hK _ _ (AW.condS rfl (fun hb=>?_) (fun hb=>?_)))
  ·have bz:q<R:=by
    have:=pT hb
    rcases bZ q R with h|h
    ·exact h
    ·have:R*C≤q*C:=cc C h
     omega
   have hq1:(q+1)*C≤R*C:=cc C bz
   rw[bN,dc] at hq1
   have hm:gy kM (R*C)=.ow kM 0 36 (R*C):=ifn_
   rw[hm] at e1
   refine AW.skip (AV.seq (AV.block ?_))
   refine vrsd [] hN fun K hK=>?_
   refine c1 (Pt.one _) ?_
   refine c1 (Pt.one _) ?_
   refine sa ?_
   refine q1 (slW (l:=((q*C:Nat):Int)) (h:=((R*C:Nat):Int)) tok ⟨by omega,by omega,by omega,by omega⟩ aJ ay ⟨.i64,rfl⟩ rfl) ?_
   refine s1 (xX aJ ay) ?_
   iterate 2 refine sa ?_
   refine .nil (hK _ _ ?_)
   rw[show min (C:Int) ((((R*C:Nat):Int) - ((q*C:Nat):Int)).toNat:Int)=(C:Int) by omega]
   refine AV.yield (tb:=tbl) (x:=x) (l:=l) (rec:=rec) (hpE:=hpE) (gE:=g) (wE:=w) 10 rfl (by rw[hN];kernel_rfl) (by kernel_rfl) ⟨wC,hg0,hw0,fun p _ hp=>by rw[Lc];exact hp⟩ (fun K hK=>?_)
   refine sa ?_
   refine c1 (Pt.one _) ?_
   iterate 7 refine sa ?_
   rw[p8 (show -9223372036854775808≤((q*C:Nat):Int)+(C:Int) by omega) (by omega)]
   refine q1 (slW3 (l:=q*C) (h:=q*C+C) tok (by omega) (by omega) aJ ay rfl rfl rfl) ?_
   rw[show q*C+C - q*C=C by omega,bE]
   refine .nil (hK _ _ _ (I (q+1)) (fun _=>False) rfl rfl (by rw[hB];exact hmk _ _ _ _ (hrd q hp bz hIq)) ?_ ?_)
   ·intro bF a w hI2 hr
    obtain⟨e3,e4,hk3,hk4⟩:=hI (q+1) bF hI2
    show Code.wpIn (FWd none) 0 prog _ _ a w
    refine (vrq hN fun K hK=>?_) a w hr
    refine sa ?_
    refine c1 (Pt.one _) ?_
    iterate 2 refine sa ?_
    rw[p8 (show -9223372036854775808≤((q*C:Nat):Int)+(C:Int) by omega) (by omega)]
    refine .nil (hK _ _ ?_)
    intro a w hr
    refine⟨R - (q+1),_,bF,by omega,?_,q+1,bz,rfl,hI2,rfl⟩
    have hc:((q*C:Nat):Int)+(C:Int)=(((q+1)*C:Nat):Int):=by rw[bN,dc];omega
    rw[hc] at hr
    exact Wk.tmS (tin (tin (tin (tin KC)))) a w hr
   ·rintro bF g2 W' a hS
    exact hS.elim
  ·refine AW.exit ?_
   intro a w hr
   have hqR:q=R:=by
    have:=oD hb
    rcases bZ q R with h|h
    ·have:(q+1)*C≤R*C:=cc C h
     rw[bN,dc] at this
     omega
    ·omega
   subst hqR
   exact .inl ⟨.inl rfl,_,_,hr,hIq⟩
end
end
section
def iz(kM C n:Nat):List D:=(List.range n).map fun i=>.ow kM (i*C*36) 36 C
theorem uK(kM C n:Nat):iz kM C (n+1)=iz kM C n++[.ow kM (n*C*36) 36 C]:=by
 unfold iz;rw[qA,lY];rfl
theorem Cz(kM C n:Nat):(iz kM C n).length=n:=by unfold iz;simp
theorem qO {kM C n N:Nat}(h:kM<N):(iz kM C n).all (D.idsC N)=true:=by
 unfold iz
 rw[b7]
 intro d hd
 obtain⟨i,_,rfl⟩:=mm.1 hd
 exact dy h
def vI(k n:Nat):D:=if n=0 then .e (.lit (.slice none 0 0)) else .gw k 1 n
theorem CT {l:List (Nat×List D)}{k j:Nat}(h:j≠k):(l.filter fun p=>!([k]:List Nat).contains p.1).lookup j=l.lookup j:=by
 induction l with
 |nil=>rfl
 |cons p l ih=>
  obtain⟨a,b⟩:=p
  by_cases e:a=k
  ·subst e
   rw[List.filter_cons_of_neg (by simp),ih,au h]
  ·rw[List.filter_cons_of_pos (by simpa using e)]
   by_cases e2:j=a
   ·subst e2;rw[ai,ai]
   ·rw[au e2,au e2,ih]
def oH(k n:Nat):D:=if n=0 then .e (.sl 1 0 []) else .gw k 1 n
def qc(k kM C n:Nat)(vs:List (Nat×List D)):List (Nat×List D):=if n=0 then vs else (k,iz kM C n)::vs
section
variable {vs:List (Nat×List D)} {lv:List (Nat×Nat×Nat×TypeId)} {N C R kM ks kn:Nat}
def AsI(vs:List (Nat×List D))(lv:List (Nat×Nat×Nat×TypeId))(N kM C q:Nat)(hp:Hp):Prop:=
 ∃V N1 kR,hp=⟨V,lv,N1⟩∧eM hp∧N+2≤N1∧V.lookup N=some [vI kR q]∧(∀j ds,vs.lookup j=some ds→V.lookup j=some ds)∧(0<q→N+2≤kR∧kR<N1∧V.lookup kR=some (iz kM C q))
theorem Gi(hC:1≤C)(JK:R*C≤1000000)(hC2:C≤1000000)(hs:vs.lookup ks=some [gy kM (R*C)])(hn:vs.lookup kn=some [dI .i64 C])(hkM:kM<N)(ut:∀k ds,vs.lookup k=some ds→ds.all D.noO=true):
  HC prog 173 [.e (.lit (.slice none 0 0)),.fn 174 [ks,kn]] ⟨vs,lv,N⟩ (oH N R) ⟨qc N kM C R vs,lv,N+1⟩:=by
 refine HC.ofM (rs:=[.tmp 4]) tok func173 rfl rfl (cg rfl) rfl (fun x hN h0 qI hok hB=>?_)
 simp only[eZ,Nat.reduceAdd,bE]
 have K4:=hok.lt hs
 have yp:=hok.lt hn
 refine vrs hN fun K hK=>?_
 refine s1 (d:=.pt N 0) (ka (cs:=[.e (.lit (.slice none 0 0))]) rfl) ?_
 refine s1 (d:=.own (N+1) 1 0 []) (d8 lN aJ) ?_
 refine .nil (hK _ _ (AV.seq ?_))
 refine vrs hN fun K hK=>?_
 refine sa ?_
 refine .nil (hK _ _ (AV.block ?_))
 have Nj:eM ⟨(N,[.e (.lit (.slice none 0 0))])::vs,(N+1,0,1,22)::lv,N+2⟩:=by
  refine⟨fun j es hj=>?_,fun id e hi=>?_⟩
  ·rcases dJ hj with⟨e1,rfl⟩|⟨_,hj⟩
   ·exact⟨by rw[e1];show N<N+2;omega,rfl⟩
   ·obtain⟨h1,h2⟩:=hok.var j es hj
    exact⟨bG h1 (by show N≤N+2;omega),b7.2 fun d hd=>D.idsC_le (by show N≤N+2;omega) (b7.1 h2 d hd)⟩
  ·by_cases e1:id=N+1
   ·rw[e1];show N+1<N+2;omega
   ·have:=hok.tok id e (by rw[←hi];exact (au e1).symm)
    have h2:id<N:=this
    show id<N+2;omega
 refine AV.range (f:=174) (ks:=[ks,kn]) (Y:=AsI vs ((N+1,0,1,22)::lv) N kM C R) (S:=fun _=>False) rfl ⟨_,func174,rfl,rfl⟩ hB
  (MR (kM:=kM) (I:=AsI vs ((N+1,0,1,22)::lv) N kM C) hC JK hC2 (by show ks<N+2;omega) (by show kn<N+2;omega) (by rw[hN];exact cg rfl) ?_ ?_ ?_) ?_ ?_
 ·exact⟨_,_,0,rfl,Nj,aI _,ai,fun j ds h=>al (hok.ne h (aI _)) h,fun h=>absurd h (by omega)⟩
 ·rintro q hp ⟨V,N1,kR,rfl,hokV,hN1,e1,tN,hR⟩
  exact⟨tN _ _ hs,tN _ _ hn,by show ks<N1;omega,by show kn<N1;omega⟩
 ·rintro q hp hq ⟨V,N1,kR,rfl,hokV,hN1,e1,tN,hR⟩ l y hy _ _
  refine vrr (hy.trans hN) (fun K hK=>?_)
  refine sa ?_
  refine .nil (hK _ _ fun a w hr=>⟨rfl,_,_,hr,fun y2 z9 _ h0y=>AV.block (vrr (z9.trans hN) (fun K hK=>?_))⟩)
  have hkN:N<N1:=by omega
  have pG:([.ow kM (q*C*36) 36 C]:List D).length=1:=rfl
  by_cases hq0:q=0
  ·have hd:vI kR q=.e (.lit (.slice none 0 0)):=by rw[hq0];rfl
   rw[hd] at e1
   refine c1 (Pt.one _) ?_
   refine sa ?_
   have B3:D.cells (D.ow kM (q*C*36) 36 C)=some [.ow kM (q*C*36) 36 C]:=rfl
   refine q1s (d:=.gw N1 1 1) (hp':=⟨(N1,[D.ow kM (q*C*36) 36 C])::V,(N+1,0,1,22)::lv,N1+1⟩) (JB (cs:=[.ow kM (q*C*36) 36 C]) tok lN aJ B3 rfl) ?_
   refine q1 (d:=.gw (N1+1) 1 1) (hp':=⟨(N1+1,[D.ow kM (q*C*36) 36 C])::(N1,[D.ow kM (q*C*36) 36 C])::V,(N+1,0,1,22)::lv,N1+1+1⟩) (appN (ky:=N1) (news:=[.ow kM (q*C*36) 36 C]) tok lN aJ ai rfl rfl rfl (by decide)) ?_
   refine v1 (k:=N) (F:=[vI kR q]) (ys:=[.gw (N1+1) 1 1]) (Pt.one _) rfl rfl rfl ?_ rfl (al (show N≠N1+1 by omega) (al (show N≠N1 by omega) (by rw[hd];exact e1)))
   refine .nil (hK _ _ ?_)
   intro a w hr
   refine⟨_,_,hr,?_⟩
   refine⟨_,_,N1+1,rfl,?_,by omega,?_,fun j ds hj=>?_,fun _=>⟨by omega,by omega,?_⟩⟩
   ·exact ((hokV.cons (M:=N1+1+1) (by omega) (show N1<N1+1+1 by omega) (by simp[D.idsC];omega)).consM (show N1+1<N1+1+1 by omega) (by simp[D.idsC];omega)).consM (show N<N1+1+1 by omega) (by simp[D.idsC])
   ·rw[show vI (N1+1) (q+1)=.gw (N1+1) 1 1 by rw[hq0];rfl];exact ai
   ·have h1:=hok.lt hj
    exact al (by omega) (al (by omega) (al (by omega) (tN j ds hj)))
   ·rw[uK,show iz kM C q=[] by rw[hq0];rfl]
    exact al (by omega) ai
  ·have hqp:0<q:=by omega
   obtain⟨k1,k2,k3⟩:=hR hqp
   have hd:vI kR q=.gw kR 1 q:=aq hq0
   rw[hd] at e1
   have B3:D.cells (D.ow kM (q*C*36) 36 C)=some [.ow kM (q*C*36) 36 C]:=rfl
   refine c1 (Pt.one _) ?_
   refine sa ?_
   refine q1s (d:=.gw N1 1 1) (hp':=⟨(N1,[D.ow kM (q*C*36) 36 C])::V,(N+1,0,1,22)::lv,N1+1⟩) (JB (cs:=[.ow kM (q*C*36) 36 C]) tok lN aJ B3 rfl) ?_
   refine q1s (d:=.gw (N1+1) 1 (q+1)) (hp':=⟨(N1+1,iz kM C q++[D.ow kM (q*C*36) 36 C])::((N1,[D.ow kM (q*C*36) 36 C])::V).filter (fun p=>!([kR]:List Nat).contains p.1),(N+1,0,1,22)::lv,N1+1+1⟩) (appR_ok (k:=kR) (n:=q) (ky:=N1) (ds:=iz kM C q) (news:=[.ow kM (q*C*36) 36 C]) tok lN aJ (al (show kR≠N1 by omega) k3) ai rfl rfl (by rw[Cz];exact (rX q).symm) rfl (by
    have:q*1≤R*C:=lW (nA hq) hC
    show (q+1)*24≤_;omega)) ?_
   refine v1 (k:=N) (F:=[vI kR q]) (ys:=[.gw (N1+1) 1 (q+1)]) (Pt.one _) rfl rfl rfl ?_ rfl (al (show N≠N1+1 by omega) ((CT (show N≠kR by omega)).trans (al (show N≠N1 by omega) (by rw[hd];exact e1))))
   refine .nil (hK _ _ ?_)
   intro a w hr
   refine⟨_,_,hr,?_⟩
   have hfil:eM ⟨((N1,[D.ow kM (q*C*36) 36 C])::V).filter fun p=>!([kR]:List Nat).contains p.1,(N+1,0,1,22)::lv,N1+1+1⟩:=by
    have h1:=hokV.cons (M:=N1+1+1) (by omega) (show N1<N1+1+1 by omega) (show ([D.ow kM (q*C*36) 36 C]).all (D.idsC (N1+1+1))=true by simp[D.idsC];omega)
    exact⟨fun j ds hj=>h1.var j ds (ja hj).2,h1.tok⟩
   refine⟨_,_,N1+1,rfl,?_,by omega,?_,fun j ds hj=>?_,fun _=>⟨by omega,by omega,?_⟩⟩
   ·refine (hfil.consM (show N1+1<N1+1+1 by omega) ?_).consM (show N<N1+1+1 by omega) (by simp[D.idsC])
    rw[←uK]
    exact qO (by omega)
   ·rw[show vI (N1+1) (q+1)=.gw (N1+1) 1 (q+1) from ifn_];exact ai
   ·have h1:=hok.lt hj
    exact al (by omega) (al (by omega) ((CT (by omega)).trans (al (by omega) (tN j ds hj))))
   ·rw[uK]
    exact al (by omega) ai
 ·rintro x' Db hp' a w hbh hrs ⟨V,N1,kR,rfl,hokV,hN1,e1,tN,hR⟩
  show Code.wpIn (FWd none) 0 prog _ _ a w
  refine (vrs (x:=x') (hbh.N.trans hN) fun K hK=>?_) a w hrs
  have hokL:∀id e,lv.lookup id=some e→id<N:=hok.tok
  by_cases Ha:R=0
  ·have hd:vI kR R=.e (.lit (.slice none 0 0)):=by rw[Ha];rfl
   rw[hd] at e1
   refine c1 (Pt.one _) ?_
   refine s1 (d:=.own N1 1 0 []) (hp':=⟨V,(N1,0,1,22)::(N+1,0,1,22)::lv,N1+1⟩) (d8 lN aJ) ?_
   refine .nil (hK _ _ (AV.ret fun a w hr=>⟨.inr rfl,x',Db,_,_,_,_,hbh,hr,[(4,.e (.sl 1 0 []))],?_,⟨_,ai,ao Ha⟩⟩))
   unfold qc
   rw[ao Ha]
   refine wkS2 (by show x.hp0.next≤_;rw[h0];exact dx N) (by omega) (hok.up (dx N)) tN (fun j y hj=>?_) (fun p hp=>?_)
   ·have:=hokL j y hj
    exact (au (by omega)).trans ((au (by omega)).trans hj)
   ·rw[IJ] at hp
    subst hp
    exact⟨⟨_,ai,.inr rfl⟩,rfl⟩
  ·obtain⟨k1,k2,k3⟩:=hR (by omega)
   have hd:vI kR R=.gw kR 1 R:=aq Ha
   rw[hd] at e1
   refine c1 (Pt.one _) ?_
   refine sa ?_
   refine .nil (hK _ _ (AV.ret fun a w hr=>⟨.inr rfl,x',Db,_,_,_,_,hbh,hr,[(4,.gw N 1 R)],?_,?_⟩))
   ·obtain⟨σ,hσ⟩:∃σ:Nat→Nat,σ=fun i=>if i=N then kR else i:=⟨_,rfl⟩
    have s1:σ N=kR:=by rw[hσ];exact ao rfl
    have s2:∀i,i<N→σ i=i:=fun i hi=>by rw[hσ];exact ifn_
    refine Wk.perm σ (by show x.hp0.next≤_;rw[h0];exact dx N) (fun i hi=>s2 i (by have:i<x.hp0.next:=hi;rw[h0] at this;exact this)) (fun i j hi hj he=>?_) (TmR.cons TmR.nil ?_ ?_) (fun k ds hk=>?_) (fun k y hk=>?_)
    ·rcases bZ i N with h1|h1 <;> rcases bZ j N with h2|h2
     ·rw[s2 i h1,s2 j h2] at he;exact he
     ·rw[s2 i h1,show j=N by omega,s1] at he;omega
     ·rw[s2 j h2,show i=N by omega,s1] at he;omega
     ·omega
    ·show _=some (D.gw (σ N) 1 R)
     rw[s1];exact rfl
    ·exact dy (cl N)
    ·unfold qc at hk
     rw[aq Ha] at hk
     rcases dJ hk with⟨e,rfl⟩|⟨e,hk⟩
     ·rw[e]
      refine⟨cl N,?_,qO (by omega),?_⟩
      ·rw[s1,Jz s2 (qO hkM) (by unfold iz;rw[b7];intro d hd;obtain⟨i,_,rfl⟩:=mm.1 hd;rfl)]
       exact k3
      ·unfold iz;rw[b7];intro d hd;obtain⟨i,_,rfl⟩:=mm.1 hd;rfl
     ·have hkN:=hok.lt hk
      have h2:=(hok.var k ds hk).2
      refine⟨by omega,?_,b7.2 fun d hd=>D.idsC_le (dx N) (b7.1 h2 d hd),ut k ds hk⟩
      rw[s2 k hkN,Jz s2 h2 (ut k ds hk)]
      exact tN k ds hk
    ·have hkN:=hokL k y hk
     refine⟨by omega,?_⟩
     rw[s2 k hkN]
     exact (au (by omega)).trans hk
   ·exact⟨_,ai,aq Ha⟩
 ·rintro x' D hp' a w _ _ hS
  exact hS.elim
end
end
section
section
variable {vs:List (Nat×List D)} {lv:List (Nat×Nat×Nat×TypeId)} {N C R kM ks kn:Nat}
theorem La(hC:1≤C)(JK:R*C≤1000000)(hC2:C≤1000000)(hs:vs.lookup ks=some [gy kM (R*C)])(hn:vs.lookup kn=some [dI .i64 C])(hkM:kM<N)(ut:∀k ds,vs.lookup k=some ds→ds.all D.noO=true):
  HC prog 138 [.fn 174 [ks,kn]] ⟨vs,lv,N⟩ (oH (N+1) R) ⟨qc (N+1) kM C R vs,lv,N+1+1⟩:=by
 refine HC.of (rs:=[.tmp 2]) tok func138 rfl rfl (cg rfl) rfl (fun cx hx h0 hok=>?_)
 simp only[eZ,Nat.reduceAdd,bE]
 have hap:=Gi (lv:=(N,0,1,22)::lv) (N:=N+1) hC JK hC2 hs hn (by omega) ut
 have hokL:∀id e,lv.lookup id=some e→id<N:=hok.tok
 have hokH:eM ⟨qc (N+1) kM C R vs,lv,N+1+1⟩:=by
  unfold qc
  split
  ·exact hok.up (by omega)
  ·exact hok.cons (by omega) (by omega) (qO (by omega))
 refine rs hx fun K hK=>?_
 refine s1 (d:=.own N 1 0 []) (hp':=⟨vs,(N,0,1,22)::lv,N+1⟩) (d8 lN aJ) ?_
 refine .nil (hK _ _ ?_)
 have LA:∀tm,tm.lookup 2=some (oH (N+1) R)→∃tm',Wk cx tm ⟨qc (N+1) kM C R vs,(N,0,1,22)::lv,N+1+1⟩ tm' ⟨qc (N+1) kM C R vs,lv,N+1+1⟩∧vg tbl [.tmp 2] tm' ⟨qc (N+1) kM C R vs,lv,N+1+1⟩ (oH (N+1) R):=by
  intro tm ht
  refine⟨[(2,oH (N+1) R)],wkS2 (by rw[h0];show N≤_;omega) (aI _) hokH (fun j ds h=>h) (fun j y hj=>(au (by have:=hokL j y hj;omega)).trans hj) (nZ.cons nZ.nil ht ?_),⟨_,ai,rfl⟩⟩
  unfold oH
  split
  ·rfl
  ·exact det_
 by_cases Ha:R=0
 ·have hq:oH (N+1) R=.e (.sl 1 0 []):=ao Ha
  rw[hq] at hap LA ⊢
  refine rs hx fun K hK=>?_
  refine sa ?_
  refine q1 (sHC hap rfl (.inl (by kernel_rfl))) ?_
  refine sa ?_
  exact .nil (hK _ _ (AW.ret (LA _ rfl)))
 ·have hq:oH (N+1) R=.gw (N+1) 1 R:=aq Ha
  rw[hq] at hap LA ⊢
  refine rs hx fun K hK=>?_
  refine sa ?_
  refine q1 (sHC hap rfl (.inl (by kernel_rfl))) ?_
  refine sa ?_
  exact .nil (hK _ _ (AW.ret (LA _ rfl)))
def kz(kM R C:Nat):List D:=[dI .i64 R,dI .i64 C,gy kM (R*C)]
theorem z3 {M:Nat}(h:kM<M)(n:Nat):(gy kM n).idsC M=true:=by
 unfold gy
 split
 ·rfl
 ·exact dy h
theorem HA(kM n:Nat):D.cells (gy kM n)=some [gy kM n]:=by
 unfold gy
 split <;> rfl
theorem h_steps(hkM:kM<N):HC prog 108 [.ag (kz kM R C)] ⟨vs,lv,N⟩ (.fn 137 [N]) ⟨(N,kz kM R C)::vs,lv,N+1⟩:=by
 refine HC.of (rs:=[.tmp 2]) tok func108 rfl rfl (cg rfl) rfl (fun cx hx h0 hok=>?_)
 simp only[eZ,Nat.reduceAdd,bE]
 have Nj:eM ⟨(N,kz kM R C)::vs,lv,N+1⟩:=hok.cons (dx _) (cl _) (by unfold kz;simp only[js,lE,iC];simp only[z3 (show kM<N+1 by omega),iC];rfl)
 refine rs hx fun K hK=>?_
 refine s1 (d:=.pt N 0) (ka (cs:=kz kM R C) rfl) ?_
 refine sa ?_
 refine .nil (hK _ _ (rs hx fun K hK=>?_))
 refine s1 (d:=.fn 137 [N]) Bn ?_
 refine sa ?_
 exact .nil (hK _ _ (AW.ret (⟨[(2,.fn 137 [N])],wkS (by rw[h0];show N≤N+1;omega) (aI _) Nj (fun j ds h=>h) (nZ.cons nZ.nil rfl (by simp[D.idsB,D.idsC])),⟨_,ai,rfl⟩⟩)))
end
section
variable {md:Md} {ops:Array Oper} {K:List (Nat×D)→Hp→Prop} {os:List Oper} {tm:List (Nat×D)} {hp:Hp} {t:Tmp} {ty:TypeId} {pos:String} {af:Array Edge} {k i j o n C:Nat} {x y:Operand}
theorem i1r(h:j<C)(h2:bt prog tbl md ops K os ((t,.pt k ((i*C+j)*36))::tm) hp)(hx:evD tm x=.ow k (i*C*36) 36 C:=by exact rfl)(hy:evD tm y=dI .i64 (j:Int):=by exact rfl)(hn:md.nc tbl (.indexAddr 22 x y)=true:=by exact rfl):bt prog tbl md ops K (⟨some t,.indexAddr 22 x y,ty,pos,af,none⟩::os) tm hp:=by
 have:=om (P:=prog) (tb:=tbl) (dr:=md.dr) (ty:=ty) (ev:=evD tm) (hp:=hp) (x:=x) (y:=y) (v:=(j:Int)) (n:=C) (kn:=.i64) ⟨by omega,by omega⟩ aJ ay rfl hx rfl hy
 rw[aW,show i*C*36+j*36=(i*C+j)*36 by rw[bN]] at this
 exact s1 this h2 hn
theorem um(h:i<n)(h2:bt prog tbl md ops K os ((t,.pt k (o+i))::tm) hp)(hx:(evD tm x).toOw=.ow k o 1 n:=by exact rfl)(hy:(evD tm y).toOw=dI .i64 (i:Int):=by exact rfl)(hn:md.nc tbl (.indexAddr 52 x y)=true:=by exact rfl):bt prog tbl md ops K (⟨some t,.indexAddr 52 x y,ty,pos,af,none⟩::os) tm hp:=by
 have:=om (P:=prog) (tb:=tbl) (dr:=md.dr) (ty:=ty) (ev:=fun x=>(evD tm x).toOw) (hp:=hp) (x:=x) (y:=y) (v:=(i:Int)) (n:=n) (kn:=.i64) ⟨by omega,by omega⟩ lN aJ rfl hx rfl hy
 rw[aW,show o+i*1=o+i by omega] at this
 exact stG (d:=.pt k (o+i)) tok this h2 hn
end
theorem Pt.row {kM C n i:Nat}(h:i<n):Pt (iz kM C n) i [.ow kM (i*C*36) 36 C] (fun ys=>(iz kM C n).take i++ys++(iz kM C n).drop (i+1)):=by
 have hlen:=Cz kM C n
 have hg:(iz kM C n)[i]? =some (.ow kM (i*C*36) 36 C):=by unfold iz;rw[cF,A6 h];rfl
 refine Pt.of ((iz kM C n).take i) ((iz kM C n).drop (i+1)) (by rw[eA,hlen];omega) ?_ fun y=>rfl
 conv=>lhs;rw[←th i (iz kM C n)]
 rw[dQ]
 congr 1
 rw[IG (by rw[hlen];exact h)]
 have:=lX.1 hg
 obtain⟨_,h2⟩:=this
 rw[h2];rfl
section
variable {vs:List (Nat×List D)} {lv:List (Nat×Nat×Nat×TypeId)} {N C R kM kk kR k i:Nat} {V:List Nu}
theorem h_pred(hM:vs.lookup kM=some (dC ((cW aX).f V)))(NA:vs.lookup kk=some [dI .i64 k])(hV:V.length=R*C)(hi:i<R)(hk:k<C):
  HC prog 141 [.ow kM (i*C*36) 36 C,.pt kk 0] ⟨vs,lv,N⟩ (dB (decide (kw V[i*C+k]!≠0))) ⟨vs,lv,N⟩:=by
 refine HC.of (rs:=[.tmp 3]) tok func141 rfl rfl (cg rfl) rfl (fun cx hx h0 hok=>?_)
 simp only[eZ,Nat.reduceAdd,bE]
 have hkM:=hok.lt hM
 have hkN:=hok.lt NA
 have hpl:i*C+k<V.length:=by rw[hV];exact bH hi hk
 refine rs hx fun K hK=>?_
 refine sa ?_
 refine .nil (hK _ _ (rs hx fun K hK=>?_))
 refine sa ?_
 refine c1 (Pt.one _) ?_
 refine i1r (i:=i) (j:=k) hk ?_
 refine l1 (Pt.el V (i*C+k) hpl) ?_
 refine cq (LV _) ?_
 refine sa ?_
 refine sa ?_
 exact .nil (hK _ _ (AW.ret (rt1 h0 (hv:=fun j ds h=>h))))
end
end
section
def D9(C k:Nat)(V:List Nu)(n r:Nat):Int:=match qZ C k V n r with
 |some i=>(i:Int) - (r:Int)
 |none=>-1
section
variable {vs:List (Nat×List D)} {lv:List (Nat×Nat×Nat×TypeId)} {N C R kM kk kR kr kp k r i:Nat} {V:List Nu}
theorem h_IdxF(hM:vs.lookup kM=some (dC ((cW aX).f V)))(NA:vs.lookup kk=some [dI .i64 k])(hkR:vs.lookup kR=some (iz kM C R))(hV:V.length=R*C)(hk:k<C)(hr:r<R)(hR:R≤1000000):
  HC prog 140 [.ow kR r 1 (R - r),.fn 141 [kk]] ⟨vs,lv,N⟩ (dI .i64 (D9 C k V (R - r) r)) ⟨vs,lv,N⟩:=by
 refine HC.of (rs:=[.tmp 4]) tok func140 rfl rfl (cg rfl) rfl (fun cx hx h0 hok=>?_)
 simp only[eZ,Nat.reduceAdd,bE]
 have hk1:=hok.lt hM
 have yV:=hok.lt NA
 have hk3:=hok.lt hkR
 refine rs hx fun K hK=>?_
 refine sa ?_
 refine .nil (hK _ _ (AW.seq (rs hx fun K hK=>?_)))
 refine sa ?_
 refine s1 (d:=dI .i64 ((R - r:Nat):Int)) (xX lN aJ) ?_
 refine sa ?_
 refine .nil (hK _ _ (AW.block (AW.loopW (fun i:Nat=>[(0,.ow kR r 1 (R - r)),(1,.fn 141 [kk]),(7,dI .i64 ((R - r:Nat):Int)),(8,dI .i64 (i:Nat))]) (fun _=>⟨vs,lv,N⟩) (fun i=>i≤R - r∧qZ C k V (R - r) r=qZ C k V (R - r - i) (r+i)) (fun i=>R - r - i) 0 ?_ ⟨de _,rfl⟩ ?_)))
 ·exact wk1 h0 (hv:=fun j ds h=>h)
 ·rintro i ⟨hi,hf⟩
  refine rs hx fun K hK=>?_
  refine sa ?_
  refine .nil (hK _ _ (AW.seq (AW.condS rfl (fun hb=>?_) (fun hb=>?_))))
  ·have DT:i<R - r:=by have:=pT hb;omega
   refine AW.skip (AW.seq (AW.block (rs hx fun K hK=>?_)))
   iterate 2 refine sa ?_
   refine .nil (hK _ _ (rs hx fun K hK=>?_))
   iterate 3 refine sa ?_
   refine um (k:=kR) (o:=r) (i:=i) (n:=R - r) DT ?_
   refine c1 (Pt.row (kM:=kM) (C:=C) (n:=R) (i:=r+i) (by omega)) ?_
   refine q1 (sHF (h_pred hM NA hV (show r+i<R by omega) hk) rfl) ?_
   refine .nil (hK _ _ ?_)
   obtain⟨m,hm⟩:∃m,R - r - i=m+1:=⟨R - r - i - 1,by omega⟩
   rw[hm] at hf
   refine AW.condS rfl (fun hb=>?_) (fun hb=>?_)
   ·refine rs hx fun K hK=>?_
    iterate 2 refine sa ?_
    refine .nil (hK _ _ (AW.ret ?_))
    have he:D9 C k V (R - r) r=(i:Int):=by
     unfold D9
     rw[hf];unfold qZ
     rw[ao (pT hb)]
     show ((r+i:Nat):Int) - (r:Int)=i
     omega
    rw[he]
    exact rt1 h0 (hv:=fun j ds h=>h)
   ·refine AW.skip (rq hx fun K hK=>?_)
    iterate 2 refine sa ?_
    refine .nil (hK _ _ ?_)
    rw[mP]
    refine⟨i+1,wk1 h0 (hv:=fun j ds h=>h),⟨DT,?_⟩,by omega⟩
    rw[hf]
    conv=>lhs;unfold qZ
    rw[aq (oD hb),show R - r - (i+1)=m by omega]
    rfl
  ·refine AW.exit ?_
   have DT:i=R - r:=by have:=oD hb;omega
   subst DT
   refine rs hx fun K hK=>?_
   refine sa ?_
   refine .nil (hK _ _ (AW.ret ?_))
   have he:D9 C k V (R - r) r=-1:=by
    unfold D9
    rw[hf,Nat.sub_self];rfl
   rw[he]
   exact rt1 h0 (hv:=fun j ds h=>h)
theorem Gg {f:FuncId}{ks:List Nat}{h:List Nu→Nat→Nu}(hM:vs.lookup kM=some (dC ((cW aX).f V)))(K4:∀j∈ks,j<N)(hV:V.length=R*C)(hi:i<R)(hC:C≤1000000)
  (hf:∀(U:List Nu) j,j<C→U.length=R*C→HC prog f ([dI .i64 j]++ks.map fun k=>.pt k 0) ⟨(kM,dC ((cW aX).f U))::vs,lv,N⟩ (dG aX (h U j)) ⟨(kM,dC ((cW aX).f U))::vs,lv,N⟩):
  HC prog 142 [.ow kM (i*C*36) 36 C,.fn f ks] ⟨vs,lv,N⟩ (.tu []) ⟨(kM,dC ((cW aX).f (rO V (i*C) h C)))::vs,lv,N⟩:=by
 refine HC.of (rs:=[]) tok func142 rfl rfl (cg rfl) rfl (fun cx hx h0 hok=>?_)
 simp only[eZ,Nat.reduceAdd,bE]
 have hk1:=hok.lt hM
 have KY:∀U:List Nu,eM ⟨(kM,dC ((cW aX).f U))::vs,lv,N⟩:=fun U=>hok.consM hk1 (nI _)
 have NE:D.idsB N (.fn f ks)=true:=b7.2 fun k hk=>dy (K4 k hk)
 refine rs hx fun K hK=>?_
 refine sa ?_
 refine s1 (d:=dI .i64 (C:Nat)) (xX aJ ay) ?_
 refine sa ?_
 refine .nil (hK _ _ (AW.block (AW.loopW (fun j:Nat=>[(0,.ow kM (i*C*36) 36 C),(1,.fn f ks),(6,dI .i64 (C:Nat)),(7,dI .i64 (j:Nat))]) (fun j=>⟨(kM,dC ((cW aX).f (rO V (i*C) h j)))::vs,lv,N⟩) (fun j=>j≤C) (fun j=>C - j) 0 ?_ (de _) ?_)))
 ·exact wk1 h0 (hok:=KY _) (hv:=fun j ds h=>by
   rcases dJ h with⟨rfl,rfl⟩|⟨hj,h⟩
   ·exact hM
   ·exact h)
 ·intro j hj
  refine rs hx fun K hK=>?_
  refine sa ?_
  refine .nil (hK _ _ (AW.seq (AW.condS rfl (fun hb=>?_) (fun hb=>?_))))
  ·have DR:j<C:=by have:=pT hb;omega
   have hlen:(rO V (i*C) h j).length=R*C:=by rw[pM,hV]
   have hpl:i*C+j<(rO V (i*C) h j).length:=by rw[hlen];exact bH hi DR
   refine AW.skip (AW.seq (AW.block (rs hx fun K hK=>?_)))
   iterate 2 refine sa ?_
   refine .nil (hK _ _ (rq hx fun K hK=>?_))
   iterate 4 refine sa ?_
   refine q1 (sHF (hf _ j DR hlen) rfl) ?_
   refine i1r (i:=i) (j:=j) DR ?_
   refine t1 (Pt.el _ (i*C+j) hpl) (Pt.el_set _ (i*C+j) hpl _) ?_
   refine .nil (hK _ _ (rq hx fun K hK=>?_))
   iterate 2 refine sa ?_
   refine .nil (hK _ _ ?_)
   rw[mP]
   refine⟨j+1,wk1 h0 (hok:=KY _) (hv:=fun j' ds h=>by
    rcases dJ h with⟨rfl,rfl⟩|⟨hj,h⟩
    ·exact ai
    ·exact al hj (al hj h)),DR,by omega⟩
  ·refine AW.exit ?_
   have DR:j=C:=by have:=oD hb;omega
   subst DR
   exact⟨_,wkS (by rw[h0];exact aI N) (aI N) (KY _) (fun j ds h=>h) nZ.nil,rfl⟩
end
end
section
def pvD(p:Pv):List D:=[dI .i64 p.col]++dC (aX.f p.by')++[dB p.mov]
theorem zf(p:Pv):(pvD p).length=38:=by unfold pvD;simp only[eH,pD];rfl
theorem pvD_by {p:Pv}:Pt (pvD p) (0+1) (dC (aX.f p.by')) (fun ys=>[dI .i64 p.col]++ys++[dB p.mov]):=Pt.of [dI .i64 p.col] [dB p.mov] rfl (by unfold pvD;simp only[dQ]) fun y=>rfl
section
variable {vs:List (Nat×List D)} {lv:List (Nat×Nat×Nat×TypeId)} {N C R kM krs kR kr kp kl kx k r i j:Nat} {V:List Nu} {p:Pv} {b:Nu}
theorem h_by3(hM:vs.lookup kM=some (dC ((cW aX).f V)))(hrs:vs.lookup krs=some [.gw kR 1 R])(hkr:vs.lookup kr=some [dI .i64 r])(hkp:vs.lookup kp=some (pvD p))(hkR:vs.lookup kR=some (iz kM C R))(hV:V.length=R*C)(hj:j<C)(hr:r<R):
  HC prog 143 ([dI .i64 j]++[krs,kr,kp].map fun k=>.pt k 0) ⟨vs,lv,N⟩ (dG aX (t6 V[r*C+j]! p.by')) ⟨vs,lv,N⟩:=by
 refine HC.forget (vars:=(N,dC (aX.f (t6 V[r*C+j]! p.by')))::vs) (n:=N+1) ?_ (fun j ds hj h=>al (by omega) h) (nI _)
 refine HC.of (rs:=[.cell 5 34]) tok func143 rfl rfl (cg rfl) rfl (fun cx hx h0 hok=>?_)
 simp only[eZ,gL,e8,AZ,oN,Nat.reduceAdd,bE]
 have h1:=hok.lt hM
 have h2:=hok.lt hrs
 have h3:=hok.lt hkr
 have h4:=hok.lt hkp
 have h5:=hok.lt hkR
 refine rs hx fun K hK=>?_
 refine n1 ?_
 refine .nil (hK _ _ (rsd [144] hx fun K hK=>?_))
 refine c1 (Pt.one _) ?_
 refine c1 (Pt.one _) ?_
 refine um (k:=kR) (o:=0) (i:=r) (n:=R) hr ?_
 rw[bE]
 refine c1 (Pt.row (kM:=kM) (C:=C) (n:=R) (i:=r) hr) ?_
 refine sa ?_
 refine i1r (i:=r) (j:=j) hj ?_
 refine l1 (Pt.el V (r*C+j) (by rw[hV];exact bH hr hj)) ?_
 refine sa ?_
 refine l1 (pvD_by (p:=p)) ?_
 refine cq (w_Div _ _) ?_
 refine z1 ?_
 refine .nil (hK _ _ (AW.ret ?_))
 exact rtN1 h0 (by omega) (eM.consM (hok.up (by omega)) (by omega) (nI _)) (aI _) (fun j ds h=>by
  rcases dJ h with⟨rfl,rfl⟩|⟨hj,h⟩
  ·exact ai
  ·have:=hok.lt h
   exact al hj (al hj h)) ai rfl
theorem h_by4(hM:vs.lookup kM=some (dC ((cW aX).f V)))(hkl:vs.lookup kl=some [.ow kM (i*C*36) 36 C])(hkx:vs.lookup kx=some (dC (aX.f b)))(hrs:vs.lookup krs=some [.gw kR 1 R])(hkr:vs.lookup kr=some [dI .i64 r])(hkR:vs.lookup kR=some (iz kM C R))(hV:V.length=R*C)(hj:j<C)(hr:r<R)(hi:i<R):
  HC prog 145 ([dI .i64 j]++[kl,kx,krs,kr].map fun k=>.pt k 0) ⟨vs,lv,N⟩ (dG aX (yN V[i*C+j]! (qv b V[r*C+j]!))) ⟨vs,lv,N⟩:=by
 refine HC.forget (vars:=(N,dC (aX.f (yN V[i*C+j]! (qv b V[r*C+j]!))))::vs) (n:=N+1) ?_ (fun j ds hj h=>al (by omega) h) (nI _)
 refine HC.of (rs:=[.cell 6 34]) tok func145 rfl rfl (cg rfl) rfl (fun cx hx h0 hok=>?_)
 simp only[eZ,gL,e8,AZ,oN,Nat.reduceAdd,bE]
 have h1:=hok.lt hM
 have h2:=hok.lt hrs
 have h3:=hok.lt hkr
 have h4:=hok.lt hkl
 have h5:=hok.lt hkR
 have h6:=hok.lt hkx
 refine rs hx fun K hK=>?_
 refine n1 ?_
 refine .nil (hK _ _ (rsd [40,146] hx fun K hK=>?_))
 refine c1 (Pt.one _) ?_
 refine sa ?_
 refine i1r (i:=i) (j:=j) hj ?_
 refine l1 (Pt.el V (i*C+j) (by rw[hV];exact bH hi hj)) ?_
 refine l1 (Pt.idN b) ?_
 refine c1 (Pt.one _) ?_
 refine c1 (Pt.one _) ?_
 refine um (k:=kR) (o:=0) (i:=r) (n:=R) hr ?_
 rw[bE]
 refine c1 (Pt.row (kM:=kM) (C:=C) (n:=R) (i:=r) hr) ?_
 refine sa ?_
 refine i1r (i:=r) (j:=j) hj ?_
 refine l1 (Pt.el V (r*C+j) (by rw[hV];exact bH hr hj)) ?_
 refine cq (w_Mul _ _) ?_
 refine cq (w_Sub _ _) ?_
 refine z1 ?_
 refine .nil (hK _ _ (AW.ret ?_))
 exact rtN1 h0 (by omega) (eM.consM (hok.up (by omega)) (by omega) (nI _)) (aI _) (fun j ds h=>by
  rcases dJ h with⟨rfl,rfl⟩|⟨hj,h⟩
  ·exact ai
  ·have:=hok.lt h
   exact al hj (al hj h)) ai rfl
end
end
section
theorem T_bldPv {dr:Bool}{ty:TypeId}{ev:Operand→D}{hp:Hp}{x y z:Operand}{p:Pv}(hx:ev x=dI .i64 p.col:=by exact rfl)(hy:ev y=dG aX p.by':=by exact rfl)(hz:ev z=dB p.mov:=by exact rfl):AVC prog tbl dr (.build 102 #[(0,x),(1,y),(2,z)]) ty ev hp (Kq (.ag (pvD p)) hp):=by
 have h0:([(0,x),(1,y),(2,z)]:List (Nat×Operand)).map (fun p=>(p.1,ev p.2))=[(0,dI .i64 p.col),(1,dG aX p.by'),(2,dB p.mov)]:=by simp only[e8,gL,hx,hy,hz]
 rw[show (#[(0,x),(1,y),(2,z)]:Array (Nat×Operand))=([(0,x),(1,y),(2,z)]:List (Nat×Operand)).toArray from rfl,wh,h0,tS,iI]
 have hp:jo [(0,dI .i64 p.col),(1,dG aX p.by'),(2,dB p.mov)]=some [(0,[dI .i64 p.col]),(1,dC (aX.f p.by')),(2,[dB p.mov])]:=rfl
 rw[hp]
 dsimp only
 refine⟨by decide,?_⟩
 have hz:∀zs:List D,zs.length=38→fP (ot tbl [(0,3),(1,34),(37,4)]) zs [(0,[dI .i64 p.col]),(1,dC (aX.f p.by')),(2,[dB p.mov])]=some (pvD p):=fun zs hzs=>by
  have p0:ot tbl [(0,3),(1,34),(37,4)] 0=some (0,1):=rfl
  have p1:ot tbl [(0,3),(1,34),(37,4)] 1=some (1,36):=rfl
  have p2:ot tbl [(0,3),(1,34),(37,4)] 2=some (37,1):=rfl
  obtain⟨z0,zr,rfl⟩:∃z0 zr,zs=z0::zr:=by
   cases zs with
   |nil=>cases hzs
   |cons a b=>exact⟨a,b,rfl⟩
  have hzr:zr.length=37:=by simpa using hzs
  have hl:=pD p.by'
  simp only[fP,p0,p1,p2,hl]
  rw[aq (by simp[hzr]),aq (by simp[hzr]),aq (by simp[hzr,hl])]
  unfold pvD
  have e1:(List.take 0 (z0::zr)++[dI IntKind.i64 (p.col:Int)]++List.drop (0+[dI IntKind.i64 (p.col:Int)].length) (z0::zr))=dI .i64 p.col::zr:=rfl
  rw[e1]
  have e2:List.take 1 (dI IntKind.i64 (p.col:Int)::zr)=[dI .i64 p.col]:=rfl
  have e3:List.drop (1+36) (dI IntKind.i64 (p.col:Int)::zr)=zr.drop 36:=rfl
  rw[e2,e3]
  have h37:([dI IntKind.i64 (p.col:Int)]++dC (aX.f p.by')).length=37:=by rw[eH,hl];rfl
  rw[yA (by rw[h37];exact aI _),jc (by rw[h37];exact aI _),AO (by rw[eH,h37,f8,hzr];exact aI _),tp]
 rw[hz _ (by rfl)]
 exact Kq.here _ _
section
variable {kM R C:Nat}
theorem mat_R:Pt (kz kM R C) (0+0) [dI .i64 R] (fun ys=>ys++[dI .i64 C,gy kM (R*C)]):=Pt.of [] [dI .i64 C,gy kM (R*C)] rfl rfl fun y=>rfl
theorem ME:Pt (kz kM R C) (0+1) [dI .i64 C] (fun ys=>[dI .i64 R]++ys++[gy kM (R*C)]):=Pt.of [dI .i64 R] [gy kM (R*C)] rfl rfl fun y=>rfl
theorem mat_D:Pt (kz kM R C) (0+2) [gy kM (R*C)] (fun ys=>[dI .i64 R,dI .i64 C]++ys++[]):=Pt.of [dI .i64 R,dI .i64 C] [] rfl rfl fun y=>rfl
theorem Fz(k n:Nat):D.cells (oH k n)=some [oH k n]:=by unfold oH;split <;> rfl
theorem KI {k n M:Nat}(h:k<M):D.idsC M (oH k n)=true:=by
 unfold oH
 split
 ·rfl
 ·exact dy h
end
structure Kept(W:List Nat)(hp hp':Hp):Prop where
 ok:eM hp'
 next:hp.next≤hp'.next
 vars:∀j ds,j∉W→hp.vars.lookup j=some ds→hp'.vars.lookup j=some ds
structure StH(E kM k0 R C r k kk:Nat)(V:List Nu)(hp:Hp):Prop where
 ok:eM hp
 nx:E+6≤kk
 kn:kk<hp.next
 len:V.length=R*C
 hM:0<R→0<C→hp.vars.lookup kM=some (dC ((cW aX).f V))
 h0:hp.vars.lookup k0=some (kz kM R C)
 hr:hp.vars.lookup (E+5)=some [dI .i64 r]
 hk:hp.vars.lookup kk=some [dI .i64 k]
 hrs:0<R→0<C→hp.vars.lookup (E+4)=some [.gw (E+3) 1 R]
 hR:0<R→0<C→hp.vars.lookup (E+3)=some (iz kM C R)
end
section
theorem JP {C k:Nat}{V:List Nu}:∀{n r i:Nat},qZ C k V n r=some i→r≤i∧i<r+n
 |0,r,i,h=>by cases h
 |n+1,r,i,h=>by
  unfold qZ at h
  split at h
  ·injection h with h;omega
  ·have:=JP h;omega
theorem sU {R C n k r:Nat}{V:List Nu}{acc:List Pv}(h:n=0∨¬r<R):jl R C n k r V acc=some (V,acc):=by
 cases n with
 |zero=>rfl
 |succ n=>
  unfold jl
  rcases h with h|h
  ·cases h
  ·rw[aq h]
section
variable {Hd:List (Nat×List D)} {MJ:List (Nat×Nat×Nat×TypeId)} {E B kM k0 k4 R C:Nat} {p:Tmp} {Nt:Nat} {Ln bod:Code} {tm0:List (Nat×D)} {J:List Pv→Hp→Prop} {S:Hp→Prop} {V0:List Nu}
def TH(l E k0 kk:Nat):List (Nat×D):=[(0,.e (.lit (.func (.yield l) #[] #[]))),(1,.pt k0 0),(3,.pt (E+4) 0),(4,.pt (E+5) 0),(5,.pt kk 0)]
theorem MQ(hkM:kM<E)(hk0:k0<E)(hk4:k4<E)(h4M:k4≠kM)(h40:k4≠k0)(hM0:kM≠k0)
  (D5:V0.length=R*C) (JK:R*C≤1000000) (hR:R≤1000000) (hC:C≤1000000)
  (hM:0<R→0<C→Hd.lookup kM=some (dC ((cW aX).f V0))) (h0:Hd.lookup k0=some (kz kM R C))
  (ut:∀k ds,Hd.lookup k=some ds→ds.all D.noO=true)
  (hpN:p<Nt) (hJ0:J [] ⟨Hd,MJ,E⟩)
  (hJ:∀acc vs mJ lv N N',J acc ⟨vs,lv,N⟩→N≤N'→E≤N→(∀j ds,j≠kM→j<E→vs.lookup j=some ds→mJ.lookup j=some ds)→J acc ⟨mJ,lv,N'⟩)
  (hrd:∀V acc pv hp,0<R→acc.length<C→V.length=R*C→eM hp→hp.vars.lookup kM=some (dC ((cW aX).f V))→J acc hp→RdOk prog Nt p Ln bod tm0 hp (.ag (pvD pv)) (fun hp'=>V.all aT=true∧Kept [k4] hp hp'∧J (acc++[pv]) hp') (fun hp'=>V.all aT=false∧S hp')):
  I1 prog 137 [k0] B ⟨Hd,MJ,E⟩ p Nt Ln bod tm0 (fun hp=>∃V acc,jl R C C 0 0 V0 []=some (V,acc)∧eM hp∧(0<R→0<C→hp.vars.lookup kM=some (dC ((cW aX).f V)))∧J acc hp) (fun hp=>jl R C C 0 0 V0 []=none∧S hp):=by
 refine I1.of func137 rfl (cg rfl) rfl hpN (by simp[hk0]) (fun g w l rec x hB wC hg0 hw0 Lc hN qI hok hmk=>?_)
 simp only[e8,gL,eZ,Nat.reduceAdd,bE]
 obtain⟨R1,C1,hC1,hR1,hC1p,hC1le,hR1le⟩:∃R1 C1,C1=max 1 C∧R1*C1=R*C∧1≤C1∧C1≤1000000∧(0<C→C1=C∧R1=R):=by
  rcases ln C with h|h
  ·exact⟨0,max 1 C,rfl,by rw[h,e7,EA],Ez _ _,by omega,fun h'=>by omega⟩
  ·exact⟨R,max 1 C,rfl,by rw[show max 1 C=C by omega],Ez _ _,by omega,fun _=>⟨by omega,rfl⟩⟩
 have hmx:max (1:Int) (C:Int)=((C1:Nat):Int):=by omega
 refine vrs hN fun K hK=>?_
 refine sa ?_
 refine c1 mat_D ?_
 refine sa ?_
 refine c1 ME ?_
 refine sa ?_
 rw[hmx]
 have hch:=h_Chunk (vs:=Hd) (lv:=MJ) (N:=E) (dV:=gy kM (R*C)) hC1p hC1le (z3 hkM _) (HA _ _)
 refine q1s (d:=.fn 174 [E,E+1]) (hp':=⟨(E+1,[dI .i64 C1])::(E,[gy kM (R*C)])::Hd,MJ,E+1+1⟩) (KO rfl hch rfl) ?_
 have hcol:=La (vs:=(E+1,[dI .i64 C1])::(E,[gy kM (R*C)])::Hd) (lv:=MJ) (N:=E+1+1) (R:=R1) (C:=C1) (kM:=kM) (ks:=E) (kn:=E+1) hC1p (by rw[hR1];exact JK) hC1le (by rw[hR1];exact al (by omega) ai) ai (by omega) (fun k ds hk=>by
  rcases dJ hk with⟨rfl,rfl⟩|⟨_,hk⟩
  ·rfl
  rcases dJ hk with⟨rfl,rfl⟩|⟨_,hk⟩
  ·unfold gy;split <;> rfl
  ·exact ut k ds hk)
 refine q1s (d:=oH (E+3) R1) (hp':=⟨qc (E+3) kM C1 R1 ((E+1,[dI .i64 C1])::(E,[gy kM (R*C)])::Hd),MJ,E+4⟩) (KO rfl hcol rfl) ?_
 obtain⟨VR,hVR⟩:∃VR,VR=qc (E+3) kM C1 R1 ((E+1,[dI .i64 C1])::(E,[gy kM (R*C)])::Hd):=⟨_,rfl⟩
 rw[←hVR]
 have hokC:eM ⟨(E+1,[dI .i64 C1])::(E,[gy kM (R*C)])::Hd,MJ,E+4⟩:=((hok.up (M:=E+4) (by omega)).consM (by omega) (by simp[z3 (show kM<E+4 by omega)])).consM (by omega) (by rfl)
 have hokR:eM ⟨VR,MJ,E+4⟩:=by
  rw[hVR];unfold qc
  split
  ·exact hokC
  ·exact hokC.consM (by omega) (qO (by omega))
 have hoR:∀j ds,j<E→Hd.lookup j=some ds→VR.lookup j=some ds:=fun j ds hj h=>by
  rw[hVR];unfold qc
  split
  ·exact al (by omega) (al (by omega) h)
  ·exact al (by omega) (al (by omega) (al (by omega) h))
 have hRR:0<R→0<C→oH (E+3) R1=.gw (E+3) 1 R∧VR.lookup (E+3)=some (iz kM C R):=fun h1 h2=>by
  obtain⟨e1,e2⟩:=hR1le h2
  subst e1 e2
  refine⟨ifn_,?_⟩
  rw[hVR];unfold qc
  rw[ifn_]
  exact ai
 refine a1 lN (hz:=rfl) ?_
 refine v1 (k:=E+4) (F:=[D.e (.lit (.slice none 0 0))]) (ys:=[oH (E+3) R1]) (Pt.one _) rfl rfl rfl ?_ rfl ai (Fz _ _)
 refine .nil (hK _ _ (vrs hN fun K hK=>?_))
 refine a1 aR (hz:=rfl) ?_
 refine v1 (k:=E+5) (ys:=[dI .i64 0]) (Pt.one _) rfl rfl rfl ?_ rfl ai rfl
 refine .nil (hK _ _ (vrs hN fun K hK=>?_))
 refine a1 aR (hz:=rfl) ?_
 refine v1 (k:=E+6) (ys:=[dI .i64 0]) (Pt.one _) rfl rfl rfl ?_ rfl ai rfl
 refine .nil (hK _ _ (AV.block ?_))
 refine AV.loop (fun n tm hp=>∃k r V acc kk,n=C - k∧k≤C∧tm=TH l E k0 kk∧StH E kM k0 R C r k kk V hp∧J acc hp∧acc.length≤k∧jl R C C 0 0 V0 []=jl R C (C - k) k r V acc) (n:=C) (Wk.tmS (tm':=TH l E k0 (E+6)) (tin (tin (tin (tin (tin KC)))))) ?_ ?_
 ·refine⟨0,0,V0,[],E+6,rfl,de _,rfl,⟨?_,aI _,cl _,D5,fun h1 h2=>?_,?_,?_,?_,fun h1 h2=>?_,fun h1 h2=>?_⟩,?_,aI _,rfl⟩
  ·exact (((((hokR.up (M:=E+7) (by omega)).consM (by omega) (by rfl)).consM (by omega) (by simp[KI (show E+3<E+7 by omega)])).consM (by omega) (by rfl)).consM (by omega) (by rfl)).consM (by omega) (by rfl) |>.consM (by omega) (by rfl)
  ·exact al (by omega) (al (by omega) (al (by omega) (al (by omega) (al (by omega) (al (by omega) (hoR _ _ hkM (hM h1 h2)))))))
  ·exact al (by omega) (al (by omega) (al (by omega) (al (by omega) (al (by omega) (al (by omega) (hoR _ _ hk0 h0))))))
  ·exact al (by omega) (al (by omega) ai)
  ·exact ai
  ·rw[←(hRR h1 h2).1]
   exact al (by omega) (al (by omega) (al (by omega) (al (by omega) ai)))
  ·exact al (by omega) (al (by omega) (al (by omega) (al (by omega) (al (by omega) (al (by omega) (hRR h1 h2).2)))))
  ·refine hJ [] Hd _ MJ E _ hJ0 (by omega) (aI _) fun j ds _ hj h=>?_
   exact al (by omega) (al (by omega) (al (by omega) (al (by omega) (al (by omega) (al (by omega) (hoR _ _ hj h))))))
 ·rintro n tm hp ⟨k,r,V,acc,kk,rfl,hkC,rfl,⟨KZ,qH,hkkN,hlen,M3,hv0,hvr,hvk,HP,hvR⟩,hJa,K8,mF⟩
  obtain⟨vs,lv,N⟩:=hp
  dsimp only at hkkN M3 hv0 hvr hvk HP hvR
  refine AV.seqA ?_
  refine rs hN fun K hK=>?_
  refine c1 (Pt.one _) ?_
  refine sa ?_
  refine c1 ME ?_
  iterate 2 refine sa ?_
  rcases bP (decide ((k:Int)<(C:Int))) with hb|hb
  ·refine c1g (Pt.one _) hb ?_
   refine ga hb ?_
   refine c1g mat_R hb ?_
   refine ga hb ?_
   refine s1 (am hb) ?_
   refine .nil (hK _ _ ?_)
   have H0:k<C:=by have:=pT hb;omega
   refine AW.condS rfl (fun lL=>?_) (fun lL=>?_)
   ·have wD:r<R:=by have:=pT lL;omega
    have HP:=HP (by omega) (by omega)
    have hvR:=hvR (by omega) (by omega)
    have M3:=M3 (by omega) (by omega)
    refine AW.skip ?_
    have hkM2:kM≠kk:=by omega
    have hkMN:kM<N:=by omega
    refine AV.seq (AV.mono (Q:=fun ex a w'=>(ex=.normal∧∃r' V' Be hp',RS x (TH l E k0 kk) hp' a w'∧StH E kM k0 R C r' k kk V' hp'∧J Be hp'∧Be.length≤k+1∧jl R C C 0 0 V0 []=jl R C (C - (k+1)) (k+1) r' V' Be)∨
     (ex=.ret∧a.defers=x.df∧∃hp' g' W',w'=W'.putObj l (.loop (pE rec))∧W'.heap[l]? =some (.loop rec)∧vk B ⟨Hd,MJ,E⟩ g w hp' g' W'∧jl R C C 0 0 V0 []=none∧S hp')) (AV.block ?_) ?_)
    ·refine vrsd [140] hN fun K hK=>?_
     refine c1 (Pt.one _) ?_
     refine c1 (Pt.one _) ?_
     refine c1 (Pt.one _) ?_
     refine q1 (lh.toOw (slW (l:=(r:Int)) (h:=(R:Int)) (n:=R) (k:=E+3) (off:=0) (z:=1) tok ⟨by omega,by omega,by omega,by omega⟩ lN aJ ⟨.i64,rfl⟩ rfl)) ?_
     rw[show 0+((r:Nat):Int).toNat*1=r by omega,show (((R:Nat):Int) - ((r:Nat):Int)).toNat=R - r by omega]
     refine s1 (d:=.fn 141 [kk]) Bn ?_
     refine q1 (sHCf (h_IdxF (kM:=kM) (kk:=kk) (kR:=E+3) (k:=k) (r:=r) (V:=V) M3 hvk hvR hlen H0 wD hR) rfl (Fr.refl _) (hv:=by kernel_rfl)) ?_
     iterate 2 refine sa ?_
     refine .nil (hK _ _ (AV.seqA ?_))
     refine rs hN fun K hK=>?_
     refine sa ?_
     refine c1 (Pt.one _) ?_
     refine sa ?_
     refine .nil (hK _ _ ?_)
     obtain⟨m,hm⟩:∃m,C - k=m+1:=⟨C - k - 1,by omega⟩
     have K2:C - (k+1)=m:=by omega
     rcases hf:qZ C k V (R - r) r with _|i
     ·have hv:D9 C k V (R - r) r=-1:=by unfold D9;rw[hf]
      rw[hv,p8 (by omega) (by omega)]
      refine AW.condT rfl (det_) (AW.exit ?_)
      intro a w hr
      refine .inl ⟨rfl,r,V,acc,_,Wk.tmS (tin (tin (tin (tin (tin KC))))) a w hr,⟨KZ,qH,hkkN,hlen,fun _ _=>M3,hv0,hvr,hvk,fun _ _=>HP,fun _ _=>hvR⟩,hJa,by omega,?_⟩
      rw[mF,hm,K2]
      conv=>lhs;unfold jl
      rw[ao wD,hf]
     ·obtain⟨hri,hiR⟩:=JP hf
      have hiR:i<R:=by omega
      have hv:D9 C k V (R - r) r=(i:Int) - (r:Int):=by unfold D9;rw[hf]
      rw[hv,show (r:Int)+((i:Int) - (r:Int))=(i:Int) by omega,p8 (by omega) (by omega)]
      refine AW.condF rfl (def_) (AW.skip (AV.seqA ?_))
      refine rs hN fun K hK=>?_
      refine sa ?_
      refine c1 ME ?_
      refine sa ?_
      refine .nil (hK _ _ (AW.block ?_))
      have KY:∀U:List Nu,eM ⟨(kM,dC ((cW aX).f U))::vs,lv,N⟩:=fun U=>KZ.consM hkMN (nI _)
      refine AW.loopW (fun j:Nat=>[(0,.e (.lit (.func (.yield l) #[] #[]))),(1,.pt k0 0),(3,.pt (E+4) 0),(4,.pt (E+5) 0),(5,.pt kk 0),(6,dI .i64 (i:Nat)),(43,dI .i64 (C:Nat)),(44,dI .i64 (j:Nat))]) (fun j=>⟨(kM,dC ((cW aX).f (cN C V i r j)))::vs,lv,N⟩) (fun j=>j≤C) (fun j=>C - j) 0 ?_ (de _) ?_
      ·exact wk1 wC (hok:=KY _) (hv:=fun j ds h=>by
        rcases dJ h with⟨rfl,rfl⟩|⟨hj,h⟩
        ·exact M3
        ·exact h)
      ·intro j hj
       refine rs hN fun K hK=>?_
       refine sa ?_
       refine .nil (hK _ _ (AW.seq (AW.condS rfl (fun bn=>?_) (fun bn=>?_))))
       ·have DR:j<C:=by have:=pT bn;omega
        have hlU:(cN C V i r j).length=R*C:=by rw[jM,hlen]
        have hp1:i*C+j<(cN C V i r j).length:=by rw[hlU];exact bH hiR DR
        have bF:r*C+j<(cN C V i r j).length:=by rw[hlU];exact bH wD DR
        have hp3:r*C+j<((cN C V i r j).set (i*C+j) (cN C V i r j)[r*C+j]!).length:=by rw[yy];exact bF
        refine AW.skip (AW.seq (AW.block (rs hN fun K hK=>?_)))
        iterate 2 refine sa ?_
        refine .nil (hK _ _ (rqd [] hN fun K hK=>?_))
        refine c1 (Pt.one _) ?_
        refine sa ?_
        refine um (k:=E+3) (o:=0) (i:=i) (n:=R) hiR ?_
        rw[bE]
        refine c1 (Pt.row (kM:=kM) (C:=C) (n:=R) (i:=i) hiR) ?_
        refine sa ?_
        refine c1 (Pt.one _) ?_
        refine c1 (Pt.one _) ?_
        refine um (k:=E+3) (o:=0) (i:=r) (n:=R) wD ?_
        rw[bE]
        refine c1 (Pt.row (kM:=kM) (C:=C) (n:=R) (i:=r) wD) ?_
        refine sa ?_
        refine c1 (Pt.one _) ?_
        refine c1 (Pt.one _) ?_
        refine um (k:=E+3) (o:=0) (i:=r) (n:=R) wD ?_
        rw[bE]
        refine c1 (Pt.row (kM:=kM) (C:=C) (n:=R) (i:=r) wD) ?_
        refine sa ?_
        refine i1r (i:=r) (j:=j) DR ?_
        refine l1 (Pt.el _ (r*C+j) bF) ?_
        refine c1 (Pt.one _) ?_
        refine sa ?_
        refine um (k:=E+3) (o:=0) (i:=i) (n:=R) hiR ?_
        rw[bE]
        refine c1 (Pt.row (kM:=kM) (C:=C) (n:=R) (i:=i) hiR) ?_
        refine sa ?_
        refine i1r (i:=i) (j:=j) DR ?_
        refine l1 (Pt.el _ (i*C+j) hp1) ?_
        refine i1r (i:=i) (j:=j) DR ?_
        refine t1 (Pt.el _ (i*C+j) hp1) (Pt.el_set _ (i*C+j) hp1 _) ?_
        refine i1r (i:=r) (j:=j) DR ?_
        refine t1 (Pt.el _ (r*C+j) hp3) (Pt.el_set _ (r*C+j) hp3 _) ?_
        refine .nil (hK _ _ (rq hN fun K hK=>?_))
        iterate 2 refine sa ?_
        refine .nil (hK _ _ ?_)
        rw[mP]
        refine⟨j+1,wk1 wC (hok:=KY _) (hv:=fun j' ds h=>by
         rcases dJ h with⟨rfl,rfl⟩|⟨hj,h⟩
         ·exact ai
         ·exact al hj (al hj (al hj h))),DR,by omega⟩
       ·refine AW.exit ?_
        have DR:j=C:=by have:=oD bn;omega
        rw[DR]
        clear bn hj DR
        have yU:(cN C V i r C).length=R*C:=by rw[jM,hlen]
        have hp1:r*C+k<(cN C V i r C).length:=by rw[yU];exact bH wD H0
        refine vrsd [] hN fun K hK=>?_
        refine c1 (Pt.one _) ?_
        refine c1 (Pt.one _) ?_
        refine c1 (Pt.one _) ?_
        refine um (k:=E+3) (o:=0) (i:=r) (n:=R) wD ?_
        rw[bE]
        refine c1 (Pt.row (kM:=kM) (C:=C) (n:=R) (i:=r) wD) ?_
        refine c1 (Pt.one _) ?_
        refine i1r (i:=r) (j:=k) H0 ?_
        refine l1 (Pt.el _ (r*C+k) hp1) ?_
        refine sa ?_
        refine c1 (Pt.one _) ?_
        refine sa ?_
        obtain⟨pv,hpv⟩:∃pv:Pv,pv=⟨k,byN C k i r V,decide (i≠r)⟩:=⟨_,rfl⟩
        refine s1 (d:=.ag (pvD pv)) (T_bldPv (p:=pv) (by rw[hpv];rfl) (by rw[hpv];rfl) (by rw[hpv];exact congrArg (fun b=>dB b) (mn.2 (by omega)))) ?_
        refine a1 iI (hz:=rfl) ?_
        refine v1 (k:=N) (ys:=pvD pv) (F2:=pvD pv) Pt.all (by exact rfl) (by exact zf pv) rfl ?_ rfl ai rfl (ht:=iI)
        refine .nil (hK _ _ (vrs hN fun K hK=>?_))
        refine s1 (d:=.e (.lit (.func (.func 142) #[] #[]))) GX ?_
        refine .nil (hK _ _ (vrs hN fun K hK=>?_))
        refine sa ?_
        refine c1 (Pt.one _) ?_
        refine c1 (Pt.one _) ?_
        refine um (k:=E+3) (o:=0) (i:=r) (n:=R) wD ?_
        rw[bE]
        refine c1 (Pt.row (kM:=kM) (C:=C) (n:=R) (i:=r) wD) ?_
        refine s1 (d:=.fn 143 [E+4,E+5,N]) Bn ?_
        refine q1 (sHC (Gg (kM:=kM) (i:=r) (V:=cN C V i r C) (R:=R) (h:=fun U j=>t6 U[r*C+j]! pv.by') (al (by omega) (al (by omega) ai)) (fun j hj=>by simp at hj;rcases hj with rfl|rfl|rfl <;> omega) yU wD hC (fun U j hj hU=>h_by3 (kM:=kM) (krs:=E+4) (kr:=E+5) (kp:=N) (kR:=E+3) (p:=pv) ai (al (by omega) (al (by omega) (al (by omega) (al (by omega) HP)))) (al (by omega) (al (by omega) (al (by omega) (al (by omega) hvr)))) (al (by omega) ai) (al (by omega) (al (by omega) (al (by omega) (al (by omega) hvR)))) hU hj wD)) rfl (.inl (by kernel_rfl))) ?_
        refine .nil (hK _ _ ?_)
        obtain⟨U2,hU2⟩:∃U2,U2=rO (cN C V i r C) (r*C) (fun U j=>t6 U[r*C+j]! pv.by') C:=⟨_,rfl⟩
        rw[←hU2]
        have vo:U2.length=R*C:=by rw[hU2,pM,yU]
        have hstep:gx C k r U2 R=ms R C k i r V:=by rw[hU2,hpv];rfl
        have xt:∀U:List Nu,eM ⟨(kM,dC ((cW aX).f U))::(N,pvD pv)::vs,lv,N+1⟩:=fun U=>((KZ.up (M:=N+1) (dx _)).consM (cl _) (by unfold pvD;rw[rU,rU,nI];rfl)).consM (by omega) (nI _)
        refine AV.weak (hp':=⟨(kM,dC ((cW aX).f U2))::(N,pvD pv)::vs,lv,N+1⟩) (tm':=[(0,.e (.lit (.func (.yield l) #[] #[]))),(1,.pt k0 0),(3,.pt (E+4) 0),(4,.pt (E+5) 0),(5,.pt kk 0),(8,.pt N 0),(9,.e (.lit (.func (.func 142) #[] #[])))]) (wk1 wC (hok:=xt _) (hv:=fun j ds h=>by
         rcases dJ h with⟨rfl,rfl⟩|⟨hj,h⟩
         ·exact ai
         rcases dJ h with⟨rfl,rfl⟩|⟨Ai,h⟩
         ·exact al hj ai
         ·exact al hj (al Ai (al Ai (al hj h))))) ?_
        have g1:∀U:List Nu,((kM,dC ((cW aX).f U))::(N,pvD pv)::vs).lookup (E+4)=some [.gw (E+3) 1 R]:=fun U=>al (by omega) (al (by omega) HP)
        have g2:∀U:List Nu,((kM,dC ((cW aX).f U))::(N,pvD pv)::vs).lookup (E+5)=some [dI .i64 r]:=fun U=>al (by omega) (al (by omega) hvr)
        have g3:∀U:List Nu,((kM,dC ((cW aX).f U))::(N,pvD pv)::vs).lookup (E+3)=some (iz kM C R):=fun U=>al (by omega) (al (by omega) hvR)
        have g4:∀U:List Nu,((kM,dC ((cW aX).f U))::(N,pvD pv)::vs).lookup kk=some [dI .i64 k]:=fun U=>al (by omega) (al (by omega) hvk)
        refine AV.seqA ?_
        refine rs hN fun K hK=>?_
        refine c1 (Pt.one _) ?_ (hv:=g1 _)
        refine stG (d:=dI .i64 (R:Nat)) tok (xX (k:=E+3) (off:=0) (z:=1) lN aJ rfl rfl) ?_
        refine sa ?_
        refine .nil (hK _ _ (AW.block (AW.loopW (fun n:Nat=>[(0,.e (.lit (.func (.yield l) #[] #[]))),(1,.pt k0 0),(3,.pt (E+4) 0),(4,.pt (E+5) 0),(5,.pt kk 0),(8,.pt N 0),(9,.e (.lit (.func (.func 142) #[] #[]))),(93,.gw (E+3) 1 R),(94,dI .i64 (R:Nat)),(95,dI .i64 (n:Nat))]) (fun n=>⟨(kM,dC ((cW aX).f (gx C k r U2 n)))::(N,pvD pv)::vs,lv,N+1⟩) (fun n=>n≤R) (fun n=>R - n) 0 ?_ (de _) ?_)))
        ·exact wk1 wC (hok:=xt _) (hv:=fun j ds h=>h)
        ·intro n hn
         refine rs hN fun K hK=>?_
         refine sa ?_
         refine .nil (hK _ _ (AW.seq (AW.condS rfl (fun bn=>?_) (fun bn=>?_))))
         ·have Nm:n<R:=by have:=pT bn;omega
          have K3:(gx C k r U2 n).length=R*C:=by rw[qP,vo]
          have hp3:n*C+k<(gx C k r U2 n).length:=by rw[K3];exact bH Nm H0
          refine AW.skip (AW.seq (AW.block (rs hN fun K hK=>?_)))
          refine sa ?_
          refine um (k:=E+3) (o:=0) (i:=n) (n:=R) Nm ?_
          rw[bE]
          refine c1 (Pt.row (kM:=kM) (C:=C) (n:=R) (i:=n) Nm) ?_ (hv:=g3 _)
          refine a1 aJ (hz:=rfl) ?_
          refine sa ?_
          refine v1 (k:=N+1) (F:=[D.e (.lit (.slice none 0 0))]) (ys:=[.ow kM (n*C*36) 36 C]) (Pt.one _) rfl rfl rfl ?_ rfl ai rfl
          refine .nil (hK _ _ (rs hN fun K hK=>?_))
          refine c1 (Pt.one _) ?_
          refine c1 (Pt.one _) ?_ (hv:=al (by omega) (al (by omega) (g4 _)))
          refine i1r (i:=n) (j:=k) H0 ?_
          refine l1 (Pt.el _ (n*C+k) hp3) ?_
          refine n1 ?_
          refine z1 ?_
          refine .nil (hK _ _ (rs hN fun K hK=>?_))
          refine sa ?_
          refine c1 (Pt.one _) ?_ (hv:=al (by omega) (al (by omega) (al (by omega) (al (by omega) (g2 _)))))
          iterate 2 refine sa ?_
          have hvT:∀(U:List Nu) (a b c d e:List D) j ds,((kM,dC ((cW aX).f U))::(N,pvD pv)::vs).lookup j=some ds→((kM,dC ((cW aX).f U))::(N+1+1,a)::(N+1+1,b)::(N+1,c)::(N+1,d)::(kM,e)::(N,pvD pv)::vs).lookup j=some ds:=fun U a b c d e j ds h=>by
           rcases dJ h with⟨rfl,rfl⟩|⟨hj,h⟩
           ·exact ai
           have hjN:j<N+1:=by
            rcases dJ h with⟨rfl,_⟩|⟨_,h⟩
            ·omega
            ·exact nS (KZ.lt h)
           exact al hj (al (by omega) (al (by omega) (al (by omega) (al (by omega) (al hj h)))))
          have hvF:∀(U:List Nu) (a b c d:List D) j ds,((kM,dC ((cW aX).f U))::(N,pvD pv)::vs).lookup j=some ds→((N+1+1,a)::(N+1+1,b)::(N+1,c)::(N+1,d)::(kM,dC ((cW aX).f U))::(N,pvD pv)::vs).lookup j=some ds:=fun U a b c d j ds h=>by
           have hjN:j<N+1:=(xt U).lt h
           exact al (by omega) (al (by omega) (al (by omega) (al (by omega) h)))
          rcases bP (decide ((n:Int)≠(r:Int))) with qy|qy
          ·have hnr:n≠r:=by have:=pT qy;omega
           refine l1g (Pt.idN _) qy ?_
           refine cqg (LV _) qy ?_
           refine ga qy ?_
           refine s1 (am qy) ?_
           refine .nil (hK _ _ (AW.condS rfl (fun pI=>?_) (fun pI=>?_)))
           ·have e:gx C k r U2 (n+1)=rO (gx C k r U2 n) (n*C) (fun U j=>yN U[n*C+j]! (qv (gx C k r U2 n)[n*C+k]! U[r*C+j]!)) C:=by
             conv=>lhs;unfold gx
             rw[ao ⟨hnr,pT pI⟩]
            refine rq hN fun K hK=>?_
            refine sa ?_
            refine c1 (Pt.one _) ?_ (hv:=al (by omega) (al (by omega) ai))
            refine s1 (d:=.fn 145 [N+1,N+1+1,E+4,E+5]) Bn ?_
            refine q1 (sHC (Gg (kM:=kM) (i:=n) (V:=gx C k r U2 n) (R:=R) (h:=fun U j=>yN U[n*C+j]! (qv (gx C k r U2 n)[n*C+k]! U[r*C+j]!)) (al (by omega) (al (by omega) (al (by omega) (al (by omega) ai)))) (fun j hj=>by simp at hj;rcases hj with rfl|rfl|rfl|rfl <;> omega) K3 Nm hC (fun U j hj hU=>h_by4 (kM:=kM) (kl:=N+1) (kx:=N+1+1) (krs:=E+4) (kr:=E+5) (kR:=E+3) (i:=n) (b:=(gx C k r U2 n)[n*C+k]!) ai (al (by omega) (al (by omega) (al (by omega) ai))) (al (by omega) ai) (al (by omega) (al (by omega) (al (by omega) (al (by omega) (al (by omega) (g1 _)))))) (al (by omega) (al (by omega) (al (by omega) (al (by omega) (al (by omega) (g2 _)))))) (al (by omega) (al (by omega) (al (by omega) (al (by omega) (al (by omega) (g3 _)))))) hU hj wD Nm)) rfl (.inl (by kernel_rfl))) ?_
            refine .nil (hK _ _ (rq hN fun K hK=>?_))
            iterate 2 refine sa ?_
            refine .nil (hK _ _ ?_)
            rw[mP]
            refine⟨n+1,?_,Nm,by omega⟩
            dsimp only
            rw[e]
            exact wk1 wC (hok:=xt _) (hv:=fun j ds h=>hvT _ _ _ _ _ _ j ds h)
           ·have e:gx C k r U2 (n+1)=gx C k r U2 n:=by
             conv=>lhs;unfold gx
             rw[aq fun h=>oD pI h.2]
            refine AW.skip (rq hN fun K hK=>?_)
            iterate 2 refine sa ?_
            refine .nil (hK _ _ ?_)
            rw[mP]
            refine⟨n+1,?_,Nm,by omega⟩
            dsimp only
            rw[e]
            exact wk1 wC (hok:=xt _) (hv:=fun j ds h=>hvF _ _ _ _ _ j ds h)
          ·have e:gx C k r U2 (n+1)=gx C k r U2 n:=by
            conv=>lhs;unfold gx
            rw[aq fun h=>by have:=oD qy;omega]
           iterate 3 refine gn qy ?_
           refine s1 (ax qy) ?_
           refine .nil (hK _ _ (AW.condF rfl rfl (AW.skip (rq hN fun K hK=>?_))))
           iterate 2 refine sa ?_
           refine .nil (hK _ _ ?_)
           rw[mP]
           refine⟨n+1,?_,Nm,by omega⟩
           dsimp only
           rw[e]
           exact wk1 wC (hok:=xt _) (hv:=fun j ds h=>hvF _ _ _ _ _ j ds h)
         ·refine AW.exit ?_
          have Nm:n=R:=by have:=oD bn;omega
          rw[Nm,hstep]
          clear bn hn Nm
          have hls:(ms R C k i r V).length=R*C:=by rw[tI,hlen]
          refine AV.seq ?_
          refine AV.yield (tb:=tbl) (x:=x) (l:=l) (rec:=rec) (hpE:=⟨Hd,MJ,E⟩) (gE:=g) (wE:=w) 2 rfl (by rw[hN];kernel_rfl) (by kernel_rfl) ⟨wC,hg0,hw0,fun p _ hp=>by rw[Lc];exact hp⟩ (fun K hK=>?_)
          refine sa ?_
          refine p1 (Pt.all (F:=pvD pv)) (zf pv) ?_
          have hJ2:=hJ acc vs ((kM,dC ((cW aX).f (ms R C k i r V)))::(N,pvD pv)::vs) lv N (N+1) hJa (dx _) (by omega) (fun j ds hj hjE h=>al hj (al (by omega) h))
          refine .nil (hK _ _ _ _ _ rfl rfl (by rw[hB];exact hmk _ _ _ _ (hrd (ms R C k i r V) acc pv _ (by omega) (by omega) hls (xt _) ai hJ2)) ?_ ?_)
          ·rintro⟨v2,l2,N2⟩ a w ⟨JH,⟨hok3,pH,hv3⟩,hJ3⟩ hr
           dsimp only at pH hv3
           show Code.wpIn (FWd none) 0 prog _ _ a w
           have kp:∀j ds,j≠k4→j≠kM→j<N→vs.lookup j=some ds→v2.lookup j=some ds:=fun j ds h1 h2 h3 h=>hv3 j ds (by simpa using h1) (al h2 (al (by omega) h))
           have q5:v2.lookup (E+5)=some [dI .i64 r]:=kp _ _ (by omega) (by omega) (by omega) hvr
           refine (vrq hN fun K hK=>?_) a w hr
           refine c1 (Pt.one _) ?_
           refine sa ?_
           rw[mP]
           refine v1 (k:=E+5) (F:=[dI .i64 r]) (ys:=[dI .i64 ((r+1:Nat):Int)]) (Pt.one _) rfl rfl rfl ?_ rfl q5 rfl
           refine .nil (hK _ _ ?_)
           intro a w hr
           refine .inl ⟨rfl,r+1,ms R C k i r V,acc++[pv],_,Wk.tmS (tin (tin (tin (tin (tin KC))))) a w hr,⟨hok3.consM (by omega) rfl,qH,by show kk<N2;omega,hls,fun _ _=>?_,?_,ai,?_,fun _ _=>?_,fun _ _=>?_⟩,?_,by rw[eH];exact Nat.succ_le_succ K8,?_⟩
           ·exact al (by omega) (hv3 _ _ (by simpa using fun e=>h4M e.symm) ai)
           ·exact al (by omega) (kp _ _ (fun e=>h40 e.symm) (fun e=>hM0 e.symm) (by omega) hv0)
           ·exact al (by omega) (kp _ _ (by omega) (by omega) (by omega) hvk)
           ·exact al (by omega) (kp _ _ (by omega) (by omega) (by omega) HP)
           ·exact al (by omega) (kp _ _ (by omega) (by omega) (by omega) hvR)
           ·exact hJ (acc++[pv]) v2 _ l2 N2 N2 hJ3 (aI _) (by omega) (fun j ds _ hjE h=>al (by omega) h)
           ·rw[mF,hm,K2]
            conv=>lhs;unfold jl
            rw[ao wD,hf]
            dsimp only
            rw[ao JH,hpv]
          ·rintro bF g2 W' a ⟨JH,hS2⟩ vo mR Gb
           rw[hB] at mR
           refine .inr ⟨rfl,Gb,bF,g2,W',rfl,vo,mR,?_,hS2⟩
           rw[mF,hm]
           conv=>lhs;unfold jl
           rw[ao wD,hf]
           dsimp only
           rw[aq (by rw[JH];simp)]
    ·rintro ex a w' (⟨rfl,r',V',Be,⟨mJ,lv',N'⟩,hr,⟨F7,hnx',hkn',hlen',hvM',hv0',hvr',hvk',hvrs',hvR'⟩,hJ',hal',hred'⟩|⟨rfl,hd,hp',g',W',rfl,hl,hc,hn,hS'⟩)
     ·show Code.wpIn (FWd none) 0 prog _ _ a w'
      dsimp only at hkn' hvM' hv0' hvr' hvk' hvrs' hvR'
      refine (?_:AV prog none x _ (TH l E k0 kk) ⟨mJ,lv',N'⟩ _) a w' hr
      refine AV.seqA ?_
      refine rs hN fun K hK=>?_
      refine c1 (Pt.one _) ?_
      refine .nil (hK _ _ (rq hN fun K hK=>?_))
      refine a1 aR (hz:=rfl) ?_
      refine v1 (k:=N') (F:=[dI .i64 0]) (ys:=[dI .i64 (k:Int)]) (Pt.one _) rfl rfl rfl ?_ rfl ai rfl
      refine .nil (hK _ _ (vrq hN fun K hK=>?_))
      refine c1 (Pt.one _) ?_
      refine sa ?_
      rw[mP]
      refine v1 (k:=N') (F:=[dI .i64 (k:Int)]) (ys:=[dI .i64 ((k+1:Nat):Int)]) (Pt.one _) rfl rfl rfl ?_ rfl ai rfl
      refine .nil (hK _ _ ?_)
      intro a w hr
      refine⟨C - (k+1),_,_,by omega,Wk.tmS (tm':=TH l E k0 N') (tin (tin (tin (tin (tin KC))))) a w hr,k+1,r',V',Be,N',rfl,H0,rfl,⟨?_,by omega,cl _,hlen',fun h1 h2=>?_,?_,?_,ai,fun h1 h2=>?_,fun h1 h2=>?_⟩,?_,hal',hred'⟩
      ·exact ((F7.up (M:=N'+1) (dx _)).consM (cl _) rfl).consM (cl _) rfl |>.consM (cl _) rfl
      ·exact al (by omega) (al (by omega) (al (by omega) (hvM' h1 h2)))
      ·exact al (by omega) (al (by omega) (al (by omega) hv0'))
      ·exact al (by omega) (al (by omega) (al (by omega) hvr'))
      ·exact al (by omega) (al (by omega) (al (by omega) (hvrs' h1 h2)))
      ·exact al (by omega) (al (by omega) (al (by omega) (hvR' h1 h2)))
      ·exact hJ Be mJ _ lv' N' (N'+1) hJ' (dx _) (by omega) (fun j ds _ hjE h=>al (by omega) (al (by omega) (al (by omega) h)))
     ·exact .inr ⟨rfl,hd,hp',g',W',rfl,hl,hc,hn,hS'⟩
   ·refine AW.exit ?_
    intro a w hr
    have wD:¬r<R:=by have:=oD lL;omega
    exact .inl ⟨.inl rfl,_,_,hr,V,acc,mF.trans (sU (.inr wD)),KZ,M3,hJa⟩
  ·iterate 4 refine gn hb ?_
   refine s1 (ax hb) ?_
   refine .nil (hK _ _ (AW.condF rfl rfl (AW.exit ?_)))
   intro a w hr
   have H0:¬k<C:=by have:=oD hb;omega
   exact .inl ⟨.inl rfl,_,_,hr,V,acc,mF.trans (sU (.inl (by omega))),KZ,M3,hJa⟩
end
end
theorem LU(x:Nu):aB prog 103 [dG aX x] (dB (!aT x)):=by
 refine bJ (rs:=[.tmp 2]) (fun cx hx h0=>?_) func103
 refine ra hx ?_
 refine rs hx fun K hK=>?_
 refine s1 (d:=dG aX x) (aD (an.id _ _) ay) ?_
 refine sc (w_Good x) ?_
 iterate 2 refine sa ?_
 exact .nil (hK _ _ (AW.ret (rv1)))
theorem idxP_ge {p:Nu→Bool}{l:List Nu}:decide (0≤HJ p l)=l.any p:=by
 unfold HJ
 cases h:l.findIdx? p with
 |none=>
  rw[List.findIdx?_eq_none_iff] at h
  have:l.any p=false:=by
   rw[List.any_eq_false]
   intro x hx
   rw[h x hx];simp
  rw[this];rfl
 |some i=>
  obtain⟨hi,h1,_⟩:=OM.1 h
  have:l.any p=true:=List.any_eq_true.2 ⟨l[i],u6 hi,h1⟩
  rw[this]
  exact dy (show (0:Int)≤(i:Int) by omega)
theorem Fg {f:FuncId}{p:Nu→Bool}(hf:∀x:Nu,aB prog f [dG aX x] (dB (p x))){l:List Nu}(hl:l.length≤1000000):aB prog 102 [.e (slE aX l),.e (.lit (.func (.func f) #[] #[]))] (dB (l.any p)):=by
 refine bJ (rs:=[.tmp 4]) (fun cx hx h0=>?_) func102
 refine ra hx ?_
 refine rs hx fun K hK=>?_
 iterate 2 refine sa ?_
 refine sc (LW hf hl) ?_
 iterate 2 refine sa ?_
 refine .nil (hK _ _ (AW.ret ?_))
 rw[idxP_ge]
 exact rv1
theorem Lp(l:List Nu):(!l.any fun x=>!aT x)=l.all aT:=by
 induction l with
 |nil=>rfl
 |cons a l ih=>rw[List.any_cons,js,Bool.not_or,Bool.not_not,ih]
theorem w_mgood {l:List Nu}(hl:l.length≤1000000):aB prog 58 [.e (slE aX l)] (dB (l.all aT)):=by
 refine bJ (rs:=[.tmp 2]) (fun cx hx h0=>?_) func58
 refine ra hx ?_
 refine rs hx fun K hK=>?_
 refine sa ?_
 refine sc (Fg LU hl) ?_
 iterate 2 refine sa ?_
 refine .nil (hK _ _ (AW.ret ?_))
 rw[Lp]
 exact rv1
theorem AR.own {hp:Hp}{id z n:Nat}{xs:List E}:AR hp (.own id z n xs) (.e (.sl z n xs)):=by
 intro B g w v hr hd
 cases hd with
 |own _ _ _ _ _ h hid ht=>exact .e _ _ (h.less fun p hp=>hp.1)
theorem aB.ofMA {P : Program} {tb : TypeId → Option TyE} (tok : TOk P tb) {f : FuncId} {fn : Func} {c : Code} {ds es : List D} {rs : List ResultVar} (hf : P.funcs[f]? = some fn) (hb : fn.body = some c) (qW : (fn.name == "runtime.NumGoroutine") = false) (hN : ds.length ≤ fn.ntmps) (hrs : fn.results.toList = rs)
  (h:∀x:Cx,x.N=fn.ntmps→x.hp0=⟨[],[],0⟩→x.df=[]→x.B≤x.w0.heap.size→AV P none x c (eZ 0 ds) ⟨[],[],0⟩ (Lw x fun _ tm bF=>∃d,vg tb rs tm bF d∧AR bF d (.tu es))):aB P f ds (.tu es):=by
 subst hrs
 refine⟨⟨fn,hf,qW,by rw[hb];rfl⟩,fun w F vs hF hsz tN=>?_⟩
 have hr:HR w.heap.size ⟨[],[],0⟩ ⟨fun _=>0,fun _=>default,F⟩ w:=⟨fun k ds h=>by simp at h,fun _ _ _ _ h=>by simp at h,fun _ _ _ h=>by simp at h,fun _ _ _ _ _ h=>by simp at h,aI _,hF⟩
 refine (callsIn_wide (n:=0)).1 (callsIn_of_wp_marks (F:=FWd none) hf hb trivial (wpIn_mono (h ⟨w.heap.size,w,F,fn.ntmps,⟨[],[],0⟩,⟨fun _=>0,fun _=>default,F⟩,[]⟩ rfl rfl rfl (aI _) _ _ (Ef hr (fun _ _ h=>h) hN hsz tN)) ?_))
 intro ex a w' he
 refine he.leaves rfl ?_
 rintro x2 tm bF D w2 h1 h2 h3 h4 h5 h6 ⟨g',oo,gJ,LF,BI,hB,hF',hM⟩ ⟨d,HU,har⟩ rfl hD qx
 have qx:w.heap.size≤D:=qx
 rw[h1] at oo hB hF'
 rw[h2] at hB
 rw[h3] at hF'
 have HV:=oo.putO (o':=.deferred none) hD rfl rfl
 obtain⟨v,bD,kS⟩:=sj (x:=⟨w.heap.size,w,F,fn.ntmps,⟨[],[],0⟩,⟨fun _=>0,fun _=>default,F⟩,[]⟩) (g:=g') tok rfl HU HV (fun t d ht=>(gJ t d ht).putO hD rfl rfl)
 refine⟨v,bD,v,rfl,(har _ g' _ v HV kS).less fun p hp=>⟨hF' p (hF p hp) hp,fun k ds hk he=>?_⟩,rR hB qx⟩
 have h7:=(HV.var k ds hk).2.1
 have h8:=hF p hp
 dsimp only at h7
 omega
section
theorem bB.up1 {vs:List (Nat×List D)}{lv:List (Nat×Nat×Nat×TypeId)}{N:Nat}{g:Gh}{w:World}:bB ⟨vs,lv,N⟩ g w ⟨vs,lv,N+1⟩ g w:=
 ⟨aI _,fun _ _ _=>rfl,fun _ _ h=>h,dx N,fun _ _=>rfl,fun _ _ m _ h=>⟨m,h,aI _,fun _=>rfl⟩,fun _ _ h=>⟨rfl,fun _ _ h=>h,h⟩,fun _=>.same fun _=>rfl⟩
theorem HR.up1 {vs:List (Nat×List D)}{lv:List (Nat×Nat×Nat×TypeId)}{N B:Nat}{g:Gh}{w:World}(hr:HR B ⟨vs,lv,N⟩ g w):HR B ⟨vs,lv,N+1⟩ g w:=by
 refine⟨fun k ds h=>?_,hr.inj,fun id n e h=>?_,hr.tinj,hr.base,hr.fits⟩
 ·obtain⟨a,b,c,cs,ty,d,e,f⟩:=hr.var k ds h
  exact⟨nS a,b,c,cs,ty,d,e,fun j u hu=>⟨(f j u hu).1,fun d hd=>((f j u hu).2 d hd).mono bB.up1⟩⟩
 ·obtain⟨a,b⟩:=hr.tok id n e h
  exact⟨nS a,b⟩
theorem HC.gwOw {P:Program}{f:FuncId}{ds:List D}{hp hp':Hp}{k z n:Nat}(h:HC P f ds hp (.gw k z n) hp'):HC P f ds hp (.ow k 0 z n) hp':=by
 refine⟨h.1,fun B g w vs hr hsz cE=>(h.2 B g w vs hr hsz cE).mono ?_⟩
 rintro e w' ⟨v,g',rfl,h1,h2,h3,h4,h5⟩
 refine⟨v,g',rfl,h1,h2,?_,h4,h5⟩
 cases h3 with
 |gw _ _ _ c hk nJ mQ hs=>exact .ow k 0 z n c hk nJ mQ
section
variable {vs:List (Nat×List D)} {lv:List (Nat×Nat×Nat×TypeId)} {N:Nat}
theorem NO {V:List Nu}(hl:V.length≤1000000):HC prog 97 [.e (slE aX V)] ⟨vs,lv,N⟩ (gy N V.length) ⟨if V.length=0 then vs else (N,dC ((cW aX).f V))::vs,lv,N+1⟩:=by
 by_cases h0:V.length=0
 ·obtain rfl:V=[]:=jJ h0
  refine⟨(eR 0 [] (by decide)).1,fun B g w us hr hsz cE=>(xI (hp:=⟨vs,lv,N⟩) (ds:=[.e (slE aX [])]) (eR 0 [] (by decide)) ⟨AR.dn rfl,trivial⟩ hr hsz cE).mono ?_⟩
  rintro e w' ⟨v,rfl,⟨_,_,hE⟩,hb⟩
  have hE2:cC w' g.F (.sl 36 0 []) v:=by
   cases hE with
   |sl _ _ _ A c cs hl hz nJ mQ hA h1 h2=>exact .sl _ _ _ A c cs hl hz nJ mQ hA (fun ad ha i e hi=>by simp at hi) (fun i e hi=>by simp at hi)
  exact⟨v,g,rfl,(hr.keep hb.size hb.block).up1,(bB.keep _ g hb.size hb.block).trans bB.up1,.e _ _ hE2,hb.mono hr.base,fun _ _ h=>h⟩
 ·have h:=HC.adopt (hp:=⟨vs,lv,N⟩) (ds:=[.e (slE aX V)]) (eR V.length (V.flatMap aX.f) hl) ⟨AR.dn rfl,trivial⟩ (by omega) (lit_Nu V)
  have h2:=h.gwOw
  rw[show gy N V.length=.ow N 0 36 V.length from aq h0,aq h0]
  exact h2
end
def uX:Cd Pv:=⟨38,fun p=>[.lit (.int .i64 p.col)]++aX.f p.by'++[.lit (.bool p.mov)],fun p=>by simp[aX.h p.by'];rfl⟩
theorem pvD_c(p:Pv):D.ag (pvD p)=dG uX p:=by
 show D.ag (pvD p)=D.ag (([E.lit (.int .i64 p.col)]++aX.f p.by'++[E.lit (.bool p.mov)]).map .e)
 rw[lY,lY]
 rfl
def redE(R C:Nat):Option (List Nu×List Pv)→List D
 |some (U,acc)=>[.ag [dI .i64 R,dI .i64 C,.e (slE aX U),.e (slE uX acc)],dI .i64 0]
 |none=>[.ag [dI .i64 0,dI .i64 0,.e (slE aX []),.e (slE uX [])],dI .i64 30]
def PvO(acc:List Pv)(d:D)(hp:Hp):Prop:=(acc=[]∧d=dN)∨∃tk,tk<hp.next∧d=dO tk uX acc∧hp.live.lookup tk=some (acc.length,38,102)
def redJ(kM k4 R C:Nat)(acc:List Pv)(hp:Hp):Prop:=6≤hp.next∧hp.vars.lookup 1=some [dI .i64 0,dI .i64 0,dN,dN]∧hp.vars.lookup 2=some [dI .i64 0]∧∃d,hp.vars.lookup k4=some (kz kM R C++[d])∧PvO acc d hp
def redS(hp:Hp):Prop:=6≤hp.next∧hp.vars.lookup 1=some [dI .i64 0,dI .i64 0,dN,dN]∧hp.vars.lookup 2=some [dI .i64 30]
section
variable {kM R C:Nat}
theorem red_m {d:D}:Pt (kz kM R C++[d]) (0+0) (kz kM R C) (fun ys=>ys++[d]):=Pt.of [] [d] rfl rfl fun y=>rfl
theorem red_D {d:D}:Pt (kz kM R C++[d]) (0+0+2) [gy kM (R*C)] (fun ys=>[dI .i64 R,dI .i64 C]++ys++[d]):=Pt.of [dI .i64 R,dI .i64 C] [d] rfl rfl fun y=>rfl
theorem red_l {d:D}:Pt (kz kM R C++[d]) (0+3) [d] (fun ys=>kz kM R C++ys):=Pt.of (kz kM R C) [] rfl (by simp) fun y=>by simp
theorem MF {d:D}:Pt [dI .i64 R,dI .i64 C,d] (0+0) [dI .i64 R] (fun ys=>ys++[dI .i64 C,d]):=Pt.of [] _ rfl rfl fun y=>rfl
theorem MH {d:D}:Pt [dI .i64 R,dI .i64 C,d] (0+1) [dI .i64 C] (fun ys=>[dI .i64 R]++ys++[d]):=Pt.of [dI .i64 R] [d] rfl rfl fun y=>rfl
theorem MG {d:D}:Pt [dI .i64 R,dI .i64 C,d] (0+2) [d] (fun ys=>[dI .i64 R,dI .i64 C]++ys++[]):=Pt.of [dI .i64 R,dI .i64 C] [] rfl rfl fun y=>rfl
end
end
end
end Go.Proofs.YtgfcnncojhkcoaaGreat
