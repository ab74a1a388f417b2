/-
  Lemmas, part 1. Conditions: none.
-/
import Derived.Test.YtaedcknhkjpmlaaGreatK0
import Derived.OrdersHeld
import Derived.Laws.StructEq
import Derived.Scope
import Derived.LoopN
import Derived.Lib.AppendZerosOnto
set_option linter.all false
set_option maxRecDepth 100000
namespace Go.Proofs.YtaedcknhkjpmlaaGreat
open Go.RowKit Go.IntKind
noncomputable section
section
structure Cx where
 B:Nat
 w0:World
 F0:Addr→Prop
 N:Nat
 hp0:Hp
 g0:Gh
def RS(x:Cx)(tm:List (Nat×D))(hp:Hp)(a:Act)(w:World):Prop:=
 ∃g,HR x.B hp g w∧(∀t d,tm.lookup t=some d→aR hp g w d (a.tmps.getD t undef))∧a.tmps.size=x.N∧a.defers=[]∧Below x.B x.w0 w∧(∀p:Addr,p.block<x.B→x.F0 p→g.F p)∧dm x.hp0 x.g0 x.w0 hp g w
section
variable {P:Program} {tb:TypeId→Option TyE} {x:Cx} {tm tm':List (Nat×D)} {hp hp':Hp} {a:Act} {w w':World}
theorem C8(g:Gh)(v:Value):aR hp g w (J5 v) v:=by
 unfold J5
 split
 ·rename_i cs
  split
  ·rename_i h1
   have:=(fk.lits (hp:=hp) (g:=g) (w:=w) cs.toList h1).ag
   simpa using this
  ·exact .top _
 ·exact .top _
 ·rename_i h1 h2
  refine .e _ _ (.lit v ?_)
  cases v <;> first|rfl|exact absurd rfl (h1 _)|exact absurd rfl (h2 _)
theorem GF {g:Gh}(h:∀t d,tm.lookup t=some d→aR hp g w d (a.tmps.getD t undef))(o:Operand):aR hp g w (evD tm o) (a.eval o):=by
 cases o with
 |tmp t=>
  show aR hp g w ((tm.lookup t).getD .top) _
  cases hl:tm.lookup t with
  |none=>exact .top _
  |some d=>exact h t d hl
 |const v=>exact C8 g v
 |global g'=>exact .top _
 |func f=>exact .e _ _ (.lit _ rfl)
theorem Cm(a:Act)(dst:Option Tmp)(v:Value):(a.put dst v).tmps.size=a.tmps.size:=by cases dst <;> simp[Act.put]
theorem xO(a:Act)(dst:Option Tmp)(v:Value):(a.put dst v).defers=a.defers:=by cases dst <;> rfl
theorem HD {a:Act}{t:Tmp}{v:Value}(h:t<a.tmps.size):(a.put (some t) v).tmps.getD t undef=v:=by
 simp[Act.put,h]
theorem EQ {a:Act}{dst:Option Tmp}{t:Tmp}{v:Value}(h:dst≠some t):(a.put dst v).tmps.getD t undef=a.tmps.getD t undef:=by
 cases dst with
 |none=>rfl
 |some s=>
  have:s≠t:=fun e=>h (by rw[e])
  simp[Act.put,iO,Array.getElem?_setIfInBounds_ne this]
theorem Kz {g:Gh}{dst:Option Tmp}{d:D}{v:Value}(h:∀t d,tm.lookup t=some d→aR hp g w d (a.tmps.getD t undef))(hd:aR hp g w d v)(hN:∀t,dst=some t→t<a.tmps.size):
  ∀t d',(z5 dst d tm).lookup t=some d'→aR hp g w d' ((a.put dst v).tmps.getD t undef):=by
 intro t d' hl
 cases dst with
 |none=>exact h t d' hl
 |some s=>
  by_cases JC:t=s
  ·subst JC
   have:some d=some d':=by rw[←hl];exact ab.symm
   injection this with this
   subst this
   rw[HD (hN t rfl)]
   exact hd
  ·rw[EQ (fun e=>JC (by injection e with e;exact e.symm))]
   exact h t d' (by rw[←hl];exact (au JC).symm)
def Gd(ops:Array Oper)(o:Oper)(tm:List (Nat×D))(b:Bool):Prop:=
 match o.guard with
 |none=>b=true
 |some (j,want)=>(∃t c,(ops[j]?).bind (·.dst)=some t∧tm.lookup t=some (.e (.lit (.bool c)))∧(c == want)=b)∨∃t,(ops[j]?).bind (·.dst)=some t∧tm.lookup t=some (.tu [])∧b=false
theorem Gd.wanted {ops:Array Oper}{o:Oper}{b:Bool}{g:Gh}(h:Gd ops o tm b)(hr:∀t d,tm.lookup t=some d→aR hp g w d (a.tmps.getD t undef)):Region.wanted o (yielded ops a.tmps)=b:=by
 unfold Gd at h
 unfold Region.wanted
 split at h
 ·rename_i hg
  rw[hg,h]
 ·rename_i j want hg
  rw[hg]
  dsimp only
  rcases h with⟨t,c,h1,h2,h3⟩|⟨t,h1,h2,rfl⟩
  rotate_left
  ·have hv:=hr t _ h2
   have hy:yielded ops a.tmps j=none:=by
    unfold yielded
    rw[h1]
    simp only[Option.bind_some]
    cases ht:a.tmps[t]? with
    |none=>rfl
    |some u=>
     have hu:a.tmps.getD t undef=u:=by simp[iO,ht]
     rw[hu] at hv
     cases hv with
     |tu _ cs hl hr=>rfl
   rw[hy];rfl
  have hv:=(hr t _ h2).lit
  have hy:yielded ops a.tmps j=some c:=by
   unfold yielded
   rw[h1]
   simp only[Option.bind_some]
   cases ht:a.tmps[t]? with
   |none=>simp[iO,ht,undef] at hv
   |some u=>
    have:u=.bool c:=by simpa[iO,ht] using hv
    rw[this]
  rw[hy,←h3]
  rfl
def Offs(o:Oper)(ev:Operand→D)(d:D):Prop:=∀(hp:Hp) (g:Gh) (w:World) (a:Act),(∀x∈o.op.operands,aR hp g w (ev x) (a.eval x))→aR hp g w d undef
def WkS(tm:List (Nat×D))(hp:Hp)(tm':List (Nat×D))(hp':Hp):Prop:=∀(B:Nat) (g:Gh) (w:World) (ρ:Nat→Value),HR B hp g w→(∀t d,tm.lookup t=some d→aR hp g w d (ρ t))→
 ∃g',HR B hp' g' w∧dm hp g w hp' g' w∧(∀t d,tm'.lookup t=some d→aR hp' g' w d (ρ t))∧∀p:Addr,p.block<B→g.F p→g'.F p
theorem WkS.rs(h:WkS tm hp tm' hp')(hr:RS x tm hp a w):RS x tm' hp' a w:=by
 obtain⟨g,hr,nX,hsz,D4,hB,hF,hM⟩:=hr
 obtain⟨g',h1,h2,h3,h4⟩:=h x.B g w (fun t=>a.tmps.getD t undef) hr nX
 exact⟨g',h1,h3,hsz,D4,hB,fun p hp hq=>h4 p hp (hF p hp hq),hM.trans h2⟩
inductive ci (P:Program) (tb:TypeId→Option TyE) (md:Md) (ops:Array Oper) (K:List (Nat×D)→Hp→Prop):List Oper→List (Nat×D)→Hp→Prop
 |nil {tm:List (Nat×D)} {hp:Hp} (h:K tm hp):ci P tb md ops K [] tm hp
 |on {o:Oper} {os:List Oper} {tm:List (Nat×D)} {hp:Hp} (d:D) (hp':Hp) (hg:Gd ops o tm true) (hs:m3 P tb md o (evD tm) hp d hp') (h:ci P tb md ops K os (z5 o.dst d tm) hp'):ci P tb md ops K (o::os) tm hp
 |off {o:Oper} {os:List Oper} {tm:List (Nat×D)} {hp:Hp} (d:D) (hg:Gd ops o tm false) (hs:Offs o (evD tm) d) (h:ci P tb md ops K os (z5 o.dst d tm) hp):ci P tb md ops K (o::os) tm hp
 |sq (hmd:md=.seq) {o:Oper} {os:List Oper} {tm:List (Nat×D)} {hp:Hp} (d:D) (hp':Hp) (hg:Gd ops o tm true) (hs:qN P o (evD tm) hp d hp') (h:ci P tb md ops K os (z5 o.dst d tm) hp'):ci P tb md ops K (o::os) tm hp
 |wk (hmd:md=.seq) {os:List Oper} {tm tm':List (Nat×D)} {hp hp':Hp} (hw:WkS tm hp tm' hp') (h:ci P tb md ops K os tm' hp'):ci P tb md ops K os tm hp
def oJ(N:Nat)(ops:Array Oper):Bool:=ops.all fun o=>match o.dst with
 |some t=>decide (t<N)
 |none=>true
theorem t7 {N:Nat}{ops:Array Oper}(h:oJ N ops=true){i:Nat}{o:Oper}(hi:ops[i]? =some o){t:Tmp}(ht:o.dst=some t):t<N:=by
 unfold oJ at h
 rw[Array.all_eq_true'] at h
 have:=h o (Array.mem_of_getElem? hi)
 rw[ht] at this
 simpa using this
theorem RS.op {o:Oper}{d:D}{Kn:Act→World→Prop}{Q:Exit→Act→World→Prop}(h:RS x tm hp a w)(hs:qN P o (evD tm) hp d hp')(hN:∀t,o.dst=some t→t<x.N)
  (hk:∀a' w',RS x (z5 o.dst d tm) hp' a' w'→Kn a' w'):o.wp P a w Kn Q:=by
 obtain⟨g,hr,nX,hsz,D4,hB,hF,hM⟩:=h
 refine hs x.B g w a Kn Q hr (fun y _=>GF nX y) (fun v g' w' pB mo hd hb hF'=>hk _ _ ⟨g',pB,Kz (fun t d ht=>(nX t d ht).mono mo) hd (fun t ht=>by rw[hsz];exact hN t ht),by rw[Cm,hsz],by rw[xO,D4],hB.trans hb,fun p h1 h2=>hF' p h1 (hF p h1 h2),hM.trans mo⟩)
theorem RS.skip {o:Oper}{d:D}(h:RS x tm hp a w)(hs:Offs o (evD tm) d)(hN:∀t,o.dst=some t→t<x.N):RS x (z5 o.dst d tm) hp (a.put o.dst undef) w:=by
 obtain⟨g,hr,nX,hsz,D4,hB,hF,hM⟩:=h
 exact⟨g,hr,Kz nX (hs hp g w a fun y _=>GF nX y) (fun t ht=>by rw[hsz];exact hN t ht),by rw[Cm,hsz],by rw[xO,D4],hB,hF,hM⟩
theorem Nb {ops:Array Oper}{K:List (Nat×D)→Hp→Prop}{Q:Exit→Act→World→Prop}(hN:oJ x.N ops=true)(hk:∀tm hp a w,K tm hp→RS x tm hp a w→Q .normal a w)
  (rest:List Oper) (i:Nat) (tm:List (Nat×D)) (hp:Hp) (a:Act) (w:World) (hd:ops.toList.drop i=rest) (h:ci P tb .seq ops K rest tm hp) (hr:RS x tm hp a w):wpOps P ops Q (List.range' i rest.length) a w:=by
 have step:∀{o:Oper} {os:List Oper} {i:Nat},ops.toList.drop i=o::os→ops[i]? =some o∧ops.toList.drop (i+1)=os:=by
  intro o os i hd
  refine⟨?_,by rw[←qv,hd];rfl⟩
  have:(ops.toList.drop i)[0]? =some o:=by rw[hd];rfl
  rw[oQ] at this
  simpa using this
 induction h generalizing i a w with
 |nil h=>exact hk _ _ _ _ h hr
 |on d hp' hg h2 h1 ih=>
  obtain⟨ho,JN⟩:=step hd
  have OU:=fun t ht=>t7 hN ho (t:=t) ht
  simp only[rD,List.range'_succ]
  rw[wpOps_cons]
  unfold wpOp
  rw[ho]
  dsimp only
  obtain⟨g,_,nX,_⟩:=id hr
  rw[hg.wanted nX,if_pos rfl]
  exact .inl (hr.op h2.ok OU fun a' w' pB=>ih (i+1) a' w' JN pB)
 |off d hg hs h1 ih=>
  obtain⟨ho,JN⟩:=step hd
  have OU:=fun t ht=>t7 hN ho (t:=t) ht
  simp only[rD,List.range'_succ]
  rw[wpOps_cons]
  unfold wpOp
  rw[ho]
  dsimp only
  obtain⟨g,_,nX,_⟩:=id hr
  rw[hg.wanted nX,if_neg (by simp)]
  exact ih (i+1) _ _ JN (hr.skip hs OU)
 |sq _ d hp' hg h2 h1 ih=>
  obtain⟨ho,JN⟩:=step hd
  have OU:=fun t ht=>t7 hN ho (t:=t) ht
  simp only[rD,List.range'_succ]
  rw[wpOps_cons]
  unfold wpOp
  rw[ho]
  dsimp only
  obtain⟨g,_,nX,_⟩:=id hr
  rw[hg.wanted nX,if_pos rfl]
  exact .inl (hr.op h2 OU fun a' w' pB=>ih (i+1) a' w' JN pB)
 |wk _ hw h ih=>exact ih i a w hd (hw.rs hr)
def AW(P:Program)(x:Cx)(c:Code)(tm:List (Nat×D))(hp:Hp)(Q:Exit→List (Nat×D)→Hp→Prop):Prop:=
 ∀a w,RS x tm hp a w→c.wp P (fun ex a' w'=>∃tm' hp',RS x tm' hp' a' w'∧Q ex tm' hp') a w
variable {Q:Exit→List (Nat×D)→Hp→Prop}
theorem AW.mono {c:Code}{Q':Exit→List (Nat×D)→Hp→Prop}(h:AW P x c tm hp Q)(hq:∀ex tm hp,Q ex tm hp→Q' ex tm hp):AW P x c tm hp Q':=
 fun a w hr=>wp_mono (h a w hr) fun ex _ _ ⟨tm',hp',h1,h2⟩=>⟨tm',hp',h1,hq ex _ _ h2⟩
theorem AW.regionS {id:Nat}{ops:Array Oper}(hN:oJ x.N ops=true)(h:∀K:List (Nat×D)→Hp→Prop,(∀tm hp,Q .normal tm hp→K tm hp)→ci P tb .seq ops K ops.toList tm hp):AW P x (.region id ops false) tm hp Q:=by
 intro a w hr
 refine wp_region ?_
 have:=Nb (Q:=fun ex a' w'=>∃tm' hp',RS x tm' hp' a' w'∧Q ex tm' hp') hN (fun tm hp a w hk hr=>⟨tm,hp,hr,hk⟩) ops.toList 0 tm hp a w rfl (h _ fun _ _ h=>h) hr
 rwa[iV,←List.range_eq_range'] at this
theorem AW.seq {c c':Code}(h:AW P x c tm hp fun ex tm' hp'=>match ex with| .normal=>AW P x c' tm' hp' Q|ex=>Q ex tm' hp'):AW P x (.seq c c') tm hp Q:=by
 intro a w hr
 refine wp_seq (wp_mono (h a w hr) ?_)
 rintro ex a' w' ⟨tm',hp',h1,h2⟩
 cases ex with
 |normal=>exact h2 a' w' h1
 |_=>exact⟨tm',hp',h1,h2⟩
theorem AW.cond {c:Operand}{c1 c2:Code}{b:Bool}(hc:evD tm c=.e (.lit (.bool b)))(h:AW P x (match b with|true=>c1|false=>c2) tm hp Q):AW P x (.cond c c1 c2) tm hp Q:=by
 intro a w hr
 obtain⟨g,_,nX,_⟩:=id hr
 have hv:=GF nX c
 rw[hc] at hv
 refine wp_cond (t:=b) hv.lit ?_
 have:=h a w hr
 cases b <;> exact this
theorem AW.block {id:Nat}{c:Code}(h:AW P x c tm hp fun ex tm' hp'=>match ex with| .exit Ai=>(if Ai=id then Q .normal tm' hp' else Q (.exit Ai) tm' hp')|ex=>Q ex tm' hp'):AW P x (.block id c) tm hp Q:=by
 intro a w hr
 refine wp_block (wp_mono (h a w hr) ?_)
 rintro ex a' w' ⟨tm',hp',h1,h2⟩
 cases ex with
 |exit Ai=>
  unfold Exit.inBlock
  dsimp only at h2 ⊢
  split
  ·rename_i he
   rw[if_pos he] at h2
   exact⟨tm',hp',h1,h2⟩
  ·rename_i he
   rw[if_neg he] at h2
   exact⟨tm',hp',h1,h2⟩
 |_=>exact⟨tm',hp',h1,h2⟩
theorem AW.exit {id:Nat}(h:Q (.exit id) tm hp):AW P x (.exit id) tm hp Q:=fun _ _ hr=>wp_exit ⟨tm,hp,hr,h⟩
theorem AW.ret(h:Q .ret tm hp):AW P x .ret tm hp Q:=fun _ _ hr=>wp_ret ⟨tm,hp,hr,h⟩
theorem AW.skip(h:Q .normal tm hp):AW P x .skip tm hp Q:=fun _ _ hr=>wp_skip ⟨tm,hp,hr,h⟩
theorem D8 {Q:Exit→Act→World→Prop}{c:Code}(I:Nat→Act→World→Prop){n:Nat}(h₀:I n a w)
  (round:∀n a w,I n a w→c.wp P (Exit.then (fun a' w'=>∃m,m<n∧I m a' w') Q) a w):(Code.loop c).wp P Q a w:=by
 intro b k cs
 have key:∀n a w,I n a w→∃e a' w',Q e a' w'∧Arrives P (lone (b.at a (.code c::.inLoop c::k)) cs w) b k cs e a' w':=by
  intro n
  induction n using Nat.strongRecOn with
  |_ n ih=>
   intro a w hI
   obtain⟨e,a₁,w₁,hq,H8⟩:=round n a w hI b (.inLoop c::k) cs
   cases e with
   |normal=>
    obtain⟨m,b8,hI₁⟩:=hq
    obtain⟨e₂,a₂,w₂,hq₂,harr₂⟩:=ih m b8 a₁ w₁ hI₁
    exact⟨e₂,a₂,w₂,hq₂,.of_steps (Steps.trans H8 (.one step_inLoop)) harr₂⟩
   |exit id=>exact⟨_,a₁,w₁,hq,.pass (x:=.inLoop c) rfl (fun _ _=>.inl (by simp)) H8⟩
   |goto l=>exact⟨_,a₁,w₁,hq,.pass (x:=.inLoop c) rfl (fun _ _=>.inl (by simp)) H8⟩
   |ret=>exact⟨_,a₁,w₁,hq,.pass (x:=.inLoop c) rfl (fun _ _=>.inl (by simp)) H8⟩
   |panic ch=>exact⟨_,a₁,w₁,hq,.pass (x:=.inLoop c) rfl (fun _ _=>.inl (by simp)) H8⟩
   |outgrown=>exact⟨_,a₁,w₁,hq,.pass (x:=.inLoop c) rfl (fun _ _=>.inl (by simp)) H8⟩
 obtain⟨e,a',w',hq,H8⟩:=key n a w h₀
 exact⟨e,a',w',hq,.of_steps (.one step_loop) H8⟩
def Wk(x:Cx)(tm:List (Nat×D))(hp:Hp)(tm':List (Nat×D))(hp':Hp):Prop:=∀a w,RS x tm hp a w→RS x tm' hp' a w
theorem AW.weak {c:Code}(hw:Wk x tm hp tm' hp')(h:AW P x c tm' hp' Q):AW P x c tm hp Q:=fun a w hr=>h a w (hw a w hr)
theorem AW.loop {c:Code}(I:Nat→List (Nat×D)→Hp→Prop){n:Nat}{tm0:List (Nat×D)}{hp0:Hp}(hw:Wk x tm hp tm0 hp0)(h0:I n tm0 hp0)
  (round:∀n tm hp,I n tm hp→AW P x c tm hp fun ex tm' hp'=>match ex with| .normal=>∃m tm2 dW,m<n∧Wk x tm' hp' tm2 dW∧I m tm2 dW|ex=>Q ex tm' hp'):AW P x (.loop c) tm hp Q:=by
 intro a w hr
 refine D8 (fun n a w=>∃tm hp,RS x tm hp a w∧I n tm hp) (n:=n) ⟨tm0,hp0,hw a w hr,h0⟩ (fun n a w ⟨tm,hp,hr,hI⟩=>wp_mono (round n tm hp hI a w hr) ?_)
 rintro ex a' w' ⟨tm',hp',h1,h2⟩
 cases ex with
 |normal=>
  obtain⟨m,tm2,dW,b8,hwk,hI2⟩:=h2
  exact⟨m,b8,tm2,dW,hwk a' w' h1,hI2⟩
 |_=>exact⟨tm',hp',h1,h2⟩
def D.idsB(m:Nat):D→Bool
 | .ag ds=>ds.all (D.idsC m)
 | .tu ds=>ds.all (D.idsC m)
 |d=>d.idsC m
theorem iH {m:Nat}{dW:Hp}{g:Gh}{d:D}{v:Value}(h:aR hp g w d v)(hd:d.idsC m=true)(hm:dW.next=m)(hl:∀id y,dW.live.lookup id=some y→hp.live.lookup id=some y):aR dW g w d v:=by
 subst hm
 cases h with
 |e y v h=>exact .e y v h
 |own id z n xs v h hid ht=>exact .own id z n xs v h (by simpa[D.idsC] using hd) (fun m e h=>ht m e (hl _ _ h))
 |fu z n xs A h=>exact .fu z n xs A h
 |ag ds cs hl h1 hr=>cases hd
 |tu ds cs hl hr=>cases hd
 |fp xs off ad hb hc=>exact .fp xs off ad hb hc
 |pt k off hk=>exact .pt k off (by simpa[D.idsC] using hd)
 |ow k off z n c hk h1 h2=>exact .ow k off z n c (by simpa[D.idsC] using hd) h1 h2
 |gw k z n c hk h1 h2 hs=>exact .gw k z n c (by simpa[D.idsC] using hd) h1 h2 hs
 |fn f ks hk=>exact .fn f ks (by simpa[D.idsC] using hd)
 |opt b d v hi h=>
  refine .opt b d v hd fun hb=>?_
  cases d with
  |ag ds=>
   have lz:∀d∈ds,D.isE d=true:=by
    have:ds.all D.isE=true:=hd
    simpa only[dc] using this
   have h':=h hb
   cases h' with
   |ag _ cs hlen h1 hr=>
    refine .ag _ cs hlen h1 fun j d u h2 h3=>?_
    have h4:=hr j d u h2 h3
    have h5:=lz d (er h2)
    cases d with
    |e y=>
     cases h4 with
     |e _ _ h6=>exact .e y _ h6
    |fu z n xs=>
     cases h4 with
     |fu _ _ _ A h6=>exact .fu z n xs A h6
    |fp xs off=>
     cases h4 with
     |fp _ _ ad hb hc=>exact .fp xs off ad hb hc
    |_=>cases h5
  |_=>exact iH (h hb) hd rfl hl
 |top v=>exact .top v
theorem CF {m:Nat}{dW:Hp}{g:Gh}{d:D}{v:Value}(h:aR hp g w d v)(hd:d.idsB m=true)(hm:dW.next=m)(hl:∀id y,dW.live.lookup id=some y→hp.live.lookup id=some y):aR dW g w d v:=by
 cases h with
 |ag ds cs hlen h1 hr=>
  have lz:∀d∈ds,D.idsC m d=true:=by simpa[D.idsB] using hd
  exact .ag ds cs hlen h1 fun j d u h2 h3=>iH (hr j d u h2 h3) (lz d (er h2)) hm hl
 |tu ds cs hlen hr=>
  have lz:∀d∈ds,D.idsC m d=true:=by simpa[D.idsB] using hd
  exact .tu ds cs hlen fun j d u h2 h3=>iH (hr j d u h2 h3) (lz d (er h2)) hm hl
 |e y v h=>exact iH (.e y v h) hd hm hl
 |own id z n xs v h hid ht=>exact iH (.own id z n xs v h hid ht) hd hm hl
 |fu z n xs A h=>exact iH (.fu z n xs A h) hd hm hl
 |fp xs off ad hb hc=>exact iH (.fp xs off ad hb hc) hd hm hl
 |pt k off hk=>exact iH (.pt k off hk) hd hm hl
 |ow k off z n c hk h1 h2=>exact iH (.ow k off z n c hk h1 h2) hd hm hl
 |gw k z n c hk h1 h2 hs=>exact iH (.gw k z n c hk h1 h2 hs) hd hm hl
 |fn f ks hk=>exact iH (.fn f ks hk) hd hm hl
 |opt b d v hi h=>exact iH (.opt b d v hi h) hd hm hl
 |top v=>exact .top v
theorem bQ {α:Type}:∀{l:List (Nat×α)} {k:Nat} {y:α},l.lookup k=some y→(k,y)∈l
 |[],k,y,h=>by simp at h
 |(j,z)::l,k,y,h=>by
  by_cases hj:k=j
  ·subst hj
   have:some z=some y:=by rw[←h];exact ab.symm
   injection this with this
   subst this
   exact qw ..
  ·exact o3 _ (bQ (by rw[←h];exact (au hj).symm))
def fS:Nat→List D→List (Nat×D)
 |_,[]=>[]
 |i,d::ds=>(i,d)::fS (i+1) ds
theorem uc:∀{ds:List D} {i t:Nat} {d:D},(fS i ds).lookup t=some d→i≤t∧ds[t - i]? =some d
 |[],i,t,d,h=>by simp[fS] at h
 |d0::ds,i,t,d,h=>by
  by_cases yR:t=i
  ·subst yR
   have:some d0=some d:=by rw[←h];exact ab.symm
   injection this with this
   subst this
   exact⟨aB _,by simp⟩
  ·have h1:(fS (i+1) ds).lookup t=some d:=by rw[←h];exact (au yR).symm
   obtain⟨h2,h3⟩:=uc h1
   refine⟨by omega,?_⟩
   rw[show t - i=(t - (i+1))+1 by omega]
   exact h3
def sB(tb:TypeId→Option TyE)(tm:List (Nat×D))(hp:Hp)(r:ResultVar)(k:D→Prop):Prop:=
 match r with
 | .tmp t=>∃d,tm.lookup t=some d∧k d
 | .cell p ty=>∃d,tm.lookup p=some d∧(∃j,tb ty=some j)∧CC tb ty d hp k
theorem aR.exC {g:Gh}{w:World}{d:D}{v:Value}(h:aR hp g w d v):aR hp g w d.exC v:=by
 cases h with
 |e x v h=>exact .e x v h
 |own id z n xs v h hid ht=>exact .e _ _ h
 |fu z n xs A h=>exact .e _ _ h
 |ag ds cs hl h1 hr=>exact .ag ds cs hl h1 hr
 |tu ds cs hl hr=>exact .tu ds cs hl hr
 |fp xs off ad hb hc=>exact .fp xs off ad hb hc
 |pt k off hk=>exact .pt k off hk
 |ow k off z n c hk h1 h2=>exact .ow k off z n c hk h1 h2
 |gw k z n c hk h1 h2 hs=>exact .gw k z n c hk h1 h2 hs
 |fn f ks hk=>exact .fn f ks hk
 |opt b d v hi h=>exact .opt b d v hi h
 |top v=>exact .top v
theorem aR.exD {g:Gh}{w:World}{d:D}{v:Value}(h:aR hp g w d v):aR hp g w d.ex v:=by
 cases h with
 |ag ds cs hl h1 hr=>
  refine .ag _ cs (by simpa using hl) h1 fun j d u hd hu=>?_
  rw[ep] at hd
  cases hdj:ds[j]? with
  |none=>simp[hdj] at hd
  |some d0=>
   simp only[hdj,n6,n5] at hd
   subst hd
   exact (hr j d0 u hdj hu).exC
 |e x v h=>exact .e x v h
 |own id z n xs v h hid ht=>exact .e _ _ h
 |fu z n xs A h=>exact .e _ _ h
 |tu ds cs hl hr=>exact .tu ds cs hl hr
 |fp xs off ad hb hc=>exact .fp xs off ad hb hc
 |pt k off hk=>exact .pt k off hk
 |ow k off z n c hk h1 h2=>exact .ow k off z n c hk h1 h2
 |gw k z n c hk h1 h2 hs=>exact .gw k z n c hk h1 h2 hs
 |fn f ks hk=>exact .fn f ks hk
 |opt b d v hi h=>exact .opt b d v hi h
 |top v=>exact .top v
def D.leC(d d':D):Prop:=d'=d∨d'=d.exC∨(d=.e (.lit (.slice none 0 0))∧∃z,0<z∧d'=.e (.sl z 0 []))
theorem aR.leC {g:Gh}{w:World}{d d':D}{v:Value}(h:aR hp g w d v)(hl:d.leC d'):aR hp g w d' v:=by
 rcases hl with rfl|rfl|⟨rfl,z,hz,rfl⟩
 ·exact h
 ·exact h.exC
 ·cases h with
  |e _ _ h=>
   cases h with
   |lit _ _=>exact .e _ _ (.sl z 0 [] none 0 (fun _=>undef) (by simp) hz (aB _) (cX _) (fun h=>absurd h (Nat.lt_irrefl _)) (fun _ h=>by cases h) (fun j x h=>by simp at h))
def xz:List D→List D→Prop
 |[],[]=>True
 |d::ds,d'::ds'=>d.leC d'∧xz ds ds'
 |_,_=>False
theorem qO:∀ds:List D,xz ds ds
 |[]=>trivial
 |_::ds=>⟨.inl rfl,qO ds⟩
theorem sR:∀{ds ds':List D},xz ds ds'→ds'.length=ds.length
 |[],[],_=>rfl
 |_::ds,_::ds',h=>by simp[sR h.2]
 |[],_::_,h=>h.elim
 |_::_,[],h=>h.elim
theorem u4:∀{ds ds':List D},xz ds ds'→∀{j:Nat} {d':D},ds'[j]? =some d'→∃d,ds[j]? =some d∧d.leC d'
 |d::ds,d'::ds',h,0,e,he=>⟨d,rfl,by
  have:d'=e:=by simpa using he
  rw[←this];exact h.1⟩
 |d::ds,d'::ds',h,j+1,e,he=>u4 h.2 (by simpa using he)
 |[],[],h,j,e,he=>by simp at he
 |[],_::_,h,_,_,_=>h.elim
 |_::_,[],h,_,_,_=>h.elim
def D.le(d d':D):Prop:=d.leC d'∨d'=d.ex∨∃ds ds',d=.ag ds∧d'=.ag ds'∧xz ds ds'
theorem aR.le {g:Gh}{w:World}{d d':D}{v:Value}(h:aR hp g w d v)(hl:d.le d'):aR hp g w d' v:=by
 rcases hl with hl|rfl|⟨ds,ds',rfl,rfl,hl⟩
 ·exact h.leC hl
 ·exact h.exD
 ·cases h with
  |ag _ cs hlen h1 hr=>
   refine .ag _ cs (by rw[hlen,sR hl]) h1 fun j d u hd hu=>?_
   obtain⟨d0,vy,hle⟩:=u4 hl hd
   exact (hr j d0 u vy hu).leC hle
theorem BK {d:D}(h:d.pure=true):d.ex=d:=by
 cases d with
 |ag ds=>
  have lz:∀x∈ds,D.pureC x=true:=by simpa[D.pure] using h
  show D.ag (ds.map D.exC)=.ag ds
  have:ds.map D.exC=ds:=by
   conv=>rhs;rw[←List.map_id ds]
   refine sw fun x hx=>?_
   have:=lz x hx
   cases x <;> first|rfl|cases this
  rw[this]
 |e x=>rfl
 |fp xs off=>rfl
 |_=>cases h
theorem aR.exportP {g:Gh}{w:World}{d:D}{v:Value}(h:aR hp g w d v)(hp':d.pure=true):l9 w g.F d v:=by
 have:=h.xport (by rw[BK hp'];exact hp')
 rwa[BK hp'] at this
def oT(tb:TypeId→Option TyE)(rs:List ResultVar)(tm:List (Nat×D))(hp:Hp)(r:D):Prop:=
 match rs with
 |[q]=>sB tb tm hp q fun d=>(d.ex.pure=true∧r=d.ex)∨(∃id e z n xs,d=.own id z n xs∧hp.live.lookup id=some (n,z,e)∧r=.own e z n xs)∨∃d2,d.le d2∧d2.pure=true∧r=d2
 |[q,q']=>sB tb tm hp q fun d=>sB tb tm hp q' fun d'=>((d.ex.pure=true∧d'.ex.pure=true)∧r=.tu [d.ex,d'.ex])∨∃e e',d.le e∧d'.le e'∧(e.pure=true∧e'.pure=true)∧r=.tu [e,e']
 |[q,q',MX]=>sB tb tm hp q fun d=>sB tb tm hp q' fun d'=>sB tb tm hp MX fun P1=>((d.ex.pure=true∧d'.ex.pure=true∧P1.ex.pure=true)∧r=.tu [d.ex,d'.ex,P1.ex])∨∃e e' e'',d.le e∧d'.le e'∧P1.le e''∧(e.pure=true∧e'.pure=true∧e''.pure=true)∧r=.tu [e,e',e'']
 |[]=>r=.tu []
 |_=>False
theorem gY(tok:TOk P tb){q:ResultVar}{k:D→Prop}(h:sB tb tm hp q k):∃d,k d∧∀(B:Nat) (g:Gh) (w:World) (tmps:Array Value),HR B hp g w→(∀t d,tm.lookup t=some d→aR hp g w d (tmps.getD t undef))→
  ∃v,((match q with| .tmp t=>pure (tmps.getD t undef)| .cell a t=>do loadVar t (←asAddr (tmps.getD a undef)):Sem Value)).run P w=.ok v w∧aR hp g w d v:=by
 unfold sB at h
 split at h
 ·rename_i t
  obtain⟨d,hd,hk⟩:=h
  exact⟨d,hk,fun B g w tmps hr nX=>⟨_,rfl,nX t d hd⟩⟩
 ·rename_i p ty
  obtain⟨d,hd,_,h⟩:=h
  obtain⟨d',hk,_,hs⟩:=AU tok h
  refine⟨d',hk,fun B g w tmps hr nX=>?_⟩
  obtain⟨v,cu,dx⟩:=hs hp B g w _ (fun _ _ _=>rfl) hr (nX p d hd)
  refine⟨v,?_,dx⟩
  have hp:=nX p d hd
  generalize tmps.getD p undef=u at*
  cases u with
  |pointer o=>
   cases o with
   |some ad=>simpa[Instr.loadAt,Instr.sureAddr,asAddr] using cu
   |none=>simp[Instr.loadAt,Instr.sureAddr,stuck,Sem.run] at cu
  |_=>simp[Instr.loadAt,Instr.sureAddr,stuck,Sem.run] at cu
theorem Array.mapM_one {α β:Type}(f:α→Sem β)(q:α)(w:World){v:β}(h:(f q).run P w=.ok v w):((#[q]:Array α).mapM f).run P w=.ok #[v] w:=by
 rw[Lh]
 simp[h]
theorem Array.mapM_two {α β:Type}(f:α→Sem β)(q q':α)(w:World){v v':β}(h:(f q).run P w=.ok v w)(h':(f q').run P w=.ok v' w):((#[q,q']:Array α).mapM f).run P w=.ok #[v,v'] w:=by
 rw[Lh]
 simp[h,h']
theorem Array.mapM_three {α β:Type}(f:α→Sem β)(q q' MX:α)(w:World){v v' v'':β}(h:(f q).run P w=.ok v w)(h':(f q').run P w=.ok v' w)(h'':(f MX).run P w=.ok v'' w):((#[q,q',MX]:Array α).mapM f).run P w=.ok #[v,v',v''] w:=by
 rw[Lh]
 simp[h,h',h'']
theorem l9.tu {F:Addr→Prop}{ds:List D}{vs:List Value}(h:Pw (l9 w F) ds vs):l9 w F (.tu ds) (.tuple vs.toArray):=
 aR.tu ds vs.toArray (by simpa using h.1.symm) fun j d u hd hu=>h.2 j d u hd (by simpa using hu)
theorem FO {d:D}{e z n:Nat}{xs:List E}(h:d.ex.pure=true):d.ex≠.own e z n xs:=by
 intro e
 rw[e] at h
 cases h
theorem u1.of {B:Nat}{F:Addr→Prop}{r:D}{v:Value}(h:l9 w F r v)(hn:∀e z n xs,r≠.own e z n xs):u1 B F w r v:=by
 unfold u1
 split
 ·exact absurd rfl (hn _ _ _ _)
 ·exact h
theorem d6.less {F F':Addr→Prop}{y:E}{v:Value}(h:d6 w F y v)(hF:∀p,F' p→F p):d6 w F' y v:=h.mono (aB _) (fun _ _ _=>rfl) fun p _ hf=>hF p hf
theorem l9.less {F F':Addr→Prop}{d:D}{v:Value}(h:l9 w F d v)(hF:∀p,F' p→F p):l9 w F' d v:=by
 unfold l9 at h
 generalize hh:(⟨[],[],0⟩:Hp)=h0 at h
 generalize hgg:(⟨fun _=>0,fun _=>default,F⟩:Gh)=g0 at h
 have Mu:g0.F=F:=by rw[←hgg]
 have hn:h0.next=0:=by rw[←hh]
 unfold l9
 induction h with
 |e y v h=>exact .e y v (d6.less h fun p hp=>by rw[Mu];exact hF p hp)
 |own id z n xs v h hid ht=>omega
 |fu z n xs A h=>exact .fu z n xs A (d6.less h fun p hp=>by rw[Mu];exact hF p hp)
 |ag ds cs hl h1 hr ih=>exact .ag ds cs hl h1 ih
 |tu ds cs hl hr ih=>exact .tu ds cs hl ih
 |fp xs off ad hb hc=>
  refine .fp xs off ad hb fun j y hy=>?_
  obtain⟨u,h1,h2,h3⟩:=hc j y hy
  exact⟨u,h1,fun hf=>h2 (by rw[Mu];exact hF _ hf),d6.less h3 fun p hp=>by rw[Mu];exact hF p hp⟩
 |pt k off hk=>omega
 |ow k off z n c hk h1 h2=>omega
 |gw k z n c hk h1 h2 hs=>omega
 |fn f ks hk=>
  cases ks with
  |nil=>exact .fn f [] (by simp)
  |cons k ks=>have:=hk k (by simp);omega
 |opt b d v hi h ih=>exact .opt b d v (by rw[hn] at hi;exact hi) ih
 |top v=>exact .top v
theorem Ka(tok:TOk P tb){fn:Func}{rs:List ResultVar}{r:D}(H0:fn.results.toList=rs)(h:oT tb rs tm hp r)(hr:RS x tm hp a w)(Mu:∀p,x.F0 p→p.block<x.B):
  ∃v,(results fn a.tmps).run P w=.ok v w∧u1 x.B x.F0 w r v:=by
 obtain⟨g,hh,nX,hsz,D4,hB,hF,_⟩:=hr
 have E9:∀p,x.F0 p→g.F p:=fun p hp=>hF p (Mu p hp) hp
 unfold oT at h
 split at h
 ·rename_i q
  have hq:fn.results=#[q]:=by apply oP.1;simpa using H0
  obtain⟨d,hk,hs⟩:=gY tok h
  obtain⟨v,cu,dx⟩:=hs x.B g w a.tmps hh nX
  refine⟨v,?_,?_⟩
  ·unfold results
   rw[hq,Sem.run_bind,Array.mapM_one _ q w cu]
   simp
  ·rcases hk with⟨ka,rfl⟩|⟨id,e,z,n,xs,rfl,d9,rfl⟩|⟨d2,hle,ka,rfl⟩
   ·exact u1.of ((dx.xport ka).less E9) fun _ _ _ _=>FO ka
   ·obtain⟨_,us,hz,ho,htail⟩:=hh.tok id n (z,e) d9
    cases dx with
    |own _ _ _ _ _ hrepE hid ht=>
     have hv:=(ht n (z,e) d9).2.2 rfl
     subst hv
     refine⟨hz,⟨us,ho⟩,hrepE.less fun p hp=>?_⟩
     rcases hp with hp|⟨b,h1,h2,h3⟩
     ·exact E9 p hp
     ·exact (htail b h1).1 p h2 h3
   ·exact u1.of (((dx.le hle).exportP ka).less E9) fun _ _ _ _ e=>by rw[e] at ka;cases ka
 ·rename_i q q'
  have hq:fn.results=#[q,q']:=by apply oP.1;simpa using H0
  obtain⟨d,hk,hs⟩:=gY tok h
  obtain⟨v,cu,dx⟩:=hs x.B g w a.tmps hh nX
  obtain⟨d',Al,HZ⟩:=gY tok hk
  obtain⟨v',CI,rj⟩:=HZ x.B g w a.tmps hh nX
  refine⟨.tuple #[v,v'],?_,?_⟩
  ·unfold results
   rw[hq,Sem.run_bind,Array.mapM_two _ q q' w cu CI]
   simp
  ·rcases Al with⟨⟨ka,dW⟩,rfl⟩|⟨e,e',hl1,Gp,⟨ka,dW⟩,rfl⟩
   ·exact u1.of (l9.tu (vs:=[v,v']) (Pw.cons ((dx.xport ka).less E9) (Pw.cons ((rj.xport dW).less E9) Pw.nil))) (fun _ _ _ _ h=>by cases h)
   ·exact u1.of (l9.tu (vs:=[v,v']) (Pw.cons (((dx.le hl1).exportP ka).less E9) (Pw.cons (((rj.le Gp).exportP dW).less E9) Pw.nil))) (fun _ _ _ _ h=>by cases h)
 ·rename_i q q' MX
  have hq:fn.results=#[q,q',MX]:=by apply oP.1;simpa using H0
  obtain⟨d,hk,hs⟩:=gY tok h
  obtain⟨v,cu,dx⟩:=hs x.B g w a.tmps hh nX
  obtain⟨d',uW,HZ⟩:=gY tok hk
  obtain⟨v',CI,rj⟩:=HZ x.B g w a.tmps hh nX
  obtain⟨P1,Al,hs''⟩:=gY tok uW
  obtain⟨v'',JD,Gl⟩:=hs'' x.B g w a.tmps hh nX
  refine⟨.tuple #[v,v',v''],?_,?_⟩
  ·unfold results
   rw[hq,Sem.run_bind,Array.mapM_three _ q q' MX w cu CI JD]
   simp
  ·rcases Al with⟨⟨ka,dW,hp3⟩,rfl⟩|⟨e,e',e'',hl1,Gp,hl3,⟨ka,dW,hp3⟩,rfl⟩
   ·exact u1.of (l9.tu (vs:=[v,v',v'']) (Pw.cons ((dx.xport ka).less E9) (Pw.cons ((rj.xport dW).less E9) (Pw.cons ((Gl.xport hp3).less E9) Pw.nil)))) (fun _ _ _ _ h=>by cases h)
   ·exact u1.of (l9.tu (vs:=[v,v',v'']) (Pw.cons (((dx.le hl1).exportP ka).less E9) (Pw.cons (((rj.le Gp).exportP dW).less E9) (Pw.cons (((Gl.le hl3).exportP hp3).less E9) Pw.nil)))) (fun _ _ _ _ h=>by cases h)
 ·have hq:fn.results=#[]:=by apply oP.1;simpa using H0
  subst h
  refine⟨.tuple #[],?_,u1.of (l9.tu (vs:=[]) Pw.nil) (fun _ _ _ _ h=>by cases h)⟩
  unfold results
  rw[hq,Sem.run_bind]
  simp
 ·cases h
theorem ax.of (tok : TOk P tb) {f : FuncId} {fn : Func} {c : Code} {ds : List D} {r : D} {rs : List ResultVar} (hf : P.funcs[f]? = some fn) (hb : fn.body = some c) (CL : (fn.name == "runtime.NumGoroutine") = false) (hN : ds.length ≤ fn.ntmps) (H0 : fn.results.toList = rs)
  (h:∀x:Cx,x.N=fn.ntmps→x.hp0=⟨[],[],0⟩→AW P x c (fS 0 ds) ⟨[],[],0⟩ fun ex tm hp=>match ex with| .normal| .ret=>oT tb rs tm hp r|_=>False):ax P f ds r:=by
 subst H0
 refine⟨⟨fn,hf,CL,by rw[hb];rfl⟩,fun w F vs hF hsz HW=>?_⟩
 refine calls_of_wp hf hb ?_
 have H0:RS ⟨w.heap.size,w,F,fn.ntmps,⟨[],[],0⟩,⟨fun _=>0,fun _=>default,F⟩⟩ (fS 0 ds) ⟨[],[],0⟩ {tmps:=vs++Array.replicate (fn.ntmps - vs.size) undef,defers:=[]} w:=by
  refine⟨⟨fun _=>0,fun _=>default,F⟩,⟨fun k ds h=>by simp at h,fun _ _ _ _ h=>by simp at h,fun _ _ _ h=>by simp at h,fun _ _ _ _ _ h=>by simp at h,aB _,hF⟩,fun t d ht=>?_,by simp;omega,rfl,Below.refl _ _,fun _ _ h=>h,dm.refl _ _ _⟩
  obtain⟨_,h2⟩:=uc ht
  have b8:t<ds.length:=by
   rw[Nat.sub_zero] at h2
   rcases hE t ds.length with hh|hh
   ·exact hh
   ·rw[rC hh] at h2;cases h2
  have hv:vs[t]? =some vs[t]:=ss (by omega)
  have:=HW t d vs[t] (by simpa using h2) hv
  have he:(vs++Array.replicate (fn.ntmps - vs.size) undef).getD t undef=vs[t]:=by
   rw[iO,Array.getElem?_append_left (by omega),hv];rfl
  rw[he]
  exact this
 refine wp_mono (h ⟨w.heap.size,w,F,fn.ntmps,⟨[],[],0⟩,⟨fun _=>0,fun _=>default,F⟩⟩ rfl rfl _ _ H0) ?_
 rintro ex a' w' ⟨tm',hp',h1,h2⟩
 have fin:oT tb fn.results.toList tm' hp' r→a'.defers=[]∧∃v,(results fn a'.tmps).run P w'=.ok v w'∧∃v',Ending.returned v=.returned v'∧u1 w.heap.size F w' r v'∧Below w.heap.size w w':=by
  intro h2
  obtain⟨v,cu,pQ⟩:=Ka tok rfl h2 h1 hF
  obtain⟨g,_,_,_,D4,hB,_⟩:=h1
  exact⟨D4,v,cu,v,rfl,pQ,hB⟩
 cases ex with
 |normal=>exact fin h2
 |ret=>exact fin h2
 |_=>cases h2
def sQ(tb:TypeId→Option TyE)(rs:List ResultVar)(tm:List (Nat×D))(hp:Hp)(r:D):Prop:=
 match rs with
 |[q]=>sB tb tm hp q fun d=>r=d
 |[q,q']=>sB tb tm hp q fun d=>sB tb tm hp q' fun d'=>r=.tu [d,d']
 |[q,q',MX]=>sB tb tm hp q fun d=>sB tb tm hp q' fun d'=>sB tb tm hp MX fun P1=>r=.tu [d,d',P1]
 |[]=>r=.tu []
 |_=>False
theorem Kb(tok:TOk P tb){fn:Func}{rs:List ResultVar}{r:D}(H0:fn.results.toList=rs)(h:sQ tb rs tm hp r){g:Gh}(hh:HR x.B hp g w)(nX:∀t d,tm.lookup t=some d→aR hp g w d (a.tmps.getD t undef)):
  ∃v,(results fn a.tmps).run P w=.ok v w∧aR hp g w r v:=by
 unfold sQ at h
 split at h
 ·rename_i q
  have hq:fn.results=#[q]:=by apply oP.1;simpa using H0
  obtain⟨d,rfl,hs⟩:=gY tok h
  obtain⟨v,cu,dx⟩:=hs x.B g w a.tmps hh nX
  refine⟨v,?_,dx⟩
  unfold results
  rw[hq,Sem.run_bind,Array.mapM_one _ q w cu]
  simp
 ·rename_i q q'
  have hq:fn.results=#[q,q']:=by apply oP.1;simpa using H0
  obtain⟨d,hk,hs⟩:=gY tok h
  obtain⟨v,cu,dx⟩:=hs x.B g w a.tmps hh nX
  obtain⟨d',rfl,HZ⟩:=gY tok hk
  obtain⟨v',CI,rj⟩:=HZ x.B g w a.tmps hh nX
  have wO:Pw (aR hp g w) [d,d'] [v,v']:=Pw.cons dx (Pw.cons rj Pw.nil)
  refine⟨.tuple #[v,v'],?_,.tu _ _ rfl fun j d u hd hu=>wO.2 j d u hd (by simpa using hu)⟩
  unfold results
  rw[hq,Sem.run_bind,Array.mapM_two _ q q' w cu CI]
  simp
 ·rename_i q q' MX
  have hq:fn.results=#[q,q',MX]:=by apply oP.1;simpa using H0
  obtain⟨d,hk,hs⟩:=gY tok h
  obtain⟨v,cu,dx⟩:=hs x.B g w a.tmps hh nX
  obtain⟨d',uW,HZ⟩:=gY tok hk
  obtain⟨v',CI,rj⟩:=HZ x.B g w a.tmps hh nX
  obtain⟨P1,rfl,hs''⟩:=gY tok uW
  obtain⟨v'',JD,Gl⟩:=hs'' x.B g w a.tmps hh nX
  have wO:Pw (aR hp g w) [d,d',P1] [v,v',v'']:=Pw.cons dx (Pw.cons rj (Pw.cons Gl Pw.nil))
  refine⟨.tuple #[v,v',v''],?_,.tu _ _ rfl fun j d u hd hu=>wO.2 j d u hd (by simpa using hu)⟩
  unfold results
  rw[hq,Sem.run_bind,Array.mapM_three _ q q' MX w cu CI JD]
  simp
 ·have hq:fn.results=#[]:=by apply oP.1;simpa using H0
  subst h
  refine⟨.tuple #[],?_,.tu _ _ rfl fun j d u hd hu=>by simp at hd⟩
  unfold results
  rw[hq,Sem.run_bind]
  simp
 ·cases h
structure cQ(hp:Hp):Prop where
 var:∀k ds,hp.vars.lookup k=some ds→k<hp.next∧ds.all (D.idsC hp.next)=true
 tok:∀id e,hp.live.lookup id=some e→id<hp.next
theorem aR.cell_ids {d:D}{v:Value}{hp:Hp}{g:Gh}(h:aR hp g w d v)(hv:v.oneCell'=true):d.idsC hp.next=true:=by
 cases h with
 |e x v h=>rfl
 |own id z n xs v h hid ht=>exact aF hid
 |fu z n xs A h=>rfl
 |ag ds cs hl h1 hr=>cases hv
 |tu ds cs hl hr=>cases hv
 |fp xs off ad hb hc=>rfl
 |pt k off hk=>exact aF hk
 |ow k off z n c hk h1 h2=>exact aF hk
 |gw k z n c hk h1 h2 hs=>exact aF hk
 |fn f ks hk=>exact dc.2 fun k h=>aF (hk k h)
 |opt b d v hi h=>exact hi
 |top v=>rfl
theorem HR.ok {B:Nat}{hp:Hp}{g:Gh}(h:HR B hp g w):cQ hp:=by
 refine⟨fun k ds hk=>?_,fun id e he=>(h.tok id e.1 e.2 he).1⟩
 obtain⟨h1,_,_,cs,ty,_,h2,h3⟩:=h.var k ds hk
 refine⟨h1,dc.2 fun d hd=>?_⟩
 obtain⟨j,hj⟩:=zj hd
 have b8:j<cs.size:=by
  have:=(fZ.1 hj).1
  omega
 obtain⟨h4,h5⟩:=h3 j cs[j] (ss b8)
 exact (h5 d hj).cell_ids (h4 (fZ.1 hj).1)
theorem HC.of (tok : TOk P tb) {f : FuncId} {fn : Func} {c : Code} {ds : List D} {hp hp' : Hp} {r : D} {rs : List ResultVar} (hf : P.funcs[f]? = some fn) (hb : fn.body = some c) (CL : (fn.name == "runtime.NumGoroutine") = false) (hN : ds.length ≤ fn.ntmps) (H0 : fn.results.toList = rs)
  (h:∀x:Cx,x.N=fn.ntmps→x.hp0=hp→cQ hp→AW P x c (fS 0 ds) hp fun ex tm dW=>match ex with| .normal| .ret=>∃tm',Wk x tm dW tm' hp'∧sQ tb rs tm' hp' r|_=>False):HC P f ds hp r hp':=by
 subst H0
 refine⟨⟨fn,hf,CL,by rw[hb];rfl⟩,fun B g w vs hr hsz HW=>?_⟩
 refine calls_of_wp hf hb ?_
 have hstart:RS ⟨B,w,g.F,fn.ntmps,hp,g⟩ (fS 0 ds) hp {tmps:=vs++Array.replicate (fn.ntmps - vs.size) undef,defers:=[]} w:=by
  refine⟨g,hr,fun t d ht=>?_,by simp;omega,rfl,Below.refl _ _,fun _ _ h=>h,dm.refl _ _ _⟩
  obtain⟨_,h2⟩:=uc ht
  have b8:t<ds.length:=by
   rw[Nat.sub_zero] at h2
   rcases hE t ds.length with hh|hh
   ·exact hh
   ·rw[rC hh] at h2;cases h2
  have hv:vs[t]? =some vs[t]:=ss (by omega)
  have:=HW t d vs[t] (by simpa using h2) hv
  have he:(vs++Array.replicate (fn.ntmps - vs.size) undef).getD t undef=vs[t]:=by
   rw[iO,Array.getElem?_append_left (by omega),hv];rfl
  rw[he]
  exact this
 refine wp_mono (h ⟨B,w,g.F,fn.ntmps,hp,g⟩ rfl rfl hr.ok _ _ hstart) ?_
 rintro ex a' w' ⟨tm',dW,h1,h2⟩
 have fin:(∃tm2,Wk ⟨B,w,g.F,fn.ntmps,hp,g⟩ tm' dW tm2 hp'∧sQ tb fn.results.toList tm2 hp' r)→a'.defers=[]∧∃v,(results fn a'.tmps).run P w'=.ok v w'∧∃v' g',Ending.returned v=.returned v'∧HR B hp' g' w'∧dm hp g w hp' g' w'∧aR hp' g' w' r v'∧Below B w w'∧∀p:Addr,p.block<B→g.F p→g'.F p:=by
  rintro⟨tm2,hwk,hret⟩
  obtain⟨g',pB,nX,_,D4,hB,hF,hM⟩:=hwk a' w' h1
  obtain⟨v,cu,pQ⟩:=Kb (x:=⟨B,w,g.F,fn.ntmps,hp,g⟩) tok rfl hret pB nX
  exact⟨D4,v,cu,v,g',rfl,pB,hM,pQ,hB,hF⟩
 cases ex with
 |normal=>exact fin h2
 |ret=>exact fin h2
 |_=>cases h2
end
end
section
def BA(k:D→Hp→Prop)(hp:Hp)(d:D):Prop:=k d hp
def atLit(k:D→Hp→Prop)(hp:Hp)(v:Value):Prop:=k (.e (.lit v)) hp
def atInt(k:D→Hp→Prop)(hp:Hp)(n:Int):Prop:=k (.e (.lit (.int .i64 n))) hp
def exO(o:Option D)(k:D→Prop):Prop:=∃d,o=some d∧k d
theorem PO(d:D)(k:D→Prop):exO (some d) k=k d:=by
 unfold exO;exact propext ⟨fun⟨_,h,hk⟩=>by injection h with h;rw[h];exact hk,fun h=>⟨d,rfl,h⟩⟩
section
variable {P:Program} {tb:TypeId→Option TyE} {dr:Bool} {ops:Array Oper} {os:List Oper} {tm:List (Nat×D)} {hp:Hp} {K:List (Nat×D)→Hp→Prop} {dst:Option Tmp} {ty:TypeId} {pos:String} {af:Array Edge}
def Qq(tb:TypeId→Option TyE)(t:TypeId)(hp:Hp)(k:D→Hp→Prop):Prop:=match tb t with|some i=>k (.pt hp.next 0) (hp.var (i.zero.map fun v=>.e (.lit v)))|none=>False
def boxV(d:D)(hp:Hp)(k:D→Hp→Prop):Prop:=match d.cells with|some cs=>k (.pt hp.next 0) (hp.var cs)|none=>False
def Io(d:D)(i:Nat)(k:D→Prop):Prop:=match d with| .tu ds=>exO (ds[i]?) k|_=>False
end
theorem eu {z:Int}(h1:-9223372036854775808≤z)(h2:z≤9223372036854775807):i64.wrap z=z:=by
 rw[IntKind.wrap_i64];omega
section
variable {P:Program} {tb:TypeId→Option TyE} {hp:Hp} {k:D→Hp→Prop} {kd:D→Prop} {kv:Value→Prop} {ki:Int→Prop}
theorem ox(t:TypeId)(j off:Nat):CC tb t (.pt j off) hp kd=(match tb t,hp.vars.lookup j with
  |some i,some ds=>j<hp.next∧match i.ty.agg with
   |true=>off+i.size≤ds.length∧kd (.ag ((ds.drop off).take i.size))
   |false=>exO (ds[off]?) kd
  |_,_=>False):=bO rfl rfl
theorem CB(t:TypeId)(xs:List E)(off:Nat):CC tb t (.fp xs off) hp kd=(match tb t with
  |some i=>match i.ty.agg with
   |true=>off+i.size≤xs.length∧kd (.ag ((List.range i.size).map fun j=>.e (xs.getD (off+j) .any)))
   |false=>off<xs.length∧kd (.e (xs.getD off .any))
  |_=>False):=bO rfl rfl
theorem zV(t:TypeId)(j off:Nat)(x:D):Ch tb t (.pt j off) x hp k=(match tb t,hp.vars.lookup j,x.cells with
  |some i,some ds,some cs=>cs.length=i.size∧off+i.size≤ds.length∧k .top (hp.set j (ds.take off++cs++ds.drop (off+cs.length)))
  |_,_,_=>False):=bO rfl rfl
theorem Qn(t:TypeId):MI tb t (.e (.lit (.slice none 0 0))) hp k=(match tb t with
  |some i=>match i.ty with
   | .slice e=>match tb e with
    |some j=>0<j.size∧k (.own hp.next j.size 0 []) (hp.tok 0 (j.size,e))
    |none=>k (.e (.lit (.slice none 0 0))) hp
   |_=>k (.e (.lit (.slice none 0 0))) hp
  |none=>k (.e (.lit (.slice none 0 0))) hp):=bO rfl rfl
theorem pickV_t(a b:D):HE (.e (.lit (.bool true))) a b kd=kd a:=bO rfl rfl
theorem pickV_f(a b:D):HE (.e (.lit (.bool false))) a b kd=kd b:=bO rfl rfl
theorem MK(t:TypeId):Qq tb t hp k=(match tb t with|some i=>k (.pt hp.next 0) (hp.var (i.zero.map fun v=>.e (.lit v)))|none=>False):=bO rfl rfl
theorem boxV_eq(d:D):boxV d hp k=(match d.cells with|some cs=>k (.pt hp.next 0) (hp.var cs)|none=>False):=bO rfl rfl
theorem In(ds:List D)(i:Nat):Io (.tu ds) i kd=exO (ds[i]?) kd:=bO rfl rfl
theorem bin_shl(t:TypeId)(j j':IntKind)(a b:Int):pX P .shl t (.e (.lit (.int j a))) (.e (.lit (.int j' b))) kv=(0≤b∧kv (.int j (j.wrap (a*2 ^ min b.toNat j.bits)))):=bO rfl rfl
theorem bin_shr(t:TypeId)(j j':IntKind)(a b:Int):pX P .shr t (.e (.lit (.int j a))) (.e (.lit (.int j' b))) kv=(0≤b∧kv (.int j (a.fdiv (2 ^ min b.toNat j.bits)))):=bO rfl rfl
theorem bin_add(t:TypeId)(j j':IntKind)(a b:Int):pX P .add t (.e (.lit (.int j a))) (.e (.lit (.int j' b))) kv=(j=j'∧kv (.int j (j.wrap (a+b)))):=bO rfl rfl
theorem bin_sub(t:TypeId)(j j':IntKind)(a b:Int):pX P .sub t (.e (.lit (.int j a))) (.e (.lit (.int j' b))) kv=(j=j'∧kv (.int j (j.wrap (a - b)))):=bO rfl rfl
theorem bin_mul(t:TypeId)(j j':IntKind)(a b:Int):pX P .mul t (.e (.lit (.int j a))) (.e (.lit (.int j' b))) kv=(j=j'∧kv (.int j (j.wrap (a*b)))):=bO rfl rfl
theorem bin_quo(t:TypeId)(j j':IntKind)(a b:Int):pX P .quo t (.e (.lit (.int j a))) (.e (.lit (.int j' b))) kv=(j=j'∧b≠0∧kv (.int j (j.wrap (a.tdiv b)))):=bO rfl rfl
theorem bin_rem(t:TypeId)(j j':IntKind)(a b:Int):pX P .rem t (.e (.lit (.int j a))) (.e (.lit (.int j' b))) kv=(j=j'∧b≠0∧kv (.int j (a.tmod b))):=bO rfl rfl
theorem bin_and(t:TypeId)(j j':IntKind)(a b:Int):pX P .and t (.e (.lit (.int j a))) (.e (.lit (.int j' b))) kv=(j=j'∧kv (.int j (j.wrap (BitVec.ofInt j.bits a &&&BitVec.ofInt j.bits b).toNat))):=bO rfl rfl
theorem bin_or(t:TypeId)(j j':IntKind)(a b:Int):pX P .or t (.e (.lit (.int j a))) (.e (.lit (.int j' b))) kv=(j=j'∧kv (.int j (j.wrap (BitVec.ofInt j.bits a |||BitVec.ofInt j.bits b).toNat))):=bO rfl rfl
theorem bin_eql(t:TypeId)(j j':IntKind)(a b:Int):pX P .eql t (.e (.lit (.int j a))) (.e (.lit (.int j' b))) kv=(j=j'∧kv (.bool (decide (a=b)))):=bO rfl rfl
theorem bin_neq(t:TypeId)(j j':IntKind)(a b:Int):pX P .neq t (.e (.lit (.int j a))) (.e (.lit (.int j' b))) kv=(j=j'∧kv (.bool (decide (a≠b)))):=bO rfl rfl
theorem bin_lss(t:TypeId)(j j':IntKind)(a b:Int):pX P .lss t (.e (.lit (.int j a))) (.e (.lit (.int j' b))) kv=(j=j'∧kv (.bool (decide (a<b)))):=bO rfl rfl
theorem bin_leq(t:TypeId)(j j':IntKind)(a b:Int):pX P .leq t (.e (.lit (.int j a))) (.e (.lit (.int j' b))) kv=(j=j'∧kv (.bool (decide (a≤b)))):=bO rfl rfl
theorem bin_gtr(t:TypeId)(j j':IntKind)(a b:Int):pX P .gtr t (.e (.lit (.int j a))) (.e (.lit (.int j' b))) kv=(j=j'∧kv (.bool (decide (b<a)))):=bO rfl rfl
theorem bin_geq(t:TypeId)(j j':IntKind)(a b:Int):pX P .geq t (.e (.lit (.int j a))) (.e (.lit (.int j' b))) kv=(j=j'∧kv (.bool (decide (b≤a)))):=bO rfl rfl
theorem Qg(t:TypeId)(a b:Bool):pX P .eql t (.e (.lit (.bool a))) (.e (.lit (.bool b))) kv=(P.underlying t=some .bool∧kv (.bool (a == b))):=bO rfl rfl
theorem Qf(t:TypeId)(a b:Bool):pX P .neq t (.e (.lit (.bool a))) (.e (.lit (.bool b))) kv=(P.underlying t=some .bool∧kv (.bool (!(a == b)))):=bO rfl rfl
theorem nilV_pt(j off:Nat):N5 (.pt j off) kd=kd (.pt j off):=bO rfl rfl
theorem nilV_fp(xs:List E)(off:Nat):N5 (.fp xs off) kd=kd (.fp xs off):=bO rfl rfl
theorem un_not(t:Bool):unV .not (.e (.lit (.bool t))) kv=kv (.bool !t):=bO rfl rfl
theorem un_neg(j:IntKind)(n:Int):unV .neg (.e (.lit (.int j n))) kv=kv (.int j (j.wrap (0 - n))):=rfl
theorem A7(s:TypeId)(f:Nat)(kf:Nat→Nat→Bool→Prop):rm tb s f kf=(match tb s with
  |some i=>match i.ty with
   | .struct fs=>match fs[f]? with
    |some (off,t)=>match tb t with
     |some j=>kf off j.size j.ty.agg
     |none=>False
    |none=>False
   |_=>False
  |none=>False):=bO rfl rfl
theorem ED(s:TypeId)(f j off:Nat):pm tb s f (.pt j off) kd=rm tb s f fun o z _=>z≠0∧kd (.pt j (off+o)):=bO rfl rfl
theorem EE(s:TypeId)(f:Nat)(xs:List E)(off:Nat):pm tb s f (.fp xs off) kd=rm tb s f fun o z _=>z≠0∧kd (.fp xs (off+o)):=bO rfl rfl
theorem sF(t:TypeId)(d:D)(j:IntKind)(x:Int):pg tb t d (.e (.lit (.int j x))) kd=(match tb t with
  |some ti=>match ti.ty with
   | .slice e=>match tb e with
    |some j=>match d.asSl j.size with
     |some (n,xs)=>(0≤x∧x<(n:Int))∧kd (.fp xs (x.toNat*j.size))
     |none=>match d with
      | .ow v off z n=>z=j.size∧(0≤x∧x<(n:Int))∧kd (.pt v (off+x.toNat*j.size))
      |_=>False
    |none=>False
   | .arr n e=>match tb e,d with
    |some j,.pt v off=>(0≤x∧x<(n:Int))∧kd (.pt v (off+x.toNat*j.size))
    |some j,.fp xs off=>(0≤x∧x<(n:Int))∧kd (.fp xs (off+x.toNat*j.size))
    |_,_=>False
   |_=>False
  |none=>False):=by
 unfold pg
 cases tb t <;> rfl
theorem Ma(t:TypeId)(d:D)(j:IntKind)(x:Int):Ag tb t d (.e (.lit (.int j x))) kd=(match tb t with
  |some ti=>match ti.ty,d with
   | .str,.e (.lit (.string s))=>(0≤x∧x<(s.size:Int))∧kd (.e (.lit (.int .u8 ((s.data.toList.getD x.toNat 0).toNat:Int))))
   | .arr n e,.ag ds=>match tb e with
    |some j=>(0≤x∧x<(n:Int))∧match j.ty.agg with
     |true=>x.toNat*j.size+j.size≤ds.length∧kd (.ag ((ds.drop (x.toNat*j.size)).take j.size))
     |false=>∃d,ds[x.toNat*j.size]? =some d∧kd d
    |none=>False
   |_,_=>False
  |none=>False):=by
 unfold Ag
 cases tb t <;> rfl
theorem A9(t:TypeId)(d:D):kF tb .len [t] [d] hp k=Oc tb t d (atInt k hp):=bO rfl rfl
theorem Iz(ts:List TypeId)(j j':IntKind)(x y:Int):kF tb .min ts [.e (.lit (.int j x)),.e (.lit (.int j' y))] hp k=k (.e (.lit (.int j (min x y)))) hp:=by
 unfold kF
 split <;> first|rfl|simp_all
theorem IA(ts:List TypeId)(j j':IntKind)(x y:Int):kF tb .max ts [.e (.lit (.int j x)),.e (.lit (.int j' y))] hp k=k (.e (.lit (.int j (max x y)))) hp:=by
 unfold kF
 split <;> first|rfl|simp_all
theorem Df(t t':TypeId)(s x:D):kF tb .append [t,t'] [s,x] hp k=sn tb t t' s x hp k:=bO rfl rfl
def appOwn(j:TyE)(e:TypeId)(id z n:Nat)(xs:List E)(hp:Hp)(k:D→Hp→Prop)(m:Nat)(ys:List E):Prop:=z=j.size∧hp.live.lookup id=some (n,j.size,e)∧(n+m)*max 1 j.bytes≤140737488355328∧k (.own id j.size (n+m) (xs++ys)) (hp.app id (n+m) (j.size,e))
theorem IF(t t':TypeId)(id z n:Nat)(xs:List E)(x:D):sn tb t t' (.own id z n xs) x hp k=(match tb t with
  |some ti=>match ti.ty with
   | .slice e=>match tb e with
    |some j=>0<j.size∧(x.strOf=none→t'=t)∧(x.strOf≠none→j.bytes=1∧j.zero=[.int .u8 0]∧j.ty.agg=false)∧yJ tb t' j.size x (appOwn j e id z n xs hp k)
    |none=>False
   |_=>False
  |none=>False):=bO rfl rfl
theorem N6(t:TypeId)(z:Nat)(x:D)(kn:Nat→List E→Prop):yJ tb t z x kn=(match tb t with
  |some i=>match i.ty,x.strOf with
   | .str,some s=>z=1∧kn s.size (s.data.toList.map fun b=>.lit (bv b))
   | .slice _,none=>match x.asSl z with
    |some (m,ys)=>kn m ys
    |none=>False
   |_,_=>False
  |none=>False):=rfl
theorem KN(t:TypeId)(d:D):Oc tb t d ki=(match tb t with
  |some ti=>match ti.ty with
   | .slice e=>match tb e with
    |some j=>match d.asSl j.size with
     |some (n,_)=>ki n
     |none=>match d with
      | .ow _ _ _ n=>ki n
      |_=>False
    |none=>False
   | .str=>match d with
    | .e (.lit (.string s))=>ki s.size
    |_=>False
   | .arr n _=>ki n
   |_=>False
  |none=>False):=bO rfl rfl
theorem tf(t:TypeId)(ps:List (Nat×D)):Dg tb t ps kd=(match tb t,l5 ps with
  |some i,some qs=>match i.ty with
   | .struct fs=>(∀f∈fs,(tb f.2).isSome=true)∧match gp (oi tb fs) (i.zero.map fun v=>D.e (.lit v)) qs with
    |some ds=>kd (.ag ds)
    |none=>False
   | .arr _ e=>match tb e with
    |some j=>match gp (fun n=>some (n*j.size,j.size)) (i.zero.map fun v=>D.e (.lit v)) qs with
     |some ds=>kd (.ag ds)
     |none=>False
    |none=>False
   |_=>False
  |_,_=>False):=bO rfl rfl
theorem AW.condS {x:Cx}{Q:Exit→List (Nat×D)→Hp→Prop}{tm:List (Nat×D)}{c:Operand}{c1 c2:Code}{b:Bool}(hc:evD tm c=.e (.lit (.bool b)))(ht:b=true→AW P x c1 tm hp Q)(hf:b=false→AW P x c2 tm hp Q):AW P x (.cond c c1 c2) tm hp Q:=by
 refine AW.cond hc ?_
 cases b
 ·exact hf rfl
 ·exact ht rfl
end
end
section
inductive Bef (ops:Array Oper):Nat→Nat→Prop
 |edge (i:Nat) (o:Oper) (e:Edge) (hi:ops[i]? =some o) (he:e∈o.after) (hb:Region.binds .any e=true):Bef ops e.on i
 |trans (j i:Nat) (o:Oper) (e:Edge) (hi:ops[i]? =some o) (he:e∈o.after) (hb:Region.binds .any e=true) (h:Bef ops j e.on):Bef ops j i
def fz {α:Type}(n:Nat)(k:Nat→α):α:=match n with
 |0=>k 0
 |m+1=>k (m+1)
theorem K1 {α:Type}{n:Nat}{k:Nat→α}:fz n k=k n:=by cases n <;> rfl
def look:List (Nat×Nat)→Nat→Nat
 |[],_=>0
 |(j,b)::m,k=>if Nat.beq j k then b else look m k
def Ab(m:List (Nat×Nat))(l:List Edge)(s:Nat):Nat:=match l with
 |[]=>s
 |e::l=>if Region.binds .any e then fz (s |||2 ^ e.on |||look m e.on) fun s=>Ab m l s else Ab m l s
theorem Aa(m:List (Nat×Nat)):∀(l:List Edge) (s j:Nat),(Ab m l s).testBit j=true→
  s.testBit j=true∨∃e∈l,Region.binds .any e=true∧(e.on=j∨(look m e.on).testBit j=true)
 |[],s,j,h=>.inl h
 |e::l,s,j,h=>by
  unfold Ab at h
  split at h
  ·rename_i hb
   rw[K1] at h
   rcases Aa m l _ j h with h1|⟨e',h1,h2⟩
   ·rw[Nat.testBit_or,Nat.testBit_or] at h1
    simp only[Bool.or_eq_true] at h1
    rcases h1 with (h1|h1)|h1
    ·exact .inl h1
    ·rw[Nat.testBit_two_pow] at h1
     exact .inr ⟨e,qw ..,hb,.inl (by simpa using h1)⟩
    ·exact .inr ⟨e,qw ..,hb,.inr h1⟩
   ·exact .inr ⟨e',o3 _ h1,h2⟩
  ·rcases Aa m l _ j h with h1|⟨e',h1,h2⟩
   ·exact .inl h1
   ·exact .inr ⟨e',o3 _ h1,h2⟩
theorem E0 {ops:Array Oper}:∀{m:List (Nat×Nat)},(∀p∈m,∀j,p.2.testBit j=true→Bef ops j p.1)→∀k j,(look m k).testBit j=true→Bef ops j k
 |[],_,k,j,h=>by simp[look] at h
 |(i,b)::m,hm,k,j,h=>by
  unfold look at h
  split at h
  ·rename_i he
   obtain rfl:i=k:=Bb he
   exact hm _ (qw ..) j h
  ·exact E0 (fun p hp=>hm p (o3 _ hp)) k j h
def nI(ops:Array Oper)(o:Oper):List Tmp:=
 (o.op.operands.toList.filterMap fun| .tmp t=>some t|_=>none)++(match o.guard with
  |some (j,_)=>((ops[j]?).bind (·.dst)).toList
  |none=>[])
def subB(a b:Nat):Bool:=Nat.beq (a &&&b) a
theorem zU {a b j:Nat}(h:subB a b=true)(hj:a.testBit j=true):b.testBit j=true:=by
 have h:=Bb h
 rw[←h,Nat.testBit_and] at hj
 simp only[bp] at hj
 exact hj.2
def xf(c:Bool)(s i:Nat):Nat:=if c then s |||2 ^ i else s
theorem Ac {c:Bool}{s i j:Nat}(h:s.testBit j=true):(xf c s i).testBit j=true:=by
 unfold xf;split
 ·rw[Nat.testBit_or,h];rfl
 ·exact h
theorem Ad {s i:Nat}:(xf true s i).testBit i=true:=by
 unfold xf;rw[if_pos rfl,Nat.testBit_or,Nat.testBit_two_pow];simp
def EO(s:List (Tmp×Nat))(i:Nat):List Tmp→List (Tmp×Nat)
 |[]=>s
 |t::ts=>EO ((t,i)::s) i ts
theorem zM {i:Nat}:∀{ts:List Tmp} {s:List (Tmp×Nat)} {p:Tmp×Nat},p∈s→p∈EO s i ts
 |[],_,_,h=>h
 |_::ts,_,_,h=>zM (ts:=ts) (o3 _ h)
theorem EN {i:Nat}:∀{ts:List Tmp} {s:List (Tmp×Nat)} {t:Nat},t∈ts→(t,i)∈EO s i ts
 |t'::ts,s,t,h=>by
  show (t,i)∈EO ((t',i)::s) i ts
  rcases kO.1 h with rfl|h
  ·exact zM (qw ..)
  ·exact EN h
def PJ(d:Option Tmp)(b:Nat)(u pr:List (Tmp×Nat)):Bool:=match d with
 |none=>true
 |some t=>(u.all fun p=>!Nat.beq p.1 t||b.testBit p.2)&&pr.all fun p=>!Nat.beq p.1 t
def P7(d:Option Tmp)(i:Nat)(pr:List (Tmp×Nat)):List (Tmp×Nat):=match d with
 |none=>pr
 |some t=>(t,i)::pr
def fzl {α:Type}:List Nat→(List Nat→α)→α
 |[],k=>k []
 |t::ts,k=>fz t fun t=>fzl ts fun ts=>k (t::ts)
theorem PI {α:Type}:∀{l:List Nat} {k:List Nat→α},fzl l k=k l
 |[],_=>rfl
 |_::_,_=>by rw[fzl,K1,PI]
def Nm {α:Type}(u:List (Tmp×Nat))(i:Nat):List Tmp→(List (Tmp×Nat)→α)→α
 |[],k=>k u
 |t::ts,k=>Nm ((t,i)::u) i ts k
theorem Ht {α:Type}{i:Nat}:∀{ts:List Tmp} {u:List (Tmp×Nat)} {k:List (Tmp×Nat)→α},Nm u i ts k=k (EO u i ts)
 |[],_,_=>rfl
 |_::ts,_,_=>Ht (ts:=ts)
def P6 {α:Type}(d:Option Tmp)(i:Nat)(pr:List (Tmp×Nat))(k:List (Tmp×Nat)→α):α:=match d with
 |none=>k pr
 |some t=>fz t fun t=>k ((t,i)::pr)
theorem P5 {α:Type}{d:Option Tmp}{i:Nat}{pr:List (Tmp×Nat)}{k:List (Tmp×Nat)→α}:P6 d i pr k=k (P7 d i pr):=by
 cases d with
 |none=>rfl
 |some t=>rw[P6,K1];rfl
def ordG(tb:TypeId→Option TyE)(L:List FuncId)(ops:Array Oper):List Oper→Nat→List (Nat×Nat)→Nat→Nat→Nat→List (Tmp×Nat)→List (Tmp×Nat)→Bool
 |[],_,_,_,_,_,_,_=>true
 |o::os,i,m,lo,ld,vs,u,pr=>
  fz (Ab m o.after.toList 0) fun b=>fzl (nI ops o) fun ts=>
  o.after.toList.all (fun e=>!Region.binds .any e||Nat.blt e.on i)&&
  (gZ tb L o.op||subB lo b)&&
  (!oZ o.op||subB vs b)&&
  (!wK tb o.op||subB ld b)&&
  PJ o.dst b u pr&&
  ts.all (fun t=>pr.all fun p=>!Nat.beq p.1 t||b.testBit p.2)&&
  fz (xf (!gZ tb L o.op) lo i) fun lo=>fz (xf (oZ o.op) ld i) fun ld=>fz (xf (wK tb o.op) vs i) fun vs=>fz (i+1) fun i'=>
  Nm u i ts fun u=>P6 o.dst i pr fun pr=>ordG tb L ops os i' ((i,b)::m) lo ld vs u pr
def yI(tb:TypeId→Option TyE)(L:List FuncId)(ops:Array Oper):Bool:=ordG tb L ops ops.toList 0 [] 0 0 0 [] []
structure OrdT(tb:TypeId→Option TyE)(L:List FuncId)(ops:Array Oper):Prop where
 low:∀(i:Nat) (o:Oper) (e:Edge),ops[i]? =some o→e∈o.after→Region.binds .any e=true→e.on<i
 dst:∀(i j:Nat) (o o':Oper) (t:Tmp),ops[i]? =some o→ops[j]? =some o'→o.dst=some t→o'.dst=some t→i=j
 data:∀(i j:Nat) (o o':Oper) (t:Tmp),ops[i]? =some o→ops[j]? =some o'→i≠j→t∈nI ops o→o'.dst=some t→(j<i∧Bef ops j i)∨(i<j∧Bef ops i j)
 loud:∀(i j:Nat) (o o':Oper),ops[i]? =some o→ops[j]? =some o'→i<j→gZ tb L o.op=false→gZ tb L o'.op=false→Bef ops i j
 vars:∀(i j:Nat) (o o':Oper),ops[i]? =some o→ops[j]? =some o'→i≠j→oZ o.op=true→wK tb o'.op=true→(j<i∧Bef ops j i)∨(i<j∧Bef ops i j)
structure OrdP(tb:TypeId→Option TyE)(L:List FuncId)(ops:Array Oper)(j i:Nat)(o' o:Oper):Prop where
 dst:∀t,o'.dst=some t→o.dst≠some t
 fwd:∀t,t∈nI ops o→o'.dst=some t→Bef ops j i
 bwd:∀t,t∈nI ops o'→o.dst=some t→Bef ops j i
 loud:gZ tb L o.op=false→gZ tb L o'.op=false→Bef ops j i
 v1:oZ o.op=true→wK tb o'.op=true→Bef ops j i
 v2:wK tb o.op=true→oZ o'.op=true→Bef ops j i
structure OrdI(tb:TypeId→Option TyE)(L:List FuncId)(ops:Array Oper)(i:Nat)(m:List (Nat×Nat))(lo ld vs:Nat)(u pr:List (Tmp×Nat)):Prop where
 m:∀p∈m,∀j,p.2.testBit j=true→Bef ops j p.1
 lo:∀j o,j<i→ops[j]? =some o→gZ tb L o.op=false→lo.testBit j=true
 ld:∀j o,j<i→ops[j]? =some o→oZ o.op=true→ld.testBit j=true
 vs:∀j o,j<i→ops[j]? =some o→wK tb o.op=true→vs.testBit j=true
 u:∀j o t,j<i→ops[j]? =some o→t∈nI ops o→(t,j)∈u
 pr:∀j o t,j<i→ops[j]? =some o→o.dst=some t→(t,j)∈pr
theorem ES {tb:TypeId→Option TyE}{L:List FuncId}{ops:Array Oper}:∀(os:List Oper) (i:Nat) (m:List (Nat×Nat)) (lo ld vs:Nat) (u pr:List (Tmp×Nat)),ops.toList.drop i=os→OrdI tb L ops i m lo ld vs u pr→ordG tb L ops os i m lo ld vs u pr=true→
  ∀k o,i≤k→ops[k]? =some o→(∀e∈o.after,Region.binds .any e=true→e.on<k)∧∀j o',j<k→ops[j]? =some o'→OrdP tb L ops j k o' o
 |[],i,m,lo,ld,vs,u,pr,hd,_,_,k,o,hk,hok=>by
  have:ops.toList.length≤i:=List.drop_eq_nil_iff.1 hd
  have h2:k<ops.size:=(oR.1 hok).1
  simp at this
  omega
 |o::os,i,m,lo,ld,vs,u,pr,hd,hI,h,k,ok,hk,hok=>by
  have ho:ops[i]? =some o:=by
   have:(ops.toList.drop i)[0]? =some o:=by rw[hd];rfl
   rw[oQ] at this
   simpa using this
  have JN:ops.toList.drop (i+1)=os:=by
   rw[←qv,hd];rfl
  unfold ordG at h
  simp only[K1,PI,Ht,P5,bp] at h
  obtain⟨⟨⟨⟨⟨⟨h1,h2⟩,h3⟩,h4⟩,h5⟩,h6⟩,h7⟩:=h
  have hb:∀j,(Ab m o.after.toList 0).testBit j=true→Bef ops j i:=by
   intro j hj
   rcases Aa m _ _ _ hj with h|⟨e,he,hbi,h⟩
   ·simp at h
   ·rcases h with rfl|h
    ·exact .edge _ o e ho (by simpa using he) hbi
    ·exact .trans j _ o e ho (by simpa using he) hbi (E0 hI.m _ _ h)
  rcases hE i k with hik|hik
  ·refine ES os (i+1) _ _ _ _ _ _ JN ?_ h7 k ok hik hok
   have split:∀{j:Nat} {oj:Oper} {Q:Nat→Oper→Prop},j<i+1→ops[j]? =some oj→(j<i→ops[j]? =some oj→Q j oj)→Q i o→Q j oj:=by
    intro j oj Q hj qC hold Bt
    rcases hE j i with h|h
    ·exact hold h qC
    ·obtain rfl:j=i:=by omega
     obtain rfl:o=oj:=by rw[ho] at qC;injection qC
     exact Bt
   refine⟨fun p hp=>?_,fun j oj hj qC=>?_,fun j oj hj qC=>?_,fun j oj hj qC=>?_,fun j oj t hj qC=>?_,fun j oj t hj qC=>?_⟩
   ·rcases kO.1 hp with rfl|hp
    ·exact hb
    ·exact hI.m p hp
   ·refine split (Q:=fun j oj=>gZ tb L oj.op=false→(xf (!gZ tb L o.op) lo i).testBit j=true) hj qC (fun hj qC hq=>Ac (hI.lo j oj hj qC hq)) fun hq=>?_
    rw[hq];exact Ad
   ·refine split (Q:=fun j oj=>oZ oj.op=true→(xf (oZ o.op) ld i).testBit j=true) hj qC (fun hj qC hq=>Ac (hI.ld j oj hj qC hq)) fun hq=>?_
    rw[hq];exact Ad
   ·refine split (Q:=fun j oj=>wK tb oj.op=true→(xf (wK tb o.op) vs i).testBit j=true) hj qC (fun hj qC hq=>Ac (hI.vs j oj hj qC hq)) fun hq=>?_
    rw[hq];exact Ad
   ·exact split (Q:=fun j oj=>t∈nI ops oj→(t,j)∈EO u i (nI ops o)) hj qC (fun hj qC hq=>zM (hI.u j oj t hj qC hq)) fun hq=>EN hq
   ·refine split (Q:=fun j oj=>oj.dst=some t→(t,j)∈P7 o.dst i pr) hj qC (fun hj qC hq=>?_) fun hq=>?_
    ·have:=hI.pr j oj t hj qC hq
     unfold P7
     split
     ·exact this
     ·exact o3 _ this
    ·rw[hq];exact qw ..
  ·obtain rfl:i=k:=by omega
   obtain rfl:o=ok:=by rw[ho] at hok;injection hok
   have fresh:∀t,o.dst=some t→(∀j,(t,j)∈u→Bef ops j i)∧∀p∈pr,p.1≠t:=by
    intro t ht
    rw[ht] at h5
    simp only[PJ,bp,v3,dc] at h5
    refine⟨fun j hj=>?_,fun p hp e=>?_⟩
    ·have:=h5.1 _ hj
     simp only[Nat.beq_refl,cj,Bool.false_or] at this
     exact hb j this
    have:=h5.2 p hp
    rw[e,Nat.beq_refl] at this
    cases this
   refine⟨fun e he hbe=>?_,fun j o' hj qC=>⟨fun t ht JB=>?_,fun t ht JB=>?_,fun t ht JB=>?_,fun hq hq'=>?_,fun hl hv=>?_,fun hv hl=>?_⟩⟩
   ·have:=dc.1 h1 e (by simpa using he)
    rw[hbe] at this
    simpa[Nat.blt_eq] using this
   ·exact (fresh t JB).2 _ (hI.pr j o' t hj qC ht) rfl
   ·have:=dc.1 (dc.1 h6 t ht) _ (hI.pr j o' t hj qC JB)
    simp only[Nat.beq_refl,cj,Bool.false_or] at this
    exact hb j this
   ·exact (fresh t JB).1 j (hI.u j o' t hj qC ht)
   ·rw[hq] at h2
    exact hb j (zU (by simpa using h2) (hI.lo j o' hj qC hq'))
   ·rw[hl] at h3
    exact hb j (zU (by simpa using h3) (hI.vs j o' hj qC hv))
   ·rw[hv] at h4
    exact hb j (zU (by simpa using h4) (hI.ld j o' hj qC hl))
theorem Cs {tb:TypeId→Option TyE}{L:List FuncId}{ops:Array Oper}(h:yI tb L ops=true):OrdT tb L ops:=by
 have key:=ES (tb:=tb) (L:=L) (ops:=ops) ops.toList 0 [] 0 0 0 [] [] rfl
  ⟨fun p hp=>(by cases hp),fun j o hj=>absurd hj (rG _),fun j o hj=>absurd hj (rG _),fun j o hj=>absurd hj (rG _),fun j o t hj=>absurd hj (rG _),fun j o t hj=>absurd hj (rG _)⟩ h
 refine⟨fun i o e hi he hbe=>(key i o (cX _) hi).1 e he hbe,fun i j o o' t hi hj ht JB=>?_,fun i j o o' t hi hj gt ht JB=>?_,fun i j o o' hi hj b8 hq hq'=>?_,fun i j o o' hi hj gt hq hv=>?_⟩
 ·rcases Nat.lt_trichotomy i j with h1|h1|h1
  ·exact absurd JB (((key j o' (cX _) hj).2 i o h1 hi).dst t ht)
  ·exact h1
  ·exact absurd ht (((key i o (cX _) hi).2 j o' h1 hj).dst t JB)
 ·rcases hE i j with h1|h1
  ·exact .inr ⟨h1,((key j o' (cX _) hj).2 i o h1 hi).bwd t ht JB⟩
  ·exact .inl ⟨by omega,((key i o (cX _) hi).2 j o' (by omega) hj).fwd t ht JB⟩
 ·exact ((key j o' (cX _) hj).2 i o b8 hi).loud hq' hq
 ·rcases hE i j with h1|h1
  ·exact .inr ⟨h1,((key j o' (cX _) hj).2 i o h1 hi).v2 hv hq⟩
  ·exact .inl ⟨by omega,((key i o (cX _) hi).2 j o' (by omega) hj).v1 hq hv⟩
section
variable {P:Program} {tb:TypeId→Option TyE} {L:List FuncId}
structure Run(P:Program)(tb:TypeId→Option TyE)(L:List FuncId)(ops:Array Oper)(n:Nat)(dd:Nat→D)(hh:Nat→Hp)(ac:Nat→Bool)(rQ:Nat→List (Nat×D)):Prop where
 ts:∀(i:Nat) (o:Oper),i<n→ops[i]? =some o→rQ (i+1)=z5 o.dst (dd i) (rQ i)
 on:∀(i:Nat) (o:Oper),i<n→ops[i]? =some o→ac i=true→Gd ops o (rQ i) true∧m3 P tb (.any L) o (evD (rQ i)) (hh i) (dd i) (hh (i+1))
 off:∀(i:Nat) (o:Oper),i<n→ops[i]? =some o→ac i=false→Gd ops o (rQ i) false∧Offs o (evD (rQ i)) (dd i)∧hh (i+1)=hh i
theorem Je {ops:Array Oper}{K:List (Nat×D)→Hp→Prop}:∀(rest:List Oper) (i:Nat) (dd:Nat→D) (hh:Nat→Hp) (ac:Nat→Bool) (rQ:Nat→List (Nat×D)),Run P tb L ops i dd hh ac rQ→ops.toList.drop i=rest→ci P tb (.any L) ops K rest (rQ i) (hh i)→
  ∃dd' O8 ac' FE,Run P tb L ops (i+rest.length) dd' O8 ac' FE∧K (FE (i+rest.length)) (O8 (i+rest.length))∧FE 0=rQ 0∧O8 0=hh 0
 |[],i,dd,hh,ac,rQ,hr,_,h=>by
  cases h with
  |nil h=>exact⟨dd,hh,ac,rQ,hr,h,rfl,rfl⟩
  |wk hmd=>cases hmd
 |o::rest,i,dd,hh,ac,rQ,hr,hd,h=>by
  have ho:ops[i]? =some o:=by
   have:(ops.toList.drop i)[0]? =some o:=by rw[hd];rfl
   rw[oQ] at this
   simpa using this
  have JN:ops.toList.drop (i+1)=rest:=by
   rw[←qv,hd];rfl
  have ext:∀(d:D) (hp':Hp) (b:Bool),((b=true→Gd ops o (rQ i) true∧m3 P tb (.any L) o (evD (rQ i)) (hh i) d hp')∧(b=false→Gd ops o (rQ i) false∧Offs o (evD (rQ i)) d∧hp'=hh i))→ci P tb (.any L) ops K rest (z5 o.dst d (rQ i)) hp'→
    ∃dd' O8 ac' FE,Run P tb L ops (i+(o::rest).length) dd' O8 ac' FE∧K (FE (i+(o::rest).length)) (O8 (i+(o::rest).length))∧FE 0=rQ 0∧O8 0=hh 0:=by
   intro d hp' b hb OH
   have cu:Run P tb L ops (i+1) (fun j=>if j=i then d else dd j) (fun j=>if j=i+1 then hp' else hh j) (fun j=>if j=i then b else ac j) (fun j=>if j=i+1 then z5 o.dst d (rQ i) else rQ j):=by
    refine⟨fun j oj hj qC=>?_,fun j oj hj qC I0=>?_,fun j oj hj qC I0=>?_⟩
    ·by_cases BO:j=i
     ·subst BO
      obtain rfl:o=oj:=by rw[ho] at qC;injection qC
      simp
     ·have h5:=hr.ts j oj (by omega) qC
      have h6:j+1≠i+1:=by omega
      have h7:j≠i+1:=by omega
      simp only[h6,h7,BO,if_false]
      exact h5
    ·by_cases BO:j=i
     ·subst BO
      obtain rfl:o=oj:=by rw[ho] at qC;injection qC
      have:b=true:=by simpa using I0
      simpa using hb.1 this
     ·have h5:ac j=true:=by simpa[BO] using I0
      have h6:j+1≠i+1:=by omega
      have h7:j≠i+1:=by omega
      simp only[h6,h7,BO,if_false]
      exact hr.on j oj (by omega) qC h5
    ·by_cases BO:j=i
     ·subst BO
      obtain rfl:o=oj:=by rw[ho] at qC;injection qC
      have:b=false:=by simpa using I0
      simpa using hb.2 this
     ·have h5:ac j=false:=by simpa[BO] using I0
      have h6:j+1≠i+1:=by omega
      have h7:j≠i+1:=by omega
      simp only[h6,h7,BO,if_false]
      exact hr.off j oj (by omega) qC h5
   obtain⟨dd',O8,ac',FE,h1,h2,h3,h4⟩:=Je (ops:=ops) (K:=K) rest (i+1) _ _ _ _ cu JN (by rw[if_pos rfl,if_pos rfl];exact OH)
   refine⟨dd',O8,ac',FE,?_,?_,?_,?_⟩
   ·rw[rD,show i+(rest.length+1)=i+1+rest.length by omega];exact h1
   ·rw[rD,show i+(rest.length+1)=i+1+rest.length by omega];exact h2
   ·rw[h3];exact if_neg (by omega)
   ·rw[h4];exact if_neg (by omega)
  cases h with
  |on d hp' hg h2 h1=>exact ext d hp' true ⟨fun _=>⟨hg,h2⟩,fun h=>by cases h⟩ h1
  |off d hg hs h1=>exact ext d (hh i) false ⟨fun h=>(by cases h),fun _=>⟨hg,hs,rfl⟩⟩ h1
  |sq hmd=>cases hmd
  |wk hmd=>cases hmd
theorem Run.quiet_step {ops:Array Oper}{n:Nat}{dd:Nat→D}{hh:Nat→Hp}{ac:Nat→Bool}{rQ:Nat→List (Nat×D)}(hr:Run P tb L ops n dd hh ac rQ){j:Nat}{o:Oper}(hj:j<n)(ho:ops[j]? =some o)(hq:gZ tb L o.op=true):hh (j+1)=hh j:=by
 cases I0:ac j with
 |true=>exact ((hr.on j o hj ho I0).2.quiet hq).1
 |false=>exact (hr.off j o hj ho I0).2.2
theorem Run.fr_step {ops:Array Oper}{n:Nat}{dd:Nat→D}{hh:Nat→Hp}{ac:Nat→Bool}{rQ:Nat→List (Nat×D)}(hr:Run P tb L ops n dd hh ac rQ){j:Nat}{o:Oper}(hj:j<n)(ho:ops[j]? =some o)(hq:wK tb o.op=false):Fr (hh j) (hh (j+1)):=by
 cases I0:ac j with
 |true=>exact (hr.on j o hj ho I0).2.fr hq
 |false=>rw[(hr.off j o hj ho I0).2.2];exact Fr.refl _
theorem Fr.trans {a b c:Hp}(h:Fr a b)(h':Fr b c):Fr a c:=⟨dP h.1 h'.1,fun j hj=>(h'.2 j (eD hj h.1)).trans (h.2 j hj)⟩
theorem Run.frs {ops:Array Oper}(hh:Nat→Hp){a b:Nat}(M4:a≤b)(hb:b≤ops.size)(h:∀j o,a≤j→j<b→ops[j]? =some o→Fr (hh j) (hh (j+1))):Fr (hh a) (hh b):=by
 induction b with
 |zero=>
      obtain rfl:a=0:=by omega
      exact Fr.refl _
 |succ b ih=>
  rcases hE a (b+1) with h1|h1
  ·have b8:b<ops.size:=by omega
   exact (ih (by omega) (by omega) fun j o h2 h3 h4=>h j o h2 (by omega) h4).trans (h b ops[b] (by omega) (by omega) (ss b8))
  ·obtain rfl:a=b+1:=by omega
   exact Fr.refl _
theorem Run.same {α:Type}{ops:Array Oper}(f:Nat→α){a b:Nat}(M4:a≤b)(hb:b≤ops.size)(h:∀j o,a≤j→j<b→ops[j]? =some o→f (j+1)=f j):f b=f a:=by
 induction b with
 |zero=>
      obtain rfl:a=0:=by omega
      rfl
 |succ b ih=>
  rcases hE a (b+1) with h1|h1
  ·have b8:b<ops.size:=by omega
   rw[h b ops[b] (by omega) (by omega) (ss b8)]
   exact ih (by omega) (by omega) fun j o h2 h3 h4=>h j o h2 (by omega) h4
  ·obtain rfl:a=b+1:=by omega
   rfl
theorem Run.lookup {ops:Array Oper}{n:Nat}{dd:Nat→D}{hh:Nat→Hp}{ac:Nat→Bool}{rQ:Nat→List (Nat×D)}(hr:Run P tb L ops n dd hh ac rQ)(hn:n≤ops.size):∀{i:Nat} {t:Nat} {d:D},i≤n→(rQ i).lookup t=some d→
  (∃j o,j<i∧ops[j]? =some o∧o.dst=some t∧d=dd j)∨((∀j o,j<i→ops[j]? =some o→o.dst≠some t)∧(rQ 0).lookup t=some d)
 |0,t,d,_,h=>.inr ⟨fun j _ hj=>by omega,h⟩
 |i+1,t,d,hi,h=>by
  have b8:i<ops.size:=by omega
  have ho:ops[i]? =some ops[i]:=ss b8
  rw[hr.ts i _ (by omega) ho] at h
  by_cases hd:(ops[i]).dst=some t
  ·rw[hd] at h
   rw[show (z5 (some t) (dd i) (rQ i)).lookup t=some (dd i) from ab] at h
   injection h with h
   exact .inl ⟨i,_,e9 _,ho,hd,h.symm⟩
  ·have h':(rQ i).lookup t=some d:=by
    rw[←h]
    cases hdd:(ops[i]).dst with
    |none=>rfl
    |some s=>exact (au (fun e=>hd (by rw[hdd,e]))).symm
   rcases hr.lookup hn (show i≤n by omega) h' with⟨j,o,h1,h2,h3,h4⟩|⟨h1,h2⟩
   ·exact .inl ⟨j,o,by omega,h2,h3,h4⟩
   ·refine .inr ⟨fun j o hj qC=>?_,h2⟩
    rcases hE j i with h3|h3
    ·exact h1 j o h3 qC
    ·obtain rfl:j=i:=by omega
     obtain rfl:ops[j]=o:=by rw[ho] at qC;injection qC
     exact hd
def LookL(ops:Array Oper)(dd:Nat→D)(tm0:List (Nat×D))(listed:Array Bool)(t:Nat)(d:D):Prop:=
 (∃i o,ops[i]? =some o∧listed.getD i false=true∧o.dst=some t∧d=dd i)∨((∀i o,ops[i]? =some o→listed.getD i false=true→o.dst≠some t)∧tm0.lookup t=some d)
structure InvA(tb:TypeId→Option TyE)(L:List FuncId)(x:Cx)(ops:Array Oper)(dd:Nat→D)(hh:Nat→Hp)(tm0:List (Nat×D))(listed:Array Bool)(a:Act)(w:World)(m:Nat)(g:Gh):Prop where
 size:listed.size=ops.size
 closed:∀(i:Nat) (o:Oper) (e:Edge),ops[i]? =some o→listed.getD i false=true→e∈o.after→Region.binds .any e=true→listed.getD e.on false=true
 le:m≤ops.size
 loud:∀(j:Nat) (o:Oper),ops[j]? =some o→gZ tb L o.op=false→(listed.getD j false=true↔j<m)
 hr:HR x.B (hh m) g w
 look:∀t d,LookL ops dd tm0 listed t d→aR (hh m) g w d (a.tmps.getD t undef)
 tsz:a.tmps.size=x.N
 df:a.defers=[]
 bl:Below x.B x.w0 w
 fr:∀p:Addr,p.block<x.B→x.F0 p→g.F p
 mo:dm x.hp0 x.g0 x.w0 (hh m) g w
theorem Bef.listed {ops:Array Oper}{listed:Array Bool}(tG:∀(i:Nat) (o:Oper) (e:Edge),ops[i]? =some o→listed.getD i false=true→e∈o.after→Region.binds .any e=true→listed.getD e.on false=true){j i:Nat}(h:Bef ops j i):listed.getD i false=true→listed.getD j false=true:=by
 induction h with
 |edge i o e hi he hb=>exact fun hl=>tG i o e hi hl he hb
 |trans j i o e hi he hb _ ih=>exact fun hl=>ih (tG i o e hi hl he hb)
theorem Bef.ready {ops:Array Oper}{listed:Array Bool}(tG:∀(i:Nat) (o:Oper) (e:Edge),ops[i]? =some o→listed.getD i false=true→e∈o.after→Region.binds .any e=true→listed.getD e.on false=true){j i:Nat}(h:Bef ops j i)(lz:∀o,ops[i]? =some o→∀e∈o.after,Region.binds .any e=true→listed.getD e.on false=true):listed.getD j false=true:=by
 cases h with
 |edge _ o e hi he hb=>exact lz o hi e he hb
 |trans _ _ o e hi he hb h=>exact h.listed tG (lz o hi e he hb)
theorem Gd.wanted' {ops:Array Oper}{o:Oper}{tm:List (Nat×D)}{hp:Hp}{w:World}{a:Act}{b:Bool}{g:Gh}(h:Gd ops o tm b)(hr:∀t d,t∈nI ops o→tm.lookup t=some d→aR hp g w d (a.tmps.getD t undef)):Region.wanted o (yielded ops a.tmps)=b:=by
 unfold Gd at h
 unfold Region.wanted
 split at h
 ·rename_i hg
  rw[hg,h]
 ·rename_i j want hg
  rw[hg]
  dsimp only
  rcases h with⟨t,c,h1,h2,h3⟩|⟨t,h1,h2,rfl⟩
  rotate_left
  ·have hm:t∈nI ops o:=by
    unfold nI
    rw[hg]
    dsimp only
    rw[h1]
    exact uL.2 (.inr (by simp))
   have hv:=hr t _ hm h2
   have hy:yielded ops a.tmps j=none:=by
    unfold yielded
    rw[h1]
    simp only[Option.bind_some]
    cases ht:a.tmps[t]? with
    |none=>rfl
    |some u=>
     have hu:a.tmps.getD t undef=u:=by simp[iO,ht]
     rw[hu] at hv
     cases hv with
     |tu _ cs hl hr=>rfl
   rw[hy];rfl
  have hm:t∈nI ops o:=by
   unfold nI
   rw[hg]
   dsimp only
   rw[h1]
   exact uL.2 (.inr (by simp))
  have hv:=(hr t _ hm h2).lit
  have hy:yielded ops a.tmps j=some c:=by
   unfold yielded
   rw[h1]
   simp only[Option.bind_some]
   cases ht:a.tmps[t]? with
   |none=>simp[iO,ht,undef] at hv
   |some u=>
    have:u=.bool c:=by simpa[iO,ht] using hv
    rw[this]
  rw[hy,←h3]
  rfl
theorem CD {listed:Array Bool}{i:Nat}(hi:i<listed.size)(j:Nat):(listed.setIfInBounds i true).getD j false=true↔j=i∨listed.getD j false=true:=by
 by_cases BO:j=i
 ·subst BO
  simp[hi]
 ·simp[iO,Array.getElem?_setIfInBounds_ne (mM BO),BO]
def unl(listed:Array Bool)(n:Nat):Nat:=((List.range n).filter fun j=>!listed.getD j false).length
theorem FC {listed:Array Bool}{n i:Nat}(hi:i<n)(hs:i<listed.size)(hf:listed.getD i false=false):unl (listed.setIfInBounds i true) n<unl listed n:=by
 unfold unl
 have hsub:∀l:List Nat,((l.filter fun j=>!(listed.setIfInBounds i true).getD j false).length≤(l.filter fun j=>!listed.getD j false).length)∧(i∈l→(l.filter fun j=>!(listed.setIfInBounds i true).getD j false).length<(l.filter fun j=>!listed.getD j false).length):=by
  intro l
  induction l with
  |nil=>exact⟨aB _,fun h=>by cases h⟩
  |cons k l ih=>
   by_cases hki:k=i
   ·subst hki
    have e1:(listed.setIfInBounds k true).getD k false=true:=(CD hs k).2 (.inl rfl)
    simp only[List.filter_cons,e1,hf,cj,lm,aS,rD]
    exact⟨by have:=ih.1;simp at this ⊢;omega,fun _=>by have:=ih.1;simp at this ⊢;omega⟩
   ·have e1:(listed.setIfInBounds i true).getD k false=listed.getD k false:=by
     simp[iO,Array.getElem?_setIfInBounds_ne (mM hki)]
    simp only[List.filter_cons,e1]
    cases listed.getD k false with
    |true=>exact⟨ih.1,fun h=>ih.2 (by rcases kO.1 h with h|h;exact absurd h.symm hki;exact h)⟩
    |false=>
     simp only[lm,aS,rD]
     exact⟨by have:=ih.1;omega,fun h=>by have:=ih.2 (by rcases kO.1 h with h|h;exact absurd h.symm hki;exact h);omega⟩
 exact (hsub (List.range n)).2 (by simpa using hi)
theorem LE {op:Op}(h:wK tb op=true):varB tb op=true:=by cases op <;> first|rfl|exact h|cases h
theorem HO {op:Op}(hv:varB tb op=true):gZ tb L op=false:=by
 have h1:pf op=false:=by
  cases op <;> first|rfl|cases hv|skip
  rename_i c
  obtain⟨callee,aS,ts⟩:=c
  cases callee with
  |builtin b=>cases b <;> first|rfl|cases hv
  |_=>first|rfl|cases hv
 have h2:oM tb L op=false:=by
  cases op <;> first|rfl|skip
  rename_i c
  show ((match c.callee with| .value (.func f)=>L.elem f|_=>false)&&!hvB tb c)=false
  have uV:(hvB tb c||cpB tb c)=true:=hv
  obtain⟨callee,aS,ts⟩:=c
  cases callee with
  |value x=>
   have OA:hvB tb ⟨.value x,aS,ts⟩=true:=by simpa[cpB] using uV
   rw[OA];simp
  |_=>rfl
 unfold gZ
 rw[h1,h2];rfl
theorem Ha {x:Cx}{ops:Array Oper}{dd:Nat→D}{hh:Nat→Hp}{ac:Nat→Bool}{rQ:Nat→List (Nat×D)}{Q:Exit→Act→World→Prop}(hN:oJ x.N ops=true)(rk:OrdT tb L ops)(cu:Run P tb L ops ops.size dd hh ac rQ)
  (hQ:∀a w,RS x (rQ ops.size) (hh ops.size) a w→Q .normal a w):∀(fuel:Nat) (listed:Array Bool) (a:Act) (w:World) (m:Nat) (g:Gh),InvA tb L x ops dd hh (rQ 0) listed a w m g→unl listed ops.size≤fuel→wpAny P .any ops Q fuel listed a w:=by
 -- when all are listed
 have fin:∀(listed:Array Bool) (a:Act) (w:World) (m:Nat) (g:Gh),InvA tb L x ops dd hh (rQ 0) listed a w m g→Region.ready .any ops listed=[]→Q .normal a w:=by
  intro listed a w m g hI hready
  have lz:∀i,i<ops.size→listed.getD i false=true:=by
   intro i
   induction i using Nat.strongRecOn with
   |_ i ih=>
    intro hi
    cases hl:listed.getD i false with
    |true=>rfl
    |false=>
     exfalso
     have O3:i∈Region.ready .any ops listed:=by
      refine mem_ready.2 ⟨?_,ops[i],ss hi,fun e he hb=>?_⟩
      ·have hsz:=hI.size
       have b8:i<listed.size:=by omega
       simpa[iO,b8] using hl
      ·have:=rk.low i _ e (ss hi) he hb
       exact ih _ this (by omega)
     rw[hready] at O3
     cases O3
  have hhm:hh ops.size=hh m:=Run.same (ops:=ops) hh hI.le (aB _) fun j o h1 h2 h3=>by
   cases hq:gZ tb L o.op with
   |true=>exact cu.quiet_step h2 h3 hq
   |false=>
    have:=(hI.loud j o h3 hq).1 (lz j h2)
    omega
  refine hQ a w ⟨g,?_,fun t d h=>?_,hI.tsz,hI.df,hI.bl,hI.fr,?_⟩
  rotate_right
  ·rw[hhm];exact hI.mo
  ·rw[hhm];exact hI.hr
  ·rw[hhm]
   refine hI.look t d ?_
   rcases cu.lookup (aB _) (aB _) h with⟨j,o,h1,h2,h3,h4⟩|⟨h1,h2⟩
   ·exact .inl ⟨j,o,h2,lz j h1,h3,h4⟩
   ·exact .inr ⟨fun j o hj _=>h1 j o (by
     rcases hE j ops.size with h|h
     ·exact h
     ·rw[Array.getElem?_eq_none h] at hj;cases hj) hj,h2⟩
 intro fuel
 induction fuel with
 |zero=>
  intro listed a w m g hI hu
  have hnone:Region.ready .any ops listed=[]:=by
   cases hr:Region.ready .any ops listed with
   |nil=>rfl
   |cons i l=>
    exfalso
    have hi:i∈Region.ready .any ops listed:=by rw[hr];exact qw ..
    obtain⟨h1,o,ho,_⟩:=mem_ready.1 hi
    have b8:i<ops.size:=(oR.1 ho).1
    have hs:i<listed.size:=by rw[hI.size];exact b8
    have hf:listed.getD i false=false:=by simpa[iO,hs] using h1
    have:=FC b8 hs hf
    omega
  exact⟨hnone,fin listed a w m g hI hnone⟩
 |succ fuel ih=>
  intro listed a w m g hI hu
  refine⟨fun h=>fin listed a w m g hI h,fun i hi=>?_⟩
  obtain⟨h1,o,ho,lz⟩:=mem_ready.1 hi
  have b8:i<ops.size:=(oR.1 ho).1
  have hs:i<listed.size:=by rw[hI.size];exact b8
  have hf:listed.getD i false=false:=by simpa[iO,hs] using h1
  have zF:¬listed.getD i false=true:=by rw[hf];simp
  have hbef:∀j,Bef ops j i→listed.getD j false=true:=fun j h=>h.ready hI.closed fun o' DY=>by
   obtain rfl:o=o':=by rw[ho] at DY;injection DY
   exact lz
  have hnot:∀j,Bef ops i j→listed.getD j false≠true:=fun j h hj=>zF (h.listed hI.closed hj)
  have Br:=CD hs
  have uE:unl (listed.setIfInBounds i true) ops.size≤fuel:=by have:=FC b8 hs hf;omega
  have hdn:∀t,o.dst=some t→t<x.N:=fun t ht=>t7 hN ho ht
  have Pd:∀(j:Nat) (o':Oper) (e:Edge),ops[j]? =some o'→(listed.setIfInBounds i true).getD j false=true→e∈o'.after→Region.binds .any e=true→(listed.setIfInBounds i true).getD e.on false=true:=by
   intro j o' e hj hl he hb
   refine (Br _).2 (.inr ?_)
   rcases (Br j).1 hl with rfl|hl
   ·obtain rfl:o=o':=by rw[ho] at hj;injection hj
    exact lz e he hb
   ·exact hI.closed j o' e hj hl he hb
  -- what the operation reads
  have hread:∀t d,t∈nI ops o→(rQ i).lookup t=some d→LookL ops dd (rQ 0) listed t d:=by
   intro t d ht hl
   rcases cu.lookup (aB _) (lj b8) hl with⟨j,oj,h2,h3,h4,h5⟩|⟨h2,h3⟩
   ·refine .inl ⟨j,oj,h3,?_,h4,h5⟩
    rcases rk.data i j o oj t ho h3 (by omega) ht h4 with⟨_,h⟩|⟨h,_⟩
    ·exact hbef j h
    ·omega
   ·refine .inr ⟨fun j oj hj hlj hd=>?_,h3⟩
    by_cases BO:j=i
    ·subst BO;exact zF hlj
    ·rcases rk.data i j o oj t ho hj (mM BO) ht hd with⟨h,_⟩|⟨_,h⟩
     ·exact h2 j oj h hj hd
     ·exact hnot j h hlj
  have nX:∀t d,t∈nI ops o→(rQ i).lookup t=some d→aR (hh m) g w d (a.tmps.getD t undef):=fun t d ht hl=>hI.look t d (hread t d ht hl)
  have OO:∀y∈o.op.operands,aR (hh m) g w (evD (rQ i) y) (a.eval y):=by
   intro y hy
   cases y with
   |tmp t=>
    show aR (hh m) g w (((rQ i).lookup t).getD .top) _
    cases hl:(rQ i).lookup t with
    |none=>exact .top _
    |some d=>
     refine nX t d ?_ hl
     unfold nI
     refine uL.2 (.inl (List.mem_filterMap.2 ⟨.tmp t,by simpa using hy,rfl⟩))
   |const v=>exact C8 g v
   |global g'=>exact .top _
   |func f=>exact .e _ _ (.lit _ rfl)
  -- the invariant behind the operation
  have next:∀(a':Act) (w':World) (m':Nat) (g':Gh) (v:Value),a'=a.put o.dst v→m'≤ops.size→(∀(j:Nat) (o':Oper),ops[j]? =some o'→gZ tb L o'.op=false→((listed.setIfInBounds i true).getD j false=true↔j<m'))→
    HR x.B (hh m') g' w'→dm (hh m) g w (hh m') g' w'→aR (hh m') g' w' (dd i) v→Below x.B w w'→(∀p:Addr,p.block<x.B→g.F p→g'.F p)→wpAny P .any ops Q fuel (listed.setIfInBounds i true) a' w':=by
   intro a' w' m' g' v ha hm' hloud pB hmo hd hb hF
   have hmono:∀d u,aR (hh m) g w d u→aR (hh m') g' w' d u:=fun d u h=>h.mono hmo
   subst ha
   refine ih _ _ _ m' g' ⟨by simp[hI.size],Pd,hm',hloud,pB,fun t d hl=>?_,by rw[Cm];exact hI.tsz,by rw[xO];exact hI.df,hI.bl.trans hb,fun p h1 h2=>hF p h1 (hI.fr p h1 h2),hI.mo.trans hmo⟩ uE
   by_cases hdt:o.dst=some t
   ·have hdd:d=dd i:=by
     rcases hl with⟨j,oj,h2,_,h4,h5⟩|⟨h2,_⟩
     ·obtain rfl:=rk.dst j i oj o t h2 ho h4 hdt
      exact h5
     ·exact absurd hdt (h2 i o ho ((Br i).2 (.inl rfl)))
    subst hdd
    rw[hdt,HD (by rw[hI.tsz];exact hdn t hdt)]
    exact hd
   ·rw[EQ hdt]
    refine hmono _ _ (hI.look t d ?_)
    rcases hl with⟨j,oj,h2,h3,h4,h5⟩|⟨h2,h3⟩
    ·refine .inl ⟨j,oj,h2,?_,h4,h5⟩
     rcases (Br j).1 h3 with rfl|h3
     ·obtain rfl:o=oj:=by rw[ho] at h2;injection h2
      exact absurd h4 hdt
     ·exact h3
    ·exact .inr ⟨fun j oj hj hlj=>h2 j oj hj ((Br j).2 (.inr hlj)),h3⟩
  -- a loud operation comes up in the order of the text
  have CN:gZ tb L o.op=false→hh i=hh m∧m≤i:=by
   intro hq
   have hmi:m≤i:=by
    rcases hE i m with h|h
    ·exact absurd ((hI.loud i o ho hq).2 h) zF
    ·exact h
   refine⟨Run.same (ops:=ops) hh hmi (lj b8) fun j oj h2 h3 h4=>?_,hmi⟩
   cases OJ:gZ tb L oj.op with
   |true=>exact cu.quiet_step (by omega) h4 OJ
   |false=>
    have:=(hI.loud j oj h4 OJ).1 (hbef j (rk.loud j i oj o h4 ho h3 OJ hq))
    omega
  have CM:gZ tb L o.op=false→∀(j:Nat) (o':Oper),ops[j]? =some o'→gZ tb L o'.op=false→((listed.setIfInBounds i true).getD j false=true↔j<i+1):=by
   intro hq j o' hj OJ
   obtain⟨_,hmi⟩:=CN hq
   rw[Br,hI.loud j o' hj OJ]
   constructor
   ·rintro (rfl|h) <;> omega
   ·intro h
    by_cases BO:j=i
    ·exact .inl BO
    ·exact .inr ((hI.loud j o' hj OJ).1 (hbef j (rk.loud j i o' o hj ho (by omega) OJ hq)))
  have AX:gZ tb L o.op=true→∀(j:Nat) (o':Oper),ops[j]? =some o'→gZ tb L o'.op=false→((listed.setIfInBounds i true).getD j false=true↔j<m):=by
   intro hq j o' hj OJ
   rw[Br,←hI.loud j o' hj OJ]
   constructor
   ·rintro (rfl|h)
    ·obtain rfl:o=o':=by rw[ho] at hj;injection hj
     rw[hq] at OJ;cases OJ
    ·exact h
   ·exact .inr
  unfold wpOp
  rw[ho]
  dsimp only
  cases I0:ac i with
  |true=>
   obtain⟨hg,hsnd⟩:=cu.on i o b8 ho I0
   rw[hg.wanted' nX,if_pos rfl]
   left
   cases hq:gZ tb L o.op with
   |false=>
    obtain⟨he,_⟩:=CN hq
    have hok:=hsnd.ok
    rw[he] at hok
    refine hok x.B g w a _ _ hI.hr OO fun v g' w' pB mo hd hb hF=>?_
    exact next _ w' (i+1) g' v rfl b8 (CM hq) pB mo hd hb hF
   |true=>
    have hv:oZ o.op=true→QJ o (evD (rQ i)) (hh i) (hh m):=by
     intro hld
     have noV:∀j oj,ops[j]? =some oj→(m≤j∧j<i∨i≤j∧j<m)→wK tb oj.op=false:=by
      intro j oj hj hr
      cases hv:wK tb oj.op with
      |false=>rfl
      |true=>
       exfalso
       have Eu:gZ tb L oj.op=false:=HO (LE hv)
       have gt:i≠j:=fun e=>by
        subst e
        obtain rfl:o=oj:=by rw[ho] at hj;injection hj
        rw[hq] at Eu;cases Eu
       rcases rk.vars i j o oj ho hj gt hld hv with⟨h2,h3⟩|⟨h2,h3⟩
       ·have:=(hI.loud j oj hj Eu).1 (hbef j h3)
        omega
       ·have:=hnot j h3
        have:¬j<m:=fun h=>this ((hI.loud j oj hj Eu).2 h)
        omega
     intro x hx j off hxe
     have hjm:j<(hh m).next:=by
      have h3:=(OO x hx).un
      rw[hxe] at h3
      generalize a.eval x=u at h3
      cases h3 with
      |pt _ _ hk=>exact hk
     have BO:j<(hh i).next:=hsnd.lk hld x hx j off hxe
     rcases Nat.le_total m i with hmi|hmi
     ·exact ((Run.frs (ops:=ops) hh hmi (lj b8) fun j oj h2 h3 h4=>cu.fr_step (by omega) h4 (noV j oj h4 (.inl ⟨h2,h3⟩))).2 j hjm).symm
     ·exact (Run.frs (ops:=ops) hh hmi hI.le fun j oj h2 h3 h4=>cu.fr_step (by have:=hI.le;omega) h4 (noV j oj h4 (.inr ⟨h2,h3⟩))).2 j BO
    have hok:=(hsnd.quiet hq).2 (hh m) hv
    refine hok x.B g w a _ _ hI.hr OO fun v g' w' pB mo hd hb hF=>?_
    exact next _ w' m g' v rfl hI.le (AX hq) pB mo hd hb hF
  |false=>
   obtain⟨hg,hd,he⟩:=cu.off i o b8 ho I0
   rw[hg.wanted' nX,if_neg (by simp)]
   cases hq:gZ tb L o.op with
   |false=>
    obtain⟨he2,_⟩:=CN hq
    have e3:hh (i+1)=hh m:=by rw[he,he2]
    exact next _ w (i+1) g undef rfl b8 (CM hq) (by rw[e3];exact hI.hr) (by rw[e3];exact dm.refl _ _ _) (by rw[e3];exact hd _ g w a OO) (Below.refl _ _) fun _ _ h=>h
   |true=>
    exact next _ w m g undef rfl hI.le (AX hq) hI.hr (dm.refl _ _ _) (hd _ g w a OO) (Below.refl _ _) fun _ _ h=>h
theorem AW.drawS {x:Cx}{tm:List (Nat×D)}{hp:Hp}{Q:Exit→List (Nat×D)→Hp→Prop}{id:Nat}{ops:Array Oper}(hm:P.follows .mixedOrders=true)(hN:oJ x.N ops=true)(rk:yI tb L ops=true)
  (h:∀K:List (Nat×D)→Hp→Prop,(∀tm hp,Q .normal tm hp→K tm hp)→ci P tb (.any L) ops K ops.toList tm hp):AW P x (.region id ops true) tm hp Q:=by
 intro a w hr
 refine wp_region_any hm ?_
 obtain⟨dd,hh,ac,rQ,cu,hK,h1,h2⟩:=Je (ops:=ops) ops.toList 0 (fun _=>.top) (fun _=>hp) (fun _=>false) (fun _=>tm) ⟨fun _ _ h=>absurd h (by omega),fun _ _ h=>absurd h (by omega),fun _ _ h=>absurd h (by omega)⟩ rfl (h _ fun _ _ h=>h)
 simp only[bJ,iV] at cu hK h1 h2
 obtain⟨g,G5,nX,hsz,D4,hB,hF,hM⟩:=hr
 refine Ha hN (Cs rk) cu (fun a w hr=>⟨_,_,hr,hK⟩) ops.size _ a _ 0 g ?_ ?_
 ·have zF:∀j,¬(Array.replicate ops.size false).getD j false=true:=by
   intro j
   simp[iO,Array.getElem?_replicate]
   split <;> simp
  refine⟨by simp,fun i _ _ _ hl=>absurd hl (zF i),cX _,fun j _ _ _=>⟨fun hl=>absurd hl (zF j),fun h=>absurd h (by omega)⟩,?_,fun t d hl=>?_,hsz,D4,hB.drew,hF,?_⟩
  rotate_right
  ·rw[h2];exact hM.trans (dm.keep hp g (aB _) (fun _ _=>rfl))
  ·rw[h2];exact G5.keep (aB _) (fun _ _=>rfl)
  ·rw[h2]
   rcases hl with⟨i,_,_,hl,_⟩|⟨_,hl⟩
   ·exact absurd hl (zF i)
   ·rw[h1] at hl
    exact (nX t d hl).mono (dm.keep hp g (aB _) (fun _ _=>rfl))
 ·unfold unl
  exact dP (List.length_filter_le _ _) (by simp)
theorem AW.loopW {x:Cx}{tm:List (Nat×D)}{hp:Hp}{Q:Exit→List (Nat×D)→Hp→Prop}{c:Code}{α:Type}(T:α→List (Nat×D))(H:α→Hp)(Inv:α→Prop)(μ:α→Nat)(s0:α)(hw:Wk x tm hp (T s0) (H s0))(h0:Inv s0)
  (round:∀s,Inv s→AW P x c (T s) (H s) fun ex tm' hp'=>match ex with| .normal=>∃s',Wk x tm' hp' (T s') (H s')∧Inv s'∧μ s'<μ s|ex=>Q ex tm' hp'):AW P x (.loop c) tm hp Q:=by
 refine AW.loop (fun n tm hp=>∃s,n=μ s∧tm=T s∧hp=H s∧Inv s) (n:=μ s0) hw ⟨s0,rfl,rfl,rfl,h0⟩ ?_
 rintro n tm hp ⟨s,rfl,rfl,rfl,hI⟩
 refine AW.mono (round s hI) ?_
 intro ex tm' hp' h
 cases ex with
 |normal=>
  obtain⟨s',h1,h2,h3⟩:=h
  exact⟨_,_,_,h3,h1,s',rfl,rfl,rfl,h2⟩
 |_=>exact h
end
end
section
section
variable {P:Program} {tb:TypeId→Option TyE} {x:Cx} {tm tm':List (Nat×D)} {hp hp':Hp}
theorem Wk.look(h0:x.hp0.next≤hp'.next)(hm:hp'.next≤hp.next)
  (ht:∀p∈tm',(∃d,tm.lookup p.1=some d∧(p.2=d∨p.2=d.ex))∧p.2.idsB hp'.next=true)
  (hv:∀k ds',hp'.vars.lookup k=some ds'→k<hp'.next∧∃ds,hp.vars.lookup k=some ds∧xz ds ds'∧ds'.all (D.idsC hp'.next)=true)
  (hl:∀id y,hp'.live.lookup id=some y→id<hp'.next∧hp.live.lookup id=some y):Wk x tm hp tm' hp':=by
 intro a w ⟨g,hr,nX,hsz,D4,hB,hF,hM⟩
 have d9:∀id y,hp'.live.lookup id=some y→hp.live.lookup id=some y:=fun id y h=>(hl _ _ h).2
 refine⟨g,⟨fun k ds hk=>?_,fun k k' ds ds' hk uW he=>?_,fun id n e hi=>?_,fun id Ai t t' b hi xj=>hr.tinj id Ai t t' b (d9 _ _ hi) (d9 _ _ xj),hr.base,hr.fits⟩,fun t d h=>?_,hsz,D4,hB,hF,⟨hM.size,hM.cell,hM.forb,h0,hM.μ,fun id hid n e Ml=>hM.live id hid n e (d9 id _ Ml),fun b hb hf=>⟨(hM.fr b hb hf).1,(hM.fr b hb hf).2.1,fun k ds hk=>by obtain⟨_,_,h,_⟩:=hv k ds hk;exact (hM.fr b hb hf).2.2.1 k _ h,fun id t hi=>(hM.fr b hb hf).2.2.2 id t (d9 id _ hi)⟩,hM.szs⟩⟩
 ·obtain⟨h0,sm,h1,hw,h2⟩:=hv _ _ hk
  obtain⟨_,h3,h4,cs,ty,h5,h6,h7⟩:=hr.var k sm h1
  refine⟨h0,h3,h4,cs,ty,h5,by rw[sR hw];exact h6,fun j u hu=>⟨fun h=>(h7 j u hu).1 (by rw[←sR hw];exact h),fun d hd=>?_⟩⟩
  obtain⟨d0,vy,hdd⟩:=u4 hw hd
  have dx:=(h7 j u hu).2 d0 vy
  have rj:aR hp g w d u:=dx.leC hdd
  exact iH rj (dc.1 h2 d (er hd)) rfl d9
 ·obtain⟨_,_,h1,_⟩:=hv _ _ hk
  obtain⟨_,_,h2,_⟩:=hv _ _ uW
  exact hr.inj k k' _ _ h1 h2 he
 ·obtain⟨h0,h1⟩:=hl _ _ hi
  obtain⟨_,us,h2,h3,h4⟩:=hr.tok id n e h1
  refine⟨h0,us,h2,h3,fun b hb=>⟨(h4 b hb).1,fun k ds hk=>?_⟩⟩
  obtain⟨_,_,h5,_⟩:=hv _ _ hk
  exact (h4 b hb).2 k _ h5
 ·obtain⟨⟨d0,h1,h3⟩,h2⟩:=ht _ (bQ h)
  have dx:=nX t d0 h1
  have rj:aR hp g w d (a.tmps.getD t undef):=by
   rcases h3 with h3|h3
   ·dsimp only at h3;rw[h3];exact dx
   ·dsimp only at h3;rw[h3];exact dx.exD
  exact CF rj h2 rfl d9
end
end
section
structure Kq(d:D)(hp:Hp)(d2:D)(dW:Hp):Prop where
 d:d2=d
 hp:dW=hp
theorem Kq.here(d:D)(hp:Hp):Kq d hp d hp:=⟨rfl,rfl⟩
section
variable {P:Program} {tb:TypeId→Option TyE} {dr:Bool} {md:Md}
variable {ops:Array Oper} {K:List (Nat×D)→Hp→Prop} {os:List Oper} {tm:List (Nat×D)} {hp hp':Hp} {t:Tmp} {dst:Option Tmp} {op:Op} {ty:TypeId} {pos:String} {af:Array Edge} {d:D}
theorem AVC.snd(tok:TOk P tb){o:Oper}{ev:Operand→D}(h:AVC P tb dr o.op o.type ev hp (Kq d hp')):Snd P tb dr o ev hp d hp':=by
 obtain⟨d2,dW,⟨rfl,rfl⟩,hs⟩:=AVC.sound tok h
 exact hs
theorem LJ {g:Option (Nat×Bool)}(hg:g=none)(h:m3 P tb md ⟨dst,op,ty,pos,af,g⟩ (evD tm) hp d hp')(h2:ci P tb md ops K os (z5 dst d tm) hp'):ci P tb md ops K (⟨dst,op,ty,pos,af,g⟩::os) tm hp:=by
 subst hg
 exact .on d hp' rfl h h2
theorem st(tok:TOk P tb)(hn:md.nc tb op=true)(h:AVC P tb md.dr op ty (evD tm) hp (Kq d hp'))(h2:ci P tb md ops K os ((t,d)::tm) hp'):ci P tb md ops K (⟨some t,op,ty,pos,af,none⟩::os) tm hp:=
 LJ rfl ((AVC.snd tok (o:=⟨some t,op,ty,pos,af,none⟩) h).q hn) h2
theorem st_n(tok:TOk P tb)(hn:md.nc tb op=true)(h:AVC P tb md.dr op ty (evD tm) hp (Kq d hp'))(h2:ci P tb md ops K os tm hp'):ci P tb md ops K (⟨none,op,ty,pos,af,none⟩::os) tm hp:=
 LJ rfl ((AVC.snd tok (o:=⟨none,op,ty,pos,af,none⟩) h).q hn) h2
theorem NP(tok:TOk P tb){g:Option (Nat×Bool)}{f:FuncId}{aS:List Operand}{ts:Array TypeId}{ev:Operand→D}{r:D}(Bu:ev (.func f)=.e (.lit (.func (.func f) #[] #[])))(hc:ax P f ((aS.map ev).map D.ex) r)(ka:((aS.map ev).map D.ex).all D.pure=true)(hr:r.pure=true∨∃ds,r=.tu ds):
  m3 P tb md ⟨dst,.call ⟨.value (.func f),aS.toArray,ts⟩,ty,pos,af,g⟩ ev hp r hp:=by
 have key:∀dW:Hp,qN P ⟨dst,.call ⟨.value (.func f),aS.toArray,ts⟩,ty,pos,af,g⟩ ev dW r dW:=fun dW=>
  (AVC.snd (dr:=true) tok (o:=⟨dst,.call ⟨.value (.func f),aS.toArray,ts⟩,ty,pos,af,g⟩) (ev:=ev) (hp:=dW) (d:=r) (hp':=dW) (by
   show ua P (hvB tb ⟨.value (.func f),aS.toArray,ts⟩) (ev (.func f)) (aS.toArray.toList.map ev) dW (Kq r dW)
   rw[Bu]
   refine⟨rfl,rfl,.inl ⟨ka,r,hc,?_⟩⟩
   unfold GO
   split
   ·rcases hr with hr|⟨_,hr⟩ <;> cases hr
   ·rcases hr with hr|⟨_,hr⟩ <;> cases hr
   ·exact Kq.here _ _)).ok
 exact⟨key hp,fun _=>⟨rfl,fun dW _=>key dW⟩,fun _=>Fr.refl _,fun h=>by cases h⟩
variable {j:Nat} {want c:Bool} {s:Tmp}
theorem Kt(hj:(ops[j]?).bind (·.dst)=some s)(hc:tm.lookup s=some (.e (.lit (.bool c))))(hw:(c == want)=true)(h:m3 P tb md ⟨dst,op,ty,pos,af,some (j,want)⟩ (evD tm) hp d hp')(h2:ci P tb md ops K os (z5 dst d tm) hp'):ci P tb md ops K (⟨dst,op,ty,pos,af,some (j,want)⟩::os) tm hp:=
 .on d hp' (.inl ⟨s,c,hj,hc,hw⟩) h h2
theorem Snd.q1 {o:Oper}{ev:Operand→D}{hp hp':Hp}{d:D}(h:Snd P tb true o ev hp d hp')(hn:md.nc tb o.op=true):m3 P tb md o ev hp d hp':=by
 cases md with
 |seq=>exact⟨h.ok,fun hq=>(by cases hq),h.fr,h.lk⟩
 |any L=>exact Snd.q (md:=.any L) h hn
variable {ev:Operand→D} {k:D→Hp→Prop}
theorem av_move(x:Operand):AVC P tb dr (.move x) ty ev hp k=k (ev x) hp:=bO rfl rfl
theorem Au(x:Operand):AVC P tb dr (.assign x) ty ev hp k=MI tb ty (ev x) hp k:=bO rfl rfl
theorem Le(c x y:Operand):AVC P tb dr (.pick c x y) ty ev hp k=HE (ev c) (ev x) (ev y) (BA k hp):=bO rfl rfl
theorem Qm(t:TypeId):AVC P tb dr (.alloc t) ty ev hp k=Qq tb t hp k:=bO rfl rfl
theorem av_box(t:TypeId)(x:Operand):AVC P tb dr (.box t x) ty ev hp k=boxV (ev x) hp k:=bO rfl rfl
theorem vK(t:TypeId)(ps:List (Nat×Operand)):AVC P tb dr (.build t ps.toArray) ty ev hp k=Dg tb t (ps.map fun p=>(p.1,ev p.2)) (BA k hp):=bO rfl rfl
theorem xp(t:TypeId)(n:Nat)(ps:List (Nat×Operand)):AVC P tb dr (.buildSlice t n ps.toArray) ty ev hp k=fR tb (!dr) t n (ps.map fun p=>(p.1,ev p.2)) hp k:=bO rfl rfl
theorem qL(t:TypeId)(x:Operand):AVC P tb dr (.load t x) ty ev hp k=CC tb t (ev x) hp (BA k hp):=bO rfl rfl
theorem Di(t:TypeId)(x y:Operand):AVC P tb dr (.store t x y) ty ev hp k=Ch tb t (ev x) (ev y) hp k:=bO rfl rfl
theorem vL(o:BinOp)(t t':TypeId)(x y:Operand):AVC P tb dr (.binOp o t x y t') ty ev hp k=pX P o t (ev x) (ev y) (atLit k hp):=bO rfl rfl
theorem Ld(o:UnOp)(t:TypeId)(x:Operand):AVC P tb dr (.unOp o t x) ty ev hp k=unV o (ev x) (atLit k hp):=bO rfl rfl
theorem J9(s t:TypeId)(x:Operand):AVC P tb dr (.convert s t x) ty ev hp k=Iu tb s t (ev x) (BA k hp):=bO rfl rfl
theorem conv_eq(s t:TypeId)(d:D)(kf:D→Prop):Iu tb s t d kf=(match tb s,tb t with
 |some i,some j=>match j.ty,d with
  | .int jk,.e (.lit (.int _ n))=>kf (.e (.lit (.int jk (jk.wrap n))))
  | .str,.e (.lit (.string s))=>kf (.e (.lit (.string s)))
  | .str,d=>match i.ty with
   | .slice e=>match tb e with
    |some l=>l.ty=.int .u8∧match d.asSl 1 with
     |some (_,xs)=>match wy xs with
      |some bs=>kf (.e (.lit (.string ⟨bs.toArray⟩)))
      |none=>False
     |none=>False
    |none=>False
   |_=>False
  |_,_=>False
 |_,_=>False):=bO rfl rfl
theorem Qk(t:TypeId)(x:Operand)(lo hi mx:Option Operand):AVC P tb dr (.slice t x lo hi mx) ty ev hp k=Ci tb t (ev x) (lo.map ev) (hi.map ev) (mx.map ev) (BA k hp):=bO rfl rfl
theorem zd(t:TypeId)(x:Operand)(f:Nat):AVC P tb dr (.fieldAddr t x f) ty ev hp k=pm tb t f (ev x) (BA k hp):=bO rfl rfl
theorem ub(t:TypeId)(x i:Operand):AVC P tb dr (.indexAddr t x i) ty ev hp k=pg tb t (ev x) (ev i) (BA k hp):=bO rfl rfl
theorem Ql(t:TypeId)(x i:Operand):AVC P tb dr (.index t x i) ty ev hp k=Ag tb t (ev x) (ev i) (BA k hp):=bO rfl rfl
theorem J8(x:Operand)(i:Nat):AVC P tb dr (.extract x i) ty ev hp k=Io (ev x) i (BA k hp):=bO rfl rfl
theorem Ba(x:Operand):AVC P tb dr (.nilCheck x) ty ev hp k=N5 (ev x) (BA k hp):=bO rfl rfl
theorem ID(fn:Fn)(first cs:List Operand):AVC P tb dr (.makeFunc fn first.toArray cs.toArray) ty ev hp k=Ae fn first.length (cs.map ev) (BA k hp):=bO rfl rfl
end
def leL:List D→List D→Prop
 |[],[]=>True
 |d::ds,d'::ds'=>d.le d'∧leL ds ds'
 |_,_=>False
theorem BN:∀{ds ds':List D},leL ds ds'→ds'.length=ds.length∧∀{j:Nat} {d':D},ds'[j]? =some d'→∃d,ds[j]? =some d∧d.le d'
 |[],[],_=>⟨rfl,fun h=>by simp at h⟩
 |d::ds,d'::ds',h=>⟨by simp[(BN h.2).1],fun {j} {e} he=>by
  cases j with
  |zero=>exact⟨d,rfl,by
                have:d'=e:=by simpa using he
                rw[←this];exact h.1⟩
  |succ j=>exact (BN h.2).2 (by simpa using he)⟩
 |[],_::_,h=>h.elim
 |_::_,[],h=>h.elim
theorem ax.le {P:Program}{f:FuncId}{ds ds':List D}{r:D}(hc:ax P f ds' r)(h:leL ds ds'):ax P f ds r:=by
 obtain⟨hlen,kb⟩:=BN h
 refine⟨hc.1,fun w F vs hF hsz HW=>hc.2 w F vs hF (by rw[hsz,hlen]) fun j d' u hd hu=>?_⟩
 obtain⟨d,vy,hle⟩:=kb hd
 exact aR.le (HW j d u vy hu) hle
theorem AW.regS {P:Program}{x:Cx}{tm:List (Nat×D)}{hp:Hp}{Q:Exit→List (Nat×D)→Hp→Prop}(tb:TypeId→Option TyE){id:Nat}{l:List Oper}(hN:oJ x.N l.toArray=true)(h:∀K:List (Nat×D)→Hp→Prop,(∀tm hp,Q .normal tm hp→K tm hp)→ci P tb .seq l.toArray K l tm hp):AW P x (.region id l.toArray false) tm hp Q:=AW.regionS hN h
theorem AW.drwS {P:Program}{x:Cx}{tm:List (Nat×D)}{hp:Hp}{Q:Exit→List (Nat×D)→Hp→Prop}(tb:TypeId→Option TyE)(L:List FuncId){id:Nat}{l:List Oper}(hm:P.follows .mixedOrders=true)(hN:oJ x.N l.toArray=true)(rk:yI tb L l.toArray=true)(h:∀K:List (Nat×D)→Hp→Prop,(∀tm hp,Q .normal tm hp→K tm hp)→ci P tb (.any L) l.toArray K l tm hp):AW P x (.region id l.toArray true) tm hp Q:=AW.drawS hm hN rk h
end
def sg(N0:Nat)(os:List Nat)(i:Nat):Nat:=bif decide (i<N0) then i else os.getD (i - N0) 0
def D.renC(σ:Nat→Nat):D→D
 | .own id z n xs=>.own (σ id) z n xs
 | .pt k o=>.pt (σ k) o
 | .ow k o z n=>.ow (σ k) o z n
 | .gw k z n=>.gw (σ k) z n
 | .fn f ks=>.fn f (ks.map σ)
 |d=>d
def D.ren(σ:Nat→Nat):D→D
 | .ag ds=>.ag (ds.map (D.renC σ))
 | .tu ds=>.tu (ds.map (D.renC σ))
 |d=>d.renC σ
def D.noO:D→Bool
 | .opt _ _=>false
 |_=>true
def D.noOs:D→Bool
 | .ag ds=>ds.all D.noO
 | .tu ds=>ds.all D.noO
 |d=>d.noO
theorem j9 {σ:Nat→Nat}{hp dW:Hp}{g g2:Gh}{w:World}{m:Nat}{d:D}{v:Value}(h:aR hp g w (d.renC σ) v)(hd:d.idsC m=true)(hn:d.noO=true)(hm:dW.next=m)
  (hμ:∀i,g2.μ i=g.μ (σ i)) (hτ:∀i,g2.τ i=g.τ (σ i)) (hF:g2.F=g.F) (hl:∀id y,dW.live.lookup id=some y→hp.live.lookup (σ id)=some y):aR dW g2 w d v:=by
 subst hm
 cases d with
 |e y=>cases h with
  |e _ v h=>exact .e y v (by rw[hF];exact h)
 |own id z n xs=>cases h with
  |own _ _ _ _ v h hid ht=>exact .own id z n xs v (by rw[hF];exact h) (by simpa[D.idsC] using hd) (fun m e hm=>by rw[hτ];exact ht m e (hl _ _ hm))
 |fu z n xs=>cases h with
  |fu _ _ _ A h=>exact .fu z n xs A (by rw[hF];exact h)
 |ag ds=>cases hd
 |tu ds=>cases hd
 |fp xs off=>cases h with
  |fp _ _ ad hb hc=>exact .fp xs off ad hb (by rw[hF];exact hc)
 |pt k off=>cases h with
  |pt _ _ hk=>rw[←hμ];exact .pt k off (by simpa[D.idsC] using hd)
 |ow k off z n=>cases h with
  |ow _ _ _ _ c hk h1 h2=>rw[←hμ];exact .ow k off z n c (by simpa[D.idsC] using hd) h1 h2
 |gw k z n=>cases h with
  |gw _ _ _ c hk h1 h2 hs=>rw[←hμ] at hs ⊢;exact .gw k z n c (by simpa[D.idsC] using hd) h1 h2 hs
 |fn f ks=>cases h with
  |fn _ _ hk=>
   have:((ks.map σ).map fun k=>Value.pointer (some ⟨g.μ k,0,none⟩))=ks.map fun k=>Value.pointer (some ⟨g2.μ k,0,none⟩):=by
    rw[pY]
    exact sw fun k _=>by simp only[Function.comp,hμ]
   rw[this]
   exact .fn f ks (by simpa[D.idsC] using hd)
 |opt b d=>cases hn
 |top=>exact .top v
theorem BI {σ:Nat→Nat}{hp dW:Hp}{g g2:Gh}{w:World}{m:Nat}{d:D}{v:Value}(h:aR hp g w (d.ren σ) v)(hd:d.idsB m=true)(hn:d.noOs=true)(hm:dW.next=m)
  (hμ:∀i,g2.μ i=g.μ (σ i)) (hτ:∀i,g2.τ i=g.τ (σ i)) (hF:g2.F=g.F) (hl:∀id y,dW.live.lookup id=some y→hp.live.lookup (σ id)=some y):aR dW g2 w d v:=by
 cases d with
 |ag ds=>
  have lz:∀d∈ds,D.idsC m d=true:=by simpa[D.idsB] using hd
  have OU:∀d∈ds,D.noO d=true:=by simpa[D.noOs] using hn
  cases h with
  |ag _ cs hlen h1 hr=>
   refine .ag ds cs (by simpa using hlen) h1 fun j d u h2 h3=>?_
   have:=hr j (d.renC σ) u (by rw[ep,h2];rfl) h3
   exact j9 this (lz d (er h2)) (OU d (er h2)) hm hμ hτ hF hl
 |tu ds=>
  have lz:∀d∈ds,D.idsC m d=true:=by simpa[D.idsB] using hd
  have OU:∀d∈ds,D.noO d=true:=by simpa[D.noOs] using hn
  cases h with
  |tu _ cs hlen hr=>
   refine .tu ds cs (by simpa using hlen) fun j d u h2 h3=>?_
   have:=hr j (d.renC σ) u (by rw[ep,h2];rfl) h3
   exact j9 this (lz d (er h2)) (OU d (er h2)) hm hμ hτ hF hl
 |e y=>exact j9 h hd hn hm hμ hτ hF hl
 |own id z n xs=>exact j9 h hd hn hm hμ hτ hF hl
 |fu z n xs=>exact j9 h hd hn hm hμ hτ hF hl
 |fp xs off=>exact j9 h hd hn hm hμ hτ hF hl
 |pt k off=>exact j9 h hd hn hm hμ hτ hF hl
 |ow k off z n=>exact j9 h hd hn hm hμ hτ hF hl
 |gw k z n=>exact j9 h hd hn hm hμ hτ hF hl
 |fn f ks=>exact j9 h hd hn hm hμ hτ hF hl
 |opt b d=>cases hn
 |top=>exact .top v
theorem NA {N0:Nat}{os:List Nat}(hs:∀o∈os,N0≤o)(hn:os.Nodup){i j:Nat}(hi:i<N0+os.length)(hj:j<N0+os.length)(h:sg N0 os i=sg N0 os j):i=j:=by
 unfold sg at h
 have get:∀k,¬k<N0→k<N0+os.length→∃hk:k - N0<os.length,os.getD (k - N0) 0=os[k - N0]:=fun k h1 h2=>⟨by omega,by simp[List.getD,de (show k - N0<os.length by omega)]⟩
 by_cases h1:i<N0 <;> by_cases h2:j<N0
 ·simpa[h1,h2] using h
 ·obtain⟨hk,e⟩:=get j h2 hj
  simp only[h1,h2,nk,nj,fx,cond_false] at h
  rw[e] at h
  have:=hs _ (rI hk)
  omega
 ·obtain⟨hk,e⟩:=get i h1 hi
  simp only[h1,h2,nk,nj,fx,cond_false] at h
  rw[e] at h
  have:=hs _ (rI hk)
  omega
 ·obtain⟨hk,e⟩:=get i h1 hi
  obtain⟨uW,e'⟩:=get j h2 hj
  simp only[h1,h2,nj,cond_false] at h
  rw[e,e'] at h
  have hp:=List.pairwise_iff_getElem.1 hn
  rcases Nat.lt_trichotomy (i - N0) (j - N0) with h3|h3|h3
  ·exact absurd h (hp _ _ hk uW h3)
  ·omega
  ·exact absurd h.symm (hp _ _ uW hk h3)
section
def te(tb:TypeId→Option TyE)(f:TypeId→List Value→Prop):List (Nat×TypeId)→Nat→List Value→Prop
 |[],_,us=>us=[]
 |(o,t)::fs,off,us=>o=off∧match tb t with
  |some j=>f t (us.take j.size)∧j.size≤us.length∧te tb f fs (off+j.size) (us.drop j.size)
  |none=>False
def nO(tb:TypeId→Option TyE):Nat→TypeId→List Value→Prop
 |0,_,_=>False
 |d+1,t,us=>match tb t with
  |some i=>match i.ty with
   | .int k=>∃n,us=[.int k n]
   | .bool=>∃b,us=[.bool b]
   | .str=>∃s,us=[.string s]
   | .struct fs=>te tb (nO tb d) fs 0 us
   | .arr n e=>match tb e with
    |some j=>us.length=n*j.size∧∀i,i<n→nO tb d e ((us.drop (i*j.size)).take j.size)
    |none=>False
   |_=>False
  |none=>False
def mc(P:Program):Nat→TypeId→Bool
 |0,_=>true
 |d+1,t=>match P.underlying t with
  | some (.struct fs) => !P.stoodInHeld t && fs.toList.all fun f => f.name != "_" && mc P d f.type
  |some (.array _ e)=>mc P d e
  |_=>true
def valT(g:Bool)(us:List Value):Value:=if g then .agg us.toArray else us.getD 0 undef
section
variable {P:Program} {tb:TypeId→Option TyE}
theorem wl(tok:TOk P tb){t:TypeId}{j:TyE}(ht:tb t=some j)(us:List Value)(off:Nat)(w:World)(hl:off+j.size≤us.length)(h1:j.ty.agg=false→j.size=1):(part t us.toArray off).run P w=.ok (valT j.ty.agg ((us.drop off).take j.size)) w:=by
 unfold valT
 cases hg:j.ty.agg with
 |true=>
  rw[tT tok ht hg,if_pos rfl]
  congr 2
  apply oP.1
  simp
 |false=>
  have hz:=h1 hg
  rw[hz] at hl
  have b8:off<us.length:=by omega
  rw[tS tok ht hg us.toArray off us[off] (by simp[b8]),if_neg (by simp),hz,IH b8]
  rfl
theorem Ik {d:Nat}{t:TypeId}{i:TyE}{us:List Value}(ht:tb t=some i)(hg:i.ty.agg=false)(h:nO tb d t us):∃u,us=[u]:=by
 cases d with
 |zero=>cases h
 |succ d=>
  unfold nO at h
  rw[ht] at h
  dsimp only at h
  split at h
  ·obtain⟨n,h⟩:=h;exact⟨_,h⟩
  ·obtain⟨n,h⟩:=h;exact⟨_,h⟩
  ·obtain⟨n,h⟩:=h;exact⟨_,h⟩
  ·rename_i he;rw[he] at hg;cases hg
  ·rename_i he;rw[he] at hg;cases hg
  ·cases h
theorem Fe {α:Type}:∀(n z:Nat) (us vs:List α),us.length=n*z→vs.length=n*z→(∀i,i<n→(us.drop (i*z)).take z=(vs.drop (i*z)).take z)→us=vs
 |0,z,us,vs,h1,h2,_=>by
  rw[ic] at h1 h2
  rw[rX h1,rX h2]
 |n+1,z,us,vs,h1,h2,h=>by
  rw[rK] at h1 h2
  have h0:=h 0 (Nat.succ_pos n)
  simp only[ic,rB] at h0
  have hd:=Fe n z (us.drop z) (vs.drop z) (by rw[fT];omega) (by rw[fT];omega) fun i hi=>by
   have:=h (i+1) (by omega)
   rw[qv,qv,show z+i*z=(i+1)*z by rw[rK];omega]
   exact this
  rw[←xr z us,←xr z vs,h0,hd]
theorem BT(tok:TOk P tb):∀(d D:Nat) (t:TypeId) (i:TyE) (us vs:List Value) (w:World),d≤D→tb t=some i→nO tb d t us→nO tb d t vs→mc P d t=true→
  ∃r,(Op.equalIn D t (valT i.ty.agg us) (valT i.ty.agg vs)).run P w=.ok r w∧(r=true↔us=vs)
 |0,_,_,_,_,_,_,_,_,h,_,_=>h.elim
 |d+1,0,_,_,_,_,_,h,_,_,_,_=>absurd h (by omega)
 |d+1,D+1,t,i,us,vs,w,hD,ht,hu,hv,hn=>by
  unfold nO at hu hv
  rw[ht] at hu hv
  dsimp only at hu hv
  cases jY:i.ty with
  |int k=>
   rw[jY] at hu hv
   obtain⟨a,rfl⟩:=hu
   obtain⟨b,rfl⟩:=hv
   exact⟨a == b,run_equalIn_int w D t k k a b (tok.int ht jY),by simp⟩
  |bool=>
   rw[jY] at hu hv
   obtain⟨a,rfl⟩:=hu
   obtain⟨b,rfl⟩:=hv
   obtain⟨dd,CQ,CP⟩:=tok.und ht
   rw[jY] at CP
   have hb:P.underlying t=some .bool:=by cases dd <;> simp[Ty.of] at CP;exact CQ
   exact⟨a == b,run_equalIn_bool' w D t a b hb,by simp⟩
  |str=>
   rw[jY] at hu hv
   obtain⟨a,rfl⟩:=hu
   obtain⟨b,rfl⟩:=hv
   exact⟨_,run_equalIn_string w D t a b (tok.str ht jY),by rw[FF];simp⟩
  |slice e=>rw[jY] at hu;cases hu
  |other=>rw[jY] at hu;cases hu
  |struct fs=>
   rw[jY] at hu hv
   dsimp only at hu hv
   obtain⟨fields,hf,G8⟩:=tok.struct ht jY
   have hfo:P.fieldsOf t=fields:=by unfold Program.fieldsOf;rw[hf]
   unfold mc at hn
   rw[hf] at hn
   simp only[bp,v3,dc,bne_iff_ne,ne_eq] at hn
   have key : ∀ (l : List Field) (off : Nat) (uB pb : List Value), (∀ f ∈ l, f.name ≠ "_" ∧ mc P d f.type = true) → off ≤ us.length → off ≤ vs.length → us.drop off = uB → vs.drop off = pb → te tb (nO tb d) (l.map fun f => (f.offset, f.type)) off uB → te tb (nO tb d) (l.map fun f => (f.offset, f.type)) off pb →
     ∃r,(Op.eqFields D us.toArray vs.toArray l).run P w=.ok r w∧(r=true↔uB=pb):=by
    intro l
    induction l with
    |nil=>
     intro off uB pb _ _ _ _ _ h1 h2
     have e1:uB=[]:=h1
     have e2:pb=[]:=h2
     subst e1;subst e2
     exact⟨true,by simp[Op.eqFields],by simp⟩
    |cons f l ih=>
     intro off uB pb hl ou ov h1 h2 h3 h4
     obtain⟨CL,hnf⟩:=hl f (qw ..)
     simp only[cP,te] at h3 h4
     obtain⟨ho,h3⟩:=h3
     obtain⟨_,h4⟩:=h4
     cases hj:tb f.type with
     |none=>rw[hj] at h3;cases h3
     |some j=>
      rw[hj] at h3 h4
      obtain⟨f1,l1,r1⟩:=h3
      obtain⟨f2,l2,r2⟩:=h4
      have lu:off+j.size≤us.length:=by rw[←h1,fT] at l1;omega
      have lv:off+j.size≤vs.length:=by rw[←h2,fT] at l2;omega
      have hz:j.ty.agg=false→j.size=1:=by
       intro hg
       obtain⟨u,hu⟩:=Ik hj hg f1
       have:=congrArg List.length hu
       simp at this
       omega
      obtain⟨ra,ha1,ha2⟩:=BT tok d D f.type j _ _ w (by omega) hj f1 f2 hnf
      obtain⟨rb,cv,ly⟩:=ih (off+j.size) (uB.drop j.size) (pb.drop j.size) (fun g hg=>hl g (o3 _ hg)) lu lv (by rw[←h1,qv]) (by rw[←h2,qv]) r1 r2
      have pu:=wl tok hj us off w lu hz
      have pv:=wl tok hj vs off w lv hz
      rw[h1] at pu
      rw[h2] at pv
      have sI:uB=pb↔uB.take j.size=pb.take j.size∧uB.drop j.size=pb.drop j.size:=
       ⟨fun h=>by rw[h];exact⟨rfl,rfl⟩,fun h=>by rw[←xr j.size uB,h.1,h.2,xr]⟩
      refine⟨if ra=true then rb else false,?_,?_⟩
      ·unfold Op.eqFields
       rw[if_pos CL,ho]
       simp only[Sem.run_bind,pu,pv,ha1,Result.andThen_ok]
       cases ra
       ·simp
       ·simpa using cv
      ·rw[sI,←ha2,←ly]
       cases ra <;> simp
   obtain⟨r,G5,hr2⟩:=key fields.toList 0 us vs (fun f hfm=>hn.2 f hfm) (cX _) (cX _) rfl rfl (by rw[G8];exact hu) (by rw[G8];exact hv)
   refine⟨r,?_,hr2⟩
   show (Op.equalIn (D+1) t (.agg us.toArray) (.agg vs.toArray)).run P w=_
   rw[run_equalIn_struct w D t _ _ (by rw[hfo];exact hf) hn.1,hfo]
   exact G5
  |arr n e=>
   rw[jY] at hu hv
   dsimp only at hu hv
   cases hj:tb e with
   |none=>rw[hj] at hu;cases hu
   |some j=>
    rw[hj] at hu hv
    obtain⟨lu,fu⟩:=hu
    obtain⟨lv,fv⟩:=hv
    have hf:=tok.arr ht jY
    unfold mc at hn
    rw[hf] at hn
    dsimp only at hn
    have hz:0<n→j.ty.agg=false→j.size=1:=by
     intro h0 hg
     obtain⟨u,hu⟩:=Ik hj hg (fu 0 h0)
     have:=congrArg List.length hu
     have h2:j.size≤us.length:=by rw[lu];exact Dn _ h0
     simp at this
     omega
    have lz:us=vs↔∀i∈List.range' 0 n 1,(us.drop (i*j.size)).take j.size=(vs.drop (i*j.size)).take j.size:=
     ⟨fun h i _=>by rw[h],fun h=>Fe n j.size us vs lu lv fun i hi=>h i (by simp[List.mem_range'_1,hi])⟩
    have hl:∀i∈List.range' 0 n 1,i<n:=fun i hi=>by simpa using (List.mem_range'_1.1 hi).2
    show ∃r,(Op.equalIn (D+1) t (.agg us.toArray) (.agg vs.toArray)).run P w=.ok r w∧_
    rw[Op.equalIn,lz]
    simp only[Sem.run_bind,run_underlying hf,Result.andThen_ok,tok.run_sizeOf hj,Std.Legacy.Range.forIn_eq_forIn_range',Std.Legacy.Range.size,Nat.sub_zero,AB,nl]
    clear lz
    generalize List.range' 0 n 1=l at hl ⊢
    induction l with
    |nil=>exact⟨true,by simp,by simp⟩
    |cons i l ih=>
     have hi:i<n:=hl i (qw ..)
     have hm:i*j.size+j.size≤n*j.size:=by rw[←rK];exact dZ _ hi
     have pu:=wl tok hj us (i*j.size) w (by omega) (hz (by omega))
     have pv:=wl tok hj vs (i*j.size) w (by omega) (hz (by omega))
     obtain⟨ra,ha1,ha2⟩:=BT tok d D e j _ _ w (by omega) hj (fu i hi) (fv i hi) hn
     obtain⟨rb,cv,ly⟩:=ih fun i hi=>hl i (o3 _ hi)
     refine⟨if ra=true then rb else false,?_,?_⟩
     ·simp only[List.forIn_cons,Sem.run_bind,pu,pv,ha1,Result.andThen_ok]
      cases ra
      ·simp
      ·simp only[cj,Bool.false_eq_true,if_false,Sem.run_pure,Result.andThen_ok,aS]
       exact cv
     ·rw[List.forall_mem_cons,←ha2,←ly]
      cases ra <;> simp
theorem ag_eql(tok:TOk P tb){t:TypeId}{i:TyE}{us vs:List Value}{p:Prop}[Decidable p]{k:Value→Prop}(d:Nat)(hd:d≤10000)(ht:tb t=some i)(hg:i.ty.agg=true)(hm:P.eqGuardType P.depth t=false)(hn:mc P d t=true)(hu:nO tb d t us)(hv:nO tb d t vs)(hp:us=vs↔p)(hk:k (.bool (decide p))):
  ∃r,(∀w,(do eqGuard .eql t (.tmp 0) (.tmp 0) (.agg us.toArray) (.agg vs.toArray);binOp .eql t (.agg us.toArray) (.agg vs.toArray):Sem Value).run P w=.ok r w)∧r.oneCell'=true∧k r:=by
 refine⟨_,fun w=>?_,rfl,hk⟩
 obtain⟨r,h1,h2⟩:=BT tok d 10000 t i us vs w hd ht hu hv hn
 rw[hg] at h1
 have qI:(Op.equalIn 10000 t (.agg us.toArray) (.agg vs.toArray)).run P w=.ok r w:=h1
 rw[Sem.run_bind,run_eqGuard_agg w .eql t _ _ _ _ hm]
 simp only[Result.andThen_ok]
 rw[run_eql_struct,qI]
 simp only[Result.andThen_ok]
 congr 2
 rw[vO,h2,hp]
 simp
theorem ag_neq(tok:TOk P tb){t:TypeId}{i:TyE}{us vs:List Value}{p:Prop}[Decidable p]{k:Value→Prop}(d:Nat)(hd:d≤10000)(ht:tb t=some i)(hg:i.ty.agg=true)(hm:P.eqGuardType P.depth t=false)(hn:mc P d t=true)(hu:nO tb d t us)(hv:nO tb d t vs)(hp:us=vs↔p)(hk:k (.bool (decide (¬p)))):
  ∃r,(∀w,(do eqGuard .neq t (.tmp 0) (.tmp 0) (.agg us.toArray) (.agg vs.toArray);binOp .neq t (.agg us.toArray) (.agg vs.toArray):Sem Value).run P w=.ok r w)∧r.oneCell'=true∧k r:=by
 refine⟨_,fun w=>?_,rfl,hk⟩
 obtain⟨r,h1,h2⟩:=BT tok d 10000 t i us vs w hd ht hu hv hn
 rw[hg] at h1
 have qI:(Op.equalIn 10000 t (.agg us.toArray) (.agg vs.toArray)).run P w=.ok r w:=h1
 rw[Sem.run_bind,run_eqGuard_agg w .neq t _ _ _ _ hm]
 simp only[Result.andThen_ok]
 rw[run_neq_struct,qI]
 simp only[Result.andThen_ok]
 congr 2
 rw[vO,decide_eq_true_iff,←hp,←h2]
 cases r <;> simp
theorem Qi(tok:TOk P tb)(d:Nat)(hd:d≤10000){t:TypeId}{i:TyE}{xs ys:List D}{us vs:List Value}{p:Prop}{k:Value→Prop}(ht:tb t=some i)(hg:i.ty.agg=true)(hm:P.eqGuardType P.depth t=false)(hn:mc P d t=true)(hx:l6 xs=some us)(hy:l6 ys=some vs)(hu:nO tb d t us)(hv:nO tb d t vs)(hp:us=vs↔p)(_inst:Decidable p)(hk:k (.bool (decide p))):pX P .eql t (.ag xs) (.ag ys) k:=by
 simp only[pX,hx,hy]
 exact ag_eql tok d hd ht hg hm hn hu hv hp hk
theorem Qh(tok:TOk P tb)(d:Nat)(hd:d≤10000){t:TypeId}{i:TyE}{xs ys:List D}{us vs:List Value}{p:Prop}{k:Value→Prop}(ht:tb t=some i)(hg:i.ty.agg=true)(hm:P.eqGuardType P.depth t=false)(hn:mc P d t=true)(hx:l6 xs=some us)(hy:l6 ys=some vs)(hu:nO tb d t us)(hv:nO tb d t vs)(hp:us=vs↔p)(_inst:Decidable p)(hk:k (.bool (decide (¬p)))):pX P .neq t (.ag xs) (.ag ys) k:=by
 simp only[pX,hx,hy]
 exact ag_neq tok d hd ht hg hm hn hu hv hp hk
end
end
section
section
variable {w:World} {F:Addr→Prop}
theorem l9.e_inv {x:E}{v:Value}(h:l9 w F (.e x) v):d6 w F x v:=by
 unfold l9 at h
 cases h with
 |e _ _ h=>exact h
theorem ax.of1 {P:Program}{f:FuncId}{d r:D}(hf:MV P f)(h:∀(w:World) (F:Addr→Prop) (v:Value),(∀p:Addr,F p→p.block<w.heap.size)→l9 w F d v→Calls P f #[v] w fun e w'=>∃u,e=.returned u∧u1 w.heap.size F w' r u∧Below w.heap.size w w'):ax P f [d] r:=by
 refine⟨hf,fun w F vs hF hsz HW=>?_⟩
 obtain⟨v,rfl⟩:∃v,vs=#[v]:=by
  rcases vs with⟨_|⟨v,_|⟨u,l⟩⟩⟩ <;> simp at hsz
  exact⟨v,rfl⟩
 exact h w F v hF (HW 0 d v rfl rfl)
theorem sl_rep {z n:Nat}{xs:List E}{v:Value}(h:d6 w F (.sl z n xs) v):∃us,Sl w v z n us∧Pw (d6 w F) xs us:=by
 cases h with
 |sl _ _ _ A c uB hl hz p6 o0 hA hc hr=>
  have h':d6 w F (.sl z n xs) (.slice A n c):=.sl z n xs A c uB hl hz p6 o0 hA hc hr
  obtain⟨h1,h2,h3,h4,h5,us,h6,h7,h8⟩:=h'.reads
  refine⟨us,⟨A,c,rfl,p6,o0,h6,fun hn=>?_⟩,h8⟩
  obtain⟨ad,rfl,hb⟩:=h5 hn
  exact⟨ad,rfl,hb,fun j u hu=>(h7 ad rfl j u hu).1⟩
theorem own_rep(hfits:∀p:Addr,F p→p.block<w.heap.size){w':World}{e:TypeId}{z n:Nat}{xs:List E}{us:List Value}{q:Value}(hz:0<z)(ho:w'.ownsRow w.heap.size e z q n us)(hb:Below w.heap.size w w')(wO:Pw (d6 w F) xs us):d6 w' (fun p=>F p∨Value.tail q (n*z) p) (.sl z n xs) q:=by
 have hF:∀p:Addr,p.block<w.heap.size→(F p∨Value.tail q (n*z) p)→F p:=by
  rintro p hp (h|⟨b,h1,h2,_⟩)
  ·exact h
  ·have:=(ho.lt b h1).1;omega
 have hpw':=wO.imp (fun _ _ h=>h.mono (F':=fun p=>F p∨Value.tail q (n*z) p) hb.size (fun p hp _=>hb.cell hp) hF)
 have l7:w'.ownsRow w.heap.size e z q (0+n) ([]++us):=by simpa using ho
 -- no cell of the row is forbidden:its block is new
 have:=d6.appended (n:=0) (m:=n) (xs:=[]) (us:=[]) hz l7 Pw.nil hpw' (fun b j hbq hj=>by
  rintro (hf|⟨b',h1,h2,h3⟩)
  ·have h4:=(ho.lt b hbq).1
   have h5:b<w.heap.size:=hfits _ hf
   omega
  ·have h4:n*z≤j:=h3
   rw[bJ] at hj
   omega)
 simpa using this
end
end
theorem iB {α:Type}(f:α→List E){z:Nat}(hz:∀a,(f a).length=z)(l:List α):(l.flatMap f).length=l.length*z:=by
 induction l with
 |nil=>simp
 |cons a l ih=>rw[rA,c8,hz,ih,rD,cz,kG,qx]
theorem Mv {α:Type}[Inhabited α](f:α→List E){z:Nat}(hz:∀a,(f a).length=z){l:List α}{i:Nat}(h:i<l.length){c:Nat}(hc:c<z):(l.flatMap f).getD (i*z+c) .any=(f l[i]!).getD c .any:=by
 induction l generalizing i with
 |nil=>simp at h
 |cons a l ih=>
  cases i with
  |zero=>
   simp only[rA,ic,bJ,List.getD,List.getElem!_cons_zero]
   rw[zk (by rw[hz];exact hc)]
  |succ i=>
   have:=ih (i:=i) (by simpa using h)
   rw[List.getElem!_cons_succ,←this]
   simp only[rA,List.getD]
   rw[ql (by rw[hz,cz];omega),hz]
   congr 2
   rw[cz]
   omega
theorem kE {α:Type}(f:α→List E){z:Nat}(hz:∀a,(f a).length=z):∀(l:List α) (i:Nat),(l.flatMap f).take (i*z)=(l.take i).flatMap f
 |[],i=>by simp
 |a::l,0=>by simp
 |a::l,i+1=>by
  rw[rA,List.take_succ_cons,rA,←kE f hz l i,List.take_append,hz,iP (by rw[hz,cz];omega),cz]
  congr 2
  omega
theorem n4 {α:Type}(f:α→List E){z:Nat}(hz:∀a,(f a).length=z):∀(l:List α) (i:Nat),(l.flatMap f).drop (i*z)=(l.drop i).flatMap f
 |[],i=>by simp
 |a::l,0=>by simp
 |a::l,i+1=>by
  rw[rA,List.drop_succ_cons,←n4 f hz l i,List.drop_append,hz,List.drop_eq_nil_of_le (by rw[hz,cz];omega),cz,mL]
  congr 2
  omega
section
structure Cd(α:Type) where
 sz:Nat
 f:α→List E
 h:∀a,(f a).length=sz
def cI(k:IntKind):Cd Int:=⟨1,fun n=>[.lit (.int k n)],fun _=>rfl⟩
def cS:Cd ByteArray:=⟨1,fun s=>[.lit (.string s)],fun _=>rfl⟩
def cB:Cd Bool:=⟨1,fun b=>[.lit (.bool b)],fun _=>rfl⟩
def slE {α:Type}(c:Cd α)(l:List α):E:=.sl c.sz l.length (l.flatMap c.f)
def cL {α:Type}(c:Cd α):Cd (List α):=⟨1,fun l=>[slE c l],fun _=>rfl⟩
def cA {α:Type}(n:Nat)(c:Cd α):Cd (Vector α n):=⟨n*c.sz,fun v=>v.toList.flatMap c.f,fun v=>by rw[iB c.f c.h,qu]⟩
abbrev dI(k:IntKind)(n:Int):D:=.e (.lit (.int k n))
abbrev dS(s:ByteArray):D:=.e (.lit (.string s))
abbrev dB(b:Bool):D:=.e (.lit (.bool b))
abbrev dN:D:=.e (.lit (.slice none 0 0))
abbrev dL {α:Type}(c:Cd α)(l:List α):D:=.e (slE c l)
abbrev dO {α:Type}(id:Nat)(c:Cd α)(l:List α):D:=.own id c.sz l.length (l.flatMap c.f)
abbrev dF {α:Type}(c:Cd α)(l:List α):D:=.fu c.sz l.length (l.flatMap c.f)
abbrev dG {α:Type}(c:Cd α)(a:α):D:=.ag ((c.f a).map .e)
theorem ltb {a b:Nat}(h:Nat.ble (a+1) b=true):a<b:=dK h
theorem leb {a b:Nat}(h:Nat.ble a b=true):a≤b:=dK h
def gd {R:Type}(c:Prop)[Decidable c](k:Option R):Option R:=if c then k else none
def cnd {R:Type}(b:Bool)(x y:Option R):Option R:=match b with|true=>x|false=>y
def bnd {S R:Type}(x:Option S)(k:S→Option R):Option R:=match x with|some s=>k s|none=>none
theorem aD {R:Type}{c:Prop}[Decidable c]{k:Option R}{r:R}(h:gd c k=some r):c∧k=some r:=by
 unfold gd at h
 split at h
 ·exact⟨by assumption,h⟩
 ·cases h
theorem aM {R:Type}{c:Prop}[Decidable c]{k:Option R}(h:c):gd c k=k:=if_pos h
theorem aO {R:Type}{b:Bool}{x y:Option R}{r:R}(hb:b=true)(h:cnd b x y=some r):x=some r:=by subst hb;exact h
theorem aP {R:Type}{b:Bool}{x y:Option R}{r:R}(hb:b=false)(h:cnd b x y=some r):y=some r:=by subst hb;exact h
theorem ae {S R:Type}{x:Option S}{k:S→Option R}{r:R}(h:bnd x k=some r):∃s,x=some s∧k s=some r:=by
 unfold bnd at h
 split at h
 ·exact⟨_,rfl,h⟩
 ·cases h
theorem aa {S R:Type}(s:S)(k:S→Option R):bnd (some s) k=k s:=rfl
def sZ {S X:Type}(b:S→Option (S⊕X)):Nat→S→Option X
 |0,_=>none
 |n+1,s=>match b s with
  |some (.inl s')=>sZ b n s'
  |some (.inr x)=>some x
  |none=>none
theorem Cz {S X:Type}{b:S→Option (S⊕X)}:∀{n:Nat} {s:S} {x:X},sZ b n s=some x→∀m,n≤m→sZ b m s=some x
 |0,_,_,h,_,_=>by cases h
 |n+1,s,x,h,m,hm=>by
  obtain⟨m,rfl⟩:∃k,m=k+1:=⟨m - 1,by omega⟩
  unfold sZ at h ⊢
  split at h
  ·exact Cz h m (by omega)
  ·exact h
  ·cases h
def bL {S X:Type}(b:S→Option (S⊕X))(s:S):Option X:=open Classical in if h:∃n x,sZ b n s=some x then sZ b (Classical.choose h) s else none
theorem tY {S X:Type}{b:S→Option (S⊕X)}{s:S}{x:X}:bL b s=some x↔∃n,sZ b n s=some x:=by
 unfold bL
 constructor
 ·intro h
  split at h
  ·exact⟨_,h⟩
  ·cases h
 ·rintro⟨n,hn⟩
  have h:∃n x,sZ b n s=some x:=⟨n,x,hn⟩
  rw[dif_pos h]
  obtain⟨y,hy⟩:=Do h
  rw[hy]
  have h1:=Cz hn (max n (Classical.choose h)) (Nat.le_max_left ..)
  have h2:=Cz hy (max n (Classical.choose h)) (Nat.le_max_right ..)
  rw[h1] at h2
  exact h2.symm
theorem nW {S X:Type}{b:S→Option (S⊕X)}{s s':S}(h:b s=some (.inl s')):bL b s=bL b s':=by
 have key:∀x,bL b s=some x↔bL b s'=some x:=fun x=>by
  rw[tY,tY]
  constructor
  ·rintro⟨n,hn⟩
   cases n with
   |zero=>cases hn
   |succ n=>exact⟨n,by simpa[sZ,h] using hn⟩
  ·rintro⟨n,hn⟩
   exact⟨n+1,by simpa[sZ,h] using hn⟩
 cases h1:bL b s with
 |some x=>exact ((key x).1 h1).symm
 |none=>
  cases h2:bL b s' with
  |none=>rfl
  |some x=>rw[(key x).2 h2] at h1;cases h1
theorem lS {S X:Type}{b:S→Option (S⊕X)}{s:S}{x:X}(h:b s=some (.inr x)):bL b s=some x:=
 tY.2 ⟨1,by simp[sZ,h]⟩
theorem rh {S X:Type}{b:S→Option (S⊕X)}(G:Nat→S)(n m:Nat)(x:X)(MZ:n≤m)(hr:∀i,n≤i→i<m→b (G i)=some (.inl (G (i+1))))(he:b (G m)=some (.inr x)):bL b (G n)=some x:=by
 obtain⟨k,rfl⟩:∃k,m=n+k:=⟨m - n,by omega⟩
 induction k generalizing n with
 |zero=>exact lS he
 |succ k ih=>
  rw[nW (hr n (aB _) (by omega))]
  exact ih (n+1) (by omega) (fun i h1 h2=>hr i (by omega) (by omega)) (by rw[show n+1+k=n+(k+1) by omega];exact he)
section
variable {P:Program} {tb:TypeId→Option TyE} {dr:Bool} {md:Md}
theorem qN.le {o:Oper}{ev:Operand→D}{hp hp':Hp}{d d2:D}(h:qN P o ev hp d hp')(hl:d.le d2):qN P o ev hp d2 hp':=
 fun B g w a Kn Q hr hx hk=>h B g w a Kn Q hr hx fun v g' w' h1 h2 h3 h4 h5=>hk v g' w' h1 h2 (h3.le hl) h4 h5
theorem m3.le {o:Oper}{ev:Operand→D}{hp hp':Hp}{d d2:D}(h:m3 P tb md o ev hp d hp')(hl:d.le d2):m3 P tb md o ev hp d2 hp':=
 ⟨h.ok.le hl,fun h1=>⟨(h.quiet h1).1,fun dW h3=>((h.quiet h1).2 dW h3).le hl⟩,h.fr,h.lk⟩
variable {ops:Array Oper} {K:List (Nat×D)→Hp→Prop} {os:List Oper} {tm:List (Nat×D)} {hp hp':Hp} {t:Tmp} {dst:Option Tmp} {op:Op} {ty:TypeId} {pos:String} {af:Array Edge} {d d2:D}
theorem st_le(tok:TOk P tb)(hn:md.nc tb op=true)(h:AVC P tb md.dr op ty (evD tm) hp (Kq d hp'))(hl:d.le d2)(h2:ci P tb md ops K os ((t,d2)::tm) hp'):ci P tb md ops K (⟨some t,op,ty,pos,af,none⟩::os) tm hp:=
 LJ rfl (((AVC.snd tok (o:=⟨some t,op,ty,pos,af,none⟩) h).q hn).le hl) h2
variable {j:Nat} {want c:Bool} {s:Tmp}
theorem go_t(tok:TOk P tb)(hn:md.nc tb op=true)(hj:(ops[j]?).bind (·.dst)=some s)(hc:tm.lookup s=some (.e (.lit (.bool c))))(hw:c=want)(h:AVC P tb md.dr op ty (evD tm) hp (Kq d hp'))(h2:ci P tb md ops K os ((t,d)::tm) hp'):ci P tb md ops K (⟨some t,op,ty,pos,af,some (j,want)⟩::os) tm hp:=
 Kt hj hc (by subst hw;cases c <;> rfl) ((AVC.snd tok (o:=⟨some t,op,ty,pos,af,some (j,want)⟩) h).q hn) h2
theorem Kx(hp:Hp)(g:Gh)(w:World):aR hp g w (.tu []) undef:=.tu [] #[] rfl fun j d u h=>by simp at h
theorem aG(hj:(ops[j]?).bind (·.dst)=some s)(hc:tm.lookup s=some (.e (.lit (.bool c))))(hw:c= !want)(h2:ci P tb md ops K os ((t,.tu [])::tm) hp):ci P tb md ops K (⟨some t,op,ty,pos,af,some (j,want)⟩::os) tm hp:=
 .off (.tu []) (.inl ⟨s,c,hj,hc,by subst hw;cases want <;> rfl⟩) (fun _ _ _ _ _=>Kx _ _ _) h2
theorem nn_t(hj:(ops[j]?).bind (·.dst)=some s)(hc:tm.lookup s=some (.tu []))(h2:ci P tb md ops K os ((t,.tu [])::tm) hp):ci P tb md ops K (⟨some t,op,ty,pos,af,some (j,want)⟩::os) tm hp:=
 .off (.tu []) (.inr ⟨s,hj,hc,rfl⟩) (fun _ _ _ _ _=>Kx _ _ _) h2
theorem sq(tok:TOk P tb){f:FuncId}{aS:List Operand}{ts:Array TypeId}{ds:List D}{r:D}(hc:ax P f ds r)(ka:((aS.map (evD tm)).map D.ex).all D.pure=true)(hl:leL ((aS.map (evD tm)).map D.ex) ds)(hr:r.pure=true∨∃ds,r=.tu ds)(h2:ci P tb md ops K os ((t,r)::tm) hp):
  ci P tb md ops K (⟨some t,.call ⟨.value (.func f),aS.toArray,ts⟩,ty,pos,af,none⟩::os) tm hp:=
 LJ rfl (NP tok rfl (ax.le hc hl) ka hr) h2
theorem sqg(tok:TOk P tb){f:FuncId}{aS:List Operand}{ts:Array TypeId}{ds:List D}{r:D}(hj:(ops[j]?).bind (·.dst)=some s)(hg:tm.lookup s=some (.e (.lit (.bool c))))(hw:c=want)(hc:ax P f ds r)(ka:((aS.map (evD tm)).map D.ex).all D.pure=true)(hl:leL ((aS.map (evD tm)).map D.ex) ds)(hr:r.pure=true∨∃ds,r=.tu ds)(h2:ci P tb md ops K os ((t,r)::tm) hp):
  ci P tb md ops K (⟨some t,.call ⟨.value (.func f),aS.toArray,ts⟩,ty,pos,af,some (j,want)⟩::os) tm hp:=
 Kt hj hg (by subst hw;cases c <;> rfl) (NP tok rfl (ax.le hc hl) ka hr) h2
variable {ev:Operand→D} {x y:Operand}
theorem GR(h:ev x=d:=by exact rfl):AVC P tb dr (.move x) ty ev hp (Kq d hp):=by rw[av_move,h];exact Kq.here _ _
theorem T_mv {t:Tmp}(h:tm.lookup t=some d:=by exact rfl):AVC P tb dr (.move (.tmp t)) ty (evD tm) hp (Kq d hp):=GR (h:=by show (tm.lookup t).getD .top=d;rw[h];rfl)
theorem mp {t:Tmp}(h:tm.lookup t=some d:=by exact rfl)(hk:MI tb ty d hp (Kq d hp)=Kq d hp d hp:=by exact rfl):AVC P tb dr (.assign (.tmp t)) ty (evD tm) hp (Kq d hp):=by
 rw[Au,show evD tm (.tmp t)=d by show (tm.lookup t).getD .top=d;rw[h];rfl,hk];exact Kq.here _ _
theorem Lk(h:ev x=d:=by exact rfl)(hk:MI tb ty d hp (Kq d hp)=Kq d hp d hp:=by exact rfl):AVC P tb dr (.assign x) ty ev hp (Kq d hp):=by rw[Au,h,hk];exact Kq.here _ _
theorem fW {vs:List (Nat×List D)}{lv:List (Nat×Nat×Nat×TypeId)}{N0:Nat}{e:TypeId}{i j:TyE}(ht:tb ty=some i)(he:tb e=some j)(h:ev x=dN:=by exact rfl)(hi:i.ty=.slice e:=by exact rfl)(hz:Nat.ble (0+1) (j.size)=true:=by exact rfl):AVC P tb dr (.assign x) ty ev ⟨vs,lv,N0⟩ (Kq (.own N0 j.size 0 []) ⟨vs,(N0,0,j.size,e)::lv,N0+1⟩):=by
 replace hz:=dK hz
 rw[Au,h,Qn,ht]
 simp only[hi,he]
 exact⟨hz,Kq.here _ _⟩
theorem ar {cn:Operand}{b:Bool}(hb:b=true)(hc:ev cn=dB b:=by exact rfl)(h:ev x=d:=by exact rfl):AVC P tb dr (.pick cn x y) ty ev hp (Kq d hp):=by
 subst hb;rw[Le,hc,pickV_t,h];exact Kq.here _ _
theorem an {cn:Operand}{b:Bool}(hb:b=false)(hc:ev cn=dB b:=by exact rfl)(h:ev y=d:=by exact rfl):AVC P tb dr (.pick cn x y) ty ev hp (Kq d hp):=by
 subst hb;rw[Le,hc,pickV_f,h];exact Kq.here _ _
theorem um {vs:List (Nat×List D)}{lv:List (Nat×Nat×Nat×TypeId)}{N0:Nat}{t:TypeId}{i:TyE}(ht:tb t=some i):AVC P tb dr (.alloc t) ty ev ⟨vs,lv,N0⟩ (Kq (.pt N0 0) ⟨(N0,(i.zero.map fun v=>.e (.lit v)))::vs,lv,N0+1⟩):=by
 rw[Qm,MK,ht];exact Kq.here _ _
theorem fB {vs:List (Nat×List D)}{lv:List (Nat×Nat×Nat×TypeId)}{N0:Nat}{t:TypeId}{cs:List D}(h:(ev x).cells=some cs:=by exact rfl):AVC P tb dr (.box t x) ty ev ⟨vs,lv,N0⟩ (Kq (.pt N0 0) ⟨(N0,cs)::vs,lv,N0+1⟩):=by
 rw[av_box,boxV_eq,h];exact Kq.here _ _
theorem eh {t:TypeId}{i:TyE}{fs:List (Nat×TypeId)}{ps:List (Nat×Operand)}{qs:List (Nat×List D)}{es:List D}(ht:tb t=some i)(hi:i.ty=.struct fs:=by exact rfl)(ha:(fs.all fun f=>(tb f.2).isSome)=true:=by exact rfl)(ka:l5 (ps.map fun p=>(p.1,ev p.2))=some qs:=by exact rfl)(hf:gp (oi tb fs) (i.zero.map fun v=>D.e (.lit v)) qs=some es:=by exact rfl):
  AVC P tb dr (.build t ps.toArray) ty ev hp (Kq (.ag es) hp):=by
 rw[vK,tf,ht,ka]
 simp only[hi,hf]
 exact⟨fun f hf=>(dc.1 ha) f hf,Kq.here _ _⟩
theorem lP {t e:TypeId}{n:Nat}{i j:TyE}{ps:List (Nat×Operand)}{qs:List (Nat×List D)}{es:List D}(ht:tb t=some i)(he:tb e=some j)(hi:i.ty=.arr n e:=by exact rfl)(ka:l5 (ps.map fun p=>(p.1,ev p.2))=some qs:=by exact rfl)(hf:gp (fun n=>some (n*j.size,j.size)) (i.zero.map fun v=>D.e (.lit v)) qs=some es:=by exact rfl):
  AVC P tb dr (.build t ps.toArray) ty ev hp (Kq (.ag es) hp):=by
 rw[vK,tf,ht,ka]
 simp only[hi,he,hf]
 exact Kq.here _ _
theorem kK {vs:List (Nat×List D)}{lv:List (Nat×Nat×Nat×TypeId)}{N0:Nat}{t e:TypeId}{i j:TyE}{n:Nat}{ps:List (Nat×Operand)}{qs:List (Nat×List D)}{es:List D}{xs:List E}(ht:tb t=some i)(he:tb e=some j)(hi:i.ty=.slice e:=by exact rfl)(hz:Nat.ble (0+1) (j.size)=true:=by exact rfl)(hn:Nat.ble ((n+1)*j.size) (16777216)=true:=by exact rfl)(ka:l5 (ps.map fun p=>(p.1,ev p.2))=some qs:=by exact rfl)(hf:gp (fun m=>some (m*j.size,j.size)) (List.replicate ((n+1)*j.size) (D.e .any)) qs=some es:=by exact rfl)(hc:t9 es=some xs:=by exact rfl)(hd:dr=false:=by exact rfl):AVC P tb dr (.buildSlice t (n+1) ps.toArray) ty ev ⟨vs,lv,N0⟩ (Kq (.own N0 j.size (n+1) xs) ⟨vs,(N0,(n+1),j.size,e)::lv,N0+1⟩):=by
 replace hz:=dK hz
 replace hn:=dK hn
 subst hd
 rw[xp]
 unfold fR
 rw[ht,ka]
 simp only[hi,he,hf,hc]
 exact⟨hz,hn,Kq.here _ _⟩
theorem DE {t e:TypeId}{i j:TyE}{n:Nat}{ps:List (Nat×Operand)}{qs:List (Nat×List D)}{es:List D}{xs:List E}(ht:tb t=some i)(he:tb e=some j)(hi:i.ty=.slice e:=by exact rfl)(hz:Nat.ble (0+1) (j.size)=true:=by exact rfl)(hn:Nat.ble ((n+1)*j.size) (16777216)=true:=by exact rfl)(ka:l5 (ps.map fun p=>(p.1,ev p.2))=some qs:=by exact rfl)(hf:gp (fun m=>some (m*j.size,j.size)) (List.replicate ((n+1)*j.size) (D.e .any)) qs=some es:=by exact rfl)(hc:t9 es=some xs:=by exact rfl)(hd:dr=true:=by exact rfl):AVC P tb dr (.buildSlice t (n+1) ps.toArray) ty ev hp (Kq (.fu j.size (n+1) xs) hp):=by
 replace hz:=dK hz
 replace hn:=dK hn
 subst hd
 rw[xp]
 unfold fR
 rw[ht,ka]
 simp only[hi,he,hf,hc]
 exact⟨hz,hn,Kq.here _ _⟩
theorem aX {t:TypeId}{i:TyE}{j off:Nat}{ds:List D}(ht:tb t=some i)(hg:i.ty.agg=false:=by exact rfl)(hx:ev x=.pt j off:=by exact rfl)(hv:hp.vars.lookup j=some ds:=by exact rfl)(hn:Nat.ble (j+1) (hp.next)=true:=by exact rfl)(hd:ds[off]? =some d:=by exact rfl):AVC P tb dr (.load t x) ty ev hp (Kq d hp):=by
 replace hn:=dK hn
 rw[qL,hx,ox,ht,hv]
 simp only[hg]
 exact⟨hn,d,hd,Kq.here _ _⟩
theorem fV {t:TypeId}{i:TyE}{j off:Nat}{ds es:List D}(ht:tb t=some i)(hg:i.ty.agg=true:=by exact rfl)(hx:ev x=.pt j off:=by exact rfl)(hv:hp.vars.lookup j=some ds:=by exact rfl)(hn:Nat.ble (j+1) (hp.next)=true:=by exact rfl)(hl:Nat.ble (off+i.size) (ds.length)=true:=by exact rfl)(hd:(ds.drop off).take i.size=es:=by exact rfl):AVC P tb dr (.load t x) ty ev hp (Kq (.ag es) hp):=by
 replace hn:=dK hn
 replace hl:=dK hl
 rw[qL,hx,ox,ht,hv]
 simp only[hg]
 exact⟨hn,hl,by rw[hd];exact Kq.here _ _⟩
theorem K0 {α:Type}[Inhabited α]{c:Cd α}{l:List α}{n o:Nat}{e:E}(hn:n<l.length)(ho:(c.f l[n]!)[o]? =some e):n*c.sz+o<(l.flatMap c.f).length∧(l.flatMap c.f).getD (n*c.sz+o) .any=e:=by
 have hoz:o<c.sz:=by
  rw[←c.h l[n]!]
  exact (fZ.1 ho).1
 refine⟨?_,?_⟩
 ·rw[iB c.f c.h]
  have:(n+1)*c.sz≤l.length*c.sz:=dZ _ hn
  rw[cz] at this
  omega
 ·rw[Mv c.f c.h hn hoz,List.getD,ho];rfl
theorem xw {α:Type}[Inhabited α]{t:TypeId}{i:TyE}{c:Cd α}{l:List α}{n o:Nat}{e:E}(ht:tb t=some i)(hn:n<l.length)(hg:i.ty.agg=false:=by exact rfl)(hx:ev x=.fp (l.flatMap c.f) (n*c.sz+o):=by exact rfl)(ho:(c.f l[n]!)[o]? =some e:=by exact rfl):AVC P tb dr (.load t x) ty ev hp (Kq (.e e) hp):=by
 obtain⟨h1,h2⟩:=K0 hn ho
 rw[qL,hx,CB,ht]
 simp only[hg]
 refine⟨h1,?_⟩
 rw[h2]
 exact Kq.here _ _
theorem mj {α:Type}[Inhabited α]{t:TypeId}{i:TyE}{c:Cd α}{l:List α}{n o:Nat}{es:List E}(ht:tb t=some i)(hn:n<l.length)(ho:((c.f l[n]!).drop o).take i.size=es)(hg:i.ty.agg=true:=by exact rfl)(hx:ev x=.fp (l.flatMap c.f) (n*c.sz+o):=by exact rfl)(hoz:Nat.ble (o+i.size) (c.sz)=true:=by exact rfl):AVC P tb dr (.load t x) ty ev hp (Kq (.ag (es.map .e)) hp):=by
 replace hoz:=dK hoz
 have hlen:(c.f l[n]!).length=c.sz:=c.h _
 have hle:(es.map D.e)=(List.range i.size).map fun j=>D.e ((l.flatMap c.f).getD (n*c.sz+o+j) .any):=by
  subst ho
  refine List.ext_getElem? fun j=>?_
  by_cases hj:j<i.size
  ·have qC:o+j<(c.f l[n]!).length:=by omega
   have h3:=K0 (o:=o+j) hn (de qC)
   rw[ep,ep,ie,if_pos hj,oQ,de qC,List.getElem?_range hj]
   simp only[n6,wV]
   rw[h3.2]
  ·rw[rC (by simp;omega),rC (by simp;omega)]
 rw[qL,hx,CB,ht]
 simp only[hg]
 refine⟨?_,?_⟩
 ·rw[iB c.f c.h]
  have:(n+1)*c.sz≤l.length*c.sz:=dZ _ hn
  rw[cz] at this
  omega
 ·rw[hle]
  exact Kq.here _ _
theorem MN {vs:List (Nat×List D)}{lv:List (Nat×Nat×Nat×TypeId)}{N0:Nat}{t:TypeId}{i:TyE}{j off:Nat}{ds cs ds':List D}(ht:tb t=some i)(hx:ev x=.pt j off:=by exact rfl)(hv:vs.lookup j=some ds:=by exact rfl)(hc:(ev y).cells=some cs:=by exact rfl)(hl:cs.length=i.size:=by exact rfl)(ho:Nat.ble (off+i.size) (ds.length)=true:=by exact rfl)(he:ds.take off++cs++ds.drop (off+cs.length)=ds':=by exact rfl):AVC P tb dr (.store t x y) ty ev ⟨vs,lv,N0⟩ (Kq .top ⟨(j,ds')::vs,lv,N0⟩):=by
 replace ho:=dK ho
 rw[Di,hx,zV,ht,hv,hc]
 exact⟨hl,ho,by rw[he];exact Kq.here _ _⟩
theorem rN {o:BinOp}{t t':TypeId}{k k':IntKind}{a b:Int}{v:Value}(hx:ev x=dI k a)(hy:ev y=dI k' b)(h:pX P o t (dI k a) (dI k' b) fun u=>Kq (.e (.lit v)) hp (.e (.lit u)) hp):AVC P tb dr (.binOp o t x y t') ty ev hp (Kq (.e (.lit v)) hp):=by
 rw[vL,hx,hy];exact h
theorem T_add {t t':TypeId}{k:IntKind}{a b:Int}(hx:ev x=dI k a:=by exact rfl)(hy:ev y=dI k b:=by exact rfl):AVC P tb dr (.binOp .add t x y t') ty ev hp (Kq (dI k (k.wrap (a+b))) hp):=rN hx hy (by rw[bin_add];exact⟨rfl,Kq.here _ _⟩)
theorem T_sub {t t':TypeId}{k:IntKind}{a b:Int}(hx:ev x=dI k a:=by exact rfl)(hy:ev y=dI k b:=by exact rfl):AVC P tb dr (.binOp .sub t x y t') ty ev hp (Kq (dI k (k.wrap (a - b))) hp):=rN hx hy (by rw[bin_sub];exact⟨rfl,Kq.here _ _⟩)
theorem T_mul {t t':TypeId}{k:IntKind}{a b:Int}(hx:ev x=dI k a:=by exact rfl)(hy:ev y=dI k b:=by exact rfl):AVC P tb dr (.binOp .mul t x y t') ty ev hp (Kq (dI k (k.wrap (a*b))) hp):=rN hx hy (by rw[bin_mul];exact⟨rfl,Kq.here _ _⟩)
theorem Fo {t t':TypeId}{k:IntKind}{a b:Int}(hb:b≠0)(hx:ev x=dI k a:=by exact rfl)(hy:ev y=dI k b:=by exact rfl):AVC P tb dr (.binOp .quo t x y t') ty ev hp (Kq (dI k (k.wrap (a.tdiv b))) hp):=rN hx hy (by rw[bin_quo];exact⟨rfl,hb,Kq.here _ _⟩)
theorem DB {t t':TypeId}{k:IntKind}{a b:Int}(hb:b≠0)(hx:ev x=dI k a:=by exact rfl)(hy:ev y=dI k b:=by exact rfl):AVC P tb dr (.binOp .rem t x y t') ty ev hp (Kq (dI k (a.tmod b)) hp):=rN hx hy (by rw[bin_rem];exact⟨rfl,hb,Kq.here _ _⟩)
def HU(k:IntKind)(a b:Int):Int:=k.wrap (BitVec.ofInt k.bits a &&&BitVec.ofInt k.bits b).toNat
def ior(k:IntKind)(a b:Int):Int:=k.wrap (BitVec.ofInt k.bits a |||BitVec.ofInt k.bits b).toNat
def xP(k:IntKind)(a b:Int):Int:=k.wrap (a*2 ^ min b.toNat k.bits)
def mR(k:IntKind)(a b:Int):Int:=a.fdiv (2 ^ min b.toNat k.bits)
theorem T_and {t t':TypeId}{k:IntKind}{a b:Int}(hx:ev x=dI k a:=by exact rfl)(hy:ev y=dI k b:=by exact rfl):AVC P tb dr (.binOp .and t x y t') ty ev hp (Kq (dI k (HU k a b)) hp):=rN hx hy (by rw[bin_and];exact⟨rfl,Kq.here _ _⟩)
theorem T_or {t t':TypeId}{k:IntKind}{a b:Int}(hx:ev x=dI k a:=by exact rfl)(hy:ev y=dI k b:=by exact rfl):AVC P tb dr (.binOp .or t x y t') ty ev hp (Kq (dI k (ior k a b)) hp):=rN hx hy (by rw[bin_or];exact⟨rfl,Kq.here _ _⟩)
theorem Qu {t t':TypeId}{k k':IntKind}{a b:Int}(hb:0≤b)(hx:ev x=dI k a:=by exact rfl)(hy:ev y=dI k' b:=by exact rfl):AVC P tb dr (.binOp .shl t x y t') ty ev hp (Kq (dI k (xP k a b)) hp):=rN hx hy (by rw[bin_shl];exact⟨hb,Kq.here _ _⟩)
theorem T_shr {t t':TypeId}{k k':IntKind}{a b:Int}(hb:0≤b)(hx:ev x=dI k a:=by exact rfl)(hy:ev y=dI k' b:=by exact rfl):AVC P tb dr (.binOp .shr t x y t') ty ev hp (Kq (dI k (mR k a b)) hp):=rN hx hy (by rw[bin_shr];exact⟨hb,Kq.here _ _⟩)
theorem T_eql {t t':TypeId}{k:IntKind}{a b:Int}(hx:ev x=dI k a:=by exact rfl)(hy:ev y=dI k b:=by exact rfl):AVC P tb dr (.binOp .eql t x y t') ty ev hp (Kq (dB (decide (a=b))) hp):=rN hx hy (by rw[bin_eql];exact⟨rfl,Kq.here _ _⟩)
theorem T_neq {t t':TypeId}{k:IntKind}{a b:Int}(hx:ev x=dI k a:=by exact rfl)(hy:ev y=dI k b:=by exact rfl):AVC P tb dr (.binOp .neq t x y t') ty ev hp (Kq (dB (decide (a≠b))) hp):=rN hx hy (by rw[bin_neq];exact⟨rfl,Kq.here _ _⟩)
theorem T_lss {t t':TypeId}{k:IntKind}{a b:Int}(hx:ev x=dI k a:=by exact rfl)(hy:ev y=dI k b:=by exact rfl):AVC P tb dr (.binOp .lss t x y t') ty ev hp (Kq (dB (decide (a<b))) hp):=rN hx hy (by rw[bin_lss];exact⟨rfl,Kq.here _ _⟩)
theorem T_leq {t t':TypeId}{k:IntKind}{a b:Int}(hx:ev x=dI k a:=by exact rfl)(hy:ev y=dI k b:=by exact rfl):AVC P tb dr (.binOp .leq t x y t') ty ev hp (Kq (dB (decide (a≤b))) hp):=rN hx hy (by rw[bin_leq];exact⟨rfl,Kq.here _ _⟩)
theorem T_gtr {t t':TypeId}{k:IntKind}{a b:Int}(hx:ev x=dI k a:=by exact rfl)(hy:ev y=dI k b:=by exact rfl):AVC P tb dr (.binOp .gtr t x y t') ty ev hp (Kq (dB (decide (b<a))) hp):=rN hx hy (by rw[bin_gtr];exact⟨rfl,Kq.here _ _⟩)
theorem T_geq {t t':TypeId}{k:IntKind}{a b:Int}(hx:ev x=dI k a:=by exact rfl)(hy:ev y=dI k b:=by exact rfl):AVC P tb dr (.binOp .geq t x y t') ty ev hp (Kq (dB (decide (b≤a))) hp):=rN hx hy (by rw[bin_geq];exact⟨rfl,Kq.here _ _⟩)
theorem QA {t t':TypeId}{a b:Bool}(hu:P.underlying t=some .bool)(hx:ev x=dB a:=by exact rfl)(hy:ev y=dB b:=by exact rfl):AVC P tb dr (.binOp .eql t x y t') ty ev hp (Kq (dB (a == b)) hp):=by
 rw[vL,hx,hy,Qg];exact⟨hu,Kq.here _ _⟩
theorem Qy {t t':TypeId}{a b:Bool}(hu:P.underlying t=some .bool)(hx:ev x=dB a:=by exact rfl)(hy:ev y=dB b:=by exact rfl):AVC P tb dr (.binOp .neq t x y t') ty ev hp (Kq (dB (!(a == b))) hp):=by
 rw[vL,hx,hy,Qf];exact⟨hu,Kq.here _ _⟩
theorem T_geql(tok:TOk P tb)(n:Nat)(hd:n≤10000){t t':TypeId}{i:TyE}{xs ys:List D}{us vs:List Value}{p:Prop}(ht:tb t=some i)(hg:i.ty.agg=true)(hm:P.eqGuardType P.depth t=false)(hn:mc P n t=true)(hx:ev x=.ag xs)(hy:ev y=.ag ys)(wq:l6 xs=some us)(CG:l6 ys=some vs)(hu:nO tb n t us)(hv:nO tb n t vs)(ka:us=vs↔p)[inst:Decidable p]:AVC P tb dr (.binOp .eql t x y t') ty ev hp (Kq (dB (decide p)) hp):=by
 rw[vL,hx,hy];exact Qi tok n hd ht hg hm hn wq CG hu hv ka inst (Kq.here _ _)
theorem T_gneq(tok:TOk P tb)(n:Nat)(hd:n≤10000){t t':TypeId}{i:TyE}{xs ys:List D}{us vs:List Value}{p:Prop}(ht:tb t=some i)(hg:i.ty.agg=true)(hm:P.eqGuardType P.depth t=false)(hn:mc P n t=true)(hx:ev x=.ag xs)(hy:ev y=.ag ys)(wq:l6 xs=some us)(CG:l6 ys=some vs)(hu:nO tb n t us)(hv:nO tb n t vs)(ka:us=vs↔p)[inst:Decidable p]:AVC P tb dr (.binOp .neq t x y t') ty ev hp (Kq (dB (decide (¬p))) hp):=by
 rw[vL,hx,hy];exact Qh tok n hd ht hg hm hn wq CG hu hv ka inst (Kq.here _ _)
theorem T_not {t:TypeId}{a:Bool}(hx:ev x=dB a:=by exact rfl):AVC P tb dr (.unOp .not t x) ty ev hp (Kq (dB (!a)) hp):=by rw[Ld,hx,un_not];exact Kq.here _ _
theorem T_neg {t:TypeId}{k:IntKind}{a:Int}(hx:ev x=dI k a:=by exact rfl):AVC P tb dr (.unOp .neg t x) ty ev hp (Kq (dI k (k.wrap (0 - a))) hp):=by rw[Ld,hx,un_neg];exact Kq.here _ _
theorem T_cvI {s t:TypeId}{i j:TyE}{k jk:IntKind}{n:Int}(hs:tb s=some i)(ht:tb t=some j)(hj:j.ty=.int jk:=by exact rfl)(hx:ev x=dI k n:=by exact rfl):AVC P tb dr (.convert s t x) ty ev hp (Kq (dI jk (jk.wrap n)) hp):=by
 rw[J9,hx,conv_eq,hs,ht];simp only[hj];exact Kq.here _ _
theorem T_faP {s tt:TypeId}{i j:TyE}{f o k off:Nat}{fs:List (Nat×TypeId)}(hs:tb s=some i)(ht:tb tt=some j)(hi:i.ty=.struct fs:=by exact rfl)(hf:fs[f]? =some (o,tt):=by exact rfl)(hz:Nat.ble 1 j.size=true:=by exact rfl)(hx:ev x=.pt k off:=by exact rfl):AVC P tb dr (.fieldAddr s x f) ty ev hp (Kq (.pt k (off+o)) hp):=by
 replace hz:j.size≠0:=by have:=dK hz;omega
 rw[zd,hx,ED,A7,hs]
 simp only[hi,hf,ht]
 exact⟨hz,Kq.here _ _⟩
theorem T_faF {s tt:TypeId}{i j:TyE}{f o off:Nat}{xs:List E}{fs:List (Nat×TypeId)}(hs:tb s=some i)(ht:tb tt=some j)(hi:i.ty=.struct fs:=by exact rfl)(hf:fs[f]? =some (o,tt):=by exact rfl)(hz:Nat.ble 1 j.size=true:=by exact rfl)(hx:ev x=.fp xs off:=by exact rfl):AVC P tb dr (.fieldAddr s x f) ty ev hp (Kq (.fp xs (off+o)) hp):=by
 replace hz:j.size≠0:=by have:=dK hz;omega
 rw[zd,hx,EE,A7,hs]
 simp only[hi,hf,ht]
 exact⟨hz,Kq.here _ _⟩
theorem gV {t e:TypeId}{i j:TyE}{n:Nat}{xs:List E}{k:IntKind}{v:Int}(hb:0≤v∧v<(n:Int))(ht:tb t=some i)(he:tb e=some j)(hi:i.ty=.slice e:=by exact rfl)(hx:(ev x).asSl j.size=some (n,xs):=by exact rfl)(hy:ev y=dI k v:=by exact rfl):AVC P tb dr (.indexAddr t x y) ty ev hp (Kq (.fp xs (v.toNat*j.size)) hp):=by
 rw[ub,hy,sF,ht]
 simp only[hi,he,hx]
 exact⟨hb,Kq.here _ _⟩
theorem bY {t e:TypeId}{i j:TyE}{n m off:Nat}{k:IntKind}{v:Int}(hb:0≤v∧v<(n:Int))(ht:tb t=some i)(he:tb e=some j)(hi:i.ty=.arr n e:=by exact rfl)(hx:ev x=.pt m off:=by exact rfl)(hy:ev y=dI k v:=by exact rfl):AVC P tb dr (.indexAddr t x y) ty ev hp (Kq (.pt m (off+v.toNat*j.size)) hp):=by
 rw[ub,hx,hy,sF,ht]
 simp only[hi,he]
 exact⟨hb,Kq.here _ _⟩
def sAt(s:ByteArray)(n:Nat):Int:=((s.data.toList.getD n 0).toNat:Int)
theorem T_ixS {t:TypeId}{i:TyE}{s:ByteArray}{k:IntKind}{v:Int}(hb:0≤v∧v<(s.size:Int))(ht:tb t=some i)(hi:i.ty=.str:=by exact rfl)(hx:ev x=dS s:=by exact rfl)(hy:ev y=dI k v:=by exact rfl):AVC P tb dr (.index t x y) ty ev hp (Kq (dI .u8 (sAt s v.toNat)) hp):=by
 rw[Ql,hx,hy,Ma,ht]
 simp only[hi]
 exact⟨hb,Kq.here _ _⟩
theorem T_ext {ds:List D}{i:Nat}(hx:ev x=.tu ds:=by exact rfl)(hd:ds[i]? =some d:=by exact rfl):AVC P tb dr (.extract x i) ty ev hp (Kq d hp):=by
 rw[J8,hx,In,hd,PO];exact Kq.here _ _
theorem Qx {t e:TypeId}{i j:TyE}{n:Nat}{xs:List E}(ht:tb t=some i)(he:tb e=some j)(hi:i.ty=.slice e:=by exact rfl)(hx:(ev x).asSl j.size=some (n,xs):=by exact rfl):AVC P tb dr (.call ⟨.builtin .len,#[x],#[t]⟩) ty ev hp (Kq (dI .i64 n) hp):=by
 show kF tb .len [t] [ev x] hp _
 rw[A9,KN,ht]
 simp only[hi,he,hx]
 exact Kq.here _ _
theorem T_min {ts:Array TypeId}{k k':IntKind}{a b:Int}(hx:ev x=dI k a:=by exact rfl)(hy:ev y=dI k' b:=by exact rfl):AVC P tb dr (.call ⟨.builtin .min,#[x,y],ts⟩) ty ev hp (Kq (dI k (min a b)) hp):=by
 show kF tb .min ts.toList [ev x,ev y] hp _
 rw[hx,hy,Iz];exact Kq.here _ _
theorem T_max {ts:Array TypeId}{k k':IntKind}{a b:Int}(hx:ev x=dI k a:=by exact rfl)(hy:ev y=dI k' b:=by exact rfl):AVC P tb dr (.call ⟨.builtin .max,#[x,y],ts⟩) ty ev hp (Kq (dI k (max a b)) hp):=by
 show kF tb .max ts.toList [ev x,ev y] hp _
 rw[hx,hy,IA];exact Kq.here _ _
theorem news_sl {t e:TypeId}{z m:Nat}{ys:List E}{i:TyE}{xd:D}{kn:Nat→List E→Prop}(ht:tb t=some i)(hi:i.ty=.slice e)(hs:xd.strOf=none)(hx:xd.asSl z=some (m,ys))(h:kn m ys):yJ tb t z xd kn:=by
 rw[N6,ht];simp only[hi,hs,hx];exact h
theorem qn {vs:List (Nat×List D)}{lv:List (Nat×Nat×Nat×TypeId)}{N0:Nat}{α:Type}{t e:TypeId}{i j:TyE}{id m:Nat}{c:Cd α}{l l':List α}(ht:tb t=some i)(he:tb e=some j)(hf:(l++l').length*max 1 j.bytes≤140737488355328)(hi:i.ty=.slice e:=by exact rfl)(hz:Nat.ble (0+1) (j.size)=true:=by exact rfl)(hx:ev x=dO id c l:=by exact rfl)(hc:c.sz=j.size:=by exact rfl)(hl:lv.lookup id=some (l.length,j.size,e):=by exact rfl)(hs:(ev y).strOf=none:=by exact rfl)(hy:(ev y).asSl j.size=some (m,l'.flatMap c.f):=by exact rfl)(hm:m=l'.length:=by exact rfl):
  AVC P tb dr (.call ⟨.builtin .append,#[x,y],#[t,t]⟩) ty ev ⟨vs,lv,N0⟩ (Kq (dO id c (l++l')) ⟨vs,(id,(l++l').length,j.size,e)::lv,N0⟩):=by
 replace hz:=dK hz
 subst hm
 show kF tb .append [t,t] [ev x,ev y] _ _
 rw[hx,Df,IF,ht]
 simp only[hi,he]
 refine⟨hz,fun _=>trivial,fun h=>absurd hs h,news_sl ht hi hs hy ?_⟩
 refine⟨hc,hl,by rw[←c8];exact hf,?_⟩
 dsimp only[dO]
 rw[c8,List.flatMap_append,hc]
 exact Kq.here _ _
def xL {α:Type}(l:List α)(a b:Int):List α:=(l.drop a.toNat).take (b - a).toNat
theorem Hy {α:Type}{l:List α}{a b:Int}(h:0≤a∧a≤b∧b≤(l.length:Int)):(xL l a b).length=(b - a).toNat:=by
 simp only[xL,eH,fT];omega
theorem slE_sub {α:Type}{c:Cd α}{l:List α}{a b:Int}(h:0≤a∧a≤b∧b≤(l.length:Int)):E.sl c.sz (b - a).toNat (((l.flatMap c.f).drop (a.toNat*c.sz)).take ((b - a).toNat*c.sz))=slE c (xL l a b):=by
 unfold slE
 rw[Hy h,n4 c.f c.h,kE c.f c.h];rfl
theorem T_sl {α:Type}{t e:TypeId}{i j:TyE}{c:Cd α}{l:List α}{n:Nat}{lo hi:Option Operand}{a b:Int}(hb:0≤a∧a≤b∧b≤(l.length:Int))(ht:tb t=some i)(he:tb e=some j)(M2:i.ty=.slice e:=by exact rfl)(hc:c.sz=j.size:=by exact rfl)(hx:(ev x).asSl j.size=some (n,l.flatMap c.f):=by exact rfl)(hn:n=l.length:=by exact rfl)(Eu:pp (lo.map ev) 0=fun k=>k a:=by exact rfl)(KW:pp (hi.map ev) n=fun k=>k b:=by exact rfl):AVC P tb dr (.slice t x lo hi none) ty ev hp (Kq (dL c (xL l a b)) hp):=by
 subst hn
 rw[Qk]
 unfold Ci
 rw[ht]
 simp only[M2,he,hx,Eu,KW,Option.map_none]
 refine⟨hb,?_⟩
 rw[←hc,slE_sub hb]
 exact Kq.here _ _
theorem bb {x:Operand}{f:FuncId}{aS:List Operand}{ts:Array TypeId}{ds:List D}{r:D}(Bu:ev x=.e (.lit (.func (.func f) #[] #[])))(hc:ax P f ds r)(ka:((aS.map ev).map D.ex).all D.pure=true)(hl:leL ((aS.map ev).map D.ex) ds)(hr:r.pure=true∨∃ds,r=.tu ds):AVC P tb dr (.call ⟨.value x,aS.toArray,ts⟩) ty ev hp (Kq r hp):=by
 show ua P (hvB tb ⟨.value x,aS.toArray,ts⟩) (ev x) (aS.toArray.toList.map ev) hp (Kq r hp)
 rw[Bu]
 refine⟨rfl,rfl,.inl ⟨ka,r,ax.le hc hl,?_⟩⟩
 unfold GO
 split
 ·rcases hr with hr|⟨_,hr⟩ <;> cases hr
 ·rcases hr with hr|⟨_,hr⟩ <;> cases hr
 ·exact Kq.here _ _
theorem io {vs:List (Nat×List D)}{lv:List (Nat×Nat×Nat×TypeId)}{N0:Nat}{x:Operand}{f:FuncId}{aS:List Operand}{ts:Array TypeId}{ds:List D}{e z n:Nat}{xs:List E}(Bu:ev x=.e (.lit (.func (.func f) #[] #[])))(hc:ax P f ds (.own e z n xs))(ka:((aS.map ev).map D.ex).all D.pure=true)(hl:leL ((aS.map ev).map D.ex) ds):AVC P tb dr (.call ⟨.value x,aS.toArray,ts⟩) ty ev ⟨vs,lv,N0⟩ (Kq (.own N0 z n xs) ⟨vs,(N0,n,z,e)::lv,N0+1⟩):=by
 show ua P (hvB tb ⟨.value x,aS.toArray,ts⟩) (ev x) (aS.toArray.toList.map ev) _ _
 rw[Bu]
 exact⟨rfl,rfl,.inl ⟨ka,_,ax.le hc hl,Kq.here _ _⟩⟩
theorem T_callH {x:Operand}{f:FuncId}{aS:List Operand}{ts:Array TypeId}{ds:List D}(Bu:ev x=.e (.lit (.func (.func f) #[] #[])))(hc:HC P f ds hp d hp')(hd:aS.map ev=ds:=by exact rfl)(hh:hvB tb ⟨.value x,aS.toArray,ts⟩=true:=by exact rfl):AVC P tb dr (.call ⟨.value x,aS.toArray,ts⟩) ty ev hp (Kq d hp'):=by
 show ua P (hvB tb ⟨.value x,aS.toArray,ts⟩) (ev x) (aS.toArray.toList.map ev) hp _
 rw[Bu]
 refine⟨rfl,rfl,.inr ⟨hh,d,hp',?_,Kq.here _ _⟩⟩
 show HC P f (aS.map ev) hp d hp'
 rw[hd];exact hc
theorem T_callF {x:Operand}{f:FuncId}{ks:List Nat}{aS:List Operand}{ts:Array TypeId}{ds:List D}(Bu:ev x=.fn f ks)(hc:HC P f ds hp d hp')(hd:aS.map ev++ks.map (fun k=>D.pt k 0)=ds:=by exact rfl)(hh:hvB tb ⟨.value x,aS.toArray,ts⟩=true:=by exact rfl):AVC P tb dr (.call ⟨.value x,aS.toArray,ts⟩) ty ev hp (Kq d hp'):=by
 show ua P (hvB tb ⟨.value x,aS.toArray,ts⟩) (ev x) (aS.toArray.toList.map ev) hp _
 rw[Bu]
 refine .inr ⟨hh,d,hp',?_,Kq.here _ _⟩
 show HC P f (aS.map ev++ks.map fun k=>.pt k 0) hp d hp'
 rw[hd];exact hc
theorem DC {f:FuncId}{first cs:List Operand}{ks:List Nat}(h:first.length=0:=by exact rfl)(hc:A8 (cs.map ev)=some ks:=by exact rfl)(hn:cs.length≠0:=by decide):AVC P tb dr (.makeFunc (.func f) first.toArray cs.toArray) ty ev hp (Kq (.fn f ks) hp):=by
 rw[ID]
 show first.length=0∧_
 refine⟨h,?_⟩
 cases cs with
 |nil=>exact absurd rfl hn
 |cons c cs=>
  show (match A8 ((c::cs).map ev) with|some ks=>BA (Kq (.fn f _) hp) hp (.fn f ks)|none=>False)
  rw[hc]
  exact Kq.here _ _
theorem Qv {k off:Nat}(hx:ev x=.pt k off:=by exact rfl):AVC P tb dr (.nilCheck x) ty ev hp (Kq (.pt k off) hp):=by rw[Ba,hx,nilV_pt];exact Kq.here _ _
theorem Qw {xs:List E}{off:Nat}(hx:ev x=.fp xs off:=by exact rfl):AVC P tb dr (.nilCheck x) ty ev hp (Kq (.fp xs off) hp):=by rw[Ba,hx,nilV_fp];exact Kq.here _ _
end
section
variable {P:Program} {tb:TypeId→Option TyE} {x:Cx} {tm tm':List (Nat×D)} {hp hp':Hp} {Q:Exit→List (Nat×D)→Hp→Prop}
theorem own_mtG(w:World)(e:TypeId)(base size:Nat)(hb:base≤w.heap.size):(w.alloc (.cells #[] e)).ownsRow base e size (.slice (some ⟨w.heap.size,0,none⟩) 0 0) 0 []:=
 ⟨by simp,.inr ⟨w.heap.size,0,#[],rfl,hb,heap_alloc_new w _,aB _,by decide,by simp,by simp⟩⟩
theorem Qa {f:FuncId}{e z n:Nat}{xs:List E}(hz:0<z)(hf:MV P f)(h:∀(us:List Value) (v:Value) (w:World),Sl w v z n us→(∀u∈us,u.oneCell'=true)→Calls P f #[v] w fun en w'=>∃q,en=.returned q∧w'.ownsRow w.heap.size e z q n us∧Below w.heap.size w w'):ax P f [.e (.sl z n xs)] (.own e z n xs):=
 ax.of1 hf fun w F v hF hv=>by
  have hv:=hv.e_inv
  obtain⟨us,DX,wO⟩:=sl_rep hv
  refine (h us v w DX (fun u hu=>by
   obtain⟨j,hj⟩:=zj hu
   have b8:j<xs.length:=by
    rw[wO.1]
    rcases hE j us.length with h|h
    ·exact h
    ·rw[rC h] at hj;cases hj
   exact (wO.2 j _ u (de b8) hj).one)).mono ?_
  rintro en w' ⟨q,rfl,ho,hb⟩
  exact⟨q,rfl,⟨hz,⟨us,ho⟩,own_rep hF hz ho hb wO⟩,hb⟩
theorem AW.loopO {c:Code}{S X:Type}{b:S→Option (S⊕X)}(T:S→List (Nat×D))(H:S→Hp)(QX:X→Exit→List (Nat×D)→Hp→Prop)
  (round:∀s y,b s=some y→AW P x c (T s) (H s) fun ex tm' hp'=>match y with| .inl s'=>ex=.normal∧Wk x tm' hp' (T s') (H s')| .inr e=>ex≠.normal∧QX e ex tm' hp')
  {s:S} {e:X} (h:bL b s=some e) (hw:Wk x tm hp (T s) (H s)):AW P x (.loop c) tm hp (QX e):=by
 obtain⟨n,hn⟩:=tY.1 h
 refine AW.loop (fun n tm hp=>∃s,tm=T s∧hp=H s∧sZ b n s=some e) (n:=n) hw ⟨s,rfl,rfl,hn⟩ ?_
 rintro n tm hp ⟨s,rfl,rfl,hs⟩
 cases n with
 |zero=>cases hs
 |succ n=>
  unfold sZ at hs
  split at hs
  ·rename_i s' hb
   refine AW.mono (round s _ hb) ?_
   rintro ex tm' hp' ⟨rfl,hwk⟩
   exact⟨n,_,_,e9 _,hwk,s',rfl,rfl,hs⟩
  ·rename_i e' hb
   injection hs with hs
   subst hs
   refine AW.mono (round s _ hb) ?_
   rintro ex tm' hp' ⟨h1,h2⟩
   cases ex with
   |normal=>exact absurd rfl h1
   |_=>exact h2
  ·cases hs
def wkT(σ:Nat→Nat)(m:Nat)(tm:List (Nat×D)):List (Nat×D)→Prop
 |[]=>True
 |(t,d)::l=>((∃d0,tm.lookup t=some d0∧d0.le (d.ren σ))∧d.idsB m=true∧d.noOs=true)∧wkT σ m tm l
def wkV(σ:Nat→Nat)(m:Nat)(vs:List (Nat×List D)):List (Nat×List D)→Prop
 |[]=>True
 |(k,ds)::l=>(k<m∧(∃sm,vs.lookup (σ k)=some sm∧xz sm (ds.map (D.renC σ)))∧ds.all (D.idsC m)=true∧ds.all D.noO=true)∧wkV σ m vs l
def wkL(σ:Nat→Nat)(m:Nat)(lv:List (Nat×Nat×Nat×TypeId)):List (Nat×Nat×Nat×TypeId)→Prop
 |[]=>True
 |(k,y)::l=>(k<m∧lv.lookup (σ k)=some y)∧wkL σ m lv l
theorem Kk {σ:Nat→Nat}{m:Nat}:∀{l:List (Nat×D)},wkT σ m tm l→∀p∈l,(∃d0,tm.lookup p.1=some d0∧d0.le (p.2.ren σ))∧p.2.idsB m=true∧p.2.noOs=true
 |_::_,h,_,.head _=>h.1
 |_::_,h,p,.tail _ hp=>Kk h.2 p hp
theorem tH {σ:Nat→Nat}{m:Nat}{vs:List (Nat×List D)}:∀{l:List (Nat×List D)},wkV σ m vs l→∀p∈l,p.1<m∧(∃sm,vs.lookup (σ p.1)=some sm∧xz sm (p.2.map (D.renC σ)))∧p.2.all (D.idsC m)=true∧p.2.all D.noO=true
 |_::_,h,_,.head _=>h.1
 |_::_,h,p,.tail _ hp=>tH h.2 p hp
theorem wi {σ:Nat→Nat}{m:Nat}{lv:List (Nat×Nat×Nat×TypeId)}:∀{l:List (Nat×Nat×Nat×TypeId)},wkL σ m lv l→∀p∈l,p.1<m∧lv.lookup (σ p.1)=some p.2
 |_::_,h,_,.head _=>h.1
 |_::_,h,p,.tail _ hp=>wi h.2 p hp
theorem Wk.to {vars':List (Nat×List D)}{qq:List (Nat×Nat×Nat×TypeId)}{m:Nat}(N0:Nat)(os:List Nat)(h0:x.hp0.next=N0)(hs:(os.all fun o=>decide (N0≤o))=true)(Gn:os.Nodup)(hm:m=N0+os.length)
  (ht:wkT (sg N0 os) m tm tm') (hv:wkV (sg N0 os) m hp.vars vars') (hl:wkL (sg N0 os) m hp.live qq):Wk x tm hp tm' ⟨vars',qq,m⟩:=by
 have hs:∀o∈os,N0≤o:=by simpa using hs
 intro a w ⟨g,hr,nX,hsz,D4,hB,hF,hM⟩
 subst h0 hm
 have d9:∀id y,(⟨vars',qq,x.hp0.next+os.length⟩:Hp).live.lookup id=some y→hp.live.lookup (sg x.hp0.next os id)=some y:=fun id y h=>(wi hl _ (bQ h)).2
 have b8:∀i,i<x.hp0.next→sg x.hp0.next os i=i:=fun i hi=>by unfold sg;simp[hi]
 refine⟨⟨fun i=>g.μ (sg x.hp0.next os i),fun i=>g.τ (sg x.hp0.next os i),g.F⟩,⟨fun k ds hk=>?_,fun k k' ds ds' hk uW he=>?_,fun id n e hi=>?_,fun id Ai t t' b hi xj hb pR=>?_,hr.base,hr.fits⟩,fun t d h=>?_,hsz,D4,hB,hF,
  ⟨hM.size,hM.cell,hM.forb,tk _ _,fun k hk=>by show g.μ _=_;rw[b8 k hk];exact hM.μ k hk,fun id hid n e Ml=>?_,fun b hb hf=>⟨(hM.fr b hb hf).1,(hM.fr b hb hf).2.1,fun k ds hk=>by obtain⟨_,⟨_,h,_⟩,_⟩:=tH hv _ (bQ hk);exact (hM.fr b hb hf).2.2.1 _ _ h,fun id t hi=>(hM.fr b hb hf).2.2.2 _ t (d9 id _ hi)⟩,hM.szs⟩⟩
 ·obtain⟨h1,⟨sm,h2,qr⟩,h3,h4⟩:=tH hv _ (bQ hk)
  obtain⟨_,h5,h6,cs,ty,h7,h8,h9⟩:=hr.var _ _ h2
  have JZ:∀d∈ds,D.idsC (x.hp0.next+os.length) d=true:=by simpa using h3
  have h4':∀d∈ds,D.noO d=true:=by simpa using h4
  have wQ:=sR qr
  refine⟨h1,h5,h6,cs,ty,h7,by rw[bw] at wQ;have Bw:sm.length=ds.length:=wQ.symm;omega,fun j u hu=>⟨fun h=>(h9 j u hu).1 (by rw[bw] at wQ;have Bw:sm.length=ds.length:=wQ.symm;have h12:j<ds.length:=h;omega),fun d hd=>?_⟩⟩
  obtain⟨d0,vy,hle⟩:=u4 qr (j:=j) (d':=d.renC (sg x.hp0.next os)) (by rw[ep,hd];rfl)
  exact j9 (((h9 j u hu).2 d0 vy).leC hle) (JZ d (er hd)) (h4' d (er hd)) rfl (fun _=>rfl) (fun _=>rfl) rfl d9
 ·obtain⟨h1,⟨_,h2,_⟩,_⟩:=tH hv _ (bQ hk)
  obtain⟨qI,⟨_,qr,_⟩,_⟩:=tH hv _ (bQ uW)
  exact NA hs Gn h1 qI (hr.inj _ _ _ _ h2 qr he)
 ·obtain⟨h1,h2⟩:=wi hl _ (bQ hi)
  obtain⟨_,us,h3,h4,h5⟩:=hr.tok _ n e h2
  exact⟨h1,us,h3,h4,fun b hb=>⟨(h5 b hb).1,fun k ds hk=>by
   obtain⟨_,⟨_,h6,_⟩,_⟩:=tH hv _ (bQ hk)
   exact (h5 b hb).2 _ _ h6⟩⟩
 ·obtain⟨h1,h2⟩:=wi hl _ (bQ hi)
  obtain⟨qI,qr⟩:=wi hl _ (bQ xj)
  exact NA hs Gn h1 qI (hr.tinj _ _ _ _ b h2 qr hb pR)
 ·obtain⟨⟨d0,h1,hle⟩,h2,h3⟩:=Kk ht _ (bQ h)
  exact BI ((nX t _ h1).le hle) h2 h3 rfl (fun _=>rfl) (fun _=>rfl) rfl d9
 ·obtain⟨m0,h1,h2,h3⟩:=hM.live id hid n e (by rw[←b8 id hid];exact d9 id _ Ml)
  exact⟨m0,h1,h2,fun h=>by show g.τ _=_;rw[b8 id hid];exact h3 h⟩
theorem ap(d:D):d.le d:=.inl (.inl rfl)
theorem gM {d d':D}(h:d=d'):d.le d':=h▸ap d
theorem Oh(d:D):d.le d.ex:=.inr (.inl rfl)
theorem Og {z:Nat}(hz:0<z):D.le dN (.e (.sl z 0 [])):=.inl (.inr (.inr ⟨rfl,z,hz,rfl⟩))
theorem se {ds ds':List D}(h:xz ds ds'):D.le (.ag ds) (.ag ds'):=.inr (.inr ⟨ds,ds',rfl,rfl,h⟩)
theorem FK {t:Tmp}{d:D}{k:D→Prop}(h:tm.lookup t=some d)(hk:k d):sB tb tm hp (.tmp t) k:=⟨d,h,hk⟩
theorem NG {p:Tmp}{ty:TypeId}{j off:Nat}{i:TyE}{ds es:List D}{k:D→Prop}(h:tm.lookup p=some (.pt j off))(ht:tb ty=some i)(hg:i.ty.agg=true)(hv:hp.vars.lookup j=some ds)(hn:j<hp.next)(hl:off+i.size≤ds.length)(hd:(ds.drop off).take i.size=es)(hk:k (.ag es)):sB tb tm hp (.cell p ty) k:=by
 refine⟨_,h,⟨i,ht⟩,?_⟩
 rw[ox,ht,hv]
 simp only[hg]
 exact⟨hn,hl,by rw[hd];exact hk⟩
theorem oT.own {t:Tmp}{id e z n:Nat}{xs:List E}(h:tm.lookup t=some (.own id z n xs))(hl:hp.live.lookup id=some (n,z,e)):oT tb [.tmp t] tm hp (.own e z n xs):=⟨_,h,.inr (.inl ⟨id,e,z,n,xs,rfl,hl,rfl⟩)⟩
theorem ax.toE {f:FuncId}{ds:List D}{e z n:Nat}{xs:List E}(h:ax P f ds (.own e z n xs)):ax P f ds (.e (.sl z n xs)):=by
 refine⟨h.1,fun w F vs hF hs hv=>(h.2 w F vs hF hs hv).mono ?_⟩
 rintro e w' ⟨v,rfl,hr,hb⟩
 obtain⟨_,_,h3⟩:=hr
 exact⟨v,rfl,aR.e _ _ (h3.less fun p hp=>.inl hp),hb⟩
end
theorem dG_noC {α:Type}(c:Cd α)(a:α)(σ:Nat→Nat):((c.f a).map D.e).map (D.renC σ)=(c.f a).map D.e:=by
 rw[pY];exact sw fun _ _=>rfl
theorem dG_ren {α:Type}(c:Cd α)(a:α)(σ:Nat→Nat):(dG c a).ren σ=dG c a:=by
 show D.ag (((c.f a).map D.e).map (D.renC σ))=_
 rw[dG_noC]
theorem le_G {α:Type}{c:Cd α}{a:α}{σ:Nat→Nat}{d:D}(h:d.le (dG c a)):d.le ((dG c a).ren σ):=by rw[dG_ren];exact h
theorem ids_G {α:Type}(c:Cd α)(a:α)(m:Nat):(dG c a).idsB m=true:=by
 show ((c.f a).map D.e).all (D.idsC m)=true
 rw[List.all_map];exact dc.2 fun _ _=>rfl
theorem noO_G {α:Type}(c:Cd α)(a:α):(dG c a).noOs=true:=by
 show ((c.f a).map D.e).all D.noO=true
 rw[List.all_map];exact dc.2 fun _ _=>rfl
theorem ii {α:Type}(c:Cd α)(a:α):(dG c a).pure=true:=by
 show ((c.f a).map D.e).all D.pureC=true
 rw[List.all_map];exact dc.2 fun _ _=>rfl
theorem fm {α:Type}(c:Cd α)(a:α){z:Nat}(h:c.sz=z):((c.f a).drop 0).take z=c.f a:=by
 rw[rB,iP (by rw[c.h,h];exact aB _)]
theorem AW.scope {P:Program}{x:Cx}{Q:Exit→List (Nat×D)→Hp→Prop}{tm:List (Nat×D)}{hp:Hp}{c:Code}(h:AW P x c tm hp fun ex tm' hp'=>match ex with| .goto _=>False|ex=>Q ex tm' hp'):AW P x (.scope c) tm hp Q:=by
 intro a w hr
 refine wp_scope_straight (wp_mono (h a w hr) ?_)
 rintro ex a' w' ⟨tm',hp',h1,h2⟩
 cases ex with
 |goto l=>exact h2.elim
 |_=>exact⟨tm',hp',h1,h2⟩
theorem AW.label {P:Program}{x:Cx}{Q:Exit→List (Nat×D)→Hp→Prop}{tm:List (Nat×D)}{hp:Hp}{l:Nat}(h:Q .normal tm hp):AW P x (.label l) tm hp Q:=fun _ _ hr=>wp_label ⟨tm,hp,hr,h⟩
theorem AW.condT {P:Program}{x:Cx}{Q:Exit→List (Nat×D)→Hp→Prop}{tm:List (Nat×D)}{hp:Hp}{c:Operand}{c1 c2:Code}{b:Bool}(hc:evD tm c=.e (.lit (.bool b)))(hb:b=true)(h:AW P x c1 tm hp Q):AW P x (.cond c c1 c2) tm hp Q:=
 AW.condS hc (fun _=>h) fun hf=>by rw[hb] at hf;cases hf
theorem AW.condF {P:Program}{x:Cx}{Q:Exit→List (Nat×D)→Hp→Prop}{tm:List (Nat×D)}{hp:Hp}{c:Operand}{c1 c2:Code}{b:Bool}(hc:evD tm c=.e (.lit (.bool b)))(hb:b=false)(h:AW P x c2 tm hp Q):AW P x (.cond c c1 c2) tm hp Q:=
 AW.condS hc (fun hf=>by rw[hb] at hf;cases hf) fun _=>h
theorem wk {x:Cx}{tm tm':List (Nat×D)}{hp:Hp}{vars':List (Nat×List D)}{qq:List (Nat×Nat×Nat×TypeId)}{m:Nat}(h0:x.hp0=⟨[],[],0⟩)(os:List Nat)(ht:wkT (sg 0 os) m tm tm')(hv:wkV (sg 0 os) m hp.vars vars')(hl:wkL (sg 0 os) m hp.live qq)(Gn:os.Nodup:=by decide)(hm:m=0+os.length:=by exact rfl):Wk x tm hp tm' ⟨vars',qq,m⟩:=
 Wk.to 0 os (by rw[h0]) (by simp) Gn hm ht hv hl
theorem wkN {x:Cx}{tm tm':List (Nat×D)}{hp:Hp}{vars':List (Nat×List D)}{qq:List (Nat×Nat×Nat×TypeId)}{m N0:Nat}(h0:x.hp0.next=N0)(os:List Nat)(ht:wkT (sg N0 os) m tm tm')(hv:wkV (sg N0 os) m hp.vars vars')(hl:wkL (sg N0 os) m hp.live qq)(hs:(os.all fun o=>decide (N0≤o))=true:=by decide)(Gn:os.Nodup:=by decide)(hm:m=N0+os.length:=by exact rfl):Wk x tm hp tm' ⟨vars',qq,m⟩:=
 Wk.to N0 os h0 hs Gn hm ht hv hl
theorem aC {α:Type}(c:Cd α)(a:α):(D.ex (dG c a)).pure=true:=by
 have:D.ex (dG c a)=dG c a:=by
  show D.ag (((c.f a).map D.e).map D.exC)=_
  rw[pY];rfl
 rw[this];exact ii c a
section
variable {σ:Nat→Nat} {m k t:Nat} {tm l:List (Nat×D)} {d d0 d':D} {ds sm ds':List D} {vs lv:List (Nat×List D)} {ll l2:List (Nat×Nat×Nat×TypeId)} {y:Nat×Nat×TypeId}
theorem wT(h1:tm.lookup t=some d0)(h2:d0.le (d.ren σ))(h3:d.idsB m=true)(h4:d.noOs=true)(hl:wkT σ m tm l):wkT σ m tm ((t,d)::l):=⟨⟨⟨_,h1,h2⟩,h3,h4⟩,hl⟩
theorem wR(h1:tm.lookup t=some (d.ren σ))(hl:wkT σ m tm l)(h3:d.idsB m=true:=by exact rfl)(h4:d.noOs=true:=by exact rfl):wkT σ m tm ((t,d)::l):=⟨⟨⟨_,h1,ap _⟩,h3,h4⟩,hl⟩
theorem vR(h1:vs.lookup (σ k)=some (ds.map (D.renC σ)))(hl:wkV σ m vs lv)(h0:Nat.ble (k+1) m=true:=by exact rfl)(h3:ds.all (D.idsC m)=true:=by exact rfl)(h4:ds.all D.noO=true:=by exact rfl):wkV σ m vs ((k,ds)::lv):=⟨⟨ltb h0,⟨_,h1,qO _⟩,h3,h4⟩,hl⟩
theorem wL(h0:Nat.ble (k+1) m=true)(h1:ll.lookup (σ k)=some y)(hl:wkL σ m ll l2):wkL σ m ll ((k,y)::l2):=⟨⟨ltb h0,h1⟩,hl⟩
theorem wc(h:d.leC d')(hl:xz ds ds'):xz (d::ds) (d'::ds'):=⟨h,hl⟩
theorem sE(d:D):d.leC d:=.inl rfl
theorem lc_x(d:D):d.leC d.exC:=.inr (.inl rfl)
theorem L9 {z:Nat}(h:Nat.ble 1 z=true):D.leC dN (.e (.sl z 0 [])):=.inr (.inr ⟨rfl,z,leb h,rfl⟩)
theorem wTn:wkT σ m tm []:=trivial
theorem wVn:wkV σ m vs []:=trivial
theorem wLn:wkL σ m ll []:=trivial
theorem wcn:xz [] []:=trivial
theorem lAn:leL [] []:=trivial
theorem lA(h:d.le d')(hl:leL ds ds'):leL (d::ds) (d'::ds'):=⟨h,hl⟩
end
theorem rH0 {x:Cx}{tb:TypeId→Option TyE}{tm:List (Nat×D)}{hp hp':Hp}(hw:Wk x tm hp [] hp'):∃tm',Wk x tm hp tm' hp'∧sQ tb [] tm' hp' (.tu []):=⟨_,hw,rfl⟩
theorem rH1 {x:Cx}{tb:TypeId→Option TyE}{tm:List (Nat×D)}{hp hp':Hp}{t:Tmp}{d:D}(hw:Wk x tm hp [(t,d)] hp'):∃tm',Wk x tm hp tm' hp'∧sQ tb [.tmp t] tm' hp' d:=⟨_,hw,_,ab,rfl⟩
theorem oT.mk1 {tb:TypeId→Option TyE}{tm:List (Nat×D)}{hp:Hp}{q:ResultVar}{r:D}(h:sB tb tm hp q fun d=>(d.ex.pure=true∧r=d.ex)∨(∃id e z n xs,d=.own id z n xs∧hp.live.lookup id=some (n,z,e)∧r=.own e z n xs)∨∃d2,d.le d2∧d2.pure=true∧r=d2):oT tb [q] tm hp r:=h
theorem oT.mk2 {tb:TypeId→Option TyE}{tm:List (Nat×D)}{hp:Hp}{q q':ResultVar}{r:D}(h:sB tb tm hp q fun d=>sB tb tm hp q' fun d'=>((d.ex.pure=true∧d'.ex.pure=true)∧r=.tu [d.ex,d'.ex])∨∃e e',d.le e∧d'.le e'∧(e.pure=true∧e'.pure=true)∧r=.tu [e,e']):oT tb [q,q'] tm hp r:=h
end
section
def dg(b A j:Nat):Nat:=A / b ^ j % b
section
variable {b A B n k j p x:Nat}
theorem PY(hb:0<b):dg b A j<b:=eO _ hb
theorem mh(h:A<b ^ j):dg b A j=0:=by unfold dg;rw[eV h,Nat.zero_mod]
theorem ia:A % b ^ (k+1)=A % b ^ k+b ^ k*dg b A k:=Nat.mod_pow_succ
theorem c6:A / b ^ k=A / b ^ (k+1)*b+dg b A k:=by
 unfold dg
 rw[dM,←g9,db]
 exact (ln _ _).symm
theorem nP(hj:j<k):dg b (A % b ^ k) j=dg b A j:=by
 unfold dg
 obtain⟨m,rfl⟩:∃m,k=j+(m+1):=⟨k - j - 1,by omega⟩
 rw[g8,Nat.mod_mul_right_div_self,dM,Nat.mod_mul_left_mod]
theorem K7(hb:0<b)(hj:k≤j):dg b (A % b ^ k) j=0:=
 mh (eD (eO _ (cr hb)) (i9 hb hj))
theorem PZ(hA:A<b ^ n)(hB:B<b ^ n)(h:∀j,j<n→dg b A j=dg b B j):A=B:=by
 have key:∀k,k≤n→A % b ^ k=B % b ^ k:=by
  intro k
  induction k with
  |zero=>intro _;simp[np]
  |succ k ih=>intro hk;rw[ia,ia,ih (by omega),h k (by omega)]
 have:=key n (aB _)
 rwa[gS hA,gS hB] at this
def up1(b A p x:Nat):Nat:=A / b ^ (p+1)*b ^ (p+1)+x*b ^ p+A % b ^ p
theorem Nt:A=A / b ^ (p+1)*b ^ (p+1)+dg b A p*b ^ p+A % b ^ p:=by
 have h1:=ln A (b ^ (p+1))
 rw[ia] at h1
 rw[db (dg b A p),wV,qx (b ^ p*dg b A p),db (A / b ^ (p+1))]
 exact h1.symm
theorem I7:up1 b A p x+dg b A p*b ^ p=A+x*b ^ p:=by
 have h:=Nt (b:=b) (A:=A) (p:=p)
 unfold up1
 omega
theorem part_lt(hb:0<b)(hx:x<b):x*b ^ p+A % b ^ p<b ^ (p+1):=by
 have h1:A % b ^ p<b ^ p:=eO _ (cr hb)
 have h2:(x+1)*b ^ p≤b*b ^ p:=dZ _ hx
 rw[cz,kG] at h2
 rw[dM,db (b ^ p) b]
 omega
theorem Kr(hb:0<b)(hx:x<b):up1 b A p x / b ^ (p+1)=A / b ^ (p+1):=by
 unfold up1
 rw[wV,qx,Nat.add_mul_div_right _ _ (cr hb),eV (part_lt hb hx),bJ]
theorem Kp(hb:0<b):up1 b A p x % b ^ p=A % b ^ p:=by
 unfold up1
 have e:A / b ^ (p+1)*b ^ (p+1)+x*b ^ p+A % b ^ p=A % b ^ p+(A / b ^ (p+1)*b+x)*b ^ p:=by
  rw[dM,cz]
  have:A / (b ^ p*b)*(b ^ p*b)=A / (b ^ p*b)*b*b ^ p:=by rw[fL,db b]
  omega
 rw[e,Nat.add_mul_mod_self_right,Nat.mod_mod]
theorem dg_up1(hb:0<b)(hx:x<b):dg b (up1 b A p x) j=if j=p then x else dg b A j:=by
 rcases Nat.lt_trichotomy j p with h|h|h
 ·rw[if_neg (by omega),←nP (A:=up1 b A p x) h,Kp hb,nP h]
 ·subst h
  rw[if_pos rfl]
  have h1:dg b (up1 b A j x) j*b ^ j=x*b ^ j:=by
   have e1:=Nt (b:=b) (A:=up1 b A j x) (p:=j)
   rw[Kr hb hx,Kp hb] at e1
   have e2:up1 b A j x=A / b ^ (j+1)*b ^ (j+1)+x*b ^ j+A % b ^ j:=rfl
   omega
  exact Nat.eq_of_mul_eq_mul_right (cr hb) h1
 ·rw[if_neg (by omega)]
  obtain⟨m,rfl⟩:∃m,j=(p+1)+m:=⟨j - p - 1,by omega⟩
  unfold dg
  rw[g8,←g9,←g9,Kr hb hx]
def vN(b n A:Nat):Vector Int n:=Vector.ofFn fun i=>(dg b A i.val:Int)
theorem jT {n:Nat}(h:j<n):(vN b n A)[j]! =(dg b A j:Int):=by
 rw[cO (vN b n A) j h]
 unfold vN
 rw[Vector.getElem_ofFn]
theorem og {n:Nat}{v w:Vector Int n}(h:∀i,i<n→v[i]! =w[i]!):v=w:=by
 apply Vector.ext
 intro i hi
 have:=h i hi
 rwa[cO v i hi,cO w i hi] at this
theorem pI {n:Nat}{v:Vector Int n}{i j:Nat}{y:Int}(hj:j<n):(v.set! i y)[j]! =if j=i then y else v[j]! :=by
 rw[cO (v.set! i y) j hj,cO v j hj]
 show (v.setIfInBounds i y)[j]=_
 rw[Vector.getElem_setIfInBounds]
 by_cases h:i=j
 ·rw[if_pos h,if_pos h.symm]
 ·rw[if_neg h,if_neg fun e=>h e.symm]
theorem zL {n:Nat}(hb:0<b)(hx:x<b)(_hp:p<n):(vN b n A).set! p (x:Int)=vN b n (up1 b A p x):=by
 apply og
 intro j hj
 rw[pI hj,jT hj,jT hj,dg_up1 hb hx]
 split <;> rfl
theorem FB {n:Nat}(_hb:0<b):vN b n (A % b ^ n)=vN b n A:=by
 apply og
 intro j hj
 rw[jT hj,jT hj,nP hj]
theorem vN_inj {n:Nat}(hA:A<b ^ n)(hB:B<b ^ n)(h:vN b n A=vN b n B):A=B:=by
 apply PZ hA hB
 intro j hj
 have e1:=jT (b:=b) (A:=A) hj
 rw[h,jT hj] at e1
 omega
theorem r8 {n:Nat}:vN b n 0=Vector.replicate n 0:=by
 apply og
 intro j hj
 rw[jT hj,cO _ j hj,Vector.getElem_replicate]
 unfold dg
 simp
def gK(b:Nat)(f:Nat→Nat):Nat→Nat
 |0=>0
 |n+1=>gK b f n+f n*b ^ n
theorem BD(hb:0<b){f:Nat→Nat}:∀n,(∀j,j<n→f j<b)→gK b f n<b ^ n
 |0,_=>by simp[gK]
 |n+1,h=>by
  have ih:=BD hb n fun j hj=>h j (by omega)
  have h1:=h n (by omega)
  have h2:(f n+1)*b ^ n≤b*b ^ n:=dZ _ h1
  rw[cz,kG] at h2
  rw[dM,db (b ^ n) b]
  unfold gK
  omega
theorem GH(hb:0<b){f:Nat→Nat}:∀n,(∀j,j<n→f j<b)→∀j,j<n→dg b (gK b f n) j=f j
 |0,_,j,hj=>by omega
 |n+1,h,j,hj=>by
  have h0:∀j,j<n→f j<b:=fun j hj=>h j (by omega)
  have b8:=BD hb n h0
  by_cases Am:j=n
  ·subst Am
   unfold dg gK
   rw[Nat.add_mul_div_right _ _ (cr hb),eV b8,bJ,gS (h j (by omega))]
  ·have e:dg b (gK b f (n+1)) j=dg b (gK b f n) j:=by
    rw[←nP (A:=gK b f (n+1)) (k:=n) (by omega),show gK b f (n+1)=gK b f n+f n*b ^ n from rfl,Nat.add_mul_mod_self_right,gS b8]
   rw[e]
   exact GH hb n h0 j (by omega)
theorem vN_of {n:Nat}(hb:0<b)(v:Vector Int n)(h:∀j,j<n→0≤v[j]!∧v[j]! <(b:Int)):∃A,A<b ^ n∧v=vN b n A:=by
 have hf:∀j,j<n→(v[j]!).toNat<b:=fun j hj=>by have:=h j hj;omega
 refine⟨gK b (fun j=>(v[j]!).toNat) n,BD hb n hf,?_⟩
 apply og
 intro j hj
 rw[jT hj,GH hb n hf j hj]
 have:=h j hj
 omega
theorem BE {n:Nat}(hb:0<b)(hk:k<n):(vN b n (A % b ^ k)).set! k (dg b A k:Int)=vN b n (A % b ^ (k+1)):=by
 apply og
 intro j hj
 rw[pI hj,jT hj,jT hj]
 by_cases h:j=k
 ·subst h;rw[if_pos rfl,nP (e9 _)]
 ·rw[if_neg h]
  rcases hE j k with h1|h1
  ·rw[nP h1,nP (by omega)]
  ·rw[K7 hb h1,K7 hb (by omega)]
theorem dg_hi(hb:0<b):dg b (A / b ^ k*b ^ k) j=if j<k then 0 else dg b A j:=by
 by_cases h:j<k
 ·rw[if_pos h]
  obtain⟨m,rfl⟩:∃m,k=m+1+j:=⟨k - j - 1,by omega⟩
  unfold dg
  rw[g8 b (m+1) j,←fL,Nat.mul_div_cancel _ (cr hb),dM,←fL,Nat.mul_mod_left]
 ·rw[if_neg h]
  obtain⟨m,rfl⟩:∃m,j=k+m:=⟨j - k,by omega⟩
  unfold dg
  rw[g8,←g9,←g9,Nat.mul_div_cancel _ (cr hb)]
theorem Ko {n:Nat}(hb:0<b)(_hk:k<n):(vN b n (A / b ^ (k+1)*b ^ (k+1))).set! k (dg b A k:Int)=vN b n (A / b ^ k*b ^ k):=by
 apply og
 intro j hj
 rw[pI hj,jT hj,jT hj,dg_hi hb,dg_hi hb]
 by_cases h:j=k
 ·subst h;rw[if_pos rfl,if_neg (Nat.lt_irrefl _)]
 ·rw[if_neg h]
  by_cases h1:j<k
  ·rw[if_pos (by omega),if_pos h1]
  ·rw[if_neg (by omega),if_neg h1]
end
end
section
section
variable {R S T:Type}
theorem c7(x y:Option R):cnd true x y=x:=rfl
theorem aK(x y:Option R):cnd false x y=y:=rfl
theorem BV(b c:Bool):cnd b (some c) (some false)=some (b&&c):=by cases b <;> rfl
theorem J6(b c:Bool):cnd b (some true) (some c)=some (b||c):=by cases b <;> rfl
theorem P9(b:Bool)(x:Option R):cnd b x x=x:=by cases b <;> rfl
theorem P8(b:Bool)(x y:R):cnd b (some x) (some y)=some (bif b then x else y):=by cases b <;> rfl
theorem nQ(x:Option R):(bnd x fun a=>some a)=x:=by cases x <;> rfl
theorem eg(p:Prop)[Decidable p](x y:Option R):cnd (decide p) x y=if p then x else y:=by
 by_cases h:p <;> simp[h,cnd]
theorem cE {p:Prop}[Decidable p](x y:Option R)(h:p):cnd (decide p) x y=x:=by rw[aF h];rfl
theorem co {p:Prop}[Decidable p](x y:Option R)(h:¬p):cnd (decide p) x y=y:=by rw[bf h];rfl
end
theorem subL_to {α:Type}(l:List α)(b:Int)(h:0≤b):xL l 0 b=l.take b.toNat:=by
 unfold xL;simp
theorem Ng {z:Int}(h:-9223372036854775808≤z∧z≤9223372036854775807):i64.wrap z=z:=eu h.1 h.2
end
theorem vp {S X:Type}{b:S→Option (S⊕X)}(Inv:S→Prop)(μ:S→Nat)(Post:X→Prop)(h:∀s,Inv s→(∃s',b s=some (.inl s')∧Inv s'∧μ s'<μ s)∨∃x,b s=some (.inr x)∧Post x)(s:S)(hs:Inv s):∃x,bL b s=some x∧Post x:=by
 generalize hm:μ s=m
 induction m using Nat.strongRecOn generalizing s with
 |_ m ih=>
  rcases h s hs with⟨s',h1,h2,h3⟩|⟨x,h1,h2⟩
  ·obtain⟨x,h4,h5⟩:=ih (μ s') (by omega) s' h2 rfl
   exact⟨x,(nW h1).trans h4,h5⟩
  ·exact⟨x,lS h1,h2⟩
theorem Jn {S X:Type}{b:S→Option (S⊕X)}(G:Nat→S)(n:Nat)(x:X)(hr:∀i,i<n→b (G (i+1))=some (.inl (G i)))(he:b (G 0)=some (.inr x)):bL b (G n)=some x:=by
 induction n with
 |zero=>exact lS he
 |succ n ih=>exact (nW (hr n (e9 _))).trans (ih fun i hi=>hr i (by omega))
theorem rf {S X:Type}{b:S→Option (S⊕X)}(G:Nat→S)(m:Nat)(x:X){s0:S}(h0:G 0=s0)(hr:∀i,i<m→b (G i)=some (.inl (G (i+1))))(he:b (G m)=some (.inr x)):bL b s0=some x:=by
 subst h0
 exact rh G 0 m x (cX _) (fun i _ hi=>hr i hi) he
theorem Oa {S X:Type}{b:S→Option (S⊕X)}(G:Nat→S)(n:Nat)(x:X){s0:S}(h0:G n=s0)(hr:∀i,i<n→b (G (i+1))=some (.inl (G i)))(he:b (G 0)=some (.inr x)):bL b s0=some x:=by
 subst h0
 exact Jn G n x hr he
theorem iD {n:Nat}(h:n<18446744073709551616):u64.wrap (n:Int)=(n:Int):=by
 rw[IntKind.wrap_u64];omega
theorem zP(n:Nat):u32.wrap (n:Int)=((n % 4294967296:Nat):Int):=by
 rw[IntKind.wrap_u32];omega
theorem zO {n:Nat}(h:n<4294967296):u32.wrap (n:Int)=(n:Int):=by
 rw[zP,gS h]
theorem CE(k:IntKind)(n s:Nat)(h:s≤k.bits):mR k (n:Int) (s:Int)=((n / 2 ^ s:Nat):Int):=by
 unfold mR
 rw[ct,su h]
 have:((2:Int) ^ s)=((2 ^ s:Nat):Int):=by rw[Int.natCast_pow];rfl
 rw[this,Int.fdiv_eq_ediv_of_nonneg _ (Int.natCast_nonneg _)]
 exact (Int.natCast_ediv ..).symm
theorem Ok(n s:Nat)(h:s≤64)(hn:n*2 ^ s<18446744073709551616):xP .u64 (n:Int) (s:Int)=((n*2 ^ s:Nat):Int):=by
 unfold xP
 have e:(IntKind.u64.bits)=64:=rfl
 rw[ct,e,su h]
 have:((n:Int)*(2:Int) ^ s)=((n*2 ^ s:Nat):Int):=by rw[jZ,Int.natCast_pow];rfl
 rw[this,iD hn]
theorem xb(n:Nat):mR .u64 (n:Int) (32:Int)=((n / 4294967296:Nat):Int):=CE .u64 n 32 (by decide)
theorem Nz(n:Nat):mR .u64 (n:Int) (63:Int)=((n / 9223372036854775808:Nat):Int):=CE .u64 n 63 (by decide)
theorem Hz {n:Nat}(h:n<4294967296):xP .u64 (n:Int) (32:Int)=((n*4294967296:Nat):Int):=Ok n 32 (by decide) (by omega)
theorem ior_n {a c s:Nat}(hc:c<2 ^ s)(b8:a*2 ^ s+c<18446744073709551616):ior .u64 ((a*2 ^ s:Nat):Int) (c:Int)=((a*2 ^ s+c:Nat):Int):=by
 unfold ior
 have e:(IntKind.u64.bits)=64:=rfl
 have h1:(BitVec.ofInt 64 ((a*2 ^ s:Nat):Int)).toNat=a*2 ^ s:=by
  rw[BitVec.toNat_ofInt];omega
 have h2:(BitVec.ofInt 64 (c:Int)).toNat=c:=by
  rw[BitVec.toNat_ofInt];omega
 rw[e,BitVec.toNat_or,h1,h2]
 have h3:a*2 ^ s |||c=a*2 ^ s+c:=by
  rw[db a]
  exact (Nat.two_pow_add_eq_or_of_lt hc a).symm
 rw[h3,iD b8]
theorem Ol(k:IntKind)(a b:Int):ior k a b=ior k b a:=by unfold ior;rw[BitVec.or_comm]
theorem HT {a c:Nat}(hc:c<4294967296)(ha:a<4294967296):ior .u64 ((a*4294967296:Nat):Int) (c:Int)=((a*4294967296+c:Nat):Int):=ior_n (s:=32) hc (by omega)
theorem b7 {z:Int}(h:-9223372036854775808≤z∧z≤9223372036854775807):i64.wrap z=z:=Ng h
section
def rn(os:List Nat)(m N:Nat)(i:Nat):Nat:=bif decide (i<m) then os.getD i 0 else N+(i - m)
def frV(ρ:Nat→Nat)(os:List Nat)(pb vs:List (Nat×List D)):List (Nat×List D):=pb.map (fun p=>(ρ p.1,p.2.map (D.renC ρ)))++vs.filter fun p=>!os.contains p.1
def frL(ρ:Nat→Nat)(os:List Nat)(lv' lv:List (Nat×Nat×Nat×TypeId)):List (Nat×Nat×Nat×TypeId):=lv'.map (fun p=>(ρ p.1,p.2))++lv.filter fun p=>!os.contains p.1
theorem mw {α β:Type}(ρ:Nat→Nat)(F:α→β):∀{l:List (Nat×α)} {k:Nat} {y:β},(l.map fun p=>(ρ p.1,F p.2)).lookup k=some y→∃i a,ρ i=k∧l.lookup i=some a∧F a=y
 |[],_,_,h=>by simp at h
 |(j,a)::l,k,y,h=>by
  by_cases hk:k=ρ j
  ·subst hk
   have:some (F a)=some y:=by rw[←h];exact ab.symm
   exact⟨j,a,rfl,ab,bW this⟩
  ·obtain⟨i,b,h1,h2,h3⟩:=mw ρ F (l:=l) (k:=k) (y:=y) (by rw[←h];exact (au hk).symm)
   exact⟨i,b,h1,(au fun e=>hk (by rw[←h1,e])).trans h2,h3⟩
theorem ri {α:Type}{l2:List (Nat×α)}{k:Nat}{y:α}:∀{l:List (Nat×α)},(l++l2).lookup k=some y→l.lookup k=some y∨l2.lookup k=some y
 |[],h=>.inr h
 |(j,a)::l,h=>by
  by_cases hk:k=j
  ·subst hk
   have:some a=some y:=by rw[←h];exact ab.symm
   exact .inl (by rw[←this];exact ab)
  ·rcases ri (l:=l) (by rw[←h];exact (au hk).symm) with h1|h1
   ·exact .inl ((au hk).trans h1)
   ·exact .inr h1
theorem js {α:Type}{os:List Nat}{k:Nat}{y:α}:∀{l:List (Nat×α)},(l.filter fun p=>!os.contains p.1).lookup k=some y→k∉os∧l.lookup k=some y
 |[],h=>by simp at h
 |(j,a)::l,h=>by
  by_cases hj:j∈os
  ·rw[List.filter_cons_of_neg (by simpa using hj)] at h
   obtain⟨h1,h2⟩:=js h
   exact⟨h1,(au fun e=>h1 (by rw[e];exact hj)).trans h2⟩
  ·rw[List.filter_cons_of_pos (by simpa using hj)] at h
   by_cases hk:k=j
   ·subst hk
    exact⟨hj,by rw[←h,ab,ab]⟩
   ·obtain⟨h1,h2⟩:=js (l:=l) (by rw[←h];exact (au hk).symm)
    exact⟨h1,(au hk).trans h2⟩
def D.okC:D→Bool
 | .ag ds=>ds.all D.pureC
 | .tu _=>false
 | .opt _ _=>false
 |_=>true
def D.okF:D→Bool
 | .ag ds=>ds.all D.okC
 | .tu ds=>ds.all D.okC
 |d=>d.okC
section
variable {hp dW:Hp} {g g2:Gh} {w:World} {ρ:Nat→Nat}
theorem Bx {d:D}{v:Value}(h:aR hp g w d v)(hn:d.okC=true)(rU:∀i,i<hp.next→ρ i<dW.next)(hμ:∀i,i<hp.next→g2.μ (ρ i)=g.μ i)(hτ:∀i,i<hp.next→g2.τ (ρ i)=g.τ i)(hF:g2.F=g.F)
  (hl:∀id,id<hp.next→∀y,dW.live.lookup (ρ id)=some y→hp.live.lookup id=some y):aR dW g2 w (d.renC ρ) v:=by
 cases h with
 |e y v h=>exact .e y v (by rw[hF];exact h)
 |own id z n xs v h hid ht=>exact .own _ z n xs v (by rw[hF];exact h) (rU id hid) (fun m e hm=>by rw[hτ id hid];exact ht m e (hl id hid _ hm))
 |fu z n xs A h=>exact .fu z n xs A (by rw[hF];exact h)
 |ag ds cs hlen h1 hr=>
  refine .ag ds cs hlen h1 fun j d u h2 h3=>?_
  have h4:=hr j d u h2 h3
  have h5:=dc.1 hn d (er h2)
  cases d with
  |e y=>cases h4 with
   |e _ _ h6=>exact .e y _ (by rw[hF];exact h6)
  |_=>cases h5
 |tu ds cs hl hr=>cases hn
 |fp xs off ad hb hc=>exact .fp xs off ad hb (by rw[hF];exact hc)
 |pt k off hk=>rw[←hμ k hk];exact .pt _ off (rU k hk)
 |ow k off z n c hk h1 h2=>rw[←hμ k hk];exact .ow _ off z n c (rU k hk) h1 h2
 |gw k z n c hk h1 h2 hs=>rw[←hμ k hk] at hs ⊢;exact .gw _ z n c (rU k hk) h1 h2 hs
 |fn f ks hk=>
  have:(ks.map fun k=>Value.pointer (some ⟨g.μ k,0,none⟩))=(ks.map ρ).map fun k=>Value.pointer (some ⟨g2.μ k,0,none⟩):=by
   rw[pY]
   exact sw fun k h=>by simp only[Function.comp,hμ k (hk k h)]
  rw[this]
  refine .fn f (ks.map ρ) fun k h=>?_
  obtain⟨i,h1,rfl⟩:=tj.1 h
  exact rU i (hk i h1)
 |opt b d v hi h=>cases hn
 |top v=>exact .top v
theorem CW {d:D}{v:Value}(h:aR hp g w d v)(hn:d.okF=true)(rU:∀i,i<hp.next→ρ i<dW.next)(hμ:∀i,i<hp.next→g2.μ (ρ i)=g.μ i)(hτ:∀i,i<hp.next→g2.τ (ρ i)=g.τ i)(hF:g2.F=g.F)
  (hl:∀id,id<hp.next→∀y,dW.live.lookup (ρ id)=some y→hp.live.lookup id=some y):aR dW g2 w (d.ren ρ) v:=by
 cases d with
 |ag ds=>cases h with
  |ag _ cs hlen h1 hr=>
   refine .ag _ cs (by simpa using hlen) h1 fun j d u h2 h3=>?_
   rw[ep] at h2
   obtain⟨d0,h4,rfl⟩:=xt.1 h2
   exact Bx (hr j d0 u h4 h3) (dc.1 hn d0 (er h4)) rU hμ hτ hF hl
 |tu ds=>cases h with
  |tu _ cs hlen hr=>
   refine .tu _ cs (by simpa using hlen) fun j d u h2 h3=>?_
   rw[ep] at h2
   obtain⟨d0,h4,rfl⟩:=xt.1 h2
   exact Bx (hr j d0 u h4 h3) (dc.1 hn d0 (er h4)) rU hμ hτ hF hl
 |e y=>exact Bx h hn rU hμ hτ hF hl
 |own id z n xs=>exact Bx h hn rU hμ hτ hF hl
 |fu z n xs=>exact Bx h hn rU hμ hτ hF hl
 |fp xs off=>exact Bx h hn rU hμ hτ hF hl
 |pt k off=>exact Bx h hn rU hμ hτ hF hl
 |ow k off z n=>exact Bx h hn rU hμ hτ hF hl
 |gw k z n=>exact Bx h hn rU hμ hτ hF hl
 |fn f ks=>exact Bx h hn rU hμ hτ hF hl
 |opt b d=>cases hn
 |top=>exact .top v
end
theorem HR.ren {B:Nat}{hp hpS:Hp}{g:Gh}{w:World}(hr:HR B hp g w)(σ:Nat→Nat)(xS:∀i j,i<hpS.next→j<hpS.next→σ i=σ j→i=j)
  (hv:∀k ds,hpS.vars.lookup k=some ds→k<hpS.next∧(∃sm,hp.vars.lookup (σ k)=some sm∧xz sm (ds.map (D.renC σ)))∧ds.all (D.idsC hpS.next)=true∧ds.all D.noO=true)
  (hl:∀id y,hpS.live.lookup id=some y→id<hpS.next∧hp.live.lookup (σ id)=some y):HR B hpS ⟨fun i=>g.μ (σ i),fun i=>g.τ (σ i),g.F⟩ w:=by
 have d9:∀id y,hpS.live.lookup id=some y→hp.live.lookup (σ id)=some y:=fun id y h=>(hl _ _ h).2
 refine⟨fun k ds hk=>?_,fun k k' ds ds' hk uW he=>?_,fun id n e hi=>?_,fun id Ai t t' b hi xj hb pR=>?_,hr.base,hr.fits⟩
 ·obtain⟨h1,⟨sm,h2,qr⟩,h3,h4⟩:=hv _ _ hk
  obtain⟨_,h5,h6,cs,ty,h7,h8,h9⟩:=hr.var _ _ h2
  have JZ:∀d∈ds,D.idsC hpS.next d=true:=by simpa using h3
  have h4':∀d∈ds,D.noO d=true:=by simpa using h4
  have wQ:=sR qr
  refine⟨h1,h5,h6,cs,ty,h7,by rw[bw] at wQ;omega,fun j u hu=>⟨fun h=>(h9 j u hu).1 (by rw[bw] at wQ;omega),fun d hd=>?_⟩⟩
  obtain⟨d0,vy,hle⟩:=u4 qr (j:=j) (d':=d.renC σ) (by rw[ep,hd];rfl)
  exact j9 (((h9 j u hu).2 d0 vy).leC hle) (JZ d (er hd)) (h4' d (er hd)) rfl (fun _=>rfl) (fun _=>rfl) rfl d9
 ·obtain⟨h1,⟨_,h2,_⟩,_⟩:=hv _ _ hk
  obtain⟨qI,⟨_,qr,_⟩,_⟩:=hv _ _ uW
  exact xS _ _ h1 qI (hr.inj _ _ _ _ h2 qr he)
 ·obtain⟨h1,h2⟩:=hl _ _ hi
  obtain⟨_,us,h3,h4,h5⟩:=hr.tok _ n e h2
  exact⟨h1,us,h3,h4,fun b hb=>⟨(h5 b hb).1,fun k ds hk=>by
   obtain⟨_,⟨_,h6,_⟩,_⟩:=hv _ _ hk
   exact (h5 b hb).2 _ _ h6⟩⟩
 ·obtain⟨h1,h2⟩:=hl _ _ hi
  obtain⟨qI,qr⟩:=hl _ _ xj
  exact xS _ _ h1 qI (hr.tinj _ _ _ _ b h2 qr hb pR)
def frA(σ:Nat→Nat)(m:Nat):List D→List D→Prop
 |[],[]=>True
 |d::ds,e::es=>(d.le (e.ren σ)∧e.idsB m=true∧e.noOs=true)∧frA σ m ds es
 |_,_=>False
theorem GB {σ:Nat→Nat}{m:Nat}:∀{ds es:List D},frA σ m ds es→ds.length=es.length
 |[],[],_=>rfl
 |_::_,_::_,h=>by simp[GB h.2]
 |[],_::_,h=>h.elim
 |_::_,[],h=>h.elim
theorem GC {σ:Nat→Nat}{m:Nat}:∀{ds es:List D} {j:Nat} {e:D},frA σ m ds es→es[j]? =some e→∃d,ds[j]? =some d∧d.le (e.ren σ)∧e.idsB m=true∧e.noOs=true
 |[],[],j,e,_,h=>by simp at h
 |d::ds,e'::es,0,e,h,he=>by
  simp only[List.getElem?_cons_zero,n5] at he
  subst he
  exact⟨d,rfl,h.1⟩
 |d::ds,e'::es,j+1,e,h,he=>by
  simp only[List.getElem?_cons_succ] at he ⊢
  exact GC h.2 he
 |[],_::_,_,_,h,_=>h.elim
 |_::_,[],_,_,h,_=>h.elim
theorem HC.frame {P:Program}{f:FuncId}{K5 ds:List D}{r:D}{DS n8 vs:List (Nat×List D)}{DT rS lv:List (Nat×Nat×Nat×TypeId)}{m n' N:Nat}(h:HC P f K5 ⟨DS,DT,m⟩ r ⟨n8,rS,n'⟩)
  (os:List Nat) (hos:os.length=m) (Gn:os.Nodup) (b8:∀o∈os,o<N) (ha:frA (fun i=>os.getD i 0) m ds K5)
  (hv:∀k ds,DS.lookup k=some ds→k<m∧(∃sm,vs.lookup (os.getD k 0)=some sm∧xz sm (ds.map (D.renC fun i=>os.getD i 0)))∧ds.all (D.idsC m)=true∧ds.all D.noO=true)
  (hl:∀id y,DT.lookup id=some y→id<m∧lv.lookup (os.getD id 0)=some y)
  (hr:r.okF=true) (hvo:∀p∈n8,p.2.all D.okC=true):
  HC P f ds ⟨vs,lv,N⟩ (r.ren (rn os m N)) ⟨frV (rn os m N) os n8 vs,frL (rn os m N) os rS lv,N+(n' - m)⟩:=by
 subst hos
 refine⟨h.1,fun B g w us hR hsz dx=>?_⟩
 have kb:∀i,i<os.length→os.getD i 0∈os:=fun i hi=>by
  rw[ue,de hi];exact rI hi
 have xS:∀i j,i<os.length→j<os.length→os.getD i 0=os.getD j 0→i=j:=fun i j hi hj he=>by
  rw[ue,ue,de hi,de hj] at he
  have hp:=List.pairwise_iff_getElem.1 Gn
  simp only[vQ] at he
  rcases Nat.lt_trichotomy i j with h3|h3|h3
  ·exact absurd he (hp _ _ hi hj h3)
  ·exact h3
  ·exact absurd he.symm (hp _ _ hj hi h3)
 have hS:=HR.ren (hpS:=⟨DS,DT,os.length⟩) hR (fun i=>os.getD i 0) (fun i j hi hj he=>xS i j hi hj he) hv hl
 have d9:∀id y,(⟨DS,DT,os.length⟩:Hp).live.lookup id=some y→(⟨vs,lv,N⟩:Hp).live.lookup (os.getD id 0)=some y:=fun id y h=>(hl _ _ h).2
 refine (h.2 B _ w us hS (by rw[hsz,GB ha]) (fun j e u he hu=>?_)).mono ?_
 ·obtain⟨d,h1,h2,h3,h4⟩:=GC ha he
  exact BI ((dx j d u h1 hu).le h2) h3 h4 rfl (fun _=>rfl) (fun _=>rfl) rfl d9
 rintro en w' ⟨v,g',rfl,If,hM,pQ,hB,hF⟩
 -- the caller's ghosts
 let ρ:=rn os os.length N
 have sG:∀i,i<os.length→ρ i=os.getD i 0:=fun i hi=>by show rn os os.length N i=_;unfold rn;simp[hi]
 have t0:∀i,os.length≤i→ρ i=N+(i - os.length):=fun i hi=>by show rn os os.length N i=_;unfold rn;rw[bf (by omega)];rfl
 have OS:∀i,i<os.length→os.getD i 0<N:=fun i hi=>b8 _ (kb i hi)
 have hmn:os.length≤n':=hM.next
 have hρn:∀i,i<n'→ρ i<N+(n' - os.length):=fun i hi=>by
  by_cases h1:i<os.length
  ·rw[sG i h1];have:=OS i h1;omega
  ·rw[t0 i (by omega)];omega
 have Oq:∀i j,i<n'→j<n'→ρ i=ρ j→i=j:=fun i j hi hj he=>by
  by_cases h1:i<os.length <;> by_cases h2:j<os.length
  ·rw[sG i h1,sG j h2] at he;exact xS i j h1 h2 he
  ·rw[sG i h1,t0 j (by omega)] at he;have:=OS i h1;omega
  ·rw[sG j h2,t0 i (by omega)] at he;have:=OS j h2;omega
  ·rw[t0 i (by omega),t0 j (by omega)] at he;omega
 let g2:Gh:=⟨fun j=>if j<N then g.μ j else g'.μ (os.length+(j - N)),fun j=>if j<N then (if j∈os then g'.τ (os.idxOf j) else g.τ j) else g'.τ (os.length+(j - N)),g'.F⟩
 let dW:Hp:=⟨frV ρ os n8 vs,frL ρ os rS lv,N+(n' - os.length)⟩
 have Er:∀j,j<N→g2.μ j=g.μ j:=fun j hj=>if_pos hj
 have Jw:∀j,j<N→j∉os→g2.τ j=g.τ j:=fun j hj ho=>by
  show (if j<N then _ else _)=_
  rw[if_pos hj,if_neg ho]
 have Ep:∀i,i<n'→g2.μ (ρ i)=g'.μ i:=fun i hi=>by
  by_cases h1:i<os.length
  ·rw[sG i h1,Er _ (OS i h1)];exact (hM.μ i h1).symm
  ·rw[t0 i (by omega)]
   show (if _ then _ else _)=_
   rw[if_neg (by omega),show os.length+(N+(i - os.length) - N)=i by omega]
 have Gf:∀i,i<n'→g2.τ (ρ i)=g'.τ i:=fun i hi=>by
  by_cases h1:i<os.length
  ·rw[sG i h1]
   show (if _ then (if _ then _ else _) else _)=_
   rw[if_pos (OS i h1),if_pos (kb i h1)]
   have:os.idxOf (os.getD i 0)=i:=by
    have h2:os.idxOf (os.getD i 0)<os.length:=List.idxOf_lt_length_of_mem (kb i h1)
    refine xS _ _ h2 h1 ?_
    rw[ue (i:=os.idxOf _),de h2]
    exact List.getElem_idxOf h2
   rw[this]
  ·rw[t0 i (by omega)]
   show (if _ then _ else _)=_
   rw[if_neg (by omega),show os.length+(N+(i - os.length) - N)=i by omega]
 have s6:∀k ds,dW.vars.lookup k=some ds→(∃i sm,ρ i=k∧i<n'∧n8.lookup i=some sm∧sm.map (D.renC ρ)=ds)∨(k∉os∧k<N∧vs.lookup k=some ds):=fun k ds hk=>by
  rcases ri hk with h1|h1
  ·obtain⟨i,a,h2,h3,h4⟩:=mw ρ (fun a:List D=>a.map (D.renC ρ)) h1
   exact .inl ⟨i,a,h2,(If.var i a h3).1,h3,h4⟩
  ·obtain⟨h2,h3⟩:=js h1
   exact .inr ⟨h2,(hR.var k ds h3).1,h3⟩
 have s7:∀k y,dW.live.lookup k=some y→(∃i,ρ i=k∧i<n'∧rS.lookup i=some y)∨(k∉os∧k<N∧lv.lookup k=some y):=fun k y hk=>by
  rcases ri hk with h1|h1
  ·obtain⟨i,a,h2,h3,h4⟩:=mw ρ (fun a:Nat×Nat×TypeId=>a) h1
   subst h4
   exact .inl ⟨i,h2,(If.tok i a.1 a.2 h3).1,h3⟩
  ·obtain⟨h2,h3⟩:=js h1
   exact .inr ⟨h2,(hR.tok k y.1 y.2 h3).1,h3⟩
 have hlρ:∀id,id<n'→∀y,dW.live.lookup (ρ id)=some y→rS.lookup id=some y:=fun id hid y hy=>by
  rcases s7 _ _ hy with⟨i,h1,h2,h3⟩|⟨h1,h2,_⟩
  ·rw[←Oq i id h2 hid h1];exact h3
  ·exfalso
   by_cases h4:id<os.length
   ·rw[sG id h4] at h1;exact h1 (kb id h4)
   ·rw[t0 id (by omega)] at h2;omega
 -- blocks of what was not in hand are free for the callee
 have yY:∀k ds,k∉os→vs.lookup k=some ds→g.μ k<w.heap.size∧MU ⟨DS,DT,os.length⟩ ⟨fun i=>g.μ (os.getD i 0),fun i=>g.τ (os.getD i 0),g.F⟩ (g.μ k):=fun k ds ho hk=>by
  refine⟨hR.var_lt (k:=k) (ds:=ds) hk,fun i di hi=>?_,fun i t hi=>?_⟩
  ·obtain⟨h1,⟨_,h2,_⟩,_⟩:=hv i di hi
   exact fun e=>ho (by rw[←hR.inj _ _ _ _ h2 hk e];exact kb i h1)
  ·obtain⟨h1,h2⟩:=hl i t hi
   obtain⟨_,_,_,_,h3⟩:=hR.tok _ t.1 t.2 h2
   exact fun e=>(h3 _ e).2 k ds hk rfl
 have yZ:∀k t b,k∉os→lv.lookup k=some t→(g.τ k).ownBlock=some b→b<w.heap.size∧MU ⟨DS,DT,os.length⟩ ⟨fun i=>g.μ (os.getD i 0),fun i=>g.τ (os.getD i 0),g.F⟩ b:=fun k t b ho hk hb=>by
  obtain⟨_,_,_,h1,h2⟩:=hR.tok k t.1 t.2 hk
  refine⟨(h1.lt b hb).2,fun i di hi=>?_,fun i t' hi=>?_⟩
  ·obtain⟨h1,⟨_,h3,_⟩,_⟩:=hv i di hi
   exact (h2 b hb).2 _ _ h3
  ·obtain⟨h1,h3⟩:=hl i t' hi
   exact fun e=>ho (by rw[←hR.tinj _ _ _ _ b h3 hk e hb];exact kb i h1)
 have mo:dm ⟨vs,lv,N⟩ g w dW g2 w':=by
  refine⟨hM.size,hM.cell,hM.forb,tk _ _,fun k hk=>Er k hk,fun id hid n e hy=>?_,fun b hb hf=>?_,hM.szs⟩
  ·rcases s7 _ _ hy with⟨i,h1,h2,h3⟩|⟨h1,h2,h3⟩
   ·by_cases h4:i<os.length
    ·obtain⟨m0,h5,h6,h7⟩:=hM.live i h4 n e h3
     refine⟨m0,?_,h6,fun h=>?_⟩
     ·rw[←h1,sG i h4];exact d9 i _ h5
     ·rw[←h1,Gf i h2,h7 h,sG i h4]
    ·rw[←h1,t0 i (by omega)] at hid
     have hid:N+(i - os.length)<N:=hid
     omega
   ·exact⟨n,h3,aB _,fun _=>Jw id h2 h1⟩
  ·obtain⟨h1,h2,h3⟩:=hM.fr b hb ⟨fun k ds hk=>by
    obtain⟨_,⟨_,h5,_⟩,_⟩:=hv k ds hk
    exact hf.1 _ _ h5,fun id t hi=>hf.2 _ _ (d9 id t hi)⟩
   refine⟨h1,h2,fun k ds hk=>?_,fun id t hi=>?_⟩
   ·rcases s6 _ _ hk with⟨i,_,rfl,h5,h6,_⟩|⟨_,h5,h6⟩
    ·rw[Ep i h5];exact h3.1 _ _ h6
    ·rw[Er k h5];exact hf.1 _ _ h6
   ·rcases s7 _ _ hi with⟨i,rfl,h5,h6⟩|⟨h4,h5,h6⟩
    ·rw[Gf i h5];exact h3.2 _ _ h6
    ·rw[Jw id h5 h4];exact hf.2 _ _ h6
 have fw:∀{d:D} {u:Value},d.okC=true→aR ⟨n8,rS,n'⟩ g' w' d u→aR dW g2 w' (d.renC ρ) u:=fun hd h=>Bx h hd hρn Ep Gf rfl hlρ
 refine⟨v,g2,rfl,⟨fun k ds hk=>?_,fun k k' ds ds' hk uW he=>?_,fun id n e hi=>?_,fun id Ai t t' b hi xj hb pR=>?_,If.base,If.fits⟩,mo,CW pQ hr hρn Ep Gf rfl hlρ,hB,hF⟩
 ·rcases s6 _ _ hk with⟨i,sm,rfl,h1,h2,rfl⟩|⟨h1,h2,h3⟩
  ·obtain⟨_,h4,h5,cs,ty,h6,h7,h8⟩:=If.var i sm h2
   rw[Ep i h1]
   refine⟨hρn i h1,h4,h5,cs,ty,h6,by simpa using h7,fun j u hu=>⟨fun h=>(h8 j u hu).1 (by simpa using h),fun d hd=>?_⟩⟩
   rw[ep] at hd
   obtain⟨d0,vy,rfl⟩:=xt.1 hd
   exact fw (dc.1 (hvo _ (bQ h2)) d0 (er vy)) ((h8 j u hu).2 d0 vy)
  ·obtain⟨h4,h5⟩:=yY k ds h1 h3
   obtain⟨h6,h7,_⟩:=hM.fr _ h4 h5
   obtain⟨_,h8,h9,cs,ty,wQ,Bw,h12⟩:=hR.var k ds h3
   rw[Er k h2]
   exact⟨eD h2 (tk _ _),h8,fun p hp=>h7 p hp (h9 p hp),cs,ty,h6.trans wQ,Bw,fun j u hu=>⟨(h12 j u hu).1,fun d hd=>((h12 j u hu).2 d hd).mono mo⟩⟩
 ·rcases s6 _ _ hk with⟨i,sm,rfl,h1,h2,_⟩|⟨h1,h2,h3⟩ <;> rcases s6 _ _ uW with⟨i',ds0',rfl,qI,qr,_⟩|⟨qI,qr,JZ⟩
  ·rw[Ep i h1,Ep i' qI] at he
   rw[If.inj _ _ _ _ h2 qr he]
  ·rw[Ep i h1,Er _ qr] at he
   obtain⟨h4,h5⟩:=yY _ _ qI JZ
   exact absurd he ((hM.fr _ h4 h5).2.2.1 _ _ h2)
  ·rw[Ep i' qI,Er _ h2] at he
   obtain⟨h4,h5⟩:=yY _ _ h1 h3
   exact absurd he.symm ((hM.fr _ h4 h5).2.2.1 _ _ qr)
  ·rw[Er _ h2,Er _ qr] at he
   exact hR.inj _ _ _ _ h3 JZ he
 ·rcases s7 _ _ hi with⟨i,rfl,h1,h2⟩|⟨h1,h2,h3⟩
  ·obtain⟨_,uB,h4,h5,h6⟩:=If.tok i n e h2
   rw[Gf i h1]
   refine⟨hρn i h1,uB,h4,h5,fun b hb=>⟨(h6 b hb).1,fun k ds hk=>?_⟩⟩
   rcases s6 _ _ hk with⟨i',_,rfl,h7,h8,_⟩|⟨h7,h8,h9⟩
   ·rw[Ep i' h7];exact (h6 b hb).2 _ _ h8
   ·rw[Er k h8]
    obtain⟨wQ,Bw⟩:=yY _ _ h7 h9
    intro e
    exact (hM.fr _ wQ Bw).2.2.2 _ _ h2 (by rw[e];exact hb)
  ·obtain⟨_,uB,h4,h5,h6⟩:=hR.tok id n e h3
   rw[Jw id h2 h1]
   refine⟨eD h2 (tk _ _),uB,h4,⟨h5.1,?_⟩,fun b hb=>?_⟩
   ·rcases h5.2 with h0|⟨b,cap,cur,uV,hB',hh,r⟩
    ·exact .inl h0
    ·obtain⟨wQ,Bw⟩:=yZ id _ b h1 h3 (by rw[uV];rfl)
     exact .inr ⟨b,cap,cur,uV,hB',(hM.fr _ wQ Bw).1.trans hh,r⟩
   ·obtain⟨wQ,Bw⟩:=yZ id _ b h1 h3 hb
    obtain⟨h12,h13,h14⟩:=hM.fr _ wQ Bw
    refine⟨fun p h7 h8=>h13 p h7 ((h6 b hb).1 p h7 h8),fun k ds hk=>?_⟩
    rcases s6 _ _ hk with⟨i',_,rfl,h7,h8,_⟩|⟨h7,h8,h9⟩
    ·rw[Ep i' h7];exact h14.1 _ _ h8
    ·rw[Er k h8];exact (h6 b hb).2 _ _ h9
 ·rcases s7 _ _ hi with⟨i,rfl,h1,h2⟩|⟨h1,h2,h3⟩ <;> rcases s7 _ _ xj with⟨i',rfl,qI,qr⟩|⟨qI,qr,JZ⟩
  ·rw[Gf i h1] at hb
   rw[Gf i' qI] at pR
   rw[If.tinj _ _ _ _ b h2 qr hb pR]
  ·rw[Gf i h1] at hb
   rw[Jw _ qr qI] at pR
   obtain⟨wQ,Bw⟩:=yZ _ _ b qI JZ pR
   exact absurd hb ((hM.fr _ wQ Bw).2.2.2 _ _ h2)
  ·rw[Gf i' qI] at pR
   rw[Jw _ h2 h1] at hb
   obtain⟨wQ,Bw⟩:=yZ _ _ b h1 h3 hb
   exact absurd pR ((hM.fr _ wQ Bw).2.2.2 _ _ qr)
  ·rw[Jw _ h2 h1] at hb
   rw[Jw _ qr qI] at pR
   exact hR.tinj _ _ _ _ b h3 JZ hb pR
end
section
section
variable {P:Program} {tb:TypeId→Option TyE} {dr:Bool} {ty:TypeId} {ev:Operand→D} {σ:Nat→Nat} {d e:D} {ds es:List D}
theorem fA {m:Nat}(h:d.le (e.ren σ))(hr:frA σ m ds es)(h3:e.idsB m=true:=by exact rfl)(h4:e.noOs=true:=by exact rfl):frA σ m (d::ds) (e::es):=⟨⟨h,h3,h4⟩,hr⟩
theorem fAG {α:Type}{c:Cd α}{a:α}{m:Nat}(h:d.le (dG c a))(hr:frA σ m ds es):frA σ m (d::ds) (dG c a::es):=⟨⟨le_G h,ids_G _ _ _,noO_G _ _⟩,hr⟩
theorem fAn {m:Nat}:frA σ m [] []:=trivial
theorem HC.fr {f:FuncId}{K5:List D}{r r':D}{DS n8 vs vs2:List (Nat×List D)}{DT rS lv DU:List (Nat×Nat×Nat×TypeId)}{m n' N N2:Nat}(os:List Nat)(hc:HC P f K5 ⟨DS,DT,m⟩ r ⟨n8,rS,n'⟩)
  (ha:frA (fun i=>os.getD i 0) m ds K5) (hv:wkV (fun i=>os.getD i 0) m vs DS) (hl:wkL (fun i=>os.getD i 0) m lv DT) (hos:os.length=m) (Gn:os.Nodup) (b8:(os.all fun o=>Nat.ble (o+1) N)=true)
  (hr:r.okF=true) (hvo:(n8.all fun p=>p.2.all D.okC)=true) (pB:r.ren (rn os m N)=r') (HW:frV (rn os m N) os n8 vs=vs2) (M0:frL (rn os m N) os rS lv=DU) (hN:N+(n' - m)=N2):
  HC P f ds ⟨vs,lv,N⟩ r' ⟨vs2,DU,N2⟩:=by
 subst pB HW M0 hN
 exact HC.frame hc os hos Gn (fun o ho=>ltb (dc.1 b8 o ho)) ha (fun k ds hk=>tH hv _ (bQ hk)) (fun id y hy=>wi hl _ (bQ hy)) hr (fun p hp=>dc.1 hvo p hp)
theorem v8 {x:Operand}{f:FuncId}{ks:List Nat}{aS:List Operand}{ts:Array TypeId}{K5:List D}{r r':D}{DS n8 vs vs2:List (Nat×List D)}{DT rS lv DU:List (Nat×Nat×Nat×TypeId)}{m n' N N2:Nat}(os:List Nat)
  (Bu:ev x=.fn f ks) (hc:HC P f K5 ⟨DS,DT,m⟩ r ⟨n8,rS,n'⟩) (ha:frA (fun i=>os.getD i 0) m (aS.map ev++ks.map fun k=>.pt k 0) K5) (hv:wkV (fun i=>os.getD i 0) m vs DS) (hl:wkL (fun i=>os.getD i 0) m lv DT)
  (hos:os.length=m:=by exact rfl) (Gn:os.Nodup:=by decide) (b8:(os.all fun o=>Nat.ble (o+1) N)=true:=by exact rfl) (hr:r.okF=true:=by exact rfl) (hvo:(n8.all fun p=>p.2.all D.okC)=true:=by exact rfl)
  (pB:r.ren (rn os m N)=r':=by exact rfl) (HW:frV (rn os m N) os n8 vs=vs2:=by exact rfl) (M0:frL (rn os m N) os rS lv=DU:=by exact rfl) (hN:N+(n' - m)=N2:=by exact rfl)
  (hh:hvB tb ⟨.value x,aS.toArray,ts⟩=true:=by kernel_rfl):AVC P tb dr (.call ⟨.value x,aS.toArray,ts⟩) ty ev ⟨vs,lv,N⟩ (Kq r' ⟨vs2,DU,N2⟩):=
 T_callF Bu (HC.fr os hc ha hv hl hos Gn b8 hr hvo pB HW M0 hN) rfl hh
end
end
end
end Go.Proofs.YtaedcknhkjpmlaaGreat
