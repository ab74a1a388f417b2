/-
  Lemmas, part 1. Conditions: none.
-/
import Derived.Test.YtgfcnncojhkcoaaGreatV0
import Derived.OrdersHeld
import Derived.Laws.StructEq
import Derived.Scope
import Derived.LoopN
import Derived.Lib.AppendZerosOnto
set_option linter.all false
set_option maxRecDepth 100000
namespace Go.Proofs.YtgfcnncojhkcoaaGreat
open Go.RowKit Go.IntKind
noncomputable section
section
structure Cx where
 B:Nat
 w0:World
 F0:Addr→Prop
 N:Nat
 hp0:Hp
 g0:Gh
 df:List Deferred
def RS(x:Cx)(tm:List (Nat×D))(hp:Hp)(a:Act)(w:World):Prop:=
 ∃g,HR x.B hp g w∧(∀t d,tm.lookup t=some d→aM hp g w d (a.tmps.getD t undef))∧a.tmps.size=x.N∧a.defers=x.df∧Below x.B x.w0 w∧(∀p:Addr,p.block<x.B→x.F0 p→g.F p)∧bB x.hp0 x.g0 x.w0 hp g w
section
variable {P:Program} {tb:TypeId→Option TyE} {x:Cx} {tm tm':List (Nat×D)} {hp hp':Hp} {a:Act} {w w':World}
theorem AE(g:Gh)(v:Value):aM hp g w (Ik v) v:=by
 unfold Ik
 split
 ·rename_i cs
  split
  ·rename_i h1
   have:=(ew.lits (hp:=hp) (g:=g) (w:=w) cs.toList h1).ag
   simpa using this
  ·exact .top _
 ·exact .top _
 ·rename_i h1 h2
  refine .e _ _ (.lit v ?_)
  cases v <;> first|rfl|exact absurd rfl (h1 _)|exact absurd rfl (h2 _)
theorem wb {g:Gh}(h:∀t d,tm.lookup t=some d→aM hp g w d (a.tmps.getD t undef))(o:Operand):aM hp g w (evD tm o) (a.eval o):=by
 cases o with
 |tmp t=>
  show aM hp g w ((tm.lookup t).getD .top) _
  cases hl:tm.lookup t with
  |none=>exact .top _
  |some d=>exact h t d hl
 |const v=>exact AE g v
 |global g'=>exact .top _
 |func f=>exact .e _ _ (.lit _ rfl)
theorem py(a:Act)(dst:Option Tmp)(v:Value):(a.put dst v).tmps.size=a.tmps.size:=by cases dst <;> simp[Act.put]
theorem mc(a:Act)(dst:Option Tmp)(v:Value):(a.put dst v).defers=a.defers:=by cases dst <;> rfl
theorem vK {a:Act}{t:Tmp}{v:Value}(h:t<a.tmps.size):(a.put (some t) v).tmps.getD t undef=v:=by
 simp[Act.put,h]
theorem CA {a:Act}{dst:Option Tmp}{t:Tmp}{v:Value}(h:dst≠some t):(a.put dst v).tmps.getD t undef=a.tmps.getD t undef:=by
 cases dst with
 |none=>rfl
 |some s=>
  have:s≠t:=fun e=>h (by rw[e])
  simp[Act.put,cz,A9 this]
theorem zg {g:Gh}{dst:Option Tmp}{d:D}{v:Value}(h:∀t d,tm.lookup t=some d→aM hp g w d (a.tmps.getD t undef))(hd:aM hp g w d v)(hN:∀t,dst=some t→t<a.tmps.size):
  ∀t d',(w8 dst d tm).lookup t=some d'→aM hp g w d' ((a.put dst v).tmps.getD t undef):=by
 intro t d' hl
 cases dst with
 |none=>exact h t d' hl
 |some s=>
  by_cases v3:t=s
  ·subst v3
   have:some d=some d':=by rw[←hl];exact ai.symm
   injection this with this
   subst this
   rw[vK (hN t rfl)]
   exact hd
  ·rw[CA (fun e=>v3 (by injection e with e;exact e.symm))]
   exact h t d' (by rw[←hl];exact (au v3).symm)
def Gd(ops:Array Oper)(o:Oper)(tm:List (Nat×D))(b:Bool):Prop:=
 match o.guard with
 |none=>b=true
 |some (j,want)=>(∃t c,(ops[j]?).bind (·.dst)=some t∧tm.lookup t=some (.e (.lit (.bool c)))∧(c == want)=b)∨∃t,(ops[j]?).bind (·.dst)=some t∧tm.lookup t=some (.tu [])∧b=false
theorem Gd.wanted {ops:Array Oper}{o:Oper}{b:Bool}{g:Gh}(h:Gd ops o tm b)(hr:∀t d,tm.lookup t=some d→aM hp g w d (a.tmps.getD t undef)):Region.wanted o (yielded ops a.tmps)=b:=by
 unfold Gd at h
 unfold Region.wanted
 split at h
 ·rename_i hg
  rw[hg,h]
 ·rename_i j want hg
  rw[hg]
  dsimp only
  rcases h with⟨t,c,h1,h2,h3⟩|⟨t,h1,h2,rfl⟩
  rotate_left
  ·have hv:=hr t _ h2
   have hy:yielded ops a.tmps j=none:=by
    unfold yielded
    rw[h1]
    simp only[A3]
    cases ht:a.tmps[t]? with
    |none=>rfl
    |some u=>
     have hu:a.tmps.getD t undef=u:=by simp[cz,ht]
     rw[hu] at hv
     cases hv with
     |tu _ cs hl hr=>rfl
   rw[hy];rfl
  have hv:=(hr t _ h2).lit
  have hy:yielded ops a.tmps j=some c:=by
   unfold yielded
   rw[h1]
   simp only[A3]
   cases ht:a.tmps[t]? with
   |none=>simp[cz,ht,undef] at hv
   |some u=>
    have:u=.bool c:=by simpa[cz,ht] using hv
    rw[this]
  rw[hy,←h3]
  rfl
def Offs(o:Oper)(ev:Operand→D)(d:D):Prop:=∀(hp:Hp) (g:Gh) (w:World) (a:Act),(∀x∈o.op.operands,aM hp g w (ev x) (a.eval x))→aM hp g w d undef
def WkS(tm:List (Nat×D))(hp:Hp)(tm':List (Nat×D))(hp':Hp):Prop:=∀(B:Nat) (g:Gh) (w:World) (ρ:Nat→Value),HR B hp g w→(∀t d,tm.lookup t=some d→aM hp g w d (ρ t))→
 ∃g',HR B hp' g' w∧bB hp g w hp' g' w∧(∀t d,tm'.lookup t=some d→aM hp' g' w d (ρ t))∧∀p:Addr,p.block<B→g.F p→g'.F p
theorem WkS.rs(h:WkS tm hp tm' hp')(hr:RS x tm hp a w):RS x tm' hp' a w:=by
 obtain⟨g,hr,gJ,hsz,qI,hB,hF,hM⟩:=hr
 obtain⟨g',h1,h2,h3,h4⟩:=h x.B g w (fun t=>a.tmps.getD t undef) hr gJ
 exact⟨g',h1,h3,hsz,qI,hB,fun p hp hq=>h4 p hp (hF p hp hq),hM.trans h2⟩
inductive bt (P:Program) (tb:TypeId→Option TyE) (md:Md) (ops:Array Oper) (K:List (Nat×D)→Hp→Prop):List Oper→List (Nat×D)→Hp→Prop
 |nil {tm:List (Nat×D)} {hp:Hp} (h:K tm hp):bt P tb md ops K [] tm hp
 |on {o:Oper} {os:List Oper} {tm:List (Nat×D)} {hp:Hp} (d:D) (hp':Hp) (hg:Gd ops o tm true) (hs:lh P tb md o (evD tm) hp d hp') (h:bt P tb md ops K os (w8 o.dst d tm) hp'):bt P tb md ops K (o::os) tm hp
 |off {o:Oper} {os:List Oper} {tm:List (Nat×D)} {hp:Hp} (d:D) (hg:Gd ops o tm false) (hs:Offs o (evD tm) d) (h:bt P tb md ops K os (w8 o.dst d tm) hp):bt P tb md ops K (o::os) tm hp
 |sq (hmd:md=.seq) {o:Oper} {os:List Oper} {tm:List (Nat×D)} {hp:Hp} (d:D) (hp':Hp) (hg:Gd ops o tm true) (hs:np P o (evD tm) hp d hp') (h:bt P tb md ops K os (w8 o.dst d tm) hp'):bt P tb md ops K (o::os) tm hp
 |wk (hmd:md=.seq) {os:List Oper} {tm tm':List (Nat×D)} {hp hp':Hp} (hw:WkS tm hp tm' hp') (h:bt P tb md ops K os tm' hp'):bt P tb md ops K os tm hp
def i3(N:Nat)(ops:Array Oper):Bool:=ops.all fun o=>match o.dst with
 |some t=>decide (t<N)
 |none=>true
theorem jq {N:Nat}{ops:Array Oper}(h:i3 N ops=true){i:Nat}{o:Oper}(hi:ops[i]? =some o){t:Tmp}(ht:o.dst=some t):t<N:=by
 unfold i3 at h
 rw[II] at h
 have:=h o (Array.mem_of_getElem? hi)
 rw[ht] at this
 simpa using this
theorem RS.op {o:Oper}{d:D}{Kn:Act→World→Prop}{Q:Exit→Act→World→Prop}(h:RS x tm hp a w)(hs:np P o (evD tm) hp d hp')(hN:∀t,o.dst=some t→t<x.N)
  (hk:∀a' w',RS x (w8 o.dst d tm) hp' a' w'→Kn a' w'):o.wp P a w Kn Q:=by
 obtain⟨g,hr,gJ,hsz,qI,hB,hF,hM⟩:=h
 refine hs x.B g w a Kn Q hr (fun y _=>wb gJ y) (fun v g' w' oo mo hd hb hF'=>hk _ _ ⟨g',oo,zg (fun t d ht=>(gJ t d ht).mono mo) hd (fun t ht=>by rw[hsz];exact hN t ht),by rw[py,hsz],by rw[mc,qI],hB.trans hb,fun p h1 h2=>hF' p h1 (hF p h1 h2),hM.trans mo⟩)
theorem RS.skip {o:Oper}{d:D}(h:RS x tm hp a w)(hs:Offs o (evD tm) d)(hN:∀t,o.dst=some t→t<x.N):RS x (w8 o.dst d tm) hp (a.put o.dst undef) w:=by
 obtain⟨g,hr,gJ,hsz,qI,hB,hF,hM⟩:=h
 exact⟨g,hr,zg gJ (hs hp g w a fun y _=>wb gJ y) (fun t ht=>by rw[hsz];exact hN t ht),by rw[py,hsz],by rw[mc,qI],hB,hF,hM⟩
theorem LP {ops:Array Oper}{K:List (Nat×D)→Hp→Prop}{Q:Exit→Act→World→Prop}(hN:i3 x.N ops=true)(hk:∀tm hp a w,K tm hp→RS x tm hp a w→Q .normal a w)
  (rest:List Oper) (i:Nat) (tm:List (Nat×D)) (hp:Hp) (a:Act) (w:World) (hd:ops.toList.drop i=rest) (h:bt P tb .seq ops K rest tm hp) (hr:RS x tm hp a w):wpOps P ops Q (List.range' i rest.length) a w:=by
 have step:∀{o:Oper} {os:List Oper} {i:Nat},ops.toList.drop i=o::os→ops[i]? =some o∧ops.toList.drop (i+1)=os:=by
  intro o os i hd
  refine⟨?_,by rw[←oi,hd];rfl⟩
  have:(ops.toList.drop i)[0]? =some o:=by rw[hd];rfl
  rw[oM] at this
  simpa using this
 induction h generalizing i a w with
 |nil h=>exact hk _ _ _ _ h hr
 |on d hp' hg h2 h1 ih=>
  obtain⟨ho,BI⟩:=step hd
  have ut:=fun t ht=>jq hN ho (t:=t) ht
  simp only[lH,rT]
  rw[wpOps_cons]
  unfold wpOp
  rw[ho]
  dsimp only
  obtain⟨g,_,gJ,_⟩:=id hr
  rw[hg.wanted gJ,ao rfl]
  exact .inl (hr.op h2.ok ut fun a' w' oo=>ih (i+1) a' w' BI oo)
 |off d hg hs h1 ih=>
  obtain⟨ho,BI⟩:=step hd
  have ut:=fun t ht=>jq hN ho (t:=t) ht
  simp only[lH,rT]
  rw[wpOps_cons]
  unfold wpOp
  rw[ho]
  dsimp only
  obtain⟨g,_,gJ,_⟩:=id hr
  rw[hg.wanted gJ,aq (by simp)]
  exact ih (i+1) _ _ BI (hr.skip hs ut)
 |sq _ d hp' hg h2 h1 ih=>
  obtain⟨ho,BI⟩:=step hd
  have ut:=fun t ht=>jq hN ho (t:=t) ht
  simp only[lH,rT]
  rw[wpOps_cons]
  unfold wpOp
  rw[ho]
  dsimp only
  obtain⟨g,_,gJ,_⟩:=id hr
  rw[hg.wanted gJ,ao rfl]
  exact .inl (hr.op h2 ut fun a' w' oo=>ih (i+1) a' w' BI oo)
 |wk _ hw h ih=>exact ih i a w hd (hw.rs hr)
def AW(P:Program)(x:Cx)(c:Code)(tm:List (Nat×D))(hp:Hp)(Q:Exit→List (Nat×D)→Hp→Prop):Prop:=
 ∀a w,RS x tm hp a w→c.wp P (fun ex a' w'=>∃tm' hp',RS x tm' hp' a' w'∧Q ex tm' hp') a w
variable {Q:Exit→List (Nat×D)→Hp→Prop}
theorem AW.mono {c:Code}{Q':Exit→List (Nat×D)→Hp→Prop}(h:AW P x c tm hp Q)(hq:∀ex tm hp,Q ex tm hp→Q' ex tm hp):AW P x c tm hp Q':=
 fun a w hr=>wp_mono (h a w hr) fun ex _ _ ⟨tm',hp',h1,h2⟩=>⟨tm',hp',h1,hq ex _ _ h2⟩
theorem AW.regionS {id:Nat}{ops:Array Oper}(hN:i3 x.N ops=true)(h:∀K:List (Nat×D)→Hp→Prop,(∀tm hp,Q .normal tm hp→K tm hp)→bt P tb .seq ops K ops.toList tm hp):AW P x (.region id ops false) tm hp Q:=by
 intro a w hr
 refine wp_region ?_
 have:=LP (Q:=fun ex a' w'=>∃tm' hp',RS x tm' hp' a' w'∧Q ex tm' hp') hN (fun tm hp a w hk hr=>⟨tm,hp,hr,hk⟩) ops.toList 0 tm hp a w rfl (h _ fun _ _ h=>h) hr
 rwa[dT,←xN] at this
theorem AW.seq {c c':Code}(h:AW P x c tm hp fun ex tm' hp'=>match ex with| .normal=>AW P x c' tm' hp' Q|ex=>Q ex tm' hp'):AW P x (.seq c c') tm hp Q:=by
 intro a w hr
 refine wp_seq (wp_mono (h a w hr) ?_)
 rintro ex a' w' ⟨tm',hp',h1,h2⟩
 cases ex with
 |normal=>exact h2 a' w' h1
 |_=>exact⟨tm',hp',h1,h2⟩
theorem AW.cond {c:Operand}{c1 c2:Code}{b:Bool}(hc:evD tm c=.e (.lit (.bool b)))(h:AW P x (match b with|true=>c1|false=>c2) tm hp Q):AW P x (.cond c c1 c2) tm hp Q:=by
 intro a w hr
 obtain⟨g,_,gJ,_⟩:=id hr
 have hv:=wb gJ c
 rw[hc] at hv
 refine wp_cond (t:=b) hv.lit ?_
 have:=h a w hr
 cases b <;> exact this
theorem AW.block {id:Nat}{c:Code}(h:AW P x c tm hp fun ex tm' hp'=>match ex with| .exit yn=>(if yn=id then Q .normal tm' hp' else Q (.exit yn) tm' hp')|ex=>Q ex tm' hp'):AW P x (.block id c) tm hp Q:=by
 intro a w hr
 refine wp_block (wp_mono (h a w hr) ?_)
 rintro ex a' w' ⟨tm',hp',h1,h2⟩
 cases ex with
 |exit yn=>
  unfold Exit.inBlock
  dsimp only at h2 ⊢
  split
  ·rename_i he
   rw[ao he] at h2
   exact⟨tm',hp',h1,h2⟩
  ·rename_i he
   rw[aq he] at h2
   exact⟨tm',hp',h1,h2⟩
 |_=>exact⟨tm',hp',h1,h2⟩
theorem AW.exit {id:Nat}(h:Q (.exit id) tm hp):AW P x (.exit id) tm hp Q:=fun _ _ hr=>wp_exit ⟨tm,hp,hr,h⟩
theorem AW.ret(h:Q .ret tm hp):AW P x .ret tm hp Q:=fun _ _ hr=>wp_ret ⟨tm,hp,hr,h⟩
theorem AW.skip(h:Q .normal tm hp):AW P x .skip tm hp Q:=fun _ _ hr=>wp_skip ⟨tm,hp,hr,h⟩
theorem ua {Q:Exit→Act→World→Prop}{c:Code}(I:Nat→Act→World→Prop){n:Nat}(h₀:I n a w)
  (round:∀n a w,I n a w→c.wp P (Exit.then (fun a' w'=>∃m,m<n∧I m a' w') Q) a w):(Code.loop c).wp P Q a w:=by
 intro b k cs
 have key:∀n a w,I n a w→∃e a' w',Q e a' w'∧Arrives P (lone (b.at a (.code c::.inLoop c::k)) cs w) b k cs e a' w':=by
  intro n
  induction n using Nat.strongRecOn with
  |_ n ih=>
   intro a w hI
   obtain⟨e,a₁,w₁,hq,Gf⟩:=round n a w hI b (.inLoop c::k) cs
   cases e with
   |normal=>
    obtain⟨m,bz,hI₁⟩:=hq
    obtain⟨e₂,a₂,w₂,hq₂,harr₂⟩:=ih m bz a₁ w₁ hI₁
    exact⟨e₂,a₂,w₂,hq₂,.of_steps (Steps.trans Gf (.one step_inLoop)) harr₂⟩
   |exit id=>exact⟨_,a₁,w₁,hq,.pass (x:=.inLoop c) rfl (fun _ _=>.inl (by simp)) Gf⟩
   |goto l=>exact⟨_,a₁,w₁,hq,.pass (x:=.inLoop c) rfl (fun _ _=>.inl (by simp)) Gf⟩
   |ret=>exact⟨_,a₁,w₁,hq,.pass (x:=.inLoop c) rfl (fun _ _=>.inl (by simp)) Gf⟩
   |panic ch=>exact⟨_,a₁,w₁,hq,.pass (x:=.inLoop c) rfl (fun _ _=>.inl (by simp)) Gf⟩
   |outgrown=>exact⟨_,a₁,w₁,hq,.pass (x:=.inLoop c) rfl (fun _ _=>.inl (by simp)) Gf⟩
 obtain⟨e,a',w',hq,Gf⟩:=key n a w h₀
 exact⟨e,a',w',hq,.of_steps (.one step_loop) Gf⟩
def Wk(x:Cx)(tm:List (Nat×D))(hp:Hp)(tm':List (Nat×D))(hp':Hp):Prop:=∀a w,RS x tm hp a w→RS x tm' hp' a w
theorem AW.weak {c:Code}(hw:Wk x tm hp tm' hp')(h:AW P x c tm' hp' Q):AW P x c tm hp Q:=fun a w hr=>h a w (hw a w hr)
theorem AW.loop {c:Code}(I:Nat→List (Nat×D)→Hp→Prop){n:Nat}{tm0:List (Nat×D)}{hp0:Hp}(hw:Wk x tm hp tm0 hp0)(h0:I n tm0 hp0)
  (round:∀n tm hp,I n tm hp→AW P x c tm hp fun ex tm' hp'=>match ex with| .normal=>∃m KB bF,m<n∧Wk x tm' hp' KB bF∧I m KB bF|ex=>Q ex tm' hp'):AW P x (.loop c) tm hp Q:=by
 intro a w hr
 refine ua (fun n a w=>∃tm hp,RS x tm hp a w∧I n tm hp) (n:=n) ⟨tm0,hp0,hw a w hr,h0⟩ (fun n a w ⟨tm,hp,hr,hI⟩=>wp_mono (round n tm hp hI a w hr) ?_)
 rintro ex a' w' ⟨tm',hp',h1,h2⟩
 cases ex with
 |normal=>
  obtain⟨m,KB,bF,bz,LA,hI2⟩:=h2
  exact⟨m,bz,KB,bF,LA a' w' h1,hI2⟩
 |_=>exact⟨tm',hp',h1,h2⟩
def D.idsB(m:Nat):D→Bool
 | .ag ds=>ds.all (D.idsC m)
 | .tu ds=>ds.all (D.idsC m)
 |d=>d.idsC m
theorem g6 {m:Nat}{bF:Hp}{g:Gh}{d:D}{v:Value}(h:aM hp g w d v)(hd:d.idsC m=true)(hm:bF.next=m)(hl:∀id y,bF.live.lookup id=some y→hp.live.lookup id=some y):aM bF g w d v:=by
 subst hm
 cases h with
 |e y v h=>exact .e y v h
 |own id z n xs v h hid ht=>exact .own id z n xs v h (by simpa[D.idsC] using hd) (fun m e h=>ht m e (hl _ _ h))
 |fu z n xs A h=>exact .fu z n xs A h
 |ag ds cs hl h1 hr=>cases hd
 |tu ds cs hl hr=>cases hd
 |fp xs off ad hb hc=>exact .fp xs off ad hb hc
 |pt k off hk=>exact .pt k off (by simpa[D.idsC] using hd)
 |ow k off z n c hk h1 h2=>exact .ow k off z n c (by simpa[D.idsC] using hd) h1 h2
 |gw k z n c hk h1 h2 hs=>exact .gw k z n c (by simpa[D.idsC] using hd) h1 h2 hs
 |fn f ks hk=>exact .fn f ks (by simpa[D.idsC] using hd)
 |opt b d v hi h=>
  refine .opt b d v hd fun hb=>?_
  cases d with
  |ag ds=>
   have iL:∀d∈ds,D.isE d=true:=by
    have:ds.all D.isE=true:=hd
    simpa only[b7] using this
   have h':=h hb
   cases h' with
   |ag _ cs hlen h1 hr=>
    refine .ag _ cs hlen h1 fun j d u h2 h3=>?_
    have h4:=hr j d u h2 h3
    have h5:=iL d (bO h2)
    cases d with
    |e y=>
     cases h4 with
     |e _ _ h6=>exact .e y _ h6
    |fu z n xs=>
     cases h4 with
     |fu _ _ _ A h6=>exact .fu z n xs A h6
    |fp xs off=>
     cases h4 with
     |fp _ _ ad hb hc=>exact .fp xs off ad hb hc
    |_=>cases h5
  |_=>exact g6 (h hb) hd rfl hl
 |top v=>exact .top v
theorem FY {m:Nat}{bF:Hp}{g:Gh}{d:D}{v:Value}(h:aM hp g w d v)(hd:d.idsB m=true)(hm:bF.next=m)(hl:∀id y,bF.live.lookup id=some y→hp.live.lookup id=some y):aM bF g w d v:=by
 cases h with
 |ag ds cs hlen h1 hr=>
  have iL:∀d∈ds,D.idsC m d=true:=by simpa[D.idsB] using hd
  exact .ag ds cs hlen h1 fun j d u h2 h3=>g6 (hr j d u h2 h3) (iL d (bO h2)) hm hl
 |tu ds cs hlen hr=>
  have iL:∀d∈ds,D.idsC m d=true:=by simpa[D.idsB] using hd
  exact .tu ds cs hlen fun j d u h2 h3=>g6 (hr j d u h2 h3) (iL d (bO h2)) hm hl
 |e y v h=>exact g6 (.e y v h) hd hm hl
 |own id z n xs v h hid ht=>exact g6 (.own id z n xs v h hid ht) hd hm hl
 |fu z n xs A h=>exact g6 (.fu z n xs A h) hd hm hl
 |fp xs off ad hb hc=>exact g6 (.fp xs off ad hb hc) hd hm hl
 |pt k off hk=>exact g6 (.pt k off hk) hd hm hl
 |ow k off z n c hk h1 h2=>exact g6 (.ow k off z n c hk h1 h2) hd hm hl
 |gw k z n c hk h1 h2 hs=>exact g6 (.gw k z n c hk h1 h2 hs) hd hm hl
 |fn f ks hk=>exact g6 (.fn f ks hk) hd hm hl
 |opt b d v hi h=>exact g6 (.opt b d v hi h) hd hm hl
 |top v=>exact .top v
theorem cf {α:Type}:∀{l:List (Nat×α)} {k:Nat} {y:α},l.lookup k=some y→(k,y)∈l
 |[],k,y,h=>by simp at h
 |(j,z)::l,k,y,h=>by
  by_cases hj:k=j
  ·subst hj
   have:some z=some y:=by rw[←h];exact ai.symm
   injection this with this
   subst this
   exact lq ..
  ·exact mA _ (cf (by rw[←h];exact (au hj).symm))
theorem Wk.refl(x:Cx)(tm:List (Nat×D))(hp:Hp):Wk x tm hp tm hp:=fun _ _ h=>h
def eZ:Nat→List D→List (Nat×D)
 |_,[]=>[]
 |i,d::ds=>(i,d)::eZ (i+1) ds
theorem m9:∀{ds:List D} {i t:Nat} {d:D},(eZ i ds).lookup t=some d→i≤t∧ds[t - i]? =some d
 |[],i,t,d,h=>by simp[eZ] at h
 |d0::ds,i,t,d,h=>by
  by_cases uq:t=i
  ·subst uq
   have:some d0=some d:=by rw[←h];exact ai.symm
   injection this with this
   subst this
   exact⟨aI _,by simp⟩
  ·have h1:(eZ (i+1) ds).lookup t=some d:=by rw[←h];exact (au uq).symm
   obtain⟨h2,h3⟩:=m9 h1
   refine⟨by omega,?_⟩
   rw[show t - i=(t - (i+1))+1 by omega]
   exact h3
def oq(tb:TypeId→Option TyE)(tm:List (Nat×D))(hp:Hp)(r:ResultVar)(k:D→Prop):Prop:=
 match r with
 | .tmp t=>∃d,tm.lookup t=some d∧k d
 | .cell p ty=>∃d,tm.lookup p=some d∧(∃j,tb ty=some j)∧z6 tb ty d hp k
theorem aM.exC {g:Gh}{w:World}{d:D}{v:Value}(h:aM hp g w d v):aM hp g w d.exC v:=by
 cases h with
 |e x v h=>exact .e x v h
 |own id z n xs v h hid ht=>exact .e _ _ h
 |fu z n xs A h=>exact .e _ _ h
 |ag ds cs hl h1 hr=>exact .ag ds cs hl h1 hr
 |tu ds cs hl hr=>exact .tu ds cs hl hr
 |fp xs off ad hb hc=>exact .fp xs off ad hb hc
 |pt k off hk=>exact .pt k off hk
 |ow k off z n c hk h1 h2=>exact .ow k off z n c hk h1 h2
 |gw k z n c hk h1 h2 hs=>exact .gw k z n c hk h1 h2 hs
 |fn f ks hk=>exact .fn f ks hk
 |opt b d v hi h=>exact .opt b d v hi h
 |top v=>exact .top v
theorem aM.exD {g:Gh}{w:World}{d:D}{v:Value}(h:aM hp g w d v):aM hp g w d.ex v:=by
 cases h with
 |ag ds cs hl h1 hr=>
  refine .ag _ cs (by simpa using hl) h1 fun j d u hd hu=>?_
  rw[cF] at hd
  cases hdj:ds[j]? with
  |none=>simp[hdj] at hd
  |some d0=>
   simp only[hdj,mz,my] at hd
   subst hd
   exact (hr j d0 u hdj hu).exC
 |e x v h=>exact .e x v h
 |own id z n xs v h hid ht=>exact .e _ _ h
 |fu z n xs A h=>exact .e _ _ h
 |tu ds cs hl hr=>exact .tu ds cs hl hr
 |fp xs off ad hb hc=>exact .fp xs off ad hb hc
 |pt k off hk=>exact .pt k off hk
 |ow k off z n c hk h1 h2=>exact .ow k off z n c hk h1 h2
 |gw k z n c hk h1 h2 hs=>exact .gw k z n c hk h1 h2 hs
 |fn f ks hk=>exact .fn f ks hk
 |opt b d v hi h=>exact .opt b d v hi h
 |top v=>exact .top v
def D.leC(d d':D):Prop:=d'=d∨d'=d.exC∨(d=.e (.lit (.slice none 0 0))∧∃z,0<z∧d'=.e (.sl z 0 []))
theorem aM.leC {g:Gh}{w:World}{d d':D}{v:Value}(h:aM hp g w d v)(hl:d.leC d'):aM hp g w d' v:=by
 rcases hl with rfl|rfl|⟨rfl,z,hz,rfl⟩
 ·exact h
 ·exact h.exC
 ·cases h with
  |e _ _ h=>
   cases h with
   |lit _ _=>exact .e _ _ (.sl z 0 [] none 0 (fun _=>undef) (by simp) hz (aI _) (de _) (fun h=>absurd h (AN _)) (fun _ h=>by cases h) (fun j x h=>by simp at h))
def vt:List D→List D→Prop
 |[],[]=>True
 |d::ds,d'::ds'=>d.leC d'∧vt ds ds'
 |_,_=>False
theorem qJ:∀ds:List D,vt ds ds
 |[]=>trivial
 |_::ds=>⟨.inl rfl,qJ ds⟩
theorem qK:∀{ds ds':List D},vt ds ds'→ds'.length=ds.length
 |[],[],_=>rfl
 |_::ds,_::ds',h=>by simp[qK h.2]
 |[],_::_,h=>h.elim
 |_::_,[],h=>h.elim
theorem sJ:∀{ds ds':List D},vt ds ds'→∀{j:Nat} {d':D},ds'[j]? =some d'→∃d,ds[j]? =some d∧d.leC d'
 |d::ds,d'::ds',h,0,e,he=>⟨d,rfl,by
  have:d'=e:=by simpa using he
  rw[←this];exact h.1⟩
 |d::ds,d'::ds',h,j+1,e,he=>sJ h.2 (by simpa using he)
 |[],[],h,j,e,he=>by simp at he
 |[],_::_,h,_,_,_=>h.elim
 |_::_,[],h,_,_,_=>h.elim
def D.le(d d':D):Prop:=d.leC d'∨d'=d.ex∨∃ds ds',d=.ag ds∧d'=.ag ds'∧vt ds ds'
theorem aM.le {g:Gh}{w:World}{d d':D}{v:Value}(h:aM hp g w d v)(hl:d.le d'):aM hp g w d' v:=by
 rcases hl with hl|rfl|⟨ds,ds',rfl,rfl,hl⟩
 ·exact h.leC hl
 ·exact h.exD
 ·cases h with
  |ag _ cs hlen h1 hr=>
   refine .ag _ cs (by rw[hlen,qK hl]) h1 fun j d u hd hu=>?_
   obtain⟨d0,DU,hle⟩:=sJ hl hd
   exact (hr j d0 u DU hu).leC hle
theorem Jm {d:D}(h:d.pure=true):d.ex=d:=by
 cases d with
 |ag ds=>
  have iL:∀x∈ds,D.pureC x=true:=by simpa[D.pure] using h
  show D.ag (ds.map D.exC)=.ag ds
  have:ds.map D.exC=ds:=by
   conv=>rhs;rw[←A0 ds]
   refine oE fun x hx=>?_
   have:=iL x hx
   cases x <;> first|rfl|cases this
  rw[this]
 |e x=>rfl
 |fp xs off=>rfl
 |_=>cases h
theorem aM.exportP {g:Gh}{w:World}{d:D}{v:Value}(h:aM hp g w d v)(hp':d.pure=true):j5 w g.F d v:=by
 have:=h.xport (by rw[Jm hp'];exact hp')
 rwa[Jm hp'] at this
def gQ(tb:TypeId→Option TyE)(rs:List ResultVar)(tm:List (Nat×D))(hp:Hp)(r:D):Prop:=
 match rs with
 |[q]=>oq tb tm hp q fun d=>(d.ex.pure=true∧r=d.ex)∨(∃id e z n xs,d=.own id z n xs∧hp.live.lookup id=some (n,z,e)∧r=.own e z n xs)∨∃d2,d.le d2∧d2.pure=true∧r=d2
 |[q,q']=>oq tb tm hp q fun d=>oq tb tm hp q' fun d'=>((d.ex.pure=true∧d'.ex.pure=true)∧r=.tu [d.ex,d'.ex])∨∃e e',d.le e∧d'.le e'∧(e.pure=true∧e'.pure=true)∧r=.tu [e,e']
 |[q,q',Hs]=>oq tb tm hp q fun d=>oq tb tm hp q' fun d'=>oq tb tm hp Hs fun LM=>((d.ex.pure=true∧d'.ex.pure=true∧LM.ex.pure=true)∧r=.tu [d.ex,d'.ex,LM.ex])∨∃e e' e'',d.le e∧d'.le e'∧LM.le e''∧(e.pure=true∧e'.pure=true∧e''.pure=true)∧r=.tu [e,e',e'']
 |[]=>r=.tu []
 |_=>False
theorem fS(tok:TOk P tb){q:ResultVar}{k:D→Prop}(h:oq tb tm hp q k):∃d,k d∧∀(B:Nat) (g:Gh) (w:World) (tmps:Array Value),HR B hp g w→(∀t d,tm.lookup t=some d→aM hp g w d (tmps.getD t undef))→
  ∃v,((match q with| .tmp t=>pure (tmps.getD t undef)| .cell a t=>do loadVar t (←asAddr (tmps.getD a undef)):Sem Value)).run P w=.ok v w∧aM hp g w d v:=by
 unfold oq at h
 split at h
 ·rename_i t
  obtain⟨d,hd,hk⟩:=h
  exact⟨d,hk,fun B g w tmps hr gJ=>⟨_,rfl,gJ t d hd⟩⟩
 ·rename_i p ty
  obtain⟨d,hd,_,h⟩:=h
  obtain⟨d',hk,_,hs⟩:=ym tok h
  refine⟨d',hk,fun B g w tmps hr gJ=>?_⟩
  obtain⟨v,bD,cE⟩:=hs hp B g w _ (fun _ _ _=>rfl) hr (gJ p d hd)
  refine⟨v,?_,cE⟩
  have hp:=gJ p d hd
  generalize tmps.getD p undef=u at*
  cases u with
  |pointer o=>
   cases o with
   |some ad=>simpa[Instr.loadAt,Instr.sureAddr,asAddr] using bD
   |none=>simp[Instr.loadAt,Instr.sureAddr,stuck,Sem.run] at bD
  |_=>simp[Instr.loadAt,Instr.sureAddr,stuck,Sem.run] at bD
theorem Array.mapM_one {α β:Type}(f:α→Sem β)(q:α)(w:World){v:β}(h:(f q).run P w=.ok v w):((#[q]:Array α).mapM f).run P w=.ok #[v] w:=by
 rw[Ey]
 simp[h]
theorem Array.mapM_two {α β:Type}(f:α→Sem β)(q q':α)(w:World){v v':β}(h:(f q).run P w=.ok v w)(h':(f q').run P w=.ok v' w):((#[q,q']:Array α).mapM f).run P w=.ok #[v,v'] w:=by
 rw[Ey]
 simp[h,h']
theorem Array.mapM_three {α β:Type}(f:α→Sem β)(q q' Hs:α)(w:World){v v' v'':β}(h:(f q).run P w=.ok v w)(h':(f q').run P w=.ok v' w)(h'':(f Hs).run P w=.ok v'' w):((#[q,q',Hs]:Array α).mapM f).run P w=.ok #[v,v',v''] w:=by
 rw[Ey]
 simp[h,h',h'']
theorem j5.tu {F:Addr→Prop}{ds:List D}{vs:List Value}(h:Pw (j5 w F) ds vs):j5 w F (.tu ds) (.tuple vs.toArray):=
 aM.tu ds vs.toArray (by simpa using h.1.symm) fun j d u hd hu=>h.2 j d u hd (by simpa using hu)
theorem DA {d:D}{e z n:Nat}{xs:List E}(h:d.ex.pure=true):d.ex≠.own e z n xs:=by
 intro e
 rw[e] at h
 cases h
theorem sH.of {B:Nat}{F:Addr→Prop}{r:D}{v:Value}(h:j5 w F r v)(hn:∀e z n xs,r≠.own e z n xs):sH B F w r v:=by
 unfold sH
 split
 ·exact absurd rfl (hn _ _ _ _)
 ·exact h
theorem cC.less {F F':Addr→Prop}{y:E}{v:Value}(h:cC w F y v)(hF:∀p,F' p→F p):cC w F' y v:=h.mono (aI _) (fun _ _ _=>rfl) fun p _ hf=>hF p hf
theorem j5.less {F F':Addr→Prop}{d:D}{v:Value}(h:j5 w F d v)(hF:∀p,F' p→F p):j5 w F' d v:=by
 unfold j5 at h
 generalize hh:(⟨[],[],0⟩:Hp)=h0 at h
 generalize hgg:(⟨fun _=>0,fun _=>default,F⟩:Gh)=g0 at h
 have Lc:g0.F=F:=by rw[←hgg]
 have hn:h0.next=0:=by rw[←hh]
 unfold j5
 induction h with
 |e y v h=>exact .e y v (cC.less h fun p hp=>by rw[Lc];exact hF p hp)
 |own id z n xs v h hid ht=>omega
 |fu z n xs A h=>exact .fu z n xs A (cC.less h fun p hp=>by rw[Lc];exact hF p hp)
 |ag ds cs hl h1 hr ih=>exact .ag ds cs hl h1 ih
 |tu ds cs hl hr ih=>exact .tu ds cs hl ih
 |fp xs off ad hb hc=>
  refine .fp xs off ad hb fun j y hy=>?_
  obtain⟨u,h1,h2,h3⟩:=hc j y hy
  exact⟨u,h1,fun hf=>h2 (by rw[Lc];exact hF _ hf),cC.less h3 fun p hp=>by rw[Lc];exact hF p hp⟩
 |pt k off hk=>omega
 |ow k off z n c hk h1 h2=>omega
 |gw k z n c hk h1 h2 hs=>omega
 |fn f ks hk=>
  cases ks with
  |nil=>exact .fn f [] (by simp)
  |cons k ks=>have:=hk k (by simp);omega
 |opt b d v hi h ih=>exact .opt b d v (by rw[hn] at hi;exact hi) ih
 |top v=>exact .top v
theorem IX(tok:TOk P tb){fn:Func}{rs:List ResultVar}{r:D}(hrs:fn.results.toList=rs)(h:gQ tb rs tm hp r)(hr:RS x tm hp a w)(Lc:∀p,x.F0 p→p.block<x.B):
  ∃v,(results fn a.tmps).run P w=.ok v w∧sH x.B x.F0 w r v:=by
 obtain⟨g,hh,gJ,hsz,qI,hB,hF,_⟩:=hr
 have E3:∀p,x.F0 p→g.F p:=fun p hp=>hF p (Lc p hp) hp
 unfold gQ at h
 split at h
 ·rename_i q
  have hq:fn.results=#[q]:=by apply jt.1;simpa using hrs
  obtain⟨d,hk,hs⟩:=fS tok h
  obtain⟨v,bD,cE⟩:=hs x.B g w a.tmps hh gJ
  refine⟨v,?_,?_⟩
  ·unfold results
   rw[hq,Sem.run_bind,Array.mapM_one _ q w bD]
   simp
  ·rcases hk with⟨hp1,rfl⟩|⟨id,e,z,n,xs,rfl,eO,rfl⟩|⟨d2,hle,hp1,rfl⟩
   ·exact sH.of ((cE.xport hp1).less E3) fun _ _ _ _=>DA hp1
   ·obtain⟨_,us,hz,ho,htail⟩:=hh.tok id n (z,e) eO
    cases cE with
    |own _ _ _ _ _ hrepE hid ht=>
     have hv:=(ht n (z,e) eO).2.2 rfl
     subst hv
     refine⟨hz,⟨us,ho⟩,hrepE.less fun p hp=>?_⟩
     rcases hp with hp|⟨b,h1,h2,h3⟩
     ·exact E3 p hp
     ·exact (htail b h1).1 p h2 h3
   ·exact sH.of (((cE.le hle).exportP hp1).less E3) fun _ _ _ _ e=>by rw[e] at hp1;cases hp1
 ·rename_i q q'
  have hq:fn.results=#[q,q']:=by apply jt.1;simpa using hrs
  obtain⟨d,hk,hs⟩:=fS tok h
  obtain⟨v,bD,cE⟩:=hs x.B g w a.tmps hh gJ
  obtain⟨d',yV,LF⟩:=fS tok hk
  obtain⟨v',Ae,pF⟩:=LF x.B g w a.tmps hh gJ
  refine⟨.tuple #[v,v'],?_,?_⟩
  ·unfold results
   rw[hq,Sem.run_bind,Array.mapM_two _ q q' w bD Ae]
   simp
  ·rcases yV with⟨⟨hp1,bF⟩,rfl⟩|⟨e,e',yU,vo,⟨hp1,bF⟩,rfl⟩
   ·exact sH.of (j5.tu (vs:=[v,v']) (Pw.cons ((cE.xport hp1).less E3) (Pw.cons ((pF.xport bF).less E3) Pw.nil))) (fun _ _ _ _ h=>by cases h)
   ·exact sH.of (j5.tu (vs:=[v,v']) (Pw.cons (((cE.le yU).exportP hp1).less E3) (Pw.cons (((pF.le vo).exportP bF).less E3) Pw.nil))) (fun _ _ _ _ h=>by cases h)
 ·rename_i q q' Hs
  have hq:fn.results=#[q,q',Hs]:=by apply jt.1;simpa using hrs
  obtain⟨d,hk,hs⟩:=fS tok h
  obtain⟨v,bD,cE⟩:=hs x.B g w a.tmps hh gJ
  obtain⟨d',s5,LF⟩:=fS tok hk
  obtain⟨v',Ae,pF⟩:=LF x.B g w a.tmps hh gJ
  obtain⟨LM,yV,hs''⟩:=fS tok s5
  obtain⟨v'',HT,DP⟩:=hs'' x.B g w a.tmps hh gJ
  refine⟨.tuple #[v,v',v''],?_,?_⟩
  ·unfold results
   rw[hq,Sem.run_bind,Array.mapM_three _ q q' Hs w bD Ae HT]
   simp
  ·rcases yV with⟨⟨hp1,bF,hp3⟩,rfl⟩|⟨e,e',e'',yU,vo,K3,⟨hp1,bF,hp3⟩,rfl⟩
   ·exact sH.of (j5.tu (vs:=[v,v',v'']) (Pw.cons ((cE.xport hp1).less E3) (Pw.cons ((pF.xport bF).less E3) (Pw.cons ((DP.xport hp3).less E3) Pw.nil)))) (fun _ _ _ _ h=>by cases h)
   ·exact sH.of (j5.tu (vs:=[v,v',v'']) (Pw.cons (((cE.le yU).exportP hp1).less E3) (Pw.cons (((pF.le vo).exportP bF).less E3) (Pw.cons (((DP.le K3).exportP hp3).less E3) Pw.nil)))) (fun _ _ _ _ h=>by cases h)
 ·have hq:fn.results=#[]:=by apply jt.1;simpa using hrs
  subst h
  refine⟨.tuple #[],?_,sH.of (j5.tu (vs:=[]) Pw.nil) (fun _ _ _ _ h=>by cases h)⟩
  unfold results
  rw[hq,Sem.run_bind]
  simp
 ·cases h
theorem aB.of (tok : TOk P tb) {f : FuncId} {fn : Func} {c : Code} {ds : List D} {r : D} {rs : List ResultVar} (hf : P.funcs[f]? = some fn) (hb : fn.body = some c) (qW : (fn.name == "runtime.NumGoroutine") = false) (hN : ds.length ≤ fn.ntmps) (hrs : fn.results.toList = rs)
  (h:∀x:Cx,x.N=fn.ntmps→x.hp0=⟨[],[],0⟩→AW P x c (eZ 0 ds) ⟨[],[],0⟩ fun ex tm hp=>match ex with| .normal| .ret=>gQ tb rs tm hp r|_=>False):aB P f ds r:=by
 subst hrs
 refine⟨⟨fn,hf,qW,by rw[hb];rfl⟩,fun w F vs hF hsz tN=>?_⟩
 refine calls_of_wp hf hb ?_
 have hrs:RS ⟨w.heap.size,w,F,fn.ntmps,⟨[],[],0⟩,⟨fun _=>0,fun _=>default,F⟩,[]⟩ (eZ 0 ds) ⟨[],[],0⟩ {tmps:=vs++Array.replicate (fn.ntmps - vs.size) undef,defers:=[]} w:=by
  refine⟨⟨fun _=>0,fun _=>default,F⟩,⟨fun k ds h=>by simp at h,fun _ _ _ _ h=>by simp at h,fun _ _ _ h=>by simp at h,fun _ _ _ _ _ h=>by simp at h,aI _,hF⟩,fun t d ht=>?_,by simp;omega,rfl,Below.refl _ _,fun _ _ h=>h,bB.refl _ _ _⟩
  obtain⟨_,h2⟩:=m9 ht
  have bz:t<ds.length:=by
   rw[A8] at h2
   rcases bZ t ds.length with hh|hh
   ·exact hh
   ·rw[i5 hh] at h2;cases h2
  have hv:vs[t]? =some vs[t]:=lI (by omega)
  have:=tN t d vs[t] (by simpa using h2) hv
  have he:(vs++Array.replicate (fn.ntmps - vs.size) undef).getD t undef=vs[t]:=by
   rw[cz,vb (by omega),hv];rfl
  rw[he]
  exact this
 refine wp_mono (h ⟨w.heap.size,w,F,fn.ntmps,⟨[],[],0⟩,⟨fun _=>0,fun _=>default,F⟩,[]⟩ rfl rfl _ _ hrs) ?_
 rintro ex a' w' ⟨tm',hp',h1,h2⟩
 have fin:gQ tb fn.results.toList tm' hp' r→a'.defers=[]∧∃v,(results fn a'.tmps).run P w'=.ok v w'∧∃v',Ending.returned v=.returned v'∧sH w.heap.size F w' r v'∧Below w.heap.size w w':=by
  intro h2
  obtain⟨v,bD,kS⟩:=IX tok rfl h2 h1 hF
  obtain⟨g,_,_,_,qI,hB,_⟩:=h1
  exact⟨qI,v,bD,v,rfl,kS,hB⟩
 cases ex with
 |normal=>exact fin h2
 |ret=>exact fin h2
 |_=>cases h2
def vg(tb:TypeId→Option TyE)(rs:List ResultVar)(tm:List (Nat×D))(hp:Hp)(r:D):Prop:=
 match rs with
 |[q]=>oq tb tm hp q fun d=>r=d
 |[q,q']=>oq tb tm hp q fun d=>oq tb tm hp q' fun d'=>r=.tu [d,d']
 |[q,q',Hs]=>oq tb tm hp q fun d=>oq tb tm hp q' fun d'=>oq tb tm hp Hs fun LM=>r=.tu [d,d',LM]
 |[]=>r=.tu []
 |_=>False
theorem sj(tok:TOk P tb){fn:Func}{rs:List ResultVar}{r:D}(hrs:fn.results.toList=rs)(h:vg tb rs tm hp r){g:Gh}(hh:HR x.B hp g w)(gJ:∀t d,tm.lookup t=some d→aM hp g w d (a.tmps.getD t undef)):
  ∃v,(results fn a.tmps).run P w=.ok v w∧aM hp g w r v:=by
 unfold vg at h
 split at h
 ·rename_i q
  have hq:fn.results=#[q]:=by apply jt.1;simpa using hrs
  obtain⟨d,rfl,hs⟩:=fS tok h
  obtain⟨v,bD,cE⟩:=hs x.B g w a.tmps hh gJ
  refine⟨v,?_,cE⟩
  unfold results
  rw[hq,Sem.run_bind,Array.mapM_one _ q w bD]
  simp
 ·rename_i q q'
  have hq:fn.results=#[q,q']:=by apply jt.1;simpa using hrs
  obtain⟨d,hk,hs⟩:=fS tok h
  obtain⟨v,bD,cE⟩:=hs x.B g w a.tmps hh gJ
  obtain⟨d',rfl,LF⟩:=fS tok hk
  obtain⟨v',Ae,pF⟩:=LF x.B g w a.tmps hh gJ
  have t8:Pw (aM hp g w) [d,d'] [v,v']:=Pw.cons cE (Pw.cons pF Pw.nil)
  refine⟨.tuple #[v,v'],?_,.tu _ _ rfl fun j d u hd hu=>t8.2 j d u hd (by simpa using hu)⟩
  unfold results
  rw[hq,Sem.run_bind,Array.mapM_two _ q q' w bD Ae]
  simp
 ·rename_i q q' Hs
  have hq:fn.results=#[q,q',Hs]:=by apply jt.1;simpa using hrs
  obtain⟨d,hk,hs⟩:=fS tok h
  obtain⟨v,bD,cE⟩:=hs x.B g w a.tmps hh gJ
  obtain⟨d',s5,LF⟩:=fS tok hk
  obtain⟨v',Ae,pF⟩:=LF x.B g w a.tmps hh gJ
  obtain⟨LM,rfl,hs''⟩:=fS tok s5
  obtain⟨v'',HT,DP⟩:=hs'' x.B g w a.tmps hh gJ
  have t8:Pw (aM hp g w) [d,d',LM] [v,v',v'']:=Pw.cons cE (Pw.cons pF (Pw.cons DP Pw.nil))
  refine⟨.tuple #[v,v',v''],?_,.tu _ _ rfl fun j d u hd hu=>t8.2 j d u hd (by simpa using hu)⟩
  unfold results
  rw[hq,Sem.run_bind,Array.mapM_three _ q q' Hs w bD Ae HT]
  simp
 ·have hq:fn.results=#[]:=by apply jt.1;simpa using hrs
  subst h
  refine⟨.tuple #[],?_,.tu _ _ rfl fun j d u hd hu=>by simp at hd⟩
  unfold results
  rw[hq,Sem.run_bind]
  simp
 ·cases h
structure eM(hp:Hp):Prop where
 var:∀k ds,hp.vars.lookup k=some ds→k<hp.next∧ds.all (D.idsC hp.next)=true
 tok:∀id e,hp.live.lookup id=some e→id<hp.next
theorem aM.cell_ids {d:D}{v:Value}{hp:Hp}{g:Gh}(h:aM hp g w d v)(hv:v.oneCell'=true):d.idsC hp.next=true:=by
 cases h with
 |e x v h=>rfl
 |own id z n xs v h hid ht=>exact dy hid
 |fu z n xs A h=>rfl
 |ag ds cs hl h1 hr=>cases hv
 |tu ds cs hl hr=>cases hv
 |fp xs off ad hb hc=>rfl
 |pt k off hk=>exact dy hk
 |ow k off z n c hk h1 h2=>exact dy hk
 |gw k z n c hk h1 h2 hs=>exact dy hk
 |fn f ks hk=>exact b7.2 fun k h=>dy (hk k h)
 |opt b d v hi h=>exact hi
 |top v=>rfl
theorem HR.ok {B:Nat}{hp:Hp}{g:Gh}(h:HR B hp g w):eM hp:=by
 refine⟨fun k ds hk=>?_,fun id e he=>(h.tok id e.1 e.2 he).1⟩
 obtain⟨h1,_,_,cs,ty,_,h2,h3⟩:=h.var k ds hk
 refine⟨h1,b7.2 fun d hd=>?_⟩
 obtain⟨j,hj⟩:=yz hd
 have bz:j<cs.size:=by
  have:=(lX.1 hj).1
  omega
 obtain⟨h4,h5⟩:=h3 j cs[j] (lI bz)
 exact (h5 d hj).cell_ids (h4 (lX.1 hj).1)
theorem HC.of (tok : TOk P tb) {f : FuncId} {fn : Func} {c : Code} {ds : List D} {hp hp' : Hp} {r : D} {rs : List ResultVar} (hf : P.funcs[f]? = some fn) (hb : fn.body = some c) (qW : (fn.name == "runtime.NumGoroutine") = false) (hN : ds.length ≤ fn.ntmps) (hrs : fn.results.toList = rs)
  (h:∀x:Cx,x.N=fn.ntmps→x.hp0=hp→eM hp→AW P x c (eZ 0 ds) hp fun ex tm bF=>match ex with| .normal| .ret=>∃tm',Wk x tm bF tm' hp'∧vg tb rs tm' hp' r|_=>False):HC P f ds hp r hp':=by
 subst hrs
 refine⟨⟨fn,hf,qW,by rw[hb];rfl⟩,fun B g w vs hr hsz tN=>?_⟩
 refine calls_of_wp hf hb ?_
 have Ad:RS ⟨B,w,g.F,fn.ntmps,hp,g,[]⟩ (eZ 0 ds) hp {tmps:=vs++Array.replicate (fn.ntmps - vs.size) undef,defers:=[]} w:=by
  refine⟨g,hr,fun t d ht=>?_,by simp;omega,rfl,Below.refl _ _,fun _ _ h=>h,bB.refl _ _ _⟩
  obtain⟨_,h2⟩:=m9 ht
  have bz:t<ds.length:=by
   rw[A8] at h2
   rcases bZ t ds.length with hh|hh
   ·exact hh
   ·rw[i5 hh] at h2;cases h2
  have hv:vs[t]? =some vs[t]:=lI (by omega)
  have:=tN t d vs[t] (by simpa using h2) hv
  have he:(vs++Array.replicate (fn.ntmps - vs.size) undef).getD t undef=vs[t]:=by
   rw[cz,vb (by omega),hv];rfl
  rw[he]
  exact this
 refine wp_mono (h ⟨B,w,g.F,fn.ntmps,hp,g,[]⟩ rfl rfl hr.ok _ _ Ad) ?_
 rintro ex a' w' ⟨tm',bF,h1,h2⟩
 have fin:(∃KB,Wk ⟨B,w,g.F,fn.ntmps,hp,g,[]⟩ tm' bF KB hp'∧vg tb fn.results.toList KB hp' r)→a'.defers=[]∧∃v,(results fn a'.tmps).run P w'=.ok v w'∧∃v' g',Ending.returned v=.returned v'∧HR B hp' g' w'∧bB hp g w hp' g' w'∧aM hp' g' w' r v'∧Below B w w'∧∀p:Addr,p.block<B→g.F p→g'.F p:=by
  rintro⟨KB,LA,HU⟩
  obtain⟨g',oo,gJ,_,qI,hB,hF,hM⟩:=LA a' w' h1
  obtain⟨v,bD,kS⟩:=sj (x:=⟨B,w,g.F,fn.ntmps,hp,g,[]⟩) tok rfl HU oo gJ
  exact⟨qI,v,bD,v,g',rfl,oo,hM,kS,hB,hF⟩
 cases ex with
 |normal=>exact fin h2
 |ret=>exact fin h2
 |_=>cases h2
end
end
section
def xK(k:D→Hp→Prop)(hp:Hp)(d:D):Prop:=k d hp
def atLit(k:D→Hp→Prop)(hp:Hp)(v:Value):Prop:=k (.e (.lit v)) hp
def atInt(k:D→Hp→Prop)(hp:Hp)(n:Int):Prop:=k (.e (.lit (.int .i64 n))) hp
def exO(o:Option D)(k:D→Prop):Prop:=∃d,o=some d∧k d
theorem N5(d:D)(k:D→Prop):exO (some d) k=k d:=by
 unfold exO;exact propext ⟨fun⟨_,h,hk⟩=>by injection h with h;rw[h];exact hk,fun h=>⟨d,rfl,h⟩⟩
section
variable {P:Program} {tb:TypeId→Option TyE} {dr:Bool} {ops:Array Oper} {os:List Oper} {tm:List (Nat×D)} {hp:Hp} {K:List (Nat×D)→Hp→Prop} {dst:Option Tmp} {ty:TypeId} {pos:String} {af:Array Edge}
def OH(tb:TypeId→Option TyE)(t:TypeId)(hp:Hp)(k:D→Hp→Prop):Prop:=match tb t with|some i=>k (.pt hp.next 0) (hp.var (i.zero.map fun v=>.e (.lit v)))|none=>False
def boxV(d:D)(hp:Hp)(k:D→Hp→Prop):Prop:=match d.cells with|some cs=>k (.pt hp.next 0) (hp.var cs)|none=>False
def Gu(d:D)(i:Nat)(k:D→Prop):Prop:=match d with| .tu ds=>exO (ds[i]?) k|_=>False
end
theorem p8 {z:Int}(h1:-9223372036854775808≤z)(h2:z≤9223372036854775807):i64.wrap z=z:=by
 rw[IntKind.wrap_i64];omega
section
variable {P:Program} {tb:TypeId→Option TyE} {hp:Hp} {k:D→Hp→Prop} {kd:D→Prop} {kv:Value→Prop} {ki:Int→Prop}
theorem mO(t:TypeId)(j off:Nat):z6 tb t (.pt j off) hp kd=(match tb t,hp.vars.lookup j with
  |some i,some ds=>j<hp.next∧match i.ty.agg with
   |true=>off+i.size≤ds.length∧kd (.ag ((ds.drop off).take i.size))
   |false=>exO (ds[off]?) kd
  |_,_=>False):=bx rfl rfl
theorem FQ(t:TypeId)(xs:List E)(off:Nat):z6 tb t (.fp xs off) hp kd=(match tb t with
  |some i=>match i.ty.agg with
   |true=>off+i.size≤xs.length∧kd (.ag ((List.range i.size).map fun j=>.e (xs.getD (off+j) .any)))
   |false=>off<xs.length∧kd (.e (xs.getD off .any))
  |_=>False):=bx rfl rfl
theorem wY(t:TypeId)(j off:Nat)(x:D):zI tb t (.pt j off) x hp k=(match tb t,hp.vars.lookup j,x.cells with
  |some i,some ds,some cs=>cs.length=i.size∧off+i.size≤ds.length∧k .top (hp.set j (ds.take off++cs++ds.drop (off+cs.length)))
  |_,_,_=>False):=bx rfl rfl
theorem OG(t:TypeId):Lm tb t (.e (.lit (.slice none 0 0))) hp k=(match tb t with
  |some i=>match i.ty with
   | .slice e=>match tb e with
    |some j=>0<j.size∧k (.own hp.next j.size 0 []) (hp.tok 0 (j.size,e))
    |none=>k (.e (.lit (.slice none 0 0))) hp
   |_=>k (.e (.lit (.slice none 0 0))) hp
  |none=>k (.e (.lit (.slice none 0 0))) hp):=bx rfl rfl
theorem pickV_t(a b:D):FE (.e (.lit (.bool true))) a b kd=kd a:=bx rfl rfl
theorem pickV_f(a b:D):FE (.e (.lit (.bool false))) a b kd=kd b:=bx rfl rfl
theorem Lo(t:TypeId):OH tb t hp k=(match tb t with|some i=>k (.pt hp.next 0) (hp.var (i.zero.map fun v=>.e (.lit v)))|none=>False):=bx rfl rfl
theorem boxV_eq(d:D):boxV d hp k=(match d.cells with|some cs=>k (.pt hp.next 0) (hp.var cs)|none=>False):=bx rfl rfl
theorem Gt(ds:List D)(i:Nat):Gu (.tu ds) i kd=exO (ds[i]?) kd:=bx rfl rfl
theorem bin_shl(t:TypeId)(j j':IntKind)(a b:Int):oe P .shl t (.e (.lit (.int j a))) (.e (.lit (.int j' b))) kv=(0≤b∧kv (.int j (j.wrap (a*2 ^ min b.toNat j.bits)))):=bx rfl rfl
theorem bin_shr(t:TypeId)(j j':IntKind)(a b:Int):oe P .shr t (.e (.lit (.int j a))) (.e (.lit (.int j' b))) kv=(0≤b∧kv (.int j (a.fdiv (2 ^ min b.toNat j.bits)))):=bx rfl rfl
theorem bin_add(t:TypeId)(j j':IntKind)(a b:Int):oe P .add t (.e (.lit (.int j a))) (.e (.lit (.int j' b))) kv=(j=j'∧kv (.int j (j.wrap (a+b)))):=bx rfl rfl
theorem bin_sub(t:TypeId)(j j':IntKind)(a b:Int):oe P .sub t (.e (.lit (.int j a))) (.e (.lit (.int j' b))) kv=(j=j'∧kv (.int j (j.wrap (a - b)))):=bx rfl rfl
theorem bin_mul(t:TypeId)(j j':IntKind)(a b:Int):oe P .mul t (.e (.lit (.int j a))) (.e (.lit (.int j' b))) kv=(j=j'∧kv (.int j (j.wrap (a*b)))):=bx rfl rfl
theorem bin_quo(t:TypeId)(j j':IntKind)(a b:Int):oe P .quo t (.e (.lit (.int j a))) (.e (.lit (.int j' b))) kv=(j=j'∧b≠0∧kv (.int j (j.wrap (a.tdiv b)))):=bx rfl rfl
theorem bin_rem(t:TypeId)(j j':IntKind)(a b:Int):oe P .rem t (.e (.lit (.int j a))) (.e (.lit (.int j' b))) kv=(j=j'∧b≠0∧kv (.int j (a.tmod b))):=bx rfl rfl
theorem bin_and(t:TypeId)(j j':IntKind)(a b:Int):oe P .and t (.e (.lit (.int j a))) (.e (.lit (.int j' b))) kv=(j=j'∧kv (.int j (j.wrap (BitVec.ofInt j.bits a &&&BitVec.ofInt j.bits b).toNat))):=bx rfl rfl
theorem bin_or(t:TypeId)(j j':IntKind)(a b:Int):oe P .or t (.e (.lit (.int j a))) (.e (.lit (.int j' b))) kv=(j=j'∧kv (.int j (j.wrap (BitVec.ofInt j.bits a |||BitVec.ofInt j.bits b).toNat))):=bx rfl rfl
theorem bin_eql(t:TypeId)(j j':IntKind)(a b:Int):oe P .eql t (.e (.lit (.int j a))) (.e (.lit (.int j' b))) kv=(j=j'∧kv (.bool (decide (a=b)))):=bx rfl rfl
theorem bin_neq(t:TypeId)(j j':IntKind)(a b:Int):oe P .neq t (.e (.lit (.int j a))) (.e (.lit (.int j' b))) kv=(j=j'∧kv (.bool (decide (a≠b)))):=bx rfl rfl
theorem bin_lss(t:TypeId)(j j':IntKind)(a b:Int):oe P .lss t (.e (.lit (.int j a))) (.e (.lit (.int j' b))) kv=(j=j'∧kv (.bool (decide (a<b)))):=bx rfl rfl
theorem bin_leq(t:TypeId)(j j':IntKind)(a b:Int):oe P .leq t (.e (.lit (.int j a))) (.e (.lit (.int j' b))) kv=(j=j'∧kv (.bool (decide (a≤b)))):=bx rfl rfl
theorem bin_gtr(t:TypeId)(j j':IntKind)(a b:Int):oe P .gtr t (.e (.lit (.int j a))) (.e (.lit (.int j' b))) kv=(j=j'∧kv (.bool (decide (b<a)))):=bx rfl rfl
theorem bin_geq(t:TypeId)(j j':IntKind)(a b:Int):oe P .geq t (.e (.lit (.int j a))) (.e (.lit (.int j' b))) kv=(j=j'∧kv (.bool (decide (b≤a)))):=bx rfl rfl
theorem Oy(t:TypeId)(a b:Bool):oe P .eql t (.e (.lit (.bool a))) (.e (.lit (.bool b))) kv=(P.underlying t=some .bool∧kv (.bool (a == b))):=bx rfl rfl
theorem Ox(t:TypeId)(a b:Bool):oe P .neq t (.e (.lit (.bool a))) (.e (.lit (.bool b))) kv=(P.underlying t=some .bool∧kv (.bool (!(a == b)))):=bx rfl rfl
theorem nilV_pt(j off:Nat):nilV (.pt j off) kd=kd (.pt j off):=bx rfl rfl
theorem un_not(t:Bool):unV .not (.e (.lit (.bool t))) kv=kv (.bool !t):=bx rfl rfl
theorem un_neg(j:IntKind)(n:Int):unV .neg (.e (.lit (.int j n))) kv=kv (.int j (j.wrap (0 - n))):=rfl
theorem tf(s:TypeId)(f:Nat)(kf:Nat→Nat→Bool→Prop):od tb s f kf=(match tb s with
  |some i=>match i.ty with
   | .struct fs=>match fs[f]? with
    |some (off,t)=>match tb t with
     |some j=>kf off j.size j.ty.agg
     |none=>False
    |none=>False
   |_=>False
  |none=>False):=bx rfl rfl
theorem Ch(s:TypeId)(f j off:Nat):nO tb s f (.pt j off) kd=od tb s f fun o z _=>z≠0∧kd (.pt j (off+o)):=bx rfl rfl
theorem Ci(s:TypeId)(f:Nat)(xs:List E)(off:Nat):nO tb s f (.fp xs off) kd=od tb s f fun o z _=>z≠0∧kd (.fp xs (off+o)):=bx rfl rfl
theorem Lf(s:TypeId)(f:Nat)(ds:List D):Aw tb s f (.ag ds) kd=od tb s f fun o z g=>match g with
   |true=>o+z≤ds.length∧kd (.ag ((ds.drop o).take z))
   |false=>exO (ds[o]?) kd:=bx rfl rfl
theorem qw(t:TypeId)(d:D)(j:IntKind)(x:Int):nH tb t d (.e (.lit (.int j x))) kd=(match tb t with
  |some ti=>match ti.ty with
   | .slice e=>match tb e with
    |some j=>match d.asSl j.size with
     |some (n,xs)=>(0≤x∧x<(n:Int))∧kd (.fp xs (x.toNat*j.size))
     |none=>match d with
      | .ow v off z n=>z=j.size∧(0≤x∧x<(n:Int))∧kd (.pt v (off+x.toNat*j.size))
      |_=>False
    |none=>False
   | .arr n e=>match tb e,d with
    |some j,.pt v off=>(0≤x∧x<(n:Int))∧kd (.pt v (off+x.toNat*j.size))
    |some j,.fp xs off=>(0≤x∧x<(n:Int))∧kd (.fp xs (off+x.toNat*j.size))
    |_,_=>False
   |_=>False
  |none=>False):=by
 unfold nH
 cases tb t <;> rfl
theorem KT(t:TypeId)(d:D)(j:IntKind)(x:Int):xn tb t d (.e (.lit (.int j x))) kd=(match tb t with
  |some ti=>match ti.ty,d with
   | .str,.e (.lit (.string s))=>(0≤x∧x<(s.size:Int))∧kd (.e (.lit (.int .u8 ((s.data.toList.getD x.toNat 0).toNat:Int))))
   | .arr n e,.ag ds=>match tb e with
    |some j=>(0≤x∧x<(n:Int))∧match j.ty.agg with
     |true=>x.toNat*j.size+j.size≤ds.length∧kd (.ag ((ds.drop (x.toNat*j.size)).take j.size))
     |false=>∃d,ds[x.toNat*j.size]? =some d∧kd d
    |none=>False
   |_,_=>False
  |none=>False):=by
 unfold xn
 cases tb t <;> rfl
theorem yx(t:TypeId)(d:D):i4 tb .len [t] [d] hp k=MN tb t d (atInt k hp):=bx rfl rfl
theorem GG(ts:List TypeId)(j j':IntKind)(x y:Int):i4 tb .min ts [.e (.lit (.int j x)),.e (.lit (.int j' y))] hp k=k (.e (.lit (.int j (min x y)))) hp:=by
 unfold i4
 split <;> first|rfl|simp_all
theorem GH(ts:List TypeId)(j j':IntKind)(x y:Int):i4 tb .max ts [.e (.lit (.int j x)),.e (.lit (.int j' y))] hp k=k (.e (.lit (.int j (max x y)))) hp:=by
 unfold i4
 split <;> first|rfl|simp_all
theorem AI(t t':TypeId)(s x:D):i4 tb .append [t,t'] [s,x] hp k=qj tb t t' s x hp k:=bx rfl rfl
def appOwn(j:TyE)(e:TypeId)(id z n:Nat)(xs:List E)(hp:Hp)(k:D→Hp→Prop)(m:Nat)(ys:List E):Prop:=z=j.size∧hp.live.lookup id=some (n,j.size,e)∧(n+m)*max 1 j.bytes≤140737488355328∧k (.own id j.size (n+m) (xs++ys)) (hp.app id (n+m) (j.size,e))
theorem GO(t t':TypeId)(id z n:Nat)(xs:List E)(x:D):qj tb t t' (.own id z n xs) x hp k=(match tb t with
  |some ti=>match ti.ty with
   | .slice e=>match tb e with
    |some j=>0<j.size∧(x.strOf=none→t'=t)∧(x.strOf≠none→j.bytes=1∧j.zero=[.int .u8 0]∧j.ty.agg=false)∧vO tb t' j.size x (appOwn j e id z n xs hp k)
    |none=>False
   |_=>False
  |none=>False):=bx rfl rfl
theorem MD(t:TypeId)(z:Nat)(x:D)(kn:Nat→List E→Prop):vO tb t z x kn=(match tb t with
  |some i=>match i.ty,x.strOf with
   | .str,some s=>z=1∧kn s.size (s.data.toList.map fun b=>.lit (bv b))
   | .slice _,none=>match x.asSl z with
    |some (m,ys)=>kn m ys
    |none=>False
   |_,_=>False
  |none=>False):=rfl
theorem JC(t:TypeId)(d:D):MN tb t d ki=(match tb t with
  |some ti=>match ti.ty with
   | .slice e=>match tb e with
    |some j=>match d.asSl j.size with
     |some (n,_)=>ki n
     |none=>match d with
      | .ow _ _ _ n=>ki n
      |_=>False
    |none=>False
   | .str=>match d with
    | .e (.lit (.string s))=>ki s.size
    |_=>False
   | .arr n _=>ki n
   |_=>False
  |none=>False):=bx rfl rfl
theorem tS(t:TypeId)(ps:List (Nat×D)):AJ tb t ps kd=(match tb t,jo ps with
  |some i,some qs=>match i.ty with
   | .struct fs=>(∀f∈fs,(tb f.2).isSome=true)∧match fP (ot tb fs) (i.zero.map fun v=>D.e (.lit v)) qs with
    |some ds=>kd (.ag ds)
    |none=>False
   | .arr _ e=>match tb e with
    |some j=>match fP (fun n=>some (n*j.size,j.size)) (i.zero.map fun v=>D.e (.lit v)) qs with
     |some ds=>kd (.ag ds)
     |none=>False
    |none=>False
   |_=>False
  |_,_=>False):=bx rfl rfl
theorem AW.condS {x:Cx}{Q:Exit→List (Nat×D)→Hp→Prop}{tm:List (Nat×D)}{c:Operand}{c1 c2:Code}{b:Bool}(hc:evD tm c=.e (.lit (.bool b)))(ht:b=true→AW P x c1 tm hp Q)(hf:b=false→AW P x c2 tm hp Q):AW P x (.cond c c1 c2) tm hp Q:=by
 refine AW.cond hc ?_
 cases b
 ·exact hf rfl
 ·exact ht rfl
end
end
section
inductive Bef (ops:Array Oper):Nat→Nat→Prop
 |edge (i:Nat) (o:Oper) (e:Edge) (hi:ops[i]? =some o) (he:e∈o.after) (hb:Region.binds .any e=true):Bef ops e.on i
 |trans (j i:Nat) (o:Oper) (e:Edge) (hi:ops[i]? =some o) (he:e∈o.after) (hb:Region.binds .any e=true) (h:Bef ops j e.on):Bef ops j i
def fz {α:Type}(n:Nat)(k:Nat→α):α:=match n with
 |0=>k 0
 |m+1=>k (m+1)
theorem JO {α:Type}{n:Nat}{k:Nat→α}:fz n k=k n:=by cases n <;> rfl
def look:List (Nat×Nat)→Nat→Nat
 |[],_=>0
 |(j,b)::m,k=>if Nat.beq j k then b else look m k
def xh(m:List (Nat×Nat))(l:List Edge)(s:Nat):Nat:=match l with
 |[]=>s
 |e::l=>if Region.binds .any e then fz (s |||2 ^ e.on |||look m e.on) fun s=>xh m l s else xh m l s
theorem xg(m:List (Nat×Nat)):∀(l:List Edge) (s j:Nat),(xh m l s).testBit j=true→
  s.testBit j=true∨∃e∈l,Region.binds .any e=true∧(e.on=j∨(look m e.on).testBit j=true)
 |[],s,j,h=>.inl h
 |e::l,s,j,h=>by
  unfold xh at h
  split at h
  ·rename_i hb
   rw[JO] at h
   rcases xg m l _ j h with h1|⟨e',h1,h2⟩
   ·rw[Ex,Ex] at h1
    simp only[Bool.or_eq_true] at h1
    rcases h1 with (h1|h1)|h1
    ·exact .inl h1
    ·rw[Nat.testBit_two_pow] at h1
     exact .inr ⟨e,lq ..,hb,.inl (by simpa using h1)⟩
    ·exact .inr ⟨e,lq ..,hb,.inr h1⟩
   ·exact .inr ⟨e',mA _ h1,h2⟩
  ·rcases xg m l _ j h with h1|⟨e',h1,h2⟩
   ·exact .inl h1
   ·exact .inr ⟨e',mA _ h1,h2⟩
theorem CH {ops:Array Oper}:∀{m:List (Nat×Nat)},(∀p∈m,∀j,p.2.testBit j=true→Bef ops j p.1)→∀k j,(look m k).testBit j=true→Bef ops j k
 |[],_,k,j,h=>by simp[look] at h
 |(i,b)::m,hm,k,j,h=>by
  unfold look at h
  split at h
  ·rename_i he
   obtain rfl:i=k:=u5 he
   exact hm _ (lq ..) j h
  ·exact CH (fun p hp=>hm p (mA _ hp)) k j h
def ma(ops:Array Oper)(o:Oper):List Tmp:=
 (o.op.operands.toList.filterMap fun| .tmp t=>some t|_=>none)++(match o.guard with
  |some (j,_)=>((ops[j]?).bind (·.dst)).toList
  |none=>[])
def subB(a b:Nat):Bool:=Nat.beq (a &&&b) a
theorem wX {a b j:Nat}(h:subB a b=true)(hj:a.testBit j=true):b.testBit j=true:=by
 have h:=u5 h
 rw[←h,Nat.testBit_and] at hj
 simp only[iB] at hj
 exact hj.2
def uk(c:Bool)(s i:Nat):Nat:=if c then s |||2 ^ i else s
theorem xi {c:Bool}{s i j:Nat}(h:s.testBit j=true):(uk c s i).testBit j=true:=by
 unfold uk;split
 ·rw[Ex,h];rfl
 ·exact h
theorem xj {s i:Nat}:(uk true s i).testBit i=true:=by
 unfold uk;rw[ao rfl,Ex,Nat.testBit_two_pow];simp
def Ct(s:List (Tmp×Nat))(i:Nat):List Tmp→List (Tmp×Nat)
 |[]=>s
 |t::ts=>Ct ((t,i)::s) i ts
theorem wU {i:Nat}:∀{ts:List Tmp} {s:List (Tmp×Nat)} {p:Tmp×Nat},p∈s→p∈Ct s i ts
 |[],_,_,h=>h
 |_::ts,_,_,h=>wU (ts:=ts) (mA _ h)
theorem Cs {i:Nat}:∀{ts:List Tmp} {s:List (Tmp×Nat)} {t:Nat},t∈ts→(t,i)∈Ct s i ts
 |t'::ts,s,t,h=>by
  show (t,i)∈Ct ((t',i)::s) i ts
  rcases jI.1 h with rfl|h
  ·exact wU (lq ..)
  ·exact Cs h
def NZ(d:Option Tmp)(b:Nat)(u pr:List (Tmp×Nat)):Bool:=match d with
 |none=>true
 |some t=>(u.all fun p=>!Nat.beq p.1 t||b.testBit p.2)&&pr.all fun p=>!Nat.beq p.1 t
def On(d:Option Tmp)(i:Nat)(pr:List (Tmp×Nat)):List (Tmp×Nat):=match d with
 |none=>pr
 |some t=>(t,i)::pr
def fzl {α:Type}:List Nat→(List Nat→α)→α
 |[],k=>k []
 |t::ts,k=>fz t fun t=>fzl ts fun ts=>k (t::ts)
theorem NY {α:Type}:∀{l:List Nat} {k:List Nat→α},fzl l k=k l
 |[],_=>rfl
 |_::_,_=>by rw[fzl,JO,NY]
def LZ {α:Type}(u:List (Tmp×Nat))(i:Nat):List Tmp→(List (Tmp×Nat)→α)→α
 |[],k=>k u
 |t::ts,k=>LZ ((t,i)::u) i ts k
theorem Fm {α:Type}{i:Nat}:∀{ts:List Tmp} {u:List (Tmp×Nat)} {k:List (Tmp×Nat)→α},LZ u i ts k=k (Ct u i ts)
 |[],_,_=>rfl
 |_::ts,_,_=>Fm (ts:=ts)
def Om {α:Type}(d:Option Tmp)(i:Nat)(pr:List (Tmp×Nat))(k:List (Tmp×Nat)→α):α:=match d with
 |none=>k pr
 |some t=>fz t fun t=>k ((t,i)::pr)
theorem Ol {α:Type}{d:Option Tmp}{i:Nat}{pr:List (Tmp×Nat)}{k:List (Tmp×Nat)→α}:Om d i pr k=k (On d i pr):=by
 cases d with
 |none=>rfl
 |some t=>rw[Om,JO];rfl
def ordG(tb:TypeId→Option TyE)(L:List FuncId)(ops:Array Oper):List Oper→Nat→List (Nat×Nat)→Nat→Nat→Nat→List (Tmp×Nat)→List (Tmp×Nat)→Bool
 |[],_,_,_,_,_,_,_=>true
 |o::os,i,m,lo,ld,vs,u,pr=>
  fz (xh m o.after.toList 0) fun b=>fzl (ma ops o) fun ts=>
  o.after.toList.all (fun e=>!Region.binds .any e||Nat.blt e.on i)&&
  (fT tb L o.op||subB lo b)&&
  (!nz o.op||subB vs b)&&
  (!uE tb L o.op||subB ld b)&&
  NZ o.dst b u pr&&
  ts.all (fun t=>pr.all fun p=>!Nat.beq p.1 t||b.testBit p.2)&&
  fz (uk (!fT tb L o.op) lo i) fun lo=>fz (uk (nz o.op) ld i) fun ld=>fz (uk (uE tb L o.op) vs i) fun vs=>fz (i+1) fun i'=>
  LZ u i ts fun u=>Om o.dst i pr fun pr=>ordG tb L ops os i' ((i,b)::m) lo ld vs u pr
def ui(tb:TypeId→Option TyE)(L:List FuncId)(ops:Array Oper):Bool:=ordG tb L ops ops.toList 0 [] 0 0 0 [] []
structure OrdT(tb:TypeId→Option TyE)(L:List FuncId)(ops:Array Oper):Prop where
 low:∀(i:Nat) (o:Oper) (e:Edge),ops[i]? =some o→e∈o.after→Region.binds .any e=true→e.on<i
 dst:∀(i j:Nat) (o o':Oper) (t:Tmp),ops[i]? =some o→ops[j]? =some o'→o.dst=some t→o'.dst=some t→i=j
 data:∀(i j:Nat) (o o':Oper) (t:Tmp),ops[i]? =some o→ops[j]? =some o'→i≠j→t∈ma ops o→o'.dst=some t→(j<i∧Bef ops j i)∨(i<j∧Bef ops i j)
 loud:∀(i j:Nat) (o o':Oper),ops[i]? =some o→ops[j]? =some o'→i<j→fT tb L o.op=false→fT tb L o'.op=false→Bef ops i j
 vars:∀(i j:Nat) (o o':Oper),ops[i]? =some o→ops[j]? =some o'→i≠j→nz o.op=true→uE tb L o'.op=true→(j<i∧Bef ops j i)∨(i<j∧Bef ops i j)
structure OrdP(tb:TypeId→Option TyE)(L:List FuncId)(ops:Array Oper)(j i:Nat)(o' o:Oper):Prop where
 dst:∀t,o'.dst=some t→o.dst≠some t
 fwd:∀t,t∈ma ops o→o'.dst=some t→Bef ops j i
 bwd:∀t,t∈ma ops o'→o.dst=some t→Bef ops j i
 loud:fT tb L o.op=false→fT tb L o'.op=false→Bef ops j i
 v1:nz o.op=true→uE tb L o'.op=true→Bef ops j i
 v2:uE tb L o.op=true→nz o'.op=true→Bef ops j i
structure OrdI(tb:TypeId→Option TyE)(L:List FuncId)(ops:Array Oper)(i:Nat)(m:List (Nat×Nat))(lo ld vs:Nat)(u pr:List (Tmp×Nat)):Prop where
 m:∀p∈m,∀j,p.2.testBit j=true→Bef ops j p.1
 lo:∀j o,j<i→ops[j]? =some o→fT tb L o.op=false→lo.testBit j=true
 ld:∀j o,j<i→ops[j]? =some o→nz o.op=true→ld.testBit j=true
 vs:∀j o,j<i→ops[j]? =some o→uE tb L o.op=true→vs.testBit j=true
 u:∀j o t,j<i→ops[j]? =some o→t∈ma ops o→(t,j)∈u
 pr:∀j o t,j<i→ops[j]? =some o→o.dst=some t→(t,j)∈pr
theorem CB {tb:TypeId→Option TyE}{L:List FuncId}{ops:Array Oper}:∀(os:List Oper) (i:Nat) (m:List (Nat×Nat)) (lo ld vs:Nat) (u pr:List (Tmp×Nat)),ops.toList.drop i=os→OrdI tb L ops i m lo ld vs u pr→ordG tb L ops os i m lo ld vs u pr=true→
  ∀k o,i≤k→ops[k]? =some o→(∀e∈o.after,Region.binds .any e=true→e.on<k)∧∀j o',j<k→ops[j]? =some o'→OrdP tb L ops j k o' o
 |[],i,m,lo,ld,vs,u,pr,hd,_,_,k,o,hk,hok=>by
  have:ops.toList.length≤i:=List.drop_eq_nil_iff.1 hd
  have h2:k<ops.size:=(f7.1 hok).1
  simp at this
  omega
 |o::os,i,m,lo,ld,vs,u,pr,hd,hI,h,k,ok,hk,hok=>by
  have ho:ops[i]? =some o:=by
   have:(ops.toList.drop i)[0]? =some o:=by rw[hd];rfl
   rw[oM] at this
   simpa using this
  have BI:ops.toList.drop (i+1)=os:=by
   rw[←oi,hd];rfl
  unfold ordG at h
  simp only[JO,NY,Fm,Ol,iB] at h
  obtain⟨⟨⟨⟨⟨⟨h1,h2⟩,h3⟩,h4⟩,h5⟩,h6⟩,h7⟩:=h
  have hb:∀j,(xh m o.after.toList 0).testBit j=true→Bef ops j i:=by
   intro j hj
   rcases xg m _ _ _ hj with h|⟨e,he,hbi,h⟩
   ·simp at h
   ·rcases h with rfl|h
    ·exact .edge _ o e ho (by simpa using he) hbi
    ·exact .trans j _ o e ho (by simpa using he) hbi (CH hI.m _ _ h)
  rcases bZ i k with hik|hik
  ·refine CB os (i+1) _ _ _ _ _ _ BI ?_ h7 k ok hik hok
   have split:∀{j:Nat} {oj:Oper} {Q:Nat→Oper→Prop},j<i+1→ops[j]? =some oj→(j<i→ops[j]? =some oj→Q j oj)→Q i o→Q j oj:=by
    intro j oj Q hj oV hold qx
    rcases bZ j i with h|h
    ·exact hold h oV
    ·obtain rfl:j=i:=by omega
     obtain rfl:o=oj:=by rw[ho] at oV;injection oV
     exact qx
   refine⟨fun p hp=>?_,fun j oj hj oV=>?_,fun j oj hj oV=>?_,fun j oj hj oV=>?_,fun j oj t hj oV=>?_,fun j oj t hj oV=>?_⟩
   ·rcases jI.1 hp with rfl|hp
    ·exact hb
    ·exact hI.m p hp
   ·refine split (Q:=fun j oj=>fT tb L oj.op=false→(uk (!fT tb L o.op) lo i).testBit j=true) hj oV (fun hj oV hq=>xi (hI.lo j oj hj oV hq)) fun hq=>?_
    rw[hq];exact xj
   ·refine split (Q:=fun j oj=>nz oj.op=true→(uk (nz o.op) ld i).testBit j=true) hj oV (fun hj oV hq=>xi (hI.ld j oj hj oV hq)) fun hq=>?_
    rw[hq];exact xj
   ·refine split (Q:=fun j oj=>uE tb L oj.op=true→(uk (uE tb L o.op) vs i).testBit j=true) hj oV (fun hj oV hq=>xi (hI.vs j oj hj oV hq)) fun hq=>?_
    rw[hq];exact xj
   ·exact split (Q:=fun j oj=>t∈ma ops oj→(t,j)∈Ct u i (ma ops o)) hj oV (fun hj oV hq=>wU (hI.u j oj t hj oV hq)) fun hq=>Cs hq
   ·refine split (Q:=fun j oj=>oj.dst=some t→(t,j)∈On o.dst i pr) hj oV (fun hj oV hq=>?_) fun hq=>?_
    ·have:=hI.pr j oj t hj oV hq
     unfold On
     split
     ·exact this
     ·exact mA _ this
    ·rw[hq];exact lq ..
  ·obtain rfl:i=k:=by omega
   obtain rfl:o=ok:=by rw[ho] at hok;injection hok
   have fresh:∀t,o.dst=some t→(∀j,(t,j)∈u→Bef ops j i)∧∀p∈pr,p.1≠t:=by
    intro t ht
    rw[ht] at h5
    simp only[NZ,iB,u4,b7] at h5
    refine⟨fun j hj=>?_,fun p hp e=>?_⟩
    ·have:=h5.1 _ hj
     simp only[Ew,d7,Bool.false_or] at this
     exact hb j this
    have:=h5.2 p hp
    rw[e,Ew] at this
    cases this
   refine⟨fun e he hbe=>?_,fun j o' hj oV=>⟨fun t ht HQ=>?_,fun t ht HQ=>?_,fun t ht HQ=>?_,fun hq KW=>?_,fun hl hv=>?_,fun hv hl=>?_⟩⟩
   ·have:=b7.1 h1 e (by simpa using he)
    rw[hbe] at this
    simpa[Nat.blt_eq] using this
   ·exact (fresh t HQ).2 _ (hI.pr j o' t hj oV ht) rfl
   ·have:=b7.1 (b7.1 h6 t ht) _ (hI.pr j o' t hj oV HQ)
    simp only[Ew,d7,Bool.false_or] at this
    exact hb j this
   ·exact (fresh t HQ).1 j (hI.u j o' t hj oV ht)
   ·rw[hq] at h2
    exact hb j (wX (by simpa using h2) (hI.lo j o' hj oV KW))
   ·rw[hl] at h3
    exact hb j (wX (by simpa using h3) (hI.vs j o' hj oV hv))
   ·rw[hv] at h4
    exact hb j (wX (by simpa using h4) (hI.ld j o' hj oV hl))
theorem zS {tb:TypeId→Option TyE}{L:List FuncId}{ops:Array Oper}(h:ui tb L ops=true):OrdT tb L ops:=by
 have key:=CB (tb:=tb) (L:=L) (ops:=ops) ops.toList 0 [] 0 0 0 [] [] rfl
  ⟨fun p hp=>(by cases hp),fun j o hj=>absurd hj (yB _),fun j o hj=>absurd hj (yB _),fun j o hj=>absurd hj (yB _),fun j o t hj=>absurd hj (yB _),fun j o t hj=>absurd hj (yB _)⟩ h
 refine⟨fun i o e hi he hbe=>(key i o (de _) hi).1 e he hbe,fun i j o o' t hi hj ht HQ=>?_,fun i j o o' t hi hj lK ht HQ=>?_,fun i j o o' hi hj bz hq KW=>?_,fun i j o o' hi hj lK hq hv=>?_⟩
 ·rcases AY i j with h1|h1|h1
  ·exact absurd HQ (((key j o' (de _) hj).2 i o h1 hi).dst t ht)
  ·exact h1
  ·exact absurd ht (((key i o (de _) hi).2 j o' h1 hj).dst t HQ)
 ·rcases bZ i j with h1|h1
  ·exact .inr ⟨h1,((key j o' (de _) hj).2 i o h1 hi).bwd t ht HQ⟩
  ·exact .inl ⟨by omega,((key i o (de _) hi).2 j o' (by omega) hj).fwd t ht HQ⟩
 ·exact ((key j o' (de _) hj).2 i o bz hi).loud KW hq
 ·rcases bZ i j with h1|h1
  ·exact .inr ⟨h1,((key j o' (de _) hj).2 i o h1 hi).v2 hv hq⟩
  ·exact .inl ⟨by omega,((key i o (de _) hi).2 j o' (by omega) hj).v1 hq hv⟩
section
variable {P:Program} {tb:TypeId→Option TyE} {L:List FuncId}
structure Run(P:Program)(tb:TypeId→Option TyE)(L:List FuncId)(ops:Array Oper)(n:Nat)(dd:Nat→D)(hh:Nat→Hp)(ac:Nat→Bool)(tms:Nat→List (Nat×D)):Prop where
 ts:∀(i:Nat) (o:Oper),i<n→ops[i]? =some o→tms (i+1)=w8 o.dst (dd i) (tms i)
 on:∀(i:Nat) (o:Oper),i<n→ops[i]? =some o→ac i=true→Gd ops o (tms i) true∧lh P tb (.any L) o (evD (tms i)) (hh i) (dd i) (hh (i+1))
 off:∀(i:Nat) (o:Oper),i<n→ops[i]? =some o→ac i=false→Gd ops o (tms i) false∧Offs o (evD (tms i)) (dd i)∧hh (i+1)=hh i
theorem Hn {ops:Array Oper}{K:List (Nat×D)→Hp→Prop}:∀(rest:List Oper) (i:Nat) (dd:Nat→D) (hh:Nat→Hp) (ac:Nat→Bool) (tms:Nat→List (Nat×D)),Run P tb L ops i dd hh ac tms→ops.toList.drop i=rest→bt P tb (.any L) ops K rest (tms i) (hh i)→
  ∃dd' NC ac' Dq,Run P tb L ops (i+rest.length) dd' NC ac' Dq∧K (Dq (i+rest.length)) (NC (i+rest.length))∧Dq 0=tms 0∧NC 0=hh 0
 |[],i,dd,hh,ac,tms,hr,_,h=>by
  cases h with
  |nil h=>exact⟨dd,hh,ac,tms,hr,h,rfl,rfl⟩
  |wk hmd=>cases hmd
 |o::rest,i,dd,hh,ac,tms,hr,hd,h=>by
  have ho:ops[i]? =some o:=by
   have:(ops.toList.drop i)[0]? =some o:=by rw[hd];rfl
   rw[oM] at this
   simpa using this
  have BI:ops.toList.drop (i+1)=rest:=by
   rw[←oi,hd];rfl
  have ext:∀(d:D) (hp':Hp) (b:Bool),((b=true→Gd ops o (tms i) true∧lh P tb (.any L) o (evD (tms i)) (hh i) d hp')∧(b=false→Gd ops o (tms i) false∧Offs o (evD (tms i)) d∧hp'=hh i))→bt P tb (.any L) ops K rest (w8 o.dst d (tms i)) hp'→
    ∃dd' NC ac' Dq,Run P tb L ops (i+(o::rest).length) dd' NC ac' Dq∧K (Dq (i+(o::rest).length)) (NC (i+(o::rest).length))∧Dq 0=tms 0∧NC 0=hh 0:=by
   intro d hp' b hb M8
   have bD:Run P tb L ops (i+1) (fun j=>if j=i then d else dd j) (fun j=>if j=i+1 then hp' else hh j) (fun j=>if j=i then b else ac j) (fun j=>if j=i+1 then w8 o.dst d (tms i) else tms j):=by
    refine⟨fun j oj hj oV=>?_,fun j oj hj oV G8=>?_,fun j oj hj oV G8=>?_⟩
    ·by_cases B7:j=i
     ·subst B7
      obtain rfl:o=oj:=by rw[ho] at oV;injection oV
      simp
     ·have h5:=hr.ts j oj (by omega) oV
      have h6:j+1≠i+1:=by omega
      have h7:j≠i+1:=by omega
      simp only[h6,h7,B7,lG]
      exact h5
    ·by_cases B7:j=i
     ·subst B7
      obtain rfl:o=oj:=by rw[ho] at oV;injection oV
      have:b=true:=by simpa using G8
      simpa using hb.1 this
     ·have h5:ac j=true:=by simpa[B7] using G8
      have h6:j+1≠i+1:=by omega
      have h7:j≠i+1:=by omega
      simp only[h6,h7,B7,lG]
      exact hr.on j oj (by omega) oV h5
    ·by_cases B7:j=i
     ·subst B7
      obtain rfl:o=oj:=by rw[ho] at oV;injection oV
      have:b=false:=by simpa using G8
      simpa using hb.2 this
     ·have h5:ac j=false:=by simpa[B7] using G8
      have h6:j+1≠i+1:=by omega
      have h7:j≠i+1:=by omega
      simp only[h6,h7,B7,lG]
      exact hr.off j oj (by omega) oV h5
   obtain⟨dd',NC,ac',Dq,h1,h2,h3,h4⟩:=Hn (ops:=ops) (K:=K) rest (i+1) _ _ _ _ bD BI (by rw[ao rfl,ao rfl];exact M8)
   refine⟨dd',NC,ac',Dq,?_,?_,?_,?_⟩
   ·rw[lH,show i+(rest.length+1)=i+1+rest.length by omega];exact h1
   ·rw[lH,show i+(rest.length+1)=i+1+rest.length by omega];exact h2
   ·rw[h3];exact ifn_
   ·rw[h4];exact ifn_
  cases h with
  |on d hp' hg h2 h1=>exact ext d hp' true ⟨fun _=>⟨hg,h2⟩,fun h=>by cases h⟩ h1
  |off d hg hs h1=>exact ext d (hh i) false ⟨fun h=>(by cases h),fun _=>⟨hg,hs,rfl⟩⟩ h1
  |sq hmd=>cases hmd
  |wk hmd=>cases hmd
theorem Run.quiet_step {ops:Array Oper}{n:Nat}{dd:Nat→D}{hh:Nat→Hp}{ac:Nat→Bool}{tms:Nat→List (Nat×D)}(hr:Run P tb L ops n dd hh ac tms){j:Nat}{o:Oper}(hj:j<n)(ho:ops[j]? =some o)(hq:fT tb L o.op=true):hh (j+1)=hh j:=by
 cases G8:ac j with
 |true=>exact ((hr.on j o hj ho G8).2.quiet hq).1
 |false=>exact (hr.off j o hj ho G8).2.2
theorem Run.fr_step {ops:Array Oper}{n:Nat}{dd:Nat→D}{hh:Nat→Hp}{ac:Nat→Bool}{tms:Nat→List (Nat×D)}(hr:Run P tb L ops n dd hh ac tms){j:Nat}{o:Oper}(hj:j<n)(ho:ops[j]? =some o)(hq:uE tb L o.op=false):Fr (hh j) (hh (j+1)):=by
 cases G8:ac j with
 |true=>exact (hr.on j o hj ho G8).2.fr hq
 |false=>rw[(hr.off j o hj ho G8).2.2];exact Fr.refl _
theorem Fr.trans {a b c:Hp}(h:Fr a b)(h':Fr b c):Fr a c:=⟨cG h.1 h'.1,fun j hj=>(h'.2 j (bG hj h.1)).trans (h.2 j hj)⟩
theorem Run.frs {ops:Array Oper}(hh:Nat→Hp){a b:Nat}(As:a≤b)(hb:b≤ops.size)(h:∀j o,a≤j→j<b→ops[j]? =some o→Fr (hh j) (hh (j+1))):Fr (hh a) (hh b):=by
 induction b with
 |zero=>
      obtain rfl:a=0:=by omega
      exact Fr.refl _
 |succ b ih=>
  rcases bZ a (b+1) with h1|h1
  ·have bz:b<ops.size:=by omega
   exact (ih (by omega) (by omega) fun j o h2 h3 h4=>h j o h2 (by omega) h4).trans (h b ops[b] (by omega) (by omega) (lI bz))
  ·obtain rfl:a=b+1:=by omega
   exact Fr.refl _
theorem Run.same {α:Type}{ops:Array Oper}(f:Nat→α){a b:Nat}(As:a≤b)(hb:b≤ops.size)(h:∀j o,a≤j→j<b→ops[j]? =some o→f (j+1)=f j):f b=f a:=by
 induction b with
 |zero=>
      obtain rfl:a=0:=by omega
      rfl
 |succ b ih=>
  rcases bZ a (b+1) with h1|h1
  ·have bz:b<ops.size:=by omega
   rw[h b ops[b] (by omega) (by omega) (lI bz)]
   exact ih (by omega) (by omega) fun j o h2 h3 h4=>h j o h2 (by omega) h4
  ·obtain rfl:a=b+1:=by omega
   rfl
theorem Run.lookup {ops:Array Oper}{n:Nat}{dd:Nat→D}{hh:Nat→Hp}{ac:Nat→Bool}{tms:Nat→List (Nat×D)}(hr:Run P tb L ops n dd hh ac tms)(hn:n≤ops.size):∀{i:Nat} {t:Nat} {d:D},i≤n→(tms i).lookup t=some d→
  (∃j o,j<i∧ops[j]? =some o∧o.dst=some t∧d=dd j)∨((∀j o,j<i→ops[j]? =some o→o.dst≠some t)∧(tms 0).lookup t=some d)
 |0,t,d,_,h=>.inr ⟨fun j _ hj=>by omega,h⟩
 |i+1,t,d,hi,h=>by
  have bz:i<ops.size:=by omega
  have ho:ops[i]? =some ops[i]:=lI bz
  rw[hr.ts i _ (by omega) ho] at h
  by_cases hd:(ops[i]).dst=some t
  ·rw[hd] at h
   rw[show (w8 (some t) (dd i) (tms i)).lookup t=some (dd i) from ai] at h
   injection h with h
   exact .inl ⟨i,_,cl _,ho,hd,h.symm⟩
  ·have h':(tms i).lookup t=some d:=by
    rw[←h]
    cases hdd:(ops[i]).dst with
    |none=>rfl
    |some s=>exact (au (fun e=>hd (by rw[hdd,e]))).symm
   rcases hr.lookup hn (show i≤n by omega) h' with⟨j,o,h1,h2,h3,h4⟩|⟨h1,h2⟩
   ·exact .inl ⟨j,o,by omega,h2,h3,h4⟩
   ·refine .inr ⟨fun j o hj oV=>?_,h2⟩
    rcases bZ j i with h3|h3
    ·exact h1 j o h3 oV
    ·obtain rfl:j=i:=by omega
     obtain rfl:ops[j]=o:=by rw[ho] at oV;injection oV
     exact hd
def LookL(ops:Array Oper)(dd:Nat→D)(tm0:List (Nat×D))(listed:Array Bool)(t:Nat)(d:D):Prop:=
 (∃i o,ops[i]? =some o∧listed.getD i false=true∧o.dst=some t∧d=dd i)∨((∀i o,ops[i]? =some o→listed.getD i false=true→o.dst≠some t)∧tm0.lookup t=some d)
structure InvA(tb:TypeId→Option TyE)(L:List FuncId)(x:Cx)(ops:Array Oper)(dd:Nat→D)(hh:Nat→Hp)(tm0:List (Nat×D))(listed:Array Bool)(a:Act)(w:World)(m:Nat)(g:Gh):Prop where
 size:listed.size=ops.size
 closed:∀(i:Nat) (o:Oper) (e:Edge),ops[i]? =some o→listed.getD i false=true→e∈o.after→Region.binds .any e=true→listed.getD e.on false=true
 le:m≤ops.size
 loud:∀(j:Nat) (o:Oper),ops[j]? =some o→fT tb L o.op=false→(listed.getD j false=true↔j<m)
 hr:HR x.B (hh m) g w
 look:∀t d,LookL ops dd tm0 listed t d→aM (hh m) g w d (a.tmps.getD t undef)
 tsz:a.tmps.size=x.N
 df:a.defers=x.df
 bl:Below x.B x.w0 w
 fr:∀p:Addr,p.block<x.B→x.F0 p→g.F p
 mo:bB x.hp0 x.g0 x.w0 (hh m) g w
theorem Bef.listed {ops:Array Oper}{listed:Array Bool}(Aj:∀(i:Nat) (o:Oper) (e:Edge),ops[i]? =some o→listed.getD i false=true→e∈o.after→Region.binds .any e=true→listed.getD e.on false=true){j i:Nat}(h:Bef ops j i):listed.getD i false=true→listed.getD j false=true:=by
 induction h with
 |edge i o e hi he hb=>exact fun hl=>Aj i o e hi hl he hb
 |trans j i o e hi he hb _ ih=>exact fun hl=>ih (Aj i o e hi hl he hb)
theorem Bef.ready {ops:Array Oper}{listed:Array Bool}(Aj:∀(i:Nat) (o:Oper) (e:Edge),ops[i]? =some o→listed.getD i false=true→e∈o.after→Region.binds .any e=true→listed.getD e.on false=true){j i:Nat}(h:Bef ops j i)(iL:∀o,ops[i]? =some o→∀e∈o.after,Region.binds .any e=true→listed.getD e.on false=true):listed.getD j false=true:=by
 cases h with
 |edge _ o e hi he hb=>exact iL o hi e he hb
 |trans _ _ o e hi he hb h=>exact h.listed Aj (iL o hi e he hb)
theorem Gd.wanted' {ops:Array Oper}{o:Oper}{tm:List (Nat×D)}{hp:Hp}{w:World}{a:Act}{b:Bool}{g:Gh}(h:Gd ops o tm b)(hr:∀t d,t∈ma ops o→tm.lookup t=some d→aM hp g w d (a.tmps.getD t undef)):Region.wanted o (yielded ops a.tmps)=b:=by
 unfold Gd at h
 unfold Region.wanted
 split at h
 ·rename_i hg
  rw[hg,h]
 ·rename_i j want hg
  rw[hg]
  dsimp only
  rcases h with⟨t,c,h1,h2,h3⟩|⟨t,h1,h2,rfl⟩
  rotate_left
  ·have hm:t∈ma ops o:=by
    unfold ma
    rw[hg]
    dsimp only
    rw[h1]
    exact tq.2 (.inr (by simp))
   have hv:=hr t _ hm h2
   have hy:yielded ops a.tmps j=none:=by
    unfold yielded
    rw[h1]
    simp only[A3]
    cases ht:a.tmps[t]? with
    |none=>rfl
    |some u=>
     have hu:a.tmps.getD t undef=u:=by simp[cz,ht]
     rw[hu] at hv
     cases hv with
     |tu _ cs hl hr=>rfl
   rw[hy];rfl
  have hm:t∈ma ops o:=by
   unfold ma
   rw[hg]
   dsimp only
   rw[h1]
   exact tq.2 (.inr (by simp))
  have hv:=(hr t _ hm h2).lit
  have hy:yielded ops a.tmps j=some c:=by
   unfold yielded
   rw[h1]
   simp only[A3]
   cases ht:a.tmps[t]? with
   |none=>simp[cz,ht,undef] at hv
   |some u=>
    have:u=.bool c:=by simpa[cz,ht] using hv
    rw[this]
  rw[hy,←h3]
  rfl
theorem z7 {listed:Array Bool}{i:Nat}(hi:i<listed.size)(j:Nat):(listed.setIfInBounds i true).getD j false=true↔j=i∨listed.getD j false=true:=by
 by_cases B7:j=i
 ·subst B7
  simp[hi]
 ·simp[cz,A9 (kJ B7),B7]
def unl(listed:Array Bool)(n:Nat):Nat:=((List.range n).filter fun j=>!listed.getD j false).length
theorem Dp {listed:Array Bool}{n i:Nat}(hi:i<n)(hs:i<listed.size)(hf:listed.getD i false=false):unl (listed.setIfInBounds i true) n<unl listed n:=by
 unfold unl
 have hsub:∀l:List Nat,((l.filter fun j=>!(listed.setIfInBounds i true).getD j false).length≤(l.filter fun j=>!listed.getD j false).length)∧(i∈l→(l.filter fun j=>!(listed.setIfInBounds i true).getD j false).length<(l.filter fun j=>!listed.getD j false).length):=by
  intro l
  induction l with
  |nil=>exact⟨aI _,fun h=>by cases h⟩
  |cons k l ih=>
   by_cases hki:k=i
   ·subst hki
    have e1:(listed.setIfInBounds k true).getD k false=true:=(z7 hs k).2 (.inl rfl)
    simp only[IF,e1,hf,d7,tz,bk,lH]
    exact⟨by have:=ih.1;simp at this ⊢;omega,fun _=>by have:=ih.1;simp at this ⊢;omega⟩
   ·have e1:(listed.setIfInBounds i true).getD k false=listed.getD k false:=by
     simp[cz,A9 (kJ hki)]
    simp only[IF,e1]
    cases listed.getD k false with
    |true=>exact⟨ih.1,fun h=>ih.2 (by rcases jI.1 h with h|h;exact absurd h.symm hki;exact h)⟩
    |false=>
     simp only[tz,bk,lH]
     exact⟨by have:=ih.1;omega,fun h=>by have:=ih.2 (by rcases jI.1 h with h|h;exact absurd h.symm hki;exact h);omega⟩
 exact (hsub (List.range n)).2 (by simpa using hi)
theorem Ky {op:Op}(h:uE tb L op=true):varB tb op=true:=by have h:=varL_C h;cases op <;> first|rfl|exact h|cases h
theorem FO {op:Op}(hv:varB tb op=true):fT tb L op=false:=by
 have h1:mb op=false:=by
  cases op <;> first|rfl|cases hv|skip
  rename_i c
  obtain⟨callee,aS,ts⟩:=c
  cases callee with
  |builtin b=>cases b <;> first|rfl|cases hv
  |_=>first|rfl|cases hv
 have h2:pN tb L op=false:=by
  cases op <;> first|rfl|skip
  rename_i c
  show ((match c.callee with| .value (.func f)=>L.elem f|_=>false)&&!hvB tb c)=false
  have tO:(hvB tb c||cpB tb c)=true:=hv
  obtain⟨callee,aS,ts⟩:=c
  cases callee with
  |value x=>
   have LB:hvB tb ⟨.value x,aS,ts⟩=true:=by simpa[cpB] using tO
   rw[LB];simp
  |_=>rfl
 unfold fT
 rw[h1,h2];rfl
theorem E5 {x:Cx}{ops:Array Oper}{dd:Nat→D}{hh:Nat→Hp}{ac:Nat→Bool}{tms:Nat→List (Nat×D)}{Q:Exit→Act→World→Prop}(hN:i3 x.N ops=true)(oz:OrdT tb L ops)(bD:Run P tb L ops ops.size dd hh ac tms)
  (hQ:∀a w,RS x (tms ops.size) (hh ops.size) a w→Q .normal a w):∀(fuel:Nat) (listed:Array Bool) (a:Act) (w:World) (m:Nat) (g:Gh),InvA tb L x ops dd hh (tms 0) listed a w m g→unl listed ops.size≤fuel→wpAny P .any ops Q fuel listed a w:=by
 -- when all are listed
 have fin:∀(listed:Array Bool) (a:Act) (w:World) (m:Nat) (g:Gh),InvA tb L x ops dd hh (tms 0) listed a w m g→Region.ready .any ops listed=[]→Q .normal a w:=by
  intro listed a w m g hI hready
  have iL:∀i,i<ops.size→listed.getD i false=true:=by
   intro i
   induction i using Nat.strongRecOn with
   |_ i ih=>
    intro hi
    cases hl:listed.getD i false with
    |true=>rfl
    |false=>
     exfalso
     have Nx:i∈Region.ready .any ops listed:=by
      refine mem_ready.2 ⟨?_,ops[i],lI hi,fun e he hb=>?_⟩
      ·have hsz:=hI.size
       have bz:i<listed.size:=by omega
       simpa[cz,bz] using hl
      ·have:=oz.low i _ e (lI hi) he hb
       exact ih _ this (by omega)
     rw[hready] at Nx
     cases Nx
  have hhm:hh ops.size=hh m:=Run.same (ops:=ops) hh hI.le (aI _) fun j o h1 h2 h3=>by
   cases hq:fT tb L o.op with
   |true=>exact bD.quiet_step h2 h3 hq
   |false=>
    have:=(hI.loud j o h3 hq).1 (iL j h2)
    omega
  refine hQ a w ⟨g,?_,fun t d h=>?_,hI.tsz,hI.df,hI.bl,hI.fr,?_⟩
  rotate_right
  ·rw[hhm];exact hI.mo
  ·rw[hhm];exact hI.hr
  ·rw[hhm]
   refine hI.look t d ?_
   rcases bD.lookup (aI _) (aI _) h with⟨j,o,h1,h2,h3,h4⟩|⟨h1,h2⟩
   ·exact .inl ⟨j,o,h2,iL j h1,h3,h4⟩
   ·exact .inr ⟨fun j o hj _=>h1 j o (by
     rcases bZ j ops.size with h|h
     ·exact h
     ·rw[Ev h] at hj;cases hj) hj,h2⟩
 intro fuel
 induction fuel with
 |zero=>
  intro listed a w m g hI hu
  have hnone:Region.ready .any ops listed=[]:=by
   cases hr:Region.ready .any ops listed with
   |nil=>rfl
   |cons i l=>
    exfalso
    have hi:i∈Region.ready .any ops listed:=by rw[hr];exact lq ..
    obtain⟨h1,o,ho,_⟩:=mem_ready.1 hi
    have bz:i<ops.size:=(f7.1 ho).1
    have hs:i<listed.size:=by rw[hI.size];exact bz
    have hf:listed.getD i false=false:=by simpa[cz,hs] using h1
    have:=Dp bz hs hf
    omega
  exact⟨hnone,fin listed a w m g hI hnone⟩
 |succ fuel ih=>
  intro listed a w m g hI hu
  refine⟨fun h=>fin listed a w m g hI h,fun i hi=>?_⟩
  obtain⟨h1,o,ho,iL⟩:=mem_ready.1 hi
  have bz:i<ops.size:=(f7.1 ho).1
  have hs:i<listed.size:=by rw[hI.size];exact bz
  have hf:listed.getD i false=false:=by simpa[cz,hs] using h1
  have wF:¬listed.getD i false=true:=by rw[hf];simp
  have hbef:∀j,Bef ops j i→listed.getD j false=true:=fun j h=>h.ready hI.closed fun o' rt=>by
   obtain rfl:o=o':=by rw[ho] at rt;injection rt
   exact iL
  have Nk:∀j,Bef ops i j→listed.getD j false≠true:=fun j h hj=>wF (h.listed hI.closed hj)
  have HS:=z7 hs
  have sx:unl (listed.setIfInBounds i true) ops.size≤fuel:=by have:=Dp bz hs hf;omega
  have hdn:∀t,o.dst=some t→t<x.N:=fun t ht=>jq hN ho ht
  have NH:∀(j:Nat) (o':Oper) (e:Edge),ops[j]? =some o'→(listed.setIfInBounds i true).getD j false=true→e∈o'.after→Region.binds .any e=true→(listed.setIfInBounds i true).getD e.on false=true:=by
   intro j o' e hj hl he hb
   refine (HS _).2 (.inr ?_)
   rcases (HS j).1 hl with rfl|hl
   ·obtain rfl:o=o':=by rw[ho] at hj;injection hj
    exact iL e he hb
   ·exact hI.closed j o' e hj hl he hb
  -- what the operation reads
  have hread:∀t d,t∈ma ops o→(tms i).lookup t=some d→LookL ops dd (tms 0) listed t d:=by
   intro t d ht hl
   rcases bD.lookup (aI _) (nA bz) hl with⟨j,oj,h2,h3,h4,h5⟩|⟨h2,h3⟩
   ·refine .inl ⟨j,oj,h3,?_,h4,h5⟩
    rcases oz.data i j o oj t ho h3 (by omega) ht h4 with⟨_,h⟩|⟨h,_⟩
    ·exact hbef j h
    ·omega
   ·refine .inr ⟨fun j oj hj hlj hd=>?_,h3⟩
    by_cases B7:j=i
    ·subst B7;exact wF hlj
    ·rcases oz.data i j o oj t ho hj (kJ B7) ht hd with⟨h,_⟩|⟨_,h⟩
     ·exact h2 j oj h hj hd
     ·exact Nk j h hlj
  have gJ:∀t d,t∈ma ops o→(tms i).lookup t=some d→aM (hh m) g w d (a.tmps.getD t undef):=fun t d ht hl=>hI.look t d (hread t d ht hl)
  have Ni:∀y∈o.op.operands,aM (hh m) g w (evD (tms i) y) (a.eval y):=by
   intro y hy
   cases y with
   |tmp t=>
    show aM (hh m) g w (((tms i).lookup t).getD .top) _
    cases hl:(tms i).lookup t with
    |none=>exact .top _
    |some d=>
     refine gJ t d ?_ hl
     unfold ma
     refine tq.2 (.inl (List.mem_filterMap.2 ⟨.tmp t,by simpa using hy,rfl⟩))
   |const v=>exact AE g v
   |global g'=>exact .top _
   |func f=>exact .e _ _ (.lit _ rfl)
  -- the invariant behind the operation
  have next:∀(a':Act) (w':World) (m':Nat) (g':Gh) (v:Value),a'=a.put o.dst v→m'≤ops.size→(∀(j:Nat) (o':Oper),ops[j]? =some o'→fT tb L o'.op=false→((listed.setIfInBounds i true).getD j false=true↔j<m'))→
    HR x.B (hh m') g' w'→bB (hh m) g w (hh m') g' w'→aM (hh m') g' w' (dd i) v→Below x.B w w'→(∀p:Addr,p.block<x.B→g.F p→g'.F p)→wpAny P .any ops Q fuel (listed.setIfInBounds i true) a' w':=by
   intro a' w' m' g' v ha zp hloud oo hmo hd hb hF
   have hmono:∀d u,aM (hh m) g w d u→aM (hh m') g' w' d u:=fun d u h=>h.mono hmo
   subst ha
   refine ih _ _ _ m' g' ⟨by simp[hI.size],NH,zp,hloud,oo,fun t d hl=>?_,by rw[py];exact hI.tsz,by rw[mc];exact hI.df,hI.bl.trans hb,fun p h1 h2=>hF p h1 (hI.fr p h1 h2),hI.mo.trans hmo⟩ sx
   by_cases hdt:o.dst=some t
   ·have hdd:d=dd i:=by
     rcases hl with⟨j,oj,h2,_,h4,h5⟩|⟨h2,_⟩
     ·obtain rfl:=oz.dst j i oj o t h2 ho h4 hdt
      exact h5
     ·exact absurd hdt (h2 i o ho ((HS i).2 (.inl rfl)))
    subst hdd
    rw[hdt,vK (by rw[hI.tsz];exact hdn t hdt)]
    exact hd
   ·rw[CA hdt]
    refine hmono _ _ (hI.look t d ?_)
    rcases hl with⟨j,oj,h2,h3,h4,h5⟩|⟨h2,h3⟩
    ·refine .inl ⟨j,oj,h2,?_,h4,h5⟩
     rcases (HS j).1 h3 with rfl|h3
     ·obtain rfl:o=oj:=by rw[ho] at h2;injection h2
      exact absurd h4 hdt
     ·exact h3
    ·exact .inr ⟨fun j oj hj hlj=>h2 j oj hj ((HS j).2 (.inr hlj)),h3⟩
  -- a loud operation comes up in the order of the text
  have Ag:fT tb L o.op=false→hh i=hh m∧m≤i:=by
   intro hq
   have hmi:m≤i:=by
    rcases bZ i m with h|h
    ·exact absurd ((hI.loud i o ho hq).2 h) wF
    ·exact h
   refine⟨Run.same (ops:=ops) hh hmi (nA bz) fun j oj h2 h3 h4=>?_,hmi⟩
   cases Nc:fT tb L oj.op with
   |true=>exact bD.quiet_step (by omega) h4 Nc
   |false=>
    have:=(hI.loud j oj h4 Nc).1 (hbef j (oz.loud j i oj o h4 ho h3 Nc hq))
    omega
  have Af:fT tb L o.op=false→∀(j:Nat) (o':Oper),ops[j]? =some o'→fT tb L o'.op=false→((listed.setIfInBounds i true).getD j false=true↔j<i+1):=by
   intro hq j o' hj Nc
   obtain⟨_,hmi⟩:=Ag hq
   rw[HS,hI.loud j o' hj Nc]
   constructor
   ·rintro (rfl|h) <;> omega
   ·intro h
    by_cases B7:j=i
    ·exact .inl B7
    ·exact .inr ((hI.loud j o' hj Nc).1 (hbef j (oz.loud j i o' o hj ho (by omega) Nc hq)))
  have yo:fT tb L o.op=true→∀(j:Nat) (o':Oper),ops[j]? =some o'→fT tb L o'.op=false→((listed.setIfInBounds i true).getD j false=true↔j<m):=by
   intro hq j o' hj Nc
   rw[HS,←hI.loud j o' hj Nc]
   constructor
   ·rintro (rfl|h)
    ·obtain rfl:o=o':=by rw[ho] at hj;injection hj
     rw[hq] at Nc;cases Nc
    ·exact h
   ·exact .inr
  unfold wpOp
  rw[ho]
  dsimp only
  cases G8:ac i with
  |true=>
   obtain⟨hg,hsnd⟩:=bD.on i o bz ho G8
   rw[hg.wanted' gJ,ao rfl]
   left
   cases hq:fT tb L o.op with
   |false=>
    obtain⟨he,_⟩:=Ag hq
    have hok:=hsnd.ok
    rw[he] at hok
    refine hok x.B g w a _ _ hI.hr Ni fun v g' w' oo mo hd hb hF=>?_
    exact next _ w' (i+1) g' v rfl bz (Af hq) oo mo hd hb hF
   |true=>
    have hv:nz o.op=true→O2 o (evD (tms i)) (hh i) (hh m):=by
     intro hld
     have noV:∀j oj,ops[j]? =some oj→(m≤j∧j<i∨i≤j∧j<m)→uE tb L oj.op=false:=by
      intro j oj hj hr
      cases hv:uE tb L oj.op with
      |false=>rfl
      |true=>
       exfalso
       have Ah:fT tb L oj.op=false:=FO (Ky hv)
       have lK:i≠j:=fun e=>by
        subst e
        obtain rfl:o=oj:=by rw[ho] at hj;injection hj
        rw[hq] at Ah;cases Ah
       rcases oz.vars i j o oj ho hj lK hld hv with⟨h2,h3⟩|⟨h2,h3⟩
       ·have:=(hI.loud j oj hj Ah).1 (hbef j h3)
        omega
       ·have:=Nk j h3
        have:¬j<m:=fun h=>this ((hI.loud j oj hj Ah).2 h)
        omega
     intro x hx j off hxe
     have hjm:j<(hh m).next:=by
      have h3:=(Ni x hx).un
      rw[hxe] at h3
      generalize a.eval x=u at h3
      cases h3 with
      |pt _ _ hk=>exact hk
     have B7:j<(hh i).next:=hsnd.lk hld x hx j off hxe
     rcases Nat.le_total m i with hmi|hmi
     ·exact ((Run.frs (ops:=ops) hh hmi (nA bz) fun j oj h2 h3 h4=>bD.fr_step (by omega) h4 (noV j oj h4 (.inl ⟨h2,h3⟩))).2 j hjm).symm
     ·exact (Run.frs (ops:=ops) hh hmi hI.le fun j oj h2 h3 h4=>bD.fr_step (by have:=hI.le;omega) h4 (noV j oj h4 (.inr ⟨h2,h3⟩))).2 j B7
    have hok:=(hsnd.quiet hq).2 (hh m) hv
    refine hok x.B g w a _ _ hI.hr Ni fun v g' w' oo mo hd hb hF=>?_
    exact next _ w' m g' v rfl hI.le (yo hq) oo mo hd hb hF
  |false=>
   obtain⟨hg,hd,he⟩:=bD.off i o bz ho G8
   rw[hg.wanted' gJ,aq (by simp)]
   cases hq:fT tb L o.op with
   |false=>
    obtain⟨he2,_⟩:=Ag hq
    have e3:hh (i+1)=hh m:=by rw[he,he2]
    exact next _ w (i+1) g undef rfl bz (Af hq) (by rw[e3];exact hI.hr) (by rw[e3];exact bB.refl _ _ _) (by rw[e3];exact hd _ g w a Ni) (Below.refl _ _) fun _ _ h=>h
   |true=>
    exact next _ w m g undef rfl hI.le (yo hq) hI.hr (bB.refl _ _ _) (hd _ g w a Ni) (Below.refl _ _) fun _ _ h=>h
theorem AW.drawS {x:Cx}{tm:List (Nat×D)}{hp:Hp}{Q:Exit→List (Nat×D)→Hp→Prop}{id:Nat}{ops:Array Oper}(hm:P.follows .mixedOrders=true)(hN:i3 x.N ops=true)(oz:ui tb L ops=true)
  (h:∀K:List (Nat×D)→Hp→Prop,(∀tm hp,Q .normal tm hp→K tm hp)→bt P tb (.any L) ops K ops.toList tm hp):AW P x (.region id ops true) tm hp Q:=by
 intro a w hr
 refine wp_region_any hm ?_
 obtain⟨dd,hh,ac,tms,bD,hK,h1,h2⟩:=Hn (ops:=ops) ops.toList 0 (fun _=>.top) (fun _=>hp) (fun _=>false) (fun _=>tm) ⟨fun _ _ h=>absurd h (by omega),fun _ _ h=>absurd h (by omega),fun _ _ h=>absurd h (by omega)⟩ rfl (h _ fun _ _ h=>h)
 simp only[bE,dT] at bD hK h1 h2
 obtain⟨g,Nb,gJ,hsz,qI,hB,hF,hM⟩:=hr
 refine E5 hN (zS oz) bD (fun a w hr=>⟨_,_,hr,hK⟩) ops.size _ a _ 0 g ?_ ?_
 ·have wF:∀j,¬(Array.replicate ops.size false).getD j false=true:=by
   intro j
   simp[cz,Eu]
   split <;> simp
  refine⟨by simp,fun i _ _ _ hl=>absurd hl (wF i),de _,fun j _ _ _=>⟨fun hl=>absurd hl (wF j),fun h=>absurd h (by omega)⟩,?_,fun t d hl=>?_,hsz,qI,hB.drew,hF,?_⟩
  rotate_right
  ·rw[h2];exact hM.trans (bB.keep hp g (aI _) (fun _ _=>rfl))
  ·rw[h2];exact Nb.keep (aI _) (fun _ _=>rfl)
  ·rw[h2]
   rcases hl with⟨i,_,_,hl,_⟩|⟨_,hl⟩
   ·exact absurd hl (wF i)
   ·rw[h1] at hl
    exact (gJ t d hl).mono (bB.keep hp g (aI _) (fun _ _=>rfl))
 ·unfold unl
  exact cG (Et _ _) (by simp)
theorem AW.loopW {x:Cx}{tm:List (Nat×D)}{hp:Hp}{Q:Exit→List (Nat×D)→Hp→Prop}{c:Code}{α:Type}(T:α→List (Nat×D))(H:α→Hp)(Inv:α→Prop)(μ:α→Nat)(s0:α)(hw:Wk x tm hp (T s0) (H s0))(h0:Inv s0)
  (round:∀s,Inv s→AW P x c (T s) (H s) fun ex tm' hp'=>match ex with| .normal=>∃s',Wk x tm' hp' (T s') (H s')∧Inv s'∧μ s'<μ s|ex=>Q ex tm' hp'):AW P x (.loop c) tm hp Q:=by
 refine AW.loop (fun n tm hp=>∃s,n=μ s∧tm=T s∧hp=H s∧Inv s) (n:=μ s0) hw ⟨s0,rfl,rfl,rfl,h0⟩ ?_
 rintro n tm hp ⟨s,rfl,rfl,rfl,hI⟩
 refine AW.mono (round s hI) ?_
 intro ex tm' hp' h
 cases ex with
 |normal=>
  obtain⟨s',h1,h2,h3⟩:=h
  exact⟨_,_,_,h3,h1,s',rfl,rfl,rfl,h2⟩
 |_=>exact h
end
end
section
section
variable {P:Program} {tb:TypeId→Option TyE} {x:Cx} {tm tm':List (Nat×D)} {hp hp':Hp}
theorem Wk.look(h0:x.hp0.next≤hp'.next)(hm:hp'.next≤hp.next)
  (ht:∀p∈tm',(∃d,tm.lookup p.1=some d∧(p.2=d∨p.2=d.ex))∧p.2.idsB hp'.next=true)
  (hv:∀k ds',hp'.vars.lookup k=some ds'→k<hp'.next∧∃ds,hp.vars.lookup k=some ds∧vt ds ds'∧ds'.all (D.idsC hp'.next)=true)
  (hl:∀id y,hp'.live.lookup id=some y→id<hp'.next∧hp.live.lookup id=some y):Wk x tm hp tm' hp':=by
 intro a w ⟨g,hr,gJ,hsz,qI,hB,hF,hM⟩
 have eO:∀id y,hp'.live.lookup id=some y→hp.live.lookup id=some y:=fun id y h=>(hl _ _ h).2
 refine⟨g,⟨fun k ds hk=>?_,fun k k' ds ds' hk s5 he=>?_,fun id n e hi=>?_,fun id yn t t' b hi wH=>hr.tinj id yn t t' b (eO _ _ hi) (eO _ _ wH),hr.base,hr.fits⟩,fun t d h=>?_,hsz,qI,hB,hF,⟨hM.size,hM.cell,hM.forb,h0,hM.μ,fun id hid n e Nz=>hM.live id hid n e (eO id _ Nz),fun b hb hf=>⟨(hM.fr b hb hf).1,(hM.fr b hb hf).2.1,fun k ds hk=>by obtain⟨_,_,h,_⟩:=hv k ds hk;exact (hM.fr b hb hf).2.2.1 k _ h,fun id t hi=>(hM.fr b hb hf).2.2.2 id t (eO id _ hi)⟩,hM.szs⟩⟩
 ·obtain⟨h0,nl,h1,hw,h2⟩:=hv _ _ hk
  obtain⟨_,h3,h4,cs,ty,h5,h6,h7⟩:=hr.var k nl h1
  refine⟨h0,h3,h4,cs,ty,h5,by rw[qK hw];exact h6,fun j u hu=>⟨fun h=>(h7 j u hu).1 (by rw[←qK hw];exact h),fun d hd=>?_⟩⟩
  obtain⟨d0,DU,hdd⟩:=sJ hw hd
  have cE:=(h7 j u hu).2 d0 DU
  have pF:aM hp g w d u:=cE.leC hdd
  exact g6 pF (b7.1 h2 d (bO hd)) rfl eO
 ·obtain⟨_,_,h1,_⟩:=hv _ _ hk
  obtain⟨_,_,h2,_⟩:=hv _ _ s5
  exact hr.inj k k' _ _ h1 h2 he
 ·obtain⟨h0,h1⟩:=hl _ _ hi
  obtain⟨_,us,h2,h3,h4⟩:=hr.tok id n e h1
  refine⟨h0,us,h2,h3,fun b hb=>⟨(h4 b hb).1,fun k ds hk=>?_⟩⟩
  obtain⟨_,_,h5,_⟩:=hv _ _ hk
  exact (h4 b hb).2 k _ h5
 ·obtain⟨⟨d0,h1,h3⟩,h2⟩:=ht _ (cf h)
  have cE:=gJ t d0 h1
  have pF:aM hp g w d (a.tmps.getD t undef):=by
   rcases h3 with h3|h3
   ·dsimp only at h3;rw[h3];exact cE
   ·dsimp only at h3;rw[h3];exact cE.exD
  exact FY pF h2 rfl eO
end
end
section
structure Kq(d:D)(hp:Hp)(d2:D)(bF:Hp):Prop where
 d:d2=d
 hp:bF=hp
theorem Kq.here(d:D)(hp:Hp):Kq d hp d hp:=⟨rfl,rfl⟩
section
variable {P:Program} {tb:TypeId→Option TyE} {dr:Bool} {md:Md}
variable {ops:Array Oper} {K:List (Nat×D)→Hp→Prop} {os:List Oper} {tm:List (Nat×D)} {hp hp':Hp} {t:Tmp} {dst:Option Tmp} {op:Op} {ty:TypeId} {pos:String} {af:Array Edge} {d:D}
theorem AVC.snd(tok:TOk P tb){o:Oper}{ev:Operand→D}(h:AVC P tb dr o.op o.type ev hp (Kq d hp')):Snd P tb dr o ev hp d hp':=by
 obtain⟨d2,bF,⟨rfl,rfl⟩,hs⟩:=AVC.sound tok h
 exact hs
theorem Ft {g:Option (Nat×Bool)}(hg:g=none)(h:lh P tb md ⟨dst,op,ty,pos,af,g⟩ (evD tm) hp d hp')(h2:bt P tb md ops K os (w8 dst d tm) hp'):bt P tb md ops K (⟨dst,op,ty,pos,af,g⟩::os) tm hp:=by
 subst hg
 exact .on d hp' rfl h h2
theorem st(tok:TOk P tb)(hn:md.nc tb op=true)(h:AVC P tb md.dr op ty (evD tm) hp (Kq d hp'))(h2:bt P tb md ops K os ((t,d)::tm) hp'):bt P tb md ops K (⟨some t,op,ty,pos,af,none⟩::os) tm hp:=
 Ft rfl ((AVC.snd tok (o:=⟨some t,op,ty,pos,af,none⟩) h).q hn) h2
theorem st_n(tok:TOk P tb)(hn:md.nc tb op=true)(h:AVC P tb md.dr op ty (evD tm) hp (Kq d hp'))(h2:bt P tb md ops K os tm hp'):bt P tb md ops K (⟨none,op,ty,pos,af,none⟩::os) tm hp:=
 Ft rfl ((AVC.snd tok (o:=⟨none,op,ty,pos,af,none⟩) h).q hn) h2
theorem Ms(tok:TOk P tb){g:Option (Nat×Bool)}{f:FuncId}{aS:List Operand}{ts:Array TypeId}{ev:Operand→D}{r:D}(uS:ev (.func f)=.e (.lit (.func (.func f) #[] #[])))(hc:aB P f ((aS.map ev).map D.ex) r)(hp1:((aS.map ev).map D.ex).all D.pure=true)(hr:r.pure=true∨∃ds,r=.tu ds):
  lh P tb md ⟨dst,.call ⟨.value (.func f),aS.toArray,ts⟩,ty,pos,af,g⟩ ev hp r hp:=by
 have key:∀bF:Hp,np P ⟨dst,.call ⟨.value (.func f),aS.toArray,ts⟩,ty,pos,af,g⟩ ev bF r bF:=fun bF=>
  (AVC.snd (dr:=true) tok (o:=⟨dst,.call ⟨.value (.func f),aS.toArray,ts⟩,ty,pos,af,g⟩) (ev:=ev) (hp:=bF) (d:=r) (hp':=bF) (by
   show rQ P (hvB tb ⟨.value (.func f),aS.toArray,ts⟩) (ev (.func f)) (aS.toArray.toList.map ev) bF (Kq r bF)
   rw[uS]
   refine⟨rfl,rfl,.inl ⟨hp1,r,hc,?_⟩⟩
   unfold EJ
   split
   ·rcases hr with hr|⟨_,hr⟩ <;> cases hr
   ·rcases hr with hr|⟨_,hr⟩ <;> cases hr
   ·exact Kq.here _ _)).ok
 exact⟨key hp,fun _=>⟨rfl,fun bF _=>key bF⟩,fun _=>Fr.refl _,fun h=>by cases h⟩
variable {j:Nat} {want c:Bool} {s:Tmp}
theorem st_on(hj:(ops[j]?).bind (·.dst)=some s)(hc:tm.lookup s=some (.e (.lit (.bool c))))(hw:(c == want)=true)(h:lh P tb md ⟨dst,op,ty,pos,af,some (j,want)⟩ (evD tm) hp d hp')(h2:bt P tb md ops K os (w8 dst d tm) hp'):bt P tb md ops K (⟨dst,op,ty,pos,af,some (j,want)⟩::os) tm hp:=
 .on d hp' (.inl ⟨s,c,hj,hc,hw⟩) h h2
variable {ev:Operand→D} {k:D→Hp→Prop}
theorem av_move(x:Operand):AVC P tb dr (.move x) ty ev hp k=k (ev x) hp:=bx rfl rfl
theorem xJ(x:Operand):AVC P tb dr (.assign x) ty ev hp k=Lm tb ty (ev x) hp k:=bx rfl rfl
theorem J9(c x y:Operand):AVC P tb dr (.pick c x y) ty ev hp k=FE (ev c) (ev x) (ev y) (xK k hp):=bx rfl rfl
theorem OF(t:TypeId):AVC P tb dr (.alloc t) ty ev hp k=OH tb t hp k:=bx rfl rfl
theorem av_box(t:TypeId)(x:Operand):AVC P tb dr (.box t x) ty ev hp k=boxV (ev x) hp k:=bx rfl rfl
theorem wh(t:TypeId)(ps:List (Nat×Operand)):AVC P tb dr (.build t ps.toArray) ty ev hp k=AJ tb t (ps.map fun p=>(p.1,ev p.2)) (xK k hp):=bx rfl rfl
theorem uz(t:TypeId)(n:Nat)(ps:List (Nat×Operand)):AVC P tb dr (.buildSlice t n ps.toArray) ty ev hp k=dW tb (!dr) t n (ps.map fun p=>(p.1,ev p.2)) hp k:=bx rfl rfl
theorem qi(t:TypeId)(x:Operand):AVC P tb dr (.load t x) ty ev hp k=z6 tb t (ev x) hp (xK k hp):=bx rfl rfl
theorem AL(t:TypeId)(x y:Operand):AVC P tb dr (.store t x y) ty ev hp k=zI tb t (ev x) (ev y) hp k:=bx rfl rfl
theorem tg(o:BinOp)(t t':TypeId)(x y:Operand):AVC P tb dr (.binOp o t x y t') ty ev hp k=oe P o t (ev x) (ev y) (atLit k hp):=bx rfl rfl
theorem J8(o:UnOp)(t:TypeId)(x:Operand):AVC P tb dr (.unOp o t x) ty ev hp k=unV o (ev x) (atLit k hp):=bx rfl rfl
theorem Io(s t:TypeId)(x:Operand):AVC P tb dr (.convert s t x) ty ev hp k=GB tb s t (ev x) (xK k hp):=bx rfl rfl
theorem conv_eq(s t:TypeId)(d:D)(kf:D→Prop):GB tb s t d kf=(match tb s,tb t with
 |some i,some j=>match j.ty,d with
  | .int jk,.e (.lit (.int _ n))=>kf (.e (.lit (.int jk (jk.wrap n))))
  | .str,.e (.lit (.string s))=>kf (.e (.lit (.string s)))
  | .str,d=>match i.ty with
   | .slice e=>match tb e with
    |some l=>l.ty=.int .u8∧match d.asSl 1 with
     |some (_,xs)=>match tR xs with
      |some bs=>kf (.e (.lit (.string ⟨bs.toArray⟩)))
      |none=>False
     |none=>False
    |none=>False
   |_=>False
  |_,_=>False
 |_,_=>False):=bx rfl rfl
theorem OC(t:TypeId)(x:Operand)(lo hi mx:Option Operand):AVC P tb dr (.slice t x lo hi mx) ty ev hp k=zJ tb t (ev x) (lo.map ev) (hi.map ev) (mx.map ev) (xK k hp):=bx rfl rfl
theorem wg(t:TypeId)(x:Operand)(f:Nat):AVC P tb dr (.fieldAddr t x f) ty ev hp k=nO tb t f (ev x) (xK k hp):=bx rfl rfl
theorem OE(t:TypeId)(x:Operand)(f:Nat):AVC P tb dr (.field t x f) ty ev hp k=Aw tb t f (ev x) (xK k hp):=bx rfl rfl
theorem rS(t:TypeId)(x i:Operand):AVC P tb dr (.indexAddr t x i) ty ev hp k=nH tb t (ev x) (ev i) (xK k hp):=bx rfl rfl
theorem OD(t:TypeId)(x i:Operand):AVC P tb dr (.index t x i) ty ev hp k=xn tb t (ev x) (ev i) (xK k hp):=bx rfl rfl
theorem In(x:Operand)(i:Nat):AVC P tb dr (.extract x i) ty ev hp k=Gu (ev x) i (xK k hp):=bx rfl rfl
theorem GL(x:Operand):AVC P tb dr (.nilCheck x) ty ev hp k=nilV (ev x) (xK k hp):=bx rfl rfl
theorem GM(fn:Fn)(first cs:List Operand):AVC P tb dr (.makeFunc fn first.toArray cs.toArray) ty ev hp k=xk fn first.length (cs.map ev) (xK k hp):=bx rfl rfl
end
theorem eM.nil:eM ⟨[],[],0⟩:=⟨fun _ _ h=>by simp at h,fun _ _ h=>by simp at h⟩
def leL:List D→List D→Prop
 |[],[]=>True
 |d::ds,d'::ds'=>d.le d'∧leL ds ds'
 |_,_=>False
theorem DL:∀{ds ds':List D},leL ds ds'→ds'.length=ds.length∧∀{j:Nat} {d':D},ds'[j]? =some d'→∃d,ds[j]? =some d∧d.le d'
 |[],[],_=>⟨rfl,fun h=>by simp at h⟩
 |d::ds,d'::ds',h=>⟨by simp[(DL h.2).1],fun {j} {e} he=>by
  cases j with
  |zero=>exact⟨d,rfl,by
                have:d'=e:=by simpa using he
                rw[←this];exact h.1⟩
  |succ j=>exact (DL h.2).2 (by simpa using he)⟩
 |[],_::_,h=>h.elim
 |_::_,[],h=>h.elim
theorem aB.le {P:Program}{f:FuncId}{ds ds':List D}{r:D}(hc:aB P f ds' r)(h:leL ds ds'):aB P f ds r:=by
 obtain⟨hlen,B8⟩:=DL h
 refine⟨hc.1,fun w F vs hF hsz tN=>hc.2 w F vs hF (by rw[hsz,hlen]) fun j d' u hd hu=>?_⟩
 obtain⟨d,DU,hle⟩:=B8 hd
 exact aM.le (tN j d u DU hu) hle
theorem AW.regS {P:Program}{x:Cx}{tm:List (Nat×D)}{hp:Hp}{Q:Exit→List (Nat×D)→Hp→Prop}(tb:TypeId→Option TyE){id:Nat}{l:List Oper}(hN:i3 x.N l.toArray=true)(h:∀K:List (Nat×D)→Hp→Prop,(∀tm hp,Q .normal tm hp→K tm hp)→bt P tb .seq l.toArray K l tm hp):AW P x (.region id l.toArray false) tm hp Q:=AW.regionS hN h
theorem AW.drwS {P:Program}{x:Cx}{tm:List (Nat×D)}{hp:Hp}{Q:Exit→List (Nat×D)→Hp→Prop}(tb:TypeId→Option TyE)(L:List FuncId){id:Nat}{l:List Oper}(hm:P.follows .mixedOrders=true)(hN:i3 x.N l.toArray=true)(oz:ui tb L l.toArray=true)(h:∀K:List (Nat×D)→Hp→Prop,(∀tm hp,Q .normal tm hp→K tm hp)→bt P tb (.any L) l.toArray K l tm hp):AW P x (.region id l.toArray true) tm hp Q:=AW.drawS hm hN oz h
end
section
def sg(N0:Nat)(os:List Nat)(i:Nat):Nat:=bif decide (i<N0) then i else os.getD (i - N0) 0
def D.renC(σ:Nat→Nat):D→D
 | .own id z n xs=>.own (σ id) z n xs
 | .pt k o=>.pt (σ k) o
 | .ow k o z n=>.ow (σ k) o z n
 | .gw k z n=>.gw (σ k) z n
 | .fn f ks=>.fn f (ks.map σ)
 |d=>d
def D.ren(σ:Nat→Nat):D→D
 | .ag ds=>.ag (ds.map (D.renC σ))
 | .tu ds=>.tu (ds.map (D.renC σ))
 |d=>d.renC σ
def D.noO:D→Bool
 | .opt _ _=>false
 |_=>true
def D.noOs:D→Bool
 | .ag ds=>ds.all D.noO
 | .tu ds=>ds.all D.noO
 |d=>d.noO
theorem iJ {σ:Nat→Nat}{hp bF:Hp}{g g2:Gh}{w:World}{m:Nat}{d:D}{v:Value}(h:aM hp g w (d.renC σ) v)(hd:d.idsC m=true)(hn:d.noO=true)(hm:bF.next=m)
  (hμ:∀i,g2.μ i=g.μ (σ i)) (hτ:∀i,g2.τ i=g.τ (σ i)) (hF:g2.F=g.F) (hl:∀id y,bF.live.lookup id=some y→hp.live.lookup (σ id)=some y):aM bF g2 w d v:=by
 subst hm
 cases d with
 |e y=>cases h with
  |e _ v h=>exact .e y v (by rw[hF];exact h)
 |own id z n xs=>cases h with
  |own _ _ _ _ v h hid ht=>exact .own id z n xs v (by rw[hF];exact h) (by simpa[D.idsC] using hd) (fun m e hm=>by rw[hτ];exact ht m e (hl _ _ hm))
 |fu z n xs=>cases h with
  |fu _ _ _ A h=>exact .fu z n xs A (by rw[hF];exact h)
 |ag ds=>cases hd
 |tu ds=>cases hd
 |fp xs off=>cases h with
  |fp _ _ ad hb hc=>exact .fp xs off ad hb (by rw[hF];exact hc)
 |pt k off=>cases h with
  |pt _ _ hk=>rw[←hμ];exact .pt k off (by simpa[D.idsC] using hd)
 |ow k off z n=>cases h with
  |ow _ _ _ _ c hk h1 h2=>rw[←hμ];exact .ow k off z n c (by simpa[D.idsC] using hd) h1 h2
 |gw k z n=>cases h with
  |gw _ _ _ c hk h1 h2 hs=>rw[←hμ] at hs ⊢;exact .gw k z n c (by simpa[D.idsC] using hd) h1 h2 hs
 |fn f ks=>cases h with
  |fn _ _ hk=>
   have:((ks.map σ).map fun k=>Value.pointer (some ⟨g.μ k,0,none⟩))=ks.map fun k=>Value.pointer (some ⟨g2.μ k,0,none⟩):=by
    rw[ol]
    exact oE fun k _=>by simp only[Function.comp,hμ]
   rw[this]
   exact .fn f ks (by simpa[D.idsC] using hd)
 |opt b d=>cases hn
 |top=>exact .top v
theorem Dx {σ:Nat→Nat}{hp bF:Hp}{g g2:Gh}{w:World}{m:Nat}{d:D}{v:Value}(h:aM hp g w (d.ren σ) v)(hd:d.idsB m=true)(hn:d.noOs=true)(hm:bF.next=m)
  (hμ:∀i,g2.μ i=g.μ (σ i)) (hτ:∀i,g2.τ i=g.τ (σ i)) (hF:g2.F=g.F) (hl:∀id y,bF.live.lookup id=some y→hp.live.lookup (σ id)=some y):aM bF g2 w d v:=by
 cases d with
 |ag ds=>
  have iL:∀d∈ds,D.idsC m d=true:=by simpa[D.idsB] using hd
  have ut:∀d∈ds,D.noO d=true:=by simpa[D.noOs] using hn
  cases h with
  |ag _ cs hlen h1 hr=>
   refine .ag ds cs (by simpa using hlen) h1 fun j d u h2 h3=>?_
   have:=hr j (d.renC σ) u (by rw[cF,h2];rfl) h3
   exact iJ this (iL d (bO h2)) (ut d (bO h2)) hm hμ hτ hF hl
 |tu ds=>
  have iL:∀d∈ds,D.idsC m d=true:=by simpa[D.idsB] using hd
  have ut:∀d∈ds,D.noO d=true:=by simpa[D.noOs] using hn
  cases h with
  |tu _ cs hlen hr=>
   refine .tu ds cs (by simpa using hlen) fun j d u h2 h3=>?_
   have:=hr j (d.renC σ) u (by rw[cF,h2];rfl) h3
   exact iJ this (iL d (bO h2)) (ut d (bO h2)) hm hμ hτ hF hl
 |e y=>exact iJ h hd hn hm hμ hτ hF hl
 |own id z n xs=>exact iJ h hd hn hm hμ hτ hF hl
 |fu z n xs=>exact iJ h hd hn hm hμ hτ hF hl
 |fp xs off=>exact iJ h hd hn hm hμ hτ hF hl
 |pt k off=>exact iJ h hd hn hm hμ hτ hF hl
 |ow k off z n=>exact iJ h hd hn hm hμ hτ hF hl
 |gw k z n=>exact iJ h hd hn hm hμ hτ hF hl
 |fn f ks=>exact iJ h hd hn hm hμ hτ hF hl
 |opt b d=>cases hn
 |top=>exact .top v
theorem Mg {N0:Nat}{os:List Nat}(hs:∀o∈os,N0≤o)(hn:os.Nodup){i j:Nat}(hi:i<N0+os.length)(hj:j<N0+os.length)(h:sg N0 os i=sg N0 os j):i=j:=by
 unfold sg at h
 have get:∀k,¬k<N0→k<N0+os.length→∃hk:k - N0<os.length,os.getD (k - N0) 0=os[k - N0]:=fun k h1 h2=>⟨by omega,by simp[List.getD,eg (show k - N0<os.length by omega)]⟩
 by_cases h1:i<N0 <;> by_cases h2:j<N0
 ·simpa[h1,h2] using h
 ·obtain⟨hk,e⟩:=get j h2 hj
  simp only[h1,h2,qG,qF,kK,cond_false] at h
  rw[e] at h
  have:=hs _ (u6 hk)
  omega
 ·obtain⟨hk,e⟩:=get i h1 hi
  simp only[h1,h2,qG,qF,kK,cond_false] at h
  rw[e] at h
  have:=hs _ (u6 hk)
  omega
 ·obtain⟨hk,e⟩:=get i h1 hi
  obtain⟨s5,e'⟩:=get j h2 hj
  simp only[h1,h2,qF,cond_false] at h
  rw[e,e'] at h
  have hp:=AX.1 hn
  rcases AY (i - N0) (j - N0) with h3|h3|h3
  ·exact absurd h (hp _ _ hk s5 h3)
  ·omega
  ·exact absurd h.symm (hp _ _ s5 hk h3)
section
variable {P:Program} {tb:TypeId→Option TyE} {x:Cx} {tm tm':List (Nat×D)} {hp hp':Hp} {Q:Exit→List (Nat×D)→Hp→Prop}
theorem Wk.nilOwn0(k j:Nat)(e:TypeId)(z:Nat)(hz:0<z){ds:List D}(hk:hp.vars.lookup k=some ds)(hj:ds[j]? =some (.e (.lit (.slice none 0 0))))
 :Wk x tm hp tm ((hp.tok 0 (z,e)).set k (ds.set j (.own hp.next z 0 []))):=by
  intro a w hr
  obtain⟨g,hr,gJ,hsz,qI,hB,hF,hM⟩:=hr
  have ho:=World.ownsRow_nil w x.B e z
  have yS:∀b,(Value.slice none 0 0).ownBlock=some b→w.heap.size≤b:=fun b hb=>by cases hb
  have Nb:=hr.newTok (e:=(z,e)) hz (aI _) (fun _ _=>rfl) yS ho
  have m1:bB hp g w (hp.tok 0 (z,e)) (g.tok hp.next (.slice none 0 0) (0*z)) w:=bB.tok hp g (aI _) (fun _ _=>rfl) yS
  obtain⟨_,_,_,cs,ty,h1,h2,h3⟩:=Nb.var k ds hk
  have HV:=Nb.setVar hk (ds.set j (.own hp.next z 0 [])) cs ty rfl (fun _ _=>rfl) h1 (by simpa using h2) (.same fun _=>rfl) (fun i u hu=>⟨fun h=>(h3 i u hu).1 (by simpa using h),fun d hd=>by
    by_cases LI:j=i
    · subst LI
      rw[IE (by rcases bZ j ds.length with h|h;exact h;rw[i5 h] at hj;cases hj)] at hd
      injection hd with hd
      subst hd
      have hv:=((h3 j u hu).2 _ hj).lit
      subst hv
      refine .own _ _ _ _ _ (.sl _ 0 [] none 0 (fun _=>undef) (by simp) hz (aI _) (by decide) (fun h=>absurd h (by omega)) (fun _ h=>by cases h) (fun _ _ h=>by simp at h)) (cl _) (fun m e' hm=>?_)
      rw[show (Hp.tok hp _ _).live.lookup _=_ from ai] at hm
      injection hm with hm
      injection hm with h1 h2
      subst h1;subst h2
      exact⟨aI _,rfl,fun _=>(ao rfl).symm⟩
    · rw[List.getElem?_set_ne LI] at hd
      exact (h3 i u hu).2 d hd⟩)
  have m2:=bB.setVar (w':=w) Nb hk (ds.set j (.own hp.next z 0 [])) rfl (fun _ _=>rfl) (.same fun _=>rfl)
  exact⟨_,HV,fun t d h=>((gJ t d h).mono m1).mono m2,hsz,qI,hB,fun p h1 h2=>Gh.tok_keep g _ (fun b hb=>by cases hb) p h1 (hF p h1 h2),(hM.trans m1).trans m2⟩
end
end
section
def q7(tb:TypeId→Option TyE)(f:TypeId→List Value→Prop):List (Nat×TypeId)→Nat→List Value→Prop
 |[],_,us=>us=[]
 |(o,t)::fs,off,us=>o=off∧match tb t with
  |some j=>f t (us.take j.size)∧j.size≤us.length∧q7 tb f fs (off+j.size) (us.drop j.size)
  |none=>False
def mh(tb:TypeId→Option TyE):Nat→TypeId→List Value→Prop
 |0,_,_=>False
 |d+1,t,us=>match tb t with
  |some i=>match i.ty with
   | .int k=>∃n,us=[.int k n]
   | .bool=>∃b,us=[.bool b]
   | .str=>∃s,us=[.string s]
   | .struct fs=>q7 tb (mh tb d) fs 0 us
   | .arr n e=>match tb e with
    |some j=>us.length=n*j.size∧∀i,i<n→mh tb d e ((us.drop (i*j.size)).take j.size)
    |none=>False
   |_=>False
  |none=>False
def j7(P:Program):Nat→TypeId→Bool
 |0,_=>true
 |d+1,t=>match P.underlying t with
  | some (.struct fs) => !P.stoodInHeld t && fs.toList.all fun f => f.name != "_" && j7 P d f.type
  |some (.array _ e)=>j7 P d e
  |_=>true
def valT(g:Bool)(us:List Value):Value:=if g then .agg us.toArray else us.getD 0 undef
section
variable {P:Program} {tb:TypeId→Option TyE}
theorem tJ(tok:TOk P tb){t:TypeId}{j:TyE}(ht:tb t=some j)(us:List Value)(off:Nat)(w:World)(hl:off+j.size≤us.length)(h1:j.ty.agg=false→j.size=1):(part t us.toArray off).run P w=.ok (valT j.ty.agg ((us.drop off).take j.size)) w:=by
 unfold valT
 cases hg:j.ty.agg with
 |true=>
  rw[rB tok ht hg,ao rfl]
  congr 2
  apply jt.1
  simp
 |false=>
  have hz:=h1 hg
  rw[hz] at hl
  have bz:off<us.length:=by omega
  rw[rA tok ht hg us.toArray off us[off] (by simp[bz]),aq (by simp),hz,IG bz]
  rfl
theorem Gq {d:Nat}{t:TypeId}{i:TyE}{us:List Value}(ht:tb t=some i)(hg:i.ty.agg=false)(h:mh tb d t us):∃u,us=[u]:=by
 cases d with
 |zero=>cases h
 |succ d=>
  unfold mh at h
  rw[ht] at h
  dsimp only at h
  split at h
  ·obtain⟨n,h⟩:=h;exact⟨_,h⟩
  ·obtain⟨n,h⟩:=h;exact⟨_,h⟩
  ·obtain⟨n,h⟩:=h;exact⟨_,h⟩
  ·rename_i he;rw[he] at hg;cases hg
  ·rename_i he;rw[he] at hg;cases hg
  ·cases h
theorem CV {α:Type}:∀(n z:Nat) (us vs:List α),us.length=n*z→vs.length=n*z→(∀i,i<n→(us.drop (i*z)).take z=(vs.drop (i*z)).take z)→us=vs
 |0,z,us,vs,h1,h2,_=>by
  rw[e7] at h1 h2
  rw[jJ h1,jJ h2]
 |n+1,z,us,vs,h1,h2,h=>by
  rw[qk] at h1 h2
  have h0:=h 0 (Nat.succ_pos n)
  simp only[e7,pQ] at h0
  have hd:=CV n z (us.drop z) (vs.drop z) (by rw[f8];omega) (by rw[f8];omega) fun i hi=>by
   have:=h (i+1) (by omega)
   rw[oi,oi,show z+i*z=(i+1)*z by rw[qk];omega]
   exact this
  rw[←th z us,←th z vs,h0,hd]
theorem zt(tok:TOk P tb):∀(d D:Nat) (t:TypeId) (i:TyE) (us vs:List Value) (w:World),d≤D→tb t=some i→mh tb d t us→mh tb d t vs→j7 P d t=true→
  ∃r,(Op.equalIn D t (valT i.ty.agg us) (valT i.ty.agg vs)).run P w=.ok r w∧(r=true↔us=vs)
 |0,_,_,_,_,_,_,_,_,h,_,_=>h.elim
 |d+1,0,_,_,_,_,_,h,_,_,_,_=>absurd h (by omega)
 |d+1,D+1,t,i,us,vs,w,hD,ht,hu,hv,hn=>by
  unfold mh at hu hv
  rw[ht] at hu hv
  dsimp only at hu hv
  cases iA:i.ty with
  |int k=>
   rw[iA] at hu hv
   obtain⟨a,rfl⟩:=hu
   obtain⟨b,rfl⟩:=hv
   exact⟨a == b,run_equalIn_int w D t k k a b (tok.int ht iA),by simp⟩
  |bool=>
   rw[iA] at hu hv
   obtain⟨a,rfl⟩:=hu
   obtain⟨b,rfl⟩:=hv
   obtain⟨dd,LJ,Gb⟩:=tok.und ht
   rw[iA] at Gb
   have hb:P.underlying t=some .bool:=by cases dd <;> simp[Ty.of] at Gb;exact LJ
   exact⟨a == b,run_equalIn_bool' w D t a b hb,by simp⟩
  |str=>
   rw[iA] at hu hv
   obtain⟨a,rfl⟩:=hu
   obtain⟨b,rfl⟩:=hv
   exact⟨_,run_equalIn_string w D t a b (tok.str ht iA),by rw[Ds];simp⟩
  |slice e=>rw[iA] at hu;cases hu
  |other=>rw[iA] at hu;cases hu
  |struct fs=>
   rw[iA] at hu hv
   dsimp only at hu hv
   obtain⟨fields,hf,E0⟩:=tok.struct ht iA
   have hfo:P.fieldsOf t=fields:=by unfold Program.fieldsOf;rw[hf]
   unfold j7 at hn
   rw[hf] at hn
   simp only[iB,u4,b7,bne_iff_ne,ne_eq] at hn
   have key : ∀ (l : List Field) (off : Nat) (sI mJ : List Value), (∀ f ∈ l, f.name ≠ "_" ∧ j7 P d f.type = true) → off ≤ us.length → off ≤ vs.length → us.drop off = sI → vs.drop off = mJ → q7 tb (mh tb d) (l.map fun f => (f.offset, f.type)) off sI → q7 tb (mh tb d) (l.map fun f => (f.offset, f.type)) off mJ →
     ∃r,(Op.eqFields D us.toArray vs.toArray l).run P w=.ok r w∧(r=true↔sI=mJ):=by
    intro l
    induction l with
    |nil=>
     intro off sI mJ _ _ _ _ _ h1 h2
     have e1:sI=[]:=h1
     have e2:mJ=[]:=h2
     subst e1;subst e2
     exact⟨true,by simp[Op.eqFields],by simp⟩
    |cons f l ih=>
     intro off sI mJ hl ou ov h1 h2 h3 h4
     obtain⟨qW,hnf⟩:=hl f (lq ..)
     simp only[e8,q7] at h3 h4
     obtain⟨ho,h3⟩:=h3
     obtain⟨_,h4⟩:=h4
     cases hj:tb f.type with
     |none=>rw[hj] at h3;cases h3
     |some j=>
      rw[hj] at h3 h4
      obtain⟨f1,l1,r1⟩:=h3
      obtain⟨f2,l2,r2⟩:=h4
      have lu:off+j.size≤us.length:=by rw[←h1,f8] at l1;omega
      have lv:off+j.size≤vs.length:=by rw[←h2,f8] at l2;omega
      have hz:j.ty.agg=false→j.size=1:=by
       intro hg
       obtain⟨u,hu⟩:=Gq hj hg f1
       have:=congrArg List.length hu
       simp at this
       omega
      obtain⟨ra,ha1,ha2⟩:=zt tok d D f.type j _ _ w (by omega) hj f1 f2 hnf
      obtain⟨rb,cQ,lL⟩:=ih (off+j.size) (sI.drop j.size) (mJ.drop j.size) (fun g hg=>hl g (mA _ hg)) lu lv (by rw[←h1,oi]) (by rw[←h2,oi]) r1 r2
      have pu:=tJ tok hj us off w lu hz
      have pv:=tJ tok hj vs off w lv hz
      rw[h1] at pu
      rw[h2] at pv
      have qz:sI=mJ↔sI.take j.size=mJ.take j.size∧sI.drop j.size=mJ.drop j.size:=
       ⟨fun h=>by rw[h];exact⟨rfl,rfl⟩,fun h=>by rw[←th j.size sI,h.1,h.2,th]⟩
      refine⟨if ra=true then rb else false,?_,?_⟩
      ·unfold Op.eqFields
       rw[ao qW,ho]
       simp only[Sem.run_bind,pu,pv,ha1,Result.andThen_ok]
       cases ra
       ·simp
       ·simpa using cQ
      ·rw[qz,←ha2,←lL]
       cases ra <;> simp
   obtain⟨r,Nb,HV⟩:=key fields.toList 0 us vs (fun f hfm=>hn.2 f hfm) (de _) (de _) rfl rfl (by rw[E0];exact hu) (by rw[E0];exact hv)
   refine⟨r,?_,HV⟩
   show (Op.equalIn (D+1) t (.agg us.toArray) (.agg vs.toArray)).run P w=_
   rw[run_equalIn_struct w D t _ _ (by rw[hfo];exact hf) hn.1,hfo]
   exact Nb
  |arr n e=>
   rw[iA] at hu hv
   dsimp only at hu hv
   cases hj:tb e with
   |none=>rw[hj] at hu;cases hu
   |some j=>
    rw[hj] at hu hv
    obtain⟨lu,fu⟩:=hu
    obtain⟨lv,fv⟩:=hv
    have hf:=tok.arr ht iA
    unfold j7 at hn
    rw[hf] at hn
    dsimp only at hn
    have hz:0<n→j.ty.agg=false→j.size=1:=by
     intro h0 hg
     obtain⟨u,hu⟩:=Gq hj hg (fu 0 h0)
     have:=congrArg List.length hu
     have h2:j.size≤us.length:=by rw[lu];exact Bb _ h0
     simp at this
     omega
    have iL:us=vs↔∀i∈List.range' 0 n 1,(us.drop (i*j.size)).take j.size=(vs.drop (i*j.size)).take j.size:=
     ⟨fun h i _=>by rw[h],fun h=>CV n j.size us vs lu lv fun i hi=>h i (by simp[List.mem_range'_1,hi])⟩
    have hl:∀i∈List.range' 0 n 1,i<n:=fun i hi=>by simpa using (List.mem_range'_1.1 hi).2
    show ∃r,(Op.equalIn (D+1) t (.agg us.toArray) (.agg vs.toArray)).run P w=.ok r w∧_
    rw[Op.equalIn,iL]
    simp only[Sem.run_bind,run_underlying hf,Result.andThen_ok,tok.run_sizeOf hj,Std.Legacy.Range.forIn_eq_forIn_range',Std.Legacy.Range.size,A8,xT,mp]
    clear iL
    generalize List.range' 0 n 1=l at hl ⊢
    induction l with
    |nil=>exact⟨true,by simp,by simp⟩
    |cons i l ih=>
     have hi:i<n:=hl i (lq ..)
     have hm:i*j.size+j.size≤n*j.size:=by rw[←qk];exact cc _ hi
     have pu:=tJ tok hj us (i*j.size) w (by omega) (hz (by omega))
     have pv:=tJ tok hj vs (i*j.size) w (by omega) (hz (by omega))
     obtain⟨ra,ha1,ha2⟩:=zt tok d D e j _ _ w (by omega) hj (fu i hi) (fv i hi) hn
     obtain⟨rb,cQ,lL⟩:=ih fun i hi=>hl i (mA _ hi)
     refine⟨if ra=true then rb else false,?_,?_⟩
     ·simp only[List.forIn_cons,Sem.run_bind,pu,pv,ha1,Result.andThen_ok]
      cases ra
      ·simp
      ·simp only[d7,Es,lG,Sem.run_pure,Result.andThen_ok,bk]
       exact cQ
     ·rw[List.forall_mem_cons,←ha2,←lL]
      cases ra <;> simp
theorem ag_eql(tok:TOk P tb){t:TypeId}{i:TyE}{us vs:List Value}{p:Prop}[Decidable p]{k:Value→Prop}(d:Nat)(hd:d≤10000)(ht:tb t=some i)(hg:i.ty.agg=true)(hm:P.eqGuardType P.depth t=false)(hn:j7 P d t=true)(hu:mh tb d t us)(hv:mh tb d t vs)(hp:us=vs↔p)(hk:k (.bool (decide p))):
  ∃r,(∀w,(do eqGuard .eql t (.tmp 0) (.tmp 0) (.agg us.toArray) (.agg vs.toArray);binOp .eql t (.agg us.toArray) (.agg vs.toArray):Sem Value).run P w=.ok r w)∧r.oneCell'=true∧k r:=by
 refine⟨_,fun w=>?_,rfl,hk⟩
 obtain⟨r,h1,h2⟩:=zt tok d 10000 t i us vs w hd ht hu hv hn
 rw[hg] at h1
 have sB:(Op.equalIn 10000 t (.agg us.toArray) (.agg vs.toArray)).run P w=.ok r w:=h1
 rw[Sem.run_bind,run_eqGuard_agg w .eql t _ _ _ _ hm]
 simp only[Result.andThen_ok]
 rw[run_eql_struct,sB]
 simp only[Result.andThen_ok]
 congr 2
 rw[CZ,h2,hp]
 simp
theorem ag_neq(tok:TOk P tb){t:TypeId}{i:TyE}{us vs:List Value}{p:Prop}[Decidable p]{k:Value→Prop}(d:Nat)(hd:d≤10000)(ht:tb t=some i)(hg:i.ty.agg=true)(hm:P.eqGuardType P.depth t=false)(hn:j7 P d t=true)(hu:mh tb d t us)(hv:mh tb d t vs)(hp:us=vs↔p)(hk:k (.bool (decide (¬p)))):
  ∃r,(∀w,(do eqGuard .neq t (.tmp 0) (.tmp 0) (.agg us.toArray) (.agg vs.toArray);binOp .neq t (.agg us.toArray) (.agg vs.toArray):Sem Value).run P w=.ok r w)∧r.oneCell'=true∧k r:=by
 refine⟨_,fun w=>?_,rfl,hk⟩
 obtain⟨r,h1,h2⟩:=zt tok d 10000 t i us vs w hd ht hu hv hn
 rw[hg] at h1
 have sB:(Op.equalIn 10000 t (.agg us.toArray) (.agg vs.toArray)).run P w=.ok r w:=h1
 rw[Sem.run_bind,run_eqGuard_agg w .neq t _ _ _ _ hm]
 simp only[Result.andThen_ok]
 rw[run_neq_struct,sB]
 simp only[Result.andThen_ok]
 congr 2
 rw[CZ,decide_eq_true_iff,←hp,←h2]
 cases r <;> simp
theorem OA(tok:TOk P tb)(d:Nat)(hd:d≤10000){t:TypeId}{i:TyE}{xs ys:List D}{us vs:List Value}{p:Prop}{k:Value→Prop}(ht:tb t=some i)(hg:i.ty.agg=true)(hm:P.eqGuardType P.depth t=false)(hn:j7 P d t=true)(hx:jW xs=some us)(hy:jW ys=some vs)(hu:mh tb d t us)(hv:mh tb d t vs)(hp:us=vs↔p)(_inst:Decidable p)(hk:k (.bool (decide p))):oe P .eql t (.ag xs) (.ag ys) k:=by
 simp only[oe,hx,hy]
 exact ag_eql tok d hd ht hg hm hn hu hv hp hk
theorem Oz(tok:TOk P tb)(d:Nat)(hd:d≤10000){t:TypeId}{i:TyE}{xs ys:List D}{us vs:List Value}{p:Prop}{k:Value→Prop}(ht:tb t=some i)(hg:i.ty.agg=true)(hm:P.eqGuardType P.depth t=false)(hn:j7 P d t=true)(hx:jW xs=some us)(hy:jW ys=some vs)(hu:mh tb d t us)(hv:mh tb d t vs)(hp:us=vs↔p)(_inst:Decidable p)(hk:k (.bool (decide (¬p)))):oe P .neq t (.ag xs) (.ag ys) k:=by
 simp only[oe,hx,hy]
 exact ag_neq tok d hd ht hg hm hn hu hv hp hk
end
end
section
section
variable {w:World} {F:Addr→Prop}
theorem j5.e_inv {x:E}{v:Value}(h:j5 w F (.e x) v):cC w F x v:=by
 unfold j5 at h
 cases h with
 |e _ _ h=>exact h
theorem aB.of1 {P:Program}{f:FuncId}{d r:D}(hf:I6 P f)(h:∀(w:World) (F:Addr→Prop) (v:Value),(∀p:Addr,F p→p.block<w.heap.size)→j5 w F d v→Calls P f #[v] w fun e w'=>∃u,e=.returned u∧sH w.heap.size F w' r u∧Below w.heap.size w w'):aB P f [d] r:=by
 refine⟨hf,fun w F vs hF hsz tN=>?_⟩
 obtain⟨v,rfl⟩:∃v,vs=#[v]:=by
  rcases vs with⟨_|⟨v,_|⟨u,l⟩⟩⟩ <;> simp at hsz
  exact⟨v,rfl⟩
 exact h w F v hF (tN 0 d v rfl rfl)
theorem sl_rep {z n:Nat}{xs:List E}{v:Value}(h:cC w F (.sl z n xs) v):∃us,Sl w v z n us∧Pw (cC w F) xs us:=by
 cases h with
 |sl _ _ _ A c sI hl hz nJ mQ hA hc hr=>
  have h':cC w F (.sl z n xs) (.slice A n c):=.sl z n xs A c sI hl hz nJ mQ hA hc hr
  obtain⟨h1,h2,h3,h4,h5,us,h6,h7,h8⟩:=h'.reads
  refine⟨us,⟨A,c,rfl,nJ,mQ,h6,fun hn=>?_⟩,h8⟩
  obtain⟨ad,rfl,hb⟩:=h5 hn
  exact⟨ad,rfl,hb,fun j u hu=>(h7 ad rfl j u hu).1⟩
theorem own_rep(hfits:∀p:Addr,F p→p.block<w.heap.size){w':World}{e:TypeId}{z n:Nat}{xs:List E}{us:List Value}{q:Value}(hz:0<z)(ho:w'.ownsRow w.heap.size e z q n us)(hb:Below w.heap.size w w')(t8:Pw (cC w F) xs us):cC w' (fun p=>F p∨Value.tail q (n*z) p) (.sl z n xs) q:=by
 have hF:∀p:Addr,p.block<w.heap.size→(F p∨Value.tail q (n*z) p)→F p:=by
  rintro p hp (h|⟨b,h1,h2,_⟩)
  ·exact h
  ·have:=(ho.lt b h1).1;omega
 have hpw':=t8.imp (fun _ _ h=>h.mono (F':=fun p=>F p∨Value.tail q (n*z) p) hb.size (fun p hp _=>hb.cell hp) hF)
 have jX:w'.ownsRow w.heap.size e z q (0+n) ([]++us):=by simpa using ho
 -- no cell of the row is forbidden:its block is new
 have:=cC.appended (n:=0) (m:=n) (xs:=[]) (us:=[]) hz jX Pw.nil hpw' (fun b j hbq hj=>by
  rintro (hf|⟨b',h1,h2,h3⟩)
  ·have h4:=(ho.lt b hbq).1
   have h5:b<w.heap.size:=hfits _ hf
   omega
  ·have h4:n*z≤j:=h3
   rw[bE] at hj
   omega)
 simpa using this
end
end
theorem iu {α:Type}(f:α→List E){z:Nat}(hz:∀a,(f a).length=z)(l:List α):(l.flatMap f).length=l.length*z:=by
 induction l with
 |nil=>simp
 |cons a l ih=>rw[pP,eH,hz,ih,lH,bN,dc,oh]
theorem Le {α:Type}[Inhabited α](f:α→List E){z:Nat}(hz:∀a,(f a).length=z){l:List α}{i:Nat}(h:i<l.length){c:Nat}(hc:c<z):(l.flatMap f).getD (i*z+c) .any=(f l[i]!).getD c .any:=by
 induction l generalizing i with
 |nil=>simp at h
 |cons a l ih=>
  cases i with
  |zero=>
   simp only[pP,e7,bE,List.getD,List.getElem!_cons_zero]
   rw[u3 (by rw[hz];exact hc)]
  |succ i=>
   have:=ih (i:=i) (by simpa using h)
   rw[List.getElem!_cons_succ,←this]
   simp only[pP,List.getD]
   rw[tr (by rw[hz,bN];omega),hz]
   congr 2
   rw[bN]
   omega
theorem jU {α:Type}(f:α→List E){z:Nat}(hz:∀a,(f a).length=z):∀(l:List α) (i:Nat),(l.flatMap f).take (i*z)=(l.take i).flatMap f
 |[],i=>by simp
 |a::l,0=>by simp
 |a::l,i+1=>by
  rw[pP,List.take_succ_cons,pP,←jU f hz l i,ID,hz,jc (by rw[hz,bN];omega),bN]
  congr 2
  omega
theorem mw {α:Type}(f:α→List E){z:Nat}(hz:∀a,(f a).length=z):∀(l:List α) (i:Nat),(l.flatMap f).drop (i*z)=(l.drop i).flatMap f
 |[],i=>by simp
 |a::l,0=>by simp
 |a::l,i+1=>by
  rw[pP,List.drop_succ_cons,←mw f hz l i,OI,hz,List.drop_eq_nil_of_le (by rw[hz,bN];omega),bN,oN]
  congr 2
  omega
section
structure Cd(α:Type) where
 sz:Nat
 f:α→List E
 h:∀a,(f a).length=sz
def cI(k:IntKind):Cd Int:=⟨1,fun n=>[.lit (.int k n)],fun _=>rfl⟩
def cS:Cd ByteArray:=⟨1,fun s=>[.lit (.string s)],fun _=>rfl⟩
def cB:Cd Bool:=⟨1,fun b=>[.lit (.bool b)],fun _=>rfl⟩
def slE {α:Type}(c:Cd α)(l:List α):E:=.sl c.sz l.length (l.flatMap c.f)
def cL {α:Type}(c:Cd α):Cd (List α):=⟨1,fun l=>[slE c l],fun _=>rfl⟩
def cA {α:Type}(n:Nat)(c:Cd α):Cd (Vector α n):=⟨n*c.sz,fun v=>v.toList.flatMap c.f,fun v=>by rw[iu c.f c.h,pO]⟩
abbrev dI(k:IntKind)(n:Int):D:=.e (.lit (.int k n))
abbrev dS(s:ByteArray):D:=.e (.lit (.string s))
abbrev dB(b:Bool):D:=.e (.lit (.bool b))
abbrev dN:D:=.e (.lit (.slice none 0 0))
abbrev dL {α:Type}(c:Cd α)(l:List α):D:=.e (slE c l)
abbrev dO {α:Type}(id:Nat)(c:Cd α)(l:List α):D:=.own id c.sz l.length (l.flatMap c.f)
abbrev dF {α:Type}(c:Cd α)(l:List α):D:=.fu c.sz l.length (l.flatMap c.f)
abbrev dG {α:Type}(c:Cd α)(a:α):D:=.ag ((c.f a).map .e)
theorem ltb {a b:Nat}(h:Nat.ble (a+1) b=true):a<b:=cg h
theorem leb {a b:Nat}(h:Nat.ble a b=true):a≤b:=cg h
def gd {R:Type}(c:Prop)[Decidable c](k:Option R):Option R:=if c then k else none
def cnd {R:Type}(b:Bool)(x y:Option R):Option R:=match b with|true=>x|false=>y
def bnd {S R:Type}(x:Option S)(k:S→Option R):Option R:=match x with|some s=>k s|none=>none
theorem az {R:Type}{c:Prop}[Decidable c]{k:Option R}{r:R}(h:gd c k=some r):c∧k=some r:=by
 unfold gd at h
 split at h
 ·exact⟨by assumption,h⟩
 ·cases h
theorem aF {R:Type}{c:Prop}[Decidable c]{k:Option R}(h:c:=by omega):gd c k=k:=ao h
theorem ba {R:Type}{b:Bool}{x y:Option R}{r:R}(hb:b=true)(h:cnd b x y=some r):x=some r:=by subst hb;exact h
theorem bb {R:Type}{b:Bool}{x y:Option R}{r:R}(hb:b=false)(h:cnd b x y=some r):y=some r:=by subst hb;exact h
theorem ah {S R:Type}{x:Option S}{k:S→Option R}{r:R}(h:bnd x k=some r):∃s,x=some s∧k s=some r:=by
 unfold bnd at h
 split at h
 ·exact⟨_,rfl,h⟩
 ·cases h
theorem ab {S R:Type}(s:S)(k:S→Option R):bnd (some s) k=k s:=rfl
def qV {S X:Type}(b:S→Option (S⊕X)):Nat→S→Option X
 |0,_=>none
 |n+1,s=>match b s with
  |some (.inl s')=>qV b n s'
  |some (.inr x)=>some x
  |none=>none
theorem z4 {S X:Type}{b:S→Option (S⊕X)}:∀{n:Nat} {s:S} {x:X},qV b n s=some x→∀m,n≤m→qV b m s=some x
 |0,_,_,h,_,_=>by cases h
 |n+1,s,x,h,m,hm=>by
  obtain⟨m,rfl⟩:∃k,m=k+1:=⟨m - 1,by omega⟩
  unfold qV at h ⊢
  split at h
  ·exact z4 h m (by omega)
  ·exact h
  ·cases h
def a7 {S X:Type}(b:S→Option (S⊕X))(s:S):Option X:=open Classical in if h:∃n x,qV b n s=some x then qV b (Classical.choose h) s else none
theorem rF {S X:Type}{b:S→Option (S⊕X)}{s:S}{x:X}:a7 b s=some x↔∃n,qV b n s=some x:=by
 unfold a7
 constructor
 ·intro h
  split at h
  ·exact⟨_,h⟩
  ·cases h
 ·rintro⟨n,hn⟩
  have h:∃n x,qV b n s=some x:=⟨n,x,hn⟩
  rw[dif_pos h]
  obtain⟨y,hy⟩:=xM h
  rw[hy]
  have h1:=z4 hn (max n (Classical.choose h)) (Ez ..)
  have h2:=z4 hy (max n (Classical.choose h)) (Er ..)
  rw[h1] at h2
  exact h2.symm
theorem jN {S X:Type}{b:S→Option (S⊕X)}{s s':S}(h:b s=some (.inl s')):a7 b s=a7 b s':=by
 have key:∀x,a7 b s=some x↔a7 b s'=some x:=fun x=>by
  rw[rF,rF]
  constructor
  ·rintro⟨n,hn⟩
   cases n with
   |zero=>cases hn
   |succ n=>exact⟨n,by simpa[qV,h] using hn⟩
  ·rintro⟨n,hn⟩
   exact⟨n+1,by simpa[qV,h] using hn⟩
 cases h1:a7 b s with
 |some x=>exact ((key x).1 h1).symm
 |none=>
  cases h2:a7 b s' with
  |none=>rfl
  |some x=>rw[(key x).2 h2] at h1;cases h1
theorem fa {S X:Type}{b:S→Option (S⊕X)}{s:S}{x:X}(h:b s=some (.inr x)):a7 b s=some x:=
 rF.2 ⟨1,by simp[qV,h]⟩
theorem jA {S X:Type}{b:S→Option (S⊕X)}(G:Nat→S)(n m:Nat)(x:X)(K0:n≤m)(hr:∀i,n≤i→i<m→b (G i)=some (.inl (G (i+1))))(he:b (G m)=some (.inr x)):a7 b (G n)=some x:=by
 obtain⟨k,rfl⟩:∃k,m=n+k:=⟨m - n,by omega⟩
 induction k generalizing n with
 |zero=>exact fa he
 |succ k ih=>
  rw[jN (hr n (aI _) (by omega))]
  exact ih (n+1) (by omega) (fun i h1 h2=>hr i (by omega) (by omega)) (by rw[show n+1+k=n+(k+1) by omega];exact he)
section
variable {P:Program} {tb:TypeId→Option TyE} {dr:Bool} {md:Md}
theorem np.le {o:Oper}{ev:Operand→D}{hp hp':Hp}{d d2:D}(h:np P o ev hp d hp')(hl:d.le d2):np P o ev hp d2 hp':=
 fun B g w a Kn Q hr hx hk=>h B g w a Kn Q hr hx fun v g' w' h1 h2 h3 h4 h5=>hk v g' w' h1 h2 (h3.le hl) h4 h5
theorem lh.le {o:Oper}{ev:Operand→D}{hp hp':Hp}{d d2:D}(h:lh P tb md o ev hp d hp')(hl:d.le d2):lh P tb md o ev hp d2 hp':=
 ⟨h.ok.le hl,fun h1=>⟨(h.quiet h1).1,fun bF h3=>((h.quiet h1).2 bF h3).le hl⟩,h.fr,h.lk⟩
variable {ops:Array Oper} {K:List (Nat×D)→Hp→Prop} {os:List Oper} {tm:List (Nat×D)} {hp hp':Hp} {t:Tmp} {dst:Option Tmp} {op:Op} {ty:TypeId} {pos:String} {af:Array Edge} {d d2:D}
theorem st_le(tok:TOk P tb)(hn:md.nc tb op=true)(h:AVC P tb md.dr op ty (evD tm) hp (Kq d hp'))(hl:d.le d2)(h2:bt P tb md ops K os ((t,d2)::tm) hp'):bt P tb md ops K (⟨some t,op,ty,pos,af,none⟩::os) tm hp:=
 Ft rfl (((AVC.snd tok (o:=⟨some t,op,ty,pos,af,none⟩) h).q hn).le hl) h2
variable {j:Nat} {want c:Bool} {s:Tmp}
theorem go_t(tok:TOk P tb)(hn:md.nc tb op=true)(hj:(ops[j]?).bind (·.dst)=some s)(hc:tm.lookup s=some (.e (.lit (.bool c))))(hw:c=want)(h:AVC P tb md.dr op ty (evD tm) hp (Kq d hp'))(h2:bt P tb md ops K os ((t,d)::tm) hp'):bt P tb md ops K (⟨some t,op,ty,pos,af,some (j,want)⟩::os) tm hp:=
 st_on hj hc (by subst hw;cases c <;> rfl) ((AVC.snd tok (o:=⟨some t,op,ty,pos,af,some (j,want)⟩) h).q hn) h2
theorem Jk(hp:Hp)(g:Gh)(w:World):aM hp g w (.tu []) undef:=.tu [] #[] rfl fun j d u h=>by simp at h
theorem aK(hj:(ops[j]?).bind (·.dst)=some s)(hc:tm.lookup s=some (.e (.lit (.bool c))))(hw:c= !want)(h2:bt P tb md ops K os ((t,.tu [])::tm) hp):bt P tb md ops K (⟨some t,op,ty,pos,af,some (j,want)⟩::os) tm hp:=
 .off (.tu []) (.inl ⟨s,c,hj,hc,by subst hw;cases want <;> rfl⟩) (fun _ _ _ _ _=>Jk _ _ _) h2
theorem nn_t(hj:(ops[j]?).bind (·.dst)=some s)(hc:tm.lookup s=some (.tu []))(h2:bt P tb md ops K os ((t,.tu [])::tm) hp):bt P tb md ops K (⟨some t,op,ty,pos,af,some (j,want)⟩::os) tm hp:=
 .off (.tu []) (.inr ⟨s,hj,hc,rfl⟩) (fun _ _ _ _ _=>Jk _ _ _) h2
theorem sq(tok:TOk P tb){f:FuncId}{aS:List Operand}{ts:Array TypeId}{ds:List D}{r:D}(hc:aB P f ds r)(hp1:((aS.map (evD tm)).map D.ex).all D.pure=true)(hl:leL ((aS.map (evD tm)).map D.ex) ds)(hr:r.pure=true∨∃ds,r=.tu ds)(h2:bt P tb md ops K os ((t,r)::tm) hp):
  bt P tb md ops K (⟨some t,.call ⟨.value (.func f),aS.toArray,ts⟩,ty,pos,af,none⟩::os) tm hp:=
 Ft rfl (Ms tok rfl (aB.le hc hl) hp1 hr) h2
theorem sqg(tok:TOk P tb){f:FuncId}{aS:List Operand}{ts:Array TypeId}{ds:List D}{r:D}(hj:(ops[j]?).bind (·.dst)=some s)(hg:tm.lookup s=some (.e (.lit (.bool c))))(hw:c=want)(hc:aB P f ds r)(hp1:((aS.map (evD tm)).map D.ex).all D.pure=true)(hl:leL ((aS.map (evD tm)).map D.ex) ds)(hr:r.pure=true∨∃ds,r=.tu ds)(h2:bt P tb md ops K os ((t,r)::tm) hp):
  bt P tb md ops K (⟨some t,.call ⟨.value (.func f),aS.toArray,ts⟩,ty,pos,af,some (j,want)⟩::os) tm hp:=
 st_on hj hg (by subst hw;cases c <;> rfl) (Ms tok rfl (aB.le hc hl) hp1 hr) h2
variable {ev:Operand→D} {x y:Operand}
theorem EM(h:ev x=d:=by exact rfl):AVC P tb dr (.move x) ty ev hp (Kq d hp):=by rw[av_move,h];exact Kq.here _ _
theorem T_mv {t:Tmp}(h:tm.lookup t=some d:=by exact rfl):AVC P tb dr (.move (.tmp t)) ty (evD tm) hp (Kq d hp):=EM (h:=by show (tm.lookup t).getD .top=d;rw[h];rfl)
theorem ke {t:Tmp}(h:tm.lookup t=some d:=by exact rfl)(hk:Lm tb ty d hp (Kq d hp)=Kq d hp d hp:=by exact rfl):AVC P tb dr (.assign (.tmp t)) ty (evD tm) hp (Kq d hp):=by
 rw[xJ,show evD tm (.tmp t)=d by show (tm.lookup t).getD .top=d;rw[h];rfl,hk];exact Kq.here _ _
theorem GX(h:ev x=d:=by exact rfl)(hk:Lm tb ty d hp (Kq d hp)=Kq d hp d hp:=by exact rfl):AVC P tb dr (.assign x) ty ev hp (Kq d hp):=by rw[xJ,h,hk];exact Kq.here _ _
theorem d8 {vs:List (Nat×List D)}{lv:List (Nat×Nat×Nat×TypeId)}{N0:Nat}{e:TypeId}{i j:TyE}(ht:tb ty=some i)(he:tb e=some j)(h:ev x=dN:=by exact rfl)(hi:i.ty=.slice e:=by exact rfl)(hz:Nat.ble (0+1) (j.size)=true:=by exact rfl):AVC P tb dr (.assign x) ty ev ⟨vs,lv,N0⟩ (Kq (.own N0 j.size 0 []) ⟨vs,(N0,0,j.size,e)::lv,N0+1⟩):=by
 replace hz:=cg hz
 rw[xJ,h,OG,ht]
 simp only[hi,he]
 exact⟨hz,Kq.here _ _⟩
theorem am {cn:Operand}{b:Bool}(hb:b=true)(hc:ev cn=dB b:=by exact rfl)(h:ev x=d:=by exact rfl):AVC P tb dr (.pick cn x y) ty ev hp (Kq d hp):=by
 subst hb;rw[J9,hc,pickV_t,h];exact Kq.here _ _
theorem ax {cn:Operand}{b:Bool}(hb:b=false)(hc:ev cn=dB b:=by exact rfl)(h:ev y=d:=by exact rfl):AVC P tb dr (.pick cn x y) ty ev hp (Kq d hp):=by
 subst hb;rw[J9,hc,pickV_f,h];exact Kq.here _ _
theorem cr {vs:List (Nat×List D)}{lv:List (Nat×Nat×Nat×TypeId)}{N0:Nat}{t:TypeId}{i:TyE}(ht:tb t=some i):AVC P tb dr (.alloc t) ty ev ⟨vs,lv,N0⟩ (Kq (.pt N0 0) ⟨(N0,(i.zero.map fun v=>.e (.lit v)))::vs,lv,N0+1⟩):=by
 rw[OF,Lo,ht];exact Kq.here _ _
theorem ka {vs:List (Nat×List D)}{lv:List (Nat×Nat×Nat×TypeId)}{N0:Nat}{t:TypeId}{cs:List D}(h:(ev x).cells=some cs:=by exact rfl):AVC P tb dr (.box t x) ty ev ⟨vs,lv,N0⟩ (Kq (.pt N0 0) ⟨(N0,cs)::vs,lv,N0+1⟩):=by
 rw[av_box,boxV_eq,h];exact Kq.here _ _
theorem ez {t:TypeId}{i:TyE}{fs:List (Nat×TypeId)}{ps:List (Nat×Operand)}{qs:List (Nat×List D)}{es:List D}(ht:tb t=some i)(hi:i.ty=.struct fs:=by exact rfl)(ha:(fs.all fun f=>(tb f.2).isSome)=true:=by exact rfl)(hp1:jo (ps.map fun p=>(p.1,ev p.2))=some qs:=by exact rfl)(hf:fP (ot tb fs) (i.zero.map fun v=>D.e (.lit v)) qs=some es:=by exact rfl):
  AVC P tb dr (.build t ps.toArray) ty ev hp (Kq (.ag es) hp):=by
 rw[wh,tS,ht,hp1]
 simp only[hi,hf]
 exact⟨fun f hf=>(b7.1 ha) f hf,Kq.here _ _⟩
theorem kO {t e:TypeId}{n:Nat}{i j:TyE}{ps:List (Nat×Operand)}{qs:List (Nat×List D)}{es:List D}(ht:tb t=some i)(he:tb e=some j)(hi:i.ty=.arr n e:=by exact rfl)(hp1:jo (ps.map fun p=>(p.1,ev p.2))=some qs:=by exact rfl)(hf:fP (fun n=>some (n*j.size,j.size)) (i.zero.map fun v=>D.e (.lit v)) qs=some es:=by exact rfl):
  AVC P tb dr (.build t ps.toArray) ty ev hp (Kq (.ag es) hp):=by
 rw[wh,tS,ht,hp1]
 simp only[hi,he,hf]
 exact Kq.here _ _
theorem jL {vs:List (Nat×List D)}{lv:List (Nat×Nat×Nat×TypeId)}{N0:Nat}{t e:TypeId}{i j:TyE}{n:Nat}{ps:List (Nat×Operand)}{qs:List (Nat×List D)}{es:List D}{xs:List E}(ht:tb t=some i)(he:tb e=some j)(hi:i.ty=.slice e:=by exact rfl)(hz:Nat.ble (0+1) (j.size)=true:=by exact rfl)(hn:Nat.ble ((n+1)*j.size) (16777216)=true:=by exact rfl)(hp1:jo (ps.map fun p=>(p.1,ev p.2))=some qs:=by exact rfl)(hf:fP (fun m=>some (m*j.size,j.size)) (List.replicate ((n+1)*j.size) (D.e .any)) qs=some es:=by exact rfl)(hc:rP es=some xs:=by exact rfl)(hd:dr=false:=by exact rfl):AVC P tb dr (.buildSlice t (n+1) ps.toArray) ty ev ⟨vs,lv,N0⟩ (Kq (.own N0 j.size (n+1) xs) ⟨vs,(N0,(n+1),j.size,e)::lv,N0+1⟩):=by
 replace hz:=cg hz
 replace hn:=cg hn
 subst hd
 rw[uz]
 unfold dW
 rw[ht,hp1]
 simp only[hi,he,hf,hc]
 exact⟨hz,hn,Kq.here _ _⟩
theorem xZ {t e:TypeId}{i j:TyE}{n:Nat}{ps:List (Nat×Operand)}{qs:List (Nat×List D)}{es:List D}{xs:List E}(ht:tb t=some i)(he:tb e=some j)(hi:i.ty=.slice e:=by exact rfl)(hz:Nat.ble (0+1) (j.size)=true:=by exact rfl)(hn:Nat.ble ((n+1)*j.size) (16777216)=true:=by exact rfl)(hp1:jo (ps.map fun p=>(p.1,ev p.2))=some qs:=by exact rfl)(hf:fP (fun m=>some (m*j.size,j.size)) (List.replicate ((n+1)*j.size) (D.e .any)) qs=some es:=by exact rfl)(hc:rP es=some xs:=by exact rfl)(hd:dr=true:=by exact rfl):AVC P tb dr (.buildSlice t (n+1) ps.toArray) ty ev hp (Kq (.fu j.size (n+1) xs) hp):=by
 replace hz:=cg hz
 replace hn:=cg hn
 subst hd
 rw[uz]
 unfold dW
 rw[ht,hp1]
 simp only[hi,he,hf,hc]
 exact⟨hz,hn,Kq.here _ _⟩
theorem IW {vs:List (Nat×List D)}{lv:List (Nat×Nat×Nat×TypeId)}{N0:Nat}{t e:TypeId}{i j:TyE}(ht:tb t=some i)(he:tb e=some j)(hi:i.ty=.slice e:=by exact rfl)(hz:Nat.ble (0+1) (j.size)=true:=by exact rfl):AVC P tb dr (.buildSlice t 0 #[]) ty ev ⟨vs,lv,N0⟩ (Kq (.own N0 j.size 0 []) ⟨vs,(N0,0,j.size,e)::lv,N0+1⟩):=by
 replace hz:=cg hz
 show dW tb (!dr) t 0 [] _ _
 unfold dW
 rw[ht]
 simp only[jo,hi,he]
 exact⟨hz,by omega,trivial,Kq.here _ _⟩
theorem aP {t:TypeId}{i:TyE}{j off:Nat}{ds:List D}(ht:tb t=some i)(hg:i.ty.agg=false:=by exact rfl)(hx:ev x=.pt j off:=by exact rfl)(hv:hp.vars.lookup j=some ds:=by exact rfl)(hn:Nat.ble (j+1) (hp.next)=true:=by exact rfl)(hd:ds[off]? =some d:=by exact rfl):AVC P tb dr (.load t x) ty ev hp (Kq d hp):=by
 replace hn:=cg hn
 rw[qi,hx,mO,ht,hv]
 simp only[hg]
 exact⟨hn,d,hd,Kq.here _ _⟩
theorem cm {t:TypeId}{i:TyE}{j off:Nat}{ds es:List D}(ht:tb t=some i)(hg:i.ty.agg=true:=by exact rfl)(hx:ev x=.pt j off:=by exact rfl)(hv:hp.vars.lookup j=some ds:=by exact rfl)(hn:Nat.ble (j+1) (hp.next)=true:=by exact rfl)(hl:Nat.ble (off+i.size) (ds.length)=true:=by exact rfl)(hd:(ds.drop off).take i.size=es:=by exact rfl):AVC P tb dr (.load t x) ty ev hp (Kq (.ag es) hp):=by
 replace hn:=cg hn
 replace hl:=cg hl
 rw[qi,hx,mO,ht,hv]
 simp only[hg]
 exact⟨hn,hl,by rw[hd];exact Kq.here _ _⟩
theorem JM {α:Type}[Inhabited α]{c:Cd α}{l:List α}{n o:Nat}{e:E}(hn:n<l.length)(ho:(c.f l[n]!)[o]? =some e):n*c.sz+o<(l.flatMap c.f).length∧(l.flatMap c.f).getD (n*c.sz+o) .any=e:=by
 have hoz:o<c.sz:=by
  rw[←c.h l[n]!]
  exact (lX.1 ho).1
 refine⟨?_,?_⟩
 ·rw[iu c.f c.h]
  have:(n+1)*c.sz≤l.length*c.sz:=cc _ hn
  rw[bN] at this
  omega
 ·rw[Le c.f c.h hn hoz,List.getD,ho];rfl
theorem nf {α:Type}[Inhabited α]{t:TypeId}{i:TyE}{c:Cd α}{l:List α}{n o:Nat}{e:E}(ht:tb t=some i)(hn:n<l.length)(hg:i.ty.agg=false:=by exact rfl)(hx:ev x=.fp (l.flatMap c.f) (n*c.sz+o):=by exact rfl)(ho:(c.f l[n]!)[o]? =some e:=by exact rfl):AVC P tb dr (.load t x) ty ev hp (Kq (.e e) hp):=by
 obtain⟨h1,h2⟩:=JM hn ho
 rw[qi,hx,FQ,ht]
 simp only[hg]
 refine⟨h1,?_⟩
 rw[h2]
 exact Kq.here _ _
theorem kN {α:Type}[Inhabited α]{t:TypeId}{i:TyE}{c:Cd α}{l:List α}{n o:Nat}{es:List E}(ht:tb t=some i)(hn:n<l.length)(ho:((c.f l[n]!).drop o).take i.size=es)(hg:i.ty.agg=true:=by exact rfl)(hx:ev x=.fp (l.flatMap c.f) (n*c.sz+o):=by exact rfl)(hoz:Nat.ble (o+i.size) (c.sz)=true:=by exact rfl):AVC P tb dr (.load t x) ty ev hp (Kq (.ag (es.map .e)) hp):=by
 replace hoz:=cg hoz
 have hlen:(c.f l[n]!).length=c.sz:=c.h _
 have hle:(es.map D.e)=(List.range i.size).map fun j=>D.e ((l.flatMap c.f).getD (n*c.sz+o+j) .any):=by
  subst ho
  refine GQ fun j=>?_
  by_cases hj:j<i.size
  ·have oV:o+j<(c.f l[n]!).length:=by omega
   have h3:=JM (o:=o+j) hn (eg oV)
   rw[cF,cF,gG,ao hj,oM,eg oV,A6 hj]
   simp only[mz,oL]
   rw[h3.2]
  ·rw[i5 (by simp;omega),i5 (by simp;omega)]
 rw[qi,hx,FQ,ht]
 simp only[hg]
 refine⟨?_,?_⟩
 ·rw[iu c.f c.h]
  have:(n+1)*c.sz≤l.length*c.sz:=cc _ hn
  rw[bN] at this
  omega
 ·rw[hle]
  exact Kq.here _ _
theorem gv {vs:List (Nat×List D)}{lv:List (Nat×Nat×Nat×TypeId)}{N0:Nat}{t:TypeId}{i:TyE}{j off:Nat}{ds cs ds':List D}(ht:tb t=some i)(hx:ev x=.pt j off:=by exact rfl)(hv:vs.lookup j=some ds:=by exact rfl)(hc:(ev y).cells=some cs:=by exact rfl)(hl:cs.length=i.size:=by exact rfl)(ho:Nat.ble (off+i.size) (ds.length)=true:=by exact rfl)(he:ds.take off++cs++ds.drop (off+cs.length)=ds':=by exact rfl):AVC P tb dr (.store t x y) ty ev ⟨vs,lv,N0⟩ (Kq .top ⟨(j,ds')::vs,lv,N0⟩):=by
 replace ho:=cg ho
 rw[AL,hx,wY,ht,hv,hc]
 exact⟨hl,ho,by rw[he];exact Kq.here _ _⟩
theorem pY {o:BinOp}{t t':TypeId}{k k':IntKind}{a b:Int}{v:Value}(hx:ev x=dI k a)(hy:ev y=dI k' b)(h:oe P o t (dI k a) (dI k' b) fun u=>Kq (.e (.lit v)) hp (.e (.lit u)) hp):AVC P tb dr (.binOp o t x y t') ty ev hp (Kq (.e (.lit v)) hp):=by
 rw[tg,hx,hy];exact h
theorem T_add {t t':TypeId}{k:IntKind}{a b:Int}(hx:ev x=dI k a:=by exact rfl)(hy:ev y=dI k b:=by exact rfl):AVC P tb dr (.binOp .add t x y t') ty ev hp (Kq (dI k (k.wrap (a+b))) hp):=pY hx hy (by rw[bin_add];exact⟨rfl,Kq.here _ _⟩)
theorem T_sub {t t':TypeId}{k:IntKind}{a b:Int}(hx:ev x=dI k a:=by exact rfl)(hy:ev y=dI k b:=by exact rfl):AVC P tb dr (.binOp .sub t x y t') ty ev hp (Kq (dI k (k.wrap (a - b))) hp):=pY hx hy (by rw[bin_sub];exact⟨rfl,Kq.here _ _⟩)
theorem T_mul {t t':TypeId}{k:IntKind}{a b:Int}(hx:ev x=dI k a:=by exact rfl)(hy:ev y=dI k b:=by exact rfl):AVC P tb dr (.binOp .mul t x y t') ty ev hp (Kq (dI k (k.wrap (a*b))) hp):=pY hx hy (by rw[bin_mul];exact⟨rfl,Kq.here _ _⟩)
theorem GW {t t':TypeId}{k:IntKind}{a b:Int}(hb:b≠0)(hx:ev x=dI k a:=by exact rfl)(hy:ev y=dI k b:=by exact rfl):AVC P tb dr (.binOp .quo t x y t') ty ev hp (Kq (dI k (k.wrap (a.tdiv b))) hp):=pY hx hy (by rw[bin_quo];exact⟨rfl,hb,Kq.here _ _⟩)
theorem uB {t t':TypeId}{k:IntKind}{a b:Int}(hb:b≠0)(hx:ev x=dI k a:=by exact rfl)(hy:ev y=dI k b:=by exact rfl):AVC P tb dr (.binOp .rem t x y t') ty ev hp (Kq (dI k (a.tmod b)) hp):=pY hx hy (by rw[bin_rem];exact⟨rfl,hb,Kq.here _ _⟩)
def F3(k:IntKind)(a b:Int):Int:=k.wrap (BitVec.ofInt k.bits a &&&BitVec.ofInt k.bits b).toNat
def ior(k:IntKind)(a b:Int):Int:=k.wrap (BitVec.ofInt k.bits a |||BitVec.ofInt k.bits b).toNat
def uP(k:IntKind)(a b:Int):Int:=k.wrap (a*2 ^ min b.toNat k.bits)
def kA(k:IntKind)(a b:Int):Int:=a.fdiv (2 ^ min b.toNat k.bits)
theorem T_and {t t':TypeId}{k:IntKind}{a b:Int}(hx:ev x=dI k a:=by exact rfl)(hy:ev y=dI k b:=by exact rfl):AVC P tb dr (.binOp .and t x y t') ty ev hp (Kq (dI k (F3 k a b)) hp):=pY hx hy (by rw[bin_and];exact⟨rfl,Kq.here _ _⟩)
theorem T_or {t t':TypeId}{k:IntKind}{a b:Int}(hx:ev x=dI k a:=by exact rfl)(hy:ev y=dI k b:=by exact rfl):AVC P tb dr (.binOp .or t x y t') ty ev hp (Kq (dI k (ior k a b)) hp):=pY hx hy (by rw[bin_or];exact⟨rfl,Kq.here _ _⟩)
theorem OU {t t':TypeId}{k k':IntKind}{a b:Int}(hb:0≤b)(hx:ev x=dI k a:=by exact rfl)(hy:ev y=dI k' b:=by exact rfl):AVC P tb dr (.binOp .shl t x y t') ty ev hp (Kq (dI k (uP k a b)) hp):=pY hx hy (by rw[bin_shl];exact⟨hb,Kq.here _ _⟩)
theorem OT {t t':TypeId}{k k':IntKind}{a b:Int}(hb:0≤b)(hx:ev x=dI k a:=by exact rfl)(hy:ev y=dI k' b:=by exact rfl):AVC P tb dr (.binOp .shr t x y t') ty ev hp (Kq (dI k (kA k a b)) hp):=pY hx hy (by rw[bin_shr];exact⟨hb,Kq.here _ _⟩)
theorem T_eql {t t':TypeId}{k:IntKind}{a b:Int}(hx:ev x=dI k a:=by exact rfl)(hy:ev y=dI k b:=by exact rfl):AVC P tb dr (.binOp .eql t x y t') ty ev hp (Kq (dB (decide (a=b))) hp):=pY hx hy (by rw[bin_eql];exact⟨rfl,Kq.here _ _⟩)
theorem T_neq {t t':TypeId}{k:IntKind}{a b:Int}(hx:ev x=dI k a:=by exact rfl)(hy:ev y=dI k b:=by exact rfl):AVC P tb dr (.binOp .neq t x y t') ty ev hp (Kq (dB (decide (a≠b))) hp):=pY hx hy (by rw[bin_neq];exact⟨rfl,Kq.here _ _⟩)
theorem T_lss {t t':TypeId}{k:IntKind}{a b:Int}(hx:ev x=dI k a:=by exact rfl)(hy:ev y=dI k b:=by exact rfl):AVC P tb dr (.binOp .lss t x y t') ty ev hp (Kq (dB (decide (a<b))) hp):=pY hx hy (by rw[bin_lss];exact⟨rfl,Kq.here _ _⟩)
theorem T_leq {t t':TypeId}{k:IntKind}{a b:Int}(hx:ev x=dI k a:=by exact rfl)(hy:ev y=dI k b:=by exact rfl):AVC P tb dr (.binOp .leq t x y t') ty ev hp (Kq (dB (decide (a≤b))) hp):=pY hx hy (by rw[bin_leq];exact⟨rfl,Kq.here _ _⟩)
theorem T_gtr {t t':TypeId}{k:IntKind}{a b:Int}(hx:ev x=dI k a:=by exact rfl)(hy:ev y=dI k b:=by exact rfl):AVC P tb dr (.binOp .gtr t x y t') ty ev hp (Kq (dB (decide (b<a))) hp):=pY hx hy (by rw[bin_gtr];exact⟨rfl,Kq.here _ _⟩)
theorem T_geq {t t':TypeId}{k:IntKind}{a b:Int}(hx:ev x=dI k a:=by exact rfl)(hy:ev y=dI k b:=by exact rfl):AVC P tb dr (.binOp .geq t x y t') ty ev hp (Kq (dB (decide (b≤a))) hp):=pY hx hy (by rw[bin_geq];exact⟨rfl,Kq.here _ _⟩)
theorem OX {t t':TypeId}{a b:Bool}(hu:P.underlying t=some .bool)(hx:ev x=dB a:=by exact rfl)(hy:ev y=dB b:=by exact rfl):AVC P tb dr (.binOp .eql t x y t') ty ev hp (Kq (dB (a == b)) hp):=by
 rw[tg,hx,hy,Oy];exact⟨hu,Kq.here _ _⟩
theorem OW {t t':TypeId}{a b:Bool}(hu:P.underlying t=some .bool)(hx:ev x=dB a:=by exact rfl)(hy:ev y=dB b:=by exact rfl):AVC P tb dr (.binOp .neq t x y t') ty ev hp (Kq (dB (!(a == b))) hp):=by
 rw[tg,hx,hy,Ox];exact⟨hu,Kq.here _ _⟩
theorem T_geql(tok:TOk P tb)(n:Nat)(hd:n≤10000){t t':TypeId}{i:TyE}{xs ys:List D}{us vs:List Value}{p:Prop}(ht:tb t=some i)(hg:i.ty.agg=true)(hm:P.eqGuardType P.depth t=false)(hn:j7 P n t=true)(hx:ev x=.ag xs)(hy:ev y=.ag ys)(yP:jW xs=some us)(z9:jW ys=some vs)(hu:mh tb n t us)(hv:mh tb n t vs)(hp1:us=vs↔p)[inst:Decidable p]:AVC P tb dr (.binOp .eql t x y t') ty ev hp (Kq (dB (decide p)) hp):=by
 rw[tg,hx,hy];exact OA tok n hd ht hg hm hn yP z9 hu hv hp1 inst (Kq.here _ _)
theorem T_gneq(tok:TOk P tb)(n:Nat)(hd:n≤10000){t t':TypeId}{i:TyE}{xs ys:List D}{us vs:List Value}{p:Prop}(ht:tb t=some i)(hg:i.ty.agg=true)(hm:P.eqGuardType P.depth t=false)(hn:j7 P n t=true)(hx:ev x=.ag xs)(hy:ev y=.ag ys)(yP:jW xs=some us)(z9:jW ys=some vs)(hu:mh tb n t us)(hv:mh tb n t vs)(hp1:us=vs↔p)[inst:Decidable p]:AVC P tb dr (.binOp .neq t x y t') ty ev hp (Kq (dB (decide (¬p))) hp):=by
 rw[tg,hx,hy];exact Oz tok n hd ht hg hm hn yP z9 hu hv hp1 inst (Kq.here _ _)
theorem T_not {t:TypeId}{a:Bool}(hx:ev x=dB a:=by exact rfl):AVC P tb dr (.unOp .not t x) ty ev hp (Kq (dB (!a)) hp):=by rw[J8,hx,un_not];exact Kq.here _ _
theorem T_neg {t:TypeId}{k:IntKind}{a:Int}(hx:ev x=dI k a:=by exact rfl):AVC P tb dr (.unOp .neg t x) ty ev hp (Kq (dI k (k.wrap (0 - a))) hp):=by rw[J8,hx,un_neg];exact Kq.here _ _
theorem T_cvI {s t:TypeId}{i j:TyE}{k jk:IntKind}{n:Int}(hs:tb s=some i)(ht:tb t=some j)(hj:j.ty=.int jk:=by exact rfl)(hx:ev x=dI k n:=by exact rfl):AVC P tb dr (.convert s t x) ty ev hp (Kq (dI jk (jk.wrap n)) hp):=by
 rw[Io,hx,conv_eq,hs,ht];simp only[hj];exact Kq.here _ _
theorem T_fldC {s tt:TypeId}{i j:TyE}{f o:Nat}{fs:List (Nat×TypeId)}{ds:List D}(hs:tb s=some i)(ht:tb tt=some j)(hi:i.ty=.struct fs:=by exact rfl)(hf:fs[f]? =some (o,tt):=by exact rfl)(hg:j.ty.agg=false:=by exact rfl)(hx:ev x=.ag ds:=by exact rfl)(hd:ds[o]? =some d:=by exact rfl):AVC P tb dr (.field s x f) ty ev hp (Kq d hp):=by
 rw[OE,hx,Lf,tf,hs]
 simp only[hi,hf,ht,hg]
 exact⟨d,hd,Kq.here _ _⟩
theorem T_faP {s tt:TypeId}{i j:TyE}{f o k off:Nat}{fs:List (Nat×TypeId)}(hs:tb s=some i)(ht:tb tt=some j)(hi:i.ty=.struct fs:=by exact rfl)(hf:fs[f]? =some (o,tt):=by exact rfl)(hz:Nat.ble 1 j.size=true:=by exact rfl)(hx:ev x=.pt k off:=by exact rfl):AVC P tb dr (.fieldAddr s x f) ty ev hp (Kq (.pt k (off+o)) hp):=by
 replace hz:j.size≠0:=by have:=cg hz;omega
 rw[wg,hx,Ch,tf,hs]
 simp only[hi,hf,ht]
 exact⟨hz,Kq.here _ _⟩
theorem T_faF {s tt:TypeId}{i j:TyE}{f o off:Nat}{xs:List E}{fs:List (Nat×TypeId)}(hs:tb s=some i)(ht:tb tt=some j)(hi:i.ty=.struct fs:=by exact rfl)(hf:fs[f]? =some (o,tt):=by exact rfl)(hz:Nat.ble 1 j.size=true:=by exact rfl)(hx:ev x=.fp xs off:=by exact rfl):AVC P tb dr (.fieldAddr s x f) ty ev hp (Kq (.fp xs (off+o)) hp):=by
 replace hz:j.size≠0:=by have:=cg hz;omega
 rw[wg,hx,Ci,tf,hs]
 simp only[hi,hf,ht]
 exact⟨hz,Kq.here _ _⟩
theorem eh {t e:TypeId}{i j:TyE}{n:Nat}{xs:List E}{k:IntKind}{v:Int}(hb:0≤v∧v<(n:Int))(ht:tb t=some i)(he:tb e=some j)(hi:i.ty=.slice e:=by exact rfl)(hx:(ev x).asSl j.size=some (n,xs):=by exact rfl)(hy:ev y=dI k v:=by exact rfl):AVC P tb dr (.indexAddr t x y) ty ev hp (Kq (.fp xs (v.toNat*j.size)) hp):=by
 rw[rS,hy,qw,ht]
 simp only[hi,he,hx]
 exact⟨hb,Kq.here _ _⟩
theorem cj {t e:TypeId}{i j:TyE}{n m off:Nat}{k:IntKind}{v:Int}(hb:0≤v∧v<(n:Int))(ht:tb t=some i)(he:tb e=some j)(hi:i.ty=.arr n e:=by exact rfl)(hx:ev x=.pt m off:=by exact rfl)(hy:ev y=dI k v:=by exact rfl):AVC P tb dr (.indexAddr t x y) ty ev hp (Kq (.pt m (off+v.toNat*j.size)) hp):=by
 rw[rS,hx,hy,qw,ht]
 simp only[hi,he]
 exact⟨hb,Kq.here _ _⟩
def sAt(s:ByteArray)(n:Nat):Int:=((s.data.toList.getD n 0).toNat:Int)
theorem T_ixS {t:TypeId}{i:TyE}{s:ByteArray}{k:IntKind}{v:Int}(hb:0≤v∧v<(s.size:Int))(ht:tb t=some i)(hi:i.ty=.str:=by exact rfl)(hx:ev x=dS s:=by exact rfl)(hy:ev y=dI k v:=by exact rfl):AVC P tb dr (.index t x y) ty ev hp (Kq (dI .u8 (sAt s v.toNat)) hp):=by
 rw[OD,hx,hy,KT,ht]
 simp only[hi]
 exact⟨hb,Kq.here _ _⟩
theorem T_ext {ds:List D}{i:Nat}(hx:ev x=.tu ds:=by exact rfl)(hd:ds[i]? =some d:=by exact rfl):AVC P tb dr (.extract x i) ty ev hp (Kq d hp):=by
 rw[In,hx,Gt,hd,N5];exact Kq.here _ _
theorem T_len {t e:TypeId}{i j:TyE}{n:Nat}{xs:List E}(ht:tb t=some i)(he:tb e=some j)(hi:i.ty=.slice e:=by exact rfl)(hx:(ev x).asSl j.size=some (n,xs):=by exact rfl):AVC P tb dr (.call ⟨.builtin .len,#[x],#[t]⟩) ty ev hp (Kq (dI .i64 n) hp):=by
 show i4 tb .len [t] [ev x] hp _
 rw[yx,JC,ht]
 simp only[hi,he,hx]
 exact Kq.here _ _
theorem T_min {ts:Array TypeId}{k k':IntKind}{a b:Int}(hx:ev x=dI k a:=by exact rfl)(hy:ev y=dI k' b:=by exact rfl):AVC P tb dr (.call ⟨.builtin .min,#[x,y],ts⟩) ty ev hp (Kq (dI k (min a b)) hp):=by
 show i4 tb .min ts.toList [ev x,ev y] hp _
 rw[hx,hy,GG];exact Kq.here _ _
theorem T_max {ts:Array TypeId}{k k':IntKind}{a b:Int}(hx:ev x=dI k a:=by exact rfl)(hy:ev y=dI k' b:=by exact rfl):AVC P tb dr (.call ⟨.builtin .max,#[x,y],ts⟩) ty ev hp (Kq (dI k (max a b)) hp):=by
 show i4 tb .max ts.toList [ev x,ev y] hp _
 rw[hx,hy,GH];exact Kq.here _ _
theorem news_sl {t e:TypeId}{z m:Nat}{ys:List E}{i:TyE}{xd:D}{kn:Nat→List E→Prop}(ht:tb t=some i)(hi:i.ty=.slice e)(hs:xd.strOf=none)(hx:xd.asSl z=some (m,ys))(h:kn m ys):vO tb t z xd kn:=by
 rw[MD,ht];simp only[hi,hs,hx];exact h
theorem j4 {vs:List (Nat×List D)}{lv:List (Nat×Nat×Nat×TypeId)}{N0:Nat}{α:Type}{t e:TypeId}{i j:TyE}{id m:Nat}{c:Cd α}{l l':List α}(ht:tb t=some i)(he:tb e=some j)(hf:(l++l').length*max 1 j.bytes≤140737488355328)(hi:i.ty=.slice e:=by exact rfl)(hz:Nat.ble (0+1) (j.size)=true:=by exact rfl)(hx:ev x=dO id c l:=by exact rfl)(hc:c.sz=j.size:=by exact rfl)(hl:lv.lookup id=some (l.length,j.size,e):=by exact rfl)(hs:(ev y).strOf=none:=by exact rfl)(hy:(ev y).asSl j.size=some (m,l'.flatMap c.f):=by exact rfl)(hm:m=l'.length:=by exact rfl):
  AVC P tb dr (.call ⟨.builtin .append,#[x,y],#[t,t]⟩) ty ev ⟨vs,lv,N0⟩ (Kq (dO id c (l++l')) ⟨vs,(id,(l++l').length,j.size,e)::lv,N0⟩):=by
 replace hz:=cg hz
 subst hm
 show i4 tb .append [t,t] [ev x,ev y] _ _
 rw[hx,AI,GO,ht]
 simp only[hi,he]
 refine⟨hz,fun _=>trivial,fun h=>absurd hs h,news_sl ht hi hs hy ?_⟩
 refine⟨hc,hl,by rw[←eH];exact hf,?_⟩
 dsimp only[dO]
 rw[eH,AU,hc]
 exact Kq.here _ _
def Hj {α:Type}(l:List α)(a b:Int):List α:=(l.drop a.toNat).take (b - a).toNat
theorem Fs {α:Type}{l:List α}{a b:Int}(h:0≤a∧a≤b∧b≤(l.length:Int)):(Hj l a b).length=(b - a).toNat:=by
 simp only[Hj,eA,f8];omega
theorem slE_sub {α:Type}{c:Cd α}{l:List α}{a b:Int}(h:0≤a∧a≤b∧b≤(l.length:Int)):E.sl c.sz (b - a).toNat (((l.flatMap c.f).drop (a.toNat*c.sz)).take ((b - a).toNat*c.sz))=slE c (Hj l a b):=by
 unfold slE
 rw[Fs h,mw c.f c.h,jU c.f c.h];rfl
theorem T_sl {α:Type}{t e:TypeId}{i j:TyE}{c:Cd α}{l:List α}{n:Nat}{lo hi:Option Operand}{a b:Int}(hb:0≤a∧a≤b∧b≤(l.length:Int))(ht:tb t=some i)(he:tb e=some j)(H2:i.ty=.slice e:=by exact rfl)(hc:c.sz=j.size:=by exact rfl)(hx:(ev x).asSl j.size=some (n,l.flatMap c.f):=by exact rfl)(hn:n=l.length:=by exact rfl)(Ah:nR (lo.map ev) 0=fun k=>k a:=by exact rfl)(G7:nR (hi.map ev) n=fun k=>k b:=by exact rfl):AVC P tb dr (.slice t x lo hi none) ty ev hp (Kq (dL c (Hj l a b)) hp):=by
 subst hn
 rw[OC]
 unfold zJ
 rw[ht]
 simp only[H2,he,hx,Ah,G7,Option.map_none]
 refine⟨hb,?_⟩
 rw[←hc,slE_sub hb]
 exact Kq.here _ _
theorem c9 {x:Operand}{f:FuncId}{aS:List Operand}{ts:Array TypeId}{ds:List D}{r:D}(uS:ev x=.e (.lit (.func (.func f) #[] #[])))(hc:aB P f ds r)(hp1:((aS.map ev).map D.ex).all D.pure=true)(hl:leL ((aS.map ev).map D.ex) ds)(hr:r.pure=true∨∃ds,r=.tu ds):AVC P tb dr (.call ⟨.value x,aS.toArray,ts⟩) ty ev hp (Kq r hp):=by
 show rQ P (hvB tb ⟨.value x,aS.toArray,ts⟩) (ev x) (aS.toArray.toList.map ev) hp (Kq r hp)
 rw[uS]
 refine⟨rfl,rfl,.inl ⟨hp1,r,aB.le hc hl,?_⟩⟩
 unfold EJ
 split
 ·rcases hr with hr|⟨_,hr⟩ <;> cases hr
 ·rcases hr with hr|⟨_,hr⟩ <;> cases hr
 ·exact Kq.here _ _
theorem EO {vs:List (Nat×List D)}{lv:List (Nat×Nat×Nat×TypeId)}{N0:Nat}{x:Operand}{f:FuncId}{aS:List Operand}{ts:Array TypeId}{ds:List D}{e z n:Nat}{xs:List E}(uS:ev x=.e (.lit (.func (.func f) #[] #[])))(hc:aB P f ds (.own e z n xs))(hp1:((aS.map ev).map D.ex).all D.pure=true)(hl:leL ((aS.map ev).map D.ex) ds):AVC P tb dr (.call ⟨.value x,aS.toArray,ts⟩) ty ev ⟨vs,lv,N0⟩ (Kq (.own N0 z n xs) ⟨vs,(N0,n,z,e)::lv,N0+1⟩):=by
 show rQ P (hvB tb ⟨.value x,aS.toArray,ts⟩) (ev x) (aS.toArray.toList.map ev) _ _
 rw[uS]
 exact⟨rfl,rfl,.inl ⟨hp1,_,aB.le hc hl,Kq.here _ _⟩⟩
theorem Kg {x:Operand}{f:FuncId}{aS:List Operand}{ts:Array TypeId}{ds:List D}(uS:ev x=.e (.lit (.func (.func f) #[] #[])))(hc:HC P f ds hp d hp')(hd:aS.map ev=ds:=by exact rfl)(hh:hvB tb ⟨.value x,aS.toArray,ts⟩=true:=by exact rfl):AVC P tb dr (.call ⟨.value x,aS.toArray,ts⟩) ty ev hp (Kq d hp'):=by
 show rQ P (hvB tb ⟨.value x,aS.toArray,ts⟩) (ev x) (aS.toArray.toList.map ev) hp _
 rw[uS]
 refine⟨rfl,rfl,.inr ⟨hh,d,hp',?_,Kq.here _ _⟩⟩
 show HC P f (aS.map ev) hp d hp'
 rw[hd];exact hc
theorem T_callF {x:Operand}{f:FuncId}{ks:List Nat}{aS:List Operand}{ts:Array TypeId}{ds:List D}(uS:ev x=.fn f ks)(hc:HC P f ds hp d hp')(hd:aS.map ev++ks.map (fun k=>D.pt k 0)=ds:=by exact rfl)(hh:hvB tb ⟨.value x,aS.toArray,ts⟩=true:=by exact rfl):AVC P tb dr (.call ⟨.value x,aS.toArray,ts⟩) ty ev hp (Kq d hp'):=by
 show rQ P (hvB tb ⟨.value x,aS.toArray,ts⟩) (ev x) (aS.toArray.toList.map ev) hp _
 rw[uS]
 refine .inr ⟨hh,d,hp',?_,Kq.here _ _⟩
 show HC P f (aS.map ev++ks.map fun k=>.pt k 0) hp d hp'
 rw[hd];exact hc
theorem Bn {f:FuncId}{first cs:List Operand}{ks:List Nat}(h:first.length=0:=by exact rfl)(hc:yv (cs.map ev)=some ks:=by exact rfl)(hn:cs.length≠0:=by decide):AVC P tb dr (.makeFunc (.func f) first.toArray cs.toArray) ty ev hp (Kq (.fn f ks) hp):=by
 rw[GM]
 show first.length=0∧_
 refine⟨h,?_⟩
 cases cs with
 |nil=>exact absurd rfl hn
 |cons c cs=>
  show (match yv ((c::cs).map ev) with|some ks=>xK (Kq (.fn f _) hp) hp (.fn f ks)|none=>False)
  rw[hc]
  exact Kq.here _ _
theorem OV {k off:Nat}(hx:ev x=.pt k off:=by exact rfl):AVC P tb dr (.nilCheck x) ty ev hp (Kq (.pt k off) hp):=by rw[GL,hx,nilV_pt];exact Kq.here _ _
end
section
variable {P:Program} {tb:TypeId→Option TyE} {x:Cx} {tm tm':List (Nat×D)} {hp hp':Hp} {Q:Exit→List (Nat×D)→Hp→Prop}
theorem own_mtG(w:World)(e:TypeId)(base size:Nat)(hb:base≤w.heap.size):(w.alloc (.cells #[] e)).ownsRow base e size (.slice (some ⟨w.heap.size,0,none⟩) 0 0) 0 []:=
 ⟨by simp,.inr ⟨w.heap.size,0,#[],rfl,hb,heap_alloc_new w _,aI _,by decide,by simp,by simp⟩⟩
theorem Ot {f:FuncId}{e z n:Nat}{xs:List E}(hz:0<z)(hf:I6 P f)(h:∀(us:List Value) (v:Value) (w:World),Sl w v z n us→(∀u∈us,u.oneCell'=true)→Calls P f #[v] w fun en w'=>∃q,en=.returned q∧w'.ownsRow w.heap.size e z q n us∧Below w.heap.size w w'):aB P f [.e (.sl z n xs)] (.own e z n xs):=
 aB.of1 hf fun w F v hF hv=>by
  have hv:=hv.e_inv
  obtain⟨us,LD,t8⟩:=sl_rep hv
  refine (h us v w LD (fun u hu=>by
   obtain⟨j,hj⟩:=yz hu
   have bz:j<xs.length:=by
    rw[t8.1]
    rcases bZ j us.length with h|h
    ·exact h
    ·rw[i5 h] at hj;cases hj
   exact (t8.2 j _ u (eg bz) hj).one)).mono ?_
  rintro en w' ⟨q,rfl,ho,hb⟩
  exact⟨q,rfl,⟨hz,⟨us,ho⟩,own_rep hF hz ho hb t8⟩,hb⟩
theorem AW.loopO {c:Code}{S X:Type}{b:S→Option (S⊕X)}(T:S→List (Nat×D))(H:S→Hp)(QX:X→Exit→List (Nat×D)→Hp→Prop)
  (round:∀s y,b s=some y→AW P x c (T s) (H s) fun ex tm' hp'=>match y with| .inl s'=>ex=.normal∧Wk x tm' hp' (T s') (H s')| .inr e=>ex≠.normal∧QX e ex tm' hp')
  {s:S} {e:X} (h:a7 b s=some e) (hw:Wk x tm hp (T s) (H s)):AW P x (.loop c) tm hp (QX e):=by
 obtain⟨n,hn⟩:=rF.1 h
 refine AW.loop (fun n tm hp=>∃s,tm=T s∧hp=H s∧qV b n s=some e) (n:=n) hw ⟨s,rfl,rfl,hn⟩ ?_
 rintro n tm hp ⟨s,rfl,rfl,hs⟩
 cases n with
 |zero=>cases hs
 |succ n=>
  unfold qV at hs
  split at hs
  ·rename_i s' hb
   refine AW.mono (round s _ hb) ?_
   rintro ex tm' hp' ⟨rfl,LA⟩
   exact⟨n,_,_,cl _,LA,s',rfl,rfl,hs⟩
  ·rename_i e' hb
   injection hs with hs
   subst hs
   refine AW.mono (round s _ hb) ?_
   rintro ex tm' hp' ⟨h1,h2⟩
   cases ex with
   |normal=>exact absurd rfl h1
   |_=>exact h2
  ·cases hs
def wkT(σ:Nat→Nat)(m:Nat)(tm:List (Nat×D)):List (Nat×D)→Prop
 |[]=>True
 |(t,d)::l=>((∃d0,tm.lookup t=some d0∧d0.le (d.ren σ))∧d.idsB m=true∧d.noOs=true)∧wkT σ m tm l
def wkV(σ:Nat→Nat)(m:Nat)(vs:List (Nat×List D)):List (Nat×List D)→Prop
 |[]=>True
 |(k,ds)::l=>(k<m∧(∃nl,vs.lookup (σ k)=some nl∧vt nl (ds.map (D.renC σ)))∧ds.all (D.idsC m)=true∧ds.all D.noO=true)∧wkV σ m vs l
def wkL(σ:Nat→Nat)(m:Nat)(lv:List (Nat×Nat×Nat×TypeId)):List (Nat×Nat×Nat×TypeId)→Prop
 |[]=>True
 |(k,y)::l=>(k<m∧lv.lookup (σ k)=some y)∧wkL σ m lv l
theorem I9 {σ:Nat→Nat}{m:Nat}:∀{l:List (Nat×D)},wkT σ m tm l→∀p∈l,(∃d0,tm.lookup p.1=some d0∧d0.le (p.2.ren σ))∧p.2.idsB m=true∧p.2.noOs=true
 |_::_,h,_,.head _=>h.1
 |_::_,h,p,.tail _ hp=>I9 h.2 p hp
theorem ru {σ:Nat→Nat}{m:Nat}{vs:List (Nat×List D)}:∀{l:List (Nat×List D)},wkV σ m vs l→∀p∈l,p.1<m∧(∃nl,vs.lookup (σ p.1)=some nl∧vt nl (p.2.map (D.renC σ)))∧p.2.all (D.idsC m)=true∧p.2.all D.noO=true
 |_::_,h,_,.head _=>h.1
 |_::_,h,p,.tail _ hp=>ru h.2 p hp
theorem tG {σ:Nat→Nat}{m:Nat}{lv:List (Nat×Nat×Nat×TypeId)}:∀{l:List (Nat×Nat×Nat×TypeId)},wkL σ m lv l→∀p∈l,p.1<m∧lv.lookup (σ p.1)=some p.2
 |_::_,h,_,.head _=>h.1
 |_::_,h,p,.tail _ hp=>tG h.2 p hp
theorem Wk.to {vars':List (Nat×List D)}{oI:List (Nat×Nat×Nat×TypeId)}{m:Nat}(N0:Nat)(os:List Nat)(h0:x.hp0.next=N0)(hs:(os.all fun o=>decide (N0≤o))=true)(vn:os.Nodup)(hm:m=N0+os.length)
  (ht:wkT (sg N0 os) m tm tm') (hv:wkV (sg N0 os) m hp.vars vars') (hl:wkL (sg N0 os) m hp.live oI):Wk x tm hp tm' ⟨vars',oI,m⟩:=by
 have hs:∀o∈os,N0≤o:=by simpa using hs
 intro a w ⟨g,hr,gJ,hsz,qI,hB,hF,hM⟩
 subst h0 hm
 have eO:∀id y,(⟨vars',oI,x.hp0.next+os.length⟩:Hp).live.lookup id=some y→hp.live.lookup (sg x.hp0.next os id)=some y:=fun id y h=>(tG hl _ (cf h)).2
 have bz:∀i,i<x.hp0.next→sg x.hp0.next os i=i:=fun i hi=>by unfold sg;simp[hi]
 refine⟨⟨fun i=>g.μ (sg x.hp0.next os i),fun i=>g.τ (sg x.hp0.next os i),g.F⟩,⟨fun k ds hk=>?_,fun k k' ds ds' hk s5 he=>?_,fun id n e hi=>?_,fun id yn t t' b hi wH hb pJ=>?_,hr.base,hr.fits⟩,fun t d h=>?_,hsz,qI,hB,hF,
  ⟨hM.size,hM.cell,hM.forb,nU _ _,fun k hk=>by show g.μ _=_;rw[bz k hk];exact hM.μ k hk,fun id hid n e Nz=>?_,fun b hb hf=>⟨(hM.fr b hb hf).1,(hM.fr b hb hf).2.1,fun k ds hk=>by obtain⟨_,⟨_,h,_⟩,_⟩:=ru hv _ (cf hk);exact (hM.fr b hb hf).2.2.1 _ _ h,fun id t hi=>(hM.fr b hb hf).2.2.2 _ t (eO id _ hi)⟩,hM.szs⟩⟩
 ·obtain⟨h1,⟨nl,h2,rJ⟩,h3,h4⟩:=ru hv _ (cf hk)
  obtain⟨_,h5,h6,cs,ty,h7,h8,h9⟩:=hr.var _ _ h2
  have h3':∀d∈ds,D.idsC (x.hp0.next+os.length) d=true:=by simpa using h3
  have h4':∀d∈ds,D.noO d=true:=by simpa using h4
  have Cg:=qK rJ
  refine⟨h1,h5,h6,cs,ty,h7,by rw[bS] at Cg;have Ld:nl.length=ds.length:=Cg.symm;omega,fun j u hu=>⟨fun h=>(h9 j u hu).1 (by rw[bS] at Cg;have Ld:nl.length=ds.length:=Cg.symm;have h12:j<ds.length:=h;omega),fun d hd=>?_⟩⟩
  obtain⟨d0,DU,hle⟩:=sJ rJ (j:=j) (d':=d.renC (sg x.hp0.next os)) (by rw[cF,hd];rfl)
  exact iJ (((h9 j u hu).2 d0 DU).leC hle) (h3' d (bO hd)) (h4' d (bO hd)) rfl (fun _=>rfl) (fun _=>rfl) rfl eO
 ·obtain⟨h1,⟨_,h2,_⟩,_⟩:=ru hv _ (cf hk)
  obtain⟨sB,⟨_,rJ,_⟩,_⟩:=ru hv _ (cf s5)
  exact Mg hs vn h1 sB (hr.inj _ _ _ _ h2 rJ he)
 ·obtain⟨h1,h2⟩:=tG hl _ (cf hi)
  obtain⟨_,us,h3,h4,h5⟩:=hr.tok _ n e h2
  exact⟨h1,us,h3,h4,fun b hb=>⟨(h5 b hb).1,fun k ds hk=>by
   obtain⟨_,⟨_,h6,_⟩,_⟩:=ru hv _ (cf hk)
   exact (h5 b hb).2 _ _ h6⟩⟩
 ·obtain⟨h1,h2⟩:=tG hl _ (cf hi)
  obtain⟨sB,rJ⟩:=tG hl _ (cf wH)
  exact Mg hs vn h1 sB (hr.tinj _ _ _ _ b h2 rJ hb pJ)
 ·obtain⟨⟨d0,h1,hle⟩,h2,h3⟩:=I9 ht _ (cf h)
  exact Dx ((gJ t _ h1).le hle) h2 h3 rfl (fun _=>rfl) (fun _=>rfl) rfl eO
 ·obtain⟨m0,h1,h2,h3⟩:=hM.live id hid n e (by rw[←bz id hid];exact eO id _ Nz)
  exact⟨m0,h1,h2,fun h=>by show g.τ _=_;rw[bz id hid];exact h3 h⟩
theorem av(d:D):d.le d:=.inl (.inl rfl)
theorem fK {d d':D}(h:d=d'):d.le d':=h▸av d
theorem qd(d:D):d.le d.ex:=.inr (.inl rfl)
theorem HG {z:Nat}(hz:0<z):D.le dN (.e (.sl z 0 [])):=.inl (.inr (.inr ⟨rfl,z,hz,rfl⟩))
theorem oJ {ds ds':List D}(h:vt ds ds'):D.le (.ag ds) (.ag ds'):=.inr (.inr ⟨ds,ds',rfl,rfl,h⟩)
theorem c7 {t:Tmp}{d:D}{k:D→Prop}(h:tm.lookup t=some d)(hk:k d):oq tb tm hp (.tmp t) k:=⟨d,h,hk⟩
theorem Mi {p:Tmp}{ty:TypeId}{j off:Nat}{i:TyE}{ds:List D}{d:D}{k:D→Prop}(h:tm.lookup p=some (.pt j off))(ht:tb ty=some i)(hg:i.ty.agg=false)(hv:hp.vars.lookup j=some ds)(hn:j<hp.next)(hd:ds[off]? =some d)(hk:k d):oq tb tm hp (.cell p ty) k:=by
 refine⟨_,h,⟨i,ht⟩,?_⟩
 rw[mO,ht,hv]
 simp only[hg]
 exact⟨hn,d,hd,hk⟩
theorem lw {p:Tmp}{ty:TypeId}{j off:Nat}{i:TyE}{ds es:List D}{k:D→Prop}(h:tm.lookup p=some (.pt j off))(ht:tb ty=some i)(hg:i.ty.agg=true)(hv:hp.vars.lookup j=some ds)(hn:j<hp.next)(hl:off+i.size≤ds.length)(hd:(ds.drop off).take i.size=es)(hk:k (.ag es)):oq tb tm hp (.cell p ty) k:=by
 refine⟨_,h,⟨i,ht⟩,?_⟩
 rw[mO,ht,hv]
 simp only[hg]
 exact⟨hn,hl,by rw[hd];exact hk⟩
theorem gQ.own {t:Tmp}{id e z n:Nat}{xs:List E}(h:tm.lookup t=some (.own id z n xs))(hl:hp.live.lookup id=some (n,z,e)):gQ tb [.tmp t] tm hp (.own e z n xs):=⟨_,h,.inr (.inl ⟨id,e,z,n,xs,rfl,hl,rfl⟩)⟩
end
theorem dG_noC {α:Type}(c:Cd α)(a:α)(σ:Nat→Nat):((c.f a).map D.e).map (D.renC σ)=(c.f a).map D.e:=by
 rw[ol];exact oE fun _ _=>rfl
theorem AB {α:Type}(c:Cd α)(a:α)(σ:Nat→Nat):(dG c a).ren σ=dG c a:=by
 show D.ag (((c.f a).map D.e).map (D.renC σ))=_
 rw[dG_noC]
theorem le_G {α:Type}{c:Cd α}{a:α}{σ:Nat→Nat}{d:D}(h:d.le (dG c a)):d.le ((dG c a).ren σ):=by rw[AB];exact h
theorem ids_G {α:Type}(c:Cd α)(a:α)(m:Nat):(dG c a).idsB m=true:=by
 show ((c.f a).map D.e).all (D.idsC m)=true
 rw[A4];exact b7.2 fun _ _=>rfl
theorem noO_G {α:Type}(c:Cd α)(a:α):(dG c a).noOs=true:=by
 show ((c.f a).map D.e).all D.noO=true
 rw[A4];exact b7.2 fun _ _=>rfl
theorem iK {α:Type}(c:Cd α)(a:α):(dG c a).pure=true:=by
 show ((c.f a).map D.e).all D.pureC=true
 rw[A4];exact b7.2 fun _ _=>rfl
theorem fm {α:Type}(c:Cd α)(a:α){z:Nat}(h:c.sz=z):((c.f a).drop 0).take z=c.f a:=by
 rw[pQ,jc (by rw[c.h,h];exact aI _)]
theorem AW.condT {P:Program}{x:Cx}{Q:Exit→List (Nat×D)→Hp→Prop}{tm:List (Nat×D)}{hp:Hp}{c:Operand}{c1 c2:Code}{b:Bool}(hc:evD tm c=.e (.lit (.bool b)))(hb:b=true)(h:AW P x c1 tm hp Q):AW P x (.cond c c1 c2) tm hp Q:=
 AW.condS hc (fun _=>h) fun hf=>by rw[hb] at hf;cases hf
theorem AW.condF {P:Program}{x:Cx}{Q:Exit→List (Nat×D)→Hp→Prop}{tm:List (Nat×D)}{hp:Hp}{c:Operand}{c1 c2:Code}{b:Bool}(hc:evD tm c=.e (.lit (.bool b)))(hb:b=false)(h:AW P x c2 tm hp Q):AW P x (.cond c c1 c2) tm hp Q:=
 AW.condS hc (fun hf=>by rw[hb] at hf;cases hf) fun _=>h
theorem wk {x:Cx}{tm tm':List (Nat×D)}{hp:Hp}{vars':List (Nat×List D)}{oI:List (Nat×Nat×Nat×TypeId)}{m:Nat}(h0:x.hp0=⟨[],[],0⟩)(os:List Nat)(ht:wkT (sg 0 os) m tm tm')(hv:wkV (sg 0 os) m hp.vars vars')(hl:wkL (sg 0 os) m hp.live oI)(vn:os.Nodup:=by decide)(hm:m=0+os.length:=by exact rfl):Wk x tm hp tm' ⟨vars',oI,m⟩:=
 Wk.to 0 os (by rw[h0]) (by simp) vn hm ht hv hl
theorem wkN {x:Cx}{tm tm':List (Nat×D)}{hp:Hp}{vars':List (Nat×List D)}{oI:List (Nat×Nat×Nat×TypeId)}{m N0:Nat}(h0:x.hp0.next=N0)(os:List Nat)(ht:wkT (sg N0 os) m tm tm')(hv:wkV (sg N0 os) m hp.vars vars')(hl:wkL (sg N0 os) m hp.live oI)(hs:(os.all fun o=>decide (N0≤o))=true:=by decide)(vn:os.Nodup:=by decide)(hm:m=N0+os.length:=by exact rfl):Wk x tm hp tm' ⟨vars',oI,m⟩:=
 Wk.to N0 os h0 hs vn hm ht hv hl
theorem Wk.nilOwn {x:Cx}{tm:List (Nat×D)}{vs:List (Nat×List D)}{lv:List (Nat×Nat×Nat×TypeId)}{N0:Nat}(k j:Nat)(e:TypeId)(z:Nat){ds ds':List D}(hz:Nat.ble 1 z=true:=by exact rfl)(hk:vs.lookup k=some ds:=by exact rfl)(hj:ds[j]? =some dN:=by exact rfl)(hd:ds.set j (.own N0 z 0 [])=ds':=by exact rfl):Wk x tm ⟨vs,lv,N0⟩ tm ⟨(k,ds')::vs,(N0,0,z,e)::lv,N0+1⟩:=by
 subst hd
 exact Wk.nilOwn0 (hp:=⟨vs,lv,N0⟩) k j e z (leb hz) hk hj
theorem Wk.trans {x:Cx}{tm tm' tm'':List (Nat×D)}{hp hp' Ng:Hp}(h:Wk x tm hp tm' hp')(h':Wk x tm' hp' tm'' Ng):Wk x tm hp tm'' Ng:=fun a w hr=>h' a w (h a w hr)
theorem bh {α:Type}(c:Cd α)(a:α):(D.ex (dG c a)).pure=true:=by
 have:D.ex (dG c a)=dG c a:=by
  show D.ag (((c.f a).map D.e).map D.exC)=_
  rw[ol];rfl
 rw[this];exact iK c a
section
variable {σ:Nat→Nat} {m k t:Nat} {tm l:List (Nat×D)} {d d0 d':D} {ds nl ds':List D} {vs lv:List (Nat×List D)} {ll l2:List (Nat×Nat×Nat×TypeId)} {y:Nat×Nat×TypeId}
theorem wT(h1:tm.lookup t=some d0)(h2:d0.le (d.ren σ))(h3:d.idsB m=true)(h4:d.noOs=true)(hl:wkT σ m tm l):wkT σ m tm ((t,d)::l):=⟨⟨⟨_,h1,h2⟩,h3,h4⟩,hl⟩
theorem wR(h1:tm.lookup t=some (d.ren σ))(hl:wkT σ m tm l)(h3:d.idsB m=true:=by exact rfl)(h4:d.noOs=true:=by exact rfl):wkT σ m tm ((t,d)::l):=⟨⟨⟨_,h1,av _⟩,h3,h4⟩,hl⟩
theorem vR(h1:vs.lookup (σ k)=some (ds.map (D.renC σ)))(hl:wkV σ m vs lv)(h0:Nat.ble (k+1) m=true:=by exact rfl)(h3:ds.all (D.idsC m)=true:=by exact rfl)(h4:ds.all D.noO=true:=by exact rfl):wkV σ m vs ((k,ds)::lv):=⟨⟨ltb h0,⟨_,h1,qJ _⟩,h3,h4⟩,hl⟩
theorem wG {α:Type}{c:Cd α}{a:α}(h1:tm.lookup t=some d0)(h2:d0.le (dG c a))(hl:wkT σ m tm l):wkT σ m tm ((t,dG c a)::l):=⟨⟨⟨_,h1,le_G h2⟩,ids_G _ _ _,noO_G _ _⟩,hl⟩
theorem wL(h0:Nat.ble (k+1) m=true)(h1:ll.lookup (σ k)=some y)(hl:wkL σ m ll l2):wkL σ m ll ((k,y)::l2):=⟨⟨ltb h0,h1⟩,hl⟩
theorem wc(h:d.leC d')(hl:vt ds ds'):vt (d::ds) (d'::ds'):=⟨h,hl⟩
theorem ly(d:D):d.leC d:=.inl rfl
theorem HH(d:D):d.leC d.exC:=.inr (.inl rfl)
theorem FU {z:Nat}(h:Nat.ble 1 z=true):D.leC dN (.e (.sl z 0 [])):=.inr (.inr ⟨rfl,z,leb h,rfl⟩)
theorem wTn:wkT σ m tm []:=trivial
theorem wVn:wkV σ m vs []:=trivial
theorem wLn:wkL σ m ll []:=trivial
theorem wcn:vt [] []:=trivial
theorem lAn:leL [] []:=trivial
theorem lA(h:d.le d')(hl:leL ds ds'):leL (d::ds) (d'::ds'):=⟨h,hl⟩
end
theorem rH0 {x:Cx}{tb:TypeId→Option TyE}{tm:List (Nat×D)}{hp hp':Hp}(hw:Wk x tm hp [] hp'):∃tm',Wk x tm hp tm' hp'∧vg tb [] tm' hp' (.tu []):=⟨_,hw,rfl⟩
theorem rH1 {x:Cx}{tb:TypeId→Option TyE}{tm:List (Nat×D)}{hp hp':Hp}{t:Tmp}{d:D}(hw:Wk x tm hp [(t,d)] hp'):∃tm',Wk x tm hp tm' hp'∧vg tb [.tmp t] tm' hp' d:=⟨_,hw,_,ai,rfl⟩
theorem gQ.mk1 {tb:TypeId→Option TyE}{tm:List (Nat×D)}{hp:Hp}{q:ResultVar}{r:D}(h:oq tb tm hp q fun d=>(d.ex.pure=true∧r=d.ex)∨(∃id e z n xs,d=.own id z n xs∧hp.live.lookup id=some (n,z,e)∧r=.own e z n xs)∨∃d2,d.le d2∧d2.pure=true∧r=d2):gQ tb [q] tm hp r:=h
theorem gQ.mk2 {tb:TypeId→Option TyE}{tm:List (Nat×D)}{hp:Hp}{q q':ResultVar}{r:D}(h:oq tb tm hp q fun d=>oq tb tm hp q' fun d'=>((d.ex.pure=true∧d'.ex.pure=true)∧r=.tu [d.ex,d'.ex])∨∃e e',d.le e∧d'.le e'∧(e.pure=true∧e'.pure=true)∧r=.tu [e,e']):gQ tb [q,q'] tm hp r:=h
theorem gQ.mk3 {tb:TypeId→Option TyE}{tm:List (Nat×D)}{hp:Hp}{q q' Hs:ResultVar}{r:D}(h:oq tb tm hp q fun d=>oq tb tm hp q' fun d'=>oq tb tm hp Hs fun LM=>((d.ex.pure=true∧d'.ex.pure=true∧LM.ex.pure=true)∧r=.tu [d.ex,d'.ex,LM.ex])∨∃e e' e'',d.le e∧d'.le e'∧LM.le e''∧(e.pure=true∧e'.pure=true∧e''.pure=true)∧r=.tu [e,e',e'']):gQ tb [q,q',Hs] tm hp r:=h
end
section
def dg(b A j:Nat):Nat:=A / b ^ j % b
section
variable {b A B n k j p x:Nat}
theorem Oe(hb:0<b):dg b A j<b:=c6 _ hb
theorem j8(h:A<b ^ j):dg b A j=0:=by unfold dg;rw[fI h,Nat.zero_mod]
theorem fW:A % b ^ (k+1)=A % b ^ k+b ^ k*dg b A k:=Nat.mod_pow_succ
theorem ck:A / b ^ k=A / b ^ (k+1)*b+dg b A k:=by
 unfold dg
 rw[eu,←jH,ci]
 exact (nB _ _).symm
theorem mj(hj:j<k):dg b (A % b ^ k) j=dg b A j:=by
 unfold dg
 obtain⟨m,rfl⟩:∃m,k=j+(m+1):=⟨k - j - 1,by omega⟩
 rw[j9,Nat.mod_mul_right_div_self,eu,Nat.mod_mul_left_mod]
theorem JY(hb:0<b)(hj:k≤j):dg b (A % b ^ k) j=0:=
 j8 (bG (c6 _ (cH hb)) (gP hb hj))
theorem Of(hA:A<b ^ n)(hB:B<b ^ n)(h:∀j,j<n→dg b A j=dg b B j):A=B:=by
 have key:∀k,k≤n→A % b ^ k=B % b ^ k:=by
  intro k
  induction k with
  |zero=>intro _;simp[lJ]
  |succ k ih=>intro hk;rw[fW,fW,ih (by omega),h k (by omega)]
 have:=key n (aI _)
 rwa[dM hA,dM hB] at this
def up1(b A p x:Nat):Nat:=A / b ^ (p+1)*b ^ (p+1)+x*b ^ p+A % b ^ p
theorem Mb:A=A / b ^ (p+1)*b ^ (p+1)+dg b A p*b ^ p+A % b ^ p:=by
 have h1:=nB A (b ^ (p+1))
 rw[fW] at h1
 rw[ci (dg b A p),oL,oh (b ^ p*dg b A p),ci (A / b ^ (p+1))]
 exact h1.symm
theorem Hf:up1 b A p x+dg b A p*b ^ p=A+x*b ^ p:=by
 have h:=Mb (b:=b) (A:=A) (p:=p)
 unfold up1
 omega
theorem part_lt(hb:0<b)(hx:x<b):x*b ^ p+A % b ^ p<b ^ (p+1):=by
 have h1:A % b ^ p<b ^ p:=c6 _ (cH hb)
 have h2:(x+1)*b ^ p≤b*b ^ p:=cc _ hx
 rw[bN,dc] at h2
 rw[eu,ci (b ^ p) b]
 omega
theorem Je(hb:0<b)(hx:x<b):up1 b A p x / b ^ (p+1)=A / b ^ (p+1):=by
 unfold up1
 rw[oL,oh,IC _ _ (cH hb),fI (part_lt hb hx),bE]
theorem Jd(hb:0<b):up1 b A p x % b ^ p=A % b ^ p:=by
 unfold up1
 have e:A / b ^ (p+1)*b ^ (p+1)+x*b ^ p+A % b ^ p=A % b ^ p+(A / b ^ (p+1)*b+x)*b ^ p:=by
  rw[eu,bN]
  have:A / (b ^ p*b)*(b ^ p*b)=A / (b ^ p*b)*b*b ^ p:=by rw[iw,ci b]
  omega
 rw[e,IB,xV]
theorem dg_up1(hb:0<b)(hx:x<b):dg b (up1 b A p x) j=if j=p then x else dg b A j:=by
 rcases AY j p with h|h|h
 ·rw[ifn_,←mj (A:=up1 b A p x) h,Jd hb,mj h]
 ·subst h
  rw[ao rfl]
  have h1:dg b (up1 b A j x) j*b ^ j=x*b ^ j:=by
   have e1:=Mb (b:=b) (A:=up1 b A j x) (p:=j)
   rw[Je hb hx,Jd hb] at e1
   have e2:up1 b A j x=A / b ^ (j+1)*b ^ (j+1)+x*b ^ j+A % b ^ j:=rfl
   omega
  exact Nat.eq_of_mul_eq_mul_right (cH hb) h1
 ·rw[ifn_]
  obtain⟨m,rfl⟩:∃m,j=(p+1)+m:=⟨j - p - 1,by omega⟩
  unfold dg
  rw[j9,←jH,←jH,Je hb hx]
def vN(b n A:Nat):Vector Int n:=Vector.ofFn fun i=>(dg b A i.val:Int)
theorem iy {n:Nat}(h:j<n):(vN b n A)[j]! =(dg b A j:Int):=by
 rw[eI (vN b n A) j h]
 unfold vN
 rw[IV]
theorem mK {n:Nat}{v w:Vector Int n}(h:∀i,i<n→v[i]! =w[i]!):v=w:=by
 apply Vector.ext
 intro i hi
 have:=h i hi
 rwa[eI v i hi,eI w i hi] at this
theorem n5 {n:Nat}{v:Vector Int n}{i j:Nat}{y:Int}(hj:j<n):(v.set! i y)[j]! =if j=i then y else v[j]! :=by
 rw[eI (v.set! i y) j hj,eI v j hj]
 show (v.setIfInBounds i y)[j]=_
 rw[Vector.getElem_setIfInBounds]
 by_cases h:i=j
 ·rw[ao h,ao h.symm]
 ·rw[aq h,aq fun e=>h e.symm]
theorem wS {n:Nat}(hb:0<b)(hx:x<b)(_hp:p<n):(vN b n A).set! p (x:Int)=vN b n (up1 b A p x):=by
 apply mK
 intro j hj
 rw[n5 hj,iy hj,iy hj,dg_up1 hb hx]
 split <;> rfl
theorem Do {n:Nat}(_hb:0<b):vN b n (A % b ^ n)=vN b n A:=by
 apply mK
 intro j hj
 rw[iy hj,iy hj,mj hj]
theorem vN_inj {n:Nat}(hA:A<b ^ n)(hB:B<b ^ n)(h:vN b n A=vN b n B):A=B:=by
 apply Of hA hB
 intro j hj
 have e1:=iy (b:=b) (A:=A) hj
 rw[h,iy hj] at e1
 omega
theorem qb {n:Nat}:vN b n 0=Vector.replicate n 0:=by
 apply mK
 intro j hj
 rw[iy hj,eI _ j hj,Vector.getElem_replicate]
 unfold dg
 simp
def fJ(b:Nat)(f:Nat→Nat):Nat→Nat
 |0=>0
 |n+1=>fJ b f n+f n*b ^ n
theorem zb(hb:0<b){f:Nat→Nat}:∀n,(∀j,j<n→f j<b)→fJ b f n<b ^ n
 |0,_=>by simp[fJ]
 |n+1,h=>by
  have ih:=zb hb n fun j hj=>h j (by omega)
  have h1:=h n (by omega)
  have h2:(f n+1)*b ^ n≤b*b ^ n:=cc _ h1
  rw[bN,dc] at h2
  rw[eu,ci (b ^ n) b]
  unfold fJ
  omega
theorem Eb(hb:0<b){f:Nat→Nat}:∀n,(∀j,j<n→f j<b)→∀j,j<n→dg b (fJ b f n) j=f j
 |0,_,j,hj=>by omega
 |n+1,h,j,hj=>by
  have h0:∀j,j<n→f j<b:=fun j hj=>h j (by omega)
  have bz:=zb hb n h0
  by_cases xu:j=n
  ·subst xu
   unfold dg fJ
   rw[IC _ _ (cH hb),fI bz,bE,dM (h j (by omega))]
  ·have e:dg b (fJ b f (n+1)) j=dg b (fJ b f n) j:=by
    rw[←mj (A:=fJ b f (n+1)) (k:=n) (by omega),show fJ b f (n+1)=fJ b f n+f n*b ^ n from rfl,IB,dM bz]
   rw[e]
   exact Eb hb n h0 j (by omega)
theorem vN_of {n:Nat}(hb:0<b)(v:Vector Int n)(h:∀j,j<n→0≤v[j]!∧v[j]! <(b:Int)):∃A,A<b ^ n∧v=vN b n A:=by
 have hf:∀j,j<n→(v[j]!).toNat<b:=fun j hj=>by have:=h j hj;omega
 refine⟨fJ b (fun j=>(v[j]!).toNat) n,zb hb n hf,?_⟩
 apply mK
 intro j hj
 rw[iy hj,Eb hb n hf j hj]
 have:=h j hj
 omega
theorem zc {n:Nat}(hb:0<b)(hk:k<n):(vN b n (A % b ^ k)).set! k (dg b A k:Int)=vN b n (A % b ^ (k+1)):=by
 apply mK
 intro j hj
 rw[n5 hj,iy hj,iy hj]
 by_cases h:j=k
 ·subst h;rw[ao rfl,mj (cl _)]
 ·rw[aq h]
  rcases bZ j k with h1|h1
  ·rw[mj h1,mj (by omega)]
  ·rw[JY hb h1,JY hb (by omega)]
theorem dg_hi(hb:0<b):dg b (A / b ^ k*b ^ k) j=if j<k then 0 else dg b A j:=by
 by_cases h:j<k
 ·rw[ao h]
  obtain⟨m,rfl⟩:∃m,k=m+1+j:=⟨k - j - 1,by omega⟩
  unfold dg
  rw[j9 b (m+1) j,←iw,IP _ (cH hb),eu,←iw,Nat.mul_mod_left]
 ·rw[aq h]
  obtain⟨m,rfl⟩:∃m,j=k+m:=⟨j - k,by omega⟩
  unfold dg
  rw[j9,←jH,←jH,IP _ (cH hb)]
theorem Jc {n:Nat}(hb:0<b)(_hk:k<n):(vN b n (A / b ^ (k+1)*b ^ (k+1))).set! k (dg b A k:Int)=vN b n (A / b ^ k*b ^ k):=by
 apply mK
 intro j hj
 rw[n5 hj,iy hj,iy hj,dg_hi hb,dg_hi hb]
 by_cases h:j=k
 ·subst h;rw[ao rfl,aq (AN _)]
 ·rw[aq h]
  by_cases h1:j<k
  ·rw[ifp_,ao h1]
  ·rw[ifn_,aq h1]
end
end
section
section
variable {R S T:Type}
theorem gF(x y:Option R):cnd true x y=x:=rfl
theorem bc(x y:Option R):cnd false x y=y:=rfl
theorem cnd_and(b c:Bool):cnd b (some c) (some false)=some (b&&c):=by cases b <;> rfl
theorem cnd_or(b c:Bool):cnd b (some true) (some c)=some (b||c):=by cases b <;> rfl
theorem Oq(b:Bool)(x:Option R):cnd b x x=x:=by cases b <;> rfl
theorem Oo(b:Bool)(x y:R):cnd b (some x) (some y)=some (bif b then x else y):=by cases b <;> rfl
theorem uY(x:Option R):(bnd x fun a=>some a)=x:=by cases x <;> rfl
theorem iG(p:Prop)[Decidable p](x y:Option R):cnd (decide p) x y=if p then x else y:=by
 by_cases h:p <;> simp[h,cnd]
theorem bu {p:Prop}[Decidable p](x y:Option R)(h:p:=by omega):cnd (decide p) x y=x:=by rw[dy h];rfl
theorem bw {p:Prop}[Decidable p](x y:Option R)(h:¬p:=by omega):cnd (decide p) x y=y:=by rw[gM h];rfl
end
theorem subL_to {α:Type}(l:List α)(b:Int)(h:0≤b):Hj l 0 b=l.take b.toNat:=by
 unfold Hj;simp
theorem Kx {z:Int}(h:-9223372036854775808≤z∧z≤9223372036854775807:=by omega):i64.wrap z=z:=p8 h.1 h.2
end
theorem ul {S X:Type}{b:S→Option (S⊕X)}(Inv:S→Prop)(μ:S→Nat)(Post:X→Prop)(h:∀s,Inv s→(∃s',b s=some (.inl s')∧Inv s'∧μ s'<μ s)∨∃x,b s=some (.inr x)∧Post x)(s:S)(hs:Inv s):∃x,a7 b s=some x∧Post x:=by
 generalize hm:μ s=m
 induction m using Nat.strongRecOn generalizing s with
 |_ m ih=>
  rcases h s hs with⟨s',h1,h2,h3⟩|⟨x,h1,h2⟩
  ·obtain⟨x,h4,h5⟩:=ih (μ s') (by omega) s' h2 rfl
   exact⟨x,(jN h1).trans h4,h5⟩
  ·exact⟨x,fa h1,h2⟩
theorem HD {S X:Type}{b:S→Option (S⊕X)}(G:Nat→S)(n:Nat)(x:X)(hr:∀i,i<n→b (G (i+1))=some (.inl (G i)))(he:b (G 0)=some (.inr x)):a7 b (G n)=some x:=by
 induction n with
 |zero=>exact fa he
 |succ n ih=>exact (jN (hr n (cl _))).trans (ih fun i hi=>hr i (by omega))
theorem pC {S X:Type}{b:S→Option (S⊕X)}(G:Nat→S)(m:Nat)(x:X){s0:S}(h0:G 0=s0)(hr:∀i,i<m→b (G i)=some (.inl (G (i+1))))(he:b (G m)=some (.inr x)):a7 b s0=some x:=by
 subst h0
 exact jA G 0 m x (de _) (fun i _ hi=>hr i hi) he
theorem ML {S X:Type}{b:S→Option (S⊕X)}(G:Nat→S)(n:Nat)(x:X){s0:S}(h0:G n=s0)(hr:∀i,i<n→b (G (i+1))=some (.inl (G i)))(he:b (G 0)=some (.inr x)):a7 b s0=some x:=by
 subst h0
 exact HD G n x hr he
theorem gu {n:Nat}(h:n<18446744073709551616:=by omega):u64.wrap (n:Int)=(n:Int):=by
 rw[IntKind.wrap_u64];omega
theorem wW(n:Nat):u32.wrap (n:Int)=((n % 4294967296:Nat):Int):=by
 rw[IntKind.wrap_u32];omega
theorem wV {n:Nat}(h:n<4294967296:=by omega):u32.wrap (n:Int)=(n:Int):=by
 rw[wW,dM h]
theorem xm(k:IntKind)(n s:Nat)(h:s≤k.bits):kA k (n:Int) (s:Int)=((n / 2 ^ s:Nat):Int):=by
 unfold kA
 rw[aW,tj h]
 have:((2:Int) ^ s)=((2 ^ s:Nat):Int):=by rw[Int.natCast_pow];rfl
 rw[this,Int.fdiv_eq_ediv_of_nonneg _ (Ep _)]
 exact (IA ..).symm
theorem MS(n s:Nat)(h:s≤64)(hn:n*2 ^ s<18446744073709551616):uP .u64 (n:Int) (s:Int)=((n*2 ^ s:Nat):Int):=by
 unfold uP
 have e:(IntKind.u64.bits)=64:=rfl
 rw[aW,e,tj h]
 have:((n:Int)*(2:Int) ^ s)=((n*2 ^ s:Nat):Int):=by rw[nW,Int.natCast_pow];rfl
 rw[this,gu hn]
theorem uh(n:Nat):kA .u64 (n:Int) (32:Int)=((n / 4294967296:Nat):Int):=xm .u64 n 32 (by decide)
theorem Me(n:Nat):kA .u64 (n:Int) (63:Int)=((n / 9223372036854775808:Nat):Int):=xm .u64 n 63 (by decide)
theorem Fx {n:Nat}(h:n<4294967296):uP .u64 (n:Int) (32:Int)=((n*4294967296:Nat):Int):=MS n 32 (by decide) (by omega)
theorem ior_n {a c s:Nat}(hc:c<2 ^ s)(bz:a*2 ^ s+c<18446744073709551616):ior .u64 ((a*2 ^ s:Nat):Int) (c:Int)=((a*2 ^ s+c:Nat):Int):=by
 unfold ior
 have e:(IntKind.u64.bits)=64:=rfl
 have h1:(BitVec.ofInt 64 ((a*2 ^ s:Nat):Int)).toNat=a*2 ^ s:=by
  rw[BitVec.toNat_ofInt];omega
 have h2:(BitVec.ofInt 64 (c:Int)).toNat=c:=by
  rw[BitVec.toNat_ofInt];omega
 rw[e,BitVec.toNat_or,h1,h2]
 have h3:a*2 ^ s |||c=a*2 ^ s+c:=by
  rw[ci a]
  exact (Nat.two_pow_add_eq_or_of_lt hc a).symm
 rw[h3,gu bz]
theorem MT(k:IntKind)(a b:Int):ior k a b=ior k b a:=by unfold ior;rw[BitVec.or_comm]
theorem FX {a c:Nat}(hc:c<4294967296)(ha:a<4294967296):ior .u64 ((a*4294967296:Nat):Int) (c:Int)=((a*4294967296+c:Nat):Int):=ior_n (s:=32) hc (by omega)
theorem b8 {z:Int}(h:-9223372036854775808≤z∧z≤9223372036854775807:=by omega):i64.wrap z=z:=Kx h
section
def rn(os:List Nat)(m N:Nat)(i:Nat):Nat:=bif decide (i<m) then os.getD i 0 else N+(i - m)
def frV(ρ:Nat→Nat)(os:List Nat)(mJ vs:List (Nat×List D)):List (Nat×List D):=mJ.map (fun p=>(ρ p.1,p.2.map (D.renC ρ)))++vs.filter fun p=>!os.contains p.1
def frL(ρ:Nat→Nat)(os:List Nat)(lv' lv:List (Nat×Nat×Nat×TypeId)):List (Nat×Nat×Nat×TypeId):=lv'.map (fun p=>(ρ p.1,p.2))++lv.filter fun p=>!os.contains p.1
theorem mN {α β:Type}(ρ:Nat→Nat)(F:α→β):∀{l:List (Nat×α)} {k:Nat} {y:β},(l.map fun p=>(ρ p.1,F p.2)).lookup k=some y→∃i a,ρ i=k∧l.lookup i=some a∧F a=y
 |[],_,_,h=>by simp at h
 |(j,a)::l,k,y,h=>by
  by_cases hk:k=ρ j
  ·subst hk
   have:some (F a)=some y:=by rw[←h];exact ai.symm
   exact⟨j,a,rfl,ai,eG this⟩
  ·obtain⟨i,b,h1,h2,h3⟩:=mN ρ F (l:=l) (k:=k) (y:=y) (by rw[←h];exact (au hk).symm)
   exact⟨i,b,h1,(au fun e=>hk (by rw[←h1,e])).trans h2,h3⟩
theorem nG {α:Type}{l2:List (Nat×α)}{k:Nat}{y:α}:∀{l:List (Nat×α)},(l++l2).lookup k=some y→l.lookup k=some y∨l2.lookup k=some y
 |[],h=>.inr h
 |(j,a)::l,h=>by
  by_cases hk:k=j
  ·subst hk
   have:some a=some y:=by rw[←h];exact ai.symm
   exact .inl (by rw[←this];exact ai)
  ·rcases nG (l:=l) (by rw[←h];exact (au hk).symm) with h1|h1
   ·exact .inl ((au hk).trans h1)
   ·exact .inr h1
theorem ja {α:Type}{os:List Nat}{k:Nat}{y:α}:∀{l:List (Nat×α)},(l.filter fun p=>!os.contains p.1).lookup k=some y→k∉os∧l.lookup k=some y
 |[],h=>by simp at h
 |(j,a)::l,h=>by
  by_cases hj:j∈os
  ·rw[List.filter_cons_of_neg (by simpa using hj)] at h
   obtain⟨h1,h2⟩:=ja h
   exact⟨h1,(au fun e=>h1 (by rw[e];exact hj)).trans h2⟩
  ·rw[List.filter_cons_of_pos (by simpa using hj)] at h
   by_cases hk:k=j
   ·subst hk
    exact⟨hj,by rw[←h,ai,ai]⟩
   ·obtain⟨h1,h2⟩:=ja (l:=l) (by rw[←h];exact (au hk).symm)
    exact⟨h1,(au hk).trans h2⟩
def D.okC:D→Bool
 | .ag ds=>ds.all D.pureC
 | .tu _=>false
 | .opt _ _=>false
 |_=>true
def D.okF:D→Bool
 | .ag ds=>ds.all D.okC
 | .tu ds=>ds.all D.okC
 |d=>d.okC
section
variable {hp bF:Hp} {g g2:Gh} {w:World} {ρ:Nat→Nat}
theorem Au {d:D}{v:Value}(h:aM hp g w d v)(hn:d.okC=true)(qH:∀i,i<hp.next→ρ i<bF.next)(hμ:∀i,i<hp.next→g2.μ (ρ i)=g.μ i)(hτ:∀i,i<hp.next→g2.τ (ρ i)=g.τ i)(hF:g2.F=g.F)
  (hl:∀id,id<hp.next→∀y,bF.live.lookup (ρ id)=some y→hp.live.lookup id=some y):aM bF g2 w (d.renC ρ) v:=by
 cases h with
 |e y v h=>exact .e y v (by rw[hF];exact h)
 |own id z n xs v h hid ht=>exact .own _ z n xs v (by rw[hF];exact h) (qH id hid) (fun m e hm=>by rw[hτ id hid];exact ht m e (hl id hid _ hm))
 |fu z n xs A h=>exact .fu z n xs A (by rw[hF];exact h)
 |ag ds cs hlen h1 hr=>
  refine .ag ds cs hlen h1 fun j d u h2 h3=>?_
  have h4:=hr j d u h2 h3
  have h5:=b7.1 hn d (bO h2)
  cases d with
  |e y=>cases h4 with
   |e _ _ h6=>exact .e y _ (by rw[hF];exact h6)
  |_=>cases h5
 |tu ds cs hl hr=>cases hn
 |fp xs off ad hb hc=>exact .fp xs off ad hb (by rw[hF];exact hc)
 |pt k off hk=>rw[←hμ k hk];exact .pt _ off (qH k hk)
 |ow k off z n c hk h1 h2=>rw[←hμ k hk];exact .ow _ off z n c (qH k hk) h1 h2
 |gw k z n c hk h1 h2 hs=>rw[←hμ k hk] at hs ⊢;exact .gw _ z n c (qH k hk) h1 h2 hs
 |fn f ks hk=>
  have:(ks.map fun k=>Value.pointer (some ⟨g.μ k,0,none⟩))=(ks.map ρ).map fun k=>Value.pointer (some ⟨g2.μ k,0,none⟩):=by
   rw[ol]
   exact oE fun k h=>by simp only[Function.comp,hμ k (hk k h)]
  rw[this]
  refine .fn f (ks.map ρ) fun k h=>?_
  obtain⟨i,h1,rfl⟩:=mm.1 h
  exact qH i (hk i h1)
 |opt b d v hi h=>cases hn
 |top v=>exact .top v
theorem fwdF {d:D}{v:Value}(h:aM hp g w d v)(hn:d.okF=true)(qH:∀i,i<hp.next→ρ i<bF.next)(hμ:∀i,i<hp.next→g2.μ (ρ i)=g.μ i)(hτ:∀i,i<hp.next→g2.τ (ρ i)=g.τ i)(hF:g2.F=g.F)
  (hl:∀id,id<hp.next→∀y,bF.live.lookup (ρ id)=some y→hp.live.lookup id=some y):aM bF g2 w (d.ren ρ) v:=by
 cases d with
 |ag ds=>cases h with
  |ag _ cs hlen h1 hr=>
   refine .ag _ cs (by simpa using hlen) h1 fun j d u h2 h3=>?_
   rw[cF] at h2
   obtain⟨d0,h4,rfl⟩:=nT.1 h2
   exact Au (hr j d0 u h4 h3) (b7.1 hn d0 (bO h4)) qH hμ hτ hF hl
 |tu ds=>cases h with
  |tu _ cs hlen hr=>
   refine .tu _ cs (by simpa using hlen) fun j d u h2 h3=>?_
   rw[cF] at h2
   obtain⟨d0,h4,rfl⟩:=nT.1 h2
   exact Au (hr j d0 u h4 h3) (b7.1 hn d0 (bO h4)) qH hμ hτ hF hl
 |e y=>exact Au h hn qH hμ hτ hF hl
 |own id z n xs=>exact Au h hn qH hμ hτ hF hl
 |fu z n xs=>exact Au h hn qH hμ hτ hF hl
 |fp xs off=>exact Au h hn qH hμ hτ hF hl
 |pt k off=>exact Au h hn qH hμ hτ hF hl
 |ow k off z n=>exact Au h hn qH hμ hτ hF hl
 |gw k z n=>exact Au h hn qH hμ hτ hF hl
 |fn f ks=>exact Au h hn qH hμ hτ hF hl
 |opt b d=>cases hn
 |top=>exact .top v
end
theorem HR.ren {B:Nat}{hp hpS:Hp}{g:Gh}{w:World}(hr:HR B hp g w)(σ:Nat→Nat)(hinj:∀i j,i<hpS.next→j<hpS.next→σ i=σ j→i=j)
  (hv:∀k ds,hpS.vars.lookup k=some ds→k<hpS.next∧(∃nl,hp.vars.lookup (σ k)=some nl∧vt nl (ds.map (D.renC σ)))∧ds.all (D.idsC hpS.next)=true∧ds.all D.noO=true)
  (hl:∀id y,hpS.live.lookup id=some y→id<hpS.next∧hp.live.lookup (σ id)=some y):HR B hpS ⟨fun i=>g.μ (σ i),fun i=>g.τ (σ i),g.F⟩ w:=by
 have eO:∀id y,hpS.live.lookup id=some y→hp.live.lookup (σ id)=some y:=fun id y h=>(hl _ _ h).2
 refine⟨fun k ds hk=>?_,fun k k' ds ds' hk s5 he=>?_,fun id n e hi=>?_,fun id yn t t' b hi wH hb pJ=>?_,hr.base,hr.fits⟩
 ·obtain⟨h1,⟨nl,h2,rJ⟩,h3,h4⟩:=hv _ _ hk
  obtain⟨_,h5,h6,cs,ty,h7,h8,h9⟩:=hr.var _ _ h2
  have h3':∀d∈ds,D.idsC hpS.next d=true:=by simpa using h3
  have h4':∀d∈ds,D.noO d=true:=by simpa using h4
  have Cg:=qK rJ
  refine⟨h1,h5,h6,cs,ty,h7,by rw[bS] at Cg;omega,fun j u hu=>⟨fun h=>(h9 j u hu).1 (by rw[bS] at Cg;omega),fun d hd=>?_⟩⟩
  obtain⟨d0,DU,hle⟩:=sJ rJ (j:=j) (d':=d.renC σ) (by rw[cF,hd];rfl)
  exact iJ (((h9 j u hu).2 d0 DU).leC hle) (h3' d (bO hd)) (h4' d (bO hd)) rfl (fun _=>rfl) (fun _=>rfl) rfl eO
 ·obtain⟨h1,⟨_,h2,_⟩,_⟩:=hv _ _ hk
  obtain⟨sB,⟨_,rJ,_⟩,_⟩:=hv _ _ s5
  exact hinj _ _ h1 sB (hr.inj _ _ _ _ h2 rJ he)
 ·obtain⟨h1,h2⟩:=hl _ _ hi
  obtain⟨_,us,h3,h4,h5⟩:=hr.tok _ n e h2
  exact⟨h1,us,h3,h4,fun b hb=>⟨(h5 b hb).1,fun k ds hk=>by
   obtain⟨_,⟨_,h6,_⟩,_⟩:=hv _ _ hk
   exact (h5 b hb).2 _ _ h6⟩⟩
 ·obtain⟨h1,h2⟩:=hl _ _ hi
  obtain⟨sB,rJ⟩:=hl _ _ wH
  exact hinj _ _ h1 sB (hr.tinj _ _ _ _ b h2 rJ hb pJ)
def frA(σ:Nat→Nat)(m:Nat):List D→List D→Prop
 |[],[]=>True
 |d::ds,e::es=>(d.le (e.ren σ)∧e.idsB m=true∧e.noOs=true)∧frA σ m ds es
 |_,_=>False
theorem JS {σ:Nat→Nat}{m:Nat}:∀{ds es:List D},frA σ m ds es→ds.length=es.length
 |[],[],_=>rfl
 |_::_,_::_,h=>by simp[JS h.2]
 |[],_::_,h=>h.elim
 |_::_,[],h=>h.elim
theorem JT {σ:Nat→Nat}{m:Nat}:∀{ds es:List D} {j:Nat} {e:D},frA σ m ds es→es[j]? =some e→∃d,ds[j]? =some d∧d.le (e.ren σ)∧e.idsB m=true∧e.noOs=true
 |[],[],j,e,_,h=>by simp at h
 |d::ds,e'::es,0,e,h,he=>by
  simp only[Iz,my] at he
  subst he
  exact⟨d,rfl,h.1⟩
 |d::ds,e'::es,j+1,e,h,he=>by
  simp only[IH] at he ⊢
  exact JT h.2 he
 |[],_::_,_,_,h,_=>h.elim
 |_::_,[],_,_,h,_=>h.elim
theorem HC.frame {P:Program}{f:FuncId}{JW ds:List D}{r:D}{EV nj vs:List (Nat×List D)}{EW sE lv:List (Nat×Nat×Nat×TypeId)}{m n' N:Nat}(h:HC P f JW ⟨EV,EW,m⟩ r ⟨nj,sE,n'⟩)
  (os:List Nat) (hos:os.length=m) (vn:os.Nodup) (bz:∀o∈os,o<N) (ha:frA (fun i=>os.getD i 0) m ds JW)
  (hv:∀k ds,EV.lookup k=some ds→k<m∧(∃nl,vs.lookup (os.getD k 0)=some nl∧vt nl (ds.map (D.renC fun i=>os.getD i 0)))∧ds.all (D.idsC m)=true∧ds.all D.noO=true)
  (hl:∀id y,EW.lookup id=some y→id<m∧lv.lookup (os.getD id 0)=some y)
  (hr:r.okF=true) (hvo:∀p∈nj,p.2.all D.okC=true):
  HC P f ds ⟨vs,lv,N⟩ (r.ren (rn os m N)) ⟨frV (rn os m N) os nj vs,frL (rn os m N) os sE lv,N+(n' - m)⟩:=by
 subst hos
 refine⟨h.1,fun B g w us hR hsz cE=>?_⟩
 have B8:∀i,i<os.length→os.getD i 0∈os:=fun i hi=>by
  rw[Eo,eg hi];exact u6 hi
 have hinj:∀i j,i<os.length→j<os.length→os.getD i 0=os.getD j 0→i=j:=fun i j hi hj he=>by
  rw[Eo,Eo,eg hi,eg hj] at he
  have hp:=AX.1 vn
  simp only[wj] at he
  rcases AY i j with h3|h3|h3
  ·exact absurd he (hp _ _ hi hj h3)
  ·exact h3
  ·exact absurd he.symm (hp _ _ hj hi h3)
 have hS:=HR.ren (hpS:=⟨EV,EW,os.length⟩) hR (fun i=>os.getD i 0) (fun i j hi hj he=>hinj i j hi hj he) hv hl
 have eO:∀id y,(⟨EV,EW,os.length⟩:Hp).live.lookup id=some y→(⟨vs,lv,N⟩:Hp).live.lookup (os.getD id 0)=some y:=fun id y h=>(hl _ _ h).2
 refine (h.2 B _ w us hS (by rw[hsz,JS ha]) (fun j e u he hu=>?_)).mono ?_
 ·obtain⟨d,h1,h2,h3,h4⟩:=JT ha he
  exact Dx ((cE j d u h1 hu).le h2) h3 h4 rfl (fun _=>rfl) (fun _=>rfl) rfl eO
 rintro en w' ⟨v,g',rfl,Gj,hM,kS,hB,hF⟩
 -- the caller's ghosts
 let ρ:=rn os os.length N
 have B0:∀i,i<os.length→ρ i=os.getD i 0:=fun i hi=>by show rn os os.length N i=_;unfold rn;simp[hi]
 have DN:∀i,os.length≤i→ρ i=N+(i - os.length):=fun i hi=>by show rn os os.length N i=_;unfold rn;rw[def_];rfl
 have hoN:∀i,i<os.length→os.getD i 0<N:=fun i hi=>bz _ (B8 i hi)
 have hmn:os.length≤n':=hM.next
 have hρn:∀i,i<n'→ρ i<N+(n' - os.length):=fun i hi=>by
  by_cases h1:i<os.length
  ·rw[B0 i h1];have:=hoN i h1;omega
  ·rw[DN i (by omega)];omega
 have hρinj:∀i j,i<n'→j<n'→ρ i=ρ j→i=j:=fun i j hi hj he=>by
  by_cases h1:i<os.length <;> by_cases h2:j<os.length
  ·rw[B0 i h1,B0 j h2] at he;exact hinj i j h1 h2 he
  ·rw[B0 i h1,DN j (by omega)] at he;have:=hoN i h1;omega
  ·rw[B0 j h2,DN i (by omega)] at he;have:=hoN j h2;omega
  ·rw[DN i (by omega),DN j (by omega)] at he;omega
 let g2:Gh:=⟨fun j=>if j<N then g.μ j else g'.μ (os.length+(j - N)),fun j=>if j<N then (if j∈os then g'.τ (os.idxOf j) else g.τ j) else g'.τ (os.length+(j - N)),g'.F⟩
 let bF:Hp:=⟨frV ρ os nj vs,frL ρ os sE lv,N+(n' - os.length)⟩
 have hμ2:∀j,j<N→g2.μ j=g.μ j:=fun j hj=>ao hj
 have hτ2:∀j,j<N→j∉os→g2.τ j=g.τ j:=fun j hj ho=>by
  show (if j<N then _ else _)=_
  rw[ao hj,aq ho]
 have hμρ:∀i,i<n'→g2.μ (ρ i)=g'.μ i:=fun i hi=>by
  by_cases h1:i<os.length
  ·rw[B0 i h1,hμ2 _ (hoN i h1)];exact (hM.μ i h1).symm
  ·rw[DN i (by omega)]
   show (if _ then _ else _)=_
   rw[ifn_,show os.length+(N+(i - os.length) - N)=i by omega]
 have hτρ:∀i,i<n'→g2.τ (ρ i)=g'.τ i:=fun i hi=>by
  by_cases h1:i<os.length
  ·rw[B0 i h1]
   show (if _ then (if _ then _ else _) else _)=_
   rw[ao (hoN i h1),ao (B8 i h1)]
   have:os.idxOf (os.getD i 0)=i:=by
    have h2:os.idxOf (os.getD i 0)<os.length:=List.idxOf_lt_length_of_mem (B8 i h1)
    refine hinj _ _ h2 h1 ?_
    rw[Eo (i:=os.idxOf _),eg h2]
    exact List.getElem_idxOf h2
   rw[this]
  ·rw[DN i (by omega)]
   show (if _ then _ else _)=_
   rw[ifn_,show os.length+(N+(i - os.length) - N)=i by omega]
 have CI:∀k ds,bF.vars.lookup k=some ds→(∃i nl,ρ i=k∧i<n'∧nj.lookup i=some nl∧nl.map (D.renC ρ)=ds)∨(k∉os∧k<N∧vs.lookup k=some ds):=fun k ds hk=>by
  rcases nG hk with h1|h1
  ·obtain⟨i,a,h2,h3,h4⟩:=mN ρ (fun a:List D=>a.map (D.renC ρ)) h1
   exact .inl ⟨i,a,h2,(Gj.var i a h3).1,h3,h4⟩
  ·obtain⟨h2,h3⟩:=ja h1
   exact .inr ⟨h2,(hR.var k ds h3).1,h3⟩
 have CJ:∀k y,bF.live.lookup k=some y→(∃i,ρ i=k∧i<n'∧sE.lookup i=some y)∨(k∉os∧k<N∧lv.lookup k=some y):=fun k y hk=>by
  rcases nG hk with h1|h1
  ·obtain⟨i,a,h2,h3,h4⟩:=mN ρ (fun a:Nat×Nat×TypeId=>a) h1
   subst h4
   exact .inl ⟨i,h2,(Gj.tok i a.1 a.2 h3).1,h3⟩
  ·obtain⟨h2,h3⟩:=ja h1
   exact .inr ⟨h2,(hR.tok k y.1 y.2 h3).1,h3⟩
 have hlρ:∀id,id<n'→∀y,bF.live.lookup (ρ id)=some y→sE.lookup id=some y:=fun id hid y hy=>by
  rcases CJ _ _ hy with⟨i,h1,h2,h3⟩|⟨h1,h2,_⟩
  ·rw[←hρinj i id h2 hid h1];exact h3
  ·exfalso
   by_cases h4:id<os.length
   ·rw[B0 id h4] at h1;exact h1 (B8 id h4)
   ·rw[DN id (by omega)] at h2;omega
 -- blocks of what was not in hand are free for the callee
 have JQ:∀k ds,k∉os→vs.lookup k=some ds→g.μ k<w.heap.size∧I5 ⟨EV,EW,os.length⟩ ⟨fun i=>g.μ (os.getD i 0),fun i=>g.τ (os.getD i 0),g.F⟩ (g.μ k):=fun k ds ho hk=>by
  refine⟨hR.var_lt (k:=k) (ds:=ds) hk,fun i di hi=>?_,fun i t hi=>?_⟩
  ·obtain⟨h1,⟨_,h2,_⟩,_⟩:=hv i di hi
   exact fun e=>ho (by rw[←hR.inj _ _ _ _ h2 hk e];exact B8 i h1)
  ·obtain⟨h1,h2⟩:=hl i t hi
   obtain⟨_,_,_,_,h3⟩:=hR.tok _ t.1 t.2 h2
   exact fun e=>(h3 _ e).2 k ds hk rfl
 have JR:∀k t b,k∉os→lv.lookup k=some t→(g.τ k).ownBlock=some b→b<w.heap.size∧I5 ⟨EV,EW,os.length⟩ ⟨fun i=>g.μ (os.getD i 0),fun i=>g.τ (os.getD i 0),g.F⟩ b:=fun k t b ho hk hb=>by
  obtain⟨_,_,_,h1,h2⟩:=hR.tok k t.1 t.2 hk
  refine⟨(h1.lt b hb).2,fun i di hi=>?_,fun i t' hi=>?_⟩
  ·obtain⟨h1,⟨_,h3,_⟩,_⟩:=hv i di hi
   exact (h2 b hb).2 _ _ h3
  ·obtain⟨h1,h3⟩:=hl i t' hi
   exact fun e=>ho (by rw[←hR.tinj _ _ _ _ b h3 hk e hb];exact B8 i h1)
 have mo:bB ⟨vs,lv,N⟩ g w bF g2 w':=by
  refine⟨hM.size,hM.cell,hM.forb,nU _ _,fun k hk=>hμ2 k hk,fun id hid n e hy=>?_,fun b hb hf=>?_,hM.szs⟩
  ·rcases CJ _ _ hy with⟨i,h1,h2,h3⟩|⟨h1,h2,h3⟩
   ·by_cases h4:i<os.length
    ·obtain⟨m0,h5,h6,h7⟩:=hM.live i h4 n e h3
     refine⟨m0,?_,h6,fun h=>?_⟩
     ·rw[←h1,B0 i h4];exact eO i _ h5
     ·rw[←h1,hτρ i h2,h7 h,B0 i h4]
    ·rw[←h1,DN i (by omega)] at hid
     have hid:N+(i - os.length)<N:=hid
     omega
   ·exact⟨n,h3,aI _,fun _=>hτ2 id h2 h1⟩
  ·obtain⟨h1,h2,h3⟩:=hM.fr b hb ⟨fun k ds hk=>by
    obtain⟨_,⟨_,h5,_⟩,_⟩:=hv k ds hk
    exact hf.1 _ _ h5,fun id t hi=>hf.2 _ _ (eO id t hi)⟩
   refine⟨h1,h2,fun k ds hk=>?_,fun id t hi=>?_⟩
   ·rcases CI _ _ hk with⟨i,_,rfl,h5,h6,_⟩|⟨_,h5,h6⟩
    ·rw[hμρ i h5];exact h3.1 _ _ h6
    ·rw[hμ2 k h5];exact hf.1 _ _ h6
   ·rcases CJ _ _ hi with⟨i,rfl,h5,h6⟩|⟨h4,h5,h6⟩
    ·rw[hτρ i h5];exact h3.2 _ _ h6
    ·rw[hτ2 id h5 h4];exact hf.2 _ _ h6
 have fw:∀{d:D} {u:Value},d.okC=true→aM ⟨nj,sE,n'⟩ g' w' d u→aM bF g2 w' (d.renC ρ) u:=fun hd h=>Au h hd hρn hμρ hτρ rfl hlρ
 refine⟨v,g2,rfl,⟨fun k ds hk=>?_,fun k k' ds ds' hk s5 he=>?_,fun id n e hi=>?_,fun id yn t t' b hi wH hb pJ=>?_,Gj.base,Gj.fits⟩,mo,fwdF kS hr hρn hμρ hτρ rfl hlρ,hB,hF⟩
 ·rcases CI _ _ hk with⟨i,nl,rfl,h1,h2,rfl⟩|⟨h1,h2,h3⟩
  ·obtain⟨_,h4,h5,cs,ty,h6,h7,h8⟩:=Gj.var i nl h2
   rw[hμρ i h1]
   refine⟨hρn i h1,h4,h5,cs,ty,h6,by simpa using h7,fun j u hu=>⟨fun h=>(h8 j u hu).1 (by simpa using h),fun d hd=>?_⟩⟩
   rw[cF] at hd
   obtain⟨d0,DU,rfl⟩:=nT.1 hd
   exact fw (b7.1 (hvo _ (cf h2)) d0 (bO DU)) ((h8 j u hu).2 d0 DU)
  ·obtain⟨h4,h5⟩:=JQ k ds h1 h3
   obtain⟨h6,h7,_⟩:=hM.fr _ h4 h5
   obtain⟨_,h8,h9,cs,ty,Cg,Ld,h12⟩:=hR.var k ds h3
   rw[hμ2 k h2]
   exact⟨bG h2 (nU _ _),h8,fun p hp=>h7 p hp (h9 p hp),cs,ty,h6.trans Cg,Ld,fun j u hu=>⟨(h12 j u hu).1,fun d hd=>((h12 j u hu).2 d hd).mono mo⟩⟩
 ·rcases CI _ _ hk with⟨i,nl,rfl,h1,h2,_⟩|⟨h1,h2,h3⟩ <;> rcases CI _ _ s5 with⟨i',ds0',rfl,sB,rJ,_⟩|⟨sB,rJ,h3'⟩
  ·rw[hμρ i h1,hμρ i' sB] at he
   rw[Gj.inj _ _ _ _ h2 rJ he]
  ·rw[hμρ i h1,hμ2 _ rJ] at he
   obtain⟨h4,h5⟩:=JQ _ _ sB h3'
   exact absurd he ((hM.fr _ h4 h5).2.2.1 _ _ h2)
  ·rw[hμρ i' sB,hμ2 _ h2] at he
   obtain⟨h4,h5⟩:=JQ _ _ h1 h3
   exact absurd he.symm ((hM.fr _ h4 h5).2.2.1 _ _ rJ)
  ·rw[hμ2 _ h2,hμ2 _ rJ] at he
   exact hR.inj _ _ _ _ h3 h3' he
 ·rcases CJ _ _ hi with⟨i,rfl,h1,h2⟩|⟨h1,h2,h3⟩
  ·obtain⟨_,sI,h4,h5,h6⟩:=Gj.tok i n e h2
   rw[hτρ i h1]
   refine⟨hρn i h1,sI,h4,h5,fun b hb=>⟨(h6 b hb).1,fun k ds hk=>?_⟩⟩
   rcases CI _ _ hk with⟨i',_,rfl,h7,h8,_⟩|⟨h7,h8,h9⟩
   ·rw[hμρ i' h7];exact (h6 b hb).2 _ _ h8
   ·rw[hμ2 k h8]
    obtain⟨Cg,Ld⟩:=JQ _ _ h7 h9
    intro e
    exact (hM.fr _ Cg Ld).2.2.2 _ _ h2 (by rw[e];exact hb)
  ·obtain⟨_,sI,h4,h5,h6⟩:=hR.tok id n e h3
   rw[hτ2 id h2 h1]
   refine⟨bG h2 (nU _ _),sI,h4,⟨h5.1,?_⟩,fun b hb=>?_⟩
   ·rcases h5.2 with h0|⟨b,cap,cur,tO,hB',hh,r⟩
    ·exact .inl h0
    ·obtain⟨Cg,Ld⟩:=JR id _ b h1 h3 (by rw[tO];rfl)
     exact .inr ⟨b,cap,cur,tO,hB',(hM.fr _ Cg Ld).1.trans hh,r⟩
   ·obtain⟨Cg,Ld⟩:=JR id _ b h1 h3 hb
    obtain⟨h12,h13,h14⟩:=hM.fr _ Cg Ld
    refine⟨fun p h7 h8=>h13 p h7 ((h6 b hb).1 p h7 h8),fun k ds hk=>?_⟩
    rcases CI _ _ hk with⟨i',_,rfl,h7,h8,_⟩|⟨h7,h8,h9⟩
    ·rw[hμρ i' h7];exact h14.1 _ _ h8
    ·rw[hμ2 k h8];exact (h6 b hb).2 _ _ h9
 ·rcases CJ _ _ hi with⟨i,rfl,h1,h2⟩|⟨h1,h2,h3⟩ <;> rcases CJ _ _ wH with⟨i',rfl,sB,rJ⟩|⟨sB,rJ,h3'⟩
  ·rw[hτρ i h1] at hb
   rw[hτρ i' sB] at pJ
   rw[Gj.tinj _ _ _ _ b h2 rJ hb pJ]
  ·rw[hτρ i h1] at hb
   rw[hτ2 _ rJ sB] at pJ
   obtain⟨Cg,Ld⟩:=JR _ _ b sB h3' pJ
   exact absurd hb ((hM.fr _ Cg Ld).2.2.2 _ _ h2)
  ·rw[hτρ i' sB] at pJ
   rw[hτ2 _ h2 h1] at hb
   obtain⟨Cg,Ld⟩:=JR _ _ b h1 h3 hb
   exact absurd pJ ((hM.fr _ Cg Ld).2.2.2 _ _ rJ)
  ·rw[hτ2 _ h2 h1] at hb
   rw[hτ2 _ rJ sB] at pJ
   exact hR.tinj _ _ _ _ b h3 h3' hb pJ
end
section
section
variable {P:Program} {tb:TypeId→Option TyE} {dr:Bool} {ty:TypeId} {ev:Operand→D} {σ:Nat→Nat} {d e:D} {ds es:List D}
theorem fA {m:Nat}(h:d.le (e.ren σ))(hr:frA σ m ds es)(h3:e.idsB m=true:=by exact rfl)(h4:e.noOs=true:=by exact rfl):frA σ m (d::ds) (e::es):=⟨⟨h,h3,h4⟩,hr⟩
theorem fAG {α:Type}{c:Cd α}{a:α}{m:Nat}(h:d.le (dG c a))(hr:frA σ m ds es):frA σ m (d::ds) (dG c a::es):=⟨⟨le_G h,ids_G _ _ _,noO_G _ _⟩,hr⟩
theorem fAn {m:Nat}:frA σ m [] []:=trivial
theorem HC.fr {f:FuncId}{JW:List D}{r r':D}{EV nj vs sD:List (Nat×List D)}{EW sE lv BF:List (Nat×Nat×Nat×TypeId)}{m n' N N2:Nat}(os:List Nat)(hc:HC P f JW ⟨EV,EW,m⟩ r ⟨nj,sE,n'⟩)
  (ha:frA (fun i=>os.getD i 0) m ds JW) (hv:wkV (fun i=>os.getD i 0) m vs EV) (hl:wkL (fun i=>os.getD i 0) m lv EW) (hos:os.length=m) (vn:os.Nodup) (bz:(os.all fun o=>Nat.ble (o+1) N)=true)
  (hr:r.okF=true) (hvo:(nj.all fun p=>p.2.all D.okC)=true) (oo:r.ren (rn os m N)=r') (tN:frV (rn os m N) os nj vs=sD) (Ny:frL (rn os m N) os sE lv=BF) (hN:N+(n' - m)=N2):
  HC P f ds ⟨vs,lv,N⟩ r' ⟨sD,BF,N2⟩:=by
 subst oo tN Ny hN
 exact HC.frame hc os hos vn (fun o ho=>ltb (b7.1 bz o ho)) ha (fun k ds hk=>ru hv _ (cf hk)) (fun id y hy=>tG hl _ (cf hy)) hr (fun p hp=>b7.1 hvo p hp)
theorem Kf {x:Operand}{f:FuncId}{aS:List Operand}{ts:Array TypeId}{JW:List D}{r r':D}{EV nj vs sD:List (Nat×List D)}{EW sE lv BF:List (Nat×Nat×Nat×TypeId)}{m n' N N2:Nat}(os:List Nat)
  (uS:ev x=.e (.lit (.func (.func f) #[] #[]))) (hc:HC P f JW ⟨EV,EW,m⟩ r ⟨nj,sE,n'⟩) (ha:frA (fun i=>os.getD i 0) m (aS.map ev) JW) (hv:wkV (fun i=>os.getD i 0) m vs EV) (hl:wkL (fun i=>os.getD i 0) m lv EW)
  (hos:os.length=m:=by exact rfl) (vn:os.Nodup:=by decide) (bz:(os.all fun o=>Nat.ble (o+1) N)=true:=by exact rfl) (hr:r.okF=true:=by exact rfl) (hvo:(nj.all fun p=>p.2.all D.okC)=true:=by exact rfl)
  (oo:r.ren (rn os m N)=r':=by exact rfl) (tN:frV (rn os m N) os nj vs=sD:=by exact rfl) (Ny:frL (rn os m N) os sE lv=BF:=by exact rfl) (hN:N+(n' - m)=N2:=by exact rfl)
  (hh:hvB tb ⟨.value x,aS.toArray,ts⟩=true:=by kernel_rfl):AVC P tb dr (.call ⟨.value x,aS.toArray,ts⟩) ty ev ⟨vs,lv,N⟩ (Kq r' ⟨sD,BF,N2⟩):=
 Kg uS (HC.fr os hc ha hv hl hos vn bz hr hvo oo tN Ny hN) rfl hh
end
end
end
end Go.Proofs.YtgfcnncojhkcoaaGreat
