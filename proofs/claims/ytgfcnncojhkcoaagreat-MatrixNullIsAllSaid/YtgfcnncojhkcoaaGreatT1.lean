/-
  Lemmas, part 1. Conditions: none.
-/
import Derived.Test.YtgfcnncojhkcoaaGreatT0
import Derived.OrdersHeld
import Derived.Laws.StructEq
import Derived.Scope
import Derived.LoopN
import Derived.Lib.AppendZerosOnto
set_option linter.all false
set_option maxRecDepth 100000
namespace Go.Proofs.YtgfcnncojhkcoaaGreat
open Go.RowKit Go.IntKind
noncomputable section
section
structure Cx where
 B:Nat
 w0:World
 F0:Addr→Prop
 N:Nat
 hp0:Hp
 g0:Gh
 df:List Deferred
def RS(x:Cx)(tm:List (Nat×D))(hp:Hp)(a:Act)(w:World):Prop:=
 ∃g,HR x.B hp g w∧(∀t d,tm.lookup t=some d→aF hp g w d (a.tmps.getD t undef))∧a.tmps.size=x.N∧a.defers=x.df∧Below x.B x.w0 w∧(∀p:Addr,p.block<x.B→x.F0 p→g.F p)∧bu x.hp0 x.g0 x.w0 hp g w
section
variable {P:Program} {tb:TypeId→Option TyE} {x:Cx} {tm tm':List (Nat×D)} {hp hp':Hp} {a:Act} {w w':World}
theorem Du(g:Gh)(v:Value):aF hp g w (H2 v) v:=by
 unfold H2
 split
 ·rename_i cs
  split
  ·rename_i h1
   have:=(eM.lits (hp:=hp) (g:=g) (w:=w) cs.toList h1).ag
   simpa using this
  ·exact .top _
 ·exact .top _
 ·rename_i h1 h2
  refine .e _ _ (.lit v ?_)
  cases v <;> first|rfl|exact absurd rfl (h1 _)|exact absurd rfl (h2 _)
theorem rC {g:Gh}(h:∀t d,tm.lookup t=some d→aF hp g w d (a.tmps.getD t undef))(o:Operand):aF hp g w (evD tm o) (a.eval o):=by
 cases o with
 |tmp t=>
  show aF hp g w ((tm.lookup t).getD .top) _
  cases hl:tm.lookup t with
  |none=>exact .top _
  |some d=>exact h t d hl
 |const v=>exact Du g v
 |global g'=>exact .top _
 |func f=>exact .e _ _ (.lit _ rfl)
theorem pp(a:Act)(dst:Option Tmp)(v:Value):(a.put dst v).tmps.size=a.tmps.size:=by cases dst <;> simp[Act.put]
theorem lD(a:Act)(dst:Option Tmp)(v:Value):(a.put dst v).defers=a.defers:=by cases dst <;> rfl
theorem uE {a:Act}{t:Tmp}{v:Value}(h:t<a.tmps.size):(a.put (some t) v).tmps.getD t undef=v:=by
 simp[Act.put,h]
theorem Fx {a:Act}{dst:Option Tmp}{t:Tmp}{v:Value}(h:dst≠some t):(a.put dst v).tmps.getD t undef=a.tmps.getD t undef:=by
 cases dst with
 |none=>rfl
 |some s=>
  have:s≠t:=fun e=>h (by rw[e])
  simp[Act.put,e7,DT this]
theorem xQ {g:Gh}{dst:Option Tmp}{d:D}{v:Value}(h:∀t d,tm.lookup t=some d→aF hp g w d (a.tmps.getD t undef))(hd:aF hp g w d v)(hN:∀t,dst=some t→t<a.tmps.size):
  ∀t d',(xR dst d tm).lookup t=some d'→aF hp g w d' ((a.put dst v).tmps.getD t undef):=by
 intro t d' hl
 cases dst with
 |none=>exact h t d' hl
 |some s=>
  by_cases zY:t=s
  ·subst zY
   have:some d=some d':=by rw[←hl];exact ah.symm
   injection this with this
   subst this
   rw[uE (hN t rfl)]
   exact hd
  ·rw[Fx (fun e=>zY (by injection e with e;exact e.symm))]
   exact h t d' (by rw[←hl];exact (al zY).symm)
def Gd(ops:Array Oper)(o:Oper)(tm:List (Nat×D))(b:Bool):Prop:=
 match o.guard with
 |none=>b=true
 |some (j,want)=>(∃t c,(ops[j]?).bind (·.dst)=some t∧tm.lookup t=some (.e (.lit (.bool c)))∧(c == want)=b)∨∃t,(ops[j]?).bind (·.dst)=some t∧tm.lookup t=some (.tu [])∧b=false
theorem Gd.wanted {ops:Array Oper}{o:Oper}{b:Bool}{g:Gh}(h:Gd ops o tm b)(hr:∀t d,tm.lookup t=some d→aF hp g w d (a.tmps.getD t undef)):Region.wanted o (yielded ops a.tmps)=b:=by
 unfold Gd at h
 unfold Region.wanted
 split at h
 ·rename_i hg
  rw[hg,h]
 ·rename_i j want hg
  rw[hg]
  dsimp only
  rcases h with⟨t,c,h1,h2,h3⟩|⟨t,h1,h2,rfl⟩
  rotate_left
  ·have hv:=hr t _ h2
   have hy:yielded ops a.tmps j=none:=by
    unfold yielded
    rw[h1]
    simp only[DS]
    cases ht:a.tmps[t]? with
    |none=>rfl
    |some u=>
     have hu:a.tmps.getD t undef=u:=by simp[e7,ht]
     rw[hu] at hv
     cases hv with
     |tu _ cs hl hr=>rfl
   rw[hy];rfl
  have hv:=(hr t _ h2).lit
  have hy:yielded ops a.tmps j=some c:=by
   unfold yielded
   rw[h1]
   simp only[DS]
   cases ht:a.tmps[t]? with
   |none=>simp[e7,ht,undef] at hv
   |some u=>
    have:u=.bool c:=by simpa[e7,ht] using hv
    rw[this]
  rw[hy,←h3]
  rfl
def Offs(o:Oper)(ev:Operand→D)(d:D):Prop:=∀(hp:Hp) (g:Gh) (w:World) (a:Act),(∀x∈o.op.operands,aF hp g w (ev x) (a.eval x))→aF hp g w d undef
def WkS(tm:List (Nat×D))(hp:Hp)(tm':List (Nat×D))(hp':Hp):Prop:=∀(B:Nat) (g:Gh) (w:World) (ρ:Nat→Value),HR B hp g w→(∀t d,tm.lookup t=some d→aF hp g w d (ρ t))→
 ∃g',HR B hp' g' w∧bu hp g w hp' g' w∧(∀t d,tm'.lookup t=some d→aF hp' g' w d (ρ t))∧∀p:Addr,p.block<B→g.F p→g'.F p
theorem WkS.rs(h:WkS tm hp tm' hp')(hr:RS x tm hp a w):RS x tm' hp' a w:=by
 obtain⟨g,hr,fh,hsz,pg,hB,hF,hM⟩:=hr
 obtain⟨g',h1,h2,h3,h4⟩:=h x.B g w (fun t=>a.tmps.getD t undef) hr fh
 exact⟨g',h1,h3,hsz,pg,hB,fun p hp hq=>h4 p hp (hF p hp hq),hM.trans h2⟩
inductive aQ (P:Program) (tb:TypeId→Option TyE) (md:Md) (ops:Array Oper) (K:List (Nat×D)→Hp→Prop):List Oper→List (Nat×D)→Hp→Prop
 |nil {tm:List (Nat×D)} {hp:Hp} (h:K tm hp):aQ P tb md ops K [] tm hp
 |on {o:Oper} {os:List Oper} {tm:List (Nat×D)} {hp:Hp} (d:D) (hp':Hp) (hg:Gd ops o tm true) (hs:mz P tb md o (evD tm) hp d hp') (h:aQ P tb md ops K os (xR o.dst d tm) hp'):aQ P tb md ops K (o::os) tm hp
 |off {o:Oper} {os:List Oper} {tm:List (Nat×D)} {hp:Hp} (d:D) (hg:Gd ops o tm false) (hs:Offs o (evD tm) d) (h:aQ P tb md ops K os (xR o.dst d tm) hp):aQ P tb md ops K (o::os) tm hp
 |sq (hmd:md=.seq) {o:Oper} {os:List Oper} {tm:List (Nat×D)} {hp:Hp} (d:D) (hp':Hp) (hg:Gd ops o tm true) (hs:oA P o (evD tm) hp d hp') (h:aQ P tb md ops K os (xR o.dst d tm) hp'):aQ P tb md ops K (o::os) tm hp
 |wk (hmd:md=.seq) {os:List Oper} {tm tm':List (Nat×D)} {hp hp':Hp} (hw:WkS tm hp tm' hp') (h:aQ P tb md ops K os tm' hp'):aQ P tb md ops K os tm hp
def gr(N:Nat)(ops:Array Oper):Bool:=ops.all fun o=>match o.dst with
 |some t=>decide (t<N)
 |none=>true
theorem j4 {N:Nat}{ops:Array Oper}(h:gr N ops=true){i:Nat}{o:Oper}(hi:ops[i]? =some o){t:Tmp}(ht:o.dst=some t):t<N:=by
 unfold gr at h
 rw[Uo] at h
 have:=h o (Array.mem_of_getElem? hi)
 rw[ht] at this
 simpa using this
theorem RS.op {o:Oper}{d:D}{Kn:Act→World→Prop}{Q:Exit→Act→World→Prop}(h:RS x tm hp a w)(hs:oA P o (evD tm) hp d hp')(hN:∀t,o.dst=some t→t<x.N)
  (hk:∀a' w',RS x (xR o.dst d tm) hp' a' w'→Kn a' w'):o.wp P a w Kn Q:=by
 obtain⟨g,hr,fh,hsz,pg,hB,hF,hM⟩:=h
 refine hs x.B g w a Kn Q hr (fun y _=>rC fh y) (fun v g' w' om mo hd hb hF'=>hk _ _ ⟨g',om,xQ (fun t d ht=>(fh t d ht).mono mo) hd (fun t ht=>by rw[hsz];exact hN t ht),by rw[pp,hsz],by rw[lD,pg],hB.trans hb,fun p h1 h2=>hF' p h1 (hF p h1 h2),hM.trans mo⟩)
theorem RS.skip {o:Oper}{d:D}(h:RS x tm hp a w)(hs:Offs o (evD tm) d)(hN:∀t,o.dst=some t→t<x.N):RS x (xR o.dst d tm) hp (a.put o.dst undef) w:=by
 obtain⟨g,hr,fh,hsz,pg,hB,hF,hM⟩:=h
 exact⟨g,hr,xQ fh (hs hp g w a fun y _=>rC fh y) (fun t ht=>by rw[hsz];exact hN t ht),by rw[pp,hsz],by rw[lD,pg],hB,hF,hM⟩
theorem Q9 {ops:Array Oper}{K:List (Nat×D)→Hp→Prop}{Q:Exit→Act→World→Prop}(hN:gr x.N ops=true)(hk:∀tm hp a w,K tm hp→RS x tm hp a w→Q .normal a w)
  (rest:List Oper) (i:Nat) (tm:List (Nat×D)) (hp:Hp) (a:Act) (w:World) (hd:ops.toList.drop i=rest) (h:aQ P tb .seq ops K rest tm hp) (hr:RS x tm hp a w):wpOps P ops Q (List.range' i rest.length) a w:=by
 have step:∀{o:Oper} {os:List Oper} {i:Nat},ops.toList.drop i=o::os→ops[i]? =some o∧ops.toList.drop (i+1)=os:=by
  intro o os i hd
  refine⟨?_,by rw[←j7,hd];rfl⟩
  have:(ops.toList.drop i)[0]? =some o:=by rw[hd];rfl
  rw[nt] at this
  simpa using this
 induction h generalizing i a w with
 |nil h=>exact hk _ _ _ _ h hr
 |on d hp' hg h2 h1 ih=>
  obtain⟨ho,AY⟩:=step hd
  have wU:=fun t ht=>j4 hN ho (t:=t) ht
  simp only[lc,tP]
  rw[wpOps_cons]
  unfold wpOp
  rw[ho]
  dsimp only
  obtain⟨g,_,fh,_⟩:=id hr
  rw[hg.wanted fh,an rfl]
  exact .inl (hr.op h2.ok wU fun a' w' om=>ih (i+1) a' w' AY om)
 |off d hg hs h1 ih=>
  obtain⟨ho,AY⟩:=step hd
  have wU:=fun t ht=>j4 hN ho (t:=t) ht
  simp only[lc,tP]
  rw[wpOps_cons]
  unfold wpOp
  rw[ho]
  dsimp only
  obtain⟨g,_,fh,_⟩:=id hr
  rw[hg.wanted fh,az (by simp)]
  exact ih (i+1) _ _ AY (hr.skip hs wU)
 |sq _ d hp' hg h2 h1 ih=>
  obtain⟨ho,AY⟩:=step hd
  have wU:=fun t ht=>j4 hN ho (t:=t) ht
  simp only[lc,tP]
  rw[wpOps_cons]
  unfold wpOp
  rw[ho]
  dsimp only
  obtain⟨g,_,fh,_⟩:=id hr
  rw[hg.wanted fh,an rfl]
  exact .inl (hr.op h2 wU fun a' w' om=>ih (i+1) a' w' AY om)
 |wk _ hw h ih=>exact ih i a w hd (hw.rs hr)
def AW(P:Program)(x:Cx)(c:Code)(tm:List (Nat×D))(hp:Hp)(Q:Exit→List (Nat×D)→Hp→Prop):Prop:=
 ∀a w,RS x tm hp a w→c.wp P (fun ex a' w'=>∃tm' hp',RS x tm' hp' a' w'∧Q ex tm' hp') a w
variable {Q:Exit→List (Nat×D)→Hp→Prop}
theorem AW.mono {c:Code}{Q':Exit→List (Nat×D)→Hp→Prop}(h:AW P x c tm hp Q)(hq:∀ex tm hp,Q ex tm hp→Q' ex tm hp):AW P x c tm hp Q':=
 fun a w hr=>wp_mono (h a w hr) fun ex _ _ ⟨tm',hp',h1,h2⟩=>⟨tm',hp',h1,hq ex _ _ h2⟩
theorem AW.regionS {id:Nat}{ops:Array Oper}(hN:gr x.N ops=true)(h:∀K:List (Nat×D)→Hp→Prop,(∀tm hp,Q .normal tm hp→K tm hp)→aQ P tb .seq ops K ops.toList tm hp):AW P x (.region id ops false) tm hp Q:=by
 intro a w hr
 refine wp_region ?_
 have:=Q9 (Q:=fun ex a' w'=>∃tm' hp',RS x tm' hp' a' w'∧Q ex tm' hp') hN (fun tm hp a w hk hr=>⟨tm,hp,hr,hk⟩) ops.toList 0 tm hp a w rfl (h _ fun _ _ h=>h) hr
 rwa[dY,←Ao] at this
theorem AW.seq {c c':Code}(h:AW P x c tm hp fun ex tm' hp'=>match ex with| .normal=>AW P x c' tm' hp' Q|ex=>Q ex tm' hp'):AW P x (.seq c c') tm hp Q:=by
 intro a w hr
 refine wp_seq (wp_mono (h a w hr) ?_)
 rintro ex a' w' ⟨tm',hp',h1,h2⟩
 cases ex with
 |normal=>exact h2 a' w' h1
 |_=>exact⟨tm',hp',h1,h2⟩
theorem AW.cond {c:Operand}{c1 c2:Code}{b:Bool}(hc:evD tm c=.e (.lit (.bool b)))(h:AW P x (match b with|true=>c1|false=>c2) tm hp Q):AW P x (.cond c c1 c2) tm hp Q:=by
 intro a w hr
 obtain⟨g,_,fh,_⟩:=id hr
 have hv:=rC fh c
 rw[hc] at hv
 refine wp_cond (t:=b) hv.lit ?_
 have:=h a w hr
 cases b <;> exact this
theorem AW.block {id:Nat}{c:Code}(h:AW P x c tm hp fun ex tm' hp'=>match ex with| .exit sr=>(if sr=id then Q .normal tm' hp' else Q (.exit sr) tm' hp')|ex=>Q ex tm' hp'):AW P x (.block id c) tm hp Q:=by
 intro a w hr
 refine wp_block (wp_mono (h a w hr) ?_)
 rintro ex a' w' ⟨tm',hp',h1,h2⟩
 cases ex with
 |exit sr=>
  unfold Exit.inBlock
  dsimp only at h2 ⊢
  split
  ·rename_i he
   rw[an he] at h2
   exact⟨tm',hp',h1,h2⟩
  ·rename_i he
   rw[az he] at h2
   exact⟨tm',hp',h1,h2⟩
 |_=>exact⟨tm',hp',h1,h2⟩
theorem AW.exit {id:Nat}(h:Q (.exit id) tm hp):AW P x (.exit id) tm hp Q:=fun _ _ hr=>wp_exit ⟨tm,hp,hr,h⟩
theorem AW.ret(h:Q .ret tm hp):AW P x .ret tm hp Q:=fun _ _ hr=>wp_ret ⟨tm,hp,hr,h⟩
theorem AW.skip(h:Q .normal tm hp):AW P x .skip tm hp Q:=fun _ _ hr=>wp_skip ⟨tm,hp,hr,h⟩
theorem pd {Q:Exit→Act→World→Prop}{c:Code}(I:Nat→Act→World→Prop){n:Nat}(h₀:I n a w)
  (round:∀n a w,I n a w→c.wp P (Exit.then (fun a' w'=>∃m,m<n∧I m a' w') Q) a w):(Code.loop c).wp P Q a w:=by
 intro b k cs
 have key:∀n a w,I n a w→∃e a' w',Q e a' w'∧Arrives P (lone (b.at a (.code c::.inLoop c::k)) cs w) b k cs e a' w':=by
  intro n
  induction n using Nat.strongRecOn with
  |_ n ih=>
   intro a w hI
   obtain⟨e,a₁,w₁,hq,Ke⟩:=round n a w hI b (.inLoop c::k) cs
   cases e with
   |normal=>
    obtain⟨m,bh,hI₁⟩:=hq
    obtain⟨e₂,a₂,w₂,hq₂,harr₂⟩:=ih m bh a₁ w₁ hI₁
    exact⟨e₂,a₂,w₂,hq₂,.of_steps (Steps.trans Ke (.one step_inLoop)) harr₂⟩
   |exit id=>exact⟨_,a₁,w₁,hq,.pass (x:=.inLoop c) rfl (fun _ _=>.inl (by simp)) Ke⟩
   |goto l=>exact⟨_,a₁,w₁,hq,.pass (x:=.inLoop c) rfl (fun _ _=>.inl (by simp)) Ke⟩
   |ret=>exact⟨_,a₁,w₁,hq,.pass (x:=.inLoop c) rfl (fun _ _=>.inl (by simp)) Ke⟩
   |panic ch=>exact⟨_,a₁,w₁,hq,.pass (x:=.inLoop c) rfl (fun _ _=>.inl (by simp)) Ke⟩
   |outgrown=>exact⟨_,a₁,w₁,hq,.pass (x:=.inLoop c) rfl (fun _ _=>.inl (by simp)) Ke⟩
 obtain⟨e,a',w',hq,Ke⟩:=key n a w h₀
 exact⟨e,a',w',hq,.of_steps (.one step_loop) Ke⟩
def Wk(x:Cx)(tm:List (Nat×D))(hp:Hp)(tm':List (Nat×D))(hp':Hp):Prop:=∀a w,RS x tm hp a w→RS x tm' hp' a w
theorem AW.weak {c:Code}(hw:Wk x tm hp tm' hp')(h:AW P x c tm' hp' Q):AW P x c tm hp Q:=fun a w hr=>h a w (hw a w hr)
theorem AW.loop {c:Code}(I:Nat→List (Nat×D)→Hp→Prop){n:Nat}{tm0:List (Nat×D)}{hp0:Hp}(hw:Wk x tm hp tm0 hp0)(h0:I n tm0 hp0)
  (round:∀n tm hp,I n tm hp→AW P x c tm hp fun ex tm' hp'=>match ex with| .normal=>∃m AH bk,m<n∧Wk x tm' hp' AH bk∧I m AH bk|ex=>Q ex tm' hp'):AW P x (.loop c) tm hp Q:=by
 intro a w hr
 refine pd (fun n a w=>∃tm hp,RS x tm hp a w∧I n tm hp) (n:=n) ⟨tm0,hp0,hw a w hr,h0⟩ (fun n a w ⟨tm,hp,hr,hI⟩=>wp_mono (round n tm hp hI a w hr) ?_)
 rintro ex a' w' ⟨tm',hp',h1,h2⟩
 cases ex with
 |normal=>
  obtain⟨m,AH,bk,bh,Og,hI2⟩:=h2
  exact⟨m,bh,AH,bk,Og a' w' h1,hI2⟩
 |_=>exact⟨tm',hp',h1,h2⟩
def D.idsB(m:Nat):D→Bool
 | .ag ds=>ds.all (D.idsC m)
 | .tu ds=>ds.all (D.idsC m)
 |d=>d.idsC m
theorem g8 {m:Nat}{bk:Hp}{g:Gh}{d:D}{v:Value}(h:aF hp g w d v)(hd:d.idsC m=true)(hm:bk.next=m)(hl:∀id y,bk.live.lookup id=some y→hp.live.lookup id=some y):aF bk g w d v:=by
 subst hm
 cases h with
 |e y v h=>exact .e y v h
 |own id z n xs v h hid ht=>exact .own id z n xs v h (by simpa[D.idsC] using hd) (fun m e h=>ht m e (hl _ _ h))
 |fu z n xs A h=>exact .fu z n xs A h
 |ag ds cs hl h1 hr=>cases hd
 |tu ds cs hl hr=>cases hd
 |fp xs off ad hb hc=>exact .fp xs off ad hb hc
 |pt k off hk=>exact .pt k off (by simpa[D.idsC] using hd)
 |ow k off z n c hk h1 h2=>exact .ow k off z n c (by simpa[D.idsC] using hd) h1 h2
 |gw k z n c hk h1 h2 hs=>exact .gw k z n c (by simpa[D.idsC] using hd) h1 h2 hs
 |fn f ks hk=>exact .fn f ks (by simpa[D.idsC] using hd)
 |opt b d v hi h=>
  refine .opt b d v hd fun hb=>?_
  cases d with
  |ag ds=>
   have jp:∀d∈ds,D.isE d=true:=by
    have:ds.all D.isE=true:=hd
    simpa only[bx] using this
   have h':=h hb
   cases h' with
   |ag _ cs hlen h1 hr=>
    refine .ag _ cs hlen h1 fun j d u h2 h3=>?_
    have h4:=hr j d u h2 h3
    have h5:=jp d (bL h2)
    cases d with
    |e y=>
     cases h4 with
     |e _ _ h6=>exact .e y _ h6
    |fu z n xs=>
     cases h4 with
     |fu _ _ _ A h6=>exact .fu z n xs A h6
    |fp xs off=>
     cases h4 with
     |fp _ _ ad hb hc=>exact .fp xs off ad hb hc
    |_=>cases h5
  |_=>exact g8 (h hb) hd rfl hl
 |top v=>exact .top v
theorem CW {m:Nat}{bk:Hp}{g:Gh}{d:D}{v:Value}(h:aF hp g w d v)(hd:d.idsB m=true)(hm:bk.next=m)(hl:∀id y,bk.live.lookup id=some y→hp.live.lookup id=some y):aF bk g w d v:=by
 cases h with
 |ag ds cs hlen h1 hr=>
  have jp:∀d∈ds,D.idsC m d=true:=by simpa[D.idsB] using hd
  exact .ag ds cs hlen h1 fun j d u h2 h3=>g8 (hr j d u h2 h3) (jp d (bL h2)) hm hl
 |tu ds cs hlen hr=>
  have jp:∀d∈ds,D.idsC m d=true:=by simpa[D.idsB] using hd
  exact .tu ds cs hlen fun j d u h2 h3=>g8 (hr j d u h2 h3) (jp d (bL h2)) hm hl
 |e y v h=>exact g8 (.e y v h) hd hm hl
 |own id z n xs v h hid ht=>exact g8 (.own id z n xs v h hid ht) hd hm hl
 |fu z n xs A h=>exact g8 (.fu z n xs A h) hd hm hl
 |fp xs off ad hb hc=>exact g8 (.fp xs off ad hb hc) hd hm hl
 |pt k off hk=>exact g8 (.pt k off hk) hd hm hl
 |ow k off z n c hk h1 h2=>exact g8 (.ow k off z n c hk h1 h2) hd hm hl
 |gw k z n c hk h1 h2 hs=>exact g8 (.gw k z n c hk h1 h2 hs) hd hm hl
 |fn f ks hk=>exact g8 (.fn f ks hk) hd hm hl
 |opt b d v hi h=>exact g8 (.opt b d v hi h) hd hm hl
 |top v=>exact .top v
theorem aK {α:Type}:∀{l:List (Nat×α)} {k:Nat} {y:α},l.lookup k=some y→(k,y)∈l
 |[],k,y,h=>by simp at h
 |(j,z)::l,k,y,h=>by
  by_cases hj:k=j
  ·subst hj
   have:some z=some y:=by rw[←h];exact ah.symm
   injection this with this
   subst this
   exact j8 ..
  ·exact io _ (aK (by rw[←h];exact (al hj).symm))
theorem Wk.mk {vars':List (Nat×List D)}{eJ:List (Nat×Nat×Nat×TypeId)}{m:Nat}(h0:x.hp0.next≤m)(hm:m≤hp.next)(ht:∀p∈tm',tm.lookup p.1=some p.2∧p.2.idsB m=true)
  (hv:∀p∈vars',(decide (p.1<m)=true∧hp.vars.lookup p.1=some p.2)∧p.2.all (D.idsC m)=true) (hl:∀p∈eJ,decide (p.1<m)=true∧hp.live.lookup p.1=some p.2):Wk x tm hp tm' ⟨vars',eJ,m⟩:=by
 intro a w ⟨g,hr,fh,hsz,pg,hB,hF,hM⟩
 have cZ:∀id y,(⟨vars',eJ,m⟩:Hp).live.lookup id=some y→hp.live.lookup id=some y:=fun id y h=>(hl _ (aK h)).2
 refine⟨g,⟨fun k ds hk=>?_,fun k k' ds ds' hk pf he=>?_,fun id n e hi=>?_,fun id sr t t' b hi sM=>hr.tinj id sr t t' b (cZ _ _ hi) (cZ _ _ sM),hr.base,hr.fits⟩,fun t d h=>?_,hsz,pg,hB,hF,⟨hM.size,hM.cell,hM.forb,h0,hM.μ,fun id hid n e Mi=>hM.live id hid n e (cZ id _ Mi),fun b hb hf=>⟨(hM.fr b hb hf).1,(hM.fr b hb hf).2.1,fun k ds hk=>(hM.fr b hb hf).2.2.1 k ds (hv _ (aK hk)).1.2,fun id t hi=>(hM.fr b hb hf).2.2.2 id t (cZ id _ hi)⟩,hM.szs⟩⟩
 ·obtain⟨⟨h0,h1⟩,h2⟩:=hv _ (aK hk)
  obtain⟨_,h3,h4,cs,ty,h5,h6,h7⟩:=hr.var k ds h1
  have lj:∀d∈ds,D.idsC m d=true:=by simpa using h2
  exact⟨by simpa using h0,h3,h4,cs,ty,h5,h6,fun j u hu=>⟨(h7 j u hu).1,fun d hd=>g8 ((h7 j u hu).2 d hd) (lj d (bL hd)) rfl cZ⟩⟩
 ·exact hr.inj k k' _ _ (hv _ (aK hk)).1.2 (hv _ (aK pf)).1.2 he
 ·obtain⟨h0,h1⟩:=hl _ (aK hi)
  obtain⟨_,us,h2,h3,h4⟩:=hr.tok id n e h1
  exact⟨by simpa using h0,us,h2,h3,fun b hb=>⟨(h4 b hb).1,fun k ds hk=>(h4 b hb).2 k ds (hv _ (aK hk)).1.2⟩⟩
 ·obtain⟨h1,h2⟩:=ht _ (aK h)
  exact CW (fh t d h1) h2 rfl cZ
theorem Wk.refl(x:Cx)(tm:List (Nat×D))(hp:Hp):Wk x tm hp tm hp:=fun _ _ h=>h
def dv:Nat→List D→List (Nat×D)
 |_,[]=>[]
 |i,d::ds=>(i,d)::dv (i+1) ds
theorem n7:∀{ds:List D} {i t:Nat} {d:D},(dv i ds).lookup t=some d→i≤t∧ds[t - i]? =some d
 |[],i,t,d,h=>by simp[dv] at h
 |d0::ds,i,t,d,h=>by
  by_cases uK:t=i
  ·subst uK
   have:some d0=some d:=by rw[←h];exact ah.symm
   injection this with this
   subst this
   exact⟨aC _,by simp⟩
  ·have h1:(dv (i+1) ds).lookup t=some d:=by rw[←h];exact (al uK).symm
   obtain⟨h2,h3⟩:=n7 h1
   refine⟨by omega,?_⟩
   rw[show t - i=(t - (i+1))+1 by omega]
   exact h3
def oK(tb:TypeId→Option TyE)(tm:List (Nat×D))(hp:Hp)(r:ResultVar)(k:D→Prop):Prop:=
 match r with
 | .tmp t=>∃d,tm.lookup t=some d∧k d
 | .cell p ty=>∃d,tm.lookup p=some d∧(∃j,tb ty=some j)∧CM tb ty d hp k
theorem aF.exC {g:Gh}{w:World}{d:D}{v:Value}(h:aF hp g w d v):aF hp g w d.exC v:=by
 cases h with
 |e x v h=>exact .e x v h
 |own id z n xs v h hid ht=>exact .e _ _ h
 |fu z n xs A h=>exact .e _ _ h
 |ag ds cs hl h1 hr=>exact .ag ds cs hl h1 hr
 |tu ds cs hl hr=>exact .tu ds cs hl hr
 |fp xs off ad hb hc=>exact .fp xs off ad hb hc
 |pt k off hk=>exact .pt k off hk
 |ow k off z n c hk h1 h2=>exact .ow k off z n c hk h1 h2
 |gw k z n c hk h1 h2 hs=>exact .gw k z n c hk h1 h2 hs
 |fn f ks hk=>exact .fn f ks hk
 |opt b d v hi h=>exact .opt b d v hi h
 |top v=>exact .top v
theorem aF.exD {g:Gh}{w:World}{d:D}{v:Value}(h:aF hp g w d v):aF hp g w d.ex v:=by
 cases h with
 |ag ds cs hl h1 hr=>
  refine .ag _ cs (by simpa using hl) h1 fun j d u hd hu=>?_
  rw[bE] at hd
  cases hdj:ds[j]? with
  |none=>simp[hdj] at hd
  |some d0=>
   simp only[hdj,nr,nq] at hd
   subst hd
   exact (hr j d0 u hdj hu).exC
 |e x v h=>exact .e x v h
 |own id z n xs v h hid ht=>exact .e _ _ h
 |fu z n xs A h=>exact .e _ _ h
 |tu ds cs hl hr=>exact .tu ds cs hl hr
 |fp xs off ad hb hc=>exact .fp xs off ad hb hc
 |pt k off hk=>exact .pt k off hk
 |ow k off z n c hk h1 h2=>exact .ow k off z n c hk h1 h2
 |gw k z n c hk h1 h2 hs=>exact .gw k z n c hk h1 h2 hs
 |fn f ks hk=>exact .fn f ks hk
 |opt b d v hi h=>exact .opt b d v hi h
 |top v=>exact .top v
def D.leC(d d':D):Prop:=d'=d∨d'=d.exC∨(d=.e (.lit (.slice none 0 0))∧∃z,0<z∧d'=.e (.sl z 0 []))
theorem aF.leC {g:Gh}{w:World}{d d':D}{v:Value}(h:aF hp g w d v)(hl:d.leC d'):aF hp g w d' v:=by
 rcases hl with rfl|rfl|⟨rfl,z,hz,rfl⟩
 ·exact h
 ·exact h.exC
 ·cases h with
  |e _ _ h=>
   cases h with
   |lit _ _=>exact .e _ _ (.sl z 0 [] none 0 (fun _=>undef) (by simp) hz (aC _) (il _) (fun h=>absurd h (u3 _)) (fun _ h=>by cases h) (fun j x h=>by simp at h))
def ot:List D→List D→Prop
 |[],[]=>True
 |d::ds,d'::ds'=>d.leC d'∧ot ds ds'
 |_,_=>False
theorem m9:∀ds:List D,ot ds ds
 |[]=>trivial
 |_::ds=>⟨.inl rfl,m9 ds⟩
theorem qq:∀{ds ds':List D},ot ds ds'→ds'.length=ds.length
 |[],[],_=>rfl
 |_::ds,_::ds',h=>by simp[qq h.2]
 |[],_::_,h=>h.elim
 |_::_,[],h=>h.elim
theorem su:∀{ds ds':List D},ot ds ds'→∀{j:Nat} {d':D},ds'[j]? =some d'→∃d,ds[j]? =some d∧d.leC d'
 |d::ds,d'::ds',h,0,e,he=>⟨d,rfl,by
  have:d'=e:=by simpa using he
  rw[←this];exact h.1⟩
 |d::ds,d'::ds',h,j+1,e,he=>su h.2 (by simpa using he)
 |[],[],h,j,e,he=>by simp at he
 |[],_::_,h,_,_,_=>h.elim
 |_::_,[],h,_,_,_=>h.elim
def D.le(d d':D):Prop:=d.leC d'∨d'=d.ex∨∃ds ds',d=.ag ds∧d'=.ag ds'∧ot ds ds'
theorem aF.le {g:Gh}{w:World}{d d':D}{v:Value}(h:aF hp g w d v)(hl:d.le d'):aF hp g w d' v:=by
 rcases hl with hl|rfl|⟨ds,ds',rfl,rfl,hl⟩
 ·exact h.leC hl
 ·exact h.exD
 ·cases h with
  |ag _ cs hlen h1 hr=>
   refine .ag _ cs (by rw[hlen,qq hl]) h1 fun j d u hd hu=>?_
   obtain⟨d0,E7,hle⟩:=su hl hd
   exact (hr j d0 u E7 hu).leC hle
theorem NU {d:D}(h:d.pure=true):d.ex=d:=by
 cases d with
 |ag ds=>
  have jp:∀x∈ds,D.pureC x=true:=by simpa[D.pure] using h
  show D.ag (ds.map D.exC)=.ag ds
  have:ds.map D.exC=ds:=by
   conv=>rhs;rw[←Gc ds]
   refine sV fun x hx=>?_
   have:=jp x hx
   cases x <;> first|rfl|cases this
  rw[this]
 |e x=>rfl
 |fp xs off=>rfl
 |_=>cases h
theorem aF.exportP {g:Gh}{w:World}{d:D}{v:Value}(h:aF hp g w d v)(hp':d.pure=true):kW w g.F d v:=by
 have:=h.xport (by rw[NU hp'];exact hp')
 rwa[NU hp'] at this
def eu(tb:TypeId→Option TyE)(rs:List ResultVar)(tm:List (Nat×D))(hp:Hp)(r:D):Prop:=
 match rs with
 |[q]=>oK tb tm hp q fun d=>(d.ex.pure=true∧r=d.ex)∨(∃id e z n xs,d=.own id z n xs∧hp.live.lookup id=some (n,z,e)∧r=.own e z n xs)∨∃d2,d.le d2∧d2.pure=true∧r=d2
 |[q,q']=>oK tb tm hp q fun d=>oK tb tm hp q' fun d'=>((d.ex.pure=true∧d'.ex.pure=true)∧r=.tu [d.ex,d'.ex])∨∃e e',d.le e∧d'.le e'∧(e.pure=true∧e'.pure=true)∧r=.tu [e,e']
 |[q,q',G2]=>oK tb tm hp q fun d=>oK tb tm hp q' fun d'=>oK tb tm hp G2 fun Q5=>((d.ex.pure=true∧d'.ex.pure=true∧Q5.ex.pure=true)∧r=.tu [d.ex,d'.ex,Q5.ex])∨∃e e' e'',d.le e∧d'.le e'∧Q5.le e''∧(e.pure=true∧e'.pure=true∧e''.pure=true)∧r=.tu [e,e',e'']
 |[]=>r=.tu []
 |_=>False
theorem gb(tok:TOk P tb){q:ResultVar}{k:D→Prop}(h:oK tb tm hp q k):∃d,k d∧∀(B:Nat) (g:Gh) (w:World) (tmps:Array Value),HR B hp g w→(∀t d,tm.lookup t=some d→aF hp g w d (tmps.getD t undef))→
  ∃v,((match q with| .tmp t=>pure (tmps.getD t undef)| .cell a t=>do loadVar t (←asAddr (tmps.getD a undef)):Sem Value)).run P w=.ok v w∧aF hp g w d v:=by
 unfold oK at h
 split at h
 ·rename_i t
  obtain⟨d,hd,hk⟩:=h
  exact⟨d,hk,fun B g w tmps hr fh=>⟨_,rfl,fh t d hd⟩⟩
 ·rename_i p ty
  obtain⟨d,hd,_,h⟩:=h
  obtain⟨d',hk,_,hs⟩:=AP tok h
  refine⟨d',hk,fun B g w tmps hr fh=>?_⟩
  obtain⟨v,bm,cJ⟩:=hs hp B g w _ (fun _ _ _=>rfl) hr (fh p d hd)
  refine⟨v,?_,cJ⟩
  have hp:=fh p d hd
  generalize tmps.getD p undef=u at*
  cases u with
  |pointer o=>
   cases o with
   |some ad=>simpa[Instr.loadAt,Instr.sureAddr,asAddr] using bm
   |none=>simp[Instr.loadAt,Instr.sureAddr,stuck,Sem.run] at bm
  |_=>simp[Instr.loadAt,Instr.sureAddr,stuck,Sem.run] at bm
theorem Array.mapM_one {α β:Type}(f:α→Sem β)(q:α)(w:World){v:β}(h:(f q).run P w=.ok v w):((#[q]:Array α).mapM f).run P w=.ok #[v] w:=by
 rw[In]
 simp[h]
theorem Array.mapM_two {α β:Type}(f:α→Sem β)(q q':α)(w:World){v v':β}(h:(f q).run P w=.ok v w)(h':(f q').run P w=.ok v' w):((#[q,q']:Array α).mapM f).run P w=.ok #[v,v'] w:=by
 rw[In]
 simp[h,h']
theorem Array.mapM_three {α β:Type}(f:α→Sem β)(q q' G2:α)(w:World){v v' v'':β}(h:(f q).run P w=.ok v w)(h':(f q').run P w=.ok v' w)(h'':(f G2).run P w=.ok v'' w):((#[q,q',G2]:Array α).mapM f).run P w=.ok #[v,v',v''] w:=by
 rw[In]
 simp[h,h',h'']
theorem kW.tu {F:Addr→Prop}{ds:List D}{vs:List Value}(h:Pw (kW w F) ds vs):kW w F (.tu ds) (.tuple vs.toArray):=
 aF.tu ds vs.toArray (by simpa using h.1.symm) fun j d u hd hu=>h.2 j d u hd (by simpa using hu)
theorem G3 {d:D}{e z n:Nat}{xs:List E}(h:d.ex.pure=true):d.ex≠.own e z n xs:=by
 intro e
 rw[e] at h
 cases h
theorem uk.of {B:Nat}{F:Addr→Prop}{r:D}{v:Value}(h:kW w F r v)(hn:∀e z n xs,r≠.own e z n xs):uk B F w r v:=by
 unfold uk
 split
 ·exact absurd rfl (hn _ _ _ _)
 ·exact h
theorem cG.less {F F':Addr→Prop}{y:E}{v:Value}(h:cG w F y v)(hF:∀p,F' p→F p):cG w F' y v:=h.mono (aC _) (fun _ _ _=>rfl) fun p _ hf=>hF p hf
theorem kW.less {F F':Addr→Prop}{d:D}{v:Value}(h:kW w F d v)(hF:∀p,F' p→F p):kW w F' d v:=by
 unfold kW at h
 generalize hh:(⟨[],[],0⟩:Hp)=h0 at h
 generalize hgg:(⟨fun _=>0,fun _=>default,F⟩:Gh)=g0 at h
 have Qs:g0.F=F:=by rw[←hgg]
 have hn:h0.next=0:=by rw[←hh]
 unfold kW
 induction h with
 |e y v h=>exact .e y v (cG.less h fun p hp=>by rw[Qs];exact hF p hp)
 |own id z n xs v h hid ht=>omega
 |fu z n xs A h=>exact .fu z n xs A (cG.less h fun p hp=>by rw[Qs];exact hF p hp)
 |ag ds cs hl h1 hr ih=>exact .ag ds cs hl h1 ih
 |tu ds cs hl hr ih=>exact .tu ds cs hl ih
 |fp xs off ad hb hc=>
  refine .fp xs off ad hb fun j y hy=>?_
  obtain⟨u,h1,h2,h3⟩:=hc j y hy
  exact⟨u,h1,fun hf=>h2 (by rw[Qs];exact hF _ hf),cG.less h3 fun p hp=>by rw[Qs];exact hF p hp⟩
 |pt k off hk=>omega
 |ow k off z n c hk h1 h2=>omega
 |gw k z n c hk h1 h2 hs=>omega
 |fn f ks hk=>
  cases ks with
  |nil=>exact .fn f [] (by simp)
  |cons k ks=>have:=hk k (by simp);omega
 |opt b d v hi h ih=>exact .opt b d v (by rw[hn] at hi;exact hi) ih
 |top v=>exact .top v
theorem Nl(tok:TOk P tb){fn:Func}{rs:List ResultVar}{r:D}(hrs:fn.results.toList=rs)(h:eu tb rs tm hp r)(hr:RS x tm hp a w)(Qs:∀p,x.F0 p→p.block<x.B):
  ∃v,(results fn a.tmps).run P w=.ok v w∧uk x.B x.F0 w r v:=by
 obtain⟨g,hh,fh,hsz,pg,hB,hF,_⟩:=hr
 have IX:∀p,x.F0 p→g.F p:=fun p hp=>hF p (Qs p hp) hp
 unfold eu at h
 split at h
 ·rename_i q
  have hq:fn.results=#[q]:=by apply j6.1;simpa using hrs
  obtain⟨d,hk,hs⟩:=gb tok h
  obtain⟨v,bm,cJ⟩:=hs x.B g w a.tmps hh fh
  refine⟨v,?_,?_⟩
  ·unfold results
   rw[hq,Sem.run_bind,Array.mapM_one _ q w bm]
   simp
  ·rcases hk with⟨hp1,rfl⟩|⟨id,e,z,n,xs,rfl,cZ,rfl⟩|⟨d2,hle,hp1,rfl⟩
   ·exact uk.of ((cJ.xport hp1).less IX) fun _ _ _ _=>G3 hp1
   ·obtain⟨_,us,hz,ho,htail⟩:=hh.tok id n (z,e) cZ
    cases cJ with
    |own _ _ _ _ _ hrepE hid ht=>
     have hv:=(ht n (z,e) cZ).2.2 rfl
     subst hv
     refine⟨hz,⟨us,ho⟩,hrepE.less fun p hp=>?_⟩
     rcases hp with hp|⟨b,h1,h2,h3⟩
     ·exact IX p hp
     ·exact (htail b h1).1 p h2 h3
   ·exact uk.of (((cJ.le hle).exportP hp1).less IX) fun _ _ _ _ e=>by rw[e] at hp1;cases hp1
 ·rename_i q q'
  have hq:fn.results=#[q,q']:=by apply j6.1;simpa using hrs
  obtain⟨d,hk,hs⟩:=gb tok h
  obtain⟨v,bm,cJ⟩:=hs x.B g w a.tmps hh fh
  obtain⟨d',z3,Ma⟩:=gb tok hk
  obtain⟨v',C2,qF⟩:=Ma x.B g w a.tmps hh fh
  refine⟨.tuple #[v,v'],?_,?_⟩
  ·unfold results
   rw[hq,Sem.run_bind,Array.mapM_two _ q q' w bm C2]
   simp
  ·rcases z3 with⟨⟨hp1,bk⟩,rfl⟩|⟨e,e',Bv,oQ,⟨hp1,bk⟩,rfl⟩
   ·exact uk.of (kW.tu (vs:=[v,v']) (Pw.cons ((cJ.xport hp1).less IX) (Pw.cons ((qF.xport bk).less IX) Pw.nil))) (fun _ _ _ _ h=>by cases h)
   ·exact uk.of (kW.tu (vs:=[v,v']) (Pw.cons (((cJ.le Bv).exportP hp1).less IX) (Pw.cons (((qF.le oQ).exportP bk).less IX) Pw.nil))) (fun _ _ _ _ h=>by cases h)
 ·rename_i q q' G2
  have hq:fn.results=#[q,q',G2]:=by apply j6.1;simpa using hrs
  obtain⟨d,hk,hs⟩:=gb tok h
  obtain⟨v,bm,cJ⟩:=hs x.B g w a.tmps hh fh
  obtain⟨d',pf,Ma⟩:=gb tok hk
  obtain⟨v',C2,qF⟩:=Ma x.B g w a.tmps hh fh
  obtain⟨Q5,z3,hs''⟩:=gb tok pf
  obtain⟨v'',Mb,HB⟩:=hs'' x.B g w a.tmps hh fh
  refine⟨.tuple #[v,v',v''],?_,?_⟩
  ·unfold results
   rw[hq,Sem.run_bind,Array.mapM_three _ q q' G2 w bm C2 Mb]
   simp
  ·rcases z3 with⟨⟨hp1,bk,hp3⟩,rfl⟩|⟨e,e',e'',Bv,oQ,Qi,⟨hp1,bk,hp3⟩,rfl⟩
   ·exact uk.of (kW.tu (vs:=[v,v',v'']) (Pw.cons ((cJ.xport hp1).less IX) (Pw.cons ((qF.xport bk).less IX) (Pw.cons ((HB.xport hp3).less IX) Pw.nil)))) (fun _ _ _ _ h=>by cases h)
   ·exact uk.of (kW.tu (vs:=[v,v',v'']) (Pw.cons (((cJ.le Bv).exportP hp1).less IX) (Pw.cons (((qF.le oQ).exportP bk).less IX) (Pw.cons (((HB.le Qi).exportP hp3).less IX) Pw.nil)))) (fun _ _ _ _ h=>by cases h)
 ·have hq:fn.results=#[]:=by apply j6.1;simpa using hrs
  subst h
  refine⟨.tuple #[],?_,uk.of (kW.tu (vs:=[]) Pw.nil) (fun _ _ _ _ h=>by cases h)⟩
  unfold results
  rw[hq,Sem.run_bind]
  simp
 ·cases h
theorem ar.of (tok : TOk P tb) {f : FuncId} {fn : Func} {c : Code} {ds : List D} {r : D} {rs : List ResultVar} (hf : P.funcs[f]? = some fn) (hb : fn.body = some c) (qH : (fn.name == "runtime.NumGoroutine") = false) (hN : ds.length ≤ fn.ntmps) (hrs : fn.results.toList = rs)
  (h:∀x:Cx,x.N=fn.ntmps→x.hp0=⟨[],[],0⟩→AW P x c (dv 0 ds) ⟨[],[],0⟩ fun ex tm hp=>match ex with| .normal| .ret=>eu tb rs tm hp r|_=>False):ar P f ds r:=by
 subst hrs
 refine⟨⟨fn,hf,qH,by rw[hb];rfl⟩,fun w F vs hF hsz ss=>?_⟩
 refine calls_of_wp hf hb ?_
 have hrs:RS ⟨w.heap.size,w,F,fn.ntmps,⟨[],[],0⟩,⟨fun _=>0,fun _=>default,F⟩,[]⟩ (dv 0 ds) ⟨[],[],0⟩ {tmps:=vs++Array.replicate (fn.ntmps - vs.size) undef,defers:=[]} w:=by
  refine⟨⟨fun _=>0,fun _=>default,F⟩,⟨fun k ds h=>by simp at h,fun _ _ _ _ h=>by simp at h,fun _ _ _ h=>by simp at h,fun _ _ _ _ _ h=>by simp at h,aC _,hF⟩,fun t d ht=>?_,by simp;omega,rfl,Below.refl _ _,fun _ _ h=>h,bu.refl _ _ _⟩
  obtain⟨_,h2⟩:=n7 ht
  have bh:t<ds.length:=by
   rw[DR] at h2
   rcases bO t ds.length with hh|hh
   ·exact hh
   ·rw[gP hh] at h2;cases h2
  have hv:vs[t]? =some vs[t]:=pX (by omega)
  have:=ss t d vs[t] (by simpa using h2) hv
  have he:(vs++Array.replicate (fn.ntmps - vs.size) undef).getD t undef=vs[t]:=by
   rw[e7,An (by omega),hv];rfl
  rw[he]
  exact this
 refine wp_mono (h ⟨w.heap.size,w,F,fn.ntmps,⟨[],[],0⟩,⟨fun _=>0,fun _=>default,F⟩,[]⟩ rfl rfl _ _ hrs) ?_
 rintro ex a' w' ⟨tm',hp',h1,h2⟩
 have fin:eu tb fn.results.toList tm' hp' r→a'.defers=[]∧∃v,(results fn a'.tmps).run P w'=.ok v w'∧∃v',Ending.returned v=.returned v'∧uk w.heap.size F w' r v'∧Below w.heap.size w w':=by
  intro h2
  obtain⟨v,bm,l4⟩:=Nl tok rfl h2 h1 hF
  obtain⟨g,_,_,_,pg,hB,_⟩:=h1
  exact⟨pg,v,bm,v,rfl,l4,hB⟩
 cases ex with
 |normal=>exact fin h2
 |ret=>exact fin h2
 |_=>cases h2
def xp(tb:TypeId→Option TyE)(rs:List ResultVar)(tm:List (Nat×D))(hp:Hp)(r:D):Prop:=
 match rs with
 |[q]=>oK tb tm hp q fun d=>r=d
 |[q,q']=>oK tb tm hp q fun d=>oK tb tm hp q' fun d'=>r=.tu [d,d']
 |[q,q',G2]=>oK tb tm hp q fun d=>oK tb tm hp q' fun d'=>oK tb tm hp G2 fun Q5=>r=.tu [d,d',Q5]
 |[]=>r=.tu []
 |_=>False
theorem tV(tok:TOk P tb){fn:Func}{rs:List ResultVar}{r:D}(hrs:fn.results.toList=rs)(h:xp tb rs tm hp r){g:Gh}(hh:HR x.B hp g w)(fh:∀t d,tm.lookup t=some d→aF hp g w d (a.tmps.getD t undef)):
  ∃v,(results fn a.tmps).run P w=.ok v w∧aF hp g w r v:=by
 unfold xp at h
 split at h
 ·rename_i q
  have hq:fn.results=#[q]:=by apply j6.1;simpa using hrs
  obtain⟨d,rfl,hs⟩:=gb tok h
  obtain⟨v,bm,cJ⟩:=hs x.B g w a.tmps hh fh
  refine⟨v,?_,cJ⟩
  unfold results
  rw[hq,Sem.run_bind,Array.mapM_one _ q w bm]
  simp
 ·rename_i q q'
  have hq:fn.results=#[q,q']:=by apply j6.1;simpa using hrs
  obtain⟨d,hk,hs⟩:=gb tok h
  obtain⟨v,bm,cJ⟩:=hs x.B g w a.tmps hh fh
  obtain⟨d',rfl,Ma⟩:=gb tok hk
  obtain⟨v',C2,qF⟩:=Ma x.B g w a.tmps hh fh
  have v3:Pw (aF hp g w) [d,d'] [v,v']:=Pw.cons cJ (Pw.cons qF Pw.nil)
  refine⟨.tuple #[v,v'],?_,.tu _ _ rfl fun j d u hd hu=>v3.2 j d u hd (by simpa using hu)⟩
  unfold results
  rw[hq,Sem.run_bind,Array.mapM_two _ q q' w bm C2]
  simp
 ·rename_i q q' G2
  have hq:fn.results=#[q,q',G2]:=by apply j6.1;simpa using hrs
  obtain⟨d,hk,hs⟩:=gb tok h
  obtain⟨v,bm,cJ⟩:=hs x.B g w a.tmps hh fh
  obtain⟨d',pf,Ma⟩:=gb tok hk
  obtain⟨v',C2,qF⟩:=Ma x.B g w a.tmps hh fh
  obtain⟨Q5,rfl,hs''⟩:=gb tok pf
  obtain⟨v'',Mb,HB⟩:=hs'' x.B g w a.tmps hh fh
  have v3:Pw (aF hp g w) [d,d',Q5] [v,v',v'']:=Pw.cons cJ (Pw.cons qF (Pw.cons HB Pw.nil))
  refine⟨.tuple #[v,v',v''],?_,.tu _ _ rfl fun j d u hd hu=>v3.2 j d u hd (by simpa using hu)⟩
  unfold results
  rw[hq,Sem.run_bind,Array.mapM_three _ q q' G2 w bm C2 Mb]
  simp
 ·have hq:fn.results=#[]:=by apply j6.1;simpa using hrs
  subst h
  refine⟨.tuple #[],?_,.tu _ _ rfl fun j d u hd hu=>by simp at hd⟩
  unfold results
  rw[hq,Sem.run_bind]
  simp
 ·cases h
structure fc(hp:Hp):Prop where
 var:∀k ds,hp.vars.lookup k=some ds→k<hp.next∧ds.all (D.idsC hp.next)=true
 tok:∀id e,hp.live.lookup id=some e→id<hp.next
theorem aF.cell_ids {d:D}{v:Value}{hp:Hp}{g:Gh}(h:aF hp g w d v)(hv:v.oneCell'=true):d.idsC hp.next=true:=by
 cases h with
 |e x v h=>rfl
 |own id z n xs v h hid ht=>exact ck hid
 |fu z n xs A h=>rfl
 |ag ds cs hl h1 hr=>cases hv
 |tu ds cs hl hr=>cases hv
 |fp xs off ad hb hc=>rfl
 |pt k off hk=>exact ck hk
 |ow k off z n c hk h1 h2=>exact ck hk
 |gw k z n c hk h1 h2 hs=>exact ck hk
 |fn f ks hk=>exact bx.2 fun k h=>ck (hk k h)
 |opt b d v hi h=>exact hi
 |top v=>rfl
theorem HR.ok {B:Nat}{hp:Hp}{g:Gh}(h:HR B hp g w):fc hp:=by
 refine⟨fun k ds hk=>?_,fun id e he=>(h.tok id e.1 e.2 he).1⟩
 obtain⟨h1,_,_,cs,ty,_,h2,h3⟩:=h.var k ds hk
 refine⟨h1,bx.2 fun d hd=>?_⟩
 obtain⟨j,hj⟩:=sT hd
 have bh:j<cs.size:=by
  have:=(lV.1 hj).1
  omega
 obtain⟨h4,h5⟩:=h3 j cs[j] (pX bh)
 exact (h5 d hj).cell_ids (h4 (lV.1 hj).1)
theorem HC.of (tok : TOk P tb) {f : FuncId} {fn : Func} {c : Code} {ds : List D} {hp hp' : Hp} {r : D} {rs : List ResultVar} (hf : P.funcs[f]? = some fn) (hb : fn.body = some c) (qH : (fn.name == "runtime.NumGoroutine") = false) (hN : ds.length ≤ fn.ntmps) (hrs : fn.results.toList = rs)
  (h:∀x:Cx,x.N=fn.ntmps→x.hp0=hp→fc hp→AW P x c (dv 0 ds) hp fun ex tm bk=>match ex with| .normal| .ret=>∃tm',Wk x tm bk tm' hp'∧xp tb rs tm' hp' r|_=>False):HC P f ds hp r hp':=by
 subst hrs
 refine⟨⟨fn,hf,qH,by rw[hb];rfl⟩,fun B g w vs hr hsz ss=>?_⟩
 refine calls_of_wp hf hb ?_
 have C0:RS ⟨B,w,g.F,fn.ntmps,hp,g,[]⟩ (dv 0 ds) hp {tmps:=vs++Array.replicate (fn.ntmps - vs.size) undef,defers:=[]} w:=by
  refine⟨g,hr,fun t d ht=>?_,by simp;omega,rfl,Below.refl _ _,fun _ _ h=>h,bu.refl _ _ _⟩
  obtain⟨_,h2⟩:=n7 ht
  have bh:t<ds.length:=by
   rw[DR] at h2
   rcases bO t ds.length with hh|hh
   ·exact hh
   ·rw[gP hh] at h2;cases h2
  have hv:vs[t]? =some vs[t]:=pX (by omega)
  have:=ss t d vs[t] (by simpa using h2) hv
  have he:(vs++Array.replicate (fn.ntmps - vs.size) undef).getD t undef=vs[t]:=by
   rw[e7,An (by omega),hv];rfl
  rw[he]
  exact this
 refine wp_mono (h ⟨B,w,g.F,fn.ntmps,hp,g,[]⟩ rfl rfl hr.ok _ _ C0) ?_
 rintro ex a' w' ⟨tm',bk,h1,h2⟩
 have fin:(∃AH,Wk ⟨B,w,g.F,fn.ntmps,hp,g,[]⟩ tm' bk AH hp'∧xp tb fn.results.toList AH hp' r)→a'.defers=[]∧∃v,(results fn a'.tmps).run P w'=.ok v w'∧∃v' g',Ending.returned v=.returned v'∧HR B hp' g' w'∧bu hp g w hp' g' w'∧aF hp' g' w' r v'∧Below B w w'∧∀p:Addr,p.block<B→g.F p→g'.F p:=by
  rintro⟨AH,Og,Mc⟩
  obtain⟨g',om,fh,_,pg,hB,hF,hM⟩:=Og a' w' h1
  obtain⟨v,bm,l4⟩:=tV (x:=⟨B,w,g.F,fn.ntmps,hp,g,[]⟩) tok rfl Mc om fh
  exact⟨pg,v,bm,v,g',rfl,om,hM,l4,hB,hF⟩
 cases ex with
 |normal=>exact fin h2
 |ret=>exact fin h2
 |_=>cases h2
end
end
section
def Ak(k:D→Hp→Prop)(hp:Hp)(d:D):Prop:=k d hp
def atLit(k:D→Hp→Prop)(hp:Hp)(v:Value):Prop:=k (.e (.lit v)) hp
def atInt(k:D→Hp→Prop)(hp:Hp)(n:Int):Prop:=k (.e (.lit (.int .i64 n))) hp
def exO(o:Option D)(k:D→Prop):Prop:=∃d,o=some d∧k d
theorem TC(d:D)(k:D→Prop):exO (some d) k=k d:=by
 unfold exO;exact propext ⟨fun⟨_,h,hk⟩=>by injection h with h;rw[h];exact hk,fun h=>⟨d,rfl,h⟩⟩
section
variable {P:Program} {tb:TypeId→Option TyE} {dr:Bool} {ops:Array Oper} {os:List Oper} {tm:List (Nat×D)} {hp:Hp} {K:List (Nat×D)→Hp→Prop} {dst:Option Tmp} {ty:TypeId} {pos:String} {af:Array Edge}
def Ul(tb:TypeId→Option TyE)(t:TypeId)(hp:Hp)(k:D→Hp→Prop):Prop:=match tb t with|some i=>k (.pt hp.next 0) (hp.var (i.zero.map fun v=>.e (.lit v)))|none=>False
def boxV(d:D)(hp:Hp)(k:D→Hp→Prop):Prop:=match d.cells with|some cs=>k (.pt hp.next 0) (hp.var cs)|none=>False
def Kt(d:D)(i:Nat)(k:D→Prop):Prop:=match d with| .tu ds=>exO (ds[i]?) k|_=>False
end
theorem rj {z:Int}(h1:-9223372036854775808≤z)(h2:z≤9223372036854775807):i64.wrap z=z:=by
 rw[IntKind.wrap_i64];omega
section
variable {P:Program} {tb:TypeId→Option TyE} {hp:Hp} {k:D→Hp→Prop} {kd:D→Prop} {kv:Value→Prop} {ki:Int→Prop}
theorem nP(t:TypeId)(j off:Nat):CM tb t (.pt j off) hp kd=(match tb t,hp.vars.lookup j with
  |some i,some ds=>j<hp.next∧match i.ty.agg with
   |true=>off+i.size≤ds.length∧kd (.ag ((ds.drop off).take i.size))
   |false=>exO (ds[off]?) kd
  |_,_=>False):=bf rfl rfl
theorem JY(t:TypeId)(xs:List E)(off:Nat):CM tb t (.fp xs off) hp kd=(match tb t with
  |some i=>match i.ty.agg with
   |true=>off+i.size≤xs.length∧kd (.ag ((List.range i.size).map fun j=>.e (xs.getD (off+j) .any)))
   |false=>off<xs.length∧kd (.e (xs.getD off .any))
  |_=>False):=bf rfl rfl
theorem zq(t:TypeId)(j off:Nat)(x:D):Cl tb t (.pt j off) x hp k=(match tb t,hp.vars.lookup j,x.cells with
  |some i,some ds,some cs=>cs.length=i.size∧off+i.size≤ds.length∧k .top (hp.set j (ds.take off++cs++ds.drop (off+cs.length)))
  |_,_,_=>False):=bf rfl rfl
theorem Uj(t:TypeId):KO tb t (.e (.lit (.slice none 0 0))) hp k=(match tb t with
  |some i=>match i.ty with
   | .slice e=>match tb e with
    |some j=>0<j.size∧k (.own hp.next j.size 0 []) (hp.tok 0 (j.size,e))
    |none=>k (.e (.lit (.slice none 0 0))) hp
   |_=>k (.e (.lit (.slice none 0 0))) hp
  |none=>k (.e (.lit (.slice none 0 0))) hp):=bf rfl rfl
theorem pickV_t(a b:D):JB (.e (.lit (.bool true))) a b kd=kd a:=bf rfl rfl
theorem pickV_f(a b:D):JB (.e (.lit (.bool false))) a b kd=kd b:=bf rfl rfl
theorem QI(t:TypeId):Ul tb t hp k=(match tb t with|some i=>k (.pt hp.next 0) (hp.var (i.zero.map fun v=>.e (.lit v)))|none=>False):=bf rfl rfl
theorem boxV_eq(d:D):boxV d hp k=(match d.cells with|some cs=>k (.pt hp.next 0) (hp.var cs)|none=>False):=bf rfl rfl
theorem Kr(ds:List D)(i:Nat):Kt (.tu ds) i kd=exO (ds[i]?) kd:=bf rfl rfl
theorem bin_shl(t:TypeId)(j j':IntKind)(a b:Int):nE P .shl t (.e (.lit (.int j a))) (.e (.lit (.int j' b))) kv=(0≤b∧kv (.int j (j.wrap (a*2 ^ min b.toNat j.bits)))):=bf rfl rfl
theorem bin_shr(t:TypeId)(j j':IntKind)(a b:Int):nE P .shr t (.e (.lit (.int j a))) (.e (.lit (.int j' b))) kv=(0≤b∧kv (.int j (a.fdiv (2 ^ min b.toNat j.bits)))):=bf rfl rfl
theorem bin_add(t:TypeId)(j j':IntKind)(a b:Int):nE P .add t (.e (.lit (.int j a))) (.e (.lit (.int j' b))) kv=(j=j'∧kv (.int j (j.wrap (a+b)))):=bf rfl rfl
theorem bin_sub(t:TypeId)(j j':IntKind)(a b:Int):nE P .sub t (.e (.lit (.int j a))) (.e (.lit (.int j' b))) kv=(j=j'∧kv (.int j (j.wrap (a - b)))):=bf rfl rfl
theorem bin_mul(t:TypeId)(j j':IntKind)(a b:Int):nE P .mul t (.e (.lit (.int j a))) (.e (.lit (.int j' b))) kv=(j=j'∧kv (.int j (j.wrap (a*b)))):=bf rfl rfl
theorem bin_quo(t:TypeId)(j j':IntKind)(a b:Int):nE P .quo t (.e (.lit (.int j a))) (.e (.lit (.int j' b))) kv=(j=j'∧b≠0∧kv (.int j (j.wrap (a.tdiv b)))):=bf rfl rfl
theorem bin_rem(t:TypeId)(j j':IntKind)(a b:Int):nE P .rem t (.e (.lit (.int j a))) (.e (.lit (.int j' b))) kv=(j=j'∧b≠0∧kv (.int j (a.tmod b))):=bf rfl rfl
theorem bin_and(t:TypeId)(j j':IntKind)(a b:Int):nE P .and t (.e (.lit (.int j a))) (.e (.lit (.int j' b))) kv=(j=j'∧kv (.int j (j.wrap (BitVec.ofInt j.bits a &&&BitVec.ofInt j.bits b).toNat))):=bf rfl rfl
theorem bin_or(t:TypeId)(j j':IntKind)(a b:Int):nE P .or t (.e (.lit (.int j a))) (.e (.lit (.int j' b))) kv=(j=j'∧kv (.int j (j.wrap (BitVec.ofInt j.bits a |||BitVec.ofInt j.bits b).toNat))):=bf rfl rfl
theorem bin_xor(t:TypeId)(j j':IntKind)(a b:Int):nE P .xor t (.e (.lit (.int j a))) (.e (.lit (.int j' b))) kv=(j=j'∧kv (.int j (j.wrap (BitVec.ofInt j.bits a ^^^ BitVec.ofInt j.bits b).toNat))):=bf rfl rfl
theorem bin_eql(t:TypeId)(j j':IntKind)(a b:Int):nE P .eql t (.e (.lit (.int j a))) (.e (.lit (.int j' b))) kv=(j=j'∧kv (.bool (decide (a=b)))):=bf rfl rfl
theorem bin_neq(t:TypeId)(j j':IntKind)(a b:Int):nE P .neq t (.e (.lit (.int j a))) (.e (.lit (.int j' b))) kv=(j=j'∧kv (.bool (decide (a≠b)))):=bf rfl rfl
theorem bin_lss(t:TypeId)(j j':IntKind)(a b:Int):nE P .lss t (.e (.lit (.int j a))) (.e (.lit (.int j' b))) kv=(j=j'∧kv (.bool (decide (a<b)))):=bf rfl rfl
theorem bin_leq(t:TypeId)(j j':IntKind)(a b:Int):nE P .leq t (.e (.lit (.int j a))) (.e (.lit (.int j' b))) kv=(j=j'∧kv (.bool (decide (a≤b)))):=bf rfl rfl
theorem bin_gtr(t:TypeId)(j j':IntKind)(a b:Int):nE P .gtr t (.e (.lit (.int j a))) (.e (.lit (.int j' b))) kv=(j=j'∧kv (.bool (decide (b<a)))):=bf rfl rfl
theorem bin_geq(t:TypeId)(j j':IntKind)(a b:Int):nE P .geq t (.e (.lit (.int j a))) (.e (.lit (.int j' b))) kv=(j=j'∧kv (.bool (decide (b≤a)))):=bf rfl rfl
theorem Ua(t:TypeId)(a b:ByteArray):nE P .add t (.e (.lit (.string a))) (.e (.lit (.string b))) kv=(a.size+b.size≤9223372036854775807∧kv (.string (a++b))):=bf rfl rfl
theorem Uc(t:TypeId)(a b:Bool):nE P .eql t (.e (.lit (.bool a))) (.e (.lit (.bool b))) kv=(P.underlying t=some .bool∧kv (.bool (a == b))):=bf rfl rfl
theorem Ub(t:TypeId)(a b:Bool):nE P .neq t (.e (.lit (.bool a))) (.e (.lit (.bool b))) kv=(P.underlying t=some .bool∧kv (.bool (!(a == b)))):=bf rfl rfl
theorem T9(t:TypeId)(a b:ByteArray):nE P .eql t (.e (.lit (.string a))) (.e (.lit (.string b))) kv=kv (.bool (decide (a=b))):=bf rfl rfl
theorem T8(t:TypeId)(a b:ByteArray):nE P .neq t (.e (.lit (.string a))) (.e (.lit (.string b))) kv=kv (.bool (decide (a≠b))):=bf rfl rfl
theorem nilV_pt(j off:Nat):nilV (.pt j off) kd=kd (.pt j off):=bf rfl rfl
theorem un_not(t:Bool):unV .not (.e (.lit (.bool t))) kv=kv (.bool !t):=bf rfl rfl
theorem un_neg(j:IntKind)(n:Int):unV .neg (.e (.lit (.int j n))) kv=kv (.int j (j.wrap (0 - n))):=rfl
theorem rB(s:TypeId)(f:Nat)(kf:Nat→Nat→Bool→Prop):pF tb s f kf=(match tb s with
  |some i=>match i.ty with
   | .struct fs=>match fs[f]? with
    |some (off,t)=>match tb t with
     |some j=>kf off j.size j.ty.agg
     |none=>False
    |none=>False
   |_=>False
  |none=>False):=bf rfl rfl
theorem E9(s:TypeId)(f j off:Nat):oU tb s f (.pt j off) kd=pF tb s f fun o z _=>z≠0∧kd (.pt j (off+o)):=bf rfl rfl
theorem Fa(s:TypeId)(f:Nat)(xs:List E)(off:Nat):oU tb s f (.fp xs off) kd=pF tb s f fun o z _=>z≠0∧kd (.fp xs (off+o)):=bf rfl rfl
theorem F5(s:TypeId)(f:Nat)(ds:List D):Dh tb s f (.ag ds) kd=pF tb s f fun o z g=>match g with
   |true=>o+z≤ds.length∧kd (.ag ((ds.drop o).take z))
   |false=>exO (ds[o]?) kd:=bf rfl rfl
theorem rW(t:TypeId)(d:D)(j:IntKind)(x:Int):oN tb t d (.e (.lit (.int j x))) kd=(match tb t with
  |some ti=>match ti.ty with
   | .slice e=>match tb e with
    |some j=>match d.asSl j.size with
     |some (n,xs)=>(0≤x∧x<(n:Int))∧kd (.fp xs (x.toNat*j.size))
     |none=>match d with
      | .ow v off z n=>z=j.size∧(0≤x∧x<(n:Int))∧kd (.pt v (off+x.toNat*j.size))
      |_=>False
    |none=>False
   | .arr n e=>match tb e,d with
    |some j,.pt v off=>(0≤x∧x<(n:Int))∧kd (.pt v (off+x.toNat*j.size))
    |some j,.fp xs off=>(0≤x∧x<(n:Int))∧kd (.fp xs (off+x.toNat*j.size))
    |_,_=>False
   |_=>False
  |none=>False):=by
 unfold oN
 cases tb t <;> rfl
theorem Qd(t:TypeId)(d:D)(j:IntKind)(x:Int):zT tb t d (.e (.lit (.int j x))) kd=(match tb t with
  |some ti=>match ti.ty,d with
   | .str,.e (.lit (.string s))=>(0≤x∧x<(s.size:Int))∧kd (.e (.lit (.int .u8 ((s.data.toList.getD x.toNat 0).toNat:Int))))
   | .arr n e,.ag ds=>match tb e with
    |some j=>(0≤x∧x<(n:Int))∧match j.ty.agg with
     |true=>x.toNat*j.size+j.size≤ds.length∧kd (.ag ((ds.drop (x.toNat*j.size)).take j.size))
     |false=>∃d,ds[x.toNat*j.size]? =some d∧kd d
    |none=>False
   |_,_=>False
  |none=>False):=by
 unfold zT
 cases tb t <;> rfl
theorem rD(t:TypeId)(d:D):ig tb .len [t] [d] hp k=Sr tb t d (atInt k hp):=bf rfl rfl
theorem KE(ts:List TypeId)(j j':IntKind)(x y:Int):ig tb .min ts [.e (.lit (.int j x)),.e (.lit (.int j' y))] hp k=k (.e (.lit (.int j (min x y)))) hp:=by
 unfold ig
 split <;> first|rfl|simp_all
theorem KF(ts:List TypeId)(j j':IntKind)(x y:Int):ig tb .max ts [.e (.lit (.int j x)),.e (.lit (.int j' y))] hp k=k (.e (.lit (.int j (max x y)))) hp:=by
 unfold ig
 split <;> first|rfl|simp_all
theorem DA(t t':TypeId)(s x:D):ig tb .append [t,t'] [s,x] hp k=rF tb t t' s x hp k:=bf rfl rfl
def appOwn(j:TyE)(e:TypeId)(id z n:Nat)(xs:List E)(hp:Hp)(k:D→Hp→Prop)(m:Nat)(ys:List E):Prop:=z=j.size∧hp.live.lookup id=some (n,j.size,e)∧(n+m)*max 1 j.bytes≤140737488355328∧k (.own id j.size (n+m) (xs++ys)) (hp.app id (n+m) (j.size,e))
theorem KR(t t':TypeId)(id z n:Nat)(xs:List E)(x:D):rF tb t t' (.own id z n xs) x hp k=(match tb t with
  |some ti=>match ti.ty with
   | .slice e=>match tb e with
    |some j=>0<j.size∧(x.strOf=none→t'=t)∧(x.strOf≠none→j.bytes=1∧j.zero=[.int .u8 0]∧j.ty.agg=false)∧xV tb t' j.size x (appOwn j e id z n xs hp k)
    |none=>False
   |_=>False
  |none=>False):=bf rfl rfl
theorem R6(t:TypeId)(z:Nat)(x:D)(kn:Nat→List E→Prop):xV tb t z x kn=(match tb t with
  |some i=>match i.ty,x.strOf with
   | .str,some s=>z=1∧kn s.size (s.data.toList.map fun b=>.lit (bv b))
   | .slice _,none=>match x.asSl z with
    |some (m,ys)=>kn m ys
    |none=>False
   |_,_=>False
  |none=>False):=rfl
theorem BS(t:TypeId)(d:D):Sr tb t d ki=(match tb t with
  |some ti=>match ti.ty with
   | .slice e=>match tb e with
    |some j=>match d.asSl j.size with
     |some (n,_)=>ki n
     |none=>match d with
      | .ow _ _ _ n=>ki n
      |_=>False
    |none=>False
   | .str=>match d with
    | .e (.lit (.string s))=>ki s.size
    |_=>False
   | .arr n _=>ki n
   |_=>False
  |none=>False):=bf rfl rfl
theorem vw(t:TypeId)(ps:List (Nat×D)):DB tb t ps kd=(match tb t,g6 ps with
  |some i,some qs=>match i.ty with
   | .struct fs=>(∀f∈fs,(tb f.2).isSome=true)∧match fJ (mV tb fs) (i.zero.map fun v=>D.e (.lit v)) qs with
    |some ds=>kd (.ag ds)
    |none=>False
   | .arr _ e=>match tb e with
    |some j=>match fJ (fun n=>some (n*j.size,j.size)) (i.zero.map fun v=>D.e (.lit v)) qs with
     |some ds=>kd (.ag ds)
     |none=>False
    |none=>False
   |_=>False
  |_,_=>False):=bf rfl rfl
theorem AW.condS {x:Cx}{Q:Exit→List (Nat×D)→Hp→Prop}{tm:List (Nat×D)}{c:Operand}{c1 c2:Code}{b:Bool}(hc:evD tm c=.e (.lit (.bool b)))(ht:b=true→AW P x c1 tm hp Q)(hf:b=false→AW P x c2 tm hp Q):AW P x (.cond c c1 c2) tm hp Q:=by
 refine AW.cond hc ?_
 cases b
 ·exact hf rfl
 ·exact ht rfl
end
end
section
inductive Bef (ops:Array Oper):Nat→Nat→Prop
 |edge (i:Nat) (o:Oper) (e:Edge) (hi:ops[i]? =some o) (he:e∈o.after) (hb:Region.binds .any e=true):Bef ops e.on i
 |trans (j i:Nat) (o:Oper) (e:Edge) (hi:ops[i]? =some o) (he:e∈o.after) (hb:Region.binds .any e=true) (h:Bef ops j e.on):Bef ops j i
def fz {α:Type}(n:Nat)(k:Nat→α):α:=match n with
 |0=>k 0
 |m+1=>k (m+1)
theorem Oy {α:Type}{n:Nat}{k:Nat→α}:fz n k=k n:=by cases n <;> rfl
def look:List (Nat×Nat)→Nat→Nat
 |[],_=>0
 |(j,b)::m,k=>if Nat.beq j k then b else look m k
def zJ(m:List (Nat×Nat))(l:List Edge)(s:Nat):Nat:=match l with
 |[]=>s
 |e::l=>if Region.binds .any e then fz (s |||2 ^ e.on |||look m e.on) fun s=>zJ m l s else zJ m l s
theorem zI(m:List (Nat×Nat)):∀(l:List Edge) (s j:Nat),(zJ m l s).testBit j=true→
  s.testBit j=true∨∃e∈l,Region.binds .any e=true∧(e.on=j∨(look m e.on).testBit j=true)
 |[],s,j,h=>.inl h
 |e::l,s,j,h=>by
  unfold zJ at h
  split at h
  ·rename_i hb
   rw[Oy] at h
   rcases zI m l _ j h with h1|⟨e',h1,h2⟩
   ·rw[Im,Im] at h1
    simp only[OY] at h1
    rcases h1 with (h1|h1)|h1
    ·exact .inl h1
    ·rw[Nat.testBit_two_pow] at h1
     exact .inr ⟨e,j8 ..,hb,.inl (by simpa using h1)⟩
    ·exact .inr ⟨e,j8 ..,hb,.inr h1⟩
   ·exact .inr ⟨e',io _ h1,h2⟩
  ·rcases zI m l _ j h with h1|⟨e',h1,h2⟩
   ·exact .inl h1
   ·exact .inr ⟨e',io _ h1,h2⟩
theorem FC {ops:Array Oper}:∀{m:List (Nat×Nat)},(∀p∈m,∀j,p.2.testBit j=true→Bef ops j p.1)→∀k j,(look m k).testBit j=true→Bef ops j k
 |[],_,k,j,h=>by simp[look] at h
 |(i,b)::m,hm,k,j,h=>by
  unfold look at h
  split at h
  ·rename_i he
   obtain rfl:i=k:=f7 he
   exact hm _ (j8 ..) j h
  ·exact FC (fun p hp=>hm p (io _ hp)) k j h
def mT(ops:Array Oper)(o:Oper):List Tmp:=
 (o.op.operands.toList.filterMap fun| .tmp t=>some t|_=>none)++(match o.guard with
  |some (j,_)=>((ops[j]?).bind (·.dst)).toList
  |none=>[])
def subB(a b:Nat):Bool:=Nat.beq (a &&&b) a
theorem zp {a b j:Nat}(h:subB a b=true)(hj:a.testBit j=true):b.testBit j=true:=by
 have h:=f7 h
 rw[←h,Nat.testBit_and] at hj
 simp only[c8] at hj
 exact hj.2
def wh(c:Bool)(s i:Nat):Nat:=if c then s |||2 ^ i else s
theorem zK {c:Bool}{s i j:Nat}(h:s.testBit j=true):(wh c s i).testBit j=true:=by
 unfold wh;split
 ·rw[Im,h];rfl
 ·exact h
theorem zL {s i:Nat}:(wh true s i).testBit i=true:=by
 unfold wh;rw[an rfl,Im,Nat.testBit_two_pow];simp
def Fo(s:List (Tmp×Nat))(i:Nat):List Tmp→List (Tmp×Nat)
 |[]=>s
 |t::ts=>Fo ((t,i)::s) i ts
theorem zj {i:Nat}:∀{ts:List Tmp} {s:List (Tmp×Nat)} {p:Tmp×Nat},p∈s→p∈Fo s i ts
 |[],_,_,h=>h
 |_::ts,_,_,h=>zj (ts:=ts) (io _ h)
theorem Fm {i:Nat}:∀{ts:List Tmp} {s:List (Tmp×Nat)} {t:Nat},t∈ts→(t,i)∈Fo s i ts
 |t'::ts,s,t,h=>by
  show (t,i)∈Fo ((t',i)::s) i ts
  rcases e8.1 h with rfl|h
  ·exact zj (j8 ..)
  ·exact Fm h
def Tw(d:Option Tmp)(b:Nat)(u pr:List (Tmp×Nat)):Bool:=match d with
 |none=>true
 |some t=>(u.all fun p=>!Nat.beq p.1 t||b.testBit p.2)&&pr.all fun p=>!Nat.beq p.1 t
def TT(d:Option Tmp)(i:Nat)(pr:List (Tmp×Nat)):List (Tmp×Nat):=match d with
 |none=>pr
 |some t=>(t,i)::pr
def fzl {α:Type}:List Nat→(List Nat→α)→α
 |[],k=>k []
 |t::ts,k=>fz t fun t=>fzl ts fun ts=>k (t::ts)
theorem Tv {α:Type}:∀{l:List Nat} {k:List Nat→α},fzl l k=k l
 |[],_=>rfl
 |_::_,_=>by rw[fzl,Oy,Tv]
def Rl {α:Type}(u:List (Tmp×Nat))(i:Nat):List Tmp→(List (Tmp×Nat)→α)→α
 |[],k=>k u
 |t::ts,k=>Rl ((t,i)::u) i ts k
theorem Ji {α:Type}{i:Nat}:∀{ts:List Tmp} {u:List (Tmp×Nat)} {k:List (Tmp×Nat)→α},Rl u i ts k=k (Fo u i ts)
 |[],_,_=>rfl
 |_::ts,_,_=>Ji (ts:=ts)
def TS {α:Type}(d:Option Tmp)(i:Nat)(pr:List (Tmp×Nat))(k:List (Tmp×Nat)→α):α:=match d with
 |none=>k pr
 |some t=>fz t fun t=>k ((t,i)::pr)
theorem TR {α:Type}{d:Option Tmp}{i:Nat}{pr:List (Tmp×Nat)}{k:List (Tmp×Nat)→α}:TS d i pr k=k (TT d i pr):=by
 cases d with
 |none=>rfl
 |some t=>rw[TS,Oy];rfl
def ordG(tb:TypeId→Option TyE)(L:List FuncId)(ops:Array Oper):List Oper→Nat→List (Nat×Nat)→Nat→Nat→Nat→List (Tmp×Nat)→List (Tmp×Nat)→Bool
 |[],_,_,_,_,_,_,_=>true
 |o::os,i,m,lo,ld,vs,u,pr=>
  fz (zJ m o.after.toList 0) fun b=>fzl (mT ops o) fun ts=>
  o.after.toList.all (fun e=>!Region.binds .any e||Nat.blt e.on i)&&
  (gc tb L o.op||subB lo b)&&
  (!oD o.op||subB vs b)&&
  (!wC tb L o.op||subB ld b)&&
  Tw o.dst b u pr&&
  ts.all (fun t=>pr.all fun p=>!Nat.beq p.1 t||b.testBit p.2)&&
  fz (wh (!gc tb L o.op) lo i) fun lo=>fz (wh (oD o.op) ld i) fun ld=>fz (wh (wC tb L o.op) vs i) fun vs=>fz (i+1) fun i'=>
  Rl u i ts fun u=>TS o.dst i pr fun pr=>ordG tb L ops os i' ((i,b)::m) lo ld vs u pr
def t6(tb:TypeId→Option TyE)(L:List FuncId)(ops:Array Oper):Bool:=ordG tb L ops ops.toList 0 [] 0 0 0 [] []
structure OrdT(tb:TypeId→Option TyE)(L:List FuncId)(ops:Array Oper):Prop where
 low:∀(i:Nat) (o:Oper) (e:Edge),ops[i]? =some o→e∈o.after→Region.binds .any e=true→e.on<i
 dst:∀(i j:Nat) (o o':Oper) (t:Tmp),ops[i]? =some o→ops[j]? =some o'→o.dst=some t→o'.dst=some t→i=j
 data:∀(i j:Nat) (o o':Oper) (t:Tmp),ops[i]? =some o→ops[j]? =some o'→i≠j→t∈mT ops o→o'.dst=some t→(j<i∧Bef ops j i)∨(i<j∧Bef ops i j)
 loud:∀(i j:Nat) (o o':Oper),ops[i]? =some o→ops[j]? =some o'→i<j→gc tb L o.op=false→gc tb L o'.op=false→Bef ops i j
 vars:∀(i j:Nat) (o o':Oper),ops[i]? =some o→ops[j]? =some o'→i≠j→oD o.op=true→wC tb L o'.op=true→(j<i∧Bef ops j i)∨(i<j∧Bef ops i j)
structure OrdP(tb:TypeId→Option TyE)(L:List FuncId)(ops:Array Oper)(j i:Nat)(o' o:Oper):Prop where
 dst:∀t,o'.dst=some t→o.dst≠some t
 fwd:∀t,t∈mT ops o→o'.dst=some t→Bef ops j i
 bwd:∀t,t∈mT ops o'→o.dst=some t→Bef ops j i
 loud:gc tb L o.op=false→gc tb L o'.op=false→Bef ops j i
 v1:oD o.op=true→wC tb L o'.op=true→Bef ops j i
 v2:wC tb L o.op=true→oD o'.op=true→Bef ops j i
structure OrdI(tb:TypeId→Option TyE)(L:List FuncId)(ops:Array Oper)(i:Nat)(m:List (Nat×Nat))(lo ld vs:Nat)(u pr:List (Tmp×Nat)):Prop where
 m:∀p∈m,∀j,p.2.testBit j=true→Bef ops j p.1
 lo:∀j o,j<i→ops[j]? =some o→gc tb L o.op=false→lo.testBit j=true
 ld:∀j o,j<i→ops[j]? =some o→oD o.op=true→ld.testBit j=true
 vs:∀j o,j<i→ops[j]? =some o→wC tb L o.op=true→vs.testBit j=true
 u:∀j o t,j<i→ops[j]? =some o→t∈mT ops o→(t,j)∈u
 pr:∀j o t,j<i→ops[j]? =some o→o.dst=some t→(t,j)∈pr
theorem Fy {tb:TypeId→Option TyE}{L:List FuncId}{ops:Array Oper}:∀(os:List Oper) (i:Nat) (m:List (Nat×Nat)) (lo ld vs:Nat) (u pr:List (Tmp×Nat)),ops.toList.drop i=os→OrdI tb L ops i m lo ld vs u pr→ordG tb L ops os i m lo ld vs u pr=true→
  ∀k o,i≤k→ops[k]? =some o→(∀e∈o.after,Region.binds .any e=true→e.on<k)∧∀j o',j<k→ops[j]? =some o'→OrdP tb L ops j k o' o
 |[],i,m,lo,ld,vs,u,pr,hd,_,_,k,o,hk,hok=>by
  have:ops.toList.length≤i:=List.drop_eq_nil_iff.1 hd
  have h2:k<ops.size:=(dW.1 hok).1
  simp at this
  omega
 |o::os,i,m,lo,ld,vs,u,pr,hd,hI,h,k,ok,hk,hok=>by
  have ho:ops[i]? =some o:=by
   have:(ops.toList.drop i)[0]? =some o:=by rw[hd];rfl
   rw[nt] at this
   simpa using this
  have AY:ops.toList.drop (i+1)=os:=by
   rw[←j7,hd];rfl
  unfold ordG at h
  simp only[Oy,Tv,Ji,TR,c8] at h
  obtain⟨⟨⟨⟨⟨⟨h1,h2⟩,h3⟩,h4⟩,h5⟩,h6⟩,h7⟩:=h
  have hb:∀j,(zJ m o.after.toList 0).testBit j=true→Bef ops j i:=by
   intro j hj
   rcases zI m _ _ _ hj with h|⟨e,he,hbi,h⟩
   ·simp at h
   ·rcases h with rfl|h
    ·exact .edge _ o e ho (by simpa using he) hbi
    ·exact .trans j _ o e ho (by simpa using he) hbi (FC hI.m _ _ h)
  rcases bO i k with hik|hik
  ·refine Fy os (i+1) _ _ _ _ _ _ AY ?_ h7 k ok hik hok
   have split:∀{j:Nat} {oj:Oper} {Q:Nat→Oper→Prop},j<i+1→ops[j]? =some oj→(j<i→ops[j]? =some oj→Q j oj)→Q i o→Q j oj:=by
    intro j oj Q hj qc hold uh
    rcases bO j i with h|h
    ·exact hold h qc
    ·obtain rfl:j=i:=by omega
     obtain rfl:o=oj:=by rw[ho] at qc;injection qc
     exact uh
   refine⟨fun p hp=>?_,fun j oj hj qc=>?_,fun j oj hj qc=>?_,fun j oj hj qc=>?_,fun j oj t hj qc=>?_,fun j oj t hj qc=>?_⟩
   ·rcases e8.1 hp with rfl|hp
    ·exact hb
    ·exact hI.m p hp
   ·refine split (Q:=fun j oj=>gc tb L oj.op=false→(wh (!gc tb L o.op) lo i).testBit j=true) hj qc (fun hj qc hq=>zK (hI.lo j oj hj qc hq)) fun hq=>?_
    rw[hq];exact zL
   ·refine split (Q:=fun j oj=>oD oj.op=true→(wh (oD o.op) ld i).testBit j=true) hj qc (fun hj qc hq=>zK (hI.ld j oj hj qc hq)) fun hq=>?_
    rw[hq];exact zL
   ·refine split (Q:=fun j oj=>wC tb L oj.op=true→(wh (wC tb L o.op) vs i).testBit j=true) hj qc (fun hj qc hq=>zK (hI.vs j oj hj qc hq)) fun hq=>?_
    rw[hq];exact zL
   ·exact split (Q:=fun j oj=>t∈mT ops oj→(t,j)∈Fo u i (mT ops o)) hj qc (fun hj qc hq=>zj (hI.u j oj t hj qc hq)) fun hq=>Fm hq
   ·refine split (Q:=fun j oj=>oj.dst=some t→(t,j)∈TT o.dst i pr) hj qc (fun hj qc hq=>?_) fun hq=>?_
    ·have:=hI.pr j oj t hj qc hq
     unfold TT
     split
     ·exact this
     ·exact io _ this
    ·rw[hq];exact j8 ..
  ·obtain rfl:i=k:=by omega
   obtain rfl:o=ok:=by rw[ho] at hok;injection hok
   have fresh:∀t,o.dst=some t→(∀j,(t,j)∈u→Bef ops j i)∧∀p∈pr,p.1≠t:=by
    intro t ht
    rw[ht] at h5
    simp only[Tw,c8,ww,bx] at h5
    refine⟨fun j hj=>?_,fun p hp e=>?_⟩
    ·have:=h5.1 _ hj
     simp only[yG,ep,Bool.false_or] at this
     exact hb j this
    have:=h5.2 p hp
    rw[e,yG] at this
    cases this
   refine⟨fun e he hbe=>?_,fun j o' hj qc=>⟨fun t ht L8=>?_,fun t ht L8=>?_,fun t ht L8=>?_,fun hq hq'=>?_,fun hl hv=>?_,fun hv hl=>?_⟩⟩
   ·have:=bx.1 h1 e (by simpa using he)
    rw[hbe] at this
    simpa[Nat.blt_eq] using this
   ·exact (fresh t L8).2 _ (hI.pr j o' t hj qc ht) rfl
   ·have:=bx.1 (bx.1 h6 t ht) _ (hI.pr j o' t hj qc L8)
    simp only[yG,ep,Bool.false_or] at this
    exact hb j this
   ·exact (fresh t L8).1 j (hI.u j o' t hj qc ht)
   ·rw[hq] at h2
    exact hb j (zp (by simpa using h2) (hI.lo j o' hj qc hq'))
   ·rw[hl] at h3
    exact hb j (zp (by simpa using h3) (hI.vs j o' hj qc hv))
   ·rw[hv] at h4
    exact hb j (zp (by simpa using h4) (hI.ld j o' hj qc hl))
theorem Cy {tb:TypeId→Option TyE}{L:List FuncId}{ops:Array Oper}(h:t6 tb L ops=true):OrdT tb L ops:=by
 have key:=Fy (tb:=tb) (L:=L) (ops:=ops) ops.toList 0 [] 0 0 0 [] [] rfl
  ⟨fun p hp=>(by cases hp),fun j o hj=>absurd hj (uU _),fun j o hj=>absurd hj (uU _),fun j o hj=>absurd hj (uU _),fun j o t hj=>absurd hj (uU _),fun j o t hj=>absurd hj (uU _)⟩ h
 refine⟨fun i o e hi he hbe=>(key i o (il _) hi).1 e he hbe,fun i j o o' t hi hj ht L8=>?_,fun i j o o' t hi hj lr ht L8=>?_,fun i j o o' hi hj bh hq hq'=>?_,fun i j o o' hi hj lr hq hv=>?_⟩
 ·rcases xm i j with h1|h1|h1
  ·exact absurd L8 (((key j o' (il _) hj).2 i o h1 hi).dst t ht)
  ·exact h1
  ·exact absurd ht (((key i o (il _) hi).2 j o' h1 hj).dst t L8)
 ·rcases bO i j with h1|h1
  ·exact .inr ⟨h1,((key j o' (il _) hj).2 i o h1 hi).bwd t ht L8⟩
  ·exact .inl ⟨by omega,((key i o (il _) hi).2 j o' (by omega) hj).fwd t ht L8⟩
 ·exact ((key j o' (il _) hj).2 i o bh hi).loud hq' hq
 ·rcases bO i j with h1|h1
  ·exact .inr ⟨h1,((key j o' (il _) hj).2 i o h1 hi).v2 hv hq⟩
  ·exact .inl ⟨by omega,((key i o (il _) hi).2 j o' (by omega) hj).v1 hq hv⟩
section
variable {P:Program} {tb:TypeId→Option TyE} {L:List FuncId}
structure Run(P:Program)(tb:TypeId→Option TyE)(L:List FuncId)(ops:Array Oper)(n:Nat)(dd:Nat→D)(hh:Nat→Hp)(ac:Nat→Bool)(tms:Nat→List (Nat×D)):Prop where
 ts:∀(i:Nat) (o:Oper),i<n→ops[i]? =some o→tms (i+1)=xR o.dst (dd i) (tms i)
 on:∀(i:Nat) (o:Oper),i<n→ops[i]? =some o→ac i=true→Gd ops o (tms i) true∧mz P tb (.any L) o (evD (tms i)) (hh i) (dd i) (hh (i+1))
 off:∀(i:Nat) (o:Oper),i<n→ops[i]? =some o→ac i=false→Gd ops o (tms i) false∧Offs o (evD (tms i)) (dd i)∧hh (i+1)=hh i
theorem LD {ops:Array Oper}{K:List (Nat×D)→Hp→Prop}:∀(rest:List Oper) (i:Nat) (dd:Nat→D) (hh:Nat→Hp) (ac:Nat→Bool) (tms:Nat→List (Nat×D)),Run P tb L ops i dd hh ac tms→ops.toList.drop i=rest→aQ P tb (.any L) ops K rest (tms i) (hh i)→
  ∃dd' S4 ac' GP,Run P tb L ops (i+rest.length) dd' S4 ac' GP∧K (GP (i+rest.length)) (S4 (i+rest.length))∧GP 0=tms 0∧S4 0=hh 0
 |[],i,dd,hh,ac,tms,hr,_,h=>by
  cases h with
  |nil h=>exact⟨dd,hh,ac,tms,hr,h,rfl,rfl⟩
  |wk hmd=>cases hmd
 |o::rest,i,dd,hh,ac,tms,hr,hd,h=>by
  have ho:ops[i]? =some o:=by
   have:(ops.toList.drop i)[0]? =some o:=by rw[hd];rfl
   rw[nt] at this
   simpa using this
  have AY:ops.toList.drop (i+1)=rest:=by
   rw[←j7,hd];rfl
  have ext:∀(d:D) (hp':Hp) (b:Bool),((b=true→Gd ops o (tms i) true∧mz P tb (.any L) o (evD (tms i)) (hh i) d hp')∧(b=false→Gd ops o (tms i) false∧Offs o (evD (tms i)) d∧hp'=hh i))→aQ P tb (.any L) ops K rest (xR o.dst d (tms i)) hp'→
    ∃dd' S4 ac' GP,Run P tb L ops (i+(o::rest).length) dd' S4 ac' GP∧K (GP (i+(o::rest).length)) (S4 (i+(o::rest).length))∧GP 0=tms 0∧S4 0=hh 0:=by
   intro d hp' b hb SK
   have bm:Run P tb L ops (i+1) (fun j=>if j=i then d else dd j) (fun j=>if j=i+1 then hp' else hh j) (fun j=>if j=i then b else ac j) (fun j=>if j=i+1 then xR o.dst d (tms i) else tms j):=by
    refine⟨fun j oj hj qc=>?_,fun j oj hj qc Lh=>?_,fun j oj hj qc Lh=>?_⟩
    ·by_cases Bw:j=i
     ·subst Bw
      obtain rfl:o=oj:=by rw[ho] at qc;injection qc
      simp
     ·have h5:=hr.ts j oj (by omega) qc
      have h6:j+1≠i+1:=by omega
      have h7:j≠i+1:=by omega
      simp only[h6,h7,Bw,m7]
      exact h5
    ·by_cases Bw:j=i
     ·subst Bw
      obtain rfl:o=oj:=by rw[ho] at qc;injection qc
      have:b=true:=by simpa using Lh
      simpa using hb.1 this
     ·have h5:ac j=true:=by simpa[Bw] using Lh
      have h6:j+1≠i+1:=by omega
      have h7:j≠i+1:=by omega
      simp only[h6,h7,Bw,m7]
      exact hr.on j oj (by omega) qc h5
    ·by_cases Bw:j=i
     ·subst Bw
      obtain rfl:o=oj:=by rw[ho] at qc;injection qc
      have:b=false:=by simpa using Lh
      simpa using hb.2 this
     ·have h5:ac j=false:=by simpa[Bw] using Lh
      have h6:j+1≠i+1:=by omega
      have h7:j≠i+1:=by omega
      simp only[h6,h7,Bw,m7]
      exact hr.off j oj (by omega) qc h5
   obtain⟨dd',S4,ac',GP,h1,h2,h3,h4⟩:=LD (ops:=ops) (K:=K) rest (i+1) _ _ _ _ bm AY (by rw[an rfl,an rfl];exact SK)
   refine⟨dd',S4,ac',GP,?_,?_,?_,?_⟩
   ·rw[lc,show i+(rest.length+1)=i+1+rest.length by omega];exact h1
   ·rw[lc,show i+(rest.length+1)=i+1+rest.length by omega];exact h2
   ·rw[h3];exact ifn_
   ·rw[h4];exact ifn_
  cases h with
  |on d hp' hg h2 h1=>exact ext d hp' true ⟨fun _=>⟨hg,h2⟩,fun h=>by cases h⟩ h1
  |off d hg hs h1=>exact ext d (hh i) false ⟨fun h=>(by cases h),fun _=>⟨hg,hs,rfl⟩⟩ h1
  |sq hmd=>cases hmd
  |wk hmd=>cases hmd
theorem Run.quiet_step {ops:Array Oper}{n:Nat}{dd:Nat→D}{hh:Nat→Hp}{ac:Nat→Bool}{tms:Nat→List (Nat×D)}(hr:Run P tb L ops n dd hh ac tms){j:Nat}{o:Oper}(hj:j<n)(ho:ops[j]? =some o)(hq:gc tb L o.op=true):hh (j+1)=hh j:=by
 cases Lh:ac j with
 |true=>exact ((hr.on j o hj ho Lh).2.quiet hq).1
 |false=>exact (hr.off j o hj ho Lh).2.2
theorem Run.fr_step {ops:Array Oper}{n:Nat}{dd:Nat→D}{hh:Nat→Hp}{ac:Nat→Bool}{tms:Nat→List (Nat×D)}(hr:Run P tb L ops n dd hh ac tms){j:Nat}{o:Oper}(hj:j<n)(ho:ops[j]? =some o)(hq:wC tb L o.op=false):Fr (hh j) (hh (j+1)):=by
 cases Lh:ac j with
 |true=>exact (hr.on j o hj ho Lh).2.fr hq
 |false=>rw[(hr.off j o hj ho Lh).2.2];exact Fr.refl _
theorem Fr.trans {a b c:Hp}(h:Fr a b)(h':Fr b c):Fr a c:=⟨cg h.1 h'.1,fun j hj=>(h'.2 j (bC hj h.1)).trans (h.2 j hj)⟩
theorem Run.frs {ops:Array Oper}(hh:Nat→Hp){a b:Nat}(A2:a≤b)(hb:b≤ops.size)(h:∀j o,a≤j→j<b→ops[j]? =some o→Fr (hh j) (hh (j+1))):Fr (hh a) (hh b):=by
 induction b with
 |zero=>
      obtain rfl:a=0:=by omega
      exact Fr.refl _
 |succ b ih=>
  rcases bO a (b+1) with h1|h1
  ·have bh:b<ops.size:=by omega
   exact (ih (by omega) (by omega) fun j o h2 h3 h4=>h j o h2 (by omega) h4).trans (h b ops[b] (by omega) (by omega) (pX bh))
  ·obtain rfl:a=b+1:=by omega
   exact Fr.refl _
theorem Run.same {α:Type}{ops:Array Oper}(f:Nat→α){a b:Nat}(A2:a≤b)(hb:b≤ops.size)(h:∀j o,a≤j→j<b→ops[j]? =some o→f (j+1)=f j):f b=f a:=by
 induction b with
 |zero=>
      obtain rfl:a=0:=by omega
      rfl
 |succ b ih=>
  rcases bO a (b+1) with h1|h1
  ·have bh:b<ops.size:=by omega
   rw[h b ops[b] (by omega) (by omega) (pX bh)]
   exact ih (by omega) (by omega) fun j o h2 h3 h4=>h j o h2 (by omega) h4
  ·obtain rfl:a=b+1:=by omega
   rfl
theorem Run.lookup {ops:Array Oper}{n:Nat}{dd:Nat→D}{hh:Nat→Hp}{ac:Nat→Bool}{tms:Nat→List (Nat×D)}(hr:Run P tb L ops n dd hh ac tms)(hn:n≤ops.size):∀{i:Nat} {t:Nat} {d:D},i≤n→(tms i).lookup t=some d→
  (∃j o,j<i∧ops[j]? =some o∧o.dst=some t∧d=dd j)∨((∀j o,j<i→ops[j]? =some o→o.dst≠some t)∧(tms 0).lookup t=some d)
 |0,t,d,_,h=>.inr ⟨fun j _ hj=>by omega,h⟩
 |i+1,t,d,hi,h=>by
  have bh:i<ops.size:=by omega
  have ho:ops[i]? =some ops[i]:=pX bh
  rw[hr.ts i _ (by omega) ho] at h
  by_cases hd:(ops[i]).dst=some t
  ·rw[hd] at h
   rw[show (xR (some t) (dd i) (tms i)).lookup t=some (dd i) from ah] at h
   injection h with h
   exact .inl ⟨i,_,dH _,ho,hd,h.symm⟩
  ·have h':(tms i).lookup t=some d:=by
    rw[←h]
    cases hdd:(ops[i]).dst with
    |none=>rfl
    |some s=>exact (al (fun e=>hd (by rw[hdd,e]))).symm
   rcases hr.lookup hn (show i≤n by omega) h' with⟨j,o,h1,h2,h3,h4⟩|⟨h1,h2⟩
   ·exact .inl ⟨j,o,by omega,h2,h3,h4⟩
   ·refine .inr ⟨fun j o hj qc=>?_,h2⟩
    rcases bO j i with h3|h3
    ·exact h1 j o h3 qc
    ·obtain rfl:j=i:=by omega
     obtain rfl:ops[j]=o:=by rw[ho] at qc;injection qc
     exact hd
def LookL(ops:Array Oper)(dd:Nat→D)(tm0:List (Nat×D))(listed:Array Bool)(t:Nat)(d:D):Prop:=
 (∃i o,ops[i]? =some o∧listed.getD i false=true∧o.dst=some t∧d=dd i)∨((∀i o,ops[i]? =some o→listed.getD i false=true→o.dst≠some t)∧tm0.lookup t=some d)
structure InvA(tb:TypeId→Option TyE)(L:List FuncId)(x:Cx)(ops:Array Oper)(dd:Nat→D)(hh:Nat→Hp)(tm0:List (Nat×D))(listed:Array Bool)(a:Act)(w:World)(m:Nat)(g:Gh):Prop where
 size:listed.size=ops.size
 closed:∀(i:Nat) (o:Oper) (e:Edge),ops[i]? =some o→listed.getD i false=true→e∈o.after→Region.binds .any e=true→listed.getD e.on false=true
 le:m≤ops.size
 loud:∀(j:Nat) (o:Oper),ops[j]? =some o→gc tb L o.op=false→(listed.getD j false=true↔j<m)
 hr:HR x.B (hh m) g w
 look:∀t d,LookL ops dd tm0 listed t d→aF (hh m) g w d (a.tmps.getD t undef)
 tsz:a.tmps.size=x.N
 df:a.defers=x.df
 bl:Below x.B x.w0 w
 fr:∀p:Addr,p.block<x.B→x.F0 p→g.F p
 mo:bu x.hp0 x.g0 x.w0 (hh m) g w
theorem Bef.listed {ops:Array Oper}{listed:Array Bool}(wV:∀(i:Nat) (o:Oper) (e:Edge),ops[i]? =some o→listed.getD i false=true→e∈o.after→Region.binds .any e=true→listed.getD e.on false=true){j i:Nat}(h:Bef ops j i):listed.getD i false=true→listed.getD j false=true:=by
 induction h with
 |edge i o e hi he hb=>exact fun hl=>wV i o e hi hl he hb
 |trans j i o e hi he hb _ ih=>exact fun hl=>ih (wV i o e hi hl he hb)
theorem Bef.ready {ops:Array Oper}{listed:Array Bool}(wV:∀(i:Nat) (o:Oper) (e:Edge),ops[i]? =some o→listed.getD i false=true→e∈o.after→Region.binds .any e=true→listed.getD e.on false=true){j i:Nat}(h:Bef ops j i)(jp:∀o,ops[i]? =some o→∀e∈o.after,Region.binds .any e=true→listed.getD e.on false=true):listed.getD j false=true:=by
 cases h with
 |edge _ o e hi he hb=>exact jp o hi e he hb
 |trans _ _ o e hi he hb h=>exact h.listed wV (jp o hi e he hb)
theorem Gd.wanted' {ops:Array Oper}{o:Oper}{tm:List (Nat×D)}{hp:Hp}{w:World}{a:Act}{b:Bool}{g:Gh}(h:Gd ops o tm b)(hr:∀t d,t∈mT ops o→tm.lookup t=some d→aF hp g w d (a.tmps.getD t undef)):Region.wanted o (yielded ops a.tmps)=b:=by
 unfold Gd at h
 unfold Region.wanted
 split at h
 ·rename_i hg
  rw[hg,h]
 ·rename_i j want hg
  rw[hg]
  dsimp only
  rcases h with⟨t,c,h1,h2,h3⟩|⟨t,h1,h2,rfl⟩
  rotate_left
  ·have hm:t∈mT ops o:=by
    unfold mT
    rw[hg]
    dsimp only
    rw[h1]
    exact jK.2 (.inr (by simp))
   have hv:=hr t _ hm h2
   have hy:yielded ops a.tmps j=none:=by
    unfold yielded
    rw[h1]
    simp only[DS]
    cases ht:a.tmps[t]? with
    |none=>rfl
    |some u=>
     have hu:a.tmps.getD t undef=u:=by simp[e7,ht]
     rw[hu] at hv
     cases hv with
     |tu _ cs hl hr=>rfl
   rw[hy];rfl
  have hm:t∈mT ops o:=by
   unfold mT
   rw[hg]
   dsimp only
   rw[h1]
   exact jK.2 (.inr (by simp))
  have hv:=(hr t _ hm h2).lit
  have hy:yielded ops a.tmps j=some c:=by
   unfold yielded
   rw[h1]
   simp only[DS]
   cases ht:a.tmps[t]? with
   |none=>simp[e7,ht,undef] at hv
   |some u=>
    have:u=.bool c:=by simpa[e7,ht] using hv
    rw[this]
  rw[hy,←h3]
  rfl
theorem CN {listed:Array Bool}{i:Nat}(hi:i<listed.size)(j:Nat):(listed.setIfInBounds i true).getD j false=true↔j=i∨listed.getD j false=true:=by
 by_cases Bw:j=i
 ·subst Bw
  simp[hi]
 ·simp[e7,DT (lS Bw),Bw]
def unl(listed:Array Bool)(n:Nat):Nat:=((List.range n).filter fun j=>!listed.getD j false).length
theorem GM {listed:Array Bool}{n i:Nat}(hi:i<n)(hs:i<listed.size)(hf:listed.getD i false=false):unl (listed.setIfInBounds i true) n<unl listed n:=by
 unfold unl
 have hsub:∀l:List Nat,((l.filter fun j=>!(listed.setIfInBounds i true).getD j false).length≤(l.filter fun j=>!listed.getD j false).length)∧(i∈l→(l.filter fun j=>!(listed.setIfInBounds i true).getD j false).length<(l.filter fun j=>!listed.getD j false).length):=by
  intro l
  induction l with
  |nil=>exact⟨aC _,fun h=>by cases h⟩
  |cons k l ih=>
   by_cases hki:k=i
   ·subst hki
    have e1:(listed.setIfInBounds k true).getD k false=true:=(CN hs k).2 (.inl rfl)
    simp only[M0,e1,hf,ep,uY,fS,lc]
    exact⟨by have:=ih.1;simp at this ⊢;omega,fun _=>by have:=ih.1;simp at this ⊢;omega⟩
   ·have e1:(listed.setIfInBounds i true).getD k false=listed.getD k false:=by
     simp[e7,DT (lS hki)]
    simp only[M0,e1]
    cases listed.getD k false with
    |true=>exact⟨ih.1,fun h=>ih.2 (by rcases e8.1 h with h|h;exact absurd h.symm hki;exact h)⟩
    |false=>
     simp only[uY,fS,lc]
     exact⟨by have:=ih.1;omega,fun h=>by have:=ih.2 (by rcases e8.1 h with h|h;exact absurd h.symm hki;exact h);omega⟩
 exact (hsub (List.range n)).2 (by simpa using hi)
theorem PF {op:Op}(h:wC tb L op=true):varB tb op=true:=by have h:=varL_C h;cases op <;> first|rfl|exact h|cases h
theorem JW {op:Op}(hv:varB tb op=true):gc tb L op=false:=by
 have h1:qz op=false:=by
  cases op <;> first|rfl|cases hv|skip
  rename_i c
  obtain⟨callee,aS,ts⟩:=c
  cases callee with
  |builtin b=>cases b <;> first|rfl|cases hv
  |_=>first|rfl|cases hv
 have h2:xb tb L op=false:=by
  cases op <;> first|rfl|skip
  rename_i c
  show ((match c.callee with| .value (.func f)=>L.elem f|_=>false)&&!hvB tb c)=false
  have vk:(hvB tb c||cpB tb c)=true:=hv
  obtain⟨callee,aS,ts⟩:=c
  cases callee with
  |value x=>
   have hv2:hvB tb ⟨.value x,aS,ts⟩=true:=by simpa[cpB] using vk
   rw[hv2];simp
  |_=>rfl
 unfold gc
 rw[h1,h2];rfl
theorem I1 {x:Cx}{ops:Array Oper}{dd:Nat→D}{hh:Nat→Hp}{ac:Nat→Bool}{tms:Nat→List (Nat×D)}{Q:Exit→Act→World→Prop}(hN:gr x.N ops=true)(pM:OrdT tb L ops)(bm:Run P tb L ops ops.size dd hh ac tms)
  (hQ:∀a w,RS x (tms ops.size) (hh ops.size) a w→Q .normal a w):∀(fuel:Nat) (listed:Array Bool) (a:Act) (w:World) (m:Nat) (g:Gh),InvA tb L x ops dd hh (tms 0) listed a w m g→unl listed ops.size≤fuel→wpAny P .any ops Q fuel listed a w:=by
 -- when all are listed
 have fin:∀(listed:Array Bool) (a:Act) (w:World) (m:Nat) (g:Gh),InvA tb L x ops dd hh (tms 0) listed a w m g→Region.ready .any ops listed=[]→Q .normal a w:=by
  intro listed a w m g hI hready
  have jp:∀i,i<ops.size→listed.getD i false=true:=by
   intro i
   induction i using Nat.strongRecOn with
   |_ i ih=>
    intro hi
    cases hl:listed.getD i false with
    |true=>rfl
    |false=>
     exfalso
     have EY:i∈Region.ready .any ops listed:=by
      refine mem_ready.2 ⟨?_,ops[i],pX hi,fun e he hb=>?_⟩
      ·have hsz:=hI.size
       have bh:i<listed.size:=by omega
       simpa[e7,bh] using hl
      ·have:=pM.low i _ e (pX hi) he hb
       exact ih _ this (by omega)
     rw[hready] at EY
     cases EY
  have hhm:hh ops.size=hh m:=Run.same (ops:=ops) hh hI.le (aC _) fun j o h1 h2 h3=>by
   cases hq:gc tb L o.op with
   |true=>exact bm.quiet_step h2 h3 hq
   |false=>
    have:=(hI.loud j o h3 hq).1 (jp j h2)
    omega
  refine hQ a w ⟨g,?_,fun t d h=>?_,hI.tsz,hI.df,hI.bl,hI.fr,?_⟩
  rotate_right
  ·rw[hhm];exact hI.mo
  ·rw[hhm];exact hI.hr
  ·rw[hhm]
   refine hI.look t d ?_
   rcases bm.lookup (aC _) (aC _) h with⟨j,o,h1,h2,h3,h4⟩|⟨h1,h2⟩
   ·exact .inl ⟨j,o,h2,jp j h1,h3,h4⟩
   ·exact .inr ⟨fun j o hj _=>h1 j o (by
     rcases bO j ops.size with h|h
     ·exact h
     ·rw[OW h] at hj;cases hj) hj,h2⟩
 intro fuel
 induction fuel with
 |zero=>
  intro listed a w m g hI hu
  have hnone:Region.ready .any ops listed=[]:=by
   cases hr:Region.ready .any ops listed with
   |nil=>rfl
   |cons i l=>
    exfalso
    have hi:i∈Region.ready .any ops listed:=by rw[hr];exact j8 ..
    obtain⟨h1,o,ho,_⟩:=mem_ready.1 hi
    have bh:i<ops.size:=(dW.1 ho).1
    have hs:i<listed.size:=by rw[hI.size];exact bh
    have hf:listed.getD i false=false:=by simpa[e7,hs] using h1
    have:=GM bh hs hf
    omega
  exact⟨hnone,fin listed a w m g hI hnone⟩
 |succ fuel ih=>
  intro listed a w m g hI hu
  refine⟨fun h=>fin listed a w m g hI h,fun i hi=>?_⟩
  obtain⟨h1,o,ho,jp⟩:=mem_ready.1 hi
  have bh:i<ops.size:=(dW.1 ho).1
  have hs:i<listed.size:=by rw[hI.size];exact bh
  have hf:listed.getD i false=false:=by simpa[e7,hs] using h1
  have C3:¬listed.getD i false=true:=by rw[hf];simp
  have hbef:∀j,Bef ops j i→listed.getD j false=true:=fun j h=>h.ready hI.closed fun o' mM=>by
   obtain rfl:o=o':=by rw[ho] at mM;injection mM
   exact jp
  have SU:∀j,Bef ops i j→listed.getD j false≠true:=fun j h hj=>C3 (h.listed hI.closed hj)
  have L9:=CN hs
  have te:unl (listed.setIfInBounds i true) ops.size≤fuel:=by have:=GM bh hs hf;omega
  have hdn:∀t,o.dst=some t→t<x.N:=fun t ht=>j4 hN ho ht
  have Ta:∀(j:Nat) (o':Oper) (e:Edge),ops[j]? =some o'→(listed.setIfInBounds i true).getD j false=true→e∈o'.after→Region.binds .any e=true→(listed.setIfInBounds i true).getD e.on false=true:=by
   intro j o' e hj hl he hb
   refine (L9 _).2 (.inr ?_)
   rcases (L9 j).1 hl with rfl|hl
   ·obtain rfl:o=o':=by rw[ho] at hj;injection hj
    exact jp e he hb
   ·exact hI.closed j o' e hj hl he hb
  -- what the operation reads
  have hread:∀t d,t∈mT ops o→(tms i).lookup t=some d→LookL ops dd (tms 0) listed t d:=by
   intro t d ht hl
   rcases bm.lookup (aC _) (kQ bh) hl with⟨j,oj,h2,h3,h4,h5⟩|⟨h2,h3⟩
   ·refine .inl ⟨j,oj,h3,?_,h4,h5⟩
    rcases pM.data i j o oj t ho h3 (by omega) ht h4 with⟨_,h⟩|⟨h,_⟩
    ·exact hbef j h
    ·omega
   ·refine .inr ⟨fun j oj hj hlj hd=>?_,h3⟩
    by_cases Bw:j=i
    ·subst Bw;exact C3 hlj
    ·rcases pM.data i j o oj t ho hj (lS Bw) ht hd with⟨h,_⟩|⟨_,h⟩
     ·exact h2 j oj h hj hd
     ·exact SU j h hlj
  have fh:∀t d,t∈mT ops o→(tms i).lookup t=some d→aF (hh m) g w d (a.tmps.getD t undef):=fun t d ht hl=>hI.look t d (hread t d ht hl)
  have SS:∀y∈o.op.operands,aF (hh m) g w (evD (tms i) y) (a.eval y):=by
   intro y hy
   cases y with
   |tmp t=>
    show aF (hh m) g w (((tms i).lookup t).getD .top) _
    cases hl:(tms i).lookup t with
    |none=>exact .top _
    |some d=>
     refine fh t d ?_ hl
     unfold mT
     refine jK.2 (.inl (List.mem_filterMap.2 ⟨.tmp t,by simpa using hy,rfl⟩))
   |const v=>exact Du g v
   |global g'=>exact .top _
   |func f=>exact .e _ _ (.lit _ rfl)
  -- the invariant behind the operation
  have next:∀(a':Act) (w':World) (m':Nat) (g':Gh) (v:Value),a'=a.put o.dst v→m'≤ops.size→(∀(j:Nat) (o':Oper),ops[j]? =some o'→gc tb L o'.op=false→((listed.setIfInBounds i true).getD j false=true↔j<m'))→
    HR x.B (hh m') g' w'→bu (hh m) g w (hh m') g' w'→aF (hh m') g' w' (dd i) v→Below x.B w w'→(∀p:Addr,p.block<x.B→g.F p→g'.F p)→wpAny P .any ops Q fuel (listed.setIfInBounds i true) a' w':=by
   intro a' w' m' g' v ha xz hloud om C5 hd hb hF
   have hmono:∀d u,aF (hh m) g w d u→aF (hh m') g' w' d u:=fun d u h=>h.mono C5
   subst ha
   refine ih _ _ _ m' g' ⟨by simp[hI.size],Ta,xz,hloud,om,fun t d hl=>?_,by rw[pp];exact hI.tsz,by rw[lD];exact hI.df,hI.bl.trans hb,fun p h1 h2=>hF p h1 (hI.fr p h1 h2),hI.mo.trans C5⟩ te
   by_cases hdt:o.dst=some t
   ·have hdd:d=dd i:=by
     rcases hl with⟨j,oj,h2,_,h4,h5⟩|⟨h2,_⟩
     ·obtain rfl:=pM.dst j i oj o t h2 ho h4 hdt
      exact h5
     ·exact absurd hdt (h2 i o ho ((L9 i).2 (.inl rfl)))
    subst hdd
    rw[hdt,uE (by rw[hI.tsz];exact hdn t hdt)]
    exact hd
   ·rw[Fx hdt]
    refine hmono _ _ (hI.look t d ?_)
    rcases hl with⟨j,oj,h2,h3,h4,h5⟩|⟨h2,h3⟩
    ·refine .inl ⟨j,oj,h2,?_,h4,h5⟩
     rcases (L9 j).1 h3 with rfl|h3
     ·obtain rfl:o=oj:=by rw[ho] at h2;injection h2
      exact absurd h4 hdt
     ·exact h3
    ·exact .inr ⟨fun j oj hj hlj=>h2 j oj hj ((L9 j).2 (.inr hlj)),h3⟩
  -- a loud operation comes up in the order of the text
  have C7:gc tb L o.op=false→hh i=hh m∧m≤i:=by
   intro hq
   have hmi:m≤i:=by
    rcases bO i m with h|h
    ·exact absurd ((hI.loud i o ho hq).2 h) C3
    ·exact h
   refine⟨Run.same (ops:=ops) hh hmi (kQ bh) fun j oj h2 h3 h4=>?_,hmi⟩
   cases SN:gc tb L oj.op with
   |true=>exact bm.quiet_step (by omega) h4 SN
   |false=>
    have:=(hI.loud j oj h4 SN).1 (hbef j (pM.loud j i oj o h4 ho h3 SN hq))
    omega
  have C6:gc tb L o.op=false→∀(j:Nat) (o':Oper),ops[j]? =some o'→gc tb L o'.op=false→((listed.setIfInBounds i true).getD j false=true↔j<i+1):=by
   intro hq j o' hj SN
   obtain⟨_,hmi⟩:=C7 hq
   rw[L9,hI.loud j o' hj SN]
   constructor
   ·rintro (rfl|h) <;> omega
   ·intro h
    by_cases Bw:j=i
    ·exact .inl Bw
    ·exact .inr ((hI.loud j o' hj SN).1 (hbef j (pM.loud j i o' o hj ho (by omega) SN hq)))
  have AT:gc tb L o.op=true→∀(j:Nat) (o':Oper),ops[j]? =some o'→gc tb L o'.op=false→((listed.setIfInBounds i true).getD j false=true↔j<m):=by
   intro hq j o' hj SN
   rw[L9,←hI.loud j o' hj SN]
   constructor
   ·rintro (rfl|h)
    ·obtain rfl:o=o':=by rw[ho] at hj;injection hj
     rw[hq] at SN;cases SN
    ·exact h
   ·exact .inr
  unfold wpOp
  rw[ho]
  dsimp only
  cases Lh:ac i with
  |true=>
   obtain⟨hg,hsnd⟩:=bm.on i o bh ho Lh
   rw[hg.wanted' fh,an rfl]
   left
   cases hq:gc tb L o.op with
   |false=>
    obtain⟨he,_⟩:=C7 hq
    have hok:=hsnd.ok
    rw[he] at hok
    refine hok x.B g w a _ _ hI.hr SS fun v g' w' om mo hd hb hF=>?_
    exact next _ w' (i+1) g' v rfl bh (C6 hq) om mo hd hb hF
   |true=>
    have hv:oD o.op=true→UW o (evD (tms i)) (hh i) (hh m):=by
     intro hld
     have noV:∀j oj,ops[j]? =some oj→(m≤j∧j<i∨i≤j∧j<m)→wC tb L oj.op=false:=by
      intro j oj hj hr
      cases hv:wC tb L oj.op with
      |false=>rfl
      |true=>
       exfalso
       have C8:gc tb L oj.op=false:=JW (PF hv)
       have lr:i≠j:=fun e=>by
        subst e
        obtain rfl:o=oj:=by rw[ho] at hj;injection hj
        rw[hq] at C8;cases C8
       rcases pM.vars i j o oj ho hj lr hld hv with⟨h2,h3⟩|⟨h2,h3⟩
       ·have:=(hI.loud j oj hj C8).1 (hbef j h3)
        omega
       ·have:=SU j h3
        have:¬j<m:=fun h=>this ((hI.loud j oj hj C8).2 h)
        omega
     intro x hx j off BT
     have hjm:j<(hh m).next:=by
      have h3:=(SS x hx).un
      rw[BT] at h3
      generalize a.eval x=u at h3
      cases h3 with
      |pt _ _ hk=>exact hk
     have Bw:j<(hh i).next:=hsnd.lk hld x hx j off BT
     rcases Nat.le_total m i with hmi|hmi
     ·exact ((Run.frs (ops:=ops) hh hmi (kQ bh) fun j oj h2 h3 h4=>bm.fr_step (by omega) h4 (noV j oj h4 (.inl ⟨h2,h3⟩))).2 j hjm).symm
     ·exact (Run.frs (ops:=ops) hh hmi hI.le fun j oj h2 h3 h4=>bm.fr_step (by have:=hI.le;omega) h4 (noV j oj h4 (.inr ⟨h2,h3⟩))).2 j Bw
    have hok:=(hsnd.quiet hq).2 (hh m) hv
    refine hok x.B g w a _ _ hI.hr SS fun v g' w' om mo hd hb hF=>?_
    exact next _ w' m g' v rfl hI.le (AT hq) om mo hd hb hF
  |false=>
   obtain⟨hg,hd,he⟩:=bm.off i o bh ho Lh
   rw[hg.wanted' fh,az (by simp)]
   cases hq:gc tb L o.op with
   |false=>
    obtain⟨he2,_⟩:=C7 hq
    have e3:hh (i+1)=hh m:=by rw[he,he2]
    exact next _ w (i+1) g undef rfl bh (C6 hq) (by rw[e3];exact hI.hr) (by rw[e3];exact bu.refl _ _ _) (by rw[e3];exact hd _ g w a SS) (Below.refl _ _) fun _ _ h=>h
   |true=>
    exact next _ w m g undef rfl hI.le (AT hq) hI.hr (bu.refl _ _ _) (hd _ g w a SS) (Below.refl _ _) fun _ _ h=>h
theorem AW.drawS {x:Cx}{tm:List (Nat×D)}{hp:Hp}{Q:Exit→List (Nat×D)→Hp→Prop}{id:Nat}{ops:Array Oper}(hm:P.follows .mixedOrders=true)(hN:gr x.N ops=true)(pM:t6 tb L ops=true)
  (h:∀K:List (Nat×D)→Hp→Prop,(∀tm hp,Q .normal tm hp→K tm hp)→aQ P tb (.any L) ops K ops.toList tm hp):AW P x (.region id ops true) tm hp Q:=by
 intro a w hr
 refine wp_region_any hm ?_
 obtain⟨dd,hh,ac,tms,bm,hK,h1,h2⟩:=LD (ops:=ops) ops.toList 0 (fun _=>.top) (fun _=>hp) (fun _=>false) (fun _=>tm) ⟨fun _ _ h=>absurd h (by omega),fun _ _ h=>absurd h (by omega),fun _ _ h=>absurd h (by omega)⟩ rfl (h _ fun _ _ h=>h)
 simp only[cj,dY] at bm hK h1 h2
 obtain⟨g,Me,fh,hsz,pg,hB,hF,hM⟩:=hr
 refine I1 hN (Cy pM) bm (fun a w hr=>⟨_,_,hr,hK⟩) ops.size _ a _ 0 g ?_ ?_
 ·have C3:∀j,¬(Array.replicate ops.size false).getD j false=true:=by
   intro j
   simp[e7,Iw]
   split <;> simp
  refine⟨by simp,fun i _ _ _ hl=>absurd hl (C3 i),il _,fun j _ _ _=>⟨fun hl=>absurd hl (C3 j),fun h=>absurd h (by omega)⟩,?_,fun t d hl=>?_,hsz,pg,hB.drew,hF,?_⟩
  rotate_right
  ·rw[h2];exact hM.trans (bu.keep hp g (aC _) (fun _ _=>rfl))
  ·rw[h2];exact Me.keep (aC _) (fun _ _=>rfl)
  ·rw[h2]
   rcases hl with⟨i,_,_,hl,_⟩|⟨_,hl⟩
   ·exact absurd hl (C3 i)
   ·rw[h1] at hl
    exact (fh t d hl).mono (bu.keep hp g (aC _) (fun _ _=>rfl))
 ·unfold unl
  exact cg (D1 _ _) (by simp)
theorem AW.loopW {x:Cx}{tm:List (Nat×D)}{hp:Hp}{Q:Exit→List (Nat×D)→Hp→Prop}{c:Code}{α:Type}(T:α→List (Nat×D))(H:α→Hp)(Inv:α→Prop)(μ:α→Nat)(s0:α)(hw:Wk x tm hp (T s0) (H s0))(h0:Inv s0)
  (round:∀s,Inv s→AW P x c (T s) (H s) fun ex tm' hp'=>match ex with| .normal=>∃s',Wk x tm' hp' (T s') (H s')∧Inv s'∧μ s'<μ s|ex=>Q ex tm' hp'):AW P x (.loop c) tm hp Q:=by
 refine AW.loop (fun n tm hp=>∃s,n=μ s∧tm=T s∧hp=H s∧Inv s) (n:=μ s0) hw ⟨s0,rfl,rfl,rfl,h0⟩ ?_
 rintro n tm hp ⟨s,rfl,rfl,rfl,hI⟩
 refine AW.mono (round s hI) ?_
 intro ex tm' hp' h
 cases ex with
 |normal=>
  obtain⟨s',h1,h2,h3⟩:=h
  exact⟨_,_,_,h3,h1,s',rfl,rfl,rfl,h2⟩
 |_=>exact h
end
end
section
section
variable {P:Program} {tb:TypeId→Option TyE} {x:Cx} {tm tm':List (Nat×D)} {hp hp':Hp}
theorem Wk.look(h0:x.hp0.next≤hp'.next)(hm:hp'.next≤hp.next)
  (ht:∀p∈tm',(∃d,tm.lookup p.1=some d∧(p.2=d∨p.2=d.ex))∧p.2.idsB hp'.next=true)
  (hv:∀k ds',hp'.vars.lookup k=some ds'→k<hp'.next∧∃ds,hp.vars.lookup k=some ds∧ot ds ds'∧ds'.all (D.idsC hp'.next)=true)
  (hl:∀id y,hp'.live.lookup id=some y→id<hp'.next∧hp.live.lookup id=some y):Wk x tm hp tm' hp':=by
 intro a w ⟨g,hr,fh,hsz,pg,hB,hF,hM⟩
 have cZ:∀id y,hp'.live.lookup id=some y→hp.live.lookup id=some y:=fun id y h=>(hl _ _ h).2
 refine⟨g,⟨fun k ds hk=>?_,fun k k' ds ds' hk pf he=>?_,fun id n e hi=>?_,fun id sr t t' b hi sM=>hr.tinj id sr t t' b (cZ _ _ hi) (cZ _ _ sM),hr.base,hr.fits⟩,fun t d h=>?_,hsz,pg,hB,hF,⟨hM.size,hM.cell,hM.forb,h0,hM.μ,fun id hid n e Mi=>hM.live id hid n e (cZ id _ Mi),fun b hb hf=>⟨(hM.fr b hb hf).1,(hM.fr b hb hf).2.1,fun k ds hk=>by obtain⟨_,_,h,_⟩:=hv k ds hk;exact (hM.fr b hb hf).2.2.1 k _ h,fun id t hi=>(hM.fr b hb hf).2.2.2 id t (cZ id _ hi)⟩,hM.szs⟩⟩
 ·obtain⟨h0,sQ,h1,hw,h2⟩:=hv _ _ hk
  obtain⟨_,h3,h4,cs,ty,h5,h6,h7⟩:=hr.var k sQ h1
  refine⟨h0,h3,h4,cs,ty,h5,by rw[qq hw];exact h6,fun j u hu=>⟨fun h=>(h7 j u hu).1 (by rw[←qq hw];exact h),fun d hd=>?_⟩⟩
  obtain⟨d0,E7,hdd⟩:=su hw hd
  have cJ:=(h7 j u hu).2 d0 E7
  have qF:aF hp g w d u:=cJ.leC hdd
  exact g8 qF (bx.1 h2 d (bL hd)) rfl cZ
 ·obtain⟨_,_,h1,_⟩:=hv _ _ hk
  obtain⟨_,_,h2,_⟩:=hv _ _ pf
  exact hr.inj k k' _ _ h1 h2 he
 ·obtain⟨h0,h1⟩:=hl _ _ hi
  obtain⟨_,us,h2,h3,h4⟩:=hr.tok id n e h1
  refine⟨h0,us,h2,h3,fun b hb=>⟨(h4 b hb).1,fun k ds hk=>?_⟩⟩
  obtain⟨_,_,h5,_⟩:=hv _ _ hk
  exact (h4 b hb).2 k _ h5
 ·obtain⟨⟨d0,h1,h3⟩,h2⟩:=ht _ (aK h)
  have cJ:=fh t d0 h1
  have qF:aF hp g w d (a.tmps.getD t undef):=by
   rcases h3 with h3|h3
   ·dsimp only at h3;rw[h3];exact cJ
   ·dsimp only at h3;rw[h3];exact cJ.exD
  exact CW qF h2 rfl cZ
end
end
section
structure Kq(d:D)(hp:Hp)(d2:D)(bk:Hp):Prop where
 d:d2=d
 hp:bk=hp
theorem Kq.here(d:D)(hp:Hp):Kq d hp d hp:=⟨rfl,rfl⟩
section
variable {P:Program} {tb:TypeId→Option TyE} {dr:Bool} {md:Md}
variable {ops:Array Oper} {K:List (Nat×D)→Hp→Prop} {os:List Oper} {tm:List (Nat×D)} {hp hp':Hp} {t:Tmp} {dst:Option Tmp} {op:Op} {ty:TypeId} {pos:String} {af:Array Edge} {d:D}
theorem AVC.snd(tok:TOk P tb){o:Oper}{ev:Operand→D}(h:AVC P tb dr o.op o.type ev hp (Kq d hp')):Snd P tb dr o ev hp d hp':=by
 obtain⟨d2,bk,⟨rfl,rfl⟩,hs⟩:=AVC.sound tok h
 exact hs
theorem Js {g:Option (Nat×Bool)}(hg:g=none)(h:mz P tb md ⟨dst,op,ty,pos,af,g⟩ (evD tm) hp d hp')(h2:aQ P tb md ops K os (xR dst d tm) hp'):aQ P tb md ops K (⟨dst,op,ty,pos,af,g⟩::os) tm hp:=by
 subst hg
 exact .on d hp' rfl h h2
theorem st(tok:TOk P tb)(hn:md.nc tb op=true)(h:AVC P tb md.dr op ty (evD tm) hp (Kq d hp'))(h2:aQ P tb md ops K os ((t,d)::tm) hp'):aQ P tb md ops K (⟨some t,op,ty,pos,af,none⟩::os) tm hp:=
 Js rfl ((AVC.snd tok (o:=⟨some t,op,ty,pos,af,none⟩) h).q hn) h2
theorem st_n(tok:TOk P tb)(hn:md.nc tb op=true)(h:AVC P tb md.dr op ty (evD tm) hp (Kq d hp'))(h2:aQ P tb md ops K os tm hp'):aQ P tb md ops K (⟨none,op,ty,pos,af,none⟩::os) tm hp:=
 Js rfl ((AVC.snd tok (o:=⟨none,op,ty,pos,af,none⟩) h).q hn) h2
theorem LJ(tok:TOk P tb){g:Option (Nat×Bool)}{f:FuncId}{aS:List Operand}{ts:Array TypeId}{ev:Operand→D}{r:D}(uL:ev (.func f)=.e (.lit (.func (.func f) #[] #[])))(hc:ar P f ((aS.map ev).map D.ex) r)(hp1:((aS.map ev).map D.ex).all D.pure=true)(hr:r.pure=true∨∃ds,r=.tu ds):
  mz P tb md ⟨dst,.call ⟨.value (.func f),aS.toArray,ts⟩,ty,pos,af,g⟩ ev hp r hp:=by
 have key:∀bk:Hp,oA P ⟨dst,.call ⟨.value (.func f),aS.toArray,ts⟩,ty,pos,af,g⟩ ev bk r bk:=fun bk=>
  (AVC.snd (dr:=true) tok (o:=⟨dst,.call ⟨.value (.func f),aS.toArray,ts⟩,ty,pos,af,g⟩) (ev:=ev) (hp:=bk) (d:=r) (hp':=bk) (by
   show tN P (hvB tb ⟨.value (.func f),aS.toArray,ts⟩) (ev (.func f)) (aS.toArray.toList.map ev) bk (Kq r bk)
   rw[uL]
   refine⟨rfl,rfl,.inl ⟨hp1,r,hc,?_⟩⟩
   unfold Iz
   split
   ·rcases hr with hr|⟨_,hr⟩ <;> cases hr
   ·rcases hr with hr|⟨_,hr⟩ <;> cases hr
   ·exact Kq.here _ _)).ok
 exact⟨key hp,fun _=>⟨rfl,fun bk _=>key bk⟩,fun _=>Fr.refl _,fun h=>by cases h⟩
variable {j:Nat} {want c:Bool} {s:Tmp}
theorem st_on(hj:(ops[j]?).bind (·.dst)=some s)(hc:tm.lookup s=some (.e (.lit (.bool c))))(hw:(c == want)=true)(h:mz P tb md ⟨dst,op,ty,pos,af,some (j,want)⟩ (evD tm) hp d hp')(h2:aQ P tb md ops K os (xR dst d tm) hp'):aQ P tb md ops K (⟨dst,op,ty,pos,af,some (j,want)⟩::os) tm hp:=
 .on d hp' (.inl ⟨s,c,hj,hc,hw⟩) h h2
variable {ev:Operand→D} {k:D→Hp→Prop}
theorem av_move(x:Operand):AVC P tb dr (.move x) ty ev hp k=k (ev x) hp:=bf rfl rfl
theorem Aj(x:Operand):AVC P tb dr (.assign x) ty ev hp k=KO tb ty (ev x) hp k:=bf rfl rfl
theorem OS(c x y:Operand):AVC P tb dr (.pick c x y) ty ev hp k=JB (ev c) (ev x) (ev y) (Ak k hp):=bf rfl rfl
theorem Ui(t:TypeId):AVC P tb dr (.alloc t) ty ev hp k=Ul tb t hp k:=bf rfl rfl
theorem av_box(t:TypeId)(x:Operand):AVC P tb dr (.box t x) ty ev hp k=boxV (ev x) hp k:=bf rfl rfl
theorem yE(t:TypeId)(ps:List (Nat×Operand)):AVC P tb dr (.build t ps.toArray) ty ev hp k=DB tb t (ps.map fun p=>(p.1,ev p.2)) (Ak k hp):=bf rfl rfl
theorem wu(t:TypeId)(n:Nat)(ps:List (Nat×Operand)):AVC P tb dr (.buildSlice t n ps.toArray) ty ev hp k=eg tb (!dr) t n (ps.map fun p=>(p.1,ev p.2)) hp k:=bf rfl rfl
theorem rE(t:TypeId)(x:Operand):AVC P tb dr (.load t x) ty ev hp k=CM tb t (ev x) hp (Ak k hp):=bf rfl rfl
theorem DD(t:TypeId)(x y:Operand):AVC P tb dr (.store t x y) ty ev hp k=Cl tb t (ev x) (ev y) hp k:=bf rfl rfl
theorem pG(o:BinOp)(t t':TypeId)(x y:Operand):AVC P tb dr (.binOp o t x y t') ty ev hp k=nE P o t (ev x) (ev y) (atLit k hp):=bf rfl rfl
theorem OR(o:UnOp)(t:TypeId)(x:Operand):AVC P tb dr (.unOp o t x) ty ev hp k=unV o (ev x) (atLit k hp):=bf rfl rfl
theorem MD(s t:TypeId)(x:Operand):AVC P tb dr (.convert s t x) ty ev hp k=Kz tb s t (ev x) (Ak k hp):=bf rfl rfl
theorem conv_eq(s t:TypeId)(d:D)(kf:D→Prop):Kz tb s t d kf=(match tb s,tb t with
 |some i,some j=>match j.ty,d with
  | .int jk,.e (.lit (.int _ n))=>kf (.e (.lit (.int jk (jk.wrap n))))
  | .str,.e (.lit (.string s))=>kf (.e (.lit (.string s)))
  | .str,d=>match i.ty with
   | .slice e=>match tb e with
    |some l=>l.ty=.int .u8∧match d.asSl 1 with
     |some (_,xs)=>match vu xs with
      |some bs=>kf (.e (.lit (.string ⟨bs.toArray⟩)))
      |none=>False
     |none=>False
    |none=>False
   |_=>False
  |_,_=>False
 |_,_=>False):=bf rfl rfl
theorem Ug(t:TypeId)(x:Operand)(lo hi mx:Option Operand):AVC P tb dr (.slice t x lo hi mx) ty ev hp k=Co tb t (ev x) (lo.map ev) (hi.map ev) (mx.map ev) (Ak k hp):=bf rfl rfl
theorem yD(t:TypeId)(x:Operand)(f:Nat):AVC P tb dr (.fieldAddr t x f) ty ev hp k=oU tb t f (ev x) (Ak k hp):=bf rfl rfl
theorem KN(t:TypeId)(x:Operand)(f:Nat):AVC P tb dr (.field t x f) ty ev hp k=Dh tb t f (ev x) (Ak k hp):=bf rfl rfl
theorem tO(t:TypeId)(x i:Operand):AVC P tb dr (.indexAddr t x i) ty ev hp k=oN tb t (ev x) (ev i) (Ak k hp):=bf rfl rfl
theorem Uh(t:TypeId)(x i:Operand):AVC P tb dr (.index t x i) ty ev hp k=zT tb t (ev x) (ev i) (Ak k hp):=bf rfl rfl
theorem MC(x:Operand)(i:Nat):AVC P tb dr (.extract x i) ty ev hp k=Kt (ev x) i (Ak k hp):=bf rfl rfl
theorem KL(x:Operand):AVC P tb dr (.nilCheck x) ty ev hp k=nilV (ev x) (Ak k hp):=bf rfl rfl
theorem KM(fn:Fn)(first cs:List Operand):AVC P tb dr (.makeFunc fn first.toArray cs.toArray) ty ev hp k=zM fn first.length (cs.map ev) (Ak k hp):=bf rfl rfl
end
theorem fc.nil:fc ⟨[],[],0⟩:=⟨fun _ _ h=>by simp at h,fun _ _ h=>by simp at h⟩
def leL:List D→List D→Prop
 |[],[]=>True
 |d::ds,d'::ds'=>d.le d'∧leL ds ds'
 |_,_=>False
theorem Hn:∀{ds ds':List D},leL ds ds'→ds'.length=ds.length∧∀{j:Nat} {d':D},ds'[j]? =some d'→∃d,ds[j]? =some d∧d.le d'
 |[],[],_=>⟨rfl,fun h=>by simp at h⟩
 |d::ds,d'::ds',h=>⟨by simp[(Hn h.2).1],fun {j} {e} he=>by
  cases j with
  |zero=>exact⟨d,rfl,by
                have:d'=e:=by simpa using he
                rw[←this];exact h.1⟩
  |succ j=>exact (Hn h.2).2 (by simpa using he)⟩
 |[],_::_,h=>h.elim
 |_::_,[],h=>h.elim
theorem ar.le {P:Program}{f:FuncId}{ds ds':List D}{r:D}(hc:ar P f ds' r)(h:leL ds ds'):ar P f ds r:=by
 obtain⟨hlen,E4⟩:=Hn h
 refine⟨hc.1,fun w F vs hF hsz ss=>hc.2 w F vs hF (by rw[hsz,hlen]) fun j d' u hd hu=>?_⟩
 obtain⟨d,E7,hle⟩:=E4 hd
 exact aF.le (ss j d u E7 hu) hle
theorem AW.regS {P:Program}{x:Cx}{tm:List (Nat×D)}{hp:Hp}{Q:Exit→List (Nat×D)→Hp→Prop}(tb:TypeId→Option TyE){id:Nat}{l:List Oper}(hN:gr x.N l.toArray=true)(h:∀K:List (Nat×D)→Hp→Prop,(∀tm hp,Q .normal tm hp→K tm hp)→aQ P tb .seq l.toArray K l tm hp):AW P x (.region id l.toArray false) tm hp Q:=AW.regionS hN h
theorem AW.drwS {P:Program}{x:Cx}{tm:List (Nat×D)}{hp:Hp}{Q:Exit→List (Nat×D)→Hp→Prop}(tb:TypeId→Option TyE)(L:List FuncId){id:Nat}{l:List Oper}(hm:P.follows .mixedOrders=true)(hN:gr x.N l.toArray=true)(pM:t6 tb L l.toArray=true)(h:∀K:List (Nat×D)→Hp→Prop,(∀tm hp,Q .normal tm hp→K tm hp)→aQ P tb (.any L) l.toArray K l tm hp):AW P x (.region id l.toArray true) tm hp Q:=AW.drawS hm hN pM h
end
section
def sg(N0:Nat)(os:List Nat)(i:Nat):Nat:=bif decide (i<N0) then i else os.getD (i - N0) 0
def D.renC(σ:Nat→Nat):D→D
 | .own id z n xs=>.own (σ id) z n xs
 | .pt k o=>.pt (σ k) o
 | .ow k o z n=>.ow (σ k) o z n
 | .gw k z n=>.gw (σ k) z n
 | .fn f ks=>.fn f (ks.map σ)
 |d=>d
def D.ren(σ:Nat→Nat):D→D
 | .ag ds=>.ag (ds.map (D.renC σ))
 | .tu ds=>.tu (ds.map (D.renC σ))
 |d=>d.renC σ
def D.noO:D→Bool
 | .opt _ _=>false
 |_=>true
def D.noOs:D→Bool
 | .ag ds=>ds.all D.noO
 | .tu ds=>ds.all D.noO
 |d=>d.noO
theorem iE {σ:Nat→Nat}{hp bk:Hp}{g g2:Gh}{w:World}{m:Nat}{d:D}{v:Value}(h:aF hp g w (d.renC σ) v)(hd:d.idsC m=true)(hn:d.noO=true)(hm:bk.next=m)
  (hμ:∀i,g2.μ i=g.μ (σ i)) (hτ:∀i,g2.τ i=g.τ (σ i)) (hF:g2.F=g.F) (hl:∀id y,bk.live.lookup id=some y→hp.live.lookup (σ id)=some y):aF bk g2 w d v:=by
 subst hm
 cases d with
 |e y=>cases h with
  |e _ v h=>exact .e y v (by rw[hF];exact h)
 |own id z n xs=>cases h with
  |own _ _ _ _ v h hid ht=>exact .own id z n xs v (by rw[hF];exact h) (by simpa[D.idsC] using hd) (fun m e hm=>by rw[hτ];exact ht m e (hl _ _ hm))
 |fu z n xs=>cases h with
  |fu _ _ _ A h=>exact .fu z n xs A (by rw[hF];exact h)
 |ag ds=>cases hd
 |tu ds=>cases hd
 |fp xs off=>cases h with
  |fp _ _ ad hb hc=>exact .fp xs off ad hb (by rw[hF];exact hc)
 |pt k off=>cases h with
  |pt _ _ hk=>rw[←hμ];exact .pt k off (by simpa[D.idsC] using hd)
 |ow k off z n=>cases h with
  |ow _ _ _ _ c hk h1 h2=>rw[←hμ];exact .ow k off z n c (by simpa[D.idsC] using hd) h1 h2
 |gw k z n=>cases h with
  |gw _ _ _ c hk h1 h2 hs=>rw[←hμ] at hs ⊢;exact .gw k z n c (by simpa[D.idsC] using hd) h1 h2 hs
 |fn f ks=>cases h with
  |fn _ _ hk=>
   have:((ks.map σ).map fun k=>Value.pointer (some ⟨g.μ k,0,none⟩))=ks.map fun k=>Value.pointer (some ⟨g2.μ k,0,none⟩):=by
    rw[kP]
    exact sV fun k _=>by simp only[Function.comp,hμ]
   rw[this]
   exact .fn f ks (by simpa[D.idsC] using hd)
 |opt b d=>cases hn
 |top=>exact .top v
theorem BJ {σ:Nat→Nat}{hp bk:Hp}{g g2:Gh}{w:World}{m:Nat}{d:D}{v:Value}(h:aF hp g w (d.ren σ) v)(hd:d.idsB m=true)(hn:d.noOs=true)(hm:bk.next=m)
  (hμ:∀i,g2.μ i=g.μ (σ i)) (hτ:∀i,g2.τ i=g.τ (σ i)) (hF:g2.F=g.F) (hl:∀id y,bk.live.lookup id=some y→hp.live.lookup (σ id)=some y):aF bk g2 w d v:=by
 cases d with
 |ag ds=>
  have jp:∀d∈ds,D.idsC m d=true:=by simpa[D.idsB] using hd
  have wU:∀d∈ds,D.noO d=true:=by simpa[D.noOs] using hn
  cases h with
  |ag _ cs hlen h1 hr=>
   refine .ag ds cs (by simpa using hlen) h1 fun j d u h2 h3=>?_
   have:=hr j (d.renC σ) u (by rw[bE,h2];rfl) h3
   exact iE this (jp d (bL h2)) (wU d (bL h2)) hm hμ hτ hF hl
 |tu ds=>
  have jp:∀d∈ds,D.idsC m d=true:=by simpa[D.idsB] using hd
  have wU:∀d∈ds,D.noO d=true:=by simpa[D.noOs] using hn
  cases h with
  |tu _ cs hlen hr=>
   refine .tu ds cs (by simpa using hlen) fun j d u h2 h3=>?_
   have:=hr j (d.renC σ) u (by rw[bE,h2];rfl) h3
   exact iE this (jp d (bL h2)) (wU d (bL h2)) hm hμ hτ hF hl
 |e y=>exact iE h hd hn hm hμ hτ hF hl
 |own id z n xs=>exact iE h hd hn hm hμ hτ hF hl
 |fu z n xs=>exact iE h hd hn hm hμ hτ hF hl
 |fp xs off=>exact iE h hd hn hm hμ hτ hF hl
 |pt k off=>exact iE h hd hn hm hμ hτ hF hl
 |ow k off z n=>exact iE h hd hn hm hμ hτ hF hl
 |gw k z n=>exact iE h hd hn hm hμ hτ hF hl
 |fn f ks=>exact iE h hd hn hm hμ hτ hF hl
 |opt b d=>cases hn
 |top=>exact .top v
theorem RB {N0:Nat}{os:List Nat}(hs:∀o∈os,N0≤o)(hn:os.Nodup){i j:Nat}(hi:i<N0+os.length)(hj:j<N0+os.length)(h:sg N0 os i=sg N0 os j):i=j:=by
 unfold sg at h
 have get:∀k,¬k<N0→k<N0+os.length→∃hk:k - N0<os.length,os.getD (k - N0) 0=os[k - N0]:=fun k h1 h2=>⟨by omega,by simp[List.getD,eG (show k - N0<os.length by omega)]⟩
 by_cases h1:i<N0 <;> by_cases h2:j<N0
 ·simpa[h1,h2] using h
 ·obtain⟨hk,e⟩:=get j h2 hj
  simp only[h1,h2,sf,se,lT,cond_false] at h
  rw[e] at h
  have:=hs _ (uc hk)
  omega
 ·obtain⟨hk,e⟩:=get i h1 hi
  simp only[h1,h2,sf,se,lT,cond_false] at h
  rw[e] at h
  have:=hs _ (uc hk)
  omega
 ·obtain⟨hk,e⟩:=get i h1 hi
  obtain⟨pf,e'⟩:=get j h2 hj
  simp only[h1,h2,se,cond_false] at h
  rw[e,e'] at h
  have hp:=DQ.1 hn
  rcases xm (i - N0) (j - N0) with h3|h3|h3
  ·exact absurd h (hp _ _ hk pf h3)
  ·omega
  ·exact absurd h.symm (hp _ _ pf hk h3)
section
variable {P:Program} {tb:TypeId→Option TyE} {x:Cx} {tm tm':List (Nat×D)} {hp hp':Hp} {Q:Exit→List (Nat×D)→Hp→Prop}
theorem Wk.nilOwn0(k j:Nat)(e:TypeId)(z:Nat)(hz:0<z){ds:List D}(hk:hp.vars.lookup k=some ds)(hj:ds[j]? =some (.e (.lit (.slice none 0 0))))
 :Wk x tm hp tm ((hp.tok 0 (z,e)).set k (ds.set j (.own hp.next z 0 []))):=by
  intro a w hr
  obtain⟨g,hr,fh,hsz,pg,hB,hF,hM⟩:=hr
  have ho:=World.ownsRow_nil w x.B e z
  have C4:∀b,(Value.slice none 0 0).ownBlock=some b→w.heap.size≤b:=fun b hb=>by cases hb
  have Me:=hr.newTok (e:=(z,e)) hz (aC _) (fun _ _=>rfl) C4 ho
  have m1:bu hp g w (hp.tok 0 (z,e)) (g.tok hp.next (.slice none 0 0) (0*z)) w:=bu.tok hp g (aC _) (fun _ _=>rfl) C4
  obtain⟨_,_,_,cs,ty,h1,h2,h3⟩:=Me.var k ds hk
  have HE:=Me.setVar hk (ds.set j (.own hp.next z 0 [])) cs ty rfl (fun _ _=>rfl) h1 (by simpa using h2) (.same fun _=>rfl) (fun i u hu=>⟨fun h=>(h3 i u hu).1 (by simpa using h),fun d hd=>by
    by_cases Q1:j=i
    · subst Q1
      rw[MZ (by rcases bO j ds.length with h|h;exact h;rw[gP h] at hj;cases hj)] at hd
      injection hd with hd
      subst hd
      have hv:=((h3 j u hu).2 _ hj).lit
      subst hv
      refine .own _ _ _ _ _ (.sl _ 0 [] none 0 (fun _=>undef) (by simp) hz (aC _) (by decide) (fun h=>absurd h (by omega)) (fun _ h=>by cases h) (fun _ _ h=>by simp at h)) (dH _) (fun m e' hm=>?_)
      rw[show (Hp.tok hp _ _).live.lookup _=_ from ah] at hm
      injection hm with hm
      injection hm with h1 h2
      subst h1;subst h2
      exact⟨aC _,rfl,fun _=>(an rfl).symm⟩
    · rw[MY Q1] at hd
      exact (h3 i u hu).2 d hd⟩)
  have m2:=bu.setVar (w':=w) Me hk (ds.set j (.own hp.next z 0 [])) rfl (fun _ _=>rfl) (.same fun _=>rfl)
  exact⟨_,HE,fun t d h=>((fh t d h).mono m1).mono m2,hsz,pg,hB,fun p h1 h2=>Gh.tok_keep g _ (fun b hb=>by cases hb) p h1 (hF p h1 h2),(hM.trans m1).trans m2⟩
end
end
section
def sP(tb:TypeId→Option TyE)(f:TypeId→List Value→Prop):List (Nat×TypeId)→Nat→List Value→Prop
 |[],_,us=>us=[]
 |(o,t)::fs,off,us=>o=off∧match tb t with
  |some j=>f t (us.take j.size)∧j.size≤us.length∧sP tb f fs (off+j.size) (us.drop j.size)
  |none=>False
def mW(tb:TypeId→Option TyE):Nat→TypeId→List Value→Prop
 |0,_,_=>False
 |d+1,t,us=>match tb t with
  |some i=>match i.ty with
   | .int k=>∃n,us=[.int k n]
   | .bool=>∃b,us=[.bool b]
   | .str=>∃s,us=[.string s]
   | .struct fs=>sP tb (mW tb d) fs 0 us
   | .arr n e=>match tb e with
    |some j=>us.length=n*j.size∧∀i,i<n→mW tb d e ((us.drop (i*j.size)).take j.size)
    |none=>False
   |_=>False
  |none=>False
def kY(P:Program):Nat→TypeId→Bool
 |0,_=>true
 |d+1,t=>match P.underlying t with
  | some (.struct fs) => !P.stoodInHeld t && fs.toList.all fun f => f.name != "_" && kY P d f.type
  |some (.array _ e)=>kY P d e
  |_=>true
def valT(g:Bool)(us:List Value):Value:=if g then .agg us.toArray else us.getD 0 undef
section
variable {P:Program} {tb:TypeId→Option TyE}
theorem vh(tok:TOk P tb){t:TypeId}{j:TyE}(ht:tb t=some j)(us:List Value)(off:Nat)(w:World)(hl:off+j.size≤us.length)(h1:j.ty.agg=false→j.size=1):(part t us.toArray off).run P w=.ok (valT j.ty.agg ((us.drop off).take j.size)) w:=by
 unfold valT
 cases hg:j.ty.agg with
 |true=>
  rw[tw tok ht hg,an rfl]
  congr 2
  apply j6.1
  simp
 |false=>
  have hz:=h1 hg
  rw[hz] at hl
  have bh:off<us.length:=by omega
  rw[tv tok ht hg us.toArray off us[off] (by simp[bh]),az (by simp),hz,Il bh]
  rfl
theorem Km {d:Nat}{t:TypeId}{i:TyE}{us:List Value}(ht:tb t=some i)(hg:i.ty.agg=false)(h:mW tb d t us):∃u,us=[u]:=by
 cases d with
 |zero=>cases h
 |succ d=>
  unfold mW at h
  rw[ht] at h
  dsimp only at h
  split at h
  ·obtain⟨n,h⟩:=h;exact⟨_,h⟩
  ·obtain⟨n,h⟩:=h;exact⟨_,h⟩
  ·obtain⟨n,h⟩:=h;exact⟨_,h⟩
  ·rename_i he;rw[he] at hg;cases hg
  ·rename_i he;rw[he] at hg;cases hg
  ·cases h
theorem F9 {α:Type}:∀(n z:Nat) (us vs:List α),us.length=n*z→vs.length=n*z→(∀i,i<n→(us.drop (i*z)).take z=(vs.drop (i*z)).take z)→us=vs
 |0,z,us,vs,h1,h2,_=>by
  rw[jJ] at h1 h2
  rw[jR h1,jR h2]
 |n+1,z,us,vs,h1,h2,h=>by
  rw[oa] at h1 h2
  have h0:=h 0 (Nat.succ_pos n)
  simp only[jJ,pH] at h0
  have hd:=F9 n z (us.drop z) (vs.drop z) (by rw[fZ];omega) (by rw[fZ];omega) fun i hi=>by
   have:=h (i+1) (by omega)
   rw[j7,j7,show z+i*z=(i+1)*z by rw[oa];omega]
   exact this
  rw[←n9 z us,←n9 z vs,h0,hd]
theorem BW(tok:TOk P tb):∀(d D:Nat) (t:TypeId) (i:TyE) (us vs:List Value) (w:World),d≤D→tb t=some i→mW tb d t us→mW tb d t vs→kY P d t=true→
  ∃r,(Op.equalIn D t (valT i.ty.agg us) (valT i.ty.agg vs)).run P w=.ok r w∧(r=true↔us=vs)
 |0,_,_,_,_,_,_,_,_,h,_,_=>h.elim
 |d+1,0,_,_,_,_,_,h,_,_,_,_=>absurd h (by omega)
 |d+1,D+1,t,i,us,vs,w,hD,ht,hu,hv,hn=>by
  unfold mW at hu hv
  rw[ht] at hu hv
  dsimp only at hu hv
  cases i8:i.ty with
  |int k=>
   rw[i8] at hu hv
   obtain⟨a,rfl⟩:=hu
   obtain⟨b,rfl⟩:=hv
   exact⟨a == b,run_equalIn_int w D t k k a b (tok.int ht i8),by simp⟩
  |bool=>
   rw[i8] at hu hv
   obtain⟨a,rfl⟩:=hu
   obtain⟨b,rfl⟩:=hv
   obtain⟨dd,Q2,HJ⟩:=tok.und ht
   rw[i8] at HJ
   have hb:P.underlying t=some .bool:=by cases dd <;> simp[Ty.of] at HJ;exact Q2
   exact⟨a == b,run_equalIn_bool' w D t a b hb,by simp⟩
  |str=>
   rw[i8] at hu hv
   obtain⟨a,rfl⟩:=hu
   obtain⟨b,rfl⟩:=hv
   exact⟨_,run_equalIn_string w D t a b (tok.str ht i8),by rw[GV];simp⟩
  |slice e=>rw[i8] at hu;cases hu
  |other=>rw[i8] at hu;cases hu
  |struct fs=>
   rw[i8] at hu hv
   dsimp only at hu hv
   obtain⟨fields,hf,FN⟩:=tok.struct ht i8
   have hfo:P.fieldsOf t=fields:=by unfold Program.fieldsOf;rw[hf]
   unfold kY at hn
   rw[hf] at hn
   simp only[c8,ww,bx,bne_iff_ne,ne_eq] at hn
   have key : ∀ (l : List Field) (off : Nat) (vd pe : List Value), (∀ f ∈ l, f.name ≠ "_" ∧ kY P d f.type = true) → off ≤ us.length → off ≤ vs.length → us.drop off = vd → vs.drop off = pe → sP tb (mW tb d) (l.map fun f => (f.offset, f.type)) off vd → sP tb (mW tb d) (l.map fun f => (f.offset, f.type)) off pe →
     ∃r,(Op.eqFields D us.toArray vs.toArray l).run P w=.ok r w∧(r=true↔vd=pe):=by
    intro l
    induction l with
    |nil=>
     intro off vd pe _ _ _ _ _ h1 h2
     have e1:vd=[]:=h1
     have e2:pe=[]:=h2
     subst e1;subst e2
     exact⟨true,by simp[Op.eqFields],by simp⟩
    |cons f l ih=>
     intro off vd pe hl ou ov h1 h2 h3 h4
     obtain⟨qH,hnf⟩:=hl f (j8 ..)
     simp only[gZ,sP] at h3 h4
     obtain⟨ho,h3⟩:=h3
     obtain⟨_,h4⟩:=h4
     cases hj:tb f.type with
     |none=>rw[hj] at h3;cases h3
     |some j=>
      rw[hj] at h3 h4
      obtain⟨f1,l1,r1⟩:=h3
      obtain⟨f2,l2,r2⟩:=h4
      have lu:off+j.size≤us.length:=by rw[←h1,fZ] at l1;omega
      have lv:off+j.size≤vs.length:=by rw[←h2,fZ] at l2;omega
      have hz:j.ty.agg=false→j.size=1:=by
       intro hg
       obtain⟨u,hu⟩:=Km hj hg f1
       have:=congrArg List.length hu
       simp at this
       omega
      obtain⟨ra,ha1,ha2⟩:=BW tok d D f.type j _ _ w (by omega) hj f1 f2 hnf
      obtain⟨rb,fy,rf⟩:=ih (off+j.size) (vd.drop j.size) (pe.drop j.size) (fun g hg=>hl g (io _ hg)) lu lv (by rw[←h1,j7]) (by rw[←h2,j7]) r1 r2
      have pu:=vh tok hj us off w lu hz
      have pv:=vh tok hj vs off w lv hz
      rw[h1] at pu
      rw[h2] at pv
      have rX:vd=pe↔vd.take j.size=pe.take j.size∧vd.drop j.size=pe.drop j.size:=
       ⟨fun h=>by rw[h];exact⟨rfl,rfl⟩,fun h=>by rw[←n9 j.size vd,h.1,h.2,n9]⟩
      refine⟨if ra=true then rb else false,?_,?_⟩
      ·unfold Op.eqFields
       rw[an qH,ho]
       simp only[Sem.run_bind,pu,pv,ha1,Result.andThen_ok]
       cases ra
       ·simp
       ·simpa using fy
      ·rw[rX,←ha2,←rf]
       cases ra <;> simp
   obtain⟨r,Me,HE⟩:=key fields.toList 0 us vs (fun f hfm=>hn.2 f hfm) (il _) (il _) rfl rfl (by rw[FN];exact hu) (by rw[FN];exact hv)
   refine⟨r,?_,HE⟩
   show (Op.equalIn (D+1) t (.agg us.toArray) (.agg vs.toArray)).run P w=_
   rw[run_equalIn_struct w D t _ _ (by rw[hfo];exact hf) hn.1,hfo]
   exact Me
  |arr n e=>
   rw[i8] at hu hv
   dsimp only at hu hv
   cases hj:tb e with
   |none=>rw[hj] at hu;cases hu
   |some j=>
    rw[hj] at hu hv
    obtain⟨lu,fu⟩:=hu
    obtain⟨lv,fv⟩:=hv
    have hf:=tok.arr ht i8
    unfold kY at hn
    rw[hf] at hn
    dsimp only at hn
    have hz:0<n→j.ty.agg=false→j.size=1:=by
     intro h0 hg
     obtain⟨u,hu⟩:=Km hj hg (fu 0 h0)
     have:=congrArg List.length hu
     have h2:j.size≤us.length:=by rw[lu];exact DX _ h0
     simp at this
     omega
    have jp:us=vs↔∀i∈List.range' 0 n 1,(us.drop (i*j.size)).take j.size=(vs.drop (i*j.size)).take j.size:=
     ⟨fun h i _=>by rw[h],fun h=>F9 n j.size us vs lu lv fun i hi=>h i (by simp[List.mem_range'_1,hi])⟩
    have hl:∀i∈List.range' 0 n 1,i<n:=fun i hi=>by simpa using (List.mem_range'_1.1 hi).2
    show ∃r,(Op.equalIn (D+1) t (.agg us.toArray) (.agg vs.toArray)).run P w=.ok r w∧_
    rw[Op.equalIn,jp]
    simp only[Sem.run_bind,run_underlying hf,Result.andThen_ok,tok.run_sizeOf hj,Std.Legacy.Range.forIn_eq_forIn_range',Std.Legacy.Range.size,DR,DF,m8]
    clear jp
    generalize List.range' 0 n 1=l at hl ⊢
    induction l with
    |nil=>exact⟨true,by simp,by simp⟩
    |cons i l ih=>
     have hi:i<n:=hl i (j8 ..)
     have hm:i*j.size+j.size≤n*j.size:=by rw[←oa];exact bY _ hi
     have pu:=vh tok hj us (i*j.size) w (by omega) (hz (by omega))
     have pv:=vh tok hj vs (i*j.size) w (by omega) (hz (by omega))
     obtain⟨ra,ha1,ha2⟩:=BW tok d D e j _ _ w (by omega) hj (fu i hi) (fv i hi) hn
     obtain⟨rb,fy,rf⟩:=ih fun i hi=>hl i (io _ hi)
     refine⟨if ra=true then rb else false,?_,?_⟩
     ·simp only[List.forIn_cons,Sem.run_bind,pu,pv,ha1,Result.andThen_ok]
      cases ra
      ·simp
      ·simp only[ep,MX,m7,Sem.run_pure,Result.andThen_ok,fS]
       exact fy
     ·rw[MW,←ha2,←rf]
      cases ra <;> simp
theorem ag_eql(tok:TOk P tb){t:TypeId}{i:TyE}{us vs:List Value}{p:Prop}[Decidable p]{k:Value→Prop}(d:Nat)(hd:d≤10000)(ht:tb t=some i)(hg:i.ty.agg=true)(hm:P.eqGuardType P.depth t=false)(hn:kY P d t=true)(hu:mW tb d t us)(hv:mW tb d t vs)(hp:us=vs↔p)(hk:k (.bool (decide p))):
  ∃r,(∀w,(do eqGuard .eql t (.tmp 0) (.tmp 0) (.agg us.toArray) (.agg vs.toArray);binOp .eql t (.agg us.toArray) (.agg vs.toArray):Sem Value).run P w=.ok r w)∧r.oneCell'=true∧k r:=by
 refine⟨_,fun w=>?_,rfl,hk⟩
 obtain⟨r,h1,h2⟩:=BW tok d 10000 t i us vs w hd ht hu hv hn
 rw[hg] at h1
 have ni:(Op.equalIn 10000 t (.agg us.toArray) (.agg vs.toArray)).run P w=.ok r w:=h1
 rw[Sem.run_bind,run_eqGuard_agg w .eql t _ _ _ _ hm]
 simp only[Result.andThen_ok]
 rw[run_eql_struct,ni]
 simp only[Result.andThen_ok]
 congr 2
 rw[uT,h2,hp]
 simp
theorem ag_neq(tok:TOk P tb){t:TypeId}{i:TyE}{us vs:List Value}{p:Prop}[Decidable p]{k:Value→Prop}(d:Nat)(hd:d≤10000)(ht:tb t=some i)(hg:i.ty.agg=true)(hm:P.eqGuardType P.depth t=false)(hn:kY P d t=true)(hu:mW tb d t us)(hv:mW tb d t vs)(hp:us=vs↔p)(hk:k (.bool (decide (¬p)))):
  ∃r,(∀w,(do eqGuard .neq t (.tmp 0) (.tmp 0) (.agg us.toArray) (.agg vs.toArray);binOp .neq t (.agg us.toArray) (.agg vs.toArray):Sem Value).run P w=.ok r w)∧r.oneCell'=true∧k r:=by
 refine⟨_,fun w=>?_,rfl,hk⟩
 obtain⟨r,h1,h2⟩:=BW tok d 10000 t i us vs w hd ht hu hv hn
 rw[hg] at h1
 have ni:(Op.equalIn 10000 t (.agg us.toArray) (.agg vs.toArray)).run P w=.ok r w:=h1
 rw[Sem.run_bind,run_eqGuard_agg w .neq t _ _ _ _ hm]
 simp only[Result.andThen_ok]
 rw[run_neq_struct,ni]
 simp only[Result.andThen_ok]
 congr 2
 rw[uT,decide_eq_true_iff,←hp,←h2]
 cases r <;> simp
theorem Ue(tok:TOk P tb)(d:Nat)(hd:d≤10000){t:TypeId}{i:TyE}{xs ys:List D}{us vs:List Value}{p:Prop}{k:Value→Prop}(ht:tb t=some i)(hg:i.ty.agg=true)(hm:P.eqGuardType P.depth t=false)(hn:kY P d t=true)(hx:kL xs=some us)(hy:kL ys=some vs)(hu:mW tb d t us)(hv:mW tb d t vs)(hp:us=vs↔p)(_inst:Decidable p)(hk:k (.bool (decide p))):nE P .eql t (.ag xs) (.ag ys) k:=by
 simp only[nE,hx,hy]
 exact ag_eql tok d hd ht hg hm hn hu hv hp hk
theorem Ud(tok:TOk P tb)(d:Nat)(hd:d≤10000){t:TypeId}{i:TyE}{xs ys:List D}{us vs:List Value}{p:Prop}{k:Value→Prop}(ht:tb t=some i)(hg:i.ty.agg=true)(hm:P.eqGuardType P.depth t=false)(hn:kY P d t=true)(hx:kL xs=some us)(hy:kL ys=some vs)(hu:mW tb d t us)(hv:mW tb d t vs)(hp:us=vs↔p)(_inst:Decidable p)(hk:k (.bool (decide (¬p)))):nE P .neq t (.ag xs) (.ag ys) k:=by
 simp only[nE,hx,hy]
 exact ag_neq tok d hd ht hg hm hn hu hv hp hk
end
end
section
section
variable {w:World} {F:Addr→Prop}
theorem kW.e_inv {x:E}{v:Value}(h:kW w F (.e x) v):cG w F x v:=by
 unfold kW at h
 cases h with
 |e _ _ h=>exact h
theorem ar.of1 {P:Program}{f:FuncId}{d r:D}(hf:Nv P f)(h:∀(w:World) (F:Addr→Prop) (v:Value),(∀p:Addr,F p→p.block<w.heap.size)→kW w F d v→Calls P f #[v] w fun e w'=>∃u,e=.returned u∧uk w.heap.size F w' r u∧Below w.heap.size w w'):ar P f [d] r:=by
 refine⟨hf,fun w F vs hF hsz ss=>?_⟩
 obtain⟨v,rfl⟩:∃v,vs=#[v]:=by
  rcases vs with⟨_|⟨v,_|⟨u,l⟩⟩⟩ <;> simp at hsz
  exact⟨v,rfl⟩
 exact h w F v hF (ss 0 d v rfl rfl)
theorem sl_rep {z n:Nat}{xs:List E}{v:Value}(h:cG w F (.sl z n xs) v):∃us,Sl w v z n us∧Pw (cG w F) xs us:=by
 cases h with
 |sl _ _ _ A c vd hl hz oo nR hA hc hr=>
  have h':cG w F (.sl z n xs) (.slice A n c):=.sl z n xs A c vd hl hz oo nR hA hc hr
  obtain⟨h1,h2,h3,h4,h5,us,h6,h7,h8⟩:=h'.reads
  refine⟨us,⟨A,c,rfl,oo,nR,h6,fun hn=>?_⟩,h8⟩
  obtain⟨ad,rfl,hb⟩:=h5 hn
  exact⟨ad,rfl,hb,fun j u hu=>(h7 ad rfl j u hu).1⟩
theorem own_rep(hfits:∀p:Addr,F p→p.block<w.heap.size){w':World}{e:TypeId}{z n:Nat}{xs:List E}{us:List Value}{q:Value}(hz:0<z)(ho:w'.ownsRow w.heap.size e z q n us)(hb:Below w.heap.size w w')(v3:Pw (cG w F) xs us):cG w' (fun p=>F p∨Value.tail q (n*z) p) (.sl z n xs) q:=by
 have hF:∀p:Addr,p.block<w.heap.size→(F p∨Value.tail q (n*z) p)→F p:=by
  rintro p hp (h|⟨b,h1,h2,_⟩)
  ·exact h
  ·have:=(ho.lt b h1).1;omega
 have hpw':=v3.imp (fun _ _ h=>h.mono (F':=fun p=>F p∨Value.tail q (n*z) p) hb.size (fun p hp _=>hb.cell hp) hF)
 have kN:w'.ownsRow w.heap.size e z q (0+n) ([]++us):=by simpa using ho
 -- no cell of the row is forbidden:its block is new
 have:=cG.appended (n:=0) (m:=n) (xs:=[]) (us:=[]) hz kN Pw.nil hpw' (fun b j hbq hj=>by
  rintro (hf|⟨b',h1,h2,h3⟩)
  ·have h4:=(ho.lt b hbq).1
   have h5:b<w.heap.size:=hfits _ hf
   omega
  ·have h4:n*z≤j:=h3
   rw[cj] at hj
   omega)
 simpa using this
end
end
theorem jQ {α:Type}(f:α→List E){z:Nat}(hz:∀a,(f a).length=z)(l:List α):(l.flatMap f).length=l.length*z:=by
 induction l with
 |nil=>simp
 |cons a l ih=>rw[m6,cN,hz,ih,lc,aX,dq,lU]
theorem Qx {α:Type}[Inhabited α](f:α→List E){z:Nat}(hz:∀a,(f a).length=z){l:List α}{i:Nat}(h:i<l.length){c:Nat}(hc:c<z):(l.flatMap f).getD (i*z+c) .any=(f l[i]!).getD c .any:=by
 induction l generalizing i with
 |nil=>simp at h
 |cons a l ih=>
  cases i with
  |zero=>
   simp only[m6,jJ,cj,List.getD,List.getElem!_cons_zero]
   rw[uQ (by rw[hz];exact hc)]
  |succ i=>
   have:=ih (i:=i) (by simpa using h)
   rw[List.getElem!_cons_succ,←this]
   simp only[m6,List.getD]
   rw[rH (by rw[hz,aX];omega),hz]
   congr 2
   rw[aX]
   omega
theorem kJ {α:Type}(f:α→List E){z:Nat}(hz:∀a,(f a).length=z):∀(l:List α) (i:Nat),(l.flatMap f).take (i*z)=(l.take i).flatMap f
 |[],i=>by simp
 |a::l,0=>by simp
 |a::l,i+1=>by
  rw[m6,List.take_succ_cons,m6,←kJ f hz l i,MU,hz,e9 (by rw[hz,aX];omega),aX]
  congr 2
  omega
theorem np {α:Type}(f:α→List E){z:Nat}(hz:∀a,(f a).length=z):∀(l:List α) (i:Nat),(l.flatMap f).drop (i*z)=(l.drop i).flatMap f
 |[],i=>by simp
 |a::l,0=>by simp
 |a::l,i+1=>by
  rw[m6,List.drop_succ_cons,←np f hz l i,MT,hz,List.drop_eq_nil_of_le (by rw[hz,aX];omega),aX,mm]
  congr 2
  omega
section
structure Cd(α:Type) where
 sz:Nat
 f:α→List E
 h:∀a,(f a).length=sz
def cI(k:IntKind):Cd Int:=⟨1,fun n=>[.lit (.int k n)],fun _=>rfl⟩
def cS:Cd ByteArray:=⟨1,fun s=>[.lit (.string s)],fun _=>rfl⟩
def cB:Cd Bool:=⟨1,fun b=>[.lit (.bool b)],fun _=>rfl⟩
def slE {α:Type}(c:Cd α)(l:List α):E:=.sl c.sz l.length (l.flatMap c.f)
def cL {α:Type}(c:Cd α):Cd (List α):=⟨1,fun l=>[slE c l],fun _=>rfl⟩
def cA {α:Type}(n:Nat)(c:Cd α):Cd (Vector α n):=⟨n*c.sz,fun v=>v.toList.flatMap c.f,fun v=>by rw[jQ c.f c.h,m5]⟩
abbrev dI(k:IntKind)(n:Int):D:=.e (.lit (.int k n))
abbrev dS(s:ByteArray):D:=.e (.lit (.string s))
abbrev dB(b:Bool):D:=.e (.lit (.bool b))
abbrev dN:D:=.e (.lit (.slice none 0 0))
abbrev dL {α:Type}(c:Cd α)(l:List α):D:=.e (slE c l)
abbrev dO {α:Type}(id:Nat)(c:Cd α)(l:List α):D:=.own id c.sz l.length (l.flatMap c.f)
abbrev dF {α:Type}(c:Cd α)(l:List α):D:=.fu c.sz l.length (l.flatMap c.f)
abbrev dG {α:Type}(c:Cd α)(a:α):D:=.ag ((c.f a).map .e)
theorem ltb {a b:Nat}(h:Nat.ble (a+1) b=true):a<b:=cD h
theorem leb {a b:Nat}(h:Nat.ble a b=true):a≤b:=cD h
def gd {R:Type}(c:Prop)[Decidable c](k:Option R):Option R:=if c then k else none
def cnd {R:Type}(b:Bool)(x y:Option R):Option R:=match b with|true=>x|false=>y
def bnd {S R:Type}(x:Option S)(k:S→Option R):Option R:=match x with|some s=>k s|none=>none
theorem ax {R:Type}{c:Prop}[Decidable c]{k:Option R}{r:R}(h:gd c k=some r):c∧k=some r:=by
 unfold gd at h
 split at h
 ·exact⟨by assumption,h⟩
 ·cases h
theorem aB {R:Type}{c:Prop}[Decidable c]{k:Option R}(h:c:=by omega):gd c k=k:=an h
theorem TX {R:Type}{b:Bool}{x y:Option R}{r:R}(hb:b=true)(h:cnd b x y=some r):x=some r:=by subst hb;exact h
theorem T0 {R:Type}{b:Bool}{x y:Option R}{r:R}(hb:b=false)(h:cnd b x y=some r):y=some r:=by subst hb;exact h
theorem ai {S R:Type}{x:Option S}{k:S→Option R}{r:R}(h:bnd x k=some r):∃s,x=some s∧k s=some r:=by
 unfold bnd at h
 split at h
 ·exact⟨_,rfl,h⟩
 ·cases h
theorem ab {S R:Type}(s:S)(k:S→Option R):bnd (some s) k=k s:=rfl
def pq {S X:Type}(b:S→Option (S⊕X)):Nat→S→Option X
 |0,_=>none
 |n+1,s=>match b s with
  |some (.inl s')=>pq b n s'
  |some (.inr x)=>some x
  |none=>none
theorem CK {S X:Type}{b:S→Option (S⊕X)}:∀{n:Nat} {s:S} {x:X},pq b n s=some x→∀m,n≤m→pq b m s=some x
 |0,_,_,h,_,_=>by cases h
 |n+1,s,x,h,m,hm=>by
  obtain⟨m,rfl⟩:∃k,m=k+1:=⟨m - 1,by omega⟩
  unfold pq at h ⊢
  split at h
  ·exact CK h m (by omega)
  ·exact h
  ·cases h
def aL {S X:Type}(b:S→Option (S⊕X))(s:S):Option X:=open Classical in if h:∃n x,pq b n s=some x then pq b (Classical.choose h) s else none
theorem qC {S X:Type}{b:S→Option (S⊕X)}{s:S}{x:X}:aL b s=some x↔∃n,pq b n s=some x:=by
 unfold aL
 constructor
 ·intro h
  split at h
  ·exact⟨_,h⟩
  ·cases h
 ·rintro⟨n,hn⟩
  have h:∃n x,pq b n s=some x:=⟨n,x,hn⟩
  rw[dif_pos h]
  obtain⟨y,hy⟩:=DY h
  rw[hy]
  have h1:=CK hn (max n (Classical.choose h)) (al_8 ..)
  have h2:=CK hy (max n (Classical.choose h)) (Io ..)
  rw[h1] at h2
  exact h2.symm
theorem iq {S X:Type}{b:S→Option (S⊕X)}{s s':S}(h:b s=some (.inl s')):aL b s=aL b s':=by
 have key:∀x,aL b s=some x↔aL b s'=some x:=fun x=>by
  rw[qC,qC]
  constructor
  ·rintro⟨n,hn⟩
   cases n with
   |zero=>cases hn
   |succ n=>exact⟨n,by simpa[pq,h] using hn⟩
  ·rintro⟨n,hn⟩
   exact⟨n+1,by simpa[pq,h] using hn⟩
 cases h1:aL b s with
 |some x=>exact ((key x).1 h1).symm
 |none=>
  cases h2:aL b s' with
  |none=>rfl
  |some x=>rw[(key x).2 h2] at h1;cases h1
theorem eI {S X:Type}{b:S→Option (S⊕X)}{s:S}{x:X}(h:b s=some (.inr x)):aL b s=some x:=
 qC.2 ⟨1,by simp[pq,h]⟩
theorem lG {S X:Type}{b:S→Option (S⊕X)}(G:Nat→S)(n m:Nat)(x:X)(QZ:n≤m)(hr:∀i,n≤i→i<m→b (G i)=some (.inl (G (i+1))))(he:b (G m)=some (.inr x)):aL b (G n)=some x:=by
 obtain⟨k,rfl⟩:∃k,m=n+k:=⟨m - n,by omega⟩
 induction k generalizing n with
 |zero=>exact eI he
 |succ k ih=>
  rw[iq (hr n (aC _) (by omega))]
  exact ih (n+1) (by omega) (fun i h1 h2=>hr i (by omega) (by omega)) (by rw[show n+1+k=n+(k+1) by omega];exact he)
section
variable {P:Program} {tb:TypeId→Option TyE} {dr:Bool} {md:Md}
theorem oA.le {o:Oper}{ev:Operand→D}{hp hp':Hp}{d d2:D}(h:oA P o ev hp d hp')(hl:d.le d2):oA P o ev hp d2 hp':=
 fun B g w a Kn Q hr hx hk=>h B g w a Kn Q hr hx fun v g' w' h1 h2 h3 h4 h5=>hk v g' w' h1 h2 (h3.le hl) h4 h5
theorem mz.le {o:Oper}{ev:Operand→D}{hp hp':Hp}{d d2:D}(h:mz P tb md o ev hp d hp')(hl:d.le d2):mz P tb md o ev hp d2 hp':=
 ⟨h.ok.le hl,fun h1=>⟨(h.quiet h1).1,fun bk h3=>((h.quiet h1).2 bk h3).le hl⟩,h.fr,h.lk⟩
variable {ops:Array Oper} {K:List (Nat×D)→Hp→Prop} {os:List Oper} {tm:List (Nat×D)} {hp hp':Hp} {t:Tmp} {dst:Option Tmp} {op:Op} {ty:TypeId} {pos:String} {af:Array Edge} {d d2:D}
theorem st_le(tok:TOk P tb)(hn:md.nc tb op=true)(h:AVC P tb md.dr op ty (evD tm) hp (Kq d hp'))(hl:d.le d2)(h2:aQ P tb md ops K os ((t,d2)::tm) hp'):aQ P tb md ops K (⟨some t,op,ty,pos,af,none⟩::os) tm hp:=
 Js rfl (((AVC.snd tok (o:=⟨some t,op,ty,pos,af,none⟩) h).q hn).le hl) h2
variable {j:Nat} {want c:Bool} {s:Tmp}
theorem Qu(tok:TOk P tb)(hn:md.nc tb op=true)(hj:(ops[j]?).bind (·.dst)=some s)(hc:tm.lookup s=some (.e (.lit (.bool c))))(hw:c=want)(h:AVC P tb md.dr op ty (evD tm) hp (Kq d hp'))(h2:aQ P tb md ops K os ((t,d)::tm) hp'):aQ P tb md ops K (⟨some t,op,ty,pos,af,some (j,want)⟩::os) tm hp:=
 st_on hj hc (by subst hw;cases c <;> rfl) ((AVC.snd tok (o:=⟨some t,op,ty,pos,af,some (j,want)⟩) h).q hn) h2
theorem BI(hp:Hp)(g:Gh)(w:World):aF hp g w (.tu []) undef:=.tu [] #[] rfl fun j d u h=>by simp at h
theorem LL(hj:(ops[j]?).bind (·.dst)=some s)(hc:tm.lookup s=some (.e (.lit (.bool c))))(hw:c= !want)(h2:aQ P tb md ops K os ((t,.tu [])::tm) hp):aQ P tb md ops K (⟨some t,op,ty,pos,af,some (j,want)⟩::os) tm hp:=
 .off (.tu []) (.inl ⟨s,c,hj,hc,by subst hw;cases want <;> rfl⟩) (fun _ _ _ _ _=>BI _ _ _) h2
theorem nn_t(hj:(ops[j]?).bind (·.dst)=some s)(hc:tm.lookup s=some (.tu []))(h2:aQ P tb md ops K os ((t,.tu [])::tm) hp):aQ P tb md ops K (⟨some t,op,ty,pos,af,some (j,want)⟩::os) tm hp:=
 .off (.tu []) (.inr ⟨s,hj,hc,rfl⟩) (fun _ _ _ _ _=>BI _ _ _) h2
theorem sq(tok:TOk P tb){f:FuncId}{aS:List Operand}{ts:Array TypeId}{ds:List D}{r:D}(hc:ar P f ds r)(hp1:((aS.map (evD tm)).map D.ex).all D.pure=true)(hl:leL ((aS.map (evD tm)).map D.ex) ds)(hr:r.pure=true∨∃ds,r=.tu ds)(h2:aQ P tb md ops K os ((t,r)::tm) hp):
  aQ P tb md ops K (⟨some t,.call ⟨.value (.func f),aS.toArray,ts⟩,ty,pos,af,none⟩::os) tm hp:=
 Js rfl (LJ tok rfl (ar.le hc hl) hp1 hr) h2
theorem sqg(tok:TOk P tb){f:FuncId}{aS:List Operand}{ts:Array TypeId}{ds:List D}{r:D}(hj:(ops[j]?).bind (·.dst)=some s)(hg:tm.lookup s=some (.e (.lit (.bool c))))(hw:c=want)(hc:ar P f ds r)(hp1:((aS.map (evD tm)).map D.ex).all D.pure=true)(hl:leL ((aS.map (evD tm)).map D.ex) ds)(hr:r.pure=true∨∃ds,r=.tu ds)(h2:aQ P tb md ops K os ((t,r)::tm) hp):
  aQ P tb md ops K (⟨some t,.call ⟨.value (.func f),aS.toArray,ts⟩,ty,pos,af,some (j,want)⟩::os) tm hp:=
 st_on hj hg (by subst hw;cases c <;> rfl) (LJ tok rfl (ar.le hc hl) hp1 hr) h2
variable {ev:Operand→D} {x y:Operand}
theorem Ax(h:ev x=d:=by exact rfl):AVC P tb dr (.move x) ty ev hp (Kq d hp):=by rw[av_move,h];exact Kq.here _ _
theorem T_mv {t:Tmp}(h:tm.lookup t=some d:=by exact rfl):AVC P tb dr (.move (.tmp t)) ty (evD tm) hp (Kq d hp):=Ax (h:=by show (tm.lookup t).getD .top=d;rw[h];rfl)
theorem lq {t:Tmp}(h:tm.lookup t=some d:=by exact rfl)(hk:KO tb ty d hp (Kq d hp)=Kq d hp d hp:=by exact rfl):AVC P tb dr (.assign (.tmp t)) ty (evD tm) hp (Kq d hp):=by
 rw[Aj,show evD tm (.tmp t)=d by show (tm.lookup t).getD .top=d;rw[h];rfl,hk];exact Kq.here _ _
theorem Ef(h:ev x=d:=by exact rfl)(hk:KO tb ty d hp (Kq d hp)=Kq d hp d hp:=by exact rfl):AVC P tb dr (.assign x) ty ev hp (Kq d hp):=by rw[Aj,h,hk];exact Kq.here _ _
theorem d8 {vs:List (Nat×List D)}{lv:List (Nat×Nat×Nat×TypeId)}{N0:Nat}{e:TypeId}{i j:TyE}(ht:tb ty=some i)(he:tb e=some j)(h:ev x=dN:=by exact rfl)(hi:i.ty=.slice e:=by exact rfl)(hz:Nat.ble (0+1) (j.size)=true:=by exact rfl):AVC P tb dr (.assign x) ty ev ⟨vs,lv,N0⟩ (Kq (.own N0 j.size 0 []) ⟨vs,(N0,0,j.size,e)::lv,N0+1⟩):=by
 replace hz:=cD hz
 rw[Aj,h,Uj,ht]
 simp only[hi,he]
 exact⟨hz,Kq.here _ _⟩
theorem vJ {cn:Operand}{b:Bool}(hb:b=true)(hc:ev cn=dB b:=by exact rfl)(h:ev x=d:=by exact rfl):AVC P tb dr (.pick cn x y) ty ev hp (Kq d hp):=by
 subst hb;rw[OS,hc,pickV_t,h];exact Kq.here _ _
theorem tT {cn:Operand}{b:Bool}(hb:b=false)(hc:ev cn=dB b:=by exact rfl)(h:ev y=d:=by exact rfl):AVC P tb dr (.pick cn x y) ty ev hp (Kq d hp):=by
 subst hb;rw[OS,hc,pickV_f,h];exact Kq.here _ _
theorem cc {vs:List (Nat×List D)}{lv:List (Nat×Nat×Nat×TypeId)}{N0:Nat}{t:TypeId}{i:TyE}(ht:tb t=some i):AVC P tb dr (.alloc t) ty ev ⟨vs,lv,N0⟩ (Kq (.pt N0 0) ⟨(N0,(i.zero.map fun v=>.e (.lit v)))::vs,lv,N0+1⟩):=by
 rw[Ui,QI,ht];exact Kq.here _ _
theorem jb {vs:List (Nat×List D)}{lv:List (Nat×Nat×Nat×TypeId)}{N0:Nat}{t:TypeId}{cs:List D}(h:(ev x).cells=some cs:=by exact rfl):AVC P tb dr (.box t x) ty ev ⟨vs,lv,N0⟩ (Kq (.pt N0 0) ⟨(N0,cs)::vs,lv,N0+1⟩):=by
 rw[av_box,boxV_eq,h];exact Kq.here _ _
theorem cp {t:TypeId}{i:TyE}{fs:List (Nat×TypeId)}{ps:List (Nat×Operand)}{qs:List (Nat×List D)}{es:List D}(ht:tb t=some i)(hi:i.ty=.struct fs:=by exact rfl)(ha:(fs.all fun f=>(tb f.2).isSome)=true:=by exact rfl)(hp1:g6 (ps.map fun p=>(p.1,ev p.2))=some qs:=by exact rfl)(hf:fJ (mV tb fs) (i.zero.map fun v=>D.e (.lit v)) qs=some es:=by exact rfl):
  AVC P tb dr (.build t ps.toArray) ty ev hp (Kq (.ag es) hp):=by
 rw[yE,vw,ht,hp1]
 simp only[hi,hf]
 exact⟨fun f hf=>(bx.1 ha) f hf,Kq.here _ _⟩
theorem kB {t e:TypeId}{n:Nat}{i j:TyE}{ps:List (Nat×Operand)}{qs:List (Nat×List D)}{es:List D}(ht:tb t=some i)(he:tb e=some j)(hi:i.ty=.arr n e:=by exact rfl)(hp1:g6 (ps.map fun p=>(p.1,ev p.2))=some qs:=by exact rfl)(hf:fJ (fun n=>some (n*j.size,j.size)) (i.zero.map fun v=>D.e (.lit v)) qs=some es:=by exact rfl):
  AVC P tb dr (.build t ps.toArray) ty ev hp (Kq (.ag es) hp):=by
 rw[yE,vw,ht,hp1]
 simp only[hi,he,hf]
 exact Kq.here _ _
theorem oi {vs:List (Nat×List D)}{lv:List (Nat×Nat×Nat×TypeId)}{N0:Nat}{t e:TypeId}{i j:TyE}{n:Nat}{ps:List (Nat×Operand)}{qs:List (Nat×List D)}{es:List D}{xs:List E}(ht:tb t=some i)(he:tb e=some j)(hi:i.ty=.slice e:=by exact rfl)(hz:Nat.ble (0+1) (j.size)=true:=by exact rfl)(hn:Nat.ble ((n+1)*j.size) (16777216)=true:=by exact rfl)(hp1:g6 (ps.map fun p=>(p.1,ev p.2))=some qs:=by exact rfl)(hf:fJ (fun m=>some (m*j.size,j.size)) (List.replicate ((n+1)*j.size) (D.e .any)) qs=some es:=by exact rfl)(hc:tM es=some xs:=by exact rfl)(hd:dr=false:=by exact rfl):AVC P tb dr (.buildSlice t (n+1) ps.toArray) ty ev ⟨vs,lv,N0⟩ (Kq (.own N0 j.size (n+1) xs) ⟨vs,(N0,(n+1),j.size,e)::lv,N0+1⟩):=by
 replace hz:=cD hz
 replace hn:=cD hn
 subst hd
 rw[wu]
 unfold eg
 rw[ht,hp1]
 simp only[hi,he,hf,hc]
 exact⟨hz,hn,Kq.here _ _⟩
theorem UK {t e:TypeId}{i j:TyE}{n:Nat}{ps:List (Nat×Operand)}{qs:List (Nat×List D)}{es:List D}{xs:List E}(ht:tb t=some i)(he:tb e=some j)(hi:i.ty=.slice e:=by exact rfl)(hz:Nat.ble (0+1) (j.size)=true:=by exact rfl)(hn:Nat.ble ((n+1)*j.size) (16777216)=true:=by exact rfl)(hp1:g6 (ps.map fun p=>(p.1,ev p.2))=some qs:=by exact rfl)(hf:fJ (fun m=>some (m*j.size,j.size)) (List.replicate ((n+1)*j.size) (D.e .any)) qs=some es:=by exact rfl)(hc:tM es=some xs:=by exact rfl)(hd:dr=true:=by exact rfl):AVC P tb dr (.buildSlice t (n+1) ps.toArray) ty ev hp (Kq (.fu j.size (n+1) xs) hp):=by
 replace hz:=cD hz
 replace hn:=cD hn
 subst hd
 rw[wu]
 unfold eg
 rw[ht,hp1]
 simp only[hi,he,hf,hc]
 exact⟨hz,hn,Kq.here _ _⟩
theorem UL {vs:List (Nat×List D)}{lv:List (Nat×Nat×Nat×TypeId)}{N0:Nat}{t e:TypeId}{i j:TyE}(ht:tb t=some i)(he:tb e=some j)(hi:i.ty=.slice e:=by exact rfl)(hz:Nat.ble (0+1) (j.size)=true:=by exact rfl):AVC P tb dr (.buildSlice t 0 #[]) ty ev ⟨vs,lv,N0⟩ (Kq (.own N0 j.size 0 []) ⟨vs,(N0,0,j.size,e)::lv,N0+1⟩):=by
 replace hz:=cD hz
 show eg tb (!dr) t 0 [] _ _
 unfold eg
 rw[ht]
 simp only[g6,hi,he]
 exact⟨hz,by omega,trivial,Kq.here _ _⟩
theorem Ed {t:TypeId}{i:TyE}{j off:Nat}{ds:List D}(ht:tb t=some i)(hg:i.ty.agg=false:=by exact rfl)(hx:ev x=.pt j off:=by exact rfl)(hv:hp.vars.lookup j=some ds:=by exact rfl)(hn:Nat.ble (j+1) (hp.next)=true:=by exact rfl)(hd:ds[off]? =some d:=by exact rfl):AVC P tb dr (.load t x) ty ev hp (Kq d hp):=by
 replace hn:=cD hn
 rw[rE,hx,nP,ht,hv]
 simp only[hg]
 exact⟨hn,d,hd,Kq.here _ _⟩
theorem cF {t:TypeId}{i:TyE}{j off:Nat}{ds es:List D}(ht:tb t=some i)(hg:i.ty.agg=true:=by exact rfl)(hx:ev x=.pt j off:=by exact rfl)(hv:hp.vars.lookup j=some ds:=by exact rfl)(hn:Nat.ble (j+1) (hp.next)=true:=by exact rfl)(hl:Nat.ble (off+i.size) (ds.length)=true:=by exact rfl)(hd:(ds.drop off).take i.size=es:=by exact rfl):AVC P tb dr (.load t x) ty ev hp (Kq (.ag es) hp):=by
 replace hn:=cD hn
 replace hl:=cD hl
 rw[rE,hx,nP,ht,hv]
 simp only[hg]
 exact⟨hn,hl,by rw[hd];exact Kq.here _ _⟩
theorem Ow {α:Type}[Inhabited α]{c:Cd α}{l:List α}{n o:Nat}{e:E}(hn:n<l.length)(ho:(c.f l[n]!)[o]? =some e):n*c.sz+o<(l.flatMap c.f).length∧(l.flatMap c.f).getD (n*c.sz+o) .any=e:=by
 have hoz:o<c.sz:=by
  rw[←c.h l[n]!]
  exact (lV.1 ho).1
 refine⟨?_,?_⟩
 ·rw[jQ c.f c.h]
  have:(n+1)*c.sz≤l.length*c.sz:=bY _ hn
  rw[aX] at this
  omega
 ·rw[Qx c.f c.h hn hoz,List.getD,ho];rfl
theorem s7 {α:Type}[Inhabited α]{t:TypeId}{i:TyE}{c:Cd α}{l:List α}{n o:Nat}{e:E}(ht:tb t=some i)(hn:n<l.length)(hg:i.ty.agg=false:=by exact rfl)(hx:ev x=.fp (l.flatMap c.f) (n*c.sz+o):=by exact rfl)(ho:(c.f l[n]!)[o]? =some e:=by exact rfl):AVC P tb dr (.load t x) ty ev hp (Kq (.e e) hp):=by
 obtain⟨h1,h2⟩:=Ow hn ho
 rw[rE,hx,JY,ht]
 simp only[hg]
 refine⟨h1,?_⟩
 rw[h2]
 exact Kq.here _ _
theorem rK {α:Type}[Inhabited α]{t:TypeId}{i:TyE}{c:Cd α}{l:List α}{n o:Nat}{es:List E}(ht:tb t=some i)(hn:n<l.length)(ho:((c.f l[n]!).drop o).take i.size=es)(hg:i.ty.agg=true:=by exact rfl)(hx:ev x=.fp (l.flatMap c.f) (n*c.sz+o):=by exact rfl)(hoz:Nat.ble (o+i.size) (c.sz)=true:=by exact rfl):AVC P tb dr (.load t x) ty ev hp (Kq (.ag (es.map .e)) hp):=by
 replace hoz:=cD hoz
 have hlen:(c.f l[n]!).length=c.sz:=c.h _
 have hle:(es.map D.e)=(List.range i.size).map fun j=>D.e ((l.flatMap c.f).getD (n*c.sz+o+j) .any):=by
  subst ho
  refine DP fun j=>?_
  by_cases hj:j<i.size
  ·have qc:o+j<(c.f l[n]!).length:=by omega
   have h3:=Ow (o:=o+j) hn (eG qc)
   rw[bE,bE,fY,an hj,nt,eG qc,MS hj]
   simp only[nr,kU]
   rw[h3.2]
  ·rw[gP (by simp;omega),gP (by simp;omega)]
 rw[rE,hx,JY,ht]
 simp only[hg]
 refine⟨?_,?_⟩
 ·rw[jQ c.f c.h]
  have:(n+1)*c.sz≤l.length*c.sz:=bY _ hn
  rw[aX] at this
  omega
 ·rw[hle]
  exact Kq.here _ _
theorem eL {vs:List (Nat×List D)}{lv:List (Nat×Nat×Nat×TypeId)}{N0:Nat}{t:TypeId}{i:TyE}{j off:Nat}{ds cs ds':List D}(ht:tb t=some i)(hx:ev x=.pt j off:=by exact rfl)(hv:vs.lookup j=some ds:=by exact rfl)(hc:(ev y).cells=some cs:=by exact rfl)(hl:cs.length=i.size:=by exact rfl)(ho:Nat.ble (off+i.size) (ds.length)=true:=by exact rfl)(he:ds.take off++cs++ds.drop (off+cs.length)=ds':=by exact rfl):AVC P tb dr (.store t x y) ty ev ⟨vs,lv,N0⟩ (Kq .top ⟨(j,ds')::vs,lv,N0⟩):=by
 replace ho:=cD ho
 rw[DD,hx,zq,ht,hv,hc]
 exact⟨hl,ho,by rw[he];exact Kq.here _ _⟩
theorem p8 {o:BinOp}{t t':TypeId}{k k':IntKind}{a b:Int}{v:Value}(hx:ev x=dI k a)(hy:ev y=dI k' b)(h:nE P o t (dI k a) (dI k' b) fun u=>Kq (.e (.lit v)) hp (.e (.lit u)) hp):AVC P tb dr (.binOp o t x y t') ty ev hp (Kq (.e (.lit v)) hp):=by
 rw[pG,hx,hy];exact h
theorem Ph {t t':TypeId}{k:IntKind}{a b:Int}(hx:ev x=dI k a:=by exact rfl)(hy:ev y=dI k b:=by exact rfl):AVC P tb dr (.binOp .add t x y t') ty ev hp (Kq (dI k (k.wrap (a+b))) hp):=p8 hx hy (by rw[bin_add];exact⟨rfl,Kq.here _ _⟩)
theorem O2 {t t':TypeId}{k:IntKind}{a b:Int}(hx:ev x=dI k a:=by exact rfl)(hy:ev y=dI k b:=by exact rfl):AVC P tb dr (.binOp .sub t x y t') ty ev hp (Kq (dI k (k.wrap (a - b))) hp):=p8 hx hy (by rw[bin_sub];exact⟨rfl,Kq.here _ _⟩)
theorem O8 {t t':TypeId}{k:IntKind}{a b:Int}(hx:ev x=dI k a:=by exact rfl)(hy:ev y=dI k b:=by exact rfl):AVC P tb dr (.binOp .mul t x y t') ty ev hp (Kq (dI k (k.wrap (a*b))) hp):=p8 hx hy (by rw[bin_mul];exact⟨rfl,Kq.here _ _⟩)
theorem Gs {t t':TypeId}{k:IntKind}{a b:Int}(hb:b≠0)(hx:ev x=dI k a:=by exact rfl)(hy:ev y=dI k b:=by exact rfl):AVC P tb dr (.binOp .quo t x y t') ty ev hp (Kq (dI k (k.wrap (a.tdiv b))) hp):=p8 hx hy (by rw[bin_quo];exact⟨rfl,hb,Kq.here _ _⟩)
theorem Ec {t t':TypeId}{k:IntKind}{a b:Int}(hb:b≠0)(hx:ev x=dI k a:=by exact rfl)(hy:ev y=dI k b:=by exact rfl):AVC P tb dr (.binOp .rem t x y t') ty ev hp (Kq (dI k (a.tmod b)) hp):=p8 hx hy (by rw[bin_rem];exact⟨rfl,hb,Kq.here _ _⟩)
def Hz(k:IntKind)(a b:Int):Int:=k.wrap (BitVec.ofInt k.bits a &&&BitVec.ofInt k.bits b).toNat
def ior(k:IntKind)(a b:Int):Int:=k.wrap (BitVec.ofInt k.bits a |||BitVec.ofInt k.bits b).toNat
def ixor(k:IntKind)(a b:Int):Int:=k.wrap (BitVec.ofInt k.bits a ^^^ BitVec.ofInt k.bits b).toNat
def vU(k:IntKind)(a b:Int):Int:=k.wrap (a*2 ^ min b.toNat k.bits)
def li(k:IntKind)(a b:Int):Int:=a.fdiv (2 ^ min b.toNat k.bits)
theorem UN {t t':TypeId}{k:IntKind}{a b:Int}(hx:ev x=dI k a:=by exact rfl)(hy:ev y=dI k b:=by exact rfl):AVC P tb dr (.binOp .and t x y t') ty ev hp (Kq (dI k (Hz k a b)) hp):=p8 hx hy (by rw[bin_and];exact⟨rfl,Kq.here _ _⟩)
theorem T_or {t t':TypeId}{k:IntKind}{a b:Int}(hx:ev x=dI k a:=by exact rfl)(hy:ev y=dI k b:=by exact rfl):AVC P tb dr (.binOp .or t x y t') ty ev hp (Kq (dI k (ior k a b)) hp):=p8 hx hy (by rw[bin_or];exact⟨rfl,Kq.here _ _⟩)
theorem UC {t t':TypeId}{k:IntKind}{a b:Int}(hx:ev x=dI k a:=by exact rfl)(hy:ev y=dI k b:=by exact rfl):AVC P tb dr (.binOp .xor t x y t') ty ev hp (Kq (dI k (ixor k a b)) hp):=p8 hx hy (by rw[bin_xor];exact⟨rfl,Kq.here _ _⟩)
theorem O5 {t t':TypeId}{k k':IntKind}{a b:Int}(hb:0≤b)(hx:ev x=dI k a:=by exact rfl)(hy:ev y=dI k' b:=by exact rfl):AVC P tb dr (.binOp .shl t x y t') ty ev hp (Kq (dI k (vU k a b)) hp):=p8 hx hy (by rw[bin_shl];exact⟨hb,Kq.here _ _⟩)
theorem O4 {t t':TypeId}{k k':IntKind}{a b:Int}(hb:0≤b)(hx:ev x=dI k a:=by exact rfl)(hy:ev y=dI k' b:=by exact rfl):AVC P tb dr (.binOp .shr t x y t') ty ev hp (Kq (dI k (li k a b)) hp):=p8 hx hy (by rw[bin_shr];exact⟨hb,Kq.here _ _⟩)
theorem Pf {t t':TypeId}{k:IntKind}{a b:Int}(hx:ev x=dI k a:=by exact rfl)(hy:ev y=dI k b:=by exact rfl):AVC P tb dr (.binOp .eql t x y t') ty ev hp (Kq (dB (decide (a=b))) hp):=p8 hx hy (by rw[bin_eql];exact⟨rfl,Kq.here _ _⟩)
theorem O7 {t t':TypeId}{k:IntKind}{a b:Int}(hx:ev x=dI k a:=by exact rfl)(hy:ev y=dI k b:=by exact rfl):AVC P tb dr (.binOp .neq t x y t') ty ev hp (Kq (dB (decide (a≠b))) hp):=p8 hx hy (by rw[bin_neq];exact⟨rfl,Kq.here _ _⟩)
theorem O9 {t t':TypeId}{k:IntKind}{a b:Int}(hx:ev x=dI k a:=by exact rfl)(hy:ev y=dI k b:=by exact rfl):AVC P tb dr (.binOp .lss t x y t') ty ev hp (Kq (dB (decide (a<b))) hp):=p8 hx hy (by rw[bin_lss];exact⟨rfl,Kq.here _ _⟩)
theorem Pb {t t':TypeId}{k:IntKind}{a b:Int}(hx:ev x=dI k a:=by exact rfl)(hy:ev y=dI k b:=by exact rfl):AVC P tb dr (.binOp .leq t x y t') ty ev hp (Kq (dB (decide (a≤b))) hp):=p8 hx hy (by rw[bin_leq];exact⟨rfl,Kq.here _ _⟩)
theorem Pc {t t':TypeId}{k:IntKind}{a b:Int}(hx:ev x=dI k a:=by exact rfl)(hy:ev y=dI k b:=by exact rfl):AVC P tb dr (.binOp .gtr t x y t') ty ev hp (Kq (dB (decide (b<a))) hp):=p8 hx hy (by rw[bin_gtr];exact⟨rfl,Kq.here _ _⟩)
theorem Pd {t t':TypeId}{k:IntKind}{a b:Int}(hx:ev x=dI k a:=by exact rfl)(hy:ev y=dI k b:=by exact rfl):AVC P tb dr (.binOp .geq t x y t') ty ev hp (Kq (dB (decide (b≤a))) hp):=p8 hx hy (by rw[bin_geq];exact⟨rfl,Kq.here _ _⟩)
theorem T_sadd {t t':TypeId}{a b:ByteArray}(hs:a.size+b.size≤9223372036854775807)(hx:ev x=dS a:=by exact rfl)(hy:ev y=dS b:=by exact rfl):AVC P tb dr (.binOp .add t x y t') ty ev hp (Kq (dS (a++b)) hp):=by
 rw[pG,hx,hy,Ua];exact⟨hs,Kq.here _ _⟩
theorem IC {t t':TypeId}{a b:ByteArray}(hx:ev x=dS a:=by exact rfl)(hy:ev y=dS b:=by exact rfl):AVC P tb dr (.binOp .eql t x y t') ty ev hp (Kq (dB (decide (a=b))) hp):=by
 rw[pG,hx,hy,T9];exact Kq.here _ _
theorem IB {t t':TypeId}{a b:ByteArray}(hx:ev x=dS a:=by exact rfl)(hy:ev y=dS b:=by exact rfl):AVC P tb dr (.binOp .neq t x y t') ty ev hp (Kq (dB (decide (a≠b))) hp):=by
 rw[pG,hx,hy,T8];exact Kq.here _ _
theorem IF {t t':TypeId}{a b:Bool}(hu:P.underlying t=some .bool)(hx:ev x=dB a:=by exact rfl)(hy:ev y=dB b:=by exact rfl):AVC P tb dr (.binOp .eql t x y t') ty ev hp (Kq (dB (a == b)) hp):=by
 rw[pG,hx,hy,Uc];exact⟨hu,Kq.here _ _⟩
theorem IE {t t':TypeId}{a b:Bool}(hu:P.underlying t=some .bool)(hx:ev x=dB a:=by exact rfl)(hy:ev y=dB b:=by exact rfl):AVC P tb dr (.binOp .neq t x y t') ty ev hp (Kq (dB (!(a == b))) hp):=by
 rw[pG,hx,hy,Ub];exact⟨hu,Kq.here _ _⟩
theorem T_geql(tok:TOk P tb)(n:Nat)(hd:n≤10000){t t':TypeId}{i:TyE}{xs ys:List D}{us vs:List Value}{p:Prop}(ht:tb t=some i)(hg:i.ty.agg=true)(hm:P.eqGuardType P.depth t=false)(hn:kY P n t=true)(hx:ev x=.ag xs)(hy:ev y=.ag ys)(vY:kL xs=some us)(AS:kL ys=some vs)(hu:mW tb n t us)(hv:mW tb n t vs)(hp1:us=vs↔p)[inst:Decidable p]:AVC P tb dr (.binOp .eql t x y t') ty ev hp (Kq (dB (decide p)) hp):=by
 rw[pG,hx,hy];exact Ue tok n hd ht hg hm hn vY AS hu hv hp1 inst (Kq.here _ _)
theorem T_gneq(tok:TOk P tb)(n:Nat)(hd:n≤10000){t t':TypeId}{i:TyE}{xs ys:List D}{us vs:List Value}{p:Prop}(ht:tb t=some i)(hg:i.ty.agg=true)(hm:P.eqGuardType P.depth t=false)(hn:kY P n t=true)(hx:ev x=.ag xs)(hy:ev y=.ag ys)(vY:kL xs=some us)(AS:kL ys=some vs)(hu:mW tb n t us)(hv:mW tb n t vs)(hp1:us=vs↔p)[inst:Decidable p]:AVC P tb dr (.binOp .neq t x y t') ty ev hp (Kq (dB (decide (¬p))) hp):=by
 rw[pG,hx,hy];exact Ud tok n hd ht hg hm hn vY AS hu hv hp1 inst (Kq.here _ _)
theorem O6 {t:TypeId}{a:Bool}(hx:ev x=dB a:=by exact rfl):AVC P tb dr (.unOp .not t x) ty ev hp (Kq (dB (!a)) hp):=by rw[OR,hx,un_not];exact Kq.here _ _
theorem UD {t:TypeId}{k:IntKind}{a:Int}(hx:ev x=dI k a:=by exact rfl):AVC P tb dr (.unOp .neg t x) ty ev hp (Kq (dI k (k.wrap (0 - a))) hp):=by rw[OR,hx,un_neg];exact Kq.here _ _
theorem UJ {s t:TypeId}{i j:TyE}{k jk:IntKind}{n:Int}(hs:tb s=some i)(ht:tb t=some j)(hj:j.ty=.int jk:=by exact rfl)(hx:ev x=dI k n:=by exact rfl):AVC P tb dr (.convert s t x) ty ev hp (Kq (dI jk (jk.wrap n)) hp):=by
 rw[MD,hx,conv_eq,hs,ht];simp only[hj];exact Kq.here _ _
theorem UI {s tt:TypeId}{i j:TyE}{f o:Nat}{fs:List (Nat×TypeId)}{ds:List D}(hs:tb s=some i)(ht:tb tt=some j)(hi:i.ty=.struct fs:=by exact rfl)(hf:fs[f]? =some (o,tt):=by exact rfl)(hg:j.ty.agg=false:=by exact rfl)(hx:ev x=.ag ds:=by exact rfl)(hd:ds[o]? =some d:=by exact rfl):AVC P tb dr (.field s x f) ty ev hp (Kq d hp):=by
 rw[KN,hx,F5,rB,hs]
 simp only[hi,hf,ht,hg]
 exact⟨d,hd,Kq.here _ _⟩
theorem T_fldA {s tt:TypeId}{i j:TyE}{f o:Nat}{fs:List (Nat×TypeId)}{ds es:List D}(hs:tb s=some i)(ht:tb tt=some j)(hi:i.ty=.struct fs:=by exact rfl)(hf:fs[f]? =some (o,tt):=by exact rfl)(hg:j.ty.agg=true:=by exact rfl)(hx:ev x=.ag ds:=by exact rfl)(hl:Nat.ble (o+j.size) (ds.length)=true:=by exact rfl)(hd:(ds.drop o).take j.size=es:=by exact rfl):AVC P tb dr (.field s x f) ty ev hp (Kq (.ag es) hp):=by
 replace hl:=cD hl
 rw[KN,hx,F5,rB,hs]
 simp only[hi,hf,ht,hg]
 exact⟨hl,by rw[hd];exact Kq.here _ _⟩
theorem T_faP {s tt:TypeId}{i j:TyE}{f o k off:Nat}{fs:List (Nat×TypeId)}(hs:tb s=some i)(ht:tb tt=some j)(hi:i.ty=.struct fs:=by exact rfl)(hf:fs[f]? =some (o,tt):=by exact rfl)(hz:Nat.ble 1 j.size=true:=by exact rfl)(hx:ev x=.pt k off:=by exact rfl):AVC P tb dr (.fieldAddr s x f) ty ev hp (Kq (.pt k (off+o)) hp):=by
 replace hz:j.size≠0:=by have:=cD hz;omega
 rw[yD,hx,E9,rB,hs]
 simp only[hi,hf,ht]
 exact⟨hz,Kq.here _ _⟩
theorem T_faF {s tt:TypeId}{i j:TyE}{f o off:Nat}{xs:List E}{fs:List (Nat×TypeId)}(hs:tb s=some i)(ht:tb tt=some j)(hi:i.ty=.struct fs:=by exact rfl)(hf:fs[f]? =some (o,tt):=by exact rfl)(hz:Nat.ble 1 j.size=true:=by exact rfl)(hx:ev x=.fp xs off:=by exact rfl):AVC P tb dr (.fieldAddr s x f) ty ev hp (Kq (.fp xs (off+o)) hp):=by
 replace hz:j.size≠0:=by have:=cD hz;omega
 rw[yD,hx,Fa,rB,hs]
 simp only[hi,hf,ht]
 exact⟨hz,Kq.here _ _⟩
theorem UH {t e:TypeId}{i j:TyE}{n:Nat}{xs:List E}{k:IntKind}{v:Int}(hb:0≤v∧v<(n:Int))(ht:tb t=some i)(he:tb e=some j)(hi:i.ty=.slice e:=by exact rfl)(hx:(ev x).asSl j.size=some (n,xs):=by exact rfl)(hy:ev y=dI k v:=by exact rfl):AVC P tb dr (.indexAddr t x y) ty ev hp (Kq (.fp xs (v.toNat*j.size)) hp):=by
 rw[tO,hy,rW,ht]
 simp only[hi,he,hx]
 exact⟨hb,Kq.here _ _⟩
theorem s8 {t e:TypeId}{i j:TyE}{n m off:Nat}{k:IntKind}{v:Int}(hb:0≤v∧v<(n:Int))(ht:tb t=some i)(he:tb e=some j)(hi:i.ty=.arr n e:=by exact rfl)(hx:ev x=.pt m off:=by exact rfl)(hy:ev y=dI k v:=by exact rfl):AVC P tb dr (.indexAddr t x y) ty ev hp (Kq (.pt m (off+v.toNat*j.size)) hp):=by
 rw[tO,hx,hy,rW,ht]
 simp only[hi,he]
 exact⟨hb,Kq.here _ _⟩
def sAt(s:ByteArray)(n:Nat):Int:=((s.data.toList.getD n 0).toNat:Int)
theorem T_ixS {t:TypeId}{i:TyE}{s:ByteArray}{k:IntKind}{v:Int}(hb:0≤v∧v<(s.size:Int))(ht:tb t=some i)(hi:i.ty=.str:=by exact rfl)(hx:ev x=dS s:=by exact rfl)(hy:ev y=dI k v:=by exact rfl):AVC P tb dr (.index t x y) ty ev hp (Kq (dI .u8 (sAt s v.toNat)) hp):=by
 rw[Uh,hx,hy,Qd,ht]
 simp only[hi]
 exact⟨hb,Kq.here _ _⟩
theorem Pe {ds:List D}{i:Nat}(hx:ev x=.tu ds:=by exact rfl)(hd:ds[i]? =some d:=by exact rfl):AVC P tb dr (.extract x i) ty ev hp (Kq d hp):=by
 rw[MC,hx,Kr,hd,TC];exact Kq.here _ _
theorem UE {t e:TypeId}{i j:TyE}{n:Nat}{xs:List E}(ht:tb t=some i)(he:tb e=some j)(hi:i.ty=.slice e:=by exact rfl)(hx:(ev x).asSl j.size=some (n,xs):=by exact rfl):AVC P tb dr (.call ⟨.builtin .len,#[x],#[t]⟩) ty ev hp (Kq (dI .i64 n) hp):=by
 show ig tb .len [t] [ev x] hp _
 rw[rD,BS,ht]
 simp only[hi,he,hx]
 exact Kq.here _ _
theorem ID {t:TypeId}{i:TyE}{s:ByteArray}(ht:tb t=some i)(hi:i.ty=.str:=by exact rfl)(hx:ev x=dS s:=by exact rfl):AVC P tb dr (.call ⟨.builtin .len,#[x],#[t]⟩) ty ev hp (Kq (dI .i64 s.size) hp):=by
 show ig tb .len [t] [ev x] hp _
 rw[hx,rD,BS,ht]
 simp only[hi]
 exact Kq.here _ _
theorem Nk {t e:TypeId}{i:TyE}{n:Nat}(ht:tb t=some i)(hi:i.ty=.arr n e:=by exact rfl):AVC P tb dr (.call ⟨.builtin .len,#[x],#[t]⟩) ty ev hp (Kq (dI .i64 n) hp):=by
 show ig tb .len [t] [ev x] hp _
 rw[rD,BS,ht]
 simp only[hi]
 exact Kq.here _ _
theorem T_min {ts:Array TypeId}{k k':IntKind}{a b:Int}(hx:ev x=dI k a:=by exact rfl)(hy:ev y=dI k' b:=by exact rfl):AVC P tb dr (.call ⟨.builtin .min,#[x,y],ts⟩) ty ev hp (Kq (dI k (min a b)) hp):=by
 show ig tb .min ts.toList [ev x,ev y] hp _
 rw[hx,hy,KE];exact Kq.here _ _
theorem T_max {ts:Array TypeId}{k k':IntKind}{a b:Int}(hx:ev x=dI k a:=by exact rfl)(hy:ev y=dI k' b:=by exact rfl):AVC P tb dr (.call ⟨.builtin .max,#[x,y],ts⟩) ty ev hp (Kq (dI k (max a b)) hp):=by
 show ig tb .max ts.toList [ev x,ev y] hp _
 rw[hx,hy,KF];exact Kq.here _ _
theorem news_sl {t e:TypeId}{z m:Nat}{ys:List E}{i:TyE}{xd:D}{kn:Nat→List E→Prop}(ht:tb t=some i)(hi:i.ty=.slice e)(hs:xd.strOf=none)(hx:xd.asSl z=some (m,ys))(h:kn m ys):xV tb t z xd kn:=by
 rw[R6,ht];simp only[hi,hs,hx];exact h
theorem ip {vs:List (Nat×List D)}{lv:List (Nat×Nat×Nat×TypeId)}{N0:Nat}{α:Type}{t e:TypeId}{i j:TyE}{id m:Nat}{c:Cd α}{l l':List α}(ht:tb t=some i)(he:tb e=some j)(hf:(l++l').length*max 1 j.bytes≤140737488355328)(hi:i.ty=.slice e:=by exact rfl)(hz:Nat.ble (0+1) (j.size)=true:=by exact rfl)(hx:ev x=dO id c l:=by exact rfl)(hc:c.sz=j.size:=by exact rfl)(hl:lv.lookup id=some (l.length,j.size,e):=by exact rfl)(hs:(ev y).strOf=none:=by exact rfl)(hy:(ev y).asSl j.size=some (m,l'.flatMap c.f):=by exact rfl)(hm:m=l'.length:=by exact rfl):
  AVC P tb dr (.call ⟨.builtin .append,#[x,y],#[t,t]⟩) ty ev ⟨vs,lv,N0⟩ (Kq (dO id c (l++l')) ⟨vs,(id,(l++l').length,j.size,e)::lv,N0⟩):=by
 replace hz:=cD hz
 subst hm
 show ig tb .append [t,t] [ev x,ev y] _ _
 rw[hx,DA,KR,ht]
 simp only[hi,he]
 refine⟨hz,fun _=>trivial,fun h=>absurd hs h,news_sl ht hi hs hy ?_⟩
 refine⟨hc,hl,by rw[←cN];exact hf,?_⟩
 dsimp only[dO]
 rw[cN,DO,hc]
 exact Kq.here _ _
def Lx {α:Type}(l:List α)(a b:Int):List α:=(l.drop a.toNat).take (b - a).toNat
theorem Jq {α:Type}{l:List α}{a b:Int}(h:0≤a∧a≤b∧b≤(l.length:Int)):(Lx l a b).length=(b - a).toNat:=by
 simp only[Lx,cz,fZ];omega
theorem slE_sub {α:Type}{c:Cd α}{l:List α}{a b:Int}(h:0≤a∧a≤b∧b≤(l.length:Int)):E.sl c.sz (b - a).toNat (((l.flatMap c.f).drop (a.toNat*c.sz)).take ((b - a).toNat*c.sz))=slE c (Lx l a b):=by
 unfold slE
 rw[Jq h,np c.f c.h,kJ c.f c.h];rfl
theorem T_sl {α:Type}{t e:TypeId}{i j:TyE}{c:Cd α}{l:List α}{n:Nat}{lo hi:Option Operand}{a b:Int}(hb:0≤a∧a≤b∧b≤(l.length:Int))(ht:tb t=some i)(he:tb e=some j)(Oo:i.ty=.slice e:=by exact rfl)(hc:c.sz=j.size:=by exact rfl)(hx:(ev x).asSl j.size=some (n,l.flatMap c.f):=by exact rfl)(hn:n=l.length:=by exact rfl)(C8:oX (lo.map ev) 0=fun k=>k a:=by exact rfl)(Lg:oX (hi.map ev) n=fun k=>k b:=by exact rfl):AVC P tb dr (.slice t x lo hi none) ty ev hp (Kq (dL c (Lx l a b)) hp):=by
 subst hn
 rw[Ug]
 unfold Co
 rw[ht]
 simp only[Oo,he,hx,C8,Lg,Option.map_none]
 refine⟨hb,?_⟩
 rw[←hc,slE_sub hb]
 exact Kq.here _ _
theorem Az {x:Operand}{f:FuncId}{aS:List Operand}{ts:Array TypeId}{ds:List D}{r:D}(uL:ev x=.e (.lit (.func (.func f) #[] #[])))(hc:ar P f ds r)(hp1:((aS.map ev).map D.ex).all D.pure=true)(hl:leL ((aS.map ev).map D.ex) ds)(hr:r.pure=true∨∃ds,r=.tu ds):AVC P tb dr (.call ⟨.value x,aS.toArray,ts⟩) ty ev hp (Kq r hp):=by
 show tN P (hvB tb ⟨.value x,aS.toArray,ts⟩) (ev x) (aS.toArray.toList.map ev) hp (Kq r hp)
 rw[uL]
 refine⟨rfl,rfl,.inl ⟨hp1,r,ar.le hc hl,?_⟩⟩
 unfold Iz
 split
 ·rcases hr with hr|⟨_,hr⟩ <;> cases hr
 ·rcases hr with hr|⟨_,hr⟩ <;> cases hr
 ·exact Kq.here _ _
theorem yV {vs:List (Nat×List D)}{lv:List (Nat×Nat×Nat×TypeId)}{N0:Nat}{x:Operand}{f:FuncId}{aS:List Operand}{ts:Array TypeId}{ds:List D}{e z n:Nat}{xs:List E}(uL:ev x=.e (.lit (.func (.func f) #[] #[])))(hc:ar P f ds (.own e z n xs))(hp1:((aS.map ev).map D.ex).all D.pure=true)(hl:leL ((aS.map ev).map D.ex) ds):AVC P tb dr (.call ⟨.value x,aS.toArray,ts⟩) ty ev ⟨vs,lv,N0⟩ (Kq (.own N0 z n xs) ⟨vs,(N0,n,z,e)::lv,N0+1⟩):=by
 show tN P (hvB tb ⟨.value x,aS.toArray,ts⟩) (ev x) (aS.toArray.toList.map ev) _ _
 rw[uL]
 exact⟨rfl,rfl,.inl ⟨hp1,_,ar.le hc hl,Kq.here _ _⟩⟩
theorem Pg {x:Operand}{f:FuncId}{aS:List Operand}{ts:Array TypeId}{ds:List D}(uL:ev x=.e (.lit (.func (.func f) #[] #[])))(hc:HC P f ds hp d hp')(hd:aS.map ev=ds:=by exact rfl)(hh:hvB tb ⟨.value x,aS.toArray,ts⟩=true:=by exact rfl):AVC P tb dr (.call ⟨.value x,aS.toArray,ts⟩) ty ev hp (Kq d hp'):=by
 show tN P (hvB tb ⟨.value x,aS.toArray,ts⟩) (ev x) (aS.toArray.toList.map ev) hp _
 rw[uL]
 refine⟨rfl,rfl,.inr ⟨hh,d,hp',?_,Kq.here _ _⟩⟩
 show HC P f (aS.map ev) hp d hp'
 rw[hd];exact hc
theorem T_callF {x:Operand}{f:FuncId}{ks:List Nat}{aS:List Operand}{ts:Array TypeId}{ds:List D}(uL:ev x=.fn f ks)(hc:HC P f ds hp d hp')(hd:aS.map ev++ks.map (fun k=>D.pt k 0)=ds:=by exact rfl)(hh:hvB tb ⟨.value x,aS.toArray,ts⟩=true:=by exact rfl):AVC P tb dr (.call ⟨.value x,aS.toArray,ts⟩) ty ev hp (Kq d hp'):=by
 show tN P (hvB tb ⟨.value x,aS.toArray,ts⟩) (ev x) (aS.toArray.toList.map ev) hp _
 rw[uL]
 refine .inr ⟨hh,d,hp',?_,Kq.here _ _⟩
 show HC P f (aS.map ev++ks.map fun k=>.pt k 0) hp d hp'
 rw[hd];exact hc
theorem wy {f:FuncId}{first cs:List Operand}{ks:List Nat}(h:first.length=0:=by exact rfl)(hc:A4 (cs.map ev)=some ks:=by exact rfl)(hn:cs.length≠0:=by decide):AVC P tb dr (.makeFunc (.func f) first.toArray cs.toArray) ty ev hp (Kq (.fn f ks) hp):=by
 rw[KM]
 show first.length=0∧_
 refine⟨h,?_⟩
 cases cs with
 |nil=>exact absurd rfl hn
 |cons c cs=>
  show (match A4 ((c::cs).map ev) with|some ks=>Ak (Kq (.fn f _) hp) hp (.fn f ks)|none=>False)
  rw[hc]
  exact Kq.here _ _
theorem Nj {k off:Nat}(hx:ev x=.pt k off:=by exact rfl):AVC P tb dr (.nilCheck x) ty ev hp (Kq (.pt k off) hp):=by rw[KL,hx,nilV_pt];exact Kq.here _ _
end
section
variable {P:Program} {tb:TypeId→Option TyE} {x:Cx} {tm tm':List (Nat×D)} {hp hp':Hp} {Q:Exit→List (Nat×D)→Hp→Prop}
theorem own_mtG(w:World)(e:TypeId)(base size:Nat)(hb:base≤w.heap.size):(w.alloc (.cells #[] e)).ownsRow base e size (.slice (some ⟨w.heap.size,0,none⟩) 0 0) 0 []:=
 ⟨by simp,.inr ⟨w.heap.size,0,#[],rfl,hb,heap_alloc_new w _,aC _,by decide,by simp,by simp⟩⟩
theorem T1 {f:FuncId}{e z n:Nat}{xs:List E}(hz:0<z)(hf:Nv P f)(h:∀(us:List Value) (v:Value) (w:World),Sl w v z n us→(∀u∈us,u.oneCell'=true)→Calls P f #[v] w fun en w'=>∃q,en=.returned q∧w'.ownsRow w.heap.size e z q n us∧Below w.heap.size w w'):ar P f [.e (.sl z n xs)] (.own e z n xs):=
 ar.of1 hf fun w F v hF hv=>by
  have hv:=hv.e_inv
  obtain⟨us,QY,v3⟩:=sl_rep hv
  refine (h us v w QY (fun u hu=>by
   obtain⟨j,hj⟩:=sT hu
   have bh:j<xs.length:=by
    rw[v3.1]
    rcases bO j us.length with h|h
    ·exact h
    ·rw[gP h] at hj;cases hj
   exact (v3.2 j _ u (eG bh) hj).one)).mono ?_
  rintro en w' ⟨q,rfl,ho,hb⟩
  exact⟨q,rfl,⟨hz,⟨us,ho⟩,own_rep hF hz ho hb v3⟩,hb⟩
theorem AW.loopO {c:Code}{S X:Type}{b:S→Option (S⊕X)}(T:S→List (Nat×D))(H:S→Hp)(QX:X→Exit→List (Nat×D)→Hp→Prop)
  (round:∀s y,b s=some y→AW P x c (T s) (H s) fun ex tm' hp'=>match y with| .inl s'=>ex=.normal∧Wk x tm' hp' (T s') (H s')| .inr e=>ex≠.normal∧QX e ex tm' hp')
  {s:S} {e:X} (h:aL b s=some e) (hw:Wk x tm hp (T s) (H s)):AW P x (.loop c) tm hp (QX e):=by
 obtain⟨n,hn⟩:=qC.1 h
 refine AW.loop (fun n tm hp=>∃s,tm=T s∧hp=H s∧pq b n s=some e) (n:=n) hw ⟨s,rfl,rfl,hn⟩ ?_
 rintro n tm hp ⟨s,rfl,rfl,hs⟩
 cases n with
 |zero=>cases hs
 |succ n=>
  unfold pq at hs
  split at hs
  ·rename_i s' hb
   refine AW.mono (round s _ hb) ?_
   rintro ex tm' hp' ⟨rfl,Og⟩
   exact⟨n,_,_,dH _,Og,s',rfl,rfl,hs⟩
  ·rename_i e' hb
   injection hs with hs
   subst hs
   refine AW.mono (round s _ hb) ?_
   rintro ex tm' hp' ⟨h1,h2⟩
   cases ex with
   |normal=>exact absurd rfl h1
   |_=>exact h2
  ·cases hs
def wkT(σ:Nat→Nat)(m:Nat)(tm:List (Nat×D)):List (Nat×D)→Prop
 |[]=>True
 |(t,d)::l=>((∃d0,tm.lookup t=some d0∧d0.le (d.ren σ))∧d.idsB m=true∧d.noOs=true)∧wkT σ m tm l
def wkV(σ:Nat→Nat)(m:Nat)(vs:List (Nat×List D)):List (Nat×List D)→Prop
 |[]=>True
 |(k,ds)::l=>(k<m∧(∃sQ,vs.lookup (σ k)=some sQ∧ot sQ (ds.map (D.renC σ)))∧ds.all (D.idsC m)=true∧ds.all D.noO=true)∧wkV σ m vs l
def wkL(σ:Nat→Nat)(m:Nat)(lv:List (Nat×Nat×Nat×TypeId)):List (Nat×Nat×Nat×TypeId)→Prop
 |[]=>True
 |(k,y)::l=>(k<m∧lv.lookup (σ k)=some y)∧wkL σ m lv l
theorem NA {σ:Nat→Nat}{m:Nat}:∀{l:List (Nat×D)},wkT σ m tm l→∀p∈l,(∃d0,tm.lookup p.1=some d0∧d0.le (p.2.ren σ))∧p.2.idsB m=true∧p.2.noOs=true
 |_::_,h,_,.head _=>h.1
 |_::_,h,p,.tail _ hp=>NA h.2 p hp
theorem tg {σ:Nat→Nat}{m:Nat}{vs:List (Nat×List D)}:∀{l:List (Nat×List D)},wkV σ m vs l→∀p∈l,p.1<m∧(∃sQ,vs.lookup (σ p.1)=some sQ∧ot sQ (p.2.map (D.renC σ)))∧p.2.all (D.idsC m)=true∧p.2.all D.noO=true
 |_::_,h,_,.head _=>h.1
 |_::_,h,p,.tail _ hp=>tg h.2 p hp
theorem vc {σ:Nat→Nat}{m:Nat}{lv:List (Nat×Nat×Nat×TypeId)}:∀{l:List (Nat×Nat×Nat×TypeId)},wkL σ m lv l→∀p∈l,p.1<m∧lv.lookup (σ p.1)=some p.2
 |_::_,h,_,.head _=>h.1
 |_::_,h,p,.tail _ hp=>vc h.2 p hp
theorem Wk.to {vars':List (Nat×List D)}{eJ:List (Nat×Nat×Nat×TypeId)}{m:Nat}(N0:Nat)(os:List Nat)(h0:x.hp0.next=N0)(hs:(os.all fun o=>decide (N0≤o))=true)(tf:os.Nodup)(hm:m=N0+os.length)
  (ht:wkT (sg N0 os) m tm tm') (hv:wkV (sg N0 os) m hp.vars vars') (hl:wkL (sg N0 os) m hp.live eJ):Wk x tm hp tm' ⟨vars',eJ,m⟩:=by
 have hs:∀o∈os,N0≤o:=by simpa using hs
 intro a w ⟨g,hr,fh,hsz,pg,hB,hF,hM⟩
 subst h0 hm
 have cZ:∀id y,(⟨vars',eJ,x.hp0.next+os.length⟩:Hp).live.lookup id=some y→hp.live.lookup (sg x.hp0.next os id)=some y:=fun id y h=>(vc hl _ (aK h)).2
 have bh:∀i,i<x.hp0.next→sg x.hp0.next os i=i:=fun i hi=>by unfold sg;simp[hi]
 refine⟨⟨fun i=>g.μ (sg x.hp0.next os i),fun i=>g.τ (sg x.hp0.next os i),g.F⟩,⟨fun k ds hk=>?_,fun k k' ds ds' hk pf he=>?_,fun id n e hi=>?_,fun id sr t t' b hi sM hb pK=>?_,hr.base,hr.fits⟩,fun t d h=>?_,hsz,pg,hB,hF,
  ⟨hM.size,hM.cell,hM.forb,oY _ _,fun k hk=>by show g.μ _=_;rw[bh k hk];exact hM.μ k hk,fun id hid n e Mi=>?_,fun b hb hf=>⟨(hM.fr b hb hf).1,(hM.fr b hb hf).2.1,fun k ds hk=>by obtain⟨_,⟨_,h,_⟩,_⟩:=tg hv _ (aK hk);exact (hM.fr b hb hf).2.2.1 _ _ h,fun id t hi=>(hM.fr b hb hf).2.2.2 _ t (cZ id _ hi)⟩,hM.szs⟩⟩
 ·obtain⟨h1,⟨sQ,h2,lj⟩,h3,h4⟩:=tg hv _ (aK hk)
  obtain⟨_,h5,h6,cs,ty,h7,h8,h9⟩:=hr.var _ _ h2
  have HO:∀d∈ds,D.idsC (x.hp0.next+os.length) d=true:=by simpa using h3
  have h4':∀d∈ds,D.noO d=true:=by simpa using h4
  have A3:=qq lj
  refine⟨h1,h5,h6,cs,ty,h7,by rw[bc] at A3;have Ms:sQ.length=ds.length:=A3.symm;omega,fun j u hu=>⟨fun h=>(h9 j u hu).1 (by rw[bc] at A3;have Ms:sQ.length=ds.length:=A3.symm;have Qt:j<ds.length:=h;omega),fun d hd=>?_⟩⟩
  obtain⟨d0,E7,hle⟩:=su lj (j:=j) (d':=d.renC (sg x.hp0.next os)) (by rw[bE,hd];rfl)
  exact iE (((h9 j u hu).2 d0 E7).leC hle) (HO d (bL hd)) (h4' d (bL hd)) rfl (fun _=>rfl) (fun _=>rfl) rfl cZ
 ·obtain⟨h1,⟨_,h2,_⟩,_⟩:=tg hv _ (aK hk)
  obtain⟨ni,⟨_,lj,_⟩,_⟩:=tg hv _ (aK pf)
  exact RB hs tf h1 ni (hr.inj _ _ _ _ h2 lj he)
 ·obtain⟨h1,h2⟩:=vc hl _ (aK hi)
  obtain⟨_,us,h3,h4,h5⟩:=hr.tok _ n e h2
  exact⟨h1,us,h3,h4,fun b hb=>⟨(h5 b hb).1,fun k ds hk=>by
   obtain⟨_,⟨_,h6,_⟩,_⟩:=tg hv _ (aK hk)
   exact (h5 b hb).2 _ _ h6⟩⟩
 ·obtain⟨h1,h2⟩:=vc hl _ (aK hi)
  obtain⟨ni,lj⟩:=vc hl _ (aK sM)
  exact RB hs tf h1 ni (hr.tinj _ _ _ _ b h2 lj hb pK)
 ·obtain⟨⟨d0,h1,hle⟩,h2,h3⟩:=NA ht _ (aK h)
  exact BJ ((fh t _ h1).le hle) h2 h3 rfl (fun _=>rfl) (fun _=>rfl) rfl cZ
 ·obtain⟨m0,h1,h2,h3⟩:=hM.live id hid n e (by rw[←bh id hid];exact cZ id _ Mi)
  exact⟨m0,h1,h2,fun h=>by show g.τ _=_;rw[bh id hid];exact h3 h⟩
theorem ao(d:D):d.le d:=.inl (.inl rfl)
theorem gj {d d':D}(h:d=d'):d.le d':=h▸ao d
theorem pV(d:D):d.le d.ex:=.inr (.inl rfl)
theorem Hm {z:Nat}(hz:0<z):D.le dN (.e (.sl z 0 [])):=.inl (.inr (.inr ⟨rfl,z,hz,rfl⟩))
theorem i7 {ds ds':List D}(h:ot ds ds'):D.le (.ag ds) (.ag ds'):=.inr (.inr ⟨ds,ds',rfl,rfl,h⟩)
theorem bI {t:Tmp}{d:D}{k:D→Prop}(h:tm.lookup t=some d)(hk:k d):oK tb tm hp (.tmp t) k:=⟨d,h,hk⟩
theorem LG {p:Tmp}{ty:TypeId}{j off:Nat}{i:TyE}{ds:List D}{d:D}{k:D→Prop}(h:tm.lookup p=some (.pt j off))(ht:tb ty=some i)(hg:i.ty.agg=false)(hv:hp.vars.lookup j=some ds)(hn:j<hp.next)(hd:ds[off]? =some d)(hk:k d):oK tb tm hp (.cell p ty) k:=by
 refine⟨_,h,⟨i,ht⟩,?_⟩
 rw[nP,ht,hv]
 simp only[hg]
 exact⟨hn,d,hd,hk⟩
theorem dQ {p:Tmp}{ty:TypeId}{j off:Nat}{i:TyE}{ds es:List D}{k:D→Prop}(h:tm.lookup p=some (.pt j off))(ht:tb ty=some i)(hg:i.ty.agg=true)(hv:hp.vars.lookup j=some ds)(hn:j<hp.next)(hl:off+i.size≤ds.length)(hd:(ds.drop off).take i.size=es)(hk:k (.ag es)):oK tb tm hp (.cell p ty) k:=by
 refine⟨_,h,⟨i,ht⟩,?_⟩
 rw[nP,ht,hv]
 simp only[hg]
 exact⟨hn,hl,by rw[hd];exact hk⟩
theorem eu.own {t:Tmp}{id e z n:Nat}{xs:List E}(h:tm.lookup t=some (.own id z n xs))(hl:hp.live.lookup id=some (n,z,e)):eu tb [.tmp t] tm hp (.own e z n xs):=⟨_,h,.inr (.inl ⟨id,e,z,n,xs,rfl,hl,rfl⟩)⟩
end
theorem dG_noC {α:Type}(c:Cd α)(a:α)(σ:Nat→Nat):((c.f a).map D.e).map (D.renC σ)=(c.f a).map D.e:=by
 rw[kP];exact sV fun _ _=>rfl
theorem qP {α:Type}(c:Cd α)(a:α)(σ:Nat→Nat):(dG c a).ren σ=dG c a:=by
 show D.ag (((c.f a).map D.e).map (D.renC σ))=_
 rw[dG_noC]
theorem le_G {α:Type}{c:Cd α}{a:α}{σ:Nat→Nat}{d:D}(h:d.le (dG c a)):d.le ((dG c a).ren σ):=by rw[qP];exact h
theorem ids_G {α:Type}(c:Cd α)(a:α)(m:Nat):(dG c a).idsB m=true:=by
 show ((c.f a).map D.e).all (D.idsC m)=true
 rw[DN];exact bx.2 fun _ _=>rfl
theorem noO_G {α:Type}(c:Cd α)(a:α):(dG c a).noOs=true:=by
 show ((c.f a).map D.e).all D.noO=true
 rw[DN];exact bx.2 fun _ _=>rfl
theorem mr {α:Type}(c:Cd α)(a:α):(dG c a).pure=true:=by
 show ((c.f a).map D.e).all D.pureC=true
 rw[DN];exact bx.2 fun _ _=>rfl
theorem nH {α:Type}(c:Cd α)(a:α){z:Nat}(h:c.sz=z):((c.f a).drop 0).take z=c.f a:=by
 rw[pH,e9 (by rw[c.h,h];exact aC _)]
theorem AW.condT {P:Program}{x:Cx}{Q:Exit→List (Nat×D)→Hp→Prop}{tm:List (Nat×D)}{hp:Hp}{c:Operand}{c1 c2:Code}{b:Bool}(hc:evD tm c=.e (.lit (.bool b)))(hb:b=true)(h:AW P x c1 tm hp Q):AW P x (.cond c c1 c2) tm hp Q:=
 AW.condS hc (fun _=>h) fun hf=>by rw[hb] at hf;cases hf
theorem AW.condF {P:Program}{x:Cx}{Q:Exit→List (Nat×D)→Hp→Prop}{tm:List (Nat×D)}{hp:Hp}{c:Operand}{c1 c2:Code}{b:Bool}(hc:evD tm c=.e (.lit (.bool b)))(hb:b=false)(h:AW P x c2 tm hp Q):AW P x (.cond c c1 c2) tm hp Q:=
 AW.condS hc (fun hf=>by rw[hb] at hf;cases hf) fun _=>h
theorem wk {x:Cx}{tm tm':List (Nat×D)}{hp:Hp}{vars':List (Nat×List D)}{eJ:List (Nat×Nat×Nat×TypeId)}{m:Nat}(h0:x.hp0=⟨[],[],0⟩)(os:List Nat)(ht:wkT (sg 0 os) m tm tm')(hv:wkV (sg 0 os) m hp.vars vars')(hl:wkL (sg 0 os) m hp.live eJ)(tf:os.Nodup:=by decide)(hm:m=0+os.length:=by exact rfl):Wk x tm hp tm' ⟨vars',eJ,m⟩:=
 Wk.to 0 os (by rw[h0]) (by simp) tf hm ht hv hl
theorem wkN {x:Cx}{tm tm':List (Nat×D)}{hp:Hp}{vars':List (Nat×List D)}{eJ:List (Nat×Nat×Nat×TypeId)}{m N0:Nat}(h0:x.hp0.next=N0)(os:List Nat)(ht:wkT (sg N0 os) m tm tm')(hv:wkV (sg N0 os) m hp.vars vars')(hl:wkL (sg N0 os) m hp.live eJ)(hs:(os.all fun o=>decide (N0≤o))=true:=by decide)(tf:os.Nodup:=by decide)(hm:m=N0+os.length:=by exact rfl):Wk x tm hp tm' ⟨vars',eJ,m⟩:=
 Wk.to N0 os h0 hs tf hm ht hv hl
theorem Wk.nilOwn {x:Cx}{tm:List (Nat×D)}{vs:List (Nat×List D)}{lv:List (Nat×Nat×Nat×TypeId)}{N0:Nat}(k j:Nat)(e:TypeId)(z:Nat){ds ds':List D}(hz:Nat.ble 1 z=true:=by exact rfl)(hk:vs.lookup k=some ds:=by exact rfl)(hj:ds[j]? =some dN:=by exact rfl)(hd:ds.set j (.own N0 z 0 [])=ds':=by exact rfl):Wk x tm ⟨vs,lv,N0⟩ tm ⟨(k,ds')::vs,(N0,0,z,e)::lv,N0+1⟩:=by
 subst hd
 exact Wk.nilOwn0 (hp:=⟨vs,lv,N0⟩) k j e z (leb hz) hk hj
theorem Wk.trans {x:Cx}{tm tm' tm'':List (Nat×D)}{hp hp' SQ:Hp}(h:Wk x tm hp tm' hp')(h':Wk x tm' hp' tm'' SQ):Wk x tm hp tm'' SQ:=fun a w hr=>h' a w (h a w hr)
theorem gW {α:Type}(c:Cd α)(a:α):(D.ex (dG c a)).pure=true:=by
 have:D.ex (dG c a)=dG c a:=by
  show D.ag (((c.f a).map D.e).map D.exC)=_
  rw[kP];rfl
 rw[this];exact mr c a
section
variable {σ:Nat→Nat} {m k t:Nat} {tm l:List (Nat×D)} {d d0 d':D} {ds sQ ds':List D} {vs lv:List (Nat×List D)} {ll l2:List (Nat×Nat×Nat×TypeId)} {y:Nat×Nat×TypeId}
theorem wT(h1:tm.lookup t=some d0)(h2:d0.le (d.ren σ))(h3:d.idsB m=true)(h4:d.noOs=true)(hl:wkT σ m tm l):wkT σ m tm ((t,d)::l):=⟨⟨⟨_,h1,h2⟩,h3,h4⟩,hl⟩
theorem wR(h1:tm.lookup t=some (d.ren σ))(hl:wkT σ m tm l)(h3:d.idsB m=true:=by exact rfl)(h4:d.noOs=true:=by exact rfl):wkT σ m tm ((t,d)::l):=⟨⟨⟨_,h1,ao _⟩,h3,h4⟩,hl⟩
theorem vR(h1:vs.lookup (σ k)=some (ds.map (D.renC σ)))(hl:wkV σ m vs lv)(h0:Nat.ble (k+1) m=true:=by exact rfl)(h3:ds.all (D.idsC m)=true:=by exact rfl)(h4:ds.all D.noO=true:=by exact rfl):wkV σ m vs ((k,ds)::lv):=⟨⟨ltb h0,⟨_,h1,m9 _⟩,h3,h4⟩,hl⟩
theorem wG {α:Type}{c:Cd α}{a:α}(h1:tm.lookup t=some d0)(h2:d0.le (dG c a))(hl:wkT σ m tm l):wkT σ m tm ((t,dG c a)::l):=⟨⟨⟨_,h1,le_G h2⟩,ids_G _ _ _,noO_G _ _⟩,hl⟩
theorem wL(h0:Nat.ble (k+1) m=true)(h1:ll.lookup (σ k)=some y)(hl:wkL σ m ll l2):wkL σ m ll ((k,y)::l2):=⟨⟨ltb h0,h1⟩,hl⟩
theorem wc(h:d.leC d')(hl:ot ds ds'):ot (d::ds) (d'::ds'):=⟨h,hl⟩
theorem ge(d:D):d.leC d:=.inl rfl
theorem Ho(d:D):d.leC d.exC:=.inr (.inl rfl)
theorem vT {z:Nat}(h:Nat.ble 1 z=true):D.leC dN (.e (.sl z 0 [])):=.inr (.inr ⟨rfl,z,leb h,rfl⟩)
theorem wTn:wkT σ m tm []:=trivial
theorem wVn:wkV σ m vs []:=trivial
theorem wLn:wkL σ m ll []:=trivial
theorem wcn:ot [] []:=trivial
theorem lAn:leL [] []:=trivial
theorem lA(h:d.le d')(hl:leL ds ds'):leL (d::ds) (d'::ds'):=⟨h,hl⟩
end
theorem rH0 {x:Cx}{tb:TypeId→Option TyE}{tm:List (Nat×D)}{hp hp':Hp}(hw:Wk x tm hp [] hp'):∃tm',Wk x tm hp tm' hp'∧xp tb [] tm' hp' (.tu []):=⟨_,hw,rfl⟩
theorem rH1 {x:Cx}{tb:TypeId→Option TyE}{tm:List (Nat×D)}{hp hp':Hp}{t:Tmp}{d:D}(hw:Wk x tm hp [(t,d)] hp'):∃tm',Wk x tm hp tm' hp'∧xp tb [.tmp t] tm' hp' d:=⟨_,hw,_,ah,rfl⟩
theorem eu.mk1 {tb:TypeId→Option TyE}{tm:List (Nat×D)}{hp:Hp}{q:ResultVar}{r:D}(h:oK tb tm hp q fun d=>(d.ex.pure=true∧r=d.ex)∨(∃id e z n xs,d=.own id z n xs∧hp.live.lookup id=some (n,z,e)∧r=.own e z n xs)∨∃d2,d.le d2∧d2.pure=true∧r=d2):eu tb [q] tm hp r:=h
theorem eu.mk2 {tb:TypeId→Option TyE}{tm:List (Nat×D)}{hp:Hp}{q q':ResultVar}{r:D}(h:oK tb tm hp q fun d=>oK tb tm hp q' fun d'=>((d.ex.pure=true∧d'.ex.pure=true)∧r=.tu [d.ex,d'.ex])∨∃e e',d.le e∧d'.le e'∧(e.pure=true∧e'.pure=true)∧r=.tu [e,e']):eu tb [q,q'] tm hp r:=h
theorem eu.mk3 {tb:TypeId→Option TyE}{tm:List (Nat×D)}{hp:Hp}{q q' G2:ResultVar}{r:D}(h:oK tb tm hp q fun d=>oK tb tm hp q' fun d'=>oK tb tm hp G2 fun Q5=>((d.ex.pure=true∧d'.ex.pure=true∧Q5.ex.pure=true)∧r=.tu [d.ex,d'.ex,Q5.ex])∨∃e e' e'',d.le e∧d'.le e'∧Q5.le e''∧(e.pure=true∧e'.pure=true∧e''.pure=true)∧r=.tu [e,e',e'']):eu tb [q,q',G2] tm hp r:=h
end
section
def rn(os:List Nat)(m N:Nat)(i:Nat):Nat:=bif decide (i<m) then os.getD i 0 else N+(i - m)
def frV(ρ:Nat→Nat)(os:List Nat)(pe vs:List (Nat×List D)):List (Nat×List D):=pe.map (fun p=>(ρ p.1,p.2.map (D.renC ρ)))++vs.filter fun p=>!os.contains p.1
def frL(ρ:Nat→Nat)(os:List Nat)(QT lv:List (Nat×Nat×Nat×TypeId)):List (Nat×Nat×Nat×TypeId):=QT.map (fun p=>(ρ p.1,p.2))++lv.filter fun p=>!os.contains p.1
theorem nO {α β:Type}(ρ:Nat→Nat)(F:α→β):∀{l:List (Nat×α)} {k:Nat} {y:β},(l.map fun p=>(ρ p.1,F p.2)).lookup k=some y→∃i a,ρ i=k∧l.lookup i=some a∧F a=y
 |[],_,_,h=>by simp at h
 |(j,a)::l,k,y,h=>by
  by_cases hk:k=ρ j
  ·subst hk
   have:some (F a)=some y:=by rw[←h];exact ah.symm
   exact⟨j,a,rfl,ah,bZ this⟩
  ·obtain⟨i,b,h1,h2,h3⟩:=nO ρ F (l:=l) (k:=k) (y:=y) (by rw[←h];exact (al hk).symm)
   exact⟨i,b,h1,(al fun e=>hk (by rw[←h1,e])).trans h2,h3⟩
theorem tF {α:Type}{l2:List (Nat×α)}{k:Nat}{y:α}:∀{l:List (Nat×α)},(l++l2).lookup k=some y→l.lookup k=some y∨l2.lookup k=some y
 |[],h=>.inr h
 |(j,a)::l,h=>by
  by_cases hk:k=j
  ·subst hk
   have:some a=some y:=by rw[←h];exact ah.symm
   exact .inl (by rw[←this];exact ah)
  ·rcases tF (l:=l) (by rw[←h];exact (al hk).symm) with h1|h1
   ·exact .inl ((al hk).trans h1)
   ·exact .inr h1
theorem lH {α:Type}{os:List Nat}{k:Nat}{y:α}:∀{l:List (Nat×α)},(l.filter fun p=>!os.contains p.1).lookup k=some y→k∉os∧l.lookup k=some y
 |[],h=>by simp at h
 |(j,a)::l,h=>by
  by_cases hj:j∈os
  ·rw[MR (by simpa using hj)] at h
   obtain⟨h1,h2⟩:=lH h
   exact⟨h1,(al fun e=>h1 (by rw[e];exact hj)).trans h2⟩
  ·rw[MQ (by simpa using hj)] at h
   by_cases hk:k=j
   ·subst hk
    exact⟨hj,by rw[←h,ah,ah]⟩
   ·obtain⟨h1,h2⟩:=lH (l:=l) (by rw[←h];exact (al hk).symm)
    exact⟨h1,(al hk).trans h2⟩
def D.okC:D→Bool
 | .ag ds=>ds.all D.pureC
 | .tu _=>false
 | .opt _ _=>false
 |_=>true
def D.okF:D→Bool
 | .ag ds=>ds.all D.okC
 | .tu ds=>ds.all D.okC
 |d=>d.okC
section
variable {hp bk:Hp} {g g2:Gh} {w:World} {ρ:Nat→Nat}
theorem De {d:D}{v:Value}(h:aF hp g w d v)(hn:d.okC=true)(ru:∀i,i<hp.next→ρ i<bk.next)(hμ:∀i,i<hp.next→g2.μ (ρ i)=g.μ i)(hτ:∀i,i<hp.next→g2.τ (ρ i)=g.τ i)(hF:g2.F=g.F)
  (hl:∀id,id<hp.next→∀y,bk.live.lookup (ρ id)=some y→hp.live.lookup id=some y):aF bk g2 w (d.renC ρ) v:=by
 cases h with
 |e y v h=>exact .e y v (by rw[hF];exact h)
 |own id z n xs v h hid ht=>exact .own _ z n xs v (by rw[hF];exact h) (ru id hid) (fun m e hm=>by rw[hτ id hid];exact ht m e (hl id hid _ hm))
 |fu z n xs A h=>exact .fu z n xs A (by rw[hF];exact h)
 |ag ds cs hlen h1 hr=>
  refine .ag ds cs hlen h1 fun j d u h2 h3=>?_
  have h4:=hr j d u h2 h3
  have h5:=bx.1 hn d (bL h2)
  cases d with
  |e y=>cases h4 with
   |e _ _ h6=>exact .e y _ (by rw[hF];exact h6)
  |_=>cases h5
 |tu ds cs hl hr=>cases hn
 |fp xs off ad hb hc=>exact .fp xs off ad hb (by rw[hF];exact hc)
 |pt k off hk=>rw[←hμ k hk];exact .pt _ off (ru k hk)
 |ow k off z n c hk h1 h2=>rw[←hμ k hk];exact .ow _ off z n c (ru k hk) h1 h2
 |gw k z n c hk h1 h2 hs=>rw[←hμ k hk] at hs ⊢;exact .gw _ z n c (ru k hk) h1 h2 hs
 |fn f ks hk=>
  have:(ks.map fun k=>Value.pointer (some ⟨g.μ k,0,none⟩))=(ks.map ρ).map fun k=>Value.pointer (some ⟨g2.μ k,0,none⟩):=by
   rw[kP]
   exact sV fun k h=>by simp only[Function.comp,hμ k (hk k h)]
  rw[this]
  refine .fn f (ks.map ρ) fun k h=>?_
  obtain⟨i,h1,rfl⟩:=nz.1 h
  exact ru i (hk i h1)
 |opt b d v hi h=>cases hn
 |top v=>exact .top v
theorem fwdF {d:D}{v:Value}(h:aF hp g w d v)(hn:d.okF=true)(ru:∀i,i<hp.next→ρ i<bk.next)(hμ:∀i,i<hp.next→g2.μ (ρ i)=g.μ i)(hτ:∀i,i<hp.next→g2.τ (ρ i)=g.τ i)(hF:g2.F=g.F)
  (hl:∀id,id<hp.next→∀y,bk.live.lookup (ρ id)=some y→hp.live.lookup id=some y):aF bk g2 w (d.ren ρ) v:=by
 cases d with
 |ag ds=>cases h with
  |ag _ cs hlen h1 hr=>
   refine .ag _ cs (by simpa using hlen) h1 fun j d u h2 h3=>?_
   rw[bE] at h2
   obtain⟨d0,h4,rfl⟩:=rG.1 h2
   exact De (hr j d0 u h4 h3) (bx.1 hn d0 (bL h4)) ru hμ hτ hF hl
 |tu ds=>cases h with
  |tu _ cs hlen hr=>
   refine .tu _ cs (by simpa using hlen) fun j d u h2 h3=>?_
   rw[bE] at h2
   obtain⟨d0,h4,rfl⟩:=rG.1 h2
   exact De (hr j d0 u h4 h3) (bx.1 hn d0 (bL h4)) ru hμ hτ hF hl
 |e y=>exact De h hn ru hμ hτ hF hl
 |own id z n xs=>exact De h hn ru hμ hτ hF hl
 |fu z n xs=>exact De h hn ru hμ hτ hF hl
 |fp xs off=>exact De h hn ru hμ hτ hF hl
 |pt k off=>exact De h hn ru hμ hτ hF hl
 |ow k off z n=>exact De h hn ru hμ hτ hF hl
 |gw k z n=>exact De h hn ru hμ hτ hF hl
 |fn f ks=>exact De h hn ru hμ hτ hF hl
 |opt b d=>cases hn
 |top=>exact .top v
end
theorem HR.ren {B:Nat}{hp hpS:Hp}{g:Gh}{w:World}(hr:HR B hp g w)(σ:Nat→Nat)(hinj:∀i j,i<hpS.next→j<hpS.next→σ i=σ j→i=j)
  (hv:∀k ds,hpS.vars.lookup k=some ds→k<hpS.next∧(∃sQ,hp.vars.lookup (σ k)=some sQ∧ot sQ (ds.map (D.renC σ)))∧ds.all (D.idsC hpS.next)=true∧ds.all D.noO=true)
  (hl:∀id y,hpS.live.lookup id=some y→id<hpS.next∧hp.live.lookup (σ id)=some y):HR B hpS ⟨fun i=>g.μ (σ i),fun i=>g.τ (σ i),g.F⟩ w:=by
 have cZ:∀id y,hpS.live.lookup id=some y→hp.live.lookup (σ id)=some y:=fun id y h=>(hl _ _ h).2
 refine⟨fun k ds hk=>?_,fun k k' ds ds' hk pf he=>?_,fun id n e hi=>?_,fun id sr t t' b hi sM hb pK=>?_,hr.base,hr.fits⟩
 ·obtain⟨h1,⟨sQ,h2,lj⟩,h3,h4⟩:=hv _ _ hk
  obtain⟨_,h5,h6,cs,ty,h7,h8,h9⟩:=hr.var _ _ h2
  have HO:∀d∈ds,D.idsC hpS.next d=true:=by simpa using h3
  have h4':∀d∈ds,D.noO d=true:=by simpa using h4
  have A3:=qq lj
  refine⟨h1,h5,h6,cs,ty,h7,by rw[bc] at A3;omega,fun j u hu=>⟨fun h=>(h9 j u hu).1 (by rw[bc] at A3;omega),fun d hd=>?_⟩⟩
  obtain⟨d0,E7,hle⟩:=su lj (j:=j) (d':=d.renC σ) (by rw[bE,hd];rfl)
  exact iE (((h9 j u hu).2 d0 E7).leC hle) (HO d (bL hd)) (h4' d (bL hd)) rfl (fun _=>rfl) (fun _=>rfl) rfl cZ
 ·obtain⟨h1,⟨_,h2,_⟩,_⟩:=hv _ _ hk
  obtain⟨ni,⟨_,lj,_⟩,_⟩:=hv _ _ pf
  exact hinj _ _ h1 ni (hr.inj _ _ _ _ h2 lj he)
 ·obtain⟨h1,h2⟩:=hl _ _ hi
  obtain⟨_,us,h3,h4,h5⟩:=hr.tok _ n e h2
  exact⟨h1,us,h3,h4,fun b hb=>⟨(h5 b hb).1,fun k ds hk=>by
   obtain⟨_,⟨_,h6,_⟩,_⟩:=hv _ _ hk
   exact (h5 b hb).2 _ _ h6⟩⟩
 ·obtain⟨h1,h2⟩:=hl _ _ hi
  obtain⟨ni,lj⟩:=hl _ _ sM
  exact hinj _ _ h1 ni (hr.tinj _ _ _ _ b h2 lj hb pK)
def frA(σ:Nat→Nat)(m:Nat):List D→List D→Prop
 |[],[]=>True
 |d::ds,e::es=>(d.le (e.ren σ)∧e.idsB m=true∧e.noOs=true)∧frA σ m ds es
 |_,_=>False
theorem OC {σ:Nat→Nat}{m:Nat}:∀{ds es:List D},frA σ m ds es→ds.length=es.length
 |[],[],_=>rfl
 |_::_,_::_,h=>by simp[OC h.2]
 |[],_::_,h=>h.elim
 |_::_,[],h=>h.elim
theorem OD {σ:Nat→Nat}{m:Nat}:∀{ds es:List D} {j:Nat} {e:D},frA σ m ds es→es[j]? =some e→∃d,ds[j]? =some d∧d.le (e.ren σ)∧e.idsB m=true∧e.noOs=true
 |[],[],j,e,_,h=>by simp at h
 |d::ds,e'::es,0,e,h,he=>by
  simp only[Un,nq] at he
  subst he
  exact⟨d,rfl,h.1⟩
 |d::ds,e'::es,j+1,e,h,he=>by
  simp only[Iy] at he ⊢
  exact OD h.2 he
 |[],_::_,_,_,h,_=>h.elim
 |_::_,[],_,_,h,_=>h.elim
theorem HC.frame {P:Program}{f:FuncId}{OG ds:List D}{r:D}{IR oy vs:List (Nat×List D)}{IT uf lv:List (Nat×Nat×Nat×TypeId)}{m n' N:Nat}(h:HC P f OG ⟨IR,IT,m⟩ r ⟨oy,uf,n'⟩)
  (os:List Nat) (hos:os.length=m) (tf:os.Nodup) (bh:∀o∈os,o<N) (ha:frA (fun i=>os.getD i 0) m ds OG)
  (hv:∀k ds,IR.lookup k=some ds→k<m∧(∃sQ,vs.lookup (os.getD k 0)=some sQ∧ot sQ (ds.map (D.renC fun i=>os.getD i 0)))∧ds.all (D.idsC m)=true∧ds.all D.noO=true)
  (hl:∀id y,IT.lookup id=some y→id<m∧lv.lookup (os.getD id 0)=some y)
  (hr:r.okF=true) (hvo:∀p∈oy,p.2.all D.okC=true):
  HC P f ds ⟨vs,lv,N⟩ (r.ren (rn os m N)) ⟨frV (rn os m N) os oy vs,frL (rn os m N) os uf lv,N+(n' - m)⟩:=by
 subst hos
 refine⟨h.1,fun B g w us hR hsz cJ=>?_⟩
 have E4:∀i,i<os.length→os.getD i 0∈os:=fun i hi=>by
  rw[KV,eG hi];exact uc hi
 have hinj:∀i j,i<os.length→j<os.length→os.getD i 0=os.getD j 0→i=j:=fun i j hi hj he=>by
  rw[KV,KV,eG hi,eG hj] at he
  have hp:=DQ.1 tf
  simp only[wv] at he
  rcases xm i j with h3|h3|h3
  ·exact absurd he (hp _ _ hi hj h3)
  ·exact h3
  ·exact absurd he.symm (hp _ _ hj hi h3)
 have hS:=HR.ren (hpS:=⟨IR,IT,os.length⟩) hR (fun i=>os.getD i 0) (fun i j hi hj he=>hinj i j hi hj he) hv hl
 have cZ:∀id y,(⟨IR,IT,os.length⟩:Hp).live.lookup id=some y→(⟨vs,lv,N⟩:Hp).live.lookup (os.getD id 0)=some y:=fun id y h=>(hl _ _ h).2
 refine (h.2 B _ w us hS (by rw[hsz,OC ha]) (fun j e u he hu=>?_)).mono ?_
 ·obtain⟨d,h1,h2,h3,h4⟩:=OD ha he
  exact BJ ((cJ j d u h1 hu).le h2) h3 h4 rfl (fun _=>rfl) (fun _=>rfl) rfl cZ
 rintro en w' ⟨v,g',rfl,Kh,hM,l4,hB,hF⟩
 -- the caller's ghosts
 let ρ:=rn os os.length N
 have EW:∀i,i<os.length→ρ i=os.getD i 0:=fun i hi=>by show rn os os.length N i=_;unfold rn;simp[hi]
 have HA:∀i,os.length≤i→ρ i=N+(i - os.length):=fun i hi=>by show rn os os.length N i=_;unfold rn;rw[def_];rfl
 have hoN:∀i,i<os.length→os.getD i 0<N:=fun i hi=>bh _ (E4 i hi)
 have hmn:os.length≤n':=hM.next
 have hρn:∀i,i<n'→ρ i<N+(n' - os.length):=fun i hi=>by
  by_cases h1:i<os.length
  ·rw[EW i h1];have:=hoN i h1;omega
  ·rw[HA i (by omega)];omega
 have hρinj:∀i j,i<n'→j<n'→ρ i=ρ j→i=j:=fun i j hi hj he=>by
  by_cases h1:i<os.length <;> by_cases h2:j<os.length
  ·rw[EW i h1,EW j h2] at he;exact hinj i j h1 h2 he
  ·rw[EW i h1,HA j (by omega)] at he;have:=hoN i h1;omega
  ·rw[EW j h2,HA i (by omega)] at he;have:=hoN j h2;omega
  ·rw[HA i (by omega),HA j (by omega)] at he;omega
 let g2:Gh:=⟨fun j=>if j<N then g.μ j else g'.μ (os.length+(j - N)),fun j=>if j<N then (if j∈os then g'.τ (os.idxOf j) else g.τ j) else g'.τ (os.length+(j - N)),g'.F⟩
 let bk:Hp:=⟨frV ρ os oy vs,frL ρ os uf lv,N+(n' - os.length)⟩
 have hμ2:∀j,j<N→g2.μ j=g.μ j:=fun j hj=>an hj
 have hτ2:∀j,j<N→j∉os→g2.τ j=g.τ j:=fun j hj ho=>by
  show (if j<N then _ else _)=_
  rw[an hj,az ho]
 have hμρ:∀i,i<n'→g2.μ (ρ i)=g'.μ i:=fun i hi=>by
  by_cases h1:i<os.length
  ·rw[EW i h1,hμ2 _ (hoN i h1)];exact (hM.μ i h1).symm
  ·rw[HA i (by omega)]
   show (if _ then _ else _)=_
   rw[ifn_,show os.length+(N+(i - os.length) - N)=i by omega]
 have hτρ:∀i,i<n'→g2.τ (ρ i)=g'.τ i:=fun i hi=>by
  by_cases h1:i<os.length
  ·rw[EW i h1]
   show (if _ then (if _ then _ else _) else _)=_
   rw[an (hoN i h1),an (E4 i h1)]
   have:os.idxOf (os.getD i 0)=i:=by
    have h2:os.idxOf (os.getD i 0)<os.length:=List.idxOf_lt_length_of_mem (E4 i h1)
    refine hinj _ _ h2 h1 ?_
    rw[KV (i:=os.idxOf _),eG h2]
    exact List.getElem_idxOf h2
   rw[this]
  ·rw[HA i (by omega)]
   show (if _ then _ else _)=_
   rw[ifn_,show os.length+(N+(i - os.length) - N)=i by omega]
 have FD:∀k ds,bk.vars.lookup k=some ds→(∃i sQ,ρ i=k∧i<n'∧oy.lookup i=some sQ∧sQ.map (D.renC ρ)=ds)∨(k∉os∧k<N∧vs.lookup k=some ds):=fun k ds hk=>by
  rcases tF hk with h1|h1
  ·obtain⟨i,a,h2,h3,h4⟩:=nO ρ (fun a:List D=>a.map (D.renC ρ)) h1
   exact .inl ⟨i,a,h2,(Kh.var i a h3).1,h3,h4⟩
  ·obtain⟨h2,h3⟩:=lH h1
   exact .inr ⟨h2,(hR.var k ds h3).1,h3⟩
 have FE:∀k y,bk.live.lookup k=some y→(∃i,ρ i=k∧i<n'∧uf.lookup i=some y)∨(k∉os∧k<N∧lv.lookup k=some y):=fun k y hk=>by
  rcases tF hk with h1|h1
  ·obtain⟨i,a,h2,h3,h4⟩:=nO ρ (fun a:Nat×Nat×TypeId=>a) h1
   subst h4
   exact .inl ⟨i,h2,(Kh.tok i a.1 a.2 h3).1,h3⟩
  ·obtain⟨h2,h3⟩:=lH h1
   exact .inr ⟨h2,(hR.tok k y.1 y.2 h3).1,h3⟩
 have hlρ:∀id,id<n'→∀y,bk.live.lookup (ρ id)=some y→uf.lookup id=some y:=fun id hid y hy=>by
  rcases FE _ _ hy with⟨i,h1,h2,h3⟩|⟨h1,h2,_⟩
  ·rw[←hρinj i id h2 hid h1];exact h3
  ·exfalso
   by_cases h4:id<os.length
   ·rw[EW id h4] at h1;exact h1 (E4 id h4)
   ·rw[HA id (by omega)] at h2;omega
 -- blocks of what was not in hand are free for the callee
 have OA:∀k ds,k∉os→vs.lookup k=some ds→g.μ k<w.heap.size∧Ns ⟨IR,IT,os.length⟩ ⟨fun i=>g.μ (os.getD i 0),fun i=>g.τ (os.getD i 0),g.F⟩ (g.μ k):=fun k ds ho hk=>by
  refine⟨hR.var_lt (k:=k) (ds:=ds) hk,fun i di hi=>?_,fun i t hi=>?_⟩
  ·obtain⟨h1,⟨_,h2,_⟩,_⟩:=hv i di hi
   exact fun e=>ho (by rw[←hR.inj _ _ _ _ h2 hk e];exact E4 i h1)
  ·obtain⟨h1,h2⟩:=hl i t hi
   obtain⟨_,_,_,_,h3⟩:=hR.tok _ t.1 t.2 h2
   exact fun e=>(h3 _ e).2 k ds hk rfl
 have OB:∀k t b,k∉os→lv.lookup k=some t→(g.τ k).ownBlock=some b→b<w.heap.size∧Ns ⟨IR,IT,os.length⟩ ⟨fun i=>g.μ (os.getD i 0),fun i=>g.τ (os.getD i 0),g.F⟩ b:=fun k t b ho hk hb=>by
  obtain⟨_,_,_,h1,h2⟩:=hR.tok k t.1 t.2 hk
  refine⟨(h1.lt b hb).2,fun i di hi=>?_,fun i t' hi=>?_⟩
  ·obtain⟨h1,⟨_,h3,_⟩,_⟩:=hv i di hi
   exact (h2 b hb).2 _ _ h3
  ·obtain⟨h1,h3⟩:=hl i t' hi
   exact fun e=>ho (by rw[←hR.tinj _ _ _ _ b h3 hk e hb];exact E4 i h1)
 have mo:bu ⟨vs,lv,N⟩ g w bk g2 w':=by
  refine⟨hM.size,hM.cell,hM.forb,oY _ _,fun k hk=>hμ2 k hk,fun id hid n e hy=>?_,fun b hb hf=>?_,hM.szs⟩
  ·rcases FE _ _ hy with⟨i,h1,h2,h3⟩|⟨h1,h2,h3⟩
   ·by_cases h4:i<os.length
    ·obtain⟨m0,h5,h6,h7⟩:=hM.live i h4 n e h3
     refine⟨m0,?_,h6,fun h=>?_⟩
     ·rw[←h1,EW i h4];exact cZ i _ h5
     ·rw[←h1,hτρ i h2,h7 h,EW i h4]
    ·rw[←h1,HA i (by omega)] at hid
     have hid:N+(i - os.length)<N:=hid
     omega
   ·exact⟨n,h3,aC _,fun _=>hτ2 id h2 h1⟩
  ·obtain⟨h1,h2,h3⟩:=hM.fr b hb ⟨fun k ds hk=>by
    obtain⟨_,⟨_,h5,_⟩,_⟩:=hv k ds hk
    exact hf.1 _ _ h5,fun id t hi=>hf.2 _ _ (cZ id t hi)⟩
   refine⟨h1,h2,fun k ds hk=>?_,fun id t hi=>?_⟩
   ·rcases FD _ _ hk with⟨i,_,rfl,h5,h6,_⟩|⟨_,h5,h6⟩
    ·rw[hμρ i h5];exact h3.1 _ _ h6
    ·rw[hμ2 k h5];exact hf.1 _ _ h6
   ·rcases FE _ _ hi with⟨i,rfl,h5,h6⟩|⟨h4,h5,h6⟩
    ·rw[hτρ i h5];exact h3.2 _ _ h6
    ·rw[hτ2 id h5 h4];exact hf.2 _ _ h6
 have fw:∀{d:D} {u:Value},d.okC=true→aF ⟨oy,uf,n'⟩ g' w' d u→aF bk g2 w' (d.renC ρ) u:=fun hd h=>De h hd hρn hμρ hτρ rfl hlρ
 refine⟨v,g2,rfl,⟨fun k ds hk=>?_,fun k k' ds ds' hk pf he=>?_,fun id n e hi=>?_,fun id sr t t' b hi sM hb pK=>?_,Kh.base,Kh.fits⟩,mo,fwdF l4 hr hρn hμρ hτρ rfl hlρ,hB,hF⟩
 ·rcases FD _ _ hk with⟨i,sQ,rfl,h1,h2,rfl⟩|⟨h1,h2,h3⟩
  ·obtain⟨_,h4,h5,cs,ty,h6,h7,h8⟩:=Kh.var i sQ h2
   rw[hμρ i h1]
   refine⟨hρn i h1,h4,h5,cs,ty,h6,by simpa using h7,fun j u hu=>⟨fun h=>(h8 j u hu).1 (by simpa using h),fun d hd=>?_⟩⟩
   rw[bE] at hd
   obtain⟨d0,E7,rfl⟩:=rG.1 hd
   exact fw (bx.1 (hvo _ (aK h2)) d0 (bL E7)) ((h8 j u hu).2 d0 E7)
  ·obtain⟨h4,h5⟩:=OA k ds h1 h3
   obtain⟨h6,h7,_⟩:=hM.fr _ h4 h5
   obtain⟨_,h8,h9,cs,ty,A3,Ms,Qt⟩:=hR.var k ds h3
   rw[hμ2 k h2]
   exact⟨bC h2 (oY _ _),h8,fun p hp=>h7 p hp (h9 p hp),cs,ty,h6.trans A3,Ms,fun j u hu=>⟨(Qt j u hu).1,fun d hd=>((Qt j u hu).2 d hd).mono mo⟩⟩
 ·rcases FD _ _ hk with⟨i,sQ,rfl,h1,h2,_⟩|⟨h1,h2,h3⟩ <;> rcases FD _ _ pf with⟨i',ds0',rfl,ni,lj,_⟩|⟨ni,lj,HO⟩
  ·rw[hμρ i h1,hμρ i' ni] at he
   rw[Kh.inj _ _ _ _ h2 lj he]
  ·rw[hμρ i h1,hμ2 _ lj] at he
   obtain⟨h4,h5⟩:=OA _ _ ni HO
   exact absurd he ((hM.fr _ h4 h5).2.2.1 _ _ h2)
  ·rw[hμρ i' ni,hμ2 _ h2] at he
   obtain⟨h4,h5⟩:=OA _ _ h1 h3
   exact absurd he.symm ((hM.fr _ h4 h5).2.2.1 _ _ lj)
  ·rw[hμ2 _ h2,hμ2 _ lj] at he
   exact hR.inj _ _ _ _ h3 HO he
 ·rcases FE _ _ hi with⟨i,rfl,h1,h2⟩|⟨h1,h2,h3⟩
  ·obtain⟨_,vd,h4,h5,h6⟩:=Kh.tok i n e h2
   rw[hτρ i h1]
   refine⟨hρn i h1,vd,h4,h5,fun b hb=>⟨(h6 b hb).1,fun k ds hk=>?_⟩⟩
   rcases FD _ _ hk with⟨i',_,rfl,h7,h8,_⟩|⟨h7,h8,h9⟩
   ·rw[hμρ i' h7];exact (h6 b hb).2 _ _ h8
   ·rw[hμ2 k h8]
    obtain⟨A3,Ms⟩:=OA _ _ h7 h9
    intro e
    exact (hM.fr _ A3 Ms).2.2.2 _ _ h2 (by rw[e];exact hb)
  ·obtain⟨_,vd,h4,h5,h6⟩:=hR.tok id n e h3
   rw[hτ2 id h2 h1]
   refine⟨bC h2 (oY _ _),vd,h4,⟨h5.1,?_⟩,fun b hb=>?_⟩
   ·rcases h5.2 with h0|⟨b,cap,cur,vk,hB',hh,r⟩
    ·exact .inl h0
    ·obtain⟨A3,Ms⟩:=OB id _ b h1 h3 (by rw[vk];rfl)
     exact .inr ⟨b,cap,cur,vk,hB',(hM.fr _ A3 Ms).1.trans hh,r⟩
   ·obtain⟨A3,Ms⟩:=OB id _ b h1 h3 hb
    obtain⟨Qt,h13,h14⟩:=hM.fr _ A3 Ms
    refine⟨fun p h7 h8=>h13 p h7 ((h6 b hb).1 p h7 h8),fun k ds hk=>?_⟩
    rcases FD _ _ hk with⟨i',_,rfl,h7,h8,_⟩|⟨h7,h8,h9⟩
    ·rw[hμρ i' h7];exact h14.1 _ _ h8
    ·rw[hμ2 k h8];exact (h6 b hb).2 _ _ h9
 ·rcases FE _ _ hi with⟨i,rfl,h1,h2⟩|⟨h1,h2,h3⟩ <;> rcases FE _ _ sM with⟨i',rfl,ni,lj⟩|⟨ni,lj,HO⟩
  ·rw[hτρ i h1] at hb
   rw[hτρ i' ni] at pK
   rw[Kh.tinj _ _ _ _ b h2 lj hb pK]
  ·rw[hτρ i h1] at hb
   rw[hτ2 _ lj ni] at pK
   obtain⟨A3,Ms⟩:=OB _ _ b ni HO pK
   exact absurd hb ((hM.fr _ A3 Ms).2.2.2 _ _ h2)
  ·rw[hτρ i' ni] at pK
   rw[hτ2 _ h2 h1] at hb
   obtain⟨A3,Ms⟩:=OB _ _ b h1 h3 hb
   exact absurd pK ((hM.fr _ A3 Ms).2.2.2 _ _ lj)
  ·rw[hτ2 _ h2 h1] at hb
   rw[hτ2 _ lj ni] at pK
   exact hR.tinj _ _ _ _ b h3 HO hb pK
end
section
section
variable {P:Program} {tb:TypeId→Option TyE} {dr:Bool} {ty:TypeId} {ev:Operand→D} {σ:Nat→Nat} {d e:D} {ds es:List D}
theorem fA {m:Nat}(h:d.le (e.ren σ))(hr:frA σ m ds es)(h3:e.idsB m=true:=by exact rfl)(h4:e.noOs=true:=by exact rfl):frA σ m (d::ds) (e::es):=⟨⟨h,h3,h4⟩,hr⟩
theorem fAG {α:Type}{c:Cd α}{a:α}{m:Nat}(h:d.le (dG c a))(hr:frA σ m ds es):frA σ m (d::ds) (dG c a::es):=⟨⟨le_G h,ids_G _ _ _,noO_G _ _⟩,hr⟩
theorem fAn {m:Nat}:frA σ m [] []:=trivial
theorem HC.fr {f:FuncId}{OG:List D}{r r':D}{IR oy vs ul:List (Nat×List D)}{IT uf lv Ez:List (Nat×Nat×Nat×TypeId)}{m n' N N2:Nat}(os:List Nat)(hc:HC P f OG ⟨IR,IT,m⟩ r ⟨oy,uf,n'⟩)
  (ha:frA (fun i=>os.getD i 0) m ds OG) (hv:wkV (fun i=>os.getD i 0) m vs IR) (hl:wkL (fun i=>os.getD i 0) m lv IT) (hos:os.length=m) (tf:os.Nodup) (bh:(os.all fun o=>Nat.ble (o+1) N)=true)
  (hr:r.okF=true) (hvo:(oy.all fun p=>p.2.all D.okC)=true) (om:r.ren (rn os m N)=r') (ss:frV (rn os m N) os oy vs=ul) (S0:frL (rn os m N) os uf lv=Ez) (hN:N+(n' - m)=N2):
  HC P f ds ⟨vs,lv,N⟩ r' ⟨ul,Ez,N2⟩:=by
 subst om ss S0 hN
 exact HC.frame hc os hos tf (fun o ho=>ltb (bx.1 bh o ho)) ha (fun k ds hk=>tg hv _ (aK hk)) (fun id y hy=>vc hl _ (aK hy)) hr (fun p hp=>bx.1 hvo p hp)
theorem BZ {x:Operand}{f:FuncId}{aS:List Operand}{ts:Array TypeId}{OG:List D}{r r':D}{IR oy vs ul:List (Nat×List D)}{IT uf lv Ez:List (Nat×Nat×Nat×TypeId)}{m n' N N2:Nat}(os:List Nat)
  (uL:ev x=.e (.lit (.func (.func f) #[] #[]))) (hc:HC P f OG ⟨IR,IT,m⟩ r ⟨oy,uf,n'⟩) (ha:frA (fun i=>os.getD i 0) m (aS.map ev) OG) (hv:wkV (fun i=>os.getD i 0) m vs IR) (hl:wkL (fun i=>os.getD i 0) m lv IT)
  (hos:os.length=m:=by exact rfl) (tf:os.Nodup:=by decide) (bh:(os.all fun o=>Nat.ble (o+1) N)=true:=by exact rfl) (hr:r.okF=true:=by exact rfl) (hvo:(oy.all fun p=>p.2.all D.okC)=true:=by exact rfl)
  (om:r.ren (rn os m N)=r':=by exact rfl) (ss:frV (rn os m N) os oy vs=ul:=by exact rfl) (S0:frL (rn os m N) os uf lv=Ez:=by exact rfl) (hN:N+(n' - m)=N2:=by exact rfl)
  (hh:hvB tb ⟨.value x,aS.toArray,ts⟩=true:=by kernel_rfl):AVC P tb dr (.call ⟨.value x,aS.toArray,ts⟩) ty ev ⟨vs,lv,N⟩ (Kq r' ⟨ul,Ez,N2⟩):=
 Pg uL (HC.fr os hc ha hv hl hos tf bh hr hvo om ss S0 hN) rfl hh
end
end
end
end Go.Proofs.YtgfcnncojhkcoaaGreat
