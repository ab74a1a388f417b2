/-
  Lemmas, part 1. Conditions: none.
-/
import Derived.Test.YtgfcnncojhkcoaaGreatU0
import Derived.OrdersHeld
import Derived.Laws.StructEq
import Derived.Scope
import Derived.LoopN
import Derived.Lib.AppendZerosOnto
set_option linter.all false
set_option maxRecDepth 100000
namespace Go.Proofs.YtgfcnncojhkcoaaGreat
open Go.RowKit Go.IntKind
noncomputable section
section
structure Cx where
 B:Nat
 w0:World
 F0:Addr→Prop
 N:Nat
 hp0:Hp
 g0:Gh
 df:List Deferred
def RS(x:Cx)(tm:List (Nat×D))(hp:Hp)(a:Act)(w:World):Prop:=
 ∃g,HR x.B hp g w∧(∀t d,tm.lookup t=some d→aN hp g w d (a.tmps.getD t undef))∧a.tmps.size=x.N∧a.defers=x.df∧Below x.B x.w0 w∧(∀p:Addr,p.block<x.B→x.F0 p→g.F p)∧bO x.hp0 x.g0 x.w0 hp g w
section
variable {P:Program} {tb:TypeId→Option TyE} {x:Cx} {tm tm':List (Nat×D)} {hp hp':Hp} {a:Act} {w w':World}
theorem Bj(g:Gh)(v:Value):aN hp g w (IP v) v:=by
 unfold IP
 split
 ·rename_i cs
  split
  ·rename_i h1
   have:=(eI.lits (hp:=hp) (g:=g) (w:=w) cs.toList h1).ag
   simpa using this
  ·exact .top _
 ·exact .top _
 ·rename_i h1 h2
  refine .e _ _ (.lit v ?_)
  cases v <;> first|rfl|exact absurd rfl (h1 _)|exact absurd rfl (h2 _)
theorem wW {g:Gh}(h:∀t d,tm.lookup t=some d→aN hp g w d (a.tmps.getD t undef))(o:Operand):aN hp g w (evD tm o) (a.eval o):=by
 cases o with
 |tmp t=>
  show aN hp g w ((tm.lookup t).getD .top) _
  cases hl:tm.lookup t with
  |none=>exact .top _
  |some d=>exact h t d hl
 |const v=>exact Bj g v
 |global g'=>exact .top _
 |func f=>exact .e _ _ (.lit _ rfl)
theorem qj(a:Act)(dst:Option Tmp)(v:Value):(a.put dst v).tmps.size=a.tmps.size:=by cases dst <;> simp[Act.put]
theorem mN(a:Act)(dst:Option Tmp)(v:Value):(a.put dst v).defers=a.defers:=by cases dst <;> rfl
theorem ww {a:Act}{t:Tmp}{v:Value}(h:t<a.tmps.size):(a.put (some t) v).tmps.getD t undef=v:=by
 simp[Act.put,h]
theorem C6 {a:Act}{dst:Option Tmp}{t:Tmp}{v:Value}(h:dst≠some t):(a.put dst v).tmps.getD t undef=a.tmps.getD t undef:=by
 cases dst with
 |none=>rfl
 |some s=>
  have:s≠t:=fun e=>h (by rw[e])
  simp[Act.put,cP,BH this]
theorem zZ {g:Gh}{dst:Option Tmp}{d:D}{v:Value}(h:∀t d,tm.lookup t=some d→aN hp g w d (a.tmps.getD t undef))(hd:aN hp g w d v)(hN:∀t,dst=some t→t<a.tmps.size):
  ∀t d',(xK dst d tm).lookup t=some d'→aN hp g w d' ((a.put dst v).tmps.getD t undef):=by
 intro t d' hl
 cases dst with
 |none=>exact h t d' hl
 |some s=>
  by_cases yf:t=s
  ·subst yf
   have:some d=some d':=by rw[←hl];exact ai.symm
   injection this with this
   subst this
   rw[ww (hN t rfl)]
   exact hd
  ·rw[C6 (fun e=>yf (by injection e with e;exact e.symm))]
   exact h t d' (by rw[←hl];exact (ar yf).symm)
def Gd(ops:Array Oper)(o:Oper)(tm:List (Nat×D))(b:Bool):Prop:=
 match o.guard with
 |none=>b=true
 |some (j,want)=>(∃t c,(ops[j]?).bind (·.dst)=some t∧tm.lookup t=some (.e (.lit (.bool c)))∧(c == want)=b)∨∃t,(ops[j]?).bind (·.dst)=some t∧tm.lookup t=some (.tu [])∧b=false
theorem Gd.wanted {ops:Array Oper}{o:Oper}{b:Bool}{g:Gh}(h:Gd ops o tm b)(hr:∀t d,tm.lookup t=some d→aN hp g w d (a.tmps.getD t undef)):Region.wanted o (yielded ops a.tmps)=b:=by
 unfold Gd at h
 unfold Region.wanted
 split at h
 ·rename_i hg
  rw[hg,h]
 ·rename_i j want hg
  rw[hg]
  dsimp only
  rcases h with⟨t,c,h1,h2,h3⟩|⟨t,h1,h2,rfl⟩
  rotate_left
  ·have hv:=hr t _ h2
   have hy:yielded ops a.tmps j=none:=by
    unfold yielded
    rw[h1]
    simp only[BE]
    cases ht:a.tmps[t]? with
    |none=>rfl
    |some u=>
     have hu:a.tmps.getD t undef=u:=by simp[cP,ht]
     rw[hu] at hv
     cases hv with
     |tu _ cs hl hr=>rfl
   rw[hy];rfl
  have hv:=(hr t _ h2).lit
  have hy:yielded ops a.tmps j=some c:=by
   unfold yielded
   rw[h1]
   simp only[BE]
   cases ht:a.tmps[t]? with
   |none=>simp[cP,ht,undef] at hv
   |some u=>
    have:u=.bool c:=by simpa[cP,ht] using hv
    rw[this]
  rw[hy,←h3]
  rfl
def Offs(o:Oper)(ev:Operand→D)(d:D):Prop:=∀(hp:Hp) (g:Gh) (w:World) (a:Act),(∀x∈o.op.operands,aN hp g w (ev x) (a.eval x))→aN hp g w d undef
def WkS(tm:List (Nat×D))(hp:Hp)(tm':List (Nat×D))(hp':Hp):Prop:=∀(B:Nat) (g:Gh) (w:World) (ρ:Nat→Value),HR B hp g w→(∀t d,tm.lookup t=some d→aN hp g w d (ρ t))→
 ∃g',HR B hp' g' w∧bO hp g w hp' g' w∧(∀t d,tm'.lookup t=some d→aN hp' g' w d (ρ t))∧∀p:Addr,p.block<B→g.F p→g'.F p
theorem WkS.rs(h:WkS tm hp tm' hp')(hr:RS x tm hp a w):RS x tm' hp' a w:=by
 obtain⟨g,hr,g8,hsz,ry,hB,hF,hM⟩:=hr
 obtain⟨g',h1,h2,h3,h4⟩:=h x.B g w (fun t=>a.tmps.getD t undef) hr g8
 exact⟨g',h1,h3,hsz,ry,hB,fun p hp hq=>h4 p hp (hF p hp hq),hM.trans h2⟩
inductive bC (P:Program) (tb:TypeId→Option TyE) (md:Md) (ops:Array Oper) (K:List (Nat×D)→Hp→Prop):List Oper→List (Nat×D)→Hp→Prop
 |nil {tm:List (Nat×D)} {hp:Hp} (h:K tm hp):bC P tb md ops K [] tm hp
 |on {o:Oper} {os:List Oper} {tm:List (Nat×D)} {hp:Hp} (d:D) (hp':Hp) (hg:Gd ops o tm true) (hs:m3 P tb md o (evD tm) hp d hp') (h:bC P tb md ops K os (xK o.dst d tm) hp'):bC P tb md ops K (o::os) tm hp
 |off {o:Oper} {os:List Oper} {tm:List (Nat×D)} {hp:Hp} (d:D) (hg:Gd ops o tm false) (hs:Offs o (evD tm) d) (h:bC P tb md ops K os (xK o.dst d tm) hp):bC P tb md ops K (o::os) tm hp
 |sq (hmd:md=.seq) {o:Oper} {os:List Oper} {tm:List (Nat×D)} {hp:Hp} (d:D) (hp':Hp) (hg:Gd ops o tm true) (hs:n9 P o (evD tm) hp d hp') (h:bC P tb md ops K os (xK o.dst d tm) hp'):bC P tb md ops K (o::os) tm hp
 |wk (hmd:md=.seq) {os:List Oper} {tm tm':List (Nat×D)} {hp hp':Hp} (hw:WkS tm hp tm' hp') (h:bC P tb md ops K os tm' hp'):bC P tb md ops K os tm hp
def jC(N:Nat)(ops:Array Oper):Bool:=ops.all fun o=>match o.dst with
 |some t=>decide (t<N)
 |none=>true
theorem jW {N:Nat}{ops:Array Oper}(h:jC N ops=true){i:Nat}{o:Oper}(hi:ops[i]? =some o){t:Tmp}(ht:o.dst=some t):t<N:=by
 unfold jC at h
 rw[Jd] at h
 have:=h o (Array.mem_of_getElem? hi)
 rw[ht] at this
 simpa using this
theorem RS.op {o:Oper}{d:D}{Kn:Act→World→Prop}{Q:Exit→Act→World→Prop}(h:RS x tm hp a w)(hs:n9 P o (evD tm) hp d hp')(hN:∀t,o.dst=some t→t<x.N)
  (hk:∀a' w',RS x (xK o.dst d tm) hp' a' w'→Kn a' w'):o.wp P a w Kn Q:=by
 obtain⟨g,hr,g8,hsz,ry,hB,hF,hM⟩:=h
 refine hs x.B g w a Kn Q hr (fun y _=>wW g8 y) (fun v g' w' po mo hd hb hF'=>hk _ _ ⟨g',po,zZ (fun t d ht=>(g8 t d ht).mono mo) hd (fun t ht=>by rw[hsz];exact hN t ht),by rw[qj,hsz],by rw[mN,ry],hB.trans hb,fun p h1 h2=>hF' p h1 (hF p h1 h2),hM.trans mo⟩)
theorem RS.skip {o:Oper}{d:D}(h:RS x tm hp a w)(hs:Offs o (evD tm) d)(hN:∀t,o.dst=some t→t<x.N):RS x (xK o.dst d tm) hp (a.put o.dst undef) w:=by
 obtain⟨g,hr,g8,hsz,ry,hB,hF,hM⟩:=h
 exact⟨g,hr,zZ g8 (hs hp g w a fun y _=>wW g8 y) (fun t ht=>by rw[hsz];exact hN t ht),by rw[qj,hsz],by rw[mN,ry],hB,hF,hM⟩
theorem Mi {ops:Array Oper}{K:List (Nat×D)→Hp→Prop}{Q:Exit→Act→World→Prop}(hN:jC x.N ops=true)(hk:∀tm hp a w,K tm hp→RS x tm hp a w→Q .normal a w)
  (rest:List Oper) (i:Nat) (tm:List (Nat×D)) (hp:Hp) (a:Act) (w:World) (hd:ops.toList.drop i=rest) (h:bC P tb .seq ops K rest tm hp) (hr:RS x tm hp a w):wpOps P ops Q (List.range' i rest.length) a w:=by
 have step:∀{o:Oper} {os:List Oper} {i:Nat},ops.toList.drop i=o::os→ops[i]? =some o∧ops.toList.drop (i+1)=os:=by
  intro o os i hd
  refine⟨?_,by rw[←pj,hd];rfl⟩
  have:(ops.toList.drop i)[0]? =some o:=by rw[hd];rfl
  rw[pM] at this
  simpa using this
 induction h generalizing i a w with
 |nil h=>exact hk _ _ _ _ h hr
 |on d hp' hg h2 h1 ih=>
  obtain⟨ho,Cc⟩:=step hd
  have wM:=fun t ht=>jW hN ho (t:=t) ht
  simp only[mj,Fc]
  rw[wpOps_cons]
  unfold wpOp
  rw[ho]
  dsimp only
  obtain⟨g,_,g8,_⟩:=id hr
  rw[hg.wanted g8,ay rfl]
  exact .inl (hr.op h2.ok wM fun a' w' po=>ih (i+1) a' w' Cc po)
 |off d hg hs h1 ih=>
  obtain⟨ho,Cc⟩:=step hd
  have wM:=fun t ht=>jW hN ho (t:=t) ht
  simp only[mj,Fc]
  rw[wpOps_cons]
  unfold wpOp
  rw[ho]
  dsimp only
  obtain⟨g,_,g8,_⟩:=id hr
  rw[hg.wanted g8,aA (by simp)]
  exact ih (i+1) _ _ Cc (hr.skip hs wM)
 |sq _ d hp' hg h2 h1 ih=>
  obtain⟨ho,Cc⟩:=step hd
  have wM:=fun t ht=>jW hN ho (t:=t) ht
  simp only[mj,Fc]
  rw[wpOps_cons]
  unfold wpOp
  rw[ho]
  dsimp only
  obtain⟨g,_,g8,_⟩:=id hr
  rw[hg.wanted g8,ay rfl]
  exact .inl (hr.op h2 wM fun a' w' po=>ih (i+1) a' w' Cc po)
 |wk _ hw h ih=>exact ih i a w hd (hw.rs hr)
def AW(P:Program)(x:Cx)(c:Code)(tm:List (Nat×D))(hp:Hp)(Q:Exit→List (Nat×D)→Hp→Prop):Prop:=
 ∀a w,RS x tm hp a w→c.wp P (fun ex a' w'=>∃tm' hp',RS x tm' hp' a' w'∧Q ex tm' hp') a w
variable {Q:Exit→List (Nat×D)→Hp→Prop}
theorem AW.mono {c:Code}{Q':Exit→List (Nat×D)→Hp→Prop}(h:AW P x c tm hp Q)(hq:∀ex tm hp,Q ex tm hp→Q' ex tm hp):AW P x c tm hp Q':=
 fun a w hr=>wp_mono (h a w hr) fun ex _ _ ⟨tm',hp',h1,h2⟩=>⟨tm',hp',h1,hq ex _ _ h2⟩
theorem AW.regionS {id:Nat}{ops:Array Oper}(hN:jC x.N ops=true)(h:∀K:List (Nat×D)→Hp→Prop,(∀tm hp,Q .normal tm hp→K tm hp)→bC P tb .seq ops K ops.toList tm hp):AW P x (.region id ops false) tm hp Q:=by
 intro a w hr
 refine wp_region ?_
 have:=Mi (Q:=fun ex a' w'=>∃tm' hp',RS x tm' hp' a' w'∧Q ex tm' hp') hN (fun tm hp a w hk hr=>⟨tm,hp,hr,hk⟩) ops.toList 0 tm hp a w rfl (h _ fun _ _ h=>h) hr
 rwa[ej,←LU] at this
theorem AW.seq {c c':Code}(h:AW P x c tm hp fun ex tm' hp'=>match ex with| .normal=>AW P x c' tm' hp' Q|ex=>Q ex tm' hp'):AW P x (.seq c c') tm hp Q:=by
 intro a w hr
 refine wp_seq (wp_mono (h a w hr) ?_)
 rintro ex a' w' ⟨tm',hp',h1,h2⟩
 cases ex with
 |normal=>exact h2 a' w' h1
 |_=>exact⟨tm',hp',h1,h2⟩
theorem AW.cond {c:Operand}{c1 c2:Code}{b:Bool}(hc:evD tm c=.e (.lit (.bool b)))(h:AW P x (match b with|true=>c1|false=>c2) tm hp Q):AW P x (.cond c c1 c2) tm hp Q:=by
 intro a w hr
 obtain⟨g,_,g8,_⟩:=id hr
 have hv:=wW g8 c
 rw[hc] at hv
 refine wp_cond (t:=b) hv.lit ?_
 have:=h a w hr
 cases b <;> exact this
theorem AW.block {id:Nat}{c:Code}(h:AW P x c tm hp fun ex tm' hp'=>match ex with| .exit zb=>(if zb=id then Q .normal tm' hp' else Q (.exit zb) tm' hp')|ex=>Q ex tm' hp'):AW P x (.block id c) tm hp Q:=by
 intro a w hr
 refine wp_block (wp_mono (h a w hr) ?_)
 rintro ex a' w' ⟨tm',hp',h1,h2⟩
 cases ex with
 |exit zb=>
  unfold Exit.inBlock
  dsimp only at h2 ⊢
  split
  ·rename_i he
   rw[ay he] at h2
   exact⟨tm',hp',h1,h2⟩
  ·rename_i he
   rw[aA he] at h2
   exact⟨tm',hp',h1,h2⟩
 |_=>exact⟨tm',hp',h1,h2⟩
theorem AW.exit {id:Nat}(h:Q (.exit id) tm hp):AW P x (.exit id) tm hp Q:=fun _ _ hr=>wp_exit ⟨tm,hp,hr,h⟩
theorem AW.ret(h:Q .ret tm hp):AW P x .ret tm hp Q:=fun _ _ hr=>wp_ret ⟨tm,hp,hr,h⟩
theorem AW.skip(h:Q .normal tm hp):AW P x .skip tm hp Q:=fun _ _ hr=>wp_skip ⟨tm,hp,hr,h⟩
theorem uH {Q:Exit→Act→World→Prop}{c:Code}(I:Nat→Act→World→Prop){n:Nat}(h₀:I n a w)
  (round:∀n a w,I n a w→c.wp P (Exit.then (fun a' w'=>∃m,m<n∧I m a' w') Q) a w):(Code.loop c).wp P Q a w:=by
 intro b k cs
 have key:∀n a w,I n a w→∃e a' w',Q e a' w'∧Arrives P (lone (b.at a (.code c::.inLoop c::k)) cs w) b k cs e a' w':=by
  intro n
  induction n using Nat.strongRecOn with
  |_ n ih=>
   intro a w hI
   obtain⟨e,a₁,w₁,hq,GP⟩:=round n a w hI b (.inLoop c::k) cs
   cases e with
   |normal=>
    obtain⟨m,bI,hI₁⟩:=hq
    obtain⟨e₂,a₂,w₂,hq₂,harr₂⟩:=ih m bI a₁ w₁ hI₁
    exact⟨e₂,a₂,w₂,hq₂,.of_steps (Steps.trans GP (.one step_inLoop)) harr₂⟩
   |exit id=>exact⟨_,a₁,w₁,hq,.pass (x:=.inLoop c) rfl (fun _ _=>.inl (by simp)) GP⟩
   |goto l=>exact⟨_,a₁,w₁,hq,.pass (x:=.inLoop c) rfl (fun _ _=>.inl (by simp)) GP⟩
   |ret=>exact⟨_,a₁,w₁,hq,.pass (x:=.inLoop c) rfl (fun _ _=>.inl (by simp)) GP⟩
   |panic ch=>exact⟨_,a₁,w₁,hq,.pass (x:=.inLoop c) rfl (fun _ _=>.inl (by simp)) GP⟩
   |outgrown=>exact⟨_,a₁,w₁,hq,.pass (x:=.inLoop c) rfl (fun _ _=>.inl (by simp)) GP⟩
 obtain⟨e,a',w',hq,GP⟩:=key n a w h₀
 exact⟨e,a',w',hq,.of_steps (.one step_loop) GP⟩
def Wk(x:Cx)(tm:List (Nat×D))(hp:Hp)(tm':List (Nat×D))(hp':Hp):Prop:=∀a w,RS x tm hp a w→RS x tm' hp' a w
theorem AW.weak {c:Code}(hw:Wk x tm hp tm' hp')(h:AW P x c tm' hp' Q):AW P x c tm hp Q:=fun a w hr=>h a w (hw a w hr)
theorem AW.loop {c:Code}(I:Nat→List (Nat×D)→Hp→Prop){n:Nat}{tm0:List (Nat×D)}{hp0:Hp}(hw:Wk x tm hp tm0 hp0)(h0:I n tm0 hp0)
  (round:∀n tm hp,I n tm hp→AW P x c tm hp fun ex tm' hp'=>match ex with| .normal=>∃m La bK,m<n∧Wk x tm' hp' La bK∧I m La bK|ex=>Q ex tm' hp'):AW P x (.loop c) tm hp Q:=by
 intro a w hr
 refine uH (fun n a w=>∃tm hp,RS x tm hp a w∧I n tm hp) (n:=n) ⟨tm0,hp0,hw a w hr,h0⟩ (fun n a w ⟨tm,hp,hr,hI⟩=>wp_mono (round n tm hp hI a w hr) ?_)
 rintro ex a' w' ⟨tm',hp',h1,h2⟩
 cases ex with
 |normal=>
  obtain⟨m,La,bK,bI,L5,hI2⟩:=h2
  exact⟨m,bI,La,bK,L5 a' w' h1,hI2⟩
 |_=>exact⟨tm',hp',h1,h2⟩
def D.idsB(m:Nat):D→Bool
 | .ag ds=>ds.all (D.idsC m)
 | .tu ds=>ds.all (D.idsC m)
 |d=>d.idsC m
theorem ir {m:Nat}{bK:Hp}{g:Gh}{d:D}{v:Value}(h:aN hp g w d v)(hd:d.idsC m=true)(hm:bK.next=m)(hl:∀id y,bK.live.lookup id=some y→hp.live.lookup id=some y):aN bK g w d v:=by
 subst hm
 cases h with
 |e y v h=>exact .e y v h
 |own id z n xs v h hid ht=>exact .own id z n xs v h (by simpa[D.idsC] using hd) (fun m e h=>ht m e (hl _ _ h))
 |fu z n xs A h=>exact .fu z n xs A h
 |ag ds cs hl h1 hr=>cases hd
 |tu ds cs hl hr=>cases hd
 |fp xs off ad hb hc=>exact .fp xs off ad hb hc
 |pt k off hk=>exact .pt k off (by simpa[D.idsC] using hd)
 |ow k off z n c hk h1 h2=>exact .ow k off z n c (by simpa[D.idsC] using hd) h1 h2
 |gw k z n c hk h1 h2 hs=>exact .gw k z n c (by simpa[D.idsC] using hd) h1 h2 hs
 |fn f ks hk=>exact .fn f ks (by simpa[D.idsC] using hd)
 |opt b d v hi h=>
  refine .opt b d v hd fun hb=>?_
  cases d with
  |ag ds=>
   have iR:∀d∈ds,D.isE d=true:=by
    have:ds.all D.isE=true:=hd
    simpa only[bV] using this
   have h':=h hb
   cases h' with
   |ag _ cs hlen h1 hr=>
    refine .ag _ cs hlen h1 fun j d u h2 h3=>?_
    have h4:=hr j d u h2 h3
    have h5:=iR d (cc h2)
    cases d with
    |e y=>
     cases h4 with
     |e _ _ h6=>exact .e y _ h6
    |fu z n xs=>
     cases h4 with
     |fu _ _ _ A h6=>exact .fu z n xs A h6
    |fp xs off=>
     cases h4 with
     |fp _ _ ad hb hc=>exact .fp xs off ad hb hc
    |_=>cases h5
  |_=>exact ir (h hb) hd rfl hl
 |top v=>exact .top v
theorem GD {m:Nat}{bK:Hp}{g:Gh}{d:D}{v:Value}(h:aN hp g w d v)(hd:d.idsB m=true)(hm:bK.next=m)(hl:∀id y,bK.live.lookup id=some y→hp.live.lookup id=some y):aN bK g w d v:=by
 cases h with
 |ag ds cs hlen h1 hr=>
  have iR:∀d∈ds,D.idsC m d=true:=by simpa[D.idsB] using hd
  exact .ag ds cs hlen h1 fun j d u h2 h3=>ir (hr j d u h2 h3) (iR d (cc h2)) hm hl
 |tu ds cs hlen hr=>
  have iR:∀d∈ds,D.idsC m d=true:=by simpa[D.idsB] using hd
  exact .tu ds cs hlen fun j d u h2 h3=>ir (hr j d u h2 h3) (iR d (cc h2)) hm hl
 |e y v h=>exact ir (.e y v h) hd hm hl
 |own id z n xs v h hid ht=>exact ir (.own id z n xs v h hid ht) hd hm hl
 |fu z n xs A h=>exact ir (.fu z n xs A h) hd hm hl
 |fp xs off ad hb hc=>exact ir (.fp xs off ad hb hc) hd hm hl
 |pt k off hk=>exact ir (.pt k off hk) hd hm hl
 |ow k off z n c hk h1 h2=>exact ir (.ow k off z n c hk h1 h2) hd hm hl
 |gw k z n c hk h1 h2 hs=>exact ir (.gw k z n c hk h1 h2 hs) hd hm hl
 |fn f ks hk=>exact ir (.fn f ks hk) hd hm hl
 |opt b d v hi h=>exact ir (.opt b d v hi h) hd hm hl
 |top v=>exact .top v
theorem cg {α:Type}:∀{l:List (Nat×α)} {k:Nat} {y:α},l.lookup k=some y→(k,y)∈l
 |[],k,y,h=>by simp at h
 |(j,z)::l,k,y,h=>by
  by_cases hj:k=j
  ·subst hj
   have:some z=some y:=by rw[←h];exact ai.symm
   injection this with this
   subst this
   exact pk ..
  ·exact nV _ (cg (by rw[←h];exact (ar hj).symm))
theorem Wk.refl(x:Cx)(tm:List (Nat×D))(hp:Hp):Wk x tm hp tm hp:=fun _ _ h=>h
def eg:Nat→List D→List (Nat×D)
 |_,[]=>[]
 |i,d::ds=>(i,d)::eg (i+1) ds
theorem nU:∀{ds:List D} {i t:Nat} {d:D},(eg i ds).lookup t=some d→i≤t∧ds[t - i]? =some d
 |[],i,t,d,h=>by simp[eg] at h
 |d0::ds,i,t,d,h=>by
  by_cases zc:t=i
  ·subst zc
   have:some d0=some d:=by rw[←h];exact ai.symm
   injection this with this
   subst this
   exact⟨aL _,by simp⟩
  ·have h1:(eg (i+1) ds).lookup t=some d:=by rw[←h];exact (ar zc).symm
   obtain⟨h2,h3⟩:=nU h1
   refine⟨by omega,?_⟩
   rw[show t - i=(t - (i+1))+1 by omega]
   exact h3
def pq(tb:TypeId→Option TyE)(tm:List (Nat×D))(hp:Hp)(r:ResultVar)(k:D→Prop):Prop:=
 match r with
 | .tmp t=>∃d,tm.lookup t=some d∧k d
 | .cell p ty=>∃d,tm.lookup p=some d∧(∃j,tb ty=some j)∧AL tb ty d hp k
theorem aN.exC {g:Gh}{w:World}{d:D}{v:Value}(h:aN hp g w d v):aN hp g w d.exC v:=by
 cases h with
 |e x v h=>exact .e x v h
 |own id z n xs v h hid ht=>exact .e _ _ h
 |fu z n xs A h=>exact .e _ _ h
 |ag ds cs hl h1 hr=>exact .ag ds cs hl h1 hr
 |tu ds cs hl hr=>exact .tu ds cs hl hr
 |fp xs off ad hb hc=>exact .fp xs off ad hb hc
 |pt k off hk=>exact .pt k off hk
 |ow k off z n c hk h1 h2=>exact .ow k off z n c hk h1 h2
 |gw k z n c hk h1 h2 hs=>exact .gw k z n c hk h1 h2 hs
 |fn f ks hk=>exact .fn f ks hk
 |opt b d v hi h=>exact .opt b d v hi h
 |top v=>exact .top v
theorem aN.exD {g:Gh}{w:World}{d:D}{v:Value}(h:aN hp g w d v):aN hp g w d.ex v:=by
 cases h with
 |ag ds cs hl h1 hr=>
  refine .ag _ cs (by simpa using hl) h1 fun j d u hd hu=>?_
  rw[de] at hd
  cases hdj:ds[j]? with
  |none=>simp[hdj] at hd
  |some d0=>
   simp only[hdj,nb,na] at hd
   subst hd
   exact (hr j d0 u hdj hu).exC
 |e x v h=>exact .e x v h
 |own id z n xs v h hid ht=>exact .e _ _ h
 |fu z n xs A h=>exact .e _ _ h
 |tu ds cs hl hr=>exact .tu ds cs hl hr
 |fp xs off ad hb hc=>exact .fp xs off ad hb hc
 |pt k off hk=>exact .pt k off hk
 |ow k off z n c hk h1 h2=>exact .ow k off z n c hk h1 h2
 |gw k z n c hk h1 h2 hs=>exact .gw k z n c hk h1 h2 hs
 |fn f ks hk=>exact .fn f ks hk
 |opt b d v hi h=>exact .opt b d v hi h
 |top v=>exact .top v
def D.leC(d d':D):Prop:=d'=d∨d'=d.exC∨(d=.e (.lit (.slice none 0 0))∧∃z,0<z∧d'=.e (.sl z 0 []))
theorem aN.leC {g:Gh}{w:World}{d d':D}{v:Value}(h:aN hp g w d v)(hl:d.leC d'):aN hp g w d' v:=by
 rcases hl with rfl|rfl|⟨rfl,z,hz,rfl⟩
 ·exact h
 ·exact h.exC
 ·cases h with
  |e _ _ h=>
   cases h with
   |lit _ _=>exact .e _ _ (.sl z 0 [] none 0 (fun _=>undef) (by simp) hz (aL _) (dU _) (fun h=>absurd h (Bs _)) (fun _ h=>by cases h) (fun j x h=>by simp at h))
def wh:List D→List D→Prop
 |[],[]=>True
 |d::ds,d'::ds'=>d.leC d'∧wh ds ds'
 |_,_=>False
theorem rz:∀ds:List D,wh ds ds
 |[]=>trivial
 |_::ds=>⟨.inl rfl,rz ds⟩
theorem rA:∀{ds ds':List D},wh ds ds'→ds'.length=ds.length
 |[],[],_=>rfl
 |_::ds,_::ds',h=>by simp[rA h.2]
 |[],_::_,h=>h.elim
 |_::_,[],h=>h.elim
theorem tr:∀{ds ds':List D},wh ds ds'→∀{j:Nat} {d':D},ds'[j]? =some d'→∃d,ds[j]? =some d∧d.leC d'
 |d::ds,d'::ds',h,0,e,he=>⟨d,rfl,by
  have:d'=e:=by simpa using he
  rw[←this];exact h.1⟩
 |d::ds,d'::ds',h,j+1,e,he=>tr h.2 (by simpa using he)
 |[],[],h,j,e,he=>by simp at he
 |[],_::_,h,_,_,_=>h.elim
 |_::_,[],h,_,_,_=>h.elim
def D.le(d d':D):Prop:=d.leC d'∨d'=d.ex∨∃ds ds',d=.ag ds∧d'=.ag ds'∧wh ds ds'
theorem aN.le {g:Gh}{w:World}{d d':D}{v:Value}(h:aN hp g w d v)(hl:d.le d'):aN hp g w d' v:=by
 rcases hl with hl|rfl|⟨ds,ds',rfl,rfl,hl⟩
 ·exact h.leC hl
 ·exact h.exD
 ·cases h with
  |ag _ cs hlen h1 hr=>
   refine .ag _ cs (by rw[hlen,rA hl]) h1 fun j d u hd hu=>?_
   obtain⟨d0,Es,hle⟩:=tr hl hd
   exact (hr j d0 u Es hu).leC hle
theorem JT {d:D}(h:d.pure=true):d.ex=d:=by
 cases d with
 |ag ds=>
  have iR:∀x∈ds,D.pureC x=true:=by simpa[D.pure] using h
  show D.ag (ds.map D.exC)=.ag ds
  have:ds.map D.exC=ds:=by
   conv=>rhs;rw[←BD ds]
   refine pD fun x hx=>?_
   have:=iR x hx
   cases x <;> first|rfl|cases this
  rw[this]
 |e x=>rfl
 |fp xs off=>rfl
 |_=>cases h
theorem aN.exportP {g:Gh}{w:World}{d:D}{v:Value}(h:aN hp g w d v)(hp':d.pure=true):kU w g.F d v:=by
 have:=h.xport (by rw[JT hp'];exact hp')
 rwa[JT hp'] at this
def fK(tb:TypeId→Option TyE)(rs:List ResultVar)(tm:List (Nat×D))(hp:Hp)(r:D):Prop:=
 match rs with
 |[q]=>pq tb tm hp q fun d=>(d.ex.pure=true∧r=d.ex)∨(∃id e z n xs,d=.own id z n xs∧hp.live.lookup id=some (n,z,e)∧r=.own e z n xs)∨∃d2,d.le d2∧d2.pure=true∧r=d2
 |[q,q']=>pq tb tm hp q fun d=>pq tb tm hp q' fun d'=>((d.ex.pure=true∧d'.ex.pure=true)∧r=.tu [d.ex,d'.ex])∨∃e e',d.le e∧d'.le e'∧(e.pure=true∧e'.pure=true)∧r=.tu [e,e']
 |[q,q',H7]=>pq tb tm hp q fun d=>pq tb tm hp q' fun d'=>pq tb tm hp H7 fun Mg=>((d.ex.pure=true∧d'.ex.pure=true∧Mg.ex.pure=true)∧r=.tu [d.ex,d'.ex,Mg.ex])∨∃e e' e'',d.le e∧d'.le e'∧Mg.le e''∧(e.pure=true∧e'.pure=true∧e''.pure=true)∧r=.tu [e,e',e'']
 |[]=>r=.tu []
 |_=>False
theorem f7(tok:TOk P tb){q:ResultVar}{k:D→Prop}(h:pq tb tm hp q k):∃d,k d∧∀(B:Nat) (g:Gh) (w:World) (tmps:Array Value),HR B hp g w→(∀t d,tm.lookup t=some d→aN hp g w d (tmps.getD t undef))→
  ∃v,((match q with| .tmp t=>pure (tmps.getD t undef)| .cell a t=>do loadVar t (←asAddr (tmps.getD a undef)):Sem Value)).run P w=.ok v w∧aN hp g w d v:=by
 unfold pq at h
 split at h
 ·rename_i t
  obtain⟨d,hd,hk⟩:=h
  exact⟨d,hk,fun B g w tmps hr g8=>⟨_,rfl,g8 t d hd⟩⟩
 ·rename_i p ty
  obtain⟨d,hd,_,h⟩:=h
  obtain⟨d',hk,_,hs⟩:=za tok h
  refine⟨d',hk,fun B g w tmps hr g8=>?_⟩
  obtain⟨v,bP,cM⟩:=hs hp B g w _ (fun _ _ _=>rfl) hr (g8 p d hd)
  refine⟨v,?_,cM⟩
  have hp:=g8 p d hd
  generalize tmps.getD p undef=u at*
  cases u with
  |pointer o=>
   cases o with
   |some ad=>simpa[Instr.loadAt,Instr.sureAddr,asAddr] using bP
   |none=>simp[Instr.loadAt,Instr.sureAddr,stuck,Sem.run] at bP
  |_=>simp[Instr.loadAt,Instr.sureAddr,stuck,Sem.run] at bP
theorem Array.mapM_one {α β:Type}(f:α→Sem β)(q:α)(w:World){v:β}(h:(f q).run P w=.ok v w):((#[q]:Array α).mapM f).run P w=.ok #[v] w:=by
 rw[E2]
 simp[h]
theorem Array.mapM_two {α β:Type}(f:α→Sem β)(q q':α)(w:World){v v':β}(h:(f q).run P w=.ok v w)(h':(f q').run P w=.ok v' w):((#[q,q']:Array α).mapM f).run P w=.ok #[v,v'] w:=by
 rw[E2]
 simp[h,h']
theorem Array.mapM_three {α β:Type}(f:α→Sem β)(q q' H7:α)(w:World){v v' v'':β}(h:(f q).run P w=.ok v w)(h':(f q').run P w=.ok v' w)(h'':(f H7).run P w=.ok v'' w):((#[q,q',H7]:Array α).mapM f).run P w=.ok #[v,v',v''] w:=by
 rw[E2]
 simp[h,h',h'']
theorem kU.tu {F:Addr→Prop}{ds:List D}{vs:List Value}(h:Pw (kU w F) ds vs):kU w F (.tu ds) (.tuple vs.toArray):=
 aN.tu ds vs.toArray (by simpa using h.1.symm) fun j d u hd hu=>h.2 j d u hd (by simpa using hu)
theorem D9 {d:D}{e z n:Nat}{xs:List E}(h:d.ex.pure=true):d.ex≠.own e z n xs:=by
 intro e
 rw[e] at h
 cases h
theorem tj.of {B:Nat}{F:Addr→Prop}{r:D}{v:Value}(h:kU w F r v)(hn:∀e z n xs,r≠.own e z n xs):tj B F w r v:=by
 unfold tj
 split
 ·exact absurd rfl (hn _ _ _ _)
 ·exact h
theorem cH.less {F F':Addr→Prop}{y:E}{v:Value}(h:cH w F y v)(hF:∀p,F' p→F p):cH w F' y v:=h.mono (aL _) (fun _ _ _=>rfl) fun p _ hf=>hF p hf
theorem kU.less {F F':Addr→Prop}{d:D}{v:Value}(h:kU w F d v)(hF:∀p,F' p→F p):kU w F' d v:=by
 unfold kU at h
 generalize hh:(⟨[],[],0⟩:Hp)=h0 at h
 generalize hgg:(⟨fun _=>0,fun _=>default,F⟩:Gh)=g0 at h
 have LH:g0.F=F:=by rw[←hgg]
 have hn:h0.next=0:=by rw[←hh]
 unfold kU
 induction h with
 |e y v h=>exact .e y v (cH.less h fun p hp=>by rw[LH];exact hF p hp)
 |own id z n xs v h hid ht=>omega
 |fu z n xs A h=>exact .fu z n xs A (cH.less h fun p hp=>by rw[LH];exact hF p hp)
 |ag ds cs hl h1 hr ih=>exact .ag ds cs hl h1 ih
 |tu ds cs hl hr ih=>exact .tu ds cs hl ih
 |fp xs off ad hb hc=>
  refine .fp xs off ad hb fun j y hy=>?_
  obtain⟨u,h1,h2,h3⟩:=hc j y hy
  exact⟨u,h1,fun hf=>h2 (by rw[LH];exact hF _ hf),cH.less h3 fun p hp=>by rw[LH];exact hF p hp⟩
 |pt k off hk=>omega
 |ow k off z n c hk h1 h2=>omega
 |gw k z n c hk h1 h2 hs=>omega
 |fn f ks hk=>
  cases ks with
  |nil=>exact .fn f [] (by simp)
  |cons k ks=>have:=hk k (by simp);omega
 |opt b d v hi h ih=>exact .opt b d v (by rw[hn] at hi;exact hi) ih
 |top v=>exact .top v
theorem Jq(tok:TOk P tb){fn:Func}{rs:List ResultVar}{r:D}(hrs:fn.results.toList=rs)(h:fK tb rs tm hp r)(hr:RS x tm hp a w)(LH:∀p,x.F0 p→p.block<x.B):
  ∃v,(results fn a.tmps).run P w=.ok v w∧tj x.B x.F0 w r v:=by
 obtain⟨g,hh,g8,hsz,ry,hB,hF,_⟩:=hr
 have Fz:∀p,x.F0 p→g.F p:=fun p hp=>hF p (LH p hp) hp
 unfold fK at h
 split at h
 ·rename_i q
  have hq:fn.results=#[q]:=by apply jY.1;simpa using hrs
  obtain⟨d,hk,hs⟩:=f7 tok h
  obtain⟨v,bP,cM⟩:=hs x.B g w a.tmps hh g8
  refine⟨v,?_,?_⟩
  ·unfold results
   rw[hq,Sem.run_bind,Array.mapM_one _ q w bP]
   simp
  ·rcases hk with⟨hp1,rfl⟩|⟨id,e,z,n,xs,rfl,fa,rfl⟩|⟨d2,hle,hp1,rfl⟩
   ·exact tj.of ((cM.xport hp1).less Fz) fun _ _ _ _=>D9 hp1
   ·obtain⟨_,us,hz,ho,htail⟩:=hh.tok id n (z,e) fa
    cases cM with
    |own _ _ _ _ _ hrepE hid ht=>
     have hv:=(ht n (z,e) fa).2.2 rfl
     subst hv
     refine⟨hz,⟨us,ho⟩,hrepE.less fun p hp=>?_⟩
     rcases hp with hp|⟨b,h1,h2,h3⟩
     ·exact Fz p hp
     ·exact (htail b h1).1 p h2 h3
   ·exact tj.of (((cM.le hle).exportP hp1).less Fz) fun _ _ _ _ e=>by rw[e] at hp1;cases hp1
 ·rename_i q q'
  have hq:fn.results=#[q,q']:=by apply jY.1;simpa using hrs
  obtain⟨d,hk,hs⟩:=f7 tok h
  obtain⟨v,bP,cM⟩:=hs x.B g w a.tmps hh g8
  obtain⟨d',yh,L8⟩:=f7 tok hk
  obtain⟨v',AT,qp⟩:=L8 x.B g w a.tmps hh g8
  refine⟨.tuple #[v,v'],?_,?_⟩
  ·unfold results
   rw[hq,Sem.run_bind,Array.mapM_two _ q q' w bP AT]
   simp
  ·rcases yh with⟨⟨hp1,bK⟩,rfl⟩|⟨e,e',zM,wd,⟨hp1,bK⟩,rfl⟩
   ·exact tj.of (kU.tu (vs:=[v,v']) (Pw.cons ((cM.xport hp1).less Fz) (Pw.cons ((qp.xport bK).less Fz) Pw.nil))) (fun _ _ _ _ h=>by cases h)
   ·exact tj.of (kU.tu (vs:=[v,v']) (Pw.cons (((cM.le zM).exportP hp1).less Fz) (Pw.cons (((qp.le wd).exportP bK).less Fz) Pw.nil))) (fun _ _ _ _ h=>by cases h)
 ·rename_i q q' H7
  have hq:fn.results=#[q,q',H7]:=by apply jY.1;simpa using hrs
  obtain⟨d,hk,hs⟩:=f7 tok h
  obtain⟨v,bP,cM⟩:=hs x.B g w a.tmps hh g8
  obtain⟨d',tJ,L8⟩:=f7 tok hk
  obtain⟨v',AT,qp⟩:=L8 x.B g w a.tmps hh g8
  obtain⟨Mg,yh,hs''⟩:=f7 tok tJ
  obtain⟨v'',Io,En⟩:=hs'' x.B g w a.tmps hh g8
  refine⟨.tuple #[v,v',v''],?_,?_⟩
  ·unfold results
   rw[hq,Sem.run_bind,Array.mapM_three _ q q' H7 w bP AT Io]
   simp
  ·rcases yh with⟨⟨hp1,bK,hp3⟩,rfl⟩|⟨e,e',e'',zM,wd,Lx,⟨hp1,bK,hp3⟩,rfl⟩
   ·exact tj.of (kU.tu (vs:=[v,v',v'']) (Pw.cons ((cM.xport hp1).less Fz) (Pw.cons ((qp.xport bK).less Fz) (Pw.cons ((En.xport hp3).less Fz) Pw.nil)))) (fun _ _ _ _ h=>by cases h)
   ·exact tj.of (kU.tu (vs:=[v,v',v'']) (Pw.cons (((cM.le zM).exportP hp1).less Fz) (Pw.cons (((qp.le wd).exportP bK).less Fz) (Pw.cons (((En.le Lx).exportP hp3).less Fz) Pw.nil)))) (fun _ _ _ _ h=>by cases h)
 ·have hq:fn.results=#[]:=by apply jY.1;simpa using hrs
  subst h
  refine⟨.tuple #[],?_,tj.of (kU.tu (vs:=[]) Pw.nil) (fun _ _ _ _ h=>by cases h)⟩
  unfold results
  rw[hq,Sem.run_bind]
  simp
 ·cases h
theorem aB.of (tok : TOk P tb) {f : FuncId} {fn : Func} {c : Code} {ds : List D} {r : D} {rs : List ResultVar} (hf : P.funcs[f]? = some fn) (hb : fn.body = some c) (rO : (fn.name == "runtime.NumGoroutine") = false) (hN : ds.length ≤ fn.ntmps) (hrs : fn.results.toList = rs)
  (h:∀x:Cx,x.N=fn.ntmps→x.hp0=⟨[],[],0⟩→AW P x c (eg 0 ds) ⟨[],[],0⟩ fun ex tm hp=>match ex with| .normal| .ret=>fK tb rs tm hp r|_=>False):aB P f ds r:=by
 subst hrs
 refine⟨⟨fn,hf,rO,by rw[hb];rfl⟩,fun w F vs hF hsz uj=>?_⟩
 refine calls_of_wp hf hb ?_
 have hrs:RS ⟨w.heap.size,w,F,fn.ntmps,⟨[],[],0⟩,⟨fun _=>0,fun _=>default,F⟩,[]⟩ (eg 0 ds) ⟨[],[],0⟩ {tmps:=vs++Array.replicate (fn.ntmps - vs.size) undef,defers:=[]} w:=by
  refine⟨⟨fun _=>0,fun _=>default,F⟩,⟨fun k ds h=>by simp at h,fun _ _ _ _ h=>by simp at h,fun _ _ _ h=>by simp at h,fun _ _ _ _ _ h=>by simp at h,aL _,hF⟩,fun t d ht=>?_,by simp;omega,rfl,Below.refl _ _,fun _ _ h=>h,bO.refl _ _ _⟩
  obtain⟨_,h2⟩:=nU ht
  have bI:t<ds.length:=by
   rw[BG] at h2
   rcases ck t ds.length with hh|hh
   ·exact hh
   ·rw[kw hh] at h2;cases h2
  have hv:vs[t]? =some vs[t]:=ml (by omega)
  have:=uj t d vs[t] (by simpa using h2) hv
  have he:(vs++Array.replicate (fn.ntmps - vs.size) undef).getD t undef=vs[t]:=by
   rw[cP,yC (by omega),hv];rfl
  rw[he]
  exact this
 refine wp_mono (h ⟨w.heap.size,w,F,fn.ntmps,⟨[],[],0⟩,⟨fun _=>0,fun _=>default,F⟩,[]⟩ rfl rfl _ _ hrs) ?_
 rintro ex a' w' ⟨tm',hp',h1,h2⟩
 have fin:fK tb fn.results.toList tm' hp' r→a'.defers=[]∧∃v,(results fn a'.tmps).run P w'=.ok v w'∧∃v',Ending.returned v=.returned v'∧tj w.heap.size F w' r v'∧Below w.heap.size w w':=by
  intro h2
  obtain⟨v,bP,lT⟩:=Jq tok rfl h2 h1 hF
  obtain⟨g,_,_,_,ry,hB,_⟩:=h1
  exact⟨ry,v,bP,v,rfl,lT,hB⟩
 cases ex with
 |normal=>exact fin h2
 |ret=>exact fin h2
 |_=>cases h2
def v4(tb:TypeId→Option TyE)(rs:List ResultVar)(tm:List (Nat×D))(hp:Hp)(r:D):Prop:=
 match rs with
 |[q]=>pq tb tm hp q fun d=>r=d
 |[q,q']=>pq tb tm hp q fun d=>pq tb tm hp q' fun d'=>r=.tu [d,d']
 |[q,q',H7]=>pq tb tm hp q fun d=>pq tb tm hp q' fun d'=>pq tb tm hp H7 fun Mg=>r=.tu [d,d',Mg]
 |[]=>r=.tu []
 |_=>False
theorem sR(tok:TOk P tb){fn:Func}{rs:List ResultVar}{r:D}(hrs:fn.results.toList=rs)(h:v4 tb rs tm hp r){g:Gh}(hh:HR x.B hp g w)(g8:∀t d,tm.lookup t=some d→aN hp g w d (a.tmps.getD t undef)):
  ∃v,(results fn a.tmps).run P w=.ok v w∧aN hp g w r v:=by
 unfold v4 at h
 split at h
 ·rename_i q
  have hq:fn.results=#[q]:=by apply jY.1;simpa using hrs
  obtain⟨d,rfl,hs⟩:=f7 tok h
  obtain⟨v,bP,cM⟩:=hs x.B g w a.tmps hh g8
  refine⟨v,?_,cM⟩
  unfold results
  rw[hq,Sem.run_bind,Array.mapM_one _ q w bP]
  simp
 ·rename_i q q'
  have hq:fn.results=#[q,q']:=by apply jY.1;simpa using hrs
  obtain⟨d,hk,hs⟩:=f7 tok h
  obtain⟨v,bP,cM⟩:=hs x.B g w a.tmps hh g8
  obtain⟨d',rfl,L8⟩:=f7 tok hk
  obtain⟨v',AT,qp⟩:=L8 x.B g w a.tmps hh g8
  have uD:Pw (aN hp g w) [d,d'] [v,v']:=Pw.cons cM (Pw.cons qp Pw.nil)
  refine⟨.tuple #[v,v'],?_,.tu _ _ rfl fun j d u hd hu=>uD.2 j d u hd (by simpa using hu)⟩
  unfold results
  rw[hq,Sem.run_bind,Array.mapM_two _ q q' w bP AT]
  simp
 ·rename_i q q' H7
  have hq:fn.results=#[q,q',H7]:=by apply jY.1;simpa using hrs
  obtain⟨d,hk,hs⟩:=f7 tok h
  obtain⟨v,bP,cM⟩:=hs x.B g w a.tmps hh g8
  obtain⟨d',tJ,L8⟩:=f7 tok hk
  obtain⟨v',AT,qp⟩:=L8 x.B g w a.tmps hh g8
  obtain⟨Mg,rfl,hs''⟩:=f7 tok tJ
  obtain⟨v'',Io,En⟩:=hs'' x.B g w a.tmps hh g8
  have uD:Pw (aN hp g w) [d,d',Mg] [v,v',v'']:=Pw.cons cM (Pw.cons qp (Pw.cons En Pw.nil))
  refine⟨.tuple #[v,v',v''],?_,.tu _ _ rfl fun j d u hd hu=>uD.2 j d u hd (by simpa using hu)⟩
  unfold results
  rw[hq,Sem.run_bind,Array.mapM_three _ q q' H7 w bP AT Io]
  simp
 ·have hq:fn.results=#[]:=by apply jY.1;simpa using hrs
  subst h
  refine⟨.tuple #[],?_,.tu _ _ rfl fun j d u hd hu=>by simp at hd⟩
  unfold results
  rw[hq,Sem.run_bind]
  simp
 ·cases h
structure eZ(hp:Hp):Prop where
 var:∀k ds,hp.vars.lookup k=some ds→k<hp.next∧ds.all (D.idsC hp.next)=true
 tok:∀id e,hp.live.lookup id=some e→id<hp.next
theorem aN.cell_ids {d:D}{v:Value}{hp:Hp}{g:Gh}(h:aN hp g w d v)(hv:v.oneCell'=true):d.idsC hp.next=true:=by
 cases h with
 |e x v h=>rfl
 |own id z n xs v h hid ht=>exact cV hid
 |fu z n xs A h=>rfl
 |ag ds cs hl h1 hr=>cases hv
 |tu ds cs hl hr=>cases hv
 |fp xs off ad hb hc=>rfl
 |pt k off hk=>exact cV hk
 |ow k off z n c hk h1 h2=>exact cV hk
 |gw k z n c hk h1 h2 hs=>exact cV hk
 |fn f ks hk=>exact bV.2 fun k h=>cV (hk k h)
 |opt b d v hi h=>exact hi
 |top v=>rfl
theorem HR.ok {B:Nat}{hp:Hp}{g:Gh}(h:HR B hp g w):eZ hp:=by
 refine⟨fun k ds hk=>?_,fun id e he=>(h.tok id e.1 e.2 he).1⟩
 obtain⟨h1,_,_,cs,ty,_,h2,h3⟩:=h.var k ds hk
 refine⟨h1,bV.2 fun d hd=>?_⟩
 obtain⟨j,hj⟩:=zq hd
 have bI:j<cs.size:=by
  have:=(pL.1 hj).1
  omega
 obtain⟨h4,h5⟩:=h3 j cs[j] (ml bI)
 exact (h5 d hj).cell_ids (h4 (pL.1 hj).1)
theorem HC.of (tok : TOk P tb) {f : FuncId} {fn : Func} {c : Code} {ds : List D} {hp hp' : Hp} {r : D} {rs : List ResultVar} (hf : P.funcs[f]? = some fn) (hb : fn.body = some c) (rO : (fn.name == "runtime.NumGoroutine") = false) (hN : ds.length ≤ fn.ntmps) (hrs : fn.results.toList = rs)
  (h:∀x:Cx,x.N=fn.ntmps→x.hp0=hp→eZ hp→AW P x c (eg 0 ds) hp fun ex tm bK=>match ex with| .normal| .ret=>∃tm',Wk x tm bK tm' hp'∧v4 tb rs tm' hp' r|_=>False):HC P f ds hp r hp':=by
 subst hrs
 refine⟨⟨fn,hf,rO,by rw[hb];rfl⟩,fun B g w vs hr hsz uj=>?_⟩
 refine calls_of_wp hf hb ?_
 have AS:RS ⟨B,w,g.F,fn.ntmps,hp,g,[]⟩ (eg 0 ds) hp {tmps:=vs++Array.replicate (fn.ntmps - vs.size) undef,defers:=[]} w:=by
  refine⟨g,hr,fun t d ht=>?_,by simp;omega,rfl,Below.refl _ _,fun _ _ h=>h,bO.refl _ _ _⟩
  obtain⟨_,h2⟩:=nU ht
  have bI:t<ds.length:=by
   rw[BG] at h2
   rcases ck t ds.length with hh|hh
   ·exact hh
   ·rw[kw hh] at h2;cases h2
  have hv:vs[t]? =some vs[t]:=ml (by omega)
  have:=uj t d vs[t] (by simpa using h2) hv
  have he:(vs++Array.replicate (fn.ntmps - vs.size) undef).getD t undef=vs[t]:=by
   rw[cP,yC (by omega),hv];rfl
  rw[he]
  exact this
 refine wp_mono (h ⟨B,w,g.F,fn.ntmps,hp,g,[]⟩ rfl rfl hr.ok _ _ AS) ?_
 rintro ex a' w' ⟨tm',bK,h1,h2⟩
 have fin:(∃La,Wk ⟨B,w,g.F,fn.ntmps,hp,g,[]⟩ tm' bK La hp'∧v4 tb fn.results.toList La hp' r)→a'.defers=[]∧∃v,(results fn a'.tmps).run P w'=.ok v w'∧∃v' g',Ending.returned v=.returned v'∧HR B hp' g' w'∧bO hp g w hp' g' w'∧aN hp' g' w' r v'∧Below B w w'∧∀p:Addr,p.block<B→g.F p→g'.F p:=by
  rintro⟨La,L5,Ip⟩
  obtain⟨g',po,g8,_,ry,hB,hF,hM⟩:=L5 a' w' h1
  obtain⟨v,bP,lT⟩:=sR (x:=⟨B,w,g.F,fn.ntmps,hp,g,[]⟩) tok rfl Ip po g8
  exact⟨ry,v,bP,v,g',rfl,po,hM,lT,hB,hF⟩
 cases ex with
 |normal=>exact fin h2
 |ret=>exact fin h2
 |_=>cases h2
end
end
section
def yx(k:D→Hp→Prop)(hp:Hp)(d:D):Prop:=k d hp
def atLit(k:D→Hp→Prop)(hp:Hp)(v:Value):Prop:=k (.e (.lit v)) hp
def atInt(k:D→Hp→Prop)(hp:Hp)(n:Int):Prop:=k (.e (.lit (.int .i64 n))) hp
def exO(o:Option D)(k:D→Prop):Prop:=∃d,o=some d∧k d
theorem OB(d:D)(k:D→Prop):exO (some d) k=k d:=by
 unfold exO;exact propext ⟨fun⟨_,h,hk⟩=>by injection h with h;rw[h];exact hk,fun h=>⟨d,rfl,h⟩⟩
section
variable {P:Program} {tb:TypeId→Option TyE} {dr:Bool} {ops:Array Oper} {os:List Oper} {tm:List (Nat×D)} {hp:Hp} {K:List (Nat×D)→Hp→Prop} {dst:Option Tmp} {ty:TypeId} {pos:String} {af:Array Edge}
def Pa(tb:TypeId→Option TyE)(t:TypeId)(hp:Hp)(k:D→Hp→Prop):Prop:=match tb t with|some i=>k (.pt hp.next 0) (hp.var (i.zero.map fun v=>.e (.lit v)))|none=>False
def boxV(d:D)(hp:Hp)(k:D→Hp→Prop):Prop:=match d.cells with|some cs=>k (.pt hp.next 0) (hp.var cs)|none=>False
def G1(d:D)(i:Nat)(k:D→Prop):Prop:=match d with| .tu ds=>exO (ds[i]?) k|_=>False
end
theorem qO {z:Int}(h1:-9223372036854775808≤z)(h2:z≤9223372036854775807):i64.wrap z=z:=by
 rw[IntKind.wrap_i64];omega
section
variable {P:Program} {tb:TypeId→Option TyE} {hp:Hp} {k:D→Hp→Prop} {kd:D→Prop} {kv:Value→Prop} {ki:Int→Prop}
theorem nC(t:TypeId)(j off:Nat):AL tb t (.pt j off) hp kd=(match tb t,hp.vars.lookup j with
  |some i,some ds=>j<hp.next∧match i.ty.agg with
   |true=>off+i.size≤ds.length∧kd (.ag ((ds.drop off).take i.size))
   |false=>exO (ds[off]?) kd
  |_,_=>False):=bz rfl rfl
theorem Gw(t:TypeId)(xs:List E)(off:Nat):AL tb t (.fp xs off) hp kd=(match tb t with
  |some i=>match i.ty.agg with
   |true=>off+i.size≤xs.length∧kd (.ag ((List.range i.size).map fun j=>.e (xs.getD (off+j) .any)))
   |false=>off<xs.length∧kd (.e (xs.getD off .any))
  |_=>False):=bz rfl rfl
theorem xG(t:TypeId)(j off:Nat)(x:D):Ar tb t (.pt j off) x hp k=(match tb t,hp.vars.lookup j,x.cells with
  |some i,some ds,some cs=>cs.length=i.size∧off+i.size≤ds.length∧k .top (hp.set j (ds.take off++cs++ds.drop (off+cs.length)))
  |_,_,_=>False):=bz rfl rfl
theorem O8(t:TypeId):LQ tb t (.e (.lit (.slice none 0 0))) hp k=(match tb t with
  |some i=>match i.ty with
   | .slice e=>match tb e with
    |some j=>0<j.size∧k (.own hp.next j.size 0 []) (hp.tok 0 (j.size,e))
    |none=>k (.e (.lit (.slice none 0 0))) hp
   |_=>k (.e (.lit (.slice none 0 0))) hp
  |none=>k (.e (.lit (.slice none 0 0))) hp):=bz rfl rfl
theorem pickV_t(a b:D):Ge (.e (.lit (.bool true))) a b kd=kd a:=bz rfl rfl
theorem pickV_f(a b:D):Ge (.e (.lit (.bool false))) a b kd=kd b:=bz rfl rfl
theorem LS(t:TypeId):Pa tb t hp k=(match tb t with|some i=>k (.pt hp.next 0) (hp.var (i.zero.map fun v=>.e (.lit v)))|none=>False):=bz rfl rfl
theorem boxV_eq(d:D):boxV d hp k=(match d.cells with|some cs=>k (.pt hp.next 0) (hp.var cs)|none=>False):=bz rfl rfl
theorem G0(ds:List D)(i:Nat):G1 (.tu ds) i kd=exO (ds[i]?) kd:=bz rfl rfl
theorem bin_shl(t:TypeId)(j j':IntKind)(a b:Int):ph P .shl t (.e (.lit (.int j a))) (.e (.lit (.int j' b))) kv=(0≤b∧kv (.int j (j.wrap (a*2 ^ min b.toNat j.bits)))):=bz rfl rfl
theorem bin_shr(t:TypeId)(j j':IntKind)(a b:Int):ph P .shr t (.e (.lit (.int j a))) (.e (.lit (.int j' b))) kv=(0≤b∧kv (.int j (a.fdiv (2 ^ min b.toNat j.bits)))):=bz rfl rfl
theorem bin_add(t:TypeId)(j j':IntKind)(a b:Int):ph P .add t (.e (.lit (.int j a))) (.e (.lit (.int j' b))) kv=(j=j'∧kv (.int j (j.wrap (a+b)))):=bz rfl rfl
theorem bin_sub(t:TypeId)(j j':IntKind)(a b:Int):ph P .sub t (.e (.lit (.int j a))) (.e (.lit (.int j' b))) kv=(j=j'∧kv (.int j (j.wrap (a - b)))):=bz rfl rfl
theorem bin_mul(t:TypeId)(j j':IntKind)(a b:Int):ph P .mul t (.e (.lit (.int j a))) (.e (.lit (.int j' b))) kv=(j=j'∧kv (.int j (j.wrap (a*b)))):=bz rfl rfl
theorem bin_quo(t:TypeId)(j j':IntKind)(a b:Int):ph P .quo t (.e (.lit (.int j a))) (.e (.lit (.int j' b))) kv=(j=j'∧b≠0∧kv (.int j (j.wrap (a.tdiv b)))):=bz rfl rfl
theorem bin_rem(t:TypeId)(j j':IntKind)(a b:Int):ph P .rem t (.e (.lit (.int j a))) (.e (.lit (.int j' b))) kv=(j=j'∧b≠0∧kv (.int j (a.tmod b))):=bz rfl rfl
theorem bin_and(t:TypeId)(j j':IntKind)(a b:Int):ph P .and t (.e (.lit (.int j a))) (.e (.lit (.int j' b))) kv=(j=j'∧kv (.int j (j.wrap (BitVec.ofInt j.bits a &&&BitVec.ofInt j.bits b).toNat))):=bz rfl rfl
theorem bin_or(t:TypeId)(j j':IntKind)(a b:Int):ph P .or t (.e (.lit (.int j a))) (.e (.lit (.int j' b))) kv=(j=j'∧kv (.int j (j.wrap (BitVec.ofInt j.bits a |||BitVec.ofInt j.bits b).toNat))):=bz rfl rfl
theorem bin_eql(t:TypeId)(j j':IntKind)(a b:Int):ph P .eql t (.e (.lit (.int j a))) (.e (.lit (.int j' b))) kv=(j=j'∧kv (.bool (decide (a=b)))):=bz rfl rfl
theorem bin_neq(t:TypeId)(j j':IntKind)(a b:Int):ph P .neq t (.e (.lit (.int j a))) (.e (.lit (.int j' b))) kv=(j=j'∧kv (.bool (decide (a≠b)))):=bz rfl rfl
theorem bin_lss(t:TypeId)(j j':IntKind)(a b:Int):ph P .lss t (.e (.lit (.int j a))) (.e (.lit (.int j' b))) kv=(j=j'∧kv (.bool (decide (a<b)))):=bz rfl rfl
theorem bin_leq(t:TypeId)(j j':IntKind)(a b:Int):ph P .leq t (.e (.lit (.int j a))) (.e (.lit (.int j' b))) kv=(j=j'∧kv (.bool (decide (a≤b)))):=bz rfl rfl
theorem bin_gtr(t:TypeId)(j j':IntKind)(a b:Int):ph P .gtr t (.e (.lit (.int j a))) (.e (.lit (.int j' b))) kv=(j=j'∧kv (.bool (decide (b<a)))):=bz rfl rfl
theorem bin_geq(t:TypeId)(j j':IntKind)(a b:Int):ph P .geq t (.e (.lit (.int j a))) (.e (.lit (.int j' b))) kv=(j=j'∧kv (.bool (decide (b≤a)))):=bz rfl rfl
theorem O0(t:TypeId)(a b:Bool):ph P .eql t (.e (.lit (.bool a))) (.e (.lit (.bool b))) kv=(P.underlying t=some .bool∧kv (.bool (a == b))):=bz rfl rfl
theorem OZ(t:TypeId)(a b:Bool):ph P .neq t (.e (.lit (.bool a))) (.e (.lit (.bool b))) kv=(P.underlying t=some .bool∧kv (.bool (!(a == b)))):=bz rfl rfl
theorem nilV_pt(j off:Nat):nilV (.pt j off) kd=kd (.pt j off):=bz rfl rfl
theorem un_not(t:Bool):unV .not (.e (.lit (.bool t))) kv=kv (.bool !t):=bz rfl rfl
theorem un_neg(j:IntKind)(n:Int):unV .neg (.e (.lit (.int j n))) kv=kv (.int j (j.wrap (0 - n))):=rfl
theorem tO(s:TypeId)(f:Nat)(kf:Nat→Nat→Bool→Prop):pf tb s f kf=(match tb s with
  |some i=>match i.ty with
   | .struct fs=>match fs[f]? with
    |some (off,t)=>match tb t with
     |some j=>kf off j.size j.ty.agg
     |none=>False
    |none=>False
   |_=>False
  |none=>False):=bz rfl rfl
theorem CM(s:TypeId)(f j off:Nat):oC tb s f (.pt j off) kd=pf tb s f fun o z _=>z≠0∧kd (.pt j (off+o)):=bz rfl rfl
theorem CN(s:TypeId)(f:Nat)(xs:List E)(off:Nat):oC tb s f (.fp xs off) kd=pf tb s f fun o z _=>z≠0∧kd (.fp xs (off+o)):=bz rfl rfl
theorem LK(s:TypeId)(f:Nat)(ds:List D):Bb tb s f (.ag ds) kd=pf tb s f fun o z g=>match g with
   |true=>o+z≤ds.length∧kd (.ag ((ds.drop o).take z))
   |false=>exO (ds[o]?) kd:=bz rfl rfl
theorem rj(t:TypeId)(d:D)(j:IntKind)(x:Int):ox tb t d (.e (.lit (.int j x))) kd=(match tb t with
  |some ti=>match ti.ty with
   | .slice e=>match tb e with
    |some j=>match d.asSl j.size with
     |some (n,xs)=>(0≤x∧x<(n:Int))∧kd (.fp xs (x.toNat*j.size))
     |none=>match d with
      | .ow v off z n=>z=j.size∧(0≤x∧x<(n:Int))∧kd (.pt v (off+x.toNat*j.size))
      |_=>False
    |none=>False
   | .arr n e=>match tb e,d with
    |some j,.pt v off=>(0≤x∧x<(n:Int))∧kd (.pt v (off+x.toNat*j.size))
    |some j,.fp xs off=>(0≤x∧x<(n:Int))∧kd (.fp xs (off+x.toNat*j.size))
    |_,_=>False
   |_=>False
  |none=>False):=by
 unfold ox
 cases tb t <;> rfl
theorem Lr(t:TypeId)(d:D)(j:IntKind)(x:Int):xX tb t d (.e (.lit (.int j x))) kd=(match tb t with
  |some ti=>match ti.ty,d with
   | .str,.e (.lit (.string s))=>(0≤x∧x<(s.size:Int))∧kd (.e (.lit (.int .u8 ((s.data.toList.getD x.toNat 0).toNat:Int))))
   | .arr n e,.ag ds=>match tb e with
    |some j=>(0≤x∧x<(n:Int))∧match j.ty.agg with
     |true=>x.toNat*j.size+j.size≤ds.length∧kd (.ag ((ds.drop (x.toNat*j.size)).take j.size))
     |false=>∃d,ds[x.toNat*j.size]? =some d∧kd d
    |none=>False
   |_,_=>False
  |none=>False):=by
 unfold xX
 cases tb t <;> rfl
theorem zp(t:TypeId)(d:D):jD tb .len [t] [d] hp k=Nk tb t d (atInt k hp):=bz rfl rfl
theorem Ha(ts:List TypeId)(j j':IntKind)(x y:Int):jD tb .min ts [.e (.lit (.int j x)),.e (.lit (.int j' y))] hp k=k (.e (.lit (.int j (min x y)))) hp:=by
 unfold jD
 split <;> first|rfl|simp_all
theorem Hb(ts:List TypeId)(j j':IntKind)(x y:Int):jD tb .max ts [.e (.lit (.int j x)),.e (.lit (.int j' y))] hp k=k (.e (.lit (.int j (max x y)))) hp:=by
 unfold jD
 split <;> first|rfl|simp_all
theorem Bn(t t':TypeId)(s x:D):jD tb .append [t,t'] [s,x] hp k=qY tb t t' s x hp k:=bz rfl rfl
def appOwn(j:TyE)(e:TypeId)(id z n:Nat)(xs:List E)(hp:Hp)(k:D→Hp→Prop)(m:Nat)(ys:List E):Prop:=z=j.size∧hp.live.lookup id=some (n,j.size,e)∧(n+m)*max 1 j.bytes≤140737488355328∧k (.own id j.size (n+m) (xs++ys)) (hp.app id (n+m) (j.size,e))
theorem Hi(t t':TypeId)(id z n:Nat)(xs:List E)(x:D):qY tb t t' (.own id z n xs) x hp k=(match tb t with
  |some ti=>match ti.ty with
   | .slice e=>match tb e with
    |some j=>0<j.size∧(x.strOf=none→t'=t)∧(x.strOf≠none→j.bytes=1∧j.zero=[.int .u8 0]∧j.ty.agg=false)∧wz tb t' j.size x (appOwn j e id z n xs hp k)
    |none=>False
   |_=>False
  |none=>False):=bz rfl rfl
theorem M7(t:TypeId)(z:Nat)(x:D)(kn:Nat→List E→Prop):wz tb t z x kn=(match tb t with
  |some i=>match i.ty,x.strOf with
   | .str,some s=>z=1∧kn s.size (s.data.toList.map fun b=>.lit (bv b))
   | .slice _,none=>match x.asSl z with
    |some (m,ys)=>kn m ys
    |none=>False
   |_,_=>False
  |none=>False):=rfl
theorem J5(t:TypeId)(d:D):Nk tb t d ki=(match tb t with
  |some ti=>match ti.ty with
   | .slice e=>match tb e with
    |some j=>match d.asSl j.size with
     |some (n,_)=>ki n
     |none=>match d with
      | .ow _ _ _ n=>ki n
      |_=>False
    |none=>False
   | .str=>match d with
    | .e (.lit (.string s))=>ki s.size
    |_=>False
   | .arr n _=>ki n
   |_=>False
  |none=>False):=bz rfl rfl
theorem uq(t:TypeId)(ps:List (Nat×D)):Bo tb t ps kd=(match tb t,kL ps with
  |some i,some qs=>match i.ty with
   | .struct fs=>(∀f∈fs,(tb f.2).isSome=true)∧match fW (pw tb fs) (i.zero.map fun v=>D.e (.lit v)) qs with
    |some ds=>kd (.ag ds)
    |none=>False
   | .arr _ e=>match tb e with
    |some j=>match fW (fun n=>some (n*j.size,j.size)) (i.zero.map fun v=>D.e (.lit v)) qs with
     |some ds=>kd (.ag ds)
     |none=>False
    |none=>False
   |_=>False
  |_,_=>False):=bz rfl rfl
theorem AW.condS {x:Cx}{Q:Exit→List (Nat×D)→Hp→Prop}{tm:List (Nat×D)}{c:Operand}{c1 c2:Code}{b:Bool}(hc:evD tm c=.e (.lit (.bool b)))(ht:b=true→AW P x c1 tm hp Q)(hf:b=false→AW P x c2 tm hp Q):AW P x (.cond c c1 c2) tm hp Q:=by
 refine AW.cond hc ?_
 cases b
 ·exact hf rfl
 ·exact ht rfl
end
end
section
inductive Bef (ops:Array Oper):Nat→Nat→Prop
 |edge (i:Nat) (o:Oper) (e:Edge) (hi:ops[i]? =some o) (he:e∈o.after) (hb:Region.binds .any e=true):Bef ops e.on i
 |trans (j i:Nat) (o:Oper) (e:Edge) (hi:ops[i]? =some o) (he:e∈o.after) (hb:Region.binds .any e=true) (h:Bef ops j e.on):Bef ops j i
def fz {α:Type}(n:Nat)(k:Nat→α):α:=match n with
 |0=>k 0
 |m+1=>k (m+1)
theorem Km {α:Type}{n:Nat}{k:Nat→α}:fz n k=k n:=by cases n <;> rfl
def look:List (Nat×Nat)→Nat→Nat
 |[],_=>0
 |(j,b)::m,k=>if Nat.beq j k then b else look m k
def xR(m:List (Nat×Nat))(l:List Edge)(s:Nat):Nat:=match l with
 |[]=>s
 |e::l=>if Region.binds .any e then fz (s |||2 ^ e.on |||look m e.on) fun s=>xR m l s else xR m l s
theorem xQ(m:List (Nat×Nat)):∀(l:List Edge) (s j:Nat),(xR m l s).testBit j=true→
  s.testBit j=true∨∃e∈l,Region.binds .any e=true∧(e.on=j∨(look m e.on).testBit j=true)
 |[],s,j,h=>.inl h
 |e::l,s,j,h=>by
  unfold xR at h
  split at h
  ·rename_i hb
   rw[Km] at h
   rcases xQ m l _ j h with h1|⟨e',h1,h2⟩
   ·rw[E1,E1] at h1
    simp only[Bool.or_eq_true] at h1
    rcases h1 with (h1|h1)|h1
    ·exact .inl h1
    ·rw[Nat.testBit_two_pow] at h1
     exact .inr ⟨e,pk ..,hb,.inl (by simpa using h1)⟩
    ·exact .inr ⟨e,pk ..,hb,.inr h1⟩
   ·exact .inr ⟨e',nV _ h1,h2⟩
  ·rcases xQ m l _ j h with h1|⟨e',h1,h2⟩
   ·exact .inl h1
   ·exact .inr ⟨e',nV _ h1,h2⟩
theorem Dd {ops:Array Oper}:∀{m:List (Nat×Nat)},(∀p∈m,∀j,p.2.testBit j=true→Bef ops j p.1)→∀k j,(look m k).testBit j=true→Bef ops j k
 |[],_,k,j,h=>by simp[look] at h
 |(i,b)::m,hm,k,j,h=>by
  unfold look at h
  split at h
  ·rename_i he
   obtain rfl:i=k:=vS he
   exact hm _ (pk ..) j h
  ·exact Dd (fun p hp=>hm p (nV _ hp)) k j h
def mM(ops:Array Oper)(o:Oper):List Tmp:=
 (o.op.operands.toList.filterMap fun| .tmp t=>some t|_=>none)++(match o.guard with
  |some (j,_)=>((ops[j]?).bind (·.dst)).toList
  |none=>[])
def subB(a b:Nat):Bool:=Nat.beq (a &&&b) a
theorem xF {a b j:Nat}(h:subB a b=true)(hj:a.testBit j=true):b.testBit j=true:=by
 have h:=vS h
 rw[←h,Nat.testBit_and] at hj
 simp only[eC] at hj
 exact hj.2
def uS(c:Bool)(s i:Nat):Nat:=if c then s |||2 ^ i else s
theorem xS {c:Bool}{s i j:Nat}(h:s.testBit j=true):(uS c s i).testBit j=true:=by
 unfold uS;split
 ·rw[E1,h];rfl
 ·exact h
theorem xT {s i:Nat}:(uS true s i).testBit i=true:=by
 unfold uS;rw[ay rfl,E1,Nat.testBit_two_pow];simp
def CY(s:List (Tmp×Nat))(i:Nat):List Tmp→List (Tmp×Nat)
 |[]=>s
 |t::ts=>CY ((t,i)::s) i ts
theorem xB {i:Nat}:∀{ts:List Tmp} {s:List (Tmp×Nat)} {p:Tmp×Nat},p∈s→p∈CY s i ts
 |[],_,_,h=>h
 |_::ts,_,_,h=>xB (ts:=ts) (nV _ h)
theorem CX {i:Nat}:∀{ts:List Tmp} {s:List (Tmp×Nat)} {t:Nat},t∈ts→(t,i)∈CY s i ts
 |t'::ts,s,t,h=>by
  show (t,i)∈CY ((t',i)::s) i ts
  rcases m9.1 h with rfl|h
  ·exact xB (pk ..)
  ·exact CX h
def Oy(d:Option Tmp)(b:Nat)(u pr:List (Tmp×Nat)):Bool:=match d with
 |none=>true
 |some t=>(u.all fun p=>!Nat.beq p.1 t||b.testBit p.2)&&pr.all fun p=>!Nat.beq p.1 t
def OR(d:Option Tmp)(i:Nat)(pr:List (Tmp×Nat)):List (Tmp×Nat):=match d with
 |none=>pr
 |some t=>(t,i)::pr
def fzl {α:Type}:List Nat→(List Nat→α)→α
 |[],k=>k []
 |t::ts,k=>fz t fun t=>fzl ts fun ts=>k (t::ts)
theorem Ox {α:Type}:∀{l:List Nat} {k:List Nat→α},fzl l k=k l
 |[],_=>rfl
 |_::_,_=>by rw[fzl,Km,Ox]
def Ms {α:Type}(u:List (Tmp×Nat))(i:Nat):List Tmp→(List (Tmp×Nat)→α)→α
 |[],k=>k u
 |t::ts,k=>Ms ((t,i)::u) i ts k
theorem FU {α:Type}{i:Nat}:∀{ts:List Tmp} {u:List (Tmp×Nat)} {k:List (Tmp×Nat)→α},Ms u i ts k=k (CY u i ts)
 |[],_,_=>rfl
 |_::ts,_,_=>FU (ts:=ts)
def OQ {α:Type}(d:Option Tmp)(i:Nat)(pr:List (Tmp×Nat))(k:List (Tmp×Nat)→α):α:=match d with
 |none=>k pr
 |some t=>fz t fun t=>k ((t,i)::pr)
theorem OP {α:Type}{d:Option Tmp}{i:Nat}{pr:List (Tmp×Nat)}{k:List (Tmp×Nat)→α}:OQ d i pr k=k (OR d i pr):=by
 cases d with
 |none=>rfl
 |some t=>rw[OQ,Km];rfl
def ordG(tb:TypeId→Option TyE)(L:List FuncId)(ops:Array Oper):List Oper→Nat→List (Nat×Nat)→Nat→Nat→Nat→List (Tmp×Nat)→List (Tmp×Nat)→Bool
 |[],_,_,_,_,_,_,_=>true
 |o::os,i,m,lo,ld,vs,u,pr=>
  fz (xR m o.after.toList 0) fun b=>fzl (mM ops o) fun ts=>
  o.after.toList.all (fun e=>!Region.binds .any e||Nat.blt e.on i)&&
  (f9 tb L o.op||subB lo b)&&
  (!od o.op||subB vs b)&&
  (!ve tb L o.op||subB ld b)&&
  Oy o.dst b u pr&&
  ts.all (fun t=>pr.all fun p=>!Nat.beq p.1 t||b.testBit p.2)&&
  fz (uS (!f9 tb L o.op) lo i) fun lo=>fz (uS (od o.op) ld i) fun ld=>fz (uS (ve tb L o.op) vs i) fun vs=>fz (i+1) fun i'=>
  Ms u i ts fun u=>OQ o.dst i pr fun pr=>ordG tb L ops os i' ((i,b)::m) lo ld vs u pr
def uP(tb:TypeId→Option TyE)(L:List FuncId)(ops:Array Oper):Bool:=ordG tb L ops ops.toList 0 [] 0 0 0 [] []
structure OrdT(tb:TypeId→Option TyE)(L:List FuncId)(ops:Array Oper):Prop where
 low:∀(i:Nat) (o:Oper) (e:Edge),ops[i]? =some o→e∈o.after→Region.binds .any e=true→e.on<i
 dst:∀(i j:Nat) (o o':Oper) (t:Tmp),ops[i]? =some o→ops[j]? =some o'→o.dst=some t→o'.dst=some t→i=j
 data:∀(i j:Nat) (o o':Oper) (t:Tmp),ops[i]? =some o→ops[j]? =some o'→i≠j→t∈mM ops o→o'.dst=some t→(j<i∧Bef ops j i)∨(i<j∧Bef ops i j)
 loud:∀(i j:Nat) (o o':Oper),ops[i]? =some o→ops[j]? =some o'→i<j→f9 tb L o.op=false→f9 tb L o'.op=false→Bef ops i j
 vars:∀(i j:Nat) (o o':Oper),ops[i]? =some o→ops[j]? =some o'→i≠j→od o.op=true→ve tb L o'.op=true→(j<i∧Bef ops j i)∨(i<j∧Bef ops i j)
structure OrdP(tb:TypeId→Option TyE)(L:List FuncId)(ops:Array Oper)(j i:Nat)(o' o:Oper):Prop where
 dst:∀t,o'.dst=some t→o.dst≠some t
 fwd:∀t,t∈mM ops o→o'.dst=some t→Bef ops j i
 bwd:∀t,t∈mM ops o'→o.dst=some t→Bef ops j i
 loud:f9 tb L o.op=false→f9 tb L o'.op=false→Bef ops j i
 v1:od o.op=true→ve tb L o'.op=true→Bef ops j i
 v2:ve tb L o.op=true→od o'.op=true→Bef ops j i
structure OrdI(tb:TypeId→Option TyE)(L:List FuncId)(ops:Array Oper)(i:Nat)(m:List (Nat×Nat))(lo ld vs:Nat)(u pr:List (Tmp×Nat)):Prop where
 m:∀p∈m,∀j,p.2.testBit j=true→Bef ops j p.1
 lo:∀j o,j<i→ops[j]? =some o→f9 tb L o.op=false→lo.testBit j=true
 ld:∀j o,j<i→ops[j]? =some o→od o.op=true→ld.testBit j=true
 vs:∀j o,j<i→ops[j]? =some o→ve tb L o.op=true→vs.testBit j=true
 u:∀j o t,j<i→ops[j]? =some o→t∈mM ops o→(t,j)∈u
 pr:∀j o t,j<i→ops[j]? =some o→o.dst=some t→(t,j)∈pr
theorem C8 {tb:TypeId→Option TyE}{L:List FuncId}{ops:Array Oper}:∀(os:List Oper) (i:Nat) (m:List (Nat×Nat)) (lo ld vs:Nat) (u pr:List (Tmp×Nat)),ops.toList.drop i=os→OrdI tb L ops i m lo ld vs u pr→ordG tb L ops os i m lo ld vs u pr=true→
  ∀k o,i≤k→ops[k]? =some o→(∀e∈o.after,Region.binds .any e=true→e.on<k)∧∀j o',j<k→ops[j]? =some o'→OrdP tb L ops j k o' o
 |[],i,m,lo,ld,vs,u,pr,hd,_,_,k,o,hk,hok=>by
  have:ops.toList.length≤i:=List.drop_eq_nil_iff.1 hd
  have h2:k<ops.size:=(gD.1 hok).1
  simp at this
  omega
 |o::os,i,m,lo,ld,vs,u,pr,hd,hI,h,k,ok,hk,hok=>by
  have ho:ops[i]? =some o:=by
   have:(ops.toList.drop i)[0]? =some o:=by rw[hd];rfl
   rw[pM] at this
   simpa using this
  have Cc:ops.toList.drop (i+1)=os:=by
   rw[←pj,hd];rfl
  unfold ordG at h
  simp only[Km,Ox,FU,OP,eC] at h
  obtain⟨⟨⟨⟨⟨⟨h1,h2⟩,h3⟩,h4⟩,h5⟩,h6⟩,h7⟩:=h
  have hb:∀j,(xR m o.after.toList 0).testBit j=true→Bef ops j i:=by
   intro j hj
   rcases xQ m _ _ _ hj with h|⟨e,he,hbi,h⟩
   ·simp at h
   ·rcases h with rfl|h
    ·exact .edge _ o e ho (by simpa using he) hbi
    ·exact .trans j _ o e ho (by simpa using he) hbi (Dd hI.m _ _ h)
  rcases ck i k with hik|hik
  ·refine C8 os (i+1) _ _ _ _ _ _ Cc ?_ h7 k ok hik hok
   have split:∀{j:Nat} {oj:Oper} {Q:Nat→Oper→Prop},j<i+1→ops[j]? =some oj→(j<i→ops[j]? =some oj→Q j oj)→Q i o→Q j oj:=by
    intro j oj Q hj pT hold tf
    rcases ck j i with h|h
    ·exact hold h pT
    ·obtain rfl:j=i:=by omega
     obtain rfl:o=oj:=by rw[ho] at pT;injection pT
     exact tf
   refine⟨fun p hp=>?_,fun j oj hj pT=>?_,fun j oj hj pT=>?_,fun j oj hj pT=>?_,fun j oj t hj pT=>?_,fun j oj t hj pT=>?_⟩
   ·rcases m9.1 hp with rfl|hp
    ·exact hb
    ·exact hI.m p hp
   ·refine split (Q:=fun j oj=>f9 tb L oj.op=false→(uS (!f9 tb L o.op) lo i).testBit j=true) hj pT (fun hj pT hq=>xS (hI.lo j oj hj pT hq)) fun hq=>?_
    rw[hq];exact xT
   ·refine split (Q:=fun j oj=>od oj.op=true→(uS (od o.op) ld i).testBit j=true) hj pT (fun hj pT hq=>xS (hI.ld j oj hj pT hq)) fun hq=>?_
    rw[hq];exact xT
   ·refine split (Q:=fun j oj=>ve tb L oj.op=true→(uS (ve tb L o.op) vs i).testBit j=true) hj pT (fun hj pT hq=>xS (hI.vs j oj hj pT hq)) fun hq=>?_
    rw[hq];exact xT
   ·exact split (Q:=fun j oj=>t∈mM ops oj→(t,j)∈CY u i (mM ops o)) hj pT (fun hj pT hq=>xB (hI.u j oj t hj pT hq)) fun hq=>CX hq
   ·refine split (Q:=fun j oj=>oj.dst=some t→(t,j)∈OR o.dst i pr) hj pT (fun hj pT hq=>?_) fun hq=>?_
    ·have:=hI.pr j oj t hj pT hq
     unfold OR
     split
     ·exact this
     ·exact nV _ this
    ·rw[hq];exact pk ..
  ·obtain rfl:i=k:=by omega
   obtain rfl:o=ok:=by rw[ho] at hok;injection hok
   have fresh:∀t,o.dst=some t→(∀j,(t,j)∈u→Bef ops j i)∧∀p∈pr,p.1≠t:=by
    intro t ht
    rw[ht] at h5
    simp only[Oy,eC,vQ,bV] at h5
    refine⟨fun j hj=>?_,fun p hp e=>?_⟩
    ·have:=h5.1 _ hj
     simp only[E0,eo,Bool.false_or] at this
     exact hb j this
    have:=h5.2 p hp
    rw[e,E0] at this
    cases this
   refine⟨fun e he hbe=>?_,fun j o' hj pT=>⟨fun t ht Im=>?_,fun t ht Im=>?_,fun t ht Im=>?_,fun hq hq'=>?_,fun hl hv=>?_,fun hv hl=>?_⟩⟩
   ·have:=bV.1 h1 e (by simpa using he)
    rw[hbe] at this
    simpa[Nat.blt_eq] using this
   ·exact (fresh t Im).2 _ (hI.pr j o' t hj pT ht) rfl
   ·have:=bV.1 (bV.1 h6 t ht) _ (hI.pr j o' t hj pT Im)
    simp only[E0,eo,Bool.false_or] at this
    exact hb j this
   ·exact (fresh t Im).1 j (hI.u j o' t hj pT ht)
   ·rw[hq] at h2
    exact hb j (xF (by simpa using h2) (hI.lo j o' hj pT hq'))
   ·rw[hl] at h3
    exact hb j (xF (by simpa using h3) (hI.vs j o' hj pT hv))
   ·rw[hv] at h4
    exact hb j (xF (by simpa using h4) (hI.ld j o' hj pT hl))
theorem Az {tb:TypeId→Option TyE}{L:List FuncId}{ops:Array Oper}(h:uP tb L ops=true):OrdT tb L ops:=by
 have key:=C8 (tb:=tb) (L:=L) (ops:=ops) ops.toList 0 [] 0 0 0 [] [] rfl
  ⟨fun p hp=>(by cases hp),fun j o hj=>absurd hj (w6 _),fun j o hj=>absurd hj (w6 _),fun j o hj=>absurd hj (w6 _),fun j o t hj=>absurd hj (w6 _),fun j o t hj=>absurd hj (w6 _)⟩ h
 refine⟨fun i o e hi he hbe=>(key i o (dU _) hi).1 e he hbe,fun i j o o' t hi hj ht Im=>?_,fun i j o o' t hi hj lh ht Im=>?_,fun i j o o' hi hj bI hq hq'=>?_,fun i j o o' hi hj lh hq hv=>?_⟩
 ·rcases yK i j with h1|h1|h1
  ·exact absurd Im (((key j o' (dU _) hj).2 i o h1 hi).dst t ht)
  ·exact h1
  ·exact absurd ht (((key i o (dU _) hi).2 j o' h1 hj).dst t Im)
 ·rcases ck i j with h1|h1
  ·exact .inr ⟨h1,((key j o' (dU _) hj).2 i o h1 hi).bwd t ht Im⟩
  ·exact .inl ⟨by omega,((key i o (dU _) hi).2 j o' (by omega) hj).fwd t ht Im⟩
 ·exact ((key j o' (dU _) hj).2 i o bI hi).loud hq' hq
 ·rcases ck i j with h1|h1
  ·exact .inr ⟨h1,((key j o' (dU _) hj).2 i o h1 hi).v2 hv hq⟩
  ·exact .inl ⟨by omega,((key i o (dU _) hi).2 j o' (by omega) hj).v1 hq hv⟩
section
variable {P:Program} {tb:TypeId→Option TyE} {L:List FuncId}
structure Run(P:Program)(tb:TypeId→Option TyE)(L:List FuncId)(ops:Array Oper)(n:Nat)(dd:Nat→D)(hh:Nat→Hp)(ac:Nat→Bool)(tms:Nat→List (Nat×D)):Prop where
 ts:∀(i:Nat) (o:Oper),i<n→ops[i]? =some o→tms (i+1)=xK o.dst (dd i) (tms i)
 on:∀(i:Nat) (o:Oper),i<n→ops[i]? =some o→ac i=true→Gd ops o (tms i) true∧m3 P tb (.any L) o (evD (tms i)) (hh i) (dd i) (hh (i+1))
 off:∀(i:Nat) (o:Oper),i<n→ops[i]? =some o→ac i=false→Gd ops o (tms i) false∧Offs o (evD (tms i)) (dd i)∧hh (i+1)=hh i
theorem H2 {ops:Array Oper}{K:List (Nat×D)→Hp→Prop}:∀(rest:List Oper) (i:Nat) (dd:Nat→D) (hh:Nat→Hp) (ac:Nat→Bool) (tms:Nat→List (Nat×D)),Run P tb L ops i dd hh ac tms→ops.toList.drop i=rest→bC P tb (.any L) ops K rest (tms i) (hh i)→
  ∃dd' N7 ac' DY,Run P tb L ops (i+rest.length) dd' N7 ac' DY∧K (DY (i+rest.length)) (N7 (i+rest.length))∧DY 0=tms 0∧N7 0=hh 0
 |[],i,dd,hh,ac,tms,hr,_,h=>by
  cases h with
  |nil h=>exact⟨dd,hh,ac,tms,hr,h,rfl,rfl⟩
  |wk hmd=>cases hmd
 |o::rest,i,dd,hh,ac,tms,hr,hd,h=>by
  have ho:ops[i]? =some o:=by
   have:(ops.toList.drop i)[0]? =some o:=by rw[hd];rfl
   rw[pM] at this
   simpa using this
  have Cc:ops.toList.drop (i+1)=rest:=by
   rw[←pj,hd];rfl
  have ext:∀(d:D) (hp':Hp) (b:Bool),((b=true→Gd ops o (tms i) true∧m3 P tb (.any L) o (evD (tms i)) (hh i) d hp')∧(b=false→Gd ops o (tms i) false∧Offs o (evD (tms i)) d∧hp'=hh i))→bC P tb (.any L) ops K rest (xK o.dst d (tms i)) hp'→
    ∃dd' N7 ac' DY,Run P tb L ops (i+(o::rest).length) dd' N7 ac' DY∧K (DY (i+(o::rest).length)) (N7 (i+(o::rest).length))∧DY 0=tms 0∧N7 0=hh 0:=by
   intro d hp' b hb ND
   have bP:Run P tb L ops (i+1) (fun j=>if j=i then d else dd j) (fun j=>if j=i+1 then hp' else hh j) (fun j=>if j=i then b else ac j) (fun j=>if j=i+1 then xK o.dst d (tms i) else tms j):=by
    refine⟨fun j oj hj pT=>?_,fun j oj hj pT HI=>?_,fun j oj hj pT HI=>?_⟩
    ·by_cases CB:j=i
     ·subst CB
      obtain rfl:o=oj:=by rw[ho] at pT;injection pT
      simp
     ·have h5:=hr.ts j oj (by omega) pT
      have h6:j+1≠i+1:=by omega
      have h7:j≠i+1:=by omega
      simp only[h6,h7,CB,qB]
      exact h5
    ·by_cases CB:j=i
     ·subst CB
      obtain rfl:o=oj:=by rw[ho] at pT;injection pT
      have:b=true:=by simpa using HI
      simpa using hb.1 this
     ·have h5:ac j=true:=by simpa[CB] using HI
      have h6:j+1≠i+1:=by omega
      have h7:j≠i+1:=by omega
      simp only[h6,h7,CB,qB]
      exact hr.on j oj (by omega) pT h5
    ·by_cases CB:j=i
     ·subst CB
      obtain rfl:o=oj:=by rw[ho] at pT;injection pT
      have:b=false:=by simpa using HI
      simpa using hb.2 this
     ·have h5:ac j=false:=by simpa[CB] using HI
      have h6:j+1≠i+1:=by omega
      have h7:j≠i+1:=by omega
      simp only[h6,h7,CB,qB]
      exact hr.off j oj (by omega) pT h5
   obtain⟨dd',N7,ac',DY,h1,h2,h3,h4⟩:=H2 (ops:=ops) (K:=K) rest (i+1) _ _ _ _ bP Cc (by rw[ay rfl,ay rfl];exact ND)
   refine⟨dd',N7,ac',DY,?_,?_,?_,?_⟩
   ·rw[mj,show i+(rest.length+1)=i+1+rest.length by omega];exact h1
   ·rw[mj,show i+(rest.length+1)=i+1+rest.length by omega];exact h2
   ·rw[h3];exact ifn_
   ·rw[h4];exact ifn_
  cases h with
  |on d hp' hg h2 h1=>exact ext d hp' true ⟨fun _=>⟨hg,h2⟩,fun h=>by cases h⟩ h1
  |off d hg hs h1=>exact ext d (hh i) false ⟨fun h=>(by cases h),fun _=>⟨hg,hs,rfl⟩⟩ h1
  |sq hmd=>cases hmd
  |wk hmd=>cases hmd
theorem Run.quiet_step {ops:Array Oper}{n:Nat}{dd:Nat→D}{hh:Nat→Hp}{ac:Nat→Bool}{tms:Nat→List (Nat×D)}(hr:Run P tb L ops n dd hh ac tms){j:Nat}{o:Oper}(hj:j<n)(ho:ops[j]? =some o)(hq:f9 tb L o.op=true):hh (j+1)=hh j:=by
 cases HI:ac j with
 |true=>exact ((hr.on j o hj ho HI).2.quiet hq).1
 |false=>exact (hr.off j o hj ho HI).2.2
theorem Run.fr_step {ops:Array Oper}{n:Nat}{dd:Nat→D}{hh:Nat→Hp}{ac:Nat→Bool}{tms:Nat→List (Nat×D)}(hr:Run P tb L ops n dd hh ac tms){j:Nat}{o:Oper}(hj:j<n)(ho:ops[j]? =some o)(hq:ve tb L o.op=false):Fr (hh j) (hh (j+1)):=by
 cases HI:ac j with
 |true=>exact (hr.on j o hj ho HI).2.fr hq
 |false=>rw[(hr.off j o hj ho HI).2.2];exact Fr.refl _
theorem Fr.trans {a b c:Hp}(h:Fr a b)(h':Fr b c):Fr a c:=⟨cX h.1 h'.1,fun j hj=>(h'.2 j (bW hj h.1)).trans (h.2 j hj)⟩
theorem Run.frs {ops:Array Oper}(hh:Nat→Hp){a b:Nat}(yk:a≤b)(hb:b≤ops.size)(h:∀j o,a≤j→j<b→ops[j]? =some o→Fr (hh j) (hh (j+1))):Fr (hh a) (hh b):=by
 induction b with
 |zero=>
      obtain rfl:a=0:=by omega
      exact Fr.refl _
 |succ b ih=>
  rcases ck a (b+1) with h1|h1
  ·have bI:b<ops.size:=by omega
   exact (ih (by omega) (by omega) fun j o h2 h3 h4=>h j o h2 (by omega) h4).trans (h b ops[b] (by omega) (by omega) (ml bI))
  ·obtain rfl:a=b+1:=by omega
   exact Fr.refl _
theorem Run.same {α:Type}{ops:Array Oper}(f:Nat→α){a b:Nat}(yk:a≤b)(hb:b≤ops.size)(h:∀j o,a≤j→j<b→ops[j]? =some o→f (j+1)=f j):f b=f a:=by
 induction b with
 |zero=>
      obtain rfl:a=0:=by omega
      rfl
 |succ b ih=>
  rcases ck a (b+1) with h1|h1
  ·have bI:b<ops.size:=by omega
   rw[h b ops[b] (by omega) (by omega) (ml bI)]
   exact ih (by omega) (by omega) fun j o h2 h3 h4=>h j o h2 (by omega) h4
  ·obtain rfl:a=b+1:=by omega
   rfl
theorem Run.lookup {ops:Array Oper}{n:Nat}{dd:Nat→D}{hh:Nat→Hp}{ac:Nat→Bool}{tms:Nat→List (Nat×D)}(hr:Run P tb L ops n dd hh ac tms)(hn:n≤ops.size):∀{i:Nat} {t:Nat} {d:D},i≤n→(tms i).lookup t=some d→
  (∃j o,j<i∧ops[j]? =some o∧o.dst=some t∧d=dd j)∨((∀j o,j<i→ops[j]? =some o→o.dst≠some t)∧(tms 0).lookup t=some d)
 |0,t,d,_,h=>.inr ⟨fun j _ hj=>by omega,h⟩
 |i+1,t,d,hi,h=>by
  have bI:i<ops.size:=by omega
  have ho:ops[i]? =some ops[i]:=ml bI
  rw[hr.ts i _ (by omega) ho] at h
  by_cases hd:(ops[i]).dst=some t
  ·rw[hd] at h
   rw[show (xK (some t) (dd i) (tms i)).lookup t=some (dd i) from ai] at h
   injection h with h
   exact .inl ⟨i,_,cr _,ho,hd,h.symm⟩
  ·have h':(tms i).lookup t=some d:=by
    rw[←h]
    cases hdd:(ops[i]).dst with
    |none=>rfl
    |some s=>exact (ar (fun e=>hd (by rw[hdd,e]))).symm
   rcases hr.lookup hn (show i≤n by omega) h' with⟨j,o,h1,h2,h3,h4⟩|⟨h1,h2⟩
   ·exact .inl ⟨j,o,by omega,h2,h3,h4⟩
   ·refine .inr ⟨fun j o hj pT=>?_,h2⟩
    rcases ck j i with h3|h3
    ·exact h1 j o h3 pT
    ·obtain rfl:j=i:=by omega
     obtain rfl:ops[j]=o:=by rw[ho] at pT;injection pT
     exact hd
def LookL(ops:Array Oper)(dd:Nat→D)(tm0:List (Nat×D))(listed:Array Bool)(t:Nat)(d:D):Prop:=
 (∃i o,ops[i]? =some o∧listed.getD i false=true∧o.dst=some t∧d=dd i)∨((∀i o,ops[i]? =some o→listed.getD i false=true→o.dst≠some t)∧tm0.lookup t=some d)
structure InvA(tb:TypeId→Option TyE)(L:List FuncId)(x:Cx)(ops:Array Oper)(dd:Nat→D)(hh:Nat→Hp)(tm0:List (Nat×D))(listed:Array Bool)(a:Act)(w:World)(m:Nat)(g:Gh):Prop where
 size:listed.size=ops.size
 closed:∀(i:Nat) (o:Oper) (e:Edge),ops[i]? =some o→listed.getD i false=true→e∈o.after→Region.binds .any e=true→listed.getD e.on false=true
 le:m≤ops.size
 loud:∀(j:Nat) (o:Oper),ops[j]? =some o→f9 tb L o.op=false→(listed.getD j false=true↔j<m)
 hr:HR x.B (hh m) g w
 look:∀t d,LookL ops dd tm0 listed t d→aN (hh m) g w d (a.tmps.getD t undef)
 tsz:a.tmps.size=x.N
 df:a.defers=x.df
 bl:Below x.B x.w0 w
 fr:∀p:Addr,p.block<x.B→x.F0 p→g.F p
 mo:bO x.hp0 x.g0 x.w0 (hh m) g w
theorem Bef.listed {ops:Array Oper}{listed:Array Bool}(A1:∀(i:Nat) (o:Oper) (e:Edge),ops[i]? =some o→listed.getD i false=true→e∈o.after→Region.binds .any e=true→listed.getD e.on false=true){j i:Nat}(h:Bef ops j i):listed.getD i false=true→listed.getD j false=true:=by
 induction h with
 |edge i o e hi he hb=>exact fun hl=>A1 i o e hi hl he hb
 |trans j i o e hi he hb _ ih=>exact fun hl=>ih (A1 i o e hi hl he hb)
theorem Bef.ready {ops:Array Oper}{listed:Array Bool}(A1:∀(i:Nat) (o:Oper) (e:Edge),ops[i]? =some o→listed.getD i false=true→e∈o.after→Region.binds .any e=true→listed.getD e.on false=true){j i:Nat}(h:Bef ops j i)(iR:∀o,ops[i]? =some o→∀e∈o.after,Region.binds .any e=true→listed.getD e.on false=true):listed.getD j false=true:=by
 cases h with
 |edge _ o e hi he hb=>exact iR o hi e he hb
 |trans _ _ o e hi he hb h=>exact h.listed A1 (iR o hi e he hb)
theorem Gd.wanted' {ops:Array Oper}{o:Oper}{tm:List (Nat×D)}{hp:Hp}{w:World}{a:Act}{b:Bool}{g:Gh}(h:Gd ops o tm b)(hr:∀t d,t∈mM ops o→tm.lookup t=some d→aN hp g w d (a.tmps.getD t undef)):Region.wanted o (yielded ops a.tmps)=b:=by
 unfold Gd at h
 unfold Region.wanted
 split at h
 ·rename_i hg
  rw[hg,h]
 ·rename_i j want hg
  rw[hg]
  dsimp only
  rcases h with⟨t,c,h1,h2,h3⟩|⟨t,h1,h2,rfl⟩
  rotate_left
  ·have hm:t∈mM ops o:=by
    unfold mM
    rw[hg]
    dsimp only
    rw[h1]
    exact tU.2 (.inr (by simp))
   have hv:=hr t _ hm h2
   have hy:yielded ops a.tmps j=none:=by
    unfold yielded
    rw[h1]
    simp only[BE]
    cases ht:a.tmps[t]? with
    |none=>rfl
    |some u=>
     have hu:a.tmps.getD t undef=u:=by simp[cP,ht]
     rw[hu] at hv
     cases hv with
     |tu _ cs hl hr=>rfl
   rw[hy];rfl
  have hm:t∈mM ops o:=by
   unfold mM
   rw[hg]
   dsimp only
   rw[h1]
   exact tU.2 (.inr (by simp))
  have hv:=(hr t _ hm h2).lit
  have hy:yielded ops a.tmps j=some c:=by
   unfold yielded
   rw[h1]
   simp only[BE]
   cases ht:a.tmps[t]? with
   |none=>simp[cP,ht,undef] at hv
   |some u=>
    have:u=.bool c:=by simpa[cP,ht] using hv
    rw[this]
  rw[hy,←h3]
  rfl
theorem AM {listed:Array Bool}{i:Nat}(hi:i<listed.size)(j:Nat):(listed.setIfInBounds i true).getD j false=true↔j=i∨listed.getD j false=true:=by
 by_cases CB:j=i
 ·subst CB
  simp[hi]
 ·simp[cP,BH (mb CB),CB]
def unl(listed:Array Bool)(n:Nat):Nat:=((List.range n).filter fun j=>!listed.getD j false).length
theorem DX {listed:Array Bool}{n i:Nat}(hi:i<n)(hs:i<listed.size)(hf:listed.getD i false=false):unl (listed.setIfInBounds i true) n<unl listed n:=by
 unfold unl
 have hsub:∀l:List Nat,((l.filter fun j=>!(listed.setIfInBounds i true).getD j false).length≤(l.filter fun j=>!listed.getD j false).length)∧(i∈l→(l.filter fun j=>!(listed.setIfInBounds i true).getD j false).length<(l.filter fun j=>!listed.getD j false).length):=by
  intro l
  induction l with
  |nil=>exact⟨aL _,fun h=>by cases h⟩
  |cons k l ih=>
   by_cases hki:k=i
   ·subst hki
    have e1:(listed.setIfInBounds k true).getD k false=true:=(AM hs k).2 (.inl rfl)
    simp only[Ph,e1,hf,eo,t5,aM,mj]
    exact⟨by have:=ih.1;simp at this ⊢;omega,fun _=>by have:=ih.1;simp at this ⊢;omega⟩
   ·have e1:(listed.setIfInBounds i true).getD k false=listed.getD k false:=by
     simp[cP,BH (mb hki)]
    simp only[Ph,e1]
    cases listed.getD k false with
    |true=>exact⟨ih.1,fun h=>ih.2 (by rcases m9.1 h with h|h;exact absurd h.symm hki;exact h)⟩
    |false=>
     simp only[t5,aM,mj]
     exact⟨by have:=ih.1;omega,fun h=>by have:=ih.2 (by rcases m9.1 h with h|h;exact absurd h.symm hki;exact h);omega⟩
 exact (hsub (List.range n)).2 (by simpa using hi)
theorem K7 {op:Op}(h:ve tb L op=true):varB tb op=true:=by have h:=varL_C h;cases op <;> first|rfl|exact h|cases h
theorem Gu {op:Op}(hv:varB tb op=true):f9 tb L op=false:=by
 have h1:qi op=false:=by
  cases op <;> first|rfl|cases hv|skip
  rename_i c
  obtain⟨callee,aS,ts⟩:=c
  cases callee with
  |builtin b=>cases b <;> first|rfl|cases hv
  |_=>first|rfl|cases hv
 have h2:vK tb L op=false:=by
  cases op <;> first|rfl|skip
  rename_i c
  show ((match c.callee with| .value (.func f)=>L.elem f|_=>false)&&!hvB tb c)=false
  have uk:(hvB tb c||cpB tb c)=true:=hv
  obtain⟨callee,aS,ts⟩:=c
  cases callee with
  |value x=>
   have hv2:hvB tb ⟨.value x,aS,ts⟩=true:=by simpa[cpB] using uk
   rw[hv2];simp
  |_=>rfl
 unfold f9
 rw[h1,h2];rfl
theorem FB {x:Cx}{ops:Array Oper}{dd:Nat→D}{hh:Nat→Hp}{ac:Nat→Bool}{tms:Nat→List (Nat×D)}{Q:Exit→Act→World→Prop}(hN:jC x.N ops=true)(pz:OrdT tb L ops)(bP:Run P tb L ops ops.size dd hh ac tms)
  (hQ:∀a w,RS x (tms ops.size) (hh ops.size) a w→Q .normal a w):∀(fuel:Nat) (listed:Array Bool) (a:Act) (w:World) (m:Nat) (g:Gh),InvA tb L x ops dd hh (tms 0) listed a w m g→unl listed ops.size≤fuel→wpAny P .any ops Q fuel listed a w:=by
 -- when all are listed
 have fin:∀(listed:Array Bool) (a:Act) (w:World) (m:Nat) (g:Gh),InvA tb L x ops dd hh (tms 0) listed a w m g→Region.ready .any ops listed=[]→Q .normal a w:=by
  intro listed a w m g hI hready
  have iR:∀i,i<ops.size→listed.getD i false=true:=by
   intro i
   induction i using Nat.strongRecOn with
   |_ i ih=>
    intro hi
    cases hl:listed.getD i false with
    |true=>rfl
    |false=>
     exfalso
     have NY:i∈Region.ready .any ops listed:=by
      refine mem_ready.2 ⟨?_,ops[i],ml hi,fun e he hb=>?_⟩
      ·have hsz:=hI.size
       have bI:i<listed.size:=by omega
       simpa[cP,bI] using hl
      ·have:=pz.low i _ e (ml hi) he hb
       exact ih _ this (by omega)
     rw[hready] at NY
     cases NY
  have hhm:hh ops.size=hh m:=Run.same (ops:=ops) hh hI.le (aL _) fun j o h1 h2 h3=>by
   cases hq:f9 tb L o.op with
   |true=>exact bP.quiet_step h2 h3 hq
   |false=>
    have:=(hI.loud j o h3 hq).1 (iR j h2)
    omega
  refine hQ a w ⟨g,?_,fun t d h=>?_,hI.tsz,hI.df,hI.bl,hI.fr,?_⟩
  rotate_right
  ·rw[hhm];exact hI.mo
  ·rw[hhm];exact hI.hr
  ·rw[hhm]
   refine hI.look t d ?_
   rcases bP.lookup (aL _) (aL _) h with⟨j,o,h1,h2,h3,h4⟩|⟨h1,h2⟩
   ·exact .inl ⟨j,o,h2,iR j h1,h3,h4⟩
   ·exact .inr ⟨fun j o hj _=>h1 j o (by
     rcases ck j ops.size with h|h
     ·exact h
     ·rw[EZ h] at hj;cases hj) hj,h2⟩
 intro fuel
 induction fuel with
 |zero=>
  intro listed a w m g hI hu
  have hnone:Region.ready .any ops listed=[]:=by
   cases hr:Region.ready .any ops listed with
   |nil=>rfl
   |cons i l=>
    exfalso
    have hi:i∈Region.ready .any ops listed:=by rw[hr];exact pk ..
    obtain⟨h1,o,ho,_⟩:=mem_ready.1 hi
    have bI:i<ops.size:=(gD.1 ho).1
    have hs:i<listed.size:=by rw[hI.size];exact bI
    have hf:listed.getD i false=false:=by simpa[cP,hs] using h1
    have:=DX bI hs hf
    omega
  exact⟨hnone,fin listed a w m g hI hnone⟩
 |succ fuel ih=>
  intro listed a w m g hI hu
  refine⟨fun h=>fin listed a w m g hI h,fun i hi=>?_⟩
  obtain⟨h1,o,ho,iR⟩:=mem_ready.1 hi
  have bI:i<ops.size:=(gD.1 ho).1
  have hs:i<listed.size:=by rw[hI.size];exact bI
  have hf:listed.getD i false=false:=by simpa[cP,hs] using h1
  have AU:¬listed.getD i false=true:=by rw[hf];simp
  have hbef:∀j,Bef ops j i→listed.getD j false=true:=fun j h=>h.ready hI.closed fun o' sd=>by
   obtain rfl:o=o':=by rw[ho] at sd;injection sd
   exact iR
  have NN:∀j,Bef ops i j→listed.getD j false≠true:=fun j h hj=>AU (h.listed hI.closed hj)
  have In:=AM hs
  have sZ:unl (listed.setIfInBounds i true) ops.size≤fuel:=by have:=DX bI hs hf;omega
  have hdn:∀t,o.dst=some t→t<x.N:=fun t ht=>jW hN ho ht
  have Ob:∀(j:Nat) (o':Oper) (e:Edge),ops[j]? =some o'→(listed.setIfInBounds i true).getD j false=true→e∈o'.after→Region.binds .any e=true→(listed.setIfInBounds i true).getD e.on false=true:=by
   intro j o' e hj hl he hb
   refine (In _).2 (.inr ?_)
   rcases (In j).1 hl with rfl|hl
   ·obtain rfl:o=o':=by rw[ho] at hj;injection hj
    exact iR e he hb
   ·exact hI.closed j o' e hj hl he hb
  -- what the operation reads
  have hread:∀t d,t∈mM ops o→(tms i).lookup t=some d→LookL ops dd (tms 0) listed t d:=by
   intro t d ht hl
   rcases bP.lookup (aL _) (kQ bI) hl with⟨j,oj,h2,h3,h4,h5⟩|⟨h2,h3⟩
   ·refine .inl ⟨j,oj,h3,?_,h4,h5⟩
    rcases pz.data i j o oj t ho h3 (by omega) ht h4 with⟨_,h⟩|⟨h,_⟩
    ·exact hbef j h
    ·omega
   ·refine .inr ⟨fun j oj hj hlj hd=>?_,h3⟩
    by_cases CB:j=i
    ·subst CB;exact AU hlj
    ·rcases pz.data i j o oj t ho hj (mb CB) ht hd with⟨h,_⟩|⟨_,h⟩
     ·exact h2 j oj h hj hd
     ·exact NN j h hlj
  have g8:∀t d,t∈mM ops o→(tms i).lookup t=some d→aN (hh m) g w d (a.tmps.getD t undef):=fun t d ht hl=>hI.look t d (hread t d ht hl)
  have NL:∀y∈o.op.operands,aN (hh m) g w (evD (tms i) y) (a.eval y):=by
   intro y hy
   cases y with
   |tmp t=>
    show aN (hh m) g w (((tms i).lookup t).getD .top) _
    cases hl:(tms i).lookup t with
    |none=>exact .top _
    |some d=>
     refine g8 t d ?_ hl
     unfold mM
     refine tU.2 (.inl (List.mem_filterMap.2 ⟨.tmp t,by simpa using hy,rfl⟩))
   |const v=>exact Bj g v
   |global g'=>exact .top _
   |func f=>exact .e _ _ (.lit _ rfl)
  -- the invariant behind the operation
  have next:∀(a':Act) (w':World) (m':Nat) (g':Gh) (v:Value),a'=a.put o.dst v→m'≤ops.size→(∀(j:Nat) (o':Oper),ops[j]? =some o'→f9 tb L o'.op=false→((listed.setIfInBounds i true).getD j false=true↔j<m'))→
    HR x.B (hh m') g' w'→bO (hh m) g w (hh m') g' w'→aN (hh m') g' w' (dd i) v→Below x.B w w'→(∀p:Addr,p.block<x.B→g.F p→g'.F p)→wpAny P .any ops Q fuel (listed.setIfInBounds i true) a' w':=by
   intro a' w' m' g' v ha ze hloud po hmo hd hb hF
   have hmono:∀d u,aN (hh m) g w d u→aN (hh m') g' w' d u:=fun d u h=>h.mono hmo
   subst ha
   refine ih _ _ _ m' g' ⟨by simp[hI.size],Ob,ze,hloud,po,fun t d hl=>?_,by rw[qj];exact hI.tsz,by rw[mN];exact hI.df,hI.bl.trans hb,fun p h1 h2=>hF p h1 (hI.fr p h1 h2),hI.mo.trans hmo⟩ sZ
   by_cases hdt:o.dst=some t
   ·have hdd:d=dd i:=by
     rcases hl with⟨j,oj,h2,_,h4,h5⟩|⟨h2,_⟩
     ·obtain rfl:=pz.dst j i oj o t h2 ho h4 hdt
      exact h5
     ·exact absurd hdt (h2 i o ho ((In i).2 (.inl rfl)))
    subst hdd
    rw[hdt,ww (by rw[hI.tsz];exact hdn t hdt)]
    exact hd
   ·rw[C6 hdt]
    refine hmono _ _ (hI.look t d ?_)
    rcases hl with⟨j,oj,h2,h3,h4,h5⟩|⟨h2,h3⟩
    ·refine .inl ⟨j,oj,h2,?_,h4,h5⟩
     rcases (In j).1 h3 with rfl|h3
     ·obtain rfl:o=oj:=by rw[ho] at h2;injection h2
      exact absurd h4 hdt
     ·exact h3
    ·exact .inr ⟨fun j oj hj hlj=>h2 j oj hj ((In j).2 (.inr hlj)),h3⟩
  -- a loud operation comes up in the order of the text
  have AZ:f9 tb L o.op=false→hh i=hh m∧m≤i:=by
   intro hq
   have hmi:m≤i:=by
    rcases ck i m with h|h
    ·exact absurd ((hI.loud i o ho hq).2 h) AU
    ·exact h
   refine⟨Run.same (ops:=ops) hh hmi (kQ bI) fun j oj h2 h3 h4=>?_,hmi⟩
   cases NG:f9 tb L oj.op with
   |true=>exact bP.quiet_step (by omega) h4 NG
   |false=>
    have:=(hI.loud j oj h4 NG).1 (hbef j (pz.loud j i oj o h4 ho h3 NG hq))
    omega
  have AY:f9 tb L o.op=false→∀(j:Nat) (o':Oper),ops[j]? =some o'→f9 tb L o'.op=false→((listed.setIfInBounds i true).getD j false=true↔j<i+1):=by
   intro hq j o' hj NG
   obtain⟨_,hmi⟩:=AZ hq
   rw[In,hI.loud j o' hj NG]
   constructor
   ·rintro (rfl|h) <;> omega
   ·intro h
    by_cases CB:j=i
    ·exact .inl CB
    ·exact .inr ((hI.loud j o' hj NG).1 (hbef j (pz.loud j i o' o hj ho (by omega) NG hq)))
  have zd:f9 tb L o.op=true→∀(j:Nat) (o':Oper),ops[j]? =some o'→f9 tb L o'.op=false→((listed.setIfInBounds i true).getD j false=true↔j<m):=by
   intro hq j o' hj NG
   rw[In,←hI.loud j o' hj NG]
   constructor
   ·rintro (rfl|h)
    ·obtain rfl:o=o':=by rw[ho] at hj;injection hj
     rw[hq] at NG;cases NG
    ·exact h
   ·exact .inr
  unfold wpOp
  rw[ho]
  dsimp only
  cases HI:ac i with
  |true=>
   obtain⟨hg,hsnd⟩:=bP.on i o bI ho HI
   rw[hg.wanted' g8,ay rfl]
   left
   cases hq:f9 tb L o.op with
   |false=>
    obtain⟨he,_⟩:=AZ hq
    have hok:=hsnd.ok
    rw[he] at hok
    refine hok x.B g w a _ _ hI.hr NL fun v g' w' po mo hd hb hF=>?_
    exact next _ w' (i+1) g' v rfl bI (AY hq) po mo hd hb hF
   |true=>
    have hv:od o.op=true→PC o (evD (tms i)) (hh i) (hh m):=by
     intro hld
     have noV:∀j oj,ops[j]? =some oj→(m≤j∧j<i∨i≤j∧j<m)→ve tb L oj.op=false:=by
      intro j oj hj hr
      cases hv:ve tb L oj.op with
      |false=>rfl
      |true=>
       exfalso
       have A0:f9 tb L oj.op=false:=Gu (K7 hv)
       have lh:i≠j:=fun e=>by
        subst e
        obtain rfl:o=oj:=by rw[ho] at hj;injection hj
        rw[hq] at A0;cases A0
       rcases pz.vars i j o oj ho hj lh hld hv with⟨h2,h3⟩|⟨h2,h3⟩
       ·have:=(hI.loud j oj hj A0).1 (hbef j h3)
        omega
       ·have:=NN j h3
        have:¬j<m:=fun h=>this ((hI.loud j oj hj A0).2 h)
        omega
     intro x hx j off hxe
     have hjm:j<(hh m).next:=by
      have h3:=(NL x hx).un
      rw[hxe] at h3
      generalize a.eval x=u at h3
      cases h3 with
      |pt _ _ hk=>exact hk
     have CB:j<(hh i).next:=hsnd.lk hld x hx j off hxe
     rcases Nat.le_total m i with hmi|hmi
     ·exact ((Run.frs (ops:=ops) hh hmi (kQ bI) fun j oj h2 h3 h4=>bP.fr_step (by omega) h4 (noV j oj h4 (.inl ⟨h2,h3⟩))).2 j hjm).symm
     ·exact (Run.frs (ops:=ops) hh hmi hI.le fun j oj h2 h3 h4=>bP.fr_step (by have:=hI.le;omega) h4 (noV j oj h4 (.inr ⟨h2,h3⟩))).2 j CB
    have hok:=(hsnd.quiet hq).2 (hh m) hv
    refine hok x.B g w a _ _ hI.hr NL fun v g' w' po mo hd hb hF=>?_
    exact next _ w' m g' v rfl hI.le (zd hq) po mo hd hb hF
  |false=>
   obtain⟨hg,hd,he⟩:=bP.off i o bI ho HI
   rw[hg.wanted' g8,aA (by simp)]
   cases hq:f9 tb L o.op with
   |false=>
    obtain⟨he2,_⟩:=AZ hq
    have e3:hh (i+1)=hh m:=by rw[he,he2]
    exact next _ w (i+1) g undef rfl bI (AY hq) (by rw[e3];exact hI.hr) (by rw[e3];exact bO.refl _ _ _) (by rw[e3];exact hd _ g w a NL) (Below.refl _ _) fun _ _ h=>h
   |true=>
    exact next _ w m g undef rfl hI.le (zd hq) hI.hr (bO.refl _ _ _) (hd _ g w a NL) (Below.refl _ _) fun _ _ h=>h
theorem AW.drawS {x:Cx}{tm:List (Nat×D)}{hp:Hp}{Q:Exit→List (Nat×D)→Hp→Prop}{id:Nat}{ops:Array Oper}(hm:P.follows .mixedOrders=true)(hN:jC x.N ops=true)(pz:uP tb L ops=true)
  (h:∀K:List (Nat×D)→Hp→Prop,(∀tm hp,Q .normal tm hp→K tm hp)→bC P tb (.any L) ops K ops.toList tm hp):AW P x (.region id ops true) tm hp Q:=by
 intro a w hr
 refine wp_region_any hm ?_
 obtain⟨dd,hh,ac,tms,bP,hK,h1,h2⟩:=H2 (ops:=ops) ops.toList 0 (fun _=>.top) (fun _=>hp) (fun _=>false) (fun _=>tm) ⟨fun _ _ h=>absurd h (by omega),fun _ _ h=>absurd h (by omega),fun _ _ h=>absurd h (by omega)⟩ rfl (h _ fun _ _ h=>h)
 simp only[bq,ej] at bP hK h1 h2
 obtain⟨g,NF,g8,hsz,ry,hB,hF,hM⟩:=hr
 refine FB hN (Az pz) bP (fun a w hr=>⟨_,_,hr,hK⟩) ops.size _ a _ 0 g ?_ ?_
 ·have AU:∀j,¬(Array.replicate ops.size false).getD j false=true:=by
   intro j
   simp[cP,EY]
   split <;> simp
  refine⟨by simp,fun i _ _ _ hl=>absurd hl (AU i),dU _,fun j _ _ _=>⟨fun hl=>absurd hl (AU j),fun h=>absurd h (by omega)⟩,?_,fun t d hl=>?_,hsz,ry,hB.drew,hF,?_⟩
  rotate_right
  ·rw[h2];exact hM.trans (bO.keep hp g (aL _) (fun _ _=>rfl))
  ·rw[h2];exact NF.keep (aL _) (fun _ _=>rfl)
  ·rw[h2]
   rcases hl with⟨i,_,_,hl,_⟩|⟨_,hl⟩
   ·exact absurd hl (AU i)
   ·rw[h1] at hl
    exact (g8 t d hl).mono (bO.keep hp g (aL _) (fun _ _=>rfl))
 ·unfold unl
  exact cX (KQ _ _) (by simp)
theorem AW.loopW {x:Cx}{tm:List (Nat×D)}{hp:Hp}{Q:Exit→List (Nat×D)→Hp→Prop}{c:Code}{α:Type}(T:α→List (Nat×D))(H:α→Hp)(Inv:α→Prop)(μ:α→Nat)(s0:α)(hw:Wk x tm hp (T s0) (H s0))(h0:Inv s0)
  (round:∀s,Inv s→AW P x c (T s) (H s) fun ex tm' hp'=>match ex with| .normal=>∃s',Wk x tm' hp' (T s') (H s')∧Inv s'∧μ s'<μ s|ex=>Q ex tm' hp'):AW P x (.loop c) tm hp Q:=by
 refine AW.loop (fun n tm hp=>∃s,n=μ s∧tm=T s∧hp=H s∧Inv s) (n:=μ s0) hw ⟨s0,rfl,rfl,rfl,h0⟩ ?_
 rintro n tm hp ⟨s,rfl,rfl,rfl,hI⟩
 refine AW.mono (round s hI) ?_
 intro ex tm' hp' h
 cases ex with
 |normal=>
  obtain⟨s',h1,h2,h3⟩:=h
  exact⟨_,_,_,h3,h1,s',rfl,rfl,rfl,h2⟩
 |_=>exact h
end
end
section
section
variable {P:Program} {tb:TypeId→Option TyE} {x:Cx} {tm tm':List (Nat×D)} {hp hp':Hp}
theorem Wk.look(h0:x.hp0.next≤hp'.next)(hm:hp'.next≤hp.next)
  (ht:∀p∈tm',(∃d,tm.lookup p.1=some d∧(p.2=d∨p.2=d.ex))∧p.2.idsB hp'.next=true)
  (hv:∀k ds',hp'.vars.lookup k=some ds'→k<hp'.next∧∃ds,hp.vars.lookup k=some ds∧wh ds ds'∧ds'.all (D.idsC hp'.next)=true)
  (hl:∀id y,hp'.live.lookup id=some y→id<hp'.next∧hp.live.lookup id=some y):Wk x tm hp tm' hp':=by
 intro a w ⟨g,hr,g8,hsz,ry,hB,hF,hM⟩
 have fa:∀id y,hp'.live.lookup id=some y→hp.live.lookup id=some y:=fun id y h=>(hl _ _ h).2
 refine⟨g,⟨fun k ds hk=>?_,fun k k' ds ds' hk tJ he=>?_,fun id n e hi=>?_,fun id zb t t' b hi zf=>hr.tinj id zb t t' b (fa _ _ hi) (fa _ _ zf),hr.base,hr.fits⟩,fun t d h=>?_,hsz,ry,hB,hF,⟨hM.size,hM.cell,hM.forb,h0,hM.μ,fun id hid n e N3=>hM.live id hid n e (fa id _ N3),fun b hb hf=>⟨(hM.fr b hb hf).1,(hM.fr b hb hf).2.1,fun k ds hk=>by obtain⟨_,_,h,_⟩:=hv k ds hk;exact (hM.fr b hb hf).2.2.1 k _ h,fun id t hi=>(hM.fr b hb hf).2.2.2 id t (fa id _ hi)⟩,hM.szs⟩⟩
 ·obtain⟨h0,tP,h1,hw,h2⟩:=hv _ _ hk
  obtain⟨_,h3,h4,cs,ty,h5,h6,h7⟩:=hr.var k tP h1
  refine⟨h0,h3,h4,cs,ty,h5,by rw[rA hw];exact h6,fun j u hu=>⟨fun h=>(h7 j u hu).1 (by rw[←rA hw];exact h),fun d hd=>?_⟩⟩
  obtain⟨d0,Es,hdd⟩:=tr hw hd
  have cM:=(h7 j u hu).2 d0 Es
  have qp:aN hp g w d u:=cM.leC hdd
  exact ir qp (bV.1 h2 d (cc hd)) rfl fa
 ·obtain⟨_,_,h1,_⟩:=hv _ _ hk
  obtain⟨_,_,h2,_⟩:=hv _ _ tJ
  exact hr.inj k k' _ _ h1 h2 he
 ·obtain⟨h0,h1⟩:=hl _ _ hi
  obtain⟨_,us,h2,h3,h4⟩:=hr.tok id n e h1
  refine⟨h0,us,h2,h3,fun b hb=>⟨(h4 b hb).1,fun k ds hk=>?_⟩⟩
  obtain⟨_,_,h5,_⟩:=hv _ _ hk
  exact (h4 b hb).2 k _ h5
 ·obtain⟨⟨d0,h1,h3⟩,h2⟩:=ht _ (cg h)
  have cM:=g8 t d0 h1
  have qp:aN hp g w d (a.tmps.getD t undef):=by
   rcases h3 with h3|h3
   ·dsimp only at h3;rw[h3];exact cM
   ·dsimp only at h3;rw[h3];exact cM.exD
  exact GD qp h2 rfl fa
end
end
section
structure Kq(d:D)(hp:Hp)(d2:D)(bK:Hp):Prop where
 d:d2=d
 hp:bK=hp
theorem Kq.here(d:D)(hp:Hp):Kq d hp d hp:=⟨rfl,rfl⟩
section
variable {P:Program} {tb:TypeId→Option TyE} {dr:Bool} {md:Md}
variable {ops:Array Oper} {K:List (Nat×D)→Hp→Prop} {os:List Oper} {tm:List (Nat×D)} {hp hp':Hp} {t:Tmp} {dst:Option Tmp} {op:Op} {ty:TypeId} {pos:String} {af:Array Edge} {d:D}
theorem AVC.snd(tok:TOk P tb){o:Oper}{ev:Operand→D}(h:AVC P tb dr o.op o.type ev hp (Kq d hp')):Snd P tb dr o ev hp d hp':=by
 obtain⟨d2,bK,⟨rfl,rfl⟩,hs⟩:=AVC.sound tok h
 exact hs
theorem F3 {g:Option (Nat×Bool)}(hg:g=none)(h:m3 P tb md ⟨dst,op,ty,pos,af,g⟩ (evD tm) hp d hp')(h2:bC P tb md ops K os (xK dst d tm) hp'):bC P tb md ops K (⟨dst,op,ty,pos,af,g⟩::os) tm hp:=by
 subst hg
 exact .on d hp' rfl h h2
theorem st(tok:TOk P tb)(hn:md.nc tb op=true)(h:AVC P tb md.dr op ty (evD tm) hp (Kq d hp'))(h2:bC P tb md ops K os ((t,d)::tm) hp'):bC P tb md ops K (⟨some t,op,ty,pos,af,none⟩::os) tm hp:=
 F3 rfl ((AVC.snd tok (o:=⟨some t,op,ty,pos,af,none⟩) h).q hn) h2
theorem st_n(tok:TOk P tb)(hn:md.nc tb op=true)(h:AVC P tb md.dr op ty (evD tm) hp (Kq d hp'))(h2:bC P tb md ops K os tm hp'):bC P tb md ops K (⟨none,op,ty,pos,af,none⟩::os) tm hp:=
 F3 rfl ((AVC.snd tok (o:=⟨none,op,ty,pos,af,none⟩) h).q hn) h2
theorem MU(tok:TOk P tb){g:Option (Nat×Bool)}{f:FuncId}{aS:List Operand}{ts:Array TypeId}{ev:Operand→D}{r:D}(vy:ev (.func f)=.e (.lit (.func (.func f) #[] #[])))(hc:aB P f ((aS.map ev).map D.ex) r)(hp1:((aS.map ev).map D.ex).all D.pure=true)(hr:r.pure=true∨∃ds,r=.tu ds):
  m3 P tb md ⟨dst,.call ⟨.value (.func f),aS.toArray,ts⟩,ty,pos,af,g⟩ ev hp r hp:=by
 have key:∀bK:Hp,n9 P ⟨dst,.call ⟨.value (.func f),aS.toArray,ts⟩,ty,pos,af,g⟩ ev bK r bK:=fun bK=>
  (AVC.snd (dr:=true) tok (o:=⟨dst,.call ⟨.value (.func f),aS.toArray,ts⟩,ty,pos,af,g⟩) (ev:=ev) (hp:=bK) (d:=r) (hp':=bK) (by
   show sI P (hvB tb ⟨.value (.func f),aS.toArray,ts⟩) (ev (.func f)) (aS.toArray.toList.map ev) bK (Kq r bK)
   rw[vy]
   refine⟨rfl,rfl,.inl ⟨hp1,r,hc,?_⟩⟩
   unfold Fd
   split
   ·rcases hr with hr|⟨_,hr⟩ <;> cases hr
   ·rcases hr with hr|⟨_,hr⟩ <;> cases hr
   ·exact Kq.here _ _)).ok
 exact⟨key hp,fun _=>⟨rfl,fun bK _=>key bK⟩,fun _=>Fr.refl _,fun h=>by cases h⟩
variable {j:Nat} {want c:Bool} {s:Tmp}
theorem st_on(hj:(ops[j]?).bind (·.dst)=some s)(hc:tm.lookup s=some (.e (.lit (.bool c))))(hw:(c == want)=true)(h:m3 P tb md ⟨dst,op,ty,pos,af,some (j,want)⟩ (evD tm) hp d hp')(h2:bC P tb md ops K os (xK dst d tm) hp'):bC P tb md ops K (⟨dst,op,ty,pos,af,some (j,want)⟩::os) tm hp:=
 .on d hp' (.inl ⟨s,c,hj,hc,hw⟩) h h2
variable {ev:Operand→D} {k:D→Hp→Prop}
theorem av_move(x:Operand):AVC P tb dr (.move x) ty ev hp k=k (ev x) hp:=bz rfl rfl
theorem yw(x:Operand):AVC P tb dr (.assign x) ty ev hp k=LQ tb ty (ev x) hp k:=bz rfl rfl
theorem KJ(c x y:Operand):AVC P tb dr (.pick c x y) ty ev hp k=Ge (ev c) (ev x) (ev y) (yx k hp):=bz rfl rfl
theorem O7(t:TypeId):AVC P tb dr (.alloc t) ty ev hp k=Pa tb t hp k:=bz rfl rfl
theorem av_box(t:TypeId)(x:Operand):AVC P tb dr (.box t x) ty ev hp k=boxV (ev x) hp k:=bz rfl rfl
theorem w4(t:TypeId)(ps:List (Nat×Operand)):AVC P tb dr (.build t ps.toArray) ty ev hp k=Bo tb t (ps.map fun p=>(p.1,ev p.2)) (yx k hp):=bz rfl rfl
theorem u4(t:TypeId)(n:Nat)(ps:List (Nat×Operand)):AVC P tb dr (.buildSlice t n ps.toArray) ty ev hp k=fc tb (!dr) t n (ps.map fun p=>(p.1,ev p.2)) hp k:=bz rfl rfl
theorem qX(t:TypeId)(x:Operand):AVC P tb dr (.load t x) ty ev hp k=AL tb t (ev x) hp (yx k hp):=bz rfl rfl
theorem Bq(t:TypeId)(x y:Operand):AVC P tb dr (.store t x y) ty ev hp k=Ar tb t (ev x) (ev y) hp k:=bz rfl rfl
theorem tR(o:BinOp)(t t':TypeId)(x y:Operand):AVC P tb dr (.binOp o t x y t') ty ev hp k=ph P o t (ev x) (ev y) (atLit k hp):=bz rfl rfl
theorem KI(o:UnOp)(t:TypeId)(x:Operand):AVC P tb dr (.unOp o t x) ty ev hp k=unV o (ev x) (atLit k hp):=bz rfl rfl
theorem IT(s t:TypeId)(x:Operand):AVC P tb dr (.convert s t x) ty ev hp k=G6 tb s t (ev x) (yx k hp):=bz rfl rfl
theorem conv_eq(s t:TypeId)(d:D)(kf:D→Prop):G6 tb s t d kf=(match tb s,tb t with
 |some i,some j=>match j.ty,d with
  | .int jk,.e (.lit (.int _ n))=>kf (.e (.lit (.int jk (jk.wrap n))))
  | .str,.e (.lit (.string s))=>kf (.e (.lit (.string s)))
  | .str,d=>match i.ty with
   | .slice e=>match tb e with
    |some l=>l.ty=.int .u8∧match d.asSl 1 with
     |some (_,xs)=>match uo xs with
      |some bs=>kf (.e (.lit (.string ⟨bs.toArray⟩)))
      |none=>False
     |none=>False
    |none=>False
   |_=>False
  |_,_=>False
 |_,_=>False):=bz rfl rfl
theorem O4(t:TypeId)(x:Operand)(lo hi mx:Option Operand):AVC P tb dr (.slice t x lo hi mx) ty ev hp k=As tb t (ev x) (lo.map ev) (hi.map ev) (mx.map ev) (yx k hp):=bz rfl rfl
theorem wZ(t:TypeId)(x:Operand)(f:Nat):AVC P tb dr (.fieldAddr t x f) ty ev hp k=oC tb t f (ev x) (yx k hp):=bz rfl rfl
theorem O6(t:TypeId)(x:Operand)(f:Nat):AVC P tb dr (.field t x f) ty ev hp k=Bb tb t f (ev x) (yx k hp):=bz rfl rfl
theorem sK(t:TypeId)(x i:Operand):AVC P tb dr (.indexAddr t x i) ty ev hp k=ox tb t (ev x) (ev i) (yx k hp):=bz rfl rfl
theorem O5(t:TypeId)(x i:Operand):AVC P tb dr (.index t x i) ty ev hp k=xX tb t (ev x) (ev i) (yx k hp):=bz rfl rfl
theorem IS(x:Operand)(i:Nat):AVC P tb dr (.extract x i) ty ev hp k=G1 (ev x) i (yx k hp):=bz rfl rfl
theorem Hf(x:Operand):AVC P tb dr (.nilCheck x) ty ev hp k=nilV (ev x) (yx k hp):=bz rfl rfl
theorem Hg(fn:Fn)(first cs:List Operand):AVC P tb dr (.makeFunc fn first.toArray cs.toArray) ty ev hp k=xU fn first.length (cs.map ev) (yx k hp):=bz rfl rfl
end
theorem eZ.nil:eZ ⟨[],[],0⟩:=⟨fun _ _ h=>by simp at h,fun _ _ h=>by simp at h⟩
def leL:List D→List D→Prop
 |[],[]=>True
 |d::ds,d'::ds'=>d.le d'∧leL ds ds'
 |_,_=>False
theorem Ei:∀{ds ds':List D},leL ds ds'→ds'.length=ds.length∧∀{j:Nat} {d':D},ds'[j]? =some d'→∃d,ds[j]? =some d∧d.le d'
 |[],[],_=>⟨rfl,fun h=>by simp at h⟩
 |d::ds,d'::ds',h=>⟨by simp[(Ei h.2).1],fun {j} {e} he=>by
  cases j with
  |zero=>exact⟨d,rfl,by
                have:d'=e:=by simpa using he
                rw[←this];exact h.1⟩
  |succ j=>exact (Ei h.2).2 (by simpa using he)⟩
 |[],_::_,h=>h.elim
 |_::_,[],h=>h.elim
theorem aB.le {P:Program}{f:FuncId}{ds ds':List D}{r:D}(hc:aB P f ds' r)(h:leL ds ds'):aB P f ds r:=by
 obtain⟨hlen,CD⟩:=Ei h
 refine⟨hc.1,fun w F vs hF hsz uj=>hc.2 w F vs hF (by rw[hsz,hlen]) fun j d' u hd hu=>?_⟩
 obtain⟨d,Es,hle⟩:=CD hd
 exact aN.le (uj j d u Es hu) hle
theorem AW.regS {P:Program}{x:Cx}{tm:List (Nat×D)}{hp:Hp}{Q:Exit→List (Nat×D)→Hp→Prop}(tb:TypeId→Option TyE){id:Nat}{l:List Oper}(hN:jC x.N l.toArray=true)(h:∀K:List (Nat×D)→Hp→Prop,(∀tm hp,Q .normal tm hp→K tm hp)→bC P tb .seq l.toArray K l tm hp):AW P x (.region id l.toArray false) tm hp Q:=AW.regionS hN h
theorem AW.drwS {P:Program}{x:Cx}{tm:List (Nat×D)}{hp:Hp}{Q:Exit→List (Nat×D)→Hp→Prop}(tb:TypeId→Option TyE)(L:List FuncId){id:Nat}{l:List Oper}(hm:P.follows .mixedOrders=true)(hN:jC x.N l.toArray=true)(pz:uP tb L l.toArray=true)(h:∀K:List (Nat×D)→Hp→Prop,(∀tm hp,Q .normal tm hp→K tm hp)→bC P tb (.any L) l.toArray K l tm hp):AW P x (.region id l.toArray true) tm hp Q:=AW.drawS hm hN pz h
end
section
def sg(N0:Nat)(os:List Nat)(i:Nat):Nat:=bif decide (i<N0) then i else os.getD (i - N0) 0
def D.renC(σ:Nat→Nat):D→D
 | .own id z n xs=>.own (σ id) z n xs
 | .pt k o=>.pt (σ k) o
 | .ow k o z n=>.ow (σ k) o z n
 | .gw k z n=>.gw (σ k) z n
 | .fn f ks=>.fn f (ks.map σ)
 |d=>d
def D.ren(σ:Nat→Nat):D→D
 | .ag ds=>.ag (ds.map (D.renC σ))
 | .tu ds=>.tu (ds.map (D.renC σ))
 |d=>d.renC σ
def D.noO:D→Bool
 | .opt _ _=>false
 |_=>true
def D.noOs:D→Bool
 | .ag ds=>ds.all D.noO
 | .tu ds=>ds.all D.noO
 |d=>d.noO
theorem je {σ:Nat→Nat}{hp bK:Hp}{g g2:Gh}{w:World}{m:Nat}{d:D}{v:Value}(h:aN hp g w (d.renC σ) v)(hd:d.idsC m=true)(hn:d.noO=true)(hm:bK.next=m)
  (hμ:∀i,g2.μ i=g.μ (σ i)) (hτ:∀i,g2.τ i=g.τ (σ i)) (hF:g2.F=g.F) (hl:∀id y,bK.live.lookup id=some y→hp.live.lookup (σ id)=some y):aN bK g2 w d v:=by
 subst hm
 cases d with
 |e y=>cases h with
  |e _ v h=>exact .e y v (by rw[hF];exact h)
 |own id z n xs=>cases h with
  |own _ _ _ _ v h hid ht=>exact .own id z n xs v (by rw[hF];exact h) (by simpa[D.idsC] using hd) (fun m e hm=>by rw[hτ];exact ht m e (hl _ _ hm))
 |fu z n xs=>cases h with
  |fu _ _ _ A h=>exact .fu z n xs A (by rw[hF];exact h)
 |ag ds=>cases hd
 |tu ds=>cases hd
 |fp xs off=>cases h with
  |fp _ _ ad hb hc=>exact .fp xs off ad hb (by rw[hF];exact hc)
 |pt k off=>cases h with
  |pt _ _ hk=>rw[←hμ];exact .pt k off (by simpa[D.idsC] using hd)
 |ow k off z n=>cases h with
  |ow _ _ _ _ c hk h1 h2=>rw[←hμ];exact .ow k off z n c (by simpa[D.idsC] using hd) h1 h2
 |gw k z n=>cases h with
  |gw _ _ _ c hk h1 h2 hs=>rw[←hμ] at hs ⊢;exact .gw k z n c (by simpa[D.idsC] using hd) h1 h2 hs
 |fn f ks=>cases h with
  |fn _ _ hk=>
   have:((ks.map σ).map fun k=>Value.pointer (some ⟨g.μ k,0,none⟩))=ks.map fun k=>Value.pointer (some ⟨g2.μ k,0,none⟩):=by
    rw[mV]
    exact pD fun k _=>by simp only[Function.comp,hμ]
   rw[this]
   exact .fn f ks (by simpa[D.idsC] using hd)
 |opt b d=>cases hn
 |top=>exact .top v
theorem D5 {σ:Nat→Nat}{hp bK:Hp}{g g2:Gh}{w:World}{m:Nat}{d:D}{v:Value}(h:aN hp g w (d.ren σ) v)(hd:d.idsB m=true)(hn:d.noOs=true)(hm:bK.next=m)
  (hμ:∀i,g2.μ i=g.μ (σ i)) (hτ:∀i,g2.τ i=g.τ (σ i)) (hF:g2.F=g.F) (hl:∀id y,bK.live.lookup id=some y→hp.live.lookup (σ id)=some y):aN bK g2 w d v:=by
 cases d with
 |ag ds=>
  have iR:∀d∈ds,D.idsC m d=true:=by simpa[D.idsB] using hd
  have wM:∀d∈ds,D.noO d=true:=by simpa[D.noOs] using hn
  cases h with
  |ag _ cs hlen h1 hr=>
   refine .ag ds cs (by simpa using hlen) h1 fun j d u h2 h3=>?_
   have:=hr j (d.renC σ) u (by rw[de,h2];rfl) h3
   exact je this (iR d (cc h2)) (wM d (cc h2)) hm hμ hτ hF hl
 |tu ds=>
  have iR:∀d∈ds,D.idsC m d=true:=by simpa[D.idsB] using hd
  have wM:∀d∈ds,D.noO d=true:=by simpa[D.noOs] using hn
  cases h with
  |tu _ cs hlen hr=>
   refine .tu ds cs (by simpa using hlen) fun j d u h2 h3=>?_
   have:=hr j (d.renC σ) u (by rw[de,h2];rfl) h3
   exact je this (iR d (cc h2)) (wM d (cc h2)) hm hμ hτ hF hl
 |e y=>exact je h hd hn hm hμ hτ hF hl
 |own id z n xs=>exact je h hd hn hm hμ hτ hF hl
 |fu z n xs=>exact je h hd hn hm hμ hτ hF hl
 |fp xs off=>exact je h hd hn hm hμ hτ hF hl
 |pt k off=>exact je h hd hn hm hμ hτ hF hl
 |ow k off z n=>exact je h hd hn hm hμ hτ hF hl
 |gw k z n=>exact je h hd hn hm hμ hτ hF hl
 |fn f ks=>exact je h hd hn hm hμ hτ hF hl
 |opt b d=>cases hn
 |top=>exact .top v
theorem MG {N0:Nat}{os:List Nat}(hs:∀o∈os,N0≤o)(hn:os.Nodup){i j:Nat}(hi:i<N0+os.length)(hj:j<N0+os.length)(h:sg N0 os i=sg N0 os j):i=j:=by
 unfold sg at h
 have get:∀k,¬k<N0→k<N0+os.length→∃hk:k - N0<os.length,os.getD (k - N0) 0=os[k - N0]:=fun k h1 h2=>⟨by omega,by simp[List.getD,ff (show k - N0<os.length by omega)]⟩
 by_cases h1:i<N0 <;> by_cases h2:j<N0
 ·simpa[h1,h2] using h
 ·obtain⟨hk,e⟩:=get j h2 hj
  simp only[h1,h2,ru,rt,lO,cond_false] at h
  rw[e] at h
  have:=hs _ (yz hk)
  omega
 ·obtain⟨hk,e⟩:=get i h1 hi
  simp only[h1,h2,ru,rt,lO,cond_false] at h
  rw[e] at h
  have:=hs _ (yz hk)
  omega
 ·obtain⟨hk,e⟩:=get i h1 hi
  obtain⟨tJ,e'⟩:=get j h2 hj
  simp only[h1,h2,rt,cond_false] at h
  rw[e,e'] at h
  have hp:=List.pairwise_iff_getElem.1 hn
  rcases yK (i - N0) (j - N0) with h3|h3|h3
  ·exact absurd h (hp _ _ hk tJ h3)
  ·omega
  ·exact absurd h.symm (hp _ _ tJ hk h3)
section
variable {P:Program} {tb:TypeId→Option TyE} {x:Cx} {tm tm':List (Nat×D)} {hp hp':Hp} {Q:Exit→List (Nat×D)→Hp→Prop}
theorem Wk.nilOwn0(k j:Nat)(e:TypeId)(z:Nat)(hz:0<z){ds:List D}(hk:hp.vars.lookup k=some ds)(hj:ds[j]? =some (.e (.lit (.slice none 0 0))))
 :Wk x tm hp tm ((hp.tok 0 (z,e)).set k (ds.set j (.own hp.next z 0 []))):=by
  intro a w hr
  obtain⟨g,hr,g8,hsz,ry,hB,hF,hM⟩:=hr
  have ho:=World.ownsRow_nil w x.B e z
  have AX:∀b,(Value.slice none 0 0).ownBlock=some b→w.heap.size≤b:=fun b hb=>by cases hb
  have NF:=hr.newTok (e:=(z,e)) hz (aL _) (fun _ _=>rfl) AX ho
  have m1:bO hp g w (hp.tok 0 (z,e)) (g.tok hp.next (.slice none 0 0) (0*z)) w:=bO.tok hp g (aL _) (fun _ _=>rfl) AX
  obtain⟨_,_,_,cs,ty,h1,h2,h3⟩:=NF.var k ds hk
  have Iq:=NF.setVar hk (ds.set j (.own hp.next z 0 [])) cs ty rfl (fun _ _=>rfl) h1 (by simpa using h2) (.same fun _=>rfl) (fun i u hu=>⟨fun h=>(h3 i u hu).1 (by simpa using h),fun d hd=>by
    by_cases Lz:j=i
    · subst Lz
      rw[I9 (by rcases ck j ds.length with h|h;exact h;rw[kw h] at hj;cases hj)] at hd
      injection hd with hd
      subst hd
      have hv:=((h3 j u hu).2 _ hj).lit
      subst hv
      refine .own _ _ _ _ _ (.sl _ 0 [] none 0 (fun _=>undef) (by simp) hz (aL _) (by decide) (fun h=>absurd h (by omega)) (fun _ h=>by cases h) (fun _ _ h=>by simp at h)) (cr _) (fun m e' hm=>?_)
      rw[show (Hp.tok hp _ _).live.lookup _=_ from ai] at hm
      injection hm with hm
      injection hm with h1 h2
      subst h1;subst h2
      exact⟨aL _,rfl,fun _=>(ay rfl).symm⟩
    · rw[List.getElem?_set_ne Lz] at hd
      exact (h3 i u hu).2 d hd⟩)
  have m2:=bO.setVar (w':=w) NF hk (ds.set j (.own hp.next z 0 [])) rfl (fun _ _=>rfl) (.same fun _=>rfl)
  exact⟨_,Iq,fun t d h=>((g8 t d h).mono m1).mono m2,hsz,ry,hB,fun p h1 h2=>Gh.tok_keep g _ (fun b hb=>by cases hb) p h1 (hF p h1 h2),(hM.trans m1).trans m2⟩
end
end
section
def rQ(tb:TypeId→Option TyE)(f:TypeId→List Value→Prop):List (Nat×TypeId)→Nat→List Value→Prop
 |[],_,us=>us=[]
 |(o,t)::fs,off,us=>o=off∧match tb t with
  |some j=>f t (us.take j.size)∧j.size≤us.length∧rQ tb f fs (off+j.size) (us.drop j.size)
  |none=>False
def mQ(tb:TypeId→Option TyE):Nat→TypeId→List Value→Prop
 |0,_,_=>False
 |d+1,t,us=>match tb t with
  |some i=>match i.ty with
   | .int k=>∃n,us=[.int k n]
   | .bool=>∃b,us=[.bool b]
   | .str=>∃s,us=[.string s]
   | .struct fs=>rQ tb (mQ tb d) fs 0 us
   | .arr n e=>match tb e with
    |some j=>us.length=n*j.size∧∀i,i<n→mQ tb d e ((us.drop (i*j.size)).take j.size)
    |none=>False
   |_=>False
  |none=>False
def kX(P:Program):Nat→TypeId→Bool
 |0,_=>true
 |d+1,t=>match P.underlying t with
  | some (.struct fs) => !P.stoodInHeld t && fs.toList.all fun f => f.name != "_" && kX P d f.type
  |some (.array _ e)=>kX P d e
  |_=>true
def valT(g:Bool)(us:List Value):Value:=if g then .agg us.toArray else us.getD 0 undef
section
variable {P:Program} {tb:TypeId→Option TyE}
theorem ug(tok:TOk P tb){t:TypeId}{j:TyE}(ht:tb t=some j)(us:List Value)(off:Nat)(w:World)(hl:off+j.size≤us.length)(h1:j.ty.agg=false→j.size=1):(part t us.toArray off).run P w=.ok (valT j.ty.agg ((us.drop off).take j.size)) w:=by
 unfold valT
 cases hg:j.ty.agg with
 |true=>
  rw[ss tok ht hg,ay rfl]
  congr 2
  apply jY.1
  simp
 |false=>
  have hz:=h1 hg
  rw[hz] at hl
  have bI:off<us.length:=by omega
  rw[sr tok ht hg us.toArray off us[off] (by simp[bI]),aA (by simp),hz,Ja bI]
  rfl
theorem GX {d:Nat}{t:TypeId}{i:TyE}{us:List Value}(ht:tb t=some i)(hg:i.ty.agg=false)(h:mQ tb d t us):∃u,us=[u]:=by
 cases d with
 |zero=>cases h
 |succ d=>
  unfold mQ at h
  rw[ht] at h
  dsimp only at h
  split at h
  ·obtain⟨n,h⟩:=h;exact⟨_,h⟩
  ·obtain⟨n,h⟩:=h;exact⟨_,h⟩
  ·obtain⟨n,h⟩:=h;exact⟨_,h⟩
  ·rename_i he;rw[he] at hg;cases hg
  ·rename_i he;rw[he] at hg;cases hg
  ·cases h
theorem Ds {α:Type}:∀(n z:Nat) (us vs:List α),us.length=n*z→vs.length=n*z→(∀i,i<n→(us.drop (i*z)).take z=(vs.drop (i*z)).take z)→us=vs
 |0,z,us,vs,h1,h2,_=>by
  rw[fe] at h1 h2
  rw[lb h1,lb h2]
 |n+1,z,us,vs,h1,h2,h=>by
  rw[rV] at h1 h2
  have h0:=h 0 (Nat.succ_pos n)
  simp only[fe,qA] at h0
  have hd:=Ds n z (us.drop z) (vs.drop z) (by rw[gi];omega) (by rw[gi];omega) fun i hi=>by
   have:=h (i+1) (by omega)
   rw[pj,pj,show z+i*z=(i+1)*z by rw[rV];omega]
   exact this
  rw[←tS z us,←tS z vs,h0,hd]
theorem Aa(tok:TOk P tb):∀(d D:Nat) (t:TypeId) (i:TyE) (us vs:List Value) (w:World),d≤D→tb t=some i→mQ tb d t us→mQ tb d t vs→kX P d t=true→
  ∃r,(Op.equalIn D t (valT i.ty.agg us) (valT i.ty.agg vs)).run P w=.ok r w∧(r=true↔us=vs)
 |0,_,_,_,_,_,_,_,_,h,_,_=>h.elim
 |d+1,0,_,_,_,_,_,h,_,_,_,_=>absurd h (by omega)
 |d+1,D+1,t,i,us,vs,w,hD,ht,hu,hv,hn=>by
  unfold mQ at hu hv
  rw[ht] at hu hv
  dsimp only at hu hv
  cases iU:i.ty with
  |int k=>
   rw[iU] at hu hv
   obtain⟨a,rfl⟩:=hu
   obtain⟨b,rfl⟩:=hv
   exact⟨a == b,run_equalIn_int w D t k k a b (tok.int ht iU),by simp⟩
  |bool=>
   rw[iU] at hu hv
   obtain⟨a,rfl⟩:=hu
   obtain⟨b,rfl⟩:=hv
   obtain⟨dd,Mc,GK⟩:=tok.und ht
   rw[iU] at GK
   have hb:P.underlying t=some .bool:=by cases dd <;> simp[Ty.of] at GK;exact Mc
   exact⟨a == b,run_equalIn_bool' w D t a b hb,by simp⟩
  |str=>
   rw[iU] at hu hv
   obtain⟨a,rfl⟩:=hu
   obtain⟨b,rfl⟩:=hv
   exact⟨_,run_equalIn_string w D t a b (tok.str ht iU),by rw[D0];simp⟩
  |slice e=>rw[iU] at hu;cases hu
  |other=>rw[iU] at hu;cases hu
  |struct fs=>
   rw[iU] at hu hv
   dsimp only at hu hv
   obtain⟨fields,hf,Fw⟩:=tok.struct ht iU
   have hfo:P.fieldsOf t=fields:=by unfold Program.fieldsOf;rw[hf]
   unfold kX at hn
   rw[hf] at hn
   simp only[eC,vQ,bV,bne_iff_ne,ne_eq] at hn
   have key : ∀ (l : List Field) (off : Nat) (ue oM : List Value), (∀ f ∈ l, f.name ≠ "_" ∧ kX P d f.type = true) → off ≤ us.length → off ≤ vs.length → us.drop off = ue → vs.drop off = oM → rQ tb (mQ tb d) (l.map fun f => (f.offset, f.type)) off ue → rQ tb (mQ tb d) (l.map fun f => (f.offset, f.type)) off oM →
     ∃r,(Op.eqFields D us.toArray vs.toArray l).run P w=.ok r w∧(r=true↔ue=oM):=by
    intro l
    induction l with
    |nil=>
     intro off ue oM _ _ _ _ _ h1 h2
     have e1:ue=[]:=h1
     have e2:oM=[]:=h2
     subst e1;subst e2
     exact⟨true,by simp[Op.eqFields],by simp⟩
    |cons f l ih=>
     intro off ue oM hl ou ov h1 h2 h3 h4
     obtain⟨rO,hnf⟩:=hl f (pk ..)
     simp only[cD,rQ] at h3 h4
     obtain⟨ho,h3⟩:=h3
     obtain⟨_,h4⟩:=h4
     cases hj:tb f.type with
     |none=>rw[hj] at h3;cases h3
     |some j=>
      rw[hj] at h3 h4
      obtain⟨f1,l1,r1⟩:=h3
      obtain⟨f2,l2,r2⟩:=h4
      have lu:off+j.size≤us.length:=by rw[←h1,gi] at l1;omega
      have lv:off+j.size≤vs.length:=by rw[←h2,gi] at l2;omega
      have hz:j.ty.agg=false→j.size=1:=by
       intro hg
       obtain⟨u,hu⟩:=GX hj hg f1
       have:=congrArg List.length hu
       simp at this
       omega
      obtain⟨ra,ha1,ha2⟩:=Aa tok d D f.type j _ _ w (by omega) hj f1 f2 hnf
      obtain⟨rb,cE,lR⟩:=ih (off+j.size) (ue.drop j.size) (oM.drop j.size) (fun g hg=>hl g (nV _ hg)) lu lv (by rw[←h1,pj]) (by rw[←h2,pj]) r1 r2
      have pu:=ug tok hj us off w lu hz
      have pv:=ug tok hj vs off w lv hz
      rw[h1] at pu
      rw[h2] at pv
      have rl:ue=oM↔ue.take j.size=oM.take j.size∧ue.drop j.size=oM.drop j.size:=
       ⟨fun h=>by rw[h];exact⟨rfl,rfl⟩,fun h=>by rw[←tS j.size ue,h.1,h.2,tS]⟩
      refine⟨if ra=true then rb else false,?_,?_⟩
      ·unfold Op.eqFields
       rw[ay rO,ho]
       simp only[Sem.run_bind,pu,pv,ha1,Result.andThen_ok]
       cases ra
       ·simp
       ·simpa using cE
      ·rw[rl,←ha2,←lR]
       cases ra <;> simp
   obtain⟨r,NF,Iq⟩:=key fields.toList 0 us vs (fun f hfm=>hn.2 f hfm) (dU _) (dU _) rfl rfl (by rw[Fw];exact hu) (by rw[Fw];exact hv)
   refine⟨r,?_,Iq⟩
   show (Op.equalIn (D+1) t (.agg us.toArray) (.agg vs.toArray)).run P w=_
   rw[run_equalIn_struct w D t _ _ (by rw[hfo];exact hf) hn.1,hfo]
   exact NF
  |arr n e=>
   rw[iU] at hu hv
   dsimp only at hu hv
   cases hj:tb e with
   |none=>rw[hj] at hu;cases hu
   |some j=>
    rw[hj] at hu hv
    obtain⟨lu,fu⟩:=hu
    obtain⟨lv,fv⟩:=hv
    have hf:=tok.arr ht iU
    unfold kX at hn
    rw[hf] at hn
    dsimp only at hn
    have hz:0<n→j.ty.agg=false→j.size=1:=by
     intro h0 hg
     obtain⟨u,hu⟩:=GX hj hg (fu 0 h0)
     have:=congrArg List.length hu
     have h2:j.size≤us.length:=by rw[lu];exact BJ _ h0
     simp at this
     omega
    have iR:us=vs↔∀i∈List.range' 0 n 1,(us.drop (i*j.size)).take j.size=(vs.drop (i*j.size)).take j.size:=
     ⟨fun h i _=>by rw[h],fun h=>Ds n j.size us vs lu lv fun i hi=>h i (by simp[List.mem_range'_1,hi])⟩
    have hl:∀i∈List.range' 0 n 1,i<n:=fun i hi=>by simpa using (List.mem_range'_1.1 hi).2
    show ∃r,(Op.equalIn (D+1) t (.agg us.toArray) (.agg vs.toArray)).run P w=.ok r w∧_
    rw[Op.equalIn,iR]
    simp only[Sem.run_bind,run_underlying hf,Result.andThen_ok,tok.run_sizeOf hj,Std.Legacy.Range.forIn_eq_forIn_range',Std.Legacy.Range.size,BG,Bu,mX]
    clear iR
    generalize List.range' 0 n 1=l at hl ⊢
    induction l with
    |nil=>exact⟨true,by simp,by simp⟩
    |cons i l ih=>
     have hi:i<n:=hl i (pk ..)
     have hm:i*j.size+j.size≤n*j.size:=by rw[←rV];exact ci _ hi
     have pu:=ug tok hj us (i*j.size) w (by omega) (hz (by omega))
     have pv:=ug tok hj vs (i*j.size) w (by omega) (hz (by omega))
     obtain⟨ra,ha1,ha2⟩:=Aa tok d D e j _ _ w (by omega) hj (fu i hi) (fv i hi) hn
     obtain⟨rb,cE,lR⟩:=ih fun i hi=>hl i (nV _ hi)
     refine⟨if ra=true then rb else false,?_,?_⟩
     ·simp only[List.forIn_cons,Sem.run_bind,pu,pv,ha1,Result.andThen_ok]
      cases ra
      ·simp
      ·simp only[eo,KO,qB,Sem.run_pure,Result.andThen_ok,aM]
       exact cE
     ·rw[List.forall_mem_cons,←ha2,←lR]
      cases ra <;> simp
theorem ag_eql(tok:TOk P tb){t:TypeId}{i:TyE}{us vs:List Value}{p:Prop}[Decidable p]{k:Value→Prop}(d:Nat)(hd:d≤10000)(ht:tb t=some i)(hg:i.ty.agg=true)(hm:P.eqGuardType P.depth t=false)(hn:kX P d t=true)(hu:mQ tb d t us)(hv:mQ tb d t vs)(hp:us=vs↔p)(hk:k (.bool (decide p))):
  ∃r,(∀w,(do eqGuard .eql t (.tmp 0) (.tmp 0) (.agg us.toArray) (.agg vs.toArray);binOp .eql t (.agg us.toArray) (.agg vs.toArray):Sem Value).run P w=.ok r w)∧r.oneCell'=true∧k r:=by
 refine⟨_,fun w=>?_,rfl,hk⟩
 obtain⟨r,h1,h2⟩:=Aa tok d 10000 t i us vs w hd ht hu hv hn
 rw[hg] at h1
 have s6:(Op.equalIn 10000 t (.agg us.toArray) (.agg vs.toArray)).run P w=.ok r w:=h1
 rw[Sem.run_bind,run_eqGuard_agg w .eql t _ _ _ _ hm]
 simp only[Result.andThen_ok]
 rw[run_eql_struct,s6]
 simp only[Result.andThen_ok]
 congr 2
 rw[Dv,h2,hp]
 simp
theorem ag_neq(tok:TOk P tb){t:TypeId}{i:TyE}{us vs:List Value}{p:Prop}[Decidable p]{k:Value→Prop}(d:Nat)(hd:d≤10000)(ht:tb t=some i)(hg:i.ty.agg=true)(hm:P.eqGuardType P.depth t=false)(hn:kX P d t=true)(hu:mQ tb d t us)(hv:mQ tb d t vs)(hp:us=vs↔p)(hk:k (.bool (decide (¬p)))):
  ∃r,(∀w,(do eqGuard .neq t (.tmp 0) (.tmp 0) (.agg us.toArray) (.agg vs.toArray);binOp .neq t (.agg us.toArray) (.agg vs.toArray):Sem Value).run P w=.ok r w)∧r.oneCell'=true∧k r:=by
 refine⟨_,fun w=>?_,rfl,hk⟩
 obtain⟨r,h1,h2⟩:=Aa tok d 10000 t i us vs w hd ht hu hv hn
 rw[hg] at h1
 have s6:(Op.equalIn 10000 t (.agg us.toArray) (.agg vs.toArray)).run P w=.ok r w:=h1
 rw[Sem.run_bind,run_eqGuard_agg w .neq t _ _ _ _ hm]
 simp only[Result.andThen_ok]
 rw[run_neq_struct,s6]
 simp only[Result.andThen_ok]
 congr 2
 rw[Dv,decide_eq_true_iff,←hp,←h2]
 cases r <;> simp
theorem O2(tok:TOk P tb)(d:Nat)(hd:d≤10000){t:TypeId}{i:TyE}{xs ys:List D}{us vs:List Value}{p:Prop}{k:Value→Prop}(ht:tb t=some i)(hg:i.ty.agg=true)(hm:P.eqGuardType P.depth t=false)(hn:kX P d t=true)(hx:kN xs=some us)(hy:kN ys=some vs)(hu:mQ tb d t us)(hv:mQ tb d t vs)(hp:us=vs↔p)(_inst:Decidable p)(hk:k (.bool (decide p))):ph P .eql t (.ag xs) (.ag ys) k:=by
 simp only[ph,hx,hy]
 exact ag_eql tok d hd ht hg hm hn hu hv hp hk
theorem O1(tok:TOk P tb)(d:Nat)(hd:d≤10000){t:TypeId}{i:TyE}{xs ys:List D}{us vs:List Value}{p:Prop}{k:Value→Prop}(ht:tb t=some i)(hg:i.ty.agg=true)(hm:P.eqGuardType P.depth t=false)(hn:kX P d t=true)(hx:kN xs=some us)(hy:kN ys=some vs)(hu:mQ tb d t us)(hv:mQ tb d t vs)(hp:us=vs↔p)(_inst:Decidable p)(hk:k (.bool (decide (¬p)))):ph P .neq t (.ag xs) (.ag ys) k:=by
 simp only[ph,hx,hy]
 exact ag_neq tok d hd ht hg hm hn hu hv hp hk
end
end
section
section
variable {w:World} {F:Addr→Prop}
theorem kU.e_inv {x:E}{v:Value}(h:kU w F (.e x) v):cH w F x v:=by
 unfold kU at h
 cases h with
 |e _ _ h=>exact h
theorem aB.of1 {P:Program}{f:FuncId}{d r:D}(hf:Jz P f)(h:∀(w:World) (F:Addr→Prop) (v:Value),(∀p:Addr,F p→p.block<w.heap.size)→kU w F d v→Calls P f #[v] w fun e w'=>∃u,e=.returned u∧tj w.heap.size F w' r u∧Below w.heap.size w w'):aB P f [d] r:=by
 refine⟨hf,fun w F vs hF hsz uj=>?_⟩
 obtain⟨v,rfl⟩:∃v,vs=#[v]:=by
  rcases vs with⟨_|⟨v,_|⟨u,l⟩⟩⟩ <;> simp at hsz
  exact⟨v,rfl⟩
 exact h w F v hF (uj 0 d v rfl rfl)
theorem sl_rep {z n:Nat}{xs:List E}{v:Value}(h:cH w F (.sl z n xs) v):∃us,Sl w v z n us∧Pw (cH w F) xs us:=by
 cases h with
 |sl _ _ _ A c ue hl hz oY n7 hA hc hr=>
  have h':cH w F (.sl z n xs) (.slice A n c):=.sl z n xs A c ue hl hz oY n7 hA hc hr
  obtain⟨h1,h2,h3,h4,h5,us,h6,h7,h8⟩:=h'.reads
  refine⟨us,⟨A,c,rfl,oY,n7,h6,fun hn=>?_⟩,h8⟩
  obtain⟨ad,rfl,hb⟩:=h5 hn
  exact⟨ad,rfl,hb,fun j u hu=>(h7 ad rfl j u hu).1⟩
theorem own_rep(hfits:∀p:Addr,F p→p.block<w.heap.size){w':World}{e:TypeId}{z n:Nat}{xs:List E}{us:List Value}{q:Value}(hz:0<z)(ho:w'.ownsRow w.heap.size e z q n us)(hb:Below w.heap.size w w')(uD:Pw (cH w F) xs us):cH w' (fun p=>F p∨Value.tail q (n*z) p) (.sl z n xs) q:=by
 have hF:∀p:Addr,p.block<w.heap.size→(F p∨Value.tail q (n*z) p)→F p:=by
  rintro p hp (h|⟨b,h1,h2,_⟩)
  ·exact h
  ·have:=(ho.lt b h1).1;omega
 have hpw':=uD.imp (fun _ _ h=>h.mono (F':=fun p=>F p∨Value.tail q (n*z) p) hb.size (fun p hp _=>hb.cell hp) hF)
 have kO:w'.ownsRow w.heap.size e z q (0+n) ([]++us):=by simpa using ho
 -- no cell of the row is forbidden:its block is new
 have:=cH.appended (n:=0) (m:=n) (xs:=[]) (us:=[]) hz kO Pw.nil hpw' (fun b j hbq hj=>by
  rintro (hf|⟨b',h1,h2,h3⟩)
  ·have h4:=(ho.lt b hbq).1
   have h5:b<w.heap.size:=hfits _ hf
   omega
  ·have h4:n*z≤j:=h3
   rw[bq] at hj
   omega)
 simpa using this
end
end
theorem jK {α:Type}(f:α→List E){z:Nat}(hz:∀a,(f a).length=z)(l:List α):(l.flatMap f).length=l.length*z:=by
 induction l with
 |nil=>simp
 |cons a l ih=>rw[qz,eU,hz,ih,mj,bk,dh,pi]
theorem LJ {α:Type}[Inhabited α](f:α→List E){z:Nat}(hz:∀a,(f a).length=z){l:List α}{i:Nat}(h:i<l.length){c:Nat}(hc:c<z):(l.flatMap f).getD (i*z+c) .any=(f l[i]!).getD c .any:=by
 induction l generalizing i with
 |nil=>simp at h
 |cons a l ih=>
  cases i with
  |zero=>
   simp only[qz,fe,bq,List.getD,List.getElem!_cons_zero]
   rw[vP (by rw[hz];exact hc)]
  |succ i=>
   have:=ih (i:=i) (by simpa using h)
   rw[List.getElem!_cons_succ,←this]
   simp only[qz,List.getD]
   rw[tW (by rw[hz,bk];omega),hz]
   congr 2
   rw[bk]
   omega
theorem kJ {α:Type}(f:α→List E){z:Nat}(hz:∀a,(f a).length=z):∀(l:List α) (i:Nat),(l.flatMap f).take (i*z)=(l.take i).flatMap f
 |[],i=>by simp
 |a::l,0=>by simp
 |a::l,i+1=>by
  rw[qz,List.take_succ_cons,qz,←kJ f hz l i,I8,hz,jL (by rw[hz,bk];omega),bk]
  congr 2
  omega
theorem m8 {α:Type}(f:α→List E){z:Nat}(hz:∀a,(f a).length=z):∀(l:List α) (i:Nat),(l.flatMap f).drop (i*z)=(l.drop i).flatMap f
 |[],i=>by simp
 |a::l,0=>by simp
 |a::l,i+1=>by
  rw[qz,List.drop_succ_cons,←m8 f hz l i,Pb,hz,List.drop_eq_nil_of_le (by rw[hz,bk];omega),bk,pN]
  congr 2
  omega
section
structure Cd(α:Type) where
 sz:Nat
 f:α→List E
 h:∀a,(f a).length=sz
def cI(k:IntKind):Cd Int:=⟨1,fun n=>[.lit (.int k n)],fun _=>rfl⟩
def cS:Cd ByteArray:=⟨1,fun s=>[.lit (.string s)],fun _=>rfl⟩
def cB:Cd Bool:=⟨1,fun b=>[.lit (.bool b)],fun _=>rfl⟩
def slE {α:Type}(c:Cd α)(l:List α):E:=.sl c.sz l.length (l.flatMap c.f)
def cL {α:Type}(c:Cd α):Cd (List α):=⟨1,fun l=>[slE c l],fun _=>rfl⟩
def cA {α:Type}(n:Nat)(c:Cd α):Cd (Vector α n):=⟨n*c.sz,fun v=>v.toList.flatMap c.f,fun v=>by rw[jK c.f c.h,mY]⟩
abbrev dI(k:IntKind)(n:Int):D:=.e (.lit (.int k n))
abbrev dS(s:ByteArray):D:=.e (.lit (.string s))
abbrev dB(b:Bool):D:=.e (.lit (.bool b))
abbrev dN:D:=.e (.lit (.slice none 0 0))
abbrev dL {α:Type}(c:Cd α)(l:List α):D:=.e (slE c l)
abbrev dO {α:Type}(id:Nat)(c:Cd α)(l:List α):D:=.own id c.sz l.length (l.flatMap c.f)
abbrev dF {α:Type}(c:Cd α)(l:List α):D:=.fu c.sz l.length (l.flatMap c.f)
abbrev dG {α:Type}(c:Cd α)(a:α):D:=.ag ((c.f a).map .e)
theorem ltb {a b:Nat}(h:Nat.ble (a+1) b=true):a<b:=bg h
theorem leb {a b:Nat}(h:Nat.ble a b=true):a≤b:=bg h
def gd {R:Type}(c:Prop)[Decidable c](k:Option R):Option R:=if c then k else none
def cnd {R:Type}(b:Bool)(x y:Option R):Option R:=match b with|true=>x|false=>y
def bnd {S R:Type}(x:Option S)(k:S→Option R):Option R:=match x with|some s=>k s|none=>none
theorem aC {R:Type}{c:Prop}[Decidable c]{k:Option R}{r:R}(h:gd c k=some r):c∧k=some r:=by
 unfold gd at h
 split at h
 ·exact⟨by assumption,h⟩
 ·cases h
theorem aJ {R:Type}{c:Prop}[Decidable c]{k:Option R}(h:c:=by omega):gd c k=k:=ay h
theorem a3 {R:Type}{b:Bool}{x y:Option R}{r:R}(hb:b=true)(h:cnd b x y=some r):x=some r:=by subst hb;exact h
theorem a4 {R:Type}{b:Bool}{x y:Option R}{r:R}(hb:b=false)(h:cnd b x y=some r):y=some r:=by subst hb;exact h
theorem ah {S R:Type}{x:Option S}{k:S→Option R}{r:R}(h:bnd x k=some r):∃s,x=some s∧k s=some r:=by
 unfold bnd at h
 split at h
 ·exact⟨_,rfl,h⟩
 ·cases h
theorem ab {S R:Type}(s:S)(k:S→Option R):bnd (some s) k=k s:=rfl
def rM {S X:Type}(b:S→Option (S⊕X)):Nat→S→Option X
 |0,_=>none
 |n+1,s=>match b s with
  |some (.inl s')=>rM b n s'
  |some (.inr x)=>some x
  |none=>none
theorem AJ {S X:Type}{b:S→Option (S⊕X)}:∀{n:Nat} {s:S} {x:X},rM b n s=some x→∀m,n≤m→rM b m s=some x
 |0,_,_,h,_,_=>by cases h
 |n+1,s,x,h,m,hm=>by
  obtain⟨m,rfl⟩:∃k,m=k+1:=⟨m - 1,by omega⟩
  unfold rM at h ⊢
  split at h
  ·exact AJ h m (by omega)
  ·exact h
  ·cases h
def a5 {S X:Type}(b:S→Option (S⊕X))(s:S):Option X:=open Classical in if h:∃n x,rM b n s=some x then rM b (Classical.choose h) s else none
theorem sy {S X:Type}{b:S→Option (S⊕X)}{s:S}{x:X}:a5 b s=some x↔∃n,rM b n s=some x:=by
 unfold a5
 constructor
 ·intro h
  split at h
  ·exact⟨_,h⟩
  ·cases h
 ·rintro⟨n,hn⟩
  have h:∃n x,rM b n s=some x:=⟨n,x,hn⟩
  rw[dif_pos h]
  obtain⟨y,hy⟩:=BB h
  rw[hy]
  have h1:=AJ hn (max n (Classical.choose h)) (E3 ..)
  have h2:=AJ hy (max n (Classical.choose h)) (EX ..)
  rw[h1] at h2
  exact h2.symm
theorem kB {S X:Type}{b:S→Option (S⊕X)}{s s':S}(h:b s=some (.inl s')):a5 b s=a5 b s':=by
 have key:∀x,a5 b s=some x↔a5 b s'=some x:=fun x=>by
  rw[sy,sy]
  constructor
  ·rintro⟨n,hn⟩
   cases n with
   |zero=>cases hn
   |succ n=>exact⟨n,by simpa[rM,h] using hn⟩
  ·rintro⟨n,hn⟩
   exact⟨n+1,by simpa[rM,h] using hn⟩
 cases h1:a5 b s with
 |some x=>exact ((key x).1 h1).symm
 |none=>
  cases h2:a5 b s' with
  |none=>rfl
  |some x=>rw[(key x).2 h2] at h1;cases h1
theorem fS {S X:Type}{b:S→Option (S⊕X)}{s:S}{x:X}(h:b s=some (.inr x)):a5 b s=some x:=
 sy.2 ⟨1,by simp[rM,h]⟩
theorem lz {S X:Type}{b:S→Option (S⊕X)}(G:Nat→S)(n m:Nat)(x:X)(Ma:n≤m)(hr:∀i,n≤i→i<m→b (G i)=some (.inl (G (i+1))))(he:b (G m)=some (.inr x)):a5 b (G n)=some x:=by
 obtain⟨k,rfl⟩:∃k,m=n+k:=⟨m - n,by omega⟩
 induction k generalizing n with
 |zero=>exact fS he
 |succ k ih=>
  rw[kB (hr n (aL _) (by omega))]
  exact ih (n+1) (by omega) (fun i h1 h2=>hr i (by omega) (by omega)) (by rw[show n+1+k=n+(k+1) by omega];exact he)
section
variable {P:Program} {tb:TypeId→Option TyE} {dr:Bool} {md:Md}
theorem n9.le {o:Oper}{ev:Operand→D}{hp hp':Hp}{d d2:D}(h:n9 P o ev hp d hp')(hl:d.le d2):n9 P o ev hp d2 hp':=
 fun B g w a Kn Q hr hx hk=>h B g w a Kn Q hr hx fun v g' w' h1 h2 h3 h4 h5=>hk v g' w' h1 h2 (h3.le hl) h4 h5
theorem m3.le {o:Oper}{ev:Operand→D}{hp hp':Hp}{d d2:D}(h:m3 P tb md o ev hp d hp')(hl:d.le d2):m3 P tb md o ev hp d2 hp':=
 ⟨h.ok.le hl,fun h1=>⟨(h.quiet h1).1,fun bK h3=>((h.quiet h1).2 bK h3).le hl⟩,h.fr,h.lk⟩
variable {ops:Array Oper} {K:List (Nat×D)→Hp→Prop} {os:List Oper} {tm:List (Nat×D)} {hp hp':Hp} {t:Tmp} {dst:Option Tmp} {op:Op} {ty:TypeId} {pos:String} {af:Array Edge} {d d2:D}
theorem st_le(tok:TOk P tb)(hn:md.nc tb op=true)(h:AVC P tb md.dr op ty (evD tm) hp (Kq d hp'))(hl:d.le d2)(h2:bC P tb md ops K os ((t,d2)::tm) hp'):bC P tb md ops K (⟨some t,op,ty,pos,af,none⟩::os) tm hp:=
 F3 rfl (((AVC.snd tok (o:=⟨some t,op,ty,pos,af,none⟩) h).q hn).le hl) h2
variable {j:Nat} {want c:Bool} {s:Tmp}
theorem go_t(tok:TOk P tb)(hn:md.nc tb op=true)(hj:(ops[j]?).bind (·.dst)=some s)(hc:tm.lookup s=some (.e (.lit (.bool c))))(hw:c=want)(h:AVC P tb md.dr op ty (evD tm) hp (Kq d hp'))(h2:bC P tb md ops K os ((t,d)::tm) hp'):bC P tb md ops K (⟨some t,op,ty,pos,af,some (j,want)⟩::os) tm hp:=
 st_on hj hc (by subst hw;cases c <;> rfl) ((AVC.snd tok (o:=⟨some t,op,ty,pos,af,some (j,want)⟩) h).q hn) h2
theorem JR(hp:Hp)(g:Gh)(w:World):aN hp g w (.tu []) undef:=.tu [] #[] rfl fun j d u h=>by simp at h
theorem aI(hj:(ops[j]?).bind (·.dst)=some s)(hc:tm.lookup s=some (.e (.lit (.bool c))))(hw:c= !want)(h2:bC P tb md ops K os ((t,.tu [])::tm) hp):bC P tb md ops K (⟨some t,op,ty,pos,af,some (j,want)⟩::os) tm hp:=
 .off (.tu []) (.inl ⟨s,c,hj,hc,by subst hw;cases want <;> rfl⟩) (fun _ _ _ _ _=>JR _ _ _) h2
theorem M6(hj:(ops[j]?).bind (·.dst)=some s)(hc:tm.lookup s=some (.tu []))(h2:bC P tb md ops K os ((t,.tu [])::tm) hp):bC P tb md ops K (⟨some t,op,ty,pos,af,some (j,want)⟩::os) tm hp:=
 .off (.tu []) (.inr ⟨s,hj,hc,rfl⟩) (fun _ _ _ _ _=>JR _ _ _) h2
theorem sq(tok:TOk P tb){f:FuncId}{aS:List Operand}{ts:Array TypeId}{ds:List D}{r:D}(hc:aB P f ds r)(hp1:((aS.map (evD tm)).map D.ex).all D.pure=true)(hl:leL ((aS.map (evD tm)).map D.ex) ds)(hr:r.pure=true∨∃ds,r=.tu ds)(h2:bC P tb md ops K os ((t,r)::tm) hp):
  bC P tb md ops K (⟨some t,.call ⟨.value (.func f),aS.toArray,ts⟩,ty,pos,af,none⟩::os) tm hp:=
 F3 rfl (MU tok rfl (aB.le hc hl) hp1 hr) h2
theorem sqg(tok:TOk P tb){f:FuncId}{aS:List Operand}{ts:Array TypeId}{ds:List D}{r:D}(hj:(ops[j]?).bind (·.dst)=some s)(hg:tm.lookup s=some (.e (.lit (.bool c))))(hw:c=want)(hc:aB P f ds r)(hp1:((aS.map (evD tm)).map D.ex).all D.pure=true)(hl:leL ((aS.map (evD tm)).map D.ex) ds)(hr:r.pure=true∨∃ds,r=.tu ds)(h2:bC P tb md ops K os ((t,r)::tm) hp):
  bC P tb md ops K (⟨some t,.call ⟨.value (.func f),aS.toArray,ts⟩,ty,pos,af,some (j,want)⟩::os) tm hp:=
 st_on hj hg (by subst hw;cases c <;> rfl) (MU tok rfl (aB.le hc hl) hp1 hr) h2
variable {ev:Operand→D} {x y:Operand}
theorem Fg(h:ev x=d:=by exact rfl):AVC P tb dr (.move x) ty ev hp (Kq d hp):=by rw[av_move,h];exact Kq.here _ _
theorem T_mv {t:Tmp}(h:tm.lookup t=some d:=by exact rfl):AVC P tb dr (.move (.tmp t)) ty (evD tm) hp (Kq d hp):=Fg (h:=by show (tm.lookup t).getD .top=d;rw[h];rfl)
theorem li {t:Tmp}(h:tm.lookup t=some d:=by exact rfl)(hk:LQ tb ty d hp (Kq d hp)=Kq d hp d hp:=by exact rfl):AVC P tb dr (.assign (.tmp t)) ty (evD tm) hp (Kq d hp):=by
 rw[yw,show evD tm (.tmp t)=d by show (tm.lookup t).getD .top=d;rw[h];rfl,hk];exact Kq.here _ _
theorem Hs(h:ev x=d:=by exact rfl)(hk:LQ tb ty d hp (Kq d hp)=Kq d hp d hp:=by exact rfl):AVC P tb dr (.assign x) ty ev hp (Kq d hp):=by rw[yw,h,hk];exact Kq.here _ _
theorem ep {vs:List (Nat×List D)}{lv:List (Nat×Nat×Nat×TypeId)}{N0:Nat}{e:TypeId}{i j:TyE}(ht:tb ty=some i)(he:tb e=some j)(h:ev x=dN:=by exact rfl)(hi:i.ty=.slice e:=by exact rfl)(hz:Nat.ble (0+1) (j.size)=true:=by exact rfl):AVC P tb dr (.assign x) ty ev ⟨vs,lv,N0⟩ (Kq (.own N0 j.size 0 []) ⟨vs,(N0,0,j.size,e)::lv,N0+1⟩):=by
 replace hz:=bg hz
 rw[yw,h,O8,ht]
 simp only[hi,he]
 exact⟨hz,Kq.here _ _⟩
theorem al {cn:Operand}{b:Bool}(hb:b=true)(hc:ev cn=dB b:=by exact rfl)(h:ev x=d:=by exact rfl):AVC P tb dr (.pick cn x y) ty ev hp (Kq d hp):=by
 subst hb;rw[KJ,hc,pickV_t,h];exact Kq.here _ _
theorem au {cn:Operand}{b:Bool}(hb:b=false)(hc:ev cn=dB b:=by exact rfl)(h:ev y=d:=by exact rfl):AVC P tb dr (.pick cn x y) ty ev hp (Kq d hp):=by
 subst hb;rw[KJ,hc,pickV_f,h];exact Kq.here _ _
theorem bZ {vs:List (Nat×List D)}{lv:List (Nat×Nat×Nat×TypeId)}{N0:Nat}{t:TypeId}{i:TyE}(ht:tb t=some i):AVC P tb dr (.alloc t) ty ev ⟨vs,lv,N0⟩ (Kq (.pt N0 0) ⟨(N0,(i.zero.map fun v=>.e (.lit v)))::vs,lv,N0+1⟩):=by
 rw[O7,LS,ht];exact Kq.here _ _
theorem iN {vs:List (Nat×List D)}{lv:List (Nat×Nat×Nat×TypeId)}{N0:Nat}{t:TypeId}{cs:List D}(h:(ev x).cells=some cs:=by exact rfl):AVC P tb dr (.box t x) ty ev ⟨vs,lv,N0⟩ (Kq (.pt N0 0) ⟨(N0,cs)::vs,lv,N0+1⟩):=by
 rw[av_box,boxV_eq,h];exact Kq.here _ _
theorem cY {t:TypeId}{i:TyE}{fs:List (Nat×TypeId)}{ps:List (Nat×Operand)}{qs:List (Nat×List D)}{es:List D}(ht:tb t=some i)(hi:i.ty=.struct fs:=by exact rfl)(ha:(fs.all fun f=>(tb f.2).isSome)=true:=by exact rfl)(hp1:kL (ps.map fun p=>(p.1,ev p.2))=some qs:=by exact rfl)(hf:fW (pw tb fs) (i.zero.map fun v=>D.e (.lit v)) qs=some es:=by exact rfl):
  AVC P tb dr (.build t ps.toArray) ty ev hp (Kq (.ag es) hp):=by
 rw[w4,uq,ht,hp1]
 simp only[hi,hf]
 exact⟨fun f hf=>(bV.1 ha) f hf,Kq.here _ _⟩
theorem lQ {t e:TypeId}{n:Nat}{i j:TyE}{ps:List (Nat×Operand)}{qs:List (Nat×List D)}{es:List D}(ht:tb t=some i)(he:tb e=some j)(hi:i.ty=.arr n e:=by exact rfl)(hp1:kL (ps.map fun p=>(p.1,ev p.2))=some qs:=by exact rfl)(hf:fW (fun n=>some (n*j.size,j.size)) (i.zero.map fun v=>D.e (.lit v)) qs=some es:=by exact rfl):
  AVC P tb dr (.build t ps.toArray) ty ev hp (Kq (.ag es) hp):=by
 rw[w4,uq,ht,hp1]
 simp only[hi,he,hf]
 exact Kq.here _ _
theorem iM {vs:List (Nat×List D)}{lv:List (Nat×Nat×Nat×TypeId)}{N0:Nat}{t e:TypeId}{i j:TyE}{n:Nat}{ps:List (Nat×Operand)}{qs:List (Nat×List D)}{es:List D}{xs:List E}(ht:tb t=some i)(he:tb e=some j)(hi:i.ty=.slice e:=by exact rfl)(hz:Nat.ble (0+1) (j.size)=true:=by exact rfl)(hn:Nat.ble ((n+1)*j.size) (16777216)=true:=by exact rfl)(hp1:kL (ps.map fun p=>(p.1,ev p.2))=some qs:=by exact rfl)(hf:fW (fun m=>some (m*j.size,j.size)) (List.replicate ((n+1)*j.size) (D.e .any)) qs=some es:=by exact rfl)(hc:sH es=some xs:=by exact rfl)(hd:dr=false:=by exact rfl):AVC P tb dr (.buildSlice t (n+1) ps.toArray) ty ev ⟨vs,lv,N0⟩ (Kq (.own N0 j.size (n+1) xs) ⟨vs,(N0,(n+1),j.size,e)::lv,N0+1⟩):=by
 replace hz:=bg hz
 replace hn:=bg hn
 subst hd
 rw[u4]
 unfold fc
 rw[ht,hp1]
 simp only[hi,he,hf,hc]
 exact⟨hz,hn,Kq.here _ _⟩
theorem yN {t e:TypeId}{i j:TyE}{n:Nat}{ps:List (Nat×Operand)}{qs:List (Nat×List D)}{es:List D}{xs:List E}(ht:tb t=some i)(he:tb e=some j)(hi:i.ty=.slice e:=by exact rfl)(hz:Nat.ble (0+1) (j.size)=true:=by exact rfl)(hn:Nat.ble ((n+1)*j.size) (16777216)=true:=by exact rfl)(hp1:kL (ps.map fun p=>(p.1,ev p.2))=some qs:=by exact rfl)(hf:fW (fun m=>some (m*j.size,j.size)) (List.replicate ((n+1)*j.size) (D.e .any)) qs=some es:=by exact rfl)(hc:sH es=some xs:=by exact rfl)(hd:dr=true:=by exact rfl):AVC P tb dr (.buildSlice t (n+1) ps.toArray) ty ev hp (Kq (.fu j.size (n+1) xs) hp):=by
 replace hz:=bg hz
 replace hn:=bg hn
 subst hd
 rw[u4]
 unfold fc
 rw[ht,hp1]
 simp only[hi,he,hf,hc]
 exact⟨hz,hn,Kq.here _ _⟩
theorem bc {t:TypeId}{i:TyE}{j off:Nat}{ds:List D}(ht:tb t=some i)(hg:i.ty.agg=false:=by exact rfl)(hx:ev x=.pt j off:=by exact rfl)(hv:hp.vars.lookup j=some ds:=by exact rfl)(hn:Nat.ble (j+1) (hp.next)=true:=by exact rfl)(hd:ds[off]? =some d:=by exact rfl):AVC P tb dr (.load t x) ty ev hp (Kq d hp):=by
 replace hn:=bg hn
 rw[qX,hx,nC,ht,hv]
 simp only[hg]
 exact⟨hn,d,hd,Kq.here _ _⟩
theorem bS {t:TypeId}{i:TyE}{j off:Nat}{ds es:List D}(ht:tb t=some i)(hg:i.ty.agg=true:=by exact rfl)(hx:ev x=.pt j off:=by exact rfl)(hv:hp.vars.lookup j=some ds:=by exact rfl)(hn:Nat.ble (j+1) (hp.next)=true:=by exact rfl)(hl:Nat.ble (off+i.size) (ds.length)=true:=by exact rfl)(hd:(ds.drop off).take i.size=es:=by exact rfl):AVC P tb dr (.load t x) ty ev hp (Kq (.ag es) hp):=by
 replace hn:=bg hn
 replace hl:=bg hl
 rw[qX,hx,nC,ht,hv]
 simp only[hg]
 exact⟨hn,hl,by rw[hd];exact Kq.here _ _⟩
theorem Kk {α:Type}[Inhabited α]{c:Cd α}{l:List α}{n o:Nat}{e:E}(hn:n<l.length)(ho:(c.f l[n]!)[o]? =some e):n*c.sz+o<(l.flatMap c.f).length∧(l.flatMap c.f).getD (n*c.sz+o) .any=e:=by
 have hoz:o<c.sz:=by
  rw[←c.h l[n]!]
  exact (pL.1 ho).1
 refine⟨?_,?_⟩
 ·rw[jK c.f c.h]
  have:(n+1)*c.sz≤l.length*c.sz:=ci _ hn
  rw[bk] at this
  omega
 ·rw[LJ c.f c.h hn hoz,List.getD,ho];rfl
theorem pm {α:Type}[Inhabited α]{t:TypeId}{i:TyE}{c:Cd α}{l:List α}{n o:Nat}{e:E}(ht:tb t=some i)(hn:n<l.length)(hg:i.ty.agg=false:=by exact rfl)(hx:ev x=.fp (l.flatMap c.f) (n*c.sz+o):=by exact rfl)(ho:(c.f l[n]!)[o]? =some e:=by exact rfl):AVC P tb dr (.load t x) ty ev hp (Kq (.e e) hp):=by
 obtain⟨h1,h2⟩:=Kk hn ho
 rw[qX,hx,Gw,ht]
 simp only[hg]
 refine⟨h1,?_⟩
 rw[h2]
 exact Kq.here _ _
theorem pl {α:Type}[Inhabited α]{t:TypeId}{i:TyE}{c:Cd α}{l:List α}{n o:Nat}{es:List E}(ht:tb t=some i)(hn:n<l.length)(ho:((c.f l[n]!).drop o).take i.size=es)(hg:i.ty.agg=true:=by exact rfl)(hx:ev x=.fp (l.flatMap c.f) (n*c.sz+o):=by exact rfl)(hoz:Nat.ble (o+i.size) (c.sz)=true:=by exact rfl):AVC P tb dr (.load t x) ty ev hp (Kq (.ag (es.map .e)) hp):=by
 replace hoz:=bg hoz
 have hlen:(c.f l[n]!).length=c.sz:=c.h _
 have hle:(es.map D.e)=(List.range i.size).map fun j=>D.e ((l.flatMap c.f).getD (n*c.sz+o+j) .any):=by
  subst ho
  refine KL fun j=>?_
  by_cases hj:j<i.size
  ·have pT:o+j<(c.f l[n]!).length:=by omega
   have h3:=Kk (o:=o+j) hn (ff pT)
   rw[de,de,gV,ay hj,pM,ff pT,Jb hj]
   simp only[nb,pK]
   rw[h3.2]
  ·rw[kw (by simp;omega),kw (by simp;omega)]
 rw[qX,hx,Gw,ht]
 simp only[hg]
 refine⟨?_,?_⟩
 ·rw[jK c.f c.h]
  have:(n+1)*c.sz≤l.length*c.sz:=ci _ hn
  rw[bk] at this
  omega
 ·rw[hle]
  exact Kq.here _ _
theorem dX {vs:List (Nat×List D)}{lv:List (Nat×Nat×Nat×TypeId)}{N0:Nat}{t:TypeId}{i:TyE}{j off:Nat}{ds cs ds':List D}(ht:tb t=some i)(hx:ev x=.pt j off:=by exact rfl)(hv:vs.lookup j=some ds:=by exact rfl)(hc:(ev y).cells=some cs:=by exact rfl)(hl:cs.length=i.size:=by exact rfl)(ho:Nat.ble (off+i.size) (ds.length)=true:=by exact rfl)(he:ds.take off++cs++ds.drop (off+cs.length)=ds':=by exact rfl):AVC P tb dr (.store t x y) ty ev ⟨vs,lv,N0⟩ (Kq .top ⟨(j,ds')::vs,lv,N0⟩):=by
 replace ho:=bg ho
 rw[Bq,hx,xG,ht,hv,hc]
 exact⟨hl,ho,by rw[he];exact Kq.here _ _⟩
theorem qH {o:BinOp}{t t':TypeId}{k k':IntKind}{a b:Int}{v:Value}(hx:ev x=dI k a)(hy:ev y=dI k' b)(h:ph P o t (dI k a) (dI k' b) fun u=>Kq (.e (.lit v)) hp (.e (.lit u)) hp):AVC P tb dr (.binOp o t x y t') ty ev hp (Kq (.e (.lit v)) hp):=by
 rw[tR,hx,hy];exact h
theorem T_add {t t':TypeId}{k:IntKind}{a b:Int}(hx:ev x=dI k a:=by exact rfl)(hy:ev y=dI k b:=by exact rfl):AVC P tb dr (.binOp .add t x y t') ty ev hp (Kq (dI k (k.wrap (a+b))) hp):=qH hx hy (by rw[bin_add];exact⟨rfl,Kq.here _ _⟩)
theorem T_sub {t t':TypeId}{k:IntKind}{a b:Int}(hx:ev x=dI k a:=by exact rfl)(hy:ev y=dI k b:=by exact rfl):AVC P tb dr (.binOp .sub t x y t') ty ev hp (Kq (dI k (k.wrap (a - b))) hp):=qH hx hy (by rw[bin_sub];exact⟨rfl,Kq.here _ _⟩)
theorem T_mul {t t':TypeId}{k:IntKind}{a b:Int}(hx:ev x=dI k a:=by exact rfl)(hy:ev y=dI k b:=by exact rfl):AVC P tb dr (.binOp .mul t x y t') ty ev hp (Kq (dI k (k.wrap (a*b))) hp):=qH hx hy (by rw[bin_mul];exact⟨rfl,Kq.here _ _⟩)
theorem Hr {t t':TypeId}{k:IntKind}{a b:Int}(hb:b≠0)(hx:ev x=dI k a:=by exact rfl)(hy:ev y=dI k b:=by exact rfl):AVC P tb dr (.binOp .quo t x y t') ty ev hp (Kq (dI k (k.wrap (a.tdiv b))) hp):=qH hx hy (by rw[bin_quo];exact⟨rfl,hb,Kq.here _ _⟩)
theorem DI {t t':TypeId}{k:IntKind}{a b:Int}(hb:b≠0)(hx:ev x=dI k a:=by exact rfl)(hy:ev y=dI k b:=by exact rfl):AVC P tb dr (.binOp .rem t x y t') ty ev hp (Kq (dI k (a.tmod b)) hp):=qH hx hy (by rw[bin_rem];exact⟨rfl,hb,Kq.here _ _⟩)
def GF(k:IntKind)(a b:Int):Int:=k.wrap (BitVec.ofInt k.bits a &&&BitVec.ofInt k.bits b).toNat
def ior(k:IntKind)(a b:Int):Int:=k.wrap (BitVec.ofInt k.bits a |||BitVec.ofInt k.bits b).toNat
def vt(k:IntKind)(a b:Int):Int:=k.wrap (a*2 ^ min b.toNat k.bits)
def lE(k:IntKind)(a b:Int):Int:=a.fdiv (2 ^ min b.toNat k.bits)
theorem T_and {t t':TypeId}{k:IntKind}{a b:Int}(hx:ev x=dI k a:=by exact rfl)(hy:ev y=dI k b:=by exact rfl):AVC P tb dr (.binOp .and t x y t') ty ev hp (Kq (dI k (GF k a b)) hp):=qH hx hy (by rw[bin_and];exact⟨rfl,Kq.here _ _⟩)
theorem T_or {t t':TypeId}{k:IntKind}{a b:Int}(hx:ev x=dI k a:=by exact rfl)(hy:ev y=dI k b:=by exact rfl):AVC P tb dr (.binOp .or t x y t') ty ev hp (Kq (dI k (ior k a b)) hp):=qH hx hy (by rw[bin_or];exact⟨rfl,Kq.here _ _⟩)
theorem Pn {t t':TypeId}{k k':IntKind}{a b:Int}(hb:0≤b)(hx:ev x=dI k a:=by exact rfl)(hy:ev y=dI k' b:=by exact rfl):AVC P tb dr (.binOp .shl t x y t') ty ev hp (Kq (dI k (vt k a b)) hp):=qH hx hy (by rw[bin_shl];exact⟨hb,Kq.here _ _⟩)
theorem Pm {t t':TypeId}{k k':IntKind}{a b:Int}(hb:0≤b)(hx:ev x=dI k a:=by exact rfl)(hy:ev y=dI k' b:=by exact rfl):AVC P tb dr (.binOp .shr t x y t') ty ev hp (Kq (dI k (lE k a b)) hp):=qH hx hy (by rw[bin_shr];exact⟨hb,Kq.here _ _⟩)
theorem T_eql {t t':TypeId}{k:IntKind}{a b:Int}(hx:ev x=dI k a:=by exact rfl)(hy:ev y=dI k b:=by exact rfl):AVC P tb dr (.binOp .eql t x y t') ty ev hp (Kq (dB (decide (a=b))) hp):=qH hx hy (by rw[bin_eql];exact⟨rfl,Kq.here _ _⟩)
theorem T_neq {t t':TypeId}{k:IntKind}{a b:Int}(hx:ev x=dI k a:=by exact rfl)(hy:ev y=dI k b:=by exact rfl):AVC P tb dr (.binOp .neq t x y t') ty ev hp (Kq (dB (decide (a≠b))) hp):=qH hx hy (by rw[bin_neq];exact⟨rfl,Kq.here _ _⟩)
theorem T_lss {t t':TypeId}{k:IntKind}{a b:Int}(hx:ev x=dI k a:=by exact rfl)(hy:ev y=dI k b:=by exact rfl):AVC P tb dr (.binOp .lss t x y t') ty ev hp (Kq (dB (decide (a<b))) hp):=qH hx hy (by rw[bin_lss];exact⟨rfl,Kq.here _ _⟩)
theorem T_leq {t t':TypeId}{k:IntKind}{a b:Int}(hx:ev x=dI k a:=by exact rfl)(hy:ev y=dI k b:=by exact rfl):AVC P tb dr (.binOp .leq t x y t') ty ev hp (Kq (dB (decide (a≤b))) hp):=qH hx hy (by rw[bin_leq];exact⟨rfl,Kq.here _ _⟩)
theorem T_gtr {t t':TypeId}{k:IntKind}{a b:Int}(hx:ev x=dI k a:=by exact rfl)(hy:ev y=dI k b:=by exact rfl):AVC P tb dr (.binOp .gtr t x y t') ty ev hp (Kq (dB (decide (b<a))) hp):=qH hx hy (by rw[bin_gtr];exact⟨rfl,Kq.here _ _⟩)
theorem T_geq {t t':TypeId}{k:IntKind}{a b:Int}(hx:ev x=dI k a:=by exact rfl)(hy:ev y=dI k b:=by exact rfl):AVC P tb dr (.binOp .geq t x y t') ty ev hp (Kq (dB (decide (b≤a))) hp):=qH hx hy (by rw[bin_geq];exact⟨rfl,Kq.here _ _⟩)
theorem Pq {t t':TypeId}{a b:Bool}(hu:P.underlying t=some .bool)(hx:ev x=dB a:=by exact rfl)(hy:ev y=dB b:=by exact rfl):AVC P tb dr (.binOp .eql t x y t') ty ev hp (Kq (dB (a == b)) hp):=by
 rw[tR,hx,hy,O0];exact⟨hu,Kq.here _ _⟩
theorem Pp {t t':TypeId}{a b:Bool}(hu:P.underlying t=some .bool)(hx:ev x=dB a:=by exact rfl)(hy:ev y=dB b:=by exact rfl):AVC P tb dr (.binOp .neq t x y t') ty ev hp (Kq (dB (!(a == b))) hp):=by
 rw[tR,hx,hy,OZ];exact⟨hu,Kq.here _ _⟩
theorem T_geql(tok:TOk P tb)(n:Nat)(hd:n≤10000){t t':TypeId}{i:TyE}{xs ys:List D}{us vs:List Value}{p:Prop}(ht:tb t=some i)(hg:i.ty.agg=true)(hm:P.eqGuardType P.depth t=false)(hn:kX P n t=true)(hx:ev x=.ag xs)(hy:ev y=.ag ys)(yb:kN xs=some us)(AO:kN ys=some vs)(hu:mQ tb n t us)(hv:mQ tb n t vs)(hp1:us=vs↔p)[inst:Decidable p]:AVC P tb dr (.binOp .eql t x y t') ty ev hp (Kq (dB (decide p)) hp):=by
 rw[tR,hx,hy];exact O2 tok n hd ht hg hm hn yb AO hu hv hp1 inst (Kq.here _ _)
theorem T_gneq(tok:TOk P tb)(n:Nat)(hd:n≤10000){t t':TypeId}{i:TyE}{xs ys:List D}{us vs:List Value}{p:Prop}(ht:tb t=some i)(hg:i.ty.agg=true)(hm:P.eqGuardType P.depth t=false)(hn:kX P n t=true)(hx:ev x=.ag xs)(hy:ev y=.ag ys)(yb:kN xs=some us)(AO:kN ys=some vs)(hu:mQ tb n t us)(hv:mQ tb n t vs)(hp1:us=vs↔p)[inst:Decidable p]:AVC P tb dr (.binOp .neq t x y t') ty ev hp (Kq (dB (decide (¬p))) hp):=by
 rw[tR,hx,hy];exact O1 tok n hd ht hg hm hn yb AO hu hv hp1 inst (Kq.here _ _)
theorem T_not {t:TypeId}{a:Bool}(hx:ev x=dB a:=by exact rfl):AVC P tb dr (.unOp .not t x) ty ev hp (Kq (dB (!a)) hp):=by rw[KI,hx,un_not];exact Kq.here _ _
theorem T_neg {t:TypeId}{k:IntKind}{a:Int}(hx:ev x=dI k a:=by exact rfl):AVC P tb dr (.unOp .neg t x) ty ev hp (Kq (dI k (k.wrap (0 - a))) hp):=by rw[KI,hx,un_neg];exact Kq.here _ _
theorem T_cvI {s t:TypeId}{i j:TyE}{k jk:IntKind}{n:Int}(hs:tb s=some i)(ht:tb t=some j)(hj:j.ty=.int jk:=by exact rfl)(hx:ev x=dI k n:=by exact rfl):AVC P tb dr (.convert s t x) ty ev hp (Kq (dI jk (jk.wrap n)) hp):=by
 rw[IT,hx,conv_eq,hs,ht];simp only[hj];exact Kq.here _ _
theorem T_fldC {s tt:TypeId}{i j:TyE}{f o:Nat}{fs:List (Nat×TypeId)}{ds:List D}(hs:tb s=some i)(ht:tb tt=some j)(hi:i.ty=.struct fs:=by exact rfl)(hf:fs[f]? =some (o,tt):=by exact rfl)(hg:j.ty.agg=false:=by exact rfl)(hx:ev x=.ag ds:=by exact rfl)(hd:ds[o]? =some d:=by exact rfl):AVC P tb dr (.field s x f) ty ev hp (Kq d hp):=by
 rw[O6,hx,LK,tO,hs]
 simp only[hi,hf,ht,hg]
 exact⟨d,hd,Kq.here _ _⟩
theorem T_faP {s tt:TypeId}{i j:TyE}{f o k off:Nat}{fs:List (Nat×TypeId)}(hs:tb s=some i)(ht:tb tt=some j)(hi:i.ty=.struct fs:=by exact rfl)(hf:fs[f]? =some (o,tt):=by exact rfl)(hz:Nat.ble 1 j.size=true:=by exact rfl)(hx:ev x=.pt k off:=by exact rfl):AVC P tb dr (.fieldAddr s x f) ty ev hp (Kq (.pt k (off+o)) hp):=by
 replace hz:j.size≠0:=by have:=bg hz;omega
 rw[wZ,hx,CM,tO,hs]
 simp only[hi,hf,ht]
 exact⟨hz,Kq.here _ _⟩
theorem T_faF {s tt:TypeId}{i j:TyE}{f o off:Nat}{xs:List E}{fs:List (Nat×TypeId)}(hs:tb s=some i)(ht:tb tt=some j)(hi:i.ty=.struct fs:=by exact rfl)(hf:fs[f]? =some (o,tt):=by exact rfl)(hz:Nat.ble 1 j.size=true:=by exact rfl)(hx:ev x=.fp xs off:=by exact rfl):AVC P tb dr (.fieldAddr s x f) ty ev hp (Kq (.fp xs (off+o)) hp):=by
 replace hz:j.size≠0:=by have:=bg hz;omega
 rw[wZ,hx,CN,tO,hs]
 simp only[hi,hf,ht]
 exact⟨hz,Kq.here _ _⟩
theorem fZ {t e:TypeId}{i j:TyE}{n:Nat}{xs:List E}{k:IntKind}{v:Int}(hb:0≤v∧v<(n:Int))(ht:tb t=some i)(he:tb e=some j)(hi:i.ty=.slice e:=by exact rfl)(hx:(ev x).asSl j.size=some (n,xs):=by exact rfl)(hy:ev y=dI k v:=by exact rfl):AVC P tb dr (.indexAddr t x y) ty ev hp (Kq (.fp xs (v.toNat*j.size)) hp):=by
 rw[sK,hy,rj,ht]
 simp only[hi,he,hx]
 exact⟨hb,Kq.here _ _⟩
theorem cl {t e:TypeId}{i j:TyE}{n m off:Nat}{k:IntKind}{v:Int}(hb:0≤v∧v<(n:Int))(ht:tb t=some i)(he:tb e=some j)(hi:i.ty=.arr n e:=by exact rfl)(hx:ev x=.pt m off:=by exact rfl)(hy:ev y=dI k v:=by exact rfl):AVC P tb dr (.indexAddr t x y) ty ev hp (Kq (.pt m (off+v.toNat*j.size)) hp):=by
 rw[sK,hx,hy,rj,ht]
 simp only[hi,he]
 exact⟨hb,Kq.here _ _⟩
def sAt(s:ByteArray)(n:Nat):Int:=((s.data.toList.getD n 0).toNat:Int)
theorem T_ixS {t:TypeId}{i:TyE}{s:ByteArray}{k:IntKind}{v:Int}(hb:0≤v∧v<(s.size:Int))(ht:tb t=some i)(hi:i.ty=.str:=by exact rfl)(hx:ev x=dS s:=by exact rfl)(hy:ev y=dI k v:=by exact rfl):AVC P tb dr (.index t x y) ty ev hp (Kq (dI .u8 (sAt s v.toNat)) hp):=by
 rw[O5,hx,hy,Lr,ht]
 simp only[hi]
 exact⟨hb,Kq.here _ _⟩
theorem T_ext {ds:List D}{i:Nat}(hx:ev x=.tu ds:=by exact rfl)(hd:ds[i]? =some d:=by exact rfl):AVC P tb dr (.extract x i) ty ev hp (Kq d hp):=by
 rw[IS,hx,G0,hd,OB];exact Kq.here _ _
theorem T_len {t e:TypeId}{i j:TyE}{n:Nat}{xs:List E}(ht:tb t=some i)(he:tb e=some j)(hi:i.ty=.slice e:=by exact rfl)(hx:(ev x).asSl j.size=some (n,xs):=by exact rfl):AVC P tb dr (.call ⟨.builtin .len,#[x],#[t]⟩) ty ev hp (Kq (dI .i64 n) hp):=by
 show jD tb .len [t] [ev x] hp _
 rw[zp,J5,ht]
 simp only[hi,he,hx]
 exact Kq.here _ _
theorem T_min {ts:Array TypeId}{k k':IntKind}{a b:Int}(hx:ev x=dI k a:=by exact rfl)(hy:ev y=dI k' b:=by exact rfl):AVC P tb dr (.call ⟨.builtin .min,#[x,y],ts⟩) ty ev hp (Kq (dI k (min a b)) hp):=by
 show jD tb .min ts.toList [ev x,ev y] hp _
 rw[hx,hy,Ha];exact Kq.here _ _
theorem T_max {ts:Array TypeId}{k k':IntKind}{a b:Int}(hx:ev x=dI k a:=by exact rfl)(hy:ev y=dI k' b:=by exact rfl):AVC P tb dr (.call ⟨.builtin .max,#[x,y],ts⟩) ty ev hp (Kq (dI k (max a b)) hp):=by
 show jD tb .max ts.toList [ev x,ev y] hp _
 rw[hx,hy,Hb];exact Kq.here _ _
theorem news_sl {t e:TypeId}{z m:Nat}{ys:List E}{i:TyE}{xd:D}{kn:Nat→List E→Prop}(ht:tb t=some i)(hi:i.ty=.slice e)(hs:xd.strOf=none)(hx:xd.asSl z=some (m,ys))(h:kn m ys):wz tb t z xd kn:=by
 rw[M7,ht];simp only[hi,hs,hx];exact h
theorem iS {vs:List (Nat×List D)}{lv:List (Nat×Nat×Nat×TypeId)}{N0:Nat}{α:Type}{t e:TypeId}{i j:TyE}{id m:Nat}{c:Cd α}{l l':List α}(ht:tb t=some i)(he:tb e=some j)(hf:(l++l').length*max 1 j.bytes≤140737488355328)(hi:i.ty=.slice e:=by exact rfl)(hz:Nat.ble (0+1) (j.size)=true:=by exact rfl)(hx:ev x=dO id c l:=by exact rfl)(hc:c.sz=j.size:=by exact rfl)(hl:lv.lookup id=some (l.length,j.size,e):=by exact rfl)(hs:(ev y).strOf=none:=by exact rfl)(hy:(ev y).asSl j.size=some (m,l'.flatMap c.f):=by exact rfl)(hm:m=l'.length:=by exact rfl):
  AVC P tb dr (.call ⟨.builtin .append,#[x,y],#[t,t]⟩) ty ev ⟨vs,lv,N0⟩ (Kq (dO id c (l++l')) ⟨vs,(id,(l++l').length,j.size,e)::lv,N0⟩):=by
 replace hz:=bg hz
 subst hm
 show jD tb .append [t,t] [ev x,ev y] _ _
 rw[hx,Bn,Hi,ht]
 simp only[hi,he]
 refine⟨hz,fun _=>trivial,fun h=>absurd hs h,news_sl ht hi hs hy ?_⟩
 refine⟨hc,hl,by rw[←eU];exact hf,?_⟩
 dsimp only[dO]
 rw[eU,BA,hc]
 exact Kq.here _ _
def HX {α:Type}(l:List α)(a b:Int):List α:=(l.drop a.toNat).take (b - a).toNat
theorem FZ {α:Type}{l:List α}{a b:Int}(h:0≤a∧a≤b∧b≤(l.length:Int)):(HX l a b).length=(b - a).toNat:=by
 simp only[HX,eL,gi];omega
theorem slE_sub {α:Type}{c:Cd α}{l:List α}{a b:Int}(h:0≤a∧a≤b∧b≤(l.length:Int)):E.sl c.sz (b - a).toNat (((l.flatMap c.f).drop (a.toNat*c.sz)).take ((b - a).toNat*c.sz))=slE c (HX l a b):=by
 unfold slE
 rw[FZ h,m8 c.f c.h,kJ c.f c.h];rfl
theorem T_sl {α:Type}{t e:TypeId}{i j:TyE}{c:Cd α}{l:List α}{n:Nat}{lo hi:Option Operand}{a b:Int}(hb:0≤a∧a≤b∧b≤(l.length:Int))(ht:tb t=some i)(he:tb e=some j)(Mb:i.ty=.slice e:=by exact rfl)(hc:c.sz=j.size:=by exact rfl)(hx:(ev x).asSl j.size=some (n,l.flatMap c.f):=by exact rfl)(hn:n=l.length:=by exact rfl)(A0:oD (lo.map ev) 0=fun k=>k a:=by exact rfl)(HH:oD (hi.map ev) n=fun k=>k b:=by exact rfl):AVC P tb dr (.slice t x lo hi none) ty ev hp (Kq (dL c (HX l a b)) hp):=by
 subst hn
 rw[O4]
 unfold As
 rw[ht]
 simp only[Mb,he,hx,A0,HH,Option.map_none]
 refine⟨hb,?_⟩
 rw[←hc,slE_sub hb]
 exact Kq.here _ _
theorem dP {x:Operand}{f:FuncId}{aS:List Operand}{ts:Array TypeId}{ds:List D}{r:D}(vy:ev x=.e (.lit (.func (.func f) #[] #[])))(hc:aB P f ds r)(hp1:((aS.map ev).map D.ex).all D.pure=true)(hl:leL ((aS.map ev).map D.ex) ds)(hr:r.pure=true∨∃ds,r=.tu ds):AVC P tb dr (.call ⟨.value x,aS.toArray,ts⟩) ty ev hp (Kq r hp):=by
 show sI P (hvB tb ⟨.value x,aS.toArray,ts⟩) (ev x) (aS.toArray.toList.map ev) hp (Kq r hp)
 rw[vy]
 refine⟨rfl,rfl,.inl ⟨hp1,r,aB.le hc hl,?_⟩⟩
 unfold Fd
 split
 ·rcases hr with hr|⟨_,hr⟩ <;> cases hr
 ·rcases hr with hr|⟨_,hr⟩ <;> cases hr
 ·exact Kq.here _ _
theorem Ac {vs:List (Nat×List D)}{lv:List (Nat×Nat×Nat×TypeId)}{N0:Nat}{x:Operand}{f:FuncId}{aS:List Operand}{ts:Array TypeId}{ds:List D}{e z n:Nat}{xs:List E}(vy:ev x=.e (.lit (.func (.func f) #[] #[])))(hc:aB P f ds (.own e z n xs))(hp1:((aS.map ev).map D.ex).all D.pure=true)(hl:leL ((aS.map ev).map D.ex) ds):AVC P tb dr (.call ⟨.value x,aS.toArray,ts⟩) ty ev ⟨vs,lv,N0⟩ (Kq (.own N0 z n xs) ⟨vs,(N0,n,z,e)::lv,N0+1⟩):=by
 show sI P (hvB tb ⟨.value x,aS.toArray,ts⟩) (ev x) (aS.toArray.toList.map ev) _ _
 rw[vy]
 exact⟨rfl,rfl,.inl ⟨hp1,_,aB.le hc hl,Kq.here _ _⟩⟩
theorem KR {x:Operand}{f:FuncId}{aS:List Operand}{ts:Array TypeId}{ds:List D}(vy:ev x=.e (.lit (.func (.func f) #[] #[])))(hc:HC P f ds hp d hp')(hd:aS.map ev=ds:=by exact rfl)(hh:hvB tb ⟨.value x,aS.toArray,ts⟩=true:=by exact rfl):AVC P tb dr (.call ⟨.value x,aS.toArray,ts⟩) ty ev hp (Kq d hp'):=by
 show sI P (hvB tb ⟨.value x,aS.toArray,ts⟩) (ev x) (aS.toArray.toList.map ev) hp _
 rw[vy]
 refine⟨rfl,rfl,.inr ⟨hh,d,hp',?_,Kq.here _ _⟩⟩
 show HC P f (aS.map ev) hp d hp'
 rw[hd];exact hc
theorem T_callF {x:Operand}{f:FuncId}{ks:List Nat}{aS:List Operand}{ts:Array TypeId}{ds:List D}(vy:ev x=.fn f ks)(hc:HC P f ds hp d hp')(hd:aS.map ev++ks.map (fun k=>D.pt k 0)=ds:=by exact rfl)(hh:hvB tb ⟨.value x,aS.toArray,ts⟩=true:=by exact rfl):AVC P tb dr (.call ⟨.value x,aS.toArray,ts⟩) ty ev hp (Kq d hp'):=by
 show sI P (hvB tb ⟨.value x,aS.toArray,ts⟩) (ev x) (aS.toArray.toList.map ev) hp _
 rw[vy]
 refine .inr ⟨hh,d,hp',?_,Kq.here _ _⟩
 show HC P f (aS.map ev++ks.map fun k=>.pt k 0) hp d hp'
 rw[hd];exact hc
theorem va {f:FuncId}{first cs:List Operand}{ks:List Nat}(h:first.length=0:=by exact rfl)(hc:zm (cs.map ev)=some ks:=by exact rfl)(hn:cs.length≠0:=by decide):AVC P tb dr (.makeFunc (.func f) first.toArray cs.toArray) ty ev hp (Kq (.fn f ks) hp):=by
 rw[Hg]
 show first.length=0∧_
 refine⟨h,?_⟩
 cases cs with
 |nil=>exact absurd rfl hn
 |cons c cs=>
  show (match zm ((c::cs).map ev) with|some ks=>yx (Kq (.fn f _) hp) hp (.fn f ks)|none=>False)
  rw[hc]
  exact Kq.here _ _
theorem Po {k off:Nat}(hx:ev x=.pt k off:=by exact rfl):AVC P tb dr (.nilCheck x) ty ev hp (Kq (.pt k off) hp):=by rw[Hf,hx,nilV_pt];exact Kq.here _ _
end
section
variable {P:Program} {tb:TypeId→Option TyE} {x:Cx} {tm tm':List (Nat×D)} {hp hp':Hp} {Q:Exit→List (Nat×D)→Hp→Prop}
theorem own_mtG(w:World)(e:TypeId)(base size:Nat)(hb:base≤w.heap.size):(w.alloc (.cells #[] e)).ownsRow base e size (.slice (some ⟨w.heap.size,0,none⟩) 0 0) 0 []:=
 ⟨by simp,.inr ⟨w.heap.size,0,#[],rfl,hb,heap_alloc_new w _,aL _,by decide,by simp,by simp⟩⟩
theorem OV {f:FuncId}{e z n:Nat}{xs:List E}(hz:0<z)(hf:Jz P f)(h:∀(us:List Value) (v:Value) (w:World),Sl w v z n us→(∀u∈us,u.oneCell'=true)→Calls P f #[v] w fun en w'=>∃q,en=.returned q∧w'.ownsRow w.heap.size e z q n us∧Below w.heap.size w w'):aB P f [.e (.sl z n xs)] (.own e z n xs):=
 aB.of1 hf fun w F v hF hv=>by
  have hv:=hv.e_inv
  obtain⟨us,L6,uD⟩:=sl_rep hv
  refine (h us v w L6 (fun u hu=>by
   obtain⟨j,hj⟩:=zq hu
   have bI:j<xs.length:=by
    rw[uD.1]
    rcases ck j us.length with h|h
    ·exact h
    ·rw[kw h] at hj;cases hj
   exact (uD.2 j _ u (ff bI) hj).one)).mono ?_
  rintro en w' ⟨q,rfl,ho,hb⟩
  exact⟨q,rfl,⟨hz,⟨us,ho⟩,own_rep hF hz ho hb uD⟩,hb⟩
theorem AW.loopO {c:Code}{S X:Type}{b:S→Option (S⊕X)}(T:S→List (Nat×D))(H:S→Hp)(QX:X→Exit→List (Nat×D)→Hp→Prop)
  (round:∀s y,b s=some y→AW P x c (T s) (H s) fun ex tm' hp'=>match y with| .inl s'=>ex=.normal∧Wk x tm' hp' (T s') (H s')| .inr e=>ex≠.normal∧QX e ex tm' hp')
  {s:S} {e:X} (h:a5 b s=some e) (hw:Wk x tm hp (T s) (H s)):AW P x (.loop c) tm hp (QX e):=by
 obtain⟨n,hn⟩:=sy.1 h
 refine AW.loop (fun n tm hp=>∃s,tm=T s∧hp=H s∧rM b n s=some e) (n:=n) hw ⟨s,rfl,rfl,hn⟩ ?_
 rintro n tm hp ⟨s,rfl,rfl,hs⟩
 cases n with
 |zero=>cases hs
 |succ n=>
  unfold rM at hs
  split at hs
  ·rename_i s' hb
   refine AW.mono (round s _ hb) ?_
   rintro ex tm' hp' ⟨rfl,L5⟩
   exact⟨n,_,_,cr _,L5,s',rfl,rfl,hs⟩
  ·rename_i e' hb
   injection hs with hs
   subst hs
   refine AW.mono (round s _ hb) ?_
   rintro ex tm' hp' ⟨h1,h2⟩
   cases ex with
   |normal=>exact absurd rfl h1
   |_=>exact h2
  ·cases hs
def wkT(σ:Nat→Nat)(m:Nat)(tm:List (Nat×D)):List (Nat×D)→Prop
 |[]=>True
 |(t,d)::l=>((∃d0,tm.lookup t=some d0∧d0.le (d.ren σ))∧d.idsB m=true∧d.noOs=true)∧wkT σ m tm l
def wkV(σ:Nat→Nat)(m:Nat)(vs:List (Nat×List D)):List (Nat×List D)→Prop
 |[]=>True
 |(k,ds)::l=>(k<m∧(∃tP,vs.lookup (σ k)=some tP∧wh tP (ds.map (D.renC σ)))∧ds.all (D.idsC m)=true∧ds.all D.noO=true)∧wkV σ m vs l
def wkL(σ:Nat→Nat)(m:Nat)(lv:List (Nat×Nat×Nat×TypeId)):List (Nat×Nat×Nat×TypeId)→Prop
 |[]=>True
 |(k,y)::l=>(k<m∧lv.lookup (σ k)=some y)∧wkL σ m lv l
theorem JD {σ:Nat→Nat}{m:Nat}:∀{l:List (Nat×D)},wkT σ m tm l→∀p∈l,(∃d0,tm.lookup p.1=some d0∧d0.le (p.2.ren σ))∧p.2.idsB m=true∧p.2.noOs=true
 |_::_,h,_,.head _=>h.1
 |_::_,h,p,.tail _ hp=>JD h.2 p hp
theorem se {σ:Nat→Nat}{m:Nat}{vs:List (Nat×List D)}:∀{l:List (Nat×List D)},wkV σ m vs l→∀p∈l,p.1<m∧(∃tP,vs.lookup (σ p.1)=some tP∧wh tP (p.2.map (D.renC σ)))∧p.2.all (D.idsC m)=true∧p.2.all D.noO=true
 |_::_,h,_,.head _=>h.1
 |_::_,h,p,.tail _ hp=>se h.2 p hp
theorem ud {σ:Nat→Nat}{m:Nat}{lv:List (Nat×Nat×Nat×TypeId)}:∀{l:List (Nat×Nat×Nat×TypeId)},wkL σ m lv l→∀p∈l,p.1<m∧lv.lookup (σ p.1)=some p.2
 |_::_,h,_,.head _=>h.1
 |_::_,h,p,.tail _ hp=>ud h.2 p hp
theorem Wk.to {vars':List (Nat×List D)}{pJ:List (Nat×Nat×Nat×TypeId)}{m:Nat}(N0:Nat)(os:List Nat)(h0:x.hp0.next=N0)(hs:(os.all fun o=>decide (N0≤o))=true)(wb:os.Nodup)(hm:m=N0+os.length)
  (ht:wkT (sg N0 os) m tm tm') (hv:wkV (sg N0 os) m hp.vars vars') (hl:wkL (sg N0 os) m hp.live pJ):Wk x tm hp tm' ⟨vars',pJ,m⟩:=by
 have hs:∀o∈os,N0≤o:=by simpa using hs
 intro a w ⟨g,hr,g8,hsz,ry,hB,hF,hM⟩
 subst h0 hm
 have fa:∀id y,(⟨vars',pJ,x.hp0.next+os.length⟩:Hp).live.lookup id=some y→hp.live.lookup (sg x.hp0.next os id)=some y:=fun id y h=>(ud hl _ (cg h)).2
 have bI:∀i,i<x.hp0.next→sg x.hp0.next os i=i:=fun i hi=>by unfold sg;simp[hi]
 refine⟨⟨fun i=>g.μ (sg x.hp0.next os i),fun i=>g.τ (sg x.hp0.next os i),g.F⟩,⟨fun k ds hk=>?_,fun k k' ds ds' hk tJ he=>?_,fun id n e hi=>?_,fun id zb t t' b hi zf hb qr=>?_,hr.base,hr.fits⟩,fun t d h=>?_,hsz,ry,hB,hF,
  ⟨hM.size,hM.cell,hM.forb,oF _ _,fun k hk=>by show g.μ _=_;rw[bI k hk];exact hM.μ k hk,fun id hid n e N3=>?_,fun b hb hf=>⟨(hM.fr b hb hf).1,(hM.fr b hb hf).2.1,fun k ds hk=>by obtain⟨_,⟨_,h,_⟩,_⟩:=se hv _ (cg hk);exact (hM.fr b hb hf).2.2.1 _ _ h,fun id t hi=>(hM.fr b hb hf).2.2.2 _ t (fa id _ hi)⟩,hM.szs⟩⟩
 ·obtain⟨h1,⟨tP,h2,sD⟩,h3,h4⟩:=se hv _ (cg hk)
  obtain⟨_,h5,h6,cs,ty,h7,h8,h9⟩:=hr.var _ _ h2
  have h3':∀d∈ds,D.idsC (x.hp0.next+os.length) d=true:=by simpa using h3
  have h4':∀d∈ds,D.noO d=true:=by simpa using h4
  have Ez:=rA sD
  refine⟨h1,h5,h6,cs,ty,h7,by rw[eG] at Ez;have LI:tP.length=ds.length:=Ez.symm;omega,fun j u hu=>⟨fun h=>(h9 j u hu).1 (by rw[eG] at Ez;have LI:tP.length=ds.length:=Ez.symm;have h12:j<ds.length:=h;omega),fun d hd=>?_⟩⟩
  obtain⟨d0,Es,hle⟩:=tr sD (j:=j) (d':=d.renC (sg x.hp0.next os)) (by rw[de,hd];rfl)
  exact je (((h9 j u hu).2 d0 Es).leC hle) (h3' d (cc hd)) (h4' d (cc hd)) rfl (fun _=>rfl) (fun _=>rfl) rfl fa
 ·obtain⟨h1,⟨_,h2,_⟩,_⟩:=se hv _ (cg hk)
  obtain⟨s6,⟨_,sD,_⟩,_⟩:=se hv _ (cg tJ)
  exact MG hs wb h1 s6 (hr.inj _ _ _ _ h2 sD he)
 ·obtain⟨h1,h2⟩:=ud hl _ (cg hi)
  obtain⟨_,us,h3,h4,h5⟩:=hr.tok _ n e h2
  exact⟨h1,us,h3,h4,fun b hb=>⟨(h5 b hb).1,fun k ds hk=>by
   obtain⟨_,⟨_,h6,_⟩,_⟩:=se hv _ (cg hk)
   exact (h5 b hb).2 _ _ h6⟩⟩
 ·obtain⟨h1,h2⟩:=ud hl _ (cg hi)
  obtain⟨s6,sD⟩:=ud hl _ (cg zf)
  exact MG hs wb h1 s6 (hr.tinj _ _ _ _ b h2 sD hb qr)
 ·obtain⟨⟨d0,h1,hle⟩,h2,h3⟩:=JD ht _ (cg h)
  exact D5 ((g8 t _ h1).le hle) h2 h3 rfl (fun _=>rfl) (fun _=>rfl) rfl fa
 ·obtain⟨m0,h1,h2,h3⟩:=hM.live id hid n e (by rw[←bI id hid];exact fa id _ N3)
  exact⟨m0,h1,h2,fun h=>by show g.τ _=_;rw[bI id hid];exact h3 h⟩
theorem ao(d:D):d.le d:=.inl (.inl rfl)
theorem fT {d d':D}(h:d=d'):d.le d':=h▸ao d
theorem qT(d:D):d.le d.ex:=.inr (.inl rfl)
theorem If {z:Nat}(hz:0<z):D.le dN (.e (.sl z 0 [])):=.inl (.inr (.inr ⟨rfl,z,hz,rfl⟩))
theorem lD {ds ds':List D}(h:wh ds ds'):D.le (.ag ds) (.ag ds'):=.inr (.inr ⟨ds,ds',rfl,rfl,h⟩)
theorem bY {t:Tmp}{d:D}{k:D→Prop}(h:tm.lookup t=some d)(hk:k d):pq tb tm hp (.tmp t) k:=⟨d,h,hk⟩
theorem MK {p:Tmp}{ty:TypeId}{j off:Nat}{i:TyE}{ds:List D}{d:D}{k:D→Prop}(h:tm.lookup p=some (.pt j off))(ht:tb ty=some i)(hg:i.ty.agg=false)(hv:hp.vars.lookup j=some ds)(hn:j<hp.next)(hd:ds[off]? =some d)(hk:k d):pq tb tm hp (.cell p ty) k:=by
 refine⟨_,h,⟨i,ht⟩,?_⟩
 rw[nC,ht,hv]
 simp only[hg]
 exact⟨hn,d,hd,hk⟩
theorem eD {p:Tmp}{ty:TypeId}{j off:Nat}{i:TyE}{ds es:List D}{k:D→Prop}(h:tm.lookup p=some (.pt j off))(ht:tb ty=some i)(hg:i.ty.agg=true)(hv:hp.vars.lookup j=some ds)(hn:j<hp.next)(hl:off+i.size≤ds.length)(hd:(ds.drop off).take i.size=es)(hk:k (.ag es)):pq tb tm hp (.cell p ty) k:=by
 refine⟨_,h,⟨i,ht⟩,?_⟩
 rw[nC,ht,hv]
 simp only[hg]
 exact⟨hn,hl,by rw[hd];exact hk⟩
theorem fK.own {t:Tmp}{id e z n:Nat}{xs:List E}(h:tm.lookup t=some (.own id z n xs))(hl:hp.live.lookup id=some (n,z,e)):fK tb [.tmp t] tm hp (.own e z n xs):=⟨_,h,.inr (.inl ⟨id,e,z,n,xs,rfl,hl,rfl⟩)⟩
end
theorem dG_noC {α:Type}(c:Cd α)(a:α)(σ:Nat→Nat):((c.f a).map D.e).map (D.renC σ)=(c.f a).map D.e:=by
 rw[mV];exact pD fun _ _=>rfl
theorem qw {α:Type}(c:Cd α)(a:α)(σ:Nat→Nat):(dG c a).ren σ=dG c a:=by
 show D.ag (((c.f a).map D.e).map (D.renC σ))=_
 rw[dG_noC]
theorem le_G {α:Type}{c:Cd α}{a:α}{σ:Nat→Nat}{d:D}(h:d.le (dG c a)):d.le ((dG c a).ren σ):=by rw[qw];exact h
theorem ids_G {α:Type}(c:Cd α)(a:α)(m:Nat):(dG c a).idsB m=true:=by
 show ((c.f a).map D.e).all (D.idsC m)=true
 rw[BF];exact bV.2 fun _ _=>rfl
theorem noO_G {α:Type}(c:Cd α)(a:α):(dG c a).noOs=true:=by
 show ((c.f a).map D.e).all D.noO=true
 rw[BF];exact bV.2 fun _ _=>rfl
theorem jf {α:Type}(c:Cd α)(a:α):(dG c a).pure=true:=by
 show ((c.f a).map D.e).all D.pureC=true
 rw[BF];exact bV.2 fun _ _=>rfl
theorem jM {α:Type}(c:Cd α)(a:α){z:Nat}(h:c.sz=z):((c.f a).drop 0).take z=c.f a:=by
 rw[qA,jL (by rw[c.h,h];exact aL _)]
theorem AW.condT {P:Program}{x:Cx}{Q:Exit→List (Nat×D)→Hp→Prop}{tm:List (Nat×D)}{hp:Hp}{c:Operand}{c1 c2:Code}{b:Bool}(hc:evD tm c=.e (.lit (.bool b)))(hb:b=true)(h:AW P x c1 tm hp Q):AW P x (.cond c c1 c2) tm hp Q:=
 AW.condS hc (fun _=>h) fun hf=>by rw[hb] at hf;cases hf
theorem AW.condF {P:Program}{x:Cx}{Q:Exit→List (Nat×D)→Hp→Prop}{tm:List (Nat×D)}{hp:Hp}{c:Operand}{c1 c2:Code}{b:Bool}(hc:evD tm c=.e (.lit (.bool b)))(hb:b=false)(h:AW P x c2 tm hp Q):AW P x (.cond c c1 c2) tm hp Q:=
 AW.condS hc (fun hf=>by rw[hb] at hf;cases hf) fun _=>h
theorem wk {x:Cx}{tm tm':List (Nat×D)}{hp:Hp}{vars':List (Nat×List D)}{pJ:List (Nat×Nat×Nat×TypeId)}{m:Nat}(h0:x.hp0=⟨[],[],0⟩)(os:List Nat)(ht:wkT (sg 0 os) m tm tm')(hv:wkV (sg 0 os) m hp.vars vars')(hl:wkL (sg 0 os) m hp.live pJ)(wb:os.Nodup:=by decide)(hm:m=0+os.length:=by exact rfl):Wk x tm hp tm' ⟨vars',pJ,m⟩:=
 Wk.to 0 os (by rw[h0]) (by simp) wb hm ht hv hl
theorem wkN {x:Cx}{tm tm':List (Nat×D)}{hp:Hp}{vars':List (Nat×List D)}{pJ:List (Nat×Nat×Nat×TypeId)}{m N0:Nat}(h0:x.hp0.next=N0)(os:List Nat)(ht:wkT (sg N0 os) m tm tm')(hv:wkV (sg N0 os) m hp.vars vars')(hl:wkL (sg N0 os) m hp.live pJ)(hs:(os.all fun o=>decide (N0≤o))=true:=by decide)(wb:os.Nodup:=by decide)(hm:m=N0+os.length:=by exact rfl):Wk x tm hp tm' ⟨vars',pJ,m⟩:=
 Wk.to N0 os h0 hs wb hm ht hv hl
theorem Wk.nilOwn {x:Cx}{tm:List (Nat×D)}{vs:List (Nat×List D)}{lv:List (Nat×Nat×Nat×TypeId)}{N0:Nat}(k j:Nat)(e:TypeId)(z:Nat){ds ds':List D}(hz:Nat.ble 1 z=true:=by exact rfl)(hk:vs.lookup k=some ds:=by exact rfl)(hj:ds[j]? =some dN:=by exact rfl)(hd:ds.set j (.own N0 z 0 [])=ds':=by exact rfl):Wk x tm ⟨vs,lv,N0⟩ tm ⟨(k,ds')::vs,(N0,0,z,e)::lv,N0+1⟩:=by
 subst hd
 exact Wk.nilOwn0 (hp:=⟨vs,lv,N0⟩) k j e z (leb hz) hk hj
theorem Wk.trans {x:Cx}{tm tm' tm'':List (Nat×D)}{hp hp' NJ:Hp}(h:Wk x tm hp tm' hp')(h':Wk x tm' hp' tm'' NJ):Wk x tm hp tm'' NJ:=fun a w hr=>h' a w (h a w hr)
theorem bn {α:Type}(c:Cd α)(a:α):(D.ex (dG c a)).pure=true:=by
 have:D.ex (dG c a)=dG c a:=by
  show D.ag (((c.f a).map D.e).map D.exC)=_
  rw[mV];rfl
 rw[this];exact jf c a
section
variable {σ:Nat→Nat} {m k t:Nat} {tm l:List (Nat×D)} {d d0 d':D} {ds tP ds':List D} {vs lv:List (Nat×List D)} {ll l2:List (Nat×Nat×Nat×TypeId)} {y:Nat×Nat×TypeId}
theorem wT(h1:tm.lookup t=some d0)(h2:d0.le (d.ren σ))(h3:d.idsB m=true)(h4:d.noOs=true)(hl:wkT σ m tm l):wkT σ m tm ((t,d)::l):=⟨⟨⟨_,h1,h2⟩,h3,h4⟩,hl⟩
theorem wR(h1:tm.lookup t=some (d.ren σ))(hl:wkT σ m tm l)(h3:d.idsB m=true:=by exact rfl)(h4:d.noOs=true:=by exact rfl):wkT σ m tm ((t,d)::l):=⟨⟨⟨_,h1,ao _⟩,h3,h4⟩,hl⟩
theorem vR(h1:vs.lookup (σ k)=some (ds.map (D.renC σ)))(hl:wkV σ m vs lv)(h0:Nat.ble (k+1) m=true:=by exact rfl)(h3:ds.all (D.idsC m)=true:=by exact rfl)(h4:ds.all D.noO=true:=by exact rfl):wkV σ m vs ((k,ds)::lv):=⟨⟨ltb h0,⟨_,h1,rz _⟩,h3,h4⟩,hl⟩
theorem wG {α:Type}{c:Cd α}{a:α}(h1:tm.lookup t=some d0)(h2:d0.le (dG c a))(hl:wkT σ m tm l):wkT σ m tm ((t,dG c a)::l):=⟨⟨⟨_,h1,le_G h2⟩,ids_G _ _ _,noO_G _ _⟩,hl⟩
theorem wL(h0:Nat.ble (k+1) m=true)(h1:ll.lookup (σ k)=some y)(hl:wkL σ m ll l2):wkL σ m ll ((k,y)::l2):=⟨⟨ltb h0,h1⟩,hl⟩
theorem wc(h:d.leC d')(hl:wh ds ds'):wh (d::ds) (d'::ds'):=⟨h,hl⟩
theorem gY(d:D):d.leC d:=.inl rfl
theorem GA(d:D):d.leC d.exC:=.inr (.inl rfl)
theorem vq {z:Nat}(h:Nat.ble 1 z=true):D.leC dN (.e (.sl z 0 [])):=.inr (.inr ⟨rfl,z,leb h,rfl⟩)
theorem wTn:wkT σ m tm []:=trivial
theorem wVn:wkV σ m vs []:=trivial
theorem wLn:wkL σ m ll []:=trivial
theorem wcn:wh [] []:=trivial
theorem lAn:leL [] []:=trivial
theorem lA(h:d.le d')(hl:leL ds ds'):leL (d::ds) (d'::ds'):=⟨h,hl⟩
end
theorem rH0 {x:Cx}{tb:TypeId→Option TyE}{tm:List (Nat×D)}{hp hp':Hp}(hw:Wk x tm hp [] hp'):∃tm',Wk x tm hp tm' hp'∧v4 tb [] tm' hp' (.tu []):=⟨_,hw,rfl⟩
theorem rH1 {x:Cx}{tb:TypeId→Option TyE}{tm:List (Nat×D)}{hp hp':Hp}{t:Tmp}{d:D}(hw:Wk x tm hp [(t,d)] hp'):∃tm',Wk x tm hp tm' hp'∧v4 tb [.tmp t] tm' hp' d:=⟨_,hw,_,ai,rfl⟩
theorem fK.mk1 {tb:TypeId→Option TyE}{tm:List (Nat×D)}{hp:Hp}{q:ResultVar}{r:D}(h:pq tb tm hp q fun d=>(d.ex.pure=true∧r=d.ex)∨(∃id e z n xs,d=.own id z n xs∧hp.live.lookup id=some (n,z,e)∧r=.own e z n xs)∨∃d2,d.le d2∧d2.pure=true∧r=d2):fK tb [q] tm hp r:=h
theorem fK.mk2 {tb:TypeId→Option TyE}{tm:List (Nat×D)}{hp:Hp}{q q':ResultVar}{r:D}(h:pq tb tm hp q fun d=>pq tb tm hp q' fun d'=>((d.ex.pure=true∧d'.ex.pure=true)∧r=.tu [d.ex,d'.ex])∨∃e e',d.le e∧d'.le e'∧(e.pure=true∧e'.pure=true)∧r=.tu [e,e']):fK tb [q,q'] tm hp r:=h
theorem fK.mk3 {tb:TypeId→Option TyE}{tm:List (Nat×D)}{hp:Hp}{q q' H7:ResultVar}{r:D}(h:pq tb tm hp q fun d=>pq tb tm hp q' fun d'=>pq tb tm hp H7 fun Mg=>((d.ex.pure=true∧d'.ex.pure=true∧Mg.ex.pure=true)∧r=.tu [d.ex,d'.ex,Mg.ex])∨∃e e' e'',d.le e∧d'.le e'∧Mg.le e''∧(e.pure=true∧e'.pure=true∧e''.pure=true)∧r=.tu [e,e',e'']):fK tb [q,q',H7] tm hp r:=h
end
section
def dg(b A j:Nat):Nat:=A / b ^ j % b
section
variable {b A B n k j p x:Nat}
theorem OJ(hb:0<b):dg b A j<b:=dA _ hb
theorem kZ(h:A<b ^ j):dg b A j=0:=by unfold dg;rw[dv h,Nat.zero_mod]
theorem ge:A % b ^ (k+1)=A % b ^ k+b ^ k*dg b A k:=Nat.mod_pow_succ
theorem cm:A / b ^ k=A / b ^ (k+1)*b+dg b A k:=by
 unfold dg
 rw[eH,←gb,cj]
 exact (og _ _).symm
theorem mR(hj:j<k):dg b (A % b ^ k) j=dg b A j:=by
 unfold dg
 obtain⟨m,rfl⟩:∃m,k=j+(m+1):=⟨k - j - 1,by omega⟩
 rw[gy,Nat.mod_mul_right_div_self,eH,Nat.mod_mul_left_mod]
theorem Kz(hb:0<b)(hj:k≤j):dg b (A % b ^ k) j=0:=
 kZ (bW (dA _ (cJ hb)) (g9 hb hj))
theorem OK(hA:A<b ^ n)(hB:B<b ^ n)(h:∀j,j<n→dg b A j=dg b B j):A=B:=by
 have key:∀k,k≤n→A % b ^ k=B % b ^ k:=by
  intro k
  induction k with
  |zero=>intro _;simp[mm]
  |succ k ih=>intro hk;rw[ge,ge,ih (by omega),h k (by omega)]
 have:=key n (aL _)
 rwa[dK hA,dK hB] at this
def up1(b A p x:Nat):Nat:=A / b ^ (p+1)*b ^ (p+1)+x*b ^ p+A % b ^ p
theorem MB:A=A / b ^ (p+1)*b ^ (p+1)+dg b A p*b ^ p+A % b ^ p:=by
 have h1:=og A (b ^ (p+1))
 rw[ge] at h1
 rw[cj (dg b A p),pK,pi (b ^ p*dg b A p),cj (A / b ^ (p+1))]
 exact h1.symm
theorem HT:up1 b A p x+dg b A p*b ^ p=A+x*b ^ p:=by
 have h:=MB (b:=b) (A:=A) (p:=p)
 unfold up1
 omega
theorem part_lt(hb:0<b)(hx:x<b):x*b ^ p+A % b ^ p<b ^ (p+1):=by
 have h1:A % b ^ p<b ^ p:=dA _ (cJ hb)
 have h2:(x+1)*b ^ p≤b*b ^ p:=ci _ hx
 rw[bk,dh] at h2
 rw[eH,cj (b ^ p) b]
 omega
theorem JI(hb:0<b)(hx:x<b):up1 b A p x / b ^ (p+1)=A / b ^ (p+1):=by
 unfold up1
 rw[pK,pi,I7 _ _ (cJ hb),dv (part_lt hb hx),bq]
theorem JH(hb:0<b):up1 b A p x % b ^ p=A % b ^ p:=by
 unfold up1
 have e:A / b ^ (p+1)*b ^ (p+1)+x*b ^ p+A % b ^ p=A % b ^ p+(A / b ^ (p+1)*b+x)*b ^ p:=by
  rw[eH,bk]
  have:A / (b ^ p*b)*(b ^ p*b)=A / (b ^ p*b)*b*b ^ p:=by rw[eV,cj b]
  omega
 rw[e,I6,yH]
theorem dg_up1(hb:0<b)(hx:x<b):dg b (up1 b A p x) j=if j=p then x else dg b A j:=by
 rcases yK j p with h|h|h
 ·rw[ifn_,←mR (A:=up1 b A p x) h,JH hb,mR h]
 ·subst h
  rw[ay rfl]
  have h1:dg b (up1 b A j x) j*b ^ j=x*b ^ j:=by
   have e1:=MB (b:=b) (A:=up1 b A j x) (p:=j)
   rw[JI hb hx,JH hb] at e1
   have e2:up1 b A j x=A / b ^ (j+1)*b ^ (j+1)+x*b ^ j+A % b ^ j:=rfl
   omega
  exact Nat.eq_of_mul_eq_mul_right (cJ hb) h1
 ·rw[ifn_]
  obtain⟨m,rfl⟩:∃m,j=(p+1)+m:=⟨j - p - 1,by omega⟩
  unfold dg
  rw[gy,←gb,←gb,JI hb hx]
def vN(b n A:Nat):Vector Int n:=Vector.ofFn fun i=>(dg b A i.val:Int)
theorem iQ {n:Nat}(h:j<n):(vN b n A)[j]! =(dg b A j:Int):=by
 rw[gF (vN b n A) j h]
 unfold vN
 rw[Jp]
theorem nz {n:Nat}{v w:Vector Int n}(h:∀i,i<n→v[i]! =w[i]!):v=w:=by
 apply Vector.ext
 intro i hi
 have:=h i hi
 rwa[gF v i hi,gF w i hi] at this
theorem oT {n:Nat}{v:Vector Int n}{i j:Nat}{y:Int}(hj:j<n):(v.set! i y)[j]! =if j=i then y else v[j]! :=by
 rw[gF (v.set! i y) j hj,gF v j hj]
 show (v.setIfInBounds i y)[j]=_
 rw[Vector.getElem_setIfInBounds]
 by_cases h:i=j
 ·rw[ay h,ay h.symm]
 ·rw[aA h,aA fun e=>h e.symm]
theorem xA {n:Nat}(hb:0<b)(hx:x<b)(_hp:p<n):(vN b n A).set! p (x:Int)=vN b n (up1 b A p x):=by
 apply nz
 intro j hj
 rw[oT hj,iQ hj,iQ hj,dg_up1 hb hx]
 split <;> rfl
theorem DV {n:Nat}(_hb:0<b):vN b n (A % b ^ n)=vN b n A:=by
 apply nz
 intro j hj
 rw[iQ hj,iQ hj,mR hj]
theorem vN_inj {n:Nat}(hA:A<b ^ n)(hB:B<b ^ n)(h:vN b n A=vN b n B):A=B:=by
 apply OK hA hB
 intro j hj
 have e1:=iQ (b:=b) (A:=A) hj
 rw[h,iQ hj] at e1
 omega
theorem qP {n:Nat}:vN b n 0=Vector.replicate n 0:=by
 apply nz
 intro j hj
 rw[iQ hj,gF _ j hj,Vector.getElem_replicate]
 unfold dg
 simp
def fQ(b:Nat)(f:Nat→Nat):Nat→Nat
 |0=>0
 |n+1=>fQ b f n+f n*b ^ n
theorem zU(hb:0<b){f:Nat→Nat}:∀n,(∀j,j<n→f j<b)→fQ b f n<b ^ n
 |0,_=>by simp[fQ]
 |n+1,h=>by
  have ih:=zU hb n fun j hj=>h j (by omega)
  have h1:=h n (by omega)
  have h2:(f n+1)*b ^ n≤b*b ^ n:=ci _ h1
  rw[bk,dh] at h2
  rw[eH,cj (b ^ n) b]
  unfold fQ
  omega
theorem EF(hb:0<b){f:Nat→Nat}:∀n,(∀j,j<n→f j<b)→∀j,j<n→dg b (fQ b f n) j=f j
 |0,_,j,hj=>by omega
 |n+1,h,j,hj=>by
  have h0:∀j,j<n→f j<b:=fun j hj=>h j (by omega)
  have bI:=zU hb n h0
  by_cases yi:j=n
  ·subst yi
   unfold dg fQ
   rw[I7 _ _ (cJ hb),dv bI,bq,dK (h j (by omega))]
  ·have e:dg b (fQ b f (n+1)) j=dg b (fQ b f n) j:=by
    rw[←mR (A:=fQ b f (n+1)) (k:=n) (by omega),show fQ b f (n+1)=fQ b f n+f n*b ^ n from rfl,I6,dK bI]
   rw[e]
   exact EF hb n h0 j (by omega)
theorem vN_of {n:Nat}(hb:0<b)(v:Vector Int n)(h:∀j,j<n→0≤v[j]!∧v[j]! <(b:Int)):∃A,A<b ^ n∧v=vN b n A:=by
 have hf:∀j,j<n→(v[j]!).toNat<b:=fun j hj=>by have:=h j hj;omega
 refine⟨fQ b (fun j=>(v[j]!).toNat) n,zU hb n hf,?_⟩
 apply nz
 intro j hj
 rw[iQ hj,EF hb n hf j hj]
 have:=h j hj
 omega
theorem zV {n:Nat}(hb:0<b)(hk:k<n):(vN b n (A % b ^ k)).set! k (dg b A k:Int)=vN b n (A % b ^ (k+1)):=by
 apply nz
 intro j hj
 rw[oT hj,iQ hj,iQ hj]
 by_cases h:j=k
 ·subst h;rw[ay rfl,mR (cr _)]
 ·rw[aA h]
  rcases ck j k with h1|h1
  ·rw[mR h1,mR (by omega)]
  ·rw[Kz hb h1,Kz hb (by omega)]
theorem dg_hi(hb:0<b):dg b (A / b ^ k*b ^ k) j=if j<k then 0 else dg b A j:=by
 by_cases h:j<k
 ·rw[ay h]
  obtain⟨m,rfl⟩:∃m,k=m+1+j:=⟨k - j - 1,by omega⟩
  unfold dg
  rw[gy b (m+1) j,←eV,Jj _ (cJ hb),eH,←eV,Nat.mul_mod_left]
 ·rw[aA h]
  obtain⟨m,rfl⟩:∃m,j=k+m:=⟨j - k,by omega⟩
  unfold dg
  rw[gy,←gb,←gb,Jj _ (cJ hb)]
theorem JG {n:Nat}(hb:0<b)(_hk:k<n):(vN b n (A / b ^ (k+1)*b ^ (k+1))).set! k (dg b A k:Int)=vN b n (A / b ^ k*b ^ k):=by
 apply nz
 intro j hj
 rw[oT hj,iQ hj,iQ hj,dg_hi hb,dg_hi hb]
 by_cases h:j=k
 ·subst h;rw[ay rfl,aA (Bs _)]
 ·rw[aA h]
  by_cases h1:j<k
  ·rw[ifp_,ay h1]
  ·rw[ifn_,aA h1]
end
end
section
section
variable {R S T:Type}
theorem gU(x y:Option R):cnd true x y=x:=rfl
theorem ba(x y:Option R):cnd false x y=y:=rfl
theorem cnd_and(b c:Bool):cnd b (some c) (some false)=some (b&&c):=by cases b <;> rfl
theorem cnd_or(b c:Bool):cnd b (some true) (some c)=some (b||c):=by cases b <;> rfl
theorem OU(b:Bool)(x:Option R):cnd b x x=x:=by cases b <;> rfl
theorem OT(b:Bool)(x y:R):cnd b (some x) (some y)=some (bif b then x else y):=by cases b <;> rfl
theorem vM(x:Option R):(bnd x fun a=>some a)=x:=by cases x <;> rfl
theorem jb(p:Prop)[Decidable p](x y:Option R):cnd (decide p) x y=if p then x else y:=by
 by_cases h:p <;> simp[h,cnd]
theorem bt {p:Prop}[Decidable p](x y:Option R)(h:p:=by omega):cnd (decide p) x y=x:=by rw[cV h];rfl
theorem bu {p:Prop}[Decidable p](x y:Option R)(h:¬p:=by omega):cnd (decide p) x y=y:=by rw[gG h];rfl
end
theorem subL_to {α:Type}(l:List α)(b:Int)(h:0≤b):HX l 0 b=l.take b.toNat:=by
 unfold HX;simp
theorem K6 {z:Int}(h:-9223372036854775808≤z∧z≤9223372036854775807:=by omega):i64.wrap z=z:=qO h.1 h.2
end
theorem uT {S X:Type}{b:S→Option (S⊕X)}(Inv:S→Prop)(μ:S→Nat)(Post:X→Prop)(h:∀s,Inv s→(∃s',b s=some (.inl s')∧Inv s'∧μ s'<μ s)∨∃x,b s=some (.inr x)∧Post x)(s:S)(hs:Inv s):∃x,a5 b s=some x∧Post x:=by
 generalize hm:μ s=m
 induction m using Nat.strongRecOn generalizing s with
 |_ m ih=>
  rcases h s hs with⟨s',h1,h2,h3⟩|⟨x,h1,h2⟩
  ·obtain⟨x,h4,h5⟩:=ih (μ s') (by omega) s' h2 rfl
   exact⟨x,(kB h1).trans h4,h5⟩
  ·exact⟨x,fS h1,h2⟩
theorem Ic {S X:Type}{b:S→Option (S⊕X)}(G:Nat→S)(n:Nat)(x:X)(hr:∀i,i<n→b (G (i+1))=some (.inl (G i)))(he:b (G 0)=some (.inr x)):a5 b (G n)=some x:=by
 induction n with
 |zero=>exact fS he
 |succ n ih=>exact (kB (hr n (cr _))).trans (ih fun i hi=>hr i (by omega))
theorem qm {S X:Type}{b:S→Option (S⊕X)}(G:Nat→S)(m:Nat)(x:X){s0:S}(h0:G 0=s0)(hr:∀i,i<m→b (G i)=some (.inl (G (i+1))))(he:b (G m)=some (.inr x)):a5 b s0=some x:=by
 subst h0
 exact lz G 0 m x (dU _) (fun i _ hi=>hr i hi) he
theorem Ni {S X:Type}{b:S→Option (S⊕X)}(G:Nat→S)(n:Nat)(x:X){s0:S}(h0:G n=s0)(hr:∀i,i<n→b (G (i+1))=some (.inl (G i)))(he:b (G 0)=some (.inr x)):a5 b s0=some x:=by
 subst h0
 exact Ic G n x hr he
theorem gJ {n:Nat}(h:n<18446744073709551616:=by omega):u64.wrap (n:Int)=(n:Int):=by
 rw[IntKind.wrap_u64];omega
theorem xD(n:Nat):u32.wrap (n:Int)=((n % 4294967296:Nat):Int):=by
 rw[IntKind.wrap_u32];omega
theorem xC {n:Nat}(h:n<4294967296:=by omega):u32.wrap (n:Int)=(n:Int):=by
 rw[xD,dK h]
theorem xW(k:IntKind)(n s:Nat)(h:s≤k.bits):lE k (n:Int) (s:Int)=((n / 2 ^ s:Nat):Int):=by
 unfold lE
 rw[bH,tT h]
 have:((2:Int) ^ s)=((2 ^ s:Nat):Int):=by rw[Int.natCast_pow];rfl
 rw[this,Int.fdiv_eq_ediv_of_nonneg _ (EW _)]
 exact (I5 ..).symm
theorem Np(n s:Nat)(h:s≤64)(hn:n*2 ^ s<18446744073709551616):vt .u64 (n:Int) (s:Int)=((n*2 ^ s:Nat):Int):=by
 unfold vt
 have e:(IntKind.u64.bits)=64:=rfl
 rw[bH,e,tT h]
 have:((n:Int)*(2:Int) ^ s)=((n*2 ^ s:Nat):Int):=by rw[oH,Int.natCast_pow];rfl
 rw[this,gJ hn]
theorem uO(n:Nat):lE .u64 (n:Int) (32:Int)=((n / 4294967296:Nat):Int):=xW .u64 n 32 (by decide)
theorem ME(n:Nat):lE .u64 (n:Int) (63:Int)=((n / 9223372036854775808:Nat):Int):=xW .u64 n 63 (by decide)
theorem F5 {n:Nat}(h:n<4294967296):vt .u64 (n:Int) (32:Int)=((n*4294967296:Nat):Int):=Np n 32 (by decide) (by omega)
theorem ior_n {a c s:Nat}(hc:c<2 ^ s)(bI:a*2 ^ s+c<18446744073709551616):ior .u64 ((a*2 ^ s:Nat):Int) (c:Int)=((a*2 ^ s+c:Nat):Int):=by
 unfold ior
 have e:(IntKind.u64.bits)=64:=rfl
 have h1:(BitVec.ofInt 64 ((a*2 ^ s:Nat):Int)).toNat=a*2 ^ s:=by
  rw[BitVec.toNat_ofInt];omega
 have h2:(BitVec.ofInt 64 (c:Int)).toNat=c:=by
  rw[BitVec.toNat_ofInt];omega
 rw[e,BitVec.toNat_or,h1,h2]
 have h3:a*2 ^ s |||c=a*2 ^ s+c:=by
  rw[cj a]
  exact (Nat.two_pow_add_eq_or_of_lt hc a).symm
 rw[h3,gJ bI]
theorem Nq(k:IntKind)(a b:Int):ior k a b=ior k b a:=by unfold ior;rw[BitVec.or_comm]
theorem GC {a c:Nat}(hc:c<4294967296)(ha:a<4294967296):ior .u64 ((a*4294967296:Nat):Int) (c:Int)=((a*4294967296+c:Nat):Int):=ior_n (s:=32) hc (by omega)
theorem cd {z:Int}(h:-9223372036854775808≤z∧z≤9223372036854775807:=by omega):i64.wrap z=z:=K6 h
section
def rn(os:List Nat)(m N:Nat)(i:Nat):Nat:=bif decide (i<m) then os.getD i 0 else N+(i - m)
def frV(ρ:Nat→Nat)(os:List Nat)(oM vs:List (Nat×List D)):List (Nat×List D):=oM.map (fun p=>(ρ p.1,p.2.map (D.renC ρ)))++vs.filter fun p=>!os.contains p.1
def frL(ρ:Nat→Nat)(os:List Nat)(lv' lv:List (Nat×Nat×Nat×TypeId)):List (Nat×Nat×Nat×TypeId):=lv'.map (fun p=>(ρ p.1,p.2))++lv.filter fun p=>!os.contains p.1
theorem nB {α β:Type}(ρ:Nat→Nat)(F:α→β):∀{l:List (Nat×α)} {k:Nat} {y:β},(l.map fun p=>(ρ p.1,F p.2)).lookup k=some y→∃i a,ρ i=k∧l.lookup i=some a∧F a=y
 |[],_,_,h=>by simp at h
 |(j,a)::l,k,y,h=>by
  by_cases hk:k=ρ j
  ·subst hk
   have:some (F a)=some y:=by rw[←h];exact ai.symm
   exact⟨j,a,rfl,ai,co this⟩
  ·obtain⟨i,b,h1,h2,h3⟩:=nB ρ F (l:=l) (k:=k) (y:=y) (by rw[←h];exact (ar hk).symm)
   exact⟨i,b,h1,(ar fun e=>hk (by rw[←h1,e])).trans h2,h3⟩
theorem sA {α:Type}{l2:List (Nat×α)}{k:Nat}{y:α}:∀{l:List (Nat×α)},(l++l2).lookup k=some y→l.lookup k=some y∨l2.lookup k=some y
 |[],h=>.inr h
 |(j,a)::l,h=>by
  by_cases hk:k=j
  ·subst hk
   have:some a=some y:=by rw[←h];exact ai.symm
   exact .inl (by rw[←this];exact ai)
  ·rcases sA (l:=l) (by rw[←h];exact (ar hk).symm) with h1|h1
   ·exact .inl ((ar hk).trans h1)
   ·exact .inr h1
theorem lB {α:Type}{os:List Nat}{k:Nat}{y:α}:∀{l:List (Nat×α)},(l.filter fun p=>!os.contains p.1).lookup k=some y→k∉os∧l.lookup k=some y
 |[],h=>by simp at h
 |(j,a)::l,h=>by
  by_cases hj:j∈os
  ·rw[List.filter_cons_of_neg (by simpa using hj)] at h
   obtain⟨h1,h2⟩:=lB h
   exact⟨h1,(ar fun e=>h1 (by rw[e];exact hj)).trans h2⟩
  ·rw[List.filter_cons_of_pos (by simpa using hj)] at h
   by_cases hk:k=j
   ·subst hk
    exact⟨hj,by rw[←h,ai,ai]⟩
   ·obtain⟨h1,h2⟩:=lB (l:=l) (by rw[←h];exact (ar hk).symm)
    exact⟨h1,(ar hk).trans h2⟩
def D.okC:D→Bool
 | .ag ds=>ds.all D.pureC
 | .tu _=>false
 | .opt _ _=>false
 |_=>true
def D.okF:D→Bool
 | .ag ds=>ds.all D.okC
 | .tu ds=>ds.all D.okC
 |d=>d.okC
section
variable {hp bK:Hp} {g g2:Gh} {w:World} {ρ:Nat→Nat}
theorem A9 {d:D}{v:Value}(h:aN hp g w d v)(hn:d.okC=true)(rx:∀i,i<hp.next→ρ i<bK.next)(hμ:∀i,i<hp.next→g2.μ (ρ i)=g.μ i)(hτ:∀i,i<hp.next→g2.τ (ρ i)=g.τ i)(hF:g2.F=g.F)
  (hl:∀id,id<hp.next→∀y,bK.live.lookup (ρ id)=some y→hp.live.lookup id=some y):aN bK g2 w (d.renC ρ) v:=by
 cases h with
 |e y v h=>exact .e y v (by rw[hF];exact h)
 |own id z n xs v h hid ht=>exact .own _ z n xs v (by rw[hF];exact h) (rx id hid) (fun m e hm=>by rw[hτ id hid];exact ht m e (hl id hid _ hm))
 |fu z n xs A h=>exact .fu z n xs A (by rw[hF];exact h)
 |ag ds cs hlen h1 hr=>
  refine .ag ds cs hlen h1 fun j d u h2 h3=>?_
  have h4:=hr j d u h2 h3
  have h5:=bV.1 hn d (cc h2)
  cases d with
  |e y=>cases h4 with
   |e _ _ h6=>exact .e y _ (by rw[hF];exact h6)
  |_=>cases h5
 |tu ds cs hl hr=>cases hn
 |fp xs off ad hb hc=>exact .fp xs off ad hb (by rw[hF];exact hc)
 |pt k off hk=>rw[←hμ k hk];exact .pt _ off (rx k hk)
 |ow k off z n c hk h1 h2=>rw[←hμ k hk];exact .ow _ off z n c (rx k hk) h1 h2
 |gw k z n c hk h1 h2 hs=>rw[←hμ k hk] at hs ⊢;exact .gw _ z n c (rx k hk) h1 h2 hs
 |fn f ks hk=>
  have:(ks.map fun k=>Value.pointer (some ⟨g.μ k,0,none⟩))=(ks.map ρ).map fun k=>Value.pointer (some ⟨g2.μ k,0,none⟩):=by
   rw[mV]
   exact pD fun k h=>by simp only[Function.comp,hμ k (hk k h)]
  rw[this]
  refine .fn f (ks.map ρ) fun k h=>?_
  obtain⟨i,h1,rfl⟩:=nW.1 h
  exact rx i (hk i h1)
 |opt b d v hi h=>cases hn
 |top v=>exact .top v
theorem fwdF {d:D}{v:Value}(h:aN hp g w d v)(hn:d.okF=true)(rx:∀i,i<hp.next→ρ i<bK.next)(hμ:∀i,i<hp.next→g2.μ (ρ i)=g.μ i)(hτ:∀i,i<hp.next→g2.τ (ρ i)=g.τ i)(hF:g2.F=g.F)
  (hl:∀id,id<hp.next→∀y,bK.live.lookup (ρ id)=some y→hp.live.lookup id=some y):aN bK g2 w (d.ren ρ) v:=by
 cases d with
 |ag ds=>cases h with
  |ag _ cs hlen h1 hr=>
   refine .ag _ cs (by simpa using hlen) h1 fun j d u h2 h3=>?_
   rw[de] at h2
   obtain⟨d0,h4,rfl⟩:=qC.1 h2
   exact A9 (hr j d0 u h4 h3) (bV.1 hn d0 (cc h4)) rx hμ hτ hF hl
 |tu ds=>cases h with
  |tu _ cs hlen hr=>
   refine .tu _ cs (by simpa using hlen) fun j d u h2 h3=>?_
   rw[de] at h2
   obtain⟨d0,h4,rfl⟩:=qC.1 h2
   exact A9 (hr j d0 u h4 h3) (bV.1 hn d0 (cc h4)) rx hμ hτ hF hl
 |e y=>exact A9 h hn rx hμ hτ hF hl
 |own id z n xs=>exact A9 h hn rx hμ hτ hF hl
 |fu z n xs=>exact A9 h hn rx hμ hτ hF hl
 |fp xs off=>exact A9 h hn rx hμ hτ hF hl
 |pt k off=>exact A9 h hn rx hμ hτ hF hl
 |ow k off z n=>exact A9 h hn rx hμ hτ hF hl
 |gw k z n=>exact A9 h hn rx hμ hτ hF hl
 |fn f ks=>exact A9 h hn rx hμ hτ hF hl
 |opt b d=>cases hn
 |top=>exact .top v
end
theorem HR.ren {B:Nat}{hp hpS:Hp}{g:Gh}{w:World}(hr:HR B hp g w)(σ:Nat→Nat)(hinj:∀i j,i<hpS.next→j<hpS.next→σ i=σ j→i=j)
  (hv:∀k ds,hpS.vars.lookup k=some ds→k<hpS.next∧(∃tP,hp.vars.lookup (σ k)=some tP∧wh tP (ds.map (D.renC σ)))∧ds.all (D.idsC hpS.next)=true∧ds.all D.noO=true)
  (hl:∀id y,hpS.live.lookup id=some y→id<hpS.next∧hp.live.lookup (σ id)=some y):HR B hpS ⟨fun i=>g.μ (σ i),fun i=>g.τ (σ i),g.F⟩ w:=by
 have fa:∀id y,hpS.live.lookup id=some y→hp.live.lookup (σ id)=some y:=fun id y h=>(hl _ _ h).2
 refine⟨fun k ds hk=>?_,fun k k' ds ds' hk tJ he=>?_,fun id n e hi=>?_,fun id zb t t' b hi zf hb qr=>?_,hr.base,hr.fits⟩
 ·obtain⟨h1,⟨tP,h2,sD⟩,h3,h4⟩:=hv _ _ hk
  obtain⟨_,h5,h6,cs,ty,h7,h8,h9⟩:=hr.var _ _ h2
  have h3':∀d∈ds,D.idsC hpS.next d=true:=by simpa using h3
  have h4':∀d∈ds,D.noO d=true:=by simpa using h4
  have Ez:=rA sD
  refine⟨h1,h5,h6,cs,ty,h7,by rw[eG] at Ez;omega,fun j u hu=>⟨fun h=>(h9 j u hu).1 (by rw[eG] at Ez;omega),fun d hd=>?_⟩⟩
  obtain⟨d0,Es,hle⟩:=tr sD (j:=j) (d':=d.renC σ) (by rw[de,hd];rfl)
  exact je (((h9 j u hu).2 d0 Es).leC hle) (h3' d (cc hd)) (h4' d (cc hd)) rfl (fun _=>rfl) (fun _=>rfl) rfl fa
 ·obtain⟨h1,⟨_,h2,_⟩,_⟩:=hv _ _ hk
  obtain⟨s6,⟨_,sD,_⟩,_⟩:=hv _ _ tJ
  exact hinj _ _ h1 s6 (hr.inj _ _ _ _ h2 sD he)
 ·obtain⟨h1,h2⟩:=hl _ _ hi
  obtain⟨_,us,h3,h4,h5⟩:=hr.tok _ n e h2
  exact⟨h1,us,h3,h4,fun b hb=>⟨(h5 b hb).1,fun k ds hk=>by
   obtain⟨_,⟨_,h6,_⟩,_⟩:=hv _ _ hk
   exact (h5 b hb).2 _ _ h6⟩⟩
 ·obtain⟨h1,h2⟩:=hl _ _ hi
  obtain⟨s6,sD⟩:=hl _ _ zf
  exact hinj _ _ h1 s6 (hr.tinj _ _ _ _ b h2 sD hb qr)
def frA(σ:Nat→Nat)(m:Nat):List D→List D→Prop
 |[],[]=>True
 |d::ds,e::es=>(d.le (e.ren σ)∧e.idsB m=true∧e.noOs=true)∧frA σ m ds es
 |_,_=>False
theorem Ks {σ:Nat→Nat}{m:Nat}:∀{ds es:List D},frA σ m ds es→ds.length=es.length
 |[],[],_=>rfl
 |_::_,_::_,h=>by simp[Ks h.2]
 |[],_::_,h=>h.elim
 |_::_,[],h=>h.elim
theorem Kt {σ:Nat→Nat}{m:Nat}:∀{ds es:List D} {j:Nat} {e:D},frA σ m ds es→es[j]? =some e→∃d,ds[j]? =some d∧d.le (e.ren σ)∧e.idsB m=true∧e.noOs=true
 |[],[],j,e,_,h=>by simp at h
 |d::ds,e'::es,0,e,h,he=>by
  simp only[I4,na] at he
  subst he
  exact⟨d,rfl,h.1⟩
 |d::ds,e'::es,j+1,e,h,he=>by
  simp only[Jc] at he ⊢
  exact Kt h.2 he
 |[],_::_,_,_,h,_=>h.elim
 |_::_,[],_,_,h,_=>h.elim
theorem HC.frame {P:Program}{f:FuncId}{Kw ds:List D}{r:D}{Fq n5 vs:List (Nat×List D)}{Fs td lv:List (Nat×Nat×Nat×TypeId)}{m n' N:Nat}(h:HC P f Kw ⟨Fq,Fs,m⟩ r ⟨n5,td,n'⟩)
  (os:List Nat) (hos:os.length=m) (wb:os.Nodup) (bI:∀o∈os,o<N) (ha:frA (fun i=>os.getD i 0) m ds Kw)
  (hv:∀k ds,Fq.lookup k=some ds→k<m∧(∃tP,vs.lookup (os.getD k 0)=some tP∧wh tP (ds.map (D.renC fun i=>os.getD i 0)))∧ds.all (D.idsC m)=true∧ds.all D.noO=true)
  (hl:∀id y,Fs.lookup id=some y→id<m∧lv.lookup (os.getD id 0)=some y)
  (hr:r.okF=true) (hvo:∀p∈n5,p.2.all D.okC=true):
  HC P f ds ⟨vs,lv,N⟩ (r.ren (rn os m N)) ⟨frV (rn os m N) os n5 vs,frL (rn os m N) os td lv,N+(n' - m)⟩:=by
 subst hos
 refine⟨h.1,fun B g w us hR hsz cM=>?_⟩
 have CD:∀i,i<os.length→os.getD i 0∈os:=fun i hi=>by
  rw[EV,ff hi];exact yz hi
 have hinj:∀i j,i<os.length→j<os.length→os.getD i 0=os.getD j 0→i=j:=fun i j hi hj he=>by
  rw[EV,EV,ff hi,ff hj] at he
  have hp:=List.pairwise_iff_getElem.1 wb
  simp only[w5] at he
  rcases yK i j with h3|h3|h3
  ·exact absurd he (hp _ _ hi hj h3)
  ·exact h3
  ·exact absurd he.symm (hp _ _ hj hi h3)
 have hS:=HR.ren (hpS:=⟨Fq,Fs,os.length⟩) hR (fun i=>os.getD i 0) (fun i j hi hj he=>hinj i j hi hj he) hv hl
 have fa:∀id y,(⟨Fq,Fs,os.length⟩:Hp).live.lookup id=some y→(⟨vs,lv,N⟩:Hp).live.lookup (os.getD id 0)=some y:=fun id y h=>(hl _ _ h).2
 refine (h.2 B _ w us hS (by rw[hsz,Ks ha]) (fun j e u he hu=>?_)).mono ?_
 ·obtain⟨d,h1,h2,h3,h4⟩:=Kt ha he
  exact D5 ((cM j d u h1 hu).le h2) h3 h4 rfl (fun _=>rfl) (fun _=>rfl) rfl fa
 rintro en w' ⟨v,g',rfl,GS,hM,lT,hB,hF⟩
 -- the caller's ghosts
 let ρ:=rn os os.length N
 have Cw:∀i,i<os.length→ρ i=os.getD i 0:=fun i hi=>by show rn os os.length N i=_;unfold rn;simp[hi]
 have Ek:∀i,os.length≤i→ρ i=N+(i - os.length):=fun i hi=>by show rn os os.length N i=_;unfold rn;rw[def_];rfl
 have hoN:∀i,i<os.length→os.getD i 0<N:=fun i hi=>bI _ (CD i hi)
 have hmn:os.length≤n':=hM.next
 have hρn:∀i,i<n'→ρ i<N+(n' - os.length):=fun i hi=>by
  by_cases h1:i<os.length
  ·rw[Cw i h1];have:=hoN i h1;omega
  ·rw[Ek i (by omega)];omega
 have hρinj:∀i j,i<n'→j<n'→ρ i=ρ j→i=j:=fun i j hi hj he=>by
  by_cases h1:i<os.length <;> by_cases h2:j<os.length
  ·rw[Cw i h1,Cw j h2] at he;exact hinj i j h1 h2 he
  ·rw[Cw i h1,Ek j (by omega)] at he;have:=hoN i h1;omega
  ·rw[Cw j h2,Ek i (by omega)] at he;have:=hoN j h2;omega
  ·rw[Ek i (by omega),Ek j (by omega)] at he;omega
 let g2:Gh:=⟨fun j=>if j<N then g.μ j else g'.μ (os.length+(j - N)),fun j=>if j<N then (if j∈os then g'.τ (os.idxOf j) else g.τ j) else g'.τ (os.length+(j - N)),g'.F⟩
 let bK:Hp:=⟨frV ρ os n5 vs,frL ρ os td lv,N+(n' - os.length)⟩
 have hμ2:∀j,j<N→g2.μ j=g.μ j:=fun j hj=>ay hj
 have hτ2:∀j,j<N→j∉os→g2.τ j=g.τ j:=fun j hj ho=>by
  show (if j<N then _ else _)=_
  rw[ay hj,aA ho]
 have hμρ:∀i,i<n'→g2.μ (ρ i)=g'.μ i:=fun i hi=>by
  by_cases h1:i<os.length
  ·rw[Cw i h1,hμ2 _ (hoN i h1)];exact (hM.μ i h1).symm
  ·rw[Ek i (by omega)]
   show (if _ then _ else _)=_
   rw[ifn_,show os.length+(N+(i - os.length) - N)=i by omega]
 have hτρ:∀i,i<n'→g2.τ (ρ i)=g'.τ i:=fun i hi=>by
  by_cases h1:i<os.length
  ·rw[Cw i h1]
   show (if _ then (if _ then _ else _) else _)=_
   rw[ay (hoN i h1),ay (CD i h1)]
   have:os.idxOf (os.getD i 0)=i:=by
    have h2:os.idxOf (os.getD i 0)<os.length:=List.idxOf_lt_length_of_mem (CD i h1)
    refine hinj _ _ h2 h1 ?_
    rw[EV (i:=os.idxOf _),ff h2]
    exact List.getElem_idxOf h2
   rw[this]
  ·rw[Ek i (by omega)]
   show (if _ then _ else _)=_
   rw[ifn_,show os.length+(N+(i - os.length) - N)=i by omega]
 have De:∀k ds,bK.vars.lookup k=some ds→(∃i tP,ρ i=k∧i<n'∧n5.lookup i=some tP∧tP.map (D.renC ρ)=ds)∨(k∉os∧k<N∧vs.lookup k=some ds):=fun k ds hk=>by
  rcases sA hk with h1|h1
  ·obtain⟨i,a,h2,h3,h4⟩:=nB ρ (fun a:List D=>a.map (D.renC ρ)) h1
   exact .inl ⟨i,a,h2,(GS.var i a h3).1,h3,h4⟩
  ·obtain⟨h2,h3⟩:=lB h1
   exact .inr ⟨h2,(hR.var k ds h3).1,h3⟩
 have Df:∀k y,bK.live.lookup k=some y→(∃i,ρ i=k∧i<n'∧td.lookup i=some y)∨(k∉os∧k<N∧lv.lookup k=some y):=fun k y hk=>by
  rcases sA hk with h1|h1
  ·obtain⟨i,a,h2,h3,h4⟩:=nB ρ (fun a:Nat×Nat×TypeId=>a) h1
   subst h4
   exact .inl ⟨i,h2,(GS.tok i a.1 a.2 h3).1,h3⟩
  ·obtain⟨h2,h3⟩:=lB h1
   exact .inr ⟨h2,(hR.tok k y.1 y.2 h3).1,h3⟩
 have hlρ:∀id,id<n'→∀y,bK.live.lookup (ρ id)=some y→td.lookup id=some y:=fun id hid y hy=>by
  rcases Df _ _ hy with⟨i,h1,h2,h3⟩|⟨h1,h2,_⟩
  ·rw[←hρinj i id h2 hid h1];exact h3
  ·exfalso
   by_cases h4:id<os.length
   ·rw[Cw id h4] at h1;exact h1 (CD id h4)
   ·rw[Ek id (by omega)] at h2;omega
 -- blocks of what was not in hand are free for the callee
 have Kp:∀k ds,k∉os→vs.lookup k=some ds→g.μ k<w.heap.size∧Jy ⟨Fq,Fs,os.length⟩ ⟨fun i=>g.μ (os.getD i 0),fun i=>g.τ (os.getD i 0),g.F⟩ (g.μ k):=fun k ds ho hk=>by
  refine⟨hR.var_lt (k:=k) (ds:=ds) hk,fun i di hi=>?_,fun i t hi=>?_⟩
  ·obtain⟨h1,⟨_,h2,_⟩,_⟩:=hv i di hi
   exact fun e=>ho (by rw[←hR.inj _ _ _ _ h2 hk e];exact CD i h1)
  ·obtain⟨h1,h2⟩:=hl i t hi
   obtain⟨_,_,_,_,h3⟩:=hR.tok _ t.1 t.2 h2
   exact fun e=>(h3 _ e).2 k ds hk rfl
 have Kr:∀k t b,k∉os→lv.lookup k=some t→(g.τ k).ownBlock=some b→b<w.heap.size∧Jy ⟨Fq,Fs,os.length⟩ ⟨fun i=>g.μ (os.getD i 0),fun i=>g.τ (os.getD i 0),g.F⟩ b:=fun k t b ho hk hb=>by
  obtain⟨_,_,_,h1,h2⟩:=hR.tok k t.1 t.2 hk
  refine⟨(h1.lt b hb).2,fun i di hi=>?_,fun i t' hi=>?_⟩
  ·obtain⟨h1,⟨_,h3,_⟩,_⟩:=hv i di hi
   exact (h2 b hb).2 _ _ h3
  ·obtain⟨h1,h3⟩:=hl i t' hi
   exact fun e=>ho (by rw[←hR.tinj _ _ _ _ b h3 hk e hb];exact CD i h1)
 have mo:bO ⟨vs,lv,N⟩ g w bK g2 w':=by
  refine⟨hM.size,hM.cell,hM.forb,oF _ _,fun k hk=>hμ2 k hk,fun id hid n e hy=>?_,fun b hb hf=>?_,hM.szs⟩
  ·rcases Df _ _ hy with⟨i,h1,h2,h3⟩|⟨h1,h2,h3⟩
   ·by_cases h4:i<os.length
    ·obtain⟨m0,h5,h6,h7⟩:=hM.live i h4 n e h3
     refine⟨m0,?_,h6,fun h=>?_⟩
     ·rw[←h1,Cw i h4];exact fa i _ h5
     ·rw[←h1,hτρ i h2,h7 h,Cw i h4]
    ·rw[←h1,Ek i (by omega)] at hid
     have hid:N+(i - os.length)<N:=hid
     omega
   ·exact⟨n,h3,aL _,fun _=>hτ2 id h2 h1⟩
  ·obtain⟨h1,h2,h3⟩:=hM.fr b hb ⟨fun k ds hk=>by
    obtain⟨_,⟨_,h5,_⟩,_⟩:=hv k ds hk
    exact hf.1 _ _ h5,fun id t hi=>hf.2 _ _ (fa id t hi)⟩
   refine⟨h1,h2,fun k ds hk=>?_,fun id t hi=>?_⟩
   ·rcases De _ _ hk with⟨i,_,rfl,h5,h6,_⟩|⟨_,h5,h6⟩
    ·rw[hμρ i h5];exact h3.1 _ _ h6
    ·rw[hμ2 k h5];exact hf.1 _ _ h6
   ·rcases Df _ _ hi with⟨i,rfl,h5,h6⟩|⟨h4,h5,h6⟩
    ·rw[hτρ i h5];exact h3.2 _ _ h6
    ·rw[hτ2 id h5 h4];exact hf.2 _ _ h6
 have fw:∀{d:D} {u:Value},d.okC=true→aN ⟨n5,td,n'⟩ g' w' d u→aN bK g2 w' (d.renC ρ) u:=fun hd h=>A9 h hd hρn hμρ hτρ rfl hlρ
 refine⟨v,g2,rfl,⟨fun k ds hk=>?_,fun k k' ds ds' hk tJ he=>?_,fun id n e hi=>?_,fun id zb t t' b hi zf hb qr=>?_,GS.base,GS.fits⟩,mo,fwdF lT hr hρn hμρ hτρ rfl hlρ,hB,hF⟩
 ·rcases De _ _ hk with⟨i,tP,rfl,h1,h2,rfl⟩|⟨h1,h2,h3⟩
  ·obtain⟨_,h4,h5,cs,ty,h6,h7,h8⟩:=GS.var i tP h2
   rw[hμρ i h1]
   refine⟨hρn i h1,h4,h5,cs,ty,h6,by simpa using h7,fun j u hu=>⟨fun h=>(h8 j u hu).1 (by simpa using h),fun d hd=>?_⟩⟩
   rw[de] at hd
   obtain⟨d0,Es,rfl⟩:=qC.1 hd
   exact fw (bV.1 (hvo _ (cg h2)) d0 (cc Es)) ((h8 j u hu).2 d0 Es)
  ·obtain⟨h4,h5⟩:=Kp k ds h1 h3
   obtain⟨h6,h7,_⟩:=hM.fr _ h4 h5
   obtain⟨_,h8,h9,cs,ty,Ez,LI,h12⟩:=hR.var k ds h3
   rw[hμ2 k h2]
   exact⟨bW h2 (oF _ _),h8,fun p hp=>h7 p hp (h9 p hp),cs,ty,h6.trans Ez,LI,fun j u hu=>⟨(h12 j u hu).1,fun d hd=>((h12 j u hu).2 d hd).mono mo⟩⟩
 ·rcases De _ _ hk with⟨i,tP,rfl,h1,h2,_⟩|⟨h1,h2,h3⟩ <;> rcases De _ _ tJ with⟨i',ds0',rfl,s6,sD,_⟩|⟨s6,sD,h3'⟩
  ·rw[hμρ i h1,hμρ i' s6] at he
   rw[GS.inj _ _ _ _ h2 sD he]
  ·rw[hμρ i h1,hμ2 _ sD] at he
   obtain⟨h4,h5⟩:=Kp _ _ s6 h3'
   exact absurd he ((hM.fr _ h4 h5).2.2.1 _ _ h2)
  ·rw[hμρ i' s6,hμ2 _ h2] at he
   obtain⟨h4,h5⟩:=Kp _ _ h1 h3
   exact absurd he.symm ((hM.fr _ h4 h5).2.2.1 _ _ sD)
  ·rw[hμ2 _ h2,hμ2 _ sD] at he
   exact hR.inj _ _ _ _ h3 h3' he
 ·rcases Df _ _ hi with⟨i,rfl,h1,h2⟩|⟨h1,h2,h3⟩
  ·obtain⟨_,ue,h4,h5,h6⟩:=GS.tok i n e h2
   rw[hτρ i h1]
   refine⟨hρn i h1,ue,h4,h5,fun b hb=>⟨(h6 b hb).1,fun k ds hk=>?_⟩⟩
   rcases De _ _ hk with⟨i',_,rfl,h7,h8,_⟩|⟨h7,h8,h9⟩
   ·rw[hμρ i' h7];exact (h6 b hb).2 _ _ h8
   ·rw[hμ2 k h8]
    obtain⟨Ez,LI⟩:=Kp _ _ h7 h9
    intro e
    exact (hM.fr _ Ez LI).2.2.2 _ _ h2 (by rw[e];exact hb)
  ·obtain⟨_,ue,h4,h5,h6⟩:=hR.tok id n e h3
   rw[hτ2 id h2 h1]
   refine⟨bW h2 (oF _ _),ue,h4,⟨h5.1,?_⟩,fun b hb=>?_⟩
   ·rcases h5.2 with h0|⟨b,cap,cur,uk,hB',hh,r⟩
    ·exact .inl h0
    ·obtain⟨Ez,LI⟩:=Kr id _ b h1 h3 (by rw[uk];rfl)
     exact .inr ⟨b,cap,cur,uk,hB',(hM.fr _ Ez LI).1.trans hh,r⟩
   ·obtain⟨Ez,LI⟩:=Kr id _ b h1 h3 hb
    obtain⟨h12,h13,h14⟩:=hM.fr _ Ez LI
    refine⟨fun p h7 h8=>h13 p h7 ((h6 b hb).1 p h7 h8),fun k ds hk=>?_⟩
    rcases De _ _ hk with⟨i',_,rfl,h7,h8,_⟩|⟨h7,h8,h9⟩
    ·rw[hμρ i' h7];exact h14.1 _ _ h8
    ·rw[hμ2 k h8];exact (h6 b hb).2 _ _ h9
 ·rcases Df _ _ hi with⟨i,rfl,h1,h2⟩|⟨h1,h2,h3⟩ <;> rcases Df _ _ zf with⟨i',rfl,s6,sD⟩|⟨s6,sD,h3'⟩
  ·rw[hτρ i h1] at hb
   rw[hτρ i' s6] at qr
   rw[GS.tinj _ _ _ _ b h2 sD hb qr]
  ·rw[hτρ i h1] at hb
   rw[hτ2 _ sD s6] at qr
   obtain⟨Ez,LI⟩:=Kr _ _ b s6 h3' qr
   exact absurd hb ((hM.fr _ Ez LI).2.2.2 _ _ h2)
  ·rw[hτρ i' s6] at qr
   rw[hτ2 _ h2 h1] at hb
   obtain⟨Ez,LI⟩:=Kr _ _ b h1 h3 hb
   exact absurd qr ((hM.fr _ Ez LI).2.2.2 _ _ sD)
  ·rw[hτ2 _ h2 h1] at hb
   rw[hτ2 _ sD s6] at qr
   exact hR.tinj _ _ _ _ b h3 h3' hb qr
end
section
section
variable {P:Program} {tb:TypeId→Option TyE} {dr:Bool} {ty:TypeId} {ev:Operand→D} {σ:Nat→Nat} {d e:D} {ds es:List D}
theorem fA {m:Nat}(h:d.le (e.ren σ))(hr:frA σ m ds es)(h3:e.idsB m=true:=by exact rfl)(h4:e.noOs=true:=by exact rfl):frA σ m (d::ds) (e::es):=⟨⟨h,h3,h4⟩,hr⟩
theorem fAG {α:Type}{c:Cd α}{a:α}{m:Nat}(h:d.le (dG c a))(hr:frA σ m ds es):frA σ m (d::ds) (dG c a::es):=⟨⟨le_G h,ids_G _ _ _,noO_G _ _⟩,hr⟩
theorem fAn {m:Nat}:frA σ m [] []:=trivial
theorem HC.fr {f:FuncId}{Kw:List D}{r r':D}{Fq n5 vs tq:List (Nat×List D)}{Fs td lv Ca:List (Nat×Nat×Nat×TypeId)}{m n' N N2:Nat}(os:List Nat)(hc:HC P f Kw ⟨Fq,Fs,m⟩ r ⟨n5,td,n'⟩)
  (ha:frA (fun i=>os.getD i 0) m ds Kw) (hv:wkV (fun i=>os.getD i 0) m vs Fq) (hl:wkL (fun i=>os.getD i 0) m lv Fs) (hos:os.length=m) (wb:os.Nodup) (bI:(os.all fun o=>Nat.ble (o+1) N)=true)
  (hr:r.okF=true) (hvo:(n5.all fun p=>p.2.all D.okC)=true) (po:r.ren (rn os m N)=r') (uj:frV (rn os m N) os n5 vs=tq) (NZ:frL (rn os m N) os td lv=Ca) (hN:N+(n' - m)=N2):
  HC P f ds ⟨vs,lv,N⟩ r' ⟨tq,Ca,N2⟩:=by
 subst po uj NZ hN
 exact HC.frame hc os hos wb (fun o ho=>ltb (bV.1 bI o ho)) ha (fun k ds hk=>se hv _ (cg hk)) (fun id y hy=>ud hl _ (cg hy)) hr (fun p hp=>bV.1 hvo p hp)
theorem xk {x:Operand}{f:FuncId}{aS:List Operand}{ts:Array TypeId}{Kw:List D}{r r':D}{Fq n5 vs tq:List (Nat×List D)}{Fs td lv Ca:List (Nat×Nat×Nat×TypeId)}{m n' N N2:Nat}(os:List Nat)
  (vy:ev x=.e (.lit (.func (.func f) #[] #[]))) (hc:HC P f Kw ⟨Fq,Fs,m⟩ r ⟨n5,td,n'⟩) (ha:frA (fun i=>os.getD i 0) m (aS.map ev) Kw) (hv:wkV (fun i=>os.getD i 0) m vs Fq) (hl:wkL (fun i=>os.getD i 0) m lv Fs)
  (hos:os.length=m:=by exact rfl) (wb:os.Nodup:=by decide) (bI:(os.all fun o=>Nat.ble (o+1) N)=true:=by exact rfl) (hr:r.okF=true:=by exact rfl) (hvo:(n5.all fun p=>p.2.all D.okC)=true:=by exact rfl)
  (po:r.ren (rn os m N)=r':=by exact rfl) (uj:frV (rn os m N) os n5 vs=tq:=by exact rfl) (NZ:frL (rn os m N) os td lv=Ca:=by exact rfl) (hN:N+(n' - m)=N2:=by exact rfl)
  (hh:hvB tb ⟨.value x,aS.toArray,ts⟩=true:=by kernel_rfl):AVC P tb dr (.call ⟨.value x,aS.toArray,ts⟩) ty ev ⟨vs,lv,N⟩ (Kq r' ⟨tq,Ca,N2⟩):=
 KR vy (HC.fr os hc ha hv hl hos wb bI hr hvo po uj NZ hN) rfl hh
end
end
end
end Go.Proofs.YtgfcnncojhkcoaaGreat
