/-
  Lemmas, part 1. Conditions: none.
-/
import Derived.Test.YtgfcnncojhkcoaaGreatZ0
import Derived.OrdersHeld
import Derived.Laws.StructEq
import Derived.Scope
import Derived.LoopN
import Derived.Lib.AppendZerosOnto
set_option linter.all false
set_option maxRecDepth 100000
namespace Go.Proofs.YtgfcnncojhkcoaaGreat
open Go.RowKit Go.IntKind
noncomputable section
section
structure Cx where
 B:Nat
 w0:World
 F0:Addr→Prop
 N:Nat
 hp0:Hp
 g0:Gh
 df:List Deferred
def RS(x:Cx)(tm:List (Nat×D))(hp:Hp)(a:Act)(w:World):Prop:=
 ∃g,HR x.B hp g w∧(∀t d,tm.lookup t=some d→aI hp g w d (a.tmps.getD t undef))∧a.tmps.size=x.N∧a.defers=x.df∧Below x.B x.w0 w∧(∀p:Addr,p.block<x.B→x.F0 p→g.F p)∧bC x.hp0 x.g0 x.w0 hp g w
section
variable {P:Program} {tb:TypeId→Option TyE} {x:Cx} {tm tm':List (Nat×D)} {hp hp':Hp} {a:Act} {w w':World}
theorem DM(g:Gh)(v:Value):aI hp g w (LA v) v:=by
 unfold LA
 split
 ·rename_i cs
  split
  ·rename_i h1
   have:=(fk.lits (hp:=hp) (g:=g) (w:=w) cs.toList h1).ag
   simpa using this
  ·exact .top _
 ·exact .top _
 ·rename_i h1 h2
  refine .e _ _ (.lit v ?_)
  cases v <;> first|rfl|exact absurd rfl (h1 _)|exact absurd rfl (h2 _)
theorem zU {g:Gh}(h:∀t d,tm.lookup t=some d→aI hp g w d (a.tmps.getD t undef))(o:Operand):aI hp g w (evD tm o) (a.eval o):=by
 cases o with
 |tmp t=>
  show aI hp g w ((tm.lookup t).getD .top) _
  cases hl:tm.lookup t with
  |none=>exact .top _
  |some d=>exact h t d hl
 |const v=>exact DM g v
 |global g'=>exact .top _
 |func f=>exact .e _ _ (.lit _ rfl)
theorem sH(a:Act)(dst:Option Tmp)(v:Value):(a.put dst v).tmps.size=a.tmps.size:=by cases dst <;> simp[Act.put]
theorem oD(a:Act)(dst:Option Tmp)(v:Value):(a.put dst v).defers=a.defers:=by cases dst <;> rfl
theorem zC {a:Act}{t:Tmp}{v:Value}(h:t<a.tmps.size):(a.put (some t) v).tmps.getD t undef=v:=by
 simp[Act.put,h]
theorem FB {a:Act}{dst:Option Tmp}{t:Tmp}{v:Value}(h:dst≠some t):(a.put dst v).tmps.getD t undef=a.tmps.getD t undef:=by
 cases dst with
 |none=>rfl
 |some s=>
  have:s≠t:=fun e=>h (by rw[e])
  simp[Act.put,de,D6 this]
theorem Cz {g:Gh}{dst:Option Tmp}{d:D}{v:Value}(h:∀t d,tm.lookup t=some d→aI hp g w d (a.tmps.getD t undef))(hd:aI hp g w d v)(hN:∀t,dst=some t→t<a.tmps.size):
  ∀t d',(AP dst d tm).lookup t=some d'→aI hp g w d' ((a.put dst v).tmps.getD t undef):=by
 intro t d' hl
 cases dst with
 |none=>exact h t d' hl
 |some s=>
  by_cases Dp:t=s
  ·subst Dp
   have:some d=some d':=by rw[←hl];exact ak.symm
   injection this with this
   subst this
   rw[zC (hN t rfl)]
   exact hd
  ·rw[FB (fun e=>Dp (by injection e with e;exact e.symm))]
   exact h t d' (by rw[←hl];exact (ay Dp).symm)
def Gd(ops:Array Oper)(o:Oper)(tm:List (Nat×D))(b:Bool):Prop:=
 match o.guard with
 |none=>b=true
 |some (j,want)=>(∃t c,(ops[j]?).bind (·.dst)=some t∧tm.lookup t=some (.e (.lit (.bool c)))∧(c == want)=b)∨∃t,(ops[j]?).bind (·.dst)=some t∧tm.lookup t=some (.tu [])∧b=false
theorem Gd.wanted {ops:Array Oper}{o:Oper}{b:Bool}{g:Gh}(h:Gd ops o tm b)(hr:∀t d,tm.lookup t=some d→aI hp g w d (a.tmps.getD t undef)):Region.wanted o (yielded ops a.tmps)=b:=by
 unfold Gd at h
 unfold Region.wanted
 split at h
 ·rename_i hg
  rw[hg,h]
 ·rename_i j want hg
  rw[hg]
  dsimp only
  rcases h with⟨t,c,h1,h2,h3⟩|⟨t,h1,h2,rfl⟩
  rotate_left
  ·have hv:=hr t _ h2
   have hy:yielded ops a.tmps j=none:=by
    unfold yielded
    rw[h1]
    simp only[D1]
    cases ht:a.tmps[t]? with
    |none=>rfl
    |some u=>
     have hu:a.tmps.getD t undef=u:=by simp[de,ht]
     rw[hu] at hv
     cases hv with
     |tu _ cs hl hr=>rfl
   rw[hy];rfl
  have hv:=(hr t _ h2).lit
  have hy:yielded ops a.tmps j=some c:=by
   unfold yielded
   rw[h1]
   simp only[D1]
   cases ht:a.tmps[t]? with
   |none=>simp[de,ht,undef] at hv
   |some u=>
    have:u=.bool c:=by simpa[de,ht] using hv
    rw[this]
  rw[hy,←h3]
  rfl
def Offs(o:Oper)(ev:Operand→D)(d:D):Prop:=∀(hp:Hp) (g:Gh) (w:World) (a:Act),(∀x∈o.op.operands,aI hp g w (ev x) (a.eval x))→aI hp g w d undef
def WkS(tm:List (Nat×D))(hp:Hp)(tm':List (Nat×D))(hp':Hp):Prop:=∀(B:Nat) (g:Gh) (w:World) (ρ:Nat→Value),HR B hp g w→(∀t d,tm.lookup t=some d→aI hp g w d (ρ t))→
 ∃g',HR B hp' g' w∧bC hp g w hp' g' w∧(∀t d,tm'.lookup t=some d→aI hp' g' w d (ρ t))∧∀p:Addr,p.block<B→g.F p→g'.F p
theorem WkS.rs(h:WkS tm hp tm' hp')(hr:RS x tm hp a w):RS x tm' hp' a w:=by
 obtain⟨g,hr,i4,hsz,uc,hB,hF,hM⟩:=hr
 obtain⟨g',h1,h2,h3,h4⟩:=h x.B g w (fun t=>a.tmps.getD t undef) hr i4
 exact⟨g',h1,h3,hsz,uc,hB,fun p hp hq=>h4 p hp (hF p hp hq),hM.trans h2⟩
inductive ba (P:Program) (tb:TypeId→Option TyE) (md:Md) (ops:Array Oper) (K:List (Nat×D)→Hp→Prop):List Oper→List (Nat×D)→Hp→Prop
 |nil {tm:List (Nat×D)} {hp:Hp} (h:K tm hp):ba P tb md ops K [] tm hp
 |on {o:Oper} {os:List Oper} {tm:List (Nat×D)} {hp:Hp} (d:D) (hp':Hp) (hg:Gd ops o tm true) (hs:nT P tb md o (evD tm) hp d hp') (h:ba P tb md ops K os (AP o.dst d tm) hp'):ba P tb md ops K (o::os) tm hp
 |off {o:Oper} {os:List Oper} {tm:List (Nat×D)} {hp:Hp} (d:D) (hg:Gd ops o tm false) (hs:Offs o (evD tm) d) (h:ba P tb md ops K os (AP o.dst d tm) hp):ba P tb md ops K (o::os) tm hp
 |sq (hmd:md=.seq) {o:Oper} {os:List Oper} {tm:List (Nat×D)} {hp:Hp} (d:D) (hp':Hp) (hg:Gd ops o tm true) (hs:qm P o (evD tm) hp d hp') (h:ba P tb md ops K os (AP o.dst d tm) hp'):ba P tb md ops K (o::os) tm hp
 |wk (hmd:md=.seq) {os:List Oper} {tm tm':List (Nat×D)} {hp hp':Hp} (hw:WkS tm hp tm' hp') (h:ba P tb md ops K os tm' hp'):ba P tb md ops K os tm hp
def iZ(N:Nat)(ops:Array Oper):Bool:=ops.all fun o=>match o.dst with
 |some t=>decide (t<N)
 |none=>true
theorem lT {N:Nat}{ops:Array Oper}(h:iZ N ops=true){i:Nat}{o:Oper}(hi:ops[i]? =some o){t:Tmp}(ht:o.dst=some t):t<N:=by
 unfold iZ at h
 rw[LU] at h
 have:=h o (Array.mem_of_getElem? hi)
 rw[ht] at this
 simpa using this
theorem RS.op {o:Oper}{d:D}{Kn:Act→World→Prop}{Q:Exit→Act→World→Prop}(h:RS x tm hp a w)(hs:qm P o (evD tm) hp d hp')(hN:∀t,o.dst=some t→t<x.N)
  (hk:∀a' w',RS x (AP o.dst d tm) hp' a' w'→Kn a' w'):o.wp P a w Kn Q:=by
 obtain⟨g,hr,i4,hsz,uc,hB,hF,hM⟩:=h
 refine hs x.B g w a Kn Q hr (fun y _=>zU i4 y) (fun v g' w' rD mo hd hb hF'=>hk _ _ ⟨g',rD,Cz (fun t d ht=>(i4 t d ht).mono mo) hd (fun t ht=>by rw[hsz];exact hN t ht),by rw[sH,hsz],by rw[oD,uc],hB.trans hb,fun p h1 h2=>hF' p h1 (hF p h1 h2),hM.trans mo⟩)
theorem RS.skip {o:Oper}{d:D}(h:RS x tm hp a w)(hs:Offs o (evD tm) d)(hN:∀t,o.dst=some t→t<x.N):RS x (AP o.dst d tm) hp (a.put o.dst undef) w:=by
 obtain⟨g,hr,i4,hsz,uc,hB,hF,hM⟩:=h
 exact⟨g,hr,Cz i4 (hs hp g w a fun y _=>zU i4 y) (fun t ht=>by rw[hsz];exact hN t ht),by rw[sH,hsz],by rw[oD,uc],hB,hF,hM⟩
theorem O9 {ops:Array Oper}{K:List (Nat×D)→Hp→Prop}{Q:Exit→Act→World→Prop}(hN:iZ x.N ops=true)(hk:∀tm hp a w,K tm hp→RS x tm hp a w→Q .normal a w)
  (rest:List Oper) (i:Nat) (tm:List (Nat×D)) (hp:Hp) (a:Act) (w:World) (hd:ops.toList.drop i=rest) (h:ba P tb .seq ops K rest tm hp) (hr:RS x tm hp a w):wpOps P ops Q (List.range' i rest.length) a w:=by
 have step:∀{o:Oper} {os:List Oper} {i:Nat},ops.toList.drop i=o::os→ops[i]? =some o∧ops.toList.drop (i+1)=os:=by
  intro o os i hd
  refine⟨?_,by rw[←nj,hd];rfl⟩
  have:(ops.toList.drop i)[0]? =some o:=by rw[hd];rfl
  rw[lX] at this
  simpa using this
 induction h generalizing i a w with
 |nil h=>exact hk _ _ _ _ h hr
 |on d hp' hg h2 h1 ih=>
  obtain⟨ho,EQ⟩:=step hd
  have zO:=fun t ht=>lT hN ho (t:=t) ht
  simp only[n7,Hz]
  rw[wpOps_cons]
  unfold wpOp
  rw[ho]
  dsimp only
  obtain⟨g,_,i4,_⟩:=id hr
  rw[hg.wanted i4,ar rfl]
  exact .inl (hr.op h2.ok zO fun a' w' rD=>ih (i+1) a' w' EQ rD)
 |off d hg hs h1 ih=>
  obtain⟨ho,EQ⟩:=step hd
  have zO:=fun t ht=>lT hN ho (t:=t) ht
  simp only[n7,Hz]
  rw[wpOps_cons]
  unfold wpOp
  rw[ho]
  dsimp only
  obtain⟨g,_,i4,_⟩:=id hr
  rw[hg.wanted i4,aA (by simp)]
  exact ih (i+1) _ _ EQ (hr.skip hs zO)
 |sq _ d hp' hg h2 h1 ih=>
  obtain⟨ho,EQ⟩:=step hd
  have zO:=fun t ht=>lT hN ho (t:=t) ht
  simp only[n7,Hz]
  rw[wpOps_cons]
  unfold wpOp
  rw[ho]
  dsimp only
  obtain⟨g,_,i4,_⟩:=id hr
  rw[hg.wanted i4,ar rfl]
  exact .inl (hr.op h2 zO fun a' w' rD=>ih (i+1) a' w' EQ rD)
 |wk _ hw h ih=>exact ih i a w hd (hw.rs hr)
def AW(P:Program)(x:Cx)(c:Code)(tm:List (Nat×D))(hp:Hp)(Q:Exit→List (Nat×D)→Hp→Prop):Prop:=
 ∀a w,RS x tm hp a w→c.wp P (fun ex a' w'=>∃tm' hp',RS x tm' hp' a' w'∧Q ex tm' hp') a w
variable {Q:Exit→List (Nat×D)→Hp→Prop}
theorem AW.mono {c:Code}{Q':Exit→List (Nat×D)→Hp→Prop}(h:AW P x c tm hp Q)(hq:∀ex tm hp,Q ex tm hp→Q' ex tm hp):AW P x c tm hp Q':=
 fun a w hr=>wp_mono (h a w hr) fun ex _ _ ⟨tm',hp',h1,h2⟩=>⟨tm',hp',h1,hq ex _ _ h2⟩
theorem AW.regionS {id:Nat}{ops:Array Oper}(hN:iZ x.N ops=true)(h:∀K:List (Nat×D)→Hp→Prop,(∀tm hp,Q .normal tm hp→K tm hp)→ba P tb .seq ops K ops.toList tm hp):AW P x (.region id ops false) tm hp Q:=by
 intro a w hr
 refine wp_region ?_
 have:=O9 (Q:=fun ex a' w'=>∃tm' hp',RS x tm' hp' a' w'∧Q ex tm' hp') hN (fun tm hp a w hk hr=>⟨tm,hp,hr,hk⟩) ops.toList 0 tm hp a w rfl (h _ fun _ _ h=>h) hr
 rwa[eK,←F7] at this
theorem AW.seq {c c':Code}(h:AW P x c tm hp fun ex tm' hp'=>match ex with| .normal=>AW P x c' tm' hp' Q|ex=>Q ex tm' hp'):AW P x (.seq c c') tm hp Q:=by
 intro a w hr
 refine wp_seq (wp_mono (h a w hr) ?_)
 rintro ex a' w' ⟨tm',hp',h1,h2⟩
 cases ex with
 |normal=>exact h2 a' w' h1
 |_=>exact⟨tm',hp',h1,h2⟩
theorem AW.cond {c:Operand}{c1 c2:Code}{b:Bool}(hc:evD tm c=.e (.lit (.bool b)))(h:AW P x (match b with|true=>c1|false=>c2) tm hp Q):AW P x (.cond c c1 c2) tm hp Q:=by
 intro a w hr
 obtain⟨g,_,i4,_⟩:=id hr
 have hv:=zU i4 c
 rw[hc] at hv
 refine wp_cond (t:=b) hv.lit ?_
 have:=h a w hr
 cases b <;> exact this
theorem AW.block {id:Nat}{c:Code}(h:AW P x c tm hp fun ex tm' hp'=>match ex with| .exit A9=>(if A9=id then Q .normal tm' hp' else Q (.exit A9) tm' hp')|ex=>Q ex tm' hp'):AW P x (.block id c) tm hp Q:=by
 intro a w hr
 refine wp_block (wp_mono (h a w hr) ?_)
 rintro ex a' w' ⟨tm',hp',h1,h2⟩
 cases ex with
 |exit A9=>
  unfold Exit.inBlock
  dsimp only at h2 ⊢
  split
  ·rename_i he
   rw[ar he] at h2
   exact⟨tm',hp',h1,h2⟩
  ·rename_i he
   rw[aA he] at h2
   exact⟨tm',hp',h1,h2⟩
 |_=>exact⟨tm',hp',h1,h2⟩
theorem AW.exit {id:Nat}(h:Q (.exit id) tm hp):AW P x (.exit id) tm hp Q:=fun _ _ hr=>wp_exit ⟨tm,hp,hr,h⟩
theorem AW.ret(h:Q .ret tm hp):AW P x .ret tm hp Q:=fun _ _ hr=>wp_ret ⟨tm,hp,hr,h⟩
theorem AW.skip(h:Q .normal tm hp):AW P x .skip tm hp Q:=fun _ _ hr=>wp_skip ⟨tm,hp,hr,h⟩
theorem xI {Q:Exit→Act→World→Prop}{c:Code}(I:Nat→Act→World→Prop){n:Nat}(h₀:I n a w)
  (round:∀n a w,I n a w→c.wp P (Exit.then (fun a' w'=>∃m,m<n∧I m a' w') Q) a w):(Code.loop c).wp P Q a w:=by
 intro b k cs
 have key:∀n a w,I n a w→∃e a' w',Q e a' w'∧Arrives P (lone (b.at a (.code c::.inLoop c::k)) cs w) b k cs e a' w':=by
  intro n
  induction n using Nat.strongRecOn with
  |_ n ih=>
   intro a w hI
   obtain⟨e,a₁,w₁,hq,Jz⟩:=round n a w hI b (.inLoop c::k) cs
   cases e with
   |normal=>
    obtain⟨m,bG,hI₁⟩:=hq
    obtain⟨e₂,a₂,w₂,hq₂,harr₂⟩:=ih m bG a₁ w₁ hI₁
    exact⟨e₂,a₂,w₂,hq₂,.of_steps (Steps.trans Jz (.one step_inLoop)) harr₂⟩
   |exit id=>exact⟨_,a₁,w₁,hq,.pass (x:=.inLoop c) rfl (fun _ _=>.inl (by simp)) Jz⟩
   |goto l=>exact⟨_,a₁,w₁,hq,.pass (x:=.inLoop c) rfl (fun _ _=>.inl (by simp)) Jz⟩
   |ret=>exact⟨_,a₁,w₁,hq,.pass (x:=.inLoop c) rfl (fun _ _=>.inl (by simp)) Jz⟩
   |panic ch=>exact⟨_,a₁,w₁,hq,.pass (x:=.inLoop c) rfl (fun _ _=>.inl (by simp)) Jz⟩
   |outgrown=>exact⟨_,a₁,w₁,hq,.pass (x:=.inLoop c) rfl (fun _ _=>.inl (by simp)) Jz⟩
 obtain⟨e,a',w',hq,Jz⟩:=key n a w h₀
 exact⟨e,a',w',hq,.of_steps (.one step_loop) Jz⟩
def Wk(x:Cx)(tm:List (Nat×D))(hp:Hp)(tm':List (Nat×D))(hp':Hp):Prop:=∀a w,RS x tm hp a w→RS x tm' hp' a w
theorem AW.weak {c:Code}(hw:Wk x tm hp tm' hp')(h:AW P x c tm' hp' Q):AW P x c tm hp Q:=fun a w hr=>h a w (hw a w hr)
theorem AW.loop {c:Code}(I:Nat→List (Nat×D)→Hp→Prop){n:Nat}{tm0:List (Nat×D)}{hp0:Hp}(hw:Wk x tm hp tm0 hp0)(h0:I n tm0 hp0)
  (round:∀n tm hp,I n tm hp→AW P x c tm hp fun ex tm' hp'=>match ex with| .normal=>∃m NQ bQ,m<n∧Wk x tm' hp' NQ bQ∧I m NQ bQ|ex=>Q ex tm' hp'):AW P x (.loop c) tm hp Q:=by
 intro a w hr
 refine xI (fun n a w=>∃tm hp,RS x tm hp a w∧I n tm hp) (n:=n) ⟨tm0,hp0,hw a w hr,h0⟩ (fun n a w ⟨tm,hp,hr,hI⟩=>wp_mono (round n tm hp hI a w hr) ?_)
 rintro ex a' w' ⟨tm',hp',h1,h2⟩
 cases ex with
 |normal=>
  obtain⟨m,NQ,bQ,bG,OZ,hI2⟩:=h2
  exact⟨m,bG,NQ,bQ,OZ a' w' h1,hI2⟩
 |_=>exact⟨tm',hp',h1,h2⟩
def D.idsB(m:Nat):D→Bool
 | .ag ds=>ds.all (D.idsC m)
 | .tu ds=>ds.all (D.idsC m)
 |d=>d.idsC m
theorem jv {m:Nat}{bQ:Hp}{g:Gh}{d:D}{v:Value}(h:aI hp g w d v)(hd:d.idsC m=true)(hm:bQ.next=m)(hl:∀id y,bQ.live.lookup id=some y→hp.live.lookup id=some y):aI bQ g w d v:=by
 subst hm
 cases h with
 |e y v h=>exact .e y v h
 |own id z n xs v h hid ht=>exact .own id z n xs v h (by simpa[D.idsC] using hd) (fun m e h=>ht m e (hl _ _ h))
 |fu z n xs A h=>exact .fu z n xs A h
 |ag ds cs hl h1 hr=>cases hd
 |tu ds cs hl hr=>cases hd
 |fp xs off ad hb hc=>exact .fp xs off ad hb hc
 |pt k off hk=>exact .pt k off (by simpa[D.idsC] using hd)
 |ow k off z n c hk h1 h2=>exact .ow k off z n c (by simpa[D.idsC] using hd) h1 h2
 |gw k z n c hk h1 h2 hs=>exact .gw k z n c (by simpa[D.idsC] using hd) h1 h2 hs
 |fn f ks hk=>exact .fn f ks (by simpa[D.idsC] using hd)
 |opt b d v hi h=>
  refine .opt b d v hd fun hb=>?_
  cases d with
  |ag ds=>
   have mP:∀d∈ds,D.isE d=true:=by
    have:ds.all D.isE=true:=hd
    simpa only[cb] using this
   have h':=h hb
   cases h' with
   |ag _ cs hlen h1 hr=>
    refine .ag _ cs hlen h1 fun j d u h2 h3=>?_
    have h4:=hr j d u h2 h3
    have h5:=mP d (bT h2)
    cases d with
    |e y=>
     cases h4 with
     |e _ _ h6=>exact .e y _ h6
    |fu z n xs=>
     cases h4 with
     |fu _ _ _ A h6=>exact .fu z n xs A h6
    |fp xs off=>
     cases h4 with
     |fp _ _ ad hb hc=>exact .fp xs off ad hb hc
    |_=>cases h5
  |_=>exact jv (h hb) hd rfl hl
 |top v=>exact .top v
theorem Jm {m:Nat}{bQ:Hp}{g:Gh}{d:D}{v:Value}(h:aI hp g w d v)(hd:d.idsB m=true)(hm:bQ.next=m)(hl:∀id y,bQ.live.lookup id=some y→hp.live.lookup id=some y):aI bQ g w d v:=by
 cases h with
 |ag ds cs hlen h1 hr=>
  have mP:∀d∈ds,D.idsC m d=true:=by simpa[D.idsB] using hd
  exact .ag ds cs hlen h1 fun j d u h2 h3=>jv (hr j d u h2 h3) (mP d (bT h2)) hm hl
 |tu ds cs hlen hr=>
  have mP:∀d∈ds,D.idsC m d=true:=by simpa[D.idsB] using hd
  exact .tu ds cs hlen fun j d u h2 h3=>jv (hr j d u h2 h3) (mP d (bT h2)) hm hl
 |e y v h=>exact jv (.e y v h) hd hm hl
 |own id z n xs v h hid ht=>exact jv (.own id z n xs v h hid ht) hd hm hl
 |fu z n xs A h=>exact jv (.fu z n xs A h) hd hm hl
 |fp xs off ad hb hc=>exact jv (.fp xs off ad hb hc) hd hm hl
 |pt k off hk=>exact jv (.pt k off hk) hd hm hl
 |ow k off z n c hk h1 h2=>exact jv (.ow k off z n c hk h1 h2) hd hm hl
 |gw k z n c hk h1 h2 hs=>exact jv (.gw k z n c hk h1 h2 hs) hd hm hl
 |fn f ks hk=>exact jv (.fn f ks hk) hd hm hl
 |opt b d v hi h=>exact jv (.opt b d v hi h) hd hm hl
 |top v=>exact .top v
theorem cy {α:Type}:∀{l:List (Nat×α)} {k:Nat} {y:α},l.lookup k=some y→(k,y)∈l
 |[],k,y,h=>by simp at h
 |(j,z)::l,k,y,h=>by
  by_cases hj:k=j
  ·subst hj
   have:some z=some y:=by rw[←h];exact ak.symm
   injection this with this
   subst this
   exact ni ..
  ·exact lV _ (cy (by rw[←h];exact (ay hj).symm))
theorem Wk.refl(x:Cx)(tm:List (Nat×D))(hp:Hp):Wk x tm hp tm hp:=fun _ _ h=>h
def fj:Nat→List D→List (Nat×D)
 |_,[]=>[]
 |i,d::ds=>(i,d)::fj (i+1) ds
theorem pV:∀{ds:List D} {i t:Nat} {d:D},(fj i ds).lookup t=some d→i≤t∧ds[t - i]? =some d
 |[],i,t,d,h=>by simp[fj] at h
 |d0::ds,i,t,d,h=>by
  by_cases xZ:t=i
  ·subst xZ
   have:some d0=some d:=by rw[←h];exact ak.symm
   injection this with this
   subst this
   exact⟨aD _,by simp⟩
  ·have h1:(fj (i+1) ds).lookup t=some d:=by rw[←h];exact (ay xZ).symm
   obtain⟨h2,h3⟩:=pV h1
   refine⟨by omega,?_⟩
   rw[show t - i=(t - (i+1))+1 by omega]
   exact h3
def rG(tb:TypeId→Option TyE)(tm:List (Nat×D))(hp:Hp)(r:ResultVar)(k:D→Prop):Prop:=
 match r with
 | .tmp t=>∃d,tm.lookup t=some d∧k d
 | .cell p ty=>∃d,tm.lookup p=some d∧(∃j,tb ty=some j)∧Dg tb ty d hp k
theorem aI.exC {g:Gh}{w:World}{d:D}{v:Value}(h:aI hp g w d v):aI hp g w d.exC v:=by
 cases h with
 |e x v h=>exact .e x v h
 |own id z n xs v h hid ht=>exact .e _ _ h
 |fu z n xs A h=>exact .e _ _ h
 |ag ds cs hl h1 hr=>exact .ag ds cs hl h1 hr
 |tu ds cs hl hr=>exact .tu ds cs hl hr
 |fp xs off ad hb hc=>exact .fp xs off ad hb hc
 |pt k off hk=>exact .pt k off hk
 |ow k off z n c hk h1 h2=>exact .ow k off z n c hk h1 h2
 |gw k z n c hk h1 h2 hs=>exact .gw k z n c hk h1 h2 hs
 |fn f ks hk=>exact .fn f ks hk
 |opt b d v hi h=>exact .opt b d v hi h
 |top v=>exact .top v
theorem aI.exD {g:Gh}{w:World}{d:D}{v:Value}(h:aI hp g w d v):aI hp g w d.ex v:=by
 cases h with
 |ag ds cs hl h1 hr=>
  refine .ag _ cs (by simpa using hl) h1 fun j d u hd hu=>?_
  rw[fO] at hd
  cases hdj:ds[j]? with
  |none=>simp[hdj] at hd
  |some d0=>
   simp only[hdj,lc,kZ] at hd
   subst hd
   exact (hr j d0 u hdj hu).exC
 |e x v h=>exact .e x v h
 |own id z n xs v h hid ht=>exact .e _ _ h
 |fu z n xs A h=>exact .e _ _ h
 |tu ds cs hl hr=>exact .tu ds cs hl hr
 |fp xs off ad hb hc=>exact .fp xs off ad hb hc
 |pt k off hk=>exact .pt k off hk
 |ow k off z n c hk h1 h2=>exact .ow k off z n c hk h1 h2
 |gw k z n c hk h1 h2 hs=>exact .gw k z n c hk h1 h2 hs
 |fn f ks hk=>exact .fn f ks hk
 |opt b d v hi h=>exact .opt b d v hi h
 |top v=>exact .top v
def D.leC(d d':D):Prop:=d'=d∨d'=d.exC∨(d=.e (.lit (.slice none 0 0))∧∃z,0<z∧d'=.e (.sl z 0 []))
theorem aI.leC {g:Gh}{w:World}{d d':D}{v:Value}(h:aI hp g w d v)(hl:d.leC d'):aI hp g w d' v:=by
 rcases hl with rfl|rfl|⟨rfl,z,hz,rfl⟩
 ·exact h
 ·exact h.exC
 ·cases h with
  |e _ _ h=>
   cases h with
   |lit _ _=>exact .e _ _ (.sl z 0 [] none 0 (fun _=>undef) (by simp) hz (aD _) (bY _) (fun h=>absurd h (HS _)) (fun _ h=>by cases h) (fun j x h=>by simp at h))
def zj:List D→List D→Prop
 |[],[]=>True
 |d::ds,d'::ds'=>d.leC d'∧zj ds ds'
 |_,_=>False
theorem ud:∀ds:List D,zj ds ds
 |[]=>trivial
 |_::ds=>⟨.inl rfl,ud ds⟩
theorem ue:∀{ds ds':List D},zj ds ds'→ds'.length=ds.length
 |[],[],_=>rfl
 |_::ds,_::ds',h=>by simp[ue h.2]
 |[],_::_,h=>h.elim
 |_::_,[],h=>h.elim
theorem v8:∀{ds ds':List D},zj ds ds'→∀{j:Nat} {d':D},ds'[j]? =some d'→∃d,ds[j]? =some d∧d.leC d'
 |d::ds,d'::ds',h,0,e,he=>⟨d,rfl,by
  have:d'=e:=by simpa using he
  rw[←this];exact h.1⟩
 |d::ds,d'::ds',h,j+1,e,he=>v8 h.2 (by simpa using he)
 |[],[],h,j,e,he=>by simp at he
 |[],_::_,h,_,_,_=>h.elim
 |_::_,[],h,_,_,_=>h.elim
def D.le(d d':D):Prop:=d.leC d'∨d'=d.ex∨∃ds ds',d=.ag ds∧d'=.ag ds'∧zj ds ds'
theorem aI.le {g:Gh}{w:World}{d d':D}{v:Value}(h:aI hp g w d v)(hl:d.le d'):aI hp g w d' v:=by
 rcases hl with hl|rfl|⟨ds,ds',rfl,rfl,hl⟩
 ·exact h.leC hl
 ·exact h.exD
 ·cases h with
  |ag _ cs hlen h1 hr=>
   refine .ag _ cs (by rw[hlen,ue hl]) h1 fun j d u hd hu=>?_
   obtain⟨d0,EP,hle⟩:=v8 hl hd
   exact (hr j d0 u EP hu).leC hle
theorem ME {d:D}(h:d.pure=true):d.ex=d:=by
 cases d with
 |ag ds=>
  have mP:∀x∈ds,D.pureC x=true:=by simpa[D.pure] using h
  show D.ag (ds.map D.exC)=.ag ds
  have:ds.map D.exC=ds:=by
   conv=>rhs;rw[←D0 ds]
   refine tK fun x hx=>?_
   have:=mP x hx
   cases x <;> first|rfl|cases this
  rw[this]
 |e x=>rfl
 |fp xs off=>rfl
 |_=>cases h
theorem aI.exportP {g:Gh}{w:World}{d:D}{v:Value}(h:aI hp g w d v)(hp':d.pure=true):mz w g.F d v:=by
 have:=h.xport (by rw[ME hp'];exact hp')
 rwa[ME hp'] at this
def dm(tb:TypeId→Option TyE)(rs:List ResultVar)(tm:List (Nat×D))(hp:Hp)(r:D):Prop:=
 match rs with
 |[q]=>rG tb tm hp q fun d=>(d.ex.pure=true∧r=d.ex)∨(∃id e z n xs,d=.own id z n xs∧hp.live.lookup id=some (n,z,e)∧r=.own e z n xs)∨∃d2,d.le d2∧d2.pure=true∧r=d2
 |[q,q']=>rG tb tm hp q fun d=>rG tb tm hp q' fun d'=>((d.ex.pure=true∧d'.ex.pure=true)∧r=.tu [d.ex,d'.ex])∨∃e e',d.le e∧d'.le e'∧(e.pure=true∧e'.pure=true)∧r=.tu [e,e']
 |[q,q',KP]=>rG tb tm hp q fun d=>rG tb tm hp q' fun d'=>rG tb tm hp KP fun O6=>((d.ex.pure=true∧d'.ex.pure=true∧O6.ex.pure=true)∧r=.tu [d.ex,d'.ex,O6.ex])∨∃e e' e'',d.le e∧d'.le e'∧O6.le e''∧(e.pure=true∧e'.pure=true∧e''.pure=true)∧r=.tu [e,e',e'']
 |[]=>r=.tu []
 |_=>False
theorem gY(tok:TOk P tb){q:ResultVar}{k:D→Prop}(h:rG tb tm hp q k):∃d,k d∧∀(B:Nat) (g:Gh) (w:World) (tmps:Array Value),HR B hp g w→(∀t d,tm.lookup t=some d→aI hp g w d (tmps.getD t undef))→
  ∃v,((match q with| .tmp t=>pure (tmps.getD t undef)| .cell a t=>do loadVar t (←asAddr (tmps.getD a undef)):Sem Value)).run P w=.ok v w∧aI hp g w d v:=by
 unfold rG at h
 split at h
 ·rename_i t
  obtain⟨d,hd,hk⟩:=h
  exact⟨d,hk,fun B g w tmps hr i4=>⟨_,rfl,i4 t d hd⟩⟩
 ·rename_i p ty
  obtain⟨d,hd,_,h⟩:=h
  obtain⟨d',hk,_,hs⟩:=BO tok h
  refine⟨d',hk,fun B g w tmps hr i4=>?_⟩
  obtain⟨v,bR,dy⟩:=hs hp B g w _ (fun _ _ _=>rfl) hr (i4 p d hd)
  refine⟨v,?_,dy⟩
  have hp:=i4 p d hd
  generalize tmps.getD p undef=u at*
  cases u with
  |pointer o=>
   cases o with
   |some ad=>simpa[Instr.loadAt,Instr.sureAddr,asAddr] using bR
   |none=>simp[Instr.loadAt,Instr.sureAddr,stuck,Sem.run] at bR
  |_=>simp[Instr.loadAt,Instr.sureAddr,stuck,Sem.run] at bR
theorem Array.mapM_one {α β:Type}(f:α→Sem β)(q:α)(w:World){v:β}(h:(f q).run P w=.ok v w):((#[q]:Array α).mapM f).run P w=.ok #[v] w:=by
 rw[HQ]
 simp[h]
theorem Array.mapM_two {α β:Type}(f:α→Sem β)(q q':α)(w:World){v v':β}(h:(f q).run P w=.ok v w)(h':(f q').run P w=.ok v' w):((#[q,q']:Array α).mapM f).run P w=.ok #[v,v'] w:=by
 rw[HQ]
 simp[h,h']
theorem Array.mapM_three {α β:Type}(f:α→Sem β)(q q' KP:α)(w:World){v v' v'':β}(h:(f q).run P w=.ok v w)(h':(f q').run P w=.ok v' w)(h'':(f KP).run P w=.ok v'' w):((#[q,q',KP]:Array α).mapM f).run P w=.ok #[v,v',v''] w:=by
 rw[HQ]
 simp[h,h',h'']
theorem mz.tu {F:Addr→Prop}{ds:List D}{vs:List Value}(h:Pw (mz w F) ds vs):mz w F (.tu ds) (.tuple vs.toArray):=
 aI.tu ds vs.toArray (by simpa using h.1.symm) fun j d u hd hu=>h.2 j d u hd (by simpa using hu)
theorem GJ {d:D}{e z n:Nat}{xs:List E}(h:d.ex.pure=true):d.ex≠.own e z n xs:=by
 intro e
 rw[e] at h
 cases h
theorem v5.of {B:Nat}{F:Addr→Prop}{r:D}{v:Value}(h:mz w F r v)(hn:∀e z n xs,r≠.own e z n xs):v5 B F w r v:=by
 unfold v5
 split
 ·exact absurd rfl (hn _ _ _ _)
 ·exact h
theorem dq.less {F F':Addr→Prop}{y:E}{v:Value}(h:dq w F y v)(hF:∀p,F' p→F p):dq w F' y v:=h.mono (aD _) (fun _ _ _=>rfl) fun p _ hf=>hF p hf
theorem mz.less {F F':Addr→Prop}{d:D}{v:Value}(h:mz w F d v)(hF:∀p,F' p→F p):mz w F' d v:=by
 unfold mz at h
 generalize hh:(⟨[],[],0⟩:Hp)=h0 at h
 generalize hgg:(⟨fun _=>0,fun _=>default,F⟩:Gh)=g0 at h
 have JE:g0.F=F:=by rw[←hgg]
 have hn:h0.next=0:=by rw[←hh]
 unfold mz
 induction h with
 |e y v h=>exact .e y v (dq.less h fun p hp=>by rw[JE];exact hF p hp)
 |own id z n xs v h hid ht=>omega
 |fu z n xs A h=>exact .fu z n xs A (dq.less h fun p hp=>by rw[JE];exact hF p hp)
 |ag ds cs hl h1 hr ih=>exact .ag ds cs hl h1 ih
 |tu ds cs hl hr ih=>exact .tu ds cs hl ih
 |fp xs off ad hb hc=>
  refine .fp xs off ad hb fun j y hy=>?_
  obtain⟨u,h1,h2,h3⟩:=hc j y hy
  exact⟨u,h1,fun hf=>h2 (by rw[JE];exact hF _ hf),dq.less h3 fun p hp=>by rw[JE];exact hF p hp⟩
 |pt k off hk=>omega
 |ow k off z n c hk h1 h2=>omega
 |gw k z n c hk h1 h2 hs=>omega
 |fn f ks hk=>
  cases ks with
  |nil=>exact .fn f [] (by simp)
  |cons k ks=>have:=hk k (by simp);omega
 |opt b d v hi h ih=>exact .opt b d v (by rw[hn] at hi;exact hi) ih
 |top v=>exact .top v
theorem Mg(tok:TOk P tb){fn:Func}{rs:List ResultVar}{r:D}(hrs:fn.results.toList=rs)(h:dm tb rs tm hp r)(hr:RS x tm hp a w)(JE:∀p,x.F0 p→p.block<x.B):
  ∃v,(results fn a.tmps).run P w=.ok v w∧v5 x.B x.F0 w r v:=by
 obtain⟨g,hh,i4,hsz,uc,hB,hF,_⟩:=hr
 have It:∀p,x.F0 p→g.F p:=fun p hp=>hF p (JE p hp) hp
 unfold dm at h
 split at h
 ·rename_i q
  have hq:fn.results=#[q]:=by apply lW.1;simpa using hrs
  obtain⟨d,hk,hs⟩:=gY tok h
  obtain⟨v,bR,dy⟩:=hs x.B g w a.tmps hh i4
  refine⟨v,?_,?_⟩
  ·unfold results
   rw[hq,Sem.run_bind,Array.mapM_one _ q w bR]
   simp
  ·rcases hk with⟨hp1,rfl⟩|⟨id,e,z,n,xs,rfl,fW,rfl⟩|⟨d2,hle,hp1,rfl⟩
   ·exact v5.of ((dy.xport hp1).less It) fun _ _ _ _=>GJ hp1
   ·obtain⟨_,us,hz,ho,htail⟩:=hh.tok id n (z,e) fW
    cases dy with
    |own _ _ _ _ _ hrepE hid ht=>
     have hv:=(ht n (z,e) fW).2.2 rfl
     subst hv
     refine⟨hz,⟨us,ho⟩,hrepE.less fun p hp=>?_⟩
     rcases hp with hp|⟨b,h1,h2,h3⟩
     ·exact It p hp
     ·exact (htail b h1).1 p h2 h3
   ·exact v5.of (((dy.le hle).exportP hp1).less It) fun _ _ _ _ e=>by rw[e] at hp1;cases hp1
 ·rename_i q q'
  have hq:fn.results=#[q,q']:=by apply lW.1;simpa using hrs
  obtain⟨d,hk,hs⟩:=gY tok h
  obtain⟨v,bR,dy⟩:=hs x.B g w a.tmps hh i4
  obtain⟨d',E9,Kv⟩:=gY tok hk
  obtain⟨v',Dq,sO⟩:=Kv x.B g w a.tmps hh i4
  refine⟨.tuple #[v,v'],?_,?_⟩
  ·unfold results
   rw[hq,Sem.run_bind,Array.mapM_two _ q q' w bR Dq]
   simp
  ·rcases E9 with⟨⟨hp1,bQ⟩,rfl⟩|⟨e,e',FN,Cj,⟨hp1,bQ⟩,rfl⟩
   ·exact v5.of (mz.tu (vs:=[v,v']) (Pw.cons ((dy.xport hp1).less It) (Pw.cons ((sO.xport bQ).less It) Pw.nil))) (fun _ _ _ _ h=>by cases h)
   ·exact v5.of (mz.tu (vs:=[v,v']) (Pw.cons (((dy.le FN).exportP hp1).less It) (Pw.cons (((sO.le Cj).exportP bQ).less It) Pw.nil))) (fun _ _ _ _ h=>by cases h)
 ·rename_i q q' KP
  have hq:fn.results=#[q,q',KP]:=by apply lW.1;simpa using hrs
  obtain⟨d,hk,hs⟩:=gY tok h
  obtain⟨v,bR,dy⟩:=hs x.B g w a.tmps hh i4
  obtain⟨d',v3,Kv⟩:=gY tok hk
  obtain⟨v',Dq,sO⟩:=Kv x.B g w a.tmps hh i4
  obtain⟨O6,E9,hs''⟩:=gY tok v3
  obtain⟨v'',K9,GZ⟩:=hs'' x.B g w a.tmps hh i4
  refine⟨.tuple #[v,v',v''],?_,?_⟩
  ·unfold results
   rw[hq,Sem.run_bind,Array.mapM_three _ q q' KP w bR Dq K9]
   simp
  ·rcases E9 with⟨⟨hp1,bQ,hp3⟩,rfl⟩|⟨e,e',e'',FN,Cj,Om,⟨hp1,bQ,hp3⟩,rfl⟩
   ·exact v5.of (mz.tu (vs:=[v,v',v'']) (Pw.cons ((dy.xport hp1).less It) (Pw.cons ((sO.xport bQ).less It) (Pw.cons ((GZ.xport hp3).less It) Pw.nil)))) (fun _ _ _ _ h=>by cases h)
   ·exact v5.of (mz.tu (vs:=[v,v',v'']) (Pw.cons (((dy.le FN).exportP hp1).less It) (Pw.cons (((sO.le Cj).exportP bQ).less It) (Pw.cons (((GZ.le Om).exportP hp3).less It) Pw.nil)))) (fun _ _ _ _ h=>by cases h)
 ·have hq:fn.results=#[]:=by apply lW.1;simpa using hrs
  subst h
  refine⟨.tuple #[],?_,v5.of (mz.tu (vs:=[]) Pw.nil) (fun _ _ _ _ h=>by cases h)⟩
  unfold results
  rw[hq,Sem.run_bind]
  simp
 ·cases h
theorem ax.of (tok : TOk P tb) {f : FuncId} {fn : Func} {c : Code} {ds : List D} {r : D} {rs : List ResultVar} (hf : P.funcs[f]? = some fn) (hb : fn.body = some c) (uu : (fn.name == "runtime.NumGoroutine") = false) (hN : ds.length ≤ fn.ntmps) (hrs : fn.results.toList = rs)
  (h:∀x:Cx,x.N=fn.ntmps→x.hp0=⟨[],[],0⟩→AW P x c (fj 0 ds) ⟨[],[],0⟩ fun ex tm hp=>match ex with| .normal| .ret=>dm tb rs tm hp r|_=>False):ax P f ds r:=by
 subst hrs
 refine⟨⟨fn,hf,uu,by rw[hb];rfl⟩,fun w F vs hF hsz xg=>?_⟩
 refine calls_of_wp hf hb ?_
 have hrs:RS ⟨w.heap.size,w,F,fn.ntmps,⟨[],[],0⟩,⟨fun _=>0,fun _=>default,F⟩,[]⟩ (fj 0 ds) ⟨[],[],0⟩ {tmps:=vs++Array.replicate (fn.ntmps - vs.size) undef,defers:=[]} w:=by
  refine⟨⟨fun _=>0,fun _=>default,F⟩,⟨fun k ds h=>by simp at h,fun _ _ _ _ h=>by simp at h,fun _ _ _ h=>by simp at h,fun _ _ _ _ _ h=>by simp at h,aD _,hF⟩,fun t d ht=>?_,by simp;omega,rfl,Below.refl _ _,fun _ _ h=>h,bC.refl _ _ _⟩
  obtain⟨_,h2⟩:=pV ht
  have bG:t<ds.length:=by
   rw[D5] at h2
   rcases bt t ds.length with hh|hh
   ·exact hh
   ·rw[fa hh] at h2;cases h2
  have hv:vs[t]? =some vs[t]:=nh (by omega)
  have:=xg t d vs[t] (by simpa using h2) hv
  have he:(vs++Array.replicate (fn.ntmps - vs.size) undef).getD t undef=vs[t]:=by
   rw[de,yN (by omega),hv];rfl
  rw[he]
  exact this
 refine wp_mono (h ⟨w.heap.size,w,F,fn.ntmps,⟨[],[],0⟩,⟨fun _=>0,fun _=>default,F⟩,[]⟩ rfl rfl _ _ hrs) ?_
 rintro ex a' w' ⟨tm',hp',h1,h2⟩
 have fin:dm tb fn.results.toList tm' hp' r→a'.defers=[]∧∃v,(results fn a'.tmps).run P w'=.ok v w'∧∃v',Ending.returned v=.returned v'∧v5 w.heap.size F w' r v'∧Below w.heap.size w w':=by
  intro h2
  obtain⟨v,bR,nE⟩:=Mg tok rfl h2 h1 hF
  obtain⟨g,_,_,_,uc,hB,_⟩:=h1
  exact⟨uc,v,bR,v,rfl,nE,hB⟩
 cases ex with
 |normal=>exact fin h2
 |ret=>exact fin h2
 |_=>cases h2
def yU(tb:TypeId→Option TyE)(rs:List ResultVar)(tm:List (Nat×D))(hp:Hp)(r:D):Prop:=
 match rs with
 |[q]=>rG tb tm hp q fun d=>r=d
 |[q,q']=>rG tb tm hp q fun d=>rG tb tm hp q' fun d'=>r=.tu [d,d']
 |[q,q',KP]=>rG tb tm hp q fun d=>rG tb tm hp q' fun d'=>rG tb tm hp KP fun O6=>r=.tu [d,d',O6]
 |[]=>r=.tu []
 |_=>False
theorem vt(tok:TOk P tb){fn:Func}{rs:List ResultVar}{r:D}(hrs:fn.results.toList=rs)(h:yU tb rs tm hp r){g:Gh}(hh:HR x.B hp g w)(i4:∀t d,tm.lookup t=some d→aI hp g w d (a.tmps.getD t undef)):
  ∃v,(results fn a.tmps).run P w=.ok v w∧aI hp g w r v:=by
 unfold yU at h
 split at h
 ·rename_i q
  have hq:fn.results=#[q]:=by apply lW.1;simpa using hrs
  obtain⟨d,rfl,hs⟩:=gY tok h
  obtain⟨v,bR,dy⟩:=hs x.B g w a.tmps hh i4
  refine⟨v,?_,dy⟩
  unfold results
  rw[hq,Sem.run_bind,Array.mapM_one _ q w bR]
  simp
 ·rename_i q q'
  have hq:fn.results=#[q,q']:=by apply lW.1;simpa using hrs
  obtain⟨d,hk,hs⟩:=gY tok h
  obtain⟨v,bR,dy⟩:=hs x.B g w a.tmps hh i4
  obtain⟨d',rfl,Kv⟩:=gY tok hk
  obtain⟨v',Dq,sO⟩:=Kv x.B g w a.tmps hh i4
  have xD:Pw (aI hp g w) [d,d'] [v,v']:=Pw.cons dy (Pw.cons sO Pw.nil)
  refine⟨.tuple #[v,v'],?_,.tu _ _ rfl fun j d u hd hu=>xD.2 j d u hd (by simpa using hu)⟩
  unfold results
  rw[hq,Sem.run_bind,Array.mapM_two _ q q' w bR Dq]
  simp
 ·rename_i q q' KP
  have hq:fn.results=#[q,q',KP]:=by apply lW.1;simpa using hrs
  obtain⟨d,hk,hs⟩:=gY tok h
  obtain⟨v,bR,dy⟩:=hs x.B g w a.tmps hh i4
  obtain⟨d',v3,Kv⟩:=gY tok hk
  obtain⟨v',Dq,sO⟩:=Kv x.B g w a.tmps hh i4
  obtain⟨O6,rfl,hs''⟩:=gY tok v3
  obtain⟨v'',K9,GZ⟩:=hs'' x.B g w a.tmps hh i4
  have xD:Pw (aI hp g w) [d,d',O6] [v,v',v'']:=Pw.cons dy (Pw.cons sO (Pw.cons GZ Pw.nil))
  refine⟨.tuple #[v,v',v''],?_,.tu _ _ rfl fun j d u hd hu=>xD.2 j d u hd (by simpa using hu)⟩
  unfold results
  rw[hq,Sem.run_bind,Array.mapM_three _ q q' KP w bR Dq K9]
  simp
 ·have hq:fn.results=#[]:=by apply lW.1;simpa using hrs
  subst h
  refine⟨.tuple #[],?_,.tu _ _ rfl fun j d u hd hu=>by simp at hd⟩
  unfold results
  rw[hq,Sem.run_bind]
  simp
 ·cases h
structure fV(hp:Hp):Prop where
 var:∀k ds,hp.vars.lookup k=some ds→k<hp.next∧ds.all (D.idsC hp.next)=true
 tok:∀id e,hp.live.lookup id=some e→id<hp.next
theorem aI.cell_ids {d:D}{v:Value}{hp:Hp}{g:Gh}(h:aI hp g w d v)(hv:v.oneCell'=true):d.idsC hp.next=true:=by
 cases h with
 |e x v h=>rfl
 |own id z n xs v h hid ht=>exact d6 hid
 |fu z n xs A h=>rfl
 |ag ds cs hl h1 hr=>cases hv
 |tu ds cs hl hr=>cases hv
 |fp xs off ad hb hc=>rfl
 |pt k off hk=>exact d6 hk
 |ow k off z n c hk h1 h2=>exact d6 hk
 |gw k z n c hk h1 h2 hs=>exact d6 hk
 |fn f ks hk=>exact cb.2 fun k h=>d6 (hk k h)
 |opt b d v hi h=>exact hi
 |top v=>rfl
theorem HR.ok {B:Nat}{hp:Hp}{g:Gh}(h:HR B hp g w):fV hp:=by
 refine⟨fun k ds hk=>?_,fun id e he=>(h.tok id e.1 e.2 he).1⟩
 obtain⟨h1,_,_,cs,ty,_,h2,h3⟩:=h.var k ds hk
 refine⟨h1,cb.2 fun d hd=>?_⟩
 obtain⟨j,hj⟩:=wK hd
 have bG:j<cs.size:=by
  have:=(j4.1 hj).1
  omega
 obtain⟨h4,h5⟩:=h3 j cs[j] (nh bG)
 exact (h5 d hj).cell_ids (h4 (j4.1 hj).1)
theorem HC.of (tok : TOk P tb) {f : FuncId} {fn : Func} {c : Code} {ds : List D} {hp hp' : Hp} {r : D} {rs : List ResultVar} (hf : P.funcs[f]? = some fn) (hb : fn.body = some c) (uu : (fn.name == "runtime.NumGoroutine") = false) (hN : ds.length ≤ fn.ntmps) (hrs : fn.results.toList = rs)
  (h:∀x:Cx,x.N=fn.ntmps→x.hp0=hp→fV hp→AW P x c (fj 0 ds) hp fun ex tm bQ=>match ex with| .normal| .ret=>∃tm',Wk x tm bQ tm' hp'∧yU tb rs tm' hp' r|_=>False):HC P f ds hp r hp':=by
 subst hrs
 refine⟨⟨fn,hf,uu,by rw[hb];rfl⟩,fun B g w vs hr hsz xg=>?_⟩
 refine calls_of_wp hf hb ?_
 have Do:RS ⟨B,w,g.F,fn.ntmps,hp,g,[]⟩ (fj 0 ds) hp {tmps:=vs++Array.replicate (fn.ntmps - vs.size) undef,defers:=[]} w:=by
  refine⟨g,hr,fun t d ht=>?_,by simp;omega,rfl,Below.refl _ _,fun _ _ h=>h,bC.refl _ _ _⟩
  obtain⟨_,h2⟩:=pV ht
  have bG:t<ds.length:=by
   rw[D5] at h2
   rcases bt t ds.length with hh|hh
   ·exact hh
   ·rw[fa hh] at h2;cases h2
  have hv:vs[t]? =some vs[t]:=nh (by omega)
  have:=xg t d vs[t] (by simpa using h2) hv
  have he:(vs++Array.replicate (fn.ntmps - vs.size) undef).getD t undef=vs[t]:=by
   rw[de,yN (by omega),hv];rfl
  rw[he]
  exact this
 refine wp_mono (h ⟨B,w,g.F,fn.ntmps,hp,g,[]⟩ rfl rfl hr.ok _ _ Do) ?_
 rintro ex a' w' ⟨tm',bQ,h1,h2⟩
 have fin:(∃NQ,Wk ⟨B,w,g.F,fn.ntmps,hp,g,[]⟩ tm' bQ NQ hp'∧yU tb fn.results.toList NQ hp' r)→a'.defers=[]∧∃v,(results fn a'.tmps).run P w'=.ok v w'∧∃v' g',Ending.returned v=.returned v'∧HR B hp' g' w'∧bC hp g w hp' g' w'∧aI hp' g' w' r v'∧Below B w w'∧∀p:Addr,p.block<B→g.F p→g'.F p:=by
  rintro⟨NQ,OZ,La⟩
  obtain⟨g',rD,i4,_,uc,hB,hF,hM⟩:=OZ a' w' h1
  obtain⟨v,bR,nE⟩:=vt (x:=⟨B,w,g.F,fn.ntmps,hp,g,[]⟩) tok rfl La rD i4
  exact⟨uc,v,bR,v,g',rfl,rD,hM,nE,hB,hF⟩
 cases ex with
 |normal=>exact fin h2
 |ret=>exact fin h2
 |_=>cases h2
end
end
section
def Bl(k:D→Hp→Prop)(hp:Hp)(d:D):Prop:=k d hp
def atLit(k:D→Hp→Prop)(hp:Hp)(v:Value):Prop:=k (.e (.lit v)) hp
def atInt(k:D→Hp→Prop)(hp:Hp)(n:Int):Prop:=k (.e (.lit (.int .i64 n))) hp
def exO(o:Option D)(k:D→Prop):Prop:=∃d,o=some d∧k d
theorem Rv(d:D)(k:D→Prop):exO (some d) k=k d:=by
 unfold exO;exact propext ⟨fun⟨_,h,hk⟩=>by injection h with h;rw[h];exact hk,fun h=>⟨d,rfl,h⟩⟩
section
variable {P:Program} {tb:TypeId→Option TyE} {dr:Bool} {ops:Array Oper} {os:List Oper} {tm:List (Nat×D)} {hp:Hp} {K:List (Nat×D)→Hp→Prop} {dst:Option Tmp} {ty:TypeId} {pos:String} {af:Array Edge}
def R5(tb:TypeId→Option TyE)(t:TypeId)(hp:Hp)(k:D→Hp→Prop):Prop:=match tb t with|some i=>k (.pt hp.next 0) (hp.var (i.zero.map fun v=>.e (.lit v)))|none=>False
def boxV(d:D)(hp:Hp)(k:D→Hp→Prop):Prop:=match d.cells with|some cs=>k (.pt hp.next 0) (hp.var cs)|none=>False
def JO(d:D)(i:Nat)(k:D→Prop):Prop:=match d with| .tu ds=>exO (ds[i]?) k|_=>False
end
theorem tg {z:Int}(h1:-9223372036854775808≤z)(h2:z≤9223372036854775807):i64.wrap z=z:=by
 rw[IntKind.wrap_i64];omega
section
variable {P:Program} {tb:TypeId→Option TyE} {hp:Hp} {k:D→Hp→Prop} {kd:D→Prop} {kv:Value→Prop} {ki:Int→Prop}
theorem pG(t:TypeId)(j off:Nat):Dg tb t (.pt j off) hp kd=(match tb t,hp.vars.lookup j with
  |some i,some ds=>j<hp.next∧match i.ty.agg with
   |true=>off+i.size≤ds.length∧kd (.ag ((ds.drop off).take i.size))
   |false=>exO (ds[off]?) kd
  |_,_=>False):=bH rfl rfl
theorem Jh(t:TypeId)(xs:List E)(off:Nat):Dg tb t (.fp xs off) hp kd=(match tb t with
  |some i=>match i.ty.agg with
   |true=>off+i.size≤xs.length∧kd (.ag ((List.range i.size).map fun j=>.e (xs.getD (off+j) .any)))
   |false=>off<xs.length∧kd (.e (xs.getD off .any))
  |_=>False):=bH rfl rfl
theorem AI(t:TypeId)(j off:Nat)(x:D):CY tb t (.pt j off) x hp k=(match tb t,hp.vars.lookup j,x.cells with
  |some i,some ds,some cs=>cs.length=i.size∧off+i.size≤ds.length∧k .top (hp.set j (ds.take off++cs++ds.drop (off+cs.length)))
  |_,_,_=>False):=bH rfl rfl
theorem R4(t:TypeId):OK tb t (.e (.lit (.slice none 0 0))) hp k=(match tb t with
  |some i=>match i.ty with
   | .slice e=>match tb e with
    |some j=>0<j.size∧k (.own hp.next j.size 0 []) (hp.tok 0 (j.size,e))
    |none=>k (.e (.lit (.slice none 0 0))) hp
   |_=>k (.e (.lit (.slice none 0 0))) hp
  |none=>k (.e (.lit (.slice none 0 0))) hp):=bH rfl rfl
theorem pickV_t(a b:D):IY (.e (.lit (.bool true))) a b kd=kd a:=bH rfl rfl
theorem pickV_f(a b:D):IY (.e (.lit (.bool false))) a b kd=kd b:=bH rfl rfl
theorem OM(t:TypeId):R5 tb t hp k=(match tb t with|some i=>k (.pt hp.next 0) (hp.var (i.zero.map fun v=>.e (.lit v)))|none=>False):=bH rfl rfl
theorem boxV_eq(d:D):boxV d hp k=(match d.cells with|some cs=>k (.pt hp.next 0) (hp.var cs)|none=>False):=bH rfl rfl
theorem JN(ds:List D)(i:Nat):JO (.tu ds) i kd=exO (ds[i]?) kd:=bH rfl rfl
theorem bin_shl(t:TypeId)(j j':IntKind)(a b:Int):ru P .shl t (.e (.lit (.int j a))) (.e (.lit (.int j' b))) kv=(0≤b∧kv (.int j (j.wrap (a*2 ^ min b.toNat j.bits)))):=bH rfl rfl
theorem bin_shr(t:TypeId)(j j':IntKind)(a b:Int):ru P .shr t (.e (.lit (.int j a))) (.e (.lit (.int j' b))) kv=(0≤b∧kv (.int j (a.fdiv (2 ^ min b.toNat j.bits)))):=bH rfl rfl
theorem bin_add(t:TypeId)(j j':IntKind)(a b:Int):ru P .add t (.e (.lit (.int j a))) (.e (.lit (.int j' b))) kv=(j=j'∧kv (.int j (j.wrap (a+b)))):=bH rfl rfl
theorem bin_sub(t:TypeId)(j j':IntKind)(a b:Int):ru P .sub t (.e (.lit (.int j a))) (.e (.lit (.int j' b))) kv=(j=j'∧kv (.int j (j.wrap (a - b)))):=bH rfl rfl
theorem bin_mul(t:TypeId)(j j':IntKind)(a b:Int):ru P .mul t (.e (.lit (.int j a))) (.e (.lit (.int j' b))) kv=(j=j'∧kv (.int j (j.wrap (a*b)))):=bH rfl rfl
theorem bin_quo(t:TypeId)(j j':IntKind)(a b:Int):ru P .quo t (.e (.lit (.int j a))) (.e (.lit (.int j' b))) kv=(j=j'∧b≠0∧kv (.int j (j.wrap (a.tdiv b)))):=bH rfl rfl
theorem bin_rem(t:TypeId)(j j':IntKind)(a b:Int):ru P .rem t (.e (.lit (.int j a))) (.e (.lit (.int j' b))) kv=(j=j'∧b≠0∧kv (.int j (a.tmod b))):=bH rfl rfl
theorem bin_and(t:TypeId)(j j':IntKind)(a b:Int):ru P .and t (.e (.lit (.int j a))) (.e (.lit (.int j' b))) kv=(j=j'∧kv (.int j (j.wrap (BitVec.ofInt j.bits a &&&BitVec.ofInt j.bits b).toNat))):=bH rfl rfl
theorem bin_or(t:TypeId)(j j':IntKind)(a b:Int):ru P .or t (.e (.lit (.int j a))) (.e (.lit (.int j' b))) kv=(j=j'∧kv (.int j (j.wrap (BitVec.ofInt j.bits a |||BitVec.ofInt j.bits b).toNat))):=bH rfl rfl
theorem bin_eql(t:TypeId)(j j':IntKind)(a b:Int):ru P .eql t (.e (.lit (.int j a))) (.e (.lit (.int j' b))) kv=(j=j'∧kv (.bool (decide (a=b)))):=bH rfl rfl
theorem bin_neq(t:TypeId)(j j':IntKind)(a b:Int):ru P .neq t (.e (.lit (.int j a))) (.e (.lit (.int j' b))) kv=(j=j'∧kv (.bool (decide (a≠b)))):=bH rfl rfl
theorem bin_lss(t:TypeId)(j j':IntKind)(a b:Int):ru P .lss t (.e (.lit (.int j a))) (.e (.lit (.int j' b))) kv=(j=j'∧kv (.bool (decide (a<b)))):=bH rfl rfl
theorem bin_leq(t:TypeId)(j j':IntKind)(a b:Int):ru P .leq t (.e (.lit (.int j a))) (.e (.lit (.int j' b))) kv=(j=j'∧kv (.bool (decide (a≤b)))):=bH rfl rfl
theorem bin_gtr(t:TypeId)(j j':IntKind)(a b:Int):ru P .gtr t (.e (.lit (.int j a))) (.e (.lit (.int j' b))) kv=(j=j'∧kv (.bool (decide (b<a)))):=bH rfl rfl
theorem bin_geq(t:TypeId)(j j':IntKind)(a b:Int):ru P .geq t (.e (.lit (.int j a))) (.e (.lit (.int j' b))) kv=(j=j'∧kv (.bool (decide (b≤a)))):=bH rfl rfl
theorem RU(t:TypeId)(a b:Bool):ru P .eql t (.e (.lit (.bool a))) (.e (.lit (.bool b))) kv=(P.underlying t=some .bool∧kv (.bool (a == b))):=bH rfl rfl
theorem RT(t:TypeId)(a b:Bool):ru P .neq t (.e (.lit (.bool a))) (.e (.lit (.bool b))) kv=(P.underlying t=some .bool∧kv (.bool (!(a == b)))):=bH rfl rfl
theorem nilV_pt(j off:Nat):nilV (.pt j off) kd=kd (.pt j off):=bH rfl rfl
theorem un_not(t:Bool):unV .not (.e (.lit (.bool t))) kv=kv (.bool !t):=bH rfl rfl
theorem un_neg(j:IntKind)(n:Int):unV .neg (.e (.lit (.int j n))) kv=kv (.int j (j.wrap (0 - n))):=rfl
theorem wD(s:TypeId)(f:Nat)(kf:Nat→Nat→Bool→Prop):rt tb s f kf=(match tb s with
  |some i=>match i.ty with
   | .struct fs=>match fs[f]? with
    |some (off,t)=>match tb t with
     |some j=>kf off j.size j.ty.agg
     |none=>False
    |none=>False
   |_=>False
  |none=>False):=bH rfl rfl
theorem Fi(s:TypeId)(f j off:Nat):qJ tb s f (.pt j off) kd=rt tb s f fun o z _=>z≠0∧kd (.pt j (off+o)):=bH rfl rfl
theorem Fj(s:TypeId)(f:Nat)(xs:List E)(off:Nat):qJ tb s f (.fp xs off) kd=rt tb s f fun o z _=>z≠0∧kd (.fp xs (off+o)):=bH rfl rfl
theorem OG(s:TypeId)(f:Nat)(ds:List D):DG tb s f (.ag ds) kd=rt tb s f fun o z g=>match g with
   |true=>o+z≤ds.length∧kd (.ag ((ds.drop o).take z))
   |false=>exO (ds[o]?) kd:=bH rfl rfl
theorem tU(t:TypeId)(d:D)(j:IntKind)(x:Int):qE tb t d (.e (.lit (.int j x))) kd=(match tb t with
  |some ti=>match ti.ty with
   | .slice e=>match tb e with
    |some j=>match d.asSl j.size with
     |some (n,xs)=>(0≤x∧x<(n:Int))∧kd (.fp xs (x.toNat*j.size))
     |none=>match d with
      | .ow v off z n=>z=j.size∧(0≤x∧x<(n:Int))∧kd (.pt v (off+x.toNat*j.size))
      |_=>False
    |none=>False
   | .arr n e=>match tb e,d with
    |some j,.pt v off=>(0≤x∧x<(n:Int))∧kd (.pt v (off+x.toNat*j.size))
    |some j,.fp xs off=>(0≤x∧x<(n:Int))∧kd (.fp xs (off+x.toNat*j.size))
    |_,_=>False
   |_=>False
  |none=>False):=by
 unfold qE
 cases tb t <;> rfl
theorem Oe(t:TypeId)(d:D)(j:IntKind)(x:Int):A7 tb t d (.e (.lit (.int j x))) kd=(match tb t with
  |some ti=>match ti.ty,d with
   | .str,.e (.lit (.string s))=>(0≤x∧x<(s.size:Int))∧kd (.e (.lit (.int .u8 ((s.data.toList.getD x.toNat 0).toNat:Int))))
   | .arr n e,.ag ds=>match tb e with
    |some j=>(0≤x∧x<(n:Int))∧match j.ty.agg with
     |true=>x.toNat*j.size+j.size≤ds.length∧kd (.ag ((ds.drop (x.toNat*j.size)).take j.size))
     |false=>∃d,ds[x.toNat*j.size]? =some d∧kd d
    |none=>False
   |_,_=>False
  |none=>False):=by
 unfold A7
 cases tb t <;> rfl
theorem BW(t:TypeId)(d:D):kW tb .len [t] [d] hp k=Qa tb t d (atInt k hp):=bH rfl rfl
theorem JY(ts:List TypeId)(j j':IntKind)(x y:Int):kW tb .min ts [.e (.lit (.int j x)),.e (.lit (.int j' y))] hp k=k (.e (.lit (.int j (min x y)))) hp:=by
 unfold kW
 split <;> first|rfl|simp_all
theorem JZ(ts:List TypeId)(j j':IntKind)(x y:Int):kW tb .max ts [.e (.lit (.int j x)),.e (.lit (.int j' y))] hp k=k (.e (.lit (.int j (max x y)))) hp:=by
 unfold kW
 split <;> first|rfl|simp_all
theorem DQ(t t':TypeId)(s x:D):kW tb .append [t,t'] [s,x] hp k=tI tb t t' s x hp k:=bH rfl rfl
def appOwn(j:TyE)(e:TypeId)(id z n:Nat)(xs:List E)(hp:Hp)(k:D→Hp→Prop)(m:Nat)(ys:List E):Prop:=z=j.size∧hp.live.lookup id=some (n,j.size,e)∧(n+m)*max 1 j.bytes≤140737488355328∧k (.own id j.size (n+m) (xs++ys)) (hp.app id (n+m) (j.size,e))
theorem J7(t t':TypeId)(id z n:Nat)(xs:List E)(x:D):tI tb t t' (.own id z n xs) x hp k=(match tb t with
  |some ti=>match ti.ty with
   | .slice e=>match tb e with
    |some j=>0<j.size∧(x.strOf=none→t'=t)∧(x.strOf≠none→j.bytes=1∧j.zero=[.int .u8 0]∧j.ty.agg=false)∧zH tb t' j.size x (appOwn j e id z n xs hp k)
    |none=>False
   |_=>False
  |none=>False):=bH rfl rfl
theorem PY(t:TypeId)(z:Nat)(x:D)(kn:Nat→List E→Prop):zH tb t z x kn=(match tb t with
  |some i=>match i.ty,x.strOf with
   | .str,some s=>z=1∧kn s.size (s.data.toList.map fun b=>.lit (bv b))
   | .slice _,none=>match x.asSl z with
    |some (m,ys)=>kn m ys
    |none=>False
   |_,_=>False
  |none=>False):=rfl
theorem MM(t:TypeId)(d:D):Qa tb t d ki=(match tb t with
  |some ti=>match ti.ty with
   | .slice e=>match tb e with
    |some j=>match d.asSl j.size with
     |some (n,_)=>ki n
     |none=>match d with
      | .ow _ _ _ n=>ki n
      |_=>False
    |none=>False
   | .str=>match d with
    | .e (.lit (.string s))=>ki s.size
    |_=>False
   | .arr n _=>ki n
   |_=>False
  |none=>False):=bH rfl rfl
theorem xl(t:TypeId)(ps:List (Nat×D)):DR tb t ps kd=(match tb t,lM ps with
  |some i,some qs=>match i.ty with
   | .struct fs=>(∀f∈fs,(tb f.2).isSome=true)∧match gU (rH tb fs) (i.zero.map fun v=>D.e (.lit v)) qs with
    |some ds=>kd (.ag ds)
    |none=>False
   | .arr _ e=>match tb e with
    |some j=>match gU (fun n=>some (n*j.size,j.size)) (i.zero.map fun v=>D.e (.lit v)) qs with
     |some ds=>kd (.ag ds)
     |none=>False
    |none=>False
   |_=>False
  |_,_=>False):=bH rfl rfl
theorem AW.condS {x:Cx}{Q:Exit→List (Nat×D)→Hp→Prop}{tm:List (Nat×D)}{c:Operand}{c1 c2:Code}{b:Bool}(hc:evD tm c=.e (.lit (.bool b)))(ht:b=true→AW P x c1 tm hp Q)(hf:b=false→AW P x c2 tm hp Q):AW P x (.cond c c1 c2) tm hp Q:=by
 refine AW.cond hc ?_
 cases b
 ·exact hf rfl
 ·exact ht rfl
end
end
section
inductive Bef (ops:Array Oper):Nat→Nat→Prop
 |edge (i:Nat) (o:Oper) (e:Edge) (hi:ops[i]? =some o) (he:e∈o.after) (hb:Region.binds .any e=true):Bef ops e.on i
 |trans (j i:Nat) (o:Oper) (e:Edge) (hi:ops[i]? =some o) (he:e∈o.after) (hb:Region.binds .any e=true) (h:Bef ops j e.on):Bef ops j i
def fz {α:Type}(n:Nat)(k:Nat→α):α:=match n with
 |0=>k 0
 |m+1=>k (m+1)
theorem M2 {α:Type}{n:Nat}{k:Nat→α}:fz n k=k n:=by cases n <;> rfl
def look:List (Nat×Nat)→Nat→Nat
 |[],_=>0
 |(j,b)::m,k=>if Nat.beq j k then b else look m k
def AY(m:List (Nat×Nat))(l:List Edge)(s:Nat):Nat:=match l with
 |[]=>s
 |e::l=>if Region.binds .any e then fz (s |||2 ^ e.on |||look m e.on) fun s=>AY m l s else AY m l s
theorem AX(m:List (Nat×Nat)):∀(l:List Edge) (s j:Nat),(AY m l s).testBit j=true→
  s.testBit j=true∨∃e∈l,Region.binds .any e=true∧(e.on=j∨(look m e.on).testBit j=true)
 |[],s,j,h=>.inl h
 |e::l,s,j,h=>by
  unfold AY at h
  split at h
  ·rename_i hb
   rw[M2] at h
   rcases AX m l _ j h with h1|⟨e',h1,h2⟩
   ·rw[HP,HP] at h1
    simp only[Bool.or_eq_true] at h1
    rcases h1 with (h1|h1)|h1
    ·exact .inl h1
    ·rw[Nat.testBit_two_pow] at h1
     exact .inr ⟨e,ni ..,hb,.inl (by simpa using h1)⟩
    ·exact .inr ⟨e,ni ..,hb,.inr h1⟩
   ·exact .inr ⟨e',lV _ h1,h2⟩
  ·rcases AX m l _ j h with h1|⟨e',h1,h2⟩
   ·exact .inl h1
   ·exact .inr ⟨e',lV _ h1,h2⟩
theorem FG {ops:Array Oper}:∀{m:List (Nat×Nat)},(∀p∈m,∀j,p.2.testBit j=true→Bef ops j p.1)→∀k j,(look m k).testBit j=true→Bef ops j k
 |[],_,k,j,h=>by simp[look] at h
 |(i,b)::m,hm,k,j,h=>by
  unfold look at h
  split at h
  ·rename_i he
   obtain rfl:i=k:=yL he
   exact hm _ (ni ..) j h
  ·exact FG (fun p hp=>hm p (lV _ hp)) k j h
def oB(ops:Array Oper)(o:Oper):List Tmp:=
 (o.op.operands.toList.filterMap fun| .tmp t=>some t|_=>none)++(match o.guard with
  |some (j,_)=>((ops[j]?).bind (·.dst)).toList
  |none=>[])
def subB(a b:Nat):Bool:=Nat.beq (a &&&b) a
theorem AH {a b j:Nat}(h:subB a b=true)(hj:a.testBit j=true):b.testBit j=true:=by
 have h:=yL h
 rw[←h,Nat.testBit_and] at hj
 simp only[mf] at hj
 exact hj.2
def xU(c:Bool)(s i:Nat):Nat:=if c then s |||2 ^ i else s
theorem AZ {c:Bool}{s i j:Nat}(h:s.testBit j=true):(xU c s i).testBit j=true:=by
 unfold xU;split
 ·rw[HP,h];rfl
 ·exact h
theorem A0 {s i:Nat}:(xU true s i).testBit i=true:=by
 unfold xU;rw[ar rfl,HP,Nat.testBit_two_pow];simp
def Fx(s:List (Tmp×Nat))(i:Nat):List Tmp→List (Tmp×Nat)
 |[]=>s
 |t::ts=>Fx ((t,i)::s) i ts
theorem AD {i:Nat}:∀{ts:List Tmp} {s:List (Tmp×Nat)} {p:Tmp×Nat},p∈s→p∈Fx s i ts
 |[],_,_,h=>h
 |_::ts,_,_,h=>AD (ts:=ts) (lV _ h)
theorem Fw {i:Nat}:∀{ts:List Tmp} {s:List (Tmp×Nat)} {t:Nat},t∈ts→(t,i)∈Fx s i ts
 |t'::ts,s,t,h=>by
  show (t,i)∈Fx ((t',i)::s) i ts
  rcases je.1 h with rfl|h
  ·exact AD (ni ..)
  ·exact Fw h
def Rq(d:Option Tmp)(b:Nat)(u pr:List (Tmp×Nat)):Bool:=match d with
 |none=>true
 |some t=>(u.all fun p=>!Nat.beq p.1 t||b.testBit p.2)&&pr.all fun p=>!Nat.beq p.1 t
def RJ(d:Option Tmp)(i:Nat)(pr:List (Tmp×Nat)):List (Tmp×Nat):=match d with
 |none=>pr
 |some t=>(t,i)::pr
def fzl {α:Type}:List Nat→(List Nat→α)→α
 |[],k=>k []
 |t::ts,k=>fz t fun t=>fzl ts fun ts=>k (t::ts)
theorem Rp {α:Type}:∀{l:List Nat} {k:List Nat→α},fzl l k=k l
 |[],_=>rfl
 |_::_,_=>by rw[fzl,M2,Rp]
def Pj {α:Type}(u:List (Tmp×Nat))(i:Nat):List Tmp→(List (Tmp×Nat)→α)→α
 |[],k=>k u
 |t::ts,k=>Pj ((t,i)::u) i ts k
theorem IM {α:Type}{i:Nat}:∀{ts:List Tmp} {u:List (Tmp×Nat)} {k:List (Tmp×Nat)→α},Pj u i ts k=k (Fx u i ts)
 |[],_,_=>rfl
 |_::ts,_,_=>IM (ts:=ts)
def RI {α:Type}(d:Option Tmp)(i:Nat)(pr:List (Tmp×Nat))(k:List (Tmp×Nat)→α):α:=match d with
 |none=>k pr
 |some t=>fz t fun t=>k ((t,i)::pr)
theorem RH {α:Type}{d:Option Tmp}{i:Nat}{pr:List (Tmp×Nat)}{k:List (Tmp×Nat)→α}:RI d i pr k=k (RJ d i pr):=by
 cases d with
 |none=>rfl
 |some t=>rw[RI,M2];rfl
def ordG(tb:TypeId→Option TyE)(L:List FuncId)(ops:Array Oper):List Oper→Nat→List (Nat×Nat)→Nat→Nat→Nat→List (Tmp×Nat)→List (Tmp×Nat)→Bool
 |[],_,_,_,_,_,_,_=>true
 |o::os,i,m,lo,ld,vs,u,pr=>
  fz (AY m o.after.toList 0) fun b=>fzl (oB ops o) fun ts=>
  o.after.toList.all (fun e=>!Region.binds .any e||Nat.blt e.on i)&&
  (gZ tb L o.op||subB lo b)&&
  (!qr o.op||subB vs b)&&
  (!yr tb L o.op||subB ld b)&&
  Rq o.dst b u pr&&
  ts.all (fun t=>pr.all fun p=>!Nat.beq p.1 t||b.testBit p.2)&&
  fz (xU (!gZ tb L o.op) lo i) fun lo=>fz (xU (qr o.op) ld i) fun ld=>fz (xU (yr tb L o.op) vs i) fun vs=>fz (i+1) fun i'=>
  Pj u i ts fun u=>RI o.dst i pr fun pr=>ordG tb L ops os i' ((i,b)::m) lo ld vs u pr
def xR(tb:TypeId→Option TyE)(L:List FuncId)(ops:Array Oper):Bool:=ordG tb L ops ops.toList 0 [] 0 0 0 [] []
structure OrdT(tb:TypeId→Option TyE)(L:List FuncId)(ops:Array Oper):Prop where
 low:∀(i:Nat) (o:Oper) (e:Edge),ops[i]? =some o→e∈o.after→Region.binds .any e=true→e.on<i
 dst:∀(i j:Nat) (o o':Oper) (t:Tmp),ops[i]? =some o→ops[j]? =some o'→o.dst=some t→o'.dst=some t→i=j
 data:∀(i j:Nat) (o o':Oper) (t:Tmp),ops[i]? =some o→ops[j]? =some o'→i≠j→t∈oB ops o→o'.dst=some t→(j<i∧Bef ops j i)∨(i<j∧Bef ops i j)
 loud:∀(i j:Nat) (o o':Oper),ops[i]? =some o→ops[j]? =some o'→i<j→gZ tb L o.op=false→gZ tb L o'.op=false→Bef ops i j
 vars:∀(i j:Nat) (o o':Oper),ops[i]? =some o→ops[j]? =some o'→i≠j→qr o.op=true→yr tb L o'.op=true→(j<i∧Bef ops j i)∨(i<j∧Bef ops i j)
structure OrdP(tb:TypeId→Option TyE)(L:List FuncId)(ops:Array Oper)(j i:Nat)(o' o:Oper):Prop where
 dst:∀t,o'.dst=some t→o.dst≠some t
 fwd:∀t,t∈oB ops o→o'.dst=some t→Bef ops j i
 bwd:∀t,t∈oB ops o'→o.dst=some t→Bef ops j i
 loud:gZ tb L o.op=false→gZ tb L o'.op=false→Bef ops j i
 v1:qr o.op=true→yr tb L o'.op=true→Bef ops j i
 v2:yr tb L o.op=true→qr o'.op=true→Bef ops j i
structure OrdI(tb:TypeId→Option TyE)(L:List FuncId)(ops:Array Oper)(i:Nat)(m:List (Nat×Nat))(lo ld vs:Nat)(u pr:List (Tmp×Nat)):Prop where
 m:∀p∈m,∀j,p.2.testBit j=true→Bef ops j p.1
 lo:∀j o,j<i→ops[j]? =some o→gZ tb L o.op=false→lo.testBit j=true
 ld:∀j o,j<i→ops[j]? =some o→qr o.op=true→ld.testBit j=true
 vs:∀j o,j<i→ops[j]? =some o→yr tb L o.op=true→vs.testBit j=true
 u:∀j o t,j<i→ops[j]? =some o→t∈oB ops o→(t,j)∈u
 pr:∀j o t,j<i→ops[j]? =some o→o.dst=some t→(t,j)∈pr
theorem FC {tb:TypeId→Option TyE}{L:List FuncId}{ops:Array Oper}:∀(os:List Oper) (i:Nat) (m:List (Nat×Nat)) (lo ld vs:Nat) (u pr:List (Tmp×Nat)),ops.toList.drop i=os→OrdI tb L ops i m lo ld vs u pr→ordG tb L ops os i m lo ld vs u pr=true→
  ∀k o,i≤k→ops[k]? =some o→(∀e∈o.after,Region.binds .any e=true→e.on<k)∧∀j o',j<k→ops[j]? =some o'→OrdP tb L ops j k o' o
 |[],i,m,lo,ld,vs,u,pr,hd,_,_,k,o,hk,hok=>by
  have:ops.toList.length≤i:=List.drop_eq_nil_iff.1 hd
  have h2:k<ops.size:=(ey.1 hok).1
  simp at this
  omega
 |o::os,i,m,lo,ld,vs,u,pr,hd,hI,h,k,ok,hk,hok=>by
  have ho:ops[i]? =some o:=by
   have:(ops.toList.drop i)[0]? =some o:=by rw[hd];rfl
   rw[lX] at this
   simpa using this
  have EQ:ops.toList.drop (i+1)=os:=by
   rw[←nj,hd];rfl
  unfold ordG at h
  simp only[M2,Rp,IM,RH,mf] at h
  obtain⟨⟨⟨⟨⟨⟨h1,h2⟩,h3⟩,h4⟩,h5⟩,h6⟩,h7⟩:=h
  have hb:∀j,(AY m o.after.toList 0).testBit j=true→Bef ops j i:=by
   intro j hj
   rcases AX m _ _ _ hj with h|⟨e,he,hbi,h⟩
   ·simp at h
   ·rcases h with rfl|h
    ·exact .edge _ o e ho (by simpa using he) hbi
    ·exact .trans j _ o e ho (by simpa using he) hbi (FG hI.m _ _ h)
  rcases bt i k with hik|hik
  ·refine FC os (i+1) _ _ _ _ _ _ EQ ?_ h7 k ok hik hok
   have split:∀{j:Nat} {oj:Oper} {Q:Nat→Oper→Prop},j<i+1→ops[j]? =some oj→(j<i→ops[j]? =some oj→Q j oj)→Q i o→Q j oj:=by
    intro j oj Q hj sf hold tW
    rcases bt j i with h|h
    ·exact hold h sf
    ·obtain rfl:j=i:=by omega
     obtain rfl:o=oj:=by rw[ho] at sf;injection sf
     exact tW
   refine⟨fun p hp=>?_,fun j oj hj sf=>?_,fun j oj hj sf=>?_,fun j oj hj sf=>?_,fun j oj t hj sf=>?_,fun j oj t hj sf=>?_⟩
   ·rcases je.1 hp with rfl|hp
    ·exact hb
    ·exact hI.m p hp
   ·refine split (Q:=fun j oj=>gZ tb L oj.op=false→(xU (!gZ tb L o.op) lo i).testBit j=true) hj sf (fun hj sf hq=>AZ (hI.lo j oj hj sf hq)) fun hq=>?_
    rw[hq];exact A0
   ·refine split (Q:=fun j oj=>qr oj.op=true→(xU (qr o.op) ld i).testBit j=true) hj sf (fun hj sf hq=>AZ (hI.ld j oj hj sf hq)) fun hq=>?_
    rw[hq];exact A0
   ·refine split (Q:=fun j oj=>yr tb L oj.op=true→(xU (yr tb L o.op) vs i).testBit j=true) hj sf (fun hj sf hq=>AZ (hI.vs j oj hj sf hq)) fun hq=>?_
    rw[hq];exact A0
   ·exact split (Q:=fun j oj=>t∈oB ops oj→(t,j)∈Fx u i (oB ops o)) hj sf (fun hj sf hq=>AD (hI.u j oj t hj sf hq)) fun hq=>Fw hq
   ·refine split (Q:=fun j oj=>oj.dst=some t→(t,j)∈RJ o.dst i pr) hj sf (fun hj sf hq=>?_) fun hq=>?_
    ·have:=hI.pr j oj t hj sf hq
     unfold RJ
     split
     ·exact this
     ·exact lV _ this
    ·rw[hq];exact ni ..
  ·obtain rfl:i=k:=by omega
   obtain rfl:o=ok:=by rw[ho] at hok;injection hok
   have fresh:∀t,o.dst=some t→(∀j,(t,j)∈u→Bef ops j i)∧∀p∈pr,p.1≠t:=by
    intro t ht
    rw[ht] at h5
    simp only[Rq,mf,yM,cb] at h5
    refine⟨fun j hj=>?_,fun p hp e=>?_⟩
    ·have:=h5.1 _ hj
     simp only[HO,eH,Bool.false_or] at this
     exact hb j this
    have:=h5.2 p hp
    rw[e,HO] at this
    cases this
   refine⟨fun e he hbe=>?_,fun j o' hj sf=>⟨fun t ht K7=>?_,fun t ht K7=>?_,fun t ht K7=>?_,fun hq hq'=>?_,fun hl hv=>?_,fun hv hl=>?_⟩⟩
   ·have:=cb.1 h1 e (by simpa using he)
    rw[hbe] at this
    simpa[Nat.blt_eq] using this
   ·exact (fresh t K7).2 _ (hI.pr j o' t hj sf ht) rfl
   ·have:=cb.1 (cb.1 h6 t ht) _ (hI.pr j o' t hj sf K7)
    simp only[HO,eH,Bool.false_or] at this
    exact hb j this
   ·exact (fresh t K7).1 j (hI.u j o' t hj sf ht)
   ·rw[hq] at h2
    exact hb j (AH (by simpa using h2) (hI.lo j o' hj sf hq'))
   ·rw[hl] at h3
    exact hb j (AH (by simpa using h3) (hI.vs j o' hj sf hv))
   ·rw[hv] at h4
    exact hb j (AH (by simpa using h4) (hI.ld j o' hj sf hl))
theorem C5 {tb:TypeId→Option TyE}{L:List FuncId}{ops:Array Oper}(h:xR tb L ops=true):OrdT tb L ops:=by
 have key:=FC (tb:=tb) (L:=L) (ops:=ops) ops.toList 0 [] 0 0 0 [] [] rfl
  ⟨fun p hp=>(by cases hp),fun j o hj=>absurd hj (wI _),fun j o hj=>absurd hj (wI _),fun j o hj=>absurd hj (wI _),fun j o t hj=>absurd hj (wI _),fun j o t hj=>absurd hj (wI _)⟩ h
 refine⟨fun i o e hi he hbe=>(key i o (bY _) hi).1 e he hbe,fun i j o o' t hi hj ht K7=>?_,fun i j o o' t hi hj qu ht K7=>?_,fun i j o o' hi hj bG hq hq'=>?_,fun i j o o' hi hj qu hq hv=>?_⟩
 ·rcases yP i j with h1|h1|h1
  ·exact absurd K7 (((key j o' (bY _) hj).2 i o h1 hi).dst t ht)
  ·exact h1
  ·exact absurd ht (((key i o (bY _) hi).2 j o' h1 hj).dst t K7)
 ·rcases bt i j with h1|h1
  ·exact .inr ⟨h1,((key j o' (bY _) hj).2 i o h1 hi).bwd t ht K7⟩
  ·exact .inl ⟨by omega,((key i o (bY _) hi).2 j o' (by omega) hj).fwd t ht K7⟩
 ·exact ((key j o' (bY _) hj).2 i o bG hi).loud hq' hq
 ·rcases bt i j with h1|h1
  ·exact .inr ⟨h1,((key j o' (bY _) hj).2 i o h1 hi).v2 hv hq⟩
  ·exact .inl ⟨by omega,((key i o (bY _) hi).2 j o' (by omega) hj).v1 hq hv⟩
section
variable {P:Program} {tb:TypeId→Option TyE} {L:List FuncId}
structure Run(P:Program)(tb:TypeId→Option TyE)(L:List FuncId)(ops:Array Oper)(n:Nat)(dd:Nat→D)(hh:Nat→Hp)(ac:Nat→Bool)(tms:Nat→List (Nat×D)):Prop where
 ts:∀(i:Nat) (o:Oper),i<n→ops[i]? =some o→tms (i+1)=AP o.dst (dd i) (tms i)
 on:∀(i:Nat) (o:Oper),i<n→ops[i]? =some o→ac i=true→Gd ops o (tms i) true∧nT P tb (.any L) o (evD (tms i)) (hh i) (dd i) (hh (i+1))
 off:∀(i:Nat) (o:Oper),i<n→ops[i]? =some o→ac i=false→Gd ops o (tms i) false∧Offs o (evD (tms i)) (dd i)∧hh (i+1)=hh i
theorem KM {ops:Array Oper}{K:List (Nat×D)→Hp→Prop}:∀(rest:List Oper) (i:Nat) (dd:Nat→D) (hh:Nat→Hp) (ac:Nat→Bool) (tms:Nat→List (Nat×D)),Run P tb L ops i dd hh ac tms→ops.toList.drop i=rest→ba P tb (.any L) ops K rest (tms i) (hh i)→
  ∃dd' Q3 ac' Gz,Run P tb L ops (i+rest.length) dd' Q3 ac' Gz∧K (Gz (i+rest.length)) (Q3 (i+rest.length))∧Gz 0=tms 0∧Q3 0=hh 0
 |[],i,dd,hh,ac,tms,hr,_,h=>by
  cases h with
  |nil h=>exact⟨dd,hh,ac,tms,hr,h,rfl,rfl⟩
  |wk hmd=>cases hmd
 |o::rest,i,dd,hh,ac,tms,hr,hd,h=>by
  have ho:ops[i]? =some o:=by
   have:(ops.toList.drop i)[0]? =some o:=by rw[hd];rfl
   rw[lX] at this
   simpa using this
  have EQ:ops.toList.drop (i+1)=rest:=by
   rw[←nj,hd];rfl
  have ext:∀(d:D) (hp':Hp) (b:Bool),((b=true→Gd ops o (tms i) true∧nT P tb (.any L) o (evD (tms i)) (hh i) d hp')∧(b=false→Gd ops o (tms i) false∧Offs o (evD (tms i)) d∧hp'=hh i))→ba P tb (.any L) ops K rest (AP o.dst d (tms i)) hp'→
    ∃dd' Q3 ac' Gz,Run P tb L ops (i+(o::rest).length) dd' Q3 ac' Gz∧K (Gz (i+(o::rest).length)) (Q3 (i+(o::rest).length))∧Gz 0=tms 0∧Q3 0=hh 0:=by
   intro d hp' b hb Qv
   have bR:Run P tb L ops (i+1) (fun j=>if j=i then d else dd j) (fun j=>if j=i+1 then hp' else hh j) (fun j=>if j=i then b else ac j) (fun j=>if j=i+1 then AP o.dst d (tms i) else tms j):=by
    refine⟨fun j oj hj sf=>?_,fun j oj hj sf Kx=>?_,fun j oj hj sf Kx=>?_⟩
    ·by_cases Fa:j=i
     ·subst Fa
      obtain rfl:o=oj:=by rw[ho] at sf;injection sf
      simp
     ·have h5:=hr.ts j oj (by omega) sf
      have h6:j+1≠i+1:=by omega
      have h7:j≠i+1:=by omega
      simp only[h6,h7,Fa,BX]
      exact h5
    ·by_cases Fa:j=i
     ·subst Fa
      obtain rfl:o=oj:=by rw[ho] at sf;injection sf
      have:b=true:=by simpa using Kx
      simpa using hb.1 this
     ·have h5:ac j=true:=by simpa[Fa] using Kx
      have h6:j+1≠i+1:=by omega
      have h7:j≠i+1:=by omega
      simp only[h6,h7,Fa,BX]
      exact hr.on j oj (by omega) sf h5
    ·by_cases Fa:j=i
     ·subst Fa
      obtain rfl:o=oj:=by rw[ho] at sf;injection sf
      have:b=false:=by simpa using Kx
      simpa using hb.2 this
     ·have h5:ac j=false:=by simpa[Fa] using Kx
      have h6:j+1≠i+1:=by omega
      have h7:j≠i+1:=by omega
      simp only[h6,h7,Fa,BX]
      exact hr.off j oj (by omega) sf h5
   obtain⟨dd',Q3,ac',Gz,h1,h2,h3,h4⟩:=KM (ops:=ops) (K:=K) rest (i+1) _ _ _ _ bR EQ (by rw[ar rfl,ar rfl];exact Qv)
   refine⟨dd',Q3,ac',Gz,?_,?_,?_,?_⟩
   ·rw[n7,show i+(rest.length+1)=i+1+rest.length by omega];exact h1
   ·rw[n7,show i+(rest.length+1)=i+1+rest.length by omega];exact h2
   ·rw[h3];exact ifn_
   ·rw[h4];exact ifn_
  cases h with
  |on d hp' hg h2 h1=>exact ext d hp' true ⟨fun _=>⟨hg,h2⟩,fun h=>by cases h⟩ h1
  |off d hg hs h1=>exact ext d (hh i) false ⟨fun h=>(by cases h),fun _=>⟨hg,hs,rfl⟩⟩ h1
  |sq hmd=>cases hmd
  |wk hmd=>cases hmd
theorem Run.quiet_step {ops:Array Oper}{n:Nat}{dd:Nat→D}{hh:Nat→Hp}{ac:Nat→Bool}{tms:Nat→List (Nat×D)}(hr:Run P tb L ops n dd hh ac tms){j:Nat}{o:Oper}(hj:j<n)(ho:ops[j]? =some o)(hq:gZ tb L o.op=true):hh (j+1)=hh j:=by
 cases Kx:ac j with
 |true=>exact ((hr.on j o hj ho Kx).2.quiet hq).1
 |false=>exact (hr.off j o hj ho Kx).2.2
theorem Run.fr_step {ops:Array Oper}{n:Nat}{dd:Nat→D}{hh:Nat→Hp}{ac:Nat→Bool}{tms:Nat→List (Nat×D)}(hr:Run P tb L ops n dd hh ac tms){j:Nat}{o:Oper}(hj:j<n)(ho:ops[j]? =some o)(hq:yr tb L o.op=false):Fr (hh j) (hh (j+1)):=by
 cases Kx:ac j with
 |true=>exact (hr.on j o hj ho Kx).2.fr hq
 |false=>rw[(hr.off j o hj ho Kx).2.2];exact Fr.refl _
theorem Fr.trans {a b c:Hp}(h:Fr a b)(h':Fr b c):Fr a c:=⟨cw h.1 h'.1,fun j hj=>(h'.2 j (bU hj h.1)).trans (h.2 j hj)⟩
theorem Run.frs {ops:Array Oper}(hh:Nat→Hp){a b:Nat}(MX:a≤b)(hb:b≤ops.size)(h:∀j o,a≤j→j<b→ops[j]? =some o→Fr (hh j) (hh (j+1))):Fr (hh a) (hh b):=by
 induction b with
 |zero=>
      obtain rfl:a=0:=by omega
      exact Fr.refl _
 |succ b ih=>
  rcases bt a (b+1) with h1|h1
  ·have bG:b<ops.size:=by omega
   exact (ih (by omega) (by omega) fun j o h2 h3 h4=>h j o h2 (by omega) h4).trans (h b ops[b] (by omega) (by omega) (nh bG))
  ·obtain rfl:a=b+1:=by omega
   exact Fr.refl _
theorem Run.same {α:Type}{ops:Array Oper}(f:Nat→α){a b:Nat}(MX:a≤b)(hb:b≤ops.size)(h:∀j o,a≤j→j<b→ops[j]? =some o→f (j+1)=f j):f b=f a:=by
 induction b with
 |zero=>
      obtain rfl:a=0:=by omega
      rfl
 |succ b ih=>
  rcases bt a (b+1) with h1|h1
  ·have bG:b<ops.size:=by omega
   rw[h b ops[b] (by omega) (by omega) (nh bG)]
   exact ih (by omega) (by omega) fun j o h2 h3 h4=>h j o h2 (by omega) h4
  ·obtain rfl:a=b+1:=by omega
   rfl
theorem Run.lookup {ops:Array Oper}{n:Nat}{dd:Nat→D}{hh:Nat→Hp}{ac:Nat→Bool}{tms:Nat→List (Nat×D)}(hr:Run P tb L ops n dd hh ac tms)(hn:n≤ops.size):∀{i:Nat} {t:Nat} {d:D},i≤n→(tms i).lookup t=some d→
  (∃j o,j<i∧ops[j]? =some o∧o.dst=some t∧d=dd j)∨((∀j o,j<i→ops[j]? =some o→o.dst≠some t)∧(tms 0).lookup t=some d)
 |0,t,d,_,h=>.inr ⟨fun j _ hj=>by omega,h⟩
 |i+1,t,d,hi,h=>by
  have bG:i<ops.size:=by omega
  have ho:ops[i]? =some ops[i]:=nh bG
  rw[hr.ts i _ (by omega) ho] at h
  by_cases hd:(ops[i]).dst=some t
  ·rw[hd] at h
   rw[show (AP (some t) (dd i) (tms i)).lookup t=some (dd i) from ak] at h
   injection h with h
   exact .inl ⟨i,_,cp _,ho,hd,h.symm⟩
  ·have h':(tms i).lookup t=some d:=by
    rw[←h]
    cases hdd:(ops[i]).dst with
    |none=>rfl
    |some s=>exact (ay (fun e=>hd (by rw[hdd,e]))).symm
   rcases hr.lookup hn (show i≤n by omega) h' with⟨j,o,h1,h2,h3,h4⟩|⟨h1,h2⟩
   ·exact .inl ⟨j,o,by omega,h2,h3,h4⟩
   ·refine .inr ⟨fun j o hj sf=>?_,h2⟩
    rcases bt j i with h3|h3
    ·exact h1 j o h3 sf
    ·obtain rfl:j=i:=by omega
     obtain rfl:ops[j]=o:=by rw[ho] at sf;injection sf
     exact hd
def LookL(ops:Array Oper)(dd:Nat→D)(tm0:List (Nat×D))(listed:Array Bool)(t:Nat)(d:D):Prop:=
 (∃i o,ops[i]? =some o∧listed.getD i false=true∧o.dst=some t∧d=dd i)∨((∀i o,ops[i]? =some o→listed.getD i false=true→o.dst≠some t)∧tm0.lookup t=some d)
structure InvA(tb:TypeId→Option TyE)(L:List FuncId)(x:Cx)(ops:Array Oper)(dd:Nat→D)(hh:Nat→Hp)(tm0:List (Nat×D))(listed:Array Bool)(a:Act)(w:World)(m:Nat)(g:Gh):Prop where
 size:listed.size=ops.size
 closed:∀(i:Nat) (o:Oper) (e:Edge),ops[i]? =some o→listed.getD i false=true→e∈o.after→Region.binds .any e=true→listed.getD e.on false=true
 le:m≤ops.size
 loud:∀(j:Nat) (o:Oper),ops[j]? =some o→gZ tb L o.op=false→(listed.getD j false=true↔j<m)
 hr:HR x.B (hh m) g w
 look:∀t d,LookL ops dd tm0 listed t d→aI (hh m) g w d (a.tmps.getD t undef)
 tsz:a.tmps.size=x.N
 df:a.defers=x.df
 bl:Below x.B x.w0 w
 fr:∀p:Addr,p.block<x.B→x.F0 p→g.F p
 mo:bC x.hp0 x.g0 x.w0 (hh m) g w
theorem Bef.listed {ops:Array Oper}{listed:Array Bool}(Dw:∀(i:Nat) (o:Oper) (e:Edge),ops[i]? =some o→listed.getD i false=true→e∈o.after→Region.binds .any e=true→listed.getD e.on false=true){j i:Nat}(h:Bef ops j i):listed.getD i false=true→listed.getD j false=true:=by
 induction h with
 |edge i o e hi he hb=>exact fun hl=>Dw i o e hi hl he hb
 |trans j i o e hi he hb _ ih=>exact fun hl=>ih (Dw i o e hi hl he hb)
theorem Bef.ready {ops:Array Oper}{listed:Array Bool}(Dw:∀(i:Nat) (o:Oper) (e:Edge),ops[i]? =some o→listed.getD i false=true→e∈o.after→Region.binds .any e=true→listed.getD e.on false=true){j i:Nat}(h:Bef ops j i)(mP:∀o,ops[i]? =some o→∀e∈o.after,Region.binds .any e=true→listed.getD e.on false=true):listed.getD j false=true:=by
 cases h with
 |edge _ o e hi he hb=>exact mP o hi e he hb
 |trans _ _ o e hi he hb h=>exact h.listed Dw (mP o hi e he hb)
theorem Gd.wanted' {ops:Array Oper}{o:Oper}{tm:List (Nat×D)}{hp:Hp}{w:World}{a:Act}{b:Bool}{g:Gh}(h:Gd ops o tm b)(hr:∀t d,t∈oB ops o→tm.lookup t=some d→aI hp g w d (a.tmps.getD t undef)):Region.wanted o (yielded ops a.tmps)=b:=by
 unfold Gd at h
 unfold Region.wanted
 split at h
 ·rename_i hg
  rw[hg,h]
 ·rename_i j want hg
  rw[hg]
  dsimp only
  rcases h with⟨t,c,h1,h2,h3⟩|⟨t,h1,h2,rfl⟩
  rotate_left
  ·have hm:t∈oB ops o:=by
    unfold oB
    rw[hg]
    dsimp only
    rw[h1]
    exact s5.2 (.inr (by simp))
   have hv:=hr t _ hm h2
   have hy:yielded ops a.tmps j=none:=by
    unfold yielded
    rw[h1]
    simp only[D1]
    cases ht:a.tmps[t]? with
    |none=>rfl
    |some u=>
     have hu:a.tmps.getD t undef=u:=by simp[de,ht]
     rw[hu] at hv
     cases hv with
     |tu _ cs hl hr=>rfl
   rw[hy];rfl
  have hm:t∈oB ops o:=by
   unfold oB
   rw[hg]
   dsimp only
   rw[h1]
   exact s5.2 (.inr (by simp))
  have hv:=(hr t _ hm h2).lit
  have hy:yielded ops a.tmps j=some c:=by
   unfold yielded
   rw[h1]
   simp only[D1]
   cases ht:a.tmps[t]? with
   |none=>simp[de,ht,undef] at hv
   |some u=>
    have:u=.bool c:=by simpa[de,ht] using hv
    rw[this]
  rw[hy,←h3]
  rfl
theorem Dh {listed:Array Bool}{i:Nat}(hi:i<listed.size)(j:Nat):(listed.setIfInBounds i true).getD j false=true↔j=i∨listed.getD j false=true:=by
 by_cases Fa:j=i
 ·subst Fa
  simp[hi]
 ·simp[de,D6 (n9 Fa),Fa]
def unl(listed:Array Bool)(n:Nat):Nat:=((List.range n).filter fun j=>!listed.getD j false).length
theorem Gy {listed:Array Bool}{n i:Nat}(hi:i<n)(hs:i<listed.size)(hf:listed.getD i false=false):unl (listed.setIfInBounds i true) n<unl listed n:=by
 unfold unl
 have Qs:∀l:List Nat,((l.filter fun j=>!(listed.setIfInBounds i true).getD j false).length≤(l.filter fun j=>!listed.getD j false).length)∧(i∈l→(l.filter fun j=>!(listed.setIfInBounds i true).getD j false).length<(l.filter fun j=>!listed.getD j false).length):=by
  intro l
  induction l with
  |nil=>exact⟨aD _,fun h=>by cases h⟩
  |cons k l ih=>
   by_cases hki:k=i
   ·subst hki
    have e1:(listed.setIfInBounds k true).getD k false=true:=(Dh hs k).2 (.inl rfl)
    simp only[R6,e1,hf,eH,qQ,bP,n7]
    exact⟨by have:=ih.1;simp at this ⊢;omega,fun _=>by have:=ih.1;simp at this ⊢;omega⟩
   ·have e1:(listed.setIfInBounds i true).getD k false=listed.getD k false:=by
     simp[de,D6 (n9 hki)]
    simp only[R6,e1]
    cases listed.getD k false with
    |true=>exact⟨ih.1,fun h=>ih.2 (by rcases je.1 h with h|h;exact absurd h.symm hki;exact h)⟩
    |false=>
     simp only[qQ,bP,n7]
     exact⟨by have:=ih.1;omega,fun h=>by have:=ih.2 (by rcases je.1 h with h|h;exact absurd h.symm hki;exact h);omega⟩
 exact (Qs (List.range n)).2 (by simpa using hi)
theorem NN {op:Op}(h:yr tb L op=true):varB tb op=true:=by have h:=varL_C h;cases op <;> first|rfl|exact h|cases h
theorem Jf {op:Op}(hv:varB tb op=true):gZ tb L op=false:=by
 have h1:oC op=false:=by
  cases op <;> first|rfl|cases hv|skip
  rename_i c
  obtain⟨callee,aS,ts⟩:=c
  cases callee with
  |builtin b=>cases b <;> first|rfl|cases hv
  |_=>first|rfl|cases hv
 have h2:sW tb L op=false:=by
  cases op <;> first|rfl|skip
  rename_i c
  show ((match c.callee with| .value (.func f)=>L.elem f|_=>false)&&!hvB tb c)=false
  have xh:(hvB tb c||cpB tb c)=true:=hv
  obtain⟨callee,aS,ts⟩:=c
  cases callee with
  |value x=>
   have O0:hvB tb ⟨.value x,aS,ts⟩=true:=by simpa[cpB] using xh
   rw[O0];simp
  |_=>rfl
 unfold gZ
 rw[h1,h2];rfl
theorem Iv {x:Cx}{ops:Array Oper}{dd:Nat→D}{hh:Nat→Hp}{ac:Nat→Bool}{tms:Nat→List (Nat×D)}{Q:Exit→Act→World→Prop}(hN:iZ x.N ops=true)(rK:OrdT tb L ops)(bR:Run P tb L ops ops.size dd hh ac tms)
  (hQ:∀a w,RS x (tms ops.size) (hh ops.size) a w→Q .normal a w):∀(fuel:Nat) (listed:Array Bool) (a:Act) (w:World) (m:Nat) (g:Gh),InvA tb L x ops dd hh (tms 0) listed a w m g→unl listed ops.size≤fuel→wpAny P .any ops Q fuel listed a w:=by
 -- when all are listed
 have fin:∀(listed:Array Bool) (a:Act) (w:World) (m:Nat) (g:Gh),InvA tb L x ops dd hh (tms 0) listed a w m g→Region.ready .any ops listed=[]→Q .normal a w:=by
  intro listed a w m g hI hready
  have mP:∀i,i<ops.size→listed.getD i false=true:=by
   intro i
   induction i using Nat.strongRecOn with
   |_ i ih=>
    intro hi
    cases hl:listed.getD i false with
    |true=>rfl
    |false=>
     exfalso
     have QT:i∈Region.ready .any ops listed:=by
      refine mem_ready.2 ⟨?_,ops[i],nh hi,fun e he hb=>?_⟩
      ·have hsz:=hI.size
       have bG:i<listed.size:=by omega
       simpa[de,bG] using hl
      ·have:=rK.low i _ e (nh hi) he hb
       exact ih _ this (by omega)
     rw[hready] at QT
     cases QT
  have hhm:hh ops.size=hh m:=Run.same (ops:=ops) hh hI.le (aD _) fun j o h1 h2 h3=>by
   cases hq:gZ tb L o.op with
   |true=>exact bR.quiet_step h2 h3 hq
   |false=>
    have:=(hI.loud j o h3 hq).1 (mP j h2)
    omega
  refine hQ a w ⟨g,?_,fun t d h=>?_,hI.tsz,hI.df,hI.bl,hI.fr,?_⟩
  rotate_right
  ·rw[hhm];exact hI.mo
  ·rw[hhm];exact hI.hr
  ·rw[hhm]
   refine hI.look t d ?_
   rcases bR.lookup (aD _) (aD _) h with⟨j,o,h1,h2,h3,h4⟩|⟨h1,h2⟩
   ·exact .inl ⟨j,o,h2,mP j h1,h3,h4⟩
   ·exact .inr ⟨fun j o hj _=>h1 j o (by
     rcases bt j ops.size with h|h
     ·exact h
     ·rw[HN h] at hj;cases hj) hj,h2⟩
 intro fuel
 induction fuel with
 |zero=>
  intro listed a w m g hI hu
  have hnone:Region.ready .any ops listed=[]:=by
   cases hr:Region.ready .any ops listed with
   |nil=>rfl
   |cons i l=>
    exfalso
    have hi:i∈Region.ready .any ops listed:=by rw[hr];exact ni ..
    obtain⟨h1,o,ho,_⟩:=mem_ready.1 hi
    have bG:i<ops.size:=(ey.1 ho).1
    have hs:i<listed.size:=by rw[hI.size];exact bG
    have hf:listed.getD i false=false:=by simpa[de,hs] using h1
    have:=Gy bG hs hf
    omega
  exact⟨hnone,fin listed a w m g hI hnone⟩
 |succ fuel ih=>
  intro listed a w m g hI hu
  refine⟨fun h=>fin listed a w m g hI h,fun i hi=>?_⟩
  obtain⟨h1,o,ho,mP⟩:=mem_ready.1 hi
  have bG:i<ops.size:=(ey.1 ho).1
  have hs:i<listed.size:=by rw[hI.size];exact bG
  have hf:listed.getD i false=false:=by simpa[de,hs] using h1
  have zd:¬listed.getD i false=true:=by rw[hf];simp
  have hbef:∀j,Bef ops j i→listed.getD j false=true:=fun j h=>h.ready hI.closed fun o' uG=>by
   obtain rfl:o=o':=by rw[ho] at uG;injection uG
   exact mP
  have QG:∀j,Bef ops i j→listed.getD j false≠true:=fun j h hj=>zd (h.listed hI.closed hj)
  have K8:=Dh hs
  have vJ:unl (listed.setIfInBounds i true) ops.size≤fuel:=by have:=Gy bG hs hf;omega
  have hdn:∀t,o.dst=some t→t<x.N:=fun t ht=>lT hN ho ht
  have Ra:∀(j:Nat) (o':Oper) (e:Edge),ops[j]? =some o'→(listed.setIfInBounds i true).getD j false=true→e∈o'.after→Region.binds .any e=true→(listed.setIfInBounds i true).getD e.on false=true:=by
   intro j o' e hj hl he hb
   refine (K8 _).2 (.inr ?_)
   rcases (K8 j).1 hl with rfl|hl
   ·obtain rfl:o=o':=by rw[ho] at hj;injection hj
    exact mP e he hb
   ·exact hI.closed j o' e hj hl he hb
  -- what GA operation reads
  have hread:∀t d,t∈oB ops o→(tms i).lookup t=some d→LookL ops dd (tms 0) listed t d:=by
   intro t d ht hl
   rcases bR.lookup (aD _) (pX bG) hl with⟨j,oj,h2,h3,h4,h5⟩|⟨h2,h3⟩
   ·refine .inl ⟨j,oj,h3,?_,h4,h5⟩
    rcases rK.data i j o oj t ho h3 (by omega) ht h4 with⟨_,h⟩|⟨h,_⟩
    ·exact hbef j h
    ·omega
   ·refine .inr ⟨fun j oj hj hlj hd=>?_,h3⟩
    by_cases Fa:j=i
    ·subst Fa;exact zd hlj
    ·rcases rK.data i j o oj t ho hj (n9 Fa) ht hd with⟨h,_⟩|⟨_,h⟩
     ·exact h2 j oj h hj hd
     ·exact QG j h hlj
  have i4:∀t d,t∈oB ops o→(tms i).lookup t=some d→aI (hh m) g w d (a.tmps.getD t undef):=fun t d ht hl=>hI.look t d (hread t d ht hl)
  have QE:∀y∈o.op.operands,aI (hh m) g w (evD (tms i) y) (a.eval y):=by
   intro y hy
   cases y with
   |tmp t=>
    show aI (hh m) g w (((tms i).lookup t).getD .top) _
    cases hl:(tms i).lookup t with
    |none=>exact .top _
    |some d=>
     refine i4 t d ?_ hl
     unfold oB
     refine s5.2 (.inl (List.mem_filterMap.2 ⟨.tmp t,by simpa using hy,rfl⟩))
   |const v=>exact DM g v
   |global g'=>exact .top _
   |func f=>exact .e _ _ (.lit _ rfl)
  -- GA invariant behind GA operation
  have next:∀(a':Act) (w':World) (m':Nat) (g':Gh) (v:Value),a'=a.put o.dst v→m'≤ops.size→(∀(j:Nat) (o':Oper),ops[j]? =some o'→gZ tb L o'.op=false→((listed.setIfInBounds i true).getD j false=true↔j<m'))→
    HR x.B (hh m') g' w'→bC (hh m) g w (hh m') g' w'→aI (hh m') g' w' (dd i) v→Below x.B w w'→(∀p:Addr,p.block<x.B→g.F p→g'.F p)→wpAny P .any ops Q fuel (listed.setIfInBounds i true) a' w':=by
   intro a' w' m' g' v ha ww hloud rD hmo hd hb hF
   have hmono:∀d u,aI (hh m) g w d u→aI (hh m') g' w' d u:=fun d u h=>h.mono hmo
   subst ha
   refine ih _ _ _ m' g' ⟨by simp[hI.size],Ra,ww,hloud,rD,fun t d hl=>?_,by rw[sH];exact hI.tsz,by rw[oD];exact hI.df,hI.bl.trans hb,fun p h1 h2=>hF p h1 (hI.fr p h1 h2),hI.mo.trans hmo⟩ vJ
   by_cases hdt:o.dst=some t
   ·have hdd:d=dd i:=by
     rcases hl with⟨j,oj,h2,_,h4,h5⟩|⟨h2,_⟩
     ·obtain rfl:=rK.dst j i oj o t h2 ho h4 hdt
      exact h5
     ·exact absurd hdt (h2 i o ho ((K8 i).2 (.inl rfl)))
    subst hdd
    rw[hdt,zC (by rw[hI.tsz];exact hdn t hdt)]
    exact hd
   ·rw[FB hdt]
    refine hmono _ _ (hI.look t d ?_)
    rcases hl with⟨j,oj,h2,h3,h4,h5⟩|⟨h2,h3⟩
    ·refine .inl ⟨j,oj,h2,?_,h4,h5⟩
     rcases (K8 j).1 h3 with rfl|h3
     ·obtain rfl:o=oj:=by rw[ho] at h2;injection h2
      exact absurd h4 hdt
     ·exact h3
    ·exact .inr ⟨fun j oj hj hlj=>h2 j oj hj ((K8 j).2 (.inr hlj)),h3⟩
  -- a loud operation comes up in GA order of GA text
  have Ds:gZ tb L o.op=false→hh i=hh m∧m≤i:=by
   intro hq
   have hmi:m≤i:=by
    rcases bt i m with h|h
    ·exact absurd ((hI.loud i o ho hq).2 h) zd
    ·exact h
   refine⟨Run.same (ops:=ops) hh hmi (pX bG) fun j oj h2 h3 h4=>?_,hmi⟩
   cases Qz:gZ tb L oj.op with
   |true=>exact bR.quiet_step (by omega) h4 Qz
   |false=>
    have:=(hI.loud j oj h4 Qz).1 (hbef j (rK.loud j i oj o h4 ho h3 Qz hq))
    omega
  have Dr:gZ tb L o.op=false→∀(j:Nat) (o':Oper),ops[j]? =some o'→gZ tb L o'.op=false→((listed.setIfInBounds i true).getD j false=true↔j<i+1):=by
   intro hq j o' hj Qz
   obtain⟨_,hmi⟩:=Ds hq
   rw[K8,hI.loud j o' hj Qz]
   constructor
   ·rintro (rfl|h) <;> omega
   ·intro h
    by_cases Fa:j=i
    ·exact .inl Fa
    ·exact .inr ((hI.loud j o' hj Qz).1 (hbef j (rK.loud j i o' o hj ho (by omega) Qz hq)))
  have BP:gZ tb L o.op=true→∀(j:Nat) (o':Oper),ops[j]? =some o'→gZ tb L o'.op=false→((listed.setIfInBounds i true).getD j false=true↔j<m):=by
   intro hq j o' hj Qz
   rw[K8,←hI.loud j o' hj Qz]
   constructor
   ·rintro (rfl|h)
    ·obtain rfl:o=o':=by rw[ho] at hj;injection hj
     rw[hq] at Qz;cases Qz
    ·exact h
   ·exact .inr
  unfold wpOp
  rw[ho]
  dsimp only
  cases Kx:ac i with
  |true=>
   obtain⟨hg,hsnd⟩:=bR.on i o bG ho Kx
   rw[hg.wanted' i4,ar rfl]
   left
   cases hq:gZ tb L o.op with
   |false=>
    obtain⟨he,_⟩:=Ds hq
    have hok:=hsnd.ok
    rw[he] at hok
    refine hok x.B g w a _ _ hI.hr QE fun v g' w' rD mo hd hb hF=>?_
    exact next _ w' (i+1) g' v rfl bG (Dr hq) rD mo hd hb hF
   |true=>
    have hv:qr o.op=true→SO o (evD (tms i)) (hh i) (hh m):=by
     intro hld
     have noV:∀j oj,ops[j]? =some oj→(m≤j∧j<i∨i≤j∧j<m)→yr tb L oj.op=false:=by
      intro j oj hj hr
      cases hv:yr tb L oj.op with
      |false=>rfl
      |true=>
       exfalso
       have Dt:gZ tb L oj.op=false:=Jf (NN hv)
       have qu:i≠j:=fun e=>by
        subst e
        obtain rfl:o=oj:=by rw[ho] at hj;injection hj
        rw[hq] at Dt;cases Dt
       rcases rK.vars i j o oj ho hj qu hld hv with⟨h2,h3⟩|⟨h2,h3⟩
       ·have:=(hI.loud j oj hj Dt).1 (hbef j h3)
        omega
       ·have:=QG j h3
        have:¬j<m:=fun h=>this ((hI.loud j oj hj Dt).2 h)
        omega
     intro x hx j off hxe
     have hjm:j<(hh m).next:=by
      have h3:=(QE x hx).un
      rw[hxe] at h3
      generalize a.eval x=u at h3
      cases h3 with
      |pt _ _ hk=>exact hk
     have Fa:j<(hh i).next:=hsnd.lk hld x hx j off hxe
     rcases Nat.le_total m i with hmi|hmi
     ·exact ((Run.frs (ops:=ops) hh hmi (pX bG) fun j oj h2 h3 h4=>bR.fr_step (by omega) h4 (noV j oj h4 (.inl ⟨h2,h3⟩))).2 j hjm).symm
     ·exact (Run.frs (ops:=ops) hh hmi hI.le fun j oj h2 h3 h4=>bR.fr_step (by have:=hI.le;omega) h4 (noV j oj h4 (.inr ⟨h2,h3⟩))).2 j Fa
    have hok:=(hsnd.quiet hq).2 (hh m) hv
    refine hok x.B g w a _ _ hI.hr QE fun v g' w' rD mo hd hb hF=>?_
    exact next _ w' m g' v rfl hI.le (BP hq) rD mo hd hb hF
  |false=>
   obtain⟨hg,hd,he⟩:=bR.off i o bG ho Kx
   rw[hg.wanted' i4,aA (by simp)]
   cases hq:gZ tb L o.op with
   |false=>
    obtain⟨he2,_⟩:=Ds hq
    have e3:hh (i+1)=hh m:=by rw[he,he2]
    exact next _ w (i+1) g undef rfl bG (Dr hq) (by rw[e3];exact hI.hr) (by rw[e3];exact bC.refl _ _ _) (by rw[e3];exact hd _ g w a QE) (Below.refl _ _) fun _ _ h=>h
   |true=>
    exact next _ w m g undef rfl hI.le (BP hq) hI.hr (bC.refl _ _ _) (hd _ g w a QE) (Below.refl _ _) fun _ _ h=>h
theorem AW.drawS {x:Cx}{tm:List (Nat×D)}{hp:Hp}{Q:Exit→List (Nat×D)→Hp→Prop}{id:Nat}{ops:Array Oper}(hm:P.follows .mixedOrders=true)(hN:iZ x.N ops=true)(rK:xR tb L ops=true)
  (h:∀K:List (Nat×D)→Hp→Prop,(∀tm hp,Q .normal tm hp→K tm hp)→ba P tb (.any L) ops K ops.toList tm hp):AW P x (.region id ops true) tm hp Q:=by
 intro a w hr
 refine wp_region_any hm ?_
 obtain⟨dd,hh,ac,tms,bR,hK,h1,h2⟩:=KM (ops:=ops) ops.toList 0 (fun _=>.top) (fun _=>hp) (fun _=>false) (fun _=>tm) ⟨fun _ _ h=>absurd h (by omega),fun _ _ h=>absurd h (by omega),fun _ _ h=>absurd h (by omega)⟩ rfl (h _ fun _ _ h=>h)
 simp only[bB,eK] at bR hK h1 h2
 obtain⟨g,Qy,i4,hsz,uc,hB,hF,hM⟩:=hr
 refine Iv hN (C5 rK) bR (fun a w hr=>⟨_,_,hr,hK⟩) ops.size _ a _ 0 g ?_ ?_
 ·have zd:∀j,¬(Array.replicate ops.size false).getD j false=true:=by
   intro j
   simp[de,HM]
   split <;> simp
  refine⟨by simp,fun i _ _ _ hl=>absurd hl (zd i),bY _,fun j _ _ _=>⟨fun hl=>absurd hl (zd j),fun h=>absurd h (by omega)⟩,?_,fun t d hl=>?_,hsz,uc,hB.drew,hF,?_⟩
  rotate_right
  ·rw[h2];exact hM.trans (bC.keep hp g (aD _) (fun _ _=>rfl))
  ·rw[h2];exact Qy.keep (aD _) (fun _ _=>rfl)
  ·rw[h2]
   rcases hl with⟨i,_,_,hl,_⟩|⟨_,hl⟩
   ·exact absurd hl (zd i)
   ·rw[h1] at hl
    exact (i4 t d hl).mono (bC.keep hp g (aD _) (fun _ _=>rfl))
 ·unfold unl
  exact cw (F6 _ _) (by simp)
theorem AW.loopW {x:Cx}{tm:List (Nat×D)}{hp:Hp}{Q:Exit→List (Nat×D)→Hp→Prop}{c:Code}{α:Type}(T:α→List (Nat×D))(H:α→Hp)(Inv:α→Prop)(μ:α→Nat)(s0:α)(hw:Wk x tm hp (T s0) (H s0))(h0:Inv s0)
  (round:∀s,Inv s→AW P x c (T s) (H s) fun ex tm' hp'=>match ex with| .normal=>∃s',Wk x tm' hp' (T s') (H s')∧Inv s'∧μ s'<μ s|ex=>Q ex tm' hp'):AW P x (.loop c) tm hp Q:=by
 refine AW.loop (fun n tm hp=>∃s,n=μ s∧tm=T s∧hp=H s∧Inv s) (n:=μ s0) hw ⟨s0,rfl,rfl,rfl,h0⟩ ?_
 rintro n tm hp ⟨s,rfl,rfl,rfl,hI⟩
 refine AW.mono (round s hI) ?_
 intro ex tm' hp' h
 cases ex with
 |normal=>
  obtain⟨s',h1,h2,h3⟩:=h
  exact⟨_,_,_,h3,h1,s',rfl,rfl,rfl,h2⟩
 |_=>exact h
end
end
section
section
variable {P:Program} {tb:TypeId→Option TyE} {x:Cx} {tm tm':List (Nat×D)} {hp hp':Hp}
theorem Wk.look(h0:x.hp0.next≤hp'.next)(hm:hp'.next≤hp.next)
  (ht:∀p∈tm',(∃d,tm.lookup p.1=some d∧(p.2=d∨p.2=d.ex))∧p.2.idsB hp'.next=true)
  (hv:∀k ds',hp'.vars.lookup k=some ds'→k<hp'.next∧∃ds,hp.vars.lookup k=some ds∧zj ds ds'∧ds'.all (D.idsC hp'.next)=true)
  (hl:∀id y,hp'.live.lookup id=some y→id<hp'.next∧hp.live.lookup id=some y):Wk x tm hp tm' hp':=by
 intro a w ⟨g,hr,i4,hsz,uc,hB,hF,hM⟩
 have fW:∀id y,hp'.live.lookup id=some y→hp.live.lookup id=some y:=fun id y h=>(hl _ _ h).2
 refine⟨g,⟨fun k ds hk=>?_,fun k k' ds ds' hk v3 he=>?_,fun id n e hi=>?_,fun id A9 t t' b hi Ap=>hr.tinj id A9 t t' b (fW _ _ hi) (fW _ _ Ap),hr.base,hr.fits⟩,fun t d h=>?_,hsz,uc,hB,hF,⟨hM.size,hM.cell,hM.forb,h0,hM.μ,fun id hid n e QW=>hM.live id hid n e (fW id _ QW),fun b hb hf=>⟨(hM.fr b hb hf).1,(hM.fr b hb hf).2.1,fun k ds hk=>by obtain⟨_,_,h,_⟩:=hv k ds hk;exact (hM.fr b hb hf).2.2.1 k _ h,fun id t hi=>(hM.fr b hb hf).2.2.2 id t (fW id _ hi)⟩,hM.szs⟩⟩
 ·obtain⟨h0,pm,h1,hw,h2⟩:=hv _ _ hk
  obtain⟨_,h3,h4,cs,ty,h5,h6,h7⟩:=hr.var k pm h1
  refine⟨h0,h3,h4,cs,ty,h5,by rw[ue hw];exact h6,fun j u hu=>⟨fun h=>(h7 j u hu).1 (by rw[←ue hw];exact h),fun d hd=>?_⟩⟩
  obtain⟨d0,EP,hdd⟩:=v8 hw hd
  have dy:=(h7 j u hu).2 d0 EP
  have sO:aI hp g w d u:=dy.leC hdd
  exact jv sO (cb.1 h2 d (bT hd)) rfl fW
 ·obtain⟨_,_,h1,_⟩:=hv _ _ hk
  obtain⟨_,_,h2,_⟩:=hv _ _ v3
  exact hr.inj k k' _ _ h1 h2 he
 ·obtain⟨h0,h1⟩:=hl _ _ hi
  obtain⟨_,us,h2,h3,h4⟩:=hr.tok id n e h1
  refine⟨h0,us,h2,h3,fun b hb=>⟨(h4 b hb).1,fun k ds hk=>?_⟩⟩
  obtain⟨_,_,h5,_⟩:=hv _ _ hk
  exact (h4 b hb).2 k _ h5
 ·obtain⟨⟨d0,h1,h3⟩,h2⟩:=ht _ (cy h)
  have dy:=i4 t d0 h1
  have sO:aI hp g w d (a.tmps.getD t undef):=by
   rcases h3 with h3|h3
   ·dsimp only at h3;rw[h3];exact dy
   ·dsimp only at h3;rw[h3];exact dy.exD
  exact Jm sO h2 rfl fW
end
end
section
structure Kq(d:D)(hp:Hp)(d2:D)(bQ:Hp):Prop where
 d:d2=d
 hp:bQ=hp
theorem Kq.here(d:D)(hp:Hp):Kq d hp d hp:=⟨rfl,rfl⟩
section
variable {P:Program} {tb:TypeId→Option TyE} {dr:Bool} {md:Md}
variable {ops:Array Oper} {K:List (Nat×D)→Hp→Prop} {os:List Oper} {tm:List (Nat×D)} {hp hp':Hp} {t:Tmp} {dst:Option Tmp} {op:Op} {ty:TypeId} {pos:String} {af:Array Edge} {d:D}
theorem AVC.snd(tok:TOk P tb){o:Oper}{ev:Operand→D}(h:AVC P tb dr o.op o.type ev hp (Kq d hp')):Snd P tb dr o ev hp d hp':=by
 obtain⟨d2,bQ,⟨rfl,rfl⟩,hs⟩:=AVC.sound tok h
 exact hs
theorem GE {g:Option (Nat×Bool)}(hg:g=none)(h:nT P tb md ⟨dst,op,ty,pos,af,g⟩ (evD tm) hp d hp')(h2:ba P tb md ops K os (AP dst d tm) hp'):ba P tb md ops K (⟨dst,op,ty,pos,af,g⟩::os) tm hp:=by
 subst hg
 exact .on d hp' rfl h h2
theorem st(tok:TOk P tb)(hn:md.nc tb op=true)(h:AVC P tb md.dr op ty (evD tm) hp (Kq d hp'))(h2:ba P tb md ops K os ((t,d)::tm) hp'):ba P tb md ops K (⟨some t,op,ty,pos,af,none⟩::os) tm hp:=
 GE rfl ((AVC.snd tok (o:=⟨some t,op,ty,pos,af,none⟩) h).q hn) h2
theorem st_n(tok:TOk P tb)(hn:md.nc tb op=true)(h:AVC P tb md.dr op ty (evD tm) hp (Kq d hp'))(h2:ba P tb md ops K os tm hp'):ba P tb md ops K (⟨none,op,ty,pos,af,none⟩::os) tm hp:=
 GE rfl ((AVC.snd tok (o:=⟨none,op,ty,pos,af,none⟩) h).q hn) h2
theorem PN(tok:TOk P tb){g:Option (Nat×Bool)}{f:FuncId}{aS:List Operand}{ts:Array TypeId}{ev:Operand→D}{r:D}(v4:ev (.func f)=.e (.lit (.func (.func f) #[] #[])))(hc:ax P f ((aS.map ev).map D.ex) r)(hp1:((aS.map ev).map D.ex).all D.pure=true)(hr:r.pure=true∨∃ds,r=.tu ds):
  nT P tb md ⟨dst,.call ⟨.value (.func f),aS.toArray,ts⟩,ty,pos,af,g⟩ ev hp r hp:=by
 have key:∀bQ:Hp,qm P ⟨dst,.call ⟨.value (.func f),aS.toArray,ts⟩,ty,pos,af,g⟩ ev bQ r bQ:=fun bQ=>
  (AVC.snd (dr:=true) tok (o:=⟨dst,.call ⟨.value (.func f),aS.toArray,ts⟩,ty,pos,af,g⟩) (ev:=ev) (hp:=bQ) (d:=r) (hp':=bQ) (by
   show vg P (hvB tb ⟨.value (.func f),aS.toArray,ts⟩) (ev (.func f)) (aS.toArray.toList.map ev) bQ (Kq r bQ)
   rw[v4]
   refine⟨rfl,rfl,.inl ⟨hp1,r,hc,?_⟩⟩
   unfold H5
   split
   ·rcases hr with hr|⟨_,hr⟩ <;> cases hr
   ·rcases hr with hr|⟨_,hr⟩ <;> cases hr
   ·exact Kq.here _ _)).ok
 exact⟨key hp,fun _=>⟨rfl,fun bQ _=>key bQ⟩,fun _=>Fr.refl _,fun h=>by cases h⟩
variable {j:Nat} {want c:Bool} {s:Tmp}
theorem st_on(hj:(ops[j]?).bind (·.dst)=some s)(hc:tm.lookup s=some (.e (.lit (.bool c))))(hw:(c == want)=true)(h:nT P tb md ⟨dst,op,ty,pos,af,some (j,want)⟩ (evD tm) hp d hp')(h2:ba P tb md ops K os (AP dst d tm) hp'):ba P tb md ops K (⟨dst,op,ty,pos,af,some (j,want)⟩::os) tm hp:=
 .on d hp' (.inl ⟨s,c,hj,hc,hw⟩) h h2
variable {ev:Operand→D} {k:D→Hp→Prop}
theorem av_move(x:Operand):AVC P tb dr (.move x) ty ev hp k=k (ev x) hp:=bH rfl rfl
theorem Bk(x:Operand):AVC P tb dr (.assign x) ty ev hp k=OK tb ty (ev x) hp k:=bH rfl rfl
theorem Nl(c x y:Operand):AVC P tb dr (.pick c x y) ty ev hp k=IY (ev c) (ev x) (ev y) (Bl k hp):=bH rfl rfl
theorem R3(t:TypeId):AVC P tb dr (.alloc t) ty ev hp k=R5 tb t hp k:=bH rfl rfl
theorem av_box(t:TypeId)(x:Operand):AVC P tb dr (.box t x) ty ev hp k=boxV (ev x) hp k:=bH rfl rfl
theorem z3(t:TypeId)(ps:List (Nat×Operand)):AVC P tb dr (.build t ps.toArray) ty ev hp k=DR tb t (ps.map fun p=>(p.1,ev p.2)) (Bl k hp):=bH rfl rfl
theorem yi(t:TypeId)(n:Nat)(ps:List (Nat×Operand)):AVC P tb dr (.buildSlice t n ps.toArray) ty ev hp k=eN tb (!dr) t n (ps.map fun p=>(p.1,ev p.2)) hp k:=bH rfl rfl
theorem tH(t:TypeId)(x:Operand):AVC P tb dr (.load t x) ty ev hp k=Dg tb t (ev x) hp (Bl k hp):=bH rfl rfl
theorem DS(t:TypeId)(x y:Operand):AVC P tb dr (.store t x y) ty ev hp k=CY tb t (ev x) (ev y) hp k:=bH rfl rfl
theorem wF(o:BinOp)(t t':TypeId)(x y:Operand):AVC P tb dr (.binOp o t x y t') ty ev hp k=ru P o t (ev x) (ev y) (atLit k hp):=bH rfl rfl
theorem Nk(o:UnOp)(t:TypeId)(x:Operand):AVC P tb dr (.unOp o t x) ty ev hp k=unV o (ev x) (atLit k hp):=bH rfl rfl
theorem LE(s t:TypeId)(x:Operand):AVC P tb dr (.convert s t x) ty ev hp k=JV tb s t (ev x) (Bl k hp):=bH rfl rfl
theorem conv_eq(s t:TypeId)(d:D)(kf:D→Prop):JV tb s t d kf=(match tb s,tb t with
 |some i,some j=>match j.ty,d with
  | .int jk,.e (.lit (.int _ n))=>kf (.e (.lit (.int jk (jk.wrap n))))
  | .str,.e (.lit (.string s))=>kf (.e (.lit (.string s)))
  | .str,d=>match i.ty with
   | .slice e=>match tb e with
    |some l=>l.ty=.int .u8∧match d.asSl 1 with
     |some (_,xs)=>match xk xs with
      |some bs=>kf (.e (.lit (.string ⟨bs.toArray⟩)))
      |none=>False
     |none=>False
    |none=>False
   |_=>False
  |_,_=>False
 |_,_=>False):=bH rfl rfl
theorem RZ(t:TypeId)(x:Operand)(lo hi mx:Option Operand):AVC P tb dr (.slice t x lo hi mx) ty ev hp k=CZ tb t (ev x) (lo.map ev) (hi.map ev) (mx.map ev) (Bl k hp):=bH rfl rfl
theorem zZ(t:TypeId)(x:Operand)(f:Nat):AVC P tb dr (.fieldAddr t x f) ty ev hp k=qJ tb t f (ev x) (Bl k hp):=bH rfl rfl
theorem R2(t:TypeId)(x:Operand)(f:Nat):AVC P tb dr (.field t x f) ty ev hp k=DG tb t f (ev x) (Bl k hp):=bH rfl rfl
theorem vj(t:TypeId)(x i:Operand):AVC P tb dr (.indexAddr t x i) ty ev hp k=qE tb t (ev x) (ev i) (Bl k hp):=bH rfl rfl
theorem R0(t:TypeId)(x i:Operand):AVC P tb dr (.index t x i) ty ev hp k=A7 tb t (ev x) (ev i) (Bl k hp):=bH rfl rfl
theorem LD(x:Operand)(i:Nat):AVC P tb dr (.extract x i) ty ev hp k=JO (ev x) i (Bl k hp):=bH rfl rfl
theorem J4(x:Operand):AVC P tb dr (.nilCheck x) ty ev hp k=nilV (ev x) (Bl k hp):=bH rfl rfl
theorem J5(fn:Fn)(first cs:List Operand):AVC P tb dr (.makeFunc fn first.toArray cs.toArray) ty ev hp k=A3 fn first.length (cs.map ev) (Bl k hp):=bH rfl rfl
end
theorem fV.nil:fV ⟨[],[],0⟩:=⟨fun _ _ h=>by simp at h,fun _ _ h=>by simp at h⟩
def leL:List D→List D→Prop
 |[],[]=>True
 |d::ds,d'::ds'=>d.le d'∧leL ds ds'
 |_,_=>False
theorem GS:∀{ds ds':List D},leL ds ds'→ds'.length=ds.length∧∀{j:Nat} {d':D},ds'[j]? =some d'→∃d,ds[j]? =some d∧d.le d'
 |[],[],_=>⟨rfl,fun h=>by simp at h⟩
 |d::ds,d'::ds',h=>⟨by simp[(GS h.2).1],fun {j} {e} he=>by
  cases j with
  |zero=>exact⟨d,rfl,by
                have:d'=e:=by simpa using he
                rw[←this];exact h.1⟩
  |succ j=>exact (GS h.2).2 (by simpa using he)⟩
 |[],_::_,h=>h.elim
 |_::_,[],h=>h.elim
theorem ax.le {P:Program}{f:FuncId}{ds ds':List D}{r:D}(hc:ax P f ds' r)(h:leL ds ds'):ax P f ds r:=by
 obtain⟨hlen,Fb⟩:=GS h
 refine⟨hc.1,fun w F vs hF hsz xg=>hc.2 w F vs hF (by rw[hsz,hlen]) fun j d' u hd hu=>?_⟩
 obtain⟨d,EP,hle⟩:=Fb hd
 exact aI.le (xg j d u EP hu) hle
theorem AW.regS {P:Program}{x:Cx}{tm:List (Nat×D)}{hp:Hp}{Q:Exit→List (Nat×D)→Hp→Prop}(tb:TypeId→Option TyE){id:Nat}{l:List Oper}(hN:iZ x.N l.toArray=true)(h:∀K:List (Nat×D)→Hp→Prop,(∀tm hp,Q .normal tm hp→K tm hp)→ba P tb .seq l.toArray K l tm hp):AW P x (.region id l.toArray false) tm hp Q:=AW.regionS hN h
theorem AW.drwS {P:Program}{x:Cx}{tm:List (Nat×D)}{hp:Hp}{Q:Exit→List (Nat×D)→Hp→Prop}(tb:TypeId→Option TyE)(L:List FuncId){id:Nat}{l:List Oper}(hm:P.follows .mixedOrders=true)(hN:iZ x.N l.toArray=true)(rK:xR tb L l.toArray=true)(h:∀K:List (Nat×D)→Hp→Prop,(∀tm hp,Q .normal tm hp→K tm hp)→ba P tb (.any L) l.toArray K l tm hp):AW P x (.region id l.toArray true) tm hp Q:=AW.drawS hm hN rK h
end
section
def sg(N0:Nat)(os:List Nat)(i:Nat):Nat:=bif decide (i<N0) then i else os.getD (i - N0) 0
def D.renC(σ:Nat→Nat):D→D
 | .own id z n xs=>.own (σ id) z n xs
 | .pt k o=>.pt (σ k) o
 | .ow k o z n=>.ow (σ k) o z n
 | .gw k z n=>.gw (σ k) z n
 | .fn f ks=>.fn f (ks.map σ)
 |d=>d
def D.ren(σ:Nat→Nat):D→D
 | .ag ds=>.ag (ds.map (D.renC σ))
 | .tu ds=>.tu (ds.map (D.renC σ))
 |d=>d.renC σ
def D.noO:D→Bool
 | .opt _ _=>false
 |_=>true
def D.noOs:D→Bool
 | .ag ds=>ds.all D.noO
 | .tu ds=>ds.all D.noO
 |d=>d.noO
theorem kt {σ:Nat→Nat}{hp bQ:Hp}{g g2:Gh}{w:World}{m:Nat}{d:D}{v:Value}(h:aI hp g w (d.renC σ) v)(hd:d.idsC m=true)(hn:d.noO=true)(hm:bQ.next=m)
  (hμ:∀i,g2.μ i=g.μ (σ i)) (hτ:∀i,g2.τ i=g.τ (σ i)) (hF:g2.F=g.F) (hl:∀id y,bQ.live.lookup id=some y→hp.live.lookup (σ id)=some y):aI bQ g2 w d v:=by
 subst hm
 cases d with
 |e y=>cases h with
  |e _ v h=>exact .e y v (by rw[hF];exact h)
 |own id z n xs=>cases h with
  |own _ _ _ _ v h hid ht=>exact .own id z n xs v (by rw[hF];exact h) (by simpa[D.idsC] using hd) (fun m e hm=>by rw[hτ];exact ht m e (hl _ _ hm))
 |fu z n xs=>cases h with
  |fu _ _ _ A h=>exact .fu z n xs A (by rw[hF];exact h)
 |ag ds=>cases hd
 |tu ds=>cases hd
 |fp xs off=>cases h with
  |fp _ _ ad hb hc=>exact .fp xs off ad hb (by rw[hF];exact hc)
 |pt k off=>cases h with
  |pt _ _ hk=>rw[←hμ];exact .pt k off (by simpa[D.idsC] using hd)
 |ow k off z n=>cases h with
  |ow _ _ _ _ c hk h1 h2=>rw[←hμ];exact .ow k off z n c (by simpa[D.idsC] using hd) h1 h2
 |gw k z n=>cases h with
  |gw _ _ _ c hk h1 h2 hs=>rw[←hμ] at hs ⊢;exact .gw k z n c (by simpa[D.idsC] using hd) h1 h2 hs
 |fn f ks=>cases h with
  |fn _ _ hk=>
   have:((ks.map σ).map fun k=>Value.pointer (some ⟨g.μ k,0,none⟩))=ks.map fun k=>Value.pointer (some ⟨g2.μ k,0,none⟩):=by
    rw[rX]
    exact tK fun k _=>by simp only[Function.comp,hμ]
   rw[this]
   exact .fn f ks (by simpa[D.idsC] using hd)
 |opt b d=>cases hn
 |top=>exact .top v
theorem GI {σ:Nat→Nat}{hp bQ:Hp}{g g2:Gh}{w:World}{m:Nat}{d:D}{v:Value}(h:aI hp g w (d.ren σ) v)(hd:d.idsB m=true)(hn:d.noOs=true)(hm:bQ.next=m)
  (hμ:∀i,g2.μ i=g.μ (σ i)) (hτ:∀i,g2.τ i=g.τ (σ i)) (hF:g2.F=g.F) (hl:∀id y,bQ.live.lookup id=some y→hp.live.lookup (σ id)=some y):aI bQ g2 w d v:=by
 cases d with
 |ag ds=>
  have mP:∀d∈ds,D.idsC m d=true:=by simpa[D.idsB] using hd
  have zO:∀d∈ds,D.noO d=true:=by simpa[D.noOs] using hn
  cases h with
  |ag _ cs hlen h1 hr=>
   refine .ag ds cs (by simpa using hlen) h1 fun j d u h2 h3=>?_
   have:=hr j (d.renC σ) u (by rw[fO,h2];rfl) h3
   exact kt this (mP d (bT h2)) (zO d (bT h2)) hm hμ hτ hF hl
 |tu ds=>
  have mP:∀d∈ds,D.idsC m d=true:=by simpa[D.idsB] using hd
  have zO:∀d∈ds,D.noO d=true:=by simpa[D.noOs] using hn
  cases h with
  |tu _ cs hlen hr=>
   refine .tu ds cs (by simpa using hlen) fun j d u h2 h3=>?_
   have:=hr j (d.renC σ) u (by rw[fO,h2];rfl) h3
   exact kt this (mP d (bT h2)) (zO d (bT h2)) hm hμ hτ hF hl
 |e y=>exact kt h hd hn hm hμ hτ hF hl
 |own id z n xs=>exact kt h hd hn hm hμ hτ hF hl
 |fu z n xs=>exact kt h hd hn hm hμ hτ hF hl
 |fp xs off=>exact kt h hd hn hm hμ hτ hF hl
 |pt k off=>exact kt h hd hn hm hμ hτ hF hl
 |ow k off z n=>exact kt h hd hn hm hμ hτ hF hl
 |gw k z n=>exact kt h hd hn hm hμ hτ hF hl
 |fn f ks=>exact kt h hd hn hm hμ hτ hF hl
 |opt b d=>cases hn
 |top=>exact .top v
theorem Px {N0:Nat}{os:List Nat}(hs:∀o∈os,N0≤o)(hn:os.Nodup){i j:Nat}(hi:i<N0+os.length)(hj:j<N0+os.length)(h:sg N0 os i=sg N0 os j):i=j:=by
 unfold sg at h
 have get:∀k,¬k<N0→k<N0+os.length→∃hk:k - N0<os.length,os.getD (k - N0) 0=os[k - N0]:=fun k h1 h2=>⟨by omega,by simp[List.getD,i8 (show k - N0<os.length by omega)]⟩
 by_cases h1:i<N0 <;> by_cases h2:j<N0
 ·simpa[h1,h2] using h
 ·obtain⟨hk,e⟩:=get j h2 hj
  simp only[h1,h2,tJ,p6,ix,cond_false] at h
  rw[e] at h
  have:=hs _ (B0 hk)
  omega
 ·obtain⟨hk,e⟩:=get i h1 hi
  simp only[h1,h2,tJ,p6,ix,cond_false] at h
  rw[e] at h
  have:=hs _ (B0 hk)
  omega
 ·obtain⟨hk,e⟩:=get i h1 hi
  obtain⟨v3,e'⟩:=get j h2 hj
  simp only[h1,h2,p6,cond_false] at h
  rw[e,e'] at h
  have hp:=LT.1 hn
  rcases yP (i - N0) (j - N0) with h3|h3|h3
  ·exact absurd h (hp _ _ hk v3 h3)
  ·omega
  ·exact absurd h.symm (hp _ _ v3 hk h3)
section
variable {P:Program} {tb:TypeId→Option TyE} {x:Cx} {tm tm':List (Nat×D)} {hp hp':Hp} {Q:Exit→List (Nat×D)→Hp→Prop}
theorem Wk.nilOwn0(k j:Nat)(e:TypeId)(z:Nat)(hz:0<z){ds:List D}(hk:hp.vars.lookup k=some ds)(hj:ds[j]? =some (.e (.lit (.slice none 0 0))))
 :Wk x tm hp tm ((hp.tok 0 (z,e)).set k (ds.set j (.own hp.next z 0 []))):=by
  intro a w hr
  obtain⟨g,hr,i4,hsz,uc,hB,hF,hM⟩:=hr
  have ho:=World.ownsRow_nil w x.B e z
  have Ci:∀b,(Value.slice none 0 0).ownBlock=some b→w.heap.size≤b:=fun b hb=>by cases hb
  have Qy:=hr.newTok (e:=(z,e)) hz (aD _) (fun _ _=>rfl) Ci ho
  have m1:bC hp g w (hp.tok 0 (z,e)) (g.tok hp.next (.slice none 0 0) (0*z)) w:=bC.tok hp g (aD _) (fun _ _=>rfl) Ci
  obtain⟨_,_,_,cs,ty,h1,h2,h3⟩:=Qy.var k ds hk
  have Lb:=Qy.setVar hk (ds.set j (.own hp.next z 0 [])) cs ty rfl (fun _ _=>rfl) h1 (by simpa using h2) (.same fun _=>rfl) (fun i u hu=>⟨fun h=>(h3 i u hu).1 (by simpa using h),fun d hd=>by
    by_cases hij:j=i
    · subst hij
      rw[HW (by rcases bt j ds.length with h|h;exact h;rw[fa h] at hj;cases hj)] at hd
      injection hd with hd
      subst hd
      have hv:=((h3 j u hu).2 _ hj).lit
      subst hv
      refine .own _ _ _ _ _ (.sl _ 0 [] none 0 (fun _=>undef) (by simp) hz (aD _) (by decide) (fun h=>absurd h (by omega)) (fun _ h=>by cases h) (fun _ _ h=>by simp at h)) (cp _) (fun m e' hm=>?_)
      rw[show (Hp.tok hp _ _).live.lookup _=_ from ak] at hm
      injection hm with hm
      injection hm with h1 h2
      subst h1;subst h2
      exact⟨aD _,rfl,fun _=>(ar rfl).symm⟩
    · rw[LW hij] at hd
      exact (h3 i u hu).2 d hd⟩)
  have m2:=bC.setVar (w':=w) Qy hk (ds.set j (.own hp.next z 0 [])) rfl (fun _ _=>rfl) (.same fun _=>rfl)
  exact⟨_,Lb,fun t d h=>((i4 t d h).mono m1).mono m2,hsz,uc,hB,fun p h1 h2=>Gh.tok_keep g _ (fun b hb=>by cases hb) p h1 (hF p h1 h2),(hM.trans m1).trans m2⟩
end
end
section
def uw(tb:TypeId→Option TyE)(f:TypeId→List Value→Prop):List (Nat×TypeId)→Nat→List Value→Prop
 |[],_,us=>us=[]
 |(o,t)::fs,off,us=>o=off∧match tb t with
  |some j=>f t (us.take j.size)∧j.size≤us.length∧uw tb f fs (off+j.size) (us.drop j.size)
  |none=>False
def oH(tb:TypeId→Option TyE):Nat→TypeId→List Value→Prop
 |0,_,_=>False
 |d+1,t,us=>match tb t with
  |some i=>match i.ty with
   | .int k=>∃n,us=[.int k n]
   | .bool=>∃b,us=[.bool b]
   | .str=>∃s,us=[.string s]
   | .struct fs=>uw tb (oH tb d) fs 0 us
   | .arr n e=>match tb e with
    |some j=>us.length=n*j.size∧∀i,i<n→oH tb d e ((us.drop (i*j.size)).take j.size)
    |none=>False
   |_=>False
  |none=>False
def mC(P:Program):Nat→TypeId→Bool
 |0,_=>true
 |d+1,t=>match P.underlying t with
  | some (.struct fs) => !P.stoodInHeld t && fs.toList.all fun f => f.name != "_" && mC P d f.type
  |some (.array _ e)=>mC P d e
  |_=>true
def valT(g:Bool)(us:List Value):Value:=if g then .agg us.toArray else us.getD 0 undef
section
variable {P:Program} {tb:TypeId→Option TyE}
theorem xb(tok:TOk P tb){t:TypeId}{j:TyE}(ht:tb t=some j)(us:List Value)(off:Nat)(w:World)(hl:off+j.size≤us.length)(h1:j.ty.agg=false→j.size=1):(part t us.toArray off).run P w=.ok (valT j.ty.agg ((us.drop off).take j.size)) w:=by
 unfold valT
 cases hg:j.ty.agg with
 |true=>
  rw[uV tok ht hg,ar rfl]
  congr 2
  apply lW.1
  simp
 |false=>
  have hz:=h1 hg
  rw[hz] at hl
  have bG:off<us.length:=by omega
  rw[uU tok ht hg us.toArray off us[off] (by simp[bG]),aA (by simp),hz,LS bG]
  rfl
theorem JJ {d:Nat}{t:TypeId}{i:TyE}{us:List Value}(ht:tb t=some i)(hg:i.ty.agg=false)(h:oH tb d t us):∃u,us=[u]:=by
 cases d with
 |zero=>cases h
 |succ d=>
  unfold oH at h
  rw[ht] at h
  dsimp only at h
  split at h
  ·obtain⟨n,h⟩:=h;exact⟨_,h⟩
  ·obtain⟨n,h⟩:=h;exact⟨_,h⟩
  ·obtain⟨n,h⟩:=h;exact⟨_,h⟩
  ·rename_i he;rw[he] at hg;cases hg
  ·rename_i he;rw[he] at hg;cases hg
  ·cases h
theorem FY {α:Type}:∀(n z:Nat) (us vs:List α),us.length=n*z→vs.length=n*z→(∀i,i<n→(us.drop (i*z)).take z=(vs.drop (i*z)).take z)→us=vs
 |0,z,us,vs,h1,h2,_=>by
  rw[fP] at h1 h2
  rw[kY h1,kY h2]
 |n+1,z,us,vs,h1,h2,h=>by
  rw[jS] at h1 h2
  have h0:=h 0 (Nat.succ_pos n)
  simp only[fP,oa] at h0
  have hd:=FY n z (us.drop z) (vs.drop z) (by rw[ie];omega) (by rw[ie];omega) fun i hi=>by
   have:=h (i+1) (by omega)
   rw[nj,nj,show z+i*z=(i+1)*z by rw[jS];omega]
   exact this
  rw[←s4 z us,←s4 z vs,h0,hd]
theorem CG(tok:TOk P tb):∀(d D:Nat) (t:TypeId) (i:TyE) (us vs:List Value) (w:World),d≤D→tb t=some i→oH tb d t us→oH tb d t vs→mC P d t=true→
  ∃r,(Op.equalIn D t (valT i.ty.agg us) (valT i.ty.agg vs)).run P w=.ok r w∧(r=true↔us=vs)
 |0,_,_,_,_,_,_,_,_,h,_,_=>h.elim
 |d+1,0,_,_,_,_,_,h,_,_,_,_=>absurd h (by omega)
 |d+1,D+1,t,i,us,vs,w,hD,ht,hu,hv,hn=>by
  unfold oH at hu hv
  rw[ht] at hu hv
  dsimp only at hu hv
  cases j6:i.ty with
  |int k=>
   rw[j6] at hu hv
   obtain⟨a,rfl⟩:=hu
   obtain⟨b,rfl⟩:=hv
   exact⟨a == b,run_equalIn_int w D t k k a b (tok.int ht j6),by simp⟩
  |bool=>
   rw[j6] at hu hv
   obtain⟨a,rfl⟩:=hu
   obtain⟨b,rfl⟩:=hv
   obtain⟨dd,O3,Jw⟩:=tok.und ht
   rw[j6] at Jw
   have hb:P.underlying t=some .bool:=by cases dd <;> simp[Ty.of] at Jw;exact O3
   exact⟨a == b,run_equalIn_bool' w D t a b hb,by simp⟩
  |str=>
   rw[j6] at hu hv
   obtain⟨a,rfl⟩:=hu
   obtain⟨b,rfl⟩:=hv
   exact⟨_,run_equalIn_string w D t a b (tok.str ht j6),by rw[GC];simp⟩
  |slice e=>rw[j6] at hu;cases hu
  |other=>rw[j6] at hu;cases hu
  |struct fs=>
   rw[j6] at hu hv
   dsimp only at hu hv
   obtain⟨fields,hf,Ir⟩:=tok.struct ht j6
   have hfo:P.fieldsOf t=fields:=by unfold Program.fieldsOf;rw[hf]
   unfold mC at hn
   rw[hf] at hn
   simp only[mf,yM,cb,bne_iff_ne,ne_eq] at hn
   have key : ∀ (l : List Field) (off : Nat) (v7 pz : List Value), (∀ f ∈ l, f.name ≠ "_" ∧ mC P d f.type = true) → off ≤ us.length → off ≤ vs.length → us.drop off = v7 → vs.drop off = pz → uw tb (oH tb d) (l.map fun f => (f.offset, f.type)) off v7 → uw tb (oH tb d) (l.map fun f => (f.offset, f.type)) off pz →
     ∃r,(Op.eqFields D us.toArray vs.toArray l).run P w=.ok r w∧(r=true↔v7=pz):=by
    intro l
    induction l with
    |nil=>
     intro off v7 pz _ _ _ _ _ h1 h2
     have e1:v7=[]:=h1
     have e2:pz=[]:=h2
     subst e1;subst e2
     exact⟨true,by simp[Op.eqFields],by simp⟩
    |cons f l ih=>
     intro off v7 pz hl ou ov h1 h2 h3 h4
     obtain⟨uu,hnf⟩:=hl f (ni ..)
     simp only[fx,uw] at h3 h4
     obtain⟨ho,h3⟩:=h3
     obtain⟨_,h4⟩:=h4
     cases hj:tb f.type with
     |none=>rw[hj] at h3;cases h3
     |some j=>
      rw[hj] at h3 h4
      obtain⟨f1,l1,r1⟩:=h3
      obtain⟨f2,l2,r2⟩:=h4
      have lu:off+j.size≤us.length:=by rw[←h1,ie] at l1;omega
      have lv:off+j.size≤vs.length:=by rw[←h2,ie] at l2;omega
      have hz:j.ty.agg=false→j.size=1:=by
       intro hg
       obtain⟨u,hu⟩:=JJ hj hg f1
       have:=congrArg List.length hu
       simp at this
       omega
      obtain⟨ra,ha1,ha2⟩:=CG tok d D f.type j _ _ w (by omega) hj f1 f2 hnf
      obtain⟨rb,eF,tz⟩:=ih (off+j.size) (v7.drop j.size) (pz.drop j.size) (fun g hg=>hl g (lV _ hg)) lu lv (by rw[←h1,nj]) (by rw[←h2,nj]) r1 r2
      have pu:=xb tok hj us off w lu hz
      have pv:=xb tok hj vs off w lv hz
      rw[h1] at pu
      rw[h2] at pv
      have tZ:v7=pz↔v7.take j.size=pz.take j.size∧v7.drop j.size=pz.drop j.size:=
       ⟨fun h=>by rw[h];exact⟨rfl,rfl⟩,fun h=>by rw[←s4 j.size v7,h.1,h.2,s4]⟩
      refine⟨if ra=true then rb else false,?_,?_⟩
      ·unfold Op.eqFields
       rw[ar uu,ho]
       simp only[Sem.run_bind,pu,pv,ha1,Result.andThen_ok]
       cases ra
       ·simp
       ·simpa using eF
      ·rw[tZ,←ha2,←tz]
       cases ra <;> simp
   obtain⟨r,Qy,Lb⟩:=key fields.toList 0 us vs (fun f hfm=>hn.2 f hfm) (bY _) (bY _) rfl rfl (by rw[Ir];exact hu) (by rw[Ir];exact hv)
   refine⟨r,?_,Lb⟩
   show (Op.equalIn (D+1) t (.agg us.toArray) (.agg vs.toArray)).run P w=_
   rw[run_equalIn_struct w D t _ _ (by rw[hfo];exact hf) hn.1,hfo]
   exact Qy
  |arr n e=>
   rw[j6] at hu hv
   dsimp only at hu hv
   cases hj:tb e with
   |none=>rw[hj] at hu;cases hu
   |some j=>
    rw[hj] at hu hv
    obtain⟨lu,fu⟩:=hu
    obtain⟨lv,fv⟩:=hv
    have hf:=tok.arr ht j6
    unfold mC at hn
    rw[hf] at hn
    dsimp only at hn
    have hz:0<n→j.ty.agg=false→j.size=1:=by
     intro h0 hg
     obtain⟨u,hu⟩:=JJ hj hg (fu 0 h0)
     have:=congrArg List.length hu
     have h2:j.size≤us.length:=by rw[lu];exact Ed _ h0
     simp at this
     omega
    have mP:us=vs↔∀i∈List.range' 0 n 1,(us.drop (i*j.size)).take j.size=(vs.drop (i*j.size)).take j.size:=
     ⟨fun h i _=>by rw[h],fun h=>FY n j.size us vs lu lv fun i hi=>h i (by simp[List.mem_range'_1,hi])⟩
    have hl:∀i∈List.range' 0 n 1,i<n:=fun i hi=>by simpa using (List.mem_range'_1.1 hi).2
    show ∃r,(Op.equalIn (D+1) t (.agg us.toArray) (.agg vs.toArray)).run P w=.ok r w∧_
    rw[Op.equalIn,mP]
    simp only[Sem.run_bind,run_underlying hf,Result.andThen_ok,tok.run_sizeOf hj,Std.Legacy.Range.forIn_eq_forIn_range',Std.Legacy.Range.size,D5,Bu,sX]
    clear mP
    generalize List.range' 0 n 1=l at hl ⊢
    induction l with
    |nil=>exact⟨true,by simp,by simp⟩
    |cons i l ih=>
     have hi:i<n:=hl i (ni ..)
     have hm:i*j.size+j.size≤n*j.size:=by rw[←jS];exact bJ _ hi
     have pu:=xb tok hj us (i*j.size) w (by omega) (hz (by omega))
     have pv:=xb tok hj vs (i*j.size) w (by omega) (hz (by omega))
     obtain⟨ra,ha1,ha2⟩:=CG tok d D e j _ _ w (by omega) hj (fu i hi) (fv i hi) hn
     obtain⟨rb,eF,tz⟩:=ih fun i hi=>hl i (lV _ hi)
     refine⟨if ra=true then rb else false,?_,?_⟩
     ·simp only[List.forIn_cons,Sem.run_bind,pu,pv,ha1,Result.andThen_ok]
      cases ra
      ·simp
      ·simp only[eH,Bool.false_eq_true,BX,Sem.run_pure,Result.andThen_ok,bP]
       exact eF
     ·rw[List.forall_mem_cons,←ha2,←tz]
      cases ra <;> simp
theorem ag_eql(tok:TOk P tb){t:TypeId}{i:TyE}{us vs:List Value}{p:Prop}[Decidable p]{k:Value→Prop}(d:Nat)(hd:d≤10000)(ht:tb t=some i)(hg:i.ty.agg=true)(hm:P.eqGuardType P.depth t=false)(hn:mC P d t=true)(hu:oH tb d t us)(hv:oH tb d t vs)(hp:us=vs↔p)(hk:k (.bool (decide p))):
  ∃r,(∀w,(do eqGuard .eql t (.tmp 0) (.tmp 0) (.agg us.toArray) (.agg vs.toArray);binOp .eql t (.agg us.toArray) (.agg vs.toArray):Sem Value).run P w=.ok r w)∧r.oneCell'=true∧k r:=by
 refine⟨_,fun w=>?_,rfl,hk⟩
 obtain⟨r,h1,h2⟩:=CG tok d 10000 t i us vs w hd ht hu hv hn
 rw[hg] at h1
 have uI:(Op.equalIn 10000 t (.agg us.toArray) (.agg vs.toArray)).run P w=.ok r w:=h1
 rw[Sem.run_bind,run_eqGuard_agg w .eql t _ _ _ _ hm]
 simp only[Result.andThen_ok]
 rw[run_eql_struct,uI]
 simp only[Result.andThen_ok]
 congr 2
 rw[Ee,h2,hp]
 simp
theorem ag_neq(tok:TOk P tb){t:TypeId}{i:TyE}{us vs:List Value}{p:Prop}[Decidable p]{k:Value→Prop}(d:Nat)(hd:d≤10000)(ht:tb t=some i)(hg:i.ty.agg=true)(hm:P.eqGuardType P.depth t=false)(hn:mC P d t=true)(hu:oH tb d t us)(hv:oH tb d t vs)(hp:us=vs↔p)(hk:k (.bool (decide (¬p)))):
  ∃r,(∀w,(do eqGuard .neq t (.tmp 0) (.tmp 0) (.agg us.toArray) (.agg vs.toArray);binOp .neq t (.agg us.toArray) (.agg vs.toArray):Sem Value).run P w=.ok r w)∧r.oneCell'=true∧k r:=by
 refine⟨_,fun w=>?_,rfl,hk⟩
 obtain⟨r,h1,h2⟩:=CG tok d 10000 t i us vs w hd ht hu hv hn
 rw[hg] at h1
 have uI:(Op.equalIn 10000 t (.agg us.toArray) (.agg vs.toArray)).run P w=.ok r w:=h1
 rw[Sem.run_bind,run_eqGuard_agg w .neq t _ _ _ _ hm]
 simp only[Result.andThen_ok]
 rw[run_neq_struct,uI]
 simp only[Result.andThen_ok]
 congr 2
 rw[Ee,decide_eq_true_iff,←hp,←h2]
 cases r <;> simp
theorem RW(tok:TOk P tb)(d:Nat)(hd:d≤10000){t:TypeId}{i:TyE}{xs ys:List D}{us vs:List Value}{p:Prop}{k:Value→Prop}(ht:tb t=some i)(hg:i.ty.agg=true)(hm:P.eqGuardType P.depth t=false)(hn:mC P d t=true)(hx:mv xs=some us)(hy:mv ys=some vs)(hu:oH tb d t us)(hv:oH tb d t vs)(hp:us=vs↔p)(_inst:Decidable p)(hk:k (.bool (decide p))):ru P .eql t (.ag xs) (.ag ys) k:=by
 simp only[ru,hx,hy]
 exact ag_eql tok d hd ht hg hm hn hu hv hp hk
theorem RV(tok:TOk P tb)(d:Nat)(hd:d≤10000){t:TypeId}{i:TyE}{xs ys:List D}{us vs:List Value}{p:Prop}{k:Value→Prop}(ht:tb t=some i)(hg:i.ty.agg=true)(hm:P.eqGuardType P.depth t=false)(hn:mC P d t=true)(hx:mv xs=some us)(hy:mv ys=some vs)(hu:oH tb d t us)(hv:oH tb d t vs)(hp:us=vs↔p)(_inst:Decidable p)(hk:k (.bool (decide (¬p)))):ru P .neq t (.ag xs) (.ag ys) k:=by
 simp only[ru,hx,hy]
 exact ag_neq tok d hd ht hg hm hn hu hv hp hk
end
end
section
section
variable {w:World} {F:Addr→Prop}
theorem mz.e_inv {x:E}{v:Value}(h:mz w F (.e x) v):dq w F x v:=by
 unfold mz at h
 cases h with
 |e _ _ h=>exact h
theorem ax.of1 {P:Program}{f:FuncId}{d r:D}(hf:Ms P f)(h:∀(w:World) (F:Addr→Prop) (v:Value),(∀p:Addr,F p→p.block<w.heap.size)→mz w F d v→Calls P f #[v] w fun e w'=>∃u,e=.returned u∧v5 w.heap.size F w' r u∧Below w.heap.size w w'):ax P f [d] r:=by
 refine⟨hf,fun w F vs hF hsz xg=>?_⟩
 obtain⟨v,rfl⟩:∃v,vs=#[v]:=by
  rcases vs with⟨_|⟨v,_|⟨u,l⟩⟩⟩ <;> simp at hsz
  exact⟨v,rfl⟩
 exact h w F v hF (xg 0 d v rfl rfl)
theorem sl_rep {z n:Nat}{xs:List E}{v:Value}(h:dq w F (.sl z n xs) v):∃us,Sl w v z n us∧Pw (dq w F) xs us:=by
 cases h with
 |sl _ _ _ A c v7 hl hz pl oF hA hc hr=>
  have h':dq w F (.sl z n xs) (.slice A n c):=.sl z n xs A c v7 hl hz pl oF hA hc hr
  obtain⟨h1,h2,h3,h4,h5,us,h6,h7,h8⟩:=h'.reads
  refine⟨us,⟨A,c,rfl,pl,oF,h6,fun hn=>?_⟩,h8⟩
  obtain⟨ad,rfl,hb⟩:=h5 hn
  exact⟨ad,rfl,hb,fun j u hu=>(h7 ad rfl j u hu).1⟩
theorem own_rep(hfits:∀p:Addr,F p→p.block<w.heap.size){w':World}{e:TypeId}{z n:Nat}{xs:List E}{us:List Value}{q:Value}(hz:0<z)(ho:w'.ownsRow w.heap.size e z q n us)(hb:Below w.heap.size w w')(xD:Pw (dq w F) xs us):dq w' (fun p=>F p∨Value.tail q (n*z) p) (.sl z n xs) q:=by
 have hF:∀p:Addr,p.block<w.heap.size→(F p∨Value.tail q (n*z) p)→F p:=by
  rintro p hp (h|⟨b,h1,h2,_⟩)
  ·exact h
  ·have:=(ho.lt b h1).1;omega
 have hpw':=xD.imp (fun _ _ h=>h.mono (F':=fun p=>F p∨Value.tail q (n*z) p) hb.size (fun p hp _=>hb.cell hp) hF)
 have lj:w'.ownsRow w.heap.size e z q (0+n) ([]++us):=by simpa using ho
 -- no cell of GA row is forbidden:its block is new
 have:=dq.appended (n:=0) (m:=n) (xs:=[]) (us:=[]) hz lj Pw.nil hpw' (fun b j hbq hj=>by
  rintro (hf|⟨b',h1,h2,h3⟩)
  ·have h4:=(ho.lt b hbq).1
   have h5:b<w.heap.size:=hfits _ hf
   omega
  ·have h4:n*z≤j:=h3
   rw[bB] at hj
   omega)
 simpa using this
end
end
theorem fZ {α:Type}(f:α→List E){z:Nat}(hz:∀a,(f a).length=z)(l:List α):(l.flatMap f).length=l.length*z:=by
 induction l with
 |nil=>simp
 |cons a l ih=>rw[oL,eI,hz,ih,n7,bZ,d8,rz]
theorem OF {α:Type}[Inhabited α](f:α→List E){z:Nat}(hz:∀a,(f a).length=z){l:List α}{i:Nat}(h:i<l.length){c:Nat}(hc:c<z):(l.flatMap f).getD (i*z+c) .any=(f l[i]!).getD c .any:=by
 induction l generalizing i with
 |nil=>simp at h
 |cons a l ih=>
  cases i with
  |zero=>
   simp only[oL,fP,bB,List.getD,List.getElem!_cons_zero]
   rw[wO (by rw[hz];exact hc)]
  |succ i=>
   have:=ih (i:=i) (by simpa using h)
   rw[List.getElem!_cons_succ,←this]
   simp only[oL,List.getD]
   rw[wN (by rw[hz,bZ];omega),hz]
   congr 2
   rw[bZ]
   omega
theorem mq {α:Type}(f:α→List E){z:Nat}(hz:∀a,(f a).length=z):∀(l:List α) (i:Nat),(l.flatMap f).take (i*z)=(l.take i).flatMap f
 |[],i=>by simp
 |a::l,0=>by simp
 |a::l,i+1=>by
  rw[oL,List.take_succ_cons,oL,←mq f hz l i,LR,hz,gu (by rw[hz,bZ];omega),bZ]
  congr 2
  omega
theorem pd {α:Type}(f:α→List E){z:Nat}(hz:∀a,(f a).length=z):∀(l:List α) (i:Nat),(l.flatMap f).drop (i*z)=(l.drop i).flatMap f
 |[],i=>by simp
 |a::l,0=>by simp
 |a::l,i+1=>by
  rw[oL,List.drop_succ_cons,←pd f hz l i,LV,hz,List.drop_eq_nil_of_le (by rw[hz,bZ];omega),bZ,qw]
  congr 2
  omega
section
structure Cd(α:Type) where
 sz:Nat
 f:α→List E
 h:∀a,(f a).length=sz
def cI(k:IntKind):Cd Int:=⟨1,fun n=>[.lit (.int k n)],fun _=>rfl⟩
def cS:Cd ByteArray:=⟨1,fun s=>[.lit (.string s)],fun _=>rfl⟩
def cB:Cd Bool:=⟨1,fun b=>[.lit (.bool b)],fun _=>rfl⟩
def slE {α:Type}(c:Cd α)(l:List α):E:=.sl c.sz l.length (l.flatMap c.f)
def cL {α:Type}(c:Cd α):Cd (List α):=⟨1,fun l=>[slE c l],fun _=>rfl⟩
def cA {α:Type}(n:Nat)(c:Cd α):Cd (Vector α n):=⟨n*c.sz,fun v=>v.toList.flatMap c.f,fun v=>by rw[fZ c.f c.h,sY]⟩
abbrev dI(k:IntKind)(n:Int):D:=.e (.lit (.int k n))
abbrev dS(s:ByteArray):D:=.e (.lit (.string s))
abbrev dB(b:Bool):D:=.e (.lit (.bool b))
abbrev dN:D:=.e (.lit (.slice none 0 0))
abbrev dL {α:Type}(c:Cd α)(l:List α):D:=.e (slE c l)
abbrev dO {α:Type}(id:Nat)(c:Cd α)(l:List α):D:=.own id c.sz l.length (l.flatMap c.f)
abbrev dF {α:Type}(c:Cd α)(l:List α):D:=.fu c.sz l.length (l.flatMap c.f)
abbrev dG {α:Type}(c:Cd α)(a:α):D:=.ag ((c.f a).map .e)
theorem ltb {a b:Nat}(h:Nat.ble (a+1) b=true):a<b:=b7 h
theorem leb {a b:Nat}(h:Nat.ble a b=true):a≤b:=b7 h
def gd {R:Type}(c:Prop)[Decidable c](k:Option R):Option R:=if c then k else none
def cnd {R:Type}(b:Bool)(x y:Option R):Option R:=match b with|true=>x|false=>y
def bnd {S R:Type}(x:Option S)(k:S→Option R):Option R:=match x with|some s=>k s|none=>none
theorem am {R:Type}{c:Prop}[Decidable c]{k:Option R}{r:R}(h:gd c k=some r):c∧k=some r:=by
 unfold gd at h
 split at h
 ·exact⟨by assumption,h⟩
 ·cases h
theorem aB {R:Type}{c:Prop}[Decidable c]{k:Option R}(h:c:=by omega):gd c k=k:=ar h
theorem ek {R:Type}{b:Bool}{x y:Option R}{r:R}(hb:b=true)(h:cnd b x y=some r):x=some r:=by subst hb;exact h
theorem eo {R:Type}{b:Bool}{x y:Option R}{r:R}(hb:b=false)(h:cnd b x y=some r):y=some r:=by subst hb;exact h
theorem ah {S R:Type}{x:Option S}{k:S→Option R}{r:R}(h:bnd x k=some r):∃s,x=some s∧k s=some r:=by
 unfold bnd at h
 split at h
 ·exact⟨_,rfl,h⟩
 ·cases h
theorem ab {S R:Type}(s:S)(k:S→Option R):bnd (some s) k=k s:=rfl
def ut {S X:Type}(b:S→Option (S⊕X)):Nat→S→Option X
 |0,_=>none
 |n+1,s=>match b s with
  |some (.inl s')=>ut b n s'
  |some (.inr x)=>some x
  |none=>none
theorem De {S X:Type}{b:S→Option (S⊕X)}:∀{n:Nat} {s:S} {x:X},ut b n s=some x→∀m,n≤m→ut b m s=some x
 |0,_,_,h,_,_=>by cases h
 |n+1,s,x,h,m,hm=>by
  obtain⟨m,rfl⟩:∃k,m=k+1:=⟨m - 1,by omega⟩
  unfold ut at h ⊢
  split at h
  ·exact De h m (by omega)
  ·exact h
  ·cases h
def aK {S X:Type}(b:S→Option (S⊕X))(s:S):Option X:=open Classical in if h:∃n x,ut b n s=some x then ut b (Classical.choose h) s else none
theorem u5 {S X:Type}{b:S→Option (S⊕X)}{s:S}{x:X}:aK b s=some x↔∃n,ut b n s=some x:=by
 unfold aK
 constructor
 ·intro h
  split at h
  ·exact⟨_,h⟩
  ·cases h
 ·rintro⟨n,hn⟩
  have h:∃n x,ut b n s=some x:=⟨n,x,hn⟩
  rw[dif_pos h]
  obtain⟨y,hy⟩:=HK h
  rw[hy]
  have h1:=De hn (max n (Classical.choose h)) (HJ ..)
  have h2:=De hy (max n (Classical.choose h)) (HI ..)
  rw[h1] at h2
  exact h2.symm
theorem gR {S X:Type}{b:S→Option (S⊕X)}{s s':S}(h:b s=some (.inl s')):aK b s=aK b s':=by
 have key:∀x,aK b s=some x↔aK b s'=some x:=fun x=>by
  rw[u5,u5]
  constructor
  ·rintro⟨n,hn⟩
   cases n with
   |zero=>cases hn
   |succ n=>exact⟨n,by simpa[ut,h] using hn⟩
  ·rintro⟨n,hn⟩
   exact⟨n+1,by simpa[ut,h] using hn⟩
 cases h1:aK b s with
 |some x=>exact ((key x).1 h1).symm
 |none=>
  cases h2:aK b s' with
  |none=>rfl
  |some x=>rw[(key x).2 h2] at h1;cases h1
theorem cU {S X:Type}{b:S→Option (S⊕X)}{s:S}{x:X}(h:b s=some (.inr x)):aK b s=some x:=
 u5.2 ⟨1,by simp[ut,h]⟩
theorem db {S X:Type}{b:S→Option (S⊕X)}(G:Nat→S)(n m:Nat)(x:X)(Oj:n≤m)(hr:∀i,n≤i→i<m→b (G i)=some (.inl (G (i+1))))(he:b (G m)=some (.inr x)):aK b (G n)=some x:=by
 obtain⟨k,rfl⟩:∃k,m=n+k:=⟨m - n,by omega⟩
 induction k generalizing n with
 |zero=>exact cU he
 |succ k ih=>
  rw[gR (hr n (aD _) (by omega))]
  exact ih (n+1) (by omega) (fun i h1 h2=>hr i (by omega) (by omega)) (by rw[show n+1+k=n+(k+1) by omega];exact he)
section
variable {P:Program} {tb:TypeId→Option TyE} {dr:Bool} {md:Md}
theorem qm.le {o:Oper}{ev:Operand→D}{hp hp':Hp}{d d2:D}(h:qm P o ev hp d hp')(hl:d.le d2):qm P o ev hp d2 hp':=
 fun B g w a Kn Q hr hx hk=>h B g w a Kn Q hr hx fun v g' w' h1 h2 h3 h4 h5=>hk v g' w' h1 h2 (h3.le hl) h4 h5
theorem nT.le {o:Oper}{ev:Operand→D}{hp hp':Hp}{d d2:D}(h:nT P tb md o ev hp d hp')(hl:d.le d2):nT P tb md o ev hp d2 hp':=
 ⟨h.ok.le hl,fun h1=>⟨(h.quiet h1).1,fun bQ h3=>((h.quiet h1).2 bQ h3).le hl⟩,h.fr,h.lk⟩
variable {ops:Array Oper} {K:List (Nat×D)→Hp→Prop} {os:List Oper} {tm:List (Nat×D)} {hp hp':Hp} {t:Tmp} {dst:Option Tmp} {op:Op} {ty:TypeId} {pos:String} {af:Array Edge} {d d2:D}
theorem st_le(tok:TOk P tb)(hn:md.nc tb op=true)(h:AVC P tb md.dr op ty (evD tm) hp (Kq d hp'))(hl:d.le d2)(h2:ba P tb md ops K os ((t,d2)::tm) hp'):ba P tb md ops K (⟨some t,op,ty,pos,af,none⟩::os) tm hp:=
 GE rfl (((AVC.snd tok (o:=⟨some t,op,ty,pos,af,none⟩) h).q hn).le hl) h2
variable {j:Nat} {want c:Bool} {s:Tmp}
theorem OE(tok:TOk P tb)(hn:md.nc tb op=true)(hj:(ops[j]?).bind (·.dst)=some s)(hc:tm.lookup s=some (.e (.lit (.bool c))))(hw:c=want)(h:AVC P tb md.dr op ty (evD tm) hp (Kq d hp'))(h2:ba P tb md ops K os ((t,d)::tm) hp'):ba P tb md ops K (⟨some t,op,ty,pos,af,some (j,want)⟩::os) tm hp:=
 st_on hj hc (by subst hw;cases c <;> rfl) ((AVC.snd tok (o:=⟨some t,op,ty,pos,af,some (j,want)⟩) h).q hn) h2
theorem MD(hp:Hp)(g:Gh)(w:World):aI hp g w (.tu []) undef:=.tu [] #[] rfl fun j d u h=>by simp at h
theorem aT(hj:(ops[j]?).bind (·.dst)=some s)(hc:tm.lookup s=some (.e (.lit (.bool c))))(hw:c= !want)(h2:ba P tb md ops K os ((t,.tu [])::tm) hp):ba P tb md ops K (⟨some t,op,ty,pos,af,some (j,want)⟩::os) tm hp:=
 .off (.tu []) (.inl ⟨s,c,hj,hc,by subst hw;cases want <;> rfl⟩) (fun _ _ _ _ _=>MD _ _ _) h2
theorem nn_t(hj:(ops[j]?).bind (·.dst)=some s)(hc:tm.lookup s=some (.tu []))(h2:ba P tb md ops K os ((t,.tu [])::tm) hp):ba P tb md ops K (⟨some t,op,ty,pos,af,some (j,want)⟩::os) tm hp:=
 .off (.tu []) (.inr ⟨s,hj,hc,rfl⟩) (fun _ _ _ _ _=>MD _ _ _) h2
theorem sq(tok:TOk P tb){f:FuncId}{aS:List Operand}{ts:Array TypeId}{ds:List D}{r:D}(hc:ax P f ds r)(hp1:((aS.map (evD tm)).map D.ex).all D.pure=true)(hl:leL ((aS.map (evD tm)).map D.ex) ds)(hr:r.pure=true∨∃ds,r=.tu ds)(h2:ba P tb md ops K os ((t,r)::tm) hp):
  ba P tb md ops K (⟨some t,.call ⟨.value (.func f),aS.toArray,ts⟩,ty,pos,af,none⟩::os) tm hp:=
 GE rfl (PN tok rfl (ax.le hc hl) hp1 hr) h2
theorem sqg(tok:TOk P tb){f:FuncId}{aS:List Operand}{ts:Array TypeId}{ds:List D}{r:D}(hj:(ops[j]?).bind (·.dst)=some s)(hg:tm.lookup s=some (.e (.lit (.bool c))))(hw:c=want)(hc:ax P f ds r)(hp1:((aS.map (evD tm)).map D.ex).all D.pure=true)(hl:leL ((aS.map (evD tm)).map D.ex) ds)(hr:r.pure=true∨∃ds,r=.tu ds)(h2:ba P tb md ops K os ((t,r)::tm) hp):
  ba P tb md ops K (⟨some t,.call ⟨.value (.func f),aS.toArray,ts⟩,ty,pos,af,some (j,want)⟩::os) tm hp:=
 st_on hj hg (by subst hw;cases c <;> rfl) (PN tok rfl (ax.le hc hl) hp1 hr) h2
variable {ev:Operand→D} {x y:Operand}
theorem Ev(h:ev x=d:=by exact rfl):AVC P tb dr (.move x) ty ev hp (Kq d hp):=by rw[av_move,h];exact Kq.here _ _
theorem T_mv {t:Tmp}(h:tm.lookup t=some d:=by exact rfl):AVC P tb dr (.move (.tmp t)) ty (evD tm) hp (Kq d hp):=Ev (h:=by show (tm.lookup t).getD .top=d;rw[h];rfl)
theorem mi {t:Tmp}(h:tm.lookup t=some d:=by exact rfl)(hk:OK tb ty d hp (Kq d hp)=Kq d hp d hp:=by exact rfl):AVC P tb dr (.assign (.tmp t)) ty (evD tm) hp (Kq d hp):=by
 rw[Bk,show evD tm (.tmp t)=d by show (tm.lookup t).getD .top=d;rw[h];rfl,hk];exact Kq.here _ _
theorem Gk(h:ev x=d:=by exact rfl)(hk:OK tb ty d hp (Kq d hp)=Kq d hp d hp:=by exact rfl):AVC P tb dr (.assign x) ty ev hp (Kq d hp):=by rw[Bk,h,hk];exact Kq.here _ _
theorem eC {vs:List (Nat×List D)}{lv:List (Nat×Nat×Nat×TypeId)}{N0:Nat}{e:TypeId}{i j:TyE}(ht:tb ty=some i)(he:tb e=some j)(h:ev x=dN:=by exact rfl)(hi:i.ty=.slice e:=by exact rfl)(hz:Nat.ble (0+1) (j.size)=true:=by exact rfl):AVC P tb dr (.assign x) ty ev ⟨vs,lv,N0⟩ (Kq (.own N0 j.size 0 []) ⟨vs,(N0,0,j.size,e)::lv,N0+1⟩):=by
 replace hz:=b7 hz
 rw[Bk,h,R4,ht]
 simp only[hi,he]
 exact⟨hz,Kq.here _ _⟩
theorem au {cn:Operand}{b:Bool}(hb:b=true)(hc:ev cn=dB b:=by exact rfl)(h:ev x=d:=by exact rfl):AVC P tb dr (.pick cn x y) ty ev hp (Kq d hp):=by
 subst hb;rw[Nl,hc,pickV_t,h];exact Kq.here _ _
theorem aN {cn:Operand}{b:Bool}(hb:b=false)(hc:ev cn=dB b:=by exact rfl)(h:ev y=d:=by exact rfl):AVC P tb dr (.pick cn x y) ty ev hp (Kq d hp):=by
 subst hb;rw[Nl,hc,pickV_f,h];exact Kq.here _ _
theorem aO {vs:List (Nat×List D)}{lv:List (Nat×Nat×Nat×TypeId)}{N0:Nat}{t:TypeId}{i:TyE}(ht:tb t=some i):AVC P tb dr (.alloc t) ty ev ⟨vs,lv,N0⟩ (Kq (.pt N0 0) ⟨(N0,(i.zero.map fun v=>.e (.lit v)))::vs,lv,N0+1⟩):=by
 rw[R3,OM,ht];exact Kq.here _ _
theorem fC {vs:List (Nat×List D)}{lv:List (Nat×Nat×Nat×TypeId)}{N0:Nat}{t:TypeId}{cs:List D}(h:(ev x).cells=some cs:=by exact rfl):AVC P tb dr (.box t x) ty ev ⟨vs,lv,N0⟩ (Kq (.pt N0 0) ⟨(N0,cs)::vs,lv,N0+1⟩):=by
 rw[av_box,boxV_eq,h];exact Kq.here _ _
theorem aR {t:TypeId}{i:TyE}{fs:List (Nat×TypeId)}{ps:List (Nat×Operand)}{qs:List (Nat×List D)}{es:List D}(ht:tb t=some i)(hi:i.ty=.struct fs:=by exact rfl)(ha:(fs.all fun f=>(tb f.2).isSome)=true:=by exact rfl)(hp1:lM (ps.map fun p=>(p.1,ev p.2))=some qs:=by exact rfl)(hf:gU (rH tb fs) (i.zero.map fun v=>D.e (.lit v)) qs=some es:=by exact rfl):
  AVC P tb dr (.build t ps.toArray) ty ev hp (Kq (.ag es) hp):=by
 rw[z3,xl,ht,hp1]
 simp only[hi,hf]
 exact⟨fun f hf=>(cb.1 ha) f hf,Kq.here _ _⟩
theorem nt {t e:TypeId}{n:Nat}{i j:TyE}{ps:List (Nat×Operand)}{qs:List (Nat×List D)}{es:List D}(ht:tb t=some i)(he:tb e=some j)(hi:i.ty=.arr n e:=by exact rfl)(hp1:lM (ps.map fun p=>(p.1,ev p.2))=some qs:=by exact rfl)(hf:gU (fun n=>some (n*j.size,j.size)) (i.zero.map fun v=>D.e (.lit v)) qs=some es:=by exact rfl):
  AVC P tb dr (.build t ps.toArray) ty ev hp (Kq (.ag es) hp):=by
 rw[z3,xl,ht,hp1]
 simp only[hi,he,hf]
 exact Kq.here _ _
theorem jc {vs:List (Nat×List D)}{lv:List (Nat×Nat×Nat×TypeId)}{N0:Nat}{t e:TypeId}{i j:TyE}{n:Nat}{ps:List (Nat×Operand)}{qs:List (Nat×List D)}{es:List D}{xs:List E}(ht:tb t=some i)(he:tb e=some j)(hi:i.ty=.slice e:=by exact rfl)(hz:Nat.ble (0+1) (j.size)=true:=by exact rfl)(hn:Nat.ble ((n+1)*j.size) (16777216)=true:=by exact rfl)(hp1:lM (ps.map fun p=>(p.1,ev p.2))=some qs:=by exact rfl)(hf:gU (fun m=>some (m*j.size,j.size)) (List.replicate ((n+1)*j.size) (D.e .any)) qs=some es:=by exact rfl)(hc:vf es=some xs:=by exact rfl)(hd:dr=false:=by exact rfl):AVC P tb dr (.buildSlice t (n+1) ps.toArray) ty ev ⟨vs,lv,N0⟩ (Kq (.own N0 j.size (n+1) xs) ⟨vs,(N0,(n+1),j.size,e)::lv,N0+1⟩):=by
 replace hz:=b7 hz
 replace hn:=b7 hn
 subst hd
 rw[yi]
 unfold eN
 rw[ht,hp1]
 simp only[hi,he,hf,hc]
 exact⟨hz,hn,Kq.here _ _⟩
theorem By {t e:TypeId}{i j:TyE}{n:Nat}{ps:List (Nat×Operand)}{qs:List (Nat×List D)}{es:List D}{xs:List E}(ht:tb t=some i)(he:tb e=some j)(hi:i.ty=.slice e:=by exact rfl)(hz:Nat.ble (0+1) (j.size)=true:=by exact rfl)(hn:Nat.ble ((n+1)*j.size) (16777216)=true:=by exact rfl)(hp1:lM (ps.map fun p=>(p.1,ev p.2))=some qs:=by exact rfl)(hf:gU (fun m=>some (m*j.size,j.size)) (List.replicate ((n+1)*j.size) (D.e .any)) qs=some es:=by exact rfl)(hc:vf es=some xs:=by exact rfl)(hd:dr=true:=by exact rfl):AVC P tb dr (.buildSlice t (n+1) ps.toArray) ty ev hp (Kq (.fu j.size (n+1) xs) hp):=by
 replace hz:=b7 hz
 replace hn:=b7 hn
 subst hd
 rw[yi]
 unfold eN
 rw[ht,hp1]
 simp only[hi,he,hf,hc]
 exact⟨hz,hn,Kq.here _ _⟩
theorem Bz {vs:List (Nat×List D)}{lv:List (Nat×Nat×Nat×TypeId)}{N0:Nat}{t e:TypeId}{i j:TyE}(ht:tb t=some i)(he:tb e=some j)(hi:i.ty=.slice e:=by exact rfl)(hz:Nat.ble (0+1) (j.size)=true:=by exact rfl):AVC P tb dr (.buildSlice t 0 #[]) ty ev ⟨vs,lv,N0⟩ (Kq (.own N0 j.size 0 []) ⟨vs,(N0,0,j.size,e)::lv,N0+1⟩):=by
 replace hz:=b7 hz
 show eN tb (!dr) t 0 [] _ _
 unfold eN
 rw[ht]
 simp only[lM,hi,he]
 exact⟨hz,by omega,trivial,Kq.here _ _⟩
theorem bK {t:TypeId}{i:TyE}{j off:Nat}{ds:List D}(ht:tb t=some i)(hg:i.ty.agg=false:=by exact rfl)(hx:ev x=.pt j off:=by exact rfl)(hv:hp.vars.lookup j=some ds:=by exact rfl)(hn:Nat.ble (j+1) (hp.next)=true:=by exact rfl)(hd:ds[off]? =some d:=by exact rfl):AVC P tb dr (.load t x) ty ev hp (Kq d hp):=by
 replace hn:=b7 hn
 rw[tH,hx,pG,ht,hv]
 simp only[hg]
 exact⟨hn,d,hd,Kq.here _ _⟩
theorem bp {t:TypeId}{i:TyE}{j off:Nat}{ds es:List D}(ht:tb t=some i)(hg:i.ty.agg=true:=by exact rfl)(hx:ev x=.pt j off:=by exact rfl)(hv:hp.vars.lookup j=some ds:=by exact rfl)(hn:Nat.ble (j+1) (hp.next)=true:=by exact rfl)(hl:Nat.ble (off+i.size) (ds.length)=true:=by exact rfl)(hd:(ds.drop off).take i.size=es:=by exact rfl):AVC P tb dr (.load t x) ty ev hp (Kq (.ag es) hp):=by
 replace hn:=b7 hn
 replace hl:=b7 hl
 rw[tH,hx,pG,ht,hv]
 simp only[hg]
 exact⟨hn,hl,by rw[hd];exact Kq.here _ _⟩
theorem M1 {α:Type}[Inhabited α]{c:Cd α}{l:List α}{n o:Nat}{e:E}(hn:n<l.length)(ho:(c.f l[n]!)[o]? =some e):n*c.sz+o<(l.flatMap c.f).length∧(l.flatMap c.f).getD (n*c.sz+o) .any=e:=by
 have hoz:o<c.sz:=by
  rw[←c.h l[n]!]
  exact (j4.1 ho).1
 refine⟨?_,?_⟩
 ·rw[fZ c.f c.h]
  have:(n+1)*c.sz≤l.length*c.sz:=bJ _ hn
  rw[bZ] at this
  omega
 ·rw[OF c.f c.h hn hoz,List.getD,ho];rfl
theorem mh {α:Type}[Inhabited α]{t:TypeId}{i:TyE}{c:Cd α}{l:List α}{n o:Nat}{e:E}(ht:tb t=some i)(hn:n<l.length)(hg:i.ty.agg=false:=by exact rfl)(hx:ev x=.fp (l.flatMap c.f) (n*c.sz+o):=by exact rfl)(ho:(c.f l[n]!)[o]? =some e:=by exact rfl):AVC P tb dr (.load t x) ty ev hp (Kq (.e e) hp):=by
 obtain⟨h1,h2⟩:=M1 hn ho
 rw[tH,hx,Jh,ht]
 simp only[hg]
 refine⟨h1,?_⟩
 rw[h2]
 exact Kq.here _ _
theorem gk {α:Type}[Inhabited α]{t:TypeId}{i:TyE}{c:Cd α}{l:List α}{n o:Nat}{es:List E}(ht:tb t=some i)(hn:n<l.length)(ho:((c.f l[n]!).drop o).take i.size=es)(hg:i.ty.agg=true:=by exact rfl)(hx:ev x=.fp (l.flatMap c.f) (n*c.sz+o):=by exact rfl)(hoz:Nat.ble (o+i.size) (c.sz)=true:=by exact rfl):AVC P tb dr (.load t x) ty ev hp (Kq (.ag (es.map .e)) hp):=by
 replace hoz:=b7 hoz
 have hlen:(c.f l[n]!).length=c.sz:=c.h _
 have hle:(es.map D.e)=(List.range i.size).map fun j=>D.e ((l.flatMap c.f).getD (n*c.sz+o+j) .any):=by
  subst ho
  refine vo fun j=>?_
  by_cases hj:j<i.size
  ·have sf:o+j<(c.f l[n]!).length:=by omega
   have h3:=M1 (o:=o+j) hn (i8 sf)
   rw[fO,fO,ez,ar hj,lX,i8 sf,wM hj]
   simp only[lc,ob]
   rw[h3.2]
  ·rw[fa (by simp;omega),fa (by simp;omega)]
 rw[tH,hx,Jh,ht]
 simp only[hg]
 refine⟨?_,?_⟩
 ·rw[fZ c.f c.h]
  have:(n+1)*c.sz≤l.length*c.sz:=bJ _ hn
  rw[bZ] at this
  omega
 ·rw[hle]
  exact Kq.here _ _
theorem bu {vs:List (Nat×List D)}{lv:List (Nat×Nat×Nat×TypeId)}{N0:Nat}{t:TypeId}{i:TyE}{j off:Nat}{ds cs ds':List D}(ht:tb t=some i)(hx:ev x=.pt j off:=by exact rfl)(hv:vs.lookup j=some ds:=by exact rfl)(hc:(ev y).cells=some cs:=by exact rfl)(hl:cs.length=i.size:=by exact rfl)(ho:Nat.ble (off+i.size) (ds.length)=true:=by exact rfl)(he:ds.take off++cs++ds.drop (off+cs.length)=ds':=by exact rfl):AVC P tb dr (.store t x y) ty ev ⟨vs,lv,N0⟩ (Kq .top ⟨(j,ds')::vs,lv,N0⟩):=by
 replace ho:=b7 ho
 rw[DS,hx,AI,ht,hv,hc]
 exact⟨hl,ho,by rw[he];exact Kq.here _ _⟩
theorem s9 {o:BinOp}{t t':TypeId}{k k':IntKind}{a b:Int}{v:Value}(hx:ev x=dI k a)(hy:ev y=dI k' b)(h:ru P o t (dI k a) (dI k' b) fun u=>Kq (.e (.lit v)) hp (.e (.lit u)) hp):AVC P tb dr (.binOp o t x y t') ty ev hp (Kq (.e (.lit v)) hp):=by
 rw[wF,hx,hy];exact h
theorem Sy {t t':TypeId}{k:IntKind}{a b:Int}(hx:ev x=dI k a:=by exact rfl)(hy:ev y=dI k b:=by exact rfl):AVC P tb dr (.binOp .add t x y t') ty ev hp (Kq (dI k (k.wrap (a+b))) hp):=s9 hx hy (by rw[bin_add];exact⟨rfl,Kq.here _ _⟩)
theorem Sh {t t':TypeId}{k:IntKind}{a b:Int}(hx:ev x=dI k a:=by exact rfl)(hy:ev y=dI k b:=by exact rfl):AVC P tb dr (.binOp .sub t x y t') ty ev hp (Kq (dI k (k.wrap (a - b))) hp):=s9 hx hy (by rw[bin_sub];exact⟨rfl,Kq.here _ _⟩)
theorem Sp {t t':TypeId}{k:IntKind}{a b:Int}(hx:ev x=dI k a:=by exact rfl)(hy:ev y=dI k b:=by exact rfl):AVC P tb dr (.binOp .mul t x y t') ty ev hp (Kq (dI k (k.wrap (a*b))) hp):=s9 hx hy (by rw[bin_mul];exact⟨rfl,Kq.here _ _⟩)
theorem Gj {t t':TypeId}{k:IntKind}{a b:Int}(hb:b≠0)(hx:ev x=dI k a:=by exact rfl)(hy:ev y=dI k b:=by exact rfl):AVC P tb dr (.binOp .quo t x y t') ty ev hp (Kq (dI k (k.wrap (a.tdiv b))) hp):=s9 hx hy (by rw[bin_quo];exact⟨rfl,hb,Kq.here _ _⟩)
theorem Eu {t t':TypeId}{k:IntKind}{a b:Int}(hb:b≠0)(hx:ev x=dI k a:=by exact rfl)(hy:ev y=dI k b:=by exact rfl):AVC P tb dr (.binOp .rem t x y t') ty ev hp (Kq (dI k (a.tmod b)) hp):=s9 hx hy (by rw[bin_rem];exact⟨rfl,hb,Kq.here _ _⟩)
def Jo(k:IntKind)(a b:Int):Int:=k.wrap (BitVec.ofInt k.bits a &&&BitVec.ofInt k.bits b).toNat
def ior(k:IntKind)(a b:Int):Int:=k.wrap (BitVec.ofInt k.bits a |||BitVec.ofInt k.bits b).toNat
def yB(k:IntKind)(a b:Int):Int:=k.wrap (a*2 ^ min b.toNat k.bits)
def mX(k:IntKind)(a b:Int):Int:=a.fdiv (2 ^ min b.toNat k.bits)
theorem T_and {t t':TypeId}{k:IntKind}{a b:Int}(hx:ev x=dI k a:=by exact rfl)(hy:ev y=dI k b:=by exact rfl):AVC P tb dr (.binOp .and t x y t') ty ev hp (Kq (dI k (Jo k a b)) hp):=s9 hx hy (by rw[bin_and];exact⟨rfl,Kq.here _ _⟩)
theorem T_or {t t':TypeId}{k:IntKind}{a b:Int}(hx:ev x=dI k a:=by exact rfl)(hy:ev y=dI k b:=by exact rfl):AVC P tb dr (.binOp .or t x y t') ty ev hp (Kq (dI k (ior k a b)) hp):=s9 hx hy (by rw[bin_or];exact⟨rfl,Kq.here _ _⟩)
theorem Sm {t t':TypeId}{k k':IntKind}{a b:Int}(hb:0≤b)(hx:ev x=dI k a:=by exact rfl)(hy:ev y=dI k' b:=by exact rfl):AVC P tb dr (.binOp .shl t x y t') ty ev hp (Kq (dI k (yB k a b)) hp):=s9 hx hy (by rw[bin_shl];exact⟨hb,Kq.here _ _⟩)
theorem Sk {t t':TypeId}{k k':IntKind}{a b:Int}(hb:0≤b)(hx:ev x=dI k a:=by exact rfl)(hy:ev y=dI k' b:=by exact rfl):AVC P tb dr (.binOp .shr t x y t') ty ev hp (Kq (dI k (mX k a b)) hp):=s9 hx hy (by rw[bin_shr];exact⟨hb,Kq.here _ _⟩)
theorem Sv {t t':TypeId}{k:IntKind}{a b:Int}(hx:ev x=dI k a:=by exact rfl)(hy:ev y=dI k b:=by exact rfl):AVC P tb dr (.binOp .eql t x y t') ty ev hp (Kq (dB (decide (a=b))) hp):=s9 hx hy (by rw[bin_eql];exact⟨rfl,Kq.here _ _⟩)
theorem So {t t':TypeId}{k:IntKind}{a b:Int}(hx:ev x=dI k a:=by exact rfl)(hy:ev y=dI k b:=by exact rfl):AVC P tb dr (.binOp .neq t x y t') ty ev hp (Kq (dB (decide (a≠b))) hp):=s9 hx hy (by rw[bin_neq];exact⟨rfl,Kq.here _ _⟩)
theorem Sq {t t':TypeId}{k:IntKind}{a b:Int}(hx:ev x=dI k a:=by exact rfl)(hy:ev y=dI k b:=by exact rfl):AVC P tb dr (.binOp .lss t x y t') ty ev hp (Kq (dB (decide (a<b))) hp):=s9 hx hy (by rw[bin_lss];exact⟨rfl,Kq.here _ _⟩)
theorem Sr {t t':TypeId}{k:IntKind}{a b:Int}(hx:ev x=dI k a:=by exact rfl)(hy:ev y=dI k b:=by exact rfl):AVC P tb dr (.binOp .leq t x y t') ty ev hp (Kq (dB (decide (a≤b))) hp):=s9 hx hy (by rw[bin_leq];exact⟨rfl,Kq.here _ _⟩)
theorem Ss {t t':TypeId}{k:IntKind}{a b:Int}(hx:ev x=dI k a:=by exact rfl)(hy:ev y=dI k b:=by exact rfl):AVC P tb dr (.binOp .gtr t x y t') ty ev hp (Kq (dB (decide (b<a))) hp):=s9 hx hy (by rw[bin_gtr];exact⟨rfl,Kq.here _ _⟩)
theorem St {t t':TypeId}{k:IntKind}{a b:Int}(hx:ev x=dI k a:=by exact rfl)(hy:ev y=dI k b:=by exact rfl):AVC P tb dr (.binOp .geq t x y t') ty ev hp (Kq (dB (decide (b≤a))) hp):=s9 hx hy (by rw[bin_geq];exact⟨rfl,Kq.here _ _⟩)
theorem Mf {t t':TypeId}{a b:Bool}(hu:P.underlying t=some .bool)(hx:ev x=dB a:=by exact rfl)(hy:ev y=dB b:=by exact rfl):AVC P tb dr (.binOp .eql t x y t') ty ev hp (Kq (dB (a == b)) hp):=by
 rw[wF,hx,hy,RU];exact⟨hu,Kq.here _ _⟩
theorem Me {t t':TypeId}{a b:Bool}(hu:P.underlying t=some .bool)(hx:ev x=dB a:=by exact rfl)(hy:ev y=dB b:=by exact rfl):AVC P tb dr (.binOp .neq t x y t') ty ev hp (Kq (dB (!(a == b))) hp):=by
 rw[wF,hx,hy,RT];exact⟨hu,Kq.here _ _⟩
theorem T_geql(tok:TOk P tb)(n:Nat)(hd:n≤10000){t t':TypeId}{i:TyE}{xs ys:List D}{us vs:List Value}{p:Prop}(ht:tb t=some i)(hg:i.ty.agg=true)(hm:P.eqGuardType P.depth t=false)(hn:mC P n t=true)(hx:ev x=.ag xs)(hy:ev y=.ag ys)(Cf:mv xs=some us)(Dk:mv ys=some vs)(hu:oH tb n t us)(hv:oH tb n t vs)(hp1:us=vs↔p)[inst:Decidable p]:AVC P tb dr (.binOp .eql t x y t') ty ev hp (Kq (dB (decide p)) hp):=by
 rw[wF,hx,hy];exact RW tok n hd ht hg hm hn Cf Dk hu hv hp1 inst (Kq.here _ _)
theorem T_gneq(tok:TOk P tb)(n:Nat)(hd:n≤10000){t t':TypeId}{i:TyE}{xs ys:List D}{us vs:List Value}{p:Prop}(ht:tb t=some i)(hg:i.ty.agg=true)(hm:P.eqGuardType P.depth t=false)(hn:mC P n t=true)(hx:ev x=.ag xs)(hy:ev y=.ag ys)(Cf:mv xs=some us)(Dk:mv ys=some vs)(hu:oH tb n t us)(hv:oH tb n t vs)(hp1:us=vs↔p)[inst:Decidable p]:AVC P tb dr (.binOp .neq t x y t') ty ev hp (Kq (dB (decide (¬p))) hp):=by
 rw[wF,hx,hy];exact RV tok n hd ht hg hm hn Cf Dk hu hv hp1 inst (Kq.here _ _)
theorem Sn {t:TypeId}{a:Bool}(hx:ev x=dB a:=by exact rfl):AVC P tb dr (.unOp .not t x) ty ev hp (Kq (dB (!a)) hp):=by rw[Nk,hx,un_not];exact Kq.here _ _
theorem T_neg {t:TypeId}{k:IntKind}{a:Int}(hx:ev x=dI k a:=by exact rfl):AVC P tb dr (.unOp .neg t x) ty ev hp (Kq (dI k (k.wrap (0 - a))) hp):=by rw[Nk,hx,un_neg];exact Kq.here _ _
theorem Sw {s t:TypeId}{i j:TyE}{k jk:IntKind}{n:Int}(hs:tb s=some i)(ht:tb t=some j)(hj:j.ty=.int jk:=by exact rfl)(hx:ev x=dI k n:=by exact rfl):AVC P tb dr (.convert s t x) ty ev hp (Kq (dI jk (jk.wrap n)) hp):=by
 rw[LE,hx,conv_eq,hs,ht];simp only[hj];exact Kq.here _ _
theorem Mc {s tt:TypeId}{i j:TyE}{f o:Nat}{fs:List (Nat×TypeId)}{ds:List D}(hs:tb s=some i)(ht:tb tt=some j)(hi:i.ty=.struct fs:=by exact rfl)(hf:fs[f]? =some (o,tt):=by exact rfl)(hg:j.ty.agg=false:=by exact rfl)(hx:ev x=.ag ds:=by exact rfl)(hd:ds[o]? =some d:=by exact rfl):AVC P tb dr (.field s x f) ty ev hp (Kq d hp):=by
 rw[R2,hx,OG,wD,hs]
 simp only[hi,hf,ht,hg]
 exact⟨d,hd,Kq.here _ _⟩
theorem T_faP {s tt:TypeId}{i j:TyE}{f o k off:Nat}{fs:List (Nat×TypeId)}(hs:tb s=some i)(ht:tb tt=some j)(hi:i.ty=.struct fs:=by exact rfl)(hf:fs[f]? =some (o,tt):=by exact rfl)(hz:Nat.ble 1 j.size=true:=by exact rfl)(hx:ev x=.pt k off:=by exact rfl):AVC P tb dr (.fieldAddr s x f) ty ev hp (Kq (.pt k (off+o)) hp):=by
 replace hz:j.size≠0:=by have:=b7 hz;omega
 rw[zZ,hx,Fi,wD,hs]
 simp only[hi,hf,ht]
 exact⟨hz,Kq.here _ _⟩
theorem T_faF {s tt:TypeId}{i j:TyE}{f o off:Nat}{xs:List E}{fs:List (Nat×TypeId)}(hs:tb s=some i)(ht:tb tt=some j)(hi:i.ty=.struct fs:=by exact rfl)(hf:fs[f]? =some (o,tt):=by exact rfl)(hz:Nat.ble 1 j.size=true:=by exact rfl)(hx:ev x=.fp xs off:=by exact rfl):AVC P tb dr (.fieldAddr s x f) ty ev hp (Kq (.fp xs (off+o)) hp):=by
 replace hz:j.size≠0:=by have:=b7 hz;omega
 rw[zZ,hx,Fj,wD,hs]
 simp only[hi,hf,ht]
 exact⟨hz,Kq.here _ _⟩
theorem mL {t e:TypeId}{i j:TyE}{n:Nat}{xs:List E}{k:IntKind}{v:Int}(hb:0≤v∧v<(n:Int))(ht:tb t=some i)(he:tb e=some j)(hi:i.ty=.slice e:=by exact rfl)(hx:(ev x).asSl j.size=some (n,xs):=by exact rfl)(hy:ev y=dI k v:=by exact rfl):AVC P tb dr (.indexAddr t x y) ty ev hp (Kq (.fp xs (v.toNat*j.size)) hp):=by
 rw[vj,hy,tU,ht]
 simp only[hi,he,hx]
 exact⟨hb,Kq.here _ _⟩
theorem vU {t e:TypeId}{i j:TyE}{n m off:Nat}{k:IntKind}{v:Int}(hb:0≤v∧v<(n:Int))(ht:tb t=some i)(he:tb e=some j)(hi:i.ty=.arr n e:=by exact rfl)(hx:ev x=.pt m off:=by exact rfl)(hy:ev y=dI k v:=by exact rfl):AVC P tb dr (.indexAddr t x y) ty ev hp (Kq (.pt m (off+v.toNat*j.size)) hp):=by
 rw[vj,hx,hy,tU,ht]
 simp only[hi,he]
 exact⟨hb,Kq.here _ _⟩
def sAt(s:ByteArray)(n:Nat):Int:=((s.data.toList.getD n 0).toNat:Int)
theorem T_ixS {t:TypeId}{i:TyE}{s:ByteArray}{k:IntKind}{v:Int}(hb:0≤v∧v<(s.size:Int))(ht:tb t=some i)(hi:i.ty=.str:=by exact rfl)(hx:ev x=dS s:=by exact rfl)(hy:ev y=dI k v:=by exact rfl):AVC P tb dr (.index t x y) ty ev hp (Kq (dI .u8 (sAt s v.toNat)) hp):=by
 rw[R0,hx,hy,Oe,ht]
 simp only[hi]
 exact⟨hb,Kq.here _ _⟩
theorem Su {ds:List D}{i:Nat}(hx:ev x=.tu ds:=by exact rfl)(hd:ds[i]? =some d:=by exact rfl):AVC P tb dr (.extract x i) ty ev hp (Kq d hp):=by
 rw[LD,hx,JN,hd,Rv];exact Kq.here _ _
theorem T_len {t e:TypeId}{i j:TyE}{n:Nat}{xs:List E}(ht:tb t=some i)(he:tb e=some j)(hi:i.ty=.slice e:=by exact rfl)(hx:(ev x).asSl j.size=some (n,xs):=by exact rfl):AVC P tb dr (.call ⟨.builtin .len,#[x],#[t]⟩) ty ev hp (Kq (dI .i64 n) hp):=by
 show kW tb .len [t] [ev x] hp _
 rw[BW,MM,ht]
 simp only[hi,he,hx]
 exact Kq.here _ _
theorem Nv {ts:Array TypeId}{k k':IntKind}{a b:Int}(hx:ev x=dI k a:=by exact rfl)(hy:ev y=dI k' b:=by exact rfl):AVC P tb dr (.call ⟨.builtin .min,#[x,y],ts⟩) ty ev hp (Kq (dI k (min a b)) hp):=by
 show kW tb .min ts.toList [ev x,ev y] hp _
 rw[hx,hy,JY];exact Kq.here _ _
theorem T_max {ts:Array TypeId}{k k':IntKind}{a b:Int}(hx:ev x=dI k a:=by exact rfl)(hy:ev y=dI k' b:=by exact rfl):AVC P tb dr (.call ⟨.builtin .max,#[x,y],ts⟩) ty ev hp (Kq (dI k (max a b)) hp):=by
 show kW tb .max ts.toList [ev x,ev y] hp _
 rw[hx,hy,JZ];exact Kq.here _ _
theorem news_sl {t e:TypeId}{z m:Nat}{ys:List E}{i:TyE}{xd:D}{kn:Nat→List E→Prop}(ht:tb t=some i)(hi:i.ty=.slice e)(hs:xd.strOf=none)(hx:xd.asSl z=some (m,ys))(h:kn m ys):zH tb t z xd kn:=by
 rw[PY,ht];simp only[hi,hs,hx];exact h
theorem eD {vs:List (Nat×List D)}{lv:List (Nat×Nat×Nat×TypeId)}{N0:Nat}{α:Type}{t e:TypeId}{i j:TyE}{id m:Nat}{c:Cd α}{l l':List α}(ht:tb t=some i)(he:tb e=some j)(hf:(l++l').length*max 1 j.bytes≤140737488355328)(hi:i.ty=.slice e:=by exact rfl)(hz:Nat.ble (0+1) (j.size)=true:=by exact rfl)(hx:ev x=dO id c l:=by exact rfl)(hc:c.sz=j.size:=by exact rfl)(hl:lv.lookup id=some (l.length,j.size,e):=by exact rfl)(hs:(ev y).strOf=none:=by exact rfl)(hy:(ev y).asSl j.size=some (m,l'.flatMap c.f):=by exact rfl)(hm:m=l'.length:=by exact rfl):
  AVC P tb dr (.call ⟨.builtin .append,#[x,y],#[t,t]⟩) ty ev ⟨vs,lv,N0⟩ (Kq (dO id c (l++l')) ⟨vs,(id,(l++l').length,j.size,e)::lv,N0⟩):=by
 replace hz:=b7 hz
 subst hm
 show kW tb .append [t,t] [ev x,ev y] _ _
 rw[hx,DQ,J7,ht]
 simp only[hi,he]
 refine⟨hz,fun _=>trivial,fun h=>absurd hs h,news_sl ht hi hs hy ?_⟩
 refine⟨hc,hl,by rw[←eI];exact hf,?_⟩
 dsimp only[dO]
 rw[eI,D8,hc]
 exact Kq.here _ _
def nA {α:Type}(l:List α)(a b:Int):List α:=(l.drop a.toNat).take (b - a).toNat
theorem IQ {α:Type}{l:List α}{a b:Int}(h:0≤a∧a≤b∧b≤(l.length:Int)):(nA l a b).length=(b - a).toNat:=by
 simp only[nA,e6,ie];omega
theorem slE_sub {α:Type}{c:Cd α}{l:List α}{a b:Int}(h:0≤a∧a≤b∧b≤(l.length:Int)):E.sl c.sz (b - a).toNat (((l.flatMap c.f).drop (a.toNat*c.sz)).take ((b - a).toNat*c.sz))=slE c (nA l a b):=by
 unfold slE
 rw[IQ h,pd c.f c.h,mq c.f c.h];rfl
theorem Sj {α:Type}{t e:TypeId}{i j:TyE}{c:Cd α}{l:List α}{n:Nat}{lo hi:Option Operand}{a b:Int}(hb:0≤a∧a≤b∧b≤(l.length:Int))(ht:tb t=some i)(he:tb e=some j)(Li:i.ty=.slice e:=by exact rfl)(hc:c.sz=j.size:=by exact rfl)(hx:(ev x).asSl j.size=some (n,l.flatMap c.f):=by exact rfl)(hn:n=l.length:=by exact rfl)(Dt:qM (lo.map ev) 0=fun k=>k a:=by exact rfl)(Kw:qM (hi.map ev) n=fun k=>k b:=by exact rfl):AVC P tb dr (.slice t x lo hi none) ty ev hp (Kq (dL c (nA l a b)) hp):=by
 subst hn
 rw[RZ]
 unfold CZ
 rw[ht]
 simp only[Li,he,hx,Dt,Kw,Option.map_none]
 refine⟨hb,?_⟩
 rw[←hc,slE_sub hb]
 exact Kq.here _ _
theorem wZ {x:Operand}{f:FuncId}{aS:List Operand}{ts:Array TypeId}{ds:List D}{r:D}(v4:ev x=.e (.lit (.func (.func f) #[] #[])))(hc:ax P f ds r)(hp1:((aS.map ev).map D.ex).all D.pure=true)(hl:leL ((aS.map ev).map D.ex) ds)(hr:r.pure=true∨∃ds,r=.tu ds):AVC P tb dr (.call ⟨.value x,aS.toArray,ts⟩) ty ev hp (Kq r hp):=by
 show vg P (hvB tb ⟨.value x,aS.toArray,ts⟩) (ev x) (aS.toArray.toList.map ev) hp (Kq r hp)
 rw[v4]
 refine⟨rfl,rfl,.inl ⟨hp1,r,ax.le hc hl,?_⟩⟩
 unfold H5
 split
 ·rcases hr with hr|⟨_,hr⟩ <;> cases hr
 ·rcases hr with hr|⟨_,hr⟩ <;> cases hr
 ·exact Kq.here _ _
theorem H9 {vs:List (Nat×List D)}{lv:List (Nat×Nat×Nat×TypeId)}{N0:Nat}{x:Operand}{f:FuncId}{aS:List Operand}{ts:Array TypeId}{ds:List D}{e z n:Nat}{xs:List E}(v4:ev x=.e (.lit (.func (.func f) #[] #[])))(hc:ax P f ds (.own e z n xs))(hp1:((aS.map ev).map D.ex).all D.pure=true)(hl:leL ((aS.map ev).map D.ex) ds):AVC P tb dr (.call ⟨.value x,aS.toArray,ts⟩) ty ev ⟨vs,lv,N0⟩ (Kq (.own N0 z n xs) ⟨vs,(N0,n,z,e)::lv,N0+1⟩):=by
 show vg P (hvB tb ⟨.value x,aS.toArray,ts⟩) (ev x) (aS.toArray.toList.map ev) _ _
 rw[v4]
 exact⟨rfl,rfl,.inl ⟨hp1,_,ax.le hc hl,Kq.here _ _⟩⟩
theorem Nw {x:Operand}{f:FuncId}{aS:List Operand}{ts:Array TypeId}{ds:List D}(v4:ev x=.e (.lit (.func (.func f) #[] #[])))(hc:HC P f ds hp d hp')(hd:aS.map ev=ds:=by exact rfl)(hh:hvB tb ⟨.value x,aS.toArray,ts⟩=true:=by exact rfl):AVC P tb dr (.call ⟨.value x,aS.toArray,ts⟩) ty ev hp (Kq d hp'):=by
 show vg P (hvB tb ⟨.value x,aS.toArray,ts⟩) (ev x) (aS.toArray.toList.map ev) hp _
 rw[v4]
 refine⟨rfl,rfl,.inr ⟨hh,d,hp',?_,Kq.here _ _⟩⟩
 show HC P f (aS.map ev) hp d hp'
 rw[hd];exact hc
theorem T_callF {x:Operand}{f:FuncId}{ks:List Nat}{aS:List Operand}{ts:Array TypeId}{ds:List D}(v4:ev x=.fn f ks)(hc:HC P f ds hp d hp')(hd:aS.map ev++ks.map (fun k=>D.pt k 0)=ds:=by exact rfl)(hh:hvB tb ⟨.value x,aS.toArray,ts⟩=true:=by exact rfl):AVC P tb dr (.call ⟨.value x,aS.toArray,ts⟩) ty ev hp (Kq d hp'):=by
 show vg P (hvB tb ⟨.value x,aS.toArray,ts⟩) (ev x) (aS.toArray.toList.map ev) hp _
 rw[v4]
 refine .inr ⟨hh,d,hp',?_,Kq.here _ _⟩
 show HC P f (aS.map ev++ks.map fun k=>.pt k 0) hp d hp'
 rw[hd];exact hc
theorem B5 {f:FuncId}{first cs:List Operand}{ks:List Nat}(h:first.length=0:=by exact rfl)(hc:BU (cs.map ev)=some ks:=by exact rfl)(hn:cs.length≠0:=by decide):AVC P tb dr (.makeFunc (.func f) first.toArray cs.toArray) ty ev hp (Kq (.fn f ks) hp):=by
 rw[J5]
 show first.length=0∧_
 refine⟨h,?_⟩
 cases cs with
 |nil=>exact absurd rfl hn
 |cons c cs=>
  show (match BU ((c::cs).map ev) with|some ks=>Bl (Kq (.fn f _) hp) hp (.fn f ks)|none=>False)
  rw[hc]
  exact Kq.here _ _
theorem Mb {k off:Nat}(hx:ev x=.pt k off:=by exact rfl):AVC P tb dr (.nilCheck x) ty ev hp (Kq (.pt k off) hp):=by rw[J4,hx,nilV_pt];exact Kq.here _ _
end
section
variable {P:Program} {tb:TypeId→Option TyE} {x:Cx} {tm tm':List (Nat×D)} {hp hp':Hp} {Q:Exit→List (Nat×D)→Hp→Prop}
theorem own_mtG(w:World)(e:TypeId)(base size:Nat)(hb:base≤w.heap.size):(w.alloc (.cells #[] e)).ownsRow base e size (.slice (some ⟨w.heap.size,0,none⟩) 0 0) 0 []:=
 ⟨by simp,.inr ⟨w.heap.size,0,#[],rfl,hb,heap_alloc_new w _,aD _,by decide,by simp,by simp⟩⟩
theorem RM {f:FuncId}{e z n:Nat}{xs:List E}(hz:0<z)(hf:Ms P f)(h:∀(us:List Value) (v:Value) (w:World),Sl w v z n us→(∀u∈us,u.oneCell'=true)→Calls P f #[v] w fun en w'=>∃q,en=.returned q∧w'.ownsRow w.heap.size e z q n us∧Below w.heap.size w w'):ax P f [.e (.sl z n xs)] (.own e z n xs):=
 ax.of1 hf fun w F v hF hv=>by
  have hv:=hv.e_inv
  obtain⟨us,Js,xD⟩:=sl_rep hv
  refine (h us v w Js (fun u hu=>by
   obtain⟨j,hj⟩:=wK hu
   have bG:j<xs.length:=by
    rw[xD.1]
    rcases bt j us.length with h|h
    ·exact h
    ·rw[fa h] at hj;cases hj
   exact (xD.2 j _ u (i8 bG) hj).one)).mono ?_
  rintro en w' ⟨q,rfl,ho,hb⟩
  exact⟨q,rfl,⟨hz,⟨us,ho⟩,own_rep hF hz ho hb xD⟩,hb⟩
theorem AW.loopO {c:Code}{S X:Type}{b:S→Option (S⊕X)}(T:S→List (Nat×D))(H:S→Hp)(QX:X→Exit→List (Nat×D)→Hp→Prop)
  (round:∀s y,b s=some y→AW P x c (T s) (H s) fun ex tm' hp'=>match y with| .inl s'=>ex=.normal∧Wk x tm' hp' (T s') (H s')| .inr e=>ex≠.normal∧QX e ex tm' hp')
  {s:S} {e:X} (h:aK b s=some e) (hw:Wk x tm hp (T s) (H s)):AW P x (.loop c) tm hp (QX e):=by
 obtain⟨n,hn⟩:=u5.1 h
 refine AW.loop (fun n tm hp=>∃s,tm=T s∧hp=H s∧ut b n s=some e) (n:=n) hw ⟨s,rfl,rfl,hn⟩ ?_
 rintro n tm hp ⟨s,rfl,rfl,hs⟩
 cases n with
 |zero=>cases hs
 |succ n=>
  unfold ut at hs
  split at hs
  ·rename_i s' hb
   refine AW.mono (round s _ hb) ?_
   rintro ex tm' hp' ⟨rfl,OZ⟩
   exact⟨n,_,_,cp _,OZ,s',rfl,rfl,hs⟩
  ·rename_i e' hb
   injection hs with hs
   subst hs
   refine AW.mono (round s _ hb) ?_
   rintro ex tm' hp' ⟨h1,h2⟩
   cases ex with
   |normal=>exact absurd rfl h1
   |_=>exact h2
  ·cases hs
def wkT(σ:Nat→Nat)(m:Nat)(tm:List (Nat×D)):List (Nat×D)→Prop
 |[]=>True
 |(t,d)::l=>((∃d0,tm.lookup t=some d0∧d0.le (d.ren σ))∧d.idsB m=true∧d.noOs=true)∧wkT σ m tm l
def wkV(σ:Nat→Nat)(m:Nat)(vs:List (Nat×List D)):List (Nat×List D)→Prop
 |[]=>True
 |(k,ds)::l=>(k<m∧(∃pm,vs.lookup (σ k)=some pm∧zj pm (ds.map (D.renC σ)))∧ds.all (D.idsC m)=true∧ds.all D.noO=true)∧wkV σ m vs l
def wkL(σ:Nat→Nat)(m:Nat)(lv:List (Nat×Nat×Nat×TypeId)):List (Nat×Nat×Nat×TypeId)→Prop
 |[]=>True
 |(k,y)::l=>(k<m∧lv.lookup (σ k)=some y)∧wkL σ m lv l
theorem Mv {σ:Nat→Nat}{m:Nat}:∀{l:List (Nat×D)},wkT σ m tm l→∀p∈l,(∃d0,tm.lookup p.1=some d0∧d0.le (p.2.ren σ))∧p.2.idsB m=true∧p.2.noOs=true
 |_::_,h,_,.head _=>h.1
 |_::_,h,p,.tail _ hp=>Mv h.2 p hp
theorem uM {σ:Nat→Nat}{m:Nat}{vs:List (Nat×List D)}:∀{l:List (Nat×List D)},wkV σ m vs l→∀p∈l,p.1<m∧(∃pm,vs.lookup (σ p.1)=some pm∧zj pm (p.2.map (D.renC σ)))∧p.2.all (D.idsC m)=true∧p.2.all D.noO=true
 |_::_,h,_,.head _=>h.1
 |_::_,h,p,.tail _ hp=>uM h.2 p hp
theorem w8 {σ:Nat→Nat}{m:Nat}{lv:List (Nat×Nat×Nat×TypeId)}:∀{l:List (Nat×Nat×Nat×TypeId)},wkL σ m lv l→∀p∈l,p.1<m∧lv.lookup (σ p.1)=some p.2
 |_::_,h,_,.head _=>h.1
 |_::_,h,p,.tail _ hp=>w8 h.2 p hp
theorem Wk.to {vars':List (Nat×List D)}{iQ:List (Nat×Nat×Nat×TypeId)}{m:Nat}(N0:Nat)(os:List Nat)(h0:x.hp0.next=N0)(hs:(os.all fun o=>decide (N0≤o))=true)(uH:os.Nodup)(hm:m=N0+os.length)
  (ht:wkT (sg N0 os) m tm tm') (hv:wkV (sg N0 os) m hp.vars vars') (hl:wkL (sg N0 os) m hp.live iQ):Wk x tm hp tm' ⟨vars',iQ,m⟩:=by
 have hs:∀o∈os,N0≤o:=by simpa using hs
 intro a w ⟨g,hr,i4,hsz,uc,hB,hF,hM⟩
 subst h0 hm
 have fW:∀id y,(⟨vars',iQ,x.hp0.next+os.length⟩:Hp).live.lookup id=some y→hp.live.lookup (sg x.hp0.next os id)=some y:=fun id y h=>(w8 hl _ (cy h)).2
 have bG:∀i,i<x.hp0.next→sg x.hp0.next os i=i:=fun i hi=>by unfold sg;simp[hi]
 refine⟨⟨fun i=>g.μ (sg x.hp0.next os i),fun i=>g.τ (sg x.hp0.next os i),g.F⟩,⟨fun k ds hk=>?_,fun k k' ds ds' hk v3 he=>?_,fun id n e hi=>?_,fun id A9 t t' b hi Ap hb sh=>?_,hr.base,hr.fits⟩,fun t d h=>?_,hsz,uc,hB,hF,
  ⟨hM.size,hM.cell,hM.forb,qO _ _,fun k hk=>by show g.μ _=_;rw[bG k hk];exact hM.μ k hk,fun id hid n e QW=>?_,fun b hb hf=>⟨(hM.fr b hb hf).1,(hM.fr b hb hf).2.1,fun k ds hk=>by obtain⟨_,⟨_,h,_⟩,_⟩:=uM hv _ (cy hk);exact (hM.fr b hb hf).2.2.1 _ _ h,fun id t hi=>(hM.fr b hb hf).2.2.2 _ t (fW id _ hi)⟩,hM.szs⟩⟩
 ·obtain⟨h1,⟨pm,h2,u9⟩,h3,h4⟩:=uM hv _ (cy hk)
  obtain⟨_,h5,h6,cs,ty,h7,h8,h9⟩:=hr.var _ _ h2
  have h3':∀d∈ds,D.idsC (x.hp0.next+os.length) d=true:=by simpa using h3
  have h4':∀d∈ds,D.noO d=true:=by simpa using h4
  have DE:=ue u9
  refine⟨h1,h5,h6,cs,ty,h7,by rw[bW] at DE;have OD:pm.length=ds.length:=DE.symm;omega,fun j u hu=>⟨fun h=>(h9 j u hu).1 (by rw[bW] at DE;have OD:pm.length=ds.length:=DE.symm;have h12:j<ds.length:=h;omega),fun d hd=>?_⟩⟩
  obtain⟨d0,EP,hle⟩:=v8 u9 (j:=j) (d':=d.renC (sg x.hp0.next os)) (by rw[fO,hd];rfl)
  exact kt (((h9 j u hu).2 d0 EP).leC hle) (h3' d (bT hd)) (h4' d (bT hd)) rfl (fun _=>rfl) (fun _=>rfl) rfl fW
 ·obtain⟨h1,⟨_,h2,_⟩,_⟩:=uM hv _ (cy hk)
  obtain⟨uI,⟨_,u9,_⟩,_⟩:=uM hv _ (cy v3)
  exact Px hs uH h1 uI (hr.inj _ _ _ _ h2 u9 he)
 ·obtain⟨h1,h2⟩:=w8 hl _ (cy hi)
  obtain⟨_,us,h3,h4,h5⟩:=hr.tok _ n e h2
  exact⟨h1,us,h3,h4,fun b hb=>⟨(h5 b hb).1,fun k ds hk=>by
   obtain⟨_,⟨_,h6,_⟩,_⟩:=uM hv _ (cy hk)
   exact (h5 b hb).2 _ _ h6⟩⟩
 ·obtain⟨h1,h2⟩:=w8 hl _ (cy hi)
  obtain⟨uI,u9⟩:=w8 hl _ (cy Ap)
  exact Px hs uH h1 uI (hr.tinj _ _ _ _ b h2 u9 hb sh)
 ·obtain⟨⟨d0,h1,hle⟩,h2,h3⟩:=Mv ht _ (cy h)
  exact GI ((i4 t _ h1).le hle) h2 h3 rfl (fun _=>rfl) (fun _=>rfl) rfl fW
 ·obtain⟨m0,h1,h2,h3⟩:=hM.live id hid n e (by rw[←bG id hid];exact fW id _ QW)
  exact⟨m0,h1,h2,fun h=>by show g.τ _=_;rw[bG id hid];exact h3 h⟩
theorem ao(d:D):d.le d:=.inl (.inl rfl)
theorem gD {d d':D}(h:d=d'):d.le d':=h▸ao d
theorem tx(d:D):d.le d.ex:=.inr (.inl rfl)
theorem KW {z:Nat}(hz:0<z):D.le dN (.e (.sl z 0 [])):=.inl (.inr (.inr ⟨rfl,z,hz,rfl⟩))
theorem et {ds ds':List D}(h:zj ds ds'):D.le (.ag ds) (.ag ds'):=.inr (.inr ⟨ds,ds',rfl,rfl,h⟩)
theorem cK {t:Tmp}{d:D}{k:D→Prop}(h:tm.lookup t=some d)(hk:k d):rG tb tm hp (.tmp t) k:=⟨d,h,hk⟩
theorem PB {p:Tmp}{ty:TypeId}{j off:Nat}{i:TyE}{ds:List D}{d:D}{k:D→Prop}(h:tm.lookup p=some (.pt j off))(ht:tb ty=some i)(hg:i.ty.agg=false)(hv:hp.vars.lookup j=some ds)(hn:j<hp.next)(hd:ds[off]? =some d)(hk:k d):rG tb tm hp (.cell p ty) k:=by
 refine⟨_,h,⟨i,ht⟩,?_⟩
 rw[pG,ht,hv]
 simp only[hg]
 exact⟨hn,d,hd,hk⟩
theorem bN {p:Tmp}{ty:TypeId}{j off:Nat}{i:TyE}{ds es:List D}{k:D→Prop}(h:tm.lookup p=some (.pt j off))(ht:tb ty=some i)(hg:i.ty.agg=true)(hv:hp.vars.lookup j=some ds)(hn:j<hp.next)(hl:off+i.size≤ds.length)(hd:(ds.drop off).take i.size=es)(hk:k (.ag es)):rG tb tm hp (.cell p ty) k:=by
 refine⟨_,h,⟨i,ht⟩,?_⟩
 rw[pG,ht,hv]
 simp only[hg]
 exact⟨hn,hl,by rw[hd];exact hk⟩
theorem dm.own {t:Tmp}{id e z n:Nat}{xs:List E}(h:tm.lookup t=some (.own id z n xs))(hl:hp.live.lookup id=some (n,z,e)):dm tb [.tmp t] tm hp (.own e z n xs):=⟨_,h,.inr (.inl ⟨id,e,z,n,xs,rfl,hl,rfl⟩)⟩
end
theorem dG_noC {α:Type}(c:Cd α)(a:α)(σ:Nat→Nat):((c.f a).map D.e).map (D.renC σ)=(c.f a).map D.e:=by
 rw[rX];exact tK fun _ _=>rfl
theorem yG {α:Type}(c:Cd α)(a:α)(σ:Nat→Nat):(dG c a).ren σ=dG c a:=by
 show D.ag (((c.f a).map D.e).map (D.renC σ))=_
 rw[dG_noC]
theorem le_G {α:Type}{c:Cd α}{a:α}{σ:Nat→Nat}{d:D}(h:d.le (dG c a)):d.le ((dG c a).ren σ):=by rw[yG];exact h
theorem ids_G {α:Type}(c:Cd α)(a:α)(m:Nat):(dG c a).idsB m=true:=by
 show ((c.f a).map D.e).all (D.idsC m)=true
 rw[D3];exact cb.2 fun _ _=>rfl
theorem noO_G {α:Type}(c:Cd α)(a:α):(dG c a).noOs=true:=by
 show ((c.f a).map D.e).all D.noO=true
 rw[D3];exact cb.2 fun _ _=>rfl
theorem lL {α:Type}(c:Cd α)(a:α):(dG c a).pure=true:=by
 show ((c.f a).map D.e).all D.pureC=true
 rw[D3];exact cb.2 fun _ _=>rfl
theorem cH {α:Type}(c:Cd α)(a:α){z:Nat}(h:c.sz=z):((c.f a).drop 0).take z=c.f a:=by
 rw[oa,gu (by rw[c.h,h];exact aD _)]
theorem AW.condT {P:Program}{x:Cx}{Q:Exit→List (Nat×D)→Hp→Prop}{tm:List (Nat×D)}{hp:Hp}{c:Operand}{c1 c2:Code}{b:Bool}(hc:evD tm c=.e (.lit (.bool b)))(hb:b=true)(h:AW P x c1 tm hp Q):AW P x (.cond c c1 c2) tm hp Q:=
 AW.condS hc (fun _=>h) fun hf=>by rw[hb] at hf;cases hf
theorem AW.condF {P:Program}{x:Cx}{Q:Exit→List (Nat×D)→Hp→Prop}{tm:List (Nat×D)}{hp:Hp}{c:Operand}{c1 c2:Code}{b:Bool}(hc:evD tm c=.e (.lit (.bool b)))(hb:b=false)(h:AW P x c2 tm hp Q):AW P x (.cond c c1 c2) tm hp Q:=
 AW.condS hc (fun hf=>by rw[hb] at hf;cases hf) fun _=>h
theorem wk {x:Cx}{tm tm':List (Nat×D)}{hp:Hp}{vars':List (Nat×List D)}{iQ:List (Nat×Nat×Nat×TypeId)}{m:Nat}(h0:x.hp0=⟨[],[],0⟩)(os:List Nat)(ht:wkT (sg 0 os) m tm tm')(hv:wkV (sg 0 os) m hp.vars vars')(hl:wkL (sg 0 os) m hp.live iQ)(uH:os.Nodup:=by decide)(hm:m=0+os.length:=by exact rfl):Wk x tm hp tm' ⟨vars',iQ,m⟩:=
 Wk.to 0 os (by rw[h0]) (by simp) uH hm ht hv hl
theorem wkN {x:Cx}{tm tm':List (Nat×D)}{hp:Hp}{vars':List (Nat×List D)}{iQ:List (Nat×Nat×Nat×TypeId)}{m N0:Nat}(h0:x.hp0.next=N0)(os:List Nat)(ht:wkT (sg N0 os) m tm tm')(hv:wkV (sg N0 os) m hp.vars vars')(hl:wkL (sg N0 os) m hp.live iQ)(hs:(os.all fun o=>decide (N0≤o))=true:=by decide)(uH:os.Nodup:=by decide)(hm:m=N0+os.length:=by exact rfl):Wk x tm hp tm' ⟨vars',iQ,m⟩:=
 Wk.to N0 os h0 hs uH hm ht hv hl
theorem Wk.nilOwn {x:Cx}{tm:List (Nat×D)}{vs:List (Nat×List D)}{lv:List (Nat×Nat×Nat×TypeId)}{N0:Nat}(k j:Nat)(e:TypeId)(z:Nat){ds ds':List D}(hz:Nat.ble 1 z=true:=by exact rfl)(hk:vs.lookup k=some ds:=by exact rfl)(hj:ds[j]? =some dN:=by exact rfl)(hd:ds.set j (.own N0 z 0 [])=ds':=by exact rfl):Wk x tm ⟨vs,lv,N0⟩ tm ⟨(k,ds')::vs,(N0,0,z,e)::lv,N0+1⟩:=by
 subst hd
 exact Wk.nilOwn0 (hp:=⟨vs,lv,N0⟩) k j e z (leb hz) hk hj
theorem Wk.trans {x:Cx}{tm tm' tm'':List (Nat×D)}{hp hp' QC:Hp}(h:Wk x tm hp tm' hp')(h':Wk x tm' hp' tm'' QC):Wk x tm hp tm'' QC:=fun a w hr=>h' a w (h a w hr)
theorem dH {α:Type}(c:Cd α)(a:α):(D.ex (dG c a)).pure=true:=by
 have:D.ex (dG c a)=dG c a:=by
  show D.ag (((c.f a).map D.e).map D.exC)=_
  rw[rX];rfl
 rw[this];exact lL c a
section
variable {σ:Nat→Nat} {m k t:Nat} {tm l:List (Nat×D)} {d d0 d':D} {ds pm ds':List D} {vs lv:List (Nat×List D)} {ll l2:List (Nat×Nat×Nat×TypeId)} {y:Nat×Nat×TypeId}
theorem wT(h1:tm.lookup t=some d0)(h2:d0.le (d.ren σ))(h3:d.idsB m=true)(h4:d.noOs=true)(hl:wkT σ m tm l):wkT σ m tm ((t,d)::l):=⟨⟨⟨_,h1,h2⟩,h3,h4⟩,hl⟩
theorem wR(h1:tm.lookup t=some (d.ren σ))(hl:wkT σ m tm l)(h3:d.idsB m=true:=by exact rfl)(h4:d.noOs=true:=by exact rfl):wkT σ m tm ((t,d)::l):=⟨⟨⟨_,h1,ao _⟩,h3,h4⟩,hl⟩
theorem vR(h1:vs.lookup (σ k)=some (ds.map (D.renC σ)))(hl:wkV σ m vs lv)(h0:Nat.ble (k+1) m=true:=by exact rfl)(h3:ds.all (D.idsC m)=true:=by exact rfl)(h4:ds.all D.noO=true:=by exact rfl):wkV σ m vs ((k,ds)::lv):=⟨⟨ltb h0,⟨_,h1,ud _⟩,h3,h4⟩,hl⟩
theorem wG {α:Type}{c:Cd α}{a:α}(h1:tm.lookup t=some d0)(h2:d0.le (dG c a))(hl:wkT σ m tm l):wkT σ m tm ((t,dG c a)::l):=⟨⟨⟨_,h1,le_G h2⟩,ids_G _ _ _,noO_G _ _⟩,hl⟩
theorem wL(h0:Nat.ble (k+1) m=true)(h1:ll.lookup (σ k)=some y)(hl:wkL σ m ll l2):wkL σ m ll ((k,y)::l2):=⟨⟨ltb h0,h1⟩,hl⟩
theorem wc(h:d.leC d')(hl:zj ds ds'):zj (d::ds) (d'::ds'):=⟨h,hl⟩
theorem bI(d:D):d.leC d:=.inl rfl
theorem tT(d:D):d.leC d.exC:=.inr (.inl rfl)
theorem mW {z:Nat}(h:Nat.ble 1 z=true):D.leC dN (.e (.sl z 0 [])):=.inr (.inr ⟨rfl,z,leb h,rfl⟩)
theorem wTn:wkT σ m tm []:=trivial
theorem wVn:wkV σ m vs []:=trivial
theorem wLn:wkL σ m ll []:=trivial
theorem wcn:zj [] []:=trivial
theorem lAn:leL [] []:=trivial
theorem lA(h:d.le d')(hl:leL ds ds'):leL (d::ds) (d'::ds'):=⟨h,hl⟩
end
theorem rH0 {x:Cx}{tb:TypeId→Option TyE}{tm:List (Nat×D)}{hp hp':Hp}(hw:Wk x tm hp [] hp'):∃tm',Wk x tm hp tm' hp'∧yU tb [] tm' hp' (.tu []):=⟨_,hw,rfl⟩
theorem rH1 {x:Cx}{tb:TypeId→Option TyE}{tm:List (Nat×D)}{hp hp':Hp}{t:Tmp}{d:D}(hw:Wk x tm hp [(t,d)] hp'):∃tm',Wk x tm hp tm' hp'∧yU tb [.tmp t] tm' hp' d:=⟨_,hw,_,ak,rfl⟩
theorem dm.mk1 {tb:TypeId→Option TyE}{tm:List (Nat×D)}{hp:Hp}{q:ResultVar}{r:D}(h:rG tb tm hp q fun d=>(d.ex.pure=true∧r=d.ex)∨(∃id e z n xs,d=.own id z n xs∧hp.live.lookup id=some (n,z,e)∧r=.own e z n xs)∨∃d2,d.le d2∧d2.pure=true∧r=d2):dm tb [q] tm hp r:=h
theorem dm.mk2 {tb:TypeId→Option TyE}{tm:List (Nat×D)}{hp:Hp}{q q':ResultVar}{r:D}(h:rG tb tm hp q fun d=>rG tb tm hp q' fun d'=>((d.ex.pure=true∧d'.ex.pure=true)∧r=.tu [d.ex,d'.ex])∨∃e e',d.le e∧d'.le e'∧(e.pure=true∧e'.pure=true)∧r=.tu [e,e']):dm tb [q,q'] tm hp r:=h
theorem dm.mk3 {tb:TypeId→Option TyE}{tm:List (Nat×D)}{hp:Hp}{q q' KP:ResultVar}{r:D}(h:rG tb tm hp q fun d=>rG tb tm hp q' fun d'=>rG tb tm hp KP fun O6=>((d.ex.pure=true∧d'.ex.pure=true∧O6.ex.pure=true)∧r=.tu [d.ex,d'.ex,O6.ex])∨∃e e' e'',d.le e∧d'.le e'∧O6.le e''∧(e.pure=true∧e'.pure=true∧e''.pure=true)∧r=.tu [e,e',e'']):dm tb [q,q',KP] tm hp r:=h
end
section
def dg(b A j:Nat):Nat:=A / b ^ j % b
section
variable {b A B n k j p x:Nat}
theorem RC(hb:0<b):dg b A j<b:=ep _ hb
theorem mI(h:A<b ^ j):dg b A j=0:=by unfold dg;rw[gO h,Nat.zero_mod]
theorem g7:A % b ^ (k+1)=A % b ^ k+b ^ k*dg b A k:=Nat.mod_pow_succ
theorem cO:A / b ^ k=A / b ^ (k+1)*b+dg b A k:=by
 unfold dg
 rw[eZ,←mc,cC]
 exact (pW _ _).symm
theorem oI(hj:j<k):dg b (A % b ^ k) j=dg b A j:=by
 unfold dg
 obtain⟨m,rfl⟩:∃m,k=j+(m+1):=⟨k - j - 1,by omega⟩
 rw[me,Nat.mod_mul_right_div_self,eZ,Nat.mod_mul_left_mod]
theorem Nd(hb:0<b)(hj:k≤j):dg b (A % b ^ k) j=0:=
 mI (bU (ep _ (dE hb)) (nY hb hj))
theorem RD(hA:A<b ^ n)(hB:B<b ^ n)(h:∀j,j<n→dg b A j=dg b B j):A=B:=by
 have key:∀k,k≤n→A % b ^ k=B % b ^ k:=by
  intro k
  induction k with
  |zero=>intro _;simp[rV]
  |succ k ih=>intro hk;rw[g7,g7,ih (by omega),h k (by omega)]
 have:=key n (aD _)
 rwa[gW hA,gW hB] at this
def up1(b A p x:Nat):Nat:=A / b ^ (p+1)*b ^ (p+1)+x*b ^ p+A % b ^ p
theorem Ps:A=A / b ^ (p+1)*b ^ (p+1)+dg b A p*b ^ p+A % b ^ p:=by
 have h1:=pW A (b ^ (p+1))
 rw[g7] at h1
 rw[cC (dg b A p),ob,rz (b ^ p*dg b A p),cC (A / b ^ (p+1))]
 exact h1.symm
theorem KF:up1 b A p x+dg b A p*b ^ p=A+x*b ^ p:=by
 have h:=Ps (b:=b) (A:=A) (p:=p)
 unfold up1
 omega
theorem part_lt(hb:0<b)(hx:x<b):x*b ^ p+A % b ^ p<b ^ (p+1):=by
 have h1:A % b ^ p<b ^ p:=ep _ (dE hb)
 have h2:(x+1)*b ^ p≤b*b ^ p:=bJ _ hx
 rw[bZ,d8] at h2
 rw[eZ,cC (b ^ p) b]
 omega
theorem MA(hb:0<b)(hx:x<b):up1 b A p x / b ^ (p+1)=A / b ^ (p+1):=by
 unfold up1
 rw[ob,rz,LQ _ _ (dE hb),gO (part_lt hb hx),bB]
theorem Mz(hb:0<b):up1 b A p x % b ^ p=A % b ^ p:=by
 unfold up1
 have e:A / b ^ (p+1)*b ^ (p+1)+x*b ^ p+A % b ^ p=A % b ^ p+(A / b ^ (p+1)*b+x)*b ^ p:=by
  rw[eZ,bZ]
  have:A / (b ^ p*b)*(b ^ p*b)=A / (b ^ p*b)*b*b ^ p:=by rw[i1,cC b]
  omega
 rw[e,LP,F3]
theorem dg_up1(hb:0<b)(hx:x<b):dg b (up1 b A p x) j=if j=p then x else dg b A j:=by
 rcases yP j p with h|h|h
 ·rw[ifn_,←oI (A:=up1 b A p x) h,Mz hb,oI h]
 ·subst h
  rw[ar rfl]
  have h1:dg b (up1 b A j x) j*b ^ j=x*b ^ j:=by
   have e1:=Ps (b:=b) (A:=up1 b A j x) (p:=j)
   rw[MA hb hx,Mz hb] at e1
   have e2:up1 b A j x=A / b ^ (j+1)*b ^ (j+1)+x*b ^ j+A % b ^ j:=rfl
   omega
  exact Nat.eq_of_mul_eq_mul_right (dE hb) h1
 ·rw[ifn_]
  obtain⟨m,rfl⟩:∃m,j=(p+1)+m:=⟨j - p - 1,by omega⟩
  unfold dg
  rw[me,←mc,←mc,MA hb hx]
def vN(b n A:Nat):Vector Int n:=Vector.ofFn fun i=>(dg b A i.val:Int)
theorem jX {n:Nat}(h:j<n):(vN b n A)[j]! =(dg b A j:Int):=by
 rw[f7 (vN b n A) j h]
 unfold vN
 rw[Ma]
theorem pB {n:Nat}{v w:Vector Int n}(h:∀i,i<n→v[i]! =w[i]!):v=w:=by
 apply Vector.ext
 intro i hi
 have:=h i hi
 rwa[f7 v i hi,f7 w i hi] at this
theorem rh {n:Nat}{v:Vector Int n}{i j:Nat}{y:Int}(hj:j<n):(v.set! i y)[j]! =if j=i then y else v[j]! :=by
 rw[f7 (v.set! i y) j hj,f7 v j hj]
 show (v.setIfInBounds i y)[j]=_
 rw[Vector.getElem_setIfInBounds]
 by_cases h:i=j
 ·rw[ar h,ar h.symm]
 ·rw[aA h,aA fun e=>h e.symm]
theorem AC {n:Nat}(hb:0<b)(hx:x<b)(_hp:p<n):(vN b n A).set! p (x:Int)=vN b n (up1 b A p x):=by
 apply pB
 intro j hj
 rw[rh hj,jX hj,jX hj,dg_up1 hb hx]
 split <;> rfl
theorem Gx {n:Nat}(_hb:0<b):vN b n (A % b ^ n)=vN b n A:=by
 apply pB
 intro j hj
 rw[jX hj,jX hj,oI hj]
theorem vN_inj {n:Nat}(hA:A<b ^ n)(hB:B<b ^ n)(h:vN b n A=vN b n B):A=B:=by
 apply RD hA hB
 intro j hj
 have e1:=jX (b:=b) (A:=A) hj
 rw[h,jX hj] at e1
 omega
theorem tp {n:Nat}:vN b n 0=Vector.replicate n 0:=by
 apply pB
 intro j hj
 rw[jX hj,f7 _ j hj,Vector.getElem_replicate]
 unfold dg
 simp
def gQ(b:Nat)(f:Nat→Nat):Nat→Nat
 |0=>0
 |n+1=>gQ b f n+f n*b ^ n
theorem Ct(hb:0<b){f:Nat→Nat}:∀n,(∀j,j<n→f j<b)→gQ b f n<b ^ n
 |0,_=>by simp[gQ]
 |n+1,h=>by
  have ih:=Ct hb n fun j hj=>h j (by omega)
  have h1:=h n (by omega)
  have h2:(f n+1)*b ^ n≤b*b ^ n:=bJ _ h1
  rw[bZ,d8] at h2
  rw[eZ,cC (b ^ n) b]
  unfold gQ
  omega
theorem Ho(hb:0<b){f:Nat→Nat}:∀n,(∀j,j<n→f j<b)→∀j,j<n→dg b (gQ b f n) j=f j
 |0,_,j,hj=>by omega
 |n+1,h,j,hj=>by
  have h0:∀j,j<n→f j<b:=fun j hj=>h j (by omega)
  have bG:=Ct hb n h0
  by_cases Bc:j=n
  ·subst Bc
   unfold dg gQ
   rw[LQ _ _ (dE hb),gO bG,bB,gW (h j (by omega))]
  ·have e:dg b (gQ b f (n+1)) j=dg b (gQ b f n) j:=by
    rw[←oI (A:=gQ b f (n+1)) (k:=n) (by omega),show gQ b f (n+1)=gQ b f n+f n*b ^ n from rfl,LP,gW bG]
   rw[e]
   exact Ho hb n h0 j (by omega)
theorem vN_of {n:Nat}(hb:0<b)(v:Vector Int n)(h:∀j,j<n→0≤v[j]!∧v[j]! <(b:Int)):∃A,A<b ^ n∧v=vN b n A:=by
 have hf:∀j,j<n→(v[j]!).toNat<b:=fun j hj=>by have:=h j hj;omega
 refine⟨gQ b (fun j=>(v[j]!).toNat) n,Ct hb n hf,?_⟩
 apply pB
 intro j hj
 rw[jX hj,Ho hb n hf j hj]
 have:=h j hj
 omega
theorem Cu {n:Nat}(hb:0<b)(hk:k<n):(vN b n (A % b ^ k)).set! k (dg b A k:Int)=vN b n (A % b ^ (k+1)):=by
 apply pB
 intro j hj
 rw[rh hj,jX hj,jX hj]
 by_cases h:j=k
 ·subst h;rw[ar rfl,oI (cp _)]
 ·rw[aA h]
  rcases bt j k with h1|h1
  ·rw[oI h1,oI (by omega)]
  ·rw[Nd hb h1,Nd hb (by omega)]
theorem dg_hi(hb:0<b):dg b (A / b ^ k*b ^ k) j=if j<k then 0 else dg b A j:=by
 by_cases h:j<k
 ·rw[ar h]
  obtain⟨m,rfl⟩:∃m,k=m+1+j:=⟨k - j - 1,by omega⟩
  unfold dg
  rw[me b (m+1) j,←i1,L4 _ (dE hb),eZ,←i1,Nat.mul_mod_left]
 ·rw[aA h]
  obtain⟨m,rfl⟩:∃m,j=k+m:=⟨j - k,by omega⟩
  unfold dg
  rw[me,←mc,←mc,L4 _ (dE hb)]
theorem My {n:Nat}(hb:0<b)(_hk:k<n):(vN b n (A / b ^ (k+1)*b ^ (k+1))).set! k (dg b A k:Int)=vN b n (A / b ^ k*b ^ k):=by
 apply pB
 intro j hj
 rw[rh hj,jX hj,jX hj,dg_hi hb,dg_hi hb]
 by_cases h:j=k
 ·subst h;rw[ar rfl,aA (HS _)]
 ·rw[aA h]
  by_cases h1:j<k
  ·rw[ifp_,ar h1]
  ·rw[ifn_,aA h1]
end
end
section
section
variable {R S T:Type}
theorem ej(x y:Option R):cnd true x y=x:=rfl
theorem aL(x y:Option R):cnd false x y=y:=rfl
theorem CH(b c:Bool):cnd b (some c) (some false)=some (b&&c):=by cases b <;> rfl
theorem cnd_or(b c:Bool):cnd b (some true) (some c)=some (b||c):=by cases b <;> rfl
theorem RL(b:Bool)(x:Option R):cnd b x x=x:=by cases b <;> rfl
theorem RK(b:Bool)(x y:R):cnd b (some x) (some y)=some (bif b then x else y):=by cases b <;> rfl
theorem pU(x:Option R):(bnd x fun a=>some a)=x:=by cases x <;> rfl
theorem fM(p:Prop)[Decidable p](x y:Option R):cnd (decide p) x y=if p then x else y:=by
 by_cases h:p <;> simp[h,cnd]
theorem bb {p:Prop}[Decidable p](x y:Option R)(h:p:=by omega):cnd (decide p) x y=x:=by rw[d6 h];rfl
theorem a7 {p:Prop}[Decidable p](x y:Option R)(h:¬p:=by omega):cnd (decide p) x y=y:=by rw[f8 h];rfl
end
theorem subL_to {α:Type}(l:List α)(b:Int)(h:0≤b):nA l 0 b=l.take b.toNat:=by
 unfold nA;simp
theorem NM {z:Int}(h:-9223372036854775808≤z∧z≤9223372036854775807:=by omega):i64.wrap z=z:=tg h.1 h.2
end
theorem xV {S X:Type}{b:S→Option (S⊕X)}(Inv:S→Prop)(μ:S→Nat)(Post:X→Prop)(h:∀s,Inv s→(∃s',b s=some (.inl s')∧Inv s'∧μ s'<μ s)∨∃x,b s=some (.inr x)∧Post x)(s:S)(hs:Inv s):∃x,aK b s=some x∧Post x:=by
 generalize hm:μ s=m
 induction m using Nat.strongRecOn generalizing s with
 |_ m ih=>
  rcases h s hs with⟨s',h1,h2,h3⟩|⟨x,h1,h2⟩
  ·obtain⟨x,h4,h5⟩:=ih (μ s') (by omega) s' h2 rfl
   exact⟨x,(gR h1).trans h4,h5⟩
  ·exact⟨x,cU h1,h2⟩
theorem KT {S X:Type}{b:S→Option (S⊕X)}(G:Nat→S)(n:Nat)(x:X)(hr:∀i,i<n→b (G (i+1))=some (.inl (G i)))(he:b (G 0)=some (.inr x)):aK b (G n)=some x:=by
 induction n with
 |zero=>exact cU he
 |succ n ih=>exact (gR (hr n (cp _))).trans (ih fun i hi=>hr i (by omega))
theorem sL {S X:Type}{b:S→Option (S⊕X)}(G:Nat→S)(m:Nat)(x:X){s0:S}(h0:G 0=s0)(hr:∀i,i<m→b (G i)=some (.inl (G (i+1))))(he:b (G m)=some (.inr x)):aK b s0=some x:=by
 subst h0
 exact db G 0 m x (bY _) (fun i _ hi=>hr i hi) he
theorem P9 {S X:Type}{b:S→Option (S⊕X)}(G:Nat→S)(n:Nat)(x:X){s0:S}(h0:G n=s0)(hr:∀i,i<n→b (G (i+1))=some (.inl (G i)))(he:b (G 0)=some (.inr x)):aK b s0=some x:=by
 subst h0
 exact KT G n x hr he
theorem iJ {n:Nat}(h:n<18446744073709551616:=by omega):u64.wrap (n:Int)=(n:Int):=by
 rw[IntKind.wrap_u64];omega
theorem AF(n:Nat):u32.wrap (n:Int)=((n % 4294967296:Nat):Int):=by
 rw[IntKind.wrap_u32];omega
theorem AE {n:Nat}(h:n<4294967296:=by omega):u32.wrap (n:Int)=(n:Int):=by
 rw[AF,gW h]
theorem A6(k:IntKind)(n s:Nat)(h:s≤k.bits):mX k (n:Int) (s:Int)=((n / 2 ^ s:Nat):Int):=by
 unfold mX
 rw[aJ,sZ h]
 have:((2:Int) ^ s)=((2 ^ s:Nat):Int):=by rw[Int.natCast_pow];rfl
 rw[this,Int.fdiv_eq_ediv_of_nonneg _ (HY _)]
 exact (LO ..).symm
theorem Qg(n s:Nat)(h:s≤64)(hn:n*2 ^ s<18446744073709551616):yB .u64 (n:Int) (s:Int)=((n*2 ^ s:Nat):Int):=by
 unfold yB
 have e:(IntKind.u64.bits)=64:=rfl
 rw[aJ,e,sZ h]
 have:((n:Int)*(2:Int) ^ s)=((n*2 ^ s:Nat):Int):=by rw[ry,Int.natCast_pow];rfl
 rw[this,iJ hn]
theorem xP(n:Nat):mX .u64 (n:Int) (32:Int)=((n / 4294967296:Nat):Int):=A6 .u64 n 32 (by decide)
theorem Pu(n:Nat):mX .u64 (n:Int) (63:Int)=((n / 9223372036854775808:Nat):Int):=A6 .u64 n 63 (by decide)
theorem IS {n:Nat}(h:n<4294967296):yB .u64 (n:Int) (32:Int)=((n*4294967296:Nat):Int):=Qg n 32 (by decide) (by omega)
theorem ior_n {a c s:Nat}(hc:c<2 ^ s)(bG:a*2 ^ s+c<18446744073709551616):ior .u64 ((a*2 ^ s:Nat):Int) (c:Int)=((a*2 ^ s+c:Nat):Int):=by
 unfold ior
 have e:(IntKind.u64.bits)=64:=rfl
 have h1:(BitVec.ofInt 64 ((a*2 ^ s:Nat):Int)).toNat=a*2 ^ s:=by
  rw[BitVec.toNat_ofInt];omega
 have h2:(BitVec.ofInt 64 (c:Int)).toNat=c:=by
  rw[BitVec.toNat_ofInt];omega
 rw[e,BitVec.toNat_or,h1,h2]
 have h3:a*2 ^ s |||c=a*2 ^ s+c:=by
  rw[cC a]
  exact (Nat.two_pow_add_eq_or_of_lt hc a).symm
 rw[h3,iJ bG]
theorem Qh(k:IntKind)(a b:Int):ior k a b=ior k b a:=by unfold ior;rw[BitVec.or_comm]
theorem Jl {a c:Nat}(hc:c<4294967296)(ha:a<4294967296):ior .u64 ((a*4294967296:Nat):Int) (c:Int)=((a*4294967296+c:Nat):Int):=ior_n (s:=32) hc (by omega)
theorem cg {z:Int}(h:-9223372036854775808≤z∧z≤9223372036854775807:=by omega):i64.wrap z=z:=NM h
section
def rn(os:List Nat)(m N:Nat)(i:Nat):Nat:=bif decide (i<m) then os.getD i 0 else N+(i - m)
def frV(ρ:Nat→Nat)(os:List Nat)(pz vs:List (Nat×List D)):List (Nat×List D):=pz.map (fun p=>(ρ p.1,p.2.map (D.renC ρ)))++vs.filter fun p=>!os.contains p.1
def frL(ρ:Nat→Nat)(os:List Nat)(lv' lv:List (Nat×Nat×Nat×TypeId)):List (Nat×Nat×Nat×TypeId):=lv'.map (fun p=>(ρ p.1,p.2))++lv.filter fun p=>!os.contains p.1
theorem pF {α β:Type}(ρ:Nat→Nat)(F:α→β):∀{l:List (Nat×α)} {k:Nat} {y:β},(l.map fun p=>(ρ p.1,F p.2)).lookup k=some y→∃i a,ρ i=k∧l.lookup i=some a∧F a=y
 |[],_,_,h=>by simp at h
 |(j,a)::l,k,y,h=>by
  by_cases hk:k=ρ j
  ·subst hk
   have:some (F a)=some y:=by rw[←h];exact ak.symm
   exact⟨j,a,rfl,ak,d5 this⟩
  ·obtain⟨i,b,h1,h2,h3⟩:=pF ρ F (l:=l) (k:=k) (y:=y) (by rw[←h];exact (ay hk).symm)
   exact⟨i,b,h1,(ay fun e=>hk (by rw[←h1,e])).trans h2,h3⟩
theorem qD {α:Type}{l2:List (Nat×α)}{k:Nat}{y:α}:∀{l:List (Nat×α)},(l++l2).lookup k=some y→l.lookup k=some y∨l2.lookup k=some y
 |[],h=>.inr h
 |(j,a)::l,h=>by
  by_cases hk:k=j
  ·subst hk
   have:some a=some y:=by rw[←h];exact ak.symm
   exact .inl (by rw[←this];exact ak)
  ·rcases qD (l:=l) (by rw[←h];exact (ay hk).symm) with h1|h1
   ·exact .inl ((ay hk).trans h1)
   ·exact .inr h1
theorem lq {α:Type}{os:List Nat}{k:Nat}{y:α}:∀{l:List (Nat×α)},(l.filter fun p=>!os.contains p.1).lookup k=some y→k∉os∧l.lookup k=some y
 |[],h=>by simp at h
 |(j,a)::l,h=>by
  by_cases hj:j∈os
  ·rw[List.filter_cons_of_neg (by simpa using hj)] at h
   obtain⟨h1,h2⟩:=lq h
   exact⟨h1,(ay fun e=>h1 (by rw[e];exact hj)).trans h2⟩
  ·rw[List.filter_cons_of_pos (by simpa using hj)] at h
   by_cases hk:k=j
   ·subst hk
    exact⟨hj,by rw[←h,ak,ak]⟩
   ·obtain⟨h1,h2⟩:=lq (l:=l) (by rw[←h];exact (ay hk).symm)
    exact⟨h1,(ay hk).trans h2⟩
def D.okC:D→Bool
 | .ag ds=>ds.all D.pureC
 | .tu _=>false
 | .opt _ _=>false
 |_=>true
def D.okF:D→Bool
 | .ag ds=>ds.all D.okC
 | .tu ds=>ds.all D.okC
 |d=>d.okC
section
variable {hp bQ:Hp} {g g2:Gh} {w:World} {ρ:Nat→Nat}
theorem DF {d:D}{v:Value}(h:aI hp g w d v)(hn:d.okC=true)(ub:∀i,i<hp.next→ρ i<bQ.next)(hμ:∀i,i<hp.next→g2.μ (ρ i)=g.μ i)(hτ:∀i,i<hp.next→g2.τ (ρ i)=g.τ i)(hF:g2.F=g.F)
  (hl:∀id,id<hp.next→∀y,bQ.live.lookup (ρ id)=some y→hp.live.lookup id=some y):aI bQ g2 w (d.renC ρ) v:=by
 cases h with
 |e y v h=>exact .e y v (by rw[hF];exact h)
 |own id z n xs v h hid ht=>exact .own _ z n xs v (by rw[hF];exact h) (ub id hid) (fun m e hm=>by rw[hτ id hid];exact ht m e (hl id hid _ hm))
 |fu z n xs A h=>exact .fu z n xs A (by rw[hF];exact h)
 |ag ds cs hlen h1 hr=>
  refine .ag ds cs hlen h1 fun j d u h2 h3=>?_
  have h4:=hr j d u h2 h3
  have h5:=cb.1 hn d (bT h2)
  cases d with
  |e y=>cases h4 with
   |e _ _ h6=>exact .e y _ (by rw[hF];exact h6)
  |_=>cases h5
 |tu ds cs hl hr=>cases hn
 |fp xs off ad hb hc=>exact .fp xs off ad hb (by rw[hF];exact hc)
 |pt k off hk=>rw[←hμ k hk];exact .pt _ off (ub k hk)
 |ow k off z n c hk h1 h2=>rw[←hμ k hk];exact .ow _ off z n c (ub k hk) h1 h2
 |gw k z n c hk h1 h2 hs=>rw[←hμ k hk] at hs ⊢;exact .gw _ z n c (ub k hk) h1 h2 hs
 |fn f ks hk=>
  have:(ks.map fun k=>Value.pointer (some ⟨g.μ k,0,none⟩))=(ks.map ρ).map fun k=>Value.pointer (some ⟨g2.μ k,0,none⟩):=by
   rw[rX]
   exact tK fun k h=>by simp only[Function.comp,hμ k (hk k h)]
  rw[this]
  refine .fn f (ks.map ρ) fun k h=>?_
  obtain⟨i,h1,rfl⟩:=mw.1 h
  exact ub i (hk i h1)
 |opt b d v hi h=>cases hn
 |top v=>exact .top v
theorem fwdF {d:D}{v:Value}(h:aI hp g w d v)(hn:d.okF=true)(ub:∀i,i<hp.next→ρ i<bQ.next)(hμ:∀i,i<hp.next→g2.μ (ρ i)=g.μ i)(hτ:∀i,i<hp.next→g2.τ (ρ i)=g.τ i)(hF:g2.F=g.F)
  (hl:∀id,id<hp.next→∀y,bQ.live.lookup (ρ id)=some y→hp.live.lookup id=some y):aI bQ g2 w (d.ren ρ) v:=by
 cases d with
 |ag ds=>cases h with
  |ag _ cs hlen h1 hr=>
   refine .ag _ cs (by simpa using hlen) h1 fun j d u h2 h3=>?_
   rw[fO] at h2
   obtain⟨d0,h4,rfl⟩:=pY.1 h2
   exact DF (hr j d0 u h4 h3) (cb.1 hn d0 (bT h4)) ub hμ hτ hF hl
 |tu ds=>cases h with
  |tu _ cs hlen hr=>
   refine .tu _ cs (by simpa using hlen) fun j d u h2 h3=>?_
   rw[fO] at h2
   obtain⟨d0,h4,rfl⟩:=pY.1 h2
   exact DF (hr j d0 u h4 h3) (cb.1 hn d0 (bT h4)) ub hμ hτ hF hl
 |e y=>exact DF h hn ub hμ hτ hF hl
 |own id z n xs=>exact DF h hn ub hμ hτ hF hl
 |fu z n xs=>exact DF h hn ub hμ hτ hF hl
 |fp xs off=>exact DF h hn ub hμ hτ hF hl
 |pt k off=>exact DF h hn ub hμ hτ hF hl
 |ow k off z n=>exact DF h hn ub hμ hτ hF hl
 |gw k z n=>exact DF h hn ub hμ hτ hF hl
 |fn f ks=>exact DF h hn ub hμ hτ hF hl
 |opt b d=>cases hn
 |top=>exact .top v
end
theorem HR.ren {B:Nat}{hp hpS:Hp}{g:Gh}{w:World}(hr:HR B hp g w)(σ:Nat→Nat)(hinj:∀i j,i<hpS.next→j<hpS.next→σ i=σ j→i=j)
  (hv:∀k ds,hpS.vars.lookup k=some ds→k<hpS.next∧(∃pm,hp.vars.lookup (σ k)=some pm∧zj pm (ds.map (D.renC σ)))∧ds.all (D.idsC hpS.next)=true∧ds.all D.noO=true)
  (hl:∀id y,hpS.live.lookup id=some y→id<hpS.next∧hp.live.lookup (σ id)=some y):HR B hpS ⟨fun i=>g.μ (σ i),fun i=>g.τ (σ i),g.F⟩ w:=by
 have fW:∀id y,hpS.live.lookup id=some y→hp.live.lookup (σ id)=some y:=fun id y h=>(hl _ _ h).2
 refine⟨fun k ds hk=>?_,fun k k' ds ds' hk v3 he=>?_,fun id n e hi=>?_,fun id A9 t t' b hi Ap hb sh=>?_,hr.base,hr.fits⟩
 ·obtain⟨h1,⟨pm,h2,u9⟩,h3,h4⟩:=hv _ _ hk
  obtain⟨_,h5,h6,cs,ty,h7,h8,h9⟩:=hr.var _ _ h2
  have h3':∀d∈ds,D.idsC hpS.next d=true:=by simpa using h3
  have h4':∀d∈ds,D.noO d=true:=by simpa using h4
  have DE:=ue u9
  refine⟨h1,h5,h6,cs,ty,h7,by rw[bW] at DE;omega,fun j u hu=>⟨fun h=>(h9 j u hu).1 (by rw[bW] at DE;omega),fun d hd=>?_⟩⟩
  obtain⟨d0,EP,hle⟩:=v8 u9 (j:=j) (d':=d.renC σ) (by rw[fO,hd];rfl)
  exact kt (((h9 j u hu).2 d0 EP).leC hle) (h3' d (bT hd)) (h4' d (bT hd)) rfl (fun _=>rfl) (fun _=>rfl) rfl fW
 ·obtain⟨h1,⟨_,h2,_⟩,_⟩:=hv _ _ hk
  obtain⟨uI,⟨_,u9,_⟩,_⟩:=hv _ _ v3
  exact hinj _ _ h1 uI (hr.inj _ _ _ _ h2 u9 he)
 ·obtain⟨h1,h2⟩:=hl _ _ hi
  obtain⟨_,us,h3,h4,h5⟩:=hr.tok _ n e h2
  exact⟨h1,us,h3,h4,fun b hb=>⟨(h5 b hb).1,fun k ds hk=>by
   obtain⟨_,⟨_,h6,_⟩,_⟩:=hv _ _ hk
   exact (h5 b hb).2 _ _ h6⟩⟩
 ·obtain⟨h1,h2⟩:=hl _ _ hi
  obtain⟨uI,u9⟩:=hl _ _ Ap
  exact hinj _ _ h1 uI (hr.tinj _ _ _ _ b h2 u9 hb sh)
def frA(σ:Nat→Nat)(m:Nat):List D→List D→Prop
 |[],[]=>True
 |d::ds,e::es=>(d.le (e.ren σ)∧e.idsB m=true∧e.noOs=true)∧frA σ m ds es
 |_,_=>False
theorem M6 {σ:Nat→Nat}{m:Nat}:∀{ds es:List D},frA σ m ds es→ds.length=es.length
 |[],[],_=>rfl
 |_::_,_::_,h=>by simp[M6 h.2]
 |[],_::_,h=>h.elim
 |_::_,[],h=>h.elim
theorem M7 {σ:Nat→Nat}{m:Nat}:∀{ds es:List D} {j:Nat} {e:D},frA σ m ds es→es[j]? =some e→∃d,ds[j]? =some d∧d.le (e.ren σ)∧e.idsB m=true∧e.noOs=true
 |[],[],j,e,_,h=>by simp at h
 |d::ds,e'::es,0,e,h,he=>by
  simp only[LN,kZ] at he
  subst he
  exact⟨d,rfl,h.1⟩
 |d::ds,e'::es,j+1,e,h,he=>by
  simp only[LM] at he ⊢
  exact M7 h.2 he
 |[],_::_,_,_,h,_=>h.elim
 |_::_,[],_,_,h,_=>h.elim
theorem HC.frame {P:Program}{f:FuncId}{Nb ds:List D}{r:D}{Il qj vs:List (Nat×List D)}{Im vZ lv:List (Nat×Nat×Nat×TypeId)}{m n' N:Nat}(h:HC P f Nb ⟨Il,Im,m⟩ r ⟨qj,vZ,n'⟩)
  (os:List Nat) (hos:os.length=m) (uH:os.Nodup) (bG:∀o∈os,o<N) (ha:frA (fun i=>os.getD i 0) m ds Nb)
  (hv:∀k ds,Il.lookup k=some ds→k<m∧(∃pm,vs.lookup (os.getD k 0)=some pm∧zj pm (ds.map (D.renC fun i=>os.getD i 0)))∧ds.all (D.idsC m)=true∧ds.all D.noO=true)
  (hl:∀id y,Im.lookup id=some y→id<m∧lv.lookup (os.getD id 0)=some y)
  (hr:r.okF=true) (hvo:∀p∈qj,p.2.all D.okC=true):
  HC P f ds ⟨vs,lv,N⟩ (r.ren (rn os m N)) ⟨frV (rn os m N) os qj vs,frL (rn os m N) os vZ lv,N+(n' - m)⟩:=by
 subst hos
 refine⟨h.1,fun B g w us hR hsz dy=>?_⟩
 have Fb:∀i,i<os.length→os.getD i 0∈os:=fun i hi=>by
  rw[HH,i8 hi];exact B0 hi
 have hinj:∀i j,i<os.length→j<os.length→os.getD i 0=os.getD j 0→i=j:=fun i j hi hj he=>by
  rw[HH,HH,i8 hi,i8 hj] at he
  have hp:=LT.1 uH
  simp only[vk] at he
  rcases yP i j with h3|h3|h3
  ·exact absurd he (hp _ _ hi hj h3)
  ·exact h3
  ·exact absurd he.symm (hp _ _ hj hi h3)
 have hS:=HR.ren (hpS:=⟨Il,Im,os.length⟩) hR (fun i=>os.getD i 0) (fun i j hi hj he=>hinj i j hi hj he) hv hl
 have fW:∀id y,(⟨Il,Im,os.length⟩:Hp).live.lookup id=some y→(⟨vs,lv,N⟩:Hp).live.lookup (os.getD id 0)=some y:=fun id y h=>(hl _ _ h).2
 refine (h.2 B _ w us hS (by rw[hsz,M6 ha]) (fun j e u he hu=>?_)).mono ?_
 ·obtain⟨d,h1,h2,h3,h4⟩:=M7 ha he
  exact GI ((dy j d u h1 hu).le h2) h3 h4 rfl (fun _=>rfl) (fun _=>rfl) rfl fW
 rintro en w' ⟨v,g',rfl,JD,hM,nE,hB,hF⟩
 -- GA caller's ghosts
 let ρ:=rn os os.length N
 have E6:∀i,i<os.length→ρ i=os.getD i 0:=fun i hi=>by show rn os os.length N i=_;unfold rn;simp[hi]
 have GU:∀i,os.length≤i→ρ i=N+(i - os.length):=fun i hi=>by show rn os os.length N i=_;unfold rn;rw[def_];rfl
 have hoN:∀i,i<os.length→os.getD i 0<N:=fun i hi=>bG _ (Fb i hi)
 have hmn:os.length≤n':=hM.next
 have hρn:∀i,i<n'→ρ i<N+(n' - os.length):=fun i hi=>by
  by_cases h1:i<os.length
  ·rw[E6 i h1];have:=hoN i h1;omega
  ·rw[GU i (by omega)];omega
 have hρinj:∀i j,i<n'→j<n'→ρ i=ρ j→i=j:=fun i j hi hj he=>by
  by_cases h1:i<os.length <;> by_cases h2:j<os.length
  ·rw[E6 i h1,E6 j h2] at he;exact hinj i j h1 h2 he
  ·rw[E6 i h1,GU j (by omega)] at he;have:=hoN i h1;omega
  ·rw[E6 j h2,GU i (by omega)] at he;have:=hoN j h2;omega
  ·rw[GU i (by omega),GU j (by omega)] at he;omega
 let g2:Gh:=⟨fun j=>if j<N then g.μ j else g'.μ (os.length+(j - N)),fun j=>if j<N then (if j∈os then g'.τ (os.idxOf j) else g.τ j) else g'.τ (os.length+(j - N)),g'.F⟩
 let bQ:Hp:=⟨frV ρ os qj vs,frL ρ os vZ lv,N+(n' - os.length)⟩
 have hμ2:∀j,j<N→g2.μ j=g.μ j:=fun j hj=>ar hj
 have hτ2:∀j,j<N→j∉os→g2.τ j=g.τ j:=fun j hj ho=>by
  show (if j<N then _ else _)=_
  rw[ar hj,aA ho]
 have hμρ:∀i,i<n'→g2.μ (ρ i)=g'.μ i:=fun i hi=>by
  by_cases h1:i<os.length
  ·rw[E6 i h1,hμ2 _ (hoN i h1)];exact (hM.μ i h1).symm
  ·rw[GU i (by omega)]
   show (if _ then _ else _)=_
   rw[ifn_,show os.length+(N+(i - os.length) - N)=i by omega]
 have hτρ:∀i,i<n'→g2.τ (ρ i)=g'.τ i:=fun i hi=>by
  by_cases h1:i<os.length
  ·rw[E6 i h1]
   show (if _ then (if _ then _ else _) else _)=_
   rw[ar (hoN i h1),ar (Fb i h1)]
   have:os.idxOf (os.getD i 0)=i:=by
    have h2:os.idxOf (os.getD i 0)<os.length:=List.idxOf_lt_length_of_mem (Fb i h1)
    refine hinj _ _ h2 h1 ?_
    rw[HH (i:=os.idxOf _),i8 h2]
    exact List.getElem_idxOf h2
   rw[this]
  ·rw[GU i (by omega)]
   show (if _ then _ else _)=_
   rw[ifn_,show os.length+(N+(i - os.length) - N)=i by omega]
 have FH:∀k ds,bQ.vars.lookup k=some ds→(∃i pm,ρ i=k∧i<n'∧qj.lookup i=some pm∧pm.map (D.renC ρ)=ds)∨(k∉os∧k<N∧vs.lookup k=some ds):=fun k ds hk=>by
  rcases qD hk with h1|h1
  ·obtain⟨i,a,h2,h3,h4⟩:=pF ρ (fun a:List D=>a.map (D.renC ρ)) h1
   exact .inl ⟨i,a,h2,(JD.var i a h3).1,h3,h4⟩
  ·obtain⟨h2,h3⟩:=lq h1
   exact .inr ⟨h2,(hR.var k ds h3).1,h3⟩
 have FI:∀k y,bQ.live.lookup k=some y→(∃i,ρ i=k∧i<n'∧vZ.lookup i=some y)∨(k∉os∧k<N∧lv.lookup k=some y):=fun k y hk=>by
  rcases qD hk with h1|h1
  ·obtain⟨i,a,h2,h3,h4⟩:=pF ρ (fun a:Nat×Nat×TypeId=>a) h1
   subst h4
   exact .inl ⟨i,h2,(JD.tok i a.1 a.2 h3).1,h3⟩
  ·obtain⟨h2,h3⟩:=lq h1
   exact .inr ⟨h2,(hR.tok k y.1 y.2 h3).1,h3⟩
 have hlρ:∀id,id<n'→∀y,bQ.live.lookup (ρ id)=some y→vZ.lookup id=some y:=fun id hid y hy=>by
  rcases FI _ _ hy with⟨i,h1,h2,h3⟩|⟨h1,h2,_⟩
  ·rw[←hρinj i id h2 hid h1];exact h3
  ·exfalso
   by_cases h4:id<os.length
   ·rw[E6 id h4] at h1;exact h1 (Fb id h4)
   ·rw[GU id (by omega)] at h2;omega
 -- blocks of what was not in hand are free for GA callee
 have M4:∀k ds,k∉os→vs.lookup k=some ds→g.μ k<w.heap.size∧Ih ⟨Il,Im,os.length⟩ ⟨fun i=>g.μ (os.getD i 0),fun i=>g.τ (os.getD i 0),g.F⟩ (g.μ k):=fun k ds ho hk=>by
  refine⟨hR.var_lt (k:=k) (ds:=ds) hk,fun i di hi=>?_,fun i t hi=>?_⟩
  ·obtain⟨h1,⟨_,h2,_⟩,_⟩:=hv i di hi
   exact fun e=>ho (by rw[←hR.inj _ _ _ _ h2 hk e];exact Fb i h1)
  ·obtain⟨h1,h2⟩:=hl i t hi
   obtain⟨_,_,_,_,h3⟩:=hR.tok _ t.1 t.2 h2
   exact fun e=>(h3 _ e).2 k ds hk rfl
 have M5:∀k t b,k∉os→lv.lookup k=some t→(g.τ k).ownBlock=some b→b<w.heap.size∧Ih ⟨Il,Im,os.length⟩ ⟨fun i=>g.μ (os.getD i 0),fun i=>g.τ (os.getD i 0),g.F⟩ b:=fun k t b ho hk hb=>by
  obtain⟨_,_,_,h1,h2⟩:=hR.tok k t.1 t.2 hk
  refine⟨(h1.lt b hb).2,fun i di hi=>?_,fun i t' hi=>?_⟩
  ·obtain⟨h1,⟨_,h3,_⟩,_⟩:=hv i di hi
   exact (h2 b hb).2 _ _ h3
  ·obtain⟨h1,h3⟩:=hl i t' hi
   exact fun e=>ho (by rw[←hR.tinj _ _ _ _ b h3 hk e hb];exact Fb i h1)
 have mo:bC ⟨vs,lv,N⟩ g w bQ g2 w':=by
  refine⟨hM.size,hM.cell,hM.forb,qO _ _,fun k hk=>hμ2 k hk,fun id hid n e hy=>?_,fun b hb hf=>?_,hM.szs⟩
  ·rcases FI _ _ hy with⟨i,h1,h2,h3⟩|⟨h1,h2,h3⟩
   ·by_cases h4:i<os.length
    ·obtain⟨m0,h5,h6,h7⟩:=hM.live i h4 n e h3
     refine⟨m0,?_,h6,fun h=>?_⟩
     ·rw[←h1,E6 i h4];exact fW i _ h5
     ·rw[←h1,hτρ i h2,h7 h,E6 i h4]
    ·rw[←h1,GU i (by omega)] at hid
     have hid:N+(i - os.length)<N:=hid
     omega
   ·exact⟨n,h3,aD _,fun _=>hτ2 id h2 h1⟩
  ·obtain⟨h1,h2,h3⟩:=hM.fr b hb ⟨fun k ds hk=>by
    obtain⟨_,⟨_,h5,_⟩,_⟩:=hv k ds hk
    exact hf.1 _ _ h5,fun id t hi=>hf.2 _ _ (fW id t hi)⟩
   refine⟨h1,h2,fun k ds hk=>?_,fun id t hi=>?_⟩
   ·rcases FH _ _ hk with⟨i,_,rfl,h5,h6,_⟩|⟨_,h5,h6⟩
    ·rw[hμρ i h5];exact h3.1 _ _ h6
    ·rw[hμ2 k h5];exact hf.1 _ _ h6
   ·rcases FI _ _ hi with⟨i,rfl,h5,h6⟩|⟨h4,h5,h6⟩
    ·rw[hτρ i h5];exact h3.2 _ _ h6
    ·rw[hτ2 id h5 h4];exact hf.2 _ _ h6
 have fw:∀{d:D} {u:Value},d.okC=true→aI ⟨qj,vZ,n'⟩ g' w' d u→aI bQ g2 w' (d.renC ρ) u:=fun hd h=>DF h hd hρn hμρ hτρ rfl hlρ
 refine⟨v,g2,rfl,⟨fun k ds hk=>?_,fun k k' ds ds' hk v3 he=>?_,fun id n e hi=>?_,fun id A9 t t' b hi Ap hb sh=>?_,JD.base,JD.fits⟩,mo,fwdF nE hr hρn hμρ hτρ rfl hlρ,hB,hF⟩
 ·rcases FH _ _ hk with⟨i,pm,rfl,h1,h2,rfl⟩|⟨h1,h2,h3⟩
  ·obtain⟨_,h4,h5,cs,ty,h6,h7,h8⟩:=JD.var i pm h2
   rw[hμρ i h1]
   refine⟨hρn i h1,h4,h5,cs,ty,h6,by simpa using h7,fun j u hu=>⟨fun h=>(h8 j u hu).1 (by simpa using h),fun d hd=>?_⟩⟩
   rw[fO] at hd
   obtain⟨d0,EP,rfl⟩:=pY.1 hd
   exact fw (cb.1 (hvo _ (cy h2)) d0 (bT EP)) ((h8 j u hu).2 d0 EP)
  ·obtain⟨h4,h5⟩:=M4 k ds h1 h3
   obtain⟨h6,h7,_⟩:=hM.fr _ h4 h5
   obtain⟨_,h8,h9,cs,ty,DE,OD,h12⟩:=hR.var k ds h3
   rw[hμ2 k h2]
   exact⟨bU h2 (qO _ _),h8,fun p hp=>h7 p hp (h9 p hp),cs,ty,h6.trans DE,OD,fun j u hu=>⟨(h12 j u hu).1,fun d hd=>((h12 j u hu).2 d hd).mono mo⟩⟩
 ·rcases FH _ _ hk with⟨i,pm,rfl,h1,h2,_⟩|⟨h1,h2,h3⟩ <;> rcases FH _ _ v3 with⟨i',ds0',rfl,uI,u9,_⟩|⟨uI,u9,h3'⟩
  ·rw[hμρ i h1,hμρ i' uI] at he
   rw[JD.inj _ _ _ _ h2 u9 he]
  ·rw[hμρ i h1,hμ2 _ u9] at he
   obtain⟨h4,h5⟩:=M4 _ _ uI h3'
   exact absurd he ((hM.fr _ h4 h5).2.2.1 _ _ h2)
  ·rw[hμρ i' uI,hμ2 _ h2] at he
   obtain⟨h4,h5⟩:=M4 _ _ h1 h3
   exact absurd he.symm ((hM.fr _ h4 h5).2.2.1 _ _ u9)
  ·rw[hμ2 _ h2,hμ2 _ u9] at he
   exact hR.inj _ _ _ _ h3 h3' he
 ·rcases FI _ _ hi with⟨i,rfl,h1,h2⟩|⟨h1,h2,h3⟩
  ·obtain⟨_,v7,h4,h5,h6⟩:=JD.tok i n e h2
   rw[hτρ i h1]
   refine⟨hρn i h1,v7,h4,h5,fun b hb=>⟨(h6 b hb).1,fun k ds hk=>?_⟩⟩
   rcases FH _ _ hk with⟨i',_,rfl,h7,h8,_⟩|⟨h7,h8,h9⟩
   ·rw[hμρ i' h7];exact (h6 b hb).2 _ _ h8
   ·rw[hμ2 k h8]
    obtain⟨DE,OD⟩:=M4 _ _ h7 h9
    intro e
    exact (hM.fr _ DE OD).2.2.2 _ _ h2 (by rw[e];exact hb)
  ·obtain⟨_,v7,h4,h5,h6⟩:=hR.tok id n e h3
   rw[hτ2 id h2 h1]
   refine⟨bU h2 (qO _ _),v7,h4,⟨h5.1,?_⟩,fun b hb=>?_⟩
   ·rcases h5.2 with h0|⟨b,cap,cur,xh,hB',hh,r⟩
    ·exact .inl h0
    ·obtain⟨DE,OD⟩:=M5 id _ b h1 h3 (by rw[xh];rfl)
     exact .inr ⟨b,cap,cur,xh,hB',(hM.fr _ DE OD).1.trans hh,r⟩
   ·obtain⟨DE,OD⟩:=M5 id _ b h1 h3 hb
    obtain⟨h12,h13,h14⟩:=hM.fr _ DE OD
    refine⟨fun p h7 h8=>h13 p h7 ((h6 b hb).1 p h7 h8),fun k ds hk=>?_⟩
    rcases FH _ _ hk with⟨i',_,rfl,h7,h8,_⟩|⟨h7,h8,h9⟩
    ·rw[hμρ i' h7];exact h14.1 _ _ h8
    ·rw[hμ2 k h8];exact (h6 b hb).2 _ _ h9
 ·rcases FI _ _ hi with⟨i,rfl,h1,h2⟩|⟨h1,h2,h3⟩ <;> rcases FI _ _ Ap with⟨i',rfl,uI,u9⟩|⟨uI,u9,h3'⟩
  ·rw[hτρ i h1] at hb
   rw[hτρ i' uI] at sh
   rw[JD.tinj _ _ _ _ b h2 u9 hb sh]
  ·rw[hτρ i h1] at hb
   rw[hτ2 _ u9 uI] at sh
   obtain⟨DE,OD⟩:=M5 _ _ b uI h3' sh
   exact absurd hb ((hM.fr _ DE OD).2.2.2 _ _ h2)
  ·rw[hτρ i' uI] at sh
   rw[hτ2 _ h2 h1] at hb
   obtain⟨DE,OD⟩:=M5 _ _ b h1 h3 hb
   exact absurd sh ((hM.fr _ DE OD).2.2.2 _ _ u9)
  ·rw[hτ2 _ h2 h1] at hb
   rw[hτ2 _ u9 uI] at sh
   exact hR.tinj _ _ _ _ b h3 h3' hb sh
end
section
section
variable {P:Program} {tb:TypeId→Option TyE} {dr:Bool} {ty:TypeId} {ev:Operand→D} {σ:Nat→Nat} {d e:D} {ds es:List D}
theorem fA {m:Nat}(h:d.le (e.ren σ))(hr:frA σ m ds es)(h3:e.idsB m=true:=by exact rfl)(h4:e.noOs=true:=by exact rfl):frA σ m (d::ds) (e::es):=⟨⟨h,h3,h4⟩,hr⟩
theorem fAG {α:Type}{c:Cd α}{a:α}{m:Nat}(h:d.le (dG c a))(hr:frA σ m ds es):frA σ m (d::ds) (dG c a::es):=⟨⟨le_G h,ids_G _ _ _,noO_G _ _⟩,hr⟩
theorem fAn {m:Nat}:frA σ m [] []:=trivial
theorem HC.fr {f:FuncId}{Nb:List D}{r r':D}{Il qj vs v6:List (Nat×List D)}{Im vZ lv EN:List (Nat×Nat×Nat×TypeId)}{m n' N N2:Nat}(os:List Nat)(hc:HC P f Nb ⟨Il,Im,m⟩ r ⟨qj,vZ,n'⟩)
  (ha:frA (fun i=>os.getD i 0) m ds Nb) (hv:wkV (fun i=>os.getD i 0) m vs Il) (hl:wkL (fun i=>os.getD i 0) m lv Im) (hos:os.length=m) (uH:os.Nodup) (bG:(os.all fun o=>Nat.ble (o+1) N)=true)
  (hr:r.okF=true) (hvo:(qj.all fun p=>p.2.all D.okC)=true) (rD:r.ren (rn os m N)=r') (xg:frV (rn os m N) os qj vs=v6) (QV:frL (rn os m N) os vZ lv=EN) (hN:N+(n' - m)=N2):
  HC P f ds ⟨vs,lv,N⟩ r' ⟨v6,EN,N2⟩:=by
 subst rD xg QV hN
 exact HC.frame hc os hos uH (fun o ho=>ltb (cb.1 bG o ho)) ha (fun k ds hk=>uM hv _ (cy hk)) (fun id y hy=>w8 hl _ (cy hy)) hr (fun p hp=>cb.1 hvo p hp)
theorem H8 {x:Operand}{f:FuncId}{aS:List Operand}{ts:Array TypeId}{Nb:List D}{r r':D}{Il qj vs v6:List (Nat×List D)}{Im vZ lv EN:List (Nat×Nat×Nat×TypeId)}{m n' N N2:Nat}(os:List Nat)
  (v4:ev x=.e (.lit (.func (.func f) #[] #[]))) (hc:HC P f Nb ⟨Il,Im,m⟩ r ⟨qj,vZ,n'⟩) (ha:frA (fun i=>os.getD i 0) m (aS.map ev) Nb) (hv:wkV (fun i=>os.getD i 0) m vs Il) (hl:wkL (fun i=>os.getD i 0) m lv Im)
  (hos:os.length=m:=by exact rfl) (uH:os.Nodup:=by decide) (bG:(os.all fun o=>Nat.ble (o+1) N)=true:=by exact rfl) (hr:r.okF=true:=by exact rfl) (hvo:(qj.all fun p=>p.2.all D.okC)=true:=by exact rfl)
  (rD:r.ren (rn os m N)=r':=by exact rfl) (xg:frV (rn os m N) os qj vs=v6:=by exact rfl) (QV:frL (rn os m N) os vZ lv=EN:=by exact rfl) (hN:N+(n' - m)=N2:=by exact rfl)
  (hh:hvB tb ⟨.value x,aS.toArray,ts⟩=true:=by kernel_rfl):AVC P tb dr (.call ⟨.value x,aS.toArray,ts⟩) ty ev ⟨vs,lv,N⟩ (Kq r' ⟨v6,EN,N2⟩):=
 Nw v4 (HC.fr os hc ha hv hl hos uH bG hr hvo rD xg QV hN) rfl hh
end
end
end
end Go.Proofs.YtgfcnncojhkcoaaGreat
