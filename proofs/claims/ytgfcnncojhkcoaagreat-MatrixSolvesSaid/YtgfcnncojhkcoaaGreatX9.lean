/-
  Lemmas, part 9. Conditions: none.
-/
import Derived.Test.YtgfcnncojhkcoaaGreatX8
import Derived.Test.YtgfcnncojhkcoaaGreatRows
set_option linter.all false
set_option maxRecDepth 100000
set_option maxHeartbeats 4000000
namespace Go.Proofs.YtgfcnncojhkcoaaGreat
open Go.RowKit Go.IntKind Tryz Go.Proofs.Tryz
noncomputable section
section
open Go.ChangeShapes Go.WideShapes Go.ChangeAt Go.RowKit Go.Deep
def wtFs(tb:TypeId→Option TyE)(f:TypeId→List E→Prop):List (Nat×TypeId)→List E→Prop
 |[],xs=>xs=[]
 |(_,t)::fs,xs=>∃j,tb t=some j∧j.size≤xs.length∧f t (xs.take j.size)∧wtFs tb f fs (xs.drop j.size)
def wtE(tb:TypeId→Option TyE):Nat→TypeId→List E→Prop
 |0,_,_=>False
 |k+1,t,xs=>∃i,tb t=some i∧xs.length=i.size∧match i.ty with
  | .int kd=>∃n,xs=[.lit (.int kd n)]∧(Lit.int kd n).wf=true
  | .bool=>∃b,xs=[.lit (.bool b)]
  | .str=>∃s:ByteArray,xs=[.lit (.string s)]∧s.size≤maxLen
  | .slice e=>∃j n ys,tb e=some j∧xs=[.sl j.size n ys]∧ys.length=n*j.size∧n≤maxLen∧∀i,i<n→wtE tb k e ((ys.drop (i*j.size)).take j.size)
  | .struct fs=>wtFs tb (wtE tb k) fs xs
  | .arr n e=>∃j,tb e=some j∧xs.length=n*j.size∧∀i,i<n→wtE tb k e ((xs.drop (i*j.size)).take j.size)
  |_=>False
def BM(tb:TypeId→Option TyE)(f:TypeId→Bool):List (Nat×TypeId)→Nat→Nat→Bool
 |[],off,n=>off == n
 |(o,t)::fs,off,n=>o == off&&f t&&match tb t with
  |some j=>BM tb f fs (off+j.size) n
  |none=>false
def Fs(tb:TypeId→Option TyE):Nat→TypeId→Bool
 |0,_=>false
 |k+1,t=>match tb t with
  |some i=>match i.ty with
   | .int _| .bool| .str=>i.size == 1
   | .slice e=>i.size == 1&&Fs tb k e&&match tb e with
    |some j=>decide (0<j.size)
    |none=>false
   | .struct fs=>BM tb (Fs tb k) fs 0 i.size
   | .arr n e=>Fs tb k e&&match tb e with
    |some j=>i.size == n*j.size
    |none=>false
   |_=>false
  |none=>false
section
variable {H:Type} {enc:TypeId×Value→H} {P:Program} {tb:TypeId→Option TyE} {W:World} {sp:Nat→Bool} {hd:Bool} {base:Nat}
theorem TOk.cells(tok:TOk P tb){t:TypeId}{i:TyE}(h:tb t=some i):P.cellsOf t=i.size:=by
 obtain⟨f,z,h1,h2,_⟩:=tok.inf h
 unfold Program.cellsOf
 rw[h1]
 exact h2
def F0:Addr→Prop:=fun _=>False
theorem Aa {z:Nat}{us:List Value}{Good:List E→Prop}:∀(n:Nat),us.length=n*z→(∀i,i<n→∃xs,Pw (dE W F0) xs ((us.drop (i*z)).take z)∧Good xs)→
  ∃ys,Pw (dE W F0) ys us∧ys.length=n*z∧∀i,i<n→Good ((ys.drop (i*z)).take z)
 |0,hl,_=>⟨[],by rw[gb] at hl;rw[kL hl];exact Pw.nil,by simp,fun i h=>absurd h (vk _)⟩
 |n+1,hl,h=>by
  rw[qu] at hl
  have cg:(us.take (n*z)).length=n*z:=by rw[ff];omega
  obtain⟨ys,h1,h2,h3⟩:=Aa (us:=us.take (n*z)) n cg fun i hi=>by
   obtain⟨xs,g1,g2⟩:=h i (by omega)
   have hm:i*z+z≤n*z:=by rw[←qu];exact c6 _ hi
   refine⟨xs,?_,g2⟩
   rw[CL,Ag,rH (by omega)]
   exact g1
  obtain⟨xs,g1,g2⟩:=h n (by omega)
  have hx:xs.length=z:=by rw[g1.1,ff,gY];omega
  refine⟨ys++xs,?_,by rw[fg,h2,hx,qu],fun i hi=>?_⟩
  ·have e:us=us.take (n*z)++(us.drop (n*z)).take z:=by
    rw[kO (l:=us.drop (n*z)) (by rw[gY];omega),rI]
   rw[e]
   exact h1.append g1
  ·rcases cc i n with JL|JL
   ·have hm:i*z+z≤n*z:=by rw[←qu];exact c6 _ JL
    rw[Kd (by omega),AP (by rw[gY];omega)]
    exact h3 i JL
   ·obtain rfl:i=n:=by omega
    rw[Kp,h2,Nat.sub_self,CV (by omega)]
    simp only[nZ,pB]
    rw[kO (by omega)]
    exact g2
theorem wb(tok:TOk P tb):∀(k:Nat) (fuel:Nat) (t:TypeId) (cs:List Value) (x:DataW H×List MemPlace),Fs tb k t=true→DataW.trod enc P W base sp hd fuel t cs=some x→∃xs,Pw (dE W F0) xs cs∧wtE tb k t xs
 |0,_,_,_,_,h,_=>by cases h
 |k+1,fuel,t,cs,x,hok,h=>by
  unfold Fs at hok
  cases ht:tb t with
  |none=>rw[ht] at hok;cases hok
  |some i=>
   rw[ht] at hok
   dsimp only at hok
   cases jH:i.ty with
   |int kd=>
    rw[jH] at hok
    have hz:i.size=1:=by simpa using hok
    obtain⟨n,rfl,_,hw⟩:=DataW.trod_int (tok.int ht jH) h
    exact⟨[.lit (.int kd n)],Pw.cons (.lit _ rfl) Pw.nil,i,ht,by rw[hz];rfl,by rw[jH];exact⟨n,rfl,hw⟩⟩
   |bool=>
    rw[jH] at hok
    have hz:i.size=1:=by simpa using hok
    obtain⟨dd,M6,H7⟩:=tok.und ht
    rw[jH] at H7
    have hb:P.underlying t=some .bool:=by cases dd <;> simp[Ty.of] at H7;exact M6
    obtain⟨b,rfl,_⟩:=DataW.trod_bool hb h
    exact⟨[.lit (.bool b)],Pw.cons (.lit _ rfl) Pw.nil,i,ht,by rw[hz];rfl,by rw[jH];exact⟨b,rfl⟩⟩
   |str=>
    rw[jH] at hok
    have hz:i.size=1:=by simpa using hok
    obtain⟨s,rfl,_,hs⟩:=DataW.trod_string (tok.str ht jH) h
    exact⟨[.lit (.string s)],Pw.cons (.lit _ rfl) Pw.nil,i,ht,by rw[hz];rfl,by rw[jH];exact⟨s,rfl,hs⟩⟩
   |slice e=>
    rw[jH] at hok
    dsimp only at hok
    cases he:tb e with
    |none=>rw[he] at hok;simp at hok
    |some j=>
     rw[he] at hok
     simp only[cr,beq_iff_eq,oX] at hok
     obtain⟨⟨hz,hoe⟩,FJ⟩:=hok
     have hce:=tok.cells he
     rcases open_slice (tok.slice ht jH) h with⟨rfl,_⟩|⟨a,len,cap,m,n,D,Pl,rfl,hb,hlc,oh,hm,_,hi⟩
     ·exact⟨[.sl j.size 0 []],Pw.cons (.sl _ 0 [] none 0 (fun _=>undef) (by simp) FJ (bI _) (fH _) (fun h=>absurd h (Gr _)) (fun _ h=>by cases h) (fun _ _ h=>by simp at h)) Pw.nil,
       i,ht,by rw[hz];rfl,by rw[jH];exact⟨j,0,[],he,rfl,by simp,fH _,fun i h=>absurd h (vk _)⟩⟩
     ·have hle:len≤m:=by rw[hm];split <;> omega
      rw[hce] at hi
      let us:List Value:=(List.range (len*j.size)).map fun q=>(W.cell? (a.add q)).getD undef
      have Ld:us.length=len*j.size:=by simp[us]
      have hu:∀q,q<len*j.size→us[q]? =some ((W.cell? (a.add q)).getD undef):=fun q hq=>by simp[us,hq]
      have O8:∀i,i<len→∃t4,W.cells? base (a.add (i*j.size)) j.size=some t4∧t4=(us.drop (i*j.size)).take j.size:=by
       intro i Mw
       obtain⟨t4,hc,_⟩:=hi i (by omega)
       obtain⟨_,Ci,DE⟩:=World.cells?_some hc
       refine⟨t4,hc,xD fun q=>?_⟩
       have hm2:i*j.size+j.size≤len*j.size:=by rw[←qu];exact c6 _ Mw
       rw[eY,mN]
       split
       ·rename_i hq
        have h1:=DE q hq
        rw[pV] at h1
        rw[hu _ (by omega),h1]
        rw[fI (by omega)];rfl
       ·rename_i hq
        rw[fV (by omega)]
      obtain⟨ys,Lb,B6,hy3⟩:=Aa (W:=W) (us:=us) (z:=j.size) (Good:=wtE tb k e) len Ld fun i Mw=>by
       obtain⟨t4,hc,hcs'⟩:=O8 i Mw
       obtain⟨cs2,pg,htr⟩:=hi i (by omega)
       rw[hc] at pg
       injection pg with pg
       subst pg
       rw[←hcs']
       exact wb tok k _ e t4 _ hoe htr
      have AJ:∀q v,us[q]? =some v→W.cell? (a.add q)=some v:=by
       intro q v hv
       have hq:q<len*j.size:=by
        rcases cc q us.length with h|h
        ·omega
        ·rw[fV h] at hv;cases hv
       -- the cell lies in a chunk
       have hqd:q / j.size<len:=C6 (by rw[cY];exact hq)
       obtain⟨t4,hc,hcs'⟩:=O8 (q / j.size) hqd
       obtain⟨_,Ci,DE⟩:=World.cells?_some hc
       have h1:=DE (q % j.size) (ey _ FJ)
       rw[pV,cY,oV] at h1
       rw[hu q hq] at hv
       injection hv with hv
       rw[h1] at hv
       rw[h1,fI (by have:=ey q FJ;omega)] at*
       simp only[ua] at hv
       rw[hv]
      refine⟨[.sl j.size len ys],Pw.cons (.sl _ len ys (some a) cap (fun q=>us.getD q undef) B6 FJ hlc oh (fun hpl=>⟨a,rfl,?_⟩) (fun ad MC q y hq=>?_) (fun q y hq=>?_)) Pw.nil,i,ht,by rw[hz];rfl,by rw[jH];exact⟨j,len,ys,he,rfl,B6,da hlc oh,hy3⟩⟩
      ·have h0:0<len*j.size:=sr hpl FJ
       have:=World.block_lt_of_cell? W _ (AJ 0 _ (hu 0 h0))
       rwa[ie] at this
      ·injection MC with MC
       subst MC
       obtain⟨v,hv,_⟩:=Lb.get hq
       refine⟨?_,fun hf=>hf⟩
       rw[AJ q v hv,List.getD,hv];rfl
      ·obtain⟨v,hv,hr⟩:=Lb.get hq
       rw[List.getD,hv]
       exact hr
   |other=>rw[jH] at hok;cases hok
   |struct fs=>
    rw[jH] at hok
    dsimp only at hok
    obtain⟨fields,hf,GY⟩:=tok.struct ht jH
    obtain⟨xs,n,_,_,Ci,zb,ml⟩:=DataW.trod_struct hf h
    rw[tok.cells ht] at Ci
    have key:∀(l:List Field) (off:Nat),(∀f∈l,∃x,DataW.trod enc P W base sp hd n f.type ((cs.drop f.offset).take (P.cellsOf f.type))=some x)→off≤cs.length→BM tb (Fs tb k) (l.map fun f=>(f.offset,f.type)) off i.size=true→
      ∃ys,Pw (dE W F0) ys (cs.drop off)∧wtFs tb (wtE tb k) (l.map fun f=>(f.offset,f.type)) ys:=by
     intro l
     induction l with
     |nil=>
      intro off _ ho wV
      have:off=i.size:=by simpa[BM] using wV
      exact⟨[],by rw[CV (by omega)];exact Pw.nil,rfl⟩
     |cons f l ih=>
      intro off hl ho wV
      simp only[bN,BM,cr,beq_iff_eq] at wV
      obtain⟨⟨hof,zX⟩,wV⟩:=wV
      cases hj:tb f.type with
      |none=>rw[hj] at wV;cases wV
      |some j=>
       rw[hj] at wV
       dsimp only at wV
       obtain⟨x,hx⟩:=hl f (mL ..)
       rw[tok.cells hj,hof] at hx
       obtain⟨zs,Jw,hz2⟩:=wb tok k _ f.type _ _ zX hx
       have hzl:zs.length=j.size:=by
        cases k with
        |zero=>cases hz2
        |succ k=>
         obtain⟨j',GX,OY,_⟩:=hz2
         rw[hj] at GX
         injection GX with GX
         subst GX
         exact OY
       have hlen:off+j.size≤cs.length:=by
        have:=Jw.1
        rw[hzl,ff,gY] at this
        omega
       obtain⟨ys,Lb,B6⟩:=ih (off+j.size) (fun g hg=>hl g (ln _ hg)) hlen wV
       refine⟨zs++ys,?_,j,hj,by rw[fg];omega,?_,?_⟩
       ·have e:cs.drop off=(cs.drop off).take j.size++cs.drop (off+j.size):=by
         rw[←mM,rI]
        rw[e]
        exact Jw.append Lb
       ·rw[AP (by omega),kO (by omega)]
        exact hz2
       ·rw[Kd (by omega),CV (by omega)]
        exact B6
    obtain⟨ys,Lb,B6⟩:=key fields.toList 0 (fun f hfm=>by
     obtain⟨q,hq⟩:=vp hfm
     have hq':fields[q]? =some f:=by simpa using hq
     have cg:q<xs.length:=by rw[zb];exact (eI.1 hq').1
     exact⟨xs[q],by rw[ml q f hq',fI cg]⟩) (fH _) (by rw[GY];exact hok)
    rw[nZ] at Lb
    exact⟨ys,Lb,i,ht,by rw[Lb.1,Ci],by rw[jH];rw[GY] at B6;exact B6⟩
   |arr n e=>
    rw[jH] at hok
    dsimp only at hok
    cases he:tb e with
    |none=>rw[he] at hok;simp at hok
    |some j=>
     rw[he] at hok
     simp only[cr,beq_iff_eq] at hok
     obtain⟨hoe,hz⟩:=hok
     obtain⟨xs,m,_,_,Ci,zb,ml⟩:=DataW.trod_array (tok.arr ht jH) h
     rw[tok.cells ht] at Ci
     rw[tok.cells he] at ml
     obtain⟨ys,Lb,B6,hy3⟩:=Aa (W:=W) (us:=cs) (z:=j.size) (Good:=wtE tb k e) n (by rw[Ci,hz]) fun q hq=>by
      have hq':=ml q hq
      rw[fI (by omega)] at hq'
      exact wb tok k _ e _ _ hoe hq'
     exact⟨ys,Lb,i,ht,by rw[Lb.1,Ci],by rw[jH];exact⟨j,he,B6,hy3⟩⟩
def argD(g:Bool)(xs:List E):D:=match g with
 |true=>.ag (xs.map D.e)
 |false=>.e (xs.headD .any)
theorem arg_rep(tok:TOk P tb){k:Nat}{t:TypeId}{i:TyE}{v:Value}{d:DataW H}{p:List MemPlace}{r:Reach}{b0:Nat}(hok:Fs tb k t=true)(ht:tb t=some i)(tT:Value.okWide P W r b0 t v)(h:DataW.Trod enc P W base sp hd t v d p):
  ∃xs,wtE tb k t xs∧ma W F0 (argD i.ty.agg xs) v:=by
 obtain⟨fuel,hf⟩:=h
 obtain⟨xs,hx,hw⟩:=wb tok k fuel t _ _ hok hf
 refine⟨xs,hw,?_⟩
 have one:v.cells=#[v]→ma W F0 (.e (xs.headD .any)) v:=by
  intro hv
  rw[hv] at hx
  cases xs with
  |nil=>have:=hx.1;simp at this
  |cons y ys=>exact aR.e _ _ (hx.2 0 y v rfl rfl)
 have agg:∀cs,v=.agg cs→ma W F0 (.ag (xs.map D.e)) v:=by
  rintro cs rfl
  have hx':Pw (dE W F0) xs cs.toList:=hx
  refine aR.ag _ cs (by simpa using hx'.1.symm) (fun j u hu=>?_) (fun j d u hd hu=>?_)
  ·have uy:cs.toList[j]? =some u:=by simpa using hu
   have cg:j<xs.length:=by
    rw[hx'.1]
    exact (l8.1 uy).1
   exact (hx'.2 j _ u (fI cg) uy).one
  ·rw[dZ] at hd
   cases hxj:xs[j]? with
   |none=>simp[hxj] at hd
   |some y=>
    simp only[hxj,kB,kA] at hd
    subst hd
    exact .e _ _ (hx'.2 j y u hxj (by simpa using hu))
 cases jH:i.ty with
 |int kd=>obtain⟨n,rfl⟩:=okWide_int (tok.int ht jH) tT;exact one rfl
 |bool=>
  obtain⟨dd,M6,H7⟩:=tok.und ht
  rw[jH] at H7
  have hb:P.underlying t=some .bool:=by cases dd <;> simp[Ty.of] at H7;exact M6
  obtain⟨b,rfl⟩:=okWide_bool hb tT
  exact one rfl
 |str=>obtain⟨s,rfl⟩:=okWide_string (tok.str ht jH) tT;exact one rfl
 |slice e=>obtain⟨a,l,c,rfl⟩:=okWide_slice (tok.slice ht jH) tT;exact one rfl
 |struct fs=>
  obtain⟨fields,hf,_⟩:=tok.struct ht jH
  obtain⟨cs,rfl,_⟩:=okWide_struct hf tT
  exact agg cs rfl
 |arr n e=>
  have ha:=tok.arr ht jH
  unfold Value.okWide at tT
  rw[ha] at tT
  obtain⟨cs,rfl,_⟩:=tT
  exact agg cs rfl
 |other=>
  cases k with
  |zero=>cases hok
  |succ k=>unfold Fs at hok;rw[ht] at hok;dsimp only at hok;rw[jH] at hok;cases hok
theorem says_of {f:FuncId}{ds:List D}{args:Array Value}(hc:aB P f ds (.e (.lit (.bool true))))(hsz:args.size=ds.length)(se:∀(j:Nat) (d:D) (u:Value),ds[j]? =some d→args[j]? =some u→ma W F0 d u):
  Calls P f args W fun e w'=>e=.returned (.bool true)∧Below W.heap.size W w':=by
 refine (hc.2 W F0 args (fun _ h=>h.elim) hsz se).mono ?_
 rintro e w' ⟨v,rfl,mQ,hb⟩
 have hr:ma w' F0 (.e (.lit (.bool true))) v:=mQ
 exact⟨by rw[aR.lit hr],hb⟩
theorem t5 {α:Type}(cells:α→List E)(z:Nat)(good:α→Prop):∀(n:Nat) (ys:List E),ys.length=n*z→(∀i,i<n→∃a,(ys.drop (i*z)).take z=cells a∧good a)→∃l:List α,l.length=n∧ys=l.flatMap cells∧∀a∈l,good a
 |0,ys,hl,_=>⟨[],rfl,by rw[gb] at hl;rw[kL hl];rfl,by simp⟩
 |n+1,ys,hl,h=>by
  rw[qu] at hl
  obtain⟨a,ha,hga⟩:=h 0 (Nat.succ_pos n)
  obtain⟨l,h1,h2,h3⟩:=t5 cells z good n (ys.drop z) (by rw[gY];omega) fun i hi=>by
   have:=h (i+1) (by omega)
   rw[mM,show z+i*z=(i+1)*z by rw[qu];omega]
   exact this
  simp only[gb,nZ] at ha
  refine⟨a::l,by simp[h1],?_,fun b hb=>?_⟩
  ·rw[nX,←ha,←h2,rI]
  ·rcases nb.1 hb with rfl|hb
   ·exact hga
   ·exact h3 b hb
end
end
section
def Rd(tb:TypeId→Option TyE)(t:TypeId)(d:Nat){α:Type}(c:Cd α)(W:α→Prop):Prop:=∀k xs,wtE tb (k+d) t xs→∃a,xs=c.f a∧W a
theorem Rd.up {tb:TypeId→Option TyE}{t:TypeId}{d:Nat}{α:Type}{c:Cd α}{W:α→Prop}(h:Rd tb t d c W)(m:Nat):Rd tb t (d+m) c W:=fun k xs h'=>h (k+m) xs (by rw[nq,qr m d];exact h')
def Wi(k:IntKind)(n:Int):Prop:=k.min≤n∧n≤k.max
section
variable {tb:TypeId→Option TyE} {t e:TypeId} {i j:TyE} {d:Nat} {α:Type} {c:Cd α} {W:α→Prop}
theorem NL {k:IntKind}(ht:tb t=some i)(hi:i.ty=.int k):Rd tb t 1 (cI k) (Wi k):=by
 intro n xs h
 obtain⟨i',h1,_,h⟩:=h
 rw[ht] at h1;cases h1
 rw[hi] at h
 obtain⟨m,h1,h2⟩:=h
 exact⟨m,h1,by unfold Wi;simpa[Lit.wf] using h2⟩
theorem rd_B(ht:tb t=some i)(hi:i.ty=.bool):Rd tb t 1 cB (fun _=>True):=by
 intro n xs h
 obtain⟨i',h1,_,h⟩:=h
 rw[ht] at h1;cases h1
 rw[hi] at h
 obtain⟨m,h1⟩:=h
 exact⟨m,h1,trivial⟩
theorem rd_L(ht:tb t=some i)(he:tb e=some j)(hc:Rd tb e d c W)(hi:i.ty=.slice e:=by exact rfl)(hz:c.sz=j.size:=by exact rfl):Rd tb t (d+1) (cL c) (fun l=>l.length≤maxLen∧∀a∈l,W a):=by
 intro n xs h
 obtain⟨i',h1,_,h⟩:=h
 rw[ht] at h1;cases h1
 rw[hi] at h
 obtain⟨j',m,ys,h1,h2,h3,h4,h5⟩:=h
 rw[he] at h1;cases h1
 obtain⟨l,h6,h7,h8⟩:=t5 c.f j.size W m ys h3 fun i hi=>hc n _ (h5 i hi)
 refine⟨l,?_,by omega,h8⟩
 rw[h2,h7,←h6,←hz];rfl
theorem mr {xs:List E}{n:Nat}{ys zs:List E}(h1:xs.take n=ys)(h2:xs.drop n=zs):xs=ys++zs:=by
 rw[←h1,←h2,rI]
theorem CG {P:Program}{H:Type}{enc:TypeId×Value→H}{Wd:World}{sp:Nat→Bool}{hd:Bool}{base k:Nat}{v:Value}{dw:DataW H}{p:List MemPlace}{r:Reach}{b0:Nat}(tok:TOk P tb)(hok:Fs tb (k+d) t=true)(ht:tb t=some i)(hc:Rd tb t d c W)(tT:Value.okWide P Wd r b0 t v)(h:DataW.Trod enc P Wd base sp hd t v dw p):
  ∃a,ma Wd F0 (argD i.ty.agg (c.f a)) v∧W a:=by
 obtain⟨xs,h1,h2⟩:=arg_rep tok hok ht tT h
 obtain⟨a,rfl,h3⟩:=hc k xs h1
 exact⟨a,h2,h3⟩
end
end
theorem rd_A {tb:TypeId→Option TyE}{t e:TypeId}{i j:TyE}{d n:Nat}{α:Type}{c:Cd α}{W:α→Prop}(ht:tb t=some i)(he:tb e=some j)(hc:Rd tb e d c W)(hi:i.ty=.arr n e:=by exact rfl)(hz:c.sz=j.size:=by exact rfl):Rd tb t (d+1) (cA n c) (fun v=>∀a∈v.toList,W a):=by
 intro m xs h
 obtain⟨i',h1,_,h⟩:=h
 rw[ht] at h1;cases h1
 rw[hi] at h
 obtain⟨j',h1,h3,h5⟩:=h
 rw[he] at h1;cases h1
 obtain⟨l,h6,h7,h8⟩:=t5 c.f j.size W n xs h3 fun i hi=>hc m _ (h5 i hi)
 exact⟨⟨l.toArray,by simpa using h6⟩,h7,h8⟩
def QR(x:aj):Prop:=(True∧True∧∀a∈x.vN.vW.toList,Wi .u32 a)∧(True∧True∧∀a∈x.vD.vW.toList,Wi .u32 a)
theorem NX {x:ay}(h:∀a∈x.vW.toList,Wi .u32 a):okI x:=fun j hj=>by
 have h2:=h x.vW[j]! (by rw[iR x.vW j hj];simp)
 exact⟨h2.1,by have:x.vW[j]!≤4294967295:=h2.2;omega⟩
theorem NW {x:aj}(h:QR x):okR x:=⟨NX h.1.2.2,NX h.2.2.2⟩
def QL(l:List aj):Prop:=l.length≤maxLen∧∀x∈l,QR x
theorem QL.nu {l:List aj}(h:QL l):l=(l.map uF).map nv∧(l.map uF).length≤9223372036854775807:=by
 refine⟨(HK fun x hx=>NW (h.2 x hx)).symm,?_⟩
 rw[bH]
 exact da h.1 (by decide)
def g_law07_MatrixSolves(aS:ap)(aU:List aj)(bm:List aj):Option Bool:=bnd (S:=Bool) (bnd (lX aS) fun x1=>cnd (!x1) (some (true)) (cnd (decide ((10:Int)<((aU).length:Int))) (some (true)) (cnd (decide ((10:Int)<((bm).length:Int))) (some (true)) (bnd (lW aU) fun x6=>cnd (!x6) (some (true)) (bnd (lW bm) fun x9=>some (!x9)))))) fun a7=>cnd a7 (bnd (kq) fun lw=>some lw) (bnd (iE aS aU) fun sQ=>bnd (g_ref07_Solve aS aU) fun ny=>bnd (S:=Bool) (cnd (decide (sQ.2≠ny.vE)) (some (true)) (bnd (d9 sQ.1 ny.vL) fun Au=>some (!Au))) fun aK=>cnd aK (some false) (bnd (S:=Unit⊕Bool) (cnd (decide (sQ.2=(0:Int))) (bnd (lL sQ.1) fun DF=>bnd (oO aS DF) fun uC=>bnd (S:=Bool) (cnd (decide (uC.2=(0:Int))) (cnd (decide ((0:Int)<aS.vC)) (bnd (d9 uC.1.vV aU) fun IU=>some (!IU)) (some (false))) (some (false))) fun a30_0=>cnd a30_0 (some (.inr false)) (some (.inl ()))) (some (.inl ()))) fun y35=>match y35 with| .inl ()=>bnd (lL bm) fun x36=>bnd (oO aS x36) fun x38=>bnd (S:=Bool) (cnd (decide (x38.2≠(0:Int))) (some (true)) (cnd (decide (((bm).length:Int)=(0:Int))) (some (true)) (some (decide (((bm).length:Int)≠aS.vC))))) fun AQ=>cnd AQ (bnd (kq) fun MZ=>some MZ) (bnd (iE aS x38.1.vV) fun G4=>bnd (S:=Bool) (bnd (kq) fun G3=>cnd G3 (cnd (decide (G4.2=(70:Int))) (some (true)) (cnd (decide (G4.2=(30:Int))) (some (true)) (cnd (decide (G4.2=(0:Int))) (bnd (d9 bm G4.1) fun x54=>some (x54)) (some (false))))) (some (false))) fun yK=>some yK)| .inr r=>some r))
theorem w_law07_MatrixSolves {aS:ap}{aU:List aj}{bm:List aj}{r:Bool}(h:g_law07_MatrixSolves aS aU bm=some r):aB prog 5 [dG aE aS,dL ae aU,dL ae bm] (dB r):=by
 refine bC (rs:=[.tmp 6]) (fun cx hx h0=>?_) func5
 unfold g_law07_MatrixSolves at h
 refine rs hx fun K hK=>?_
 refine s1 (d:=.pt 0 0) d8 ?_
 refine sa ?_
 refine .nil (hK _ _ ?_)
 iterate 2 refine AW.seq ?_
 obtain⟨a7,hy,h⟩:=ah h
 refine jn ((PE cx .normal (fun a7=>[(1,dL ae aU),(2,dL ae bm),(3,.pt 0 0),(38,dB a7)]) fun a7=>⟨[(0,[dI .i64 aS.vR,dI .i64 aS.vC,dL ae aS.vV])],[],1⟩) a7) ?_ ?_
 replace h:=hy
 refine rq hx fun K hK=>?_
 refine s1 (d:=dG aE aS) (bb aq) ?_
 refine scb h wI fun x1 h=>?_
 iterate 2 refine sa ?_
 rcases aW (!x1) with a8|a8
 replace h:=aY a8 h
 iterate 3 refine aJ rfl rfl a8 ?_
 refine s1 (am a8) ?_
 refine sa ?_
 iterate 3 refine aJ rfl rfl rfl ?_
 refine s1 (am rfl) ?_
 refine sa ?_
 iterate 3 refine aJ rfl rfl rfl ?_
 refine s1 (am rfl) ?_
 refine sa ?_
 iterate 3 refine aJ rfl rfl rfl ?_
 refine s1 (am rfl) ?_
 refine .nil (hK _ _ ?_)
 cases h
 exact pe0 h0 [0]
 replace h:=aZ a8 h
 iterate 3 refine ga a8 ?_
 refine s1 (au a8) ?_
 refine sa ?_
 rcases aW (decide ((10:Int)<((aU).length:Int))) with lz|lz
 replace h:=aY lz h
 iterate 3 refine aJ rfl rfl lz ?_
 refine s1 (am lz) ?_
 refine sa ?_
 iterate 3 refine aJ rfl rfl rfl ?_
 refine s1 (am rfl) ?_
 refine sa ?_
 iterate 3 refine aJ rfl rfl rfl ?_
 refine s1 (am rfl) ?_
 refine .nil (hK _ _ ?_)
 cases h
 exact pe0 h0 [0]
 replace h:=aZ lz h
 iterate 3 refine ga lz ?_
 refine s1 (au lz) ?_
 refine sa ?_
 rcases aW (decide ((10:Int)<((bm).length:Int))) with iO|iO
 replace h:=aY iO h
 iterate 3 refine aJ rfl rfl iO ?_
 refine s1 (am iO) ?_
 refine sa ?_
 iterate 3 refine aJ rfl rfl rfl ?_
 refine s1 (am rfl) ?_
 refine .nil (hK _ _ ?_)
 cases h
 exact pe0 h0 [0]
 replace h:=aZ iO h
 refine ga iO ?_
 obtain⟨x6,td,h⟩:=ah h
 refine g1 iO (cj rfl (wH td) rfl (lA (al _) lAn) (.inl rfl)) ?_
 refine ga iO ?_
 refine s1 (au iO) ?_
 refine sa ?_
 rcases aW (!x6) with py|py
 replace h:=aY py h
 iterate 3 refine aJ rfl rfl py ?_
 refine s1 (am py) ?_
 refine .nil (hK _ _ ?_)
 cases h
 exact pe0 h0 [0]
 replace h:=aZ py h
 refine ga py ?_
 obtain⟨x9,xq,h⟩:=ah h
 refine g1 py (cj rfl (wH xq) rfl (lA (al _) lAn) (.inl rfl)) ?_
 refine ga py ?_
 refine s1 (au py) ?_
 refine .nil (hK _ _ ?_)
 cases h
 exact pe0 h0 [0]
 rintro ex tm' hp' ⟨rfl,hw⟩
 refine AW.weak hw (cdh h rfl (fun mw h=>?_) (fun mw h=>?_))
 refine rs hx fun K hK=>?_
 refine scb h uZ fun lw h=>?_
 refine sa ?_
 refine .nil (hK _ _ (AW.ret ?_))
 cases h
 exact rv1
 refine AW.skip (rs hx fun K hK=>?_)
 refine s1 (d:=dG aE aS) (bb aq) ?_
 refine sa ?_
 refine scb h q8 fun sQ h=>?_
 iterate 5 refine sa ?_
 refine .nil (hK _ _ (rs hx fun K hK=>?_))
 refine s1 (d:=dG aE aS) (bb aq) ?_
 refine sa ?_
 refine scb h w_ref07_Solve fun ny h=>?_
 refine s1 (d:=.pt 1 0) (bc tb_72) ?_
 refine s0 (bO (ds':=[dL ae ny.vL,dI .i64 ny.vE]) tb_72) ?_
 refine .nil (hK _ _ ?_)
 iterate 2 refine AW.seq ?_
 obtain⟨aK,hy,h⟩:=ah h
 refine jn ((PE cx .normal (fun aK=>[(1,dL ae aU),(2,dL ae bm),(3,.pt 0 0),(7,dL ae sQ.1),(8,dI .i64 sQ.2),(59,dB aK)]) fun aK=>⟨[(0,[dI .i64 aS.vR,dI .i64 aS.vC,dL ae aS.vV])],[],1⟩) aK) ?_ ?_
 replace h:=hy
 refine rq hx fun K hK=>?_
 iterate 2 refine sa ?_
 refine s1 (aG Hs) ?_
 iterate 2 refine sa ?_
 rcases aW (decide (sQ.2≠ny.vE)) with Co|Co
 replace h:=aY Co h
 iterate 5 refine aJ rfl rfl Co ?_
 refine s1 (am Co) ?_
 refine .nil (hK _ _ ?_)
 cases h
 exact pe0 h0 [0]
 replace h:=aZ Co h
 iterate 2 refine ga Co ?_
 refine g1 Co (aG aF) ?_
 obtain⟨Au,hx21,h⟩:=ah h
 refine g1 Co (cj rfl (pE hx21) rfl (lA (al _) (lA (al _) lAn)) (.inl rfl)) ?_
 refine ga Co ?_
 refine s1 (au Co) ?_
 refine .nil (hK _ _ ?_)
 cases h
 exact pe0 h0 [0]
 rintro ex tm' hp' ⟨rfl,hw⟩
 refine AW.weak hw (cdh h rfl (fun hb23 h=>?_) (fun hb23 h=>?_))
 refine ra hx ?_
 refine AW.ret ?_
 cases h
 exact rv1
 refine AW.skip (AW.seq ?_)
 obtain⟨y,hy,h⟩:=ah h
 refine jn ((PS (PE cx .normal (fun ()=>[(2,dL ae bm),(3,.pt 0 0)]) fun ()=>⟨[(0,[dI .i64 aS.vR,dI .i64 aS.vC,dL ae aS.vV])],[],1⟩) (PR [.tmp 6] fun r=>dB r)) y) ?_ ?_
 replace h:=hy
 refine ra hx ?_
 refine cdh h rfl (fun z4 h=>?_) (fun z4 h=>?_)
 refine rsd [32,31] hx fun K hK=>?_
 refine s1 (d:=dG aE aS) (bb aq) ?_
 refine sa ?_
 refine cqb h A3 fun DF h=>?_
 refine cqb h Fc fun uC h=>?_
 iterate 3 refine sa ?_
 refine s1 (d:=.pt 1 0) (bc aq) ?_
 refine s0 (bO (ds':=[dI .i64 uC.1.vR,dI .i64 uC.1.vC,dL ae uC.1.vV]) aq) ?_
 refine sa ?_
 refine .nil (hK _ _ (AW.seq ?_))
 obtain⟨a30_0,hy,h⟩:=ah h
 refine jn ((PE cx .normal (fun a30_0=>[(2,dL ae bm),(3,.pt 0 0),(82,dB a30_0)]) fun a30_0=>⟨[(0,[dI .i64 aS.vR,dI .i64 aS.vC,dL ae aS.vV])],[],1⟩) a30_0) ?_ ?_
 replace h:=hy
 refine rq hx fun K hK=>?_
 iterate 3 refine sa ?_
 rcases aW (decide (uC.2=(0:Int))) with hb29|hb29
 replace h:=aY hb29 h
 refine ga hb29 ?_
 refine g1 hb29 (aG aT) ?_
 refine ga hb29 ?_
 refine s1 (am hb29) ?_
 refine sa ?_
 rcases aW (decide ((0:Int)<aS.vC)) with Pe|Pe
 replace h:=aY Pe h
 refine ga Pe ?_
 refine g1 Pe (aG aF) ?_
 refine ga Pe ?_
 obtain⟨IU,hx32,h⟩:=ah h
 refine g1 Pe (cj rfl (pE hx32) rfl (lA (al _) (lA (al _) lAn)) (.inl rfl)) ?_
 refine ga Pe ?_
 refine s1 (am Pe) ?_
 refine .nil (hK _ _ ?_)
 cases h
 exact pe0 h0 [0]
 replace h:=aZ Pe h
 iterate 5 refine aJ rfl rfl Pe ?_
 refine s1 (au Pe) ?_
 refine .nil (hK _ _ ?_)
 cases h
 exact pe0 h0 [0]
 replace h:=aZ hb29 h
 iterate 3 refine aJ rfl rfl hb29 ?_
 refine s1 (au hb29) ?_
 refine sa ?_
 iterate 5 refine aJ rfl rfl rfl ?_
 refine s1 (au rfl) ?_
 refine .nil (hK _ _ ?_)
 cases h
 exact pe0 h0 [0]
 rintro ex tm' hp' ⟨rfl,hw⟩
 refine AW.weak hw (cdh h rfl (fun hb34 h=>?_) (fun hb34 h=>?_))
 refine ra hx ?_
 refine AW.ret ?_
 cases h
 refine PS.r (PR.i ?_)
 exact rv1
 refine AW.skip ?_
 cases h
 exact PS.l (pe0 h0 [0])
 refine AW.skip ?_
 cases h
 exact PS.l (pe0 h0 [0])
 rcases y with⟨⟩|r
 rintro ex tm' hp' ⟨rfl,hw⟩
 refine AW.weak hw (rsd [32,31] hx fun K hK=>?_)
 refine s1 (d:=dG aE aS) (bb aq) ?_
 refine sa ?_
 refine cqb h A3 fun x36 h=>?_
 refine cqb h Fc fun x38 h=>?_
 iterate 3 refine sa ?_
 refine s1 (d:=.pt 1 0) (bc aq) ?_
 refine s0 (bO (ds':=[dI .i64 x38.1.vR,dI .i64 x38.1.vC,dL ae x38.1.vV]) aq) ?_
 refine sa ?_
 refine .nil (hK _ _ ?_)
 iterate 2 refine AW.seq ?_
 obtain⟨AQ,hy,h⟩:=ah h
 refine jn ((PE cx .normal (fun AQ=>[(2,dL ae bm),(3,.pt 0 0),(12,.pt 1 0),(103,dB AQ)]) fun AQ=>⟨[(0,[dI .i64 aS.vR,dI .i64 aS.vC,dL ae aS.vV]),(1,[dI .i64 x38.1.vR,dI .i64 x38.1.vC,dL ae x38.1.vV])],[],2⟩) AQ) ?_ ?_
 replace h:=hy
 refine rq hx fun K hK=>?_
 iterate 3 refine sa ?_
 rcases aW (decide (x38.2≠(0:Int))) with JZ|JZ
 replace h:=aY JZ h
 iterate 3 refine aJ rfl rfl JZ ?_
 refine s1 (am JZ) ?_
 refine sa ?_
 iterate 5 refine aJ rfl rfl rfl ?_
 refine s1 (am rfl) ?_
 refine .nil (hK _ _ ?_)
 cases h
 exact pe0 h0 [0,1]
 replace h:=aZ JZ h
 iterate 3 refine ga JZ ?_
 refine s1 (au JZ) ?_
 refine sa ?_
 rcases aW (decide (((bm).length:Int)=(0:Int))) with tW|tW
 replace h:=aY tW h
 iterate 5 refine aJ rfl rfl tW ?_
 refine s1 (am tW) ?_
 refine .nil (hK _ _ ?_)
 cases h
 exact pe0 h0 [0,1]
 replace h:=aZ tW h
 iterate 3 refine ga tW ?_
 refine g1 tW (aG aT) ?_
 refine ga tW ?_
 refine s1 (au tW) ?_
 refine .nil (hK _ _ ?_)
 cases h
 exact pe0 h0 [0,1]
 rintro ex tm' hp' ⟨rfl,hw⟩
 refine AW.weak hw (cdh h rfl (fun FP h=>?_) (fun FP h=>?_))
 refine rs hx fun K hK=>?_
 refine scb h uZ fun MZ h=>?_
 refine sa ?_
 refine .nil (hK _ _ (AW.ret ?_))
 cases h
 exact rv1
 refine AW.skip (rs hx fun K hK=>?_)
 refine s1 (d:=dG aE aS) (bb aq) ?_
 refine sa ?_
 refine s1 (aG aF) ?_
 refine scb h q8 fun G4 h=>?_
 iterate 5 refine sa ?_
 refine .nil (hK _ _ (AW.seq ?_))
 obtain⟨yK,hy,h⟩:=ah h
 refine jn ((PE cx .normal (fun yK=>[(6,dB yK)]) fun yK=>⟨[],[],0⟩) yK) ?_ ?_
 replace h:=hy
 refine rq hx fun K hK=>?_
 refine scb h uZ fun G3 h=>?_
 refine sa ?_
 rcases aW G3 with JR|JR
 replace h:=aY JR h
 iterate 3 refine ga JR ?_
 rcases aW (decide (G4.2=(70:Int))) with hb51|hb51
 replace h:=aY hb51 h
 iterate 2 refine aJ rfl rfl hb51 ?_
 refine g1 JR (am hb51) ?_
 refine ga JR ?_
 iterate 3 refine aJ rfl rfl rfl ?_
 iterate 3 refine nn_t rfl rfl ?_
 refine aJ rfl rfl rfl ?_
 refine g1 JR (am rfl) ?_
 refine s1 (am JR) ?_
 refine sa ?_
 refine .nil (hK _ _ ?_)
 cases h
 exact pe0 h0 []
 replace h:=aZ hb51 h
 iterate 2 refine ga hb51 ?_
 refine g1 JR (au hb51) ?_
 refine ga JR ?_
 rcases aW (decide (G4.2=(30:Int))) with hb52|hb52
 replace h:=aY hb52 h
 iterate 3 refine aJ rfl rfl hb52 ?_
 iterate 3 refine nn_t rfl rfl ?_
 refine aJ rfl rfl hb52 ?_
 refine g1 JR (am hb52) ?_
 refine s1 (am JR) ?_
 refine sa ?_
 refine .nil (hK _ _ ?_)
 cases h
 exact pe0 h0 []
 replace h:=aZ hb52 h
 iterate 3 refine ga hb52 ?_
 rcases aW (decide (G4.2=(0:Int))) with hb53|hb53
 replace h:=aY hb53 h
 iterate 2 refine ga hb53 ?_
 obtain⟨x54,hx55,h⟩:=ah h
 refine g1 hb53 (cj rfl (pE hx55) rfl (lA (al _) (lA (al _) lAn)) (.inl rfl)) ?_
 refine g1 hb52 (am hb53) ?_
 refine g1 JR (au hb52) ?_
 refine s1 (am JR) ?_
 refine sa ?_
 refine .nil (hK _ _ ?_)
 cases h
 exact pe0 h0 []
 replace h:=aZ hb53 h
 iterate 3 refine aJ rfl rfl hb53 ?_
 refine g1 hb52 (au hb53) ?_
 refine g1 JR (au hb52) ?_
 refine s1 (am JR) ?_
 refine sa ?_
 refine .nil (hK _ _ ?_)
 cases h
 exact pe0 h0 []
 replace h:=aZ JR h
 iterate 3 refine aJ rfl rfl JR ?_
 iterate 2 refine nn_t rfl rfl ?_
 iterate 2 refine aJ rfl rfl JR ?_
 iterate 7 refine nn_t rfl rfl ?_
 refine aJ rfl rfl JR ?_
 refine s1 (au JR) ?_
 refine sa ?_
 refine .nil (hK _ _ ?_)
 cases h
 exact pe0 h0 []
 rintro ex tm' hp' ⟨rfl,hw⟩
 refine AW.weak hw (AW.ret ?_)
 cases h
 exact rv1
 rintro ex tm' hp' ⟨rfl,hw⟩
 cases h
 exact hw
theorem dneZ(a:Int):decide (a≠a)=false:=by simp
theorem solvP_len {R C:Int}{A b:List Nu}:(Hv R C A b).1.length≤1000000:=by
 unfold Hv
 split
 ·rename_i h
  obtain⟨r,c,rfl,rfl,hm⟩:=cX.1 h.1
  have h3:=hm.r
  split
  ·exact fH _
  ·rw[bh,bh]
   cases qQ:sE r (c+1) (mkM r (c+1) (uL c 1 A b)) with
   |none=>exact fH _
   |some p=>
    obtain⟨U,acc⟩:=p
    have hle:acc.length≤r:=Fo qQ
    unfold solvR
    dsimp only
    split
    ·exact fH _
    ·split
     ·exact fH _
     ·rw[bH,bH,Gv];omega
 ·exact fH _
theorem col_list {r:Nat}{f:Nat→Nat→Nu}{b:List Nu}(hb:b.length=r)(hg:b.all cM=true)(hf:(mkM r 1 f).all cM=true)(h:∀i,i<r→rv (f i 0)=rv b[i]!):mkM r 1 f=b:=by
 rw[mkM_of (R:=r) (C:=1) (l:=b) (by omega)]
 refine n6 fun i k hi hk=>?_
 obtain rfl:k=0:=by omega
 rw[uc,mi]
 exact good_ext (Fu.1 hf i 0 hi (by omega)) (good_at hg (by omega)) (h i hi)
theorem mul_col {r c:Nat}{A x:List Nu}(hf:(mkM r 1 (BX c 1 A x)).all cM=true){i:Nat}(hi:i<r):rv (BX c 1 A x i 0)=sumN c fun j=>rv A[i*c+j]! *rv x[j]! :=by
 rw[mulF_rv (Fu.1 hf i 0 hi (by omega))]
 exact sumN_congr fun t _=>by rw[uc,mi]
theorem solves_1 {R C:Int}{A b:List Nu}{y:List aj}(h:(Hv R C A b).2=0)(hy:(Hv R C A b).1=y):∃l:List Nu,y=l.map nv∧l.length≤1000000∧((mcP R C A l).2=0→0<C→(mcP R C A l).1.vV=b.map nv):=by
 obtain⟨r,c,l,rfl,rfl,hm,hb,hg,h1,h2,h3⟩:=solvP_ok h
 have h4:=hm.c
 refine⟨l,by rw[←hy,h1],by omega,fun h5 h6=>?_⟩
 obtain⟨r',c',e1,e2,tU,hl,Mx,hf,e3⟩:=mcP_ok h5 (by omega)
 obtain rfl:r=r':=by omega
 obtain rfl:c=c':=by omega
 rw[e3]
 show (mkM r 1 (BX c 1 A l)).map nv=_
 rw[nvl_eq]
 exact col_list hb hg hf fun i hi=>by rw[mul_col hf hi];exact h3 i hi
theorem solves_2 {R C:Int}{A x:List Nu}(h:(mcP R C A x).2=0)(h0:(x.length:Int)≠0)(hx:(x.length:Int)=C)(FX:x.length≤10):∃l:List Nu,(mcP R C A x).1.vV=l.map nv∧l.length≤1000000∧((Hv R C A l).2=70∨(Hv R C A l).2=30∨((Hv R C A l).2=0∧(Hv R C A l).1=x.map nv)):=by
 obtain⟨r,c,rfl,rfl,hm,hl,hg,hf,e⟩:=mcP_ok h (by omega)
 have h3:=hm.r
 refine⟨mkM r 1 (BX c 1 A x),by rw[e],by rw[br];omega,?_⟩
 refine solvP_back hm (by omega) (by rw[br];omega) hf hl hg fun i hi=>?_
 have:=tO (f:=BX c 1 A x) hi (show 0<1 by omega)
 rw[uc,mi] at this
 rw[this,mul_col hf hi]
theorem G_solves {R C:Int}{A b x:List Nu}:g_law07_MatrixSolves (mS R C A) (b.map nv) (x.map nv)=some true:=by
 unfold g_law07_MatrixSolves
 obtain⟨b1,h1,k1⟩:=LM (R:=R) (C:=C) (V:=A)
 rw[h1]
 simp only[ab,bH]
 cases b1 with
 |false=>rw[show (!false)=true from rfl,kT,ab,kT,yY];rfl
 |true=>
  have hA:A.length≤1000000:=by have:=(k1 rfl).1;omega
  rw[show (!true)=false from rfl,kF]
  by_cases hb:(10:Int)<b.length
  ·rw[bF _ _ hb,ab,kT,yY];rfl
  ·rw[bA _ _ hb]
   by_cases hx:(10:Int)<x.length
   ·rw[bF _ _ hx,ab,kT,yY];rfl
   ·rw[bA _ _ hx]
    have cE:b.length≤1000000:=by omega
    have DZ:x.length≤1000000:=by omega
    obtain⟨s1,e1⟩:=LL cE
    obtain⟨s2,e2⟩:=LL DZ
    rw[e1,e2]
    simp only[ab]
    rw[kOr (!s1) (!s2),ab]
    cases s1 with
    |false=>rw[show (!false||!s2)=true from rfl,kT,yY];rfl
    |true=>
     cases s2 with
     |false=>rw[show (!true||!false)=true from rfl,kT,yY];rfl
     |true=>
      rw[show (!true||!true)=false from rfl,kF,GM hA cE,Q_Solve hA cE]
      simp only[ab]
      rw[sList solvP_len]
      simp only[ab]
      rw[dneZ,kF,show (!true)=false from rfl,ab,kF,Qy DZ]
      simp only[ab]
      rw[P_MulCol hA DZ]
      simp only[ab]
      have tail:(bnd (S:=Bool) (cnd (decide ((mcP R C A x).2≠(0:Int))) (some (true)) (cnd (decide ((x.length:Int)=(0:Int))) (some (true)) (some (decide ((x.length:Int)≠C))))) fun AQ=>cnd AQ (bnd (kq) fun MZ=>some MZ) (bnd (iE (mS R C A) (mcP R C A x).1.vV) fun G4=>bnd (S:=Bool) (bnd (kq) fun G3=>cnd G3 (cnd (decide (G4.2=(70:Int))) (some (true)) (cnd (decide (G4.2=(30:Int))) (some (true)) (cnd (decide (G4.2=(0:Int))) (bnd (d9 (x.map nv) G4.1) fun x54=>some (x54)) (some (false))))) (some (false))) fun yK=>some yK))=some true:=by
       by_cases c1:(mcP R C A x).2=0
       ·by_cases c2:(x.length:Int)=0
        ·rw[bA _ _ (by simpa using c1),bF _ _ c2,ab,kT,yY];rfl
        ·by_cases c3:(x.length:Int)=C
         ·rw[bA _ _ (by simpa using c1),bA _ _ c2,ab,bA _ _ (by simpa using c3)]
          obtain⟨l,f1,f2,f3⟩:=solves_2 c1 c2 c3 (by omega)
          rw[f1,GM hA f2,yY]
          simp only[ab]
          rw[kT]
          rcases f3 with f3|f3|⟨f3,f4⟩
          ·rw[bF _ _ f3];rfl
          ·rw[bA _ _,bF _ _ f3];rfl
          ·rw[bA _ _,bA _ _,bF _ _ f3,f4,sList (by rw[bH];exact DZ)];rfl
         ·rw[bA _ _ (by simpa using c1),bA _ _ c2,ab,bF _ _ c3,yY];rfl
       ·rw[bF _ _ c1,ab,kT,yY];rfl
      by_cases c0:(Hv R C A b).2=0
      ·obtain⟨l,f1,f2,f3⟩:=solves_1 c0 rfl
       rw[bF _ _ c0,f1,Qy f2]
       simp only[ab]
       rw[P_MulCol hA f2]
       simp only[ab]
       have mid:(cnd (decide ((mcP R C A l).2=(0:Int))) (cnd (decide ((0:Int)<C)) (bnd (d9 (mcP R C A l).1.vV (b.map nv)) fun IU=>some (!IU)) (some (false))) (some (false)))=some false:=by
        by_cases c4:(mcP R C A l).2=0
        ·by_cases c5:(0:Int)<C
         ·rw[bF _ _ c4,bF _ _ c5,f3 c4 c5,sList (by rw[bH];exact cE)];rfl
         ·rw[bF _ _ c4,bA _ _ c5]
        ·rw[bA _ _ c4]
       rw[mid]
       simp only[ab]
       rw[kF]
       exact tail
      ·rw[bA _ _ c0]
       exact tail
theorem G_solvesW {a:ap}{b x:List aj}(hA:QL a.vV)(hb:QL b)(hx:QL x):g_law07_MatrixSolves a b x=some true:=by
 obtain⟨R,C,A⟩:=a
 dsimp only at hA
 rw[hA.nu.1,hb.nu.1,hx.nu.1]
 exact G_solves
section
open Go.ChangeShapes Go.WideShapes Go.ChangeAt Go.RowKit Go.ChangeMaps
namespace matrixSolves
theorem k0:(Rows.matrixSolvesRow.wf (OpenSpec.ofChange Rows.matrixSolvesSpec))=true:=by kernel_rfl
theorem k1:(laidOutB prog)=true:=by kernel_rfl
theorem k2:(mapsRowed prog)=true:=by kernel_rfl
theorem k3:(f5.params.all (prog.readableRec ·))=true:=by kernel_rfl
theorem k4:(namedTie prog Rows.matrixSolvesRow.named Rows.matrixSolvesSpec.vars)=true:=by kernel_rfl
theorem k5:((Rows.matrixSolvesRow.stops == []))=true:=by kernel_rfl
theorem k6:((prog.stops == []))=true:=by kernel_rfl
theorem k7:((Rows.matrixSolvesRow.knobs == []))=true:=by kernel_rfl
theorem k8:((prog.stopKnobs == []))=true:=by kernel_rfl
theorem k9:((Rows.matrixSolvesRow.inPlace == prog.inPlace 5))=true:=by kernel_rfl
theorem k10:((Rows.matrixSolvesRow.unfollowed == prog.unfollowed 5))=true:=by kernel_rfl
theorem k11:((Rows.matrixSolvesRow.recurses == prog.recurses 5))=true:=by kernel_rfl
theorem k12:((Rows.matrixSolvesRow.named == prog.varsNamed 5))=true:=by kernel_rfl
theorem k13:((Rows.matrixSolvesRow.maps == (f5.params.toList++Rows.matrixSolvesSpec.plain.varTypes prog).any (prog.mapsRec ·)))=true:=by kernel_rfl
theorem k14:((Rows.matrixSolvesRow.ifaces == (f5.params.toList++Rows.matrixSolvesSpec.plain.varTypes prog).any (prog.ifacesRec ·)))=true:=by kernel_rfl
theorem k15:((Rows.matrixSolvesRow.mapsOut == prog.mapsAmong f5.resultTypes.toList))=true:=by kernel_rfl
theorem k16:((Rows.matrixSolvesRow.loops == (f5.params.toList++Rows.matrixSolvesSpec.plain.varTypes prog).any (prog.loopsFrom ·)))=true:=by kernel_rfl
theorem k17:((Rows.matrixSolvesRow.wideKeys == (f5.params.toList++Rows.matrixSolvesSpec.plain.varTypes prog++f5.resultTypes.toList).any (prog.wideKeysFrom ·)))=true:=by kernel_rfl
theorem k18:(Rows.matrixSolvesSpec.vars.all (prog.varReadable ·))=true:=by kernel_rfl
theorem k19:(f5.resultTypes.all (fun t=>prog.readableRec t&&decide (t<prog.types.size)))=true:=by kernel_rfl
theorem k20:((Rows.matrixSolvesRow.ifacesOut == f5.resultTypes.toList.any (prog.ifacesRec ·)))=true:=by kernel_rfl
theorem k21:((Rows.matrixSolvesRow.loopsOut == f5.resultTypes.toList.any (prog.loopsFrom ·)))=true:=by kernel_rfl
theorem k22:((Rows.matrixSolvesRow.plainKeys == prog.plainKeys))=true:=by kernel_rfl
theorem k23:(Rows.matrixSolvesRow.shortTexts.isNone)=true:=by kernel_rfl
theorem k24:(prog.stopsHeard)=true:=by kernel_rfl
theorem k25:(prog.mayEnter)=true:=by kernel_rfl
theorem k26:((Rows.matrixSolvesRow.lifted == prog.liftsFinal))=true:=by kernel_rfl
theorem k27:((prog.make == some Rows.matrixSolvesRow.make))=true:=by kernel_rfl
theorem k28:((Rows.matrixSolvesRow.kinds == (if Rows.matrixSolvesRow.domain.isEmpty then [] else f5.params.toList.map fun t=>match prog.underlying t with|some (.int k)=>some k|_=>none)))=true:=by kernel_rfl
theorem k29:((Rows.matrixSolvesRow.pinned == Rows.matrixSolvesRow.pinnedBy))=true:=by kernel_rfl
theorem k30:((Rows.matrixSolvesRow.veiled == (f5.params.toList++Rows.matrixSolvesSpec.plain.varTypes prog++f5.resultTypes.toList).any (prog.veiledRec ·)))=true:=by kernel_rfl
theorem k31:(Rows.matrixSolvesRow.veiledFits prog f5.params.toList (f5.params.toList++Rows.matrixSolvesSpec.plain.varTypes prog++f5.resultTypes.toList))=true:=by kernel_rfl
theorem nW {a b:Bool}(h:a=true)(h2:b=true):(a&&b)=true:=by rw[h,h2];rfl
theorem closed:joinedFacts prog 5 f5 Rows.matrixSolvesSpec Rows.matrixSolvesRow=true:=by
 delta joinedFacts
 exact nW (nW (nW (nW (nW (nW (nW (nW (nW (nW (nW (nW (nW (nW (nW (nW (nW (nW (nW (nW (nW (nW (nW (nW (nW (nW (nW (nW (nW (nW (nW k0 k1) k2) k3) k4) k5) k6) k7) k8) k9) k10) k11) k12) k13) k14) k15) k16) k17) k18) k19) k20) k21) k22) k23) k24) k25) k26) k27) k28) k29) k30) k31
end matrixSolves
end
end
end Go.Proofs.YtgfcnncojhkcoaaGreat
