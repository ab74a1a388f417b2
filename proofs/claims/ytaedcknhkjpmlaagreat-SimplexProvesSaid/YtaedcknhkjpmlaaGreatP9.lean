/-
  Lemmas, part 9. Conditions: none.
-/
import Derived.Test.YtaedcknhkjpmlaaGreatP8
import Derived.Test.YtaedcknhkjpmlaaGreatRows
set_option linter.all false
set_option maxRecDepth 100000
set_option maxHeartbeats 4000000
namespace Go.Proofs.YtaedcknhkjpmlaaGreat
open Go.RowKit Go.IntKind Tryz Go.Proofs.Tryz
noncomputable section
theorem e1T:e1B=true:=by decide +kernel
theorem e2T:e2B=true:=by decide +kernel
theorem e3T:e3B=true:=by decide +kernel
theorem e4T:e4B=true:=by decide +kernel
theorem e5T:e5B=true:=by decide +kernel
theorem e6T:e6B=true:=by decide +kernel
theorem Aq {R Cc:Int}{A B C:List Nu}{want:Ans}(hA:A.length≤1000000)(hB:B.length≤1000000)(hC:C.length≤1000000)(hl:EZ want)(h:(decide ((qZ R Cc A B C 100).1=want)&&(decide ((qZ R Cc A B C 100).2.2=0)&&decide (rD R Cc A B C (qZ R Cc A B C 100).1=0)))=true):ge ⟨⟨R,Cc,A.map nv⟩,B.map nv,C.map nv⟩ (Bq want)=some true:=by
 simp only[cj,rG] at h
 obtain⟨h1,h2,h3⟩:=h
 rw[h1] at h3
 unfold ge
 rw[OJ hA hB hC (by decide),ab]
 have e:(r6 (qZ R Cc A B C 100)).1=Bq want:=by rw[←h1];rfl
 have e2:(r6 (qZ R Cc A B C 100)).2.2=0:=h2
 rw[e,e2,IJ hl,IP hA hB hC hl,h3]
 simp only[ab,qi]
 simp
theorem xo {rows:Int}{a b c:List Int}(ha:a.length≤1000000)(hb:b.length≤1000000)(hc:c.length≤1000000)(h1:∀i,i<a.length→-1000≤a[i]!∧a[i]!≤1000)(h2:∀i,i<b.length→-1000≤b[i]!∧b[i]!≤1000)(h3:∀i,i<c.length→-1000≤c[i]!∧c[i]!≤1000):fg rows a b c=some ⟨⟨rows,(c.length:Int),(a.map nOf).map nv⟩,(b.map nOf).map nv,(c.map nOf).map nv⟩:=by
 unfold fg
 rw[uN ha h1,ab,uN hb h2,ab,uN hc h3,ab]
theorem sane:jW=some true:=by
 have p1:=xo (rows:=2) (a:=[1,2,3,1]) (b:=[4,6]) (c:=[1,1]) (by decide) (by decide) (by decide) (by decide) (by decide) (by decide)
 have p2:=xo (rows:=1) (a:=[1]) (b:=[-1]) (c:=[0]) (by decide) (by decide) (by decide) (by decide) (by decide) (by decide)
 have p3:=xo (rows:=1) (a:=[-1,1]) (b:=[1]) (c:=[1,0]) (by decide) (by decide) (by decide) (by decide) (by decide) (by decide)
 have p4:=xo (rows:=1) (a:=[-1]) (b:=[-2]) (c:=[-1]) (by decide) (by decide) (by decide) (by decide) (by decide) (by decide)
 have f1:=EW (a:=8) (b:=6) (by decide) (by decide)
 have f2:=EW (a:=2) (b:=1) (by decide) (by decide)
 have f3:=EW (a:=2) (b:=2) (by decide) (by decide)
 have i1:=uN (l:=[1]) (by decide) (by decide)
 have i2:=uN (l:=[0,0]) (by decide) (by decide)
 have i3:=uN (l:=[1,0]) (by decide) (by decide)
 have i4:=uN (l:=[2]) (by decide) (by decide)
 have i5:=uN (l:=[1,1,1,-1]) (by decide) (by decide)
 have i6:=uN (l:=[1,3]) (by decide) (by decide)
 have s1:=Aq (want:=⟨1,[fr 8 5,fr 6 5],[fr 2 5,fr 1 5],[]⟩) (R:=2) (Cc:=2) (by decide) (by decide) (by decide) (tE rfl) e1T
 have s2:=Aq (want:=⟨2,[],[1].map nOf,[]⟩) (R:=1) (Cc:=1) (by decide) (by decide) (by decide) (tE rfl) e2T
 have s3:=Aq (want:=⟨3,[0,0].map nOf,[],[1,0].map nOf⟩) (R:=1) (Cc:=2) (by decide) (by decide) (by decide) (tE rfl) e3T
 have s4:=Aq (want:=⟨1,[2].map nOf,[1].map nOf,[]⟩) (R:=1) (Cc:=1) (by decide) (by decide) (by decide) (tE rfl) e4T
 have q1:=P_Equal (R:=2) (Cc:=2) (A:=[1,1,1,-1].map nOf) (B:=[1,3].map nOf) (most:=100) (by decide) (by decide) (by decide)
 have h5:=e5T
 unfold e5B at h5
 obtain⟨r,hr⟩:∃r,r=H7 2 2 ([1,1,1,-1].map nOf) ([1,3].map nOf) 100:=⟨_,rfl⟩
 rw[←hr] at q1 h5
 simp only[cj,rG] at h5
 obtain⟨hl,k2,k3,k4⟩:=h5
 have q2:=IN (R:=2) (Cc:=2) (A:=[1,1,1,-1].map nOf) (B:=[1,3].map nOf) (a:=r.1) (by decide) (by decide) (tE hl)
 rw[k4] at q2
 have q3:=IP (R:=2) (Cc:=2) (A:=[1,2,3,1].map nOf) (B:=[4,6].map nOf) (C:=[1,1].map nOf) (a:=⟨1,[fr 8 5,fr 6 5],[fr 2 5,fr 2 5],[]⟩) (by decide) (by decide) (by decide) (tE rfl)
 rw[show rD 2 2 ([1,2,3,1].map nOf) ([4,6].map nOf) ([1,1].map nOf) ⟨1,[fr 8 5,fr 6 5],[fr 2 5,fr 2 5],[]⟩=250 from bA e6T] at q3
 have z1:(r6 r).1=Bq r.1:=rfl
 have z2:(r6 r).2.2=0:=k2
 have z3:(Bq r.1).vKind=2:=k3
 unfold jW
 rw[p1,ab,f1,ab,f2,ab]
 refine (congrArg (fun o=>bnd o _) s1).trans ?_
 rw[ab,p2,ab,i1,ab]
 refine (congrArg (fun o=>bnd o _) s2).trans ?_
 rw[ab,p3,ab,i2,ab,i3,ab]
 refine (congrArg (fun o=>bnd o _) s3).trans ?_
 rw[ab,p4,ab,i4,ab]
 rw[ab]
 refine (congrArg (fun o=>bnd o _) s4).trans ?_
 rw[ab,i5,ab,i6,ab,q1,ab,z1,z2,z3,ab,q2]
 have dt:decide True=true:=rfl
 simp only[ab,cT,dt,f3]
 refine (congrArg (fun o=>bnd (bnd o _) _) q3).trans ?_
 rfl
section
open Go.ChangeShapes Go.WideShapes Go.ChangeAt Go.RowKit Go.Deep
section
variable {H:Type} {enc:TypeId×Value→H} {P:Program}
theorem FG {f:Func}{s:ChangeSpec}{apart fresh handsOn again:Bool}{W W':World}{args:Array Value}{v:Value}{ds gs:List (DataW H)}{before pa pv:List MemPlace}
  (hW:DataW.Whole enc P f.params.toList s.vars apart W args.toList ds gs before)
  (pR:∀(b:Nat) (sp:Nat→Bool) (hd:Bool),DataW.TrodAll enc P W' b sp hd f.resultTypes.toList (v.resultList f.resultTypes.size) (s.fn H (ds++gs)).results [])
  (ve:∀sp:Nat→Bool,(∀p∈before,sp p.block=true)→DataW.TrodAll enc P W' 0 sp true f.params.toList args.toList (s.fn H (ds++gs)).args pa)
  (NR:∀sp:Nat→Bool,(∀p∈before,sp p.block=true)→DataW.TrodVars enc P W' sp s.vars (s.fn H (ds++gs)).vars pv)
  (Sb:before=pa++pv) (hb:Below W.heap.size W W')
  (hok:∀(j:Nat) (t:TypeId) (r:Value),f.resultTypes[j]? =some t→(v.resultList f.resultTypes.size)[j]? =some r→Value.okWide P W' .any 0 t r):
  s.post enc P f apart fresh handsOn again W args v W':=by
 have bH:∀p∈before,p.block<W.heap.size:=fun p hp=>hW.lt p hp
 have hold:∀p∈before,(fun b=>decide (b<W.heap.size)) p.block=true:=fun p hp=>by simpa using bH p hp
 refine⟨ds,gs,before,[],pa,pv,hW,pR _ _ _,ve _ hold,NR _ hold,World.keptBut_mono (fun p hp=>⟨hp,?_⟩) (hb.frame (·∈before)),fun _=>?_⟩
 ·rw[Sb,vg] at hp
  exact Or.inr hp
 ·obtain⟨_,_,_,_,_,hz,hn⟩:=hW
  refine⟨hok,_,_,([]++pa)++pv,⟨[]++pa,pv,trodAll_append (ve _ (fun _ _=>rfl)) (pR _ _ _),NR _ (fun _ _=>rfl),rfl,?_,?_⟩,?_⟩
  ·intro b off hp
   have FT:MemPlace.cell b off∈before:=by rw[Sb];simpa using hp
   rw[hb.frozen (bH _ FT)]
   exact hz b off FT
  ·intro ha
   have:=hn ha
   rw[Sb] at this
   simpa using this
  ·intro p hp _
   rw[Sb]
   simpa using hp
theorem FC(hl:laidOutB P=true){W W':World}(hb:Below W.heap.size W W'){sp:Nat→Bool}:∀(ts:List TypeId) (vs:List Value) (ds:List (DataW H)) (p:List MemPlace),
  (ts.all fun t=>P.readableRec t&&decide (t<P.types.size))=true→DataW.TrodAll enc P W 0 (fun _=>true) true ts vs ds p→(∀x∈p,x.block<W.heap.size)→(∀x∈p,sp x.block=true)→
  DataW.TrodAll enc P W' 0 sp true ts vs ds p:=by
 intro ts
 induction ts with
 |nil=>
  intro vs ds p _ h _ _
  cases vs with
  |nil=>cases ds with
   |nil=>exact h
   |cons d ds=>exact h.elim
  |cons v vs=>exact h.elim
 |cons t ts ih=>
  intro vs ds p hr h bH hs
  cases vs with
  |nil=>exact h.elim
  |cons v vs=>
   cases ds with
   |nil=>exact h.elim
   |cons d ds=>
    obtain⟨p1,q,h1,h2,rfl⟩:=h
    simp only[iK,cj,rG] at hr
    refine⟨p1,q,WideElems.Trod_stays hl hr.1.1 hr.1.2 h1 (fun x hx=>hb.same (bH x (by simp[hx]))) (fun x hx=>hs x (by simp[hx])),ih vs ds q hr.2 h2 (fun x hx=>bH x (by simp[hx])) (fun x hx=>hs x (by simp[hx])),rfl⟩
theorem RK {f:Func}{s:ChangeSpec}{W W':World}{args:Array Value}{ds gs:List (DataW H)}{before:List MemPlace}{tb:TypeId}
  (hl:laidOutB P=true) (hv:s.vars=[]) (hrec:(f.params.toList.all fun t=>P.readableRec t&&decide (t<P.types.size))=true)
  (pR:f.resultTypes=#[tb]) (htb:P.underlying tb=some .bool)
  (hW:DataW.Whole enc P f.params.toList s.vars false W args.toList ds gs before)
  (hfn:s.fn H (ds++gs)={results:=[.lit (.bool true)],args:=ds}) (hb:Below W.heap.size W W'):
  s.post enc P f false true false false W args (.bool true) W':=by
 have hW':=hW
 obtain⟨p,q,hA,hV,hpq,_,_⟩:=hW
 rw[hv] at hV
 have hq:q=[]:=by
  cases gs with
  |nil=>exact hV
  |cons g gs=>exact hV.elim
 subst hq
 rw[sL] at hpq
 subst hpq
 refine FG (pa:=before) (pv:=[]) hW' (fun b sp hd=>?_) (fun sp hsp=>?_) (fun sp _=>?_) (by simp) hb ?_
 ·rw[pR,hfn]
  exact trodAll_cons_mk (shut_bool htb _) trodAll_mk0
 ·rw[hfn]
  exact FC hl hb _ _ _ _ hrec hA (fun x hx=>hW'.lt x hx) hsp
 ·rw[hv,hfn];rfl
 ·exact ok_one pR rfl (okWide_bool_mk htb _)
end
theorem hv_of {P:Program}{W:World}{params:Array TypeId}{args:Array Value}(h:∀(j:Nat) t v,params[j]? =some t→args[j]? =some v→Value.okWide P W .any 0 t v∨∃base,Value.okWide P W .any base t v)(j:Nat){t:TypeId}{v:Value}
  (h1:params[j]? =some t) (h2:args[j]? =some v):∃base,Value.okWide P W .any base t v:=by
 rcases h j t v h1 h2 with h|h
 ·exact⟨0,h⟩
 ·exact h
end
section
open Go.ChangeShapes Go.WideShapes Go.ChangeAt Go.RowKit Go.Deep
def wtFs(tb:TypeId→Option TyE)(f:TypeId→List E→Prop):List (Nat×TypeId)→List E→Prop
 |[],xs=>xs=[]
 |(_,t)::fs,xs=>∃j,tb t=some j∧j.size≤xs.length∧f t (xs.take j.size)∧wtFs tb f fs (xs.drop j.size)
def wtE(tb:TypeId→Option TyE):Nat→TypeId→List E→Prop
 |0,_,_=>False
 |k+1,t,xs=>∃i,tb t=some i∧xs.length=i.size∧match i.ty with
  | .int kd=>∃n,xs=[.lit (.int kd n)]∧(Lit.int kd n).wf=true
  | .bool=>∃b,xs=[.lit (.bool b)]
  | .str=>∃s:ByteArray,xs=[.lit (.string s)]∧s.size≤maxLen
  | .slice e=>∃j n ys,tb e=some j∧xs=[.sl j.size n ys]∧ys.length=n*j.size∧n≤maxLen∧∀i,i<n→wtE tb k e ((ys.drop (i*j.size)).take j.size)
  | .struct fs=>wtFs tb (wtE tb k) fs xs
  | .arr n e=>∃j,tb e=some j∧xs.length=n*j.size∧∀i,i<n→wtE tb k e ((xs.drop (i*j.size)).take j.size)
  |_=>False
def C6(tb:TypeId→Option TyE)(f:TypeId→Bool):List (Nat×TypeId)→Nat→Nat→Bool
 |[],off,n=>off == n
 |(o,t)::fs,off,n=>o == off&&f t&&match tb t with
  |some j=>C6 tb f fs (off+j.size) n
  |none=>false
def Hy(tb:TypeId→Option TyE):Nat→TypeId→Bool
 |0,_=>false
 |k+1,t=>match tb t with
  |some i=>match i.ty with
   | .int _| .bool| .str=>i.size == 1
   | .slice e=>i.size == 1&&Hy tb k e&&match tb e with
    |some j=>decide (0<j.size)
    |none=>false
   | .struct fs=>C6 tb (Hy tb k) fs 0 i.size
   | .arr n e=>Hy tb k e&&match tb e with
    |some j=>i.size == n*j.size
    |none=>false
   |_=>false
  |none=>false
section
variable {H:Type} {enc:TypeId×Value→H} {P:Program} {tb:TypeId→Option TyE} {W:World} {sp:Nat→Bool} {hd:Bool} {base:Nat}
theorem TOk.cells(tok:TOk P tb){t:TypeId}{i:TyE}(h:tb t=some i):P.cellsOf t=i.size:=by
 obtain⟨f,z,h1,h2,_⟩:=tok.inf h
 unfold Program.cellsOf
 rw[h1]
 exact h2
def F0:Addr→Prop:=fun _=>False
theorem Bn {z:Nat}{us:List Value}{Good:List E→Prop}:∀(n:Nat),us.length=n*z→(∀i,i<n→∃xs,Pw (c9 W F0) xs ((us.drop (i*z)).take z)∧Good xs)→
  ∃ys,Pw (c9 W F0) ys us∧ys.length=n*z∧∀i,i<n→Good ((ys.drop (i*z)).take z)
 |0,hl,_=>⟨[],by rw[gv] at hl;rw[r7 hl];exact Pw.nil,by simp,fun i h=>absurd h (qn _)⟩
 |n+1,hl,h=>by
  rw[qo] at hl
  have bH:(us.take (n*z)).length=n*z:=by rw[ee];omega
  obtain⟨ys,h1,h2,h3⟩:=Bn (us:=us.take (n*z)) n bH fun i hi=>by
   obtain⟨xs,g1,g2⟩:=h i (by omega)
   have hm:i*z+z≤n*z:=by rw[←qo];exact cG _ hi
   refine⟨xs,?_,g2⟩
   rw[KE,GU,sJ (by omega)]
   exact g1
  obtain⟨xs,g1,g2⟩:=h n (by omega)
  have hx:xs.length=z:=by rw[g1.1,ee,eV];omega
  refine⟨ys++xs,?_,by rw[cu,h2,hx,qo],fun i hi=>?_⟩
  ·have e:us=us.take (n*z)++(us.drop (n*z)).take z:=by
    rw[gU (l:=us.drop (n*z)) (by rw[eV];omega),td]
   rw[e]
   exact h1.append g1
  ·rcases d6 i n with FT|FT
   ·have hm:i*z+z≤n*z:=by rw[←qo];exact cG _ FT
    rw[MY (by omega),uK (by rw[eV];omega)]
    exact h3 i FT
   ·obtain rfl:i=n:=by omega
    rw[MJ,h2,yL,Ca (by omega)]
    simp only[qu,nd]
    rw[gU (by omega)]
    exact g2
theorem xf(tok:TOk P tb):∀(k:Nat) (fuel:Nat) (t:TypeId) (cs:List Value) (x:DataW H×List MemPlace),Hy tb k t=true→DataW.trod enc P W base sp hd fuel t cs=some x→∃xs,Pw (c9 W F0) xs cs∧wtE tb k t xs
 |0,_,_,_,_,h,_=>by cases h
 |k+1,fuel,t,cs,x,hok,h=>by
  unfold Hy at hok
  cases ht:tb t with
  |none=>rw[ht] at hok;cases hok
  |some i=>
   rw[ht] at hok
   dsimp only at hok
   cases jy:i.ty with
   |int kd=>
    rw[jy] at hok
    have hz:i.size=1:=by simpa using hok
    obtain⟨n,rfl,_,hw⟩:=DataW.trod_int (tok.int ht jy) h
    exact⟨[.lit (.int kd n)],Pw.cons (.lit _ rfl) Pw.nil,i,ht,by rw[hz];rfl,by rw[jy];exact⟨n,rfl,hw⟩⟩
   |bool=>
    rw[jy] at hok
    have hz:i.size=1:=by simpa using hok
    obtain⟨dd,CJ,xQ⟩:=tok.und ht
    rw[jy] at xQ
    have hb:P.underlying t=some .bool:=by cases dd <;> simp[Ty.of] at xQ;exact CJ
    obtain⟨b,rfl,_⟩:=DataW.trod_bool hb h
    exact⟨[.lit (.bool b)],Pw.cons (.lit _ rfl) Pw.nil,i,ht,by rw[hz];rfl,by rw[jy];exact⟨b,rfl⟩⟩
   |str=>
    rw[jy] at hok
    have hz:i.size=1:=by simpa using hok
    obtain⟨s,rfl,_,hs⟩:=DataW.trod_string (tok.str ht jy) h
    exact⟨[.lit (.string s)],Pw.cons (.lit _ rfl) Pw.nil,i,ht,by rw[hz];rfl,by rw[jy];exact⟨s,rfl,hs⟩⟩
   |slice e=>
    rw[jy] at hok
    dsimp only at hok
    cases he:tb e with
    |none=>rw[he] at hok;simp at hok
    |some j=>
     rw[he] at hok
     simp only[cj,beq_iff_eq,rG] at hok
     obtain⟨⟨hz,hoe⟩,HU⟩:=hok
     have hce:=tok.cells he
     rcases open_slice (tok.slice ht jy) h with⟨rfl,_⟩|⟨a,len,cap,m,n,D,Pl,rfl,hb,hlc,oR,hm,_,hi⟩
     ·exact⟨[.sl j.size 0 []],Pw.cons (.sl _ 0 [] none 0 (fun _=>undef) (by simp) HU (ay _) (cl _) (fun h=>absurd h (pl _)) (fun _ h=>by cases h) (fun _ _ h=>by simp at h)) Pw.nil,
       i,ht,by rw[hz];rfl,by rw[jy];exact⟨j,0,[],he,rfl,by simp,cl _,fun i h=>absurd h (qn _)⟩⟩
     ·have hle:len≤m:=by rw[hm];split <;> omega
      rw[hce] at hi
      let us:List Value:=(List.range (len*j.size)).map fun q=>(W.cell? (a.add q)).getD undef
      have NS:us.length=len*j.size:=by simp[us]
      have hu:∀q,q<len*j.size→us[q]? =some ((W.cell? (a.add q)).getD undef):=fun q hq=>by simp[us,hq]
      have SB:∀i,i<len→∃wr,W.cells? base (a.add (i*j.size)) j.size=some wr∧wr=(us.drop (i*j.size)).take j.size:=by
       intro i yC
       obtain⟨wr,hc,_⟩:=hi i (by omega)
       obtain⟨_,t4,DP⟩:=World.cells?_some hc
       refine⟨wr,hc,KB fun q=>?_⟩
       have Sq:i*j.size+j.size≤len*j.size:=by rw[←qo];exact cG _ yC
       rw[gz,na]
       split
       ·rename_i hq
        have h1:=DP q hq
        rw[po] at h1
        rw[hu _ (by omega),h1]
        rw[cz (by omega)];rfl
       ·rename_i hq
        rw[rH (by omega)]
      obtain⟨ys,NQ,DB,hy3⟩:=Bn (W:=W) (us:=us) (z:=j.size) (Good:=wtE tb k e) len NS fun i yC=>by
       obtain⟨wr,hc,hcs'⟩:=SB i yC
       obtain⟨cs2,qC,htr⟩:=hi i (by omega)
       rw[hc] at qC
       injection qC with qC
       subst qC
       rw[←hcs']
       exact xf tok k _ e wr _ hoe htr
      have BX:∀q v,us[q]? =some v→W.cell? (a.add q)=some v:=by
       intro q v hv
       have hq:q<len*j.size:=by
        rcases d6 q us.length with h|h
        ·omega
        ·rw[rH h] at hv;cases hv
       -- rY cell lies in a chunk
       have hqd:q / j.size<len:=Iw (by rw[bx];exact hq)
       obtain⟨wr,hc,hcs'⟩:=SB (q / j.size) hqd
       obtain⟨_,t4,DP⟩:=World.cells?_some hc
       have h1:=DP (q % j.size) (eg _ HU)
       rw[po,bx,lD] at h1
       rw[hu q hq] at hv
       injection hv with hv
       rw[h1] at hv
       rw[h1,cz (by have:=eg q HU;omega)] at*
       simp only[wy] at hv
       rw[hv]
      refine⟨[.sl j.size len ys],Pw.cons (.sl _ len ys (some a) cap (fun q=>us.getD q undef) DB HU hlc oR (fun IX=>⟨a,rfl,?_⟩) (fun ad Qp q y hq=>?_) (fun q y hq=>?_)) Pw.nil,i,ht,by rw[hz];rfl,by rw[jy];exact⟨j,len,ys,he,rfl,DB,dA hlc oR,hy3⟩⟩
      ·have h0:0<len*j.size:=xY IX HU
       have:=World.block_lt_of_cell? W _ (BX 0 _ (hu 0 h0))
       rwa[f4] at this
      ·injection Qp with Qp
       subst Qp
       obtain⟨v,hv,_⟩:=NQ.get hq
       refine⟨?_,fun hf=>hf⟩
       rw[BX q v hv,List.getD,hv];rfl
      ·obtain⟨v,hv,hr⟩:=NQ.get hq
       rw[List.getD,hv]
       exact hr
   |other=>rw[jy] at hok;cases hok
   |struct fs=>
    rw[jy] at hok
    dsimp only at hok
    obtain⟨fields,hf,IZ⟩:=tok.struct ht jy
    obtain⟨xs,n,_,_,t4,Bf,jv⟩:=DataW.trod_struct hf h
    rw[tok.cells ht] at t4
    have key:∀(l:List Field) (off:Nat),(∀f∈l,∃x,DataW.trod enc P W base sp hd n f.type ((cs.drop f.offset).take (P.cellsOf f.type))=some x)→off≤cs.length→C6 tb (Hy tb k) (l.map fun f=>(f.offset,f.type)) off i.size=true→
      ∃ys,Pw (c9 W F0) ys (cs.drop off)∧wtFs tb (wtE tb k) (l.map fun f=>(f.offset,f.type)) ys:=by
     intro l
     induction l with
     |nil=>
      intro off _ ho xM
      have:off=i.size:=by simpa[C6] using xM
      exact⟨[],by rw[Ca (by omega)];exact Pw.nil,rfl⟩
     |cons f l ih=>
      intro off hl ho xM
      simp only[j4,C6,cj,beq_iff_eq] at xM
      obtain⟨⟨hof,Cq⟩,xM⟩:=xM
      cases hj:tb f.type with
      |none=>rw[hj] at xM;cases xM
      |some j=>
       rw[hj] at xM
       dsimp only at xM
       obtain⟨x,hx⟩:=hl f (qv ..)
       rw[tok.cells hj,hof] at hx
       obtain⟨zs,LN,hz2⟩:=xf tok k _ f.type _ _ Cq hx
       have hzl:zs.length=j.size:=by
        cases k with
        |zero=>cases hz2
        |succ k=>
         obtain⟨j',BU,Py,_⟩:=hz2
         rw[hj] at BU
         injection BU with BU
         subst BU
         exact Py
       have hlen:off+j.size≤cs.length:=by
        have:=LN.1
        rw[hzl,ee,eV] at this
        omega
       obtain⟨ys,NQ,DB⟩:=ih (off+j.size) (fun g hg=>hl g (oS _ hg)) hlen xM
       refine⟨zs++ys,?_,j,hj,by rw[cu];omega,?_,?_⟩
       ·have e:cs.drop off=(cs.drop off).take j.size++cs.drop (off+j.size):=by
         rw[←qr,td]
        rw[e]
        exact LN.append NQ
       ·rw[uK (by omega),gU (by omega)]
        exact hz2
       ·rw[MY (by omega),Ca (by omega)]
        exact DB
    obtain⟨ys,NQ,DB⟩:=key fields.toList 0 (fun f hfm=>by
     obtain⟨q,hq⟩:=Af hfm
     have hq':fields[q]? =some f:=by simpa using hq
     have bH:q<xs.length:=by rw[Bf];exact (oD.1 hq').1
     exact⟨xs[q],by rw[jv q f hq',cz bH]⟩) (cl _) (by rw[IZ];exact hok)
    rw[qu] at NQ
    exact⟨ys,NQ,i,ht,by rw[NQ.1,t4],by rw[jy];rw[IZ] at DB;exact DB⟩
   |arr n e=>
    rw[jy] at hok
    dsimp only at hok
    cases he:tb e with
    |none=>rw[he] at hok;simp at hok
    |some j=>
     rw[he] at hok
     simp only[cj,beq_iff_eq] at hok
     obtain⟨hoe,hz⟩:=hok
     obtain⟨xs,m,_,_,t4,Bf,jv⟩:=DataW.trod_array (tok.arr ht jy) h
     rw[tok.cells ht] at t4
     rw[tok.cells he] at jv
     obtain⟨ys,NQ,DB,hy3⟩:=Bn (W:=W) (us:=cs) (z:=j.size) (Good:=wtE tb k e) n (by rw[t4,hz]) fun q hq=>by
      have hq':=jv q hq
      rw[cz (by omega)] at hq'
      exact xf tok k _ e _ _ hoe hq'
     exact⟨ys,NQ,i,ht,by rw[NQ.1,t4],by rw[jy];exact⟨j,he,DB,hy3⟩⟩
def argD(g:Bool)(xs:List E):D:=match g with
 |true=>.ag (xs.map D.e)
 |false=>.e (xs.headD .any)
theorem arg_rep(tok:TOk P tb){k:Nat}{t:TypeId}{i:TyE}{v:Value}{d:DataW H}{p:List MemPlace}{r:Reach}{b0:Nat}(hok:Hy tb k t=true)(ht:tb t=some i)(wl:Value.okWide P W r b0 t v)(h:DataW.Trod enc P W base sp hd t v d p):
  ∃xs,wtE tb k t xs∧lE W F0 (argD i.ty.agg xs) v:=by
 obtain⟨fuel,hf⟩:=h
 obtain⟨xs,hx,hw⟩:=xf tok k fuel t _ _ hok hf
 refine⟨xs,hw,?_⟩
 have one:v.cells=#[v]→lE W F0 (.e (xs.headD .any)) v:=by
  intro hv
  rw[hv] at hx
  cases xs with
  |nil=>have:=hx.1;simp at this
  |cons y ys=>exact aE.e _ _ (hx.2 0 y v rfl rfl)
 have agg:∀cs,v=.agg cs→lE W F0 (.ag (xs.map D.e)) v:=by
  rintro cs rfl
  have hx':Pw (c9 W F0) xs cs.toList:=hx
  refine aE.ag _ cs (by simpa using hx'.1.symm) (fun j u hu=>?_) (fun j d u hd hu=>?_)
  ·have va:cs.toList[j]? =some u:=by simpa using hu
   have bH:j<xs.length:=by
    rw[hx'.1]
    exact (fy.1 va).1
   exact (hx'.2 j _ u (cz bH) va).one
  ·rw[dQ] at hd
   cases hxj:xs[j]? with
   |none=>simp[hxj] at hd
   |some y=>
    simp only[hxj,nP,nO] at hd
    subst hd
    exact .e _ _ (hx'.2 j y u hxj (by simpa using hu))
 cases jy:i.ty with
 |int kd=>obtain⟨n,rfl⟩:=okWide_int (tok.int ht jy) wl;exact one rfl
 |bool=>
  obtain⟨dd,CJ,xQ⟩:=tok.und ht
  rw[jy] at xQ
  have hb:P.underlying t=some .bool:=by cases dd <;> simp[Ty.of] at xQ;exact CJ
  obtain⟨b,rfl⟩:=okWide_bool hb wl
  exact one rfl
 |str=>obtain⟨s,rfl⟩:=okWide_string (tok.str ht jy) wl;exact one rfl
 |slice e=>obtain⟨a,l,c,rfl⟩:=okWide_slice (tok.slice ht jy) wl;exact one rfl
 |struct fs=>
  obtain⟨fields,hf,_⟩:=tok.struct ht jy
  obtain⟨cs,rfl,_⟩:=okWide_struct hf wl
  exact agg cs rfl
 |arr n e=>
  have ha:=tok.arr ht jy
  unfold Value.okWide at wl
  rw[ha] at wl
  obtain⟨cs,rfl,_⟩:=wl
  exact agg cs rfl
 |other=>
  cases k with
  |zero=>cases hok
  |succ k=>unfold Hy at hok;rw[ht] at hok;dsimp only at hok;rw[jy] at hok;cases hok
theorem says_of {f:FuncId}{ds:List D}{args:Array Value}(hc:ar P f ds (.e (.lit (.bool true))))(hsz:args.size=ds.length)(ve:∀(j:Nat) (d:D) (u:Value),ds[j]? =some d→args[j]? =some u→lE W F0 d u):
  Calls P f args W fun e w'=>e=.returned (.bool true)∧Below W.heap.size W w':=by
 refine (hc.2 W F0 args (fun _ h=>h.elim) hsz ve).mono ?_
 rintro e w' ⟨v,rfl,pR,hb⟩
 have hr:lE w' F0 (.e (.lit (.bool true))) v:=pR
 exact⟨by rw[aE.lit hr],hb⟩
theorem uw {α:Type}(cells:α→List E)(z:Nat)(good:α→Prop):∀(n:Nat) (ys:List E),ys.length=n*z→(∀i,i<n→∃a,(ys.drop (i*z)).take z=cells a∧good a)→∃l:List α,l.length=n∧ys=l.flatMap cells∧∀a∈l,good a
 |0,ys,hl,_=>⟨[],rfl,by rw[gv] at hl;rw[r7 hl];rfl,by simp⟩
 |n+1,ys,hl,h=>by
  rw[qo] at hl
  obtain⟨a,ha,hga⟩:=h 0 (Nat.succ_pos n)
  obtain⟨l,h1,h2,h3⟩:=uw cells z good n (ys.drop z) (by rw[eV];omega) fun i hi=>by
   have:=h (i+1) (by omega)
   rw[qr,show z+i*z=(i+1)*z by rw[qo];omega]
   exact this
  simp only[gv,qu] at ha
  refine⟨a::l,by simp[h1],?_,fun b hb=>?_⟩
  ·rw[nC,←ha,←h2,td]
  ·rcases kz.1 hb with rfl|hb
   ·exact hga
   ·exact h3 b hb
end
end
section
def Rd(tb:TypeId→Option TyE)(t:TypeId)(d:Nat){α:Type}(c:Cd α)(W:α→Prop):Prop:=∀k xs,wtE tb (k+d) t xs→∃a,xs=c.f a∧W a
theorem Rd.up {tb:TypeId→Option TyE}{t:TypeId}{d:Nat}{α:Type}{c:Cd α}{W:α→Prop}(h:Rd tb t d c W)(m:Nat):Rd tb t (d+m) c W:=fun k xs h'=>h (k+m) xs (by rw[xz,p6 m d];exact h')
def Wi(k:IntKind)(n:Int):Prop:=k.min≤n∧n≤k.max
section
variable {tb:TypeId→Option TyE} {t e:TypeId} {i j:TyE} {d:Nat} {α:Type} {c:Cd α} {W:α→Prop}
theorem rd_I {k:IntKind}(ht:tb t=some i)(hi:i.ty=.int k):Rd tb t 1 (cI k) (Wi k):=by
 intro n xs h
 obtain⟨i',h1,_,h⟩:=h
 rw[ht] at h1;cases h1
 rw[hi] at h
 obtain⟨m,h1,h2⟩:=h
 exact⟨m,h1,by unfold Wi;simpa[Lit.wf] using h2⟩
theorem rd_B(ht:tb t=some i)(hi:i.ty=.bool):Rd tb t 1 cB (fun _=>True):=by
 intro n xs h
 obtain⟨i',h1,_,h⟩:=h
 rw[ht] at h1;cases h1
 rw[hi] at h
 obtain⟨m,h1⟩:=h
 exact⟨m,h1,trivial⟩
theorem rd_L(ht:tb t=some i)(he:tb e=some j)(hc:Rd tb e d c W)(hi:i.ty=.slice e:=by exact rfl)(hz:c.sz=j.size:=by exact rfl):Rd tb t (d+1) (cL c) (fun l=>l.length≤maxLen∧∀a∈l,W a):=by
 intro n xs h
 obtain⟨i',h1,_,h⟩:=h
 rw[ht] at h1;cases h1
 rw[hi] at h
 obtain⟨j',m,ys,h1,h2,h3,h4,h5⟩:=h
 rw[he] at h1;cases h1
 obtain⟨l,h6,h7,h8⟩:=uw c.f j.size W m ys h3 fun i hi=>hc n _ (h5 i hi)
 refine⟨l,?_,by omega,h8⟩
 rw[h2,h7,←h6,←hz];rfl
theorem il {xs:List E}{n:Nat}{ys zs:List E}(h1:xs.take n=ys)(h2:xs.drop n=zs):xs=ys++zs:=by
 rw[←h1,←h2,td]
theorem arg_of {P:Program}{H:Type}{enc:TypeId×Value→H}{Wd:World}{sp:Nat→Bool}{hd:Bool}{base k:Nat}{v:Value}{dw:DataW H}{p:List MemPlace}{r:Reach}{b0:Nat}(tok:TOk P tb)(hok:Hy tb (k+d) t=true)(ht:tb t=some i)(hc:Rd tb t d c W)(wl:Value.okWide P Wd r b0 t v)(h:DataW.Trod enc P Wd base sp hd t v dw p):
  ∃a,lE Wd F0 (argD i.ty.agg (c.f a)) v∧W a:=by
 obtain⟨xs,h1,h2⟩:=arg_rep tok hok ht wl h
 obtain⟨a,rfl,h3⟩:=hc k xs h1
 exact⟨a,h2,h3⟩
end
end
theorem rd_A {tb:TypeId→Option TyE}{t e:TypeId}{i j:TyE}{d n:Nat}{α:Type}{c:Cd α}{W:α→Prop}(ht:tb t=some i)(he:tb e=some j)(hc:Rd tb e d c W)(hi:i.ty=.arr n e:=by exact rfl)(hz:c.sz=j.size:=by exact rfl):Rd tb t (d+1) (cA n c) (fun v=>∀a∈v.toList,W a):=by
 intro m xs h
 obtain⟨i',h1,_,h⟩:=h
 rw[ht] at h1;cases h1
 rw[hi] at h
 obtain⟨j',h1,h3,h5⟩:=h
 rw[he] at h1;cases h1
 obtain⟨l,h6,h7,h8⟩:=uw c.f j.size W n xs h3 fun i hi=>hc m _ (h5 i hi)
 exact⟨⟨l.toArray,by simpa using h6⟩,h7,h8⟩
def QR(x:ao):Prop:=(True∧True∧∀a∈x.vN.vW.toList,Wi .u32 a)∧(True∧True∧∀a∈x.vD.vW.toList,Wi .u32 a)
theorem Rt {x:ap}(h:∀a∈x.vW.toList,Wi .u32 a):okI x:=fun j hj=>by
 have h2:=h x.vW[j]! (by rw[bJ x.vW j hj];simp)
 exact⟨h2.1,by have:x.vW[j]!≤4294967295:=h2.2;omega⟩
theorem okR_of {x:ao}(h:QR x):okR x:=⟨Rt h.1.2.2,Rt h.2.2.2⟩
def QL(l:List ao):Prop:=l.length≤maxLen∧∀x∈l,QR x
theorem QL.nu {l:List ao}(h:QL l):l=(l.map nU).map nv∧(l.map nU).length≤9223372036854775807:=by
 refine⟨(tx fun x hx=>okR_of (h.2 x hx)).symm,?_⟩
 rw[bh]
 exact dA h.1 (by decide)
section
theorem Dz {d:Dic}{w s:Nat}{z:Nu}(hI:Inv d w)(hs:s<w):∀{n:Nat} {p:Int×Nu},n≤d.rows.length→i8 d.rows s z n=some p→
  ∀j,j<n→bI d.rows[j]!.c[s]! <0→∃i,i<n∧p.1=(i:Int)∧aw (nV d.rows[j]!.k (eR d.rows[j]!.c[s]!))=true∧rv p.2≤rv (nV d.rows[j]!.k (eR d.rows[j]!.c[s]!))∧(rv p.2=rv (nV d.rows[j]!.k (eR d.rows[j]!.c[s]!))→d.rows[i]!.b≤d.rows[j]!.b)
 |0,p,_,h,j,hj,_=>by omega
 |n+1,p,hn,h,j,hj,nX=>by
  unfold i8 at h
  cases hq:i8 d.rows s z n with
  |none=>rw[hq] at h;cases h
  |some q=>
   rw[hq] at h
   have ih:=Dz hI hs (show n≤d.rows.length by omega) hq
   have sm:=o7 hq
   unfold rm at h
   dsimp only at h
   split at h
   ·rename_i h1
    injection h with h
    subst h
    rcases d6 j n with tf|tf
    ·obtain⟨i,a1,a2⟩:=ih j tf nX
     exact⟨i,by omega,a2⟩
    ·obtain rfl:j=n:=by omega
     omega
   ·rename_i h1
    split at h
    ·cases h
    ·rename_i h2
     have hqg:aw (nV d.rows[n]!.k (eR d.rows[n]!.c[s]!))=true:=by simpa using h2
     split at h
     ·rename_i h3
      injection h with h
      subst h
      refine⟨n,by omega,rfl,?_⟩
      dsimp only
      rcases d6 j n with tf|tf
      ·obtain⟨i,a1,a2,a3,a4,a5⟩:=ih j tf nX
       rcases sm with e|⟨i',b1,b2,b3,b4,b5⟩
       ·omega
       obtain rfl:i=i':=by omega
       obtain⟨_,_,c3,c4⟩:=rC hqg b4
       refine⟨a3,?_⟩
       rcases h3 with h3|h3|⟨h3,h4⟩
       ·omega
       ·have:=c3.1 h3
        exact⟨by grind,fun e=>by grind⟩
       ·have e:=c4.1 h3
        rw[a2,show ((i:Int)).toNat=i by omega] at h4
        exact⟨by grind,fun e2=>by have:=a5 (by rw[←e];exact e2);omega⟩
      ·obtain rfl:j=n:=by omega
       exact⟨hqg,by grind,fun _=>yK _⟩
     ·rename_i h3
      injection h with h
      subst h
      rcases sm with e|⟨i',b1,b2,b3,b4,b5⟩
      ·exact absurd (.inl (by omega)) h3
      rcases d6 j n with tf|tf
      ·obtain⟨i,a1,a2⟩:=ih j tf nX
       exact⟨i,by omega,a2⟩
      ·obtain rfl:j=n:=by omega
       obtain⟨_,_,c3,c4⟩:=rC hqg b4
       have n1:¬rv (nV d.rows[j]!.k (eR d.rows[j]!.c[s]!))<rv q.2:=fun e=>h3 (.inr (.inl (c3.2 e)))
       refine⟨i',by omega,b2,hqg,by grind,fun e=>?_⟩
       have n2:¬d.rows[j]!.b<d.rows[q.1.toNat]!.b:=fun e2=>h3 (.inr (.inr ⟨c4.2 e.symm,e2⟩))
       rw[b2,show ((i':Int)).toNat=i' by omega] at n2
       omega
def rX(d:Dic):Prop:=∀i,i<d.rows.length→0≤rv d.rows[i]!.k
structure Step(d d':Dic)(w:Nat)(i s:Nat):Prop where
 en:jY d.gc=some s
 lv:∃q:Nu,i8 d.rows s default d.rows.length=some ((i:Int),q)
 good:gG d w i s
 eq:d'=f5 d i s
def Bas(d:Dic)(t:Nat):Prop:=∃j,j<d.rows.length∧d.rows[j]!.b=(t:Int)
def mR(d:Dic)(t:Nat):Rat:=match d.rows.findIdx? fun r=>decide (r.b=(t:Int)) with|some i=>rv d.rows[i]!.k|none=>0
section
variable {d d':Dic} {w i s:Nat}
theorem Inv.bsol_row(hI:Inv d w){i:Nat}(hi:i<d.rows.length):mR d d.rows[i]!.b.toNat=rv d.rows[i]!.k:=by
 have hr:=hI.rng i hi
 unfold mR
 have:(d.rows.findIdx? fun r=>decide (r.b=((d.rows[i]!.b.toNat:Nat):Int)))=some i:=by
  rw[ox]
  refine⟨hi,?_,fun j hj=>?_⟩
  ·have:d.rows[i].b=d.rows[i]!.b:=by rw[bJ d.rows i hi]
   exact aA (by omega)
  ·have h2:d.rows[j].b=d.rows[j]!.b:=by rw[bJ d.rows j (by omega)]
   have:=hI.inj i j hi (by omega)
   simp only[rG]
   omega
 rw[this]
theorem lf {t:Nat}(h:¬Bas d t):mR d t=0:=by
 unfold mR
 have:(d.rows.findIdx? fun r=>decide (r.b=(t:Int)))=none:=by
  rw[uE]
  intro r hr
  obtain⟨j,hj,rfl⟩:=wC.1 hr
  refine bk fun e=>h ⟨j,hj,?_⟩
  rw[bJ d.rows j hj];exact e
 rw[this]
theorem I4 {k:Nu}{c:List Nu}{y:Nat→Rat}(hs:s<w)(h:∀t,t<w→t≠s→y t=0∨c[t]! =nOf 0):bK w k c y=rv k+rv c[s]! *y s:=by
 unfold bK
 rw[aB (g:=fun t=>if t=s then rv c[s]! *y s else 0) fun t ht=>?_,lV s _ w hs]
 by_cases qM:t=s
 ·rw[ai qM,qM]
 ·rw[ah qM]
  rcases h t ht qM with e|e
  ·rw[e];grind
  ·rw[e,of0.2];grind
theorem Inv.bas(hI:Inv d w){t:Nat}(h:Bas d t):t<w∧d.gc[t]! =nOf 0∧∀i,i<d.rows.length→d.rows[i]!.c[t]! =nOf 0:=by
 obtain⟨j,hj,e⟩:=h
 have hr:=hI.rng j hj
 have et:d.rows[j]!.b.toNat=t:=by omega
 have h1:=hI.zg j hj
 rw[et] at h1
 exact⟨by omega,h1,fun i hi=>by have:=hI.zr i j hi hj;rwa[et] at this⟩
theorem Inv.at(hI:Inv d w)(hs:s<w)(Sk:¬Bas d s){y:Nat→Rat}(hy:Sol d w y)(h0:∀t,t<w→¬Bas d t→t≠s→y t=0):(∀i,i<d.rows.length→y d.rows[i]!.b.toNat=rv d.rows[i]!.k+rv d.rows[i]!.c[s]! *y s)∧bK w d.gk d.gc y=rv d.gk+rv d.gc[s]! *y s:=by
 refine⟨fun i hi=>?_,?_⟩
 ·rw[hy i hi]
  refine I4 hs fun t ht qM=>?_
  by_cases hb:Bas d t
  ·exact .inr ((hI.bas hb).2.2 i hi)
  ·exact .inl (h0 t ht hb qM)
 ·refine I4 hs fun t ht qM=>?_
  by_cases hb:Bas d t
  ·exact .inr (hI.bas hb).2.1
  ·exact .inl (h0 t ht hb qM)
theorem Inv.uniq(hI:Inv d w){y:Nat→Rat}(hy:Sol d w y)(h0:∀t,t<w→¬Bas d t→y t=0):(∀t,t<w→y t=mR d t)∧bK w d.gk d.gc y=rv d.gk:=by
 have hw:∀(k:Nu) (c:List Nu),(∀t,Bas d t→c[t]! =nOf 0)→bK w k c y=rv k:=fun k c hc=>by
  unfold bK
  rw[aB (g:=fun _=>0) fun t ht=>?_,fE]
  ·grind
  ·by_cases hb:Bas d t
   ·rw[hc t hb,of0.2];grind
   ·rw[h0 t ht hb];grind
 refine⟨fun t ht=>?_,hw _ _ fun t hb=>(hI.bas hb).2.1⟩
 by_cases hb:Bas d t
 ·obtain⟨j,hj,e⟩:=hb
  have et:d.rows[j]!.b.toNat=t:=by omega
  rw[←et,hI.bsol_row hj,hy j hj]
  exact hw _ _ fun t hb=>(hI.bas hb).2.2 j hj
 ·rw[h0 t ht hb,lf hb]
theorem Inv.bsol(hI:Inv d w):Sol d w (mR d):=by
 obtain⟨y,hy,hv⟩:=hI.pick fun _=>0
 have h0:∀t,t<w→¬Bas d t→y t=0:=fun t _ hb=>hv t fun j hj e=>hb ⟨j,hj,e⟩
 obtain⟨h1,_⟩:=hI.uniq hy h0
 intro i hi
 have hr:=hI.rng i hi
 rw[←h1 _ (by omega),hy i hi]
 unfold bK
 congr 1
 exact aB fun t ht=>by rw[h1 t ht]
theorem Inv.bgoal(hI:Inv d w):bK w d.gk d.gc (Go.Proofs.YtaedcknhkjpmlaaGreat.mR d)=rv d.gk:=(hI.uniq hI.bsol fun _ _ hb=>lf hb).2
structure Ci(d d':Dic)(w i s:Nat):Prop where
 hi:i<d.rows.length
 hs:s<w
 inv:Inv d w
 inv':Inv d' w
 gs:0<rv d.gc[s]!
 low:∀t,t<s→rv d.gc[t]!≤0
 cs:rv d.rows[i]!.c[s]! <0
 min:∀j,j<d.rows.length→rv d.rows[j]!.c[s]! <0→rv d.rows[i]!.k / -rv d.rows[i]!.c[s]!≤rv d.rows[j]!.k / -rv d.rows[j]!.c[s]!∧(rv d.rows[i]!.k / -rv d.rows[i]!.c[s]! =rv d.rows[j]!.k / -rv d.rows[j]!.c[s]!→d.rows[i]!.b≤d.rows[j]!.b)
 sol:∀y,Sol d' w y↔Sol d w y
 goal:∀y,Sol d w y→bK w d'.gk d'.gc y=bK w d.gk d.gc y
 ns:¬Bas d s
 len:d'.rows.length=d.rows.length
 bas:∀t,Bas d' t↔t=s∨(Bas d t∧d.rows[i]!.b≠(t:Int))
theorem Step.toF(h:Step d d' w i s):Ci d d' w i s:=by
 obtain⟨q,hl⟩:=h.lv
 have hG:=h.good
 have hI:=hG.inv
 obtain⟨h1,h2,h3⟩:=pi h.en
 have N1:=(bg.1 hI.fine.gg).2
 have hrg:∀j,j<d.rows.length→aw d.rows[j]!.c[s]! =true∧aw d.rows[j]!.k=true:=fun j hj=>⟨(bg.1 (hI.fine.gr j hj)).2 s (by rw[hI.fine.lr j hj];exact hG.hs),(bg.1 (hI.fine.gr j hj)).1⟩
 have hls:=o7 hl
 obtain⟨i',a1,a2,a3,a4,a5⟩:∃i',i'<d.rows.length∧(i:Int)=(i':Int)∧bI d.rows[i']!.c[s]! <0∧aw q=true∧q=nV d.rows[i']!.k (eR d.rows[i']!.c[s]!):=by
  rcases hls with e|e
  ·dsimp only at e;omega
  ·exact e
 obtain rfl:i=i':=by omega
 have hq:rv q=rv d.rows[i]!.k / -rv d.rows[i]!.c[s]! :=by
  have a4':=a4
  rw[a5] at a4' ⊢
  rw[(tK a4').2.2.2,lJ]
 have Sk:¬Bas d s:=fun⟨j,hj,e⟩=>hG.nb j hj e
 refine⟨a1,hG.hs,hI,by rw[h.eq];exact hG.toInv,(Jv (N1 s h1)).1 h2,fun t ht=>?_,(tr (hrg i a1).1).1 a3,fun j hj hc=>?_,fun y=>by rw[h.eq];exact hG.sol y,fun y hy=>by rw[h.eq];exact hG.goal hy,Sk,by rw[h.eq];exact d7,fun t=>?_⟩
 ·have h4:=h3 t ht
  have h5:=Jv (N1 t (by omega))
  grind
 ·obtain⟨i',b1,b2,b3,b4,b5⟩:=Dz hI hG.hs (ay _) hl j hj ((tr (hrg j hj).1).2 hc)
  obtain rfl:i=i':=by omega
  rw[(tK b3).2.2.2,lJ,hq] at b4 b5
  exact⟨b4,b5⟩
 ·rw[h.eq]
  unfold Bas
  rw[d7]
  constructor
  ·rintro⟨j,hj,e⟩
   rw[o5 hj] at e
   by_cases yY:j=i
   ·rw[ai yY] at e;exact .inl (by omega)
   ·rw[ah yY] at e
    exact .inr ⟨⟨j,hj,e⟩,fun e2=>yY (hI.inj j i hj a1 (by omega))⟩
  ·rintro (e|⟨⟨j,hj,e⟩,e2⟩)
   ·exact⟨i,a1,by rw[o5 a1,ai rfl,e]⟩
   ·refine⟨j,hj,?_⟩
    rw[o5 hj,ah (fun e3=>e2 (by rw[←e3];exact e))]
    exact e
theorem Ci.move(h:Ci d d' w i s):rv d'.gk=rv d.gk+rv d.gc[s]! *mR d' s∧mR d' s=rv d.rows[i]!.k / -rv d.rows[i]!.c[s]!∧∀j,j<d.rows.length→mR d' d.rows[j]!.b.toNat=rv d.rows[j]!.k+rv d.rows[j]!.c[s]! *mR d' s:=by
 have hy:=(h.sol (mR d')).1 h.inv'.bsol
 have hr:=h.inv.rng i h.hi
 have h0:∀t,t<w→¬Bas d t→t≠s→mR d' t=0:=fun t _ hb qM=>lf fun oL=>by
  rcases (h.bas t).1 oL with e|⟨e,_⟩
  ·exact qM e
  ·exact hb e
 obtain⟨h1,h2⟩:=h.inv.at h.hs h.ns hy h0
 have h3:=h.goal _ hy
 rw[h.inv'.bgoal,h2] at h3
 have h4:mR d' d.rows[i]!.b.toNat=0:=lf fun oL=>by
  rcases (h.bas _).1 oL with e|⟨_,e⟩
  ·exact h.ns ⟨i,h.hi,by omega⟩
  ·exact e (by omega)
 have h5:=h1 i h.hi
 rw[h4] at h5
 have hc:=h.cs
 refine⟨h3,?_,h1⟩
 rw[iA]
 have:mR d' s=(rv d.rows[i]!.k+rv d.rows[i]!.c[s]! *mR d' s)*(-rv d.rows[i]!.c[s]!)⁻¹+mR d' s:=by rw[←h5];grind
 grind
theorem B6 {a b:Rat}(ha:0≤a)(hb:0<b):0≤a / b:=by
 rw[iA]
 have:0≤b⁻¹:=Rat.le_of_lt (Rat.inv_pos.2 hb)
 exact Ev ha this
theorem Ci.feas(h:Ci d d' w i s)(hf:rX d):rX d'∧rv d.gk≤rv d'.gk:=by
 obtain⟨m1,m2,m3⟩:=h.move
 have hc:=h.cs
 have hk:=hf i h.hi
 have hr0:0≤mR d' s:=by rw[m2];exact B6 hk (by grind)
 refine⟨fun j hj=>?_,?_⟩
 ·rw[h.len] at hj
  have BU:j<d'.rows.length:=by rw[h.len];exact hj
  have hr:=h.inv'.rng j BU
  rw[←h.inv'.bsol_row BU]
  rcases (h.bas d'.rows[j]!.b.toNat).1 ⟨j,BU,by omega⟩ with e|⟨⟨n,hn,e⟩,_⟩
  ·rw[e];exact hr0
  ·have FQ:=h.inv.rng n hn
   have:d'.rows[j]!.b.toNat=d.rows[n]!.b.toNat:=by omega
   rw[this,m3 n hn]
   have w8:=hf n hn
   rcases (Rat.le_total:0≤rv d.rows[n]!.c[s]!∨rv d.rows[n]!.c[s]!≤0) with CK|CK
   ·have:=Ev CK hr0;grind
   ·by_cases hz:rv d.rows[n]!.c[s]! =0
    ·rw[hz];grind
    ·have nX:rv d.rows[n]!.c[s]! <0:=by grind
     have hm:=(h.min n hn nX).1
     rw[←m2] at hm
     have h6:=Rat.mul_le_mul_of_nonneg_left hm (show 0≤-rv d.rows[n]!.c[s]! by grind)
     have h7:-rv d.rows[n]!.c[s]! *(rv d.rows[n]!.k / -rv d.rows[n]!.c[s]!)=rv d.rows[n]!.k:=by rw[iA];grind
     rw[h7] at h6
     grind
 ·have:=Ev (Rat.le_of_lt h.gs) hr0
  grind
end
end
section
theorem LK {a:Nat}{P:(b:Nat)→a≤b→Prop}(base:P a (ay a))(succ:∀(b:Nat) (h:a≤b),P b h→P (b+1) (Nat.le_succ_of_le h))(b:Nat)(h:a≤b):P b h:=by
 obtain⟨k,rfl⟩:=Nat.exists_eq_add_of_le h
 induction k with
 |zero=>exact base
 |succ k ih=>exact succ (a+k) (sK a k) (ih _)
theorem flip {f:Nat→Prop}{a b:Nat}(Fl:a≤b)(ha:f a)(hb:¬f b):∃u,a≤u∧u<b∧f u∧¬f (u+1):=by
 induction b,Fl using LK with
 |base=>exact absurd ha hb
 |succ n hn ih=>
  by_cases h:f n
  ·exact⟨n,hn,eo n,h,hb⟩
  ·obtain⟨u,h1,h2,h3⟩:=ih h
   exact⟨u,h1,by omega,h3⟩
theorem SY {f:Nat→Prop}{w:Nat}(h:∃t,t<w∧f t):∃t,t<w∧f t∧∀r,r<w→f r→r≤t:=by
 induction w with
 |zero=>obtain⟨t,ht,_⟩:=h;omega
 |succ n ih=>
  by_cases hn:f n
  ·exact⟨n,eo n,hn,fun r hr _=>by omega⟩
  ·obtain⟨t,ht,hf⟩:=h
   have:t≠n:=fun e=>hn (by rw[←e];exact hf)
   obtain⟨t',h1,h2,h3⟩:=ih ⟨t,by omega,hf⟩
   exact⟨t',by omega,h2,fun r hr Qj=>by
    have:r≠n:=fun e=>hn (by rw[←e];exact Qj)
    exact h3 r (by omega) Qj⟩
section
variable {D:Nat→Dic} {I S:Nat→Nat} {w n:Nat}
structure wX(D:Nat→Dic)(I S:Nat→Nat)(w n:Nat):Prop where
 step:∀u,u<n→Ci (D u) (D (u+1)) w (I u) (S u)
 inv:∀u,u≤n→Inv (D u) w
 feas:rX (D 0)
theorem wX.sol(h:wX D I S w n):∀u,u≤n→∀y,Sol (D u) w y↔Sol (D 0) w y
 |0,_,_=>Iff.rfl
 |u+1,hu,y=>((h.step u (by omega)).sol y).trans (h.sol u (by omega) y)
theorem wX.goal(h:wX D I S w n):∀u,u≤n→∀y,Sol (D 0) w y→bK w (D u).gk (D u).gc y=bK w (D 0).gk (D 0).gc y
 |0,_,_,_=>rfl
 |u+1,hu,y,hy=>((h.step u (by omega)).goal y ((h.sol u (by omega) y).2 hy)).trans (h.goal u (by omega) y hy)
theorem wX.feas'(h:wX D I S w n):∀u,u≤n→rX (D u)
 |0,_=>h.feas
 |u+1,hu=>((h.step u (by omega)).feas (h.feas' u (by omega))).1
theorem wX.up(h:wX D I S w n){a:Nat}:∀b,a≤b→b≤n→rv (D a).gk≤rv (D b).gk:=by
 intro b Fl
 induction b,Fl using LK with
 |base=>intro _;grind
 |succ b _ ih=>
  intro hb
  have:=ih (by omega)
  have:=((h.step b (by omega)).feas (h.feas' b (by omega))).2
  grind
theorem wX.bland(h:wX D I S w n){a b:Nat}(Fl:a<b)(hb:b≤n):¬∀t,Bas (D a) t↔Bas (D b) t:=by
 intro zS
 have hIa:=h.inv a (by omega)
 have hIb:=h.inv b hb
 -- rY goal is bK rY same
 have hyb:Sol (D a) w (mR (D b)):=(h.sol a (by omega) _).2 ((h.sol b hb _).1 hIb.bsol)
 obtain⟨hu1,hu2⟩:=hIa.uniq hyb fun t _ hn=>lf fun e=>hn ((zS t).2 e)
 have hz:rv (D a).gk=rv (D b).gk:=by
  rw[←hu2,h.goal a (by omega) _ ((h.sol b hb _).1 hIb.bsol),←h.goal b hb _ ((h.sol b hb _).1 hIb.bsol),hIb.bgoal]
 have hzz:∀u,a≤u→u≤b→rv (D u).gk=rv (D a).gk:=fun u h1 h2=>by
  have e1:=h.up (a:=a) u h1 (by omega)
  have e2:=h.up (a:=u) b h2 hb
  grind
 -- nothing moves
 have hmv:∀u,a≤u→u<b→mR (D (u+1)) (S u)=0∧∀t,t<w→mR (D (u+1)) t=mR (D u) t:=fun u h1 h2=>by
  have hs:=h.step u (by omega)
  obtain⟨m1,m2,m3⟩:=hs.move
  rw[hzz (u+1) (by omega) (by omega),hzz u h1 (by omega)] at m1
  have hg:=hs.gs
  have h0:mR (D (u+1)) (S u)=0:=by
   have:rv (D u).gc[S u]! *mR (D (u+1)) (S u)=0:=by grind
   rcases Is.1 this with e|e
   ·grind
   ·exact e
  refine⟨h0,fun t ht=>?_⟩
  refine ((h.inv u (by omega)).uniq ((hs.sol _).1 (h.inv (u+1) (by omega)).bsol) fun r hr hn=>?_).1 t ht
  by_cases Fd:r=S u
  ·rw[Fd];exact h0
  ·exact lf fun e=>by
    rcases (hs.bas r).1 e with e|⟨e,_⟩
    ·exact Fd e
    ·exact hn e
 have hbs:∀u,a≤u→u≤b→∀t,t<w→mR (D u) t=mR (D a) t:=by
  intro u h1
  induction u,h1 using LK with
  |base=>intro _ _ _;rfl
  |succ u h1 ih=>
   intro h2 t ht
   rw[(hmv u h1 (by omega)).2 t ht]
   exact ih (by omega) t ht
 -- rY variables that come and go
 let S9:Nat→Prop:=fun t=>(∃u,a≤u∧u≤b∧Bas (D u) t)∧∃u,a≤u∧u≤b∧¬Bas (D u) t
 have hf0:∀t,t<w→S9 t→mR (D a) t=0:=fun t ht hf=>by
  obtain⟨_,u,h1,h2,h3⟩:=hf
  rw[←hbs u h1 h2 t ht];exact lf h3
 have hex:∃t,t<w∧S9 t:=by
  have hs:=h.step a (by omega)
  exact⟨S a,hs.hs,⟨a+1,by omega,by omega,(hs.bas _).2 (.inl rfl)⟩,⟨a,ay _,by omega,hs.ns⟩⟩
 obtain⟨t,HP,⟨⟨p,p1,p2,p3⟩,q,q1,q2,q3⟩,hmax⟩:=SY hex
 -- where it leaves,and where it enters
 have hl:∃u,a≤u∧u<b∧Bas (D u) t∧¬Bas (D (u+1)) t:=by
  by_cases hba:Bas (D a) t
  ·obtain⟨u,h1,h2,h3⟩:=flip (f:=fun u=>Bas (D u) t) q1 hba q3
   exact⟨u,h1,by omega,h3⟩
  ·have hbb:¬Bas (D b) t:=fun e=>hba ((zS t).2 e)
   obtain⟨u,h1,h2,h3⟩:=flip (f:=fun u=>Bas (D u) t) p2 p3 hbb
   exact⟨u,by omega,h2,h3⟩
 have hen:∃v,a≤v∧v<b∧¬Bas (D v) t∧Bas (D (v+1)) t:=by
  by_cases hba:Bas (D a) t
  ·have hbb:Bas (D b) t:=(zS t).1 hba
   obtain⟨u,h1,h2,h3,h4⟩:=flip (f:=fun u=>¬Bas (D u) t) q2 q3 (fun e=>e hbb)
   exact⟨u,by omega,h2,h3,Bs.1 h4⟩
  ·obtain⟨u,h1,h2,h3,h4⟩:=flip (f:=fun u=>¬Bas (D u) t) p1 hba (fun e=>e p3)
   exact⟨u,h1,by omega,h3,Bs.1 h4⟩
 obtain⟨u,u1,u2,u3,u4⟩:=hl
 obtain⟨v,v1,v2,v3,v4⟩:=hen
 have LR:=h.step u (by omega)
 have hsv:=h.step v (by omega)
 have hIu:=h.inv u (by omega)
 have hIv:=h.inv v (by omega)
 have hsvt:S v=t:=by
  rcases (hsv.bas t).1 v4 with e|⟨e,_⟩
  ·exact e.symm
  ·exact absurd e v3
 have HQ:(D u).rows[I u]!.b=(t:Int):=by
  apply Eu
  intro e
  exact u4 ((LR.bas t).2 (.inr ⟨u3,e⟩))
 have hsf:S9 (S u):=⟨⟨u+1,by omega,by omega,(LR.bas _).2 (.inl rfl)⟩,⟨u,u1,by omega,LR.ns⟩⟩
 have GC:S u<t:=by
  have:=hmax (S u) LR.hs hsf
  have:S u≠t:=fun e=>LR.ns (by rw[e];exact u3)
  omega
 have ms:∀r,r<t→rv (D v).gc[r]!≤0:=fun r hr=>hsv.low r (by rw[hsvt];exact hr)
 have hgt:0<rv (D v).gc[t]! :=by have:=hsv.gs;rwa[hsvt] at this
 -- rY numbers that fit D u with rY entering variable free
 have hline:∀l:Rat,∃y,Sol (D u) w y∧y (S u)=l∧∀r,r<w→¬Bas (D u) r→r≠S u→y r=0:=fun l=>by
  obtain⟨y,hy,hv⟩:=hIu.pick fun r=>if r=S u then l else 0
  refine⟨y,hy,?_,fun r hr hb Fd=>?_⟩
  ·rw[hv (S u) fun j hj e=>LR.ns ⟨j,hj,e⟩,ai rfl]
  ·rw[hv r fun j hj e=>hb ⟨j,hj,e⟩,ah Fd]
 obtain⟨y0,a1,a2,a3⟩:=hline 0
 obtain⟨y1,b1,b2,b3⟩:=hline 1
 obtain⟨c1,c2⟩:=hIu.at LR.hs LR.ns a1 a3
 obtain⟨d1,d2⟩:=hIu.at LR.hs LR.ns b1 b3
 have g0:bK w (D v).gk (D v).gc y0=rv (D u).gk:=by
  rw[h.goal v (by omega) _ ((h.sol u (by omega) _).1 a1),←h.goal u (by omega) _ ((h.sol u (by omega) _).1 a1),c2,a2];grind
 have g1:bK w (D v).gk (D v).gc y1=rv (D u).gk+rv (D u).gc[S u]! :=by
  rw[h.goal v (by omega) _ ((h.sol u (by omega) _).1 b1),←h.goal u (by omega) _ ((h.sol u (by omega) _).1 b1),d2,b2];grind
 have N5:bi w (fun r=>rv (D v).gc[r]! *(y1 r - y0 r))=rv (D u).gc[S u]! :=by
  have:(fun r=>rv (D v).gc[r]! *(y1 r - y0 r))=fun r=>rv (D v).gc[r]! *y1 r - rv (D v).gc[r]! *y0 r:=by funext r;grind
  rw[this,zw (fun r=>rv (D v).gc[r]! *y1 r) (fun r=>rv (D v).gc[r]! *y0 r)]
  unfold bK at g0 g1
  grind
 -- a term is positive
 have hpos:∃r,r<w∧0<rv (D v).gc[r]! *(y1 r - y0 r):=by
  apply Eu
  intro LX
  have:bi w (fun r=>rv (D v).gc[r]! *(y1 r - y0 r))≤bi w (fun _=>0):=sumN_le fun r hr=>by
   have:¬0<rv (D v).gc[r]! *(y1 r - y0 r):=fun e=>LX ⟨r,hr,e⟩
   grind
  rw[N5,fE] at this
  have:=LR.gs
  grind
 obtain⟨r,hrw,hr⟩:=hpos
 have hrne:r≠S u:=fun e=>by
  rw[e,b2,a2] at hr
  have:=ms (S u) GC
  grind
 have hrb:Bas (D u) r:=by
  apply Eu
  intro e
  rw[a3 r hrw e hrne,b3 r hrw e hrne] at hr
  grind
 have hgr0:rv (D v).gc[r]!≠0:=fun e=>by rw[e] at hr;grind
 have hrnv:¬Bas (D v) r:=fun e=>hgr0 (by rw[(hIv.bas e).2.1];exact of0.2)
 have hrf:S9 r:=⟨⟨u,u1,by omega,hrb⟩,⟨v,v1,by omega,hrnv⟩⟩
 obtain⟨j,hj,hjb⟩:=hrb
 have hjr:(D u).rows[j]!.b.toNat=r:=by omega
 have hd:y1 r - y0 r=rv (D u).rows[j]!.c[S u]! :=by
  have e1:=d1 j hj
  have e0:=c1 j hj
  rw[hjr,b2] at e1
  rw[hjr,a2] at e0
  grind
 rw[hd] at hr
 have hcI:=LR.cs
 have hrt:r≠t:=fun e=>by
  have:j=I u:=hIu.inj j (I u) hj LR.hi (by rw[hjb,HQ,e])
  rw[this,e] at hr
  have:=Rat.mul_pos hgt (show 0< -rv (D u).rows[I u]!.c[S u]! by grind)
  grind
 have hrlt:r<t:=by have:=hmax r hrw hrf;omega
 have hgneg:rv (D v).gc[r]! <0:=by have:=ms r hrlt;grind
 have hcneg:rv (D u).rows[j]!.c[S u]! <0:=by
  apply Eu
  intro e
  have:=Ev (show 0≤-rv (D v).gc[r]! by grind) (show 0≤rv (D u).rows[j]!.c[S u]! by grind)
  grind
 -- both rows have rY constant 0
 have hk:∀(i:Nat) (x:Nat),i<(D u).rows.length→(D u).rows[i]!.b=(x:Int)→x<w→S9 x→rv (D u).rows[i]!.k=0:=fun i x hi e hx hf=>by
  rw[←hIu.bsol_row hi,show (D u).rows[i]!.b.toNat=x by omega,hbs u u1 (by omega) x hx]
  exact hf0 x hx hf
 have k1:=hk j r hj hjb hrw hrf
 have k2:=hk (I u) t LR.hi HQ HP ⟨⟨p,p1,p2,p3⟩,q,q1,q2,q3⟩
 have DI:=(LR.min j hj hcneg).2
 rw[k1,k2,iA,iA] at DI
 have:=DI (by grind)
 rw[HQ,hjb] at this
 omega
end
end
abbrev Col:=Nat→Rat
def sgd(j:Nat):Rat:=if j % 2=0 then 1 else -1
theorem Q2(j:Nat):sgd (j+1)=-sgd j:=by
 unfold sgd
 by_cases h:j % 2=0
 ·rw[ai h,ah (by omega)]
 ·rw[ah h,ai (by omega)];grind
def skip(j i:Nat):Nat:=if i<j then i else i+1
def kr(f:Nat→Col)(j:Nat):Nat→Col:=fun c r=>f (skip j c) (r+1)
def det:Nat→(Nat→Col)→Rat
 |0,_=>1
 |n+1,f=>bi (n+1) fun j=>sgd j*(f j 0*det n (kr f j))
def fa(f:Nat→Col)(a:Nat)(u:Col):Nat→Col:=fun c=>if c=a then u else f c
theorem tM:∀{n:Nat} {f g:Nat→Col},(∀c,c<n→∀r,r<n→f c r=g c r)→det n f=det n g
 |0,_,_,_=>rfl
 |n+1,f,g,h=>by
  unfold det
  refine aB fun j hj=>?_
  rw[h j hj 0 (by omega),tM (f:=kr f j) (g:=kr g j) fun c hc r hr=>?_]
  unfold kr skip
  split
  ·exact h _ (by omega) _ (by omega)
  ·exact h _ (by omega) _ (by omega)
def place(j a:Nat):Nat:=if a<j then a else a - 1
theorem Lo {j a:Nat}(h:j≠a):skip j (place j a)=a:=by
 unfold skip place
 by_cases h1:a<j
 ·rw[ai h1,ai h1]
 ·rw[ah h1,ah (by omega)];omega
theorem Nt {j a c:Nat}(h:j≠a):skip j c=a↔c=place j a:=by unfold skip place;split <;> split <;> omega
theorem skip_ne(j c:Nat):skip j c≠j:=by unfold skip;split <;> omega
theorem Rn {n j a:Nat}(hj:j<n+1)(ha:a<n+1)(h:j≠a):place j a<n:=by unfold place;split <;> omega
theorem AX(f:Nat→Col){j a:Nat}(h:j≠a)(u:Col):kr (fa f a u) j=fa (kr f j) (place j a) fun r=>u (r+1):=by
 funext c r
 unfold kr fa
 by_cases hc:c=place j a
 ·rw[ai ((Nt h).2 hc),ai hc]
 ·rw[ah (fun e=>hc ((Nt h).1 e)),ah hc]
theorem ri(f:Nat→Col)(a:Nat)(u:Col):kr (fa f a u) a=kr f a:=by
 funext c r
 unfold kr fa
 rw[ah (skip_ne a c)]
theorem z7(x:Rat):∀{n:Nat} (f:Nat→Col) (a:Nat) (u v:Col),a<n→det n (fa f a fun r=>x*u r+v r)=x*det n (fa f a u)+det n (fa f a v)
 |0,_,a,_,_,h=>by omega
 |n+1,f,a,u,v,h=>by
  unfold det
  rw[←iY,←lW (fun j=>x*(sgd j*(fa f a u j 0*det n (kr (fa f a u) j)))) (fun j=>sgd j*(fa f a v j 0*det n (kr (fa f a v) j)))]
  refine aB fun j hj=>?_
  by_cases rZ:j=a
  ·subst rZ
   rw[ri,ri,ri]
   unfold fa
   rw[ai rfl,ai rfl,ai rfl]
   grind
  ·rw[AX f rZ,AX f rZ,AX f rZ]
   have:=z7 x (kr f j) (place j a) (fun r=>u (r+1)) (fun r=>v (r+1)) (Rn hj h rZ)
   rw[this]
   unfold fa
   rw[ah rZ,ah rZ,ah rZ]
   grind
theorem QS {f:Nat→Rat}{a:Nat}:∀{n:Nat},a+1<n→(∀j,j<n→j≠a→j≠a+1→f j=0)→bi n f=f a+f (a+1):=by
 intro n h h0
 have e:bi n f=bi n fun j=>(if j=a then f a else 0)+(if j=a+1 then f (a+1) else 0):=aB fun j hj=>by
  by_cases h1:j=a
  ·subst h1;rw[ai rfl,ah (by omega)];grind
  ·by_cases h2:j=a+1
   ·subst h2;rw[ah (by omega),ai rfl];grind
   ·rw[ah h1,ah h2,h0 j hj h1 h2];grind
 rw[e,lW (fun j=>if j=a then f a else 0) (fun j=>if j=a+1 then f (a+1) else 0),lV a _ n (by omega),lV (a+1) _ n h]
theorem Ia:∀{n:Nat} (f:Nat→Col) (a:Nat),a+1<n→(∀r,f a r=f (a+1) r)→det n f=0
 |0,_,a,h,_=>by omega
 |n+1,f,a,h,he=>by
  unfold det
  rw[QS h fun j hj h1 h2=>?_]
  ·have:kr f a=kr f (a+1):=by
    funext c r
    unfold kr skip
    by_cases hc:c=a
    ·subst hc
     rw[ah (by omega),ai (by omega)]
     exact (he _).symm
    ·by_cases qC:c<a
     ·rw[ai qC,ai (by omega)]
     ·rw[ah qC,ah (by omega)]
   rw[this,he 0,Q2]
   grind
  ·rw[Ia (kr f j) (place j a) ?_ fun r=>?_]
   ·grind
   ·unfold place;split <;> omega
   ·have e1:skip j (place j a)=a:=Lo h1
    have e2:skip j (place j a+1)=a+1:=by unfold skip place;split <;> split <;> omega
    unfold kr
    rw[e1,e2]
    exact he _
theorem AA(f:Nat→Col){a b:Nat}(h:a≠b)(u v:Col):fa (fa f a u) b v=fa (fa f b v) a u:=by
 funext c
 unfold fa
 by_cases h1:c=a <;> by_cases h2:c=b <;> simp[h1,h2,h] <;> (try omega)
theorem Tp {n:Nat}(f:Nat→Col)(a:Nat)(h:a+1<n)(u v:Col):det n (fa (fa f a u) (a+1) v)=-det n (fa (fa f a v) (a+1) u):=by
 have z:∀t:Col,det n (fa (fa f a t) (a+1) t)=0:=fun t=>Ia _ a h fun r=>by
  unfold fa
  rw[ah (by omega),ai rfl,ai rfl]
 have h0:=z fun r=>1*u r+v r
 have l1:∀t:Col,det n (fa (fa f a t) (a+1) fun r=>1*u r+v r)=1*det n (fa (fa f a t) (a+1) u)+det n (fa (fa f a t) (a+1) v):=fun t=>z7 1 _ _ _ _ h
 have l2:∀t:Col,det n (fa (fa f a fun r=>1*u r+v r) (a+1) t)=1*det n (fa (fa f a u) (a+1) t)+det n (fa (fa f a v) (a+1) t):=fun t=>by
  have ne:a≠a+1:=by omega
  rw[AA f ne _ t,AA f ne _ t,AA f ne _ t]
  exact z7 1 _ _ _ _ (by omega)
 rw[l1,l2,l2,z,z] at h0
 grind
theorem Az(f:Nat→Col)(a:Nat):fa f a (f a)=f:=by
 funext c
 unfold fa
 split
 ·rename_i h;rw[h]
 ·rfl
theorem D4 {n:Nat}:∀(k:Nat) (f:Nat→Col) (a:Nat),a+1+k<n→(∀r,f a r=f (a+1+k) r)→det n f=0
 |0,f,a,h,he=>Ia f a h he
 |k+1,f,a,h,he=>by
  have e:f=fa (fa f (a+1+k) (f (a+1+k))) (a+1+k+1) (f (a+1+k+1)):=by
   rw[Az]
   exact (Az f _).symm
  rw[e,Tp f (a+1+k) (by omega),D4 k _ a (by omega) fun r=>?_]
  ·grind
  ·unfold fa
   rw[ah (by omega),ah (by omega),ah (by omega),ai rfl]
   exact he r
theorem det_eq0 {n:Nat}(f:Nat→Col){a b:Nat}(ha:a<n)(hb:b<n)(Fl:a≠b)(he:∀r,f a r=f b r):det n f=0:=by
 rcases d6 a b with h|h
 ·exact D4 (b - a - 1) f a (by omega) fun r=>by rw[show a+1+(b - a - 1)=b by omega];exact he r
 ·exact D4 (a - b - 1) f b (by omega) fun r=>by rw[show b+1+(a - b - 1)=a by omega];exact (he r).symm
theorem To {n:Nat}(f:Nat→Col){a:Nat}(ha:a<n):det n (fa f a fun _=>0)=0:=by
 have:=z7 1 f a (fun _=>0) (fun _=>0) ha
 have e:(fun r:Nat=>(1:Rat)*(fun _=>(0:Rat)) r+(fun _=>(0:Rat)) r)=fun _=>0:=by funext r;grind
 rw[e] at this
 grind
theorem Om {n:Nat}(f:Nat→Col){a:Nat}(ha:a<n)(x:Nat→Rat)(g:Nat→Col):∀m,det n (fa f a fun r=>bi m fun i=>x i*g i r)=bi m fun i=>x i*det n (fa f a (g i))
 |0=>To f ha
 |m+1=>by
  have e:(fun r=>bi (m+1) fun i=>x i*g i r)=fun r=>x m*g m r+bi m fun i=>x i*g i r:=by
   funext r
   show bi m (fun i=>x i*g i r)+x m*g m r=_
   grind
  rw[e,z7 (x m) f a (g m) (fun r=>bi m fun i=>x i*g i r) ha,Om f ha x g m]
  show _=bi m (fun i=>x i*det n (fa f a (g i)))+x m*det n (fa f a (g m))
  grind
theorem Mo {n:Nat}(f:Nat→Col){j:Nat}(hj:j<n)(x:Nat→Rat)(v:Col)(h:∀r,r<n→v r=bi n fun i=>x i*f i r):det n (fa f j v)=x j*det n f:=by
 rw[tM (g:=fa f j fun r=>bi n fun i=>x i*f i r) fun c hc r hr=>?_,Om f hj x f n]
 ·rw[aB (g:=fun i=>if i=j then x j*det n f else 0) fun i hi=>?_,lV j _ n hj]
  by_cases DM:i=j
  ·subst DM;rw[ai rfl,Az]
  ·rw[ah DM,det_eq0 (fa f j (f i)) (a:=i) (b:=j) hi hj DM fun r=>by unfold fa;rw[ah DM,ai rfl]]
   grind
 ·unfold fa
  split
  ·exact h r hr
  ·rfl
def IsI(x:Rat)(K:Nat):Prop:=∃z:Int,x=(z:Rat)∧z.natAbs≤K
theorem IsI.mono {x:Rat}{K L:Nat}(h:IsI x K)(hl:K≤L):IsI x L:=by obtain⟨z,h1,h2⟩:=h;exact⟨z,h1,by omega⟩
theorem IsI.add {x y:Rat}{K L:Nat}(hx:IsI x K)(hy:IsI y L):IsI (x+y) (K+L):=by
 obtain⟨a,rfl,h1⟩:=hx
 obtain⟨b,rfl,h2⟩:=hy
 exact⟨a+b,by rw[Rat.intCast_add],by have:=Int.natAbs_add_le a b;omega⟩
theorem IsI.mul {x y:Rat}{K L:Nat}(hx:IsI x K)(hy:IsI y L):IsI (x*y) (K*L):=by
 obtain⟨a,rfl,h1⟩:=hx
 obtain⟨b,rfl,h2⟩:=hy
 exact⟨a*b,by rw[Rat.intCast_mul],by rw[oy];exact kS h1 h2⟩
theorem IsI.neg {x:Rat}{K:Nat}(hx:IsI x K):IsI (-x) K:=by
 obtain⟨a,rfl,h1⟩:=hx
 exact⟨-a,by rw[Rat.intCast_neg],by omega⟩
theorem IsI.zero(K:Nat):IsI 0 K:=⟨0,rfl,by simp⟩
theorem IsI.one {K:Nat}(h:0<K):IsI 1 K:=⟨1,rfl,h⟩
theorem IsI.sum {f:Nat→Rat}{K:Nat}:∀{n:Nat},(∀i,i<n→IsI (f i) K)→IsI (bi n f) (n*K)
 |0,_=>IsI.zero _
 |n+1,h=>by
  have:=(IsI.sum (f:=f) (n:=n) fun i hi=>h i (by omega)).add (h n (by omega))
  exact this.mono (by rw[bU];omega)
theorem IsI.sgd(j:Nat):IsI (sgd j) 1:=by
 unfold Go.Proofs.YtaedcknhkjpmlaaGreat.sgd
 split
 ·exact⟨1,rfl,by decide⟩
 ·exact⟨-1,rfl,by decide⟩
def Bk:Nat→Nat
 |0=>1
 |n+1=>(n+1)*Bk n
theorem H9 {K:Nat}:∀{n:Nat} {f:Nat→Col},(∀c,c<n→∀r,r<n→IsI (f c r) K)→IsI (det n f) (Bk n*K ^ n)
 |0,_,_=>⟨1,rfl,by simp[Bk]⟩
 |n+1,f,h=>by
  unfold det
  refine (IsI.sum (K:=K*(Bk n*K ^ n)) fun j hj=>?_).mono ?_
  ·have h1:=H9 (n:=n) (f:=kr f j) fun c hc r hr=>by
    unfold kr skip
    split
    ·exact h _ (by omega) _ (by omega)
    ·exact h _ (by omega) _ (by omega)
   exact ((IsI.sgd j).mul ((h j hj 0 (by omega)).mul h1)).mono (by rw[eT];exact ay _)
  ·rw[show Bk (n+1)=(n+1)*Bk n from rfl,cy]
   refine Nat.le_of_eq ?_
   rw[yP K,bx K (K ^ n),eS]
section
structure QD where
 b:Nat→Nat
 k:Nat→Rat
 c:Nat→Nat→Rat
def QD.turn(q:QD)(at' s t:Nat):Rat:=if t=q.b at' then 1 / q.c at' s else if t=s then 0 else -q.c at' t / q.c at' s
def QD.piv(q:QD)(at' s:Nat):QD:=
  ⟨fun i=>if i=at' then s else q.b i,fun i=>if i=at' then -q.k at' / q.c at' s else q.k i+q.c i s*(-q.k at' / q.c at' s),
   fun i t=>if i=at' then q.turn at' s t else if t=s then 0 else q.c i t+q.c i s*q.turn at' s t⟩
structure VI(M:Nat→Col)(k0:Col)(q:QD)(m w:Nat):Prop where
 k:∀r,r<m→k0 r=bi m fun i=>q.k i*M (q.b i) r
 c:∀t,t<w→(∀j,j<m→q.b j≠t)→∀r,r<m→-M t r=bi m fun i=>q.c i t*M (q.b i) r
 nz:det m (fun i=>M (q.b i))≠0
structure QOk(q:QD)(m w:Nat):Prop where
 z:∀i j,i<m→j<m→q.c i (q.b j)=0
 inj:∀i j,i<m→j<m→q.b i=q.b j→i=j
theorem Np {f:Nat→Rat}{m a:Nat}(h:a<m):bi m (fun i=>if i=a then 0 else f i)=bi m f - f a:=by
 rw[wd f a 0 h];grind
section
variable {M:Nat→Col} {k0:Col} {q:QD} {m w at' s:Nat}
theorem VI.piv(h:VI M k0 q m w)(ho:QOk q m w)(hat:at'<m)(hs:s<w)(um:∀j,j<m→q.b j≠s)(hp:q.c at' s≠0):VI M k0 (q.piv at' s) m w:=by
 have hS:∀r,r<m→bi m (fun i=>if i=at' then 0 else q.c i s*M (q.b i) r)=-M s r - q.c at' s*M (q.b at') r:=fun r hr=>by
  rw[Np (f:=fun i=>q.c i s*M (q.b i) r) hat,←h.c s hs um r hr]
 -- any line of rY new dictionary
 have key:∀(x:Rat) (f:Nat→Rat) (r:Nat),r<m→bi m (fun i=>(if i=at' then x else f i+q.c i s*x)*M (if i=at' then s else q.b i) r)=bi m (fun i=>f i*M (q.b i) r) - f at'*M (q.b at') r - x*(q.c at' s*M (q.b at') r):=fun x f r hr=>by
  have e:∀i,i<m→(if i=at' then x else f i+q.c i s*x)*M (if i=at' then s else q.b i) r=(if i=at' then x*M s r else 0)+((if i=at' then 0 else f i*M (q.b i) r)+x*(if i=at' then 0 else q.c i s*M (q.b i) r)):=fun i _=>by
   by_cases hi:i=at'
   ·rw[ai hi,ai hi,ai hi,ai hi,ai hi];grind
   ·rw[ah hi,ah hi,ah hi,ah hi,ah hi];grind
  rw[aB e,lW (fun i=>if i=at' then x*M s r else 0) (fun i=>(if i=at' then 0 else f i*M (q.b i) r)+x*(if i=at' then 0 else q.c i s*M (q.b i) r)),lV at' _ m hat,
   lW (fun i=>if i=at' then 0 else f i*M (q.b i) r) (fun i=>x*(if i=at' then 0 else q.c i s*M (q.b i) r)),iY,hS r hr,Np (f:=fun i=>f i*M (q.b i) r) hat]
  grind
 refine⟨fun r hr=>?_,fun t ht Qk r hr=>?_,?_⟩
 ·have:=key (-q.k at' / q.c at' s) q.k r hr
  refine bz ?_ this.symm
  rw[←h.k r hr,iA]
  have:q.c at' s*(q.c at' s)⁻¹=1:=wA _ hp
  grind
 ·have qM:t≠s:=fun e=>Qk at' hat (by show (if at'=at' then s else _)=t;rw[ai rfl,e])
  have e1:(fun i=>(q.piv at' s).c i t*M ((q.piv at' s).b i) r)=fun i=>(if i=at' then q.turn at' s t else q.c i t+q.c i s*q.turn at' s t)*M (if i=at' then s else q.b i) r:=by
   funext i
   show (if i=at' then q.turn at' s t else if t=s then 0 else q.c i t+q.c i s*q.turn at' s t)*_=_
   rw[ah qM];rfl
  rw[e1,key (q.turn at' s t) (fun i=>q.c i t) r hr]
  have hc:q.c at' s*(q.c at' s)⁻¹=1:=wA _ hp
  by_cases hb:t=q.b at'
  ·have hz:bi m (fun i=>q.c i t*M (q.b i) r)=0:=by
    rw[aB (g:=fun _=>0) fun i hi=>by rw[hb,ho.z i at' hi hat];grind,fE]
   rw[hz]
   unfold QD.turn
   rw[ai hb,iA,hb,ho.z at' at' hat hat]
   grind
  ·have hold:∀j,j<m→q.b j≠t:=fun j hj e=>by
    by_cases rZ:j=at'
    ·exact hb (by rw[←e,rZ])
    ·exact Qk j hj (by show (if j=at' then s else q.b j)=t;rw[ah rZ];exact e)
   rw[←h.c t ht hold r hr]
   unfold QD.turn
   rw[ah hb,ah qM,iA]
   grind
 ·have e:(fun i=>M ((q.piv at' s).b i))=fa (fun i=>M (q.b i)) at' (M s):=by
   funext i
   show M (if i=at' then s else q.b i)=_
   unfold fa
   split <;> rfl
  rw[e,Mo (fun i=>M (q.b i)) hat (fun i=>-q.c i s) (M s) fun r hr=>?_]
  ·intro h0
   rcases Is.1 h0 with h1|h1
   ·exact hp (by grind)
   ·exact h.nz h1
  ·have:=h.c s hs um r hr
   rw[aB (g:=fun i=>(-1)*(q.c i s*M (q.b i) r)) fun i _=>by grind,iY,←this]
   grind
theorem QOk.piv(ho:QOk q m w)(hat:at'<m)(um:∀j,j<m→q.b j≠s):QOk (q.piv at' s) m w:=by
 have hbs:∀i,i≠at'→(q.piv at' s).b i=q.b i:=fun i hi=>ah hi
 have hba:(q.piv at' s).b at'=s:=ai rfl
 have oH:∀i,(q.piv at' s).c i s=0:=fun i=>by
  show (if i=at' then q.turn at' s s else if s=s then 0 else _)=0
  by_cases hi:i=at'
  ·rw[ai hi];unfold QD.turn;rw[ah (fun e=>um at' hat e.symm),ai rfl]
  ·rw[ah hi,ai rfl]
 have hcj:∀i j,i<m→j<m→j≠at'→(q.piv at' s).c i (q.b j)=0:=fun i j hi hj rZ=>by
  have ht:q.turn at' s (q.b j)=0:=by
   unfold QD.turn
   rw[ah (fun e=>rZ (ho.inj j at' hj hat e)),ah (um j hj),ho.z at' j hat hj,iA]
   grind
  show (if i=at' then q.turn at' s (q.b j) else if q.b j=s then 0 else q.c i (q.b j)+q.c i s*q.turn at' s (q.b j))=0
  rw[ht,ah (um j hj),ho.z i j hi hj]
  split <;> grind
 refine⟨fun i j hi hj=>?_,fun i j hi hj e=>?_⟩
 ·by_cases rZ:j=at'
  ·rw[rZ,hba];exact oH i
  ·rw[hbs j rZ];exact hcj i j hi hj rZ
 ·by_cases qO:i=at' <;> by_cases rZ:j=at'
  ·omega
  ·rw[qO,hba,hbs j rZ] at e;exact absurd e.symm (um j hj)
  ·rw[rZ,hba,hbs i qO] at e;exact absurd e (um i hi)
  ·rw[hbs i qO,hbs j rZ] at e;exact ho.inj i j hi hj e
def Dn(D:Rat)(K:Nat)(x:Rat):Prop:=IsI (D*x) K
theorem VI.bound {β:Nat}(h:VI M k0 q m w)(ho:QOk q m w)(hM:∀t,t<w→∀r,r<m→IsI (M t r) β)(hk0:∀r,r<m→IsI (k0 r) β)(hb:∀i,i<m→q.b i<w):
  IsI (det m fun i=>M (q.b i)) (Bk m*β ^ m)∧(∀i,i<m→Dn (det m fun i=>M (q.b i)) (Bk m*β ^ m) (q.k i))∧∀i t,i<m→t<w→Dn (det m fun i=>M (q.b i)) (Bk m*β ^ m) (q.c i t):=by
 have hu:∀(i:Nat) (v:Col),(∀r,r<m→IsI (v r) β)→IsI (det m (fa (fun i=>M (q.b i)) i v)) (Bk m*β ^ m):=fun i v hv=>H9 fun c hc r hr=>by
  unfold fa
  split
  ·exact hv r hr
  ·exact hM _ (hb c hc) r hr
 refine⟨H9 fun c hc r hr=>hM _ (hb c hc) r hr,fun i hi=>?_,fun i t hi ht=>?_⟩
 ·have:=Mo (fun i=>M (q.b i)) hi q.k k0 h.k
  unfold Dn
  rw[Rat.mul_comm,←this]
  exact hu i k0 hk0
 ·by_cases Qk:∀j,j<m→q.b j≠t
  ·have:=Mo (fun i=>M (q.b i)) hi (fun i=>-q.c i t) (M t) fun r hr=>by
    have:=h.c t ht Qk r hr
    rw[aB (g:=fun i=>(-1)*(q.c i t*M (q.b i) r)) fun i _=>by grind,iY,←this]
    grind
   unfold Dn
   have e:det m (fun i=>M (q.b i))*q.c i t=-(det m (fa (fun i=>M (q.b i)) i (M t))):=by rw[this];grind
   rw[e]
   exact (hu i (M t) (hM t ht)).neg
  ·obtain⟨j,hj⟩:=MI.1 Qk
   obtain⟨NV,BS⟩:=MH.1 hj
   have BS:=Bs.1 BS
   unfold Dn
   rw[←BS,ho.z i j hi NV,rL]
   exact IsI.zero _
end
theorem Dn.parts {D x:Rat}{K:Nat}(hD:IsI D K)(h0:D≠0)(h:Dn D K x):x.num.natAbs≤K∧x.den≤K:=by
 obtain⟨d,rfl,hd⟩:=hD
 obtain⟨n,hn,hnK⟩:=h
 have vK:d≠0:=fun e=>h0 (by rw[e];rfl)
 have hx:x=Rat.divInt n d:=by
  rw[Rat.divInt_eq_div,←hn]
  rw[iA]
  have:=wA _ h0
  grind
 obtain⟨k,l,e1,e2,e3,e4,e5⟩:=oe (n:=n) vK
 have hg:0<Nat.gcd n.natAbs d.natAbs:=Nat.gcd_pos_of_pos_right _ (by omega)
 have a1:(Rat.divInt n d).num.natAbs≤n.natAbs:=by
  rw[e4,oy]
  have:d.sign.natAbs=1:=by
   rcases wH d 0 with h|h|h
   ·rw[wF h];rfl
   ·exact absurd h vK
   ·rw[rM h];rfl
  rw[this,eT]
  have:n.natAbs=Nat.gcd n.natAbs d.natAbs*k.natAbs:=by
   conv=>lhs;rw[e1]
   rw[oy,dK]
  rw[this]
  exact uG _ hg
 have a2:(Rat.divInt n d).den≤d.natAbs:=by
  have:((Rat.divInt n d).den:Int).natAbs=l.natAbs:=by
   rw[e5,oy]
   have:d.sign.natAbs=1:=by
    rcases wH d 0 with h|h|h
    ·rw[wF h];rfl
    ·exact absurd h vK
    ·rw[rM h];rfl
   rw[this,eT]
  rw[dK] at this
  rw[this]
  have e:d.natAbs=Nat.gcd n.natAbs d.natAbs*l.natAbs:=by
   conv=>lhs;rw[e2]
   rw[oy,dK]
  rw[e]
  exact uG _ hg
 rw[hx]
 exact⟨by omega,by omega⟩
end
section
def Pq(K:Nat)(x:Rat):Prop:=x.num.natAbs≤K∧x.den≤K
theorem Pq.fit {K:Nat}{x:Rat}(h:Pq K x)(hK:K<LIM):lR x:=⟨dM h.1 hK,dM h.2 hK⟩
theorem qQ {x y:Nu}{K L:Nat}(hx:aw x=true)(hy:aw y=true)(h1:Pq K (rv x))(h2:Pq L (rv y))(hKL:2*(K*L)<LIM):aw (jA x y)=true∧rv (jA x y)=rv x+rv y:=by
 have e:Hz (cm x.1) (cm y.1)=some (rv x+rv y):=by
  rw[bC.1 hx,bC.1 hy]
  show Cn (rv x) (rv y)=_
  unfold Cn
  have a1:((rv x).num*(((rv y).den / Nat.gcd (rv x).den (rv y).den:Nat):Int)).natAbs≤K*L:=by
   rw[oy,dK]
   exact kS h1.1 (dA (oz _ _) h2.2)
  have a2:((rv y).num*(((rv x).den / Nat.gcd (rv x).den (rv y).den:Nat):Int)).natAbs≤K*L:=by
   rw[oy,dK,bx K L]
   exact kS h2.1 (dA (oz _ _) h1.2)
  have a3:(rv x).den / Nat.gcd (rv x).den (rv y).den*(rv y).den≤K*L:=kS (dA (oz _ _) h1.2) h2.2
  rw[ai]
  generalize (rv x).num*(((rv y).den / Nat.gcd (rv x).den (rv y).den:Nat):Int)=p at a1 ⊢
  generalize (rv y).num*(((rv x).den / Nat.gcd (rv x).den (rv y).den:Nat):Int)=q at a2 ⊢
  generalize (rv x).den / Nat.gcd (rv x).den (rv y).den*(rv y).den=r at a3 ⊢
  generalize K*L=KL at*
  refine⟨?_,?_,?_,?_⟩
  ·exact dM a1 (by omega)
  ·exact dM a2 (by omega)
  ·exact dM (Int.natAbs_add_le p q) (by omega)
  ·omega
 have hf:lR (rv x+rv y):=zI (cm x.1) (cm y.1) _ e
 rw[pP,e]
 exact tw hf
theorem tJ {x y:Nu}(hx:aw x=true)(hy:aw y=true)(h:lR (rv x*rv y)):aw (lQ x y)=true∧rv (lQ x y)=rv x*rv y:=by
 have e:AS (cm x.1) (cm y.1)=some (rv x*rv y):=by
  rw[bC.1 hx,bC.1 hy]
  exact ai h
 rw[rh,e]
 exact tw h
theorem xb {x y:Nu}(hx:aw x=true)(hy:aw y=true)(h0:rv y≠0)(h:lR (rv x / rv y)):aw (nV x y)=true∧rv (nV x y)=rv x / rv y:=by
 have e:FI (cm x.1) (cm y.1)=some (rv x / rv y):=by
  rw[bC.1 hx,bC.1 hy]
  have:Lz (some (rv y))=some (rv y)⁻¹:=ah h0
  unfold FI
  rw[this,iA]
  rw[iA] at h
  exact ai h
 rw[Dq,e]
 exact tw h
theorem Dn.add {D x y:Rat}{K L:Nat}(hx:Dn D K x)(hy:Dn D L y):Dn D (K+L) (x+y):=by
 unfold Dn at*
 rw[show D*(x+y)=D*x+D*y by grind]
 exact hx.add hy
theorem Dn.mul {D E x y:Rat}{K L:Nat}(hx:Dn D K x)(hy:Dn E L y):Dn (D*E) (K*L) (x*y):=by
 unfold Dn at*
 rw[show D*E*(x*y)=D*x*(E*y) by grind]
 exact IsI.mul hx hy
theorem Dn.neg {D x:Rat}{K:Nat}(hx:Dn D K x):Dn D K (-x):=by
 unfold Dn at*
 rw[show D*-x=-(D*x) by grind]
 exact IsI.neg hx
theorem Dn.mono {D x:Rat}{K L:Nat}(hx:Dn D K x)(h:K≤L):Dn D L x:=IsI.mono hx h
theorem Dn.int {D a x:Rat}{K L:Nat}(ha:IsI a L)(hx:Dn D K x):Dn D (L*K) (a*x):=by
 unfold Dn at*
 rw[show D*(a*x)=a*(D*x) by grind]
 exact ha.mul hx
theorem Dn.of {D a:Rat}{K L:Nat}(hD:IsI D K)(ha:IsI a L):Dn D (K*L) a:=hD.mul ha
theorem Dn.zero(D:Rat)(K:Nat):Dn D K 0:=by unfold Dn;rw[rL];exact IsI.zero K
theorem Dn.pq {D x:Rat}{K:Nat}(hD:IsI D K)(h0:D≠0)(h:Dn D K x):Pq K x:=Dn.parts hD h0 h
theorem Dn.sum {D:Rat}{f:Nat→Rat}{K:Nat}:∀{n:Nat},(∀i,i<n→Dn D K (f i))→Dn D (n*K) (bi n f)
 |0,_=>by rw[gv];exact Dn.zero D 0
 |n+1,h=>by
  rw[qo]
  exact (Dn.sum fun i hi=>h i (by omega)).add (h n (by omega))
def qd(d:Dic)(w m:Nat):QD:=⟨fun i=>if i<m then d.rows[i]!.b.toNat else w,fun i=>if i<m then rv d.rows[i]!.k else rv d.gk,fun i t=>if t=w then 0 else if i<m then rv d.rows[i]!.c[t]! else rv d.gc[t]!⟩
structure Ok(M:Nat→Col)(k0:Col)(d:Dic)(w m:Nat):Prop where
 inv:Inv d w
 len:d.rows.length=m
 vi:VI M k0 (qd d w m) (m+1) (w+1)
def Kf(m β:Nat):Nat:=Bk (m+1)*β ^ (m+1)
structure Bd(M:Nat→Col)(k0:Col)(w m β:Nat):Prop where
 ent:∀t,t<w+1→∀r,r<m+1→IsI (M t r) β
 con:∀r,r<m+1→IsI (k0 r) β
 lim:2*(Kf m β*(Kf m β*Kf m β))<LIM
theorem VI.congr {M:Nat→Col}{k0:Col}{q q':QD}{m w:Nat}(h:VI M k0 q m w)(hb:∀i,i<m→q'.b i=q.b i)(hk:∀i,i<m→q'.k i=q.k i)(hc:∀i,i<m→∀t,t<w→q'.c i t=q.c i t):VI M k0 q' m w:=by
 refine⟨fun r hr=>?_,fun t ht Qk r hr=>?_,?_⟩
 ·rw[h.k r hr]
  exact aB fun i hi=>by rw[hb i hi,hk i hi]
 ·rw[h.c t ht (fun j hj=>by rw[←hb j hj];exact Qk j hj) r hr]
  exact aB fun i hi=>by rw[hb i hi,hc i hi t ht]
 ·rw[tM (g:=fun i=>M (q.b i)) fun c hc r _=>by rw[hb c hc]]
  exact h.nz
section
variable {M:Nat→Col} {k0:Col} {d:Dic} {w m at' s β:Nat}
theorem zE {i:Nat}(hi:i<m):(qd d w m).b i=d.rows[i]!.b.toNat:=ai hi
theorem oO:(qd d w m).b m=w:=ah (pl _)
theorem De {i:Nat}(hi:i<m):(qd d w m).k i=rv d.rows[i]!.k:=ai hi
theorem Jx:(qd d w m).k m=rv d.gk:=ah (pl _)
theorem AN {i t:Nat}(hi:i<m)(ht:t<w):(qd d w m).c i t=rv d.rows[i]!.c[t]! :=by
 show (if t=w then 0 else if i<m then rv d.rows[i]!.c[t]! else _)=_
 rw[ah (by omega),ai hi]
theorem BL {t:Nat}(ht:t<w):(qd d w m).c m t=rv d.gc[t]! :=by
 show (if t=w then 0 else if m<m then _ else rv d.gc[t]!)=_
 rw[ah (by omega),ah (pl _)]
theorem Df(i:Nat):(qd d w m).c i w=0:=ai rfl
theorem Inv.qok(h:Inv d w)(hl:d.rows.length=m):QOk (qd d w m) (m+1) (w+1):=by
 have hb:∀j,j<m→(qd d w m).b j<w∧(d.rows[j]!.b=(((qd d w m).b j:Nat):Int)):=fun j hj=>by
  have:=h.rng j (by omega)
  rw[zE hj]
  omega
 refine⟨fun i j hi hj=>?_,fun i j hi hj e=>?_⟩
 ·rcases d6 j m with Lb|Lb
  ·have h1:=(hb j Lb).1
   rcases d6 i m with pC|pC
   ·rw[AN pC h1,zE Lb,h.zr i j (by omega) (by omega)];exact of0.2
   ·obtain rfl:i=m:=by omega
    rw[BL h1,zE Lb,h.zg j (by omega)];exact of0.2
  ·obtain rfl:j=m:=by omega
   rw[oO,Df]
 ·rcases d6 j m with Lb|Lb <;> rcases d6 i m with pC|pC
  ·have h1:=hb j Lb
   have h2:=hb i pC
   exact h.inj i j (by omega) (by omega) (by rw[h1.2,h2.2,e])
  ·obtain rfl:i=m:=by omega
   have:=(hb j Lb).1
   rw[oO] at e;omega
  ·obtain rfl:j=m:=by omega
   have:=(hb i pC).1
   rw[oO] at e;omega
  ·omega
theorem Inv.qlt(h:Inv d w)(hl:d.rows.length=m):∀i,i<m+1→(qd d w m).b i<w+1:=fun i hi=>by
 rcases d6 i m with pC|pC
 ·have:=h.rng i (by omega)
  rw[zE pC];omega
 ·obtain rfl:i=m:=by omega
  rw[oO];omega
theorem Ok.bound(h:Ok M k0 d w m)(hB:Bd M k0 w m β):∃D:Rat,D≠0∧IsI D (Kf m β)∧(∀i,i<m→Dn D (Kf m β) (rv d.rows[i]!.k))∧Dn D (Kf m β) (rv d.gk)∧(∀i t,i<m→t<w→Dn D (Kf m β) (rv d.rows[i]!.c[t]!))∧∀t,t<w→Dn D (Kf m β) (rv d.gc[t]!):=by
 obtain⟨h1,h2,h3⟩:=h.vi.bound (h.inv.qok h.len) hB.ent hB.con (h.inv.qlt h.len)
 refine⟨_,h.vi.nz,h1,fun i hi=>?_,?_,fun i t hi ht=>?_,fun t ht=>?_⟩
 ·have:=h2 i (by omega);rwa[De hi] at this
 ·have:=h2 m (by omega);rwa[Jx] at this
 ·have:=h3 i t (by omega) (by omega);rwa[AN hi ht] at this
 ·have:=h3 m t (by omega) (by omega);rwa[BL ht] at this
theorem put_ok {k:Nu}{c:List Nu}{r1:Row}{K:Nat}(hl:c.length=w)(hg:fS k c=true)(hs:s<w)(hr:aw r1.k=true)(hrc:∀t,t<w→aw r1.c[t]! =true)(hk:Pq K (rv k))(hc:∀t,t<w→Pq K (rv c[t]!))(pk:Pq (K*K) (rv c[s]! *rv r1.k))(pc:∀t,t<w→Pq (K*K) (rv c[s]! *rv r1.c[t]!))(hK:2*(K*(K*K))<LIM)(hKK:K*K<LIM):
  fS (gL k c r1 s).k (gL k c r1 s).c=true∧rv (gL k c r1 s).k=rv k+rv c[s]! *rv r1.k∧∀t,t<w→rv (gL k c r1 s).c[t]! =if t=s then 0 else rv c[t]! +rv c[s]! *rv r1.c[t]! :=by
 obtain⟨h1,h2⟩:=bg.1 hg
 have hq:=h2 s (by omega)
 have main:(aw (gL k c r1 s).k=true∧rv (gL k c r1 s).k=rv k+rv c[s]! *rv r1.k)∧∀t,t<w→aw (gL k c r1 s).c[t]! =true∧rv (gL k c r1 s).c[t]! =if t=s then 0 else rv c[t]! +rv c[s]! *rv r1.c[t]! :=by
  unfold gL wK tT
  by_cases h0:bI c[s]! =0
  ·rw[ai h0,ai h0,(zx hq).1 h0]
   refine⟨⟨h1,by dsimp only;grind⟩,fun t ht=>?_⟩
   dsimp only
   rw[ew (by omega)]
   by_cases qM:t=s
   ·rw[ai qM.symm,ai qM];exact of0
   ·rw[ah (fun e=>qM e.symm),ah qM]
    exact⟨h2 t (by omega),by grind⟩
  ·rw[ah h0,ah h0]
   dsimp only
   constructor
   ·obtain⟨g1,g2⟩:=tJ hq hr (pk.fit hKK)
    obtain⟨g3,g4⟩:=qQ h1 g1 hk (by rw[g2];exact pk) hK
    exact⟨g3,by rw[g4,g2]⟩
   ·intro t ht
    rw[IE _ _ _ _ _ t (by rw[cU];omega),cU,ew (by omega)]
    by_cases qM:t=s
    ·rw[ah (by omega),ai qM.symm,ai qM];exact of0
    ·rw[ai ⟨by omega,qM⟩,ah (fun e=>qM e.symm),ah qM]
     obtain⟨g1,g2⟩:=tJ hq (hrc t ht) ((pc t ht).fit hKK)
     obtain⟨g3,g4⟩:=qQ (h2 t (by omega)) g1 (hc t ht) (by rw[g2];exact pc t ht) hK
     exact⟨g3,by rw[g4,g2]⟩
 obtain⟨⟨m1,m2⟩,m3⟩:=main
 refine⟨bg.2 ⟨m1,fun i hi=>(m3 i (by rw[q9] at hi;omega)).1⟩,m2,fun t ht=>(m3 t ht).2⟩
theorem Ok.pivot(h:Ok M k0 d w m)(hB:Bd M k0 w m β)(hat:at'<m)(hs:s<w)(um:∀j,j<d.rows.length→d.rows[j]!.b≠(s:Int))(hp:rv d.rows[at']!.c[s]!≠0):gG d w at' s∧Ok M k0 (f5 d at' s) w m∧lR (rv d.rows[at']!.k / -rv d.rows[at']!.c[s]!)∧
  (∀i,i<m→rv (f5 d at' s).rows[i]!.k=if i=at' then -rv d.rows[at']!.k / rv d.rows[at']!.c[s]! else rv d.rows[i]!.k+rv d.rows[i]!.c[s]! *(-rv d.rows[at']!.k / rv d.rows[at']!.c[s]!)):=by
 have hI:=h.inv
 have hl:=h.len
 have hqo:=hI.qok hl
 have oH:(qd d w m).c at' s=rv d.rows[at']!.c[s]! :=AN hat hs
 have hbat:(qd d w m).b at'=d.rows[at']!.b.toNat:=zE hat
 have hrb:=hI.rng at' (by omega)
 have hsb:d.rows[at']!.b.toNat≠s:=fun e=>um at' (by omega) (by omega)
 have hnq:∀j,j<m+1→(qd d w m).b j≠s:=fun j hj=>by
  rcases d6 j m with Lb|Lb
  ·have h1:=hI.rng j (by omega)
   have h2:=um j (by omega)
   rw[zE Lb];omega
  ·obtain rfl:j=m:=by omega
   rw[oO];omega
 have hvi:=h.vi.piv hqo (show at'<m+1 by omega) (show s<w+1 by omega) hnq (by rw[oH];exact hp)
 have hlt':∀i,i<m+1→((qd d w m).piv at' s).b i<w+1:=fun i hi=>by
  show (if i=at' then s else (qd d w m).b i)<w+1
  split
  ·omega
  ·exact hI.qlt hl i hi
 obtain⟨b1,b2,b3⟩:=hvi.bound (hqo.piv (show at'<m+1 by omega) hnq) hB.ent hB.con hlt'
 have b0:=hvi.nz
 generalize hE:(det (m+1) fun i=>M (((qd d w m).piv at' s).b i))=E at b0 b1 b2 b3
 obtain⟨D,a0,a1,a2,a3,a4,a5⟩:=h.bound hB
 have hlim:=hB.lim
 have hK1:1≤Kf m β:=by
  obtain⟨z,hz,hz2⟩:=a1
  have:z≠0:=fun e=>a0 (by rw[hz,e];rfl)
  omega
 have hKK:Kf m β≤Kf m β*Kf m β:=uG _ hK1
 have hKK2:Kf m β*Kf m β≤Kf m β*(Kf m β*Kf m β):=uG _ hK1
 generalize hKe:Bk (m+1)*β ^ (m+1)=K at b1 b2 b3
 have hK':Kf m β=K:=hKe
 rw[hK'] at a1 a2 a3 a4 a5 hlim hK1 hKK hKK2
 have hKl:K<LIM:=by omega
 -- rY aY row
 have Sr:=hI.fine.lr at' (by omega)
 obtain⟨gk,gc⟩:=bg.1 (hI.fine.gr at' (by omega))
 have tk:aw (aY d.rows[at']! s).k=true∧rv (aY d.rows[at']! s).k=-rv d.rows[at']!.k / rv d.rows[at']!.c[s]! :=by
  have e:((qd d w m).piv at' s).k at'=-rv d.rows[at']!.k / rv d.rows[at']!.c[s]! :=by
   show (if at'=at' then -(qd d w m).k at' / (qd d w m).c at' s else _)=_
   rw[ai rfl,oH,De hat]
  have hf:=(Dn.pq (x:=-rv d.rows[at']!.k / rv d.rows[at']!.c[s]!) b1 b0 (by rw[←e];exact b2 at' (by omega))).fit hKl
  have:=xb (x:=eR d.rows[at']!.k) (y:=d.rows[at']!.c[s]!) (by rw[qL];exact gk) (gc s (by omega)) hp (by rw[lJ];exact hf)
  rw[lJ] at this
  exact this
 have tc:∀t,t<w→aw (aY d.rows[at']! s).c[t]! =true∧rv (aY d.rows[at']! s).c[t]! =((qd d w m).piv at' s).c at' t:=fun t ht=>by
  have e:((qd d w m).piv at' s).c at' t=if t=d.rows[at']!.b.toNat then 1 / rv d.rows[at']!.c[s]! else if t=s then 0 else -rv d.rows[at']!.c[t]! / rv d.rows[at']!.c[s]! :=by
   show (if at'=at' then (qd d w m).turn at' s t else _)=_
   unfold QD.turn
   rw[ai rfl,oH,hbat,AN hat ht]
  have hf:=(Dn.pq b1 b0 (b3 at' t (by omega) (by omega))).fit hKl
  rw[e] at hf ⊢
  rw[uc (by omega) (by omega)]
  by_cases e1:t=d.rows[at']!.b.toNat
  ·rw[ai e1] at hf ⊢
   rw[ai e1]
   have:=xb of1.1 (gc s (by omega)) hp (by rw[of1.2];exact hf)
   rw[of1.2] at this
   exact this
  ·rw[ah e1] at hf ⊢
   rw[ah e1]
   by_cases e2:t=s
   ·rw[ai e2,ai e2];exact of0
   ·rw[ah e2] at hf ⊢
    rw[ah e2]
    have:=xb (x:=eR d.rows[at']!.c[t]!) (y:=d.rows[at']!.c[s]!) (by rw[qL];exact gc t (by omega)) (gc s (by omega)) hp (by rw[lJ];exact hf)
    rw[lJ] at this
    exact this
 have tlen:(aY d.rows[at']! s).c.length=w:=by rw[qX];exact Sr
 have hx:(Bk (m+1)*β ^ (m+1))=K:=hKe
 -- rY lines
 have hDE:IsI (D*E) (K*K):=a1.mul b1
 have hDE0:D*E≠0:=fun e=>(Is.1 e).elim a0 b0
 have line:∀(k:Nu) (c:List Nu),c.length=w→fS k c=true→Dn D K (rv k)→(∀t,t<w→Dn D K (rv c[t]!))→
   fS (gL k c (aY d.rows[at']! s) s).k (gL k c (aY d.rows[at']! s) s).c=true∧rv (gL k c (aY d.rows[at']! s) s).k=rv k+rv c[s]! *rv (aY d.rows[at']! s).k∧∀t,t<w→rv (gL k c (aY d.rows[at']! s) s).c[t]! =if t=s then 0 else rv c[t]! +rv c[s]! *rv (aY d.rows[at']! s).c[t]! :=fun k c h1 h2 h3 h4=>by
  refine put_ok h1 h2 hs tk.1 (fun t ht=>(tc t ht).1) (Dn.pq a1 a0 h3) (fun t ht=>Dn.pq a1 a0 (h4 t ht)) ?_ (fun t ht=>?_) hlim (by omega)
  ·refine Dn.pq hDE hDE0 (Dn.mul (h4 s hs) ?_)
   have:=b2 at' (by omega)
   have e:((qd d w m).piv at' s).k at'=rv (aY d.rows[at']! s).k:=by
    rw[tk.2]
    show (if at'=at' then -(qd d w m).k at' / (qd d w m).c at' s else _)=_
    rw[ai rfl,oH,De hat]
   rwa[e] at this
  ·refine Dn.pq hDE hDE0 (Dn.mul (h4 s hs) ?_)
   rw[(tc t ht).2]
   exact b3 at' t (by omega) (by omega)
 have Nw:=fun i (hi:i<m)=>line d.rows[i]!.k d.rows[i]!.c (hI.fine.lr i (by omega)) (hI.fine.gr i (by omega)) (a2 i hi) fun t ht=>a4 i t hi ht
 have Mg:=line d.gk d.gc hI.fine.lg hI.fine.gg a3 a5
 have hfine:Fine (f5 d at' s) w:=by
  refine⟨?_,fun i hi=>?_,Mg.1,fun i hi=>?_⟩
  ·show (gL d.gk d.gc _ s).c.length=w
   rw[q9];exact hI.fine.lg
  ·rw[d7] at hi
   rw[iZ hi]
   split
   ·exact tlen
   ·show (gL d.rows[i]!.k d.rows[i]!.c _ s).c.length=w
    rw[q9];exact hI.fine.lr i hi
  ·rw[d7] at hi
   rw[iZ hi]
   split
   ·exact bg.2 ⟨tk.1,fun t ht=>(tc t (by omega)).1⟩
   ·exact (Nw i (by omega)).1
 have hG:gG d w at' s:=⟨hI,by omega,hs,um,hfine⟩
 have IX:(f5 d at' s).rows.length=m:=by rw[d7];exact hl
 have QN:rv (aY d.rows[at']! s).k=-(qd d w m).k at' / (qd d w m).c at' s:=by rw[tk.2,oH,De hat]
 have turnC:∀t,t<w→rv (aY d.rows[at']! s).c[t]! =(qd d w m).turn at' s t:=fun t ht=>by
  rw[(tc t ht).2]
  exact ai rfl
 have turnW:(qd d w m).turn at' s w=0:=by
  unfold QD.turn
  rw[ah (by rw[hbat];omega),ah (by omega),Df,iA]
  grind
 refine⟨hG,⟨hG.toInv,IX,hvi.congr (fun i hi=>?_) (fun i hi=>?_) (fun i hi t ht=>?_)⟩,?_,fun i hi=>?_⟩
 ·show _=if i=at' then s else (qd d w m).b i
  rcases d6 i m with pC|pC
  ·rw[zE pC,zE pC,o5 (by omega)]
   by_cases e:i=at'
   ·rw[ai e,ai e];omega
   ·rw[ah e,ah e]
  ·obtain rfl:i=m:=by omega
   rw[oO,oO,ah (by omega)]
 ·show _=if i=at' then -(qd d w m).k at' / (qd d w m).c at' s else (qd d w m).k i+(qd d w m).c i s*(-(qd d w m).k at' / (qd d w m).c at' s)
  rcases d6 i m with pC|pC
  ·rw[De pC,iZ (by omega)]
   by_cases e:i=at'
   ·rw[ai e,ai e];exact QN
   ·rw[ah e,ah e,De pC,AN pC hs,←QN]
    exact (Nw i pC).2.1
  ·obtain rfl:i=m:=by omega
   rw[ah (by omega),Jx,Jx,BL hs,←QN]
   exact Mg.2.1
 ·show _=if i=at' then (qd d w m).turn at' s t else if t=s then 0 else (qd d w m).c i t+(qd d w m).c i s*(qd d w m).turn at' s t
  by_cases HP:t=w
  ·rw[HP,Df,turnW,Df,ah (by omega:w≠s)]
   split <;> grind
  have xO:t<w:=by omega
  rw[←turnC t xO]
  rcases d6 i m with pC|pC
  ·rw[AN pC xO,iZ (by omega)]
   by_cases e:i=at'
   ·rw[ai e,ai e]
   ·rw[ah e,ah e,AN pC xO,AN pC hs]
    exact (Nw i pC).2.2 t xO
  ·obtain rfl:i=m:=by omega
   rw[ah (by omega),BL xO,BL xO,BL hs]
   exact Mg.2.2 t xO
 ·have:=(Dn.pq b1 b0 (b2 at' (by omega))).fit hKl
  have e:((qd d w m).piv at' s).k at'=rv d.rows[at']!.k / -rv d.rows[at']!.c[s]! :=by
   show (if at'=at' then -(qd d w m).k at' / (qd d w m).c at' s else _)=_
   rw[ai rfl,oH,De hat,iA,iA]
   have i1:=wA _ hp
   have i2:=wA (-rv d.rows[at']!.c[s]!) (fun e=>hp (by grind))
   grind
  rwa[e] at this
 ·rw[iZ (by omega)]
  by_cases e:i=at'
  ·rw[ai e,ai e];exact tk.2
  ·rw[ah e,ah e,←tk.2]
   exact (Nw i hi).2.1
end
end
section
theorem Lx:∀(K:Nat) (n:Nat) (f:Nat→Nat),(∀u,u≤n→f u<K)→(∀a b,a<b→b≤n→f a≠f b)→n<K
 |0,n,f,h,_=>absurd (h 0 (cl n)) (qn _)
 |K+1,n,f,h,hi=>by
  by_cases hex:∃u,u≤n∧f u=K
  ·obtain⟨u,hu,hf⟩:=hex
   by_cases hn:n=0
   ·omega
   ·have:=Lx K (n - 1) (fun a=>if a<u then f a else f (a+1)) (fun a ha=>?_) (fun a b Fl hb=>?_)
    ·omega
    ·split
     ·rename_i h1
      have h2:=h a (by omega)
      have h3:=hi a u h1 hu
      rw[hf] at h3;omega
     ·rename_i h1
      have h2:=h (a+1) (by omega)
      have h3:=hi u (a+1) (by omega) (by omega)
      rw[hf] at h3;omega
    ·split <;> split
     ·exact hi a b Fl (by omega)
     ·exact hi a (b+1) (by omega) (by omega)
     ·omega
     ·exact hi (a+1) (b+1) (by omega) (by omega)
  ·have:=Lx K n f (fun u hu=>by
    have h1:=h u hu
    have:f u≠K:=fun e=>hex ⟨u,hu,e⟩
    omega) hi
   omega
def m8:Nat→Nat→Nat
 |_,0=>1
 |0,_+1=>0
 |n+1,k+1=>m8 n k+m8 n (k+1)
theorem Oq(n:Nat):m8 n 0=1:=by cases n <;> rfl
theorem TM(n k:Nat):m8 n k≤m8 (n+1) k:=by
 cases k with
 |zero=>rw[Oq,Oq];exact ay 1
 |succ k=>exact Nat.le_add_left _ _
open Classical in
def cnt(P:Nat→Prop):Nat→Nat
 |0=>0
 |w+1=>cnt P w+if P w then 1 else 0
def Aa(P:Nat→Prop):Nat→Nat
 |0=>0
 |w+1=>open Classical in Aa P w+if P w then m8 w (cnt P w+1) else 0
theorem pF {P:Nat→Prop}{w:Nat}(h:P w):cnt P (w+1)=cnt P w+1:=by unfold cnt;rw[ai h];cases w <;> rfl
theorem pG {P:Nat→Prop}{w:Nat}(h:¬P w):cnt P (w+1)=cnt P w:=by unfold cnt;rw[ah h];cases w <;> rfl
theorem wt {P:Nat→Prop}{w:Nat}(h:P w):Aa P (w+1)=Aa P w+m8 w (cnt P w+1):=by unfold Aa;rw[ai h];cases w <;> rfl
theorem wu {P:Nat→Prop}{w:Nat}(h:¬P w):Aa P (w+1)=Aa P w:=by unfold Aa;rw[ah h];cases w <;> rfl
theorem CS(P:Nat→Prop):∀w,Aa P w<m8 w (cnt P w)
 |0=>Nat.lt_add_one 0
 |w+1=>by
  have h1:=CS P w
  have h2:=TM w (cnt P w)
  by_cases hp:P w
  ·rw[wt hp,pF hp]
   show _<m8 w (cnt P w)+m8 w (cnt P w+1)
   omega
  ·rw[wu hp,pG hp];omega
theorem Kk {P Q:Nat→Prop}:∀{w:Nat},cnt P w=cnt Q w→Aa P w=Aa Q w→∀t,t<w→(P t↔Q t)
 |0,_,_,t,ht=>by omega
 |w+1,hc,h,t,ht=>by
  have h1:=CS P w
  have h2:=CS Q w
  have fin:(P w↔Q w)→cnt P w=cnt Q w→Aa P w=Aa Q w→(P t↔Q t):=fun e e1 e2=>by
   rcases d6 t w with HP|HP
   ·exact Kk e1 e2 t HP
   ·obtain rfl:t=w:=by omega
    exact e
  by_cases hp:P w <;> by_cases hq:Q w
  ·rw[wt hp,wt hq] at h
   rw[pF hp,pF hq] at hc
   have hc:cnt P w=cnt Q w:=by omega
   rw[hc] at h
   exact fin ⟨fun _=>hq,fun _=>hp⟩ hc (by omega)
  ·rw[wt hp,wu hq] at h
   rw[pF hp,pG hq] at hc
   rw[←hc] at h2
   omega
  ·rw[wu hp,wt hq] at h
   rw[pG hp,pF hq] at hc
   rw[hc] at h1
   omega
  ·rw[wu hp,wu hq] at h
   rw[pG hp,pG hq] at hc
   exact fin ⟨fun e=>absurd e hp,fun e=>absurd e hq⟩ (by omega) (by omega)
theorem xh {P Q:Nat→Prop}:∀{w:Nat},(∀t,t<w→(P t↔Q t))→cnt P w=cnt Q w
 |0,_=>rfl
 |w+1,h=>by
  have ih:=xh (P:=P) (Q:=Q) (w:=w) fun t ht=>h t (by omega)
  by_cases hp:P w
  ·rw[pF hp,pF ((h w (by omega)).1 hp),ih]
  ·rw[pG hp,pG (fun e=>hp ((h w (by omega)).2 e)),ih]
theorem Id {P:Nat→Prop}{x:Nat}(hx:¬P x):∀{w:Nat},x<w→cnt (fun t=>t=x∨P t) w=cnt P w+1
 |0,h=>by omega
 |w+1,h=>by
  by_cases hw:w=x
  ·rw[pF (P:=fun t=>t=x∨P t) (.inl hw),pG (P:=P) (by rw[hw];exact hx),xh (Q:=P) fun t ht=>⟨fun e=>e.elim (fun e=>by omega) id,.inr⟩]
  ·have ih:=Id (P:=P) hx (show x<w by omega)
   by_cases hp:P w
   ·rw[pF (P:=fun t=>t=x∨P t) (.inr hp),pF hp,ih]
   ·rw[pG (P:=fun t=>t=x∨P t) (fun e=>e.elim hw hp),pG hp,ih]
theorem least {f:Nat→Prop}:∀{n:Nat},f n→∃u,u≤n∧f u∧∀v,v<u→¬f v
 |0,h=>⟨0,ay 0,h,fun v hv=>by omega⟩
 |n+1,h=>by
  by_cases hex:∃v,v≤n∧f v
  ·obtain⟨v,hv,hf⟩:=hex
   obtain⟨u,h1,h2,h3⟩:=least hf
   exact⟨u,by omega,h2,h3⟩
  ·exact⟨n+1,ay _,h,fun v hv hf=>hex ⟨v,by omega,hf⟩⟩
def mV(d:Dic):Option (Nat×Nat):=match jY d.gc with
 |none=>none
 |some s=>match i8 d.rows s default d.rows.length with
  |none=>none
  |some p=>if p.1<0 then none else some (p.1.toNat,s)
def nx(d:Dic):Dic:=match mV d with
 |none=>d
 |some p=>f5 d p.1 p.2
def itD:Nat→Dic→Dic
 |0,d=>d
 |u+1,d=>nx (itD u d)
theorem A9:∀(u:Nat) (d:Dic),itD (u+1) d=itD u (nx d)
 |0,_=>rfl
 |u+1,d=>by
  show nx (itD (u+1) d)=nx (itD u (nx d))
  rw[A9 u d]
section
variable {M:Nat→Col} {k0:Col} {d:Dic} {w m β:Nat}
theorem Ok.leav(h:Ok M k0 d w m)(hB:Bd M k0 w m β){s:Nat}(he:jY d.gc=some s)(z:Nu):∀n,n≤m→i8 d.rows s z n≠none
 |0,_=>by unfold i8;exact MG _
 |n+1,hn=>by
  have hI:=h.inv
  have hl:=h.len
  obtain⟨h1,h2,_⟩:=pi he
  rw[hI.fine.lg] at h1
  have ih:=h.leav hB he z n (by omega)
  unfold i8
  cases hq:i8 d.rows s z n with
  |none=>exact absurd hq ih
  |some p=>
   dsimp only
   unfold rm
   dsimp only
   by_cases hc:0≤bI d.rows[n]!.c[s]!
   ·rw[ai hc];exact MG _
   ·rw[ah hc]
    obtain⟨g1,g2⟩:=bg.1 (hI.fine.gr n (by omega))
    have g3:=g2 s (by rw[hI.fine.lr n (by omega)];exact h1)
    have nX:=(tr g3).1 (by omega)
    obtain⟨_,_,hf,_⟩:=h.pivot hB (show n<m by omega) h1 (hI.enter (by omega)) (by grind)
    have hg:=(xb (x:=d.rows[n]!.k) (y:=eR d.rows[n]!.c[s]!) g1 (by rw[qL];exact g3) (by rw[lJ];grind) (by rw[lJ];exact hf)).1
    rw[ah (by rw[hg];simp)]
    split <;> exact MG _
theorem Ok.next(h:Ok M k0 d w m)(hB:Bd M k0 w m β){i s:Nat}(hn:mV d=some (i,s)):Step d (f5 d i s) w i s∧Ok M k0 (f5 d i s) w m∧i<m∧s<w:=by
 have hI:=h.inv
 have hl:=h.len
 unfold mV at hn
 cases he:jY d.gc with
 |none=>rw[he] at hn;cases hn
 |some s'=>
  rw[he] at hn
  dsimp only at hn
  cases hq:i8 d.rows s' default d.rows.length with
  |none=>rw[hq] at hn;cases hn
  |some p=>
   rw[hq] at hn
   dsimp only at hn
   by_cases hp:p.1<0
   ·rw[ai hp] at hn;cases hn
   ·rw[ah hp] at hn
    injection hn with hn
    injection hn with e1 e2
    subst e2
    obtain⟨h1,h2,_⟩:=pi he
    rw[hI.fine.lg] at h1
    rcases o7 hq with h3|⟨i',hi,h3,h4,_⟩
    ·omega
    obtain rfl:i=i':=by omega
    have g3:=(bg.1 (hI.fine.gr i (by omega))).2 s' (by rw[hI.fine.lr i (by omega)];exact h1)
    have nX:=(tr g3).1 h4
    obtain⟨a1,a2,_⟩:=h.pivot hB (show i<m by omega) h1 (hI.enter (by omega)) (by grind)
    exact⟨⟨he,⟨p.2,by rw[hq,←h3]⟩,a1,rfl⟩,a2,by omega,h1⟩
theorem gG.pivotP {at' s:Nat}(h:gG d w at' s)(hp:d.piv<d.most):dH d at' s=(0,f5 d at' s):=by
 obtain⟨h1,h2,h3⟩:=AQ d at' s h.hat (by omega)
 have h4:=h3.2 ⟨h.fine.gg,fun i hi=>h.fine.gr i (by rw[d7];exact hi)⟩
 rw[←h1,←h4]
theorem Ok.nx(h:Ok M k0 d w m)(hB:Bd M k0 w m β):Ok M k0 (nx d) w m:=by
 unfold Go.Proofs.YtaedcknhkjpmlaaGreat.nx
 cases hn:mV d with
 |none=>exact h
 |some p=>exact (h.next hB (i:=p.1) (s:=p.2) hn).2.1
theorem Ok.it(h:Ok M k0 d w m)(hB:Bd M k0 w m β):∀u,Ok M k0 (itD u d) w m
 |0=>h
 |u+1=>(h.it hB u).nx hB
theorem Ci.cnt {d':Dic}{i s:Nat}(h:Ci d d' w i s):cnt (Bas d') w=cnt (Bas d) w:=by
 have hr:=h.inv.rng i h.hi
 have e1:Go.Proofs.YtaedcknhkjpmlaaGreat.cnt (Bas d') w=Go.Proofs.YtaedcknhkjpmlaaGreat.cnt (fun t=>t=s∨(Bas d t∧d.rows[i]!.b≠(t:Int))) w:=xh fun t _=>h.bas t
 have e2:Go.Proofs.YtaedcknhkjpmlaaGreat.cnt (Bas d) w=Go.Proofs.YtaedcknhkjpmlaaGreat.cnt (fun t=>t=d.rows[i]!.b.toNat∨(Bas d t∧d.rows[i]!.b≠(t:Int))) w:=xh fun t _=>by
  constructor
  ·intro hb
   by_cases e:t=d.rows[i]!.b.toNat
   ·exact .inl e
   ·exact .inr ⟨hb,by omega⟩
  ·rintro (e|⟨hb,_⟩)
   ·exact⟨i,h.hi,by omega⟩
   ·exact hb
 rw[e1,e2,Id (fun e=>h.ns e.1) h.hs,Id (fun e=>e.2 (by omega)) (by omega)]
theorem Ok.stops(h:Ok M k0 d w m)(hB:Bd M k0 w m β)(hf:rX d){N:Nat}(hN:∀k,m8 w k≤N):∃n,n<N∧mV (itD n d)=none∧∀u,u<n→mV (itD u d)≠none:=by
 have chain:∀n,(∀u,u<n→mV (itD u d)≠none)→wX (fun u=>itD u d) (fun u=>((mV (itD u d)).getD (0,0)).1) (fun u=>((mV (itD u d)).getD (0,0)).2) w n:=fun n hn=>by
  refine⟨fun u hu=>?_,fun u _=>(h.it hB u).inv,hf⟩
  cases hq:mV (itD u d) with
  |none=>exact absurd hq (hn u hu)
  |some p=>
   have e:itD (u+1) d=f5 (itD u d) p.1 p.2:=by
    show Go.Proofs.YtaedcknhkjpmlaaGreat.nx (itD u d)=_
    unfold Go.Proofs.YtaedcknhkjpmlaaGreat.nx
    rw[hq]
   dsimp only[Option.getD]
   rw[e]
   exact ((h.it hB u).next hB (i:=p.1) (s:=p.2) hq).1.toF
 have hex:∃n,n<N∧mV (itD n d)=none:=by
  apply Eu
  intro LX
  have jv:∀u,u<N→mV (itD u d)≠none:=fun u hu e=>LX ⟨u,hu,e⟩
  have hc:=chain N jv
  have hcnt:∀u,u≤N→cnt (Bas (itD u d)) w=cnt (Bas d) w:=fun u=>by
   induction u with
   |zero=>intro _;rfl
   |succ u ih=>exact fun hu=>((hc.step u (by omega)).cnt).trans (ih (by omega))
  have:=Lx N N (fun u=>Aa (Bas (itD u d)) w) (fun u _=>bG (CS _ _) (hN _)) fun a b Fl hb e=>by
   refine hc.bland Fl hb fun t=>?_
   by_cases ht:t<w
   ·exact Kk ((hcnt a (by omega)).trans (hcnt b hb).symm) e t ht
   ·exact⟨fun hh=>absurd ((hc.inv a (by omega)).bas hh).1 ht,fun hh=>absurd ((hc.inv b hb).bas hh).1 ht⟩
  omega
 obtain⟨n,hn,FQ⟩:=hex
 obtain⟨u,h1,h2,h3⟩:=least (f:=fun u=>mV (itD u d)=none) FQ
 exact⟨u,by omega,h2,h3⟩
theorem Ok.feas1(h:Ok M k0 d w m)(hB:Bd M k0 w m β)(hf:rX d){i s:Nat}(hn:mV d=some (i,s)):rX (f5 d i s):=((h.next hB hn).1.toF.feas hf).1
theorem Ok.improveF(hB:Bd M k0 w m β):∀(n:Nat) (d:Dic) (f:Nat),Ok M k0 d w m→rX d→(∀u,u<n→mV (itD u d)≠none)→mV (itD n d)=none→d.piv+n≤d.most→n<f→
  ∃s d',gR f d=((s,0),d')∧Ok M k0 d' w m∧rX d'∧qH d d' w∧d'.piv=d.piv+n∧((s=-1∧∀t,t<w→rv d'.gc[t]!≤0)∨∃s':Nat,s=(s':Int)∧s'<w∧0<rv d'.gc[s']!∧∀i,i<m→0≤rv d'.rows[i]!.c[s']!)
 |0,d,f,h,hf,_,hn,hp,bH=>by
  obtain⟨f,rfl⟩:∃f',f=f'+1:=⟨f - 1,by omega⟩
  have hI:=h.inv
  have hl:=h.len
  have N1:=(bg.1 hI.fine.gg).2
  have hn:mV d=none:=hn
  unfold mV at hn
  unfold Go.Proofs.YtaedcknhkjpmlaaGreat.gR
  cases he:jY d.gc with
  |none=>
   refine⟨-1,d,rfl,h,hf,qH.refl d w,by omega,.inl ⟨rfl,fun t ht=>?_⟩⟩
   have h1:=Mk he (t:=t) (by rw[hI.fine.lg];exact ht)
   have h2:=Jv (N1 t (by rw[hI.fine.lg];exact ht))
   grind
  |some s=>
   rw[he] at hn
   dsimp only at hn ⊢
   obtain⟨h1,h2,_⟩:=pi he
   have h2:=(Jv (N1 s h1)).1 h2
   rw[hI.fine.lg] at h1
   cases hq:i8 d.rows s default d.rows.length with
   |none=>exact absurd hq (by rw[hl];exact h.leav hB he default m (ay _))
   |some p=>
    rw[hq] at hn
    dsimp only at hn ⊢
    by_cases hp0:p.1<0
    ·rw[ai hp0]
     refine⟨s,d,rfl,h,hf,qH.refl d w,by omega,.inr ⟨s,rfl,h1,h2,fun i hi=>?_⟩⟩
     have g3:=(bg.1 (hI.fine.gr i (by omega))).2 s (by rw[hI.fine.lr i (by omega)];exact h1)
     by_cases hc:bI d.rows[i]!.c[s]! <0
     ·obtain⟨i',_,e,_⟩:=Dz hI h1 (ay _) hq i (by omega) hc
      omega
     ·have:=tr g3
      grind
    ·rw[ah hp0] at hn;cases hn
 |n+1,d,f,h,hf,jv,hn,hp,bH=>by
  obtain⟨f,rfl⟩:∃f',f=f'+1:=⟨f - 1,by omega⟩
  have h0:mV d≠none:=jv 0 (by omega)
  cases hq:mV d with
  |none=>exact absurd hq h0
  |some p=>
   obtain⟨i,s⟩:=p
   obtain⟨GC,hok,hi,hs⟩:=h.next hB hq
   have hf':=h.feas1 hB hf hq
   have qN:Go.Proofs.YtaedcknhkjpmlaaGreat.nx d=f5 d i s:=by unfold Go.Proofs.YtaedcknhkjpmlaaGreat.nx;rw[hq]
   obtain⟨s',d',e1,e2,e3,e4,e5,e6⟩:=Ok.improveF hB n (f5 d i s) f hok hf' (fun u hu=>by rw[←qN,←A9];exact jv (u+1) (by omega)) (by rw[←qN,←A9];exact hn) (by show d.piv+1+n≤d.most;omega) (by omega)
   refine⟨s',d',?_,e2,e3,GC.good.same.trans e4,by rw[e5];show d.piv+1+(n:Int)=_;omega,e6⟩
   have Sa:=GC.good.pivotP (by omega)
   unfold Go.Proofs.YtaedcknhkjpmlaaGreat.gR
   unfold mV at hq
   cases he:jY d.gc with
   |none=>rw[he] at hq;cases hq
   |some s2=>
    rw[he] at hq
    dsimp only at hq ⊢
    cases hl:i8 d.rows s2 default d.rows.length with
    |none=>rw[hl] at hq;cases hq
    |some p=>
     rw[hl] at hq
     dsimp only at hq ⊢
     by_cases hp0:p.1<0
     ·rw[ai hp0] at hq;cases hq
     ·rw[ah hp0] at hq ⊢
      injection hq with hq
      injection hq with q1 q2
      rw[q1,q2,Sa]
      exact e1
theorem Ok.improve(h:Ok M k0 d w m)(hB:Bd M k0 w m β)(hf:rX d){N:Nat}(hN:∀k,m8 w k≤N)(hp:d.piv+N≤d.most):
  ∃s d',aP d=((s,0),d')∧Ok M k0 d' w m∧rX d'∧qH d d' w∧d'.piv≤d.piv+N∧((s=-1∧∀t,t<w→rv d'.gc[t]!≤0)∨∃s':Nat,s=(s':Int)∧s'<w∧0<rv d'.gc[s']!∧∀i,i<m→0≤rv d'.rows[i]!.c[s']!):=by
 obtain⟨n,h1,h2,h3⟩:=h.stops hB hf hN
 obtain⟨s,d',e1,e2,e3,e4,e5,e6⟩:=Ok.improveF hB n d ((d.most - d.piv).toNat+1) h hf h3 h2 (by omega) (by omega)
 exact⟨s,d',e1,e2,e3,e4,by omega,e6⟩
end
end
section
def BT:Nat:=131072
def KT:Nat:=2 ^ 132
def ZT:Nat:=2 ^ 154
structure Sz(m nn:Nat)(A B C:List Nu):Prop where
 m6:m≤6
 n5:nn≤5
 lA:A.length=m*nn
 lB:B.length=m
 lC:C.length=nn
 gA:∀i,i<m*nn→aw A[i]! =true∧IsI (rv A[i]!) BT
 gB:∀i,i<m→aw B[i]! =true∧IsI (rv B[i]!) BT
 gC:∀k,k<nn→aw C[k]! =true∧IsI (rv C[k]!) BT
theorem KX {m:Nat}(h:m≤6):Kf m BT≤KT:=by
 have:m=0∨m=1∨m=2∨m=3∨m=4∨m=5∨m=6:=by omega
 rcases this with rfl|rfl|rfl|rfl|rfl|rfl|rfl <;> exact bc rfl
theorem KT_lim:2*(KT*(KT*KT))<LIM:=bc rfl
theorem IG:2*(ZT*ZT)<LIM:=bc rfl
theorem T9:ZT<LIM:=bc rfl
theorem Kf_lim {m:Nat}(h:m≤6):2*(Kf m BT*(Kf m BT*Kf m BT))<LIM:=by
 have h1:=KX h
 have h2:=kS h1 (kS h1 h1)
 have h3:=KT_lim
 omega
theorem IS:1≤BT:=by decide
theorem yp(a:Nat)(f:Nat→Rat):∀b,bi (a+b) f=bi a f+bi b fun i=>f (a+i)
 |0=>by show bi a f=bi a f+0;grind
 |b+1=>by
  show bi (a+b) f+f (a+b)=bi a f+(bi b (fun i=>f (a+i))+f (a+b))
  rw[yp a f b];grind
theorem sum3(m nn:Nat)(f:Nat→Rat):bi (1+nn+m) f=f 0+bi nn (fun k=>f (k+1))+bi m fun i=>f (1+nn+i):=by
 rw[yp (1+nn) f m,yp 1 f nn]
 have:bi 1 f=f 0:=by show 0+f 0=f 0;grind
 rw[this,aB (f:=fun i=>f (1+i)) (g:=fun k=>f (k+1)) fun k _=>by rw[p6]]
theorem z8:∀{n:Nat} {f:Nat→Col},(∀r,r<n→f n r=0)→f n n=1→det (n+1) f=det n f
 |0,f,_,h1=>by
  show bi 0 _+sgd 0*(f 0 0*det 0 (kr f 0))=1
  rw[h1]
  show (0:Rat)+sgd 0*(1*1)=1
  unfold sgd
  rw[ai rfl]
  grind
 |n+1,f,h0,h1=>by
  show bi (n+1) (fun j=>sgd j*(f j 0*det (n+1) (kr f j)))+sgd (n+1)*(f (n+1) 0*det (n+1) (kr f (n+1)))=bi (n+1) fun j=>sgd j*(f j 0*det n (kr f j))
  rw[h0 0 (by omega),aB (g:=fun j=>sgd j*(f j 0*det n (kr f j))) fun j hj=>?_]
  ·grind
  ·have hs:skip j n=n+1:=ah (by omega)
   rw[z8 (f:=kr f j) (n:=n)]
   ·intro r hr
    show f (skip j n) (r+1)=0
    rw[hs];exact h0 (r+1) (by omega)
   ·show f (skip j n) (n+1)=1
    rw[hs];exact h1
theorem Tq:∀n,det n (fun i r=>if i=r then 1 else 0)=1
 |0=>rfl
 |n+1=>by
  rw[z8 (fun r hr=>ah (by omega)) (ai rfl)]
  exact Tq n
def Mq(q:QD):Nat→Col:=fun t r=>(if t=q.b r then 1 else 0) - q.c r t
theorem QOk.vi {q:QD}{m w:Nat}(h:QOk q m w):VI (Mq q) q.k q m w:=by
 have hM:∀i r,i<m→r<m→Mq q (q.b i) r=if i=r then 1 else 0:=fun i r hi hr=>by
  unfold Mq
  rw[h.z r i hr hi]
  by_cases e:i=r
  ·rw[ai e,ai (by rw[e])];grind
  ·rw[ah e,ah (fun e2=>e (h.inj i r hi hr e2))];grind
 have one:∀(f:Nat→Rat) r,r<m→bi m (fun i=>f i*Mq q (q.b i) r)=f r:=fun f r hr=>by
  rw[aB (g:=fun i=>if i=r then f r else 0) fun i hi=>?_,lV r _ m hr]
  rw[hM i r hi hr]
  by_cases e:i=r
  ·rw[ai e,ai e,e];grind
  ·rw[ah e,ah e];grind
 refine⟨fun r hr=>(one q.k r hr).symm,fun t ht Qk r hr=>?_,?_⟩
 ·rw[one (fun i=>q.c i t) r hr]
  unfold Mq
  rw[ah (fun e=>Qk r hr e.symm)];grind
 ·rw[tM (g:=fun i r=>if i=r then 1 else 0) fun i hi r hr=>hM i r hi hr,Tq]
  grind
theorem Inv.start {d:Dic}{w m:Nat}(h:Inv d w)(hl:d.rows.length=m)(hm:m≤6)(hk:∀i,i<m→IsI (rv d.rows[i]!.k) BT)(hgk:IsI (rv d.gk) BT)(hc:∀i t,i<m→t<w→IsI (rv d.rows[i]!.c[t]!) BT)(hgc:∀t,t<w→IsI (rv d.gc[t]!) BT):
  Ok (Mq (qd d w m)) (qd d w m).k d w m∧Bd (Mq (qd d w m)) (qd d w m).k w m BT∧(∀r,r<m→Mq (qd d w m) w r=0)∧Mq (qd d w m) w m=1:=by
 have hq:=h.qok hl
 have hC:∀r t,r<m+1→t<w+1→IsI ((qd d w m).c r t) BT:=fun r t hr ht=>by
  by_cases HP:t=w
  ·rw[HP,Df];exact IsI.zero _
  ·rcases d6 r m with GD|GD
   ·rw[AN GD (by omega)];exact hc r t GD (by omega)
   ·obtain rfl:r=m:=by omega
    rw[BL (by omega)];exact hgc t (by omega)
 have hbw:∀r,r<m→(qd d w m).b r≠w:=fun r hr=>by
  have:=h.rng r (by omega)
  rw[zE hr];omega
 refine⟨⟨h,hl,hq.vi⟩,⟨fun t ht r hr=>?_,fun r hr=>?_,Kf_lim hm⟩,fun r hr=>?_,?_⟩
 ·unfold Mq
  by_cases e:t=(qd d w m).b r
  ·rw[ai e,e,hq.z r r hr hr,show (1:Rat) - 0=1 by grind]
   exact IsI.one IS
  ·rw[ah e,show (0:Rat) - (qd d w m).c r t=-(qd d w m).c r t by grind]
   exact (hC r t hr ht).neg
 ·rcases d6 r m with GD|GD
  ·rw[De GD];exact hk r GD
  ·obtain rfl:r=m:=by omega
   rw[Jx];exact hgk
 ·unfold Mq
  rw[ah (fun e=>hbw r hr e.symm),Df];grind
 ·unfold Mq
  rw[oO,ai rfl,Df];grind
section
variable {m nn:Nat} {A B C:List Nu} {most:Int}
theorem Sz.idx(_:Sz m nn A B C){i k:Nat}(hi:i<m)(hk:k<nn):i*nn+k<m*nn:=by
 calc i*nn+k<i*nn+nn:=by omega
  _=(i+1)*nn:=by rw[bU];omega
  _≤m*nn:=cG _ hi
theorem CO {i t:Nat}(hi:i<m)(ht:t<1+nn+m):(aG m nn A B most).rows[i]!.c[t]! =if 1≤t∧t≤nn then eR A[i*nn+(t - 1)]! else nOf 0:=by
 rw[eJ hi]
 exact dP (bX _ ht)
theorem sF {i:Nat}(hi:i<m):(aG m nn A B most).rows[i]!.k=B[i]! :=by rw[eJ hi]
theorem Sz.inv(h:Sz m nn A B C):Inv (aG m nn A B most) (1+nn+m):=GM h.lA h.lB (fun i hi=>(h.gA i (by rw[←h.lA];exact hi)).1) fun i hi=>(h.gB i (by rw[←h.lB];exact hi)).1
theorem Sz.intC(h:Sz m nn A B C){i t:Nat}(hi:i<m)(ht:t<1+nn+m):IsI (rv (aG m nn A B most).rows[i]!.c[t]!) BT:=by
 rw[CO hi ht]
 split
 ·rename_i h1
  rw[lJ]
  exact (h.gA _ (h.idx hi (by omega))).2.neg
 ·rw[of0.2];exact IsI.zero _
def Eqs(m nn:Nat)(A B:List Nu)(x0:Rat)(y:Nat→Rat):Prop:=∀i,i<m→y (1+nn+i)=rv B[i]! - bi nn (fun k=>rv A[i*nn+k]! *y (k+1))+x0
theorem B1(x:Nu){i:Nat}(hi:i<m)(y:Nat→Rat):bK (1+nn+m) (aG m nn A B most).rows[i]!.k ((aG m nn A B most).rows[i]!.c.set 0 x) y=rv B[i]! - bi nn (fun k=>rv A[i*nn+k]! *y (k+1))+rv x*y 0:=by
 have hl:(aG m nn A B most).rows[i]!.c.length=1+nn+m:=by rw[eJ hi];simp
 unfold bK
 have hg:∀t,t<1+nn+m→((aG m nn A B most).rows[i]!.c.set 0 x)[t]! =if 0=t then x else (aG m nn A B most).rows[i]!.c[t]! :=fun t ht=>ew (by omega)
 rw[sum3,sF hi,hg 0 (by omega),ai rfl]
 have e1:bi nn (fun k=>rv ((aG m nn A B most).rows[i]!.c.set 0 x)[k+1]! *y (k+1))=bi nn (fun k=>(-1)*(rv A[i*nn+k]! *y (k+1))):=aB fun k hk=>by
  rw[hg (k+1) (by omega),ah (by omega),CO hi (by omega),ai (by omega),lJ,uH];grind
 have e2:bi m (fun j=>rv ((aG m nn A B most).rows[i]!.c.set 0 x)[1+nn+j]! *y (1+nn+j))=bi m (fun _=>0):=aB fun j hj=>by
  rw[hg (1+nn+j) (by omega),ah (by omega),CO hi (by omega),ah (by omega),of0.2];grind
 rw[e1,e2,fE,iY]
 grind
theorem PQ(y:Nat→Rat):Sol (aG m nn A B most) (1+nn+m) y↔Eqs m nn A B 0 y:=by
 have h:∀i,i<m→bK (1+nn+m) (aG m nn A B most).rows[i]!.k (aG m nn A B most).rows[i]!.c y=rv B[i]! - bi nn (fun k=>rv A[i*nn+k]! *y (k+1))+0:=fun i hi=>by
  have h1:=B1 (most:=most) (A:=A) (B:=B) (nn:=nn) (nOf 0) hi y
  have h2:(aG m nn A B most).rows[i]!.c.set 0 (nOf 0)=(aG m nn A B most).rows[i]!.c:=by
   have hl:(aG m nn A B most).rows[i]!.c.length=1+nn+m:=by rw[eJ hi];simp
   refine (mW (n:=1+nn+m) (f:=fun t=>(aG m nn A B most).rows[i]!.c[t]!) (by rw[cU];exact hl) fun t ht=>?_).trans (mW hl fun t ht=>rfl).symm
   rw[ew (by omega)]
   split
   ·rename_i e
    rw[←e,CO hi (by omega),ah (by omega)]
   ·rfl
  rw[h2,of0.2] at h1
  rw[h1];grind
 have hb:∀i,i<m→(aG m nn A B most).rows[i]!.b.toNat=1+nn+i:=fun i hi=>by rw[qR i hi];omega
 constructor
 ·intro hy i hi
  have:=hy i (by rw[jw];exact hi)
  rwa[hb i hi,h i hi] at this
 ·intro hy i hi
  rw[jw] at hi
  rw[hb i hi,h i hi]
  exact hy i hi
theorem o3 {i:Nat}(hi:i<m):(cf (aG m nn A B most)).rows[i]! =tN (nOf 1) (aG m nn A B most).rows[i]! :=zM (by rw[jw];exact hi)
theorem tq:(cf (aG m nn A B most)).rows.length=m:=by
 show ((aG m nn A B most).rows.map _).length=m
 rw[bh,jw]
theorem Gl(y:Nat→Rat):Sol (cf (aG m nn A B most)) (1+nn+m) y↔Eqs m nn A B (y 0) y:=by
 have h:∀i,i<m→bK (1+nn+m) (cf (aG m nn A B most)).rows[i]!.k (cf (aG m nn A B most)).rows[i]!.c y=rv B[i]! - bi nn (fun k=>rv A[i*nn+k]! *y (k+1))+y 0:=fun i hi=>by
  rw[o3 hi]
  have:=B1 (most:=most) (A:=A) (B:=B) (nn:=nn) (nOf 1) hi y
  rw[of1.2] at this
  refine this.trans ?_
  grind
 have hb:∀i,i<m→(cf (aG m nn A B most)).rows[i]!.b.toNat=1+nn+i:=fun i hi=>by
  rw[o3 hi]
  show (aG m nn A B most).rows[i]!.b.toNat=_
  rw[qR i hi];omega
 constructor
 ·intro hy i hi
  have:=hy i (by rw[tq];exact hi)
  rwa[hb i hi,h i hi] at this
 ·intro hy i hi
  rw[tq] at hi
  rw[hb i hi,h i hi]
  exact hy i hi
theorem Ju {t:Nat}(ht:t<1+nn+m):(cf (aG m nn A B most)).gc[t]! =if t=0 then nOf (-1) else nOf 0:=by
 show ((List.replicate (1+nn+m) (nOf 0)).set 0 (nOf (-1)))[t]! =_
 rw[ew (by simpa using ht)]
 by_cases h:t=0
 ·rw[ai h,ai h.symm]
 ·rw[ah h,ah (fun e=>h e.symm),mr ht]
theorem yq(y:Nat→Rat):bK (1+nn+m) (cf (aG m nn A B most)).gk (cf (aG m nn A B most)).gc y=-y 0:=by
 unfold bK
 rw[aB (g:=fun t=>if t=0 then -y 0 else 0) fun t ht=>?_,lV 0 _ _ (by omega)]
 ·show rv (nOf 0)+_=_
  rw[of0.2];grind
 ·rw[Ju ht]
  by_cases h:t=0
  ·rw[ai h,ai h,ofm1.2,h];grind
  ·rw[ah h,ah h,of0.2];grind
theorem Sz.startInv(h:Sz m nn A B C):Inv (cf (aG m nn A B most)) (1+nn+m):=by
 have hI:=h.inv (most:=most)
 have h0:∀j,j<(aG m nn A B most).rows.length→(aG m nn A B most).rows[j]!.b≠0:=fun j hj=>by
  rw[jw] at hj
  rw[qR j hj];omega
 refine hI.col of1.1 (.inl h0) (by rw[cU];exact hI.fine.lg) (qH.fine hI ofm1.1 _ _ hI.fine.lg hI.fine.gg) (fun j hj=>?_) 0
 have:=hI.rng j hj
 have:=h0 j hj
 have:=hI.fine.lg
 rw[ew (by omega),ah (by omega)]
 exact hI.zg j hj
theorem Sz.firstOk(h:Sz m nn A B C):let d:=aG m nn A B most;Ok (Mq (qd d (1+nn+m) m)) (qd d (1+nn+m) m).k d (1+nn+m) m∧Bd (Mq (qd d (1+nn+m) m)) (qd d (1+nn+m) m).k (1+nn+m) m BT∧(∀r,r<m→Mq (qd d (1+nn+m) m) (1+nn+m) r=0)∧Mq (qd d (1+nn+m) m) (1+nn+m) m=1:=by
 refine h.inv.start jw h.m6 (fun i hi=>?_) ?_ (fun i t hi ht=>h.intC hi ht) (fun t ht=>?_)
 ·rw[sF hi];exact (h.gB i hi).2
 ·show IsI (rv (nOf 0)) BT
  rw[of0.2];exact IsI.zero _
 ·show IsI (rv (List.replicate (1+nn+m) (nOf 0))[t]!) BT
  rw[mr ht,of0.2];exact IsI.zero _
theorem Sz.startOk(h:Sz m nn A B C):let d:=cf (aG m nn A B most);Ok (Mq (qd d (1+nn+m) m)) (qd d (1+nn+m) m).k d (1+nn+m) m∧Bd (Mq (qd d (1+nn+m) m)) (qd d (1+nn+m) m).k (1+nn+m) m BT∧(∀r,r<m→Mq (qd d (1+nn+m) m) (1+nn+m) r=0)∧Mq (qd d (1+nn+m) m) (1+nn+m) m=1:=by
 refine h.startInv.start tq h.m6 (fun i hi=>?_) ?_ (fun i t hi ht=>?_) (fun t ht=>?_)
 ·rw[o3 hi]
  show IsI (rv (aG m nn A B most).rows[i]!.k) BT
  rw[sF hi];exact (h.gB i hi).2
 ·show IsI (rv (nOf 0)) BT
  rw[of0.2];exact IsI.zero _
 ·rw[o3 hi]
  show IsI (rv ((aG m nn A B most).rows[i]!.c.set 0 (nOf 1))[t]!) BT
  rw[ew (by rw[eJ hi];simpa using ht)]
  split
  ·rw[of1.2];exact IsI.one IS
  ·exact h.intC hi ht
 ·rw[Ju ht]
  split
  ·rw[ofm1.2];exact (IsI.one IS).neg
  ·rw[of0.2];exact IsI.zero _
end
theorem NK {l:List Row}(hg:∀i,i<l.length→aw l[i]!.k=true):∀n,n≤l.length→∀j,j<n→rv l[jI l n]!.k≤rv l[j]!.k
 |0,_,j,hj=>by omega
 |n+1,hn,j,hj=>by
  have ih:=NK hg n (by omega)
  have bH:jI l n<l.length:=by
   have:=zQ l n
   omega
  obtain⟨_,_,c3,_⟩:=rC (hg n (by omega)) (hg (jI l n) bH)
  unfold jI
  by_cases h:pN l[n]!.k l[jI l n]!.k<0
  ·rw[ai h]
   have h2:=c3.1 h
   rcases d6 j n with tf|tf
   ·have:=ih j tf;grind
   ·obtain rfl:j=n:=by omega
    grind
  ·rw[ah h]
   rcases d6 j n with tf|tf
   ·exact ih j tf
   ·obtain rfl:j=n:=by omega
    have:¬rv l[j]!.k<rv l[jI l j]!.k:=fun e=>h (c3.2 e)
    grind
section
variable {M:Nat→Col} {k0:Col} {d:Dic} {w m:Nat}
theorem Inv.bnon(h:Inv d w)(hf:rX d){t:Nat}:0≤Go.Proofs.YtaedcknhkjpmlaaGreat.mR d t:=by
 by_cases hb:Bas d t
 ·obtain⟨j,hj,e⟩:=hb
  have:=h.rng j hj
  have:=h.bsol_row hj
  rw[show d.rows[j]!.b.toNat=t by omega] at this
  rw[this];exact hf j hj
 ·rw[lf hb];exact Rat.le_refl
theorem Inv.bounded(hI:Inv d w)(hf:rX d)(hw:0<w){s:Nat}(hs:s<w)(hg:0<rv d.gc[s]!)(hc:∀i,i<d.rows.length→0≤rv d.rows[i]!.c[s]!)(sw:∀y,Sol d w y→bK w d.gk d.gc y=-y 0):False:=by
 have Sk:¬Bas d s:=fun hb=>by
  have:=(hI.bas hb).2.1
  rw[this,of0.2] at hg;grind
 have hgk:rv d.gk≤0:=by
  have h1:=sw _ hI.bsol
  rw[hI.bgoal] at h1
  have:=hI.bnon hf (t:=0)
  grind
 obtain⟨l,hl,hl0⟩:∃l:Rat,rv d.gc[s]! *l=1 - rv d.gk∧0≤l:=by
  refine⟨(1 - rv d.gk) / rv d.gc[s]!,?_,B6 (by grind) hg⟩
  rw[iA]
  have:=wA (rv d.gc[s]!) (by grind)
  grind
 obtain⟨y,hy,hv⟩:=hI.pick fun r=>if r=s then l else 0
 have Pm:y s=l:=by rw[hv s fun j hj e=>Sk ⟨j,hj,e⟩,ai rfl]
 have h0:∀t,t<w→¬Bas d t→t≠s→y t=0:=fun t _ hb qM=>by rw[hv t fun j hj e=>hb ⟨j,hj,e⟩,ah qM]
 obtain⟨h1,h2⟩:=hI.at hs Sk hy h0
 rw[sw y hy,Pm,hl] at h2
 have h3:0≤y 0:=by
  by_cases hb:Bas d 0
  ·obtain⟨j,hj,e⟩:=hb
   have:=h1 j hj
   rw[show d.rows[j]!.b.toNat=0 by omega,Pm] at this
   rw[this]
   have a:=Ev (hc j hj) hl0
   have b:=hf j hj
   grind
  ·by_cases hs0:0=s
   ·rw[hs0,Pm];exact hl0
   ·rw[h0 0 hw hb hs0];exact Rat.le_refl
 grind
end
section
variable {m nn:Nat} {A B C:List Nu} {most:Int}
theorem Sz.begin(h:Sz m nn A B C){i0:Nat}(hi0:i0<m)(nX:rv B[i0]! <0){N:Nat}(hN:∀k,m8 (1+nn+m) k≤N)(DH:(N:Int)+10≤most):∃M k0 d',jx (aG m nn A B most)=(0,d')∧Ok M k0 d' (1+nn+m) m∧Bd M k0 (1+nn+m) m BT∧(∀r,r<m→M (1+nn+m) r=0)∧M (1+nn+m) m=1∧rX d'∧qH (cf (aG m nn A B most)) d' (1+nn+m)∧d'.piv≤N+2∧
  ((bI d'.gk<0∧∀t,t<1+nn+m→rv d'.gc[t]!≤0)∨(¬bI d'.gk<0∧∀j,j<m→d'.rows[j]!.b≠0)):=by
 obtain⟨hok,hB,Mc,Qr⟩:=h.startOk (most:=most)
 generalize hMe:Mq (qd (cf (aG m nn A B most)) (1+nn+m) m)=M at hok hB Mc Qr
 generalize hke:(qd (cf (aG m nn A B most)) (1+nn+m) m).k=k0 at hok hB
 have Sr:(aG m nn A B most).rows.length=m:=jw
 have ms:=zQ (aG m nn A B most).rows m
 have hat:jI (aG m nn A B most).rows m<m:=by omega
 have DI:=NK (l:=(aG m nn A B most).rows) (fun i hi=>by rw[Sr] at hi;rw[sF hi];exact (h.gB i hi).1) m (by omega)
 generalize DL:jI (aG m nn A B most).rows m=at' at hat DI
 have sk:∀i,i<m→(cf (aG m nn A B most)).rows[i]!.k=B[i]! :=fun i hi=>by rw[o3 hi];exact sF hi
 have sc:∀i,i<m→(cf (aG m nn A B most)).rows[i]!.c[0]! =nOf 1:=fun i hi=>by
  rw[o3 hi]
  show ((aG m nn A B most).rows[i]!.c.set 0 (nOf 1))[0]! =_
  rw[ew (by rw[eJ hi];simp;omega),ai rfl]
 have hmin':∀j,j<m→rv B[at']!≤rv B[j]! :=fun j hj=>by
  have:=DI j hj
  rwa[sF hat,sF hj] at this
 have um:∀j,j<(cf (aG m nn A B most)).rows.length→(cf (aG m nn A B most)).rows[j]!.b≠((0:Nat):Int):=fun j hj=>by
  rw[tq] at hj
  rw[o3 hj]
  show (aG m nn A B most).rows[j]!.b≠_
  rw[qR j hj];omega
 obtain⟨hG,zU,_,Ss⟩:=hok.pivot hB hat (show 0<1+nn+m by omega) um (by rw[sc at' hat,of1.2];grind)
 have js:=hG.pivotP (show (0:Int)<most by omega)
 have N4:rX (f5 (cf (aG m nn A B most)) at' 0):=fun i hi=>by
  rw[d7,tq] at hi
  rw[Ss i hi,sk at' hat,sc at' hat,of1.2,sk i hi]
  have e1:=hmin' i hi
  have e2:=hmin' i0 hi0
  have e3:-rv B[at']! / 1=-rv B[at']! :=by rw[iA];have:=wA (1:Rat) (by grind);grind
  split
  ·rw[e3];grind
  ·rw[e3,sc i hi,of1.2];grind
 have PL:qH (cf (aG m nn A B most)) (f5 (cf (aG m nn A B most)) at' 0) (1+nn+m):=hG.same
 have hpv1:(f5 (cf (aG m nn A B most)) at' 0).piv=1:=rfl
 have hmo1:(f5 (cf (aG m nn A B most)) at' 0).most=most:=rfl
 generalize CJ:f5 (cf (aG m nn A B most)) at' 0=d1 at zU js N4 PL hpv1 hmo1
 obtain⟨s,d3,e1,JS,N3,hS3,hpv3,JU⟩:=zU.improve hB N4 hN (by omega)
 have hS:qH (cf (aG m nn A B most)) d3 (1+nn+m):=PL.trans hS3
 have sw:∀y,Sol d3 (1+nn+m) y→bK (1+nn+m) d3.gk d3.gc y=-y 0:=fun y hy=>by
  rw[hS.goal y ((hS.sol y).1 hy)];exact yq y
 have PM:=JS.inv
 have hl3:=JS.len
 have N1:=(bg.1 PM.fine.gg)
 have hend2:s=-1∧∀t,t<1+nn+m→rv d3.gc[t]!≤0:=by
  rcases JU with e|⟨s',_,a2,a3,a4⟩
  ·exact e
  ·exact (PM.bounded N3 (by omega) a2 a3 (fun i hi=>a4 i (by omega)) sw).elim
 unfold jx
 rw[Sr,DL]
 dsimp only
 rw[js]
 dsimp only
 rw[ah (by simp),e1]
 dsimp only
 by_cases hgn:bI d3.gk<0
 ·rw[ai (.inr hgn)]
  exact⟨M,k0,d3,rfl,JS,hB,Mc,Qr,N3,hS,by omega,.inl ⟨hgn,hend2.2⟩⟩
 ·rw[ah (by simp;omega)]
  have hgk0:rv d3.gk=0:=by
   have h1:=sw _ PM.bsol
   rw[PM.bgoal] at h1
   have h2:=PM.bnon N3 (t:=0)
   have h3:¬rv d3.gk<0:=fun e=>hgn ((tr N1.1).2 e)
   grind
  rcases qS d3.rows 0 with⟨h5,h6⟩|⟨i,h5,h6,h7⟩
  ·rw[ai (by rw[h5];decide)]
   exact⟨M,k0,d3,rfl,JS,hB,Mc,Qr,N3,hS,by omega,.inr ⟨hgn,fun j hj=>h6 j (by omega)⟩⟩
  ·rw[ah (by omega),h6,show ((i:Int)).toNat=i by omega]
   -- rY row of 0 has rY constant 0
   have hki:rv d3.rows[i]!.k=0:=by
    have h1:=sw _ PM.bsol
    rw[PM.bgoal,hgk0] at h1
    have h2:=PM.bsol_row h5
    rw[h7] at h2
    rw[←h2]
    show mR d3 0=0
    grind
   have hli:=PM.fine.lr i h5
   have IY:=(bg.1 (PM.fine.gr i h5)).2
   cases hz:xJ d3.rows[i]!.c with
   |none=>
    exfalso
    have hzz:∀t,t<1+nn+m→d3.rows[i]!.c[t]! =nOf 0:=fun t ht=>by
     unfold xJ at hz
     have:=uE.1 hz d3.rows[i]!.c[t] (nA (by omega))
     refine good0 (IY t (by omega)) ?_
     rw[bJ _ t (by omega)]
     simpa using this
    -- numbers with y 0=1 fit rY start
    obtain⟨y,hy,hy0⟩:∃y,Sol (cf (aG m nn A B most)) (1+nn+m) y∧y 0=1:=by
     refine⟨fun t=>if t=0 then 1 else if t<1+nn then 0 else rv B[t - (1+nn)]! +1,(Gl _).2 fun j hj=>?_,ai rfl⟩
     rw[ah (by omega),ah (by omega),ai rfl,show 1+nn+j - (1+nn)=j by omega,aB (g:=fun _=>0) fun k hk=>?_,fE]
     ·grind
     ·rw[ah (by omega),ai (by omega)];grind
    have h1:=(hS.sol y).2 hy i h5
    rw[h7] at h1
    have h2:bK (1+nn+m) d3.rows[i]!.k d3.rows[i]!.c y=0:=by
     unfold bK
     rw[aB (g:=fun _=>0) fun t ht=>by rw[hzz t ht,of0.2];grind,fE,hki]
     grind
    rw[h2] at h1
    have h3:y 0=0:=h1
    rw[hy0] at h3
    grind
   |some s2=>
    dsimp only
    obtain⟨z1,z2,_⟩:=ox.1 hz
    have z2:bI d3.rows[i]!.c[s2]!≠0:=by rw[bJ _ s2 z1];simpa using z2
    have K9:s2<1+nn+m:=by omega
    have fk:rv d3.rows[i]!.c[s2]!≠0:=fun e=>z2 ((zx (IY s2 z1)).2 e)
    obtain⟨hG4,hok4,_,hk4⟩:=JS.pivot hB (show i<m by omega) K9 (PM.rowNz h5 z2) fk
    have hmost3:d3.most=most:=hS.most
    have hp4:=hG4.pivotP (by omega)
    rw[hp4]
    have hS4:=hS.trans hG4.same
    have hz0:-rv d3.rows[i]!.k / rv d3.rows[i]!.c[s2]! =0:=by rw[hki,iA];grind
    have N9:∀j,j<m→(f5 d3 i s2).rows[j]!.b≠0:=fun j hj=>by
     rw[o5 (by omega)]
     have hs20:s2≠0:=fun e=>by
      have:=PM.zr i i h5 h5
      rw[h7] at this
      rw[e] at fk
      exact fk (by rw[show d3.rows[i]!.c[0]! =nOf 0 from this];exact of0.2)
     split
     ·omega
     ·rename_i yY
      intro e
      exact yY (PM.inj j i (by omega) h5 (by rw[e,h7]))
    have hf4:rX (f5 d3 i s2):=fun j hj=>by
     rw[d7] at hj
     rw[hk4 j (by omega),hz0]
     split
     ·exact Rat.le_refl
     ·have:=N3 j hj
      grind
    have hgk4:rv (f5 d3 i s2).gk=0:=by
     have h1:=hS4.goal _ ((hS4.sol _).1 hok4.inv.bsol)
     rw[hok4.inv.bgoal,yq,lf (fun⟨j,hj,e⟩=>N9 j (by rw[d7] at hj;omega) (by rw[e];rfl))] at h1
     rw[h1];grind
    refine⟨M,k0,f5 d3 i s2,rfl,hok4,hB,Mc,Qr,hf4,hS4,by show d3.piv+1≤_;omega,.inr ⟨fun e=>?_,N9⟩⟩
    have:=(tr (bg.1 hok4.inv.fine.gg).1).1 e
    rw[hgk4] at this
    grind
end
end
section
theorem addK_ok {q x l:Nu}(hq:aw q=true)(hx:aw x=true)(hl:aw l=true)(p1:Pq ZT (rv l))(p2:Pq ZT (rv q*rv x)):aw (wK q x l)=true∧rv (wK q x l)=rv l+rv q*rv x:=by
 unfold wK
 by_cases h0:bI q=0
 ·rw[ai h0,(zx hq).1 h0]
  exact⟨hl,by grind⟩
 ·rw[ah h0]
  obtain⟨g1,g2⟩:=tJ hq hx (p2.fit T9)
  obtain⟨g3,g4⟩:=qQ hl g1 p1 (by rw[g2];exact p2) IG
  exact⟨g3,by rw[g4,g2]⟩
theorem addC_ok {q:Nu}{xc lc:List Nu}{w:Nat}(hlc:lc.length=w)(hq:aw q=true)(hx:∀t,t<w→aw xc[t]! =true)(hl:∀t,t<w→aw lc[t]! =true)(p1:∀t,t<w→Pq ZT (rv lc[t]!))(p2:∀t,t<w→Pq ZT (rv q*rv xc[t]!)):∀t,t<w→aw (tT q xc (-1) lc)[t]! =true∧rv (tT q xc (-1) lc)[t]! =rv lc[t]! +rv q*rv xc[t]! :=by
 intro t ht
 unfold tT
 by_cases h0:bI q=0
 ·rw[ai h0,(zx hq).1 h0]
  exact⟨hl t ht,by grind⟩
 ·rw[ah h0,CT _ _ _ _ t (by omega),ai (by omega)]
  obtain⟨g1,g2⟩:=tJ hq (hx t ht) ((p2 t ht).fit T9)
  obtain⟨g3,g4⟩:=qQ (hl t ht) g1 (p1 t ht) (by rw[g2];exact p2 t ht) IG
  exact⟨g3,by rw[g4,g2]⟩
def gT(C:List Nu)(k t:Nat):Rat:=if 1≤t∧t≤k then rv C[t - 1]! else 0
theorem H0 {C:List Nu}{k t:Nat}:gT C (k+1) t=gT C k t+if t=k+1 then rv C[k]! else 0:=by
 unfold gT
 by_cases h:t=k+1
 ·rw[ai h,ai (by omega),ah (by omega),h,uH];grind
 ·rw[ah h]
  by_cases h2:1≤t∧t≤k
  ·rw[ai h2,ai (by omega)];grind
  ·rw[ah h2,ah (by omega)];grind
theorem S4 {C:List Nu}{k t:Nat}(h:t≠k+1):gT C (k+1) t=gT C k t:=by rw[H0,ah h];grind
section
variable {M:Nat→Col} {k0:Col} {d:Dic} {w m nn:Nat} {C:List Nu}
open Classical in
structure AimI(l:List Row)(w m:Nat)(C:List Nu)(bas:Nat→Prop)(k:Nat)(g:Nu×List Nu):Prop where
 len:g.2.length=w
 g1:aw g.1=true
 v1:rv g.1=bi m fun i=>gT C k l[i]!.b.toNat*rv l[i]!.k
 g2:∀t,t<w→aw g.2[t]! =true
 v2:∀t,t<w→rv g.2[t]! =(if bas t then 0 else gT C k t)+bi m fun i=>gT C k l[i]!.b.toNat*rv l[i]!.c[t]!
 sol:∀y:Nat→Rat,(∀i,i<m→y l[i]!.b.toNat=bK w l[i]!.k l[i]!.c y)→bK w g.1 g.2 y=bi k fun j=>rv C[j]! *y (j+1)
theorem KK {l:List Row}{D:Rat}(hl:l.length=m)(hm:m≤6)(Pu:nn+1≤w)(hlen:∀i,i<m→l[i]!.c.length=w)(hgk:∀i,i<m→aw l[i]!.k=true)(hgc:∀i t,i<m→t<w→aw l[i]!.c[t]! =true)(hb:∀i,i<m→0≤l[i]!.b∧l[i]!.b<w)
  (tG:∀i j,i<m→j<m→l[i]!.b=l[j]!.b→i=j) (I0:D≠0) (hD:IsI D KT) (hDk:∀i,i<m→Dn D KT (rv l[i]!.k)) (hDc:∀i t,i<m→t<w→Dn D KT (rv l[i]!.c[t]!)) (gC:∀k,k<nn→aw C[k]! =true∧IsI (rv C[k]!) BT):
  ∀k,k≤nn→AimI l w m C (fun t=>∃j,j<m∧l[j]!.b=(t:Int)) k (gt l w C k)
 |0,_=>by
  have e0:∀t,gT C 0 t=0:=fun t=>by unfold gT;rw[ah (by omega)]
  refine⟨by simp[gt],of0.1,?_,fun t ht=>?_,fun t ht=>?_,fun y _=>?_⟩
  ·rw[aB (g:=fun _=>0) fun i _=>by rw[e0];grind,fE];exact of0.2
  ·show aw (List.replicate w (nOf 0))[t]! =true
   rw[mr ht];exact of0.1
  ·rw[aB (g:=fun _=>0) fun i _=>by rw[e0];grind,fE,e0]
   show rv (List.replicate w (nOf 0))[t]! =_
   rw[mr ht,of0.2]
   split <;> grind
  ·show bK w (nOf 0) (List.replicate w (nOf 0)) y=0
   unfold bK
   rw[aB (g:=fun _=>0) fun t ht=>by rw[mr ht,of0.2];grind,fE,of0.2];grind
 |k+1,hk=>by
  have ih:=KK hl hm Pu hlen hgk hgc hb tG I0 hD hDk hDc gC k (by omega)
  obtain⟨q1,q2⟩:=gC k (by omega)
  have hZ:m*(BT*KT)+KT*BT≤ZT:=by
   have:m*(BT*KT)≤6*(BT*KT):=cG _ hm
   have h2:6*(BT*KT)+KT*BT≤ZT:=bc rfl
   omega
  have hZ2:KT≤ZT:=bc rfl
  have hZ3:BT*KT≤ZT:=bc rfl
  have Qs:IsI D ZT:=hD.mono hZ2
  have gI:∀t,IsI (gT C k t) BT:=fun t=>by
   unfold gT
   split
   ·exact (gC _ (by omega)).2
   ·exact IsI.zero _
  have pk:Pq ZT (rv (gt l w C k).1):=by
   rw[ih.v1]
   refine Dn.pq Qs I0 ((Dn.sum (K:=BT*KT) fun i hi=>Dn.int (gI _) (hDk i hi)).mono (by omega))
  have pc:∀t,t<w→Pq ZT (rv (gt l w C k).2[t]!):=fun t ht=>by
   rw[ih.v2 t ht]
   refine Dn.pq Qs I0 ((Dn.add (K:=KT*BT) ?_ (Dn.sum (K:=BT*KT) fun i hi=>Dn.int (gI _) (hDc i t hi ht))).mono (by omega))
   split
   ·exact Dn.zero _ _
   ·exact Dn.of hD (gI t)
  unfold gt
  dsimp only
  generalize hG:gt l w C k=g at ih pk pc ⊢
  rcases qS l ((k+1:Nat):Int) with⟨h5,h6⟩|⟨j,h5,h6,h7⟩
  ·rw[ah (by omega)]
   have um:∀i,i<m→l[i]!.b.toNat≠k+1:=fun i hi e=>h6 i (by omega) (by have:=hb i hi;omega)
   have hs:∀f:Nat→Rat,bi m (fun i=>gT C (k+1) l[i]!.b.toNat*f i)=bi m fun i=>gT C k l[i]!.b.toNat*f i:=fun f=>aB fun i hi=>by rw[S4 (um i hi)]
   have hkw:k+1<w:=by omega
   obtain⟨a1,a2⟩:=qQ (ih.g2 (k+1) hkw) q1 (pc (k+1) hkw) (Dn.pq Qs I0 ((Dn.of hD q2).mono (by omega))) IG
   have f8:∀t,t<w→(g.2.set (k+1) (jA g.2[k+1]! C[k]!))[t]! =if k+1=t then jA g.2[k+1]! C[k]! else g.2[t]! :=fun t ht=>ew (by rw[ih.len];exact ht)
   refine⟨by dsimp only;rw[cU];exact ih.len,ih.g1,by rw[hs];exact ih.v1,fun t ht=>?_,fun t ht=>?_,fun y hy=>?_⟩
   ·dsimp only
    rw[f8 t ht]
    split
    ·exact a1
    ·exact ih.g2 t ht
   ·dsimp only
    rw[f8 t ht,hs]
    by_cases e:k+1=t
    ·rw[ai e,a2,ih.v2 (k+1) hkw,←e]
     have hn:¬∃j,j<m∧l[j]!.b=((k+1:Nat):Int):=fun⟨j,hj,e⟩=>h6 j (by omega) e
     rw[ah hn,ah hn,H0,ai rfl];grind
    ·rw[ah e,ih.v2 t ht,S4 (fun e2=>e e2.symm)]
   ·dsimp only
    show _=bi k (fun j=>rv C[j]! *y (j+1))+rv C[k]! *y (k+1)
    rw[←ih.sol y hy]
    unfold bK
    rw[aB (g:=fun t=>if t=k+1 then (rv g.2[k+1]! +rv C[k]!)*y (k+1) else rv g.2[t]! *y t) fun t ht=>?_,wd _ _ _ hkw]
    ·grind
    ·rw[f8 t ht]
     by_cases e:k+1=t
     ·rw[ai e,ai e.symm,a2,e]
     ·rw[ah e,ah (fun e2=>e e2.symm)]
  ·rw[ai (by omega),h6,show ((j:Int)).toNat=j by omega]
   have hj:j<m:=by omega
   have N8:l[j]!.b.toNat=k+1:=by omega
   have hs:∀f:Nat→Rat,bi m (fun i=>gT C (k+1) l[i]!.b.toNat*f i)=bi m (fun i=>gT C k l[i]!.b.toNat*f i)+rv C[k]! *f j:=fun f=>by
    rw[←lV j (rv C[k]! *f j) m hj,←lW (fun i=>gT C k l[i]!.b.toNat*f i)]
    refine aB fun i hi=>?_
    rw[H0]
    by_cases e:i=j
    ·rw[ai e,ai (by rw[e];exact N8),e];grind
    ·rw[ah e,ah (fun e2=>e (tG i j hi hj (by have:=hb i hi;omega)))];grind
   obtain⟨a1,a2⟩:=addK_ok q1 (hgk j hj) ih.g1 pk (Dn.pq Qs I0 ((Dn.int q2 (hDk j hj)).mono hZ3))
   have ac:=addC_ok ih.len q1 (fun t ht=>hgc j t hj ht) ih.g2 pc (fun t ht=>Dn.pq Qs I0 ((Dn.int q2 (hDc j t hj ht)).mono hZ3))
   refine⟨by dsimp only;rw[tS];exact ih.len,a1,by rw[hs];dsimp only;rw[a2,ih.v1],fun t ht=>(ac t ht).1,fun t ht=>?_,fun y hy=>?_⟩
   ·dsimp only
    rw[(ac t ht).2,ih.v2 t ht,hs]
    by_cases e:∃j,j<m∧l[j]!.b=(t:Int)
    ·rw[ai e,ai e];grind
    ·rw[ah e,ah e,S4 (fun e2=>e ⟨j,hj,by omega⟩)];grind
   ·show _=bi k (fun j=>rv C[j]! *y (j+1))+rv C[k]! *y (k+1)
    have:=hy j hj
    rw[N8] at this
    rw[←ih.sol y hy,this]
    unfold bK
    dsimp only
    rw[a2,aB (g:=fun t=>rv g.2[t]! *y t+rv C[k]! *(rv l[j]!.c[t]! *y t)) fun t ht=>by rw[(ac t ht).2];grind,lW (fun t=>rv g.2[t]! *y t),iY]
    grind
theorem Ok.aim(h:Ok M k0 d w m)(hB:Bd M k0 w m BT)(hm:m≤6)(Mc:∀r,r<m→M w r=0)(Qr:M w m=1)(N9:∀j,j<m→d.rows[j]!.b≠0)(Pu:nn+1≤w)(hC:C.length=nn)(gC:∀k,k<nn→aw C[k]! =true∧IsI (rv C[k]!) BT):
  ∃M2 k2,mC d C=(0,mD d C)∧Ok M2 k2 (mD d C) w m∧Bd M2 k2 w m BT∧(∀y,Sol (mD d C) w y↔Sol d w fun t=>if t=0 then 0 else y t)∧(∀y,Sol (mD d C) w y→bK w (mD d C).gk (mD d C).gc y=bi nn fun k=>rv C[k]! *y (k+1))∧(rX d→rX (mD d C)):=by
 have hI:=h.inv
 have hl:=h.len
 obtain⟨D,b0,b1,b2,b3,b4,b5⟩:=h.bound hB
 have hKf:=KX hm
 obtain⟨l,hle⟩:∃l,l=d.rows.map (tN (nOf 0)):=⟨_,rfl⟩
 have LY:l.length=m:=by rw[hle,bh];exact hl
 have lget:∀i,i<m→l[i]! =tN (nOf 0) d.rows[i]! :=fun i hi=>by rw[hle];exact zM (by omega)
 have lk:∀i,i<m→l[i]!.k=d.rows[i]!.k:=fun i hi=>by rw[lget i hi];rfl
 have lb:∀i,i<m→l[i]!.b=d.rows[i]!.b:=fun i hi=>by rw[lget i hi];rfl
 have lcl:∀i,i<m→l[i]!.c.length=w:=fun i hi=>by
  rw[lget i hi]
  show (d.rows[i]!.c.set 0 (nOf 0)).length=w
  rw[cU];exact hI.fine.lr i (by omega)
 have lc:∀i t,i<m→t<w→l[i]!.c[t]! =if 0=t then nOf 0 else d.rows[i]!.c[t]! :=fun i t hi ht=>by
  rw[lget i hi]
  show (d.rows[i]!.c.set 0 (nOf 0))[t]! =_
  exact ew (by rw[hI.fine.lr i (by omega)];exact ht)
 have JQ:∀i,i<m→0≤l[i]!.b∧l[i]!.b<w:=fun i hi=>by rw[lb i hi];exact hI.rng i (by omega)
 have tG:∀i j,i<m→j<m→l[i]!.b=l[j]!.b→i=j:=fun i j hi hj e=>hI.inj i j (by omega) (by omega) (by rw[←lb i hi,←lb j hj];exact e)
 have gc:∀i t,i<m→t<w→aw l[i]!.c[t]! =true:=fun i t hi ht=>by
  rw[lc i t hi ht]
  split
  ·exact of0.1
  ·exact (bg.1 (hI.fine.gr i (by omega))).2 t (by rw[hI.fine.lr i (by omega)];exact ht)
 have gk:∀i,i<m→aw l[i]!.k=true:=fun i hi=>by rw[lk i hi];exact (bg.1 (hI.fine.gr i (by omega))).1
 have dk:∀i,i<m→Dn D KT (rv l[i]!.k):=fun i hi=>by rw[lk i hi];exact (b2 i hi).mono hKf
 have dc:∀i t,i<m→t<w→Dn D KT (rv l[i]!.c[t]!):=fun i t hi ht=>by
  rw[lc i t hi ht]
  split
  ·rw[of0.2];exact Dn.zero _ _
  ·exact (b4 i t hi ht).mono hKf
 have A:=KK LY hm Pu lcl gk gc JQ tG b0 (b1.mono hKf) dk dc gC nn (ay _)
 have hz:=KJ (c:=C) (w:=w) (l:=l) (fun i hi=>lcl i (by omega)) (fun i hi=>JQ i (by omega)) (fun i j hi hj=>by
  have BU:j<m:=by omega
  have vz:i<m:=by omega
  have:=JQ j BU
  rw[lc i _ vz (by omega)]
  split
  ·rfl
  ·rw[lb j BU];exact hI.zr i j (by omega) (by omega)) (fun i hi=>(gC i (by omega)).1) nn (by omega)
 have xQ:mD d C=⟨l,(gt l w C nn).1,(gt l w C nn).2,d.n,d.piv,d.most⟩:=by unfold mD;rw[hI.fine.lg,←hle,hC]
 obtain⟨g,hg⟩:∃g,g=gt l w C nn:=⟨_,rfl⟩
 rw[←hg] at A hz xQ
 have NY:fS g.1 g.2=true:=bg.2 ⟨A.g1,fun i hi=>A.g2 i (by rw[←A.len];exact hi)⟩
 have hI2:Inv (mD d C) w:=by
  rw[xQ,hle]
  exact hI.col of0.1 (.inr rfl) A.len NY (fun j hj=>by have:=hz.2 j (by omega);rwa[lb j (by omega)] at this) d.piv
 have Fg:(mD d C).rows.length=m:=by rw[xQ];exact LY
 have zA:(mD d C).rows=l:=by rw[xQ]
 have qb:∀i,i<m→(qd (mD d C) w m).b i=(qd d w m).b i:=fun i hi=>by rw[zE hi,zE hi,zA,lb i hi]
 have qbw:∀i,i<m→(qd d w m).b i<w∧(qd d w m).b i≠0:=fun i hi=>by
  have h1:=hI.rng i (by omega)
  have h2:=N9 i hi
  rw[zE hi];omega
 obtain⟨M2,hM2⟩:∃M2:Nat→Col,∀t r,M2 t r=if r<m then (if t=0 then 0 else M t r) else if t=w then 1 else -gT C nn t:=⟨fun t r=>if r<m then (if t=0 then 0 else M t r) else if t=w then 1 else -gT C nn t,fun _ _=>rfl⟩
 obtain⟨k2,yB⟩:∃k2:Col,∀r,k2 r=if r<m then k0 r else 0:=⟨fun r=>if r<m then k0 r else 0,fun _=>rfl⟩
 have hMw:∀r,r<m→M2 w r=0:=fun r hr=>by
  rw[hM2,ai hr]
  split
  ·rfl
  ·exact Mc r hr
 have gI:∀t,IsI (gT C nn t) BT:=fun t=>by
  unfold gT
  split
  ·exact (gC _ (by omega)).2
  ·exact IsI.zero _
 have hMb:∀i r,i<m→r<m→M2 ((qd d w m).b i) r=M ((qd d w m).b i) r:=fun i r hi hr=>by rw[hM2,ai hr,ah (qbw i hi).2]
 have hMm:∀i,i<m→M2 ((qd d w m).b i) m=-gT C nn l[i]!.b.toNat:=fun i hi=>by
  rw[hM2,ah (pl _),ah (by have:=(qbw i hi).1;omega),zE hi,lb i hi]
 have vi2:VI M2 k2 (qd (mD d C) w m) (m+1) (w+1):=by
  refine⟨fun r hr=>?_,fun t ht Qk r hr=>?_,?_⟩
  ·show k2 r=bi m (fun i=>(qd (mD d C) w m).k i*M2 ((qd (mD d C) w m).b i) r)+(qd (mD d C) w m).k m*M2 ((qd (mD d C) w m).b m) r
   rw[oO,Jx]
   rcases d6 r m with GD|GD
   ·have h1:k0 r=bi m (fun i=>(qd d w m).k i*M ((qd d w m).b i) r)+(qd d w m).k m*M ((qd d w m).b m) r:=h.vi.k r hr
    rw[oO,Mc r GD] at h1
    rw[yB,ai GD,h1,hMw r GD,aB (f:=fun i=>(qd (mD d C) w m).k i*M2 ((qd (mD d C) w m).b i) r) (g:=fun i=>(qd d w m).k i*M ((qd d w m).b i) r) fun i hi=>by rw[qb i hi,hMb i r hi GD,De hi,De hi,zA,lk i hi],rL,rL]
   ·obtain rfl:r=m:=by omega
    rw[yB,ah (pl _),hM2,ah (pl _),ai rfl,aB (g:=fun i=>(-1)*(gT C nn l[i]!.b.toNat*rv l[i]!.k)) fun i hi=>by rw[qb i hi,hMm i hi,De hi,zA];grind,iY]
    have e:rv (mD d C).gk=rv g.1:=by rw[xQ]
    rw[e,A.v1];grind
  ·show -M2 t r=bi m (fun i=>(qd (mD d C) w m).c i t*M2 ((qd (mD d C) w m).b i) r)+(qd (mD d C) w m).c m t*M2 ((qd (mD d C) w m).b m) r
   have HP:t≠w:=fun e=>Qk m (by omega) (by rw[oO,e])
   have xO:t<w:=by omega
   have hnt':∀j,j<m→(qd d w m).b j≠t:=fun j hj e=>Qk j (by omega) (by rw[qb j hj];exact e)
   rw[oO,BL xO]
   rcases d6 r m with GD|GD
   ·have h1:-M t r=bi m (fun i=>(qd d w m).c i t*M ((qd d w m).b i) r)+(qd d w m).c m t*M ((qd d w m).b m) r:=h.vi.c t ht (fun j hj e=>by
     rcases d6 j m with Lb|Lb
     ·exact hnt' j Lb e
     ·obtain rfl:j=m:=by omega
      rw[oO] at e;exact HP e.symm) r hr
    rw[oO,Mc r GD] at h1
    rw[hMw r GD]
    by_cases ht0:t=0
    ·rw[hM2,ai GD,ai ht0,aB (g:=fun _=>0) fun i hi=>by rw[AN hi xO,zA,lc i t hi xO,ai ht0.symm,of0.2];grind,fE]
     grind
    ·rw[hM2,ai GD,ah ht0,h1,aB (f:=fun i=>(qd (mD d C) w m).c i t*M2 ((qd (mD d C) w m).b i) r) (g:=fun i=>(qd d w m).c i t*M ((qd d w m).b i) r) fun i hi=>by rw[qb i hi,hMb i r hi GD,AN hi xO,AN hi xO,zA,lc i t hi xO,ah (fun e=>ht0 e.symm)],rL,rL]
   ·obtain rfl:r=m:=by omega
    rw[hM2 w,ah (pl _),ai rfl,hM2 t,ah (pl _),ah HP,aB (g:=fun i=>(-1)*(gT C nn l[i]!.b.toNat*rv l[i]!.c[t]!)) fun i hi=>by rw[qb i hi,hMm i hi,AN hi xO,zA];grind,iY]
    have e:rv (mD d C).gc[t]! =rv g.2[t]! :=by rw[xQ]
    have hn:¬∃j,j<r∧l[j]!.b=(t:Int):=fun⟨j,hj,e⟩=>hnt' j hj (by rw[zE hj,←lb j hj,e];rfl)
    rw[e,A.v2 t xO,ah hn];grind
  ·have hv:=h.vi.nz
   rw[z8 (fun r hr=>by rw[oO];exact Mc r hr) (by rw[oO];exact Qr)] at hv
   rw[z8 (fun r hr=>by rw[oO];exact hMw r hr) (by rw[oO,hM2,ah (pl _),ai rfl]),tM (g:=fun i=>M ((qd d w m).b i)) fun i hi r hr=>by rw[qb i hi,hMb i r hi hr]]
   exact hv
 refine⟨M2,k2,?_,⟨hI2,Fg,vi2⟩,⟨fun t ht r hr=>?_,fun r hr=>?_,hB.lim⟩,fun y=>?_,fun y hy=>?_,fun hf i hi=>?_⟩
 ·unfold mC
  rw[ai (by rw[xQ];exact NY)]
 ·rw[hM2]
  split
  ·split
   ·exact IsI.zero _
   ·exact hB.ent t ht r hr
  ·split
   ·exact IsI.one IS
   ·exact (gI t).neg
 ·rw[yB]
  split
  ·exact hB.con r hr
  ·exact IsI.zero _
 ·have hw:∀i,i<m→bK w l[i]!.k l[i]!.c y=bK w d.rows[i]!.k d.rows[i]!.c fun t=>if t=0 then 0 else y t:=fun i hi=>by
   unfold bK
   rw[lk i hi]
   congr 1
   refine aB fun t ht=>?_
   rw[lc i t hi ht]
   dsimp only
   by_cases e:t=0
   ·rw[ai e,ai e.symm,of0.2,rL,Rat.zero_mul]
   ·rw[ah e,ah (fun e2=>e e2.symm)]
  have hbn:∀i,i<m→d.rows[i]!.b.toNat≠0:=fun i hi=>by
   have h1:=hI.rng i (by omega)
   have h2:=N9 i hi
   omega
  unfold Sol
  rw[zA,LY,hl]
  constructor
  ·intro hy i hi
   have:=hy i hi
   rw[hw i hi,lb i hi] at this
   dsimp only
   rw[ah (hbn i hi)]
   exact this
  ·intro hy i hi
   have:=hy i hi
   dsimp only at this
   rw[ah (hbn i hi)] at this
   rw[hw i hi,lb i hi]
   exact this
 ·have:=A.sol y fun i hi=>by have:=hy i (by omega);rwa[zA] at this
  rw[xQ]
  exact this
 ·rw[Fg] at hi
  rw[zA,lk i hi]
  exact hf i (by omega)
end
end
section
theorem Ni {c x:List Nu}{D:Rat}(hn:c.length≤6)(gc:∀i,i<c.length→aw c[i]! =true)(gx:∀i,i<c.length→aw x[i]! =true)(I0:D≠0)(hD:IsI D KT)(hp:∀i,i<c.length→Dn D (BT*KT) (rv c[i]! *rv x[i]!)):∀n,n≤c.length→aw (uX c x n)=true∧rv (uX c x n)=bi n fun i=>rv c[i]! *rv x[i]!
 |0,_=>of0
 |n+1,hn1=>by
  obtain⟨i1,i2⟩:=Ni hn gc gx I0 hD hp n (by omega)
  have hZ2:KT≤ZT:=bc rfl
  have hZ3:BT*KT≤ZT:=bc rfl
  have hZ:n*(BT*KT)≤ZT:=by
   have:n*(BT*KT)≤6*(BT*KT):=cG _ (by omega)
   have h2:6*(BT*KT)≤ZT:=bc rfl
   omega
  have Qs:IsI D ZT:=hD.mono hZ2
  have p2:=Dn.pq Qs I0 ((hp n (by omega)).mono hZ3)
  obtain⟨g1,g2⟩:=tJ (gc n (by omega)) (gx n (by omega)) (p2.fit T9)
  obtain⟨g3,g4⟩:=qQ i1 g1 (by rw[i2];exact Dn.pq Qs I0 ((Dn.sum fun i hi=>hp i (by omega)).mono hZ)) (by rw[g2];exact p2) IG
  exact⟨g3,by
   show rv (jA (uX c x n) (lQ c[n]! x[n]!))=_
   rw[g4,g2,i2];rfl⟩
theorem tj {c x:List Nu}{D:Rat}(hl:c.length=x.length)(hn:c.length≤6)(gc:∀i,i<c.length→aw c[i]! =true)(gx:∀i,i<c.length→aw x[i]! =true)(I0:D≠0)(hD:IsI D KT)(hp:∀i,i<c.length→Dn D (BT*KT) (rv c[i]! *rv x[i]!)):aw (dE c x)=true∧rv (dE c x)=bi c.length fun i=>rv c[i]! *rv x[i]! :=by
 unfold dE
 rw[ai hl]
 exact Ni hn gc gx I0 hD hp _ (ay _)
theorem Rm {l:List Nu}{n:Nat}(hl:l.length=n)(h:∀i,i<n→aw l[i]! =true∧0≤rv l[i]!):Hs l n=true:=by
 unfold Hs
 rw[cj]
 refine⟨aA hl,a7.2 fun x hx=>?_⟩
 obtain⟨i,hi,rfl⟩:=wC.1 hx
 have h1:=h i (by omega)
 rw[bJ l i hi] at h1
 rw[cj]
 refine⟨h1.1,aA ?_⟩
 have h2:=tr h1.1
 have:¬bI l[i]<0:=fun e=>by have:=h2.1 e;grind
 omega
section
variable {m nn:Nat} {A B C x y b c:List Nu} {D:Rat}
theorem yI(hs:Sz m nn A B C)(hx:x.length=nn)(gx:∀k,k<nn→aw x[k]! =true∧0≤rv x[k]!)(I0:D≠0)(hD:IsI D KT)(dx:∀k,k<nn→Dn D KT (rv x[k]!))(hb:b.length=m)(gb:∀i,i<m→aw b[i]! =true)(hle:∀i,i<m→bi nn (fun k=>rv A[i*nn+k]! *rv x[k]!)≤rv b[i]!):lh m nn A x b=true:=by
 unfold lh
 rw[cj]
 refine⟨Rm hx gx,?_⟩
 unfold Cw
 rw[a7]
 intro i hi
 have hi:=j7.1 hi
 rw[hb] at hi
 have hlen:(q8 A nn i).length=nn:=by
  by_cases h0:nn=0
  ·subst h0;unfold q8;simp
  ·exact (zC hs.lA hi (k:=0) (by omega)).1
 have hn5:=hs.n5
 have f8:∀k,k<nn→(q8 A nn i)[k]! =A[i*nn+k]! :=fun k hk=>(zC hs.lA hi hk).2
 obtain⟨v1,v2⟩:=tj (c:=q8 A nn i) (x:=x) (by omega) (by omega) (fun k hk=>by rw[f8 k (by omega)];exact (hs.gA _ (hs.idx hi (by omega))).1) (fun k hk=>(gx k (by omega)).1) I0 hD fun k hk=>by
  rw[f8 k (by omega)]
  exact Dn.int (hs.gA _ (hs.idx hi (by omega))).2 (dx k (by omega))
 rw[cj]
 refine⟨v1,aA ?_⟩
 rw[(rC v1 (gb i hi)).1,v2,hlen,aB fun k hk=>by rw[f8 k hk]]
 exact hle i hi
theorem Gr(hs:Sz m nn A B C)(hy:y.length=m)(gy:∀i,i<m→aw y[i]! =true∧0≤rv y[i]!)(I0:D≠0)(hD:IsI D KT)(dy:∀i,i<m→Dn D KT (rv y[i]!))(hc:c.length=nn)(gc:∀k,k<nn→aw c[k]! =true)(hle:∀k,k<nn→rv c[k]!≤bi m (fun i=>rv A[i*nn+k]! *rv y[i]!)):pz m nn A y c=true:=by
 unfold pz
 rw[cj]
 refine⟨Rm hy gy,?_⟩
 unfold Cw
 rw[a7]
 intro k hk
 have hk:=j7.1 hk
 rw[hc] at hk
 have hm6:=hs.m6
 have hlen:(ws A m nn k).length=m:=by simp[ws]
 have f8:∀i,i<m→(ws A m nn k)[i]! =A[i*nn+k]! :=fun i hi=>Kj hi
 obtain⟨v1,v2⟩:=tj (c:=ws A m nn k) (x:=y) (by omega) (by omega) (fun i hi=>by rw[f8 i (by omega)];exact (hs.gA _ (hs.idx (by omega) hk)).1) (fun i hi=>(gy i (by omega)).1) I0 hD fun i hi=>by
  rw[f8 i (by omega)]
  exact Dn.int (hs.gA _ (hs.idx (by omega) hk)).2 (dy i (by omega))
 rw[cj]
 refine⟨v1,aA ?_⟩
 rw[(rC v1 (gc k hk)).2.1,v2,hlen,aB fun i hi=>by rw[f8 i hi]]
 exact hle k hk
def yOf(m nn:Nat)(A B:List Nu)(v:Nat→Rat)(t:Nat):Rat:=if t=0 then 0 else if t<1+nn then v (t - 1) else rv B[t - (1+nn)]! - bi nn fun k=>rv A[(t - (1+nn))*nn+k]! *v k
theorem Qv {v:Nat→Rat}{k:Nat}(hk:k<nn):yOf m nn A B v (k+1)=v k:=by
 unfold yOf
 rw[ah (by omega),ai (by omega),uH]
theorem yOf_i {v:Nat→Rat}{i:Nat}:yOf m nn A B v (1+nn+i)=rv B[i]! - bi nn fun k=>rv A[i*nn+k]! *v k:=by
 unfold yOf
 rw[ah (by omega),ah (by omega),show 1+nn+i - (1+nn)=i by omega]
theorem Ng(v:Nat→Rat):Eqs m nn A B 0 (yOf m nn A B v):=fun i hi=>by
 rw[yOf_i,aB (f:=fun k=>rv A[i*nn+k]! *yOf m nn A B v (k+1)) (g:=fun k=>rv A[i*nn+k]! *v k) fun k hk=>by rw[Qv hk]]
 grind
theorem dual {gk:Nu}{gc:List Nu}{cc:Nat→Rat}(h:∀v:Nat→Rat,bK (1+nn+m) gk gc (yOf m nn A B v)=bi nn fun k=>cc k*v k):rv gk=bi m (fun i=>-rv gc[1+nn+i]! *rv B[i]!)∧∀k,k<nn→cc k=rv gc[k+1]! +bi m fun i=>rv A[i*nn+k]! *-rv gc[1+nn+i]! :=by
 have hw:∀v:Nat→Rat,rv gk+(bi nn (fun k=>rv gc[k+1]! *v k)+bi m fun i=>rv gc[1+nn+i]! *(rv B[i]! - bi nn fun k=>rv A[i*nn+k]! *v k))=bi nn fun k=>cc k*v k:=fun v=>by
  rw[←h v]
  unfold bK
  rw[sum3,aB (f:=fun k=>rv gc[k+1]! *yOf m nn A B v (k+1)) (g:=fun k=>rv gc[k+1]! *v k) fun k hk=>by rw[Qv hk],aB (f:=fun i=>rv gc[1+nn+i]! *yOf m nn A B v (1+nn+i)) (g:=fun i=>rv gc[1+nn+i]! *(rv B[i]! - bi nn fun k=>rv A[i*nn+k]! *v k)) fun i _=>by rw[yOf_i]]
  have:yOf m nn A B v 0=0:=ai rfl
  rw[this,rL,Rat.zero_add]
 have z:∀f:Nat→Rat,bi nn (fun k=>f k*(0:Rat))=0:=fun f=>by rw[aB (g:=fun _=>0) fun k _=>rL _,fE]
 have one:∀(f:Nat→Rat) (j:Nat),j<nn→bi nn (fun k=>f k*(if k=j then 1 else 0:Rat))=f j:=fun f j hj=>by
  rw[aB (g:=fun k=>if k=j then f j else 0) fun k _=>?_,lV j _ nn hj]
  by_cases e:k=j
  ·rw[ai e,ai e,e,Rat.mul_one]
  ·rw[ah e,ah e,rL]
 have h0:=hw fun _=>0
 rw[z,z,aB (f:=fun i=>rv gc[1+nn+i]! *(rv B[i]! - bi nn fun k=>rv A[i*nn+k]! *0)) (g:=fun i=>(-1)*(-rv gc[1+nn+i]! *rv B[i]!)) fun i _=>by rw[z];grind,iY] at h0
 refine⟨by grind,fun k hk=>?_⟩
 have h1:=hw fun j=>if j=k then 1 else 0
 rw[one _ k hk,one _ k hk,aB (f:=fun i=>rv gc[1+nn+i]! *(rv B[i]! - bi nn fun j=>rv A[i*nn+j]! *(if j=k then 1 else 0:Rat))) (g:=fun i=>(-1)*(-rv gc[1+nn+i]! *rv B[i]!)+rv A[i*nn+k]! *-rv gc[1+nn+i]!) fun i _=>by rw[one _ k hk];grind,lW (fun i=>(-1)*(-rv gc[1+nn+i]! *rv B[i]!)),iY] at h1
 grind
end
section
variable {m nn:Nat} {A B C:List Nu} {M:Nat→Col} {k0:Col} {d:Dic}
theorem yx(h:Inv d (1+nn+m)):(bQ d nn).length=m∧∀i,i<m→(bQ d nn)[i]! =eR d.gc[1+nn+i]! :=by
 have hl:=h.fine.lg
 refine⟨by unfold bQ;rw[bh,eV];omega,fun i hi=>dP ?_⟩
 unfold bQ
 rw[dQ,na,show nn+1+i=1+nn+i by omega,vG (by omega)]
 rfl
theorem Jl(l:List Row)(of':Row→Nu)(other:Nat→Nu){k:Nat}(hk:k<nn):(∃j,j<l.length∧l[j]!.b=((k+1:Nat):Int)∧(cJ l nn of' other)[k]! =of' l[j]!)∨((∀j,j<l.length→l[j]!.b≠((k+1:Nat):Int))∧(cJ l nn of' other)[k]! =other (k+1)):=by
 have e:(cJ l nn of' other)[k]! =if 0≤db l ((k+1:Nat):Int) then of' l[(db l ((k+1:Nat):Int)).toNat]! else other (k+1):=dP (bX _ hk)
 rcases qS l ((k+1:Nat):Int) with⟨h1,h2⟩|⟨i,h1,h2,h3⟩
 ·rw[h1,ah (by decide)] at e
  exact .inr ⟨h2,e⟩
 ·rw[h2,ai (by omega),show ((i:Int)).toNat=i by omega] at e
  exact .inl ⟨i,h1,h3,e⟩
theorem zq(l:List Row)(of':Row→Nu)(other:Nat→Nu):(cJ l nn of' other).length=nn:=by unfold cJ;simp
theorem Ok.vals(h:Ok M k0 d (1+nn+m) m)(hB:Bd M k0 (1+nn+m) m BT)(hm:m≤6)(hf:rX d):∃D:Rat,D≠0∧IsI D KT∧∀k,k<nn→(aw (cJ d.rows nn Row.k fun _=>nOf 0)[k]! =true∧0≤rv (cJ d.rows nn Row.k fun _=>nOf 0)[k]!)∧Dn D KT (rv (cJ d.rows nn Row.k fun _=>nOf 0)[k]!)∧rv (cJ d.rows nn Row.k fun _=>nOf 0)[k]! =mR d (k+1):=by
 obtain⟨D,b0,b1,b2,b3,b4,b5⟩:=h.bound hB
 have hK:=KX hm
 have hl:=h.len
 refine⟨D,b0,b1.mono hK,fun k hk=>?_⟩
 rcases Jl d.rows Row.k (fun _=>nOf 0) hk with⟨j,hj,e,e2⟩|⟨e,e2⟩
 ·rw[e2]
  refine⟨⟨(bg.1 (h.inv.fine.gr j hj)).1,hf j hj⟩,(b2 j (by omega)).mono hK,?_⟩
  have:=h.inv.bsol_row hj
  rw[e] at this
  exact this.symm
 ·rw[e2,of0.2]
  exact⟨⟨of0.1,Rat.le_refl⟩,Dn.zero _ _,(lf fun⟨j,hj,e3⟩=>e j hj e3).symm⟩
theorem Ok.prices(h:Ok M k0 d (1+nn+m) m)(hB:Bd M k0 (1+nn+m) m BT)(hm:m≤6)(hg:∀t,t<1+nn+m→rv d.gc[t]!≤0):∃D:Rat,D≠0∧IsI D KT∧∀i,i<m→(aw (bQ d nn)[i]! =true∧0≤rv (bQ d nn)[i]!)∧Dn D KT (rv (bQ d nn)[i]!)∧rv (bQ d nn)[i]! =-rv d.gc[1+nn+i]! :=by
 obtain⟨D,b0,b1,b2,b3,b4,b5⟩:=h.bound hB
 have hK:=KX hm
 refine⟨D,b0,b1.mono hK,fun i hi=>?_⟩
 rw[(yx h.inv).2 i hi,qL,lJ]
 have h1:=hg (1+nn+i) (by omega)
 exact⟨⟨(bg.1 h.inv.fine.gg).2 _ (by rw[h.inv.fine.lg];omega),by grind⟩,((b5 _ (by omega)).mono hK).neg,rfl⟩
theorem best_ok(hs:Sz m nn A B C)(h:Ok M k0 d (1+nn+m) m)(hB:Bd M k0 (1+nn+m) m BT)(hf:rX d)(ii:∀y,Sol d (1+nn+m) y↔Eqs m nn A B 0 y)(sw:∀y,Sol d (1+nn+m) y→bK (1+nn+m) d.gk d.gc y=bi nn fun k=>rv C[k]! *y (k+1))(hg:∀t,t<1+nn+m→rv d.gc[t]!≤0):
  ju m nn A B C ⟨1,cJ d.rows nn Row.k fun _=>nOf 0,bQ d nn,[]⟩=true:=by
 obtain⟨D,d0,d1,hx⟩:=h.vals hB hs.m6 hf
 obtain⟨E,e0,e1,hy⟩:=h.prices hB hs.m6 hg
 have hlC:=hs.lC
 have hn5:=hs.n5
 have hm6:=hs.m6
 have IX:=(yx h.inv).1
 obtain⟨du1,du2⟩:=dual (A:=A) (B:=B) (gk:=d.gk) (gc:=d.gc) (cc:=fun k=>rv C[k]!) fun v=>by
  rw[sw _ ((ii _).2 (Ng v))]
  exact aB fun k hk=>by rw[Qv hk]
 have hbe:=(ii _).1 h.inv.bsol
 have hal:lh m nn A (cJ d.rows nn Row.k fun _=>nOf 0) B=true:=by
  refine yI hs (zq _ _ _) (fun k hk=>(hx k hk).1) d0 d1 (fun k hk=>(hx k hk).2.1) hs.lB (fun i hi=>(hs.gB i hi).1) fun i hi=>?_
  have h1:=hbe i hi
  have h2:=h.inv.bnon hf (t:=1+nn+i)
  rw[aB fun k hk=>by rw[(hx k hk).2.2]]
  grind
 have LU:pz m nn A (bQ d nn) C=true:=by
  refine Gr hs IX (fun i hi=>(hy i hi).1) e0 e1 (fun i hi=>(hy i hi).2.1) hlC (fun k hk=>(hs.gC k hk).1) fun k hk=>?_
  have h1:=du2 k hk
  have h2:=hg (k+1) (by omega)
  rw[aB fun i hi=>by rw[(hy i hi).2.2]]
  grind
 obtain⟨v1,v2⟩:=tj (c:=C) (x:=cJ d.rows nn Row.k fun _=>nOf 0) (by rw[zq];exact hlC) (by omega) (fun k hk=>(hs.gC k (by omega)).1) (fun k hk=>(hx k (by omega)).1.1) d0 d1 fun k hk=>Dn.int (hs.gC k (by omega)).2 (hx k (by omega)).2.1
 obtain⟨w1,w2⟩:=tj (c:=bQ d nn) (x:=B) (by rw[hs.lB];exact IX) (by omega) (fun i hi=>(hy i (by omega)).1.1) (fun i hi=>(hs.gB i (by omega)).1) e0 e1 fun i hi=>by
  rw[Rat.mul_comm]
  exact Dn.int (hs.gB i (by omega)).2 (hy i (by omega)).2.1
 have heq:dE C (cJ d.rows nn Row.k fun _=>nOf 0)=dE (bQ d nn) B:=by
  refine DU v1 w1 ?_
  have h1:=sw _ h.inv.bsol
  rw[h.inv.bgoal] at h1
  rw[v2,w2,hlC,IX,aB (f:=fun i=>rv (bQ d nn)[i]! *rv B[i]!) (g:=fun i=>-rv d.gc[1+nn+i]! *rv B[i]!) fun i hi=>by rw[(hy i hi).2.2],←du1,h1]
  exact aB fun k hk=>by rw[(hx k hk).2.2]
 unfold ju
 rw[ai rfl]
 dsimp only
 rw[hal,LU,v1,←heq]
 simp
theorem none_ok(hs:Sz m nn A B C)(h:Ok M k0 d (1+nn+m) m)(hB:Bd M k0 (1+nn+m) m BT)(ii:∀y,Sol d (1+nn+m) y↔Eqs m nn A B (y 0) y)(sw:∀y,Sol d (1+nn+m) y→bK (1+nn+m) d.gk d.gc y=-y 0)(hg:∀t,t<1+nn+m→rv d.gc[t]!≤0)(hk:bI d.gk<0):
  ju m nn A B C ⟨2,[],bQ d nn,[]⟩=true:=by
 obtain⟨E,e0,e1,hy⟩:=h.prices hB hs.m6 hg
 have hm6:=hs.m6
 have IX:=(yx h.inv).1
 have w8:=(tr (bg.1 h.inv.fine.gg).1).1 hk
 have y00:∀v,yOf m nn A B v 0=0:=fun v=>ai rfl
 obtain⟨du1,du2⟩:=dual (A:=A) (B:=B) (gk:=d.gk) (gc:=d.gc) (cc:=fun _=>0) fun v=>by
  rw[sw _ ((ii _).2 (by rw[y00];exact Ng v)),y00,aB (g:=fun _=>0) fun k _=>Rat.zero_mul _,fE]
  grind
 have LU:pz m nn A (bQ d nn) (List.replicate nn (nOf 0))=true:=by
  refine Gr hs IX (fun i hi=>(hy i hi).1) e0 e1 (fun i hi=>(hy i hi).2.1) (s9 ..) (fun k hk=>by rw[mr hk];exact of0.1) fun k hk=>?_
  have h1:=du2 k hk
  have h2:=hg (k+1) (by omega)
  rw[mr hk,of0.2,aB fun i hi=>by rw[(hy i hi).2.2]]
  grind
 obtain⟨w1,w2⟩:=tj (c:=bQ d nn) (x:=B) (by rw[hs.lB];exact IX) (by omega) (fun i hi=>(hy i (by omega)).1.1) (fun i hi=>(hs.gB i (by omega)).1) e0 e1 fun i hi=>by
  rw[Rat.mul_comm]
  exact Dn.int (hs.gB i (by omega)).2 (hy i (by omega)).2.1
 have hv:rv (dE (bQ d nn) B)=rv d.gk:=by rw[w2,IX,aB fun i hi=>by rw[(hy i hi).2.2],←du1]
 have hsg:bI (dE (bQ d nn) B)=-1:=by
  rw[rf w1,hv]
  exact wF (JC.2 w8)
 unfold ju qz
 rw[ah (show ¬(2:Int)=1 by decide),ai rfl]
 dsimp only
 rw[LU,w1,hsg]
 simp
theorem ray_ok(hs:Sz m nn A B C)(h:Ok M k0 d (1+nn+m) m)(hB:Bd M k0 (1+nn+m) m BT)(hf:rX d)(ii:∀y,Sol d (1+nn+m) y↔Eqs m nn A B 0 y)(sw:∀y,Sol d (1+nn+m) y→bK (1+nn+m) d.gk d.gc y=bi nn fun k=>rv C[k]! *y (k+1)){s:Nat}(hsw:s<1+nn+m)(hg:0<rv d.gc[s]!)(hc:∀i,i<m→0≤rv d.rows[i]!.c[s]!):
  ju m nn A B C ⟨3,cJ d.rows nn Row.k fun _=>nOf 0,[],cJ d.rows nn (fun r=>r.c[s]!) fun v=>if (v:Int)=(s:Int) then nOf 1 else nOf 0⟩=true:=by
 have hI:=h.inv
 have hl:=h.len
 obtain⟨D,d0,d1,hx⟩:=h.vals hB hs.m6 hf
 obtain⟨E,b0,b1,b2,b3,b4,b5⟩:=h.bound hB
 have hK:=KX hs.m6
 have hlC:=hs.lC
 have hn5:=hs.n5
 have Sk:¬Bas d s:=fun hb=>by
  have:=(hI.bas hb).2.1
  rw[this,of0.2] at hg;grind
 -- numbers that fit,with rY variable raised by 1
 obtain⟨y,hy,hv⟩:=hI.pick fun r=>if r=s then 1 else 0
 have Pm:y s=1:=by rw[hv s fun j hj e=>Sk ⟨j,hj,e⟩,ai rfl]
 have hy0:∀t,¬Bas d t→t≠s→y t=0:=fun t hb qM=>by rw[hv t fun j hj e=>hb ⟨j,hj,e⟩,ah qM]
 obtain⟨h1,h2⟩:=hI.at hsw Sk hy fun t _ hb qM=>hy0 t hb qM
 have hdel:∀t,0≤y t - mR d t:=fun t=>by
  by_cases hb:Bas d t
  ·obtain⟨j,hj,e⟩:=hb
   have e1:=h1 j hj
   have e2:=hI.bsol_row hj
   rw[show d.rows[j]!.b.toNat=t by omega] at e1 e2
   have:=hc j (by omega)
   rw[e1,e2,Pm];grind
  ·rw[lf hb]
   by_cases qM:t=s
   ·rw[qM,Pm];grind
   ·rw[hy0 t hb qM];grind
 have hr:∀k,k<nn→aw (cJ d.rows nn (fun r=>r.c[s]!) fun v=>if (v:Int)=(s:Int) then nOf 1 else nOf 0)[k]! =true∧Dn E KT (rv (cJ d.rows nn (fun r=>r.c[s]!) fun v=>if (v:Int)=(s:Int) then nOf 1 else nOf 0)[k]!)∧rv (cJ d.rows nn (fun r=>r.c[s]!) fun v=>if (v:Int)=(s:Int) then nOf 1 else nOf 0)[k]! =y (k+1) - mR d (k+1):=fun k hk=>by
  rcases Jl d.rows (fun r=>r.c[s]!) (fun v=>if (v:Int)=(s:Int) then nOf 1 else nOf 0) hk with⟨j,hj,e,e2⟩|⟨e,e2⟩
  ·rw[e2]
   refine⟨(bg.1 (hI.fine.gr j hj)).2 s (by rw[hI.fine.lr j hj];exact hsw),(b4 j s (by omega) hsw).mono hK,?_⟩
   have e1:=h1 j hj
   have e3:=hI.bsol_row hj
   rw[show d.rows[j]!.b.toNat=k+1 by omega] at e1 e3
   rw[e1,e3,Pm];grind
  ·rw[e2]
   have hb:¬Bas d (k+1):=fun⟨j,hj,e3⟩=>e j hj e3
   rw[lf hb]
   by_cases qM:k+1=s
   ·rw[ai (by omega),qM,Pm,of1.2]
    exact⟨of1.1,(Dn.of b1 (IsI.one (ay 1))).mono (by omega),by grind⟩
   ·rw[ah (by omega),hy0 _ hb qM,of0.2]
    exact⟨of0.1,Dn.zero _ _,by grind⟩
 generalize hray:(cJ d.rows nn (fun r=>r.c[s]!) fun v=>if (v:Int)=(s:Int) then nOf 1 else nOf 0)=ray at hr ⊢
 have hrl:ray.length=nn:=by rw[←hray,zq]
 have hbe:=(ii _).1 hI.bsol
 have hye:=(ii _).1 hy
 have hal:lh m nn A (cJ d.rows nn Row.k fun _=>nOf 0) B=true:=by
  refine yI hs (zq _ _ _) (fun k hk=>(hx k hk).1) d0 d1 (fun k hk=>(hx k hk).2.1) hs.lB (fun i hi=>(hs.gB i hi).1) fun i hi=>?_
  have h1:=hbe i hi
  have h2:=hI.bnon hf (t:=1+nn+i)
  rw[aB fun k hk=>by rw[(hx k hk).2.2]]
  grind
 have har:lh m nn A ray (List.replicate m (nOf 0))=true:=by
  refine yI hs hrl (fun k hk=>⟨(hr k hk).1,by rw[(hr k hk).2.2];exact hdel _⟩) b0 (b1.mono hK) (fun k hk=>(hr k hk).2.1) (s9 ..) (fun i hi=>by rw[mr hi];exact of0.1) fun i hi=>?_
  have h1:=hbe i hi
  have h2:=hye i hi
  have h3:=hdel (1+nn+i)
  rw[mr hi,of0.2,aB (g:=fun k=>rv A[i*nn+k]! *y (k+1) - rv A[i*nn+k]! *mR d (k+1)) fun k hk=>by rw[(hr k hk).2.2];grind,zw (fun k=>rv A[i*nn+k]! *y (k+1))]
  grind
 obtain⟨v1,v2⟩:=tj (c:=C) (x:=ray) (by omega) (by omega) (fun k hk=>(hs.gC k (by omega)).1) (fun k hk=>(hr k (by omega)).1) b0 (b1.mono hK) fun k hk=>Dn.int (hs.gC k (by omega)).2 (hr k (by omega)).2.1
 have hpos:0<rv (dE C ray):=by
  rw[v2,hlC,aB (g:=fun k=>rv C[k]! *y (k+1) - rv C[k]! *mR d (k+1)) fun k hk=>by rw[(hr k hk).2.2];grind,zw (fun k=>rv C[k]! *y (k+1)),←sw y hy,←sw _ hI.bsol,hI.bgoal,h2,Pm]
  grind
 have hsg:bI (dE C ray)=1:=by
  rw[rf v1]
  exact rM (JB.2 hpos)
 unfold ju qz
 rw[ah (show ¬(3:Int)=1 by decide),ah (show ¬(3:Int)=2 by decide),ai rfl]
 dsimp only
 rw[hal,har,v1,hsg]
 simp
theorem Td(hs:Sz m nn A B C)(h:Ok M k0 d (1+nn+m) m)(hB:Bd M k0 (1+nn+m) m BT)(Mc:∀r,r<m→M (1+nn+m) r=0)(Qr:M (1+nn+m) m=1)(N9:∀j,j<m→d.rows[j]!.b≠0)(hf:rX d)(ii:∀y,y 0=0→(Sol d (1+nn+m) y↔Eqs m nn A B 0 y)){N:Nat}(hN:∀k,m8 (1+nn+m) k≤N)(hp:d.piv+N≤d.most):
  ∃a n,vH nn d C=(a,n,0)∧ju m nn A B C a=true∧d.piv≤n∧n≤d.piv+N∧a.kind≠2:=by
 obtain⟨M2,k2,e1,hok,hB2,K9,DN,Cs⟩:=h.aim hB hs.m6 Mc Qr N9 (show nn+1≤1+nn+m by omega) hs.lC hs.gC
 have Sa:(mD d C).piv=d.piv∧(mD d C).most=d.most:=⟨rfl,rfl⟩
 obtain⟨s,d3,e2,JS,N3,hS3,hpv3,JU⟩:=hok.improve hB2 (Cs hf) hN (by rw[Sa.1,Sa.2];exact hp)
 have hsol3:∀y,Sol d3 (1+nn+m) y↔Eqs m nn A B 0 y:=fun y=>by
  rw[hS3.sol y,K9 y,ii _ (ai rfl)]
  unfold Eqs
  constructor
  ·intro hh i hi
   have:=hh i hi
   dsimp only at this
   rw[ah (by omega),aB (g:=fun k=>rv A[i*nn+k]! *y (k+1)) fun k _=>by rw[ah (by omega)]] at this
   exact this
  ·intro hh i hi
   dsimp only
   rw[ah (by omega),aB (g:=fun k=>rv A[i*nn+k]! *y (k+1)) fun k _=>by rw[ah (by omega)]]
   exact hh i hi
 have Sw:∀y,Sol d3 (1+nn+m) y→bK (1+nn+m) d3.gk d3.gc y=bi nn fun k=>rv C[k]! *y (k+1):=fun y hy=>by
  rw[hS3.goal y ((hS3.sol y).1 hy)]
  exact DN y ((hS3.sol y).1 hy)
 have hp3:=hS3.piv
 unfold vH
 rw[e1]
 dsimp only
 rw[ah (by simp),e2]
 dsimp only
 rw[ah (by simp)]
 rcases JU with⟨rfl,hg⟩|⟨s',rfl,a2,a3,a4⟩
 ·rw[ai (by decide)]
  exact⟨_,_,rfl,best_ok hs JS hB2 N3 hsol3 Sw hg,by omega,by omega,by show (1:Int)≠2;decide⟩
 ·rw[ah (by omega),show ((s':Int)).toNat=s' by omega]
  exact⟨_,_,rfl,ray_ok hs JS hB2 N3 hsol3 Sw a2 a3 a4,by omega,by omega,by show (3:Int)≠2;decide⟩
theorem Gm(hs:Sz m nn A B C){most:Int}{N:Nat}(hN:∀k,m8 (1+nn+m) k≤N)(DH:2*(N:Int)+20≤most):
  ∃a n,im m nn A B C most=(a,n,0)∧0≤n∧n≤most∧ju m nn A B C a=true∧(a.kind=2→∃D:Rat,D≠0∧IsI D KT∧∀i,i<m→Dn D KT (rv a.y[i]!)):=by
 unfold im
 dsimp only
 by_cases nX:B.any (fun b=>decide (bI b<0))=true
 ·rw[ai nX]
  obtain⟨b,hb,BZ⟩:=MU.1 nX
  obtain⟨i,hi,rfl⟩:=wC.1 hb
  have vz:i<m:=by rw[←hs.lB];exact hi
  have hneg':rv B[i]! <0:=by
   have h1:=(hs.gB i vz).1
   refine (tr h1).1 ?_
   rw[bJ B i hi]
   exact bA BZ
  obtain⟨M,k0,d',e1,hok,hB,Mc,Qr,hf,hS,Sa,JU⟩:=hs.begin (most:=most) vz hneg' hN (by omega)
  have hmo:d'.most=most:=hS.most
  have hp0:0≤d'.piv:=hS.piv
  have ii:∀y,Sol d' (1+nn+m) y↔Eqs m nn A B (y 0) y:=fun y=>(hS.sol y).trans (Gl y)
  rw[e1]
  dsimp only
  rw[ah (by simp)]
  rcases JU with⟨g1,g2⟩|⟨g1,g2⟩
  ·rw[ai g1]
   exact⟨_,_,rfl,hp0,by omega,none_ok hs hok hB ii (fun y hy=>by rw[hS.goal y ((hS.sol y).1 hy)];exact yq y) g2 g1,fun _=>by
    obtain⟨E,e0,e1,hy⟩:=hok.prices hB hs.m6 g2
    exact⟨E,e0,e1,fun i hi=>(hy i hi).2.1⟩⟩
  ·rw[ah g1]
   obtain⟨a,n,e2,h1,h2,h3,h4⟩:=Td hs hok hB Mc Qr g2 hf (fun y hy=>by rw[ii y,hy]) hN (by omega)
   exact⟨a,n,e2,by omega,by omega,h1,fun e=>absurd e h4⟩
 ·rw[ah nX]
  obtain⟨hok,hB,Mc,Qr⟩:=hs.firstOk (most:=most)
  have hf:rX (aG m nn A B most):=fun i hi=>by
   rw[jw] at hi
   rw[sF hi]
   have h1:=(hs.gB i hi).1
   have h2:=tr h1
   have:¬bI B[i]! <0:=fun e=>nX (MU.2 ⟨B[i]!,by rw[bJ B i (by rw[hs.lB];exact hi)];exact nA _,aA e⟩)
   grind
  obtain⟨a,n,e2,h1,h2,h3,h4⟩:=Td hs hok hB Mc Qr (fun j hj=>by rw[qR j hj];omega) hf (fun y _=>PQ y) hN (by show (0:Int)+N≤most;omega)
  have hp0:(aG m nn A B most).piv=0:=rfl
  exact⟨a,n,e2,by omega,by omega,h1,fun e=>absurd e h4⟩
theorem QW(hs:Sz m nn A B C){most:Int}{N:Nat}(hN:∀k,m8 (1+nn+m) k≤N)(DH:2*(N:Int)+20≤most):
  ∃a n,im m nn A B C most=(a,n,0)∧0≤n∧n≤most∧ju m nn A B C a=true:=by
 obtain⟨a,n,h1,h2,h3,h4,_⟩:=Gm hs hN DH
 exact⟨a,n,h1,h2,h3,h4⟩
theorem Kt:∀n,n≤12→∀k,m8 n k≤924:=by
 have hz:∀n k,n<k→m8 n k=0:=by
  intro n
  induction n with
  |zero=>intro k hk;cases k with|zero=>omega|succ k=>rfl
  |succ n ih=>
   intro k hk
   cases k with
   |zero=>omega
   |succ k=>show m8 n k+m8 n (k+1)=0;rw[ih k (by omega),ih (k+1) (by omega)]
 have hs:∀n,n<13→∀k,k<13→m8 n k≤924:=by decide +kernel
 intro n hn k
 by_cases hk:k<13
 ·exact hs n (by omega) k hk
 ·rw[hz n k (by omega)];exact cl _
theorem solve_4000D(hs:Sz m nn A B C):∃a n,im m nn A B C 4000=(a,n,0)∧0≤n∧n≤4000∧ju m nn A B C a=true∧(a.kind=2→∃D:Rat,D≠0∧IsI D KT∧∀i,i<m→Dn D KT (rv a.y[i]!)):=by
 have h1:=hs.m6
 have h2:=hs.n5
 exact Gm hs (N:=924) (Kt _ (by omega)) (by decide)
theorem Lm(hs:Sz m nn A B C):∃a n,im m nn A B C 4000=(a,n,0)∧0≤n∧n≤4000∧ju m nn A B C a=true:=by
 have h1:=hs.m6
 have h2:=hs.n5
 exact QW hs (N:=924) (Kt _ (by omega)) (by decide)
end
end
section
structure RQ(m nn:Nat)(a:Nat→Nat→Rat)(b c:Nat→Rat)(kind:Int)(x y r:Nat→Rat):Prop where
 kinds:kind=1∨kind=2∨kind=3
 prim:kind≠2→(∀k,k<nn→0≤x k)∧∀i,i<m→bi nn (fun k=>a i k*x k)≤b i
 pos:kind≠3→∀i,i<m→0≤y i
 best:kind=1→(∀k,k<nn→c k≤bi m fun i=>a i k*y i)∧bi nn (fun k=>c k*x k)=bi m fun i=>y i*b i
 none:kind=2→(∀k,k<nn→0≤bi m fun i=>a i k*y i)∧bi m (fun i=>y i*b i)<0
 ray:kind=3→(∀k,k<nn→0≤r k)∧(∀i,i<m→bi nn (fun k=>a i k*r k)≤0)∧0<bi nn fun k=>c k*r k
section
variable {m nn:Nat} {A B C:List Nu} {a:Ans}
theorem Q9(hA:A.length=m*nn)(hB:B.length=m)(hC:C.length=nn)(hgB:∀i,i<m→aw B[i]! =true)(hgC:∀k,k<nn→aw C[k]! =true)(ha:ju m nn A B C a=true):RQ m nn (fun i k=>rv A[i*nn+k]!) (fun i=>rv B[i]!) (fun k=>rv C[k]!) a.kind (fun k=>rv a.x[k]!) (fun i=>rv a.y[i]!) (fun k=>rv a.ray[k]!)∧
  (a.kind=1→aw (dE C a.x)=true∧rv (dE C a.x)=bi nn fun k=>rv C[k]! *rv a.x[k]!)∧a.x.length≤nn∧a.y.length≤m∧a.ray.length≤nn:=by
 have h0g:∀n i,i<n→aw (List.replicate n (nOf 0))[i]! =true∧rv (List.replicate n (nOf 0))[i]! =0:=fun n i hi=>by rw[mr hi];exact of0
 unfold ju at ha
 by_cases e1:a.kind=1
 ·rw[ai e1] at ha
  simp only[cj] at ha
  obtain⟨⟨⟨h0,h1⟩,h2⟩,h3,h4⟩:=ha
  obtain⟨p1,p2,p3⟩:=uC hA hB hgB h1
  obtain⟨q1,q2,q3⟩:=BM hC hgC h2
  obtain⟨_,v2⟩:=oZ h3
  have h4:=bA h4
  obtain⟨_,v3⟩:=oZ (by rw[←h4];exact h3)
  rw[hC] at v2
  rw[q1,←h4] at v3
  refine⟨⟨.inl e1,fun _=>⟨fun k hk=>(p2 k hk).2,p3⟩,fun _ i hi=>(q2 i hi).2,fun _=>⟨q3,v2.symm.trans v3⟩,fun e=>by omega,fun e=>by omega⟩,fun _=>⟨h3,v2⟩,by omega,by omega,by have:=bA h0;omega⟩
 ·rw[ah e1] at ha
  by_cases e2:a.kind=2
  ·rw[ai e2] at ha
   simp only[cj] at ha
   obtain⟨⟨h0,h1⟩,h2⟩:=ha
   obtain⟨q1,q2,q3⟩:=BM (by simp) (fun k hk=>(h0g nn k hk).1) h1
   unfold qz at h2
   rw[cj] at h2
   obtain⟨_,v3⟩:=oZ h2.1
   have h3:=(tr h2.1).1 (by have:=bA h2.2;omega)
   rw[v3,q1] at h3
   have h0:=bA h0
   refine⟨⟨.inr (.inl e2),fun e=>absurd e2 e,fun _ i hi=>(q2 i hi).2,fun e=>absurd e e1,fun _=>⟨fun k hk=>by have:=q3 k hk;rwa[(h0g nn k hk).2] at this,h3⟩,fun e=>by omega⟩,fun e=>absurd e e1,by omega,by omega,by omega⟩
  ·rw[ah e2] at ha
   by_cases e3:a.kind=3
   ·rw[ai e3] at ha
    simp only[cj] at ha
    obtain⟨⟨⟨h0,h1⟩,h2⟩,h3⟩:=ha
    obtain⟨p1,p2,p3⟩:=uC hA hB hgB h1
    obtain⟨q1,q2,q3⟩:=uC hA (by simp) (fun i hi=>(h0g m i hi).1) h2
    unfold qz at h3
    rw[cj] at h3
    obtain⟨_,v3⟩:=oZ h3.1
    have h4:=(Jv h3.1).1 (by have:=bA h3.2;omega)
    rw[v3,hC] at h4
    have h0:=bA h0
    refine⟨⟨.inr (.inr e3),fun _=>⟨fun k hk=>(p2 k hk).2,p3⟩,fun e=>absurd e3 e,fun e=>absurd e e1,fun e=>absurd e e2,fun _=>⟨fun k hk=>(q2 k hk).2,fun i hi=>by have:=q3 i hi;rwa[(h0g m i hi).2] at this,h4⟩⟩,fun e=>absurd e e1,by omega,by omega,by omega⟩
   ·rw[ah e3] at ha;cases ha
end
theorem den_mul(x:Rat):(x.den:Rat)*x=(x.num:Rat)∧(x.den:Rat)≠0:=by
 have h0:(x.den:Rat)≠0:=by exact_mod_cast x.den_nz
 have h:=Rat.mkRat_self x
 rw[Rat.mkRat_eq_div,iA] at h
 have:=wA (x.den:Rat) h0
 exact⟨by grind,h0⟩
end
def jU(nT:bm):Int→Option (Int⊕(Bool⊕Unit)):=fun aD=>cnd (decide (aD<((nT.vA.vV).length:Int))) (gd (0≤aD∧aD<((nT.vA.vV).length:Int)) (bnd (eI (1:Int)) fun x4=>cnd (decide (¬((nT.vA.vV)[(aD).toNat]!.vD=x4))) (some (.inr (.inl false))) (some (.inl (i64.wrap (aD+(1:Int))))))) (some (.inr (.inr ())))
def jm(nT:bm):Int→Option (Int⊕(Bool⊕Unit)):=fun vl=>cnd (decide (vl<((nT.vB).length:Int))) (gd (0≤vl∧vl<((nT.vB).length:Int)) (bnd (eI (1:Int)) fun r8=>cnd (decide (¬((nT.vB)[(vl).toNat]!.vD=r8))) (some (.inr (.inl false))) (some (.inl (i64.wrap (vl+(1:Int))))))) (some (.inr (.inr ())))
def jl(nT:bm):Int→Option (Int⊕(Bool⊕Unit)):=fun vj=>cnd (decide (vj<((nT.vC).length:Int))) (gd (0≤vj∧vj<((nT.vC).length:Int)) (bnd (eI (1:Int)) fun qx=>cnd (decide (¬((nT.vC)[(vj).toNat]!.vD=qx))) (some (.inr (.inl false))) (some (.inl (i64.wrap (vj+(1:Int))))))) (some (.inr (.inr ())))
def m7(nT:bm):Option Bool:=bnd (bt (jU nT) (0:Int)) fun y7=>match y7 with| .inl r=>some r| .inr ()=>bnd (bt (jm nT) (0:Int)) fun y14=>match y14 with| .inl r=>some r| .inr ()=>bnd (bt (jl nT) (0:Int)) fun y21=>match y21 with| .inl r=>some r| .inr ()=>some true
theorem FA {nT:bm}{r:Bool}(h:m7 nT=some r):ar prog 26 [dG dY nT] (dB r):=by
 refine bj (rs:=[.tmp 2]) (fun cx hx h0=>?_) func26
 unfold m7 at h
 refine rs hx fun K hK=>?_
 refine s1 (d:=.pt 0 0) gF ?_
 refine nbr hK ?_
 refine AW.seq (ra hx ?_)
 refine AW.block ?_
 obtain⟨y,hy,h⟩:=ae h
 refine lp (S:=Int) (X:=Bool⊕Unit) (fun aD=>[(1,.pt 0 0),(3,dI .i64 aD)]) (fun aD=>⟨[(0,[dI .i64 nT.vA.vR,dI .i64 nT.vA.vC,dL al nT.vA.vV,dL al nT.vB,dL al nT.vC])],[],1⟩) (PS (PR [.tmp 2] fun r=>dB r) (PE cx (.exit 0) (fun ()=>[(1,.pt 0 0)]) fun ()=>⟨[(0,[dI .i64 nT.vA.vR,dI .i64 nT.vA.vC,dL al nT.vA.vV,dL al nT.vB,dL al nT.vC])],[],1⟩)) hy ?_ ?_ ?_
 exact wk0 h0 [0]
 clear hy h
 rintro aD y h
 dsimp only[jU] at h
 refine AW.seq (rar hx ?_)
 refine cdh h rfl (fun fR h=>?_) (fun fR h=>?_)
 refine AW.skip (AW.seq (AW.block (rsd [88] hx fun K hK=>?_)))
 iterate 4 refine sbr ?_
 obtain⟨qC,h⟩:=az h
 have xw:(aD).toNat<(nT.vA.vV).length:=by omega
 iterate 2 refine sbr ?_
 refine s1 (d:=dG aq ((nT.vA.vV)[(aD).toNat]!.vD)) (kA (c:=al) (l:=nT.vA.vV) (n:=(aD).toNat) (o:=18) eY xw (by first|exact rfl|exact pG0 _ _ _ rfl|exact pG1 _ _ _ _ rfl rfl)) ?_
 refine cqb h ik fun x4 h=>?_
 refine s1 (wP tok 3 (by decide) eN eY) ?_
 refine nl hK ?_
 refine cdh h rfl (fun qP h=>?_) (fun qP h=>?_)
 refine ra hx ?_
 refine AW.ret ?_
 cases h
 refine PS.r ⟨by nofun,PS.l (PR.i ?_)⟩
 exact rv1
 refine AW.skip (rb hx ?_)
 exact pel h h0 [0]
 exact AW.exit (peq h h0 [0])
 rcases y with r|⟨⟩
 rintro ex tm' hp' ⟨rfl,hw⟩
 cases h
 exact hw
 refine lwr ?_
 refine AW.seq (ra hx ?_)
 refine AW.block ?_
 obtain⟨y,hy,h⟩:=ae h
 refine lp (S:=Int) (X:=Bool⊕Unit) (fun vl=>[(1,.pt 0 0),(4,dI .i64 vl)]) (fun vl=>⟨[(0,[dI .i64 nT.vA.vR,dI .i64 nT.vA.vC,dL al nT.vA.vV,dL al nT.vB,dL al nT.vC])],[],1⟩) (PS (PR [.tmp 2] fun r=>dB r) (PE cx (.exit 2) (fun ()=>[(1,.pt 0 0)]) fun ()=>⟨[(0,[dI .i64 nT.vA.vR,dI .i64 nT.vA.vC,dL al nT.vA.vV,dL al nT.vB,dL al nT.vC])],[],1⟩)) hy ?_ ?_ ?_
 exact wk0 h0 [0]
 clear hy h
 rintro vl y h
 dsimp only[jm] at h
 refine AW.seq (rar hx ?_)
 refine cdh h rfl (fun tH h=>?_) (fun tH h=>?_)
 refine AW.skip (AW.seq (AW.block (rsd [88] hx fun K hK=>?_)))
 iterate 3 refine sbr ?_
 obtain⟨hc9,h⟩:=az h
 have So:(vl).toNat<(nT.vB).length:=by omega
 iterate 2 refine sbr ?_
 refine s1 (d:=dG aq ((nT.vB)[(vl).toNat]!.vD)) (kA (c:=al) (l:=nT.vB) (n:=(vl).toNat) (o:=18) eY So (by first|exact rfl|exact pG0 _ _ _ rfl|exact pG1 _ _ _ _ rfl rfl)) ?_
 refine cqb h ik fun r8 h=>?_
 refine s1 (wP tok 3 (by decide) eN eY) ?_
 refine nl hK ?_
 refine cdh h rfl (fun FV h=>?_) (fun FV h=>?_)
 refine ra hx ?_
 refine AW.ret ?_
 cases h
 refine PS.r ⟨by nofun,PS.l (PR.i ?_)⟩
 exact rv1
 refine AW.skip (rb hx ?_)
 exact pel h h0 [0]
 exact AW.exit (peq h h0 [0])
 rcases y with r|⟨⟩
 rintro ex tm' hp' ⟨rfl,hw⟩
 cases h
 exact hw
 refine lwr ?_
 refine AW.seq (ra hx ?_)
 refine AW.block ?_
 obtain⟨y,hy,h⟩:=ae h
 refine lp (S:=Int) (X:=Bool⊕Unit) (fun vj=>[(1,.pt 0 0),(5,dI .i64 vj)]) (fun vj=>⟨[(0,[dI .i64 nT.vA.vR,dI .i64 nT.vA.vC,dL al nT.vA.vV,dL al nT.vB,dL al nT.vC])],[],1⟩) (PS (PR [.tmp 2] fun r=>dB r) (PE cx (.exit 4) (fun ()=>[]) fun ()=>⟨[],[],0⟩)) hy ?_ ?_ ?_
 exact wk0 h0 [0]
 clear hy h
 rintro vj y h
 dsimp only[jl] at h
 refine AW.seq (rar hx ?_)
 refine cdh h rfl (fun HV h=>?_) (fun HV h=>?_)
 refine AW.skip (AW.seq (AW.block (rsd [88] hx fun K hK=>?_)))
 iterate 3 refine sbr ?_
 obtain⟨PC,h⟩:=az h
 have Sn:(vj).toNat<(nT.vC).length:=by omega
 iterate 2 refine sbr ?_
 refine s1 (d:=dG aq ((nT.vC)[(vj).toNat]!.vD)) (kA (c:=al) (l:=nT.vC) (n:=(vj).toNat) (o:=18) eY Sn (by first|exact rfl|exact pG0 _ _ _ rfl|exact pG1 _ _ _ _ rfl rfl)) ?_
 refine cqb h ik fun qx h=>?_
 refine s1 (wP tok 3 (by decide) eN eY) ?_
 refine nl hK ?_
 refine cdh h rfl (fun SK h=>?_) (fun SK h=>?_)
 refine ra hx ?_
 refine AW.ret ?_
 cases h
 refine PS.r ⟨by nofun,PS.l (PR.i ?_)⟩
 exact rv1
 refine AW.skip (rb hx ?_)
 exact pel h h0 [0]
 exact AW.exit (peq h h0 [])
 rcases y with r|⟨⟩
 rintro ex tm' hp' ⟨rfl,hw⟩
 cases h
 exact hw
 refine lwr ?_
 refine ra hx ?_
 exact AW.ret (rtv h)
def fq(nT:bm):Option Bool:=bnd (S:=Bool) (bnd (pX nT (5:Int) (6:Int)) fun x1=>cnd (!x1) (some (true)) (bnd (m7 nT) fun x4=>some (!x4))) fun dq=>cnd dq (bnd (jW) fun x8=>some x8) (bnd (iS nT (4000:Int)) fun mI=>bnd (S:=Bool) (bnd (jW) fun nf=>cnd nf (cnd (decide (mI.2.2=(0:Int))) (cnd (decide ((0:Int)≤mI.2.1)) (cnd (decide (mI.2.1≤(4000:Int))) (bnd (gO nT mI.1) fun qx=>some (decide (qx=(0:Int)))) (some (false))) (some (false))) (some (false))) (some (false))) fun c8=>some c8)
theorem vo {nT:bm}{r:Bool}(h:fq nT=some r):ar prog 6 [dG dY nT] (dB r):=by
 refine bj (rs:=[.tmp 2]) (fun cx hx h0=>?_) func6
 unfold fq at h
 refine rs hx fun K hK=>?_
 refine s1 (d:=.pt 0 0) gF ?_
 refine nbr hK ?_
 iterate 2 refine AW.seq ?_
 obtain⟨dq,hy,h⟩:=ae h
 refine jn ((PE cx .normal (fun dq=>[(1,.pt 0 0),(13,dB dq)]) fun dq=>⟨[(0,[dI .i64 nT.vA.vR,dI .i64 nT.vA.vC,dL al nT.vA.vV,dL al nT.vB,dL al nT.vC])],[],1⟩) dq) ?_ ?_
 replace h:=hy
 refine rq hx fun K hK=>?_
 refine s1 (d:=dG dY nT) (T_ldA uZ) ?_
 refine scb h Ji fun x1 h=>?_
 refine mbr ?_
 rcases aF h with⟨fQ,h⟩|⟨fQ,h⟩
 refine nbr hK ?_
 exact pe1 h h0 [0]
 refine g1 (d:=dG dY nT) fQ (T_ldA uZ) ?_
 refine gcb h FA fun x4 h=>?_
 refine nbr hK ?_
 exact pe1 h h0 [0]
 refine lw0 ?_
 refine cdh h rfl (fun tI h=>?_) (fun tI h=>?_)
 refine rs hx fun K hK=>?_
 refine scb h v8 fun x8 h=>?_
 refine nbr hK ?_
 exact AW.ret (rtv h)
 refine AW.skip (rs hx fun K hK=>?_)
 refine s1 (d:=dG dY nT) (T_ldA uZ) ?_
 refine scb h uV fun mI h=>?_
 iterate 4 refine sa ?_
 refine s1 (d:=.pt 1 0) (sO qp) ?_
 refine s0 (MZ (ds':=[dI .i64 mI.1.vKind,dL al mI.1.vX,dL al mI.1.vY,dL al mI.1.vRay]) qp) ?_
 refine nbr hK ?_
 refine AW.seq ?_
 obtain⟨c8,hy,h⟩:=ae h
 refine jn ((PE cx .normal (fun c8=>[(2,dB c8)]) fun c8=>⟨[],[],0⟩) c8) ?_ ?_
 replace h:=hy
 refine rq hx fun K hK=>?_
 refine scb h v8 fun nf h=>?_
 refine sa ?_
 rcases aF h with⟨uq,h⟩|⟨uq,h⟩
 refine mbr ?_
 rcases aF h with⟨HV,h⟩|⟨HV,h⟩
 refine mbr ?_
 rcases aF h with⟨ru,h⟩|⟨ru,h⟩
 refine mbr ?_
 rcases aF h with⟨DR,h⟩|⟨DR,h⟩
 refine g1 (d:=dG dY nT) DR (T_ldA uZ) ?_
 refine g1 (d:=dG jZ mI.1) DR (T_ldA qp) ?_
 refine gcb h qe fun qx h=>?_
 refine nbr hK ?_
 exact pe1 h h0 []
 refine nbr hK ?_
 exact pe1 h h0 []
 refine nbr hK ?_
 exact pe1 h h0 []
 refine nbr hK ?_
 exact pe1 h h0 []
 refine nbr hK ?_
 exact pe1 h h0 []
 refine lw0 ?_
 exact AW.ret (rtv h)
section
theorem nv_good {x:Nu}(h:aw x=true):nv x=kN (rv x):=(dm.1 (bC.1 h)).2
theorem Th {a b:Int}(ha:a.natAbs<LIM)(hb:b.natAbs<LIM):enc a=enc b↔a=b:=⟨fun h=>by rw[←z9 ha,←z9 hb,h],fun h=>by rw[h]⟩
theorem Ib {x:Nu}(hg:aw x=true):decide (¬((nv x).vD=enc 1))= !decide ((rv x).den=1):=by
 have h1:=(J3 hg).2
 have e:(nv x).vD=enc ((rv x).den:Int):=by rw[nv_good hg];rfl
 have hi:=Th (a:=((rv x).den:Int)) (b:=1) (by simpa using h1) (by decide)
 by_cases h:(rv x).den=1
 ·have hh:(nv x).vD=enc 1:=by rw[e];exact hi.2 (by omega)
  simp[hh,h]
 ·have hh:¬(nv x).vD=enc 1:=by rw[e];exact fun hh=>h (by have:=hi.1 hh;omega)
  simp[hh,h]
theorem isI_den {x:Nu}{K:Nat}(h1:(rv x).den=1)(h2:(rv x).num.natAbs≤K):IsI (rv x) K:=by
 refine⟨(rv x).num,?_,h2⟩
 have:=(den_mul (rv x)).1
 rw[h1] at this
 rw[←this]
 show rv x=((1:Nat):Rat)*rv x
 grind
structure Who(A B C:List Nu):Prop where
 a:∀i,i<A.length→(rv A[i]!).den=1
 b:∀i,i<B.length→(rv B[i]!).den=1
 c:∀i,i<C.length→(rv C[i]!).den=1
theorem LA {n:Nat}{p:Nat→Bool}(h:(List.range n).all p=true):∀i,i<n→p i=true:=fun i hi=>a7.1 h i (j7.2 hi)
section
variable {R Cc:Int} {A B C:List Nu}
theorem R_whole(hA:A.length≤9223372036854775807)(hB:B.length≤9223372036854775807)(hC:C.length≤9223372036854775807)(gA:∀i,i<A.length→aw A[i]! =true)(gB:∀i,i<B.length→aw B[i]! =true)(gC:∀i,i<C.length→aw C[i]! =true):∃b,m7 ⟨⟨R,Cc,A.map nv⟩,B.map nv,C.map nv⟩=some b∧(b=true→Who A B C):=by
 obtain⟨y1,h1,p1⟩:=tz (b:=jU ⟨⟨R,Cc,A.map nv⟩,B.map nv,C.map nv⟩) hA (fun i=>decide ((rv A[i]!).den=1)) (fun _=>false) (fun i hi=>by
  unfold jU
  rw[bh,cw _ _,aC,qJ (by omega) (by omega),ab,sr hi,Ib (gA i hi)]) (by
  unfold jU
  rw[bh,cg _ _])
 obtain⟨y2,h2,p2⟩:=tz (b:=jm ⟨⟨R,Cc,A.map nv⟩,B.map nv,C.map nv⟩) hB (fun i=>decide ((rv B[i]!).den=1)) (fun _=>false) (fun i hi=>by
  unfold jm
  rw[bh,cw _ _,aC,qJ (by omega) (by omega),ab,sr hi,Ib (gB i hi)]) (by
  unfold jm
  rw[bh,cg _ _])
 obtain⟨y3,h3,p3⟩:=tz (b:=jl ⟨⟨R,Cc,A.map nv⟩,B.map nv,C.map nv⟩) hC (fun i=>decide ((rv C[i]!).den=1)) (fun _=>false) (fun i hi=>by
  unfold jl
  rw[bh,cw _ _,aC,qJ (by omega) (by omega),ab,sr hi,Ib (gC i hi)]) (by
  unfold jl
  rw[bh,cg _ _])
 unfold m7
 rw[h1,h2,h3]
 simp only[ab]
 cases y1 with
 |inl r=>obtain⟨i,_,_,rfl⟩:=p1;exact⟨false,rfl,fun e=>by cases e⟩
 |inr u=>
  cases y2 with
  |inl r=>obtain⟨i,_,_,rfl⟩:=p2;exact⟨false,rfl,fun e=>by cases e⟩
  |inr u=>
   cases y3 with
   |inl r=>obtain⟨i,_,_,rfl⟩:=p3;exact⟨false,rfl,fun e=>by cases e⟩
   |inr u=>exact⟨true,rfl,fun _=>⟨fun i hi=>bA (LA p1 i hi),fun i hi=>bA (LA p2 i hi),fun i hi=>bA (LA p3 i hi)⟩⟩
theorem AI {l:List Nu}(h:KS l 6)(hd:∀i,i<l.length→(rv l[i]!).den=1):∀i,i<l.length→aw l[i]! =true∧IsI (rv l[i]!) 63:=fun i hi=>by
 have:=h.num i hi
 exact⟨h.good i hi,isI_den (hd i hi) (by have e:2 ^ ((6:Int)).toNat=64:=rfl;omega)⟩
structure Dims(m nn:Nat)(A B C:List Nu):Prop where
 m5:m≤5
 n5:nn≤5
 lA:A.length=m*nn
 lB:B.length=m
 lC:C.length=nn
 l25:A.length≤25
 a:∀i,i<m*nn→aw A[i]! =true∧IsI (rv A[i]!) 63
 b:∀i,i<m→aw B[i]! =true∧IsI (rv B[i]!) 63
 c:∀k,k<nn→aw C[k]! =true∧IsI (rv C[k]!) 63
theorem Dims.sz {m nn:Nat}(h:Dims m nn A B C):Sz m nn A B C:=by
 have hb:63≤BT:=by decide
 exact⟨by have:=h.m5;omega,h.n5,h.lA,h.lB,h.lC,fun i hi=>⟨(h.a i hi).1,(h.a i hi).2.mono hb⟩,fun i hi=>⟨(h.b i hi).1,(h.b i hi).2.mono hb⟩,fun i hi=>⟨(h.c i hi).1,(h.c i hi).2.mono hb⟩⟩
theorem Ta(hf:Few R Cc A B C 5 6)(hw:Who A B C):∃m nn:Nat,R=m∧Cc=nn∧Dims m nn A B C:=by
 obtain⟨m,nn,rfl,rfl,d1,d2,d3,d4,d5,g1,g2,g3⟩:=yk hf.valid
 have hr:=hf.r
 have hc:=hf.c
 have hmn:m*nn≤5*5:=kS (by omega) (by omega)
 exact⟨m,nn,rfl,rfl,by omega,by omega,d3,d4,d5,by omega,fun i hi=>AI hf.sA hw.a i (by omega),fun i hi=>AI hf.sB hw.b i (by omega),fun i hi=>AI hf.sC hw.c i (by omega)⟩
theorem QI {m nn:Nat}(hm:m≤2000)(hn:nn≤2000)(hA:A.length=m*nn)(hB:B.length=m)(hC:C.length=nn)(gA:∀i,i<A.length→aw A[i]! =true)(gB:∀i,i<B.length→aw B[i]! =true)(gC:∀i,i<C.length→aw C[i]! =true):mN m nn A B C=true:=by
 unfold mN FJ
 rw[Ii gA,Ii gB,Ii gC,hA,hB,hC]
 have q1:decide ((0:Int)≤(m:Int))=true:=aA (by omega)
 have q2:decide ((0:Int)≤(nn:Int))=true:=aA (by omega)
 have q3:decide ((m:Int)≤2000)=true:=aA (by omega)
 have q4:decide ((nn:Int)≤2000)=true:=aA (by omega)
 have q5:decide (((m*nn:Nat):Int)=(m:Int)*(nn:Int))=true:=aA (by rw[iJ])
 have q6:decide ((m:Int)=(m:Int))=true:=aA rfl
 have q7:decide ((nn:Int)=(nn:Int))=true:=aA rfl
 rw[q1,q2,q3,q4,q5,q6,q7]
 rfl
theorem Sz.valid {m nn:Nat}(h:Sz m nn A B C):mN m nn A B C=true:=by
 have h1:=h.m6
 have h2:=h.n5
 refine QI (by omega) (by omega) h.lA h.lB h.lC (fun i hi=>(h.gA i (by rw[←h.lA];exact hi)).1) (fun i hi=>(h.gB i (by rw[←h.lB];exact hi)).1) fun i hi=>(h.gC i (by rw[←h.lC];exact hi)).1
theorem Sz.solveB {m nn:Nat}(h:Sz m nn A B C):∃a n,Go.Proofs.YtaedcknhkjpmlaaGreat.qZ m nn A B C 4000=(a,n,0)∧0≤n∧n≤4000∧ju m nn A B C a=true:=by
 obtain⟨a,n,e,h1,h2,h3⟩:=Lm h
 refine⟨a,n,?_,h1,h2,h3⟩
 unfold Go.Proofs.YtaedcknhkjpmlaaGreat.qZ
 rw[ai (by rw[h.valid];rfl)]
 exact e
theorem Sz.RQ {m nn:Nat}(h:Sz m nn A B C){a:Ans}(ha:ju m nn A B C a=true):Go.Proofs.YtaedcknhkjpmlaaGreat.RQ m nn (fun i k=>rv A[i*nn+k]!) (fun i=>rv B[i]!) (fun k=>rv C[k]!) a.kind (fun k=>rv a.x[k]!) (fun i=>rv a.y[i]!) (fun k=>rv a.ray[k]!)∧(a.kind=1→aw (dE C a.x)=true∧rv (dE C a.x)=bi nn fun k=>rv C[k]! *rv a.x[k]!)∧EZ a:=by
 obtain⟨h1,h2,h3,h4,h5⟩:=Q9 h.lA h.lB h.lC (fun i hi=>(h.gB i hi).1) (fun k hk=>(h.gC k hk).1) ha
 have h6:=h.m6
 have h7:=h.n5
 exact⟨h1,h2,⟨by omega,by omega,by omega⟩⟩
theorem Sz.len {m nn:Nat}(h:Sz m nn A B C):A.length≤30∧B.length≤6∧C.length≤5:=by
 have h1:=h.m6
 have h2:=h.n5
 have hmn:m*nn≤6*5:=kS h1 h2
 rw[h.lA,h.lB,h.lC]
 omega
theorem UN(hA:A.length≤9223372036854775807)(hB:B.length≤9223372036854775807)(hC:C.length≤9223372036854775807):fq ⟨⟨R,Cc,A.map nv⟩,B.map nv,C.map nv⟩=some true:=by
 obtain⟨f,hf,kf⟩:=R_few (R:=R) (Cc:=Cc) (size:=5) (bits:=6) hA hB hC
 unfold fq
 rw[hf,sane]
 cases f with
 |false=>rfl
 |true=>
  have few:=kf rfl
  obtain⟨b,hb,kb⟩:=R_whole (R:=R) (Cc:=Cc) hA hB hC few.sA.good few.sB.good few.sC.good
  rw[hb]
  cases b with
  |false=>rfl
  |true=>
   obtain⟨m,nn,rfl,rfl,hd⟩:=Ta few (kb rfl)
   have hs:=hd.sz
   obtain⟨l1,l2,l3⟩:=hs.len
   obtain⟨a,n,e,h1,h2,h3⟩:=hs.solveB
   obtain⟨_,_,hlen⟩:=hs.RQ h3
   rw[OJ (by omega) (by omega) (by omega) (by omega),e]
   have e1:(r6 (a,n,0)).1=Bq a:=rfl
   have e2:(r6 (a,n,0)).2.1=n:=rfl
   have e3:(r6 (a,n,0)).2.2=0:=rfl
   have e4:rD m nn A B C a=0:=by
    unfold rD
    rw[ai hs.valid,bP,bP,ai h3]
   simp only[ab]
   rw[e1,e2,e3,IP (by omega) (by omega) (by omega) hlen,e4,aA h1,aA h2]
   rfl
end
end
theorem Qa {p:bm}(hV:QL p.vA.vV)(hB:QL p.vB)(hC:QL p.vC):fq p=some true:=by
 obtain⟨⟨R,Cc,V⟩,B,C⟩:=p
 dsimp only at hV hB hC
 rw[hV.nu.1,hB.nu.1,hC.nu.1]
 exact UN hV.nu.2 hB.nu.2 hC.nu.2
section
open Go.ChangeShapes Go.WideShapes Go.ChangeAt Go.RowKit Go.ChangeMaps
namespace simplexProves
theorem k0:(Rows.simplexProvesRow.wf (OpenSpec.ofChange Rows.simplexProvesSpec))=true:=by kernel_rfl
theorem k1:(laidOutB prog)=true:=by kernel_rfl
theorem k2:(mapsRowed prog)=true:=by kernel_rfl
theorem k3:(f6.params.all (prog.readableRec ·))=true:=by kernel_rfl
theorem k4:(namedTie prog Rows.simplexProvesRow.named Rows.simplexProvesSpec.vars)=true:=by kernel_rfl
theorem k5:((Rows.simplexProvesRow.stops == []))=true:=by kernel_rfl
theorem k6:((prog.stops == []))=true:=by kernel_rfl
theorem k7:((Rows.simplexProvesRow.knobs == []))=true:=by kernel_rfl
theorem k8:((prog.stopKnobs == []))=true:=by kernel_rfl
theorem k9:((Rows.simplexProvesRow.inPlace == prog.inPlace 6))=true:=by kernel_rfl
theorem k10:((Rows.simplexProvesRow.unfollowed == prog.unfollowed 6))=true:=by kernel_rfl
theorem k11:((Rows.simplexProvesRow.recurses == prog.recurses 6))=true:=by kernel_rfl
theorem k12:((Rows.simplexProvesRow.named == prog.varsNamed 6))=true:=by kernel_rfl
theorem k13:((Rows.simplexProvesRow.maps == (f6.params.toList++Rows.simplexProvesSpec.plain.varTypes prog).any (prog.mapsRec ·)))=true:=by kernel_rfl
theorem k14:((Rows.simplexProvesRow.ifaces == (f6.params.toList++Rows.simplexProvesSpec.plain.varTypes prog).any (prog.ifacesRec ·)))=true:=by kernel_rfl
theorem k15:((Rows.simplexProvesRow.mapsOut == prog.mapsAmong f6.resultTypes.toList))=true:=by kernel_rfl
theorem k16:((Rows.simplexProvesRow.loops == (f6.params.toList++Rows.simplexProvesSpec.plain.varTypes prog).any (prog.loopsFrom ·)))=true:=by kernel_rfl
theorem k17:((Rows.simplexProvesRow.wideKeys == (f6.params.toList++Rows.simplexProvesSpec.plain.varTypes prog++f6.resultTypes.toList).any (prog.wideKeysFrom ·)))=true:=by kernel_rfl
theorem k18:(Rows.simplexProvesSpec.vars.all (prog.varReadable ·))=true:=by kernel_rfl
theorem k19:(f6.resultTypes.all (fun t=>prog.readableRec t&&decide (t<prog.types.size)))=true:=by kernel_rfl
theorem k20:((Rows.simplexProvesRow.ifacesOut == f6.resultTypes.toList.any (prog.ifacesRec ·)))=true:=by kernel_rfl
theorem k21:((Rows.simplexProvesRow.loopsOut == f6.resultTypes.toList.any (prog.loopsFrom ·)))=true:=by kernel_rfl
theorem k22:((Rows.simplexProvesRow.plainKeys == prog.plainKeys))=true:=by kernel_rfl
theorem k23:(Rows.simplexProvesRow.shortTexts.isNone)=true:=by kernel_rfl
theorem k24:(prog.stopsHeard)=true:=by kernel_rfl
theorem k25:(prog.mayEnter)=true:=by kernel_rfl
theorem k26:((Rows.simplexProvesRow.lifted == prog.liftsFinal))=true:=by kernel_rfl
theorem k27:((prog.make == some Rows.simplexProvesRow.make))=true:=by kernel_rfl
theorem k28:((Rows.simplexProvesRow.kinds == (if Rows.simplexProvesRow.domain.isEmpty then [] else f6.params.toList.map fun t=>match prog.underlying t with|some (.int k)=>some k|_=>none)))=true:=by kernel_rfl
theorem k29:((Rows.simplexProvesRow.pinned == Rows.simplexProvesRow.pinnedBy))=true:=by kernel_rfl
theorem k30:((Rows.simplexProvesRow.veiled == (f6.params.toList++Rows.simplexProvesSpec.plain.varTypes prog++f6.resultTypes.toList).any (prog.veiledRec ·)))=true:=by kernel_rfl
theorem k31:(Rows.simplexProvesRow.veiledFits prog f6.params.toList (f6.params.toList++Rows.simplexProvesSpec.plain.varTypes prog++f6.resultTypes.toList))=true:=by kernel_rfl
theorem ny {a b:Bool}(h:a=true)(h2:b=true):(a&&b)=true:=by rw[h,h2];rfl
theorem closed:joinedFacts prog 6 f6 Rows.simplexProvesSpec Rows.simplexProvesRow=true:=by
 delta joinedFacts
 exact ny (ny (ny (ny (ny (ny (ny (ny (ny (ny (ny (ny (ny (ny (ny (ny (ny (ny (ny (ny (ny (ny (ny (ny (ny (ny (ny (ny (ny (ny (ny k0 k1) k2) k3) k4) k5) k6) k7) k8) k9) k10) k11) k12) k13) k14) k15) k16) k17) k18) k19) k20) k21) k22) k23) k24) k25) k26) k27) k28) k29) k30) k31
end simplexProves
end
end
end Go.Proofs.YtaedcknhkjpmlaaGreat
