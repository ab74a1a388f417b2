/-
  Lemmas, part 9. Conditions: none.
-/
import Derived.Test.YtaedcknhkjpmlaaGreatY8
import Derived.Test.YtaedcknhkjpmlaaGreatRows
set_option linter.all false
set_option maxRecDepth 100000
set_option maxHeartbeats 4000000
namespace Go.Proofs.YtaedcknhkjpmlaaGreat
open Go.RowKit Go.IntKind Tryz Go.Proofs.Tryz
noncomputable section
theorem e1T:e1B=true:=by decide +kernel
theorem e2T:e2B=true:=by decide +kernel
theorem e3T:e3B=true:=by decide +kernel
theorem e4T:e4B=true:=by decide +kernel
theorem e5T:e5B=true:=by decide +kernel
theorem e6T:e6B=true:=by decide +kernel
theorem AS {R Cc:Int}{A B C:List Nu}{want:Ans}(hA:A.length≤1000000)(hB:B.length≤1000000)(hC:C.length≤1000000)(hl:Fy want)(h:(decide ((rH R Cc A B C 100).1=want)&&(decide ((rH R Cc A B C 100).2.2=0)&&decide (uV R Cc A B C (rH R Cc A B C 100).1=0)))=true):gp ⟨⟨R,Cc,A.map nv⟩,B.map nv,C.map nv⟩ (C9 want)=some true:=by
 simp only[cm,r8] at h
 obtain⟨h1,h2,h3⟩:=h
 rw[h1] at h3
 unfold gp
 rw[Jq hA hB hC (by decide),ab]
 have e:(qE (rH R Cc A B C 100)).1=C9 want:=by rw[←h1];rfl
 have e2:(qE (rH R Cc A B C 100)).2.2=0:=h2
 rw[e,e2,Jm hl,Pp hA hB hC hl,h3]
 simp only[ab,qC]
 simp
theorem xL {rows:Int}{a b c:List Int}(ha:a.length≤1000000)(hb:b.length≤1000000)(hc:c.length≤1000000)(h1:∀i,i<a.length→-1000≤a[i]!∧a[i]!≤1000)(h2:∀i,i<b.length→-1000≤b[i]!∧b[i]!≤1000)(h3:∀i,i<c.length→-1000≤c[i]!∧c[i]!≤1000):fE rows a b c=some ⟨⟨rows,(c.length:Int),(a.map nOf).map nv⟩,(b.map nOf).map nv,(c.map nOf).map nv⟩:=by
 unfold fE
 rw[vm ha h1,ab,vm hb h2,ab,vm hc h3,ab]
theorem sane:j9=some true:=by
 have p1:=xL (rows:=2) (a:=[1,2,3,1]) (b:=[4,6]) (c:=[1,1]) (by decide) (by decide) (by decide) (by decide) (by decide) (by decide)
 have p2:=xL (rows:=1) (a:=[1]) (b:=[-1]) (c:=[0]) (by decide) (by decide) (by decide) (by decide) (by decide) (by decide)
 have p3:=xL (rows:=1) (a:=[-1,1]) (b:=[1]) (c:=[1,0]) (by decide) (by decide) (by decide) (by decide) (by decide) (by decide)
 have p4:=xL (rows:=1) (a:=[-1]) (b:=[-2]) (c:=[-1]) (by decide) (by decide) (by decide) (by decide) (by decide) (by decide)
 have f1:=Fu (a:=8) (b:=6) (by decide) (by decide)
 have f2:=Fu (a:=2) (b:=1) (by decide) (by decide)
 have f3:=Fu (a:=2) (b:=2) (by decide) (by decide)
 have i1:=vm (l:=[1]) (by decide) (by decide)
 have i2:=vm (l:=[0,0]) (by decide) (by decide)
 have i3:=vm (l:=[1,0]) (by decide) (by decide)
 have i4:=vm (l:=[2]) (by decide) (by decide)
 have i5:=vm (l:=[1,1,1,-1]) (by decide) (by decide)
 have i6:=vm (l:=[1,3]) (by decide) (by decide)
 have s1:=AS (want:=⟨1,[fr 8 5,fr 6 5],[fr 2 5,fr 1 5],[]⟩) (R:=2) (Cc:=2) (by decide) (by decide) (by decide) (t3 rfl) e1T
 have s2:=AS (want:=⟨2,[],[1].map nOf,[]⟩) (R:=1) (Cc:=1) (by decide) (by decide) (by decide) (t3 rfl) e2T
 have s3:=AS (want:=⟨3,[0,0].map nOf,[],[1,0].map nOf⟩) (R:=1) (Cc:=2) (by decide) (by decide) (by decide) (t3 rfl) e3T
 have s4:=AS (want:=⟨1,[2].map nOf,[1].map nOf,[]⟩) (R:=1) (Cc:=1) (by decide) (by decide) (by decide) (t3 rfl) e4T
 have q1:=P_Equal (R:=2) (Cc:=2) (A:=[1,1,1,-1].map nOf) (B:=[1,3].map nOf) (most:=100) (by decide) (by decide) (by decide)
 have h5:=e5T
 unfold e5B at h5
 obtain⟨r,hr⟩:∃r,r=II 2 2 ([1,1,1,-1].map nOf) ([1,3].map nOf) 100:=⟨_,rfl⟩
 rw[←hr] at q1 h5
 simp only[cm,r8] at h5
 obtain⟨hl,k2,k3,k4⟩:=h5
 have q2:=Jr (R:=2) (Cc:=2) (A:=[1,1,1,-1].map nOf) (B:=[1,3].map nOf) (a:=r.1) (by decide) (by decide) (t3 hl)
 rw[k4] at q2
 have q3:=Pp (R:=2) (Cc:=2) (A:=[1,2,3,1].map nOf) (B:=[4,6].map nOf) (C:=[1,1].map nOf) (a:=⟨1,[fr 8 5,fr 6 5],[fr 2 5,fr 2 5],[]⟩) (by decide) (by decide) (by decide) (t3 rfl)
 rw[show uV 2 2 ([1,2,3,1].map nOf) ([4,6].map nOf) ([1,1].map nOf) ⟨1,[fr 8 5,fr 6 5],[fr 2 5,fr 2 5],[]⟩=250 from bC e6T] at q3
 have z1:(qE r).1=C9 r.1:=rfl
 have z2:(qE r).2.2=0:=k2
 have z3:(C9 r.1).vKind=2:=k3
 unfold j9
 rw[p1,ab,f1,ab,f2,ab]
 refine (congrArg (fun o=>bnd o _) s1).trans ?_
 rw[ab,p2,ab,i1,ab]
 refine (congrArg (fun o=>bnd o _) s2).trans ?_
 rw[ab,p3,ab,i2,ab,i3,ab]
 refine (congrArg (fun o=>bnd o _) s3).trans ?_
 rw[ab,p4,ab,i4,ab]
 rw[ab]
 refine (congrArg (fun o=>bnd o _) s4).trans ?_
 rw[ab,i5,ab,i6,ab,q1,ab,z1,z2,z3,ab,q2]
 have dt:decide True=true:=rfl
 simp only[ab,cT,dt,f3]
 refine (congrArg (fun o=>bnd (bnd o _) _) q3).trans ?_
 rfl
section
open Go.ChangeShapes Go.WideShapes Go.ChangeAt Go.RowKit Go.Deep
section
variable {H:Type} {enc:TypeId×Value→H} {P:Program}
theorem Gm {f:Func}{s:ChangeSpec}{apart fresh handsOn again:Bool}{W W':World}{args:Array Value}{v:Value}{ds gs:List (DataW H)}{before pa pv:List MemPlace}
  (hW:DataW.Whole enc P f.params.toList s.vars apart W args.toList ds gs before)
  (qh:∀(b:Nat) (sp:Nat→Bool) (hd:Bool),DataW.TrodAll enc P W' b sp hd f.resultTypes.toList (v.resultList f.resultTypes.size) (s.fn H (ds++gs)).results [])
  (vM:∀sp:Nat→Bool,(∀p∈before,sp p.block=true)→DataW.TrodAll enc P W' 0 sp true f.params.toList args.toList (s.fn H (ds++gs)).args pa)
  (OC:∀sp:Nat→Bool,(∀p∈before,sp p.block=true)→DataW.TrodVars enc P W' sp s.vars (s.fn H (ds++gs)).vars pv)
  (SP:before=pa++pv) (hb:Below W.heap.size W W')
  (hok:∀(j:Nat) (t:TypeId) (r:Value),f.resultTypes[j]? =some t→(v.resultList f.resultTypes.size)[j]? =some r→Value.okWide P W' .any 0 t r):
  s.post enc P f apart fresh handsOn again W args v W':=by
 have bK:∀p∈before,p.block<W.heap.size:=fun p hp=>hW.lt p hp
 have hold:∀p∈before,(fun b=>decide (b<W.heap.size)) p.block=true:=fun p hp=>by simpa using bK p hp
 refine⟨ds,gs,before,[],pa,pv,hW,qh _ _ _,vM _ hold,OC _ hold,World.keptBut_mono (fun p hp=>⟨hp,?_⟩) (hb.frame (·∈before)),fun _=>?_⟩
 ·rw[SP,vP] at hp
  exact Or.inr hp
 ·obtain⟨_,_,_,_,_,hz,hn⟩:=hW
  refine⟨hok,_,_,([]++pa)++pv,⟨[]++pa,pv,trodAll_append (vM _ (fun _ _=>rfl)) (qh _ _ _),OC _ (fun _ _=>rfl),rfl,?_,?_⟩,?_⟩
  ·intro b off hp
   have Gx:MemPlace.cell b off∈before:=by rw[SP];simpa using hp
   rw[hb.frozen (bK _ Gx)]
   exact hz b off Gx
  ·intro ha
   have:=hn ha
   rw[SP] at this
   simpa using this
  ·intro p hp _
   rw[SP]
   simpa using hp
theorem Gi(hl:laidOutB P=true){W W':World}(hb:Below W.heap.size W W'){sp:Nat→Bool}:∀(ts:List TypeId) (vs:List Value) (ds:List (DataW H)) (p:List MemPlace),
  (ts.all fun t=>P.readableRec t&&decide (t<P.types.size))=true→DataW.TrodAll enc P W 0 (fun _=>true) true ts vs ds p→(∀x∈p,x.block<W.heap.size)→(∀x∈p,sp x.block=true)→
  DataW.TrodAll enc P W' 0 sp true ts vs ds p:=by
 intro ts
 induction ts with
 |nil=>
  intro vs ds p _ h _ _
  cases vs with
  |nil=>cases ds with
   |nil=>exact h
   |cons d ds=>exact h.elim
  |cons v vs=>exact h.elim
 |cons t ts ih=>
  intro vs ds p hr h bK hs
  cases vs with
  |nil=>exact h.elim
  |cons v vs=>
   cases ds with
   |nil=>exact h.elim
   |cons d ds=>
    obtain⟨p1,q,h1,h2,rfl⟩:=h
    simp only[iJ,cm,r8] at hr
    refine⟨p1,q,WideElems.Trod_stays hl hr.1.1 hr.1.2 h1 (fun x hx=>hb.same (bK x (by simp[hx]))) (fun x hx=>hs x (by simp[hx])),ih vs ds q hr.2 h2 (fun x hx=>bK x (by simp[hx])) (fun x hx=>hs x (by simp[hx])),rfl⟩
theorem Sq {f:Func}{s:ChangeSpec}{W W':World}{args:Array Value}{ds gs:List (DataW H)}{before:List MemPlace}{tb:TypeId}
  (hl:laidOutB P=true) (hv:s.vars=[]) (hrec:(f.params.toList.all fun t=>P.readableRec t&&decide (t<P.types.size))=true)
  (qh:f.resultTypes=#[tb]) (htb:P.underlying tb=some .bool)
  (hW:DataW.Whole enc P f.params.toList s.vars false W args.toList ds gs before)
  (hfn:s.fn H (ds++gs)={results:=[.lit (.bool true)],args:=ds}) (hb:Below W.heap.size W W'):
  s.post enc P f false true false false W args (.bool true) W':=by
 have hW':=hW
 obtain⟨p,q,hA,hV,hpq,_,_⟩:=hW
 rw[hv] at hV
 have hq:q=[]:=by
  cases gs with
  |nil=>exact hV
  |cons g gs=>exact hV.elim
 subst hq
 rw[tf] at hpq
 subst hpq
 refine Gm (pa:=before) (pv:=[]) hW' (fun b sp hd=>?_) (fun sp hsp=>?_) (fun sp _=>?_) (by simp) hb ?_
 ·rw[qh,hfn]
  exact trodAll_cons_mk (shut_bool htb _) trodAll_mk0
 ·rw[hfn]
  exact Gi hl hb _ _ _ _ hrec hA (fun x hx=>hW'.lt x hx) hsp
 ·rw[hv,hfn];rfl
 ·exact ok_one qh rfl (okWide_bool_mk htb _)
end
theorem hv_of {P:Program}{W:World}{params:Array TypeId}{args:Array Value}(h:∀(j:Nat) t v,params[j]? =some t→args[j]? =some v→Value.okWide P W .any 0 t v∨∃base,Value.okWide P W .any base t v)(j:Nat){t:TypeId}{v:Value}
  (h1:params[j]? =some t) (h2:args[j]? =some v):∃base,Value.okWide P W .any base t v:=by
 rcases h j t v h1 h2 with h|h
 ·exact⟨0,h⟩
 ·exact h
end
section
open Go.ChangeShapes Go.WideShapes Go.ChangeAt Go.RowKit Go.Deep
def wtFs(tb:TypeId→Option TyE)(f:TypeId→List E→Prop):List (Nat×TypeId)→List E→Prop
 |[],xs=>xs=[]
 |(_,t)::fs,xs=>∃j,tb t=some j∧j.size≤xs.length∧f t (xs.take j.size)∧wtFs tb f fs (xs.drop j.size)
def wtE(tb:TypeId→Option TyE):Nat→TypeId→List E→Prop
 |0,_,_=>False
 |k+1,t,xs=>∃i,tb t=some i∧xs.length=i.size∧match i.ty with
  | .int kd=>∃n,xs=[.lit (.int kd n)]∧(Lit.int kd n).wf=true
  | .bool=>∃b,xs=[.lit (.bool b)]
  | .str=>∃s:ByteArray,xs=[.lit (.string s)]∧s.size≤maxLen
  | .slice e=>∃j n ys,tb e=some j∧xs=[.sl j.size n ys]∧ys.length=n*j.size∧n≤maxLen∧∀i,i<n→wtE tb k e ((ys.drop (i*j.size)).take j.size)
  | .struct fs=>wtFs tb (wtE tb k) fs xs
  | .arr n e=>∃j,tb e=some j∧xs.length=n*j.size∧∀i,i<n→wtE tb k e ((xs.drop (i*j.size)).take j.size)
  |_=>False
def DH(tb:TypeId→Option TyE)(f:TypeId→Bool):List (Nat×TypeId)→Nat→Nat→Bool
 |[],off,n=>off == n
 |(o,t)::fs,off,n=>o == off&&f t&&match tb t with
  |some j=>DH tb f fs (off+j.size) n
  |none=>false
def Ib(tb:TypeId→Option TyE):Nat→TypeId→Bool
 |0,_=>false
 |k+1,t=>match tb t with
  |some i=>match i.ty with
   | .int _| .bool| .str=>i.size == 1
   | .slice e=>i.size == 1&&Ib tb k e&&match tb e with
    |some j=>decide (0<j.size)
    |none=>false
   | .struct fs=>DH tb (Ib tb k) fs 0 i.size
   | .arr n e=>Ib tb k e&&match tb e with
    |some j=>i.size == n*j.size
    |none=>false
   |_=>false
  |none=>false
section
variable {H:Type} {enc:TypeId×Value→H} {P:Program} {tb:TypeId→Option TyE} {W:World} {sp:Nat→Bool} {hd:Bool} {base:Nat}
theorem TOk.cells(tok:TOk P tb){t:TypeId}{i:TyE}(h:tb t=some i):P.cellsOf t=i.size:=by
 obtain⟨f,z,h1,h2,_⟩:=tok.inf h
 unfold Program.cellsOf
 rw[h1]
 exact h2
def F0:Addr→Prop:=fun _=>False
theorem BP {z:Nat}{us:List Value}{Good:List E→Prop}:∀(n:Nat),us.length=n*z→(∀i,i<n→∃xs,Pw (dq W F0) xs ((us.drop (i*z)).take z)∧Good xs)→
  ∃ys,Pw (dq W F0) ys us∧ys.length=n*z∧∀i,i<n→Good ((ys.drop (i*z)).take z)
 |0,hl,_=>⟨[],by rw[gH] at hl;rw[sK hl];exact Pw.nil,by simp,fun i h=>absurd h (qJ _)⟩
 |n+1,hl,h=>by
  rw[qK] at hl
  have bK:(us.take (n*z)).length=n*z:=by rw[ep];omega
  obtain⟨ys,h1,h2,h3⟩:=BP (us:=us.take (n*z)) n bK fun i hi=>by
   obtain⟨xs,g1,g2⟩:=h i (by omega)
   have hm:i*z+z≤n*z:=by rw[←qK];exact cM _ hi
   refine⟨xs,?_,g2⟩
   rw[Li,Ho,td (by omega)]
   exact g1
  obtain⟨xs,g1,g2⟩:=h n (by omega)
  have hx:xs.length=z:=by rw[g1.1,ep,fc];omega
  refine⟨ys++xs,?_,by rw[cD,h2,hx,qK],fun i hi=>?_⟩
  ·have e:us=us.take (n*z)++(us.drop (n*z)).take z:=by
    rw[gJ (l:=us.drop (n*z)) (by rw[fc];omega),tH]
   rw[e]
   exact h1.append g1
  ·rcases d6 i n with Gx|Gx
   ·have hm:i*z+z≤n*z:=by rw[←qK];exact cM _ Gx
    rw[NH (by omega),vh (by rw[fc];omega)]
    exact h3 i Gx
   ·obtain rfl:i=n:=by omega
    rw[Nq,h2,zm,CK (by omega)]
    simp only[qN,ny]
    rw[gJ (by omega)]
    exact g2
theorem xD(tok:TOk P tb):∀(k:Nat) (fuel:Nat) (t:TypeId) (cs:List Value) (x:DataW H×List MemPlace),Ib tb k t=true→DataW.trod enc P W base sp hd fuel t cs=some x→∃xs,Pw (dq W F0) xs cs∧wtE tb k t xs
 |0,_,_,_,_,h,_=>by cases h
 |k+1,fuel,t,cs,x,hok,h=>by
  unfold Ib at hok
  cases ht:tb t with
  |none=>rw[ht] at hok;cases hok
  |some i=>
   rw[ht] at hok
   dsimp only at hok
   cases jI:i.ty with
   |int kd=>
    rw[jI] at hok
    have hz:i.size=1:=by simpa using hok
    obtain⟨n,rfl,_,hw⟩:=DataW.trod_int (tok.int ht jI) h
    exact⟨[.lit (.int kd n)],Pw.cons (.lit _ rfl) Pw.nil,i,ht,by rw[hz];rfl,by rw[jI];exact⟨n,rfl,hw⟩⟩
   |bool=>
    rw[jI] at hok
    have hz:i.size=1:=by simpa using hok
    obtain⟨dd,Dm,ym⟩:=tok.und ht
    rw[jI] at ym
    have hb:P.underlying t=some .bool:=by cases dd <;> simp[Ty.of] at ym;exact Dm
    obtain⟨b,rfl,_⟩:=DataW.trod_bool hb h
    exact⟨[.lit (.bool b)],Pw.cons (.lit _ rfl) Pw.nil,i,ht,by rw[hz];rfl,by rw[jI];exact⟨b,rfl⟩⟩
   |str=>
    rw[jI] at hok
    have hz:i.size=1:=by simpa using hok
    obtain⟨s,rfl,_,hs⟩:=DataW.trod_string (tok.str ht jI) h
    exact⟨[.lit (.string s)],Pw.cons (.lit _ rfl) Pw.nil,i,ht,by rw[hz];rfl,by rw[jI];exact⟨s,rfl,hs⟩⟩
   |slice e=>
    rw[jI] at hok
    dsimp only at hok
    cases he:tb e with
    |none=>rw[he] at hok;simp at hok
    |some j=>
     rw[he] at hok
     simp only[cm,beq_iff_eq,r8] at hok
     obtain⟨⟨hz,hoe⟩,Iw⟩:=hok
     have hce:=tok.cells he
     rcases open_slice (tok.slice ht jI) h with⟨rfl,_⟩|⟨a,len,cap,m,n,D,Pl,rfl,hb,hlc,o3,hm,_,hi⟩
     ·exact⟨[.sl j.size 0 []],Pw.cons (.sl _ 0 [] none 0 (fun _=>undef) (by simp) Iw (az _) (cr _) (fun h=>absurd h (pF _)) (fun _ h=>by cases h) (fun _ _ h=>by simp at h)) Pw.nil,
       i,ht,by rw[hz];rfl,by rw[jI];exact⟨j,0,[],he,rfl,by simp,cr _,fun i h=>absurd h (qJ _)⟩⟩
     ·have hle:len≤m:=by rw[hm];split <;> omega
      rw[hce] at hi
      let us:List Value:=(List.range (len*j.size)).map fun q=>(W.cell? (a.add q)).getD undef
      have OD:us.length=len*j.size:=by simp[us]
      have hu:∀q,q<len*j.size→us[q]? =some ((W.cell? (a.add q)).getD undef):=fun q hq=>by simp[us,hq]
      have Te:∀i,i<len→∃wO,W.cells? base (a.add (i*j.size)) j.size=some wO∧wO=(us.drop (i*j.size)).take j.size:=by
       intro i zb
       obtain⟨wO,hc,_⟩:=hi i (by omega)
       obtain⟨_,uu,Es⟩:=World.cells?_some hc
       refine⟨wO,hc,Lg fun q=>?_⟩
       have S4:i*j.size+j.size≤len*j.size:=by rw[←qK];exact cM _ zb
       rw[gL,nt]
       split
       ·rename_i hq
        have h1:=Es q hq
        rw[pH] at h1
        rw[hu _ (by omega),h1]
        rw[cC (by omega)];rfl
       ·rename_i hq
        rw[qZ (by omega)]
      obtain⟨ys,OB,Ed,hy3⟩:=BP (W:=W) (us:=us) (z:=j.size) (Good:=wtE tb k e) len OD fun i zb=>by
       obtain⟨wO,hc,hcs'⟩:=Te i zb
       obtain⟨cs2,qU,htr⟩:=hi i (by omega)
       rw[hc] at qU
       injection qU with qU
       subst qU
       rw[←hcs']
       exact xD tok k _ e wO _ hoe htr
      have CA:∀q v,us[q]? =some v→W.cell? (a.add q)=some v:=by
       intro q v hv
       have hq:q<len*j.size:=by
        rcases d6 q us.length with h|h
        ·omega
        ·rw[qZ h] at hv;cases hv
       -- qu cell lies in a chunk
       have hqd:q / j.size<len:=I9 (by rw[bA];exact hq)
       obtain⟨wO,hc,hcs'⟩:=Te (q / j.size) hqd
       obtain⟨_,uu,Es⟩:=World.cells?_some hc
       have h1:=Es (q % j.size) (eu _ Iw)
       rw[pH,bA,lN] at h1
       rw[hu q hq] at hv
       injection hv with hv
       rw[h1] at hv
       rw[h1,cC (by have:=eu q Iw;omega)] at*
       simp only[wX] at hv
       rw[hv]
      refine⟨[.sl j.size len ys],Pw.cons (.sl _ len ys (some a) cap (fun q=>us.getD q undef) Ed Iw hlc o3 (fun Jy=>⟨a,rfl,?_⟩) (fun ad Q4 q y hq=>?_) (fun q y hq=>?_)) Pw.nil,i,ht,by rw[hz];rfl,by rw[jI];exact⟨j,len,ys,he,rfl,Ed,dU hlc o3,hy3⟩⟩
      ·have h0:0<len*j.size:=yw Jy Iw
       have:=World.block_lt_of_cell? W _ (CA 0 _ (hu 0 h0))
       rwa[gh] at this
      ·injection Q4 with Q4
       subst Q4
       obtain⟨v,hv,_⟩:=OB.get hq
       refine⟨?_,fun hf=>hf⟩
       rw[CA q v hv,List.getD,hv];rfl
      ·obtain⟨v,hv,hr⟩:=OB.get hq
       rw[List.getD,hv]
       exact hr
   |other=>rw[jI] at hok;cases hok
   |struct fs=>
    rw[jI] at hok
    dsimp only at hok
    obtain⟨fields,hf,JA⟩:=tok.struct ht jI
    obtain⟨xs,n,_,_,uu,BG,jF⟩:=DataW.trod_struct hf h
    rw[tok.cells ht] at uu
    have key:∀(l:List Field) (off:Nat),(∀f∈l,∃x,DataW.trod enc P W base sp hd n f.type ((cs.drop f.offset).take (P.cellsOf f.type))=some x)→off≤cs.length→DH tb (Ib tb k) (l.map fun f=>(f.offset,f.type)) off i.size=true→
      ∃ys,Pw (dq W F0) ys (cs.drop off)∧wtFs tb (wtE tb k) (l.map fun f=>(f.offset,f.type)) ys:=by
     intro l
     induction l with
     |nil=>
      intro off _ ho yi
      have:off=i.size:=by simpa[DH] using yi
      exact⟨[],by rw[CK (by omega)];exact Pw.nil,rfl⟩
     |cons f l ih=>
      intro off hl ho yi
      simp only[jK,DH,cm,beq_iff_eq] at yi
      obtain⟨⟨hof,CY⟩,yi⟩:=yi
      cases hj:tb f.type with
      |none=>rw[hj] at yi;cases yi
      |some j=>
       rw[hj] at yi
       dsimp only at yi
       obtain⟨x,hx⟩:=hl f (qO ..)
       rw[tok.cells hj,hof] at hx
       obtain⟨zs,Mw,hz2⟩:=xD tok k _ f.type _ _ CY hx
       have hzl:zs.length=j.size:=by
        cases k with
        |zero=>cases hz2
        |succ k=>
         obtain⟨j',Cv,Ky,_⟩:=hz2
         rw[hj] at Cv
         injection Cv with Cv
         subst Cv
         exact Ky
       have hlen:off+j.size≤cs.length:=by
        have:=Mw.1
        rw[hzl,ep,fc] at this
        omega
       obtain⟨ys,OB,Ed⟩:=ih (off+j.size) (fun g hg=>hl g (o5 _ hg)) hlen yi
       refine⟨zs++ys,?_,j,hj,by rw[cD];omega,?_,?_⟩
       ·have e:cs.drop off=(cs.drop off).take j.size++cs.drop (off+j.size):=by
         rw[←qM,tH]
        rw[e]
        exact Mw.append OB
       ·rw[vh (by omega),gJ (by omega)]
        exact hz2
       ·rw[NH (by omega),CK (by omega)]
        exact Ed
    obtain⟨ys,OB,Ed⟩:=key fields.toList 0 (fun f hfm=>by
     obtain⟨q,hq⟩:=AF hfm
     have hq':fields[q]? =some f:=by simpa using hq
     have bK:q<xs.length:=by rw[BG];exact (oL.1 hq').1
     exact⟨xs[q],by rw[jF q f hq',cC bK]⟩) (cr _) (by rw[JA];exact hok)
    rw[qN] at OB
    exact⟨ys,OB,i,ht,by rw[OB.1,uu],by rw[jI];rw[JA] at Ed;exact Ed⟩
   |arr n e=>
    rw[jI] at hok
    dsimp only at hok
    cases he:tb e with
    |none=>rw[he] at hok;simp at hok
    |some j=>
     rw[he] at hok
     simp only[cm,beq_iff_eq] at hok
     obtain⟨hoe,hz⟩:=hok
     obtain⟨xs,m,_,_,uu,BG,jF⟩:=DataW.trod_array (tok.arr ht jI) h
     rw[tok.cells ht] at uu
     rw[tok.cells he] at jF
     obtain⟨ys,OB,Ed,hy3⟩:=BP (W:=W) (us:=cs) (z:=j.size) (Good:=wtE tb k e) n (by rw[uu,hz]) fun q hq=>by
      have hq':=jF q hq
      rw[cC (by omega)] at hq'
      exact xD tok k _ e _ _ hoe hq'
     exact⟨ys,OB,i,ht,by rw[OB.1,uu],by rw[jI];exact⟨j,he,Ed,hy3⟩⟩
def argD(g:Bool)(xs:List E):D:=match g with
 |true=>.ag (xs.map D.e)
 |false=>.e (xs.headD .any)
theorem arg_rep(tok:TOk P tb){k:Nat}{t:TypeId}{i:TyE}{v:Value}{d:DataW H}{p:List MemPlace}{r:Reach}{b0:Nat}(hok:Ib tb k t=true)(ht:tb t=some i)(t4:Value.okWide P W r b0 t v)(h:DataW.Trod enc P W base sp hd t v d p):
  ∃xs,wtE tb k t xs∧lO W F0 (argD i.ty.agg xs) v:=by
 obtain⟨fuel,hf⟩:=h
 obtain⟨xs,hx,hw⟩:=xD tok k fuel t _ _ hok hf
 refine⟨xs,hw,?_⟩
 have one:v.cells=#[v]→lO W F0 (.e (xs.headD .any)) v:=by
  intro hv
  rw[hv] at hx
  cases xs with
  |nil=>have:=hx.1;simp at this
  |cons y ys=>exact aE.e _ _ (hx.2 0 y v rfl rfl)
 have agg:∀cs,v=.agg cs→lO W F0 (.ag (xs.map D.e)) v:=by
  rintro cs rfl
  have hx':Pw (dq W F0) xs cs.toList:=hx
  refine aE.ag _ cs (by simpa using hx'.1.symm) (fun j u hu=>?_) (fun j d u hd hu=>?_)
  ·have vJ:cs.toList[j]? =some u:=by simpa using hu
   have bK:j<xs.length:=by
    rw[hx'.1]
    exact (fL.1 vJ).1
   exact (hx'.2 j _ u (cC bK) vJ).one
  ·rw[dT] at hd
   cases hxj:xs[j]? with
   |none=>simp[hxj] at hd
   |some y=>
    simp only[hxj,nY,nX] at hd
    subst hd
    exact .e _ _ (hx'.2 j y u hxj (by simpa using hu))
 cases jI:i.ty with
 |int kd=>obtain⟨n,rfl⟩:=okWide_int (tok.int ht jI) t4;exact one rfl
 |bool=>
  obtain⟨dd,Dm,ym⟩:=tok.und ht
  rw[jI] at ym
  have hb:P.underlying t=some .bool:=by cases dd <;> simp[Ty.of] at ym;exact Dm
  obtain⟨b,rfl⟩:=okWide_bool hb t4
  exact one rfl
 |str=>obtain⟨s,rfl⟩:=okWide_string (tok.str ht jI) t4;exact one rfl
 |slice e=>obtain⟨a,l,c,rfl⟩:=okWide_slice (tok.slice ht jI) t4;exact one rfl
 |struct fs=>
  obtain⟨fields,hf,_⟩:=tok.struct ht jI
  obtain⟨cs,rfl,_⟩:=okWide_struct hf t4
  exact agg cs rfl
 |arr n e=>
  have ha:=tok.arr ht jI
  unfold Value.okWide at t4
  rw[ha] at t4
  obtain⟨cs,rfl,_⟩:=t4
  exact agg cs rfl
 |other=>
  cases k with
  |zero=>cases hok
  |succ k=>unfold Ib at hok;rw[ht] at hok;dsimp only at hok;rw[jI] at hok;cases hok
theorem says_of {f:FuncId}{ds:List D}{args:Array Value}(hc:ar P f ds (.e (.lit (.bool true))))(hsz:args.size=ds.length)(vM:∀(j:Nat) (d:D) (u:Value),ds[j]? =some d→args[j]? =some u→lO W F0 d u):
  Calls P f args W fun e w'=>e=.returned (.bool true)∧Below W.heap.size W w':=by
 refine (hc.2 W F0 args (fun _ h=>h.elim) hsz vM).mono ?_
 rintro e w' ⟨v,rfl,qh,hb⟩
 have hr:lO w' F0 (.e (.lit (.bool true))) v:=qh
 exact⟨by rw[aE.lit hr],hb⟩
theorem uU {α:Type}(cells:α→List E)(z:Nat)(good:α→Prop):∀(n:Nat) (ys:List E),ys.length=n*z→(∀i,i<n→∃a,(ys.drop (i*z)).take z=cells a∧good a)→∃l:List α,l.length=n∧ys=l.flatMap cells∧∀a∈l,good a
 |0,ys,hl,_=>⟨[],rfl,by rw[gH] at hl;rw[sK hl];rfl,by simp⟩
 |n+1,ys,hl,h=>by
  rw[qK] at hl
  obtain⟨a,ha,hga⟩:=h 0 (Nat.succ_pos n)
  obtain⟨l,h1,h2,h3⟩:=uU cells z good n (ys.drop z) (by rw[fc];omega) fun i hi=>by
   have:=h (i+1) (by omega)
   rw[qM,show z+i*z=(i+1)*z by rw[qK];omega]
   exact this
  simp only[gH,qN] at ha
  refine⟨a::l,by simp[h1],?_,fun b hb=>?_⟩
  ·rw[nM,←ha,←h2,tH]
  ·rcases kK.1 hb with rfl|hb
   ·exact hga
   ·exact h3 b hb
end
end
section
def Rd(tb:TypeId→Option TyE)(t:TypeId)(d:Nat){α:Type}(c:Cd α)(W:α→Prop):Prop:=∀k xs,wtE tb (k+d) t xs→∃a,xs=c.f a∧W a
theorem Rd.up {tb:TypeId→Option TyE}{t:TypeId}{d:Nat}{α:Type}{c:Cd α}{W:α→Prop}(h:Rd tb t d c W)(m:Nat):Rd tb t (d+m) c W:=fun k xs h'=>h (k+m) xs (by rw[xW,o4 m d];exact h')
def Wi(k:IntKind)(n:Int):Prop:=k.min≤n∧n≤k.max
section
variable {tb:TypeId→Option TyE} {t e:TypeId} {i j:TyE} {d:Nat} {α:Type} {c:Cd α} {W:α→Prop}
theorem rd_I {k:IntKind}(ht:tb t=some i)(hi:i.ty=.int k):Rd tb t 1 (cI k) (Wi k):=by
 intro n xs h
 obtain⟨i',h1,_,h⟩:=h
 rw[ht] at h1;cases h1
 rw[hi] at h
 obtain⟨m,h1,h2⟩:=h
 exact⟨m,h1,by unfold Wi;simpa[Lit.wf] using h2⟩
theorem rd_B(ht:tb t=some i)(hi:i.ty=.bool):Rd tb t 1 cB (fun _=>True):=by
 intro n xs h
 obtain⟨i',h1,_,h⟩:=h
 rw[ht] at h1;cases h1
 rw[hi] at h
 obtain⟨m,h1⟩:=h
 exact⟨m,h1,trivial⟩
theorem rd_L(ht:tb t=some i)(he:tb e=some j)(hc:Rd tb e d c W)(hi:i.ty=.slice e:=by exact rfl)(hz:c.sz=j.size:=by exact rfl):Rd tb t (d+1) (cL c) (fun l=>l.length≤maxLen∧∀a∈l,W a):=by
 intro n xs h
 obtain⟨i',h1,_,h⟩:=h
 rw[ht] at h1;cases h1
 rw[hi] at h
 obtain⟨j',m,ys,h1,h2,h3,h4,h5⟩:=h
 rw[he] at h1;cases h1
 obtain⟨l,h6,h7,h8⟩:=uU c.f j.size W m ys h3 fun i hi=>hc n _ (h5 i hi)
 refine⟨l,?_,by omega,h8⟩
 rw[h2,h7,←h6,←hz];rfl
theorem iv {xs:List E}{n:Nat}{ys zs:List E}(h1:xs.take n=ys)(h2:xs.drop n=zs):xs=ys++zs:=by
 rw[←h1,←h2,tH]
theorem Ux {P:Program}{H:Type}{enc:TypeId×Value→H}{Wd:World}{sp:Nat→Bool}{hd:Bool}{base k:Nat}{v:Value}{dw:DataW H}{p:List MemPlace}{r:Reach}{b0:Nat}(tok:TOk P tb)(hok:Ib tb (k+d) t=true)(ht:tb t=some i)(hc:Rd tb t d c W)(t4:Value.okWide P Wd r b0 t v)(h:DataW.Trod enc P Wd base sp hd t v dw p):
  ∃a,lO Wd F0 (argD i.ty.agg (c.f a)) v∧W a:=by
 obtain⟨xs,h1,h2⟩:=arg_rep tok hok ht t4 h
 obtain⟨a,rfl,h3⟩:=hc k xs h1
 exact⟨a,h2,h3⟩
end
end
theorem rd_A {tb:TypeId→Option TyE}{t e:TypeId}{i j:TyE}{d n:Nat}{α:Type}{c:Cd α}{W:α→Prop}(ht:tb t=some i)(he:tb e=some j)(hc:Rd tb e d c W)(hi:i.ty=.arr n e:=by exact rfl)(hz:c.sz=j.size:=by exact rfl):Rd tb t (d+1) (cA n c) (fun v=>∀a∈v.toList,W a):=by
 intro m xs h
 obtain⟨i',h1,_,h⟩:=h
 rw[ht] at h1;cases h1
 rw[hi] at h
 obtain⟨j',h1,h3,h5⟩:=h
 rw[he] at h1;cases h1
 obtain⟨l,h6,h7,h8⟩:=uU c.f j.size W n xs h3 fun i hi=>hc m _ (h5 i hi)
 exact⟨⟨l.toArray,by simpa using h6⟩,h7,h8⟩
def QR(x:am):Prop:=(True∧True∧∀a∈x.vN.vW.toList,Wi .u32 a)∧(True∧True∧∀a∈x.vD.vW.toList,Wi .u32 a)
theorem R8 {x:ap}(h:∀a∈x.vW.toList,Wi .u32 a):okI x:=fun j hj=>by
 have h2:=h x.vW[j]! (by rw[bI x.vW j hj];simp)
 exact⟨h2.1,by have:x.vW[j]!≤4294967295:=h2.2;omega⟩
theorem okR_of {x:am}(h:QR x):okR x:=⟨R8 h.1.2.2,R8 h.2.2.2⟩
def QL(l:List am):Prop:=l.length≤maxLen∧∀x∈l,QR x
theorem QL.nu {l:List am}(h:QL l):l=(l.map n4).map nv∧(l.map n4).length≤9223372036854775807:=by
 refine⟨(tU fun x hx=>okR_of (h.2 x hx)).symm,?_⟩
 rw[a8]
 exact dU h.1 (by decide)
section
theorem Eb {d:Dic}{w s:Nat}{z:Nu}(hI:Inv d w)(hs:s<w):∀{n:Nat} {p:Int×Nu},n≤d.rows.length→jg d.rows s z n=some p→
  ∀j,j<n→bL d.rows[j]!.c[s]! <0→∃i,i<n∧p.1=(i:Int)∧aw (n6 d.rows[j]!.k (e9 d.rows[j]!.c[s]!))=true∧rv p.2≤rv (n6 d.rows[j]!.k (e9 d.rows[j]!.c[s]!))∧(rv p.2=rv (n6 d.rows[j]!.k (e9 d.rows[j]!.c[s]!))→d.rows[i]!.b≤d.rows[j]!.b)
 |0,p,_,h,j,hj,_=>by omega
 |n+1,p,hn,h,j,hj,n8=>by
  unfold jg at h
  cases hq:jg d.rows s z n with
  |none=>rw[hq] at h;cases h
  |some q=>
   rw[hq] at h
   have ih:=Eb hI hs (show n≤d.rows.length by omega) hq
   have sm:=pl hq
   unfold rR at h
   dsimp only at h
   split at h
   ·rename_i h1
    injection h with h
    subst h
    rcases d6 j n with tK|tK
    ·obtain⟨i,a1,a2⟩:=ih j tK n8
     exact⟨i,by omega,a2⟩
    ·obtain rfl:j=n:=by omega
     omega
   ·rename_i h1
    split at h
    ·cases h
    ·rename_i h2
     have hqg:aw (n6 d.rows[n]!.k (e9 d.rows[n]!.c[s]!))=true:=by simpa using h2
     split at h
     ·rename_i h3
      injection h with h
      subst h
      refine⟨n,by omega,rfl,?_⟩
      dsimp only
      rcases d6 j n with tK|tK
      ·obtain⟨i,a1,a2,a3,a4,a5⟩:=ih j tK n8
       rcases sm with e|⟨i',b1,b2,b3,b4,b5⟩
       ·omega
       obtain rfl:i=i':=by omega
       obtain⟨_,_,c3,c4⟩:=r5 hqg b4
       refine⟨a3,?_⟩
       rcases h3 with h3|h3|⟨h3,h4⟩
       ·omega
       ·have:=c3.1 h3
        exact⟨by grind,fun e=>by grind⟩
       ·have e:=c4.1 h3
        rw[a2,show ((i:Int)).toNat=i by omega] at h4
        exact⟨by grind,fun e2=>by have:=a5 (by rw[←e];exact e2);omega⟩
      ·obtain rfl:j=n:=by omega
       exact⟨hqg,by grind,fun _=>zk _⟩
     ·rename_i h3
      injection h with h
      subst h
      rcases sm with e|⟨i',b1,b2,b3,b4,b5⟩
      ·exact absurd (.inl (by omega)) h3
      rcases d6 j n with tK|tK
      ·obtain⟨i,a1,a2⟩:=ih j tK n8
       exact⟨i,by omega,a2⟩
      ·obtain rfl:j=n:=by omega
       obtain⟨_,_,c3,c4⟩:=r5 hqg b4
       have n1:¬rv (n6 d.rows[j]!.k (e9 d.rows[j]!.c[s]!))<rv q.2:=fun e=>h3 (.inr (.inl (c3.2 e)))
       refine⟨i',by omega,b2,hqg,by grind,fun e=>?_⟩
       have n2:¬d.rows[j]!.b<d.rows[q.1.toNat]!.b:=fun e2=>h3 (.inr (.inr ⟨c4.2 e.symm,e2⟩))
       rw[b2,show ((i':Int)).toNat=i' by omega] at n2
       omega
def sF(d:Dic):Prop:=∀i,i<d.rows.length→0≤rv d.rows[i]!.k
structure Step(d d':Dic)(w:Nat)(i s:Nat):Prop where
 en:ke d.gc=some s
 lv:∃q:Nu,jg d.rows s default d.rows.length=some ((i:Int),q)
 good:gQ d w i s
 eq:d'=gi d i s
def Bas(d:Dic)(t:Nat):Prop:=∃j,j<d.rows.length∧d.rows[j]!.b=(t:Int)
def mY(d:Dic)(t:Nat):Rat:=match d.rows.findIdx? fun r=>decide (r.b=(t:Int)) with|some i=>rv d.rows[i]!.k|none=>0
section
variable {d d':Dic} {w i s:Nat}
theorem Inv.bsol_row(hI:Inv d w){i:Nat}(hi:i<d.rows.length):mY d d.rows[i]!.b.toNat=rv d.rows[i]!.k:=by
 have hr:=hI.rng i hi
 unfold mY
 have:(d.rows.findIdx? fun r=>decide (r.b=((d.rows[i]!.b.toNat:Nat):Int)))=some i:=by
  rw[oI]
  refine⟨hi,?_,fun j hj=>?_⟩
  ·have:d.rows[i].b=d.rows[i]!.b:=by rw[bI d.rows i hi]
   exact aB (by omega)
  ·have h2:d.rows[j].b=d.rows[j]!.b:=by rw[bI d.rows j (by omega)]
   have:=hI.inj i j hi (by omega)
   simp only[r8]
   omega
 rw[this]
theorem lx {t:Nat}(h:¬Bas d t):mY d t=0:=by
 unfold mY
 have:(d.rows.findIdx? fun r=>decide (r.b=(t:Int)))=none:=by
  rw[u9]
  intro r hr
  obtain⟨j,hj,rfl⟩:=w4.1 hr
  refine bp fun e=>h ⟨j,hj,?_⟩
  rw[bI d.rows j hj];exact e
 rw[this]
theorem JF {k:Nu}{c:List Nu}{y:Nat→Rat}(hs:s<w)(h:∀t,t<w→t≠s→y t=0∨c[t]! =nOf 0):bM w k c y=rv k+rv c[s]! *y s:=by
 unfold bM
 rw[ay (g:=fun t=>if t=s then rv c[s]! *y s else 0) fun t ht=>?_,l9 s _ w hs]
 by_cases rl:t=s
 ·rw[ai rl,rl]
 ·rw[ah rl]
  rcases h t ht rl with e|e
  ·rw[e];grind
  ·rw[e,of0.2];grind
theorem Inv.bas(hI:Inv d w){t:Nat}(h:Bas d t):t<w∧d.gc[t]! =nOf 0∧∀i,i<d.rows.length→d.rows[i]!.c[t]! =nOf 0:=by
 obtain⟨j,hj,e⟩:=h
 have hr:=hI.rng j hj
 have et:d.rows[j]!.b.toNat=t:=by omega
 have h1:=hI.zg j hj
 rw[et] at h1
 exact⟨by omega,h1,fun i hi=>by have:=hI.zr i j hi hj;rwa[et] at this⟩
theorem Inv.at(hI:Inv d w)(hs:s<w)(SZ:¬Bas d s){y:Nat→Rat}(hy:Sol d w y)(h0:∀t,t<w→¬Bas d t→t≠s→y t=0):(∀i,i<d.rows.length→y d.rows[i]!.b.toNat=rv d.rows[i]!.k+rv d.rows[i]!.c[s]! *y s)∧bM w d.gk d.gc y=rv d.gk+rv d.gc[s]! *y s:=by
 refine⟨fun i hi=>?_,?_⟩
 ·rw[hy i hi]
  refine JF hs fun t ht rl=>?_
  by_cases hb:Bas d t
  ·exact .inr ((hI.bas hb).2.2 i hi)
  ·exact .inl (h0 t ht hb rl)
 ·refine JF hs fun t ht rl=>?_
  by_cases hb:Bas d t
  ·exact .inr (hI.bas hb).2.1
  ·exact .inl (h0 t ht hb rl)
theorem Inv.uniq(hI:Inv d w){y:Nat→Rat}(hy:Sol d w y)(h0:∀t,t<w→¬Bas d t→y t=0):(∀t,t<w→y t=mY d t)∧bM w d.gk d.gc y=rv d.gk:=by
 have hw:∀(k:Nu) (c:List Nu),(∀t,Bas d t→c[t]! =nOf 0)→bM w k c y=rv k:=fun k c hc=>by
  unfold bM
  rw[ay (g:=fun _=>0) fun t ht=>?_,eI]
  ·grind
  ·by_cases hb:Bas d t
   ·rw[hc t hb,of0.2];grind
   ·rw[h0 t ht hb];grind
 refine⟨fun t ht=>?_,hw _ _ fun t hb=>(hI.bas hb).2.1⟩
 by_cases hb:Bas d t
 ·obtain⟨j,hj,e⟩:=hb
  have et:d.rows[j]!.b.toNat=t:=by omega
  rw[←et,hI.bsol_row hj,hy j hj]
  exact hw _ _ fun t hb=>(hI.bas hb).2.2 j hj
 ·rw[h0 t ht hb,lx hb]
theorem Inv.bsol(hI:Inv d w):Sol d w (mY d):=by
 obtain⟨y,hy,hv⟩:=hI.pick fun _=>0
 have h0:∀t,t<w→¬Bas d t→y t=0:=fun t _ hb=>hv t fun j hj e=>hb ⟨j,hj,e⟩
 obtain⟨h1,_⟩:=hI.uniq hy h0
 intro i hi
 have hr:=hI.rng i hi
 rw[←h1 _ (by omega),hy i hi]
 unfold bM
 congr 1
 exact ay fun t ht=>by rw[h1 t ht]
theorem Inv.bgoal(hI:Inv d w):bM w d.gk d.gc (Go.Proofs.YtaedcknhkjpmlaaGreat.mY d)=rv d.gk:=(hI.uniq hI.bsol fun _ _ hb=>lx hb).2
structure CQ(d d':Dic)(w i s:Nat):Prop where
 hi:i<d.rows.length
 hs:s<w
 inv:Inv d w
 inv':Inv d' w
 gs:0<rv d.gc[s]!
 low:∀t,t<s→rv d.gc[t]!≤0
 cs:rv d.rows[i]!.c[s]! <0
 min:∀j,j<d.rows.length→rv d.rows[j]!.c[s]! <0→rv d.rows[i]!.k / -rv d.rows[i]!.c[s]!≤rv d.rows[j]!.k / -rv d.rows[j]!.c[s]!∧(rv d.rows[i]!.k / -rv d.rows[i]!.c[s]! =rv d.rows[j]!.k / -rv d.rows[j]!.c[s]!→d.rows[i]!.b≤d.rows[j]!.b)
 sol:∀y,Sol d' w y↔Sol d w y
 goal:∀y,Sol d w y→bM w d'.gk d'.gc y=bM w d.gk d.gc y
 ns:¬Bas d s
 len:d'.rows.length=d.rows.length
 bas:∀t,Bas d' t↔t=s∨(Bas d t∧d.rows[i]!.b≠(t:Int))
theorem Step.toF(h:Step d d' w i s):CQ d d' w i s:=by
 obtain⟨q,hl⟩:=h.lv
 have hG:=h.good
 have hI:=hG.inv
 obtain⟨h1,h2,h3⟩:=pD h.en
 have OM:=(bm.1 hI.fine.gg).2
 have hrg:∀j,j<d.rows.length→aw d.rows[j]!.c[s]! =true∧aw d.rows[j]!.k=true:=fun j hj=>⟨(bm.1 (hI.fine.gr j hj)).2 s (by rw[hI.fine.lr j hj];exact hG.hs),(bm.1 (hI.fine.gr j hj)).1⟩
 have hls:=pl hl
 obtain⟨i',a1,a2,a3,a4,a5⟩:∃i',i'<d.rows.length∧(i:Int)=(i':Int)∧bL d.rows[i']!.c[s]! <0∧aw q=true∧q=n6 d.rows[i']!.k (e9 d.rows[i']!.c[s]!):=by
  rcases hls with e|e
  ·dsimp only at e;omega
  ·exact e
 obtain rfl:i=i':=by omega
 have hq:rv q=rv d.rows[i]!.k / -rv d.rows[i]!.c[s]! :=by
  have a4':=a4
  rw[a5] at a4' ⊢
  rw[(t9 a4').2.2.2,lR]
 have SZ:¬Bas d s:=fun⟨j,hj,e⟩=>hG.nb j hj e
 refine⟨a1,hG.hs,hI,by rw[h.eq];exact hG.toInv,(J6 (OM s h1)).1 h2,fun t ht=>?_,(tS (hrg i a1).1).1 a3,fun j hj hc=>?_,fun y=>by rw[h.eq];exact hG.sol y,fun y hy=>by rw[h.eq];exact hG.goal hy,SZ,by rw[h.eq];exact eg,fun t=>?_⟩
 ·have h4:=h3 t ht
  have h5:=J6 (OM t (by omega))
  grind
 ·obtain⟨i',b1,b2,b3,b4,b5⟩:=Eb hI hG.hs (az _) hl j hj ((tS (hrg j hj).1).2 hc)
  obtain rfl:i=i':=by omega
  rw[(t9 b3).2.2.2,lR,hq] at b4 b5
  exact⟨b4,b5⟩
 ·rw[h.eq]
  unfold Bas
  rw[eg]
  constructor
  ·rintro⟨j,hj,e⟩
   rw[pi hj] at e
   by_cases zD:j=i
   ·rw[ai zD] at e;exact .inl (by omega)
   ·rw[ah zD] at e
    exact .inr ⟨⟨j,hj,e⟩,fun e2=>zD (hI.inj j i hj a1 (by omega))⟩
  ·rintro (e|⟨⟨j,hj,e⟩,e2⟩)
   ·exact⟨i,a1,by rw[pi a1,ai rfl,e]⟩
   ·refine⟨j,hj,?_⟩
    rw[pi hj,ah (fun e3=>e2 (by rw[←e3];exact e))]
    exact e
theorem CQ.move(h:CQ d d' w i s):rv d'.gk=rv d.gk+rv d.gc[s]! *mY d' s∧mY d' s=rv d.rows[i]!.k / -rv d.rows[i]!.c[s]!∧∀j,j<d.rows.length→mY d' d.rows[j]!.b.toNat=rv d.rows[j]!.k+rv d.rows[j]!.c[s]! *mY d' s:=by
 have hy:=(h.sol (mY d')).1 h.inv'.bsol
 have hr:=h.inv.rng i h.hi
 have h0:∀t,t<w→¬Bas d t→t≠s→mY d' t=0:=fun t _ hb rl=>lx fun oU=>by
  rcases (h.bas t).1 oU with e|⟨e,_⟩
  ·exact rl e
  ·exact hb e
 obtain⟨h1,h2⟩:=h.inv.at h.hs h.ns hy h0
 have h3:=h.goal _ hy
 rw[h.inv'.bgoal,h2] at h3
 have h4:mY d' d.rows[i]!.b.toNat=0:=lx fun oU=>by
  rcases (h.bas _).1 oU with e|⟨_,e⟩
  ·exact h.ns ⟨i,h.hi,by omega⟩
  ·exact e (by omega)
 have h5:=h1 i h.hi
 rw[h4] at h5
 have hc:=h.cs
 refine⟨h3,?_,h1⟩
 rw[iI]
 have:mY d' s=(rv d.rows[i]!.k+rv d.rows[i]!.c[s]! *mY d' s)*(-rv d.rows[i]!.c[s]!)⁻¹+mY d' s:=by rw[←h5];grind
 grind
theorem CG {a b:Rat}(ha:0≤a)(hb:0<b):0≤a / b:=by
 rw[iI]
 have:0≤b⁻¹:=Rat.le_of_lt (Rat.inv_pos.2 hb)
 exact BX ha this
theorem CQ.feas(h:CQ d d' w i s)(hf:sF d):sF d'∧rv d.gk≤rv d'.gk:=by
 obtain⟨m1,m2,m3⟩:=h.move
 have hc:=h.cs
 have hk:=hf i h.hi
 have hr0:0≤mY d' s:=by rw[m2];exact CG hk (by grind)
 refine⟨fun j hj=>?_,?_⟩
 ·rw[h.len] at hj
  have Cv:j<d'.rows.length:=by rw[h.len];exact hj
  have hr:=h.inv'.rng j Cv
  rw[←h.inv'.bsol_row Cv]
  rcases (h.bas d'.rows[j]!.b.toNat).1 ⟨j,Cv,by omega⟩ with e|⟨⟨n,hn,e⟩,_⟩
  ·rw[e];exact hr0
  ·have Gv:=h.inv.rng n hn
   have:d'.rows[j]!.b.toNat=d.rows[n]!.b.toNat:=by omega
   rw[this,m3 n hn]
   have xy:=hf n hn
   rcases (Rat.le_total:0≤rv d.rows[n]!.c[s]!∨rv d.rows[n]!.c[s]!≤0) with Do|Do
   ·have:=BX Do hr0;grind
   ·by_cases hz:rv d.rows[n]!.c[s]! =0
    ·rw[hz];grind
    ·have n8:rv d.rows[n]!.c[s]! <0:=by grind
     have hm:=(h.min n hn n8).1
     rw[←m2] at hm
     have h6:=Ns hm (show 0≤-rv d.rows[n]!.c[s]! by grind)
     have h7:-rv d.rows[n]!.c[s]! *(rv d.rows[n]!.k / -rv d.rows[n]!.c[s]!)=rv d.rows[n]!.k:=by rw[iI];grind
     rw[h7] at h6
     grind
 ·have:=BX (Rat.le_of_lt h.gs) hr0
  grind
end
end
section
theorem Mt {a:Nat}{P:(b:Nat)→a≤b→Prop}(base:P a (az a))(succ:∀(b:Nat) (h:a≤b),P b h→P (b+1) (Nat.le_succ_of_le h))(b:Nat)(h:a≤b):P b h:=by
 obtain⟨k,rfl⟩:=Nat.exists_eq_add_of_le h
 induction k with
 |zero=>exact base
 |succ k ih=>exact succ (a+k) (te a k) (ih _)
theorem flip {f:Nat→Prop}{a b:Nat}(FV:a≤b)(ha:f a)(hb:¬f b):∃u,a≤u∧u<b∧f u∧¬f (u+1):=by
 induction b,FV using Mt with
 |base=>exact absurd ha hb
 |succ n hn ih=>
  by_cases h:f n
  ·exact⟨n,hn,ew n,h,hb⟩
  ·obtain⟨u,h1,h2,h3⟩:=ih h
   exact⟨u,h1,by omega,h3⟩
theorem TC {f:Nat→Prop}{w:Nat}(h:∃t,t<w∧f t):∃t,t<w∧f t∧∀r,r<w→f r→r≤t:=by
 induction w with
 |zero=>obtain⟨t,ht,_⟩:=h;omega
 |succ n ih=>
  by_cases hn:f n
  ·exact⟨n,ew n,hn,fun r hr _=>by omega⟩
  ·obtain⟨t,ht,hf⟩:=h
   have:t≠n:=fun e=>hn (by rw[←e];exact hf)
   obtain⟨t',h1,h2,h3⟩:=ih ⟨t,by omega,hf⟩
   exact⟨t',by omega,h2,fun r hr OE=>by
    have:r≠n:=fun e=>hn (by rw[←e];exact OE)
    exact h3 r (by omega) OE⟩
section
variable {D:Nat→Dic} {I S:Nat→Nat} {w n:Nat}
structure xp(D:Nat→Dic)(I S:Nat→Nat)(w n:Nat):Prop where
 step:∀u,u<n→CQ (D u) (D (u+1)) w (I u) (S u)
 inv:∀u,u≤n→Inv (D u) w
 feas:sF (D 0)
theorem xp.sol(h:xp D I S w n):∀u,u≤n→∀y,Sol (D u) w y↔Sol (D 0) w y
 |0,_,_=>Iff.rfl
 |u+1,hu,y=>((h.step u (by omega)).sol y).trans (h.sol u (by omega) y)
theorem xp.goal(h:xp D I S w n):∀u,u≤n→∀y,Sol (D 0) w y→bM w (D u).gk (D u).gc y=bM w (D 0).gk (D 0).gc y
 |0,_,_,_=>rfl
 |u+1,hu,y,hy=>((h.step u (by omega)).goal y ((h.sol u (by omega) y).2 hy)).trans (h.goal u (by omega) y hy)
theorem xp.feas'(h:xp D I S w n):∀u,u≤n→sF (D u)
 |0,_=>h.feas
 |u+1,hu=>((h.step u (by omega)).feas (h.feas' u (by omega))).1
theorem xp.up(h:xp D I S w n){a:Nat}:∀b,a≤b→b≤n→rv (D a).gk≤rv (D b).gk:=by
 intro b FV
 induction b,FV using Mt with
 |base=>intro _;grind
 |succ b _ ih=>
  intro hb
  have:=ih (by omega)
  have:=((h.step b (by omega)).feas (h.feas' b (by omega))).2
  grind
theorem xp.bland(h:xp D I S w n){a b:Nat}(FV:a<b)(hb:b≤n):¬∀t,Bas (D a) t↔Bas (D b) t:=by
 intro Am
 have hIa:=h.inv a (by omega)
 have hIb:=h.inv b hb
 -- qu goal is bM qu same
 have hyb:Sol (D a) w (mY (D b)):=(h.sol a (by omega) _).2 ((h.sol b hb _).1 hIb.bsol)
 obtain⟨hu1,hu2⟩:=hIa.uniq hyb fun t _ hn=>lx fun e=>hn ((Am t).2 e)
 have hz:rv (D a).gk=rv (D b).gk:=by
  rw[←hu2,h.goal a (by omega) _ ((h.sol b hb _).1 hIb.bsol),←h.goal b hb _ ((h.sol b hb _).1 hIb.bsol),hIb.bgoal]
 have hzz:∀u,a≤u→u≤b→rv (D u).gk=rv (D a).gk:=fun u h1 h2=>by
  have e1:=h.up (a:=a) u h1 (by omega)
  have e2:=h.up (a:=u) b h2 hb
  grind
 -- nothing moves
 have hmv:∀u,a≤u→u<b→mY (D (u+1)) (S u)=0∧∀t,t<w→mY (D (u+1)) t=mY (D u) t:=fun u h1 h2=>by
  have hs:=h.step u (by omega)
  obtain⟨m1,m2,m3⟩:=hs.move
  rw[hzz (u+1) (by omega) (by omega),hzz u h1 (by omega)] at m1
  have hg:=hs.gs
  have h0:mY (D (u+1)) (S u)=0:=by
   have:rv (D u).gc[S u]! *mY (D (u+1)) (S u)=0:=by grind
   rcases I5.1 this with e|e
   ·grind
   ·exact e
  refine⟨h0,fun t ht=>?_⟩
  refine ((h.inv u (by omega)).uniq ((hs.sol _).1 (h.inv (u+1) (by omega)).bsol) fun r hr hn=>?_).1 t ht
  by_cases FM:r=S u
  ·rw[FM];exact h0
  ·exact lx fun e=>by
    rcases (hs.bas r).1 e with e|⟨e,_⟩
    ·exact FM e
    ·exact hn e
 have hbs:∀u,a≤u→u≤b→∀t,t<w→mY (D u) t=mY (D a) t:=by
  intro u h1
  induction u,h1 using Mt with
  |base=>intro _ _ _;rfl
  |succ u h1 ih=>
   intro h2 t ht
   rw[(hmv u h1 (by omega)).2 t ht]
   exact ih (by omega) t ht
 -- qu variables that come and go
 let TN:Nat→Prop:=fun t=>(∃u,a≤u∧u≤b∧Bas (D u) t)∧∃u,a≤u∧u≤b∧¬Bas (D u) t
 have hf0:∀t,t<w→TN t→mY (D a) t=0:=fun t ht hf=>by
  obtain⟨_,u,h1,h2,h3⟩:=hf
  rw[←hbs u h1 h2 t ht];exact lx h3
 have hex:∃t,t<w∧TN t:=by
  have hs:=h.step a (by omega)
  exact⟨S a,hs.hs,⟨a+1,by omega,by omega,(hs.bas _).2 (.inl rfl)⟩,⟨a,az _,by omega,hs.ns⟩⟩
 obtain⟨t,Is,⟨⟨p,p1,p2,p3⟩,q,q1,q2,q3⟩,hmax⟩:=TC hex
 -- where it leaves,and where it enters
 have hl:∃u,a≤u∧u<b∧Bas (D u) t∧¬Bas (D (u+1)) t:=by
  by_cases hba:Bas (D a) t
  ·obtain⟨u,h1,h2,h3⟩:=flip (f:=fun u=>Bas (D u) t) q1 hba q3
   exact⟨u,h1,by omega,h3⟩
  ·have hbb:¬Bas (D b) t:=fun e=>hba ((Am t).2 e)
   obtain⟨u,h1,h2,h3⟩:=flip (f:=fun u=>Bas (D u) t) p2 p3 hbb
   exact⟨u,by omega,h2,h3⟩
 have hen:∃v,a≤v∧v<b∧¬Bas (D v) t∧Bas (D (v+1)) t:=by
  by_cases hba:Bas (D a) t
  ·have hbb:Bas (D b) t:=(Am t).1 hba
   obtain⟨u,h1,h2,h3,h4⟩:=flip (f:=fun u=>¬Bas (D u) t) q2 q3 (fun e=>e hbb)
   exact⟨u,by omega,h2,h3,BW.1 h4⟩
  ·obtain⟨u,h1,h2,h3,h4⟩:=flip (f:=fun u=>¬Bas (D u) t) p1 hba (fun e=>e p3)
   exact⟨u,h1,by omega,h3,BW.1 h4⟩
 obtain⟨u,u1,u2,u3,u4⟩:=hl
 obtain⟨v,v1,v2,v3,v4⟩:=hen
 have MA:=h.step u (by omega)
 have hsv:=h.step v (by omega)
 have hIu:=h.inv u (by omega)
 have hIv:=h.inv v (by omega)
 have hsvt:S v=t:=by
  rcases (hsv.bas t).1 v4 with e|⟨e,_⟩
  ·exact e.symm
  ·exact absurd e v3
 have It:(D u).rows[I u]!.b=(t:Int):=by
  apply E2
  intro e
  exact u4 ((MA.bas t).2 (.inr ⟨u3,e⟩))
 have hsf:TN (S u):=⟨⟨u+1,by omega,by omega,(MA.bas _).2 (.inl rfl)⟩,⟨u,u1,by omega,MA.ns⟩⟩
 have G7:S u<t:=by
  have:=hmax (S u) MA.hs hsf
  have:S u≠t:=fun e=>MA.ns (by rw[e];exact u3)
  omega
 have mC:∀r,r<t→rv (D v).gc[r]!≤0:=fun r hr=>hsv.low r (by rw[hsvt];exact hr)
 have hgt:0<rv (D v).gc[t]! :=by have:=hsv.gs;rwa[hsvt] at this
 -- qu numbers that fit D u with qu entering variable free
 have hline:∀l:Rat,∃y,Sol (D u) w y∧y (S u)=l∧∀r,r<w→¬Bas (D u) r→r≠S u→y r=0:=fun l=>by
  obtain⟨y,hy,hv⟩:=hIu.pick fun r=>if r=S u then l else 0
  refine⟨y,hy,?_,fun r hr hb FM=>?_⟩
  ·rw[hv (S u) fun j hj e=>MA.ns ⟨j,hj,e⟩,ai rfl]
  ·rw[hv r fun j hj e=>hb ⟨j,hj,e⟩,ah FM]
 obtain⟨y0,a1,a2,a3⟩:=hline 0
 obtain⟨y1,b1,b2,b3⟩:=hline 1
 obtain⟨c1,c2⟩:=hIu.at MA.hs MA.ns a1 a3
 obtain⟨d1,d2⟩:=hIu.at MA.hs MA.ns b1 b3
 have g0:bM w (D v).gk (D v).gc y0=rv (D u).gk:=by
  rw[h.goal v (by omega) _ ((h.sol u (by omega) _).1 a1),←h.goal u (by omega) _ ((h.sol u (by omega) _).1 a1),c2,a2];grind
 have g1:bM w (D v).gk (D v).gc y1=rv (D u).gk+rv (D u).gc[S u]! :=by
  rw[h.goal v (by omega) _ ((h.sol u (by omega) _).1 b1),←h.goal u (by omega) _ ((h.sol u (by omega) _).1 b1),d2,b2];grind
 have OP:aG w (fun r=>rv (D v).gc[r]! *(y1 r - y0 r))=rv (D u).gc[S u]! :=by
  have:(fun r=>rv (D v).gc[r]! *(y1 r - y0 r))=fun r=>rv (D v).gc[r]! *y1 r - rv (D v).gc[r]! *y0 r:=by funext r;grind
  rw[this,zW (fun r=>rv (D v).gc[r]! *y1 r) (fun r=>rv (D v).gc[r]! *y0 r)]
  unfold bM at g0 g1
  grind
 -- a term is positive
 have hpos:∃r,r<w∧0<rv (D v).gc[r]! *(y1 r - y0 r):=by
  apply E2
  intro MG
  have:aG w (fun r=>rv (D v).gc[r]! *(y1 r - y0 r))≤aG w (fun _=>0):=HW fun r hr=>by
   have:¬0<rv (D v).gc[r]! *(y1 r - y0 r):=fun e=>MG ⟨r,hr,e⟩
   grind
  rw[OP,eI] at this
  have:=MA.gs
  grind
 obtain⟨r,hrw,hr⟩:=hpos
 have hrne:r≠S u:=fun e=>by
  rw[e,b2,a2] at hr
  have:=mC (S u) G7
  grind
 have hrb:Bas (D u) r:=by
  apply E2
  intro e
  rw[a3 r hrw e hrne,b3 r hrw e hrne] at hr
  grind
 have hgr0:rv (D v).gc[r]!≠0:=fun e=>by rw[e] at hr;grind
 have hrnv:¬Bas (D v) r:=fun e=>hgr0 (by rw[(hIv.bas e).2.1];exact of0.2)
 have hrf:TN r:=⟨⟨u,u1,by omega,hrb⟩,⟨v,v1,by omega,hrnv⟩⟩
 obtain⟨j,hj,hjb⟩:=hrb
 have hjr:(D u).rows[j]!.b.toNat=r:=by omega
 have hd:y1 r - y0 r=rv (D u).rows[j]!.c[S u]! :=by
  have e1:=d1 j hj
  have e0:=c1 j hj
  rw[hjr,b2] at e1
  rw[hjr,a2] at e0
  grind
 rw[hd] at hr
 have hcI:=MA.cs
 have hrt:r≠t:=fun e=>by
  have:j=I u:=hIu.inj j (I u) hj MA.hi (by rw[hjb,It,e])
  rw[this,e] at hr
  have:=Rat.mul_pos hgt (show 0< -rv (D u).rows[I u]!.c[S u]! by grind)
  grind
 have hrlt:r<t:=by have:=hmax r hrw hrf;omega
 have hgneg:rv (D v).gc[r]! <0:=by have:=mC r hrlt;grind
 have hcneg:rv (D u).rows[j]!.c[S u]! <0:=by
  apply E2
  intro e
  have:=BX (show 0≤-rv (D v).gc[r]! by grind) (show 0≤rv (D u).rows[j]!.c[S u]! by grind)
  grind
 -- both rows have qu constant 0
 have hk:∀(i:Nat) (x:Nat),i<(D u).rows.length→(D u).rows[i]!.b=(x:Int)→x<w→TN x→rv (D u).rows[i]!.k=0:=fun i x hi e hx hf=>by
  rw[←hIu.bsol_row hi,show (D u).rows[i]!.b.toNat=x by omega,hbs u u1 (by omega) x hx]
  exact hf0 x hx hf
 have k1:=hk j r hj hjb hrw hrf
 have k2:=hk (I u) t MA.hi It Is ⟨⟨p,p1,p2,p3⟩,q,q1,q2,q3⟩
 have Ek:=(MA.min j hj hcneg).2
 rw[k1,k2,iI,iI] at Ek
 have:=Ek (by grind)
 rw[It,hjb] at this
 omega
end
end
abbrev Col:=Nat→Rat
def sgd(j:Nat):Rat:=if j % 2=0 then 1 else -1
theorem RE(j:Nat):sgd (j+1)=-sgd j:=by
 unfold sgd
 by_cases h:j % 2=0
 ·rw[ai h,ah (by omega)]
 ·rw[ah h,ai (by omega)];grind
def skip(j i:Nat):Nat:=if i<j then i else i+1
def kH(f:Nat→Col)(j:Nat):Nat→Col:=fun c r=>f (skip j c) (r+1)
def det:Nat→(Nat→Col)→Rat
 |0,_=>1
 |n+1,f=>aG (n+1) fun j=>sgd j*(f j 0*det n (kH f j))
def fm(f:Nat→Col)(a:Nat)(u:Col):Nat→Col:=fun c=>if c=a then u else f c
theorem ub:∀{n:Nat} {f g:Nat→Col},(∀c,c<n→∀r,r<n→f c r=g c r)→det n f=det n g
 |0,_,_,_=>rfl
 |n+1,f,g,h=>by
  unfold det
  refine ay fun j hj=>?_
  rw[h j hj 0 (by omega),ub (f:=kH f j) (g:=kH g j) fun c hc r hr=>?_]
  unfold kH skip
  split
  ·exact h _ (by omega) _ (by omega)
  ·exact h _ (by omega) _ (by omega)
def place(j a:Nat):Nat:=if a<j then a else a - 1
theorem LZ {j a:Nat}(h:j≠a):skip j (place j a)=a:=by
 unfold skip place
 by_cases h1:a<j
 ·rw[ai h1,ai h1]
 ·rw[ah h1,ah (by omega)];omega
theorem Oc {j a c:Nat}(h:j≠a):skip j c=a↔c=place j a:=by unfold skip place;split <;> split <;> omega
theorem skip_ne(j c:Nat):skip j c≠j:=by unfold skip;split <;> omega
theorem R2 {n j a:Nat}(hj:j<n+1)(ha:a<n+1)(h:j≠a):place j a<n:=by unfold place;split <;> omega
theorem Bs(f:Nat→Col){j a:Nat}(h:j≠a)(u:Col):kH (fm f a u) j=fm (kH f j) (place j a) fun r=>u (r+1):=by
 funext c r
 unfold kH fm
 by_cases hc:c=place j a
 ·rw[ai ((Oc h).2 hc),ai hc]
 ·rw[ah (fun e=>hc ((Oc h).1 e)),ah hc]
theorem rN(f:Nat→Col)(a:Nat)(u:Col):kH (fm f a u) a=kH f a:=by
 funext c r
 unfold kH fm
 rw[ah (skip_ne a c)]
theorem Ay(x:Rat):∀{n:Nat} (f:Nat→Col) (a:Nat) (u v:Col),a<n→det n (fm f a fun r=>x*u r+v r)=x*det n (fm f a u)+det n (fm f a v)
 |0,_,a,_,_,h=>by omega
 |n+1,f,a,u,v,h=>by
  unfold det
  rw[←eV,←li (fun j=>x*(sgd j*(fm f a u j 0*det n (kH (fm f a u) j)))) (fun j=>sgd j*(fm f a v j 0*det n (kH (fm f a v) j)))]
  refine ay fun j hj=>?_
  by_cases sH:j=a
  ·subst sH
   rw[rN,rN,rN]
   unfold fm
   rw[ai rfl,ai rfl,ai rfl]
   grind
  ·rw[Bs f sH,Bs f sH,Bs f sH]
   have:=Ay x (kH f j) (place j a) (fun r=>u (r+1)) (fun r=>v (r+1)) (R2 hj h sH)
   rw[this]
   unfold fm
   rw[ah sH,ah sH,ah sH]
   grind
theorem Rw {f:Nat→Rat}{a:Nat}:∀{n:Nat},a+1<n→(∀j,j<n→j≠a→j≠a+1→f j=0)→aG n f=f a+f (a+1):=by
 intro n h h0
 have e:aG n f=aG n fun j=>(if j=a then f a else 0)+(if j=a+1 then f (a+1) else 0):=ay fun j hj=>by
  by_cases h1:j=a
  ·subst h1;rw[ai rfl,ah (by omega)];grind
  ·by_cases h2:j=a+1
   ·subst h2;rw[ah (by omega),ai rfl];grind
   ·rw[ah h1,ah h2,h0 j hj h1 h2];grind
 rw[e,li (fun j=>if j=a then f a else 0) (fun j=>if j=a+1 then f (a+1) else 0),l9 a _ n (by omega),l9 (a+1) _ n h]
theorem IL:∀{n:Nat} (f:Nat→Col) (a:Nat),a+1<n→(∀r,f a r=f (a+1) r)→det n f=0
 |0,_,a,h,_=>by omega
 |n+1,f,a,h,he=>by
  unfold det
  rw[Rw h fun j hj h1 h2=>?_]
  ·have:kH f a=kH f (a+1):=by
    funext c r
    unfold kH skip
    by_cases hc:c=a
    ·subst hc
     rw[ah (by omega),ai (by omega)]
     exact (he _).symm
    ·by_cases qU:c<a
     ·rw[ai qU,ai (by omega)]
     ·rw[ah qU,ah (by omega)]
   rw[this,he 0,RE]
   grind
  ·rw[IL (kH f j) (place j a) ?_ fun r=>?_]
   ·grind
   ·unfold place;split <;> omega
   ·have e1:skip j (place j a)=a:=LZ h1
    have e2:skip j (place j a+1)=a+1:=by unfold skip place;split <;> split <;> omega
    unfold kH
    rw[e1,e2]
    exact he _
theorem A6(f:Nat→Col){a b:Nat}(h:a≠b)(u v:Col):fm (fm f a u) b v=fm (fm f b v) a u:=by
 funext c
 unfold fm
 by_cases h1:c=a <;> by_cases h2:c=b <;> simp[h1,h2,h] <;> (try omega)
theorem T2 {n:Nat}(f:Nat→Col)(a:Nat)(h:a+1<n)(u v:Col):det n (fm (fm f a u) (a+1) v)=-det n (fm (fm f a v) (a+1) u):=by
 have z:∀t:Col,det n (fm (fm f a t) (a+1) t)=0:=fun t=>IL _ a h fun r=>by
  unfold fm
  rw[ah (by omega),ai rfl,ai rfl]
 have h0:=z fun r=>1*u r+v r
 have l1:∀t:Col,det n (fm (fm f a t) (a+1) fun r=>1*u r+v r)=1*det n (fm (fm f a t) (a+1) u)+det n (fm (fm f a t) (a+1) v):=fun t=>Ay 1 _ _ _ _ h
 have l2:∀t:Col,det n (fm (fm f a fun r=>1*u r+v r) (a+1) t)=1*det n (fm (fm f a u) (a+1) t)+det n (fm (fm f a v) (a+1) t):=fun t=>by
  have ne:a≠a+1:=by omega
  rw[A6 f ne _ t,A6 f ne _ t,A6 f ne _ t]
  exact Ay 1 _ _ _ _ (by omega)
 rw[l1,l2,l2,z,z] at h0
 grind
theorem A5(f:Nat→Col)(a:Nat):fm f a (f a)=f:=by
 funext c
 unfold fm
 split
 ·rename_i h;rw[h]
 ·rfl
theorem EF {n:Nat}:∀(k:Nat) (f:Nat→Col) (a:Nat),a+1+k<n→(∀r,f a r=f (a+1+k) r)→det n f=0
 |0,f,a,h,he=>IL f a h he
 |k+1,f,a,h,he=>by
  have e:f=fm (fm f (a+1+k) (f (a+1+k))) (a+1+k+1) (f (a+1+k+1)):=by
   rw[A5]
   exact (A5 f _).symm
  rw[e,T2 f (a+1+k) (by omega),EF k _ a (by omega) fun r=>?_]
  ·grind
  ·unfold fm
   rw[ah (by omega),ah (by omega),ah (by omega),ai rfl]
   exact he r
theorem det_eq0 {n:Nat}(f:Nat→Col){a b:Nat}(ha:a<n)(hb:b<n)(FV:a≠b)(he:∀r,f a r=f b r):det n f=0:=by
 rcases d6 a b with h|h
 ·exact EF (b - a - 1) f a (by omega) fun r=>by rw[show a+1+(b - a - 1)=b by omega];exact he r
 ·exact EF (a - b - 1) f b (by omega) fun r=>by rw[show b+1+(a - b - 1)=a by omega];exact (he r).symm
theorem T1 {n:Nat}(f:Nat→Col){a:Nat}(ha:a<n):det n (fm f a fun _=>0)=0:=by
 have:=Ay 1 f a (fun _=>0) (fun _=>0) ha
 have e:(fun r:Nat=>(1:Rat)*(fun _=>(0:Rat)) r+(fun _=>(0:Rat)) r)=fun _=>0:=by funext r;grind
 rw[e] at this
 grind
theorem O5 {n:Nat}(f:Nat→Col){a:Nat}(ha:a<n)(x:Nat→Rat)(g:Nat→Col):∀m,det n (fm f a fun r=>aG m fun i=>x i*g i r)=aG m fun i=>x i*det n (fm f a (g i))
 |0=>T1 f ha
 |m+1=>by
  have e:(fun r=>aG (m+1) fun i=>x i*g i r)=fun r=>x m*g m r+aG m fun i=>x i*g i r:=by
   funext r
   show aG m (fun i=>x i*g i r)+x m*g m r=_
   grind
  rw[e,Ay (x m) f a (g m) (fun r=>aG m fun i=>x i*g i r) ha,O5 f ha x g m]
  show _=aG m (fun i=>x i*det n (fm f a (g i)))+x m*det n (fm f a (g m))
  grind
theorem M5 {n:Nat}(f:Nat→Col){j:Nat}(hj:j<n)(x:Nat→Rat)(v:Col)(h:∀r,r<n→v r=aG n fun i=>x i*f i r):det n (fm f j v)=x j*det n f:=by
 rw[ub (g:=fm f j fun r=>aG n fun i=>x i*f i r) fun c hc r hr=>?_,O5 f hj x f n]
 ·rw[ay (g:=fun i=>if i=j then x j*det n f else 0) fun i hi=>?_,l9 j _ n hj]
  by_cases Cw:i=j
  ·subst Cw;rw[ai rfl,A5]
  ·rw[ah Cw,det_eq0 (fm f j (f i)) (a:=i) (b:=j) hi hj Cw fun r=>by unfold fm;rw[ah Cw,ai rfl]]
   grind
 ·unfold fm
  split
  ·exact h r hr
  ·rfl
def IsI(x:Rat)(K:Nat):Prop:=∃z:Int,x=(z:Rat)∧z.natAbs≤K
theorem IsI.mono {x:Rat}{K L:Nat}(h:IsI x K)(hl:K≤L):IsI x L:=by obtain⟨z,h1,h2⟩:=h;exact⟨z,h1,by omega⟩
theorem IsI.add {x y:Rat}{K L:Nat}(hx:IsI x K)(hy:IsI y L):IsI (x+y) (K+L):=by
 obtain⟨a,rfl,h1⟩:=hx
 obtain⟨b,rfl,h2⟩:=hy
 exact⟨a+b,by rw[Rat.intCast_add],by have:=Int.natAbs_add_le a b;omega⟩
theorem IsI.mul {x y:Rat}{K L:Nat}(hx:IsI x K)(hy:IsI y L):IsI (x*y) (K*L):=by
 obtain⟨a,rfl,h1⟩:=hx
 obtain⟨b,rfl,h2⟩:=hy
 exact⟨a*b,by rw[Rat.intCast_mul],by rw[oJ];exact lf h1 h2⟩
theorem IsI.neg {x:Rat}{K:Nat}(hx:IsI x K):IsI (-x) K:=by
 obtain⟨a,rfl,h1⟩:=hx
 exact⟨-a,by rw[Rat.intCast_neg],by omega⟩
theorem IsI.zero(K:Nat):IsI 0 K:=⟨0,rfl,by simp⟩
theorem IsI.one {K:Nat}(h:0<K):IsI 1 K:=⟨1,rfl,h⟩
theorem IsI.sum {f:Nat→Rat}{K:Nat}:∀{n:Nat},(∀i,i<n→IsI (f i) K)→IsI (aG n f) (n*K)
 |0,_=>IsI.zero _
 |n+1,h=>by
  have:=(IsI.sum (f:=f) (n:=n) fun i hi=>h i (by omega)).add (h n (by omega))
  exact this.mono (by rw[bR];omega)
theorem IsI.sgd(j:Nat):IsI (sgd j) 1:=by
 unfold Go.Proofs.YtaedcknhkjpmlaaGreat.sgd
 split
 ·exact⟨1,rfl,by decide⟩
 ·exact⟨-1,rfl,by decide⟩
def BL:Nat→Nat
 |0=>1
 |n+1=>(n+1)*BL n
theorem IK {K:Nat}:∀{n:Nat} {f:Nat→Col},(∀c,c<n→∀r,r<n→IsI (f c r) K)→IsI (det n f) (BL n*K ^ n)
 |0,_,_=>⟨1,rfl,by simp[BL]⟩
 |n+1,f,h=>by
  unfold det
  refine (IsI.sum (K:=K*(BL n*K ^ n)) fun j hj=>?_).mono ?_
  ·have h1:=IK (n:=n) (f:=kH f j) fun c hc r hr=>by
    unfold kH skip
    split
    ·exact h _ (by omega) _ (by omega)
    ·exact h _ (by omega) _ (by omega)
   exact ((IsI.sgd j).mul ((h j hj 0 (by omega)).mul h1)).mono (by rw[eU];exact az _)
  ·rw[show BL (n+1)=(n+1)*BL n from rfl,cG]
   refine Nat.le_of_eq ?_
   rw[zt K,bA K (K ^ n),fa]
section
structure QD where
 b:Nat→Nat
 k:Nat→Rat
 c:Nat→Nat→Rat
def QD.turn(q:QD)(at' s t:Nat):Rat:=if t=q.b at' then 1 / q.c at' s else if t=s then 0 else -q.c at' t / q.c at' s
def QD.piv(q:QD)(at' s:Nat):QD:=
  ⟨fun i=>if i=at' then s else q.b i,fun i=>if i=at' then -q.k at' / q.c at' s else q.k i+q.c i s*(-q.k at' / q.c at' s),
   fun i t=>if i=at' then q.turn at' s t else if t=s then 0 else q.c i t+q.c i s*q.turn at' s t⟩
structure VI(M:Nat→Col)(k0:Col)(q:QD)(m w:Nat):Prop where
 k:∀r,r<m→k0 r=aG m fun i=>q.k i*M (q.b i) r
 c:∀t,t<w→(∀j,j<m→q.b j≠t)→∀r,r<m→-M t r=aG m fun i=>q.c i t*M (q.b i) r
 nz:det m (fun i=>M (q.b i))≠0
structure QOk(q:QD)(m w:Nat):Prop where
 z:∀i j,i<m→j<m→q.c i (q.b j)=0
 inj:∀i j,i<m→j<m→q.b i=q.b j→i=j
theorem N8 {f:Nat→Rat}{m a:Nat}(h:a<m):aG m (fun i=>if i=a then 0 else f i)=aG m f - f a:=by
 rw[wC f a 0 h];grind
section
variable {M:Nat→Col} {k0:Col} {q:QD} {m w at' s:Nat}
theorem VI.piv(h:VI M k0 q m w)(ho:QOk q m w)(hat:at'<m)(hs:s<w)(tJ:∀j,j<m→q.b j≠s)(hp:q.c at' s≠0):VI M k0 (q.piv at' s) m w:=by
 have hS:∀r,r<m→aG m (fun i=>if i=at' then 0 else q.c i s*M (q.b i) r)=-M s r - q.c at' s*M (q.b at') r:=fun r hr=>by
  rw[N8 (f:=fun i=>q.c i s*M (q.b i) r) hat,←h.c s hs tJ r hr]
 -- any line of qu new dictionary
 have key:∀(x:Rat) (f:Nat→Rat) (r:Nat),r<m→aG m (fun i=>(if i=at' then x else f i+q.c i s*x)*M (if i=at' then s else q.b i) r)=aG m (fun i=>f i*M (q.b i) r) - f at'*M (q.b at') r - x*(q.c at' s*M (q.b at') r):=fun x f r hr=>by
  have e:∀i,i<m→(if i=at' then x else f i+q.c i s*x)*M (if i=at' then s else q.b i) r=(if i=at' then x*M s r else 0)+((if i=at' then 0 else f i*M (q.b i) r)+x*(if i=at' then 0 else q.c i s*M (q.b i) r)):=fun i _=>by
   by_cases hi:i=at'
   ·rw[ai hi,ai hi,ai hi,ai hi,ai hi];grind
   ·rw[ah hi,ah hi,ah hi,ah hi,ah hi];grind
  rw[ay e,li (fun i=>if i=at' then x*M s r else 0) (fun i=>(if i=at' then 0 else f i*M (q.b i) r)+x*(if i=at' then 0 else q.c i s*M (q.b i) r)),l9 at' _ m hat,
   li (fun i=>if i=at' then 0 else f i*M (q.b i) r) (fun i=>x*(if i=at' then 0 else q.c i s*M (q.b i) r)),eV,hS r hr,N8 (f:=fun i=>f i*M (q.b i) r) hat]
  grind
 refine⟨fun r hr=>?_,fun t ht QY r hr=>?_,?_⟩
 ·have:=key (-q.k at' / q.c at' s) q.k r hr
  refine bB ?_ this.symm
  rw[←h.k r hr,iI]
  have:q.c at' s*(q.c at' s)⁻¹=1:=wZ _ hp
  grind
 ·have rl:t≠s:=fun e=>QY at' hat (by show (if at'=at' then s else _)=t;rw[ai rfl,e])
  have e1:(fun i=>(q.piv at' s).c i t*M ((q.piv at' s).b i) r)=fun i=>(if i=at' then q.turn at' s t else q.c i t+q.c i s*q.turn at' s t)*M (if i=at' then s else q.b i) r:=by
   funext i
   show (if i=at' then q.turn at' s t else if t=s then 0 else q.c i t+q.c i s*q.turn at' s t)*_=_
   rw[ah rl];rfl
  rw[e1,key (q.turn at' s t) (fun i=>q.c i t) r hr]
  have hc:q.c at' s*(q.c at' s)⁻¹=1:=wZ _ hp
  by_cases hb:t=q.b at'
  ·have hz:aG m (fun i=>q.c i t*M (q.b i) r)=0:=by
    rw[ay (g:=fun _=>0) fun i hi=>by rw[hb,ho.z i at' hi hat];grind,eI]
   rw[hz]
   unfold QD.turn
   rw[ai hb,iI,hb,ho.z at' at' hat hat]
   grind
  ·have hold:∀j,j<m→q.b j≠t:=fun j hj e=>by
    by_cases sH:j=at'
    ·exact hb (by rw[←e,sH])
    ·exact QY j hj (by show (if j=at' then s else q.b j)=t;rw[ah sH];exact e)
   rw[←h.c t ht hold r hr]
   unfold QD.turn
   rw[ah hb,ah rl,iI]
   grind
 ·have e:(fun i=>M ((q.piv at' s).b i))=fm (fun i=>M (q.b i)) at' (M s):=by
   funext i
   show M (if i=at' then s else q.b i)=_
   unfold fm
   split <;> rfl
  rw[e,M5 (fun i=>M (q.b i)) hat (fun i=>-q.c i s) (M s) fun r hr=>?_]
  ·intro h0
   rcases I5.1 h0 with h1|h1
   ·exact hp (by grind)
   ·exact h.nz h1
  ·have:=h.c s hs tJ r hr
   rw[ay (g:=fun i=>(-1)*(q.c i s*M (q.b i) r)) fun i _=>by grind,eV,←this]
   grind
theorem QOk.piv(ho:QOk q m w)(hat:at'<m)(tJ:∀j,j<m→q.b j≠s):QOk (q.piv at' s) m w:=by
 have hbs:∀i,i≠at'→(q.piv at' s).b i=q.b i:=fun i hi=>ah hi
 have hba:(q.piv at' s).b at'=s:=ai rfl
 have oQ:∀i,(q.piv at' s).c i s=0:=fun i=>by
  show (if i=at' then q.turn at' s s else if s=s then 0 else _)=0
  by_cases hi:i=at'
  ·rw[ai hi];unfold QD.turn;rw[ah (fun e=>tJ at' hat e.symm),ai rfl]
  ·rw[ah hi,ai rfl]
 have hcj:∀i j,i<m→j<m→j≠at'→(q.piv at' s).c i (q.b j)=0:=fun i j hi hj sH=>by
  have ht:q.turn at' s (q.b j)=0:=by
   unfold QD.turn
   rw[ah (fun e=>sH (ho.inj j at' hj hat e)),ah (tJ j hj),ho.z at' j hat hj,iI]
   grind
  show (if i=at' then q.turn at' s (q.b j) else if q.b j=s then 0 else q.c i (q.b j)+q.c i s*q.turn at' s (q.b j))=0
  rw[ht,ah (tJ j hj),ho.z i j hi hj]
  split <;> grind
 refine⟨fun i j hi hj=>?_,fun i j hi hj e=>?_⟩
 ·by_cases sH:j=at'
  ·rw[sH,hba];exact oQ i
  ·rw[hbs j sH];exact hcj i j hi hj sH
 ·by_cases ro:i=at' <;> by_cases sH:j=at'
  ·omega
  ·rw[ro,hba,hbs j sH] at e;exact absurd e.symm (tJ j hj)
  ·rw[sH,hba,hbs i ro] at e;exact absurd e (tJ i hi)
  ·rw[hbs i ro,hbs j sH] at e;exact ho.inj i j hi hj e
def Dn(D:Rat)(K:Nat)(x:Rat):Prop:=IsI (D*x) K
theorem VI.bound {β:Nat}(h:VI M k0 q m w)(ho:QOk q m w)(hM:∀t,t<w→∀r,r<m→IsI (M t r) β)(hk0:∀r,r<m→IsI (k0 r) β)(hb:∀i,i<m→q.b i<w):
  IsI (det m fun i=>M (q.b i)) (BL m*β ^ m)∧(∀i,i<m→Dn (det m fun i=>M (q.b i)) (BL m*β ^ m) (q.k i))∧∀i t,i<m→t<w→Dn (det m fun i=>M (q.b i)) (BL m*β ^ m) (q.c i t):=by
 have hu:∀(i:Nat) (v:Col),(∀r,r<m→IsI (v r) β)→IsI (det m (fm (fun i=>M (q.b i)) i v)) (BL m*β ^ m):=fun i v hv=>IK fun c hc r hr=>by
  unfold fm
  split
  ·exact hv r hr
  ·exact hM _ (hb c hc) r hr
 refine⟨IK fun c hc r hr=>hM _ (hb c hc) r hr,fun i hi=>?_,fun i t hi ht=>?_⟩
 ·have:=M5 (fun i=>M (q.b i)) hi q.k k0 h.k
  unfold Dn
  rw[BY,←this]
  exact hu i k0 hk0
 ·by_cases QY:∀j,j<m→q.b j≠t
  ·have:=M5 (fun i=>M (q.b i)) hi (fun i=>-q.c i t) (M t) fun r hr=>by
    have:=h.c t ht QY r hr
    rw[ay (g:=fun i=>(-1)*(q.c i t*M (q.b i) r)) fun i _=>by grind,eV,←this]
    grind
   unfold Dn
   have e:det m (fun i=>M (q.b i))*q.c i t=-(det m (fm (fun i=>M (q.b i)) i (M t))):=by rw[this];grind
   rw[e]
   exact (hu i (M t) (hM t ht)).neg
  ·obtain⟨j,hj⟩:=Np.1 QY
   obtain⟨OH,Cu⟩:=No.1 hj
   have Cu:=BW.1 Cu
   unfold Dn
   rw[←Cu,ho.z i j hi OH,qI]
   exact IsI.zero _
end
theorem Dn.parts {D x:Rat}{K:Nat}(hD:IsI D K)(h0:D≠0)(h:Dn D K x):x.num.natAbs≤K∧x.den≤K:=by
 obtain⟨d,rfl,hd⟩:=hD
 obtain⟨n,hn,hnK⟩:=h
 have wi:d≠0:=fun e=>h0 (by rw[e];rfl)
 have hx:x=Rat.divInt n d:=by
  rw[Rat.divInt_eq_div,←hn]
  rw[iI]
  have:=wZ _ h0
  grind
 obtain⟨k,l,e1,e2,e3,e4,e5⟩:=oy (n:=n) wi
 have hg:0<Nat.gcd n.natAbs d.natAbs:=Nat.gcd_pos_of_pos_right _ (by omega)
 have a1:(Rat.divInt n d).num.natAbs≤n.natAbs:=by
  rw[e4,oJ]
  have:d.sign.natAbs=1:=by
   rcases w8 d 0 with h|h|h
   ·rw[w7 h];rfl
   ·exact absurd h wi
   ·rw[sf h];rfl
  rw[this,eU]
  have:n.natAbs=Nat.gcd n.natAbs d.natAbs*k.natAbs:=by
   conv=>lhs;rw[e1]
   rw[oJ,dX]
  rw[this]
  exact vd _ hg
 have a2:(Rat.divInt n d).den≤d.natAbs:=by
  have:((Rat.divInt n d).den:Int).natAbs=l.natAbs:=by
   rw[e5,oJ]
   have:d.sign.natAbs=1:=by
    rcases w8 d 0 with h|h|h
    ·rw[w7 h];rfl
    ·exact absurd h wi
    ·rw[sf h];rfl
   rw[this,eU]
  rw[dX] at this
  rw[this]
  have e:d.natAbs=Nat.gcd n.natAbs d.natAbs*l.natAbs:=by
   conv=>lhs;rw[e2]
   rw[oJ,dX]
  rw[e]
  exact vd _ hg
 rw[hx]
 exact⟨by omega,by omega⟩
end
section
def Pq(K:Nat)(x:Rat):Prop:=x.num.natAbs≤K∧x.den≤K
theorem Pq.fit {K:Nat}{x:Rat}(h:Pq K x)(hK:K<LIM):lZ x:=⟨dY h.1 hK,dY h.2 hK⟩
theorem rr {x y:Nu}{K L:Nat}(hx:aw x=true)(hy:aw y=true)(h1:Pq K (rv x))(h2:Pq L (rv y))(hKL:2*(K*L)<LIM):aw (jJ x y)=true∧rv (jJ x y)=rv x+rv y:=by
 have e:Ic (ct x.1) (ct y.1)=some (rv x+rv y):=by
  rw[bE.1 hx,bE.1 hy]
  show CV (rv x) (rv y)=_
  unfold CV
  have a1:((rv x).num*(((rv y).den / Nat.gcd (rv x).den (rv y).den:Nat):Int)).natAbs≤K*L:=by
   rw[oJ,dX]
   exact lf h1.1 (dU (oK _ _) h2.2)
  have a2:((rv y).num*(((rv x).den / Nat.gcd (rv x).den (rv y).den:Nat):Int)).natAbs≤K*L:=by
   rw[oJ,dX,bA K L]
   exact lf h2.1 (dU (oK _ _) h1.2)
  have a3:(rv x).den / Nat.gcd (rv x).den (rv y).den*(rv y).den≤K*L:=lf (dU (oK _ _) h1.2) h2.2
  rw[ai]
  generalize (rv x).num*(((rv y).den / Nat.gcd (rv x).den (rv y).den:Nat):Int)=p at a1 ⊢
  generalize (rv y).num*(((rv x).den / Nat.gcd (rv x).den (rv y).den:Nat):Int)=q at a2 ⊢
  generalize (rv x).den / Nat.gcd (rv x).den (rv y).den*(rv y).den=r at a3 ⊢
  generalize K*L=KL at*
  refine⟨?_,?_,?_,?_⟩
  ·exact dY a1 (by omega)
  ·exact dY a2 (by omega)
  ·exact dY (Int.natAbs_add_le p q) (by omega)
  ·omega
 have hf:lZ (rv x+rv y):=Ac (ct x.1) (ct y.1) _ e
 rw[p9,e]
 exact rK hf
theorem pp {x y:Nu}(hx:aw x=true)(hy:aw y=true)(h:lZ (rv x*rv y)):aw (iy x y)=true∧rv (iy x y)=rv x*rv y:=by
 have e:Bo (ct x.1) (ct y.1)=some (rv x*rv y):=by
  rw[bE.1 hx,bE.1 hy]
  exact ai h
 rw[rM,e]
 exact rK h
theorem xB {x y:Nu}(hx:aw x=true)(hy:aw y=true)(h0:rv y≠0)(h:lZ (rv x / rv y)):aw (n6 x y)=true∧rv (n6 x y)=rv x / rv y:=by
 have e:Gp (ct x.1) (ct y.1)=some (rv x / rv y):=by
  rw[bE.1 hx,bE.1 hy]
  have:Mh (some (rv y))=some (rv y)⁻¹:=ah h0
  unfold Gp
  rw[this,iI]
  rw[iI] at h
  exact ai h
 rw[D2,e]
 exact rK h
theorem Dn.add {D x y:Rat}{K L:Nat}(hx:Dn D K x)(hy:Dn D L y):Dn D (K+L) (x+y):=by
 unfold Dn at*
 rw[show D*(x+y)=D*x+D*y by grind]
 exact hx.add hy
theorem Dn.mul {D E x y:Rat}{K L:Nat}(hx:Dn D K x)(hy:Dn E L y):Dn (D*E) (K*L) (x*y):=by
 unfold Dn at*
 rw[show D*E*(x*y)=D*x*(E*y) by grind]
 exact IsI.mul hx hy
theorem Dn.neg {D x:Rat}{K:Nat}(hx:Dn D K x):Dn D K (-x):=by
 unfold Dn at*
 rw[show D*-x=-(D*x) by grind]
 exact IsI.neg hx
theorem Dn.mono {D x:Rat}{K L:Nat}(hx:Dn D K x)(h:K≤L):Dn D L x:=IsI.mono hx h
theorem Dn.int {D a x:Rat}{K L:Nat}(ha:IsI a L)(hx:Dn D K x):Dn D (L*K) (a*x):=by
 unfold Dn at*
 rw[show D*(a*x)=a*(D*x) by grind]
 exact ha.mul hx
theorem Dn.of {D a:Rat}{K L:Nat}(hD:IsI D K)(ha:IsI a L):Dn D (K*L) a:=hD.mul ha
theorem Dn.zero(D:Rat)(K:Nat):Dn D K 0:=by unfold Dn;rw[qI];exact IsI.zero K
theorem Dn.pq {D x:Rat}{K:Nat}(hD:IsI D K)(h0:D≠0)(h:Dn D K x):Pq K x:=Dn.parts hD h0 h
theorem Dn.sum {D:Rat}{f:Nat→Rat}{K:Nat}:∀{n:Nat},(∀i,i<n→Dn D K (f i))→Dn D (n*K) (aG n f)
 |0,_=>by rw[gH];exact Dn.zero D 0
 |n+1,h=>by
  rw[qK]
  exact (Dn.sum fun i hi=>h i (by omega)).add (h n (by omega))
def qd(d:Dic)(w m:Nat):QD:=⟨fun i=>if i<m then d.rows[i]!.b.toNat else w,fun i=>if i<m then rv d.rows[i]!.k else rv d.gk,fun i t=>if t=w then 0 else if i<m then rv d.rows[i]!.c[t]! else rv d.gc[t]!⟩
structure Ok(M:Nat→Col)(k0:Col)(d:Dic)(w m:Nat):Prop where
 inv:Inv d w
 len:d.rows.length=m
 vi:VI M k0 (qd d w m) (m+1) (w+1)
def Kf(m β:Nat):Nat:=BL (m+1)*β ^ (m+1)
structure Bd(M:Nat→Col)(k0:Col)(w m β:Nat):Prop where
 ent:∀t,t<w+1→∀r,r<m+1→IsI (M t r) β
 con:∀r,r<m+1→IsI (k0 r) β
 lim:2*(Kf m β*(Kf m β*Kf m β))<LIM
theorem VI.congr {M:Nat→Col}{k0:Col}{q q':QD}{m w:Nat}(h:VI M k0 q m w)(hb:∀i,i<m→q'.b i=q.b i)(hk:∀i,i<m→q'.k i=q.k i)(hc:∀i,i<m→∀t,t<w→q'.c i t=q.c i t):VI M k0 q' m w:=by
 refine⟨fun r hr=>?_,fun t ht QY r hr=>?_,?_⟩
 ·rw[h.k r hr]
  exact ay fun i hi=>by rw[hb i hi,hk i hi]
 ·rw[h.c t ht (fun j hj=>by rw[←hb j hj];exact QY j hj) r hr]
  exact ay fun i hi=>by rw[hb i hi,hc i hi t ht]
 ·rw[ub (g:=fun i=>M (q.b i)) fun c hc r _=>by rw[hb c hc]]
  exact h.nz
section
variable {M:Nat→Col} {k0:Col} {d:Dic} {w m at' s β:Nat}
theorem z8 {i:Nat}(hi:i<m):(qd d w m).b i=d.rows[i]!.b.toNat:=ai hi
theorem oY:(qd d w m).b m=w:=ah (pF _)
theorem DQ {i:Nat}(hi:i<m):(qd d w m).k i=rv d.rows[i]!.k:=ai hi
theorem J8:(qd d w m).k m=rv d.gk:=ah (pF _)
theorem Bk {i t:Nat}(hi:i<m)(ht:t<w):(qd d w m).c i t=rv d.rows[i]!.c[t]! :=by
 show (if t=w then 0 else if i<m then rv d.rows[i]!.c[t]! else _)=_
 rw[ah (by omega),ai hi]
theorem Cn {t:Nat}(ht:t<w):(qd d w m).c m t=rv d.gc[t]! :=by
 show (if t=w then 0 else if m<m then _ else rv d.gc[t]!)=_
 rw[ah (by omega),ah (pF _)]
theorem DR(i:Nat):(qd d w m).c i w=0:=ai rfl
theorem Inv.qok(h:Inv d w)(hl:d.rows.length=m):QOk (qd d w m) (m+1) (w+1):=by
 have hb:∀j,j<m→(qd d w m).b j<w∧(d.rows[j]!.b=(((qd d w m).b j:Nat):Int)):=fun j hj=>by
  have:=h.rng j (by omega)
  rw[z8 hj]
  omega
 refine⟨fun i j hi hj=>?_,fun i j hi hj e=>?_⟩
 ·rcases d6 j m with LN|LN
  ·have h1:=(hb j LN).1
   rcases d6 i m with pP|pP
   ·rw[Bk pP h1,z8 LN,h.zr i j (by omega) (by omega)];exact of0.2
   ·obtain rfl:i=m:=by omega
    rw[Cn h1,z8 LN,h.zg j (by omega)];exact of0.2
  ·obtain rfl:j=m:=by omega
   rw[oY,DR]
 ·rcases d6 j m with LN|LN <;> rcases d6 i m with pP|pP
  ·have h1:=hb j LN
   have h2:=hb i pP
   exact h.inj i j (by omega) (by omega) (by rw[h1.2,h2.2,e])
  ·obtain rfl:i=m:=by omega
   have:=(hb j LN).1
   rw[oY] at e;omega
  ·obtain rfl:j=m:=by omega
   have:=(hb i pP).1
   rw[oY] at e;omega
  ·omega
theorem Inv.qlt(h:Inv d w)(hl:d.rows.length=m):∀i,i<m+1→(qd d w m).b i<w+1:=fun i hi=>by
 rcases d6 i m with pP|pP
 ·have:=h.rng i (by omega)
  rw[z8 pP];omega
 ·obtain rfl:i=m:=by omega
  rw[oY];omega
theorem Ok.bound(h:Ok M k0 d w m)(hB:Bd M k0 w m β):∃D:Rat,D≠0∧IsI D (Kf m β)∧(∀i,i<m→Dn D (Kf m β) (rv d.rows[i]!.k))∧Dn D (Kf m β) (rv d.gk)∧(∀i t,i<m→t<w→Dn D (Kf m β) (rv d.rows[i]!.c[t]!))∧∀t,t<w→Dn D (Kf m β) (rv d.gc[t]!):=by
 obtain⟨h1,h2,h3⟩:=h.vi.bound (h.inv.qok h.len) hB.ent hB.con (h.inv.qlt h.len)
 refine⟨_,h.vi.nz,h1,fun i hi=>?_,?_,fun i t hi ht=>?_,fun t ht=>?_⟩
 ·have:=h2 i (by omega);rwa[DQ hi] at this
 ·have:=h2 m (by omega);rwa[J8] at this
 ·have:=h3 i t (by omega) (by omega);rwa[Bk hi ht] at this
 ·have:=h3 m t (by omega) (by omega);rwa[Cn ht] at this
theorem put_ok {k:Nu}{c:List Nu}{r1:Row}{K:Nat}(hl:c.length=w)(hg:f5 k c=true)(hs:s<w)(hr:aw r1.k=true)(hrc:∀t,t<w→aw r1.c[t]! =true)(hk:Pq K (rv k))(hc:∀t,t<w→Pq K (rv c[t]!))(pk:Pq (K*K) (rv c[s]! *rv r1.k))(pc:∀t,t<w→Pq (K*K) (rv c[s]! *rv r1.c[t]!))(hK:2*(K*(K*K))<LIM)(hKK:K*K<LIM):
  f5 (gV k c r1 s).k (gV k c r1 s).c=true∧rv (gV k c r1 s).k=rv k+rv c[s]! *rv r1.k∧∀t,t<w→rv (gV k c r1 s).c[t]! =if t=s then 0 else rv c[t]! +rv c[s]! *rv r1.c[t]! :=by
 obtain⟨h1,h2⟩:=bm.1 hg
 have hq:=h2 s (by omega)
 have main:(aw (gV k c r1 s).k=true∧rv (gV k c r1 s).k=rv k+rv c[s]! *rv r1.k)∧∀t,t<w→aw (gV k c r1 s).c[t]! =true∧rv (gV k c r1 s).c[t]! =if t=s then 0 else rv c[t]! +rv c[s]! *rv r1.c[t]! :=by
  unfold gV xb ui
  by_cases h0:bL c[s]! =0
  ·rw[ai h0,ai h0,(zX hq).1 h0]
   refine⟨⟨h1,by dsimp only;grind⟩,fun t ht=>?_⟩
   dsimp only
   rw[eG (by omega)]
   by_cases rl:t=s
   ·rw[ai rl.symm,ai rl];exact of0
   ·rw[ah (fun e=>rl e.symm),ah rl]
    exact⟨h2 t (by omega),by grind⟩
  ·rw[ah h0,ah h0]
   dsimp only
   constructor
   ·obtain⟨g1,g2⟩:=pp hq hr (pk.fit hKK)
    obtain⟨g3,g4⟩:=rr h1 g1 hk (by rw[g2];exact pk) hK
    exact⟨g3,by rw[g4,g2]⟩
   ·intro t ht
    rw[Jh _ _ _ _ _ t (by rw[c7];omega),c7,eG (by omega)]
    by_cases rl:t=s
    ·rw[ah (by omega),ai rl.symm,ai rl];exact of0
    ·rw[ai ⟨by omega,rl⟩,ah (fun e=>rl e.symm),ah rl]
     obtain⟨g1,g2⟩:=pp hq (hrc t ht) ((pc t ht).fit hKK)
     obtain⟨g3,g4⟩:=rr (h2 t (by omega)) g1 (hc t ht) (by rw[g2];exact pc t ht) hK
     exact⟨g3,by rw[g4,g2]⟩
 obtain⟨⟨m1,m2⟩,m3⟩:=main
 refine⟨bm.2 ⟨m1,fun i hi=>(m3 i (by rw[rJ] at hi;omega)).1⟩,m2,fun t ht=>(m3 t ht).2⟩
theorem Ok.pivot(h:Ok M k0 d w m)(hB:Bd M k0 w m β)(hat:at'<m)(hs:s<w)(tJ:∀j,j<d.rows.length→d.rows[j]!.b≠(s:Int))(hp:rv d.rows[at']!.c[s]!≠0):gQ d w at' s∧Ok M k0 (gi d at' s) w m∧lZ (rv d.rows[at']!.k / -rv d.rows[at']!.c[s]!)∧
  (∀i,i<m→rv (gi d at' s).rows[i]!.k=if i=at' then -rv d.rows[at']!.k / rv d.rows[at']!.c[s]! else rv d.rows[i]!.k+rv d.rows[i]!.c[s]! *(-rv d.rows[at']!.k / rv d.rows[at']!.c[s]!)):=by
 have hI:=h.inv
 have hl:=h.len
 have hqo:=hI.qok hl
 have oQ:(qd d w m).c at' s=rv d.rows[at']!.c[s]! :=Bk hat hs
 have hbat:(qd d w m).b at'=d.rows[at']!.b.toNat:=z8 hat
 have hrb:=hI.rng at' (by omega)
 have hsb:d.rows[at']!.b.toNat≠s:=fun e=>tJ at' (by omega) (by omega)
 have hnq:∀j,j<m+1→(qd d w m).b j≠s:=fun j hj=>by
  rcases d6 j m with LN|LN
  ·have h1:=hI.rng j (by omega)
   have h2:=tJ j (by omega)
   rw[z8 LN];omega
  ·obtain rfl:j=m:=by omega
   rw[oY];omega
 have hvi:=h.vi.piv hqo (show at'<m+1 by omega) (show s<w+1 by omega) hnq (by rw[oQ];exact hp)
 have hlt':∀i,i<m+1→((qd d w m).piv at' s).b i<w+1:=fun i hi=>by
  show (if i=at' then s else (qd d w m).b i)<w+1
  split
  ·omega
  ·exact hI.qlt hl i hi
 obtain⟨b1,b2,b3⟩:=hvi.bound (hqo.piv (show at'<m+1 by omega) hnq) hB.ent hB.con hlt'
 have b0:=hvi.nz
 generalize hE:(det (m+1) fun i=>M (((qd d w m).piv at' s).b i))=E at b0 b1 b2 b3
 obtain⟨D,a0,a1,a2,a3,a4,a5⟩:=h.bound hB
 have hlim:=hB.lim
 have hK1:1≤Kf m β:=by
  obtain⟨z,hz,hz2⟩:=a1
  have:z≠0:=fun e=>a0 (by rw[hz,e];rfl)
  omega
 have hKK:Kf m β≤Kf m β*Kf m β:=vd _ hK1
 have hKK2:Kf m β*Kf m β≤Kf m β*(Kf m β*Kf m β):=vd _ hK1
 generalize hKe:BL (m+1)*β ^ (m+1)=K at b1 b2 b3
 have hK':Kf m β=K:=hKe
 rw[hK'] at a1 a2 a3 a4 a5 hlim hK1 hKK hKK2
 have hKl:K<LIM:=by omega
 -- qu a9 row
 have S5:=hI.fine.lr at' (by omega)
 obtain⟨gk,gc⟩:=bm.1 (hI.fine.gr at' (by omega))
 have tk:aw (a9 d.rows[at']! s).k=true∧rv (a9 d.rows[at']! s).k=-rv d.rows[at']!.k / rv d.rows[at']!.c[s]! :=by
  have e:((qd d w m).piv at' s).k at'=-rv d.rows[at']!.k / rv d.rows[at']!.c[s]! :=by
   show (if at'=at' then -(qd d w m).k at' / (qd d w m).c at' s else _)=_
   rw[ai rfl,oQ,DQ hat]
  have hf:=(Dn.pq (x:=-rv d.rows[at']!.k / rv d.rows[at']!.c[s]!) b1 b0 (by rw[←e];exact b2 at' (by omega))).fit hKl
  have:=xB (x:=e9 d.rows[at']!.k) (y:=d.rows[at']!.c[s]!) (by rw[rk];exact gk) (gc s (by omega)) hp (by rw[lR];exact hf)
  rw[lR] at this
  exact this
 have tc:∀t,t<w→aw (a9 d.rows[at']! s).c[t]! =true∧rv (a9 d.rows[at']! s).c[t]! =((qd d w m).piv at' s).c at' t:=fun t ht=>by
  have e:((qd d w m).piv at' s).c at' t=if t=d.rows[at']!.b.toNat then 1 / rv d.rows[at']!.c[s]! else if t=s then 0 else -rv d.rows[at']!.c[t]! / rv d.rows[at']!.c[s]! :=by
   show (if at'=at' then (qd d w m).turn at' s t else _)=_
   unfold QD.turn
   rw[ai rfl,oQ,hbat,Bk hat ht]
  have hf:=(Dn.pq b1 b0 (b3 at' t (by omega) (by omega))).fit hKl
  rw[e] at hf ⊢
  rw[uD (by omega) (by omega)]
  by_cases e1:t=d.rows[at']!.b.toNat
  ·rw[ai e1] at hf ⊢
   rw[ai e1]
   have:=xB of1.1 (gc s (by omega)) hp (by rw[of1.2];exact hf)
   rw[of1.2] at this
   exact this
  ·rw[ah e1] at hf ⊢
   rw[ah e1]
   by_cases e2:t=s
   ·rw[ai e2,ai e2];exact of0
   ·rw[ah e2] at hf ⊢
    rw[ah e2]
    have:=xB (x:=e9 d.rows[at']!.c[t]!) (y:=d.rows[at']!.c[s]!) (by rw[rk];exact gc t (by omega)) (gc s (by omega)) hp (by rw[lR];exact hf)
    rw[lR] at this
    exact this
 have tlen:(a9 d.rows[at']! s).c.length=w:=by rw[rD];exact S5
 have hx:(BL (m+1)*β ^ (m+1))=K:=hKe
 -- qu lines
 have hDE:IsI (D*E) (K*K):=a1.mul b1
 have hDE0:D*E≠0:=fun e=>(I5.1 e).elim a0 b0
 have line:∀(k:Nu) (c:List Nu),c.length=w→f5 k c=true→Dn D K (rv k)→(∀t,t<w→Dn D K (rv c[t]!))→
   f5 (gV k c (a9 d.rows[at']! s) s).k (gV k c (a9 d.rows[at']! s) s).c=true∧rv (gV k c (a9 d.rows[at']! s) s).k=rv k+rv c[s]! *rv (a9 d.rows[at']! s).k∧∀t,t<w→rv (gV k c (a9 d.rows[at']! s) s).c[t]! =if t=s then 0 else rv c[t]! +rv c[s]! *rv (a9 d.rows[at']! s).c[t]! :=fun k c h1 h2 h3 h4=>by
  refine put_ok h1 h2 hs tk.1 (fun t ht=>(tc t ht).1) (Dn.pq a1 a0 h3) (fun t ht=>Dn.pq a1 a0 (h4 t ht)) ?_ (fun t ht=>?_) hlim (by omega)
  ·refine Dn.pq hDE hDE0 (Dn.mul (h4 s hs) ?_)
   have:=b2 at' (by omega)
   have e:((qd d w m).piv at' s).k at'=rv (a9 d.rows[at']! s).k:=by
    rw[tk.2]
    show (if at'=at' then -(qd d w m).k at' / (qd d w m).c at' s else _)=_
    rw[ai rfl,oQ,DQ hat]
   rwa[e] at this
  ·refine Dn.pq hDE hDE0 (Dn.mul (h4 s hs) ?_)
   rw[(tc t ht).2]
   exact b3 at' t (by omega) (by omega)
 have Oe:=fun i (hi:i<m)=>line d.rows[i]!.k d.rows[i]!.c (hI.fine.lr i (by omega)) (hI.fine.gr i (by omega)) (a2 i hi) fun t ht=>a4 i t hi ht
 have MW:=line d.gk d.gc hI.fine.lg hI.fine.gg a3 a5
 have hfine:Fine (gi d at' s) w:=by
  refine⟨?_,fun i hi=>?_,MW.1,fun i hi=>?_⟩
  ·show (gV d.gk d.gc _ s).c.length=w
   rw[rJ];exact hI.fine.lg
  ·rw[eg] at hi
   rw[je hi]
   split
   ·exact tlen
   ·show (gV d.rows[i]!.k d.rows[i]!.c _ s).c.length=w
    rw[rJ];exact hI.fine.lr i hi
  ·rw[eg] at hi
   rw[je hi]
   split
   ·exact bm.2 ⟨tk.1,fun t ht=>(tc t (by omega)).1⟩
   ·exact (Oe i (by omega)).1
 have hG:gQ d w at' s:=⟨hI,by omega,hs,tJ,hfine⟩
 have Jy:(gi d at' s).rows.length=m:=by rw[eg];exact hl
 have Rs:rv (a9 d.rows[at']! s).k=-(qd d w m).k at' / (qd d w m).c at' s:=by rw[tk.2,oQ,DQ hat]
 have turnC:∀t,t<w→rv (a9 d.rows[at']! s).c[t]! =(qd d w m).turn at' s t:=fun t ht=>by
  rw[(tc t ht).2]
  exact ai rfl
 have turnW:(qd d w m).turn at' s w=0:=by
  unfold QD.turn
  rw[ah (by rw[hbat];omega),ah (by omega),DR,iI]
  grind
 refine⟨hG,⟨hG.toInv,Jy,hvi.congr (fun i hi=>?_) (fun i hi=>?_) (fun i hi t ht=>?_)⟩,?_,fun i hi=>?_⟩
 ·show _=if i=at' then s else (qd d w m).b i
  rcases d6 i m with pP|pP
  ·rw[z8 pP,z8 pP,pi (by omega)]
   by_cases e:i=at'
   ·rw[ai e,ai e];omega
   ·rw[ah e,ah e]
  ·obtain rfl:i=m:=by omega
   rw[oY,oY,ah (by omega)]
 ·show _=if i=at' then -(qd d w m).k at' / (qd d w m).c at' s else (qd d w m).k i+(qd d w m).c i s*(-(qd d w m).k at' / (qd d w m).c at' s)
  rcases d6 i m with pP|pP
  ·rw[DQ pP,je (by omega)]
   by_cases e:i=at'
   ·rw[ai e,ai e];exact Rs
   ·rw[ah e,ah e,DQ pP,Bk pP hs,←Rs]
    exact (Oe i pP).2.1
  ·obtain rfl:i=m:=by omega
   rw[ah (by omega),J8,J8,Cn hs,←Rs]
   exact MW.2.1
 ·show _=if i=at' then (qd d w m).turn at' s t else if t=s then 0 else (qd d w m).c i t+(qd d w m).c i s*(qd d w m).turn at' s t
  by_cases Is:t=w
  ·rw[Is,DR,turnW,DR,ah (by omega:w≠s)]
   split <;> grind
  have yk:t<w:=by omega
  rw[←turnC t yk]
  rcases d6 i m with pP|pP
  ·rw[Bk pP yk,je (by omega)]
   by_cases e:i=at'
   ·rw[ai e,ai e]
   ·rw[ah e,ah e,Bk pP yk,Bk pP hs]
    exact (Oe i pP).2.2 t yk
  ·obtain rfl:i=m:=by omega
   rw[ah (by omega),Cn yk,Cn yk,Cn hs]
   exact MW.2.2 t yk
 ·have:=(Dn.pq b1 b0 (b2 at' (by omega))).fit hKl
  have e:((qd d w m).piv at' s).k at'=rv d.rows[at']!.k / -rv d.rows[at']!.c[s]! :=by
   show (if at'=at' then -(qd d w m).k at' / (qd d w m).c at' s else _)=_
   rw[ai rfl,oQ,DQ hat,iI,iI]
   have i1:=wZ _ hp
   have i2:=wZ (-rv d.rows[at']!.c[s]!) (fun e=>hp (by grind))
   grind
  rwa[e] at this
 ·rw[je (by omega)]
  by_cases e:i=at'
  ·rw[ai e,ai e];exact tk.2
  ·rw[ah e,ah e,←tk.2]
   exact (Oe i hi).2.1
end
end
section
theorem Mf:∀(K:Nat) (n:Nat) (f:Nat→Nat),(∀u,u≤n→f u<K)→(∀a b,a<b→b≤n→f a≠f b)→n<K
 |0,n,f,h,_=>absurd (h 0 (cr n)) (qJ _)
 |K+1,n,f,h,hi=>by
  by_cases hex:∃u,u≤n∧f u=K
  ·obtain⟨u,hu,hf⟩:=hex
   by_cases hn:n=0
   ·omega
   ·have:=Mf K (n - 1) (fun a=>if a<u then f a else f (a+1)) (fun a ha=>?_) (fun a b FV hb=>?_)
    ·omega
    ·split
     ·rename_i h1
      have h2:=h a (by omega)
      have h3:=hi a u h1 hu
      rw[hf] at h3;omega
     ·rename_i h1
      have h2:=h (a+1) (by omega)
      have h3:=hi u (a+1) (by omega) (by omega)
      rw[hf] at h3;omega
    ·split <;> split
     ·exact hi a b FV (by omega)
     ·exact hi a (b+1) (by omega) (by omega)
     ·omega
     ·exact hi (a+1) (b+1) (by omega) (by omega)
  ·have:=Mf K n f (fun u hu=>by
    have h1:=h u hu
    have:f u≠K:=fun e=>hex ⟨u,hu,e⟩
    omega) hi
   omega
def nr:Nat→Nat→Nat
 |_,0=>1
 |0,_+1=>0
 |n+1,k+1=>nr n k+nr n (k+1)
theorem O8(n:Nat):nr n 0=1:=by cases n <;> rfl
theorem Un(n k:Nat):nr n k≤nr (n+1) k:=by
 cases k with
 |zero=>rw[O8,O8];exact az 1
 |succ k=>exact Nat.le_add_left _ _
open Classical in
def cnt(P:Nat→Prop):Nat→Nat
 |0=>0
 |w+1=>cnt P w+if P w then 1 else 0
def AB(P:Nat→Prop):Nat→Nat
 |0=>0
 |w+1=>open Classical in AB P w+if P w then nr w (cnt P w+1) else 0
theorem pS {P:Nat→Prop}{w:Nat}(h:P w):cnt P (w+1)=cnt P w+1:=by unfold cnt;rw[ai h];cases w <;> rfl
theorem pT {P:Nat→Prop}{w:Nat}(h:¬P w):cnt P (w+1)=cnt P w:=by unfold cnt;rw[ah h];cases w <;> rfl
theorem wQ {P:Nat→Prop}{w:Nat}(h:P w):AB P (w+1)=AB P w+nr w (cnt P w+1):=by unfold AB;rw[ai h];cases w <;> rfl
theorem wS {P:Nat→Prop}{w:Nat}(h:¬P w):AB P (w+1)=AB P w:=by unfold AB;rw[ah h];cases w <;> rfl
theorem Dw(P:Nat→Prop):∀w,AB P w<nr w (cnt P w)
 |0=>Nat.lt_add_one 0
 |w+1=>by
  have h1:=Dw P w
  have h2:=Un w (cnt P w)
  by_cases hp:P w
  ·rw[wQ hp,pS hp]
   show _<nr w (cnt P w)+nr w (cnt P w+1)
   omega
  ·rw[wS hp,pT hp];omega
theorem K1 {P Q:Nat→Prop}:∀{w:Nat},cnt P w=cnt Q w→AB P w=AB Q w→∀t,t<w→(P t↔Q t)
 |0,_,_,t,ht=>by omega
 |w+1,hc,h,t,ht=>by
  have h1:=Dw P w
  have h2:=Dw Q w
  have fin:(P w↔Q w)→cnt P w=cnt Q w→AB P w=AB Q w→(P t↔Q t):=fun e e1 e2=>by
   rcases d6 t w with Is|Is
   ·exact K1 e1 e2 t Is
   ·obtain rfl:t=w:=by omega
    exact e
  by_cases hp:P w <;> by_cases hq:Q w
  ·rw[wQ hp,wQ hq] at h
   rw[pS hp,pS hq] at hc
   have hc:cnt P w=cnt Q w:=by omega
   rw[hc] at h
   exact fin ⟨fun _=>hq,fun _=>hp⟩ hc (by omega)
  ·rw[wQ hp,wS hq] at h
   rw[pS hp,pT hq] at hc
   rw[←hc] at h2
   omega
  ·rw[wS hp,wQ hq] at h
   rw[pT hp,pS hq] at hc
   rw[hc] at h1
   omega
  ·rw[wS hp,wS hq] at h
   rw[pT hp,pT hq] at hc
   exact fin ⟨fun e=>absurd e hp,fun e=>absurd e hq⟩ (by omega) (by omega)
theorem xF {P Q:Nat→Prop}:∀{w:Nat},(∀t,t<w→(P t↔Q t))→cnt P w=cnt Q w
 |0,_=>rfl
 |w+1,h=>by
  have ih:=xF (P:=P) (Q:=Q) (w:=w) fun t ht=>h t (by omega)
  by_cases hp:P w
  ·rw[pS hp,pS ((h w (by omega)).1 hp),ih]
  ·rw[pT hp,pT (fun e=>hp ((h w (by omega)).2 e)),ih]
theorem IP {P:Nat→Prop}{x:Nat}(hx:¬P x):∀{w:Nat},x<w→cnt (fun t=>t=x∨P t) w=cnt P w+1
 |0,h=>by omega
 |w+1,h=>by
  by_cases hw:w=x
  ·rw[pS (P:=fun t=>t=x∨P t) (.inl hw),pT (P:=P) (by rw[hw];exact hx),xF (Q:=P) fun t ht=>⟨fun e=>e.elim (fun e=>by omega) id,.inr⟩]
  ·have ih:=IP (P:=P) hx (show x<w by omega)
   by_cases hp:P w
   ·rw[pS (P:=fun t=>t=x∨P t) (.inr hp),pS hp,ih]
   ·rw[pT (P:=fun t=>t=x∨P t) (fun e=>e.elim hw hp),pT hp,ih]
theorem least {f:Nat→Prop}:∀{n:Nat},f n→∃u,u≤n∧f u∧∀v,v<u→¬f v
 |0,h=>⟨0,az 0,h,fun v hv=>by omega⟩
 |n+1,h=>by
  by_cases hex:∃v,v≤n∧f v
  ·obtain⟨v,hv,hf⟩:=hex
   obtain⟨u,h1,h2,h3⟩:=least hf
   exact⟨u,by omega,h2,h3⟩
  ·exact⟨n+1,az _,h,fun v hv hf=>hex ⟨v,by omega,hf⟩⟩
def nf(d:Dic):Option (Nat×Nat):=match ke d.gc with
 |none=>none
 |some s=>match jg d.rows s default d.rows.length with
  |none=>none
  |some p=>if p.1<0 then none else some (p.1.toNat,s)
def nx(d:Dic):Dic:=match nf d with
 |none=>d
 |some p=>gi d p.1 p.2
def itD:Nat→Dic→Dic
 |0,d=>d
 |u+1,d=>nx (itD u d)
theorem BB:∀(u:Nat) (d:Dic),itD (u+1) d=itD u (nx d)
 |0,_=>rfl
 |u+1,d=>by
  show nx (itD (u+1) d)=nx (itD u (nx d))
  rw[BB u d]
section
variable {M:Nat→Col} {k0:Col} {d:Dic} {w m β:Nat}
theorem Ok.leav(h:Ok M k0 d w m)(hB:Bd M k0 w m β){s:Nat}(he:ke d.gc=some s)(z:Nu):∀n,n≤m→jg d.rows s z n≠none
 |0,_=>by unfold jg;exact Nn _
 |n+1,hn=>by
  have hI:=h.inv
  have hl:=h.len
  obtain⟨h1,h2,_⟩:=pD he
  rw[hI.fine.lg] at h1
  have ih:=h.leav hB he z n (by omega)
  unfold jg
  cases hq:jg d.rows s z n with
  |none=>exact absurd hq ih
  |some p=>
   dsimp only
   unfold rR
   dsimp only
   by_cases hc:0≤bL d.rows[n]!.c[s]!
   ·rw[ai hc];exact Nn _
   ·rw[ah hc]
    obtain⟨g1,g2⟩:=bm.1 (hI.fine.gr n (by omega))
    have g3:=g2 s (by rw[hI.fine.lr n (by omega)];exact h1)
    have n8:=(tS g3).1 (by omega)
    obtain⟨_,_,hf,_⟩:=h.pivot hB (show n<m by omega) h1 (hI.enter (by omega)) (by grind)
    have hg:=(xB (x:=d.rows[n]!.k) (y:=e9 d.rows[n]!.c[s]!) g1 (by rw[rk];exact g3) (by rw[lR];grind) (by rw[lR];exact hf)).1
    rw[ah (by rw[hg];simp)]
    split <;> exact Nn _
theorem Ok.next(h:Ok M k0 d w m)(hB:Bd M k0 w m β){i s:Nat}(hn:nf d=some (i,s)):Step d (gi d i s) w i s∧Ok M k0 (gi d i s) w m∧i<m∧s<w:=by
 have hI:=h.inv
 have hl:=h.len
 unfold nf at hn
 cases he:ke d.gc with
 |none=>rw[he] at hn;cases hn
 |some s'=>
  rw[he] at hn
  dsimp only at hn
  cases hq:jg d.rows s' default d.rows.length with
  |none=>rw[hq] at hn;cases hn
  |some p=>
   rw[hq] at hn
   dsimp only at hn
   by_cases hp:p.1<0
   ·rw[ai hp] at hn;cases hn
   ·rw[ah hp] at hn
    injection hn with hn
    injection hn with e1 e2
    subst e2
    obtain⟨h1,h2,_⟩:=pD he
    rw[hI.fine.lg] at h1
    rcases pl hq with h3|⟨i',hi,h3,h4,_⟩
    ·omega
    obtain rfl:i=i':=by omega
    have g3:=(bm.1 (hI.fine.gr i (by omega))).2 s' (by rw[hI.fine.lr i (by omega)];exact h1)
    have n8:=(tS g3).1 h4
    obtain⟨a1,a2,_⟩:=h.pivot hB (show i<m by omega) h1 (hI.enter (by omega)) (by grind)
    exact⟨⟨he,⟨p.2,by rw[hq,←h3]⟩,a1,rfl⟩,a2,by omega,h1⟩
theorem gQ.pivotP {at' s:Nat}(h:gQ d w at' s)(hp:d.piv<d.most):dV d at' s=(0,gi d at' s):=by
 obtain⟨h1,h2,h3⟩:=Bn d at' s h.hat (by omega)
 have h4:=h3.2 ⟨h.fine.gg,fun i hi=>h.fine.gr i (by rw[eg];exact hi)⟩
 rw[←h1,←h4]
theorem Ok.nx(h:Ok M k0 d w m)(hB:Bd M k0 w m β):Ok M k0 (nx d) w m:=by
 unfold Go.Proofs.YtaedcknhkjpmlaaGreat.nx
 cases hn:nf d with
 |none=>exact h
 |some p=>exact (h.next hB (i:=p.1) (s:=p.2) hn).2.1
theorem Ok.it(h:Ok M k0 d w m)(hB:Bd M k0 w m β):∀u,Ok M k0 (itD u d) w m
 |0=>h
 |u+1=>(h.it hB u).nx hB
theorem CQ.cnt {d':Dic}{i s:Nat}(h:CQ d d' w i s):cnt (Bas d') w=cnt (Bas d) w:=by
 have hr:=h.inv.rng i h.hi
 have e1:Go.Proofs.YtaedcknhkjpmlaaGreat.cnt (Bas d') w=Go.Proofs.YtaedcknhkjpmlaaGreat.cnt (fun t=>t=s∨(Bas d t∧d.rows[i]!.b≠(t:Int))) w:=xF fun t _=>h.bas t
 have e2:Go.Proofs.YtaedcknhkjpmlaaGreat.cnt (Bas d) w=Go.Proofs.YtaedcknhkjpmlaaGreat.cnt (fun t=>t=d.rows[i]!.b.toNat∨(Bas d t∧d.rows[i]!.b≠(t:Int))) w:=xF fun t _=>by
  constructor
  ·intro hb
   by_cases e:t=d.rows[i]!.b.toNat
   ·exact .inl e
   ·exact .inr ⟨hb,by omega⟩
  ·rintro (e|⟨hb,_⟩)
   ·exact⟨i,h.hi,by omega⟩
   ·exact hb
 rw[e1,e2,IP (fun e=>h.ns e.1) h.hs,IP (fun e=>e.2 (by omega)) (by omega)]
theorem Ok.stops(h:Ok M k0 d w m)(hB:Bd M k0 w m β)(hf:sF d){N:Nat}(hN:∀k,nr w k≤N):∃n,n<N∧nf (itD n d)=none∧∀u,u<n→nf (itD u d)≠none:=by
 have chain:∀n,(∀u,u<n→nf (itD u d)≠none)→xp (fun u=>itD u d) (fun u=>((nf (itD u d)).getD (0,0)).1) (fun u=>((nf (itD u d)).getD (0,0)).2) w n:=fun n hn=>by
  refine⟨fun u hu=>?_,fun u _=>(h.it hB u).inv,hf⟩
  cases hq:nf (itD u d) with
  |none=>exact absurd hq (hn u hu)
  |some p=>
   have e:itD (u+1) d=gi (itD u d) p.1 p.2:=by
    show Go.Proofs.YtaedcknhkjpmlaaGreat.nx (itD u d)=_
    unfold Go.Proofs.YtaedcknhkjpmlaaGreat.nx
    rw[hq]
   dsimp only[Option.getD]
   rw[e]
   exact ((h.it hB u).next hB (i:=p.1) (s:=p.2) hq).1.toF
 have hex:∃n,n<N∧nf (itD n d)=none:=by
  apply E2
  intro MG
  have jF:∀u,u<N→nf (itD u d)≠none:=fun u hu e=>MG ⟨u,hu,e⟩
  have hc:=chain N jF
  have hcnt:∀u,u≤N→cnt (Bas (itD u d)) w=cnt (Bas d) w:=fun u=>by
   induction u with
   |zero=>intro _;rfl
   |succ u ih=>exact fun hu=>((hc.step u (by omega)).cnt).trans (ih (by omega))
  have:=Mf N N (fun u=>AB (Bas (itD u d)) w) (fun u _=>bJ (Dw _ _) (hN _)) fun a b FV hb e=>by
   refine hc.bland FV hb fun t=>?_
   by_cases ht:t<w
   ·exact K1 ((hcnt a (by omega)).trans (hcnt b hb).symm) e t ht
   ·exact⟨fun hh=>absurd ((hc.inv a (by omega)).bas hh).1 ht,fun hh=>absurd ((hc.inv b hb).bas hh).1 ht⟩
  omega
 obtain⟨n,hn,Gv⟩:=hex
 obtain⟨u,h1,h2,h3⟩:=least (f:=fun u=>nf (itD u d)=none) Gv
 exact⟨u,by omega,h2,h3⟩
theorem Ok.feas1(h:Ok M k0 d w m)(hB:Bd M k0 w m β)(hf:sF d){i s:Nat}(hn:nf d=some (i,s)):sF (gi d i s):=((h.next hB hn).1.toF.feas hf).1
theorem Ok.improveF(hB:Bd M k0 w m β):∀(n:Nat) (d:Dic) (f:Nat),Ok M k0 d w m→sF d→(∀u,u<n→nf (itD u d)≠none)→nf (itD n d)=none→d.piv+n≤d.most→n<f→
  ∃s d',g6 f d=((s,0),d')∧Ok M k0 d' w m∧sF d'∧q9 d d' w∧d'.piv=d.piv+n∧((s=-1∧∀t,t<w→rv d'.gc[t]!≤0)∨∃s':Nat,s=(s':Int)∧s'<w∧0<rv d'.gc[s']!∧∀i,i<m→0≤rv d'.rows[i]!.c[s']!)
 |0,d,f,h,hf,_,hn,hp,bK=>by
  obtain⟨f,rfl⟩:∃f',f=f'+1:=⟨f - 1,by omega⟩
  have hI:=h.inv
  have hl:=h.len
  have OM:=(bm.1 hI.fine.gg).2
  have hn:nf d=none:=hn
  unfold nf at hn
  unfold Go.Proofs.YtaedcknhkjpmlaaGreat.g6
  cases he:ke d.gc with
  |none=>
   refine⟨-1,d,rfl,h,hf,q9.refl d w,by omega,.inl ⟨rfl,fun t ht=>?_⟩⟩
   have h1:=M0 he (t:=t) (by rw[hI.fine.lg];exact ht)
   have h2:=J6 (OM t (by rw[hI.fine.lg];exact ht))
   grind
  |some s=>
   rw[he] at hn
   dsimp only at hn ⊢
   obtain⟨h1,h2,_⟩:=pD he
   have h2:=(J6 (OM s h1)).1 h2
   rw[hI.fine.lg] at h1
   cases hq:jg d.rows s default d.rows.length with
   |none=>exact absurd hq (by rw[hl];exact h.leav hB he default m (az _))
   |some p=>
    rw[hq] at hn
    dsimp only at hn ⊢
    by_cases hp0:p.1<0
    ·rw[ai hp0]
     refine⟨s,d,rfl,h,hf,q9.refl d w,by omega,.inr ⟨s,rfl,h1,h2,fun i hi=>?_⟩⟩
     have g3:=(bm.1 (hI.fine.gr i (by omega))).2 s (by rw[hI.fine.lr i (by omega)];exact h1)
     by_cases hc:bL d.rows[i]!.c[s]! <0
     ·obtain⟨i',_,e,_⟩:=Eb hI h1 (az _) hq i (by omega) hc
      omega
     ·have:=tS g3
      grind
    ·rw[ah hp0] at hn;cases hn
 |n+1,d,f,h,hf,jF,hn,hp,bK=>by
  obtain⟨f,rfl⟩:∃f',f=f'+1:=⟨f - 1,by omega⟩
  have h0:nf d≠none:=jF 0 (by omega)
  cases hq:nf d with
  |none=>exact absurd hq h0
  |some p=>
   obtain⟨i,s⟩:=p
   obtain⟨G7,hok,hi,hs⟩:=h.next hB hq
   have hf':=h.feas1 hB hf hq
   have rm:Go.Proofs.YtaedcknhkjpmlaaGreat.nx d=gi d i s:=by unfold Go.Proofs.YtaedcknhkjpmlaaGreat.nx;rw[hq]
   obtain⟨s',d',e1,e2,e3,e4,e5,e6⟩:=Ok.improveF hB n (gi d i s) f hok hf' (fun u hu=>by rw[←rm,←BB];exact jF (u+1) (by omega)) (by rw[←rm,←BB];exact hn) (by show d.piv+1+n≤d.most;omega) (by omega)
   refine⟨s',d',?_,e2,e3,G7.good.same.trans e4,by rw[e5];show d.piv+1+(n:Int)=_;omega,e6⟩
   have SO:=G7.good.pivotP (by omega)
   unfold Go.Proofs.YtaedcknhkjpmlaaGreat.g6
   unfold nf at hq
   cases he:ke d.gc with
   |none=>rw[he] at hq;cases hq
   |some s2=>
    rw[he] at hq
    dsimp only at hq ⊢
    cases hl:jg d.rows s2 default d.rows.length with
    |none=>rw[hl] at hq;cases hq
    |some p=>
     rw[hl] at hq
     dsimp only at hq ⊢
     by_cases hp0:p.1<0
     ·rw[ai hp0] at hq;cases hq
     ·rw[ah hp0] at hq ⊢
      injection hq with hq
      injection hq with q1 q2
      rw[q1,q2,SO]
      exact e1
theorem Ok.improve(h:Ok M k0 d w m)(hB:Bd M k0 w m β)(hf:sF d){N:Nat}(hN:∀k,nr w k≤N)(hp:d.piv+N≤d.most):
  ∃s d',aR d=((s,0),d')∧Ok M k0 d' w m∧sF d'∧q9 d d' w∧d'.piv≤d.piv+N∧((s=-1∧∀t,t<w→rv d'.gc[t]!≤0)∨∃s':Nat,s=(s':Int)∧s'<w∧0<rv d'.gc[s']!∧∀i,i<m→0≤rv d'.rows[i]!.c[s']!):=by
 obtain⟨n,h1,h2,h3⟩:=h.stops hB hf hN
 obtain⟨s,d',e1,e2,e3,e4,e5,e6⟩:=Ok.improveF hB n d ((d.most - d.piv).toNat+1) h hf h3 h2 (by omega) (by omega)
 exact⟨s,d',e1,e2,e3,e4,by omega,e6⟩
end
end
section
def BT:Nat:=131072
def KT:Nat:=2 ^ 132
def ZT:Nat:=2 ^ 154
structure Sz(m nn:Nat)(A B C:List Nu):Prop where
 m6:m≤6
 n5:nn≤5
 lA:A.length=m*nn
 lB:B.length=m
 lC:C.length=nn
 gA:∀i,i<m*nn→aw A[i]! =true∧IsI (rv A[i]!) BT
 gB:∀i,i<m→aw B[i]! =true∧IsI (rv B[i]!) BT
 gC:∀k,k<nn→aw C[k]! =true∧IsI (rv C[k]!) BT
theorem Ly {m:Nat}(h:m≤6):Kf m BT≤KT:=by
 have:m=0∨m=1∨m=2∨m=3∨m=4∨m=5∨m=6:=by omega
 rcases this with rfl|rfl|rfl|rfl|rfl|rfl|rfl <;> exact bi rfl
theorem KT_lim:2*(KT*(KT*KT))<LIM:=bi rfl
theorem Jj:2*(ZT*ZT)<LIM:=bi rfl
theorem UL:ZT<LIM:=bi rfl
theorem Kf_lim {m:Nat}(h:m≤6):2*(Kf m BT*(Kf m BT*Kf m BT))<LIM:=by
 have h1:=Ly h
 have h2:=lf h1 (lf h1 h1)
 have h3:=KT_lim
 omega
theorem Jv:1≤BT:=by decide
theorem uG(a:Nat)(f:Nat→Rat):∀b,aG (a+b) f=aG a f+aG b fun i=>f (a+i)
 |0=>by show aG a f=aG a f+0;grind
 |b+1=>by
  show aG (a+b) f+f (a+b)=aG a f+(aG b (fun i=>f (a+i))+f (a+b))
  rw[uG a f b];grind
theorem sum3(m nn:Nat)(f:Nat→Rat):aG (1+nn+m) f=f 0+aG nn (fun k=>f (k+1))+aG m fun i=>f (1+nn+i):=by
 rw[uG (1+nn) f m,uG 1 f nn]
 have:aG 1 f=f 0:=by show 0+f 0=f 0;grind
 rw[this,ay (f:=fun i=>f (1+i)) (g:=fun k=>f (k+1)) fun k _=>by rw[o4]]
theorem Az:∀{n:Nat} {f:Nat→Col},(∀r,r<n→f n r=0)→f n n=1→det (n+1) f=det n f
 |0,f,_,h1=>by
  show aG 0 _+sgd 0*(f 0 0*det 0 (kH f 0))=1
  rw[h1]
  show (0:Rat)+sgd 0*(1*1)=1
  unfold sgd
  rw[ai rfl]
  grind
 |n+1,f,h0,h1=>by
  show aG (n+1) (fun j=>sgd j*(f j 0*det (n+1) (kH f j)))+sgd (n+1)*(f (n+1) 0*det (n+1) (kH f (n+1)))=aG (n+1) fun j=>sgd j*(f j 0*det n (kH f j))
  rw[h0 0 (by omega),ay (g:=fun j=>sgd j*(f j 0*det n (kH f j))) fun j hj=>?_]
  ·grind
  ·have hs:skip j n=n+1:=ah (by omega)
   rw[Az (f:=kH f j) (n:=n)]
   ·intro r hr
    show f (skip j n) (r+1)=0
    rw[hs];exact h0 (r+1) (by omega)
   ·show f (skip j n) (n+1)=1
    rw[hs];exact h1
theorem T3:∀n,det n (fun i r=>if i=r then 1 else 0)=1
 |0=>rfl
 |n+1=>by
  rw[Az (fun r hr=>ah (by omega)) (ai rfl)]
  exact T3 n
def Mq(q:QD):Nat→Col:=fun t r=>(if t=q.b r then 1 else 0) - q.c r t
theorem QOk.vi {q:QD}{m w:Nat}(h:QOk q m w):VI (Mq q) q.k q m w:=by
 have hM:∀i r,i<m→r<m→Mq q (q.b i) r=if i=r then 1 else 0:=fun i r hi hr=>by
  unfold Mq
  rw[h.z r i hr hi]
  by_cases e:i=r
  ·rw[ai e,ai (by rw[e])];grind
  ·rw[ah e,ah (fun e2=>e (h.inj i r hi hr e2))];grind
 have one:∀(f:Nat→Rat) r,r<m→aG m (fun i=>f i*Mq q (q.b i) r)=f r:=fun f r hr=>by
  rw[ay (g:=fun i=>if i=r then f r else 0) fun i hi=>?_,l9 r _ m hr]
  rw[hM i r hi hr]
  by_cases e:i=r
  ·rw[ai e,ai e,e];grind
  ·rw[ah e,ah e];grind
 refine⟨fun r hr=>(one q.k r hr).symm,fun t ht QY r hr=>?_,?_⟩
 ·rw[one (fun i=>q.c i t) r hr]
  unfold Mq
  rw[ah (fun e=>QY r hr e.symm)];grind
 ·rw[ub (g:=fun i r=>if i=r then 1 else 0) fun i hi r hr=>hM i r hi hr,T3]
  grind
theorem Inv.start {d:Dic}{w m:Nat}(h:Inv d w)(hl:d.rows.length=m)(hm:m≤6)(hk:∀i,i<m→IsI (rv d.rows[i]!.k) BT)(hgk:IsI (rv d.gk) BT)(hc:∀i t,i<m→t<w→IsI (rv d.rows[i]!.c[t]!) BT)(hgc:∀t,t<w→IsI (rv d.gc[t]!) BT):
  Ok (Mq (qd d w m)) (qd d w m).k d w m∧Bd (Mq (qd d w m)) (qd d w m).k w m BT∧(∀r,r<m→Mq (qd d w m) w r=0)∧Mq (qd d w m) w m=1:=by
 have hq:=h.qok hl
 have hC:∀r t,r<m+1→t<w+1→IsI ((qd d w m).c r t) BT:=fun r t hr ht=>by
  by_cases Is:t=w
  ·rw[Is,DR];exact IsI.zero _
  ·rcases d6 r m with G8|G8
   ·rw[Bk G8 (by omega)];exact hc r t G8 (by omega)
   ·obtain rfl:r=m:=by omega
    rw[Cn (by omega)];exact hgc t (by omega)
 have hbw:∀r,r<m→(qd d w m).b r≠w:=fun r hr=>by
  have:=h.rng r (by omega)
  rw[z8 hr];omega
 refine⟨⟨h,hl,hq.vi⟩,⟨fun t ht r hr=>?_,fun r hr=>?_,Kf_lim hm⟩,fun r hr=>?_,?_⟩
 ·unfold Mq
  by_cases e:t=(qd d w m).b r
  ·rw[ai e,e,hq.z r r hr hr,show (1:Rat) - 0=1 by grind]
   exact IsI.one Jv
  ·rw[ah e,show (0:Rat) - (qd d w m).c r t=-(qd d w m).c r t by grind]
   exact (hC r t hr ht).neg
 ·rcases d6 r m with G8|G8
  ·rw[DQ G8];exact hk r G8
  ·obtain rfl:r=m:=by omega
   rw[J8];exact hgk
 ·unfold Mq
  rw[ah (fun e=>hbw r hr e.symm),DR];grind
 ·unfold Mq
  rw[oY,ai rfl,DR];grind
section
variable {m nn:Nat} {A B C:List Nu} {most:Int}
theorem Sz.idx(_:Sz m nn A B C){i k:Nat}(hi:i<m)(hk:k<nn):i*nn+k<m*nn:=by
 calc i*nn+k<i*nn+nn:=by omega
  _=(i+1)*nn:=by rw[bR];omega
  _≤m*nn:=cM _ hi
theorem Ds {i t:Nat}(hi:i<m)(ht:t<1+nn+m):(aH m nn A B most).rows[i]!.c[t]! =if 1≤t∧t≤nn then e9 A[i*nn+(t - 1)]! else nOf 0:=by
 rw[eS hi]
 exact dJ (b7 _ ht)
theorem s7 {i:Nat}(hi:i<m):(aH m nn A B most).rows[i]!.k=B[i]! :=by rw[eS hi]
theorem Sz.inv(h:Sz m nn A B C):Inv (aH m nn A B most) (1+nn+m):=Hh h.lA h.lB (fun i hi=>(h.gA i (by rw[←h.lA];exact hi)).1) fun i hi=>(h.gB i (by rw[←h.lB];exact hi)).1
theorem Sz.intC(h:Sz m nn A B C){i t:Nat}(hi:i<m)(ht:t<1+nn+m):IsI (rv (aH m nn A B most).rows[i]!.c[t]!) BT:=by
 rw[Ds hi ht]
 split
 ·rename_i h1
  rw[lR]
  exact (h.gA _ (h.idx hi (by omega))).2.neg
 ·rw[of0.2];exact IsI.zero _
def Eqs(m nn:Nat)(A B:List Nu)(x0:Rat)(y:Nat→Rat):Prop:=∀i,i<m→y (1+nn+i)=rv B[i]! - aG nn (fun k=>rv A[i*nn+k]! *y (k+1))+x0
theorem CE(x:Nu){i:Nat}(hi:i<m)(y:Nat→Rat):bM (1+nn+m) (aH m nn A B most).rows[i]!.k ((aH m nn A B most).rows[i]!.c.set 0 x) y=rv B[i]! - aG nn (fun k=>rv A[i*nn+k]! *y (k+1))+rv x*y 0:=by
 have hl:(aH m nn A B most).rows[i]!.c.length=1+nn+m:=by rw[eS hi];simp
 unfold bM
 have hg:∀t,t<1+nn+m→((aH m nn A B most).rows[i]!.c.set 0 x)[t]! =if 0=t then x else (aH m nn A B most).rows[i]!.c[t]! :=fun t ht=>eG (by omega)
 rw[sum3,s7 hi,hg 0 (by omega),ai rfl]
 have e1:aG nn (fun k=>rv ((aH m nn A B most).rows[i]!.c.set 0 x)[k+1]! *y (k+1))=aG nn (fun k=>(-1)*(rv A[i*nn+k]! *y (k+1))):=ay fun k hk=>by
  rw[hg (k+1) (by omega),ah (by omega),Ds hi (by omega),ai (by omega),lR,ve];grind
 have e2:aG m (fun j=>rv ((aH m nn A B most).rows[i]!.c.set 0 x)[1+nn+j]! *y (1+nn+j))=aG m (fun _=>0):=ay fun j hj=>by
  rw[hg (1+nn+j) (by omega),ah (by omega),Ds hi (by omega),ah (by omega),of0.2];grind
 rw[e1,e2,eI,eV]
 grind
theorem Qw(y:Nat→Rat):Sol (aH m nn A B most) (1+nn+m) y↔Eqs m nn A B 0 y:=by
 have h:∀i,i<m→bM (1+nn+m) (aH m nn A B most).rows[i]!.k (aH m nn A B most).rows[i]!.c y=rv B[i]! - aG nn (fun k=>rv A[i*nn+k]! *y (k+1))+0:=fun i hi=>by
  have h1:=CE (most:=most) (A:=A) (B:=B) (nn:=nn) (nOf 0) hi y
  have h2:(aH m nn A B most).rows[i]!.c.set 0 (nOf 0)=(aH m nn A B most).rows[i]!.c:=by
   have hl:(aH m nn A B most).rows[i]!.c.length=1+nn+m:=by rw[eS hi];simp
   refine (nh (n:=1+nn+m) (f:=fun t=>(aH m nn A B most).rows[i]!.c[t]!) (by rw[c7];exact hl) fun t ht=>?_).trans (nh hl fun t ht=>rfl).symm
   rw[eG (by omega)]
   split
   ·rename_i e
    rw[←e,Ds hi (by omega),ah (by omega)]
   ·rfl
  rw[h2,of0.2] at h1
  rw[h1];grind
 have hb:∀i,i<m→(aH m nn A B most).rows[i]!.b.toNat=1+nn+i:=fun i hi=>by rw[rt i hi];omega
 constructor
 ·intro hy i hi
  have:=hy i (by rw[jG];exact hi)
  rwa[hb i hi,h i hi] at this
 ·intro hy i hi
  rw[jG] at hi
  rw[hb i hi,h i hi]
  exact hy i hi
theorem pg {i:Nat}(hi:i<m):(co (aH m nn A B most)).rows[i]! =uc (nOf 1) (aH m nn A B most).rows[i]! :=Ag (by rw[jG];exact hi)
theorem tR:(co (aH m nn A B most)).rows.length=m:=by
 show ((aH m nn A B most).rows.map _).length=m
 rw[a8,jG]
theorem GQ(y:Nat→Rat):Sol (co (aH m nn A B most)) (1+nn+m) y↔Eqs m nn A B (y 0) y:=by
 have h:∀i,i<m→bM (1+nn+m) (co (aH m nn A B most)).rows[i]!.k (co (aH m nn A B most)).rows[i]!.c y=rv B[i]! - aG nn (fun k=>rv A[i*nn+k]! *y (k+1))+y 0:=fun i hi=>by
  rw[pg hi]
  have:=CE (most:=most) (A:=A) (B:=B) (nn:=nn) (nOf 1) hi y
  rw[of1.2] at this
  refine this.trans ?_
  grind
 have hb:∀i,i<m→(co (aH m nn A B most)).rows[i]!.b.toNat=1+nn+i:=fun i hi=>by
  rw[pg hi]
  show (aH m nn A B most).rows[i]!.b.toNat=_
  rw[rt i hi];omega
 constructor
 ·intro hy i hi
  have:=hy i (by rw[tR];exact hi)
  rwa[hb i hi,h i hi] at this
 ·intro hy i hi
  rw[tR] at hi
  rw[hb i hi,h i hi]
  exact hy i hi
theorem J5 {t:Nat}(ht:t<1+nn+m):(co (aH m nn A B most)).gc[t]! =if t=0 then nOf (-1) else nOf 0:=by
 show ((List.replicate (1+nn+m) (nOf 0)).set 0 (nOf (-1)))[t]! =_
 rw[eG (by simpa using ht)]
 by_cases h:t=0
 ·rw[ai h,ai h.symm]
 ·rw[ah h,ah (fun e=>h e.symm),mB ht]
theorem yR(y:Nat→Rat):bM (1+nn+m) (co (aH m nn A B most)).gk (co (aH m nn A B most)).gc y=-y 0:=by
 unfold bM
 rw[ay (g:=fun t=>if t=0 then -y 0 else 0) fun t ht=>?_,l9 0 _ _ (by omega)]
 ·show rv (nOf 0)+_=_
  rw[of0.2];grind
 ·rw[J5 ht]
  by_cases h:t=0
  ·rw[ai h,ai h,ofm1.2,h];grind
  ·rw[ah h,ah h,of0.2];grind
theorem Sz.startInv(h:Sz m nn A B C):Inv (co (aH m nn A B most)) (1+nn+m):=by
 have hI:=h.inv (most:=most)
 have h0:∀j,j<(aH m nn A B most).rows.length→(aH m nn A B most).rows[j]!.b≠0:=fun j hj=>by
  rw[jG] at hj
  rw[rt j hj];omega
 refine hI.col of1.1 (.inl h0) (by rw[c7];exact hI.fine.lg) (q9.fine hI ofm1.1 _ _ hI.fine.lg hI.fine.gg) (fun j hj=>?_) 0
 have:=hI.rng j hj
 have:=h0 j hj
 have:=hI.fine.lg
 rw[eG (by omega),ah (by omega)]
 exact hI.zg j hj
theorem Sz.firstOk(h:Sz m nn A B C):let d:=aH m nn A B most;Ok (Mq (qd d (1+nn+m) m)) (qd d (1+nn+m) m).k d (1+nn+m) m∧Bd (Mq (qd d (1+nn+m) m)) (qd d (1+nn+m) m).k (1+nn+m) m BT∧(∀r,r<m→Mq (qd d (1+nn+m) m) (1+nn+m) r=0)∧Mq (qd d (1+nn+m) m) (1+nn+m) m=1:=by
 refine h.inv.start jG h.m6 (fun i hi=>?_) ?_ (fun i t hi ht=>h.intC hi ht) (fun t ht=>?_)
 ·rw[s7 hi];exact (h.gB i hi).2
 ·show IsI (rv (nOf 0)) BT
  rw[of0.2];exact IsI.zero _
 ·show IsI (rv (List.replicate (1+nn+m) (nOf 0))[t]!) BT
  rw[mB ht,of0.2];exact IsI.zero _
theorem Sz.startOk(h:Sz m nn A B C):let d:=co (aH m nn A B most);Ok (Mq (qd d (1+nn+m) m)) (qd d (1+nn+m) m).k d (1+nn+m) m∧Bd (Mq (qd d (1+nn+m) m)) (qd d (1+nn+m) m).k (1+nn+m) m BT∧(∀r,r<m→Mq (qd d (1+nn+m) m) (1+nn+m) r=0)∧Mq (qd d (1+nn+m) m) (1+nn+m) m=1:=by
 refine h.startInv.start tR h.m6 (fun i hi=>?_) ?_ (fun i t hi ht=>?_) (fun t ht=>?_)
 ·rw[pg hi]
  show IsI (rv (aH m nn A B most).rows[i]!.k) BT
  rw[s7 hi];exact (h.gB i hi).2
 ·show IsI (rv (nOf 0)) BT
  rw[of0.2];exact IsI.zero _
 ·rw[pg hi]
  show IsI (rv ((aH m nn A B most).rows[i]!.c.set 0 (nOf 1))[t]!) BT
  rw[eG (by rw[eS hi];simpa using ht)]
  split
  ·rw[of1.2];exact IsI.one Jv
  ·exact h.intC hi ht
 ·rw[J5 ht]
  split
  ·rw[ofm1.2];exact (IsI.one Jv).neg
  ·rw[of0.2];exact IsI.zero _
end
theorem Ow {l:List Row}(hg:∀i,i<l.length→aw l[i]!.k=true):∀n,n≤l.length→∀j,j<n→rv l[jS l n]!.k≤rv l[j]!.k
 |0,_,j,hj=>by omega
 |n+1,hn,j,hj=>by
  have ih:=Ow hg n (by omega)
  have bK:jS l n<l.length:=by
   have:=Aj l n
   omega
  obtain⟨_,_,c3,_⟩:=r5 (hg n (by omega)) (hg (jS l n) bK)
  unfold jS
  by_cases h:p8 l[n]!.k l[jS l n]!.k<0
  ·rw[ai h]
   have h2:=c3.1 h
   rcases d6 j n with tK|tK
   ·have:=ih j tK;grind
   ·obtain rfl:j=n:=by omega
    grind
  ·rw[ah h]
   rcases d6 j n with tK|tK
   ·exact ih j tK
   ·obtain rfl:j=n:=by omega
    have:¬rv l[j]!.k<rv l[jS l j]!.k:=fun e=>h (c3.2 e)
    grind
section
variable {M:Nat→Col} {k0:Col} {d:Dic} {w m:Nat}
theorem Inv.bnon(h:Inv d w)(hf:sF d){t:Nat}:0≤Go.Proofs.YtaedcknhkjpmlaaGreat.mY d t:=by
 by_cases hb:Bas d t
 ·obtain⟨j,hj,e⟩:=hb
  have:=h.rng j hj
  have:=h.bsol_row hj
  rw[show d.rows[j]!.b.toNat=t by omega] at this
  rw[this];exact hf j hj
 ·rw[lx hb];exact Rat.le_refl
theorem Inv.bounded(hI:Inv d w)(hf:sF d)(hw:0<w){s:Nat}(hs:s<w)(hg:0<rv d.gc[s]!)(hc:∀i,i<d.rows.length→0≤rv d.rows[i]!.c[s]!)(sX:∀y,Sol d w y→bM w d.gk d.gc y=-y 0):False:=by
 have SZ:¬Bas d s:=fun hb=>by
  have:=(hI.bas hb).2.1
  rw[this,of0.2] at hg;grind
 have hgk:rv d.gk≤0:=by
  have h1:=sX _ hI.bsol
  rw[hI.bgoal] at h1
  have:=hI.bnon hf (t:=0)
  grind
 obtain⟨l,hl,hl0⟩:∃l:Rat,rv d.gc[s]! *l=1 - rv d.gk∧0≤l:=by
  refine⟨(1 - rv d.gk) / rv d.gc[s]!,?_,CG (by grind) hg⟩
  rw[iI]
  have:=wZ (rv d.gc[s]!) (by grind)
  grind
 obtain⟨y,hy,hv⟩:=hI.pick fun r=>if r=s then l else 0
 have P8:y s=l:=by rw[hv s fun j hj e=>SZ ⟨j,hj,e⟩,ai rfl]
 have h0:∀t,t<w→¬Bas d t→t≠s→y t=0:=fun t _ hb rl=>by rw[hv t fun j hj e=>hb ⟨j,hj,e⟩,ah rl]
 obtain⟨h1,h2⟩:=hI.at hs SZ hy h0
 rw[sX y hy,P8,hl] at h2
 have h3:0≤y 0:=by
  by_cases hb:Bas d 0
  ·obtain⟨j,hj,e⟩:=hb
   have:=h1 j hj
   rw[show d.rows[j]!.b.toNat=0 by omega,P8] at this
   rw[this]
   have a:=BX (hc j hj) hl0
   have b:=hf j hj
   grind
  ·by_cases hs0:0=s
   ·rw[hs0,P8];exact hl0
   ·rw[h0 0 hw hb hs0];exact Rat.le_refl
 grind
end
section
variable {m nn:Nat} {A B C:List Nu} {most:Int}
theorem Sz.begin(h:Sz m nn A B C){i0:Nat}(hi0:i0<m)(n8:rv B[i0]! <0){N:Nat}(hN:∀k,nr (1+nn+m) k≤N)(Ej:(N:Int)+10≤most):∃M k0 d',jH (aH m nn A B most)=(0,d')∧Ok M k0 d' (1+nn+m) m∧Bd M k0 (1+nn+m) m BT∧(∀r,r<m→M (1+nn+m) r=0)∧M (1+nn+m) m=1∧sF d'∧q9 (co (aH m nn A B most)) d' (1+nn+m)∧d'.piv≤N+2∧
  ((bL d'.gk<0∧∀t,t<1+nn+m→rv d'.gc[t]!≤0)∨(¬bL d'.gk<0∧∀j,j<m→d'.rows[j]!.b≠0)):=by
 obtain⟨hok,hB,MT,Q6⟩:=h.startOk (most:=most)
 generalize hMe:Mq (qd (co (aH m nn A B most)) (1+nn+m) m)=M at hok hB MT Q6
 generalize hke:(qd (co (aH m nn A B most)) (1+nn+m) m).k=k0 at hok hB
 have S5:(aH m nn A B most).rows.length=m:=jG
 have mC:=Aj (aH m nn A B most).rows m
 have hat:jS (aH m nn A B most).rows m<m:=by omega
 have Ek:=Ow (l:=(aH m nn A B most).rows) (fun i hi=>by rw[S5] at hi;rw[s7 hi];exact (h.gB i hi).1) m (by omega)
 generalize Eo:jS (aH m nn A B most).rows m=at' at hat Ek
 have sk:∀i,i<m→(co (aH m nn A B most)).rows[i]!.k=B[i]! :=fun i hi=>by rw[pg hi];exact s7 hi
 have sc:∀i,i<m→(co (aH m nn A B most)).rows[i]!.c[0]! =nOf 1:=fun i hi=>by
  rw[pg hi]
  show ((aH m nn A B most).rows[i]!.c.set 0 (nOf 1))[0]! =_
  rw[eG (by rw[eS hi];simp;omega),ai rfl]
 have hmin':∀j,j<m→rv B[at']!≤rv B[j]! :=fun j hj=>by
  have:=Ek j hj
  rwa[s7 hat,s7 hj] at this
 have tJ:∀j,j<(co (aH m nn A B most)).rows.length→(co (aH m nn A B most)).rows[j]!.b≠((0:Nat):Int):=fun j hj=>by
  rw[tR] at hj
  rw[pg hj]
  show (aH m nn A B most).rows[j]!.b≠_
  rw[rt j hj];omega
 obtain⟨hG,Ao,_,S6⟩:=hok.pivot hB hat (show 0<1+nn+m by omega) tJ (by rw[sc at' hat,of1.2];grind)
 have jC:=hG.pivotP (show (0:Int)<most by omega)
 have OO:sF (gi (co (aH m nn A B most)) at' 0):=fun i hi=>by
  rw[eg,tR] at hi
  rw[S6 i hi,sk at' hat,sc at' hat,of1.2,sk i hi]
  have e1:=hmin' i hi
  have e2:=hmin' i0 hi0
  have e3:-rv B[at']! / 1=-rv B[at']! :=by rw[iI];have:=wZ (1:Rat) (by grind);grind
  split
  ·rw[e3];grind
  ·rw[e3,sc i hi,of1.2];grind
 have Qr:q9 (co (aH m nn A B most)) (gi (co (aH m nn A B most)) at' 0) (1+nn+m):=hG.same
 have hpv1:(gi (co (aH m nn A B most)) at' 0).piv=1:=rfl
 have hmo1:(gi (co (aH m nn A B most)) at' 0).most=most:=rfl
 generalize Dm:gi (co (aH m nn A B most)) at' 0=d1 at Ao jC OO Qr hpv1 hmo1
 obtain⟨s,d3,e1,Kx,ON,hS3,hpv3,KA⟩:=Ao.improve hB OO hN (by omega)
 have hS:q9 (co (aH m nn A B most)) d3 (1+nn+m):=Qr.trans hS3
 have sX:∀y,Sol d3 (1+nn+m) y→bM (1+nn+m) d3.gk d3.gc y=-y 0:=fun y hy=>by
  rw[hS.goal y ((hS.sol y).1 hy)];exact yR y
 have Qs:=Kx.inv
 have hl3:=Kx.len
 have OM:=(bm.1 Qs.fine.gg)
 have hend2:s=-1∧∀t,t<1+nn+m→rv d3.gc[t]!≤0:=by
  rcases KA with e|⟨s',_,a2,a3,a4⟩
  ·exact e
  ·exact (Qs.bounded ON (by omega) a2 a3 (fun i hi=>a4 i (by omega)) sX).elim
 unfold jH
 rw[S5,Eo]
 dsimp only
 rw[jC]
 dsimp only
 rw[ah (by simp),e1]
 dsimp only
 by_cases hgn:bL d3.gk<0
 ·rw[ai (.inr hgn)]
  exact⟨M,k0,d3,rfl,Kx,hB,MT,Q6,ON,hS,by omega,.inl ⟨hgn,hend2.2⟩⟩
 ·rw[ah (by simp;omega)]
  have hgk0:rv d3.gk=0:=by
   have h1:=sX _ Qs.bsol
   rw[Qs.bgoal] at h1
   have h2:=Qs.bnon ON (t:=0)
   have h3:¬rv d3.gk<0:=fun e=>hgn ((tS OM.1).2 e)
   grind
  rcases ru d3.rows 0 with⟨h5,h6⟩|⟨i,h5,h6,h7⟩
  ·rw[ai (by rw[h5];decide)]
   exact⟨M,k0,d3,rfl,Kx,hB,MT,Q6,ON,hS,by omega,.inr ⟨hgn,fun j hj=>h6 j (by omega)⟩⟩
  ·rw[ah (by omega),h6,show ((i:Int)).toNat=i by omega]
   -- qu row of 0 has qu constant 0
   have hki:rv d3.rows[i]!.k=0:=by
    have h1:=sX _ Qs.bsol
    rw[Qs.bgoal,hgk0] at h1
    have h2:=Qs.bsol_row h5
    rw[h7] at h2
    rw[←h2]
    show mY d3 0=0
    grind
   have hli:=Qs.fine.lr i h5
   have Jz:=(bm.1 (Qs.fine.gr i h5)).2
   cases hz:yf d3.rows[i]!.c with
   |none=>
    exfalso
    have hzz:∀t,t<1+nn+m→d3.rows[i]!.c[t]! =nOf 0:=fun t ht=>by
     unfold yf at hz
     have:=u9.1 hz d3.rows[i]!.c[t] (nK (by omega))
     refine good0 (Jz t (by omega)) ?_
     rw[bI _ t (by omega)]
     simpa using this
    -- numbers with y 0=1 fit qu start
    obtain⟨y,hy,hy0⟩:∃y,Sol (co (aH m nn A B most)) (1+nn+m) y∧y 0=1:=by
     refine⟨fun t=>if t=0 then 1 else if t<1+nn then 0 else rv B[t - (1+nn)]! +1,(GQ _).2 fun j hj=>?_,ai rfl⟩
     rw[ah (by omega),ah (by omega),ai rfl,show 1+nn+j - (1+nn)=j by omega,ay (g:=fun _=>0) fun k hk=>?_,eI]
     ·grind
     ·rw[ah (by omega),ai (by omega)];grind
    have h1:=(hS.sol y).2 hy i h5
    rw[h7] at h1
    have h2:bM (1+nn+m) d3.rows[i]!.k d3.rows[i]!.c y=0:=by
     unfold bM
     rw[ay (g:=fun _=>0) fun t ht=>by rw[hzz t ht,of0.2];grind,eI,hki]
     grind
    rw[h2] at h1
    have h3:y 0=0:=h1
    rw[hy0] at h3
    grind
   |some s2=>
    dsimp only
    obtain⟨z1,z2,_⟩:=oI.1 hz
    have z2:bL d3.rows[i]!.c[s2]!≠0:=by rw[bI _ s2 z1];simpa using z2
    have LL:s2<1+nn+m:=by omega
    have fI:rv d3.rows[i]!.c[s2]!≠0:=fun e=>z2 ((zX (Jz s2 z1)).2 e)
    obtain⟨hG4,hok4,_,hk4⟩:=Kx.pivot hB (show i<m by omega) LL (Qs.rowNz h5 z2) fI
    have hmost3:d3.most=most:=hS.most
    have hp4:=hG4.pivotP (by omega)
    rw[hp4]
    have hS4:=hS.trans hG4.same
    have hz0:-rv d3.rows[i]!.k / rv d3.rows[i]!.c[s2]! =0:=by rw[hki,iI];grind
    have OT:∀j,j<m→(gi d3 i s2).rows[j]!.b≠0:=fun j hj=>by
     rw[pi (by omega)]
     have hs20:s2≠0:=fun e=>by
      have:=Qs.zr i i h5 h5
      rw[h7] at this
      rw[e] at fI
      exact fI (by rw[show d3.rows[i]!.c[0]! =nOf 0 from this];exact of0.2)
     split
     ·omega
     ·rename_i zD
      intro e
      exact zD (Qs.inj j i (by omega) h5 (by rw[e,h7]))
    have hf4:sF (gi d3 i s2):=fun j hj=>by
     rw[eg] at hj
     rw[hk4 j (by omega),hz0]
     split
     ·exact Rat.le_refl
     ·have:=ON j hj
      grind
    have hgk4:rv (gi d3 i s2).gk=0:=by
     have h1:=hS4.goal _ ((hS4.sol _).1 hok4.inv.bsol)
     rw[hok4.inv.bgoal,yR,lx (fun⟨j,hj,e⟩=>OT j (by rw[eg] at hj;omega) (by rw[e];rfl))] at h1
     rw[h1];grind
    refine⟨M,k0,gi d3 i s2,rfl,hok4,hB,MT,Q6,hf4,hS4,by show d3.piv+1≤_;omega,.inr ⟨fun e=>?_,OT⟩⟩
    have:=(tS (bm.1 hok4.inv.fine.gg).1).1 e
    rw[hgk4] at this
    grind
end
end
section
theorem addK_ok {q x l:Nu}(hq:aw q=true)(hx:aw x=true)(hl:aw l=true)(p1:Pq ZT (rv l))(p2:Pq ZT (rv q*rv x)):aw (xb q x l)=true∧rv (xb q x l)=rv l+rv q*rv x:=by
 unfold xb
 by_cases h0:bL q=0
 ·rw[ai h0,(zX hq).1 h0]
  exact⟨hl,by grind⟩
 ·rw[ah h0]
  obtain⟨g1,g2⟩:=pp hq hx (p2.fit UL)
  obtain⟨g3,g4⟩:=rr hl g1 p1 (by rw[g2];exact p2) Jj
  exact⟨g3,by rw[g4,g2]⟩
theorem addC_ok {q:Nu}{xc lc:List Nu}{w:Nat}(hlc:lc.length=w)(hq:aw q=true)(hx:∀t,t<w→aw xc[t]! =true)(hl:∀t,t<w→aw lc[t]! =true)(p1:∀t,t<w→Pq ZT (rv lc[t]!))(p2:∀t,t<w→Pq ZT (rv q*rv xc[t]!)):∀t,t<w→aw (ui q xc (-1) lc)[t]! =true∧rv (ui q xc (-1) lc)[t]! =rv lc[t]! +rv q*rv xc[t]! :=by
 intro t ht
 unfold ui
 by_cases h0:bL q=0
 ·rw[ai h0,(zX hq).1 h0]
  exact⟨hl t ht,by grind⟩
 ·rw[ah h0,Dx _ _ _ _ t (by omega),ai (by omega)]
  obtain⟨g1,g2⟩:=pp hq (hx t ht) ((p2 t ht).fit UL)
  obtain⟨g3,g4⟩:=rr (hl t ht) g1 (p1 t ht) (by rw[g2];exact p2 t ht) Jj
  exact⟨g3,by rw[g4,g2]⟩
def gT(C:List Nu)(k t:Nat):Rat:=if 1≤t∧t≤k then rv C[t - 1]! else 0
theorem IC {C:List Nu}{k t:Nat}:gT C (k+1) t=gT C k t+if t=k+1 then rv C[k]! else 0:=by
 unfold gT
 by_cases h:t=k+1
 ·rw[ai h,ai (by omega),ah (by omega),h,ve];grind
 ·rw[ah h]
  by_cases h2:1≤t∧t≤k
  ·rw[ai h2,ai (by omega)];grind
  ·rw[ah h2,ah (by omega)];grind
theorem TI {C:List Nu}{k t:Nat}(h:t≠k+1):gT C (k+1) t=gT C k t:=by rw[IC,ah h];grind
section
variable {M:Nat→Col} {k0:Col} {d:Dic} {w m nn:Nat} {C:List Nu}
open Classical in
structure AimI(l:List Row)(w m:Nat)(C:List Nu)(bas:Nat→Prop)(k:Nat)(g:Nu×List Nu):Prop where
 len:g.2.length=w
 g1:aw g.1=true
 v1:rv g.1=aG m fun i=>gT C k l[i]!.b.toNat*rv l[i]!.k
 g2:∀t,t<w→aw g.2[t]! =true
 v2:∀t,t<w→rv g.2[t]! =(if bas t then 0 else gT C k t)+aG m fun i=>gT C k l[i]!.b.toNat*rv l[i]!.c[t]!
 sol:∀y:Nat→Rat,(∀i,i<m→y l[i]!.b.toNat=bM w l[i]!.k l[i]!.c y)→bM w g.1 g.2 y=aG k fun j=>rv C[j]! *y (j+1)
theorem Ln {l:List Row}{D:Rat}(hl:l.length=m)(hm:m≤6)(Qd:nn+1≤w)(hlen:∀i,i<m→l[i]!.c.length=w)(hgk:∀i,i<m→aw l[i]!.k=true)(hgc:∀i t,i<m→t<w→aw l[i]!.c[t]! =true)(hb:∀i,i<m→0≤l[i]!.b∧l[i]!.b<w)
  (t6:∀i j,i<m→j<m→l[i]!.b=l[j]!.b→i=j) (JB:D≠0) (hD:IsI D KT) (hDk:∀i,i<m→Dn D KT (rv l[i]!.k)) (hDc:∀i t,i<m→t<w→Dn D KT (rv l[i]!.c[t]!)) (gC:∀k,k<nn→aw C[k]! =true∧IsI (rv C[k]!) BT):
  ∀k,k≤nn→AimI l w m C (fun t=>∃j,j<m∧l[j]!.b=(t:Int)) k (gF l w C k)
 |0,_=>by
  have e0:∀t,gT C 0 t=0:=fun t=>by unfold gT;rw[ah (by omega)]
  refine⟨by simp[gF],of0.1,?_,fun t ht=>?_,fun t ht=>?_,fun y _=>?_⟩
  ·rw[ay (g:=fun _=>0) fun i _=>by rw[e0];grind,eI];exact of0.2
  ·show aw (List.replicate w (nOf 0))[t]! =true
   rw[mB ht];exact of0.1
  ·rw[ay (g:=fun _=>0) fun i _=>by rw[e0];grind,eI,e0]
   show rv (List.replicate w (nOf 0))[t]! =_
   rw[mB ht,of0.2]
   split <;> grind
  ·show bM w (nOf 0) (List.replicate w (nOf 0)) y=0
   unfold bM
   rw[ay (g:=fun _=>0) fun t ht=>by rw[mB ht,of0.2];grind,eI,of0.2];grind
 |k+1,hk=>by
  have ih:=Ln hl hm Qd hlen hgk hgc hb t6 JB hD hDk hDc gC k (by omega)
  obtain⟨q1,q2⟩:=gC k (by omega)
  have hZ:m*(BT*KT)+KT*BT≤ZT:=by
   have:m*(BT*KT)≤6*(BT*KT):=cM _ hm
   have h2:6*(BT*KT)+KT*BT≤ZT:=bi rfl
   omega
  have hZ2:KT≤ZT:=bi rfl
  have hZ3:BT*KT≤ZT:=bi rfl
  have Q7:IsI D ZT:=hD.mono hZ2
  have gI:∀t,IsI (gT C k t) BT:=fun t=>by
   unfold gT
   split
   ·exact (gC _ (by omega)).2
   ·exact IsI.zero _
  have pk:Pq ZT (rv (gF l w C k).1):=by
   rw[ih.v1]
   refine Dn.pq Q7 JB ((Dn.sum (K:=BT*KT) fun i hi=>Dn.int (gI _) (hDk i hi)).mono (by omega))
  have pc:∀t,t<w→Pq ZT (rv (gF l w C k).2[t]!):=fun t ht=>by
   rw[ih.v2 t ht]
   refine Dn.pq Q7 JB ((Dn.add (K:=KT*BT) ?_ (Dn.sum (K:=BT*KT) fun i hi=>Dn.int (gI _) (hDc i t hi ht))).mono (by omega))
   split
   ·exact Dn.zero _ _
   ·exact Dn.of hD (gI t)
  unfold gF
  dsimp only
  generalize hG:gF l w C k=g at ih pk pc ⊢
  rcases ru l ((k+1:Nat):Int) with⟨h5,h6⟩|⟨j,h5,h6,h7⟩
  ·rw[ah (by omega)]
   have tJ:∀i,i<m→l[i]!.b.toNat≠k+1:=fun i hi e=>h6 i (by omega) (by have:=hb i hi;omega)
   have hs:∀f:Nat→Rat,aG m (fun i=>gT C (k+1) l[i]!.b.toNat*f i)=aG m fun i=>gT C k l[i]!.b.toNat*f i:=fun f=>ay fun i hi=>by rw[TI (tJ i hi)]
   have hkw:k+1<w:=by omega
   obtain⟨a1,a2⟩:=rr (ih.g2 (k+1) hkw) q1 (pc (k+1) hkw) (Dn.pq Q7 JB ((Dn.of hD q2).mono (by omega))) Jj
   have gj:∀t,t<w→(g.2.set (k+1) (jJ g.2[k+1]! C[k]!))[t]! =if k+1=t then jJ g.2[k+1]! C[k]! else g.2[t]! :=fun t ht=>eG (by rw[ih.len];exact ht)
   refine⟨by dsimp only;rw[c7];exact ih.len,ih.g1,by rw[hs];exact ih.v1,fun t ht=>?_,fun t ht=>?_,fun y hy=>?_⟩
   ·dsimp only
    rw[gj t ht]
    split
    ·exact a1
    ·exact ih.g2 t ht
   ·dsimp only
    rw[gj t ht,hs]
    by_cases e:k+1=t
    ·rw[ai e,a2,ih.v2 (k+1) hkw,←e]
     have hn:¬∃j,j<m∧l[j]!.b=((k+1:Nat):Int):=fun⟨j,hj,e⟩=>h6 j (by omega) e
     rw[ah hn,ah hn,IC,ai rfl];grind
    ·rw[ah e,ih.v2 t ht,TI (fun e2=>e e2.symm)]
   ·dsimp only
    show _=aG k (fun j=>rv C[j]! *y (j+1))+rv C[k]! *y (k+1)
    rw[←ih.sol y hy]
    unfold bM
    rw[ay (g:=fun t=>if t=k+1 then (rv g.2[k+1]! +rv C[k]!)*y (k+1) else rv g.2[t]! *y t) fun t ht=>?_,wC _ _ _ hkw]
    ·grind
    ·rw[gj t ht]
     by_cases e:k+1=t
     ·rw[ai e,ai e.symm,a2,e]
     ·rw[ah e,ah (fun e2=>e e2.symm)]
  ·rw[ai (by omega),h6,show ((j:Int)).toNat=j by omega]
   have hj:j<m:=by omega
   have OS:l[j]!.b.toNat=k+1:=by omega
   have hs:∀f:Nat→Rat,aG m (fun i=>gT C (k+1) l[i]!.b.toNat*f i)=aG m (fun i=>gT C k l[i]!.b.toNat*f i)+rv C[k]! *f j:=fun f=>by
    rw[←l9 j (rv C[k]! *f j) m hj,←li (fun i=>gT C k l[i]!.b.toNat*f i)]
    refine ay fun i hi=>?_
    rw[IC]
    by_cases e:i=j
    ·rw[ai e,ai (by rw[e];exact OS),e];grind
    ·rw[ah e,ah (fun e2=>e (t6 i j hi hj (by have:=hb i hi;omega)))];grind
   obtain⟨a1,a2⟩:=addK_ok q1 (hgk j hj) ih.g1 pk (Dn.pq Q7 JB ((Dn.int q2 (hDk j hj)).mono hZ3))
   have ac:=addC_ok ih.len q1 (fun t ht=>hgc j t hj ht) ih.g2 pc (fun t ht=>Dn.pq Q7 JB ((Dn.int q2 (hDc j t hj ht)).mono hZ3))
   refine⟨by dsimp only;rw[uh];exact ih.len,a1,by rw[hs];dsimp only;rw[a2,ih.v1],fun t ht=>(ac t ht).1,fun t ht=>?_,fun y hy=>?_⟩
   ·dsimp only
    rw[(ac t ht).2,ih.v2 t ht,hs]
    by_cases e:∃j,j<m∧l[j]!.b=(t:Int)
    ·rw[ai e,ai e];grind
    ·rw[ah e,ah e,TI (fun e2=>e ⟨j,hj,by omega⟩)];grind
   ·show _=aG k (fun j=>rv C[j]! *y (j+1))+rv C[k]! *y (k+1)
    have:=hy j hj
    rw[OS] at this
    rw[←ih.sol y hy,this]
    unfold bM
    dsimp only
    rw[a2,ay (g:=fun t=>rv g.2[t]! *y t+rv C[k]! *(rv l[j]!.c[t]! *y t)) fun t ht=>by rw[(ac t ht).2];grind,li (fun t=>rv g.2[t]! *y t),eV]
    grind
theorem Ok.aim(h:Ok M k0 d w m)(hB:Bd M k0 w m BT)(hm:m≤6)(MT:∀r,r<m→M w r=0)(Q6:M w m=1)(OT:∀j,j<m→d.rows[j]!.b≠0)(Qd:nn+1≤w)(hC:C.length=nn)(gC:∀k,k<nn→aw C[k]! =true∧IsI (rv C[k]!) BT):
  ∃M2 k2,mK d C=(0,mL d C)∧Ok M2 k2 (mL d C) w m∧Bd M2 k2 w m BT∧(∀y,Sol (mL d C) w y↔Sol d w fun t=>if t=0 then 0 else y t)∧(∀y,Sol (mL d C) w y→bM w (mL d C).gk (mL d C).gc y=aG nn fun k=>rv C[k]! *y (k+1))∧(sF d→sF (mL d C)):=by
 have hI:=h.inv
 have hl:=h.len
 obtain⟨D,b0,b1,b2,b3,b4,b5⟩:=h.bound hB
 have hKf:=Ly hm
 obtain⟨l,hle⟩:∃l,l=d.rows.map (uc (nOf 0)):=⟨_,rfl⟩
 have MH:l.length=m:=by rw[hle,a8];exact hl
 have lget:∀i,i<m→l[i]! =uc (nOf 0) d.rows[i]! :=fun i hi=>by rw[hle];exact Ag (by omega)
 have lk:∀i,i<m→l[i]!.k=d.rows[i]!.k:=fun i hi=>by rw[lget i hi];rfl
 have lb:∀i,i<m→l[i]!.b=d.rows[i]!.b:=fun i hi=>by rw[lget i hi];rfl
 have lcl:∀i,i<m→l[i]!.c.length=w:=fun i hi=>by
  rw[lget i hi]
  show (d.rows[i]!.c.set 0 (nOf 0)).length=w
  rw[c7];exact hI.fine.lr i (by omega)
 have lc:∀i t,i<m→t<w→l[i]!.c[t]! =if 0=t then nOf 0 else d.rows[i]!.c[t]! :=fun i t hi ht=>by
  rw[lget i hi]
  show (d.rows[i]!.c.set 0 (nOf 0))[t]! =_
  exact eG (by rw[hI.fine.lr i (by omega)];exact ht)
 have Kv:∀i,i<m→0≤l[i]!.b∧l[i]!.b<w:=fun i hi=>by rw[lb i hi];exact hI.rng i (by omega)
 have t6:∀i j,i<m→j<m→l[i]!.b=l[j]!.b→i=j:=fun i j hi hj e=>hI.inj i j (by omega) (by omega) (by rw[←lb i hi,←lb j hj];exact e)
 have gc:∀i t,i<m→t<w→aw l[i]!.c[t]! =true:=fun i t hi ht=>by
  rw[lc i t hi ht]
  split
  ·exact of0.1
  ·exact (bm.1 (hI.fine.gr i (by omega))).2 t (by rw[hI.fine.lr i (by omega)];exact ht)
 have gk:∀i,i<m→aw l[i]!.k=true:=fun i hi=>by rw[lk i hi];exact (bm.1 (hI.fine.gr i (by omega))).1
 have dk:∀i,i<m→Dn D KT (rv l[i]!.k):=fun i hi=>by rw[lk i hi];exact (b2 i hi).mono hKf
 have dc:∀i t,i<m→t<w→Dn D KT (rv l[i]!.c[t]!):=fun i t hi ht=>by
  rw[lc i t hi ht]
  split
  ·rw[of0.2];exact Dn.zero _ _
  ·exact (b4 i t hi ht).mono hKf
 have A:=Ln MH hm Qd lcl gk gc Kv t6 b0 (b1.mono hKf) dk dc gC nn (az _)
 have hz:=Lm (c:=C) (w:=w) (l:=l) (fun i hi=>lcl i (by omega)) (fun i hi=>Kv i (by omega)) (fun i j hi hj=>by
  have Cv:j<m:=by omega
  have wb:i<m:=by omega
  have:=Kv j Cv
  rw[lc i _ wb (by omega)]
  split
  ·rfl
  ·rw[lb j Cv];exact hI.zr i j (by omega) (by omega)) (fun i hi=>(gC i (by omega)).1) nn (by omega)
 have ym:mL d C=⟨l,(gF l w C nn).1,(gF l w C nn).2,d.n,d.piv,d.most⟩:=by unfold mL;rw[hI.fine.lg,←hle,hC]
 obtain⟨g,hg⟩:∃g,g=gF l w C nn:=⟨_,rfl⟩
 rw[←hg] at A hz ym
 have OK:f5 g.1 g.2=true:=bm.2 ⟨A.g1,fun i hi=>A.g2 i (by rw[←A.len];exact hi)⟩
 have hI2:Inv (mL d C) w:=by
  rw[ym,hle]
  exact hI.col of0.1 (.inr rfl) A.len OK (fun j hj=>by have:=hz.2 j (by omega);rwa[lb j (by omega)] at this) d.piv
 have FQ:(mL d C).rows.length=m:=by rw[ym];exact MH
 have zZ:(mL d C).rows=l:=by rw[ym]
 have qb:∀i,i<m→(qd (mL d C) w m).b i=(qd d w m).b i:=fun i hi=>by rw[z8 hi,z8 hi,zZ,lb i hi]
 have qbw:∀i,i<m→(qd d w m).b i<w∧(qd d w m).b i≠0:=fun i hi=>by
  have h1:=hI.rng i (by omega)
  have h2:=OT i hi
  rw[z8 hi];omega
 obtain⟨M2,hM2⟩:∃M2:Nat→Col,∀t r,M2 t r=if r<m then (if t=0 then 0 else M t r) else if t=w then 1 else -gT C nn t:=⟨fun t r=>if r<m then (if t=0 then 0 else M t r) else if t=w then 1 else -gT C nn t,fun _ _=>rfl⟩
 obtain⟨k2,za⟩:∃k2:Col,∀r,k2 r=if r<m then k0 r else 0:=⟨fun r=>if r<m then k0 r else 0,fun _=>rfl⟩
 have hMw:∀r,r<m→M2 w r=0:=fun r hr=>by
  rw[hM2,ai hr]
  split
  ·rfl
  ·exact MT r hr
 have gI:∀t,IsI (gT C nn t) BT:=fun t=>by
  unfold gT
  split
  ·exact (gC _ (by omega)).2
  ·exact IsI.zero _
 have hMb:∀i r,i<m→r<m→M2 ((qd d w m).b i) r=M ((qd d w m).b i) r:=fun i r hi hr=>by rw[hM2,ai hr,ah (qbw i hi).2]
 have hMm:∀i,i<m→M2 ((qd d w m).b i) m=-gT C nn l[i]!.b.toNat:=fun i hi=>by
  rw[hM2,ah (pF _),ah (by have:=(qbw i hi).1;omega),z8 hi,lb i hi]
 have vi2:VI M2 k2 (qd (mL d C) w m) (m+1) (w+1):=by
  refine⟨fun r hr=>?_,fun t ht QY r hr=>?_,?_⟩
  ·show k2 r=aG m (fun i=>(qd (mL d C) w m).k i*M2 ((qd (mL d C) w m).b i) r)+(qd (mL d C) w m).k m*M2 ((qd (mL d C) w m).b m) r
   rw[oY,J8]
   rcases d6 r m with G8|G8
   ·have h1:k0 r=aG m (fun i=>(qd d w m).k i*M ((qd d w m).b i) r)+(qd d w m).k m*M ((qd d w m).b m) r:=h.vi.k r hr
    rw[oY,MT r G8] at h1
    rw[za,ai G8,h1,hMw r G8,ay (f:=fun i=>(qd (mL d C) w m).k i*M2 ((qd (mL d C) w m).b i) r) (g:=fun i=>(qd d w m).k i*M ((qd d w m).b i) r) fun i hi=>by rw[qb i hi,hMb i r hi G8,DQ hi,DQ hi,zZ,lk i hi],qI,qI]
   ·obtain rfl:r=m:=by omega
    rw[za,ah (pF _),hM2,ah (pF _),ai rfl,ay (g:=fun i=>(-1)*(gT C nn l[i]!.b.toNat*rv l[i]!.k)) fun i hi=>by rw[qb i hi,hMm i hi,DQ hi,zZ];grind,eV]
    have e:rv (mL d C).gk=rv g.1:=by rw[ym]
    rw[e,A.v1];grind
  ·show -M2 t r=aG m (fun i=>(qd (mL d C) w m).c i t*M2 ((qd (mL d C) w m).b i) r)+(qd (mL d C) w m).c m t*M2 ((qd (mL d C) w m).b m) r
   have Is:t≠w:=fun e=>QY m (by omega) (by rw[oY,e])
   have yk:t<w:=by omega
   have hnt':∀j,j<m→(qd d w m).b j≠t:=fun j hj e=>QY j (by omega) (by rw[qb j hj];exact e)
   rw[oY,Cn yk]
   rcases d6 r m with G8|G8
   ·have h1:-M t r=aG m (fun i=>(qd d w m).c i t*M ((qd d w m).b i) r)+(qd d w m).c m t*M ((qd d w m).b m) r:=h.vi.c t ht (fun j hj e=>by
     rcases d6 j m with LN|LN
     ·exact hnt' j LN e
     ·obtain rfl:j=m:=by omega
      rw[oY] at e;exact Is e.symm) r hr
    rw[oY,MT r G8] at h1
    rw[hMw r G8]
    by_cases ht0:t=0
    ·rw[hM2,ai G8,ai ht0,ay (g:=fun _=>0) fun i hi=>by rw[Bk hi yk,zZ,lc i t hi yk,ai ht0.symm,of0.2];grind,eI]
     grind
    ·rw[hM2,ai G8,ah ht0,h1,ay (f:=fun i=>(qd (mL d C) w m).c i t*M2 ((qd (mL d C) w m).b i) r) (g:=fun i=>(qd d w m).c i t*M ((qd d w m).b i) r) fun i hi=>by rw[qb i hi,hMb i r hi G8,Bk hi yk,Bk hi yk,zZ,lc i t hi yk,ah (fun e=>ht0 e.symm)],qI,qI]
   ·obtain rfl:r=m:=by omega
    rw[hM2 w,ah (pF _),ai rfl,hM2 t,ah (pF _),ah Is,ay (g:=fun i=>(-1)*(gT C nn l[i]!.b.toNat*rv l[i]!.c[t]!)) fun i hi=>by rw[qb i hi,hMm i hi,Bk hi yk,zZ];grind,eV]
    have e:rv (mL d C).gc[t]! =rv g.2[t]! :=by rw[ym]
    have hn:¬∃j,j<r∧l[j]!.b=(t:Int):=fun⟨j,hj,e⟩=>hnt' j hj (by rw[z8 hj,←lb j hj,e];rfl)
    rw[e,A.v2 t yk,ah hn];grind
  ·have hv:=h.vi.nz
   rw[Az (fun r hr=>by rw[oY];exact MT r hr) (by rw[oY];exact Q6)] at hv
   rw[Az (fun r hr=>by rw[oY];exact hMw r hr) (by rw[oY,hM2,ah (pF _),ai rfl]),ub (g:=fun i=>M ((qd d w m).b i)) fun i hi r hr=>by rw[qb i hi,hMb i r hi hr]]
   exact hv
 refine⟨M2,k2,?_,⟨hI2,FQ,vi2⟩,⟨fun t ht r hr=>?_,fun r hr=>?_,hB.lim⟩,fun y=>?_,fun y hy=>?_,fun hf i hi=>?_⟩
 ·unfold mK
  rw[ai (by rw[ym];exact OK)]
 ·rw[hM2]
  split
  ·split
   ·exact IsI.zero _
   ·exact hB.ent t ht r hr
  ·split
   ·exact IsI.one Jv
   ·exact (gI t).neg
 ·rw[za]
  split
  ·exact hB.con r hr
  ·exact IsI.zero _
 ·have hw:∀i,i<m→bM w l[i]!.k l[i]!.c y=bM w d.rows[i]!.k d.rows[i]!.c fun t=>if t=0 then 0 else y t:=fun i hi=>by
   unfold bM
   rw[lk i hi]
   congr 1
   refine ay fun t ht=>?_
   rw[lc i t hi ht]
   dsimp only
   by_cases e:t=0
   ·rw[ai e,ai e.symm,of0.2,qI,I1]
   ·rw[ah e,ah (fun e2=>e e2.symm)]
  have hbn:∀i,i<m→d.rows[i]!.b.toNat≠0:=fun i hi=>by
   have h1:=hI.rng i (by omega)
   have h2:=OT i hi
   omega
  unfold Sol
  rw[zZ,MH,hl]
  constructor
  ·intro hy i hi
   have:=hy i hi
   rw[hw i hi,lb i hi] at this
   dsimp only
   rw[ah (hbn i hi)]
   exact this
  ·intro hy i hi
   have:=hy i hi
   dsimp only at this
   rw[ah (hbn i hi)] at this
   rw[hw i hi,lb i hi]
   exact this
 ·have:=A.sol y fun i hi=>by have:=hy i (by omega);rwa[zZ] at this
  rw[ym]
  exact this
 ·rw[FQ] at hi
  rw[zZ,lk i hi]
  exact hf i (by omega)
end
end
section
theorem NZ {c x:List Nu}{D:Rat}(hn:c.length≤6)(gc:∀i,i<c.length→aw c[i]! =true)(gx:∀i,i<c.length→aw x[i]! =true)(JB:D≠0)(hD:IsI D KT)(hp:∀i,i<c.length→Dn D (BT*KT) (rv c[i]! *rv x[i]!)):∀n,n≤c.length→aw (vy c x n)=true∧rv (vy c x n)=aG n fun i=>rv c[i]! *rv x[i]!
 |0,_=>of0
 |n+1,hn1=>by
  obtain⟨i1,i2⟩:=NZ hn gc gx JB hD hp n (by omega)
  have hZ2:KT≤ZT:=bi rfl
  have hZ3:BT*KT≤ZT:=bi rfl
  have hZ:n*(BT*KT)≤ZT:=by
   have:n*(BT*KT)≤6*(BT*KT):=cM _ (by omega)
   have h2:6*(BT*KT)≤ZT:=bi rfl
   omega
  have Q7:IsI D ZT:=hD.mono hZ2
  have p2:=Dn.pq Q7 JB ((hp n (by omega)).mono hZ3)
  obtain⟨g1,g2⟩:=pp (gc n (by omega)) (gx n (by omega)) (p2.fit UL)
  obtain⟨g3,g4⟩:=rr i1 g1 (by rw[i2];exact Dn.pq Q7 JB ((Dn.sum fun i hi=>hp i (by omega)).mono hZ)) (by rw[g2];exact p2) Jj
  exact⟨g3,by
   show rv (jJ (vy c x n) (iy c[n]! x[n]!))=_
   rw[g4,g2,i2];rfl⟩
theorem tO {c x:List Nu}{D:Rat}(hl:c.length=x.length)(hn:c.length≤6)(gc:∀i,i<c.length→aw c[i]! =true)(gx:∀i,i<c.length→aw x[i]! =true)(JB:D≠0)(hD:IsI D KT)(hp:∀i,i<c.length→Dn D (BT*KT) (rv c[i]! *rv x[i]!)):aw (cJ c x)=true∧rv (cJ c x)=aG c.length fun i=>rv c[i]! *rv x[i]! :=by
 unfold cJ
 rw[ai hl]
 exact NZ hn gc gx JB hD hp _ (az _)
theorem R1 {l:List Nu}{n:Nat}(hl:l.length=n)(h:∀i,i<n→aw l[i]! =true∧0≤rv l[i]!):H5 l n=true:=by
 unfold H5
 rw[cm]
 refine⟨aB hl,bc.2 fun x hx=>?_⟩
 obtain⟨i,hi,rfl⟩:=w4.1 hx
 have h1:=h i (by omega)
 rw[bI l i hi] at h1
 rw[cm]
 refine⟨h1.1,aB ?_⟩
 have h2:=tS h1.1
 have:¬bL l[i]<0:=fun e=>by have:=h2.1 e;grind
 omega
section
variable {m nn:Nat} {A B C x y b c:List Nu} {D:Rat}
theorem zi(hs:Sz m nn A B C)(hx:x.length=nn)(gx:∀k,k<nn→aw x[k]! =true∧0≤rv x[k]!)(JB:D≠0)(hD:IsI D KT)(dx:∀k,k<nn→Dn D KT (rv x[k]!))(hb:b.length=m)(gb:∀i,i<m→aw b[i]! =true)(hle:∀i,i<m→aG nn (fun k=>rv A[i*nn+k]! *rv x[k]!)≤rv b[i]!):ly m nn A x b=true:=by
 unfold ly
 rw[cm]
 refine⟨R1 hx gx,?_⟩
 unfold C6
 rw[bc]
 intro i hi
 have hi:=kz.1 hi
 rw[hb] at hi
 have hlen:(rI A nn i).length=nn:=by
  by_cases h0:nn=0
  ·subst h0;unfold rI;simp
  ·exact (z5 hs.lA hi (k:=0) (by omega)).1
 have hn5:=hs.n5
 have gj:∀k,k<nn→(rI A nn i)[k]! =A[i*nn+k]! :=fun k hk=>(z5 hs.lA hi hk).2
 obtain⟨v1,v2⟩:=tO (c:=rI A nn i) (x:=x) (by omega) (by omega) (fun k hk=>by rw[gj k (by omega)];exact (hs.gA _ (hs.idx hi (by omega))).1) (fun k hk=>(gx k (by omega)).1) JB hD fun k hk=>by
  rw[gj k (by omega)]
  exact Dn.int (hs.gA _ (hs.idx hi (by omega))).2 (dx k (by omega))
 rw[cm]
 refine⟨v1,aB ?_⟩
 rw[(r5 v1 (gb i hi)).1,v2,hlen,ay fun k hk=>by rw[gj k hk]]
 exact hle i hi
theorem GV(hs:Sz m nn A B C)(hy:y.length=m)(gy:∀i,i<m→aw y[i]! =true∧0≤rv y[i]!)(JB:D≠0)(hD:IsI D KT)(dy:∀i,i<m→Dn D KT (rv y[i]!))(hc:c.length=nn)(gc:∀k,k<nn→aw c[k]! =true)(hle:∀k,k<nn→rv c[k]!≤aG m (fun i=>rv A[i*nn+k]! *rv y[i]!)):pM m nn A y c=true:=by
 unfold pM
 rw[cm]
 refine⟨R1 hy gy,?_⟩
 unfold C6
 rw[bc]
 intro k hk
 have hk:=kz.1 hk
 rw[hc] at hk
 have hm6:=hs.m6
 have hlen:(wP A m nn k).length=m:=by simp[wP]
 have gj:∀i,i<m→(wP A m nn k)[i]! =A[i*nn+k]! :=fun i hi=>K0 hi
 obtain⟨v1,v2⟩:=tO (c:=wP A m nn k) (x:=y) (by omega) (by omega) (fun i hi=>by rw[gj i (by omega)];exact (hs.gA _ (hs.idx (by omega) hk)).1) (fun i hi=>(gy i (by omega)).1) JB hD fun i hi=>by
  rw[gj i (by omega)]
  exact Dn.int (hs.gA _ (hs.idx (by omega) hk)).2 (dy i (by omega))
 rw[cm]
 refine⟨v1,aB ?_⟩
 rw[(r5 v1 (gc k hk)).2.1,v2,hlen,ay fun i hi=>by rw[gj i hi]]
 exact hle k hk
def yOf(m nn:Nat)(A B:List Nu)(v:Nat→Rat)(t:Nat):Rat:=if t=0 then 0 else if t<1+nn then v (t - 1) else rv B[t - (1+nn)]! - aG nn fun k=>rv A[(t - (1+nn))*nn+k]! *v k
theorem Ra {v:Nat→Rat}{k:Nat}(hk:k<nn):yOf m nn A B v (k+1)=v k:=by
 unfold yOf
 rw[ah (by omega),ai (by omega),ve]
theorem yOf_i {v:Nat→Rat}{i:Nat}:yOf m nn A B v (1+nn+i)=rv B[i]! - aG nn fun k=>rv A[i*nn+k]! *v k:=by
 unfold yOf
 rw[ah (by omega),ah (by omega),show 1+nn+i - (1+nn)=i by omega]
theorem NX(v:Nat→Rat):Eqs m nn A B 0 (yOf m nn A B v):=fun i hi=>by
 rw[yOf_i,ay (f:=fun k=>rv A[i*nn+k]! *yOf m nn A B v (k+1)) (g:=fun k=>rv A[i*nn+k]! *v k) fun k hk=>by rw[Ra hk]]
 grind
theorem dual {gk:Nu}{gc:List Nu}{cc:Nat→Rat}(h:∀v:Nat→Rat,bM (1+nn+m) gk gc (yOf m nn A B v)=aG nn fun k=>cc k*v k):rv gk=aG m (fun i=>-rv gc[1+nn+i]! *rv B[i]!)∧∀k,k<nn→cc k=rv gc[k+1]! +aG m fun i=>rv A[i*nn+k]! *-rv gc[1+nn+i]! :=by
 have hw:∀v:Nat→Rat,rv gk+(aG nn (fun k=>rv gc[k+1]! *v k)+aG m fun i=>rv gc[1+nn+i]! *(rv B[i]! - aG nn fun k=>rv A[i*nn+k]! *v k))=aG nn fun k=>cc k*v k:=fun v=>by
  rw[←h v]
  unfold bM
  rw[sum3,ay (f:=fun k=>rv gc[k+1]! *yOf m nn A B v (k+1)) (g:=fun k=>rv gc[k+1]! *v k) fun k hk=>by rw[Ra hk],ay (f:=fun i=>rv gc[1+nn+i]! *yOf m nn A B v (1+nn+i)) (g:=fun i=>rv gc[1+nn+i]! *(rv B[i]! - aG nn fun k=>rv A[i*nn+k]! *v k)) fun i _=>by rw[yOf_i]]
  have:yOf m nn A B v 0=0:=ai rfl
  rw[this,qI,Rat.zero_add]
 have z:∀f:Nat→Rat,aG nn (fun k=>f k*(0:Rat))=0:=fun f=>by rw[ay (g:=fun _=>0) fun k _=>qI _,eI]
 have one:∀(f:Nat→Rat) (j:Nat),j<nn→aG nn (fun k=>f k*(if k=j then 1 else 0:Rat))=f j:=fun f j hj=>by
  rw[ay (g:=fun k=>if k=j then f j else 0) fun k _=>?_,l9 j _ nn hj]
  by_cases e:k=j
  ·rw[ai e,ai e,e,Rat.mul_one]
  ·rw[ah e,ah e,qI]
 have h0:=hw fun _=>0
 rw[z,z,ay (f:=fun i=>rv gc[1+nn+i]! *(rv B[i]! - aG nn fun k=>rv A[i*nn+k]! *0)) (g:=fun i=>(-1)*(-rv gc[1+nn+i]! *rv B[i]!)) fun i _=>by rw[z];grind,eV] at h0
 refine⟨by grind,fun k hk=>?_⟩
 have h1:=hw fun j=>if j=k then 1 else 0
 rw[one _ k hk,one _ k hk,ay (f:=fun i=>rv gc[1+nn+i]! *(rv B[i]! - aG nn fun j=>rv A[i*nn+j]! *(if j=k then 1 else 0:Rat))) (g:=fun i=>(-1)*(-rv gc[1+nn+i]! *rv B[i]!)+rv A[i*nn+k]! *-rv gc[1+nn+i]!) fun i _=>by rw[one _ k hk];grind,li (fun i=>(-1)*(-rv gc[1+nn+i]! *rv B[i]!)),eV] at h1
 grind
end
section
variable {m nn:Nat} {A B C:List Nu} {M:Nat→Col} {k0:Col} {d:Dic}
theorem yW(h:Inv d (1+nn+m)):(bS d nn).length=m∧∀i,i<m→(bS d nn)[i]! =e9 d.gc[1+nn+i]! :=by
 have hl:=h.fine.lg
 refine⟨by unfold bS;rw[a8,fc];omega,fun i hi=>dJ ?_⟩
 unfold bS
 rw[dT,nt,show nn+1+i=1+nn+i by omega,uR (by omega)]
 rfl
theorem JW(l:List Row)(of':Row→Nu)(other:Nat→Nu){k:Nat}(hk:k<nn):(∃j,j<l.length∧l[j]!.b=((k+1:Nat):Int)∧(cP l nn of' other)[k]! =of' l[j]!)∨((∀j,j<l.length→l[j]!.b≠((k+1:Nat):Int))∧(cP l nn of' other)[k]! =other (k+1)):=by
 have e:(cP l nn of' other)[k]! =if 0≤dA l ((k+1:Nat):Int) then of' l[(dA l ((k+1:Nat):Int)).toNat]! else other (k+1):=dJ (b7 _ hk)
 rcases ru l ((k+1:Nat):Int) with⟨h1,h2⟩|⟨i,h1,h2,h3⟩
 ·rw[h1,ah (by decide)] at e
  exact .inr ⟨h2,e⟩
 ·rw[h2,ai (by omega),show ((i:Int)).toNat=i by omega] at e
  exact .inl ⟨i,h1,h3,e⟩
theorem zT(l:List Row)(of':Row→Nu)(other:Nat→Nu):(cP l nn of' other).length=nn:=by unfold cP;simp
theorem Ok.vals(h:Ok M k0 d (1+nn+m) m)(hB:Bd M k0 (1+nn+m) m BT)(hm:m≤6)(hf:sF d):∃D:Rat,D≠0∧IsI D KT∧∀k,k<nn→(aw (cP d.rows nn Row.k fun _=>nOf 0)[k]! =true∧0≤rv (cP d.rows nn Row.k fun _=>nOf 0)[k]!)∧Dn D KT (rv (cP d.rows nn Row.k fun _=>nOf 0)[k]!)∧rv (cP d.rows nn Row.k fun _=>nOf 0)[k]! =mY d (k+1):=by
 obtain⟨D,b0,b1,b2,b3,b4,b5⟩:=h.bound hB
 have hK:=Ly hm
 have hl:=h.len
 refine⟨D,b0,b1.mono hK,fun k hk=>?_⟩
 rcases JW d.rows Row.k (fun _=>nOf 0) hk with⟨j,hj,e,e2⟩|⟨e,e2⟩
 ·rw[e2]
  refine⟨⟨(bm.1 (h.inv.fine.gr j hj)).1,hf j hj⟩,(b2 j (by omega)).mono hK,?_⟩
  have:=h.inv.bsol_row hj
  rw[e] at this
  exact this.symm
 ·rw[e2,of0.2]
  exact⟨⟨of0.1,Rat.le_refl⟩,Dn.zero _ _,(lx fun⟨j,hj,e3⟩=>e j hj e3).symm⟩
theorem Ok.prices(h:Ok M k0 d (1+nn+m) m)(hB:Bd M k0 (1+nn+m) m BT)(hm:m≤6)(hg:∀t,t<1+nn+m→rv d.gc[t]!≤0):∃D:Rat,D≠0∧IsI D KT∧∀i,i<m→(aw (bS d nn)[i]! =true∧0≤rv (bS d nn)[i]!)∧Dn D KT (rv (bS d nn)[i]!)∧rv (bS d nn)[i]! =-rv d.gc[1+nn+i]! :=by
 obtain⟨D,b0,b1,b2,b3,b4,b5⟩:=h.bound hB
 have hK:=Ly hm
 refine⟨D,b0,b1.mono hK,fun i hi=>?_⟩
 rw[(yW h.inv).2 i hi,rk,lR]
 have h1:=hg (1+nn+i) (by omega)
 exact⟨⟨(bm.1 h.inv.fine.gg).2 _ (by rw[h.inv.fine.lg];omega),by grind⟩,((b5 _ (by omega)).mono hK).neg,rfl⟩
theorem best_ok(hs:Sz m nn A B C)(h:Ok M k0 d (1+nn+m) m)(hB:Bd M k0 (1+nn+m) m BT)(hf:sF d)(iq:∀y,Sol d (1+nn+m) y↔Eqs m nn A B 0 y)(sX:∀y,Sol d (1+nn+m) y→bM (1+nn+m) d.gk d.gc y=aG nn fun k=>rv C[k]! *y (k+1))(hg:∀t,t<1+nn+m→rv d.gc[t]!≤0):
  jE m nn A B C ⟨1,cP d.rows nn Row.k fun _=>nOf 0,bS d nn,[]⟩=true:=by
 obtain⟨D,d0,d1,hx⟩:=h.vals hB hs.m6 hf
 obtain⟨E,e0,e1,hy⟩:=h.prices hB hs.m6 hg
 have hlC:=hs.lC
 have hn5:=hs.n5
 have hm6:=hs.m6
 have Jy:=(yW h.inv).1
 obtain⟨du1,du2⟩:=dual (A:=A) (B:=B) (gk:=d.gk) (gc:=d.gc) (cc:=fun k=>rv C[k]!) fun v=>by
  rw[sX _ ((iq _).2 (NX v))]
  exact ay fun k hk=>by rw[Ra hk]
 have hbe:=(iq _).1 h.inv.bsol
 have hal:ly m nn A (cP d.rows nn Row.k fun _=>nOf 0) B=true:=by
  refine zi hs (zT _ _ _) (fun k hk=>(hx k hk).1) d0 d1 (fun k hk=>(hx k hk).2.1) hs.lB (fun i hi=>(hs.gB i hi).1) fun i hi=>?_
  have h1:=hbe i hi
  have h2:=h.inv.bnon hf (t:=1+nn+i)
  rw[ay fun k hk=>by rw[(hx k hk).2.2]]
  grind
 have MD:pM m nn A (bS d nn) C=true:=by
  refine GV hs Jy (fun i hi=>(hy i hi).1) e0 e1 (fun i hi=>(hy i hi).2.1) hlC (fun k hk=>(hs.gC k hk).1) fun k hk=>?_
  have h1:=du2 k hk
  have h2:=hg (k+1) (by omega)
  rw[ay fun i hi=>by rw[(hy i hi).2.2]]
  grind
 obtain⟨v1,v2⟩:=tO (c:=C) (x:=cP d.rows nn Row.k fun _=>nOf 0) (by rw[zT];exact hlC) (by omega) (fun k hk=>(hs.gC k (by omega)).1) (fun k hk=>(hx k (by omega)).1.1) d0 d1 fun k hk=>Dn.int (hs.gC k (by omega)).2 (hx k (by omega)).2.1
 obtain⟨w1,w2⟩:=tO (c:=bS d nn) (x:=B) (by rw[hs.lB];exact Jy) (by omega) (fun i hi=>(hy i (by omega)).1.1) (fun i hi=>(hs.gB i (by omega)).1) e0 e1 fun i hi=>by
  rw[BY]
  exact Dn.int (hs.gB i (by omega)).2 (hy i (by omega)).2.1
 have heq:cJ C (cP d.rows nn Row.k fun _=>nOf 0)=cJ (bS d nn) B:=by
  refine As v1 w1 ?_
  have h1:=sX _ h.inv.bsol
  rw[h.inv.bgoal] at h1
  rw[v2,w2,hlC,Jy,ay (f:=fun i=>rv (bS d nn)[i]! *rv B[i]!) (g:=fun i=>-rv d.gc[1+nn+i]! *rv B[i]!) fun i hi=>by rw[(hy i hi).2.2],←du1,h1]
  exact ay fun k hk=>by rw[(hx k hk).2.2]
 unfold jE
 rw[ai rfl]
 dsimp only
 rw[hal,MD,v1,←heq]
 simp
theorem none_ok(hs:Sz m nn A B C)(h:Ok M k0 d (1+nn+m) m)(hB:Bd M k0 (1+nn+m) m BT)(iq:∀y,Sol d (1+nn+m) y↔Eqs m nn A B (y 0) y)(sX:∀y,Sol d (1+nn+m) y→bM (1+nn+m) d.gk d.gc y=-y 0)(hg:∀t,t<1+nn+m→rv d.gc[t]!≤0)(hk:bL d.gk<0):
  jE m nn A B C ⟨2,[],bS d nn,[]⟩=true:=by
 obtain⟨E,e0,e1,hy⟩:=h.prices hB hs.m6 hg
 have hm6:=hs.m6
 have Jy:=(yW h.inv).1
 have xy:=(tS (bm.1 h.inv.fine.gg).1).1 hk
 have y00:∀v,yOf m nn A B v 0=0:=fun v=>ai rfl
 obtain⟨du1,du2⟩:=dual (A:=A) (B:=B) (gk:=d.gk) (gc:=d.gc) (cc:=fun _=>0) fun v=>by
  rw[sX _ ((iq _).2 (by rw[y00];exact NX v)),y00,ay (g:=fun _=>0) fun k _=>I1 _,eI]
  grind
 have MD:pM m nn A (bS d nn) (List.replicate nn (nOf 0))=true:=by
  refine GV hs Jy (fun i hi=>(hy i hi).1) e0 e1 (fun i hi=>(hy i hi).2.1) (tF ..) (fun k hk=>by rw[mB hk];exact of0.1) fun k hk=>?_
  have h1:=du2 k hk
  have h2:=hg (k+1) (by omega)
  rw[mB hk,of0.2,ay fun i hi=>by rw[(hy i hi).2.2]]
  grind
 obtain⟨w1,w2⟩:=tO (c:=bS d nn) (x:=B) (by rw[hs.lB];exact Jy) (by omega) (fun i hi=>(hy i (by omega)).1.1) (fun i hi=>(hs.gB i (by omega)).1) e0 e1 fun i hi=>by
  rw[BY]
  exact Dn.int (hs.gB i (by omega)).2 (hy i (by omega)).2.1
 have hv:rv (cJ (bS d nn) B)=rv d.gk:=by rw[w2,Jy,ay fun i hi=>by rw[(hy i hi).2.2],←du1]
 have hsg:bL (cJ (bS d nn) B)=-1:=by
  rw[rL w1,hv]
  exact w7 (Kd.2 xy)
 unfold jE qR
 rw[ah (show ¬(2:Int)=1 by decide),ai rfl]
 dsimp only
 rw[MD,w1,hsg]
 simp
theorem ray_ok(hs:Sz m nn A B C)(h:Ok M k0 d (1+nn+m) m)(hB:Bd M k0 (1+nn+m) m BT)(hf:sF d)(iq:∀y,Sol d (1+nn+m) y↔Eqs m nn A B 0 y)(sX:∀y,Sol d (1+nn+m) y→bM (1+nn+m) d.gk d.gc y=aG nn fun k=>rv C[k]! *y (k+1)){s:Nat}(hsw:s<1+nn+m)(hg:0<rv d.gc[s]!)(hc:∀i,i<m→0≤rv d.rows[i]!.c[s]!):
  jE m nn A B C ⟨3,cP d.rows nn Row.k fun _=>nOf 0,[],cP d.rows nn (fun r=>r.c[s]!) fun v=>if (v:Int)=(s:Int) then nOf 1 else nOf 0⟩=true:=by
 have hI:=h.inv
 have hl:=h.len
 obtain⟨D,d0,d1,hx⟩:=h.vals hB hs.m6 hf
 obtain⟨E,b0,b1,b2,b3,b4,b5⟩:=h.bound hB
 have hK:=Ly hs.m6
 have hlC:=hs.lC
 have hn5:=hs.n5
 have SZ:¬Bas d s:=fun hb=>by
  have:=(hI.bas hb).2.1
  rw[this,of0.2] at hg;grind
 -- numbers that fit,with qu variable raised by 1
 obtain⟨y,hy,hv⟩:=hI.pick fun r=>if r=s then 1 else 0
 have P8:y s=1:=by rw[hv s fun j hj e=>SZ ⟨j,hj,e⟩,ai rfl]
 have hy0:∀t,¬Bas d t→t≠s→y t=0:=fun t hb rl=>by rw[hv t fun j hj e=>hb ⟨j,hj,e⟩,ah rl]
 obtain⟨h1,h2⟩:=hI.at hsw SZ hy fun t _ hb rl=>hy0 t hb rl
 have hdel:∀t,0≤y t - mY d t:=fun t=>by
  by_cases hb:Bas d t
  ·obtain⟨j,hj,e⟩:=hb
   have e1:=h1 j hj
   have e2:=hI.bsol_row hj
   rw[show d.rows[j]!.b.toNat=t by omega] at e1 e2
   have:=hc j (by omega)
   rw[e1,e2,P8];grind
  ·rw[lx hb]
   by_cases rl:t=s
   ·rw[rl,P8];grind
   ·rw[hy0 t hb rl];grind
 have hr:∀k,k<nn→aw (cP d.rows nn (fun r=>r.c[s]!) fun v=>if (v:Int)=(s:Int) then nOf 1 else nOf 0)[k]! =true∧Dn E KT (rv (cP d.rows nn (fun r=>r.c[s]!) fun v=>if (v:Int)=(s:Int) then nOf 1 else nOf 0)[k]!)∧rv (cP d.rows nn (fun r=>r.c[s]!) fun v=>if (v:Int)=(s:Int) then nOf 1 else nOf 0)[k]! =y (k+1) - mY d (k+1):=fun k hk=>by
  rcases JW d.rows (fun r=>r.c[s]!) (fun v=>if (v:Int)=(s:Int) then nOf 1 else nOf 0) hk with⟨j,hj,e,e2⟩|⟨e,e2⟩
  ·rw[e2]
   refine⟨(bm.1 (hI.fine.gr j hj)).2 s (by rw[hI.fine.lr j hj];exact hsw),(b4 j s (by omega) hsw).mono hK,?_⟩
   have e1:=h1 j hj
   have e3:=hI.bsol_row hj
   rw[show d.rows[j]!.b.toNat=k+1 by omega] at e1 e3
   rw[e1,e3,P8];grind
  ·rw[e2]
   have hb:¬Bas d (k+1):=fun⟨j,hj,e3⟩=>e j hj e3
   rw[lx hb]
   by_cases rl:k+1=s
   ·rw[ai (by omega),rl,P8,of1.2]
    exact⟨of1.1,(Dn.of b1 (IsI.one (az 1))).mono (by omega),by grind⟩
   ·rw[ah (by omega),hy0 _ hb rl,of0.2]
    exact⟨of0.1,Dn.zero _ _,by grind⟩
 generalize hray:(cP d.rows nn (fun r=>r.c[s]!) fun v=>if (v:Int)=(s:Int) then nOf 1 else nOf 0)=ray at hr ⊢
 have hrl:ray.length=nn:=by rw[←hray,zT]
 have hbe:=(iq _).1 hI.bsol
 have hye:=(iq _).1 hy
 have hal:ly m nn A (cP d.rows nn Row.k fun _=>nOf 0) B=true:=by
  refine zi hs (zT _ _ _) (fun k hk=>(hx k hk).1) d0 d1 (fun k hk=>(hx k hk).2.1) hs.lB (fun i hi=>(hs.gB i hi).1) fun i hi=>?_
  have h1:=hbe i hi
  have h2:=hI.bnon hf (t:=1+nn+i)
  rw[ay fun k hk=>by rw[(hx k hk).2.2]]
  grind
 have har:ly m nn A ray (List.replicate m (nOf 0))=true:=by
  refine zi hs hrl (fun k hk=>⟨(hr k hk).1,by rw[(hr k hk).2.2];exact hdel _⟩) b0 (b1.mono hK) (fun k hk=>(hr k hk).2.1) (tF ..) (fun i hi=>by rw[mB hi];exact of0.1) fun i hi=>?_
  have h1:=hbe i hi
  have h2:=hye i hi
  have h3:=hdel (1+nn+i)
  rw[mB hi,of0.2,ay (g:=fun k=>rv A[i*nn+k]! *y (k+1) - rv A[i*nn+k]! *mY d (k+1)) fun k hk=>by rw[(hr k hk).2.2];grind,zW (fun k=>rv A[i*nn+k]! *y (k+1))]
  grind
 obtain⟨v1,v2⟩:=tO (c:=C) (x:=ray) (by omega) (by omega) (fun k hk=>(hs.gC k (by omega)).1) (fun k hk=>(hr k (by omega)).1) b0 (b1.mono hK) fun k hk=>Dn.int (hs.gC k (by omega)).2 (hr k (by omega)).2.1
 have hpos:0<rv (cJ C ray):=by
  rw[v2,hlC,ay (g:=fun k=>rv C[k]! *y (k+1) - rv C[k]! *mY d (k+1)) fun k hk=>by rw[(hr k hk).2.2];grind,zW (fun k=>rv C[k]! *y (k+1)),←sX y hy,←sX _ hI.bsol,hI.bgoal,h2,P8]
  grind
 have hsg:bL (cJ C ray)=1:=by
  rw[rL v1]
  exact sf (Kc.2 hpos)
 unfold jE qR
 rw[ah (show ¬(3:Int)=1 by decide),ah (show ¬(3:Int)=2 by decide),ai rfl]
 dsimp only
 rw[hal,har,v1,hsg]
 simp
theorem TR(hs:Sz m nn A B C)(h:Ok M k0 d (1+nn+m) m)(hB:Bd M k0 (1+nn+m) m BT)(MT:∀r,r<m→M (1+nn+m) r=0)(Q6:M (1+nn+m) m=1)(OT:∀j,j<m→d.rows[j]!.b≠0)(hf:sF d)(iq:∀y,y 0=0→(Sol d (1+nn+m) y↔Eqs m nn A B 0 y)){N:Nat}(hN:∀k,nr (1+nn+m) k≤N)(hp:d.piv+N≤d.most):
  ∃a n,we nn d C=(a,n,0)∧jE m nn A B C a=true∧d.piv≤n∧n≤d.piv+N∧a.kind≠2:=by
 obtain⟨M2,k2,e1,hok,hB2,LL,Ep,C0⟩:=h.aim hB hs.m6 MT Q6 OT (show nn+1≤1+nn+m by omega) hs.lC hs.gC
 have SO:(mL d C).piv=d.piv∧(mL d C).most=d.most:=⟨rfl,rfl⟩
 obtain⟨s,d3,e2,Kx,ON,hS3,hpv3,KA⟩:=hok.improve hB2 (C0 hf) hN (by rw[SO.1,SO.2];exact hp)
 have hsol3:∀y,Sol d3 (1+nn+m) y↔Eqs m nn A B 0 y:=fun y=>by
  rw[hS3.sol y,LL y,iq _ (ai rfl)]
  unfold Eqs
  constructor
  ·intro hh i hi
   have:=hh i hi
   dsimp only at this
   rw[ah (by omega),ay (g:=fun k=>rv A[i*nn+k]! *y (k+1)) fun k _=>by rw[ah (by omega)]] at this
   exact this
  ·intro hh i hi
   dsimp only
   rw[ah (by omega),ay (g:=fun k=>rv A[i*nn+k]! *y (k+1)) fun k _=>by rw[ah (by omega)]]
   exact hh i hi
 have Ta:∀y,Sol d3 (1+nn+m) y→bM (1+nn+m) d3.gk d3.gc y=aG nn fun k=>rv C[k]! *y (k+1):=fun y hy=>by
  rw[hS3.goal y ((hS3.sol y).1 hy)]
  exact Ep y ((hS3.sol y).1 hy)
 have hp3:=hS3.piv
 unfold we
 rw[e1]
 dsimp only
 rw[ah (by simp),e2]
 dsimp only
 rw[ah (by simp)]
 rcases KA with⟨rfl,hg⟩|⟨s',rfl,a2,a3,a4⟩
 ·rw[ai (by decide)]
  exact⟨_,_,rfl,best_ok hs Kx hB2 ON hsol3 Ta hg,by omega,by omega,by show (1:Int)≠2;decide⟩
 ·rw[ah (by omega),show ((s':Int)).toNat=s' by omega]
  exact⟨_,_,rfl,ray_ok hs Kx hB2 ON hsol3 Ta a2 a3 a4,by omega,by omega,by show (3:Int)≠2;decide⟩
theorem GR(hs:Sz m nn A B C){most:Int}{N:Nat}(hN:∀k,nr (1+nn+m) k≤N)(Ej:2*(N:Int)+20≤most):
  ∃a n,iw m nn A B C most=(a,n,0)∧0≤n∧n≤most∧jE m nn A B C a=true∧(a.kind=2→∃D:Rat,D≠0∧IsI D KT∧∀i,i<m→Dn D KT (rv a.y[i]!)):=by
 unfold iw
 dsimp only
 by_cases n8:B.any (fun b=>decide (bL b<0))=true
 ·rw[ai n8]
  obtain⟨b,hb,CC⟩:=ND.1 n8
  obtain⟨i,hi,rfl⟩:=w4.1 hb
  have wb:i<m:=by rw[←hs.lB];exact hi
  have hneg':rv B[i]! <0:=by
   have h1:=(hs.gB i wb).1
   refine (tS h1).1 ?_
   rw[bI B i hi]
   exact bC CC
  obtain⟨M,k0,d',e1,hok,hB,MT,Q6,hf,hS,SO,KA⟩:=hs.begin (most:=most) wb hneg' hN (by omega)
  have hmo:d'.most=most:=hS.most
  have hp0:0≤d'.piv:=hS.piv
  have iq:∀y,Sol d' (1+nn+m) y↔Eqs m nn A B (y 0) y:=fun y=>(hS.sol y).trans (GQ y)
  rw[e1]
  dsimp only
  rw[ah (by simp)]
  rcases KA with⟨g1,g2⟩|⟨g1,g2⟩
  ·rw[ai g1]
   exact⟨_,_,rfl,hp0,by omega,none_ok hs hok hB iq (fun y hy=>by rw[hS.goal y ((hS.sol y).1 hy)];exact yR y) g2 g1,fun _=>by
    obtain⟨E,e0,e1,hy⟩:=hok.prices hB hs.m6 g2
    exact⟨E,e0,e1,fun i hi=>(hy i hi).2.1⟩⟩
  ·rw[ah g1]
   obtain⟨a,n,e2,h1,h2,h3,h4⟩:=TR hs hok hB MT Q6 g2 hf (fun y hy=>by rw[iq y,hy]) hN (by omega)
   exact⟨a,n,e2,by omega,by omega,h1,fun e=>absurd e h4⟩
 ·rw[ah n8]
  obtain⟨hok,hB,MT,Q6⟩:=hs.firstOk (most:=most)
  have hf:sF (aH m nn A B most):=fun i hi=>by
   rw[jG] at hi
   rw[s7 hi]
   have h1:=(hs.gB i hi).1
   have h2:=tS h1
   have:¬bL B[i]! <0:=fun e=>n8 (ND.2 ⟨B[i]!,by rw[bI B i (by rw[hs.lB];exact hi)];exact nK _,aB e⟩)
   grind
  obtain⟨a,n,e2,h1,h2,h3,h4⟩:=TR hs hok hB MT Q6 (fun j hj=>by rw[rt j hj];omega) hf (fun y _=>Qw y) hN (by show (0:Int)+N≤most;omega)
  have hp0:(aH m nn A B most).piv=0:=rfl
  exact⟨a,n,e2,by omega,by omega,h1,fun e=>absurd e h4⟩
theorem RA(hs:Sz m nn A B C){most:Int}{N:Nat}(hN:∀k,nr (1+nn+m) k≤N)(Ej:2*(N:Int)+20≤most):
  ∃a n,iw m nn A B C most=(a,n,0)∧0≤n∧n≤most∧jE m nn A B C a=true:=by
 obtain⟨a,n,h1,h2,h3,h4,_⟩:=GR hs hN Ej
 exact⟨a,n,h1,h2,h3,h4⟩
theorem K8:∀n,n≤12→∀k,nr n k≤924:=by
 have hz:∀n k,n<k→nr n k=0:=by
  intro n
  induction n with
  |zero=>intro k hk;cases k with|zero=>omega|succ k=>rfl
  |succ n ih=>
   intro k hk
   cases k with
   |zero=>omega
   |succ k=>show nr n k+nr n (k+1)=0;rw[ih k (by omega),ih (k+1) (by omega)]
 have hs:∀n,n<13→∀k,k<13→nr n k≤924:=by decide +kernel
 intro n hn k
 by_cases hk:k<13
 ·exact hs n (by omega) k hk
 ·rw[hz n k (by omega)];exact cr _
theorem solve_4000D(hs:Sz m nn A B C):∃a n,iw m nn A B C 4000=(a,n,0)∧0≤n∧n≤4000∧jE m nn A B C a=true∧(a.kind=2→∃D:Rat,D≠0∧IsI D KT∧∀i,i<m→Dn D KT (rv a.y[i]!)):=by
 have h1:=hs.m6
 have h2:=hs.n5
 exact GR hs (N:=924) (K8 _ (by omega)) (by decide)
theorem LX(hs:Sz m nn A B C):∃a n,iw m nn A B C 4000=(a,n,0)∧0≤n∧n≤4000∧jE m nn A B C a=true:=by
 have h1:=hs.m6
 have h2:=hs.n5
 exact RA hs (N:=924) (K8 _ (by omega)) (by decide)
end
end
section
structure RQ(m nn:Nat)(a:Nat→Nat→Rat)(b c:Nat→Rat)(kind:Int)(x y r:Nat→Rat):Prop where
 kinds:kind=1∨kind=2∨kind=3
 prim:kind≠2→(∀k,k<nn→0≤x k)∧∀i,i<m→aG nn (fun k=>a i k*x k)≤b i
 pos:kind≠3→∀i,i<m→0≤y i
 best:kind=1→(∀k,k<nn→c k≤aG m fun i=>a i k*y i)∧aG nn (fun k=>c k*x k)=aG m fun i=>y i*b i
 none:kind=2→(∀k,k<nn→0≤aG m fun i=>a i k*y i)∧aG m (fun i=>y i*b i)<0
 ray:kind=3→(∀k,k<nn→0≤r k)∧(∀i,i<m→aG nn (fun k=>a i k*r k)≤0)∧0<aG nn fun k=>c k*r k
section
variable {m nn:Nat} {a:Nat→Nat→Rat} {b c:Nat→Rat} {k1 k2:Int} {x y r x' y' r':Nat→Rat}
theorem Di(hx:∀k,k<nn→0≤x k)(h1:∀i,i<m→aG nn (fun k=>a i k*x k)≤b i)(hy:∀i,i<m→0≤y i)(h2:∀k,k<nn→0≤aG m (fun i=>a i k*y i))(h3:aG m (fun i=>y i*b i)<0):False:=by
 have:=weak (c:=fun _=>0) hx hy h1 h2
 rw[ay (g:=fun _=>0) fun k _=>I1 _,eI] at this
 grind
theorem Sd(hx:∀k,k<nn→0≤r k)(h1:∀i,i<m→aG nn (fun k=>a i k*r k)≤0)(hy:∀i,i<m→0≤y i)(h2:∀k,k<nn→c k≤aG m (fun i=>a i k*y i))(h3:0<aG nn (fun k=>c k*r k)):False:=by
 have:=weak (b:=fun _=>0) hx hy h1 h2
 rw[ay (f:=fun i=>_*(0:Rat)) (g:=fun _=>0) fun k _=>qI _,eI] at this
 grind
theorem RQ.agree(h:RQ m nn a b c k1 x y r)(h':RQ m nn a b c k2 x' y' r'):k1=k2∧(k1=1→aG nn (fun k=>c k*x k)=aG nn fun k=>c k*x' k):=by
 rcases h.kinds with e1|e1|e1 <;> rcases h'.kinds with e2|e2|e2
 ·refine⟨by omega,fun _=>?_⟩
  obtain⟨p1,p2⟩:=h.prim (by omega)
  obtain⟨q1,q2⟩:=h'.prim (by omega)
  obtain⟨s1,s2⟩:=h.best e1
  obtain⟨t1,t2⟩:=h'.best e2
  have w1:=weak p1 (h'.pos (by omega)) p2 t1
  have w2:=weak q1 (h.pos (by omega)) q2 s1
  grind
 ·obtain⟨p1,p2⟩:=h.prim (by omega)
  obtain⟨q1,q2⟩:=h'.none e2
  exact (Di p1 p2 (h'.pos (by omega)) q1 q2).elim
 ·obtain⟨q1,q2,q3⟩:=h'.ray e2
  exact (Sd q1 q2 (h.pos (by omega)) (h.best e1).1 q3).elim
 ·obtain⟨p1,p2⟩:=h'.prim (by omega)
  obtain⟨q1,q2⟩:=h.none e1
  exact (Di p1 p2 (h.pos (by omega)) q1 q2).elim
 ·exact⟨by omega,fun e=>by omega⟩
 ·obtain⟨p1,p2⟩:=h'.prim (by omega)
  obtain⟨q1,q2⟩:=h.none e1
  exact (Di p1 p2 (h.pos (by omega)) q1 q2).elim
 ·obtain⟨q1,q2,q3⟩:=h.ray e1
  exact (Sd q1 q2 (h'.pos (by omega)) (h'.best e2).1 q3).elim
 ·obtain⟨p1,p2⟩:=h.prim (by omega)
  obtain⟨q1,q2⟩:=h'.none e2
  exact (Di p1 p2 (h'.pos (by omega)) q1 q2).elim
 ·exact⟨by omega,fun e=>by omega⟩
theorem rG(f:Nat→Rat):∀n,aG n (fun i=>f (n - 1 - i))=aG n f
 |0=>rfl
 |n+1=>by
  have ih:=rG (fun i=>f (i+1)) n
  have h1:aG (n+1) f=f 0+aG n fun i=>f (i+1):=by
   rw[show n+1=1+n by omega,uG 1 f n]
   have:aG 1 f=f 0:=by show 0+f 0=f 0;grind
   rw[this,ay (f:=fun i=>f (1+i)) (g:=fun i=>f (i+1)) fun i _=>by rw[o4]]
  show aG n (fun i=>f (n+1 - 1 - i))+f (n+1 - 1 - n)=aG (n+1) f
  rw[h1,←ih,ay (f:=fun i=>f (n+1 - 1 - i)) (g:=fun i=>f (n - 1 - i+1)) fun i hi=>by congr 1;omega,show n+1 - 1 - n=0 by omega]
  grind
theorem RQ.rev(h:RQ m nn a b c k1 x y r){f:Rat}(hf:0<f):RQ m nn (fun i k=>a (m - 1 - i) (nn - 1 - k)) (fun i=>b (m - 1 - i)*f) (fun k=>c (nn - 1 - k)) k1 (fun k=>f*x (nn - 1 - k)) (fun i=>y (m - 1 - i)) (fun k=>r (nn - 1 - k)):=by
 have hf0:=Rat.le_of_lt hf
 have sr:∀(i:Nat) (z:Nat→Rat),aG nn (fun k=>a i (nn - 1 - k)*z (nn - 1 - k))=aG nn fun k=>a i k*z k:=fun i z=>rG (fun k=>a i k*z k) nn
 have sc:∀k,aG m (fun i=>a (m - 1 - i) k*y (m - 1 - i))=aG m fun i=>a i k*y i:=fun k=>rG (fun i=>a i k*y i) m
 have sx:∀i,aG nn (fun k=>a i (nn - 1 - k)*(f*x (nn - 1 - k)))=f*aG nn fun k=>a i k*x k:=fun i=>by
  rw[←sr i x,←eV]
  exact ay fun k _=>by grind
 have sv:aG nn (fun k=>c (nn - 1 - k)*(f*x (nn - 1 - k)))=f*aG nn fun k=>c k*x k:=by
  rw[←rG (fun k=>c k*x k) nn,←eV]
  exact ay fun k _=>by grind
 have sb:aG m (fun i=>y (m - 1 - i)*(b (m - 1 - i)*f))=f*aG m fun i=>y i*b i:=by
  rw[←rG (fun i=>y i*b i) m,←eV]
  exact ay fun i _=>by grind
 refine⟨h.kinds,fun e=>⟨fun k hk=>BX hf0 ((h.prim e).1 _ (by omega)),fun i hi=>?_⟩,fun e i hi=>h.pos e _ (by omega),fun e=>⟨fun k hk=>?_,?_⟩,fun e=>⟨fun k hk=>?_,?_⟩,fun e=>⟨fun k hk=>(h.ray e).1 _ (by omega),fun i hi=>?_,?_⟩⟩
 ·rw[sx,BY (b _)]
  exact Ns ((h.prim e).2 _ (by omega)) hf0
 ·rw[sc];exact (h.best e).1 _ (by omega)
 ·rw[sv,sb,(h.best e).2]
 ·rw[sc];exact (h.none e).1 _ (by omega)
 ·rw[sb]
  have h2:=(h.none e).2
  have:=Rat.mul_pos hf (show 0< -(aG m fun i=>y i*b i) by grind)
  grind
 ·rw[sr];exact (h.ray e).2.1 _ (by omega)
 ·rw[rG (fun k=>c k*r k) nn];exact (h.ray e).2.2
end
section
variable {m nn:Nat} {A B C:List Nu} {a:Ans}
theorem RM(hA:A.length=m*nn)(hB:B.length=m)(hC:C.length=nn)(hgB:∀i,i<m→aw B[i]! =true)(hgC:∀k,k<nn→aw C[k]! =true)(ha:jE m nn A B C a=true):RQ m nn (fun i k=>rv A[i*nn+k]!) (fun i=>rv B[i]!) (fun k=>rv C[k]!) a.kind (fun k=>rv a.x[k]!) (fun i=>rv a.y[i]!) (fun k=>rv a.ray[k]!)∧
  (a.kind=1→aw (cJ C a.x)=true∧rv (cJ C a.x)=aG nn fun k=>rv C[k]! *rv a.x[k]!)∧a.x.length≤nn∧a.y.length≤m∧a.ray.length≤nn:=by
 have h0g:∀n i,i<n→aw (List.replicate n (nOf 0))[i]! =true∧rv (List.replicate n (nOf 0))[i]! =0:=fun n i hi=>by rw[mB hi];exact of0
 unfold jE at ha
 by_cases e1:a.kind=1
 ·rw[ai e1] at ha
  simp only[cm] at ha
  obtain⟨⟨⟨h0,h1⟩,h2⟩,h3,h4⟩:=ha
  obtain⟨p1,p2,p3⟩:=u6 hA hB hgB h1
  obtain⟨q1,q2,q3⟩:=Co hC hgC h2
  obtain⟨_,v2⟩:=pe h3
  have h4:=bC h4
  obtain⟨_,v3⟩:=pe (by rw[←h4];exact h3)
  rw[hC] at v2
  rw[q1,←h4] at v3
  refine⟨⟨.inl e1,fun _=>⟨fun k hk=>(p2 k hk).2,p3⟩,fun _ i hi=>(q2 i hi).2,fun _=>⟨q3,v2.symm.trans v3⟩,fun e=>by omega,fun e=>by omega⟩,fun _=>⟨h3,v2⟩,by omega,by omega,by have:=bC h0;omega⟩
 ·rw[ah e1] at ha
  by_cases e2:a.kind=2
  ·rw[ai e2] at ha
   simp only[cm] at ha
   obtain⟨⟨h0,h1⟩,h2⟩:=ha
   obtain⟨q1,q2,q3⟩:=Co (by simp) (fun k hk=>(h0g nn k hk).1) h1
   unfold qR at h2
   rw[cm] at h2
   obtain⟨_,v3⟩:=pe h2.1
   have h3:=(tS h2.1).1 (by have:=bC h2.2;omega)
   rw[v3,q1] at h3
   have h0:=bC h0
   refine⟨⟨.inr (.inl e2),fun e=>absurd e2 e,fun _ i hi=>(q2 i hi).2,fun e=>absurd e e1,fun _=>⟨fun k hk=>by have:=q3 k hk;rwa[(h0g nn k hk).2] at this,h3⟩,fun e=>by omega⟩,fun e=>absurd e e1,by omega,by omega,by omega⟩
  ·rw[ah e2] at ha
   by_cases e3:a.kind=3
   ·rw[ai e3] at ha
    simp only[cm] at ha
    obtain⟨⟨⟨h0,h1⟩,h2⟩,h3⟩:=ha
    obtain⟨p1,p2,p3⟩:=u6 hA hB hgB h1
    obtain⟨q1,q2,q3⟩:=u6 hA (by simp) (fun i hi=>(h0g m i hi).1) h2
    unfold qR at h3
    rw[cm] at h3
    obtain⟨_,v3⟩:=pe h3.1
    have h4:=(J6 h3.1).1 (by have:=bC h3.2;omega)
    rw[v3,hC] at h4
    have h0:=bC h0
    refine⟨⟨.inr (.inr e3),fun _=>⟨fun k hk=>(p2 k hk).2,p3⟩,fun e=>absurd e3 e,fun e=>absurd e e1,fun e=>absurd e e2,fun _=>⟨fun k hk=>(q2 k hk).2,fun i hi=>by have:=q3 i hi;rwa[(h0g m i hi).2] at this,h4⟩⟩,fun e=>absurd e e1,by omega,by omega,by omega⟩
   ·rw[ah e3] at ha;cases ha
end
theorem den_mul(x:Rat):(x.den:Rat)*x=(x.num:Rat)∧(x.den:Rat)≠0:=by
 have h0:(x.den:Rat)≠0:=by exact_mod_cast x.den_nz
 have h:=Rat.mkRat_self x
 rw[Rat.mkRat_eq_div,iI] at h
 have:=wZ (x.den:Rat) h0
 exact⟨by grind,h0⟩
theorem Pq.int {a:Rat}{K:Nat}(h:IsI a K)(hK:1≤K):Pq K a:=by
 obtain⟨z,rfl,hz⟩:=h
 exact⟨by simpa using hz,by simpa using hK⟩
end
def j7(m8:a7):Int→Option (Int⊕(Bool⊕Unit)):=fun aD=>cnd (decide (aD<((m8.vA.vV).length:Int))) (gd (0≤aD∧aD<((m8.vA.vV).length:Int)) (bnd (eR (1:Int)) fun x4=>cnd (decide (¬((m8.vA.vV)[(aD).toNat]!.vD=x4))) (some (.inr (.inl false))) (some (.inl (i64.wrap (aD+(1:Int))))))) (some (.inr (.inr ())))
def jv(m8:a7):Int→Option (Int⊕(Bool⊕Unit)):=fun vT=>cnd (decide (vT<((m8.vB).length:Int))) (gd (0≤vT∧vT<((m8.vB).length:Int)) (bnd (eR (1:Int)) fun sL=>cnd (decide (¬((m8.vB)[(vT).toNat]!.vD=sL))) (some (.inr (.inl false))) (some (.inl (i64.wrap (vT+(1:Int))))))) (some (.inr (.inr ())))
def ju(m8:a7):Int→Option (Int⊕(Bool⊕Unit)):=fun jy=>cnd (decide (jy<((m8.vC).length:Int))) (gd (0≤jy∧jy<((m8.vC).length:Int)) (bnd (eR (1:Int)) fun sG=>cnd (decide (¬((m8.vC)[(jy).toNat]!.vD=sG))) (some (.inr (.inl false))) (some (.inl (i64.wrap (jy+(1:Int))))))) (some (.inr (.inr ())))
def nq(m8:a7):Option Bool:=bnd (bo (j7 m8) (0:Int)) fun y7=>match y7 with| .inl r=>some r| .inr ()=>bnd (bo (jv m8) (0:Int)) fun y14=>match y14 with| .inl r=>some r| .inr ()=>bnd (bo (ju m8) (0:Int)) fun y21=>match y21 with| .inl r=>some r| .inr ()=>some true
theorem Gf {m8:a7}{r:Bool}(h:nq m8=some r):ar prog 26 [dG d9 m8] (dB r):=by
 refine bn (rs:=[.tmp 2]) (fun cx hx h0=>?_) func26
 unfold nq at h
 refine rs hx fun K hK=>?_
 refine s1 (d:=.pt 0 0) gP ?_
 refine nbr hK ?_
 refine AW.seq (ra hx ?_)
 refine AW.block ?_
 obtain⟨y,hy,h⟩:=ae h
 refine lp (S:=Int) (X:=Bool⊕Unit) (fun aD=>[(1,.pt 0 0),(3,dI .i64 aD)]) (fun aD=>⟨[(0,[dI .i64 m8.vA.vR,dI .i64 m8.vA.vC,dL ak m8.vA.vV,dL ak m8.vB,dL ak m8.vC])],[],1⟩) (PS (PR [.tmp 2] fun r=>dB r) (PE cx (.exit 0) (fun ()=>[(1,.pt 0 0)]) fun ()=>⟨[(0,[dI .i64 m8.vA.vR,dI .i64 m8.vA.vC,dL ak m8.vA.vV,dL ak m8.vB,dL ak m8.vC])],[],1⟩)) hy ?_ ?_ ?_
 exact wk0 h0 [0]
 clear hy h
 rintro aD y h
 dsimp only[j7] at h
 refine AW.seq (rar hx ?_)
 refine cdh h rfl (fun f4 h=>?_) (fun f4 h=>?_)
 refine AW.skip (AW.seq (AW.block (rsd [88] hx fun K hK=>?_)))
 iterate 4 refine sbr ?_
 obtain⟨qU,h⟩:=aA h
 have xT:(aD).toNat<(m8.vA.vV).length:=by omega
 iterate 2 refine sbr ?_
 refine s1 (d:=dG aq ((m8.vA.vV)[(aD).toNat]!.vD)) (jA (c:=ak) (l:=m8.vA.vV) (n:=(aD).toNat) (o:=18) ff xT (by first|exact rfl|exact pG0 _ _ _ rfl|exact pG1 _ _ _ _ rfl rfl)) ?_
 refine cqb h iu fun x4 h=>?_
 refine s1 (xh tok 3 (by decide) eZ ff) ?_
 refine nl hK ?_
 refine cdh h rfl (fun rp h=>?_) (fun rp h=>?_)
 refine ra hx ?_
 refine AW.ret ?_
 cases h
 refine PS.r ⟨by nofun,PS.l (PR.i ?_)⟩
 exact rv1
 refine AW.skip (rb hx ?_)
 exact pel h h0 [0]
 exact AW.exit (peq h h0 [0])
 rcases y with r|⟨⟩
 rintro ex tm' hp' ⟨rfl,hw⟩
 cases h
 exact hw
 refine lwr ?_
 refine AW.seq (ra hx ?_)
 refine AW.block ?_
 obtain⟨y,hy,h⟩:=ae h
 refine lp (S:=Int) (X:=Bool⊕Unit) (fun vT=>[(1,.pt 0 0),(4,dI .i64 vT)]) (fun vT=>⟨[(0,[dI .i64 m8.vA.vR,dI .i64 m8.vA.vC,dL ak m8.vA.vV,dL ak m8.vB,dL ak m8.vC])],[],1⟩) (PS (PR [.tmp 2] fun r=>dB r) (PE cx (.exit 2) (fun ()=>[(1,.pt 0 0)]) fun ()=>⟨[(0,[dI .i64 m8.vA.vR,dI .i64 m8.vA.vC,dL ak m8.vA.vV,dL ak m8.vB,dL ak m8.vC])],[],1⟩)) hy ?_ ?_ ?_
 exact wk0 h0 [0]
 clear hy h
 rintro vT y h
 dsimp only[jv] at h
 refine AW.seq (rar hx ?_)
 refine cdh h rfl (fun t7 h=>?_) (fun t7 h=>?_)
 refine AW.skip (AW.seq (AW.block (rsd [88] hx fun K hK=>?_)))
 iterate 3 refine sbr ?_
 obtain⟨hc9,h⟩:=aA h
 have S2:(vT).toNat<(m8.vB).length:=by omega
 iterate 2 refine sbr ?_
 refine s1 (d:=dG aq ((m8.vB)[(vT).toNat]!.vD)) (jA (c:=ak) (l:=m8.vB) (n:=(vT).toNat) (o:=18) ff S2 (by first|exact rfl|exact pG0 _ _ _ rfl|exact pG1 _ _ _ _ rfl rfl)) ?_
 refine cqb h iu fun sL h=>?_
 refine s1 (xh tok 3 (by decide) eZ ff) ?_
 refine nl hK ?_
 refine cdh h rfl (fun Gz h=>?_) (fun Gz h=>?_)
 refine ra hx ?_
 refine AW.ret ?_
 cases h
 refine PS.r ⟨by nofun,PS.l (PR.i ?_)⟩
 exact rv1
 refine AW.skip (rb hx ?_)
 exact pel h h0 [0]
 exact AW.exit (peq h h0 [0])
 rcases y with r|⟨⟩
 rintro ex tm' hp' ⟨rfl,hw⟩
 cases h
 exact hw
 refine lwr ?_
 refine AW.seq (ra hx ?_)
 refine AW.block ?_
 obtain⟨y,hy,h⟩:=ae h
 refine lp (S:=Int) (X:=Bool⊕Unit) (fun jy=>[(1,.pt 0 0),(5,dI .i64 jy)]) (fun jy=>⟨[(0,[dI .i64 m8.vA.vR,dI .i64 m8.vA.vC,dL ak m8.vA.vV,dL ak m8.vB,dL ak m8.vC])],[],1⟩) (PS (PR [.tmp 2] fun r=>dB r) (PE cx (.exit 4) (fun ()=>[]) fun ()=>⟨[],[],0⟩)) hy ?_ ?_ ?_
 exact wk0 h0 [0]
 clear hy h
 rintro jy y h
 dsimp only[ju] at h
 refine AW.seq (rar hx ?_)
 refine cdh h rfl (fun MQ h=>?_) (fun MQ h=>?_)
 refine AW.skip (AW.seq (AW.block (rsd [88] hx fun K hK=>?_)))
 iterate 3 refine sbr ?_
 obtain⟨Qj,h⟩:=aA h
 have S1:(jy).toNat<(m8.vC).length:=by omega
 iterate 2 refine sbr ?_
 refine s1 (d:=dG aq ((m8.vC)[(jy).toNat]!.vD)) (jA (c:=ak) (l:=m8.vC) (n:=(jy).toNat) (o:=18) ff S1 (by first|exact rfl|exact pG0 _ _ _ rfl|exact pG1 _ _ _ _ rfl rfl)) ?_
 refine cqb h iu fun sG h=>?_
 refine s1 (xh tok 3 (by decide) eZ ff) ?_
 refine nl hK ?_
 refine cdh h rfl (fun Tl h=>?_) (fun Tl h=>?_)
 refine ra hx ?_
 refine AW.ret ?_
 cases h
 refine PS.r ⟨by nofun,PS.l (PR.i ?_)⟩
 exact rv1
 refine AW.skip (rb hx ?_)
 exact pel h h0 [0]
 exact AW.exit (peq h h0 [])
 rcases y with r|⟨⟩
 rintro ex tm' hp' ⟨rfl,hw⟩
 cases h
 exact hw
 refine lwr ?_
 refine ra hx ?_
 exact AW.ret (rtv h)
def c6(m8:a7):Int×(List am)→Option ((Int×(List am))⊕((List am))):=fun (aU,gM)=>cnd (decide ((0:Int)≤aU)) (gd (0≤aU∧aU<((m8.vA.vV).length:Int)) (gd ((gM++[(m8.vA.vV)[(aU).toNat]!]).length*136≤140737488355328) (some (.inl (i64.wrap (aU - (1:Int)),gM++[(m8.vA.vV)[(aU).toNat]!]))))) (some (.inr gM))
def c5(m8:a7)(l5:am):Int×(List am)→Option ((Int×(List am))⊕((List am))):=fun (vS,yB)=>cnd (decide ((0:Int)≤vS)) (gd (0≤vS∧vS<((m8.vB).length:Int)) (bnd (fB ((m8.vB)[(vS).toNat]!) l5) fun zF=>gd ((yB++[zF]).length*136≤140737488355328) (some (.inl (i64.wrap (vS - (1:Int)),yB++[zF]))))) (some (.inr yB))
def c0(m8:a7):Int×(List am)→Option ((Int×(List am))⊕((List am))):=fun (jy,yA)=>cnd (decide ((0:Int)≤jy)) (gd (0≤jy∧jy<((m8.vC).length:Int)) (gd ((yA++[(m8.vC)[(jy).toNat]!]).length*136≤140737488355328) (some (.inl (i64.wrap (jy - (1:Int)),yA++[(m8.vC)[(jy).toNat]!]))))) (some (.inr yA))
def ek(m8:a7)(cU:Int):Option Bool:=bnd (S:=Bool) (bnd (qn m8 (5:Int) (6:Int)) fun x1=>cnd (!x1) (some (true)) (bnd (nq m8) fun x4=>some (!x4))) fun dP=>cnd dP (bnd (j9) fun x8=>some x8) (bnd (mp (i64.wrap ((1:Int)+(i64.wrap (cU))))) fun l5=>bnd (some (i64.wrap (((m8.vA.vV).length:Int) - (1:Int)))) fun m9=>bnd (bo (c6 m8) (m9,([]:List am))) fun bD=>bnd (some (i64.wrap (((m8.vB).length:Int) - (1:Int)))) fun tL=>bnd (bo (c5 m8 l5) (tL,([]:List am))) fun lX=>bnd (some (i64.wrap (((m8.vC).length:Int) - (1:Int)))) fun HJ=>bnd (bo (c0 m8) (HJ,([]:List am))) fun q8=>bnd (gY m8 (4000:Int)) fun th=>bnd (gY (⟨(⟨m8.vA.vR,m8.vA.vC,bD⟩:fM),lX,q8⟩:a7) (4000:Int)) fun xO=>bnd (S:=Bool) (cnd (decide (th.2.2≠(0:Int))) (some (true)) (cnd (decide (xO.2.2≠(0:Int))) (some (true)) (some (decide (th.1.vKind≠xO.1.vKind))))) fun Hs=>cnd Hs (some false) (bnd (S:=Bool) (bnd (j9) fun x43=>cnd x43 (cnd (decide (th.1.vKind≠(1:Int))) (some (true)) (bnd (b9 q8 xO.1.vX) fun x47=>bnd (b9 m8.vC th.1.vX) fun x49=>bnd (fB x49 l5) fun Rc=>some (decide (x47=Rc)))) (some (false))) fun Hr=>some Hr))
theorem rB {m8:a7}{cU:Int}{r:Bool}(h:ek m8 cU=some r):ar prog 8 [dG d9 m8,dI .u8 cU] (dB r):=by
 refine bn (rs:=[.tmp 4]) (fun cx hx h0=>?_) func8
 unfold ek at h
 refine rs hx fun K hK=>?_
 refine s1 (d:=.pt 0 0) gP ?_
 refine nbr hK ?_
 iterate 2 refine AW.seq ?_
 obtain⟨dP,hy,h⟩:=ae h
 refine jn ((PE cx .normal (fun dP=>[(1,dI .u8 cU),(2,.pt 0 0),(23,dB dP)]) fun dP=>⟨[(0,[dI .i64 m8.vA.vR,dI .i64 m8.vA.vC,dL ak m8.vA.vV,dL ak m8.vB,dL ak m8.vC])],[],1⟩) dP) ?_ ?_
 replace h:=hy
 refine rq hx fun K hK=>?_
 refine s1 (d:=dG d9 m8) (T_ldA rE) ?_
 refine scb h JT fun x1 h=>?_
 refine mbr ?_
 rcases aF h with⟨fZ,h⟩|⟨fZ,h⟩
 refine nbr hK ?_
 exact pe1 h h0 [0]
 refine g1 (d:=dG d9 m8) fZ (T_ldA rE) ?_
 refine gcb h Gf fun x4 h=>?_
 refine nbr hK ?_
 exact pe1 h h0 [0]
 refine lw0 ?_
 refine cdh h rfl (fun t8 h=>?_) (fun t8 h=>?_)
 refine rs hx fun K hK=>?_
 refine scb h wx fun x8 h=>?_
 refine nbr hK ?_
 exact AW.ret (rtv h)
 refine AW.skip (rs hx fun K hK=>?_)
 refine mbr ?_
 refine scb h yK fun l5 h=>?_
 refine nbr hK ?_
 refine rs hx fun K hK=>?_
 iterate 6 refine sbr ?_
 refine s1 (d:=.ag [dI .i64 m8.vA.vR,dI .i64 m8.vA.vC,dN]) (dp wB) ?_
 refine s1 (d:=.ag [dI .i64 m8.vA.vR,dI .i64 m8.vA.vC,dN,dN,dN]) (dp rE) ?_
 refine s1 (d:=.pt 2 0) (pU rE) ?_
 refine s0 (Da (ds':=[dI .i64 m8.vA.vR,dI .i64 m8.vA.vC,dN,dN,dN]) rE) ?_
 refine nl hK ?_
 refine AW.seq (rs hx fun K hK=>?_)
 iterate 5 refine sbr ?_
 obtain⟨m9,wI,h⟩:=ae h
 replace wI:=bw wI
 refine s2 (d2:=dI .i64 m9) kE (fq (congrArg (dI .i64) wI)) ?_
 refine nl hK ?_
 refine AW.block ?_
 obtain⟨bD,hy,h⟩:=ae h
 refine lp (S:=Int×(List am)) (X:=(List am)) (fun (aU,gM)=>[(2,.pt 0 0),(5,.pt 1 0),(6,.pt 2 0),(7,dI .i64 aU)]) (fun (aU,gM)=>⟨[(0,[dI .i64 m8.vA.vR,dI .i64 m8.vA.vC,dL ak m8.vA.vV,dL ak m8.vB,dL ak m8.vC]),(1,dC (ak.f l5)),(2,[dI .i64 m8.vA.vR,dI .i64 m8.vA.vC,dO 3 ak gM,dN,dN])],[(3,(gM).length,36,43)],4⟩) (PE cx (.exit 0) (fun bD=>[(2,.pt 0 0),(5,.pt 1 0),(6,.pt 2 0)]) fun bD=>⟨[(0,[dI .i64 m8.vA.vR,dI .i64 m8.vA.vC,dL ak m8.vA.vV,dL ak m8.vB,dL ak m8.vC]),(1,dC (ak.f l5)),(2,[dI .i64 m8.vA.vR,dI .i64 m8.vA.vC,dO 3 ak bD,dN,dN])],[(3,(bD).length,36,43)],4⟩) hy ?_ ?_ ?_
 exact Wk.trans (Wk.nilOwn (ds':=[dI .i64 m8.vA.vR,dI .i64 m8.vA.vC,dO 3 ak ([]:List am),dN,dN]) 2 2 43 36) (wk h0 [0,1,2,3] (wR rfl (wR rfl (wR rfl (wR rfl wTn)))) (vR rfl (vC rfl (vR rfl wVn))) (wL rfl rfl wLn))
 clear hy h
 rintro⟨aU,gM⟩ y h
 dsimp only[c6] at h
 refine AW.seq (ra hx ?_)
 refine cdh h rfl (fun uP h=>?_) (fun uP h=>?_)
 refine AW.skip (AW.seq (AW.block (rqd [] hx fun K hK=>?_)))
 iterate 7 refine sbr ?_
 obtain⟨hc15,h⟩:=aA h
 have Qf:(aU).toNat<(m8.vA.vV).length:=by omega
 refine sbr ?_
 refine s1 (d:=dG ak ((m8.vA.vV)[(aU).toNat]!)) (jA (c:=ak) (l:=m8.vA.vV) (n:=(aU).toNat) (o:=0) aO Qf (e8 _ _ rfl)) ?_
 refine s1 (AQ ([(m8.vA.vV)[(aU).toNat]!]:List am) ak bZ aO) ?_
 obtain⟨hc17,h⟩:=aA h
 refine s1 (d:=dO 3 ak (gM++[(m8.vA.vV)[(aU).toNat]!])) (oP bZ aO hc17) ?_
 iterate 2 refine sa ?_
 refine s0 (Da (ds':=[dI .i64 m8.vA.vR,dI .i64 m8.vA.vC,dO 3 ak (gM++[(m8.vA.vV)[(aU).toNat]!]),dN,dN]) bZ) ?_
 refine nl hK ?_
 refine rb hx ?_
 exact pel h h0 [0,1,2,3]
 exact AW.exit (per h h0 [0,1,2,3])
 refine lw0 ?_
 refine AW.seq (rs hx fun K hK=>?_)
 iterate 4 refine sbr ?_
 obtain⟨tL,Al,h⟩:=ae h
 replace Al:=bw Al
 refine s2 (d2:=dI .i64 tL) kE (fq (congrArg (dI .i64) Al)) ?_
 refine nl hK ?_
 refine AW.block ?_
 obtain⟨lX,hy,h⟩:=ae h
 refine lp (S:=Int×(List am)) (X:=(List am)) (fun (vS,yB)=>[(2,.pt 0 0),(5,.pt 1 0),(6,.pt 2 0),(8,dI .i64 vS)]) (fun (vS,yB)=>⟨[(0,[dI .i64 m8.vA.vR,dI .i64 m8.vA.vC,dL ak m8.vA.vV,dL ak m8.vB,dL ak m8.vC]),(1,dC (ak.f l5)),(2,[dI .i64 m8.vA.vR,dI .i64 m8.vA.vC,dO 3 ak bD,dO 4 ak yB,dN])],[(3,(bD).length,36,43),(4,(yB).length,36,43)],5⟩) (PE cx (.exit 2) (fun lX=>[(2,.pt 0 0),(5,.pt 1 0),(6,.pt 2 0)]) fun lX=>⟨[(0,[dI .i64 m8.vA.vR,dI .i64 m8.vA.vC,dL ak m8.vA.vV,dL ak m8.vB,dL ak m8.vC]),(1,dC (ak.f l5)),(2,[dI .i64 m8.vA.vR,dI .i64 m8.vA.vC,dO 3 ak bD,dO 4 ak lX,dN])],[(3,(bD).length,36,43),(4,(lX).length,36,43)],5⟩) hy ?_ ?_ ?_
 exact Wk.trans (Wk.nilOwn (ds':=[dI .i64 m8.vA.vR,dI .i64 m8.vA.vC,dO 3 ak bD,dO 4 ak ([]:List am),dN]) 2 3 43 36) (wk h0 [0,1,2,3,4] (wR rfl (wR rfl (wR rfl (wR rfl wTn)))) (vR rfl (vC rfl (vR rfl wVn))) (wL rfl rfl (wL rfl rfl wLn)))
 clear hy h
 rintro⟨vS,yB⟩ y h
 dsimp only[c5] at h
 refine AW.seq (ra hx ?_)
 refine cdh h rfl (fun BH h=>?_) (fun BH h=>?_)
 refine AW.skip (AW.seq (AW.block (rqd [29] hx fun K hK=>?_)))
 iterate 5 refine sbr ?_
 obtain⟨ML,h⟩:=aA h
 have hn23:(vS).toNat<(m8.vB).length:=by omega
 refine sbr ?_
 refine s1 (d:=dG ak ((m8.vB)[(vS).toNat]!)) (jA (c:=ak) (l:=m8.vB) (n:=(vS).toNat) (o:=0) aO hn23 (e8 _ _ rfl)) ?_
 refine mbr ?_
 refine cqb h pZ fun zF h=>?_
 refine s1 (AQ ([zF]:List am) ak bZ aO) ?_
 obtain⟨hc26,h⟩:=aA h
 refine s1 (d:=dO 4 ak (yB++[zF])) (oP bZ aO hc26) ?_
 refine sa ?_
 refine s0 (Da (ds':=[dI .i64 m8.vA.vR,dI .i64 m8.vA.vC,dO 3 ak bD,dO 4 ak (yB++[zF]),dN]) bZ) ?_
 refine nl hK ?_
 refine rb hx ?_
 exact pel h h0 [0,1,2,3,4]
 exact AW.exit (per h h0 [0,1,2,3,4])
 refine lw0 ?_
 refine AW.seq (rs hx fun K hK=>?_)
 iterate 4 refine sbr ?_
 obtain⟨HJ,Iq,h⟩:=ae h
 replace Iq:=bw Iq
 refine s2 (d2:=dI .i64 HJ) kE (fq (congrArg (dI .i64) Iq)) ?_
 refine nl hK ?_
 refine AW.block ?_
 obtain⟨q8,hy,h⟩:=ae h
 refine lp (S:=Int×(List am)) (X:=(List am)) (fun (jy,yA)=>[(2,.pt 0 0),(5,.pt 1 0),(6,.pt 2 0),(9,dI .i64 jy)]) (fun (jy,yA)=>⟨[(0,[dI .i64 m8.vA.vR,dI .i64 m8.vA.vC,dL ak m8.vA.vV,dL ak m8.vB,dL ak m8.vC]),(1,dC (ak.f l5)),(2,[dI .i64 m8.vA.vR,dI .i64 m8.vA.vC,dO 3 ak bD,dO 4 ak lX,dO 5 ak yA])],[(3,(bD).length,36,43),(4,(lX).length,36,43),(5,(yA).length,36,43)],6⟩) (PE cx (.exit 4) (fun q8=>[(2,.pt 0 0),(5,.pt 1 0),(6,.pt 2 0)]) fun q8=>⟨[(0,[dI .i64 m8.vA.vR,dI .i64 m8.vA.vC,dL ak m8.vA.vV,dL ak m8.vB,dL ak m8.vC]),(1,dC (ak.f l5)),(2,[dI .i64 m8.vA.vR,dI .i64 m8.vA.vC,dO 3 ak bD,dO 4 ak lX,dO 5 ak q8])],[(3,(bD).length,36,43),(4,(lX).length,36,43),(5,(q8).length,36,43)],6⟩) hy ?_ ?_ ?_
 exact Wk.trans (Wk.nilOwn (ds':=[dI .i64 m8.vA.vR,dI .i64 m8.vA.vC,dO 3 ak bD,dO 4 ak lX,dO 5 ak ([]:List am)]) 2 4 43 36) (wk h0 [0,1,2,3,4,5] (wR rfl (wR rfl (wR rfl (wR rfl wTn)))) (vR rfl (vC rfl (vR rfl wVn))) (wL rfl rfl (wL rfl rfl (wL rfl rfl wLn))))
 clear hy h
 rintro⟨jy,yA⟩ y h
 dsimp only[c0] at h
 refine AW.seq (ra hx ?_)
 refine cdh h rfl (fun MO h=>?_) (fun MO h=>?_)
 refine AW.skip (AW.seq (AW.block (rqd [] hx fun K hK=>?_)))
 iterate 5 refine sbr ?_
 obtain⟨hc31,h⟩:=aA h
 have hn32:(jy).toNat<(m8.vC).length:=by omega
 refine sbr ?_
 refine s1 (d:=dG ak ((m8.vC)[(jy).toNat]!)) (jA (c:=ak) (l:=m8.vC) (n:=(jy).toNat) (o:=0) aO hn32 (e8 _ _ rfl)) ?_
 refine s1 (AQ ([(m8.vC)[(jy).toNat]!]:List am) ak bZ aO) ?_
 obtain⟨hc33,h⟩:=aA h
 refine s1 (d:=dO 5 ak (yA++[(m8.vC)[(jy).toNat]!])) (oP bZ aO hc33) ?_
 refine sa ?_
 refine s0 (Da (ds':=[dI .i64 m8.vA.vR,dI .i64 m8.vA.vC,dO 3 ak bD,dO 4 ak lX,dO 5 ak (yA++[(m8.vC)[(jy).toNat]!])]) bZ) ?_
 refine nl hK ?_
 refine rb hx ?_
 exact pel h h0 [0,1,2,3,4,5]
 exact AW.exit (per h h0 [0,1,2,3,4,5])
 refine lw0 ?_
 refine rs hx fun K hK=>?_
 refine s1 (d:=dG d9 m8) (T_ldA rE) ?_
 refine scb h qy fun th h=>?_
 iterate 4 refine sa ?_
 refine s1 (d:=.pt 6 0) (pU oX) ?_
 refine s0 (Da (ds':=[dI .i64 th.1.vKind,dL ak th.1.vX,dL ak th.1.vY,dL ak th.1.vRay]) oX) ?_
 refine nbr hK ?_
 refine rs hx fun K hK=>?_
 refine s1 (d:=.ag [dI .i64 m8.vA.vR,dI .i64 m8.vA.vC,dO 3 ak bD,dO 4 ak lX,dO 5 ak q8]) (T_ldA rE) ?_
 obtain⟨xO,hx38,h⟩:=ae h
 refine s1 (xj rfl (qy hx38) rfl (lA (rS (wc (qg _) (wc (qg _) (wc (qg _) (wc (qg _) (wc (qg _) wcn)))))) (lA (ax _) lAn)) (.inr ⟨_,rfl⟩)) ?_
 iterate 4 refine sa ?_
 refine s1 (d:=.pt 7 0) (pU oX) ?_
 refine s0 (Da (ds':=[dI .i64 xO.1.vKind,dL ak xO.1.vX,dL ak xO.1.vY,dL ak xO.1.vRay]) oX) ?_
 refine nbr hK ?_
 iterate 2 refine AW.seq ?_
 obtain⟨Hs,hy,h⟩:=ae h
 refine jn ((PE cx .normal (fun Hs=>[(2,.pt 0 0),(5,.pt 1 0),(6,.pt 2 0),(10,.pt 3 0),(13,.pt 4 0),(121,dB Hs)]) fun Hs=>⟨[(0,[dI .i64 m8.vA.vR,dI .i64 m8.vA.vC,dL ak m8.vA.vV,dL ak m8.vB,dL ak m8.vC]),(1,dC (ak.f l5)),(2,[dI .i64 m8.vA.vR,dI .i64 m8.vA.vC,dO 5 ak bD,dO 6 ak lX,dO 7 ak q8]),(3,[dI .i64 th.1.vKind,dL ak th.1.vX,dL ak th.1.vY,dL ak th.1.vRay]),(4,[dI .i64 xO.1.vKind,dL ak xO.1.vX,dL ak xO.1.vY,dL ak xO.1.vRay])],[(5,(bD).length,36,43),(6,(lX).length,36,43),(7,(q8).length,36,43)],8⟩) Hs) ?_ ?_
 replace h:=hy
 refine rq hx fun K hK=>?_
 refine mbr ?_
 rcases aF h with⟨MN,h⟩|⟨MN,h⟩
 refine nbr hK ?_
 exact pe1 h h0 [0,1,2,6,7,3,4,5]
 refine mbr ?_
 rcases aF h with⟨hb40,h⟩|⟨hb40,h⟩
 refine nbr hK ?_
 exact pe1 h h0 [0,1,2,6,7,3,4,5]
 refine nbr hK ?_
 exact pe1 h h0 [0,1,2,6,7,3,4,5]
 refine lw0 ?_
 refine cdh h rfl (fun hb42 h=>?_) (fun hb42 h=>?_)
 refine ra hx ?_
 exact AW.ret (rtv h)
 refine AW.skip (AW.seq ?_)
 obtain⟨Hr,hy,h⟩:=ae h
 refine jn ((PE cx .normal (fun Hr=>[(4,dB Hr)]) fun Hr=>⟨[],[],0⟩) Hr) ?_ ?_
 replace h:=hy
 refine rqd [11,17,29] hx fun K hK=>?_
 refine cqb h wx fun x43 h=>?_
 refine sa ?_
 rcases aF h with⟨hb45,h⟩|⟨hb45,h⟩
 refine mbr ?_
 rcases aF h with⟨Et,h⟩|⟨Et,h⟩
 refine nbr hK ?_
 exact pe1 h h0 []
 refine ga Et ?_
 refine gbr ?_
 refine ga Et ?_
 refine gbr ?_
 obtain⟨x47,hx48,h⟩:=ae h
 refine sqg tok rfl rfl Et (er hx48) rfl (lA (ax _) (lA (ax _) lAn)) (.inl (iR _ _)) ?_
 refine ga Et ?_
 refine gbr ?_
 refine ga Et ?_
 refine gbr ?_
 obtain⟨x49,hx50,h⟩:=ae h
 refine sqg tok rfl rfl Et (er hx50) rfl (lA (ax _) (lA (ax _) lAn)) (.inl (iR _ _)) ?_
 refine gbr ?_
 obtain⟨Rc,hx52,h⟩:=ae h
 refine sqg tok rfl rfl Et (pZ hx52) (by simp only[jK,mZ,iJ,kr,fH,cm];exact⟨db _ _,db _ _⟩) (lA (pm _ _) (lA (pm _ _) lAn)) (.inl (iR _ _)) ?_
 refine g1 Et (Cf tok 4 (by decide) BM aO) ?_
 refine nbr hK ?_
 exact pe1 h h0 []
 iterate 4 refine Mj rfl rfl hb45 ?_
 iterate 13 refine nn_t rfl rfl ?_
 refine nbr hK ?_
 exact pe1 h h0 []
 refine lw0 ?_
 exact AW.ret (rtv h)
section
theorem nv_good {x:Nu}(h:aw x=true):nv x=kW (rv x):=(dK.1 (bE.1 h)).2
theorem pOf' {n:Int}(h1:-1000000≤n)(h2:n≤1000000):mp n=some (nv (nOf n)):=Vp (by omega) (by omega)
theorem TV {a b:Int}(ha:a.natAbs<LIM)(hb:b.natAbs<LIM):enc a=enc b↔a=b:=⟨fun h=>by rw[←AA ha,←AA hb,h],fun h=>by rw[h]⟩
theorem IM {x:Nu}(hg:aw x=true):decide (¬((nv x).vD=enc 1))= !decide ((rv x).den=1):=by
 have h1:=(Ew hg).2
 have e:(nv x).vD=enc ((rv x).den:Int):=by rw[nv_good hg];rfl
 have hi:=TV (a:=((rv x).den:Int)) (b:=1) (by simpa using h1) (by decide)
 by_cases h:(rv x).den=1
 ·have hh:(nv x).vD=enc 1:=by rw[e];exact hi.2 (by omega)
  simp[hh,h]
 ·have hh:¬(nv x).vD=enc 1:=by rw[e];exact fun hh=>h (by have:=hi.1 hh;omega)
  simp[hh,h]
theorem isI_den {x:Nu}{K:Nat}(h1:(rv x).den=1)(h2:(rv x).num.natAbs≤K):IsI (rv x) K:=by
 refine⟨(rv x).num,?_,h2⟩
 have:=(den_mul (rv x)).1
 rw[h1] at this
 rw[←this]
 show rv x=((1:Nat):Rat)*rv x
 grind
structure Who(A B C:List Nu):Prop where
 a:∀i,i<A.length→(rv A[i]!).den=1
 b:∀i,i<B.length→(rv B[i]!).den=1
 c:∀i,i<C.length→(rv C[i]!).den=1
theorem Mi {n:Nat}{p:Nat→Bool}(h:(List.range n).all p=true):∀i,i<n→p i=true:=fun i hi=>bc.1 h i (kz.2 hi)
section
variable {R Cc:Int} {A B C:List Nu}
theorem R_whole(hA:A.length≤9223372036854775807)(hB:B.length≤9223372036854775807)(hC:C.length≤9223372036854775807)(gA:∀i,i<A.length→aw A[i]! =true)(gB:∀i,i<B.length→aw B[i]! =true)(gC:∀i,i<C.length→aw C[i]! =true):∃b,nq ⟨⟨R,Cc,A.map nv⟩,B.map nv,C.map nv⟩=some b∧(b=true→Who A B C):=by
 obtain⟨y1,h1,p1⟩:=tV (b:=j7 ⟨⟨R,Cc,A.map nv⟩,B.map nv,C.map nv⟩) hA (fun i=>decide ((rv A[i]!).den=1)) (fun _=>false) (fun i hi=>by
  unfold j7
  rw[a8,cu _ _,aC,ri (by omega) (by omega),ab,qe hi,IM (gA i hi)]) (by
  unfold j7
  rw[a8,ce _ _])
 obtain⟨y2,h2,p2⟩:=tV (b:=jv ⟨⟨R,Cc,A.map nv⟩,B.map nv,C.map nv⟩) hB (fun i=>decide ((rv B[i]!).den=1)) (fun _=>false) (fun i hi=>by
  unfold jv
  rw[a8,cu _ _,aC,ri (by omega) (by omega),ab,qe hi,IM (gB i hi)]) (by
  unfold jv
  rw[a8,ce _ _])
 obtain⟨y3,h3,p3⟩:=tV (b:=ju ⟨⟨R,Cc,A.map nv⟩,B.map nv,C.map nv⟩) hC (fun i=>decide ((rv C[i]!).den=1)) (fun _=>false) (fun i hi=>by
  unfold ju
  rw[a8,cu _ _,aC,ri (by omega) (by omega),ab,qe hi,IM (gC i hi)]) (by
  unfold ju
  rw[a8,ce _ _])
 unfold nq
 rw[h1,h2,h3]
 simp only[ab]
 cases y1 with
 |inl r=>obtain⟨i,_,_,rfl⟩:=p1;exact⟨false,rfl,fun e=>by cases e⟩
 |inr u=>
  cases y2 with
  |inl r=>obtain⟨i,_,_,rfl⟩:=p2;exact⟨false,rfl,fun e=>by cases e⟩
  |inr u=>
   cases y3 with
   |inl r=>obtain⟨i,_,_,rfl⟩:=p3;exact⟨false,rfl,fun e=>by cases e⟩
   |inr u=>exact⟨true,rfl,fun _=>⟨fun i hi=>bC (Mi p1 i hi),fun i hi=>bC (Mi p2 i hi),fun i hi=>bC (Mi p3 i hi)⟩⟩
theorem Bf {l:List Nu}(h:Lu l 6)(hd:∀i,i<l.length→(rv l[i]!).den=1):∀i,i<l.length→aw l[i]! =true∧IsI (rv l[i]!) 63:=fun i hi=>by
 have:=h.num i hi
 exact⟨h.good i hi,isI_den (hd i hi) (by have e:2 ^ ((6:Int)).toNat=64:=rfl;omega)⟩
structure Dims(m nn:Nat)(A B C:List Nu):Prop where
 m5:m≤5
 n5:nn≤5
 lA:A.length=m*nn
 lB:B.length=m
 lC:C.length=nn
 l25:A.length≤25
 a:∀i,i<m*nn→aw A[i]! =true∧IsI (rv A[i]!) 63
 b:∀i,i<m→aw B[i]! =true∧IsI (rv B[i]!) 63
 c:∀k,k<nn→aw C[k]! =true∧IsI (rv C[k]!) 63
theorem Dims.sz {m nn:Nat}(h:Dims m nn A B C):Sz m nn A B C:=by
 have hb:63≤BT:=by decide
 exact⟨by have:=h.m5;omega,h.n5,h.lA,h.lB,h.lC,fun i hi=>⟨(h.a i hi).1,(h.a i hi).2.mono hb⟩,fun i hi=>⟨(h.b i hi).1,(h.b i hi).2.mono hb⟩,fun i hi=>⟨(h.c i hi).1,(h.c i hi).2.mono hb⟩⟩
theorem TO(hf:Few R Cc A B C 5 6)(hw:Who A B C):∃m nn:Nat,R=m∧Cc=nn∧Dims m nn A B C:=by
 obtain⟨m,nn,rfl,rfl,d1,d2,d3,d4,d5,g1,g2,g3⟩:=yM hf.valid
 have hr:=hf.r
 have hc:=hf.c
 have hmn:m*nn≤5*5:=lf (by omega) (by omega)
 exact⟨m,nn,rfl,rfl,by omega,by omega,d3,d4,d5,by omega,fun i hi=>Bf hf.sA hw.a i (by omega),fun i hi=>Bf hf.sB hw.b i (by omega),fun i hi=>Bf hf.sC hw.c i (by omega)⟩
theorem Ro {m nn:Nat}(hm:m≤2000)(hn:nn≤2000)(hA:A.length=m*nn)(hB:B.length=m)(hC:C.length=nn)(gA:∀i,i<A.length→aw A[i]! =true)(gB:∀i,i<B.length→aw B[i]! =true)(gC:∀i,i<C.length→aw C[i]! =true):mU m nn A B C=true:=by
 unfold mU Gq
 rw[IU gA,IU gB,IU gC,hA,hB,hC]
 have q1:decide ((0:Int)≤(m:Int))=true:=aB (by omega)
 have q2:decide ((0:Int)≤(nn:Int))=true:=aB (by omega)
 have q3:decide ((m:Int)≤2000)=true:=aB (by omega)
 have q4:decide ((nn:Int)≤2000)=true:=aB (by omega)
 have q5:decide (((m*nn:Nat):Int)=(m:Int)*(nn:Int))=true:=aB (by rw[iT])
 have q6:decide ((m:Int)=(m:Int))=true:=aB rfl
 have q7:decide ((nn:Int)=(nn:Int))=true:=aB rfl
 rw[q1,q2,q3,q4,q5,q6,q7]
 rfl
theorem Sz.valid {m nn:Nat}(h:Sz m nn A B C):mU m nn A B C=true:=by
 have h1:=h.m6
 have h2:=h.n5
 refine Ro (by omega) (by omega) h.lA h.lB h.lC (fun i hi=>(h.gA i (by rw[←h.lA];exact hi)).1) (fun i hi=>(h.gB i (by rw[←h.lB];exact hi)).1) fun i hi=>(h.gC i (by rw[←h.lC];exact hi)).1
theorem Sz.solveB {m nn:Nat}(h:Sz m nn A B C):∃a n,Go.Proofs.YtaedcknhkjpmlaaGreat.rH m nn A B C 4000=(a,n,0)∧0≤n∧n≤4000∧jE m nn A B C a=true:=by
 obtain⟨a,n,e,h1,h2,h3⟩:=LX h
 refine⟨a,n,?_,h1,h2,h3⟩
 unfold Go.Proofs.YtaedcknhkjpmlaaGreat.rH
 rw[ai (by rw[h.valid];rfl)]
 exact e
theorem Sz.RQ {m nn:Nat}(h:Sz m nn A B C){a:Ans}(ha:jE m nn A B C a=true):Go.Proofs.YtaedcknhkjpmlaaGreat.RQ m nn (fun i k=>rv A[i*nn+k]!) (fun i=>rv B[i]!) (fun k=>rv C[k]!) a.kind (fun k=>rv a.x[k]!) (fun i=>rv a.y[i]!) (fun k=>rv a.ray[k]!)∧(a.kind=1→aw (cJ C a.x)=true∧rv (cJ C a.x)=aG nn fun k=>rv C[k]! *rv a.x[k]!)∧Fy a:=by
 obtain⟨h1,h2,h3,h4,h5⟩:=RM h.lA h.lB h.lC (fun i hi=>(h.gB i hi).1) (fun k hk=>(h.gC k hk).1) ha
 have h6:=h.m6
 have h7:=h.n5
 exact⟨h1,h2,⟨by omega,by omega,by omega⟩⟩
theorem Sz.len {m nn:Nat}(h:Sz m nn A B C):A.length≤30∧B.length≤6∧C.length≤5:=by
 have h1:=h.m6
 have h2:=h.n5
 have hmn:m*nn≤6*5:=lf h1 h2
 rw[h.lA,h.lB,h.lC]
 omega
theorem z6 {l:List Nu}{i:Nat}(hi:i<l.length):l.reverse[i]! =l[l.length - 1 - i]! :=by
 rw[bI _ _ (by rw[IW];exact hi),List.getElem_reverse,bI]
theorem RN {l:List Nu}{u:Nat}(hu:u<l.length):l.reverse.take (u+1)=l.reverse.take u++[l[l.length - 1 - u]!]:=by
 rw[yx,cC (by rw[IW];exact hu),←z6 hu,bI _ _ (by rw[IW];exact hu)]
 rfl
theorem DP {l:List Nu}(hl:l.length≤1000000)(F:Nu→Nu){b:Int×List am→Option ((Int×List am)⊕List am)}(h:∀(i:Nat) (acc:List Nu),i<l.length→acc.length≤1000000→b ((i:Int),acc.map nv)=some (.inl (i64.wrap ((i:Int) - (1:Int)),(acc++[F l[i]!]).map nv)))(he:∀acc,b ((-1:Int),acc)=some (.inr acc)):
  (bnd (some (i64.wrap ((l.length:Int) - (1:Int)))) fun x=>bo b (x,([]:List am)))=some ((l.reverse.map F).map nv):=by
 rw[ab,ee (by omega) (by omega)]
 have key:=tX (b:=b) (fun u:Nat=>(((l.length:Int) - 1 - (u:Int)),((l.reverse.take u).map F).map nv)) 0 l.length ((l.reverse.map F).map nv) (cr _) (fun u _ hu=>?_) ?_
 ·have e:(((l.length:Int) - 1 - ((0:Nat):Int)),(((l.reverse.take 0).map F).map nv))=((l.length:Int) - 1,([]:List am)):=by simp
  rw[e] at key
  exact key
 ·have e:(l.length:Int) - 1 - (u:Int)=((l.length - 1 - u:Nat):Int):=by omega
  rw[e,h (l.length - 1 - u) ((l.reverse.take u).map F) (by omega) (by simp;omega),RN hu,ee (by omega) (by omega),gK,show (l.length:Int) - 1 - ((u+1:Nat):Int)=((l.length - 1 - u:Nat):Int) - 1 by omega,gK,gK]
  rfl
 ·rw[show (l.length:Int) - 1 - (l.length:Int)=-1 by omega,he,gJ (by simp)]
end
theorem RQ.congr {m nn:Nat}{a a':Nat→Nat→Rat}{b b' c c':Nat→Rat}{k:Int}{x y r:Nat→Rat}(h:RQ m nn a b c k x y r)(ha:∀i k,i<m→k<nn→a' i k=a i k)(hb:∀i,i<m→b' i=b i)(hc:∀k,k<nn→c' k=c k):RQ m nn a' b' c' k x y r:=by
 have s1:∀(i:Nat) (z:Nat→Rat),i<m→aG nn (fun k=>a' i k*z k)=aG nn fun k=>a i k*z k:=fun i z hi=>ay fun k hk=>by rw[ha i k hi hk]
 have s2:∀(k:Nat) (z:Nat→Rat),k<nn→aG m (fun i=>a' i k*z i)=aG m fun i=>a i k*z i:=fun k z hk=>ay fun i hi=>by rw[ha i k hi hk]
 have s3:∀z:Nat→Rat,aG nn (fun k=>c' k*z k)=aG nn fun k=>c k*z k:=fun z=>ay fun k hk=>by rw[hc k hk]
 have s4:∀z:Nat→Rat,aG m (fun i=>z i*b' i)=aG m fun i=>z i*b i:=fun z=>ay fun i hi=>by rw[hb i hi]
 refine⟨h.kinds,fun e=>⟨(h.prim e).1,fun i hi=>by rw[s1 i x hi,hb i hi];exact (h.prim e).2 i hi⟩,h.pos,fun e=>⟨fun k hk=>by rw[s2 k y hk,hc k hk];exact (h.best e).1 k hk,by rw[s3,s4];exact (h.best e).2⟩,fun e=>⟨fun k hk=>by rw[s2 k y hk];exact (h.none e).1 k hk,by rw[s4];exact (h.none e).2⟩,fun e=>⟨(h.ray e).1,fun i hi=>by rw[s1 i r hi];exact (h.ray e).2.1 i hi,by rw[s3];exact (h.ray e).2.2⟩⟩
section
variable {R Cc:Int} {A B C:List Nu}
theorem LB {n:Int}(hn:0≤n∧n≤255)(hA:A.length≤9223372036854775807)(hB:B.length≤9223372036854775807)(hC:C.length≤9223372036854775807):ek ⟨⟨R,Cc,A.map nv⟩,B.map nv,C.map nv⟩ n=some true:=by
 obtain⟨f,hf,kf⟩:=R_few (R:=R) (Cc:=Cc) (size:=5) (bits:=6) hA hB hC
 unfold ek
 rw[hf,sane]
 cases f with
 |false=>rfl
 |true=>
  have few:=kf rfl
  obtain⟨b,hb,kb⟩:=R_whole (R:=R) (Cc:=Cc) hA hB hC few.sA.good few.sB.good few.sC.good
  rw[hb]
  cases b with
  |false=>rfl
  |true=>
   obtain⟨m,nn,rfl,rfl,hd⟩:=TO few (kb rfl)
   have hs:=hd.sz
   obtain⟨l1,l2,l3⟩:=hs.len
   have m5:=hd.m5
   have n5:=hd.n5
   obtain⟨F,hF⟩:∃F,F=nOf (1+n):=⟨_,rfl⟩
   have hFv:aw F=true∧rv F=((1+n:Int):Rat):=by
    rw[hF]
    have h256:256<LIM:=by decide
    exact rK (q:=((1+n:Int):Rat)) ⟨by show (1+n).natAbs<LIM;omega,by show 1<LIM;omega⟩
   have hFI:IsI (rv F) 256:=⟨1+n,hFv.2,by omega⟩
   have hFpos:0<rv F:=by
    rw[hFv.2]
    have:(0:Int)<1+n:=by omega
    exact_mod_cast this
   have hbm:∀i,i<m→aw (iy B[i]! F)=true∧rv (iy B[i]! F)=rv B[i]! *rv F∧IsI (rv (iy B[i]! F)) BT:=fun i hi=>by
    have h1:=(hd.b i hi).2.mul hFI
    have h2:Pq (63*256) (rv B[i]! *rv F):=Pq.int h1 (by decide)
    obtain⟨g1,g2⟩:=pp (hd.b i hi).1 hFv.1 (h2.fit (by decide))
    exact⟨g1,g2,by rw[g2];exact h1.mono (by decide)⟩
   -- qu reversed program
   have hidx:∀i k,i<m→k<nn→A.length - 1 - (i*nn+k)=(m - 1 - i)*nn+(nn - 1 - k):=fun i k hi hk=>by
    rw[hs.lA]
    obtain⟨p,rfl⟩:∃p,m=i+1+p:=⟨m - (i+1),by omega⟩
    obtain⟨q,rfl⟩:∃q,nn=k+1+q:=⟨nn - (k+1),by omega⟩
    rw[show i+1+p - 1 - i=p by omega,show k+1+q - 1 - k=q by omega]
    have:(i+1+p)*(k+1+q)=i*(k+1+q)+(k+1+q)+p*(k+1+q):=by rw[bR,bR,eU]
    omega
   have Ky:A.reverse.length=m*nn∧((B.map fun x=>iy x F).reverse).length=m∧C.reverse.length=nn:=by
    simp only[IW,a8]
    exact⟨hs.lA,hs.lB,hs.lC⟩
   have gB':∀i,i<m→((B.map fun x=>iy x F).reverse)[i]! =iy B[m - 1 - i]! F:=fun i hi=>by
    rw[z6 (by rw[a8,hs.lB];exact hi),a8,hs.lB]
    exact dJ (by rw[dT,uR (by rw[hs.lB];omega)];rfl)
   have gC':∀k,k<nn→C.reverse[k]! =C[nn - 1 - k]! :=fun k hk=>by rw[z6 (by rw[hs.lC];exact hk),hs.lC]
   have Ku:Sz m nn A.reverse (B.map fun x=>iy x F).reverse C.reverse:=by
    refine⟨hs.m6,hs.n5,Ky.1,Ky.2.1,Ky.2.2,fun i hi=>?_,fun i hi=>?_,fun k hk=>?_⟩
    ·rw[z6 (by rw[hs.lA];exact hi)]
     exact hs.gA _ (by rw[hs.lA];omega)
    ·rw[gB' i hi]
     exact⟨(hbm _ (by omega)).1,(hbm _ (by omega)).2.2⟩
    ·rw[gC' k hk]
     exact hs.gC _ (by omega)
   obtain⟨a,na,ea,_,_,ra⟩:=hs.solveB
   obtain⟨c,nc,ec,_,_,rc⟩:=Ku.solveB
   obtain⟨qa,va,la⟩:=hs.RQ ra
   obtain⟨qc,vc,lc⟩:=Ku.RQ rc
   have qa':=(qa.rev hFpos).congr (a':=fun i k=>rv A.reverse[i*nn+k]!) (b':=fun i=>rv ((B.map fun x=>iy x F).reverse)[i]!) (c':=fun k=>rv C.reverse[k]!) (fun i k hi hk=>by
    have bK:=hs.idx hi hk
    rw[z6 (by rw[hs.lA];exact bK),hidx i k hi hk]) (fun i hi=>by
    rw[gB' i hi,(hbm _ (by omega)).2.1]) (fun k hk=>by
    rw[gC' k hk])
   obtain⟨hk,hv⟩:=qa'.agree qc
   -- qu loops
   have wr:i64.wrap ((1:Int)+i64.wrap n)=1+n:=by rw[ee (z:=n) (by omega) (by omega),ee (by omega) (by omega)]
   have L1:=DP (l:=A) (by omega) id (b:=c6 ⟨⟨(m:Int),(nn:Int),A.map nv⟩,B.map nv,C.map nv⟩) (fun i acc hi hacc=>by
    unfold c6
    dsimp only
    rw[a8,cu _ _,aC,qe hi,aC (by simp;omega),gK]
    rfl) (fun acc=>by
    unfold c6
    dsimp only
    rw[ce _ _])
   have L2:=DP (l:=B) (by omega) (fun x=>iy x F) (b:=c5 ⟨⟨(m:Int),(nn:Int),A.map nv⟩,B.map nv,C.map nv⟩ (nv F)) (fun i acc hi hacc=>by
    unfold c5
    dsimp only
    rw[a8,cu _ _,aC,qe hi,pMul,ab,aC (by simp;omega),gK]
    rfl) (fun acc=>by
    unfold c5
    dsimp only
    rw[ce _ _])
   have L3:=DP (l:=C) (by omega) id (b:=c0 ⟨⟨(m:Int),(nn:Int),A.map nv⟩,B.map nv,C.map nv⟩) (fun i acc hi hacc=>by
    unfold c0
    dsimp only
    rw[a8,cu _ _,aC,qe hi,aC (by simp;omega),gK]
    rfl) (fun acc=>by
    unfold c0
    dsimp only
    rw[ce _ _])
   rw[BS] at L1 L3
   rw[List.map_reverse] at L2
   have bb:∀{S T U:Type} (x:Option S) (f:S→Option T) (g:T→Option U),bnd x (fun s=>bnd (f s) g)=bnd (bnd x f) g:=fun x f g=>by cases x <;> rfl
   dsimp only
   rw[wr,pOf' (by omega) (by omega),←hF]
   simp only[a8]
   rw[show bnd (some (nv F))=fun (f:am→Option Bool)=>f (nv F) from rfl]
   dsimp only
   rw[bb,L1]
   simp only[ab]
   rw[ab] at L2 L3
   rw[L2,ab,L3]
   simp only[ab]
   obtain⟨k1,k2,k3⟩:=Ku.len
   rw[Jq (by omega) (by omega) (by omega) (by omega),ea,Jq (A:=A.reverse) (B:=(B.map fun x=>iy x F).reverse) (C:=C.reverse) (by omega) (by omega) (by omega) (by omega),ec]
   have e1:(qE (a,na,0)).1.vKind=a.kind∧(qE (a,na,0)).1.vX=a.x.map nv∧(qE (a,na,0)).2.2=0:=⟨rfl,rfl,rfl⟩
   have e2:(qE (c,nc,0)).1.vKind=c.kind∧(qE (c,nc,0)).1.vX=c.x.map nv∧(qE (c,nc,0)).2.2=0:=⟨rfl,rfl,rfl⟩
   simp only[ab]
   rw[e1.1,e1.2.1,e1.2.2,e2.1,e2.2.1,e2.2.2,←hk,rf (.inl (by omega)),rf (.inl (by omega))]
   simp only[ab,pMul,Id]
   by_cases h1:a.kind=1
   ·have t4:cJ C.reverse c.x=iy (cJ C a.x) F:=by
     obtain⟨v1,v2⟩:=va h1
     obtain⟨w1,w2⟩:=vc (by omega)
     have G6:=hv h1
     have hsum:aG nn (fun k=>rv C.reverse[k]! *(rv F*rv a.x[nn - 1 - k]!))=rv (cJ C a.x)*rv F:=by
      rw[v2,←rG (fun k=>rv C[k]! *rv a.x[k]!) nn,BY,←eV]
      exact ay fun k hk=>by rw[gC' k hk];grind
     have he:rv (cJ C.reverse c.x)=rv (cJ C a.x)*rv F:=by rw[w2,←G6];exact hsum
     obtain⟨g1,g2⟩:=pp v1 hFv.1 (by rw[←he];exact Ew w1)
     exact As w1 g1 (by rw[he,g2])
    rw[h1,t4]
    simp[cnd,bnd]
   ·simp[cnd,bnd,h1]
end
end
theorem Jt {p:a7}{n:Int}(hV:QL p.vA.vV)(hB:QL p.vB)(hC:QL p.vC)(hn:Wi .u8 n):ek p n=some true:=by
 obtain⟨⟨R,Cc,V⟩,B,C⟩:=p
 dsimp only at hV hB hC
 rw[hV.nu.1,hB.nu.1,hC.nu.1]
 have h1:0≤n∧n≤255:=hn
 exact LB h1 hV.nu.2 hB.nu.2 hC.nu.2
section
open Go.ChangeShapes Go.WideShapes Go.ChangeAt Go.RowKit Go.ChangeMaps
namespace simplexSymmetric
theorem k0:(Rows.simplexIsSymmetricRow.wf (OpenSpec.ofChange Rows.simplexIsSymmetricSpec))=true:=by kernel_rfl
theorem k1:(laidOutB prog)=true:=by kernel_rfl
theorem k2:(mapsRowed prog)=true:=by kernel_rfl
theorem k3:(f8.params.all (prog.readableRec ·))=true:=by kernel_rfl
theorem k4:(namedTie prog Rows.simplexIsSymmetricRow.named Rows.simplexIsSymmetricSpec.vars)=true:=by kernel_rfl
theorem k5:((Rows.simplexIsSymmetricRow.stops == []))=true:=by kernel_rfl
theorem k6:((prog.stops == []))=true:=by kernel_rfl
theorem k7:((Rows.simplexIsSymmetricRow.knobs == []))=true:=by kernel_rfl
theorem k8:((prog.stopKnobs == []))=true:=by kernel_rfl
theorem k9:((Rows.simplexIsSymmetricRow.inPlace == prog.inPlace 8))=true:=by kernel_rfl
theorem k10:((Rows.simplexIsSymmetricRow.unfollowed == prog.unfollowed 8))=true:=by kernel_rfl
theorem k11:((Rows.simplexIsSymmetricRow.recurses == prog.recurses 8))=true:=by kernel_rfl
theorem k12:((Rows.simplexIsSymmetricRow.named == prog.varsNamed 8))=true:=by kernel_rfl
theorem k13:((Rows.simplexIsSymmetricRow.maps == (f8.params.toList++Rows.simplexIsSymmetricSpec.plain.varTypes prog).any (prog.mapsRec ·)))=true:=by kernel_rfl
theorem k14:((Rows.simplexIsSymmetricRow.ifaces == (f8.params.toList++Rows.simplexIsSymmetricSpec.plain.varTypes prog).any (prog.ifacesRec ·)))=true:=by kernel_rfl
theorem k15:((Rows.simplexIsSymmetricRow.mapsOut == prog.mapsAmong f8.resultTypes.toList))=true:=by kernel_rfl
theorem k16:((Rows.simplexIsSymmetricRow.loops == (f8.params.toList++Rows.simplexIsSymmetricSpec.plain.varTypes prog).any (prog.loopsFrom ·)))=true:=by kernel_rfl
theorem k17:((Rows.simplexIsSymmetricRow.wideKeys == (f8.params.toList++Rows.simplexIsSymmetricSpec.plain.varTypes prog++f8.resultTypes.toList).any (prog.wideKeysFrom ·)))=true:=by kernel_rfl
theorem k18:(Rows.simplexIsSymmetricSpec.vars.all (prog.varReadable ·))=true:=by kernel_rfl
theorem k19:(f8.resultTypes.all (fun t=>prog.readableRec t&&decide (t<prog.types.size)))=true:=by kernel_rfl
theorem k20:((Rows.simplexIsSymmetricRow.ifacesOut == f8.resultTypes.toList.any (prog.ifacesRec ·)))=true:=by kernel_rfl
theorem k21:((Rows.simplexIsSymmetricRow.loopsOut == f8.resultTypes.toList.any (prog.loopsFrom ·)))=true:=by kernel_rfl
theorem k22:((Rows.simplexIsSymmetricRow.plainKeys == prog.plainKeys))=true:=by kernel_rfl
theorem k23:(Rows.simplexIsSymmetricRow.shortTexts.isNone)=true:=by kernel_rfl
theorem k24:(prog.stopsHeard)=true:=by kernel_rfl
theorem k25:(prog.mayEnter)=true:=by kernel_rfl
theorem k26:((Rows.simplexIsSymmetricRow.lifted == prog.liftsFinal))=true:=by kernel_rfl
theorem k27:((prog.make == some Rows.simplexIsSymmetricRow.make))=true:=by kernel_rfl
theorem k28:((Rows.simplexIsSymmetricRow.kinds == (if Rows.simplexIsSymmetricRow.domain.isEmpty then [] else f8.params.toList.map fun t=>match prog.underlying t with|some (.int k)=>some k|_=>none)))=true:=by kernel_rfl
theorem k29:((Rows.simplexIsSymmetricRow.pinned == Rows.simplexIsSymmetricRow.pinnedBy))=true:=by kernel_rfl
theorem k30:((Rows.simplexIsSymmetricRow.veiled == (f8.params.toList++Rows.simplexIsSymmetricSpec.plain.varTypes prog++f8.resultTypes.toList).any (prog.veiledRec ·)))=true:=by kernel_rfl
theorem k31:(Rows.simplexIsSymmetricRow.veiledFits prog f8.params.toList (f8.params.toList++Rows.simplexIsSymmetricSpec.plain.varTypes prog++f8.resultTypes.toList))=true:=by kernel_rfl
theorem nJ {a b:Bool}(h:a=true)(h2:b=true):(a&&b)=true:=by rw[h,h2];rfl
theorem closed:joinedFacts prog 8 f8 Rows.simplexIsSymmetricSpec Rows.simplexIsSymmetricRow=true:=by
 delta joinedFacts
 exact nJ (nJ (nJ (nJ (nJ (nJ (nJ (nJ (nJ (nJ (nJ (nJ (nJ (nJ (nJ (nJ (nJ (nJ (nJ (nJ (nJ (nJ (nJ (nJ (nJ (nJ (nJ (nJ (nJ (nJ (nJ k0 k1) k2) k3) k4) k5) k6) k7) k8) k9) k10) k11) k12) k13) k14) k15) k16) k17) k18) k19) k20) k21) k22) k23) k24) k25) k26) k27) k28) k29) k30) k31
end simplexSymmetric
end
end
end Go.Proofs.YtaedcknhkjpmlaaGreat
