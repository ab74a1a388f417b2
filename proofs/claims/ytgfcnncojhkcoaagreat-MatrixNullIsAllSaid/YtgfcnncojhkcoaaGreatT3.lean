/-
  Lemmas, part 3. Conditions: none.
-/
import Derived.Test.YtgfcnncojhkcoaaGreatT2
import Derived.Test.YtgfcnncojhkcoaaGreatProg
set_option linter.all false
set_option maxRecDepth 100000
namespace Go.Proofs.YtgfcnncojhkcoaaGreat
open Go.RowKit Go.IntKind Tryz
noncomputable section
section
section
variable [eH] {S:SD} {B:(i:Nat)→List (Fld S i)}
inductive Cm (B:(i:Nat)→List (Fld S i)):List T→List (TV S)→List (TV S)→Prop
 |nil:Cm B [] [] []
 |cons {t:T} {a:TV S} {x:t.den S} {ts:List T} {ls cs:List (TV S)} (h:asT B false t a=some x) (r:Cm B ts ls cs):Cm B (t::ts) (a::ls) (.v t x::cs)
def Cf(B:(i:Nat)→List (Fld S i)):(l:List T)→List (TV S)→Option (Tup S l)
 |[],[]=>some ()
 |t::l,a::aS=>match asT B false t a,Cf B l aS with
  |some x,some y=>some (Dv t x l y)
  |_,_=>none
 |_,_=>none
theorem Jj:∀{ts:List T} {ls:List (TV S)} {y:Tup S ts},Cf B ts ls=some y→Cm B ts ls (tuV ts y)
 |[],[],y,_=>by unfold tuV;exact .nil
 |t::l,a::aS,y,h=>by
  unfold Cf at h
  split at h
  ·rename_i x y' hx hy
   cases h
   unfold tuV
   rw[HI,GQ]
   exact .cons hx (Jj hy)
  ·cases h
 |[],_::_,_,h=>by unfold Cf at h;cases h
 |_::_,[],_,h=>by unfold Cf at h;cases h
theorem Cm.split:∀{ts1 ts2:List T} {ls1 ls2 cs:List (TV S)},Cm B (ts1++ts2) (ls1++ls2) cs→ls1.length=ts1.length→∃cs1 cs2,cs=cs1++cs2∧Cm B ts1 ls1 cs1∧Cm B ts2 ls2 cs2
 |[],ts2,[],ls2,cs,h,_=>⟨[],cs,rfl,.nil,h⟩
 |t::ts1,ts2,a::ls1,ls2,cs,h,hl=>by
  cases h with
  |cons h r=>
   obtain⟨c1,c2,rfl,h1,h2⟩:=Cm.split (ts1:=ts1) (ls1:=ls1) r (by simpa using hl)
   exact⟨_::c1,c2,rfl,.cons h h1,h2⟩
 |[],_,_::_,_,_,_,hl=>by simp at hl
 |_::_,_,[],_,_,_,hl=>by simp at hl
theorem tG {α:Type}{l m:List (Nat×α)}{t:Nat}:(l++m).lookup t=match l.lookup t with|some a=>some a|none=>m.lookup t:=by
 induction l with
 |nil=>rfl
 |cons p l ih=>
  obtain⟨k,a⟩:=p
  rw[yI]
  by_cases e:t=k
  ·subst e;rw[ah,ah]
  ·rw[al e,al e,ih]
variable {vs:List (Nat×TV S)}
mutual
theorem Dp:∀{h:Sh} {a:TV S} {ls:List (TV S)},yA B vs h a=some ls→ls.length=h.ts.length
 | .d t,a,ls,h=>by
  unfold yA at h
  split at h
  ·cases h;simp only[Sh.ts];rfl
  ·cases h
 | .o t e,a,ls,h=>by
  unfold yA at h
  split at h
  ·cases h;simp only[Sh.ts];rfl
  ·cases h
 | .n,a,ls,h=>by
  unfold yA at h
  split at h
  ·cases h;simp only[Sh.ts];rfl
  ·cases h
 | .p h',a,ls,h=>by
  unfold yA at h
  simp only[Sh.ts]
  split at h
  ·split at h
   ·exact Dp h
   ·cases h
  ·cases h
 | .ag l,a,ls,h=>by
  unfold yA at h
  simp only[Sh.ts]
  split at h
  ·exact Af h
  ·split at h
   ·exact Af h
   ·cases h
  ·cases h
theorem Af:∀{l:List Sh} {fs:List (TV S)} {ls:List (TV S)},qO B vs l fs=some ls→ls.length=(tsL l).length
 |[],[],ls,h=>by unfold qO at h;cases h;simp only[tsL];rfl
 |h::l,a::fs,ls,hd=>by
  unfold qO at hd
  split at hd
  ·rename_i x y hx hy
   cases hd
   simp only[tsL]
   rw[cN,cN,Dp hx,Af hy]
  ·cases hd
 |[],_::_,_,h=>by unfold qO at h;cases h
 |_::_,[],_,h=>by unfold qO at h;cases h
end
mutual
def wM(B:(i:Nat)→List (Fld S i))(vs:List (Nat×TV S)):Sh→TV S→List Nat
 | .d _,_=>[]
 | .o _ _,a=>match a with
  | .own id _ _ _=>[id]
  |_=>[]
 | .n,_=>[]
 | .p h,a=>match a with
  | .pt k _=>match vs.lookup k with
   |some c=>k::wM B vs h c
   |none=>[]
  |_=>[]
 | .ag l,a=>match a with
  | .ag fs=>rp B vs l fs
  | .v (.st s) y=>rp B vs l (uN (B s) y)
  |_=>[]
def rp(B:(i:Nat)→List (Fld S i))(vs:List (Nat×TV S)):List Sh→List (TV S)→List Nat
 |h::l,a::fs=>wM B vs h a++rp B vs l fs
 |_,_=>[]
end
mutual
def HZ(B:(i:Nat)→List (Fld S i))(vs:List (Nat×TV S))(lv:List (Nat×Option Lv)):Sh→TV S→Bool
 | .d _,_=>true
 | .o _ e,a=>match a with
  | .own id ver u _=>match lv.lookup id with
   |some (some y)=>Nat.beq y.ver ver&&Nat.beq y.z (u.cd S).sz&&Nat.beq y.e e
   |_=>false
  |_=>false
 | .n,_=>true
 | .p h,a=>match a with
  | .pt k _=>match vs.lookup k with
   |some c=>HZ B vs lv h c
   |none=>false
  |_=>false
 | .ag l,a=>match a with
  | .ag fs=>Mz B vs lv l fs
  | .v (.st s) y=>Mz B vs lv l (uN (B s) y)
  |_=>false
def Mz(B:(i:Nat)→List (Fld S i))(vs:List (Nat×TV S))(lv:List (Nat×Option Lv)):List Sh→List (TV S)→Bool
 |[],[]=>true
 |h::l,a::fs=>HZ B vs lv h a&&Mz B vs lv l fs
 |_,_=>false
end
structure BE(σ:Nat→Nat)(m:Nat)(a a':TV S):Prop where
 w:ot a.cells (a'.cells.map (D.renC σ))
 i:a'.cells.all (D.idsC m)=true
 n:a'.cells.all D.noO=true
 c:a'.isC=true
 A:a'.isA=a.isA
 ac:a.isC=true
def OwT(tk:List (Nat×Option Lv))(l:List (Nat×Nat×Nat)):Prop:=∀o∈l,∃y,(o.1,some y)∈tk∧y.ver=0∧o.2.1=0∧y.n=o.2.2
theorem OwT.inl {tk tk':List (Nat×Option Lv)}{l:List (Nat×Nat×Nat)}(h:OwT tk l):OwT (tk++tk') l:=fun o ho=>by
 obtain⟨y,h1,h2⟩:=h o ho
 exact⟨y,jK.2 (.inl h1),h2⟩
theorem OwT.inr {tk tk':List (Nat×Option Lv)}{l:List (Nat×Nat×Nat)}(h:OwT tk' l):OwT (tk++tk') l:=fun o ho=>by
 obtain⟨y,h1,h2⟩:=h o ho
 exact⟨y,jK.2 (.inr h1),h2⟩
structure BN(σ:Nat→Nat)(vs:List (Nat×TV S))(lv:List (Nat×Option Lv))(m:Nat)(ids:List Nat)(nv:List (Nat×TV S))(tk:List (Nat×Option Lv))(j:Nat):Prop where
 kt:∀k z,(k,z)∈tk→tk.lookup k=some z
 tl:∀k z,(k,z)∈tk→∃i id y,k=j+i∧z=some y∧ids[i]? =some id∧lvO (lv.lookup id)=some (y.n,y.z,y.e)
 nv:∀k c',(k,c')∈nv→∃i id c,k=j+i∧ids[i]? =some id∧vs.lookup id=some c∧BE σ m c c'∧OwT tk c'.owns
structure BO(σ:Nat→Nat)(vs:List (Nat×TV S))(lv:List (Nat×Option Lv))(m:Nat)(a a':TV S)(ids:List Nat)(nv:List (Nat×TV S))(tk:List (Nat×Option Lv))(j:Nat):Prop where
 be:BE σ m a a'
 ow:OwT tk a'.owns
 bn:BN σ vs lv m ids nv tk j
structure BOL(σ:Nat→Nat)(vs:List (Nat×TV S))(lv:List (Nat×Option Lv))(m:Nat)(fs fs':List (TV S))(ids:List Nat)(nv:List (Nat×TV S))(tk:List (Nat×Option Lv))(j:Nat):Prop where
 len:fs'.length=fs.length
 el:∀(i:Nat) (a':TV S),fs'[i]? =some a'→∃a:TV S,fs[i]? =some a∧BE σ m a a'
 w:ot (bt fs) ((bt fs').map (D.renC σ))
 i:(bt fs').all (D.idsC m)=true
 n:(bt fs').all D.noO=true
 ow:OwT tk (pT fs')
 bn:BN σ vs lv m ids nv tk j
theorem z7 {α:Type}{l:List α}{i:Nat}{a:α}(h:l[i]? =some a):i<l.length:=by
 rcases bO i l.length with h'|h'
 ·exact h'
 ·rw[gP h'] at h;cases h
theorem BN.nil {σ:Nat→Nat}{lv:List (Nat×Option Lv)}{m:Nat}{ids:List Nat}{j:Nat}:BN (S:=S) σ vs lv m ids [] [] j:=⟨fun _ _ h=>(by cases h),fun _ _ h=>(by cases h),fun _ _ h=>(by cases h)⟩
theorem BN.app {σ:Nat→Nat}{lv:List (Nat×Option Lv)}{m:Nat}{ids ids':List Nat}{nv nv':List (Nat×TV S)}{tk tk':List (Nat×Option Lv)}{j:Nat}(h:BN σ vs lv m ids nv tk j)(h':BN σ vs lv m ids' nv' tk' (j+ids.length)):BN σ vs lv m (ids++ids') (nv++nv') (tk++tk') j:=by
 refine⟨fun k z hk=>?_,fun k z hk=>?_,fun k c' hk=>?_⟩
 ·rw[tG]
  rcases jK.1 hk with hk|hk
  ·rw[h.kt k z hk]
  ·cases hl:tk.lookup k with
   |none=>exact h'.kt k z hk
   |some z'=>
    obtain⟨i,_,_,h1,_,h2,_⟩:=h.tl k z' (aK hl)
    obtain⟨i',_,_,ni,_,_⟩:=h'.tl k z hk
    have:=z7 h2
    omega
 ·rcases jK.1 hk with hk|hk
  ·obtain⟨i,id,y,h1,h2,h3,h4⟩:=h.tl k z hk
   exact⟨i,id,y,h1,h2,by rw[uQ (z7 h3)];exact h3,h4⟩
  ·obtain⟨i,id,y,h1,h2,h3,h4⟩:=h'.tl k z hk
   exact⟨ids.length+i,id,y,by omega,h2,by rw[rH (by omega),yH];exact h3,h4⟩
 ·rcases jK.1 hk with hk|hk
  ·obtain⟨i,id,c,h1,h2,h3,h4,h5⟩:=h.nv k c' hk
   exact⟨i,id,c,h1,by rw[uQ (z7 h2)];exact h2,h3,h4,h5.inl⟩
  ·obtain⟨i,id,c,h1,h2,h3,h4,h5⟩:=h'.nv k c' hk
   exact⟨ids.length+i,id,c,by omega,by rw[rH (by omega),yH];exact h2,h3,h4,h5.inr⟩
theorem asT_A {ex:Bool}{t:T}{a:TV S}{x:t.den S}(h:asT B ex t a=some x):a.isA=t.agg∧a.isC=true:=by
 unfold asT at h
 split at h
 ·split at h
  ·rename_i he;subst he;exact⟨rfl,rfl⟩
  ·cases h
 ·exact⟨rfl,rfl⟩
 ·exact⟨rfl,rfl⟩
 ·exact⟨rfl,rfl⟩
 ·exact⟨rfl,rfl⟩
 ·cases h
mutual
theorem T5 {σ:Nat→Nat}{lv:List (Nat×Option Lv)}{nx m:Nat}(ss:OVs lv nx vs):∀{h:Sh} {a:TV S} {ls cs rest:List (TV S)} {j:Nat} {r:Bu S (TV S)},yA B vs h a=some ls→Cm B h.ts ls cs→bul h (cs++rest) j=some r→
  (∀i id,(wM B vs h a)[i]? =some id→σ (j+i)=id)→HZ B vs lv h a=true→OV lv nx a→j+(wM B vs h a).length≤m→r.l=rest∧r.j=j+(wM B vs h a).length∧BO σ vs lv m a r.a (wM B vs h a) r.nv r.tk j
 | .d t,a,ls,cs,rest,j,r,hd,hc,hb,hσ,hu,ho,hm=>by
  unfold yA at hd
  split at hd
  ·rename_i hC
   cases hd
   simp only[Sh.ts] at hc
   cases hc with
   |cons hx r=>
    cases r
    rename_i x
    rw[yI,mm] at hb
    unfold bul at hb
    cases hb
    obtain⟨hA,_⟩:=asT_A hx
    have hw:=(KP B false hx).1
    refine⟨rfl,by simp only[wM];rfl,⟨?_,?_,?_,rfl,by rw[hA];rfl,hC⟩,?_,BN.nil⟩
    ·simp only[TV.cells];rw[HY];exact hw
    ·simp only[TV.cells];exact tK (fun _=>rfl) _
    ·simp only[TV.cells];exact tK (fun _=>rfl) _
    ·intro o mM;simp only[TV.owns] at mM;cases mM
  ·cases hd
 | .o t e,a,ls,cs,rest,j,r,hd,hc,hb,hσ,hu,ho,hm=>by
  unfold yA at hd
  split at hd
  ·rename_i id ver u l
   cases hd
   simp only[Sh.ts] at hc
   cases hc with
   |cons hx r=>
    cases r
    rename_i x
    unfold asT at hx
    rw[az (by decide)] at hx
    split at hx
    ·rename_i he
     subst he
     cases hx
     rw[yI,mm] at hb
     unfold bul at hb
     dsimp only at hb
     rw[an rfl] at hb
     cases hb
     simp only[wM] at hσ hm ⊢
     have hs:=hσ 0 id rfl
     rw[i9] at hs
     unfold HZ at hu
     dsimp only at hu
     split at hu
     ·rename_i y hy
      rw[c8,c8] at hu
      have c1:=f7 hu.1.1
      have c2:=f7 hu.1.2
      have c3:=f7 hu.2
      have hg:GO lv nx (id,ver,l.length):=ho _ (by simp only[TV.owns];exact qU.2 rfl)
      have hn:=(hg.2 y hy).2 c1
      refine⟨by first|rfl|trivial,rfl,⟨?_,?_,?_,rfl,rfl,rfl⟩,?_,⟨?_,?_,fun _ _ h=>(by cases h)⟩⟩
      ·simp only[TV.cells]
       refine⟨.inl ?_,trivial⟩
       show D.own (σ j) _ _ _=_
       rw[hs]
      ·simp only[TV.cells]
       rw[jL,oF,iY]
       show decide (j<m)=true
       simp only[Ur] at hm
       exact det_
      ·simp only[TV.cells];rfl
      ·intro o mM
       simp only[TV.owns,qU] at mM
       subst mM
       exact⟨_,qU.2 rfl,rfl,rfl,rfl⟩
      ·intro k z hk
       rw[qU] at hk
       cases hk
       exact ah
      ·intro k z hk
       rw[qU] at hk
       cases hk
       exact⟨0,id,_,rfl,rfl,rfl,by rw[hy];show some (y.n,y.z,y.e)=_;rw[hn,c2,c3]⟩
     ·cases hu
    ·cases hx
  ·cases hd
 | .n,a,ls,cs,rest,j,r,hd,hc,hb,hσ,hu,ho,hm=>by
  unfold yA at hd
  split at hd
  ·cases hd
   simp only[Sh.ts] at hc
   cases hc
   unfold bul at hb
   cases hb
   refine⟨rfl,by simp only[wM];rfl,⟨?_,?_,?_,rfl,rfl,rfl⟩,?_,BN.nil⟩
   ·simp only[TV.cells];exact⟨.inl rfl,trivial⟩
   ·simp only[TV.cells];rfl
   ·simp only[TV.cells];rfl
   ·intro o mM;simp only[TV.owns] at mM;cases mM
  ·cases hd
 | .p h,a,ls,cs,rest,j,r,hd,hc,hb,hσ,hu,ho,hm=>by
  unfold yA at hd
  simp only[Sh.ts] at hc
  unfold bul at hb
  split at hb
  ·rename_i q hq
   cases hb
   split at hd
   ·rename_i k
    split at hd
    ·rename_i c hk
     have eo:wM B vs (.p h) (.pt k [])=k::wM B vs h c:=by simp only[wM,hk]
     have ec:HZ B vs lv (.p h) (.pt k [])=HZ B vs lv h c:=by simp only[HZ,hk]
     rw[eo] at hσ hm ⊢
     rw[ec] at hu
     rw[lc] at hm ⊢
     obtain⟨q1,q2,q3,q4,q5⟩:=T5 (σ:=σ) (m:=m) ss hd hc hq (fun i id hi=>by
      have:=hσ (i+1) id (by simpa using hi)
      rw[←this];congr 1;omega) hu (va ss hk) (by omega)
     have hs:=hσ 0 k rfl
     rw[i9] at hs
     have l1:=BN.app (ids:=[k]) (j:=j) (BN.nil (S:=S) (vs:=vs) (σ:=σ) (lv:=lv) (m:=m)) q5
     refine⟨q1,by rw[q2];omega,⟨?_,?_,?_,rfl,rfl,rfl⟩,?_,⟨l1.kt,l1.tl,?_⟩⟩
     ·simp only[TV.cells]
      refine⟨.inl ?_,trivial⟩
      show D.pt (σ j) _=_
      rw[hs]
     ·simp only[TV.cells]
      rw[jL,oF,iY]
      exact det_
     ·simp only[TV.cells];rfl
     ·intro o mM;simp only[TV.owns] at mM;cases mM
     ·intro k' c' pf
      rcases e8.1 pf with e|pf
      ·cases e
       exact⟨0,k,c,rfl,rfl,hk,q3,q4⟩
      ·exact l1.nv k' c' pf
    ·cases hd
   ·cases hd
  ·cases hb
 | .ag l,a,ls,cs,rest,j,r,hd,hc,hb,hσ,hu,ho,hm=>by
  unfold yA at hd
  simp only[Sh.ts] at hc
  unfold bul at hb
  split at hb
  ·rename_i q pK
   cases hb
   split at hd
   ·rename_i fs
    simp only[wM] at hσ hm ⊢
    simp only[HZ] at hu
    obtain⟨q1,q2,q⟩:=BX (σ:=σ) (m:=m) ss hd hc pK hσ hu (fun b hb o hbo=>ho o (by simp only[TV.owns];exact nh.2 ⟨b,hb,hbo⟩)) hm
    refine⟨q1,q2,⟨?_,?_,?_,rfl,rfl,rfl⟩,?_,q.bn⟩
    ·simp only[TV.cells];exact q.w
    ·simp only[TV.cells];exact q.i
    ·simp only[TV.cells];exact q.n
    ·simp only[TV.owns];exact q.ow
   ·rename_i s y
    split at hd
    ·rename_i hs
     simp only[wM] at hσ hm ⊢
     simp only[HZ] at hu
     obtain⟨q1,q2,q⟩:=BX (σ:=σ) (m:=m) ss hd hc pK hσ hu (fun b hb=>gS (FY b hb)) hm
     refine⟨q1,q2,⟨?_,?_,?_,rfl,rfl,rfl⟩,?_,q.bn⟩
     ·have h1:=wZ y hs
      rw[pH] at h1
      simp only[TV.cells]
      show ot (dC ((S.c s).f y)) _
      rw[←h1]
      exact q.w
     ·simp only[TV.cells];exact q.i
     ·simp only[TV.cells];exact q.n
     ·simp only[TV.owns];exact q.ow
    ·cases hd
   ·cases hd
  ·cases hb
theorem BX {σ:Nat→Nat}{lv:List (Nat×Option Lv)}{nx m:Nat}(ss:OVs lv nx vs):∀{l:List Sh} {fs:List (TV S)} {ls cs rest:List (TV S)} {j:Nat} {r:Bu S (List (TV S))},qO B vs l fs=some ls→Cm B (tsL l) ls cs→QD l (cs++rest) j=some r→
  (∀i id,(rp B vs l fs)[i]? =some id→σ (j+i)=id)→Mz B vs lv l fs=true→(∀b∈fs,OV lv nx b)→j+(rp B vs l fs).length≤m→r.l=rest∧r.j=j+(rp B vs l fs).length∧BOL σ vs lv m fs r.a (rp B vs l fs) r.nv r.tk j
 |[],[],ls,cs,rest,j,r,hd,hc,hb,hσ,hu,ho,hm=>by
  unfold qO at hd
  cases hd
  simp only[tsL] at hc
  cases hc
  unfold QD at hb
  cases hb
  simp only[rp]
  refine⟨rfl,rfl,rfl,fun i a h=>(by simp at h),?_,?_,?_,?_,BN.nil⟩
  ·simp only[bt];exact trivial
  ·simp only[bt];rfl
  ·simp only[bt];rfl
  ·intro o mM;simp only[pT] at mM;cases mM
 |h::l,a::fs,ls,cs,rest,j,r,hd,hc,hb,hσ,hu,ho,hm=>by
  unfold qO at hd
  split at hd
  ·rename_i x y hx hy
   cases hd
   simp only[tsL] at hc
   obtain⟨c1,c2,rfl,HK,ui⟩:=hc.split (Dp hx)
   unfold QD at hb
   rw[bP] at hb
   split at hb
   ·rename_i r1 fy
    split at hb
    ·rename_i r2 rf
     cases hb
     simp only[rp] at hσ hm ⊢
     rw[cN] at hm ⊢
     simp only[Mz] at hu
     rw[c8] at hu
     obtain⟨p1,p2,p⟩:=T5 (σ:=σ) (m:=m) ss hx HK fy (fun i id hi=>hσ i id (by
      rw[uQ (z7 hi)]
      exact hi)) hu.1 (ho a (.head _)) (by omega)
     rw[p1,p2] at rf
     obtain⟨q1,q2,q⟩:=BX (σ:=σ) (m:=m) ss hy ui rf (fun i id hi=>by
      have:=hσ ((wM B vs h a).length+i) id (by rw[rH (by omega),yH];exact hi)
      rw[←this];congr 1;omega) hu.2 (fun b hb=>ho b (.tail _ hb)) (by omega)
     refine⟨q1,by rw[q2];omega,?_,fun i b hb=>?_,?_,?_,?_,?_,p.bn.app q.bn⟩
     ·rw[lc,lc,q.len]
     ·cases i with
      |zero=>
       have hb:r1.a=b:=by simpa using hb
       subst hb
       exact⟨a,rfl,p.be⟩
      |succ i=>
       obtain⟨c,h1,h2⟩:=q.el i b (by simpa using hb)
       exact⟨c,by simpa using h1,h2⟩
     ·simp only[bt];rw[lf];exact B4 p.be.w q.w
     ·simp only[bt];rw[sX,p.be.i,q.i];rfl
     ·simp only[bt];rw[sX,p.be.n,q.n];rfl
     ·intro o mM
      simp only[pT,jK] at mM
      rcases mM with h|h
      ·exact p.ow.inl o h
      ·exact q.ow.inr o h
    ·cases hb
   ·cases hb
  ·cases hd
 |[],_::_,_,_,_,_,_,hd,_,_,_,_,_,_=>by unfold qO at hd;cases hd
 |_::_,[],_,_,_,_,_,hd,_,_,_,_,_,_=>by unfold qO at hd;cases hd
end
theorem BE.le {σ:Nat→Nat}{m:Nat}{a a':TV S}(h:BE σ m a a'):a.toD.le (a'.toD.ren σ)∧a'.toD.idsB m=true∧a'.toD.noOs=true:=by
 cases hA:a.isA with
 |true=>
  have IY:a'.isA=true:=h.A.trans hA
  rw[yp hA,yp IY]
  exact⟨i7 h.w,h.i,h.n⟩
 |false=>
  have IY:a'.isA=false:=h.A.trans hA
  have e1:=CD hA h.ac
  have e2:=CD IY h.c
  have hw:=h.w
  have hi:=h.i
  have hn:=h.n
  rw[e1,e2] at hw
  rw[e2,jL,oF,iY] at hi hn
  have lr:∀ds,a'.toD≠.ag ds:=fun ds e=>by rw[e] at hi;cases hi
  have hnt:∀ds,a'.toD≠.tu ds:=fun ds e=>by rw[e] at hi;cases hi
  have r1:a'.toD.ren σ=a'.toD.renC σ:=by
   cases hd:a'.toD <;> first|rfl|(exact absurd hd (lr _))|(exact absurd hd (hnt _))
  have r2:a'.toD.idsB m=a'.toD.idsC m:=by
   cases hd:a'.toD <;> first|rfl|(exact absurd hd (lr _))|(exact absurd hd (hnt _))
  have r3:a'.toD.noOs=a'.toD.noO:=by
   cases hd:a'.toD <;> first|rfl|(exact absurd hd (lr _))|(exact absurd hd (hnt _))
  rw[r1,r2,r3]
  exact⟨.inl hw.1,hi,hn⟩
end
end
section
section
variable [eH] {S:SD} {B:(i:Nat)→List (Fld S i)}
theorem FJ {a:TV S}:a.isC=true↔a.toD.cells≠none:=by
 constructor
 ·intro h;rw[TV.toD_cells h];nofun
 ·intro h
  cases a <;> first|rfl|(exfalso;apply h;simp only[TV.toD];rfl)
def Fr2(D:List Nat)(s s':St S):Prop:=∀t a,D.elem t=false→s.tm.lookup t=some a→a.isC=true→(tmL s'.tm).lookup t=some a.toD
theorem Fr2.trans {D D':List Nat}{s s' s'':St S}(h:Fr2 D s s')(h':Fr2 D' s' s''):Fr2 (D++D') s s'':=fun t a ht ha hc=>by
 have h1:=h t a (qL ht).1 ha hc
 rw[ly] at h1
 cases hb:s'.tm.lookup t with
 |none=>rw[hb] at h1;cases h1
 |some b=>
  rw[hb] at h1
  have e:b.toD=a.toD:=by simpa using h1
  have hbc:b.isC=true:=FJ.2 (by rw[e];exact FJ.1 hc)
  rw[←e]
  exact h' t b (qL ht).2 hb hbc
theorem ExT.fr {D:List Nat}{s s':St S}(h:ExT D s s'):Fr2 D s s':=fun t a ht ha _=>by rw[h.1 t ht,ly,ha];rfl
def Exs(D:List Nat)(s s':St S):Prop:=Fr2 D s s'∧Ex s s'
theorem Exs.refl(D:List Nat)(s:St S):Exs D s s:=⟨fun t a _ ha _=>by rw[ly,ha];rfl,Ex.refl s⟩
theorem Exs.trans {D D':List Nat}{s s' s'':St S}(h:Exs D s s')(h':Exs D' s' s''):Exs (D++D') s s'':=⟨h.1.trans h'.1,h.2.trans h'.2⟩
theorem Exs.sub {D D':List Nat}{s s':St S}(h:Exs D s s')(hs:∀t,D'.elem t=false→D.elem t=false):Exs D' s s':=⟨fun t a ht=>h.1 t a (hs t ht),h.2⟩
def rt(D:List Nat):List Nat→List (Nat×TV S)→List (Nat×TV S)
 |_,[]=>[]
 |seen,(t,a)::l=>if (D.elem t||seen.elem t)=true then rt D seen l else if a.isC=true then (t,a)::rt D (t::seen) l else rt D (t::seen) l
theorem yk {D:List Nat}:∀{l:List (Nat×TV S)} {seen:List Nat} {t:Nat} {a:TV S},(rt D seen l).lookup t=some a→D.elem t=false∧seen.elem t=false∧l.lookup t=some a∧a.isC=true
 |[],_,_,_,h=>by unfold rt at h;cases h
 |(u,b)::l,seen,t,a,h=>by
  unfold rt at h
  split at h
  ·rename_i hs
   obtain⟨h1,h2,h3,h4⟩:=yk h
   have lr:t≠u:=fun e=>by
    rw[e] at h1 h2;rw[h1,h2] at hs;cases hs
   exact⟨h1,h2,by rw[al lr];exact h3,h4⟩
  ·rename_i hs
   have hs:D.elem u=false∧seen.elem u=false:=by
    rw[OY,not_or] at hs
    exact⟨Uq.2 hs.1,Uq.2 hs.2⟩
   split at h
   ·rename_i hc
    by_cases e:t=u
    ·subst e
     rw[ah] at h
     cases h
     exact⟨hs.1,hs.2,ah,hc⟩
    ·rw[al e] at h
     obtain⟨h1,h2,h3,h4⟩:=yk h
     simp only[Ge] at h2
     exact⟨h1,by cases h5:(t == u) <;> simp[h5] at h2 ⊢;exact h2,by rw[al e];exact h3,h4⟩
   ·obtain⟨h1,h2,h3,h4⟩:=yk h
    have lr:t≠u:=fun e=>by rw[e] at h2;simp at h2
    simp only[Ge] at h2
    exact⟨h1,by cases h5:(t == u) <;> simp[h5] at h2 ⊢;exact h2,by rw[al lr];exact h3,h4⟩
theorem yj {D:List Nat}:∀{l:List (Nat×TV S)} {seen:List Nat} {t:Nat} {a:TV S},D.elem t=false→seen.elem t=false→l.lookup t=some a→a.isC=true→(rt D seen l).lookup t=some a
 |[],_,_,_,_,_,h,_=>by cases h
 |(u,b)::l,seen,t,a,hD,hs,h,hc=>by
  unfold rt
  by_cases e:t=u
  ·subst e
   rw[ah] at h
   cases h
   rw[az (by rw[hD,hs];decide),an hc,ah]
  ·rw[al e] at h
   have Ma:(u::seen).elem t=false:=by
    simp only[Ge]
    rw[A7.2 e];exact hs
   split
   ·exact yj hD hs h hc
   ·split
    ·rw[al e];exact yj hD Ma h hc
    ·exact yj hD Ma h hc
def um:List Nat→List (TV S)→List (Nat×TV S)
 |k::ks,a::l=>(k,a)::um ks l
 |_,_=>[]
theorem BD:∀{ks:List Nat} {l:List (TV S)} {t:Nat} {a:TV S},(um ks l).lookup t=some a→∃i:Nat,ks[i]? =some t∧l[i]? =some a
 |k::ks,b::l,t,a,h=>by
  unfold um at h
  by_cases e:t=k
  ·subst e
   rw[ah] at h
   exact⟨0,rfl,h⟩
  ·rw[al e] at h
   obtain⟨i,h1,h2⟩:=BD h
   exact⟨i+1,by simpa using h1,by simpa using h2⟩
 |[],_,_,_,h=>by unfold um at h;cases h
 |_::_,[],_,_,h=>by unfold um at h;cases h
theorem Nx:∀{ks:List Nat} {l:List (TV S)} {t:Nat},ks.length≤l.length→(um ks l).lookup t=none→ks.elem t=false
 |[],_,_,_,_=>rfl
 |k::ks,b::l,t,hl,h=>by
  unfold um at h
  by_cases e:t=k
  ·subst e
   rw[ah] at h;cases h
  ·rw[al e] at h
   simp only[Ge]
   rw[A7.2 e]
   exact Nx (by simpa using hl) h
 |_::_,[],_,hl,_=>by simp at hl
theorem AO {α:Type}:∀{l:List (Nat×α)} {t:Nat},(l.map (·.1)).elem t=false→l.lookup t=none
 |[],_,_=>rfl
 |(k,a)::l,t,h=>by
  simp only[gZ,Ge] at h
  cases e:(t == k) with
  |true=>rw[e] at h;cases h
  |false=>
   rw[e] at h
   rw[al (A7.1 e)]
   exact AO h
theorem uI {α:Type}{l:List (Nat×α)}{t:Nat}{a:α}(h:l.lookup t=some a):(l.map (·.1)).elem t=true:=by
 cases he:(l.map (·.1)).elem t with
 |true=>rfl
 |false=>rw[AO he] at h;cases h
mutual
def TV.lt(n:Nat):TV S→Bool
 | .own id _ _ _=>Nat.blt id n
 | .pt k _=>Nat.blt k n
 | .ow k _ _ _ _=>Nat.blt k n
 | .fn _ ks=>ks.all fun k=>Nat.blt k n
 | .ag fs=>ltL n fs
 |_=>true
def ltL(n:Nat):List (TV S)→Bool
 |[]=>true
 |a::l=>a.lt n&&ltL n l
end
theorem mY {a b:Nat}(h:Nat.blt a b=true):a<b:=cD h
theorem Ln {l m:List D}(h:l=m):ot l m:=h▸m9 l
mutual
theorem Sj {n m:Nat}{σ:Nat→Nat}(hσ:∀i,i<n→σ i=i)(hm:n≤m):∀{a:TV S},a.lt n=true→a.cells.map (D.renC σ)=a.cells∧a.cells.all (D.idsC m)=true∧a.cells.all D.noO=true
 | .v t x,_=>by simp only[TV.cells];exact⟨HY _ _,tK (fun _=>rfl) _,tK (fun _=>rfl) _⟩
 | .ag fs,h=>by simp only[TV.cells];simp only[TV.lt] at h;exact Sm hσ hm h
 | .nil,_=>by simp only[TV.cells];exact⟨rfl,rfl,rfl⟩
 | .own id _ _ _,h=>by
  simp only[TV.lt] at h
  have h:=mY h
  simp only[TV.cells]
  refine⟨?_,?_,rfl⟩
  ·show [D.own (σ id) _ _ _]=_;rw[hσ id h]
  ·rw[jL,oF,iY];exact det_
 | .fu ..,_=>by simp only[TV.cells];exact⟨rfl,rfl,rfl⟩
 | .fp ..,_=>by simp only[TV.cells];exact⟨rfl,rfl,rfl⟩
 | .pt k _,h=>by
  simp only[TV.lt] at h
  have h:=mY h
  simp only[TV.cells]
  refine⟨?_,?_,rfl⟩
  ·show [D.pt (σ k) _]=_;rw[hσ k h]
  ·rw[jL,oF,iY];exact det_
 | .ow k _ _ _ _,h=>by
  simp only[TV.lt] at h
  have h:=mY h
  simp only[TV.cells]
  refine⟨?_,?_,rfl⟩
  ·show [D.ow (σ k) _ _ _]=_;rw[hσ k h]
  ·rw[jL,oF,iY];exact det_
 | .tu ..,_=>by simp only[TV.cells];exact⟨rfl,rfl,rfl⟩
 | .fn f ks,h=>by
  simp only[TV.lt,bx] at h
  simp only[TV.cells]
  refine⟨?_,?_,rfl⟩
  ·show [D.fn f (ks.map σ)]=_
   rw[show ks.map σ=ks from by
    conv=>rhs;rw[←Gc ks]
    exact sV fun k hk=>hσ k (mY (h k hk))]
  ·rw[jL,oF,iY]
   show (ks.all fun k=>decide (k<m))=true
   exact bx.2 fun k hk=>ck (by have:=mY (h k hk);omega)
 | .fl ..,_=>by simp only[TV.cells];exact⟨rfl,rfl,rfl⟩
 | .mp,_=>by simp only[TV.cells];exact⟨rfl,rfl,rfl⟩
 | .top,_=>by simp only[TV.cells];exact⟨rfl,rfl,rfl⟩
theorem Sm {n m:Nat}{σ:Nat→Nat}(hσ:∀i,i<n→σ i=i)(hm:n≤m):∀{l:List (TV S)},ltL n l=true→(bt l).map (D.renC σ)=bt l∧(bt l).all (D.idsC m)=true∧(bt l).all D.noO=true
 |[],_=>by simp only[bt];exact⟨rfl,rfl,rfl⟩
 |a::l,h=>by
  simp only[ltL] at h
  rw[c8] at h
  obtain⟨h1,h2,h3⟩:=Sj hσ hm h.1
  obtain⟨q1,q2,q3⟩:=Sm hσ hm h.2
  simp only[bt]
  exact⟨by rw[lf,h1,q1],by rw[sX,h2,q2];rfl,by rw[sX,h3,q3];rfl⟩
end
theorem lt_be {n m:Nat}{σ:Nat→Nat}(hσ:∀i,i<n→σ i=i)(hm:n≤m){a:TV S}(h:a.lt n=true)(hc:a.isC=true):BE σ m a a:=by
 obtain⟨h1,h2,h3⟩:=Sj hσ hm h
 exact⟨Ln h1.symm,h2,h3,hc,rfl,hc⟩
def St.good(s:St S):Bool:=s.tm.all (fun p=>p.2.lt s.nx)&&s.vs.all (fun p=>Nat.blt p.1 s.nx&&p.2.lt s.nx)&&s.lv.all fun p=>Nat.blt p.1 s.nx
structure Jn where
 ts:List (Nat×Sh)
 vs:List (Nat×Sh)
 cv:List (Nat×List Stp×T×TypeId)
def Jn.sh(J:Jn):List Sh:=J.ts.map (·.2)++J.vs.map (·.2)
def Jn.tys(J:Jn):List T:=tsL J.sh
def ownN(o:Option (TV S)):List Nat:=match o with
 |some a=>a.owns.map (·.1)
 |none=>[]
def qN(s:St S)(J:Jn):List Nat:=J.ts.flatMap (fun p=>ownN (s.tm.lookup p.1))++J.vs.flatMap fun p=>ownN (s.vs.lookup p.1)
def mkS(s:St S)(D:List Nat)(J:Jn)(cs:List (TV S)):Option (St S):=match QD J.sh cs s.nx with
 |some ⟨fs,[],j,nv,tk⟩=>some ⟨um (J.ts.map (·.1)) fs++rt D [] s.tm,um (J.vs.map (·.1)) (fs.drop J.ts.length)++(nv++s.vs),tk++(qN s J).map (fun i=>(i,none))++s.lv,j⟩
 |_=>none
def ye(l:List (Nat×TV S)):List Nat→Option (List (TV S))
 |[]=>some []
 |k::ks=>match l.lookup k,ye l ks with
  |some a,some r=>some (a::r)
  |_,_=>none
theorem zQ {l:List (Nat×TV S)}:∀{ks:List Nat} {r:List (TV S)},ye l ks=some r→r.length=ks.length∧∀(i k:Nat),ks[i]? =some k→∃a:TV S,r[i]? =some a∧l.lookup k=some a
 |[],r,h=>by unfold ye at h;cases h;exact⟨rfl,fun i k h=>by simp at h⟩
 |k::ks,r,h=>by
  unfold ye at h
  split at h
  ·rename_i a r' ha hr
   cases h
   obtain⟨h1,h2⟩:=zQ hr
   refine⟨by rw[lc,lc,h1],fun i u hu=>?_⟩
   cases i with
   |zero=>
    have hu:k=u:=by simpa using hu
    subst hu
    exact⟨a,rfl,ha⟩
   |succ i=>
    obtain⟨b,h3,h4⟩:=h2 i u (by simpa using hu)
    exact⟨b,by simpa using h3,h4⟩
  ·cases h
def R5:List Nat→Bool
 |[]=>true
 |a::l=>!l.elem a&&R5 l
theorem CE:∀{l:List Nat},R5 l=true→∀i j a:Nat,l[i]? =some a→l[j]? =some a→i=j
 |[],_,i,j,a,h,_=>by simp at h
 |b::l,hn,i,j,a,hi,hj=>by
  unfold R5 at hn
  rw[c8,ww] at hn
  have key:∀k,l[k]? =some b→False:=fun k hk=>by
   have:=List.elem_eq_true_of_mem (bL hk)
   rw[hn.1] at this;cases this
  cases i with
  |zero=>
   cases j with
   |zero=>rfl
   |succ j=>
    have e1:b=a:=by simpa using hi
    have e2:l[j]? =some a:=by simpa using hj
    rw[←e1] at e2
    exact (key j e2).elim
  |succ i=>
   have e2:l[i]? =some a:=by simpa using hi
   cases j with
   |zero=>
    have e1:b=a:=by simpa using hj
    rw[←e1] at e2
    exact (key i e2).elim
   |succ j=>rw[CE hn.2 i j a e2 (by simpa using hj)]
def getS(B:(i:Nat)→List (Fld S i))(s:St S)(D:List Nat)(J:Jn)(s':St S):Option (Tup S J.tys):=match ye s'.tm (J.ts.map (·.1)),ye s'.vs (J.vs.map (·.1)) with
 |some a,some b=>if (s.good&&Mz B s'.vs s'.lv J.sh (a++b)&&R5 (rp B s'.vs J.sh (a++b))&&(rp B s'.vs J.sh (a++b)).all (fun i=>((qN s J).elem i||!(s.lv.map (·.1)).elem i)&&!(s.vs.map (·.1)).elem i&&!(J.vs.map (·.1)).elem i)&&
   (s'.vs.take (s'.vs.length - s.vs.length)).all (fun p=>(J.vs.map (·.1)).elem p.1||!(s.vs.map (·.1)).elem p.1)&&
   (s'.lv.take (s'.lv.length - s.lv.length)).all (fun p=>(qN s J).elem p.1||!(s.lv.map (·.1)).elem p.1)&&
   (J.vs.map (·.1)).all (fun k=>Nat.blt k s.nx)&&(J.ts.map (·.1)).all fun t=>D.elem t)=true then match qO B s'.vs J.sh (a++b) with
    |some l=>Cf B J.tys l
    |none=>none
   else none
 |_,_=>none
end
end
section
section
variable [eH] {S:SD} {B:(i:Nat)→List (Fld S i)}
theorem I0 {ks:List Nat}:∀{l:List (TV S)} {p:Nat×TV S},p∈um ks l→p.2∈l:=by
 induction ks with
 |nil=>intro l p h;unfold um at h;cases h
 |cons k ks ih=>
  intro l p h
  cases l with
  |nil=>unfold um at h;cases h
  |cons a l=>
   unfold um at h
   rcases e8.1 h with rfl|h
   ·exact .head _
   ·exact .tail _ (ih h)
theorem vj {D:List Nat}:∀{l:List (Nat×TV S)} {seen:List Nat} {p:Nat×TV S},p∈rt D seen l→p∈l
 |[],_,_,h=>by unfold rt at h;cases h
 |(t,a)::l,seen,p,h=>by
  unfold rt at h
  split at h
  ·exact .tail _ (vj h)
  ·split at h
   ·rcases e8.1 h with rfl|h
    ·exact .head _
    ·exact .tail _ (vj h)
   ·exact .tail _ (vj h)
theorem R4 {ks:List Nat}{t:Nat}{α:Type}{z:Option α}(h:((ks.map fun i=>(i,(none:Option α))):List (Nat×Option α)).lookup t=some z):z=none:=by
 induction ks with
 |nil=>cases h
 |cons k ks ih=>
  rw[gZ] at h
  by_cases e:t=k
  ·subst e;rw[ah] at h;cases h;rfl
  ·rw[al e] at h;exact ih h
theorem R3 {ks:List Nat}{t:Nat}{α:Type}(h:((ks.map fun i=>(i,(none:Option α))):List (Nat×Option α)).lookup t=none):ks.elem t=false:=by
 induction ks with
 |nil=>rfl
 |cons k ks ih=>
  rw[gZ] at h
  by_cases e:t=k
  ·subst e;rw[ah] at h;cases h
  ·rw[al e] at h
   simp only[Ge]
   rw[A7.2 e]
   exact ih h
structure Gt(B:(i:Nat)→List (Fld S i))(s:St S)(D:List Nat)(J:Jn)(s':St S)(y:Tup S J.tys)(a b l:List (TV S)):Prop where
 la:ye s'.tm (J.ts.map (·.1))=some a
 lb:ye s'.vs (J.vs.map (·.1))=some b
 gt:s.tm.all (fun p=>p.2.lt s.nx)=true
 gv:s.vs.all (fun p=>Nat.blt p.1 s.nx&&p.2.lt s.nx)=true
 gl:s.lv.all (fun p=>Nat.blt p.1 s.nx)=true
 cu:Mz B s'.vs s'.lv J.sh (a++b)=true
 nd:R5 (rp B s'.vs J.sh (a++b))=true
 di:(rp B s'.vs J.sh (a++b)).all (fun i=>((qN s J).elem i||!(s.lv.map (·.1)).elem i)&&!(s.vs.map (·.1)).elem i&&!(J.vs.map (·.1)).elem i)=true
 pv:(s'.vs.take (s'.vs.length - s.vs.length)).all (fun p=>(J.vs.map (·.1)).elem p.1||!(s.vs.map (·.1)).elem p.1)=true
 pl:(s'.lv.take (s'.lv.length - s.lv.length)).all (fun p=>(qN s J).elem p.1||!(s.lv.map (·.1)).elem p.1)=true
 kv:(J.vs.map (·.1)).all (fun k=>Nat.blt k s.nx)=true
 kt:(J.ts.map (·.1)).all (fun t=>D.elem t)=true
 de:qO B s'.vs J.sh (a++b)=some l
 tu:Cf B J.tys l=some y
theorem Qv {s s':St S}{D:List Nat}{J:Jn}{y:Tup S J.tys}(h:getS B s D J s'=some y):∃a b l,Gt B s D J s' y a b l:=by
 unfold getS at h
 split at h
 ·rename_i a b ha hb
  split at h
  ·rename_i hc
   simp only[c8,St.good] at hc
   split at h
   ·rename_i l hl
    obtain⟨⟨⟨⟨⟨⟨⟨⟨⟨h1,h2⟩,h3⟩,h4⟩,h5⟩,h6⟩,h7⟩,h8⟩,h9⟩,A3⟩:=hc
    exact⟨a,b,l,⟨ha,hb,h1,by simpa using h2,h3,h4,h5,h6,h7,h8,h9,A3,hl,h⟩⟩
   ·cases h
  ·cases h
 ·cases h
theorem Ic {α:Type}{l:List (Nat×α)}{p:Nat×α→Bool}(h:l.all p=true){k:Nat}{a:α}(hk:l.lookup k=some a):p (k,a)=true:=by
 rw[bx] at h
 exact h _ (aK hk)
theorem TI {l:List Nat}{i k:Nat}(h:l[i]? =some k):l.elem k=true:=List.elem_eq_true_of_mem (bL h)
theorem RR {α:Type}{l q:List (Nat×α)}{Ks:List Nat}(h:(((q++l).take ((q++l).length - l.length)).all fun p=>Ks.elem p.1||!(l.map (·.1)).elem p.1)=true){k:Nat}(hk:Ks.elem k=false){a:α}(hl:l.lookup k=some a):(q++l).lookup k=some a:=by
 rw[cN,DF,sU] at h
 rw[tG]
 cases hq:q.lookup k with
 |none=>exact hl
 |some b=>
  have:=Ic h hq
  dsimp only at this
  rw[hk,uI hl] at this
  cases this
theorem join_ok {x:Cx}{s s' s2:St S}{D:List Nat}{J:Jn}{y:Tup S J.tys}(hg:getS B s D J s'=some y)(hm:mkS s D J (tuV J.tys y)=some s2)(pf:s'.Ok)(hk:s.Ok)(hE:Exs D s s')(hx:x.hp0.next≤s.nx):
  s2.Ok∧Exs D s s2∧Wk x s'.tmD s'.hp s2.tmD s2.hp:=by
 obtain⟨a,b,l,g⟩:=Qv hg
 obtain⟨hF,⟨pv,hpv⟩,⟨pl,Oj⟩,ru⟩:=hE
 obtain⟨la,lka⟩:=zQ g.la
 obtain⟨lb,lkb⟩:=zQ g.lb
 rw[bc] at la lb
 unfold mkS at hm
 split at hm
 case h_2=>cases hm
 rename_i fs j nv tk hb
 cases hm
 have nR:Cm B (tsL J.sh) l (tuV J.tys y):=Jj g.tu
 let ids:=rp B s'.vs J.sh (a++b)
 let σ:Nat→Nat:=fun i=>if i<s.nx then i else ids.getD (i - s.nx) 0
 have Oe:∀i,i<s.nx→σ i=i:=fun i hi=>an hi
 have SC:∀i id,ids[i]? =some id→σ (s.nx+i)=id:=fun i id hi=>by
  show (if s.nx+i<s.nx then s.nx+i else ids.getD (s.nx+i - s.nx) 0)=id
  rw[ifn_,yH,KV,hi];rfl
 have hov:∀c∈a++b,OV s'.lv s'.nx c:=fun c hc=>by
  rcases jK.1 hc with hc|hc
  ·obtain⟨i,hi⟩:=sT hc
   have bh:i<a.length:=by
    rcases bO i a.length with h|h
    ·exact h
    ·rw[gP h] at hi;cases hi
   obtain⟨k,hk⟩:∃k,(J.ts.map (·.1))[i]? =some k:=⟨_,eG (by rw[bc];omega)⟩
   obtain⟨c',h1,h2⟩:=lka i k hk
   rw[hi] at h1;cases h1
   exact va pf.1 h2
  ·obtain⟨i,hi⟩:=sT hc
   have bh:i<b.length:=by
    rcases bO i b.length with h|h
    ·exact h
    ·rw[gP h] at hi;cases hi
   obtain⟨k,hk⟩:∃k,(J.vs.map (·.1))[i]? =some k:=⟨_,eG (by rw[bc];omega)⟩
   obtain⟨c',h1,h2⟩:=lkb i k hk
   rw[hi] at h1;cases h1
   exact va pf.2 h2
 obtain⟨_,hj,bo⟩:=BX (σ:=σ) (lv:=s'.lv) (nx:=s'.nx) (m:=s.nx+ids.length) (rest:=[]) pf.2 g.de nR (by rw[pY];exact hb) SC g.cu hov (aC _)
 have hj:j=s.nx+ids.length:=hj
 have lfs:fs.length=J.ts.length+J.vs.length:=by
  have:=bo.len
  dsimp only at this
  rw[this,cN,la,lb]
 have tokr:∀k z,(tk:List (Nat×Option Lv)).lookup k=some z→∃i id y,k=s.nx+i∧z=some y∧ids[i]? =some id∧lvO (s'.lv.lookup id)=some (y.n,y.z,y.e):=fun k z h=>bo.bn.tl k z (aK h)
 -- what is kept of the slices that may grow
 have lvk:∀k y0,((tk++(qN s J).map (fun i=>(i,(none:Option Lv)))++s.lv:List (Nat×Option Lv))).lookup k=some (some y0)→
   (∃i id,k=s.nx+i∧ids[i]? =some id∧lvO (s'.lv.lookup id)=some (y0.n,y0.z,y0.e))∨(k<s.nx∧(qN s J).elem k=false∧s.lv.lookup k=some (some y0)∧s'.lv.lookup k=some (some y0)):=fun k y0 h=>by
  rw[bP,tG] at h
  split at h
  ·rename_i z hz
   cases h
   obtain⟨i,id,y,h1,h2,h3,h4⟩:=tokr _ _ hz
   cases h2
   exact .inl ⟨i,id,h1,h3,h4⟩
  ·rw[tG] at h
   split at h
   ·rename_i z hz
    cases h
    have:=R4 hz
    cases this
   ·rename_i hz
    have hd:=R3 hz
    have h1:=Ic g.gl h
    refine .inr ⟨mY h1,hd,h,?_⟩
    rw[Oj]
    exact RR (by rw[←Oj];exact g.pl) hd h
 have hgo:∀o,GO s.lv s.nx o→GO (tk++(qN s J).map (fun i=>(i,(none:Option Lv)))++s.lv) j o:=fun o ho=>⟨by have:=ho.1;omega,fun y0 hy0=>by
  rcases lvk _ _ hy0 with⟨i,id,h1,_⟩|⟨_,_,h,_⟩
  ·have:=ho.1;omega
  ·exact ho.2 _ h⟩
 have hto:∀o:Nat×Nat×Nat,(∃y,(o.1,some y)∈tk∧y.ver=0∧o.2.1=0∧y.n=o.2.2)→GO (tk++(qN s J).map (fun i=>(i,(none:Option Lv)))++s.lv) j o:=by
  rintro o ⟨y0,h1,h2,h3,h4⟩
  obtain⟨i,id,y1,h5,h6,h7,h8⟩:=bo.bn.tl _ _ h1
  refine⟨?_,fun y2 AS=>?_⟩
  ·have:i<ids.length:=z7 h7
   omega
  ·rw[bP,tG,bo.bn.kt _ _ h1] at AS
   cases AS
   exact⟨by omega,fun _=>h4⟩
 have hfo:∀c∈fs,OV (tk++(qN s J).map (fun i=>(i,(none:Option Lv)))++s.lv) j c:=fun c hc o ho=>hto _ (bo.ow o (nh.2 ⟨c,hc,ho⟩))
 have wU:∀p∈nv,OV (tk++(qN s J).map (fun i=>(i,(none:Option Lv)))++s.lv) j p.2:=fun p hp o ho=>by
  obtain⟨i,id,c,h1,h2,h3,h4,h5⟩:=bo.bn.nv p.1 p.2 hp
  exact hto _ (h5 o ho)
 -- the variables
 have vsk:∀k c,(um (J.vs.map (·.1)) (fs.drop J.ts.length)++(nv++s.vs)).lookup k=some c→
   (k<s.nx∧∃c0,s'.vs.lookup k=some c0∧BE σ (s.nx+ids.length) c0 c∧(J.vs.map (·.1)).elem k=true)∨(∃i id c0,k=s.nx+i∧ids[i]? =some id∧s'.vs.lookup id=some c0∧BE σ (s.nx+ids.length) c0 c)∨(k<s.nx∧s'.vs.lookup k=some c∧c.lt s.nx=true∧(s.vs.map (·.1)).elem k=true):=fun k c hc=>by
  rw[tG] at hc
  split at hc
  ·rename_i c' hz
   cases hc
   obtain⟨i,h1,h2⟩:=BD hz
   rw[nt] at h2
   obtain⟨a0,h3,h4⟩:=bo.el _ _ h2
   obtain⟨a1,h5,h6⟩:=lkb i k h1
   rw[rH (by omega),la,yH,h5] at h3
   have h3:=bZ h3
   subst h3
   exact .inl ⟨mY (bx.1 g.kv k (bL h1)),_,h6,h4,TI h1⟩
  ·rename_i hz
   rw[tG] at hc
   split at hc
   ·rename_i c' QU
    cases hc
    obtain⟨i,id,c0,h1,h2,h3,h4,_⟩:=bo.bn.nv _ _ (aK QU)
    exact .inr (.inl ⟨i,id,c0,h1,h2,h3,h4⟩)
   ·have lr:=Nx (ks:=J.vs.map (·.1)) (by rw[bc,fZ];omega) hz
    have h1:=Ic g.gv hc
    dsimp only at h1
    rw[c8] at h1
    refine .inr (.inr ⟨mY h1.1,?_,h1.2,uI hc⟩)
    rw[hpv]
    exact RR (by rw[←hpv];exact g.pv) lr hc
 refine⟨⟨?_,?_⟩,⟨?_,⟨_,(bP _ _ _).symm⟩,⟨_,rfl⟩,by show s.nx≤j;omega⟩,?_⟩
 ·intro p hp
  rcases jK.1 hp with hp|hp
  ·exact hfo _ (I0 hp)
  ·exact fun o ho=>hgo o (hk.1 _ (vj hp) o ho)
 ·intro p hp
  rcases jK.1 hp with hp|hp
  ·exact hfo _ (Up (I0 hp))
  ·rcases jK.1 hp with hp|hp
   ·exact wU p hp
   ·exact fun o ho=>hgo o (hk.2 _ hp o ho)
 ·intro t c ht hc hcC
  rw[ly]
  show ((um (J.ts.map (·.1)) fs++rt D [] s.tm).lookup t).map TV.toD=_
  rw[tG]
  cases hz:(um (J.ts.map (·.1)) fs).lookup t with
  |none=>
   show ((rt D [] s.tm).lookup t).map TV.toD=_
   rw[yj ht rfl hc hcC];rfl
  |some c'=>
   obtain⟨i,h1,_⟩:=BD hz
   have:=bx.1 g.kt t (bL h1)
   rw[ht] at this;cases this
 ·show Wk x s'.tmD s'.hp (tmL _) ⟨vsL _,lvL _,j⟩
  refine Wk.gen σ (by omega) (fun i hi=>Oe i (by omega)) ?_ ?_ ?_ ?_ ?_
  ·intro t d hd
   rw[ly,rG] at hd
   obtain⟨c,hc,rfl⟩:=hd
   rw[tG] at hc
   split at hc
   ·rename_i c' hz
    cases hc
    obtain⟨i,h1,h2⟩:=BD hz
    obtain⟨a0,h3,h4⟩:=bo.el i _ h2
    obtain⟨a1,h5,h6⟩:=lka i t h1
    rw[uQ (by
     rcases bO i a.length with h|h
     ·exact h
     ·rw[gP h] at h5;cases h5),h5] at h3
    cases h3
    obtain⟨q1,q2,q3⟩:=BE.le h4
    exact⟨⟨_,by rw[ly,h6];rfl,q1⟩,by rw[hj];exact q2,q3⟩
   ·obtain⟨h1,_,h2,h3⟩:=yk hc
    obtain⟨q1,q2,q3⟩:=BE.le (lt_be (m:=j) Oe (by omega) (Ic g.gt h2) h3)
    exact⟨⟨_,hF t c h1 h2 h3,q1⟩,q2,q3⟩
  ·intro k ds hd
   rw[rN,rG] at hd
   obtain⟨c,hc,rfl⟩:=hd
   rcases vsk k c hc with⟨h1,c0,h2,h3,_⟩|⟨i,id,c0,h1,h2,h3,h4⟩|⟨h1,h2,h3,_⟩
   ·refine⟨by omega,⟨c0.cells,?_,h3.w⟩,by rw[hj];exact h3.i,h3.n⟩
    rw[Oe k h1,rN,h2];rfl
   ·have bh:i<ids.length:=z7 h2
    refine⟨by omega,⟨c0.cells,?_,h4.w⟩,by rw[hj];exact h4.i,h4.n⟩
    rw[h1,SC i id h2,rN,h3];rfl
   ·obtain⟨q1,q2,q3⟩:=Sj (m:=j) Oe (by omega) h3
    refine⟨by omega,⟨c.cells,?_,by rw[q1];exact m9 _⟩,q2,q3⟩
    rw[Oe k h1,rN,h2];rfl
  ·intro k k' ds ds' h h' he
   have key:∀k ds,(vsL (um (J.vs.map (·.1)) (fs.drop J.ts.length)++(nv++s.vs))).lookup k=some ds→(k<s.nx∧((J.vs.map (·.1)).elem k=true∨(s.vs.map (·.1)).elem k=true))∨(∃i id,k=s.nx+i∧ids[i]? =some id):=fun k ds hd=>by
    rw[rN,rG] at hd
    obtain⟨c,hc,rfl⟩:=hd
    rcases vsk k c hc with⟨h1,c0,h2,h3,h4⟩|⟨i,id,c0,h1,h2,h3,h4⟩|⟨h1,h2,h3,h4⟩
    ·exact .inl ⟨h1,.inl h4⟩
    ·exact .inr ⟨i,id,h1,h2⟩
    ·exact .inl ⟨h1,.inr h4⟩
   have cl:∀i id k',ids[i]? =some id→id=k'→((J.vs.map (·.1)).elem k'=true∨(s.vs.map (·.1)).elem k'=true)→False:=fun i id k' h1 h2 h3=>by
    subst h2
    have:=bx.1 g.di _ (bL h1)
    rw[c8,c8] at this
    rcases h3 with h3|h3
    ·rw[h3] at this;cases this.2
    ·rw[h3] at this;cases this.1.2
   rcases key _ _ h with⟨h1,h2⟩|⟨i,id,h1,h2⟩ <;> rcases key _ _ h' with⟨ni,lj⟩|⟨i',sr,ni,lj⟩
   ·rw[Oe k h1,Oe k' ni] at he
    exact he
   ·rw[ni,SC i' sr lj,Oe k h1] at he
    exact (cl i' sr k lj he.symm h2).elim
   ·rw[h1,SC i id h2,Oe k' ni] at he
    exact (cl i id k' h2 he lj).elim
   ·rw[h1,ni,SC i id h2,SC i' sr lj] at he
    subst he
    have:=CE g.nd i i' _ h2 lj
    omega
  ·intro k z hz
   rw[wS] at hz
   obtain⟨y0,hy0,rfl⟩:∃y0,((tk++(qN s J).map (fun i=>(i,(none:Option Lv)))++s.lv:List (Nat×Option Lv))).lookup k=some (some y0)∧z=(y0.n,y0.z,y0.e):=by
    unfold lvO at hz
    split at hz
    ·rename_i y0 h;cases hz;exact⟨y0,h,rfl⟩
    ·cases hz
   rcases lvk _ _ hy0 with⟨i,id,h1,h2,h3⟩|⟨h1,h2,h3,h4⟩
   ·have:i<ids.length:=by
     rcases bO i ids.length with h|h
     ·exact h
     ·rw[gP h] at h2;cases h2
    refine⟨by omega,?_⟩
    rw[h1,SC i id h2,wS]
    exact h3
   ·refine⟨by omega,?_⟩
    rw[Oe k h1,wS,h4];rfl
  ·intro k k' z z' hz QU he
   have key:∀k z,(lvL (tk++(qN s J).map (fun i=>(i,(none:Option Lv)))++s.lv)).lookup k=some z→(∃i id,k=s.nx+i∧ids[i]? =some id)∨(k<s.nx∧(qN s J).elem k=false∧(s.lv.map (·.1)).elem k=true):=fun k z hz=>by
    rw[wS] at hz
    unfold lvO at hz
    split at hz
    ·rename_i y0 h
     rcases lvk _ _ h with⟨i,id,h1,h2,_⟩|⟨h1,h2,h3,_⟩
     ·exact .inl ⟨i,id,h1,h2⟩
     ·exact .inr ⟨h1,h2,uI h3⟩
    ·cases hz
   have cl:∀i id k',ids[i]? =some id→id=k'→(qN s J).elem k'=false→(s.lv.map (·.1)).elem k'=true→False:=fun i id k' h1 h2 h3 h4=>by
    subst h2
    have:=bx.1 g.di _ (bL h1)
    rw[h3,h4] at this;cases this
   rcases key _ _ hz with⟨i,id,h1,h2⟩|⟨h1,h2,h3⟩ <;> rcases key _ _ QU with⟨i',sr,ni,lj⟩|⟨ni,lj,HO⟩
   ·rw[h1,ni,SC i id h2,SC i' sr lj] at he
    subst he
    have:=CE g.nd i i' _ h2 lj
    omega
   ·rw[h1,SC i id h2,Oe k' ni] at he
    exact (cl i id k' h2 he lj HO).elim
   ·rw[ni,SC i' sr lj,Oe k h1] at he
    exact (cl i' sr k lj he.symm h2 h3).elim
   ·rw[Oe k h1,Oe k' ni] at he
    exact he
def LN(B:(i:Nat)→List (Fld S i))(s:St S)(k:Nat)(p:List Stp)(t:T)(e:TypeId):St S:=match s.vs.lookup k with
 |some a=>match sub B p.reverse a with
  |some .nil=>match upd B p.reverse a (.own s.nx 0 t []) with
   |some a'=>match Nat.ble 1 (t.cd S).sz with
    |true=>⟨s.tm,(k,a')::s.vs,(s.nx,some ⟨0,0,(t.cd S).sz,e⟩)::s.lv,s.nx+1⟩
    |false=>s
   |none=>s
  |_=>s
 |none=>s
def P4(B:(i:Nat)→List (Fld S i)):List (Nat×List Stp×T×TypeId)→St S→St S
 |[],s=>s
 |(k,p,t,e)::l,s=>P4 B l (LN B s k p t e)
theorem nil1_ok {s:St S}{k:Nat}{p:List Stp}{t:T}{e:TypeId}:(s.Ok→(LN B s k p t e).Ok)∧Exs [] s (LN B s k p t e)∧∀x:Cx,Wk x s.tmD s.hp (LN B s k p t e).tmD (LN B s k p t e).hp:=by
 have here:(s.Ok→s.Ok)∧Exs [] s s∧∀x:Cx,Wk x s.tmD s.hp s.tmD s.hp:=⟨fun h=>h,Exs.refl _ s,fun _ _ _ h=>h⟩
 unfold LN
 split
 ·rename_i a ha
  split
  ·rename_i hs
   split
   ·rename_i a' ha'
    split
    ·rename_i hz
     refine⟨fun hk=>⟨vL hk.1 fun o ho=>Ey ho _,ol (fun o ho=>?_) (vL hk.2 fun o ho=>Ey ho _)⟩,⟨fun t a _ ha _=>by rw[ly,ha];rfl,⟨[_],rfl⟩,⟨[_],rfl⟩,eQ _⟩,fun x=>?_⟩
     ·rcases uz ha' o ho with ho|ho
      ·simp only[TV.owns,qU] at ho
       subst ho
       refine⟨dH _,fun y hy=>?_⟩
       rw[ah] at hy
       cases hy
       exact⟨aC _,fun _=>rfl⟩
      ·exact Ey (va hk.2 ha o ho) _
     ·obtain⟨X,Y,h1,h2,h3⟩:=qh B hs
      have h3:=h3 _ _ ha'
      have e1:(TV.nil:TV S).cells=[dN]:=by simp only[TV.cells]
      have e2:(TV.own s.nx 0 t []:TV S).cells=[.own s.nx (t.cd S).sz 0 []]:=by simp only[TV.cells];rfl
      rw[e1] at h2
      rw[e2] at h3
      refine Wk.nilOwn (vs:=vsL s.vs) (lv:=lvL s.lv) (N0:=s.nx) (ds:=a.cells) (ds':=a'.cells) k X.length e (t.cd S).sz hz (by rw[rN,ha];rfl) ?_ ?_
      ·rw[h2,rH (aC _),KU];rfl
      ·rw[h2,h3,List.set_append_right _ _ (aC _),KU];rfl
    ·exact here
   ·exact here
  ·exact here
 ·exact here
theorem N3:∀{l:List (Nat×List Stp×T×TypeId)} {s:St S},(s.Ok→(P4 B l s).Ok)∧Exs [] s (P4 B l s)∧∀x:Cx,Wk x s.tmD s.hp (P4 B l s).tmD (P4 B l s).hp
 |[],s=>⟨fun h=>h,Exs.refl _ s,fun _ _ _ h=>h⟩
 |(k,p,t,e)::l,s=>by
  obtain⟨h1,h2,h3⟩:=nil1_ok (B:=B) (s:=s) (k:=k) (p:=p) (t:=t) (e:=e)
  obtain⟨q1,q2,q3⟩:=N3 (l:=l) (s:=LN B s k p t e)
  exact⟨fun h=>q1 (h1 h),h2.trans q2,fun x a w h=>q3 x a w (h3 x a w h)⟩
def Ts(B:(i:Nat)→List (Fld S i))(s:St S)(D:List Nat)(J:Jn)(s':St S):Option (Tup S J.tys):=getS B s D J (P4 B J.cv s')
theorem Hi {x:Cx}{s s' s2:St S}{D:List Nat}{J:Jn}{y:Tup S J.tys}(hg:Ts B s D J s'=some y)(hm:mkS s D J (tuV J.tys y)=some s2)(pf:s'.Ok)(hk:s.Ok)(hE:Exs D s s')(hx:x.hp0.next≤s.nx):
  s2.Ok∧Exs D s s2∧Wk x s'.tmD s'.hp s2.tmD s2.hp:=by
 obtain⟨q1,q2,q3⟩:=N3 (B:=B) (l:=J.cv) (s:=s')
 obtain⟨h1,h2,h3⟩:=join_ok hg hm (q1 pf) hk ((hE.trans q2).sub fun t ht=>by
  rw[KT,Gb] at ht ⊢
  rw[pY];exact ht) hx
 exact⟨h1,h2,fun a w h=>h3 a w (q3 x a w h)⟩
end
end
section
section
variable [eH] {S:SD} {R:Type} {P:Program} {tb:TypeId→Option TyE} {B:Tb P tb S}
def rdR(B:Tb P tb S)(s:St S):ResultVar→Option (TV S)
 | .tmp t=>s.tm.lookup t
 | .cell p ty=>match s.tm.lookup p with
  |some (.pt n q)=>match atV B s n q with
   |some (_,b)=>if (F3 tb ty b.szB b.isA&&b.isC)=true then some b else none
   |none=>none
  |_=>none
theorem rdR_ok {s:St S}{q:ResultVar}{b:TV S}(h:rdR B s q=some b){k:D→Prop}(hk:k b.toD):oK tb s.tmD s.hp q k:=by
 unfold rdR at h
 split at h
 ·exact bI (by rw[ly,h];rfl) hk
 ·rename_i p ty
  split at h
  ·rename_i n q hx
   split at h
   ·rename_i a c A2
    split at h
    ·rename_i hc
     cases h
     rw[c8] at hc
     obtain⟨i,hi,hz,hg⟩:=vn hc.1
     obtain⟨hv,hs,hn⟩:=DE A2
     obtain⟨F',hP⟩:=GU B.fl hs
     have Mh:s.hp.vars.lookup n=some a.cells:=by show (vsL s.vs).lookup n=_;rw[rN,hv];rfl
     have BT:s.tmD.lookup p=some (.pt n (xT q)):=by rw[ly,hx];show some (TV.pt n q:TV S).toD=_;simp only[TV.toD]
     cases hA:b.isA with
     |true=>
      rw[yp hA] at hk
      have hL:=hP.g
      have hle:=hP.le
      rw[TV.szB_eq,hz] at hle hL
      exact dQ BT hi (by rw[hg,hA]) Mh hn hle hL hk
     |false=>
      have wV:=CD hA hc.2
      rw[wV] at hP
      have h1:=hP.g
      refine LG BT hi (by rw[hg,hA]) Mh hn (d:=b.toD) ?_ hk
      have:((a.cells.drop (xT q)).take 1)[0]? =some b.toD:=by rw[show (1:Nat)=[b.toD].length from rfl,h1];rfl
      rw[fY,ifp_,nt,i9] at this
      exact this
    ·cases h
   ·cases h
  ·cases h
def reT(B:Tb P tb S)(s:St S)(t:T)(q:ResultVar):Option (t.den S):=match rdR B s q with
 |some a=>asT B.fl false t a
 |none=>none
theorem zB {s:St S}{t:T}{q:ResultVar}{x:t.den S}(h:reT B s t q=some x){k:D→Prop}(hk:∀d:D,d.le (vD t x)→k d):oK tb s.tmD s.hp q k:=by
 unfold reT at h
 split at h
 ·rename_i a ha
  exact rdR_ok ha (hk _ (asT_le h))
 ·cases h
def reL(B:Tb P tb S)(s:St S):(l:List T)→List ResultVar→Option (Tup S l)
 |[],[]=>some ()
 |t::l,q::qs=>match reT B s t q,reL B s l qs with
  |some x,some y=>some (Dv t x l y)
  |_,_=>none
 |_,_=>none
theorem sJ {s:St S}{t:T}{l:List T}{q:ResultVar}{qs:List ResultVar}{z:Tup S (t::l)}(h:reL B s (t::l) (q::qs)=some z):∃x y,reT B s t q=some x∧reL B s l qs=some y∧tuD (t::l) z=vD t x::tuD l y:=by
 unfold reL at h
 split at h
 ·rename_i x y hx hy
  cases h
  refine⟨x,y,hx,hy,?_⟩
  show vD t (hdU _)::tuD l (tlU _)=_
  rw[HI,GQ]
 ·cases h
def ownR(s:St S)(e:TypeId)(t:T)(q:Tmp):Option (List (t.den S)):=match s.tm.lookup q with
 |some (.own id ver u l)=>match s.lv.lookup id with
  |some (some y)=>if h:u=t then gO (Nat.beq y.ver ver&&Nat.beq y.z (u.cd S).sz&&Nat.beq y.e e) (some (h▸l)) else none
  |_=>none
 |_=>none
def re1(B:Tb P tb S)(s:St S)(t:T):List ResultVar→Option (t.den S)
 |[q]=>reT B s t q
 |_=>none
def reO(s:St S)(e:TypeId)(t:T):List ResultVar→Option (List (t.den S))
 |[.tmp q]=>ownR s e t q
 |_=>none
def manyB:List T→Bool
 |[]=>true
 |[_,_]=>true
 |[_,_,_]=>true
 |_=>false
def retE(B:Tb P tb S)(s:St S)(rs:List ResultVar):(re:Re)→Option (re.T' S)
 | .d t=>re1 B s t rs
 | .o e t=>reO s e t rs
 | .m l=>gO (manyB l) (reL B s l rs)
theorem NS {s:St S}:∀{l:List T} {rs:List ResultVar} {z:Tup S l},reL B s l rs=some z→rs.length=l.length
 |[],[],_,_=>rfl
 |t::l,q::qs,z,h=>by
  obtain⟨_,_,_,h2,_⟩:=sJ h
  rw[lc,lc,NS h2]
 |[],_::_,_,h=>by unfold reL at h;cases h
 |_::_,[],_,h=>by unfold reL at h;cases h
theorem NR {s:St S}{rs:List ResultVar}{re:Re}{z:re.T' S}(hk:s.Ok)(h:retE B s rs re=some z):eu tb rs s.tmD s.hp (reD re z):=by
 cases re with
 |d t=>
  have h:re1 B s t rs=some z:=h
  unfold re1 at h
  split at h
  ·exact eu.mk1 (zB h fun d hd=>.inr (.inr ⟨_,hd,rl _ _,rfl⟩))
  ·cases h
 |o e t=>
  have h:reO s e t rs=some z:=h
  unfold reO at h
  split at h
  ·rename_i q
   unfold ownR at h
   split at h
   ·rename_i id ver u l hq
    split at h
    ·rename_i y hy
     split at h
     ·rename_i hu
      subst hu
      obtain⟨hc,h⟩:=HS h
      cases h
      rw[c8,c8] at hc
      have c1:=f7 hc.1.1
      have c2:=f7 hc.1.2
      have c3:=f7 hc.2
      have hg:GO s.lv s.nx (id,ver,l.length):=va hk.1 hq _ (by simp only[TV.owns];exact qU.2 rfl)
      have hn:=(hg.2 y hy).2 c1
      refine eu.own (id:=id) (by rw[ly,hq];show some (TV.own id ver u l:TV S).toD=_;simp only[TV.toD]) ?_
      show (lvL s.lv).lookup id=_
      rw[wS,hy]
      show some (y.n,y.z,y.e)=_
      rw[hn,c2,c3]
     ·cases h
    ·cases h
   ·cases h
  ·cases h
 |m l=>
  obtain⟨hm,h⟩:=HS (α:=Tup S l) h
  have hl:=NS h
  unfold manyB at hm
  split at hm
  ·obtain rfl:=List.length_eq_zero_iff.1 hl
   exact rfl
  ·rename_i t u _
   obtain⟨q,q',rfl⟩:∃q q',rs=[q,q']:=by
    cases rs with
    |nil=>cases hl
    |cons q rs=>cases rs with
     |nil=>cases hl
     |cons q' rs=>cases rs with
      |nil=>exact⟨_,_,rfl⟩
      |cons _ _=>simp at hl
   obtain⟨x,y,h1,h2,h3⟩:=sJ h
   obtain⟨x',y',ni,lj,HO⟩:=sJ h2
   refine eu.mk2 (zB h1 fun d hd=>zB ni fun d' AY=>.inr ⟨_,_,hd,AY,⟨rl _ _,rl _ _⟩,?_⟩)
   show D.tu (tuD [t,u] z)=_
   rw[h3,HO];rfl
  ·rename_i t u v _
   obtain⟨q,q',G2,rfl⟩:∃q q' G2,rs=[q,q',G2]:=by
    cases rs with
    |nil=>cases hl
    |cons q rs=>cases rs with
     |nil=>cases hl
     |cons q' rs=>cases rs with
      |nil=>cases hl
      |cons G2 rs=>cases rs with
       |nil=>exact⟨_,_,_,rfl⟩
       |cons _ _=>simp at hl
   obtain⟨x,y,h1,h2,h3⟩:=sJ h
   obtain⟨x',y',ni,lj,HO⟩:=sJ h2
   obtain⟨x2,y2,Qt,h22,h32⟩:=sJ lj
   refine eu.mk3 (zB h1 fun d hd=>zB ni fun d' AY=>zB Qt fun d2 HJ=>.inr ⟨_,_,_,hd,AY,HJ,⟨rl _ _,rl _ _,rl _ _⟩,?_⟩)
   show D.tu (tuD [t,u,v] z)=_
   rw[h3,HO,h32];rfl
  ·cases hm
inductive Xt where
 |n
 |e (id:Nat)
def Xt.ex:Xt→Exit
 | .n=>.normal
 | .e id=>.exit id
def Xt.eqb:Xt→Xt→Bool
 | .n,.n=>true
 | .e i,.e j=>Nat.beq i j
 |_,_=>false
theorem Xt.eq_of {a b:Xt}(h:a.eqb b=true):a=b:=by
 cases a <;> cases b <;> first|rfl|(cases h)|(exact congrArg _ (f7 h))
inductive Jo where
 |j (q:Xt) (J:Jn)
 |r
def Jo.ty(S:SD)(re:Re):Jo→Type
 | .j _ J=>Tup S J.tys
 | .r=>re.T' S
def Om(S:SD)(re:Re):List Jo→Type
 |[]=>Empty
 |[o]=>o.ty S re
 |o::o'::l=>o.ty S re⊕Om S re (o'::l)
def injO {re:Re}{o:Jo}:{l:List Jo}→o.ty S re→Om S re (o::l)
 |[],x=>x
 |_::_,x=>.inl x
def injR {re:Re}{o:Jo}:{l:List Jo}→Om S re l→Option (Om S re (o::l))
 |[],_=>none
 |_::_,y=>some (.inr y)
def casO {re:Re}{o:Jo}:{l:List Jo}→Om S re (o::l)→(o.ty S re→Option R)→(Om S re l→Option R)→Option R
 |[],x,f,_=>f x
 |_::_,y,f,g=>match y with
  | .inl x=>f x
  | .inr y=>g y
theorem KC {re:Re}{o:Jo}{l:List Jo}{x:o.ty S re}{f:o.ty S re→Option R}{g:Om S re l→Option R}:casO (injO x) f g=f x:=by
 cases l <;> rfl
theorem Dy {re:Re}{o:Jo}{l:List Jo}{y:Om S re l}{z:Om S re (o::l)}(h:injR y=some z){f:o.ty S re→Option R}{g:Om S re l→Option R}:casO z f g=g y:=by
 cases l with
 |nil=>exact nomatch y
 |cons o' l=>cases h;rfl
def AQ(B:Tb P tb S)(re:Re)(s:St S)(D:List Nat)(q:Xt)(s':St S):(l:List Jo)→Option (Om S re l)
 |[]=>none
 | .j q' J::l=>match q'.eqb q with
  |true=>match Ts B.fl s D J s' with
   |some y=>some (injO (o:=.j q' J) (l:=l) y)
   |none=>none
  |false=>match AQ B re s D q s' l with
   |some y=>injR y
   |none=>none
 | .r::l=>match AQ B re s D q s' l with
  |some y=>injR y
  |none=>none
def yg(re:Re)(z:re.T' S):(l:List Jo)→Option (Om S re l)
 |[]=>none
 | .j _ _::l=>match yg re z l with
  |some y=>injR y
  |none=>none
 | .r::l=>some (injO (o:=.r) (l:=l) z)
def uO(re:Re)(s:St S)(D:List Nat)(k:Xt→St S→Option R)(kr:re.T' S→Option R):(l:List Jo)→Om S re l→Option R
 |[],_=>none
 | .j q J::l,y=>casO y (fun z=>match mkS s D J (tuV J.tys z) with
   |some s2=>k q s2
   |none=>none) (uO re s D k kr l)
 | .r::l,y=>casO y kr (uO re s D k kr l)
theorem CO {re:Re}{s s':St S}{D:List Nat}{q:Xt}{k:Xt→St S→Option R}{kr:re.T' S→Option R}{r:R}:∀{l:List Jo} {y:Om S re l},AQ B re s D q s' l=some y→uO re s D k kr l y=some r→∃J z s2,Ts B.fl s D J s'=some z∧mkS s D J (tuV J.tys z)=some s2∧k q s2=some r
 |[],y,h,_=>nomatch y
 | .j q' J::l,y,h,he=>by
  unfold AQ at h
  unfold uO at he
  split at h
  ·rename_i hq
   split at h
   ·rename_i z hz
    cases h
    have he:=(KC (o:=.j q' J) (l:=l) (x:=z)).symm.trans he
    split at he
    ·rename_i s2 Oi
     rw[Xt.eq_of hq] at he
     exact⟨J,z,s2,hz,Oi,he⟩
    ·cases he
   ·cases h
  ·split at h
   ·rename_i y' hy'
    exact CO hy' ((Dy (o:=.j q' J) h).symm.trans he)
   ·cases h
 | .r::l,y,h,he=>by
  unfold AQ at h
  unfold uO at he
  split at h
  ·rename_i y' hy'
   exact CO hy' ((Dy (o:=.r) h).symm.trans he)
  ·cases h
theorem J3 {re:Re}{s:St S}{D:List Nat}{k:Xt→St S→Option R}{kr:re.T' S→Option R}{r:R}{z:re.T' S}:∀{l:List Jo} {y:Om S re l},yg re z l=some y→uO re s D k kr l y=some r→kr z=some r
 |[],y,h,_=>nomatch y
 | .j q' J::l,y,h,he=>by
  unfold yg at h
  unfold uO at he
  split at h
  ·rename_i y' hy'
   exact J3 hy' ((Dy (o:=.j q' J) h).symm.trans he)
  ·cases h
 | .r::l,y,h,he=>by
  unfold yg at h
  unfold uO at he
  cases h
  exact (KC (o:=.r) (l:=l) (x:=z)).symm.trans he
end
end
section
def Way(ops:Array Oper):List Nat→Array Bool→Prop
 |[],s=>Region.ready .any ops s=[]
 |i::l,s=>i∈Region.ready .any ops s∧Way ops l (s.setIfInBounds i true)
def Bfr(a b:Nat):List Nat→Array Bool→Prop
 |[],_=>True
 |i::l,s=>(i=b→s.getD a false=true)∧Bfr a b l (s.setIfInBounds i true)
theorem lB {ops:Array Oper}{s:Array Bool}{i:Nat}:i∈Region.ready .any ops s↔i<ops.size∧s.getD i true=false∧∃o,ops[i]? =some o∧∀e∈o.after,Region.binds .any e=true→s.getD e.on false=true:=by
 unfold Region.ready
 rw[List.mem_filter,A6]
 refine and_congr_right fun h=>?_
 rw[c8,ww]
 refine and_congr_right fun _=>?_
 cases ho:ops[i]? with
 |none=>simp
 |some o=>
  simp only[nr,wv,Uo,OY,ww,nq,exists_eq_left']
  refine forall_congr' fun e=>forall_congr' fun _=>?_
  cases Region.binds .any e <;> simp
theorem Tr {s:Array Bool}{i j:Nat}(h:s.getD j false=true):(s.setIfInBounds i true).getD j false=true:=by
 simp only[e7] at h ⊢
 rw[OX]
 split
 ·rename_i e
  subst e
  split
  ·rfl
  ·rename_i hs
   rw[OW (by omega)] at h
   simp at h
 ·exact h
theorem FT {s:Array Bool}{i:Nat}(h:i<s.size):(s.setIfInBounds i true).getD i false=true:=by
 simp[e7,OX,h]
theorem Bfr.of {a b:Nat}:∀(l:List Nat) (s:Array Bool),s.getD a false=true→Bfr a b l s
 |[],_,_=>trivial
 |_::l,_,h=>⟨fun _=>h,Bfr.of l _ (Tr h)⟩
theorem Uf {ops:Array Oper}{a b:Nat}(A2:a≠b):∀(l:List Nat) (s:Array Bool),s.size=ops.size→Way ops l s→Bfr a b l s∨Bfr b a l s
 |[],_,_,_=>.inl trivial
 |i::l,s,hs,⟨h1,h2⟩=>by
  have hi:=(lB.1 h1).1
  by_cases ha:i=a
  ·subst ha
   exact .inl ⟨fun h=>absurd h A2,Bfr.of l _ (FT (by omega))⟩
  ·by_cases hb:i=b
   ·subst hb
    exact .inr ⟨fun h=>absurd h.symm A2,Bfr.of l _ (FT (by omega))⟩
   ·rcases Uf A2 l (s.setIfInBounds i true) (by simpa using hs) h2 with h|h
    ·exact .inl ⟨fun h=>absurd h hb,h⟩
    ·exact .inr ⟨fun h=>absurd h ha,h⟩
theorem Rc {ops:Array Oper}:∀(fuel t:Nat) (s:Array Bool),s.size=ops.size→unl s ops.size≤fuel→Way ops (Region.linearise.go .any ops fuel t s []) s
 |0,t,s,hs,hu=>by
  show Region.ready .any ops s=[]
  rw[al_95]
  intro i hi
  obtain⟨h1,h2,_⟩:=lB.1 hi
  have:i∈(List.range ops.size).filter fun j=>!s.getD j false:=by
   rw[List.mem_filter,A6]
   refine⟨h1,?_⟩
   have bh:i<s.size:=by omega
   have e1:s[i]?.getD true=false:=by rw[←e7];exact h2
   rw[e7]
   rw[pX bh] at e1 ⊢
   simp at e1 ⊢
   exact e1
  have hlen:=List.length_pos_of_mem this
  unfold unl at hu
  omega
 |fuel+1,t,s,hs,hu=>by
  simp only[Region.linearise.go]
  change Way ops (match (Region.ready .any ops s)[t % (Region.ready .any ops s).length]? with
   |some i=>Region.linearise.go .any ops fuel (t / (Region.ready .any ops s).length) (s.setIfInBounds i true) [i]
   |none=>[].reverse) s
  cases hi:(Region.ready .any ops s)[t % (Region.ready .any ops s).length]? with
  |none=>
   show Region.ready .any ops s=[]
   cases hr:Region.ready .any ops s with
   |nil=>rfl
   |cons x xs=>
    rw[hr] at hi
    have bh:t % (x::xs).length<(x::xs).length:=dM _ (by simp)
    rw[eG bh] at hi
    cases hi
  |some i=>
   simp only[]
   rw[linearise_go_acc,List.reverse_singleton,List.singleton_append]
   have hm:=bL hi
   obtain⟨h1,h2,_⟩:=lB.1 hm
   have bh:i<s.size:=by omega
   have hf:s.getD i false=false:=by
    have e1:s[i]?.getD true=false:=by rw[←e7];exact h2
    rw[e7]
    rw[pX bh] at e1 ⊢
    simpa using e1
   exact⟨hm,Rc fuel _ _ (by simpa using hs) (by have:=GM (n:=ops.size) h1 bh hf;omega)⟩
theorem Fj {P:Program}{ops:Array Oper}{Q:Exit→Act→World→Prop}:∀(l:List Nat) (fuel:Nat) (s:Array Bool) (a:Act) (w:World),wpAny P .any ops Q fuel s a w→Way ops l s→wpOps P ops Q l a w
 |[],0,_,_,_,h,_=>by simpa[wpOps] using h.2
 |[],_+1,_,_,_,h,hw=>by simpa[wpOps] using h.1 hw
 |i::l,0,_,_,_,h,hw=>by
  have:=hw.1
  rw[h.1] at this
  cases this
 |i::l,fuel+1,s,a,w,h,hw=>by
  rw[wpOps_cons]
  exact wpOp_mono (fun a w h=>Fj l fuel _ a w h hw.2) (h.2 i hw.1)
def nD:List Oper→Nat→Oper
 |[],_=>default
 |o::_,0=>o
 |_::l,n+1=>nD l n
def kX:List Nat→Nat→Nat
 |[],_=>0
 |j::l,i=>match Nat.beq j i with
  |true=>0
  |false=>kX l i+1
def JS(p:List Nat)(i:Nat):List (Nat×Nat)→List Edge
 |[]=>[]
 |(a,b)::C=>match Nat.beq b i with
  |true=>⟨kX p a,.data⟩::JS p i C
  |false=>JS p i C
def nG(p:List Nat)(C:List (Nat×Nat))(i:Nat)(o:Oper):Oper:=⟨o.dst,o.op,o.type,o.pos,((o.after.toList.map fun e=>(⟨kX p e.on,e.ground⟩:Edge))++JS p i C).toArray,none⟩
def db(p:List Nat)(C:List (Nat×Nat))(l:List Oper):List Oper:=p.map fun i=>nG p C i (nD l i)
def JC(p:List Nat)(l:List Oper):Bool:=Nat.beq p.length l.length&&(List.range l.length).all (fun i=>p.elem i)&&(l.all fun o=>o.guard.isNone)&&p.all (fun i=>Nat.blt i l.length)&&(List.range l.length).all fun k=>(List.range l.length).any fun i=>Nat.beq (kX p i) k
theorem mU:∀{p:List Nat} {i:Nat},i∈p→kX p i<p.length∧p[kX p i]? =some i
 |j::p,i,h=>by
  unfold kX
  cases hb:Nat.beq j i with
  |true=>exact⟨by simp,by simpa using f7 hb⟩
  |false=>
   have lr:¬i=j:=by
    intro e;subst e
    have:Nat.beq i i=true:=yG i
    rw[this] at hb;cases hb
   rcases e8.1 h with h|h
   ·exact absurd h lr
   ·obtain⟨h1,h2⟩:=mU h
    exact⟨by simpa using h1,by simpa using h2⟩
theorem PV {p:List Nat}{i j:Nat}(hi:i∈p)(hj:j∈p)(h:kX p i=kX p j):i=j:=by
 have h1:=(mU hi).2
 rw[h,(mU hj).2] at h1
 injection h1 with h1
 exact h1.symm
theorem JL {l:List Oper}{o:Oper}:∀{i:Nat},l[i]? =some o→nD l i=o:=by
 induction l with
 |nil=>intro i h;simp at h
 |cons o' l ih=>
  intro i h
  cases i with
  |zero=>rw[Un] at h;injection h
  |succ i=>rw[Iy] at h;exact ih h
theorem zG {p:List Nat}{i:Nat}{e:Edge}:∀{C:List (Nat×Nat)},e∈JS p i C→∃a,(a,i)∈C∧e=⟨kX p a,.data⟩
 |(a,b)::C,h=>by
  unfold JS at h
  cases hb:Nat.beq b i with
  |true=>
   rw[hb] at h
   obtain rfl:=f7 hb
   rcases e8.1 h with rfl|h
   ·exact⟨a,j8 ..,rfl⟩
   ·obtain⟨a',h1,h2⟩:=zG h
    exact⟨a',io _ h1,h2⟩
  |false=>
   rw[hb] at h
   obtain⟨a',h1,h2⟩:=zG h
   exact⟨a',io _ h1,h2⟩
structure IH(p:List Nat)(l:List Oper):Prop where
 len:p.length=l.length
 mem:∀i,i<l.length→i∈p
 gd:∀o∈l,o.guard=none
 bd:∀i∈p,i<l.length
 inv:∀k,k<l.length→∃i,i<l.length∧kX p i=k
theorem Cw {p:List Nat}{l:List Oper}(h:JC p l=true):IH p l:=by
 unfold JC at h
 simp only[c8,bx,A6] at h
 obtain⟨⟨⟨⟨h1,h2⟩,h3⟩,h4⟩,h5⟩:=h
 refine⟨f7 h1,fun i hi=>by simpa using h2 i hi,fun o ho=>by simpa using h3 o ho,fun i hi=>?_,fun k hk=>?_⟩
 ·exact cD (h4 i hi)
 ·obtain⟨i,hi,hb⟩:=OZ.1 (h5 k hk)
  exact⟨i,A6.1 hi,f7 hb⟩
section
variable {P:Program} {p:List Nat} {C:List (Nat×Nat)} {l:List Oper}
theorem IH.get(h:IH p l){i:Nat}{o:Oper}(ho:l[i]? =some o):(db p C l).toArray[kX p i]? =some (nG p C i o):=by
 have hi:i<l.length:=(lV.1 ho).1
 obtain⟨_,h2⟩:=mU (h.mem i hi)
 unfold db
 rw[D2,bE,h2,nr,JL ho]
theorem PD(h:IH p l){Q:Exit→Act→World→Prop}{K:Act→World→Prop}{i:Nat}(hi:i<l.length){a:Act}{w:World}(hw:wpOp P (db p C l).toArray Q (kX p i) K a w):wpOp P l.toArray Q i K a w:=by
 have ho:l[i]? =some l[i]:=eG hi
 unfold wpOp at hw ⊢
 rw[h.get ho] at hw
 rw[D2,ho]
 generalize hoo:l[i]=o at hw ho ⊢
 have hg:=h.gd o (bL ho)
 obtain⟨dst,op,ty,pos,af,gd⟩:=o
 simp only at hg
 subst hg
 exact hw
theorem B1(h:IH p l){Q:Exit→Act→World→Prop}:∀(is:List Nat) (a:Act) (w:World),(∀i∈is,i<l.length)→wpOps P (db p C l).toArray Q (is.map (kX p)) a w→wpOps P l.toArray Q is a w
 |[],a,w,_,hw=>hw
 |i::is,a,w,hi,hw=>by
  rw[gZ,wpOps_cons] at hw
  rw[wpOps_cons]
  exact PD h (hi i (j8 ..)) (wpOp_mono (fun a w h'=>B1 h is a w (fun i sM=>hi i (io _ sM)) h') hw)
structure Eg(p:List Nat)(n:Nat)(s s':Array Bool):Prop where
 s1:s.size=n
 s2:s'.size=n
 eq:∀i,i<n→s'[kX p i]? =s[i]?
theorem Eg.set(h:IH p l){s s':Array Bool}(hs:Eg p l.length s s'){i:Nat}(hi:i<l.length):Eg p l.length (s.setIfInBounds i true) (s'.setIfInBounds (kX p i) true):=by
 refine⟨by simpa using hs.s1,by simpa using hs.s2,fun j hj=>?_⟩
 rw[OX,OX]
 have hpi:kX p i<s'.size:=by rw[hs.s2,←h.len];exact (mU (h.mem i hi)).1
 by_cases Q1:i=j
 ·subst Q1
  rw[an rfl,an rfl,an hpi,an (by rw[hs.s1];exact hi)]
 ·rw[az Q1,az (fun e=>Q1 (PV (h.mem i hi) (h.mem j hj) e))]
  exact hs.eq j hj
theorem Eg.getD(h:IH p l){s s':Array Bool}(hs:Eg p l.length s s'){j:Nat}(d:Bool)(hj:j<l.length):s'.getD (kX p j) d=s.getD j d:=by
 rw[e7,e7,hs.eq j hj]
theorem zR {s:Array Bool}{j:Nat}(h:s.getD j false=true):j<s.size:=by
 rcases bO j s.size with h1|h1
 ·exact h1
 ·rw[e7,OW h1] at h;cases h
theorem I2(h:IH p l):∀(is:List Nat) (s s':Array Bool),Eg p l.length s s'→Way l.toArray is s→(∀c∈C,Bfr c.1 c.2 is s)→Way (db p C l).toArray (is.map (kX p)) s'
 |[],s,s',hs,hw,_=>by
  show Region.ready _ _ _=[]
  rw[al_95]
  intro k hk
  obtain⟨h1,h2,o',h3,h4⟩:=lB.1 hk
  have S1:k<p.length:=by
   have:(db p C l).length=p.length:=bc _
   simpa[this] using h1
  -- the operation at k is the one that stood at i
  have hik:=h.inv k (by rw[←h.len];exact S1)
  obtain⟨i,hi,rfl⟩:=hik
  have ho:l[i]? =some l[i]:=eG hi
  rw[h.get ho] at h3
  injection h3 with h3
  subst h3
  have:i∈Region.ready .any l.toArray s:=by
   refine lB.2 ⟨by simpa using hi,by rw[←hs.getD h true hi];exact h2,l[i],by rw[D2];exact ho,fun e he hb=>?_⟩
   have h5:=h4 ⟨kX p e.on,e.ground⟩ (by
    unfold nG
    rw[Ix]
    exact List.mem_append_left _ (nz.2 ⟨e,by simpa using he,rfl⟩)) hb
   have bh:kX p e.on<l.length:=by rw[←hs.s2];exact zR h5
   by_cases EY:e.on∈p
   ·-- it is one of the operations
    have hon:e.on<l.length:=h.bd _ EY
    rwa[hs.getD h false hon] at h5
   ·exfalso
    have:kX p e.on=p.length:=by
     have gen:∀(q:List Nat),e.on∉q→kX q e.on=q.length:=by
      intro q
      induction q with
      |nil=>intro _;rfl
      |cons j q ih=>
       intro hq
       have lr:Nat.beq j e.on=false:=by
        cases hb:Nat.beq j e.on with
        |true=>exact absurd (e8.2 (.inl (f7 hb).symm)) hq
        |false=>rfl
       unfold kX
       rw[lr]
       simp only[lc]
       rw[ih fun hh=>hq (io _ hh)]
     exact gen p EY
    rw[this,h.len] at bh
    omega
  rw[show Region.ready .any l.toArray s=[] from hw] at this
  cases this
 |i::is,s,s',hs,⟨h1,h2⟩,hC=>by
  obtain⟨hi0,Oo,o,ho,he⟩:=lB.1 h1
  have hi:i<l.length:=by simpa using hi0
  rw[D2] at ho
  refine⟨lB.2 ⟨?_,by rw[hs.getD h true hi];exact Oo,_,h.get ho,fun e hm hb=>?_⟩,I2 h is _ _ (hs.set h hi) h2 fun c hc=>(hC c hc).2⟩
  ·have:(db p C l).length=p.length:=bc _
   simp only[my,this]
   exact (mU (h.mem i hi)).1
  ·unfold nG at hm
   rw[Ix] at hm
   rcases jK.1 hm with hm|hm
   ·obtain⟨e0,he0,rfl⟩:=nz.1 hm
    have h6:=he e0 (by simpa using he0) hb
    have bh:e0.on<l.length:=by rw[←hs.s1];exact zR h6
    rw[hs.getD h false bh];exact h6
   ·obtain⟨a,Lh,rfl⟩:=zG hm
    have h6:=(hC _ Lh).1 rfl
    have bh:a<l.length:=by rw[←hs.s1];exact zR h6
    rw[hs.getD h false bh];exact h6
end
section
variable {P:Program} {tb:TypeId→Option TyE} {x:Cx} {tm:List (Nat×D)} {hp:Hp} {Q:Exit→List (Nat×D)→Hp→Prop} {L:List FuncId} {C:List (Nat×Nat)} {l:List Oper}
def DW(P:Program)(x:Cx)(l:List Oper)(C:List (Nat×Nat))(tm:List (Nat×D))(hp:Hp)(Q:Exit→List (Nat×D)→Hp→Prop):Prop:=
 ∀(a:Act) (w:World) (is:List Nat),RS x tm hp a w→(∀i∈is,i<l.length)→Way l.toArray is (Array.replicate l.length false)→(∀c∈C,Bfr c.1 c.2 is (Array.replicate l.length false))→wpOps P l.toArray (fun ex a' w'=>∃tm' hp',RS x tm' hp' a' w'∧Q ex tm' hp') is a w
theorem RS.drew {a:Act}{w:World}(h:RS x tm hp a w):RS x tm hp a {w with drawn:=w.drawn+1}:=by
 obtain⟨g,hr,fh,hsz,pg,hB,hF,hM⟩:=h
 exact⟨g,hr.keep (aC _) (fun _ _=>rfl),fun t d hl=>(fh t d hl).mono (bu.keep hp g (aC _) (fun _ _=>rfl)),hsz,pg,hB.drew,hF,hM.trans (bu.keep hp g (aC _) (fun _ _=>rfl))⟩
theorem Rb {ops:Array Oper}:∀(is:List Nat) (s:Array Bool),Way ops is s→∀i∈is,i<ops.size
 |[],_,_,_,h=>by cases h
 |j::is,s,hw,i,h=>by
  rcases e8.1 h with rfl|h
  ·exact (lB.1 hw.1).1
  ·exact Rb is _ hw.2 i h
theorem AW.dw {id:Nat}(hm:P.follows .mixedOrders=true)(h:DW P x l [] tm hp Q):AW P x (.region id l.toArray true) tm hp Q:=by
 intro a w hr
 refine wp_region_draw fun t=>?_
 simp only[Region.schedule,hm,Bool.true_or,fS]
 have hway:=Rc (ops:=l.toArray) l.toArray.size t (Array.replicate l.toArray.size false) (by simp) (by unfold unl;exact cg (D1 _ _) (by simp))
 have bh:=Rb _ _ hway
 simp only[my] at hway bh
 exact h a _ _ hr.drew bh hway (fun c hc=>by cases hc)
theorem DW.split(a b:Nat)(A2:a≠b)(h1:DW P x l ((a,b)::C) tm hp Q)(h2:DW P x l ((b,a)::C) tm hp Q):DW P x l C tm hp Q:=by
 intro ac w is hr bh hw hC
 rcases Uf A2 is _ (by simp) hw with h|h
 ·exact h1 ac w is hr bh hw fun c hc=>by
   rcases e8.1 hc with rfl|hc
   ·exact h
   ·exact hC c hc
 ·exact h2 ac w is hr bh hw fun c hc=>by
   rcases e8.1 hc with rfl|hc
   ·exact h
   ·exact hC c hc
theorem Lm {ops:Array Oper}(hN:gr x.N ops=true)(pM:t6 tb L ops=true)
  (h:∀K:List (Nat×D)→Hp→Prop,(∀tm hp,Q .normal tm hp→K tm hp)→aQ P tb (.any L) ops K ops.toList tm hp) {a:Act} {w:World} (hr:RS x tm hp a w):wpAny P .any ops (fun ex a' w'=>∃tm' hp',RS x tm' hp' a' w'∧Q ex tm' hp') ops.size (Array.replicate ops.size false) a w:=by
 obtain⟨dd,hh,ac,tms,bm,hK,h1,h2⟩:=LD (ops:=ops) ops.toList 0 (fun _=>.top) (fun _=>hp) (fun _=>false) (fun _=>tm) ⟨fun _ _ h=>absurd h (by omega),fun _ _ h=>absurd h (by omega),fun _ _ h=>absurd h (by omega)⟩ rfl (h _ fun _ _ h=>h)
 simp only[cj,dY] at bm hK h1 h2
 obtain⟨g,Me,fh,hsz,pg,hB,hF,hM⟩:=hr
 refine I1 hN (Cy pM) bm (fun a w hr=>⟨_,_,hr,hK⟩) ops.size _ a _ 0 g ?_ ?_
 ·have C3:∀j,¬(Array.replicate ops.size false).getD j false=true:=by
   intro j
   simp[e7,Iw]
   split <;> simp
  refine⟨by simp,fun i _ _ _ hl=>absurd hl (C3 i),il _,fun j _ _ _=>⟨fun hl=>absurd hl (C3 j),fun h=>absurd h (by omega)⟩,?_,fun t d hl=>?_,hsz,pg,hB,hF,?_⟩
  rotate_right
  ·rw[h2];exact hM
  ·rw[h2];exact Me
  ·rw[h2]
   rcases hl with⟨i,_,_,hl,_⟩|⟨_,hl⟩
   ·exact absurd hl (C3 i)
   ·rw[h1] at hl
    exact fh t d hl
 ·unfold unl
  exact cg (D1 _ _) (by simp)
theorem DW.go(p:List Nat)(hp1:JC p l=true)(hN:gr x.N (db p C l).toArray=true)(pM:t6 tb L (db p C l).toArray=true)
  (h:∀K:List (Nat×D)→Hp→Prop,(∀tm hp,Q .normal tm hp→K tm hp)→aQ P tb (.any L) (db p C l).toArray K (db p C l) tm hp):DW P x l C tm hp Q:=by
 intro a w is hr bh hw hC
 have hP:=Cw hp1
 have h1:=Lm hN pM h hr
 have hlen:(db p C l).toArray.size=l.length:=by simp[db,hP.len]
 rw[hlen] at h1
 have hs0:Eg p l.length (Array.replicate l.length false) (Array.replicate l.length false):=by
  refine⟨by simp,by simp,fun i hi=>?_⟩
  have:=(mU (hP.mem i hi)).1
  rw[Iw,Iw,an hi,an (by rw[←hP.len];exact this)]
 exact B1 hP is a w bh (Fj _ _ _ a w h1 (I2 hP is _ _ hs0 hw hC))
end
end
section
section
variable [eH] {S:SD} {R:Type} {P:Program} {tb:TypeId→Option TyE} {B:Tb P tb S} {C:List (Ctr P S)} {N:Nat} {re:Re} {rs:List ResultVar}
inductive Dt where
 |leaf (p:List Nat) (L:List FuncId) (X:List Nat)
 |node (a b:Nat) (t u:Dt)
inductive Ct where
 |l
 |g (L:List FuncId) (X:List Nat)
 |s (a b:Ct)
 |c (a b:Ct)
 |b (a:Ct)
 |j (O:List Jo) (a:Ct)
 |w (J:Jn) (O:List Jo) (a:Ct)
 |h
 |d (T:Dt)
def qe:Code→List Nat
 | .region _ ops _=>Bx ops.toList
 | .seq a b=>qe a++qe b
 | .cond _ a b=>qe a++qe b
 | .block _ a=>qe a
 | .loop a=>qe a
 | .scope a=>qe a
 |_=>[]
def regE(B:Tb P tb S)(C:List (Ctr P S))(N:Nat)(L:List FuncId)(X:List Nat)(ops:Array Oper)(dr:Bool)(s:St S)(k:St S→Option R):Option R:=match gr N ops with
 |true=>match dr with
  |true=>match t6 tb L ops with
   |true=>EQ B C (.any L) X ops ops.toList s k
   |false=>none
  |false=>EQ B C .seq X ops ops.toList s k
 |false=>none
open Classical in
def Jw {R:Type}(x y:Option R):Option R:=if x=y then x else none
theorem LB {R:Type}(x:Option R):Jw x x=x:=an rfl
theorem LA {R:Type}{x y:Option R}{r:R}(h:Jw x y=some r):x=some r∧y=some r:=by
 unfold Jw at h
 split at h
 ·rename_i e
  exact⟨h,e▸h⟩
 ·cases h
def dtE(B:Tb P tb S)(C:List (Ctr P S))(N:Nat)(l:List Oper):Dt→List (Nat×Nat)→St S→(St S→Option R)→Option R
 | .leaf p L X,Cs,s,k=>match JC p l with
  |true=>match gr N (db p Cs l).toArray with
   |true=>match t6 tb L (db p Cs l).toArray with
    |true=>EQ B C (.any L) X (db p Cs l).toArray (db p Cs l) s k
    |false=>none
   |false=>none
  |false=>none
 | .node a b t u,Cs,s,k=>match Nat.beq a b with
  |true=>none
  |false=>Jw (dtE B C N l t ((a,b)::Cs) s k) (dtE B C N l u ((b,a)::Cs) s k)
def seqK(f:St S→Option R)(k:Xt→St S→Option R):Xt→St S→Option R
 | .n,s=>f s
 | .e i,s=>k (.e i) s
def blkK(id:Nat)(k:Xt→St S→Option R):Xt→St S→Option R
 | .n,s=>k .n s
 | .e i,s=>match Nat.beq i id with
  |true=>k .n s
  |false=>k (.e i) s
def retK(B:Tb P tb S)(re:Re)(rs:List ResultVar)(s:St S)(kr:re.T' S→Option R):Option R:=match retE B s rs re with
 |some z=>kr z
 |none=>none
def bopE(s:St S)(c:Operand)(f:Option Nat→Bool→Option R):Option R:=match c with
 | .tmp t=>match s.tm.lookup t with
  |some (.v .bool x)=>f (some t) x
  |_=>none
 | .const v=>match v with
  | .bool x=>f none x
  |_=>none
 |_=>none
def FH(s:St S)(t:Option Nat)(b:Bool):St S:=match t with
 |some t=>yi s t b
 |none=>s
def cndK(x y:Option R):Bool→Option R
 |true=>x
 |false=>y
def somL {α β:Type}:Option α→Option (α⊕β)
 |some y=>some (.inl y)
 |none=>none
def PL {α β:Type}:Option β→Option (α⊕β)
 |some y=>some (.inr y)
 |none=>none
def lpK(B:Tb P tb S)(re:Re)(s:St S)(D:List Nat)(J:Jn)(O:List Jo):Xt→St S→Option (Tup S J.tys⊕Om S re O)
 | .n,s'=>somL (Ts B.fl s D J s')
 | .e i,s'=>PL (AQ B re s D (.e i) s' O)
def lpB(s:St S)(D:List Nat)(J:Jn)(y:Tup S J.tys)(f:St S→Option R):Option R:=match mkS s D J (tuV J.tys y) with
 |some s1=>f s1
 |none=>none
abbrev Hk(S:SD)(re:Re):=Code→(R:Type)→St S→(Xt→St S→Option R)→(re.T' S→Option R)→Option R
def noH {S:SD}{re:Re}:Hk S re:=fun _ _ _ _ _=>none
def leaE(B:Tb P tb S)(re:Re)(rs:List ResultVar)(c:Code)(s:St S)(k:Xt→St S→Option R)(kr:re.T' S→Option R):Option R:=match c with
 | .skip=>k .n s
 | .exit id=>k (.e id) s
 | .ret=>retK B re rs s kr
 | .label _=>k .n s
 |_=>none
def evC(B:Tb P tb S)(C:List (Ctr P S))(N:Nat)(re:Re)(rs:List ResultVar)(H:Hk S re):Ct→Code→(R:Type)→St S→(Xt→St S→Option R)→(re.T' S→Option R)→Option R
 | .l,c,_,s,k,kr=>leaE B re rs c s k kr
 | .g L X,c,_,s,k,_=>match c with
  | .region _ ops dr=>regE B C N L X ops dr s (k .n)
  |_=>none
 | .s ca cb,c,R,s,k,kr=>match c with
  | .seq a b=>evC B C N re rs H ca a R s (seqK (fun s'=>evC B C N re rs H cb b R s' k kr) k) kr
  |_=>none
 | .c ca cb,c,R,s,k,kr=>match c with
  | .cond c a b=>bopE s c fun t x=>cndE x (cndK (evC B C N re rs H ca a R (FH s t true) k kr) (evC B C N re rs H cb b R (FH s t false) k kr))
  |_=>none
 | .b ca,c,R,s,k,kr=>match c with
  | .block id a=>evC B C N re rs H ca a R s (blkK id k) kr
  | .scope a=>evC B C N re rs H ca a R s k kr
  |_=>none
 | .j O ca,c,R,s,k,kr=>bnd (S:=Om S re O) (evC B C N re rs H ca c _ s (fun q s'=>AQ B re s (qe c) q s' O) fun z=>yg re z O) fun y=>uO re s (qe c) k kr O y
 | .w J O ca,c,R,s,k,kr=>match c with
  | .loop c=>match Ts B.fl s (qe c) J s with
   |some y0=>bnd (S:=Om S re O) (aL (fun y=>lpB s (qe c) J y fun s1=>evC B C N re rs H ca c _ s1 (lpK B re s (qe c) J O) fun z=>PL (yg re z O)) y0) fun y=>uO re s (qe c) k kr O y
   |none=>none
  |_=>none
 | .h,c,R,s,k,kr=>H c R s k kr
 | .d T,c,_,s,k,_=>match c with
  | .region _ ops dr=>match dr with
   |true=>dtE B C N ops.toList T [] s (k .n)
   |false=>none
  |_=>none
end
end
section
section
def Stb(I:World→Prop):Prop:=∀(B:Nat) (hp hp':Hp) (g g':Gh) (w w':World),HR B hp g w→bu hp g w hp' g' w'→I w→I w'
theorem Jr:Stb fun _=>True:=fun _ _ _ _ _ _ _ _ _ _=>trivial
def AWI(P:Program)(I:World→Prop)(x:Cx)(c:Code)(tm:List (Nat×D))(hp:Hp)(Q:Exit→List (Nat×D)→Hp→Prop):Prop:=
 ∀a w,RS x tm hp a w→I w→c.wp P (fun ex a' w'=>(∃tm' hp',RS x tm' hp' a' w'∧Q ex tm' hp')∧I w') a w
variable {P:Program} {I:World→Prop} {x:Cx} {tm tm':List (Nat×D)} {hp hp':Hp} {a:Act} {w w':World} {Q:Exit→List (Nat×D)→Hp→Prop}
theorem AWI.of(hI:Stb I){c:Code}(h:∀x2:Cx,x2.N=x.N→x2.hp0=hp→AW P x2 c tm hp Q):AWI P I x c tm hp Q:=by
 rintro a w ⟨g,hr,fh,hsz,pg,hB,hF,hM⟩ hi
 refine wp_mono (h ⟨x.B,w,g.F,x.N,hp,g,x.df⟩ rfl rfl a w ⟨g,hr,fh,hsz,pg,Below.refl _ _,fun _ _ h=>h,bu.refl _ _ _⟩) ?_
 rintro ex a' w' ⟨tm',hp',⟨g',om,htm',hsz',hdf',hB',hF',hM'⟩,hq⟩
 exact⟨⟨tm',hp',⟨g',om,htm',hsz',hdf',hB.trans hB',fun p h1 h2=>hF' p h1 (hF p h1 h2),hM.trans hM'⟩,hq⟩,hI _ _ _ _ _ _ _ hr hM' hi⟩
theorem AWI.aw {c:Code}(h:AWI P (fun _=>True) x c tm hp Q):AW P x c tm hp Q:=fun a w hr=>wp_mono (h a w hr trivial) fun _ _ _ h=>h.1
theorem AWI.mono {c:Code}{Q':Exit→List (Nat×D)→Hp→Prop}(h:AWI P I x c tm hp Q)(hq:∀ex tm hp,Q ex tm hp→Q' ex tm hp):AWI P I x c tm hp Q':=
 fun a w hr hi=>wp_mono (h a w hr hi) fun ex _ _ ⟨⟨tm',hp',h1,h2⟩,h3⟩=>⟨⟨tm',hp',h1,hq ex _ _ h2⟩,h3⟩
theorem AWI.seq {c c':Code}(h:AWI P I x c tm hp fun ex tm' hp'=>match ex with| .normal=>AWI P I x c' tm' hp' Q|ex=>Q ex tm' hp'):AWI P I x (.seq c c') tm hp Q:=by
 intro a w hr hi
 refine wp_seq (wp_mono (h a w hr hi) ?_)
 rintro ex a' w' ⟨⟨tm',hp',h1,h2⟩,h3⟩
 cases ex with
 |normal=>exact h2 a' w' h1 h3
 |_=>exact⟨⟨tm',hp',h1,h2⟩,h3⟩
theorem AWI.condS {c:Operand}{c1 c2:Code}{b:Bool}(hc:evD tm c=.e (.lit (.bool b)))(ht:b=true→AWI P I x c1 tm hp Q)(hf:b=false→AWI P I x c2 tm hp Q):AWI P I x (.cond c c1 c2) tm hp Q:=by
 intro a w hr hi
 obtain⟨g,_,fh,_⟩:=id hr
 have hv:=rC fh c
 rw[hc] at hv
 refine wp_cond (t:=b) hv.lit ?_
 cases b
 ·exact hf rfl a w hr hi
 ·exact ht rfl a w hr hi
theorem AWI.block {id:Nat}{c:Code}(h:AWI P I x c tm hp fun ex tm' hp'=>match ex with| .exit sr=>(if sr=id then Q .normal tm' hp' else Q (.exit sr) tm' hp')|ex=>Q ex tm' hp'):AWI P I x (.block id c) tm hp Q:=by
 intro a w hr hi
 refine wp_block (wp_mono (h a w hr hi) ?_)
 rintro ex a' w' ⟨⟨tm',hp',h1,h2⟩,h3⟩
 cases ex with
 |exit sr=>
  unfold Exit.inBlock
  dsimp only at h2 ⊢
  split
  ·rename_i he
   rw[an he] at h2
   exact⟨⟨tm',hp',h1,h2⟩,h3⟩
  ·rename_i he
   rw[az he] at h2
   exact⟨⟨tm',hp',h1,h2⟩,h3⟩
 |_=>exact⟨⟨tm',hp',h1,h2⟩,h3⟩
theorem AWI.exit {id:Nat}(h:Q (.exit id) tm hp):AWI P I x (.exit id) tm hp Q:=fun _ _ hr hi=>wp_exit ⟨⟨tm,hp,hr,h⟩,hi⟩
theorem AWI.ret(h:Q .ret tm hp):AWI P I x .ret tm hp Q:=fun _ _ hr hi=>wp_ret ⟨⟨tm,hp,hr,h⟩,hi⟩
theorem AWI.skip(h:Q .normal tm hp):AWI P I x .skip tm hp Q:=fun _ _ hr hi=>wp_skip ⟨⟨tm,hp,hr,h⟩,hi⟩
theorem AWI.label {l:Nat}(h:Q .normal tm hp):AWI P I x (.label l) tm hp Q:=fun _ _ hr hi=>wp_label ⟨⟨tm,hp,hr,h⟩,hi⟩
theorem AWI.scope {c:Code}(h:AWI P I x c tm hp fun ex tm' hp'=>match ex with| .goto _=>False|ex=>Q ex tm' hp'):AWI P I x (.scope c) tm hp Q:=by
 intro a w hr hi
 refine wp_scope_straight (wp_mono (h a w hr hi) ?_)
 rintro ex a' w' ⟨⟨tm',hp',h1,h2⟩,h3⟩
 cases ex with
 |goto l=>exact h2.elim
 |_=>exact⟨⟨tm',hp',h1,h2⟩,h3⟩
theorem AWI.wkQ {c:Code}(h:AWI P I x c tm hp fun ex tm' hp'=>∃AH bk,Wk x tm' hp' AH bk∧Q ex AH bk):AWI P I x c tm hp Q:=by
 intro a w hr hi
 refine wp_mono (h a w hr hi) ?_
 rintro ex a' w' ⟨⟨tm',hp',h1,AH,bk,h2,h3⟩,h4⟩
 exact⟨⟨AH,bk,h2 a' w' h1,h3⟩,h4⟩
theorem AWI.loop {c:Code}(J:Nat→List (Nat×D)→Hp→Prop){n:Nat}{tm0:List (Nat×D)}{hp0:Hp}(hw:Wk x tm hp tm0 hp0)(h0:J n tm0 hp0)
  (round:∀n tm hp,J n tm hp→AWI P I x c tm hp fun ex tm' hp'=>match ex with| .normal=>∃m AH bk,m<n∧Wk x tm' hp' AH bk∧J m AH bk|ex=>Q ex tm' hp'):AWI P I x (.loop c) tm hp Q:=by
 intro a w hr hi
 refine pd (fun n a w=>(∃tm hp,RS x tm hp a w∧J n tm hp)∧I w) (n:=n) ⟨⟨tm0,hp0,hw a w hr,h0⟩,hi⟩ (fun n a w ⟨⟨tm,hp,hr,hI⟩,hi⟩=>wp_mono (round n tm hp hI a w hr hi) ?_)
 rintro ex a' w' ⟨⟨tm',hp',h1,h2⟩,h3⟩
 cases ex with
 |normal=>
  obtain⟨m,AH,bk,bh,Og,hI2⟩:=h2
  exact⟨m,bh,⟨AH,bk,Og a' w' h1,hI2⟩,h3⟩
 |_=>exact⟨⟨tm',hp',h1,h2⟩,h3⟩
end
end
section
section
variable [eH] {S:SD} {R:Type} {P:Program} {tb:TypeId→Option TyE} {B:Tb P tb S} {C:List (Ctr P S)} {N:Nat} {re:Re} {rs:List ResultVar} {H:Hk S re} {I:World→Prop}
def QC(tb:TypeId→Option TyE)(re:Re)(rs:List ResultVar)(s:St S)(Ds:List Nat)(k:Xt→St S→Option R)(kr:re.T' S→Option R)(r:R)(ex:Exit)(tm:List (Nat×D))(hp:Hp):Prop:=
 (∃q s',ex=q.ex∧tm=s'.tmD∧hp=s'.hp∧s'.Ok∧Exs Ds s s'∧k q s'=some r)∨(ex=.ret∧∃z,kr z=some r∧eu tb rs tm hp (reD re z))
theorem Exs.app {D D':List Nat}{s s' s'':St S}(h:Exs D s s')(h':Exs D' s' s''){E:List Nat}(hE:∀t,E.elem t=false→D.elem t=false∧D'.elem t=false):Exs E s s'':=
 (h.trans h').sub fun t ht=>by
  obtain⟨h1,h2⟩:=hE t ht
  rw[KT,Gb] at h1 h2 ⊢
  rw[jK]
  exact fun h=>h.elim h1 h2
theorem Exs.twice {D:List Nat}{s s' s'':St S}(h:Exs D s s')(h':Exs D s' s''):Exs D s s'':=h.app h' fun _ ht=>⟨ht,ht⟩
theorem know_ex {s:St S}{t:Nat}{b c:Bool}(h:s.tm.lookup t=some (.v .bool c))(hb:c=b){D:List Nat}:Exs D s (yi s t b):=by
 obtain⟨e1,_⟩:=Hq h hb
 exact⟨fun u a _ ha _=>by show (yi s t b).tmD.lookup u=_;rw[e1,ly,ha];rfl,Ex.refl s⟩
theorem bopE_ok {s:St S}{c:Operand}{f:Option Nat→Bool→Option R}{r:R}(h:bopE s c f=some r):∃t x,f t x=some r∧evD s.tmD c=.e (.lit (.bool x))∧(s.Ok→(FH s t x).Ok)∧(FH s t x).tmD=s.tmD∧(FH s t x).hp=s.hp∧∀D,Exs D s (FH s t x):=by
 unfold bopE at h
 split at h
 ·rename_i t
  split at h
  ·rename_i x hx
   obtain⟨e1,e2⟩:=Hq hx (b:=x) rfl
   refine⟨some t,x,h,?_,J5,e1,e2,fun D=>know_ex hx rfl⟩
   show ((tmL s.tm).lookup t).getD .top=_
   rw[ly,hx]
   show (TV.v T.bool x:TV S).toD=_
   rw[show (TV.v T.bool x:TV S).toD=dB x from ri x]
  ·cases h
 ·split at h
  ·rename_i x
   exact⟨none,x,h,rfl,fun h=>h,rfl,rfl,fun D=>Exs.refl D s⟩
  ·cases h
 ·cases h
theorem Fu {α β:Type}{o:Option α}{z:α⊕β}(h:somL o=some z):∃y,o=some y∧z=.inl y:=by
 unfold somL at h
 split at h
 ·cases h;exact⟨_,rfl,rfl⟩
 ·cases h
theorem vg {α β:Type}{o:Option β}{z:α⊕β}(h:PL o=some z):∃y,o=some y∧z=.inr y:=by
 unfold PL at h
 split at h
 ·cases h;exact⟨_,rfl,rfl⟩
 ·cases h
theorem yc {s:St S}{D:List Nat}{J:Jn}{y:Tup S J.tys}{f:St S→Option R}{r:R}(h:lpB s D J y f=some r):∃s1,mkS s D J (tuV J.tys y)=some s1∧f s1=some r:=by
 unfold lpB at h
 split at h
 ·exact⟨_,by assumption,h⟩
 ·cases h
theorem PO {s:St S}{kr:re.T' S→Option R}{r:R}(h:retK B re rs s kr=some r):∃z,retE B s rs re=some z∧kr z=some r:=by
 unfold retK at h
 split at h
 ·exact⟨_,by assumption,h⟩
 ·cases h
theorem meet {x:Cx}{c:Code}{s:St S}{D:List Nat}{O:List Jo}{k:Xt→St S→Option R}{kr:re.T' S→Option R}{r:R}{y:Om S re O}(hk:s.Ok)(hx:x.hp0.next≤s.nx)
  (h:AWI P I x c s.tmD s.hp (QC tb re rs s D (fun q s'=>AQ B re s D q s' O) (fun z=>yg re z O) y)) (he:uO re s D k kr O y=some r):AWI P I x c s.tmD s.hp (QC tb re rs s D k kr r):=by
 refine AWI.wkQ (AWI.mono h ?_)
 rintro ex tm hp (⟨q,s',rfl,rfl,rfl,ok,E,hl⟩|⟨rfl,z,hz,hr⟩)
 ·obtain⟨J,z,s2,hg,hm,z3⟩:=CO hl he
  obtain⟨Ha,E2,W⟩:=Hi hg hm ok hk E hx
  exact⟨_,_,W,.inl ⟨q,s2,rfl,rfl,rfl,Ha,E2,z3⟩⟩
 ·exact⟨_,_,fun _ _ h=>h,.inr ⟨rfl,z,J3 hz he,hr⟩⟩
theorem yz {t:Nat}:∀{l:List Oper},t∈Bx l↔∃o∈l,o.dst=some t
 |[]=>by simp[Bx]
 |⟨some u,_,_,_,_,_⟩::os=>by
  show t∈u::Bx os↔_
  rw[e8,yz (l:=os)]
  constructor
  ·rintro (rfl|⟨o,h1,h2⟩)
   ·exact⟨_,j8 ..,rfl⟩
   ·exact⟨o,io _ h1,h2⟩
  ·rintro⟨o,h1,h2⟩
   rcases e8.1 h1 with rfl|h1
   ·exact .inl (bZ h2).symm
   ·exact .inr ⟨o,h1,h2⟩
 |⟨none,_,_,_,_,_⟩::os=>by
  show t∈Bx os↔_
  rw[yz (l:=os)]
  constructor
  ·rintro⟨o,h1,h2⟩
   exact⟨o,io _ h1,h2⟩
  ·rintro⟨o,h1,h2⟩
   rcases e8.1 h1 with rfl|h1
   ·cases h2
   ·exact⟨o,h1,h2⟩
theorem Qz {p:List Nat}{Cs:List (Nat×Nat)}{l:List Oper}(h:IH p l){t:Nat}(ht:t∈Bx (db p Cs l)):t∈Bx l:=by
 obtain⟨o,h1,h2⟩:=yz.1 ht
 obtain⟨i,hi,rfl⟩:=nz.1 h1
 have hl:=h.bd i hi
 rw[JL (eG hl)] at h2
 exact yz.2 ⟨_,uc hl,h2⟩
theorem Mw(tok:TOk P tb){x:Cx}(hN:x.N=N){id:Nat}{l:List Oper}{s:St S}{k:Xt→St S→Option R}{kr:re.T' S→Option R}{r:R}(hk:s.Ok):∀{T:Dt} {Cs:List (Nat×Nat)},dtE B C N l T Cs s (k .n)=some r→DW P x l Cs s.tmD s.hp (QC tb re rs s (qe (.region id l.toArray true)) k kr r)
 | .leaf p L X,Cs,h=>by
  unfold dtE at h
  split at h
  ·rename_i hp1
   split at h
   ·rename_i hd
    split at h
    ·rename_i ho
     rw[←hN] at hd
     refine DW.go p hp1 hd ho fun K hK=>tz tok hk h fun s' h1 h2 h3=>hK _ _ (.inl ⟨.n,s',rfl,rfl,rfl,h2,Exs.sub (D:=Bx (db p Cs l)) ⟨h3.fr,h3.2⟩ fun t ht=>?_,h1⟩)
     have ht:(Bx l).elem t=false:=ht
     rw[KT,Gb] at ht ⊢
     exact fun h=>ht (Qz (Cw hp1) h)
    ·cases h
   ·cases h
  ·cases h
 | .node a b t u,Cs,h=>by
  unfold dtE at h
  split at h
  ·cases h
  ·rename_i A2
   obtain⟨h1,h2⟩:=LA h
   exact DW.split a b (fun e=>by rw[e,yG] at A2;cases A2) (Mw tok hN hk h1) (Mw tok hN hk h2)
def U4(P:Program)(tb:TypeId→Option TyE)(N:Nat)(re:Re)(rs:List ResultVar)(H:Hk S re)(I:World→Prop):Prop:=∀(x:Cx) (c:Code) (R:Type) (s:St S) (k:Xt→St S→Option R) (kr:re.T' S→Option R) (r:R),x.N=N→s.Ok→x.hp0.next≤s.nx→H c R s k kr=some r→AWI P I x c s.tmD s.hp (QC tb re rs s (qe c) k kr r)
theorem oV(tok:TOk P tb)(C5:P.follows .mixedOrders=true)(hI:Stb I)(hH:U4 P tb N re rs H I){x:Cx}(hN:x.N=N):∀{ct:Ct} {c:Code} {R:Type} {s:St S} {k:Xt→St S→Option R} {kr:re.T' S→Option R} {r:R},s.Ok→x.hp0.next≤s.nx→evC B C N re rs H ct c R s k kr=some r→AWI P I x c s.tmD s.hp (QC tb re rs s (qe c) k kr r)
 | .l,c,R,s,k,kr,r,hk,hx,h=>by
  unfold evC leaE at h
  split at h
  ·exact AWI.skip (.inl ⟨.n,s,rfl,rfl,rfl,hk,Exs.refl _ s,h⟩)
  ·exact AWI.exit (.inl ⟨.e _,s,rfl,rfl,rfl,hk,Exs.refl _ s,h⟩)
  ·obtain⟨z,hz,h⟩:=PO h
   exact AWI.ret (.inr ⟨rfl,z,h,NR hk hz⟩)
  ·exact AWI.label (.inl ⟨.n,s,rfl,rfl,rfl,hk,Exs.refl _ s,h⟩)
  ·cases h
 | .g L X,c,R,s,k,kr,r,hk,hx,h=>by
  unfold evC at h
  split at h
  ·rename_i id ops dr
   unfold regE at h
   split at h
   ·rename_i hd
    rw[←hN] at hd
    split at h
    ·split at h
     ·rename_i ho
      refine AWI.of hI fun x2 vY _=>AW.drawS C5 (by rw[vY];exact hd) ho fun K hK=>tz tok hk h fun s' h1 h2 h3=>hK _ _ (.inl ⟨.n,s',rfl,rfl,rfl,h2,⟨h3.fr,h3.2⟩,h1⟩)
     ·cases h
    ·refine AWI.of hI fun x2 vY _=>AW.regionS (by rw[vY];exact hd) fun K hK=>tz tok hk h fun s' h1 h2 h3=>hK _ _ (.inl ⟨.n,s',rfl,rfl,rfl,h2,⟨h3.fr,h3.2⟩,h1⟩)
   ·cases h
  ·cases h
 | .s ca cb,c,R,s,k,kr,r,hk,hx,h=>by
  unfold evC at h
  split at h
  ·rename_i a b
   refine AWI.seq (AWI.mono (oV tok C5 hI hH hN (ct:=ca) hk hx h) ?_)
   rintro ex tm hp (⟨q,s',rfl,rfl,rfl,ok,E,hl⟩|⟨rfl,z,hz,hr⟩)
   ·cases q with
    |n=>
     refine AWI.mono (oV tok C5 hI hH hN (ct:=cb) ok (cg hx E.2.2.2) hl) ?_
     rintro ex tm hp (⟨q,s2,rfl,rfl,rfl,Ha,E2,oQ⟩|⟨rfl,z,hz,hr⟩)
     ·exact .inl ⟨q,s2,rfl,rfl,rfl,Ha,E.trans E2,oQ⟩
     ·exact .inr ⟨rfl,z,hz,hr⟩
    |e i=>exact .inl ⟨.e i,s',rfl,rfl,rfl,ok,E.sub fun t ht=>(qL ht).1,hl⟩
   ·exact .inr ⟨rfl,z,hz,hr⟩
  ·cases h
 | .c ca cb,c,R,s,k,kr,r,hk,hx,h=>by
  unfold evC at h
  split at h
  ·rename_i o a b
   obtain⟨t,y,h,h1,h2,h3,h4,h5⟩:=bopE_ok h
   have h:=F8 h
   refine AWI.condS h1 (fun hb=>?_) (fun hb=>?_)
   ·subst hb
    have:=oV tok C5 hI hH hN (ct:=ca) (h2 hk) (by have:=(h5 []).2.2.2;omega) h
    rw[h3,h4] at this
    refine AWI.mono this ?_
    rintro ex tm hp (⟨q,s2,rfl,rfl,rfl,Ha,E2,oQ⟩|⟨rfl,z,hz,hr⟩)
    ·exact .inl ⟨q,s2,rfl,rfl,rfl,Ha,(h5 []).app E2 fun t ht=>⟨rfl,(qL ht).1⟩,oQ⟩
    ·exact .inr ⟨rfl,z,hz,hr⟩
   ·subst hb
    have:=oV tok C5 hI hH hN (ct:=cb) (h2 hk) (by have:=(h5 []).2.2.2;omega) h
    rw[h3,h4] at this
    refine AWI.mono this ?_
    rintro ex tm hp (⟨q,s2,rfl,rfl,rfl,Ha,E2,oQ⟩|⟨rfl,z,hz,hr⟩)
    ·exact .inl ⟨q,s2,rfl,rfl,rfl,Ha,(h5 []).app E2 fun t ht=>⟨rfl,(qL ht).2⟩,oQ⟩
    ·exact .inr ⟨rfl,z,hz,hr⟩
  ·cases h
 | .b ca,c,R,s,k,kr,r,hk,hx,h=>by
  unfold evC at h
  split at h
  ·rename_i id a
   refine AWI.block (AWI.mono (oV tok C5 hI hH hN (ct:=ca) hk hx h) ?_)
   rintro ex tm hp (⟨q,s2,rfl,rfl,rfl,Ha,E2,oQ⟩|⟨rfl,z,hz,hr⟩)
   ·cases q with
    |n=>exact .inl ⟨.n,s2,rfl,rfl,rfl,Ha,E2,oQ⟩
    |e i=>
     show if i=id then _ else _
     have oQ:(match Nat.beq i id with|true=>k .n s2|false=>k (.e i) s2)=some r:=oQ
     cases hi:Nat.beq i id with
     |true=>
      rw[hi] at oQ
      rw[an (f7 hi)]
      exact .inl ⟨.n,s2,rfl,rfl,rfl,Ha,E2,oQ⟩
     |false=>
      rw[hi] at oQ
      rw[az (fun e=>by rw[e,yG] at hi;cases hi)]
      exact .inl ⟨.e i,s2,rfl,rfl,rfl,Ha,E2,oQ⟩
   ·exact .inr ⟨rfl,z,hz,hr⟩
  ·rename_i a
   refine AWI.scope (AWI.mono (oV tok C5 hI hH hN (ct:=ca) hk hx h) ?_)
   rintro ex tm hp (⟨q,s2,rfl,rfl,rfl,Ha,E2,oQ⟩|⟨rfl,z,hz,hr⟩)
   ·cases q <;> exact .inl ⟨_,s2,rfl,rfl,rfl,Ha,E2,oQ⟩
   ·exact .inr ⟨rfl,z,hz,hr⟩
  ·cases h
 | .h,c,R,s,k,kr,r,hk,hx,h=>by
  unfold evC at h
  exact hH x c R s k kr r hN hk hx h
 | .d T,c,R,s,k,kr,r,hk,hx,h=>by
  unfold evC at h
  split at h
  ·rename_i id ops dr
   split at h
   ·exact AWI.of hI fun x2 vY _=>AW.dw (l:=ops.toList) C5 (Mw tok (vY.trans hN) hk h)
   ·cases h
  ·cases h
 | .j O ca,c,R,s,k,kr,r,hk,hx,h=>by
  unfold evC at h
  obtain⟨y,hy,h⟩:=ai h
  exact meet hk hx (oV tok C5 hI hH hN (ct:=ca) hk hx hy) h
 | .w J O ca,c,R,s,k,kr,r,hk,hx,h=>by
  unfold evC at h
  split at h
  ·rename_i c
   split at h
   ·rename_i y0 hy0
    obtain⟨e,hl,h⟩:=ai h
    refine meet (B:=B) hk hx ?_ h
    obtain⟨n,hn⟩:=qC.1 hl
    have first:∀{n:Nat} {y:Tup S J.tys},pq (fun y=>lpB s (qe c) J y fun s1=>evC B C N re rs H ca c _ s1 (lpK B re s (qe c) J O) fun z=>PL (yg re z O)) n y=some e→∃s1,mkS s (qe c) J (tuV J.tys y)=some s1:=by
     intro n y h
     cases n with
     |zero=>cases h
     |succ n=>
      unfold pq at h
      split at h
      ·rename_i hb
       obtain⟨s1,h1,_⟩:=yc hb
       exact⟨s1,h1⟩
      ·rename_i hb
       obtain⟨s1,h1,_⟩:=yc hb
       exact⟨s1,h1⟩
      ·cases h
    obtain⟨s0,hs0⟩:=first hn
    obtain⟨ok0,E0,W0⟩:=Hi hy0 hs0 hk hk (Exs.refl _ s) hx
    refine AWI.loop (fun n tm hp=>∃y s1,mkS s (qe c) J (tuV J.tys y)=some s1∧tm=s1.tmD∧hp=s1.hp∧s1.Ok∧Exs (qe c) s s1∧pq (fun y=>lpB s (qe c) J y fun s1=>evC B C N re rs H ca c _ s1 (lpK B re s (qe c) J O) fun z=>PL (yg re z O)) n y=some e) (n:=n) W0 ⟨y0,s0,hs0,rfl,rfl,ok0,E0,hn⟩ ?_
    rintro n tm hp ⟨y,s1,hs1,rfl,rfl,ok1,E1,hn⟩
    cases n with
    |zero=>cases hn
    |succ n=>
     unfold pq at hn
     have BU:x.hp0.next≤s1.nx:=cg hx E1.2.2.2
     split at hn
     ·rename_i y' hb
      obtain⟨s1',h1,hb⟩:=yc hb
      rw[hs1] at h1
      cases h1
      refine AWI.mono (oV tok C5 hI hH hN (ct:=ca) ok1 BU hb) ?_
      rintro ex tm hp (⟨q,s2,rfl,rfl,rfl,Ha,E2,oQ⟩|⟨rfl,z,hz,hr⟩)
      ·cases q with
       |n=>
        obtain⟨y2,h2,h3⟩:=Fu oQ
        cases h3
        obtain⟨s3,hs3⟩:=first hn
        obtain⟨ok3,E3,W3⟩:=Hi h2 hs3 Ha hk (E1.twice E2) hx
        exact⟨n,_,_,dH _,W3,_,s3,hs3,rfl,rfl,ok3,E3,hn⟩
       |e i=>
        obtain⟨y2,h2,h3⟩:=vg oQ
        cases h3
      ·obtain⟨y2,h2,h3⟩:=vg hz
       cases h3
     ·rename_i e' hb
      cases hn
      obtain⟨s1',h1,hb⟩:=yc hb
      rw[hs1] at h1
      cases h1
      refine AWI.mono (oV tok C5 hI hH hN (ct:=ca) ok1 BU hb) ?_
      rintro ex tm hp (⟨q,s2,rfl,rfl,rfl,Ha,E2,oQ⟩|⟨rfl,z,hz,hr⟩)
      ·cases q with
       |n=>
        obtain⟨y2,h2,h3⟩:=Fu oQ
        cases h3
       |e i=>
        obtain⟨y2,h2,h3⟩:=vg oQ
        cases h3
        exact .inl ⟨.e i,s2,rfl,rfl,rfl,Ha,E1.twice E2,h2⟩
      ·obtain⟨y2,h2,h3⟩:=vg hz
       cases h3
       exact .inr ⟨rfl,z,h2,hr⟩
     ·cases hn
   ·cases h
  ·cases h
def paV:(l:List Pa)→Tup S (paT l)→Nat→List (Nat×TV S)
 |[],_,_=>[]
 | .d t::l,x,i=>(i,.v t (hdU (t:=t) (l:=paT l) x))::paV l (tlU (t:=t) (l:=paT l) x) (i+1)
 | .f g::l,x,i=>(i,.fl g)::paV l x (i+1)
theorem NX:∀(l:List Pa) (x:Tup S (paT l)) (i:Nat),tmL (paV l x i)=dv i (paD l x)
 |[],_,_=>rfl
 | .d t::l,x,i=>by
  show (i,(TV.v t _:TV S).toD)::tmL _=(i,_)::dv (i+1) _
  rw[NX l]
  simp only[TV.toD]
 | .f g::l,x,i=>by
  show (i,(TV.fl g:TV S).toD)::tmL _=(i,_)::dv (i+1) _
  simp only[TV.toD]
  exact congrArg (List.cons _) (NX l x (i+1))
theorem G5:∀{l:List Pa} {x:Tup S (paT l)} {i:Nat},∀p∈paV l x i,p.2.owns=[]
 |[],_,_,p,h=>by cases h
 | .d t::l,x,i,p,h=>by
  rcases e8.1 h with rfl|h
  ·simp only[TV.owns]
  ·exact G5 p h
 | .f g::l,x,i,p,h=>by
  rcases e8.1 h with rfl|h
  ·simp only[TV.owns]
  ·exact G5 p h
theorem G6:∀(l:List Pa) (x:Tup S (paT l)),(paD l x).length=l.length
 |[],_=>rfl
 | .d t::l,x=>by show (_::paD l _).length=_;rw[lc,G6 l];rfl
 | .f g::l,x=>congrArg (·+1) (G6 l x)
def endK(B:Tb P tb S)(re:Re)(rs:List ResultVar):Xt→St S→Option (re.T' S)
 | .n,s=>retE B s rs re
 | .e _,_=>none
def oE(fn:Func):Code:=match fn.body with
 |some c=>c
 |none=>.skip
def evF(B:Tb P tb S)(C:List (Ctr P S))(N:Nat)(re:Re)(rs:List ResultVar)(ct:Ct)(c:Code)(ps:List Pa)(x:Tup S (paT ps)):Option (re.T' S):=evC B C N re rs noH ct c _ ⟨paV ps x 0,[],[],0⟩ (endK B re rs) some
theorem LM:U4 (S:=S) P tb N re rs noH I:=fun _ _ _ _ _ _ _ _ _ _ h=>by cases h
theorem HV (tok : TOk P tb) (C5 : P.follows .mixedOrders = true) {f : FuncId} {fn : Func} {c : Code} {ct : Ct} {ps : List Pa} (hf : P.funcs[f]? = some fn) (hb : fn.body = some c) (qH : (fn.name == "runtime.NumGoroutine") = false) (hN : Nat.ble ps.length fn.ntmps = true) (hrs : fn.results.toList = rs)
  {x:Tup S (paT ps)} {z:re.T' S} (h:evF B C fn.ntmps re rs ct c ps x=some z):ar P f (paD ps x) (reD re z):=by
 refine ar.of tok hf hb qH (by rw[G6];exact cD hN) hrs fun cx hx h0=>?_
 have hok:(⟨paV ps x 0,[],[],0⟩:St S).Ok:=⟨fun p hp=>gS (G5 p hp),fun p hp=>by cases hp⟩
 have:=AWI.aw (oV tok C5 Jr LM hx hok (by rw[h0];exact aC _) h)
 have e:(⟨paV ps x 0,[],[],0⟩:St S).tmD=dv 0 (paD ps x):=NX ps x 0
 rw[e] at this
 refine AW.mono this ?_
 rintro ex tm hp (⟨q,s2,rfl,rfl,rfl,Ha,E2,oQ⟩|⟨rfl,z',hz,hr⟩)
 ·cases q with
  |n=>exact NR Ha oQ
  |e i=>cases oQ
 ·cases hz;exact hr
end
end
def tblL:List (Nat×TyE):=[
 (2,⟨.int .i64,1,8,[.int .i64 (0)]⟩),
 (3,⟨.int .i64,1,8,[.int .i64 (0)]⟩),
 (4,⟨.bool,1,1,[.bool false]⟩),
 (5,⟨.int .u8,1,1,[.int .u8 (0)]⟩),
 (9,⟨.str,1,16,[.string ⟨#[]⟩]⟩),
 (12,⟨.int .u64,1,8,[.int .u64 (0)]⟩),
 (13,⟨.struct [(0,9),(1,12)],2,24,[.string ⟨#[]⟩,.int .u64 (0)]⟩),
 (21,⟨.int .i32,1,4,[.int .i32 (0)]⟩),
 (22,⟨.slice 34,1,24,[.slice none 0 0]⟩),
 (23,⟨.struct [(0,3),(1,3),(2,22)],3,40,[.int .i64 (0),.int .i64 (0),.slice none 0 0]⟩),
 (24,⟨.struct [(0,3),(1,3),(2,22)],3,40,[.int .i64 (0),.int .i64 (0),.slice none 0 0]⟩),
 (26,⟨.int .i64,1,8,[.int .i64 (0)]⟩),
 (29,⟨.int .u32,1,4,[ae]⟩),
 (30,⟨.arr 16 29,16,64,[ae,ae,ae,ae,ae,ae,ae,ae,ae,ae,ae,ae,ae,ae,ae,ae]⟩),
 (31,⟨.struct [(0,4),(1,4),(2,30)],18,68,[.bool false,.bool false,ae,ae,ae,ae,ae,ae,ae,ae,ae,ae,ae,ae,ae,ae,ae,ae]⟩),
 (32,⟨.struct [(0,4),(1,4),(2,30)],18,68,[.bool false,.bool false,ae,ae,ae,ae,ae,ae,ae,ae,ae,ae,ae,ae,ae,ae,ae,ae]⟩),
 (33,⟨.struct [(0,32),(18,32)],36,136,[.bool false,.bool false,ae,ae,ae,ae,ae,ae,ae,ae,ae,ae,ae,ae,ae,ae,ae,ae,.bool false,.bool false,ae,ae,ae,ae,ae,ae,ae,ae,ae,ae,ae,ae,ae,ae,ae,ae]⟩),
 (34,⟨.struct [(0,32),(18,32)],36,136,[.bool false,.bool false,ae,ae,ae,ae,ae,ae,ae,ae,ae,ae,ae,ae,ae,ae,ae,ae,.bool false,.bool false,ae,ae,ae,ae,ae,ae,ae,ae,ae,ae,ae,ae,ae,ae,ae,ae]⟩),
 (35,⟨.slice 3,1,24,[.slice none 0 0]⟩),
 (44,⟨.struct [(0,24),(3,35),(4,22),(5,4),(6,26),(7,3)],8,112,[.int .i64 (0),.int .i64 (0),.slice none 0 0,.slice none 0 0,.slice none 0 0,.bool false,.int .i64 (0),.int .i64 (0)]⟩),
 (45,⟨.struct [(0,24),(3,35),(4,22),(5,4),(6,26),(7,3)],8,112,[.int .i64 (0),.int .i64 (0),.slice none 0 0,.slice none 0 0,.slice none 0 0,.bool false,.int .i64 (0),.int .i64 (0)]⟩),
 (47,⟨.struct [(0,34),(36,26)],37,144,[.bool false,.bool false,ae,ae,ae,ae,ae,ae,ae,ae,ae,ae,ae,ae,ae,ae,ae,ae,.bool false,.bool false,ae,ae,ae,ae,ae,ae,ae,ae,ae,ae,ae,ae,ae,ae,ae,ae,.int .i64 (0)]⟩),
 (48,⟨.struct [(0,34),(36,26)],37,144,[.bool false,.bool false,ae,ae,ae,ae,ae,ae,ae,ae,ae,ae,ae,ae,ae,ae,ae,ae,.bool false,.bool false,ae,ae,ae,ae,ae,ae,ae,ae,ae,ae,ae,ae,ae,ae,ae,ae,.int .i64 (0)]⟩),
 (52,⟨.slice 22,1,24,[.slice none 0 0]⟩),
 (55,⟨.struct [(0,52),(1,26)],2,32,[.slice none 0 0,.int .i64 (0)]⟩),
 (56,⟨.struct [(0,52),(1,26)],2,32,[.slice none 0 0,.int .i64 (0)]⟩),
 (60,⟨.struct [(0,4),(1,26)],2,16,[.bool false,.int .i64 (0)]⟩),
 (61,⟨.struct [(0,4),(1,26)],2,16,[.bool false,.int .i64 (0)]⟩),
 (64,⟨.struct [(0,24),(3,26)],4,48,[.int .i64 (0),.int .i64 (0),.slice none 0 0,.int .i64 (0)]⟩),
 (65,⟨.struct [(0,24),(3,26)],4,48,[.int .i64 (0),.int .i64 (0),.slice none 0 0,.int .i64 (0)]⟩),
 (71,⟨.struct [(0,22),(1,26)],2,32,[.slice none 0 0,.int .i64 (0)]⟩),
 (72,⟨.struct [(0,22),(1,26)],2,32,[.slice none 0 0,.int .i64 (0)]⟩),
 (95,⟨.slice 102,1,24,[.slice none 0 0]⟩),
 (96,⟨.struct [(0,24),(3,95)],4,64,[.int .i64 (0),.int .i64 (0),.slice none 0 0,.slice none 0 0]⟩),
 (97,⟨.struct [(0,24),(3,95)],4,64,[.int .i64 (0),.int .i64 (0),.slice none 0 0,.slice none 0 0]⟩),
 (101,⟨.struct [(0,3),(1,34),(37,4)],38,152,[.int .i64 (0),.bool false,.bool false,ae,ae,ae,ae,ae,ae,ae,ae,ae,ae,ae,ae,ae,ae,ae,ae,.bool false,.bool false,ae,ae,ae,ae,ae,ae,ae,ae,ae,ae,ae,ae,ae,ae,ae,ae,.bool false]⟩),
 (102,⟨.struct [(0,3),(1,34),(37,4)],38,152,[.int .i64 (0),.bool false,.bool false,ae,ae,ae,ae,ae,ae,ae,ae,ae,ae,ae,ae,ae,ae,ae,ae,.bool false,.bool false,ae,ae,ae,ae,ae,ae,ae,ae,ae,ae,ae,ae,ae,ae,ae,ae,.bool false]⟩),
 (122,⟨.slice 24,1,24,[.slice none 0 0]⟩),
 (130,⟨.int .u64,1,8,[.int .u64 (0)]⟩),
 (134,⟨.arr 32 29,32,128,[ae,ae,ae,ae,ae,ae,ae,ae,ae,ae,ae,ae,ae,ae,ae,ae,ae,ae,ae,ae,ae,ae,ae,ae,ae,ae,ae,ae,ae,ae,ae,ae]⟩),
 (136,⟨.int .u64,1,8,[.int .u64 (0)]⟩),
 (137,⟨.slice 29,1,24,[.slice none 0 0]⟩),
 (149,⟨.slice 32,1,24,[.slice none 0 0]⟩),
 (172,⟨.arr 17 29,17,68,[ae,ae,ae,ae,ae,ae,ae,ae,ae,ae,ae,ae,ae,ae,ae,ae,ae]⟩)
]
def tbl(t:TypeId):Option TyE:=tblL.lookup t
theorem tb_2:tbl 2=some ⟨.int .i64,1,8,[.int .i64 (0)]⟩:=rfl
theorem dJ:tbl 3=some ⟨.int .i64,1,8,[.int .i64 (0)]⟩:=rfl
theorem sC:tbl 4=some ⟨.bool,1,1,[.bool false]⟩:=rfl
theorem tb_5:tbl 5=some ⟨.int .u8,1,1,[.int .u8 (0)]⟩:=rfl
theorem tb_9:tbl 9=some ⟨.str,1,16,[.string ⟨#[]⟩]⟩:=rfl
theorem tb_12:tbl 12=some ⟨.int .u64,1,8,[.int .u64 (0)]⟩:=rfl
theorem tb_13:tbl 13=some ⟨.struct [(0,9),(1,12)],2,24,[.string ⟨#[]⟩,.int .u64 (0)]⟩:=rfl
theorem tb_21:tbl 21=some ⟨.int .i32,1,4,[.int .i32 (0)]⟩:=rfl
theorem aW:tbl 22=some ⟨.slice 34,1,24,[.slice none 0 0]⟩:=rfl
theorem tb_23:tbl 23=some ⟨.struct [(0,3),(1,3),(2,22)],3,40,[.int .i64 (0),.int .i64 (0),.slice none 0 0]⟩:=rfl
theorem ay:tbl 24=some ⟨.struct [(0,3),(1,3),(2,22)],3,40,[.int .i64 (0),.int .i64 (0),.slice none 0 0]⟩:=rfl
theorem NJ:tbl 26=some ⟨.int .i64,1,8,[.int .i64 (0)]⟩:=rfl
theorem bH:tbl 29=some ⟨.int .u32,1,4,[ae]⟩:=rfl
theorem cr:tbl 30=some ⟨.arr 16 29,16,64,[ae,ae,ae,ae,ae,ae,ae,ae,ae,ae,ae,ae,ae,ae,ae,ae]⟩:=rfl
theorem tb_31:tbl 31=some ⟨.struct [(0,4),(1,4),(2,30)],18,68,[.bool false,.bool false,ae,ae,ae,ae,ae,ae,ae,ae,ae,ae,ae,ae,ae,ae,ae,ae]⟩:=rfl
theorem g5:tbl 32=some ⟨.struct [(0,4),(1,4),(2,30)],18,68,[.bool false,.bool false,ae,ae,ae,ae,ae,ae,ae,ae,ae,ae,ae,ae,ae,ae,ae,ae]⟩:=rfl
theorem tb_33:tbl 33=some ⟨.struct [(0,32),(18,32)],36,136,[.bool false,.bool false,ae,ae,ae,ae,ae,ae,ae,ae,ae,ae,ae,ae,ae,ae,ae,ae,.bool false,.bool false,ae,ae,ae,ae,ae,ae,ae,ae,ae,ae,ae,ae,ae,ae,ae,ae]⟩:=rfl
theorem aR:tbl 34=some ⟨.struct [(0,32),(18,32)],36,136,[.bool false,.bool false,ae,ae,ae,ae,ae,ae,ae,ae,ae,ae,ae,ae,ae,ae,ae,ae,.bool false,.bool false,ae,ae,ae,ae,ae,ae,ae,ae,ae,ae,ae,ae,ae,ae,ae,ae]⟩:=rfl
theorem eO:tbl 35=some ⟨.slice 3,1,24,[.slice none 0 0]⟩:=rfl
theorem tb_44:tbl 44=some ⟨.struct [(0,24),(3,35),(4,22),(5,4),(6,26),(7,3)],8,112,[.int .i64 (0),.int .i64 (0),.slice none 0 0,.slice none 0 0,.slice none 0 0,.bool false,.int .i64 (0),.int .i64 (0)]⟩:=rfl
theorem tb_45:tbl 45=some ⟨.struct [(0,24),(3,35),(4,22),(5,4),(6,26),(7,3)],8,112,[.int .i64 (0),.int .i64 (0),.slice none 0 0,.slice none 0 0,.slice none 0 0,.bool false,.int .i64 (0),.int .i64 (0)]⟩:=rfl
theorem tb_47:tbl 47=some ⟨.struct [(0,34),(36,26)],37,144,[.bool false,.bool false,ae,ae,ae,ae,ae,ae,ae,ae,ae,ae,ae,ae,ae,ae,ae,ae,.bool false,.bool false,ae,ae,ae,ae,ae,ae,ae,ae,ae,ae,ae,ae,ae,ae,ae,ae,.int .i64 (0)]⟩:=rfl
theorem tb_48:tbl 48=some ⟨.struct [(0,34),(36,26)],37,144,[.bool false,.bool false,ae,ae,ae,ae,ae,ae,ae,ae,ae,ae,ae,ae,ae,ae,ae,ae,.bool false,.bool false,ae,ae,ae,ae,ae,ae,ae,ae,ae,ae,ae,ae,ae,ae,ae,ae,.int .i64 (0)]⟩:=rfl
theorem nM:tbl 52=some ⟨.slice 22,1,24,[.slice none 0 0]⟩:=rfl
theorem tb_55:tbl 55=some ⟨.struct [(0,52),(1,26)],2,32,[.slice none 0 0,.int .i64 (0)]⟩:=rfl
theorem tb_56:tbl 56=some ⟨.struct [(0,52),(1,26)],2,32,[.slice none 0 0,.int .i64 (0)]⟩:=rfl
theorem tb_60:tbl 60=some ⟨.struct [(0,4),(1,26)],2,16,[.bool false,.int .i64 (0)]⟩:=rfl
theorem tb_61:tbl 61=some ⟨.struct [(0,4),(1,26)],2,16,[.bool false,.int .i64 (0)]⟩:=rfl
theorem tb_64:tbl 64=some ⟨.struct [(0,24),(3,26)],4,48,[.int .i64 (0),.int .i64 (0),.slice none 0 0,.int .i64 (0)]⟩:=rfl
theorem AI:tbl 65=some ⟨.struct [(0,24),(3,26)],4,48,[.int .i64 (0),.int .i64 (0),.slice none 0 0,.int .i64 (0)]⟩:=rfl
theorem tb_71:tbl 71=some ⟨.struct [(0,22),(1,26)],2,32,[.slice none 0 0,.int .i64 (0)]⟩:=rfl
theorem tb_72:tbl 72=some ⟨.struct [(0,22),(1,26)],2,32,[.slice none 0 0,.int .i64 (0)]⟩:=rfl
theorem Rq:tbl 95=some ⟨.slice 102,1,24,[.slice none 0 0]⟩:=rfl
theorem tb_96:tbl 96=some ⟨.struct [(0,24),(3,95)],4,64,[.int .i64 (0),.int .i64 (0),.slice none 0 0,.slice none 0 0]⟩:=rfl
theorem kb:tbl 97=some ⟨.struct [(0,24),(3,95)],4,64,[.int .i64 (0),.int .i64 (0),.slice none 0 0,.slice none 0 0]⟩:=rfl
theorem tb_101:tbl 101=some ⟨.struct [(0,3),(1,34),(37,4)],38,152,[.int .i64 (0),.bool false,.bool false,ae,ae,ae,ae,ae,ae,ae,ae,ae,ae,ae,ae,ae,ae,ae,ae,.bool false,.bool false,ae,ae,ae,ae,ae,ae,ae,ae,ae,ae,ae,ae,ae,ae,ae,ae,.bool false]⟩:=rfl
theorem nN:tbl 102=some ⟨.struct [(0,3),(1,34),(37,4)],38,152,[.int .i64 (0),.bool false,.bool false,ae,ae,ae,ae,ae,ae,ae,ae,ae,ae,ae,ae,ae,ae,ae,ae,.bool false,.bool false,ae,ae,ae,ae,ae,ae,ae,ae,ae,ae,ae,ae,ae,ae,ae,ae,.bool false]⟩:=rfl
theorem rP:tbl 122=some ⟨.slice 24,1,24,[.slice none 0 0]⟩:=rfl
theorem tb_130:tbl 130=some ⟨.int .u64,1,8,[.int .u64 (0)]⟩:=rfl
theorem GR:tbl 134=some ⟨.arr 32 29,32,128,[ae,ae,ae,ae,ae,ae,ae,ae,ae,ae,ae,ae,ae,ae,ae,ae,ae,ae,ae,ae,ae,ae,ae,ae,ae,ae,ae,ae,ae,ae,ae,ae]⟩:=rfl
theorem tb_136:tbl 136=some ⟨.int .u64,1,8,[.int .u64 (0)]⟩:=rfl
theorem Rr:tbl 137=some ⟨.slice 29,1,24,[.slice none 0 0]⟩:=rfl
theorem rO:tbl 149=some ⟨.slice 32,1,24,[.slice none 0 0]⟩:=rfl
theorem Ci:tbl 172=some ⟨.arr 17 29,17,68,[ae,ae,ae,ae,ae,ae,ae,ae,ae,ae,ae,ae,ae,ae,ae,ae,ae]⟩:=rfl
class TB (t:TypeId) (i:outParam TyE):Prop where
 h:tbl t=some i
theorem tbI {t:TypeId}{i:TyE}[h:TB t i]:tbl t=some i:=h.h
@[reducible,instance] def itb_2:=TB.mk tb_2
@[reducible,instance] def itb_3:=TB.mk dJ
@[reducible,instance] def itb_4:=TB.mk sC
@[reducible,instance] def itb_5:=TB.mk tb_5
@[reducible,instance] def itb_9:=TB.mk tb_9
@[reducible,instance] def itb_12:=TB.mk tb_12
@[reducible,instance] def itb_13:=TB.mk tb_13
@[reducible,instance] def itb_21:=TB.mk tb_21
@[reducible,instance] def itb_22:=TB.mk aW
@[reducible,instance] def itb_23:=TB.mk tb_23
@[reducible,instance] def itb_24:=TB.mk ay
@[reducible,instance] def itb_26:=TB.mk NJ
@[reducible,instance] def itb_29:=TB.mk bH
@[reducible,instance] def itb_30:=TB.mk cr
@[reducible,instance] def itb_31:=TB.mk tb_31
@[reducible,instance] def itb_32:=TB.mk g5
@[reducible,instance] def itb_33:=TB.mk tb_33
@[reducible,instance] def itb_34:=TB.mk aR
@[reducible,instance] def itb_35:=TB.mk eO
@[reducible,instance] def itb_44:=TB.mk tb_44
@[reducible,instance] def itb_45:=TB.mk tb_45
@[reducible,instance] def itb_47:=TB.mk tb_47
@[reducible,instance] def itb_48:=TB.mk tb_48
@[reducible,instance] def itb_52:=TB.mk nM
@[reducible,instance] def itb_55:=TB.mk tb_55
@[reducible,instance] def itb_56:=TB.mk tb_56
@[reducible,instance] def itb_60:=TB.mk tb_60
@[reducible,instance] def itb_61:=TB.mk tb_61
@[reducible,instance] def itb_64:=TB.mk tb_64
@[reducible,instance] def itb_65:=TB.mk AI
@[reducible,instance] def itb_71:=TB.mk tb_71
@[reducible,instance] def itb_72:=TB.mk tb_72
@[reducible,instance] def itb_95:=TB.mk Rq
@[reducible,instance] def itb_96:=TB.mk tb_96
@[reducible,instance] def itb_97:=TB.mk kb
@[reducible,instance] def itb_101:=TB.mk tb_101
@[reducible,instance] def itb_102:=TB.mk nN
@[reducible,instance] def itb_122:=TB.mk rP
@[reducible,instance] def itb_130:=TB.mk tb_130
@[reducible,instance] def itb_134:=TB.mk GR
@[reducible,instance] def itb_136:=TB.mk tb_136
@[reducible,instance] def itb_137:=TB.mk Rr
@[reducible,instance] def itb_149:=TB.mk rO
@[reducible,instance] def itb_172:=TB.mk Ci
def UO(P:Program):List (Nat×TyE)→Prop
 |[]=>True
 |(t,i)::l=>((P.underlying t).map Ty.of=some i.ty∧(P.info? t).map (fun f=>(f.size,f.bytes,f.zero.map fun v=>(v.cells.toList,v.isAggV)))=some (i.size,i.bytes,some (i.zero,i.ty.agg))∧i.zero.length=i.size∧i.zero.all Value.oneCell'=true)∧UO P l
theorem UO.get {P:Program}:∀{l:List (Nat×TyE)} {t:Nat} {i:TyE},UO P l→l.lookup t=some i→(P.underlying t).map Ty.of=some i.ty∧(P.info? t).map (fun f=>(f.size,f.bytes,f.zero.map fun v=>(v.cells.toList,v.isAggV)))=some (i.size,i.bytes,some (i.zero,i.ty.agg))∧i.zero.length=i.size∧i.zero.all Value.oneCell'=true
 |[],t,i,_,h=>by simp at h
 |(s,j)::l,t,i,h,hl=>by
  by_cases hts:t=s
  ·subst hts
   have:some j=some i:=by rw[←hl];exact ah.symm
   injection this with this
   subst this
   exact h.1
  ·exact UO.get h.2 (by rw[←hl];exact (al hts).symm)
theorem tokL:UO prog tblL:=by
 iterate 44 refine⟨⟨by kernel_rfl,by kernel_rfl,by kernel_rfl,by kernel_rfl⟩,?_⟩
 exact trivial
theorem tok:TOk prog tbl:=fun _ _ h=>tokL.get h
theorem qw:prog.underlying 4=some .bool:=by kernel_rfl
section
def dg(b A j:Nat):Nat:=A / b ^ j % b
section
variable {b A B n k j p x:Nat}
theorem TN(hb:0<b):dg b A j<b:=dM _ hb
theorem kZ(h:A<b ^ j):dg b A j=0:=by unfold dg;rw[dE h,Nat.zero_mod]
theorem gi:A % b ^ (k+1)=A % b ^ k+b ^ k*dg b A k:=Nat.mod_pow_succ
theorem b9:A / b ^ k=A / b ^ (k+1)*b+dg b A k:=by
 unfold dg
 rw[cC,←gg,bj]
 exact (kV _ _).symm
theorem mX(hj:j<k):dg b (A % b ^ k) j=dg b A j:=by
 unfold dg
 obtain⟨m,rfl⟩:∃m,k=j+(m+1):=⟨k - j - 1,by omega⟩
 rw[gH,Nat.mod_mul_right_div_self,cC,Nat.mod_mul_left_mod]
theorem OJ(hb:0<b)(hj:k≤j):dg b (A % b ^ k) j=0:=
 kZ (bC (dM _ (bD hb)) (im hb hj))
theorem TO(hA:A<b ^ n)(hB:B<b ^ n)(h:∀j,j<n→dg b A j=dg b B j):A=B:=by
 have key:∀k,k≤n→A % b ^ k=B % b ^ k:=by
  intro k
  induction k with
  |zero=>intro _;simp[mw]
  |succ k ih=>intro hk;rw[gi,gi,ih (by omega),h k (by omega)]
 have:=key n (aC _)
 rwa[dX hA,dX hB] at this
def up1(b A p x:Nat):Nat:=A / b ^ (p+1)*b ^ (p+1)+x*b ^ p+A % b ^ p
theorem Rx:A=A / b ^ (p+1)*b ^ (p+1)+dg b A p*b ^ p+A % b ^ p:=by
 have h1:=kV A (b ^ (p+1))
 rw[gi] at h1
 rw[bj (dg b A p),kU,lU (b ^ p*dg b A p),bj (A / b ^ (p+1))]
 exact h1.symm
theorem Ls:up1 b A p x+dg b A p*b ^ p=A+x*b ^ p:=by
 have h:=Rx (b:=b) (A:=A) (p:=p)
 unfold up1
 omega
theorem part_lt(hb:0<b)(hx:x<b):x*b ^ p+A % b ^ p<b ^ (p+1):=by
 have h1:A % b ^ p<b ^ p:=dM _ (bD hb)
 have h2:(x+1)*b ^ p≤b*b ^ p:=bY _ hx
 rw[aX,dq] at h2
 rw[cC,bj (b ^ p) b]
 omega
theorem NF(hb:0<b)(hx:x<b):up1 b A p x / b ^ (p+1)=A / b ^ (p+1):=by
 unfold up1
 rw[kU,lU,Nh _ _ (bD hb),dE (part_lt hb hx),cj]
theorem NE(hb:0<b):up1 b A p x % b ^ p=A % b ^ p:=by
 unfold up1
 have e:A / b ^ (p+1)*b ^ (p+1)+x*b ^ p+A % b ^ p=A % b ^ p+(A / b ^ (p+1)*b+x)*b ^ p:=by
  rw[cC,aX]
  have:A / (b ^ p*b)*(b ^ p*b)=A / (b ^ p*b)*b*b ^ p:=by rw[fa,bj b]
  omega
 rw[e,Ng,Aw]
theorem dg_up1(hb:0<b)(hx:x<b):dg b (up1 b A p x) j=if j=p then x else dg b A j:=by
 rcases xm j p with h|h|h
 ·rw[ifn_,←mX (A:=up1 b A p x) h,NE hb,mX h]
 ·subst h
  rw[an rfl]
  have h1:dg b (up1 b A j x) j*b ^ j=x*b ^ j:=by
   have e1:=Rx (b:=b) (A:=up1 b A j x) (p:=j)
   rw[NF hb hx,NE hb] at e1
   have e2:up1 b A j x=A / b ^ (j+1)*b ^ (j+1)+x*b ^ j+A % b ^ j:=rfl
   omega
  exact Nat.eq_of_mul_eq_mul_right (bD hb) h1
 ·rw[ifn_]
  obtain⟨m,rfl⟩:∃m,j=(p+1)+m:=⟨j - p - 1,by omega⟩
  unfold dg
  rw[gH,←gg,←gg,NF hb hx]
def vN(b n A:Nat):Vector Int n:=Vector.ofFn fun i=>(dg b A i.val:Int)
theorem i1 {n:Nat}(h:j<n):(vN b n A)[j]! =(dg b A j:Int):=by
 rw[bK (vN b n A) j h]
 unfold vN
 rw[Nf]
theorem nK {n:Nat}{v w:Vector Int n}(h:∀i,i<n→v[i]! =w[i]!):v=w:=by
 apply Vector.ext
 intro i hi
 have:=h i hi
 rwa[bK v i hi,bK w i hi] at this
theorem pm {n:Nat}{v:Vector Int n}{i j:Nat}{y:Int}(hj:j<n):(v.set! i y)[j]! =if j=i then y else v[j]! :=by
 rw[bK (v.set! i y) j hj,bK v j hj]
 show (v.setIfInBounds i y)[j]=_
 rw[Vector.getElem_setIfInBounds]
 by_cases h:i=j
 ·rw[an h,an h.symm]
 ·rw[az h,az fun e=>h e.symm]
theorem zi {n:Nat}(hb:0<b)(hx:x<b)(_hp:p<n):(vN b n A).set! p (x:Int)=vN b n (up1 b A p x):=by
 apply nK
 intro j hj
 rw[pm hj,i1 hj,i1 hj,dg_up1 hb hx]
 split <;> rfl
theorem GL {n:Nat}(_hb:0<b):vN b n (A % b ^ n)=vN b n A:=by
 apply nK
 intro j hj
 rw[i1 hj,i1 hj,mX hj]
theorem vN_inj {n:Nat}(hA:A<b ^ n)(hB:B<b ^ n)(h:vN b n A=vN b n B):A=B:=by
 apply TO hA hB
 intro j hj
 have e1:=i1 (b:=b) (A:=A) hj
 rw[h,i1 hj] at e1
 omega
theorem rk {n:Nat}:vN b n 0=Vector.replicate n 0:=by
 apply nK
 intro j hj
 rw[i1 hj,bK _ j hj,Vector.getElem_replicate]
 unfold dg
 simp
def fU(b:Nat)(f:Nat→Nat):Nat→Nat
 |0=>0
 |n+1=>fU b f n+f n*b ^ n
theorem BF(hb:0<b){f:Nat→Nat}:∀n,(∀j,j<n→f j<b)→fU b f n<b ^ n
 |0,_=>by simp[fU]
 |n+1,h=>by
  have ih:=BF hb n fun j hj=>h j (by omega)
  have h1:=h n (by omega)
  have h2:(f n+1)*b ^ n≤b*b ^ n:=bY _ h1
  rw[aX,dq] at h2
  rw[cC,bj (b ^ n) b]
  unfold fU
  omega
theorem HX(hb:0<b){f:Nat→Nat}:∀n,(∀j,j<n→f j<b)→∀j,j<n→dg b (fU b f n) j=f j
 |0,_,j,hj=>by omega
 |n+1,h,j,hj=>by
  have h0:∀j,j<n→f j<b:=fun j hj=>h j (by omega)
  have bh:=BF hb n h0
  by_cases z4:j=n
  ·subst z4
   unfold dg fU
   rw[Nh _ _ (bD hb),dE bh,cj,dX (h j (by omega))]
  ·have e:dg b (fU b f (n+1)) j=dg b (fU b f n) j:=by
    rw[←mX (A:=fU b f (n+1)) (k:=n) (by omega),show fU b f (n+1)=fU b f n+f n*b ^ n from rfl,Ng,dX bh]
   rw[e]
   exact HX hb n h0 j (by omega)
theorem vN_of {n:Nat}(hb:0<b)(v:Vector Int n)(h:∀j,j<n→0≤v[j]!∧v[j]! <(b:Int)):∃A,A<b ^ n∧v=vN b n A:=by
 have hf:∀j,j<n→(v[j]!).toNat<b:=fun j hj=>by have:=h j hj;omega
 refine⟨fU b (fun j=>(v[j]!).toNat) n,BF hb n hf,?_⟩
 apply nK
 intro j hj
 rw[i1 hj,HX hb n hf j hj]
 have:=h j hj
 omega
theorem BG {n:Nat}(hb:0<b)(hk:k<n):(vN b n (A % b ^ k)).set! k (dg b A k:Int)=vN b n (A % b ^ (k+1)):=by
 apply nK
 intro j hj
 rw[pm hj,i1 hj,i1 hj]
 by_cases h:j=k
 ·subst h;rw[an rfl,mX (dH _)]
 ·rw[az h]
  rcases bO j k with h1|h1
  ·rw[mX h1,mX (by omega)]
  ·rw[OJ hb h1,OJ hb (by omega)]
theorem dg_hi(hb:0<b):dg b (A / b ^ k*b ^ k) j=if j<k then 0 else dg b A j:=by
 by_cases h:j<k
 ·rw[an h]
  obtain⟨m,rfl⟩:∃m,k=m+1+j:=⟨k - j - 1,by omega⟩
  unfold dg
  rw[gH b (m+1) j,←fa,Nd _ (bD hb),cC,←fa,Nat.mul_mod_left]
 ·rw[az h]
  obtain⟨m,rfl⟩:∃m,j=k+m:=⟨j - k,by omega⟩
  unfold dg
  rw[gH,←gg,←gg,Nd _ (bD hb)]
theorem ND {n:Nat}(hb:0<b)(_hk:k<n):(vN b n (A / b ^ (k+1)*b ^ (k+1))).set! k (dg b A k:Int)=vN b n (A / b ^ k*b ^ k):=by
 apply nK
 intro j hj
 rw[pm hj,i1 hj,i1 hj,dg_hi hb,dg_hi hb]
 by_cases h:j=k
 ·subst h;rw[an rfl,az (u3 _)]
 ·rw[az h]
  by_cases h1:j<k
  ·rw[ifp_,an h1]
  ·rw[ifn_,az h1]
end
end
section
section
variable {R S T:Type}
theorem ie(x y:Option R):cnd true x y=x:=rfl
theorem aP(x y:Option R):cnd false x y=y:=rfl
theorem cnd_and(b c:Bool):cnd b (some c) (some false)=some (b&&c):=by cases b <;> rfl
theorem cnd_or(b c:Bool):cnd b (some true) (some c)=some (b||c):=by cases b <;> rfl
theorem TZ(b:Bool)(x:Option R):cnd b x x=x:=by cases b <;> rfl
theorem TY(b:Bool)(x y:R):cnd b (some x) (some y)=some (bif b then x else y):=by cases b <;> rfl
theorem xe(x:Option R):(bnd x fun a=>some a)=x:=by cases x <;> rfl
theorem jj(p:Prop)[Decidable p](x y:Option R):cnd (decide p) x y=if p then x else y:=by
 by_cases h:p <;> simp[h,cnd]
theorem ba {p:Prop}[Decidable p](x y:Option R)(h:p:=by omega):cnd (decide p) x y=x:=by rw[ck h];rfl
theorem a9 {p:Prop}[Decidable p](x y:Option R)(h:¬p:=by omega):cnd (decide p) x y=y:=by rw[gQ h];rfl
end
theorem subL_to {α:Type}(l:List α)(b:Int)(h:0≤b):Lx l 0 b=l.take b.toNat:=by
 unfold Lx;simp
theorem Lo {z:Int}(h:-9223372036854775808≤z∧z≤9223372036854775807:=by omega):i64.wrap z=z:=rj h.1 h.2
end
theorem wi {S X:Type}{b:S→Option (S⊕X)}(Inv:S→Prop)(μ:S→Nat)(Post:X→Prop)(h:∀s,Inv s→(∃s',b s=some (.inl s')∧Inv s'∧μ s'<μ s)∨∃x,b s=some (.inr x)∧Post x)(s:S)(hs:Inv s):∃x,aL b s=some x∧Post x:=by
 generalize hm:μ s=m
 induction m using Nat.strongRecOn generalizing s with
 |_ m ih=>
  rcases h s hs with⟨s',h1,h2,h3⟩|⟨x,h1,h2⟩
  ·obtain⟨x,h4,h5⟩:=ih (μ s') (by omega) s' h2 rfl
   exact⟨x,(iq h1).trans h4,h5⟩
  ·exact⟨x,eI h1,h2⟩
theorem LT {S X:Type}{b:S→Option (S⊕X)}(G:Nat→S)(n:Nat)(x:X)(hr:∀i,i<n→b (G (i+1))=some (.inl (G i)))(he:b (G 0)=some (.inr x)):aL b (G n)=some x:=by
 induction n with
 |zero=>exact eI he
 |succ n ih=>exact (iq (hr n (dH _))).trans (ih fun i hi=>hr i (by omega))
theorem qB {S X:Type}{b:S→Option (S⊕X)}(G:Nat→S)(m:Nat)(x:X){s0:S}(h0:G 0=s0)(hr:∀i,i<m→b (G i)=some (.inl (G (i+1))))(he:b (G m)=some (.inr x)):aL b s0=some x:=by
 subst h0
 exact lG G 0 m x (il _) (fun i _ hi=>hr i hi) he
theorem So {S X:Type}{b:S→Option (S⊕X)}(G:Nat→S)(n:Nat)(x:X){s0:S}(h0:G n=s0)(hr:∀i,i<n→b (G (i+1))=some (.inl (G i)))(he:b (G 0)=some (.inr x)):aL b s0=some x:=by
 subst h0
 exact LT G n x hr he
theorem gU {n:Nat}(h:n<18446744073709551616:=by omega):u64.wrap (n:Int)=(n:Int):=by
 rw[IntKind.wrap_u64];omega
theorem zm(n:Nat):u32.wrap (n:Int)=((n % 4294967296:Nat):Int):=by
 rw[IntKind.wrap_u32];omega
theorem zk {n:Nat}(h:n<4294967296:=by omega):u32.wrap (n:Int)=(n:Int):=by
 rw[zm,dX h]
theorem zS(k:IntKind)(n s:Nat)(h:s≤k.bits):li k (n:Int) (s:Int)=((n / 2 ^ s:Nat):Int):=by
 unfold li
 rw[aD,qV h]
 have:((2:Int) ^ s)=((2 ^ s:Nat):Int):=by rw[Int.natCast_pow];rfl
 rw[this,Int.fdiv_eq_ediv_of_nonneg _ (Iv _)]
 exact (Nc ..).symm
theorem Sx(n s:Nat)(h:s≤64)(hn:n*2 ^ s<18446744073709551616):vU .u64 (n:Int) (s:Int)=((n*2 ^ s:Nat):Int):=by
 unfold vU
 have e:(IntKind.u64.bits)=64:=rfl
 rw[aD,e,qV h]
 have:((n:Int)*(2:Int) ^ s)=((n*2 ^ s:Nat):Int):=by rw[ob,Int.natCast_pow];rfl
 rw[this,gU hn]
theorem wd(n:Nat):li .u64 (n:Int) (32:Int)=((n / 4294967296:Nat):Int):=zS .u64 n 32 (by decide)
theorem RA(n:Nat):li .u64 (n:Int) (63:Int)=((n / 9223372036854775808:Nat):Int):=zS .u64 n 63 (by decide)
theorem Jv {n:Nat}(h:n<4294967296):vU .u64 (n:Int) (32:Int)=((n*4294967296:Nat):Int):=Sx n 32 (by decide) (by omega)
theorem ior_n {a c s:Nat}(hc:c<2 ^ s)(bh:a*2 ^ s+c<18446744073709551616):ior .u64 ((a*2 ^ s:Nat):Int) (c:Int)=((a*2 ^ s+c:Nat):Int):=by
 unfold ior
 have e:(IntKind.u64.bits)=64:=rfl
 have h1:(BitVec.ofInt 64 ((a*2 ^ s:Nat):Int)).toNat=a*2 ^ s:=by
  rw[BitVec.toNat_ofInt];omega
 have h2:(BitVec.ofInt 64 (c:Int)).toNat=c:=by
  rw[BitVec.toNat_ofInt];omega
 rw[e,BitVec.toNat_or,h1,h2]
 have h3:a*2 ^ s |||c=a*2 ^ s+c:=by
  rw[bj a]
  exact (Nat.two_pow_add_eq_or_of_lt hc a).symm
 rw[h3,gU bh]
theorem Sy(k:IntKind)(a b:Int):ior k a b=ior k b a:=by unfold ior;rw[BitVec.or_comm]
theorem J6 {a c:Nat}(hc:c<4294967296)(ha:a<4294967296):ior .u64 ((a*4294967296:Nat):Int) (c:Int)=((a*4294967296+c:Nat):Int):=ior_n (s:=32) hc (by omega)
theorem bU {z:Int}(h:-9223372036854775808≤z∧z≤9223372036854775807:=by omega):i64.wrap z=z:=Lo h
section
section
variable {md:Md} {ops:Array Oper} {K:List (Nat×D)→Hp→Prop} {os:List Oper} {tm:List (Nat×D)} {hp hp':Hp} {t s:Tmp} {op:Op} {ty:TypeId} {pos:String} {af:Array Edge} {d d2:D} {j:Nat} {want c:Bool}
theorem s1(h:AVC prog tbl md.dr op ty (evD tm) hp (Kq d hp'))(h2:aQ prog tbl md ops K os ((t,d)::tm) hp')(hn:md.nc tbl op=true:=by exact rfl):aQ prog tbl md ops K (⟨some t,op,ty,pos,af,none⟩::os) tm hp:=st tok hn h h2
theorem s0(h:AVC prog tbl md.dr op ty (evD tm) hp (Kq d hp'))(h2:aQ prog tbl md ops K os tm hp')(hn:md.nc tbl op=true:=by exact rfl):aQ prog tbl md ops K (⟨none,op,ty,pos,af,none⟩::os) tm hp:=st_n tok hn h h2
theorem s2(h:AVC prog tbl md.dr op ty (evD tm) hp (Kq d hp'))(hl:d.le d2)(h2:aQ prog tbl md ops K os ((t,d2)::tm) hp')(hn:md.nc tbl op=true:=by exact rfl):aQ prog tbl md ops K (⟨some t,op,ty,pos,af,none⟩::os) tm hp:=st_le tok hn h hl h2
theorem g1(hw:c=want)(h:AVC prog tbl md.dr op ty (evD tm) hp (Kq d hp'))(h2:aQ prog tbl md ops K os ((t,d)::tm) hp')(hj:(ops[j]?).bind (·.dst)=some s:=by exact rfl)(hc:tm.lookup s=some (.e (.lit (.bool c))):=by exact rfl)(hn:md.nc tbl op=true:=by exact rfl):aQ prog tbl md ops K (⟨some t,op,ty,pos,af,some (j,want)⟩::os) tm hp:=Qu tok hn hj hc hw h h2
theorem q1(h:mz prog tbl md ⟨some t,op,ty,pos,af,none⟩ (evD tm) hp d hp')(h2:aQ prog tbl md ops K os ((t,d)::tm) hp'):aQ prog tbl md ops K (⟨some t,op,ty,pos,af,none⟩::os) tm hp:=Js rfl h h2
theorem fzO {α:Type}(c:Cd α){l:List α}{vs ul:List (Nat×List D)}{lv:List (Nat×Nat×Nat×TypeId)}{N n:Nat}(k:Nat)(ts:List Nat)(hn:n=l.length)(h2:aQ prog tbl .seq ops K os (ts.map (fun t=>(t,.e (slE c l)))++tm) ⟨ul,lv,N⟩)(ht:∀t∈ts,tm.lookup t=some (.ow k 0 c.sz n))(hv:vs.lookup k=some (dC ((cW c).f l)):=by exact rfl)(hz:Nat.ble 1 c.sz=true:=by exact rfl)(ss:(vs.filter fun p=>!([k]:List Nat).contains p.1)=ul:=by exact rfl):aQ prog tbl .seq ops K os tm ⟨vs,lv,N⟩:=by
 subst ss
 exact .wk rfl (WkS.frzG c ts hn ht hv hz) h2
theorem all1 {p:Nat→Prop}{a:Nat}(h:p a):∀t∈[a],p t:=by simpa using h
theorem all2 {p:Nat→Prop}{a:Nat}{l:List Nat}(h:p a)(hl:∀t∈l,p t):∀t∈a::l,p t:=by simpa using⟨h,hl⟩
variable {x:Cx} {Q:Exit→List (Nat×D)→Hp→Prop}
theorem rg {n id:Nat}{l:List Oper}(hx:x.N=n)(hN:gr n l.toArray=true)(h:∀K:List (Nat×D)→Hp→Prop,(∀tm hp,Q .normal tm hp→K tm hp)→aQ prog tbl .seq l.toArray K l tm hp):AW prog x (.region id l.toArray false) tm hp Q:=AW.regS tbl (by rw[hx];exact hN) h
theorem rd {n id:Nat}{l:List Oper}(L:List FuncId)(hx:x.N=n)(hN:gr n l.toArray=true)(pM:t6 tbl L l.toArray=true)(h:∀K:List (Nat×D)→Hp→Prop,(∀tm hp,Q .normal tm hp→K tm hp)→aQ prog tbl (.any L) l.toArray K l tm hp):AW prog x (.region id l.toArray true) tm hp Q:=AW.drwS tbl L (by kernel_rfl) (by rw[hx];exact hN) pM h
theorem dw {id:Nat}{l:List Oper}(h:DW prog x l [] tm hp Q):AW prog x (.region id l.toArray true) tm hp Q:=AW.dw (by kernel_rfl) h
theorem dwg {n:Nat}{l:List Oper}{C:List (Nat×Nat)}(L:List FuncId)(p:List Nat)(hx:x.N=n)(hp1:JC p l=true)(hN:gr n (db p C l).toArray=true)(pM:t6 tbl L (db p C l).toArray=true)(h:∀K:List (Nat×D)→Hp→Prop,(∀tm hp,Q .normal tm hp→K tm hp)→aQ prog tbl (.any L) (db p C l).toArray K (db p C l) tm hp):DW prog x l C tm hp Q:=DW.go p hp1 (by rw[hx];exact hN) pM h
def PE(x:Cx){S:Type}(e:Exit)(T:S→List (Nat×D))(H:S→Hp)(y:S)(ex:Exit)(tm:List (Nat×D))(hp:Hp):Prop:=ex=e∧Wk x tm hp (T y) (H y)
def PR(rs:List ResultVar){R:Type}(dR:R→D)(y:R)(ex:Exit)(tm:List (Nat×D))(hp:Hp):Prop:=ex=.ret∧eu tbl rs tm hp (dR y)
def PS {A B:Type}(p:A→Exit→List (Nat×D)→Hp→Prop)(q:B→Exit→List (Nat×D)→Hp→Prop)(y:A⊕B)(ex:Exit)(tm:List (Nat×D))(hp:Hp):Prop:=match y with| .inl a=>p a ex tm hp| .inr b=>q b ex tm hp
theorem PS.l {A B:Type}{p:A→Exit→List (Nat×D)→Hp→Prop}{q:B→Exit→List (Nat×D)→Hp→Prop}{a:A}{ex:Exit}(h:p a ex tm hp):PS p q (.inl a) ex tm hp:=h
theorem PS.r {A B:Type}{p:A→Exit→List (Nat×D)→Hp→Prop}{q:B→Exit→List (Nat×D)→Hp→Prop}{b:B}{ex:Exit}(h:q b ex tm hp):PS p q (.inr b) ex tm hp:=h
theorem PE.i {S:Type}{e:Exit}{T:S→List (Nat×D)}{H:S→Hp}{y:S}(hw:Wk x tm hp (T y) (H y)):PE x e T H y e tm hp:=⟨rfl,hw⟩
theorem PR.i {rs:List ResultVar}{R:Type}{dR:R→D}{y:R}(hw:eu tbl rs tm hp (dR y)):PR rs dR y .ret tm hp:=⟨rfl,hw⟩
theorem jn {c:Code}{Q':Exit→List (Nat×D)→Hp→Prop}(Q:Exit→List (Nat×D)→Hp→Prop)(h:AW prog x c tm hp Q)(hq:∀ex tm hp,Q ex tm hp→Q' ex tm hp):AW prog x c tm hp Q':=AW.mono h hq
theorem lp {c:Code}{S X:Type}{b:S→Option (S⊕X)}{Q:Exit→List (Nat×D)→Hp→Prop}{s:S}{e:X}(T:S→List (Nat×D))(H:S→Hp)(QX:X→Exit→List (Nat×D)→Hp→Prop)(h:aL b s=some e)(hw:Wk x tm hp (T s) (H s))
  (round:∀s y,b s=some y→AW prog x c (T s) (H s) (PS (PE x .normal T H) (fun e ex tm hp=>ex≠.normal∧QX e ex tm hp) y)) (hq:∀ex tm hp,QX e ex tm hp→Q ex tm hp):AW prog x (.loop c) tm hp Q:=
 AW.mono (AW.loopO T H QX (fun s y hy=>AW.mono (round s y hy) fun ex tm' hp' h=>by cases y <;> exact h) h hw) hq
end
end
section
section
variable {md:Md} {ops:Array Oper} {K:List (Nat×D)→Hp→Prop} {os:List Oper} {tm:List (Nat×D)} {hp hp':Hp} {t s:Tmp} {op:Op} {ty:TypeId} {pos:String} {af:Array Edge} {d d2:D} {j:Nat} {want c:Bool}
variable {dr:Bool} {ev:List (Nat×D)}
theorem Vl {k:IntKind}{n:Int}:AVC prog tbl dr (.assign (.const (.int k n))) ty (evD ev) hp (Kq (dI k n) hp):=Ef
theorem Nw {b:Bool}:AVC prog tbl dr (.assign (.const (.bool b))) ty (evD ev) hp (Kq (dB b) hp):=Ef
theorem UU {k:IntKind}{n:Int}:AVC prog tbl dr (.move (.const (.int k n))) ty (evD ev) hp (Kq (dI k n) hp):=Ax
theorem U1 {s tt:TypeId}{x:Operand}{i j:TyE}{f o k off:Nat}{fs:List (Nat×TypeId)}{ev:Operand→D}(hs:tbl s=some i:=by exact tbI)(hi:i.ty=.struct fs:=by exact rfl)(hf:fs[f]? =some (o,tt):=by exact rfl)(hx:ev x=.pt k off:=by exact rfl)(ht:tbl tt=some j:=by exact tbI)(hz:Nat.ble 1 j.size=true:=by exact rfl):AVC prog tbl dr (.fieldAddr s x f) ty ev hp (Kq (.pt k (off+o)) hp):=T_faP hs ht hi hf hz hx
theorem U3 {s tt:TypeId}{x:Operand}{i j:TyE}{f o off:Nat}{xs:List E}{fs:List (Nat×TypeId)}{ev:Operand→D}(hs:tbl s=some i:=by exact tbI)(hi:i.ty=.struct fs:=by exact rfl)(hf:fs[f]? =some (o,tt):=by exact rfl)(hx:ev x=.fp xs off:=by exact rfl)(ht:tbl tt=some j:=by exact tbI)(hz:Nat.ble 1 j.size=true:=by exact rfl):AVC prog tbl dr (.fieldAddr s x f) ty ev hp (Kq (.fp xs (off+o)) hp):=T_faF hs ht hi hf hz hx
theorem U0 {t e:TypeId}{x:Operand}{i j:TyE}{n:Nat}{xs:List E}{ev:Operand→D}(ht:tbl t=some i:=by exact tbI)(hi:i.ty=.slice e:=by exact rfl)(he:tbl e=some j:=by exact tbI)(hx:(ev x).asSl j.size=some (n,xs):=by exact rfl):AVC prog tbl dr (.call ⟨.builtin .len,#[x],#[t]⟩) ty ev hp (Kq (dI .i64 n) hp):=UE ht he hi hx
theorem UZ {t e:TypeId}{x:Operand}{i j:TyE}{k off z n:Nat}{ev:Operand→D}(ht:tbl t=some i:=by exact tbI)(hi:i.ty=.slice e:=by exact rfl)(he:tbl e=some j:=by exact tbI)(hx:ev x=.ow k off z n:=by exact rfl):AVC prog tbl dr (.call ⟨.builtin .len,#[x],#[t]⟩) ty ev hp (Kq (dI .i64 n) hp):=Ay ht he hi hx
theorem K_shl {t t':TypeId}{x y:Operand}{k k':IntKind}{a b:Int}{ev:Operand→D}(hx:ev x=dI k a:=by exact rfl)(hy:ev y=dI k' b:=by exact rfl)(hb:0≤b:=by decide):AVC prog tbl dr (.binOp .shl t x y t') ty ev hp (Kq (dI k (vU k a b)) hp):=O5 hb hx hy
theorem K_shr {t t':TypeId}{x y:Operand}{k k':IntKind}{a b:Int}{ev:Operand→D}(hx:ev x=dI k a:=by exact rfl)(hy:ev y=dI k' b:=by exact rfl)(hb:0≤b:=by decide):AVC prog tbl dr (.binOp .shr t x y t') ty ev hp (Kq (dI k (li k a b)) hp):=O4 hb hx hy
theorem K_quo {t t':TypeId}{x y:Operand}{k:IntKind}{a b:Int}{ev:Operand→D}(hx:ev x=dI k a:=by exact rfl)(hy:ev y=dI k b:=by exact rfl)(hb:b≠0:=by decide):AVC prog tbl dr (.binOp .quo t x y t') ty ev hp (Kq (dI k (k.wrap (a.tdiv b))) hp):=Gs hb hx hy
theorem K_rem {t t':TypeId}{x y:Operand}{k:IntKind}{a b:Int}{ev:Operand→D}(hx:ev x=dI k a:=by exact rfl)(hy:ev y=dI k b:=by exact rfl)(hb:b≠0:=by decide):AVC prog tbl dr (.binOp .rem t x y t') ty ev hp (Kq (dI k (a.tmod b)) hp):=Ec hb hx hy
theorem sa(h2:aQ prog tbl md ops K os ((t,d)::tm) hp')(h:AVC prog tbl md.dr op ty (evD tm) hp (Kq d hp'):=by (first|exact T_mv|exact lq|exact Vl|exact Nw|exact A_str|exact UU|exact M_bool|exact M_str|exact Ef|exact Ax|exact O6|exact Nj|exact T_nilF|exact Pe|exact Ph|exact O2|exact O8|exact Pf|exact O7|exact O9|exact Pb|exact Pc|exact Pd|exact IC|exact IB|exact IF qw|exact IE qw|exact UN|exact T_or|exact UC|exact UD|exact K_shl|exact K_shr|exact K_quo|exact K_rem|exact U1|exact U3|exact UJ tbI tbI|exact T_cvS tbI tbI|exact U0|exact ID tbI|exact Nk tbI|exact UZ|exact T_min|exact T_max|exact UM))(hn:md.nc tbl op=true:=by exact rfl):aQ prog tbl md ops K (⟨some t,op,ty,pos,af,none⟩::os) tm hp:=st tok hn h h2
theorem ga(hw:c=want)(h2:aQ prog tbl md ops K os ((t,d)::tm) hp')(hj:(ops[j]?).bind (·.dst)=some s:=by exact rfl)(hc:tm.lookup s=some (.e (.lit (.bool c))):=by exact rfl)(h:AVC prog tbl md.dr op ty (evD tm) hp (Kq d hp'):=by (first|exact T_mv|exact lq|exact Vl|exact Nw|exact A_str|exact UU|exact M_bool|exact M_str|exact Ef|exact Ax|exact O6|exact Nj|exact T_nilF|exact Pe|exact Ph|exact O2|exact O8|exact Pf|exact O7|exact O9|exact Pb|exact Pc|exact Pd|exact IC|exact IB|exact IF qw|exact IE qw|exact U1|exact U3|exact UJ tbI tbI|exact U0|exact ID tbI))(hn:md.nc tbl op=true:=by exact rfl):aQ prog tbl md ops K (⟨some t,op,ty,pos,af,some (j,want)⟩::os) tm hp:=Qu tok hn hj hc hw h h2
theorem pn {ev:Operand→D}:((([]:List Operand).map ev).map D.ex).all D.pure=true:=rfl
theorem pA {ev:Operand→D}{a:Operand}{la:List Operand}(h:(ev a).ex.pure=true)(hl:((la.map ev).map D.ex).all D.pure=true):(((a::la).map ev).map D.ex).all D.pure=true:=by
 rw[gZ,gZ,jL,h,hl];rfl
theorem lC {ev:Operand→D}{a:Operand}{la:List Operand}{d':D}{ds':List D}(h:(ev a).ex.le d')(hl:leL ((la.map ev).map D.ex) ds'):leL (((a::la).map ev).map D.ex) (d'::ds'):=⟨h,hl⟩
theorem cq {f:FuncId}{la:List Operand}{ts:Array TypeId}{ds:List D}{r:D}(hc:ar prog f ds r)(h2:aQ prog tbl md ops K os ((t,r)::tm) hp)(hp1:((la.map (evD tm)).map D.ex).all D.pure=true:=by repeat (first|exact pn|refine pA (gW _ _) ?_|refine pA rfl ?_))(hl:leL ((la.map (evD tm)).map D.ex) ds:=by repeat (first|exact lAn|refine lC (rU _ _) ?_|refine lC (ao _) ?_))(hr:r.pure=true∨∃ds,r=.tu ds:=by (first|exact .inl (mr _ _)|exact .inl rfl|exact .inr ⟨_,rfl⟩)):
  aQ prog tbl md ops K (⟨some t,.call ⟨.value (.func f),la.toArray,ts⟩,ty,pos,af,none⟩::os) tm hp:=sq tok hc hp1 hl hr h2
theorem sc {x:Operand}{f:FuncId}{la:List Operand}{ts:Array TypeId}{ds:List D}{r:D}(hc:ar prog f ds r)(h2:aQ prog tbl md ops K os ((t,r)::tm) hp)(uL:evD tm x=.e (.lit (.func (.func f) #[] #[])):=by exact rfl)(hp1:((la.map (evD tm)).map D.ex).all D.pure=true:=by repeat (first|exact pn|refine pA (gW _ _) ?_|refine pA rfl ?_))(hl:leL ((la.map (evD tm)).map D.ex) ds:=by repeat (first|exact lAn|refine lC (rU _ _) ?_|refine lC (ao _) ?_))(hr:r.pure=true∨∃ds,r=.tu ds:=by (first|exact .inl (mr _ _)|exact .inl rfl|exact .inr ⟨_,rfl⟩))(hn:md.nc tbl (.call ⟨.value x,la.toArray,ts⟩)=true:=by exact rfl):
  aQ prog tbl md ops K (⟨some t,.call ⟨.value x,la.toArray,ts⟩,ty,pos,af,none⟩::os) tm hp:=st tok hn (Az uL hc hp1 hl hr) h2
variable {x:Cx} {Q:Exit→List (Nat×D)→Hp→Prop}
theorem rq {n id:Nat}{l:List Oper}(hx:x.N=n)(h:∀K:List (Nat×D)→Hp→Prop,(∀tm hp,Q .normal tm hp→K tm hp)→aQ prog tbl .seq l.toArray K l tm hp)(hN:gr n l.toArray=true:=by kernel_rfl):AW prog x (.region id l.toArray false) tm hp Q:=rg hx hN h
theorem rqd {n id:Nat}{l:List Oper}(L:List FuncId)(hx:x.N=n)(h:∀K:List (Nat×D)→Hp→Prop,(∀tm hp,Q .normal tm hp→K tm hp)→aQ prog tbl (.any L) l.toArray K l tm hp)(hN:gr n l.toArray=true:=by kernel_rfl)(pM:t6 tbl L l.toArray=true:=by kernel_rfl):AW prog x (.region id l.toArray true) tm hp Q:=rd L hx hN pM h
theorem rv1 {q:ResultVar}{r:D}(h:eu tbl [q] tm hp r:=by (first|exact eu.mk1 (bI rfl (.inr (.inr ⟨_,(ao _),rfl,rfl⟩)))|exact eu.mk1 (qx rfl tbI rfl rfl (ltb rfl) (Cd.h _ _) (.inr (.inr ⟨_,(ao _),mr _ _,rfl⟩))))):eu tbl [q] tm hp r:=h
theorem rv2 {q q':ResultVar}{r:D}(h:eu tbl [q,q'] tm hp r:=by (first|exact eu.mk2 (bI rfl (bI rfl (.inr ⟨_,_,(ao _),(ao _),⟨rfl,rfl⟩,rfl⟩)))|exact eu.mk2 (qx rfl tbI rfl rfl (ltb rfl) (Cd.h _ _) (bI rfl (.inr ⟨_,_,(ao _),(ao _),⟨mr _ _,rfl⟩,rfl⟩)))|exact eu.mk2 (qx rfl tbI rfl rfl (ltb rfl) (Cd.h _ _) (qx rfl tbI rfl rfl (ltb rfl) (Cd.h _ _) (.inr ⟨_,_,(ao _),(ao _),⟨mr _ _,mr _ _⟩,rfl⟩))))):eu tbl [q,q'] tm hp r:=h
theorem pe0 {S:Type}{e:Exit}{T:S→List (Nat×D)}{H:S→Hp}{y:S}{vars':List (Nat×List D)}{eJ:List (Nat×Nat×Nat×TypeId)}{m:Nat}{tm':List (Nat×D)}(h0:x.hp0=⟨[],[],0⟩)(os:List Nat)(hT:T y=tm':=by exact rfl)(hH:H y=⟨vars',eJ,m⟩:=by exact rfl)(ht:wkT (sg 0 os) m tm tm':=by repeat (first|exact wTn|refine wR rfl ?_|refine wG rfl (ao _) ?_))(hv:wkV (sg 0 os) m hp.vars vars':=by repeat (first|exact wVn|refine vC rfl ?_|refine vR rfl ?_))(hl:wkL (sg 0 os) m hp.live eJ:=by repeat (first|exact wLn|refine wL rfl rfl ?_))(tf:os.Nodup:=by decide)(hm:m=0+os.length:=by exact rfl):PE x e T H y e tm hp:=PE.i (by rw[hT,hH];exact wk h0 os ht hv hl tf hm)
theorem rs {n id:Nat}{l:List Oper}{b:Code}(hx:x.N=n)(h:∀K:List (Nat×D)→Hp→Prop,(∀tm hp,AW prog x b tm hp Q→K tm hp)→aQ prog tbl .seq l.toArray K l tm hp)(hN:gr n l.toArray=true:=by kernel_rfl):AW prog x (.seq (.region id l.toArray false) b) tm hp Q:=AW.seq (rg hx hN fun K hK=>h K hK)
theorem rsd {n id:Nat}{l:List Oper}{b:Code}(L:List FuncId)(hx:x.N=n)(h:∀K:List (Nat×D)→Hp→Prop,(∀tm hp,AW prog x b tm hp Q→K tm hp)→aQ prog tbl (.any L) l.toArray K l tm hp)(hN:gr n l.toArray=true:=by kernel_rfl)(pM:t6 tbl L l.toArray=true:=by kernel_rfl):AW prog x (.seq (.region id l.toArray true) b) tm hp Q:=AW.seq (rd L hx hN pM fun K hK=>h K hK)
theorem ra {n id:Nat}{l:List Oper}{b:Code}{tm':List (Nat×D)}(hx:x.N=n)(h2:AW prog x b tm' hp' Q)(h:∀K:List (Nat×D)→Hp→Prop,K tm' hp'→aQ prog tbl .seq l.toArray K l tm hp:=by (intro K hK;(repeat (refine sa ?_));exact .nil hK))(hN:gr n l.toArray=true:=by kernel_rfl):AW prog x (.seq (.region id l.toArray false) b) tm hp Q:=rs hx (fun K hK=>h K (hK _ _ h2)) hN
theorem rb {n id:Nat}{l:List Oper}{tm':List (Nat×D)}(hx:x.N=n)(h2:Q .normal tm' hp')(h:∀K:List (Nat×D)→Hp→Prop,K tm' hp'→aQ prog tbl .seq l.toArray K l tm hp:=by (intro K hK;(repeat (refine sa ?_));exact .nil hK))(hN:gr n l.toArray=true:=by kernel_rfl):AW prog x (.region id l.toArray false) tm hp Q:=rq hx (fun K hK=>h K (hK _ _ h2)) hN
theorem cdh {R:Type}{y z:Option R}{r:R}{c:Operand}{c1 c2:Code}{b:Bool}(h:cnd b y z=some r)(hc:evD tm c=.e (.lit (.bool b)))(ht:b=true→y=some r→AW prog x c1 tm hp Q)(hf:b=false→z=some r→AW prog x c2 tm hp Q):AW prog x (.cond c c1 c2) tm hp Q:=AW.condS hc (fun hb=>ht hb (TX hb h)) fun hb=>hf hb (T0 hb h)
theorem scb {R S:Type}{g:Option S}{k:S→Option R}{z:R}{x:Operand}{f:FuncId}{la:List Operand}{ts:Array TypeId}{ds:List D}{dr:S→D}(h:bnd g k=some z)(w:∀{y:S},g=some y→ar prog f ds (dr y))(h2:∀y,k y=some z→aQ prog tbl md ops K os ((t,dr y)::tm) hp)(uL:evD tm x=.e (.lit (.func (.func f) #[] #[])):=by exact rfl)(hp1:((la.map (evD tm)).map D.ex).all D.pure=true:=by repeat (first|exact pn|refine pA (gW _ _) ?_|refine pA rfl ?_))(hl:leL ((la.map (evD tm)).map D.ex) ds:=by repeat (first|exact lAn|refine lC (rU _ _) ?_|refine lC (ao _) ?_))(hr:∀y,(dr y).pure=true∨∃ds,dr y=.tu ds:=by (intro y;first|exact .inl (mr _ _)|exact .inl rfl|exact .inr ⟨_,rfl⟩))(hn:md.nc tbl (.call ⟨.value x,la.toArray,ts⟩)=true:=by exact rfl):
  aQ prog tbl md ops K (⟨some t,.call ⟨.value x,la.toArray,ts⟩,ty,pos,af,none⟩::os) tm hp:=by
 obtain⟨y,h3,h4⟩:=ai h
 exact st tok hn (Az uL (w h3) hp1 hl (hr y)) (h2 y h4)
theorem cqb {R S:Type}{g:Option S}{k:S→Option R}{z:R}{f:FuncId}{la:List Operand}{ts:Array TypeId}{ds:List D}{dr:S→D}(h:bnd g k=some z)(w:∀{y:S},g=some y→ar prog f ds (dr y))(h2:∀y,k y=some z→aQ prog tbl md ops K os ((t,dr y)::tm) hp)(hp1:((la.map (evD tm)).map D.ex).all D.pure=true:=by repeat (first|exact pn|refine pA (gW _ _) ?_|refine pA rfl ?_))(hl:leL ((la.map (evD tm)).map D.ex) ds:=by repeat (first|exact lAn|refine lC (rU _ _) ?_|refine lC (ao _) ?_))(hr:∀y,(dr y).pure=true∨∃ds,dr y=.tu ds:=by (intro y;first|exact .inl (mr _ _)|exact .inl rfl|exact .inr ⟨_,rfl⟩)):
  aQ prog tbl md ops K (⟨some t,.call ⟨.value (.func f),la.toArray,ts⟩,ty,pos,af,none⟩::os) tm hp:=by
 obtain⟨y,h3,h4⟩:=ai h
 exact sq tok (w h3) hp1 hl (hr y) (h2 y h4)
theorem bB {f : FuncId} {fn : Func} {c : Code} {ds : List D} {r : D} {rs : List ResultVar} {tm0 : List (Nat × D)} (h : ∀ x : Cx, x.N = fn.ntmps → x.hp0 = ⟨[], [], 0⟩ → AW prog x c tm0 ⟨[], [], 0⟩ fun ex tm hp => match ex with | .normal | .ret => eu tbl rs tm hp r | _ => False) (hf : prog.funcs[f]? = some fn) (hb : fn.body = some c := by exact rfl) (qH : (fn.name == "runtime.NumGoroutine") = false := by exact rfl) (hN : Nat.ble ds.length fn.ntmps = true := by exact rfl) (hrs : fn.results.toList = rs := by exact rfl) (fh : dv 0 ds = tm0 := by (simp only [dv, Nat.reduceAdd, cj]; rfl)) : ar prog f ds r := ar.of tok hf hb qH (cD hN) hrs (by rw [fh]; exact h)
end
end
section
variable {md:Md} {ops:Array Oper} {K:List (Nat×D)→Hp→Prop} {os:List Oper} {tm:List (Nat×D)} {hp hp':Hp} {t s:Tmp} {op:Op} {ty:TypeId} {pos:String} {af:Array Edge} {d d2:D} {j:Nat} {want c:Bool}
variable {dr:Bool} {ev:Operand→D}
theorem KT_T {cn x y:Operand}{b:Bool}(hc:ev cn=dB b:=by exact rfl)(h:ev x=d:=by exact rfl)(hb:b=true:=by (with_reducible first|rfl|assumption)):AVC prog tbl dr (.pick cn x y) ty ev hp (Kq d hp):=vJ hb hc h
theorem KT_F {cn x y:Operand}{b:Bool}(hc:ev cn=dB b:=by exact rfl)(h:ev y=d:=by exact rfl)(hb:b=false:=by (with_reducible first|rfl|assumption)):AVC prog tbl dr (.pick cn x y) ty ev hp (Kq d hp):=tT hb hc h
theorem KT_S {x y:Operand}{t e:TypeId}{i j:TyE}{n:Nat}{xs:List E}{k:IntKind}{v:Int}(ht:tbl t=some i:=by exact tbI)(hi:i.ty=.slice e:=by exact rfl)(he:tbl e=some j:=by exact tbI)(hx:(ev x).asSl j.size=some (n,xs):=by exact rfl)(hy:ev y=dI k v:=by exact rfl)(hb:0≤v∧v<(n:Int):=by assumption):AVC prog tbl dr (.indexAddr t x y) ty ev hp (Kq (.fp xs (v.toNat*j.size)) hp):=UH hb ht he hi hx hy
theorem KT_A {x y:Operand}{t e:TypeId}{i j:TyE}{n m off:Nat}{k:IntKind}{v:Int}(ht:tbl t=some i:=by exact tbI)(hi:i.ty=.arr n e:=by exact rfl)(he:tbl e=some j:=by exact tbI)(hx:ev x=.pt m off:=by exact rfl)(hy:ev y=dI k v:=by exact rfl)(hb:0≤v∧v<(n:Int):=by (first|assumption|decide)):AVC prog tbl dr (.indexAddr t x y) ty ev hp (Kq (.pt m (off+v.toNat*j.size)) hp):=s8 hb ht he hi hx hy
theorem JM(h2:aQ prog tbl md ops K os ((t,.tu [])::tm) hp)(hj:(ops[j]?).bind (·.dst)=some s:=by exact rfl)(hc:tm.lookup s=some (.e (.lit (.bool c))):=by exact rfl)(hw:c= !want:=by (first|(show _=false;with_reducible first|rfl|assumption)|(show _=true;with_reducible first|rfl|assumption))):aQ prog tbl md ops K (⟨some t,op,ty,pos,af,some (j,want)⟩::os) tm hp:=LL hj hc hw h2
theorem KV_i {α:Type}{x:Operand}{c1:Cd α}{k N:Nat}{b:α}{vs:List (Nat×List D)}{lv:List (Nat×Nat×Nat×TypeId)}{t:TypeId}{i:TyE}(hx:ev x=.pt k 0:=by exact rfl)(hv:vs.lookup k=some (dC (c1.f b)):=by exact rfl)(ht:tbl t=some i:=by exact tbI)(hg:i.ty.agg=true:=by exact rfl)(hz:c1.sz=i.size:=by exact rfl)(hk:Nat.ble (k+1) N=true:=by exact rfl):AVC prog tbl dr (.load t x) ty ev ⟨vs,lv,N⟩ (Kq (dG c1 b) ⟨vs,lv,N⟩):=wz (a8.id _ _) ht hg hz hx hv hk
theorem KV_s {α:Type}{x y:Operand}{c1:Cd α}{k N:Nat}{b b':α}{vs:List (Nat×List D)}{lv:List (Nat×Nat×Nat×TypeId)}{t:TypeId}{i:TyE}(hx:ev x=.pt k 0:=by exact rfl)(hv:vs.lookup k=some (dC (c1.f b)):=by exact rfl)(ht:tbl t=some i:=by exact tbI)(hz:c1.sz=i.size:=by exact rfl)(hy:(ev y).cells=some (dC (c1.f b')):=by exact rfl):AVC prog tbl dr (.store t x y) ty ev ⟨vs,lv,N⟩ (Kq .top ⟨(k,dC (c1.f b'))::vs,lv,N⟩):=s6 (a8.id _ _) ht hy hz hx hv
theorem KV_l {α:Type}[Inhabited α]{x:Operand}{F:List E}{c1:Cd α}{m o n k N off:Nat}{b:Vector α m}{F':Vector α m→List E}{vs:List (Nat×List D)}{lv:List (Nat×Nat×Nat×TypeId)}{t:TypeId}{i:TyE}{e:E}(L:a8 F (cA m c1) o b F')(ht:tbl t=some i:=by exact tbI)(hg:i.ty.agg=false:=by exact rfl)(hx:ev x=.pt k off:=by exact rfl)(hv:vs.lookup k=some (dC F):=by exact rfl)(ho:off=o+n*c1.sz:=by exact rfl)(he:c1.f b[n]! =[e]:=by exact rfl)(hk:Nat.ble (k+1) N=true:=by exact rfl)(hn:n<m:=by (first|assumption|omega)):AVC prog tbl dr (.load t x) ty ev ⟨vs,lv,N⟩ (Kq (.e e) ⟨vs,lv,N⟩):=tU (a8.comp L (a8.vec c1 b n hn) (fun _=>rfl)) ht he hg (ho▸hx) hv hk
theorem nl {R:List (Nat×D)→Hp→Prop}(hK:∀tm hp,R tm hp→K tm hp)(h2:R tm hp):aQ prog tbl md ops K [] tm hp:=.nil (hK _ _ h2)
theorem gcl {x:Operand}{f:FuncId}{la:List Operand}{ts:Array TypeId}{ds:List D}{r:D}(hc:ar prog f ds r)(h2:aQ prog tbl md ops K os ((t,r)::tm) hp)(uL:evD tm x=.e (.lit (.func (.func f) #[] #[])):=by exact rfl)(hp1:((la.map (evD tm)).map D.ex).all D.pure=true:=by repeat (first|exact pn|refine pA (gW _ _) ?_|refine pA rfl ?_))(hl:leL ((la.map (evD tm)).map D.ex) ds:=by repeat (first|exact lAn|refine lC (rU _ _) ?_|refine lC (ao _) ?_))(hr:r.pure=true∨∃ds,r=.tu ds:=by (first|exact .inl (mr _ _)|exact .inl rfl|exact .inr ⟨_,rfl⟩))(hj:(ops[j]?).bind (·.dst)=some s:=by exact rfl)(hg:tm.lookup s=some (.e (.lit (.bool c))):=by exact rfl)(hw:c=want:=by (with_reducible first|rfl|assumption))(hn:md.nc tbl (.call ⟨.value x,la.toArray,ts⟩)=true:=by exact rfl):aQ prog tbl md ops K (⟨some t,.call ⟨.value x,la.toArray,ts⟩,ty,pos,af,some (j,want)⟩::os) tm hp:=Qu tok hn hj hg hw (Az uL hc hp1 hl hr) h2
theorem gcb {R S:Type}{g:Option S}{k:S→Option R}{z:R}{x:Operand}{f:FuncId}{la:List Operand}{ts:Array TypeId}{ds:List D}{dr:S→D}(h:bnd g k=some z)(w:∀{y:S},g=some y→ar prog f ds (dr y))(h2:∀y,k y=some z→aQ prog tbl md ops K os ((t,dr y)::tm) hp)(uL:evD tm x=.e (.lit (.func (.func f) #[] #[])):=by exact rfl)(hp1:((la.map (evD tm)).map D.ex).all D.pure=true:=by repeat (first|exact pn|refine pA (gW _ _) ?_|refine pA rfl ?_))(hl:leL ((la.map (evD tm)).map D.ex) ds:=by repeat (first|exact lAn|refine lC (rU _ _) ?_|refine lC (ao _) ?_))(hr:∀y,(dr y).pure=true∨∃ds,dr y=.tu ds:=by (intro y;first|exact .inl (mr _ _)|exact .inl rfl|exact .inr ⟨_,rfl⟩))(hj:(ops[j]?).bind (·.dst)=some s:=by exact rfl)(hg:tm.lookup s=some (.e (.lit (.bool c))):=by exact rfl)(hw:c=want:=by (with_reducible first|rfl|assumption))(hn:md.nc tbl (.call ⟨.value x,la.toArray,ts⟩)=true:=by exact rfl):aQ prog tbl md ops K (⟨some t,.call ⟨.value x,la.toArray,ts⟩,ty,pos,af,some (j,want)⟩::os) tm hp:=by
 obtain⟨y,h3,h4⟩:=ai h
 exact Qu tok hn hj hg hw (Az uL (w h3) hp1 hl (hr y)) (h2 y h4)
end
section
variable {x:Cx} {tm:List (Nat×D)} {hp hp':Hp} {Q:Exit→List (Nat×D)→Hp→Prop}
theorem bX {R:Type}{b:Bool}{y z:Option R}{r:R}(h:cnd b y z=some r):(b=true∧y=some r)∨(b=false∧z=some r):=by cases b <;> simpa[cnd] using h
theorem wk0 {tm':List (Nat×D)}{vars':List (Nat×List D)}{eJ:List (Nat×Nat×Nat×TypeId)}{m:Nat}(h0:x.hp0=⟨[],[],0⟩)(os:List Nat)(ht:wkT (sg 0 os) m tm tm':=by repeat (first|exact wTn|refine wR rfl ?_))(hv:wkV (sg 0 os) m hp.vars vars':=by repeat (first|exact wVn|refine vC rfl ?_|refine vR rfl ?_))(hl:wkL (sg 0 os) m hp.live eJ:=by repeat (first|exact wLn|refine wL rfl rfl ?_))(tf:os.Nodup:=by decide)(hm:m=0+os.length:=by exact rfl):Wk x tm hp tm' ⟨vars',eJ,m⟩:=wk h0 os ht hv hl tf hm
theorem pe1 {S:Type}{e:Exit}{T:S→List (Nat×D)}{H:S→Hp}{a:S}{vars':List (Nat×List D)}{eJ:List (Nat×Nat×Nat×TypeId)}{m:Nat}{tm':List (Nat×D)}{y:S}(h:some a=some y)(h0:x.hp0=⟨[],[],0⟩)(os:List Nat)(hT:T a=tm':=by exact rfl)(hH:H a=⟨vars',eJ,m⟩:=by exact rfl)(ht:wkT (sg 0 os) m tm tm':=by repeat (first|exact wTn|refine wR rfl ?_|refine wG rfl (ao _) ?_))(hv:wkV (sg 0 os) m hp.vars vars':=by repeat (first|exact wVn|refine vC rfl ?_|refine vR rfl ?_))(hl:wkL (sg 0 os) m hp.live eJ:=by repeat (first|exact wLn|refine wL rfl rfl ?_))(tf:os.Nodup:=by decide)(hm:m=0+os.length:=by exact rfl):PE x e T H y e tm hp:=by cases h;exact pe0 h0 os hT hH ht hv hl tf hm
theorem pel {S:Type}{e:Exit}{T:S→List (Nat×D)}{H:S→Hp}{a:S}{vars':List (Nat×List D)}{eJ:List (Nat×Nat×Nat×TypeId)}{m:Nat}{tm':List (Nat×D)}{B:Type}{q:B→Exit→List (Nat×D)→Hp→Prop}{y:S⊕B}(h:some (.inl a)=some y)(h0:x.hp0=⟨[],[],0⟩)(os:List Nat)(hT:T a=tm':=by exact rfl)(hH:H a=⟨vars',eJ,m⟩:=by exact rfl)(ht:wkT (sg 0 os) m tm tm':=by repeat (first|exact wTn|refine wR rfl ?_|refine wG rfl (ao _) ?_))(hv:wkV (sg 0 os) m hp.vars vars':=by repeat (first|exact wVn|refine vC rfl ?_|refine vR rfl ?_))(hl:wkL (sg 0 os) m hp.live eJ:=by repeat (first|exact wLn|refine wL rfl rfl ?_))(tf:os.Nodup:=by decide)(hm:m=0+os.length:=by exact rfl):PS (PE x e T H) q y e tm hp:=by cases h;exact pe0 h0 os hT hH ht hv hl tf hm
theorem per {S:Type}{T:S→List (Nat×D)}{H:S→Hp}{a:S}{vars':List (Nat×List D)}{eJ:List (Nat×Nat×Nat×TypeId)}{m:Nat}{tm':List (Nat×D)}{A:Type}{p:A→Exit→List (Nat×D)→Hp→Prop}{y:A⊕S}{id:Nat}(h:some (.inr a)=some y)(h0:x.hp0=⟨[],[],0⟩)(os:List Nat)(hT:T a=tm':=by exact rfl)(hH:H a=⟨vars',eJ,m⟩:=by exact rfl)(ht:wkT (sg 0 os) m tm tm':=by repeat (first|exact wTn|refine wR rfl ?_|refine wG rfl (ao _) ?_))(hv:wkV (sg 0 os) m hp.vars vars':=by repeat (first|exact wVn|refine vC rfl ?_|refine vR rfl ?_))(hl:wkL (sg 0 os) m hp.live eJ:=by repeat (first|exact wLn|refine wL rfl rfl ?_))(tf:os.Nodup:=by decide)(hm:m=0+os.length:=by exact rfl):PS p (fun z ex tm hp=>ex≠Exit.normal∧PE x (.exit id) T H z ex tm hp) y (.exit id) tm hp:=by cases h;exact⟨by nofun,pe0 h0 os hT hH ht hv hl tf hm⟩
theorem peq {S:Type}{T:S→List (Nat×D)}{H:S→Hp}{a:S}{vars':List (Nat×List D)}{eJ:List (Nat×Nat×Nat×TypeId)}{m:Nat}{tm':List (Nat×D)}{A B:Type}{p:A→Exit→List (Nat×D)→Hp→Prop}{q:B→Exit→List (Nat×D)→Hp→Prop}{y:A⊕(B⊕S)}{id:Nat}(h:some (.inr (.inr a))=some y)(h0:x.hp0=⟨[],[],0⟩)(os:List Nat)(hT:T a=tm':=by exact rfl)(hH:H a=⟨vars',eJ,m⟩:=by exact rfl)(ht:wkT (sg 0 os) m tm tm':=by repeat (first|exact wTn|refine wR rfl ?_|refine wG rfl (ao _) ?_))(hv:wkV (sg 0 os) m hp.vars vars':=by repeat (first|exact wVn|refine vC rfl ?_|refine vR rfl ?_))(hl:wkL (sg 0 os) m hp.live eJ:=by repeat (first|exact wLn|refine wL rfl rfl ?_))(tf:os.Nodup:=by decide)(hm:m=0+os.length:=by exact rfl):PS p (fun z ex tm hp=>ex≠Exit.normal∧PS q (PE x (.exit id) T H) z ex tm hp) y (.exit id) tm hp:=by cases h;exact⟨by nofun,pe0 h0 os hT hH ht hv hl tf hm⟩
theorem lw0 {S:Type}{e:Exit}{T:S→List (Nat×D)}{H:S→Hp}{y:S}{c:Code}{Q0:Exit→List (Nat×D)→Hp→Prop}(h2:AW prog x c (T y) (H y) Q)(hQ:∀tm hp,AW prog x c tm hp Q→Q0 e tm hp:=by (intro _ _ hq;(try dsimp only);(try simp only[fS,reduceIte,Nat.reduceEqDiff,reduceCtorEq]);exact hq)):∀ex tm hp,PE x e T H y ex tm hp→Q0 ex tm hp:=by
 rintro ex tm hp ⟨rfl,hw⟩
 exact hQ _ _ (AW.weak hw h2)
theorem rtv {R:Type}{a r:R}{q:ResultVar}{f:R→D}(h:some a=some r)(hq:eu tbl [q] tm hp (f a):=by exact rv1):eu tbl [q] tm hp (f r):=by cases h;exact hq
theorem lwr {S:Type}{e:Exit}{T:S→List (Nat×D)}{H:S→Hp}{y:S}{A:Type}{p:A→Exit→List (Nat×D)→Hp→Prop}{c:Code}{Q0:Exit→List (Nat×D)→Hp→Prop}(h2:AW prog x c (T y) (H y) Q)(hQ:∀tm hp,AW prog x c tm hp Q→Q0 e tm hp:=by (intro _ _ hq;(try dsimp only);(try simp only[fS,reduceIte,Nat.reduceEqDiff,reduceCtorEq]);exact hq)):∀ex tm hp,PS p (PE x e T H) (.inr y) ex tm hp→Q0 ex tm hp:=lw0 h2 hQ
end
end
end Go.Proofs.YtgfcnncojhkcoaaGreat
