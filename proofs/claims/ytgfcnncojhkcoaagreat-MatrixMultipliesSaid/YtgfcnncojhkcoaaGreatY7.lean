/-
  Lemmas, part 7. Conditions: none.
-/
import Derived.Test.YtgfcnncojhkcoaaGreatY6
import Derived.Test.YtgfcnncojhkcoaaGreatRows
import Derived.ProofKit
import Derived.OpenShut
import Derived.ChangeSame
import Derived.Deep.Slices
import Derived.JoinedCond
import Derived.SizedLaws
import Derived.Deep.CondSized
set_option linter.all false
set_option maxRecDepth 100000
set_option maxHeartbeats 40000000
namespace Go.Proofs.YtgfcnncojhkcoaaGreat
open Go.RowKit Go.IntKind Tryz Go.Proofs.Tryz
noncomputable section
theorem HP {R:Type}{n:Nat}(hn:n≤1000000)(ok:Nat→Bool)(res:R){b:Int→Option (Int⊕(R⊕Unit))}(h:∀i:Nat,i<n→b i=cnd (!ok i) (some (.inr (.inl res))) (some (.inl (i64.wrap ((i:Int)+(1:Int))))))(he:b n=some (.inr (.inr ()))):
  a7 b (0:Int)=some (if (List.range n).all ok then .inr () else .inl res):=by
 have key:∀m i:Nat,i+m=n→a7 b (i:Int)=some (if (List.range' i m).all ok then .inr () else .inl res):=by
  intro m
  induction m with
  |zero=>
       intro i hi;obtain rfl:i=n:=by omega
       exact fQ he
  |succ m ih=>
   intro i hi
   have hb:=h i (by omega)
   rw[EW,jy]
   cases hk:ok i with
   |false=>
    rw[hk] at hb
    rw[fQ (by rw[hb];rfl)];rfl
   |true=>
    rw[hk,w64] at hb
    rw[j7 (by rw[hb];rfl)]
    exact ih (i+1) (by omega)
 rw[show ((0:Int))=((0:Nat):Int) from rfl,key n 0 (by omega),LG]
theorem dne {α:Type}[DecidableEq α](a b:α):decide (a≠b)= !decide (a=b):=by by_cases h:a=b <;> simp[h]
theorem id_MV {n:Nat}(h:n≤200):MV n n (mkM n n idF):=⟨h,h,c9,pw.2 fun i k _ _=>Az i k⟩
def Kd(acc:List Pv):Bool:=(List.range acc.length).all fun i=>decide ((((acc.map pvS)[i]!).vcol:Int)=i)
def Ck(n:Nat)(U:List Nu)(i k:Nat):Nu:=U[i*(n+n)+(n+k)]!
def invR(n:Nat)(o:Option (List Nu×List Pv)):aB×Int:=match o with
 |none=>(mZ,30)
 |some (U,acc)=>if Kd acc then iu n n (mkM n n (Ck n U)) else (mZ,70)
def Lc(R C:Int)(A:List Nu):aB×Int:=if a8 R C A=0∧R=C then (if 200<R+R then (mZ,2) else invR R.toNat (m5 R.toNat (R.toNat+R.toNat) (mkM R.toNat (R.toNat+R.toNat) (rA R.toNat R.toNat A (mkM R.toNat R.toNat idF))))) else (mZ,1)
theorem JP {n:Nat}(h:n≤200):idP (n:Int)=mS n n (mkM n n idF):=by
 unfold idP
 rw[ifn_,bL]
theorem LI {R C:Int}{A:List Nu}(hA:A.length≤1000000):jq (mS R C A)=some (Lc R C A):=by
 unfold jq Lc
 rw[oM hA]
 simp only[ab,kOr]
 by_cases h0:a8 R C A=0∧R=C
 ·rw[az h0]
  obtain⟨h1,rfl⟩:=h0
  obtain⟨n,c,rfl,hc,hm⟩:=eS.1 h1
  obtain rfl:n=c:=by omega
  have h3:=hm.r
  rw[h1,show (!decide ((0:Int)=0)||decide ((n:Int)≠n))=false by simp,kF,vM]
  simp only[ab]
  rw[JP h3,Hc hA (by rw[c9];have:=hm.rc;omega)]
  have hi:=id_MV h3
  by_cases hb:(200:Int)<(n:Int)+(n:Int)
  ·rw[Ko hm hi hb,az hb];rfl
  ·rw[Km hm hi hb,ay hb]
   simp only[ab,bL]
   rw[bx _ _ (by simp),tQ (by omega) (by omega) c9]
   simp only[ab]
   cases lT:m5 n (n+n) (mkM n (n+n) (rA n n A (mkM n n idF))) with
   |none=>rfl
   |some p=>
    obtain⟨U,acc⟩:=p
    have hU:=kW c9 lT
    have hle:acc.length≤n:=zM lT
    have LV:n*(n+n)≤200*200:=pC h3 (by omega)
    rw[show yN (n:Int) ((n+n:Nat):Int) (some (U,acc))=((⟨mS n ((n+n:Nat):Int) U,acc.map pvS⟩:cD),(0:Int)) from rfl]
    dsimp only
    rw[bx _ _ (by simp)]
    rw[HP (b:=fK (⟨mS n ((n+n:Nat):Int) U,acc.map pvS⟩,0)) (n:=acc.length) (by omega) (fun i=>decide ((((acc.map pvS)[i]!).vcol:Int)=i)) (mZ,70) (fun i hi2=>?_) ?_]
    ·unfold invR
     dsimp only
     show bnd (some (if Kd acc then _ else _)) _=_
     cases hd:Kd acc with
     |false=>rfl
     |true=>
      show bnd (gN (n:Int) (n:Int) ⟨mS n ((n+n:Nat):Int) U,acc.map pvS⟩ (mS n n A)) _=_
      rw[BP (by omega) (by omega) (Ck n U) (fun i k hi2 hk=>?_)]
      ·rfl
      ·unfold fL
       dsimp only
       rw[w64,show (n:Int)+(k:Int)=((n+k:Nat):Int) by omega,uk hU (by omega) hi2 (by omega)]
       rfl
    ·unfold fK
     dsimp only
     rw[ew,bx _ _]
    ·unfold fK
     dsimp only
     rw[ew,bw _ _,aJ,bL,dne]
 ·rw[ay h0]
  have e:(!decide (a8 R C A=0)||decide (R≠C))=true:=by
   by_cases a:a8 R C A=0
   ·by_cases b:R=C
    ·exact absurd ⟨a,b⟩ h0
    ·simp[b]
   ·simp[a]
  rw[e,kT]
def oI(acc:List Pv)(i:Nat):Nat:=(acc[i]!).col
def pU(C:Nat)(U:List Nu)(acc:List Pv)(k:Nat):Nat→List Nu
 |0=>(List.replicate C (nOf 0)).set k (nOf 1)
 |n+1=>if oI acc n<k then (pU C U acc k n).set (oI acc n) (F4 U[n*C+k]!) else pU C U acc k n
theorem tW {C:Nat}{U:List Nu}{acc:List Pv}{k:Nat}:∀n,(pU C U acc k n).length=C
 |0=>by simp[pU]
 |n+1=>by
  unfold pU
  split
  ·rw[ID];exact tW n
  ·exact tW n
def wi(C:Nat)(acc:List Pv):List Nat:=(List.range C).filter fun k=>!(j4 acc).any fun x=>decide ((k:Int)=x)
def nullR(C:Nat)(o:Option (List Nu×List Pv)):List (List Nu)×Int:=match o with
 |none=>([],30)
 |some (U,acc)=>((wi C acc).map fun k=>pU C U acc k acc.length,0)
def JC(R C:Int)(V:List Nu):List (List Nu)×Int:=if a8 R C V=0 then nullR C.toNat (m5 R.toNat C.toNat V) else ([],1)
theorem Ly {acc:List Pv}{i:Nat}(h:i<acc.length):(j4 acc)[i]! =((oI acc i:Nat):Int):=by
 unfold j4 oI
 rw[Bh,Bh,dc,e7 h];rfl
theorem HM {C:Nat}{acc:List Pv}:wi (C+1) acc=wi C acc++if ((j4 acc).any fun x=>decide ((C:Int)=x)) then [] else [C]:=by
 unfold wi
 rw[uO,List.filter_append]
 congr 1
 rw[O4]
 cases ((j4 acc).any fun x=>decide ((C:Int)=x)) <;> rfl
theorem P_Null {R C:Int}{V:List Nu}(hV:V.length≤1000000):kg (mS R C V)=some ((JC R C V).1.map (List.map nv),(JC R C V).2):=by
 unfold kg JC
 rw[oM hV]
 simp only[ab]
 by_cases h1:a8 R C V=0
 ·rw[az h1]
  obtain⟨r,c,rfl,rfl,hm⟩:=eS.1 h1
  have h3:=hm.r
  have h4:=hm.c
  have h5:=hm.rc
  rw[h1,show (!decide ((0:Int)=0))=false by simp,kF,tQ (by omega) (by omega) hm.len,bL,bL]
  simp only[ab]
  cases lT:m5 r c V with
  |none=>rfl
  |some p=>
   obtain⟨U,acc⟩:=p
   have hU:=kW hm.len lT
   have hle:acc.length≤r:=zM lT
   rw[show yN (r:Int) (c:Int) (some (U,acc))=((⟨mS r c U,acc.map pvS⟩:cD),(0:Int)) from rfl]
   dsimp only
   rw[bx _ _ (by simp),Jc (by omega)]
   simp only[ab]
   have key:=lb (b:=iM (mS r c V) (⟨mS r c U,acc.map pvS⟩,0) (j4 acc)) (fun k=>(((wi k acc).map fun j=>pU c U acc j acc.length).map (List.map nv),(k:Int))) 0 c (((wi c acc).map fun j=>pU c U acc j acc.length).map (List.map nv)) (dZ _) (fun k _ hk=>?_) ?_
   ·rw[show (((wi 0 acc).map fun j=>pU c U acc j acc.length).map (List.map nv),((0:Nat):Int))=(([]:List (List ak)),(0:Int)) from rfl] at key
    rw[key];rfl
   ·unfold iM
    dsimp only
    have hkl:(wi k acc).length≤k:=by unfold wi;exact cU (Ky _ _) (by rw[List.length_range];omega)
    rw[bw _ _,BS (by unfold j4;rw[ew];omega),HM]
    simp only[ab]
    cases hany:(j4 acc).any fun x=>decide ((k:Int)=x) with
    |true=>
     rw[kT]
     simp only[ab]
     rw[w64];simp only[aN,tG];rfl
    |false=>
     rw[kF,uOf]
     simp only[ab]
     have cM:gf [nv (nOf 0)] (c:Int)=some ((List.replicate c (nOf 0)).map nv):=by
      unfold gf
      dsimp only
      rw[az ⟨(nOf 0).2,by omega,by omega⟩,bL,Kx]
     rw[cM,uOf]
     simp only[ab]
     rw[aJ ⟨by omega,by rw[ew,uN];omega,by rw[ew,uN];omega⟩,bL,←List.map_set]
     have inner:=lb (b:=iL (⟨mS r c U,acc.map pvS⟩,0) (j4 acc) (k:Int) ((List.replicate c (nOf 0)).map nv)) (fun n=>((n:Int),(pU c U acc k n).map nv)) 0 acc.length ((pU c U acc k acc.length).map nv) (dZ _) (fun n _ hn=>?_) ?_
     ·rw[show (((0:Nat):Int),(pU c U acc k 0).map nv)=((0:Int),((List.replicate c (nOf 0)).set k (nOf 1)).map nv) from rfl] at inner
      rw[inner]
      simp only[ab]
      rw[aJ (by simp[tW]),aJ (by simp;omega),w64]
      simp only[ab]
      simp only[Kw,pj,mg];rfl
     ·unfold iL
      dsimp only
      have AK:(j4 acc).length=acc.length:=by unfold j4;rw[ew]
      rw[AK,bw _ _,aJ,bL,Ly hn]
      rw[show pU c U acc k (n+1)=if oI acc n<k then (pU c U acc k n).set (oI acc n) (F4 U[n*c+k]!) else pU c U acc k n from rfl]
      by_cases bF:oI acc n<k
      ·rw[bw _ _,az bF,uk hU (by omega) (by omega) hk]
       simp only[ab,uNeg]
       rw[aJ ⟨by omega,by rw[ew,uN];omega,by rw[ew,tW];omega⟩,bL,←List.map_set,w64]
       rfl
      ·rw[bx _ _,ay bF]
       simp only[ab]
       rw[w64];rfl
     ·unfold iL
      dsimp only
      rw[show (j4 acc).length=acc.length by unfold j4;rw[ew],bx _ _]
   ·unfold iM
    dsimp only
    rw[bx _ _]
 ·rw[ay h1,show (!decide (a8 R C V=0))=true by simp[h1],kT];rfl
def rx(n:Nat)(o:Option (List Nu×List Pv)):Nu×Int:=match o with
 |none=>(nOf 0,30)
 |some (_,acc)=>if acc.length<n then (nOf 0,0) else if aR (rm (jI acc) acc) then (rm (jI acc) acc,0) else (nOf 0,30)
theorem Kh(n:Nat)(o:Option (List Nu×List Pv)):detR n o=(if (rx n o).2=0 then nv (rx n o).1 else rZ,(rx n o).2):=by
 unfold detR rx
 cases o with
 |none=>rfl
 |some p=>
  obtain⟨U,acc⟩:=p
  dsimp only
  split
  ·rfl
  ·split <;> rfl
def sF(n:Nat)(V:List Nu)(i k:Nat):Nu:=V[i*n+k]!
def K2(n:Nat)(V:List Nu):Nat→Nat→Bool×Int
 |0,_=>(true,0)
 |m+1,j=>if (rx j (m5 j j (mkM j j (sF n V)))).2≠0∨kY (rx j (m5 j j (mkM j j (sF n V)))).1≤0 then (false,(rx j (m5 j j (mkM j j (sF n V)))).2) else K2 n V m (j+1)
def symP(n:Nat)(V:List Nu):Bool:=(List.range n).all fun i=>(List.range i).all fun k=>decide (V[i*n+k]! =V[k*n+i]!)
def Jz(R C:Int)(V:List Nu):Bool×Int:=if a8 R C V=0∧R=C then (if symP R.toNat V then K2 R.toNat V R.toNat 1 else (false,0)) else (false,1)
theorem lead_MV {n j:Nat}{V:List Nu}(hm:MV n n V)(hj:j≤n):MV j j (mkM j j (sF n V)):=⟨cU hj hm.r,cU hj hm.r,c9,pw.2 fun i k hi hk=>hm.gd (cd (by omega) (by omega))⟩
theorem BQ {R C:Int}{V:List Nu}(hV:V.length≤1000000):fT (mS R C V)=some (Jz R C V):=by
 unfold fT Jz
 rw[oM hV]
 simp only[ab,kOr]
 by_cases h0:a8 R C V=0∧R=C
 ·rw[az h0]
  obtain⟨h1,rfl⟩:=h0
  obtain⟨n,c,rfl,hc,hm⟩:=eS.1 h1
  obtain rfl:n=c:=by omega
  have h3:=hm.r
  have h5:=hm.rc
  rw[h1,show (!decide ((0:Int)=0)||decide ((n:Int)≠n))=false by simp,kF,bL]
  rw[HP (b:=ff (mS n n V)) (n:=n) (by omega) (fun i=>(List.range i).all fun k=>decide (V[i*n+k]! =V[k*n+i]!)) (false,0) (fun i hi=>?_) ?_]
  ·show bnd (some (if symP n V then _ else _)) _=_
   cases hs:symP n V with
   |false=>rfl
   |true=>
    show bnd (a7 (c7 (mS n n V)) (1:Int)) _=some (K2 n V n 1)
    have key:∀m j:Nat,j+m=n+1→∃z,a7 (c7 (mS n n V)) (j:Int)=some z∧((z=.inr ()∧K2 n V m j=(true,0))∨z=.inl (K2 n V m j)):=by
     intro m
     induction m with
     |zero=>
      intro j hj
      refine⟨.inr (),fQ ?_,.inl ⟨rfl,rfl⟩⟩
      unfold c7
      dsimp only
      rw[bx _ _]
     |succ m ih=>
      intro j hj
      have hb:c7 (mS n n V) (j:Int)=if (rx j (m5 j j (mkM j j (sF n V)))).2≠0∨kY (rx j (m5 j j (mkM j j (sF n V)))).1≤0 then some (.inr (.inl (false,(rx j (m5 j j (mkM j j (sF n V)))).2))) else some (.inl ((j+1:Nat):Int)):=by
       unfold c7
       dsimp only
       have hl:=lead_MV hm (show j≤n by omega)
       rw[bw _ _,zF (by omega) (by omega) (sF n V) (fun i k hi hk=>by unfold fg;rw[uk hm.len (by omega) (by omega) (by omega)];rfl)]
       simp only[ab]
       rw[pW (f:=sF n V) fun i k hi hk=>hm.gd (cd (show i<n by omega) (show k<n by omega))]
       dsimp only
       rw[BR (by rw[c9];have:=hl.rc;omega)]
       unfold yh
       rw[az ⟨hl.chk,rfl⟩,bL,Kh]
       simp only[ab]
       generalize rx j (m5 j j (mkM j j (sF n V)))=d
       by_cases hd:d.2=0
       ·rw[bx _ _ (by simpa using hd),az hd,uSign]
        simp only[ab]
        by_cases H6:kY d.1≤0
        ·rw[bw _ _ H6,az (.inr H6)]
        ·rw[bx _ _ H6,ay (by intro h;rcases h with h|h;exact h hd;exact H6 h),w64];rfl
       ·rw[bw _ _ hd,az (.inl hd)]
        simp only[ab]
        rw[kT]
      unfold K2
      by_cases hd:(rx j (m5 j j (mkM j j (sF n V)))).2≠0∨kY (rx j (m5 j j (mkM j j (sF n V)))).1≤0
      ·rw[az hd] at hb
       rw[az hd]
       exact⟨_,fQ hb,.inr rfl⟩
      ·rw[ay hd] at hb
       rw[ay hd,j7 hb]
       exact ih (j+1) (by omega)
    obtain⟨z,hz,h6⟩:=key n 1 (by omega)
    rw[show (((1:Nat):Int))=1 from rfl] at hz
    rw[hz]
    rcases h6 with⟨rfl,h6⟩|rfl
    ·rw[h6];rfl
    ·rfl
  ·unfold ff
   dsimp only
   rw[bx _ _]
  ·unfold ff
   dsimp only
   rw[bw _ _,HP (b:=fe (mS n n V) (i:Int)) (n:=i) (by omega) (fun k=>decide (V[i*n+k]! =V[k*n+i]!)) (false,0) (fun k hk=>?_) ?_]
   ·simp only[ab]
    cases (List.range i).all fun k=>decide (V[i*n+k]! =V[k*n+i]!) <;> rfl
   ·unfold fe
    try dsimp only
    rw[bx _ _]
   ·unfold fe
    try dsimp only
    rw[bw _ _,uk hm.len (by omega) hi (by omega),uk hm.len (by omega) (by omega) hi]
    simp only[ab,nv_eq]
    have:decide (¬V[i*n+k]! =V[k*n+i]!)= !decide (V[i*n+k]! =V[k*n+i]!):=dne _ _
    rw[this]
 ·rw[ay h0]
  have e:(!decide (a8 R C V=0)||decide (R≠C))=true:=by
   by_cases a:a8 R C V=0
   ·by_cases b:R=C
    ·exact absurd ⟨a,b⟩ h0
    ·simp[b]
   ·simp[a]
  rw[e,kT]
theorem xy {R C:Nat}:∀{n k r:Nat} {V:List Nu} {acc:List Pv} {W:List Nu} {l:List Pv},(acc.map Pv.col).Pairwise (·<·)→(∀p∈acc,p.col<k)→kN R C n k r V acc=some (W,l)→(l.map Pv.col).Pairwise (·<·)∧∀p∈l,p.col<k+n
 |0,_,_,_,_,_,_,hs,hk,h=>by
  unfold kN at h
  injection h with h
  injection h with h1 h2
  rw[←h2];exact⟨hs,hk⟩
 |n+1,k,r,V,acc,W,l,hs,hk,h=>by
  unfold kN at h
  split at h
  ·split at h
   ·have:=xy hs (fun p hp=>qi (hk p hp)) h
    exact⟨this.1,fun p hp=>by have:=this.2 p hp;omega⟩
   ·split at h
    ·have:=xy (by
      rw[mg,List.pairwise_append]
      refine⟨hs,List.pairwise_singleton _ _,fun a ha b hb=>?_⟩
      obtain⟨p,hp,rfl⟩:=qh.1 ha
      rw[cp,dh,G3] at hb
      rw[hb];exact hk p hp) (fun p hp=>by
      rcases sK.1 hp with hp|hp
      ·exact qi (hk p hp)
      ·rw[G3] at hp
       rw[hp];exact dY k) h
     exact⟨this.1,fun p hp=>by have:=this.2 p hp;omega⟩
    ·cases h
  ·injection h with h
   injection h with h1 h2
   rw[←h2];exact⟨hs,fun p hp=>by have:=hk p hp;omega⟩
theorem colN_lt {acc:List Pv}(hs:(acc.map Pv.col).Pairwise (·<·)){i j:Nat}(Gq:i<j)(hj:j<acc.length):oI acc i<oI acc j:=by
 have:=G2.1 hs i j (by rw[ew];omega) (by rw[ew];omega) Gq
 rw[Kv,Kv] at this
 unfold oI
 rw[eG acc i (by omega),eG acc j hj]
 exact this
theorem K0 {R C:Nat}{V W:List Nu}{l:List Pv}(h:m5 R C V=some (W,l)):(l.map Pv.col).Pairwise (·<·)∧∀p∈l,p.col<C:=by
 have:=xy (acc:=[]) List.Pairwise.nil (fun p hp=>by cases hp) h
 exact⟨this.1,fun p hp=>by have:=this.2 p hp;omega⟩
theorem det_two {n:Nat}{f:Nat→Col}{a b:Nat}(ha:a<n)(hb:b<n)(ya:a≠b)(u v:Col):det n (cw (cw f a u) b v)=-det n (cw (cw f a v) b u):=by
 have same:∀u:Col,det n (cw (cw f a u) b u)=0:=fun u=>Er _ ha hb ya fun r=>by
  unfold cw
  rw[ay ya,az rfl,az rfl]
 have lin1:∀u u' v:Col,det n (cw (cw f a fun r=>1*u r+u' r) b v)=1*det n (cw (cw f a u) b v)+det n (cw (cw f a u') b v):=fun u u' v=>by
  rw[pF f ya,pF f ya,pF f ya]
  exact pB 1 (cw f b v) a u u' ha
 have lin2:∀u v v':Col,det n (cw (cw f a u) b fun r=>1*v r+v' r)=1*det n (cw (cw f a u) b v)+det n (cw (cw f a u) b v'):=fun u v v'=>pB 1 (cw f a u) b v v' hb
 have s:=same fun r=>1*u r+v r
 rw[lin1,lin2,lin2,same u,same v] at s
 grind
theorem bX(n:Nat):oe n (det n):=by
 refine⟨fun f g h=>yg fun c hc r hr=>h c r hc hr,fun f a b ha hb ya=>?_,fun f r c hr=>?_,fun f r i c hr hi NT=>?_⟩
 ·have e1:d5 f a b=cw (cw f a (f b)) b (f a):=by
   funext i k
   unfold d5 cw
   by_cases h1:i=a
   ·rw[az h1,ifn_,az h1]
   ·by_cases h2:i=b
    ·rw[ay h1,az h2,az h2]
    ·rw[ay h1,ay h2,ay h2,ay h1]
  have e2:f=cw (cw f a (f a)) b (f b):=by rw[nU,nU]
  rw[e1,det_two ha hb ya,←e2]
 ·have e1:(fun i k=>if i=r then c*f r k else f i k:RM)=cw f r fun k=>c*f r k+(fun _=>(0:Rat)) k:=by
   funext i k
   unfold cw
   by_cases h:i=r
   ·rw[az h,az h];grind
   ·rw[ay h,ay h]
  rw[e1,pB c f r (f r) (fun _=>0) hr,A6 f hr,nU]
  grind
 ·have e1:(fun j k=>if j=i then f i k+c*f r k else f j k:RM)=cw f i fun k=>c*f r k+f i k:=by
   funext j k
   unfold cw
   by_cases h:j=i
   ·rw[az h,az h];grind
   ·rw[ay h,ay h]
  rw[e1,pB c f i (f r) (f i) hi,nU,Er (cw f i (f r)) hi hr NT fun k=>by
   unfold cw
   rw[az rfl,ifn_]]
  grind
theorem nt:∀n,det n eJ=1
 |0=>rfl
 |n+1=>by
  unfold det
  rw[bk (g:=fun j=>if j=0 then 1 else 0) fun j hj=>by
   by_cases h:j=0
   ·rw[h,az rfl]
    have:minor eJ 0=eJ:=by
     funext c r
     show (if (if c<0 then c else c+1)=r+1 then (1:Rat) else 0)=if c=r then 1 else 0
     rw[show (if c<0 then c else c+1)=c+1 from ifn_]
     by_cases e:c=r
     ·rw[az e,ifp_]
     ·rw[ay e,ifn_]
    rw[this,nt n]
    unfold sgd eJ
    rw[az rfl,az (by decide)];grind
   ·rw[ay h]
    unfold eJ
    rw[ay h];grind]
  exact ot 0 1 _ (by omega)
theorem Jy:∀(acc:List Pv) (x:Nu),aR (acc.foldl (fun x p=>nI x p.by') x)=true→aR x=true∧rv (acc.foldl (fun x p=>nI x p.by') x)=acc.foldl (fun c p=>c*rv p.by') (rv x)
 |[],x,h=>⟨h,rfl⟩
 |p::acc,x,h=>by
  rw[tE] at h ⊢
  obtain⟨h1,h2⟩:=Jy acc _ h
  obtain⟨h3,h4⟩:=wA h1
  refine⟨h3,?_⟩
  rw[h2,tE,wo h3 h4 h1]
theorem FR:∀(acc:List Pv) (x k:Rat),acc.foldl (fun c p=>c*rv p.by') (k*x)=k*acc.foldl (fun c p=>c*rv p.by') x
 |[],x,k=>rfl
 |p::acc,x,k=>by
  rw[tE,tE,show k*x*rv p.by'=k*(x*rv p.by') by grind,FR acc]
theorem FQ:∀(acc:List Pv) (s:Int) (y:Rat),acc.foldl (fun c p=>c*(rv p.by'*if p.mov then -1 else 1)) ((s:Rat)*y)=((acc.foldl (fun s p=>if p.mov then -s else s) s:Int):Rat)*acc.foldl (fun c p=>c*rv p.by') y
 |[],s,y=>rfl
 |p::acc,s,y=>by
  rw[tE,tE,tE]
  have e:(s:Rat)*y*(rv p.by'*if p.mov=true then -1 else 1)=((if p.mov=true then -s else s:Int):Rat)*(y*rv p.by'):=by
   cases p.mov with
   |true=>
    simp only[aN]
    rw[Rat.intCast_neg];grind
   |false=>
    simp only[Kw,pj];grind
  rw[e,FQ acc]
theorem of_1:aR (nOf (-1))=true∧rv (nOf (-1))=-1:=Ap (q:=((-1:Int):Rat)) ⟨by decide,by decide⟩
theorem Oz {n:Nat}{V:List Nu}{d:Nu}(hV:V.length=n*n)(hg:V.all aR=true)(h:rx n (m5 n n V)=(d,0)):aR d=true∧rv d=det n (toR n V):=by
 cases lT:m5 n n V with
 |none=>
  rw[lT] at h
  unfold rx at h
  injection h with h1 h2
  exact absurd h2 (by decide)
 |some p=>
  obtain⟨U,acc⟩:=p
  have hok:=Ak hV hg lT
  have hle:=hok.red.le
  rw[ew] at hle
  have hd:=hok.det (det n) rfl (bX n)
  rw[lT] at h
  unfold rx at h
  dsimp only at h
  by_cases hl:acc.length<n
  ·rw[az hl] at h
   injection h with h1 h2
   rw[←h1,hd,(bX n).zero (r:=acc.length) hl fun t ht=>hok.red.z2 _ t (by rw[ew];omega) hl ht]
   exact⟨of0.1,by rw[of0.2];grind⟩
  ·rw[ay hl] at h
   by_cases JV:aR (rm (jI acc) acc)=true
   ·rw[az JV] at h
    injection h with h1 h2
    rw[←h1]
    refine⟨JV,?_⟩
    have h3:=(Jy acc (nOf (jI acc)) JV).2
    have Lf:=JN hok.red (by rw[ew];omega)
    rw[hd,(bX n).congr _ eJ Lf,nt]
    have h4:=FQ acc 1 1
    rw[show (((1:Int):Rat)*1)=1 by grind] at h4
    rw[h4]
    show rv (acc.foldl (fun x p=>nI x p.by') (nOf (jI acc)))=_
    rw[h3]
    have h5:rv (nOf (jI acc))=((jI acc:Int):Rat):=by
     rcases DM acc 1 (.inl rfl) with h6|h6
     ·rw[show jI acc=1 from h6,of1.2];rfl
     ·rw[show jI acc=-1 from h6,of_1.2];rfl
    have h7:=FR acc 1 ((jI acc:Int):Rat)
    rw[show ((jI acc:Int):Rat)*1=((jI acc:Int):Rat) by grind] at h7
    rw[h5,h7]
    show ((jI acc:Int):Rat)*_=((jI acc:Int):Rat)*_*1
    grind
   ·rw[ay JV] at h
    injection h with h1 h2
    exact absurd h2 (by decide)
def mc(mR:List Int):Int×(List ak)→Option ((Int×(List ak))⊕((List ak))):=fun (aK,aS)=>cnd (decide (aK<((mR).length:Int))) (gd (0≤aK∧aK<((mR).length:Int)) (bnd (eA ((mR)[(aK).toNat]!)) fun x4=>gd ((aS++[x4]).length*136≤140737488355328) (some (.inl (i64.wrap (aK+(1:Int)),aS++[x4]))))) (some (.inr aS))
def fB(ct:Int)(bW:Int)(mR:List Int):Option aB:=bnd (a7 (mc mR) ((0:Int),([]:List ak))) fun aG=>some (⟨ct,bW,aG⟩:aB)
theorem jG {ct:Int}{bW:Int}{mR:List Int}{r:aB}(h:fB ct bW mR=some r):aC prog 59 [dI .i64 ct,dI .i64 bW,dL (cI .i64) mR] (dG aQ r):=by
 refine bQ (rs:=[.cell 6 24]) (fun cx hx h0=>?_) func59
 unfold fB at h
 refine rs hx fun K hK=>?_
 refine s1 (d:=.pt 0 0) (b9 av) ?_
 refine .nil (hK _ _ (rs hx fun K hK=>?_))
 iterate 2 refine sa ?_
 refine s1 (d:=.ag [dI .i64 ct,dI .i64 bW,dN]) (cV av) ?_
 refine s1 (d:=.pt 1 0) (b9 av) ?_
 refine s0 (dQ (ds':=[dI .i64 ct,dI .i64 bW,dN]) av) ?_
 refine .nil (hK _ _ (AW.seq (ra hx ?_)))
 refine AW.block ?_
 obtain⟨aG,hy,h⟩:=ah h
 refine lp (S:=Int×(List ak)) (X:=(List ak)) (fun (aK,aS)=>[(6,.pt 0 0),(7,.pt 1 0),(13,dL (cI .i64) mR),(14,dI .i64 ((mR).length:Int)),(15,dI .i64 aK)]) (fun (aK,aS)=>⟨[(0,[dI .i64 (0:Int),dI .i64 (0:Int),dN]),(1,[dI .i64 ct,dI .i64 bW,dO 2 aj aS])],[(2,(aS).length,36,34)],3⟩) (PE cx (.exit 0) (fun aG=>[(6,.pt 0 0),(7,.pt 1 0)]) fun aG=>⟨[(0,[dI .i64 (0:Int),dI .i64 (0:Int),dN]),(1,[dI .i64 ct,dI .i64 bW,dO 2 aj aG])],[(2,(aG).length,36,34)],3⟩) hy ?_ ?_ ?_
 exact Wk.trans (Wk.nilOwn (ds':=[dI .i64 ct,dI .i64 bW,dO 2 aj ([]:List ak)]) 1 2 34 36) (wk h0 [0,1,2] (wR rfl (wR rfl (wR rfl (wR rfl (wR rfl wTn))))) (vR rfl (vR rfl wVn)) (wL rfl rfl wLn))
 clear hy h
 rintro⟨aK,aS⟩ y h
 dsimp only[mc] at h
 refine ra hx ?_
 refine AW.seq (cdh h rfl (fun cH h=>?_) (fun cH h=>?_))
 refine AW.skip (AW.seq (AW.block (rs hx fun K hK=>?_)))
 obtain⟨nb,h⟩:=aD h
 have p8:(aK).toNat<(mR).length:=by omega
 refine s1 (gk nb bV aY) ?_
 refine s1 (oL (c:=(cI .i64)) (l:=mR) (n:=(aK).toNat) (o:=0) aY p8) ?_
 refine sa ?_
 refine .nil (hK _ _ (rqd [60] hx fun K hK=>?_))
 refine sa ?_
 refine s1 (ba aP) ?_
 refine sa ?_
 refine cqb h iP fun x4 h=>?_
 refine s1 (kK ([x4]:List ak) aj aP aA) ?_
 obtain⟨hc6,h⟩:=aD h
 refine s1 (d:=dO 2 aj (aS++[x4])) (iT aP aA hc6) ?_
 refine sa ?_
 refine s0 (dQ (ds':=[dI .i64 ct,dI .i64 bW,dO 2 aj (aS++[x4])]) aP) ?_
 refine .nil (hK _ _ (rb hx ?_))
 cases h
 exact PS.l (pe0 h0 [0,1,2])
 refine AW.exit ?_
 try dsimp only
 try simp only[aN,reduceIte,Nat.reduceEqDiff,reduceCtorEq]
 cases h
 exact PS.r ⟨by nofun,PE.i (wk h0 [0,1,2] (wR rfl (wR rfl wTn)) (vR rfl (vR rfl wVn)) (wL rfl rfl wLn))⟩
 rintro ex tm' hp' ⟨rfl,hw⟩
 try dsimp only
 try simp only[aN,reduceIte,Nat.reduceEqDiff,reduceCtorEq]
 refine AW.weak hw (rs hx fun K hK=>?_)
 refine s1 (d:=.ag [dI .i64 ct,dI .i64 bW,dO 2 aj aG]) (bP av) ?_
 refine s0 (dQ (ds':=[dI .i64 ct,dI .i64 bW,dO 2 aj aG]) av) ?_
 refine .nil (hK _ _ (AW.ret ?_))
 cases h
 exact fG.mk1 (ey (es:=[dI .i64 ct,dI .i64 bW,dO 2 aj aG]) rfl av rfl rfl (ltb rfl) (leb rfl) rfl (.inr (.inr ⟨_,(kH (wc (gM _) (wc (gM _) (wc (HW _) wcn)))),rfl,rfl⟩)))
def gv(mR:List Int):Option (List ak):=bnd (fB (1:Int) ((mR).length:Int) mR) fun x1=>some x1.vV
theorem m3 {mR:List Int}{r:List ak}(h:gv mR=some r):aC prog 36 [dL (cI .i64) mR] (dL aj r):=by
 refine bQ (rs:=[.tmp 2]) (fun cx hx h0=>?_) func36
 unfold gv at h
 refine rs hx fun K hK=>?_
 refine s1 (d:=dO 0 aj ([]:List ak)) (ek aP aA) ?_
 refine .nil (hK _ _ (rs hx fun K hK=>?_))
 iterate 3 refine sa ?_
 refine scb h jG fun x1 h=>?_
 refine s1 (T_fldC av aP) ?_
 refine sa ?_
 refine .nil (hK _ _ (AW.ret ?_))
 cases h
 exact rv1
def d9 :Option Bool:=bnd (fB (2:Int) (2:Int) [(1:Int),(2:Int),(3:Int),(4:Int)]) fun x1=>bnd (il x1) fun x3=>bnd (eR x1) fun x5=>bnd (fB (2:Int) (3:Int) [(0:Int),(2:Int),(4:Int),(0:Int),(1:Int),(2:Int)]) fun x7=>bnd (il x7) fun x9=>bnd (gv [(5:Int),(6:Int)]) fun om=>bnd (gV x1 om) fun qv=>bnd (fB (1:Int) (2:Int) [(1:Int),(1:Int)]) fun ul=>bnd (gv [(2:Int)]) fun po=>bnd (gV ul po) fun Dt=>bnd (fB (2:Int) (1:Int) [(1:Int),(1:Int)]) fun B0=>bnd (gv [(1:Int),(2:Int)]) fun Fa=>bnd (gV B0 Fa) fun LP=>bnd (fB (1:Int) (3:Int) [(1:Int),(2:Int),(3:Int)]) fun w9=>bnd (kg w9) fun xc=>bnd (fB (2:Int) (2:Int) [(2:Int),(1:Int),(1:Int),(2:Int)]) fun x31=>bnd (fT x31) fun zX=>bnd (fB (2:Int) (2:Int) [(1:Int),(2:Int),(2:Int),(1:Int)]) fun x35=>bnd (fT x35) fun zH=>bnd (S:=Bool) (cnd (decide (x3.2.2≠(0:Int))) (some (true)) (cnd (decide (x5.2≠(0:Int))) (some (true)) (cnd (decide (x9.2.2≠(0:Int))) (some (true)) (cnd (decide (qv.2≠(0:Int))) (some (true)) (cnd (decide (Dt.2≠(70:Int))) (some (true)) (cnd (decide (LP.2≠(200:Int))) (some (true)) (cnd (decide (xc.2≠(0:Int))) (some (true)) (cnd (decide (zX.2≠(0:Int))) (some (true)) (cnd (decide (zH.2≠(0:Int))) (some (true)) (cnd (decide (((xc.1).length:Int)≠(2:Int))) (some (true)) (cnd (decide (((qv.1).length:Int)≠(2:Int))) (some (true)) (cnd (decide (((x3.2.1).length:Int)≠(2:Int))) (some (true)) (some (decide (((x9.2.1).length:Int)≠(1:Int)))))))))))))))) fun fW=>cnd fW (some false) (bnd (S:=Bool) (bnd (db (2:Int)) fun x53=>bnd (ep x3.1 x53) fun x55=>cnd x55 (gd (0≤(0:Int)∧(0:Int)<((x3.2.1).length:Int)) (cnd (decide (((x3.2.1)[((0:Int)).toNat]!)=(0:Int))) (gd (0≤(1:Int)∧(1:Int)<((x3.2.1).length:Int)) (cnd (decide (((x3.2.1)[((1:Int)).toNat]!)=(1:Int))) (bnd (eA (-2:Int)) fun x64=>cnd (decide (x5.1=x64)) (bnd (fB (2:Int) (3:Int) [(0:Int),(1:Int),(2:Int),0,0,0]) fun x67=>bnd (ep x9.1 x67) fun x69=>cnd x69 (gd (0≤(0:Int)∧(0:Int)<((x9.2.1).length:Int)) (bnd (some (decide (((x9.2.1)[((0:Int)).toNat]!)=(1:Int)))) fun x74=>some (x74))) (some (false))) (some (false))) (some (false)))) (some (false)))) (some (false))) fun mi=>bnd (S:=Bool) (cnd mi (gd (0≤(0:Int)∧(0:Int)<((qv.1).length:Int)) (bnd (eA (-4:Int)) fun x80=>cnd (decide ((qv.1)[((0:Int)).toNat]! =x80)) (gd (0≤(1:Int)∧(1:Int)<((qv.1).length:Int)) (bnd (np (9:Int) (2:Int)) fun x85=>cnd (decide ((qv.1)[((1:Int)).toNat]! =x85)) (gd (0≤(0:Int)∧(0:Int)<((xc.1).length:Int)) (bnd (gv [(-2:Int),(1:Int),(0:Int)]) fun x90=>bnd (cZ ((xc.1)[((0:Int)).toNat]!) x90) fun x92=>cnd x92 (gd (0≤(1:Int)∧(1:Int)<((xc.1).length:Int)) (bnd (gv [(-3:Int),(0:Int),(1:Int)]) fun x97=>bnd (cZ ((xc.1)[((1:Int)).toNat]!) x97) fun x99=>cnd x99 (cnd zX.1 (some (!zH.1)) (some (false))) (some (false)))) (some (false)))) (some (false)))) (some (false)))) (some (false))) fun qL=>some qL)
theorem kS  {r:Bool}(h:d9=some r):aC prog 12 [] (dB r):=by
 refine bQ (rs:=[.tmp 0]) (fun cx hx h0=>?_) func12
 unfold d9 at h
 refine ra hx ?_
 refine rs hx fun K hK=>?_
 refine s1 (d:=dO 0 (cI .i64) [(1:Int),(2:Int),(3:Int),(4:Int)]) (iW bV aY) ?_
 refine scb h jG fun x1 h=>?_
 refine s1 (d:=.pt 1 0) (b9 av) ?_
 refine s0 (dQ (ds':=[dI .i64 x1.vR,dI .i64 x1.vC,dL aj x1.vV]) av) ?_
 refine .nil (hK _ _ (rs hx fun K hK=>?_))
 refine s1 (d:=dG aQ x1) (bP av) ?_
 refine scb h sB fun x3 h=>?_
 iterate 4 refine sa ?_
 refine s1 (d:=.pt 2 0) (b9 av) ?_
 refine s0 (dQ (ds':=[dI .i64 x3.1.vR,dI .i64 x3.1.vC,dL aj x3.1.vV]) av) ?_
 iterate 2 refine sa ?_
 refine .nil (hK _ _ (rs hx fun K hK=>?_))
 refine s1 (d:=dG aQ x1) (bP av) ?_
 refine scb h lz fun x5 h=>?_
 iterate 3 refine sa ?_
 refine s1 (bp (F:=aj.f co) aA) ?_
 refine s0 (aO (b':=x5.1) (ao.id _ _) aA) ?_
 refine sa ?_
 refine .nil (hK _ _ (rs hx fun K hK=>?_))
 refine s1 (d:=dO 4 (cI .i64) [(0:Int),(2:Int),(4:Int),(0:Int),(1:Int),(2:Int)]) (iW bV aY) ?_
 refine scb h jG fun x7 h=>?_
 refine scb h sB fun x9 h=>?_
 iterate 4 refine sa ?_
 refine s1 (d:=.pt 5 0) (b9 av) ?_
 refine s0 (dQ (ds':=[dI .i64 x9.1.vR,dI .i64 x9.1.vC,dL aj x9.1.vV]) av) ?_
 iterate 2 refine sa ?_
 refine .nil (hK _ _ (rsd [36,29] hx fun K hK=>?_))
 refine s1 (d:=dG aQ x1) (bP av) ?_
 refine s1 (yC bV aY) ?_
 refine cqb h m3 fun om h=>?_
 refine cqb h pM fun qv h=>?_
 iterate 5 refine sa ?_
 refine .nil (hK _ _ (rs hx fun K hK=>?_))
 refine s1 (d:=dO 6 (cI .i64) [(1:Int),(1:Int)]) (iW bV aY) ?_
 refine scb h jG fun ul h=>?_
 refine s1 (d:=dO 7 (cI .i64) [(2:Int)]) (iW bV aY) ?_
 refine scb h m3 fun po h=>?_
 refine scb h pM fun Dt h=>?_
 iterate 5 refine sa ?_
 refine .nil (hK _ _ (rs hx fun K hK=>?_))
 refine s1 (d:=dO 8 (cI .i64) [(1:Int),(1:Int)]) (iW bV aY) ?_
 refine scb h jG fun B0 h=>?_
 refine s1 (d:=dO 9 (cI .i64) [(1:Int),(2:Int)]) (iW bV aY) ?_
 refine scb h m3 fun Fa h=>?_
 refine scb h pM fun LP h=>?_
 iterate 5 refine sa ?_
 refine .nil (hK _ _ (rs hx fun K hK=>?_))
 refine s1 (d:=dO 10 (cI .i64) [(1:Int),(2:Int),(3:Int)]) (iW bV aY) ?_
 refine scb h jG fun w9 h=>?_
 refine scb h Ce fun xc h=>?_
 iterate 5 refine sa ?_
 refine .nil (hK _ _ (rs hx fun K hK=>?_))
 refine s1 (d:=dO 11 (cI .i64) [(2:Int),(1:Int),(1:Int),(2:Int)]) (iW bV aY) ?_
 refine scb h jG fun x31 h=>?_
 refine scb h qx fun zX h=>?_
 iterate 5 refine sa ?_
 refine .nil (hK _ _ (rs hx fun K hK=>?_))
 refine s1 (d:=dO 12 (cI .i64) [(1:Int),(2:Int),(2:Int),(1:Int)]) (iW bV aY) ?_
 refine scb h jG fun x35 h=>?_
 refine scb h qx fun zH h=>?_
 iterate 5 refine sa ?_
 refine .nil (hK _ _ ?_)
 iterate 2 refine AW.seq ?_
 obtain⟨fW,hy,h⟩:=ah h
 refine jn ((PE cx .normal (fun fW=>[(2,.pt 0 0),(3,dL (cI .i64) x3.2.1),(5,.pt 1 0),(7,.pt 2 0),(8,dL (cI .i64) x9.2.1),(10,dL aj qv.1),(16,dL (cL aj) xc.1),(18,dB zX.1),(20,dB zH.1),(137,dB fW)]) fun fW=>⟨[(0,[dI .i64 x3.1.vR,dI .i64 x3.1.vC,dL aj x3.1.vV]),(1,dC (aj.f x5.1)),(2,[dI .i64 x9.1.vR,dI .i64 x9.1.vC,dL aj x9.1.vV])],[],3⟩) fW) ?_ ?_
 replace h:=hy
 refine rq hx fun K hK=>?_
 iterate 3 refine sa ?_
 rcases aX (decide (x3.2.2≠(0:Int))) with Iq|Iq
 replace h:=aZ Iq h
 iterate 2 refine aH rfl rfl Iq ?_
 refine s1 (al Iq) ?_
 refine sa ?_
 iterate 2 refine aH rfl rfl rfl ?_
 refine s1 (al rfl) ?_
 refine sa ?_
 iterate 2 refine aH rfl rfl rfl ?_
 refine s1 (al rfl) ?_
 refine sa ?_
 iterate 2 refine aH rfl rfl rfl ?_
 refine s1 (al rfl) ?_
 refine sa ?_
 iterate 2 refine aH rfl rfl rfl ?_
 refine s1 (al rfl) ?_
 refine sa ?_
 iterate 2 refine aH rfl rfl rfl ?_
 refine s1 (al rfl) ?_
 refine sa ?_
 iterate 2 refine aH rfl rfl rfl ?_
 refine s1 (al rfl) ?_
 refine sa ?_
 iterate 2 refine aH rfl rfl rfl ?_
 refine s1 (al rfl) ?_
 refine sa ?_
 iterate 3 refine aH rfl rfl rfl ?_
 refine s1 (al rfl) ?_
 refine sa ?_
 iterate 3 refine aH rfl rfl rfl ?_
 refine s1 (al rfl) ?_
 refine sa ?_
 iterate 3 refine aH rfl rfl rfl ?_
 refine s1 (al rfl) ?_
 refine sa ?_
 iterate 3 refine aH rfl rfl rfl ?_
 refine s1 (al rfl) ?_
 refine .nil (hK _ _ ?_)
 cases h
 exact pe0 h0 [2,3,5]
 replace h:=a3 Iq h
 iterate 2 refine ga Iq ?_
 refine s1 (au Iq) ?_
 refine sa ?_
 rcases aX (decide (x5.2≠(0:Int))) with Ip|Ip
 replace h:=aZ Ip h
 iterate 2 refine aH rfl rfl Ip ?_
 refine s1 (al Ip) ?_
 refine sa ?_
 iterate 2 refine aH rfl rfl rfl ?_
 refine s1 (al rfl) ?_
 refine sa ?_
 iterate 2 refine aH rfl rfl rfl ?_
 refine s1 (al rfl) ?_
 refine sa ?_
 iterate 2 refine aH rfl rfl rfl ?_
 refine s1 (al rfl) ?_
 refine sa ?_
 iterate 2 refine aH rfl rfl rfl ?_
 refine s1 (al rfl) ?_
 refine sa ?_
 iterate 2 refine aH rfl rfl rfl ?_
 refine s1 (al rfl) ?_
 refine sa ?_
 iterate 2 refine aH rfl rfl rfl ?_
 refine s1 (al rfl) ?_
 refine sa ?_
 iterate 3 refine aH rfl rfl rfl ?_
 refine s1 (al rfl) ?_
 refine sa ?_
 iterate 3 refine aH rfl rfl rfl ?_
 refine s1 (al rfl) ?_
 refine sa ?_
 iterate 3 refine aH rfl rfl rfl ?_
 refine s1 (al rfl) ?_
 refine sa ?_
 iterate 3 refine aH rfl rfl rfl ?_
 refine s1 (al rfl) ?_
 refine .nil (hK _ _ ?_)
 cases h
 exact pe0 h0 [2,3,5]
 replace h:=a3 Ip h
 iterate 2 refine ga Ip ?_
 refine s1 (au Ip) ?_
 refine sa ?_
 rcases aX (decide (x9.2.2≠(0:Int))) with rW|rW
 replace h:=aZ rW h
 iterate 2 refine aH rfl rfl rW ?_
 refine s1 (al rW) ?_
 refine sa ?_
 iterate 2 refine aH rfl rfl rfl ?_
 refine s1 (al rfl) ?_
 refine sa ?_
 iterate 2 refine aH rfl rfl rfl ?_
 refine s1 (al rfl) ?_
 refine sa ?_
 iterate 2 refine aH rfl rfl rfl ?_
 refine s1 (al rfl) ?_
 refine sa ?_
 iterate 2 refine aH rfl rfl rfl ?_
 refine s1 (al rfl) ?_
 refine sa ?_
 iterate 2 refine aH rfl rfl rfl ?_
 refine s1 (al rfl) ?_
 refine sa ?_
 iterate 3 refine aH rfl rfl rfl ?_
 refine s1 (al rfl) ?_
 refine sa ?_
 iterate 3 refine aH rfl rfl rfl ?_
 refine s1 (al rfl) ?_
 refine sa ?_
 iterate 3 refine aH rfl rfl rfl ?_
 refine s1 (al rfl) ?_
 refine sa ?_
 iterate 3 refine aH rfl rfl rfl ?_
 refine s1 (al rfl) ?_
 refine .nil (hK _ _ ?_)
 cases h
 exact pe0 h0 [2,3,5]
 replace h:=a3 rW h
 iterate 2 refine ga rW ?_
 refine s1 (au rW) ?_
 refine sa ?_
 rcases aX (decide (qv.2≠(0:Int))) with Io|Io
 replace h:=aZ Io h
 iterate 2 refine aH rfl rfl Io ?_
 refine s1 (al Io) ?_
 refine sa ?_
 iterate 2 refine aH rfl rfl rfl ?_
 refine s1 (al rfl) ?_
 refine sa ?_
 iterate 2 refine aH rfl rfl rfl ?_
 refine s1 (al rfl) ?_
 refine sa ?_
 iterate 2 refine aH rfl rfl rfl ?_
 refine s1 (al rfl) ?_
 refine sa ?_
 iterate 2 refine aH rfl rfl rfl ?_
 refine s1 (al rfl) ?_
 refine sa ?_
 iterate 3 refine aH rfl rfl rfl ?_
 refine s1 (al rfl) ?_
 refine sa ?_
 iterate 3 refine aH rfl rfl rfl ?_
 refine s1 (al rfl) ?_
 refine sa ?_
 iterate 3 refine aH rfl rfl rfl ?_
 refine s1 (al rfl) ?_
 refine sa ?_
 iterate 3 refine aH rfl rfl rfl ?_
 refine s1 (al rfl) ?_
 refine .nil (hK _ _ ?_)
 cases h
 exact pe0 h0 [2,3,5]
 replace h:=a3 Io h
 iterate 2 refine ga Io ?_
 refine s1 (au Io) ?_
 refine sa ?_
 rcases aX (decide (Dt.2≠(70:Int))) with Ee|Ee
 replace h:=aZ Ee h
 iterate 2 refine aH rfl rfl Ee ?_
 refine s1 (al Ee) ?_
 refine sa ?_
 iterate 2 refine aH rfl rfl rfl ?_
 refine s1 (al rfl) ?_
 refine sa ?_
 iterate 2 refine aH rfl rfl rfl ?_
 refine s1 (al rfl) ?_
 refine sa ?_
 iterate 2 refine aH rfl rfl rfl ?_
 refine s1 (al rfl) ?_
 refine sa ?_
 iterate 3 refine aH rfl rfl rfl ?_
 refine s1 (al rfl) ?_
 refine sa ?_
 iterate 3 refine aH rfl rfl rfl ?_
 refine s1 (al rfl) ?_
 refine sa ?_
 iterate 3 refine aH rfl rfl rfl ?_
 refine s1 (al rfl) ?_
 refine sa ?_
 iterate 3 refine aH rfl rfl rfl ?_
 refine s1 (al rfl) ?_
 refine .nil (hK _ _ ?_)
 cases h
 exact pe0 h0 [2,3,5]
 replace h:=a3 Ee h
 iterate 2 refine ga Ee ?_
 refine s1 (au Ee) ?_
 refine sa ?_
 rcases aX (decide (LP.2≠(200:Int))) with In|In
 replace h:=aZ In h
 iterate 2 refine aH rfl rfl In ?_
 refine s1 (al In) ?_
 refine sa ?_
 iterate 2 refine aH rfl rfl rfl ?_
 refine s1 (al rfl) ?_
 refine sa ?_
 iterate 2 refine aH rfl rfl rfl ?_
 refine s1 (al rfl) ?_
 refine sa ?_
 iterate 3 refine aH rfl rfl rfl ?_
 refine s1 (al rfl) ?_
 refine sa ?_
 iterate 3 refine aH rfl rfl rfl ?_
 refine s1 (al rfl) ?_
 refine sa ?_
 iterate 3 refine aH rfl rfl rfl ?_
 refine s1 (al rfl) ?_
 refine sa ?_
 iterate 3 refine aH rfl rfl rfl ?_
 refine s1 (al rfl) ?_
 refine .nil (hK _ _ ?_)
 cases h
 exact pe0 h0 [2,3,5]
 replace h:=a3 In h
 iterate 2 refine ga In ?_
 refine s1 (au In) ?_
 refine sa ?_
 rcases aX (decide (xc.2≠(0:Int))) with tq|tq
 replace h:=aZ tq h
 iterate 2 refine aH rfl rfl tq ?_
 refine s1 (al tq) ?_
 refine sa ?_
 iterate 2 refine aH rfl rfl rfl ?_
 refine s1 (al rfl) ?_
 refine sa ?_
 iterate 3 refine aH rfl rfl rfl ?_
 refine s1 (al rfl) ?_
 refine sa ?_
 iterate 3 refine aH rfl rfl rfl ?_
 refine s1 (al rfl) ?_
 refine sa ?_
 iterate 3 refine aH rfl rfl rfl ?_
 refine s1 (al rfl) ?_
 refine sa ?_
 iterate 3 refine aH rfl rfl rfl ?_
 refine s1 (al rfl) ?_
 refine .nil (hK _ _ ?_)
 cases h
 exact pe0 h0 [2,3,5]
 replace h:=a3 tq h
 iterate 2 refine ga tq ?_
 refine s1 (au tq) ?_
 refine sa ?_
 rcases aX (decide (zX.2≠(0:Int))) with tp|tp
 replace h:=aZ tp h
 iterate 2 refine aH rfl rfl tp ?_
 refine s1 (al tp) ?_
 refine sa ?_
 iterate 3 refine aH rfl rfl rfl ?_
 refine s1 (al rfl) ?_
 refine sa ?_
 iterate 3 refine aH rfl rfl rfl ?_
 refine s1 (al rfl) ?_
 refine sa ?_
 iterate 3 refine aH rfl rfl rfl ?_
 refine s1 (al rfl) ?_
 refine sa ?_
 iterate 3 refine aH rfl rfl rfl ?_
 refine s1 (al rfl) ?_
 refine .nil (hK _ _ ?_)
 cases h
 exact pe0 h0 [2,3,5]
 replace h:=a3 tp h
 iterate 2 refine ga tp ?_
 refine s1 (au tp) ?_
 refine sa ?_
 rcases aX (decide (zH.2≠(0:Int))) with Im|Im
 replace h:=aZ Im h
 iterate 3 refine aH rfl rfl Im ?_
 refine s1 (al Im) ?_
 refine sa ?_
 iterate 3 refine aH rfl rfl rfl ?_
 refine s1 (al rfl) ?_
 refine sa ?_
 iterate 3 refine aH rfl rfl rfl ?_
 refine s1 (al rfl) ?_
 refine sa ?_
 iterate 3 refine aH rfl rfl rfl ?_
 refine s1 (al rfl) ?_
 refine .nil (hK _ _ ?_)
 cases h
 exact pe0 h0 [2,3,5]
 replace h:=a3 Im h
 iterate 3 refine ga Im ?_
 refine s1 (au Im) ?_
 refine sa ?_
 rcases aX (decide (((xc.1).length:Int)≠(2:Int))) with Ed|Ed
 replace h:=aZ Ed h
 iterate 3 refine aH rfl rfl Ed ?_
 refine s1 (al Ed) ?_
 refine sa ?_
 iterate 3 refine aH rfl rfl rfl ?_
 refine s1 (al rfl) ?_
 refine sa ?_
 iterate 3 refine aH rfl rfl rfl ?_
 refine s1 (al rfl) ?_
 refine .nil (hK _ _ ?_)
 cases h
 exact pe0 h0 [2,3,5]
 replace h:=a3 Ed h
 iterate 3 refine ga Ed ?_
 refine s1 (au Ed) ?_
 refine sa ?_
 rcases aX (decide (((qv.1).length:Int)≠(2:Int))) with Il|Il
 replace h:=aZ Il h
 iterate 3 refine aH rfl rfl Il ?_
 refine s1 (al Il) ?_
 refine sa ?_
 iterate 3 refine aH rfl rfl rfl ?_
 refine s1 (al rfl) ?_
 refine .nil (hK _ _ ?_)
 cases h
 exact pe0 h0 [2,3,5]
 replace h:=a3 Il h
 iterate 3 refine ga Il ?_
 refine s1 (au Il) ?_
 refine sa ?_
 rcases aX (decide (((x3.2.1).length:Int)≠(2:Int))) with Ik|Ik
 replace h:=aZ Ik h
 iterate 3 refine aH rfl rfl Ik ?_
 refine s1 (al Ik) ?_
 refine .nil (hK _ _ ?_)
 cases h
 exact pe0 h0 [2,3,5]
 replace h:=a3 Ik h
 iterate 3 refine ga Ik ?_
 refine s1 (au Ik) ?_
 refine .nil (hK _ _ ?_)
 cases h
 exact pe0 h0 [2,3,5]
 rintro ex tm' hp' ⟨rfl,hw⟩
 refine AW.weak hw (cdh h rfl (fun hb52 h=>?_) (fun hb52 h=>?_))
 refine ra hx ?_
 refine AW.ret ?_
 cases h
 exact rv1
 refine AW.skip (AW.seq ?_)
 obtain⟨mi,hy,h⟩:=ah h
 refine jn ((PE cx .normal (fun mi=>[(10,dL aj qv.1),(16,dL (cL aj) xc.1),(18,dB zX.1),(20,dB zH.1),(22,dB mi)]) fun mi=>⟨[],[],0⟩) mi) ?_ ?_
 replace h:=hy
 refine rqd [43,14,60,59] hx fun K hK=>?_
 refine s1 (d:=dG aQ x3.1) (bP av) ?_
 refine cqb h iq fun x53 h=>?_
 refine cqb h mW fun x55 h=>?_
 refine sa ?_
 rcases aX x55 with sQ|sQ
 replace h:=aZ sQ h
 refine ga sQ ?_
 obtain⟨hc58,h⟩:=aD h
 have hn59:((0:Int)).toNat<(x3.2.1).length:=by omega
 refine g1 sQ (gk hc58 bV aY) ?_
 refine g1 sQ (oL (c:=(cI .i64)) (l:=x3.2.1) (n:=((0:Int)).toNat) (o:=0) aY hn59) ?_
 refine ga sQ ?_
 refine s1 (al sQ) ?_
 refine sa ?_
 rcases aX (decide (((x3.2.1)[((0:Int)).toNat]!)=(0:Int))) with zE|zE
 replace h:=aZ zE h
 refine ga zE ?_
 obtain⟨hc61,h⟩:=aD h
 have hn62:((1:Int)).toNat<(x3.2.1).length:=by omega
 refine g1 zE (gk hc61 bV aY) ?_
 refine g1 zE (oL (c:=(cI .i64)) (l:=x3.2.1) (n:=((1:Int)).toNat) (o:=0) aY hn62) ?_
 refine ga zE ?_
 refine s1 (al zE) ?_
 refine sa ?_
 rcases aX (decide (((x3.2.1)[((1:Int)).toNat]!)=(1:Int))) with Ec|Ec
 replace h:=aZ Ec h
 refine g1 (d:=dG aj x5.1) Ec (aE (ao.id _ _) aA) ?_
 obtain⟨x64,hx65,h⟩:=ah h
 refine sqg tok rfl rfl Ec (iP hx65) rfl (lA (an _) lAn) (.inl (gP _ _)) ?_
 refine g1 Ec (vJ tok 4 (by decide) mK aA) ?_
 refine s1 (al Ec) ?_
 refine sa ?_
 rcases aX (decide (x5.1=x64)) with Cu|Cu
 replace h:=aZ Cu h
 refine g1 (d:=dG aQ x9.1) Cu (bP av) ?_
 refine g1 Cu (yC bV aY) ?_
 obtain⟨x67,hx68,h⟩:=ah h
 refine sqg tok rfl rfl Cu (jG hx68) rfl (lA (an _) (lA (an _) (lA (an _) lAn))) (.inl (gP _ _)) ?_
 obtain⟨x69,hx70,h⟩:=ah h
 refine sqg tok rfl rfl Cu (mW hx70) (by simp only[cp,dh,jy,fO,dX,dW];exact⟨bc _ _,bc _ _⟩) (lA (an _) (lA (an _) lAn)) (.inl rfl) ?_
 refine s1 (al Cu) ?_
 refine sa ?_
 rcases aX x69 with qu|qu
 replace h:=aZ qu h
 refine ga qu ?_
 obtain⟨hc72,h⟩:=aD h
 have hn73:((0:Int)).toNat<(x9.2.1).length:=by omega
 refine g1 qu (gk hc72 bV aY) ?_
 refine g1 qu (oL (c:=(cI .i64)) (l:=x9.2.1) (n:=((0:Int)).toNat) (o:=0) aY hn73) ?_
 refine ga qu ?_
 refine s1 (al qu) ?_
 obtain⟨x74,Nh,h⟩:=ah h
 replace Nh:=cv Nh
 refine s2 (d2:=dB x74) kO (fR (congrArg dB Nh)) ?_
 refine .nil (hK _ _ ?_)
 cases h
 exact pe0 h0 []
 replace h:=a3 qu h
 iterate 4 refine aH rfl rfl qu ?_
 refine s1 (au qu) ?_
 refine sa ?_
 refine .nil (hK _ _ ?_)
 cases h
 exact pe0 h0 []
 replace h:=a3 Cu h
 iterate 4 refine aH rfl rfl Cu ?_
 refine s1 (au Cu) ?_
 refine sa ?_
 iterate 4 refine aH rfl rfl rfl ?_
 refine s1 (au rfl) ?_
 refine sa ?_
 refine .nil (hK _ _ ?_)
 cases h
 exact pe0 h0 []
 replace h:=a3 Ec h
 iterate 3 refine aH rfl rfl Ec ?_
 refine s1 (au Ec) ?_
 refine sa ?_
 iterate 4 refine aH rfl rfl rfl ?_
 refine s1 (au rfl) ?_
 refine sa ?_
 iterate 4 refine aH rfl rfl rfl ?_
 refine s1 (au rfl) ?_
 refine sa ?_
 refine .nil (hK _ _ ?_)
 cases h
 exact pe0 h0 []
 replace h:=a3 zE h
 iterate 4 refine aH rfl rfl zE ?_
 refine s1 (au zE) ?_
 refine sa ?_
 iterate 3 refine aH rfl rfl rfl ?_
 refine s1 (au rfl) ?_
 refine sa ?_
 iterate 4 refine aH rfl rfl rfl ?_
 refine s1 (au rfl) ?_
 refine sa ?_
 iterate 4 refine aH rfl rfl rfl ?_
 refine s1 (au rfl) ?_
 refine sa ?_
 refine .nil (hK _ _ ?_)
 cases h
 exact pe0 h0 []
 replace h:=a3 sQ h
 iterate 4 refine aH rfl rfl sQ ?_
 refine s1 (au sQ) ?_
 refine sa ?_
 iterate 4 refine aH rfl rfl rfl ?_
 refine s1 (au rfl) ?_
 refine sa ?_
 iterate 3 refine aH rfl rfl rfl ?_
 refine s1 (au rfl) ?_
 refine sa ?_
 iterate 4 refine aH rfl rfl rfl ?_
 refine s1 (au rfl) ?_
 refine sa ?_
 iterate 4 refine aH rfl rfl rfl ?_
 refine s1 (au rfl) ?_
 refine sa ?_
 refine .nil (hK _ _ ?_)
 cases h
 exact pe0 h0 []
 rintro ex tm' hp' ⟨rfl,hw⟩
 refine AW.weak hw (AW.seq ?_)
 obtain⟨qL,hy,h⟩:=ah h
 refine jn ((PE cx .normal (fun qL=>[(0,dB qL)]) fun qL=>⟨[],[],0⟩) qL) ?_ ?_
 replace h:=hy
 refine rqd [60,61,36,27] hx fun K hK=>?_
 iterate 2 refine sa ?_
 rcases aX mi with AO|AO
 replace h:=aZ AO h
 refine ga AO ?_
 obtain⟨hc78,h⟩:=aD h
 have hn79:((0:Int)).toNat<(qv.1).length:=by omega
 refine g1 AO (gk hc78 aP aA) ?_
 refine g1 (d:=dG aj ((qv.1)[((0:Int)).toNat]!)) AO (pm (c:=aj) (l:=qv.1) (n:=((0:Int)).toNat) (o:=0) aA hn79 (kC _ _ rfl)) ?_
 obtain⟨x80,hx81,h⟩:=ah h
 refine sqg tok rfl rfl AO (iP hx81) rfl (lA (an _) lAn) (.inl (gP _ _)) ?_
 refine g1 AO (vJ tok 4 (by decide) mK aA) ?_
 refine s1 (al AO) ?_
 refine sa ?_
 rcases aX (decide ((qv.1)[((0:Int)).toNat]! =x80)) with AL|AL
 replace h:=aZ AL h
 refine ga AL ?_
 obtain⟨hc83,h⟩:=aD h
 have hn84:((1:Int)).toNat<(qv.1).length:=by omega
 refine g1 AL (gk hc83 aP aA) ?_
 refine g1 (d:=dG aj ((qv.1)[((1:Int)).toNat]!)) AL (pm (c:=aj) (l:=qv.1) (n:=((1:Int)).toNat) (o:=0) aA hn84 (kC _ _ rfl)) ?_
 obtain⟨x85,hx86,h⟩:=ah h
 refine sqg tok rfl rfl AL (DC hx86) rfl (lA (an _) (lA (an _) lAn)) (.inl (gP _ _)) ?_
 refine g1 AL (vJ tok 4 (by decide) mK aA) ?_
 refine s1 (al AL) ?_
 refine sa ?_
 rcases aX (decide ((qv.1)[((1:Int)).toNat]! =x85)) with zD|zD
 replace h:=aZ zD h
 refine ga zD ?_
 obtain⟨hc88,h⟩:=aD h
 have hn89:((0:Int)).toNat<(xc.1).length:=by omega
 refine g1 zD (gk hc88 l5 aP) ?_
 refine g1 zD (oL (c:=(cL aj)) (l:=xc.1) (n:=((0:Int)).toNat) (o:=0) aP hn89) ?_
 refine g1 zD (yC bV aY) ?_
 obtain⟨x90,hx91,h⟩:=ah h
 refine sqg tok rfl rfl zD (m3 hx91) rfl (lA (an _) lAn) (.inl rfl) ?_
 obtain⟨x92,hx93,h⟩:=ah h
 refine sqg tok rfl rfl zD (nT hx93) rfl (lA (an _) (lA (an _) lAn)) (.inl rfl) ?_
 refine s1 (al zD) ?_
 refine sa ?_
 rcases aX x92 with zC|zC
 replace h:=aZ zC h
 refine ga zC ?_
 obtain⟨hc95,h⟩:=aD h
 have hn96:((1:Int)).toNat<(xc.1).length:=by omega
 refine g1 zC (gk hc95 l5 aP) ?_
 refine g1 zC (oL (c:=(cL aj)) (l:=xc.1) (n:=((1:Int)).toNat) (o:=0) aP hn96) ?_
 refine g1 zC (yC bV aY) ?_
 obtain⟨x97,hx98,h⟩:=ah h
 refine sqg tok rfl rfl zC (m3 hx98) rfl (lA (an _) lAn) (.inl rfl) ?_
 obtain⟨x99,hx100,h⟩:=ah h
 refine sqg tok rfl rfl zC (nT hx100) rfl (lA (an _) (lA (an _) lAn)) (.inl rfl) ?_
 refine s1 (al zC) ?_
 refine sa ?_
 rcases aX x99 with AY|AY
 replace h:=aZ AY h
 refine ga AY ?_
 refine s1 (al AY) ?_
 refine sa ?_
 rcases aX zX.1 with AX|AX
 replace h:=aZ AX h
 iterate 2 refine ga AX ?_
 refine s1 (al AX) ?_
 refine sa ?_
 refine .nil (hK _ _ ?_)
 cases h
 exact pe0 h0 []
 replace h:=a3 AX h
 iterate 2 refine aH rfl rfl AX ?_
 refine s1 (au AX) ?_
 refine sa ?_
 refine .nil (hK _ _ ?_)
 cases h
 exact pe0 h0 []
 replace h:=a3 AY h
 refine aH rfl rfl AY ?_
 refine s1 (au AY) ?_
 refine sa ?_
 iterate 2 refine aH rfl rfl rfl ?_
 refine s1 (au rfl) ?_
 refine sa ?_
 refine .nil (hK _ _ ?_)
 cases h
 exact pe0 h0 []
 replace h:=a3 zC h
 iterate 6 refine aH rfl rfl zC ?_
 refine s1 (au zC) ?_
 refine sa ?_
 refine aH rfl rfl rfl ?_
 refine s1 (au rfl) ?_
 refine sa ?_
 iterate 2 refine aH rfl rfl rfl ?_
 refine s1 (au rfl) ?_
 refine sa ?_
 refine .nil (hK _ _ ?_)
 cases h
 exact pe0 h0 []
 replace h:=a3 zD h
 iterate 6 refine aH rfl rfl zD ?_
 refine s1 (au zD) ?_
 refine sa ?_
 iterate 6 refine aH rfl rfl rfl ?_
 refine s1 (au rfl) ?_
 refine sa ?_
 refine aH rfl rfl rfl ?_
 refine s1 (au rfl) ?_
 refine sa ?_
 iterate 2 refine aH rfl rfl rfl ?_
 refine s1 (au rfl) ?_
 refine sa ?_
 refine .nil (hK _ _ ?_)
 cases h
 exact pe0 h0 []
 replace h:=a3 AL h
 iterate 5 refine aH rfl rfl AL ?_
 refine s1 (au AL) ?_
 refine sa ?_
 iterate 6 refine aH rfl rfl rfl ?_
 refine s1 (au rfl) ?_
 refine sa ?_
 iterate 6 refine aH rfl rfl rfl ?_
 refine s1 (au rfl) ?_
 refine sa ?_
 refine aH rfl rfl rfl ?_
 refine s1 (au rfl) ?_
 refine sa ?_
 iterate 2 refine aH rfl rfl rfl ?_
 refine s1 (au rfl) ?_
 refine sa ?_
 refine .nil (hK _ _ ?_)
 cases h
 exact pe0 h0 []
 replace h:=a3 AO h
 iterate 5 refine aH rfl rfl AO ?_
 refine s1 (au AO) ?_
 refine sa ?_
 iterate 5 refine aH rfl rfl rfl ?_
 refine s1 (au rfl) ?_
 refine sa ?_
 iterate 6 refine aH rfl rfl rfl ?_
 refine s1 (au rfl) ?_
 refine sa ?_
 iterate 6 refine aH rfl rfl rfl ?_
 refine s1 (au rfl) ?_
 refine sa ?_
 refine aH rfl rfl rfl ?_
 refine s1 (au rfl) ?_
 refine sa ?_
 iterate 2 refine aH rfl rfl rfl ?_
 refine s1 (au rfl) ?_
 refine sa ?_
 refine .nil (hK _ _ ?_)
 cases h
 exact pe0 h0 []
 rintro ex tm' hp' ⟨rfl,hw⟩
 refine AW.weak hw (AW.ret ?_)
 cases h
 exact rv1
theorem OK {A k:Nat}(h:A<2 ^ (k+1))(hb:(dg 65536 A (k / 16) / 2 ^ (k % 16)) % 2=0):A<2 ^ k:=by
 have e1:(dg 65536 A (k / 16)).testBit (k % 16)=A.testBit k:=by
  unfold dg
  rw[show (65536:Nat) ^ (k / 16)=2 ^ (16*(k / 16)) by rw[Df],show (65536:Nat)=2 ^ 16 by decide,Nat.testBit_mod_two_pow,Nat.testBit_div_two_pow,dU (dv _ (by decide)),G1]
  congr 1;omega
 rw[al_44,al_44] at e1
 have h2:A / 2 ^ k % 2=0:=by
  rcases Nat.mod_two_eq_zero_or_one (A / 2 ^ k) with h3|h3
  ·exact h3
  ·rw[h3] at e1
   have:=pi (e1.trans (dU rfl))
   omega
 have h3:A / 2 ^ k<2:=by rw[nR (cJ (by decide))];rw[eF] at h;omega
 have h4:A / 2 ^ k=0:=by
  generalize A / 2 ^ k=q at h2 h3
  omega
 rcases Nat.div_eq_zero_iff.1 h4 with h5|h5
 ·have:=cJ (n:=k) (show 0<2 by decide);omega
 ·exact h5
theorem R_bit {A k:Nat}(hk:k≤100000):oE (dl A) (k:Int)=some (((dg 65536 A (k / 16) / 2 ^ (k % 16)) % 2:Nat):Int):=by
 unfold oE
 have e1:i64.wrap (Int.tdiv (k:Int) (16:Int))=((k / 16:Nat):Int):=by
  rw[Int.tdiv_eq_ediv_of_nonneg (by omega),w64];omega
 have e2:Int.tmod (k:Int) (16:Int)=((k % 16:Nat):Int):=by
  rw[Int.tmod_eq_emod_of_nonneg (by omega)];rfl
 rw[e1,e2,show dl A=dk (sz6 A) A from rfl,sA (jH A),ab,aJ,xN _ _ _ (by have:k % 16<16:=dv _ (by decide);show k % 16≤64;omega)]
 generalize dg 65536 A (k / 16) / 2 ^ (k % 16)=q
 have e3:Int.tmod (q:Int) 2=((q % 2:Nat):Int):=by rw[Int.tmod_eq_emod_of_nonneg (by omega)];rfl
 rw[e3]
theorem R_Bits {z:Int}(hz:z.natAbs<LIM):∃n:Nat,et (enc z)=some (n:Int)∧z.natAbs<2 ^ n:=by
 have hsz:sz6 z.natAbs≤32:=qP (bT hz (by decide))
 have bF:=jH z.natAbs
 have hlen:=Ix z.natAbs
 obtain⟨x,hl,hx⟩:=uD (b:=lH (dl z.natAbs)) (fun s:Int=>0≤s∧s≤512∧z.natAbs<2 ^ s.toNat) (fun s=>s.toNat) (fun x=>0≤x∧x≤512∧z.natAbs<2 ^ x.toNat) (fun s ⟨h1,h2,h3⟩=>by
  unfold lH
  by_cases h0:0<s
  ·obtain⟨k,rfl⟩:∃k:Nat,s=(k:Int)+1:=⟨(s - 1).toNat,by omega⟩
   rw[bw _ _ h0,w64 (n:=(k:Int)+1 - 1),show (k:Int)+1 - 1=(k:Int) by omega,R_bit (by omega),ab]
   have e:((k:Int)+1).toNat=k+1:=by omega
   rw[e] at h3
   by_cases hb:(dg 65536 z.natAbs (k / 16) / 2 ^ (k % 16)) % 2=0
   ·refine .inl ⟨(k:Int),?_,⟨by omega,by omega,?_⟩,by omega⟩
    ·rw[det_];rfl
    ·rw[show ((k:Int)).toNat=k by omega];exact OK h3 hb
   ·refine .inr ⟨(k:Int)+1,?_,by omega,by omega,by rw[e];exact h3⟩
    rw[def_];rfl
  ·obtain rfl:s=0:=by omega
   exact .inr ⟨0,by rw[bx _ _ h0];rfl,by omega,by omega,h3⟩) (16*(sz6 z.natAbs:Int)) ⟨by omega,by omega,by
   rw[show (16*(sz6 z.natAbs:Int)).toNat=16*sz6 z.natAbs by omega,Df];exact bF⟩
 refine⟨x.toNat,?_,hx.2.2⟩
 unfold et
 rw[lM,bN hz,ab,rF hz]
 rw[show (!true)=false from rfl,kF]
 simp only[ab]
 rw[hlen,w64,hl,ab]
 congr 1;omega
theorem Hj {x:aq}(h:okI x):∃n:Int,et x=some n:=by
 cases hg:dm x with
 |true=>
  obtain⟨z,hz,rfl⟩:=tv h hg
  obtain⟨n,hn,_⟩:=R_Bits hz
  exact⟨n,hn⟩
 |false=>
  refine⟨0,?_⟩
  unfold et
  rw[lM,hg];rfl
theorem Q_Small {l:List Nu}(hl:l.length≤1000000):∃b,l8 (l.map nv)=some b:=by
 obtain⟨fN,hN⟩:∃fN:Nat→Int,fN=fun i=>(et (nv l[i]!).vN).getD 0:=⟨_,rfl⟩
 obtain⟨fD,hD⟩:∃fD:Nat→Int,fD=fun i=>(et (nv l[i]!).vD).getD 0:=⟨_,rfl⟩
 unfold l8
 rw[HQ (b:=je (l.map nv)) (n:=l.length) hl (fun i=>!(decide (60<fN i)||decide (60<fD i))) (fun i hi=>by
  unfold je
  rw[ew,bw _ _,aJ,aJ,bL,JD hi]
  obtain⟨n1,h1⟩:=Hj (l[i]!).2.1
  obtain⟨n2,h2⟩:=Hj (l[i]!).2.2
  have h1:et (nv l[i]!).vN=some n1:=h1
  have h2:et (nv l[i]!).vD=some n2:=h2
  have e1:fN i=n1:=by rw[hN];dsimp only;rw[h1];rfl
  have e2:fD i=n2:=by rw[hD];dsimp only;rw[h2];rfl
  rw[h1,h2,e1,e2]
  simp only[ab,kOr,Bool.not_not]) (by
  unfold je
  rw[ew,bx _ _])]
 cases (List.range l.length).all fun i=>!(decide (60<fN i)||decide (60<fD i))
 ·exact⟨false,rfl⟩
 ·exact⟨true,rfl⟩
theorem KC {R C:Int}{V:List Nu}:∃b,kb (mS R C V)=some b∧(b=true→V.length≤60∧(a8 R C V=0→R≤6∧C≤7)):=by
 unfold kb
 dsimp only
 rw[ew]
 by_cases h:(60:Int)<V.length
 ·rw[bw _ _ h];exact⟨false,rfl,fun h=>by cases h⟩
 ·rw[bx _ _ h,Q_valid (by omega)]
  simp only[ab]
  by_cases hv:a8 R C V=0
  ·rw[show (!decide (a8 R C V=0))=false by simp[hv],kF]
   by_cases h1:R≤6
   ·by_cases h2:C≤7
    ·rw[bw _ _ h1,bw _ _ h2]
     obtain⟨b,hb⟩:=Q_Small (l:=V) (by omega)
     rw[hb]
     exact⟨b,rfl,fun _=>⟨by omega,fun _=>⟨h1,h2⟩⟩⟩
    ·rw[bw _ _ h1,bx _ _ h2];exact⟨false,rfl,fun h=>by cases h⟩
   ·rw[bx _ _ h1];exact⟨false,rfl,fun h=>by cases h⟩
  ·rw[show (!decide (a8 R C V=0))=true by simp[hv],kT]
   exact⟨true,rfl,fun _=>⟨by omega,fun h=>absurd h hv⟩⟩
theorem all_eqL {α:Type}[DecidableEq α][Inhabited α]{a b:List α}(h:a.length=b.length):(List.range a.length).all (fun i=>decide (a[i]! =b[i]!))=decide (a=b):=by
 rw[De,bZ,qJ]
 constructor
 ·intro hh
  refine Ku h fun i h1 h2=>?_
  have:=pi (hh i (wO.2 h1))
  rwa[eG a i h1,eG b i h2] at this
 ·rintro rfl i _
  exact dU rfl
theorem BN {a b:List ak}(ha:a.length≤1000000):cZ a b=some (decide (a=b)):=by
 unfold cZ
 by_cases h:a.length=b.length
 ·rw[bx _ _,HQ (b:=fH a b) (n:=a.length) ha (fun i=>decide (a[i]! =b[i]!)) (fun i hi=>by
   unfold fH
   rw[bw _ _,aJ,aJ,bL]
   rw[show decide (¬a[i]! =b[i]!)= !decide (a[i]! =b[i]!) from dne _ _]) (by
   unfold fH
   rw[bx _ _])]
  rw[all_eqL h]
  cases decide (a=b) <;> rfl
 ·rw[bw _ _,jw (fun e=>h (by rw[e]))]
theorem Q_Same {a b:aB}(ha:a.vV.length≤1000000):ep a b=some (decide (a=b)):=by
 unfold ep
 rw[BN ha]
 obtain⟨R,C,V⟩:=a
 obtain⟨R',C',V'⟩:=b
 dsimp only
 by_cases h1:R=R'
 ·by_cases h2:C=C'
  ·rw[bw _ _ h1,bw _ _ h2]
   simp only[ab]
   rw[h1,h2]
   by_cases h3:V=V'
   ·rw[h3];simp
   ·rw[jw h3,jw (fun e=>h3 (by injection e))]
  ·rw[bw _ _ h1,bx _ _ h2,jw (fun e=>h2 (by injection e))];rfl
 ·rw[bx _ _ h1,jw (fun e=>h1 (by injection e))];rfl
theorem E5 {r c:Int}{l:List Int}(hl:l.length≤1000)(h:∀i,i<l.length→-1000≤l[i]!∧l[i]!≤1000):fB r c l=some (mS r c (l.map nOf)):=by
 unfold fB
 have key:=lb (b:=mc l) (fun i:Nat=>((i:Int),((l.take i).map nOf).map nv)) 0 l.length ((l.map nOf).map nv) (dZ _) (fun i _ hi=>?_) ?_
 ·have e:((((0:Nat):Int),((l.take 0).map nOf).map nv))=((0:Int),([]:List ak)):=by simp
  rw[e] at key
  rw[key];rfl
 ·unfold mc
  dsimp only
  have No:l.take (i+1)=l.take i++[l[i]!]:=by rw[List.take_add_one,e7 hi,eG l i hi];rfl
  obtain⟨h1,h2⟩:=h i hi
  rw[bw _ _,aJ,bL,uOf,ab,aJ (by simp;omega),w64,No]
  simp only[mg,cp,dh]
  rfl
 ·unfold mc
  dsimp only
  rw[bx _ _,jD (aL _)]
theorem BT {l:List Int}(hl:l.length≤1000)(h:∀i,i<l.length→-1000≤l[i]!∧l[i]!≤1000):gv l=some ((l.map nOf).map nv):=by
 unfold gv
 rw[E5 hl h];rfl
def fr(a b:Int):Nu:=nuR (some (Rat.divInt a b))
theorem s1T:zL 2 2 ([1,2,3,4].map nOf)=(mS 2 2 ([1,0,0,1].map nOf),[0,1],0):=by decide +kernel
theorem s2T:yh 2 2 ([1,2,3,4].map nOf)=(nv (nOf (-2)),0):=by decide +kernel
theorem s3T:zL 2 3 ([0,2,4,0,1,2].map nOf)=(mS 2 3 ([0,1,2,0,0,0].map nOf),[1],0):=by decide +kernel
theorem s4T:FJ 2 2 ([1,2,3,4].map nOf) ([5,6].map nOf)=([nv (nOf (-4)),nv (fr 9 2)],0):=by decide +kernel
theorem s5T:FJ 1 2 ([1,1].map nOf) ([2].map nOf)=([],70):=by decide +kernel
theorem s6T:FJ 2 1 ([1,1].map nOf) ([1,2].map nOf)=([],200):=by decide +kernel
theorem s7T:JC 1 3 ([1,2,3].map nOf)=([[-2,1,0].map nOf,[-3,0,1].map nOf],0):=by decide +kernel
theorem s8T:Jz 2 2 ([2,1,1,2].map nOf)=(true,0):=by decide +kernel
theorem s9T:Jz 2 2 ([1,2,2,1].map nOf)=(false,0):=by decide +kernel
theorem sFrac:np 9 2=some (nv (fr 9 2)):=by
 unfold np
 rw[E8 (by decide) (by decide),ab,E8 (by decide) (by decide),ab,yG (by decide) (by decide) (by decide),ab]
 rfl
theorem FM {a b:aB}(ha:a.vV.length≤1000000)(h:a=b):ep a b=some true:=by rw[Q_Same ha,dU h]
theorem sList {a:List ak}(ha:a.length≤1000000):cZ a a=some true:=by rw[BN ha,dU rfl]
theorem Hf:d9=some true:=by
 have o1:=E5 (r:=2) (c:=2) (l:=[1,2,3,4]) (by decide) (by decide)
 have o2:=E5 (r:=2) (c:=3) (l:=[0,2,4,0,1,2]) (by decide) (by decide)
 have o3:=BT (l:=[5,6]) (by decide) (by decide)
 have o4:=E5 (r:=1) (c:=2) (l:=[1,1]) (by decide) (by decide)
 have o5:=BT (l:=[2]) (by decide) (by decide)
 have o6:=E5 (r:=2) (c:=1) (l:=[1,1]) (by decide) (by decide)
 have o7:=BT (l:=[1,2]) (by decide) (by decide)
 have o8:=E5 (r:=1) (c:=3) (l:=[1,2,3]) (by decide) (by decide)
 have o9:=E5 (r:=2) (c:=2) (l:=[2,1,1,2]) (by decide) (by decide)
 have o10:=E5 (r:=2) (c:=2) (l:=[1,2,2,1]) (by decide) (by decide)
 have o11:=E5 (r:=2) (c:=3) (l:=[0,1,2,0,0,0]) (by decide) (by decide)
 have o12:=BT (l:=[-2,1,0]) (by decide) (by decide)
 have o13:=BT (l:=[-3,0,1]) (by decide) (by decide)
 have r1:=(Hb (R:=2) (C:=2) (V:=[1,2,3,4].map nOf) (by decide)).trans (congrArg some s1T)
 have r2:=(BR (R:=2) (C:=2) (V:=[1,2,3,4].map nOf) (by decide)).trans (congrArg some s2T)
 have r3:=(Hb (R:=2) (C:=3) (V:=[0,2,4,0,1,2].map nOf) (by decide)).trans (congrArg some s3T)
 have r4:=(E4 (R:=2) (C:=2) (A:=[1,2,3,4].map nOf) (b:=[5,6].map nOf) (by decide) (by decide)).trans (congrArg some s4T)
 have r5:=(E4 (R:=1) (C:=2) (A:=[1,1].map nOf) (b:=[2].map nOf) (by decide) (by decide)).trans (congrArg some s5T)
 have r6:=(E4 (R:=2) (C:=1) (A:=[1,1].map nOf) (b:=[1,2].map nOf) (by decide) (by decide)).trans (congrArg some s6T)
 have r7:kg (mS 1 3 ([1,2,3].map nOf))=some ([([-2,1,0].map nOf).map nv,([-3,0,1].map nOf).map nv],0):=(P_Null (R:=1) (C:=3) (V:=[1,2,3].map nOf) (by decide)).trans (by rw[s7T];rfl)
 have r8:=(BQ (R:=2) (C:=2) (V:=[2,1,1,2].map nOf) (by decide)).trans (congrArg some s8T)
 have r9:=(BQ (R:=2) (C:=2) (V:=[1,2,2,1].map nOf) (by decide)).trans (congrArg some s9T)
 have u1:=uOf (n:=-2) (by decide) (by decide)
 have u2:=uOf (n:=-4) (by decide) (by decide)
 have e1:ep (mS 2 2 ([1,0,0,1].map nOf)) (idP 2)=some true:=FM (by decide) rfl
 have e2:ep (mS 2 3 ([0,1,2,0,0,0].map nOf)) (mS 2 3 ([0,1,2,0,0,0].map nOf))=some true:=FM (by decide) rfl
 have e3:cZ (([-2,1,0].map nOf).map nv) (([-2,1,0].map nOf).map nv)=some true:=sList (by decide)
 have e4:cZ (([-3,0,1].map nOf).map nv) (([-3,0,1].map nOf).map nv)=some true:=sList (by decide)
 unfold d9
 rw[o1,ab,r1,ab,r2,ab,o2,ab,r3,ab,o3,ab,r4,ab,o4,ab,o5,ab,r5,ab,o6,ab,o7,ab,r6,ab,o8,ab,r7,ab,o9,ab,r8,ab,o10,ab,r9,ab]
 refine (congrArg (fun o=>bnd o _) (show _=some false from rfl)).trans ?_
 rw[ab,kF,vM,ab,o11,u1,u2,sFrac,o12,o13]
 refine (congrArg (fun o=>bnd o _) (show _=some true from ?_)).trans ?_
 ·refine (congrArg (fun o=>bnd o _) e1).trans ?_
  rw[ab,kT,aJ (by decide)]
  refine (bw _ _ (by rfl)).trans ?_
  rw[aJ (by decide)]
  refine (bw _ _ (by rfl)).trans ?_
  rw[ab]
  refine (bw _ _ (by rfl)).trans ?_
  rw[ab]
  refine (congrArg (fun o=>bnd o _) e2).trans ?_
  rfl
 ·rw[ab]
  refine (congrArg (fun o=>bnd o _) (show _=some true from ?_)).trans ?_
  ·rw[kT,aJ (by decide),ab]
   refine (bw _ _ (by rfl)).trans ?_
   rw[aJ (by decide),ab]
   refine (bw _ _ (by rfl)).trans ?_
   rw[aJ (by decide),ab]
   refine (congrArg (fun o=>bnd o _) e3).trans ?_
   rw[ab,kT,aJ (by decide),ab]
   refine (congrArg (fun o=>bnd o _) e4).trans ?_
   rfl
  ·rfl
theorem Ar {α:Type}{R C:Nat}{f:Nat→Nat→α}(hR:R≤400)(hC:C≤400):(mkM R C f).length≤1000000:=by
 have:R*C≤400*400:=pC hR hC
 rw[c9];omega
theorem D3 {n:Int}:(idP n).vV.length≤1000000:=by
 unfold idP
 split
 ·exact dZ _
 ·rw[ew];exact Ar (by omega) (by omega)
theorem Kc {C K:Nat}{A B:List Nu}{i k:Nat}:∀n,aR (Eo C K A B i k n)=true→rv (Eo C K A B i k n)=cl (n+1) fun j=>rv A[i*C+j]! *rv B[j*K+k]!
 |0,h=>by
  unfold Eo at h ⊢
  obtain⟨h1,h2⟩:=wA h
  rw[wo h1 h2 h]
  show _=0+rv A[i*C+0]! *rv B[0*K+k]!
  rw[mf,fj,br];grind
 |n+1,h=>by
  unfold Eo at h
  obtain⟨h1,h2⟩:=GA h
  obtain⟨h3,h4⟩:=wA h2
  show rv (Cj _ _)=cl (n+1) _+_
  rw[JE h1 h2 h,Kc n h1,wo h3 h4 h2]
theorem JG {C K:Nat}{A B:List Nu}{i k:Nat}(h:aR (tf C K A B i k)=true):rv (tf C K A B i k)=cl C fun j=>rv A[i*C+j]! *rv B[j*K+k]! :=by
 unfold tf at h ⊢
 by_cases h0:C=0
 ·rw[az h0,h0,of0.2];rfl
 ·rw[ay h0] at h ⊢
  have:=Kc _ h
  rw[this,show C - 1+1=C by omega]
theorem JF {R C R' C':Int}{A B:List Nu}(h:(u6 R C A R' C' B).2=0):∃r c k:Nat,R=r∧C=c∧R'=c∧C'=k∧MV r c A∧MV c k B∧(mkM r k (tf c k A B)).all aR=true∧u6 R C A R' C' B=(mS r k (mkM r k (tf c k A B)),0):=by
 unfold u6 at h ⊢
 by_cases h0:a8 R C A=0∧a8 R' C' B=0∧C=R'
 ·rw[az h0] at h ⊢
  obtain⟨h1,h2,rfl⟩:=h0
  obtain⟨r,c,rfl,rfl,hm⟩:=eS.1 h1
  obtain⟨r',c',hr,rfl,wx⟩:=eS.1 h2
  obtain rfl:c=r':=by omega
  rw[bL,bL,bL] at h ⊢
  refine⟨r,c,c',rfl,rfl,rfl,rfl,hm,wx,?_⟩
  unfold iu at h ⊢
  cases hg:(mkM r c' (tf c c' A B)).all aR with
  |true=>exact⟨rfl,rfl⟩
  |false=>
   rw[hg] at h
   exact absurd h (by show ¬(30:Int)=0;decide)
 ·rw[ay h0] at h
  exact absurd h (by decide)
theorem Et {acc:List Pv}{j:Nat}(hj:j<acc.length):(acc.map (·.col))[j]! =oI acc j:=by
 unfold oI
 rw[eG (acc.map (·.col)) j (by rw[ew];exact hj),eG acc j hj,Kv]
theorem Eu {acc:List Pv}(hs:(acc.map Pv.col).Pairwise (·<·))(i:Nat):∀d,i+d<acc.length→oI acc i+d≤oI acc (i+d)
 |0,_=>aL _
 |d+1,h=>by
  have h1:=Eu hs i d (by omega)
  have h2:=colN_lt hs (show i+d<i+(d+1) by omega) h
  omega
theorem Pf {n:Nat}{U:List Nu}(hU:U.length=n*(n+n))(hg:U.all aR=true):iu n n (mkM n n (Ck n U))=(mS n n (mkM n n (Ck n U)),0):=pW fun i k hi hk=>tZ hg (by rw[hU];exact cd hi (by omega))
theorem OQ {n:Nat}{A:List Nu}(hm:MV n n A):(mkM n (n+n) (rA n n A (mkM n n idF))).all aR=true:=pw.2 fun i k hi hk=>by
 have h1:=id_MV hm.r
 unfold rA
 split
 ·rename_i h;exact hm.gd (cd hi h)
 ·exact h1.gd (cd hi (by omega))
section
def u7(n:Nat)(f g:RM):RM:=fun i k=>cl n fun j=>f i j*g j k
theorem Ae {n:Nat}(a:Nat→Rat){i:Nat}(hi:i<n):cl n (fun j=>eJ i j*a j)=a i:=xt a hi
theorem s6 {n:Nat}(a:Nat→Rat){k:Nat}(hk:k<n):cl n (fun j=>a j*eJ j k)=a k:=by
 rw[bk (g:=fun j=>(if k=j then 1 else 0)*a j) fun j _=>by
  unfold eJ
  by_cases h:j=k
  ·rw[az h,az h.symm];grind
  ·rw[ay h,ay (lP h)];grind,xt a hk]
section
variable {n:Nat} {f g:RM}
theorem wI:det n (u7 n f g)=det n f*det n g:=by
 have hD:oe n fun f=>det n (u7 n f g):=by
  refine⟨fun f f' h=>?_,fun f a b ha hb ya=>?_,fun f r c hr=>?_,fun f r i c hr hi NT=>?_⟩
  ·exact (bX n).congr _ _ fun i k hi hk=>bk fun j hj=>by rw[h i j hi hj]
  ·rw[←(bX n).swap _ a b ha hb ya]
   refine (bX n).congr _ _ fun i k _ _=>?_
   show cl n (fun j=>d5 f a b i j*g j k)=d5 (u7 n f g) a b i k
   unfold d5
   by_cases h1:i=a
   ·simp only[h1,aN];rfl
   ·by_cases h2:i=b
    ·simp only[ay h1,az h2];rfl
    ·simp only[ay h1,ay h2];rfl
  ·rw[←(bX n).scale _ r c hr]
   refine (bX n).congr _ _ fun i k _ _=>?_
   show cl n (fun j=>(if i=r then c*f r j else f i j)*g j k)=if i=r then c*u7 n f g r k else u7 n f g i k
   by_cases h1:i=r
   ·simp only[az h1]
    unfold u7
    rw[←kV]
    exact bk fun j _=>by grind
   ·simp only[ay h1];rfl
  ·rw[←(bX n).add (u7 n f g) r i c hr hi NT]
   refine (bX n).congr _ _ fun j k _ _=>?_
   show cl n (fun t=>(if j=i then f i t+c*f r t else f j t)*g t k)=if j=i then u7 n f g i k+c*u7 n f g r k else u7 n f g j k
   by_cases h1:j=i
   ·simp only[az h1]
    unfold u7
    rw[←kV,←ox]
    exact bk fun j _=>by grind
   ·simp only[ay h1];rfl
 rw[hD.unique (bX n) (nt n) f]
 congr 1
 exact (bX n).congr _ _ fun i k hi _=>Ae (fun j=>g j k) hi
abbrev trM(f:RM):RM:=fun i k=>f k i
theorem Ox:det n (trM f)=det n f:=by
 have hD:oe n fun f=>det n (trM f):=by
  refine⟨fun f f' h=>?_,fun f a b ha hb ya=>?_,fun f r c hr=>?_,fun f r i c hr hi NT=>?_⟩
  ·exact (bX n).congr _ _ fun i k hi hk=>h k i hk hi
  ·have h1:det n (trM (d5 f a b))=det n (u7 n (trM f) (d5 eJ a b)):=(bX n).congr _ _ fun i k hi hk=>by
    have e:∀j,d5 eJ a b j k=eJ j (if k=a then b else if k=b then a else k):=fun j=>by
     unfold d5 eJ
     (repeat' split) <;> first|rfl|(exfalso;omega)
    have xW:(if k=a then b else if k=b then a else k)<n:=by split <;> (try split) <;> omega
    show d5 f a b k i=cl n fun j=>f j i*d5 eJ a b j k
    rw[bk (g:=fun j=>f j i*eJ j (if k=a then b else if k=b then a else k)) fun j _=>by rw[e j],s6 (fun j=>f j i) xW]
    unfold d5
    by_cases h1:k=a
    ·simp only[az h1]
    ·by_cases h2:k=b
     ·simp only[ay h1,az h2]
     ·simp only[ay h1,ay h2]
   rw[h1,wI,(bX n).swap _ a b ha hb ya,nt]
   grind
  ·have h1:det n (trM fun i k=>if i=r then c*f r k else f i k)=det n (u7 n (trM f) fun i k=>if i=r then c*eJ r k else eJ i k):=(bX n).congr _ _ fun i k hi hk=>by
    show (if k=r then c*f r i else f k i)=cl n fun j=>f j i*(if j=r then c*eJ r k else eJ j k)
    rw[bk (g:=fun j=>((if k=r then c else 1)*f j i)*eJ j k) fun j _=>by
     unfold eJ
     by_cases e1:j=r
     ·by_cases e2:k=r
      ·simp only[e1,e2,aN];grind
      ·simp only[e1,aN,ay e2,ay (lP e2)];grind
     ·by_cases e2:k=r
      ·simp only[ay e1,e2,aN];grind
      ·simp only[ay e1,ay e2];grind,s6 (fun j=>(if k=r then c else 1)*f j i) hk]
    by_cases e2:k=r
    ·rw[az e2,az e2,e2]
    ·rw[ay e2,ay e2];grind
   rw[h1,wI,(bX n).scale eJ r c hr,nt]
   grind
  ·have h1:det n (trM fun j k=>if j=i then f i k+c*f r k else f j k)=det n (u7 n (trM f) fun j k=>if j=r then eJ r k+c*eJ i k else eJ j k):=(bX n).congr _ _ fun a k ha hk=>by
    show (if k=i then f i a+c*f r a else f k a)=cl n fun j=>f j a*(if j=r then eJ r k+c*eJ i k else eJ j k)
    rw[bk (g:=fun j=>f j a*eJ j k+((if k=i then c else 0)*f j a)*eJ j r) fun j _=>by
     unfold eJ
     by_cases e1:j=r
     ·by_cases e2:k=i
      ·simp only[e1,e2,aN];grind
      ·simp only[e1,aN,ay e2,ay (lP e2)];grind
     ·simp only[ay e1];grind,ox,s6 (fun j=>f j a) hk,s6 (fun j=>(if k=i then c else 0)*f j a) hr]
    by_cases e2:k=i
    ·rw[az e2,az e2,e2]
    ·rw[ay e2,ay e2];grind
   rw[h1,wI,(bX n).add eJ i r c hi hr (lP NT),nt]
   grind
 rw[hD.unique (bX n) (nt n) f]
 have:det n (trM eJ)=1:=by
  rw[←nt n]
  refine (bX n).congr _ _ fun i k _ _=>?_
  show eJ k i=eJ i k
  unfold eJ
  by_cases e:i=k
  ·rw[az e,az e.symm]
  ·rw[ay e,ay (lP e)]
 show det n f*det n (trM eJ)=_
 rw[this];grind
theorem det_ker {y:Nat→Rat}(h:∀r,r<n→cl n (fun i=>f r i*y i)=0){m:Nat}(hm:m<n)(hy:y m=1):det n f=0:=by
 have:=cramer (n:=n) (trM f) hm y (fun _=>0) fun r hr=>by
  rw[←h r hr]
  exact bk fun i _=>by show f r i*y i=y i*f r i;grind
 rw[A6 _ hm,Ox,hy] at this
 grind
end
theorem uX(f:Nat→Rat)(n:Nat):∀m,cl (n+m) f=cl n f+cl m fun j=>f (n+j)
 |0=>by show cl n f=cl n f+0;grind
 |m+1=>by
  show cl (n+m) f+f (n+m)=cl n f+(cl m (fun j=>f (n+j))+f (n+m))
  rw[uX f n m];grind
section
variable {n:Nat} {A U:List Nu} {acc:List Pv}
theorem id_rv(i k:Nat):rv (idF i k)=eJ i k:=by
 unfold idF eJ
 split
 ·exact of1.2
 ·exact of0.2
theorem Hz(x:Nat→Rat):vK (toR (n+n) (mkM n (n+n) (rA n n A (mkM n n idF)))) n (n+n) x↔∀i,i<n→cl n (fun j=>toR n A i j*x j)+x (n+i)=0:=by
 have e:∀i,i<n→cl (n+n) (fun k=>toR (n+n) (mkM n (n+n) (rA n n A (mkM n n idF))) i k*x k)=cl n (fun j=>toR n A i j*x j)+x (n+i):=fun i hi=>by
  rw[uX]
  congr 1
  ·refine bk fun t ht=>?_
   unfold toR
   rw[rS hi (by omega)]
   unfold rA
   rw[az ht]
  ·rw[bk (g:=fun j=>eJ i j*x (n+j)) fun j hj=>by
    unfold toR
    rw[rS hi (by omega)]
    unfold rA
    rw[ifn_,Bl,rS hi hj,id_rv]]
   exact Ae (fun j=>x (n+j)) hi
 exact⟨fun h i hi=>by rw[←e i hi];exact h i hi,fun h i hi=>by rw[e i hi];exact h i hi⟩
theorem wj {k:Nat}(h:∀j,j<acc.length→oI acc j≠k):k∉acc.map (·.col):=fun hk=>by
 obtain⟨j,hj,he⟩:=DZ hk
 rw[ew] at hj
 rw[Et hj] at he
 exact h j hj he
theorem Gi(hok:KB n (n+n) (toR (n+n) (mkM n (n+n) (rA n n A (mkM n n idF)))) U acc){k:Nat}(hk:k<n)(h:∀j,j<acc.length→oI acc j≠k):det n (toR n A)=0:=by
 have hs:=(Hz _).1 ((hok.sol _).1 (CR hok.red (wj h) (show k<n+n by omega)))
 refine det_ker (y:=m6 (toR (n+n) U) (acc.map (·.col)) k) (fun r hr=>?_) hk (u4 k)
 have:=hs r hr
 rw[HK hok.red (wj h) (show k<n+r by omega)] at this
 grind
theorem Nc(hok:KB n (n+n) (toR (n+n) (mkM n (n+n) (rA n n A (mkM n n idF)))) U acc)(hj:∀j,j<acc.length→oI acc j=j):acc.length=n∧det n (toR n A)≠0∧(∀i k,i<n→k<n→cl n (fun j=>toR n A i j*rv (Ck n U j k))=eJ i k)∧(∀i k,i<n→k<n→cl n (fun j=>rv (Ck n U i j)*toR n A j k)=eJ i k):=by
 have hle:=hok.red.le
 rw[ew] at hle
 have hnp:∀t,∀j,j<acc.length→oI acc j≠n+t:=fun t j h=>by rw[hj j h];omega
 have hs:∀t,t<n→∀i,i<n→cl n (fun j=>toR n A i j*m6 (toR (n+n) U) (acc.map (·.col)) (n+t) j)+m6 (toR (n+n) U) (acc.map (·.col)) (n+t) (n+i)=0:=fun t ht=>(Hz _).1 ((hok.sol _).1 (CR hok.red (wj (hnp t)) (show n+t<n+n by omega)))
 have hself:∀t i,m6 (toR (n+n) U) (acc.map (·.col)) (n+t) (n+i)=eJ i t:=fun t i=>by
  unfold eJ
  by_cases e:i=t
  ·rw[az e,e,u4]
  ·rw[ay e]
   exact td (by omega) (wj fun j h=>by rw[hj j h];omega)
 have Lm:det n (toR n A)≠0:=by
  have h1:det n (u7 n (toR n A) fun j t=>-m6 (toR (n+n) U) (acc.map (·.col)) (n+t) j)=det n eJ:=(bX n).congr _ _ fun i t hi ht=>by
   have h2:=hs t ht i hi
   rw[hself t i] at h2
   show cl n (fun j=>toR n A i j*-m6 (toR (n+n) U) (acc.map (·.col)) (n+t) j)=eJ i t
   rw[bk (g:=fun j=>(-1)*(toR n A i j*m6 (toR (n+n) U) (acc.map (·.col)) (n+t) j)) fun j _=>by grind,kV]
   grind
  rw[wI,nt] at h1
  intro h0
  rw[h0] at h1
  grind
 have hl:acc.length=n:=by
  rcases ci acc.length n with h|h
  ·exact absurd (Gi hok h fun j zB=>by rw[hj j zB];omega) Lm
  ·omega
 have hpiv:∀i j,i<n→j<n→toR (n+n) U i j=eJ i j:=fun i j hi zB=>by
  have:=hok.red.piv i j hi (by rw[ew];omega)
  rw[Et (by omega),hj j (by omega)] at this
  exact this
 have hB:∀i t,toR (n+n) U i (n+t)=rv (Ck n U i t):=fun i t=>rfl
 refine⟨hl,Lm,fun i t hi ht=>?_,fun i k hi hk=>?_⟩
 ·have h2:=hs t ht i hi
  rw[hself t i] at h2
  rw[bk (g:=fun j=>(-1)*(toR n A i j*m6 (toR (n+n) U) (acc.map (·.col)) (n+t) j)) fun j zB=>by
   have:=xC hok.red (wj (hnp t)) (j:=j) (by rw[ew];omega)
   rw[Et (by omega),hj j (by omega),hB j t] at this
   rw[this];grind,kV]
  grind
 ·have hx:=(hok.sol fun t=>if t<n then eJ t k else -toR n A (t - n) k).2 ((Hz _).2 fun i hi=>by
   rw[bk (g:=fun j=>toR n A i j*eJ j k) fun j zB=>by rw[az zB],s6 (fun j=>toR n A i j) hk,ifn_,Bl]
   grind)
  have h3:=hx i hi
  rw[uX,bk (g:=fun j=>eJ i j*eJ j k) fun j zB=>by
   show toR (n+n) U i j*(if j<n then eJ j k else -toR n A (j - n) k)=_
   rw[az zB,hpiv i j hi zB],Ae (fun j=>eJ j k) hi,bk (g:=fun j=>(-1)*(rv (Ck n U i j)*toR n A j k)) fun j zB=>by
   show toR (n+n) U i (n+j)*(if n+j<n then eJ (n+j) k else -toR n A (n+j - n) k)=_
   rw[ifn_,Bl,hB i j];grind,kV] at h3
  grind
end
end
section
open Go.ChangeShapes Go.WideShapes Go.ChangeAt Go.RowKit Go.Deep
section
variable {H:Type} {enc:TypeId×Value→H} {P:Program}
theorem Ch {f:Func}{s:ChangeSpec}{apart fresh handsOn again:Bool}{W W':World}{args:Array Value}{v:Value}{ds gs:List (DataW H)}{before pa pv:List MemPlace}
  (hW:DataW.Whole enc P f.params.toList s.vars apart W args.toList ds gs before)
  (lB:∀(b:Nat) (sp:Nat→Bool) (hd:Bool),DataW.TrodAll enc P W' b sp hd f.resultTypes.toList (v.resultList f.resultTypes.size) (s.fn H (ds++gs)).results [])
  (qE:∀sp:Nat→Bool,(∀p∈before,sp p.block=true)→DataW.TrodAll enc P W' 0 sp true f.params.toList args.toList (s.fn H (ds++gs)).args pa)
  (JQ:∀sp:Nat→Bool,(∀p∈before,sp p.block=true)→DataW.TrodVars enc P W' sp s.vars (s.fn H (ds++gs)).vars pv)
  (Nx:before=pa++pv) (hb:Below W.heap.size W W')
  (hok:∀(j:Nat) (t:TypeId) (r:Value),f.resultTypes[j]? =some t→(v.resultList f.resultTypes.size)[j]? =some r→Value.okWide P W' .any 0 t r):
  s.post enc P f apart fresh handsOn again W args v W':=by
 have bF:∀p∈before,p.block<W.heap.size:=fun p hp=>hW.lt p hp
 have hold:∀p∈before,(fun b=>decide (b<W.heap.size)) p.block=true:=fun p hp=>by simpa using bF p hp
 refine⟨ds,gs,before,[],pa,pv,hW,lB _ _ _,qE _ hold,JQ _ hold,World.keptBut_mono (fun p hp=>⟨hp,?_⟩) (hb.frame (·∈before)),fun _=>?_⟩
 ·rw[Nx,sK] at hp
  exact Or.inr hp
 ·obtain⟨_,_,_,_,_,hz,hn⟩:=hW
  refine⟨hok,_,_,([]++pa)++pv,⟨[]++pa,pv,trodAll_append (qE _ (fun _ _=>rfl)) (lB _ _ _),JQ _ (fun _ _=>rfl),rfl,?_,?_⟩,?_⟩
  ·intro b off hp
   have Cp:MemPlace.cell b off∈before:=by rw[Nx];simpa using hp
   rw[hb.frozen (bF _ Cp)]
   exact hz b off Cp
  ·intro ha
   have:=hn ha
   rw[Nx] at this
   simpa using this
  ·intro p hp _
   rw[Nx]
   simpa using hp
theorem Cf(hl:laidOutB P=true){W W':World}(hb:Below W.heap.size W W'){sp:Nat→Bool}:∀(ts:List TypeId) (vs:List Value) (ds:List (DataW H)) (p:List MemPlace),
  (ts.all fun t=>P.readableRec t&&decide (t<P.types.size))=true→DataW.TrodAll enc P W 0 (fun _=>true) true ts vs ds p→(∀x∈p,x.block<W.heap.size)→(∀x∈p,sp x.block=true)→
  DataW.TrodAll enc P W' 0 sp true ts vs ds p:=by
 intro ts
 induction ts with
 |nil=>
  intro vs ds p _ h _ _
  cases vs with
  |nil=>cases ds with
   |nil=>exact h
   |cons d ds=>exact h.elim
  |cons v vs=>exact h.elim
 |cons t ts ih=>
  intro vs ds p hr h bF hs
  cases vs with
  |nil=>exact h.elim
  |cons v vs=>
   cases ds with
   |nil=>exact h.elim
   |cons d ds=>
    obtain⟨p1,q,h1,h2,rfl⟩:=h
    simp only[jy,dW,qJ] at hr
    refine⟨p1,q,WideElems.Trod_stays hl hr.1.1 hr.1.2 h1 (fun x hx=>hb.same (bF x (by simp[hx]))) (fun x hx=>hs x (by simp[hx])),ih vs ds q hr.2 h2 (fun x hx=>bF x (by simp[hx])) (fun x hx=>hs x (by simp[hx])),rfl⟩
theorem M6 {f:Func}{s:ChangeSpec}{W W':World}{args:Array Value}{ds gs:List (DataW H)}{before:List MemPlace}{tb:TypeId}
  (hl:laidOutB P=true) (hv:s.vars=[]) (zx:(f.params.toList.all fun t=>P.readableRec t&&decide (t<P.types.size))=true)
  (lB:f.resultTypes=#[tb]) (htb:P.underlying tb=some .bool)
  (hW:DataW.Whole enc P f.params.toList s.vars false W args.toList ds gs before)
  (NX:s.fn H (ds++gs)={results:=[.lit (.bool true)],args:=ds}) (hb:Below W.heap.size W W'):
  s.post enc P f false true false false W args (.bool true) W':=by
 have hW':=hW
 obtain⟨p,q,hA,hV,hpq,_,_⟩:=hW
 rw[hv] at hV
 have hq:q=[]:=by
  cases gs with
  |nil=>exact hV
  |cons g gs=>exact hV.elim
 subst hq
 rw[tG] at hpq
 subst hpq
 refine Ch (pa:=before) (pv:=[]) hW' (fun b sp hd=>?_) (fun sp hsp=>?_) (fun sp _=>?_) (by simp) hb ?_
 ·rw[lB,NX]
  exact trodAll_cons_mk (shut_bool htb _) trodAll_mk0
 ·rw[NX]
  exact Cf hl hb _ _ _ _ zx hA (fun x hx=>hW'.lt x hx) hsp
 ·rw[hv,NX];rfl
 ·exact ok_one lB rfl (okWide_bool_mk htb _)
end
theorem hv_of {P:Program}{W:World}{params:Array TypeId}{args:Array Value}(h:∀(j:Nat) t v,params[j]? =some t→args[j]? =some v→Value.okWide P W .any 0 t v∨∃base,Value.okWide P W .any base t v)(j:Nat){t:TypeId}{v:Value}
  (h1:params[j]? =some t) (h2:args[j]? =some v):∃base,Value.okWide P W .any base t v:=by
 rcases h j t v h1 h2 with h|h
 ·exact⟨0,h⟩
 ·exact h
end
section
open Go.ChangeShapes Go.WideShapes Go.ChangeAt Go.RowKit Go.Deep
def wtFs(tb:TypeId→Option TyE)(f:TypeId→List E→Prop):List (Nat×TypeId)→List E→Prop
 |[],xs=>xs=[]
 |(_,t)::fs,xs=>∃j,tb t=some j∧j.size≤xs.length∧f t (xs.take j.size)∧wtFs tb f fs (xs.drop j.size)
def wtE(tb:TypeId→Option TyE):Nat→TypeId→List E→Prop
 |0,_,_=>False
 |k+1,t,xs=>∃i,tb t=some i∧xs.length=i.size∧match i.ty with
  | .int kd=>∃n,xs=[.lit (.int kd n)]∧(Lit.int kd n).wf=true
  | .bool=>∃b,xs=[.lit (.bool b)]
  | .str=>∃s:ByteArray,xs=[.lit (.string s)]∧s.size≤maxLen
  | .slice e=>∃j n ys,tb e=some j∧xs=[.sl j.size n ys]∧ys.length=n*j.size∧n≤maxLen∧∀i,i<n→wtE tb k e ((ys.drop (i*j.size)).take j.size)
  | .struct fs=>wtFs tb (wtE tb k) fs xs
  | .arr n e=>∃j,tb e=some j∧xs.length=n*j.size∧∀i,i<n→wtE tb k e ((xs.drop (i*j.size)).take j.size)
  |_=>False
def Ac(tb:TypeId→Option TyE)(f:TypeId→Bool):List (Nat×TypeId)→Nat→Nat→Bool
 |[],off,n=>off == n
 |(o,t)::fs,off,n=>o == off&&f t&&match tb t with
  |some j=>Ac tb f fs (off+j.size) n
  |none=>false
def DT(tb:TypeId→Option TyE):Nat→TypeId→Bool
 |0,_=>false
 |k+1,t=>match tb t with
  |some i=>match i.ty with
   | .int _| .bool| .str=>i.size == 1
   | .slice e=>i.size == 1&&DT tb k e&&match tb e with
    |some j=>decide (0<j.size)
    |none=>false
   | .struct fs=>Ac tb (DT tb k) fs 0 i.size
   | .arr n e=>DT tb k e&&match tb e with
    |some j=>i.size == n*j.size
    |none=>false
   |_=>false
  |none=>false
section
variable {H:Type} {enc:TypeId×Value→H} {P:Program} {tb:TypeId→Option TyE} {W:World} {sp:Nat→Bool} {hd:Bool} {base:Nat}
theorem TOk.cells(tok:TOk P tb){t:TypeId}{i:TyE}(h:tb t=some i):P.cellsOf t=i.size:=by
 obtain⟨f,z,h1,h2,_⟩:=tok.inf h
 unfold Program.cellsOf
 rw[h1]
 exact h2
def F0:Addr→Prop:=fun _=>False
theorem yi {z:Nat}{us:List Value}{Good:List E→Prop}:∀(n:Nat),us.length=n*z→(∀i,i<n→∃xs,Pw (cG W F0) xs ((us.drop (i*z)).take z)∧Good xs)→
  ∃ys,Pw (cG W F0) ys us∧ys.length=n*z∧∀i,i<n→Good ((ys.drop (i*z)).take z)
 |0,hl,_=>⟨[],by rw[fj] at hl;rw[kJ hl];exact Pw.nil,by simp,fun i h=>absurd h (zd _)⟩
 |n+1,hl,h=>by
  rw[rC] at hl
  have bF:(us.take (n*z)).length=n*z:=by rw[eI];omega
  obtain⟨ys,h1,h2,h3⟩:=yi (us:=us.take (n*z)) n bF fun i hi=>by
   obtain⟨xs,g1,g2⟩:=h i (by omega)
   have hm:i*z+z≤n*z:=by rw[←rC];exact cg _ hi
   refine⟨xs,?_,g2⟩
   rw[G0,Dd,tD (by omega)]
   exact g1
  obtain⟨xs,g1,g2⟩:=h n (by omega)
  have hx:xs.length=z:=by rw[g1.1,eI,gi];omega
  refine⟨ys++xs,?_,by rw[eT,h2,hx,rC],fun i hi=>?_⟩
  ·have e:us=us.take (n*z)++(us.drop (n*z)).take z:=by
    rw[jD (l:=us.drop (n*z)) (by rw[gi];omega),tC]
   rw[e]
   exact h1.append g1
  ·rcases ci i n with Cp|Cp
   ·have hm:i*z+z≤n*z:=by rw[←rC];exact cg _ Cp
    rw[OZ (by omega),zc (by rw[gi];omega)]
    exact h3 i Cp
   ·obtain rfl:i=n:=by omega
    rw[OY,h2,Nat.sub_self,Bk (by omega)]
    simp only[qg,ph]
    rw[jD (by omega)]
    exact g2
theorem t4(tok:TOk P tb):∀(k:Nat) (fuel:Nat) (t:TypeId) (cs:List Value) (x:DataW H×List MemPlace),DT tb k t=true→DataW.trod enc P W base sp hd fuel t cs=some x→∃xs,Pw (cG W F0) xs cs∧wtE tb k t xs
 |0,_,_,_,_,h,_=>by cases h
 |k+1,fuel,t,cs,x,hok,h=>by
  unfold DT at hok
  cases ht:tb t with
  |none=>rw[ht] at hok;cases hok
  |some i=>
   rw[ht] at hok
   dsimp only at hok
   cases iV:i.ty with
   |int kd=>
    rw[iV] at hok
    have hz:i.size=1:=by simpa using hok
    obtain⟨n,rfl,_,hw⟩:=DataW.trod_int (tok.int ht iV) h
    exact⟨[.lit (.int kd n)],Pw.cons (.lit _ rfl) Pw.nil,i,ht,by rw[hz];rfl,by rw[iV];exact⟨n,rfl,hw⟩⟩
   |bool=>
    rw[iV] at hok
    have hz:i.size=1:=by simpa using hok
    obtain⟨dd,LY,Gr⟩:=tok.und ht
    rw[iV] at Gr
    have hb:P.underlying t=some .bool:=by cases dd <;> simp[Ty.of] at Gr;exact LY
    obtain⟨b,rfl,_⟩:=DataW.trod_bool hb h
    exact⟨[.lit (.bool b)],Pw.cons (.lit _ rfl) Pw.nil,i,ht,by rw[hz];rfl,by rw[iV];exact⟨b,rfl⟩⟩
   |str=>
    rw[iV] at hok
    have hz:i.size=1:=by simpa using hok
    obtain⟨s,rfl,_,hs⟩:=DataW.trod_string (tok.str ht iV) h
    exact⟨[.lit (.string s)],Pw.cons (.lit _ rfl) Pw.nil,i,ht,by rw[hz];rfl,by rw[iV];exact⟨s,rfl,hs⟩⟩
   |slice e=>
    rw[iV] at hok
    dsimp only at hok
    cases he:tb e with
    |none=>rw[he] at hok;simp at hok
    |some j=>
     rw[he] at hok
     simp only[dW,beq_iff_eq,qJ] at hok
     obtain⟨⟨hz,hoe⟩,D8⟩:=hok
     have hce:=tok.cells he
     rcases open_slice (tok.slice ht iV) h with⟨rfl,_⟩|⟨a,len,cap,m,n,D,Pl,rfl,hb,hlc,nJ,hm,_,hi⟩
     ·exact⟨[.sl j.size 0 []],Pw.cons (.sl _ 0 [] none 0 (fun _=>undef) (by simp) D8 (aL _) (dZ _) (fun h=>absurd h (Bj _)) (fun _ h=>by cases h) (fun _ _ h=>by simp at h)) Pw.nil,
       i,ht,by rw[hz];rfl,by rw[iV];exact⟨j,0,[],he,rfl,by simp,dZ _,fun i h=>absurd h (zd _)⟩⟩
     ·have hle:len≤m:=by rw[hm];split <;> omega
      rw[hce] at hi
      let us:List Value:=(List.range (len*j.size)).map fun q=>(W.cell? (a.add q)).getD undef
      have JR:us.length=len*j.size:=by simp[us]
      have hu:∀q,q<len*j.size→us[q]? =some ((W.cell? (a.add q)).getD undef):=fun q hq=>by simp[us,hq]
      have N3:∀i,i<len→∃sR,W.cells? base (a.add (i*j.size)) j.size=some sR∧sR=(us.drop (i*j.size)).take j.size:=by
       intro i JT
       obtain⟨sR,hc,_⟩:=hi i (by omega)
       obtain⟨_,AK,C3⟩:=World.cells?_some hc
       refine⟨sR,hc,GZ fun q=>?_⟩
       have hm2:i*j.size+j.size≤len*j.size:=by rw[←rC];exact cg _ JT
       rw[gY,pg]
       split
       ·rename_i hq
        have h1:=C3 q hq
        rw[ob] at h1
        rw[hu _ (by omega),h1]
        rw[e7 (by omega)];rfl
       ·rename_i hq
        rw[jv (by omega)]
      obtain⟨ys,LQ,AA,hy3⟩:=yi (W:=W) (us:=us) (z:=j.size) (Good:=wtE tb k e) len JR fun i JT=>by
       obtain⟨sR,hc,hcs'⟩:=N3 i JT
       obtain⟨cs2,nb,htr⟩:=hi i (by omega)
       rw[hc] at nb
       injection nb with nb
       subst nb
       rw[←hcs']
       exact t4 tok k _ e sR _ hoe htr
      have yX:∀q v,us[q]? =some v→W.cell? (a.add q)=some v:=by
       intro q v hv
       have hq:q<len*j.size:=by
        rcases ci q us.length with h|h
        ·omega
        ·rw[jv h] at hv;cases hv
       -- the cell lies in a chunk
       have hqd:q / j.size<len:=GY (by rw[cj];exact hq)
       obtain⟨sR,hc,hcs'⟩:=N3 (q / j.size) hqd
       obtain⟨_,AK,C3⟩:=World.cells?_some hc
       have h1:=C3 (q % j.size) (dv _ D8)
       rw[ob,cj,nQ] at h1
       rw[hu q hq] at hv
       injection hv with hv
       rw[h1] at hv
       rw[h1,e7 (by have:=dv q D8;omega)] at*
       simp only[wN] at hv
       rw[hv]
      refine⟨[.sl j.size len ys],Pw.cons (.sl _ len ys (some a) cap (fun q=>us.getD q undef) AA D8 hlc nJ (fun hpl=>⟨a,rfl,?_⟩) (fun ad Lq q y hq=>?_) (fun q y hq=>?_)) Pw.nil,i,ht,by rw[hz];rfl,by rw[iV];exact⟨j,len,ys,he,rfl,AA,cU hlc nJ,hy3⟩⟩
      ·have h0:0<len*j.size:=rB hpl D8
       have:=World.block_lt_of_cell? W _ (yX 0 _ (hu 0 h0))
       rwa[iN] at this
      ·injection Lq with Lq
       subst Lq
       obtain⟨v,hv,_⟩:=LQ.get hq
       refine⟨?_,fun hf=>hf⟩
       rw[yX q v hv,List.getD,hv];rfl
      ·obtain⟨v,hv,hr⟩:=LQ.get hq
       rw[List.getD,hv]
       exact hr
   |other=>rw[iV] at hok;cases hok
   |struct fs=>
    rw[iV] at hok
    dsimp only at hok
    obtain⟨fields,hf,Ff⟩:=tok.struct ht iV
    obtain⟨xs,n,_,_,AK,zS,i8⟩:=DataW.trod_struct hf h
    rw[tok.cells ht] at AK
    have key:∀(l:List Field) (off:Nat),(∀f∈l,∃x,DataW.trod enc P W base sp hd n f.type ((cs.drop f.offset).take (P.cellsOf f.type))=some x)→off≤cs.length→Ac tb (DT tb k) (l.map fun f=>(f.offset,f.type)) off i.size=true→
      ∃ys,Pw (cG W F0) ys (cs.drop off)∧wtFs tb (wtE tb k) (l.map fun f=>(f.offset,f.type)) ys:=by
     intro l
     induction l with
     |nil=>
      intro off _ ho uG
      have:off=i.size:=by simpa[Ac] using uG
      exact⟨[],by rw[Bk (by omega)];exact Pw.nil,rfl⟩
     |cons f l ih=>
      intro off hl ho uG
      simp only[cp,Ac,dW,beq_iff_eq] at uG
      obtain⟨⟨hof,xV⟩,uG⟩:=uG
      cases hj:tb f.type with
      |none=>rw[hj] at uG;cases uG
      |some j=>
       rw[hj] at uG
       dsimp only at uG
       obtain⟨x,hx⟩:=hl f (nP ..)
       rw[tok.cells hj,hof] at hx
       obtain⟨zs,HZ,hz2⟩:=t4 tok k _ f.type _ _ xV hx
       have hzl:zs.length=j.size:=by
        cases k with
        |zero=>cases hz2
        |succ k=>
         obtain⟨j',Hk,NR,_⟩:=hz2
         rw[hj] at Hk
         injection Hk with Hk
         subst Hk
         exact NR
       have hlen:off+j.size≤cs.length:=by
        have:=HZ.1
        rw[hzl,eI,gi] at this
        omega
       obtain⟨ys,LQ,AA⟩:=ih (off+j.size) (fun g hg=>hl g (mN _ hg)) hlen uG
       refine⟨zs++ys,?_,j,hj,by rw[eT];omega,?_,?_⟩
       ·have e:cs.drop off=(cs.drop off).take j.size++cs.drop (off+j.size):=by
         rw[←oK,tC]
        rw[e]
        exact HZ.append LQ
       ·rw[zc (by omega),jD (by omega)]
        exact hz2
       ·rw[OZ (by omega),Bk (by omega)]
        exact AA
    obtain⟨ys,LQ,AA⟩:=key fields.toList 0 (fun f hfm=>by
     obtain⟨q,hq⟩:=zb hfm
     have hq':fields[q]? =some f:=by simpa using hq
     have bF:q<xs.length:=by rw[zS];exact (gH.1 hq').1
     exact⟨xs[q],by rw[i8 q f hq',e7 bF]⟩) (dZ _) (by rw[Ff];exact hok)
    rw[qg] at LQ
    exact⟨ys,LQ,i,ht,by rw[LQ.1,AK],by rw[iV];rw[Ff] at AA;exact AA⟩
   |arr n e=>
    rw[iV] at hok
    dsimp only at hok
    cases he:tb e with
    |none=>rw[he] at hok;simp at hok
    |some j=>
     rw[he] at hok
     simp only[dW,beq_iff_eq] at hok
     obtain⟨hoe,hz⟩:=hok
     obtain⟨xs,m,_,_,AK,zS,i8⟩:=DataW.trod_array (tok.arr ht iV) h
     rw[tok.cells ht] at AK
     rw[tok.cells he] at i8
     obtain⟨ys,LQ,AA,hy3⟩:=yi (W:=W) (us:=cs) (z:=j.size) (Good:=wtE tb k e) n (by rw[AK,hz]) fun q hq=>by
      have hq':=i8 q hq
      rw[e7 (by omega)] at hq'
      exact t4 tok k _ e _ _ hoe hq'
     exact⟨ys,LQ,i,ht,by rw[LQ.1,AK],by rw[iV];exact⟨j,he,AA,hy3⟩⟩
def argD(g:Bool)(xs:List E):D:=match g with
 |true=>.ag (xs.map D.e)
 |false=>.e (xs.headD .any)
theorem arg_rep(tok:TOk P tb){k:Nat}{t:TypeId}{i:TyE}{v:Value}{d:DataW H}{p:List MemPlace}{r:Reach}{b0:Nat}(hok:DT tb k t=true)(ht:tb t=some i)(uh:Value.okWide P W r b0 t v)(h:DataW.Trod enc P W base sp hd t v d p):
  ∃xs,wtE tb k t xs∧kB W F0 (argD i.ty.agg xs) v:=by
 obtain⟨fuel,hf⟩:=h
 obtain⟨xs,hx,hw⟩:=t4 tok k fuel t _ _ hok hf
 refine⟨xs,hw,?_⟩
 have one:v.cells=#[v]→kB W F0 (.e (xs.headD .any)) v:=by
  intro hv
  rw[hv] at hx
  cases xs with
  |nil=>have:=hx.1;simp at this
  |cons y ys=>exact aM.e _ _ (hx.2 0 y v rfl rfl)
 have agg:∀cs,v=.agg cs→kB W F0 (.ag (xs.map D.e)) v:=by
  rintro cs rfl
  have hx':Pw (cG W F0) xs cs.toList:=hx
  refine aM.ag _ cs (by simpa using hx'.1.symm) (fun j u hu=>?_) (fun j d u hd hu=>?_)
  ·have sG:cs.toList[j]? =some u:=by simpa using hu
   have bF:j<xs.length:=by
    rw[hx'.1]
    exact (pf.1 sG).1
   exact (hx'.2 j _ u (e7 bF) sG).one
  ·rw[dc] at hd
   cases hxj:xs[j]? with
   |none=>simp[hxj] at hd
   |some y=>
    simp only[hxj,mM,mL] at hd
    subst hd
    exact .e _ _ (hx'.2 j y u hxj (by simpa using hu))
 cases iV:i.ty with
 |int kd=>obtain⟨n,rfl⟩:=okWide_int (tok.int ht iV) uh;exact one rfl
 |bool=>
  obtain⟨dd,LY,Gr⟩:=tok.und ht
  rw[iV] at Gr
  have hb:P.underlying t=some .bool:=by cases dd <;> simp[Ty.of] at Gr;exact LY
  obtain⟨b,rfl⟩:=okWide_bool hb uh
  exact one rfl
 |str=>obtain⟨s,rfl⟩:=okWide_string (tok.str ht iV) uh;exact one rfl
 |slice e=>obtain⟨a,l,c,rfl⟩:=okWide_slice (tok.slice ht iV) uh;exact one rfl
 |struct fs=>
  obtain⟨fields,hf,_⟩:=tok.struct ht iV
  obtain⟨cs,rfl,_⟩:=okWide_struct hf uh
  exact agg cs rfl
 |arr n e=>
  have ha:=tok.arr ht iV
  unfold Value.okWide at uh
  rw[ha] at uh
  obtain⟨cs,rfl,_⟩:=uh
  exact agg cs rfl
 |other=>
  cases k with
  |zero=>cases hok
  |succ k=>unfold DT at hok;rw[ht] at hok;dsimp only at hok;rw[iV] at hok;cases hok
theorem says_of {f:FuncId}{ds:List D}{args:Array Value}(hc:aC P f ds (.e (.lit (.bool true))))(hsz:args.size=ds.length)(qE:∀(j:Nat) (d:D) (u:Value),ds[j]? =some d→args[j]? =some u→kB W F0 d u):
  Calls P f args W fun e w'=>e=.returned (.bool true)∧Below W.heap.size W w':=by
 refine (hc.2 W F0 args (fun _ h=>h.elim) hsz qE).mono ?_
 rintro e w' ⟨v,rfl,lB,hb⟩
 have hr:kB w' F0 (.e (.lit (.bool true))) v:=lB
 exact⟨by rw[aM.lit hr],hb⟩
theorem sd {α:Type}(cells:α→List E)(z:Nat)(good:α→Prop):∀(n:Nat) (ys:List E),ys.length=n*z→(∀i,i<n→∃a,(ys.drop (i*z)).take z=cells a∧good a)→∃l:List α,l.length=n∧ys=l.flatMap cells∧∀a∈l,good a
 |0,ys,hl,_=>⟨[],rfl,by rw[fj] at hl;rw[kJ hl];rfl,by simp⟩
 |n+1,ys,hl,h=>by
  rw[rC] at hl
  obtain⟨a,ha,hga⟩:=h 0 (Nat.succ_pos n)
  obtain⟨l,h1,h2,h3⟩:=sd cells z good n (ys.drop z) (by rw[gi];omega) fun i hi=>by
   have:=h (i+1) (by omega)
   rw[oK,show z+i*z=(i+1)*z by rw[rC];omega]
   exact this
  simp only[fj,qg] at ha
  refine⟨a::l,by simp[h1],?_,fun b hb=>?_⟩
  ·rw[qf,←ha,←h2,tC]
  ·rcases jx.1 hb with rfl|hb
   ·exact hga
   ·exact h3 b hb
end
end
section
def Rd(tb:TypeId→Option TyE)(t:TypeId)(d:Nat){α:Type}(c:Cd α)(W:α→Prop):Prop:=∀k xs,wtE tb (k+d) t xs→∃a,xs=c.f a∧W a
theorem Rd.up {tb:TypeId→Option TyE}{t:TypeId}{d:Nat}{α:Type}{c:Cd α}{W:α→Prop}(h:Rd tb t d c W)(m:Nat):Rd tb t (d+m) c W:=fun k xs h'=>h (k+m) xs (by rw[l4,ls m d];exact h')
def Wi(k:IntKind)(n:Int):Prop:=k.min≤n∧n≤k.max
section
variable {tb:TypeId→Option TyE} {t e:TypeId} {i j:TyE} {d:Nat} {α:Type} {c:Cd α} {W:α→Prop}
theorem rd_I {k:IntKind}(ht:tb t=some i)(hi:i.ty=.int k):Rd tb t 1 (cI k) (Wi k):=by
 intro n xs h
 obtain⟨i',h1,_,h⟩:=h
 rw[ht] at h1;cases h1
 rw[hi] at h
 obtain⟨m,h1,h2⟩:=h
 exact⟨m,h1,by unfold Wi;simpa[Lit.wf] using h2⟩
theorem rd_B(ht:tb t=some i)(hi:i.ty=.bool):Rd tb t 1 cB (fun _=>True):=by
 intro n xs h
 obtain⟨i',h1,_,h⟩:=h
 rw[ht] at h1;cases h1
 rw[hi] at h
 obtain⟨m,h1⟩:=h
 exact⟨m,h1,trivial⟩
theorem rd_L(ht:tb t=some i)(he:tb e=some j)(hc:Rd tb e d c W)(hi:i.ty=.slice e:=by exact rfl)(hz:c.sz=j.size:=by exact rfl):Rd tb t (d+1) (cL c) (fun l=>l.length≤maxLen∧∀a∈l,W a):=by
 intro n xs h
 obtain⟨i',h1,_,h⟩:=h
 rw[ht] at h1;cases h1
 rw[hi] at h
 obtain⟨j',m,ys,h1,h2,h3,h4,h5⟩:=h
 rw[he] at h1;cases h1
 obtain⟨l,h6,h7,h8⟩:=sd c.f j.size W m ys h3 fun i hi=>hc n _ (h5 i hi)
 refine⟨l,?_,by omega,h8⟩
 rw[h2,h7,←h6,←hz];rfl
theorem kU {xs:List E}{n:Nat}{ys zs:List E}(h1:xs.take n=ys)(h2:xs.drop n=zs):xs=ys++zs:=by
 rw[←h1,←h2,tC]
theorem OW {P:Program}{H:Type}{enc:TypeId×Value→H}{Wd:World}{sp:Nat→Bool}{hd:Bool}{base k:Nat}{v:Value}{dw:DataW H}{p:List MemPlace}{r:Reach}{b0:Nat}(tok:TOk P tb)(hok:DT tb (k+d) t=true)(ht:tb t=some i)(hc:Rd tb t d c W)(uh:Value.okWide P Wd r b0 t v)(h:DataW.Trod enc P Wd base sp hd t v dw p):
  ∃a,kB Wd F0 (argD i.ty.agg (c.f a)) v∧W a:=by
 obtain⟨xs,h1,h2⟩:=arg_rep tok hok ht uh h
 obtain⟨a,rfl,h3⟩:=hc k xs h1
 exact⟨a,h2,h3⟩
end
end
theorem rd_A {tb:TypeId→Option TyE}{t e:TypeId}{i j:TyE}{d n:Nat}{α:Type}{c:Cd α}{W:α→Prop}(ht:tb t=some i)(he:tb e=some j)(hc:Rd tb e d c W)(hi:i.ty=.arr n e:=by exact rfl)(hz:c.sz=j.size:=by exact rfl):Rd tb t (d+1) (cA n c) (fun v=>∀a∈v.toList,W a):=by
 intro m xs h
 obtain⟨i',h1,_,h⟩:=h
 rw[ht] at h1;cases h1
 rw[hi] at h
 obtain⟨j',h1,h3,h5⟩:=h
 rw[he] at h1;cases h1
 obtain⟨l,h6,h7,h8⟩:=sd c.f j.size W n xs h3 fun i hi=>hc m _ (h5 i hi)
 exact⟨⟨l.toArray,by simpa using h6⟩,h7,h8⟩
def QR(x:ak):Prop:=(True∧True∧∀a∈x.vN.vW.toList,Wi .u32 a)∧(True∧True∧∀a∈x.vD.vW.toList,Wi .u32 a)
theorem MN {x:aq}(h:∀a∈x.vW.toList,Wi .u32 a):okI x:=fun j hj=>by
 have h2:=h x.vW[j]! (by rw[eG x.vW j hj];simp)
 exact⟨h2.1,by have:x.vW[j]!≤4294967295:=h2.2;omega⟩
theorem okR_of {x:ak}(h:QR x):okR x:=⟨MN h.1.2.2,MN h.2.2.2⟩
def QL(l:List ak):Prop:=l.length≤maxLen∧∀x∈l,QR x
theorem QL.nu {l:List ak}(h:QL l):l=(l.map te).map nv∧(l.map te).length≤9223372036854775807:=by
 refine⟨(F8 fun x hx=>okR_of (h.2 x hx)).symm,?_⟩
 rw[ew]
 exact cU h.1 (by decide)
def eb(aW:aB)(a6:aB):Option Bool:=bnd (S:=Bool) (bnd (kb aW) fun x1=>cnd (!x1) (some (true)) (bnd (kb a6) fun x4=>cnd (!x4) (some (true)) (bnd (dq aW) fun x7=>cnd (decide (x7≠(0:Int))) (some (true)) (bnd (dq a6) fun mU=>cnd (decide (mU≠(0:Int))) (some (true)) (cnd (decide (aW.vR≠aW.vC)) (some (true)) (cnd (decide (a6.vR≠a6.vC)) (some (true)) (cnd (decide (aW.vR≠a6.vR)) (some (true)) (some (decide ((4:Int)<aW.vR)))))))))) fun bM=>cnd bM (bnd (d9) fun pK=>some pK) (bnd (jM aW a6) fun xa=>bnd (gU aW) fun sL=>bnd (eR aW) fun vT=>bnd (eR a6) fun KO=>bnd (eR xa.1) fun Fk=>bnd (eR sL.1) fun zY=>bnd (S:=Bool) (cnd (decide (xa.2≠(0:Int))) (some (true)) (cnd (decide (sL.2≠(0:Int))) (some (true)) (cnd (decide (vT.2≠(0:Int))) (some (true)) (cnd (decide (KO.2≠(0:Int))) (some (true)) (cnd (decide (Fk.2≠(0:Int))) (some (true)) (some (decide (zY.2≠(0:Int))))))))) fun fW=>cnd fW (bnd (d9) fun Ds=>some Ds) (bnd (dp vT.1 KO.1) fun x41=>bnd (S:=Bool) (bnd (bH x41) fun x43=>cnd x43 (cnd (decide (¬(x41=Fk.1))) (some (true)) (some (decide (¬(vT.1=zY.1))))) (some (decide (¬(vT.1=zY.1))))) fun lQ=>cnd lQ (some false) (bnd (jq aW) fun Dr=>cnd (decide (Dr.2=(30:Int))) (bnd (d9) fun x52=>some x52) (bnd (S:=Bool) (bnd (jL vT.1) fun x54=>cnd (!((decide (Dr.2=(0:Int))) == (decide (x54≠(0:Int))))) (some (true)) (cnd (decide (Dr.2≠(0:Int))) (some (decide (Dr.2≠(70:Int)))) (some (false)))) fun pk=>cnd pk (some false) (cnd (decide (Dr.2≠(0:Int))) (bnd (d9) fun x61=>some x61) (bnd (jM aW Dr.1) fun x63=>bnd (jM Dr.1 aW) fun LO=>bnd (S:=Bool) (bnd (d9) fun x67=>cnd x67 (cnd (decide (x63.2≠(0:Int))) (cnd (decide (LO.2≠(0:Int))) (some (true)) (bnd (db aW.vR) fun x72=>bnd (ep LO.1 x72) fun x74=>some (x74))) (bnd (db aW.vR) fun x76=>bnd (ep x63.1 x76) fun x78=>cnd x78 (cnd (decide (LO.2≠(0:Int))) (some (true)) (bnd (db aW.vR) fun x82=>bnd (ep LO.1 x82) fun x84=>some (x84))) (some (false)))) (some (false))) fun Dg=>some Dg))))))
theorem qO {aW:aB}{a6:aB}{r:Bool}(h:eb aW a6=some r):aC prog 7 [dG aQ aW,dG aQ a6] (dB r):=by
 refine bQ (rs:=[.tmp 4]) (fun cx hx h0=>?_) func7
 unfold eb at h
 refine rs hx fun K hK=>?_
 refine s1 (d:=.pt 0 0) iX ?_
 refine s1 (d:=.pt 1 0) iX ?_
 refine sa ?_
 refine .nil (hK _ _ ?_)
 iterate 2 refine AW.seq ?_
 obtain⟨bM,hy,h⟩:=ah h
 refine jn ((PE cx .normal (fun bM=>[(2,.pt 0 0),(3,.pt 1 0),(67,dB bM)]) fun bM=>⟨[(0,[dI .i64 aW.vR,dI .i64 aW.vC,dL aj aW.vV]),(1,[dI .i64 a6.vR,dI .i64 a6.vC,dL aj a6.vV])],[],2⟩) bM) ?_ ?_
 replace h:=hy
 refine rq hx fun K hK=>?_
 refine s1 (d:=dG aQ aW) (bP av) ?_
 refine scb h uu fun x1 h=>?_
 iterate 2 refine sa ?_
 rcases aX (!x1) with bo|bo
 replace h:=aZ bo h
 iterate 3 refine aH rfl rfl bo ?_
 refine s1 (al bo) ?_
 refine sa ?_
 iterate 3 refine aH rfl rfl rfl ?_
 refine s1 (al rfl) ?_
 refine sa ?_
 iterate 3 refine aH rfl rfl rfl ?_
 refine s1 (al rfl) ?_
 refine sa ?_
 iterate 5 refine aH rfl rfl rfl ?_
 refine s1 (al rfl) ?_
 refine sa ?_
 iterate 5 refine aH rfl rfl rfl ?_
 refine s1 (al rfl) ?_
 refine sa ?_
 iterate 5 refine aH rfl rfl rfl ?_
 refine s1 (al rfl) ?_
 refine sa ?_
 iterate 3 refine aH rfl rfl rfl ?_
 refine s1 (al rfl) ?_
 refine .nil (hK _ _ ?_)
 cases h
 exact pe0 h0 [0,1]
 replace h:=a3 bo h
 refine g1 (d:=dG aQ a6) bo (bP av) ?_
 obtain⟨x4,va,h⟩:=ah h
 refine g1 bo (eC rfl (uu va) (by simp only[cp,dh,jy,fO,dX,dW];exact bc _ _) (lA (an _) lAn) (.inl rfl)) ?_
 refine ga bo ?_
 refine s1 (au bo) ?_
 refine sa ?_
 rcases aX (!x4) with eW|eW
 replace h:=aZ eW h
 iterate 3 refine aH rfl rfl eW ?_
 refine s1 (al eW) ?_
 refine sa ?_
 iterate 3 refine aH rfl rfl rfl ?_
 refine s1 (al rfl) ?_
 refine sa ?_
 iterate 5 refine aH rfl rfl rfl ?_
 refine s1 (al rfl) ?_
 refine sa ?_
 iterate 5 refine aH rfl rfl rfl ?_
 refine s1 (al rfl) ?_
 refine sa ?_
 iterate 5 refine aH rfl rfl rfl ?_
 refine s1 (al rfl) ?_
 refine sa ?_
 iterate 3 refine aH rfl rfl rfl ?_
 refine s1 (al rfl) ?_
 refine .nil (hK _ _ ?_)
 cases h
 exact pe0 h0 [0,1]
 replace h:=a3 eW h
 refine g1 (d:=dG aQ aW) eW (bP av) ?_
 obtain⟨x7,zu,h⟩:=ah h
 refine g1 eW (eC rfl (pN zu) (by simp only[cp,dh,jy,fO,dX,dW];exact bc _ _) (lA (an _) lAn) (.inl rfl)) ?_
 refine ga eW ?_
 refine s1 (au eW) ?_
 refine sa ?_
 rcases aX (decide (x7≠(0:Int))) with wz|wz
 replace h:=aZ wz h
 iterate 3 refine aH rfl rfl wz ?_
 refine s1 (al wz) ?_
 refine sa ?_
 iterate 5 refine aH rfl rfl rfl ?_
 refine s1 (al rfl) ?_
 refine sa ?_
 iterate 5 refine aH rfl rfl rfl ?_
 refine s1 (al rfl) ?_
 refine sa ?_
 iterate 5 refine aH rfl rfl rfl ?_
 refine s1 (al rfl) ?_
 refine sa ?_
 iterate 3 refine aH rfl rfl rfl ?_
 refine s1 (al rfl) ?_
 refine .nil (hK _ _ ?_)
 cases h
 exact pe0 h0 [0,1]
 replace h:=a3 wz h
 refine g1 (d:=dG aQ a6) wz (bP av) ?_
 obtain⟨mU,ww,h⟩:=ah h
 refine g1 wz (eC rfl (pN ww) (by simp only[cp,dh,jy,fO,dX,dW];exact bc _ _) (lA (an _) lAn) (.inl rfl)) ?_
 refine ga wz ?_
 refine s1 (au wz) ?_
 refine sa ?_
 rcases aX (decide (mU≠(0:Int))) with nd|nd
 replace h:=aZ nd h
 iterate 5 refine aH rfl rfl nd ?_
 refine s1 (al nd) ?_
 refine sa ?_
 iterate 5 refine aH rfl rfl rfl ?_
 refine s1 (al rfl) ?_
 refine sa ?_
 iterate 5 refine aH rfl rfl rfl ?_
 refine s1 (al rfl) ?_
 refine sa ?_
 iterate 3 refine aH rfl rfl rfl ?_
 refine s1 (al rfl) ?_
 refine .nil (hK _ _ ?_)
 cases h
 exact pe0 h0 [0,1]
 replace h:=a3 nd h
 refine ga nd ?_
 refine g1 nd (ba aY) ?_
 refine ga nd ?_
 refine g1 nd (ba aY) ?_
 refine ga nd ?_
 refine s1 (au nd) ?_
 refine sa ?_
 rcases aX (decide (aW.vR≠aW.vC)) with nZ|nZ
 replace h:=aZ nZ h
 iterate 5 refine aH rfl rfl nZ ?_
 refine s1 (al nZ) ?_
 refine sa ?_
 iterate 5 refine aH rfl rfl rfl ?_
 refine s1 (al rfl) ?_
 refine sa ?_
 iterate 3 refine aH rfl rfl rfl ?_
 refine s1 (al rfl) ?_
 refine .nil (hK _ _ ?_)
 cases h
 exact pe0 h0 [0,1]
 replace h:=a3 nZ h
 refine ga nZ ?_
 refine g1 nZ (ba aY) ?_
 refine ga nZ ?_
 refine g1 nZ (ba aY) ?_
 refine ga nZ ?_
 refine s1 (au nZ) ?_
 refine sa ?_
 rcases aX (decide (a6.vR≠a6.vC)) with iR|iR
 replace h:=aZ iR h
 iterate 5 refine aH rfl rfl iR ?_
 refine s1 (al iR) ?_
 refine sa ?_
 iterate 3 refine aH rfl rfl rfl ?_
 refine s1 (al rfl) ?_
 refine .nil (hK _ _ ?_)
 cases h
 exact pe0 h0 [0,1]
 replace h:=a3 iR h
 refine ga iR ?_
 refine g1 iR (ba aY) ?_
 refine ga iR ?_
 refine g1 iR (ba aY) ?_
 refine ga iR ?_
 refine s1 (au iR) ?_
 refine sa ?_
 rcases aX (decide (aW.vR≠a6.vR)) with qS|qS
 replace h:=aZ qS h
 iterate 3 refine aH rfl rfl qS ?_
 refine s1 (al qS) ?_
 refine .nil (hK _ _ ?_)
 cases h
 exact pe0 h0 [0,1]
 replace h:=a3 qS h
 refine ga qS ?_
 refine g1 qS (ba aY) ?_
 refine ga qS ?_
 refine s1 (au qS) ?_
 refine .nil (hK _ _ ?_)
 cases h
 exact pe0 h0 [0,1]
 rintro ex tm' hp' ⟨rfl,hw⟩
 refine AW.weak hw (cdh h rfl (fun tr h=>?_) (fun tr h=>?_))
 refine rs hx fun K hK=>?_
 refine scb h kS fun pK h=>?_
 refine sa ?_
 refine .nil (hK _ _ (AW.ret ?_))
 cases h
 exact rv1
 refine AW.skip (rs hx fun K hK=>?_)
 refine s1 (d:=dG aQ aW) (bP av) ?_
 refine s1 (d:=dG aQ a6) (bP av) ?_
 refine scb h rL fun xa h=>?_
 iterate 3 refine sa ?_
 refine s1 (d:=.pt 2 0) (b9 av) ?_
 refine s0 (dQ (ds':=[dI .i64 xa.1.vR,dI .i64 xa.1.vC,dL aj xa.1.vV]) av) ?_
 refine sa ?_
 refine .nil (hK _ _ (rs hx fun K hK=>?_))
 refine s1 (d:=dG aQ aW) (bP av) ?_
 refine scb h uS fun sL h=>?_
 iterate 3 refine sa ?_
 refine s1 (d:=.pt 3 0) (b9 av) ?_
 refine s0 (dQ (ds':=[dI .i64 sL.1.vR,dI .i64 sL.1.vC,dL aj sL.1.vV]) av) ?_
 refine sa ?_
 refine .nil (hK _ _ (rs hx fun K hK=>?_))
 refine s1 (d:=dG aQ aW) (bP av) ?_
 refine scb h lz fun vT h=>?_
 iterate 3 refine sa ?_
 refine s1 (bp (F:=aj.f co) aA) ?_
 refine s0 (aO (b':=vT.1) (ao.id _ _) aA) ?_
 refine sa ?_
 refine .nil (hK _ _ (rs hx fun K hK=>?_))
 refine s1 (d:=dG aQ a6) (bP av) ?_
 refine scb h lz fun KO h=>?_
 iterate 3 refine sa ?_
 refine s1 (bp (F:=aj.f co) aA) ?_
 refine s0 (aO (b':=KO.1) (ao.id _ _) aA) ?_
 refine sa ?_
 refine .nil (hK _ _ (rs hx fun K hK=>?_))
 refine s1 (d:=dG aQ xa.1) (bP av) ?_
 refine scb h lz fun Fk h=>?_
 iterate 3 refine sa ?_
 refine s1 (bp (F:=aj.f co) aA) ?_
 refine s0 (aO (b':=Fk.1) (ao.id _ _) aA) ?_
 refine sa ?_
 refine .nil (hK _ _ (rs hx fun K hK=>?_))
 refine s1 (d:=dG aQ sL.1) (bP av) ?_
 refine scb h lz fun zY h=>?_
 iterate 3 refine sa ?_
 refine s1 (bp (F:=aj.f co) aA) ?_
 refine s0 (aO (b':=zY.1) (ao.id _ _) aA) ?_
 refine sa ?_
 refine .nil (hK _ _ ?_)
 iterate 2 refine AW.seq ?_
 obtain⟨fW,hy,h⟩:=ah h
 refine jn ((PE cx .normal (fun fW=>[(2,.pt 0 0),(9,.pt 1 0),(11,.pt 2 0),(13,.pt 3 0),(15,.pt 4 0),(121,dB fW)]) fun fW=>⟨[(0,[dI .i64 aW.vR,dI .i64 aW.vC,dL aj aW.vV]),(1,dC (aj.f vT.1)),(2,dC (aj.f KO.1)),(3,dC (aj.f Fk.1)),(4,dC (aj.f zY.1))],[],5⟩) fW) ?_ ?_
 replace h:=hy
 refine rq hx fun K hK=>?_
 iterate 3 refine sa ?_
 rcases aX (decide (xa.2≠(0:Int))) with AT|AT
 replace h:=aZ AT h
 iterate 2 refine aH rfl rfl AT ?_
 refine s1 (al AT) ?_
 refine sa ?_
 iterate 2 refine aH rfl rfl rfl ?_
 refine s1 (al rfl) ?_
 refine sa ?_
 iterate 2 refine aH rfl rfl rfl ?_
 refine s1 (al rfl) ?_
 refine sa ?_
 iterate 2 refine aH rfl rfl rfl ?_
 refine s1 (al rfl) ?_
 refine sa ?_
 iterate 2 refine aH rfl rfl rfl ?_
 refine s1 (al rfl) ?_
 refine .nil (hK _ _ ?_)
 cases h
 exact pe0 h0 [0,4,5,6,7]
 replace h:=a3 AT h
 iterate 2 refine ga AT ?_
 refine s1 (au AT) ?_
 refine sa ?_
 rcases aX (decide (sL.2≠(0:Int))) with Iu|Iu
 replace h:=aZ Iu h
 iterate 2 refine aH rfl rfl Iu ?_
 refine s1 (al Iu) ?_
 refine sa ?_
 iterate 2 refine aH rfl rfl rfl ?_
 refine s1 (al rfl) ?_
 refine sa ?_
 iterate 2 refine aH rfl rfl rfl ?_
 refine s1 (al rfl) ?_
 refine sa ?_
 iterate 2 refine aH rfl rfl rfl ?_
 refine s1 (al rfl) ?_
 refine .nil (hK _ _ ?_)
 cases h
 exact pe0 h0 [0,4,5,6,7]
 replace h:=a3 Iu h
 iterate 2 refine ga Iu ?_
 refine s1 (au Iu) ?_
 refine sa ?_
 rcases aX (decide (vT.2≠(0:Int))) with It|It
 replace h:=aZ It h
 iterate 2 refine aH rfl rfl It ?_
 refine s1 (al It) ?_
 refine sa ?_
 iterate 2 refine aH rfl rfl rfl ?_
 refine s1 (al rfl) ?_
 refine sa ?_
 iterate 2 refine aH rfl rfl rfl ?_
 refine s1 (al rfl) ?_
 refine .nil (hK _ _ ?_)
 cases h
 exact pe0 h0 [0,4,5,6,7]
 replace h:=a3 It h
 iterate 2 refine ga It ?_
 refine s1 (au It) ?_
 refine sa ?_
 rcases aX (decide (KO.2≠(0:Int))) with Is|Is
 replace h:=aZ Is h
 iterate 2 refine aH rfl rfl Is ?_
 refine s1 (al Is) ?_
 refine sa ?_
 iterate 2 refine aH rfl rfl rfl ?_
 refine s1 (al rfl) ?_
 refine .nil (hK _ _ ?_)
 cases h
 exact pe0 h0 [0,4,5,6,7]
 replace h:=a3 Is h
 iterate 2 refine ga Is ?_
 refine s1 (au Is) ?_
 refine sa ?_
 rcases aX (decide (Fk.2≠(0:Int))) with Ir|Ir
 replace h:=aZ Ir h
 iterate 2 refine aH rfl rfl Ir ?_
 refine s1 (al Ir) ?_
 refine .nil (hK _ _ ?_)
 cases h
 exact pe0 h0 [0,4,5,6,7]
 replace h:=a3 Ir h
 iterate 2 refine ga Ir ?_
 refine s1 (au Ir) ?_
 refine .nil (hK _ _ ?_)
 cases h
 exact pe0 h0 [0,4,5,6,7]
 rintro ex tm' hp' ⟨rfl,hw⟩
 refine AW.weak hw (cdh h rfl (fun hb38 h=>?_) (fun hb38 h=>?_))
 refine rs hx fun K hK=>?_
 refine scb h kS fun Ds h=>?_
 refine sa ?_
 refine .nil (hK _ _ (AW.ret ?_))
 cases h
 exact rv1
 refine AW.skip (AW.seq (rs hx fun K hK=>?_))
 refine s1 (d:=dG aj vT.1) (aE (ao.id _ _) aA) ?_
 refine s1 (d:=dG aj KO.1) (aE (ao.id _ _) aA) ?_
 refine scb h mF fun x41 h=>?_
 refine s1 (bp (F:=aj.f co) aA) ?_
 refine s0 (aO (b':=x41) (ao.id _ _) aA) ?_
 refine .nil (hK _ _ (AW.seq ?_))
 obtain⟨lQ,hy,h⟩:=ah h
 refine jn ((PE cx .normal (fun lQ=>[(2,.pt 0 0),(9,.pt 1 0),(137,dB lQ)]) fun lQ=>⟨[(0,[dI .i64 aW.vR,dI .i64 aW.vC,dL aj aW.vV]),(1,dC (aj.f vT.1))],[],2⟩) lQ) ?_ ?_
 replace h:=hy
 refine rq hx fun K hK=>?_
 refine s1 (d:=dG aj x41) (aE (ao.id _ _) aA) ?_
 refine scb h eK fun x43 h=>?_
 refine sa ?_
 rcases aX x43 with tq|tq
 replace h:=aZ tq h
 refine g1 (d:=dG aj x41) tq (aE (ao.id _ _) aA) ?_
 refine g1 (d:=dG aj Fk.1) tq (aE (ao.id _ _) aA) ?_
 refine g1 tq (sw tok 4 (by decide) mK aA) ?_
 refine s1 (al tq) ?_
 refine sa ?_
 rcases aX (decide (¬(x41=Fk.1))) with tp|tp
 replace h:=aZ tp h
 iterate 3 refine aH rfl rfl tp ?_
 refine s1 (al tp) ?_
 refine .nil (hK _ _ ?_)
 cases h
 exact pe0 h0 [0,1]
 replace h:=a3 tp h
 refine g1 (d:=dG aj vT.1) tp (aE (ao.id _ _) aA) ?_
 refine g1 (d:=dG aj zY.1) tp (aE (ao.id _ _) aA) ?_
 refine g1 tp (sw tok 4 (by decide) mK aA) ?_
 refine s1 (au tp) ?_
 refine .nil (hK _ _ ?_)
 cases h
 exact pe0 h0 [0,1]
 replace h:=a3 tq h
 iterate 3 refine aH rfl rfl tq ?_
 refine s1 (au tq) ?_
 refine sa ?_
 refine g1 (d:=dG aj vT.1) rfl (aE (ao.id _ _) aA) ?_
 refine g1 (d:=dG aj zY.1) rfl (aE (ao.id _ _) aA) ?_
 refine g1 rfl (sw tok 4 (by decide) mK aA) ?_
 refine s1 (au rfl) ?_
 refine .nil (hK _ _ ?_)
 cases h
 exact pe0 h0 [0,1]
 rintro ex tm' hp' ⟨rfl,hw⟩
 refine AW.weak hw (cdh h rfl (fun Ed h=>?_) (fun Ed h=>?_))
 refine ra hx ?_
 refine AW.ret ?_
 cases h
 exact rv1
 refine AW.skip (rs hx fun K hK=>?_)
 refine s1 (d:=dG aQ aW) (bP av) ?_
 refine scb h xk fun Dr h=>?_
 iterate 3 refine sa ?_
 refine s1 (d:=.pt 2 0) (b9 av) ?_
 refine s0 (dQ (ds':=[dI .i64 Dr.1.vR,dI .i64 Dr.1.vC,dL aj Dr.1.vV]) av) ?_
 refine sa ?_
 refine .nil (hK _ _ (AW.seq (ra hx ?_)))
 refine cdh h rfl (fun hb51 h=>?_) (fun hb51 h=>?_)
 refine rs hx fun K hK=>?_
 refine scb h kS fun x52 h=>?_
 refine sa ?_
 refine .nil (hK _ _ (AW.ret ?_))
 cases h
 exact rv1
 refine AW.skip ?_
 iterate 2 refine AW.seq ?_
 obtain⟨pk,hy,h⟩:=ah h
 refine jn ((PE cx .normal (fun pk=>[(2,.pt 0 0),(18,.pt 1 0),(19,dI .i64 Dr.2),(159,dB pk)]) fun pk=>⟨[(0,[dI .i64 aW.vR,dI .i64 aW.vC,dL aj aW.vV]),(1,[dI .i64 Dr.1.vR,dI .i64 Dr.1.vC,dL aj Dr.1.vV])],[],2⟩) pk) ?_ ?_
 replace h:=hy
 refine rq hx fun K hK=>?_
 iterate 2 refine sa ?_
 refine s1 (d:=dG aj vT.1) (aE (ao.id _ _) aA) ?_
 refine scb h rK fun x54 h=>?_
 iterate 3 refine sa ?_
 rcases aX (!((decide (Dr.2=(0:Int))) == (decide (x54≠(0:Int))))) with AS|AS
 replace h:=aZ AS h
 iterate 3 refine aH rfl rfl AS ?_
 iterate 2 refine MS rfl rfl ?_
 refine aH rfl rfl AS ?_
 refine s1 (al AS) ?_
 refine .nil (hK _ _ ?_)
 cases h
 exact pe0 h0 [0,2]
 replace h:=a3 AS h
 iterate 3 refine ga AS ?_
 rcases aX (decide (Dr.2≠(0:Int))) with sQ|sQ
 replace h:=aZ sQ h
 iterate 2 refine ga sQ ?_
 refine g1 AS (al sQ) ?_
 refine s1 (au AS) ?_
 refine .nil (hK _ _ ?_)
 cases h
 exact pe0 h0 [0,2]
 replace h:=a3 sQ h
 iterate 2 refine aH rfl rfl sQ ?_
 refine g1 AS (au sQ) ?_
 refine s1 (au AS) ?_
 refine .nil (hK _ _ ?_)
 cases h
 exact pe0 h0 [0,2]
 rintro ex tm' hp' ⟨rfl,hw⟩
 refine AW.weak hw (cdh h rfl (fun hb59 h=>?_) (fun hb59 h=>?_))
 refine ra hx ?_
 refine AW.ret ?_
 cases h
 exact rv1
 refine AW.skip (AW.seq (ra hx ?_))
 refine cdh h rfl (fun zE h=>?_) (fun zE h=>?_)
 refine rs hx fun K hK=>?_
 refine scb h kS fun x61 h=>?_
 refine sa ?_
 refine .nil (hK _ _ (AW.ret ?_))
 cases h
 exact rv1
 refine AW.skip (rs hx fun K hK=>?_)
 refine s1 (d:=dG aQ aW) (bP av) ?_
 refine s1 (d:=dG aQ Dr.1) (bP av) ?_
 refine scb h rL fun x63 h=>?_
 iterate 3 refine sa ?_
 refine s1 (d:=.pt 2 0) (b9 av) ?_
 refine s0 (dQ (ds':=[dI .i64 x63.1.vR,dI .i64 x63.1.vC,dL aj x63.1.vV]) av) ?_
 refine sa ?_
 refine .nil (hK _ _ (rs hx fun K hK=>?_))
 refine s1 (d:=dG aQ Dr.1) (bP av) ?_
 refine s1 (d:=dG aQ aW) (bP av) ?_
 refine scb h rL fun LO h=>?_
 iterate 3 refine sa ?_
 refine s1 (d:=.pt 3 0) (b9 av) ?_
 refine s0 (dQ (ds':=[dI .i64 LO.1.vR,dI .i64 LO.1.vC,dL aj LO.1.vV]) av) ?_
 refine sa ?_
 refine .nil (hK _ _ (AW.seq ?_))
 obtain⟨Dg,hy,h⟩:=ah h
 refine jn ((PE cx .normal (fun Dg=>[(4,dB Dg)]) fun Dg=>⟨[],[],0⟩) Dg) ?_ ?_
 replace h:=hy
 refine rqd [12,43,14] hx fun K hK=>?_
 refine cqb h kS fun x67 h=>?_
 refine sa ?_
 rcases aX x67 with AQ|AQ
 replace h:=aZ AQ h
 iterate 3 refine ga AQ ?_
 rcases aX (decide (x63.2≠(0:Int))) with AP|AP
 replace h:=aZ AP h
 iterate 5 refine aH rfl rfl AP ?_
 refine g1 AQ (al AP) ?_
 refine s1 (al AQ) ?_
 refine sa ?_
 iterate 3 refine ga rfl ?_
 rcases aX (decide (LO.2≠(0:Int))) with qu|qu
 replace h:=aZ qu h
 iterate 5 refine aH rfl rfl qu ?_
 refine g1 rfl (al qu) ?_
 refine s1 (al rfl) ?_
 refine sa ?_
 refine .nil (hK _ _ ?_)
 cases h
 exact pe0 h0 []
 replace h:=a3 qu h
 refine g1 (d:=dG aQ LO.1) qu (bP av) ?_
 refine ga qu ?_
 refine g1 qu (ba aY) ?_
 obtain⟨x72,hx73,h⟩:=ah h
 refine sqg tok rfl rfl qu (iq hx73) rfl (lA (an _) lAn) (.inl (gP _ _)) ?_
 obtain⟨x74,Nh,h⟩:=ah h
 refine sqg tok rfl rfl qu (mW Nh) (by simp only[cp,dh,jy,fO,dX,dW];exact⟨bc _ _,bc _ _⟩) (lA (an _) (lA (an _) lAn)) (.inl rfl) ?_
 refine g1 rfl (au qu) ?_
 refine s1 (al rfl) ?_
 refine sa ?_
 refine .nil (hK _ _ ?_)
 cases h
 exact pe0 h0 []
 replace h:=a3 AP h
 refine g1 (d:=dG aQ x63.1) AP (bP av) ?_
 refine ga AP ?_
 refine g1 AP (ba aY) ?_
 obtain⟨x76,hx77,h⟩:=ah h
 refine sqg tok rfl rfl AP (iq hx77) rfl (lA (an _) lAn) (.inl (gP _ _)) ?_
 obtain⟨x78,hx79,h⟩:=ah h
 refine sqg tok rfl rfl AP (mW hx79) (by simp only[cp,dh,jy,fO,dX,dW];exact⟨bc _ _,bc _ _⟩) (lA (an _) (lA (an _) lAn)) (.inl rfl) ?_
 refine g1 AQ (au AP) ?_
 refine s1 (al AQ) ?_
 refine sa ?_
 rcases aX x78 with AN|AN
 replace h:=aZ AN h
 iterate 3 refine ga AN ?_
 rcases aX (decide (LO.2≠(0:Int))) with AM|AM
 replace h:=aZ AM h
 iterate 5 refine aH rfl rfl AM ?_
 refine g1 AN (al AM) ?_
 refine s1 (al AN) ?_
 refine sa ?_
 refine .nil (hK _ _ ?_)
 cases h
 exact pe0 h0 []
 replace h:=a3 AM h
 refine g1 (d:=dG aQ LO.1) AM (bP av) ?_
 refine ga AM ?_
 refine g1 AM (ba aY) ?_
 obtain⟨x82,hx83,h⟩:=ah h
 refine sqg tok rfl rfl AM (iq hx83) rfl (lA (an _) lAn) (.inl (gP _ _)) ?_
 obtain⟨x84,hx85,h⟩:=ah h
 refine sqg tok rfl rfl AM (mW hx85) (by simp only[cp,dh,jy,fO,dX,dW];exact⟨bc _ _,bc _ _⟩) (lA (an _) (lA (an _) lAn)) (.inl rfl) ?_
 refine g1 AN (au AM) ?_
 refine s1 (al AN) ?_
 refine sa ?_
 refine .nil (hK _ _ ?_)
 cases h
 exact pe0 h0 []
 replace h:=a3 AN h
 iterate 3 refine aH rfl rfl AN ?_
 iterate 5 refine MS rfl rfl ?_
 refine aH rfl rfl AN ?_
 refine s1 (au AN) ?_
 refine sa ?_
 refine .nil (hK _ _ ?_)
 cases h
 exact pe0 h0 []
 replace h:=a3 AQ h
 iterate 3 refine aH rfl rfl AQ ?_
 iterate 5 refine MS rfl rfl ?_
 refine aH rfl rfl AQ ?_
 refine s1 (au AQ) ?_
 refine sa ?_
 iterate 3 refine aH rfl rfl rfl ?_
 iterate 5 refine MS rfl rfl ?_
 refine aH rfl rfl rfl ?_
 refine s1 (au rfl) ?_
 refine sa ?_
 refine .nil (hK _ _ ?_)
 cases h
 exact pe0 h0 []
 rintro ex tm' hp' ⟨rfl,hw⟩
 refine AW.weak hw (AW.ret ?_)
 cases h
 exact rv1
theorem inv_sum {n:Nat}{A:List Nu}(hm:MV n n A)(h4:n≤100):(Lc n n A).2=30∨((Lc n n A).2=70∧det n (toR n A)=0)∨∃B,Lc n n A=(mS n n B,0)∧MV n n B∧det n (toR n A)≠0∧(∀i k,i<n→k<n→cl n (fun j=>rv A[i*n+j]! *rv B[j*n+k]!)=eJ i k)∧(∀i k,i<n→k<n→cl n (fun j=>rv B[i*n+j]! *rv A[j*n+k]!)=eJ i k):=by
 unfold Lc
 rw[az ⟨hm.chk,rfl⟩,ifn_,bL]
 cases lT:m5 n (n+n) (mkM n (n+n) (rA n n A (mkM n n idF))) with
 |none=>exact .inl rfl
 |some p=>
  obtain⟨U,acc⟩:=p
  unfold invR
  dsimp only
  have hU:=kW c9 lT
  have hok:=Ak c9 (OQ hm) lT
  obtain⟨hs,hbd⟩:=K0 lT
  have hle:acc.length≤n:=zM lT
  by_cases hd:Kd acc=true
  ·rw[az hd]
   have hj:∀j,j<acc.length→oI acc j=j:=fun j hj=>by
    have h1:=bZ.1 hd j (wO.2 hj)
    have h2:=pi h1
    rw[Ek hj] at h2
    have h3:((acc[j].col:Nat):Int)=(j:Int):=h2
    unfold oI
    rw[eG acc j hj];omega
   obtain⟨_,h1,h2,h3⟩:=Nc hok hj
   have hg:(mkM n n (Ck n U)).all aR=true:=pw.2 fun i k hi hk=>tZ hok.good (by rw[hU];exact cd hi (by omega))
   refine .inr (.inr ⟨mkM n n (Ck n U),Pf hU hok.good,⟨hm.r,hm.r,c9,hg⟩,h1,fun i k hi hk=>?_,fun i k hi hk=>?_⟩)
   ·rw[←h2 i k hi hk]
    exact bk fun j hj=>by rw[rS hj hk];rfl
   ·rw[←h3 i k hi hk]
    exact bk fun j hj=>by rw[rS hi hj];rfl
  ·rw[ay hd]
   refine .inr (.inl ⟨rfl,?_⟩)
   have hex:∃i,i<acc.length∧oI acc i≠i:=by
    refine vI fun lg=>hd (bZ.2 fun i hi=>?_)
    have hi:=wO.1 hi
    have:oI acc i=i:=vI fun e=>lg ⟨i,hi,e⟩
    unfold oI at this
    rw[eG acc i hi] at this
    rw[Ek hi]
    refine dU ?_
    show ((acc[i].col:Nat):Int)=(i:Int)
    omega
   obtain⟨i,hi,lg⟩:=hex
   have h0:∀j,j<acc.length→j≤oI acc j:=fun j hj=>by
    have:=Eu hs 0 j (by omega)
    rw[br] at this;omega
   -- the least one
   have least:∃k,k<n∧∀j,j<acc.length→oI acc j≠k:=by
    refine vI fun vc=>?_
    have all:∀m,m≤i→oI acc m=m:=by
     intro m
     induction m using Nat.strongRecOn with
     |ind m ih=>
      intro NO
      refine vI fun e=>vc ⟨m,by omega,fun j hj he=>?_⟩
      rcases yA j m with h|h|h
      ·have:=ih j h (by omega);omega
      ·rw[h] at he;exact e he
      ·have h1:=Eu hs m (j - m) (by omega)
       rw[show m+(j - m)=j by omega] at h1
       have:=h0 m (by omega)
       omega
    exact lg (all i (aL _))
   obtain⟨k,hk,h⟩:=least
   exact Gi hok hk h
theorem DX {n:Nat}{A B:List Nu}(hs:∀i k,i<n→k<n→cl n (fun j=>rv A[i*n+j]! *rv B[j*n+k]!)=eJ i k)(h:(u6 n n A n n B).2=0):(u6 n n A n n B).1=idP n:=by
 obtain⟨r,c,k,h1,h2,h3,h4,hm,wx,hg,h5⟩:=JF h
 obtain rfl:n=r:=by omega
 obtain rfl:n=c:=by omega
 obtain rfl:n=k:=by omega
 rw[h5,JP hm.r]
 show mS n n (mkM n n (tf n n A B))=mS n n (mkM n n idF)
 rw[La fun i k hi hk=>AZ (pw.1 hg i k hi hk) (Az i k) (by rw[JG (pw.1 hg i k hi hk),hs i k hi hk,id_rv])]
theorem MU {R C R' C':Int}{A B:List Nu}(h:(u6 R C A R' C' B).2≠0):(u6 R C A R' C' B).1=mZ:=by
 unfold u6 iu at h ⊢
 split
 ·rename_i h0
  rw[az h0] at h
  split
  ·rename_i h1;rw[az h1] at h;exact absurd rfl h
  ·rfl
 ·rfl
theorem detP_V {n:Nat}{V:List Nu}(hm:MV n n V):yh n n V=(if (rx n (m5 n n V)).2=0 then nv (rx n (m5 n n V)).1 else rZ,(rx n (m5 n n V)).2):=by
 unfold yh
 rw[az ⟨hm.chk,rfl⟩,bL,Kh]
theorem zW {n:Nat}{V:List Nu}(hm:MV n n V)(h:(yh n n V).2=0):∃d:Nu,yh n n V=(nv d,0)∧aR d=true∧rv d=det n (toR n V):=by
 rw[detP_V hm] at h ⊢
 dsimp only at h
 have hv:=Oz (d:=(rx n (m5 n n V)).1) hm.len hm.good (by rw[←h])
 exact⟨_,by rw[az h,h],hv.1,hv.2⟩
theorem toR_mul {n:Nat}{A B:List Nu}(hg:(mkM n n (tf n n A B)).all aR=true):det n (toR n (mkM n n (tf n n A B)))=det n (toR n A)*det n (toR n B):=by
 rw[←wI]
 refine (bX n).congr _ _ fun i k hi hk=>?_
 show rv (mkM n n (tf n n A B))[i*n+k]! =_
 rw[rS hi hk,JG (pw.1 hg i k hi hk)];rfl
theorem toR_tr {n:Nat}{A:List Nu}:det n (toR n (mkM n n (ux n A)))=det n (toR n A):=by
 rw[←Ox (f:=toR n A)]
 refine (bX n).congr _ _ fun i k hi hk=>?_
 show rv (mkM n n (ux n A))[i*n+k]! =_
 rw[rS hi hk];rfl
theorem neF {a b:Int}(h:a=b):decide (a≠b)=false:=by simp[h]
theorem neT {a b:Int}(h:¬a=b):decide (a≠b)=true:=by simp[h]
theorem E6 {R C R' C':Int}{A B:List Nu}:eb (mS R C A) (mS R' C' B)=some true:=by
 unfold eb
 obtain⟨b1,h1,k1⟩:=KC (R:=R) (C:=C) (V:=A)
 obtain⟨b2,h2,k2⟩:=KC (R:=R') (C:=C') (V:=B)
 rw[h1,h2]
 simp only[ab]
 have sn:(bnd d9 fun x=>some x)=some true:=by rw[Hf];rfl
 rw[sn]
 cases b1 with
 |false=>rw[show (!false)=true from rfl,kT,ab,kT]
 |true=>
  rw[show (!true)=false from rfl,kF]
  cases b2 with
  |false=>rw[show (!false)=true from rfl,kT,ab,kT]
  |true=>
   have hA:A.length≤1000000:=by have:=(k1 rfl).1;omega
   have hB:B.length≤1000000:=by have:=(k2 rfl).1;omega
   rw[show (!true)=false from rfl,kF,ud hA,ab,ud hB,ab]
   by_cases g1:a8 R C A=0
   rotate_left
   ·rw[neT g1,kT,ab,kT]
   rw[neF g1,kF]
   by_cases g2:a8 R' C' B=0
   rotate_left
   ·rw[neT g2,kT,ab,kT]
   rw[neF g2,kF]
   by_cases g3:R=C
   rotate_left
   ·rw[neT g3,kT,ab,kT]
   rw[neF g3,kF]
   by_cases g4:R'=C'
   rotate_left
   ·rw[neT g4,kT,ab,kT]
   rw[neF g4,kF]
   by_cases g5:R=R'
   rotate_left
   ·rw[neT g5,kT,ab,kT]
   rw[neF g5,kF,ab]
   by_cases g6:(4:Int)<R
   ·rw[bw _ _ g6]
   rw[bx _ _ g6]
   subst g3 g4 g5
   obtain⟨n,c,rfl,hc,hm⟩:=eS.1 g1
   obtain rfl:n=c:=by omega
   obtain⟨n',c',hn',LZ,wx⟩:=eS.1 g2
   obtain rfl:n=n':=by omega
   obtain rfl:n=c':=by omega
   rw[Pe hA hB,ab,Ha hA,ab,BR hA,ab,BR hB,ab]
   have ht:Jq n n A=(mS n n (mkM n n (ux n A)),0):=by
    unfold Jq
    rw[az g1,bL]
    exact tran_ok hm
   have hmt:MV n n (mkM n n (ux n A)):=⟨hm.r,hm.r,c9,pw.2 fun i k hi hk=>hm.gd (cd hk hi)⟩
   rw[ht]
   have pdt:=BR (R:=n) (C:=n) (V:=mkM n n (ux n A)) (Ar (by omega) (by omega))
   by_cases e1:(u6 n n A n n B).2=0
   rotate_left
   ·have pd:=BR (R:=0) (C:=0) (V:=[]) (by decide)
    rw[show eR (u6 n n A n n B).1=some (yh 0 0 []) by rw[MU e1];exact pd,ab,pdt,ab,neT e1,kT,ab,kT]
   obtain⟨r,c,k,q1,q2,q3,q4,hma,hmb,hg,h5⟩:=JF e1
   obtain rfl:n=r:=by omega
   obtain rfl:n=c:=by omega
   obtain rfl:n=k:=by omega
   have hmc:MV n n (mkM n n (tf n n A B)):=⟨hm.r,hm.r,c9,hg⟩
   have pdc:=BR (R:=n) (C:=n) (V:=mkM n n (tf n n A B)) (Ar (by omega) (by omega))
   rw[h5]
   dsimp only
   rw[pdc,ab,pdt,ab,neF rfl,kF,kF]
   by_cases e2:(yh n n A).2=0
   rotate_left
   ·rw[neT e2,kT,ab,kT]
   rw[neF e2,kF]
   by_cases e3:(yh n n B).2=0
   rotate_left
   ·rw[neT e3,kT,ab,kT]
   rw[neF e3,kF]
   by_cases e4:(yh n n (mkM n n (tf n n A B))).2=0
   rotate_left
   ·rw[neT e4,kT,ab,kT]
   rw[neF e4,kF,ab]
   by_cases e5:(yh n n (mkM n n (ux n A))).2=0
   rotate_left
   ·rw[neT e5,kT]
   rw[neF e5,kF]
   obtain⟨x,dx,gx,vx⟩:=zW hm e2
   obtain⟨y,dy,gy,vy⟩:=zW wx e3
   obtain⟨z,dz,gz,vz⟩:=zW hmc e4
   obtain⟨w,dw,gw,vw⟩:=zW hmt e5
   rw[dx,dy,dz,dw]
   dsimp only
   rw[Mg,ab,Jo,ab]
   have exw:x=w:=AZ gx gw (by rw[vx,vw,toR_tr])
   have ez:aR (nI x y)=true→nI x y=z:=fun hp=>AZ hp gz (by rw[wo gx gy hp,vx,vy,vz,toR_mul hg])
   have mid:(cnd (aR (nI x y)) (cnd (decide (¬(nv (nI x y)=nv z))) (some (true)) (some (decide (¬(nv x=nv w))))) (some (decide (¬(nv x=nv w)))))=some false:=by
    rw[exw,show decide (¬(nv w=nv w))=false by simp]
    cases hp:aR (nI w y) with
    |false=>rfl
    |true=>
     have e9:nI w y=z:=by
      have:=ez (by rw[exw];exact hp)
      rw[exw] at this;exact this
     rw[kT,e9,show decide (¬(nv z=nv z))=false by simp];rfl
   rw[mid,ab,kF,LI hA,ab,uSign,ab]
   have s0:=Ju gx
   rcases inv_sum hm (by omega) with hi|⟨hi,Lm⟩|⟨Bi,hi,NO,Lm,hs1,H6⟩
   ·rw[bw _ _ hi]
   ·have hsx:kY x=0:=s0.2 (by rw[vx,Lm])
    rw[hi,hsx]
    rfl
   ·have hsx:¬kY x=0:=fun e=>Lm (by rw[←vx];exact s0.1 e)
    have hBi:Bi.length≤1000000:=by rw[NO.len];have:=NO.rc;omega
    rw[hi]
    dsimp only
    rw[bx _ _ (by decide),neT hsx,dU rfl,show (!(true == true))=false from rfl,kF,neF rfl,kF,ab,kF,kF,Pe hA hBi,ab,Pe hBi hA,ab,Hf,ab,kT,vM]
    simp only[ab]
    by_cases f1:(u6 n n A n n Bi).2=0
    ·rw[neF f1,kF,DX hs1 f1,FM D3 rfl,ab,kT]
     by_cases f2:(u6 n n Bi n n A).2=0
     ·rw[neF f2,kF,DX H6 f2,FM D3 rfl];rfl
     ·rw[neT f2,kT];rfl
    ·rw[neT f1,kT]
     by_cases f2:(u6 n n Bi n n A).2=0
     ·rw[neF f2,kF,DX H6 f2,FM D3 rfl];rfl
     ·rw[neT f2,kT];rfl
theorem CE {a b:aB}(hA:QL a.vV)(hB:QL b.vV):eb a b=some true:=by
 obtain⟨R,C,A⟩:=a
 obtain⟨R',C',B⟩:=b
 dsimp only at hA hB
 rw[hA.nu.1,hB.nu.1]
 exact E6
section
open Go.ChangeShapes Go.WideShapes Go.ChangeAt Go.RowKit Go.ChangeMaps
namespace matrixMultiplies
theorem k0:(Rows.matrixMultipliesRow.wf (OpenSpec.ofChange Rows.matrixMultipliesSpec))=true:=by kernel_rfl
theorem k1:(laidOutB prog)=true:=by kernel_rfl
theorem k2:(mapsRowed prog)=true:=by kernel_rfl
theorem k3:(f7.params.all (prog.readableRec ·))=true:=by kernel_rfl
theorem k4:(namedTie prog Rows.matrixMultipliesRow.named Rows.matrixMultipliesSpec.vars)=true:=by kernel_rfl
theorem k5:((Rows.matrixMultipliesRow.stops == []))=true:=by kernel_rfl
theorem k6:((prog.stops == []))=true:=by kernel_rfl
theorem k7:((Rows.matrixMultipliesRow.knobs == []))=true:=by kernel_rfl
theorem k8:((prog.stopKnobs == []))=true:=by kernel_rfl
theorem k9:((Rows.matrixMultipliesRow.inPlace == prog.inPlace 7))=true:=by kernel_rfl
theorem k10:((Rows.matrixMultipliesRow.unfollowed == prog.unfollowed 7))=true:=by kernel_rfl
theorem k11:((Rows.matrixMultipliesRow.recurses == prog.recurses 7))=true:=by kernel_rfl
theorem k12:((Rows.matrixMultipliesRow.named == prog.varsNamed 7))=true:=by kernel_rfl
theorem k13:((Rows.matrixMultipliesRow.maps == (f7.params.toList++Rows.matrixMultipliesSpec.plain.varTypes prog).any (prog.mapsRec ·)))=true:=by kernel_rfl
theorem k14:((Rows.matrixMultipliesRow.ifaces == (f7.params.toList++Rows.matrixMultipliesSpec.plain.varTypes prog).any (prog.ifacesRec ·)))=true:=by kernel_rfl
theorem k15:((Rows.matrixMultipliesRow.mapsOut == prog.mapsAmong f7.resultTypes.toList))=true:=by kernel_rfl
theorem k16:((Rows.matrixMultipliesRow.loops == (f7.params.toList++Rows.matrixMultipliesSpec.plain.varTypes prog).any (prog.loopsFrom ·)))=true:=by kernel_rfl
theorem k17:((Rows.matrixMultipliesRow.wideKeys == (f7.params.toList++Rows.matrixMultipliesSpec.plain.varTypes prog++f7.resultTypes.toList).any (prog.wideKeysFrom ·)))=true:=by kernel_rfl
theorem k18:(Rows.matrixMultipliesSpec.vars.all (prog.varReadable ·))=true:=by kernel_rfl
theorem k19:(f7.resultTypes.all (fun t=>prog.readableRec t&&decide (t<prog.types.size)))=true:=by kernel_rfl
theorem k20:((Rows.matrixMultipliesRow.ifacesOut == f7.resultTypes.toList.any (prog.ifacesRec ·)))=true:=by kernel_rfl
theorem k21:((Rows.matrixMultipliesRow.loopsOut == f7.resultTypes.toList.any (prog.loopsFrom ·)))=true:=by kernel_rfl
theorem k22:((Rows.matrixMultipliesRow.plainKeys == prog.plainKeys))=true:=by kernel_rfl
theorem k23:(Rows.matrixMultipliesRow.shortTexts.isNone)=true:=by kernel_rfl
theorem k24:(prog.stopsHeard)=true:=by kernel_rfl
theorem k25:(prog.mayEnter)=true:=by kernel_rfl
theorem k26:((Rows.matrixMultipliesRow.lifted == prog.liftsFinal))=true:=by kernel_rfl
theorem k27:((prog.make == some Rows.matrixMultipliesRow.make))=true:=by kernel_rfl
theorem k28:((Rows.matrixMultipliesRow.kinds == (if Rows.matrixMultipliesRow.domain.isEmpty then [] else f7.params.toList.map fun t=>match prog.underlying t with|some (.int k)=>some k|_=>none)))=true:=by kernel_rfl
theorem k29:((Rows.matrixMultipliesRow.pinned == Rows.matrixMultipliesRow.pinnedBy))=true:=by kernel_rfl
theorem k30:((Rows.matrixMultipliesRow.veiled == (f7.params.toList++Rows.matrixMultipliesSpec.plain.varTypes prog++f7.resultTypes.toList).any (prog.veiledRec ·)))=true:=by kernel_rfl
theorem k31:(Rows.matrixMultipliesRow.veiledFits prog f7.params.toList (f7.params.toList++Rows.matrixMultipliesSpec.plain.varTypes prog++f7.resultTypes.toList))=true:=by kernel_rfl
theorem my {a b:Bool}(h:a=true)(h2:b=true):(a&&b)=true:=by rw[h,h2];rfl
theorem closed:joinedFacts prog 7 f7 Rows.matrixMultipliesSpec Rows.matrixMultipliesRow=true:=by
 delta joinedFacts
 exact my (my (my (my (my (my (my (my (my (my (my (my (my (my (my (my (my (my (my (my (my (my (my (my (my (my (my (my (my (my (my k0 k1) k2) k3) k4) k5) k6) k7) k8) k9) k10) k11) k12) k13) k14) k15) k16) k17) k18) k19) k20) k21) k22) k23) k24) k25) k26) k27) k28) k29) k30) k31
end matrixMultiplies
end
end
end Go.Proofs.YtgfcnncojhkcoaaGreat
