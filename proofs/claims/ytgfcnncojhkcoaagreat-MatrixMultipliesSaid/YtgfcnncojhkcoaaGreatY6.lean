/-
  Lemmas, part 6. Conditions: none.
-/
import Derived.Test.YtgfcnncojhkcoaaGreatY5
set_option linter.all false
set_option maxRecDepth 100000
set_option maxHeartbeats 4000000
namespace Go.Proofs.YtgfcnncojhkcoaaGreat
open Go.RowKit Go.IntKind Tryz
noncomputable section
section
def pvS(p:Pv):lL:=⟨p.col,nv p.by',p.mov⟩
theorem slE_Pv(l:List Pv):slE vj l=slE bh (l.map pvS):=by
 unfold slE
 rw[ew,IY]
 rfl
def yN(R C:Int)(o:Option (List Nu×List Pv)):cD×Int:=match o with
 |some (U,acc)=>(⟨⟨R,C,U.map nv⟩,acc.map pvS⟩,0)
 |none=>(⟨⟨0,0,[]⟩,[]⟩,30)
structure MatP(m:aB):Prop where
 r0:0≤m.vR
 c0:0≤m.vC
 r1:m.vR≤1000000
 c1:m.vC≤1000000
 rc:m.vR.toNat*m.vC.toNat≤1000000
 len:m.vV.length=m.vR.toNat*m.vC.toNat
 ok:okL m.vV
open Classical in
def eu(m:aB):Option (cD×Int):=
 if MatP m then some (yN m.vR m.vC (kN m.vR.toNat m.vC.toNat m.vC.toNat 0 0 (m.vV.map te) [])) else none
theorem jU {gc:aB}{r:cD×Int}(h:eu gc=some r):aC prog 63 [dG aQ gc] (.tu [dG pJ r.1,dI .i64 r.2]):=by
 unfold eu at h
 split at h
 ·rename_i hp
  obtain rfl:=cv h
  obtain⟨h1,h2,h3,h4,h5,h6,h7⟩:=hp
  have hV:(gc.vV.map te).length=gc.vR.toNat*gc.vC.toNat:=by rw[ew];exact h6
  have hw:=L8 hV h5 (by omega) (by omega)
  have e1:(.ag [dI .i64 (gc.vR.toNat:Int),dI .i64 (gc.vC.toNat:Int),.e (slE a5 (gc.vV.map te))]:D)=dG aQ gc:=by
   rw[HA,F8 h7,Bm h1,Bm h2]
   rfl
  rw[e1] at hw
  have e2:∀o:Option (List Nu×List Pv),redE gc.vR.toNat gc.vC.toNat o=[dG pJ (yN gc.vR gc.vC o).1,dI .i64 (yN gc.vR gc.vC o).2]:=by
   intro o
   match o with
   |some (U,acc)=>
    show [D.ag [dI .i64 (gc.vR.toNat:Int),dI .i64 (gc.vC.toNat:Int),.e (slE a5 U),.e (slE vj acc)],dI .i64 0]=_
    rw[HA,slE_Pv,Bm h1,Bm h2]
    rfl
   |none=>rfl
  rw[e2] at hw
  exact hw
 ·cases h
open Classical in
def gf(l:List ak)(n:Int):Option (List ak):=match l with
 |[a]=>if okR a∧0≤n∧n≤1000000 then some (List.replicate n.toNat a) else none
 |_=>none
theorem ug {l r:List ak}{n:Int}(h:gf l n=some r):HC prog 77 [dL aj l,dI .i64 n] ⟨[],[],0⟩ (.ow 1 0 36 r.length) ⟨[(1,dC ((cW aj).f r))],[],1+1⟩:=by
 unfold gf at h
 split at h
 ·rename_i a
  split at h
  ·rename_i hp
   obtain rfl:=cv h
   obtain⟨h1,h2,h3⟩:=hp
   have hw:=Ob (vs:=[]) (lv:=[]) (N:=0) (a:=te a) (n:=n.toNat) (by omega)
   have e1:slE a5 [te a]=slE aj [a]:=by rw[HA];show slE aj [nv (te a)]=_;rw[DV h1]
   have e2:(cW a5).f (List.replicate n.toNat (te a))=(cW aj).f (List.replicate n.toNat a):=by
    show (List.replicate n.toNat (te a)).flatMap a5.f=(List.replicate n.toNat a).flatMap aj.f
    rw[show a5.f=fun x=>aj.f (nv x) from rfl]
    rw[←IY,Kx,DV h1]
   rw[e1,e2,Bm h2] at hw
   rw[uN]
   exact hw
  ·cases h
 ·cases h
end
section
theorem uAdd(x y:Nu):fI (nv x) (nv y)=some (nv (Cj x y)):=by rw[wr];exact Px x.2 y.2
theorem Mg(x y:Nu):dp (nv x) (nv y)=some (nv (nI x y)):=by rw[wq];exact Je x.2 y.2
theorem uNeg(x:Nu):ln (nv x)=some (nv (F4 x)):=by rw[wn];exact Pu x.2
theorem Jo(x:Nu):bH (nv x)=some (aR x):=by rw[fk];exact kL x.2
theorem uSign(x:Nu):jL (nv x)=some (kY x):=by rw[xD];exact Ps x.2
theorem uOf {n:Int}(h1:-9223372036854775808≤n:=by omega)(h2:n≤9223372036854775807:=by omega):eA n=some (nv (nOf n)):=G_rOf h1 h2
theorem tGood(x:Nu):lD (nv x)=some (aR x):=by rw[fk];exact R_Good x.2
theorem JD {l:List Nu}{i:Nat}(h:i<l.length:=by omega):(l.map nv)[i]! =nv l[i]! :=by
 rw[Bh,Bh,dc,e7 h];rfl
theorem nv_eq {x y:Nu}:nv x=nv y↔x=y:=⟨fun h=>Subtype.ext h,fun h=>by rw[h]⟩
section
variable {R:Type}
theorem kOr(b x:Bool):cnd b (some true) (some x)=some (b||x):=by cases b <;> rfl
theorem kF(x y:Option R):cnd false x y=y:=rfl
theorem kT(x y:Option R):cnd true x y=x:=rfl
theorem w64 {n:Int}(h1:-9223372036854775808≤n:=by omega)(h2:n≤9223372036854775807:=by omega):i64.wrap n=n:=KQ ⟨h1,h2⟩
theorem HQ {n:Nat}(hn:n≤1000000)(ok:Nat→Bool){b:Int→Option (Int⊕(Bool⊕Unit))}(h:∀i:Nat,i<n→b i=cnd (!ok i) (some (.inr (.inl false))) (some (.inl (i64.wrap ((i:Int)+(1:Int))))))(he:b n=some (.inr (.inr ()))):
  a7 b (0:Int)=some (if (List.range n).all ok then .inr () else .inl false):=by
 have key:∀m i:Nat,i+m=n→a7 b (i:Int)=some (if (List.range' i m).all ok then .inr () else .inl false):=by
  intro m
  induction m with
  |zero=>
       intro i hi;obtain rfl:i=n:=by omega
       exact fQ he
  |succ m ih=>
   intro i hi
   have hb:=h i (by omega)
   rw[EW,jy]
   cases hk:ok i with
   |false=>
    rw[hk] at hb
    rw[fQ (by rw[hb];rfl)];rfl
   |true=>
    rw[hk,w64] at hb
    rw[j7 (by rw[hb];rfl)]
    exact ih (i+1) (by omega)
 rw[show ((0:Int))=((0:Nat):Int) from rfl,key n 0 (by omega),LG]
theorem zR {n:Nat}(hn:n≤1000000)(ok:Nat→Bool){b:Int→Option (Int⊕(Int⊕Unit))}(h:∀i:Nat,i<n→b i=cnd (ok i) (some (.inr (.inl (i:Int)))) (some (.inl (i64.wrap ((i:Int)+(1:Int))))))(he:b n=some (.inr (.inr ()))):
  (a7 b (0:Int)=some (.inr ())∧(List.range n).any ok=false)∨∃j:Nat,a7 b (0:Int)=some (.inl (j:Int))∧(List.range n).any ok=true:=by
 have key:∀m i:Nat,i+m=n→(a7 b (i:Int)=some (.inr ())∧(List.range' i m).any ok=false)∨∃j:Nat,a7 b (i:Int)=some (.inl (j:Int))∧(List.range' i m).any ok=true:=by
  intro m
  induction m with
  |zero=>
       intro i hi;obtain rfl:i=n:=by omega
       exact .inl ⟨fQ he,rfl⟩
  |succ m ih=>
   intro i hi
   have hb:=h i (by omega)
   rw[EW,List.any_cons]
   cases hk:ok i with
   |true=>
    rw[hk] at hb
    exact .inr ⟨i,fQ (by rw[hb];rfl),rfl⟩
   |false=>
    rw[hk,w64] at hb
    rw[j7 (show b (i:Int)=some (.inl (((i+1:Nat):Int))) by rw[hb];rfl)]
    exact ih (i+1) (by omega)
 rw[LG]
 exact key n 0 (by omega)
end
theorem Kt {α:Type}[Inhabited α](l:List α)(p:α→Bool):(List.range l.length).all (fun i=>p l[i]!)=l.all p:=by
 rw[De,bZ,bZ]
 constructor
 ·intro h x hx
  obtain⟨i,hi,rfl⟩:=List.getElem_of_mem hx
  have:=h i (wO.2 hi)
  rwa[Bh,e7 hi] at this
 ·intro h i hi
  have hi:=wO.1 hi
  rw[Bh,e7 hi]
  exact h _ (vt hi)
theorem Ks {α:Type}[Inhabited α](l:List α)(p:α→Bool):(List.range l.length).any (fun i=>p l[i]!)=l.any p:=by
 have:=Kt l (fun x=>!p x)
 rw[←Bool.not_inj_iff,←IF,←IF] at this
 simpa using this
theorem qB {C:Nat}(hC:C≤1000000){b:Int×List ak→Option ((Int×List ak)⊕List ak)}(f:Nat→Nu)(acc:List Nu)(hl:acc.length+C≤1000000)
  (h:∀k:Nat,k<C→∀l:List ak,b ((k:Int),l)=gd ((l++[nv (f k)]).length*136≤140737488355328) (some (.inl (i64.wrap ((k:Int)+(1:Int)),l++[nv (f k)]))))
  (he:∀l,b ((C:Int),l)=some (.inr l)):a7 b ((0:Int),acc.map nv)=some ((acc++(List.range C).map f).map nv):=by
 have:=lb (b:=b) (fun k=>((k:Int),(acc++(List.range k).map f).map nv)) 0 C ((acc++(List.range C).map f).map nv) (dZ _) (fun k _ hk=>?_) (he _)
 ·simpa using this
 ·rw[h k hk,aJ (by simp;omega),w64,uO]
  simp
theorem oz {R C:Nat}(hR:R≤1000000){b:Int×List ak→Option ((Int×List ak)⊕List ak)}(f:Nat→Nat→Nu)(hl:R*C≤1000000)
  (h:∀i:Nat,i<R→∀acc:List Nu,acc.length+C≤1000000→b ((i:Int),acc.map nv)=some (.inl (i64.wrap ((i:Int)+(1:Int)),(acc++(List.range C).map (f i)).map nv)))
  (he:∀l,b ((R:Int),l)=some (.inr l)):a7 b ((0:Int),([]:List ak))=some ((mkM R C f).map nv):=by
 have:=lb (b:=b) (fun i=>((i:Int),(mkM i C f).map nv)) 0 R ((mkM R C f).map nv) (dZ _) (fun i _ hi=>?_) (he _)
 ·simpa[mkM] using this
 ·have:(i+1)*C≤R*C:=cg _ hi
  rw[h i hi _ (by rw[c9];rw[rC] at this;omega),w64,←Aq]
  rfl
end
def mm(bn:ak):Option Bool:=bnd (bH bn) fun x1=>some (!x1)
theorem zo {bn:ak}{r:Bool}(h:mm bn=some r):aC prog 103 [dG aj bn] (dB r):=by
 refine bQ (rs:=[.tmp 2]) (fun cx hx h0=>?_) func103
 unfold mm at h
 refine ra hx ?_
 refine rs hx fun K hK=>?_
 refine s1 (d:=dG aj bn) (aE (ao.id _ _) aA) ?_
 refine scb h eK fun x1 h=>?_
 iterate 2 refine sa ?_
 refine .nil (hK _ _ (AW.ret ?_))
 cases h
 exact rv1
def be(nW:List ak):Int→Option (Int⊕(Int⊕Unit)):=fun aV=>cnd (decide (aV<((nW).length:Int))) (gd (0≤aV∧aV<((nW).length:Int)) (bnd (mm ((nW)[(aV).toNat]!)) fun x4=>cnd x4 (some (.inr (.inl aV))) (some (.inl (i64.wrap (aV+(1:Int))))))) (some (.inr (.inr ())))
def bC(nW:List ak):Option Int:=bnd (a7 (be nW) (0:Int)) fun y7=>match y7 with| .inl r=>some r| .inr ()=>some (-1:Int)
theorem g9 {nW:List ak}{r:Int}(h:bC nW=some r):aC prog 135 [dL aj nW,.e (.lit (.func (.func 103) #[] #[]))] (dI .i64 r):=by
 refine bQ (rs:=[.tmp 4]) (fun cx hx h0=>?_) func135
 unfold bC at h
 refine ra hx ?_
 refine AW.seq (ra hx ?_)
 refine AW.block ?_
 obtain⟨y,hy,h⟩:=ah h
 refine lp (S:=Int) (X:=Int⊕Unit) (fun aV=>[(0,dL aj nW),(1,.e (.lit (.func (.func 103) #[] #[]))),(7,dI .i64 ((nW).length:Int)),(8,dI .i64 aV)]) (fun aV=>⟨[],[],0⟩) (PS (PR [.tmp 4] fun r=>dI .i64 r) (PE cx (.exit 0) (fun ()=>[]) fun ()=>⟨[],[],0⟩)) hy ?_ ?_ ?_
 exact wk h0 [] (wR rfl (wR rfl (wR rfl (wR rfl wTn)))) wVn wLn
 clear hy h
 rintro aV y h
 dsimp only[be] at h
 refine ra hx ?_
 refine AW.seq (cdh h rfl (fun cH h=>?_) (fun cH h=>?_))
 refine AW.skip (AW.seq (AW.block (ra hx ?_)))
 refine rs hx fun K hK=>?_
 iterate 3 refine sa ?_
 obtain⟨nb,h⟩:=aD h
 have p8:(aV).toNat<(nW).length:=by omega
 refine s1 (gk nb aP aA) ?_
 refine s1 (d:=dG aj ((nW)[(aV).toNat]!)) (pm (c:=aj) (l:=nW) (n:=(aV).toNat) (o:=0) aA p8 (kC _ _ rfl)) ?_
 refine scb h zo fun x4 h=>?_
 refine .nil (hK _ _ (cdh h rfl (fun eW h=>?_) (fun eW h=>?_)))
 refine ra hx ?_
 refine AW.ret ?_
 cases h
 refine PS.r ⟨by nofun,PS.l (PR.i ?_)⟩
 exact rv1
 refine AW.skip (rb hx ?_)
 cases h
 exact PS.l (pe0 h0 [])
 refine AW.exit ?_
 try dsimp only
 try simp only[aN,reduceIte,Nat.reduceEqDiff,reduceCtorEq]
 cases h
 exact PS.r ⟨by nofun,PS.r (PE.i (wk h0 [] wTn wVn wLn))⟩
 rcases y with r|⟨⟩
 rintro ex tm' hp' ⟨rfl,hw⟩
 cases h
 exact hw
 rintro ex tm' hp' ⟨rfl,hw⟩
 try dsimp only
 try simp only[aN,reduceIte,Nat.reduceEqDiff,reduceCtorEq]
 refine AW.weak hw (ra hx ?_)
 refine AW.ret ?_
 cases h
 exact rv1
def bt(nW:List ak):Option Bool:=bnd (bC nW) fun x1=>some (decide ((0:Int)≤x1))
theorem gJ {nW:List ak}{r:Bool}(h:bt nW=some r):aC prog 102 [dL aj nW,.e (.lit (.func (.func 103) #[] #[]))] (dB r):=by
 refine bQ (rs:=[.tmp 4]) (fun cx hx h0=>?_) func102
 unfold bt at h
 refine ra hx ?_
 refine rs hx fun K hK=>?_
 iterate 2 refine sa ?_
 refine scb h g9 fun x1 h=>?_
 iterate 2 refine sa ?_
 refine .nil (hK _ _ (AW.ret ?_))
 cases h
 exact rv1
def cF(f8:List ak):Option Bool:=bnd (bt f8) fun x1=>some (!x1)
theorem gC {f8:List ak}{r:Bool}(h:cF f8=some r):aC prog 58 [dL aj f8] (dB r):=by
 refine bQ (rs:=[.tmp 2]) (fun cx hx h0=>?_) func58
 unfold cF at h
 refine ra hx ?_
 refine rs hx fun K hK=>?_
 refine sa ?_
 refine scb h gJ fun x1 h=>?_
 iterate 2 refine sa ?_
 refine .nil (hK _ _ (AW.ret ?_))
 cases h
 exact rv1
def dq(gc:aB):Option Int:=bnd (S:=Bool) (cnd (decide (gc.vR<(0:Int))) (some (true)) (cnd (decide ((200:Int)<gc.vR)) (some (true)) (cnd (decide (gc.vC<(0:Int))) (some (true)) (some (decide ((200:Int)<gc.vC)))))) fun kA=>cnd kA (some (2:Int)) (bnd (S:=Bool) (cnd (decide (((gc.vV).length:Int)≠(i64.wrap (gc.vR*gc.vC)))) (some (true)) (bnd (cF gc.vV) fun x7=>some (!x7))) fun j6=>cnd j6 (some (1:Int)) (some (0:Int)))
theorem pN {gc:aB}{r:Int}(h:dq gc=some r):aC prog 11 [dG aQ gc] (dI .i64 r):=by
 refine bQ (rs:=[.tmp 2]) (fun cx hx h0=>?_) func11
 unfold dq at h
 refine rs hx fun K hK=>?_
 refine s1 (d:=.pt 0 0) iX ?_
 refine sa ?_
 refine .nil (hK _ _ (AW.seq (AW.block (AW.seq ?_))))
 obtain⟨kA,hy,h⟩:=ah h
 refine jn ((PE cx .normal (fun kA=>[(1,.pt 0 0),(3,dB kA)]) fun kA=>⟨[(0,[dI .i64 gc.vR,dI .i64 gc.vC,dL aj gc.vV])],[],1⟩) kA) ?_ ?_
 replace h:=hy
 refine rq hx fun K hK=>?_
 refine sa ?_
 refine s1 (ba aY) ?_
 iterate 2 refine sa ?_
 rcases aX (decide (gc.vR<(0:Int))) with cH|cH
 replace h:=aZ cH h
 iterate 3 refine aH rfl rfl cH ?_
 refine s1 (al cH) ?_
 refine sa ?_
 iterate 3 refine aH rfl rfl rfl ?_
 refine s1 (al rfl) ?_
 refine sa ?_
 iterate 3 refine aH rfl rfl rfl ?_
 refine s1 (al rfl) ?_
 refine sa ?_
 refine .nil (hK _ _ ?_)
 cases h
 exact pe0 h0 [0]
 replace h:=a3 cH h
 refine ga cH ?_
 refine g1 cH (ba aY) ?_
 refine ga cH ?_
 refine s1 (au cH) ?_
 refine sa ?_
 rcases aX (decide ((200:Int)<gc.vR)) with ly|ly
 replace h:=aZ ly h
 iterate 3 refine aH rfl rfl ly ?_
 refine s1 (al ly) ?_
 refine sa ?_
 iterate 3 refine aH rfl rfl rfl ?_
 refine s1 (al rfl) ?_
 refine sa ?_
 refine .nil (hK _ _ ?_)
 cases h
 exact pe0 h0 [0]
 replace h:=a3 ly h
 refine ga ly ?_
 refine g1 ly (ba aY) ?_
 refine ga ly ?_
 refine s1 (au ly) ?_
 refine sa ?_
 rcases aX (decide (gc.vC<(0:Int))) with bo|bo
 replace h:=aZ bo h
 iterate 3 refine aH rfl rfl bo ?_
 refine s1 (al bo) ?_
 refine sa ?_
 refine .nil (hK _ _ ?_)
 cases h
 exact pe0 h0 [0]
 replace h:=a3 bo h
 refine ga bo ?_
 refine g1 bo (ba aY) ?_
 refine ga bo ?_
 refine s1 (au bo) ?_
 refine sa ?_
 refine .nil (hK _ _ ?_)
 cases h
 exact pe0 h0 [0]
 rintro ex tm' hp' ⟨rfl,hw⟩
 refine AW.weak hw (cdh h rfl (fun oT h=>?_) (fun oT h=>?_))
 refine ra hx ?_
 refine AW.ret ?_
 cases h
 exact rv1
 refine AW.seq ?_
 obtain⟨j6,hy,h⟩:=ah h
 refine jn ((PE cx .normal (fun j6=>[(22,dB j6)]) fun j6=>⟨[],[],0⟩) j6) ?_ ?_
 replace h:=hy
 refine rq hx fun K hK=>?_
 refine sa ?_
 refine s1 (ba aP) ?_
 iterate 2 refine sa ?_
 refine s1 (ba aY) ?_
 refine sa ?_
 refine s1 (ba aY) ?_
 iterate 3 refine sa ?_
 rcases aX (decide (((gc.vV).length:Int)≠(i64.wrap (gc.vR*gc.vC)))) with eW|eW
 replace h:=aZ eW h
 iterate 4 refine aH rfl rfl eW ?_
 refine s1 (al eW) ?_
 refine sa ?_
 refine .nil (hK _ _ ?_)
 cases h
 exact pe0 h0 []
 replace h:=a3 eW h
 refine ga eW ?_
 refine g1 eW (ba aP) ?_
 obtain⟨x7,zu,h⟩:=ah h
 refine g1 eW (eC rfl (gC zu) rfl (lA (an _) lAn) (.inl rfl)) ?_
 refine ga eW ?_
 refine s1 (au eW) ?_
 refine sa ?_
 refine .nil (hK _ _ ?_)
 cases h
 exact pe0 h0 []
 rintro ex tm' hp' ⟨rfl,hw⟩
 refine AW.weak hw (cdh h rfl (fun fa h=>?_) (fun fa h=>?_))
 refine ra hx ?_
 refine AW.ret ?_
 cases h
 exact rv1
 refine AW.skip (ra hx ?_)
 refine AW.ret ?_
 cases h
 exact rv1
def jj(gc:aB):Option Bool:=bnd (dq gc) fun x1=>some (decide (x1≠(0:Int)))
theorem xe {gc:aB}{r:Bool}(h:jj gc=some r):aC prog 107 [dG aQ gc] (dB r):=by
 refine bQ (rs:=[.tmp 2]) (fun cx hx h0=>?_) func107
 unfold jj at h
 refine rs hx fun K hK=>?_
 refine s1 (d:=.pt 0 0) iX ?_
 refine sa ?_
 refine .nil (hK _ _ (rs hx fun K hK=>?_))
 refine s1 (d:=dG aQ gc) (bP av) ?_
 refine scb h pN fun x1 h=>?_
 iterate 2 refine sa ?_
 refine .nil (hK _ _ (AW.ret ?_))
 cases h
 exact rv1
def aU(nW:List aB):Int→Option (Int⊕(Int⊕Unit)):=fun aV=>cnd (decide (aV<((nW).length:Int))) (gd (0≤aV∧aV<((nW).length:Int)) (bnd (jj ((nW)[(aV).toNat]!)) fun x4=>cnd x4 (some (.inr (.inl aV))) (some (.inl (i64.wrap (aV+(1:Int))))))) (some (.inr (.inr ())))
def bi(nW:List aB):Option Int:=bnd (a7 (aU nW) (0:Int)) fun y7=>match y7 with| .inl r=>some r| .inr ()=>some (-1:Int)
theorem g7 {nW:List aB}{r:Int}(h:bi nW=some r):aC prog 136 [dL aQ nW,.e (.lit (.func (.func 107) #[] #[]))] (dI .i64 r):=by
 refine bQ (rs:=[.tmp 4]) (fun cx hx h0=>?_) func136
 unfold bi at h
 refine ra hx ?_
 refine AW.seq (ra hx ?_)
 refine AW.block ?_
 obtain⟨y,hy,h⟩:=ah h
 refine lp (S:=Int) (X:=Int⊕Unit) (fun aV=>[(0,dL aQ nW),(1,.e (.lit (.func (.func 107) #[] #[]))),(7,dI .i64 ((nW).length:Int)),(8,dI .i64 aV)]) (fun aV=>⟨[],[],0⟩) (PS (PR [.tmp 4] fun r=>dI .i64 r) (PE cx (.exit 0) (fun ()=>[]) fun ()=>⟨[],[],0⟩)) hy ?_ ?_ ?_
 exact wk h0 [] (wR rfl (wR rfl (wR rfl (wR rfl wTn)))) wVn wLn
 clear hy h
 rintro aV y h
 dsimp only[aU] at h
 refine ra hx ?_
 refine AW.seq (cdh h rfl (fun cH h=>?_) (fun cH h=>?_))
 refine AW.skip (AW.seq (AW.block (ra hx ?_)))
 refine rs hx fun K hK=>?_
 iterate 3 refine sa ?_
 obtain⟨nb,h⟩:=aD h
 have p8:(aV).toNat<(nW).length:=by omega
 refine s1 (gk nb pQ av) ?_
 refine s1 (d:=dG aQ ((nW)[(aV).toNat]!)) (pm (c:=aQ) (l:=nW) (n:=(aV).toNat) (o:=0) av p8 (kC _ _ rfl)) ?_
 refine scb h xe fun x4 h=>?_
 refine .nil (hK _ _ (cdh h rfl (fun eW h=>?_) (fun eW h=>?_)))
 refine ra hx ?_
 refine AW.ret ?_
 cases h
 refine PS.r ⟨by nofun,PS.l (PR.i ?_)⟩
 exact rv1
 refine AW.skip (rb hx ?_)
 cases h
 exact PS.l (pe0 h0 [])
 refine AW.exit ?_
 try dsimp only
 try simp only[aN,reduceIte,Nat.reduceEqDiff,reduceCtorEq]
 cases h
 exact PS.r ⟨by nofun,PS.r (PE.i (wk h0 [] wTn wVn wLn))⟩
 rcases y with r|⟨⟩
 rintro ex tm' hp' ⟨rfl,hw⟩
 cases h
 exact hw
 rintro ex tm' hp' ⟨rfl,hw⟩
 try dsimp only
 try simp only[aN,reduceIte,Nat.reduceEqDiff,reduceCtorEq]
 refine AW.weak hw (ra hx ?_)
 refine AW.ret ?_
 cases h
 exact rv1
def bb(nW:List aB):Option Bool:=bnd (bi nW) fun x1=>some (decide ((0:Int)≤x1))
theorem gm {nW:List aB}{r:Bool}(h:bb nW=some r):aC prog 106 [dL aQ nW,.e (.lit (.func (.func 107) #[] #[]))] (dB r):=by
 refine bQ (rs:=[.tmp 4]) (fun cx hx h0=>?_) func106
 unfold bb at h
 refine ra hx ?_
 refine rs hx fun K hK=>?_
 iterate 2 refine sa ?_
 refine scb h g7 fun x1 h=>?_
 iterate 2 refine sa ?_
 refine .nil (hK _ _ (AW.ret ?_))
 cases h
 exact rv1
def bO(f8:List aB):Option Bool:=bnd (bb f8) fun x1=>some (!x1)
theorem eL {f8:List aB}{r:Bool}(h:bO f8=some r):aC prog 62 [dL aQ f8] (dB r):=by
 refine bQ (rs:=[.tmp 2]) (fun cx hx h0=>?_) func62
 unfold bO at h
 refine ra hx ?_
 refine rs hx fun K hK=>?_
 refine sa ?_
 refine scb h gm fun x1 h=>?_
 iterate 2 refine sa ?_
 refine .nil (hK _ _ (AW.ret ?_))
 cases h
 exact rv1
def gg(pb:Int)(kE:Int):Option ak:=cnd (decide (pb=kE)) (bnd (eA (1:Int)) fun x2=>some x2) (bnd (eA (0:Int)) fun x4=>some x4)
theorem oY {pb:Int}{kE:Int}{r:ak}(h:gg pb kE=some r):aC prog 95 [dI .i64 pb,dI .i64 kE] (dG aj r):=by
 refine bQ (rs:=[.cell 4 34]) (fun cx hx h0=>?_) func95
 unfold gg at h
 refine rs hx fun K hK=>?_
 refine s1 (bp (F:=aj.f co) aA) ?_
 refine .nil (hK _ _ (AW.seq (ra hx ?_)))
 refine cdh h rfl (fun cH h=>?_) (fun cH h=>?_)
 refine rs hx fun K hK=>?_
 refine scb h iP fun x2 h=>?_
 refine s0 (aO (b':=x2) (ao.id _ _) aA) ?_
 refine .nil (hK _ _ (AW.ret ?_))
 cases h
 exact rv1
 refine AW.skip (rs hx fun K hK=>?_)
 refine scb h iP fun x4 h=>?_
 refine s0 (aO (b':=x4) (ao.id _ _) aA) ?_
 refine .nil (hK _ _ (AW.ret ?_))
 cases h
 exact rv1
def cE(bW:Int)(aK:Int):Int×(List ak)→Option ((Int×(List ak))⊕((List ak))):=fun (bU,bf)=>cnd (decide (bU<bW)) (bnd (gg aK bU) fun x3=>gd ((bf++[x3]).length*136≤140737488355328) (some (.inl (i64.wrap (bU+(1:Int)),bf++[x3])))) (some (.inr bf))
def cO(ct:Int)(bW:Int):Int×(List ak)→Option ((Int×(List ak))⊕((List ak))):=fun (aK,aS)=>cnd (decide (aK<ct)) (bnd (a7 (cE bW aK) ((0:Int),aS)) fun bD=>some (.inl (i64.wrap (aK+(1:Int)),bD))) (some (.inr aS))
def cu(ct:Int)(bW:Int):Option (aB×Int):=bnd (a7 (cO ct bW) ((0:Int),([]:List ak))) fun aG=>bnd (cF aG) fun x8=>cnd (!x8) (some ((⟨(0:Int),(0:Int),([]:List ak)⟩:aB),(30:Int))) (some ((⟨ct,bW,aG⟩:aB),(0:Int)))
theorem nG {ct:Int}{bW:Int}{r:aB×Int}(h:cu ct bW=some r):aC prog 73 [dI .i64 ct,dI .i64 bW,.e (.lit (.func (.func 95) #[] #[]))] (.tu [dG aQ r.1,dI .i64 r.2]):=by
 refine bQ (rs:=[.cell 6 24,.tmp 7]) (fun cx hx h0=>?_) func73
 unfold cu at h
 refine rs hx fun K hK=>?_
 refine s1 (d:=.pt 0 0) (b9 av) ?_
 refine sa ?_
 refine .nil (hK _ _ (rs hx fun K hK=>?_))
 iterate 2 refine sa ?_
 refine s1 (d:=.ag [dI .i64 ct,dI .i64 bW,dN]) (cV av) ?_
 refine s1 (d:=.pt 1 0) (b9 av) ?_
 refine s0 (dQ (ds':=[dI .i64 ct,dI .i64 bW,dN]) av) ?_
 refine .nil (hK _ _ (AW.seq (ra hx ?_)))
 refine AW.block ?_
 obtain⟨aG,hy,h⟩:=ah h
 refine lp (S:=Int×(List ak)) (X:=(List ak)) (fun (aK,aS)=>[(1,dI .i64 bW),(2,.e (.lit (.func (.func 95) #[] #[]))),(6,.pt 0 0),(8,.pt 1 0),(14,dI .i64 ct),(15,dI .i64 aK)]) (fun (aK,aS)=>⟨[(0,[dI .i64 (0:Int),dI .i64 (0:Int),dN]),(1,[dI .i64 ct,dI .i64 bW,dO 2 aj aS])],[(2,(aS).length,36,34)],3⟩) (PE cx (.exit 0) (fun aG=>[(6,.pt 0 0),(8,.pt 1 0)]) fun aG=>⟨[(0,[dI .i64 (0:Int),dI .i64 (0:Int),dN]),(1,[dI .i64 ct,dI .i64 bW,dO 2 aj aG])],[(2,(aG).length,36,34)],3⟩) hy ?_ ?_ ?_
 exact Wk.trans (Wk.nilOwn (ds':=[dI .i64 ct,dI .i64 bW,dO 2 aj ([]:List ak)]) 1 2 34 36) (wk h0 [0,1,2] (wR rfl (wR rfl (wR rfl (wR rfl (wR rfl (wR rfl wTn)))))) (vR rfl (vR rfl wVn)) (wL rfl rfl wLn))
 clear hy h
 rintro⟨aK,aS⟩ y h
 dsimp only[cO] at h
 refine ra hx ?_
 refine AW.seq (cdh h rfl (fun cH h=>?_) (fun cH h=>?_))
 refine AW.skip (AW.seq (AW.block ?_))
 iterate 2 refine ra hx ?_
 refine AW.block ?_
 obtain⟨bD,hy,h⟩:=ah h
 refine lp (S:=Int×(List ak)) (X:=(List ak)) (fun (bU,bf)=>[(1,dI .i64 bW),(2,.e (.lit (.func (.func 95) #[] #[]))),(6,.pt 0 0),(8,.pt 1 0),(9,dI .i64 aK),(14,dI .i64 ct),(15,dI .i64 aK),(18,dI .i64 bW),(19,dI .i64 bU)]) (fun (bU,bf)=>⟨[(0,[dI .i64 (0:Int),dI .i64 (0:Int),dN]),(1,[dI .i64 ct,dI .i64 bW,dO 2 aj bf])],[(2,(bf).length,36,34)],3⟩) (PE cx (.exit 2) (fun bD=>[(1,dI .i64 bW),(2,.e (.lit (.func (.func 95) #[] #[]))),(6,.pt 0 0),(8,.pt 1 0),(14,dI .i64 ct),(15,dI .i64 aK)]) fun bD=>⟨[(0,[dI .i64 (0:Int),dI .i64 (0:Int),dN]),(1,[dI .i64 ct,dI .i64 bW,dO 2 aj bD])],[(2,(bD).length,36,34)],3⟩) hy ?_ ?_ ?_
 exact wk h0 [0,1,2] (wR rfl (wR rfl (wR rfl (wR rfl (wR rfl (wR rfl (wR rfl (wR rfl (wR rfl wTn))))))))) (vR rfl (vR rfl wVn)) (wL rfl rfl wLn)
 clear hy h
 rintro⟨bU,bf⟩ y h
 dsimp only[cE] at h
 refine ra hx ?_
 refine AW.seq (cdh h rfl (fun ly h=>?_) (fun ly h=>?_))
 refine AW.skip (AW.seq (AW.block (ra hx ?_)))
 obtain⟨x3,xQ,h⟩:=ah h
 obtain⟨Ct,h⟩:=aD h
 refine jn (PE cx .normal (fun (_:Unit)=>[(1,dI .i64 bW),(2,.e (.lit (.func (.func 95) #[] #[]))),(6,.pt 0 0),(8,.pt 1 0),(9,dI .i64 aK),(14,dI .i64 ct),(15,dI .i64 aK),(18,dI .i64 bW),(19,dI .i64 bU)]) (fun (_:Unit)=>⟨[(0,[dI .i64 (0:Int),dI .i64 (0:Int),dN]),(1,[dI .i64 ct,dI .i64 bW,dO 2 aj (bf++[x3])])],[(2,(bf++[x3]).length,36,34)],3⟩) ()) ?_ ?_
 refine dw (DW.split 1 5 (by decide) ?_ ?_)
 refine dwg [] [0,1,2,3,4,5,6,7,8,9] hx (by kernel_rfl) (by kernel_rfl) (by kernel_rfl) fun K hK=>?_
 dsimp only[d6,mT,m7,List.map]
 refine sa ?_
 refine s1 (ba aP) ?_
 iterate 3 refine sa ?_
 refine sc (oY xQ) ?_
 refine s1 (kK ([x3]:List ak) aj aP aA) ?_
 refine s1 (d:=dO 2 aj (bf++[x3])) (iT aP aA Ct) ?_
 refine sa ?_
 refine s0 (dQ (ds':=[dI .i64 ct,dI .i64 bW,dO 2 aj (bf++[x3])]) aP) ?_
 exact .nil (hK _ _ (pe0 h0 [0,1,2]))
 refine dwg [] [0,2,3,4,5,1,6,7,8,9] hx (by kernel_rfl) (by kernel_rfl) (by kernel_rfl) fun K hK=>?_
 dsimp only[d6,mT,m7,List.map]
 iterate 4 refine sa ?_
 refine sc (oY xQ) ?_
 refine s1 (ba aP) ?_
 refine s1 (kK ([x3]:List ak) aj aP aA) ?_
 refine s1 (d:=dO 2 aj (bf++[x3])) (iT aP aA Ct) ?_
 refine sa ?_
 refine s0 (dQ (ds':=[dI .i64 ct,dI .i64 bW,dO 2 aj (bf++[x3])]) aP) ?_
 exact .nil (hK _ _ (pe0 h0 [0,1,2]))
 rintro ex tm' hp' ⟨rfl,hw⟩
 refine AW.weak hw (rb hx ?_)
 cases h
 exact PS.l (pe0 h0 [0,1,2])
 refine AW.exit ?_
 try dsimp only
 try simp only[aN,reduceIte,Nat.reduceEqDiff,reduceCtorEq]
 cases h
 exact PS.r ⟨by nofun,PE.i (wk h0 [0,1,2] (wR rfl (wR rfl (wR rfl (wR rfl (wR rfl (wR rfl wTn)))))) (vR rfl (vR rfl wVn)) (wL rfl rfl wLn))⟩
 rintro ex tm' hp' ⟨rfl,hw⟩
 try dsimp only
 try simp only[aN,reduceIte,Nat.reduceEqDiff,reduceCtorEq]
 refine AW.weak hw (rb hx ?_)
 cases h
 exact PS.l (pe0 h0 [0,1,2])
 refine AW.exit ?_
 try dsimp only
 try simp only[aN,reduceIte,Nat.reduceEqDiff,reduceCtorEq]
 cases h
 exact PS.r ⟨by nofun,PE.i (wk h0 [0,1,2] (wR rfl (wR rfl wTn)) (vR rfl (vR rfl wVn)) (wL rfl rfl wLn))⟩
 rintro ex tm' hp' ⟨rfl,hw⟩
 try dsimp only
 try simp only[aN,reduceIte,Nat.reduceEqDiff,reduceCtorEq]
 refine AW.weak hw (AW.seq (rs hx fun K hK=>?_))
 refine sa ?_
 refine s1 (ba aP) ?_
 refine scb h gC fun x8 h=>?_
 refine sa ?_
 refine .nil (hK _ _ (cdh h rfl (fun fa h=>?_) (fun fa h=>?_)))
 refine rs hx fun K hK=>?_
 refine s1 (d:=.ag [dI .i64 (0:Int),dI .i64 (0:Int),dN]) (cV av) ?_
 refine s0 (dQ (ds':=[dI .i64 (0:Int),dI .i64 (0:Int),dN]) av) ?_
 refine sa ?_
 refine .nil (hK _ _ (AW.ret ?_))
 cases h
 exact fG.mk2 (ey (es:=[dI .i64 (0:Int),dI .i64 (0:Int),dN]) rfl av rfl rfl (ltb rfl) (leb rfl) rfl (bR rfl (.inr ⟨_,_,(kH (wc (gM _) (wc (gM _) (wc (th rfl) wcn)))),(an _),⟨rfl,rfl⟩,rfl⟩)))
 refine AW.skip (rs hx fun K hK=>?_)
 refine s1 (d:=.ag [dI .i64 ct,dI .i64 bW,dO 2 aj aG]) (bP av) ?_
 refine s0 (dQ (ds':=[dI .i64 ct,dI .i64 bW,dO 2 aj aG]) av) ?_
 refine sa ?_
 refine .nil (hK _ _ (AW.ret ?_))
 cases h
 exact fG.mk2 (ey (es:=[dI .i64 ct,dI .i64 bW,dO 2 aj aG]) rfl av rfl rfl (ltb rfl) (leb rfl) rfl (bR rfl (.inr ⟨_,_,(kH (wc (gM _) (wc (gM _) (wc (HW _) wcn)))),(an _),⟨rfl,rfl⟩,rfl⟩)))
def db(c8:Int):Option aB:=bnd (S:=Bool) (cnd (decide (c8<(0:Int))) (some (true)) (some (decide ((200:Int)<c8)))) fun bM=>cnd bM (some (⟨(0:Int),(0:Int),([]:List ak)⟩:aB)) (bnd (cu c8 c8) fun x4=>some x4.1)
theorem iq {c8:Int}{r:aB}(h:db c8=some r):aC prog 43 [dI .i64 c8] (dG aQ r):=by
 refine bQ (rs:=[.cell 2 24]) (fun cx hx h0=>?_) func43
 unfold db at h
 refine rs hx fun K hK=>?_
 refine s1 (d:=.pt 0 0) (b9 av) ?_
 refine .nil (hK _ _ ?_)
 iterate 2 refine AW.seq ?_
 obtain⟨bM,hy,h⟩:=ah h
 refine jn ((PE cx .normal (fun bM=>[(0,dI .i64 c8),(2,.pt 0 0),(10,dB bM)]) fun bM=>⟨[(0,[dI .i64 (0:Int),dI .i64 (0:Int),dN])],[],1⟩) bM) ?_ ?_
 replace h:=hy
 refine rq hx fun K hK=>?_
 iterate 3 refine sa ?_
 rcases aX (decide (c8<(0:Int))) with cH|cH
 replace h:=aZ cH h
 iterate 2 refine aH rfl rfl cH ?_
 refine s1 (al cH) ?_
 refine .nil (hK _ _ ?_)
 cases h
 exact pe0 h0 [0]
 replace h:=a3 cH h
 iterate 2 refine ga cH ?_
 refine s1 (au cH) ?_
 refine .nil (hK _ _ ?_)
 cases h
 exact pe0 h0 [0]
 rintro ex tm' hp' ⟨rfl,hw⟩
 refine AW.weak hw (cdh h rfl (fun bo h=>?_) (fun bo h=>?_))
 refine rs hx fun K hK=>?_
 refine s1 (d:=.ag [dI .i64 (0:Int),dI .i64 (0:Int),dN]) (cV av) ?_
 refine s0 (dQ (ds':=[dI .i64 (0:Int),dI .i64 (0:Int),dN]) av) ?_
 refine .nil (hK _ _ (AW.ret ?_))
 cases h
 exact fG.mk1 (ey (es:=[dI .i64 (0:Int),dI .i64 (0:Int),dN]) rfl av rfl rfl (ltb rfl) (leb rfl) rfl (.inr (.inr ⟨_,(kH (wc (gM _) (wc (gM _) (wc (th rfl) wcn)))),rfl,rfl⟩)))
 refine AW.skip (rs hx fun K hK=>?_)
 iterate 2 refine sa ?_
 refine scb h nG fun x4 h=>?_
 iterate 3 refine sa ?_
 refine s1 (d:=.pt 1 0) (b9 av) ?_
 refine s0 (dQ (ds':=[dI .i64 x4.1.vR,dI .i64 x4.1.vC,dL aj x4.1.vV]) av) ?_
 refine sa ?_
 refine .nil (hK _ _ (rs hx fun K hK=>?_))
 refine s1 (d:=dG aQ x4.1) (bP av) ?_
 refine s0 (dQ (ds':=[dI .i64 x4.1.vR,dI .i64 x4.1.vC,dL aj x4.1.vV]) av) ?_
 refine .nil (hK _ _ (AW.ret ?_))
 cases h
 exact fG.mk1 (ey (es:=(aQ.f x4.1).map .e) rfl av rfl rfl (ltb rfl) (leb rfl) rfl (.inr (.inr ⟨_,(an _),rfl,rfl⟩)))
def ce(gc:aB)(pb:Int)(kE:Int):Option ak:=gd (0≤i64.wrap ((i64.wrap (pb*gc.vC))+kE)∧i64.wrap ((i64.wrap (pb*gc.vC))+kE)<((gc.vV).length:Int)) (bnd (some ((gc.vV)[(i64.wrap ((i64.wrap (pb*gc.vC))+kE)).toNat]!)) fun x3=>some x3)
theorem eD {gc:aB}{pb:Int}{kE:Int}{r:ak}(h:ce gc pb kE=some r):aC prog 75 [dG aQ gc,dI .i64 pb,dI .i64 kE] (dG aj r):=by
 refine bQ (rs:=[.cell 6 34]) (fun cx hx h0=>?_) func75
 unfold ce at h
 refine rs hx fun K hK=>?_
 refine s1 (d:=.pt 0 0) iX ?_
 refine s1 (bp (F:=aj.f co) aA) ?_
 refine .nil (hK _ _ (rs hx fun K hK=>?_))
 refine sa ?_
 refine s1 (ba aP) ?_
 iterate 2 refine sa ?_
 refine s1 (ba aY) ?_
 iterate 3 refine sa ?_
 obtain⟨JX,h⟩:=aD h
 have Gp:(i64.wrap ((i64.wrap (pb*gc.vC))+kE)).toNat<(gc.vV).length:=by omega
 refine s1 (gk JX aP aA) ?_
 refine s1 (d:=dG aj ((gc.vV)[(i64.wrap ((i64.wrap (pb*gc.vC))+kE)).toNat]!)) (pm (c:=aj) (l:=gc.vV) (n:=(i64.wrap ((i64.wrap (pb*gc.vC))+kE)).toNat) (o:=0) aA Gp (kC _ _ rfl)) ?_
 obtain⟨x3,xQ,h⟩:=ah h
 replace xQ:=cv xQ
 refine s0 (jT (b':=(gc.vV)[(i64.wrap ((i64.wrap (pb*gc.vC))+kE)).toNat]!) (ao.id _ _) aA xQ) ?_
 refine .nil (hK _ _ (AW.ret ?_))
 cases h
 exact rv1
def n5(pb:Int)(kE:Int)(bJ:aB)(fc:aB):Option ak:=bnd (ce bJ pb kE) fun x1=>bnd (ce fc pb kE) fun x3=>bnd (fI x1 x3) fun x5=>some x5
def lU(bW:Int)(bJ:aB)(fc:aB)(aK:Int):Int×(List ak)→Option ((Int×(List ak))⊕((List ak))):=fun (bU,bf)=>cnd (decide (bU<bW)) (bnd (n5 aK bU bJ fc) fun x3=>gd ((bf++[x3]).length*136≤140737488355328) (some (.inl (i64.wrap (bU+(1:Int)),bf++[x3])))) (some (.inr bf))
def ms(ct:Int)(bW:Int)(bJ:aB)(fc:aB):Int×(List ak)→Option ((Int×(List ak))⊕((List ak))):=fun (aK,aS)=>cnd (decide (aK<ct)) (bnd (a7 (lU bW bJ fc aK) ((0:Int),aS)) fun bD=>some (.inl (i64.wrap (aK+(1:Int)),bD))) (some (.inr aS))
def oU(ct:Int)(bW:Int)(bJ:aB)(fc:aB):Option (aB×Int):=bnd (a7 (ms ct bW bJ fc) ((0:Int),([]:List ak))) fun aG=>bnd (cF aG) fun x8=>cnd (!x8) (some ((⟨(0:Int),(0:Int),([]:List ak)⟩:aB),(30:Int))) (some ((⟨ct,bW,aG⟩:aB),(0:Int)))
def wD(aW:aB)(a6:aB):Option (aB×Int):=bnd (S:=Bool) (bnd (bO [aW,a6]) fun x1=>cnd (!x1) (some (true)) (cnd (decide (aW.vR≠a6.vR)) (some (true)) (some (decide (aW.vC≠a6.vC))))) fun bM=>cnd bM (some ((⟨(0:Int),(0:Int),([]:List ak)⟩:aB),(1:Int))) (bnd (oU aW.vR aW.vC aW a6) fun x7=>some (x7.1,x7.2))
def mu(pb:Int)(kE:Int)(bJ:aB)(fc:ak):Option ak:=bnd (ce bJ pb kE) fun x1=>bnd (dp x1 fc) fun x3=>some x3
def lq(bW:Int)(bJ:aB)(fc:ak)(aK:Int):Int×(List ak)→Option ((Int×(List ak))⊕((List ak))):=fun (bU,bf)=>cnd (decide (bU<bW)) (bnd (mu aK bU bJ fc) fun x3=>gd ((bf++[x3]).length*136≤140737488355328) (some (.inl (i64.wrap (bU+(1:Int)),bf++[x3])))) (some (.inr bf))
def lV(ct:Int)(bW:Int)(bJ:aB)(fc:ak):Int×(List ak)→Option ((Int×(List ak))⊕((List ak))):=fun (aK,aS)=>cnd (decide (aK<ct)) (bnd (a7 (lq bW bJ fc aK) ((0:Int),aS)) fun bD=>some (.inl (i64.wrap (aK+(1:Int)),bD))) (some (.inr aS))
def n4(ct:Int)(bW:Int)(bJ:aB)(fc:ak):Option (aB×Int):=bnd (a7 (lV ct bW bJ fc) ((0:Int),([]:List ak))) fun aG=>bnd (cF aG) fun x8=>cnd (!x8) (some ((⟨(0:Int),(0:Int),([]:List ak)⟩:aB),(30:Int))) (some ((⟨ct,bW,aG⟩:aB),(0:Int)))
def tw(gc:aB)(bn:ak):Option (aB×Int):=bnd (S:=Bool) (bnd (bO [gc]) fun x1=>cnd (!x1) (some (true)) (bnd (bH bn) fun x4=>some (!x4))) fun bM=>cnd bM (some ((⟨(0:Int),(0:Int),([]:List ak)⟩:aB),(1:Int))) (bnd (n4 gc.vR gc.vC gc bn) fun x8=>some (x8.1,x8.2))
def fJ(pb:Int)(kE:Int)(bJ:aB)(fc:aB):Int×ak→Option ((Int×ak)⊕ak):=fun (cQ,BJ)=>cnd (decide (cQ<bJ.vC)) (bnd (ce bJ pb cQ) fun om=>bnd (ce fc cQ kE) fun qv=>bnd (dp om qv) fun ul=>bnd (fI BJ ul) fun po=>some (.inl (i64.wrap (cQ+(1:Int)),po))) (some (.inr BJ))
def gO(pb:Int)(kE:Int)(bJ:aB)(fc:aB):Option ak:=cnd (decide (bJ.vC=(0:Int))) (bnd (eA (0:Int)) fun x2=>some x2) (bnd (ce bJ pb (0:Int)) fun x4=>bnd (ce fc (0:Int) kE) fun x6=>bnd (dp x4 x6) fun x8=>bnd (a7 (fJ pb kE bJ fc) ((1:Int),x8)) fun lK=>some lK)
theorem rh {pb:Int}{kE:Int}{bJ:aB}{fc:aB}{r:ak}(h:gO pb kE bJ fc=some r):HC prog 84 [dI .i64 pb,dI .i64 kE,.pt 0 0,.pt 1 0] ⟨[(0,[dI .i64 bJ.vR,dI .i64 bJ.vC,dL aj bJ.vV]),(1,[dI .i64 fc.vR,dI .i64 fc.vC,dL aj fc.vV])],[],2⟩ (dG aj r) ⟨[(0,[dI .i64 bJ.vR,dI .i64 bJ.vC,dL aj bJ.vV]),(1,[dI .i64 fc.vR,dI .i64 fc.vC,dL aj fc.vV])],[],2⟩:=by
 refine HC.ofX (rs:=[.cell 6 34]) tok func84 rfl rfl (bg rfl) rfl (fun cx hx h1=>?_)
 have h0:cx.hp0.next=2:=by rw[h1]
 simp only[ee,Nat.reduceAdd,br]
 unfold gO at h
 refine rs hx fun K hK=>?_
 refine s1 (bp (F:=aj.f co) aA) ?_
 refine .nil (hK _ _ (AW.seq (rs hx fun K hK=>?_)))
 refine sa ?_
 refine s1 (ba aY) ?_
 refine sa ?_
 refine .nil (hK _ _ (cdh h rfl (fun cH h=>?_) (fun cH h=>?_)))
 refine rs hx fun K hK=>?_
 refine scb h iP fun x2 h=>?_
 refine s0 (aO (b':=x2) (ao.id _ _) aA) ?_
 refine .nil (hK _ _ (AW.ret ?_))
 cases h
 exact⟨_,pR rfl aA rfl rfl (ltb rfl) (aj.h _) (rfl),qq.of_wk (by rw[hx];exact bg rfl) (wkN h0 [] (wG rfl (an _) wTn) (vR rfl (vR rfl wVn)) wLn)⟩
 refine AW.skip (rsd [75,40] hx fun K hK=>?_)
 refine s1 (d:=dG aQ bJ) (bP av) ?_
 refine sa ?_
 refine cqb h eD fun x4 h=>?_
 refine s1 (d:=dG aQ fc) (bP av) ?_
 refine sa ?_
 refine cqb h eD fun x6 h=>?_
 refine cqb h mF fun x8 h=>?_
 refine s1 (bp (F:=aj.f co) aA) ?_
 refine s0 (aO (b':=x8) (ao.id _ _) aA) ?_
 refine .nil (hK _ _ (AW.seq (ra hx ?_)))
 refine AW.block ?_
 obtain⟨lK,hy,h⟩:=ah h
 refine lp (S:=Int×ak) (X:=ak) (fun (cQ,BJ)=>[(0,dI .i64 pb),(1,dI .i64 kE),(2,.pt 0 0),(3,.pt 1 0),(6,.pt 2 0),(7,.pt 3 0),(8,dI .i64 cQ)]) (fun (cQ,BJ)=>⟨[(0,[dI .i64 bJ.vR,dI .i64 bJ.vC,dL aj bJ.vV]),(1,[dI .i64 fc.vR,dI .i64 fc.vC,dL aj fc.vV]),(2,dC (aj.f co)),(3,dC (aj.f BJ))],[],4⟩) (PE cx (.exit 0) (fun lK=>[(6,.pt 2 0),(7,.pt 3 0)]) fun lK=>⟨[(0,[dI .i64 bJ.vR,dI .i64 bJ.vC,dL aj bJ.vV]),(1,[dI .i64 fc.vR,dI .i64 fc.vC,dL aj fc.vV]),(2,dC (aj.f co)),(3,dC (aj.f lK))],[],4⟩) hy ?_ ?_ ?_
 exact wkN h0 [2,3] (wR rfl (wR rfl (wR rfl (wR rfl (wR rfl (wR rfl (wR rfl wTn))))))) (vR rfl (vR rfl (vC rfl (vC rfl wVn)))) wLn
 clear hy h
 rintro⟨cQ,BJ⟩ y h
 dsimp only[fJ] at h
 refine AW.seq (rs hx fun K hK=>?_)
 iterate 2 refine sa ?_
 refine s1 (ba aY) ?_
 refine sa ?_
 refine .nil (hK _ _ (cdh h rfl (fun fa h=>?_) (fun fa h=>?_)))
 refine AW.skip (AW.seq (AW.block (rqd [75,40,85] hx fun K hK=>?_)))
 refine s1 (d:=dG aj BJ) (aE (ao.id _ _) aA) ?_
 refine s1 (d:=dG aQ bJ) (bP av) ?_
 iterate 2 refine sa ?_
 refine cqb h eD fun om h=>?_
 refine s1 (d:=dG aQ fc) (bP av) ?_
 iterate 2 refine sa ?_
 refine cqb h eD fun qv h=>?_
 refine cqb h mF fun ul h=>?_
 refine cqb h yK fun po h=>?_
 refine s0 (aO (b':=po) (ao.id _ _) aA) ?_
 refine .nil (hK _ _ (rb hx ?_))
 cases h
 exact PS.l (PE.i (wkN h0 [2,3] (wR rfl (wR rfl (wR rfl (wR rfl (wR rfl (wR rfl (wR rfl wTn))))))) (vR rfl (vR rfl (vC rfl (vC rfl wVn)))) wLn))
 refine AW.exit ?_
 try dsimp only
 try simp only[aN,reduceIte,Nat.reduceEqDiff,reduceCtorEq]
 cases h
 exact PS.r ⟨by nofun,PE.i (wkN h0 [2,3] (wR rfl (wR rfl wTn)) (vR rfl (vR rfl (vC rfl (vC rfl wVn)))) wLn)⟩
 rintro ex tm' hp' ⟨rfl,hw⟩
 try dsimp only
 try simp only[aN,reduceIte,Nat.reduceEqDiff,reduceCtorEq]
 refine AW.weak hw (rs hx fun K hK=>?_)
 refine s1 (d:=dG aj lK) (aE (ao.id _ _) aA) ?_
 refine s0 (aO (b':=lK) (ao.id _ _) aA) ?_
 refine .nil (hK _ _ (AW.ret ?_))
 cases h
 exact⟨_,pR rfl aA rfl rfl (ltb rfl) (aj.h _) (rfl),qq.of_wk (by rw[hx];exact bg rfl) (wkN h0 [] (wG rfl (an _) wTn) (vR rfl (vR rfl wVn)) wLn)⟩
def iK(bW:Int)(bJ:aB)(fc:aB)(aK:Int):Int×(List ak)→Option ((Int×(List ak))⊕((List ak))):=fun (bU,bf)=>cnd (decide (bU<bW)) (bnd (gO aK bU bJ fc) fun x3=>gd ((bf++[x3]).length*136≤140737488355328) (some (.inl (i64.wrap (bU+(1:Int)),bf++[x3])))) (some (.inr bf))
def i4(ct:Int)(bW:Int)(bJ:aB)(fc:aB):Int×(List ak)→Option ((Int×(List ak))⊕((List ak))):=fun (aK,aS)=>cnd (decide (aK<ct)) (bnd (a7 (iK bW bJ fc aK) ((0:Int),aS)) fun bD=>some (.inl (i64.wrap (aK+(1:Int)),bD))) (some (.inr aS))
def jp(ct:Int)(bW:Int)(bJ:aB)(fc:aB):Option (aB×Int):=bnd (a7 (i4 ct bW bJ fc) ((0:Int),([]:List ak))) fun aG=>bnd (cF aG) fun x8=>cnd (!x8) (some ((⟨(0:Int),(0:Int),([]:List ak)⟩:aB),(30:Int))) (some ((⟨ct,bW,aG⟩:aB),(0:Int)))
theorem xj {ct:Int}{bW:Int}{bJ:aB}{fc:aB}{r:aB×Int}(h:jp ct bW bJ fc=some r):HC prog 73 [dI .i64 ct,dI .i64 bW,.fn 84 [0,1]] ⟨[(0,[dI .i64 bJ.vR,dI .i64 bJ.vC,dL aj bJ.vV]),(1,[dI .i64 fc.vR,dI .i64 fc.vC,dL aj fc.vV])],[],2⟩ (.tu [dG aQ r.1,dI .i64 r.2]) ⟨[(0,[dI .i64 bJ.vR,dI .i64 bJ.vC,dL aj bJ.vV]),(1,[dI .i64 fc.vR,dI .i64 fc.vC,dL aj fc.vV])],[],2⟩:=by
 refine HC.ofX (rs:=[.cell 6 24,.tmp 7]) tok func73 rfl rfl (bg rfl) rfl (fun cx hx h1=>?_)
 have h0:cx.hp0.next=2:=by rw[h1]
 simp only[ee,Nat.reduceAdd,br]
 unfold jp at h
 refine rs hx fun K hK=>?_
 refine s1 (d:=.pt 2 0) (b9 av) ?_
 refine sa ?_
 refine .nil (hK _ _ (rs hx fun K hK=>?_))
 iterate 2 refine sa ?_
 refine s1 (d:=.ag [dI .i64 ct,dI .i64 bW,dN]) (cV av) ?_
 refine s1 (d:=.pt 3 0) (b9 av) ?_
 refine s0 (dQ (ds':=[dI .i64 ct,dI .i64 bW,dN]) av) ?_
 refine .nil (hK _ _ (AW.seq (ra hx ?_)))
 refine AW.block ?_
 obtain⟨aG,hy,h⟩:=ah h
 refine lp (S:=Int×(List ak)) (X:=(List ak)) (fun (aK,aS)=>[(1,dI .i64 bW),(2,.fn 84 [0,1]),(6,.pt 2 0),(8,.pt 3 0),(14,dI .i64 ct),(15,dI .i64 aK)]) (fun (aK,aS)=>⟨[(0,[dI .i64 bJ.vR,dI .i64 bJ.vC,dL aj bJ.vV]),(1,[dI .i64 fc.vR,dI .i64 fc.vC,dL aj fc.vV]),(2,[dI .i64 (0:Int),dI .i64 (0:Int),dN]),(3,[dI .i64 ct,dI .i64 bW,dO 4 aj aS])],[(4,(aS).length,36,34)],5⟩) (PE cx (.exit 0) (fun aG=>[(6,.pt 2 0),(8,.pt 3 0)]) fun aG=>⟨[(0,[dI .i64 bJ.vR,dI .i64 bJ.vC,dL aj bJ.vV]),(1,[dI .i64 fc.vR,dI .i64 fc.vC,dL aj fc.vV]),(2,[dI .i64 (0:Int),dI .i64 (0:Int),dN]),(3,[dI .i64 ct,dI .i64 bW,dO 4 aj aG])],[(4,(aG).length,36,34)],5⟩) hy ?_ ?_ ?_
 exact Wk.trans (Wk.nilOwn (ds':=[dI .i64 ct,dI .i64 bW,dO 4 aj ([]:List ak)]) 3 2 34 36) (wkN h0 [2,3,4] (wR rfl (wR rfl (wR rfl (wR rfl (wR rfl (wR rfl wTn)))))) (vR rfl (vR rfl (vR rfl (vR rfl wVn)))) (wL rfl rfl wLn))
 clear hy h
 rintro⟨aK,aS⟩ y h
 dsimp only[i4] at h
 refine ra hx ?_
 refine AW.seq (cdh h rfl (fun cH h=>?_) (fun cH h=>?_))
 refine AW.skip (AW.seq (AW.block ?_))
 iterate 2 refine ra hx ?_
 refine AW.block ?_
 obtain⟨bD,hy,h⟩:=ah h
 refine lp (S:=Int×(List ak)) (X:=(List ak)) (fun (bU,bf)=>[(1,dI .i64 bW),(2,.fn 84 [0,1]),(6,.pt 2 0),(8,.pt 3 0),(9,dI .i64 aK),(14,dI .i64 ct),(15,dI .i64 aK),(18,dI .i64 bW),(19,dI .i64 bU)]) (fun (bU,bf)=>⟨[(0,[dI .i64 bJ.vR,dI .i64 bJ.vC,dL aj bJ.vV]),(1,[dI .i64 fc.vR,dI .i64 fc.vC,dL aj fc.vV]),(2,[dI .i64 (0:Int),dI .i64 (0:Int),dN]),(3,[dI .i64 ct,dI .i64 bW,dO 4 aj bf])],[(4,(bf).length,36,34)],5⟩) (PE cx (.exit 2) (fun bD=>[(1,dI .i64 bW),(2,.fn 84 [0,1]),(6,.pt 2 0),(8,.pt 3 0),(14,dI .i64 ct),(15,dI .i64 aK)]) fun bD=>⟨[(0,[dI .i64 bJ.vR,dI .i64 bJ.vC,dL aj bJ.vV]),(1,[dI .i64 fc.vR,dI .i64 fc.vC,dL aj fc.vV]),(2,[dI .i64 (0:Int),dI .i64 (0:Int),dN]),(3,[dI .i64 ct,dI .i64 bW,dO 4 aj bD])],[(4,(bD).length,36,34)],5⟩) hy ?_ ?_ ?_
 exact wkN h0 [2,3,4] (wR rfl (wR rfl (wR rfl (wR rfl (wR rfl (wR rfl (wR rfl (wR rfl (wR rfl wTn))))))))) (vR rfl (vR rfl (vR rfl (vR rfl wVn)))) (wL rfl rfl wLn)
 clear hy h
 rintro⟨bU,bf⟩ y h
 dsimp only[iK] at h
 refine ra hx ?_
 refine AW.seq (cdh h rfl (fun ly h=>?_) (fun ly h=>?_))
 refine AW.skip (AW.seq (AW.block (ra hx ?_)))
 obtain⟨x3,xQ,h⟩:=ah h
 obtain⟨Ct,h⟩:=aD h
 refine jn (PE cx .normal (fun (_:Unit)=>[(1,dI .i64 bW),(2,.fn 84 [0,1]),(6,.pt 2 0),(8,.pt 3 0),(9,dI .i64 aK),(14,dI .i64 ct),(15,dI .i64 aK),(18,dI .i64 bW),(19,dI .i64 bU)]) (fun (_:Unit)=>⟨[(0,[dI .i64 bJ.vR,dI .i64 bJ.vC,dL aj bJ.vV]),(1,[dI .i64 fc.vR,dI .i64 fc.vC,dL aj fc.vV]),(2,[dI .i64 (0:Int),dI .i64 (0:Int),dN]),(3,[dI .i64 ct,dI .i64 bW,dO 4 aj (bf++[x3])])],[(4,(bf++[x3]).length,36,34)],5⟩) ()) ?_ ?_
 refine dw (DW.split 1 5 (by decide) ?_ ?_)
 refine dwg [] [0,1,2,3,4,5,6,7,8,9] hx (by kernel_rfl) (by kernel_rfl) (by kernel_rfl) fun K hK=>?_
 dsimp only[d6,mT,m7,List.map]
 refine sa ?_
 refine s1 (ba aP) ?_
 iterate 3 refine sa ?_
 refine s1 (mj [0,1] rfl (rh xQ) (fA (an _) (fA (an _) (fA (an _) (fA (an _) fAn)))) (vR rfl (vR rfl wVn)) wLn (rvE (rvE rvN)) (qc _ _ _) (uB _ _)) ?_
 refine s1 (kK ([x3]:List ak) aj aP aA) ?_
 refine s1 (d:=dO 4 aj (bf++[x3])) (iT aP aA Ct) ?_
 refine sa ?_
 refine s0 (dQ (ds':=[dI .i64 ct,dI .i64 bW,dO 4 aj (bf++[x3])]) aP) ?_
 exact .nil (hK _ _ (PE.i (wkN h0 [2,3,4] (wR rfl (wR rfl (wR rfl (wR rfl (wR rfl (wR rfl (wR rfl (wR rfl (wR rfl wTn))))))))) (vR rfl (vR rfl (vR rfl (vR rfl wVn)))) (wL rfl rfl wLn))))
 refine dwg [] [0,2,3,4,5,1,6,7,8,9] hx (by kernel_rfl) (by kernel_rfl) (by kernel_rfl) fun K hK=>?_
 dsimp only[d6,mT,m7,List.map]
 iterate 4 refine sa ?_
 refine s1 (mj [0,1] rfl (rh xQ) (fA (an _) (fA (an _) (fA (an _) (fA (an _) fAn)))) (vR rfl (vR rfl wVn)) wLn (rvE (rvE rvN)) (qc _ _ _) (uB _ _)) ?_
 refine s1 (ba aP) ?_
 refine s1 (kK ([x3]:List ak) aj aP aA) ?_
 refine s1 (d:=dO 4 aj (bf++[x3])) (iT aP aA Ct) ?_
 refine sa ?_
 refine s0 (dQ (ds':=[dI .i64 ct,dI .i64 bW,dO 4 aj (bf++[x3])]) aP) ?_
 exact .nil (hK _ _ (PE.i (wkN h0 [2,3,4] (wR rfl (wR rfl (wR rfl (wR rfl (wR rfl (wR rfl (wR rfl (wR rfl (wR rfl wTn))))))))) (vR rfl (vR rfl (vR rfl (vR rfl wVn)))) (wL rfl rfl wLn))))
 rintro ex tm' hp' ⟨rfl,hw⟩
 refine AW.weak hw (rb hx ?_)
 cases h
 exact PS.l (PE.i (wkN h0 [2,3,4] (wR rfl (wR rfl (wR rfl (wR rfl (wR rfl (wR rfl (wR rfl (wR rfl (wR rfl wTn))))))))) (vR rfl (vR rfl (vR rfl (vR rfl wVn)))) (wL rfl rfl wLn)))
 refine AW.exit ?_
 try dsimp only
 try simp only[aN,reduceIte,Nat.reduceEqDiff,reduceCtorEq]
 cases h
 exact PS.r ⟨by nofun,PE.i (wkN h0 [2,3,4] (wR rfl (wR rfl (wR rfl (wR rfl (wR rfl (wR rfl wTn)))))) (vR rfl (vR rfl (vR rfl (vR rfl wVn)))) (wL rfl rfl wLn))⟩
 rintro ex tm' hp' ⟨rfl,hw⟩
 try dsimp only
 try simp only[aN,reduceIte,Nat.reduceEqDiff,reduceCtorEq]
 refine AW.weak hw (rb hx ?_)
 cases h
 exact PS.l (PE.i (wkN h0 [2,3,4] (wR rfl (wR rfl (wR rfl (wR rfl (wR rfl (wR rfl wTn)))))) (vR rfl (vR rfl (vR rfl (vR rfl wVn)))) (wL rfl rfl wLn)))
 refine AW.exit ?_
 try dsimp only
 try simp only[aN,reduceIte,Nat.reduceEqDiff,reduceCtorEq]
 cases h
 exact PS.r ⟨by nofun,PE.i (wkN h0 [2,3,4] (wR rfl (wR rfl wTn)) (vR rfl (vR rfl (vR rfl (vR rfl wVn)))) (wL rfl rfl wLn))⟩
 rintro ex tm' hp' ⟨rfl,hw⟩
 try dsimp only
 try simp only[aN,reduceIte,Nat.reduceEqDiff,reduceCtorEq]
 refine AW.weak hw (AW.seq (rs hx fun K hK=>?_))
 refine sa ?_
 refine s1 (ba aP) ?_
 refine scb h gC fun x8 h=>?_
 refine sa ?_
 refine .nil (hK _ _ (cdh h rfl (fun fa h=>?_) (fun fa h=>?_)))
 refine rs hx fun K hK=>?_
 refine s1 (d:=.ag [dI .i64 (0:Int),dI .i64 (0:Int),dN]) (cV av) ?_
 refine s0 (dQ (ds':=[dI .i64 (0:Int),dI .i64 (0:Int),dN]) av) ?_
 refine sa ?_
 refine .nil (hK _ _ (AW.ret ?_))
 cases h
 exact⟨_,ey (es:=[dI .i64 (0:Int),dI .i64 (0:Int),dN]) rfl av rfl rfl (ltb rfl) (leb rfl) rfl (bR rfl (rfl)),qq.of_wk2 (by rw[hx];exact bg rfl) (wkN h0 [] (wG rfl (kH (wc (gM _) (wc (gM _) (wc (th rfl) wcn)))) (wR rfl wTn)) (vR rfl (vR rfl wVn)) wLn)⟩
 refine AW.skip (rs hx fun K hK=>?_)
 refine s1 (d:=.ag [dI .i64 ct,dI .i64 bW,dO 4 aj aG]) (bP av) ?_
 refine s0 (dQ (ds':=[dI .i64 ct,dI .i64 bW,dO 4 aj aG]) av) ?_
 refine sa ?_
 refine .nil (hK _ _ (AW.ret ?_))
 cases h
 exact⟨_,ey (es:=[dI .i64 ct,dI .i64 bW,dO 4 aj aG]) rfl av rfl rfl (ltb rfl) (leb rfl) rfl (bR rfl (rfl)),qq.of_wk2 (by rw[hx];exact bg rfl) (wkN h0 [] (wG rfl (kH (wc (gM _) (wc (gM _) (wc (HW _) wcn)))) (wR rfl wTn)) (vR rfl (vR rfl wVn)) wLn)⟩
def jM(aW:aB)(a6:aB):Option (aB×Int):=bnd (S:=Bool) (bnd (bO [aW,a6]) fun x1=>cnd (!x1) (some (true)) (some (decide (aW.vC≠a6.vR)))) fun bM=>cnd bM (some ((⟨(0:Int),(0:Int),([]:List ak)⟩:aB),(1:Int))) (bnd (jp aW.vR a6.vC aW a6) fun x6=>some (x6.1,x6.2))
theorem rL {aW:aB}{a6:aB}{r:aB×Int}(h:jM aW a6=some r):aC prog 31 [dG aQ aW,dG aQ a6] (.tu [dG aQ r.1,dI .i64 r.2]):=by
 refine bQ (rs:=[.cell 4 24,.tmp 5]) (fun cx hx h0=>?_) func31
 unfold jM at h
 refine rs hx fun K hK=>?_
 refine s1 (d:=.pt 0 0) iX ?_
 refine s1 (d:=.pt 1 0) iX ?_
 refine s1 (d:=.pt 2 0) (b9 av) ?_
 refine sa ?_
 refine .nil (hK _ _ ?_)
 iterate 2 refine AW.seq ?_
 obtain⟨bM,hy,h⟩:=ah h
 refine jn ((PE cx .normal (fun bM=>[(2,.pt 0 0),(3,.pt 1 0),(4,.pt 2 0),(17,dB bM)]) fun bM=>⟨[(0,[dI .i64 aW.vR,dI .i64 aW.vC,dL aj aW.vV]),(1,[dI .i64 a6.vR,dI .i64 a6.vC,dL aj a6.vV]),(2,[dI .i64 (0:Int),dI .i64 (0:Int),dN])],[],3⟩) bM) ?_ ?_
 replace h:=hy
 refine rq hx fun K hK=>?_
 refine s1 (d:=dG aQ aW) (bP av) ?_
 refine s1 (d:=dG aQ a6) (bP av) ?_
 refine s1 (d:=dO 3 aQ [aW,a6]) (iW pQ av) ?_
 refine scb h eL fun x1 h=>?_
 iterate 2 refine sa ?_
 rcases aX (!x1) with bo|bo
 replace h:=aZ bo h
 iterate 5 refine aH rfl rfl bo ?_
 refine s1 (al bo) ?_
 refine .nil (hK _ _ ?_)
 cases h
 exact pe0 h0 [0,1,2]
 replace h:=a3 bo h
 refine ga bo ?_
 refine g1 bo (ba aY) ?_
 refine ga bo ?_
 refine g1 bo (ba aY) ?_
 refine ga bo ?_
 refine s1 (au bo) ?_
 refine .nil (hK _ _ ?_)
 cases h
 exact pe0 h0 [0,1,2]
 rintro ex tm' hp' ⟨rfl,hw⟩
 refine AW.weak hw (cdh h rfl (fun oT h=>?_) (fun oT h=>?_))
 refine rs hx fun K hK=>?_
 refine s1 (d:=.ag [dI .i64 (0:Int),dI .i64 (0:Int),dN]) (cV av) ?_
 refine s0 (dQ (ds':=[dI .i64 (0:Int),dI .i64 (0:Int),dN]) av) ?_
 refine sa ?_
 refine .nil (hK _ _ (AW.ret ?_))
 cases h
 exact fG.mk2 (ey (es:=[dI .i64 (0:Int),dI .i64 (0:Int),dN]) rfl av rfl rfl (ltb rfl) (leb rfl) rfl (bR rfl (.inr ⟨_,_,(kH (wc (gM _) (wc (gM _) (wc (th rfl) wcn)))),(an _),⟨rfl,rfl⟩,rfl⟩)))
 refine AW.skip (rs hx fun K hK=>?_)
 refine sa ?_
 refine s1 (ba aY) ?_
 refine sa ?_
 refine s1 (ba aY) ?_
 refine s1 uQ ?_
 obtain⟨x6,sO,h⟩:=ah h
 refine s1 (w6 [0,1] rfl (xj sO) (fA (an _) (fA (an _) (fA (an _) fAn))) (vR rfl (vR rfl wVn)) wLn) ?_
 iterate 2 refine sa ?_
 refine s0 (dQ (ds':=[dI .i64 x6.1.vR,dI .i64 x6.1.vC,dL aj x6.1.vV]) av) ?_
 refine sa ?_
 refine .nil (hK _ _ (AW.ret ?_))
 cases h
 exact fG.mk2 (ey (es:=(aQ.f x6.1).map .e) rfl av rfl rfl (ltb rfl) (leb rfl) rfl (bR rfl (.inr ⟨_,_,(an _),(an _),⟨rfl,rfl⟩,rfl⟩)))
def eQ(pb:Int)(kE:Int)(bJ:aB):Option ak:=bnd (ce bJ kE pb) fun x1=>some x1
theorem mY {pb:Int}{kE:Int}{bJ:aB}{r:ak}(h:eQ pb kE bJ=some r):HC prog 88 [dI .i64 pb,dI .i64 kE,.pt 0 0] ⟨[(0,[dI .i64 bJ.vR,dI .i64 bJ.vC,dL aj bJ.vV])],[],1⟩ (dG aj r) ⟨[(0,[dI .i64 bJ.vR,dI .i64 bJ.vC,dL aj bJ.vV])],[],1⟩:=by
 refine HC.ofX (rs:=[.cell 5 34]) tok func88 rfl rfl (bg rfl) rfl (fun cx hx h1=>?_)
 have h0:cx.hp0.next=1:=by rw[h1]
 simp only[ee,Nat.reduceAdd,br]
 unfold eQ at h
 refine rs hx fun K hK=>?_
 refine s1 (bp (F:=aj.f co) aA) ?_
 refine .nil (hK _ _ (rs hx fun K hK=>?_))
 refine s1 (d:=dG aQ bJ) (bP av) ?_
 iterate 2 refine sa ?_
 refine scb h eD fun x1 h=>?_
 refine s0 (aO (b':=x1) (ao.id _ _) aA) ?_
 refine .nil (hK _ _ (AW.ret ?_))
 cases h
 exact⟨_,pR rfl aA rfl rfl (ltb rfl) (aj.h _) (rfl),qq.of_wk (by rw[hx];exact bg rfl) (wkN h0 [] (wG rfl (an _) wTn) (vR rfl wVn) wLn)⟩
def iJ(bW:Int)(bJ:aB)(aK:Int):Int×(List ak)→Option ((Int×(List ak))⊕((List ak))):=fun (bU,bf)=>cnd (decide (bU<bW)) (bnd (eQ aK bU bJ) fun x3=>gd ((bf++[x3]).length*136≤140737488355328) (some (.inl (i64.wrap (bU+(1:Int)),bf++[x3])))) (some (.inr bf))
def i3(ct:Int)(bW:Int)(bJ:aB):Int×(List ak)→Option ((Int×(List ak))⊕((List ak))):=fun (aK,aS)=>cnd (decide (aK<ct)) (bnd (a7 (iJ bW bJ aK) ((0:Int),aS)) fun bD=>some (.inl (i64.wrap (aK+(1:Int)),bD))) (some (.inr aS))
def jo(ct:Int)(bW:Int)(bJ:aB):Option (aB×Int):=bnd (a7 (i3 ct bW bJ) ((0:Int),([]:List ak))) fun aG=>bnd (cF aG) fun x8=>cnd (!x8) (some ((⟨(0:Int),(0:Int),([]:List ak)⟩:aB),(30:Int))) (some ((⟨ct,bW,aG⟩:aB),(0:Int)))
theorem xi {ct:Int}{bW:Int}{bJ:aB}{r:aB×Int}(h:jo ct bW bJ=some r):HC prog 73 [dI .i64 ct,dI .i64 bW,.fn 88 [0]] ⟨[(0,[dI .i64 bJ.vR,dI .i64 bJ.vC,dL aj bJ.vV])],[],1⟩ (.tu [dG aQ r.1,dI .i64 r.2]) ⟨[(0,[dI .i64 bJ.vR,dI .i64 bJ.vC,dL aj bJ.vV])],[],1⟩:=by
 refine HC.ofX (rs:=[.cell 6 24,.tmp 7]) tok func73 rfl rfl (bg rfl) rfl (fun cx hx h1=>?_)
 have h0:cx.hp0.next=1:=by rw[h1]
 simp only[ee,Nat.reduceAdd,br]
 unfold jo at h
 refine rs hx fun K hK=>?_
 refine s1 (d:=.pt 1 0) (b9 av) ?_
 refine sa ?_
 refine .nil (hK _ _ (rs hx fun K hK=>?_))
 iterate 2 refine sa ?_
 refine s1 (d:=.ag [dI .i64 ct,dI .i64 bW,dN]) (cV av) ?_
 refine s1 (d:=.pt 2 0) (b9 av) ?_
 refine s0 (dQ (ds':=[dI .i64 ct,dI .i64 bW,dN]) av) ?_
 refine .nil (hK _ _ (AW.seq (ra hx ?_)))
 refine AW.block ?_
 obtain⟨aG,hy,h⟩:=ah h
 refine lp (S:=Int×(List ak)) (X:=(List ak)) (fun (aK,aS)=>[(1,dI .i64 bW),(2,.fn 88 [0]),(6,.pt 1 0),(8,.pt 2 0),(14,dI .i64 ct),(15,dI .i64 aK)]) (fun (aK,aS)=>⟨[(0,[dI .i64 bJ.vR,dI .i64 bJ.vC,dL aj bJ.vV]),(1,[dI .i64 (0:Int),dI .i64 (0:Int),dN]),(2,[dI .i64 ct,dI .i64 bW,dO 3 aj aS])],[(3,(aS).length,36,34)],4⟩) (PE cx (.exit 0) (fun aG=>[(6,.pt 1 0),(8,.pt 2 0)]) fun aG=>⟨[(0,[dI .i64 bJ.vR,dI .i64 bJ.vC,dL aj bJ.vV]),(1,[dI .i64 (0:Int),dI .i64 (0:Int),dN]),(2,[dI .i64 ct,dI .i64 bW,dO 3 aj aG])],[(3,(aG).length,36,34)],4⟩) hy ?_ ?_ ?_
 exact Wk.trans (Wk.nilOwn (ds':=[dI .i64 ct,dI .i64 bW,dO 3 aj ([]:List ak)]) 2 2 34 36) (wkN h0 [1,2,3] (wR rfl (wR rfl (wR rfl (wR rfl (wR rfl (wR rfl wTn)))))) (vR rfl (vR rfl (vR rfl wVn))) (wL rfl rfl wLn))
 clear hy h
 rintro⟨aK,aS⟩ y h
 dsimp only[i3] at h
 refine ra hx ?_
 refine AW.seq (cdh h rfl (fun cH h=>?_) (fun cH h=>?_))
 refine AW.skip (AW.seq (AW.block ?_))
 iterate 2 refine ra hx ?_
 refine AW.block ?_
 obtain⟨bD,hy,h⟩:=ah h
 refine lp (S:=Int×(List ak)) (X:=(List ak)) (fun (bU,bf)=>[(1,dI .i64 bW),(2,.fn 88 [0]),(6,.pt 1 0),(8,.pt 2 0),(9,dI .i64 aK),(14,dI .i64 ct),(15,dI .i64 aK),(18,dI .i64 bW),(19,dI .i64 bU)]) (fun (bU,bf)=>⟨[(0,[dI .i64 bJ.vR,dI .i64 bJ.vC,dL aj bJ.vV]),(1,[dI .i64 (0:Int),dI .i64 (0:Int),dN]),(2,[dI .i64 ct,dI .i64 bW,dO 3 aj bf])],[(3,(bf).length,36,34)],4⟩) (PE cx (.exit 2) (fun bD=>[(1,dI .i64 bW),(2,.fn 88 [0]),(6,.pt 1 0),(8,.pt 2 0),(14,dI .i64 ct),(15,dI .i64 aK)]) fun bD=>⟨[(0,[dI .i64 bJ.vR,dI .i64 bJ.vC,dL aj bJ.vV]),(1,[dI .i64 (0:Int),dI .i64 (0:Int),dN]),(2,[dI .i64 ct,dI .i64 bW,dO 3 aj bD])],[(3,(bD).length,36,34)],4⟩) hy ?_ ?_ ?_
 exact wkN h0 [1,2,3] (wR rfl (wR rfl (wR rfl (wR rfl (wR rfl (wR rfl (wR rfl (wR rfl (wR rfl wTn))))))))) (vR rfl (vR rfl (vR rfl wVn))) (wL rfl rfl wLn)
 clear hy h
 rintro⟨bU,bf⟩ y h
 dsimp only[iJ] at h
 refine ra hx ?_
 refine AW.seq (cdh h rfl (fun ly h=>?_) (fun ly h=>?_))
 refine AW.skip (AW.seq (AW.block (ra hx ?_)))
 obtain⟨x3,xQ,h⟩:=ah h
 obtain⟨Ct,h⟩:=aD h
 refine jn (PE cx .normal (fun (_:Unit)=>[(1,dI .i64 bW),(2,.fn 88 [0]),(6,.pt 1 0),(8,.pt 2 0),(9,dI .i64 aK),(14,dI .i64 ct),(15,dI .i64 aK),(18,dI .i64 bW),(19,dI .i64 bU)]) (fun (_:Unit)=>⟨[(0,[dI .i64 bJ.vR,dI .i64 bJ.vC,dL aj bJ.vV]),(1,[dI .i64 (0:Int),dI .i64 (0:Int),dN]),(2,[dI .i64 ct,dI .i64 bW,dO 3 aj (bf++[x3])])],[(3,(bf++[x3]).length,36,34)],4⟩) ()) ?_ ?_
 refine dw (DW.split 1 5 (by decide) ?_ ?_)
 refine dwg [] [0,1,2,3,4,5,6,7,8,9] hx (by kernel_rfl) (by kernel_rfl) (by kernel_rfl) fun K hK=>?_
 dsimp only[d6,mT,m7,List.map]
 refine sa ?_
 refine s1 (ba aP) ?_
 iterate 3 refine sa ?_
 refine s1 (mj [0] rfl (mY xQ) (fA (an _) (fA (an _) (fA (an _) fAn))) (vR rfl wVn) wLn (rvE rvN) (qc _ _ _) (uB _ _)) ?_
 refine s1 (kK ([x3]:List ak) aj aP aA) ?_
 refine s1 (d:=dO 3 aj (bf++[x3])) (iT aP aA Ct) ?_
 refine sa ?_
 refine s0 (dQ (ds':=[dI .i64 ct,dI .i64 bW,dO 3 aj (bf++[x3])]) aP) ?_
 exact .nil (hK _ _ (PE.i (wkN h0 [1,2,3] (wR rfl (wR rfl (wR rfl (wR rfl (wR rfl (wR rfl (wR rfl (wR rfl (wR rfl wTn))))))))) (vR rfl (vR rfl (vR rfl wVn))) (wL rfl rfl wLn))))
 refine dwg [] [0,2,3,4,5,1,6,7,8,9] hx (by kernel_rfl) (by kernel_rfl) (by kernel_rfl) fun K hK=>?_
 dsimp only[d6,mT,m7,List.map]
 iterate 4 refine sa ?_
 refine s1 (mj [0] rfl (mY xQ) (fA (an _) (fA (an _) (fA (an _) fAn))) (vR rfl wVn) wLn (rvE rvN) (qc _ _ _) (uB _ _)) ?_
 refine s1 (ba aP) ?_
 refine s1 (kK ([x3]:List ak) aj aP aA) ?_
 refine s1 (d:=dO 3 aj (bf++[x3])) (iT aP aA Ct) ?_
 refine sa ?_
 refine s0 (dQ (ds':=[dI .i64 ct,dI .i64 bW,dO 3 aj (bf++[x3])]) aP) ?_
 exact .nil (hK _ _ (PE.i (wkN h0 [1,2,3] (wR rfl (wR rfl (wR rfl (wR rfl (wR rfl (wR rfl (wR rfl (wR rfl (wR rfl wTn))))))))) (vR rfl (vR rfl (vR rfl wVn))) (wL rfl rfl wLn))))
 rintro ex tm' hp' ⟨rfl,hw⟩
 refine AW.weak hw (rb hx ?_)
 cases h
 exact PS.l (PE.i (wkN h0 [1,2,3] (wR rfl (wR rfl (wR rfl (wR rfl (wR rfl (wR rfl (wR rfl (wR rfl (wR rfl wTn))))))))) (vR rfl (vR rfl (vR rfl wVn))) (wL rfl rfl wLn)))
 refine AW.exit ?_
 try dsimp only
 try simp only[aN,reduceIte,Nat.reduceEqDiff,reduceCtorEq]
 cases h
 exact PS.r ⟨by nofun,PE.i (wkN h0 [1,2,3] (wR rfl (wR rfl (wR rfl (wR rfl (wR rfl (wR rfl wTn)))))) (vR rfl (vR rfl (vR rfl wVn))) (wL rfl rfl wLn))⟩
 rintro ex tm' hp' ⟨rfl,hw⟩
 try dsimp only
 try simp only[aN,reduceIte,Nat.reduceEqDiff,reduceCtorEq]
 refine AW.weak hw (rb hx ?_)
 cases h
 exact PS.l (PE.i (wkN h0 [1,2,3] (wR rfl (wR rfl (wR rfl (wR rfl (wR rfl (wR rfl wTn)))))) (vR rfl (vR rfl (vR rfl wVn))) (wL rfl rfl wLn)))
 refine AW.exit ?_
 try dsimp only
 try simp only[aN,reduceIte,Nat.reduceEqDiff,reduceCtorEq]
 cases h
 exact PS.r ⟨by nofun,PE.i (wkN h0 [1,2,3] (wR rfl (wR rfl wTn)) (vR rfl (vR rfl (vR rfl wVn))) (wL rfl rfl wLn))⟩
 rintro ex tm' hp' ⟨rfl,hw⟩
 try dsimp only
 try simp only[aN,reduceIte,Nat.reduceEqDiff,reduceCtorEq]
 refine AW.weak hw (AW.seq (rs hx fun K hK=>?_))
 refine sa ?_
 refine s1 (ba aP) ?_
 refine scb h gC fun x8 h=>?_
 refine sa ?_
 refine .nil (hK _ _ (cdh h rfl (fun fa h=>?_) (fun fa h=>?_)))
 refine rs hx fun K hK=>?_
 refine s1 (d:=.ag [dI .i64 (0:Int),dI .i64 (0:Int),dN]) (cV av) ?_
 refine s0 (dQ (ds':=[dI .i64 (0:Int),dI .i64 (0:Int),dN]) av) ?_
 refine sa ?_
 refine .nil (hK _ _ (AW.ret ?_))
 cases h
 exact⟨_,ey (es:=[dI .i64 (0:Int),dI .i64 (0:Int),dN]) rfl av rfl rfl (ltb rfl) (leb rfl) rfl (bR rfl (rfl)),qq.of_wk2 (by rw[hx];exact bg rfl) (wkN h0 [] (wG rfl (kH (wc (gM _) (wc (gM _) (wc (th rfl) wcn)))) (wR rfl wTn)) (vR rfl wVn) wLn)⟩
 refine AW.skip (rs hx fun K hK=>?_)
 refine s1 (d:=.ag [dI .i64 ct,dI .i64 bW,dO 3 aj aG]) (bP av) ?_
 refine s0 (dQ (ds':=[dI .i64 ct,dI .i64 bW,dO 3 aj aG]) av) ?_
 refine sa ?_
 refine .nil (hK _ _ (AW.ret ?_))
 cases h
 exact⟨_,ey (es:=[dI .i64 ct,dI .i64 bW,dO 3 aj aG]) rfl av rfl rfl (ltb rfl) (leb rfl) rfl (bR rfl (rfl)),qq.of_wk2 (by rw[hx];exact bg rfl) (wkN h0 [] (wG rfl (kH (wc (gM _) (wc (gM _) (wc (HW _) wcn)))) (wR rfl wTn)) (vR rfl wVn) wLn)⟩
def gU(gc:aB):Option (aB×Int):=bnd (bO [gc]) fun x1=>cnd (!x1) (some ((⟨(0:Int),(0:Int),([]:List ak)⟩:aB),(1:Int))) (bnd (jo gc.vC gc.vR gc) fun x4=>some (x4.1,x4.2))
theorem uS {gc:aB}{r:aB×Int}(h:gU gc=some r):aC prog 39 [dG aQ gc] (.tu [dG aQ r.1,dI .i64 r.2]):=by
 refine bQ (rs:=[.cell 2 24,.tmp 3]) (fun cx hx h0=>?_) func39
 unfold gU at h
 refine rs hx fun K hK=>?_
 refine s1 (d:=.pt 0 0) iX ?_
 refine s1 (d:=.pt 1 0) (b9 av) ?_
 refine sa ?_
 refine .nil (hK _ _ (AW.seq (rs hx fun K hK=>?_)))
 refine s1 (d:=dG aQ gc) (bP av) ?_
 refine s1 (d:=dO 2 aQ [gc]) (iW pQ av) ?_
 refine scb h eL fun x1 h=>?_
 refine sa ?_
 refine .nil (hK _ _ (cdh h rfl (fun bo h=>?_) (fun bo h=>?_)))
 refine rs hx fun K hK=>?_
 refine s1 (d:=.ag [dI .i64 (0:Int),dI .i64 (0:Int),dN]) (cV av) ?_
 refine s0 (dQ (ds':=[dI .i64 (0:Int),dI .i64 (0:Int),dN]) av) ?_
 refine sa ?_
 refine .nil (hK _ _ (AW.ret ?_))
 cases h
 exact fG.mk2 (ey (es:=[dI .i64 (0:Int),dI .i64 (0:Int),dN]) rfl av rfl rfl (ltb rfl) (leb rfl) rfl (bR rfl (.inr ⟨_,_,(kH (wc (gM _) (wc (gM _) (wc (th rfl) wcn)))),(an _),⟨rfl,rfl⟩,rfl⟩)))
 refine AW.skip (rs hx fun K hK=>?_)
 refine sa ?_
 refine s1 (ba aY) ?_
 refine sa ?_
 refine s1 (ba aY) ?_
 refine s1 uQ ?_
 obtain⟨x4,va,h⟩:=ah h
 refine s1 (w6 [0] rfl (xi va) (fA (an _) (fA (an _) (fA (an _) fAn))) (vR rfl wVn) wLn) ?_
 iterate 2 refine sa ?_
 refine s0 (dQ (ds':=[dI .i64 x4.1.vR,dI .i64 x4.1.vC,dL aj x4.1.vV]) av) ?_
 refine sa ?_
 refine .nil (hK _ _ (AW.ret ?_))
 cases h
 exact fG.mk2 (ey (es:=(aQ.f x4.1).map .e) rfl av rfl rfl (ltb rfl) (leb rfl) rfl (bR rfl (.inr ⟨_,_,(an _),(an _),⟨rfl,rfl⟩,rfl⟩)))
def gh(pb:Int)(kE:Int)(bJ:aB)(fc:aB):Option ak:=cnd (decide (kE<bJ.vC)) (bnd (ce bJ pb kE) fun x2=>some x2) (bnd (ce fc pb (i64.wrap (kE - bJ.vC))) fun x4=>some x4)
theorem oZ {pb:Int}{kE:Int}{bJ:aB}{fc:aB}{r:ak}(h:gh pb kE bJ fc=some r):HC prog 98 [dI .i64 pb,dI .i64 kE,.pt 0 0,.pt 1 0] ⟨[(0,[dI .i64 bJ.vR,dI .i64 bJ.vC,dL aj bJ.vV]),(1,[dI .i64 fc.vR,dI .i64 fc.vC,dL aj fc.vV])],[],2⟩ (dG aj r) ⟨[(0,[dI .i64 bJ.vR,dI .i64 bJ.vC,dL aj bJ.vV]),(1,[dI .i64 fc.vR,dI .i64 fc.vC,dL aj fc.vV])],[],2⟩:=by
 refine HC.ofX (rs:=[.cell 6 34]) tok func98 rfl rfl (bg rfl) rfl (fun cx hx h1=>?_)
 have h0:cx.hp0.next=2:=by rw[h1]
 simp only[ee,Nat.reduceAdd,br]
 unfold gh at h
 refine rs hx fun K hK=>?_
 refine s1 (bp (F:=aj.f co) aA) ?_
 refine .nil (hK _ _ (AW.seq (rs hx fun K hK=>?_)))
 iterate 2 refine sa ?_
 refine s1 (ba aY) ?_
 refine sa ?_
 refine .nil (hK _ _ (cdh h rfl (fun cH h=>?_) (fun cH h=>?_)))
 refine rs hx fun K hK=>?_
 refine s1 (d:=dG aQ bJ) (bP av) ?_
 iterate 2 refine sa ?_
 refine scb h eD fun x2 h=>?_
 refine s0 (aO (b':=x2) (ao.id _ _) aA) ?_
 refine .nil (hK _ _ (AW.ret ?_))
 cases h
 exact⟨_,pR rfl aA rfl rfl (ltb rfl) (aj.h _) (rfl),qq.of_wk (by rw[hx];exact bg rfl) (wkN h0 [] (wG rfl (an _) wTn) (vR rfl (vR rfl wVn)) wLn)⟩
 refine AW.skip (rs hx fun K hK=>?_)
 refine s1 (d:=dG aQ fc) (bP av) ?_
 iterate 3 refine sa ?_
 refine s1 (ba aY) ?_
 refine sa ?_
 refine scb h eD fun x4 h=>?_
 refine s0 (aO (b':=x4) (ao.id _ _) aA) ?_
 refine .nil (hK _ _ (AW.ret ?_))
 cases h
 exact⟨_,pR rfl aA rfl rfl (ltb rfl) (aj.h _) (rfl),qq.of_wk (by rw[hx];exact bg rfl) (wkN h0 [] (wG rfl (an _) wTn) (vR rfl (vR rfl wVn)) wLn)⟩
def iI(bW:Int)(bJ:aB)(fc:aB)(aK:Int):Int×(List ak)→Option ((Int×(List ak))⊕((List ak))):=fun (bU,bf)=>cnd (decide (bU<bW)) (bnd (gh aK bU bJ fc) fun x3=>gd ((bf++[x3]).length*136≤140737488355328) (some (.inl (i64.wrap (bU+(1:Int)),bf++[x3])))) (some (.inr bf))
def i2(ct:Int)(bW:Int)(bJ:aB)(fc:aB):Int×(List ak)→Option ((Int×(List ak))⊕((List ak))):=fun (aK,aS)=>cnd (decide (aK<ct)) (bnd (a7 (iI bW bJ fc aK) ((0:Int),aS)) fun bD=>some (.inl (i64.wrap (aK+(1:Int)),bD))) (some (.inr aS))
def jm(ct:Int)(bW:Int)(bJ:aB)(fc:aB):Option (aB×Int):=bnd (a7 (i2 ct bW bJ fc) ((0:Int),([]:List ak))) fun aG=>bnd (cF aG) fun x8=>cnd (!x8) (some ((⟨(0:Int),(0:Int),([]:List ak)⟩:aB),(30:Int))) (some ((⟨ct,bW,aG⟩:aB),(0:Int)))
theorem xh {ct:Int}{bW:Int}{bJ:aB}{fc:aB}{r:aB×Int}(h:jm ct bW bJ fc=some r):HC prog 73 [dI .i64 ct,dI .i64 bW,.fn 98 [0,1]] ⟨[(0,[dI .i64 bJ.vR,dI .i64 bJ.vC,dL aj bJ.vV]),(1,[dI .i64 fc.vR,dI .i64 fc.vC,dL aj fc.vV])],[],2⟩ (.tu [dG aQ r.1,dI .i64 r.2]) ⟨[(0,[dI .i64 bJ.vR,dI .i64 bJ.vC,dL aj bJ.vV]),(1,[dI .i64 fc.vR,dI .i64 fc.vC,dL aj fc.vV])],[],2⟩:=by
 refine HC.ofX (rs:=[.cell 6 24,.tmp 7]) tok func73 rfl rfl (bg rfl) rfl (fun cx hx h1=>?_)
 have h0:cx.hp0.next=2:=by rw[h1]
 simp only[ee,Nat.reduceAdd,br]
 unfold jm at h
 refine rs hx fun K hK=>?_
 refine s1 (d:=.pt 2 0) (b9 av) ?_
 refine sa ?_
 refine .nil (hK _ _ (rs hx fun K hK=>?_))
 iterate 2 refine sa ?_
 refine s1 (d:=.ag [dI .i64 ct,dI .i64 bW,dN]) (cV av) ?_
 refine s1 (d:=.pt 3 0) (b9 av) ?_
 refine s0 (dQ (ds':=[dI .i64 ct,dI .i64 bW,dN]) av) ?_
 refine .nil (hK _ _ (AW.seq (ra hx ?_)))
 refine AW.block ?_
 obtain⟨aG,hy,h⟩:=ah h
 refine lp (S:=Int×(List ak)) (X:=(List ak)) (fun (aK,aS)=>[(1,dI .i64 bW),(2,.fn 98 [0,1]),(6,.pt 2 0),(8,.pt 3 0),(14,dI .i64 ct),(15,dI .i64 aK)]) (fun (aK,aS)=>⟨[(0,[dI .i64 bJ.vR,dI .i64 bJ.vC,dL aj bJ.vV]),(1,[dI .i64 fc.vR,dI .i64 fc.vC,dL aj fc.vV]),(2,[dI .i64 (0:Int),dI .i64 (0:Int),dN]),(3,[dI .i64 ct,dI .i64 bW,dO 4 aj aS])],[(4,(aS).length,36,34)],5⟩) (PE cx (.exit 0) (fun aG=>[(6,.pt 2 0),(8,.pt 3 0)]) fun aG=>⟨[(0,[dI .i64 bJ.vR,dI .i64 bJ.vC,dL aj bJ.vV]),(1,[dI .i64 fc.vR,dI .i64 fc.vC,dL aj fc.vV]),(2,[dI .i64 (0:Int),dI .i64 (0:Int),dN]),(3,[dI .i64 ct,dI .i64 bW,dO 4 aj aG])],[(4,(aG).length,36,34)],5⟩) hy ?_ ?_ ?_
 exact Wk.trans (Wk.nilOwn (ds':=[dI .i64 ct,dI .i64 bW,dO 4 aj ([]:List ak)]) 3 2 34 36) (wkN h0 [2,3,4] (wR rfl (wR rfl (wR rfl (wR rfl (wR rfl (wR rfl wTn)))))) (vR rfl (vR rfl (vR rfl (vR rfl wVn)))) (wL rfl rfl wLn))
 clear hy h
 rintro⟨aK,aS⟩ y h
 dsimp only[i2] at h
 refine ra hx ?_
 refine AW.seq (cdh h rfl (fun cH h=>?_) (fun cH h=>?_))
 refine AW.skip (AW.seq (AW.block ?_))
 iterate 2 refine ra hx ?_
 refine AW.block ?_
 obtain⟨bD,hy,h⟩:=ah h
 refine lp (S:=Int×(List ak)) (X:=(List ak)) (fun (bU,bf)=>[(1,dI .i64 bW),(2,.fn 98 [0,1]),(6,.pt 2 0),(8,.pt 3 0),(9,dI .i64 aK),(14,dI .i64 ct),(15,dI .i64 aK),(18,dI .i64 bW),(19,dI .i64 bU)]) (fun (bU,bf)=>⟨[(0,[dI .i64 bJ.vR,dI .i64 bJ.vC,dL aj bJ.vV]),(1,[dI .i64 fc.vR,dI .i64 fc.vC,dL aj fc.vV]),(2,[dI .i64 (0:Int),dI .i64 (0:Int),dN]),(3,[dI .i64 ct,dI .i64 bW,dO 4 aj bf])],[(4,(bf).length,36,34)],5⟩) (PE cx (.exit 2) (fun bD=>[(1,dI .i64 bW),(2,.fn 98 [0,1]),(6,.pt 2 0),(8,.pt 3 0),(14,dI .i64 ct),(15,dI .i64 aK)]) fun bD=>⟨[(0,[dI .i64 bJ.vR,dI .i64 bJ.vC,dL aj bJ.vV]),(1,[dI .i64 fc.vR,dI .i64 fc.vC,dL aj fc.vV]),(2,[dI .i64 (0:Int),dI .i64 (0:Int),dN]),(3,[dI .i64 ct,dI .i64 bW,dO 4 aj bD])],[(4,(bD).length,36,34)],5⟩) hy ?_ ?_ ?_
 exact wkN h0 [2,3,4] (wR rfl (wR rfl (wR rfl (wR rfl (wR rfl (wR rfl (wR rfl (wR rfl (wR rfl wTn))))))))) (vR rfl (vR rfl (vR rfl (vR rfl wVn)))) (wL rfl rfl wLn)
 clear hy h
 rintro⟨bU,bf⟩ y h
 dsimp only[iI] at h
 refine ra hx ?_
 refine AW.seq (cdh h rfl (fun ly h=>?_) (fun ly h=>?_))
 refine AW.skip (AW.seq (AW.block (ra hx ?_)))
 obtain⟨x3,xQ,h⟩:=ah h
 obtain⟨Ct,h⟩:=aD h
 refine jn (PE cx .normal (fun (_:Unit)=>[(1,dI .i64 bW),(2,.fn 98 [0,1]),(6,.pt 2 0),(8,.pt 3 0),(9,dI .i64 aK),(14,dI .i64 ct),(15,dI .i64 aK),(18,dI .i64 bW),(19,dI .i64 bU)]) (fun (_:Unit)=>⟨[(0,[dI .i64 bJ.vR,dI .i64 bJ.vC,dL aj bJ.vV]),(1,[dI .i64 fc.vR,dI .i64 fc.vC,dL aj fc.vV]),(2,[dI .i64 (0:Int),dI .i64 (0:Int),dN]),(3,[dI .i64 ct,dI .i64 bW,dO 4 aj (bf++[x3])])],[(4,(bf++[x3]).length,36,34)],5⟩) ()) ?_ ?_
 refine dw (DW.split 1 5 (by decide) ?_ ?_)
 refine dwg [] [0,1,2,3,4,5,6,7,8,9] hx (by kernel_rfl) (by kernel_rfl) (by kernel_rfl) fun K hK=>?_
 dsimp only[d6,mT,m7,List.map]
 refine sa ?_
 refine s1 (ba aP) ?_
 iterate 3 refine sa ?_
 refine s1 (mj [0,1] rfl (oZ xQ) (fA (an _) (fA (an _) (fA (an _) (fA (an _) fAn)))) (vR rfl (vR rfl wVn)) wLn (rvE (rvE rvN)) (qc _ _ _) (uB _ _)) ?_
 refine s1 (kK ([x3]:List ak) aj aP aA) ?_
 refine s1 (d:=dO 4 aj (bf++[x3])) (iT aP aA Ct) ?_
 refine sa ?_
 refine s0 (dQ (ds':=[dI .i64 ct,dI .i64 bW,dO 4 aj (bf++[x3])]) aP) ?_
 exact .nil (hK _ _ (PE.i (wkN h0 [2,3,4] (wR rfl (wR rfl (wR rfl (wR rfl (wR rfl (wR rfl (wR rfl (wR rfl (wR rfl wTn))))))))) (vR rfl (vR rfl (vR rfl (vR rfl wVn)))) (wL rfl rfl wLn))))
 refine dwg [] [0,2,3,4,5,1,6,7,8,9] hx (by kernel_rfl) (by kernel_rfl) (by kernel_rfl) fun K hK=>?_
 dsimp only[d6,mT,m7,List.map]
 iterate 4 refine sa ?_
 refine s1 (mj [0,1] rfl (oZ xQ) (fA (an _) (fA (an _) (fA (an _) (fA (an _) fAn)))) (vR rfl (vR rfl wVn)) wLn (rvE (rvE rvN)) (qc _ _ _) (uB _ _)) ?_
 refine s1 (ba aP) ?_
 refine s1 (kK ([x3]:List ak) aj aP aA) ?_
 refine s1 (d:=dO 4 aj (bf++[x3])) (iT aP aA Ct) ?_
 refine sa ?_
 refine s0 (dQ (ds':=[dI .i64 ct,dI .i64 bW,dO 4 aj (bf++[x3])]) aP) ?_
 exact .nil (hK _ _ (PE.i (wkN h0 [2,3,4] (wR rfl (wR rfl (wR rfl (wR rfl (wR rfl (wR rfl (wR rfl (wR rfl (wR rfl wTn))))))))) (vR rfl (vR rfl (vR rfl (vR rfl wVn)))) (wL rfl rfl wLn))))
 rintro ex tm' hp' ⟨rfl,hw⟩
 refine AW.weak hw (rb hx ?_)
 cases h
 exact PS.l (PE.i (wkN h0 [2,3,4] (wR rfl (wR rfl (wR rfl (wR rfl (wR rfl (wR rfl (wR rfl (wR rfl (wR rfl wTn))))))))) (vR rfl (vR rfl (vR rfl (vR rfl wVn)))) (wL rfl rfl wLn)))
 refine AW.exit ?_
 try dsimp only
 try simp only[aN,reduceIte,Nat.reduceEqDiff,reduceCtorEq]
 cases h
 exact PS.r ⟨by nofun,PE.i (wkN h0 [2,3,4] (wR rfl (wR rfl (wR rfl (wR rfl (wR rfl (wR rfl wTn)))))) (vR rfl (vR rfl (vR rfl (vR rfl wVn)))) (wL rfl rfl wLn))⟩
 rintro ex tm' hp' ⟨rfl,hw⟩
 try dsimp only
 try simp only[aN,reduceIte,Nat.reduceEqDiff,reduceCtorEq]
 refine AW.weak hw (rb hx ?_)
 cases h
 exact PS.l (PE.i (wkN h0 [2,3,4] (wR rfl (wR rfl (wR rfl (wR rfl (wR rfl (wR rfl wTn)))))) (vR rfl (vR rfl (vR rfl (vR rfl wVn)))) (wL rfl rfl wLn)))
 refine AW.exit ?_
 try dsimp only
 try simp only[aN,reduceIte,Nat.reduceEqDiff,reduceCtorEq]
 cases h
 exact PS.r ⟨by nofun,PE.i (wkN h0 [2,3,4] (wR rfl (wR rfl wTn)) (vR rfl (vR rfl (vR rfl (vR rfl wVn)))) (wL rfl rfl wLn))⟩
 rintro ex tm' hp' ⟨rfl,hw⟩
 try dsimp only
 try simp only[aN,reduceIte,Nat.reduceEqDiff,reduceCtorEq]
 refine AW.weak hw (AW.seq (rs hx fun K hK=>?_))
 refine sa ?_
 refine s1 (ba aP) ?_
 refine scb h gC fun x8 h=>?_
 refine sa ?_
 refine .nil (hK _ _ (cdh h rfl (fun fa h=>?_) (fun fa h=>?_)))
 refine rs hx fun K hK=>?_
 refine s1 (d:=.ag [dI .i64 (0:Int),dI .i64 (0:Int),dN]) (cV av) ?_
 refine s0 (dQ (ds':=[dI .i64 (0:Int),dI .i64 (0:Int),dN]) av) ?_
 refine sa ?_
 refine .nil (hK _ _ (AW.ret ?_))
 cases h
 exact⟨_,ey (es:=[dI .i64 (0:Int),dI .i64 (0:Int),dN]) rfl av rfl rfl (ltb rfl) (leb rfl) rfl (bR rfl (rfl)),qq.of_wk2 (by rw[hx];exact bg rfl) (wkN h0 [] (wG rfl (kH (wc (gM _) (wc (gM _) (wc (th rfl) wcn)))) (wR rfl wTn)) (vR rfl (vR rfl wVn)) wLn)⟩
 refine AW.skip (rs hx fun K hK=>?_)
 refine s1 (d:=.ag [dI .i64 ct,dI .i64 bW,dO 4 aj aG]) (bP av) ?_
 refine s0 (dQ (ds':=[dI .i64 ct,dI .i64 bW,dO 4 aj aG]) av) ?_
 refine sa ?_
 refine .nil (hK _ _ (AW.ret ?_))
 cases h
 exact⟨_,ey (es:=[dI .i64 ct,dI .i64 bW,dO 4 aj aG]) rfl av rfl rfl (ltb rfl) (leb rfl) rfl (bR rfl (rfl)),qq.of_wk2 (by rw[hx];exact bg rfl) (wkN h0 [] (wG rfl (kH (wc (gM _) (wc (gM _) (wc (HW _) wcn)))) (wR rfl wTn)) (vR rfl (vR rfl wVn)) wLn)⟩
def im(aW:aB)(a6:aB):Option (aB×Int):=bnd (S:=Bool) (bnd (bO [aW,a6]) fun x1=>cnd (!x1) (some (true)) (some (decide (aW.vR≠a6.vR)))) fun kA=>cnd kA (some ((⟨(0:Int),(0:Int),([]:List ak)⟩:aB),(1:Int))) (cnd (decide ((200:Int)<(i64.wrap (aW.vC+a6.vC)))) (some ((⟨(0:Int),(0:Int),([]:List ak)⟩:aB),(2:Int))) (bnd (jm aW.vR (i64.wrap (aW.vC+a6.vC)) aW a6) fun x7=>some (x7.1,x7.2)))
theorem sC {aW:aB}{a6:aB}{r:aB×Int}(h:im aW a6=some r):aC prog 51 [dG aQ aW,dG aQ a6] (.tu [dG aQ r.1,dI .i64 r.2]):=by
 refine bQ (rs:=[.cell 4 24,.tmp 5]) (fun cx hx h0=>?_) func51
 unfold im at h
 refine rs hx fun K hK=>?_
 refine s1 (d:=.pt 0 0) iX ?_
 refine s1 (d:=.pt 1 0) iX ?_
 refine s1 (d:=.pt 2 0) (b9 av) ?_
 refine sa ?_
 refine .nil (hK _ _ (AW.seq (AW.block (AW.seq ?_))))
 obtain⟨kA,hy,h⟩:=ah h
 refine jn ((PE cx .normal (fun kA=>[(2,.pt 0 0),(3,.pt 1 0),(4,.pt 2 0),(6,dB kA)]) fun kA=>⟨[(0,[dI .i64 aW.vR,dI .i64 aW.vC,dL aj aW.vV]),(1,[dI .i64 a6.vR,dI .i64 a6.vC,dL aj a6.vV]),(2,[dI .i64 (0:Int),dI .i64 (0:Int),dN])],[],3⟩) kA) ?_ ?_
 replace h:=hy
 refine rq hx fun K hK=>?_
 refine s1 (d:=dG aQ aW) (bP av) ?_
 refine s1 (d:=dG aQ a6) (bP av) ?_
 refine s1 (d:=dO 3 aQ [aW,a6]) (iW pQ av) ?_
 refine scb h eL fun x1 h=>?_
 iterate 2 refine sa ?_
 rcases aX (!x1) with bo|bo
 replace h:=aZ bo h
 iterate 5 refine aH rfl rfl bo ?_
 refine s1 (al bo) ?_
 refine sa ?_
 refine .nil (hK _ _ ?_)
 cases h
 exact pe0 h0 [0,1,2]
 replace h:=a3 bo h
 refine ga bo ?_
 refine g1 bo (ba aY) ?_
 refine ga bo ?_
 refine g1 bo (ba aY) ?_
 refine ga bo ?_
 refine s1 (au bo) ?_
 refine sa ?_
 refine .nil (hK _ _ ?_)
 cases h
 exact pe0 h0 [0,1,2]
 rintro ex tm' hp' ⟨rfl,hw⟩
 refine AW.weak hw (cdh h rfl (fun oT h=>?_) (fun oT h=>?_))
 refine rs hx fun K hK=>?_
 refine s1 (d:=.ag [dI .i64 (0:Int),dI .i64 (0:Int),dN]) (cV av) ?_
 refine s0 (dQ (ds':=[dI .i64 (0:Int),dI .i64 (0:Int),dN]) av) ?_
 refine sa ?_
 refine .nil (hK _ _ (AW.ret ?_))
 cases h
 exact fG.mk2 (ey (es:=[dI .i64 (0:Int),dI .i64 (0:Int),dN]) rfl av rfl rfl (ltb rfl) (leb rfl) rfl (bR rfl (.inr ⟨_,_,(kH (wc (gM _) (wc (gM _) (wc (th rfl) wcn)))),(an _),⟨rfl,rfl⟩,rfl⟩)))
 refine rs hx fun K hK=>?_
 refine sa ?_
 refine s1 (ba aY) ?_
 refine sa ?_
 refine s1 (ba aY) ?_
 iterate 3 refine sa ?_
 refine .nil (hK _ _ (cdh h rfl (fun eW h=>?_) (fun eW h=>?_)))
 refine rs hx fun K hK=>?_
 refine s1 (d:=.ag [dI .i64 (0:Int),dI .i64 (0:Int),dN]) (cV av) ?_
 refine s0 (dQ (ds':=[dI .i64 (0:Int),dI .i64 (0:Int),dN]) av) ?_
 refine sa ?_
 refine .nil (hK _ _ (AW.ret ?_))
 cases h
 exact fG.mk2 (ey (es:=[dI .i64 (0:Int),dI .i64 (0:Int),dN]) rfl av rfl rfl (ltb rfl) (leb rfl) rfl (bR rfl (.inr ⟨_,_,(kH (wc (gM _) (wc (gM _) (wc (th rfl) wcn)))),(an _),⟨rfl,rfl⟩,rfl⟩)))
 refine AW.skip (rs hx fun K hK=>?_)
 refine sa ?_
 refine s1 (ba aY) ?_
 refine sa ?_
 refine s1 (ba aY) ?_
 refine sa ?_
 refine s1 (ba aY) ?_
 refine sa ?_
 refine s1 uQ ?_
 obtain⟨x7,zu,h⟩:=ah h
 refine s1 (w6 [0,1] rfl (xh zu) (fA (an _) (fA (an _) (fA (an _) fAn))) (vR rfl (vR rfl wVn)) wLn) ?_
 iterate 2 refine sa ?_
 refine s0 (dQ (ds':=[dI .i64 x7.1.vR,dI .i64 x7.1.vC,dL aj x7.1.vV]) av) ?_
 refine sa ?_
 refine .nil (hK _ _ (AW.ret ?_))
 cases h
 exact fG.mk2 (ey (es:=(aQ.f x7.1).map .e) rfl av rfl rfl (ltb rfl) (leb rfl) rfl (bR rfl (.inr ⟨_,_,(an _),(an _),⟨rfl,rfl⟩,rfl⟩)))
abbrev mS(R C:Int)(V:List Nu):aB:=⟨R,C,V.map nv⟩
abbrev mZ:aB:=⟨0,0,[]⟩
def a8(R C:Int)(V:List Nu):Int:=if R<0∨200<R∨C<0∨200<C then 2 else if (V.length:Int)≠R*C∨V.all aR=false then 1 else 0
structure MV(R C:Nat)(V:List Nu):Prop where
 r:R≤200
 c:C≤200
 len:V.length=R*C
 good:V.all aR=true
theorem eS {R C:Int}{V:List Nu}:a8 R C V=0↔∃r c:Nat,R=r∧C=c∧MV r c V:=by
 unfold a8
 constructor
 ·intro h
  split at h
  ·cases h
  ·rename_i h1
   split at h
   ·cases h
   ·rename_i h2
    obtain⟨r,rfl⟩:∃r:Nat,R=r:=⟨R.toNat,by omega⟩
    obtain⟨c,rfl⟩:∃c:Nat,C=c:=⟨C.toNat,by omega⟩
    refine⟨r,c,rfl,rfl,by omega,by omega,?_,?_⟩
    ·have h3:(V.length:Int)=(r:Int)*c:=vI fun e=>h2 (.inl e)
     exact_mod_cast h3
    ·cases hg:V.all aR with
     |true=>rfl
     |false=>exact absurd (.inr hg) h2
 ·rintro⟨r,c,rfl,rfl,hm⟩
  have h1:=hm.r
  have h2:=hm.c
  rw[ifn_,ay]
  rintro (h|h)
  ·exact h (by rw[hm.len];exact_mod_cast rfl)
  ·rw[hm.good] at h;cases h
theorem MV.rc {R C:Nat}{V:List Nu}(h:MV R C V):R*C≤40000:=pC h.r h.c
theorem MV.chk {R C:Nat}{V:List Nu}(h:MV R C V):a8 R C V=0:=eS.2 ⟨R,C,rfl,rfl,h⟩
theorem qp {V:List Nu}(h:V.length≤1000000):cF (V.map nv)=some (V.all aR):=by
 unfold cF bt bC
 have key:=zR (b:=be (V.map nv)) (n:=V.length) h (fun i=>!aR V[i]!) (fun i hi=>by
  unfold be mm
  rw[ew,bw _ _,aJ,bL,JD hi,Jo]
  rfl) (by
  unfold be
  rw[ew,bx _ _])
 rw[Ks V (fun x=>!aR x)] at key
 have e:V.all aR= !V.any fun x=>!aR x:=by rw[IF];simp
 rcases key with⟨h1,h2⟩|⟨j,h1,h2⟩ <;> rw[h1,e,h2]
 ·rfl
 ·simp[bnd]
theorem ud {R C:Int}{V:List Nu}(h:V.length≤1000000):dq (mS R C V)=some (a8 R C V):=by
 unfold dq a8
 dsimp only
 simp only[kOr,ab,qp h]
 by_cases h1:R<0∨200<R∨C<0∨200<C
 ·rw[az h1]
  have:(decide (R<0)||(decide (200<R)||(decide (C<0)||decide (200<C))))=true:=by simpa using h1
  rw[this];rfl
 ·rw[ay h1]
  have:(decide (R<0)||(decide (200<R)||(decide (C<0)||decide (200<C))))=false:=by simpa using h1
  rw[this,kF]
  have LV:0≤R*C∧R*C≤40000:=by
   obtain⟨r,rfl⟩:∃r:Nat,R=r:=⟨R.toNat,by omega⟩
   obtain⟨c,rfl⟩:∃c:Nat,C=c:=⟨C.toNat,by omega⟩
   have:r*c≤200*200:=pC (by omega) (by omega)
   have e:((r:Int)*c)=((r*c:Nat):Int):=by exact_mod_cast rfl
   rw[e];omega
  rw[w64,ew]
  by_cases h2:(V.length:Int)≠R*C∨V.all aR=false
  ·rw[az h2]
   have:(decide ((V.length:Int)≠R*C)||!V.all aR)=true:=by
    rcases h2 with h2|h2
    ·rw[dU h2];rfl
    ·rw[h2];simp
   rw[this];rfl
  ·rw[ay h2]
   have:(decide ((V.length:Int)≠R*C)||!V.all aR)=false:=by
    have a:¬(V.length:Int)≠R*C:=fun e=>h2 (.inl e)
    have b:V.all aR=true:=by cases hg:V.all aR with
     |true=>rfl
     |false=>exact absurd (.inr hg) h2
    rw[jw a,b];rfl
   rw[this];rfl
theorem oM {R C:Int}{V:List Nu}(h:V.length≤1000000):bO [mS R C V]=some (decide (a8 R C V=0)):=by
 unfold bO bb bi
 have key:=zR (b:=aU [mS R C V]) (n:=1) (by decide) (fun i=>decide (a8 R C V≠0)) (fun i hi=>by
  obtain rfl:i=0:=by omega
  unfold aU jj
  rw[bw _ _ (by simp),aJ ⟨by simp,by simp⟩]
  show bnd (bnd (dq (mS R C V)) _) _=_
  rw[ud h]
  rfl) rfl
 rcases key with⟨h1,h2⟩|⟨j,h1,h2⟩ <;> rw[h1] <;> by_cases hc:a8 R C V=0 <;> simp[hc,bnd,uO] at h2 ⊢
theorem BO {R C R' C':Int}{V V':List Nu}(h:V.length≤1000000)(h':V'.length≤1000000):bO [mS R C V,mS R' C' V']=some (decide (a8 R C V=0)&&decide (a8 R' C' V'=0)):=by
 unfold bO bb bi
 have key:=zR (b:=aU [mS R C V,mS R' C' V']) (n:=2) (by decide) (fun i=>if i=0 then decide (a8 R C V≠0) else decide (a8 R' C' V'≠0)) (fun i hi=>by
  unfold aU jj
  have hi2:i=0∨i=1:=by omega
  rcases hi2 with rfl|rfl
  ·rw[bw _ _ (by simp),aJ ⟨by simp,by simp⟩]
   show bnd (bnd (dq (mS R C V)) _) _=_
   rw[ud h]
   rfl
  ·rw[bw _ _ (by simp),aJ ⟨by simp,by simp⟩]
   show bnd (bnd (dq (mS R' C' V')) _) _=_
   rw[ud h']
   rfl) rfl
 rcases key with⟨h1,h2⟩|⟨j,h1,h2⟩ <;> rw[h1] <;> by_cases hc:a8 R C V=0 <;> by_cases LZ:a8 R' C' V'=0 <;> simp[hc,LZ,bnd,uO] at h2 ⊢<;> omega
theorem uk {R C:Nat}{V:List Nu}(hV:V.length=R*C)(LV:R*C≤1000000){i k:Nat}(hi:i<R)(hk:k<C):ce (mS R C V) i k=some (nv V[i*C+k]!):=by
 have h1:=cd hi hk
 have e:(i:Int)*(C:Int)=((i*C:Nat):Int):=by exact_mod_cast rfl
 unfold ce
 dsimp only
 rw[e]
 generalize i*C=p at*
 generalize R*C=n at*
 rw[w64 (n:=(p:Int)),w64 (n:=(p:Int)+(k:Int)),ew,aJ]
 simp only[ab]
 rw[show (p:Int)+(k:Int)=((p+k:Nat):Int) by omega,bL,JD]
def iu(R C:Nat)(V:List Nu):aB×Int:=if V.all aR then (mS R C V,0) else (mZ,30)
theorem zG {R C:Nat}(hR:R≤400)(hC:C≤400)(f:Nat→Nat→Nu)(hf:∀i k:Nat,i<R→k<C→gg (i:Int) (k:Int)=some (nv (f i k))):cu R C=some (iu R C (mkM R C f)):=by
 have LV:R*C≤400*400:=pC hR hC
 unfold cu
 rw[oz (R:=R) (C:=C) (by omega) f (by omega) (fun i hi acc uj=>?_) (fun l=>?_)]
 ·simp only[ab]
  rw[qp (by rw[c9];omega)]
  simp only[ab]
  unfold iu
  cases (mkM R C f).all aR <;> rfl
 ·unfold cO
  dsimp only
  rw[bw _ _,qB (C:=C) (by omega) (f i) acc uj (fun k hk l=>?_) (fun l=>?_)]
  ·rfl
  ·unfold cE
   dsimp only
   rw[bw _ _,hf i k hi hk]
   rfl
  ·unfold cE
   dsimp only
   rw[bx _ _]
 ·unfold cO
  dsimp only
  rw[bx _ _]
theorem Jb {R C:Nat}{a b:aB}(hR:R≤400)(hC:C≤400)(f:Nat→Nat→Nu)(hf:∀i k:Nat,i<R→k<C→n5 (i:Int) (k:Int) a b=some (nv (f i k))):oU R C a b=some (iu R C (mkM R C f)):=by
 have LV:R*C≤400*400:=pC hR hC
 unfold oU
 rw[oz (R:=R) (C:=C) (by omega) f (by omega) (fun i hi acc uj=>?_) (fun l=>?_)]
 ·simp only[ab]
  rw[qp (by rw[c9];omega)]
  simp only[ab]
  unfold iu
  cases (mkM R C f).all aR <;> rfl
 ·unfold ms
  dsimp only
  rw[bw _ _,qB (C:=C) (by omega) (f i) acc uj (fun k hk l=>?_) (fun l=>?_)]
  ·rfl
  ·unfold lU
   dsimp only
   rw[bw _ _,hf i k hi hk]
   rfl
  ·unfold lU
   dsimp only
   rw[bx _ _]
 ·unfold ms
  dsimp only
  rw[bx _ _]
theorem E3 {R C:Nat}{a:aB}{x:ak}(hR:R≤400)(hC:C≤400)(f:Nat→Nat→Nu)(hf:∀i k:Nat,i<R→k<C→mu (i:Int) (k:Int) a x=some (nv (f i k))):n4 R C a x=some (iu R C (mkM R C f)):=by
 have LV:R*C≤400*400:=pC hR hC
 unfold n4
 rw[oz (R:=R) (C:=C) (by omega) f (by omega) (fun i hi acc uj=>?_) (fun l=>?_)]
 ·simp only[ab]
  rw[qp (by rw[c9];omega)]
  simp only[ab]
  unfold iu
  cases (mkM R C f).all aR <;> rfl
 ·unfold lV
  dsimp only
  rw[bw _ _,qB (C:=C) (by omega) (f i) acc uj (fun k hk l=>?_) (fun l=>?_)]
  ·rfl
  ·unfold lq
   dsimp only
   rw[bw _ _,hf i k hi hk]
   rfl
  ·unfold lq
   dsimp only
   rw[bx _ _]
 ·unfold lV
  dsimp only
  rw[bx _ _]
theorem Ja {R C:Nat}{a b:aB}(hR:R≤400)(hC:C≤400)(f:Nat→Nat→Nu)(hf:∀i k:Nat,i<R→k<C→gO (i:Int) (k:Int) a b=some (nv (f i k))):jp R C a b=some (iu R C (mkM R C f)):=by
 have LV:R*C≤400*400:=pC hR hC
 unfold jp
 rw[oz (R:=R) (C:=C) (by omega) f (by omega) (fun i hi acc uj=>?_) (fun l=>?_)]
 ·simp only[ab]
  rw[qp (by rw[c9];omega)]
  simp only[ab]
  unfold iu
  cases (mkM R C f).all aR <;> rfl
 ·unfold i4
  dsimp only
  rw[bw _ _,qB (C:=C) (by omega) (f i) acc uj (fun k hk l=>?_) (fun l=>?_)]
  ·rfl
  ·unfold iK
   dsimp only
   rw[bw _ _,hf i k hi hk]
   rfl
  ·unfold iK
   dsimp only
   rw[bx _ _]
 ·unfold i4
  dsimp only
  rw[bx _ _]
theorem yD {R C:Nat}{a:aB}(hR:R≤400)(hC:C≤400)(f:Nat→Nat→Nu)(hf:∀i k:Nat,i<R→k<C→eQ (i:Int) (k:Int) a=some (nv (f i k))):jo R C a=some (iu R C (mkM R C f)):=by
 have LV:R*C≤400*400:=pC hR hC
 unfold jo
 rw[oz (R:=R) (C:=C) (by omega) f (by omega) (fun i hi acc uj=>?_) (fun l=>?_)]
 ·simp only[ab]
  rw[qp (by rw[c9];omega)]
  simp only[ab]
  unfold iu
  cases (mkM R C f).all aR <;> rfl
 ·unfold i3
  dsimp only
  rw[bw _ _,qB (C:=C) (by omega) (f i) acc uj (fun k hk l=>?_) (fun l=>?_)]
  ·rfl
  ·unfold iJ
   dsimp only
   rw[bw _ _,hf i k hi hk]
   rfl
  ·unfold iJ
   dsimp only
   rw[bx _ _]
 ·unfold i3
  dsimp only
  rw[bx _ _]
theorem CD {R C:Nat}{a b:aB}(hR:R≤400)(hC:C≤400)(f:Nat→Nat→Nu)(hf:∀i k:Nat,i<R→k<C→gh (i:Int) (k:Int) a b=some (nv (f i k))):jm R C a b=some (iu R C (mkM R C f)):=by
 have LV:R*C≤400*400:=pC hR hC
 unfold jm
 rw[oz (R:=R) (C:=C) (by omega) f (by omega) (fun i hi acc uj=>?_) (fun l=>?_)]
 ·simp only[ab]
  rw[qp (by rw[c9];omega)]
  simp only[ab]
  unfold iu
  cases (mkM R C f).all aR <;> rfl
 ·unfold i2
  dsimp only
  rw[bw _ _,qB (C:=C) (by omega) (f i) acc uj (fun k hk l=>?_) (fun l=>?_)]
  ·rfl
  ·unfold iI
   dsimp only
   rw[bw _ _,hf i k hi hk]
   rfl
  ·unfold iI
   dsimp only
   rw[bx _ _]
 ·unfold i2
  dsimp only
  rw[bx _ _]
section
def idF(i k:Nat):Nu:=if i=k then nOf 1 else nOf 0
def addF(C:Nat)(A B:List Nu)(i k:Nat):Nu:=Cj A[i*C+k]! B[i*C+k]!
def Mw(C:Nat)(A:List Nu)(x:Nu)(i k:Nat):Nu:=nI A[i*C+k]! x
def Eo(C K:Nat)(A B:List Nu)(i k:Nat):Nat→Nu
 |0=>nI A[i*C]! B[k]!
 |j+1=>Cj (Eo C K A B i k j) (nI A[i*C+(j+1)]! B[(j+1)*K+k]!)
def tf(C K:Nat)(A B:List Nu)(i k:Nat):Nu:=if C=0 then nOf 0 else Eo C K A B i k (C - 1)
def ux(C:Nat)(A:List Nu)(i k:Nat):Nu:=A[k*C+i]!
def rA(C K:Nat)(A B:List Nu)(i k:Nat):Nu:=if k<C then A[i*C+k]! else B[i*K+(k - C)]!
def idP(n:Int):aB:=if n<0∨200<n then mZ else mS n n (mkM n.toNat n.toNat idF)
def addP(R C:Int)(A:List Nu)(R' C':Int)(B:List Nu):aB×Int:=if a8 R C A=0∧a8 R' C' B=0∧R=R'∧C=C' then iu R.toNat C.toNat (mkM R.toNat C.toNat (addF C.toNat A B)) else (mZ,1)
def Mv(R C:Int)(A:List Nu)(x:Nu):aB×Int:=if a8 R C A=0∧aR x=true then iu R.toNat C.toNat (mkM R.toNat C.toNat (Mw C.toNat A x)) else (mZ,1)
def u6(R C:Int)(A:List Nu)(R' C':Int)(B:List Nu):aB×Int:=if a8 R C A=0∧a8 R' C' B=0∧C=R' then iu R.toNat C'.toNat (mkM R.toNat C'.toNat (tf C.toNat C'.toNat A B)) else (mZ,1)
def Jq(R C:Int)(A:List Nu):aB×Int:=if a8 R C A=0 then iu C.toNat R.toNat (mkM C.toNat R.toNat (ux C.toNat A)) else (mZ,1)
def LB(R C:Int)(A:List Nu)(R' C':Int)(B:List Nu):aB×Int:=if a8 R C A=0∧a8 R' C' B=0∧R=R' then if 200<C+C' then (mZ,2) else iu R.toNat (C+C').toNat (mkM R.toNat (C+C').toNat (rA C.toNat C'.toNat A B)) else (mZ,1)
theorem Az(i k:Nat):aR (idF i k)=true:=by unfold idF;split;exact of1.1;exact of0.1
theorem pW {R C:Nat}{f:Nat→Nat→Nu}(h:∀i k,i<R→k<C→aR (f i k)=true):iu R C (mkM R C f)=(mS R C (mkM R C f),0):=by
 unfold iu
 rw[az (pw.2 h)]
section
variable {A B V:List Nu} {R C R' C':Int}
theorem vM {n:Int}:db n=some (idP n):=by
 unfold db idP
 simp only[kOr,ab]
 by_cases h:n<0∨200<n
 ·have:(decide (n<0)||decide (200<n))=true:=by simpa using h
  rw[this,az h];rfl
 ·have:(decide (n<0)||decide (200<n))=false:=by simpa using h
  rw[this,ay h,kF]
  obtain⟨m,rfl⟩:∃m:Nat,n=m:=⟨n.toNat,by omega⟩
  rw[zG (R:=m) (C:=m) (by omega) (by omega) idF (fun i k hi hk=>?_),pW fun i k _ _=>Az i k]
  ·simp only[ab,bL]
  ·unfold gg idF
   by_cases e:i=k
   ·rw[bw _ _,az e,uOf];rfl
   ·rw[bx _ _,ay e,uOf];rfl
theorem P_Add(hA:A.length≤1000000)(hB:B.length≤1000000):wD (mS R C A) (mS R' C' B)=some (addP R C A R' C' B):=by
 unfold wD addP
 rw[BO hA hB]
 simp only[ab,kOr]
 by_cases h0:a8 R C A=0∧a8 R' C' B=0∧R=R'∧C=C'
 ·rw[az h0]
  obtain⟨h1,h2,rfl,rfl⟩:=h0
  obtain⟨r,c,rfl,rfl,hm⟩:=eS.1 h1
  obtain⟨r',c',hr,hc,wx⟩:=eS.1 h2
  obtain rfl:r=r':=by omega
  obtain rfl:c=c':=by omega
  rw[h1,h2]
  have:=hm.rc
  have h3:=hm.r
  have h4:=hm.c
  have e:(!(decide ((0:Int)=0)&&decide ((0:Int)=0))||(decide ((r:Int)≠r)||decide ((c:Int)≠c)))=false:=by simp
  rw[e,kF]
  rw[Jb (by omega) (by omega) (addF c A B) (fun i k hi hk=>?_)]
  ·simp only[ab,bL]
  ·unfold n5
   rw[uk hm.len (by omega) hi hk,uk wx.len (by omega) hi hk]
   simp only[ab,uAdd]
   rfl
 ·rw[ay h0]
  have e:(!(decide (a8 R C A=0)&&decide (a8 R' C' B=0))||(decide (R≠R')||decide (C≠C')))=true:=by
   by_cases a:a8 R C A=0
   ·by_cases b:a8 R' C' B=0
    ·by_cases c:R=R'
     ·by_cases d:C=C'
      ·exact absurd ⟨a,b,c,d⟩ h0
      ·simp[d]
     ·simp[c]
    ·simp[b]
   ·simp[a]
  rw[e,kT]
theorem P_Scale(hA:A.length≤1000000){x:Nu}:tw (mS R C A) (nv x)=some (Mv R C A x):=by
 unfold tw Mv
 rw[oM hA]
 simp only[ab,Jo,kOr]
 by_cases h0:a8 R C A=0∧aR x=true
 ·rw[az h0]
  obtain⟨h1,h2⟩:=h0
  obtain⟨r,c,rfl,rfl,hm⟩:=eS.1 h1
  rw[h1,h2]
  have:=hm.rc
  have h3:=hm.r
  have h4:=hm.c
  have e:(!decide ((0:Int)=0)||!true)=false:=by simp
  rw[e,kF]
  rw[E3 (by omega) (by omega) (Mw c A x) (fun i k hi hk=>?_)]
  ·simp only[ab,bL]
  ·unfold mu
   rw[uk hm.len (by omega) hi hk]
   simp only[ab,Mg]
   rfl
 ·rw[ay h0]
  have e:(!decide (a8 R C A=0)||!aR x)=true:=by
   by_cases a:a8 R C A=0
   ·by_cases b:aR x=true
    ·exact absurd ⟨a,b⟩ h0
    ·simp[b]
   ·simp[a]
  rw[e,kT]
theorem P_dot {r c c':Nat}(hm:MV r c A)(wx:MV c c' B){i k:Nat}(hi:i<r)(hk:k<c'):gO (i:Int) (k:Int) (mS r c A) (mS c c' B)=some (nv (tf c c' A B i k)):=by
 have h1:=hm.rc
 have h2:=wx.rc
 have h3:=hm.c
 unfold gO tf
 dsimp only
 by_cases h0:c=0
 ·rw[bw _ _,az h0,uOf];rfl
 ·rw[bx _ _,ay h0]
  have a0:=uk hm.len (by omega) hi (show 0<c by omega)
  have b0:=uk wx.len (by omega) (show 0<c by omega) hk
  rw[mf] at a0
  rw[fj,br] at b0
  rw[show ((0:Int))=((0:Nat):Int) from rfl,a0,b0]
  simp only[ab,Mg]
  have:=lb (b:=fJ (i:Int) (k:Int) (mS r c A) (mS c c' B)) (fun j=>((j:Int),nv (Eo c c' A B i k (j - 1)))) 1 c (nv (Eo c c' A B i k (c - 1))) (by omega) (fun j hj1 zB=>?_) ?_
  ·rw[show (((1:Nat):Int),nv (Eo c c' A B i k (1 - 1)))=((1:Int),nv (nI A[i*c]! B[k]!)) from rfl] at this
   rw[this];rfl
  ·unfold fJ
   dsimp only
   rw[bw _ _,uk hm.len (by omega) hi zB,uk wx.len (by omega) zB hk]
   simp only[ab,Mg,uAdd]
   rw[w64]
   obtain⟨m,rfl⟩:∃m,j=m+1:=⟨j - 1,by omega⟩
   rfl
  ·unfold fJ
   dsimp only
   rw[bx _ _]
theorem Pe(hA:A.length≤1000000)(hB:B.length≤1000000):jM (mS R C A) (mS R' C' B)=some (u6 R C A R' C' B):=by
 unfold jM u6
 rw[BO hA hB]
 simp only[ab,kOr]
 by_cases h0:a8 R C A=0∧a8 R' C' B=0∧C=R'
 ·rw[az h0]
  obtain⟨h1,h2,rfl⟩:=h0
  obtain⟨r,c,rfl,rfl,hm⟩:=eS.1 h1
  obtain⟨r',c',hr,rfl,wx⟩:=eS.1 h2
  obtain rfl:c=r':=by omega
  rw[h1,h2]
  have h3:=hm.r
  have h4:=wx.c
  have e:(!(decide ((0:Int)=0)&&decide ((0:Int)=0))||decide ((c:Int)≠c))=false:=by simp
  rw[e,kF]
  rw[Ja (by omega) (by omega) (tf c c' A B) (fun i k hi hk=>P_dot hm wx hi hk)]
  simp only[ab,bL]
 ·rw[ay h0]
  have e:(!(decide (a8 R C A=0)&&decide (a8 R' C' B=0))||decide (C≠R'))=true:=by
   by_cases a:a8 R C A=0
   ·by_cases b:a8 R' C' B=0
    ·by_cases c:C=R'
     ·exact absurd ⟨a,b,c⟩ h0
     ·simp[c]
    ·simp[b]
   ·simp[a]
  rw[e,kT]
theorem Ha(hA:A.length≤1000000):gU (mS R C A)=some (Jq R C A):=by
 unfold gU Jq
 rw[oM hA]
 simp only[ab]
 by_cases h1:a8 R C A=0
 ·rw[az h1]
  obtain⟨r,c,rfl,rfl,hm⟩:=eS.1 h1
  rw[h1]
  have:=hm.rc
  have h3:=hm.r
  have h4:=hm.c
  have e:(!decide ((0:Int)=0))=false:=by simp
  rw[e,kF]
  rw[yD (by omega) (by omega) (ux c A) (fun i k hi hk=>?_)]
  ·simp only[ab,bL]
  ·unfold eQ
   rw[uk hm.len (by omega) hk hi]
   rfl
 ·rw[ay h1]
  have e:(!decide (a8 R C A=0))=true:=by simp[h1]
  rw[e,kT]
theorem Hc(hA:A.length≤1000000)(hB:B.length≤1000000):im (mS R C A) (mS R' C' B)=some (LB R C A R' C' B):=by
 unfold im LB
 rw[BO hA hB]
 simp only[ab,kOr]
 by_cases h0:a8 R C A=0∧a8 R' C' B=0∧R=R'
 ·rw[az h0]
  obtain⟨h1,h2,rfl⟩:=h0
  obtain⟨r,c,rfl,rfl,hm⟩:=eS.1 h1
  obtain⟨r',c',hr,rfl,wx⟩:=eS.1 h2
  obtain rfl:r=r':=by omega
  rw[h1,h2]
  have h3:=hm.r
  have h4:=hm.c
  have h5:=wx.c
  have h6:=hm.rc
  have h7:=wx.rc
  have e:(!(decide ((0:Int)=0)&&decide ((0:Int)=0))||decide ((r:Int)≠r))=false:=by simp
  rw[e,kF,w64]
  by_cases hc:(200:Int)<(c:Int)+c'
  ·rw[bw _ _ hc,az hc]
  ·rw[bx _ _ hc,ay hc,show ((c:Int)+(c':Int))=((c+c':Nat):Int) by omega]
   rw[CD (by omega) (by omega) (rA c c' A B) (fun i k hi hk=>?_)]
   ·simp only[ab,bL]
   ·unfold gh rA
    dsimp only
    by_cases xW:k<c
    ·rw[bw _ _,az xW,uk hm.len (by omega) hi xW];rfl
    ·rw[bx _ _,ay xW,w64,show (k:Int) - (c:Int)=((k - c:Nat):Int) by omega,uk wx.len (by omega) hi (by omega)];rfl
 ·rw[ay h0]
  have e:(!(decide (a8 R C A=0)&&decide (a8 R' C' B=0))||decide (R≠R'))=true:=by
   by_cases a:a8 R C A=0
   ·by_cases b:a8 R' C' B=0
    ·by_cases c:R=R'
     ·exact absurd ⟨a,b,c⟩ h0
     ·simp[c]
    ·simp[b]
   ·simp[a]
  rw[e,kT]
end
end
section
section
variable {A B V:List Nu} {R C R' C':Int}
theorem Q_good(h:V.length≤1000000):ni (V.map nv)=some (V.all aR):=by
 unfold ni
 rw[HQ (b:=jY (V.map nv)) (n:=V.length) h (fun i=>aR V[i]!) (fun i hi=>by
  unfold jY
  rw[ew,bw _ _,aJ,bL,JD hi,tGood]
  rfl) (by
  unfold jY
  rw[ew,bx _ _])]
 rw[Kt V aR]
 cases V.all aR <;> rfl
theorem Q_Check(h:V.length≤1000000):l9 (mS R C V)=some (a8 R C V):=by
 rw[←ud h]
 unfold l9 dq
 dsimp only
 rw[Q_good h,qp h]
theorem Q_valid(h:V.length≤1000000):l7 (mS R C V)=some (decide (a8 R C V=0)):=by
 unfold l7
 rw[Q_Check h];rfl
end
end
section
section
variable {A B V:List Nu} {R C R' C':Int}
theorem MV.gd {r c:Nat}(hm:MV r c A){t:Nat}(h:t<r*c):aR A[t]! =true:=tZ hm.good (by rw[hm.len];exact h)
theorem tran_ok {r c:Nat}(hm:MV r c A):iu c r (mkM c r (ux c A))=(mS c r (mkM c r (ux c A)),0):=pW fun i k hi hk=>hm.gd (cd hk hi)
theorem bes_ok {r c c':Nat}(hm:MV r c A)(wx:MV r c' B):iu r (c+c') (mkM r (c+c') (rA c c' A B))=(mS r ((c+c':Nat):Int) (mkM r (c+c') (rA c c' A B)),0):=pW fun i k hi hk=>by
 unfold rA
 split
 ·rename_i h;exact hm.gd (cd hi h)
 ·exact wx.gd (cd hi (by omega))
end
end
def d8(bn:cD):(List Int)×Int→Option (((List Int)×Int)⊕((List Int))):=fun (aK,aS)=>cnd (decide (aS<((bn.vl).length:Int))) (gd (0≤aS∧aS<((bn.vl).length:Int)) (gd ((aK++[((bn.vl)[(aS).toNat]!).vcol]).length*8≤140737488355328) (some (.inl (aK++[((bn.vl)[(aS).toNat]!).vcol],i64.wrap (aS+(1:Int))))))) (some (.inr aK))
def cc(bn:cD):Option (List Int):=bnd (a7 (d8 bn) (([]:List Int),(0:Int))) fun aG=>some aG
theorem ko {bn:cD}{r:List Int}(h:cc bn=some r):aC prog 64 [dG pJ bn] (.own 3 (cI .i64).sz r.length (r.flatMap (cI .i64).f)):=by
 refine bQ (rs:=[.tmp 2]) (fun cx hx h0=>?_) func64
 unfold cc at h
 refine rs hx fun K hK=>?_
 refine s1 (d:=.pt 0 0) iX ?_
 refine s1 (d:=dO 1 (cI .i64) ([]:List Int)) (ek bV aY) ?_
 refine .nil (hK _ _ (rs hx fun K hK=>?_))
 refine s1 (d:=dO 2 (cI .i64) ([]:List Int)) (ek bV aY) ?_
 refine .nil (hK _ _ (AW.seq (rs hx fun K hK=>?_)))
 refine sa ?_
 refine s1 (ba qz) ?_
 iterate 2 refine sa ?_
 refine .nil (hK _ _ (AW.block ?_))
 obtain⟨aG,hy,h⟩:=ah h
 refine lp (S:=(List Int)×Int) (X:=(List Int)) (fun (aK,aS)=>[(3,dO 0 (cI .i64) aK),(7,dL bh bn.vl),(8,dI .i64 ((bn.vl).length:Int)),(9,dI .i64 aS)]) (fun (aK,aS)=>⟨[],[(0,(aK).length,1,3)],1⟩) (PE cx (.exit 0) (fun aG=>[(3,dO 0 (cI .i64) aG)]) fun aG=>⟨[],[(0,(aG).length,1,3)],1⟩) hy ?_ ?_ ?_
 exact wk h0 [2] (wR rfl (wR rfl (wR rfl (wR rfl wTn)))) wVn (wL rfl rfl wLn)
 clear hy h
 rintro⟨aK,aS⟩ y h
 dsimp only[d8] at h
 refine ra hx ?_
 refine AW.seq (cdh h rfl (fun cH h=>?_) (fun cH h=>?_))
 refine AW.skip (AW.seq (AW.block (rs hx fun K hK=>?_)))
 obtain⟨nb,h⟩:=aD h
 have p8:(aS).toNat<(bn.vl).length:=by omega
 refine s1 (gk nb qz gq) ?_
 refine s1 (d:=dG bh ((bn.vl)[(aS).toNat]!)) (pm (c:=bh) (l:=bn.vl) (n:=(aS).toNat) (o:=0) gq p8 (kC _ _ rfl)) ?_
 refine s1 (bp (F:=bh.f (⟨(0:Int),co,false⟩:lL)) gq) ?_
 refine s0 (aO (b':=(bn.vl)[(aS).toNat]!) (ao.id _ _) gq) ?_
 refine .nil (hK _ _ (rq hx fun K hK=>?_))
 iterate 2 refine sa ?_
 refine s1 (a4 (uE ((bn.vl)[(aS).toNat]!)) aY) ?_
 refine s1 (d:=dO 2 (cI .i64) [((bn.vl)[(aS).toNat]!).vcol]) (iW bV aY) ?_
 obtain⟨Fh,h⟩:=aD h
 refine s1 (d:=dO 0 (cI .i64) (aK++[((bn.vl)[(aS).toNat]!).vcol])) (iT bV aY Fh) ?_
 refine sa ?_
 refine .nil (hK _ _ (rb hx ?_))
 cases h
 exact PS.l (pe0 h0 [0])
 refine AW.exit ?_
 try dsimp only
 try simp only[aN,reduceIte,Nat.reduceEqDiff,reduceCtorEq]
 cases h
 exact PS.r ⟨by nofun,PE.i (wk h0 [0] (wR rfl wTn) wVn (wL rfl rfl wLn))⟩
 rintro ex tm' hp' ⟨rfl,hw⟩
 try dsimp only
 try simp only[aN,reduceIte,Nat.reduceEqDiff,reduceCtorEq]
 refine AW.weak hw (ra hx ?_)
 refine AW.ret ?_
 cases h
 exact fG.own rfl rfl
def il(gc:aB):Option (aB×(List Int)×Int):=bnd (bO [gc]) fun x1=>cnd (!x1) (some ((⟨(0:Int),(0:Int),([]:List ak)⟩:aB),([]:List Int),(1:Int))) (bnd (eu gc) fun x4=>cnd (decide (x4.2≠(0:Int))) (some ((⟨(0:Int),(0:Int),([]:List ak)⟩:aB),([]:List Int),x4.2)) (bnd (cc x4.1) fun x7=>some (x4.1.vm,x7,(0:Int))))
theorem sB {gc:aB}{r:aB×(List Int)×Int}(h:il gc=some r):aC prog 13 [dG aQ gc] (.tu [dG aQ r.1,dL (cI .i64) r.2.1,dI .i64 r.2.2]):=by
 refine bQ (rs:=[.cell 2 24,.tmp 3,.tmp 4]) (fun cx hx h0=>?_) func13
 unfold il at h
 refine rs hx fun K hK=>?_
 refine s1 (d:=.pt 0 0) iX ?_
 refine s1 (d:=.pt 1 0) (b9 av) ?_
 refine s1 (d:=dO 2 (cI .i64) ([]:List Int)) (ek bV aY) ?_
 refine sa ?_
 refine .nil (hK _ _ (AW.seq (rs hx fun K hK=>?_)))
 refine s1 (d:=dG aQ gc) (bP av) ?_
 refine s1 (d:=dO 3 aQ [gc]) (iW pQ av) ?_
 refine scb h eL fun x1 h=>?_
 refine sa ?_
 refine .nil (hK _ _ (cdh h rfl (fun bo h=>?_) (fun bo h=>?_)))
 refine rs hx fun K hK=>?_
 refine s1 (d:=.ag [dI .i64 (0:Int),dI .i64 (0:Int),dN]) (cV av) ?_
 refine s0 (dQ (ds':=[dI .i64 (0:Int),dI .i64 (0:Int),dN]) av) ?_
 refine s1 (d:=dO 4 (cI .i64) ([]:List Int)) (ek bV aY) ?_
 refine sa ?_
 refine .nil (hK _ _ (AW.ret ?_))
 cases h
 exact fG.mk3 (ey (es:=[dI .i64 (0:Int),dI .i64 (0:Int),dN]) rfl av rfl rfl (ltb rfl) (leb rfl) rfl (bR rfl (bR rfl (.inr ⟨_,_,_,(kH (wc (gM _) (wc (gM _) (wc (th rfl) wcn)))),(qC _),(an _),⟨rfl,rfl,rfl⟩,rfl⟩))))
 refine AW.skip (rs hx fun K hK=>?_)
 refine s1 (d:=dG aQ gc) (bP av) ?_
 refine scb h jU fun x4 h=>?_
 iterate 3 refine sa ?_
 refine s1 (d:=.pt 4 0) (b9 i6) ?_
 refine s0 (dQ (ds':=[dI .i64 x4.1.vm.vR,dI .i64 x4.1.vm.vC,dL aj x4.1.vm.vV,dL bh x4.1.vl]) i6) ?_
 refine sa ?_
 refine .nil (hK _ _ (AW.seq (ra hx ?_)))
 refine cdh h rfl (fun eW h=>?_) (fun eW h=>?_)
 refine rs hx fun K hK=>?_
 refine s1 (d:=.ag [dI .i64 (0:Int),dI .i64 (0:Int),dN]) (cV av) ?_
 refine sa ?_
 refine s0 (dQ (ds':=[dI .i64 (0:Int),dI .i64 (0:Int),dN]) av) ?_
 refine s1 (d:=dO 5 (cI .i64) ([]:List Int)) (ek bV aY) ?_
 refine sa ?_
 refine .nil (hK _ _ (AW.ret ?_))
 cases h
 exact fG.mk3 (ey (es:=[dI .i64 (0:Int),dI .i64 (0:Int),dN]) rfl av rfl rfl (ltb rfl) (leb rfl) rfl (bR rfl (bR rfl (.inr ⟨_,_,_,(kH (wc (gM _) (wc (gM _) (wc (th rfl) wcn)))),(qC _),(an _),⟨rfl,rfl,rfl⟩,rfl⟩))))
 refine AW.skip (rsd [] hx fun K hK=>?_)
 refine sa ?_
 refine s1 (d:=dG aQ x4.1.vm) (bP av) ?_
 refine s1 (d:=dG pJ x4.1) (bP i6) ?_
 obtain⟨x7,zu,h⟩:=ah h
 refine s1 (E2 rfl (ko zu) (by simp only[cp,dh,jy,fO,dX,dW];exact bc _ _) (lA (an _) lAn)) ?_
 refine s0 (dQ (ds':=[dI .i64 x4.1.vm.vR,dI .i64 x4.1.vm.vC,dL aj x4.1.vm.vV]) av) ?_
 iterate 2 refine sa ?_
 refine .nil (hK _ _ (AW.ret ?_))
 cases h
 exact fG.mk3 (ey (es:=(aQ.f x4.1.vm).map .e) rfl av rfl rfl (ltb rfl) (leb rfl) rfl (bR rfl (bR rfl (.inr ⟨_,_,_,(an _),(qC _),(an _),⟨rfl,rfl,rfl⟩,rfl⟩))))
def js(x8:cD×Int):Int×Int→Option ((Int×Int)⊕Int):=fun (qL,ql)=>cnd (decide (ql<((x8.1.vl).length:Int))) (bnd (S:=Int) (gd (0≤ql∧ql<((x8.1.vl).length:Int)) (cnd (((x8.1.vl)[(ql).toNat]!).vmoved) (some (i64.wrap (0 - qL))) (some (qL)))) fun Dl=>some (.inl (Dl,i64.wrap (ql+(1:Int))))) (some (.inr qL))
def jr(x8:cD×Int):Int×ak→Option ((Int×ak)⊕ak):=fun (qK,BD)=>cnd (decide (qK<((x8.1.vl).length:Int))) (gd (0≤qK∧qK<((x8.1.vl).length:Int)) (bnd (dp BD (((x8.1.vl)[(qK).toNat]!).vby)) fun w9=>some (.inl (i64.wrap (qK+(1:Int)),w9)))) (some (.inr BD))
def eR(gc:aB):Option (ak×Int):=bnd (S:=Bool) (bnd (bO [gc]) fun x1=>cnd (!x1) (some (true)) (some (decide (gc.vR≠gc.vC)))) fun bM=>cnd bM (bnd (some ((⟨(⟨false,false,(bS)⟩:aq),(⟨false,false,(bS)⟩:aq)⟩:ak))) fun x6=>some (x6,(1:Int))) (bnd (eu gc) fun x8=>cnd (decide (x8.2≠(0:Int))) (bnd (some ((⟨(⟨false,false,(bS)⟩:aq),(⟨false,false,(bS)⟩:aq)⟩:ak))) fun om=>some (om,x8.2)) (cnd (decide (((x8.1.vl).length:Int)<gc.vR)) (bnd (eA (0:Int)) fun pL=>some (pL,(0:Int))) (bnd (a7 (js x8) ((1:Int),(0:Int))) fun wW=>bnd (eA wW) fun sL=>bnd (a7 (jr x8) ((0:Int),sL)) fun pD=>bnd (bH pD) fun zY=>cnd (!zY) (bnd (some ((⟨(⟨false,false,(bS)⟩:aq),(⟨false,false,(bS)⟩:aq)⟩:ak))) fun zX=>some (zX,(30:Int))) (some (pD,(0:Int))))))
theorem lz {gc:aB}{r:ak×Int}(h:eR gc=some r):aC prog 16 [dG aQ gc] (.tu [dG aj r.1,dI .i64 r.2]):=by
 refine bQ (rs:=[.cell 2 34,.tmp 3]) (fun cx hx h0=>?_) func16
 unfold eR at h
 refine rs hx fun K hK=>?_
 refine s1 (d:=.pt 0 0) iX ?_
 refine s1 (bp (F:=aj.f co) aA) ?_
 refine sa ?_
 refine .nil (hK _ _ ?_)
 iterate 2 refine AW.seq ?_
 obtain⟨bM,hy,h⟩:=ah h
 refine jn ((PE cx .normal (fun bM=>[(1,.pt 0 0),(2,.pt 1 0),(22,dB bM)]) fun bM=>⟨[(0,[dI .i64 gc.vR,dI .i64 gc.vC,dL aj gc.vV]),(1,dC (aj.f co))],[],2⟩) bM) ?_ ?_
 replace h:=hy
 refine rq hx fun K hK=>?_
 refine s1 (d:=dG aQ gc) (bP av) ?_
 refine s1 (d:=dO 2 aQ [gc]) (iW pQ av) ?_
 refine scb h eL fun x1 h=>?_
 iterate 2 refine sa ?_
 rcases aX (!x1) with bo|bo
 replace h:=aZ bo h
 iterate 5 refine aH rfl rfl bo ?_
 refine s1 (al bo) ?_
 refine .nil (hK _ _ ?_)
 cases h
 exact pe0 h0 [0,1]
 replace h:=a3 bo h
 refine ga bo ?_
 refine g1 bo (ba aY) ?_
 refine ga bo ?_
 refine g1 bo (ba aY) ?_
 refine ga bo ?_
 refine s1 (au bo) ?_
 refine .nil (hK _ _ ?_)
 cases h
 exact pe0 h0 [0,1]
 rintro ex tm' hp' ⟨rfl,hw⟩
 refine AW.weak hw (cdh h rfl (fun oT h=>?_) (fun oT h=>?_))
 refine rs hx fun K hK=>?_
 refine s1 (d:=dG aj co) (jz (FL.nil _) aA) ?_
 obtain⟨x6,sO,h⟩:=ah h
 replace sO:=cv sO
 refine s0 (jT (b':=co) (ao.id _ _) aA sO) ?_
 refine sa ?_
 refine .nil (hK _ _ (AW.ret ?_))
 cases h
 exact rv2
 refine AW.skip (rs hx fun K hK=>?_)
 refine s1 (d:=dG aQ gc) (bP av) ?_
 refine scb h jU fun x8 h=>?_
 iterate 3 refine sa ?_
 refine s1 (d:=.pt 2 0) (b9 i6) ?_
 refine s0 (dQ (ds':=[dI .i64 x8.1.vm.vR,dI .i64 x8.1.vm.vC,dL aj x8.1.vm.vV,dL bh x8.1.vl]) i6) ?_
 refine sa ?_
 refine .nil (hK _ _ (AW.seq (AW.block (ra hx ?_))))
 refine cdh h rfl (fun fa h=>?_) (fun fa h=>?_)
 refine rs hx fun K hK=>?_
 refine s1 (d:=dG aj co) (jz (FL.nil _) aA) ?_
 refine sa ?_
 obtain⟨om,Nm,h⟩:=ah h
 replace Nm:=cv Nm
 refine s0 (jT (b':=co) (ao.id _ _) aA Nm) ?_
 refine sa ?_
 refine .nil (hK _ _ (AW.ret ?_))
 cases h
 exact rv2
 refine rs hx fun K hK=>?_
 refine sa ?_
 refine s1 (ba qz) ?_
 iterate 2 refine sa ?_
 refine s1 (ba aY) ?_
 iterate 2 refine sa ?_
 refine .nil (hK _ _ (cdh h rfl (fun nZ h=>?_) (fun nZ h=>?_)))
 refine rs hx fun K hK=>?_
 refine scb h iP fun pL h=>?_
 refine s0 (aO (b':=pL) (ao.id _ _) aA) ?_
 refine sa ?_
 refine .nil (hK _ _ (AW.ret ?_))
 cases h
 exact rv2
 refine AW.skip (ra hx ?_)
 refine AW.seq (rs hx fun K hK=>?_)
 refine sa ?_
 refine s1 (ba qz) ?_
 iterate 2 refine sa ?_
 refine .nil (hK _ _ (AW.block ?_))
 obtain⟨wW,hy,h⟩:=ah h
 refine lp (S:=Int×Int) (X:=Int) (fun (qL,ql)=>[(2,.pt 0 0),(4,.pt 1 0),(6,dI .i64 qL),(43,dL bh x8.1.vl),(44,dI .i64 ((x8.1.vl).length:Int)),(45,dI .i64 ql)]) (fun (qL,ql)=>⟨[(0,dC (aj.f co)),(1,[dI .i64 x8.1.vm.vR,dI .i64 x8.1.vm.vC,dL aj x8.1.vm.vV,dL bh x8.1.vl])],[],2⟩) (PE cx (.exit 1) (fun wW=>[(2,.pt 0 0),(4,.pt 1 0),(6,dI .i64 wW)]) fun wW=>⟨[(0,dC (aj.f co)),(1,[dI .i64 x8.1.vm.vR,dI .i64 x8.1.vm.vC,dL aj x8.1.vm.vV,dL bh x8.1.vl])],[],2⟩) hy ?_ ?_ ?_
 exact wk h0 [1,2] (wR rfl (wR rfl (wR rfl (wR rfl (wR rfl (wR rfl wTn)))))) (vC rfl (vR rfl wVn)) wLn
 clear hy h
 rintro⟨qL,ql⟩ y h
 dsimp only[js] at h
 refine ra hx ?_
 refine AW.seq (cdh h rfl (fun Iv h=>?_) (fun Iv h=>?_))
 refine AW.skip (AW.seq ?_)
 obtain⟨Dl,hy,h⟩:=ah h
 refine jn ((PE cx .normal (fun Dl=>[(2,.pt 0 0),(4,.pt 1 0),(6,dI .i64 Dl),(43,dL bh x8.1.vl),(44,dI .i64 ((x8.1.vl).length:Int)),(45,dI .i64 ql)]) fun Dl=>⟨[(0,dC (aj.f co)),(1,[dI .i64 x8.1.vm.vR,dI .i64 x8.1.vm.vC,dL aj x8.1.vm.vV,dL bh x8.1.vl])],[],2⟩) Dl) ?_ ?_
 replace h:=hy
 refine AW.block (rs hx fun K hK=>?_)
 obtain⟨hc17,h⟩:=aD h
 have hn18:(ql).toNat<(x8.1.vl).length:=by omega
 refine s1 (gk hc17 qz gq) ?_
 refine s1 (d:=dG bh ((x8.1.vl)[(ql).toNat]!)) (pm (c:=bh) (l:=x8.1.vl) (n:=(ql).toNat) (o:=0) gq hn18 (kC _ _ rfl)) ?_
 refine s1 (bp (F:=bh.f (⟨(0:Int),co,false⟩:lL)) gq) ?_
 refine s0 (aO (b':=(x8.1.vl)[(ql).toNat]!) (ao.id _ _) gq) ?_
 refine .nil (hK _ _ (rs hx fun K hK=>?_))
 refine sa ?_
 refine s1 (a4 (zt ((x8.1.vl)[(ql).toNat]!)) gp) ?_
 refine .nil (hK _ _ (cdh h rfl (fun AU h=>?_) (fun AU h=>?_)))
 refine rb hx ?_
 cases h
 exact pe0 h0 [0,1]
 refine AW.skip ?_
 cases h
 exact pe0 h0 [0,1]
 rintro ex tm' hp' ⟨rfl,hw⟩
 refine AW.weak hw (rb hx ?_)
 cases h
 exact PS.l (pe0 h0 [0,1])
 refine AW.exit ?_
 try dsimp only
 try simp only[aN,reduceIte,Nat.reduceEqDiff,reduceCtorEq]
 cases h
 exact PS.r ⟨by nofun,PE.i (wk h0 [0,1] (wR rfl (wR rfl (wR rfl wTn))) (vC rfl (vR rfl wVn)) wLn)⟩
 rintro ex tm' hp' ⟨rfl,hw⟩
 try dsimp only
 try simp only[aN,reduceIte,Nat.reduceEqDiff,reduceCtorEq]
 refine AW.weak hw (rs hx fun K hK=>?_)
 refine sa ?_
 refine scb h iP fun sL h=>?_
 refine s1 (bp (F:=aj.f co) aA) ?_
 refine s0 (aO (b':=sL) (ao.id _ _) aA) ?_
 refine .nil (hK _ _ (AW.seq (rs hx fun K hK=>?_)))
 refine sa ?_
 refine s1 (ba qz) ?_
 iterate 2 refine sa ?_
 refine .nil (hK _ _ (AW.block ?_))
 obtain⟨pD,hy,h⟩:=ah h
 refine lp (S:=Int×ak) (X:=ak) (fun (qK,BD)=>[(2,.pt 0 0),(9,.pt 1 0),(57,dL bh x8.1.vl),(58,dI .i64 ((x8.1.vl).length:Int)),(59,dI .i64 qK)]) (fun (qK,BD)=>⟨[(0,dC (aj.f co)),(1,dC (aj.f BD))],[],2⟩) (PE cx (.exit 3) (fun pD=>[(2,.pt 0 0),(9,.pt 1 0)]) fun pD=>⟨[(0,dC (aj.f co)),(1,dC (aj.f pD))],[],2⟩) hy ?_ ?_ ?_
 exact wk h0 [0,2] (wR rfl (wR rfl (wR rfl (wR rfl (wR rfl wTn))))) (vC rfl (vC rfl wVn)) wLn
 clear hy h
 rintro⟨qK,BD⟩ y h
 dsimp only[jr] at h
 refine ra hx ?_
 refine AW.seq (cdh h rfl (fun xZ h=>?_) (fun xZ h=>?_))
 refine AW.skip (AW.seq (AW.block (rs hx fun K hK=>?_)))
 obtain⟨hc25,h⟩:=aD h
 have NI:(qK).toNat<(x8.1.vl).length:=by omega
 refine s1 (gk hc25 qz gq) ?_
 refine s1 (d:=dG bh ((x8.1.vl)[(qK).toNat]!)) (pm (c:=bh) (l:=x8.1.vl) (n:=(qK).toNat) (o:=0) gq NI (kC _ _ rfl)) ?_
 refine s1 (bp (F:=bh.f (⟨(0:Int),co,false⟩:lL)) gq) ?_
 refine s0 (aO (b':=(x8.1.vl)[(qK).toNat]!) (ao.id _ _) gq) ?_
 refine .nil (hK _ _ (rq hx fun K hK=>?_))
 refine s1 (d:=dG aj BD) (aE (ao.id _ _) aA) ?_
 refine sa ?_
 refine s1 (aE (D0 ((x8.1.vl)[(qK).toNat]!)) aA) ?_
 refine scb h mF fun w9 h=>?_
 refine s0 (aO (b':=w9) (ao.id _ _) aA) ?_
 refine .nil (hK _ _ (rb hx ?_))
 cases h
 exact PS.l (pe0 h0 [0,1])
 refine AW.exit ?_
 try dsimp only
 try simp only[aN,reduceIte,Nat.reduceEqDiff,reduceCtorEq]
 cases h
 exact PS.r ⟨by nofun,PE.i (wk h0 [0,1] (wR rfl (wR rfl wTn)) (vC rfl (vC rfl wVn)) wLn)⟩
 rintro ex tm' hp' ⟨rfl,hw⟩
 try dsimp only
 try simp only[aN,reduceIte,Nat.reduceEqDiff,reduceCtorEq]
 refine AW.weak hw (AW.seq (rs hx fun K hK=>?_))
 refine s1 (d:=dG aj pD) (aE (ao.id _ _) aA) ?_
 refine scb h eK fun zY h=>?_
 refine sa ?_
 refine .nil (hK _ _ (cdh h rfl (fun AT h=>?_) (fun AT h=>?_)))
 refine rs hx fun K hK=>?_
 refine s1 (d:=dG aj co) (jz (FL.nil _) aA) ?_
 obtain⟨zX,H0,h⟩:=ah h
 replace H0:=cv H0
 refine s0 (jT (b':=co) (ao.id _ _) aA H0) ?_
 refine sa ?_
 refine .nil (hK _ _ (AW.ret ?_))
 cases h
 exact rv2
 refine AW.skip (rs hx fun K hK=>?_)
 refine s1 (d:=dG aj pD) (aE (ao.id _ _) aA) ?_
 refine s0 (aO (b':=pD) (ao.id _ _) aA) ?_
 refine sa ?_
 refine .nil (hK _ _ (AW.ret ?_))
 cases h
 exact rv2
def dM(nW:List Int)(mR:Int):Int→Option (Int⊕(Int⊕Unit)):=fun aV=>cnd (decide (aV<((nW).length:Int))) (gd (0≤aV∧aV<((nW).length:Int)) (cnd (decide (mR=((nW)[(aV).toNat]!))) (some (.inr (.inl aV))) (some (.inl (i64.wrap (aV+(1:Int))))))) (some (.inr (.inr ())))
def gu(nW:List Int)(mR:Int):Option Int:=bnd (a7 (dM nW mR) (0:Int)) fun y5=>match y5 with| .inl r=>some r| .inr ()=>some (-1:Int)
theorem rI {nW:List Int}{mR:Int}{r:Int}(h:gu nW mR=some r):aC prog 121 [dL (cI .i64) nW,dI .i64 mR] (dI .i64 r):=by
 refine bQ (rs:=[.tmp 4]) (fun cx hx h0=>?_) func121
 unfold gu at h
 refine ra hx ?_
 refine AW.seq (ra hx ?_)
 refine AW.block ?_
 obtain⟨y,hy,h⟩:=ah h
 refine lp (S:=Int) (X:=Int⊕Unit) (fun aV=>[(0,dL (cI .i64) nW),(1,dI .i64 mR),(7,dI .i64 ((nW).length:Int)),(8,dI .i64 aV)]) (fun aV=>⟨[],[],0⟩) (PS (PR [.tmp 4] fun r=>dI .i64 r) (PE cx (.exit 0) (fun ()=>[]) fun ()=>⟨[],[],0⟩)) hy ?_ ?_ ?_
 exact wk h0 [] (wR rfl (wR rfl (wR rfl (wR rfl wTn)))) wVn wLn
 clear hy h
 rintro aV y h
 dsimp only[dM] at h
 refine ra hx ?_
 refine AW.seq (cdh h rfl (fun cH h=>?_) (fun cH h=>?_))
 refine AW.skip (AW.seq (AW.block (ra hx ?_)))
 refine rs hx fun K hK=>?_
 iterate 3 refine sa ?_
 obtain⟨nb,h⟩:=aD h
 have p8:(aV).toNat<(nW).length:=by omega
 refine s1 (gk nb bV aY) ?_
 refine s1 (oL (c:=(cI .i64)) (l:=nW) (n:=(aV).toNat) (o:=0) aY p8) ?_
 refine sa ?_
 refine .nil (hK _ _ (cdh h rfl (fun qR h=>?_) (fun qR h=>?_)))
 refine ra hx ?_
 refine AW.ret ?_
 cases h
 refine PS.r ⟨by nofun,PS.l (PR.i ?_)⟩
 exact rv1
 refine AW.skip (rb hx ?_)
 cases h
 exact PS.l (pe0 h0 [])
 refine AW.exit ?_
 try dsimp only
 try simp only[aN,reduceIte,Nat.reduceEqDiff,reduceCtorEq]
 cases h
 exact PS.r ⟨by nofun,PS.r (PE.i (wk h0 [] wTn wVn wLn))⟩
 rcases y with r|⟨⟩
 rintro ex tm' hp' ⟨rfl,hw⟩
 cases h
 exact hw
 rintro ex tm' hp' ⟨rfl,hw⟩
 try dsimp only
 try simp only[aN,reduceIte,Nat.reduceEqDiff,reduceCtorEq]
 refine AW.weak hw (ra hx ?_)
 refine AW.ret ?_
 cases h
 exact rv1
def cK(nW:List Int)(mR:Int):Option Bool:=bnd (gu nW mR) fun x1=>some (decide ((0:Int)≤x1))
theorem lN {nW:List Int}{mR:Int}{r:Bool}(h:cK nW mR=some r):aC prog 76 [dL (cI .i64) nW,dI .i64 mR] (dB r):=by
 refine bQ (rs:=[.tmp 4]) (fun cx hx h0=>?_) func76
 unfold cK at h
 refine ra hx ?_
 refine rs hx fun K hK=>?_
 iterate 2 refine sa ?_
 refine scb h rI fun x1 h=>?_
 iterate 2 refine sa ?_
 refine .nil (hK _ _ (AW.ret ?_))
 cases h
 exact rv1
def fy(aW:aB)(jA:cD×Int):(List ak)×Int→Option (((List ak)×Int)⊕((List ak))):=fun (wP,BE)=>cnd (decide (BE<((jA.1.vl).length:Int))) (bnd (ce jA.1.vm BE aW.vC) fun sL=>gd ((wP++[sL]).length*136≤140737488355328) (some (.inl (wP++[sL],i64.wrap (BE+(1:Int)))))) (some (.inr wP))
def gV(aW:aB)(a6:List ak):Option ((List ak)×Int):=bnd (S:=Bool) (bnd (bO [aW]) fun x1=>cnd (!x1) (some (true)) (cnd (decide (((a6).length:Int)≠aW.vR)) (some (true)) (bnd (cF a6) fun x5=>some (!x5)))) fun bM=>cnd bM (some (([]:List ak),(1:Int))) (bnd (im aW (⟨aW.vR,(1:Int),a6⟩:aB)) fun x9=>cnd (decide (x9.2≠(0:Int))) (some (([]:List ak),x9.2)) (bnd (eu x9.1) fun jA=>cnd (decide (jA.2≠(0:Int))) (some (([]:List ak),jA.2)) (bnd (cc jA.1) fun ul=>bnd (cK ul aW.vC) fun po=>cnd po (some (([]:List ak),(200:Int))) (cnd (decide (((jA.1.vl).length:Int)<aW.vC)) (some (([]:List ak),(70:Int))) (bnd (a7 (fy aW jA) (([]:List ak),(0:Int))) fun t7=>some (t7,(0:Int)))))))
theorem pM {aW:aB}{a6:List ak}{r:(List ak)×Int}(h:gV aW a6=some r):aC prog 29 [dG aQ aW,dL aj a6] (.tu [dL aj r.1,dI .i64 r.2]):=by
 refine bQ (rs:=[.tmp 4,.tmp 5]) (fun cx hx h0=>?_) func29
 unfold gV at h
 refine rs hx fun K hK=>?_
 refine s1 (d:=.pt 0 0) iX ?_
 refine s1 (d:=dO 1 aj ([]:List ak)) (ek aP aA) ?_
 refine sa ?_
 refine .nil (hK _ _ ?_)
 iterate 2 refine AW.seq ?_
 obtain⟨bM,hy,h⟩:=ah h
 refine jn ((PE cx .normal (fun bM=>[(1,dL aj a6),(2,.pt 0 0),(26,dB bM)]) fun bM=>⟨[(0,[dI .i64 aW.vR,dI .i64 aW.vC,dL aj aW.vV])],[],1⟩) bM) ?_ ?_
 replace h:=hy
 refine rq hx fun K hK=>?_
 refine s1 (d:=dG aQ aW) (bP av) ?_
 refine s1 (d:=dO 2 aQ [aW]) (iW pQ av) ?_
 refine scb h eL fun x1 h=>?_
 iterate 2 refine sa ?_
 rcases aX (!x1) with bo|bo
 replace h:=aZ bo h
 iterate 5 refine aH rfl rfl bo ?_
 refine s1 (al bo) ?_
 refine sa ?_
 iterate 3 refine aH rfl rfl rfl ?_
 refine s1 (al rfl) ?_
 refine .nil (hK _ _ ?_)
 cases h
 exact pe0 h0 [0]
 replace h:=a3 bo h
 iterate 3 refine ga bo ?_
 refine g1 bo (ba aY) ?_
 refine ga bo ?_
 refine s1 (au bo) ?_
 refine sa ?_
 rcases aX (decide (((a6).length:Int)≠aW.vR)) with qR|qR
 replace h:=aZ qR h
 iterate 3 refine aH rfl rfl qR ?_
 refine s1 (al qR) ?_
 refine .nil (hK _ _ ?_)
 cases h
 exact pe0 h0 [0]
 replace h:=a3 qR h
 refine ga qR ?_
 obtain⟨x5,D5,h⟩:=ah h
 refine g1 qR (eC rfl (gC D5) rfl (lA (an _) lAn) (.inl rfl)) ?_
 refine ga qR ?_
 refine s1 (au qR) ?_
 refine .nil (hK _ _ ?_)
 cases h
 exact pe0 h0 [0]
 rintro ex tm' hp' ⟨rfl,hw⟩
 refine AW.weak hw (cdh h rfl (fun qD h=>?_) (fun qD h=>?_))
 refine rs hx fun K hK=>?_
 refine s1 (d:=dO 1 aj ([]:List ak)) (ek aP aA) ?_
 refine sa ?_
 refine .nil (hK _ _ (AW.ret ?_))
 cases h
 exact fG.mk2 (bR rfl (bR rfl (.inr ⟨_,_,(qC _),(an _),⟨rfl,rfl⟩,rfl⟩)))
 refine AW.skip (rs hx fun K hK=>?_)
 refine s1 (d:=dG aQ aW) (bP av) ?_
 refine sa ?_
 refine s1 (ba aY) ?_
 refine sa ?_
 refine s1 (d:=dG aQ (⟨aW.vR,(1:Int),a6⟩:aB)) (cV av) ?_
 refine scb h sC fun x9 h=>?_
 iterate 3 refine sa ?_
 refine s1 (d:=.pt 1 0) (b9 av) ?_
 refine s0 (dQ (ds':=[dI .i64 x9.1.vR,dI .i64 x9.1.vC,dL aj x9.1.vV]) av) ?_
 refine sa ?_
 refine .nil (hK _ _ (AW.seq (ra hx ?_)))
 refine cdh h rfl (fun N9 h=>?_) (fun N9 h=>?_)
 refine rs hx fun K hK=>?_
 refine sa ?_
 refine s1 (d:=dO 2 aj ([]:List ak)) (ek aP aA) ?_
 refine sa ?_
 refine .nil (hK _ _ (AW.ret ?_))
 cases h
 exact fG.mk2 (bR rfl (bR rfl (.inr ⟨_,_,(qC _),(an _),⟨rfl,rfl⟩,rfl⟩)))
 refine AW.skip (rs hx fun K hK=>?_)
 refine s1 (d:=dG aQ x9.1) (bP av) ?_
 refine scb h jU fun jA h=>?_
 iterate 3 refine sa ?_
 refine s1 (d:=.pt 2 0) (b9 i6) ?_
 refine s0 (dQ (ds':=[dI .i64 jA.1.vm.vR,dI .i64 jA.1.vm.vC,dL aj jA.1.vm.vV,dL bh jA.1.vl]) i6) ?_
 refine sa ?_
 refine .nil (hK _ _ (AW.seq (AW.block (ra hx ?_))))
 refine cdh h rfl (fun iR h=>?_) (fun iR h=>?_)
 refine rs hx fun K hK=>?_
 refine sa ?_
 refine s1 (d:=dO 3 aj ([]:List ak)) (ek aP aA) ?_
 refine sa ?_
 refine .nil (hK _ _ (AW.ret ?_))
 cases h
 exact fG.mk2 (bR rfl (bR rfl (.inr ⟨_,_,(qC _),(an _),⟨rfl,rfl⟩,rfl⟩)))
 refine rsd [76] hx fun K hK=>?_
 refine s1 (d:=dG pJ jA.1) (bP i6) ?_
 obtain⟨ul,hx16,h⟩:=ah h
 refine s1 (E2 rfl (ko hx16) (by simp only[cp,dh,jy,fO,dX,dW];exact bc _ _) (lA (an _) lAn)) ?_
 refine sa ?_
 refine s1 (ba aY) ?_
 refine cqb h lN fun po h=>?_
 refine sa ?_
 refine .nil (hK _ _ (cdh h rfl (fun AU h=>?_) (fun AU h=>?_)))
 refine rs hx fun K hK=>?_
 refine s1 (d:=dO 4 aj ([]:List ak)) (ek aP aA) ?_
 refine sa ?_
 refine .nil (hK _ _ (AW.ret ?_))
 cases h
 exact fG.mk2 (bR rfl (bR rfl (.inr ⟨_,_,(qC _),(an _),⟨rfl,rfl⟩,rfl⟩)))
 refine rs hx fun K hK=>?_
 refine sa ?_
 refine s1 (ba qz) ?_
 iterate 2 refine sa ?_
 refine s1 (ba aY) ?_
 iterate 2 refine sa ?_
 refine .nil (hK _ _ (cdh h rfl (fun ve h=>?_) (fun ve h=>?_)))
 refine rs hx fun K hK=>?_
 refine s1 (d:=dO 4 aj ([]:List ak)) (ek aP aA) ?_
 refine sa ?_
 refine .nil (hK _ _ (AW.ret ?_))
 cases h
 exact fG.mk2 (bR rfl (bR rfl (.inr ⟨_,_,(qC _),(an _),⟨rfl,rfl⟩,rfl⟩)))
 refine AW.skip (rs hx fun K hK=>?_)
 refine s1 (d:=dO 4 aj ([]:List ak)) (ek aP aA) ?_
 refine .nil (hK _ _ (AW.seq (rs hx fun K hK=>?_)))
 refine sa ?_
 refine s1 (ba qz) ?_
 iterate 2 refine sa ?_
 refine .nil (hK _ _ (AW.block ?_))
 obtain⟨t7,hy,h⟩:=ah h
 refine lp (S:=(List ak)×Int) (X:=(List ak)) (fun (wP,BE)=>[(2,.pt 0 0),(8,.pt 1 0),(9,dO 2 aj wP),(63,dI .i64 ((jA.1.vl).length:Int)),(64,dI .i64 BE)]) (fun (wP,BE)=>⟨[(0,[dI .i64 aW.vR,dI .i64 aW.vC,dL aj aW.vV]),(1,[dI .i64 jA.1.vm.vR,dI .i64 jA.1.vm.vC,dL aj jA.1.vm.vV,dL bh jA.1.vl])],[(2,(wP).length,36,34)],3⟩) (PE cx (.exit 1) (fun t7=>[(9,dO 0 aj t7)]) fun t7=>⟨[],[(0,(t7).length,36,34)],1⟩) hy ?_ ?_ ?_
 exact wk h0 [0,2,4] (wR rfl (wR rfl (wR rfl (wR rfl (wR rfl wTn))))) (vR rfl (vR rfl wVn)) (wL rfl rfl wLn)
 clear hy h
 rintro⟨wP,BE⟩ y h
 dsimp only[fy] at h
 refine ra hx ?_
 refine AW.seq (cdh h rfl (fun Ef h=>?_) (fun Ef h=>?_))
 refine AW.skip (AW.seq (AW.block (ra hx ?_)))
 refine rq hx fun K hK=>?_
 iterate 2 refine sa ?_
 refine s1 (d:=dG aQ jA.1.vm) (bP av) ?_
 iterate 2 refine sa ?_
 refine s1 (ba aY) ?_
 refine scb h eD fun sL h=>?_
 refine s1 (qm ([sL]:List ak) aj aP aA) ?_
 obtain⟨N7,h⟩:=aD h
 refine s1 (d:=dO 2 aj (wP++[sL])) (iT aP aA N7) ?_
 refine sa ?_
 refine .nil (hK _ _ (rb hx ?_))
 cases h
 exact PS.l (pe0 h0 [0,1,2])
 refine AW.exit ?_
 try dsimp only
 try simp only[aN,reduceIte,Nat.reduceEqDiff,reduceCtorEq]
 cases h
 exact PS.r ⟨by nofun,PE.i (wk h0 [2] (wR rfl wTn) wVn (wL rfl rfl wLn))⟩
 rintro ex tm' hp' ⟨rfl,hw⟩
 try dsimp only
 try simp only[aN,reduceIte,Nat.reduceEqDiff,reduceCtorEq]
 refine AW.weak hw (ra hx ?_)
 refine AW.ret ?_
 cases h
 exact fG.mk2 (bR rfl (bR rfl (.inr ⟨_,_,(qC _),(an _),⟨rfl,rfl⟩,rfl⟩)))
def fL(pb:Int)(kE:Int)(bJ:cD)(fc:aB):Option ak:=bnd (ce bJ.vm pb (i64.wrap (fc.vR+kE))) fun x1=>some x1
theorem oo {pb:Int}{kE:Int}{bJ:cD}{fc:aB}{r:ak}(h:fL pb kE bJ fc=some r):HC prog 74 [dI .i64 pb,dI .i64 kE,.pt 0 0,.pt 1 0] ⟨[(0,[dI .i64 bJ.vm.vR,dI .i64 bJ.vm.vC,dL aj bJ.vm.vV,dL bh bJ.vl]),(1,[dI .i64 fc.vR,dI .i64 fc.vC,dL aj fc.vV])],[],2⟩ (dG aj r) ⟨[(0,[dI .i64 bJ.vm.vR,dI .i64 bJ.vm.vC,dL aj bJ.vm.vV,dL bh bJ.vl]),(1,[dI .i64 fc.vR,dI .i64 fc.vC,dL aj fc.vV])],[],2⟩:=by
 refine HC.ofX (rs:=[.cell 6 34]) tok func74 rfl rfl (bg rfl) rfl (fun cx hx h1=>?_)
 have h0:cx.hp0.next=2:=by rw[h1]
 simp only[ee,Nat.reduceAdd,br]
 unfold fL at h
 refine rs hx fun K hK=>?_
 refine s1 (bp (F:=aj.f co) aA) ?_
 refine .nil (hK _ _ (rs hx fun K hK=>?_))
 refine sa ?_
 refine s1 (d:=dG aQ bJ.vm) (bP av) ?_
 iterate 2 refine sa ?_
 refine s1 (ba aY) ?_
 iterate 2 refine sa ?_
 refine scb h eD fun x1 h=>?_
 refine s0 (aO (b':=x1) (ao.id _ _) aA) ?_
 refine .nil (hK _ _ (AW.ret ?_))
 cases h
 exact⟨_,pR rfl aA rfl rfl (ltb rfl) (aj.h _) (rfl),qq.of_wk (by rw[hx];exact bg rfl) (wkN h0 [] (wG rfl (an _) wTn) (vR rfl (vR rfl wVn)) wLn)⟩
def iH(bW:Int)(bJ:cD)(fc:aB)(aK:Int):Int×(List ak)→Option ((Int×(List ak))⊕((List ak))):=fun (bU,bf)=>cnd (decide (bU<bW)) (bnd (fL aK bU bJ fc) fun x3=>gd ((bf++[x3]).length*136≤140737488355328) (some (.inl (i64.wrap (bU+(1:Int)),bf++[x3])))) (some (.inr bf))
def i1(ct:Int)(bW:Int)(bJ:cD)(fc:aB):Int×(List ak)→Option ((Int×(List ak))⊕((List ak))):=fun (aK,aS)=>cnd (decide (aK<ct)) (bnd (a7 (iH bW bJ fc aK) ((0:Int),aS)) fun bD=>some (.inl (i64.wrap (aK+(1:Int)),bD))) (some (.inr aS))
def gN(ct:Int)(bW:Int)(bJ:cD)(fc:aB):Option (aB×Int):=bnd (a7 (i1 ct bW bJ fc) ((0:Int),([]:List ak))) fun aG=>bnd (cF aG) fun x8=>cnd (!x8) (some ((⟨(0:Int),(0:Int),([]:List ak)⟩:aB),(30:Int))) (some ((⟨ct,bW,aG⟩:aB),(0:Int)))
theorem xg {ct:Int}{bW:Int}{bJ:cD}{fc:aB}{r:aB×Int}(h:gN ct bW bJ fc=some r):HC prog 73 [dI .i64 ct,dI .i64 bW,.fn 74 [0,1]] ⟨[(0,[dI .i64 bJ.vm.vR,dI .i64 bJ.vm.vC,dL aj bJ.vm.vV,dL bh bJ.vl]),(1,[dI .i64 fc.vR,dI .i64 fc.vC,dL aj fc.vV])],[],2⟩ (.tu [dG aQ r.1,dI .i64 r.2]) ⟨[(0,[dI .i64 bJ.vm.vR,dI .i64 bJ.vm.vC,dL aj bJ.vm.vV,dL bh bJ.vl]),(1,[dI .i64 fc.vR,dI .i64 fc.vC,dL aj fc.vV])],[],2⟩:=by
 refine HC.ofX (rs:=[.cell 6 24,.tmp 7]) tok func73 rfl rfl (bg rfl) rfl (fun cx hx h1=>?_)
 have h0:cx.hp0.next=2:=by rw[h1]
 simp only[ee,Nat.reduceAdd,br]
 unfold gN at h
 refine rs hx fun K hK=>?_
 refine s1 (d:=.pt 2 0) (b9 av) ?_
 refine sa ?_
 refine .nil (hK _ _ (rs hx fun K hK=>?_))
 iterate 2 refine sa ?_
 refine s1 (d:=.ag [dI .i64 ct,dI .i64 bW,dN]) (cV av) ?_
 refine s1 (d:=.pt 3 0) (b9 av) ?_
 refine s0 (dQ (ds':=[dI .i64 ct,dI .i64 bW,dN]) av) ?_
 refine .nil (hK _ _ (AW.seq (ra hx ?_)))
 refine AW.block ?_
 obtain⟨aG,hy,h⟩:=ah h
 refine lp (S:=Int×(List ak)) (X:=(List ak)) (fun (aK,aS)=>[(1,dI .i64 bW),(2,.fn 74 [0,1]),(6,.pt 2 0),(8,.pt 3 0),(14,dI .i64 ct),(15,dI .i64 aK)]) (fun (aK,aS)=>⟨[(0,[dI .i64 bJ.vm.vR,dI .i64 bJ.vm.vC,dL aj bJ.vm.vV,dL bh bJ.vl]),(1,[dI .i64 fc.vR,dI .i64 fc.vC,dL aj fc.vV]),(2,[dI .i64 (0:Int),dI .i64 (0:Int),dN]),(3,[dI .i64 ct,dI .i64 bW,dO 4 aj aS])],[(4,(aS).length,36,34)],5⟩) (PE cx (.exit 0) (fun aG=>[(6,.pt 2 0),(8,.pt 3 0)]) fun aG=>⟨[(0,[dI .i64 bJ.vm.vR,dI .i64 bJ.vm.vC,dL aj bJ.vm.vV,dL bh bJ.vl]),(1,[dI .i64 fc.vR,dI .i64 fc.vC,dL aj fc.vV]),(2,[dI .i64 (0:Int),dI .i64 (0:Int),dN]),(3,[dI .i64 ct,dI .i64 bW,dO 4 aj aG])],[(4,(aG).length,36,34)],5⟩) hy ?_ ?_ ?_
 exact Wk.trans (Wk.nilOwn (ds':=[dI .i64 ct,dI .i64 bW,dO 4 aj ([]:List ak)]) 3 2 34 36) (wkN h0 [2,3,4] (wR rfl (wR rfl (wR rfl (wR rfl (wR rfl (wR rfl wTn)))))) (vR rfl (vR rfl (vR rfl (vR rfl wVn)))) (wL rfl rfl wLn))
 clear hy h
 rintro⟨aK,aS⟩ y h
 dsimp only[i1] at h
 refine ra hx ?_
 refine AW.seq (cdh h rfl (fun cH h=>?_) (fun cH h=>?_))
 refine AW.skip (AW.seq (AW.block ?_))
 iterate 2 refine ra hx ?_
 refine AW.block ?_
 obtain⟨bD,hy,h⟩:=ah h
 refine lp (S:=Int×(List ak)) (X:=(List ak)) (fun (bU,bf)=>[(1,dI .i64 bW),(2,.fn 74 [0,1]),(6,.pt 2 0),(8,.pt 3 0),(9,dI .i64 aK),(14,dI .i64 ct),(15,dI .i64 aK),(18,dI .i64 bW),(19,dI .i64 bU)]) (fun (bU,bf)=>⟨[(0,[dI .i64 bJ.vm.vR,dI .i64 bJ.vm.vC,dL aj bJ.vm.vV,dL bh bJ.vl]),(1,[dI .i64 fc.vR,dI .i64 fc.vC,dL aj fc.vV]),(2,[dI .i64 (0:Int),dI .i64 (0:Int),dN]),(3,[dI .i64 ct,dI .i64 bW,dO 4 aj bf])],[(4,(bf).length,36,34)],5⟩) (PE cx (.exit 2) (fun bD=>[(1,dI .i64 bW),(2,.fn 74 [0,1]),(6,.pt 2 0),(8,.pt 3 0),(14,dI .i64 ct),(15,dI .i64 aK)]) fun bD=>⟨[(0,[dI .i64 bJ.vm.vR,dI .i64 bJ.vm.vC,dL aj bJ.vm.vV,dL bh bJ.vl]),(1,[dI .i64 fc.vR,dI .i64 fc.vC,dL aj fc.vV]),(2,[dI .i64 (0:Int),dI .i64 (0:Int),dN]),(3,[dI .i64 ct,dI .i64 bW,dO 4 aj bD])],[(4,(bD).length,36,34)],5⟩) hy ?_ ?_ ?_
 exact wkN h0 [2,3,4] (wR rfl (wR rfl (wR rfl (wR rfl (wR rfl (wR rfl (wR rfl (wR rfl (wR rfl wTn))))))))) (vR rfl (vR rfl (vR rfl (vR rfl wVn)))) (wL rfl rfl wLn)
 clear hy h
 rintro⟨bU,bf⟩ y h
 dsimp only[iH] at h
 refine ra hx ?_
 refine AW.seq (cdh h rfl (fun ly h=>?_) (fun ly h=>?_))
 refine AW.skip (AW.seq (AW.block (ra hx ?_)))
 obtain⟨x3,xQ,h⟩:=ah h
 obtain⟨Ct,h⟩:=aD h
 refine jn (PE cx .normal (fun (_:Unit)=>[(1,dI .i64 bW),(2,.fn 74 [0,1]),(6,.pt 2 0),(8,.pt 3 0),(9,dI .i64 aK),(14,dI .i64 ct),(15,dI .i64 aK),(18,dI .i64 bW),(19,dI .i64 bU)]) (fun (_:Unit)=>⟨[(0,[dI .i64 bJ.vm.vR,dI .i64 bJ.vm.vC,dL aj bJ.vm.vV,dL bh bJ.vl]),(1,[dI .i64 fc.vR,dI .i64 fc.vC,dL aj fc.vV]),(2,[dI .i64 (0:Int),dI .i64 (0:Int),dN]),(3,[dI .i64 ct,dI .i64 bW,dO 4 aj (bf++[x3])])],[(4,(bf++[x3]).length,36,34)],5⟩) ()) ?_ ?_
 refine dw (DW.split 1 5 (by decide) ?_ ?_)
 refine dwg [] [0,1,2,3,4,5,6,7,8,9] hx (by kernel_rfl) (by kernel_rfl) (by kernel_rfl) fun K hK=>?_
 dsimp only[d6,mT,m7,List.map]
 refine sa ?_
 refine s1 (ba aP) ?_
 iterate 3 refine sa ?_
 refine s1 (mj [0,1] rfl (oo xQ) (fA (an _) (fA (an _) (fA (an _) (fA (an _) fAn)))) (vR rfl (vR rfl wVn)) wLn (rvE (rvE rvN)) (qc _ _ _) (uB _ _)) ?_
 refine s1 (kK ([x3]:List ak) aj aP aA) ?_
 refine s1 (d:=dO 4 aj (bf++[x3])) (iT aP aA Ct) ?_
 refine sa ?_
 refine s0 (dQ (ds':=[dI .i64 ct,dI .i64 bW,dO 4 aj (bf++[x3])]) aP) ?_
 exact .nil (hK _ _ (PE.i (wkN h0 [2,3,4] (wR rfl (wR rfl (wR rfl (wR rfl (wR rfl (wR rfl (wR rfl (wR rfl (wR rfl wTn))))))))) (vR rfl (vR rfl (vR rfl (vR rfl wVn)))) (wL rfl rfl wLn))))
 refine dwg [] [0,2,3,4,5,1,6,7,8,9] hx (by kernel_rfl) (by kernel_rfl) (by kernel_rfl) fun K hK=>?_
 dsimp only[d6,mT,m7,List.map]
 iterate 4 refine sa ?_
 refine s1 (mj [0,1] rfl (oo xQ) (fA (an _) (fA (an _) (fA (an _) (fA (an _) fAn)))) (vR rfl (vR rfl wVn)) wLn (rvE (rvE rvN)) (qc _ _ _) (uB _ _)) ?_
 refine s1 (ba aP) ?_
 refine s1 (kK ([x3]:List ak) aj aP aA) ?_
 refine s1 (d:=dO 4 aj (bf++[x3])) (iT aP aA Ct) ?_
 refine sa ?_
 refine s0 (dQ (ds':=[dI .i64 ct,dI .i64 bW,dO 4 aj (bf++[x3])]) aP) ?_
 exact .nil (hK _ _ (PE.i (wkN h0 [2,3,4] (wR rfl (wR rfl (wR rfl (wR rfl (wR rfl (wR rfl (wR rfl (wR rfl (wR rfl wTn))))))))) (vR rfl (vR rfl (vR rfl (vR rfl wVn)))) (wL rfl rfl wLn))))
 rintro ex tm' hp' ⟨rfl,hw⟩
 refine AW.weak hw (rb hx ?_)
 cases h
 exact PS.l (PE.i (wkN h0 [2,3,4] (wR rfl (wR rfl (wR rfl (wR rfl (wR rfl (wR rfl (wR rfl (wR rfl (wR rfl wTn))))))))) (vR rfl (vR rfl (vR rfl (vR rfl wVn)))) (wL rfl rfl wLn)))
 refine AW.exit ?_
 try dsimp only
 try simp only[aN,reduceIte,Nat.reduceEqDiff,reduceCtorEq]
 cases h
 exact PS.r ⟨by nofun,PE.i (wkN h0 [2,3,4] (wR rfl (wR rfl (wR rfl (wR rfl (wR rfl (wR rfl wTn)))))) (vR rfl (vR rfl (vR rfl (vR rfl wVn)))) (wL rfl rfl wLn))⟩
 rintro ex tm' hp' ⟨rfl,hw⟩
 try dsimp only
 try simp only[aN,reduceIte,Nat.reduceEqDiff,reduceCtorEq]
 refine AW.weak hw (rb hx ?_)
 cases h
 exact PS.l (PE.i (wkN h0 [2,3,4] (wR rfl (wR rfl (wR rfl (wR rfl (wR rfl (wR rfl wTn)))))) (vR rfl (vR rfl (vR rfl (vR rfl wVn)))) (wL rfl rfl wLn)))
 refine AW.exit ?_
 try dsimp only
 try simp only[aN,reduceIte,Nat.reduceEqDiff,reduceCtorEq]
 cases h
 exact PS.r ⟨by nofun,PE.i (wkN h0 [2,3,4] (wR rfl (wR rfl wTn)) (vR rfl (vR rfl (vR rfl (vR rfl wVn)))) (wL rfl rfl wLn))⟩
 rintro ex tm' hp' ⟨rfl,hw⟩
 try dsimp only
 try simp only[aN,reduceIte,Nat.reduceEqDiff,reduceCtorEq]
 refine AW.weak hw (AW.seq (rs hx fun K hK=>?_))
 refine sa ?_
 refine s1 (ba aP) ?_
 refine scb h gC fun x8 h=>?_
 refine sa ?_
 refine .nil (hK _ _ (cdh h rfl (fun fa h=>?_) (fun fa h=>?_)))
 refine rs hx fun K hK=>?_
 refine s1 (d:=.ag [dI .i64 (0:Int),dI .i64 (0:Int),dN]) (cV av) ?_
 refine s0 (dQ (ds':=[dI .i64 (0:Int),dI .i64 (0:Int),dN]) av) ?_
 refine sa ?_
 refine .nil (hK _ _ (AW.ret ?_))
 cases h
 exact⟨_,ey (es:=[dI .i64 (0:Int),dI .i64 (0:Int),dN]) rfl av rfl rfl (ltb rfl) (leb rfl) rfl (bR rfl (rfl)),qq.of_wk2 (by rw[hx];exact bg rfl) (wkN h0 [] (wG rfl (kH (wc (gM _) (wc (gM _) (wc (th rfl) wcn)))) (wR rfl wTn)) (vR rfl (vR rfl wVn)) wLn)⟩
 refine AW.skip (rs hx fun K hK=>?_)
 refine s1 (d:=.ag [dI .i64 ct,dI .i64 bW,dO 4 aj aG]) (bP av) ?_
 refine s0 (dQ (ds':=[dI .i64 ct,dI .i64 bW,dO 4 aj aG]) av) ?_
 refine sa ?_
 refine .nil (hK _ _ (AW.ret ?_))
 cases h
 exact⟨_,ey (es:=[dI .i64 ct,dI .i64 bW,dO 4 aj aG]) rfl av rfl rfl (ltb rfl) (leb rfl) rfl (bR rfl (rfl)),qq.of_wk2 (by rw[hx];exact bg rfl) (wkN h0 [] (wG rfl (kH (wc (gM _) (wc (gM _) (wc (HW _) wcn)))) (wR rfl wTn)) (vR rfl (vR rfl wVn)) wLn)⟩
def fK(om:cD×Int):Int→Option (Int⊕((aB×Int)⊕Unit)):=fun lQ=>cnd (decide (lQ<((om.1.vl).length:Int))) (gd (0≤lQ∧lQ<((om.1.vl).length:Int)) (cnd (decide ((((om.1.vl)[(lQ).toNat]!).vcol)≠lQ)) (some (.inr (.inl ((⟨(0:Int),(0:Int),([]:List ak)⟩:aB),(70:Int))))) (some (.inl (i64.wrap (lQ+(1:Int))))))) (some (.inr (.inr ())))
def jq(gc:aB):Option (aB×Int):=bnd (S:=Bool) (bnd (bO [gc]) fun x1=>cnd (!x1) (some (true)) (some (decide (gc.vR≠gc.vC)))) fun bM=>cnd bM (some ((⟨(0:Int),(0:Int),([]:List ak)⟩:aB),(1:Int))) (bnd (db gc.vR) fun x6=>bnd (im gc x6) fun x8=>cnd (decide (x8.2≠(0:Int))) (some ((⟨(0:Int),(0:Int),([]:List ak)⟩:aB),x8.2)) (bnd (eu x8.1) fun om=>cnd (decide (om.2≠(0:Int))) (some ((⟨(0:Int),(0:Int),([]:List ak)⟩:aB),om.2)) (bnd (a7 (fK om) (0:Int)) fun y18=>match y18 with| .inl r=>some r| .inr ()=>bnd (gN gc.vR gc.vR om.1 gc) fun Dt=>some (Dt.1,Dt.2))))
theorem xk {gc:aB}{r:aB×Int}(h:jq gc=some r):aC prog 20 [dG aQ gc] (.tu [dG aQ r.1,dI .i64 r.2]):=by
 refine bQ (rs:=[.cell 2 24,.tmp 3]) (fun cx hx h0=>?_) func20
 unfold jq at h
 refine rs hx fun K hK=>?_
 refine s1 (d:=.pt 0 0) iX ?_
 refine s1 (d:=.pt 1 0) (b9 av) ?_
 refine sa ?_
 refine .nil (hK _ _ ?_)
 iterate 2 refine AW.seq ?_
 obtain⟨bM,hy,h⟩:=ah h
 refine jn ((PE cx .normal (fun bM=>[(1,.pt 0 0),(2,.pt 1 0),(19,dB bM)]) fun bM=>⟨[(0,[dI .i64 gc.vR,dI .i64 gc.vC,dL aj gc.vV]),(1,[dI .i64 (0:Int),dI .i64 (0:Int),dN])],[],2⟩) bM) ?_ ?_
 replace h:=hy
 refine rq hx fun K hK=>?_
 refine s1 (d:=dG aQ gc) (bP av) ?_
 refine s1 (d:=dO 2 aQ [gc]) (iW pQ av) ?_
 refine scb h eL fun x1 h=>?_
 iterate 2 refine sa ?_
 rcases aX (!x1) with bo|bo
 replace h:=aZ bo h
 iterate 5 refine aH rfl rfl bo ?_
 refine s1 (al bo) ?_
 refine .nil (hK _ _ ?_)
 cases h
 exact pe0 h0 [0,1]
 replace h:=a3 bo h
 refine ga bo ?_
 refine g1 bo (ba aY) ?_
 refine ga bo ?_
 refine g1 bo (ba aY) ?_
 refine ga bo ?_
 refine s1 (au bo) ?_
 refine .nil (hK _ _ ?_)
 cases h
 exact pe0 h0 [0,1]
 rintro ex tm' hp' ⟨rfl,hw⟩
 refine AW.weak hw (cdh h rfl (fun oT h=>?_) (fun oT h=>?_))
 refine rs hx fun K hK=>?_
 refine s1 (d:=.ag [dI .i64 (0:Int),dI .i64 (0:Int),dN]) (cV av) ?_
 refine s0 (dQ (ds':=[dI .i64 (0:Int),dI .i64 (0:Int),dN]) av) ?_
 refine sa ?_
 refine .nil (hK _ _ (AW.ret ?_))
 cases h
 exact fG.mk2 (ey (es:=[dI .i64 (0:Int),dI .i64 (0:Int),dN]) rfl av rfl rfl (ltb rfl) (leb rfl) rfl (bR rfl (.inr ⟨_,_,(kH (wc (gM _) (wc (gM _) (wc (th rfl) wcn)))),(an _),⟨rfl,rfl⟩,rfl⟩)))
 refine AW.skip (rsd [43,51] hx fun K hK=>?_)
 refine s1 (d:=dG aQ gc) (bP av) ?_
 refine sa ?_
 refine s1 (ba aY) ?_
 refine cqb h iq fun x6 h=>?_
 refine cqb h sC fun x8 h=>?_
 iterate 3 refine sa ?_
 refine s1 (d:=.pt 2 0) (b9 av) ?_
 refine s0 (dQ (ds':=[dI .i64 x8.1.vR,dI .i64 x8.1.vC,dL aj x8.1.vV]) av) ?_
 refine sa ?_
 refine .nil (hK _ _ (AW.seq (ra hx ?_)))
 refine cdh h rfl (fun fa h=>?_) (fun fa h=>?_)
 refine rs hx fun K hK=>?_
 refine s1 (d:=.ag [dI .i64 (0:Int),dI .i64 (0:Int),dN]) (cV av) ?_
 refine sa ?_
 refine s0 (dQ (ds':=[dI .i64 (0:Int),dI .i64 (0:Int),dN]) av) ?_
 refine sa ?_
 refine .nil (hK _ _ (AW.ret ?_))
 cases h
 exact fG.mk2 (ey (es:=[dI .i64 (0:Int),dI .i64 (0:Int),dN]) rfl av rfl rfl (ltb rfl) (leb rfl) rfl (bR rfl (.inr ⟨_,_,(kH (wc (gM _) (wc (gM _) (wc (th rfl) wcn)))),(an _),⟨rfl,rfl⟩,rfl⟩)))
 refine AW.skip (rs hx fun K hK=>?_)
 refine s1 (d:=dG aQ x8.1) (bP av) ?_
 refine scb h jU fun om h=>?_
 iterate 3 refine sa ?_
 refine s1 (d:=.pt 3 0) (b9 i6) ?_
 refine s0 (dQ (ds':=[dI .i64 om.1.vm.vR,dI .i64 om.1.vm.vC,dL aj om.1.vm.vV,dL bh om.1.vl]) i6) ?_
 refine sa ?_
 refine .nil (hK _ _ (AW.seq (ra hx ?_)))
 refine cdh h rfl (fun nZ h=>?_) (fun nZ h=>?_)
 refine rs hx fun K hK=>?_
 refine s1 (d:=.ag [dI .i64 (0:Int),dI .i64 (0:Int),dN]) (cV av) ?_
 refine sa ?_
 refine s0 (dQ (ds':=[dI .i64 (0:Int),dI .i64 (0:Int),dN]) av) ?_
 refine sa ?_
 refine .nil (hK _ _ (AW.ret ?_))
 cases h
 exact fG.mk2 (ey (es:=[dI .i64 (0:Int),dI .i64 (0:Int),dN]) rfl av rfl rfl (ltb rfl) (leb rfl) rfl (bR rfl (.inr ⟨_,_,(kH (wc (gM _) (wc (gM _) (wc (th rfl) wcn)))),(an _),⟨rfl,rfl⟩,rfl⟩)))
 refine AW.skip (AW.seq (rs hx fun K hK=>?_))
 refine sa ?_
 refine s1 (ba qz) ?_
 iterate 2 refine sa ?_
 refine .nil (hK _ _ (AW.block ?_))
 obtain⟨y,hy,h⟩:=ah h
 refine lp (S:=Int) (X:=(aB×Int)⊕Unit) (fun lQ=>[(1,.pt 0 0),(2,.pt 1 0),(6,.pt 2 0),(43,dL bh om.1.vl),(44,dI .i64 ((om.1.vl).length:Int)),(45,dI .i64 lQ)]) (fun lQ=>⟨[(0,[dI .i64 gc.vR,dI .i64 gc.vC,dL aj gc.vV]),(1,[dI .i64 (0:Int),dI .i64 (0:Int),dN]),(2,[dI .i64 om.1.vm.vR,dI .i64 om.1.vm.vC,dL aj om.1.vm.vV,dL bh om.1.vl])],[],3⟩) (PS (PR [.cell 2 24,.tmp 3] fun r=>.tu [dG aQ r.1,dI .i64 r.2]) (PE cx (.exit 0) (fun ()=>[(1,.pt 0 0),(2,.pt 1 0),(6,.pt 2 0)]) fun ()=>⟨[(0,[dI .i64 gc.vR,dI .i64 gc.vC,dL aj gc.vV]),(1,[dI .i64 (0:Int),dI .i64 (0:Int),dN]),(2,[dI .i64 om.1.vm.vR,dI .i64 om.1.vm.vC,dL aj om.1.vm.vV,dL bh om.1.vl])],[],3⟩)) hy ?_ ?_ ?_
 exact wk h0 [0,1,3] (wR rfl (wR rfl (wR rfl (wR rfl (wR rfl (wR rfl wTn)))))) (vR rfl (vR rfl (vR rfl wVn))) wLn
 clear hy h
 rintro lQ y h
 dsimp only[fK] at h
 refine ra hx ?_
 refine AW.seq (cdh h rfl (fun iR h=>?_) (fun iR h=>?_))
 refine AW.skip (AW.seq (AW.block (rs hx fun K hK=>?_)))
 refine sa ?_
 obtain⟨Ii,h⟩:=aD h
 have zy:(lQ).toNat<(om.1.vl).length:=by omega
 refine s1 (gk Ii qz gq) ?_
 refine s1 (d:=dG bh ((om.1.vl)[(lQ).toNat]!)) (pm (c:=bh) (l:=om.1.vl) (n:=(lQ).toNat) (o:=0) gq zy (kC _ _ rfl)) ?_
 refine s1 (bp (F:=bh.f (⟨(0:Int),co,false⟩:lL)) gq) ?_
 refine sa ?_
 refine s0 (aO (b':=(om.1.vl)[(lQ).toNat]!) (ao.id _ _) gq) ?_
 refine .nil (hK _ _ (rs hx fun K hK=>?_))
 refine sa ?_
 refine s1 (a4 (uE ((om.1.vl)[(lQ).toNat]!)) aY) ?_
 iterate 2 refine sa ?_
 refine .nil (hK _ _ (cdh h rfl (fun tr h=>?_) (fun tr h=>?_)))
 refine rs hx fun K hK=>?_
 refine s1 (d:=.ag [dI .i64 (0:Int),dI .i64 (0:Int),dN]) (cV av) ?_
 refine s0 (dQ (ds':=[dI .i64 (0:Int),dI .i64 (0:Int),dN]) av) ?_
 refine sa ?_
 refine .nil (hK _ _ (AW.ret ?_))
 cases h
 refine PS.r ⟨by nofun,PS.l (PR.i ?_)⟩
 exact fG.mk2 (ey (es:=[dI .i64 (0:Int),dI .i64 (0:Int),dN]) rfl av rfl rfl (ltb rfl) (leb rfl) rfl (bR rfl (.inr ⟨_,_,(kH (wc (gM _) (wc (gM _) (wc (th rfl) wcn)))),(an _),⟨rfl,rfl⟩,rfl⟩)))
 refine AW.skip (rb hx ?_)
 cases h
 exact PS.l (pe0 h0 [0,1,2])
 refine AW.exit ?_
 try dsimp only
 try simp only[aN,reduceIte,Nat.reduceEqDiff,reduceCtorEq]
 cases h
 exact PS.r ⟨by nofun,PS.r (PE.i (wk h0 [0,1,2] (wR rfl (wR rfl (wR rfl wTn))) (vR rfl (vR rfl (vR rfl wVn))) wLn))⟩
 rcases y with r|⟨⟩
 rintro ex tm' hp' ⟨rfl,hw⟩
 cases h
 exact hw
 rintro ex tm' hp' ⟨rfl,hw⟩
 try dsimp only
 try simp only[aN,reduceIte,Nat.reduceEqDiff,reduceCtorEq]
 refine AW.weak hw (rs hx fun K hK=>?_)
 refine sa ?_
 refine s1 (ba aY) ?_
 refine sa ?_
 refine s1 (ba aY) ?_
 refine s1 uQ ?_
 obtain⟨Dt,Nk,h⟩:=ah h
 refine s1 (w6 [2,0] rfl (xg Nk) (fA (an _) (fA (an _) (fA (an _) fAn))) (vR rfl (vR rfl wVn)) wLn) ?_
 iterate 2 refine sa ?_
 refine s0 (dQ (ds':=[dI .i64 Dt.1.vR,dI .i64 Dt.1.vC,dL aj Dt.1.vV]) av) ?_
 refine sa ?_
 refine .nil (hK _ _ (AW.ret ?_))
 cases h
 exact fG.mk2 (ey (es:=(aQ.f Dt.1).map .e) rfl av rfl rfl (ltb rfl) (leb rfl) rfl (bR rfl (.inr ⟨_,_,(an _),(an _),⟨rfl,rfl⟩,rfl⟩)))
def iL(x4:cD×Int)(x7:List Int)(lw:Int)(ul:List ak):Int×(List ak)→Option ((Int×(List ak))⊕((List ak))):=fun (nD,uP)=>cnd (decide (nD<((x7).length:Int))) (bnd (S:=(List ak)) (gd (0≤nD∧nD<((x7).length:Int)) (cnd (decide (((x7)[(nD).toNat]!)<lw)) (bnd (ce x4.1.vm nD lw) fun LP=>bnd (ln LP) fun w9=>gd (0≤(x7)[(nD).toNat]!∧(x7)[(nD).toNat]! <(((ul).length:Nat):Int)∧(x7)[(nD).toNat]! <((uP).length:Int)) (some ((uP).set (((x7)[(nD).toNat]!).toNat) w9))) (some (uP)))) fun Di=>some (.inl (i64.wrap (nD+(1:Int)),Di))) (some (.inr uP))
def iM(gc:aB)(x4:cD×Int)(x7:List Int):(List (List ak))×Int→Option (((List (List ak))×Int)⊕((List (List ak)))):=fun (gj,lw)=>cnd (decide (lw<gc.vC)) (bnd (S:=(List (List ak))) (bnd (cK x7 lw) fun mU=>cnd mU (some (gj)) (bnd (eA (0:Int)) fun qv=>bnd (gf [qv] gc.vC) fun ul=>bnd (eA (1:Int)) fun po=>gd (0≤lw∧lw<(((ul).length:Nat):Int)∧lw<((ul).length:Int)) (bnd (a7 (iL x4 x7 lw ul) ((0:Int),(ul).set ((lw).toNat) po)) fun pE=>gd ((ul).length=(pE).length) (gd ((gj++[pE]).length*24≤140737488355328) (some (gj++[pE])))))) fun BH=>some (.inl (BH,i64.wrap (lw+(1:Int))))) (some (.inr gj))
def kg(gc:aB):Option ((List (List ak))×Int):=bnd (bO [gc]) fun x1=>cnd (!x1) (some (([]:List (List ak)),(1:Int))) (bnd (eu gc) fun x4=>cnd (decide (x4.2≠(0:Int))) (some (([]:List (List ak)),x4.2)) (bnd (cc x4.1) fun x7=>bnd (a7 (iM gc x4 x7) (([]:List (List ak)),(0:Int))) fun ub=>some (ub,(0:Int))))
theorem Ce {gc:aB}{r:(List (List ak))×Int}(h:kg gc=some r):aC prog 21 [dG aQ gc] (.tu [dL (cL aj) r.1,dI .i64 r.2]):=by
 refine bQ (rs:=[.tmp 2,.tmp 3]) (fun cx hx h0=>?_) func21
 unfold kg at h
 refine rs hx fun K hK=>?_
 refine s1 (d:=.pt 0 0) iX ?_
 refine s1 (d:=dO 1 (cL aj) ([]:List (List ak))) (ek l5 aP) ?_
 refine sa ?_
 refine .nil (hK _ _ (AW.seq (rs hx fun K hK=>?_)))
 refine s1 (d:=dG aQ gc) (bP av) ?_
 refine s1 (d:=dO 2 aQ [gc]) (iW pQ av) ?_
 refine scb h eL fun x1 h=>?_
 refine sa ?_
 refine .nil (hK _ _ (cdh h rfl (fun bo h=>?_) (fun bo h=>?_)))
 refine rs hx fun K hK=>?_
 refine s1 (d:=dO 3 (cL aj) ([]:List (List ak))) (ek l5 aP) ?_
 refine sa ?_
 refine .nil (hK _ _ (AW.ret ?_))
 cases h
 exact fG.mk2 (bR rfl (bR rfl (.inr ⟨_,_,(qC _),(an _),⟨rfl,rfl⟩,rfl⟩)))
 refine AW.skip (rs hx fun K hK=>?_)
 refine s1 (d:=dG aQ gc) (bP av) ?_
 refine scb h jU fun x4 h=>?_
 iterate 3 refine sa ?_
 refine s1 (d:=.pt 3 0) (b9 i6) ?_
 refine s0 (dQ (ds':=[dI .i64 x4.1.vm.vR,dI .i64 x4.1.vm.vC,dL aj x4.1.vm.vV,dL bh x4.1.vl]) i6) ?_
 refine sa ?_
 refine .nil (hK _ _ (AW.seq (ra hx ?_)))
 refine cdh h rfl (fun eW h=>?_) (fun eW h=>?_)
 refine rs hx fun K hK=>?_
 refine sa ?_
 refine s1 (d:=dO 4 (cL aj) ([]:List (List ak))) (ek l5 aP) ?_
 refine sa ?_
 refine .nil (hK _ _ (AW.ret ?_))
 cases h
 exact fG.mk2 (bR rfl (bR rfl (.inr ⟨_,_,(qC _),(an _),⟨rfl,rfl⟩,rfl⟩)))
 refine AW.skip (rs hx fun K hK=>?_)
 refine s1 (d:=dG pJ x4.1) (bP i6) ?_
 obtain⟨x7,zu,h⟩:=ah h
 refine s1 (E2 rfl (ko zu) (by simp only[cp,dh,jy,fO,dX,dW];exact bc _ _) (lA (an _) lAn)) ?_
 refine sa ?_
 refine .nil (hK _ _ (rs hx fun K hK=>?_))
 refine s1 (d:=dO 5 (cL aj) ([]:List (List ak))) (ek l5 aP) ?_
 refine .nil (hK _ _ (AW.seq (rs hx fun K hK=>?_)))
 refine sa ?_
 refine s1 (ba aY) ?_
 refine sa ?_
 refine .nil (hK _ _ (AW.block ?_))
 obtain⟨ub,hy,h⟩:=ah h
 refine lp (S:=(List (List ak))×Int) (X:=(List (List ak))) (fun (gj,lw)=>[(1,.pt 0 0),(4,.pt 1 0),(6,dO 2 (cI .i64) x7),(7,dO 3 (cL aj) gj),(27,dI .i64 gc.vC),(28,dI .i64 lw)]) (fun (gj,lw)=>⟨[(0,[dI .i64 gc.vR,dI .i64 gc.vC,dL aj gc.vV]),(1,[dI .i64 x4.1.vm.vR,dI .i64 x4.1.vm.vC,dL aj x4.1.vm.vV,dL bh x4.1.vl])],[(2,(x7).length,1,3),(3,(gj).length,1,22)],4⟩) (PE cx (.exit 0) (fun ub=>[(7,dO 0 (cL aj) ub)]) fun ub=>⟨[],[(0,(ub).length,1,22)],1⟩) hy ?_ ?_ ?_
 exact wk h0 [0,3,4,5] (wR rfl (wR rfl (wR rfl (wR rfl (wR rfl (wR rfl wTn)))))) (vR rfl (vR rfl wVn)) (wL rfl rfl (wL rfl rfl wLn))
 clear hy h
 rintro⟨gj,lw⟩ y h
 dsimp only[iM] at h
 refine ra hx ?_
 refine AW.seq (cdh h rfl (fun wz h=>?_) (fun wz h=>?_))
 refine AW.skip (AW.seq ?_)
 obtain⟨BH,hy,h⟩:=ah h
 refine jn ((PE cx .normal (fun BH=>[(1,.pt 0 0),(4,.pt 1 0),(6,dO 2 (cI .i64) x7),(7,dO 3 (cL aj) BH),(27,dI .i64 gc.vC),(28,dI .i64 lw)]) fun BH=>⟨[(0,[dI .i64 gc.vR,dI .i64 gc.vC,dL aj gc.vV]),(1,[dI .i64 x4.1.vm.vR,dI .i64 x4.1.vm.vC,dL aj x4.1.vm.vV,dL bh x4.1.vl])],[(2,(x7).length,1,3),(3,(BH).length,1,22)],4⟩) BH) ?_ ?_
 replace h:=hy
 refine AW.block (ra hx ?_)
 refine AW.seq (rs hx fun K hK=>?_)
 iterate 2 refine sa ?_
 refine scb h lN fun mU h=>?_
 refine .nil (hK _ _ (cdh h rfl (fun nd h=>?_) (fun nd h=>?_)))
 refine AW.exit ?_
 try dsimp only
 try simp only[aN,reduceIte,Nat.reduceEqDiff,reduceCtorEq]
 cases h
 exact pe0 h0 [0,1,2,3]
 refine AW.skip (rsd [60] hx fun K hK=>?_)
 refine cqb h iP fun qv h=>?_
 refine s1 (kK ([qv]:List ak) aj aP aA) ?_
 refine sa ?_
 refine s1 (ba aY) ?_
 obtain⟨ul,hx16,h⟩:=ah h
 refine sC0 (d:=.ow 5 0 36 ((ul).length)) (hp':=⟨[(5,dC ((cW aj).f ul)),(0,[dI .i64 gc.vR,dI .i64 gc.vC,dL aj gc.vV]),(1,[dI .i64 x4.1.vm.vR,dI .i64 x4.1.vm.vC,dL aj x4.1.vm.vV,dL bh x4.1.vl])],[(2,(x7).length,1,3),(3,(gj).length,1,22)],6⟩) (ug hx16) (ARs.cons (AR.le (qC _) rfl) (ARs.cons (AR.le (an _) rfl) ARs.nil)) (w7.l _ _) ?_
 refine sa ?_
 refine .nil (hK _ _ (rs hx fun K hK=>?_))
 iterate 2 refine sa ?_
 refine scb h iP fun po h=>?_
 obtain⟨hc19,h⟩:=aD h
 have hn20:(lw).toNat<(ul).length:=by omega
 refine s1 (w5 ⟨hc19.1,hc19.2.1⟩ aP aA) ?_
 refine s0 (aO (b':=po) (ao.seqW aj ul ((lw).toNat) hn20) aA) ?_
 refine .nil (hK _ _ (AW.seq (ra hx ?_)))
 refine AW.block ?_
 obtain⟨pE,hy,h⟩:=ah h
 refine lp (S:=Int×(List ak)) (X:=(List ak)) (fun (nD,uP)=>[(1,.pt 0 0),(4,.pt 1 0),(6,dO 2 (cI .i64) x7),(7,dO 3 (cL aj) gj),(8,dI .i64 lw),(9,.ow 4 0 36 ((ul).length)),(27,dI .i64 gc.vC),(28,dI .i64 lw),(43,dO 2 (cI .i64) x7),(44,dI .i64 ((x7).length:Int)),(45,dI .i64 nD)]) (fun (nD,uP)=>⟨[(0,[dI .i64 gc.vR,dI .i64 gc.vC,dL aj gc.vV]),(1,[dI .i64 x4.1.vm.vR,dI .i64 x4.1.vm.vC,dL aj x4.1.vm.vV,dL bh x4.1.vl]),(4,dC ((cW aj).f uP))],[(2,(x7).length,1,3),(3,(gj).length,1,22)],5⟩) (PE cx (.exit 2) (fun pE=>[(1,.pt 0 0),(4,.pt 1 0),(6,dO 2 (cI .i64) x7),(7,dO 3 (cL aj) gj),(9,.ow 4 0 36 ((ul).length)),(27,dI .i64 gc.vC),(28,dI .i64 lw)]) fun pE=>⟨[(0,[dI .i64 gc.vR,dI .i64 gc.vC,dL aj gc.vV]),(1,[dI .i64 x4.1.vm.vR,dI .i64 x4.1.vm.vC,dL aj x4.1.vm.vV,dL bh x4.1.vl]),(4,dC ((cW aj).f pE))],[(2,(x7).length,1,3),(3,(gj).length,1,22)],5⟩) hy ?_ ?_ ?_
 exact wk h0 [0,1,2,3,5] (wR rfl (wR rfl (wR rfl (wR rfl (wR rfl (wR rfl (wR rfl (wR rfl (wR rfl (wR rfl (wR rfl wTn))))))))))) (vR rfl (vR rfl (vC rfl wVn))) (wL rfl rfl (wL rfl rfl wLn))
 clear hy h
 rintro⟨nD,uP⟩ y h
 dsimp only[iL] at h
 refine ra hx ?_
 refine AW.seq (cdh h rfl (fun Ef h=>?_) (fun Ef h=>?_))
 refine AW.skip (AW.seq ?_)
 obtain⟨Di,hy,h⟩:=ah h
 refine jn ((PE cx .normal (fun Di=>[(1,.pt 0 0),(4,.pt 1 0),(6,dO 2 (cI .i64) x7),(7,dO 3 (cL aj) gj),(8,dI .i64 lw),(9,.ow 4 0 36 ((ul).length)),(27,dI .i64 gc.vC),(28,dI .i64 lw),(43,dO 2 (cI .i64) x7),(44,dI .i64 ((x7).length:Int)),(45,dI .i64 nD)]) fun Di=>⟨[(0,[dI .i64 gc.vR,dI .i64 gc.vC,dL aj gc.vV]),(1,[dI .i64 x4.1.vm.vR,dI .i64 x4.1.vm.vC,dL aj x4.1.vm.vV,dL bh x4.1.vl]),(4,dC ((cW aj).f Di))],[(2,(x7).length,1,3),(3,(gj).length,1,22)],5⟩) Di) ?_ ?_
 replace h:=hy
 refine AW.block (rs hx fun K hK=>?_)
 refine sa ?_
 obtain⟨Eb,h⟩:=aD h
 have hn23:(nD).toNat<(x7).length:=by omega
 refine s1 (gk Eb bV aY) ?_
 refine s1 (oL (c:=(cI .i64)) (l:=x7) (n:=(nD).toNat) (o:=0) aY hn23) ?_
 iterate 2 refine sa ?_
 refine .nil (hK _ _ (ra hx ?_))
 refine cdh h rfl (fun xZ h=>?_) (fun xZ h=>?_)
 refine rq hx fun K hK=>?_
 iterate 3 refine sa ?_
 refine s1 (d:=dG aQ x4.1.vm) (bP av) ?_
 iterate 2 refine sa ?_
 refine scb h eD fun LP h=>?_
 refine scb h yJ fun w9 h=>?_
 obtain⟨hc29,h⟩:=aD h
 have hn30:((x7)[(nD).toNat]!).toNat<(uP).length:=by omega
 refine s1 (w5 ⟨hc29.1,hc29.2.1⟩ aP aA) ?_
 refine s0 (aO (b':=w9) (ao.seqW aj uP (((x7)[(nD).toNat]!).toNat) hn30) aA) ?_
 refine .nil (hK _ _ ?_)
 cases h
 exact pe0 h0 [0,1,2,3,4]
 refine AW.skip ?_
 cases h
 exact pe0 h0 [0,1,2,3,4]
 rintro ex tm' hp' ⟨rfl,hw⟩
 refine AW.weak hw (rb hx ?_)
 cases h
 exact PS.l (pe0 h0 [0,1,2,3,4])
 refine AW.exit ?_
 try dsimp only
 try simp only[aN,reduceIte,Nat.reduceEqDiff,reduceCtorEq]
 cases h
 exact PS.r ⟨by nofun,PE.i (wk h0 [0,1,2,3,4] (wR rfl (wR rfl (wR rfl (wR rfl (wR rfl (wR rfl (wR rfl wTn))))))) (vR rfl (vR rfl (vC rfl wVn))) (wL rfl rfl (wL rfl rfl wLn)))⟩
 rintro ex tm' hp' ⟨rfl,hw⟩
 try dsimp only
 try simp only[aN,reduceIte,Nat.reduceEqDiff,reduceCtorEq]
 refine AW.weak hw (rq hx fun K hK=>?_)
 iterate 2 refine sa ?_
 obtain⟨hc33,h⟩:=aD h
 refine fzO aj (n:=(ul).length) 4 [9,64] hc33 ?_ (all2 rfl (all1 rfl))
 refine s1 (d:=dO 5 (cL aj) [pE]) (iW l5 aP) ?_
 obtain⟨hc34,h⟩:=aD h
 refine s1 (d:=dO 3 (cL aj) (gj++[pE])) (iT l5 aP hc34) ?_
 refine sa ?_
 refine .nil (hK _ _ ?_)
 cases h
 exact pe0 h0 [0,1,2,3]
 rintro ex tm' hp' ⟨rfl,hw⟩
 refine AW.weak hw (rb hx ?_)
 cases h
 exact PS.l (pe0 h0 [0,1,2,3])
 refine AW.exit ?_
 try dsimp only
 try simp only[aN,reduceIte,Nat.reduceEqDiff,reduceCtorEq]
 cases h
 exact PS.r ⟨by nofun,PE.i (wk h0 [3] (wR rfl wTn) wVn (wL rfl rfl wLn))⟩
 rintro ex tm' hp' ⟨rfl,hw⟩
 try dsimp only
 try simp only[aN,reduceIte,Nat.reduceEqDiff,reduceCtorEq]
 refine AW.weak hw (ra hx ?_)
 refine AW.ret ?_
 cases h
 exact fG.mk2 (bR rfl (bR rfl (.inr ⟨_,_,(qC _),(an _),⟨rfl,rfl⟩,rfl⟩)))
def fg(pb:Int)(kE:Int)(bJ:aB):Option ak:=bnd (ce bJ pb kE) fun x1=>some x1
theorem nM {pb:Int}{kE:Int}{bJ:aB}{r:ak}(h:fg pb kE bJ=some r):HC prog 80 [dI .i64 pb,dI .i64 kE,.pt 0 0] ⟨[(0,[dI .i64 bJ.vR,dI .i64 bJ.vC,dL aj bJ.vV])],[],1⟩ (dG aj r) ⟨[(0,[dI .i64 bJ.vR,dI .i64 bJ.vC,dL aj bJ.vV])],[],1⟩:=by
 refine HC.ofX (rs:=[.cell 5 34]) tok func80 rfl rfl (bg rfl) rfl (fun cx hx h1=>?_)
 have h0:cx.hp0.next=1:=by rw[h1]
 simp only[ee,Nat.reduceAdd,br]
 unfold fg at h
 refine rs hx fun K hK=>?_
 refine s1 (bp (F:=aj.f co) aA) ?_
 refine .nil (hK _ _ (rs hx fun K hK=>?_))
 refine s1 (d:=dG aQ bJ) (bP av) ?_
 iterate 2 refine sa ?_
 refine scb h eD fun x1 h=>?_
 refine s0 (aO (b':=x1) (ao.id _ _) aA) ?_
 refine .nil (hK _ _ (AW.ret ?_))
 cases h
 exact⟨_,pR rfl aA rfl rfl (ltb rfl) (aj.h _) (rfl),qq.of_wk (by rw[hx];exact bg rfl) (wkN h0 [] (wG rfl (an _) wTn) (vR rfl wVn) wLn)⟩
def iG(bW:Int)(bJ:aB)(aK:Int):Int×(List ak)→Option ((Int×(List ak))⊕((List ak))):=fun (bU,bf)=>cnd (decide (bU<bW)) (bnd (fg aK bU bJ) fun x3=>gd ((bf++[x3]).length*136≤140737488355328) (some (.inl (i64.wrap (bU+(1:Int)),bf++[x3])))) (some (.inr bf))
def iZ(ct:Int)(bW:Int)(bJ:aB):Int×(List ak)→Option ((Int×(List ak))⊕((List ak))):=fun (aK,aS)=>cnd (decide (aK<ct)) (bnd (a7 (iG bW bJ aK) ((0:Int),aS)) fun bD=>some (.inl (i64.wrap (aK+(1:Int)),bD))) (some (.inr aS))
def jl(ct:Int)(bW:Int)(bJ:aB):Option (aB×Int):=bnd (a7 (iZ ct bW bJ) ((0:Int),([]:List ak))) fun aG=>bnd (cF aG) fun x8=>cnd (!x8) (some ((⟨(0:Int),(0:Int),([]:List ak)⟩:aB),(30:Int))) (some ((⟨ct,bW,aG⟩:aB),(0:Int)))
theorem xf {ct:Int}{bW:Int}{bJ:aB}{r:aB×Int}(h:jl ct bW bJ=some r):HC prog 73 [dI .i64 ct,dI .i64 bW,.fn 80 [0]] ⟨[(0,[dI .i64 bJ.vR,dI .i64 bJ.vC,dL aj bJ.vV])],[],1⟩ (.tu [dG aQ r.1,dI .i64 r.2]) ⟨[(0,[dI .i64 bJ.vR,dI .i64 bJ.vC,dL aj bJ.vV])],[],1⟩:=by
 refine HC.ofX (rs:=[.cell 6 24,.tmp 7]) tok func73 rfl rfl (bg rfl) rfl (fun cx hx h1=>?_)
 have h0:cx.hp0.next=1:=by rw[h1]
 simp only[ee,Nat.reduceAdd,br]
 unfold jl at h
 refine rs hx fun K hK=>?_
 refine s1 (d:=.pt 1 0) (b9 av) ?_
 refine sa ?_
 refine .nil (hK _ _ (rs hx fun K hK=>?_))
 iterate 2 refine sa ?_
 refine s1 (d:=.ag [dI .i64 ct,dI .i64 bW,dN]) (cV av) ?_
 refine s1 (d:=.pt 2 0) (b9 av) ?_
 refine s0 (dQ (ds':=[dI .i64 ct,dI .i64 bW,dN]) av) ?_
 refine .nil (hK _ _ (AW.seq (ra hx ?_)))
 refine AW.block ?_
 obtain⟨aG,hy,h⟩:=ah h
 refine lp (S:=Int×(List ak)) (X:=(List ak)) (fun (aK,aS)=>[(1,dI .i64 bW),(2,.fn 80 [0]),(6,.pt 1 0),(8,.pt 2 0),(14,dI .i64 ct),(15,dI .i64 aK)]) (fun (aK,aS)=>⟨[(0,[dI .i64 bJ.vR,dI .i64 bJ.vC,dL aj bJ.vV]),(1,[dI .i64 (0:Int),dI .i64 (0:Int),dN]),(2,[dI .i64 ct,dI .i64 bW,dO 3 aj aS])],[(3,(aS).length,36,34)],4⟩) (PE cx (.exit 0) (fun aG=>[(6,.pt 1 0),(8,.pt 2 0)]) fun aG=>⟨[(0,[dI .i64 bJ.vR,dI .i64 bJ.vC,dL aj bJ.vV]),(1,[dI .i64 (0:Int),dI .i64 (0:Int),dN]),(2,[dI .i64 ct,dI .i64 bW,dO 3 aj aG])],[(3,(aG).length,36,34)],4⟩) hy ?_ ?_ ?_
 exact Wk.trans (Wk.nilOwn (ds':=[dI .i64 ct,dI .i64 bW,dO 3 aj ([]:List ak)]) 2 2 34 36) (wkN h0 [1,2,3] (wR rfl (wR rfl (wR rfl (wR rfl (wR rfl (wR rfl wTn)))))) (vR rfl (vR rfl (vR rfl wVn))) (wL rfl rfl wLn))
 clear hy h
 rintro⟨aK,aS⟩ y h
 dsimp only[iZ] at h
 refine ra hx ?_
 refine AW.seq (cdh h rfl (fun cH h=>?_) (fun cH h=>?_))
 refine AW.skip (AW.seq (AW.block ?_))
 iterate 2 refine ra hx ?_
 refine AW.block ?_
 obtain⟨bD,hy,h⟩:=ah h
 refine lp (S:=Int×(List ak)) (X:=(List ak)) (fun (bU,bf)=>[(1,dI .i64 bW),(2,.fn 80 [0]),(6,.pt 1 0),(8,.pt 2 0),(9,dI .i64 aK),(14,dI .i64 ct),(15,dI .i64 aK),(18,dI .i64 bW),(19,dI .i64 bU)]) (fun (bU,bf)=>⟨[(0,[dI .i64 bJ.vR,dI .i64 bJ.vC,dL aj bJ.vV]),(1,[dI .i64 (0:Int),dI .i64 (0:Int),dN]),(2,[dI .i64 ct,dI .i64 bW,dO 3 aj bf])],[(3,(bf).length,36,34)],4⟩) (PE cx (.exit 2) (fun bD=>[(1,dI .i64 bW),(2,.fn 80 [0]),(6,.pt 1 0),(8,.pt 2 0),(14,dI .i64 ct),(15,dI .i64 aK)]) fun bD=>⟨[(0,[dI .i64 bJ.vR,dI .i64 bJ.vC,dL aj bJ.vV]),(1,[dI .i64 (0:Int),dI .i64 (0:Int),dN]),(2,[dI .i64 ct,dI .i64 bW,dO 3 aj bD])],[(3,(bD).length,36,34)],4⟩) hy ?_ ?_ ?_
 exact wkN h0 [1,2,3] (wR rfl (wR rfl (wR rfl (wR rfl (wR rfl (wR rfl (wR rfl (wR rfl (wR rfl wTn))))))))) (vR rfl (vR rfl (vR rfl wVn))) (wL rfl rfl wLn)
 clear hy h
 rintro⟨bU,bf⟩ y h
 dsimp only[iG] at h
 refine ra hx ?_
 refine AW.seq (cdh h rfl (fun ly h=>?_) (fun ly h=>?_))
 refine AW.skip (AW.seq (AW.block (ra hx ?_)))
 obtain⟨x3,xQ,h⟩:=ah h
 obtain⟨Ct,h⟩:=aD h
 refine jn (PE cx .normal (fun (_:Unit)=>[(1,dI .i64 bW),(2,.fn 80 [0]),(6,.pt 1 0),(8,.pt 2 0),(9,dI .i64 aK),(14,dI .i64 ct),(15,dI .i64 aK),(18,dI .i64 bW),(19,dI .i64 bU)]) (fun (_:Unit)=>⟨[(0,[dI .i64 bJ.vR,dI .i64 bJ.vC,dL aj bJ.vV]),(1,[dI .i64 (0:Int),dI .i64 (0:Int),dN]),(2,[dI .i64 ct,dI .i64 bW,dO 3 aj (bf++[x3])])],[(3,(bf++[x3]).length,36,34)],4⟩) ()) ?_ ?_
 refine dw (DW.split 1 5 (by decide) ?_ ?_)
 refine dwg [] [0,1,2,3,4,5,6,7,8,9] hx (by kernel_rfl) (by kernel_rfl) (by kernel_rfl) fun K hK=>?_
 dsimp only[d6,mT,m7,List.map]
 refine sa ?_
 refine s1 (ba aP) ?_
 iterate 3 refine sa ?_
 refine s1 (mj [0] rfl (nM xQ) (fA (an _) (fA (an _) (fA (an _) fAn))) (vR rfl wVn) wLn (rvE rvN) (qc _ _ _) (uB _ _)) ?_
 refine s1 (kK ([x3]:List ak) aj aP aA) ?_
 refine s1 (d:=dO 3 aj (bf++[x3])) (iT aP aA Ct) ?_
 refine sa ?_
 refine s0 (dQ (ds':=[dI .i64 ct,dI .i64 bW,dO 3 aj (bf++[x3])]) aP) ?_
 exact .nil (hK _ _ (PE.i (wkN h0 [1,2,3] (wR rfl (wR rfl (wR rfl (wR rfl (wR rfl (wR rfl (wR rfl (wR rfl (wR rfl wTn))))))))) (vR rfl (vR rfl (vR rfl wVn))) (wL rfl rfl wLn))))
 refine dwg [] [0,2,3,4,5,1,6,7,8,9] hx (by kernel_rfl) (by kernel_rfl) (by kernel_rfl) fun K hK=>?_
 dsimp only[d6,mT,m7,List.map]
 iterate 4 refine sa ?_
 refine s1 (mj [0] rfl (nM xQ) (fA (an _) (fA (an _) (fA (an _) fAn))) (vR rfl wVn) wLn (rvE rvN) (qc _ _ _) (uB _ _)) ?_
 refine s1 (ba aP) ?_
 refine s1 (kK ([x3]:List ak) aj aP aA) ?_
 refine s1 (d:=dO 3 aj (bf++[x3])) (iT aP aA Ct) ?_
 refine sa ?_
 refine s0 (dQ (ds':=[dI .i64 ct,dI .i64 bW,dO 3 aj (bf++[x3])]) aP) ?_
 exact .nil (hK _ _ (PE.i (wkN h0 [1,2,3] (wR rfl (wR rfl (wR rfl (wR rfl (wR rfl (wR rfl (wR rfl (wR rfl (wR rfl wTn))))))))) (vR rfl (vR rfl (vR rfl wVn))) (wL rfl rfl wLn))))
 rintro ex tm' hp' ⟨rfl,hw⟩
 refine AW.weak hw (rb hx ?_)
 cases h
 exact PS.l (PE.i (wkN h0 [1,2,3] (wR rfl (wR rfl (wR rfl (wR rfl (wR rfl (wR rfl (wR rfl (wR rfl (wR rfl wTn))))))))) (vR rfl (vR rfl (vR rfl wVn))) (wL rfl rfl wLn)))
 refine AW.exit ?_
 try dsimp only
 try simp only[aN,reduceIte,Nat.reduceEqDiff,reduceCtorEq]
 cases h
 exact PS.r ⟨by nofun,PE.i (wkN h0 [1,2,3] (wR rfl (wR rfl (wR rfl (wR rfl (wR rfl (wR rfl wTn)))))) (vR rfl (vR rfl (vR rfl wVn))) (wL rfl rfl wLn))⟩
 rintro ex tm' hp' ⟨rfl,hw⟩
 try dsimp only
 try simp only[aN,reduceIte,Nat.reduceEqDiff,reduceCtorEq]
 refine AW.weak hw (rb hx ?_)
 cases h
 exact PS.l (PE.i (wkN h0 [1,2,3] (wR rfl (wR rfl (wR rfl (wR rfl (wR rfl (wR rfl wTn)))))) (vR rfl (vR rfl (vR rfl wVn))) (wL rfl rfl wLn)))
 refine AW.exit ?_
 try dsimp only
 try simp only[aN,reduceIte,Nat.reduceEqDiff,reduceCtorEq]
 cases h
 exact PS.r ⟨by nofun,PE.i (wkN h0 [1,2,3] (wR rfl (wR rfl wTn)) (vR rfl (vR rfl (vR rfl wVn))) (wL rfl rfl wLn))⟩
 rintro ex tm' hp' ⟨rfl,hw⟩
 try dsimp only
 try simp only[aN,reduceIte,Nat.reduceEqDiff,reduceCtorEq]
 refine AW.weak hw (AW.seq (rs hx fun K hK=>?_))
 refine sa ?_
 refine s1 (ba aP) ?_
 refine scb h gC fun x8 h=>?_
 refine sa ?_
 refine .nil (hK _ _ (cdh h rfl (fun fa h=>?_) (fun fa h=>?_)))
 refine rs hx fun K hK=>?_
 refine s1 (d:=.ag [dI .i64 (0:Int),dI .i64 (0:Int),dN]) (cV av) ?_
 refine s0 (dQ (ds':=[dI .i64 (0:Int),dI .i64 (0:Int),dN]) av) ?_
 refine sa ?_
 refine .nil (hK _ _ (AW.ret ?_))
 cases h
 exact⟨_,ey (es:=[dI .i64 (0:Int),dI .i64 (0:Int),dN]) rfl av rfl rfl (ltb rfl) (leb rfl) rfl (bR rfl (rfl)),qq.of_wk2 (by rw[hx];exact bg rfl) (wkN h0 [] (wG rfl (kH (wc (gM _) (wc (gM _) (wc (th rfl) wcn)))) (wR rfl wTn)) (vR rfl wVn) wLn)⟩
 refine AW.skip (rs hx fun K hK=>?_)
 refine s1 (d:=.ag [dI .i64 ct,dI .i64 bW,dO 3 aj aG]) (bP av) ?_
 refine s0 (dQ (ds':=[dI .i64 ct,dI .i64 bW,dO 3 aj aG]) av) ?_
 refine sa ?_
 refine .nil (hK _ _ (AW.ret ?_))
 cases h
 exact⟨_,ey (es:=[dI .i64 ct,dI .i64 bW,dO 3 aj aG]) rfl av rfl rfl (ltb rfl) (leb rfl) rfl (bR rfl (rfl)),qq.of_wk2 (by rw[hx];exact bg rfl) (wkN h0 [] (wG rfl (kH (wc (gM _) (wc (gM _) (wc (HW _) wcn)))) (wR rfl wTn)) (vR rfl wVn) wLn)⟩
def fe(gc:aB)(c6:Int):Int→Option (Int⊕((Bool×Int)⊕Unit)):=fun gj=>cnd (decide (gj<c6)) (bnd (ce gc c6 gj) fun x8=>bnd (ce gc gj c6) fun mU=>cnd (decide (¬(x8=mU))) (some (.inr (.inl (false,(0:Int))))) (some (.inl (i64.wrap (gj+(1:Int)))))) (some (.inr (.inr ())))
def ff(gc:aB):Int→Option (Int⊕((Bool×Int)⊕Unit)):=fun c6=>cnd (decide (c6<gc.vR)) (bnd (a7 (fe gc c6) (0:Int)) fun y13=>match y13 with| .inl r=>some (.inr (.inl r))| .inr ()=>some (.inl (i64.wrap (c6+(1:Int))))) (some (.inr (.inr ())))
def c7(gc:aB):Int→Option (Int⊕((Bool×Int)⊕Unit)):=fun pk=>cnd (decide (pk≤gc.vR)) (bnd (jl pk pk gc) fun zj=>bnd (eR zj.1) fun pK=>bnd (S:=Bool) (cnd (decide (pK.2≠(0:Int))) (some (true)) (bnd (jL pK.1) fun B0=>some (decide (B0≤(0:Int))))) fun Dh=>cnd Dh (some (.inr (.inl (false,pK.2)))) (some (.inl (i64.wrap (pk+(1:Int)))))) (some (.inr (.inr ())))
def fT(gc:aB):Option (Bool×Int):=bnd (S:=Bool) (bnd (bO [gc]) fun x1=>cnd (!x1) (some (true)) (some (decide (gc.vR≠gc.vC)))) fun bM=>cnd bM (some (false,(1:Int))) (bnd (a7 (ff gc) (0:Int)) fun y14=>match y14 with| .inl r=>some r| .inr ()=>bnd (a7 (c7 gc) (1:Int)) fun y25=>match y25 with| .inl r=>some r| .inr ()=>some (true,(0:Int)))
theorem qx {gc:aB}{r:Bool×Int}(h:fT gc=some r):aC prog 23 [dG aQ gc] (.tu [dB r.1,dI .i64 r.2]):=by
 refine bQ (rs:=[.tmp 2,.tmp 3]) (fun cx hx h0=>?_) func23
 unfold fT at h
 refine rs hx fun K hK=>?_
 refine s1 (d:=.pt 0 0) iX ?_
 iterate 2 refine sa ?_
 refine .nil (hK _ _ ?_)
 iterate 2 refine AW.seq ?_
 obtain⟨bM,hy,h⟩:=ah h
 refine jn ((PE cx .normal (fun bM=>[(1,.pt 0 0),(21,dB bM)]) fun bM=>⟨[(0,[dI .i64 gc.vR,dI .i64 gc.vC,dL aj gc.vV])],[],1⟩) bM) ?_ ?_
 replace h:=hy
 refine rq hx fun K hK=>?_
 refine s1 (d:=dG aQ gc) (bP av) ?_
 refine s1 (d:=dO 1 aQ [gc]) (iW pQ av) ?_
 refine scb h eL fun x1 h=>?_
 iterate 2 refine sa ?_
 rcases aX (!x1) with bo|bo
 replace h:=aZ bo h
 iterate 5 refine aH rfl rfl bo ?_
 refine s1 (al bo) ?_
 refine .nil (hK _ _ ?_)
 cases h
 exact pe0 h0 [0]
 replace h:=a3 bo h
 refine ga bo ?_
 refine g1 bo (ba aY) ?_
 refine ga bo ?_
 refine g1 bo (ba aY) ?_
 refine ga bo ?_
 refine s1 (au bo) ?_
 refine .nil (hK _ _ ?_)
 cases h
 exact pe0 h0 [0]
 rintro ex tm' hp' ⟨rfl,hw⟩
 refine AW.weak hw (cdh h rfl (fun oT h=>?_) (fun oT h=>?_))
 refine ra hx ?_
 refine AW.ret ?_
 cases h
 exact rv2
 refine AW.skip (AW.seq (rs hx fun K hK=>?_))
 refine sa ?_
 refine s1 (ba aY) ?_
 refine sa ?_
 refine .nil (hK _ _ (AW.block ?_))
 obtain⟨y,hy,h⟩:=ah h
 refine lp (S:=Int) (X:=(Bool×Int)⊕Unit) (fun c6=>[(1,.pt 0 0),(23,dI .i64 gc.vR),(24,dI .i64 c6)]) (fun c6=>⟨[(0,[dI .i64 gc.vR,dI .i64 gc.vC,dL aj gc.vV])],[],1⟩) (PS (PR [.tmp 2,.tmp 3] fun r=>.tu [dB r.1,dI .i64 r.2]) (PE cx (.exit 0) (fun ()=>[(1,.pt 0 0)]) fun ()=>⟨[(0,[dI .i64 gc.vR,dI .i64 gc.vC,dL aj gc.vV])],[],1⟩)) hy ?_ ?_ ?_
 exact wk h0 [0] (wR rfl (wR rfl (wR rfl wTn))) (vR rfl wVn) wLn
 clear hy h
 rintro c6 y h
 dsimp only[ff] at h
 refine ra hx ?_
 refine AW.seq (cdh h rfl (fun eW h=>?_) (fun eW h=>?_))
 refine AW.skip (AW.seq (AW.block ?_))
 iterate 2 refine ra hx ?_
 refine AW.block ?_
 obtain⟨y,hy,h⟩:=ah h
 refine lp (S:=Int) (X:=(Bool×Int)⊕Unit) (fun gj=>[(1,.pt 0 0),(4,dI .i64 c6),(23,dI .i64 gc.vR),(24,dI .i64 c6),(27,dI .i64 c6),(28,dI .i64 gj)]) (fun gj=>⟨[(0,[dI .i64 gc.vR,dI .i64 gc.vC,dL aj gc.vV])],[],1⟩) (PS (PR [.tmp 2,.tmp 3] fun r=>.tu [dB r.1,dI .i64 r.2]) (PE cx (.exit 2) (fun ()=>[(1,.pt 0 0),(23,dI .i64 gc.vR),(24,dI .i64 c6)]) fun ()=>⟨[(0,[dI .i64 gc.vR,dI .i64 gc.vC,dL aj gc.vV])],[],1⟩)) hy ?_ ?_ ?_
 exact wk h0 [0] (wR rfl (wR rfl (wR rfl (wR rfl (wR rfl (wR rfl wTn)))))) (vR rfl wVn) wLn
 clear hy h
 rintro gj y h
 dsimp only[fe] at h
 refine ra hx ?_
 refine AW.seq (cdh h rfl (fun xY h=>?_) (fun xY h=>?_))
 refine AW.skip (AW.seq (AW.block (ra hx ?_)))
 refine rsd [75] hx fun K hK=>?_
 refine s1 (d:=dG aQ gc) (bP av) ?_
 iterate 2 refine sa ?_
 refine cqb h eD fun x8 h=>?_
 refine s1 (d:=dG aQ gc) (bP av) ?_
 iterate 2 refine sa ?_
 refine cqb h eD fun mU h=>?_
 refine s1 (sw tok 4 (by decide) mK aA) ?_
 refine .nil (hK _ _ (cdh h rfl (fun nd h=>?_) (fun nd h=>?_)))
 refine ra hx ?_
 refine AW.ret ?_
 cases h
 refine PS.r ⟨by nofun,PS.l (PR.i ?_)⟩
 exact rv2
 refine AW.skip (rb hx ?_)
 cases h
 exact PS.l (pe0 h0 [0])
 refine AW.exit ?_
 try dsimp only
 try simp only[aN,reduceIte,Nat.reduceEqDiff,reduceCtorEq]
 cases h
 exact PS.r ⟨by nofun,PS.r (PE.i (wk h0 [0] (wR rfl (wR rfl (wR rfl wTn))) (vR rfl wVn) wLn))⟩
 rcases y with r|⟨⟩
 rintro ex tm' hp' ⟨rfl,hw⟩
 cases h
 exact PS.r ⟨by nofun,PS.l (PR.i hw)⟩
 rintro ex tm' hp' ⟨rfl,hw⟩
 try dsimp only
 try simp only[aN,reduceIte,Nat.reduceEqDiff,reduceCtorEq]
 refine AW.weak hw (rb hx ?_)
 cases h
 exact PS.l (pe0 h0 [0])
 refine AW.exit ?_
 try dsimp only
 try simp only[aN,reduceIte,Nat.reduceEqDiff,reduceCtorEq]
 cases h
 exact PS.r ⟨by nofun,PS.r (PE.i (wk h0 [0] (wR rfl wTn) (vR rfl wVn) wLn))⟩
 rcases y with r|⟨⟩
 rintro ex tm' hp' ⟨rfl,hw⟩
 cases h
 exact hw
 rintro ex tm' hp' ⟨rfl,hw⟩
 try dsimp only
 try simp only[aN,reduceIte,Nat.reduceEqDiff,reduceCtorEq]
 refine AW.weak hw (AW.seq (ra hx ?_))
 refine AW.block ?_
 obtain⟨y,hy,h⟩:=ah h
 refine lp (S:=Int) (X:=(Bool×Int)⊕Unit) (fun pk=>[(1,.pt 0 0),(6,dI .i64 pk)]) (fun pk=>⟨[(0,[dI .i64 gc.vR,dI .i64 gc.vC,dL aj gc.vV])],[],1⟩) (PS (PR [.tmp 2,.tmp 3] fun r=>.tu [dB r.1,dI .i64 r.2]) (PE cx (.exit 4) (fun ()=>[]) fun ()=>⟨[],[],0⟩)) hy ?_ ?_ ?_
 exact wk h0 [0] (wR rfl (wR rfl wTn)) (vR rfl wVn) wLn
 clear hy h
 rintro pk y h
 dsimp only[c7] at h
 refine AW.seq (rs hx fun K hK=>?_)
 iterate 2 refine sa ?_
 refine s1 (ba aY) ?_
 refine sa ?_
 refine .nil (hK _ _ (cdh h rfl (fun qS h=>?_) (fun qS h=>?_)))
 refine AW.skip (AW.seq (AW.block (rs hx fun K hK=>?_)))
 iterate 2 refine sa ?_
 refine s1 uQ ?_
 obtain⟨zj,hx17,h⟩:=ah h
 refine s1 (w6 [0] rfl (xf hx17) (fA (an _) (fA (an _) (fA (an _) fAn))) (vR rfl wVn) wLn) ?_
 iterate 3 refine sa ?_
 refine s1 (d:=.pt 1 0) (b9 av) ?_
 refine s0 (dQ (ds':=[dI .i64 zj.1.vR,dI .i64 zj.1.vC,dL aj zj.1.vV]) av) ?_
 refine sa ?_
 refine .nil (hK _ _ (rs hx fun K hK=>?_))
 refine s1 (d:=dG aQ zj.1) (bP av) ?_
 refine scb h lz fun pK h=>?_
 iterate 3 refine sa ?_
 refine s1 (bp (F:=aj.f co) aA) ?_
 refine s0 (aO (b':=pK.1) (ao.id _ _) aA) ?_
 refine sa ?_
 refine .nil (hK _ _ (AW.seq ?_))
 obtain⟨Dh,hy,h⟩:=ah h
 refine jn ((PE cx .normal (fun Dh=>[(1,.pt 0 0),(6,dI .i64 pk),(10,dI .i64 pK.2),(66,dB Dh)]) fun Dh=>⟨[(0,[dI .i64 gc.vR,dI .i64 gc.vC,dL aj gc.vV])],[],1⟩) Dh) ?_ ?_
 replace h:=hy
 refine rq hx fun K hK=>?_
 iterate 3 refine sa ?_
 rcases aX (decide (pK.2≠(0:Int))) with ve|ve
 replace h:=aZ ve h
 iterate 3 refine aH rfl rfl ve ?_
 refine s1 (al ve) ?_
 refine .nil (hK _ _ ?_)
 cases h
 exact pe0 h0 [0]
 replace h:=a3 ve h
 refine g1 (d:=dG aj pK.1) ve (aE (ao.id _ _) aA) ?_
 obtain⟨B0,Nj,h⟩:=ah h
 refine g1 ve (eC rfl (rK Nj) (by simp only[cp,dh,jy,fO,dX,dW];exact bc _ _) (lA (fm _ _) lAn) (.inl rfl)) ?_
 refine ga ve ?_
 refine s1 (au ve) ?_
 refine .nil (hK _ _ ?_)
 cases h
 exact pe0 h0 [0]
 rintro ex tm' hp' ⟨rfl,hw⟩
 refine AW.weak hw (cdh h rfl (fun xZ h=>?_) (fun xZ h=>?_))
 refine ra hx ?_
 refine AW.ret ?_
 cases h
 refine PS.r ⟨by nofun,PS.l (PR.i ?_)⟩
 exact rv2
 refine AW.skip (rb hx ?_)
 cases h
 exact PS.l (pe0 h0 [0])
 refine AW.exit ?_
 try dsimp only
 try simp only[aN,reduceIte,Nat.reduceEqDiff,reduceCtorEq]
 cases h
 exact PS.r ⟨by nofun,PS.r (PE.i (wk h0 [] wTn wVn wLn))⟩
 rcases y with r|⟨⟩
 rintro ex tm' hp' ⟨rfl,hw⟩
 cases h
 exact hw
 rintro ex tm' hp' ⟨rfl,hw⟩
 try dsimp only
 try simp only[aN,reduceIte,Nat.reduceEqDiff,reduceCtorEq]
 refine AW.weak hw (ra hx ?_)
 refine AW.ret ?_
 cases h
 exact rv2
section
theorem BP {R C:Nat}{a:cD}{b:aB}(hR:R≤400)(hC:C≤400)(f:Nat→Nat→Nu)(hf:∀i k:Nat,i<R→k<C→fL (i:Int) (k:Int) a b=some (nv (f i k))):gN R C a b=some (iu R C (mkM R C f)):=by
 have LV:R*C≤400*400:=pC hR hC
 unfold gN
 rw[oz (R:=R) (C:=C) (by omega) f (by omega) (fun i hi acc uj=>?_) (fun l=>?_)]
 ·simp only[ab]
  rw[qp (by rw[c9];omega)]
  simp only[ab]
  unfold iu
  cases (mkM R C f).all aR <;> rfl
 ·unfold i1
  dsimp only
  rw[bw _ _,qB (C:=C) (by omega) (f i) acc uj (fun k hk l=>?_) (fun l=>?_)]
  ·rfl
  ·unfold iH
   dsimp only
   rw[bw _ _,hf i k hi hk]
   rfl
  ·unfold iH
   dsimp only
   rw[bx _ _]
 ·unfold i1
  dsimp only
  rw[bx _ _]
theorem zF {R C:Nat}{a:aB}(hR:R≤400)(hC:C≤400)(f:Nat→Nat→Nu)(hf:∀i k:Nat,i<R→k<C→fg (i:Int) (k:Int) a=some (nv (f i k))):jl R C a=some (iu R C (mkM R C f)):=by
 have LV:R*C≤400*400:=pC hR hC
 unfold jl
 rw[oz (R:=R) (C:=C) (by omega) f (by omega) (fun i hi acc uj=>?_) (fun l=>?_)]
 ·simp only[ab]
  rw[qp (by rw[c9];omega)]
  simp only[ab]
  unfold iu
  cases (mkM R C f).all aR <;> rfl
 ·unfold iZ
  dsimp only
  rw[bw _ _,qB (C:=C) (by omega) (f i) acc uj (fun k hk l=>?_) (fun l=>?_)]
  ·rfl
  ·unfold iG
   dsimp only
   rw[bw _ _,hf i k hi hk]
   rfl
  ·unfold iG
   dsimp only
   rw[bx _ _]
 ·unfold iZ
  dsimp only
  rw[bx _ _]
abbrev m5(R C:Nat)(V:List Nu):Option (List Nu×List Pv):=kN R C C 0 0 V []
def j4(acc:List Pv):List Int:=acc.map fun p=>(p.col:Int)
theorem s8 {R C:Nat}:∀{n k r:Nat} {V:List Nu} {acc:List Pv} {W:List Nu} {l:List Pv},kN R C n k r V acc=some (W,l)→l.length≤acc.length+n
 |0,_,_,_,_,_,_,h=>by
  unfold kN at h
  injection h with h
  injection h with h1 h2
  rw[←h2];omega
 |n+1,k,r,V,acc,W,l,h=>by
  unfold kN at h
  split at h
  ·split at h
   ·have:=s8 h;omega
   ·split at h
    ·have:=s8 h
     rw[eT] at this
     simp at this;omega
    ·cases h
  ·injection h with h
   injection h with h1 h2
   rw[←h2];omega
theorem xz {R C:Nat}:∀{n k r:Nat} {V:List Nu} {acc:List Pv} {W:List Nu} {l:List Pv},acc.length=r→r≤R→kN R C n k r V acc=some (W,l)→l.length≤R
 |0,_,_,_,_,_,_,ha,hr,h=>by
  unfold kN at h
  injection h with h
  injection h with h1 h2
  rw[←h2];omega
 |n+1,k,r,V,acc,W,l,ha,hr,h=>by
  unfold kN at h
  split at h
  ·rename_i bF
   split at h
   ·exact xz ha hr h
   ·split at h
    ·exact xz (by rw[eT,ha];rfl) bF h
    ·cases h
  ·injection h with h
   injection h with h1 h2
   rw[←h2];omega
theorem zM {R C:Nat}{V W:List Nu}{l:List Pv}(h:m5 R C V=some (W,l)):l.length≤R:=xz (r:=0) (acc:=[]) rfl (dZ _) h
section
variable {V B:List Nu} {r c:Nat}
theorem tQ(hr:r≤1000)(hc:c≤1000)(hV:V.length=r*c):eu (mS r c V)=some (yN r c (m5 r c V)):=by
 have LV:r*c≤1000*1000:=pC hr hc
 unfold eu
 rw[az ⟨by show (0:Int)≤r;omega,by show (0:Int)≤c;omega,by show (r:Int)≤1000000;omega,by show (c:Int)≤1000000;omega,by show (r:Int).toNat*(c:Int).toNat≤1000000;rw[bL,bL];omega,by show (V.map nv).length=(r:Int).toNat*(c:Int).toNat;rw[ew,bL,bL];exact hV,okL_nv V⟩]
 show some (yN (r:Int) (c:Int) (kN (r:Int).toNat (c:Int).toNat (c:Int).toNat 0 0 ((V.map nv).map te) []))=_
 rw[map_nv,bL,bL]
theorem Jc {m:aB}{acc:List Pv}(h:acc.length≤1000000):cc ⟨m,acc.map pvS⟩=some (j4 acc):=by
 unfold cc
 have:=lb (b:=d8 ⟨m,acc.map pvS⟩) (fun k=>(j4 (acc.take k),(k:Int))) 0 acc.length (j4 acc) (dZ _) (fun k _ hk=>?_) ?_
 ·rw[show (j4 (acc.take 0),((0:Nat):Int))=(([]:List Int),(0:Int)) from rfl] at this
  rw[this];rfl
 ·unfold d8
  dsimp only
  have e:((acc.map pvS)[k]!).vcol=((acc[k]).col:Int):=by
   rw[Bh,dc,e7 hk];rfl
  have e2:j4 (acc.take k)++[((acc[k]).col:Int)]=j4 (acc.take (k+1)):=by
   unfold j4
   rw[List.take_succ,e7 hk,mg];rfl
  rw[ew,bw _ _,aJ,bL,e,e2,aJ (by unfold j4;rw[ew,eI];omega),w64]
  rfl
 ·unfold d8
  dsimp only
  rw[ew,bx _ _,IE]
end
def zL(R C:Int)(V:List Nu):aB×List Int×Int:=if a8 R C V=0 then match m5 R.toNat C.toNat V with
 |some (U,acc)=>(mS R C U,j4 acc,0)
 |none=>(mZ,[],30) else (mZ,[],1)
theorem Hb {R C:Int}{V:List Nu}(hV:V.length≤1000000):il (mS R C V)=some (zL R C V):=by
 unfold il zL
 rw[oM hV]
 simp only[ab]
 by_cases h1:a8 R C V=0
 ·rw[az h1]
  obtain⟨r,c,rfl,rfl,hm⟩:=eS.1 h1
  have h3:=hm.r
  have h4:=hm.c
  rw[h1,show (!decide ((0:Int)=0))=false by simp,kF,tQ (by omega) (by omega) hm.len,bL,bL]
  simp only[ab]
  cases lT:m5 r c V with
  |none=>rfl
  |some p=>
   obtain⟨U,acc⟩:=p
   have:=s8 lT
   show bnd (cc ⟨mS r c U,acc.map pvS⟩) _=_
   rw[Jc (by simp at this;omega)];rfl
 ·rw[ay h1,show (!decide (a8 R C V=0))=true by simp[h1],kT]
abbrev rZ:ak:=⟨⟨false,false,Vector.replicate 16 0⟩,⟨false,false,Vector.replicate 16 0⟩⟩
def jI(acc:List Pv):Int:=acc.foldl (fun s p=>if p.mov then -s else s) 1
def rm(s:Int)(acc:List Pv):Nu:=acc.foldl (fun x p=>nI x p.by') (nOf s)
def detR(n:Nat)(o:Option (List Nu×List Pv)):ak×Int:=match o with
 |none=>(rZ,30)
 |some (_,acc)=>if acc.length<n then (nv (nOf 0),0) else if aR (rm (jI acc) acc) then (nv (rm (jI acc) acc),0) else (rZ,30)
def yh(R C:Int)(V:List Nu):ak×Int:=if a8 R C V=0∧R=C then detR R.toNat (m5 R.toNat R.toNat V) else (rZ,1)
theorem DM(acc:List Pv)(s:Int)(h:s=1∨s=-1):acc.foldl (fun s p=>if p.mov then -s else s) s=1∨acc.foldl (fun s p=>if p.mov then -s else s) s=-1:=by
 induction acc generalizing s with
 |nil=>exact h
 |cons p acc ih=>
  rw[tE]
  refine ih _ ?_
  rcases h with rfl|rfl <;> cases p.mov <;> simp
theorem Ek {acc:List Pv}{k:Nat}(hk:k<acc.length):(acc.map pvS)[k]! =pvS acc[k]:=by
 rw[Bh,dc,e7 hk];rfl
theorem BR {R C:Int}{V:List Nu}(hV:V.length≤1000000):eR (mS R C V)=some (yh R C V):=by
 unfold eR yh
 rw[oM hV]
 simp only[ab,kOr]
 by_cases h0:a8 R C V=0∧R=C
 ·rw[az h0]
  obtain⟨h1,rfl⟩:=h0
  obtain⟨r,c,rfl,hc,hm⟩:=eS.1 h1
  obtain rfl:r=c:=by omega
  have h3:=hm.r
  rw[h1,show (!decide ((0:Int)=0)||decide ((r:Int)≠r))=false by simp,kF,tQ (by omega) (by omega) hm.len,bL]
  simp only[ab]
  cases lT:m5 r r V with
  |none=>rfl
  |some p=>
   obtain⟨U,acc⟩:=p
   have Lp:=s8 lT
   rw[List.length_nil,br] at Lp
   rw[show yN (r:Int) (r:Int) (some (U,acc))=((⟨mS r r U,acc.map pvS⟩:cD),(0:Int)) from rfl]
   dsimp only
   rw[bx _ _ (by simp),ew]
   unfold detR
   by_cases hl:acc.length<r
   ·rw[bw _ _,uOf]
    dsimp only
    rw[az hl];rfl
   ·rw[bx _ _]
    dsimp only
    rw[ay hl]
    have k1:=lb (b:=js (⟨mS r r U,acc.map pvS⟩,0)) (fun k=>(jI (acc.take k),(k:Int))) 0 acc.length (jI acc) (dZ _) (fun k _ hk=>?_) ?_
    ·rw[show (jI (acc.take 0),((0:Nat):Int))=((1:Int),(0:Int)) from rfl] at k1
     rw[k1]
     simp only[ab]
     have hs:=DM acc 1 (.inl rfl)
     rw[uOf (by show -9223372036854775808≤jI acc;unfold jI;omega) (by show jI acc≤_;unfold jI;omega)]
     simp only[ab]
     have k2:=lb (b:=jr (⟨mS r r U,acc.map pvS⟩,0)) (fun k=>((k:Int),nv (rm (jI acc) (acc.take k)))) 0 acc.length (nv (rm (jI acc) acc)) (dZ _) (fun k _ hk=>?_) ?_
     ·rw[show (((0:Nat):Int),nv (rm (jI acc) (acc.take 0)))=((0:Int),nv (nOf (jI acc))) from rfl] at k2
      rw[k2]
      simp only[ab,Jo]
      cases aR (rm (jI acc) acc) <;> rfl
     ·unfold jr
      dsimp only
      rw[ew,bw _ _,aJ,bL,Ek hk]
      show bnd (dp (nv (rm (jI acc) (acc.take k))) (nv (acc[k]).by')) _=_
      rw[Mg]
      simp only[ab]
      rw[w64]
      have:rm (jI acc) (acc.take (k+1))=nI (rm (jI acc) (acc.take k)) (acc[k]).by':=by
       unfold rm
       rw[List.take_succ,e7 hk,IH];rfl
      rw[this];rfl
     ·unfold jr
      dsimp only
      rw[ew,bx _ _,IE]
    ·unfold js
     dsimp only
     rw[ew,bw _ _,aJ,bL,Ek hk]
     have hs:=DM (acc.take k) 1 (.inl rfl)
     have e2:jI (acc.take (k+1))=if (acc[k]).mov then -jI (acc.take k) else jI (acc.take k):=by
      unfold jI
      rw[List.take_succ,e7 hk,IH];rfl
     rw[e2]
     show bnd (cnd (acc[k]).mov _ _) _=_
     have w1:i64.wrap (0 - jI (acc.take k))=-jI (acc.take k):=by
      rw[w64 (by unfold jI;omega) (by unfold jI;omega)];omega
     rw[w1,w64 (n:=(k:Int)+1)]
     cases (acc[k]).mov <;> rfl
    ·unfold js
     dsimp only
     rw[ew,bx _ _,IE]
 ·rw[ay h0]
  have e:(!decide (a8 R C V=0)||decide (R≠C))=true:=by
   by_cases a:a8 R C V=0
   ·by_cases b:R=C
    ·exact absurd ⟨a,b⟩ h0
    ·simp[b]
   ·simp[a]
  rw[e,kT]
theorem BS {l:List Int}(h:l.length≤1000000)(v:Int):cK l v=some (l.any fun x=>decide (v=x)):=by
 unfold cK gu
 have key:=zR (b:=dM l v) (n:=l.length) h (fun i=>decide (v=l[i]!)) (fun i hi=>by
  unfold dM
  rw[bw _ _,aJ,bL]) (by
  unfold dM
  rw[bx _ _])
 rw[Ks l (fun x=>decide (v=x))] at key
 rcases key with⟨h1,h2⟩|⟨j,h1,h2⟩ <;> rw[h1,h2]
 ·rfl
 ·simp[bnd]
def solvR(c:Nat)(o:Option (List Nu×List Pv)):List ak×Int:=match o with
 |none=>([],30)
 |some (U,acc)=>if (j4 acc).any (fun x=>decide ((c:Int)=x)) then ([],200) else if acc.length<c then ([],70) else (((List.range acc.length).map fun i=>U[i*(c+1)+c]!).map nv,0)
def FJ(R C:Int)(A b:List Nu):List ak×Int:=if a8 R C A=0∧(b.length:Int)=R∧b.all aR=true then (if 200<C+1 then ([],2) else solvR C.toNat (m5 R.toNat (C.toNat+1) (mkM R.toNat (C.toNat+1) (rA C.toNat 1 A b)))) else ([],1)
theorem bes1 {r c:Nat}{A b:List Nu}(hm:MV r c A)(hb:b.length=r)(hg:b.all aR=true):MV r 1 b:=⟨hm.r,by decide,by rw[hb,sr],hg⟩
theorem Ko {r c c':Nat}{A B:List Nu}(hm:MV r c A)(wx:MV r c' B)(hc:(200:Int)<(c:Int)+(c':Int)):LB (r:Int) (c:Int) A (r:Int) (c':Int) B=(mZ,2):=by
 unfold LB
 rw[az ⟨hm.chk,wx.chk,rfl⟩,az hc]
theorem Km {r c c':Nat}{A B:List Nu}(hm:MV r c A)(wx:MV r c' B)(hc:¬(200:Int)<(c:Int)+(c':Int)):LB (r:Int) (c:Int) A (r:Int) (c':Int) B=(mS r ((c+c':Nat):Int) (mkM r (c+c') (rA c c' A B)),0):=by
 unfold LB
 rw[az ⟨hm.chk,wx.chk,rfl⟩,ay hc,show ((c:Int)+(c':Int))=((c+c':Nat):Int) by omega]
 simp only[bL]
 exact bes_ok hm wx
theorem E4 {R C:Int}{A b:List Nu}(hA:A.length≤1000000)(hb:b.length≤1000000):gV (mS R C A) (b.map nv)=some (FJ R C A b):=by
 unfold gV FJ
 rw[oM hA]
 simp only[ab,qp hb,kOr,ew]
 by_cases h0:a8 R C A=0∧(b.length:Int)=R∧b.all aR=true
 ·rw[az h0]
  obtain⟨h1,h2,h5⟩:=h0
  obtain⟨r,c,rfl,rfl,hm⟩:=eS.1 h1
  have h3:=hm.r
  have h4:=hm.c
  have Li:=bes1 hm (by omega) h5
  rw[h1,h5,show (!decide ((0:Int)=0)||(decide ((b.length:Int)≠(r:Int))||!true))=false by simp[h2],kF]
  rw[show (⟨(r:Int),(1:Int),b.map nv⟩:aB)=mS (r:Int) ((1:Nat):Int) b from rfl,Hc hA hb]
  by_cases hc:(200:Int)<(c:Int)+((1:Nat):Int)
  ·rw[Ko hm Li hc,az (show (200:Int)<(c:Int)+1 by omega)];rfl
  ·rw[Km hm Li hc,ay (show ¬(200:Int)<(c:Int)+1 by omega)]
   simp only[ab,bL]
   rw[bx _ _ (by simp),tQ (by omega) (by omega) c9]
   simp only[ab]
   cases lT:m5 r (c+1) (mkM r (c+1) (rA c 1 A b)) with
   |none=>rfl
   |some p=>
    obtain⟨U,acc⟩:=p
    have Lp:=s8 lT
    rw[List.length_nil,br] at Lp
    have hU:=kW c9 lT
    have hle:acc.length≤r:=zM lT
    have LV:r*(c+1)≤200*201:=pC h3 (by omega)
    show cnd (decide ((0:Int)≠0)) _ (bnd (cc ⟨mS r ((c+1:Nat):Int) U,acc.map pvS⟩) _)=_
    rw[bx _ _ (by simp),Jc (by omega)]
    simp only[ab]
    rw[BS (by unfold j4;rw[ew];omega)]
    simp only[ab]
    unfold solvR
    dsimp only
    cases hany:(j4 acc).any fun x=>decide ((c:Int)=x) with
    |true=>rfl
    |false=>
     rw[kF]
     show cnd (decide (((acc.map pvS).length:Int)<(c:Int))) _ (bnd (a7 (fy (mS r c A) (⟨mS r ((c+1:Nat):Int) U,acc.map pvS⟩,0)) (([]:List ak),(0:Int))) _)=_
     rw[ew]
     by_cases hl:acc.length<c
     ·rw[bw _ _,az hl];rfl
     ·rw[bx _ _,ay hl]
      have key:=lb (b:=fy (mS r c A) (⟨mS r ((c+1:Nat):Int) U,acc.map pvS⟩,0)) (fun k=>(((List.range k).map fun i=>U[i*(c+1)+c]!).map nv,(k:Int))) 0 acc.length (((List.range acc.length).map fun i=>U[i*(c+1)+c]!).map nv) (dZ _) (fun k _ hk=>?_) ?_
      ·rw[show (((List.range 0).map fun i=>U[i*(c+1)+c]!).map nv,((0:Nat):Int))=(([]:List ak),(0:Int)) from rfl] at key
       rw[key];rfl
      ·unfold fy
       dsimp only
       rw[ew,bw _ _,uk hU (by omega) (by omega) (by omega)]
       simp only[ab]
       rw[aJ (by simp;omega),w64,uO]
       simp
      ·unfold fy
       dsimp only
       rw[ew,bx _ _]
 ·rw[ay h0]
  have e:(!decide (a8 R C A=0)||(decide ((b.length:Int)≠R)||!b.all aR))=true:=by
   by_cases a:a8 R C A=0
   ·by_cases d:(b.length:Int)=R
    ·by_cases e:b.all aR=true
     ·exact absurd ⟨a,d,e⟩ h0
     ·simp only[Bool.not_eq_true] at e;simp[e]
    ·simp[d]
   ·simp[a]
  rw[e,kT]
end
end
end Go.Proofs.YtgfcnncojhkcoaaGreat
