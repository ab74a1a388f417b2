/-
  Lemmas, part 6. Conditions: none.
-/
import Derived.Test.YtgfcnncojhkcoaaGreatU5
set_option linter.all false
set_option maxRecDepth 100000
set_option maxHeartbeats 4000000
namespace Go.Proofs.YtgfcnncojhkcoaaGreat
open Go.RowKit Go.IntKind Tryz
noncomputable section
section
def pvS(p:Pv):mK:=⟨p.col,nv p.by',p.mov⟩
theorem slE_Pv(l:List Pv):slE vL l=slE bT (l.map pvS):=by
 unfold slE
 rw[eG,Jf]
 rfl
def yZ(R C:Int)(o:Option (List Nu×List Pv)):c8×Int:=match o with
 |some (U,acc)=>(⟨⟨R,C,U.map nv⟩,acc.map pvS⟩,0)
 |none=>(⟨⟨0,0,[]⟩,[]⟩,30)
structure MatP(m:av):Prop where
 r0:0≤m.vR
 c0:0≤m.vC
 r1:m.vR≤1000000
 c1:m.vC≤1000000
 rc:m.vR.toNat*m.vC.toNat≤1000000
 len:m.vV.length=m.vR.toNat*m.vC.toNat
 ok:okL m.vV
open Classical in
def ez(m:av):Option (c8×Int):=
 if MatP m then some (yZ m.vR m.vC (mf m.vR.toNat m.vC.toNat m.vC.toNat 0 0 (m.vV.map tI) [])) else none
theorem mH {fR:av}{r:c8×Int}(h:ez fR=some r):aB prog 63 [dG aR fR] (.tu [dG qb r.1,dI .i64 r.2]):=by
 unfold ez at h
 split at h
 ·rename_i hp
  obtain rfl:=co h
  obtain⟨h1,h2,h3,h4,h5,h6,h7⟩:=hp
  have hV:(fR.vV.map tI).length=fR.vR.toNat*fR.vC.toNat:=by rw[eG];exact h6
  have hw:=Mm hV h5 (by omega) (by omega)
  have e1:(.ag [dI .i64 (fR.vR.toNat:Int),dI .i64 (fR.vC.toNat:Int),.e (slE a7 (fR.vV.map tI))]:D)=dG aR fR:=by
   rw[HY,Gt h7,Bv h1,Bv h2]
   rfl
  rw[e1] at hw
  have e2:∀o:Option (List Nu×List Pv),redE fR.vR.toNat fR.vC.toNat o=[dG qb (yZ fR.vR fR.vC o).1,dI .i64 (yZ fR.vR fR.vC o).2]:=by
   intro o
   match o with
   |some (U,acc)=>
    show [D.ag [dI .i64 (fR.vR.toNat:Int),dI .i64 (fR.vC.toNat:Int),.e (slE a7 U),.e (slE vL acc)],dI .i64 0]=_
    rw[HY,slE_Pv,Bv h1,Bv h2]
    rfl
   |none=>rfl
  rw[e2] at hw
  exact hw
 ·cases h
open Classical in
def gf(l:List ak)(n:Int):Option (List ak):=match l with
 |[a]=>if okR a∧0≤n∧n≤1000000 then some (List.replicate n.toNat a) else none
 |_=>none
theorem uC {l r:List ak}{n:Int}(h:gf l n=some r):HC prog 77 [dL aj l,dI .i64 n] ⟨[],[],0⟩ (.ow 1 0 36 r.length) ⟨[(1,dC ((cW aj).f r))],[],1+1⟩:=by
 unfold gf at h
 split at h
 ·rename_i a
  split at h
  ·rename_i hp
   obtain rfl:=co h
   obtain⟨h1,h2,h3⟩:=hp
   have hw:=Om (vs:=[]) (lv:=[]) (N:=0) (a:=tI a) (n:=n.toNat) (by omega)
   have e1:slE a7 [tI a]=slE aj [a]:=by rw[HY];show slE aj [nv (tI a)]=_;rw[Ef h1]
   have e2:(cW a7).f (List.replicate n.toNat (tI a))=(cW aj).f (List.replicate n.toNat a):=by
    show (List.replicate n.toNat (tI a)).flatMap a7.f=(List.replicate n.toNat a).flatMap aj.f
    rw[show a7.f=fun x=>aj.f (nv x) from rfl]
    rw[←Jf,KP,Ef h1]
   rw[e1,e2,Bv h2] at hw
   rw[u6]
   exact hw
  ·cases h
 ·cases h
end
section
theorem uAdd(x y:Nu):fM (nv x) (nv y)=some (nv (Cu x y)):=by rw[wC];exact PN x.2 y.2
theorem uMul(x y:Nu):dZ (nv x) (nv y)=some (nv (qM x y)):=by rw[wB];exact Jw x.2 y.2
theorem uNeg(x:Nu):lK (nv x)=some (nv (Gn x)):=by rw[wA];exact PM x.2
theorem JJ(x:Nu):bN (nv x)=some (aQ x):=by rw[fy];exact lg x.2
theorem FV(x:Nu):ey (nv x)=some (eA x):=by rw[xM];exact PL x.2
theorem uOf {n:Int}(h1:-9223372036854775808≤n:=by omega)(h2:n≤9223372036854775807:=by omega):eE n=some (nv (nOf n)):=G_rOf h1 h2
theorem uBad:fb=some (nv (nuR none)):=uc
theorem tGood(x:Nu):lU (nv x)=some (aQ x):=by rw[fy];exact R_Good x.2
theorem Gk {l:List Nu}{i:Nat}(h:i<l.length:=by omega):(l.map nv)[i]! =nv l[i]! :=by
 rw[Br,Br,de,ff h];rfl
theorem nv_eq {x y:Nu}:nv x=nv y↔x=y:=⟨fun h=>Subtype.ext h,fun h=>by rw[h]⟩
theorem nvl_eq {l m:List Nu}:l.map nv=m.map nv↔l=m:=⟨fun h=>List.map_inj_right (fun _ _ h=>nv_eq.1 h) |>.1 h,fun h=>by rw[h]⟩
section
variable {R:Type}
theorem kOr(b x:Bool):cnd b (some true) (some x)=some (b||x):=by cases b <;> rfl
theorem kF(x y:Option R):cnd false x y=y:=rfl
theorem kT(x y:Option R):cnd true x y=x:=rfl
theorem w64 {n:Int}(h1:-9223372036854775808≤n:=by omega)(h2:n≤9223372036854775807:=by omega):i64.wrap n=n:=K6 ⟨h1,h2⟩
theorem AI {n:Nat}(hn:n≤1000000)(ok:Nat→Bool){b:Int→Option (Int⊕(Bool⊕Unit))}(h:∀i:Nat,i<n→b i=cnd (!ok i) (some (.inr (.inl false))) (some (.inl (i64.wrap ((i:Int)+(1:Int))))))(he:b n=some (.inr (.inr ()))):
  a5 b (0:Int)=some (if (List.range n).all ok then .inr () else .inl false):=by
 have key:∀m i:Nat,i+m=n→a5 b (i:Int)=some (if (List.range' i m).all ok then .inr () else .inl false):=by
  intro m
  induction m with
  |zero=>
       intro i hi;obtain rfl:i=n:=by omega
       exact fS he
  |succ m ih=>
   intro i hi
   have hb:=h i (by omega)
   rw[Fc,jZ]
   cases hk:ok i with
   |false=>
    rw[hk] at hb
    rw[fS (by rw[hb];rfl)];rfl
   |true=>
    rw[hk,w64] at hb
    rw[kB (by rw[hb];rfl)]
    exact ih (i+1) (by omega)
 rw[show ((0:Int))=((0:Nat):Int) from rfl,key n 0 (by omega),LU]
theorem z6 {n:Nat}(hn:n≤1000000)(ok:Nat→Bool){b:Int→Option (Int⊕(Int⊕Unit))}(h:∀i:Nat,i<n→b i=cnd (ok i) (some (.inr (.inl (i:Int)))) (some (.inl (i64.wrap ((i:Int)+(1:Int))))))(he:b n=some (.inr (.inr ()))):
  (a5 b (0:Int)=some (.inr ())∧(List.range n).any ok=false)∨∃j:Nat,a5 b (0:Int)=some (.inl (j:Int))∧(List.range n).any ok=true:=by
 have key:∀m i:Nat,i+m=n→(a5 b (i:Int)=some (.inr ())∧(List.range' i m).any ok=false)∨∃j:Nat,a5 b (i:Int)=some (.inl (j:Int))∧(List.range' i m).any ok=true:=by
  intro m
  induction m with
  |zero=>
       intro i hi;obtain rfl:i=n:=by omega
       exact .inl ⟨fS he,rfl⟩
  |succ m ih=>
   intro i hi
   have hb:=h i (by omega)
   rw[Fc,List.any_cons]
   cases hk:ok i with
   |true=>
    rw[hk] at hb
    exact .inr ⟨i,fS (by rw[hb];rfl),rfl⟩
   |false=>
    rw[hk,w64] at hb
    rw[kB (show b (i:Int)=some (.inl (((i+1:Nat):Int))) by rw[hb];rfl)]
    exact ih (i+1) (by omega)
 rw[LU]
 exact key n 0 (by omega)
end
theorem EN {α:Type}[Inhabited α](l:List α)(p:α→Bool):(List.range l.length).all (fun i=>p l[i]!)=l.all p:=by
 rw[Dv,bV,bV]
 constructor
 ·intro h x hx
  obtain⟨i,hi,rfl⟩:=List.getElem_of_mem hx
  have:=h i (s7.2 hi)
  rwa[Br,ff hi] at this
 ·intro h i hi
  have hi:=s7.1 hi
  rw[Br,ff hi]
  exact h _ (yz hi)
theorem KK {α:Type}[Inhabited α](l:List α)(p:α→Bool):(List.range l.length).any (fun i=>p l[i]!)=l.any p:=by
 have:=EN l (fun x=>!p x)
 rw[←Bool.not_inj_iff,←IW,←IW] at this
 simpa using this
theorem qS {C:Nat}(hC:C≤1000000){b:Int×List ak→Option ((Int×List ak)⊕List ak)}(f:Nat→Nu)(acc:List Nu)(hl:acc.length+C≤1000000)
  (h:∀k:Nat,k<C→∀l:List ak,b ((k:Int),l)=gd ((l++[nv (f k)]).length*136≤140737488355328) (some (.inl (i64.wrap ((k:Int)+(1:Int)),l++[nv (f k)]))))
  (he:∀l,b ((C:Int),l)=some (.inr l)):a5 b ((0:Int),acc.map nv)=some ((acc++(List.range C).map f).map nv):=by
 have:=lz (b:=b) (fun k=>((k:Int),(acc++(List.range k).map f).map nv)) 0 C ((acc++(List.range C).map f).map nv) (dU _) (fun k _ hk=>?_) (he _)
 ·simpa using this
 ·rw[h k hk,aJ (by simp;omega),w64,u7]
  simp
theorem oW {R C:Nat}(hR:R≤1000000){b:Int×List ak→Option ((Int×List ak)⊕List ak)}(f:Nat→Nat→Nu)(hl:R*C≤1000000)
  (h:∀i:Nat,i<R→∀acc:List Nu,acc.length+C≤1000000→b ((i:Int),acc.map nv)=some (.inl (i64.wrap ((i:Int)+(1:Int)),(acc++(List.range C).map (f i)).map nv)))
  (he:∀l,b ((R:Int),l)=some (.inr l)):a5 b ((0:Int),([]:List ak))=some ((mkM R C f).map nv):=by
 have:=lz (b:=b) (fun i=>((i:Int),(mkM i C f).map nv)) 0 R ((mkM R C f).map nv) (dU _) (fun i _ hi=>?_) (he _)
 ·simpa[mkM] using this
 ·have:(i+1)*C≤R*C:=ci _ hi
  rw[h i hi _ (by rw[et];rw[rV] at this;omega),w64,←AE]
  rfl
end
def mJ(bj:ak):Option Bool:=bnd (bN bj) fun x1=>some (!x1)
theorem zF {bj:ak}{r:Bool}(h:mJ bj=some r):aB prog 103 [dG aj bj] (dB r):=by
 refine bL (rs:=[.tmp 2]) (fun cx hx h0=>?_) func103
 unfold mJ at h
 refine ra hx ?_
 refine rs hx fun K hK=>?_
 refine s1 (d:=dG aj bj) (aF (an.id _ _) aD) ?_
 refine scb h eM fun x1 h=>?_
 iterate 2 refine sa ?_
 refine .nil (hK _ _ (AW.ret ?_))
 cases h
 exact rv1
def be(ot:List ak):Int→Option (Int⊕(Int⊕Unit)):=fun aS=>cnd (decide (aS<((ot).length:Int))) (gd (0≤aS∧aS<((ot).length:Int)) (bnd (mJ ((ot)[(aS).toNat]!)) fun x4=>cnd x4 (some (.inr (.inl aS))) (some (.inl (i64.wrap (aS+(1:Int))))))) (some (.inr (.inr ())))
def bD(ot:List ak):Option Int:=bnd (a5 (be ot) (0:Int)) fun y7=>match y7 with| .inl r=>some r| .inr ()=>some (-1:Int)
theorem g5 {ot:List ak}{r:Int}(h:bD ot=some r):aB prog 135 [dL aj ot,.e (.lit (.func (.func 103) #[] #[]))] (dI .i64 r):=by
 refine bL (rs:=[.tmp 4]) (fun cx hx h0=>?_) func135
 unfold bD at h
 refine ra hx ?_
 refine AW.seq (ra hx ?_)
 refine AW.block ?_
 obtain⟨y,hy,h⟩:=ah h
 refine lp (S:=Int) (X:=Int⊕Unit) (fun aS=>[(0,dL aj ot),(1,.e (.lit (.func (.func 103) #[] #[]))),(7,dI .i64 ((ot).length:Int)),(8,dI .i64 aS)]) (fun aS=>⟨[],[],0⟩) (PS (PR [.tmp 4] fun r=>dI .i64 r) (PE cx (.exit 0) (fun ()=>[]) fun ()=>⟨[],[],0⟩)) hy ?_ ?_ ?_
 exact wk h0 [] (wR rfl (wR rfl (wR rfl (wR rfl wTn)))) wVn wLn
 clear hy h
 rintro aS y h
 dsimp only[be] at h
 refine ra hx ?_
 refine AW.seq (cdh h rfl (fun cE h=>?_) (fun cE h=>?_))
 refine AW.skip (AW.seq (AW.block (ra hx ?_)))
 refine rs hx fun K hK=>?_
 iterate 3 refine sa ?_
 obtain⟨ni,h⟩:=aC h
 have pU:(aS).toNat<(ot).length:=by omega
 refine s1 (fZ ni aP aD) ?_
 refine s1 (d:=dG aj ((ot)[(aS).toNat]!)) (pl (c:=aj) (l:=ot) (n:=(aS).toNat) (o:=0) aD pU (jM _ _ rfl)) ?_
 refine scb h zF fun x4 h=>?_
 refine .nil (hK _ _ (cdh h rfl (fun dy h=>?_) (fun dy h=>?_)))
 refine ra hx ?_
 refine AW.ret ?_
 cases h
 refine PS.r ⟨by nofun,PS.l (PR.i ?_)⟩
 exact rv1
 refine AW.skip (rb hx ?_)
 cases h
 exact PS.l (pe0 h0 [])
 refine AW.exit ?_
 try dsimp only
 try simp only[aM,reduceIte,Nat.reduceEqDiff,reduceCtorEq]
 cases h
 exact PS.r ⟨by nofun,PS.r (PE.i (wk h0 [] wTn wVn wLn))⟩
 rcases y with r|⟨⟩
 rintro ex tm' hp' ⟨rfl,hw⟩
 cases h
 exact hw
 rintro ex tm' hp' ⟨rfl,hw⟩
 try dsimp only
 try simp only[aM,reduceIte,Nat.reduceEqDiff,reduceCtorEq]
 refine AW.weak hw (ra hx ?_)
 refine AW.ret ?_
 cases h
 exact rv1
def br(ot:List ak):Option Bool:=bnd (bD ot) fun x1=>some (decide ((0:Int)≤x1))
theorem gI {ot:List ak}{r:Bool}(h:br ot=some r):aB prog 102 [dL aj ot,.e (.lit (.func (.func 103) #[] #[]))] (dB r):=by
 refine bL (rs:=[.tmp 4]) (fun cx hx h0=>?_) func102
 unfold br at h
 refine ra hx ?_
 refine rs hx fun K hK=>?_
 iterate 2 refine sa ?_
 refine scb h g5 fun x1 h=>?_
 iterate 2 refine sa ?_
 refine .nil (hK _ _ (AW.ret ?_))
 cases h
 exact rv1
def cG(eJ:List ak):Option Bool:=bnd (br eJ) fun x1=>some (!x1)
theorem gA {eJ:List ak}{r:Bool}(h:cG eJ=some r):aB prog 58 [dL aj eJ] (dB r):=by
 refine bL (rs:=[.tmp 2]) (fun cx hx h0=>?_) func58
 unfold cG at h
 refine ra hx ?_
 refine rs hx fun K hK=>?_
 refine sa ?_
 refine scb h gI fun x1 h=>?_
 iterate 2 refine sa ?_
 refine .nil (hK _ _ (AW.ret ?_))
 cases h
 exact rv1
def dt(fR:av):Option Int:=bnd (S:=Bool) (cnd (decide (fR.vR<(0:Int))) (some (true)) (cnd (decide ((200:Int)<fR.vR)) (some (true)) (cnd (decide (fR.vC<(0:Int))) (some (true)) (some (decide ((200:Int)<fR.vC)))))) fun kS=>cnd kS (some (2:Int)) (bnd (S:=Bool) (cnd (decide (((fR.vV).length:Int)≠(i64.wrap (fR.vR*fR.vC)))) (some (true)) (bnd (cG fR.vV) fun x7=>some (!x7))) fun kA=>cnd kA (some (1:Int)) (some (0:Int)))
theorem qd {fR:av}{r:Int}(h:dt fR=some r):aB prog 11 [dG aR fR] (dI .i64 r):=by
 refine bL (rs:=[.tmp 2]) (fun cx hx h0=>?_) func11
 unfold dt at h
 refine rs hx fun K hK=>?_
 refine s1 (d:=.pt 0 0) iN ?_
 refine sa ?_
 refine .nil (hK _ _ (AW.seq (AW.block (AW.seq ?_))))
 obtain⟨kS,hy,h⟩:=ah h
 refine jn ((PE cx .normal (fun kS=>[(1,.pt 0 0),(3,dB kS)]) fun kS=>⟨[(0,[dI .i64 fR.vR,dI .i64 fR.vC,dL aj fR.vV])],[],1⟩) kS) ?_ ?_
 replace h:=hy
 refine rq hx fun K hK=>?_
 refine sa ?_
 refine s1 (bc a6) ?_
 iterate 2 refine sa ?_
 rcases aZ (decide (fR.vR<(0:Int))) with cE|cE
 replace h:=a3 cE h
 iterate 3 refine aI rfl rfl cE ?_
 refine s1 (al cE) ?_
 refine sa ?_
 iterate 3 refine aI rfl rfl rfl ?_
 refine s1 (al rfl) ?_
 refine sa ?_
 iterate 3 refine aI rfl rfl rfl ?_
 refine s1 (al rfl) ?_
 refine sa ?_
 refine .nil (hK _ _ ?_)
 cases h
 exact pe0 h0 [0]
 replace h:=a4 cE h
 refine ga cE ?_
 refine g1 cE (bc a6) ?_
 refine ga cE ?_
 refine s1 (au cE) ?_
 refine sa ?_
 rcases aZ (decide ((200:Int)<fR.vR)) with lR|lR
 replace h:=a3 lR h
 iterate 3 refine aI rfl rfl lR ?_
 refine s1 (al lR) ?_
 refine sa ?_
 iterate 3 refine aI rfl rfl rfl ?_
 refine s1 (al rfl) ?_
 refine sa ?_
 refine .nil (hK _ _ ?_)
 cases h
 exact pe0 h0 [0]
 replace h:=a4 lR h
 refine ga lR ?_
 refine g1 lR (bc a6) ?_
 refine ga lR ?_
 refine s1 (au lR) ?_
 refine sa ?_
 rcases aZ (decide (fR.vC<(0:Int))) with bm|bm
 replace h:=a3 bm h
 iterate 3 refine aI rfl rfl bm ?_
 refine s1 (al bm) ?_
 refine sa ?_
 refine .nil (hK _ _ ?_)
 cases h
 exact pe0 h0 [0]
 replace h:=a4 bm h
 refine ga bm ?_
 refine g1 bm (bc a6) ?_
 refine ga bm ?_
 refine s1 (au bm) ?_
 refine sa ?_
 refine .nil (hK _ _ ?_)
 cases h
 exact pe0 h0 [0]
 rintro ex tm' hp' ⟨rfl,hw⟩
 refine AW.weak hw (cdh h rfl (fun nE h=>?_) (fun nE h=>?_))
 refine ra hx ?_
 refine AW.ret ?_
 cases h
 exact rv1
 refine AW.seq ?_
 obtain⟨kA,hy,h⟩:=ah h
 refine jn ((PE cx .normal (fun kA=>[(22,dB kA)]) fun kA=>⟨[],[],0⟩) kA) ?_ ?_
 replace h:=hy
 refine rq hx fun K hK=>?_
 refine sa ?_
 refine s1 (bc aP) ?_
 iterate 2 refine sa ?_
 refine s1 (bc a6) ?_
 refine sa ?_
 refine s1 (bc a6) ?_
 iterate 3 refine sa ?_
 rcases aZ (decide (((fR.vV).length:Int)≠(i64.wrap (fR.vR*fR.vC)))) with dy|dy
 replace h:=a3 dy h
 iterate 4 refine aI rfl rfl dy ?_
 refine s1 (al dy) ?_
 refine sa ?_
 refine .nil (hK _ _ ?_)
 cases h
 exact pe0 h0 []
 replace h:=a4 dy h
 refine ga dy ?_
 refine g1 dy (bc aP) ?_
 obtain⟨x7,xZ,h⟩:=ah h
 refine g1 dy (dP rfl (gA xZ) rfl (lA (ao _) lAn) (.inl rfl)) ?_
 refine ga dy ?_
 refine s1 (au dy) ?_
 refine sa ?_
 refine .nil (hK _ _ ?_)
 cases h
 exact pe0 h0 []
 rintro ex tm' hp' ⟨rfl,hw⟩
 refine AW.weak hw (cdh h rfl (fun fh h=>?_) (fun fh h=>?_))
 refine ra hx ?_
 refine AW.ret ?_
 cases h
 exact rv1
 refine AW.skip (ra hx ?_)
 refine AW.ret ?_
 cases h
 exact rv1
def jt(fR:av):Option Bool:=bnd (dt fR) fun x1=>some (decide (x1≠(0:Int)))
theorem xr {fR:av}{r:Bool}(h:jt fR=some r):aB prog 107 [dG aR fR] (dB r):=by
 refine bL (rs:=[.tmp 2]) (fun cx hx h0=>?_) func107
 unfold jt at h
 refine rs hx fun K hK=>?_
 refine s1 (d:=.pt 0 0) iN ?_
 refine sa ?_
 refine .nil (hK _ _ (rs hx fun K hK=>?_))
 refine s1 (d:=dG aR fR) (bS ax) ?_
 refine scb h qd fun x1 h=>?_
 iterate 2 refine sa ?_
 refine .nil (hK _ _ (AW.ret ?_))
 cases h
 exact rv1
def aV(ot:List av):Int→Option (Int⊕(Int⊕Unit)):=fun aS=>cnd (decide (aS<((ot).length:Int))) (gd (0≤aS∧aS<((ot).length:Int)) (bnd (jt ((ot)[(aS).toNat]!)) fun x4=>cnd x4 (some (.inr (.inl aS))) (some (.inl (i64.wrap (aS+(1:Int))))))) (some (.inr (.inr ())))
def bi(ot:List av):Option Int:=bnd (a5 (aV ot) (0:Int)) fun y7=>match y7 with| .inl r=>some r| .inr ()=>some (-1:Int)
theorem gX {ot:List av}{r:Int}(h:bi ot=some r):aB prog 136 [dL aR ot,.e (.lit (.func (.func 107) #[] #[]))] (dI .i64 r):=by
 refine bL (rs:=[.tmp 4]) (fun cx hx h0=>?_) func136
 unfold bi at h
 refine ra hx ?_
 refine AW.seq (ra hx ?_)
 refine AW.block ?_
 obtain⟨y,hy,h⟩:=ah h
 refine lp (S:=Int) (X:=Int⊕Unit) (fun aS=>[(0,dL aR ot),(1,.e (.lit (.func (.func 107) #[] #[]))),(7,dI .i64 ((ot).length:Int)),(8,dI .i64 aS)]) (fun aS=>⟨[],[],0⟩) (PS (PR [.tmp 4] fun r=>dI .i64 r) (PE cx (.exit 0) (fun ()=>[]) fun ()=>⟨[],[],0⟩)) hy ?_ ?_ ?_
 exact wk h0 [] (wR rfl (wR rfl (wR rfl (wR rfl wTn)))) wVn wLn
 clear hy h
 rintro aS y h
 dsimp only[aV] at h
 refine ra hx ?_
 refine AW.seq (cdh h rfl (fun cE h=>?_) (fun cE h=>?_))
 refine AW.skip (AW.seq (AW.block (ra hx ?_)))
 refine rs hx fun K hK=>?_
 iterate 3 refine sa ?_
 obtain⟨ni,h⟩:=aC h
 have pU:(aS).toNat<(ot).length:=by omega
 refine s1 (fZ ni pp ax) ?_
 refine s1 (d:=dG aR ((ot)[(aS).toNat]!)) (pl (c:=aR) (l:=ot) (n:=(aS).toNat) (o:=0) ax pU (jM _ _ rfl)) ?_
 refine scb h xr fun x4 h=>?_
 refine .nil (hK _ _ (cdh h rfl (fun dy h=>?_) (fun dy h=>?_)))
 refine ra hx ?_
 refine AW.ret ?_
 cases h
 refine PS.r ⟨by nofun,PS.l (PR.i ?_)⟩
 exact rv1
 refine AW.skip (rb hx ?_)
 cases h
 exact PS.l (pe0 h0 [])
 refine AW.exit ?_
 try dsimp only
 try simp only[aM,reduceIte,Nat.reduceEqDiff,reduceCtorEq]
 cases h
 exact PS.r ⟨by nofun,PS.r (PE.i (wk h0 [] wTn wVn wLn))⟩
 rcases y with r|⟨⟩
 rintro ex tm' hp' ⟨rfl,hw⟩
 cases h
 exact hw
 rintro ex tm' hp' ⟨rfl,hw⟩
 try dsimp only
 try simp only[aM,reduceIte,Nat.reduceEqDiff,reduceCtorEq]
 refine AW.weak hw (ra hx ?_)
 refine AW.ret ?_
 cases h
 exact rv1
def bb(ot:List av):Option Bool:=bnd (bi ot) fun x1=>some (decide ((0:Int)≤x1))
theorem gm {ot:List av}{r:Bool}(h:bb ot=some r):aB prog 106 [dL aR ot,.e (.lit (.func (.func 107) #[] #[]))] (dB r):=by
 refine bL (rs:=[.tmp 4]) (fun cx hx h0=>?_) func106
 unfold bb at h
 refine ra hx ?_
 refine rs hx fun K hK=>?_
 iterate 2 refine sa ?_
 refine scb h gX fun x1 h=>?_
 iterate 2 refine sa ?_
 refine .nil (hK _ _ (AW.ret ?_))
 cases h
 exact rv1
def bG(eJ:List av):Option Bool:=bnd (bb eJ) fun x1=>some (!x1)
theorem d6 {eJ:List av}{r:Bool}(h:bG eJ=some r):aB prog 62 [dL aR eJ] (dB r):=by
 refine bL (rs:=[.tmp 2]) (fun cx hx h0=>?_) func62
 unfold bG at h
 refine ra hx ?_
 refine rs hx fun K hK=>?_
 refine sa ?_
 refine scb h gm fun x1 h=>?_
 iterate 2 refine sa ?_
 refine .nil (hK _ _ (AW.ret ?_))
 cases h
 exact rv1
def mA(cf:Int)(bR:Int)(lj:List ak):Option (av×Int):=bnd (fC lj) fun x1=>bnd (dt (⟨cf,bR,x1⟩:av)) fun x3=>cnd (decide (x3≠(0:Int))) (some ((⟨(0:Int),(0:Int),([]:List ak)⟩:av),x3)) (some ((⟨cf,bR,x1⟩:av),(0:Int)))
theorem Co {cf:Int}{bR:Int}{lj:List ak}{r:av×Int}(h:mA cf bR lj=some r):aB prog 50 [dI .i64 cf,dI .i64 bR,dL aj lj] (.tu [dG aR r.1,dI .i64 r.2]):=by
 refine bL (rs:=[.cell 6 24,.tmp 7]) (fun cx hx h0=>?_) func50
 unfold mA at h
 refine rs hx fun K hK=>?_
 refine s1 (d:=.pt 0 0) (bZ ax) ?_
 refine sa ?_
 refine .nil (hK _ _ (rs hx fun K hK=>?_))
 iterate 3 refine sa ?_
 obtain⟨x1,yb,h⟩:=ah h
 refine s1 (Ac rfl (ol yb) rfl (lA (ao _) lAn)) ?_
 refine s2 (d2:=dG aR (⟨cf,bR,x1⟩:av)) (cY (es:=[dI .i64 cf,dI .i64 bR,dO 1 aj x1]) ax) (lD (wc (gY _) (wc (gY _) (wc (GA _) wcn)))) ?_
 refine s1 (d:=.pt 2 0) (bZ ax) ?_
 refine s0 (dX (ds':=[dI .i64 cf,dI .i64 bR,dL aj x1]) ax) ?_
 refine .nil (hK _ _ (AW.seq (rs hx fun K hK=>?_)))
 refine s1 (d:=dG aR (⟨cf,bR,x1⟩:av)) (bS ax) ?_
 refine scb h qd fun x3 h=>?_
 refine sa ?_
 refine .nil (hK _ _ (ra hx ?_))
 refine cdh h rfl (fun nE h=>?_) (fun nE h=>?_)
 refine rs hx fun K hK=>?_
 refine s1 (d:=.ag [dI .i64 (0:Int),dI .i64 (0:Int),dN]) (cY ax) ?_
 refine sa ?_
 refine s0 (dX (ds':=[dI .i64 (0:Int),dI .i64 (0:Int),dN]) ax) ?_
 refine sa ?_
 refine .nil (hK _ _ (AW.ret ?_))
 cases h
 exact fK.mk2 (eD (es:=[dI .i64 (0:Int),dI .i64 (0:Int),dN]) rfl ax rfl rfl (ltb rfl) (leb rfl) rfl (bY rfl (.inr ⟨_,_,(lD (wc (gY _) (wc (gY _) (wc (vq rfl) wcn)))),(ao _),⟨rfl,rfl⟩,rfl⟩)))
 refine AW.skip (rs hx fun K hK=>?_)
 refine s1 (d:=dG aR (⟨cf,bR,x1⟩:av)) (bS ax) ?_
 refine s0 (dX (ds':=[dI .i64 cf,dI .i64 bR,dL aj x1]) ax) ?_
 refine sa ?_
 refine .nil (hK _ _ (AW.ret ?_))
 cases h
 exact fK.mk2 (eD (es:=(aR.f (⟨cf,bR,x1⟩:av)).map .e) rfl ax rfl rfl (ltb rfl) (leb rfl) rfl (bY rfl (.inr ⟨_,_,(ao _),(ao _),⟨rfl,rfl⟩,rfl⟩)))
def gg(nk:Int)(jg:Int):Option ak:=cnd (decide (nk=jg)) (bnd (eE (1:Int)) fun x2=>some x2) (bnd (eE (0:Int)) fun x4=>some x4)
theorem pG {nk:Int}{jg:Int}{r:ak}(h:gg nk jg=some r):aB prog 95 [dI .i64 nk,dI .i64 jg] (dG aj r):=by
 refine bL (rs:=[.cell 4 34]) (fun cx hx h0=>?_) func95
 unfold gg at h
 refine rs hx fun K hK=>?_
 refine s1 (bo (F:=aj.f cu) aD) ?_
 refine .nil (hK _ _ (AW.seq (ra hx ?_)))
 refine cdh h rfl (fun cE h=>?_) (fun cE h=>?_)
 refine rs hx fun K hK=>?_
 refine scb h iP fun x2 h=>?_
 refine s0 (aO (b':=x2) (an.id _ _) aD) ?_
 refine .nil (hK _ _ (AW.ret ?_))
 cases h
 exact rv1
 refine AW.skip (rs hx fun K hK=>?_)
 refine scb h iP fun x4 h=>?_
 refine s0 (aO (b':=x4) (an.id _ _) aD) ?_
 refine .nil (hK _ _ (AW.ret ?_))
 cases h
 exact rv1
def cF(bR:Int)(aK:Int):Int×(List ak)→Option ((Int×(List ak))⊕((List ak))):=fun (bX,bf)=>cnd (decide (bX<bR)) (bnd (gg aK bX) fun x3=>gd ((bf++[x3]).length*136≤140737488355328) (some (.inl (i64.wrap (bX+(1:Int)),bf++[x3])))) (some (.inr bf))
def cO(cf:Int)(bR:Int):Int×(List ak)→Option ((Int×(List ak))⊕((List ak))):=fun (aK,aT)=>cnd (decide (aK<cf)) (bnd (a5 (cF bR aK) ((0:Int),aT)) fun bE=>some (.inl (i64.wrap (aK+(1:Int)),bE))) (some (.inr aT))
def ct(cf:Int)(bR:Int):Option (av×Int):=bnd (a5 (cO cf bR) ((0:Int),([]:List ak))) fun aG=>bnd (cG aG) fun x8=>cnd (!x8) (some ((⟨(0:Int),(0:Int),([]:List ak)⟩:av),(30:Int))) (some ((⟨cf,bR,aG⟩:av),(0:Int)))
theorem n4 {cf:Int}{bR:Int}{r:av×Int}(h:ct cf bR=some r):aB prog 73 [dI .i64 cf,dI .i64 bR,.e (.lit (.func (.func 95) #[] #[]))] (.tu [dG aR r.1,dI .i64 r.2]):=by
 refine bL (rs:=[.cell 6 24,.tmp 7]) (fun cx hx h0=>?_) func73
 unfold ct at h
 refine rs hx fun K hK=>?_
 refine s1 (d:=.pt 0 0) (bZ ax) ?_
 refine sa ?_
 refine .nil (hK _ _ (rs hx fun K hK=>?_))
 iterate 2 refine sa ?_
 refine s1 (d:=.ag [dI .i64 cf,dI .i64 bR,dN]) (cY ax) ?_
 refine s1 (d:=.pt 1 0) (bZ ax) ?_
 refine s0 (dX (ds':=[dI .i64 cf,dI .i64 bR,dN]) ax) ?_
 refine .nil (hK _ _ (AW.seq (ra hx ?_)))
 refine AW.block ?_
 obtain⟨aG,hy,h⟩:=ah h
 refine lp (S:=Int×(List ak)) (X:=(List ak)) (fun (aK,aT)=>[(1,dI .i64 bR),(2,.e (.lit (.func (.func 95) #[] #[]))),(6,.pt 0 0),(8,.pt 1 0),(14,dI .i64 cf),(15,dI .i64 aK)]) (fun (aK,aT)=>⟨[(0,[dI .i64 (0:Int),dI .i64 (0:Int),dN]),(1,[dI .i64 cf,dI .i64 bR,dO 2 aj aT])],[(2,(aT).length,36,34)],3⟩) (PE cx (.exit 0) (fun aG=>[(6,.pt 0 0),(8,.pt 1 0)]) fun aG=>⟨[(0,[dI .i64 (0:Int),dI .i64 (0:Int),dN]),(1,[dI .i64 cf,dI .i64 bR,dO 2 aj aG])],[(2,(aG).length,36,34)],3⟩) hy ?_ ?_ ?_
 exact Wk.trans (Wk.nilOwn (ds':=[dI .i64 cf,dI .i64 bR,dO 2 aj ([]:List ak)]) 1 2 34 36) (wk h0 [0,1,2] (wR rfl (wR rfl (wR rfl (wR rfl (wR rfl (wR rfl wTn)))))) (vR rfl (vR rfl wVn)) (wL rfl rfl wLn))
 clear hy h
 rintro⟨aK,aT⟩ y h
 dsimp only[cO] at h
 refine ra hx ?_
 refine AW.seq (cdh h rfl (fun cE h=>?_) (fun cE h=>?_))
 refine AW.skip (AW.seq (AW.block ?_))
 iterate 2 refine ra hx ?_
 refine AW.block ?_
 obtain⟨bE,hy,h⟩:=ah h
 refine lp (S:=Int×(List ak)) (X:=(List ak)) (fun (bX,bf)=>[(1,dI .i64 bR),(2,.e (.lit (.func (.func 95) #[] #[]))),(6,.pt 0 0),(8,.pt 1 0),(9,dI .i64 aK),(14,dI .i64 cf),(15,dI .i64 aK),(18,dI .i64 bR),(19,dI .i64 bX)]) (fun (bX,bf)=>⟨[(0,[dI .i64 (0:Int),dI .i64 (0:Int),dN]),(1,[dI .i64 cf,dI .i64 bR,dO 2 aj bf])],[(2,(bf).length,36,34)],3⟩) (PE cx (.exit 2) (fun bE=>[(1,dI .i64 bR),(2,.e (.lit (.func (.func 95) #[] #[]))),(6,.pt 0 0),(8,.pt 1 0),(14,dI .i64 cf),(15,dI .i64 aK)]) fun bE=>⟨[(0,[dI .i64 (0:Int),dI .i64 (0:Int),dN]),(1,[dI .i64 cf,dI .i64 bR,dO 2 aj bE])],[(2,(bE).length,36,34)],3⟩) hy ?_ ?_ ?_
 exact wk h0 [0,1,2] (wR rfl (wR rfl (wR rfl (wR rfl (wR rfl (wR rfl (wR rfl (wR rfl (wR rfl wTn))))))))) (vR rfl (vR rfl wVn)) (wL rfl rfl wLn)
 clear hy h
 rintro⟨bX,bf⟩ y h
 dsimp only[cF] at h
 refine ra hx ?_
 refine AW.seq (cdh h rfl (fun lR h=>?_) (fun lR h=>?_))
 refine AW.skip (AW.seq (AW.block (ra hx ?_)))
 obtain⟨x3,ya,h⟩:=ah h
 obtain⟨CG,h⟩:=aC h
 refine jn (PE cx .normal (fun (_:Unit)=>[(1,dI .i64 bR),(2,.e (.lit (.func (.func 95) #[] #[]))),(6,.pt 0 0),(8,.pt 1 0),(9,dI .i64 aK),(14,dI .i64 cf),(15,dI .i64 aK),(18,dI .i64 bR),(19,dI .i64 bX)]) (fun (_:Unit)=>⟨[(0,[dI .i64 (0:Int),dI .i64 (0:Int),dN]),(1,[dI .i64 cf,dI .i64 bR,dO 2 aj (bf++[x3])])],[(2,(bf++[x3]).length,36,34)],3⟩) ()) ?_ ?_
 refine dw (DW.split 1 5 (by decide) ?_ ?_)
 refine dwg [] [0,1,2,3,4,5,6,7,8,9] hx (by kernel_rfl) (by kernel_rfl) (by kernel_rfl) fun K hK=>?_
 dsimp only[d8,nj,nA,List.map]
 refine sa ?_
 refine s1 (bc aP) ?_
 iterate 3 refine sa ?_
 refine sc (pG ya) ?_
 refine s1 (lf ([x3]:List ak) aj aP aD) ?_
 refine s1 (d:=dO 2 aj (bf++[x3])) (iS aP aD CG) ?_
 refine sa ?_
 refine s0 (dX (ds':=[dI .i64 cf,dI .i64 bR,dO 2 aj (bf++[x3])]) aP) ?_
 exact .nil (hK _ _ (pe0 h0 [0,1,2]))
 refine dwg [] [0,2,3,4,5,1,6,7,8,9] hx (by kernel_rfl) (by kernel_rfl) (by kernel_rfl) fun K hK=>?_
 dsimp only[d8,nj,nA,List.map]
 iterate 4 refine sa ?_
 refine sc (pG ya) ?_
 refine s1 (bc aP) ?_
 refine s1 (lf ([x3]:List ak) aj aP aD) ?_
 refine s1 (d:=dO 2 aj (bf++[x3])) (iS aP aD CG) ?_
 refine sa ?_
 refine s0 (dX (ds':=[dI .i64 cf,dI .i64 bR,dO 2 aj (bf++[x3])]) aP) ?_
 exact .nil (hK _ _ (pe0 h0 [0,1,2]))
 rintro ex tm' hp' ⟨rfl,hw⟩
 refine AW.weak hw (rb hx ?_)
 cases h
 exact PS.l (pe0 h0 [0,1,2])
 refine AW.exit ?_
 try dsimp only
 try simp only[aM,reduceIte,Nat.reduceEqDiff,reduceCtorEq]
 cases h
 exact PS.r ⟨by nofun,PE.i (wk h0 [0,1,2] (wR rfl (wR rfl (wR rfl (wR rfl (wR rfl (wR rfl wTn)))))) (vR rfl (vR rfl wVn)) (wL rfl rfl wLn))⟩
 rintro ex tm' hp' ⟨rfl,hw⟩
 try dsimp only
 try simp only[aM,reduceIte,Nat.reduceEqDiff,reduceCtorEq]
 refine AW.weak hw (rb hx ?_)
 cases h
 exact PS.l (pe0 h0 [0,1,2])
 refine AW.exit ?_
 try dsimp only
 try simp only[aM,reduceIte,Nat.reduceEqDiff,reduceCtorEq]
 cases h
 exact PS.r ⟨by nofun,PE.i (wk h0 [0,1,2] (wR rfl (wR rfl wTn)) (vR rfl (vR rfl wVn)) (wL rfl rfl wLn))⟩
 rintro ex tm' hp' ⟨rfl,hw⟩
 try dsimp only
 try simp only[aM,reduceIte,Nat.reduceEqDiff,reduceCtorEq]
 refine AW.weak hw (AW.seq (rs hx fun K hK=>?_))
 refine sa ?_
 refine s1 (bc aP) ?_
 refine scb h gA fun x8 h=>?_
 refine sa ?_
 refine .nil (hK _ _ (cdh h rfl (fun fh h=>?_) (fun fh h=>?_)))
 refine rs hx fun K hK=>?_
 refine s1 (d:=.ag [dI .i64 (0:Int),dI .i64 (0:Int),dN]) (cY ax) ?_
 refine s0 (dX (ds':=[dI .i64 (0:Int),dI .i64 (0:Int),dN]) ax) ?_
 refine sa ?_
 refine .nil (hK _ _ (AW.ret ?_))
 cases h
 exact fK.mk2 (eD (es:=[dI .i64 (0:Int),dI .i64 (0:Int),dN]) rfl ax rfl rfl (ltb rfl) (leb rfl) rfl (bY rfl (.inr ⟨_,_,(lD (wc (gY _) (wc (gY _) (wc (vq rfl) wcn)))),(ao _),⟨rfl,rfl⟩,rfl⟩)))
 refine AW.skip (rs hx fun K hK=>?_)
 refine s1 (d:=.ag [dI .i64 cf,dI .i64 bR,dO 2 aj aG]) (bS ax) ?_
 refine s0 (dX (ds':=[dI .i64 cf,dI .i64 bR,dO 2 aj aG]) ax) ?_
 refine sa ?_
 refine .nil (hK _ _ (AW.ret ?_))
 cases h
 exact fK.mk2 (eD (es:=[dI .i64 cf,dI .i64 bR,dO 2 aj aG]) rfl ax rfl rfl (ltb rfl) (leb rfl) rfl (bY rfl (.inr ⟨_,_,(lD (wc (gY _) (wc (gY _) (wc (GA _) wcn)))),(ao _),⟨rfl,rfl⟩,rfl⟩)))
def fV(db:Int):Option av:=bnd (S:=Bool) (cnd (decide (db<(0:Int))) (some (true)) (some (decide ((200:Int)<db)))) fun bB=>cnd bB (some (⟨(0:Int),(0:Int),([]:List ak)⟩:av)) (bnd (ct db db) fun x4=>some x4.1)
theorem wm {db:Int}{r:av}(h:fV db=some r):aB prog 43 [dI .i64 db] (dG aR r):=by
 refine bL (rs:=[.cell 2 24]) (fun cx hx h0=>?_) func43
 unfold fV at h
 refine rs hx fun K hK=>?_
 refine s1 (d:=.pt 0 0) (bZ ax) ?_
 refine .nil (hK _ _ ?_)
 iterate 2 refine AW.seq ?_
 obtain⟨bB,hy,h⟩:=ah h
 refine jn ((PE cx .normal (fun bB=>[(0,dI .i64 db),(2,.pt 0 0),(10,dB bB)]) fun bB=>⟨[(0,[dI .i64 (0:Int),dI .i64 (0:Int),dN])],[],1⟩) bB) ?_ ?_
 replace h:=hy
 refine rq hx fun K hK=>?_
 iterate 3 refine sa ?_
 rcases aZ (decide (db<(0:Int))) with cE|cE
 replace h:=a3 cE h
 iterate 2 refine aI rfl rfl cE ?_
 refine s1 (al cE) ?_
 refine .nil (hK _ _ ?_)
 cases h
 exact pe0 h0 [0]
 replace h:=a4 cE h
 iterate 2 refine ga cE ?_
 refine s1 (au cE) ?_
 refine .nil (hK _ _ ?_)
 cases h
 exact pe0 h0 [0]
 rintro ex tm' hp' ⟨rfl,hw⟩
 refine AW.weak hw (cdh h rfl (fun bm h=>?_) (fun bm h=>?_))
 refine rs hx fun K hK=>?_
 refine s1 (d:=.ag [dI .i64 (0:Int),dI .i64 (0:Int),dN]) (cY ax) ?_
 refine s0 (dX (ds':=[dI .i64 (0:Int),dI .i64 (0:Int),dN]) ax) ?_
 refine .nil (hK _ _ (AW.ret ?_))
 cases h
 exact fK.mk1 (eD (es:=[dI .i64 (0:Int),dI .i64 (0:Int),dN]) rfl ax rfl rfl (ltb rfl) (leb rfl) rfl (.inr (.inr ⟨_,(lD (wc (gY _) (wc (gY _) (wc (vq rfl) wcn)))),rfl,rfl⟩)))
 refine AW.skip (rs hx fun K hK=>?_)
 iterate 2 refine sa ?_
 refine scb h n4 fun x4 h=>?_
 iterate 3 refine sa ?_
 refine s1 (d:=.pt 1 0) (bZ ax) ?_
 refine s0 (dX (ds':=[dI .i64 x4.1.vR,dI .i64 x4.1.vC,dL aj x4.1.vV]) ax) ?_
 refine sa ?_
 refine .nil (hK _ _ (rs hx fun K hK=>?_))
 refine s1 (d:=dG aR x4.1) (bS ax) ?_
 refine s0 (dX (ds':=[dI .i64 x4.1.vR,dI .i64 x4.1.vC,dL aj x4.1.vV]) ax) ?_
 refine .nil (hK _ _ (AW.ret ?_))
 cases h
 exact fK.mk1 (eD (es:=(aR.f x4.1).map .e) rfl ax rfl rfl (ltb rfl) (leb rfl) rfl (.inr (.inr ⟨_,(ao _),rfl,rfl⟩)))
def b9(fR:av)(nk:Int)(jg:Int):Option ak:=gd (0≤i64.wrap ((i64.wrap (nk*fR.vC))+jg)∧i64.wrap ((i64.wrap (nk*fR.vC))+jg)<((fR.vV).length:Int)) (bnd (some ((fR.vV)[(i64.wrap ((i64.wrap (nk*fR.vC))+jg)).toNat]!)) fun x3=>some x3)
theorem dp {fR:av}{nk:Int}{jg:Int}{r:ak}(h:b9 fR nk jg=some r):aB prog 75 [dG aR fR,dI .i64 nk,dI .i64 jg] (dG aj r):=by
 refine bL (rs:=[.cell 6 34]) (fun cx hx h0=>?_) func75
 unfold b9 at h
 refine rs hx fun K hK=>?_
 refine s1 (d:=.pt 0 0) iN ?_
 refine s1 (bo (F:=aj.f cu) aD) ?_
 refine .nil (hK _ _ (rs hx fun K hK=>?_))
 refine sa ?_
 refine s1 (bc aP) ?_
 iterate 2 refine sa ?_
 refine s1 (bc a6) ?_
 iterate 3 refine sa ?_
 obtain⟨Kg,h⟩:=aC h
 have GJ:(i64.wrap ((i64.wrap (nk*fR.vC))+jg)).toNat<(fR.vV).length:=by omega
 refine s1 (fZ Kg aP aD) ?_
 refine s1 (d:=dG aj ((fR.vV)[(i64.wrap ((i64.wrap (nk*fR.vC))+jg)).toNat]!)) (pl (c:=aj) (l:=fR.vV) (n:=(i64.wrap ((i64.wrap (nk*fR.vC))+jg)).toNat) (o:=0) aD GJ (jM _ _ rfl)) ?_
 obtain⟨x3,ya,h⟩:=ah h
 replace ya:=co ya
 refine s0 (j6 (b':=(fR.vV)[(i64.wrap ((i64.wrap (nk*fR.vC))+jg)).toNat]!) (an.id _ _) aD ya) ?_
 refine .nil (hK _ _ (AW.ret ?_))
 cases h
 exact rv1
def pe(fR:av)(nk:Int)(jg:Int):Option ak:=bnd (S:=Bool) (bnd (bG [fR]) fun x1=>cnd (!x1) (some (true)) (cnd (decide (nk<(0:Int))) (some (true)) (cnd (decide (fR.vR≤nk)) (some (true)) (cnd (decide (jg<(0:Int))) (some (true)) (some (decide (fR.vC≤jg))))))) fun bB=>cnd bB (bnd (fb) fun x9=>some x9) (bnd (b9 fR nk jg) fun s8=>some s8)
theorem FM {fR:av}{nk:Int}{jg:Int}{r:ak}(h:pe fR nk jg=some r):aB prog 44 [dG aR fR,dI .i64 nk,dI .i64 jg] (dG aj r):=by
 refine bL (rs:=[.cell 6 34]) (fun cx hx h0=>?_) func44
 unfold pe at h
 refine rs hx fun K hK=>?_
 refine s1 (d:=.pt 0 0) iN ?_
 refine s1 (bo (F:=aj.f cu) aD) ?_
 refine .nil (hK _ _ ?_)
 iterate 2 refine AW.seq ?_
 obtain⟨bB,hy,h⟩:=ah h
 refine jn ((PE cx .normal (fun bB=>[(1,dI .i64 nk),(2,dI .i64 jg),(3,.pt 0 0),(6,.pt 1 0),(30,dB bB)]) fun bB=>⟨[(0,[dI .i64 fR.vR,dI .i64 fR.vC,dL aj fR.vV]),(1,dC (aj.f cu))],[],2⟩) bB) ?_ ?_
 replace h:=hy
 refine rq hx fun K hK=>?_
 refine s1 (d:=dG aR fR) (bS ax) ?_
 refine s1 (d:=dO 2 aR [fR]) (iM pp ax) ?_
 refine scb h d6 fun x1 h=>?_
 iterate 2 refine sa ?_
 rcases aZ (!x1) with bm|bm
 replace h:=a3 bm h
 iterate 2 refine aI rfl rfl bm ?_
 refine s1 (al bm) ?_
 refine sa ?_
 iterate 4 refine aI rfl rfl rfl ?_
 refine s1 (al rfl) ?_
 refine sa ?_
 iterate 2 refine aI rfl rfl rfl ?_
 refine s1 (al rfl) ?_
 refine sa ?_
 iterate 4 refine aI rfl rfl rfl ?_
 refine s1 (al rfl) ?_
 refine .nil (hK _ _ ?_)
 cases h
 exact pe0 h0 [0,1]
 replace h:=a4 bm h
 iterate 2 refine ga bm ?_
 refine s1 (au bm) ?_
 refine sa ?_
 rcases aZ (decide (nk<(0:Int))) with mr|mr
 replace h:=a3 mr h
 iterate 4 refine aI rfl rfl mr ?_
 refine s1 (al mr) ?_
 refine sa ?_
 iterate 2 refine aI rfl rfl rfl ?_
 refine s1 (al rfl) ?_
 refine sa ?_
 iterate 4 refine aI rfl rfl rfl ?_
 refine s1 (al rfl) ?_
 refine .nil (hK _ _ ?_)
 cases h
 exact pe0 h0 [0,1]
 replace h:=a4 mr h
 iterate 2 refine ga mr ?_
 refine g1 mr (bc a6) ?_
 refine ga mr ?_
 refine s1 (au mr) ?_
 refine sa ?_
 rcases aZ (decide (fR.vR≤nk)) with nE|nE
 replace h:=a3 nE h
 iterate 2 refine aI rfl rfl nE ?_
 refine s1 (al nE) ?_
 refine sa ?_
 iterate 4 refine aI rfl rfl rfl ?_
 refine s1 (al rfl) ?_
 refine .nil (hK _ _ ?_)
 cases h
 exact pe0 h0 [0,1]
 replace h:=a4 nE h
 iterate 2 refine ga nE ?_
 refine s1 (au nE) ?_
 refine sa ?_
 rcases aZ (decide (jg<(0:Int))) with dy|dy
 replace h:=a3 dy h
 iterate 4 refine aI rfl rfl dy ?_
 refine s1 (al dy) ?_
 refine .nil (hK _ _ ?_)
 cases h
 exact pe0 h0 [0,1]
 replace h:=a4 dy h
 iterate 2 refine ga dy ?_
 refine g1 dy (bc a6) ?_
 refine ga dy ?_
 refine s1 (au dy) ?_
 refine .nil (hK _ _ ?_)
 cases h
 exact pe0 h0 [0,1]
 rintro ex tm' hp' ⟨rfl,hw⟩
 refine AW.weak hw (cdh h rfl (fun oe h=>?_) (fun oe h=>?_))
 refine rs hx fun K hK=>?_
 refine scb h lq fun x9 h=>?_
 refine s0 (aO (b':=x9) (an.id _ _) aD) ?_
 refine .nil (hK _ _ (AW.ret ?_))
 cases h
 exact rv1
 refine AW.skip (rs hx fun K hK=>?_)
 refine s1 (d:=dG aR fR) (bS ax) ?_
 iterate 2 refine sa ?_
 refine scb h dp fun s8 h=>?_
 refine s0 (aO (b':=s8) (an.id _ _) aD) ?_
 refine .nil (hK _ _ (AW.ret ?_))
 cases h
 exact rv1
def kq(lj:List ak):Option av:=bnd (mA ((lj).length:Int) (1:Int) lj) fun x1=>some x1.1
theorem zG {lj:List ak}{r:av}(h:kq lj=some r):aB prog 32 [dL aj lj] (dG aR r):=by
 refine bL (rs:=[.cell 2 24]) (fun cx hx h0=>?_) func32
 unfold kq at h
 refine rs hx fun K hK=>?_
 refine s1 (d:=.pt 0 0) (bZ ax) ?_
 refine .nil (hK _ _ (rs hx fun K hK=>?_))
 iterate 3 refine sa ?_
 refine scb h Co fun x1 h=>?_
 iterate 3 refine sa ?_
 refine s1 (d:=.pt 1 0) (bZ ax) ?_
 refine s0 (dX (ds':=[dI .i64 x1.1.vR,dI .i64 x1.1.vC,dL aj x1.1.vV]) ax) ?_
 refine sa ?_
 refine .nil (hK _ _ (rs hx fun K hK=>?_))
 refine s1 (d:=dG aR x1.1) (bS ax) ?_
 refine s0 (dX (ds':=[dI .i64 x1.1.vR,dI .i64 x1.1.vC,dL aj x1.1.vV]) ax) ?_
 refine .nil (hK _ _ (AW.ret ?_))
 cases h
 exact fK.mk1 (eD (es:=(aR.f x1.1).map .e) rfl ax rfl rfl (ltb rfl) (leb rfl) rfl (.inr (.inr ⟨_,(ao _),rfl,rfl⟩)))
def jA(nk:Int)(jg:Int)(bM:av)(fg:av):Option ak:=bnd (b9 bM nk jg) fun x1=>bnd (b9 fg nk jg) fun x3=>bnd (fM x1 x3) fun x5=>some x5
theorem rD {nk:Int}{jg:Int}{bM:av}{fg:av}{r:ak}(h:jA nk jg bM fg=some r):HC prog 87 [dI .i64 nk,dI .i64 jg,.pt 0 0,.pt 1 0] ⟨[(0,[dI .i64 bM.vR,dI .i64 bM.vC,dL aj bM.vV]),(1,[dI .i64 fg.vR,dI .i64 fg.vC,dL aj fg.vV])],[],2⟩ (dG aj r) ⟨[(0,[dI .i64 bM.vR,dI .i64 bM.vC,dL aj bM.vV]),(1,[dI .i64 fg.vR,dI .i64 fg.vC,dL aj fg.vV])],[],2⟩:=by
 refine HC.ofX (rs:=[.cell 6 34]) tok func87 rfl rfl (bg rfl) rfl (fun cx hx h1=>?_)
 have h0:cx.hp0.next=2:=by rw[h1]
 simp only[eg,Nat.reduceAdd,bq]
 unfold jA at h
 refine rs hx fun K hK=>?_
 refine s1 (bo (F:=aj.f cu) aD) ?_
 refine .nil (hK _ _ (rsd [75,85] hx fun K hK=>?_))
 refine s1 (d:=dG aR bM) (bS ax) ?_
 iterate 2 refine sa ?_
 refine cqb h dp fun x1 h=>?_
 refine s1 (d:=dG aR fg) (bS ax) ?_
 iterate 2 refine sa ?_
 refine cqb h dp fun x3 h=>?_
 refine cqb h tA fun x5 h=>?_
 refine s0 (aO (b':=x5) (an.id _ _) aD) ?_
 refine .nil (hK _ _ (AW.ret ?_))
 cases h
 exact⟨_,qh rfl aD rfl rfl (ltb rfl) (aj.h _) (rfl),qK.of_wk (by rw[hx];exact bg rfl) (wkN h0 [] (wG rfl (ao _) wTn) (vR rfl (vR rfl wVn)) wLn)⟩
def iW(bR:Int)(bM:av)(fg:av)(aK:Int):Int×(List ak)→Option ((Int×(List ak))⊕((List ak))):=fun (bX,bf)=>cnd (decide (bX<bR)) (bnd (jA aK bX bM fg) fun x3=>gd ((bf++[x3]).length*136≤140737488355328) (some (.inl (i64.wrap (bX+(1:Int)),bf++[x3])))) (some (.inr bf))
def jU(cf:Int)(bR:Int)(bM:av)(fg:av):Int×(List ak)→Option ((Int×(List ak))⊕((List ak))):=fun (aK,aT)=>cnd (decide (aK<cf)) (bnd (a5 (iW bR bM fg aK) ((0:Int),aT)) fun bE=>some (.inl (i64.wrap (aK+(1:Int)),bE))) (some (.inr aT))
def ko(cf:Int)(bR:Int)(bM:av)(fg:av):Option (av×Int):=bnd (a5 (jU cf bR bM fg) ((0:Int),([]:List ak))) fun aG=>bnd (cG aG) fun x8=>cnd (!x8) (some ((⟨(0:Int),(0:Int),([]:List ak)⟩:av),(30:Int))) (some ((⟨cf,bR,aG⟩:av),(0:Int)))
theorem zE {cf:Int}{bR:Int}{bM:av}{fg:av}{r:av×Int}(h:ko cf bR bM fg=some r):HC prog 73 [dI .i64 cf,dI .i64 bR,.fn 87 [0,1]] ⟨[(0,[dI .i64 bM.vR,dI .i64 bM.vC,dL aj bM.vV]),(1,[dI .i64 fg.vR,dI .i64 fg.vC,dL aj fg.vV])],[],2⟩ (.tu [dG aR r.1,dI .i64 r.2]) ⟨[(0,[dI .i64 bM.vR,dI .i64 bM.vC,dL aj bM.vV]),(1,[dI .i64 fg.vR,dI .i64 fg.vC,dL aj fg.vV])],[],2⟩:=by
 refine HC.ofX (rs:=[.cell 6 24,.tmp 7]) tok func73 rfl rfl (bg rfl) rfl (fun cx hx h1=>?_)
 have h0:cx.hp0.next=2:=by rw[h1]
 simp only[eg,Nat.reduceAdd,bq]
 unfold ko at h
 refine rs hx fun K hK=>?_
 refine s1 (d:=.pt 2 0) (bZ ax) ?_
 refine sa ?_
 refine .nil (hK _ _ (rs hx fun K hK=>?_))
 iterate 2 refine sa ?_
 refine s1 (d:=.ag [dI .i64 cf,dI .i64 bR,dN]) (cY ax) ?_
 refine s1 (d:=.pt 3 0) (bZ ax) ?_
 refine s0 (dX (ds':=[dI .i64 cf,dI .i64 bR,dN]) ax) ?_
 refine .nil (hK _ _ (AW.seq (ra hx ?_)))
 refine AW.block ?_
 obtain⟨aG,hy,h⟩:=ah h
 refine lp (S:=Int×(List ak)) (X:=(List ak)) (fun (aK,aT)=>[(1,dI .i64 bR),(2,.fn 87 [0,1]),(6,.pt 2 0),(8,.pt 3 0),(14,dI .i64 cf),(15,dI .i64 aK)]) (fun (aK,aT)=>⟨[(0,[dI .i64 bM.vR,dI .i64 bM.vC,dL aj bM.vV]),(1,[dI .i64 fg.vR,dI .i64 fg.vC,dL aj fg.vV]),(2,[dI .i64 (0:Int),dI .i64 (0:Int),dN]),(3,[dI .i64 cf,dI .i64 bR,dO 4 aj aT])],[(4,(aT).length,36,34)],5⟩) (PE cx (.exit 0) (fun aG=>[(6,.pt 2 0),(8,.pt 3 0)]) fun aG=>⟨[(0,[dI .i64 bM.vR,dI .i64 bM.vC,dL aj bM.vV]),(1,[dI .i64 fg.vR,dI .i64 fg.vC,dL aj fg.vV]),(2,[dI .i64 (0:Int),dI .i64 (0:Int),dN]),(3,[dI .i64 cf,dI .i64 bR,dO 4 aj aG])],[(4,(aG).length,36,34)],5⟩) hy ?_ ?_ ?_
 exact Wk.trans (Wk.nilOwn (ds':=[dI .i64 cf,dI .i64 bR,dO 4 aj ([]:List ak)]) 3 2 34 36) (wkN h0 [2,3,4] (wR rfl (wR rfl (wR rfl (wR rfl (wR rfl (wR rfl wTn)))))) (vR rfl (vR rfl (vR rfl (vR rfl wVn)))) (wL rfl rfl wLn))
 clear hy h
 rintro⟨aK,aT⟩ y h
 dsimp only[jU] at h
 refine ra hx ?_
 refine AW.seq (cdh h rfl (fun cE h=>?_) (fun cE h=>?_))
 refine AW.skip (AW.seq (AW.block ?_))
 iterate 2 refine ra hx ?_
 refine AW.block ?_
 obtain⟨bE,hy,h⟩:=ah h
 refine lp (S:=Int×(List ak)) (X:=(List ak)) (fun (bX,bf)=>[(1,dI .i64 bR),(2,.fn 87 [0,1]),(6,.pt 2 0),(8,.pt 3 0),(9,dI .i64 aK),(14,dI .i64 cf),(15,dI .i64 aK),(18,dI .i64 bR),(19,dI .i64 bX)]) (fun (bX,bf)=>⟨[(0,[dI .i64 bM.vR,dI .i64 bM.vC,dL aj bM.vV]),(1,[dI .i64 fg.vR,dI .i64 fg.vC,dL aj fg.vV]),(2,[dI .i64 (0:Int),dI .i64 (0:Int),dN]),(3,[dI .i64 cf,dI .i64 bR,dO 4 aj bf])],[(4,(bf).length,36,34)],5⟩) (PE cx (.exit 2) (fun bE=>[(1,dI .i64 bR),(2,.fn 87 [0,1]),(6,.pt 2 0),(8,.pt 3 0),(14,dI .i64 cf),(15,dI .i64 aK)]) fun bE=>⟨[(0,[dI .i64 bM.vR,dI .i64 bM.vC,dL aj bM.vV]),(1,[dI .i64 fg.vR,dI .i64 fg.vC,dL aj fg.vV]),(2,[dI .i64 (0:Int),dI .i64 (0:Int),dN]),(3,[dI .i64 cf,dI .i64 bR,dO 4 aj bE])],[(4,(bE).length,36,34)],5⟩) hy ?_ ?_ ?_
 exact wkN h0 [2,3,4] (wR rfl (wR rfl (wR rfl (wR rfl (wR rfl (wR rfl (wR rfl (wR rfl (wR rfl wTn))))))))) (vR rfl (vR rfl (vR rfl (vR rfl wVn)))) (wL rfl rfl wLn)
 clear hy h
 rintro⟨bX,bf⟩ y h
 dsimp only[iW] at h
 refine ra hx ?_
 refine AW.seq (cdh h rfl (fun lR h=>?_) (fun lR h=>?_))
 refine AW.skip (AW.seq (AW.block (ra hx ?_)))
 obtain⟨x3,ya,h⟩:=ah h
 obtain⟨CG,h⟩:=aC h
 refine jn (PE cx .normal (fun (_:Unit)=>[(1,dI .i64 bR),(2,.fn 87 [0,1]),(6,.pt 2 0),(8,.pt 3 0),(9,dI .i64 aK),(14,dI .i64 cf),(15,dI .i64 aK),(18,dI .i64 bR),(19,dI .i64 bX)]) (fun (_:Unit)=>⟨[(0,[dI .i64 bM.vR,dI .i64 bM.vC,dL aj bM.vV]),(1,[dI .i64 fg.vR,dI .i64 fg.vC,dL aj fg.vV]),(2,[dI .i64 (0:Int),dI .i64 (0:Int),dN]),(3,[dI .i64 cf,dI .i64 bR,dO 4 aj (bf++[x3])])],[(4,(bf++[x3]).length,36,34)],5⟩) ()) ?_ ?_
 refine dw (DW.split 1 5 (by decide) ?_ ?_)
 refine dwg [] [0,1,2,3,4,5,6,7,8,9] hx (by kernel_rfl) (by kernel_rfl) (by kernel_rfl) fun K hK=>?_
 dsimp only[d8,nj,nA,List.map]
 refine sa ?_
 refine s1 (bc aP) ?_
 iterate 3 refine sa ?_
 refine s1 (mG [0,1] rfl (rD ya) (fA (ao _) (fA (ao _) (fA (ao _) (fA (ao _) fAn)))) (vR rfl (vR rfl wVn)) wLn (rvE (rvE rvN)) (qw _ _ _) (uR _ _)) ?_
 refine s1 (lf ([x3]:List ak) aj aP aD) ?_
 refine s1 (d:=dO 4 aj (bf++[x3])) (iS aP aD CG) ?_
 refine sa ?_
 refine s0 (dX (ds':=[dI .i64 cf,dI .i64 bR,dO 4 aj (bf++[x3])]) aP) ?_
 exact .nil (hK _ _ (PE.i (wkN h0 [2,3,4] (wR rfl (wR rfl (wR rfl (wR rfl (wR rfl (wR rfl (wR rfl (wR rfl (wR rfl wTn))))))))) (vR rfl (vR rfl (vR rfl (vR rfl wVn)))) (wL rfl rfl wLn))))
 refine dwg [] [0,2,3,4,5,1,6,7,8,9] hx (by kernel_rfl) (by kernel_rfl) (by kernel_rfl) fun K hK=>?_
 dsimp only[d8,nj,nA,List.map]
 iterate 4 refine sa ?_
 refine s1 (mG [0,1] rfl (rD ya) (fA (ao _) (fA (ao _) (fA (ao _) (fA (ao _) fAn)))) (vR rfl (vR rfl wVn)) wLn (rvE (rvE rvN)) (qw _ _ _) (uR _ _)) ?_
 refine s1 (bc aP) ?_
 refine s1 (lf ([x3]:List ak) aj aP aD) ?_
 refine s1 (d:=dO 4 aj (bf++[x3])) (iS aP aD CG) ?_
 refine sa ?_
 refine s0 (dX (ds':=[dI .i64 cf,dI .i64 bR,dO 4 aj (bf++[x3])]) aP) ?_
 exact .nil (hK _ _ (PE.i (wkN h0 [2,3,4] (wR rfl (wR rfl (wR rfl (wR rfl (wR rfl (wR rfl (wR rfl (wR rfl (wR rfl wTn))))))))) (vR rfl (vR rfl (vR rfl (vR rfl wVn)))) (wL rfl rfl wLn))))
 rintro ex tm' hp' ⟨rfl,hw⟩
 refine AW.weak hw (rb hx ?_)
 cases h
 exact PS.l (PE.i (wkN h0 [2,3,4] (wR rfl (wR rfl (wR rfl (wR rfl (wR rfl (wR rfl (wR rfl (wR rfl (wR rfl wTn))))))))) (vR rfl (vR rfl (vR rfl (vR rfl wVn)))) (wL rfl rfl wLn)))
 refine AW.exit ?_
 try dsimp only
 try simp only[aM,reduceIte,Nat.reduceEqDiff,reduceCtorEq]
 cases h
 exact PS.r ⟨by nofun,PE.i (wkN h0 [2,3,4] (wR rfl (wR rfl (wR rfl (wR rfl (wR rfl (wR rfl wTn)))))) (vR rfl (vR rfl (vR rfl (vR rfl wVn)))) (wL rfl rfl wLn))⟩
 rintro ex tm' hp' ⟨rfl,hw⟩
 try dsimp only
 try simp only[aM,reduceIte,Nat.reduceEqDiff,reduceCtorEq]
 refine AW.weak hw (rb hx ?_)
 cases h
 exact PS.l (PE.i (wkN h0 [2,3,4] (wR rfl (wR rfl (wR rfl (wR rfl (wR rfl (wR rfl wTn)))))) (vR rfl (vR rfl (vR rfl (vR rfl wVn)))) (wL rfl rfl wLn)))
 refine AW.exit ?_
 try dsimp only
 try simp only[aM,reduceIte,Nat.reduceEqDiff,reduceCtorEq]
 cases h
 exact PS.r ⟨by nofun,PE.i (wkN h0 [2,3,4] (wR rfl (wR rfl wTn)) (vR rfl (vR rfl (vR rfl (vR rfl wVn)))) (wL rfl rfl wLn))⟩
 rintro ex tm' hp' ⟨rfl,hw⟩
 try dsimp only
 try simp only[aM,reduceIte,Nat.reduceEqDiff,reduceCtorEq]
 refine AW.weak hw (AW.seq (rs hx fun K hK=>?_))
 refine sa ?_
 refine s1 (bc aP) ?_
 refine scb h gA fun x8 h=>?_
 refine sa ?_
 refine .nil (hK _ _ (cdh h rfl (fun fh h=>?_) (fun fh h=>?_)))
 refine rs hx fun K hK=>?_
 refine s1 (d:=.ag [dI .i64 (0:Int),dI .i64 (0:Int),dN]) (cY ax) ?_
 refine s0 (dX (ds':=[dI .i64 (0:Int),dI .i64 (0:Int),dN]) ax) ?_
 refine sa ?_
 refine .nil (hK _ _ (AW.ret ?_))
 cases h
 exact⟨_,eD (es:=[dI .i64 (0:Int),dI .i64 (0:Int),dN]) rfl ax rfl rfl (ltb rfl) (leb rfl) rfl (bY rfl (rfl)),qK.of_wk2 (by rw[hx];exact bg rfl) (wkN h0 [] (wG rfl (lD (wc (gY _) (wc (gY _) (wc (vq rfl) wcn)))) (wR rfl wTn)) (vR rfl (vR rfl wVn)) wLn)⟩
 refine AW.skip (rs hx fun K hK=>?_)
 refine s1 (d:=.ag [dI .i64 cf,dI .i64 bR,dO 4 aj aG]) (bS ax) ?_
 refine s0 (dX (ds':=[dI .i64 cf,dI .i64 bR,dO 4 aj aG]) ax) ?_
 refine sa ?_
 refine .nil (hK _ _ (AW.ret ?_))
 cases h
 exact⟨_,eD (es:=[dI .i64 cf,dI .i64 bR,dO 4 aj aG]) rfl ax rfl rfl (ltb rfl) (leb rfl) rfl (bY rfl (rfl)),qK.of_wk2 (by rw[hx];exact bg rfl) (wkN h0 [] (wG rfl (lD (wc (gY _) (wc (gY _) (wc (GA _) wcn)))) (wR rfl wTn)) (vR rfl (vR rfl wVn)) wLn)⟩
def nO(aY:av)(a9:av):Option (av×Int):=bnd (S:=Bool) (bnd (bG [aY,a9]) fun x1=>cnd (!x1) (some (true)) (cnd (decide (aY.vR≠a9.vR)) (some (true)) (some (decide (aY.vC≠a9.vC))))) fun bB=>cnd bB (some ((⟨(0:Int),(0:Int),([]:List ak)⟩:av),(1:Int))) (bnd (ko aY.vR aY.vC aY a9) fun x7=>some (x7.1,x7.2))
theorem DT {aY:av}{a9:av}{r:av×Int}(h:nO aY a9=some r):aB prog 38 [dG aR aY,dG aR a9] (.tu [dG aR r.1,dI .i64 r.2]):=by
 refine bL (rs:=[.cell 4 24,.tmp 5]) (fun cx hx h0=>?_) func38
 unfold nO at h
 refine rs hx fun K hK=>?_
 refine s1 (d:=.pt 0 0) iN ?_
 refine s1 (d:=.pt 1 0) iN ?_
 refine s1 (d:=.pt 2 0) (bZ ax) ?_
 refine sa ?_
 refine .nil (hK _ _ ?_)
 iterate 2 refine AW.seq ?_
 obtain⟨bB,hy,h⟩:=ah h
 refine jn ((PE cx .normal (fun bB=>[(2,.pt 0 0),(3,.pt 1 0),(4,.pt 2 0),(24,dB bB)]) fun bB=>⟨[(0,[dI .i64 aY.vR,dI .i64 aY.vC,dL aj aY.vV]),(1,[dI .i64 a9.vR,dI .i64 a9.vC,dL aj a9.vV]),(2,[dI .i64 (0:Int),dI .i64 (0:Int),dN])],[],3⟩) bB) ?_ ?_
 replace h:=hy
 refine rq hx fun K hK=>?_
 refine s1 (d:=dG aR aY) (bS ax) ?_
 refine s1 (d:=dG aR a9) (bS ax) ?_
 refine s1 (d:=dO 3 aR [aY,a9]) (iM pp ax) ?_
 refine scb h d6 fun x1 h=>?_
 iterate 2 refine sa ?_
 rcases aZ (!x1) with bm|bm
 replace h:=a3 bm h
 iterate 5 refine aI rfl rfl bm ?_
 refine s1 (al bm) ?_
 refine sa ?_
 iterate 5 refine aI rfl rfl rfl ?_
 refine s1 (al rfl) ?_
 refine .nil (hK _ _ ?_)
 cases h
 exact pe0 h0 [0,1,2]
 replace h:=a4 bm h
 refine ga bm ?_
 refine g1 bm (bc a6) ?_
 refine ga bm ?_
 refine g1 bm (bc a6) ?_
 refine ga bm ?_
 refine s1 (au bm) ?_
 refine sa ?_
 rcases aZ (decide (aY.vR≠a9.vR)) with mr|mr
 replace h:=a3 mr h
 iterate 5 refine aI rfl rfl mr ?_
 refine s1 (al mr) ?_
 refine .nil (hK _ _ ?_)
 cases h
 exact pe0 h0 [0,1,2]
 replace h:=a4 mr h
 refine ga mr ?_
 refine g1 mr (bc a6) ?_
 refine ga mr ?_
 refine g1 mr (bc a6) ?_
 refine ga mr ?_
 refine s1 (au mr) ?_
 refine .nil (hK _ _ ?_)
 cases h
 exact pe0 h0 [0,1,2]
 rintro ex tm' hp' ⟨rfl,hw⟩
 refine AW.weak hw (cdh h rfl (fun dy h=>?_) (fun dy h=>?_))
 refine rs hx fun K hK=>?_
 refine s1 (d:=.ag [dI .i64 (0:Int),dI .i64 (0:Int),dN]) (cY ax) ?_
 refine s0 (dX (ds':=[dI .i64 (0:Int),dI .i64 (0:Int),dN]) ax) ?_
 refine sa ?_
 refine .nil (hK _ _ (AW.ret ?_))
 cases h
 exact fK.mk2 (eD (es:=[dI .i64 (0:Int),dI .i64 (0:Int),dN]) rfl ax rfl rfl (ltb rfl) (leb rfl) rfl (bY rfl (.inr ⟨_,_,(lD (wc (gY _) (wc (gY _) (wc (vq rfl) wcn)))),(ao _),⟨rfl,rfl⟩,rfl⟩)))
 refine AW.skip (rs hx fun K hK=>?_)
 refine sa ?_
 refine s1 (bc a6) ?_
 refine sa ?_
 refine s1 (bc a6) ?_
 refine s1 va ?_
 obtain⟨x7,xZ,h⟩:=ah h
 refine s1 (xk [0,1] rfl (zE xZ) (fA (ao _) (fA (ao _) (fA (ao _) fAn))) (vR rfl (vR rfl wVn)) wLn) ?_
 iterate 2 refine sa ?_
 refine s0 (dX (ds':=[dI .i64 x7.1.vR,dI .i64 x7.1.vC,dL aj x7.1.vV]) ax) ?_
 refine sa ?_
 refine .nil (hK _ _ (AW.ret ?_))
 cases h
 exact fK.mk2 (eD (es:=(aR.f x7.1).map .e) rfl ax rfl rfl (ltb rfl) (leb rfl) rfl (bY rfl (.inr ⟨_,_,(ao _),(ao _),⟨rfl,rfl⟩,rfl⟩)))
def mP(nk:Int)(jg:Int)(bM:av)(fg:ak):Option ak:=bnd (b9 bM nk jg) fun x1=>bnd (dZ x1 fg) fun x3=>some x3
def lM(bR:Int)(bM:av)(fg:ak)(aK:Int):Int×(List ak)→Option ((Int×(List ak))⊕((List ak))):=fun (bX,bf)=>cnd (decide (bX<bR)) (bnd (mP aK bX bM fg) fun x3=>gd ((bf++[x3]).length*136≤140737488355328) (some (.inl (i64.wrap (bX+(1:Int)),bf++[x3])))) (some (.inr bf))
def mh(cf:Int)(bR:Int)(bM:av)(fg:ak):Int×(List ak)→Option ((Int×(List ak))⊕((List ak))):=fun (aK,aT)=>cnd (decide (aK<cf)) (bnd (a5 (lM bR bM fg aK) ((0:Int),aT)) fun bE=>some (.inl (i64.wrap (aK+(1:Int)),bE))) (some (.inr aT))
def oB(cf:Int)(bR:Int)(bM:av)(fg:ak):Option (av×Int):=bnd (a5 (mh cf bR bM fg) ((0:Int),([]:List ak))) fun aG=>bnd (cG aG) fun x8=>cnd (!x8) (some ((⟨(0:Int),(0:Int),([]:List ak)⟩:av),(30:Int))) (some ((⟨cf,bR,aG⟩:av),(0:Int)))
def tN(fR:av)(bj:ak):Option (av×Int):=bnd (S:=Bool) (bnd (bG [fR]) fun x1=>cnd (!x1) (some (true)) (bnd (bN bj) fun x4=>some (!x4))) fun bB=>cnd bB (some ((⟨(0:Int),(0:Int),([]:List ak)⟩:av),(1:Int))) (bnd (oB fR.vR fR.vC fR bj) fun x8=>some (x8.1,x8.2))
def fO(nk:Int)(jg:Int)(bM:av)(fg:av):Int×ak→Option ((Int×ak)⊕ak):=fun (cQ,BS)=>cnd (decide (cQ<bM.vC)) (bnd (b9 bM nk cQ) fun s8=>bnd (b9 fg cQ jg) fun qN=>bnd (dZ s8 qN) fun uG=>bnd (fM BS uG) fun pQ=>some (.inl (i64.wrap (cQ+(1:Int)),pQ))) (some (.inr BS))
def gL(nk:Int)(jg:Int)(bM:av)(fg:av):Option ak:=cnd (decide (bM.vC=(0:Int))) (bnd (eE (0:Int)) fun x2=>some x2) (bnd (b9 bM nk (0:Int)) fun x4=>bnd (b9 fg (0:Int) jg) fun x6=>bnd (dZ x4 x6) fun x8=>bnd (a5 (fO nk jg bM fg) ((1:Int),x8)) fun l5=>some l5)
theorem rC {nk:Int}{jg:Int}{bM:av}{fg:av}{r:ak}(h:gL nk jg bM fg=some r):HC prog 84 [dI .i64 nk,dI .i64 jg,.pt 0 0,.pt 1 0] ⟨[(0,[dI .i64 bM.vR,dI .i64 bM.vC,dL aj bM.vV]),(1,[dI .i64 fg.vR,dI .i64 fg.vC,dL aj fg.vV])],[],2⟩ (dG aj r) ⟨[(0,[dI .i64 bM.vR,dI .i64 bM.vC,dL aj bM.vV]),(1,[dI .i64 fg.vR,dI .i64 fg.vC,dL aj fg.vV])],[],2⟩:=by
 refine HC.ofX (rs:=[.cell 6 34]) tok func84 rfl rfl (bg rfl) rfl (fun cx hx h1=>?_)
 have h0:cx.hp0.next=2:=by rw[h1]
 simp only[eg,Nat.reduceAdd,bq]
 unfold gL at h
 refine rs hx fun K hK=>?_
 refine s1 (bo (F:=aj.f cu) aD) ?_
 refine .nil (hK _ _ (AW.seq (rs hx fun K hK=>?_)))
 refine sa ?_
 refine s1 (bc a6) ?_
 refine sa ?_
 refine .nil (hK _ _ (cdh h rfl (fun cE h=>?_) (fun cE h=>?_)))
 refine rs hx fun K hK=>?_
 refine scb h iP fun x2 h=>?_
 refine s0 (aO (b':=x2) (an.id _ _) aD) ?_
 refine .nil (hK _ _ (AW.ret ?_))
 cases h
 exact⟨_,qh rfl aD rfl rfl (ltb rfl) (aj.h _) (rfl),qK.of_wk (by rw[hx];exact bg rfl) (wkN h0 [] (wG rfl (ao _) wTn) (vR rfl (vR rfl wVn)) wLn)⟩
 refine AW.skip (rsd [75,40] hx fun K hK=>?_)
 refine s1 (d:=dG aR bM) (bS ax) ?_
 refine sa ?_
 refine cqb h dp fun x4 h=>?_
 refine s1 (d:=dG aR fg) (bS ax) ?_
 refine sa ?_
 refine cqb h dp fun x6 h=>?_
 refine cqb h oS fun x8 h=>?_
 refine s1 (bo (F:=aj.f cu) aD) ?_
 refine s0 (aO (b':=x8) (an.id _ _) aD) ?_
 refine .nil (hK _ _ (AW.seq (ra hx ?_)))
 refine AW.block ?_
 obtain⟨l5,hy,h⟩:=ah h
 refine lp (S:=Int×ak) (X:=ak) (fun (cQ,BS)=>[(0,dI .i64 nk),(1,dI .i64 jg),(2,.pt 0 0),(3,.pt 1 0),(6,.pt 2 0),(7,.pt 3 0),(8,dI .i64 cQ)]) (fun (cQ,BS)=>⟨[(0,[dI .i64 bM.vR,dI .i64 bM.vC,dL aj bM.vV]),(1,[dI .i64 fg.vR,dI .i64 fg.vC,dL aj fg.vV]),(2,dC (aj.f cu)),(3,dC (aj.f BS))],[],4⟩) (PE cx (.exit 0) (fun l5=>[(6,.pt 2 0),(7,.pt 3 0)]) fun l5=>⟨[(0,[dI .i64 bM.vR,dI .i64 bM.vC,dL aj bM.vV]),(1,[dI .i64 fg.vR,dI .i64 fg.vC,dL aj fg.vV]),(2,dC (aj.f cu)),(3,dC (aj.f l5))],[],4⟩) hy ?_ ?_ ?_
 exact wkN h0 [2,3] (wR rfl (wR rfl (wR rfl (wR rfl (wR rfl (wR rfl (wR rfl wTn))))))) (vR rfl (vR rfl (vC rfl (vC rfl wVn)))) wLn
 clear hy h
 rintro⟨cQ,BS⟩ y h
 dsimp only[fO] at h
 refine AW.seq (rs hx fun K hK=>?_)
 iterate 2 refine sa ?_
 refine s1 (bc a6) ?_
 refine sa ?_
 refine .nil (hK _ _ (cdh h rfl (fun fh h=>?_) (fun fh h=>?_)))
 refine AW.skip (AW.seq (AW.block (rqd [75,40,85] hx fun K hK=>?_)))
 refine s1 (d:=dG aj BS) (aF (an.id _ _) aD) ?_
 refine s1 (d:=dG aR bM) (bS ax) ?_
 iterate 2 refine sa ?_
 refine cqb h dp fun s8 h=>?_
 refine s1 (d:=dG aR fg) (bS ax) ?_
 iterate 2 refine sa ?_
 refine cqb h dp fun qN h=>?_
 refine cqb h oS fun uG h=>?_
 refine cqb h tA fun pQ h=>?_
 refine s0 (aO (b':=pQ) (an.id _ _) aD) ?_
 refine .nil (hK _ _ (rb hx ?_))
 cases h
 exact PS.l (PE.i (wkN h0 [2,3] (wR rfl (wR rfl (wR rfl (wR rfl (wR rfl (wR rfl (wR rfl wTn))))))) (vR rfl (vR rfl (vC rfl (vC rfl wVn)))) wLn))
 refine AW.exit ?_
 try dsimp only
 try simp only[aM,reduceIte,Nat.reduceEqDiff,reduceCtorEq]
 cases h
 exact PS.r ⟨by nofun,PE.i (wkN h0 [2,3] (wR rfl (wR rfl wTn)) (vR rfl (vR rfl (vC rfl (vC rfl wVn)))) wLn)⟩
 rintro ex tm' hp' ⟨rfl,hw⟩
 try dsimp only
 try simp only[aM,reduceIte,Nat.reduceEqDiff,reduceCtorEq]
 refine AW.weak hw (rs hx fun K hK=>?_)
 refine s1 (d:=dG aj l5) (aF (an.id _ _) aD) ?_
 refine s0 (aO (b':=l5) (an.id _ _) aD) ?_
 refine .nil (hK _ _ (AW.ret ?_))
 cases h
 exact⟨_,qh rfl aD rfl rfl (ltb rfl) (aj.h _) (rfl),qK.of_wk (by rw[hx];exact bg rfl) (wkN h0 [] (wG rfl (ao _) wTn) (vR rfl (vR rfl wVn)) wLn)⟩
def iG(bR:Int)(bM:av)(fg:av)(aK:Int):Int×(List ak)→Option ((Int×(List ak))⊕((List ak))):=fun (bX,bf)=>cnd (decide (bX<bR)) (bnd (gL aK bX bM fg) fun x3=>gd ((bf++[x3]).length*136≤140737488355328) (some (.inl (i64.wrap (bX+(1:Int)),bf++[x3])))) (some (.inr bf))
def ja(cf:Int)(bR:Int)(bM:av)(fg:av):Int×(List ak)→Option ((Int×(List ak))⊕((List ak))):=fun (aK,aT)=>cnd (decide (aK<cf)) (bnd (a5 (iG bR bM fg aK) ((0:Int),aT)) fun bE=>some (.inl (i64.wrap (aK+(1:Int)),bE))) (some (.inr aT))
def jx(cf:Int)(bR:Int)(bM:av)(fg:av):Option (av×Int):=bnd (a5 (ja cf bR bM fg) ((0:Int),([]:List ak))) fun aG=>bnd (cG aG) fun x8=>cnd (!x8) (some ((⟨(0:Int),(0:Int),([]:List ak)⟩:av),(30:Int))) (some ((⟨cf,bR,aG⟩:av),(0:Int)))
theorem xw {cf:Int}{bR:Int}{bM:av}{fg:av}{r:av×Int}(h:jx cf bR bM fg=some r):HC prog 73 [dI .i64 cf,dI .i64 bR,.fn 84 [0,1]] ⟨[(0,[dI .i64 bM.vR,dI .i64 bM.vC,dL aj bM.vV]),(1,[dI .i64 fg.vR,dI .i64 fg.vC,dL aj fg.vV])],[],2⟩ (.tu [dG aR r.1,dI .i64 r.2]) ⟨[(0,[dI .i64 bM.vR,dI .i64 bM.vC,dL aj bM.vV]),(1,[dI .i64 fg.vR,dI .i64 fg.vC,dL aj fg.vV])],[],2⟩:=by
 refine HC.ofX (rs:=[.cell 6 24,.tmp 7]) tok func73 rfl rfl (bg rfl) rfl (fun cx hx h1=>?_)
 have h0:cx.hp0.next=2:=by rw[h1]
 simp only[eg,Nat.reduceAdd,bq]
 unfold jx at h
 refine rs hx fun K hK=>?_
 refine s1 (d:=.pt 2 0) (bZ ax) ?_
 refine sa ?_
 refine .nil (hK _ _ (rs hx fun K hK=>?_))
 iterate 2 refine sa ?_
 refine s1 (d:=.ag [dI .i64 cf,dI .i64 bR,dN]) (cY ax) ?_
 refine s1 (d:=.pt 3 0) (bZ ax) ?_
 refine s0 (dX (ds':=[dI .i64 cf,dI .i64 bR,dN]) ax) ?_
 refine .nil (hK _ _ (AW.seq (ra hx ?_)))
 refine AW.block ?_
 obtain⟨aG,hy,h⟩:=ah h
 refine lp (S:=Int×(List ak)) (X:=(List ak)) (fun (aK,aT)=>[(1,dI .i64 bR),(2,.fn 84 [0,1]),(6,.pt 2 0),(8,.pt 3 0),(14,dI .i64 cf),(15,dI .i64 aK)]) (fun (aK,aT)=>⟨[(0,[dI .i64 bM.vR,dI .i64 bM.vC,dL aj bM.vV]),(1,[dI .i64 fg.vR,dI .i64 fg.vC,dL aj fg.vV]),(2,[dI .i64 (0:Int),dI .i64 (0:Int),dN]),(3,[dI .i64 cf,dI .i64 bR,dO 4 aj aT])],[(4,(aT).length,36,34)],5⟩) (PE cx (.exit 0) (fun aG=>[(6,.pt 2 0),(8,.pt 3 0)]) fun aG=>⟨[(0,[dI .i64 bM.vR,dI .i64 bM.vC,dL aj bM.vV]),(1,[dI .i64 fg.vR,dI .i64 fg.vC,dL aj fg.vV]),(2,[dI .i64 (0:Int),dI .i64 (0:Int),dN]),(3,[dI .i64 cf,dI .i64 bR,dO 4 aj aG])],[(4,(aG).length,36,34)],5⟩) hy ?_ ?_ ?_
 exact Wk.trans (Wk.nilOwn (ds':=[dI .i64 cf,dI .i64 bR,dO 4 aj ([]:List ak)]) 3 2 34 36) (wkN h0 [2,3,4] (wR rfl (wR rfl (wR rfl (wR rfl (wR rfl (wR rfl wTn)))))) (vR rfl (vR rfl (vR rfl (vR rfl wVn)))) (wL rfl rfl wLn))
 clear hy h
 rintro⟨aK,aT⟩ y h
 dsimp only[ja] at h
 refine ra hx ?_
 refine AW.seq (cdh h rfl (fun cE h=>?_) (fun cE h=>?_))
 refine AW.skip (AW.seq (AW.block ?_))
 iterate 2 refine ra hx ?_
 refine AW.block ?_
 obtain⟨bE,hy,h⟩:=ah h
 refine lp (S:=Int×(List ak)) (X:=(List ak)) (fun (bX,bf)=>[(1,dI .i64 bR),(2,.fn 84 [0,1]),(6,.pt 2 0),(8,.pt 3 0),(9,dI .i64 aK),(14,dI .i64 cf),(15,dI .i64 aK),(18,dI .i64 bR),(19,dI .i64 bX)]) (fun (bX,bf)=>⟨[(0,[dI .i64 bM.vR,dI .i64 bM.vC,dL aj bM.vV]),(1,[dI .i64 fg.vR,dI .i64 fg.vC,dL aj fg.vV]),(2,[dI .i64 (0:Int),dI .i64 (0:Int),dN]),(3,[dI .i64 cf,dI .i64 bR,dO 4 aj bf])],[(4,(bf).length,36,34)],5⟩) (PE cx (.exit 2) (fun bE=>[(1,dI .i64 bR),(2,.fn 84 [0,1]),(6,.pt 2 0),(8,.pt 3 0),(14,dI .i64 cf),(15,dI .i64 aK)]) fun bE=>⟨[(0,[dI .i64 bM.vR,dI .i64 bM.vC,dL aj bM.vV]),(1,[dI .i64 fg.vR,dI .i64 fg.vC,dL aj fg.vV]),(2,[dI .i64 (0:Int),dI .i64 (0:Int),dN]),(3,[dI .i64 cf,dI .i64 bR,dO 4 aj bE])],[(4,(bE).length,36,34)],5⟩) hy ?_ ?_ ?_
 exact wkN h0 [2,3,4] (wR rfl (wR rfl (wR rfl (wR rfl (wR rfl (wR rfl (wR rfl (wR rfl (wR rfl wTn))))))))) (vR rfl (vR rfl (vR rfl (vR rfl wVn)))) (wL rfl rfl wLn)
 clear hy h
 rintro⟨bX,bf⟩ y h
 dsimp only[iG] at h
 refine ra hx ?_
 refine AW.seq (cdh h rfl (fun lR h=>?_) (fun lR h=>?_))
 refine AW.skip (AW.seq (AW.block (ra hx ?_)))
 obtain⟨x3,ya,h⟩:=ah h
 obtain⟨CG,h⟩:=aC h
 refine jn (PE cx .normal (fun (_:Unit)=>[(1,dI .i64 bR),(2,.fn 84 [0,1]),(6,.pt 2 0),(8,.pt 3 0),(9,dI .i64 aK),(14,dI .i64 cf),(15,dI .i64 aK),(18,dI .i64 bR),(19,dI .i64 bX)]) (fun (_:Unit)=>⟨[(0,[dI .i64 bM.vR,dI .i64 bM.vC,dL aj bM.vV]),(1,[dI .i64 fg.vR,dI .i64 fg.vC,dL aj fg.vV]),(2,[dI .i64 (0:Int),dI .i64 (0:Int),dN]),(3,[dI .i64 cf,dI .i64 bR,dO 4 aj (bf++[x3])])],[(4,(bf++[x3]).length,36,34)],5⟩) ()) ?_ ?_
 refine dw (DW.split 1 5 (by decide) ?_ ?_)
 refine dwg [] [0,1,2,3,4,5,6,7,8,9] hx (by kernel_rfl) (by kernel_rfl) (by kernel_rfl) fun K hK=>?_
 dsimp only[d8,nj,nA,List.map]
 refine sa ?_
 refine s1 (bc aP) ?_
 iterate 3 refine sa ?_
 refine s1 (mG [0,1] rfl (rC ya) (fA (ao _) (fA (ao _) (fA (ao _) (fA (ao _) fAn)))) (vR rfl (vR rfl wVn)) wLn (rvE (rvE rvN)) (qw _ _ _) (uR _ _)) ?_
 refine s1 (lf ([x3]:List ak) aj aP aD) ?_
 refine s1 (d:=dO 4 aj (bf++[x3])) (iS aP aD CG) ?_
 refine sa ?_
 refine s0 (dX (ds':=[dI .i64 cf,dI .i64 bR,dO 4 aj (bf++[x3])]) aP) ?_
 exact .nil (hK _ _ (PE.i (wkN h0 [2,3,4] (wR rfl (wR rfl (wR rfl (wR rfl (wR rfl (wR rfl (wR rfl (wR rfl (wR rfl wTn))))))))) (vR rfl (vR rfl (vR rfl (vR rfl wVn)))) (wL rfl rfl wLn))))
 refine dwg [] [0,2,3,4,5,1,6,7,8,9] hx (by kernel_rfl) (by kernel_rfl) (by kernel_rfl) fun K hK=>?_
 dsimp only[d8,nj,nA,List.map]
 iterate 4 refine sa ?_
 refine s1 (mG [0,1] rfl (rC ya) (fA (ao _) (fA (ao _) (fA (ao _) (fA (ao _) fAn)))) (vR rfl (vR rfl wVn)) wLn (rvE (rvE rvN)) (qw _ _ _) (uR _ _)) ?_
 refine s1 (bc aP) ?_
 refine s1 (lf ([x3]:List ak) aj aP aD) ?_
 refine s1 (d:=dO 4 aj (bf++[x3])) (iS aP aD CG) ?_
 refine sa ?_
 refine s0 (dX (ds':=[dI .i64 cf,dI .i64 bR,dO 4 aj (bf++[x3])]) aP) ?_
 exact .nil (hK _ _ (PE.i (wkN h0 [2,3,4] (wR rfl (wR rfl (wR rfl (wR rfl (wR rfl (wR rfl (wR rfl (wR rfl (wR rfl wTn))))))))) (vR rfl (vR rfl (vR rfl (vR rfl wVn)))) (wL rfl rfl wLn))))
 rintro ex tm' hp' ⟨rfl,hw⟩
 refine AW.weak hw (rb hx ?_)
 cases h
 exact PS.l (PE.i (wkN h0 [2,3,4] (wR rfl (wR rfl (wR rfl (wR rfl (wR rfl (wR rfl (wR rfl (wR rfl (wR rfl wTn))))))))) (vR rfl (vR rfl (vR rfl (vR rfl wVn)))) (wL rfl rfl wLn)))
 refine AW.exit ?_
 try dsimp only
 try simp only[aM,reduceIte,Nat.reduceEqDiff,reduceCtorEq]
 cases h
 exact PS.r ⟨by nofun,PE.i (wkN h0 [2,3,4] (wR rfl (wR rfl (wR rfl (wR rfl (wR rfl (wR rfl wTn)))))) (vR rfl (vR rfl (vR rfl (vR rfl wVn)))) (wL rfl rfl wLn))⟩
 rintro ex tm' hp' ⟨rfl,hw⟩
 try dsimp only
 try simp only[aM,reduceIte,Nat.reduceEqDiff,reduceCtorEq]
 refine AW.weak hw (rb hx ?_)
 cases h
 exact PS.l (PE.i (wkN h0 [2,3,4] (wR rfl (wR rfl (wR rfl (wR rfl (wR rfl (wR rfl wTn)))))) (vR rfl (vR rfl (vR rfl (vR rfl wVn)))) (wL rfl rfl wLn)))
 refine AW.exit ?_
 try dsimp only
 try simp only[aM,reduceIte,Nat.reduceEqDiff,reduceCtorEq]
 cases h
 exact PS.r ⟨by nofun,PE.i (wkN h0 [2,3,4] (wR rfl (wR rfl wTn)) (vR rfl (vR rfl (vR rfl (vR rfl wVn)))) (wL rfl rfl wLn))⟩
 rintro ex tm' hp' ⟨rfl,hw⟩
 try dsimp only
 try simp only[aM,reduceIte,Nat.reduceEqDiff,reduceCtorEq]
 refine AW.weak hw (AW.seq (rs hx fun K hK=>?_))
 refine sa ?_
 refine s1 (bc aP) ?_
 refine scb h gA fun x8 h=>?_
 refine sa ?_
 refine .nil (hK _ _ (cdh h rfl (fun fh h=>?_) (fun fh h=>?_)))
 refine rs hx fun K hK=>?_
 refine s1 (d:=.ag [dI .i64 (0:Int),dI .i64 (0:Int),dN]) (cY ax) ?_
 refine s0 (dX (ds':=[dI .i64 (0:Int),dI .i64 (0:Int),dN]) ax) ?_
 refine sa ?_
 refine .nil (hK _ _ (AW.ret ?_))
 cases h
 exact⟨_,eD (es:=[dI .i64 (0:Int),dI .i64 (0:Int),dN]) rfl ax rfl rfl (ltb rfl) (leb rfl) rfl (bY rfl (rfl)),qK.of_wk2 (by rw[hx];exact bg rfl) (wkN h0 [] (wG rfl (lD (wc (gY _) (wc (gY _) (wc (vq rfl) wcn)))) (wR rfl wTn)) (vR rfl (vR rfl wVn)) wLn)⟩
 refine AW.skip (rs hx fun K hK=>?_)
 refine s1 (d:=.ag [dI .i64 cf,dI .i64 bR,dO 4 aj aG]) (bS ax) ?_
 refine s0 (dX (ds':=[dI .i64 cf,dI .i64 bR,dO 4 aj aG]) ax) ?_
 refine sa ?_
 refine .nil (hK _ _ (AW.ret ?_))
 cases h
 exact⟨_,eD (es:=[dI .i64 cf,dI .i64 bR,dO 4 aj aG]) rfl ax rfl rfl (ltb rfl) (leb rfl) rfl (bY rfl (rfl)),qK.of_wk2 (by rw[hx];exact bg rfl) (wkN h0 [] (wG rfl (lD (wc (gY _) (wc (gY _) (wc (GA _) wcn)))) (wR rfl wTn)) (vR rfl (vR rfl wVn)) wLn)⟩
def iJ(aY:av)(a9:av):Option (av×Int):=bnd (S:=Bool) (bnd (bG [aY,a9]) fun x1=>cnd (!x1) (some (true)) (some (decide (aY.vC≠a9.vR)))) fun bB=>cnd bB (some ((⟨(0:Int),(0:Int),([]:List ak)⟩:av),(1:Int))) (bnd (jx aY.vR a9.vC aY a9) fun x6=>some (x6.1,x6.2))
theorem si {aY:av}{a9:av}{r:av×Int}(h:iJ aY a9=some r):aB prog 31 [dG aR aY,dG aR a9] (.tu [dG aR r.1,dI .i64 r.2]):=by
 refine bL (rs:=[.cell 4 24,.tmp 5]) (fun cx hx h0=>?_) func31
 unfold iJ at h
 refine rs hx fun K hK=>?_
 refine s1 (d:=.pt 0 0) iN ?_
 refine s1 (d:=.pt 1 0) iN ?_
 refine s1 (d:=.pt 2 0) (bZ ax) ?_
 refine sa ?_
 refine .nil (hK _ _ ?_)
 iterate 2 refine AW.seq ?_
 obtain⟨bB,hy,h⟩:=ah h
 refine jn ((PE cx .normal (fun bB=>[(2,.pt 0 0),(3,.pt 1 0),(4,.pt 2 0),(17,dB bB)]) fun bB=>⟨[(0,[dI .i64 aY.vR,dI .i64 aY.vC,dL aj aY.vV]),(1,[dI .i64 a9.vR,dI .i64 a9.vC,dL aj a9.vV]),(2,[dI .i64 (0:Int),dI .i64 (0:Int),dN])],[],3⟩) bB) ?_ ?_
 replace h:=hy
 refine rq hx fun K hK=>?_
 refine s1 (d:=dG aR aY) (bS ax) ?_
 refine s1 (d:=dG aR a9) (bS ax) ?_
 refine s1 (d:=dO 3 aR [aY,a9]) (iM pp ax) ?_
 refine scb h d6 fun x1 h=>?_
 iterate 2 refine sa ?_
 rcases aZ (!x1) with bm|bm
 replace h:=a3 bm h
 iterate 5 refine aI rfl rfl bm ?_
 refine s1 (al bm) ?_
 refine .nil (hK _ _ ?_)
 cases h
 exact pe0 h0 [0,1,2]
 replace h:=a4 bm h
 refine ga bm ?_
 refine g1 bm (bc a6) ?_
 refine ga bm ?_
 refine g1 bm (bc a6) ?_
 refine ga bm ?_
 refine s1 (au bm) ?_
 refine .nil (hK _ _ ?_)
 cases h
 exact pe0 h0 [0,1,2]
 rintro ex tm' hp' ⟨rfl,hw⟩
 refine AW.weak hw (cdh h rfl (fun nE h=>?_) (fun nE h=>?_))
 refine rs hx fun K hK=>?_
 refine s1 (d:=.ag [dI .i64 (0:Int),dI .i64 (0:Int),dN]) (cY ax) ?_
 refine s0 (dX (ds':=[dI .i64 (0:Int),dI .i64 (0:Int),dN]) ax) ?_
 refine sa ?_
 refine .nil (hK _ _ (AW.ret ?_))
 cases h
 exact fK.mk2 (eD (es:=[dI .i64 (0:Int),dI .i64 (0:Int),dN]) rfl ax rfl rfl (ltb rfl) (leb rfl) rfl (bY rfl (.inr ⟨_,_,(lD (wc (gY _) (wc (gY _) (wc (vq rfl) wcn)))),(ao _),⟨rfl,rfl⟩,rfl⟩)))
 refine AW.skip (rs hx fun K hK=>?_)
 refine sa ?_
 refine s1 (bc a6) ?_
 refine sa ?_
 refine s1 (bc a6) ?_
 refine s1 va ?_
 obtain⟨x6,te,h⟩:=ah h
 refine s1 (xk [0,1] rfl (xw te) (fA (ao _) (fA (ao _) (fA (ao _) fAn))) (vR rfl (vR rfl wVn)) wLn) ?_
 iterate 2 refine sa ?_
 refine s0 (dX (ds':=[dI .i64 x6.1.vR,dI .i64 x6.1.vC,dL aj x6.1.vV]) ax) ?_
 refine sa ?_
 refine .nil (hK _ _ (AW.ret ?_))
 cases h
 exact fK.mk2 (eD (es:=(aR.f x6.1).map .e) rfl ax rfl rfl (ltb rfl) (leb rfl) rfl (bY rfl (.inr ⟨_,_,(ao _),(ao _),⟨rfl,rfl⟩,rfl⟩)))
def eR(nk:Int)(jg:Int)(bM:av):Option ak:=bnd (b9 bM jg nk) fun x1=>some x1
theorem nr {nk:Int}{jg:Int}{bM:av}{r:ak}(h:eR nk jg bM=some r):HC prog 88 [dI .i64 nk,dI .i64 jg,.pt 0 0] ⟨[(0,[dI .i64 bM.vR,dI .i64 bM.vC,dL aj bM.vV])],[],1⟩ (dG aj r) ⟨[(0,[dI .i64 bM.vR,dI .i64 bM.vC,dL aj bM.vV])],[],1⟩:=by
 refine HC.ofX (rs:=[.cell 5 34]) tok func88 rfl rfl (bg rfl) rfl (fun cx hx h1=>?_)
 have h0:cx.hp0.next=1:=by rw[h1]
 simp only[eg,Nat.reduceAdd,bq]
 unfold eR at h
 refine rs hx fun K hK=>?_
 refine s1 (bo (F:=aj.f cu) aD) ?_
 refine .nil (hK _ _ (rs hx fun K hK=>?_))
 refine s1 (d:=dG aR bM) (bS ax) ?_
 iterate 2 refine sa ?_
 refine scb h dp fun x1 h=>?_
 refine s0 (aO (b':=x1) (an.id _ _) aD) ?_
 refine .nil (hK _ _ (AW.ret ?_))
 cases h
 exact⟨_,qh rfl aD rfl rfl (ltb rfl) (aj.h _) (rfl),qK.of_wk (by rw[hx];exact bg rfl) (wkN h0 [] (wG rfl (ao _) wTn) (vR rfl wVn) wLn)⟩
def iF(bR:Int)(bM:av)(aK:Int):Int×(List ak)→Option ((Int×(List ak))⊕((List ak))):=fun (bX,bf)=>cnd (decide (bX<bR)) (bnd (eR aK bX bM) fun x3=>gd ((bf++[x3]).length*136≤140737488355328) (some (.inl (i64.wrap (bX+(1:Int)),bf++[x3])))) (some (.inr bf))
def iZ(cf:Int)(bR:Int)(bM:av):Int×(List ak)→Option ((Int×(List ak))⊕((List ak))):=fun (aK,aT)=>cnd (decide (aK<cf)) (bnd (a5 (iF bR bM aK) ((0:Int),aT)) fun bE=>some (.inl (i64.wrap (aK+(1:Int)),bE))) (some (.inr aT))
def jw(cf:Int)(bR:Int)(bM:av):Option (av×Int):=bnd (a5 (iZ cf bR bM) ((0:Int),([]:List ak))) fun aG=>bnd (cG aG) fun x8=>cnd (!x8) (some ((⟨(0:Int),(0:Int),([]:List ak)⟩:av),(30:Int))) (some ((⟨cf,bR,aG⟩:av),(0:Int)))
theorem xv {cf:Int}{bR:Int}{bM:av}{r:av×Int}(h:jw cf bR bM=some r):HC prog 73 [dI .i64 cf,dI .i64 bR,.fn 88 [0]] ⟨[(0,[dI .i64 bM.vR,dI .i64 bM.vC,dL aj bM.vV])],[],1⟩ (.tu [dG aR r.1,dI .i64 r.2]) ⟨[(0,[dI .i64 bM.vR,dI .i64 bM.vC,dL aj bM.vV])],[],1⟩:=by
 refine HC.ofX (rs:=[.cell 6 24,.tmp 7]) tok func73 rfl rfl (bg rfl) rfl (fun cx hx h1=>?_)
 have h0:cx.hp0.next=1:=by rw[h1]
 simp only[eg,Nat.reduceAdd,bq]
 unfold jw at h
 refine rs hx fun K hK=>?_
 refine s1 (d:=.pt 1 0) (bZ ax) ?_
 refine sa ?_
 refine .nil (hK _ _ (rs hx fun K hK=>?_))
 iterate 2 refine sa ?_
 refine s1 (d:=.ag [dI .i64 cf,dI .i64 bR,dN]) (cY ax) ?_
 refine s1 (d:=.pt 2 0) (bZ ax) ?_
 refine s0 (dX (ds':=[dI .i64 cf,dI .i64 bR,dN]) ax) ?_
 refine .nil (hK _ _ (AW.seq (ra hx ?_)))
 refine AW.block ?_
 obtain⟨aG,hy,h⟩:=ah h
 refine lp (S:=Int×(List ak)) (X:=(List ak)) (fun (aK,aT)=>[(1,dI .i64 bR),(2,.fn 88 [0]),(6,.pt 1 0),(8,.pt 2 0),(14,dI .i64 cf),(15,dI .i64 aK)]) (fun (aK,aT)=>⟨[(0,[dI .i64 bM.vR,dI .i64 bM.vC,dL aj bM.vV]),(1,[dI .i64 (0:Int),dI .i64 (0:Int),dN]),(2,[dI .i64 cf,dI .i64 bR,dO 3 aj aT])],[(3,(aT).length,36,34)],4⟩) (PE cx (.exit 0) (fun aG=>[(6,.pt 1 0),(8,.pt 2 0)]) fun aG=>⟨[(0,[dI .i64 bM.vR,dI .i64 bM.vC,dL aj bM.vV]),(1,[dI .i64 (0:Int),dI .i64 (0:Int),dN]),(2,[dI .i64 cf,dI .i64 bR,dO 3 aj aG])],[(3,(aG).length,36,34)],4⟩) hy ?_ ?_ ?_
 exact Wk.trans (Wk.nilOwn (ds':=[dI .i64 cf,dI .i64 bR,dO 3 aj ([]:List ak)]) 2 2 34 36) (wkN h0 [1,2,3] (wR rfl (wR rfl (wR rfl (wR rfl (wR rfl (wR rfl wTn)))))) (vR rfl (vR rfl (vR rfl wVn))) (wL rfl rfl wLn))
 clear hy h
 rintro⟨aK,aT⟩ y h
 dsimp only[iZ] at h
 refine ra hx ?_
 refine AW.seq (cdh h rfl (fun cE h=>?_) (fun cE h=>?_))
 refine AW.skip (AW.seq (AW.block ?_))
 iterate 2 refine ra hx ?_
 refine AW.block ?_
 obtain⟨bE,hy,h⟩:=ah h
 refine lp (S:=Int×(List ak)) (X:=(List ak)) (fun (bX,bf)=>[(1,dI .i64 bR),(2,.fn 88 [0]),(6,.pt 1 0),(8,.pt 2 0),(9,dI .i64 aK),(14,dI .i64 cf),(15,dI .i64 aK),(18,dI .i64 bR),(19,dI .i64 bX)]) (fun (bX,bf)=>⟨[(0,[dI .i64 bM.vR,dI .i64 bM.vC,dL aj bM.vV]),(1,[dI .i64 (0:Int),dI .i64 (0:Int),dN]),(2,[dI .i64 cf,dI .i64 bR,dO 3 aj bf])],[(3,(bf).length,36,34)],4⟩) (PE cx (.exit 2) (fun bE=>[(1,dI .i64 bR),(2,.fn 88 [0]),(6,.pt 1 0),(8,.pt 2 0),(14,dI .i64 cf),(15,dI .i64 aK)]) fun bE=>⟨[(0,[dI .i64 bM.vR,dI .i64 bM.vC,dL aj bM.vV]),(1,[dI .i64 (0:Int),dI .i64 (0:Int),dN]),(2,[dI .i64 cf,dI .i64 bR,dO 3 aj bE])],[(3,(bE).length,36,34)],4⟩) hy ?_ ?_ ?_
 exact wkN h0 [1,2,3] (wR rfl (wR rfl (wR rfl (wR rfl (wR rfl (wR rfl (wR rfl (wR rfl (wR rfl wTn))))))))) (vR rfl (vR rfl (vR rfl wVn))) (wL rfl rfl wLn)
 clear hy h
 rintro⟨bX,bf⟩ y h
 dsimp only[iF] at h
 refine ra hx ?_
 refine AW.seq (cdh h rfl (fun lR h=>?_) (fun lR h=>?_))
 refine AW.skip (AW.seq (AW.block (ra hx ?_)))
 obtain⟨x3,ya,h⟩:=ah h
 obtain⟨CG,h⟩:=aC h
 refine jn (PE cx .normal (fun (_:Unit)=>[(1,dI .i64 bR),(2,.fn 88 [0]),(6,.pt 1 0),(8,.pt 2 0),(9,dI .i64 aK),(14,dI .i64 cf),(15,dI .i64 aK),(18,dI .i64 bR),(19,dI .i64 bX)]) (fun (_:Unit)=>⟨[(0,[dI .i64 bM.vR,dI .i64 bM.vC,dL aj bM.vV]),(1,[dI .i64 (0:Int),dI .i64 (0:Int),dN]),(2,[dI .i64 cf,dI .i64 bR,dO 3 aj (bf++[x3])])],[(3,(bf++[x3]).length,36,34)],4⟩) ()) ?_ ?_
 refine dw (DW.split 1 5 (by decide) ?_ ?_)
 refine dwg [] [0,1,2,3,4,5,6,7,8,9] hx (by kernel_rfl) (by kernel_rfl) (by kernel_rfl) fun K hK=>?_
 dsimp only[d8,nj,nA,List.map]
 refine sa ?_
 refine s1 (bc aP) ?_
 iterate 3 refine sa ?_
 refine s1 (mG [0] rfl (nr ya) (fA (ao _) (fA (ao _) (fA (ao _) fAn))) (vR rfl wVn) wLn (rvE rvN) (qw _ _ _) (uR _ _)) ?_
 refine s1 (lf ([x3]:List ak) aj aP aD) ?_
 refine s1 (d:=dO 3 aj (bf++[x3])) (iS aP aD CG) ?_
 refine sa ?_
 refine s0 (dX (ds':=[dI .i64 cf,dI .i64 bR,dO 3 aj (bf++[x3])]) aP) ?_
 exact .nil (hK _ _ (PE.i (wkN h0 [1,2,3] (wR rfl (wR rfl (wR rfl (wR rfl (wR rfl (wR rfl (wR rfl (wR rfl (wR rfl wTn))))))))) (vR rfl (vR rfl (vR rfl wVn))) (wL rfl rfl wLn))))
 refine dwg [] [0,2,3,4,5,1,6,7,8,9] hx (by kernel_rfl) (by kernel_rfl) (by kernel_rfl) fun K hK=>?_
 dsimp only[d8,nj,nA,List.map]
 iterate 4 refine sa ?_
 refine s1 (mG [0] rfl (nr ya) (fA (ao _) (fA (ao _) (fA (ao _) fAn))) (vR rfl wVn) wLn (rvE rvN) (qw _ _ _) (uR _ _)) ?_
 refine s1 (bc aP) ?_
 refine s1 (lf ([x3]:List ak) aj aP aD) ?_
 refine s1 (d:=dO 3 aj (bf++[x3])) (iS aP aD CG) ?_
 refine sa ?_
 refine s0 (dX (ds':=[dI .i64 cf,dI .i64 bR,dO 3 aj (bf++[x3])]) aP) ?_
 exact .nil (hK _ _ (PE.i (wkN h0 [1,2,3] (wR rfl (wR rfl (wR rfl (wR rfl (wR rfl (wR rfl (wR rfl (wR rfl (wR rfl wTn))))))))) (vR rfl (vR rfl (vR rfl wVn))) (wL rfl rfl wLn))))
 rintro ex tm' hp' ⟨rfl,hw⟩
 refine AW.weak hw (rb hx ?_)
 cases h
 exact PS.l (PE.i (wkN h0 [1,2,3] (wR rfl (wR rfl (wR rfl (wR rfl (wR rfl (wR rfl (wR rfl (wR rfl (wR rfl wTn))))))))) (vR rfl (vR rfl (vR rfl wVn))) (wL rfl rfl wLn)))
 refine AW.exit ?_
 try dsimp only
 try simp only[aM,reduceIte,Nat.reduceEqDiff,reduceCtorEq]
 cases h
 exact PS.r ⟨by nofun,PE.i (wkN h0 [1,2,3] (wR rfl (wR rfl (wR rfl (wR rfl (wR rfl (wR rfl wTn)))))) (vR rfl (vR rfl (vR rfl wVn))) (wL rfl rfl wLn))⟩
 rintro ex tm' hp' ⟨rfl,hw⟩
 try dsimp only
 try simp only[aM,reduceIte,Nat.reduceEqDiff,reduceCtorEq]
 refine AW.weak hw (rb hx ?_)
 cases h
 exact PS.l (PE.i (wkN h0 [1,2,3] (wR rfl (wR rfl (wR rfl (wR rfl (wR rfl (wR rfl wTn)))))) (vR rfl (vR rfl (vR rfl wVn))) (wL rfl rfl wLn)))
 refine AW.exit ?_
 try dsimp only
 try simp only[aM,reduceIte,Nat.reduceEqDiff,reduceCtorEq]
 cases h
 exact PS.r ⟨by nofun,PE.i (wkN h0 [1,2,3] (wR rfl (wR rfl wTn)) (vR rfl (vR rfl (vR rfl wVn))) (wL rfl rfl wLn))⟩
 rintro ex tm' hp' ⟨rfl,hw⟩
 try dsimp only
 try simp only[aM,reduceIte,Nat.reduceEqDiff,reduceCtorEq]
 refine AW.weak hw (AW.seq (rs hx fun K hK=>?_))
 refine sa ?_
 refine s1 (bc aP) ?_
 refine scb h gA fun x8 h=>?_
 refine sa ?_
 refine .nil (hK _ _ (cdh h rfl (fun fh h=>?_) (fun fh h=>?_)))
 refine rs hx fun K hK=>?_
 refine s1 (d:=.ag [dI .i64 (0:Int),dI .i64 (0:Int),dN]) (cY ax) ?_
 refine s0 (dX (ds':=[dI .i64 (0:Int),dI .i64 (0:Int),dN]) ax) ?_
 refine sa ?_
 refine .nil (hK _ _ (AW.ret ?_))
 cases h
 exact⟨_,eD (es:=[dI .i64 (0:Int),dI .i64 (0:Int),dN]) rfl ax rfl rfl (ltb rfl) (leb rfl) rfl (bY rfl (rfl)),qK.of_wk2 (by rw[hx];exact bg rfl) (wkN h0 [] (wG rfl (lD (wc (gY _) (wc (gY _) (wc (vq rfl) wcn)))) (wR rfl wTn)) (vR rfl wVn) wLn)⟩
 refine AW.skip (rs hx fun K hK=>?_)
 refine s1 (d:=.ag [dI .i64 cf,dI .i64 bR,dO 3 aj aG]) (bS ax) ?_
 refine s0 (dX (ds':=[dI .i64 cf,dI .i64 bR,dO 3 aj aG]) ax) ?_
 refine sa ?_
 refine .nil (hK _ _ (AW.ret ?_))
 cases h
 exact⟨_,eD (es:=[dI .i64 cf,dI .i64 bR,dO 3 aj aG]) rfl ax rfl rfl (ltb rfl) (leb rfl) rfl (bY rfl (rfl)),qK.of_wk2 (by rw[hx];exact bg rfl) (wkN h0 [] (wG rfl (lD (wc (gY _) (wc (gY _) (wc (GA _) wcn)))) (wR rfl wTn)) (vR rfl wVn) wLn)⟩
def gR(fR:av):Option (av×Int):=bnd (bG [fR]) fun x1=>cnd (!x1) (some ((⟨(0:Int),(0:Int),([]:List ak)⟩:av),(1:Int))) (bnd (jw fR.vC fR.vR fR) fun x4=>some (x4.1,x4.2))
theorem vc {fR:av}{r:av×Int}(h:gR fR=some r):aB prog 39 [dG aR fR] (.tu [dG aR r.1,dI .i64 r.2]):=by
 refine bL (rs:=[.cell 2 24,.tmp 3]) (fun cx hx h0=>?_) func39
 unfold gR at h
 refine rs hx fun K hK=>?_
 refine s1 (d:=.pt 0 0) iN ?_
 refine s1 (d:=.pt 1 0) (bZ ax) ?_
 refine sa ?_
 refine .nil (hK _ _ (AW.seq (rs hx fun K hK=>?_)))
 refine s1 (d:=dG aR fR) (bS ax) ?_
 refine s1 (d:=dO 2 aR [fR]) (iM pp ax) ?_
 refine scb h d6 fun x1 h=>?_
 refine sa ?_
 refine .nil (hK _ _ (cdh h rfl (fun bm h=>?_) (fun bm h=>?_)))
 refine rs hx fun K hK=>?_
 refine s1 (d:=.ag [dI .i64 (0:Int),dI .i64 (0:Int),dN]) (cY ax) ?_
 refine s0 (dX (ds':=[dI .i64 (0:Int),dI .i64 (0:Int),dN]) ax) ?_
 refine sa ?_
 refine .nil (hK _ _ (AW.ret ?_))
 cases h
 exact fK.mk2 (eD (es:=[dI .i64 (0:Int),dI .i64 (0:Int),dN]) rfl ax rfl rfl (ltb rfl) (leb rfl) rfl (bY rfl (.inr ⟨_,_,(lD (wc (gY _) (wc (gY _) (wc (vq rfl) wcn)))),(ao _),⟨rfl,rfl⟩,rfl⟩)))
 refine AW.skip (rs hx fun K hK=>?_)
 refine sa ?_
 refine s1 (bc a6) ?_
 refine sa ?_
 refine s1 (bc a6) ?_
 refine s1 va ?_
 obtain⟨x4,vu,h⟩:=ah h
 refine s1 (xk [0] rfl (xv vu) (fA (ao _) (fA (ao _) (fA (ao _) fAn))) (vR rfl wVn) wLn) ?_
 iterate 2 refine sa ?_
 refine s0 (dX (ds':=[dI .i64 x4.1.vR,dI .i64 x4.1.vC,dL aj x4.1.vV]) ax) ?_
 refine sa ?_
 refine .nil (hK _ _ (AW.ret ?_))
 cases h
 exact fK.mk2 (eD (es:=(aR.f x4.1).map .e) rfl ax rfl rfl (ltb rfl) (leb rfl) rfl (bY rfl (.inr ⟨_,_,(ao _),(ao _),⟨rfl,rfl⟩,rfl⟩)))
def gh(nk:Int)(jg:Int)(bM:av)(fg:av):Option ak:=cnd (decide (jg<bM.vC)) (bnd (b9 bM nk jg) fun x2=>some x2) (bnd (b9 fg nk (i64.wrap (jg - bM.vC))) fun x4=>some x4)
theorem pH {nk:Int}{jg:Int}{bM:av}{fg:av}{r:ak}(h:gh nk jg bM fg=some r):HC prog 98 [dI .i64 nk,dI .i64 jg,.pt 0 0,.pt 1 0] ⟨[(0,[dI .i64 bM.vR,dI .i64 bM.vC,dL aj bM.vV]),(1,[dI .i64 fg.vR,dI .i64 fg.vC,dL aj fg.vV])],[],2⟩ (dG aj r) ⟨[(0,[dI .i64 bM.vR,dI .i64 bM.vC,dL aj bM.vV]),(1,[dI .i64 fg.vR,dI .i64 fg.vC,dL aj fg.vV])],[],2⟩:=by
 refine HC.ofX (rs:=[.cell 6 34]) tok func98 rfl rfl (bg rfl) rfl (fun cx hx h1=>?_)
 have h0:cx.hp0.next=2:=by rw[h1]
 simp only[eg,Nat.reduceAdd,bq]
 unfold gh at h
 refine rs hx fun K hK=>?_
 refine s1 (bo (F:=aj.f cu) aD) ?_
 refine .nil (hK _ _ (AW.seq (rs hx fun K hK=>?_)))
 iterate 2 refine sa ?_
 refine s1 (bc a6) ?_
 refine sa ?_
 refine .nil (hK _ _ (cdh h rfl (fun cE h=>?_) (fun cE h=>?_)))
 refine rs hx fun K hK=>?_
 refine s1 (d:=dG aR bM) (bS ax) ?_
 iterate 2 refine sa ?_
 refine scb h dp fun x2 h=>?_
 refine s0 (aO (b':=x2) (an.id _ _) aD) ?_
 refine .nil (hK _ _ (AW.ret ?_))
 cases h
 exact⟨_,qh rfl aD rfl rfl (ltb rfl) (aj.h _) (rfl),qK.of_wk (by rw[hx];exact bg rfl) (wkN h0 [] (wG rfl (ao _) wTn) (vR rfl (vR rfl wVn)) wLn)⟩
 refine AW.skip (rs hx fun K hK=>?_)
 refine s1 (d:=dG aR fg) (bS ax) ?_
 iterate 3 refine sa ?_
 refine s1 (bc a6) ?_
 refine sa ?_
 refine scb h dp fun x4 h=>?_
 refine s0 (aO (b':=x4) (an.id _ _) aD) ?_
 refine .nil (hK _ _ (AW.ret ?_))
 cases h
 exact⟨_,qh rfl aD rfl rfl (ltb rfl) (aj.h _) (rfl),qK.of_wk (by rw[hx];exact bg rfl) (wkN h0 [] (wG rfl (ao _) wTn) (vR rfl (vR rfl wVn)) wLn)⟩
def iE(bR:Int)(bM:av)(fg:av)(aK:Int):Int×(List ak)→Option ((Int×(List ak))⊕((List ak))):=fun (bX,bf)=>cnd (decide (bX<bR)) (bnd (gh aK bX bM fg) fun x3=>gd ((bf++[x3]).length*136≤140737488355328) (some (.inl (i64.wrap (bX+(1:Int)),bf++[x3])))) (some (.inr bf))
def iY(cf:Int)(bR:Int)(bM:av)(fg:av):Int×(List ak)→Option ((Int×(List ak))⊕((List ak))):=fun (aK,aT)=>cnd (decide (aK<cf)) (bnd (a5 (iE bR bM fg aK) ((0:Int),aT)) fun bE=>some (.inl (i64.wrap (aK+(1:Int)),bE))) (some (.inr aT))
def jv(cf:Int)(bR:Int)(bM:av)(fg:av):Option (av×Int):=bnd (a5 (iY cf bR bM fg) ((0:Int),([]:List ak))) fun aG=>bnd (cG aG) fun x8=>cnd (!x8) (some ((⟨(0:Int),(0:Int),([]:List ak)⟩:av),(30:Int))) (some ((⟨cf,bR,aG⟩:av),(0:Int)))
theorem xu {cf:Int}{bR:Int}{bM:av}{fg:av}{r:av×Int}(h:jv cf bR bM fg=some r):HC prog 73 [dI .i64 cf,dI .i64 bR,.fn 98 [0,1]] ⟨[(0,[dI .i64 bM.vR,dI .i64 bM.vC,dL aj bM.vV]),(1,[dI .i64 fg.vR,dI .i64 fg.vC,dL aj fg.vV])],[],2⟩ (.tu [dG aR r.1,dI .i64 r.2]) ⟨[(0,[dI .i64 bM.vR,dI .i64 bM.vC,dL aj bM.vV]),(1,[dI .i64 fg.vR,dI .i64 fg.vC,dL aj fg.vV])],[],2⟩:=by
 refine HC.ofX (rs:=[.cell 6 24,.tmp 7]) tok func73 rfl rfl (bg rfl) rfl (fun cx hx h1=>?_)
 have h0:cx.hp0.next=2:=by rw[h1]
 simp only[eg,Nat.reduceAdd,bq]
 unfold jv at h
 refine rs hx fun K hK=>?_
 refine s1 (d:=.pt 2 0) (bZ ax) ?_
 refine sa ?_
 refine .nil (hK _ _ (rs hx fun K hK=>?_))
 iterate 2 refine sa ?_
 refine s1 (d:=.ag [dI .i64 cf,dI .i64 bR,dN]) (cY ax) ?_
 refine s1 (d:=.pt 3 0) (bZ ax) ?_
 refine s0 (dX (ds':=[dI .i64 cf,dI .i64 bR,dN]) ax) ?_
 refine .nil (hK _ _ (AW.seq (ra hx ?_)))
 refine AW.block ?_
 obtain⟨aG,hy,h⟩:=ah h
 refine lp (S:=Int×(List ak)) (X:=(List ak)) (fun (aK,aT)=>[(1,dI .i64 bR),(2,.fn 98 [0,1]),(6,.pt 2 0),(8,.pt 3 0),(14,dI .i64 cf),(15,dI .i64 aK)]) (fun (aK,aT)=>⟨[(0,[dI .i64 bM.vR,dI .i64 bM.vC,dL aj bM.vV]),(1,[dI .i64 fg.vR,dI .i64 fg.vC,dL aj fg.vV]),(2,[dI .i64 (0:Int),dI .i64 (0:Int),dN]),(3,[dI .i64 cf,dI .i64 bR,dO 4 aj aT])],[(4,(aT).length,36,34)],5⟩) (PE cx (.exit 0) (fun aG=>[(6,.pt 2 0),(8,.pt 3 0)]) fun aG=>⟨[(0,[dI .i64 bM.vR,dI .i64 bM.vC,dL aj bM.vV]),(1,[dI .i64 fg.vR,dI .i64 fg.vC,dL aj fg.vV]),(2,[dI .i64 (0:Int),dI .i64 (0:Int),dN]),(3,[dI .i64 cf,dI .i64 bR,dO 4 aj aG])],[(4,(aG).length,36,34)],5⟩) hy ?_ ?_ ?_
 exact Wk.trans (Wk.nilOwn (ds':=[dI .i64 cf,dI .i64 bR,dO 4 aj ([]:List ak)]) 3 2 34 36) (wkN h0 [2,3,4] (wR rfl (wR rfl (wR rfl (wR rfl (wR rfl (wR rfl wTn)))))) (vR rfl (vR rfl (vR rfl (vR rfl wVn)))) (wL rfl rfl wLn))
 clear hy h
 rintro⟨aK,aT⟩ y h
 dsimp only[iY] at h
 refine ra hx ?_
 refine AW.seq (cdh h rfl (fun cE h=>?_) (fun cE h=>?_))
 refine AW.skip (AW.seq (AW.block ?_))
 iterate 2 refine ra hx ?_
 refine AW.block ?_
 obtain⟨bE,hy,h⟩:=ah h
 refine lp (S:=Int×(List ak)) (X:=(List ak)) (fun (bX,bf)=>[(1,dI .i64 bR),(2,.fn 98 [0,1]),(6,.pt 2 0),(8,.pt 3 0),(9,dI .i64 aK),(14,dI .i64 cf),(15,dI .i64 aK),(18,dI .i64 bR),(19,dI .i64 bX)]) (fun (bX,bf)=>⟨[(0,[dI .i64 bM.vR,dI .i64 bM.vC,dL aj bM.vV]),(1,[dI .i64 fg.vR,dI .i64 fg.vC,dL aj fg.vV]),(2,[dI .i64 (0:Int),dI .i64 (0:Int),dN]),(3,[dI .i64 cf,dI .i64 bR,dO 4 aj bf])],[(4,(bf).length,36,34)],5⟩) (PE cx (.exit 2) (fun bE=>[(1,dI .i64 bR),(2,.fn 98 [0,1]),(6,.pt 2 0),(8,.pt 3 0),(14,dI .i64 cf),(15,dI .i64 aK)]) fun bE=>⟨[(0,[dI .i64 bM.vR,dI .i64 bM.vC,dL aj bM.vV]),(1,[dI .i64 fg.vR,dI .i64 fg.vC,dL aj fg.vV]),(2,[dI .i64 (0:Int),dI .i64 (0:Int),dN]),(3,[dI .i64 cf,dI .i64 bR,dO 4 aj bE])],[(4,(bE).length,36,34)],5⟩) hy ?_ ?_ ?_
 exact wkN h0 [2,3,4] (wR rfl (wR rfl (wR rfl (wR rfl (wR rfl (wR rfl (wR rfl (wR rfl (wR rfl wTn))))))))) (vR rfl (vR rfl (vR rfl (vR rfl wVn)))) (wL rfl rfl wLn)
 clear hy h
 rintro⟨bX,bf⟩ y h
 dsimp only[iE] at h
 refine ra hx ?_
 refine AW.seq (cdh h rfl (fun lR h=>?_) (fun lR h=>?_))
 refine AW.skip (AW.seq (AW.block (ra hx ?_)))
 obtain⟨x3,ya,h⟩:=ah h
 obtain⟨CG,h⟩:=aC h
 refine jn (PE cx .normal (fun (_:Unit)=>[(1,dI .i64 bR),(2,.fn 98 [0,1]),(6,.pt 2 0),(8,.pt 3 0),(9,dI .i64 aK),(14,dI .i64 cf),(15,dI .i64 aK),(18,dI .i64 bR),(19,dI .i64 bX)]) (fun (_:Unit)=>⟨[(0,[dI .i64 bM.vR,dI .i64 bM.vC,dL aj bM.vV]),(1,[dI .i64 fg.vR,dI .i64 fg.vC,dL aj fg.vV]),(2,[dI .i64 (0:Int),dI .i64 (0:Int),dN]),(3,[dI .i64 cf,dI .i64 bR,dO 4 aj (bf++[x3])])],[(4,(bf++[x3]).length,36,34)],5⟩) ()) ?_ ?_
 refine dw (DW.split 1 5 (by decide) ?_ ?_)
 refine dwg [] [0,1,2,3,4,5,6,7,8,9] hx (by kernel_rfl) (by kernel_rfl) (by kernel_rfl) fun K hK=>?_
 dsimp only[d8,nj,nA,List.map]
 refine sa ?_
 refine s1 (bc aP) ?_
 iterate 3 refine sa ?_
 refine s1 (mG [0,1] rfl (pH ya) (fA (ao _) (fA (ao _) (fA (ao _) (fA (ao _) fAn)))) (vR rfl (vR rfl wVn)) wLn (rvE (rvE rvN)) (qw _ _ _) (uR _ _)) ?_
 refine s1 (lf ([x3]:List ak) aj aP aD) ?_
 refine s1 (d:=dO 4 aj (bf++[x3])) (iS aP aD CG) ?_
 refine sa ?_
 refine s0 (dX (ds':=[dI .i64 cf,dI .i64 bR,dO 4 aj (bf++[x3])]) aP) ?_
 exact .nil (hK _ _ (PE.i (wkN h0 [2,3,4] (wR rfl (wR rfl (wR rfl (wR rfl (wR rfl (wR rfl (wR rfl (wR rfl (wR rfl wTn))))))))) (vR rfl (vR rfl (vR rfl (vR rfl wVn)))) (wL rfl rfl wLn))))
 refine dwg [] [0,2,3,4,5,1,6,7,8,9] hx (by kernel_rfl) (by kernel_rfl) (by kernel_rfl) fun K hK=>?_
 dsimp only[d8,nj,nA,List.map]
 iterate 4 refine sa ?_
 refine s1 (mG [0,1] rfl (pH ya) (fA (ao _) (fA (ao _) (fA (ao _) (fA (ao _) fAn)))) (vR rfl (vR rfl wVn)) wLn (rvE (rvE rvN)) (qw _ _ _) (uR _ _)) ?_
 refine s1 (bc aP) ?_
 refine s1 (lf ([x3]:List ak) aj aP aD) ?_
 refine s1 (d:=dO 4 aj (bf++[x3])) (iS aP aD CG) ?_
 refine sa ?_
 refine s0 (dX (ds':=[dI .i64 cf,dI .i64 bR,dO 4 aj (bf++[x3])]) aP) ?_
 exact .nil (hK _ _ (PE.i (wkN h0 [2,3,4] (wR rfl (wR rfl (wR rfl (wR rfl (wR rfl (wR rfl (wR rfl (wR rfl (wR rfl wTn))))))))) (vR rfl (vR rfl (vR rfl (vR rfl wVn)))) (wL rfl rfl wLn))))
 rintro ex tm' hp' ⟨rfl,hw⟩
 refine AW.weak hw (rb hx ?_)
 cases h
 exact PS.l (PE.i (wkN h0 [2,3,4] (wR rfl (wR rfl (wR rfl (wR rfl (wR rfl (wR rfl (wR rfl (wR rfl (wR rfl wTn))))))))) (vR rfl (vR rfl (vR rfl (vR rfl wVn)))) (wL rfl rfl wLn)))
 refine AW.exit ?_
 try dsimp only
 try simp only[aM,reduceIte,Nat.reduceEqDiff,reduceCtorEq]
 cases h
 exact PS.r ⟨by nofun,PE.i (wkN h0 [2,3,4] (wR rfl (wR rfl (wR rfl (wR rfl (wR rfl (wR rfl wTn)))))) (vR rfl (vR rfl (vR rfl (vR rfl wVn)))) (wL rfl rfl wLn))⟩
 rintro ex tm' hp' ⟨rfl,hw⟩
 try dsimp only
 try simp only[aM,reduceIte,Nat.reduceEqDiff,reduceCtorEq]
 refine AW.weak hw (rb hx ?_)
 cases h
 exact PS.l (PE.i (wkN h0 [2,3,4] (wR rfl (wR rfl (wR rfl (wR rfl (wR rfl (wR rfl wTn)))))) (vR rfl (vR rfl (vR rfl (vR rfl wVn)))) (wL rfl rfl wLn)))
 refine AW.exit ?_
 try dsimp only
 try simp only[aM,reduceIte,Nat.reduceEqDiff,reduceCtorEq]
 cases h
 exact PS.r ⟨by nofun,PE.i (wkN h0 [2,3,4] (wR rfl (wR rfl wTn)) (vR rfl (vR rfl (vR rfl (vR rfl wVn)))) (wL rfl rfl wLn))⟩
 rintro ex tm' hp' ⟨rfl,hw⟩
 try dsimp only
 try simp only[aM,reduceIte,Nat.reduceEqDiff,reduceCtorEq]
 refine AW.weak hw (AW.seq (rs hx fun K hK=>?_))
 refine sa ?_
 refine s1 (bc aP) ?_
 refine scb h gA fun x8 h=>?_
 refine sa ?_
 refine .nil (hK _ _ (cdh h rfl (fun fh h=>?_) (fun fh h=>?_)))
 refine rs hx fun K hK=>?_
 refine s1 (d:=.ag [dI .i64 (0:Int),dI .i64 (0:Int),dN]) (cY ax) ?_
 refine s0 (dX (ds':=[dI .i64 (0:Int),dI .i64 (0:Int),dN]) ax) ?_
 refine sa ?_
 refine .nil (hK _ _ (AW.ret ?_))
 cases h
 exact⟨_,eD (es:=[dI .i64 (0:Int),dI .i64 (0:Int),dN]) rfl ax rfl rfl (ltb rfl) (leb rfl) rfl (bY rfl (rfl)),qK.of_wk2 (by rw[hx];exact bg rfl) (wkN h0 [] (wG rfl (lD (wc (gY _) (wc (gY _) (wc (vq rfl) wcn)))) (wR rfl wTn)) (vR rfl (vR rfl wVn)) wLn)⟩
 refine AW.skip (rs hx fun K hK=>?_)
 refine s1 (d:=.ag [dI .i64 cf,dI .i64 bR,dO 4 aj aG]) (bS ax) ?_
 refine s0 (dX (ds':=[dI .i64 cf,dI .i64 bR,dO 4 aj aG]) ax) ?_
 refine sa ?_
 refine .nil (hK _ _ (AW.ret ?_))
 cases h
 exact⟨_,eD (es:=[dI .i64 cf,dI .i64 bR,dO 4 aj aG]) rfl ax rfl rfl (ltb rfl) (leb rfl) rfl (bY rfl (rfl)),qK.of_wk2 (by rw[hx];exact bg rfl) (wkN h0 [] (wG rfl (lD (wc (gY _) (wc (gY _) (wc (GA _) wcn)))) (wR rfl wTn)) (vR rfl (vR rfl wVn)) wLn)⟩
def ik(aY:av)(a9:av):Option (av×Int):=bnd (S:=Bool) (bnd (bG [aY,a9]) fun x1=>cnd (!x1) (some (true)) (some (decide (aY.vR≠a9.vR)))) fun kS=>cnd kS (some ((⟨(0:Int),(0:Int),([]:List ak)⟩:av),(1:Int))) (cnd (decide ((200:Int)<(i64.wrap (aY.vC+a9.vC)))) (some ((⟨(0:Int),(0:Int),([]:List ak)⟩:av),(2:Int))) (bnd (jv aY.vR (i64.wrap (aY.vC+a9.vC)) aY a9) fun x7=>some (x7.1,x7.2)))
theorem zH {aY:av}{a9:av}{r:av×Int}(h:ik aY a9=some r):aB prog 51 [dG aR aY,dG aR a9] (.tu [dG aR r.1,dI .i64 r.2]):=by
 refine bL (rs:=[.cell 4 24,.tmp 5]) (fun cx hx h0=>?_) func51
 unfold ik at h
 refine rs hx fun K hK=>?_
 refine s1 (d:=.pt 0 0) iN ?_
 refine s1 (d:=.pt 1 0) iN ?_
 refine s1 (d:=.pt 2 0) (bZ ax) ?_
 refine sa ?_
 refine .nil (hK _ _ (AW.seq (AW.block (AW.seq ?_))))
 obtain⟨kS,hy,h⟩:=ah h
 refine jn ((PE cx .normal (fun kS=>[(2,.pt 0 0),(3,.pt 1 0),(4,.pt 2 0),(6,dB kS)]) fun kS=>⟨[(0,[dI .i64 aY.vR,dI .i64 aY.vC,dL aj aY.vV]),(1,[dI .i64 a9.vR,dI .i64 a9.vC,dL aj a9.vV]),(2,[dI .i64 (0:Int),dI .i64 (0:Int),dN])],[],3⟩) kS) ?_ ?_
 replace h:=hy
 refine rq hx fun K hK=>?_
 refine s1 (d:=dG aR aY) (bS ax) ?_
 refine s1 (d:=dG aR a9) (bS ax) ?_
 refine s1 (d:=dO 3 aR [aY,a9]) (iM pp ax) ?_
 refine scb h d6 fun x1 h=>?_
 iterate 2 refine sa ?_
 rcases aZ (!x1) with bm|bm
 replace h:=a3 bm h
 iterate 5 refine aI rfl rfl bm ?_
 refine s1 (al bm) ?_
 refine sa ?_
 refine .nil (hK _ _ ?_)
 cases h
 exact pe0 h0 [0,1,2]
 replace h:=a4 bm h
 refine ga bm ?_
 refine g1 bm (bc a6) ?_
 refine ga bm ?_
 refine g1 bm (bc a6) ?_
 refine ga bm ?_
 refine s1 (au bm) ?_
 refine sa ?_
 refine .nil (hK _ _ ?_)
 cases h
 exact pe0 h0 [0,1,2]
 rintro ex tm' hp' ⟨rfl,hw⟩
 refine AW.weak hw (cdh h rfl (fun nE h=>?_) (fun nE h=>?_))
 refine rs hx fun K hK=>?_
 refine s1 (d:=.ag [dI .i64 (0:Int),dI .i64 (0:Int),dN]) (cY ax) ?_
 refine s0 (dX (ds':=[dI .i64 (0:Int),dI .i64 (0:Int),dN]) ax) ?_
 refine sa ?_
 refine .nil (hK _ _ (AW.ret ?_))
 cases h
 exact fK.mk2 (eD (es:=[dI .i64 (0:Int),dI .i64 (0:Int),dN]) rfl ax rfl rfl (ltb rfl) (leb rfl) rfl (bY rfl (.inr ⟨_,_,(lD (wc (gY _) (wc (gY _) (wc (vq rfl) wcn)))),(ao _),⟨rfl,rfl⟩,rfl⟩)))
 refine rs hx fun K hK=>?_
 refine sa ?_
 refine s1 (bc a6) ?_
 refine sa ?_
 refine s1 (bc a6) ?_
 iterate 3 refine sa ?_
 refine .nil (hK _ _ (cdh h rfl (fun dy h=>?_) (fun dy h=>?_)))
 refine rs hx fun K hK=>?_
 refine s1 (d:=.ag [dI .i64 (0:Int),dI .i64 (0:Int),dN]) (cY ax) ?_
 refine s0 (dX (ds':=[dI .i64 (0:Int),dI .i64 (0:Int),dN]) ax) ?_
 refine sa ?_
 refine .nil (hK _ _ (AW.ret ?_))
 cases h
 exact fK.mk2 (eD (es:=[dI .i64 (0:Int),dI .i64 (0:Int),dN]) rfl ax rfl rfl (ltb rfl) (leb rfl) rfl (bY rfl (.inr ⟨_,_,(lD (wc (gY _) (wc (gY _) (wc (vq rfl) wcn)))),(ao _),⟨rfl,rfl⟩,rfl⟩)))
 refine AW.skip (rs hx fun K hK=>?_)
 refine sa ?_
 refine s1 (bc a6) ?_
 refine sa ?_
 refine s1 (bc a6) ?_
 refine sa ?_
 refine s1 (bc a6) ?_
 refine sa ?_
 refine s1 va ?_
 obtain⟨x7,xZ,h⟩:=ah h
 refine s1 (xk [0,1] rfl (xu xZ) (fA (ao _) (fA (ao _) (fA (ao _) fAn))) (vR rfl (vR rfl wVn)) wLn) ?_
 iterate 2 refine sa ?_
 refine s0 (dX (ds':=[dI .i64 x7.1.vR,dI .i64 x7.1.vC,dL aj x7.1.vV]) ax) ?_
 refine sa ?_
 refine .nil (hK _ _ (AW.ret ?_))
 cases h
 exact fK.mk2 (eD (es:=(aR.f x7.1).map .e) rfl ax rfl rfl (ltb rfl) (leb rfl) rfl (bY rfl (.inr ⟨_,_,(ao _),(ao _),⟨rfl,rfl⟩,rfl⟩)))
abbrev mS(R C:Int)(V:List Nu):av:=⟨R,C,V.map nv⟩
abbrev mZ:av:=⟨0,0,[]⟩
def aW(R C:Int)(V:List Nu):Int:=if R<0∨200<R∨C<0∨200<C then 2 else if (V.length:Int)≠R*C∨V.all aQ=false then 1 else 0
structure MV(R C:Nat)(V:List Nu):Prop where
 r:R≤200
 c:C≤200
 len:V.length=R*C
 good:V.all aQ=true
theorem eT {R C:Int}{V:List Nu}:aW R C V=0↔∃r c:Nat,R=r∧C=c∧MV r c V:=by
 unfold aW
 constructor
 ·intro h
  split at h
  ·cases h
  ·rename_i h1
   split at h
   ·cases h
   ·rename_i h2
    obtain⟨r,rfl⟩:∃r:Nat,R=r:=⟨R.toNat,by omega⟩
    obtain⟨c,rfl⟩:∃c:Nat,C=c:=⟨C.toNat,by omega⟩
    refine⟨r,c,rfl,rfl,by omega,by omega,?_,?_⟩
    ·have h3:(V.length:Int)=(r:Int)*c:=u5 fun e=>h2 (.inl e)
     exact_mod_cast h3
    ·cases hg:V.all aQ with
     |true=>rfl
     |false=>exact absurd (.inr hg) h2
 ·rintro⟨r,c,rfl,rfl,hm⟩
  have h1:=hm.r
  have h2:=hm.c
  rw[ifn_,aA]
  rintro (h|h)
  ·exact h (by rw[hm.len];exact_mod_cast rfl)
  ·rw[hm.good] at h;cases h
theorem MV.rc {R C:Nat}{V:List Nu}(h:MV R C V):R*C≤40000:=pY h.r h.c
theorem MV.chk {R C:Nat}{V:List Nu}(h:MV R C V):aW R C V=0:=eT.2 ⟨R,C,rfl,rfl,h⟩
theorem qJ {V:List Nu}(h:V.length≤1000000):cG (V.map nv)=some (V.all aQ):=by
 unfold cG br bD
 have key:=z6 (b:=be (V.map nv)) (n:=V.length) h (fun i=>!aQ V[i]!) (fun i hi=>by
  unfold be mJ
  rw[eG,bt _ _,aJ,bH,Gk hi,JJ]
  rfl) (by
  unfold be
  rw[eG,bu _ _])
 rw[KK V (fun x=>!aQ x)] at key
 have e:V.all aQ= !V.any fun x=>!aQ x:=by rw[IW];simp
 rcases key with⟨h1,h2⟩|⟨j,h1,h2⟩ <;> rw[h1,e,h2]
 ·rfl
 ·simp[bnd]
theorem uz {R C:Int}{V:List Nu}(h:V.length≤1000000):dt (mS R C V)=some (aW R C V):=by
 unfold dt aW
 dsimp only
 simp only[kOr,ab,qJ h]
 by_cases h1:R<0∨200<R∨C<0∨200<C
 ·rw[ay h1]
  have:(decide (R<0)||(decide (200<R)||(decide (C<0)||decide (200<C))))=true:=by simpa using h1
  rw[this];rfl
 ·rw[aA h1]
  have:(decide (R<0)||(decide (200<R)||(decide (C<0)||decide (200<C))))=false:=by simpa using h1
  rw[this,kF]
  have L9:0≤R*C∧R*C≤40000:=by
   obtain⟨r,rfl⟩:∃r:Nat,R=r:=⟨R.toNat,by omega⟩
   obtain⟨c,rfl⟩:∃c:Nat,C=c:=⟨C.toNat,by omega⟩
   have:r*c≤200*200:=pY (by omega) (by omega)
   have e:((r:Int)*c)=((r*c:Nat):Int):=by exact_mod_cast rfl
   rw[e];omega
  rw[w64,eG]
  by_cases h2:(V.length:Int)≠R*C∨V.all aQ=false
  ·rw[ay h2]
   have:(decide ((V.length:Int)≠R*C)||!V.all aQ)=true:=by
    rcases h2 with h2|h2
    ·rw[cV h2];rfl
    ·rw[h2];simp
   rw[this];rfl
  ·rw[aA h2]
   have:(decide ((V.length:Int)≠R*C)||!V.all aQ)=false:=by
    have a:¬(V.length:Int)≠R*C:=fun e=>h2 (.inl e)
    have b:V.all aQ=true:=by cases hg:V.all aQ with
     |true=>rfl
     |false=>exact absurd (.inr hg) h2
    rw[gG a,b];rfl
   rw[this];rfl
theorem nZ {R C:Int}{V:List Nu}(h:V.length≤1000000):bG [mS R C V]=some (decide (aW R C V=0)):=by
 unfold bG bb bi
 have key:=z6 (b:=aV [mS R C V]) (n:=1) (by decide) (fun i=>decide (aW R C V≠0)) (fun i hi=>by
  obtain rfl:i=0:=by omega
  unfold aV jt
  rw[bt _ _ (by simp),aJ ⟨by simp,by simp⟩]
  show bnd (bnd (dt (mS R C V)) _) _=_
  rw[uz h]
  rfl) rfl
 rcases key with⟨h1,h2⟩|⟨j,h1,h2⟩ <;> rw[h1] <;> by_cases hc:aW R C V=0 <;> simp[hc,bnd,u7] at h2 ⊢
theorem BY {R C R' C':Int}{V V':List Nu}(h:V.length≤1000000)(h':V'.length≤1000000):bG [mS R C V,mS R' C' V']=some (decide (aW R C V=0)&&decide (aW R' C' V'=0)):=by
 unfold bG bb bi
 have key:=z6 (b:=aV [mS R C V,mS R' C' V']) (n:=2) (by decide) (fun i=>if i=0 then decide (aW R C V≠0) else decide (aW R' C' V'≠0)) (fun i hi=>by
  unfold aV jt
  have hi2:i=0∨i=1:=by omega
  rcases hi2 with rfl|rfl
  ·rw[bt _ _ (by simp),aJ ⟨by simp,by simp⟩]
   show bnd (bnd (dt (mS R C V)) _) _=_
   rw[uz h]
   rfl
  ·rw[bt _ _ (by simp),aJ ⟨by simp,by simp⟩]
   show bnd (bnd (dt (mS R' C' V')) _) _=_
   rw[uz h']
   rfl) rfl
 rcases key with⟨h1,h2⟩|⟨j,h1,h2⟩ <;> rw[h1] <;> by_cases hc:aW R C V=0 <;> by_cases Oj:aW R' C' V'=0 <;> simp[hc,Oj,bnd,u7] at h2 ⊢<;> omega
theorem ub {R C:Nat}{V:List Nu}(hV:V.length=R*C)(L9:R*C≤1000000){i k:Nat}(hi:i<R)(hk:k<C):b9 (mS R C V) i k=some (nv V[i*C+k]!):=by
 have h1:=cC hi hk
 have e:(i:Int)*(C:Int)=((i*C:Nat):Int):=by exact_mod_cast rfl
 unfold b9
 dsimp only
 rw[e]
 generalize i*C=p at*
 generalize R*C=n at*
 rw[w64 (n:=(p:Int)),w64 (n:=(p:Int)+(k:Int)),eG,aJ]
 simp only[ab]
 rw[show (p:Int)+(k:Int)=((p+k:Nat):Int) by omega,bH,Gk]
def ip(R C:Nat)(V:List Nu):av×Int:=if V.all aQ then (mS R C V,0) else (mZ,30)
theorem zS {R C:Nat}(hR:R≤400)(hC:C≤400)(f:Nat→Nat→Nu)(hf:∀i k:Nat,i<R→k<C→gg (i:Int) (k:Int)=some (nv (f i k))):ct R C=some (ip R C (mkM R C f)):=by
 have L9:R*C≤400*400:=pY hR hC
 unfold ct
 rw[oW (R:=R) (C:=C) (by omega) f (by omega) (fun i hi acc uE=>?_) (fun l=>?_)]
 ·simp only[ab]
  rw[qJ (by rw[et];omega)]
  simp only[ab]
  unfold ip
  cases (mkM R C f).all aQ <;> rfl
 ·unfold cO
  dsimp only
  rw[bt _ _,qS (C:=C) (by omega) (f i) acc uE (fun k hk l=>?_) (fun l=>?_)]
  ·rfl
  ·unfold cF
   dsimp only
   rw[bt _ _,hf i k hi hk]
   rfl
  ·unfold cF
   dsimp only
   rw[bu _ _]
 ·unfold cO
  dsimp only
  rw[bu _ _]
theorem Js {R C:Nat}{a b:av}(hR:R≤400)(hC:C≤400)(f:Nat→Nat→Nu)(hf:∀i k:Nat,i<R→k<C→jA (i:Int) (k:Int) a b=some (nv (f i k))):ko R C a b=some (ip R C (mkM R C f)):=by
 have L9:R*C≤400*400:=pY hR hC
 unfold ko
 rw[oW (R:=R) (C:=C) (by omega) f (by omega) (fun i hi acc uE=>?_) (fun l=>?_)]
 ·simp only[ab]
  rw[qJ (by rw[et];omega)]
  simp only[ab]
  unfold ip
  cases (mkM R C f).all aQ <;> rfl
 ·unfold jU
  dsimp only
  rw[bt _ _,qS (C:=C) (by omega) (f i) acc uE (fun k hk l=>?_) (fun l=>?_)]
  ·rfl
  ·unfold iW
   dsimp only
   rw[bt _ _,hf i k hi hk]
   rfl
  ·unfold iW
   dsimp only
   rw[bu _ _]
 ·unfold jU
  dsimp only
  rw[bu _ _]
theorem Fi {R C:Nat}{a:av}{x:ak}(hR:R≤400)(hC:C≤400)(f:Nat→Nat→Nu)(hf:∀i k:Nat,i<R→k<C→mP (i:Int) (k:Int) a x=some (nv (f i k))):oB R C a x=some (ip R C (mkM R C f)):=by
 have L9:R*C≤400*400:=pY hR hC
 unfold oB
 rw[oW (R:=R) (C:=C) (by omega) f (by omega) (fun i hi acc uE=>?_) (fun l=>?_)]
 ·simp only[ab]
  rw[qJ (by rw[et];omega)]
  simp only[ab]
  unfold ip
  cases (mkM R C f).all aQ <;> rfl
 ·unfold mh
  dsimp only
  rw[bt _ _,qS (C:=C) (by omega) (f i) acc uE (fun k hk l=>?_) (fun l=>?_)]
  ·rfl
  ·unfold lM
   dsimp only
   rw[bt _ _,hf i k hi hk]
   rfl
  ·unfold lM
   dsimp only
   rw[bu _ _]
 ·unfold mh
  dsimp only
  rw[bu _ _]
theorem Jr {R C:Nat}{a b:av}(hR:R≤400)(hC:C≤400)(f:Nat→Nat→Nu)(hf:∀i k:Nat,i<R→k<C→gL (i:Int) (k:Int) a b=some (nv (f i k))):jx R C a b=some (ip R C (mkM R C f)):=by
 have L9:R*C≤400*400:=pY hR hC
 unfold jx
 rw[oW (R:=R) (C:=C) (by omega) f (by omega) (fun i hi acc uE=>?_) (fun l=>?_)]
 ·simp only[ab]
  rw[qJ (by rw[et];omega)]
  simp only[ab]
  unfold ip
  cases (mkM R C f).all aQ <;> rfl
 ·unfold ja
  dsimp only
  rw[bt _ _,qS (C:=C) (by omega) (f i) acc uE (fun k hk l=>?_) (fun l=>?_)]
  ·rfl
  ·unfold iG
   dsimp only
   rw[bt _ _,hf i k hi hk]
   rfl
  ·unfold iG
   dsimp only
   rw[bu _ _]
 ·unfold ja
  dsimp only
  rw[bu _ _]
theorem yQ {R C:Nat}{a:av}(hR:R≤400)(hC:C≤400)(f:Nat→Nat→Nu)(hf:∀i k:Nat,i<R→k<C→eR (i:Int) (k:Int) a=some (nv (f i k))):jw R C a=some (ip R C (mkM R C f)):=by
 have L9:R*C≤400*400:=pY hR hC
 unfold jw
 rw[oW (R:=R) (C:=C) (by omega) f (by omega) (fun i hi acc uE=>?_) (fun l=>?_)]
 ·simp only[ab]
  rw[qJ (by rw[et];omega)]
  simp only[ab]
  unfold ip
  cases (mkM R C f).all aQ <;> rfl
 ·unfold iZ
  dsimp only
  rw[bt _ _,qS (C:=C) (by omega) (f i) acc uE (fun k hk l=>?_) (fun l=>?_)]
  ·rfl
  ·unfold iF
   dsimp only
   rw[bt _ _,hf i k hi hk]
   rfl
  ·unfold iF
   dsimp only
   rw[bu _ _]
 ·unfold iZ
  dsimp only
  rw[bu _ _]
theorem CT {R C:Nat}{a b:av}(hR:R≤400)(hC:C≤400)(f:Nat→Nat→Nu)(hf:∀i k:Nat,i<R→k<C→gh (i:Int) (k:Int) a b=some (nv (f i k))):jv R C a b=some (ip R C (mkM R C f)):=by
 have L9:R*C≤400*400:=pY hR hC
 unfold jv
 rw[oW (R:=R) (C:=C) (by omega) f (by omega) (fun i hi acc uE=>?_) (fun l=>?_)]
 ·simp only[ab]
  rw[qJ (by rw[et];omega)]
  simp only[ab]
  unfold ip
  cases (mkM R C f).all aQ <;> rfl
 ·unfold iY
  dsimp only
  rw[bt _ _,qS (C:=C) (by omega) (f i) acc uE (fun k hk l=>?_) (fun l=>?_)]
  ·rfl
  ·unfold iE
   dsimp only
   rw[bt _ _,hf i k hi hk]
   rfl
  ·unfold iE
   dsimp only
   rw[bu _ _]
 ·unfold iY
  dsimp only
  rw[bu _ _]
section
def idF(i k:Nat):Nu:=if i=k then nOf 1 else nOf 0
def Hn(C:Nat)(A B:List Nu)(i k:Nat):Nu:=Cu A[i*C+k]! B[i*C+k]!
def MI(C:Nat)(A:List Nu)(x:Nu)(i k:Nat):Nu:=qM A[i*C+k]! x
def EE(C K:Nat)(A B:List Nu)(i k:Nat):Nat→Nu
 |0=>qM A[i*C]! B[k]!
 |j+1=>Cu (EE C K A B i k j) (qM A[i*C+(j+1)]! B[(j+1)*K+k]!)
def j8(C K:Nat)(A B:List Nu)(i k:Nat):Nu:=if C=0 then nOf 0 else EE C K A B i k (C - 1)
def jc(C:Nat)(A:List Nu)(i k:Nat):Nu:=A[k*C+i]!
def Bp(C K:Nat)(A B:List Nu)(i k:Nat):Nu:=if k<C then A[i*C+k]! else B[i*K+(k - C)]!
def J2(R C:Int)(V:List Nu):av×Int:=if aW R C V=0 then (mS R C V,0) else (mZ,aW R C V)
def idP(n:Int):av:=if n<0∨200<n then mZ else mS n n (mkM n.toNat n.toNat idF)
def atP(R C:Int)(V:List Nu)(i k:Int):Nu:=if aW R C V=0∧0≤i∧i<R∧0≤k∧k<C then V[i.toNat*C.toNat+k.toNat]! else nuR none
def OS(V:List Nu):av:=(J2 V.length 1 V).1
def LV(R C:Int)(A:List Nu)(R' C':Int)(B:List Nu):av×Int:=if aW R C A=0∧aW R' C' B=0∧R=R'∧C=C' then ip R.toNat C.toNat (mkM R.toNat C.toNat (Hn C.toNat A B)) else (mZ,1)
def MH(R C:Int)(A:List Nu)(x:Nu):av×Int:=if aW R C A=0∧aQ x=true then ip R.toNat C.toNat (mkM R.toNat C.toNat (MI C.toNat A x)) else (mZ,1)
def vp(R C:Int)(A:List Nu)(R' C':Int)(B:List Nu):av×Int:=if aW R C A=0∧aW R' C' B=0∧C=R' then ip R.toNat C'.toNat (mkM R.toNat C'.toNat (j8 C.toNat C'.toNat A B)) else (mZ,1)
def JL(R C:Int)(A:List Nu):av×Int:=if aW R C A=0 then ip C.toNat R.toNat (mkM C.toNat R.toNat (jc C.toNat A)) else (mZ,1)
def LP(R C:Int)(A:List Nu)(R' C':Int)(B:List Nu):av×Int:=if aW R C A=0∧aW R' C' B=0∧R=R' then if 200<C+C' then (mZ,2) else ip R.toNat (C+C').toNat (mkM R.toNat (C+C').toNat (Bp C.toNat C'.toNat A B)) else (mZ,1)
theorem GE(i k:Nat):aQ (idF i k)=true:=by unfold idF;split;exact of1.1;exact of0.1
theorem sx {R C:Nat}{f:Nat→Nat→Nu}(h:∀i k,i<R→k<C→aQ (f i k)=true):ip R C (mkM R C f)=(mS R C (mkM R C f),0):=by
 unfold ip
 rw[ay (oO.2 h)]
section
variable {A B V:List Nu} {R C R' C':Int}
theorem P_Make(h:V.length≤1000000):mA R C (V.map nv)=some (J2 R C V):=by
 unfold mA fC J2
 rw[eG,aJ h]
 simp only[ab]
 rw[uz h]
 simp only[ab]
 by_cases h0:aW R C V=0
 ·rw[bu _ _ (by simpa using h0),ay h0]
 ·rw[bt _ _ h0,aA h0]
theorem B0 {n:Int}:fV n=some (idP n):=by
 unfold fV idP
 simp only[kOr,ab]
 by_cases h:n<0∨200<n
 ·have:(decide (n<0)||decide (200<n))=true:=by simpa using h
  rw[this,ay h];rfl
 ·have:(decide (n<0)||decide (200<n))=false:=by simpa using h
  rw[this,aA h,kF]
  obtain⟨m,rfl⟩:∃m:Nat,n=m:=⟨n.toNat,by omega⟩
  rw[zS (R:=m) (C:=m) (by omega) (by omega) idF (fun i k hi hk=>?_),sx fun i k _ _=>GE i k]
  ·simp only[ab,bH]
  ·unfold gg idF
   by_cases e:i=k
   ·rw[bt _ _,ay e,uOf];rfl
   ·rw[bu _ _,aA e,uOf];rfl
theorem Py(h:V.length≤1000000):kq (V.map nv)=some (OS V):=by
 unfold kq OS
 rw[eG,P_Make h];rfl
theorem P_At(h:V.length≤1000000){i k:Int}:pe (mS R C V) i k=some (nv (atP R C V i k)):=by
 unfold pe atP
 rw[nZ h]
 simp only[ab,kOr]
 by_cases h0:aW R C V=0∧0≤i∧i<R∧0≤k∧k<C
 ·rw[ay h0]
  obtain⟨h1,h2,h3,h4,h5⟩:=h0
  obtain⟨r,c,rfl,rfl,hm⟩:=eT.1 h1
  have:(!decide (aW (r:Int) (c:Int) V=0)||(decide (i<0)||(decide ((r:Int)≤i)||(decide (k<0)||decide ((c:Int)≤k)))))=false:=by
   simp[h1,h2,h3,h4,h5]
  rw[this,kF]
  obtain⟨i',rfl⟩:∃m:Nat,i=m:=⟨i.toNat,by omega⟩
  obtain⟨k',rfl⟩:∃m:Nat,k=m:=⟨k.toNat,by omega⟩
  have:=hm.rc
  rw[ub hm.len (by omega) (by omega) (by omega)]
  rfl
 ·rw[aA h0]
  have:(!decide (aW R C V=0)||(decide (i<0)||(decide (R≤i)||(decide (k<0)||decide (C≤k)))))=true:=by
   by_cases a:aW R C V=0
   ·by_cases b:0≤i <;> by_cases c:i<R <;> by_cases d:0≤k <;> by_cases e:k<C <;> simp[a,b,c,d,e] <;> first|omega|exact absurd ⟨a,b,c,d,e⟩ h0
   ·simp[a]
  rw[this,kT,uBad];rfl
theorem P_Add(hA:A.length≤1000000)(hB:B.length≤1000000):nO (mS R C A) (mS R' C' B)=some (LV R C A R' C' B):=by
 unfold nO LV
 rw[BY hA hB]
 simp only[ab,kOr]
 by_cases h0:aW R C A=0∧aW R' C' B=0∧R=R'∧C=C'
 ·rw[ay h0]
  obtain⟨h1,h2,rfl,rfl⟩:=h0
  obtain⟨r,c,rfl,rfl,hm⟩:=eT.1 h1
  obtain⟨r',c',hr,hc,ze⟩:=eT.1 h2
  obtain rfl:r=r':=by omega
  obtain rfl:c=c':=by omega
  rw[h1,h2]
  have:=hm.rc
  have h3:=hm.r
  have h4:=hm.c
  have e:(!(decide ((0:Int)=0)&&decide ((0:Int)=0))||(decide ((r:Int)≠r)||decide ((c:Int)≠c)))=false:=by simp
  rw[e,kF]
  rw[Js (by omega) (by omega) (Hn c A B) (fun i k hi hk=>?_)]
  ·simp only[ab,bH]
  ·unfold jA
   rw[ub hm.len (by omega) hi hk,ub ze.len (by omega) hi hk]
   simp only[ab,uAdd]
   rfl
 ·rw[aA h0]
  have e:(!(decide (aW R C A=0)&&decide (aW R' C' B=0))||(decide (R≠R')||decide (C≠C')))=true:=by
   by_cases a:aW R C A=0
   ·by_cases b:aW R' C' B=0
    ·by_cases c:R=R'
     ·by_cases d:C=C'
      ·exact absurd ⟨a,b,c,d⟩ h0
      ·simp[d]
     ·simp[c]
    ·simp[b]
   ·simp[a]
  rw[e,kT]
theorem P_Scale(hA:A.length≤1000000){x:Nu}:tN (mS R C A) (nv x)=some (MH R C A x):=by
 unfold tN MH
 rw[nZ hA]
 simp only[ab,JJ,kOr]
 by_cases h0:aW R C A=0∧aQ x=true
 ·rw[ay h0]
  obtain⟨h1,h2⟩:=h0
  obtain⟨r,c,rfl,rfl,hm⟩:=eT.1 h1
  rw[h1,h2]
  have:=hm.rc
  have h3:=hm.r
  have h4:=hm.c
  have e:(!decide ((0:Int)=0)||!true)=false:=by simp
  rw[e,kF]
  rw[Fi (by omega) (by omega) (MI c A x) (fun i k hi hk=>?_)]
  ·simp only[ab,bH]
  ·unfold mP
   rw[ub hm.len (by omega) hi hk]
   simp only[ab,uMul]
   rfl
 ·rw[aA h0]
  have e:(!decide (aW R C A=0)||!aQ x)=true:=by
   by_cases a:aW R C A=0
   ·by_cases b:aQ x=true
    ·exact absurd ⟨a,b⟩ h0
    ·simp[b]
   ·simp[a]
  rw[e,kT]
theorem P_dot {r c c':Nat}(hm:MV r c A)(ze:MV c c' B){i k:Nat}(hi:i<r)(hk:k<c'):gL (i:Int) (k:Int) (mS r c A) (mS c c' B)=some (nv (j8 c c' A B i k)):=by
 have h1:=hm.rc
 have h2:=ze.rc
 have h3:=hm.c
 unfold gL j8
 dsimp only
 by_cases h0:c=0
 ·rw[bt _ _,ay h0,uOf];rfl
 ·rw[bu _ _,aA h0]
  have a0:=ub hm.len (by omega) hi (show 0<c by omega)
  have b0:=ub ze.len (by omega) (show 0<c by omega) hk
  rw[lc] at a0
  rw[fe,bq] at b0
  rw[show ((0:Int))=((0:Nat):Int) from rfl,a0,b0]
  simp only[ab,uMul]
  have:=lz (b:=fO (i:Int) (k:Int) (mS r c A) (mS c c' B)) (fun j=>((j:Int),nv (EE c c' A B i k (j - 1)))) 1 c (nv (EE c c' A B i k (c - 1))) (by omega) (fun j hj1 Iw=>?_) ?_
  ·rw[show (((1:Nat):Int),nv (EE c c' A B i k (1 - 1)))=((1:Int),nv (qM A[i*c]! B[k]!)) from rfl] at this
   rw[this];rfl
  ·unfold fO
   dsimp only
   rw[bt _ _,ub hm.len (by omega) hi Iw,ub ze.len (by omega) Iw hk]
   simp only[ab,uMul,uAdd]
   rw[w64]
   obtain⟨m,rfl⟩:∃m,j=m+1:=⟨j - 1,by omega⟩
   rfl
  ·unfold fO
   dsimp only
   rw[bu _ _]
theorem Pu(hA:A.length≤1000000)(hB:B.length≤1000000):iJ (mS R C A) (mS R' C' B)=some (vp R C A R' C' B):=by
 unfold iJ vp
 rw[BY hA hB]
 simp only[ab,kOr]
 by_cases h0:aW R C A=0∧aW R' C' B=0∧C=R'
 ·rw[ay h0]
  obtain⟨h1,h2,rfl⟩:=h0
  obtain⟨r,c,rfl,rfl,hm⟩:=eT.1 h1
  obtain⟨r',c',hr,rfl,ze⟩:=eT.1 h2
  obtain rfl:c=r':=by omega
  rw[h1,h2]
  have h3:=hm.r
  have h4:=ze.c
  have e:(!(decide ((0:Int)=0)&&decide ((0:Int)=0))||decide ((c:Int)≠c))=false:=by simp
  rw[e,kF]
  rw[Jr (by omega) (by omega) (j8 c c' A B) (fun i k hi hk=>P_dot hm ze hi hk)]
  simp only[ab,bH]
 ·rw[aA h0]
  have e:(!(decide (aW R C A=0)&&decide (aW R' C' B=0))||decide (C≠R'))=true:=by
   by_cases a:aW R C A=0
   ·by_cases b:aW R' C' B=0
    ·by_cases c:C=R'
     ·exact absurd ⟨a,b,c⟩ h0
     ·simp[c]
    ·simp[b]
   ·simp[a]
  rw[e,kT]
theorem Hu(hA:A.length≤1000000):gR (mS R C A)=some (JL R C A):=by
 unfold gR JL
 rw[nZ hA]
 simp only[ab]
 by_cases h1:aW R C A=0
 ·rw[ay h1]
  obtain⟨r,c,rfl,rfl,hm⟩:=eT.1 h1
  rw[h1]
  have:=hm.rc
  have h3:=hm.r
  have h4:=hm.c
  have e:(!decide ((0:Int)=0))=false:=by simp
  rw[e,kF]
  rw[yQ (by omega) (by omega) (jc c A) (fun i k hi hk=>?_)]
  ·simp only[ab,bH]
  ·unfold eR
   rw[ub hm.len (by omega) hk hi]
   rfl
 ·rw[aA h1]
  have e:(!decide (aW R C A=0))=true:=by simp[h1]
  rw[e,kT]
theorem Hw(hA:A.length≤1000000)(hB:B.length≤1000000):ik (mS R C A) (mS R' C' B)=some (LP R C A R' C' B):=by
 unfold ik LP
 rw[BY hA hB]
 simp only[ab,kOr]
 by_cases h0:aW R C A=0∧aW R' C' B=0∧R=R'
 ·rw[ay h0]
  obtain⟨h1,h2,rfl⟩:=h0
  obtain⟨r,c,rfl,rfl,hm⟩:=eT.1 h1
  obtain⟨r',c',hr,rfl,ze⟩:=eT.1 h2
  obtain rfl:r=r':=by omega
  rw[h1,h2]
  have h3:=hm.r
  have h4:=hm.c
  have h5:=ze.c
  have h6:=hm.rc
  have h7:=ze.rc
  have e:(!(decide ((0:Int)=0)&&decide ((0:Int)=0))||decide ((r:Int)≠r))=false:=by simp
  rw[e,kF,w64]
  by_cases hc:(200:Int)<(c:Int)+c'
  ·rw[bt _ _ hc,ay hc]
  ·rw[bu _ _ hc,aA hc,show ((c:Int)+(c':Int))=((c+c':Nat):Int) by omega]
   rw[CT (by omega) (by omega) (Bp c c' A B) (fun i k hi hk=>?_)]
   ·simp only[ab,bH]
   ·unfold gh Bp
    dsimp only
    by_cases yh:k<c
    ·rw[bt _ _,ay yh,ub hm.len (by omega) hi yh];rfl
    ·rw[bu _ _,aA yh,w64,show (k:Int) - (c:Int)=((k - c:Nat):Int) by omega,ub ze.len (by omega) hi (by omega)];rfl
 ·rw[aA h0]
  have e:(!(decide (aW R C A=0)&&decide (aW R' C' B=0))||decide (R≠R'))=true:=by
   by_cases a:aW R C A=0
   ·by_cases b:aW R' C' B=0
    ·by_cases c:R=R'
     ·exact absurd ⟨a,b,c⟩ h0
     ·simp[c]
    ·simp[b]
   ·simp[a]
  rw[e,kT]
end
end
section
section
variable {A B V:List Nu} {R C R' C':Int}
theorem Q_good(h:V.length≤1000000):nJ (V.map nv)=some (V.all aQ):=by
 unfold nJ
 rw[AI (b:=ke (V.map nv)) (n:=V.length) h (fun i=>aQ V[i]!) (fun i hi=>by
  unfold ke
  rw[eG,bt _ _,aJ,bH,Gk hi,tGood]
  rfl) (by
  unfold ke
  rw[eG,bu _ _])]
 rw[EN V aQ]
 cases V.all aQ <;> rfl
theorem Q_Check(h:V.length≤1000000):mw (mS R C V)=some (aW R C V):=by
 rw[←uz h]
 unfold mw dt
 dsimp only
 rw[Q_good h,qJ h]
theorem Q_valid(h:V.length≤1000000):mu (mS R C V)=some (decide (aW R C V=0)):=by
 unfold mu
 rw[Q_Check h];rfl
end
end
section
section
variable {A B V:List Nu} {R C R' C':Int}
theorem MV.gd {r c:Nat}(hm:MV r c A){t:Nat}(h:t<r*c):aQ A[t]! =true:=wS hm.good (by rw[hm.len];exact h)
theorem tran_ok {r c:Nat}(hm:MV r c A):ip c r (mkM c r (jc c A))=(mS c r (mkM c r (jc c A)),0):=sx fun i k hi hk=>hm.gd (cC hk hi)
theorem bes_ok {r c c':Nat}(hm:MV r c A)(ze:MV r c' B):ip r (c+c') (mkM r (c+c') (Bp c c' A B))=(mS r ((c+c':Nat):Int) (mkM r (c+c') (Bp c c' A B)),0):=sx fun i k hi hk=>by
 unfold Bp
 split
 ·rename_i h;exact hm.gd (cC hi h)
 ·exact ze.gd (cC hi (by omega))
end
end
def eb(bj:c8):(List Int)×Int→Option (((List Int)×Int)⊕((List Int))):=fun (aK,aT)=>cnd (decide (aT<((bj.vl).length:Int))) (gd (0≤aT∧aT<((bj.vl).length:Int)) (gd ((aK++[((bj.vl)[(aT).toNat]!).vcol]).length*8≤140737488355328) (some (.inl (aK++[((bj.vl)[(aT).toNat]!).vcol],i64.wrap (aT+(1:Int))))))) (some (.inr aK))
def ce(bj:c8):Option (List Int):=bnd (a5 (eb bj) (([]:List Int),(0:Int))) fun aG=>some aG
theorem kK {bj:c8}{r:List Int}(h:ce bj=some r):aB prog 64 [dG qb bj] (.own 3 (cI .i64).sz r.length (r.flatMap (cI .i64).f)):=by
 refine bL (rs:=[.tmp 2]) (fun cx hx h0=>?_) func64
 unfold ce at h
 refine rs hx fun K hK=>?_
 refine s1 (d:=.pt 0 0) iN ?_
 refine s1 (d:=dO 1 (cI .i64) ([]:List Int)) (ep b7 a6) ?_
 refine .nil (hK _ _ (rs hx fun K hK=>?_))
 refine s1 (d:=dO 2 (cI .i64) ([]:List Int)) (ep b7 a6) ?_
 refine .nil (hK _ _ (AW.seq (rs hx fun K hK=>?_)))
 refine sa ?_
 refine s1 (bc sW) ?_
 iterate 2 refine sa ?_
 refine .nil (hK _ _ (AW.block ?_))
 obtain⟨aG,hy,h⟩:=ah h
 refine lp (S:=(List Int)×Int) (X:=(List Int)) (fun (aK,aT)=>[(3,dO 0 (cI .i64) aK),(7,dL bT bj.vl),(8,dI .i64 ((bj.vl).length:Int)),(9,dI .i64 aT)]) (fun (aK,aT)=>⟨[],[(0,(aK).length,1,3)],1⟩) (PE cx (.exit 0) (fun aG=>[(3,dO 0 (cI .i64) aG)]) fun aG=>⟨[],[(0,(aG).length,1,3)],1⟩) hy ?_ ?_ ?_
 exact wk h0 [2] (wR rfl (wR rfl (wR rfl (wR rfl wTn)))) wVn (wL rfl rfl wLn)
 clear hy h
 rintro⟨aK,aT⟩ y h
 dsimp only[eb] at h
 refine ra hx ?_
 refine AW.seq (cdh h rfl (fun cE h=>?_) (fun cE h=>?_))
 refine AW.skip (AW.seq (AW.block (rs hx fun K hK=>?_)))
 obtain⟨ni,h⟩:=aC h
 have pU:(aT).toNat<(bj.vl).length:=by omega
 refine s1 (fZ ni sW jd) ?_
 refine s1 (d:=dG bT ((bj.vl)[(aT).toNat]!)) (pl (c:=bT) (l:=bj.vl) (n:=(aT).toNat) (o:=0) jd pU (jM _ _ rfl)) ?_
 refine s1 (bo (F:=bT.f (⟨(0:Int),cu,false⟩:mK)) jd) ?_
 refine s0 (aO (b':=(bj.vl)[(aT).toNat]!) (an.id _ _) jd) ?_
 refine .nil (hK _ _ (rq hx fun K hK=>?_))
 iterate 2 refine sa ?_
 refine s1 (a8 (Cv ((bj.vl)[(aT).toNat]!)) a6) ?_
 refine s1 (d:=dO 2 (cI .i64) [((bj.vl)[(aT).toNat]!).vcol]) (iM b7 a6) ?_
 obtain⟨Fy,h⟩:=aC h
 refine s1 (d:=dO 0 (cI .i64) (aK++[((bj.vl)[(aT).toNat]!).vcol])) (iS b7 a6 Fy) ?_
 refine sa ?_
 refine .nil (hK _ _ (rb hx ?_))
 cases h
 exact PS.l (pe0 h0 [0])
 refine AW.exit ?_
 try dsimp only
 try simp only[aM,reduceIte,Nat.reduceEqDiff,reduceCtorEq]
 cases h
 exact PS.r ⟨by nofun,PE.i (wk h0 [0] (wR rfl wTn) wVn (wL rfl rfl wLn))⟩
 rintro ex tm' hp' ⟨rfl,hw⟩
 try dsimp only
 try simp only[aM,reduceIte,Nat.reduceEqDiff,reduceCtorEq]
 refine AW.weak hw (ra hx ?_)
 refine AW.ret ?_
 cases h
 exact fK.own rfl rfl
def ij(fR:av):Option (av×(List Int)×Int):=bnd (bG [fR]) fun x1=>cnd (!x1) (some ((⟨(0:Int),(0:Int),([]:List ak)⟩:av),([]:List Int),(1:Int))) (bnd (ez fR) fun x4=>cnd (decide (x4.2≠(0:Int))) (some ((⟨(0:Int),(0:Int),([]:List ak)⟩:av),([]:List Int),x4.2)) (bnd (ce x4.1) fun x7=>some (x4.1.vm,x7,(0:Int))))
theorem sV {fR:av}{r:av×(List Int)×Int}(h:ij fR=some r):aB prog 13 [dG aR fR] (.tu [dG aR r.1,dL (cI .i64) r.2.1,dI .i64 r.2.2]):=by
 refine bL (rs:=[.cell 2 24,.tmp 3,.tmp 4]) (fun cx hx h0=>?_) func13
 unfold ij at h
 refine rs hx fun K hK=>?_
 refine s1 (d:=.pt 0 0) iN ?_
 refine s1 (d:=.pt 1 0) (bZ ax) ?_
 refine s1 (d:=dO 2 (cI .i64) ([]:List Int)) (ep b7 a6) ?_
 refine sa ?_
 refine .nil (hK _ _ (AW.seq (rs hx fun K hK=>?_)))
 refine s1 (d:=dG aR fR) (bS ax) ?_
 refine s1 (d:=dO 3 aR [fR]) (iM pp ax) ?_
 refine scb h d6 fun x1 h=>?_
 refine sa ?_
 refine .nil (hK _ _ (cdh h rfl (fun bm h=>?_) (fun bm h=>?_)))
 refine rs hx fun K hK=>?_
 refine s1 (d:=.ag [dI .i64 (0:Int),dI .i64 (0:Int),dN]) (cY ax) ?_
 refine s0 (dX (ds':=[dI .i64 (0:Int),dI .i64 (0:Int),dN]) ax) ?_
 refine s1 (d:=dO 4 (cI .i64) ([]:List Int)) (ep b7 a6) ?_
 refine sa ?_
 refine .nil (hK _ _ (AW.ret ?_))
 cases h
 exact fK.mk3 (eD (es:=[dI .i64 (0:Int),dI .i64 (0:Int),dN]) rfl ax rfl rfl (ltb rfl) (leb rfl) rfl (bY rfl (bY rfl (.inr ⟨_,_,_,(lD (wc (gY _) (wc (gY _) (wc (vq rfl) wcn)))),(qT _),(ao _),⟨rfl,rfl,rfl⟩,rfl⟩))))
 refine AW.skip (rs hx fun K hK=>?_)
 refine s1 (d:=dG aR fR) (bS ax) ?_
 refine scb h mH fun x4 h=>?_
 iterate 3 refine sa ?_
 refine s1 (d:=.pt 4 0) (bZ j7) ?_
 refine s0 (dX (ds':=[dI .i64 x4.1.vm.vR,dI .i64 x4.1.vm.vC,dL aj x4.1.vm.vV,dL bT x4.1.vl]) j7) ?_
 refine sa ?_
 refine .nil (hK _ _ (AW.seq (ra hx ?_)))
 refine cdh h rfl (fun dy h=>?_) (fun dy h=>?_)
 refine rs hx fun K hK=>?_
 refine s1 (d:=.ag [dI .i64 (0:Int),dI .i64 (0:Int),dN]) (cY ax) ?_
 refine sa ?_
 refine s0 (dX (ds':=[dI .i64 (0:Int),dI .i64 (0:Int),dN]) ax) ?_
 refine s1 (d:=dO 5 (cI .i64) ([]:List Int)) (ep b7 a6) ?_
 refine sa ?_
 refine .nil (hK _ _ (AW.ret ?_))
 cases h
 exact fK.mk3 (eD (es:=[dI .i64 (0:Int),dI .i64 (0:Int),dN]) rfl ax rfl rfl (ltb rfl) (leb rfl) rfl (bY rfl (bY rfl (.inr ⟨_,_,_,(lD (wc (gY _) (wc (gY _) (wc (vq rfl) wcn)))),(qT _),(ao _),⟨rfl,rfl,rfl⟩,rfl⟩))))
 refine AW.skip (rsd [] hx fun K hK=>?_)
 refine sa ?_
 refine s1 (d:=dG aR x4.1.vm) (bS ax) ?_
 refine s1 (d:=dG qb x4.1) (bS j7) ?_
 obtain⟨x7,xZ,h⟩:=ah h
 refine s1 (Ac rfl (kK xZ) (by simp only[cD,dT,jZ,gj,eh,eC];exact bn _ _) (lA (ao _) lAn)) ?_
 refine s0 (dX (ds':=[dI .i64 x4.1.vm.vR,dI .i64 x4.1.vm.vC,dL aj x4.1.vm.vV]) ax) ?_
 iterate 2 refine sa ?_
 refine .nil (hK _ _ (AW.ret ?_))
 cases h
 exact fK.mk3 (eD (es:=(aR.f x4.1.vm).map .e) rfl ax rfl rfl (ltb rfl) (leb rfl) rfl (bY rfl (bY rfl (.inr ⟨_,_,_,(ao _),(qT _),(ao _),⟨rfl,rfl,rfl⟩,rfl⟩))))
def jz(x8:c8×Int):Int×Int→Option ((Int×Int)⊕Int):=fun (q8,qF)=>cnd (decide (qF<((x8.1.vl).length:Int))) (bnd (S:=Int) (gd (0≤qF∧qF<((x8.1.vl).length:Int)) (cnd (((x8.1.vl)[(qF).toNat]!).vmoved) (some (i64.wrap (0 - q8))) (some (q8)))) fun DB=>some (.inl (DB,i64.wrap (qF+(1:Int))))) (some (.inr q8))
def jy(x8:c8×Int):Int×ak→Option ((Int×ak)⊕ak):=fun (q7,BM)=>cnd (decide (q7<((x8.1.vl).length:Int))) (gd (0≤q7∧q7<((x8.1.vl).length:Int)) (bnd (dZ BM (((x8.1.vl)[(q7).toNat]!).vby)) fun xo=>some (.inl (i64.wrap (q7+(1:Int)),xo)))) (some (.inr BM))
def jV(fR:av):Option (ak×Int):=bnd (S:=Bool) (bnd (bG [fR]) fun x1=>cnd (!x1) (some (true)) (some (decide (fR.vR≠fR.vC)))) fun bB=>cnd bB (bnd (some ((⟨(⟨false,false,(bU)⟩:aq),(⟨false,false,(bU)⟩:aq)⟩:ak))) fun x6=>some (x6,(1:Int))) (bnd (ez fR) fun x8=>cnd (decide (x8.2≠(0:Int))) (bnd (some ((⟨(⟨false,false,(bU)⟩:aq),(⟨false,false,(bU)⟩:aq)⟩:ak))) fun s8=>some (s8,x8.2)) (cnd (decide (((x8.1.vl).length:Int)<fR.vR)) (bnd (eE (0:Int)) fun pF=>some (pF,(0:Int))) (bnd (a5 (jz x8) ((1:Int),(0:Int))) fun xe=>bnd (eE xe) fun oL=>bnd (a5 (jy x8) ((0:Int),oL)) fun pZ=>bnd (bN pZ) fun JB=>cnd (!JB) (bnd (some ((⟨(⟨false,false,(bU)⟩:aq),(⟨false,false,(bU)⟩:aq)⟩:ak))) fun uF=>some (uF,(30:Int))) (some (pZ,(0:Int))))))
theorem sj {fR:av}{r:ak×Int}(h:jV fR=some r):aB prog 16 [dG aR fR] (.tu [dG aj r.1,dI .i64 r.2]):=by
 refine bL (rs:=[.cell 2 34,.tmp 3]) (fun cx hx h0=>?_) func16
 unfold jV at h
 refine rs hx fun K hK=>?_
 refine s1 (d:=.pt 0 0) iN ?_
 refine s1 (bo (F:=aj.f cu) aD) ?_
 refine sa ?_
 refine .nil (hK _ _ ?_)
 iterate 2 refine AW.seq ?_
 obtain⟨bB,hy,h⟩:=ah h
 refine jn ((PE cx .normal (fun bB=>[(1,.pt 0 0),(2,.pt 1 0),(22,dB bB)]) fun bB=>⟨[(0,[dI .i64 fR.vR,dI .i64 fR.vC,dL aj fR.vV]),(1,dC (aj.f cu))],[],2⟩) bB) ?_ ?_
 replace h:=hy
 refine rq hx fun K hK=>?_
 refine s1 (d:=dG aR fR) (bS ax) ?_
 refine s1 (d:=dO 2 aR [fR]) (iM pp ax) ?_
 refine scb h d6 fun x1 h=>?_
 iterate 2 refine sa ?_
 rcases aZ (!x1) with bm|bm
 replace h:=a3 bm h
 iterate 5 refine aI rfl rfl bm ?_
 refine s1 (al bm) ?_
 refine .nil (hK _ _ ?_)
 cases h
 exact pe0 h0 [0,1]
 replace h:=a4 bm h
 refine ga bm ?_
 refine g1 bm (bc a6) ?_
 refine ga bm ?_
 refine g1 bm (bc a6) ?_
 refine ga bm ?_
 refine s1 (au bm) ?_
 refine .nil (hK _ _ ?_)
 cases h
 exact pe0 h0 [0,1]
 rintro ex tm' hp' ⟨rfl,hw⟩
 refine AW.weak hw (cdh h rfl (fun nE h=>?_) (fun nE h=>?_))
 refine rs hx fun K hK=>?_
 refine s1 (d:=dG aj cu) (jF (FL.nil _) aD) ?_
 obtain⟨x6,te,h⟩:=ah h
 replace te:=co te
 refine s0 (j6 (b':=cu) (an.id _ _) aD te) ?_
 refine sa ?_
 refine .nil (hK _ _ (AW.ret ?_))
 cases h
 exact rv2
 refine AW.skip (rs hx fun K hK=>?_)
 refine s1 (d:=dG aR fR) (bS ax) ?_
 refine scb h mH fun x8 h=>?_
 iterate 3 refine sa ?_
 refine s1 (d:=.pt 2 0) (bZ j7) ?_
 refine s0 (dX (ds':=[dI .i64 x8.1.vm.vR,dI .i64 x8.1.vm.vC,dL aj x8.1.vm.vV,dL bT x8.1.vl]) j7) ?_
 refine sa ?_
 refine .nil (hK _ _ (AW.seq (AW.block (ra hx ?_))))
 refine cdh h rfl (fun fh h=>?_) (fun fh h=>?_)
 refine rs hx fun K hK=>?_
 refine s1 (d:=dG aj cu) (jF (FL.nil _) aD) ?_
 refine sa ?_
 obtain⟨s8,Ny,h⟩:=ah h
 replace Ny:=co Ny
 refine s0 (j6 (b':=cu) (an.id _ _) aD Ny) ?_
 refine sa ?_
 refine .nil (hK _ _ (AW.ret ?_))
 cases h
 exact rv2
 refine rs hx fun K hK=>?_
 refine sa ?_
 refine s1 (bc sW) ?_
 iterate 2 refine sa ?_
 refine s1 (bc a6) ?_
 iterate 2 refine sa ?_
 refine .nil (hK _ _ (cdh h rfl (fun vE h=>?_) (fun vE h=>?_)))
 refine rs hx fun K hK=>?_
 refine scb h iP fun pF h=>?_
 refine s0 (aO (b':=pF) (an.id _ _) aD) ?_
 refine sa ?_
 refine .nil (hK _ _ (AW.ret ?_))
 cases h
 exact rv2
 refine AW.skip (ra hx ?_)
 refine AW.seq (rs hx fun K hK=>?_)
 refine sa ?_
 refine s1 (bc sW) ?_
 iterate 2 refine sa ?_
 refine .nil (hK _ _ (AW.block ?_))
 obtain⟨xe,hy,h⟩:=ah h
 refine lp (S:=Int×Int) (X:=Int) (fun (q8,qF)=>[(2,.pt 0 0),(4,.pt 1 0),(6,dI .i64 q8),(43,dL bT x8.1.vl),(44,dI .i64 ((x8.1.vl).length:Int)),(45,dI .i64 qF)]) (fun (q8,qF)=>⟨[(0,dC (aj.f cu)),(1,[dI .i64 x8.1.vm.vR,dI .i64 x8.1.vm.vC,dL aj x8.1.vm.vV,dL bT x8.1.vl])],[],2⟩) (PE cx (.exit 1) (fun xe=>[(2,.pt 0 0),(4,.pt 1 0),(6,dI .i64 xe)]) fun xe=>⟨[(0,dC (aj.f cu)),(1,[dI .i64 x8.1.vm.vR,dI .i64 x8.1.vm.vC,dL aj x8.1.vm.vV,dL bT x8.1.vl])],[],2⟩) hy ?_ ?_ ?_
 exact wk h0 [1,2] (wR rfl (wR rfl (wR rfl (wR rfl (wR rfl (wR rfl wTn)))))) (vC rfl (vR rfl wVn)) wLn
 clear hy h
 rintro⟨q8,qF⟩ y h
 dsimp only[jz] at h
 refine ra hx ?_
 refine AW.seq (cdh h rfl (fun IJ h=>?_) (fun IJ h=>?_))
 refine AW.skip (AW.seq ?_)
 obtain⟨DB,hy,h⟩:=ah h
 refine jn ((PE cx .normal (fun DB=>[(2,.pt 0 0),(4,.pt 1 0),(6,dI .i64 DB),(43,dL bT x8.1.vl),(44,dI .i64 ((x8.1.vl).length:Int)),(45,dI .i64 qF)]) fun DB=>⟨[(0,dC (aj.f cu)),(1,[dI .i64 x8.1.vm.vR,dI .i64 x8.1.vm.vC,dL aj x8.1.vm.vV,dL bT x8.1.vl])],[],2⟩) DB) ?_ ?_
 replace h:=hy
 refine AW.block (rs hx fun K hK=>?_)
 obtain⟨hc17,h⟩:=aC h
 have hn18:(qF).toNat<(x8.1.vl).length:=by omega
 refine s1 (fZ hc17 sW jd) ?_
 refine s1 (d:=dG bT ((x8.1.vl)[(qF).toNat]!)) (pl (c:=bT) (l:=x8.1.vl) (n:=(qF).toNat) (o:=0) jd hn18 (jM _ _ rfl)) ?_
 refine s1 (bo (F:=bT.f (⟨(0:Int),cu,false⟩:mK)) jd) ?_
 refine s0 (aO (b':=(x8.1.vl)[(qF).toNat]!) (an.id _ _) jd) ?_
 refine .nil (hK _ _ (rs hx fun K hK=>?_))
 refine sa ?_
 refine s1 (a8 (zK ((x8.1.vl)[(qF).toNat]!)) gp) ?_
 refine .nil (hK _ _ (cdh h rfl (fun A5 h=>?_) (fun A5 h=>?_)))
 refine rb hx ?_
 cases h
 exact pe0 h0 [0,1]
 refine AW.skip ?_
 cases h
 exact pe0 h0 [0,1]
 rintro ex tm' hp' ⟨rfl,hw⟩
 refine AW.weak hw (rb hx ?_)
 cases h
 exact PS.l (pe0 h0 [0,1])
 refine AW.exit ?_
 try dsimp only
 try simp only[aM,reduceIte,Nat.reduceEqDiff,reduceCtorEq]
 cases h
 exact PS.r ⟨by nofun,PE.i (wk h0 [0,1] (wR rfl (wR rfl (wR rfl wTn))) (vC rfl (vR rfl wVn)) wLn)⟩
 rintro ex tm' hp' ⟨rfl,hw⟩
 try dsimp only
 try simp only[aM,reduceIte,Nat.reduceEqDiff,reduceCtorEq]
 refine AW.weak hw (rs hx fun K hK=>?_)
 refine sa ?_
 refine scb h iP fun oL h=>?_
 refine s1 (bo (F:=aj.f cu) aD) ?_
 refine s0 (aO (b':=oL) (an.id _ _) aD) ?_
 refine .nil (hK _ _ (AW.seq (rs hx fun K hK=>?_)))
 refine sa ?_
 refine s1 (bc sW) ?_
 iterate 2 refine sa ?_
 refine .nil (hK _ _ (AW.block ?_))
 obtain⟨pZ,hy,h⟩:=ah h
 refine lp (S:=Int×ak) (X:=ak) (fun (q7,BM)=>[(2,.pt 0 0),(9,.pt 1 0),(57,dL bT x8.1.vl),(58,dI .i64 ((x8.1.vl).length:Int)),(59,dI .i64 q7)]) (fun (q7,BM)=>⟨[(0,dC (aj.f cu)),(1,dC (aj.f BM))],[],2⟩) (PE cx (.exit 3) (fun pZ=>[(2,.pt 0 0),(9,.pt 1 0)]) fun pZ=>⟨[(0,dC (aj.f cu)),(1,dC (aj.f pZ))],[],2⟩) hy ?_ ?_ ?_
 exact wk h0 [0,2] (wR rfl (wR rfl (wR rfl (wR rfl (wR rfl wTn))))) (vC rfl (vC rfl wVn)) wLn
 clear hy h
 rintro⟨q7,BM⟩ y h
 dsimp only[jy] at h
 refine ra hx ?_
 refine AW.seq (cdh h rfl (fun rk h=>?_) (fun rk h=>?_))
 refine AW.skip (AW.seq (AW.block (rs hx fun K hK=>?_)))
 obtain⟨hc25,h⟩:=aC h
 have NS:(q7).toNat<(x8.1.vl).length:=by omega
 refine s1 (fZ hc25 sW jd) ?_
 refine s1 (d:=dG bT ((x8.1.vl)[(q7).toNat]!)) (pl (c:=bT) (l:=x8.1.vl) (n:=(q7).toNat) (o:=0) jd NS (jM _ _ rfl)) ?_
 refine s1 (bo (F:=bT.f (⟨(0:Int),cu,false⟩:mK)) jd) ?_
 refine s0 (aO (b':=(x8.1.vl)[(q7).toNat]!) (an.id _ _) jd) ?_
 refine .nil (hK _ _ (rq hx fun K hK=>?_))
 refine s1 (d:=dG aj BM) (aF (an.id _ _) aD) ?_
 refine sa ?_
 refine s1 (aF (Eh ((x8.1.vl)[(q7).toNat]!)) aD) ?_
 refine scb h oS fun xo h=>?_
 refine s0 (aO (b':=xo) (an.id _ _) aD) ?_
 refine .nil (hK _ _ (rb hx ?_))
 cases h
 exact PS.l (pe0 h0 [0,1])
 refine AW.exit ?_
 try dsimp only
 try simp only[aM,reduceIte,Nat.reduceEqDiff,reduceCtorEq]
 cases h
 exact PS.r ⟨by nofun,PE.i (wk h0 [0,1] (wR rfl (wR rfl wTn)) (vC rfl (vC rfl wVn)) wLn)⟩
 rintro ex tm' hp' ⟨rfl,hw⟩
 try dsimp only
 try simp only[aM,reduceIte,Nat.reduceEqDiff,reduceCtorEq]
 refine AW.weak hw (AW.seq (rs hx fun K hK=>?_))
 refine s1 (d:=dG aj pZ) (aF (an.id _ _) aD) ?_
 refine scb h eM fun JB h=>?_
 refine sa ?_
 refine .nil (hK _ _ (cdh h rfl (fun hb32 h=>?_) (fun hb32 h=>?_)))
 refine rs hx fun K hK=>?_
 refine s1 (d:=dG aj cu) (jF (FL.nil _) aD) ?_
 obtain⟨uF,Ij,h⟩:=ah h
 replace Ij:=co Ij
 refine s0 (j6 (b':=cu) (an.id _ _) aD Ij) ?_
 refine sa ?_
 refine .nil (hK _ _ (AW.ret ?_))
 cases h
 exact rv2
 refine AW.skip (rs hx fun K hK=>?_)
 refine s1 (d:=dG aj pZ) (aF (an.id _ _) aD) ?_
 refine s0 (aO (b':=pZ) (an.id _ _) aD) ?_
 refine sa ?_
 refine .nil (hK _ _ (AW.ret ?_))
 cases h
 exact rv2
def dQ(ot:List Int)(lj:Int):Int→Option (Int⊕(Int⊕Unit)):=fun aS=>cnd (decide (aS<((ot).length:Int))) (gd (0≤aS∧aS<((ot).length:Int)) (cnd (decide (lj=((ot)[(aS).toNat]!))) (some (.inr (.inl aS))) (some (.inl (i64.wrap (aS+(1:Int))))))) (some (.inr (.inr ())))
def gt(ot:List Int)(lj:Int):Option Int:=bnd (a5 (dQ ot lj) (0:Int)) fun y5=>match y5 with| .inl r=>some r| .inr ()=>some (-1:Int)
theorem sf {ot:List Int}{lj:Int}{r:Int}(h:gt ot lj=some r):aB prog 121 [dL (cI .i64) ot,dI .i64 lj] (dI .i64 r):=by
 refine bL (rs:=[.tmp 4]) (fun cx hx h0=>?_) func121
 unfold gt at h
 refine ra hx ?_
 refine AW.seq (ra hx ?_)
 refine AW.block ?_
 obtain⟨y,hy,h⟩:=ah h
 refine lp (S:=Int) (X:=Int⊕Unit) (fun aS=>[(0,dL (cI .i64) ot),(1,dI .i64 lj),(7,dI .i64 ((ot).length:Int)),(8,dI .i64 aS)]) (fun aS=>⟨[],[],0⟩) (PS (PR [.tmp 4] fun r=>dI .i64 r) (PE cx (.exit 0) (fun ()=>[]) fun ()=>⟨[],[],0⟩)) hy ?_ ?_ ?_
 exact wk h0 [] (wR rfl (wR rfl (wR rfl (wR rfl wTn)))) wVn wLn
 clear hy h
 rintro aS y h
 dsimp only[dQ] at h
 refine ra hx ?_
 refine AW.seq (cdh h rfl (fun cE h=>?_) (fun cE h=>?_))
 refine AW.skip (AW.seq (AW.block (ra hx ?_)))
 refine rs hx fun K hK=>?_
 iterate 3 refine sa ?_
 obtain⟨ni,h⟩:=aC h
 have pU:(aS).toNat<(ot).length:=by omega
 refine s1 (fZ ni b7 a6) ?_
 refine s1 (pm (c:=(cI .i64)) (l:=ot) (n:=(aS).toNat) (o:=0) a6 pU) ?_
 refine sa ?_
 refine .nil (hK _ _ (cdh h rfl (fun mr h=>?_) (fun mr h=>?_)))
 refine ra hx ?_
 refine AW.ret ?_
 cases h
 refine PS.r ⟨by nofun,PS.l (PR.i ?_)⟩
 exact rv1
 refine AW.skip (rb hx ?_)
 cases h
 exact PS.l (pe0 h0 [])
 refine AW.exit ?_
 try dsimp only
 try simp only[aM,reduceIte,Nat.reduceEqDiff,reduceCtorEq]
 cases h
 exact PS.r ⟨by nofun,PS.r (PE.i (wk h0 [] wTn wVn wLn))⟩
 rcases y with r|⟨⟩
 rintro ex tm' hp' ⟨rfl,hw⟩
 cases h
 exact hw
 rintro ex tm' hp' ⟨rfl,hw⟩
 try dsimp only
 try simp only[aM,reduceIte,Nat.reduceEqDiff,reduceCtorEq]
 refine AW.weak hw (ra hx ?_)
 refine AW.ret ?_
 cases h
 exact rv1
def cK(ot:List Int)(lj:Int):Option Bool:=bnd (gt ot lj) fun x1=>some (decide ((0:Int)≤x1))
theorem l7 {ot:List Int}{lj:Int}{r:Bool}(h:cK ot lj=some r):aB prog 76 [dL (cI .i64) ot,dI .i64 lj] (dB r):=by
 refine bL (rs:=[.tmp 4]) (fun cx hx h0=>?_) func76
 unfold cK at h
 refine ra hx ?_
 refine rs hx fun K hK=>?_
 iterate 2 refine sa ?_
 refine scb h sf fun x1 h=>?_
 iterate 2 refine sa ?_
 refine .nil (hK _ _ (AW.ret ?_))
 cases h
 exact rv1
def fF(aY:av)(jG:c8×Int):(List ak)×Int→Option (((List ak)×Int)⊕((List ak))):=fun (w8,BN)=>cnd (decide (BN<((jG.1.vl).length:Int))) (bnd (b9 jG.1.vm BN aY.vC) fun oL=>gd ((w8++[oL]).length*136≤140737488355328) (some (.inl (w8++[oL],i64.wrap (BN+(1:Int)))))) (some (.inr w8))
def gS(aY:av)(a9:List ak):Option ((List ak)×Int):=bnd (S:=Bool) (bnd (bG [aY]) fun x1=>cnd (!x1) (some (true)) (cnd (decide (((a9).length:Int)≠aY.vR)) (some (true)) (bnd (cG a9) fun x5=>some (!x5)))) fun bB=>cnd bB (some (([]:List ak),(1:Int))) (bnd (ik aY (⟨aY.vR,(1:Int),a9⟩:av)) fun x9=>cnd (decide (x9.2≠(0:Int))) (some (([]:List ak),x9.2)) (bnd (ez x9.1) fun jG=>cnd (decide (jG.2≠(0:Int))) (some (([]:List ak),jG.2)) (bnd (ce jG.1) fun uG=>bnd (cK uG aY.vC) fun pQ=>cnd pQ (some (([]:List ak),(200:Int))) (cnd (decide (((jG.1.vl).length:Int)<aY.vC)) (some (([]:List ak),(70:Int))) (bnd (a5 (fF aY jG) (([]:List ak),(0:Int))) fun ur=>some (ur,(0:Int)))))))
theorem qc {aY:av}{a9:List ak}{r:(List ak)×Int}(h:gS aY a9=some r):aB prog 29 [dG aR aY,dL aj a9] (.tu [dL aj r.1,dI .i64 r.2]):=by
 refine bL (rs:=[.tmp 4,.tmp 5]) (fun cx hx h0=>?_) func29
 unfold gS at h
 refine rs hx fun K hK=>?_
 refine s1 (d:=.pt 0 0) iN ?_
 refine s1 (d:=dO 1 aj ([]:List ak)) (ep aP aD) ?_
 refine sa ?_
 refine .nil (hK _ _ ?_)
 iterate 2 refine AW.seq ?_
 obtain⟨bB,hy,h⟩:=ah h
 refine jn ((PE cx .normal (fun bB=>[(1,dL aj a9),(2,.pt 0 0),(26,dB bB)]) fun bB=>⟨[(0,[dI .i64 aY.vR,dI .i64 aY.vC,dL aj aY.vV])],[],1⟩) bB) ?_ ?_
 replace h:=hy
 refine rq hx fun K hK=>?_
 refine s1 (d:=dG aR aY) (bS ax) ?_
 refine s1 (d:=dO 2 aR [aY]) (iM pp ax) ?_
 refine scb h d6 fun x1 h=>?_
 iterate 2 refine sa ?_
 rcases aZ (!x1) with bm|bm
 replace h:=a3 bm h
 iterate 5 refine aI rfl rfl bm ?_
 refine s1 (al bm) ?_
 refine sa ?_
 iterate 3 refine aI rfl rfl rfl ?_
 refine s1 (al rfl) ?_
 refine .nil (hK _ _ ?_)
 cases h
 exact pe0 h0 [0]
 replace h:=a4 bm h
 iterate 3 refine ga bm ?_
 refine g1 bm (bc a6) ?_
 refine ga bm ?_
 refine s1 (au bm) ?_
 refine sa ?_
 rcases aZ (decide (((a9).length:Int)≠aY.vR)) with mr|mr
 replace h:=a3 mr h
 iterate 3 refine aI rfl rfl mr ?_
 refine s1 (al mr) ?_
 refine .nil (hK _ _ ?_)
 cases h
 exact pe0 h0 [0]
 replace h:=a4 mr h
 refine ga mr ?_
 obtain⟨x5,Em,h⟩:=ah h
 refine g1 mr (dP rfl (gA Em) rfl (lA (ao _) lAn) (.inl rfl)) ?_
 refine ga mr ?_
 refine s1 (au mr) ?_
 refine .nil (hK _ _ ?_)
 cases h
 exact pe0 h0 [0]
 rintro ex tm' hp' ⟨rfl,hw⟩
 refine AW.weak hw (cdh h rfl (fun oe h=>?_) (fun oe h=>?_))
 refine rs hx fun K hK=>?_
 refine s1 (d:=dO 1 aj ([]:List ak)) (ep aP aD) ?_
 refine sa ?_
 refine .nil (hK _ _ (AW.ret ?_))
 cases h
 exact fK.mk2 (bY rfl (bY rfl (.inr ⟨_,_,(qT _),(ao _),⟨rfl,rfl⟩,rfl⟩)))
 refine AW.skip (rs hx fun K hK=>?_)
 refine s1 (d:=dG aR aY) (bS ax) ?_
 refine sa ?_
 refine s1 (bc a6) ?_
 refine sa ?_
 refine s1 (d:=dG aR (⟨aY.vR,(1:Int),a9⟩:av)) (cY ax) ?_
 refine scb h zH fun x9 h=>?_
 iterate 3 refine sa ?_
 refine s1 (d:=.pt 1 0) (bZ ax) ?_
 refine s0 (dX (ds':=[dI .i64 x9.1.vR,dI .i64 x9.1.vC,dL aj x9.1.vV]) ax) ?_
 refine sa ?_
 refine .nil (hK _ _ (AW.seq (ra hx ?_)))
 refine cdh h rfl (fun Ok h=>?_) (fun Ok h=>?_)
 refine rs hx fun K hK=>?_
 refine sa ?_
 refine s1 (d:=dO 2 aj ([]:List ak)) (ep aP aD) ?_
 refine sa ?_
 refine .nil (hK _ _ (AW.ret ?_))
 cases h
 exact fK.mk2 (bY rfl (bY rfl (.inr ⟨_,_,(qT _),(ao _),⟨rfl,rfl⟩,rfl⟩)))
 refine AW.skip (rs hx fun K hK=>?_)
 refine s1 (d:=dG aR x9.1) (bS ax) ?_
 refine scb h mH fun jG h=>?_
 iterate 3 refine sa ?_
 refine s1 (d:=.pt 2 0) (bZ j7) ?_
 refine s0 (dX (ds':=[dI .i64 jG.1.vm.vR,dI .i64 jG.1.vm.vC,dL aj jG.1.vm.vV,dL bT jG.1.vl]) j7) ?_
 refine sa ?_
 refine .nil (hK _ _ (AW.seq (AW.block (ra hx ?_))))
 refine cdh h rfl (fun nF h=>?_) (fun nF h=>?_)
 refine rs hx fun K hK=>?_
 refine sa ?_
 refine s1 (d:=dO 3 aj ([]:List ak)) (ep aP aD) ?_
 refine sa ?_
 refine .nil (hK _ _ (AW.ret ?_))
 cases h
 exact fK.mk2 (bY rfl (bY rfl (.inr ⟨_,_,(qT _),(ao _),⟨rfl,rfl⟩,rfl⟩)))
 refine rsd [76] hx fun K hK=>?_
 refine s1 (d:=dG qb jG.1) (bS j7) ?_
 obtain⟨uG,hx16,h⟩:=ah h
 refine s1 (Ac rfl (kK hx16) (by simp only[cD,dT,jZ,gj,eh,eC];exact bn _ _) (lA (ao _) lAn)) ?_
 refine sa ?_
 refine s1 (bc a6) ?_
 refine cqb h l7 fun pQ h=>?_
 refine sa ?_
 refine .nil (hK _ _ (cdh h rfl (fun A5 h=>?_) (fun A5 h=>?_)))
 refine rs hx fun K hK=>?_
 refine s1 (d:=dO 4 aj ([]:List ak)) (ep aP aD) ?_
 refine sa ?_
 refine .nil (hK _ _ (AW.ret ?_))
 cases h
 exact fK.mk2 (bY rfl (bY rfl (.inr ⟨_,_,(qT _),(ao _),⟨rfl,rfl⟩,rfl⟩)))
 refine rs hx fun K hK=>?_
 refine sa ?_
 refine s1 (bc sW) ?_
 iterate 2 refine sa ?_
 refine s1 (bc a6) ?_
 iterate 2 refine sa ?_
 refine .nil (hK _ _ (cdh h rfl (fun vB h=>?_) (fun vB h=>?_)))
 refine rs hx fun K hK=>?_
 refine s1 (d:=dO 4 aj ([]:List ak)) (ep aP aD) ?_
 refine sa ?_
 refine .nil (hK _ _ (AW.ret ?_))
 cases h
 exact fK.mk2 (bY rfl (bY rfl (.inr ⟨_,_,(qT _),(ao _),⟨rfl,rfl⟩,rfl⟩)))
 refine AW.skip (rs hx fun K hK=>?_)
 refine s1 (d:=dO 4 aj ([]:List ak)) (ep aP aD) ?_
 refine .nil (hK _ _ (AW.seq (rs hx fun K hK=>?_)))
 refine sa ?_
 refine s1 (bc sW) ?_
 iterate 2 refine sa ?_
 refine .nil (hK _ _ (AW.block ?_))
 obtain⟨ur,hy,h⟩:=ah h
 refine lp (S:=(List ak)×Int) (X:=(List ak)) (fun (w8,BN)=>[(2,.pt 0 0),(8,.pt 1 0),(9,dO 2 aj w8),(63,dI .i64 ((jG.1.vl).length:Int)),(64,dI .i64 BN)]) (fun (w8,BN)=>⟨[(0,[dI .i64 aY.vR,dI .i64 aY.vC,dL aj aY.vV]),(1,[dI .i64 jG.1.vm.vR,dI .i64 jG.1.vm.vC,dL aj jG.1.vm.vV,dL bT jG.1.vl])],[(2,(w8).length,36,34)],3⟩) (PE cx (.exit 1) (fun ur=>[(9,dO 0 aj ur)]) fun ur=>⟨[],[(0,(ur).length,36,34)],1⟩) hy ?_ ?_ ?_
 exact wk h0 [0,2,4] (wR rfl (wR rfl (wR rfl (wR rfl (wR rfl wTn))))) (vR rfl (vR rfl wVn)) (wL rfl rfl wLn)
 clear hy h
 rintro⟨w8,BN⟩ y h
 dsimp only[fF] at h
 refine ra hx ?_
 refine AW.seq (cdh h rfl (fun Ex h=>?_) (fun Ex h=>?_))
 refine AW.skip (AW.seq (AW.block (ra hx ?_)))
 refine rq hx fun K hK=>?_
 iterate 2 refine sa ?_
 refine s1 (d:=dG aR jG.1.vm) (bS ax) ?_
 iterate 2 refine sa ?_
 refine s1 (bc a6) ?_
 refine scb h dp fun oL h=>?_
 refine s1 (qG ([oL]:List ak) aj aP aD) ?_
 obtain⟨Og,h⟩:=aC h
 refine s1 (d:=dO 2 aj (w8++[oL])) (iS aP aD Og) ?_
 refine sa ?_
 refine .nil (hK _ _ (rb hx ?_))
 cases h
 exact PS.l (pe0 h0 [0,1,2])
 refine AW.exit ?_
 try dsimp only
 try simp only[aM,reduceIte,Nat.reduceEqDiff,reduceCtorEq]
 cases h
 exact PS.r ⟨by nofun,PE.i (wk h0 [2] (wR rfl wTn) wVn (wL rfl rfl wLn))⟩
 rintro ex tm' hp' ⟨rfl,hw⟩
 try dsimp only
 try simp only[aM,reduceIte,Nat.reduceEqDiff,reduceCtorEq]
 refine AW.weak hw (ra hx ?_)
 refine AW.ret ?_
 cases h
 exact fK.mk2 (bY rfl (bY rfl (.inr ⟨_,_,(qT _),(ao _),⟨rfl,rfl⟩,rfl⟩)))
def lN(nk:Int)(jg:Int)(bM:c8)(fg:av):Option ak:=bnd (b9 bM.vm nk (i64.wrap (fg.vR+jg))) fun x1=>some x1
def lL(bR:Int)(bM:c8)(fg:av)(aK:Int):Int×(List ak)→Option ((Int×(List ak))⊕((List ak))):=fun (bX,bf)=>cnd (decide (bX<bR)) (bnd (lN aK bX bM fg) fun x3=>gd ((bf++[x3]).length*136≤140737488355328) (some (.inl (i64.wrap (bX+(1:Int)),bf++[x3])))) (some (.inr bf))
def mg(cf:Int)(bR:Int)(bM:c8)(fg:av):Int×(List ak)→Option ((Int×(List ak))⊕((List ak))):=fun (aK,aT)=>cnd (decide (aK<cf)) (bnd (a5 (lL bR bM fg aK) ((0:Int),aT)) fun bE=>some (.inl (i64.wrap (aK+(1:Int)),bE))) (some (.inr aT))
def lY(cf:Int)(bR:Int)(bM:c8)(fg:av):Option (av×Int):=bnd (a5 (mg cf bR bM fg) ((0:Int),([]:List ak))) fun aG=>bnd (cG aG) fun x8=>cnd (!x8) (some ((⟨(0:Int),(0:Int),([]:List ak)⟩:av),(30:Int))) (some ((⟨cf,bR,aG⟩:av),(0:Int)))
def iK(s8:c8×Int):Int→Option (Int⊕((av×Int)⊕Unit)):=fun DD=>cnd (decide (DD<((s8.1.vl).length:Int))) (gd (0≤DD∧DD<((s8.1.vl).length:Int)) (cnd (decide ((((s8.1.vl)[(DD).toNat]!).vcol)≠DD)) (some (.inr (.inl ((⟨(0:Int),(0:Int),([]:List ak)⟩:av),(70:Int))))) (some (.inl (i64.wrap (DD+(1:Int))))))) (some (.inr (.inr ())))
def rP(fR:av):Option (av×Int):=bnd (S:=Bool) (bnd (bG [fR]) fun x1=>cnd (!x1) (some (true)) (some (decide (fR.vR≠fR.vC)))) fun bB=>cnd bB (some ((⟨(0:Int),(0:Int),([]:List ak)⟩:av),(1:Int))) (bnd (fV fR.vR) fun x6=>bnd (ik fR x6) fun x8=>cnd (decide (x8.2≠(0:Int))) (some ((⟨(0:Int),(0:Int),([]:List ak)⟩:av),x8.2)) (bnd (ez x8.1) fun s8=>cnd (decide (s8.2≠(0:Int))) (some ((⟨(0:Int),(0:Int),([]:List ak)⟩:av),s8.2)) (bnd (a5 (iK s8) (0:Int)) fun y18=>match y18 with| .inl r=>some r| .inr ()=>bnd (lY fR.vR fR.vR s8.1 fR) fun JC=>some (JC.1,JC.2))))
def iH(x4:c8×Int)(x7:List Int)(lP:Int)(uG:List ak):Int×(List ak)→Option ((Int×(List ak))⊕((List ak))):=fun (nY,u9)=>cnd (decide (nY<((x7).length:Int))) (bnd (S:=(List ak)) (gd (0≤nY∧nY<((x7).length:Int)) (cnd (decide (((x7)[(nY).toNat]!)<lP)) (bnd (b9 x4.1.vm nY lP) fun L2=>bnd (lK L2) fun xo=>gd (0≤(x7)[(nY).toNat]!∧(x7)[(nY).toNat]! <(((uG).length:Nat):Int)∧(x7)[(nY).toNat]! <((u9).length:Int)) (some ((u9).set (((x7)[(nY).toNat]!).toNat) xo))) (some (u9)))) fun Dz=>some (.inl (i64.wrap (nY+(1:Int)),Dz))) (some (.inr u9))
def iI(fR:av)(x4:c8×Int)(x7:List Int):(List (List ak))×Int→Option (((List (List ak))×Int)⊕((List (List ak)))):=fun (gk,lP)=>cnd (decide (lP<fR.vC)) (bnd (S:=(List (List ak))) (bnd (cK x7 lP) fun nl=>cnd nl (some (gk)) (bnd (eE (0:Int)) fun qN=>bnd (gf [qN] fR.vC) fun uG=>bnd (eE (1:Int)) fun pQ=>gd (0≤lP∧lP<(((uG).length:Nat):Int)∧lP<((uG).length:Int)) (bnd (a5 (iH x4 x7 lP uG) ((0:Int),(uG).set ((lP).toNat) pQ)) fun p6=>gd ((uG).length=(p6).length) (gd ((gk++[p6]).length*24≤140737488355328) (some (gk++[p6])))))) fun BQ=>some (.inl (BQ,i64.wrap (lP+(1:Int))))) (some (.inr gk))
def kI(fR:av):Option ((List (List ak))×Int):=bnd (bG [fR]) fun x1=>cnd (!x1) (some (([]:List (List ak)),(1:Int))) (bnd (ez fR) fun x4=>cnd (decide (x4.2≠(0:Int))) (some (([]:List (List ak)),x4.2)) (bnd (ce x4.1) fun x7=>bnd (a5 (iI fR x4 x7) (([]:List (List ak)),(0:Int))) fun ux=>some (ux,(0:Int))))
theorem Cn {fR:av}{r:(List (List ak))×Int}(h:kI fR=some r):aB prog 21 [dG aR fR] (.tu [dL (cL aj) r.1,dI .i64 r.2]):=by
 refine bL (rs:=[.tmp 2,.tmp 3]) (fun cx hx h0=>?_) func21
 unfold kI at h
 refine rs hx fun K hK=>?_
 refine s1 (d:=.pt 0 0) iN ?_
 refine s1 (d:=dO 1 (cL aj) ([]:List (List ak))) (ep mp aP) ?_
 refine sa ?_
 refine .nil (hK _ _ (AW.seq (rs hx fun K hK=>?_)))
 refine s1 (d:=dG aR fR) (bS ax) ?_
 refine s1 (d:=dO 2 aR [fR]) (iM pp ax) ?_
 refine scb h d6 fun x1 h=>?_
 refine sa ?_
 refine .nil (hK _ _ (cdh h rfl (fun bm h=>?_) (fun bm h=>?_)))
 refine rs hx fun K hK=>?_
 refine s1 (d:=dO 3 (cL aj) ([]:List (List ak))) (ep mp aP) ?_
 refine sa ?_
 refine .nil (hK _ _ (AW.ret ?_))
 cases h
 exact fK.mk2 (bY rfl (bY rfl (.inr ⟨_,_,(qT _),(ao _),⟨rfl,rfl⟩,rfl⟩)))
 refine AW.skip (rs hx fun K hK=>?_)
 refine s1 (d:=dG aR fR) (bS ax) ?_
 refine scb h mH fun x4 h=>?_
 iterate 3 refine sa ?_
 refine s1 (d:=.pt 3 0) (bZ j7) ?_
 refine s0 (dX (ds':=[dI .i64 x4.1.vm.vR,dI .i64 x4.1.vm.vC,dL aj x4.1.vm.vV,dL bT x4.1.vl]) j7) ?_
 refine sa ?_
 refine .nil (hK _ _ (AW.seq (ra hx ?_)))
 refine cdh h rfl (fun dy h=>?_) (fun dy h=>?_)
 refine rs hx fun K hK=>?_
 refine sa ?_
 refine s1 (d:=dO 4 (cL aj) ([]:List (List ak))) (ep mp aP) ?_
 refine sa ?_
 refine .nil (hK _ _ (AW.ret ?_))
 cases h
 exact fK.mk2 (bY rfl (bY rfl (.inr ⟨_,_,(qT _),(ao _),⟨rfl,rfl⟩,rfl⟩)))
 refine AW.skip (rs hx fun K hK=>?_)
 refine s1 (d:=dG qb x4.1) (bS j7) ?_
 obtain⟨x7,xZ,h⟩:=ah h
 refine s1 (Ac rfl (kK xZ) (by simp only[cD,dT,jZ,gj,eh,eC];exact bn _ _) (lA (ao _) lAn)) ?_
 refine sa ?_
 refine .nil (hK _ _ (rs hx fun K hK=>?_))
 refine s1 (d:=dO 5 (cL aj) ([]:List (List ak))) (ep mp aP) ?_
 refine .nil (hK _ _ (AW.seq (rs hx fun K hK=>?_)))
 refine sa ?_
 refine s1 (bc a6) ?_
 refine sa ?_
 refine .nil (hK _ _ (AW.block ?_))
 obtain⟨ux,hy,h⟩:=ah h
 refine lp (S:=(List (List ak))×Int) (X:=(List (List ak))) (fun (gk,lP)=>[(1,.pt 0 0),(4,.pt 1 0),(6,dO 2 (cI .i64) x7),(7,dO 3 (cL aj) gk),(27,dI .i64 fR.vC),(28,dI .i64 lP)]) (fun (gk,lP)=>⟨[(0,[dI .i64 fR.vR,dI .i64 fR.vC,dL aj fR.vV]),(1,[dI .i64 x4.1.vm.vR,dI .i64 x4.1.vm.vC,dL aj x4.1.vm.vV,dL bT x4.1.vl])],[(2,(x7).length,1,3),(3,(gk).length,1,22)],4⟩) (PE cx (.exit 0) (fun ux=>[(7,dO 0 (cL aj) ux)]) fun ux=>⟨[],[(0,(ux).length,1,22)],1⟩) hy ?_ ?_ ?_
 exact wk h0 [0,3,4,5] (wR rfl (wR rfl (wR rfl (wR rfl (wR rfl (wR rfl wTn)))))) (vR rfl (vR rfl wVn)) (wL rfl rfl (wL rfl rfl wLn))
 clear hy h
 rintro⟨gk,lP⟩ y h
 dsimp only[iI] at h
 refine ra hx ?_
 refine AW.seq (cdh h rfl (fun wP h=>?_) (fun wP h=>?_))
 refine AW.skip (AW.seq ?_)
 obtain⟨BQ,hy,h⟩:=ah h
 refine jn ((PE cx .normal (fun BQ=>[(1,.pt 0 0),(4,.pt 1 0),(6,dO 2 (cI .i64) x7),(7,dO 3 (cL aj) BQ),(27,dI .i64 fR.vC),(28,dI .i64 lP)]) fun BQ=>⟨[(0,[dI .i64 fR.vR,dI .i64 fR.vC,dL aj fR.vV]),(1,[dI .i64 x4.1.vm.vR,dI .i64 x4.1.vm.vC,dL aj x4.1.vm.vV,dL bT x4.1.vl])],[(2,(x7).length,1,3),(3,(BQ).length,1,22)],4⟩) BQ) ?_ ?_
 replace h:=hy
 refine AW.block (ra hx ?_)
 refine AW.seq (rs hx fun K hK=>?_)
 iterate 2 refine sa ?_
 refine scb h l7 fun nl h=>?_
 refine .nil (hK _ _ (cdh h rfl (fun tL h=>?_) (fun tL h=>?_)))
 refine AW.exit ?_
 try dsimp only
 try simp only[aM,reduceIte,Nat.reduceEqDiff,reduceCtorEq]
 cases h
 exact pe0 h0 [0,1,2,3]
 refine AW.skip (rsd [60] hx fun K hK=>?_)
 refine cqb h iP fun qN h=>?_
 refine s1 (lf ([qN]:List ak) aj aP aD) ?_
 refine sa ?_
 refine s1 (bc a6) ?_
 obtain⟨uG,hx16,h⟩:=ah h
 refine sC0 (d:=.ow 5 0 36 ((uG).length)) (hp':=⟨[(5,dC ((cW aj).f uG)),(0,[dI .i64 fR.vR,dI .i64 fR.vC,dL aj fR.vV]),(1,[dI .i64 x4.1.vm.vR,dI .i64 x4.1.vm.vC,dL aj x4.1.vm.vV,dL bT x4.1.vl])],[(2,(x7).length,1,3),(3,(gk).length,1,22)],6⟩) (uC hx16) (ARs.cons (AR.le (qT _) rfl) (ARs.cons (AR.le (ao _) rfl) ARs.nil)) (xl.l _ _) ?_
 refine sa ?_
 refine .nil (hK _ _ (rs hx fun K hK=>?_))
 iterate 2 refine sa ?_
 refine scb h iP fun pQ h=>?_
 obtain⟨hc19,h⟩:=aC h
 have hn20:(lP).toNat<(uG).length:=by omega
 refine s1 (xj ⟨hc19.1,hc19.2.1⟩ aP aD) ?_
 refine s0 (aO (b':=pQ) (an.seqW aj uG ((lP).toNat) hn20) aD) ?_
 refine .nil (hK _ _ (AW.seq (ra hx ?_)))
 refine AW.block ?_
 obtain⟨p6,hy,h⟩:=ah h
 refine lp (S:=Int×(List ak)) (X:=(List ak)) (fun (nY,u9)=>[(1,.pt 0 0),(4,.pt 1 0),(6,dO 2 (cI .i64) x7),(7,dO 3 (cL aj) gk),(8,dI .i64 lP),(9,.ow 4 0 36 ((uG).length)),(27,dI .i64 fR.vC),(28,dI .i64 lP),(43,dO 2 (cI .i64) x7),(44,dI .i64 ((x7).length:Int)),(45,dI .i64 nY)]) (fun (nY,u9)=>⟨[(0,[dI .i64 fR.vR,dI .i64 fR.vC,dL aj fR.vV]),(1,[dI .i64 x4.1.vm.vR,dI .i64 x4.1.vm.vC,dL aj x4.1.vm.vV,dL bT x4.1.vl]),(4,dC ((cW aj).f u9))],[(2,(x7).length,1,3),(3,(gk).length,1,22)],5⟩) (PE cx (.exit 2) (fun p6=>[(1,.pt 0 0),(4,.pt 1 0),(6,dO 2 (cI .i64) x7),(7,dO 3 (cL aj) gk),(9,.ow 4 0 36 ((uG).length)),(27,dI .i64 fR.vC),(28,dI .i64 lP)]) fun p6=>⟨[(0,[dI .i64 fR.vR,dI .i64 fR.vC,dL aj fR.vV]),(1,[dI .i64 x4.1.vm.vR,dI .i64 x4.1.vm.vC,dL aj x4.1.vm.vV,dL bT x4.1.vl]),(4,dC ((cW aj).f p6))],[(2,(x7).length,1,3),(3,(gk).length,1,22)],5⟩) hy ?_ ?_ ?_
 exact wk h0 [0,1,2,3,5] (wR rfl (wR rfl (wR rfl (wR rfl (wR rfl (wR rfl (wR rfl (wR rfl (wR rfl (wR rfl (wR rfl wTn))))))))))) (vR rfl (vR rfl (vC rfl wVn))) (wL rfl rfl (wL rfl rfl wLn))
 clear hy h
 rintro⟨nY,u9⟩ y h
 dsimp only[iH] at h
 refine ra hx ?_
 refine AW.seq (cdh h rfl (fun Ex h=>?_) (fun Ex h=>?_))
 refine AW.skip (AW.seq ?_)
 obtain⟨Dz,hy,h⟩:=ah h
 refine jn ((PE cx .normal (fun Dz=>[(1,.pt 0 0),(4,.pt 1 0),(6,dO 2 (cI .i64) x7),(7,dO 3 (cL aj) gk),(8,dI .i64 lP),(9,.ow 4 0 36 ((uG).length)),(27,dI .i64 fR.vC),(28,dI .i64 lP),(43,dO 2 (cI .i64) x7),(44,dI .i64 ((x7).length:Int)),(45,dI .i64 nY)]) fun Dz=>⟨[(0,[dI .i64 fR.vR,dI .i64 fR.vC,dL aj fR.vV]),(1,[dI .i64 x4.1.vm.vR,dI .i64 x4.1.vm.vC,dL aj x4.1.vm.vV,dL bT x4.1.vl]),(4,dC ((cW aj).f Dz))],[(2,(x7).length,1,3),(3,(gk).length,1,22)],5⟩) Dz) ?_ ?_
 replace h:=hy
 refine AW.block (rs hx fun K hK=>?_)
 refine sa ?_
 obtain⟨Et,h⟩:=aC h
 have hn23:(nY).toNat<(x7).length:=by omega
 refine s1 (fZ Et b7 a6) ?_
 refine s1 (pm (c:=(cI .i64)) (l:=x7) (n:=(nY).toNat) (o:=0) a6 hn23) ?_
 iterate 2 refine sa ?_
 refine .nil (hK _ _ (ra hx ?_))
 refine cdh h rfl (fun rk h=>?_) (fun rk h=>?_)
 refine rq hx fun K hK=>?_
 iterate 3 refine sa ?_
 refine s1 (d:=dG aR x4.1.vm) (bS ax) ?_
 iterate 2 refine sa ?_
 refine scb h dp fun L2 h=>?_
 refine scb h yW fun xo h=>?_
 obtain⟨hc29,h⟩:=aC h
 have hn30:((x7)[(nY).toNat]!).toNat<(u9).length:=by omega
 refine s1 (xj ⟨hc29.1,hc29.2.1⟩ aP aD) ?_
 refine s0 (aO (b':=xo) (an.seqW aj u9 (((x7)[(nY).toNat]!).toNat) hn30) aD) ?_
 refine .nil (hK _ _ ?_)
 cases h
 exact pe0 h0 [0,1,2,3,4]
 refine AW.skip ?_
 cases h
 exact pe0 h0 [0,1,2,3,4]
 rintro ex tm' hp' ⟨rfl,hw⟩
 refine AW.weak hw (rb hx ?_)
 cases h
 exact PS.l (pe0 h0 [0,1,2,3,4])
 refine AW.exit ?_
 try dsimp only
 try simp only[aM,reduceIte,Nat.reduceEqDiff,reduceCtorEq]
 cases h
 exact PS.r ⟨by nofun,PE.i (wk h0 [0,1,2,3,4] (wR rfl (wR rfl (wR rfl (wR rfl (wR rfl (wR rfl (wR rfl wTn))))))) (vR rfl (vR rfl (vC rfl wVn))) (wL rfl rfl (wL rfl rfl wLn)))⟩
 rintro ex tm' hp' ⟨rfl,hw⟩
 try dsimp only
 try simp only[aM,reduceIte,Nat.reduceEqDiff,reduceCtorEq]
 refine AW.weak hw (rq hx fun K hK=>?_)
 iterate 2 refine sa ?_
 obtain⟨hc33,h⟩:=aC h
 refine fzO aj (n:=(uG).length) 4 [9,64] hc33 ?_ (all2 rfl (all1 rfl))
 refine s1 (d:=dO 5 (cL aj) [p6]) (iM mp aP) ?_
 obtain⟨hc34,h⟩:=aC h
 refine s1 (d:=dO 3 (cL aj) (gk++[p6])) (iS mp aP hc34) ?_
 refine sa ?_
 refine .nil (hK _ _ ?_)
 cases h
 exact pe0 h0 [0,1,2,3]
 rintro ex tm' hp' ⟨rfl,hw⟩
 refine AW.weak hw (rb hx ?_)
 cases h
 exact PS.l (pe0 h0 [0,1,2,3])
 refine AW.exit ?_
 try dsimp only
 try simp only[aM,reduceIte,Nat.reduceEqDiff,reduceCtorEq]
 cases h
 exact PS.r ⟨by nofun,PE.i (wk h0 [3] (wR rfl wTn) wVn (wL rfl rfl wLn))⟩
 rintro ex tm' hp' ⟨rfl,hw⟩
 try dsimp only
 try simp only[aM,reduceIte,Nat.reduceEqDiff,reduceCtorEq]
 refine AW.weak hw (ra hx ?_)
 refine AW.ret ?_
 cases h
 exact fK.mk2 (bY rfl (bY rfl (.inr ⟨_,_,(qT _),(ao _),⟨rfl,rfl⟩,rfl⟩)))
def fq(nk:Int)(jg:Int)(bM:av):Option ak:=bnd (b9 bM nk jg) fun x1=>some x1
theorem ob {nk:Int}{jg:Int}{bM:av}{r:ak}(h:fq nk jg bM=some r):HC prog 80 [dI .i64 nk,dI .i64 jg,.pt 0 0] ⟨[(0,[dI .i64 bM.vR,dI .i64 bM.vC,dL aj bM.vV])],[],1⟩ (dG aj r) ⟨[(0,[dI .i64 bM.vR,dI .i64 bM.vC,dL aj bM.vV])],[],1⟩:=by
 refine HC.ofX (rs:=[.cell 5 34]) tok func80 rfl rfl (bg rfl) rfl (fun cx hx h1=>?_)
 have h0:cx.hp0.next=1:=by rw[h1]
 simp only[eg,Nat.reduceAdd,bq]
 unfold fq at h
 refine rs hx fun K hK=>?_
 refine s1 (bo (F:=aj.f cu) aD) ?_
 refine .nil (hK _ _ (rs hx fun K hK=>?_))
 refine s1 (d:=dG aR bM) (bS ax) ?_
 iterate 2 refine sa ?_
 refine scb h dp fun x1 h=>?_
 refine s0 (aO (b':=x1) (an.id _ _) aD) ?_
 refine .nil (hK _ _ (AW.ret ?_))
 cases h
 exact⟨_,qh rfl aD rfl rfl (ltb rfl) (aj.h _) (rfl),qK.of_wk (by rw[hx];exact bg rfl) (wkN h0 [] (wG rfl (ao _) wTn) (vR rfl wVn) wLn)⟩
def iD(bR:Int)(bM:av)(aK:Int):Int×(List ak)→Option ((Int×(List ak))⊕((List ak))):=fun (bX,bf)=>cnd (decide (bX<bR)) (bnd (fq aK bX bM) fun x3=>gd ((bf++[x3]).length*136≤140737488355328) (some (.inl (i64.wrap (bX+(1:Int)),bf++[x3])))) (some (.inr bf))
def iX(cf:Int)(bR:Int)(bM:av):Int×(List ak)→Option ((Int×(List ak))⊕((List ak))):=fun (aK,aT)=>cnd (decide (aK<cf)) (bnd (a5 (iD bR bM aK) ((0:Int),aT)) fun bE=>some (.inl (i64.wrap (aK+(1:Int)),bE))) (some (.inr aT))
def ju(cf:Int)(bR:Int)(bM:av):Option (av×Int):=bnd (a5 (iX cf bR bM) ((0:Int),([]:List ak))) fun aG=>bnd (cG aG) fun x8=>cnd (!x8) (some ((⟨(0:Int),(0:Int),([]:List ak)⟩:av),(30:Int))) (some ((⟨cf,bR,aG⟩:av),(0:Int)))
theorem xt {cf:Int}{bR:Int}{bM:av}{r:av×Int}(h:ju cf bR bM=some r):HC prog 73 [dI .i64 cf,dI .i64 bR,.fn 80 [0]] ⟨[(0,[dI .i64 bM.vR,dI .i64 bM.vC,dL aj bM.vV])],[],1⟩ (.tu [dG aR r.1,dI .i64 r.2]) ⟨[(0,[dI .i64 bM.vR,dI .i64 bM.vC,dL aj bM.vV])],[],1⟩:=by
 refine HC.ofX (rs:=[.cell 6 24,.tmp 7]) tok func73 rfl rfl (bg rfl) rfl (fun cx hx h1=>?_)
 have h0:cx.hp0.next=1:=by rw[h1]
 simp only[eg,Nat.reduceAdd,bq]
 unfold ju at h
 refine rs hx fun K hK=>?_
 refine s1 (d:=.pt 1 0) (bZ ax) ?_
 refine sa ?_
 refine .nil (hK _ _ (rs hx fun K hK=>?_))
 iterate 2 refine sa ?_
 refine s1 (d:=.ag [dI .i64 cf,dI .i64 bR,dN]) (cY ax) ?_
 refine s1 (d:=.pt 2 0) (bZ ax) ?_
 refine s0 (dX (ds':=[dI .i64 cf,dI .i64 bR,dN]) ax) ?_
 refine .nil (hK _ _ (AW.seq (ra hx ?_)))
 refine AW.block ?_
 obtain⟨aG,hy,h⟩:=ah h
 refine lp (S:=Int×(List ak)) (X:=(List ak)) (fun (aK,aT)=>[(1,dI .i64 bR),(2,.fn 80 [0]),(6,.pt 1 0),(8,.pt 2 0),(14,dI .i64 cf),(15,dI .i64 aK)]) (fun (aK,aT)=>⟨[(0,[dI .i64 bM.vR,dI .i64 bM.vC,dL aj bM.vV]),(1,[dI .i64 (0:Int),dI .i64 (0:Int),dN]),(2,[dI .i64 cf,dI .i64 bR,dO 3 aj aT])],[(3,(aT).length,36,34)],4⟩) (PE cx (.exit 0) (fun aG=>[(6,.pt 1 0),(8,.pt 2 0)]) fun aG=>⟨[(0,[dI .i64 bM.vR,dI .i64 bM.vC,dL aj bM.vV]),(1,[dI .i64 (0:Int),dI .i64 (0:Int),dN]),(2,[dI .i64 cf,dI .i64 bR,dO 3 aj aG])],[(3,(aG).length,36,34)],4⟩) hy ?_ ?_ ?_
 exact Wk.trans (Wk.nilOwn (ds':=[dI .i64 cf,dI .i64 bR,dO 3 aj ([]:List ak)]) 2 2 34 36) (wkN h0 [1,2,3] (wR rfl (wR rfl (wR rfl (wR rfl (wR rfl (wR rfl wTn)))))) (vR rfl (vR rfl (vR rfl wVn))) (wL rfl rfl wLn))
 clear hy h
 rintro⟨aK,aT⟩ y h
 dsimp only[iX] at h
 refine ra hx ?_
 refine AW.seq (cdh h rfl (fun cE h=>?_) (fun cE h=>?_))
 refine AW.skip (AW.seq (AW.block ?_))
 iterate 2 refine ra hx ?_
 refine AW.block ?_
 obtain⟨bE,hy,h⟩:=ah h
 refine lp (S:=Int×(List ak)) (X:=(List ak)) (fun (bX,bf)=>[(1,dI .i64 bR),(2,.fn 80 [0]),(6,.pt 1 0),(8,.pt 2 0),(9,dI .i64 aK),(14,dI .i64 cf),(15,dI .i64 aK),(18,dI .i64 bR),(19,dI .i64 bX)]) (fun (bX,bf)=>⟨[(0,[dI .i64 bM.vR,dI .i64 bM.vC,dL aj bM.vV]),(1,[dI .i64 (0:Int),dI .i64 (0:Int),dN]),(2,[dI .i64 cf,dI .i64 bR,dO 3 aj bf])],[(3,(bf).length,36,34)],4⟩) (PE cx (.exit 2) (fun bE=>[(1,dI .i64 bR),(2,.fn 80 [0]),(6,.pt 1 0),(8,.pt 2 0),(14,dI .i64 cf),(15,dI .i64 aK)]) fun bE=>⟨[(0,[dI .i64 bM.vR,dI .i64 bM.vC,dL aj bM.vV]),(1,[dI .i64 (0:Int),dI .i64 (0:Int),dN]),(2,[dI .i64 cf,dI .i64 bR,dO 3 aj bE])],[(3,(bE).length,36,34)],4⟩) hy ?_ ?_ ?_
 exact wkN h0 [1,2,3] (wR rfl (wR rfl (wR rfl (wR rfl (wR rfl (wR rfl (wR rfl (wR rfl (wR rfl wTn))))))))) (vR rfl (vR rfl (vR rfl wVn))) (wL rfl rfl wLn)
 clear hy h
 rintro⟨bX,bf⟩ y h
 dsimp only[iD] at h
 refine ra hx ?_
 refine AW.seq (cdh h rfl (fun lR h=>?_) (fun lR h=>?_))
 refine AW.skip (AW.seq (AW.block (ra hx ?_)))
 obtain⟨x3,ya,h⟩:=ah h
 obtain⟨CG,h⟩:=aC h
 refine jn (PE cx .normal (fun (_:Unit)=>[(1,dI .i64 bR),(2,.fn 80 [0]),(6,.pt 1 0),(8,.pt 2 0),(9,dI .i64 aK),(14,dI .i64 cf),(15,dI .i64 aK),(18,dI .i64 bR),(19,dI .i64 bX)]) (fun (_:Unit)=>⟨[(0,[dI .i64 bM.vR,dI .i64 bM.vC,dL aj bM.vV]),(1,[dI .i64 (0:Int),dI .i64 (0:Int),dN]),(2,[dI .i64 cf,dI .i64 bR,dO 3 aj (bf++[x3])])],[(3,(bf++[x3]).length,36,34)],4⟩) ()) ?_ ?_
 refine dw (DW.split 1 5 (by decide) ?_ ?_)
 refine dwg [] [0,1,2,3,4,5,6,7,8,9] hx (by kernel_rfl) (by kernel_rfl) (by kernel_rfl) fun K hK=>?_
 dsimp only[d8,nj,nA,List.map]
 refine sa ?_
 refine s1 (bc aP) ?_
 iterate 3 refine sa ?_
 refine s1 (mG [0] rfl (ob ya) (fA (ao _) (fA (ao _) (fA (ao _) fAn))) (vR rfl wVn) wLn (rvE rvN) (qw _ _ _) (uR _ _)) ?_
 refine s1 (lf ([x3]:List ak) aj aP aD) ?_
 refine s1 (d:=dO 3 aj (bf++[x3])) (iS aP aD CG) ?_
 refine sa ?_
 refine s0 (dX (ds':=[dI .i64 cf,dI .i64 bR,dO 3 aj (bf++[x3])]) aP) ?_
 exact .nil (hK _ _ (PE.i (wkN h0 [1,2,3] (wR rfl (wR rfl (wR rfl (wR rfl (wR rfl (wR rfl (wR rfl (wR rfl (wR rfl wTn))))))))) (vR rfl (vR rfl (vR rfl wVn))) (wL rfl rfl wLn))))
 refine dwg [] [0,2,3,4,5,1,6,7,8,9] hx (by kernel_rfl) (by kernel_rfl) (by kernel_rfl) fun K hK=>?_
 dsimp only[d8,nj,nA,List.map]
 iterate 4 refine sa ?_
 refine s1 (mG [0] rfl (ob ya) (fA (ao _) (fA (ao _) (fA (ao _) fAn))) (vR rfl wVn) wLn (rvE rvN) (qw _ _ _) (uR _ _)) ?_
 refine s1 (bc aP) ?_
 refine s1 (lf ([x3]:List ak) aj aP aD) ?_
 refine s1 (d:=dO 3 aj (bf++[x3])) (iS aP aD CG) ?_
 refine sa ?_
 refine s0 (dX (ds':=[dI .i64 cf,dI .i64 bR,dO 3 aj (bf++[x3])]) aP) ?_
 exact .nil (hK _ _ (PE.i (wkN h0 [1,2,3] (wR rfl (wR rfl (wR rfl (wR rfl (wR rfl (wR rfl (wR rfl (wR rfl (wR rfl wTn))))))))) (vR rfl (vR rfl (vR rfl wVn))) (wL rfl rfl wLn))))
 rintro ex tm' hp' ⟨rfl,hw⟩
 refine AW.weak hw (rb hx ?_)
 cases h
 exact PS.l (PE.i (wkN h0 [1,2,3] (wR rfl (wR rfl (wR rfl (wR rfl (wR rfl (wR rfl (wR rfl (wR rfl (wR rfl wTn))))))))) (vR rfl (vR rfl (vR rfl wVn))) (wL rfl rfl wLn)))
 refine AW.exit ?_
 try dsimp only
 try simp only[aM,reduceIte,Nat.reduceEqDiff,reduceCtorEq]
 cases h
 exact PS.r ⟨by nofun,PE.i (wkN h0 [1,2,3] (wR rfl (wR rfl (wR rfl (wR rfl (wR rfl (wR rfl wTn)))))) (vR rfl (vR rfl (vR rfl wVn))) (wL rfl rfl wLn))⟩
 rintro ex tm' hp' ⟨rfl,hw⟩
 try dsimp only
 try simp only[aM,reduceIte,Nat.reduceEqDiff,reduceCtorEq]
 refine AW.weak hw (rb hx ?_)
 cases h
 exact PS.l (PE.i (wkN h0 [1,2,3] (wR rfl (wR rfl (wR rfl (wR rfl (wR rfl (wR rfl wTn)))))) (vR rfl (vR rfl (vR rfl wVn))) (wL rfl rfl wLn)))
 refine AW.exit ?_
 try dsimp only
 try simp only[aM,reduceIte,Nat.reduceEqDiff,reduceCtorEq]
 cases h
 exact PS.r ⟨by nofun,PE.i (wkN h0 [1,2,3] (wR rfl (wR rfl wTn)) (vR rfl (vR rfl (vR rfl wVn))) (wL rfl rfl wLn))⟩
 rintro ex tm' hp' ⟨rfl,hw⟩
 try dsimp only
 try simp only[aM,reduceIte,Nat.reduceEqDiff,reduceCtorEq]
 refine AW.weak hw (AW.seq (rs hx fun K hK=>?_))
 refine sa ?_
 refine s1 (bc aP) ?_
 refine scb h gA fun x8 h=>?_
 refine sa ?_
 refine .nil (hK _ _ (cdh h rfl (fun fh h=>?_) (fun fh h=>?_)))
 refine rs hx fun K hK=>?_
 refine s1 (d:=.ag [dI .i64 (0:Int),dI .i64 (0:Int),dN]) (cY ax) ?_
 refine s0 (dX (ds':=[dI .i64 (0:Int),dI .i64 (0:Int),dN]) ax) ?_
 refine sa ?_
 refine .nil (hK _ _ (AW.ret ?_))
 cases h
 exact⟨_,eD (es:=[dI .i64 (0:Int),dI .i64 (0:Int),dN]) rfl ax rfl rfl (ltb rfl) (leb rfl) rfl (bY rfl (rfl)),qK.of_wk2 (by rw[hx];exact bg rfl) (wkN h0 [] (wG rfl (lD (wc (gY _) (wc (gY _) (wc (vq rfl) wcn)))) (wR rfl wTn)) (vR rfl wVn) wLn)⟩
 refine AW.skip (rs hx fun K hK=>?_)
 refine s1 (d:=.ag [dI .i64 cf,dI .i64 bR,dO 3 aj aG]) (bS ax) ?_
 refine s0 (dX (ds':=[dI .i64 cf,dI .i64 bR,dO 3 aj aG]) ax) ?_
 refine sa ?_
 refine .nil (hK _ _ (AW.ret ?_))
 cases h
 exact⟨_,eD (es:=[dI .i64 cf,dI .i64 bR,dO 3 aj aG]) rfl ax rfl rfl (ltb rfl) (leb rfl) rfl (bY rfl (rfl)),qK.of_wk2 (by rw[hx];exact bg rfl) (wkN h0 [] (wG rfl (lD (wc (gY _) (wc (gY _) (wc (GA _) wcn)))) (wR rfl wTn)) (vR rfl wVn) wLn)⟩
def fk(fR:av)(c9:Int):Int→Option (Int⊕((Bool×Int)⊕Unit)):=fun gk=>cnd (decide (gk<c9)) (bnd (b9 fR c9 gk) fun x8=>bnd (b9 fR gk c9) fun nl=>cnd (decide (¬(x8=nl))) (some (.inr (.inl (false,(0:Int))))) (some (.inl (i64.wrap (gk+(1:Int)))))) (some (.inr (.inr ())))
def fm(fR:av):Int→Option (Int⊕((Bool×Int)⊕Unit)):=fun c9=>cnd (decide (c9<fR.vR)) (bnd (a5 (fk fR c9) (0:Int)) fun y13=>match y13 with| .inl r=>some (.inr (.inl r))| .inr ()=>some (.inl (i64.wrap (c9+(1:Int))))) (some (.inr (.inr ())))
def da(fR:av):Int→Option (Int⊕((Bool×Int)⊕Unit)):=fun w7=>cnd (decide (w7≤fR.vR)) (bnd (ju w7 w7 fR) fun tp=>bnd (jV tp.1) fun oa=>bnd (S:=Bool) (cnd (decide (oa.2≠(0:Int))) (some (true)) (bnd (ey oa.1) fun B9=>some (decide (B9≤(0:Int))))) fun Dy=>cnd Dy (some (.inr (.inl (false,oa.2)))) (some (.inl (i64.wrap (w7+(1:Int)))))) (some (.inr (.inr ())))
def d5(fR:av):Option (Bool×Int):=bnd (S:=Bool) (bnd (bG [fR]) fun x1=>cnd (!x1) (some (true)) (some (decide (fR.vR≠fR.vC)))) fun bB=>cnd bB (some (false,(1:Int))) (bnd (a5 (fm fR) (0:Int)) fun y14=>match y14 with| .inl r=>some r| .inr ()=>bnd (a5 (da fR) (1:Int)) fun y25=>match y25 with| .inl r=>some r| .inr ()=>some (true,(0:Int)))
theorem kV {fR:av}{r:Bool×Int}(h:d5 fR=some r):aB prog 23 [dG aR fR] (.tu [dB r.1,dI .i64 r.2]):=by
 refine bL (rs:=[.tmp 2,.tmp 3]) (fun cx hx h0=>?_) func23
 unfold d5 at h
 refine rs hx fun K hK=>?_
 refine s1 (d:=.pt 0 0) iN ?_
 iterate 2 refine sa ?_
 refine .nil (hK _ _ ?_)
 iterate 2 refine AW.seq ?_
 obtain⟨bB,hy,h⟩:=ah h
 refine jn ((PE cx .normal (fun bB=>[(1,.pt 0 0),(21,dB bB)]) fun bB=>⟨[(0,[dI .i64 fR.vR,dI .i64 fR.vC,dL aj fR.vV])],[],1⟩) bB) ?_ ?_
 replace h:=hy
 refine rq hx fun K hK=>?_
 refine s1 (d:=dG aR fR) (bS ax) ?_
 refine s1 (d:=dO 1 aR [fR]) (iM pp ax) ?_
 refine scb h d6 fun x1 h=>?_
 iterate 2 refine sa ?_
 rcases aZ (!x1) with bm|bm
 replace h:=a3 bm h
 iterate 5 refine aI rfl rfl bm ?_
 refine s1 (al bm) ?_
 refine .nil (hK _ _ ?_)
 cases h
 exact pe0 h0 [0]
 replace h:=a4 bm h
 refine ga bm ?_
 refine g1 bm (bc a6) ?_
 refine ga bm ?_
 refine g1 bm (bc a6) ?_
 refine ga bm ?_
 refine s1 (au bm) ?_
 refine .nil (hK _ _ ?_)
 cases h
 exact pe0 h0 [0]
 rintro ex tm' hp' ⟨rfl,hw⟩
 refine AW.weak hw (cdh h rfl (fun nE h=>?_) (fun nE h=>?_))
 refine ra hx ?_
 refine AW.ret ?_
 cases h
 exact rv2
 refine AW.skip (AW.seq (rs hx fun K hK=>?_))
 refine sa ?_
 refine s1 (bc a6) ?_
 refine sa ?_
 refine .nil (hK _ _ (AW.block ?_))
 obtain⟨y,hy,h⟩:=ah h
 refine lp (S:=Int) (X:=(Bool×Int)⊕Unit) (fun c9=>[(1,.pt 0 0),(23,dI .i64 fR.vR),(24,dI .i64 c9)]) (fun c9=>⟨[(0,[dI .i64 fR.vR,dI .i64 fR.vC,dL aj fR.vV])],[],1⟩) (PS (PR [.tmp 2,.tmp 3] fun r=>.tu [dB r.1,dI .i64 r.2]) (PE cx (.exit 0) (fun ()=>[(1,.pt 0 0)]) fun ()=>⟨[(0,[dI .i64 fR.vR,dI .i64 fR.vC,dL aj fR.vV])],[],1⟩)) hy ?_ ?_ ?_
 exact wk h0 [0] (wR rfl (wR rfl (wR rfl wTn))) (vR rfl wVn) wLn
 clear hy h
 rintro c9 y h
 dsimp only[fm] at h
 refine ra hx ?_
 refine AW.seq (cdh h rfl (fun dy h=>?_) (fun dy h=>?_))
 refine AW.skip (AW.seq (AW.block ?_))
 iterate 2 refine ra hx ?_
 refine AW.block ?_
 obtain⟨y,hy,h⟩:=ah h
 refine lp (S:=Int) (X:=(Bool×Int)⊕Unit) (fun gk=>[(1,.pt 0 0),(4,dI .i64 c9),(23,dI .i64 fR.vR),(24,dI .i64 c9),(27,dI .i64 c9),(28,dI .i64 gk)]) (fun gk=>⟨[(0,[dI .i64 fR.vR,dI .i64 fR.vC,dL aj fR.vV])],[],1⟩) (PS (PR [.tmp 2,.tmp 3] fun r=>.tu [dB r.1,dI .i64 r.2]) (PE cx (.exit 2) (fun ()=>[(1,.pt 0 0),(23,dI .i64 fR.vR),(24,dI .i64 c9)]) fun ()=>⟨[(0,[dI .i64 fR.vR,dI .i64 fR.vC,dL aj fR.vV])],[],1⟩)) hy ?_ ?_ ?_
 exact wk h0 [0] (wR rfl (wR rfl (wR rfl (wR rfl (wR rfl (wR rfl wTn)))))) (vR rfl wVn) wLn
 clear hy h
 rintro gk y h
 dsimp only[fk] at h
 refine ra hx ?_
 refine AW.seq (cdh h rfl (fun tg h=>?_) (fun tg h=>?_))
 refine AW.skip (AW.seq (AW.block (ra hx ?_)))
 refine rsd [75] hx fun K hK=>?_
 refine s1 (d:=dG aR fR) (bS ax) ?_
 iterate 2 refine sa ?_
 refine cqb h dp fun x8 h=>?_
 refine s1 (d:=dG aR fR) (bS ax) ?_
 iterate 2 refine sa ?_
 refine cqb h dp fun nl h=>?_
 refine s1 (yM tok 4 (by decide) rR aD) ?_
 refine .nil (hK _ _ (cdh h rfl (fun tL h=>?_) (fun tL h=>?_)))
 refine ra hx ?_
 refine AW.ret ?_
 cases h
 refine PS.r ⟨by nofun,PS.l (PR.i ?_)⟩
 exact rv2
 refine AW.skip (rb hx ?_)
 cases h
 exact PS.l (pe0 h0 [0])
 refine AW.exit ?_
 try dsimp only
 try simp only[aM,reduceIte,Nat.reduceEqDiff,reduceCtorEq]
 cases h
 exact PS.r ⟨by nofun,PS.r (PE.i (wk h0 [0] (wR rfl (wR rfl (wR rfl wTn))) (vR rfl wVn) wLn))⟩
 rcases y with r|⟨⟩
 rintro ex tm' hp' ⟨rfl,hw⟩
 cases h
 exact PS.r ⟨by nofun,PS.l (PR.i hw)⟩
 rintro ex tm' hp' ⟨rfl,hw⟩
 try dsimp only
 try simp only[aM,reduceIte,Nat.reduceEqDiff,reduceCtorEq]
 refine AW.weak hw (rb hx ?_)
 cases h
 exact PS.l (pe0 h0 [0])
 refine AW.exit ?_
 try dsimp only
 try simp only[aM,reduceIte,Nat.reduceEqDiff,reduceCtorEq]
 cases h
 exact PS.r ⟨by nofun,PS.r (PE.i (wk h0 [0] (wR rfl wTn) (vR rfl wVn) wLn))⟩
 rcases y with r|⟨⟩
 rintro ex tm' hp' ⟨rfl,hw⟩
 cases h
 exact hw
 rintro ex tm' hp' ⟨rfl,hw⟩
 try dsimp only
 try simp only[aM,reduceIte,Nat.reduceEqDiff,reduceCtorEq]
 refine AW.weak hw (AW.seq (ra hx ?_))
 refine AW.block ?_
 obtain⟨y,hy,h⟩:=ah h
 refine lp (S:=Int) (X:=(Bool×Int)⊕Unit) (fun w7=>[(1,.pt 0 0),(6,dI .i64 w7)]) (fun w7=>⟨[(0,[dI .i64 fR.vR,dI .i64 fR.vC,dL aj fR.vV])],[],1⟩) (PS (PR [.tmp 2,.tmp 3] fun r=>.tu [dB r.1,dI .i64 r.2]) (PE cx (.exit 4) (fun ()=>[]) fun ()=>⟨[],[],0⟩)) hy ?_ ?_ ?_
 exact wk h0 [0] (wR rfl (wR rfl wTn)) (vR rfl wVn) wLn
 clear hy h
 rintro w7 y h
 dsimp only[da] at h
 refine AW.seq (rs hx fun K hK=>?_)
 iterate 2 refine sa ?_
 refine s1 (bc a6) ?_
 refine sa ?_
 refine .nil (hK _ _ (cdh h rfl (fun A6 h=>?_) (fun A6 h=>?_)))
 refine AW.skip (AW.seq (AW.block (rs hx fun K hK=>?_)))
 iterate 2 refine sa ?_
 refine s1 va ?_
 obtain⟨tp,hx17,h⟩:=ah h
 refine s1 (xk [0] rfl (xt hx17) (fA (ao _) (fA (ao _) (fA (ao _) fAn))) (vR rfl wVn) wLn) ?_
 iterate 3 refine sa ?_
 refine s1 (d:=.pt 1 0) (bZ ax) ?_
 refine s0 (dX (ds':=[dI .i64 tp.1.vR,dI .i64 tp.1.vC,dL aj tp.1.vV]) ax) ?_
 refine sa ?_
 refine .nil (hK _ _ (rs hx fun K hK=>?_))
 refine s1 (d:=dG aR tp.1) (bS ax) ?_
 refine scb h sj fun oa h=>?_
 iterate 3 refine sa ?_
 refine s1 (bo (F:=aj.f cu) aD) ?_
 refine s0 (aO (b':=oa.1) (an.id _ _) aD) ?_
 refine sa ?_
 refine .nil (hK _ _ (AW.seq ?_))
 obtain⟨Dy,hy,h⟩:=ah h
 refine jn ((PE cx .normal (fun Dy=>[(1,.pt 0 0),(6,dI .i64 w7),(10,dI .i64 oa.2),(66,dB Dy)]) fun Dy=>⟨[(0,[dI .i64 fR.vR,dI .i64 fR.vC,dL aj fR.vV])],[],1⟩) Dy) ?_ ?_
 replace h:=hy
 refine rq hx fun K hK=>?_
 iterate 3 refine sa ?_
 rcases aZ (decide (oa.2≠(0:Int))) with vB|vB
 replace h:=a3 vB h
 iterate 3 refine aI rfl rfl vB ?_
 refine s1 (al vB) ?_
 refine .nil (hK _ _ ?_)
 cases h
 exact pe0 h0 [0]
 replace h:=a4 vB h
 refine g1 (d:=dG aj oa.1) vB (aF (an.id _ _) aD) ?_
 obtain⟨B9,Nw,h⟩:=ah h
 refine g1 vB (dP rfl (lS Nw) (by simp only[cD,dT,jZ,gj,eh,eC];exact bn _ _) (lA (eK _ _) lAn) (.inl rfl)) ?_
 refine ga vB ?_
 refine s1 (au vB) ?_
 refine .nil (hK _ _ ?_)
 cases h
 exact pe0 h0 [0]
 rintro ex tm' hp' ⟨rfl,hw⟩
 refine AW.weak hw (cdh h rfl (fun rk h=>?_) (fun rk h=>?_))
 refine ra hx ?_
 refine AW.ret ?_
 cases h
 refine PS.r ⟨by nofun,PS.l (PR.i ?_)⟩
 exact rv2
 refine AW.skip (rb hx ?_)
 cases h
 exact PS.l (pe0 h0 [0])
 refine AW.exit ?_
 try dsimp only
 try simp only[aM,reduceIte,Nat.reduceEqDiff,reduceCtorEq]
 cases h
 exact PS.r ⟨by nofun,PS.r (PE.i (wk h0 [] wTn wVn wLn))⟩
 rcases y with r|⟨⟩
 rintro ex tm' hp' ⟨rfl,hw⟩
 cases h
 exact hw
 rintro ex tm' hp' ⟨rfl,hw⟩
 try dsimp only
 try simp only[aM,reduceIte,Nat.reduceEqDiff,reduceCtorEq]
 refine AW.weak hw (ra hx ?_)
 refine AW.ret ?_
 cases h
 exact rv2
section
theorem BZ {R C:Nat}{a:c8}{b:av}(hR:R≤400)(hC:C≤400)(f:Nat→Nat→Nu)(hf:∀i k:Nat,i<R→k<C→lN (i:Int) (k:Int) a b=some (nv (f i k))):lY R C a b=some (ip R C (mkM R C f)):=by
 have L9:R*C≤400*400:=pY hR hC
 unfold lY
 rw[oW (R:=R) (C:=C) (by omega) f (by omega) (fun i hi acc uE=>?_) (fun l=>?_)]
 ·simp only[ab]
  rw[qJ (by rw[et];omega)]
  simp only[ab]
  unfold ip
  cases (mkM R C f).all aQ <;> rfl
 ·unfold mg
  dsimp only
  rw[bt _ _,qS (C:=C) (by omega) (f i) acc uE (fun k hk l=>?_) (fun l=>?_)]
  ·rfl
  ·unfold lL
   dsimp only
   rw[bt _ _,hf i k hi hk]
   rfl
  ·unfold lL
   dsimp only
   rw[bu _ _]
 ·unfold mg
  dsimp only
  rw[bu _ _]
theorem zR {R C:Nat}{a:av}(hR:R≤400)(hC:C≤400)(f:Nat→Nat→Nu)(hf:∀i k:Nat,i<R→k<C→fq (i:Int) (k:Int) a=some (nv (f i k))):ju R C a=some (ip R C (mkM R C f)):=by
 have L9:R*C≤400*400:=pY hR hC
 unfold ju
 rw[oW (R:=R) (C:=C) (by omega) f (by omega) (fun i hi acc uE=>?_) (fun l=>?_)]
 ·simp only[ab]
  rw[qJ (by rw[et];omega)]
  simp only[ab]
  unfold ip
  cases (mkM R C f).all aQ <;> rfl
 ·unfold iX
  dsimp only
  rw[bt _ _,qS (C:=C) (by omega) (f i) acc uE (fun k hk l=>?_) (fun l=>?_)]
  ·rfl
  ·unfold iD
   dsimp only
   rw[bt _ _,hf i k hi hk]
   rfl
  ·unfold iD
   dsimp only
   rw[bu _ _]
 ·unfold iX
  dsimp only
  rw[bu _ _]
abbrev lw(R C:Nat)(V:List Nu):Option (List Nu×List Pv):=mf R C C 0 0 V []
def ku(acc:List Pv):List Int:=acc.map fun p=>(p.col:Int)
theorem tG {R C:Nat}:∀{n k r:Nat} {V:List Nu} {acc:List Pv} {W:List Nu} {l:List Pv},mf R C n k r V acc=some (W,l)→l.length≤acc.length+n
 |0,_,_,_,_,_,_,h=>by
  unfold mf at h
  injection h with h
  injection h with h1 h2
  rw[←h2];omega
 |n+1,k,r,V,acc,W,l,h=>by
  unfold mf at h
  split at h
  ·split at h
   ·have:=tG h;omega
   ·split at h
    ·have:=tG h
     rw[eU] at this
     simp at this;omega
    ·cases h
  ·injection h with h
   injection h with h1 h2
   rw[←h2];omega
theorem xJ {R C:Nat}:∀{n k r:Nat} {V:List Nu} {acc:List Pv} {W:List Nu} {l:List Pv},acc.length=r→r≤R→mf R C n k r V acc=some (W,l)→l.length≤R
 |0,_,_,_,_,_,_,ha,hr,h=>by
  unfold mf at h
  injection h with h
  injection h with h1 h2
  rw[←h2];omega
 |n+1,k,r,V,acc,W,l,ha,hr,h=>by
  unfold mf at h
  split at h
  ·rename_i bI
   split at h
   ·exact xJ ha hr h
   ·split at h
    ·exact xJ (by rw[eU,ha];rfl) bI h
    ·cases h
  ·injection h with h
   injection h with h1 h2
   rw[←h2];omega
theorem D7 {R C:Nat}{V W:List Nu}{l:List Pv}(h:lw R C V=some (W,l)):l.length≤R:=xJ (r:=0) (acc:=[]) rfl (dU _) h
section
variable {V B:List Nu} {r c:Nat}
theorem ua(hr:r≤1000)(hc:c≤1000)(hV:V.length=r*c):ez (mS r c V)=some (yZ r c (lw r c V)):=by
 have L9:r*c≤1000*1000:=pY hr hc
 unfold ez
 rw[ay ⟨by show (0:Int)≤r;omega,by show (0:Int)≤c;omega,by show (r:Int)≤1000000;omega,by show (c:Int)≤1000000;omega,by show (r:Int).toNat*(c:Int).toNat≤1000000;rw[bH,bH];omega,by show (V.map nv).length=(r:Int).toNat*(c:Int).toNat;rw[eG,bH,bH];exact hV,okL_nv V⟩]
 show some (yZ (r:Int) (c:Int) (mf (r:Int).toNat (c:Int).toNat (c:Int).toNat 0 0 ((V.map nv).map tI) []))=_
 rw[map_nv,bH,bH]
theorem Jt {m:av}{acc:List Pv}(h:acc.length≤1000000):ce ⟨m,acc.map pvS⟩=some (ku acc):=by
 unfold ce
 have:=lz (b:=eb ⟨m,acc.map pvS⟩) (fun k=>(ku (acc.take k),(k:Int))) 0 acc.length (ku acc) (dU _) (fun k _ hk=>?_) ?_
 ·rw[show (ku (acc.take 0),((0:Nat):Int))=(([]:List Int),(0:Int)) from rfl] at this
  rw[this];rfl
 ·unfold eb
  dsimp only
  have e:((acc.map pvS)[k]!).vcol=((acc[k]).col:Int):=by
   rw[Br,de,ff hk];rfl
  have e2:ku (acc.take k)++[((acc[k]).col:Int)]=ku (acc.take (k+1)):=by
   unfold ku
   rw[List.take_succ,ff hk,nd];rfl
  rw[eG,bt _ _,aJ,bH,e,e2,aJ (by unfold ku;rw[eG,eL];omega),w64]
  rfl
 ·unfold eb
  dsimp only
  rw[eG,bu _ _,IV]
end
def zX(R C:Int)(V:List Nu):av×List Int×Int:=if aW R C V=0 then match lw R.toNat C.toNat V with
 |some (U,acc)=>(mS R C U,ku acc,0)
 |none=>(mZ,[],30) else (mZ,[],1)
theorem Hv {R C:Int}{V:List Nu}(hV:V.length≤1000000):ij (mS R C V)=some (zX R C V):=by
 unfold ij zX
 rw[nZ hV]
 simp only[ab]
 by_cases h1:aW R C V=0
 ·rw[ay h1]
  obtain⟨r,c,rfl,rfl,hm⟩:=eT.1 h1
  have h3:=hm.r
  have h4:=hm.c
  rw[h1,show (!decide ((0:Int)=0))=false by simp,kF,ua (by omega) (by omega) hm.len,bH,bH]
  simp only[ab]
  cases n6:lw r c V with
  |none=>rfl
  |some p=>
   obtain⟨U,acc⟩:=p
   have:=tG n6
   show bnd (ce ⟨mS r c U,acc.map pvS⟩) _=_
   rw[Jt (by simp at this;omega)];rfl
 ·rw[aA h1,show (!decide (aW R C V=0))=true by simp[h1],kT]
abbrev rZ:ak:=⟨⟨false,false,Vector.replicate 16 0⟩,⟨false,false,Vector.replicate 16 0⟩⟩
def jR(acc:List Pv):Int:=acc.foldl (fun s p=>if p.mov then -s else s) 1
def rJ(s:Int)(acc:List Pv):Nu:=acc.foldl (fun x p=>qM x p.by') (nOf s)
def detR(n:Nat)(o:Option (List Nu×List Pv)):ak×Int:=match o with
 |none=>(rZ,30)
 |some (_,acc)=>if acc.length<n then (nv (nOf 0),0) else if aQ (rJ (jR acc) acc) then (nv (rJ (jR acc) acc),0) else (rZ,30)
def EI(R C:Int)(V:List Nu):ak×Int:=if aW R C V=0∧R=C then detR R.toNat (lw R.toNat R.toNat V) else (rZ,1)
theorem D4(acc:List Pv)(s:Int)(h:s=1∨s=-1):acc.foldl (fun s p=>if p.mov then -s else s) s=1∨acc.foldl (fun s p=>if p.mov then -s else s) s=-1:=by
 induction acc generalizing s with
 |nil=>exact h
 |cons p acc ih=>
  rw[tV]
  refine ih _ ?_
  rcases h with rfl|rfl <;> cases p.mov <;> simp
theorem Ot {acc:List Pv}{k:Nat}(hk:k<acc.length):(acc.map pvS)[k]! =pvS acc[k]:=by
 rw[Br,de,ff hk];rfl
theorem Px {R C:Int}{V:List Nu}(hV:V.length≤1000000):jV (mS R C V)=some (EI R C V):=by
 unfold jV EI
 rw[nZ hV]
 simp only[ab,kOr]
 by_cases h0:aW R C V=0∧R=C
 ·rw[ay h0]
  obtain⟨h1,rfl⟩:=h0
  obtain⟨r,c,rfl,hc,hm⟩:=eT.1 h1
  obtain rfl:r=c:=by omega
  have h3:=hm.r
  rw[h1,show (!decide ((0:Int)=0)||decide ((r:Int)≠r))=false by simp,kF,ua (by omega) (by omega) hm.len,bH]
  simp only[ab]
  cases n6:lw r r V with
  |none=>rfl
  |some p=>
   obtain⟨U,acc⟩:=p
   have LD:=tG n6
   rw[List.length_nil,bq] at LD
   rw[show yZ (r:Int) (r:Int) (some (U,acc))=((⟨mS r r U,acc.map pvS⟩:c8),(0:Int)) from rfl]
   dsimp only
   rw[bu _ _ (by simp),eG]
   unfold detR
   by_cases hl:acc.length<r
   ·rw[bt _ _,uOf]
    dsimp only
    rw[ay hl];rfl
   ·rw[bu _ _]
    dsimp only
    rw[aA hl]
    have k1:=lz (b:=jz (⟨mS r r U,acc.map pvS⟩,0)) (fun k=>(jR (acc.take k),(k:Int))) 0 acc.length (jR acc) (dU _) (fun k _ hk=>?_) ?_
    ·rw[show (jR (acc.take 0),((0:Nat):Int))=((1:Int),(0:Int)) from rfl] at k1
     rw[k1]
     simp only[ab]
     have hs:=D4 acc 1 (.inl rfl)
     rw[uOf (by show -9223372036854775808≤jR acc;unfold jR;omega) (by show jR acc≤_;unfold jR;omega)]
     simp only[ab]
     have k2:=lz (b:=jy (⟨mS r r U,acc.map pvS⟩,0)) (fun k=>((k:Int),nv (rJ (jR acc) (acc.take k)))) 0 acc.length (nv (rJ (jR acc) acc)) (dU _) (fun k _ hk=>?_) ?_
     ·rw[show (((0:Nat):Int),nv (rJ (jR acc) (acc.take 0)))=((0:Int),nv (nOf (jR acc))) from rfl] at k2
      rw[k2]
      simp only[ab,JJ]
      cases aQ (rJ (jR acc) acc) <;> rfl
     ·unfold jy
      dsimp only
      rw[eG,bt _ _,aJ,bH,Ot hk]
      show bnd (dZ (nv (rJ (jR acc) (acc.take k))) (nv (acc[k]).by')) _=_
      rw[uMul]
      simp only[ab]
      rw[w64]
      have:rJ (jR acc) (acc.take (k+1))=qM (rJ (jR acc) (acc.take k)) (acc[k]).by':=by
       unfold rJ
       rw[List.take_succ,ff hk,IY];rfl
      rw[this];rfl
     ·unfold jy
      dsimp only
      rw[eG,bu _ _,IV]
    ·unfold jz
     dsimp only
     rw[eG,bt _ _,aJ,bH,Ot hk]
     have hs:=D4 (acc.take k) 1 (.inl rfl)
     have e2:jR (acc.take (k+1))=if (acc[k]).mov then -jR (acc.take k) else jR (acc.take k):=by
      unfold jR
      rw[List.take_succ,ff hk,IY];rfl
     rw[e2]
     show bnd (cnd (acc[k]).mov _ _) _=_
     have w1:i64.wrap (0 - jR (acc.take k))=-jR (acc.take k):=by
      rw[w64 (by unfold jR;omega) (by unfold jR;omega)];omega
     rw[w1,w64 (n:=(k:Int)+1)]
     cases (acc[k]).mov <;> rfl
    ·unfold jz
     dsimp only
     rw[eG,bu _ _,IV]
 ·rw[aA h0]
  have e:(!decide (aW R C V=0)||decide (R≠C))=true:=by
   by_cases a:aW R C V=0
   ·by_cases b:R=C
    ·exact absurd ⟨a,b⟩ h0
    ·simp[b]
   ·simp[a]
  rw[e,kT]
theorem B1 {l:List Int}(h:l.length≤1000000)(v:Int):cK l v=some (l.any fun x=>decide (v=x)):=by
 unfold cK gt
 have key:=z6 (b:=dQ l v) (n:=l.length) h (fun i=>decide (v=l[i]!)) (fun i hi=>by
  unfold dQ
  rw[bt _ _,aJ,bH]) (by
  unfold dQ
  rw[bu _ _])
 rw[KK l (fun x=>decide (v=x))] at key
 rcases key with⟨h1,h2⟩|⟨j,h1,h2⟩ <;> rw[h1,h2]
 ·rfl
 ·simp[bnd]
def solvR(c:Nat)(o:Option (List Nu×List Pv)):List ak×Int:=match o with
 |none=>([],30)
 |some (U,acc)=>if (ku acc).any (fun x=>decide ((c:Int)=x)) then ([],200) else if acc.length<c then ([],70) else (((List.range acc.length).map fun i=>U[i*(c+1)+c]!).map nv,0)
def F4(R C:Int)(A b:List Nu):List ak×Int:=if aW R C A=0∧(b.length:Int)=R∧b.all aQ=true then (if 200<C+1 then ([],2) else solvR C.toNat (lw R.toNat (C.toNat+1) (mkM R.toNat (C.toNat+1) (Bp C.toNat 1 A b)))) else ([],1)
theorem bes1 {r c:Nat}{A b:List Nu}(hm:MV r c A)(hb:b.length=r)(hg:b.all aQ=true):MV r 1 b:=⟨hm.r,by decide,by rw[hb,pE],hg⟩
theorem KH {r c c':Nat}{A B:List Nu}(hm:MV r c A)(ze:MV r c' B)(hc:(200:Int)<(c:Int)+(c':Int)):LP (r:Int) (c:Int) A (r:Int) (c':Int) B=(mZ,2):=by
 unfold LP
 rw[ay ⟨hm.chk,ze.chk,rfl⟩,ay hc]
theorem KG {r c c':Nat}{A B:List Nu}(hm:MV r c A)(ze:MV r c' B)(hc:¬(200:Int)<(c:Int)+(c':Int)):LP (r:Int) (c:Int) A (r:Int) (c':Int) B=(mS r ((c+c':Nat):Int) (mkM r (c+c') (Bp c c' A B)),0):=by
 unfold LP
 rw[ay ⟨hm.chk,ze.chk,rfl⟩,aA hc,show ((c:Int)+(c':Int))=((c+c':Nat):Int) by omega]
 simp only[bH]
 exact bes_ok hm ze
theorem Fj {R C:Int}{A b:List Nu}(hA:A.length≤1000000)(hb:b.length≤1000000):gS (mS R C A) (b.map nv)=some (F4 R C A b):=by
 unfold gS F4
 rw[nZ hA]
 simp only[ab,qJ hb,kOr,eG]
 by_cases h0:aW R C A=0∧(b.length:Int)=R∧b.all aQ=true
 ·rw[ay h0]
  obtain⟨h1,h2,h5⟩:=h0
  obtain⟨r,c,rfl,rfl,hm⟩:=eT.1 h1
  have h3:=hm.r
  have h4:=hm.c
  have Lw:=bes1 hm (by omega) h5
  rw[h1,h5,show (!decide ((0:Int)=0)||(decide ((b.length:Int)≠(r:Int))||!true))=false by simp[h2],kF]
  rw[show (⟨(r:Int),(1:Int),b.map nv⟩:av)=mS (r:Int) ((1:Nat):Int) b from rfl,Hw hA hb]
  by_cases hc:(200:Int)<(c:Int)+((1:Nat):Int)
  ·rw[KH hm Lw hc,ay (show (200:Int)<(c:Int)+1 by omega)];rfl
  ·rw[KG hm Lw hc,aA (show ¬(200:Int)<(c:Int)+1 by omega)]
   simp only[ab,bH]
   rw[bu _ _ (by simp),ua (by omega) (by omega) et]
   simp only[ab]
   cases n6:lw r (c+1) (mkM r (c+1) (Bp c 1 A b)) with
   |none=>rfl
   |some p=>
    obtain⟨U,acc⟩:=p
    have LD:=tG n6
    rw[List.length_nil,bq] at LD
    have hU:=m5 et n6
    have hle:acc.length≤r:=D7 n6
    have L9:r*(c+1)≤200*201:=pY h3 (by omega)
    show cnd (decide ((0:Int)≠0)) _ (bnd (ce ⟨mS r ((c+1:Nat):Int) U,acc.map pvS⟩) _)=_
    rw[bu _ _ (by simp),Jt (by omega)]
    simp only[ab]
    rw[B1 (by unfold ku;rw[eG];omega)]
    simp only[ab]
    unfold solvR
    dsimp only
    cases hany:(ku acc).any fun x=>decide ((c:Int)=x) with
    |true=>rfl
    |false=>
     rw[kF]
     show cnd (decide (((acc.map pvS).length:Int)<(c:Int))) _ (bnd (a5 (fF (mS r c A) (⟨mS r ((c+1:Nat):Int) U,acc.map pvS⟩,0)) (([]:List ak),(0:Int))) _)=_
     rw[eG]
     by_cases hl:acc.length<c
     ·rw[bt _ _,ay hl];rfl
     ·rw[bu _ _,aA hl]
      have key:=lz (b:=fF (mS r c A) (⟨mS r ((c+1:Nat):Int) U,acc.map pvS⟩,0)) (fun k=>(((List.range k).map fun i=>U[i*(c+1)+c]!).map nv,(k:Int))) 0 acc.length (((List.range acc.length).map fun i=>U[i*(c+1)+c]!).map nv) (dU _) (fun k _ hk=>?_) ?_
      ·rw[show (((List.range 0).map fun i=>U[i*(c+1)+c]!).map nv,((0:Nat):Int))=(([]:List ak),(0:Int)) from rfl] at key
       rw[key];rfl
      ·unfold fF
       dsimp only
       rw[eG,bt _ _,ub hU (by omega) (by omega) (by omega)]
       simp only[ab]
       rw[aJ (by simp;omega),w64,u7]
       simp
      ·unfold fF
       dsimp only
       rw[eG,bu _ _]
 ·rw[aA h0]
  have e:(!decide (aW R C A=0)||(decide ((b.length:Int)≠R)||!b.all aQ))=true:=by
   by_cases a:aW R C A=0
   ·by_cases d:(b.length:Int)=R
    ·by_cases e:b.all aQ=true
     ·exact absurd ⟨a,d,e⟩ h0
     ·simp only[Bool.not_eq_true] at e;simp[e]
    ·simp[d]
   ·simp[a]
  rw[e,kT]
end
end
end Go.Proofs.YtgfcnncojhkcoaaGreat
