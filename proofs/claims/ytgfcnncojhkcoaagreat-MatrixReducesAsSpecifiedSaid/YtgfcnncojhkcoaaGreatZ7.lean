/-
  Lemmas, part 7. Conditions: none.
-/
import Derived.Test.YtgfcnncojhkcoaaGreatZ6
set_option linter.all false
set_option maxRecDepth 100000
set_option maxHeartbeats 4000000
namespace Go.Proofs.YtgfcnncojhkcoaaGreat
open Go.RowKit Go.IntKind Tryz
noncomputable section
section
def pvS(p:Pv):nU:=⟨p.col,nv p.by',p.mov⟩
theorem slE_Pv(l:List Pv):slE yI l=slE bf (l.map pvS):=by
 unfold slE
 rw[bW,al_1]
 rfl
def BM(R C:Int)(o:Option (List Nu×List Pv)):dh×Int:=match o with
 |some (U,acc)=>(⟨⟨R,C,U.map nv⟩,acc.map pvS⟩,0)
 |none=>(⟨⟨0,0,[]⟩,[]⟩,30)
structure MatP(m:an):Prop where
 r0:0≤m.vR
 c0:0≤m.vC
 r1:m.vR≤1000000
 c1:m.vC≤1000000
 rc:m.vR.toNat*m.vC.toNat≤1000000
 len:m.vV.length=m.vR.toNat*m.vC.toNat
 ok:okL m.vV
open Classical in
def eW(m:an):Option (dh×Int):=
 if MatP m then some (BM m.vR m.vC (ms m.vR.toNat m.vC.toNat m.vC.toNat 0 0 (m.vV.map wu) [])) else none
theorem lY {bq:an}{r:dh×Int}(h:eW bq=some r):ax prog 63 [dG aH bq] (.tu [dG sx r.1,dI .i64 r.2]):=by
 unfold eW at h
 split at h
 ·rename_i hp
  obtain rfl:=d5 h
  obtain⟨h1,h2,h3,h4,h5,h6,h7⟩:=hp
  have hV:(bq.vV.map wu).length=bq.vR.toNat*bq.vC.toNat:=by rw[bW];exact h6
  have hw:=Pd hV h5 (by omega) (by omega)
  have e1:(.ag [dI .i64 (bq.vR.toNat:Int),dI .i64 (bq.vC.toNat:Int),.e (slE a9 (bq.vV.map wu))]:D)=dG aH bq:=by
   rw[KK,Jd h7,R7 h1,R7 h2]
   rfl
  rw[e1] at hw
  have e2:∀o:Option (List Nu×List Pv),redE bq.vR.toNat bq.vC.toNat o=[dG sx (BM bq.vR bq.vC o).1,dI .i64 (BM bq.vR bq.vC o).2]:=by
   intro o
   match o with
   |some (U,acc)=>
    show [D.ag [dI .i64 (bq.vR.toNat:Int),dI .i64 (bq.vC.toNat:Int),.e (slE a9 U),.e (slE yI acc)],dI .i64 0]=_
    rw[KK,slE_Pv,R7 h1,R7 h2]
    rfl
   |none=>rfl
  rw[e2] at hw
  exact hw
 ·cases h
open Classical in
def g8(l:List ai)(n:Int):Option (List ai):=match l with
 |[a]=>if okR a∧0≤n∧n≤1000000 then some (List.replicate n.toNat a) else none
 |_=>none
theorem xy {l r:List ai}{n:Int}(h:g8 l n=some r):HC prog 77 [dL ae l,dI .i64 n] ⟨[],[],0⟩ (.ow 1 0 36 r.length) ⟨[(1,dC ((cW ae).f r))],[],1+1⟩:=by
 unfold g8 at h
 split at h
 ·rename_i a
  split at h
  ·rename_i hp
   obtain rfl:=d5 h
   obtain⟨h1,h2,h3⟩:=hp
   have hw:=Rj (vs:=[]) (lv:=[]) (N:=0) (a:=wu a) (n:=n.toNat) (by omega)
   have e1:slE a9 [wu a]=slE ae [a]:=by rw[KK];show slE ae [nv (wu a)]=_;rw[GN h1]
   have e2:(cW a9).f (List.replicate n.toNat (wu a))=(cW ae).f (List.replicate n.toNat a):=by
    show (List.replicate n.toNat (wu a)).flatMap a9.f=(List.replicate n.toNat a).flatMap ae.f
    rw[show a9.f=fun x=>ae.f (nv x) from rfl]
    rw[←al_1,al_4,GN h1]
   rw[e1,e2,R7 h2] at hw
   rw[Bm]
   exact hw
  ·cases h
 ·cases h
end
section
theorem uAdd(x y:Nu):gJ (nv x) (nv y)=some (nv (Ob x y)):=by rw[I9];exact S1 x.2 y.2
theorem uMul(x y:Nu):fh (nv x) (nv y)=some (nv (sJ x y)):=by rw[C8];exact Mq x.2 y.2
theorem uNeg(x:Nu):na (nv x)=some (nv (I7 x)):=by rw[I6];exact S0 x.2
theorem uGood(x:Nu):ci (nv x)=some (ck x):=by rw[xe];exact mN x.2
theorem uSign(x:Nu):nM (nv x)=some (i9 x):=by rw[AS];exact SZ x.2
theorem uOf {n:Int}(h1:-9223372036854775808≤n:=by omega)(h2:n≤9223372036854775807:=by omega):e9 n=some (nv (nOf n)):=G_rOf h1 h2
theorem tAdd(x y:Nu):iD (nv x) (nv y)=some (nv (Ob x y)):=by rw[I9];exact SD x.2 y.2
theorem tMul(x y:Nu):eh (nv x) (nv y)=some (nv (sJ x y)):=by rw[C8];exact SC x.2 y.2
theorem tSub(x y:Nu):lw (nv x) (nv y)=some (nv (yz x y)):=by rw[I5];exact R_osub x.2 y.2
theorem tDiv(x y:Nu):lx (nv x) (nv y)=some (nv (wv x y)):=by rw[I8];exact R_odiv x.2 y.2
theorem tNeg(x:Nu):m7 (nv x)=some (nv (I7 x)):=by rw[I6];exact SA x.2
theorem tGood(x:Nu):ct (nv x)=some (ck x):=by rw[xe];exact oc x.2
theorem Pm(x:Nu):gA (nv x)=some (i9 x):=by rw[AS];exact R_osgn x.2
theorem tOf {n:Int}(h1:-9223372036854775808≤n:=by omega)(h2:n≤9223372036854775807:=by omega):e8 n=some (nv (nOf n)):=R_Of h1 h2
theorem oO {l:List Nu}{i:Nat}(h:i<l.length:=by omega):(l.map nv)[i]! =nv l[i]! :=by
 rw[DX,DX,fO,i8 h];rfl
theorem nv_eq {x y:Nu}:nv x=nv y↔x=y:=⟨fun h=>Subtype.ext h,fun h=>by rw[h]⟩
section
variable {R:Type}
theorem kOr(b x:Bool):cnd b (some true) (some x)=some (b||x):=by cases b <;> rfl
theorem kF(x y:Option R):cnd false x y=y:=rfl
theorem kT(x y:Option R):cnd true x y=x:=rfl
theorem w64 {n:Int}(h1:-9223372036854775808≤n:=by omega)(h2:n≤9223372036854775807:=by omega):i64.wrap n=n:=NM ⟨h1,h2⟩
theorem GQ {n:Nat}(hn:n≤1000000)(ok:Nat→Bool){b:Int→Option (Int⊕(Bool⊕Unit))}(h:∀i:Nat,i<n→b i=cnd (!ok i) (some (.inr (.inl false))) (some (.inl (i64.wrap ((i:Int)+(1:Int))))))(he:b n=some (.inr (.inr ()))):
  aK b (0:Int)=some (if (List.range n).all ok then .inr () else .inl false):=by
 have key:∀m i:Nat,i+m=n→aK b (i:Int)=some (if (List.range' i m).all ok then .inr () else .inl false):=by
  intro m
  induction m with
  |zero=>
       intro i hi;obtain rfl:i=n:=by omega
       exact cU he
  |succ m ih=>
   intro i hi
   have hb:=h i (by omega)
   rw[Hz,nZ]
   cases hk:ok i with
   |false=>
    rw[hk] at hb
    rw[cU (by rw[hb];rfl)];rfl
   |true=>
    rw[hk,w64] at hb
    rw[gR (by rw[hb];rfl)]
    exact ih (i+1) (by omega)
 rw[show ((0:Int))=((0:Nat):Int) from rfl,key n 0 (by omega),F7]
theorem CC {n:Nat}(hn:n≤1000000)(ok:Nat→Bool){b:Int→Option (Int⊕(Int⊕Unit))}(h:∀i:Nat,i<n→b i=cnd (ok i) (some (.inr (.inl (i:Int)))) (some (.inl (i64.wrap ((i:Int)+(1:Int))))))(he:b n=some (.inr (.inr ()))):
  (aK b (0:Int)=some (.inr ())∧(List.range n).any ok=false)∨∃j:Nat,aK b (0:Int)=some (.inl (j:Int))∧(List.range n).any ok=true:=by
 have key:∀m i:Nat,i+m=n→(aK b (i:Int)=some (.inr ())∧(List.range' i m).any ok=false)∨∃j:Nat,aK b (i:Int)=some (.inl (j:Int))∧(List.range' i m).any ok=true:=by
  intro m
  induction m with
  |zero=>
       intro i hi;obtain rfl:i=n:=by omega
       exact .inl ⟨cU he,rfl⟩
  |succ m ih=>
   intro i hi
   have hb:=h i (by omega)
   rw[Hz,List.any_cons]
   cases hk:ok i with
   |true=>
    rw[hk] at hb
    exact .inr ⟨i,cU (by rw[hb];rfl),rfl⟩
   |false=>
    rw[hk,w64] at hb
    rw[gR (show b (i:Int)=some (.inl (((i+1:Nat):Int))) by rw[hb];rfl)]
    exact ih (i+1) (by omega)
 rw[F7]
 exact key n 0 (by omega)
end
theorem Nn {α:Type}[Inhabited α](l:List α)(p:α→Bool):(List.range l.length).all (fun i=>p l[i]!)=l.all p:=by
 rw[Ee,cb,cb]
 constructor
 ·intro h x hx
  obtain⟨i,hi,rfl⟩:=List.getElem_of_mem hx
  have:=h i (B1.2 hi)
  rwa[DX,i8 hi] at this
 ·intro h i hi
  have hi:=B1.1 hi
  rw[DX,i8 hi]
  exact h _ (B0 hi)
theorem Nm {α:Type}[Inhabited α](l:List α)(p:α→Bool):(List.range l.length).any (fun i=>p l[i]!)=l.any p:=by
 have:=Nn l (fun x=>!p x)
 rw[←Bool.not_inj_iff,←Sb,←Sb] at this
 simpa using this
theorem u3 {C:Nat}(hC:C≤1000000){b:Int×List ai→Option ((Int×List ai)⊕List ai)}(f:Nat→Nu)(acc:List Nu)(hl:acc.length+C≤1000000)
  (h:∀k:Nat,k<C→∀l:List ai,b ((k:Int),l)=gd ((l++[nv (f k)]).length*136≤140737488355328) (some (.inl (i64.wrap ((k:Int)+(1:Int)),l++[nv (f k)]))))
  (he:∀l,b ((C:Int),l)=some (.inr l)):aK b ((0:Int),acc.map nv)=some ((acc++(List.range C).map f).map nv):=by
 have:=db (b:=b) (fun k=>((k:Int),(acc++(List.range k).map f).map nv)) 0 C ((acc++(List.range C).map f).map nv) (bY _) (fun k _ hk=>?_) (he _)
 ·simpa using this
 ·rw[h k hk,aB (by simp;omega),w64,yk]
  simp
theorem ur {R C:Nat}(hR:R≤1000000){b:Int×List ai→Option ((Int×List ai)⊕List ai)}(f:Nat→Nat→Nu)(hl:R*C≤1000000)
  (h:∀i:Nat,i<R→∀acc:List Nu,acc.length+C≤1000000→b ((i:Int),acc.map nv)=some (.inl (i64.wrap ((i:Int)+(1:Int)),(acc++(List.range C).map (f i)).map nv)))
  (he:∀l,b ((R:Int),l)=some (.inr l)):aK b ((0:Int),([]:List ai))=some ((mkM R C f).map nv):=by
 have:=db (b:=b) (fun i=>((i:Int),(mkM i C f).map nv)) 0 R ((mkM R C f).map nv) (bY _) (fun i _ hi=>?_) (he _)
 ·simpa[mkM] using this
 ·have:(i+1)*C≤R*C:=bJ _ hi
  rw[h i hi _ (by rw[bL];rw[jS] at this;omega),w64,←uo]
  rfl
end
def oz(bS:ai):Option Bool:=bnd (ci bS) fun x1=>some (!x1)
theorem Cb {bS:ai}{r:Bool}(h:oz bS=some r):ax prog 103 [dG ae bS] (dB r):=by
 refine bn (rs:=[.tmp 2]) (fun cx hx h0=>?_) func103
 unfold oz at h
 refine ra hx ?_
 refine rs hx fun K hK=>?_
 refine s1 (d:=dG ae bS) (nq (aX.id _ _) aC) ?_
 refine scb h gz fun x1 h=>?_
 iterate 2 refine sa ?_
 refine .nil (hK _ _ (AW.ret ?_))
 cases h
 exact rv1
def be(qB:List ai):Int→Option (Int⊕(Int⊕Unit)):=fun aU=>cnd (decide (aU<((qB).length:Int))) (gd (0≤aU∧aU<((qB).length:Int)) (bnd (oz ((qB)[(aU).toNat]!)) fun x4=>cnd x4 (some (.inr (.inl aU))) (some (.inl (i64.wrap (aU+(1:Int))))))) (some (.inr (.inr ())))
def bM(qB:List ai):Option Int:=bnd (aK (be qB) (0:Int)) fun y7=>match y7 with| .inl r=>some r| .inr ()=>some (-1:Int)
theorem jd {qB:List ai}{r:Int}(h:bM qB=some r):ax prog 135 [dL ae qB,.e (.lit (.func (.func 103) #[] #[]))] (dI .i64 r):=by
 refine bn (rs:=[.tmp 4]) (fun cx hx h0=>?_) func135
 unfold bM at h
 refine ra hx ?_
 refine AW.seq (ra hx ?_)
 refine AW.block ?_
 obtain⟨y,hy,h⟩:=ah h
 refine lp (S:=Int) (X:=Int⊕Unit) (fun aU=>[(0,dL ae qB),(1,.e (.lit (.func (.func 103) #[] #[]))),(7,dI .i64 ((qB).length:Int)),(8,dI .i64 aU)]) (fun aU=>⟨[],[],0⟩) (PS (PR [.tmp 4] fun r=>dI .i64 r) (PE cx (.exit 0) (fun ()=>[]) fun ()=>⟨[],[],0⟩)) hy ?_ ?_ ?_
 exact wk h0 [] (wR rfl (wR rfl (wR rfl (wR rfl wTn)))) wVn wLn
 clear hy h
 rintro aU y h
 dsimp only[be] at h
 refine ra hx ?_
 refine AW.seq (cdh h rfl (fun eF h=>?_) (fun eF h=>?_))
 refine AW.skip (AW.seq (AW.block (ra hx ?_)))
 refine rs hx fun K hK=>?_
 iterate 3 refine sa ?_
 obtain⟨rk,h⟩:=am h
 have xE:(aU).toNat<(qB).length:=by omega
 refine s1 (mL rk aF aC) ?_
 refine s1 (d:=dG ae ((qB)[(aU).toNat]!)) (gk (c:=ae) (l:=qB) (n:=(aU).toNat) (o:=0) aC xE (cH _ _ rfl)) ?_
 refine scb h Cb fun x4 h=>?_
 refine .nil (hK _ _ (cdh h rfl (fun lZ h=>?_) (fun lZ h=>?_)))
 refine ra hx ?_
 refine AW.ret ?_
 cases h
 refine PS.r ⟨by nofun,PS.l (PR.i ?_)⟩
 exact rv1
 refine AW.skip (rb hx ?_)
 cases h
 exact PS.l (pe0 h0 [])
 refine AW.exit ?_
 try dsimp only
 try simp only[bP,reduceIte,Nat.reduceEqDiff,reduceCtorEq]
 cases h
 exact PS.r ⟨by nofun,PS.r (PE.i (wk h0 [] wTn wVn wLn))⟩
 rcases y with r|⟨⟩
 rintro ex tm' hp' ⟨rfl,hw⟩
 cases h
 exact hw
 rintro ex tm' hp' ⟨rfl,hw⟩
 try dsimp only
 try simp only[bP,reduceIte,Nat.reduceEqDiff,reduceCtorEq]
 refine AW.weak hw (ra hx ?_)
 refine AW.ret ?_
 cases h
 exact rv1
def bA(qB:List ai):Option Bool:=bnd (bM qB) fun x1=>some (decide ((0:Int)≤x1))
theorem iI {qB:List ai}{r:Bool}(h:bA qB=some r):ax prog 102 [dL ae qB,.e (.lit (.func (.func 103) #[] #[]))] (dB r):=by
 refine bn (rs:=[.tmp 4]) (fun cx hx h0=>?_) func102
 unfold bA at h
 refine ra hx ?_
 refine rs hx fun K hK=>?_
 iterate 2 refine sa ?_
 refine scb h jd fun x1 h=>?_
 iterate 2 refine sa ?_
 refine .nil (hK _ _ (AW.ret ?_))
 cases h
 exact rv1
def er(io:List ai):Option Bool:=bnd (bA io) fun x1=>some (!x1)
theorem mj {io:List ai}{r:Bool}(h:er io=some r):ax prog 58 [dL ae io] (dB r):=by
 refine bn (rs:=[.tmp 2]) (fun cx hx h0=>?_) func58
 unfold er at h
 refine ra hx ?_
 refine rs hx fun K hK=>?_
 refine sa ?_
 refine scb h iI fun x1 h=>?_
 iterate 2 refine sa ?_
 refine .nil (hK _ _ (AW.ret ?_))
 cases h
 exact rv1
def fK(bq:an):Option Int:=bnd (S:=Bool) (cnd (decide (bq.vR<(0:Int))) (some (true)) (cnd (decide ((200:Int)<bq.vR)) (some (true)) (cnd (decide (bq.vC<(0:Int))) (some (true)) (some (decide ((200:Int)<bq.vC)))))) fun jT=>cnd jT (some (2:Int)) (bnd (S:=Bool) (cnd (decide (((bq.vV).length:Int)≠(i64.wrap (bq.vR*bq.vC)))) (some (true)) (bnd (er bq.vV) fun x7=>some (!x7))) fun mg=>cnd mg (some (1:Int)) (some (0:Int)))
theorem CS {bq:an}{r:Int}(h:fK bq=some r):ax prog 11 [dG aH bq] (dI .i64 r):=by
 refine bn (rs:=[.tmp 2]) (fun cx hx h0=>?_) func11
 unfold fK at h
 refine rs hx fun K hK=>?_
 refine s1 (d:=.pt 0 0) fC ?_
 refine sa ?_
 refine .nil (hK _ _ (AW.seq (AW.block (AW.seq ?_))))
 obtain⟨jT,hy,h⟩:=ah h
 refine jn ((PE cx .normal (fun jT=>[(1,.pt 0 0),(3,dB jT)]) fun jT=>⟨[(0,[dI .i64 bq.vR,dI .i64 bq.vC,dL ae bq.vV])],[],1⟩) jT) ?_ ?_
 replace h:=hy
 refine rq hx fun K hK=>?_
 refine sa ?_
 refine s1 (bK bh) ?_
 iterate 2 refine sa ?_
 rcases ee (decide (bq.vR<(0:Int))) with eF|eF
 replace h:=ek eF h
 iterate 3 refine aT rfl rfl eF ?_
 refine s1 (au eF) ?_
 refine sa ?_
 iterate 3 refine aT rfl rfl rfl ?_
 refine s1 (au rfl) ?_
 refine sa ?_
 iterate 3 refine aT rfl rfl rfl ?_
 refine s1 (au rfl) ?_
 refine sa ?_
 refine .nil (hK _ _ ?_)
 cases h
 exact pe0 h0 [0]
 replace h:=eo eF h
 refine ga eF ?_
 refine g1 eF (bK bh) ?_
 refine ga eF ?_
 refine s1 (aN eF) ?_
 refine sa ?_
 rcases ee (decide ((200:Int)<bq.vR)) with tz|tz
 replace h:=ek tz h
 iterate 3 refine aT rfl rfl tz ?_
 refine s1 (au tz) ?_
 refine sa ?_
 iterate 3 refine aT rfl rfl rfl ?_
 refine s1 (au rfl) ?_
 refine sa ?_
 refine .nil (hK _ _ ?_)
 cases h
 exact pe0 h0 [0]
 replace h:=eo tz h
 refine ga tz ?_
 refine g1 tz (bK bh) ?_
 refine ga tz ?_
 refine s1 (aN tz) ?_
 refine sa ?_
 rcases ee (decide (bq.vC<(0:Int))) with cj|cj
 replace h:=ek cj h
 iterate 3 refine aT rfl rfl cj ?_
 refine s1 (au cj) ?_
 refine sa ?_
 refine .nil (hK _ _ ?_)
 cases h
 exact pe0 h0 [0]
 replace h:=eo cj h
 refine ga cj ?_
 refine g1 cj (bK bh) ?_
 refine ga cj ?_
 refine s1 (aN cj) ?_
 refine sa ?_
 refine .nil (hK _ _ ?_)
 cases h
 exact pe0 h0 [0]
 rintro ex tm' hp' ⟨rfl,hw⟩
 refine AW.weak hw (cdh h rfl (fun pI h=>?_) (fun pI h=>?_))
 refine ra hx ?_
 refine AW.ret ?_
 cases h
 exact rv1
 refine AW.seq ?_
 obtain⟨mg,hy,h⟩:=ah h
 refine jn ((PE cx .normal (fun mg=>[(22,dB mg)]) fun mg=>⟨[],[],0⟩) mg) ?_ ?_
 replace h:=hy
 refine rq hx fun K hK=>?_
 refine sa ?_
 refine s1 (bK aF) ?_
 iterate 2 refine sa ?_
 refine s1 (bK bh) ?_
 refine sa ?_
 refine s1 (bK bh) ?_
 iterate 3 refine sa ?_
 rcases ee (decide (((bq.vV).length:Int)≠(i64.wrap (bq.vR*bq.vC)))) with lZ|lZ
 replace h:=ek lZ h
 iterate 4 refine aT rfl rfl lZ ?_
 refine s1 (au lZ) ?_
 refine sa ?_
 refine .nil (hK _ _ ?_)
 cases h
 exact pe0 h0 []
 replace h:=eo lZ h
 refine ga lZ ?_
 refine g1 lZ (bK aF) ?_
 obtain⟨x7,K1,h⟩:=ah h
 refine g1 lZ (wZ rfl (mj K1) rfl (lA (ao _) lAn) (.inl rfl)) ?_
 refine ga lZ ?_
 refine s1 (aN lZ) ?_
 refine sa ?_
 refine .nil (hK _ _ ?_)
 cases h
 exact pe0 h0 []
 rintro ex tm' hp' ⟨rfl,hw⟩
 refine AW.weak hw (cdh h rfl (fun jw h=>?_) (fun jw h=>?_))
 refine ra hx ?_
 refine AW.ret ?_
 cases h
 exact rv1
 refine AW.skip (ra hx ?_)
 refine AW.ret ?_
 cases h
 exact rv1
def kK(bq:an):Option Bool:=bnd (fK bq) fun x1=>some (decide (x1≠(0:Int)))
theorem Av {bq:an}{r:Bool}(h:kK bq=some r):ax prog 107 [dG aH bq] (dB r):=by
 refine bn (rs:=[.tmp 2]) (fun cx hx h0=>?_) func107
 unfold kK at h
 refine rs hx fun K hK=>?_
 refine s1 (d:=.pt 0 0) fC ?_
 refine sa ?_
 refine .nil (hK _ _ (rs hx fun K hK=>?_))
 refine s1 (d:=dG aH bq) (bp aq) ?_
 refine scb h CS fun x1 h=>?_
 iterate 2 refine sa ?_
 refine .nil (hK _ _ (AW.ret ?_))
 cases h
 exact rv1
def aV(qB:List an):Int→Option (Int⊕(Int⊕Unit)):=fun aU=>cnd (decide (aU<((qB).length:Int))) (gd (0≤aU∧aU<((qB).length:Int)) (bnd (kK ((qB)[(aU).toNat]!)) fun x4=>cnd x4 (some (.inr (.inl aU))) (some (.inl (i64.wrap (aU+(1:Int))))))) (some (.inr (.inr ())))
def bi(qB:List an):Option Int:=bnd (aK (aV qB) (0:Int)) fun y7=>match y7 with| .inl r=>some r| .inr ()=>some (-1:Int)
theorem i7 {qB:List an}{r:Int}(h:bi qB=some r):ax prog 136 [dL aH qB,.e (.lit (.func (.func 107) #[] #[]))] (dI .i64 r):=by
 refine bn (rs:=[.tmp 4]) (fun cx hx h0=>?_) func136
 unfold bi at h
 refine ra hx ?_
 refine AW.seq (ra hx ?_)
 refine AW.block ?_
 obtain⟨y,hy,h⟩:=ah h
 refine lp (S:=Int) (X:=Int⊕Unit) (fun aU=>[(0,dL aH qB),(1,.e (.lit (.func (.func 107) #[] #[]))),(7,dI .i64 ((qB).length:Int)),(8,dI .i64 aU)]) (fun aU=>⟨[],[],0⟩) (PS (PR [.tmp 4] fun r=>dI .i64 r) (PE cx (.exit 0) (fun ()=>[]) fun ()=>⟨[],[],0⟩)) hy ?_ ?_ ?_
 exact wk h0 [] (wR rfl (wR rfl (wR rfl (wR rfl wTn)))) wVn wLn
 clear hy h
 rintro aU y h
 dsimp only[aV] at h
 refine ra hx ?_
 refine AW.seq (cdh h rfl (fun eF h=>?_) (fun eF h=>?_))
 refine AW.skip (AW.seq (AW.block (ra hx ?_)))
 refine rs hx fun K hK=>?_
 iterate 3 refine sa ?_
 obtain⟨rk,h⟩:=am h
 have xE:(aU).toNat<(qB).length:=by omega
 refine s1 (mL rk uT aq) ?_
 refine s1 (d:=dG aH ((qB)[(aU).toNat]!)) (gk (c:=aH) (l:=qB) (n:=(aU).toNat) (o:=0) aq xE (cH _ _ rfl)) ?_
 refine scb h Av fun x4 h=>?_
 refine .nil (hK _ _ (cdh h rfl (fun lZ h=>?_) (fun lZ h=>?_)))
 refine ra hx ?_
 refine AW.ret ?_
 cases h
 refine PS.r ⟨by nofun,PS.l (PR.i ?_)⟩
 exact rv1
 refine AW.skip (rb hx ?_)
 cases h
 exact PS.l (pe0 h0 [])
 refine AW.exit ?_
 try dsimp only
 try simp only[bP,reduceIte,Nat.reduceEqDiff,reduceCtorEq]
 cases h
 exact PS.r ⟨by nofun,PS.r (PE.i (wk h0 [] wTn wVn wLn))⟩
 rcases y with r|⟨⟩
 rintro ex tm' hp' ⟨rfl,hw⟩
 cases h
 exact hw
 rintro ex tm' hp' ⟨rfl,hw⟩
 try dsimp only
 try simp only[bP,reduceIte,Nat.reduceEqDiff,reduceCtorEq]
 refine AW.weak hw (ra hx ?_)
 refine AW.ret ?_
 cases h
 exact rv1
def bc(qB:List an):Option Bool:=bnd (bi qB) fun x1=>some (decide ((0:Int)≤x1))
theorem ik {qB:List an}{r:Bool}(h:bc qB=some r):ax prog 106 [dL aH qB,.e (.lit (.func (.func 107) #[] #[]))] (dB r):=by
 refine bn (rs:=[.tmp 4]) (fun cx hx h0=>?_) func106
 unfold bc at h
 refine ra hx ?_
 refine rs hx fun K hK=>?_
 iterate 2 refine sa ?_
 refine scb h i7 fun x1 h=>?_
 iterate 2 refine sa ?_
 refine .nil (hK _ _ (AW.ret ?_))
 cases h
 exact rv1
def cm(io:List an):Option Bool:=bnd (bc io) fun x1=>some (!x1)
theorem iN {io:List an}{r:Bool}(h:cm io=some r):ax prog 62 [dL aH io] (dB r):=by
 refine bn (rs:=[.tmp 2]) (fun cx hx h0=>?_) func62
 unfold cm at h
 refine ra hx ?_
 refine rs hx fun K hK=>?_
 refine sa ?_
 refine scb h ik fun x1 h=>?_
 iterate 2 refine sa ?_
 refine .nil (hK _ _ (AW.ret ?_))
 cases h
 exact rv1
def ib(sv:Int)(cR:Int):Option ai:=cnd (decide (sv=cR)) (bnd (e9 (1:Int)) fun x2=>some x2) (bnd (e9 (0:Int)) fun x4=>some x4)
theorem rQ {sv:Int}{cR:Int}{r:ai}(h:ib sv cR=some r):ax prog 95 [dI .i64 sv,dI .i64 cR] (dG ae r):=by
 refine bn (rs:=[.cell 4 34]) (fun cx hx h0=>?_) func95
 unfold ib at h
 refine rs hx fun K hK=>?_
 refine s1 (lB (F:=ae.f co) aC) ?_
 refine .nil (hK _ _ (AW.seq (ra hx ?_)))
 refine cdh h rfl (fun eF h=>?_) (fun eF h=>?_)
 refine rs hx fun K hK=>?_
 refine scb h lH fun x2 h=>?_
 refine s0 (ig (b':=x2) (aX.id _ _) aC) ?_
 refine .nil (hK _ _ (AW.ret ?_))
 cases h
 exact rv1
 refine AW.skip (rs hx fun K hK=>?_)
 refine scb h lH fun x4 h=>?_
 refine s0 (ig (b':=x4) (aX.id _ _) aC) ?_
 refine .nil (hK _ _ (AW.ret ?_))
 cases h
 exact rv1
def dv(cG:Int)(aG:Int):Int×(List ai)→Option ((Int×(List ai))⊕((List ai))):=fun (dX,ce)=>cnd (decide (dX<cG)) (bnd (ib aG dX) fun x3=>gd ((ce++[x3]).length*136≤140737488355328) (some (.inl (i64.wrap (dX+(1:Int)),ce++[x3])))) (some (.inr ce))
def dP(dJ:Int)(cG:Int):Int×(List ai)→Option ((Int×(List ai))⊕((List ai))):=fun (aG,aS)=>cnd (decide (aG<dJ)) (bnd (aK (dv cG aG) ((0:Int),aS)) fun dT=>some (.inl (i64.wrap (aG+(1:Int)),dT))) (some (.inr aS))
def cV(dJ:Int)(cG:Int):Option (an×Int):=bnd (aK (dP dJ cG) ((0:Int),([]:List ai))) fun aE=>bnd (er aE) fun x8=>cnd (!x8) (some ((⟨(0:Int),(0:Int),([]:List ai)⟩:an),(30:Int))) (some ((⟨dJ,cG,aE⟩:an),(0:Int)))
theorem qi {dJ:Int}{cG:Int}{r:an×Int}(h:cV dJ cG=some r):ax prog 73 [dI .i64 dJ,dI .i64 cG,.e (.lit (.func (.func 95) #[] #[]))] (.tu [dG aH r.1,dI .i64 r.2]):=by
 refine bn (rs:=[.cell 6 24,.tmp 7]) (fun cx hx h0=>?_) func73
 unfold cV at h
 refine rs hx fun K hK=>?_
 refine s1 (d:=.pt 0 0) (aO aq) ?_
 refine sa ?_
 refine .nil (hK _ _ (rs hx fun K hK=>?_))
 iterate 2 refine sa ?_
 refine s1 (d:=.ag [dI .i64 dJ,dI .i64 cG,dN]) (aR aq) ?_
 refine s1 (d:=.pt 1 0) (aO aq) ?_
 refine s0 (bu (ds':=[dI .i64 dJ,dI .i64 cG,dN]) aq) ?_
 refine .nil (hK _ _ (AW.seq (ra hx ?_)))
 refine AW.block ?_
 obtain⟨aE,hy,h⟩:=ah h
 refine lp (S:=Int×(List ai)) (X:=(List ai)) (fun (aG,aS)=>[(1,dI .i64 cG),(2,.e (.lit (.func (.func 95) #[] #[]))),(6,.pt 0 0),(8,.pt 1 0),(14,dI .i64 dJ),(15,dI .i64 aG)]) (fun (aG,aS)=>⟨[(0,[dI .i64 (0:Int),dI .i64 (0:Int),dN]),(1,[dI .i64 dJ,dI .i64 cG,dO 2 ae aS])],[(2,(aS).length,36,34)],3⟩) (PE cx (.exit 0) (fun aE=>[(6,.pt 0 0),(8,.pt 1 0)]) fun aE=>⟨[(0,[dI .i64 (0:Int),dI .i64 (0:Int),dN]),(1,[dI .i64 dJ,dI .i64 cG,dO 2 ae aE])],[(2,(aE).length,36,34)],3⟩) hy ?_ ?_ ?_
 exact Wk.trans (Wk.nilOwn (ds':=[dI .i64 dJ,dI .i64 cG,dO 2 ae ([]:List ai)]) 1 2 34 36) (wk h0 [0,1,2] (wR rfl (wR rfl (wR rfl (wR rfl (wR rfl (wR rfl wTn)))))) (vR rfl (vR rfl wVn)) (wL rfl rfl wLn))
 clear hy h
 rintro⟨aG,aS⟩ y h
 dsimp only[dP] at h
 refine ra hx ?_
 refine AW.seq (cdh h rfl (fun eF h=>?_) (fun eF h=>?_))
 refine AW.skip (AW.seq (AW.block ?_))
 iterate 2 refine ra hx ?_
 refine AW.block ?_
 obtain⟨dT,hy,h⟩:=ah h
 refine lp (S:=Int×(List ai)) (X:=(List ai)) (fun (dX,ce)=>[(1,dI .i64 cG),(2,.e (.lit (.func (.func 95) #[] #[]))),(6,.pt 0 0),(8,.pt 1 0),(9,dI .i64 aG),(14,dI .i64 dJ),(15,dI .i64 aG),(18,dI .i64 cG),(19,dI .i64 dX)]) (fun (dX,ce)=>⟨[(0,[dI .i64 (0:Int),dI .i64 (0:Int),dN]),(1,[dI .i64 dJ,dI .i64 cG,dO 2 ae ce])],[(2,(ce).length,36,34)],3⟩) (PE cx (.exit 2) (fun dT=>[(1,dI .i64 cG),(2,.e (.lit (.func (.func 95) #[] #[]))),(6,.pt 0 0),(8,.pt 1 0),(14,dI .i64 dJ),(15,dI .i64 aG)]) fun dT=>⟨[(0,[dI .i64 (0:Int),dI .i64 (0:Int),dN]),(1,[dI .i64 dJ,dI .i64 cG,dO 2 ae dT])],[(2,(dT).length,36,34)],3⟩) hy ?_ ?_ ?_
 exact wk h0 [0,1,2] (wR rfl (wR rfl (wR rfl (wR rfl (wR rfl (wR rfl (wR rfl (wR rfl (wR rfl wTn))))))))) (vR rfl (vR rfl wVn)) (wL rfl rfl wLn)
 clear hy h
 rintro⟨dX,ce⟩ y h
 dsimp only[dv] at h
 refine ra hx ?_
 refine AW.seq (cdh h rfl (fun tz h=>?_) (fun tz h=>?_))
 refine AW.skip (AW.seq (AW.block (ra hx ?_)))
 obtain⟨x3,GV,h⟩:=ah h
 obtain⟨FQ,h⟩:=am h
 refine jn (PE cx .normal (fun (_:Unit)=>[(1,dI .i64 cG),(2,.e (.lit (.func (.func 95) #[] #[]))),(6,.pt 0 0),(8,.pt 1 0),(9,dI .i64 aG),(14,dI .i64 dJ),(15,dI .i64 aG),(18,dI .i64 cG),(19,dI .i64 dX)]) (fun (_:Unit)=>⟨[(0,[dI .i64 (0:Int),dI .i64 (0:Int),dN]),(1,[dI .i64 dJ,dI .i64 cG,dO 2 ae (ce++[x3])])],[(2,(ce++[x3]).length,36,34)],3⟩) ()) ?_ ?_
 refine dw (DW.split 1 5 (by decide) ?_ ?_)
 refine dwg [] [0,1,2,3,4,5,6,7,8,9] hx (by kernel_rfl) (by kernel_rfl) (by kernel_rfl) fun K hK=>?_
 dsimp only[dt,lf,li,List.map]
 refine sa ?_
 refine s1 (bK aF) ?_
 iterate 3 refine sa ?_
 refine sc (rQ GV) ?_
 refine s1 (mM ([x3]:List ai) ae aF aC) ?_
 refine s1 (d:=dO 2 ae (ce++[x3])) (eD aF aC FQ) ?_
 refine sa ?_
 refine s0 (bu (ds':=[dI .i64 dJ,dI .i64 cG,dO 2 ae (ce++[x3])]) aF) ?_
 exact .nil (hK _ _ (pe0 h0 [0,1,2]))
 refine dwg [] [0,2,3,4,5,1,6,7,8,9] hx (by kernel_rfl) (by kernel_rfl) (by kernel_rfl) fun K hK=>?_
 dsimp only[dt,lf,li,List.map]
 iterate 4 refine sa ?_
 refine sc (rQ GV) ?_
 refine s1 (bK aF) ?_
 refine s1 (mM ([x3]:List ai) ae aF aC) ?_
 refine s1 (d:=dO 2 ae (ce++[x3])) (eD aF aC FQ) ?_
 refine sa ?_
 refine s0 (bu (ds':=[dI .i64 dJ,dI .i64 cG,dO 2 ae (ce++[x3])]) aF) ?_
 exact .nil (hK _ _ (pe0 h0 [0,1,2]))
 rintro ex tm' hp' ⟨rfl,hw⟩
 refine AW.weak hw (rb hx ?_)
 cases h
 exact PS.l (pe0 h0 [0,1,2])
 refine AW.exit ?_
 try dsimp only
 try simp only[bP,reduceIte,Nat.reduceEqDiff,reduceCtorEq]
 cases h
 exact PS.r ⟨by nofun,PE.i (wk h0 [0,1,2] (wR rfl (wR rfl (wR rfl (wR rfl (wR rfl (wR rfl wTn)))))) (vR rfl (vR rfl wVn)) (wL rfl rfl wLn))⟩
 rintro ex tm' hp' ⟨rfl,hw⟩
 try dsimp only
 try simp only[bP,reduceIte,Nat.reduceEqDiff,reduceCtorEq]
 refine AW.weak hw (rb hx ?_)
 cases h
 exact PS.l (pe0 h0 [0,1,2])
 refine AW.exit ?_
 try dsimp only
 try simp only[bP,reduceIte,Nat.reduceEqDiff,reduceCtorEq]
 cases h
 exact PS.r ⟨by nofun,PE.i (wk h0 [0,1,2] (wR rfl (wR rfl wTn)) (vR rfl (vR rfl wVn)) (wL rfl rfl wLn))⟩
 rintro ex tm' hp' ⟨rfl,hw⟩
 try dsimp only
 try simp only[bP,reduceIte,Nat.reduceEqDiff,reduceCtorEq]
 refine AW.weak hw (AW.seq (rs hx fun K hK=>?_))
 refine sa ?_
 refine s1 (bK aF) ?_
 refine scb h mj fun x8 h=>?_
 refine sa ?_
 refine .nil (hK _ _ (cdh h rfl (fun jw h=>?_) (fun jw h=>?_)))
 refine rs hx fun K hK=>?_
 refine s1 (d:=.ag [dI .i64 (0:Int),dI .i64 (0:Int),dN]) (aR aq) ?_
 refine s0 (bu (ds':=[dI .i64 (0:Int),dI .i64 (0:Int),dN]) aq) ?_
 refine sa ?_
 refine .nil (hK _ _ (AW.ret ?_))
 cases h
 exact dm.mk2 (bN (es:=[dI .i64 (0:Int),dI .i64 (0:Int),dN]) rfl aq rfl rfl (ltb rfl) (leb rfl) rfl (cK rfl (.inr ⟨_,_,(et (wc (bI _) (wc (bI _) (wc (mW rfl) wcn)))),(ao _),⟨rfl,rfl⟩,rfl⟩)))
 refine AW.skip (rs hx fun K hK=>?_)
 refine s1 (d:=.ag [dI .i64 dJ,dI .i64 cG,dO 2 ae aE]) (bp aq) ?_
 refine s0 (bu (ds':=[dI .i64 dJ,dI .i64 cG,dO 2 ae aE]) aq) ?_
 refine sa ?_
 refine .nil (hK _ _ (AW.ret ?_))
 cases h
 exact dm.mk2 (bN (es:=[dI .i64 dJ,dI .i64 cG,dO 2 ae aE]) rfl aq rfl rfl (ltb rfl) (leb rfl) rfl (cK rfl (.inr ⟨_,_,(et (wc (bI _) (wc (bI _) (wc (tT _) wcn)))),(ao _),⟨rfl,rfl⟩,rfl⟩)))
def gT(bF:Int):Option an:=bnd (S:=Bool) (cnd (decide (bF<(0:Int))) (some (true)) (some (decide ((200:Int)<bF)))) fun a8=>cnd a8 (some (⟨(0:Int),(0:Int),([]:List ai)⟩:an)) (bnd (cV bF bF) fun x4=>some x4.1)
theorem tj {bF:Int}{r:an}(h:gT bF=some r):ax prog 43 [dI .i64 bF] (dG aH r):=by
 refine bn (rs:=[.cell 2 24]) (fun cx hx h0=>?_) func43
 unfold gT at h
 refine rs hx fun K hK=>?_
 refine s1 (d:=.pt 0 0) (aO aq) ?_
 refine .nil (hK _ _ ?_)
 iterate 2 refine AW.seq ?_
 obtain⟨a8,hy,h⟩:=ah h
 refine jn ((PE cx .normal (fun a8=>[(0,dI .i64 bF),(2,.pt 0 0),(10,dB a8)]) fun a8=>⟨[(0,[dI .i64 (0:Int),dI .i64 (0:Int),dN])],[],1⟩) a8) ?_ ?_
 replace h:=hy
 refine rq hx fun K hK=>?_
 iterate 3 refine sa ?_
 rcases ee (decide (bF<(0:Int))) with eF|eF
 replace h:=ek eF h
 iterate 2 refine aT rfl rfl eF ?_
 refine s1 (au eF) ?_
 refine .nil (hK _ _ ?_)
 cases h
 exact pe0 h0 [0]
 replace h:=eo eF h
 iterate 2 refine ga eF ?_
 refine s1 (aN eF) ?_
 refine .nil (hK _ _ ?_)
 cases h
 exact pe0 h0 [0]
 rintro ex tm' hp' ⟨rfl,hw⟩
 refine AW.weak hw (cdh h rfl (fun cj h=>?_) (fun cj h=>?_))
 refine rs hx fun K hK=>?_
 refine s1 (d:=.ag [dI .i64 (0:Int),dI .i64 (0:Int),dN]) (aR aq) ?_
 refine s0 (bu (ds':=[dI .i64 (0:Int),dI .i64 (0:Int),dN]) aq) ?_
 refine .nil (hK _ _ (AW.ret ?_))
 cases h
 exact dm.mk1 (bN (es:=[dI .i64 (0:Int),dI .i64 (0:Int),dN]) rfl aq rfl rfl (ltb rfl) (leb rfl) rfl (.inr (.inr ⟨_,(et (wc (bI _) (wc (bI _) (wc (mW rfl) wcn)))),rfl,rfl⟩)))
 refine AW.skip (rs hx fun K hK=>?_)
 iterate 2 refine sa ?_
 refine scb h qi fun x4 h=>?_
 iterate 3 refine sa ?_
 refine s1 (d:=.pt 1 0) (aO aq) ?_
 refine s0 (bu (ds':=[dI .i64 x4.1.vR,dI .i64 x4.1.vC,dL ae x4.1.vV]) aq) ?_
 refine sa ?_
 refine .nil (hK _ _ (rs hx fun K hK=>?_))
 refine s1 (d:=dG aH x4.1) (bp aq) ?_
 refine s0 (bu (ds':=[dI .i64 x4.1.vR,dI .i64 x4.1.vC,dL ae x4.1.vV]) aq) ?_
 refine .nil (hK _ _ (AW.ret ?_))
 cases h
 exact dm.mk1 (bN (es:=(aH.f x4.1).map .e) rfl aq rfl rfl (ltb rfl) (leb rfl) rfl (.inr (.inr ⟨_,(ao _),rfl,rfl⟩)))
def cY(bq:an)(sv:Int)(cR:Int):Option ai:=gd (0≤i64.wrap ((i64.wrap (sv*bq.vC))+cR)∧i64.wrap ((i64.wrap (sv*bq.vC))+cR)<((bq.vV).length:Int)) (bnd (some ((bq.vV)[(i64.wrap ((i64.wrap (sv*bq.vC))+cR)).toNat]!)) fun x3=>some x3)
theorem ln {bq:an}{sv:Int}{cR:Int}{r:ai}(h:cY bq sv cR=some r):ax prog 75 [dG aH bq,dI .i64 sv,dI .i64 cR] (dG ae r):=by
 refine bn (rs:=[.cell 6 34]) (fun cx hx h0=>?_) func75
 unfold cY at h
 refine rs hx fun K hK=>?_
 refine s1 (d:=.pt 0 0) fC ?_
 refine s1 (lB (F:=ae.f co) aC) ?_
 refine .nil (hK _ _ (rs hx fun K hK=>?_))
 refine sa ?_
 refine s1 (bK aF) ?_
 iterate 2 refine sa ?_
 refine s1 (bK bh) ?_
 iterate 3 refine sa ?_
 obtain⟨zQ,h⟩:=am h
 have Le:(i64.wrap ((i64.wrap (sv*bq.vC))+cR)).toNat<(bq.vV).length:=by omega
 refine s1 (mL zQ aF aC) ?_
 refine s1 (d:=dG ae ((bq.vV)[(i64.wrap ((i64.wrap (sv*bq.vC))+cR)).toNat]!)) (gk (c:=ae) (l:=bq.vV) (n:=(i64.wrap ((i64.wrap (sv*bq.vC))+cR)).toNat) (o:=0) aC Le (cH _ _ rfl)) ?_
 obtain⟨x3,GV,h⟩:=ah h
 replace GV:=d5 GV
 refine s0 (fq (b':=(bq.vV)[(i64.wrap ((i64.wrap (sv*bq.vC))+cR)).toNat]!) (aX.id _ _) aC GV) ?_
 refine .nil (hK _ _ (AW.ret ?_))
 cases h
 exact rv1
def qI(sv:Int)(cR:Int)(dU:an)(kb:an):Option ai:=bnd (cY dU sv cR) fun x1=>bnd (cY kb sv cR) fun x3=>bnd (gJ x1 x3) fun x5=>some x5
def n5(cG:Int)(dU:an)(kb:an)(aG:Int):Int×(List ai)→Option ((Int×(List ai))⊕((List ai))):=fun (dX,ce)=>cnd (decide (dX<cG)) (bnd (qI aG dX dU kb) fun x3=>gd ((ce++[x3]).length*136≤140737488355328) (some (.inl (i64.wrap (dX+(1:Int)),ce++[x3])))) (some (.inr ce))
def oG(dJ:Int)(cG:Int)(dU:an)(kb:an):Int×(List ai)→Option ((Int×(List ai))⊕((List ai))):=fun (aG,aS)=>cnd (decide (aG<dJ)) (bnd (aK (n5 cG dU kb aG) ((0:Int),aS)) fun dT=>some (.inl (i64.wrap (aG+(1:Int)),dT))) (some (.inr aS))
def rM(dJ:Int)(cG:Int)(dU:an)(kb:an):Option (an×Int):=bnd (aK (oG dJ cG dU kb) ((0:Int),([]:List ai))) fun aE=>bnd (er aE) fun x8=>cnd (!x8) (some ((⟨(0:Int),(0:Int),([]:List ai)⟩:an),(30:Int))) (some ((⟨dJ,cG,aE⟩:an),(0:Int)))
def zT(a6:an)(aZ:an):Option (an×Int):=bnd (S:=Bool) (bnd (cm [a6,aZ]) fun x1=>cnd (!x1) (some (true)) (cnd (decide (a6.vR≠aZ.vR)) (some (true)) (some (decide (a6.vC≠aZ.vC))))) fun a8=>cnd a8 (some ((⟨(0:Int),(0:Int),([]:List ai)⟩:an),(1:Int))) (bnd (rM a6.vR a6.vC a6 aZ) fun x7=>some (x7.1,x7.2))
def jQ(sv:Int)(cR:Int)(dU:an)(kb:an):Int×ai→Option ((Int×ai)⊕ai):=fun (aW,qy)=>cnd (decide (aW<dU.vC)) (bnd (cY dU sv aW) fun fU=>bnd (cY kb aW cR) fun qz=>bnd (fh fU qz) fun uL=>bnd (gJ qy uL) fun pk=>some (.inl (i64.wrap (aW+(1:Int)),pk))) (some (.inr qy))
def nN(sv:Int)(cR:Int)(dU:an)(kb:an):Option ai:=cnd (decide (dU.vC=(0:Int))) (bnd (e9 (0:Int)) fun x2=>some x2) (bnd (cY dU sv (0:Int)) fun x4=>bnd (cY kb (0:Int) cR) fun x6=>bnd (fh x4 x6) fun x8=>bnd (aK (jQ sv cR dU kb) ((1:Int),x8)) fun fS=>some fS)
def nb(cG:Int)(dU:an)(kb:an)(aG:Int):Int×(List ai)→Option ((Int×(List ai))⊕((List ai))):=fun (dX,ce)=>cnd (decide (dX<cG)) (bnd (nN aG dX dU kb) fun x3=>gd ((ce++[x3]).length*136≤140737488355328) (some (.inl (i64.wrap (dX+(1:Int)),ce++[x3])))) (some (.inr ce))
def n6(dJ:Int)(cG:Int)(dU:an)(kb:an):Int×(List ai)→Option ((Int×(List ai))⊕((List ai))):=fun (aG,aS)=>cnd (decide (aG<dJ)) (bnd (aK (nb cG dU kb aG) ((0:Int),aS)) fun dT=>some (.inl (i64.wrap (aG+(1:Int)),dT))) (some (.inr aS))
def qH(dJ:Int)(cG:Int)(dU:an)(kb:an):Option (an×Int):=bnd (aK (n6 dJ cG dU kb) ((0:Int),([]:List ai))) fun aE=>bnd (er aE) fun x8=>cnd (!x8) (some ((⟨(0:Int),(0:Int),([]:List ai)⟩:an),(30:Int))) (some ((⟨dJ,cG,aE⟩:an),(0:Int)))
def zS(a6:an)(aZ:an):Option (an×Int):=bnd (S:=Bool) (bnd (cm [a6,aZ]) fun x1=>cnd (!x1) (some (true)) (some (decide (a6.vC≠aZ.vR)))) fun a8=>cnd a8 (some ((⟨(0:Int),(0:Int),([]:List ai)⟩:an),(1:Int))) (bnd (qH a6.vR aZ.vC a6 aZ) fun x6=>some (x6.1,x6.2))
def ic(sv:Int)(cR:Int)(dU:an)(kb:an):Option ai:=cnd (decide (cR<dU.vC)) (bnd (cY dU sv cR) fun x2=>some x2) (bnd (cY kb sv (i64.wrap (cR - dU.vC))) fun x4=>some x4)
theorem rR {sv:Int}{cR:Int}{dU:an}{kb:an}{r:ai}(h:ic sv cR dU kb=some r):HC prog 98 [dI .i64 sv,dI .i64 cR,.pt 0 0,.pt 1 0] ⟨[(0,[dI .i64 dU.vR,dI .i64 dU.vC,dL ae dU.vV]),(1,[dI .i64 kb.vR,dI .i64 kb.vC,dL ae kb.vV])],[],2⟩ (dG ae r) ⟨[(0,[dI .i64 dU.vR,dI .i64 dU.vC,dL ae dU.vV]),(1,[dI .i64 kb.vR,dI .i64 kb.vC,dL ae kb.vV])],[],2⟩:=by
 refine HC.ofX (rs:=[.cell 6 34]) tok func98 rfl rfl (b7 rfl) rfl (fun cx hx h1=>?_)
 have h0:cx.hp0.next=2:=by rw[h1]
 simp only[fj,Nat.reduceAdd,bB]
 unfold ic at h
 refine rs hx fun K hK=>?_
 refine s1 (lB (F:=ae.f co) aC) ?_
 refine .nil (hK _ _ (AW.seq (rs hx fun K hK=>?_)))
 iterate 2 refine sa ?_
 refine s1 (bK bh) ?_
 refine sa ?_
 refine .nil (hK _ _ (cdh h rfl (fun eF h=>?_) (fun eF h=>?_)))
 refine rs hx fun K hK=>?_
 refine s1 (d:=dG aH dU) (bp aq) ?_
 iterate 2 refine sa ?_
 refine scb h ln fun x2 h=>?_
 refine s0 (ig (b':=x2) (aX.id _ _) aC) ?_
 refine .nil (hK _ _ (AW.ret ?_))
 cases h
 exact⟨_,ws rfl aC rfl rfl (ltb rfl) (ae.h _) (rfl),qg.of_wk (by rw[hx];exact b7 rfl) (wkN h0 [] (wG rfl (ao _) wTn) (vR rfl (vR rfl wVn)) wLn)⟩
 refine AW.skip (rs hx fun K hK=>?_)
 refine s1 (d:=dG aH kb) (bp aq) ?_
 iterate 3 refine sa ?_
 refine s1 (bK bh) ?_
 refine sa ?_
 refine scb h ln fun x4 h=>?_
 refine s0 (ig (b':=x4) (aX.id _ _) aC) ?_
 refine .nil (hK _ _ (AW.ret ?_))
 cases h
 exact⟨_,ws rfl aC rfl rfl (ltb rfl) (ae.h _) (rfl),qg.of_wk (by rw[hx];exact b7 rfl) (wkN h0 [] (wG rfl (ao _) wTn) (vR rfl (vR rfl wVn)) wLn)⟩
def jN(cG:Int)(dU:an)(kb:an)(aG:Int):Int×(List ai)→Option ((Int×(List ai))⊕((List ai))):=fun (dX,ce)=>cnd (decide (dX<cG)) (bnd (ic aG dX dU kb) fun x3=>gd ((ce++[x3]).length*136≤140737488355328) (some (.inl (i64.wrap (dX+(1:Int)),ce++[x3])))) (some (.inr ce))
def ko(dJ:Int)(cG:Int)(dU:an)(kb:an):Int×(List ai)→Option ((Int×(List ai))⊕((List ai))):=fun (aG,aS)=>cnd (decide (aG<dJ)) (bnd (aK (jN cG dU kb aG) ((0:Int),aS)) fun dT=>some (.inl (i64.wrap (aG+(1:Int)),dT))) (some (.inr aS))
def kN(dJ:Int)(cG:Int)(dU:an)(kb:an):Option (an×Int):=bnd (aK (ko dJ cG dU kb) ((0:Int),([]:List ai))) fun aE=>bnd (er aE) fun x8=>cnd (!x8) (some ((⟨(0:Int),(0:Int),([]:List ai)⟩:an),(30:Int))) (some ((⟨dJ,cG,aE⟩:an),(0:Int)))
theorem Ay {dJ:Int}{cG:Int}{dU:an}{kb:an}{r:an×Int}(h:kN dJ cG dU kb=some r):HC prog 73 [dI .i64 dJ,dI .i64 cG,.fn 98 [0,1]] ⟨[(0,[dI .i64 dU.vR,dI .i64 dU.vC,dL ae dU.vV]),(1,[dI .i64 kb.vR,dI .i64 kb.vC,dL ae kb.vV])],[],2⟩ (.tu [dG aH r.1,dI .i64 r.2]) ⟨[(0,[dI .i64 dU.vR,dI .i64 dU.vC,dL ae dU.vV]),(1,[dI .i64 kb.vR,dI .i64 kb.vC,dL ae kb.vV])],[],2⟩:=by
 refine HC.ofX (rs:=[.cell 6 24,.tmp 7]) tok func73 rfl rfl (b7 rfl) rfl (fun cx hx h1=>?_)
 have h0:cx.hp0.next=2:=by rw[h1]
 simp only[fj,Nat.reduceAdd,bB]
 unfold kN at h
 refine rs hx fun K hK=>?_
 refine s1 (d:=.pt 2 0) (aO aq) ?_
 refine sa ?_
 refine .nil (hK _ _ (rs hx fun K hK=>?_))
 iterate 2 refine sa ?_
 refine s1 (d:=.ag [dI .i64 dJ,dI .i64 cG,dN]) (aR aq) ?_
 refine s1 (d:=.pt 3 0) (aO aq) ?_
 refine s0 (bu (ds':=[dI .i64 dJ,dI .i64 cG,dN]) aq) ?_
 refine .nil (hK _ _ (AW.seq (ra hx ?_)))
 refine AW.block ?_
 obtain⟨aE,hy,h⟩:=ah h
 refine lp (S:=Int×(List ai)) (X:=(List ai)) (fun (aG,aS)=>[(1,dI .i64 cG),(2,.fn 98 [0,1]),(6,.pt 2 0),(8,.pt 3 0),(14,dI .i64 dJ),(15,dI .i64 aG)]) (fun (aG,aS)=>⟨[(0,[dI .i64 dU.vR,dI .i64 dU.vC,dL ae dU.vV]),(1,[dI .i64 kb.vR,dI .i64 kb.vC,dL ae kb.vV]),(2,[dI .i64 (0:Int),dI .i64 (0:Int),dN]),(3,[dI .i64 dJ,dI .i64 cG,dO 4 ae aS])],[(4,(aS).length,36,34)],5⟩) (PE cx (.exit 0) (fun aE=>[(6,.pt 2 0),(8,.pt 3 0)]) fun aE=>⟨[(0,[dI .i64 dU.vR,dI .i64 dU.vC,dL ae dU.vV]),(1,[dI .i64 kb.vR,dI .i64 kb.vC,dL ae kb.vV]),(2,[dI .i64 (0:Int),dI .i64 (0:Int),dN]),(3,[dI .i64 dJ,dI .i64 cG,dO 4 ae aE])],[(4,(aE).length,36,34)],5⟩) hy ?_ ?_ ?_
 exact Wk.trans (Wk.nilOwn (ds':=[dI .i64 dJ,dI .i64 cG,dO 4 ae ([]:List ai)]) 3 2 34 36) (wkN h0 [2,3,4] (wR rfl (wR rfl (wR rfl (wR rfl (wR rfl (wR rfl wTn)))))) (vR rfl (vR rfl (vR rfl (vR rfl wVn)))) (wL rfl rfl wLn))
 clear hy h
 rintro⟨aG,aS⟩ y h
 dsimp only[ko] at h
 refine ra hx ?_
 refine AW.seq (cdh h rfl (fun eF h=>?_) (fun eF h=>?_))
 refine AW.skip (AW.seq (AW.block ?_))
 iterate 2 refine ra hx ?_
 refine AW.block ?_
 obtain⟨dT,hy,h⟩:=ah h
 refine lp (S:=Int×(List ai)) (X:=(List ai)) (fun (dX,ce)=>[(1,dI .i64 cG),(2,.fn 98 [0,1]),(6,.pt 2 0),(8,.pt 3 0),(9,dI .i64 aG),(14,dI .i64 dJ),(15,dI .i64 aG),(18,dI .i64 cG),(19,dI .i64 dX)]) (fun (dX,ce)=>⟨[(0,[dI .i64 dU.vR,dI .i64 dU.vC,dL ae dU.vV]),(1,[dI .i64 kb.vR,dI .i64 kb.vC,dL ae kb.vV]),(2,[dI .i64 (0:Int),dI .i64 (0:Int),dN]),(3,[dI .i64 dJ,dI .i64 cG,dO 4 ae ce])],[(4,(ce).length,36,34)],5⟩) (PE cx (.exit 2) (fun dT=>[(1,dI .i64 cG),(2,.fn 98 [0,1]),(6,.pt 2 0),(8,.pt 3 0),(14,dI .i64 dJ),(15,dI .i64 aG)]) fun dT=>⟨[(0,[dI .i64 dU.vR,dI .i64 dU.vC,dL ae dU.vV]),(1,[dI .i64 kb.vR,dI .i64 kb.vC,dL ae kb.vV]),(2,[dI .i64 (0:Int),dI .i64 (0:Int),dN]),(3,[dI .i64 dJ,dI .i64 cG,dO 4 ae dT])],[(4,(dT).length,36,34)],5⟩) hy ?_ ?_ ?_
 exact wkN h0 [2,3,4] (wR rfl (wR rfl (wR rfl (wR rfl (wR rfl (wR rfl (wR rfl (wR rfl (wR rfl wTn))))))))) (vR rfl (vR rfl (vR rfl (vR rfl wVn)))) (wL rfl rfl wLn)
 clear hy h
 rintro⟨dX,ce⟩ y h
 dsimp only[jN] at h
 refine ra hx ?_
 refine AW.seq (cdh h rfl (fun tz h=>?_) (fun tz h=>?_))
 refine AW.skip (AW.seq (AW.block (ra hx ?_)))
 obtain⟨x3,GV,h⟩:=ah h
 obtain⟨FQ,h⟩:=am h
 refine jn (PE cx .normal (fun (_:Unit)=>[(1,dI .i64 cG),(2,.fn 98 [0,1]),(6,.pt 2 0),(8,.pt 3 0),(9,dI .i64 aG),(14,dI .i64 dJ),(15,dI .i64 aG),(18,dI .i64 cG),(19,dI .i64 dX)]) (fun (_:Unit)=>⟨[(0,[dI .i64 dU.vR,dI .i64 dU.vC,dL ae dU.vV]),(1,[dI .i64 kb.vR,dI .i64 kb.vC,dL ae kb.vV]),(2,[dI .i64 (0:Int),dI .i64 (0:Int),dN]),(3,[dI .i64 dJ,dI .i64 cG,dO 4 ae (ce++[x3])])],[(4,(ce++[x3]).length,36,34)],5⟩) ()) ?_ ?_
 refine dw (DW.split 1 5 (by decide) ?_ ?_)
 refine dwg [] [0,1,2,3,4,5,6,7,8,9] hx (by kernel_rfl) (by kernel_rfl) (by kernel_rfl) fun K hK=>?_
 dsimp only[dt,lf,li,List.map]
 refine sa ?_
 refine s1 (bK aF) ?_
 iterate 3 refine sa ?_
 refine s1 (uE [0,1] rfl (rR GV) (fA (ao _) (fA (ao _) (fA (ao _) (fA (ao _) fAn)))) (vR rfl (vR rfl wVn)) wLn (rvE (rvE rvN)) (yG _ _ _) (FD _ _)) ?_
 refine s1 (mM ([x3]:List ai) ae aF aC) ?_
 refine s1 (d:=dO 4 ae (ce++[x3])) (eD aF aC FQ) ?_
 refine sa ?_
 refine s0 (bu (ds':=[dI .i64 dJ,dI .i64 cG,dO 4 ae (ce++[x3])]) aF) ?_
 exact .nil (hK _ _ (PE.i (wkN h0 [2,3,4] (wR rfl (wR rfl (wR rfl (wR rfl (wR rfl (wR rfl (wR rfl (wR rfl (wR rfl wTn))))))))) (vR rfl (vR rfl (vR rfl (vR rfl wVn)))) (wL rfl rfl wLn))))
 refine dwg [] [0,2,3,4,5,1,6,7,8,9] hx (by kernel_rfl) (by kernel_rfl) (by kernel_rfl) fun K hK=>?_
 dsimp only[dt,lf,li,List.map]
 iterate 4 refine sa ?_
 refine s1 (uE [0,1] rfl (rR GV) (fA (ao _) (fA (ao _) (fA (ao _) (fA (ao _) fAn)))) (vR rfl (vR rfl wVn)) wLn (rvE (rvE rvN)) (yG _ _ _) (FD _ _)) ?_
 refine s1 (bK aF) ?_
 refine s1 (mM ([x3]:List ai) ae aF aC) ?_
 refine s1 (d:=dO 4 ae (ce++[x3])) (eD aF aC FQ) ?_
 refine sa ?_
 refine s0 (bu (ds':=[dI .i64 dJ,dI .i64 cG,dO 4 ae (ce++[x3])]) aF) ?_
 exact .nil (hK _ _ (PE.i (wkN h0 [2,3,4] (wR rfl (wR rfl (wR rfl (wR rfl (wR rfl (wR rfl (wR rfl (wR rfl (wR rfl wTn))))))))) (vR rfl (vR rfl (vR rfl (vR rfl wVn)))) (wL rfl rfl wLn))))
 rintro ex tm' hp' ⟨rfl,hw⟩
 refine AW.weak hw (rb hx ?_)
 cases h
 exact PS.l (PE.i (wkN h0 [2,3,4] (wR rfl (wR rfl (wR rfl (wR rfl (wR rfl (wR rfl (wR rfl (wR rfl (wR rfl wTn))))))))) (vR rfl (vR rfl (vR rfl (vR rfl wVn)))) (wL rfl rfl wLn)))
 refine AW.exit ?_
 try dsimp only
 try simp only[bP,reduceIte,Nat.reduceEqDiff,reduceCtorEq]
 cases h
 exact PS.r ⟨by nofun,PE.i (wkN h0 [2,3,4] (wR rfl (wR rfl (wR rfl (wR rfl (wR rfl (wR rfl wTn)))))) (vR rfl (vR rfl (vR rfl (vR rfl wVn)))) (wL rfl rfl wLn))⟩
 rintro ex tm' hp' ⟨rfl,hw⟩
 try dsimp only
 try simp only[bP,reduceIte,Nat.reduceEqDiff,reduceCtorEq]
 refine AW.weak hw (rb hx ?_)
 cases h
 exact PS.l (PE.i (wkN h0 [2,3,4] (wR rfl (wR rfl (wR rfl (wR rfl (wR rfl (wR rfl wTn)))))) (vR rfl (vR rfl (vR rfl (vR rfl wVn)))) (wL rfl rfl wLn)))
 refine AW.exit ?_
 try dsimp only
 try simp only[bP,reduceIte,Nat.reduceEqDiff,reduceCtorEq]
 cases h
 exact PS.r ⟨by nofun,PE.i (wkN h0 [2,3,4] (wR rfl (wR rfl wTn)) (vR rfl (vR rfl (vR rfl (vR rfl wVn)))) (wL rfl rfl wLn))⟩
 rintro ex tm' hp' ⟨rfl,hw⟩
 try dsimp only
 try simp only[bP,reduceIte,Nat.reduceEqDiff,reduceCtorEq]
 refine AW.weak hw (AW.seq (rs hx fun K hK=>?_))
 refine sa ?_
 refine s1 (bK aF) ?_
 refine scb h mj fun x8 h=>?_
 refine sa ?_
 refine .nil (hK _ _ (cdh h rfl (fun jw h=>?_) (fun jw h=>?_)))
 refine rs hx fun K hK=>?_
 refine s1 (d:=.ag [dI .i64 (0:Int),dI .i64 (0:Int),dN]) (aR aq) ?_
 refine s0 (bu (ds':=[dI .i64 (0:Int),dI .i64 (0:Int),dN]) aq) ?_
 refine sa ?_
 refine .nil (hK _ _ (AW.ret ?_))
 cases h
 exact⟨_,bN (es:=[dI .i64 (0:Int),dI .i64 (0:Int),dN]) rfl aq rfl rfl (ltb rfl) (leb rfl) rfl (cK rfl (rfl)),qg.of_wk2 (by rw[hx];exact b7 rfl) (wkN h0 [] (wG rfl (et (wc (bI _) (wc (bI _) (wc (mW rfl) wcn)))) (wR rfl wTn)) (vR rfl (vR rfl wVn)) wLn)⟩
 refine AW.skip (rs hx fun K hK=>?_)
 refine s1 (d:=.ag [dI .i64 dJ,dI .i64 cG,dO 4 ae aE]) (bp aq) ?_
 refine s0 (bu (ds':=[dI .i64 dJ,dI .i64 cG,dO 4 ae aE]) aq) ?_
 refine sa ?_
 refine .nil (hK _ _ (AW.ret ?_))
 cases h
 exact⟨_,bN (es:=[dI .i64 dJ,dI .i64 cG,dO 4 ae aE]) rfl aq rfl rfl (ltb rfl) (leb rfl) rfl (cK rfl (rfl)),qg.of_wk2 (by rw[hx];exact b7 rfl) (wkN h0 [] (wG rfl (et (wc (bI _) (wc (bI _) (wc (tT _) wcn)))) (wR rfl wTn)) (vR rfl (vR rfl wVn)) wLn)⟩
def jo(a6:an)(aZ:an):Option (an×Int):=bnd (S:=Bool) (bnd (cm [a6,aZ]) fun x1=>cnd (!x1) (some (true)) (some (decide (a6.vR≠aZ.vR)))) fun jT=>cnd jT (some ((⟨(0:Int),(0:Int),([]:List ai)⟩:an),(1:Int))) (cnd (decide ((200:Int)<(i64.wrap (a6.vC+aZ.vC)))) (some ((⟨(0:Int),(0:Int),([]:List ai)⟩:an),(2:Int))) (bnd (kN a6.vR (i64.wrap (a6.vC+aZ.vC)) a6 aZ) fun x7=>some (x7.1,x7.2)))
theorem vG {a6:an}{aZ:an}{r:an×Int}(h:jo a6 aZ=some r):ax prog 51 [dG aH a6,dG aH aZ] (.tu [dG aH r.1,dI .i64 r.2]):=by
 refine bn (rs:=[.cell 4 24,.tmp 5]) (fun cx hx h0=>?_) func51
 unfold jo at h
 refine rs hx fun K hK=>?_
 refine s1 (d:=.pt 0 0) fC ?_
 refine s1 (d:=.pt 1 0) fC ?_
 refine s1 (d:=.pt 2 0) (aO aq) ?_
 refine sa ?_
 refine .nil (hK _ _ (AW.seq (AW.block (AW.seq ?_))))
 obtain⟨jT,hy,h⟩:=ah h
 refine jn ((PE cx .normal (fun jT=>[(2,.pt 0 0),(3,.pt 1 0),(4,.pt 2 0),(6,dB jT)]) fun jT=>⟨[(0,[dI .i64 a6.vR,dI .i64 a6.vC,dL ae a6.vV]),(1,[dI .i64 aZ.vR,dI .i64 aZ.vC,dL ae aZ.vV]),(2,[dI .i64 (0:Int),dI .i64 (0:Int),dN])],[],3⟩) jT) ?_ ?_
 replace h:=hy
 refine rq hx fun K hK=>?_
 refine s1 (d:=dG aH a6) (bp aq) ?_
 refine s1 (d:=dG aH aZ) (bp aq) ?_
 refine s1 (d:=dO 3 aH [a6,aZ]) (jc uT aq) ?_
 refine scb h iN fun x1 h=>?_
 iterate 2 refine sa ?_
 rcases ee (!x1) with cj|cj
 replace h:=ek cj h
 iterate 5 refine aT rfl rfl cj ?_
 refine s1 (au cj) ?_
 refine sa ?_
 refine .nil (hK _ _ ?_)
 cases h
 exact pe0 h0 [0,1,2]
 replace h:=eo cj h
 refine ga cj ?_
 refine g1 cj (bK bh) ?_
 refine ga cj ?_
 refine g1 cj (bK bh) ?_
 refine ga cj ?_
 refine s1 (aN cj) ?_
 refine sa ?_
 refine .nil (hK _ _ ?_)
 cases h
 exact pe0 h0 [0,1,2]
 rintro ex tm' hp' ⟨rfl,hw⟩
 refine AW.weak hw (cdh h rfl (fun pI h=>?_) (fun pI h=>?_))
 refine rs hx fun K hK=>?_
 refine s1 (d:=.ag [dI .i64 (0:Int),dI .i64 (0:Int),dN]) (aR aq) ?_
 refine s0 (bu (ds':=[dI .i64 (0:Int),dI .i64 (0:Int),dN]) aq) ?_
 refine sa ?_
 refine .nil (hK _ _ (AW.ret ?_))
 cases h
 exact dm.mk2 (bN (es:=[dI .i64 (0:Int),dI .i64 (0:Int),dN]) rfl aq rfl rfl (ltb rfl) (leb rfl) rfl (cK rfl (.inr ⟨_,_,(et (wc (bI _) (wc (bI _) (wc (mW rfl) wcn)))),(ao _),⟨rfl,rfl⟩,rfl⟩)))
 refine rs hx fun K hK=>?_
 refine sa ?_
 refine s1 (bK bh) ?_
 refine sa ?_
 refine s1 (bK bh) ?_
 iterate 3 refine sa ?_
 refine .nil (hK _ _ (cdh h rfl (fun lZ h=>?_) (fun lZ h=>?_)))
 refine rs hx fun K hK=>?_
 refine s1 (d:=.ag [dI .i64 (0:Int),dI .i64 (0:Int),dN]) (aR aq) ?_
 refine s0 (bu (ds':=[dI .i64 (0:Int),dI .i64 (0:Int),dN]) aq) ?_
 refine sa ?_
 refine .nil (hK _ _ (AW.ret ?_))
 cases h
 exact dm.mk2 (bN (es:=[dI .i64 (0:Int),dI .i64 (0:Int),dN]) rfl aq rfl rfl (ltb rfl) (leb rfl) rfl (cK rfl (.inr ⟨_,_,(et (wc (bI _) (wc (bI _) (wc (mW rfl) wcn)))),(ao _),⟨rfl,rfl⟩,rfl⟩)))
 refine AW.skip (rs hx fun K hK=>?_)
 refine sa ?_
 refine s1 (bK bh) ?_
 refine sa ?_
 refine s1 (bK bh) ?_
 refine sa ?_
 refine s1 (bK bh) ?_
 refine sa ?_
 refine s1 B5 ?_
 obtain⟨x7,K1,h⟩:=ah h
 refine s1 (H8 [0,1] rfl (Ay K1) (fA (ao _) (fA (ao _) (fA (ao _) fAn))) (vR rfl (vR rfl wVn)) wLn) ?_
 iterate 2 refine sa ?_
 refine s0 (bu (ds':=[dI .i64 x7.1.vR,dI .i64 x7.1.vC,dL ae x7.1.vV]) aq) ?_
 refine sa ?_
 refine .nil (hK _ _ (AW.ret ?_))
 cases h
 exact dm.mk2 (bN (es:=(aH.f x7.1).map .e) rfl aq rfl rfl (ltb rfl) (leb rfl) rfl (cK rfl (.inr ⟨_,_,(ao _),(ao _),⟨rfl,rfl⟩,rfl⟩)))
abbrev mS(R C:Int)(V:List Nu):an:=⟨R,C,V.map nv⟩
abbrev mZ:an:=⟨0,0,[]⟩
def aP(R C:Int)(V:List Nu):Int:=if R<0∨200<R∨C<0∨200<C then 2 else if (V.length:Int)≠R*C∨V.all ck=false then 1 else 0
structure MV(R C:Nat)(V:List Nu):Prop where
 r:R≤200
 c:C≤200
 len:V.length=R*C
 good:V.all ck=true
theorem dA {R C:Int}{V:List Nu}:aP R C V=0↔∃r c:Nat,R=r∧C=c∧MV r c V:=by
 unfold aP
 constructor
 ·intro h
  split at h
  ·cases h
  ·rename_i h1
   split at h
   ·cases h
   ·rename_i h2
    obtain⟨r,rfl⟩:∃r:Nat,R=r:=⟨R.toNat,by omega⟩
    obtain⟨c,rfl⟩:∃c:Nat,C=c:=⟨C.toNat,by omega⟩
    refine⟨r,c,rfl,rfl,by omega,by omega,?_,?_⟩
    ·have h3:(V.length:Int)=(r:Int)*c:=Classical.byContradiction fun e=>h2 (.inl e)
     exact_mod_cast h3
    ·cases hg:V.all ck with
     |true=>rfl
     |false=>exact absurd (.inr hg) h2
 ·rintro⟨r,c,rfl,rfl,hm⟩
  have h1:=hm.r
  have h2:=hm.c
  rw[ifn_,aA]
  rintro (h|h)
  ·exact h (by rw[hm.len];exact_mod_cast rfl)
  ·rw[hm.good] at h;cases h
theorem MV.rc {R C:Nat}{V:List Nu}(h:MV R C V):R*C≤40000:=ja h.r h.c
theorem MV.chk {R C:Nat}{V:List Nu}(h:MV R C V):aP R C V=0:=dA.2 ⟨R,C,rfl,rfl,h⟩
theorem vu {V:List Nu}(h:V.length≤1000000):er (V.map nv)=some (V.all ck):=by
 unfold er bA bM
 have key:=CC (b:=be (V.map nv)) (n:=V.length) h (fun i=>!ck V[i]!) (fun i hi=>by
  unfold be oz
  rw[bW,bb _ _,aB,aJ,oO hi,uGood]
  rfl) (by
  unfold be
  rw[bW,a7 _ _])
 rw[Nm V (fun x=>!ck x)] at key
 have e:V.all ck= !V.any fun x=>!ck x:=by rw[Sb];simp
 rcases key with⟨h1,h2⟩|⟨j,h1,h2⟩ <;> rw[h1,e,h2]
 ·rfl
 ·simp[bnd]
theorem CI {R C:Int}{V:List Nu}(h:V.length≤1000000):fK (mS R C V)=some (aP R C V):=by
 unfold fK aP
 dsimp only
 simp only[kOr,ab,vu h]
 by_cases h1:R<0∨200<R∨C<0∨200<C
 ·rw[ar h1]
  have:(decide (R<0)||(decide (200<R)||(decide (C<0)||decide (200<C))))=true:=by simpa using h1
  rw[this];rfl
 ·rw[aA h1]
  have:(decide (R<0)||(decide (200<R)||(decide (C<0)||decide (200<C))))=false:=by simpa using h1
  rw[this,kF]
  have MS:0≤R*C∧R*C≤40000:=by
   obtain⟨r,rfl⟩:∃r:Nat,R=r:=⟨R.toNat,by omega⟩
   obtain⟨c,rfl⟩:∃c:Nat,C=c:=⟨C.toNat,by omega⟩
   have:r*c≤200*200:=ja (by omega) (by omega)
   have e:((r:Int)*c)=((r*c:Nat):Int):=by exact_mod_cast rfl
   rw[e];omega
  rw[w64,bW]
  by_cases h2:(V.length:Int)≠R*C∨V.all ck=false
  ·rw[ar h2]
   have:(decide ((V.length:Int)≠R*C)||!V.all ck)=true:=by
    rcases h2 with h2|h2
    ·rw[d6 h2];rfl
    ·rw[h2];simp
   rw[this];rfl
  ·rw[aA h2]
   have:(decide ((V.length:Int)≠R*C)||!V.all ck)=false:=by
    have a:¬(V.length:Int)≠R*C:=fun e=>h2 (.inl e)
    have b:V.all ck=true:=by cases hg:V.all ck with
     |true=>rfl
     |false=>exact absurd (.inr hg) h2
    rw[f8 a,b];rfl
   rw[this];rfl
theorem uF {R C:Int}{V:List Nu}(h:V.length≤1000000):cm [mS R C V]=some (decide (aP R C V=0)):=by
 unfold cm bc bi
 have key:=CC (b:=aV [mS R C V]) (n:=1) (by decide) (fun i=>decide (aP R C V≠0)) (fun i hi=>by
  obtain rfl:i=0:=by omega
  unfold aV kK
  rw[bb _ _ (by simp),aB ⟨by simp,by simp⟩]
  show bnd (bnd (fK (mS R C V)) _) _=_
  rw[CI h]
  rfl) rfl
 rcases key with⟨h1,h2⟩|⟨j,h1,h2⟩ <;> rw[h1] <;> by_cases hc:aP R C V=0 <;> simp[hc,bnd,yk] at h2 ⊢
theorem Ez {R C R' C':Int}{V V':List Nu}(h:V.length≤1000000)(h':V'.length≤1000000):cm [mS R C V,mS R' C' V']=some (decide (aP R C V=0)&&decide (aP R' C' V'=0)):=by
 unfold cm bc bi
 have key:=CC (b:=aV [mS R C V,mS R' C' V']) (n:=2) (by decide) (fun i=>if i=0 then decide (aP R C V≠0) else decide (aP R' C' V'≠0)) (fun i hi=>by
  unfold aV kK
  have Q1:i=0∨i=1:=by omega
  rcases Q1 with rfl|rfl
  ·rw[bb _ _ (by simp),aB ⟨by simp,by simp⟩]
   show bnd (bnd (fK (mS R C V)) _) _=_
   rw[CI h]
   rfl
  ·rw[bb _ _ (by simp),aB ⟨by simp,by simp⟩]
   show bnd (bnd (fK (mS R' C' V')) _) _=_
   rw[CI h']
   rfl) rfl
 rcases key with⟨h1,h2⟩|⟨j,h1,h2⟩ <;> rw[h1] <;> by_cases hc:aP R C V=0 <;> by_cases Rg:aP R' C' V'=0 <;> simp[hc,Rg,bnd,yk] at h2 ⊢<;> omega
theorem Ai {R C:Nat}{V:List Nu}(hV:V.length=R*C)(MS:R*C≤1000000){i k:Nat}(hi:i<R)(hk:k<C):cY (mS R C V) i k=some (nv V[i*C+k]!):=by
 have h1:=bj hi hk
 have e:(i:Int)*(C:Int)=((i*C:Nat):Int):=by exact_mod_cast rfl
 unfold cY
 dsimp only
 rw[e]
 generalize i*C=p at*
 generalize R*C=n at*
 rw[w64 (n:=(p:Int)),w64 (n:=(p:Int)+(k:Int)),bW,aB]
 simp only[ab]
 rw[show (p:Int)+(k:Int)=((p+k:Nat):Int) by omega,aJ,oO]
def mD(R C:Nat)(V:List Nu):an×Int:=if V.all ck then (mS R C V,0) else (mZ,30)
theorem Cr {R C:Nat}(hR:R≤400)(hC:C≤400)(f:Nat→Nat→Nu)(hf:∀i k:Nat,i<R→k<C→ib (i:Int) (k:Int)=some (nv (f i k))):cV R C=some (mD R C (mkM R C f)):=by
 have MS:R*C≤400*400:=ja hR hC
 unfold cV
 rw[ur (R:=R) (C:=C) (by omega) f (by omega) (fun i hi acc Cp=>?_) (fun l=>?_)]
 ·simp only[ab]
  rw[vu (by rw[bL];omega)]
  simp only[ab]
  unfold mD
  cases (mkM R C f).all ck <;> rfl
 ·unfold dP
  dsimp only
  rw[bb _ _,u3 (C:=C) (by omega) (f i) acc Cp (fun k hk l=>?_) (fun l=>?_)]
  ·rfl
  ·unfold dv
   dsimp only
   rw[bb _ _,hf i k hi hk]
   rfl
  ·unfold dv
   dsimp only
   rw[a7 _ _]
 ·unfold dP
  dsimp only
  rw[a7 _ _]
theorem Mm {R C:Nat}{a b:an}(hR:R≤400)(hC:C≤400)(f:Nat→Nat→Nu)(hf:∀i k:Nat,i<R→k<C→qI (i:Int) (k:Int) a b=some (nv (f i k))):rM R C a b=some (mD R C (mkM R C f)):=by
 have MS:R*C≤400*400:=ja hR hC
 unfold rM
 rw[ur (R:=R) (C:=C) (by omega) f (by omega) (fun i hi acc Cp=>?_) (fun l=>?_)]
 ·simp only[ab]
  rw[vu (by rw[bL];omega)]
  simp only[ab]
  unfold mD
  cases (mkM R C f).all ck <;> rfl
 ·unfold oG
  dsimp only
  rw[bb _ _,u3 (C:=C) (by omega) (f i) acc Cp (fun k hk l=>?_) (fun l=>?_)]
  ·rfl
  ·unfold n5
   dsimp only
   rw[bb _ _,hf i k hi hk]
   rfl
  ·unfold n5
   dsimp only
   rw[a7 _ _]
 ·unfold oG
  dsimp only
  rw[a7 _ _]
theorem Ml {R C:Nat}{a b:an}(hR:R≤400)(hC:C≤400)(f:Nat→Nat→Nu)(hf:∀i k:Nat,i<R→k<C→nN (i:Int) (k:Int) a b=some (nv (f i k))):qH R C a b=some (mD R C (mkM R C f)):=by
 have MS:R*C≤400*400:=ja hR hC
 unfold qH
 rw[ur (R:=R) (C:=C) (by omega) f (by omega) (fun i hi acc Cp=>?_) (fun l=>?_)]
 ·simp only[ab]
  rw[vu (by rw[bL];omega)]
  simp only[ab]
  unfold mD
  cases (mkM R C f).all ck <;> rfl
 ·unfold n6
  dsimp only
  rw[bb _ _,u3 (C:=C) (by omega) (f i) acc Cp (fun k hk l=>?_) (fun l=>?_)]
  ·rfl
  ·unfold nb
   dsimp only
   rw[bb _ _,hf i k hi hk]
   rfl
  ·unfold nb
   dsimp only
   rw[a7 _ _]
 ·unfold n6
  dsimp only
  rw[a7 _ _]
theorem Fq {R C:Nat}{a b:an}(hR:R≤400)(hC:C≤400)(f:Nat→Nat→Nu)(hf:∀i k:Nat,i<R→k<C→ic (i:Int) (k:Int) a b=some (nv (f i k))):kN R C a b=some (mD R C (mkM R C f)):=by
 have MS:R*C≤400*400:=ja hR hC
 unfold kN
 rw[ur (R:=R) (C:=C) (by omega) f (by omega) (fun i hi acc Cp=>?_) (fun l=>?_)]
 ·simp only[ab]
  rw[vu (by rw[bL];omega)]
  simp only[ab]
  unfold mD
  cases (mkM R C f).all ck <;> rfl
 ·unfold ko
  dsimp only
  rw[bb _ _,u3 (C:=C) (by omega) (f i) acc Cp (fun k hk l=>?_) (fun l=>?_)]
  ·rfl
  ·unfold jN
   dsimp only
   rw[bb _ _,hf i k hi hk]
   rfl
  ·unfold jN
   dsimp only
   rw[a7 _ _]
 ·unfold ko
  dsimp only
  rw[a7 _ _]
section
def idF(i k:Nat):Nu:=if i=k then nOf 1 else nOf 0
def addF(C:Nat)(A B:List Nu)(i k:Nat):Nu:=Ob A[i*C+k]! B[i*C+k]!
def JQ(C K:Nat)(A B:List Nu)(i k:Nat):Nat→Nu
 |0=>sJ A[i*C]! B[k]!
 |j+1=>Ob (JQ C K A B i k j) (sJ A[i*C+(j+1)]! B[(j+1)*K+k]!)
def Da(C K:Nat)(A B:List Nu)(i k:Nat):Nu:=if C=0 then nOf 0 else JQ C K A B i k (C - 1)
def tf(C K:Nat)(A B:List Nu)(i k:Nat):Nu:=if k<C then A[i*C+k]! else B[i*K+(k - C)]!
def idP(n:Int):an:=if n<0∨200<n then mZ else mS n n (mkM n.toNat n.toNat idF)
def addP(R C:Int)(A:List Nu)(R' C':Int)(B:List Nu):an×Int:=if aP R C A=0∧aP R' C' B=0∧R=R'∧C=C' then mD R.toNat C.toNat (mkM R.toNat C.toNat (addF C.toNat A B)) else (mZ,1)
def mulP(R C:Int)(A:List Nu)(R' C':Int)(B:List Nu):an×Int:=if aP R C A=0∧aP R' C' B=0∧C=R' then mD R.toNat C'.toNat (mkM R.toNat C'.toNat (Da C.toNat C'.toNat A B)) else (mZ,1)
def J3(R C:Int)(A:List Nu)(R' C':Int)(B:List Nu):an×Int:=if aP R C A=0∧aP R' C' B=0∧R=R' then if 200<C+C' then (mZ,2) else mD R.toNat (C+C').toNat (mkM R.toNat (C+C').toNat (tf C.toNat C'.toNat A B)) else (mZ,1)
theorem Jn(i k:Nat):ck (idF i k)=true:=by unfold idF;split;exact of1.1;exact of0.1
theorem u4 {R C:Nat}{f:Nat→Nat→Nu}(h:∀i k,i<R→k<C→ck (f i k)=true):mD R C (mkM R C f)=(mS R C (mkM R C f),0):=by
 unfold mD
 rw[ar (CA.2 h)]
theorem Na(i C:Nat):(i:Int)*(C:Int)=((i*C:Nat):Int):=by exact_mod_cast rfl
section
variable {A B V:List Nu} {R C R' C':Int}
theorem EC {n:Int}:gT n=some (idP n):=by
 unfold gT idP
 simp only[kOr,ab]
 by_cases h:n<0∨200<n
 ·have:(decide (n<0)||decide (200<n))=true:=by simpa using h
  rw[this,ar h];rfl
 ·have:(decide (n<0)||decide (200<n))=false:=by simpa using h
  rw[this,aA h,kF]
  obtain⟨m,rfl⟩:∃m:Nat,n=m:=⟨n.toNat,by omega⟩
  rw[Cr (R:=m) (C:=m) (by omega) (by omega) idF (fun i k hi hk=>?_),u4 fun i k _ _=>Jn i k]
  ·simp only[ab,aJ]
  ·unfold ib idF
   by_cases e:i=k
   ·rw[bb _ _,ar e,uOf];rfl
   ·rw[a7 _ _,aA e,uOf];rfl
theorem P_Add(hA:A.length≤1000000)(hB:B.length≤1000000):zT (mS R C A) (mS R' C' B)=some (addP R C A R' C' B):=by
 unfold zT addP
 rw[Ez hA hB]
 simp only[ab,kOr]
 by_cases h0:aP R C A=0∧aP R' C' B=0∧R=R'∧C=C'
 ·rw[ar h0]
  obtain⟨h1,h2,rfl,rfl⟩:=h0
  obtain⟨r,c,rfl,rfl,hm⟩:=dA.1 h1
  obtain⟨r',c',hr,hc,ww⟩:=dA.1 h2
  obtain rfl:r=r':=by omega
  obtain rfl:c=c':=by omega
  rw[h1,h2]
  have:=hm.rc
  have h3:=hm.r
  have h4:=hm.c
  have e:(!(decide ((0:Int)=0)&&decide ((0:Int)=0))||(decide ((r:Int)≠r)||decide ((c:Int)≠c)))=false:=by simp
  rw[e,kF]
  rw[Mm (by omega) (by omega) (addF c A B) (fun i k hi hk=>?_)]
  ·simp only[ab,aJ]
  ·unfold qI
   rw[Ai hm.len (by omega) hi hk,Ai ww.len (by omega) hi hk]
   simp only[ab,uAdd]
   rfl
 ·rw[aA h0]
  have e:(!(decide (aP R C A=0)&&decide (aP R' C' B=0))||(decide (R≠R')||decide (C≠C')))=true:=by
   by_cases a:aP R C A=0
   ·by_cases b:aP R' C' B=0
    ·by_cases c:R=R'
     ·by_cases d:C=C'
      ·exact absurd ⟨a,b,c,d⟩ h0
      ·simp[d]
     ·simp[c]
    ·simp[b]
   ·simp[a]
  rw[e,kT]
theorem P_dot {r c c':Nat}(hm:MV r c A)(ww:MV c c' B){i k:Nat}(hi:i<r)(hk:k<c'):nN (i:Int) (k:Int) (mS r c A) (mS c c' B)=some (nv (Da c c' A B i k)):=by
 have h1:=hm.rc
 have h2:=ww.rc
 have h3:=hm.c
 unfold nN Da
 dsimp only
 by_cases h0:c=0
 ·rw[bb _ _,ar h0,uOf];rfl
 ·rw[a7 _ _,aA h0]
  have a0:=Ai hm.len (by omega) hi (show 0<c by omega)
  have b0:=Ai ww.len (by omega) (show 0<c by omega) hk
  rw[mK] at a0
  rw[fP,bB] at b0
  rw[show ((0:Int))=((0:Nat):Int) from rfl,a0,b0]
  simp only[ab,uMul]
  have:=db (b:=jQ (i:Int) (k:Int) (mS r c A) (mS c c' B)) (fun j=>((j:Int),nv (JQ c c' A B i k (j - 1)))) 1 c (nv (JQ c c' A B i k (c - 1))) (by omega) (fun j QZ Io=>?_) ?_
  ·rw[show (((1:Nat):Int),nv (JQ c c' A B i k (1 - 1)))=((1:Int),nv (sJ A[i*c]! B[k]!)) from rfl] at this
   rw[this];rfl
  ·unfold jQ
   dsimp only
   rw[bb _ _,Ai hm.len (by omega) hi Io,Ai ww.len (by omega) Io hk]
   simp only[ab,uMul,uAdd]
   rw[w64]
   obtain⟨m,rfl⟩:∃m,j=m+1:=⟨j - 1,by omega⟩
   rfl
  ·unfold jQ
   dsimp only
   rw[a7 _ _]
theorem P_Mul(hA:A.length≤1000000)(hB:B.length≤1000000):zS (mS R C A) (mS R' C' B)=some (mulP R C A R' C' B):=by
 unfold zS mulP
 rw[Ez hA hB]
 simp only[ab,kOr]
 by_cases h0:aP R C A=0∧aP R' C' B=0∧C=R'
 ·rw[ar h0]
  obtain⟨h1,h2,rfl⟩:=h0
  obtain⟨r,c,rfl,rfl,hm⟩:=dA.1 h1
  obtain⟨r',c',hr,rfl,ww⟩:=dA.1 h2
  obtain rfl:c=r':=by omega
  rw[h1,h2]
  have h3:=hm.r
  have h4:=ww.c
  have e:(!(decide ((0:Int)=0)&&decide ((0:Int)=0))||decide ((c:Int)≠c))=false:=by simp
  rw[e,kF]
  rw[Ml (by omega) (by omega) (Da c c' A B) (fun i k hi hk=>P_dot hm ww hi hk)]
  simp only[ab,aJ]
 ·rw[aA h0]
  have e:(!(decide (aP R C A=0)&&decide (aP R' C' B=0))||decide (C≠R'))=true:=by
   by_cases a:aP R C A=0
   ·by_cases b:aP R' C' B=0
    ·by_cases c:C=R'
     ·exact absurd ⟨a,b,c⟩ h0
     ·simp[c]
    ·simp[b]
   ·simp[a]
  rw[e,kT]
theorem Ki(hA:A.length≤1000000)(hB:B.length≤1000000):jo (mS R C A) (mS R' C' B)=some (J3 R C A R' C' B):=by
 unfold jo J3
 rw[Ez hA hB]
 simp only[ab,kOr]
 by_cases h0:aP R C A=0∧aP R' C' B=0∧R=R'
 ·rw[ar h0]
  obtain⟨h1,h2,rfl⟩:=h0
  obtain⟨r,c,rfl,rfl,hm⟩:=dA.1 h1
  obtain⟨r',c',hr,rfl,ww⟩:=dA.1 h2
  obtain rfl:r=r':=by omega
  rw[h1,h2]
  have h3:=hm.r
  have h4:=hm.c
  have h5:=ww.c
  have h6:=hm.rc
  have h7:=ww.rc
  have e:(!(decide ((0:Int)=0)&&decide ((0:Int)=0))||decide ((r:Int)≠r))=false:=by simp
  rw[e,kF,w64]
  by_cases hc:(200:Int)<(c:Int)+c'
  ·rw[bb _ _ hc,ar hc]
  ·rw[a7 _ _ hc,aA hc,show ((c:Int)+(c':Int))=((c+c':Nat):Int) by omega]
   rw[Fq (by omega) (by omega) (tf c c' A B) (fun i k hi hk=>?_)]
   ·simp only[ab,aJ]
   ·unfold ic tf
    dsimp only
    by_cases E9:k<c
    ·rw[bb _ _,ar E9,Ai hm.len (by omega) hi E9];rfl
    ·rw[a7 _ _,aA E9,w64,show (k:Int) - (c:Int)=((k - c:Nat):Int) by omega,Ai ww.len (by omega) hi (by omega)];rfl
 ·rw[aA h0]
  have e:(!(decide (aP R C A=0)&&decide (aP R' C' B=0))||decide (R≠R'))=true:=by
   by_cases a:aP R C A=0
   ·by_cases b:aP R' C' B=0
    ·by_cases c:R=R'
     ·exact absurd ⟨a,b,c⟩ h0
     ·simp[c]
    ·simp[b]
   ·simp[a]
  rw[e,kT]
end
end
section
abbrev fnd(p:an×Int):dx:=⟨p.1,p.2⟩
theorem wix {i c k:Nat}(h:i*c+k≤1000000:=by omega):i64.wrap (i64.wrap ((i:Int)*(c:Int))+(k:Int))=((i*c+k:Nat):Int):=by
 rw[Na]
 generalize i*c=p at*
 rw[w64 (n:=(p:Int)),w64];omega
theorem wim {i c:Nat}(h:i*c≤1000000:=by omega):i64.wrap ((i:Int)*(c:Int))=((i*c:Nat):Int):=by
 rw[Na]
 generalize i*c=p at*
 rw[w64]
theorem IT {r c i j pos:Nat}{g g':Nat→Nat→Nu}{x:Nu}(hi:i<r)(hj:j<c)(hp:pos=i*c+j)(h:∀a b,a<r→b<c→(if a=i∧b=j then x else g a b)=g' a b):((mkM r c g).map nv).set pos (nv x)=(mkM r c g').map nv:=by
 rw[←z6,hp,mkM_set hi hj,uq h]
def xQ(c t:Nat)(f:Nat→Nat→Nu)(i j:Nat):Nu:=if i*c+j<t then f i j else nOf 0
theorem NZ {r c i j:Nat}{f:Nat→Nat→Nu}(hi:i<r)(hj:j<c):((mkM r c (xQ c (i*c+j) f)).map nv).set (i*c+j) (nv (f i j))=(mkM r c (xQ c (i*c+j+1) f)).map nv:=by
 refine IT hi hj rfl fun a b ha hb=>?_
 unfold xQ
 by_cases h:a=i∧b=j
 ·obtain⟨rfl,rfl⟩:=h
  rw[ar ⟨rfl,rfl⟩,ifp_]
 ·rw[aA h]
  have:a*c+b≠i*c+j:=fun e=>h (AQ hb hj e)
  by_cases h2:a*c+b<i*c+j
  ·rw[ar h2,ifp_]
  ·rw[aA h2,ifn_]
theorem part_0 {r c:Nat}{f:Nat→Nat→Nu}:mkM r c (fun _ _=>nOf 0)=mkM r c (xQ c 0 f):=uq fun a b _ _=>by unfold xQ;rw[ifn_]
theorem PP {r c:Nat}{f:Nat→Nat→Nu}:mkM r c (xQ c (r*c) f)=mkM r c f:=uq fun a b ha hb=>by unfold xQ;rw[ar (bj ha hb)]
section
variable {A B V:List Nu} {R C R' C':Int}
theorem Mi(h:V.length≤1000000):jC (V.map nv)=some (V.all ck):=by
 unfold jC
 rw[GQ (b:=l7 (V.map nv)) (n:=V.length) h (fun i=>ck V[i]!) (fun i hi=>by
  unfold l7
  rw[bW,bb _ _,aB,aJ,oO hi,tGood]
  rfl) (by
  unfold l7
  rw[bW,a7 _ _])]
 rw[Nn V ck]
 cases V.all ck <;> rfl
theorem Q_Check(h:V.length≤1000000):om (mS R C V)=some (aP R C V):=by
 rw[←CI h]
 unfold om fK
 dsimp only
 rw[Mi h,vu h]
theorem sr(h:V.length≤1000000):cz (mS R C V)=some (decide (aP R C V=0)):=by
 unfold cz
 rw[Q_Check h];rfl
theorem Ny(h:V.length≤1000000){r c:Nat}:qW (mS r c V)=some (fnd (mD r c V)):=by
 unfold qW mD
 rw[Mi h]
 simp only[ab]
 cases V.all ck <;> rfl
theorem Ia {r c:Nat}(hr:r≤400)(hc:c≤400):aK (fX (r:Int) (c:Int)) ((0:Int),([]:List ai))=some ((mkM r c fun _ _=>nOf 0).map nv):=by
 have MS:r*c≤400*400:=ja hr hc
 rw[Jb]
 have:=u3 (b:=fX (r:Int) (c:Int)) (C:=r*c) (by omega) (fun _=>nOf 0) [] (by simp;omega) (fun k hk l=>?_) (fun l=>?_)
 ·rw[qw,List.map_const',BZ] at this
  exact this
 ·unfold fX
  dsimp only
  rw[wim,bb _ _,tOf];rfl
 ·unfold fX
  dsimp only
  rw[wim,a7 _ _]
theorem SE {r c:Nat}(hr:r≤400)(hc:c≤400):lN (r:Int) (c:Int)=some (mS r c (mkM r c fun _ _=>nOf 0)):=by
 unfold lN
 rw[Ia hr hc];rfl
theorem Ex {r c:Nat}(hr:r≤400)(hc:c≤400)(h0:0<r*c):fF (r:Int) (c:Int)=some (mS r c (mkM r c fun _ _=>nOf 0)):=by
 unfold fF
 rw[show mE=fX from rfl,Ia hr hc]
 simp only[ab]
 rw[aB (by rw[bW,bL];exact h0)]
theorem Gm {r c:Nat}(hr:r≤400)(hc:c≤400)(h0:r*c=0):fF (r:Int) (c:Int)=none:=by
 unfold fF
 rw[show mE=fX from rfl,Ia hr hc]
 simp only[ab]
 exact aA (by rw[bW,bL];omega)
theorem mk0 {α:Type}{r c:Nat}{f g:Nat→Nat→α}(h0:r*c=0):mkM r c f=mkM r c g:=by
 rw[kY (l:=mkM r c f) (by rw[bL];exact h0),kY (l:=mkM r c g) (by rw[bL];exact h0)]
theorem Mk {n:Int}:nI n=some (idP n):=by
 unfold nI lO lQ idP
 simp only[kOr,ab]
 by_cases h:n<0∨200<n
 ·have:(decide (n<0)||decide (200<n))=true:=by simpa using h
  rw[this,ar h];rfl
 ·have:(decide (n<0)||decide (200<n))=false:=by simpa using h
  rw[this,aA h,kF,kF]
  obtain⟨m,rfl⟩:∃m:Nat,n=m:=⟨n.toNat,by omega⟩
  rw[aJ]
  rcases mJ m with h0|h0
  ·subst h0
   rw[Gm (by decide) (by decide) rfl,SE (by decide) (by decide)]
   show orO none _=_
   simp only[ab]
   rw[cU (x:=()) (by unfold lP;rw[a7 _ _ (by decide)])]
   rfl
  ·rw[Ex (by omega) (by omega) (tL h0 h0)]
   simp only[ab]
   have hmm:m*m≤200*200:=ja (by omega) (by omega)
   have key:=db (b:=fH (m:Int) (mS m m (mkM m m fun _ _=>nOf 0))) (fun t=>((t:Int),(mkM m m fun a b=>if a=b∧a<t then nOf 1 else nOf 0).map nv)) 0 m ((mkM m m idF).map nv) (bY _) (fun t _ ht=>?_) ?_
   ·rw[show (mkM m m fun a b=>if a=b∧a<0 then nOf 1 else nOf 0)=mkM m m fun _ _=>nOf 0 from uq fun a b _ _=>ifn_] at key
    rw[show (((0:Nat):Int))=0 from rfl] at key
    rw[key]
    simp only[ab]
    rw[aB (by simp[bL])]
    rfl
   ·unfold fH
    dsimp only
    have h1:=bj ht ht
    rw[bb _ _,tOf,wix]
    simp only[ab]
    rw[aB ⟨by omega,by rw[bW,bL];omega,by rw[bW,bL];omega⟩,aJ,w64]
    rw[IT ht ht rfl (g':=fun a b=>if a=b∧a<t+1 then nOf 1 else nOf 0) (fun a b _ _=>?_)]
    ·rfl
    ·by_cases e:a=t∧b=t
     ·rw[ar e,ar ⟨by omega,by omega⟩]
     ·rw[aA e]
      by_cases e2:a=b∧a<t
      ·rw[ar e2,ar ⟨e2.1,by omega⟩]
      ·rw[aA e2,ifn_]
   ·unfold fH
    dsimp only
    rw[a7 _ _]
    rw[show (mkM m m fun a b=>if a=b∧a<m then nOf 1 else nOf 0)=mkM m m idF from uq fun a b ha _=>by unfold idF;by_cases e:a=b;rw[ar ⟨e,ha⟩,ar e];rw[aA (fun h=>e h.1),aA e]]
end
end
section
section
variable {A B V:List Nu} {R C R' C':Int}
theorem Q_dot {r c c':Nat}(hm:MV r c A)(ww:MV c c' B){i k:Nat}(hi:i<r)(hk:k<c'):tC (mS r c A) (i:Int) (mS c c' B) (k:Int)=some (nv (Da c c' A B i k)):=by
 have h1:=hm.rc
 have h2:=ww.rc
 have h3:=hm.c
 have la:=hm.len
 have lb:=ww.len
 unfold tC Da
 dsimp only
 by_cases h0:c=0
 ·rw[bb _ _,ar h0,tOf];rfl
 ·rw[a7 _ _,aA h0]
  have a0:=bj hi (show 0<c by omega)
  have b0:=bj (show 0<c by omega) hk
  rw[mK] at a0
  rw[fP,bB] at b0
  rw[wim,bW,bW,aB,aB,aJ,aJ,oO,oO,tMul]
  simp only[ab]
  have:=db (b:=oy (mS r c A) (i:Int) (mS c c' B) (k:Int)) (fun j=>((j:Int),nv (JQ c c' A B i k (j - 1)))) 1 c (nv (JQ c c' A B i k (c - 1))) (by omega) (fun j QZ Io=>?_) ?_
  ·rw[show (((1:Nat):Int),nv (JQ c c' A B i k (1 - 1)))=((1:Int),nv (sJ A[i*c]! B[k]!)) from rfl] at this
   rw[this];rfl
  ·unfold oy
   dsimp only
   have a1:=bj hi Io
   have b1:=bj Io hk
   rw[bb _ _,wix,wix,bW,bW,aB,aB,aJ,aJ,oO,oO,tMul]
   simp only[ab,tAdd]
   rw[w64]
   obtain⟨m,rfl⟩:∃m,j=m+1:=⟨j - 1,by omega⟩
   rfl
  ·unfold oy
   dsimp only
   rw[a7 _ _]
theorem Q_Mul(hA:A.length≤1000000)(hB:B.length≤1000000):BT (mS R C A) (mS R' C' B)=some (fnd (mulP R C A R' C' B)):=by
 unfold BT yd ye mulP
 rw[sr hA,sr hB]
 simp only[ab,kOr]
 by_cases h0:aP R C A=0∧aP R' C' B=0∧C=R'
 ·rw[ar h0]
  obtain⟨h1,h2,rfl⟩:=h0
  obtain⟨r,c,rfl,rfl,hm⟩:=dA.1 h1
  obtain⟨r',c',hr,rfl,ww⟩:=dA.1 h2
  obtain rfl:c=r':=by omega
  rw[h1,h2]
  have h3:=hm.r
  have h4:=ww.c
  have MS:r*c'≤200*200:=ja h3 h4
  have e:(!decide ((0:Int)=0)||(!decide ((0:Int)=0)||decide ((c:Int)≠c)))=false:=by simp
  rw[e,kF,kF]
  simp only[aJ]
  rcases mJ (r*c') with hz|hz
  ·rw[Gm (by omega) (by omega) hz,SE (by omega) (by omega)]
   show orO none _=_
   simp only[ab]
   have key:=db (b:=mH (mS r c A) (mS c c' B) (mS r c' (mkM r c' fun _ _=>nOf 0))) (fun i=>(i:Int)) 0 r () (bY _) (fun i _ hi=>?_) ?_
   ·rw[show (((0:Nat):Int))=0 from rfl] at key
    rw[key]
    simp only[ab]
    rw[Ny (by rw[bL];omega),mk0 (g:=Da c c' A B) hz];rfl
   ·unfold mH
    dsimp only
    have hc0:c'=0:=by
     rcases Nat.mul_eq_zero.1 hz with h|h
     ·omega
     ·exact h
    rw[bb _ _,cU (x:=()) (by unfold tD;rw[a7 _ _ (show ¬(0:Int)<(c':Int) by omega)])]
    simp only[ab]
    rw[w64];rfl
   ·unfold mH
    dsimp only
    rw[a7 _ _]
  ·rw[Ex (by omega) (by omega) hz]
   simp only[ab]
   have key:=db (b:=mG (mS r c A) (mS c c' B) (mS r c' (mkM r c' fun _ _=>nOf 0))) (fun i=>((i:Int),(mkM r c' (xQ c' (i*c') (Da c c' A B))).map nv)) 0 r ((mkM r c' (Da c c' A B)).map nv) (bY _) (fun i _ hi=>?_) ?_
   ·rw[fP,←part_0] at key
    rw[show (((0:Nat):Int))=0 from rfl] at key
    rw[key]
    simp only[ab]
    rw[aB (by simp[bL]),Ny (by rw[bL];omega)]
    rfl
   ·unfold mG
    dsimp only
    rw[bb _ _]
    have inner:=db (b:=mF (mS r c A) (mS c c' B) (mS r c' (mkM r c' fun _ _=>nOf 0)) (i:Int)) (fun k=>((k:Int),(mkM r c' (xQ c' (i*c'+k) (Da c c' A B))).map nv)) 0 c' ((mkM r c' (xQ c' (i*c'+c') (Da c c' A B))).map nv) (bY _) (fun k _ hk=>?_) ?_
    ·rw[mK,show (((0:Nat):Int))=0 from rfl] at inner
     rw[inner]
     simp only[ab]
     rw[w64,←jS];rfl
    ·unfold mF
     dsimp only
     have h5:=bj hi hk
     rw[bb _ _,Q_dot hm ww hi hk]
     simp only[ab]
     rw[wix,aB ⟨by omega,by rw[bW,bL];omega,by rw[bW,bL];omega⟩,aJ,NZ hi hk,w64]
     rfl
    ·unfold mF
     dsimp only
     rw[a7 _ _]
   ·unfold mG
    dsimp only
    rw[a7 _ _,PP]
 ·rw[aA h0]
  have e:(!decide (aP R C A=0)||(!decide (aP R' C' B=0)||decide (C≠R')))=true:=by
   by_cases a:aP R C A=0
   ·by_cases b:aP R' C' B=0
    ·by_cases c:C=R'
     ·exact absurd ⟨a,b,c⟩ h0
     ·simp[c]
    ·simp[b]
   ·simp[a]
  rw[e,kT];rfl
theorem MV.gd {r c:Nat}(hm:MV r c A){t:Nat}(h:t<r*c):ck A[t]! =true:=MZ hm.good (by rw[hm.len];exact h)
theorem RY {r c c':Nat}(hm:MV r c A)(ww:MV r c' B):mD r (c+c') (mkM r (c+c') (tf c c' A B))=(mS r ((c+c':Nat):Int) (mkM r (c+c') (tf c c' A B)),0):=u4 fun i k hi hk=>by
 unfold tf
 split
 ·rename_i h;exact hm.gd (bj hi h)
 ·exact ww.gd (bj hi (by omega))
theorem rowE {r c:Nat}(hA:A.length=r*c){i:Nat}(hi:i<r):(A.drop (i*c)).take c=(List.range c).map fun k=>A[i*c+k]! :=by
 conv=>lhs;rw[mkM_of hA]
 exact mkM_row hi
theorem bes_row {r c c':Nat}(hA:A.length=r*c)(hB:B.length=r*c'){i:Nat}(hi:i<r):(List.range (c+c')).map (tf c c' A B i)=(A.drop (i*c)).take c++(B.drop (i*c')).take c':=by
 rw[rowE hA hi,rowE hB hi,List.range_add,jR,rX]
 congr 1
 ·exact tK fun k hk=>ar (B1.1 hk)
 ·refine tK fun k hk=>?_
  show tf c c' A B i (c+k)=_
  unfold tf
  rw[ifn_,Ka]
theorem SG(hA:A.length≤1000000)(hB:B.length≤1000000):m5 (mS R C A) (mS R' C' B)=some (fnd (J3 R C A R' C' B)):=by
 unfold m5 J3
 rw[sr hA,sr hB]
 simp only[ab,kOr]
 by_cases h0:aP R C A=0∧aP R' C' B=0∧R=R'
 ·rw[ar h0]
  obtain⟨h1,h2,rfl⟩:=h0
  obtain⟨r,c,rfl,rfl,hm⟩:=dA.1 h1
  obtain⟨r',c',hr,rfl,ww⟩:=dA.1 h2
  obtain rfl:r=r':=by omega
  rw[h1,h2]
  have h3:=hm.r
  have h4:=hm.c
  have h5:=ww.c
  have h6:=hm.rc
  have h7:=ww.rc
  have la:=hm.len
  have lb:=ww.len
  have e:(!decide ((0:Int)=0)||(!decide ((0:Int)=0)||decide ((r:Int)≠r)))=false:=by simp
  rw[e,kF,w64]
  by_cases hc:(200:Int)<(c:Int)+c'
  ·rw[bb _ _ hc,ar hc]
  ·rw[a7 _ _ hc,aA hc,show ((c:Int)+(c':Int))=((c+c':Nat):Int) by omega]
   simp only[aJ]
   rw[RY hm ww]
   have hrcc:r*(c+c')≤200*200:=ja h3 (by omega)
   have key:=db (b:=iT (mS r c A) (mS r c' B)) (fun i=>((i:Int),(mkM i (c+c') (tf c c' A B)).map nv)) 0 r ((mkM r (c+c') (tf c c' A B)).map nv) (bY _) (fun i _ hi=>?_) ?_
   ·rw[show (((0:Nat):Int),(mkM 0 (c+c') (tf c c' A B)).map nv)=((0:Int),([]:List ai)) from rfl] at key
    rw[key];rfl
   ·unfold iT
    dsimp only
    have a1:(i+1)*c≤r*c:=bJ _ hi
    have b1:(i+1)*c'≤r*c':=bJ _ hi
    have a2:(i+1)*c=i*c+c:=jS ..
    have b2:(i+1)*c'=i*c'+c':=jS ..
    have a3:(i+1)*(c+c')≤r*(c+c'):=bJ _ hi
    have a4:(i+1)*(c+c')=i*(c+c')+(c+c'):=jS ..
    have w1:i64.wrap ((i:Int)+(1:Int))=((i+1:Nat):Int):=w64
    rw[bb _ _,w1,wim,wim,wim,wim,bW,bW]
    have sA:nA (A.map nv) ((i*c:Nat):Int) (((i+1)*c:Nat):Int)=((A.drop (i*c)).take c).map nv:=by
     unfold nA
     rw[aJ,show ((((i+1)*c:Nat):Int) - ((i*c:Nat):Int)).toNat=c by rw[a2];omega,←yj,←wH]
    have sB:nA (B.map nv) ((i*c':Nat):Int) (((i+1)*c':Nat):Int)=((B.drop (i*c')).take c').map nv:=by
     unfold nA
     rw[aJ,show ((((i+1)*c':Nat):Int) - ((i*c':Nat):Int)).toNat=c' by rw[b2];omega,←yj,←wH]
    rw[sA,sB,←jR,←jR]
    have l1:((A.drop (i*c)).take c).length≤c:=by rw[e6];omega
    have l2:((B.drop (i*c')).take c').length≤c':=by rw[e6];omega
    have l3:(mkM i (c+c') (tf c c' A B)).length=i*(c+c'):=bL
    rw[aB,aB (by rw[bW,eI];omega),aB,aB (by rw[bW,eI,eI];omega)]
    rw[fy,←bes_row la lb hi,←uo]
   ·unfold iT
    dsimp only
    rw[a7 _ _]
 ·rw[aA h0]
  have e:(!decide (aP R C A=0)||(!decide (aP R' C' B=0)||decide (R≠R')))=true:=by
   by_cases a:aP R C A=0
   ·by_cases b:aP R' C' B=0
    ·by_cases c:R=R'
     ·exact absurd ⟨a,b,c⟩ h0
     ·simp[c]
    ·simp[b]
   ·simp[a]
  rw[e,kT]
end
end
def eR(bS:dh):(List Int)×Int→Option (((List Int)×Int)⊕((List Int))):=fun (aG,aS)=>cnd (decide (aS<((bS.vl).length:Int))) (gd (0≤aS∧aS<((bS.vl).length:Int)) (gd ((aG++[((bS.vl)[(aS).toNat]!).vcol]).length*8≤140737488355328) (some (.inl (aG++[((bS.vl)[(aS).toNat]!).vcol],i64.wrap (aS+(1:Int))))))) (some (.inr aG))
def cu(bS:dh):Option (List Int):=bnd (aK (eR bS) (([]:List Int),(0:Int))) fun aE=>some aE
theorem mr {bS:dh}{r:List Int}(h:cu bS=some r):ax prog 64 [dG sx bS] (.own 3 (cI .i64).sz r.length (r.flatMap (cI .i64).f)):=by
 refine bn (rs:=[.tmp 2]) (fun cx hx h0=>?_) func64
 unfold cu at h
 refine rs hx fun K hK=>?_
 refine s1 (d:=.pt 0 0) fC ?_
 refine s1 (d:=dO 1 (cI .i64) ([]:List Int)) (eC b9 bh) ?_
 refine .nil (hK _ _ (rs hx fun K hK=>?_))
 refine s1 (d:=dO 2 (cI .i64) ([]:List Int)) (eC b9 bh) ?_
 refine .nil (hK _ _ (AW.seq (rs hx fun K hK=>?_)))
 refine sa ?_
 refine s1 (bK tq) ?_
 iterate 2 refine sa ?_
 refine .nil (hK _ _ (AW.block ?_))
 obtain⟨aE,hy,h⟩:=ah h
 refine lp (S:=(List Int)×Int) (X:=(List Int)) (fun (aG,aS)=>[(3,dO 0 (cI .i64) aG),(7,dL bf bS.vl),(8,dI .i64 ((bS.vl).length:Int)),(9,dI .i64 aS)]) (fun (aG,aS)=>⟨[],[(0,(aG).length,1,3)],1⟩) (PE cx (.exit 0) (fun aE=>[(3,dO 0 (cI .i64) aE)]) fun aE=>⟨[],[(0,(aE).length,1,3)],1⟩) hy ?_ ?_ ?_
 exact wk h0 [2] (wR rfl (wR rfl (wR rfl (wR rfl wTn)))) wVn (wL rfl rfl wLn)
 clear hy h
 rintro⟨aG,aS⟩ y h
 dsimp only[eR] at h
 refine ra hx ?_
 refine AW.seq (cdh h rfl (fun eF h=>?_) (fun eF h=>?_))
 refine AW.skip (AW.seq (AW.block (rs hx fun K hK=>?_)))
 obtain⟨rk,h⟩:=am h
 have xE:(aS).toNat<(bS.vl).length:=by omega
 refine s1 (mL rk tq im) ?_
 refine s1 (d:=dG bf ((bS.vl)[(aS).toNat]!)) (gk (c:=bf) (l:=bS.vl) (n:=(aS).toNat) (o:=0) im xE (cH _ _ rfl)) ?_
 refine s1 (lB (F:=bf.f (⟨(0:Int),co,false⟩:nU)) im) ?_
 refine s0 (ig (b':=(bS.vl)[(aS).toNat]!) (aX.id _ _) im) ?_
 refine .nil (hK _ _ (rq hx fun K hK=>?_))
 iterate 2 refine sa ?_
 refine s1 (qU (xW ((bS.vl)[(aS).toNat]!)) bh) ?_
 refine s1 (d:=dO 2 (cI .i64) [((bS.vl)[(aS).toNat]!).vcol]) (jc b9 bh) ?_
 obtain⟨Ck,h⟩:=am h
 refine s1 (d:=dO 0 (cI .i64) (aG++[((bS.vl)[(aS).toNat]!).vcol])) (eD b9 bh Ck) ?_
 refine sa ?_
 refine .nil (hK _ _ (rb hx ?_))
 cases h
 exact PS.l (pe0 h0 [0])
 refine AW.exit ?_
 try dsimp only
 try simp only[bP,reduceIte,Nat.reduceEqDiff,reduceCtorEq]
 cases h
 exact PS.r ⟨by nofun,PE.i (wk h0 [0] (wR rfl wTn) wVn (wL rfl rfl wLn))⟩
 rintro ex tm' hp' ⟨rfl,hw⟩
 try dsimp only
 try simp only[bP,reduceIte,Nat.reduceEqDiff,reduceCtorEq]
 refine AW.weak hw (ra hx ?_)
 refine AW.ret ?_
 cases h
 exact dm.own rfl rfl
def g5(bq:an):Option (an×(List Int)×Int):=bnd (cm [bq]) fun x1=>cnd (!x1) (some ((⟨(0:Int),(0:Int),([]:List ai)⟩:an),([]:List Int),(1:Int))) (bnd (eW bq) fun x4=>cnd (decide (x4.2≠(0:Int))) (some ((⟨(0:Int),(0:Int),([]:List ai)⟩:an),([]:List Int),x4.2)) (bnd (cu x4.1) fun x7=>some (x4.1.vm,x7,(0:Int))))
theorem rE {bq:an}{r:an×(List Int)×Int}(h:g5 bq=some r):ax prog 13 [dG aH bq] (.tu [dG aH r.1,dL (cI .i64) r.2.1,dI .i64 r.2.2]):=by
 refine bn (rs:=[.cell 2 24,.tmp 3,.tmp 4]) (fun cx hx h0=>?_) func13
 unfold g5 at h
 refine rs hx fun K hK=>?_
 refine s1 (d:=.pt 0 0) fC ?_
 refine s1 (d:=.pt 1 0) (aO aq) ?_
 refine s1 (d:=dO 2 (cI .i64) ([]:List Int)) (eC b9 bh) ?_
 refine sa ?_
 refine .nil (hK _ _ (AW.seq (rs hx fun K hK=>?_)))
 refine s1 (d:=dG aH bq) (bp aq) ?_
 refine s1 (d:=dO 3 aH [bq]) (jc uT aq) ?_
 refine scb h iN fun x1 h=>?_
 refine sa ?_
 refine .nil (hK _ _ (cdh h rfl (fun cj h=>?_) (fun cj h=>?_)))
 refine rs hx fun K hK=>?_
 refine s1 (d:=.ag [dI .i64 (0:Int),dI .i64 (0:Int),dN]) (aR aq) ?_
 refine s0 (bu (ds':=[dI .i64 (0:Int),dI .i64 (0:Int),dN]) aq) ?_
 refine s1 (d:=dO 4 (cI .i64) ([]:List Int)) (eC b9 bh) ?_
 refine sa ?_
 refine .nil (hK _ _ (AW.ret ?_))
 cases h
 exact dm.mk3 (bN (es:=[dI .i64 (0:Int),dI .i64 (0:Int),dN]) rfl aq rfl rfl (ltb rfl) (leb rfl) rfl (cK rfl (cK rfl (.inr ⟨_,_,_,(et (wc (bI _) (wc (bI _) (wc (mW rfl) wcn)))),(tx _),(ao _),⟨rfl,rfl,rfl⟩,rfl⟩))))
 refine AW.skip (rs hx fun K hK=>?_)
 refine s1 (d:=dG aH bq) (bp aq) ?_
 refine scb h lY fun x4 h=>?_
 iterate 3 refine sa ?_
 refine s1 (d:=.pt 4 0) (aO kq) ?_
 refine s0 (bu (ds':=[dI .i64 x4.1.vm.vR,dI .i64 x4.1.vm.vC,dL ae x4.1.vm.vV,dL bf x4.1.vl]) kq) ?_
 refine sa ?_
 refine .nil (hK _ _ (AW.seq (ra hx ?_)))
 refine cdh h rfl (fun lZ h=>?_) (fun lZ h=>?_)
 refine rs hx fun K hK=>?_
 refine s1 (d:=.ag [dI .i64 (0:Int),dI .i64 (0:Int),dN]) (aR aq) ?_
 refine sa ?_
 refine s0 (bu (ds':=[dI .i64 (0:Int),dI .i64 (0:Int),dN]) aq) ?_
 refine s1 (d:=dO 5 (cI .i64) ([]:List Int)) (eC b9 bh) ?_
 refine sa ?_
 refine .nil (hK _ _ (AW.ret ?_))
 cases h
 exact dm.mk3 (bN (es:=[dI .i64 (0:Int),dI .i64 (0:Int),dN]) rfl aq rfl rfl (ltb rfl) (leb rfl) rfl (cK rfl (cK rfl (.inr ⟨_,_,_,(et (wc (bI _) (wc (bI _) (wc (mW rfl) wcn)))),(tx _),(ao _),⟨rfl,rfl,rfl⟩,rfl⟩))))
 refine AW.skip (rsd [] hx fun K hK=>?_)
 refine sa ?_
 refine s1 (d:=dG aH x4.1.vm) (bp aq) ?_
 refine s1 (d:=dG sx x4.1) (bp kq) ?_
 obtain⟨x7,K1,h⟩:=ah h
 refine s1 (H9 rfl (mr K1) (by simp only[fx,i2,nZ,rW,j7,mf];exact dH _ _) (lA (ao _) lAn)) ?_
 refine s0 (bu (ds':=[dI .i64 x4.1.vm.vR,dI .i64 x4.1.vm.vC,dL ae x4.1.vm.vV]) aq) ?_
 iterate 2 refine sa ?_
 refine .nil (hK _ _ (AW.ret ?_))
 cases h
 exact dm.mk3 (bN (es:=(aH.f x4.1.vm).map .e) rfl aq rfl rfl (ltb rfl) (leb rfl) rfl (cK rfl (cK rfl (.inr ⟨_,_,_,(ao _),(tx _),(ao _),⟨rfl,rfl,rfl⟩,rfl⟩))))
def kQ(x8:dh×Int):Int×Int→Option ((Int×Int)⊕Int):=fun (j9,s7)=>cnd (decide (s7<((x8.1.vl).length:Int))) (bnd (S:=Int) (gd (0≤s7∧s7<((x8.1.vl).length:Int)) (cnd (((x8.1.vl)[(s7).toNat]!).vmoved) (some (i64.wrap (0 - j9))) (some (j9)))) fun fQ=>some (.inl (fQ,i64.wrap (s7+(1:Int))))) (some (.inr j9))
def kP(x8:dh×Int):Int×ai→Option ((Int×ai)⊕ai):=fun (tM,Eh)=>cnd (decide (tM<((x8.1.vl).length:Int))) (gd (0≤tM∧tM<((x8.1.vl).length:Int)) (bnd (fh Eh (((x8.1.vl)[(tM).toNat]!).vby)) fun yo=>some (.inl (i64.wrap (tM+(1:Int)),yo)))) (some (.inr Eh))
def lS(bq:an):Option (ai×Int):=bnd (S:=Bool) (bnd (cm [bq]) fun x1=>cnd (!x1) (some (true)) (some (decide (bq.vR≠bq.vC)))) fun a8=>cnd a8 (bnd (some ((⟨(⟨false,false,(cQ)⟩:ap),(⟨false,false,(cQ)⟩:ap)⟩:ai))) fun x6=>some (x6,(1:Int))) (bnd (eW bq) fun x8=>cnd (decide (x8.2≠(0:Int))) (bnd (some ((⟨(⟨false,false,(cQ)⟩:ap),(⟨false,false,(cQ)⟩:ap)⟩:ai))) fun fU=>some (fU,x8.2)) (cnd (decide (((x8.1.vl).length:Int)<bq.vR)) (bnd (e9 (0:Int)) fun nV=>some (nV,(0:Int))) (bnd (aK (kQ x8) ((1:Int),(0:Int))) fun Ac=>bnd (e9 Ac) fun vA=>bnd (aK (kP x8) ((0:Int),vA)) fun sm=>bnd (ci sm) fun Mu=>cnd (!Mu) (bnd (some ((⟨(⟨false,false,(cQ)⟩:ap),(⟨false,false,(cQ)⟩:ap)⟩:ai))) fun Aq=>some (Aq,(30:Int))) (some (sm,(0:Int))))))
theorem uR {bq:an}{r:ai×Int}(h:lS bq=some r):ax prog 16 [dG aH bq] (.tu [dG ae r.1,dI .i64 r.2]):=by
 refine bn (rs:=[.cell 2 34,.tmp 3]) (fun cx hx h0=>?_) func16
 unfold lS at h
 refine rs hx fun K hK=>?_
 refine s1 (d:=.pt 0 0) fC ?_
 refine s1 (lB (F:=ae.f co) aC) ?_
 refine sa ?_
 refine .nil (hK _ _ ?_)
 iterate 2 refine AW.seq ?_
 obtain⟨a8,hy,h⟩:=ah h
 refine jn ((PE cx .normal (fun a8=>[(1,.pt 0 0),(2,.pt 1 0),(22,dB a8)]) fun a8=>⟨[(0,[dI .i64 bq.vR,dI .i64 bq.vC,dL ae bq.vV]),(1,dC (ae.f co))],[],2⟩) a8) ?_ ?_
 replace h:=hy
 refine rq hx fun K hK=>?_
 refine s1 (d:=dG aH bq) (bp aq) ?_
 refine s1 (d:=dO 2 aH [bq]) (jc uT aq) ?_
 refine scb h iN fun x1 h=>?_
 iterate 2 refine sa ?_
 rcases ee (!x1) with cj|cj
 replace h:=ek cj h
 iterate 5 refine aT rfl rfl cj ?_
 refine s1 (au cj) ?_
 refine .nil (hK _ _ ?_)
 cases h
 exact pe0 h0 [0,1]
 replace h:=eo cj h
 refine ga cj ?_
 refine g1 cj (bK bh) ?_
 refine ga cj ?_
 refine g1 cj (bK bh) ?_
 refine ga cj ?_
 refine s1 (aN cj) ?_
 refine .nil (hK _ _ ?_)
 cases h
 exact pe0 h0 [0,1]
 rintro ex tm' hp' ⟨rfl,hw⟩
 refine AW.weak hw (cdh h rfl (fun pI h=>?_) (fun pI h=>?_))
 refine rs hx fun K hK=>?_
 refine s1 (d:=dG ae co) (eT (FL.nil _) aC) ?_
 obtain⟨x6,tV,h⟩:=ah h
 replace tV:=d5 tV
 refine s0 (fq (b':=co) (aX.id _ _) aC tV) ?_
 refine sa ?_
 refine .nil (hK _ _ (AW.ret ?_))
 cases h
 exact rv2
 refine AW.skip (rs hx fun K hK=>?_)
 refine s1 (d:=dG aH bq) (bp aq) ?_
 refine scb h lY fun x8 h=>?_
 iterate 3 refine sa ?_
 refine s1 (d:=.pt 2 0) (aO kq) ?_
 refine s0 (bu (ds':=[dI .i64 x8.1.vm.vR,dI .i64 x8.1.vm.vC,dL ae x8.1.vm.vV,dL bf x8.1.vl]) kq) ?_
 refine sa ?_
 refine .nil (hK _ _ (AW.seq (AW.block (ra hx ?_))))
 refine cdh h rfl (fun jw h=>?_) (fun jw h=>?_)
 refine rs hx fun K hK=>?_
 refine s1 (d:=dG ae co) (eT (FL.nil _) aC) ?_
 refine sa ?_
 obtain⟨fU,Dm,h⟩:=ah h
 replace Dm:=d5 Dm
 refine s0 (fq (b':=co) (aX.id _ _) aC Dm) ?_
 refine sa ?_
 refine .nil (hK _ _ (AW.ret ?_))
 cases h
 exact rv2
 refine rs hx fun K hK=>?_
 refine sa ?_
 refine s1 (bK tq) ?_
 iterate 2 refine sa ?_
 refine s1 (bK bh) ?_
 iterate 2 refine sa ?_
 refine .nil (hK _ _ (cdh h rfl (fun Co h=>?_) (fun Co h=>?_)))
 refine rs hx fun K hK=>?_
 refine scb h lH fun nV h=>?_
 refine s0 (ig (b':=nV) (aX.id _ _) aC) ?_
 refine sa ?_
 refine .nil (hK _ _ (AW.ret ?_))
 cases h
 exact rv2
 refine AW.skip (ra hx ?_)
 refine AW.seq (rs hx fun K hK=>?_)
 refine sa ?_
 refine s1 (bK tq) ?_
 iterate 2 refine sa ?_
 refine .nil (hK _ _ (AW.block ?_))
 obtain⟨Ac,hy,h⟩:=ah h
 refine lp (S:=Int×Int) (X:=Int) (fun (j9,s7)=>[(2,.pt 0 0),(4,.pt 1 0),(6,dI .i64 j9),(43,dL bf x8.1.vl),(44,dI .i64 ((x8.1.vl).length:Int)),(45,dI .i64 s7)]) (fun (j9,s7)=>⟨[(0,dC (ae.f co)),(1,[dI .i64 x8.1.vm.vR,dI .i64 x8.1.vm.vC,dL ae x8.1.vm.vV,dL bf x8.1.vl])],[],2⟩) (PE cx (.exit 1) (fun Ac=>[(2,.pt 0 0),(4,.pt 1 0),(6,dI .i64 Ac)]) fun Ac=>⟨[(0,dC (ae.f co)),(1,[dI .i64 x8.1.vm.vR,dI .i64 x8.1.vm.vC,dL ae x8.1.vm.vV,dL bf x8.1.vl])],[],2⟩) hy ?_ ?_ ?_
 exact wk h0 [1,2] (wR rfl (wR rfl (wR rfl (wR rfl (wR rfl (wR rfl wTn)))))) (vC rfl (vR rfl wVn)) wLn
 clear hy h
 rintro⟨j9,s7⟩ y h
 dsimp only[kQ] at h
 refine ra hx ?_
 refine AW.seq (cdh h rfl (fun DB h=>?_) (fun DB h=>?_))
 refine AW.skip (AW.seq ?_)
 obtain⟨fQ,hy,h⟩:=ah h
 refine jn ((PE cx .normal (fun fQ=>[(2,.pt 0 0),(4,.pt 1 0),(6,dI .i64 fQ),(43,dL bf x8.1.vl),(44,dI .i64 ((x8.1.vl).length:Int)),(45,dI .i64 s7)]) fun fQ=>⟨[(0,dC (ae.f co)),(1,[dI .i64 x8.1.vm.vR,dI .i64 x8.1.vm.vC,dL ae x8.1.vm.vV,dL bf x8.1.vl])],[],2⟩) fQ) ?_ ?_
 replace h:=hy
 refine AW.block (rs hx fun K hK=>?_)
 obtain⟨Ow,h⟩:=am h
 have QN:(s7).toNat<(x8.1.vl).length:=by omega
 refine s1 (mL Ow tq im) ?_
 refine s1 (d:=dG bf ((x8.1.vl)[(s7).toNat]!)) (gk (c:=bf) (l:=x8.1.vl) (n:=(s7).toNat) (o:=0) im QN (cH _ _ rfl)) ?_
 refine s1 (lB (F:=bf.f (⟨(0:Int),co,false⟩:nU)) im) ?_
 refine s0 (ig (b':=(x8.1.vl)[(s7).toNat]!) (aX.id _ _) im) ?_
 refine .nil (hK _ _ (rs hx fun K hK=>?_))
 refine sa ?_
 refine s1 (qU (Cc ((x8.1.vl)[(s7).toNat]!)) sD) ?_
 refine .nil (hK _ _ (cdh h rfl (fun Hf h=>?_) (fun Hf h=>?_)))
 refine rb hx ?_
 cases h
 exact pe0 h0 [0,1]
 refine AW.skip ?_
 cases h
 exact pe0 h0 [0,1]
 rintro ex tm' hp' ⟨rfl,hw⟩
 refine AW.weak hw (rb hx ?_)
 cases h
 exact PS.l (pe0 h0 [0,1])
 refine AW.exit ?_
 try dsimp only
 try simp only[bP,reduceIte,Nat.reduceEqDiff,reduceCtorEq]
 cases h
 exact PS.r ⟨by nofun,PE.i (wk h0 [0,1] (wR rfl (wR rfl (wR rfl wTn))) (vC rfl (vR rfl wVn)) wLn)⟩
 rintro ex tm' hp' ⟨rfl,hw⟩
 try dsimp only
 try simp only[bP,reduceIte,Nat.reduceEqDiff,reduceCtorEq]
 refine AW.weak hw (rs hx fun K hK=>?_)
 refine sa ?_
 refine scb h lH fun vA h=>?_
 refine s1 (lB (F:=ae.f co) aC) ?_
 refine s0 (ig (b':=vA) (aX.id _ _) aC) ?_
 refine .nil (hK _ _ (AW.seq (rs hx fun K hK=>?_)))
 refine sa ?_
 refine s1 (bK tq) ?_
 iterate 2 refine sa ?_
 refine .nil (hK _ _ (AW.block ?_))
 obtain⟨sm,hy,h⟩:=ah h
 refine lp (S:=Int×ai) (X:=ai) (fun (tM,Eh)=>[(2,.pt 0 0),(9,.pt 1 0),(57,dL bf x8.1.vl),(58,dI .i64 ((x8.1.vl).length:Int)),(59,dI .i64 tM)]) (fun (tM,Eh)=>⟨[(0,dC (ae.f co)),(1,dC (ae.f Eh))],[],2⟩) (PE cx (.exit 3) (fun sm=>[(2,.pt 0 0),(9,.pt 1 0)]) fun sm=>⟨[(0,dC (ae.f co)),(1,dC (ae.f sm))],[],2⟩) hy ?_ ?_ ?_
 exact wk h0 [0,2] (wR rfl (wR rfl (wR rfl (wR rfl (wR rfl wTn))))) (vC rfl (vC rfl wVn)) wLn
 clear hy h
 rintro⟨tM,Eh⟩ y h
 dsimp only[kP] at h
 refine ra hx ?_
 refine AW.seq (cdh h rfl (fun tY h=>?_) (fun tY h=>?_))
 refine AW.skip (AW.seq (AW.block (rs hx fun K hK=>?_)))
 obtain⟨hc25,h⟩:=am h
 have Lc:(tM).toNat<(x8.1.vl).length:=by omega
 refine s1 (mL hc25 tq im) ?_
 refine s1 (d:=dG bf ((x8.1.vl)[(tM).toNat]!)) (gk (c:=bf) (l:=x8.1.vl) (n:=(tM).toNat) (o:=0) im Lc (cH _ _ rfl)) ?_
 refine s1 (lB (F:=bf.f (⟨(0:Int),co,false⟩:nU)) im) ?_
 refine s0 (ig (b':=(x8.1.vl)[(tM).toNat]!) (aX.id _ _) im) ?_
 refine .nil (hK _ _ (rq hx fun K hK=>?_))
 refine s1 (d:=dG ae Eh) (nq (aX.id _ _) aC) ?_
 refine sa ?_
 refine s1 (nq (GR ((x8.1.vl)[(tM).toNat]!)) aC) ?_
 refine scb h wl fun yo h=>?_
 refine s0 (ig (b':=yo) (aX.id _ _) aC) ?_
 refine .nil (hK _ _ (rb hx ?_))
 cases h
 exact PS.l (pe0 h0 [0,1])
 refine AW.exit ?_
 try dsimp only
 try simp only[bP,reduceIte,Nat.reduceEqDiff,reduceCtorEq]
 cases h
 exact PS.r ⟨by nofun,PE.i (wk h0 [0,1] (wR rfl (wR rfl wTn)) (vC rfl (vC rfl wVn)) wLn)⟩
 rintro ex tm' hp' ⟨rfl,hw⟩
 try dsimp only
 try simp only[bP,reduceIte,Nat.reduceEqDiff,reduceCtorEq]
 refine AW.weak hw (AW.seq (rs hx fun K hK=>?_))
 refine s1 (d:=dG ae sm) (nq (aX.id _ _) aC) ?_
 refine scb h gz fun Mu h=>?_
 refine sa ?_
 refine .nil (hK _ _ (cdh h rfl (fun xF h=>?_) (fun xF h=>?_)))
 refine rs hx fun K hK=>?_
 refine s1 (d:=dG ae co) (eT (FL.nil _) aC) ?_
 obtain⟨Aq,GW,h⟩:=ah h
 replace GW:=d5 GW
 refine s0 (fq (b':=co) (aX.id _ _) aC GW) ?_
 refine sa ?_
 refine .nil (hK _ _ (AW.ret ?_))
 cases h
 exact rv2
 refine AW.skip (rs hx fun K hK=>?_)
 refine s1 (d:=dG ae sm) (nq (aX.id _ _) aC) ?_
 refine s0 (ig (b':=sm) (aX.id _ _) aC) ?_
 refine sa ?_
 refine .nil (hK _ _ (AW.ret ?_))
 cases h
 exact rv2
def eG(qB:List Int)(qk:Int):Int→Option (Int⊕(Int⊕Unit)):=fun aU=>cnd (decide (aU<((qB).length:Int))) (gd (0≤aU∧aU<((qB).length:Int)) (cnd (decide (qk=((qB)[(aU).toNat]!))) (some (.inr (.inl aU))) (some (.inl (i64.wrap (aU+(1:Int))))))) (some (.inr (.inr ())))
def iu(qB:List Int)(qk:Int):Option Int:=bnd (aK (eG qB qk) (0:Int)) fun y5=>match y5 with| .inl r=>some r| .inr ()=>some (-1:Int)
theorem uN {qB:List Int}{qk:Int}{r:Int}(h:iu qB qk=some r):ax prog 121 [dL (cI .i64) qB,dI .i64 qk] (dI .i64 r):=by
 refine bn (rs:=[.tmp 4]) (fun cx hx h0=>?_) func121
 unfold iu at h
 refine ra hx ?_
 refine AW.seq (ra hx ?_)
 refine AW.block ?_
 obtain⟨y,hy,h⟩:=ah h
 refine lp (S:=Int) (X:=Int⊕Unit) (fun aU=>[(0,dL (cI .i64) qB),(1,dI .i64 qk),(7,dI .i64 ((qB).length:Int)),(8,dI .i64 aU)]) (fun aU=>⟨[],[],0⟩) (PS (PR [.tmp 4] fun r=>dI .i64 r) (PE cx (.exit 0) (fun ()=>[]) fun ()=>⟨[],[],0⟩)) hy ?_ ?_ ?_
 exact wk h0 [] (wR rfl (wR rfl (wR rfl (wR rfl wTn)))) wVn wLn
 clear hy h
 rintro aU y h
 dsimp only[eG] at h
 refine ra hx ?_
 refine AW.seq (cdh h rfl (fun eF h=>?_) (fun eF h=>?_))
 refine AW.skip (AW.seq (AW.block (ra hx ?_)))
 refine rs hx fun K hK=>?_
 iterate 3 refine sa ?_
 obtain⟨rk,h⟩:=am h
 have xE:(aU).toNat<(qB).length:=by omega
 refine s1 (mL rk b9 bh) ?_
 refine s1 (mh (c:=(cI .i64)) (l:=qB) (n:=(aU).toNat) (o:=0) bh xE) ?_
 refine sa ?_
 refine .nil (hK _ _ (cdh h rfl (fun yE h=>?_) (fun yE h=>?_)))
 refine ra hx ?_
 refine AW.ret ?_
 cases h
 refine PS.r ⟨by nofun,PS.l (PR.i ?_)⟩
 exact rv1
 refine AW.skip (rb hx ?_)
 cases h
 exact PS.l (pe0 h0 [])
 refine AW.exit ?_
 try dsimp only
 try simp only[bP,reduceIte,Nat.reduceEqDiff,reduceCtorEq]
 cases h
 exact PS.r ⟨by nofun,PS.r (PE.i (wk h0 [] wTn wVn wLn))⟩
 rcases y with r|⟨⟩
 rintro ex tm' hp' ⟨rfl,hw⟩
 cases h
 exact hw
 rintro ex tm' hp' ⟨rfl,hw⟩
 try dsimp only
 try simp only[bP,reduceIte,Nat.reduceEqDiff,reduceCtorEq]
 refine AW.weak hw (ra hx ?_)
 refine AW.ret ?_
 cases h
 exact rv1
def dK(qB:List Int)(qk:Int):Option Bool:=bnd (iu qB qk) fun x1=>some (decide ((0:Int)≤x1))
theorem nW {qB:List Int}{qk:Int}{r:Bool}(h:dK qB qk=some r):ax prog 76 [dL (cI .i64) qB,dI .i64 qk] (dB r):=by
 refine bn (rs:=[.tmp 4]) (fun cx hx h0=>?_) func76
 unfold dK at h
 refine ra hx ?_
 refine rs hx fun K hK=>?_
 iterate 2 refine sa ?_
 refine scb h uN fun x1 h=>?_
 iterate 2 refine sa ?_
 refine .nil (hK _ _ (AW.ret ?_))
 cases h
 exact rv1
def gq(a6:an)(jW:dh×Int):(List ai)×Int→Option (((List ai)×Int)⊕((List ai))):=fun (z8,Ei)=>cnd (decide (Ei<((jW.1.vl).length:Int))) (bnd (cY jW.1.vm Ei a6.vC) fun vA=>gd ((z8++[vA]).length*136≤140737488355328) (some (.inl (z8++[vA],i64.wrap (Ei+(1:Int)))))) (some (.inr z8))
def iY(a6:an)(aZ:List ai):Option ((List ai)×Int):=bnd (S:=Bool) (bnd (cm [a6]) fun x1=>cnd (!x1) (some (true)) (cnd (decide (((aZ).length:Int)≠a6.vR)) (some (true)) (bnd (er aZ) fun x5=>some (!x5)))) fun a8=>cnd a8 (some (([]:List ai),(1:Int))) (bnd (jo a6 (⟨a6.vR,(1:Int),aZ⟩:an)) fun x9=>cnd (decide (x9.2≠(0:Int))) (some (([]:List ai),x9.2)) (bnd (eW x9.1) fun jW=>cnd (decide (jW.2≠(0:Int))) (some (([]:List ai),jW.2)) (bnd (cu jW.1) fun uL=>bnd (dK uL a6.vC) fun pk=>cnd pk (some (([]:List ai),(200:Int))) (cnd (decide (((jW.1.vl).length:Int)<a6.vC)) (some (([]:List ai),(70:Int))) (bnd (aK (gq a6 jW) (([]:List ai),(0:Int))) fun xm=>some (xm,(0:Int)))))))
theorem sy {a6:an}{aZ:List ai}{r:(List ai)×Int}(h:iY a6 aZ=some r):ax prog 29 [dG aH a6,dL ae aZ] (.tu [dL ae r.1,dI .i64 r.2]):=by
 refine bn (rs:=[.tmp 4,.tmp 5]) (fun cx hx h0=>?_) func29
 unfold iY at h
 refine rs hx fun K hK=>?_
 refine s1 (d:=.pt 0 0) fC ?_
 refine s1 (d:=dO 1 ae ([]:List ai)) (eC aF aC) ?_
 refine sa ?_
 refine .nil (hK _ _ ?_)
 iterate 2 refine AW.seq ?_
 obtain⟨a8,hy,h⟩:=ah h
 refine jn ((PE cx .normal (fun a8=>[(1,dL ae aZ),(2,.pt 0 0),(26,dB a8)]) fun a8=>⟨[(0,[dI .i64 a6.vR,dI .i64 a6.vC,dL ae a6.vV])],[],1⟩) a8) ?_ ?_
 replace h:=hy
 refine rq hx fun K hK=>?_
 refine s1 (d:=dG aH a6) (bp aq) ?_
 refine s1 (d:=dO 2 aH [a6]) (jc uT aq) ?_
 refine scb h iN fun x1 h=>?_
 iterate 2 refine sa ?_
 rcases ee (!x1) with cj|cj
 replace h:=ek cj h
 iterate 5 refine aT rfl rfl cj ?_
 refine s1 (au cj) ?_
 refine sa ?_
 iterate 3 refine aT rfl rfl rfl ?_
 refine s1 (au rfl) ?_
 refine .nil (hK _ _ ?_)
 cases h
 exact pe0 h0 [0]
 replace h:=eo cj h
 iterate 3 refine ga cj ?_
 refine g1 cj (bK bh) ?_
 refine ga cj ?_
 refine s1 (aN cj) ?_
 refine sa ?_
 rcases ee (decide (((aZ).length:Int)≠a6.vR)) with yE|yE
 replace h:=ek yE h
 iterate 3 refine aT rfl rfl yE ?_
 refine s1 (au yE) ?_
 refine .nil (hK _ _ ?_)
 cases h
 exact pe0 h0 [0]
 replace h:=eo yE h
 refine ga yE ?_
 obtain⟨x5,Ce,h⟩:=ah h
 refine g1 yE (wZ rfl (mj Ce) rfl (lA (ao _) lAn) (.inl rfl)) ?_
 refine ga yE ?_
 refine s1 (aN yE) ?_
 refine .nil (hK _ _ ?_)
 cases h
 exact pe0 h0 [0]
 rintro ex tm' hp' ⟨rfl,hw⟩
 refine AW.weak hw (cdh h rfl (fun Bd h=>?_) (fun Bd h=>?_))
 refine rs hx fun K hK=>?_
 refine s1 (d:=dO 1 ae ([]:List ai)) (eC aF aC) ?_
 refine sa ?_
 refine .nil (hK _ _ (AW.ret ?_))
 cases h
 exact dm.mk2 (cK rfl (cK rfl (.inr ⟨_,_,(tx _),(ao _),⟨rfl,rfl⟩,rfl⟩)))
 refine AW.skip (rs hx fun K hK=>?_)
 refine s1 (d:=dG aH a6) (bp aq) ?_
 refine sa ?_
 refine s1 (bK bh) ?_
 refine sa ?_
 refine s1 (d:=dG aH (⟨a6.vR,(1:Int),aZ⟩:an)) (aR aq) ?_
 refine scb h vG fun x9 h=>?_
 iterate 3 refine sa ?_
 refine s1 (d:=.pt 1 0) (aO aq) ?_
 refine s0 (bu (ds':=[dI .i64 x9.1.vR,dI .i64 x9.1.vC,dL ae x9.1.vV]) aq) ?_
 refine sa ?_
 refine .nil (hK _ _ (AW.seq (ra hx ?_)))
 refine cdh h rfl (fun Hh h=>?_) (fun Hh h=>?_)
 refine rs hx fun K hK=>?_
 refine sa ?_
 refine s1 (d:=dO 2 ae ([]:List ai)) (eC aF aC) ?_
 refine sa ?_
 refine .nil (hK _ _ (AW.ret ?_))
 cases h
 exact dm.mk2 (cK rfl (cK rfl (.inr ⟨_,_,(tx _),(ao _),⟨rfl,rfl⟩,rfl⟩)))
 refine AW.skip (rs hx fun K hK=>?_)
 refine s1 (d:=dG aH x9.1) (bp aq) ?_
 refine scb h lY fun jW h=>?_
 iterate 3 refine sa ?_
 refine s1 (d:=.pt 2 0) (aO kq) ?_
 refine s0 (bu (ds':=[dI .i64 jW.1.vm.vR,dI .i64 jW.1.vm.vC,dL ae jW.1.vm.vV,dL bf jW.1.vl]) kq) ?_
 refine sa ?_
 refine .nil (hK _ _ (AW.seq (AW.block (ra hx ?_))))
 refine cdh h rfl (fun u7 h=>?_) (fun u7 h=>?_)
 refine rs hx fun K hK=>?_
 refine sa ?_
 refine s1 (d:=dO 3 ae ([]:List ai)) (eC aF aC) ?_
 refine sa ?_
 refine .nil (hK _ _ (AW.ret ?_))
 cases h
 exact dm.mk2 (cK rfl (cK rfl (.inr ⟨_,_,(tx _),(ao _),⟨rfl,rfl⟩,rfl⟩)))
 refine rsd [76] hx fun K hK=>?_
 refine s1 (d:=dG sx jW.1) (bp kq) ?_
 obtain⟨uL,K5,h⟩:=ah h
 refine s1 (H9 rfl (mr K5) (by simp only[fx,i2,nZ,rW,j7,mf];exact dH _ _) (lA (ao _) lAn)) ?_
 refine sa ?_
 refine s1 (bK bh) ?_
 refine cqb h nW fun pk h=>?_
 refine sa ?_
 refine .nil (hK _ _ (cdh h rfl (fun Hf h=>?_) (fun Hf h=>?_)))
 refine rs hx fun K hK=>?_
 refine s1 (d:=dO 4 ae ([]:List ai)) (eC aF aC) ?_
 refine sa ?_
 refine .nil (hK _ _ (AW.ret ?_))
 cases h
 exact dm.mk2 (cK rfl (cK rfl (.inr ⟨_,_,(tx _),(ao _),⟨rfl,rfl⟩,rfl⟩)))
 refine rs hx fun K hK=>?_
 refine sa ?_
 refine s1 (bK tq) ?_
 iterate 2 refine sa ?_
 refine s1 (bK bh) ?_
 iterate 2 refine sa ?_
 refine .nil (hK _ _ (cdh h rfl (fun wA h=>?_) (fun wA h=>?_)))
 refine rs hx fun K hK=>?_
 refine s1 (d:=dO 4 ae ([]:List ai)) (eC aF aC) ?_
 refine sa ?_
 refine .nil (hK _ _ (AW.ret ?_))
 cases h
 exact dm.mk2 (cK rfl (cK rfl (.inr ⟨_,_,(tx _),(ao _),⟨rfl,rfl⟩,rfl⟩)))
 refine AW.skip (rs hx fun K hK=>?_)
 refine s1 (d:=dO 4 ae ([]:List ai)) (eC aF aC) ?_
 refine .nil (hK _ _ (AW.seq (rs hx fun K hK=>?_)))
 refine sa ?_
 refine s1 (bK tq) ?_
 iterate 2 refine sa ?_
 refine .nil (hK _ _ (AW.block ?_))
 obtain⟨xm,hy,h⟩:=ah h
 refine lp (S:=(List ai)×Int) (X:=(List ai)) (fun (z8,Ei)=>[(2,.pt 0 0),(8,.pt 1 0),(9,dO 2 ae z8),(63,dI .i64 ((jW.1.vl).length:Int)),(64,dI .i64 Ei)]) (fun (z8,Ei)=>⟨[(0,[dI .i64 a6.vR,dI .i64 a6.vC,dL ae a6.vV]),(1,[dI .i64 jW.1.vm.vR,dI .i64 jW.1.vm.vC,dL ae jW.1.vm.vV,dL bf jW.1.vl])],[(2,(z8).length,36,34)],3⟩) (PE cx (.exit 1) (fun xm=>[(9,dO 0 ae xm)]) fun xm=>⟨[],[(0,(xm).length,36,34)],1⟩) hy ?_ ?_ ?_
 exact wk h0 [0,2,4] (wR rfl (wR rfl (wR rfl (wR rfl (wR rfl wTn))))) (vR rfl (vR rfl wVn)) (wL rfl rfl wLn)
 clear hy h
 rintro⟨z8,Ei⟩ y h
 dsimp only[gq] at h
 refine ra hx ?_
 refine AW.seq (cdh h rfl (fun He h=>?_) (fun He h=>?_))
 refine AW.skip (AW.seq (AW.block (ra hx ?_)))
 refine rq hx fun K hK=>?_
 iterate 2 refine sa ?_
 refine s1 (d:=dG aH jW.1.vm) (bp aq) ?_
 iterate 2 refine sa ?_
 refine s1 (bK bh) ?_
 refine scb h ln fun vA h=>?_
 refine s1 (s8 ([vA]:List ai) ae aF aC) ?_
 obtain⟨hc24,h⟩:=am h
 refine s1 (d:=dO 2 ae (z8++[vA])) (eD aF aC hc24) ?_
 refine sa ?_
 refine .nil (hK _ _ (rb hx ?_))
 cases h
 exact PS.l (pe0 h0 [0,1,2])
 refine AW.exit ?_
 try dsimp only
 try simp only[bP,reduceIte,Nat.reduceEqDiff,reduceCtorEq]
 cases h
 exact PS.r ⟨by nofun,PE.i (wk h0 [2] (wR rfl wTn) wVn (wL rfl rfl wLn))⟩
 rintro ex tm' hp' ⟨rfl,hw⟩
 try dsimp only
 try simp only[bP,reduceIte,Nat.reduceEqDiff,reduceCtorEq]
 refine AW.weak hw (ra hx ?_)
 refine AW.ret ?_
 cases h
 exact dm.mk2 (cK rfl (cK rfl (.inr ⟨_,_,(tx _),(ao _),⟨rfl,rfl⟩,rfl⟩)))
def gL(sv:Int)(cR:Int)(dU:dh)(kb:an):Option ai:=bnd (cY dU.vm sv (i64.wrap (kb.vR+cR))) fun x1=>some x1
theorem rf {sv:Int}{cR:Int}{dU:dh}{kb:an}{r:ai}(h:gL sv cR dU kb=some r):HC prog 74 [dI .i64 sv,dI .i64 cR,.pt 0 0,.pt 1 0] ⟨[(0,[dI .i64 dU.vm.vR,dI .i64 dU.vm.vC,dL ae dU.vm.vV,dL bf dU.vl]),(1,[dI .i64 kb.vR,dI .i64 kb.vC,dL ae kb.vV])],[],2⟩ (dG ae r) ⟨[(0,[dI .i64 dU.vm.vR,dI .i64 dU.vm.vC,dL ae dU.vm.vV,dL bf dU.vl]),(1,[dI .i64 kb.vR,dI .i64 kb.vC,dL ae kb.vV])],[],2⟩:=by
 refine HC.ofX (rs:=[.cell 6 34]) tok func74 rfl rfl (b7 rfl) rfl (fun cx hx h1=>?_)
 have h0:cx.hp0.next=2:=by rw[h1]
 simp only[fj,Nat.reduceAdd,bB]
 unfold gL at h
 refine rs hx fun K hK=>?_
 refine s1 (lB (F:=ae.f co) aC) ?_
 refine .nil (hK _ _ (rs hx fun K hK=>?_))
 refine sa ?_
 refine s1 (d:=dG aH dU.vm) (bp aq) ?_
 iterate 2 refine sa ?_
 refine s1 (bK bh) ?_
 iterate 2 refine sa ?_
 refine scb h ln fun x1 h=>?_
 refine s0 (ig (b':=x1) (aX.id _ _) aC) ?_
 refine .nil (hK _ _ (AW.ret ?_))
 cases h
 exact⟨_,ws rfl aC rfl rfl (ltb rfl) (ae.h _) (rfl),qg.of_wk (by rw[hx];exact b7 rfl) (wkN h0 [] (wG rfl (ao _) wTn) (vR rfl (vR rfl wVn)) wLn)⟩
def jM(cG:Int)(dU:dh)(kb:an)(aG:Int):Int×(List ai)→Option ((Int×(List ai))⊕((List ai))):=fun (dX,ce)=>cnd (decide (dX<cG)) (bnd (gL aG dX dU kb) fun x3=>gd ((ce++[x3]).length*136≤140737488355328) (some (.inl (i64.wrap (dX+(1:Int)),ce++[x3])))) (some (.inr ce))
def kj(dJ:Int)(cG:Int)(dU:dh)(kb:an):Int×(List ai)→Option ((Int×(List ai))⊕((List ai))):=fun (aG,aS)=>cnd (decide (aG<dJ)) (bnd (aK (jM cG dU kb aG) ((0:Int),aS)) fun dT=>some (.inl (i64.wrap (aG+(1:Int)),dT))) (some (.inr aS))
def iK(dJ:Int)(cG:Int)(dU:dh)(kb:an):Option (an×Int):=bnd (aK (kj dJ cG dU kb) ((0:Int),([]:List ai))) fun aE=>bnd (er aE) fun x8=>cnd (!x8) (some ((⟨(0:Int),(0:Int),([]:List ai)⟩:an),(30:Int))) (some ((⟨dJ,cG,aE⟩:an),(0:Int)))
theorem Ax {dJ:Int}{cG:Int}{dU:dh}{kb:an}{r:an×Int}(h:iK dJ cG dU kb=some r):HC prog 73 [dI .i64 dJ,dI .i64 cG,.fn 74 [0,1]] ⟨[(0,[dI .i64 dU.vm.vR,dI .i64 dU.vm.vC,dL ae dU.vm.vV,dL bf dU.vl]),(1,[dI .i64 kb.vR,dI .i64 kb.vC,dL ae kb.vV])],[],2⟩ (.tu [dG aH r.1,dI .i64 r.2]) ⟨[(0,[dI .i64 dU.vm.vR,dI .i64 dU.vm.vC,dL ae dU.vm.vV,dL bf dU.vl]),(1,[dI .i64 kb.vR,dI .i64 kb.vC,dL ae kb.vV])],[],2⟩:=by
 refine HC.ofX (rs:=[.cell 6 24,.tmp 7]) tok func73 rfl rfl (b7 rfl) rfl (fun cx hx h1=>?_)
 have h0:cx.hp0.next=2:=by rw[h1]
 simp only[fj,Nat.reduceAdd,bB]
 unfold iK at h
 refine rs hx fun K hK=>?_
 refine s1 (d:=.pt 2 0) (aO aq) ?_
 refine sa ?_
 refine .nil (hK _ _ (rs hx fun K hK=>?_))
 iterate 2 refine sa ?_
 refine s1 (d:=.ag [dI .i64 dJ,dI .i64 cG,dN]) (aR aq) ?_
 refine s1 (d:=.pt 3 0) (aO aq) ?_
 refine s0 (bu (ds':=[dI .i64 dJ,dI .i64 cG,dN]) aq) ?_
 refine .nil (hK _ _ (AW.seq (ra hx ?_)))
 refine AW.block ?_
 obtain⟨aE,hy,h⟩:=ah h
 refine lp (S:=Int×(List ai)) (X:=(List ai)) (fun (aG,aS)=>[(1,dI .i64 cG),(2,.fn 74 [0,1]),(6,.pt 2 0),(8,.pt 3 0),(14,dI .i64 dJ),(15,dI .i64 aG)]) (fun (aG,aS)=>⟨[(0,[dI .i64 dU.vm.vR,dI .i64 dU.vm.vC,dL ae dU.vm.vV,dL bf dU.vl]),(1,[dI .i64 kb.vR,dI .i64 kb.vC,dL ae kb.vV]),(2,[dI .i64 (0:Int),dI .i64 (0:Int),dN]),(3,[dI .i64 dJ,dI .i64 cG,dO 4 ae aS])],[(4,(aS).length,36,34)],5⟩) (PE cx (.exit 0) (fun aE=>[(6,.pt 2 0),(8,.pt 3 0)]) fun aE=>⟨[(0,[dI .i64 dU.vm.vR,dI .i64 dU.vm.vC,dL ae dU.vm.vV,dL bf dU.vl]),(1,[dI .i64 kb.vR,dI .i64 kb.vC,dL ae kb.vV]),(2,[dI .i64 (0:Int),dI .i64 (0:Int),dN]),(3,[dI .i64 dJ,dI .i64 cG,dO 4 ae aE])],[(4,(aE).length,36,34)],5⟩) hy ?_ ?_ ?_
 exact Wk.trans (Wk.nilOwn (ds':=[dI .i64 dJ,dI .i64 cG,dO 4 ae ([]:List ai)]) 3 2 34 36) (wkN h0 [2,3,4] (wR rfl (wR rfl (wR rfl (wR rfl (wR rfl (wR rfl wTn)))))) (vR rfl (vR rfl (vR rfl (vR rfl wVn)))) (wL rfl rfl wLn))
 clear hy h
 rintro⟨aG,aS⟩ y h
 dsimp only[kj] at h
 refine ra hx ?_
 refine AW.seq (cdh h rfl (fun eF h=>?_) (fun eF h=>?_))
 refine AW.skip (AW.seq (AW.block ?_))
 iterate 2 refine ra hx ?_
 refine AW.block ?_
 obtain⟨dT,hy,h⟩:=ah h
 refine lp (S:=Int×(List ai)) (X:=(List ai)) (fun (dX,ce)=>[(1,dI .i64 cG),(2,.fn 74 [0,1]),(6,.pt 2 0),(8,.pt 3 0),(9,dI .i64 aG),(14,dI .i64 dJ),(15,dI .i64 aG),(18,dI .i64 cG),(19,dI .i64 dX)]) (fun (dX,ce)=>⟨[(0,[dI .i64 dU.vm.vR,dI .i64 dU.vm.vC,dL ae dU.vm.vV,dL bf dU.vl]),(1,[dI .i64 kb.vR,dI .i64 kb.vC,dL ae kb.vV]),(2,[dI .i64 (0:Int),dI .i64 (0:Int),dN]),(3,[dI .i64 dJ,dI .i64 cG,dO 4 ae ce])],[(4,(ce).length,36,34)],5⟩) (PE cx (.exit 2) (fun dT=>[(1,dI .i64 cG),(2,.fn 74 [0,1]),(6,.pt 2 0),(8,.pt 3 0),(14,dI .i64 dJ),(15,dI .i64 aG)]) fun dT=>⟨[(0,[dI .i64 dU.vm.vR,dI .i64 dU.vm.vC,dL ae dU.vm.vV,dL bf dU.vl]),(1,[dI .i64 kb.vR,dI .i64 kb.vC,dL ae kb.vV]),(2,[dI .i64 (0:Int),dI .i64 (0:Int),dN]),(3,[dI .i64 dJ,dI .i64 cG,dO 4 ae dT])],[(4,(dT).length,36,34)],5⟩) hy ?_ ?_ ?_
 exact wkN h0 [2,3,4] (wR rfl (wR rfl (wR rfl (wR rfl (wR rfl (wR rfl (wR rfl (wR rfl (wR rfl wTn))))))))) (vR rfl (vR rfl (vR rfl (vR rfl wVn)))) (wL rfl rfl wLn)
 clear hy h
 rintro⟨dX,ce⟩ y h
 dsimp only[jM] at h
 refine ra hx ?_
 refine AW.seq (cdh h rfl (fun tz h=>?_) (fun tz h=>?_))
 refine AW.skip (AW.seq (AW.block (ra hx ?_)))
 obtain⟨x3,GV,h⟩:=ah h
 obtain⟨FQ,h⟩:=am h
 refine jn (PE cx .normal (fun (_:Unit)=>[(1,dI .i64 cG),(2,.fn 74 [0,1]),(6,.pt 2 0),(8,.pt 3 0),(9,dI .i64 aG),(14,dI .i64 dJ),(15,dI .i64 aG),(18,dI .i64 cG),(19,dI .i64 dX)]) (fun (_:Unit)=>⟨[(0,[dI .i64 dU.vm.vR,dI .i64 dU.vm.vC,dL ae dU.vm.vV,dL bf dU.vl]),(1,[dI .i64 kb.vR,dI .i64 kb.vC,dL ae kb.vV]),(2,[dI .i64 (0:Int),dI .i64 (0:Int),dN]),(3,[dI .i64 dJ,dI .i64 cG,dO 4 ae (ce++[x3])])],[(4,(ce++[x3]).length,36,34)],5⟩) ()) ?_ ?_
 refine dw (DW.split 1 5 (by decide) ?_ ?_)
 refine dwg [] [0,1,2,3,4,5,6,7,8,9] hx (by kernel_rfl) (by kernel_rfl) (by kernel_rfl) fun K hK=>?_
 dsimp only[dt,lf,li,List.map]
 refine sa ?_
 refine s1 (bK aF) ?_
 iterate 3 refine sa ?_
 refine s1 (uE [0,1] rfl (rf GV) (fA (ao _) (fA (ao _) (fA (ao _) (fA (ao _) fAn)))) (vR rfl (vR rfl wVn)) wLn (rvE (rvE rvN)) (yG _ _ _) (FD _ _)) ?_
 refine s1 (mM ([x3]:List ai) ae aF aC) ?_
 refine s1 (d:=dO 4 ae (ce++[x3])) (eD aF aC FQ) ?_
 refine sa ?_
 refine s0 (bu (ds':=[dI .i64 dJ,dI .i64 cG,dO 4 ae (ce++[x3])]) aF) ?_
 exact .nil (hK _ _ (PE.i (wkN h0 [2,3,4] (wR rfl (wR rfl (wR rfl (wR rfl (wR rfl (wR rfl (wR rfl (wR rfl (wR rfl wTn))))))))) (vR rfl (vR rfl (vR rfl (vR rfl wVn)))) (wL rfl rfl wLn))))
 refine dwg [] [0,2,3,4,5,1,6,7,8,9] hx (by kernel_rfl) (by kernel_rfl) (by kernel_rfl) fun K hK=>?_
 dsimp only[dt,lf,li,List.map]
 iterate 4 refine sa ?_
 refine s1 (uE [0,1] rfl (rf GV) (fA (ao _) (fA (ao _) (fA (ao _) (fA (ao _) fAn)))) (vR rfl (vR rfl wVn)) wLn (rvE (rvE rvN)) (yG _ _ _) (FD _ _)) ?_
 refine s1 (bK aF) ?_
 refine s1 (mM ([x3]:List ai) ae aF aC) ?_
 refine s1 (d:=dO 4 ae (ce++[x3])) (eD aF aC FQ) ?_
 refine sa ?_
 refine s0 (bu (ds':=[dI .i64 dJ,dI .i64 cG,dO 4 ae (ce++[x3])]) aF) ?_
 exact .nil (hK _ _ (PE.i (wkN h0 [2,3,4] (wR rfl (wR rfl (wR rfl (wR rfl (wR rfl (wR rfl (wR rfl (wR rfl (wR rfl wTn))))))))) (vR rfl (vR rfl (vR rfl (vR rfl wVn)))) (wL rfl rfl wLn))))
 rintro ex tm' hp' ⟨rfl,hw⟩
 refine AW.weak hw (rb hx ?_)
 cases h
 exact PS.l (PE.i (wkN h0 [2,3,4] (wR rfl (wR rfl (wR rfl (wR rfl (wR rfl (wR rfl (wR rfl (wR rfl (wR rfl wTn))))))))) (vR rfl (vR rfl (vR rfl (vR rfl wVn)))) (wL rfl rfl wLn)))
 refine AW.exit ?_
 try dsimp only
 try simp only[bP,reduceIte,Nat.reduceEqDiff,reduceCtorEq]
 cases h
 exact PS.r ⟨by nofun,PE.i (wkN h0 [2,3,4] (wR rfl (wR rfl (wR rfl (wR rfl (wR rfl (wR rfl wTn)))))) (vR rfl (vR rfl (vR rfl (vR rfl wVn)))) (wL rfl rfl wLn))⟩
 rintro ex tm' hp' ⟨rfl,hw⟩
 try dsimp only
 try simp only[bP,reduceIte,Nat.reduceEqDiff,reduceCtorEq]
 refine AW.weak hw (rb hx ?_)
 cases h
 exact PS.l (PE.i (wkN h0 [2,3,4] (wR rfl (wR rfl (wR rfl (wR rfl (wR rfl (wR rfl wTn)))))) (vR rfl (vR rfl (vR rfl (vR rfl wVn)))) (wL rfl rfl wLn)))
 refine AW.exit ?_
 try dsimp only
 try simp only[bP,reduceIte,Nat.reduceEqDiff,reduceCtorEq]
 cases h
 exact PS.r ⟨by nofun,PE.i (wkN h0 [2,3,4] (wR rfl (wR rfl wTn)) (vR rfl (vR rfl (vR rfl (vR rfl wVn)))) (wL rfl rfl wLn))⟩
 rintro ex tm' hp' ⟨rfl,hw⟩
 try dsimp only
 try simp only[bP,reduceIte,Nat.reduceEqDiff,reduceCtorEq]
 refine AW.weak hw (AW.seq (rs hx fun K hK=>?_))
 refine sa ?_
 refine s1 (bK aF) ?_
 refine scb h mj fun x8 h=>?_
 refine sa ?_
 refine .nil (hK _ _ (cdh h rfl (fun jw h=>?_) (fun jw h=>?_)))
 refine rs hx fun K hK=>?_
 refine s1 (d:=.ag [dI .i64 (0:Int),dI .i64 (0:Int),dN]) (aR aq) ?_
 refine s0 (bu (ds':=[dI .i64 (0:Int),dI .i64 (0:Int),dN]) aq) ?_
 refine sa ?_
 refine .nil (hK _ _ (AW.ret ?_))
 cases h
 exact⟨_,bN (es:=[dI .i64 (0:Int),dI .i64 (0:Int),dN]) rfl aq rfl rfl (ltb rfl) (leb rfl) rfl (cK rfl (rfl)),qg.of_wk2 (by rw[hx];exact b7 rfl) (wkN h0 [] (wG rfl (et (wc (bI _) (wc (bI _) (wc (mW rfl) wcn)))) (wR rfl wTn)) (vR rfl (vR rfl wVn)) wLn)⟩
 refine AW.skip (rs hx fun K hK=>?_)
 refine s1 (d:=.ag [dI .i64 dJ,dI .i64 cG,dO 4 ae aE]) (bp aq) ?_
 refine s0 (bu (ds':=[dI .i64 dJ,dI .i64 cG,dO 4 ae aE]) aq) ?_
 refine sa ?_
 refine .nil (hK _ _ (AW.ret ?_))
 cases h
 exact⟨_,bN (es:=[dI .i64 dJ,dI .i64 cG,dO 4 ae aE]) rfl aq rfl rfl (ltb rfl) (leb rfl) rfl (cK rfl (rfl)),qg.of_wk2 (by rw[hx];exact b7 rfl) (wkN h0 [] (wG rfl (et (wc (bI _) (wc (bI _) (wc (tT _) wcn)))) (wR rfl wTn)) (vR rfl (vR rfl wVn)) wLn)⟩
def gK(fU:dh×Int):Int→Option (Int⊕((an×Int)⊕Unit)):=fun j8=>cnd (decide (j8<((fU.1.vl).length:Int))) (gd (0≤j8∧j8<((fU.1.vl).length:Int)) (cnd (decide ((((fU.1.vl)[(j8).toNat]!).vcol)≠j8)) (some (.inr (.inl ((⟨(0:Int),(0:Int),([]:List ai)⟩:an),(70:Int))))) (some (.inl (i64.wrap (j8+(1:Int))))))) (some (.inr (.inr ())))
def kO(bq:an):Option (an×Int):=bnd (S:=Bool) (bnd (cm [bq]) fun x1=>cnd (!x1) (some (true)) (some (decide (bq.vR≠bq.vC)))) fun a8=>cnd a8 (some ((⟨(0:Int),(0:Int),([]:List ai)⟩:an),(1:Int))) (bnd (gT bq.vR) fun x6=>bnd (jo bq x6) fun x8=>cnd (decide (x8.2≠(0:Int))) (some ((⟨(0:Int),(0:Int),([]:List ai)⟩:an),x8.2)) (bnd (eW x8.1) fun fU=>cnd (decide (fU.2≠(0:Int))) (some ((⟨(0:Int),(0:Int),([]:List ai)⟩:an),fU.2)) (bnd (aK (gK fU) (0:Int)) fun y18=>match y18 with| .inl r=>some r| .inr ()=>bnd (iK bq.vR bq.vR fU.1 bq) fun uK=>some (uK.1,uK.2))))
theorem Az {bq:an}{r:an×Int}(h:kO bq=some r):ax prog 20 [dG aH bq] (.tu [dG aH r.1,dI .i64 r.2]):=by
 refine bn (rs:=[.cell 2 24,.tmp 3]) (fun cx hx h0=>?_) func20
 unfold kO at h
 refine rs hx fun K hK=>?_
 refine s1 (d:=.pt 0 0) fC ?_
 refine s1 (d:=.pt 1 0) (aO aq) ?_
 refine sa ?_
 refine .nil (hK _ _ ?_)
 iterate 2 refine AW.seq ?_
 obtain⟨a8,hy,h⟩:=ah h
 refine jn ((PE cx .normal (fun a8=>[(1,.pt 0 0),(2,.pt 1 0),(19,dB a8)]) fun a8=>⟨[(0,[dI .i64 bq.vR,dI .i64 bq.vC,dL ae bq.vV]),(1,[dI .i64 (0:Int),dI .i64 (0:Int),dN])],[],2⟩) a8) ?_ ?_
 replace h:=hy
 refine rq hx fun K hK=>?_
 refine s1 (d:=dG aH bq) (bp aq) ?_
 refine s1 (d:=dO 2 aH [bq]) (jc uT aq) ?_
 refine scb h iN fun x1 h=>?_
 iterate 2 refine sa ?_
 rcases ee (!x1) with cj|cj
 replace h:=ek cj h
 iterate 5 refine aT rfl rfl cj ?_
 refine s1 (au cj) ?_
 refine .nil (hK _ _ ?_)
 cases h
 exact pe0 h0 [0,1]
 replace h:=eo cj h
 refine ga cj ?_
 refine g1 cj (bK bh) ?_
 refine ga cj ?_
 refine g1 cj (bK bh) ?_
 refine ga cj ?_
 refine s1 (aN cj) ?_
 refine .nil (hK _ _ ?_)
 cases h
 exact pe0 h0 [0,1]
 rintro ex tm' hp' ⟨rfl,hw⟩
 refine AW.weak hw (cdh h rfl (fun pI h=>?_) (fun pI h=>?_))
 refine rs hx fun K hK=>?_
 refine s1 (d:=.ag [dI .i64 (0:Int),dI .i64 (0:Int),dN]) (aR aq) ?_
 refine s0 (bu (ds':=[dI .i64 (0:Int),dI .i64 (0:Int),dN]) aq) ?_
 refine sa ?_
 refine .nil (hK _ _ (AW.ret ?_))
 cases h
 exact dm.mk2 (bN (es:=[dI .i64 (0:Int),dI .i64 (0:Int),dN]) rfl aq rfl rfl (ltb rfl) (leb rfl) rfl (cK rfl (.inr ⟨_,_,(et (wc (bI _) (wc (bI _) (wc (mW rfl) wcn)))),(ao _),⟨rfl,rfl⟩,rfl⟩)))
 refine AW.skip (rsd [43,51] hx fun K hK=>?_)
 refine s1 (d:=dG aH bq) (bp aq) ?_
 refine sa ?_
 refine s1 (bK bh) ?_
 refine cqb h tj fun x6 h=>?_
 refine cqb h vG fun x8 h=>?_
 iterate 3 refine sa ?_
 refine s1 (d:=.pt 2 0) (aO aq) ?_
 refine s0 (bu (ds':=[dI .i64 x8.1.vR,dI .i64 x8.1.vC,dL ae x8.1.vV]) aq) ?_
 refine sa ?_
 refine .nil (hK _ _ (AW.seq (ra hx ?_)))
 refine cdh h rfl (fun jw h=>?_) (fun jw h=>?_)
 refine rs hx fun K hK=>?_
 refine s1 (d:=.ag [dI .i64 (0:Int),dI .i64 (0:Int),dN]) (aR aq) ?_
 refine sa ?_
 refine s0 (bu (ds':=[dI .i64 (0:Int),dI .i64 (0:Int),dN]) aq) ?_
 refine sa ?_
 refine .nil (hK _ _ (AW.ret ?_))
 cases h
 exact dm.mk2 (bN (es:=[dI .i64 (0:Int),dI .i64 (0:Int),dN]) rfl aq rfl rfl (ltb rfl) (leb rfl) rfl (cK rfl (.inr ⟨_,_,(et (wc (bI _) (wc (bI _) (wc (mW rfl) wcn)))),(ao _),⟨rfl,rfl⟩,rfl⟩)))
 refine AW.skip (rs hx fun K hK=>?_)
 refine s1 (d:=dG aH x8.1) (bp aq) ?_
 refine scb h lY fun fU h=>?_
 iterate 3 refine sa ?_
 refine s1 (d:=.pt 3 0) (aO kq) ?_
 refine s0 (bu (ds':=[dI .i64 fU.1.vm.vR,dI .i64 fU.1.vm.vC,dL ae fU.1.vm.vV,dL bf fU.1.vl]) kq) ?_
 refine sa ?_
 refine .nil (hK _ _ (AW.seq (ra hx ?_)))
 refine cdh h rfl (fun Co h=>?_) (fun Co h=>?_)
 refine rs hx fun K hK=>?_
 refine s1 (d:=.ag [dI .i64 (0:Int),dI .i64 (0:Int),dN]) (aR aq) ?_
 refine sa ?_
 refine s0 (bu (ds':=[dI .i64 (0:Int),dI .i64 (0:Int),dN]) aq) ?_
 refine sa ?_
 refine .nil (hK _ _ (AW.ret ?_))
 cases h
 exact dm.mk2 (bN (es:=[dI .i64 (0:Int),dI .i64 (0:Int),dN]) rfl aq rfl rfl (ltb rfl) (leb rfl) rfl (cK rfl (.inr ⟨_,_,(et (wc (bI _) (wc (bI _) (wc (mW rfl) wcn)))),(ao _),⟨rfl,rfl⟩,rfl⟩)))
 refine AW.skip (AW.seq (rs hx fun K hK=>?_))
 refine sa ?_
 refine s1 (bK tq) ?_
 iterate 2 refine sa ?_
 refine .nil (hK _ _ (AW.block ?_))
 obtain⟨y,hy,h⟩:=ah h
 refine lp (S:=Int) (X:=(an×Int)⊕Unit) (fun j8=>[(1,.pt 0 0),(2,.pt 1 0),(6,.pt 2 0),(43,dL bf fU.1.vl),(44,dI .i64 ((fU.1.vl).length:Int)),(45,dI .i64 j8)]) (fun j8=>⟨[(0,[dI .i64 bq.vR,dI .i64 bq.vC,dL ae bq.vV]),(1,[dI .i64 (0:Int),dI .i64 (0:Int),dN]),(2,[dI .i64 fU.1.vm.vR,dI .i64 fU.1.vm.vC,dL ae fU.1.vm.vV,dL bf fU.1.vl])],[],3⟩) (PS (PR [.cell 2 24,.tmp 3] fun r=>.tu [dG aH r.1,dI .i64 r.2]) (PE cx (.exit 0) (fun ()=>[(1,.pt 0 0),(2,.pt 1 0),(6,.pt 2 0)]) fun ()=>⟨[(0,[dI .i64 bq.vR,dI .i64 bq.vC,dL ae bq.vV]),(1,[dI .i64 (0:Int),dI .i64 (0:Int),dN]),(2,[dI .i64 fU.1.vm.vR,dI .i64 fU.1.vm.vC,dL ae fU.1.vm.vV,dL bf fU.1.vl])],[],3⟩)) hy ?_ ?_ ?_
 exact wk h0 [0,1,3] (wR rfl (wR rfl (wR rfl (wR rfl (wR rfl (wR rfl wTn)))))) (vR rfl (vR rfl (vR rfl wVn))) wLn
 clear hy h
 rintro j8 y h
 dsimp only[gK] at h
 refine ra hx ?_
 refine AW.seq (cdh h rfl (fun u7 h=>?_) (fun u7 h=>?_))
 refine AW.skip (AW.seq (AW.block (rs hx fun K hK=>?_)))
 refine sa ?_
 obtain⟨Oy,h⟩:=am h
 have E8:(j8).toNat<(fU.1.vl).length:=by omega
 refine s1 (mL Oy tq im) ?_
 refine s1 (d:=dG bf ((fU.1.vl)[(j8).toNat]!)) (gk (c:=bf) (l:=fU.1.vl) (n:=(j8).toNat) (o:=0) im E8 (cH _ _ rfl)) ?_
 refine s1 (lB (F:=bf.f (⟨(0:Int),co,false⟩:nU)) im) ?_
 refine sa ?_
 refine s0 (ig (b':=(fU.1.vl)[(j8).toNat]!) (aX.id _ _) im) ?_
 refine .nil (hK _ _ (rs hx fun K hK=>?_))
 refine sa ?_
 refine s1 (qU (xW ((fU.1.vl)[(j8).toNat]!)) bh) ?_
 iterate 2 refine sa ?_
 refine .nil (hK _ _ (cdh h rfl (fun yF h=>?_) (fun yF h=>?_)))
 refine rs hx fun K hK=>?_
 refine s1 (d:=.ag [dI .i64 (0:Int),dI .i64 (0:Int),dN]) (aR aq) ?_
 refine s0 (bu (ds':=[dI .i64 (0:Int),dI .i64 (0:Int),dN]) aq) ?_
 refine sa ?_
 refine .nil (hK _ _ (AW.ret ?_))
 cases h
 refine PS.r ⟨by nofun,PS.l (PR.i ?_)⟩
 exact dm.mk2 (bN (es:=[dI .i64 (0:Int),dI .i64 (0:Int),dN]) rfl aq rfl rfl (ltb rfl) (leb rfl) rfl (cK rfl (.inr ⟨_,_,(et (wc (bI _) (wc (bI _) (wc (mW rfl) wcn)))),(ao _),⟨rfl,rfl⟩,rfl⟩)))
 refine AW.skip (rb hx ?_)
 cases h
 exact PS.l (pe0 h0 [0,1,2])
 refine AW.exit ?_
 try dsimp only
 try simp only[bP,reduceIte,Nat.reduceEqDiff,reduceCtorEq]
 cases h
 exact PS.r ⟨by nofun,PS.r (PE.i (wk h0 [0,1,2] (wR rfl (wR rfl (wR rfl wTn))) (vR rfl (vR rfl (vR rfl wVn))) wLn))⟩
 rcases y with r|⟨⟩
 rintro ex tm' hp' ⟨rfl,hw⟩
 cases h
 exact hw
 rintro ex tm' hp' ⟨rfl,hw⟩
 try dsimp only
 try simp only[bP,reduceIte,Nat.reduceEqDiff,reduceCtorEq]
 refine AW.weak hw (rs hx fun K hK=>?_)
 refine sa ?_
 refine s1 (bK bh) ?_
 refine sa ?_
 refine s1 (bK bh) ?_
 refine s1 B5 ?_
 obtain⟨uK,Qp,h⟩:=ah h
 refine s1 (H8 [2,0] rfl (Ax Qp) (fA (ao _) (fA (ao _) (fA (ao _) fAn))) (vR rfl (vR rfl wVn)) wLn) ?_
 iterate 2 refine sa ?_
 refine s0 (bu (ds':=[dI .i64 uK.1.vR,dI .i64 uK.1.vC,dL ae uK.1.vV]) aq) ?_
 refine sa ?_
 refine .nil (hK _ _ (AW.ret ?_))
 cases h
 exact dm.mk2 (bN (es:=(aH.f uK.1).map .e) rfl aq rfl rfl (ltb rfl) (leb rfl) rfl (cK rfl (.inr ⟨_,_,(ao _),(ao _),⟨rfl,rfl⟩,rfl⟩)))
def jO(x4:dh×Int)(x7:List Int)(eO:Int)(uL:List ai):Int×(List ai)→Option ((Int×(List ai))⊕((List ai))):=fun (p9,ym)=>cnd (decide (p9<((x7).length:Int))) (bnd (S:=(List ai)) (gd (0≤p9∧p9<((x7).length:Int)) (cnd (decide (((x7)[(p9).toNat]!)<eO)) (bnd (cY x4.1.vm p9 eO) fun Am=>bnd (na Am) fun yo=>gd (0≤(x7)[(p9).toNat]!∧(x7)[(p9).toNat]! <(((uL).length:Nat):Int)∧(x7)[(p9).toNat]! <((ym).length:Int)) (some ((ym).set (((x7)[(p9).toNat]!).toNat) yo))) (some (ym)))) fun F9=>some (.inl (i64.wrap (p9+(1:Int)),F9))) (some (.inr ym))
def jP(bq:an)(x4:dh×Int)(x7:List Int):(List (List ai))×Int→Option (((List (List ai))×Int)⊕((List (List ai)))):=fun (cF,eO)=>cnd (decide (eO<bq.vC)) (bnd (S:=(List (List ai))) (bnd (dK x7 eO) fun iM=>cnd iM (some (cF)) (bnd (e9 (0:Int)) fun qz=>bnd (g8 [qz] bq.vC) fun uL=>bnd (e9 (1:Int)) fun pk=>gd (0≤eO∧eO<(((uL).length:Nat):Int)∧eO<((uL).length:Int)) (bnd (aK (jO x4 x7 eO uL) ((0:Int),(uL).set ((eO).toNat) pk)) fun sn=>gd ((uL).length=(sn).length) (gd ((cF++[sn]).length*24≤140737488355328) (some (cF++[sn])))))) fun Ep=>some (.inl (Ep,i64.wrap (eO+(1:Int))))) (some (.inr cF))
def j3(bq:an):Option ((List (List ai))×Int):=bnd (cm [bq]) fun x1=>cnd (!x1) (some (([]:List (List ai)),(1:Int))) (bnd (eW bq) fun x4=>cnd (decide (x4.2≠(0:Int))) (some (([]:List (List ai)),x4.2)) (bnd (cu x4.1) fun x7=>bnd (aK (jP bq x4 x7) (([]:List (List ai)),(0:Int))) fun xq=>some (xq,(0:Int))))
theorem xO {bq:an}{r:(List (List ai))×Int}(h:j3 bq=some r):ax prog 21 [dG aH bq] (.tu [dL (cL ae) r.1,dI .i64 r.2]):=by
 refine bn (rs:=[.tmp 2,.tmp 3]) (fun cx hx h0=>?_) func21
 unfold j3 at h
 refine rs hx fun K hK=>?_
 refine s1 (d:=.pt 0 0) fC ?_
 refine s1 (d:=dO 1 (cL ae) ([]:List (List ai))) (eC js aF) ?_
 refine sa ?_
 refine .nil (hK _ _ (AW.seq (rs hx fun K hK=>?_)))
 refine s1 (d:=dG aH bq) (bp aq) ?_
 refine s1 (d:=dO 2 aH [bq]) (jc uT aq) ?_
 refine scb h iN fun x1 h=>?_
 refine sa ?_
 refine .nil (hK _ _ (cdh h rfl (fun cj h=>?_) (fun cj h=>?_)))
 refine rs hx fun K hK=>?_
 refine s1 (d:=dO 3 (cL ae) ([]:List (List ai))) (eC js aF) ?_
 refine sa ?_
 refine .nil (hK _ _ (AW.ret ?_))
 cases h
 exact dm.mk2 (cK rfl (cK rfl (.inr ⟨_,_,(tx _),(ao _),⟨rfl,rfl⟩,rfl⟩)))
 refine AW.skip (rs hx fun K hK=>?_)
 refine s1 (d:=dG aH bq) (bp aq) ?_
 refine scb h lY fun x4 h=>?_
 iterate 3 refine sa ?_
 refine s1 (d:=.pt 3 0) (aO kq) ?_
 refine s0 (bu (ds':=[dI .i64 x4.1.vm.vR,dI .i64 x4.1.vm.vC,dL ae x4.1.vm.vV,dL bf x4.1.vl]) kq) ?_
 refine sa ?_
 refine .nil (hK _ _ (AW.seq (ra hx ?_)))
 refine cdh h rfl (fun lZ h=>?_) (fun lZ h=>?_)
 refine rs hx fun K hK=>?_
 refine sa ?_
 refine s1 (d:=dO 4 (cL ae) ([]:List (List ai))) (eC js aF) ?_
 refine sa ?_
 refine .nil (hK _ _ (AW.ret ?_))
 cases h
 exact dm.mk2 (cK rfl (cK rfl (.inr ⟨_,_,(tx _),(ao _),⟨rfl,rfl⟩,rfl⟩)))
 refine AW.skip (rs hx fun K hK=>?_)
 refine s1 (d:=dG sx x4.1) (bp kq) ?_
 obtain⟨x7,K1,h⟩:=ah h
 refine s1 (H9 rfl (mr K1) (by simp only[fx,i2,nZ,rW,j7,mf];exact dH _ _) (lA (ao _) lAn)) ?_
 refine sa ?_
 refine .nil (hK _ _ (rs hx fun K hK=>?_))
 refine s1 (d:=dO 5 (cL ae) ([]:List (List ai))) (eC js aF) ?_
 refine .nil (hK _ _ (AW.seq (rs hx fun K hK=>?_)))
 refine sa ?_
 refine s1 (bK bh) ?_
 refine sa ?_
 refine .nil (hK _ _ (AW.block ?_))
 obtain⟨xq,hy,h⟩:=ah h
 refine lp (S:=(List (List ai))×Int) (X:=(List (List ai))) (fun (cF,eO)=>[(1,.pt 0 0),(4,.pt 1 0),(6,dO 2 (cI .i64) x7),(7,dO 3 (cL ae) cF),(27,dI .i64 bq.vC),(28,dI .i64 eO)]) (fun (cF,eO)=>⟨[(0,[dI .i64 bq.vR,dI .i64 bq.vC,dL ae bq.vV]),(1,[dI .i64 x4.1.vm.vR,dI .i64 x4.1.vm.vC,dL ae x4.1.vm.vV,dL bf x4.1.vl])],[(2,(x7).length,1,3),(3,(cF).length,1,22)],4⟩) (PE cx (.exit 0) (fun xq=>[(7,dO 0 (cL ae) xq)]) fun xq=>⟨[],[(0,(xq).length,1,22)],1⟩) hy ?_ ?_ ?_
 exact wk h0 [0,3,4,5] (wR rfl (wR rfl (wR rfl (wR rfl (wR rfl (wR rfl wTn)))))) (vR rfl (vR rfl wVn)) (wL rfl rfl (wL rfl rfl wLn))
 clear hy h
 rintro⟨cF,eO⟩ y h
 dsimp only[jP] at h
 refine ra hx ?_
 refine AW.seq (cdh h rfl (fun G6 h=>?_) (fun G6 h=>?_))
 refine AW.skip (AW.seq ?_)
 obtain⟨Ep,hy,h⟩:=ah h
 refine jn ((PE cx .normal (fun Ep=>[(1,.pt 0 0),(4,.pt 1 0),(6,dO 2 (cI .i64) x7),(7,dO 3 (cL ae) Ep),(27,dI .i64 bq.vC),(28,dI .i64 eO)]) fun Ep=>⟨[(0,[dI .i64 bq.vR,dI .i64 bq.vC,dL ae bq.vV]),(1,[dI .i64 x4.1.vm.vR,dI .i64 x4.1.vm.vC,dL ae x4.1.vm.vV,dL bf x4.1.vl])],[(2,(x7).length,1,3),(3,(Ep).length,1,22)],4⟩) Ep) ?_ ?_
 replace h:=hy
 refine AW.block (ra hx ?_)
 refine AW.seq (rs hx fun K hK=>?_)
 iterate 2 refine sa ?_
 refine scb h nW fun iM h=>?_
 refine .nil (hK _ _ (cdh h rfl (fun wB h=>?_) (fun wB h=>?_)))
 refine AW.exit ?_
 try dsimp only
 try simp only[bP,reduceIte,Nat.reduceEqDiff,reduceCtorEq]
 cases h
 exact pe0 h0 [0,1,2,3]
 refine AW.skip (rsd [60] hx fun K hK=>?_)
 refine cqb h lH fun qz h=>?_
 refine s1 (mM ([qz]:List ai) ae aF aC) ?_
 refine sa ?_
 refine s1 (bK bh) ?_
 obtain⟨uL,K5,h⟩:=ah h
 refine sC0 (d:=.ow 5 0 36 ((uL).length)) (hp':=⟨[(5,dC ((cW ae).f uL)),(0,[dI .i64 bq.vR,dI .i64 bq.vC,dL ae bq.vV]),(1,[dI .i64 x4.1.vm.vR,dI .i64 x4.1.vm.vC,dL ae x4.1.vm.vV,dL bf x4.1.vl])],[(2,(x7).length,1,3),(3,(cF).length,1,22)],6⟩) (xy K5) (ARs.cons (AR.le (tx _) rfl) (ARs.cons (AR.le (ao _) rfl) ARs.nil)) (qn.l _ _) ?_
 refine sa ?_
 refine .nil (hK _ _ (rs hx fun K hK=>?_))
 iterate 2 refine sa ?_
 refine scb h lH fun pk h=>?_
 obtain⟨Lm,h⟩:=am h
 have Ld:(eO).toNat<(uL).length:=by omega
 refine s1 (nr ⟨Lm.1,Lm.2.1⟩ aF aC) ?_
 refine s0 (ig (b':=pk) (aX.seqW ae uL ((eO).toNat) Ld) aC) ?_
 refine .nil (hK _ _ (AW.seq (ra hx ?_)))
 refine AW.block ?_
 obtain⟨sn,hy,h⟩:=ah h
 refine lp (S:=Int×(List ai)) (X:=(List ai)) (fun (p9,ym)=>[(1,.pt 0 0),(4,.pt 1 0),(6,dO 2 (cI .i64) x7),(7,dO 3 (cL ae) cF),(8,dI .i64 eO),(9,.ow 4 0 36 ((uL).length)),(27,dI .i64 bq.vC),(28,dI .i64 eO),(43,dO 2 (cI .i64) x7),(44,dI .i64 ((x7).length:Int)),(45,dI .i64 p9)]) (fun (p9,ym)=>⟨[(0,[dI .i64 bq.vR,dI .i64 bq.vC,dL ae bq.vV]),(1,[dI .i64 x4.1.vm.vR,dI .i64 x4.1.vm.vC,dL ae x4.1.vm.vV,dL bf x4.1.vl]),(4,dC ((cW ae).f ym))],[(2,(x7).length,1,3),(3,(cF).length,1,22)],5⟩) (PE cx (.exit 2) (fun sn=>[(1,.pt 0 0),(4,.pt 1 0),(6,dO 2 (cI .i64) x7),(7,dO 3 (cL ae) cF),(9,.ow 4 0 36 ((uL).length)),(27,dI .i64 bq.vC),(28,dI .i64 eO)]) fun sn=>⟨[(0,[dI .i64 bq.vR,dI .i64 bq.vC,dL ae bq.vV]),(1,[dI .i64 x4.1.vm.vR,dI .i64 x4.1.vm.vC,dL ae x4.1.vm.vV,dL bf x4.1.vl]),(4,dC ((cW ae).f sn))],[(2,(x7).length,1,3),(3,(cF).length,1,22)],5⟩) hy ?_ ?_ ?_
 exact wk h0 [0,1,2,3,5] (wR rfl (wR rfl (wR rfl (wR rfl (wR rfl (wR rfl (wR rfl (wR rfl (wR rfl (wR rfl (wR rfl wTn))))))))))) (vR rfl (vR rfl (vC rfl wVn))) (wL rfl rfl (wL rfl rfl wLn))
 clear hy h
 rintro⟨p9,ym⟩ y h
 dsimp only[jO] at h
 refine ra hx ?_
 refine AW.seq (cdh h rfl (fun He h=>?_) (fun He h=>?_))
 refine AW.skip (AW.seq ?_)
 obtain⟨F9,hy,h⟩:=ah h
 refine jn ((PE cx .normal (fun F9=>[(1,.pt 0 0),(4,.pt 1 0),(6,dO 2 (cI .i64) x7),(7,dO 3 (cL ae) cF),(8,dI .i64 eO),(9,.ow 4 0 36 ((uL).length)),(27,dI .i64 bq.vC),(28,dI .i64 eO),(43,dO 2 (cI .i64) x7),(44,dI .i64 ((x7).length:Int)),(45,dI .i64 p9)]) fun F9=>⟨[(0,[dI .i64 bq.vR,dI .i64 bq.vC,dL ae bq.vV]),(1,[dI .i64 x4.1.vm.vR,dI .i64 x4.1.vm.vC,dL ae x4.1.vm.vV,dL bf x4.1.vl]),(4,dC ((cW ae).f F9))],[(2,(x7).length,1,3),(3,(cF).length,1,22)],5⟩) F9) ?_ ?_
 replace h:=hy
 refine AW.block (rs hx fun K hK=>?_)
 refine sa ?_
 obtain⟨Jx,h⟩:=am h
 have hn23:(p9).toNat<(x7).length:=by omega
 refine s1 (mL Jx b9 bh) ?_
 refine s1 (mh (c:=(cI .i64)) (l:=x7) (n:=(p9).toNat) (o:=0) bh hn23) ?_
 iterate 2 refine sa ?_
 refine .nil (hK _ _ (ra hx ?_))
 refine cdh h rfl (fun tY h=>?_) (fun tY h=>?_)
 refine rq hx fun K hK=>?_
 iterate 3 refine sa ?_
 refine s1 (d:=dG aH x4.1.vm) (bp aq) ?_
 iterate 2 refine sa ?_
 refine scb h ln fun Am h=>?_
 refine scb h BJ fun yo h=>?_
 obtain⟨hc29,h⟩:=am h
 have hn30:((x7)[(p9).toNat]!).toNat<(ym).length:=by omega
 refine s1 (nr ⟨hc29.1,hc29.2.1⟩ aF aC) ?_
 refine s0 (ig (b':=yo) (aX.seqW ae ym (((x7)[(p9).toNat]!).toNat) hn30) aC) ?_
 refine .nil (hK _ _ ?_)
 cases h
 exact pe0 h0 [0,1,2,3,4]
 refine AW.skip ?_
 cases h
 exact pe0 h0 [0,1,2,3,4]
 rintro ex tm' hp' ⟨rfl,hw⟩
 refine AW.weak hw (rb hx ?_)
 cases h
 exact PS.l (pe0 h0 [0,1,2,3,4])
 refine AW.exit ?_
 try dsimp only
 try simp only[bP,reduceIte,Nat.reduceEqDiff,reduceCtorEq]
 cases h
 exact PS.r ⟨by nofun,PE.i (wk h0 [0,1,2,3,4] (wR rfl (wR rfl (wR rfl (wR rfl (wR rfl (wR rfl (wR rfl wTn))))))) (vR rfl (vR rfl (vC rfl wVn))) (wL rfl rfl (wL rfl rfl wLn)))⟩
 rintro ex tm' hp' ⟨rfl,hw⟩
 try dsimp only
 try simp only[bP,reduceIte,Nat.reduceEqDiff,reduceCtorEq]
 refine AW.weak hw (rq hx fun K hK=>?_)
 iterate 2 refine sa ?_
 obtain⟨Rf,h⟩:=am h
 refine fzO ae (n:=(uL).length) 4 [9,64] Rf ?_ (all2 rfl (all1 rfl))
 refine s1 (d:=dO 5 (cL ae) [sn]) (jc js aF) ?_
 obtain⟨hc34,h⟩:=am h
 refine s1 (d:=dO 3 (cL ae) (cF++[sn])) (eD js aF hc34) ?_
 refine sa ?_
 refine .nil (hK _ _ ?_)
 cases h
 exact pe0 h0 [0,1,2,3]
 rintro ex tm' hp' ⟨rfl,hw⟩
 refine AW.weak hw (rb hx ?_)
 cases h
 exact PS.l (pe0 h0 [0,1,2,3])
 refine AW.exit ?_
 try dsimp only
 try simp only[bP,reduceIte,Nat.reduceEqDiff,reduceCtorEq]
 cases h
 exact PS.r ⟨by nofun,PE.i (wk h0 [3] (wR rfl wTn) wVn (wL rfl rfl wLn))⟩
 rintro ex tm' hp' ⟨rfl,hw⟩
 try dsimp only
 try simp only[bP,reduceIte,Nat.reduceEqDiff,reduceCtorEq]
 refine AW.weak hw (ra hx ?_)
 refine AW.ret ?_
 cases h
 exact dm.mk2 (cK rfl (cK rfl (.inr ⟨_,_,(tx _),(ao _),⟨rfl,rfl⟩,rfl⟩)))
def gh(sv:Int)(cR:Int)(dU:an):Option ai:=bnd (cY dU sv cR) fun x1=>some x1
theorem qp {sv:Int}{cR:Int}{dU:an}{r:ai}(h:gh sv cR dU=some r):HC prog 80 [dI .i64 sv,dI .i64 cR,.pt 0 0] ⟨[(0,[dI .i64 dU.vR,dI .i64 dU.vC,dL ae dU.vV])],[],1⟩ (dG ae r) ⟨[(0,[dI .i64 dU.vR,dI .i64 dU.vC,dL ae dU.vV])],[],1⟩:=by
 refine HC.ofX (rs:=[.cell 5 34]) tok func80 rfl rfl (b7 rfl) rfl (fun cx hx h1=>?_)
 have h0:cx.hp0.next=1:=by rw[h1]
 simp only[fj,Nat.reduceAdd,bB]
 unfold gh at h
 refine rs hx fun K hK=>?_
 refine s1 (lB (F:=ae.f co) aC) ?_
 refine .nil (hK _ _ (rs hx fun K hK=>?_))
 refine s1 (d:=dG aH dU) (bp aq) ?_
 iterate 2 refine sa ?_
 refine scb h ln fun x1 h=>?_
 refine s0 (ig (b':=x1) (aX.id _ _) aC) ?_
 refine .nil (hK _ _ (AW.ret ?_))
 cases h
 exact⟨_,ws rfl aC rfl rfl (ltb rfl) (ae.h _) (rfl),qg.of_wk (by rw[hx];exact b7 rfl) (wkN h0 [] (wG rfl (ao _) wTn) (vR rfl wVn) wLn)⟩
def jL(cG:Int)(dU:an)(aG:Int):Int×(List ai)→Option ((Int×(List ai))⊕((List ai))):=fun (dX,ce)=>cnd (decide (dX<cG)) (bnd (gh aG dX dU) fun x3=>gd ((ce++[x3]).length*136≤140737488355328) (some (.inl (i64.wrap (dX+(1:Int)),ce++[x3])))) (some (.inr ce))
def kg(dJ:Int)(cG:Int)(dU:an):Int×(List ai)→Option ((Int×(List ai))⊕((List ai))):=fun (aG,aS)=>cnd (decide (aG<dJ)) (bnd (aK (jL cG dU aG) ((0:Int),aS)) fun dT=>some (.inl (i64.wrap (aG+(1:Int)),dT))) (some (.inr aS))
def kL(dJ:Int)(cG:Int)(dU:an):Option (an×Int):=bnd (aK (kg dJ cG dU) ((0:Int),([]:List ai))) fun aE=>bnd (er aE) fun x8=>cnd (!x8) (some ((⟨(0:Int),(0:Int),([]:List ai)⟩:an),(30:Int))) (some ((⟨dJ,cG,aE⟩:an),(0:Int)))
theorem Aw {dJ:Int}{cG:Int}{dU:an}{r:an×Int}(h:kL dJ cG dU=some r):HC prog 73 [dI .i64 dJ,dI .i64 cG,.fn 80 [0]] ⟨[(0,[dI .i64 dU.vR,dI .i64 dU.vC,dL ae dU.vV])],[],1⟩ (.tu [dG aH r.1,dI .i64 r.2]) ⟨[(0,[dI .i64 dU.vR,dI .i64 dU.vC,dL ae dU.vV])],[],1⟩:=by
 refine HC.ofX (rs:=[.cell 6 24,.tmp 7]) tok func73 rfl rfl (b7 rfl) rfl (fun cx hx h1=>?_)
 have h0:cx.hp0.next=1:=by rw[h1]
 simp only[fj,Nat.reduceAdd,bB]
 unfold kL at h
 refine rs hx fun K hK=>?_
 refine s1 (d:=.pt 1 0) (aO aq) ?_
 refine sa ?_
 refine .nil (hK _ _ (rs hx fun K hK=>?_))
 iterate 2 refine sa ?_
 refine s1 (d:=.ag [dI .i64 dJ,dI .i64 cG,dN]) (aR aq) ?_
 refine s1 (d:=.pt 2 0) (aO aq) ?_
 refine s0 (bu (ds':=[dI .i64 dJ,dI .i64 cG,dN]) aq) ?_
 refine .nil (hK _ _ (AW.seq (ra hx ?_)))
 refine AW.block ?_
 obtain⟨aE,hy,h⟩:=ah h
 refine lp (S:=Int×(List ai)) (X:=(List ai)) (fun (aG,aS)=>[(1,dI .i64 cG),(2,.fn 80 [0]),(6,.pt 1 0),(8,.pt 2 0),(14,dI .i64 dJ),(15,dI .i64 aG)]) (fun (aG,aS)=>⟨[(0,[dI .i64 dU.vR,dI .i64 dU.vC,dL ae dU.vV]),(1,[dI .i64 (0:Int),dI .i64 (0:Int),dN]),(2,[dI .i64 dJ,dI .i64 cG,dO 3 ae aS])],[(3,(aS).length,36,34)],4⟩) (PE cx (.exit 0) (fun aE=>[(6,.pt 1 0),(8,.pt 2 0)]) fun aE=>⟨[(0,[dI .i64 dU.vR,dI .i64 dU.vC,dL ae dU.vV]),(1,[dI .i64 (0:Int),dI .i64 (0:Int),dN]),(2,[dI .i64 dJ,dI .i64 cG,dO 3 ae aE])],[(3,(aE).length,36,34)],4⟩) hy ?_ ?_ ?_
 exact Wk.trans (Wk.nilOwn (ds':=[dI .i64 dJ,dI .i64 cG,dO 3 ae ([]:List ai)]) 2 2 34 36) (wkN h0 [1,2,3] (wR rfl (wR rfl (wR rfl (wR rfl (wR rfl (wR rfl wTn)))))) (vR rfl (vR rfl (vR rfl wVn))) (wL rfl rfl wLn))
 clear hy h
 rintro⟨aG,aS⟩ y h
 dsimp only[kg] at h
 refine ra hx ?_
 refine AW.seq (cdh h rfl (fun eF h=>?_) (fun eF h=>?_))
 refine AW.skip (AW.seq (AW.block ?_))
 iterate 2 refine ra hx ?_
 refine AW.block ?_
 obtain⟨dT,hy,h⟩:=ah h
 refine lp (S:=Int×(List ai)) (X:=(List ai)) (fun (dX,ce)=>[(1,dI .i64 cG),(2,.fn 80 [0]),(6,.pt 1 0),(8,.pt 2 0),(9,dI .i64 aG),(14,dI .i64 dJ),(15,dI .i64 aG),(18,dI .i64 cG),(19,dI .i64 dX)]) (fun (dX,ce)=>⟨[(0,[dI .i64 dU.vR,dI .i64 dU.vC,dL ae dU.vV]),(1,[dI .i64 (0:Int),dI .i64 (0:Int),dN]),(2,[dI .i64 dJ,dI .i64 cG,dO 3 ae ce])],[(3,(ce).length,36,34)],4⟩) (PE cx (.exit 2) (fun dT=>[(1,dI .i64 cG),(2,.fn 80 [0]),(6,.pt 1 0),(8,.pt 2 0),(14,dI .i64 dJ),(15,dI .i64 aG)]) fun dT=>⟨[(0,[dI .i64 dU.vR,dI .i64 dU.vC,dL ae dU.vV]),(1,[dI .i64 (0:Int),dI .i64 (0:Int),dN]),(2,[dI .i64 dJ,dI .i64 cG,dO 3 ae dT])],[(3,(dT).length,36,34)],4⟩) hy ?_ ?_ ?_
 exact wkN h0 [1,2,3] (wR rfl (wR rfl (wR rfl (wR rfl (wR rfl (wR rfl (wR rfl (wR rfl (wR rfl wTn))))))))) (vR rfl (vR rfl (vR rfl wVn))) (wL rfl rfl wLn)
 clear hy h
 rintro⟨dX,ce⟩ y h
 dsimp only[jL] at h
 refine ra hx ?_
 refine AW.seq (cdh h rfl (fun tz h=>?_) (fun tz h=>?_))
 refine AW.skip (AW.seq (AW.block (ra hx ?_)))
 obtain⟨x3,GV,h⟩:=ah h
 obtain⟨FQ,h⟩:=am h
 refine jn (PE cx .normal (fun (_:Unit)=>[(1,dI .i64 cG),(2,.fn 80 [0]),(6,.pt 1 0),(8,.pt 2 0),(9,dI .i64 aG),(14,dI .i64 dJ),(15,dI .i64 aG),(18,dI .i64 cG),(19,dI .i64 dX)]) (fun (_:Unit)=>⟨[(0,[dI .i64 dU.vR,dI .i64 dU.vC,dL ae dU.vV]),(1,[dI .i64 (0:Int),dI .i64 (0:Int),dN]),(2,[dI .i64 dJ,dI .i64 cG,dO 3 ae (ce++[x3])])],[(3,(ce++[x3]).length,36,34)],4⟩) ()) ?_ ?_
 refine dw (DW.split 1 5 (by decide) ?_ ?_)
 refine dwg [] [0,1,2,3,4,5,6,7,8,9] hx (by kernel_rfl) (by kernel_rfl) (by kernel_rfl) fun K hK=>?_
 dsimp only[dt,lf,li,List.map]
 refine sa ?_
 refine s1 (bK aF) ?_
 iterate 3 refine sa ?_
 refine s1 (uE [0] rfl (qp GV) (fA (ao _) (fA (ao _) (fA (ao _) fAn))) (vR rfl wVn) wLn (rvE rvN) (yG _ _ _) (FD _ _)) ?_
 refine s1 (mM ([x3]:List ai) ae aF aC) ?_
 refine s1 (d:=dO 3 ae (ce++[x3])) (eD aF aC FQ) ?_
 refine sa ?_
 refine s0 (bu (ds':=[dI .i64 dJ,dI .i64 cG,dO 3 ae (ce++[x3])]) aF) ?_
 exact .nil (hK _ _ (PE.i (wkN h0 [1,2,3] (wR rfl (wR rfl (wR rfl (wR rfl (wR rfl (wR rfl (wR rfl (wR rfl (wR rfl wTn))))))))) (vR rfl (vR rfl (vR rfl wVn))) (wL rfl rfl wLn))))
 refine dwg [] [0,2,3,4,5,1,6,7,8,9] hx (by kernel_rfl) (by kernel_rfl) (by kernel_rfl) fun K hK=>?_
 dsimp only[dt,lf,li,List.map]
 iterate 4 refine sa ?_
 refine s1 (uE [0] rfl (qp GV) (fA (ao _) (fA (ao _) (fA (ao _) fAn))) (vR rfl wVn) wLn (rvE rvN) (yG _ _ _) (FD _ _)) ?_
 refine s1 (bK aF) ?_
 refine s1 (mM ([x3]:List ai) ae aF aC) ?_
 refine s1 (d:=dO 3 ae (ce++[x3])) (eD aF aC FQ) ?_
 refine sa ?_
 refine s0 (bu (ds':=[dI .i64 dJ,dI .i64 cG,dO 3 ae (ce++[x3])]) aF) ?_
 exact .nil (hK _ _ (PE.i (wkN h0 [1,2,3] (wR rfl (wR rfl (wR rfl (wR rfl (wR rfl (wR rfl (wR rfl (wR rfl (wR rfl wTn))))))))) (vR rfl (vR rfl (vR rfl wVn))) (wL rfl rfl wLn))))
 rintro ex tm' hp' ⟨rfl,hw⟩
 refine AW.weak hw (rb hx ?_)
 cases h
 exact PS.l (PE.i (wkN h0 [1,2,3] (wR rfl (wR rfl (wR rfl (wR rfl (wR rfl (wR rfl (wR rfl (wR rfl (wR rfl wTn))))))))) (vR rfl (vR rfl (vR rfl wVn))) (wL rfl rfl wLn)))
 refine AW.exit ?_
 try dsimp only
 try simp only[bP,reduceIte,Nat.reduceEqDiff,reduceCtorEq]
 cases h
 exact PS.r ⟨by nofun,PE.i (wkN h0 [1,2,3] (wR rfl (wR rfl (wR rfl (wR rfl (wR rfl (wR rfl wTn)))))) (vR rfl (vR rfl (vR rfl wVn))) (wL rfl rfl wLn))⟩
 rintro ex tm' hp' ⟨rfl,hw⟩
 try dsimp only
 try simp only[bP,reduceIte,Nat.reduceEqDiff,reduceCtorEq]
 refine AW.weak hw (rb hx ?_)
 cases h
 exact PS.l (PE.i (wkN h0 [1,2,3] (wR rfl (wR rfl (wR rfl (wR rfl (wR rfl (wR rfl wTn)))))) (vR rfl (vR rfl (vR rfl wVn))) (wL rfl rfl wLn)))
 refine AW.exit ?_
 try dsimp only
 try simp only[bP,reduceIte,Nat.reduceEqDiff,reduceCtorEq]
 cases h
 exact PS.r ⟨by nofun,PE.i (wkN h0 [1,2,3] (wR rfl (wR rfl wTn)) (vR rfl (vR rfl (vR rfl wVn))) (wL rfl rfl wLn))⟩
 rintro ex tm' hp' ⟨rfl,hw⟩
 try dsimp only
 try simp only[bP,reduceIte,Nat.reduceEqDiff,reduceCtorEq]
 refine AW.weak hw (AW.seq (rs hx fun K hK=>?_))
 refine sa ?_
 refine s1 (bK aF) ?_
 refine scb h mj fun x8 h=>?_
 refine sa ?_
 refine .nil (hK _ _ (cdh h rfl (fun jw h=>?_) (fun jw h=>?_)))
 refine rs hx fun K hK=>?_
 refine s1 (d:=.ag [dI .i64 (0:Int),dI .i64 (0:Int),dN]) (aR aq) ?_
 refine s0 (bu (ds':=[dI .i64 (0:Int),dI .i64 (0:Int),dN]) aq) ?_
 refine sa ?_
 refine .nil (hK _ _ (AW.ret ?_))
 cases h
 exact⟨_,bN (es:=[dI .i64 (0:Int),dI .i64 (0:Int),dN]) rfl aq rfl rfl (ltb rfl) (leb rfl) rfl (cK rfl (rfl)),qg.of_wk2 (by rw[hx];exact b7 rfl) (wkN h0 [] (wG rfl (et (wc (bI _) (wc (bI _) (wc (mW rfl) wcn)))) (wR rfl wTn)) (vR rfl wVn) wLn)⟩
 refine AW.skip (rs hx fun K hK=>?_)
 refine s1 (d:=.ag [dI .i64 dJ,dI .i64 cG,dO 3 ae aE]) (bp aq) ?_
 refine s0 (bu (ds':=[dI .i64 dJ,dI .i64 cG,dO 3 ae aE]) aq) ?_
 refine sa ?_
 refine .nil (hK _ _ (AW.ret ?_))
 cases h
 exact⟨_,bN (es:=[dI .i64 dJ,dI .i64 cG,dO 3 ae aE]) rfl aq rfl rfl (ltb rfl) (leb rfl) rfl (cK rfl (rfl)),qg.of_wk2 (by rw[hx];exact b7 rfl) (wkN h0 [] (wG rfl (et (wc (bI _) (wc (bI _) (wc (tT _) wcn)))) (wR rfl wTn)) (vR rfl wVn) wLn)⟩
def gf(bq:an)(bk:Int):Int→Option (Int⊕((Bool×Int)⊕Unit)):=fun cF=>cnd (decide (cF<bk)) (bnd (cY bq bk cF) fun x8=>bnd (cY bq cF bk) fun iM=>cnd (decide (¬(x8=iM))) (some (.inr (.inl (false,(0:Int))))) (some (.inl (i64.wrap (cF+(1:Int)))))) (some (.inr (.inr ())))
def gg(bq:an):Int→Option (Int⊕((Bool×Int)⊕Unit)):=fun bk=>cnd (decide (bk<bq.vR)) (bnd (aK (gf bq bk) (0:Int)) fun y13=>match y13 with| .inl r=>some (.inr (.inl r))| .inr ()=>some (.inl (i64.wrap (bk+(1:Int))))) (some (.inr (.inr ())))
def d7(bq:an):Int→Option (Int⊕((Bool×Int)⊕Unit)):=fun z7=>cnd (decide (z7≤bq.vR)) (bnd (kL z7 z7 bq) fun qo=>bnd (lS qo.1) fun lh=>bnd (S:=Bool) (cnd (decide (lh.2≠(0:Int))) (some (true)) (bnd (nM lh.1) fun te=>some (decide (te≤(0:Int))))) fun F8=>cnd F8 (some (.inr (.inl (false,lh.2)))) (some (.inl (i64.wrap (z7+(1:Int)))))) (some (.inr (.inr ())))
def fJ(bq:an):Option (Bool×Int):=bnd (S:=Bool) (bnd (cm [bq]) fun x1=>cnd (!x1) (some (true)) (some (decide (bq.vR≠bq.vC)))) fun a8=>cnd a8 (some (false,(1:Int))) (bnd (aK (gg bq) (0:Int)) fun y14=>match y14 with| .inl r=>some r| .inr ()=>bnd (aK (d7 bq) (1:Int)) fun y25=>match y25 with| .inl r=>some r| .inr ()=>some (true,(0:Int)))
theorem pw {bq:an}{r:Bool×Int}(h:fJ bq=some r):ax prog 23 [dG aH bq] (.tu [dB r.1,dI .i64 r.2]):=by
 refine bn (rs:=[.tmp 2,.tmp 3]) (fun cx hx h0=>?_) func23
 unfold fJ at h
 refine rs hx fun K hK=>?_
 refine s1 (d:=.pt 0 0) fC ?_
 iterate 2 refine sa ?_
 refine .nil (hK _ _ ?_)
 iterate 2 refine AW.seq ?_
 obtain⟨a8,hy,h⟩:=ah h
 refine jn ((PE cx .normal (fun a8=>[(1,.pt 0 0),(21,dB a8)]) fun a8=>⟨[(0,[dI .i64 bq.vR,dI .i64 bq.vC,dL ae bq.vV])],[],1⟩) a8) ?_ ?_
 replace h:=hy
 refine rq hx fun K hK=>?_
 refine s1 (d:=dG aH bq) (bp aq) ?_
 refine s1 (d:=dO 1 aH [bq]) (jc uT aq) ?_
 refine scb h iN fun x1 h=>?_
 iterate 2 refine sa ?_
 rcases ee (!x1) with cj|cj
 replace h:=ek cj h
 iterate 5 refine aT rfl rfl cj ?_
 refine s1 (au cj) ?_
 refine .nil (hK _ _ ?_)
 cases h
 exact pe0 h0 [0]
 replace h:=eo cj h
 refine ga cj ?_
 refine g1 cj (bK bh) ?_
 refine ga cj ?_
 refine g1 cj (bK bh) ?_
 refine ga cj ?_
 refine s1 (aN cj) ?_
 refine .nil (hK _ _ ?_)
 cases h
 exact pe0 h0 [0]
 rintro ex tm' hp' ⟨rfl,hw⟩
 refine AW.weak hw (cdh h rfl (fun pI h=>?_) (fun pI h=>?_))
 refine ra hx ?_
 refine AW.ret ?_
 cases h
 exact rv2
 refine AW.skip (AW.seq (rs hx fun K hK=>?_))
 refine sa ?_
 refine s1 (bK bh) ?_
 refine sa ?_
 refine .nil (hK _ _ (AW.block ?_))
 obtain⟨y,hy,h⟩:=ah h
 refine lp (S:=Int) (X:=(Bool×Int)⊕Unit) (fun bk=>[(1,.pt 0 0),(23,dI .i64 bq.vR),(24,dI .i64 bk)]) (fun bk=>⟨[(0,[dI .i64 bq.vR,dI .i64 bq.vC,dL ae bq.vV])],[],1⟩) (PS (PR [.tmp 2,.tmp 3] fun r=>.tu [dB r.1,dI .i64 r.2]) (PE cx (.exit 0) (fun ()=>[(1,.pt 0 0)]) fun ()=>⟨[(0,[dI .i64 bq.vR,dI .i64 bq.vC,dL ae bq.vV])],[],1⟩)) hy ?_ ?_ ?_
 exact wk h0 [0] (wR rfl (wR rfl (wR rfl wTn))) (vR rfl wVn) wLn
 clear hy h
 rintro bk y h
 dsimp only[gg] at h
 refine ra hx ?_
 refine AW.seq (cdh h rfl (fun lZ h=>?_) (fun lZ h=>?_))
 refine AW.skip (AW.seq (AW.block ?_))
 iterate 2 refine ra hx ?_
 refine AW.block ?_
 obtain⟨y,hy,h⟩:=ah h
 refine lp (S:=Int) (X:=(Bool×Int)⊕Unit) (fun cF=>[(1,.pt 0 0),(4,dI .i64 bk),(23,dI .i64 bq.vR),(24,dI .i64 bk),(27,dI .i64 bk),(28,dI .i64 cF)]) (fun cF=>⟨[(0,[dI .i64 bq.vR,dI .i64 bq.vC,dL ae bq.vV])],[],1⟩) (PS (PR [.tmp 2,.tmp 3] fun r=>.tu [dB r.1,dI .i64 r.2]) (PE cx (.exit 2) (fun ()=>[(1,.pt 0 0),(23,dI .i64 bq.vR),(24,dI .i64 bk)]) fun ()=>⟨[(0,[dI .i64 bq.vR,dI .i64 bq.vC,dL ae bq.vV])],[],1⟩)) hy ?_ ?_ ?_
 exact wk h0 [0] (wR rfl (wR rfl (wR rfl (wR rfl (wR rfl (wR rfl wTn)))))) (vR rfl wVn) wLn
 clear hy h
 rintro cF y h
 dsimp only[gf] at h
 refine ra hx ?_
 refine AW.seq (cdh h rfl (fun tX h=>?_) (fun tX h=>?_))
 refine AW.skip (AW.seq (AW.block (ra hx ?_)))
 refine rsd [75] hx fun K hK=>?_
 refine s1 (d:=dG aH bq) (bp aq) ?_
 iterate 2 refine sa ?_
 refine cqb h ln fun x8 h=>?_
 refine s1 (d:=dG aH bq) (bp aq) ?_
 iterate 2 refine sa ?_
 refine cqb h ln fun iM h=>?_
 refine s1 (wY tok 4 (by decide) qK aC) ?_
 refine .nil (hK _ _ (cdh h rfl (fun wB h=>?_) (fun wB h=>?_)))
 refine ra hx ?_
 refine AW.ret ?_
 cases h
 refine PS.r ⟨by nofun,PS.l (PR.i ?_)⟩
 exact rv2
 refine AW.skip (rb hx ?_)
 cases h
 exact PS.l (pe0 h0 [0])
 refine AW.exit ?_
 try dsimp only
 try simp only[bP,reduceIte,Nat.reduceEqDiff,reduceCtorEq]
 cases h
 exact PS.r ⟨by nofun,PS.r (PE.i (wk h0 [0] (wR rfl (wR rfl (wR rfl wTn))) (vR rfl wVn) wLn))⟩
 rcases y with r|⟨⟩
 rintro ex tm' hp' ⟨rfl,hw⟩
 cases h
 exact PS.r ⟨by nofun,PS.l (PR.i hw)⟩
 rintro ex tm' hp' ⟨rfl,hw⟩
 try dsimp only
 try simp only[bP,reduceIte,Nat.reduceEqDiff,reduceCtorEq]
 refine AW.weak hw (rb hx ?_)
 cases h
 exact PS.l (pe0 h0 [0])
 refine AW.exit ?_
 try dsimp only
 try simp only[bP,reduceIte,Nat.reduceEqDiff,reduceCtorEq]
 cases h
 exact PS.r ⟨by nofun,PS.r (PE.i (wk h0 [0] (wR rfl wTn) (vR rfl wVn) wLn))⟩
 rcases y with r|⟨⟩
 rintro ex tm' hp' ⟨rfl,hw⟩
 cases h
 exact hw
 rintro ex tm' hp' ⟨rfl,hw⟩
 try dsimp only
 try simp only[bP,reduceIte,Nat.reduceEqDiff,reduceCtorEq]
 refine AW.weak hw (AW.seq (ra hx ?_))
 refine AW.block ?_
 obtain⟨y,hy,h⟩:=ah h
 refine lp (S:=Int) (X:=(Bool×Int)⊕Unit) (fun z7=>[(1,.pt 0 0),(6,dI .i64 z7)]) (fun z7=>⟨[(0,[dI .i64 bq.vR,dI .i64 bq.vC,dL ae bq.vV])],[],1⟩) (PS (PR [.tmp 2,.tmp 3] fun r=>.tu [dB r.1,dI .i64 r.2]) (PE cx (.exit 4) (fun ()=>[]) fun ()=>⟨[],[],0⟩)) hy ?_ ?_ ?_
 exact wk h0 [0] (wR rfl (wR rfl wTn)) (vR rfl wVn) wLn
 clear hy h
 rintro z7 y h
 dsimp only[d7] at h
 refine AW.seq (rs hx fun K hK=>?_)
 iterate 2 refine sa ?_
 refine s1 (bK bh) ?_
 refine sa ?_
 refine .nil (hK _ _ (cdh h rfl (fun Hg h=>?_) (fun Hg h=>?_)))
 refine AW.skip (AW.seq (AW.block (rs hx fun K hK=>?_)))
 iterate 2 refine sa ?_
 refine s1 B5 ?_
 obtain⟨qo,hx17,h⟩:=ah h
 refine s1 (H8 [0] rfl (Aw hx17) (fA (ao _) (fA (ao _) (fA (ao _) fAn))) (vR rfl wVn) wLn) ?_
 iterate 3 refine sa ?_
 refine s1 (d:=.pt 1 0) (aO aq) ?_
 refine s0 (bu (ds':=[dI .i64 qo.1.vR,dI .i64 qo.1.vC,dL ae qo.1.vV]) aq) ?_
 refine sa ?_
 refine .nil (hK _ _ (rs hx fun K hK=>?_))
 refine s1 (d:=dG aH qo.1) (bp aq) ?_
 refine scb h uR fun lh h=>?_
 iterate 3 refine sa ?_
 refine s1 (lB (F:=ae.f co) aC) ?_
 refine s0 (ig (b':=lh.1) (aX.id _ _) aC) ?_
 refine sa ?_
 refine .nil (hK _ _ (AW.seq ?_))
 obtain⟨F8,hy,h⟩:=ah h
 refine jn ((PE cx .normal (fun F8=>[(1,.pt 0 0),(6,dI .i64 z7),(10,dI .i64 lh.2),(66,dB F8)]) fun F8=>⟨[(0,[dI .i64 bq.vR,dI .i64 bq.vC,dL ae bq.vV])],[],1⟩) F8) ?_ ?_
 replace h:=hy
 refine rq hx fun K hK=>?_
 iterate 3 refine sa ?_
 rcases ee (decide (lh.2≠(0:Int))) with wA|wA
 replace h:=ek wA h
 iterate 3 refine aT rfl rfl wA ?_
 refine s1 (au wA) ?_
 refine .nil (hK _ _ ?_)
 cases h
 exact pe0 h0 [0]
 replace h:=eo wA h
 refine g1 (d:=dG ae lh.1) wA (nq (aX.id _ _) aC) ?_
 obtain⟨te,GX,h⟩:=ah h
 refine g1 wA (wZ rfl (zt GX) (by simp only[fx,i2,nZ,rW,j7,mf];exact dH _ _) (lA (tS _ _) lAn) (.inl rfl)) ?_
 refine ga wA ?_
 refine s1 (aN wA) ?_
 refine .nil (hK _ _ ?_)
 cases h
 exact pe0 h0 [0]
 rintro ex tm' hp' ⟨rfl,hw⟩
 refine AW.weak hw (cdh h rfl (fun tY h=>?_) (fun tY h=>?_))
 refine ra hx ?_
 refine AW.ret ?_
 cases h
 refine PS.r ⟨by nofun,PS.l (PR.i ?_)⟩
 exact rv2
 refine AW.skip (rb hx ?_)
 cases h
 exact PS.l (pe0 h0 [0])
 refine AW.exit ?_
 try dsimp only
 try simp only[bP,reduceIte,Nat.reduceEqDiff,reduceCtorEq]
 cases h
 exact PS.r ⟨by nofun,PS.r (PE.i (wk h0 [] wTn wVn wLn))⟩
 rcases y with r|⟨⟩
 rintro ex tm' hp' ⟨rfl,hw⟩
 cases h
 exact hw
 rintro ex tm' hp' ⟨rfl,hw⟩
 try dsimp only
 try simp only[bP,reduceIte,Nat.reduceEqDiff,reduceCtorEq]
 refine AW.weak hw (ra hx ?_)
 refine AW.ret ?_
 cases h
 exact rv2
section
theorem EA {R C:Nat}{a:dh}{b:an}(hR:R≤400)(hC:C≤400)(f:Nat→Nat→Nu)(hf:∀i k:Nat,i<R→k<C→gL (i:Int) (k:Int) a b=some (nv (f i k))):iK R C a b=some (mD R C (mkM R C f)):=by
 have MS:R*C≤400*400:=ja hR hC
 unfold iK
 rw[ur (R:=R) (C:=C) (by omega) f (by omega) (fun i hi acc Cp=>?_) (fun l=>?_)]
 ·simp only[ab]
  rw[vu (by rw[bL];omega)]
  simp only[ab]
  unfold mD
  cases (mkM R C f).all ck <;> rfl
 ·unfold kj
  dsimp only
  rw[bb _ _,u3 (C:=C) (by omega) (f i) acc Cp (fun k hk l=>?_) (fun l=>?_)]
  ·rfl
  ·unfold jM
   dsimp only
   rw[bb _ _,hf i k hi hk]
   rfl
  ·unfold jM
   dsimp only
   rw[a7 _ _]
 ·unfold kj
  dsimp only
  rw[a7 _ _]
theorem Cq {R C:Nat}{a:an}(hR:R≤400)(hC:C≤400)(f:Nat→Nat→Nu)(hf:∀i k:Nat,i<R→k<C→gh (i:Int) (k:Int) a=some (nv (f i k))):kL R C a=some (mD R C (mkM R C f)):=by
 have MS:R*C≤400*400:=ja hR hC
 unfold kL
 rw[ur (R:=R) (C:=C) (by omega) f (by omega) (fun i hi acc Cp=>?_) (fun l=>?_)]
 ·simp only[ab]
  rw[vu (by rw[bL];omega)]
  simp only[ab]
  unfold mD
  cases (mkM R C f).all ck <;> rfl
 ·unfold kg
  dsimp only
  rw[bb _ _,u3 (C:=C) (by omega) (f i) acc Cp (fun k hk l=>?_) (fun l=>?_)]
  ·rfl
  ·unfold jL
   dsimp only
   rw[bb _ _,hf i k hi hk]
   rfl
  ·unfold jL
   dsimp only
   rw[a7 _ _]
 ·unfold kg
  dsimp only
  rw[a7 _ _]
abbrev mu(R C:Nat)(V:List Nu):Option (List Nu×List Pv):=ms R C C 0 0 V []
def cP(acc:List Pv):List Int:=acc.map fun p=>(p.col:Int)
theorem wt {R C:Nat}:∀{n k r:Nat} {V:List Nu} {acc:List Pv} {W:List Nu} {l:List Pv},ms R C n k r V acc=some (W,l)→l.length≤acc.length+n
 |0,_,_,_,_,_,_,h=>by
  unfold ms at h
  injection h with h
  injection h with h1 h2
  rw[←h2];omega
 |n+1,k,r,V,acc,W,l,h=>by
  unfold ms at h
  split at h
  ·split at h
   ·have:=wt h;omega
   ·split at h
    ·have:=wt h
     rw[eI] at this
     simp at this;omega
    ·cases h
  ·injection h with h
   injection h with h1 h2
   rw[←h2];omega
theorem AN {R C:Nat}:∀{n k r:Nat} {V:List Nu} {acc:List Pv} {W:List Nu} {l:List Pv},acc.length=r→r≤R→ms R C n k r V acc=some (W,l)→l.length≤R
 |0,_,_,_,_,_,_,ha,hr,h=>by
  unfold ms at h
  injection h with h
  injection h with h1 h2
  rw[←h2];omega
 |n+1,k,r,V,acc,W,l,ha,hr,h=>by
  unfold ms at h
  split at h
  ·rename_i bG
   split at h
   ·exact AN ha hr h
   ·split at h
    ·exact AN (by rw[eI,ha];rfl) bG h
    ·cases h
  ·injection h with h
   injection h with h1 h2
   rw[←h2];omega
theorem uW {R C:Nat}{V W:List Nu}{l:List Pv}(h:mu R C V=some (W,l)):l.length≤R:=AN (r:=0) (acc:=[]) rfl (bY _) h
section
variable {V B:List Nu} {r c:Nat}
theorem w6(hr:r≤1000)(hc:c≤1000)(hV:V.length=r*c):eW (mS r c V)=some (BM r c (mu r c V)):=by
 have MS:r*c≤1000*1000:=ja hr hc
 unfold eW
 rw[ar ⟨by show (0:Int)≤r;omega,by show (0:Int)≤c;omega,by show (r:Int)≤1000000;omega,by show (c:Int)≤1000000;omega,by show (r:Int).toNat*(c:Int).toNat≤1000000;rw[aJ,aJ];omega,by show (V.map nv).length=(r:Int).toNat*(c:Int).toNat;rw[bW,aJ,aJ];exact hV,okL_nv V⟩]
 show some (BM (r:Int) (c:Int) (ms (r:Int).toNat (c:Int).toNat (c:Int).toNat 0 0 ((V.map nv).map wu) []))=_
 rw[map_nv,aJ,aJ]
theorem Mn {m:an}{acc:List Pv}(h:acc.length≤1000000):cu ⟨m,acc.map pvS⟩=some (cP acc):=by
 unfold cu
 have:=db (b:=eR ⟨m,acc.map pvS⟩) (fun k=>(cP (acc.take k),(k:Int))) 0 acc.length (cP acc) (bY _) (fun k _ hk=>?_) ?_
 ·rw[show (cP (acc.take 0),((0:Nat):Int))=(([]:List Int),(0:Int)) from rfl] at this
  rw[this];rfl
 ·unfold eR
  dsimp only
  have e:((acc.map pvS)[k]!).vcol=((acc[k]).col:Int):=by
   rw[DX,fO,i8 hk];rfl
  have e2:cP (acc.take k)++[((acc[k]).col:Int)]=cP (acc.take (k+1)):=by
   unfold cP
   rw[Ns,i8 hk,jR];rfl
  rw[bW,bb _ _,aB,aJ,e,e2,aB (by unfold cP;rw[bW,e6];omega),w64]
  rfl
 ·unfold eR
  dsimp only
  rw[bW,a7 _ _,Nr]
end
def xa(R C:Int)(V:List Nu):an×List Int×Int:=if aP R C V=0 then match mu R.toNat C.toNat V with
 |some (U,acc)=>(mS R C U,cP acc,0)
 |none=>(mZ,[],30) else (mZ,[],1)
theorem EB {R C:Int}{V:List Nu}(hV:V.length≤1000000):g5 (mS R C V)=some (xa R C V):=by
 unfold g5 xa
 rw[uF hV]
 simp only[ab]
 by_cases h1:aP R C V=0
 ·rw[ar h1]
  obtain⟨r,c,rfl,rfl,hm⟩:=dA.1 h1
  have h3:=hm.r
  have h4:=hm.c
  rw[h1,show (!decide ((0:Int)=0))=false by simp,kF,w6 (by omega) (by omega) hm.len,aJ,aJ]
  simp only[ab]
  cases ku:mu r c V with
  |none=>rfl
  |some p=>
   obtain⟨U,acc⟩:=p
   have:=wt ku
   show bnd (cu ⟨mS r c U,acc.map pvS⟩) _=_
   rw[Mn (by simp at this;omega)];rfl
 ·rw[aA h1,show (!decide (aP R C V=0))=true by simp[h1],kT]
abbrev rZ:ai:=⟨⟨false,false,Vector.replicate 16 0⟩,⟨false,false,Vector.replicate 16 0⟩⟩
def mO(acc:List Pv):Int:=acc.foldl (fun s p=>if p.mov then -s else s) 1
def pE(s:Int)(acc:List Pv):Nu:=acc.foldl (fun x p=>sJ x p.by') (nOf s)
def RE(n:Nat)(o:Option (List Nu×List Pv)):ai×Int:=match o with
 |none=>(rZ,30)
 |some (_,acc)=>if acc.length<n then (nv (nOf 0),0) else if ck (pE (mO acc) acc) then (nv (pE (mO acc) acc),0) else (rZ,30)
def JS(R C:Int)(V:List Nu):ai×Int:=if aP R C V=0∧R=C then RE R.toNat (mu R.toNat R.toNat V) else (rZ,1)
theorem MC(acc:List Pv)(s:Int)(h:s=1∨s=-1):acc.foldl (fun s p=>if p.mov then -s else s) s=1∨acc.foldl (fun s p=>if p.mov then -s else s) s=-1:=by
 induction acc generalizing s with
 |nil=>exact h
 |cons p acc ih=>
  rw[J9]
  refine ih _ ?_
  rcases h with rfl|rfl <;> cases p.mov <;> simp
theorem Lw {acc:List Pv}{k:Nat}(hk:k<acc.length):(acc.map pvS)[k]! =pvS acc[k]:=by
 rw[DX,fO,i8 hk];rfl
theorem SJ {R C:Int}{V:List Nu}(hV:V.length≤1000000):lS (mS R C V)=some (JS R C V):=by
 unfold lS JS
 rw[uF hV]
 simp only[ab,kOr]
 by_cases h0:aP R C V=0∧R=C
 ·rw[ar h0]
  obtain⟨h1,rfl⟩:=h0
  obtain⟨r,c,rfl,hc,hm⟩:=dA.1 h1
  obtain rfl:r=c:=by omega
  have h3:=hm.r
  rw[h1,show (!decide ((0:Int)=0)||decide ((r:Int)≠r))=false by simp,kF,w6 (by omega) (by omega) hm.len,aJ]
  simp only[ab]
  cases ku:mu r r V with
  |none=>rfl
  |some p=>
   obtain⟨U,acc⟩:=p
   have hal:=wt ku
   rw[List.length_nil,bB] at hal
   rw[show BM (r:Int) (r:Int) (some (U,acc))=((⟨mS r r U,acc.map pvS⟩:dh),(0:Int)) from rfl]
   dsimp only
   rw[a7 _ _ (by simp),bW]
   unfold RE
   by_cases hl:acc.length<r
   ·rw[bb _ _,uOf]
    dsimp only
    rw[ar hl];rfl
   ·rw[a7 _ _]
    dsimp only
    rw[aA hl]
    have k1:=db (b:=kQ (⟨mS r r U,acc.map pvS⟩,0)) (fun k=>(mO (acc.take k),(k:Int))) 0 acc.length (mO acc) (bY _) (fun k _ hk=>?_) ?_
    ·rw[show (mO (acc.take 0),((0:Nat):Int))=((1:Int),(0:Int)) from rfl] at k1
     rw[k1]
     simp only[ab]
     have hs:=MC acc 1 (.inl rfl)
     rw[uOf (by show -9223372036854775808≤mO acc;unfold mO;omega) (by show mO acc≤_;unfold mO;omega)]
     simp only[ab]
     have k2:=db (b:=kP (⟨mS r r U,acc.map pvS⟩,0)) (fun k=>((k:Int),nv (pE (mO acc) (acc.take k)))) 0 acc.length (nv (pE (mO acc) acc)) (bY _) (fun k _ hk=>?_) ?_
     ·rw[show (((0:Nat):Int),nv (pE (mO acc) (acc.take 0)))=((0:Int),nv (nOf (mO acc))) from rfl] at k2
      rw[k2]
      simp only[ab,uGood]
      cases ck (pE (mO acc) acc) <;> rfl
     ·unfold kP
      dsimp only
      rw[bW,bb _ _,aB,aJ,Lw hk]
      show bnd (fh (nv (pE (mO acc) (acc.take k))) (nv (acc[k]).by')) _=_
      rw[uMul]
      simp only[ab]
      rw[w64]
      have:pE (mO acc) (acc.take (k+1))=sJ (pE (mO acc) (acc.take k)) (acc[k]).by':=by
       unfold pE
       rw[Ns,i8 hk,Nq];rfl
      rw[this];rfl
     ·unfold kP
      dsimp only
      rw[bW,a7 _ _,Nr]
    ·unfold kQ
     dsimp only
     rw[bW,bb _ _,aB,aJ,Lw hk]
     have hs:=MC (acc.take k) 1 (.inl rfl)
     have e2:mO (acc.take (k+1))=if (acc[k]).mov then -mO (acc.take k) else mO (acc.take k):=by
      unfold mO
      rw[Ns,i8 hk,Nq];rfl
     rw[e2]
     show bnd (cnd (acc[k]).mov _ _) _=_
     have w1:i64.wrap (0 - mO (acc.take k))=-mO (acc.take k):=by
      rw[w64 (by unfold mO;omega) (by unfold mO;omega)];omega
     rw[w1,w64 (n:=(k:Int)+1)]
     cases (acc[k]).mov <;> rfl
    ·unfold kQ
     dsimp only
     rw[bW,a7 _ _,Nr]
 ·rw[aA h0]
  have e:(!decide (aP R C V=0)||decide (R≠C))=true:=by
   by_cases a:aP R C V=0
   ·by_cases b:R=C
    ·exact absurd ⟨a,b⟩ h0
    ·simp[b]
   ·simp[a]
  rw[e,kT]
theorem ED {l:List Int}(h:l.length≤1000000)(v:Int):dK l v=some (l.any fun x=>decide (v=x)):=by
 unfold dK iu
 have key:=CC (b:=eG l v) (n:=l.length) h (fun i=>decide (v=l[i]!)) (fun i hi=>by
  unfold eG
  rw[bb _ _,aB,aJ]) (by
  unfold eG
  rw[a7 _ _])
 rw[Nm l (fun x=>decide (v=x))] at key
 rcases key with⟨h1,h2⟩|⟨j,h1,h2⟩ <;> rw[h1,h2]
 ·rfl
 ·simp[bnd]
def solvR(c:Nat)(o:Option (List Nu×List Pv)):List ai×Int:=match o with
 |none=>([],30)
 |some (U,acc)=>if (cP acc).any (fun x=>decide ((c:Int)=x)) then ([],200) else if acc.length<c then ([],70) else (((List.range acc.length).map fun i=>U[i*(c+1)+c]!).map nv,0)
def IR(R C:Int)(A b:List Nu):List ai×Int:=if aP R C A=0∧(b.length:Int)=R∧b.all ck=true then (if 200<C+1 then ([],2) else solvR C.toNat (mu R.toNat (C.toNat+1) (mkM R.toNat (C.toNat+1) (tf C.toNat 1 A b)))) else ([],1)
theorem bes1 {r c:Nat}{A b:List Nu}(hm:MV r c A)(hb:b.length=r)(hg:b.all ck=true):MV r 1 b:=⟨hm.r,by decide,by rw[hb,z5],hg⟩
theorem Hw {r c c':Nat}{A B:List Nu}(hm:MV r c A)(ww:MV r c' B)(hc:(200:Int)<(c:Int)+(c':Int)):J3 (r:Int) (c:Int) A (r:Int) (c':Int) B=(mZ,2):=by
 unfold J3
 rw[ar ⟨hm.chk,ww.chk,rfl⟩,ar hc]
theorem Hv {r c c':Nat}{A B:List Nu}(hm:MV r c A)(ww:MV r c' B)(hc:¬(200:Int)<(c:Int)+(c':Int)):J3 (r:Int) (c:Int) A (r:Int) (c':Int) B=(mS r ((c+c':Nat):Int) (mkM r (c+c') (tf c c' A B)),0):=by
 unfold J3
 rw[ar ⟨hm.chk,ww.chk,rfl⟩,aA hc,show ((c:Int)+(c':Int))=((c+c':Nat):Int) by omega]
 simp only[aJ]
 exact RY hm ww
theorem Ib {R C:Int}{A b:List Nu}(hA:A.length≤1000000)(hb:b.length≤1000000):iY (mS R C A) (b.map nv)=some (IR R C A b):=by
 unfold iY IR
 rw[uF hA]
 simp only[ab,vu hb,kOr,bW]
 by_cases h0:aP R C A=0∧(b.length:Int)=R∧b.all ck=true
 ·rw[ar h0]
  obtain⟨h1,h2,h5⟩:=h0
  obtain⟨r,c,rfl,rfl,hm⟩:=dA.1 h1
  have h3:=hm.r
  have h4:=hm.c
  have Ol:=bes1 hm (by omega) h5
  rw[h1,h5,show (!decide ((0:Int)=0)||(decide ((b.length:Int)≠(r:Int))||!true))=false by simp[h2],kF]
  rw[show (⟨(r:Int),(1:Int),b.map nv⟩:an)=mS (r:Int) ((1:Nat):Int) b from rfl,Ki hA hb]
  by_cases hc:(200:Int)<(c:Int)+((1:Nat):Int)
  ·rw[Hw hm Ol hc,ar (show (200:Int)<(c:Int)+1 by omega)];rfl
  ·rw[Hv hm Ol hc,aA (show ¬(200:Int)<(c:Int)+1 by omega)]
   simp only[ab,aJ]
   rw[a7 _ _ (by simp),w6 (by omega) (by omega) bL]
   simp only[ab]
   cases ku:mu r (c+1) (mkM r (c+1) (tf c 1 A b)) with
   |none=>rfl
   |some p=>
    obtain⟨U,acc⟩:=p
    have hal:=wt ku
    rw[List.length_nil,bB] at hal
    have hU:=jt bL ku
    have hle:acc.length≤r:=uW ku
    have MS:r*(c+1)≤200*201:=ja h3 (by omega)
    show cnd (decide ((0:Int)≠0)) _ (bnd (cu ⟨mS r ((c+1:Nat):Int) U,acc.map pvS⟩) _)=_
    rw[a7 _ _ (by simp),Mn (by omega)]
    simp only[ab]
    rw[ED (by unfold cP;rw[bW];omega)]
    simp only[ab]
    unfold solvR
    dsimp only
    cases hany:(cP acc).any fun x=>decide ((c:Int)=x) with
    |true=>rfl
    |false=>
     rw[kF]
     show cnd (decide (((acc.map pvS).length:Int)<(c:Int))) _ (bnd (aK (gq (mS r c A) (⟨mS r ((c+1:Nat):Int) U,acc.map pvS⟩,0)) (([]:List ai),(0:Int))) _)=_
     rw[bW]
     by_cases hl:acc.length<c
     ·rw[bb _ _,ar hl];rfl
     ·rw[a7 _ _,aA hl]
      have key:=db (b:=gq (mS r c A) (⟨mS r ((c+1:Nat):Int) U,acc.map pvS⟩,0)) (fun k=>(((List.range k).map fun i=>U[i*(c+1)+c]!).map nv,(k:Int))) 0 acc.length (((List.range acc.length).map fun i=>U[i*(c+1)+c]!).map nv) (bY _) (fun k _ hk=>?_) ?_
      ·rw[show (((List.range 0).map fun i=>U[i*(c+1)+c]!).map nv,((0:Nat):Int))=(([]:List ai),(0:Int)) from rfl] at key
       rw[key];rfl
      ·unfold gq
       dsimp only
       rw[bW,bb _ _,Ai hU (by omega) (by omega) (by omega)]
       simp only[ab]
       rw[aB (by simp;omega),w64,yk]
       simp
      ·unfold gq
       dsimp only
       rw[bW,a7 _ _]
 ·rw[aA h0]
  have e:(!decide (aP R C A=0)||(decide ((b.length:Int)≠R)||!b.all ck))=true:=by
   by_cases a:aP R C A=0
   ·by_cases d:(b.length:Int)=R
    ·by_cases e:b.all ck=true
     ·exact absurd ⟨a,d,e⟩ h0
     ·simp only[Bool.not_eq_true] at e;simp[e]
    ·simp[d]
   ·simp[a]
  rw[e,kT]
end
theorem A4 {R:Type}{n:Nat}(hn:n≤1000000)(ok:Nat→Bool)(res:R){b:Int→Option (Int⊕(R⊕Unit))}(h:∀i:Nat,i<n→b i=cnd (!ok i) (some (.inr (.inl res))) (some (.inl (i64.wrap ((i:Int)+(1:Int))))))(he:b n=some (.inr (.inr ()))):
  aK b (0:Int)=some (if (List.range n).all ok then .inr () else .inl res):=by
 have key:∀m i:Nat,i+m=n→aK b (i:Int)=some (if (List.range' i m).all ok then .inr () else .inl res):=by
  intro m
  induction m with
  |zero=>
       intro i hi;obtain rfl:i=n:=by omega
       exact cU he
  |succ m ih=>
   intro i hi
   have hb:=h i (by omega)
   rw[Hz,nZ]
   cases hk:ok i with
   |false=>
    rw[hk] at hb
    rw[cU (by rw[hb];rfl)];rfl
   |true=>
    rw[hk,w64] at hb
    rw[gR (by rw[hb];rfl)]
    exact ih (i+1) (by omega)
 rw[show ((0:Int))=((0:Nat):Int) from rfl,key n 0 (by omega),F7]
theorem dne {α:Type}[DecidableEq α](a b:α):decide (a≠b)= !decide (a=b):=by by_cases h:a=b <;> simp[h]
theorem Ql {n:Nat}(h:n≤200):MV n n (mkM n n idF):=⟨h,h,bL,CA.2 fun i k _ _=>Jn i k⟩
def JR(acc:List Pv):Bool:=(List.range acc.length).all fun i=>decide ((((acc.map pvS)[i]!).vcol:Int)=i)
def Di(n:Nat)(U:List Nu)(i k:Nat):Nu:=U[i*(n+n)+(n+k)]!
def invR(n:Nat)(o:Option (List Nu×List Pv)):an×Int:=match o with
 |none=>(mZ,30)
 |some (U,acc)=>if JR acc then mD n n (mkM n n (Di n U)) else (mZ,70)
def KY(R C:Int)(A:List Nu):an×Int:=if aP R C A=0∧R=C then (if 200<R+R then (mZ,2) else invR R.toNat (mu R.toNat (R.toNat+R.toNat) (mkM R.toNat (R.toNat+R.toNat) (tf R.toNat R.toNat A (mkM R.toNat R.toNat idF))))) else (mZ,1)
theorem MO {n:Nat}(h:n≤200):idP (n:Int)=mS n n (mkM n n idF):=by
 unfold idP
 rw[ifn_,aJ]
theorem OS {R C:Int}{A:List Nu}(hA:A.length≤1000000):kO (mS R C A)=some (KY R C A):=by
 unfold kO KY
 rw[uF hA]
 simp only[ab,kOr]
 by_cases h0:aP R C A=0∧R=C
 ·rw[ar h0]
  obtain⟨h1,rfl⟩:=h0
  obtain⟨n,c,rfl,hc,hm⟩:=dA.1 h1
  obtain rfl:n=c:=by omega
  have h3:=hm.r
  rw[h1,show (!decide ((0:Int)=0)||decide ((n:Int)≠n))=false by simp,kF,EC]
  simp only[ab]
  rw[MO h3,Ki hA (by rw[bL];have:=hm.rc;omega)]
  have hi:=Ql h3
  by_cases hb:(200:Int)<(n:Int)+(n:Int)
  ·rw[Hw hm hi hb,ar hb];rfl
  ·rw[Hv hm hi hb,aA hb]
   simp only[ab,aJ]
   rw[a7 _ _ (by simp),w6 (by omega) (by omega) bL]
   simp only[ab]
   cases ku:mu n (n+n) (mkM n (n+n) (tf n n A (mkM n n idF))) with
   |none=>rfl
   |some p=>
    obtain⟨U,acc⟩:=p
    have hU:=jt bL ku
    have hle:acc.length≤n:=uW ku
    have MS:n*(n+n)≤200*200:=ja h3 (by omega)
    rw[show BM (n:Int) ((n+n:Nat):Int) (some (U,acc))=((⟨mS n ((n+n:Nat):Int) U,acc.map pvS⟩:dh),(0:Int)) from rfl]
    dsimp only
    rw[a7 _ _ (by simp)]
    rw[A4 (b:=gK (⟨mS n ((n+n:Nat):Int) U,acc.map pvS⟩,0)) (n:=acc.length) (by omega) (fun i=>decide ((((acc.map pvS)[i]!).vcol:Int)=i)) (mZ,70) (fun i Q1=>?_) ?_]
    ·unfold invR
     dsimp only
     show bnd (some (if JR acc then _ else _)) _=_
     cases hd:JR acc with
     |false=>rfl
     |true=>
      show bnd (iK (n:Int) (n:Int) ⟨mS n ((n+n:Nat):Int) U,acc.map pvS⟩ (mS n n A)) _=_
      rw[EA (by omega) (by omega) (Di n U) (fun i k Q1 hk=>?_)]
      ·rfl
      ·unfold gL
       dsimp only
       rw[w64,show (n:Int)+(k:Int)=((n+k:Nat):Int) by omega,Ai hU (by omega) Q1 (by omega)]
       rfl
    ·unfold gK
     dsimp only
     rw[bW,a7 _ _]
    ·unfold gK
     dsimp only
     rw[bW,bb _ _,aB,aJ,dne]
 ·rw[aA h0]
  have e:(!decide (aP R C A=0)||decide (R≠C))=true:=by
   by_cases a:aP R C A=0
   ·by_cases b:R=C
    ·exact absurd ⟨a,b⟩ h0
    ·simp[b]
   ·simp[a]
  rw[e,kT]
def pP(acc:List Pv)(i:Nat):Nat:=(acc[i]!).col
def ju(C:Nat)(U:List Nu)(acc:List Pv)(k:Nat):Nat→List Nu
 |0=>(List.replicate C (nOf 0)).set k (nOf 1)
 |n+1=>if pP acc n<k then (ju C U acc k n).set (pP acc n) (I7 U[n*C+k]!) else ju C U acc k n
theorem qC {C:Nat}{U:List Nu}{acc:List Pv}{k:Nat}:∀n,(ju C U acc k n).length=C
 |0=>by simp[ju]
 |n+1=>by
  unfold ju
  split
  ·rw[BY];exact qC n
  ·exact qC n
def rU(C:Nat)(acc:List Pv):List Nat:=(List.range C).filter fun k=>!(cP acc).any fun x=>decide ((k:Int)=x)
def nullR(C:Nat)(o:Option (List Nu×List Pv)):List (List Nu)×Int:=match o with
 |none=>([],30)
 |some (U,acc)=>((rU C acc).map fun k=>ju C U acc k acc.length,0)
def xT(R C:Int)(V:List Nu):List (List Nu)×Int:=if aP R C V=0 then nullR C.toNat (mu R.toNat C.toNat V) else ([],1)
theorem ux {acc:List Pv}{i:Nat}(h:i<acc.length):(cP acc)[i]! =((pP acc i:Nat):Int):=by
 unfold cP pP
 rw[DX,DX,fO,i8 h];rfl
theorem C7 {C:Nat}{acc:List Pv}:rU (C+1) acc=rU C acc++if ((cP acc).any fun x=>decide ((C:Int)=x)) then [] else [C]:=by
 unfold rU
 rw[yk,List.filter_append]
 congr 1
 rw[R6]
 cases ((cP acc).any fun x=>decide ((C:Int)=x)) <;> rfl
theorem SH {R C:Int}{V:List Nu}(hV:V.length≤1000000):j3 (mS R C V)=some ((xT R C V).1.map (List.map nv),(xT R C V).2):=by
 unfold j3 xT
 rw[uF hV]
 simp only[ab]
 by_cases h1:aP R C V=0
 ·rw[ar h1]
  obtain⟨r,c,rfl,rfl,hm⟩:=dA.1 h1
  have h3:=hm.r
  have h4:=hm.c
  have h5:=hm.rc
  rw[h1,show (!decide ((0:Int)=0))=false by simp,kF,w6 (by omega) (by omega) hm.len,aJ,aJ]
  simp only[ab]
  cases ku:mu r c V with
  |none=>rfl
  |some p=>
   obtain⟨U,acc⟩:=p
   have hU:=jt hm.len ku
   have hle:acc.length≤r:=uW ku
   rw[show BM (r:Int) (c:Int) (some (U,acc))=((⟨mS r c U,acc.map pvS⟩:dh),(0:Int)) from rfl]
   dsimp only
   rw[a7 _ _ (by simp),Mn (by omega)]
   simp only[ab]
   have key:=db (b:=jP (mS r c V) (⟨mS r c U,acc.map pvS⟩,0) (cP acc)) (fun k=>(((rU k acc).map fun j=>ju c U acc j acc.length).map (List.map nv),(k:Int))) 0 c (((rU c acc).map fun j=>ju c U acc j acc.length).map (List.map nv)) (bY _) (fun k _ hk=>?_) ?_
   ·rw[show (((rU 0 acc).map fun j=>ju c U acc j acc.length).map (List.map nv),((0:Nat):Int))=(([]:List (List ai)),(0:Int)) from rfl] at key
    rw[key];rfl
   ·unfold jP
    dsimp only
    have hkl:(rU k acc).length≤k:=by unfold rU;exact cw (F6 _ _) (by rw[BZ];omega)
    rw[bb _ _,ED (by unfold cP;rw[bW];omega),C7]
    simp only[ab]
    cases hany:(cP acc).any fun x=>decide ((k:Int)=x) with
    |true=>
     rw[kT]
     simp only[ab]
     rw[w64];simp only[bP,vQ];rfl
    |false=>
     rw[kF,uOf]
     simp only[ab]
     have dy:g8 [nv (nOf 0)] (c:Int)=some ((List.replicate c (nOf 0)).map nv):=by
      unfold g8
      dsimp only
      rw[ar ⟨(nOf 0).2,by omega,by omega⟩,aJ,al_4]
     rw[dy,uOf]
     simp only[ab]
     rw[aB ⟨by omega,by rw[bW,Bm];omega,by rw[bW,Bm];omega⟩,aJ,←z6]
     have inner:=db (b:=jO (⟨mS r c U,acc.map pvS⟩,0) (cP acc) (k:Int) ((List.replicate c (nOf 0)).map nv)) (fun n=>((n:Int),(ju c U acc k n).map nv)) 0 acc.length ((ju c U acc k acc.length).map nv) (bY _) (fun n _ hn=>?_) ?_
     ·rw[show (((0:Nat):Int),(ju c U acc k 0).map nv)=((0:Int),((List.replicate c (nOf 0)).set k (nOf 1)).map nv) from rfl] at inner
      rw[inner]
      simp only[ab]
      rw[aB (by simp[qC]),aB (by simp;omega),w64]
      simp only[ab]
      simp only[Bool.false_eq_true,BX,jR];rfl
     ·unfold jO
      dsimp only
      have Dw:(cP acc).length=acc.length:=by unfold cP;rw[bW]
      rw[Dw,bb _ _,aB,aJ,ux hn]
      rw[show ju c U acc k (n+1)=if pP acc n<k then (ju c U acc k n).set (pP acc n) (I7 U[n*c+k]!) else ju c U acc k n from rfl]
      by_cases bG:pP acc n<k
      ·rw[bb _ _,ar bG,Ai hU (by omega) (by omega) hk]
       simp only[ab,uNeg]
       rw[aB ⟨by omega,by rw[bW,Bm];omega,by rw[bW,qC];omega⟩,aJ,←z6,w64]
       rfl
      ·rw[a7 _ _,aA bG]
       simp only[ab]
       rw[w64];rfl
     ·unfold jO
      dsimp only
      rw[show (cP acc).length=acc.length by unfold cP;rw[bW],a7 _ _]
   ·unfold jP
    dsimp only
    rw[a7 _ _]
 ·rw[aA h1,show (!decide (aP R C V=0))=true by simp[h1],kT];rfl
def vc(n:Nat)(o:Option (List Nu×List Pv)):Nu×Int:=match o with
 |none=>(nOf 0,30)
 |some (_,acc)=>if acc.length<n then (nOf 0,0) else if ck (pE (mO acc) acc) then (pE (mO acc) acc,0) else (nOf 0,30)
theorem Nf(n:Nat)(o:Option (List Nu×List Pv)):RE n o=(if (vc n o).2=0 then nv (vc n o).1 else rZ,(vc n o).2):=by
 unfold RE vc
 cases o with
 |none=>rfl
 |some p=>
  obtain⟨U,acc⟩:=p
  dsimp only
  split
  ·rfl
  ·split <;> rfl
def lr(n:Nat)(V:List Nu)(i k:Nat):Nu:=V[i*n+k]!
def E4(n:Nat)(V:List Nu):Nat→Nat→Bool×Int
 |0,_=>(true,0)
 |m+1,j=>if (vc j (mu j j (mkM j j (lr n V)))).2≠0∨i9 (vc j (mu j j (mkM j j (lr n V)))).1≤0 then (false,(vc j (mu j j (mkM j j (lr n V)))).2) else E4 n V m (j+1)
def Pq(n:Nat)(V:List Nu):Bool:=(List.range n).all fun i=>(List.range i).all fun k=>decide (V[i*n+k]! =V[k*n+i]!)
def C4(R C:Int)(V:List Nu):Bool×Int:=if aP R C V=0∧R=C then (if Pq R.toNat V then E4 R.toNat V R.toNat 1 else (false,0)) else (false,1)
theorem MN {n j:Nat}{V:List Nu}(hm:MV n n V)(hj:j≤n):MV j j (mkM j j (lr n V)):=⟨cw hj hm.r,cw hj hm.r,bL,CA.2 fun i k hi hk=>hm.gd (bj (by omega) (by omega))⟩
theorem yX {R C:Int}{V:List Nu}(hV:V.length≤1000000):fJ (mS R C V)=some (C4 R C V):=by
 unfold fJ C4
 rw[uF hV]
 simp only[ab,kOr]
 by_cases h0:aP R C V=0∧R=C
 ·rw[ar h0]
  obtain⟨h1,rfl⟩:=h0
  obtain⟨n,c,rfl,hc,hm⟩:=dA.1 h1
  obtain rfl:n=c:=by omega
  have h3:=hm.r
  have h5:=hm.rc
  rw[h1,show (!decide ((0:Int)=0)||decide ((n:Int)≠n))=false by simp,kF,aJ]
  rw[A4 (b:=gg (mS n n V)) (n:=n) (by omega) (fun i=>(List.range i).all fun k=>decide (V[i*n+k]! =V[k*n+i]!)) (false,0) (fun i hi=>?_) ?_]
  ·show bnd (some (if Pq n V then _ else _)) _=_
   cases hs:Pq n V with
   |false=>rfl
   |true=>
    show bnd (aK (d7 (mS n n V)) (1:Int)) _=some (E4 n V n 1)
    have key:∀m j:Nat,j+m=n+1→∃z,aK (d7 (mS n n V)) (j:Int)=some z∧((z=.inr ()∧E4 n V m j=(true,0))∨z=.inl (E4 n V m j)):=by
     intro m
     induction m with
     |zero=>
      intro j hj
      refine⟨.inr (),cU ?_,.inl ⟨rfl,rfl⟩⟩
      unfold d7
      dsimp only
      rw[a7 _ _]
     |succ m ih=>
      intro j hj
      have hb:d7 (mS n n V) (j:Int)=if (vc j (mu j j (mkM j j (lr n V)))).2≠0∨i9 (vc j (mu j j (mkM j j (lr n V)))).1≤0 then some (.inr (.inl (false,(vc j (mu j j (mkM j j (lr n V)))).2))) else some (.inl ((j+1:Nat):Int)):=by
       unfold d7
       dsimp only
       have hl:=MN hm (show j≤n by omega)
       rw[bb _ _,Cq (by omega) (by omega) (lr n V) (fun i k hi hk=>by unfold gh;rw[Ai hm.len (by omega) (by omega) (by omega)];rfl)]
       simp only[ab]
       rw[u4 (f:=lr n V) fun i k hi hk=>hm.gd (bj (show i<n by omega) (show k<n by omega))]
       dsimp only
       rw[SJ (by rw[bL];have:=hl.rc;omega)]
       unfold JS
       rw[ar ⟨hl.chk,rfl⟩,aJ,Nf]
       simp only[ab]
       generalize vc j (mu j j (mkM j j (lr n V)))=d
       by_cases hd:d.2=0
       ·rw[a7 _ _ (by simpa using hd),ar hd,uSign]
        simp only[ab]
        by_cases FM:i9 d.1≤0
        ·rw[bb _ _ FM,ar (.inr FM)]
        ·rw[a7 _ _ FM,aA (by intro h;rcases h with h|h;exact h hd;exact FM h),w64];rfl
       ·rw[bb _ _ hd,ar (.inl hd)]
        simp only[ab]
        rw[kT]
      unfold E4
      by_cases hd:(vc j (mu j j (mkM j j (lr n V)))).2≠0∨i9 (vc j (mu j j (mkM j j (lr n V)))).1≤0
      ·rw[ar hd] at hb
       rw[ar hd]
       exact⟨_,cU hb,.inr rfl⟩
      ·rw[aA hd] at hb
       rw[aA hd,gR hb]
       exact ih (j+1) (by omega)
    obtain⟨z,hz,h6⟩:=key n 1 (by omega)
    rw[show (((1:Nat):Int))=1 from rfl] at hz
    rw[hz]
    rcases h6 with⟨rfl,h6⟩|rfl
    ·rw[h6];rfl
    ·rfl
  ·unfold gg
   dsimp only
   rw[a7 _ _]
  ·unfold gg
   dsimp only
   rw[bb _ _,A4 (b:=gf (mS n n V) (i:Int)) (n:=i) (by omega) (fun k=>decide (V[i*n+k]! =V[k*n+i]!)) (false,0) (fun k hk=>?_) ?_]
   ·simp only[ab]
    cases (List.range i).all fun k=>decide (V[i*n+k]! =V[k*n+i]!) <;> rfl
   ·unfold gf
    try dsimp only
    rw[a7 _ _]
   ·unfold gf
    try dsimp only
    rw[bb _ _,Ai hm.len (by omega) hi (by omega),Ai hm.len (by omega) (by omega) hi]
    simp only[ab,nv_eq]
    have:decide (¬V[i*n+k]! =V[k*n+i]!)= !decide (V[i*n+k]! =V[k*n+i]!):=dne _ _
    rw[this]
 ·rw[aA h0]
  have e:(!decide (aP R C V=0)||decide (R≠C))=true:=by
   by_cases a:aP R C V=0
   ·by_cases b:R=C
    ·exact absurd ⟨a,b⟩ h0
    ·simp[b]
   ·simp[a]
  rw[e,kT]
end
end Go.Proofs.YtgfcnncojhkcoaaGreat
