/-
  Lemmas, part 4. Conditions: none.
-/
import Derived.Test.YtaedcknhkjpmlaaGreatK3
set_option linter.all false
set_option maxRecDepth 100000
namespace Go.Proofs.YtaedcknhkjpmlaaGreat
open Go.RowKit Go.IntKind
noncomputable section
def kC(aU:av):Bool×Int→Option ((Bool×Int)⊕Bool):=fun (aZ,bm)=>cnd (decide (bm<(16:Int))) (bnd (S:=Bool) (cnd aZ (gd (0≤bm∧bm<16) (some (decide (((aU.vW)[(bm).toNat]!)=(0:Int))))) (some (false))) fun bz=>some (.inl (bz,i64.wrap (bm+(1:Int))))) (some (.inr aZ))
def pC(aU:av):Option Bool:=bnd (bL (kC aU) (true,(0:Int))) fun bj=>cnd aU.vBad (bnd (S:=Bool) (cnd bj (some (!aU.vNeg)) (some (false))) fun kH=>some kH) (bnd (S:=Bool) (cnd (!bj) (some (true)) (some (!aU.vNeg))) fun tz=>some tz)
set_option maxHeartbeats 4000000 in
theorem Ef {aU:av}{r:Bool}(h:pC aU=some r):ax Tryz.prog 177 [dG aj aU] (dB r):=by
 refine bC (rs:=[.tmp 2]) (fun cx hx h0=>?_) Tryz.func177
 unfold pC at h
 iterate 2 refine ra hx ?_
 refine AW.seq (ra hx ?_)
 refine AW.block ?_
 obtain⟨bj,hy,h⟩:=ae h
 refine lp (S:=Bool×Int) (X:=Bool) (fun (aZ,bm)=>[(1,.pt 0 0),(3,dB aZ),(4,dI .i64 bm)]) (fun (aZ,bm)=>⟨[(0,dC (aj.f aU))],[],1⟩) (PE cx (.exit 0) (fun bj=>[(1,.pt 0 0),(3,dB bj)]) fun bj=>⟨[(0,dC (aj.f aU))],[],1⟩) hy ?_ ?_ ?_
 exact wk h0 [0] (wR rfl (wR rfl (wR rfl wTn))) (vC rfl wVn) wLn
 clear hy h
 rintro⟨aZ,bm⟩ y h
 dsimp only[kC] at h
 refine AW.seq (ra hx ?_)
 refine cdh h rfl (fun cv h=>?_) (fun cv h=>?_)
 refine AW.skip (AW.seq ?_)
 obtain⟨bz,hy,h⟩:=ae h
 refine jn ((PE cx .normal (fun bz=>[(1,.pt 0 0),(3,dB bz),(4,dI .i64 bm)]) fun bz=>⟨[(0,dC (aj.f aU))],[],1⟩) bz) ?_ ?_
 replace h:=hy
 refine AW.block (rq hx fun K hK=>?_)
 iterate 2 refine sa ?_
 rcases az aZ with ly|ly
 replace h:=aO ly h
 iterate 2 refine ga ly ?_
 obtain⟨Pg,h⟩:=aD h
 have hn4:(bm).toNat<16:=by omega
 refine g1 ly (bY Pg aA aI) ?_
 refine g1 ly (aT (ak.comp (aY aU) (ak.vec (cI .u32) aU.vW (bm).toNat hn4) (fun _=>rfl)) aI) ?_
 refine ga ly ?_
 refine s1 (ar ly) ?_
 refine sa ?_
 refine .nil (hK _ _ ?_)
 cases h
 exact pe0 h0 [0]
 replace h:=aP ly h
 iterate 5 refine aG rfl rfl ly ?_
 refine s1 (an ly) ?_
 refine sa ?_
 refine .nil (hK _ _ ?_)
 cases h
 exact pe0 h0 [0]
 rintro ex tm' hp' ⟨rfl,hw⟩
 refine AW.weak hw (rb hx ?_)
 cases h
 exact PS.l (pe0 h0 [0])
 refine AW.exit ?_
 try dsimp only
 try simp only[aS,reduceIte,Nat.reduceEqDiff,reduceCtorEq]
 cases h
 exact PS.r ⟨by nofun,PE.i (wk h0 [0] (wR rfl (wR rfl wTn)) (vC rfl wVn) wLn)⟩
 rintro ex tm' hp' ⟨rfl,hw⟩
 try dsimp only
 try simp only[aS,reduceIte,Nat.reduceEqDiff,reduceCtorEq]
 refine AW.weak hw (AW.seq (rs hx fun K hK=>?_))
 refine sa ?_
 refine s1 (aT (jt aU) ey) ?_
 refine .nil (hK _ _ (cdh h rfl (fun nN h=>?_) (fun nN h=>?_)))
 refine AW.seq ?_
 obtain⟨kH,hy,h⟩:=ae h
 refine jn ((PE cx .normal (fun kH=>[(2,dB kH)]) fun kH=>⟨[],[],0⟩) kH) ?_ ?_
 replace h:=hy
 refine rq hx fun K hK=>?_
 iterate 2 refine sa ?_
 rcases az bj with ju|ju
 replace h:=aO ju h
 refine ga ju ?_
 refine g1 ju (aT (aN aU) ey) ?_
 refine ga ju ?_
 refine s1 (ar ju) ?_
 refine sa ?_
 refine .nil (hK _ _ ?_)
 cases h
 exact pe0 h0 []
 replace h:=aP ju h
 iterate 3 refine aG rfl rfl ju ?_
 refine s1 (an ju) ?_
 refine sa ?_
 refine .nil (hK _ _ ?_)
 cases h
 exact pe0 h0 []
 rintro ex tm' hp' ⟨rfl,hw⟩
 refine AW.weak hw (AW.ret ?_)
 cases h
 exact rv1
 refine AW.skip (AW.seq ?_)
 obtain⟨tz,hy,h⟩:=ae h
 refine jn ((PE cx .normal (fun tz=>[(2,dB tz)]) fun tz=>⟨[],[],0⟩) tz) ?_ ?_
 replace h:=hy
 refine rq hx fun K hK=>?_
 iterate 3 refine sa ?_
 rcases az (!bj) with dT|dT
 replace h:=aO dT h
 iterate 3 refine aG rfl rfl dT ?_
 refine s1 (ar dT) ?_
 refine sa ?_
 refine .nil (hK _ _ ?_)
 cases h
 exact pe0 h0 []
 replace h:=aP dT h
 refine ga dT ?_
 refine g1 dT (aT (aN aU) ey) ?_
 refine ga dT ?_
 refine s1 (an dT) ?_
 refine sa ?_
 refine .nil (hK _ _ ?_)
 cases h
 exact pe0 h0 []
 rintro ex tm' hp' ⟨rfl,hw⟩
 refine AW.weak hw (AW.ret ?_)
 cases h
 exact rv1
def bk(aU:av):Option Bool:=bnd (pC aU) fun x1=>bnd (S:=Bool) (cnd x1 (some (!aU.vBad)) (some (false))) fun jQ=>some jQ
theorem bS {aU:av}{r:Bool}(h:bk aU=some r):ax Tryz.prog 142 [dG aj aU] (dB r):=by
 refine bC (rs:=[.tmp 2]) (fun cx hx h0=>?_) Tryz.func142
 unfold bk at h
 refine ra hx ?_
 refine rs hx fun K hK=>?_
 refine s1 (d:=dG aj aU) (aq (ak.id _ _) am) ?_
 refine scb h Ef fun x1 h=>?_
 refine sa ?_
 refine .nil (hK _ _ (AW.seq ?_))
 obtain⟨jQ,hy,h⟩:=ae h
 refine jn ((PE cx .normal (fun jQ=>[(2,dB jQ)]) fun jQ=>⟨[],[],0⟩) jQ) ?_ ?_
 replace h:=hy
 refine rq hx fun K hK=>?_
 iterate 2 refine sa ?_
 rcases az x1 with a8|a8
 replace h:=aO a8 h
 refine ga a8 ?_
 refine g1 a8 (aT (jt aU) ey) ?_
 refine ga a8 ?_
 refine s1 (ar a8) ?_
 refine sa ?_
 refine .nil (hK _ _ ?_)
 cases h
 exact pe0 h0 []
 replace h:=aP a8 h
 iterate 3 refine aG rfl rfl a8 ?_
 refine s1 (an a8) ?_
 refine sa ?_
 refine .nil (hK _ _ ?_)
 cases h
 exact pe0 h0 []
 rintro ex tm' hp' ⟨rfl,hw⟩
 refine AW.weak hw (AW.ret ?_)
 cases h
 exact rv1
def mW(aU:av):Int→Option (Int⊕((Int×Bool)⊕Unit)):=fun bz=>cnd (decide (bz<(16:Int))) (gd (0≤bz∧bz<16) (cnd (decide (((aU.vW)[(bz).toNat]!)≠(0:Int))) (some (.inr (.inl ((0:Int),false)))) (some (.inl (i64.wrap (bz+(1:Int))))))) (some (.inr (.inr ())))
def cM(aU:av):Option (Int×Bool):=bnd (bk aU) fun x1=>bnd (S:=Bool) (cnd (!x1) (some (true)) (some (decide ((1073741824:Int)≤((aU.vW)[((1:Int)).toNat]!))))) fun aL=>cnd aL (some ((0:Int),false)) (bnd (bL (mW aU) (2:Int)) fun y11=>match y11 with| .inl r=>some r| .inr ()=>bnd (some (i64.wrap ((i64.wrap ((i64.wrap ((aU.vW)[((1:Int)).toNat]!))*(4294967296:Int)))+(i64.wrap ((aU.vW)[((0:Int)).toNat]!))))) fun m4=>cnd aU.vNeg (some (i64.wrap (0 - m4),true)) (some (m4,true)))
set_option maxHeartbeats 4000000 in
theorem gq {aU:av}{r:Int×Bool}(h:cM aU=some r):ax Tryz.prog 166 [dG aj aU] (.tu [dI .i64 r.1,dB r.2]):=by
 refine bC (rs:=[.tmp 2,.tmp 3]) (fun cx hx h0=>?_) Tryz.func166
 unfold cM at h
 refine ra hx ?_
 refine rs hx fun K hK=>?_
 refine s1 (d:=dG aj aU) (aq (ak.id _ _) am) ?_
 refine scb h bS fun x1 h=>?_
 refine sa ?_
 refine .nil (hK _ _ ?_)
 iterate 2 refine AW.seq ?_
 obtain⟨aL,hy,h⟩:=ae h
 refine jn ((PE cx .normal (fun aL=>[(1,.pt 0 0),(16,dB aL)]) fun aL=>⟨[(0,dC (aj.f aU))],[],1⟩) aL) ?_ ?_
 replace h:=hy
 refine rq hx fun K hK=>?_
 iterate 3 refine sa ?_
 rcases az (!x1) with a8|a8
 replace h:=aO a8 h
 iterate 4 refine aG rfl rfl a8 ?_
 refine s1 (ar a8) ?_
 refine .nil (hK _ _ ?_)
 cases h
 exact pe0 h0 [0]
 replace h:=aP a8 h
 refine ga a8 ?_
 have hn4:((1:Int)).toNat<16:=by omega
 refine g1 a8 (bY (by decide:0≤(1:Int)∧(1:Int)<((16:Nat):Int)) aA aI) ?_
 refine g1 a8 (aT (ak.comp (aY aU) (ak.vec (cI .u32) aU.vW ((1:Int)).toNat hn4) (fun _=>rfl)) aI) ?_
 refine ga a8 ?_
 refine s1 (an a8) ?_
 refine .nil (hK _ _ ?_)
 cases h
 exact pe0 h0 [0]
 rintro ex tm' hp' ⟨rfl,hw⟩
 refine AW.weak hw (cdh h rfl (fun fC h=>?_) (fun fC h=>?_))
 refine ra hx ?_
 refine AW.ret ?_
 cases h
 exact rv2
 refine AW.skip (AW.seq (ra hx ?_))
 refine AW.block ?_
 obtain⟨y,hy,h⟩:=ae h
 refine lp (S:=Int) (X:=(Int×Bool)⊕Unit) (fun bz=>[(1,.pt 0 0),(5,dI .i64 bz)]) (fun bz=>⟨[(0,dC (aj.f aU))],[],1⟩) (PS (PR [.tmp 2,.tmp 3] fun r=>.tu [dI .i64 r.1,dB r.2]) (PE cx (.exit 0) (fun ()=>[(1,.pt 0 0)]) fun ()=>⟨[(0,dC (aj.f aU))],[],1⟩)) hy ?_ ?_ ?_
 exact wk h0 [0] (wR rfl (wR rfl wTn)) (vC rfl wVn) wLn
 clear hy h
 rintro bz y h
 dsimp only[mW] at h
 refine AW.seq (ra hx ?_)
 refine cdh h rfl (fun nN h=>?_) (fun nN h=>?_)
 refine AW.skip (AW.seq (AW.block (rs hx fun K hK=>?_)))
 iterate 2 refine sa ?_
 obtain⟨Gs,h⟩:=aD h
 have H3:(bz).toNat<16:=by omega
 refine s1 (bY Gs aA aI) ?_
 refine s1 (aT (ak.comp (aY aU) (ak.vec (cI .u32) aU.vW (bz).toNat H3) (fun _=>rfl)) aI) ?_
 refine sa ?_
 refine .nil (hK _ _ (cdh h rfl (fun dT h=>?_) (fun dT h=>?_)))
 refine ra hx ?_
 refine AW.ret ?_
 cases h
 refine PS.r ⟨by nofun,PS.l (PR.i ?_)⟩
 exact rv2
 refine AW.skip (rb hx ?_)
 cases h
 exact PS.l (pe0 h0 [0])
 refine AW.exit ?_
 try dsimp only
 try simp only[aS,reduceIte,Nat.reduceEqDiff,reduceCtorEq]
 cases h
 exact PS.r ⟨by nofun,PS.r (PE.i (wk h0 [0] (wR rfl wTn) (vC rfl wVn) wLn))⟩
 rcases y with r|⟨⟩
 rintro ex tm' hp' ⟨rfl,hw⟩
 cases h
 exact hw
 rintro ex tm' hp' ⟨rfl,hw⟩
 try dsimp only
 try simp only[aS,reduceIte,Nat.reduceEqDiff,reduceCtorEq]
 refine AW.weak hw (rs hx fun K hK=>?_)
 refine sa ?_
 have OZ:((1:Int)).toNat<16:=by omega
 refine s1 (bY (by decide:0≤(1:Int)∧(1:Int)<((16:Nat):Int)) aA aI) ?_
 refine s1 (aT (ak.comp (aY aU) (ak.vec (cI .u32) aU.vW ((1:Int)).toNat OZ) (fun _=>rfl)) aI) ?_
 iterate 3 refine sa ?_
 have JJ:((0:Int)).toNat<16:=by omega
 refine s1 (bY (by decide:0≤(0:Int)∧(0:Int)<((16:Nat):Int)) aA aI) ?_
 refine s1 (aT (ak.comp (aY aU) (ak.vec (cI .u32) aU.vW ((0:Int)).toNat JJ) (fun _=>rfl)) aI) ?_
 iterate 2 refine sa ?_
 obtain⟨m4,vt,h⟩:=ae h
 replace vt:=bW vt
 refine s2 (d2:=dI .i64 m4) mp (gM (congrArg (dI .i64) vt)) ?_
 refine .nil (hK _ _ (AW.seq (rs hx fun K hK=>?_)))
 refine sa ?_
 refine s1 (aT (aN aU) ey) ?_
 refine .nil (hK _ _ (cdh h rfl (fun oz h=>?_) (fun oz h=>?_)))
 refine ra hx ?_
 refine AW.ret ?_
 cases h
 exact rv2
 refine AW.skip (ra hx ?_)
 refine AW.ret ?_
 cases h
 exact rv2
def lK(eZ:List Int):Int→Option (Int⊕Int):=fun aL=>bnd (S:=Bool) (cnd (decide ((0:Int)<aL)) (gd (0≤i64.wrap (aL - (1:Int))∧i64.wrap (aL - (1:Int))<((eZ).length:Int)) (some (decide (((eZ)[(i64.wrap (aL - (1:Int))).toNat]!)=(0:Int))))) (some (false))) fun n7=>cnd n7 (some (.inl (i64.wrap (aL - (1:Int))))) (some (.inr aL))
def fI(eZ:List Int):Option (List Int):=bnd (bL (lK eZ) ((eZ).length:Int)) fun oS=>gd (0≤(0:Int)∧(0:Int)≤oS∧oS≤((eZ).length:Int)) (some (xL eZ (0:Int) oS))
theorem kR {eZ:List Int}{r:List Int}(h:fI eZ=some r):ax Tryz.prog 175 [dL (cI .i64) eZ] (dL (cI .i64) r):=by
 refine bC (rs:=[.tmp 2]) (fun cx hx h0=>?_) Tryz.func175
 unfold fI at h
 refine rs hx fun K hK=>?_
 refine s1 (d:=dO 0 (cI .i64) ([]:List Int)) (fW cC bE) ?_
 refine .nil (hK _ _ (ra hx ?_))
 refine AW.seq (AW.block ?_)
 obtain⟨oS,hy,h⟩:=ae h
 refine lp (S:=Int) (X:=Int) (fun aL=>[(0,dL (cI .i64) eZ),(3,dI .i64 aL)]) (fun aL=>⟨[],[],0⟩) (PE cx (.exit 0) (fun oS=>[(0,dL (cI .i64) eZ),(3,dI .i64 oS)]) fun oS=>⟨[],[],0⟩) hy ?_ ?_ ?_
 exact wk h0 [] (wR rfl (wR rfl wTn)) wVn wLn
 clear hy h
 rintro aL y h
 dsimp only[lK] at h
 iterate 2 refine AW.seq ?_
 obtain⟨n7,hy,h⟩:=ae h
 refine jn ((PE cx .normal (fun n7=>[(0,dL (cI .i64) eZ),(3,dI .i64 aL),(15,dB n7)]) fun n7=>⟨[],[],0⟩) n7) ?_ ?_
 replace h:=hy
 refine rq hx fun K hK=>?_
 iterate 3 refine sa ?_
 rcases az (decide ((0:Int)<aL)) with cv|cv
 replace h:=aO cv h
 iterate 3 refine ga cv ?_
 obtain⟨mq,h⟩:=aD h
 have qD:(i64.wrap (aL - (1:Int))).toNat<(eZ).length:=by omega
 refine g1 cv (gV mq cC bE) ?_
 refine g1 cv (xw (c:=(cI .i64)) (l:=eZ) (n:=(i64.wrap (aL - (1:Int))).toNat) (o:=0) bE qD) ?_
 refine ga cv ?_
 refine s1 (ar cv) ?_
 refine .nil (hK _ _ ?_)
 cases h
 exact pe0 h0 []
 replace h:=aP cv h
 iterate 6 refine aG rfl rfl cv ?_
 refine s1 (an cv) ?_
 refine .nil (hK _ _ ?_)
 cases h
 exact pe0 h0 []
 rintro ex tm' hp' ⟨rfl,hw⟩
 refine AW.weak hw (cdh h rfl (fun dy h=>?_) (fun dy h=>?_))
 refine AW.skip (AW.block (rb hx ?_))
 cases h
 exact PS.l (pe0 h0 [])
 refine AW.exit ?_
 try dsimp only
 try simp only[aS,reduceIte,Nat.reduceEqDiff,reduceCtorEq]
 cases h
 exact PS.r ⟨by nofun,PE.i (wk h0 [] (wR rfl (wR rfl wTn)) wVn wLn)⟩
 rintro ex tm' hp' ⟨rfl,hw⟩
 try dsimp only
 try simp only[aS,reduceIte,Nat.reduceEqDiff,reduceCtorEq]
 refine AW.weak hw (rs hx fun K hK=>?_)
 iterate 2 refine sa ?_
 obtain⟨JO,h⟩:=aD h
 refine s1 (T_sl (c:=(cI .i64)) (l:=eZ) (a:=(0:Int)) (b:=oS) JO cC bE) ?_
 refine sa ?_
 refine .nil (hK _ _ (AW.ret ?_))
 cases h
 exact rv1
def eY :Option av:=some (⟨true,false,(cH)⟩:av)
theorem ir  {r:av}(h:eY=some r):ax Tryz.prog 124 [] (dG aj r):=by
 refine bC (rs:=[.cell 0 41]) (fun cx hx h0=>?_) Tryz.func124
 unfold eY at h
 refine rs hx fun K hK=>?_
 refine s1 (be (F:=aj.f a6) am) ?_
 refine .nil (hK _ _ (rs hx fun K hK=>?_))
 refine s1 (d:=dG aj (⟨true,false,(cH)⟩:av)) (ig (FL.cons (y:=true) (jt a6) rfl rfl (FL.nil _)) am) ?_
 refine s0 (aE (b':=(⟨true,false,(cH)⟩:av)) (ak.id _ _) am) ?_
 refine .nil (hK _ _ (AW.ret ?_))
 cases h
 exact rv1
def gh(x1:List Int):Int×av→Option ((Int×av)⊕av):=fun (bB,lN)=>cnd (decide (bB<((x1).length:Int))) (bnd (S:=av) (cnd (decide ((Int.tmod bB (2:Int))=(0:Int))) (gd (0≤i64.wrap (Int.tdiv bB (2:Int))∧i64.wrap (Int.tdiv bB (2:Int))<16) (gd (0≤bB∧bB<((x1).length:Int)) (gd (0≤i64.wrap (Int.tdiv bB (2:Int))∧i64.wrap (Int.tdiv bB (2:Int))<16) (bnd (some ((⟨lN.vBad,lN.vNeg,(lN.vW).set! (i64.wrap (Int.tdiv bB (2:Int))).toNat (u32.wrap (((lN.vW)[(i64.wrap (Int.tdiv bB (2:Int))).toNat]!)+(u32.wrap ((x1)[(bB).toNat]!))))⟩:av))) fun pG=>some (pG))))) (gd (0≤i64.wrap (Int.tdiv bB (2:Int))∧i64.wrap (Int.tdiv bB (2:Int))<16) (gd (0≤bB∧bB<((x1).length:Int)) (gd (0≤i64.wrap (Int.tdiv bB (2:Int))∧i64.wrap (Int.tdiv bB (2:Int))<16) (bnd (some ((⟨lN.vBad,lN.vNeg,(lN.vW).set! (i64.wrap (Int.tdiv bB (2:Int))).toNat (u32.wrap (((lN.vW)[(i64.wrap (Int.tdiv bB (2:Int))).toNat]!)+(u32.wrap ((u32.wrap ((x1)[(bB).toNat]!))*(65536:Int)))))⟩:av))) fun MW=>some (MW)))))) fun gT=>some (.inl (i64.wrap (bB+(1:Int)),gT))) (some (.inr lN))
def cg(vn:Bool)(eZ:List Int):Option av:=bnd (fI eZ) fun x1=>cnd (decide ((32:Int)<((x1).length:Int))) (bnd (eY) fun x4=>some x4) (bnd (S:=av) (cnd vn (bnd (some ((⟨false,decide ((0:Int)<((x1).length:Int)),(cH)⟩:av))) fun x7=>some (x7)) (some ((⟨false,false,(cH)⟩:av)))) fun dp=>bnd (bL (gh x1) ((0:Int),dp)) fun eL=>some eL)
set_option maxHeartbeats 4000000 in
theorem ew {vn:Bool}{eZ:List Int}{r:av}(h:cg vn eZ=some r):ax Tryz.prog 140 [dB vn,dL (cI .i64) eZ] (dG aj r):=by
 refine bC (rs:=[.cell 4 41]) (fun cx hx h0=>?_) Tryz.func140
 unfold cg at h
 refine rs hx fun K hK=>?_
 refine s1 (be (F:=aj.f a6) am) ?_
 refine .nil (hK _ _ (rs hx fun K hK=>?_))
 refine sa ?_
 refine scb h kR fun x1 h=>?_
 refine sa ?_
 refine .nil (hK _ _ (AW.seq (ra hx ?_)))
 refine cdh h rfl (fun a8 h=>?_) (fun a8 h=>?_)
 refine rs hx fun K hK=>?_
 refine scb h ir fun x4 h=>?_
 refine s0 (aE (b':=x4) (ak.id _ _) am) ?_
 refine .nil (hK _ _ (AW.ret ?_))
 cases h
 exact rv1
 refine AW.skip (AW.seq ?_)
 obtain⟨dp,hy,h⟩:=ae h
 refine jn ((PE cx .normal (fun dp=>[(4,.pt 0 0),(5,dL (cI .i64) x1),(6,.pt 1 0)]) fun dp=>⟨[(0,dC (aj.f a6)),(1,dC (aj.f dp))],[],2⟩) dp) ?_ ?_
 replace h:=hy
 refine rq hx fun K hK=>?_
 iterate 2 refine sa ?_
 rcases az vn with fC|fC
 replace h:=aO fC h
 iterate 3 refine ga fC ?_
 refine s1 (ar fC) ?_
 refine s1 (d:=dG aj (⟨false,decide ((0:Int)<((x1).length:Int)),(cH)⟩:av)) (ig (FL.cons (y:=decide ((0:Int)<((x1).length:Int))) (aN a6) rfl rfl (FL.nil _)) am) ?_
 refine s1 (be (F:=aj.f a6) am) ?_
 obtain⟨x7,Gg,h⟩:=ae h
 replace Gg:=bW Gg
 refine s0 (nS (b':=(⟨false,decide ((0:Int)<((x1).length:Int)),(cH)⟩:av)) (ak.id _ _) am Gg) ?_
 refine .nil (hK _ _ ?_)
 cases h
 exact pe0 h0 [0,1]
 replace h:=aP fC h
 iterate 3 refine aG rfl rfl fC ?_
 refine s1 (an fC) ?_
 refine s1 (d:=dG aj a6) (ig (FL.cons (y:=false) (aN a6) rfl rfl (FL.nil _)) am) ?_
 refine s1 (be (F:=aj.f a6) am) ?_
 refine s0 (aE (b':=a6) (ak.id _ _) am) ?_
 refine .nil (hK _ _ ?_)
 cases h
 exact pe0 h0 [0,1]
 rintro ex tm' hp' ⟨rfl,hw⟩
 refine AW.weak hw (AW.seq (ra hx ?_))
 refine AW.block ?_
 obtain⟨eL,hy,h⟩:=ae h
 refine lp (S:=Int×av) (X:=av) (fun (bB,lN)=>[(4,.pt 0 0),(5,dL (cI .i64) x1),(6,.pt 1 0),(7,dI .i64 bB)]) (fun (bB,lN)=>⟨[(0,dC (aj.f a6)),(1,dC (aj.f lN))],[],2⟩) (PE cx (.exit 0) (fun eL=>[(4,.pt 0 0),(6,.pt 1 0)]) fun eL=>⟨[(0,dC (aj.f a6)),(1,dC (aj.f eL))],[],2⟩) hy ?_ ?_ ?_
 exact wk h0 [0,1] (wR rfl (wR rfl (wR rfl (wR rfl wTn)))) (vC rfl (vC rfl wVn)) wLn
 clear hy h
 rintro⟨bB,lN⟩ y h
 dsimp only[gh] at h
 refine AW.seq (ra hx ?_)
 refine cdh h rfl (fun dT h=>?_) (fun dT h=>?_)
 refine AW.skip (AW.seq ?_)
 obtain⟨gT,hy,h⟩:=ae h
 refine jn ((PE cx .normal (fun gT=>[(4,.pt 0 0),(5,dL (cI .i64) x1),(6,.pt 1 0),(7,dI .i64 bB)]) fun gT=>⟨[(0,dC (aj.f a6)),(1,dC (aj.f gT))],[],2⟩) gT) ?_ ?_
 replace h:=hy
 refine AW.block (ra hx ?_)
 refine cdh h rfl (fun qH h=>?_) (fun qH h=>?_)
 refine rqd [] hx fun K hK=>?_
 iterate 5 refine sa ?_
 obtain⟨Pi,h⟩:=aD h
 have JJ:(i64.wrap (Int.tdiv bB (2:Int))).toNat<16:=by omega
 refine s1 (bY Pi aA aI) ?_
 refine s1 (aT (ak.comp (aY lN) (ak.vec (cI .u32) lN.vW (i64.wrap (Int.tdiv bB (2:Int))).toNat JJ) (fun _=>rfl)) aI) ?_
 iterate 2 refine sa ?_
 obtain⟨hc14,h⟩:=aD h
 have JI:(bB).toNat<(x1).length:=by omega
 refine s1 (gV hc14 cC bE) ?_
 refine s1 (xw (c:=(cI .i64)) (l:=x1) (n:=(bB).toNat) (o:=0) bE JI) ?_
 iterate 3 refine sa ?_
 obtain⟨H6,h⟩:=aD h
 have JH:(i64.wrap (Int.tdiv bB (2:Int))).toNat<16:=by omega
 refine s1 (bY H6 aA aI) ?_
 obtain⟨pG,Ak,h⟩:=ae h
 replace Ak:=bW Ak
 refine s0 (nS (b':=u32.wrap (((lN.vW)[(i64.wrap (Int.tdiv bB (2:Int))).toNat]!)+(u32.wrap ((x1)[(bB).toNat]!)))) (ak.comp (aY lN) (ak.vec (cI .u32) lN.vW (i64.wrap (Int.tdiv bB (2:Int))).toNat JH) (fun _=>rfl)) aI Ak) ?_
 refine .nil (hK _ _ ?_)
 cases h
 exact pe0 h0 [0,1]
 refine rqd [] hx fun K hK=>?_
 iterate 5 refine sa ?_
 obtain⟨Mo,h⟩:=aD h
 have OX:(i64.wrap (Int.tdiv bB (2:Int))).toNat<16:=by omega
 refine s1 (bY Mo aA aI) ?_
 refine s1 (aT (ak.comp (aY lN) (ak.vec (cI .u32) lN.vW (i64.wrap (Int.tdiv bB (2:Int))).toNat OX) (fun _=>rfl)) aI) ?_
 iterate 2 refine sa ?_
 obtain⟨JP,h⟩:=aD h
 have hn23:(bB).toNat<(x1).length:=by omega
 refine s1 (gV JP cC bE) ?_
 refine s1 (xw (c:=(cI .i64)) (l:=x1) (n:=(bB).toNat) (o:=0) bE hn23) ?_
 iterate 4 refine sa ?_
 obtain⟨hc24,h⟩:=aD h
 have hn25:(i64.wrap (Int.tdiv bB (2:Int))).toNat<16:=by omega
 refine s1 (bY hc24 aA aI) ?_
 obtain⟨MW,hx27,h⟩:=ae h
 replace hx27:=bW hx27
 refine s0 (nS (b':=u32.wrap (((lN.vW)[(i64.wrap (Int.tdiv bB (2:Int))).toNat]!)+(u32.wrap ((u32.wrap ((x1)[(bB).toNat]!))*(65536:Int))))) (ak.comp (aY lN) (ak.vec (cI .u32) lN.vW (i64.wrap (Int.tdiv bB (2:Int))).toNat hn25) (fun _=>rfl)) aI hx27) ?_
 refine .nil (hK _ _ ?_)
 cases h
 exact pe0 h0 [0,1]
 rintro ex tm' hp' ⟨rfl,hw⟩
 refine AW.weak hw (rb hx ?_)
 cases h
 exact PS.l (pe0 h0 [0,1])
 refine AW.exit ?_
 try dsimp only
 try simp only[aS,reduceIte,Nat.reduceEqDiff,reduceCtorEq]
 cases h
 exact PS.r ⟨by nofun,PE.i (wk h0 [0,1] (wR rfl (wR rfl wTn)) (vC rfl (vC rfl wVn)) wLn)⟩
 rintro ex tm' hp' ⟨rfl,hw⟩
 try dsimp only
 try simp only[aS,reduceIte,Nat.reduceEqDiff,reduceCtorEq]
 refine AW.weak hw (rs hx fun K hK=>?_)
 refine s1 (d:=dG aj eL) (aq (ak.id _ _) am) ?_
 refine s0 (aE (b':=eL) (ak.id _ _) am) ?_
 refine .nil (hK _ _ (AW.ret ?_))
 cases h
 exact rv1
def eG(eZ:List Int)(q8:Int):Option Int:=cnd (decide (q8<((eZ).length:Int))) (gd (0≤q8∧q8<((eZ).length:Int)) (some ((eZ)[(q8).toNat]!))) (some (0:Int))
theorem iq {eZ:List Int}{q8:Int}{r:Int}(h:eG eZ q8=some r):ax Tryz.prog 176 [dL (cI .i64) eZ,dI .i64 q8] (dI .i64 r):=by
 refine bC (rs:=[.tmp 4]) (fun cx hx h0=>?_) Tryz.func176
 unfold eG at h
 refine ra hx ?_
 refine AW.seq (ra hx ?_)
 refine cdh h rfl (fun cv h=>?_) (fun cv h=>?_)
 refine rs hx fun K hK=>?_
 iterate 2 refine sa ?_
 obtain⟨mq,h⟩:=aD h
 have qD:(q8).toNat<(eZ).length:=by omega
 refine s1 (gV mq cC bE) ?_
 refine s1 (xw (c:=(cI .i64)) (l:=eZ) (n:=(q8).toNat) (o:=0) bE qD) ?_
 refine sa ?_
 refine .nil (hK _ _ (AW.ret ?_))
 cases h
 exact rv1
 refine AW.skip (ra hx ?_)
 refine AW.ret ?_
 cases h
 exact rv1
def kB(aJ:List Int)(aQ:List Int):(List Int)×Int×Int→Option (((List Int)×Int×Int)⊕((List Int))):=fun (d5,bH,eI)=>cnd (decide (eI<(i64.wrap ((max ((aJ).length:Int) ((aQ).length:Int))+(1:Int))))) (bnd (eG aJ eI) fun x2=>bnd (eG aQ eI) fun x4=>bnd (some (i64.wrap ((i64.wrap (x2+x4))+bH))) fun x6=>gd ((d5++[Int.tmod x6 (65536:Int)]).length*8≤140737488355328) (some (.inl (d5++[Int.tmod x6 (65536:Int)],i64.wrap (Int.tdiv x6 (65536:Int)),i64.wrap (eI+(1:Int)))))) (some (.inr d5))
def kZ(aJ:List Int)(aQ:List Int):Option (List Int):=bnd (bL (kB aJ aQ) (([]:List Int),(0:Int),(0:Int))) fun cw=>bnd (fI cw) fun jm=>some jm
set_option maxHeartbeats 4000000 in
theorem tM {aJ:List Int}{aQ:List Int}{r:List Int}(h:kZ aJ aQ=some r):ax Tryz.prog 141 [dL (cI .i64) aJ,dL (cI .i64) aQ] (dL (cI .i64) r):=by
 refine bC (rs:=[.tmp 4]) (fun cx hx h0=>?_) Tryz.func141
 unfold kZ at h
 refine rs hx fun K hK=>?_
 refine s1 (d:=dO 0 (cI .i64) ([]:List Int)) (fW cC bE) ?_
 refine .nil (hK _ _ (rs hx fun K hK=>?_))
 refine s1 (d:=dO 1 (cI .i64) ([]:List Int)) (fW cC bE) ?_
 refine .nil (hK _ _ (ra hx ?_))
 refine AW.seq (ra hx ?_)
 refine AW.block ?_
 obtain⟨cw,hy,h⟩:=ae h
 refine lp (S:=(List Int)×Int×Int) (X:=(List Int)) (fun (d5,bH,eI)=>[(0,dL (cI .i64) aJ),(1,dL (cI .i64) aQ),(5,dO 0 (cI .i64) d5),(6,dI .i64 bH),(7,dI .i64 eI)]) (fun (d5,bH,eI)=>⟨[],[(0,(d5).length,1,3)],1⟩) (PE cx (.exit 0) (fun cw=>[(5,dO 0 (cI .i64) cw)]) fun cw=>⟨[],[(0,(cw).length,1,3)],1⟩) hy ?_ ?_ ?_
 exact wk h0 [1] (wR rfl (wR rfl (wR rfl (wR rfl (wR rfl wTn))))) wVn (wL rfl rfl wLn)
 clear hy h
 rintro⟨d5,bH,eI⟩ y h
 dsimp only[kB] at h
 refine AW.seq (ra hx ?_)
 refine cdh h rfl (fun cv h=>?_) (fun cv h=>?_)
 refine AW.skip (AW.seq (AW.block (rs hx fun K hK=>?_)))
 iterate 2 refine sa ?_
 refine scb h iq fun x2 h=>?_
 iterate 2 refine sa ?_
 refine scb h iq fun x4 h=>?_
 iterate 3 refine sa ?_
 obtain⟨x6,rT,h⟩:=ae h
 replace rT:=bW rT
 refine s2 (d2:=dI .i64 x6) mp (gM (congrArg (dI .i64) rT)) ?_
 refine .nil (hK _ _ (rs hx fun K hK=>?_))
 iterate 3 refine sa ?_
 refine s1 (d:=dO 1 (cI .i64) [Int.tmod x6 (65536:Int)]) (kK cC bE) ?_
 obtain⟨Gs,h⟩:=aD h
 refine s1 (d:=dO 0 (cI .i64) (d5++[Int.tmod x6 (65536:Int)])) (qn cC bE Gs) ?_
 refine sa ?_
 refine .nil (hK _ _ ?_)
 iterate 2 refine rb hx ?_
 cases h
 exact PS.l (pe0 h0 [0])
 refine AW.exit ?_
 try dsimp only
 try simp only[aS,reduceIte,Nat.reduceEqDiff,reduceCtorEq]
 cases h
 exact PS.r ⟨by nofun,PE.i (wk h0 [0] (wR rfl wTn) wVn (wL rfl rfl wLn))⟩
 rintro ex tm' hp' ⟨rfl,hw⟩
 try dsimp only
 try simp only[aS,reduceIte,Nat.reduceEqDiff,reduceCtorEq]
 refine AW.weak hw (rs hx fun K hK=>?_)
 refine sa ?_
 refine scb h kR fun jm h=>?_
 refine sa ?_
 refine .nil (hK _ _ (AW.ret ?_))
 cases h
 exact rv1
def fJ(cy:Int):Option av:=cnd (decide ((0:Int)≤cy)) (bnd (cg false [Int.tmod cy (65536:Int),Int.tmod (i64.wrap (Int.tdiv cy (65536:Int))) (65536:Int),Int.tmod (i64.wrap (Int.tdiv cy (4294967296:Int))) (65536:Int),i64.wrap (Int.tdiv cy (281474976710656:Int))]) fun x2=>some x2) (bnd (some (i64.wrap (0 - (i64.wrap (cy+(1:Int)))))) fun x4=>bnd (kZ [Int.tmod x4 (65536:Int),Int.tmod (i64.wrap (Int.tdiv x4 (65536:Int))) (65536:Int),Int.tmod (i64.wrap (Int.tdiv x4 (4294967296:Int))) (65536:Int),i64.wrap (Int.tdiv x4 (281474976710656:Int))] [(1:Int)]) fun x6=>bnd (cg true x6) fun x8=>some x8)
theorem jS {cy:Int}{r:av}(h:fJ cy=some r):ax Tryz.prog 88 [dI .i64 cy] (dG aj r):=by
 refine bC (rs:=[.cell 2 41]) (fun cx hx h0=>?_) Tryz.func88
 unfold fJ at h
 refine rs hx fun K hK=>?_
 refine s1 (be (F:=aj.f a6) am) ?_
 refine .nil (hK _ _ (AW.seq (ra hx ?_)))
 refine cdh h rfl (fun cv h=>?_) (fun cv h=>?_)
 refine rs hx fun K hK=>?_
 iterate 10 refine sa ?_
 refine s1 (d:=dO 1 (cI .i64) [Int.tmod cy (65536:Int),Int.tmod (i64.wrap (Int.tdiv cy (65536:Int))) (65536:Int),Int.tmod (i64.wrap (Int.tdiv cy (4294967296:Int))) (65536:Int),i64.wrap (Int.tdiv cy (281474976710656:Int))]) (kK cC bE) ?_
 refine scb h ew fun x2 h=>?_
 refine s0 (aE (b':=x2) (ak.id _ _) am) ?_
 refine .nil (hK _ _ (AW.ret ?_))
 cases h
 exact rv1
 refine AW.skip (rs hx fun K hK=>?_)
 iterate 3 refine sa ?_
 obtain⟨x4,qd,h⟩:=ae h
 replace qd:=bW qd
 refine s2 (d2:=dI .i64 x4) mp (gM (congrArg (dI .i64) qd)) ?_
 refine .nil (hK _ _ (rs hx fun K hK=>?_))
 iterate 10 refine sa ?_
 refine s1 (d:=dO 1 (cI .i64) [Int.tmod x4 (65536:Int),Int.tmod (i64.wrap (Int.tdiv x4 (65536:Int))) (65536:Int),Int.tmod (i64.wrap (Int.tdiv x4 (4294967296:Int))) (65536:Int),i64.wrap (Int.tdiv x4 (281474976710656:Int))]) (kK cC bE) ?_
 refine s1 (d:=dO 2 (cI .i64) [(1:Int)]) (kK cC bE) ?_
 refine scb h tM fun x6 h=>?_
 refine scb h ew fun x8 h=>?_
 refine s0 (aE (b':=x8) (ak.id _ _) am) ?_
 refine .nil (hK _ _ (AW.ret ?_))
 cases h
 exact rv1
def jK(aU:av):(List Int)×Int→Option (((List Int)×Int)⊕((List Int))):=fun (aZ,bm)=>cnd (decide (bm<(16:Int))) (gd (0≤bm∧bm<16) (gd (0≤bm∧bm<16) (gd ((aZ++[i64.wrap (Int.tmod ((aU.vW)[(bm).toNat]!) (65536:Int)),i64.wrap (u32.wrap (Int.tdiv ((aU.vW)[(bm).toNat]!) (65536:Int)))]).length*8≤140737488355328) (some (.inl (aZ++[i64.wrap (Int.tmod ((aU.vW)[(bm).toNat]!) (65536:Int)),i64.wrap (u32.wrap (Int.tdiv ((aU.vW)[(bm).toNat]!) (65536:Int)))],i64.wrap (bm+(1:Int)))))))) (some (.inr aZ))
def bg(aU:av):Option (List Int):=bnd (bL (jK aU) (([]:List Int),(0:Int))) fun bj=>bnd (fI bj) fun x8=>some x8
theorem bG {aU:av}{r:List Int}(h:bg aU=some r):ax Tryz.prog 143 [dG aj aU] (dL (cI .i64) r):=by
 refine bC (rs:=[.tmp 2]) (fun cx hx h0=>?_) Tryz.func143
 unfold bg at h
 refine rs hx fun K hK=>?_
 refine sa ?_
 refine s1 (d:=dO 1 (cI .i64) ([]:List Int)) (fW cC bE) ?_
 refine .nil (hK _ _ (rs hx fun K hK=>?_))
 refine s1 (d:=dO 2 (cI .i64) ([]:List Int)) (fW cC bE) ?_
 refine .nil (hK _ _ (AW.seq (ra hx ?_)))
 refine AW.block ?_
 obtain⟨bj,hy,h⟩:=ae h
 refine lp (S:=(List Int)×Int) (X:=(List Int)) (fun (aZ,bm)=>[(1,.pt 0 0),(3,dO 1 (cI .i64) aZ),(4,dI .i64 bm)]) (fun (aZ,bm)=>⟨[(0,dC (aj.f aU))],[(1,(aZ).length,1,3)],2⟩) (PE cx (.exit 0) (fun bj=>[(3,dO 0 (cI .i64) bj)]) fun bj=>⟨[],[(0,(bj).length,1,3)],1⟩) hy ?_ ?_ ?_
 exact wk h0 [0,2] (wR rfl (wR rfl (wR rfl wTn))) (vC rfl wVn) (wL rfl rfl wLn)
 clear hy h
 rintro⟨aZ,bm⟩ y h
 dsimp only[jK] at h
 refine AW.seq (ra hx ?_)
 refine cdh h rfl (fun cv h=>?_) (fun cv h=>?_)
 refine AW.skip (AW.seq (AW.block (rqd [] hx fun K hK=>?_)))
 iterate 3 refine sa ?_
 obtain⟨mq,h⟩:=aD h
 have qD:(bm).toNat<16:=by omega
 refine s1 (bY mq aA aI) ?_
 refine s1 (aT (ak.comp (aY aU) (ak.vec (cI .u32) aU.vW (bm).toNat qD) (fun _=>rfl)) aI) ?_
 iterate 4 refine sa ?_
 obtain⟨D5,h⟩:=aD h
 have Mj:(bm).toNat<16:=by omega
 refine s1 (bY D5 aA aI) ?_
 refine s1 (aT (ak.comp (aY aU) (ak.vec (cI .u32) aU.vW (bm).toNat Mj) (fun _=>rfl)) aI) ?_
 iterate 2 refine sa ?_
 refine s1 (DE cC bE) ?_
 obtain⟨hc6,h⟩:=aD h
 refine s1 (d:=dO 1 (cI .i64) (aZ++[i64.wrap (Int.tmod ((aU.vW)[(bm).toNat]!) (65536:Int)),i64.wrap (u32.wrap (Int.tdiv ((aU.vW)[(bm).toNat]!) (65536:Int)))])) (qn cC bE hc6) ?_
 refine sa ?_
 refine .nil (hK _ _ (rb hx ?_))
 cases h
 exact PS.l (pe0 h0 [0,1])
 refine AW.exit ?_
 try dsimp only
 try simp only[aS,reduceIte,Nat.reduceEqDiff,reduceCtorEq]
 cases h
 exact PS.r ⟨by nofun,PE.i (wk h0 [1] (wR rfl wTn) wVn (wL rfl rfl wLn))⟩
 rintro ex tm' hp' ⟨rfl,hw⟩
 try dsimp only
 try simp only[aS,reduceIte,Nat.reduceEqDiff,reduceCtorEq]
 refine AW.weak hw (rs hx fun K hK=>?_)
 refine sa ?_
 refine scb h kR fun x8 h=>?_
 refine sa ?_
 refine .nil (hK _ _ (AW.ret ?_))
 cases h
 exact rv1
def pV(aU:av):Option av:=bnd (bk aU) fun x1=>cnd (!x1) (bnd (eY) fun x4=>some x4) (bnd (bg aU) fun x6=>bnd (cg false x6) fun x8=>some x8)
theorem Hk {aU:av}{r:av}(h:pV aU=some r):ax Tryz.prog 167 [dG aj aU] (dG aj r):=by
 refine bC (rs:=[.cell 2 41]) (fun cx hx h0=>?_) Tryz.func167
 unfold pV at h
 refine rs hx fun K hK=>?_
 refine sa ?_
 refine s1 (be (F:=aj.f a6) am) ?_
 refine .nil (hK _ _ (AW.seq (rs hx fun K hK=>?_)))
 refine s1 (d:=dG aj aU) (aq (ak.id _ _) am) ?_
 refine scb h bS fun x1 h=>?_
 refine sa ?_
 refine .nil (hK _ _ (cdh h rfl (fun a8 h=>?_) (fun a8 h=>?_)))
 refine rs hx fun K hK=>?_
 refine scb h ir fun x4 h=>?_
 refine s0 (aE (b':=x4) (ak.id _ _) am) ?_
 refine .nil (hK _ _ (AW.ret ?_))
 cases h
 exact rv1
 refine AW.skip (rs hx fun K hK=>?_)
 refine s1 (d:=dG aj aU) (aq (ak.id _ _) am) ?_
 refine scb h bG fun x6 h=>?_
 refine scb h ew fun x8 h=>?_
 refine s0 (aE (b':=x8) (ak.id _ _) am) ?_
 refine .nil (hK _ _ (AW.ret ?_))
 cases h
 exact rv1
def iN(eZ:List Int)(q8:Int):Option Int:=cnd (decide (q8<(0:Int))) (some (0:Int)) (bnd (eG eZ q8) fun x2=>some x2)
theorem tN {eZ:List Int}{q8:Int}{r:Int}(h:iN eZ q8=some r):ax Tryz.prog 194 [dL (cI .i64) eZ,dI .i64 q8] (dI .i64 r):=by
 refine bC (rs:=[.tmp 4]) (fun cx hx h0=>?_) Tryz.func194
 unfold iN at h
 refine ra hx ?_
 refine AW.seq (ra hx ?_)
 refine cdh h rfl (fun cv h=>?_) (fun cv h=>?_)
 refine ra hx ?_
 refine AW.ret ?_
 cases h
 exact rv1
 refine AW.skip (rs hx fun K hK=>?_)
 iterate 2 refine sa ?_
 refine scb h iq fun x2 h=>?_
 refine sa ?_
 refine .nil (hK _ _ (AW.ret ?_))
 cases h
 exact rv1
def jH(aJ:List Int)(aQ:List Int)(aZ:Int):Int×(List Int)→Option ((Int×(List Int))⊕((List Int))):=fun (fj,eQ)=>cnd (decide (fj<((aQ).length:Int))) (gd (0≤i64.wrap (aZ+fj)∧i64.wrap (aZ+fj)<(((i64.wrap ((i64.wrap (((aJ).length:Int)+((aQ).length:Int)))+(1:Int))).toNat:Nat):Int)∧i64.wrap (aZ+fj)<((eQ).length:Int)) (gd (0≤aZ∧aZ<((aJ).length:Int)) (gd (0≤fj∧fj<((aQ).length:Int)) (gd (0≤i64.wrap (aZ+fj)∧i64.wrap (aZ+fj)<(((i64.wrap ((i64.wrap (((aJ).length:Int)+((aQ).length:Int)))+(1:Int))).toNat:Nat):Int)∧i64.wrap (aZ+fj)<((eQ).length:Int)) (bnd (some ((eQ).set ((i64.wrap (aZ+fj)).toNat) (i64.wrap (((eQ)[(i64.wrap (aZ+fj)).toNat]!)+(i64.wrap (((aJ)[(aZ).toNat]!)*((aQ)[(fj).toNat]!))))))) fun iE=>some (.inl (i64.wrap (fj+(1:Int)),iE))))))) (some (.inr eQ))
def gQ(aJ:List Int)(aQ:List Int):Int×Int×(List Int)→Option ((Int×Int×(List Int))⊕((List Int))):=fun (IL,o4,tv)=>cnd (decide (o4<(((i64.wrap ((i64.wrap (((aJ).length:Int)+((aQ).length:Int)))+(1:Int))).toNat:Nat):Int))) (gd (0≤o4∧o4<(((i64.wrap ((i64.wrap (((aJ).length:Int)+((aQ).length:Int)))+(1:Int))).toNat:Nat):Int)∧o4<((tv).length:Int)) (bnd (some (i64.wrap (((tv)[(o4).toNat]!)+IL))) fun pG=>gd (0≤o4∧o4<(((i64.wrap ((i64.wrap (((aJ).length:Int)+((aQ).length:Int)))+(1:Int))).toNat:Nat):Int)∧o4<((tv).length:Int)) (some (.inl (i64.wrap (Int.tdiv pG (65536:Int)),i64.wrap (o4+(1:Int)),(tv).set ((o4).toNat) (Int.tmod pG (65536:Int))))))) (some (.inr tv))
def kA(aJ:List Int)(aQ:List Int):Int×(List Int)→Option ((Int×(List Int))⊕((List Int))):=fun (aZ,bm)=>cnd (decide (aZ<((aJ).length:Int))) (bnd (bL (jH aJ aQ aZ) ((0:Int),bm)) fun zy=>bnd (bL (gQ aJ aQ) ((0:Int),(0:Int),zy)) fun zt=>some (.inl (i64.wrap (aZ+(1:Int)),zt))) (some (.inr bm))
def lW(aJ:List Int)(aQ:List Int):Option (List Int):=gd (0≤i64.wrap ((i64.wrap (((aJ).length:Int)+((aQ).length:Int)))+(1:Int))∧i64.wrap ((i64.wrap (((aJ).length:Int)+((aQ).length:Int)))+(1:Int))≤1000000) (bnd (bL (kA aJ aQ) ((0:Int),List.replicate (i64.wrap ((i64.wrap (((aJ).length:Int)+((aQ).length:Int)))+(1:Int))).toNat (0:Int))) fun bj=>gd ((i64.wrap ((i64.wrap (((aJ).length:Int)+((aQ).length:Int)))+(1:Int))).toNat=(bj).length) (bnd (fI bj) fun D7=>some D7))
set_option maxHeartbeats 4000000 in
theorem w9 {aJ:List Int}{aQ:List Int}{r:List Int}(h:lW aJ aQ=some r):ax Tryz.prog 173 [dL (cI .i64) aJ,dL (cI .i64) aQ] (dL (cI .i64) r):=by
 refine bC (rs:=[.tmp 4]) (fun cx hx h0=>?_) Tryz.func173
 unfold lW at h
 refine rs hx fun K hK=>?_
 refine s1 (d:=dO 0 (cI .i64) ([]:List Int)) (fW cC bE) ?_
 refine .nil (hK _ _ (rs hx fun K hK=>?_))
 iterate 6 refine sa ?_
 obtain⟨JR,h⟩:=aD h
 refine q1 (sMk (c:=(cI .i64)) (z0:=(0:Int)) tok JR cC bE (by first|rfl|kernel_rfl)) ?_
 refine sa ?_
 refine .nil (hK _ _ (AW.seq (ra hx ?_)))
 refine AW.block ?_
 obtain⟨bj,hy,h⟩:=ae h
 refine lp (S:=Int×(List Int)) (X:=(List Int)) (fun (aZ,bm)=>[(0,dL (cI .i64) aJ),(1,dL (cI .i64) aQ),(5,.ow 0 0 1 ((i64.wrap ((i64.wrap (((aJ).length:Int)+((aQ).length:Int)))+(1:Int))).toNat)),(6,dI .i64 aZ)]) (fun (aZ,bm)=>⟨[(0,dC ((cW (cI .i64)).f bm))],[],1⟩) (PE cx (.exit 0) (fun bj=>[(5,.ow 0 0 1 ((i64.wrap ((i64.wrap (((aJ).length:Int)+((aQ).length:Int)))+(1:Int))).toNat))]) fun bj=>⟨[(0,dC ((cW (cI .i64)).f bj))],[],1⟩) hy ?_ ?_ ?_
 exact wk h0 [1] (wR rfl (wR rfl (wR rfl (wR rfl wTn)))) (vC rfl wVn) wLn
 clear hy h
 rintro⟨aZ,bm⟩ y h
 dsimp only[kA] at h
 refine AW.seq (ra hx ?_)
 refine cdh h rfl (fun ly h=>?_) (fun ly h=>?_)
 refine AW.skip (AW.seq (AW.block (AW.seq (ra hx ?_))))
 refine AW.block ?_
 obtain⟨zy,hy,h⟩:=ae h
 refine lp (S:=Int×(List Int)) (X:=(List Int)) (fun (fj,eQ)=>[(0,dL (cI .i64) aJ),(1,dL (cI .i64) aQ),(5,.ow 0 0 1 ((i64.wrap ((i64.wrap (((aJ).length:Int)+((aQ).length:Int)))+(1:Int))).toNat)),(6,dI .i64 aZ),(7,dI .i64 fj)]) (fun (fj,eQ)=>⟨[(0,dC ((cW (cI .i64)).f eQ))],[],1⟩) (PE cx (.exit 2) (fun zy=>[(0,dL (cI .i64) aJ),(1,dL (cI .i64) aQ),(5,.ow 0 0 1 ((i64.wrap ((i64.wrap (((aJ).length:Int)+((aQ).length:Int)))+(1:Int))).toNat)),(6,dI .i64 aZ)]) fun zy=>⟨[(0,dC ((cW (cI .i64)).f zy))],[],1⟩) hy ?_ ?_ ?_
 exact wk h0 [0] (wR rfl (wR rfl (wR rfl (wR rfl (wR rfl wTn))))) (vC rfl wVn) wLn
 clear hy h
 rintro⟨fj,eQ⟩ y h
 dsimp only[jH] at h
 refine AW.seq (ra hx ?_)
 refine cdh h rfl (fun a8 h=>?_) (fun a8 h=>?_)
 refine AW.skip (AW.seq (AW.block (rqd [] hx fun K hK=>?_)))
 iterate 8 refine sa ?_
 obtain⟨D5,h⟩:=aD h
 have Mj:(i64.wrap (aZ+fj)).toNat<(eQ).length:=by omega
 refine s1 (v7 ⟨D5.1,D5.2.1⟩ cC bE) ?_
 refine s1 (aT (ak.seqW (cI .i64) eQ ((i64.wrap (aZ+fj)).toNat) Mj) bE) ?_
 iterate 2 refine sa ?_
 obtain⟨hc6,h⟩:=aD h
 have hn7:(aZ).toNat<(aJ).length:=by omega
 refine s1 (gV hc6 cC bE) ?_
 refine s1 (xw (c:=(cI .i64)) (l:=aJ) (n:=(aZ).toNat) (o:=0) bE hn7) ?_
 iterate 2 refine sa ?_
 obtain⟨Gs,h⟩:=aD h
 have H3:(fj).toNat<(aQ).length:=by omega
 refine s1 (gV Gs cC bE) ?_
 refine s1 (xw (c:=(cI .i64)) (l:=aQ) (n:=(fj).toNat) (o:=0) bE H3) ?_
 iterate 2 refine sa ?_
 obtain⟨H7,h⟩:=aD h
 have O0:(i64.wrap (aZ+fj)).toNat<(eQ).length:=by omega
 refine s1 (v7 ⟨H7.1,H7.2.1⟩ cC bE) ?_
 obtain⟨iE,vu,h⟩:=ae h
 replace vu:=bW vu
 refine s0 (T_stVw (b':=i64.wrap (((eQ)[(i64.wrap (aZ+fj)).toNat]!)+(i64.wrap (((aJ)[(aZ).toNat]!)*((aQ)[(fj).toNat]!))))) (ak.seqW (cI .i64) eQ ((i64.wrap (aZ+fj)).toNat) O0) bE vu) ?_
 refine .nil (hK _ _ (rb hx ?_))
 cases h
 exact PS.l (pe0 h0 [0])
 refine AW.exit ?_
 try dsimp only
 try simp only[aS,reduceIte,Nat.reduceEqDiff,reduceCtorEq]
 cases h
 exact PS.r ⟨by nofun,PE.i (wk h0 [0] (wR rfl (wR rfl (wR rfl (wR rfl wTn)))) (vC rfl wVn) wLn)⟩
 rintro ex tm' hp' ⟨rfl,hw⟩
 try dsimp only
 try simp only[aS,reduceIte,Nat.reduceEqDiff,reduceCtorEq]
 refine AW.weak hw ?_
 iterate 2 refine ra hx ?_
 refine AW.block ?_
 obtain⟨zt,hy,h⟩:=ae h
 refine lp (S:=Int×Int×(List Int)) (X:=(List Int)) (fun (IL,o4,tv)=>[(0,dL (cI .i64) aJ),(1,dL (cI .i64) aQ),(5,.ow 0 0 1 ((i64.wrap ((i64.wrap (((aJ).length:Int)+((aQ).length:Int)))+(1:Int))).toNat)),(6,dI .i64 aZ),(8,dI .i64 IL),(9,dI .i64 o4)]) (fun (IL,o4,tv)=>⟨[(0,dC ((cW (cI .i64)).f tv))],[],1⟩) (PE cx (.exit 4) (fun zt=>[(0,dL (cI .i64) aJ),(1,dL (cI .i64) aQ),(5,.ow 0 0 1 ((i64.wrap ((i64.wrap (((aJ).length:Int)+((aQ).length:Int)))+(1:Int))).toNat)),(6,dI .i64 aZ)]) fun zt=>⟨[(0,dC ((cW (cI .i64)).f zt))],[],1⟩) hy ?_ ?_ ?_
 exact wk h0 [0] (wR rfl (wR rfl (wR rfl (wR rfl (wR rfl (wR rfl wTn)))))) (vC rfl wVn) wLn
 clear hy h
 rintro⟨IL,o4,tv⟩ y h
 dsimp only[gQ] at h
 refine AW.seq (ra hx ?_)
 refine cdh h rfl (fun nf h=>?_) (fun nf h=>?_)
 refine AW.skip (AW.seq (AW.block (rs hx fun K hK=>?_)))
 iterate 2 refine sa ?_
 obtain⟨H6,h⟩:=aD h
 have JH:(o4).toNat<(tv).length:=by omega
 refine s1 (v7 ⟨H6.1,H6.2.1⟩ cC bE) ?_
 refine s1 (aT (ak.seqW (cI .i64) tv ((o4).toNat) JH) bE) ?_
 iterate 2 refine sa ?_
 obtain⟨pG,Ak,h⟩:=ae h
 replace Ak:=bW Ak
 refine s2 (d2:=dI .i64 pG) mp (gM (congrArg (dI .i64) Ak)) ?_
 refine .nil (hK _ _ (rs hx fun K hK=>?_))
 iterate 4 refine sa ?_
 obtain⟨Mo,h⟩:=aD h
 have OX:(o4).toNat<(tv).length:=by omega
 refine s1 (v7 ⟨Mo.1,Mo.2.1⟩ cC bE) ?_
 refine s0 (aE (b':=Int.tmod pG (65536:Int)) (ak.seqW (cI .i64) tv ((o4).toNat) OX) bE) ?_
 refine .nil (hK _ _ ?_)
 iterate 2 refine rb hx ?_
 cases h
 exact PS.l (pe0 h0 [0])
 refine AW.exit ?_
 try dsimp only
 try simp only[aS,reduceIte,Nat.reduceEqDiff,reduceCtorEq]
 cases h
 exact PS.r ⟨by nofun,PE.i (wk h0 [0] (wR rfl (wR rfl (wR rfl (wR rfl wTn)))) (vC rfl wVn) wLn)⟩
 rintro ex tm' hp' ⟨rfl,hw⟩
 try dsimp only
 try simp only[aS,reduceIte,Nat.reduceEqDiff,reduceCtorEq]
 refine AW.weak hw (rb hx ?_)
 cases h
 exact PS.l (pe0 h0 [0])
 refine AW.exit ?_
 try dsimp only
 try simp only[aS,reduceIte,Nat.reduceEqDiff,reduceCtorEq]
 cases h
 exact PS.r ⟨by nofun,PE.i (wk h0 [0] (wR rfl wTn) (vC rfl wVn) wLn)⟩
 rintro ex tm' hp' ⟨rfl,hw⟩
 try dsimp only
 try simp only[aS,reduceIte,Nat.reduceEqDiff,reduceCtorEq]
 refine AW.weak hw (rs hx fun K hK=>?_)
 refine sa ?_
 obtain⟨hc24,h⟩:=aD h
 refine fzO (cI .i64) (n:=(i64.wrap ((i64.wrap (((aJ).length:Int)+((aQ).length:Int)))+(1:Int))).toNat) 0 [5,70] hc24 ?_ (all2 rfl (all1 rfl))
 refine scb h kR fun D7 h=>?_
 refine sa ?_
 refine .nil (hK _ _ (AW.ret ?_))
 cases h
 exact rv1
def lL(aJ:List Int)(aQ:List Int):Int→Option (Int⊕(Bool⊕Unit)):=fun aL=>cnd (decide ((0:Int)≤aL)) (bnd (eG aJ aL) fun x4=>bnd (eG aQ aL) fun x6=>cnd (decide (x4≠x6)) (bnd (eG aJ aL) fun x9=>bnd (eG aQ aL) fun o7=>some (.inr (.inl (decide (x9<o7))))) (some (.inl (i64.wrap (aL - (1:Int)))))) (some (.inr (.inr ())))
def il(aJ:List Int)(aQ:List Int):Option Bool:=bnd (some (i64.wrap ((max ((aJ).length:Int) ((aQ).length:Int)) - (1:Int)))) fun x1=>bnd (bL (lL aJ aQ) x1) fun y13=>match y13 with| .inl r=>some r| .inr ()=>some false
theorem qz {aJ:List Int}{aQ:List Int}{r:Bool}(h:il aJ aQ=some r):ax Tryz.prog 170 [dL (cI .i64) aJ,dL (cI .i64) aQ] (dB r):=by
 refine bC (rs:=[.tmp 4]) (fun cx hx h0=>?_) Tryz.func170
 unfold il at h
 refine ra hx ?_
 refine AW.seq (rs hx fun K hK=>?_)
 iterate 6 refine sa ?_
 obtain⟨x1,wq,h⟩:=ae h
 replace wq:=bW wq
 refine s2 (d2:=dI .i64 x1) mp (gM (congrArg (dI .i64) wq)) ?_
 refine .nil (hK _ _ (AW.block ?_))
 obtain⟨y,hy,h⟩:=ae h
 refine lp (S:=Int) (X:=Bool⊕Unit) (fun aL=>[(0,dL (cI .i64) aJ),(1,dL (cI .i64) aQ),(5,dI .i64 aL)]) (fun aL=>⟨[],[],0⟩) (PS (PR [.tmp 4] fun r=>dB r) (PE cx (.exit 0) (fun ()=>[]) fun ()=>⟨[],[],0⟩)) hy ?_ ?_ ?_
 exact wk h0 [] (wR rfl (wR rfl (wR rfl wTn))) wVn wLn
 clear hy h
 rintro aL y h
 dsimp only[lL] at h
 refine AW.seq (ra hx ?_)
 refine cdh h rfl (fun a8 h=>?_) (fun a8 h=>?_)
 refine AW.skip (AW.seq (AW.block (rs hx fun K hK=>?_)))
 iterate 2 refine sa ?_
 refine scb h iq fun x4 h=>?_
 iterate 2 refine sa ?_
 refine scb h iq fun x6 h=>?_
 refine sa ?_
 refine .nil (hK _ _ (cdh h rfl (fun ju h=>?_) (fun ju h=>?_)))
 refine rs hx fun K hK=>?_
 iterate 2 refine sa ?_
 refine scb h iq fun x9 h=>?_
 iterate 2 refine sa ?_
 refine scb h iq fun o7 h=>?_
 iterate 2 refine sa ?_
 refine .nil (hK _ _ (AW.ret ?_))
 cases h
 refine PS.r ⟨by nofun,PS.l (PR.i ?_)⟩
 exact rv1
 refine AW.skip (rb hx ?_)
 cases h
 exact PS.l (pe0 h0 [])
 refine AW.exit ?_
 try dsimp only
 try simp only[aS,reduceIte,Nat.reduceEqDiff,reduceCtorEq]
 cases h
 exact PS.r ⟨by nofun,PS.r (PE.i (wk h0 [] wTn wVn wLn))⟩
 rcases y with r|⟨⟩
 rintro ex tm' hp' ⟨rfl,hw⟩
 cases h
 exact hw
 rintro ex tm' hp' ⟨rfl,hw⟩
 try dsimp only
 try simp only[aS,reduceIte,Nat.reduceEqDiff,reduceCtorEq]
 refine AW.weak hw (ra hx ?_)
 refine AW.ret ?_
 cases h
 exact rv1
def jI(aJ:List Int)(aQ:List Int):(List Int)×Int×Int→Option (((List Int)×Int×Int)⊕((List Int))):=fun (d5,bH,eI)=>cnd (decide (eI<((aJ).length:Int))) (gd (0≤eI∧eI<((aJ).length:Int)) (bnd (eG aQ eI) fun x4=>bnd (some (i64.wrap ((i64.wrap (((aJ)[(eI).toNat]!) - x4)) - bH))) fun x6=>bnd (S:=Int×Int) (cnd (decide (x6<(0:Int))) (some (((1:Int),i64.wrap (x6+(65536:Int))))) (some (((0:Int),x6)))) fun (kH,qy)=>gd ((d5++[qy]).length*8≤140737488355328) (some (.inl (d5++[qy],kH,i64.wrap (eI+(1:Int))))))) (some (.inr d5))
def gu(aJ:List Int)(aQ:List Int):Option (List Int):=bnd (bL (jI aJ aQ) (([]:List Int),(0:Int),(0:Int))) fun cw=>bnd (fI cw) fun iE=>some iE
set_option maxHeartbeats 4000000 in
theorem nr {aJ:List Int}{aQ:List Int}{r:List Int}(h:gu aJ aQ=some r):ax Tryz.prog 171 [dL (cI .i64) aJ,dL (cI .i64) aQ] (dL (cI .i64) r):=by
 refine bC (rs:=[.tmp 4]) (fun cx hx h0=>?_) Tryz.func171
 unfold gu at h
 refine rs hx fun K hK=>?_
 refine s1 (d:=dO 0 (cI .i64) ([]:List Int)) (fW cC bE) ?_
 refine .nil (hK _ _ (rs hx fun K hK=>?_))
 refine s1 (d:=dO 1 (cI .i64) ([]:List Int)) (fW cC bE) ?_
 refine .nil (hK _ _ (ra hx ?_))
 refine AW.seq (ra hx ?_)
 refine AW.block ?_
 obtain⟨cw,hy,h⟩:=ae h
 refine lp (S:=(List Int)×Int×Int) (X:=(List Int)) (fun (d5,bH,eI)=>[(0,dL (cI .i64) aJ),(1,dL (cI .i64) aQ),(5,dO 0 (cI .i64) d5),(6,dI .i64 bH),(7,dI .i64 eI)]) (fun (d5,bH,eI)=>⟨[],[(0,(d5).length,1,3)],1⟩) (PE cx (.exit 0) (fun cw=>[(5,dO 0 (cI .i64) cw)]) fun cw=>⟨[],[(0,(cw).length,1,3)],1⟩) hy ?_ ?_ ?_
 exact wk h0 [1] (wR rfl (wR rfl (wR rfl (wR rfl (wR rfl wTn))))) wVn (wL rfl rfl wLn)
 clear hy h
 rintro⟨d5,bH,eI⟩ y h
 dsimp only[jI] at h
 refine AW.seq (ra hx ?_)
 refine cdh h rfl (fun cv h=>?_) (fun cv h=>?_)
 refine AW.skip (AW.seq (AW.block (rsd [176] hx fun K hK=>?_)))
 iterate 2 refine sa ?_
 obtain⟨mq,h⟩:=aD h
 have qD:(eI).toNat<(aJ).length:=by omega
 refine s1 (gV mq cC bE) ?_
 refine s1 (xw (c:=(cI .i64)) (l:=aJ) (n:=(eI).toNat) (o:=0) bE qD) ?_
 iterate 2 refine sa ?_
 refine cqb h iq fun x4 h=>?_
 iterate 3 refine sa ?_
 obtain⟨x6,rT,h⟩:=ae h
 replace rT:=bW rT
 refine s2 (d2:=dI .i64 x6) mp (gM (congrArg (dI .i64) rT)) ?_
 refine .nil (hK _ _ (ra hx ?_))
 refine AW.seq ?_
 obtain⟨y,hy,h⟩:=ae h
 refine jn ((PE cx .normal (fun (kH,qy)=>[(0,dL (cI .i64) aJ),(1,dL (cI .i64) aQ),(5,dO 0 (cI .i64) d5),(6,dI .i64 kH),(7,dI .i64 eI),(8,dI .i64 qy)]) fun (kH,qy)=>⟨[],[(0,(d5).length,1,3)],1⟩) y) ?_ ?_
 replace h:=hy
 refine ra hx ?_
 refine cdh h rfl (fun ju h=>?_) (fun ju h=>?_)
 refine ra hx ?_
 refine rb hx ?_
 cases h
 exact pe0 h0 [0]
 refine AW.skip ?_
 cases h
 exact pe0 h0 [0]
 obtain⟨kH,qy⟩:=y
 rintro ex tm' hp' ⟨rfl,hw⟩
 refine AW.weak hw (rq hx fun K hK=>?_)
 iterate 2 refine sa ?_
 refine s1 (d:=dO 1 (cI .i64) [qy]) (kK cC bE) ?_
 obtain⟨H7,h⟩:=aD h
 refine s1 (d:=dO 0 (cI .i64) (d5++[qy])) (qn cC bE H7) ?_
 refine sa ?_
 refine .nil (hK _ _ (rb hx ?_))
 cases h
 exact PS.l (pe0 h0 [0])
 refine AW.exit ?_
 try dsimp only
 try simp only[aS,reduceIte,Nat.reduceEqDiff,reduceCtorEq]
 cases h
 exact PS.r ⟨by nofun,PE.i (wk h0 [0] (wR rfl wTn) wVn (wL rfl rfl wLn))⟩
 rintro ex tm' hp' ⟨rfl,hw⟩
 try dsimp only
 try simp only[aS,reduceIte,Nat.reduceEqDiff,reduceCtorEq]
 refine AW.weak hw (rs hx fun K hK=>?_)
 refine sa ?_
 refine scb h kR fun iE h=>?_
 refine sa ?_
 refine .nil (hK _ _ (AW.ret ?_))
 cases h
 exact rv1
def iL(aQ:List Int)(m4:List Int):Int×(List Int)→Option ((Int×(List Int))⊕(Int×(List Int))):=fun (tx,Dw)=>bnd (il m4 Dw) fun uP=>cnd uP (bnd (gu Dw aQ) fun I2=>some (.inl (i64.wrap (tx - (1:Int)),I2))) (some (.inr (tx,Dw)))
def iM(aJ:List Int)(aQ:List Int)(x6:Int):(List Int)×Int×(List Int)→Option (((List Int)×Int×(List Int))⊕((List Int)×(List Int))):=fun (eE,m7,v6)=>cnd (decide ((0:Int)≤m7)) (gd (0≤m7∧m7<((aJ).length:Int)) (gd (([(aJ)[(m7).toNat]!]++eE).length*8≤140737488355328) (bnd (fI ([(aJ)[(m7).toNat]!]++eE)) fun m4=>bnd (iN m4 ((aQ).length:Int)) fun o6=>bnd (iN m4 (i64.wrap (((aQ).length:Int) - (1:Int)))) fun pG=>bnd (iN m4 (i64.wrap (((aQ).length:Int) - (2:Int)))) fun yj=>gd (x6≠0) (bnd (some (min (65535:Int) (i64.wrap (Int.tdiv (i64.wrap ((i64.wrap ((i64.wrap (o6*(4294967296:Int)))+(i64.wrap (pG*(65536:Int)))))+yj)) x6)))) fun rY=>bnd (lW aQ [rY]) fun D7=>bnd (bL (iL aQ m4) (rY,D7)) fun (wB,zx)=>gd (0≤m7∧m7<(((((aJ).length:Int)).toNat:Nat):Int)∧m7<((v6).length:Int)) (bnd (gu m4 zx) fun u2=>some (.inl (u2,i64.wrap (m7 - (1:Int)),(v6).set ((m7).toNat) wB))))))) (some (.inr (eE,v6)))
def gE(aJ:List Int)(aQ:List Int):Option ((List Int)×(List Int)):=gd (0≤((aJ).length:Int)∧((aJ).length:Int)≤1000000) (gd (0≤i64.wrap (((aQ).length:Int) - (1:Int))∧i64.wrap (((aQ).length:Int) - (1:Int))<((aQ).length:Int)) (bnd (iN aQ (i64.wrap (((aQ).length:Int) - (2:Int)))) fun x4=>bnd (some (i64.wrap ((i64.wrap (((aQ)[(i64.wrap (((aQ).length:Int) - (1:Int))).toNat]!)*(65536:Int)))+x4))) fun x6=>bnd (some (i64.wrap (((aJ).length:Int) - (1:Int)))) fun x8=>bnd (bL (iM aJ aQ x6) (([]:List Int),x8,List.replicate (((aJ).length:Int)).toNat (0:Int))) fun (zA,wC)=>gd ((((aJ).length:Int)).toNat=(wC).length) (bnd (fI wC) fun Bk=>some (Bk,zA))))
set_option maxHeartbeats 4000000 in
theorem qV {aJ:List Int}{aQ:List Int}{r:(List Int)×(List Int)}(h:gE aJ aQ=some r):ax Tryz.prog 168 [dL (cI .i64) aJ,dL (cI .i64) aQ] (.tu [dL (cI .i64) r.1,dL (cI .i64) r.2]):=by
 refine bC (rs:=[.tmp 4,.tmp 5]) (fun cx hx h0=>?_) Tryz.func168
 unfold gE at h
 refine rs hx fun K hK=>?_
 refine s1 (d:=dO 0 (cI .i64) ([]:List Int)) (fW cC bE) ?_
 refine s1 (d:=dO 1 (cI .i64) ([]:List Int)) (fW cC bE) ?_
 refine .nil (hK _ _ (rs hx fun K hK=>?_))
 iterate 2 refine sa ?_
 obtain⟨JR,h⟩:=aD h
 refine q1 (sMk (c:=(cI .i64)) (z0:=(0:Int)) tok JR cC bE (by first|rfl|kernel_rfl)) ?_
 refine sa ?_
 refine .nil (hK _ _ (ra hx ?_))
 refine rsd [194] hx fun K hK=>?_
 iterate 3 refine sa ?_
 obtain⟨mq,h⟩:=aD h
 have qD:(i64.wrap (((aQ).length:Int) - (1:Int))).toNat<(aQ).length:=by omega
 refine s1 (gV mq cC bE) ?_
 refine s1 (xw (c:=(cI .i64)) (l:=aQ) (n:=(i64.wrap (((aQ).length:Int) - (1:Int))).toNat) (o:=0) bE qD) ?_
 iterate 4 refine sa ?_
 refine cqb h tN fun x4 h=>?_
 refine sa ?_
 obtain⟨x6,rT,h⟩:=ae h
 replace rT:=bW rT
 refine s2 (d2:=dI .i64 x6) mp (gM (congrArg (dI .i64) rT)) ?_
 refine .nil (hK _ _ (rs hx fun K hK=>?_))
 refine s1 (d:=dO 3 (cI .i64) ([]:List Int)) (fW cC bE) ?_
 refine .nil (hK _ _ (AW.seq (rs hx fun K hK=>?_)))
 iterate 3 refine sa ?_
 obtain⟨x8,KQ,h⟩:=ae h
 replace KQ:=bW KQ
 refine s2 (d2:=dI .i64 x8) mp (gM (congrArg (dI .i64) KQ)) ?_
 refine .nil (hK _ _ (AW.block ?_))
 obtain⟨y,hy,h⟩:=ae h
 refine lp (S:=(List Int)×Int×(List Int)) (X:=(List Int)×(List Int)) (fun (eE,m7,v6)=>[(0,dL (cI .i64) aJ),(1,dL (cI .i64) aQ),(6,.ow 0 0 1 ((((aJ).length:Int)).toNat)),(7,dI .i64 ((aQ).length:Int)),(8,dI .i64 x6),(9,dL (cI .i64) eE),(10,dI .i64 m7)]) (fun (eE,m7,v6)=>⟨[(0,dC ((cW (cI .i64)).f v6))],[],1⟩) (PE cx (.exit 0) (fun (zA,wC)=>[(6,.ow 0 0 1 ((((aJ).length:Int)).toNat)),(9,dL (cI .i64) zA)]) fun (zA,wC)=>⟨[(0,dC ((cW (cI .i64)).f wC))],[],1⟩) hy ?_ ?_ ?_
 exact wk h0 [2] (wR rfl (wR rfl (wR rfl (wR rfl (wR rfl (wT rfl (Oh _) rfl rfl (wR rfl wTn))))))) (vC rfl wVn) wLn
 clear hy h
 rintro⟨eE,m7,v6⟩ y h
 dsimp only[iM] at h
 refine AW.seq (ra hx ?_)
 refine cdh h rfl (fun dT h=>?_) (fun dT h=>?_)
 refine AW.skip (AW.seq (AW.block (rs hx fun K hK=>?_)))
 iterate 2 refine sa ?_
 obtain⟨JQ,h⟩:=aD h
 have OZ:(m7).toNat<(aJ).length:=by omega
 refine s1 (gV JQ cC bE) ?_
 refine s1 (xw (c:=(cI .i64)) (l:=aJ) (n:=(m7).toNat) (o:=0) bE OZ) ?_
 refine s1 (d:=dO 1 (cI .i64) [(aJ)[(m7).toNat]!]) (kK cC bE) ?_
 refine sa ?_
 obtain⟨hc13,h⟩:=aD h
 refine s1 (d:=dO 1 (cI .i64) ([(aJ)[(m7).toNat]!]++eE)) (qn cC bE hc13) ?_
 refine scb h kR fun m4 h=>?_
 refine sa ?_
 refine .nil (hK _ _ (rs hx fun K hK=>?_))
 iterate 2 refine sa ?_
 refine scb h tN fun o6 h=>?_
 iterate 4 refine sa ?_
 refine scb h tN fun pG h=>?_
 iterate 5 refine sa ?_
 refine scb h tN fun yj h=>?_
 iterate 2 refine sa ?_
 obtain⟨JP,h⟩:=aD h
 refine s1 (Fo JP) ?_
 refine sa ?_
 obtain⟨rY,hx24,h⟩:=ae h
 replace hx24:=bW hx24
 refine s2 (d2:=dI .i64 rY) mp (gM (congrArg (dI .i64) hx24)) ?_
 refine .nil (hK _ _ (rs hx fun K hK=>?_))
 iterate 2 refine sa ?_
 refine s1 (d:=dO 2 (cI .i64) [rY]) (kK cC bE) ?_
 refine scb h w9 fun D7 h=>?_
 refine sa ?_
 refine .nil (hK _ _ (AW.seq (AW.block ?_)))
 obtain⟨y,hy,h⟩:=ae h
 refine lp (S:=Int×(List Int)) (X:=Int×(List Int)) (fun (tx,Dw)=>[(0,dL (cI .i64) aJ),(1,dL (cI .i64) aQ),(6,.ow 0 0 1 ((((aJ).length:Int)).toNat)),(7,dI .i64 ((aQ).length:Int)),(8,dI .i64 x6),(9,dL (cI .i64) m4),(10,dI .i64 m7),(11,dI .i64 tx),(12,dL (cI .i64) Dw)]) (fun (tx,Dw)=>⟨[(0,dC ((cW (cI .i64)).f v6))],[],1⟩) (PE cx (.exit 2) (fun (wB,zx)=>[(0,dL (cI .i64) aJ),(1,dL (cI .i64) aQ),(6,.ow 0 0 1 ((((aJ).length:Int)).toNat)),(7,dI .i64 ((aQ).length:Int)),(8,dI .i64 x6),(9,dL (cI .i64) m4),(10,dI .i64 m7),(11,dI .i64 wB),(12,dL (cI .i64) zx)]) fun (wB,zx)=>⟨[(0,dC ((cW (cI .i64)).f v6))],[],1⟩) hy ?_ ?_ ?_
 exact wk h0 [0] (wR rfl (wR rfl (wR rfl (wR rfl (wR rfl (wR rfl (wR rfl (wR rfl (wR rfl wTn))))))))) (vC rfl wVn) wLn
 clear hy h
 rintro⟨tx,Dw⟩ y h
 dsimp only[iL] at h
 refine AW.seq (rs hx fun K hK=>?_)
 iterate 2 refine sa ?_
 refine scb h qz fun uP h=>?_
 refine .nil (hK _ _ (cdh h rfl (fun An h=>?_) (fun An h=>?_)))
 refine AW.skip (AW.block (ra hx ?_))
 refine rq hx fun K hK=>?_
 iterate 2 refine sa ?_
 refine scb h nr fun I2 h=>?_
 refine sa ?_
 refine .nil (hK _ _ ?_)
 cases h
 exact PS.l (pe0 h0 [0])
 refine AW.exit ?_
 try dsimp only
 try simp only[aS,reduceIte,Nat.reduceEqDiff,reduceCtorEq]
 cases h
 exact PS.r ⟨by nofun,PE.i (wk h0 [0] (wR rfl (wR rfl (wR rfl (wR rfl (wR rfl (wR rfl (wR rfl (wR rfl (wR rfl wTn))))))))) (vC rfl wVn) wLn)⟩
 obtain⟨wB,zx⟩:=y
 rintro ex tm' hp' ⟨rfl,hw⟩
 try dsimp only
 try simp only[aS,reduceIte,Nat.reduceEqDiff,reduceCtorEq]
 refine AW.weak hw (rs hx fun K hK=>?_)
 iterate 3 refine sa ?_
 obtain⟨hc33,h⟩:=aD h
 have hn34:(m7).toNat<(v6).length:=by omega
 refine s1 (v7 ⟨hc33.1,hc33.2.1⟩ cC bE) ?_
 refine s0 (aE (b':=wB) (ak.seqW (cI .i64) v6 ((m7).toNat) hn34) bE) ?_
 refine .nil (hK _ _ (rq hx fun K hK=>?_))
 iterate 2 refine sa ?_
 refine scb h nr fun u2 h=>?_
 refine sa ?_
 refine .nil (hK _ _ (rb hx ?_))
 cases h
 exact PS.l (pe0 h0 [0])
 refine AW.exit ?_
 try dsimp only
 try simp only[aS,reduceIte,Nat.reduceEqDiff,reduceCtorEq]
 cases h
 exact PS.r ⟨by nofun,PE.i (wk h0 [0] (wR rfl (wR rfl wTn)) (vC rfl wVn) wLn)⟩
 obtain⟨zA,wC⟩:=y
 rintro ex tm' hp' ⟨rfl,hw⟩
 try dsimp only
 try simp only[aS,reduceIte,Nat.reduceEqDiff,reduceCtorEq]
 refine AW.weak hw (rs hx fun K hK=>?_)
 refine sa ?_
 obtain⟨hc38,h⟩:=aD h
 refine fzO (cI .i64) (n:=(((aJ).length:Int)).toNat) 0 [6,81] hc38 ?_ (all2 rfl (all1 rfl))
 refine scb h kR fun Bk h=>?_
 iterate 3 refine sa ?_
 refine .nil (hK _ _ (AW.ret ?_))
 cases h
 exact rv2
def ji :Int×Int→Option ((Int×Int)⊕Int):=fun (tC,Bi)=>cnd (decide (Bi≠(0:Int))) (gd (Bi≠0) (some (.inl (Bi,Int.tmod tC Bi)))) (some (.inr tC))
def jh :(List Int)×(List Int)→Option (((List Int)×(List Int))⊕((List Int))):=fun (tr,Du)=>cnd (decide ((0:Int)<((Du).length:Int))) (bnd (gE tr Du) fun wX=>some (.inl (Du,wX.2))) (some (.inr tr))
def mG(aJ:av)(aQ:av):Option av:=bnd (cM aJ) fun x1=>bnd (cM aQ) fun x3=>bnd (S:=Bool) (cnd x1.2 (some (x3.2)) (some (false))) fun aZ=>cnd aZ (bnd (bL (ji) (x1.1,x3.1)) fun zB=>bnd (fJ zB) fun o7=>bnd (pV o7) fun nD=>some nD) (bnd (S:=Bool) (bnd (bk aJ) fun BC=>cnd (!BC) (some (true)) (bnd (bk aQ) fun pG=>some (!pG))) fun tx=>cnd tx (bnd (eY) fun wZ=>some wZ) (bnd (bg aJ) fun Bl=>bnd (bg aQ) fun MW=>bnd (bL (jh) (Bl,MW)) fun zp=>bnd (cg false zp) fun Lz=>some Lz))
set_option maxHeartbeats 4000000 in
theorem va {aJ:av}{aQ:av}{r:av}(h:mG aJ aQ=some r):ax Tryz.prog 127 [dG aj aJ,dG aj aQ] (dG aj r):=by
 refine bC (rs:=[.cell 4 41]) (fun cx hx h0=>?_) Tryz.func127
 unfold mG at h
 refine rs hx fun K hK=>?_
 iterate 2 refine sa ?_
 refine s1 (be (F:=aj.f a6) am) ?_
 refine .nil (hK _ _ (rs hx fun K hK=>?_))
 refine s1 (d:=dG aj aJ) (aq (ak.id _ _) am) ?_
 refine scb h gq fun x1 h=>?_
 iterate 5 refine sa ?_
 refine .nil (hK _ _ (rs hx fun K hK=>?_))
 refine s1 (d:=dG aj aQ) (aq (ak.id _ _) am) ?_
 refine scb h gq fun x3 h=>?_
 iterate 5 refine sa ?_
 refine .nil (hK _ _ ?_)
 iterate 2 refine AW.seq ?_
 obtain⟨aZ,hy,h⟩:=ae h
 refine jn ((PE cx .normal (fun aZ=>[(2,.pt 0 0),(3,.pt 1 0),(4,.pt 2 0),(5,dI .i64 x1.1),(7,dI .i64 x3.1),(27,dB aZ)]) fun aZ=>⟨[(0,dC (aj.f aJ)),(1,dC (aj.f aQ)),(2,dC (aj.f a6))],[],3⟩) aZ) ?_ ?_
 replace h:=hy
 refine rq hx fun K hK=>?_
 iterate 2 refine sa ?_
 rcases az x1.2 with dy|dy
 replace h:=aO dy h
 refine ga dy ?_
 refine s1 (ar dy) ?_
 refine .nil (hK _ _ ?_)
 cases h
 exact pe0 h0 [0,1,2]
 replace h:=aP dy h
 refine aG rfl rfl dy ?_
 refine s1 (an dy) ?_
 refine .nil (hK _ _ ?_)
 cases h
 exact pe0 h0 [0,1,2]
 rintro ex tm' hp' ⟨rfl,hw⟩
 refine AW.weak hw (cdh h rfl (fun nN h=>?_) (fun nN h=>?_))
 refine AW.seq (AW.block ?_)
 obtain⟨zB,hy,h⟩:=ae h
 refine lp (S:=Int×Int) (X:=Int) (fun (tC,Bi)=>[(4,.pt 0 0),(5,dI .i64 tC),(7,dI .i64 Bi)]) (fun (tC,Bi)=>⟨[(0,dC (aj.f a6))],[],1⟩) (PE cx (.exit 0) (fun zB=>[(4,.pt 0 0),(5,dI .i64 zB)]) fun zB=>⟨[(0,dC (aj.f a6))],[],1⟩) hy ?_ ?_ ?_
 exact wk h0 [2] (wR rfl (wR rfl (wR rfl wTn))) (vC rfl wVn) wLn
 clear hy h
 rintro⟨tC,Bi⟩ y h
 dsimp only[ji] at h
 refine AW.seq (ra hx ?_)
 refine cdh h rfl (fun ju h=>?_) (fun ju h=>?_)
 refine AW.skip (AW.block (rs hx fun K hK=>?_))
 iterate 2 refine sa ?_
 obtain⟨hc9,h⟩:=aD h
 refine s1 (DB hc9) ?_
 refine sa ?_
 refine .nil (hK _ _ (ra hx ?_))
 refine rb hx ?_
 cases h
 exact PS.l (pe0 h0 [0])
 refine AW.exit ?_
 try dsimp only
 try simp only[aS,reduceIte,Nat.reduceEqDiff,reduceCtorEq]
 cases h
 exact PS.r ⟨by nofun,PE.i (wk h0 [0] (wR rfl (wR rfl wTn)) (vC rfl wVn) wLn)⟩
 rintro ex tm' hp' ⟨rfl,hw⟩
 try dsimp only
 try simp only[aS,reduceIte,Nat.reduceEqDiff,reduceCtorEq]
 refine AW.weak hw (rs hx fun K hK=>?_)
 refine sa ?_
 refine scb h jS fun o7 h=>?_
 refine scb h Hk fun nD h=>?_
 refine s0 (aE (b':=nD) (ak.id _ _) am) ?_
 refine .nil (hK _ _ (AW.ret ?_))
 cases h
 exact rv1
 refine AW.skip ?_
 iterate 2 refine AW.seq ?_
 obtain⟨tx,hy,h⟩:=ae h
 refine jn ((PE cx .normal (fun tx=>[(2,.pt 0 0),(3,.pt 1 0),(4,.pt 2 0),(45,dB tx)]) fun tx=>⟨[(0,dC (aj.f aJ)),(1,dC (aj.f aQ)),(2,dC (aj.f a6))],[],3⟩) tx) ?_ ?_
 replace h:=hy
 refine rq hx fun K hK=>?_
 refine s1 (d:=dG aj aJ) (aq (ak.id _ _) am) ?_
 refine scb h bS fun BC h=>?_
 iterate 2 refine sa ?_
 rcases az (!BC) with vG|vG
 replace h:=aO vG h
 iterate 3 refine aG rfl rfl vG ?_
 refine s1 (ar vG) ?_
 refine .nil (hK _ _ ?_)
 cases h
 exact pe0 h0 [0,1,2]
 replace h:=aP vG h
 refine g1 (d:=dG aj aQ) vG (aq (ak.id _ _) am) ?_
 obtain⟨pG,Ak,h⟩:=ae h
 refine g1 vG (bb rfl (bS Ak) (by simp only[cP,dA,bX,bt,bc,bp];exact aC _ _) (lA (bZ _ _) lAn) (.inl rfl)) ?_
 refine ga vG ?_
 refine s1 (an vG) ?_
 refine .nil (hK _ _ ?_)
 cases h
 exact pe0 h0 [0,1,2]
 rintro ex tm' hp' ⟨rfl,hw⟩
 refine AW.weak hw (cdh h rfl (fun vE h=>?_) (fun vE h=>?_))
 refine rs hx fun K hK=>?_
 refine scb h ir fun wZ h=>?_
 refine s0 (aE (b':=wZ) (ak.id _ _) am) ?_
 refine .nil (hK _ _ (AW.ret ?_))
 cases h
 exact rv1
 refine AW.skip (rs hx fun K hK=>?_)
 refine s1 (d:=dG aj aJ) (aq (ak.id _ _) am) ?_
 refine scb h bG fun Bl h=>?_
 refine sa ?_
 refine .nil (hK _ _ (rs hx fun K hK=>?_))
 refine s1 (d:=dG aj aQ) (aq (ak.id _ _) am) ?_
 refine scb h bG fun MW h=>?_
 refine sa ?_
 refine .nil (hK _ _ (AW.seq (AW.block ?_)))
 obtain⟨zp,hy,h⟩:=ae h
 refine lp (S:=(List Int)×(List Int)) (X:=(List Int)) (fun (tr,Du)=>[(4,.pt 0 0),(10,dL (cI .i64) tr),(11,dL (cI .i64) Du)]) (fun (tr,Du)=>⟨[(0,dC (aj.f a6))],[],1⟩) (PE cx (.exit 2) (fun zp=>[(4,.pt 0 0),(10,dL (cI .i64) zp)]) fun zp=>⟨[(0,dC (aj.f a6))],[],1⟩) hy ?_ ?_ ?_
 exact wk h0 [2] (wR rfl (wR rfl (wR rfl wTn))) (vC rfl wVn) wLn
 clear hy h
 rintro⟨tr,Du⟩ y h
 dsimp only[jh] at h
 refine AW.seq (ra hx ?_)
 refine cdh h rfl (fun hb28 h=>?_) (fun hb28 h=>?_)
 refine AW.skip (AW.block (rs hx fun K hK=>?_))
 iterate 2 refine sa ?_
 refine scb h qV fun wX h=>?_
 iterate 5 refine sa ?_
 refine .nil (hK _ _ (ra hx ?_))
 refine rb hx ?_
 cases h
 exact PS.l (pe0 h0 [0])
 refine AW.exit ?_
 try dsimp only
 try simp only[aS,reduceIte,Nat.reduceEqDiff,reduceCtorEq]
 cases h
 exact PS.r ⟨by nofun,PE.i (wk h0 [0] (wR rfl (wR rfl wTn)) (vC rfl wVn) wLn)⟩
 rintro ex tm' hp' ⟨rfl,hw⟩
 try dsimp only
 try simp only[aS,reduceIte,Nat.reduceEqDiff,reduceCtorEq]
 refine AW.weak hw (rs hx fun K hK=>?_)
 refine sa ?_
 refine scb h ew fun Lz h=>?_
 refine s0 (aE (b':=Lz) (ak.id _ _) am) ?_
 refine .nil (hK _ _ (AW.ret ?_))
 cases h
 exact rv1
def lX(cy:Int)(NT:Int):Option Int:=gd (NT≠0) (bnd (S:=Int) (bnd (S:=Bool) (gd (NT≠0) (cnd (decide ((Int.tmod cy NT)≠(0:Int))) (some (!((decide (cy<(0:Int))) == (decide (NT<(0:Int)))))) (some (false)))) fun aL=>cnd aL (bnd (some (i64.wrap ((i64.wrap (Int.tdiv cy NT)) - (1:Int)))) fun x6=>some (x6)) (some (i64.wrap (Int.tdiv cy NT)))) fun jQ=>some jQ)
theorem xa {cy:Int}{NT:Int}{r:Int}(h:lX cy NT=some r):ax Tryz.prog 169 [dI .i64 cy,dI .i64 NT] (dI .i64 r):=by
 refine bC (rs:=[.tmp 4]) (fun cx hx h0=>?_) Tryz.func169
 unfold lX at h
 refine ra hx ?_
 refine rs hx fun K hK=>?_
 iterate 2 refine sa ?_
 obtain⟨JR,h⟩:=aD h
 refine s1 (Fo JR) ?_
 refine sa ?_
 refine .nil (hK _ _ (AW.seq ?_))
 obtain⟨jQ,hy,h⟩:=ae h
 refine jn ((PE cx .normal (fun jQ=>[(5,dI .i64 jQ)]) fun jQ=>⟨[],[],0⟩) jQ) ?_ ?_
 replace h:=hy
 refine AW.seq ?_
 obtain⟨aL,hy,h⟩:=ae h
 refine jn ((PE cx .normal (fun aL=>[(5,dI .i64 (i64.wrap (Int.tdiv cy NT))),(19,dB aL)]) fun aL=>⟨[],[],0⟩) aL) ?_ ?_
 replace h:=hy
 refine rq hx fun K hK=>?_
 iterate 2 refine sa ?_
 obtain⟨mq,h⟩:=aD h
 refine s1 (DB mq) ?_
 iterate 2 refine sa ?_
 rcases az (decide ((Int.tmod cy NT)≠(0:Int))) with a8|a8
 replace h:=aO a8 h
 iterate 5 refine ga a8 ?_
 refine s1 (ar a8) ?_
 refine .nil (hK _ _ ?_)
 cases h
 exact pe0 h0 []
 replace h:=aP a8 h
 iterate 5 refine aG rfl rfl a8 ?_
 refine s1 (an a8) ?_
 refine .nil (hK _ _ ?_)
 cases h
 exact pe0 h0 []
 rintro ex tm' hp' ⟨rfl,hw⟩
 refine AW.weak hw (cdh h rfl (fun dy h=>?_) (fun dy h=>?_))
 refine rq hx fun K hK=>?_
 iterate 2 refine sa ?_
 obtain⟨x6,rT,h⟩:=ae h
 replace rT:=bW rT
 refine s2 (d2:=dI .i64 x6) mp (gM (congrArg (dI .i64) rT)) ?_
 refine .nil (hK _ _ ?_)
 cases h
 exact pe0 h0 []
 refine AW.skip ?_
 cases h
 exact pe0 h0 []
 rintro ex tm' hp' ⟨rfl,hw⟩
 refine AW.weak hw (ra hx ?_)
 refine AW.ret ?_
 cases h
 exact rv1
def iy(aJ:av)(aQ:av):Option av:=bnd (cM aJ) fun x1=>bnd (cM aQ) fun x3=>bnd (S:=Bool) (cnd x1.2 (cnd x3.2 (some (decide (x3.1≠(0:Int)))) (some (false))) (some (false))) fun aZ=>cnd aZ (bnd (lX x1.1 x3.1) fun x9=>bnd (fJ x9) fun o7=>some o7) (bnd (S:=Bool) (bnd (bk aJ) fun nD=>cnd (!nD) (some (true)) (bnd (bk aQ) fun o6=>cnd (!o6) (some (true)) (bnd (bg aQ) fun rP=>some (decide (((rP).length:Int)=(0:Int)))))) fun bz=>cnd bz (bnd (eY) fun rY=>some rY) (bnd (bg aJ) fun D7=>bnd (bg aQ) fun uP=>bnd (gE D7 uP) fun wX=>bnd (S:=(List Int)) (bnd (S:=Bool) (cnd (!(aJ.vNeg == aQ.vNeg)) (some (decide ((0:Int)<((wX.2).length:Int)))) (some (false))) fun gT=>cnd gT (bnd (kZ wX.1 [(1:Int)]) fun M9=>some (M9)) (some (wX.1))) fun m6=>bnd (cg (!(aJ.vNeg == aQ.vNeg)) m6) fun yl=>some yl))
set_option maxHeartbeats 4000000 in
theorem nU {aJ:av}{aQ:av}{r:av}(h:iy aJ aQ=some r):ax Tryz.prog 128 [dG aj aJ,dG aj aQ] (dG aj r):=by
 refine bC (rs:=[.cell 4 41]) (fun cx hx h0=>?_) Tryz.func128
 unfold iy at h
 refine rs hx fun K hK=>?_
 iterate 2 refine sa ?_
 refine s1 (be (F:=aj.f a6) am) ?_
 refine .nil (hK _ _ (rs hx fun K hK=>?_))
 refine s1 (d:=dG aj aJ) (aq (ak.id _ _) am) ?_
 refine scb h gq fun x1 h=>?_
 iterate 5 refine sa ?_
 refine .nil (hK _ _ (rs hx fun K hK=>?_))
 refine s1 (d:=dG aj aQ) (aq (ak.id _ _) am) ?_
 refine scb h gq fun x3 h=>?_
 iterate 5 refine sa ?_
 refine .nil (hK _ _ ?_)
 iterate 2 refine AW.seq ?_
 obtain⟨aZ,hy,h⟩:=ae h
 refine jn ((PE cx .normal (fun aZ=>[(2,.pt 0 0),(3,.pt 1 0),(4,.pt 2 0),(5,dI .i64 x1.1),(7,dI .i64 x3.1),(28,dB aZ)]) fun aZ=>⟨[(0,dC (aj.f aJ)),(1,dC (aj.f aQ)),(2,dC (aj.f a6))],[],3⟩) aZ) ?_ ?_
 replace h:=hy
 refine rq hx fun K hK=>?_
 iterate 2 refine sa ?_
 rcases az x1.2 with dy|dy
 replace h:=aO dy h
 refine ga dy ?_
 refine s1 (ar dy) ?_
 refine sa ?_
 rcases az x3.2 with fC|fC
 replace h:=aO fC h
 iterate 2 refine ga fC ?_
 refine s1 (ar fC) ?_
 refine .nil (hK _ _ ?_)
 cases h
 exact pe0 h0 [0,1,2]
 replace h:=aP fC h
 iterate 2 refine aG rfl rfl fC ?_
 refine s1 (an fC) ?_
 refine .nil (hK _ _ ?_)
 cases h
 exact pe0 h0 [0,1,2]
 replace h:=aP dy h
 refine aG rfl rfl dy ?_
 refine s1 (an dy) ?_
 refine sa ?_
 iterate 2 refine aG rfl rfl rfl ?_
 refine s1 (an rfl) ?_
 refine .nil (hK _ _ ?_)
 cases h
 exact pe0 h0 [0,1,2]
 rintro ex tm' hp' ⟨rfl,hw⟩
 refine AW.weak hw (cdh h rfl (fun ju h=>?_) (fun ju h=>?_))
 refine rs hx fun K hK=>?_
 iterate 2 refine sa ?_
 refine scb h xa fun x9 h=>?_
 refine scb h jS fun o7 h=>?_
 refine s0 (aE (b':=o7) (ak.id _ _) am) ?_
 refine .nil (hK _ _ (AW.ret ?_))
 cases h
 exact rv1
 refine AW.skip ?_
 iterate 2 refine AW.seq ?_
 obtain⟨bz,hy,h⟩:=ae h
 refine jn ((PE cx .normal (fun bz=>[(2,.pt 0 0),(3,.pt 1 0),(4,.pt 2 0),(46,dB bz)]) fun bz=>⟨[(0,dC (aj.f aJ)),(1,dC (aj.f aQ)),(2,dC (aj.f a6))],[],3⟩) bz) ?_ ?_
 replace h:=hy
 refine rq hx fun K hK=>?_
 refine s1 (d:=dG aj aJ) (aq (ak.id _ _) am) ?_
 refine scb h bS fun nD h=>?_
 iterate 2 refine sa ?_
 rcases az (!nD) with nf|nf
 replace h:=aO nf h
 iterate 3 refine aG rfl rfl nf ?_
 refine s1 (ar nf) ?_
 refine sa ?_
 iterate 4 refine aG rfl rfl rfl ?_
 refine s1 (ar rfl) ?_
 refine .nil (hK _ _ ?_)
 cases h
 exact pe0 h0 [0,1,2]
 replace h:=aP nf h
 refine g1 (d:=dG aj aQ) nf (aq (ak.id _ _) am) ?_
 obtain⟨o6,Mf,h⟩:=ae h
 refine g1 nf (bb rfl (bS Mf) (by simp only[cP,dA,bX,bt,bc,bp];exact aC _ _) (lA (bZ _ _) lAn) (.inl rfl)) ?_
 refine ga nf ?_
 refine s1 (an nf) ?_
 refine sa ?_
 rcases az (!o6) with j4|j4
 replace h:=aO j4 h
 iterate 4 refine aG rfl rfl j4 ?_
 refine s1 (ar j4) ?_
 refine .nil (hK _ _ ?_)
 cases h
 exact pe0 h0 [0,1,2]
 replace h:=aP j4 h
 refine g1 (d:=dG aj aQ) j4 (aq (ak.id _ _) am) ?_
 obtain⟨rP,wN,h⟩:=ae h
 refine g1 j4 (bb rfl (bG wN) (by simp only[cP,dA,bX,bt,bc,bp];exact aC _ _) (lA (bZ _ _) lAn) (.inl rfl)) ?_
 iterate 2 refine ga j4 ?_
 refine s1 (an j4) ?_
 refine .nil (hK _ _ ?_)
 cases h
 exact pe0 h0 [0,1,2]
 rintro ex tm' hp' ⟨rfl,hw⟩
 refine AW.weak hw (cdh h rfl (fun Pm h=>?_) (fun Pm h=>?_))
 refine rs hx fun K hK=>?_
 refine scb h ir fun rY h=>?_
 refine s0 (aE (b':=rY) (ak.id _ _) am) ?_
 refine .nil (hK _ _ (AW.ret ?_))
 cases h
 exact rv1
 refine AW.skip (rsd [143,168] hx fun K hK=>?_)
 refine s1 (d:=dG aj aJ) (aq (ak.id _ _) am) ?_
 refine cqb h bG fun D7 h=>?_
 refine s1 (d:=dG aj aQ) (aq (ak.id _ _) am) ?_
 refine cqb h bG fun uP h=>?_
 refine cqb h qV fun wX h=>?_
 iterate 5 refine sa ?_
 refine .nil (hK _ _ (AW.seq ?_))
 obtain⟨m6,hy,h⟩:=ae h
 refine jn ((PE cx .normal (fun m6=>[(2,.pt 0 0),(3,.pt 1 0),(4,.pt 2 0),(9,dL (cI .i64) m6)]) fun m6=>⟨[(0,dC (aj.f aJ)),(1,dC (aj.f aQ)),(2,dC (aj.f a6))],[],3⟩) m6) ?_ ?_
 replace h:=hy
 refine AW.seq ?_
 obtain⟨gT,hy,h⟩:=ae h
 refine jn ((PE cx .normal (fun gT=>[(2,.pt 0 0),(3,.pt 1 0),(4,.pt 2 0),(9,dL (cI .i64) wX.1),(65,dB gT)]) fun gT=>⟨[(0,dC (aj.f aJ)),(1,dC (aj.f aQ)),(2,dC (aj.f a6))],[],3⟩) gT) ?_ ?_
 replace h:=hy
 refine rq hx fun K hK=>?_
 refine sa ?_
 refine s1 (aT (aN aJ) ey) ?_
 refine sa ?_
 refine s1 (aT (aN aQ) ey) ?_
 iterate 2 refine sa ?_
 rcases az (!(aJ.vNeg == aQ.vNeg)) with oy|oy
 replace h:=aO oy h
 iterate 3 refine ga oy ?_
 refine s1 (ar oy) ?_
 refine .nil (hK _ _ ?_)
 cases h
 exact pe0 h0 [0,1,2]
 replace h:=aP oy h
 iterate 3 refine aG rfl rfl oy ?_
 refine s1 (an oy) ?_
 refine .nil (hK _ _ ?_)
 cases h
 exact pe0 h0 [0,1,2]
 rintro ex tm' hp' ⟨rfl,hw⟩
 refine AW.weak hw (cdh h rfl (fun hb33 h=>?_) (fun hb33 h=>?_))
 refine rq hx fun K hK=>?_
 refine sa ?_
 refine s1 (d:=dO 3 (cI .i64) [(1:Int)]) (kK cC bE) ?_
 refine scb h tM fun M9 h=>?_
 refine sa ?_
 refine .nil (hK _ _ ?_)
 cases h
 exact pe0 h0 [0,1,2]
 refine AW.skip ?_
 cases h
 exact pe0 h0 [0,1,2]
 rintro ex tm' hp' ⟨rfl,hw⟩
 refine AW.weak hw (rs hx fun K hK=>?_)
 refine sa ?_
 refine s1 (aT (aN aJ) ey) ?_
 refine sa ?_
 refine s1 (aT (aN aQ) ey) ?_
 iterate 2 refine sa ?_
 refine scb h ew fun yl h=>?_
 refine s0 (aE (b':=yl) (ak.id _ _) am) ?_
 refine .nil (hK _ _ (AW.ret ?_))
 cases h
 exact rv1
def jJ(cy:Int):Option Bool:=bnd (S:=Bool) (cnd (decide (cy<(2147483648:Int))) (some (decide ((-2147483648:Int)<cy))) (some (false))) fun bI=>some bI
theorem yw {cy:Int}{r:Bool}(h:jJ cy=some r):ax Tryz.prog 172 [dI .i64 cy] (dB r):=by
 refine bC (rs:=[.tmp 2]) (fun cx hx h0=>?_) Tryz.func172
 unfold jJ at h
 refine ra hx ?_
 refine AW.seq ?_
 obtain⟨bI,hy,h⟩:=ae h
 refine jn ((PE cx .normal (fun bI=>[(2,dB bI)]) fun bI=>⟨[],[],0⟩) bI) ?_ ?_
 replace h:=hy
 refine rq hx fun K hK=>?_
 iterate 3 refine sa ?_
 rcases az (decide (cy<(2147483648:Int))) with cv|cv
 replace h:=aO cv h
 iterate 2 refine ga cv ?_
 refine s1 (ar cv) ?_
 refine sa ?_
 refine .nil (hK _ _ ?_)
 cases h
 exact pe0 h0 []
 replace h:=aP cv h
 iterate 2 refine aG rfl rfl cv ?_
 refine s1 (an cv) ?_
 refine sa ?_
 refine .nil (hK _ _ ?_)
 cases h
 exact pe0 h0 []
 rintro ex tm' hp' ⟨rfl,hw⟩
 refine AW.weak hw (AW.ret ?_)
 cases h
 exact rv1
def jL(aJ:av)(aQ:av):Option av:=bnd (cM aJ) fun x1=>bnd (cM aQ) fun x3=>bnd (S:=Bool) (cnd x1.2 (cnd x3.2 (bnd (jJ x1.1) fun x7=>cnd x7 (bnd (jJ x3.1) fun jm=>some (jm)) (some (false))) (some (false))) (some (false))) fun aZ=>cnd aZ (bnd (fJ (i64.wrap (x1.1*x3.1))) fun m4=>some m4) (bnd (S:=Bool) (bnd (bk aJ) fun o6=>cnd (!o6) (some (true)) (bnd (bk aQ) fun rP=>some (!rP))) fun bz=>cnd bz (bnd (eY) fun rY=>some rY) (bnd (bg aJ) fun D7=>bnd (bg aQ) fun uP=>bnd (lW D7 uP) fun wX=>bnd (cg (!(aJ.vNeg == aQ.vNeg)) wX) fun BB=>some BB))
set_option maxHeartbeats 4000000 in
theorem pH {aJ:av}{aQ:av}{r:av}(h:jL aJ aQ=some r):ax Tryz.prog 130 [dG aj aJ,dG aj aQ] (dG aj r):=by
 refine bC (rs:=[.cell 4 41]) (fun cx hx h0=>?_) Tryz.func130
 unfold jL at h
 refine rs hx fun K hK=>?_
 iterate 2 refine sa ?_
 refine s1 (be (F:=aj.f a6) am) ?_
 refine .nil (hK _ _ (rs hx fun K hK=>?_))
 refine s1 (d:=dG aj aJ) (aq (ak.id _ _) am) ?_
 refine scb h gq fun x1 h=>?_
 iterate 5 refine sa ?_
 refine .nil (hK _ _ (rs hx fun K hK=>?_))
 refine s1 (d:=dG aj aQ) (aq (ak.id _ _) am) ?_
 refine scb h gq fun x3 h=>?_
 iterate 5 refine sa ?_
 refine .nil (hK _ _ ?_)
 iterate 2 refine AW.seq ?_
 obtain⟨aZ,hy,h⟩:=ae h
 refine jn ((PE cx .normal (fun aZ=>[(2,.pt 0 0),(3,.pt 1 0),(4,.pt 2 0),(5,dI .i64 x1.1),(7,dI .i64 x3.1),(30,dB aZ)]) fun aZ=>⟨[(0,dC (aj.f aJ)),(1,dC (aj.f aQ)),(2,dC (aj.f a6))],[],3⟩) aZ) ?_ ?_
 replace h:=hy
 refine rq hx fun K hK=>?_
 iterate 2 refine sa ?_
 rcases az x1.2 with dy|dy
 replace h:=aO dy h
 refine ga dy ?_
 refine s1 (ar dy) ?_
 refine sa ?_
 rcases az x3.2 with fC|fC
 replace h:=aO fC h
 refine ga fC ?_
 obtain⟨x7,Gg,h⟩:=ae h
 refine g1 fC (bb rfl (yw Gg) rfl (lA (ap _) lAn) (.inl rfl)) ?_
 refine s1 (ar fC) ?_
 refine sa ?_
 rcases az x7 with wr|wr
 replace h:=aO wr h
 refine ga wr ?_
 obtain⟨jm,yQ,h⟩:=ae h
 refine g1 wr (bb rfl (yw yQ) rfl (lA (ap _) lAn) (.inl rfl)) ?_
 refine s1 (ar wr) ?_
 refine .nil (hK _ _ ?_)
 cases h
 exact pe0 h0 [0,1,2]
 replace h:=aP wr h
 iterate 2 refine aG rfl rfl wr ?_
 refine s1 (an wr) ?_
 refine .nil (hK _ _ ?_)
 cases h
 exact pe0 h0 [0,1,2]
 replace h:=aP fC h
 iterate 2 refine aG rfl rfl fC ?_
 refine s1 (an fC) ?_
 refine sa ?_
 iterate 2 refine aG rfl rfl rfl ?_
 refine s1 (an rfl) ?_
 refine .nil (hK _ _ ?_)
 cases h
 exact pe0 h0 [0,1,2]
 replace h:=aP dy h
 refine aG rfl rfl dy ?_
 refine s1 (an dy) ?_
 refine sa ?_
 iterate 2 refine aG rfl rfl rfl ?_
 refine s1 (an rfl) ?_
 refine sa ?_
 iterate 2 refine aG rfl rfl rfl ?_
 refine s1 (an rfl) ?_
 refine .nil (hK _ _ ?_)
 cases h
 exact pe0 h0 [0,1,2]
 rintro ex tm' hp' ⟨rfl,hw⟩
 refine AW.weak hw (cdh h rfl (fun mm h=>?_) (fun mm h=>?_))
 refine rs hx fun K hK=>?_
 iterate 3 refine sa ?_
 refine scb h jS fun m4 h=>?_
 refine s0 (aE (b':=m4) (ak.id _ _) am) ?_
 refine .nil (hK _ _ (AW.ret ?_))
 cases h
 exact rv1
 refine AW.skip ?_
 iterate 2 refine AW.seq ?_
 obtain⟨bz,hy,h⟩:=ae h
 refine jn ((PE cx .normal (fun bz=>[(2,.pt 0 0),(3,.pt 1 0),(4,.pt 2 0),(42,dB bz)]) fun bz=>⟨[(0,dC (aj.f aJ)),(1,dC (aj.f aQ)),(2,dC (aj.f a6))],[],3⟩) bz) ?_ ?_
 replace h:=hy
 refine rq hx fun K hK=>?_
 refine s1 (d:=dG aj aJ) (aq (ak.id _ _) am) ?_
 refine scb h bS fun o6 h=>?_
 iterate 2 refine sa ?_
 rcases az (!o6) with j4|j4
 replace h:=aO j4 h
 iterate 3 refine aG rfl rfl j4 ?_
 refine s1 (ar j4) ?_
 refine .nil (hK _ _ ?_)
 cases h
 exact pe0 h0 [0,1,2]
 replace h:=aP j4 h
 refine g1 (d:=dG aj aQ) j4 (aq (ak.id _ _) am) ?_
 obtain⟨rP,wN,h⟩:=ae h
 refine g1 j4 (bb rfl (bS wN) (by simp only[cP,dA,bX,bt,bc,bp];exact aC _ _) (lA (bZ _ _) lAn) (.inl rfl)) ?_
 refine ga j4 ?_
 refine s1 (an j4) ?_
 refine .nil (hK _ _ ?_)
 cases h
 exact pe0 h0 [0,1,2]
 rintro ex tm' hp' ⟨rfl,hw⟩
 refine AW.weak hw (cdh h rfl (fun Pm h=>?_) (fun Pm h=>?_))
 refine rs hx fun K hK=>?_
 refine scb h ir fun rY h=>?_
 refine s0 (aE (b':=rY) (ak.id _ _) am) ?_
 refine .nil (hK _ _ (AW.ret ?_))
 cases h
 exact rv1
 refine AW.skip (rsd [143,173,140] hx fun K hK=>?_)
 refine sa ?_
 refine s1 (aT (aN aJ) ey) ?_
 refine sa ?_
 refine s1 (aT (aN aQ) ey) ?_
 refine sa ?_
 refine s1 (d:=dG aj aJ) (aq (ak.id _ _) am) ?_
 refine cqb h bG fun D7 h=>?_
 refine s1 (d:=dG aj aQ) (aq (ak.id _ _) am) ?_
 refine cqb h bG fun uP h=>?_
 refine cqb h w9 fun wX h=>?_
 refine cqb h ew fun BB h=>?_
 refine s0 (aE (b':=BB) (ak.id _ _) am) ?_
 refine .nil (hK _ _ (AW.ret ?_))
 cases h
 exact rv1
def kN(aJ:av)(aQ:av):Option av:=bnd (cM aJ) fun x1=>bnd (cM aQ) fun x3=>bnd (S:=Bool) (cnd x1.2 (some (x3.2)) (some (false))) fun aZ=>cnd aZ (bnd (fJ (i64.wrap (x1.1+x3.1))) fun x8=>some x8) (bnd (S:=Bool) (bnd (bk aJ) fun jm=>cnd (!jm) (some (true)) (bnd (bk aQ) fun nD=>some (!nD))) fun bz=>cnd bz (bnd (eY) fun nT=>some nT) (bnd (bg aJ) fun rP=>bnd (bg aQ) fun qR=>cnd (aJ.vNeg == aQ.vNeg) (bnd (kZ rP qR) fun Bl=>bnd (cg aJ.vNeg Bl) fun MW=>some MW) (bnd (il rP qR) fun wY=>cnd wY (bnd (gu qR rP) fun BB=>bnd (cg aQ.vNeg BB) fun u3=>some u3) (bnd (gu rP qR) fun u2=>bnd (cg aJ.vNeg u2) fun yl=>some yl))))
set_option maxHeartbeats 4000000 in
theorem Hj {aJ:av}{aQ:av}{r:av}(h:kN aJ aQ=some r):ax Tryz.prog 129 [dG aj aJ,dG aj aQ] (dG aj r):=by
 refine bC (rs:=[.cell 4 41]) (fun cx hx h0=>?_) Tryz.func129
 unfold kN at h
 refine rs hx fun K hK=>?_
 iterate 2 refine sa ?_
 refine s1 (be (F:=aj.f a6) am) ?_
 refine .nil (hK _ _ (rs hx fun K hK=>?_))
 refine s1 (d:=dG aj aJ) (aq (ak.id _ _) am) ?_
 refine scb h gq fun x1 h=>?_
 iterate 5 refine sa ?_
 refine .nil (hK _ _ (rs hx fun K hK=>?_))
 refine s1 (d:=dG aj aQ) (aq (ak.id _ _) am) ?_
 refine scb h gq fun x3 h=>?_
 iterate 5 refine sa ?_
 refine .nil (hK _ _ ?_)
 iterate 2 refine AW.seq ?_
 obtain⟨aZ,hy,h⟩:=ae h
 refine jn ((PE cx .normal (fun aZ=>[(2,.pt 0 0),(3,.pt 1 0),(4,.pt 2 0),(5,dI .i64 x1.1),(7,dI .i64 x3.1),(25,dB aZ)]) fun aZ=>⟨[(0,dC (aj.f aJ)),(1,dC (aj.f aQ)),(2,dC (aj.f a6))],[],3⟩) aZ) ?_ ?_
 replace h:=hy
 refine rq hx fun K hK=>?_
 iterate 2 refine sa ?_
 rcases az x1.2 with dy|dy
 replace h:=aO dy h
 refine ga dy ?_
 refine s1 (ar dy) ?_
 refine .nil (hK _ _ ?_)
 cases h
 exact pe0 h0 [0,1,2]
 replace h:=aP dy h
 refine aG rfl rfl dy ?_
 refine s1 (an dy) ?_
 refine .nil (hK _ _ ?_)
 cases h
 exact pe0 h0 [0,1,2]
 rintro ex tm' hp' ⟨rfl,hw⟩
 refine AW.weak hw (cdh h rfl (fun nN h=>?_) (fun nN h=>?_))
 refine rs hx fun K hK=>?_
 iterate 3 refine sa ?_
 refine scb h jS fun x8 h=>?_
 refine s0 (aE (b':=x8) (ak.id _ _) am) ?_
 refine .nil (hK _ _ (AW.ret ?_))
 cases h
 exact rv1
 refine AW.skip ?_
 iterate 2 refine AW.seq ?_
 obtain⟨bz,hy,h⟩:=ae h
 refine jn ((PE cx .normal (fun bz=>[(2,.pt 0 0),(3,.pt 1 0),(4,.pt 2 0),(37,dB bz)]) fun bz=>⟨[(0,dC (aj.f aJ)),(1,dC (aj.f aQ)),(2,dC (aj.f a6))],[],3⟩) bz) ?_ ?_
 replace h:=hy
 refine rq hx fun K hK=>?_
 refine s1 (d:=dG aj aJ) (aq (ak.id _ _) am) ?_
 refine scb h bS fun jm h=>?_
 iterate 2 refine sa ?_
 rcases az (!jm) with nh|nh
 replace h:=aO nh h
 iterate 3 refine aG rfl rfl nh ?_
 refine s1 (ar nh) ?_
 refine .nil (hK _ _ ?_)
 cases h
 exact pe0 h0 [0,1,2]
 replace h:=aP nh h
 refine g1 (d:=dG aj aQ) nh (aq (ak.id _ _) am) ?_
 obtain⟨nD,xQ,h⟩:=ae h
 refine g1 nh (bb rfl (bS xQ) (by simp only[cP,dA,bX,bt,bc,bp];exact aC _ _) (lA (bZ _ _) lAn) (.inl rfl)) ?_
 refine ga nh ?_
 refine s1 (an nh) ?_
 refine .nil (hK _ _ ?_)
 cases h
 exact pe0 h0 [0,1,2]
 rintro ex tm' hp' ⟨rfl,hw⟩
 refine AW.weak hw (cdh h rfl (fun oz h=>?_) (fun oz h=>?_))
 refine rs hx fun K hK=>?_
 refine scb h ir fun nT h=>?_
 refine s0 (aE (b':=nT) (ak.id _ _) am) ?_
 refine .nil (hK _ _ (AW.ret ?_))
 cases h
 exact rv1
 refine AW.skip (rs hx fun K hK=>?_)
 refine s1 (d:=dG aj aJ) (aq (ak.id _ _) am) ?_
 refine scb h bG fun rP h=>?_
 refine sa ?_
 refine .nil (hK _ _ (rs hx fun K hK=>?_))
 refine s1 (d:=dG aj aQ) (aq (ak.id _ _) am) ?_
 refine scb h bG fun qR h=>?_
 refine sa ?_
 refine .nil (hK _ _ (AW.seq (rs hx fun K hK=>?_)))
 refine sa ?_
 refine s1 (aT (aN aJ) ey) ?_
 refine sa ?_
 refine s1 (aT (aN aQ) ey) ?_
 refine sa ?_
 refine .nil (hK _ _ (cdh h rfl (fun hb23 h=>?_) (fun hb23 h=>?_)))
 refine rsd [141,140] hx fun K hK=>?_
 refine sa ?_
 refine s1 (aT (aN aJ) ey) ?_
 iterate 2 refine sa ?_
 refine cqb h tM fun Bl h=>?_
 refine cqb h ew fun MW h=>?_
 refine s0 (aE (b':=MW) (ak.id _ _) am) ?_
 refine .nil (hK _ _ (AW.ret ?_))
 cases h
 exact rv1
 refine AW.skip (rs hx fun K hK=>?_)
 iterate 2 refine sa ?_
 refine scb h qz fun wY h=>?_
 refine sa ?_
 refine .nil (hK _ _ (AW.seq (ra hx ?_)))
 refine cdh h rfl (fun JV h=>?_) (fun JV h=>?_)
 refine rsd [171,140] hx fun K hK=>?_
 refine sa ?_
 refine s1 (aT (aN aQ) ey) ?_
 iterate 2 refine sa ?_
 refine cqb h nr fun BB h=>?_
 refine cqb h ew fun u3 h=>?_
 refine s0 (aE (b':=u3) (ak.id _ _) am) ?_
 refine .nil (hK _ _ (AW.ret ?_))
 cases h
 exact rv1
 refine AW.skip (rsd [171,140] hx fun K hK=>?_)
 refine sa ?_
 refine s1 (aT (aN aJ) ey) ?_
 iterate 2 refine sa ?_
 refine cqb h nr fun u2 h=>?_
 refine cqb h ew fun yl h=>?_
 refine s0 (aE (b':=yl) (ak.id _ _) am) ?_
 refine .nil (hK _ _ (AW.ret ?_))
 cases h
 exact rv1
def pU(aU:av):Option av:=bnd (bk aU) fun x1=>cnd (!x1) (bnd (eY) fun x4=>some x4) (bnd (bg aU) fun x6=>bnd (cg (!aU.vNeg) x6) fun x8=>some x8)
theorem Hi {aU:av}{r:av}(h:pU aU=some r):ax Tryz.prog 157 [dG aj aU] (dG aj r):=by
 refine bC (rs:=[.cell 2 41]) (fun cx hx h0=>?_) Tryz.func157
 unfold pU at h
 refine rs hx fun K hK=>?_
 refine sa ?_
 refine s1 (be (F:=aj.f a6) am) ?_
 refine .nil (hK _ _ (AW.seq (rs hx fun K hK=>?_)))
 refine s1 (d:=dG aj aU) (aq (ak.id _ _) am) ?_
 refine scb h bS fun x1 h=>?_
 refine sa ?_
 refine .nil (hK _ _ (cdh h rfl (fun a8 h=>?_) (fun a8 h=>?_)))
 refine rs hx fun K hK=>?_
 refine scb h ir fun x4 h=>?_
 refine s0 (aE (b':=x4) (ak.id _ _) am) ?_
 refine .nil (hK _ _ (AW.ret ?_))
 cases h
 exact rv1
 refine AW.skip (rsd [143,140] hx fun K hK=>?_)
 refine sa ?_
 refine s1 (aT (aN aU) ey) ?_
 refine sa ?_
 refine s1 (d:=dG aj aU) (aq (ak.id _ _) am) ?_
 refine cqb h bG fun x6 h=>?_
 refine cqb h ew fun x8 h=>?_
 refine s0 (aE (b':=x8) (ak.id _ _) am) ?_
 refine .nil (hK _ _ (AW.ret ?_))
 cases h
 exact rv1
def fe(aU:av):Option Int:=bnd (S:=Bool) (bnd (bk aU) fun x1=>cnd (!x1) (some (true)) (bnd (bg aU) fun x4=>some (decide (((x4).length:Int)=(0:Int))))) fun cZ=>cnd cZ (some (0:Int)) (cnd aU.vNeg (some (-1:Int)) (some (1:Int)))
theorem jq {aU:av}{r:Int}(h:fe aU=some r):ax Tryz.prog 113 [dG aj aU] (dI .i64 r):=by
 refine bC (rs:=[.tmp 2]) (fun cx hx h0=>?_) Tryz.func113
 unfold fe at h
 refine ra hx ?_
 iterate 2 refine AW.seq ?_
 obtain⟨cZ,hy,h⟩:=ae h
 refine jn ((PE cx .normal (fun cZ=>[(1,.pt 0 0),(11,dB cZ)]) fun cZ=>⟨[(0,dC (aj.f aU))],[],1⟩) cZ) ?_ ?_
 replace h:=hy
 refine rq hx fun K hK=>?_
 refine s1 (d:=dG aj aU) (aq (ak.id _ _) am) ?_
 refine scb h bS fun x1 h=>?_
 iterate 2 refine sa ?_
 rcases az (!x1) with a8|a8
 replace h:=aO a8 h
 iterate 4 refine aG rfl rfl a8 ?_
 refine s1 (ar a8) ?_
 refine .nil (hK _ _ ?_)
 cases h
 exact pe0 h0 [0]
 replace h:=aP a8 h
 refine g1 (d:=dG aj aU) a8 (aq (ak.id _ _) am) ?_
 obtain⟨x4,qd,h⟩:=ae h
 refine g1 a8 (bb rfl (bG qd) (by simp only[cP,dA,bX,bt,bc,bp];exact aC _ _) (lA (bZ _ _) lAn) (.inl rfl)) ?_
 iterate 2 refine ga a8 ?_
 refine s1 (an a8) ?_
 refine .nil (hK _ _ ?_)
 cases h
 exact pe0 h0 [0]
 rintro ex tm' hp' ⟨rfl,hw⟩
 refine AW.weak hw (cdh h rfl (fun nN h=>?_) (fun nN h=>?_))
 refine ra hx ?_
 refine AW.ret ?_
 cases h
 exact rv1
 refine AW.skip (AW.seq (rs hx fun K hK=>?_))
 refine sa ?_
 refine s1 (aT (aN aU) ey) ?_
 refine .nil (hK _ _ (cdh h rfl (fun ju h=>?_) (fun ju h=>?_)))
 refine ra hx ?_
 refine AW.ret ?_
 cases h
 exact rv1
 refine AW.skip (ra hx ?_)
 refine AW.ret ?_
 cases h
 exact rv1
def n3(aJ:av)(aQ:av):Option av:=bnd (cM aJ) fun x1=>bnd (cM aQ) fun x3=>bnd (S:=Bool) (cnd x1.2 (cnd x3.2 (some (decide (x3.1≠(0:Int)))) (some (false))) (some (false))) fun aZ=>cnd aZ (bnd (lX x1.1 x3.1) fun x9=>bnd (fJ (i64.wrap (x1.1 - (i64.wrap (x3.1*x9))))) fun o7=>some o7) (bnd (S:=Bool) (bnd (bk aJ) fun nD=>cnd (!nD) (some (true)) (bnd (bk aQ) fun o6=>cnd (!o6) (some (true)) (bnd (bg aQ) fun rP=>some (decide (((rP).length:Int)=(0:Int)))))) fun bz=>cnd bz (bnd (eY) fun rY=>some rY) (bnd (bg aJ) fun D7=>bnd (bg aQ) fun uP=>bnd (gE D7 uP) fun wX=>bnd (S:=(List Int)) (bnd (S:=Bool) (cnd (!(aJ.vNeg == aQ.vNeg)) (some (decide ((0:Int)<((wX.2).length:Int)))) (some (false))) fun gT=>cnd gT (bnd (bg aQ) fun M9=>bnd (gu M9 wX.2) fun x36=>some (x36)) (some (wX.2))) fun m6=>bnd (cg aQ.vNeg m6) fun Bk=>some Bk))
set_option maxHeartbeats 4000000 in
theorem AL {aJ:av}{aQ:av}{r:av}(h:n3 aJ aQ=some r):ax Tryz.prog 186 [dG aj aJ,dG aj aQ] (dG aj r):=by
 refine bC (rs:=[.cell 4 41]) (fun cx hx h0=>?_) Tryz.func186
 unfold n3 at h
 refine rs hx fun K hK=>?_
 iterate 2 refine sa ?_
 refine s1 (be (F:=aj.f a6) am) ?_
 refine .nil (hK _ _ (rs hx fun K hK=>?_))
 refine s1 (d:=dG aj aJ) (aq (ak.id _ _) am) ?_
 refine scb h gq fun x1 h=>?_
 iterate 5 refine sa ?_
 refine .nil (hK _ _ (rs hx fun K hK=>?_))
 refine s1 (d:=dG aj aQ) (aq (ak.id _ _) am) ?_
 refine scb h gq fun x3 h=>?_
 iterate 5 refine sa ?_
 refine .nil (hK _ _ ?_)
 iterate 2 refine AW.seq ?_
 obtain⟨aZ,hy,h⟩:=ae h
 refine jn ((PE cx .normal (fun aZ=>[(2,.pt 0 0),(3,.pt 1 0),(4,.pt 2 0),(5,dI .i64 x1.1),(7,dI .i64 x3.1),(28,dB aZ)]) fun aZ=>⟨[(0,dC (aj.f aJ)),(1,dC (aj.f aQ)),(2,dC (aj.f a6))],[],3⟩) aZ) ?_ ?_
 replace h:=hy
 refine rq hx fun K hK=>?_
 iterate 2 refine sa ?_
 rcases az x1.2 with dy|dy
 replace h:=aO dy h
 refine ga dy ?_
 refine s1 (ar dy) ?_
 refine sa ?_
 rcases az x3.2 with fC|fC
 replace h:=aO fC h
 iterate 2 refine ga fC ?_
 refine s1 (ar fC) ?_
 refine .nil (hK _ _ ?_)
 cases h
 exact pe0 h0 [0,1,2]
 replace h:=aP fC h
 iterate 2 refine aG rfl rfl fC ?_
 refine s1 (an fC) ?_
 refine .nil (hK _ _ ?_)
 cases h
 exact pe0 h0 [0,1,2]
 replace h:=aP dy h
 refine aG rfl rfl dy ?_
 refine s1 (an dy) ?_
 refine sa ?_
 iterate 2 refine aG rfl rfl rfl ?_
 refine s1 (an rfl) ?_
 refine .nil (hK _ _ ?_)
 cases h
 exact pe0 h0 [0,1,2]
 rintro ex tm' hp' ⟨rfl,hw⟩
 refine AW.weak hw (cdh h rfl (fun ju h=>?_) (fun ju h=>?_))
 refine rs hx fun K hK=>?_
 iterate 4 refine sa ?_
 refine scb h xa fun x9 h=>?_
 iterate 2 refine sa ?_
 refine scb h jS fun o7 h=>?_
 refine s0 (aE (b':=o7) (ak.id _ _) am) ?_
 refine .nil (hK _ _ (AW.ret ?_))
 cases h
 exact rv1
 refine AW.skip ?_
 iterate 2 refine AW.seq ?_
 obtain⟨bz,hy,h⟩:=ae h
 refine jn ((PE cx .normal (fun bz=>[(2,.pt 0 0),(3,.pt 1 0),(4,.pt 2 0),(50,dB bz)]) fun bz=>⟨[(0,dC (aj.f aJ)),(1,dC (aj.f aQ)),(2,dC (aj.f a6))],[],3⟩) bz) ?_ ?_
 replace h:=hy
 refine rq hx fun K hK=>?_
 refine s1 (d:=dG aj aJ) (aq (ak.id _ _) am) ?_
 refine scb h bS fun nD h=>?_
 iterate 2 refine sa ?_
 rcases az (!nD) with nf|nf
 replace h:=aO nf h
 iterate 3 refine aG rfl rfl nf ?_
 refine s1 (ar nf) ?_
 refine sa ?_
 iterate 4 refine aG rfl rfl rfl ?_
 refine s1 (ar rfl) ?_
 refine .nil (hK _ _ ?_)
 cases h
 exact pe0 h0 [0,1,2]
 replace h:=aP nf h
 refine g1 (d:=dG aj aQ) nf (aq (ak.id _ _) am) ?_
 obtain⟨o6,Mf,h⟩:=ae h
 refine g1 nf (bb rfl (bS Mf) (by simp only[cP,dA,bX,bt,bc,bp];exact aC _ _) (lA (bZ _ _) lAn) (.inl rfl)) ?_
 refine ga nf ?_
 refine s1 (an nf) ?_
 refine sa ?_
 rcases az (!o6) with j4|j4
 replace h:=aO j4 h
 iterate 4 refine aG rfl rfl j4 ?_
 refine s1 (ar j4) ?_
 refine .nil (hK _ _ ?_)
 cases h
 exact pe0 h0 [0,1,2]
 replace h:=aP j4 h
 refine g1 (d:=dG aj aQ) j4 (aq (ak.id _ _) am) ?_
 obtain⟨rP,wN,h⟩:=ae h
 refine g1 j4 (bb rfl (bG wN) (by simp only[cP,dA,bX,bt,bc,bp];exact aC _ _) (lA (bZ _ _) lAn) (.inl rfl)) ?_
 iterate 2 refine ga j4 ?_
 refine s1 (an j4) ?_
 refine .nil (hK _ _ ?_)
 cases h
 exact pe0 h0 [0,1,2]
 rintro ex tm' hp' ⟨rfl,hw⟩
 refine AW.weak hw (cdh h rfl (fun Pm h=>?_) (fun Pm h=>?_))
 refine rs hx fun K hK=>?_
 refine scb h ir fun rY h=>?_
 refine s0 (aE (b':=rY) (ak.id _ _) am) ?_
 refine .nil (hK _ _ (AW.ret ?_))
 cases h
 exact rv1
 refine AW.skip (rsd [143,168] hx fun K hK=>?_)
 refine s1 (d:=dG aj aJ) (aq (ak.id _ _) am) ?_
 refine cqb h bG fun D7 h=>?_
 refine s1 (d:=dG aj aQ) (aq (ak.id _ _) am) ?_
 refine cqb h bG fun uP h=>?_
 refine cqb h qV fun wX h=>?_
 iterate 5 refine sa ?_
 refine .nil (hK _ _ (AW.seq ?_))
 obtain⟨m6,hy,h⟩:=ae h
 refine jn ((PE cx .normal (fun m6=>[(3,.pt 0 0),(4,.pt 1 0),(10,dL (cI .i64) m6)]) fun m6=>⟨[(0,dC (aj.f aQ)),(1,dC (aj.f a6))],[],2⟩) m6) ?_ ?_
 replace h:=hy
 refine AW.seq ?_
 obtain⟨gT,hy,h⟩:=ae h
 refine jn ((PE cx .normal (fun gT=>[(3,.pt 0 0),(4,.pt 1 0),(10,dL (cI .i64) wX.2),(69,dB gT)]) fun gT=>⟨[(0,dC (aj.f aQ)),(1,dC (aj.f a6))],[],2⟩) gT) ?_ ?_
 replace h:=hy
 refine rq hx fun K hK=>?_
 refine sa ?_
 refine s1 (aT (aN aJ) ey) ?_
 refine sa ?_
 refine s1 (aT (aN aQ) ey) ?_
 iterate 2 refine sa ?_
 rcases az (!(aJ.vNeg == aQ.vNeg)) with oy|oy
 replace h:=aO oy h
 iterate 3 refine ga oy ?_
 refine s1 (ar oy) ?_
 refine .nil (hK _ _ ?_)
 cases h
 exact pe0 h0 [1,2]
 replace h:=aP oy h
 iterate 3 refine aG rfl rfl oy ?_
 refine s1 (an oy) ?_
 refine .nil (hK _ _ ?_)
 cases h
 exact pe0 h0 [1,2]
 rintro ex tm' hp' ⟨rfl,hw⟩
 refine AW.weak hw (cdh h rfl (fun hb33 h=>?_) (fun hb33 h=>?_))
 refine rq hx fun K hK=>?_
 refine s1 (d:=dG aj aQ) (aq (ak.id _ _) am) ?_
 refine scb h bG fun M9 h=>?_
 refine sa ?_
 refine scb h nr fun x36 h=>?_
 refine sa ?_
 refine .nil (hK _ _ ?_)
 cases h
 exact pe0 h0 [0,1]
 refine AW.skip ?_
 cases h
 exact pe0 h0 [0,1]
 rintro ex tm' hp' ⟨rfl,hw⟩
 refine AW.weak hw (rs hx fun K hK=>?_)
 refine sa ?_
 refine s1 (aT (aN aQ) ey) ?_
 refine sa ?_
 refine scb h ew fun Bk h=>?_
 refine s0 (aE (b':=Bk) (ak.id _ _) am) ?_
 refine .nil (hK _ _ (AW.ret ?_))
 cases h
 exact rv1
def jM(aJ:av)(aQ:av):Option Int:=bnd (S:=Bool) (bnd (bk aJ) fun x1=>cnd (!x1) (bnd (bk aQ) fun x4=>some (!x4)) (some (false))) fun cZ=>cnd cZ (some (0:Int)) (bnd (bk aJ) fun x8=>cnd (!x8) (some (-1:Int)) (bnd (bk aQ) fun o7=>cnd (!o7) (some (1:Int)) (cnd (!(aJ.vNeg == aQ.vNeg)) (cnd aJ.vNeg (some (-1:Int)) (some (1:Int))) (bnd (bg aJ) fun o6=>bnd (bg aQ) fun pG=>bnd (S:=(List Int)×(List Int)) (cnd aJ.vNeg (bnd (bg aQ) fun qR=>bnd (bg aJ) fun rY=>some ((qR,rY))) (some ((o6,pG)))) fun (Fi,Fh)=>bnd (il Fi Fh) fun MW=>bnd (il Fh Fi) fun wY=>cnd MW (some (-1:Int)) (cnd wY (some (1:Int)) (some (0:Int)))))))
set_option maxHeartbeats 4000000 in
theorem AM {aJ:av}{aQ:av}{r:Int}(h:jM aJ aQ=some r):ax Tryz.prog 184 [dG aj aJ,dG aj aQ] (dI .i64 r):=by
 refine bC (rs:=[.tmp 4]) (fun cx hx h0=>?_) Tryz.func184
 unfold jM at h
 refine ra hx ?_
 iterate 2 refine AW.seq ?_
 obtain⟨cZ,hy,h⟩:=ae h
 refine jn ((PE cx .normal (fun cZ=>[(2,.pt 0 0),(3,.pt 1 0),(16,dB cZ)]) fun cZ=>⟨[(0,dC (aj.f aJ)),(1,dC (aj.f aQ))],[],2⟩) cZ) ?_ ?_
 replace h:=hy
 refine rq hx fun K hK=>?_
 refine s1 (d:=dG aj aJ) (aq (ak.id _ _) am) ?_
 refine scb h bS fun x1 h=>?_
 iterate 2 refine sa ?_
 rcases az (!x1) with a8|a8
 replace h:=aO a8 h
 refine g1 (d:=dG aj aQ) a8 (aq (ak.id _ _) am) ?_
 obtain⟨x4,qd,h⟩:=ae h
 refine g1 a8 (bb rfl (bS qd) (by simp only[cP,dA,bX,bt,bc,bp];exact aC _ _) (lA (bZ _ _) lAn) (.inl rfl)) ?_
 refine ga a8 ?_
 refine s1 (ar a8) ?_
 refine .nil (hK _ _ ?_)
 cases h
 exact pe0 h0 [0,1]
 replace h:=aP a8 h
 iterate 3 refine aG rfl rfl a8 ?_
 refine s1 (an a8) ?_
 refine .nil (hK _ _ ?_)
 cases h
 exact pe0 h0 [0,1]
 rintro ex tm' hp' ⟨rfl,hw⟩
 refine AW.weak hw (cdh h rfl (fun nN h=>?_) (fun nN h=>?_))
 refine ra hx ?_
 refine AW.ret ?_
 cases h
 exact rv1
 refine AW.skip (AW.seq (rs hx fun K hK=>?_))
 refine s1 (d:=dG aj aJ) (aq (ak.id _ _) am) ?_
 refine scb h bS fun x8 h=>?_
 refine sa ?_
 refine .nil (hK _ _ (cdh h rfl (fun dT h=>?_) (fun dT h=>?_)))
 refine ra hx ?_
 refine AW.ret ?_
 cases h
 exact rv1
 refine AW.skip (AW.seq (rs hx fun K hK=>?_))
 refine s1 (d:=dG aj aQ) (aq (ak.id _ _) am) ?_
 refine scb h bS fun o7 h=>?_
 refine sa ?_
 refine .nil (hK _ _ (cdh h rfl (fun mm h=>?_) (fun mm h=>?_)))
 refine ra hx ?_
 refine AW.ret ?_
 cases h
 exact rv1
 refine AW.skip (AW.seq (rs hx fun K hK=>?_))
 refine sa ?_
 refine s1 (aT (aN aJ) ey) ?_
 refine sa ?_
 refine s1 (aT (aN aQ) ey) ?_
 refine sa ?_
 refine .nil (hK _ _ (cdh h rfl (fun eM h=>?_) (fun eM h=>?_)))
 refine AW.seq (rs hx fun K hK=>?_)
 refine sa ?_
 refine s1 (aT (aN aJ) ey) ?_
 refine .nil (hK _ _ (cdh h rfl (fun nf h=>?_) (fun nf h=>?_)))
 refine ra hx ?_
 refine AW.ret ?_
 cases h
 exact rv1
 refine AW.skip (ra hx ?_)
 refine AW.ret ?_
 cases h
 exact rv1
 refine AW.skip (rs hx fun K hK=>?_)
 refine s1 (d:=dG aj aJ) (aq (ak.id _ _) am) ?_
 refine scb h bG fun o6 h=>?_
 refine sa ?_
 refine .nil (hK _ _ (rs hx fun K hK=>?_))
 refine s1 (d:=dG aj aQ) (aq (ak.id _ _) am) ?_
 refine scb h bG fun pG h=>?_
 refine sa ?_
 refine .nil (hK _ _ (AW.seq ?_))
 obtain⟨y,hy,h⟩:=ae h
 refine jn ((PE cx .normal (fun (Fi,Fh)=>[(5,dL (cI .i64) Fi),(6,dL (cI .i64) Fh)]) fun (Fi,Fh)=>⟨[],[],0⟩) y) ?_ ?_
 replace h:=hy
 refine rs hx fun K hK=>?_
 refine sa ?_
 refine s1 (aT (aN aJ) ey) ?_
 refine .nil (hK _ _ (cdh h rfl (fun t4 h=>?_) (fun t4 h=>?_)))
 refine rs hx fun K hK=>?_
 refine s1 (d:=dG aj aQ) (aq (ak.id _ _) am) ?_
 refine scb h bG fun qR h=>?_
 refine sa ?_
 refine .nil (hK _ _ (rq hx fun K hK=>?_))
 refine s1 (d:=dG aj aJ) (aq (ak.id _ _) am) ?_
 refine scb h bG fun rY h=>?_
 refine sa ?_
 refine .nil (hK _ _ ?_)
 cases h
 exact pe0 h0 []
 refine AW.skip ?_
 cases h
 exact pe0 h0 []
 obtain⟨Fi,Fh⟩:=y
 rintro ex tm' hp' ⟨rfl,hw⟩
 refine AW.weak hw (rs hx fun K hK=>?_)
 iterate 2 refine sa ?_
 refine scb h qz fun MW h=>?_
 refine sa ?_
 refine .nil (hK _ _ (rs hx fun K hK=>?_))
 iterate 2 refine sa ?_
 refine scb h qz fun wY h=>?_
 refine sa ?_
 refine .nil (hK _ _ (AW.seq (ra hx ?_)))
 refine cdh h rfl (fun JV h=>?_) (fun JV h=>?_)
 refine ra hx ?_
 refine AW.ret ?_
 cases h
 exact rv1
 refine AW.skip (AW.seq (ra hx ?_))
 refine cdh h rfl (fun oy h=>?_) (fun oy h=>?_)
 refine ra hx ?_
 refine AW.ret ?_
 cases h
 exact rv1
 refine AW.skip (ra hx ?_)
 refine AW.ret ?_
 cases h
 exact rv1
structure ao where
 vN:av
 vD:av
 deriving Inhabited,DecidableEq
abbrev cG:ao:=⟨a6,a6⟩
def ai:Cd ao:=⟨36,fun x=>aj.f x.vN++aj.f x.vD,fun x=>by simp[aj.h,show aj.sz=18 from rfl]⟩
theorem bo(x:ao):ak (ai.f x) aj 0 x.vN (fun y=>ai.f (⟨y,x.vD⟩:ao)):=
 ak.of ([]) ((aj).f x.vD) (by first|rfl|(simp[aj.h];first|rfl|done)) (by first|rfl|simp[ai,cI,cB,cS,cL,dU]) (fun y=>by first|rfl|simp[ai,cI,cB,cS,cL,dU])
theorem aV(x:ao):ak (ai.f x) aj 18 x.vD (fun y=>ai.f (⟨x.vN,y⟩:ao)):=
 ak.of ((aj).f x.vN) ([]) (by first|rfl|(simp[aj.h];first|rfl|done)) (by first|rfl|simp[ai,cI,cB,cS,cL,dU]) (fun y=>by first|rfl|simp[ai,cI,cB,cS,cL,dU])
def B8(x:av):List Value:=[Value.bool x.vBad]++([Value.bool x.vNeg]++((x.vW).toList.flatMap (fun x=>[Value.int .u32 x])++([])))
theorem gR:EqC tbl 3 41 aj B8:=by
 refine EqC.struct (fs:=[(0,4),(1,4),(2,39)]) am (fun x=>?_) (fun x=>by
  have q3:te tbl (nO tbl 2) [] 18 []:=by unfold te;rfl
  have q2:=rl (off:=2) (x:=x.vW) (EqC.arr (EqC.int (d:=0) aI) aA aI) aA rfl q3
  have q1:=rl (off:=1) (x:=x.vNeg) (EqC.bool (d:=1) ey) ey rfl q2
  have q0:=rl (off:=0) (x:=x.vBad) (EqC.bool (d:=1) ey) ey rfl q1
  exact q0) ?_
 ·have:=And.intro (And.intro ((EqC.bool (d:=1) ey).hf x.vBad) (And.intro ((EqC.bool (d:=1) ey).hf x.vNeg) (And.intro ((EqC.arr (EqC.int (d:=0) aI) aA aI).hf x.vW) (True.intro)))) True.intro
  simp only[B8,aj,iU,dA,sv,dU]
  all_goals (first|rfl|(simp only[←(EqC.bool (d:=1) ey).hf,←(EqC.bool (d:=1) ey).hf,←(EqC.arr (EqC.int (d:=0) aI) aA aI).hf];try (first|rfl|simp[cI,cB])))
 ·skip
  intro x y h
  unfold B8 at h
  obtain⟨e0,h⟩:=List.append_inj h (by rw[(EqC.bool (d:=1) ey).len,(EqC.bool (d:=1) ey).len])
  obtain⟨e1,h⟩:=List.append_inj h (by rw[(EqC.bool (d:=1) ey).len,(EqC.bool (d:=1) ey).len])
  obtain⟨e2,h⟩:=List.append_inj h (by rw[(EqC.arr (EqC.int (d:=0) aI) aA aI).len,(EqC.arr (EqC.int (d:=0) aI) aA aI).len])
  cases x;cases y
  simp only[av.mk.injEq]
  exact⟨((EqC.bool (d:=1) ey).inj _ _).1 e0,((EqC.bool (d:=1) ey).inj _ _).1 e1,((EqC.arr (EqC.int (d:=0) aI) aA aI).inj _ _).1 e2⟩
def I6(x:ao):List Value:=B8 x.vN++(B8 x.vD++([]))
theorem Aq:EqC tbl 4 43 ai I6:=by
 refine EqC.struct (fs:=[(0,41),(18,41)]) aw (fun x=>?_) (fun x=>by
  have q2:te tbl (nO tbl 3) [] 36 []:=by unfold te;rfl
  have q1:=rl (off:=18) (x:=x.vD) gR am rfl q2
  have q0:=rl (off:=0) (x:=x.vN) gR am rfl q1
  exact q0) ?_
 ·have:=And.intro (And.intro (gR.hf x.vN) (And.intro (gR.hf x.vD) (True.intro))) True.intro
  simp only[I6,ai,iU,dA,sv,dU]
  all_goals (first|rfl|(simp only[←gR.hf,←gR.hf];try (first|rfl|simp[cI,cB])))
 ·skip
  intro x y h
  unfold I6 at h
  obtain⟨e0,h⟩:=List.append_inj h (by rw[gR.len,gR.len])
  obtain⟨e1,h⟩:=List.append_inj h (by rw[gR.len,gR.len])
  cases x;cases y
  simp only[ao.mk.injEq]
  exact⟨(gR.inj _ _).1 e0,(gR.inj _ _).1 e1⟩
def jN(aU:av):Option Bool:=bnd (S:=Bool) (cnd (!aU.vBad) (bnd (lT aU) fun x2=>some (x2)) (some (false))) fun bI=>some bI
theorem qA {aU:av}{r:Bool}(h:jN aU=some r):ax Tryz.prog 146 [dG aj aU] (dB r):=by
 refine bC (rs:=[.tmp 2]) (fun cx hx h0=>?_) Tryz.func146
 unfold jN at h
 refine ra hx ?_
 refine AW.seq ?_
 obtain⟨bI,hy,h⟩:=ae h
 refine jn ((PE cx .normal (fun bI=>[(2,dB bI)]) fun bI=>⟨[],[],0⟩) bI) ?_ ?_
 replace h:=hy
 refine rq hx fun K hK=>?_
 refine sa ?_
 refine s1 (aT (jt aU) ey) ?_
 iterate 2 refine sa ?_
 rcases az (!aU.vBad) with cv|cv
 replace h:=aO cv h
 refine g1 (d:=dG aj aU) cv (aq (ak.id _ _) am) ?_
 obtain⟨x2,Gi,h⟩:=ae h
 refine g1 cv (bb rfl (w5 Gi) (by simp only[cP,dA,bX,bt,bc,bp];exact aC _ _) (lA (bZ _ _) lAn) (.inl rfl)) ?_
 refine s1 (ar cv) ?_
 refine sa ?_
 refine .nil (hK _ _ ?_)
 cases h
 exact pe0 h0 []
 replace h:=aP cv h
 iterate 2 refine aG rfl rfl cv ?_
 refine s1 (an cv) ?_
 refine sa ?_
 refine .nil (hK _ _ ?_)
 cases h
 exact pe0 h0 []
 rintro ex tm' hp' ⟨rfl,hw⟩
 refine AW.weak hw (AW.ret ?_)
 cases h
 exact rv1
def mH :Option av:=bnd (g5 (1:Int)) fun x1=>some x1
theorem vb  {r:av}(h:mH=some r):ax Tryz.prog 99 [] (dG aj r):=by
 refine bC (rs:=[.cell 0 41]) (fun cx hx h0=>?_) Tryz.func99
 unfold mH at h
 refine rs hx fun K hK=>?_
 refine s1 (be (F:=aj.f a6) am) ?_
 refine .nil (hK _ _ (rs hx fun K hK=>?_))
 refine scb h qS fun x1 h=>?_
 refine s0 (aE (b':=x1) (ak.id _ _) am) ?_
 refine .nil (hK _ _ (AW.ret ?_))
 cases h
 exact rv1
def br(aU:ao):Option Bool:=bnd (S:=Bool) (bnd (jN aU.vN) fun x1=>cnd x1 (bnd (jN aU.vD) fun x4=>cnd x4 (bnd (fG aU.vD) fun x7=>cnd (decide ((0:Int)<x7)) (bnd (n0 aU.vN aU.vD) fun jm=>bnd (mH) fun iE=>some (decide (jm=iE))) (some (false))) (some (false))) (some (false))) fun bI=>some bI
set_option maxHeartbeats 4000000 in
theorem cJ {aU:ao}{r:Bool}(h:br aU=some r):ax Tryz.prog 92 [dG ai aU] (dB r):=by
 refine bC (rs:=[.tmp 2]) (fun cx hx h0=>?_) Tryz.func92
 unfold br at h
 refine ra hx ?_
 refine AW.seq ?_
 obtain⟨bI,hy,h⟩:=ae h
 refine jn ((PE cx .normal (fun bI=>[(2,dB bI)]) fun bI=>⟨[],[],0⟩) bI) ?_ ?_
 replace h:=hy
 refine rq hx fun K hK=>?_
 refine sa ?_
 refine s1 (aq (bo aU) am) ?_
 refine scb h qA fun x1 h=>?_
 refine sa ?_
 rcases az x1 with a8|a8
 replace h:=aO a8 h
 refine ga a8 ?_
 refine g1 a8 (aq (aV aU) am) ?_
 obtain⟨x4,qd,h⟩:=ae h
 refine g1 a8 (bb rfl (qA qd) (by simp only[cP,dA,bX,bt,bc,bp];exact aC _ _) (lA (bZ _ _) lAn) (.inl rfl)) ?_
 refine s1 (ar a8) ?_
 refine sa ?_
 rcases az x4 with fC|fC
 replace h:=aO fC h
 refine ga fC ?_
 refine g1 fC (aq (aV aU) am) ?_
 obtain⟨x7,Gg,h⟩:=ae h
 refine g1 fC (bb rfl (kQ Gg) (by simp only[cP,dA,bX,bt,bc,bp];exact aC _ _) (lA (bZ _ _) lAn) (.inl rfl)) ?_
 refine ga fC ?_
 refine s1 (ar fC) ?_
 refine sa ?_
 rcases az (decide ((0:Int)<x7)) with wr|wr
 replace h:=aO wr h
 refine ga wr ?_
 refine g1 wr (aq (bo aU) am) ?_
 refine ga wr ?_
 refine g1 wr (aq (aV aU) am) ?_
 obtain⟨jm,yQ,h⟩:=ae h
 refine g1 wr (bb rfl (u6 yQ) (by simp only[cP,dA,bX,bt,bc,bp];exact⟨aC _ _,aC _ _⟩) (lA (bZ _ _) (lA (bZ _ _) lAn)) (.inl (ii _ _))) ?_
 obtain⟨iE,vu,h⟩:=ae h
 refine g1 wr (bb rfl (vb vu) rfl lAn (.inl (ii _ _))) ?_
 refine g1 wr (AF tok 3 (by decide) gR am) ?_
 refine s1 (ar wr) ?_
 refine sa ?_
 refine .nil (hK _ _ ?_)
 cases h
 exact pe0 h0 []
 replace h:=aP wr h
 iterate 7 refine aG rfl rfl wr ?_
 refine s1 (an wr) ?_
 refine sa ?_
 refine .nil (hK _ _ ?_)
 cases h
 exact pe0 h0 []
 replace h:=aP fC h
 iterate 4 refine aG rfl rfl fC ?_
 refine s1 (an fC) ?_
 refine sa ?_
 iterate 7 refine aG rfl rfl rfl ?_
 refine s1 (an rfl) ?_
 refine sa ?_
 refine .nil (hK _ _ ?_)
 cases h
 exact pe0 h0 []
 replace h:=aP a8 h
 iterate 3 refine aG rfl rfl a8 ?_
 refine s1 (an a8) ?_
 refine sa ?_
 iterate 4 refine aG rfl rfl rfl ?_
 refine s1 (an rfl) ?_
 refine sa ?_
 iterate 7 refine aG rfl rfl rfl ?_
 refine s1 (an rfl) ?_
 refine sa ?_
 refine .nil (hK _ _ ?_)
 cases h
 exact pe0 h0 []
 rintro ex tm' hp' ⟨rfl,hw⟩
 refine AW.weak hw (AW.ret ?_)
 cases h
 exact rv1
def fP :Option ao:=bnd (eW) fun x1=>bnd (mH) fun x3=>some (⟨x1,x3⟩:ao)
theorem mu  {r:ao}(h:fP=some r):ax Tryz.prog 65 [] (dG ai r):=by
 refine bC (rs:=[.cell 0 43]) (fun cx hx h0=>?_) Tryz.func65
 unfold fP at h
 refine rs hx fun K hK=>?_
 refine s1 (be (F:=ai.f cG) aw) ?_
 refine .nil (hK _ _ (rs hx fun K hK=>?_))
 refine scb h ip fun x1 h=>?_
 refine scb h vb fun x3 h=>?_
 refine s1 (d:=dG ai (⟨x1,x3⟩:ao)) (ig (FL.cons (y:=x1) (bo cG) rfl rfl (FL.cons (y:=x3) (aV (⟨x1,a6⟩:ao)) rfl rfl (FL.nil _))) aw) ?_
 refine s0 (aE (b':=(⟨x1,x3⟩:ao)) (ak.id _ _) aw) ?_
 refine .nil (hK _ _ (AW.ret ?_))
 cases h
 exact rv1
def dX(cy:av)(tV:av):Option ao:=bnd (S:=Bool) (bnd (jN cy) fun x1=>cnd (!x1) (some (true)) (bnd (jN tV) fun x4=>cnd (!x4) (some (true)) (bnd (fG tV) fun x7=>some (decide (x7=(0:Int)))))) fun cZ=>cnd cZ (bnd (fP) fun o7=>some o7) (bnd (n0 cy tV) fun nD=>bnd (S:=av) (bnd (fG tV) fun BC=>cnd (decide (BC<(0:Int))) (bnd (mA nD) fun pG=>some (pG)) (some (nD))) fun dp=>bnd (iw cy dp) fun qR=>bnd (iw tV dp) fun rY=>some (⟨qR,rY⟩:ao))
set_option maxHeartbeats 4000000 in
theorem kS {cy:av}{tV:av}{r:ao}(h:dX cy tV=some r):ax Tryz.prog 93 [dG aj cy,dG aj tV] (dG ai r):=by
 refine bC (rs:=[.cell 4 43]) (fun cx hx h0=>?_) Tryz.func93
 unfold dX at h
 refine rs hx fun K hK=>?_
 iterate 2 refine sa ?_
 refine s1 (be (F:=ai.f cG) aw) ?_
 refine .nil (hK _ _ ?_)
 iterate 2 refine AW.seq ?_
 obtain⟨cZ,hy,h⟩:=ae h
 refine jn ((PE cx .normal (fun cZ=>[(2,.pt 0 0),(3,.pt 1 0),(4,.pt 2 0),(18,dB cZ)]) fun cZ=>⟨[(0,dC (aj.f cy)),(1,dC (aj.f tV)),(2,dC (ai.f cG))],[],3⟩) cZ) ?_ ?_
 replace h:=hy
 refine rq hx fun K hK=>?_
 refine s1 (d:=dG aj cy) (aq (ak.id _ _) am) ?_
 refine scb h qA fun x1 h=>?_
 iterate 2 refine sa ?_
 rcases az (!x1) with a8|a8
 replace h:=aO a8 h
 iterate 3 refine aG rfl rfl a8 ?_
 refine s1 (ar a8) ?_
 refine sa ?_
 iterate 3 refine aG rfl rfl rfl ?_
 refine s1 (ar rfl) ?_
 refine .nil (hK _ _ ?_)
 cases h
 exact pe0 h0 [0,1,2]
 replace h:=aP a8 h
 refine g1 (d:=dG aj tV) a8 (aq (ak.id _ _) am) ?_
 obtain⟨x4,qd,h⟩:=ae h
 refine g1 a8 (bb rfl (qA qd) (by simp only[cP,dA,bX,bt,bc,bp];exact aC _ _) (lA (bZ _ _) lAn) (.inl rfl)) ?_
 refine ga a8 ?_
 refine s1 (an a8) ?_
 refine sa ?_
 rcases az (!x4) with fC|fC
 replace h:=aO fC h
 iterate 3 refine aG rfl rfl fC ?_
 refine s1 (ar fC) ?_
 refine .nil (hK _ _ ?_)
 cases h
 exact pe0 h0 [0,1,2]
 replace h:=aP fC h
 refine g1 (d:=dG aj tV) fC (aq (ak.id _ _) am) ?_
 obtain⟨x7,Gg,h⟩:=ae h
 refine g1 fC (bb rfl (kQ Gg) (by simp only[cP,dA,bX,bt,bc,bp];exact aC _ _) (lA (bZ _ _) lAn) (.inl rfl)) ?_
 refine ga fC ?_
 refine s1 (an fC) ?_
 refine .nil (hK _ _ ?_)
 cases h
 exact pe0 h0 [0,1,2]
 rintro ex tm' hp' ⟨rfl,hw⟩
 refine AW.weak hw (cdh h rfl (fun dT h=>?_) (fun dT h=>?_))
 refine rs hx fun K hK=>?_
 refine scb h mu fun o7 h=>?_
 refine s0 (aE (b':=o7) (ak.id _ _) aw) ?_
 refine .nil (hK _ _ (AW.ret ?_))
 cases h
 exact rv1
 refine AW.skip (rs hx fun K hK=>?_)
 refine s1 (d:=dG aj cy) (aq (ak.id _ _) am) ?_
 refine s1 (d:=dG aj tV) (aq (ak.id _ _) am) ?_
 refine scb h u6 fun nD h=>?_
 refine s1 (be (F:=aj.f a6) am) ?_
 refine s0 (aE (b':=nD) (ak.id _ _) am) ?_
 refine .nil (hK _ _ (AW.seq ?_))
 obtain⟨dp,hy,h⟩:=ae h
 refine jn ((PE cx .normal (fun dp=>[(2,.pt 0 0),(3,.pt 1 0),(4,.pt 2 0),(5,.pt 3 0)]) fun dp=>⟨[(0,dC (aj.f cy)),(1,dC (aj.f tV)),(2,dC (ai.f cG)),(3,dC (aj.f dp))],[],4⟩) dp) ?_ ?_
 replace h:=hy
 refine rs hx fun K hK=>?_
 refine s1 (d:=dG aj tV) (aq (ak.id _ _) am) ?_
 refine scb h kQ fun BC h=>?_
 refine sa ?_
 refine .nil (hK _ _ (cdh h rfl (fun vG h=>?_) (fun vG h=>?_)))
 refine rq hx fun K hK=>?_
 refine s1 (d:=dG aj nD) (aq (ak.id _ _) am) ?_
 refine scb h u5 fun pG h=>?_
 refine s0 (aE (b':=pG) (ak.id _ _) am) ?_
 refine .nil (hK _ _ ?_)
 cases h
 exact pe0 h0 [0,1,2,3]
 refine AW.skip ?_
 cases h
 exact pe0 h0 [0,1,2,3]
 rintro ex tm' hp' ⟨rfl,hw⟩
 refine AW.weak hw (rsd [97] hx fun K hK=>?_)
 refine s1 (d:=dG aj cy) (aq (ak.id _ _) am) ?_
 refine s1 (d:=dG aj dp) (aq (ak.id _ _) am) ?_
 refine cqb h kL fun qR h=>?_
 refine s1 (d:=dG aj tV) (aq (ak.id _ _) am) ?_
 refine s1 (d:=dG aj dp) (aq (ak.id _ _) am) ?_
 refine cqb h kL fun rY h=>?_
 refine s1 (d:=dG ai (⟨qR,rY⟩:ao)) (ig (FL.cons (y:=qR) (bo cG) rfl rfl (FL.cons (y:=rY) (aV (⟨qR,a6⟩:ao)) rfl rfl (FL.nil _))) aw) ?_
 refine s0 (aE (b':=(⟨qR,rY⟩:ao)) (ak.id _ _) aw) ?_
 refine .nil (hK _ _ (AW.ret ?_))
 cases h
 exact rv1
def iA(aU:ao)(gy:ao):Option ao:=bnd (S:=Bool) (bnd (br aU) fun x1=>cnd (!x1) (some (true)) (bnd (br gy) fun x4=>some (!x4))) fun cZ=>cnd cZ (bnd (fP) fun x8=>some x8) (bnd (n0 aU.vD gy.vD) fun jm=>bnd (iw aU.vD jm) fun iE=>bnd (iw gy.vD jm) fun m4=>bnd (jy aU.vN m4) fun o6=>bnd (jy gy.vN iE) fun pG=>bnd (jz o6 pG) fun yj=>bnd (jy iE gy.vD) fun wZ=>bnd (dX yj wZ) fun Bl=>some Bl)
set_option maxHeartbeats 4000000 in
theorem vf {aU:ao}{gy:ao}{r:ao}(h:iA aU gy=some r):ax Tryz.prog 66 [dG ai aU,dG ai gy] (dG ai r):=by
 refine bC (rs:=[.cell 4 43]) (fun cx hx h0=>?_) Tryz.func66
 unfold iA at h
 refine rs hx fun K hK=>?_
 iterate 2 refine sa ?_
 refine s1 (be (F:=ai.f cG) aw) ?_
 refine .nil (hK _ _ ?_)
 iterate 2 refine AW.seq ?_
 obtain⟨cZ,hy,h⟩:=ae h
 refine jn ((PE cx .normal (fun cZ=>[(2,.pt 0 0),(3,.pt 1 0),(4,.pt 2 0),(15,dB cZ)]) fun cZ=>⟨[(0,dC (ai.f aU)),(1,dC (ai.f gy)),(2,dC (ai.f cG))],[],3⟩) cZ) ?_ ?_
 replace h:=hy
 refine rq hx fun K hK=>?_
 refine s1 (d:=dG ai aU) (aq (ak.id _ _) aw) ?_
 refine scb h cJ fun x1 h=>?_
 iterate 2 refine sa ?_
 rcases az (!x1) with a8|a8
 replace h:=aO a8 h
 iterate 3 refine aG rfl rfl a8 ?_
 refine s1 (ar a8) ?_
 refine .nil (hK _ _ ?_)
 cases h
 exact pe0 h0 [0,1,2]
 replace h:=aP a8 h
 refine g1 (d:=dG ai gy) a8 (aq (ak.id _ _) aw) ?_
 obtain⟨x4,qd,h⟩:=ae h
 refine g1 a8 (bb rfl (cJ qd) (by simp only[cP,dA,bX,bt,bc,bp];exact aC _ _) (lA (bZ _ _) lAn) (.inl rfl)) ?_
 refine ga a8 ?_
 refine s1 (an a8) ?_
 refine .nil (hK _ _ ?_)
 cases h
 exact pe0 h0 [0,1,2]
 rintro ex tm' hp' ⟨rfl,hw⟩
 refine AW.weak hw (cdh h rfl (fun nN h=>?_) (fun nN h=>?_))
 refine rs hx fun K hK=>?_
 refine scb h mu fun x8 h=>?_
 refine s0 (aE (b':=x8) (ak.id _ _) aw) ?_
 refine .nil (hK _ _ (AW.ret ?_))
 cases h
 exact rv1
 refine AW.skip (rs hx fun K hK=>?_)
 refine sa ?_
 refine s1 (aq (aV aU) am) ?_
 refine sa ?_
 refine s1 (aq (aV gy) am) ?_
 refine scb h u6 fun jm h=>?_
 refine s1 (be (F:=aj.f a6) am) ?_
 refine s0 (aE (b':=jm) (ak.id _ _) am) ?_
 refine .nil (hK _ _ (AW.seq ?_))
 obtain⟨iE,vu,h⟩:=ae h
 obtain⟨m4,vt,h⟩:=ae h
 refine jn (PE cx .normal (fun (_:Unit)=>[(2,.pt 0 0),(3,.pt 1 0),(4,.pt 2 0),(6,.pt 3 0),(7,.pt 4 0)]) (fun (_:Unit)=>⟨[(0,dC (ai.f aU)),(1,dC (ai.f gy)),(2,dC (ai.f cG)),(3,dC (aj.f iE)),(4,dC (aj.f m4))],[],5⟩) ()) ?_ ?_
 refine dw (DW.split 8 9 (by decide) ?_ ?_)
 refine dwg [97] [0,1,2,3,4,5,6,7,8,9,10,11] hx (by kernel_rfl) (by kernel_rfl) (by kernel_rfl) fun K hK=>?_
 dsimp only[ez,mZ,na,List.map]
 refine sa ?_
 refine s1 (aq (aV aU) am) ?_
 refine s1 (d:=dG aj jm) (aq (ak.id _ _) am) ?_
 refine cq (kL vu) ?_
 refine sa ?_
 refine s1 (aq (aV gy) am) ?_
 refine s1 (d:=dG aj jm) (aq (ak.id _ _) am) ?_
 refine cq (kL vt) ?_
 iterate 2 refine s1 (be (F:=aj.f a6) am) ?_
 refine s0 (aE (b':=iE) (ak.id _ _) am) ?_
 refine s0 (aE (b':=m4) (ak.id _ _) am) ?_
 exact .nil (hK _ _ (pe0 h0 [0,1,2,4,5]))
 refine dwg [97] [0,1,2,3,4,5,6,7,9,8,10,11] hx (by kernel_rfl) (by kernel_rfl) (by kernel_rfl) fun K hK=>?_
 dsimp only[ez,mZ,na,List.map]
 refine sa ?_
 refine s1 (aq (aV aU) am) ?_
 refine s1 (d:=dG aj jm) (aq (ak.id _ _) am) ?_
 refine cq (kL vu) ?_
 refine sa ?_
 refine s1 (aq (aV gy) am) ?_
 refine s1 (d:=dG aj jm) (aq (ak.id _ _) am) ?_
 refine cq (kL vt) ?_
 iterate 2 refine s1 (be (F:=aj.f a6) am) ?_
 refine s0 (aE (b':=iE) (ak.id _ _) am) ?_
 refine s0 (aE (b':=m4) (ak.id _ _) am) ?_
 exact .nil (hK _ _ (pe0 h0 [0,1,2,5,4]))
 rintro ex tm' hp' ⟨rfl,hw⟩
 refine AW.weak hw (rsd [94,123,93] hx fun K hK=>?_)
 refine sa ?_
 refine s1 (aq (bo aU) am) ?_
 refine s1 (d:=dG aj m4) (aq (ak.id _ _) am) ?_
 refine cqb h mr fun o6 h=>?_
 refine sa ?_
 refine s1 (aq (bo gy) am) ?_
 refine s1 (d:=dG aj iE) (aq (ak.id _ _) am) ?_
 refine cqb h mr fun pG h=>?_
 refine cqb h AJ fun yj h=>?_
 refine s1 (d:=dG aj iE) (aq (ak.id _ _) am) ?_
 refine sa ?_
 refine s1 (aq (aV gy) am) ?_
 refine cqb h mr fun wZ h=>?_
 refine cqb h kS fun Bl h=>?_
 refine s0 (aE (b':=Bl) (ak.id _ _) aw) ?_
 refine .nil (hK _ _ (AW.ret ?_))
 cases h
 exact rv1
def iz(aU:ao)(gy:ao):Option ao:=bnd (S:=Bool) (bnd (br aU) fun x1=>cnd (!x1) (some (true)) (bnd (br gy) fun x4=>some (!x4))) fun cZ=>cnd cZ (bnd (fP) fun x8=>some x8) (bnd (dX aU.vN gy.vD) fun jm=>bnd (dX gy.vN aU.vD) fun iE=>bnd (jy jm.vN iE.vN) fun m4=>bnd (jy jm.vD iE.vD) fun o6=>bnd (S:=Bool) (cnd m4.vBad (some (true)) (some (o6.vBad))) fun bz=>cnd bz (bnd (fP) fun qR=>some qR) (some (⟨m4,o6⟩:ao)))
set_option maxHeartbeats 4000000 in
theorem ve {aU:ao}{gy:ao}{r:ao}(h:iz aU gy=some r):ax Tryz.prog 29 [dG ai aU,dG ai gy] (dG ai r):=by
 refine bC (rs:=[.cell 4 43]) (fun cx hx h0=>?_) Tryz.func29
 unfold iz at h
 refine rs hx fun K hK=>?_
 iterate 2 refine sa ?_
 refine s1 (be (F:=ai.f cG) aw) ?_
 refine .nil (hK _ _ ?_)
 iterate 2 refine AW.seq ?_
 obtain⟨cZ,hy,h⟩:=ae h
 refine jn ((PE cx .normal (fun cZ=>[(2,.pt 0 0),(3,.pt 1 0),(4,.pt 2 0),(16,dB cZ)]) fun cZ=>⟨[(0,dC (ai.f aU)),(1,dC (ai.f gy)),(2,dC (ai.f cG))],[],3⟩) cZ) ?_ ?_
 replace h:=hy
 refine rq hx fun K hK=>?_
 refine s1 (d:=dG ai aU) (aq (ak.id _ _) aw) ?_
 refine scb h cJ fun x1 h=>?_
 iterate 2 refine sa ?_
 rcases az (!x1) with a8|a8
 replace h:=aO a8 h
 iterate 3 refine aG rfl rfl a8 ?_
 refine s1 (ar a8) ?_
 refine .nil (hK _ _ ?_)
 cases h
 exact pe0 h0 [0,1,2]
 replace h:=aP a8 h
 refine g1 (d:=dG ai gy) a8 (aq (ak.id _ _) aw) ?_
 obtain⟨x4,qd,h⟩:=ae h
 refine g1 a8 (bb rfl (cJ qd) (by simp only[cP,dA,bX,bt,bc,bp];exact aC _ _) (lA (bZ _ _) lAn) (.inl rfl)) ?_
 refine ga a8 ?_
 refine s1 (an a8) ?_
 refine .nil (hK _ _ ?_)
 cases h
 exact pe0 h0 [0,1,2]
 rintro ex tm' hp' ⟨rfl,hw⟩
 refine AW.weak hw (cdh h rfl (fun nN h=>?_) (fun nN h=>?_))
 refine rs hx fun K hK=>?_
 refine scb h mu fun x8 h=>?_
 refine s0 (aE (b':=x8) (ak.id _ _) aw) ?_
 refine .nil (hK _ _ (AW.ret ?_))
 cases h
 exact rv1
 refine AW.skip (AW.seq ?_)
 obtain⟨jm,yQ,h⟩:=ae h
 obtain⟨iE,vu,h⟩:=ae h
 refine jn (PE cx .normal (fun (_:Unit)=>[(4,.pt 0 0),(5,.pt 1 0),(6,.pt 2 0)]) (fun (_:Unit)=>⟨[(0,dC (ai.f cG)),(1,dC (ai.f jm)),(2,dC (ai.f iE))],[],3⟩) ()) ?_ ?_
 refine dw (DW.split 10 11 (by decide) ?_ ?_)
 refine dwg [93] [0,1,2,3,4,5,6,7,8,9,10,11,12,13] hx (by kernel_rfl) (by kernel_rfl) (by kernel_rfl) fun K hK=>?_
 dsimp only[ez,mZ,na,List.map]
 refine sa ?_
 refine s1 (aq (bo aU) am) ?_
 refine sa ?_
 refine s1 (aq (aV gy) am) ?_
 refine cq (kS yQ) ?_
 refine sa ?_
 refine s1 (aq (bo gy) am) ?_
 refine sa ?_
 refine s1 (aq (aV aU) am) ?_
 refine cq (kS vu) ?_
 iterate 2 refine s1 (be (F:=ai.f cG) aw) ?_
 refine s0 (aE (b':=jm) (ak.id _ _) aw) ?_
 refine s0 (aE (b':=iE) (ak.id _ _) aw) ?_
 exact .nil (hK _ _ (pe0 h0 [2,3,4]))
 refine dwg [93] [0,1,2,3,4,5,6,7,8,9,11,10,12,13] hx (by kernel_rfl) (by kernel_rfl) (by kernel_rfl) fun K hK=>?_
 dsimp only[ez,mZ,na,List.map]
 refine sa ?_
 refine s1 (aq (bo aU) am) ?_
 refine sa ?_
 refine s1 (aq (aV gy) am) ?_
 refine cq (kS yQ) ?_
 refine sa ?_
 refine s1 (aq (bo gy) am) ?_
 refine sa ?_
 refine s1 (aq (aV aU) am) ?_
 refine cq (kS vu) ?_
 iterate 2 refine s1 (be (F:=ai.f cG) aw) ?_
 refine s0 (aE (b':=jm) (ak.id _ _) aw) ?_
 refine s0 (aE (b':=iE) (ak.id _ _) aw) ?_
 exact .nil (hK _ _ (pe0 h0 [2,4,3]))
 rintro ex tm' hp' ⟨rfl,hw⟩
 refine AW.weak hw (AW.seq ?_)
 obtain⟨m4,vt,h⟩:=ae h
 obtain⟨o6,Mf,h⟩:=ae h
 refine jn (PE cx .normal (fun (_:Unit)=>[(4,.pt 0 0),(7,.pt 1 0),(8,.pt 2 0)]) (fun (_:Unit)=>⟨[(0,dC (ai.f cG)),(1,dC (aj.f m4)),(2,dC (aj.f o6))],[],3⟩) ()) ?_ ?_
 refine dw (DW.split 10 11 (by decide) ?_ ?_)
 refine dwg [94] [0,1,2,3,4,5,6,7,8,9,10,11,12,13] hx (by kernel_rfl) (by kernel_rfl) (by kernel_rfl) fun K hK=>?_
 dsimp only[ez,mZ,na,List.map]
 refine sa ?_
 refine s1 (aq (bo jm) am) ?_
 refine sa ?_
 refine s1 (aq (bo iE) am) ?_
 refine cq (mr vt) ?_
 refine sa ?_
 refine s1 (aq (aV jm) am) ?_
 refine sa ?_
 refine s1 (aq (aV iE) am) ?_
 refine cq (mr Mf) ?_
 iterate 2 refine s1 (be (F:=aj.f a6) am) ?_
 refine s0 (aE (b':=m4) (ak.id _ _) am) ?_
 refine s0 (aE (b':=o6) (ak.id _ _) am) ?_
 exact .nil (hK _ _ (pe0 h0 [0,3,4]))
 refine dwg [94] [0,1,2,3,4,5,6,7,8,9,11,10,12,13] hx (by kernel_rfl) (by kernel_rfl) (by kernel_rfl) fun K hK=>?_
 dsimp only[ez,mZ,na,List.map]
 refine sa ?_
 refine s1 (aq (bo jm) am) ?_
 refine sa ?_
 refine s1 (aq (bo iE) am) ?_
 refine cq (mr vt) ?_
 refine sa ?_
 refine s1 (aq (aV jm) am) ?_
 refine sa ?_
 refine s1 (aq (aV iE) am) ?_
 refine cq (mr Mf) ?_
 iterate 2 refine s1 (be (F:=aj.f a6) am) ?_
 refine s0 (aE (b':=m4) (ak.id _ _) am) ?_
 refine s0 (aE (b':=o6) (ak.id _ _) am) ?_
 exact .nil (hK _ _ (pe0 h0 [0,4,3]))
 rintro ex tm' hp' ⟨rfl,hw⟩
 refine AW.weak hw ?_
 iterate 2 refine AW.seq ?_
 obtain⟨bz,hy,h⟩:=ae h
 refine jn ((PE cx .normal (fun bz=>[(4,.pt 0 0),(7,.pt 1 0),(8,.pt 2 0),(43,dB bz)]) fun bz=>⟨[(0,dC (ai.f cG)),(1,dC (aj.f m4)),(2,dC (aj.f o6))],[],3⟩) bz) ?_ ?_
 replace h:=hy
 refine rq hx fun K hK=>?_
 refine sa ?_
 refine s1 (aT (jt m4) ey) ?_
 refine sa ?_
 rcases az m4.vBad with j4|j4
 replace h:=aO j4 h
 iterate 2 refine aG rfl rfl j4 ?_
 refine s1 (ar j4) ?_
 refine .nil (hK _ _ ?_)
 cases h
 exact pe0 h0 [0,1,2]
 replace h:=aP j4 h
 refine ga j4 ?_
 refine g1 j4 (aT (jt o6) ey) ?_
 refine s1 (an j4) ?_
 refine .nil (hK _ _ ?_)
 cases h
 exact pe0 h0 [0,1,2]
 rintro ex tm' hp' ⟨rfl,hw⟩
 refine AW.weak hw (cdh h rfl (fun t4 h=>?_) (fun t4 h=>?_))
 refine rs hx fun K hK=>?_
 refine scb h mu fun qR h=>?_
 refine s0 (aE (b':=qR) (ak.id _ _) aw) ?_
 refine .nil (hK _ _ (AW.ret ?_))
 cases h
 exact rv1
 refine AW.skip (rs hx fun K hK=>?_)
 refine s1 (d:=dG aj m4) (aq (ak.id _ _) am) ?_
 refine s1 (d:=dG aj o6) (aq (ak.id _ _) am) ?_
 refine s1 (d:=dG ai (⟨m4,o6⟩:ao)) (ig (FL.cons (y:=m4) (bo cG) rfl rfl (FL.cons (y:=o6) (aV (⟨m4,a6⟩:ao)) rfl rfl (FL.nil _))) aw) ?_
 refine s0 (aE (b':=(⟨m4,o6⟩:ao)) (ak.id _ _) aw) ?_
 refine .nil (hK _ _ (AW.ret ?_))
 cases h
 exact rv1
def sk(aU:ao)(gy:ao):Option ao:=bnd (br gy) fun x1=>cnd (!x1) (bnd (fP) fun x4=>some x4) (bnd (dX gy.vD gy.vN) fun x6=>bnd (iz aU x6) fun x8=>some x8)
theorem Hm {aU:ao}{gy:ao}{r:ao}(h:sk aU gy=some r):ax Tryz.prog 153 [dG ai aU,dG ai gy] (dG ai r):=by
 refine bC (rs:=[.cell 4 43]) (fun cx hx h0=>?_) Tryz.func153
 unfold sk at h
 refine rs hx fun K hK=>?_
 iterate 2 refine sa ?_
 refine s1 (be (F:=ai.f cG) aw) ?_
 refine .nil (hK _ _ (AW.seq (rs hx fun K hK=>?_)))
 refine s1 (d:=dG ai gy) (aq (ak.id _ _) aw) ?_
 refine scb h cJ fun x1 h=>?_
 refine sa ?_
 refine .nil (hK _ _ (cdh h rfl (fun a8 h=>?_) (fun a8 h=>?_)))
 refine rs hx fun K hK=>?_
 refine scb h mu fun x4 h=>?_
 refine s0 (aE (b':=x4) (ak.id _ _) aw) ?_
 refine .nil (hK _ _ (AW.ret ?_))
 cases h
 exact rv1
 refine AW.skip (rsd [93,29] hx fun K hK=>?_)
 refine s1 (d:=dG ai aU) (aq (ak.id _ _) aw) ?_
 refine sa ?_
 refine s1 (aq (aV gy) am) ?_
 refine sa ?_
 refine s1 (aq (bo gy) am) ?_
 refine cqb h kS fun x6 h=>?_
 refine cqb h ve fun x8 h=>?_
 refine s0 (aE (b':=x8) (ak.id _ _) aw) ?_
 refine .nil (hK _ _ (AW.ret ?_))
 cases h
 exact rv1
def mI(aU:ao):Option ao:=bnd (br aU) fun x1=>cnd (!x1) (bnd (fP) fun x4=>some x4) (bnd (mA aU.vN) fun x6=>some (⟨x6,aU.vD⟩:ao))
theorem vd {aU:ao}{r:ao}(h:mI aU=some r):ax Tryz.prog 42 [dG ai aU] (dG ai r):=by
 refine bC (rs:=[.cell 2 43]) (fun cx hx h0=>?_) Tryz.func42
 unfold mI at h
 refine rs hx fun K hK=>?_
 refine sa ?_
 refine s1 (be (F:=ai.f cG) aw) ?_
 refine .nil (hK _ _ (AW.seq (rs hx fun K hK=>?_)))
 refine s1 (d:=dG ai aU) (aq (ak.id _ _) aw) ?_
 refine scb h cJ fun x1 h=>?_
 refine sa ?_
 refine .nil (hK _ _ (cdh h rfl (fun a8 h=>?_) (fun a8 h=>?_)))
 refine rs hx fun K hK=>?_
 refine scb h mu fun x4 h=>?_
 refine s0 (aE (b':=x4) (ak.id _ _) aw) ?_
 refine .nil (hK _ _ (AW.ret ?_))
 cases h
 exact rv1
 refine AW.skip (rsd [100] hx fun K hK=>?_)
 refine sa ?_
 refine s1 (aq (bo aU) am) ?_
 refine cqb h u5 fun x6 h=>?_
 refine sa ?_
 refine s1 (aq (aV aU) am) ?_
 refine s1 (d:=dG ai (⟨x6,aU.vD⟩:ao)) (ig (FL.cons (y:=x6) (bo cG) rfl rfl (FL.cons (y:=aU.vD) (aV (⟨x6,a6⟩:ao)) rfl rfl (FL.nil _))) aw) ?_
 refine s0 (aE (b':=(⟨x6,aU.vD⟩:ao)) (ak.id _ _) aw) ?_
 refine .nil (hK _ _ (AW.ret ?_))
 cases h
 exact rv1
def nA(cy:av):Option ao:=bnd (mH) fun x1=>bnd (dX cy x1) fun x3=>some x3
theorem Eg {cy:av}{r:ao}(h:nA cy=some r):ax Tryz.prog 34 [dG aj cy] (dG ai r):=by
 refine bC (rs:=[.cell 2 43]) (fun cx hx h0=>?_) Tryz.func34
 unfold nA at h
 refine rs hx fun K hK=>?_
 refine sa ?_
 refine s1 (be (F:=ai.f cG) aw) ?_
 refine .nil (hK _ _ (rsd [99,93] hx fun K hK=>?_))
 refine s1 (d:=dG aj cy) (aq (ak.id _ _) am) ?_
 refine cqb h vb fun x1 h=>?_
 refine cqb h kS fun x3 h=>?_
 refine s0 (aE (b':=x3) (ak.id _ _) aw) ?_
 refine .nil (hK _ _ (AW.ret ?_))
 cases h
 exact rv1
def pl(cy:Int):Option ao:=bnd (g5 cy) fun x1=>bnd (nA x1) fun x3=>some x3
theorem B7 {cy:Int}{r:ao}(h:pl cy=some r):ax Tryz.prog 28 [dI .i64 cy] (dG ai r):=by
 refine bC (rs:=[.cell 2 43]) (fun cx hx h0=>?_) Tryz.func28
 unfold pl at h
 refine rs hx fun K hK=>?_
 refine s1 (be (F:=ai.f cG) aw) ?_
 refine .nil (hK _ _ (rs hx fun K hK=>?_))
 refine sa ?_
 refine scb h qS fun x1 h=>?_
 refine scb h Eg fun x3 h=>?_
 refine s0 (aE (b':=x3) (ak.id _ _) aw) ?_
 refine .nil (hK _ _ (AW.ret ?_))
 cases h
 exact rv1
def lb(aU:ao):Option Int:=bnd (br aU) fun x1=>cnd (!x1) (some (0:Int)) (bnd (fG aU.vN) fun x4=>some x4)
theorem tO {aU:ao}{r:Int}(h:lb aU=some r):ax Tryz.prog 30 [dG ai aU] (dI .i64 r):=by
 refine bC (rs:=[.tmp 2]) (fun cx hx h0=>?_) Tryz.func30
 unfold lb at h
 refine ra hx ?_
 refine AW.seq (rs hx fun K hK=>?_)
 refine s1 (d:=dG ai aU) (aq (ak.id _ _) aw) ?_
 refine scb h cJ fun x1 h=>?_
 refine sa ?_
 refine .nil (hK _ _ (cdh h rfl (fun a8 h=>?_) (fun a8 h=>?_)))
 refine ra hx ?_
 refine AW.ret ?_
 cases h
 exact rv1
 refine AW.skip (rs hx fun K hK=>?_)
 refine sa ?_
 refine s1 (aq (bo aU) am) ?_
 refine scb h kQ fun x4 h=>?_
 refine sa ?_
 refine .nil (hK _ _ (AW.ret ?_))
 cases h
 exact rv1
def si(aU:ao)(gy:ao):Option ao:=bnd (mI gy) fun x1=>bnd (iA aU x1) fun x3=>some x3
theorem Hl {aU:ao}{gy:ao}{r:ao}(h:si aU gy=some r):ax Tryz.prog 76 [dG ai aU,dG ai gy] (dG ai r):=by
 refine bC (rs:=[.cell 4 43]) (fun cx hx h0=>?_) Tryz.func76
 unfold si at h
 refine rs hx fun K hK=>?_
 iterate 2 refine sa ?_
 refine s1 (be (F:=ai.f cG) aw) ?_
 refine .nil (hK _ _ (rsd [42,66] hx fun K hK=>?_))
 refine s1 (d:=dG ai aU) (aq (ak.id _ _) aw) ?_
 refine s1 (d:=dG ai gy) (aq (ak.id _ _) aw) ?_
 refine cqb h vd fun x1 h=>?_
 refine cqb h vf fun x3 h=>?_
 refine s0 (aE (b':=x3) (ak.id _ _) aw) ?_
 refine .nil (hK _ _ (AW.ret ?_))
 cases h
 exact rv1
def jj :Int×ao×ao→Option ((Int×ao×ao)⊕Int):=fun (zw,uO,uN)=>bnd (iw uO.vN uO.vD) fun jm=>bnd (iw uN.vN uN.vD) fun iE=>bnd (pS jm iE) fun m4=>cnd (decide (m4≠(0:Int))) (some (.inr (i64.wrap (zw*m4)))) (bnd (nZ uO.vN uO.vD) fun nT=>bnd (nZ uN.vN uN.vD) fun rP=>bnd (fG nT) fun qR=>bnd (fG rP) fun rY=>bnd (S:=Bool) (cnd (decide (qR=(0:Int))) (some (true)) (some (decide (rY=(0:Int))))) fun tq=>cnd tq (bnd (some (i64.wrap (zw*(i64.wrap (qR - rY))))) fun wY=>some (.inr wY)) (some (.inl (i64.wrap (0 - zw),(⟨uO.vD,nT⟩:ao),(⟨uN.vD,rP⟩:ao)))))
def jO(aU:ao)(gy:ao):Option Int:=bnd (br aU) fun x1=>bnd (br gy) fun x3=>bnd (S:=Bool) (cnd (!x1) (some (!x3)) (some (false))) fun aZ=>cnd aZ (some (0:Int)) (cnd (!x1) (some (-1:Int)) (cnd (!x3) (some (1:Int)) (bnd (bL (jj) ((1:Int),aU,gy)) fun ul=>some ul)))
set_option maxHeartbeats 4000000 in
theorem r6 {aU:ao}{gy:ao}{r:Int}(h:jO aU gy=some r):ax Tryz.prog 32 [dG ai aU,dG ai gy] (dI .i64 r):=by
 refine bC (rs:=[.tmp 4]) (fun cx hx h0=>?_) Tryz.func32
 unfold jO at h
 refine ra hx ?_
 refine AW.scope (rsd [92] hx fun K hK=>?_)
 refine s1 (d:=dG ai aU) (aq (ak.id _ _) aw) ?_
 refine cqb h cJ fun x1 h=>?_
 refine s1 (d:=dG ai gy) (aq (ak.id _ _) aw) ?_
 refine cqb h cJ fun x3 h=>?_
 iterate 2 refine sa ?_
 refine .nil (hK _ _ (AW.seq (AW.block (AW.seq ?_))))
 obtain⟨aZ,hy,h⟩:=ae h
 refine jn ((PE cx .normal (fun aZ=>[(2,.pt 0 0),(3,.pt 1 0),(5,dB x1),(6,dB x3),(15,dB aZ)]) fun aZ=>⟨[(0,dC (ai.f aU)),(1,dC (ai.f gy))],[],2⟩) aZ) ?_ ?_
 replace h:=hy
 refine rq hx fun K hK=>?_
 iterate 3 refine sa ?_
 rcases az (!x1) with dy|dy
 replace h:=aO dy h
 iterate 2 refine ga dy ?_
 refine s1 (ar dy) ?_
 refine sa ?_
 refine .nil (hK _ _ ?_)
 cases h
 exact pe0 h0 [0,1]
 replace h:=aP dy h
 iterate 2 refine aG rfl rfl dy ?_
 refine s1 (an dy) ?_
 refine sa ?_
 refine .nil (hK _ _ ?_)
 cases h
 exact pe0 h0 [0,1]
 rintro ex tm' hp' ⟨rfl,hw⟩
 refine AW.weak hw (cdh h rfl (fun nN h=>?_) (fun nN h=>?_))
 refine ra hx ?_
 refine AW.ret ?_
 cases h
 exact rv1
 refine ra hx ?_
 refine cdh h rfl (fun ju h=>?_) (fun ju h=>?_)
 refine ra hx ?_
 refine AW.ret ?_
 cases h
 exact rv1
 refine ra hx ?_
 refine cdh h rfl (fun wr h=>?_) (fun wr h=>?_)
 refine ra hx ?_
 refine AW.ret ?_
 cases h
 exact rv1
 refine AW.skip (ra hx ?_)
 refine AW.seq (AW.label (AW.seq (AW.block ?_)))
 obtain⟨ul,hy,h⟩:=ae h
 refine lp (S:=Int×ao×ao) (X:=Int) (fun (zw,uO,uN)=>[(2,.pt 0 0),(3,.pt 1 0),(7,dI .i64 zw)]) (fun (zw,uO,uN)=>⟨[(0,dC (ai.f uO)),(1,dC (ai.f uN))],[],2⟩) (PE cx (.exit 1) (fun ul=>[(7,dI .i64 ul)]) fun ul=>⟨[],[],0⟩) hy ?_ ?_ ?_
 exact wk h0 [0,1] (wR rfl (wR rfl (wR rfl wTn))) (vC rfl (vC rfl wVn)) wLn
 clear hy h
 rintro⟨zw,uO,uN⟩ y h
 dsimp only[jj] at h
 refine AW.block (AW.seq (rsd [97,96] hx fun K hK=>?_))
 refine sa ?_
 refine s1 (aq (bo uO) am) ?_
 refine sa ?_
 refine s1 (aq (aV uO) am) ?_
 refine cqb h kL fun jm h=>?_
 refine sa ?_
 refine s1 (aq (bo uN) am) ?_
 refine sa ?_
 refine s1 (aq (aV uN) am) ?_
 refine cqb h kL fun iE h=>?_
 refine cqb h He fun m4 h=>?_
 refine sa ?_
 refine .nil (hK _ _ (ra hx ?_))
 refine cdh h rfl (fun oz h=>?_) (fun oz h=>?_)
 refine ra hx ?_
 refine AW.exit ?_
 try dsimp only
 try simp only[aS,reduceIte,Nat.reduceEqDiff,reduceCtorEq]
 cases h
 exact PS.r ⟨by nofun,PE.i (wk h0 [] (wR rfl wTn) wVn wLn)⟩
 refine AW.skip (AW.seq ?_)
 obtain⟨nT,ta,h⟩:=ae h
 obtain⟨rP,wN,h⟩:=ae h
 refine jn (PE cx .normal (fun (_:Unit)=>[(2,.pt 0 0),(3,.pt 1 0),(7,dI .i64 zw)]) (fun (_:Unit)=>⟨[(0,dC (ai.f (⟨uO.vD,nT⟩:ao))),(1,dC (ai.f (⟨uN.vD,rP⟩:ao)))],[],2⟩) ()) ?_ ?_
 refine dw (DW.split 9 16 (by decide) ?_ ?_)
 refine dwg [98] [0,1,2,3,4,5,6,7,8,9,10,11,12,13,14,15,16,17] hx (by kernel_rfl) (by kernel_rfl) (by kernel_rfl) fun K hK=>?_
 dsimp only[ez,mZ,na,List.map]
 refine sa ?_
 refine s1 (aq (aV uO) am) ?_
 refine sa ?_
 refine s1 (aq (bo uO) am) ?_
 refine sa ?_
 refine s1 (aq (aV uO) am) ?_
 refine cq (rZ ta) ?_
 refine s1 (d:=dG ai (⟨uO.vD,nT⟩:ao)) (ig (FL.cons (y:=uO.vD) (bo cG) rfl rfl (FL.cons (y:=nT) (aV (⟨uO.vD,a6⟩:ao)) rfl rfl (FL.nil _))) aw) ?_
 refine sa ?_
 refine s1 (aq (aV uN) am) ?_
 refine sa ?_
 refine s1 (aq (bo uN) am) ?_
 refine sa ?_
 refine s1 (aq (aV uN) am) ?_
 refine cq (rZ wN) ?_
 refine s1 (d:=dG ai (⟨uN.vD,rP⟩:ao)) (ig (FL.cons (y:=uN.vD) (bo cG) rfl rfl (FL.cons (y:=rP) (aV (⟨uN.vD,a6⟩:ao)) rfl rfl (FL.nil _))) aw) ?_
 refine s0 (aE (b':=(⟨uO.vD,nT⟩:ao)) (ak.id _ _) aw) ?_
 refine s0 (aE (b':=(⟨uN.vD,rP⟩:ao)) (ak.id _ _) aw) ?_
 exact .nil (hK _ _ (pe0 h0 [0,1]))
 refine dwg [98] [0,1,2,3,4,5,6,7,8,10,11,12,13,14,16,9,15,17] hx (by kernel_rfl) (by kernel_rfl) (by kernel_rfl) fun K hK=>?_
 dsimp only[ez,mZ,na,List.map]
 refine sa ?_
 refine s1 (aq (aV uO) am) ?_
 refine sa ?_
 refine s1 (aq (bo uO) am) ?_
 refine sa ?_
 refine s1 (aq (aV uO) am) ?_
 refine cq (rZ ta) ?_
 refine s1 (d:=dG ai (⟨uO.vD,nT⟩:ao)) (ig (FL.cons (y:=uO.vD) (bo cG) rfl rfl (FL.cons (y:=nT) (aV (⟨uO.vD,a6⟩:ao)) rfl rfl (FL.nil _))) aw) ?_
 iterate 2 refine sa ?_
 refine s1 (aq (bo uN) am) ?_
 refine sa ?_
 refine s1 (aq (aV uN) am) ?_
 refine cq (rZ wN) ?_
 refine s0 (aE (b':=(⟨uO.vD,nT⟩:ao)) (ak.id _ _) aw) ?_
 refine s1 (aq (aV uN) am) ?_
 refine s1 (d:=dG ai (⟨uN.vD,rP⟩:ao)) (ig (FL.cons (y:=uN.vD) (bo cG) rfl rfl (FL.cons (y:=rP) (aV (⟨uN.vD,a6⟩:ao)) rfl rfl (FL.nil _))) aw) ?_
 refine s0 (aE (b':=(⟨uN.vD,rP⟩:ao)) (ak.id _ _) aw) ?_
 exact .nil (hK _ _ (pe0 h0 [0,1]))
 rintro ex tm' hp' ⟨rfl,hw⟩
 refine AW.weak hw (rsd [95] hx fun K hK=>?_)
 refine sa ?_
 refine s1 (aq (aV (⟨uO.vD,nT⟩:ao)) am) ?_
 refine cqb h kQ fun qR h=>?_
 refine sa ?_
 refine s1 (aq (aV (⟨uN.vD,rP⟩:ao)) am) ?_
 refine cqb h kQ fun rY h=>?_
 iterate 2 refine sa ?_
 refine .nil (hK _ _ ?_)
 iterate 2 refine AW.seq ?_
 obtain⟨tq,hy,h⟩:=ae h
 refine jn ((PE cx .normal (fun tq=>[(2,.pt 0 0),(3,.pt 1 0),(7,dI .i64 zw),(9,dI .i64 qR),(10,dI .i64 rY),(71,dB tq)]) fun tq=>⟨[(0,dC (ai.f (⟨uO.vD,nT⟩:ao))),(1,dC (ai.f (⟨uN.vD,rP⟩:ao)))],[],2⟩) tq) ?_ ?_
 replace h:=hy
 refine rq hx fun K hK=>?_
 iterate 3 refine sa ?_
 rcases az (decide (qR=(0:Int))) with vz|vz
 replace h:=aO vz h
 iterate 2 refine aG rfl rfl vz ?_
 refine s1 (ar vz) ?_
 refine .nil (hK _ _ ?_)
 cases h
 exact pe0 h0 [0,1]
 replace h:=aP vz h
 iterate 2 refine ga vz ?_
 refine s1 (an vz) ?_
 refine .nil (hK _ _ ?_)
 cases h
 exact pe0 h0 [0,1]
 rintro ex tm' hp' ⟨rfl,hw⟩
 refine AW.weak hw (cdh h rfl (fun Pk h=>?_) (fun Pk h=>?_))
 refine rs hx fun K hK=>?_
 iterate 5 refine sa ?_
 obtain⟨wY,Ox,h⟩:=ae h
 replace Ox:=bW Ox
 refine s2 (d2:=dI .i64 wY) mp (gM (congrArg (dI .i64) Ox)) ?_
 refine .nil (hK _ _ (AW.exit ?_))
 try dsimp only
 try simp only[aS,reduceIte,Nat.reduceEqDiff,reduceCtorEq]
 cases h
 exact PS.r ⟨by nofun,PE.i (wk h0 [] (wR rfl wTn) wVn wLn)⟩
 refine AW.skip (rb hx ?_)
 cases h
 exact PS.l (pe0 h0 [0,1])
 rintro ex tm' hp' ⟨rfl,hw⟩
 try dsimp only
 try simp only[aS,reduceIte,Nat.reduceEqDiff,reduceCtorEq]
 refine AW.weak hw (ra hx ?_)
 refine AW.ret ?_
 cases h
 exact rv1
def mE :Option av:=bnd (fJ (1:Int)) fun x1=>some x1
theorem u9  {r:av}(h:mE=some r):ax Tryz.prog 125 [] (dG aj r):=by
 refine bC (rs:=[.cell 0 41]) (fun cx hx h0=>?_) Tryz.func125
 unfold mE at h
 refine rs hx fun K hK=>?_
 refine s1 (be (F:=aj.f a6) am) ?_
 refine .nil (hK _ _ (rs hx fun K hK=>?_))
 refine scb h jS fun x1 h=>?_
 refine s0 (aE (b':=x1) (ak.id _ _) am) ?_
 refine .nil (hK _ _ (AW.ret ?_))
 cases h
 exact rv1
def bT(aU:ao):Option Bool:=bnd (S:=Bool) (bnd (bk aU.vN) fun x1=>cnd (!x1) (some (true)) (bnd (bk aU.vD) fun x4=>some (!x4))) fun cZ=>cnd cZ (some false) (bnd (S:=Bool) (bnd (fe aU.vD) fun x8=>cnd (decide ((0:Int)<x8)) (bnd (mG aU.vN aU.vD) fun o7=>bnd (mE) fun nD=>some (decide (o7=nD))) (some (false))) fun lO=>some lO)
theorem eJ {aU:ao}{r:Bool}(h:bT aU=some r):ax Tryz.prog 89 [dG ai aU] (dB r):=by
 refine bC (rs:=[.tmp 2]) (fun cx hx h0=>?_) Tryz.func89
 unfold bT at h
 refine ra hx ?_
 iterate 2 refine AW.seq ?_
 obtain⟨cZ,hy,h⟩:=ae h
 refine jn ((PE cx .normal (fun cZ=>[(1,.pt 0 0),(12,dB cZ)]) fun cZ=>⟨[(0,dC (ai.f aU))],[],1⟩) cZ) ?_ ?_
 replace h:=hy
 refine rq hx fun K hK=>?_
 refine sa ?_
 refine s1 (aq (bo aU) am) ?_
 refine scb h bS fun x1 h=>?_
 iterate 2 refine sa ?_
 rcases az (!x1) with a8|a8
 replace h:=aO a8 h
 iterate 4 refine aG rfl rfl a8 ?_
 refine s1 (ar a8) ?_
 refine .nil (hK _ _ ?_)
 cases h
 exact pe0 h0 [0]
 replace h:=aP a8 h
 refine ga a8 ?_
 refine g1 a8 (aq (aV aU) am) ?_
 obtain⟨x4,qd,h⟩:=ae h
 refine g1 a8 (bb rfl (bS qd) (by simp only[cP,dA,bX,bt,bc,bp];exact aC _ _) (lA (bZ _ _) lAn) (.inl rfl)) ?_
 refine ga a8 ?_
 refine s1 (an a8) ?_
 refine .nil (hK _ _ ?_)
 cases h
 exact pe0 h0 [0]
 rintro ex tm' hp' ⟨rfl,hw⟩
 refine AW.weak hw (cdh h rfl (fun nN h=>?_) (fun nN h=>?_))
 refine ra hx ?_
 refine AW.ret ?_
 cases h
 exact rv1
 refine AW.skip (AW.seq ?_)
 obtain⟨lO,hy,h⟩:=ae h
 refine jn ((PE cx .normal (fun lO=>[(2,dB lO)]) fun lO=>⟨[],[],0⟩) lO) ?_ ?_
 replace h:=hy
 refine rq hx fun K hK=>?_
 refine sa ?_
 refine s1 (aq (aV aU) am) ?_
 refine scb h jq fun x8 h=>?_
 iterate 2 refine sa ?_
 rcases az (decide ((0:Int)<x8)) with dT|dT
 replace h:=aO dT h
 refine ga dT ?_
 refine g1 dT (aq (bo aU) am) ?_
 refine ga dT ?_
 refine g1 dT (aq (aV aU) am) ?_
 obtain⟨o7,Gj,h⟩:=ae h
 refine g1 dT (bb rfl (va Gj) (by simp only[cP,dA,bX,bt,bc,bp];exact⟨aC _ _,aC _ _⟩) (lA (bZ _ _) (lA (bZ _ _) lAn)) (.inl (ii _ _))) ?_
 obtain⟨nD,xQ,h⟩:=ae h
 refine g1 dT (bb rfl (u9 xQ) rfl lAn (.inl (ii _ _))) ?_
 refine g1 dT (AF tok 3 (by decide) gR am) ?_
 refine s1 (ar dT) ?_
 refine sa ?_
 refine .nil (hK _ _ ?_)
 cases h
 exact pe0 h0 []
 replace h:=aP dT h
 iterate 7 refine aG rfl rfl dT ?_
 refine s1 (an dT) ?_
 refine sa ?_
 refine .nil (hK _ _ ?_)
 cases h
 exact pe0 h0 []
 rintro ex tm' hp' ⟨rfl,hw⟩
 refine AW.weak hw (AW.ret ?_)
 cases h
 exact rv1
def jF :Option ao:=bnd (eY) fun x1=>bnd (mE) fun x3=>some (⟨x1,x3⟩:ao)
theorem r5  {r:ao}(h:jF=some r):ax Tryz.prog 67 [] (dG ai r):=by
 refine bC (rs:=[.cell 0 43]) (fun cx hx h0=>?_) Tryz.func67
 unfold jF at h
 refine rs hx fun K hK=>?_
 refine s1 (be (F:=ai.f cG) aw) ?_
 refine .nil (hK _ _ (rs hx fun K hK=>?_))
 refine scb h ir fun x1 h=>?_
 refine scb h u9 fun x3 h=>?_
 refine s1 (d:=dG ai (⟨x1,x3⟩:ao)) (ig (FL.cons (y:=x1) (bo cG) rfl rfl (FL.cons (y:=x3) (aV (⟨x1,a6⟩:ao)) rfl rfl (FL.nil _))) aw) ?_
 refine s0 (aE (b':=(⟨x1,x3⟩:ao)) (ak.id _ _) aw) ?_
 refine .nil (hK _ _ (AW.ret ?_))
 cases h
 exact rv1
def fc(cy:av)(tV:av):Option ao:=bnd (S:=Bool) (bnd (bk cy) fun x1=>cnd (!x1) (some (true)) (bnd (bk tV) fun x4=>cnd (!x4) (some (true)) (bnd (fe tV) fun x7=>some (decide (x7=(0:Int)))))) fun cZ=>cnd cZ (bnd (jF) fun o7=>some o7) (bnd (mG cy tV) fun nD=>bnd (S:=av) (bnd (fe tV) fun BC=>cnd (decide (BC<(0:Int))) (bnd (pU nD) fun pG=>some (pG)) (some (nD))) fun dp=>bnd (iy cy dp) fun qR=>bnd (iy tV dp) fun rY=>some (⟨qR,rY⟩:ao))
set_option maxHeartbeats 4000000 in
theorem mO {cy:av}{tV:av}{r:ao}(h:fc cy tV=some r):ax Tryz.prog 126 [dG aj cy,dG aj tV] (dG ai r):=by
 refine bC (rs:=[.cell 4 43]) (fun cx hx h0=>?_) Tryz.func126
 unfold fc at h
 refine rs hx fun K hK=>?_
 iterate 2 refine sa ?_
 refine s1 (be (F:=ai.f cG) aw) ?_
 refine .nil (hK _ _ ?_)
 iterate 2 refine AW.seq ?_
 obtain⟨cZ,hy,h⟩:=ae h
 refine jn ((PE cx .normal (fun cZ=>[(2,.pt 0 0),(3,.pt 1 0),(4,.pt 2 0),(18,dB cZ)]) fun cZ=>⟨[(0,dC (aj.f cy)),(1,dC (aj.f tV)),(2,dC (ai.f cG))],[],3⟩) cZ) ?_ ?_
 replace h:=hy
 refine rq hx fun K hK=>?_
 refine s1 (d:=dG aj cy) (aq (ak.id _ _) am) ?_
 refine scb h bS fun x1 h=>?_
 iterate 2 refine sa ?_
 rcases az (!x1) with a8|a8
 replace h:=aO a8 h
 iterate 3 refine aG rfl rfl a8 ?_
 refine s1 (ar a8) ?_
 refine sa ?_
 iterate 3 refine aG rfl rfl rfl ?_
 refine s1 (ar rfl) ?_
 refine .nil (hK _ _ ?_)
 cases h
 exact pe0 h0 [0,1,2]
 replace h:=aP a8 h
 refine g1 (d:=dG aj tV) a8 (aq (ak.id _ _) am) ?_
 obtain⟨x4,qd,h⟩:=ae h
 refine g1 a8 (bb rfl (bS qd) (by simp only[cP,dA,bX,bt,bc,bp];exact aC _ _) (lA (bZ _ _) lAn) (.inl rfl)) ?_
 refine ga a8 ?_
 refine s1 (an a8) ?_
 refine sa ?_
 rcases az (!x4) with fC|fC
 replace h:=aO fC h
 iterate 3 refine aG rfl rfl fC ?_
 refine s1 (ar fC) ?_
 refine .nil (hK _ _ ?_)
 cases h
 exact pe0 h0 [0,1,2]
 replace h:=aP fC h
 refine g1 (d:=dG aj tV) fC (aq (ak.id _ _) am) ?_
 obtain⟨x7,Gg,h⟩:=ae h
 refine g1 fC (bb rfl (jq Gg) (by simp only[cP,dA,bX,bt,bc,bp];exact aC _ _) (lA (bZ _ _) lAn) (.inl rfl)) ?_
 refine ga fC ?_
 refine s1 (an fC) ?_
 refine .nil (hK _ _ ?_)
 cases h
 exact pe0 h0 [0,1,2]
 rintro ex tm' hp' ⟨rfl,hw⟩
 refine AW.weak hw (cdh h rfl (fun dT h=>?_) (fun dT h=>?_))
 refine rs hx fun K hK=>?_
 refine scb h r5 fun o7 h=>?_
 refine s0 (aE (b':=o7) (ak.id _ _) aw) ?_
 refine .nil (hK _ _ (AW.ret ?_))
 cases h
 exact rv1
 refine AW.skip (rs hx fun K hK=>?_)
 refine s1 (d:=dG aj cy) (aq (ak.id _ _) am) ?_
 refine s1 (d:=dG aj tV) (aq (ak.id _ _) am) ?_
 refine scb h va fun nD h=>?_
 refine s1 (be (F:=aj.f a6) am) ?_
 refine s0 (aE (b':=nD) (ak.id _ _) am) ?_
 refine .nil (hK _ _ (AW.seq ?_))
 obtain⟨dp,hy,h⟩:=ae h
 refine jn ((PE cx .normal (fun dp=>[(2,.pt 0 0),(3,.pt 1 0),(4,.pt 2 0),(5,.pt 3 0)]) fun dp=>⟨[(0,dC (aj.f cy)),(1,dC (aj.f tV)),(2,dC (ai.f cG)),(3,dC (aj.f dp))],[],4⟩) dp) ?_ ?_
 replace h:=hy
 refine rs hx fun K hK=>?_
 refine s1 (d:=dG aj tV) (aq (ak.id _ _) am) ?_
 refine scb h jq fun BC h=>?_
 refine sa ?_
 refine .nil (hK _ _ (cdh h rfl (fun vG h=>?_) (fun vG h=>?_)))
 refine rq hx fun K hK=>?_
 refine s1 (d:=dG aj nD) (aq (ak.id _ _) am) ?_
 refine scb h Hi fun pG h=>?_
 refine s0 (aE (b':=pG) (ak.id _ _) am) ?_
 refine .nil (hK _ _ ?_)
 cases h
 exact pe0 h0 [0,1,2,3]
 refine AW.skip ?_
 cases h
 exact pe0 h0 [0,1,2,3]
 rintro ex tm' hp' ⟨rfl,hw⟩
 refine AW.weak hw (rsd [128] hx fun K hK=>?_)
 refine s1 (d:=dG aj cy) (aq (ak.id _ _) am) ?_
 refine s1 (d:=dG aj dp) (aq (ak.id _ _) am) ?_
 refine cqb h nU fun qR h=>?_
 refine s1 (d:=dG aj tV) (aq (ak.id _ _) am) ?_
 refine s1 (d:=dG aj dp) (aq (ak.id _ _) am) ?_
 refine cqb h nU fun rY h=>?_
 refine s1 (d:=dG ai (⟨qR,rY⟩:ao)) (ig (FL.cons (y:=qR) (bo cG) rfl rfl (FL.cons (y:=rY) (aV (⟨qR,a6⟩:ao)) rfl rfl (FL.nil _))) aw) ?_
 refine s0 (aE (b':=(⟨qR,rY⟩:ao)) (ak.id _ _) aw) ?_
 refine .nil (hK _ _ (AW.ret ?_))
 cases h
 exact rv1
def jG(aU:ao)(gy:ao):Option ao:=bnd (S:=Bool) (bnd (bT aU) fun x1=>cnd (!x1) (some (true)) (bnd (bT gy) fun x4=>some (!x4))) fun cZ=>cnd cZ (bnd (jF) fun x8=>some x8) (bnd (mG aU.vD gy.vD) fun jm=>bnd (iy aU.vD jm) fun iE=>bnd (iy gy.vD jm) fun m4=>bnd (jL aU.vN m4) fun o6=>bnd (jL gy.vN iE) fun pG=>bnd (kN o6 pG) fun yj=>bnd (jL iE gy.vD) fun wZ=>bnd (fc yj wZ) fun Bl=>some Bl)
set_option maxHeartbeats 4000000 in
theorem Hh {aU:ao}{gy:ao}{r:ao}(h:jG aU gy=some r):ax Tryz.prog 69 [dG ai aU,dG ai gy] (dG ai r):=by
 refine bC (rs:=[.cell 4 43]) (fun cx hx h0=>?_) Tryz.func69
 unfold jG at h
 refine rs hx fun K hK=>?_
 iterate 2 refine sa ?_
 refine s1 (be (F:=ai.f cG) aw) ?_
 refine .nil (hK _ _ ?_)
 iterate 2 refine AW.seq ?_
 obtain⟨cZ,hy,h⟩:=ae h
 refine jn ((PE cx .normal (fun cZ=>[(2,.pt 0 0),(3,.pt 1 0),(4,.pt 2 0),(15,dB cZ)]) fun cZ=>⟨[(0,dC (ai.f aU)),(1,dC (ai.f gy)),(2,dC (ai.f cG))],[],3⟩) cZ) ?_ ?_
 replace h:=hy
 refine rq hx fun K hK=>?_
 refine s1 (d:=dG ai aU) (aq (ak.id _ _) aw) ?_
 refine scb h eJ fun x1 h=>?_
 iterate 2 refine sa ?_
 rcases az (!x1) with a8|a8
 replace h:=aO a8 h
 iterate 3 refine aG rfl rfl a8 ?_
 refine s1 (ar a8) ?_
 refine .nil (hK _ _ ?_)
 cases h
 exact pe0 h0 [0,1,2]
 replace h:=aP a8 h
 refine g1 (d:=dG ai gy) a8 (aq (ak.id _ _) aw) ?_
 obtain⟨x4,qd,h⟩:=ae h
 refine g1 a8 (bb rfl (eJ qd) (by simp only[cP,dA,bX,bt,bc,bp];exact aC _ _) (lA (bZ _ _) lAn) (.inl rfl)) ?_
 refine ga a8 ?_
 refine s1 (an a8) ?_
 refine .nil (hK _ _ ?_)
 cases h
 exact pe0 h0 [0,1,2]
 rintro ex tm' hp' ⟨rfl,hw⟩
 refine AW.weak hw (cdh h rfl (fun nN h=>?_) (fun nN h=>?_))
 refine rs hx fun K hK=>?_
 refine scb h r5 fun x8 h=>?_
 refine s0 (aE (b':=x8) (ak.id _ _) aw) ?_
 refine .nil (hK _ _ (AW.ret ?_))
 cases h
 exact rv1
 refine AW.skip (rs hx fun K hK=>?_)
 refine sa ?_
 refine s1 (aq (aV aU) am) ?_
 refine sa ?_
 refine s1 (aq (aV gy) am) ?_
 refine scb h va fun jm h=>?_
 refine s1 (be (F:=aj.f a6) am) ?_
 refine s0 (aE (b':=jm) (ak.id _ _) am) ?_
 refine .nil (hK _ _ (rs hx fun K hK=>?_))
 refine sa ?_
 refine s1 (aq (aV aU) am) ?_
 refine s1 (d:=dG aj jm) (aq (ak.id _ _) am) ?_
 refine scb h nU fun iE h=>?_
 refine s1 (be (F:=aj.f a6) am) ?_
 refine s0 (aE (b':=iE) (ak.id _ _) am) ?_
 refine .nil (hK _ _ (rs hx fun K hK=>?_))
 refine sa ?_
 refine s1 (aq (aV gy) am) ?_
 refine s1 (d:=dG aj jm) (aq (ak.id _ _) am) ?_
 refine scb h nU fun m4 h=>?_
 refine s1 (be (F:=aj.f a6) am) ?_
 refine s0 (aE (b':=m4) (ak.id _ _) am) ?_
 refine .nil (hK _ _ (rsd [130,129,126] hx fun K hK=>?_))
 refine sa ?_
 refine s1 (aq (bo aU) am) ?_
 refine s1 (d:=dG aj m4) (aq (ak.id _ _) am) ?_
 refine cqb h pH fun o6 h=>?_
 refine sa ?_
 refine s1 (aq (bo gy) am) ?_
 refine s1 (d:=dG aj iE) (aq (ak.id _ _) am) ?_
 refine cqb h pH fun pG h=>?_
 refine cqb h Hj fun yj h=>?_
 refine s1 (d:=dG aj iE) (aq (ak.id _ _) am) ?_
 refine sa ?_
 refine s1 (aq (aV gy) am) ?_
 refine cqb h pH fun wZ h=>?_
 refine cqb h mO fun Bl h=>?_
 refine s0 (aE (b':=Bl) (ak.id _ _) aw) ?_
 refine .nil (hK _ _ (AW.ret ?_))
 cases h
 exact rv1
def jE(aU:ao)(gy:ao):Option ao:=bnd (S:=Bool) (bnd (bT aU) fun x1=>cnd (!x1) (some (true)) (bnd (bT gy) fun x4=>some (!x4))) fun cZ=>cnd cZ (bnd (jF) fun x8=>some x8) (bnd (fc aU.vN gy.vD) fun jm=>bnd (fc gy.vN aU.vD) fun iE=>bnd (jL jm.vN iE.vN) fun m4=>bnd (jL jm.vD iE.vD) fun o6=>bnd (fc m4 o6) fun pG=>some pG)
set_option maxHeartbeats 4000000 in
theorem Hg {aU:ao}{gy:ao}{r:ao}(h:jE aU gy=some r):ax Tryz.prog 70 [dG ai aU,dG ai gy] (dG ai r):=by
 refine bC (rs:=[.cell 4 43]) (fun cx hx h0=>?_) Tryz.func70
 unfold jE at h
 refine rs hx fun K hK=>?_
 iterate 2 refine sa ?_
 refine s1 (be (F:=ai.f cG) aw) ?_
 refine .nil (hK _ _ ?_)
 iterate 2 refine AW.seq ?_
 obtain⟨cZ,hy,h⟩:=ae h
 refine jn ((PE cx .normal (fun cZ=>[(2,.pt 0 0),(3,.pt 1 0),(4,.pt 2 0),(16,dB cZ)]) fun cZ=>⟨[(0,dC (ai.f aU)),(1,dC (ai.f gy)),(2,dC (ai.f cG))],[],3⟩) cZ) ?_ ?_
 replace h:=hy
 refine rq hx fun K hK=>?_
 refine s1 (d:=dG ai aU) (aq (ak.id _ _) aw) ?_
 refine scb h eJ fun x1 h=>?_
 iterate 2 refine sa ?_
 rcases az (!x1) with a8|a8
 replace h:=aO a8 h
 iterate 3 refine aG rfl rfl a8 ?_
 refine s1 (ar a8) ?_
 refine .nil (hK _ _ ?_)
 cases h
 exact pe0 h0 [0,1,2]
 replace h:=aP a8 h
 refine g1 (d:=dG ai gy) a8 (aq (ak.id _ _) aw) ?_
 obtain⟨x4,qd,h⟩:=ae h
 refine g1 a8 (bb rfl (eJ qd) (by simp only[cP,dA,bX,bt,bc,bp];exact aC _ _) (lA (bZ _ _) lAn) (.inl rfl)) ?_
 refine ga a8 ?_
 refine s1 (an a8) ?_
 refine .nil (hK _ _ ?_)
 cases h
 exact pe0 h0 [0,1,2]
 rintro ex tm' hp' ⟨rfl,hw⟩
 refine AW.weak hw (cdh h rfl (fun nN h=>?_) (fun nN h=>?_))
 refine rs hx fun K hK=>?_
 refine scb h r5 fun x8 h=>?_
 refine s0 (aE (b':=x8) (ak.id _ _) aw) ?_
 refine .nil (hK _ _ (AW.ret ?_))
 cases h
 exact rv1
 refine AW.skip (rs hx fun K hK=>?_)
 refine sa ?_
 refine s1 (aq (bo aU) am) ?_
 refine sa ?_
 refine s1 (aq (aV gy) am) ?_
 refine scb h mO fun jm h=>?_
 refine s1 (be (F:=ai.f cG) aw) ?_
 refine s0 (aE (b':=jm) (ak.id _ _) aw) ?_
 refine .nil (hK _ _ (rs hx fun K hK=>?_))
 refine sa ?_
 refine s1 (aq (bo gy) am) ?_
 refine sa ?_
 refine s1 (aq (aV aU) am) ?_
 refine scb h mO fun iE h=>?_
 refine s1 (be (F:=ai.f cG) aw) ?_
 refine s0 (aE (b':=iE) (ak.id _ _) aw) ?_
 refine .nil (hK _ _ (rs hx fun K hK=>?_))
 refine sa ?_
 refine s1 (aq (bo jm) am) ?_
 refine sa ?_
 refine s1 (aq (bo iE) am) ?_
 refine scb h pH fun m4 h=>?_
 refine s1 (be (F:=aj.f a6) am) ?_
 refine s0 (aE (b':=m4) (ak.id _ _) am) ?_
 refine .nil (hK _ _ (rs hx fun K hK=>?_))
 refine sa ?_
 refine s1 (aq (aV jm) am) ?_
 refine sa ?_
 refine s1 (aq (aV iE) am) ?_
 refine scb h pH fun o6 h=>?_
 refine s1 (be (F:=aj.f a6) am) ?_
 refine s0 (aE (b':=o6) (ak.id _ _) am) ?_
 refine .nil (hK _ _ (rs hx fun K hK=>?_))
 refine s1 (d:=dG aj m4) (aq (ak.id _ _) am) ?_
 refine s1 (d:=dG aj o6) (aq (ak.id _ _) am) ?_
 refine scb h mO fun pG h=>?_
 refine s0 (aE (b':=pG) (ak.id _ _) aw) ?_
 refine .nil (hK _ _ (AW.ret ?_))
 cases h
 exact rv1
def kY(cy:Int):Option ao:=bnd (fJ cy) fun x1=>bnd (mE) fun x3=>bnd (fc x1 x3) fun x5=>some x5
theorem tL {cy:Int}{r:ao}(h:kY cy=some r):ax Tryz.prog 68 [dI .i64 cy] (dG ai r):=by
 refine bC (rs:=[.cell 2 43]) (fun cx hx h0=>?_) Tryz.func68
 unfold kY at h
 refine rs hx fun K hK=>?_
 refine s1 (be (F:=ai.f cG) aw) ?_
 refine .nil (hK _ _ (rs hx fun K hK=>?_))
 refine sa ?_
 refine scb h jS fun x1 h=>?_
 refine scb h u9 fun x3 h=>?_
 refine scb h mO fun x5 h=>?_
 refine s0 (aE (b':=x5) (ak.id _ _) aw) ?_
 refine .nil (hK _ _ (AW.ret ?_))
 cases h
 exact rv1
def jD(aU:ao):Option Int:=bnd (bT aU) fun x1=>cnd (!x1) (some (0:Int)) (bnd (fe aU.vN) fun x4=>some x4)
theorem tK {aU:ao}{r:Int}(h:jD aU=some r):ax Tryz.prog 53 [dG ai aU] (dI .i64 r):=by
 refine bC (rs:=[.tmp 2]) (fun cx hx h0=>?_) Tryz.func53
 unfold jD at h
 refine ra hx ?_
 refine AW.seq (rs hx fun K hK=>?_)
 refine s1 (d:=dG ai aU) (aq (ak.id _ _) aw) ?_
 refine scb h eJ fun x1 h=>?_
 refine sa ?_
 refine .nil (hK _ _ (cdh h rfl (fun a8 h=>?_) (fun a8 h=>?_)))
 refine ra hx ?_
 refine AW.ret ?_
 cases h
 exact rv1
 refine AW.skip (rs hx fun K hK=>?_)
 refine sa ?_
 refine s1 (aq (bo aU) am) ?_
 refine scb h jq fun x4 h=>?_
 refine sa ?_
 refine .nil (hK _ _ (AW.ret ?_))
 cases h
 exact rv1
def mV(aJ:Int)(aQ:Int):Option ao:=bnd (fJ aJ) fun x1=>bnd (fJ aQ) fun x3=>bnd (fc x1 x3) fun x5=>some x5
theorem yv {aJ:Int}{aQ:Int}{r:ao}(h:mV aJ aQ=some r):ax Tryz.prog 102 [dI .i64 aJ,dI .i64 aQ] (dG ai r):=by
 refine bC (rs:=[.cell 4 43]) (fun cx hx h0=>?_) Tryz.func102
 unfold mV at h
 refine rs hx fun K hK=>?_
 refine s1 (be (F:=ai.f cG) aw) ?_
 refine .nil (hK _ _ (rs hx fun K hK=>?_))
 refine sa ?_
 refine scb h jS fun x1 h=>?_
 refine sa ?_
 refine scb h jS fun x3 h=>?_
 refine scb h mO fun x5 h=>?_
 refine s0 (aE (b':=x5) (ak.id _ _) aw) ?_
 refine .nil (hK _ _ (AW.ret ?_))
 cases h
 exact rv1
def mU(aU:ao)(FQ:Bool):Option av:=cnd FQ (bnd (fJ (0:Int)) fun x2=>some x2) (bnd (eY) fun x4=>some x4)
theorem yu {aU:ao}{FQ:Bool}{r:av}(h:mU aU FQ=some r):ax Tryz.prog 185 [dG ai aU,dB FQ] (dG aj r):=by
 refine bC (rs:=[.cell 4 41]) (fun cx hx h0=>?_) Tryz.func185
 unfold mU at h
 refine rs hx fun K hK=>?_
 refine sa ?_
 refine s1 (be (F:=aj.f a6) am) ?_
 refine .nil (hK _ _ (AW.seq (ra hx ?_)))
 refine cdh h rfl (fun cv h=>?_) (fun cv h=>?_)
 refine rs hx fun K hK=>?_
 refine scb h jS fun x2 h=>?_
 refine s0 (aE (b':=x2) (ak.id _ _) am) ?_
 refine .nil (hK _ _ (AW.ret ?_))
 cases h
 exact rv1
 refine AW.skip (rs hx fun K hK=>?_)
 refine scb h ir fun x4 h=>?_
 refine s0 (aE (b':=x4) (ak.id _ _) am) ?_
 refine .nil (hK _ _ (AW.ret ?_))
 cases h
 exact rv1
def lJ :Int×(Vector av 2)×(Vector av 2)→Option ((Int×(Vector av 2)×(Vector av 2))⊕Int):=fun (fj,eQ,iW)=>bnd (iy ((eQ)[((0:Int)).toNat]!) ((eQ)[((1:Int)).toNat]!)) fun o6=>bnd (iy ((iW)[((0:Int)).toNat]!) ((iW)[((1:Int)).toNat]!)) fun yj=>bnd (jM o6 yj) fun wZ=>cnd (decide (wZ≠(0:Int))) (some (.inr (i64.wrap (fj*wZ)))) (bnd (n3 ((eQ)[((0:Int)).toNat]!) ((eQ)[((1:Int)).toNat]!)) fun wY=>bnd (n3 ((iW)[((0:Int)).toNat]!) ((iW)[((1:Int)).toNat]!)) fun u3=>bnd (S:=Bool) (bnd (fe ((#v[(eQ)[((1:Int)).toNat]!,wY])[((1:Int)).toNat]!)) fun x36=>cnd (decide (x36=(0:Int))) (some (true)) (bnd (fe ((#v[(iW)[((1:Int)).toNat]!,u3])[((1:Int)).toNat]!)) fun x40=>some (decide (x40=(0:Int))))) fun tr=>cnd tr (bnd (fe ((#v[(eQ)[((1:Int)).toNat]!,wY])[((1:Int)).toNat]!)) fun x45=>bnd (fe ((#v[(iW)[((1:Int)).toNat]!,u3])[((1:Int)).toNat]!)) fun x48=>some (.inr (i64.wrap (fj*(i64.wrap (x45 - x48)))))) (some (.inl (i64.wrap (0 - fj),#v[(eQ)[((1:Int)).toNat]!,wY],#v[(iW)[((1:Int)).toNat]!,u3]))))
def mF(aU:ao)(gy:ao):Option Int:=bnd (bT aU) fun x1=>bnd (bT gy) fun x3=>bnd (S:=Bool) (cnd (!x1) (some (true)) (some (!x3))) fun aZ=>cnd aZ (bnd (mU aU x1) fun x8=>bnd (mU gy x3) fun jm=>bnd (jM x8 jm) fun iE=>some iE) (bnd (bL (lJ) ((1:Int),#v[aU.vN,aU.vD],#v[gy.vN,gy.vD])) fun r=>some r)
set_option maxHeartbeats 4000000 in
theorem AK {aU:ao}{gy:ao}{r:Int}(h:mF aU gy=some r):ax Tryz.prog 160 [dG ai aU,dG ai gy] (dI .i64 r):=by
 refine bC (rs:=[.tmp 4]) (fun cx hx h0=>?_) Tryz.func160
 unfold mF at h
 refine ra hx ?_
 refine rs hx fun K hK=>?_
 refine s1 (d:=dG ai aU) (aq (ak.id _ _) aw) ?_
 refine scb h eJ fun x1 h=>?_
 refine sa ?_
 refine .nil (hK _ _ (rs hx fun K hK=>?_))
 refine s1 (d:=dG ai gy) (aq (ak.id _ _) aw) ?_
 refine scb h eJ fun x3 h=>?_
 refine sa ?_
 refine .nil (hK _ _ ?_)
 iterate 2 refine AW.seq ?_
 obtain⟨aZ,hy,h⟩:=ae h
 refine jn ((PE cx .normal (fun aZ=>[(2,.pt 0 0),(3,.pt 1 0),(5,dB x1),(6,dB x3),(22,dB aZ)]) fun aZ=>⟨[(0,dC (ai.f aU)),(1,dC (ai.f gy))],[],2⟩) aZ) ?_ ?_
 replace h:=hy
 refine rq hx fun K hK=>?_
 iterate 3 refine sa ?_
 rcases az (!x1) with dy|dy
 replace h:=aO dy h
 iterate 2 refine aG rfl rfl dy ?_
 refine s1 (ar dy) ?_
 refine .nil (hK _ _ ?_)
 cases h
 exact pe0 h0 [0,1]
 replace h:=aP dy h
 iterate 2 refine ga dy ?_
 refine s1 (an dy) ?_
 refine .nil (hK _ _ ?_)
 cases h
 exact pe0 h0 [0,1]
 rintro ex tm' hp' ⟨rfl,hw⟩
 refine AW.weak hw (cdh h rfl (fun nN h=>?_) (fun nN h=>?_))
 refine rsd [185,184] hx fun K hK=>?_
 refine s1 (d:=dG ai aU) (aq (ak.id _ _) aw) ?_
 refine sa ?_
 refine cqb h yu fun x8 h=>?_
 refine s1 (d:=dG ai gy) (aq (ak.id _ _) aw) ?_
 refine sa ?_
 refine cqb h yu fun jm h=>?_
 refine cqb h AM fun iE h=>?_
 refine sa ?_
 refine .nil (hK _ _ (AW.ret ?_))
 cases h
 exact rv1
 refine AW.skip (ra hx ?_)
 refine rs hx fun K hK=>?_
 refine sa ?_
 refine s1 (aq (bo aU) am) ?_
 refine sa ?_
 refine s1 (aq (aV aU) am) ?_
 refine s1 (d:=dG (cA 2 aj) (#v[aU.vN,aU.vD])) (wD ([aU.vN,aU.vD]:List av) aj #v[aU.vN,aU.vD] gX am) ?_
 refine s1 (be (F:=(cA 2 aj).f (Vector.replicate 2 a6)) gX) ?_
 refine s0 (aE (b':=#v[aU.vN,aU.vD]) (ak.id _ _) gX) ?_
 refine .nil (hK _ _ (rs hx fun K hK=>?_))
 refine sa ?_
 refine s1 (aq (bo gy) am) ?_
 refine sa ?_
 refine s1 (aq (aV gy) am) ?_
 refine s1 (d:=dG (cA 2 aj) (#v[gy.vN,gy.vD])) (wD ([gy.vN,gy.vD]:List av) aj #v[gy.vN,gy.vD] gX am) ?_
 refine s1 (be (F:=(cA 2 aj).f (Vector.replicate 2 a6)) gX) ?_
 refine s0 (aE (b':=#v[gy.vN,gy.vD]) (ak.id _ _) gX) ?_
 refine .nil (hK _ _ (AW.block ?_))
 obtain⟨y,hy,h⟩:=ae h
 refine lp (S:=Int×(Vector av 2)×(Vector av 2)) (X:=Int) (fun (fj,eQ,iW)=>[(7,dI .i64 fj),(8,.pt 0 0),(9,.pt 1 0)]) (fun (fj,eQ,iW)=>⟨[(0,dC ((cA 2 aj).f eQ)),(1,dC ((cA 2 aj).f iW))],[],2⟩) (PR [.tmp 4] fun r=>dI .i64 r) hy ?_ ?_ ?_
 exact wk h0 [2,3] (wR rfl (wR rfl (wR rfl wTn))) (vC rfl (vC rfl wVn)) wLn
 clear hy h
 rintro⟨fj,eQ,iW⟩ y h
 dsimp only[lJ] at h
 refine AW.block (rs hx fun K hK=>?_)
 have OY:((0:Int)).toNat<2:=by omega
 refine s1 (bY (by decide:0≤(0:Int)∧(0:Int)<((2:Nat):Int)) gX am) ?_
 refine s1 (d:=dG aj ((eQ)[((0:Int)).toNat]!)) (aq (ak.comp (ak.id _ _) (ak.vec aj eQ ((0:Int)).toNat OY) (fun _=>rfl)) am) ?_
 have JI:((1:Int)).toNat<2:=by omega
 refine s1 (bY (by decide:0≤(1:Int)∧(1:Int)<((2:Nat):Int)) gX am) ?_
 refine s1 (d:=dG aj ((eQ)[((1:Int)).toNat]!)) (aq (ak.comp (ak.id _ _) (ak.vec aj eQ ((1:Int)).toNat JI) (fun _=>rfl)) am) ?_
 refine scb h nU fun o6 h=>?_
 refine s1 (be (F:=aj.f a6) am) ?_
 refine s0 (aE (b':=o6) (ak.id _ _) am) ?_
 refine .nil (hK _ _ (rs hx fun K hK=>?_))
 have hn18:((0:Int)).toNat<2:=by omega
 refine s1 (bY (by decide:0≤(0:Int)∧(0:Int)<((2:Nat):Int)) gX am) ?_
 refine s1 (d:=dG aj ((iW)[((0:Int)).toNat]!)) (aq (ak.comp (ak.id _ _) (ak.vec aj iW ((0:Int)).toNat hn18) (fun _=>rfl)) am) ?_
 have hn19:((1:Int)).toNat<2:=by omega
 refine s1 (bY (by decide:0≤(1:Int)∧(1:Int)<((2:Nat):Int)) gX am) ?_
 refine s1 (d:=dG aj ((iW)[((1:Int)).toNat]!)) (aq (ak.comp (ak.id _ _) (ak.vec aj iW ((1:Int)).toNat hn19) (fun _=>rfl)) am) ?_
 refine scb h nU fun yj h=>?_
 refine s1 (be (F:=aj.f a6) am) ?_
 refine s0 (aE (b':=yj) (ak.id _ _) am) ?_
 refine .nil (hK _ _ (rs hx fun K hK=>?_))
 refine s1 (d:=dG aj o6) (aq (ak.id _ _) am) ?_
 refine s1 (d:=dG aj yj) (aq (ak.id _ _) am) ?_
 refine scb h AM fun wZ h=>?_
 refine sa ?_
 refine .nil (hK _ _ (AW.seq (ra hx ?_)))
 refine cdh h rfl (fun qG h=>?_) (fun qG h=>?_)
 refine ra hx ?_
 refine AW.ret ?_
 cases h
 refine PS.r ⟨by nofun,PR.i ?_⟩
 exact rv1
 refine AW.skip (rsd [186] hx fun K hK=>?_)
 have hn25:((1:Int)).toNat<2:=by omega
 refine s1 (bY (by decide:0≤(1:Int)∧(1:Int)<((2:Nat):Int)) gX am) ?_
 refine s1 (d:=dG aj ((eQ)[((1:Int)).toNat]!)) (aq (ak.comp (ak.id _ _) (ak.vec aj eQ ((1:Int)).toNat hn25) (fun _=>rfl)) am) ?_
 have OW:((0:Int)).toNat<2:=by omega
 refine s1 (bY (by decide:0≤(0:Int)∧(0:Int)<((2:Nat):Int)) gX am) ?_
 refine s1 (d:=dG aj ((eQ)[((0:Int)).toNat]!)) (aq (ak.comp (ak.id _ _) (ak.vec aj eQ ((0:Int)).toNat OW) (fun _=>rfl)) am) ?_
 have hn27:((1:Int)).toNat<2:=by omega
 refine s1 (bY (by decide:0≤(1:Int)∧(1:Int)<((2:Nat):Int)) gX am) ?_
 refine s1 (d:=dG aj ((eQ)[((1:Int)).toNat]!)) (aq (ak.comp (ak.id _ _) (ak.vec aj eQ ((1:Int)).toNat hn27) (fun _=>rfl)) am) ?_
 refine cqb h AL fun wY h=>?_
 refine s1 (d:=dG (cA 2 aj) (#v[(eQ)[((1:Int)).toNat]!,wY])) (wD ([(eQ)[((1:Int)).toNat]!,wY]:List av) aj #v[(eQ)[((1:Int)).toNat]!,wY] gX am) ?_
 refine s0 (aE (b':=#v[(eQ)[((1:Int)).toNat]!,wY]) (ak.id _ _) gX) ?_
 refine .nil (hK _ _ (rsd [186] hx fun K hK=>?_))
 have hn30:((1:Int)).toNat<2:=by omega
 refine s1 (bY (by decide:0≤(1:Int)∧(1:Int)<((2:Nat):Int)) gX am) ?_
 refine s1 (d:=dG aj ((iW)[((1:Int)).toNat]!)) (aq (ak.comp (ak.id _ _) (ak.vec aj iW ((1:Int)).toNat hn30) (fun _=>rfl)) am) ?_
 have hn31:((0:Int)).toNat<2:=by omega
 refine s1 (bY (by decide:0≤(0:Int)∧(0:Int)<((2:Nat):Int)) gX am) ?_
 refine s1 (d:=dG aj ((iW)[((0:Int)).toNat]!)) (aq (ak.comp (ak.id _ _) (ak.vec aj iW ((0:Int)).toNat hn31) (fun _=>rfl)) am) ?_
 have hn32:((1:Int)).toNat<2:=by omega
 refine s1 (bY (by decide:0≤(1:Int)∧(1:Int)<((2:Nat):Int)) gX am) ?_
 refine s1 (d:=dG aj ((iW)[((1:Int)).toNat]!)) (aq (ak.comp (ak.id _ _) (ak.vec aj iW ((1:Int)).toNat hn32) (fun _=>rfl)) am) ?_
 refine cqb h AL fun u3 h=>?_
 refine s1 (d:=dG (cA 2 aj) (#v[(iW)[((1:Int)).toNat]!,u3])) (wD ([(iW)[((1:Int)).toNat]!,u3]:List av) aj #v[(iW)[((1:Int)).toNat]!,u3] gX am) ?_
 refine s0 (aE (b':=#v[(iW)[((1:Int)).toNat]!,u3]) (ak.id _ _) gX) ?_
 refine .nil (hK _ _ ?_)
 iterate 2 refine AW.seq ?_
 obtain⟨tr,hy,h⟩:=ae h
 refine jn ((PE cx .normal (fun tr=>[(7,dI .i64 fj),(8,.pt 0 0),(9,.pt 1 0),(83,dB tr)]) fun tr=>⟨[(0,dC ((cA 2 aj).f (#v[(eQ)[((1:Int)).toNat]!,wY]))),(1,dC ((cA 2 aj).f (#v[(iW)[((1:Int)).toNat]!,u3])))],[],2⟩) tr) ?_ ?_
 replace h:=hy
 refine rq hx fun K hK=>?_
 have hn35:((1:Int)).toNat<2:=by omega
 refine s1 (bY (by decide:0≤(1:Int)∧(1:Int)<((2:Nat):Int)) gX am) ?_
 refine s1 (d:=dG aj ((#v[(eQ)[((1:Int)).toNat]!,wY])[((1:Int)).toNat]!)) (aq (ak.comp (ak.id _ _) (ak.vec aj (#v[(eQ)[((1:Int)).toNat]!,wY]) ((1:Int)).toNat hn35) (fun _=>rfl)) am) ?_
 refine scb h jq fun x36 h=>?_
 iterate 2 refine sa ?_
 rcases az (decide (x36=(0:Int))) with qf|qf
 replace h:=aO qf h
 iterate 4 refine aG rfl rfl qf ?_
 refine s1 (ar qf) ?_
 refine .nil (hK _ _ ?_)
 cases h
 exact pe0 h0 [0,1]
 replace h:=aP qf h
 have hn39:((1:Int)).toNat<2:=by omega
 refine g1 qf (bY (by decide:0≤(1:Int)∧(1:Int)<((2:Nat):Int)) gX am) ?_
 refine g1 (d:=dG aj ((#v[(iW)[((1:Int)).toNat]!,u3])[((1:Int)).toNat]!)) qf (aq (ak.comp (ak.id _ _) (ak.vec aj (#v[(iW)[((1:Int)).toNat]!,u3]) ((1:Int)).toNat hn39) (fun _=>rfl)) am) ?_
 obtain⟨x40,Ou,h⟩:=ae h
 refine g1 qf (bb rfl (jq Ou) (by simp only[cP,dA,bX,bt,bc,bp];exact aC _ _) (lA (bZ _ _) lAn) (.inl rfl)) ?_
 refine ga qf ?_
 refine s1 (an qf) ?_
 refine .nil (hK _ _ ?_)
 cases h
 exact pe0 h0 [0,1]
 rintro ex tm' hp' ⟨rfl,hw⟩
 refine AW.weak hw (cdh h rfl (fun hb43 h=>?_) (fun hb43 h=>?_))
 refine rsd [113] hx fun K hK=>?_
 refine sa ?_
 have hn44:((1:Int)).toNat<2:=by omega
 refine s1 (bY (by decide:0≤(1:Int)∧(1:Int)<((2:Nat):Int)) gX am) ?_
 refine s1 (d:=dG aj ((#v[(eQ)[((1:Int)).toNat]!,wY])[((1:Int)).toNat]!)) (aq (ak.comp (ak.id _ _) (ak.vec aj (#v[(eQ)[((1:Int)).toNat]!,wY]) ((1:Int)).toNat hn44) (fun _=>rfl)) am) ?_
 refine cqb h jq fun x45 h=>?_
 have hn47:((1:Int)).toNat<2:=by omega
 refine s1 (bY (by decide:0≤(1:Int)∧(1:Int)<((2:Nat):Int)) gX am) ?_
 refine s1 (d:=dG aj ((#v[(iW)[((1:Int)).toNat]!,u3])[((1:Int)).toNat]!)) (aq (ak.comp (ak.id _ _) (ak.vec aj (#v[(iW)[((1:Int)).toNat]!,u3]) ((1:Int)).toNat hn47) (fun _=>rfl)) am) ?_
 refine cqb h jq fun x48 h=>?_
 iterate 3 refine sa ?_
 refine .nil (hK _ _ (AW.ret ?_))
 cases h
 refine PS.r ⟨by nofun,PR.i ?_⟩
 exact rv1
 refine AW.skip (rb hx ?_)
 cases h
 exact PS.l (pe0 h0 [0,1])
 rintro ex tm' hp' ⟨rfl,hw⟩
 cases h
 exact hw
def mn(q:Rat):Prop:=q.num.natAbs<LIM∧q.den<LIM
instance(q:Rat):Decidable (mn q):=by unfold mn;exact inferInstance
def i8(q:Rat):ao:=⟨enc q.num,enc (q.den:Int)⟩
def Bz:ao:=⟨Dh,enc 1⟩
def vH:Option Rat→ao
 |some q=>i8 q
 |none=>Bz
def okR(x:ao):Prop:=okI x.vN∧okI x.vD
theorem oo(o:Option Rat):okR (vH o):=by
 cases o with
 |some q=>exact⟨tW _,tW _⟩
 |none=>
  refine⟨fun j hj=>?_,tW _⟩
  show 0≤(W 0)[j]!∧(W 0)[j]! <4294967296
  rw[gU hj];have:=@dgl 0 j;omega
theorem PT {p q:Rat}(hp:mn p)(hq:mn q)(h:i8 p=i8 q):p=q:=by
 unfold i8 at h
 simp only[ao.mk.injEq] at h
 have h1:=za hp.1 hq.1 h.1
 have h2:=za (by simpa using hp.2) (by simpa using hq.2) h.2
 exact Rat.ext h1 (by omega)
theorem jU {z:Int}:cR (enc z)=decide (z.natAbs<LIM):=by
 by_cases h:z.natAbs<LIM
 ·rw[bh h,aF h]
 ·rw[C4 h,qP,bf h]
theorem Ip {q:Rat}(h:mn q):i8 q≠Bz:=by
 intro e
 have:cR (i8 q).vN=cR Bz.vN:=by rw[e]
 rw[show (i8 q).vN=enc q.num from rfl,bh h.1] at this
 cases this
def cK(x:ao):Option Rat:=open Classical in if h:∃q,mn q∧x=i8 q then some (Classical.choose h) else none
theorem cY {x:ao}{q:Rat}:cK x=some q↔mn q∧x=i8 q:=by
 unfold cK
 split
 ·rename_i h
  obtain⟨h1,h2⟩:=Do h
  constructor
  ·intro e
   injection e with e
   rw[←e];exact⟨h1,h2⟩
  ·rintro⟨h3,h4⟩
   congr 1
   exact PT h1 h3 (h2.symm.trans h4)
 ·rename_i h
  constructor
  ·intro e;cases e
  ·rintro h3;exact absurd ⟨q,h3⟩ h
theorem zJ {x:ao}:cK x=none↔∀q,mn q→x≠i8 q:=by
 constructor
 ·intro h q hq e
  rw[cY.2 ⟨hq,e⟩] at h;cases h
 ·intro h
  cases hx:cK x with
  |none=>rfl
  |some q=>exact absurd (cY.1 hx).2 (h q (cY.1 hx).1)
theorem oh {q:Rat}(h:mn q):cK (i8 q)=some q:=cY.2 ⟨h,rfl⟩
theorem Nk:cK Bz=none:=zJ.2 fun _ hq e=>Ip hq e.symm
def Ao(o:Option Rat):Prop:=∀q,o=some q→mn q
theorem zK {o:Option Rat}(h:Ao o):cK (vH o)=o:=by
 cases o with
 |none=>exact Nk
 |some q=>exact oh (h q rfl)
theorem CX(x:ao):Ao (cK x):=fun _ h=>(cY.1 h).1
theorem qQ:Ao none:=fun _ h=>by cases h
theorem PM {g k:Int}(h:g≠0):(g*k).fdiv g=k:=Int.mul_fdiv_cancel_left _ h
theorem K3 {g k:Int}(h:g≠0):(g*k).fdiv (-g)=-k:=by
 rw[show g*k=-g*-k from (Int.neg_mul_neg g k).symm]
 exact Int.mul_fdiv_cancel_left _ (by omega)
theorem qK {n d:Int}(hd:d≠0):∃k m:Int,n=(Nat.gcd n.natAbs d.natAbs:Nat)*k∧d=(Nat.gcd n.natAbs d.natAbs:Nat)*m∧m≠0∧(Rat.divInt n d).num=d.sign*k∧((Rat.divInt n d).den:Int)=d.sign*m:=by
 have hg0:Nat.gcd n.natAbs d.natAbs≠0:=by
  intro h
  have:=(Nat.gcd_eq_zero_iff.1 h).2
  omega
 have AZ:((Nat.gcd n.natAbs d.natAbs:Nat):Int)≠0:=by omega
 obtain⟨k,hk⟩:((Nat.gcd n.natAbs d.natAbs:Nat):Int) ∣ n:=Int.ofNat_dvd_left.2 (Nat.gcd_dvd_left _ _)
 obtain⟨m,hm⟩:((Nat.gcd n.natAbs d.natAbs:Nat):Int) ∣ d:=Int.ofNat_dvd_left.2 (Nat.gcd_dvd_right _ _)
 have hgg:((Int.gcd d n:Nat):Int)=((Nat.gcd n.natAbs d.natAbs:Nat):Int):=by
  rw[Int.gcd_comm];rfl
 have hmm:m≠0:=by
  intro h
  rw[h,Int.mul_zero] at hm
  exact hd hm
 refine⟨k,m,hk,hm,hmm,?_,?_⟩
 ·rw[Rat.num_divInt,hgg]
  generalize ((Nat.gcd n.natAbs d.natAbs:Nat):Int)=g at hk AZ ⊢
  rw[hk,Int.mul_left_comm,Int.mul_ediv_cancel_left _ AZ]
 ·rw[Rat.den_divInt,if_neg hd]
  have e:((d.natAbs / Int.gcd d n:Nat):Int)=(d.natAbs:Int) / ((Int.gcd d n:Nat):Int):=Int.natCast_ediv ..
  rw[e,hgg]
  have e2:(d.natAbs:Int)=d.sign*d:=by rw[Int.sign_mul_self]
  rw[e2]
  generalize ((Nat.gcd n.natAbs d.natAbs:Nat):Int)=g at hm AZ ⊢
  have e3:d.sign*d=g*(d.sign*m):=by
   conv=>lhs;rhs;rw[hm]
   rw[Int.mul_left_comm]
  rw[e3,Int.mul_ediv_cancel_left _ AZ]
theorem rr {n d:Int}(hd:d≠0)(h1:n.natAbs<LIM)(h2:d.natAbs<LIM):mn (Rat.divInt n d):=by
 obtain⟨k,m,hk,hm,D0,e1,e2⟩:=qK (n:=n) hd
 have hg0:Nat.gcd n.natAbs d.natAbs≠0:=by
  intro h
  have:=(Nat.gcd_eq_zero_iff.1 h).2
  omega
 have hs:d.sign.natAbs=1:=by rw[Int.natAbs_sign,if_neg hd]
 refine⟨?_,?_⟩
 ·rw[e1,vU,hs,kG]
  refine cp ?_ h1
  conv=>rhs;rw[hk]
  rw[vU,dQ]
  exact Dn _ (yc hg0)
 ·have:(Rat.divInt n d).den=(d.sign*m).natAbs:=by omega
  rw[this,vU,hs,kG]
  refine cp ?_ h2
  conv=>rhs;rw[hm]
  rw[vU,dQ]
  exact Dn _ (yc hg0)
theorem HN {n d:Int}(hd:d≠0):n.fdiv (bif decide (d<0) then -((Nat.gcd n.natAbs d.natAbs:Nat):Int) else ((Nat.gcd n.natAbs d.natAbs:Nat):Int))=(Rat.divInt n d).num∧d.fdiv (bif decide (d<0) then -((Nat.gcd n.natAbs d.natAbs:Nat):Int) else ((Nat.gcd n.natAbs d.natAbs:Nat):Int))=((Rat.divInt n d).den:Int):=by
 obtain⟨k,m,hk,hm,D0,e1,e2⟩:=qK (n:=n) hd
 have AZ:((Nat.gcd n.natAbs d.natAbs:Nat):Int)≠0:=by
  intro h
  rw[h,Int.zero_mul] at hm
  exact hd hm
 rw[e1,e2]
 generalize ((Nat.gcd n.natAbs d.natAbs:Nat):Int)=g at hk hm AZ ⊢
 by_cases h:d<0
 ·rw[aF h,fx,Az h]
  constructor
  ·rw[hk,K3 AZ];omega
  ·rw[hm,K3 AZ];omega
 ·rw[bf h,cond_false,uh (by omega)]
  constructor
  ·rw[hk,PM AZ];omega
  ·rw[hm,PM AZ];omega
theorem GA {n d:Int}(hd:d≠0)(h2:d.natAbs<LIM):Nat.gcd n.natAbs d.natAbs<LIM∧Nat.gcd n.natAbs d.natAbs≠0:=
 ⟨cp (Nat.gcd_le_right _ (by omega)) h2,fun h=>by have:=(Nat.gcd_eq_zero_iff.1 h).2;omega⟩
theorem Lr:mH=some (enc 1):=by
 unfold mH
 rw[Ki (by decide) (by decide),aa]
theorem pE(x:av):jN x=some (cR x):=by
 unfold jN
 rw[Lt,aa,P8,aa]
 congr 1
 unfold cR
 cases x.vBad <;> rfl
theorem wd:fP=some Bz:=by
 unfold fP
 rw[Lx,Lr,aa,aa]
 rfl
theorem PB {n d:Int}(hn:n.natAbs<LIM)(hd:d.natAbs<LIM):(∃q,mn q∧(⟨enc n,enc d⟩:ao)=i8 q)↔0<d∧Nat.gcd n.natAbs d.natAbs=1:=by
 constructor
 ·rintro⟨q,hq,e⟩
  unfold i8 at e
  simp only[ao.mk.injEq] at e
  have e1:=za hn hq.1 e.1
  have e2:=za hd (by simpa using hq.2) e.2
  subst e1;subst e2
  exact⟨by have:=q.den_pos;omega,by rw[dQ];exact q.reduced⟩
 ·rintro⟨h1,h2⟩
  refine⟨⟨n,d.natAbs,by omega,h2⟩,⟨hn,hd⟩,?_⟩
  unfold i8
  simp only[ao.mk.injEq,true_and]
  congr 1
  omega
theorem iR {x:ao}(hx:okR x):br x=some (cK x).isSome:=by
 obtain⟨n,d⟩:=x
 obtain⟨h1,h2⟩:=hx
 dsimp only at h1 h2
 have hb:∀b:Bool,(b=true↔∃q,mn q∧(⟨n,d⟩:ao)=i8 q)→(cK ⟨n,d⟩).isSome=b:=by
  intro b hb
  cases hv:cK ⟨n,d⟩ with
  |none=>
   cases b with
   |false=>rfl
   |true=>
    obtain⟨q,h3,h4⟩:=hb.1 rfl
    exact absurd h4 (zJ.1 hv q h3)
  |some q=>exact ((hb.2 ⟨q,cY.1 hv⟩).symm)
 unfold br
 dsimp only
 rw[pE,pE,aa,aa]
 cases AZ:cR n with
 |false=>
  rw[aK,aa,hb false]
  constructor
  ·intro h;cases h
  ·rintro⟨q,hq,e⟩
   unfold i8 at e
   simp only[ao.mk.injEq] at e
   rw[e.1,bh hq.1] at AZ;cases AZ
 |true=>
  cases Ex:cR d with
  |false=>
   rw[c7,aK,aa,hb false]
   constructor
   ·intro h;cases h
   ·rintro⟨q,hq,e⟩
    unfold i8 at e
    simp only[ao.mk.injEq] at e
    rw[e.2,bh (by simpa using hq.2)] at Ex;cases Ex
  |true=>
   obtain⟨n,hn,rfl⟩:=td h1 AZ
   obtain⟨d,hd,rfl⟩:=td h2 Ex
   have JL:=PB hn hd
   rw[c7,c7,wh hd,aa,Lw hn hd,aa,Lr,aa,eg]
   by_cases h0:0<d
   ·rw[if_pos (by rw[uh h0];decide),aa]
    congr 1
    symm
    refine hb _ ?_
    rw[JL,decide_eq_true_iff]
    have IZ:=(GA (n:=n) (show d≠0 by omega) hd).1
    constructor
    ·intro h
     have:=za (by simpa using IZ) (by decide) h
     exact⟨h0,by omega⟩
    ·rintro⟨_,h⟩
     rw[h];rfl
   ·rw[if_neg (by rw[Int.sign_pos_iff];exact h0),aa]
    congr 1
    symm
    refine hb _ ?_
    rw[JL]
    constructor
    ·intro h;cases h
    ·rintro⟨h,_⟩;exact absurd h h0
theorem DR {n d:Int}(hn:n.natAbs<LIM)(hd:d.natAbs<LIM)(h0:d≠0):dX (enc n) (enc d)=some (i8 (Rat.divInt n d)):=by
 obtain⟨AZ,Ex⟩:=GA (n:=n) h0 hd
 obtain⟨e1,e2⟩:=HN (n:=n) h0
 have IZ:(((Nat.gcd n.natAbs d.natAbs:Nat):Int)).natAbs<LIM:=by simpa using AZ
 unfold dX
 rw[pE,pE,aa,aa,bh hn,bh hd,cj,aK,aK,wh hd,aa,aa,co _ _ (by rw[Ay];exact h0),Lw hn hd,aa,aa,Q1 IZ,aa]
 have Gk:(cnd (decide (d.sign<(0:Int))) (some (enc (-((Nat.gcd n.natAbs d.natAbs:Nat):Int)))) (some (enc ((Nat.gcd n.natAbs d.natAbs:Nat):Int))))=some (enc (bif decide (d<0) then -((Nat.gcd n.natAbs d.natAbs:Nat):Int) else ((Nat.gcd n.natAbs d.natAbs:Nat):Int))):=by
  by_cases h:d<0
  ·rw[cE _ _ (by rw[Int.sign_neg_iff];exact h),aF h];rfl
  ·rw[co _ _ (by rw[Int.sign_neg_iff];exact h),bf h];rfl
 have DX:((bif decide (d<0) then -((Nat.gcd n.natAbs d.natAbs:Nat):Int) else ((Nat.gcd n.natAbs d.natAbs:Nat):Int))).natAbs<LIM∧(bif decide (d<0) then -((Nat.gcd n.natAbs d.natAbs:Nat):Int) else ((Nat.gcd n.natAbs d.natAbs:Nat):Int))≠0:=by
  cases decide (d<0)
  ·simp only[cond_false];omega
  ·simp only[fx];omega
 rw[Gk,aa,Fu hn DX.1 DX.2,aa,Fu hd DX.1 DX.2,aa,e1,e2]
 rfl
theorem IW {x:av}:dX x (enc 0)=some Bz:=by
 unfold dX
 rw[pE,pE,aa,aa,wh (by decide),aa,bh (by decide),wd,aa]
 cases cR x <;> rfl
theorem DQ {x y:av}(h:(cR x&&cR y)=false):dX x y=some Bz:=by
 unfold dX
 rw[pE,pE,aa,aa,wd,aa]
 cases h1:cR x with
 |false=>rfl
 |true=>
  cases h2:cR y with
  |false=>rfl
  |true=>rw[h1,h2] at h;cases h
def Bo(x y:Rat):Option Rat:=
 if (x.num*((y.den / Nat.gcd x.den y.den:Nat):Int)).natAbs<LIM∧(y.num*((x.den / Nat.gcd x.den y.den:Nat):Int)).natAbs<LIM∧(x.num*((y.den / Nat.gcd x.den y.den:Nat):Int)+y.num*((x.den / Nat.gcd x.den y.den:Nat):Int)).natAbs<LIM∧x.den / Nat.gcd x.den y.den*y.den<LIM then some (x+y) else none
def uS(x y:Rat):Option Rat:=if mn (x*y) then some (x*y) else none
theorem Ds(x y:Rat):Rat.divInt (x.num*((y.den / Nat.gcd x.den y.den:Nat):Int)+y.num*((x.den / Nat.gcd x.den y.den:Nat):Int)) ((x.den / Nat.gcd x.den y.den*y.den:Nat):Int)=x+y:=by
 have hx:=x.den_pos
 have hy:=y.den_pos
 have hg:0<Nat.gcd x.den y.den:=Nat.gcd_pos_of_pos_left _ hx
 obtain⟨p,hp⟩:=Nat.gcd_dvd_left x.den y.den
 obtain⟨q,hq⟩:=Nat.gcd_dvd_right x.den y.den
 have e1:x.den / Nat.gcd x.den y.den=p:=by
                         conv=>lhs;lhs;rw[hp]
                         exact Nat.mul_div_cancel_left _ hg
 have e2:y.den / Nat.gcd x.den y.den=q:=by
                         conv=>lhs;lhs;rw[hq]
                         exact Nat.mul_div_cancel_left _ hg
 rw[e1,e2,Rat.add_def']
 generalize Nat.gcd x.den y.den=g at hg hp hq
 rw[←Rat.divInt_ofNat,←Rat.divInt_mul_left (a:=(g:Int)) (by omega)]
 congr 1
 ·rw[Int.mul_add,hp,hq,jZ,jZ,Int.mul_left_comm,Int.mul_left_comm (y.num)]
 ·rw[hp]
  simp only[jZ,Int.mul_assoc]
theorem NO(x y:Rat):Ao (Bo x y):=by
 intro q h
 unfold Bo at h
 split at h
 ·rename_i hc
  obtain⟨_,_,h3,h4⟩:=hc
  injection h with h
  subst h
  rw[←Ds]
  refine rr ?_ h3 (by rw[dQ];exact h4)
  have hg:0<Nat.gcd x.den y.den:=Nat.gcd_pos_of_pos_left _ x.den_pos
  have:=Nat.div_pos (vT y.den x.den_pos) hg
  have:=vP this y.den_pos
  omega
 ·cases h
theorem NM(x y:Rat):Ao (uS x y):=by
 intro q h
 unfold uS at h
 split at h
 ·rename_i hc
  injection h with h
  rw[←h];exact hc
 ·cases h
theorem cross(x y:Rat):(x*y).num=(Rat.divInt x.num y.den).num*(Rat.divInt y.num x.den).num∧(x*y).den=(Rat.divInt x.num y.den).den*(Rat.divInt y.num x.den).den:=by
 have hx:=x.den_pos
 have hy:=y.den_pos
 obtain⟨k,m,hk,hm,D0,e1,e2⟩:=qK (n:=x.num) (d:=(y.den:Int)) (by omega)
 obtain⟨k',m',uW,hm',hm0',e1',e2'⟩:=qK (n:=y.num) (d:=(x.den:Int)) (by omega)
 rw[uh (by omega),sL] at e1 e2 e1' e2'
 have hxy:x*y=Rat.divInt x.num y.den*Rat.divInt y.num x.den:=by
  rw[Rat.divInt_mul_divInt]
  conv=>lhs;rw[←Rat.num_divInt_den x,←Rat.num_divInt_den y,Rat.divInt_mul_divInt]
  rw[jW (y.den:Int)]
 have hc:Nat.gcd ((Rat.divInt x.num y.den).num*(Rat.divInt y.num x.den).num).natAbs ((Rat.divInt x.num y.den).den*(Rat.divInt y.num x.den).den)=1:=by
  rw[vU]
  have c1:=(Rat.divInt x.num y.den).reduced
  have c2:=(Rat.divInt y.num x.den).reduced
  have d1:(Rat.divInt x.num y.den).num.natAbs ∣ x.num.natAbs:=by
   rw[e1];exact Int.natAbs_dvd_natAbs.2 ⟨_,by rw[jW];exact hk⟩
  have d2:(Rat.divInt y.num x.den).den ∣ x.den:=Int.natCast_dvd_natCast.1 (by rw[e2'];exact⟨_,by rw[jW];exact hm'⟩)
  have d3:(Rat.divInt y.num x.den).num.natAbs ∣ y.num.natAbs:=by
   rw[e1'];exact Int.natAbs_dvd_natAbs.2 ⟨_,by rw[jW];exact uW⟩
  have d4:(Rat.divInt x.num y.den).den ∣ y.den:=Int.natCast_dvd_natCast.1 (by rw[e2];exact⟨_,by rw[jW];exact hm⟩)
  have c3:Nat.Coprime (Rat.divInt x.num y.den).num.natAbs (Rat.divInt y.num x.den).den:=Nat.Coprime.coprime_dvd_left d1 (Nat.Coprime.coprime_dvd_right d2 x.reduced)
  have c4:Nat.Coprime (Rat.divInt y.num x.den).num.natAbs (Rat.divInt x.num y.den).den:=Nat.Coprime.coprime_dvd_left d3 (Nat.Coprime.coprime_dvd_right d4 y.reduced)
  exact Nat.Coprime.mul_left (Nat.Coprime.mul_right c1 c3) (Nat.Coprime.mul_right c4 c2)
 rw[hxy,Rat.num_mul,Rat.den_mul,hc]
 exact⟨by simp,by simp⟩
theorem rp(q:Rat):(i8 q).vN=enc q.num:=rfl
theorem t6(q:Rat):(i8 q).vD=enc (q.den:Int):=rfl
theorem K4(z:Int):(enc z).vBad=decide (¬z.natAbs<LIM):=by
 by_cases h:z.natAbs<LIM
 ·rw[ro h];simp[h]
 ·rw[C4 h];simp[h];rfl
theorem ee {q:Rat}(h:mn q):((q.den:Nat):Int).natAbs<LIM:=by simpa using h.2
theorem G_rMul {x y:Rat}(hx:mn x)(hy:mn y):iz (i8 x) (i8 y)=some (vH (uS x y)):=by
 have hdx:=x.den_pos
 have hdy:=y.den_pos
 obtain⟨c1,c2⟩:=cross x y
 have f1:=rr (n:=x.num) (d:=(y.den:Int)) (by omega) hx.1 (ee hy)
 have f2:=rr (n:=y.num) (d:=(x.den:Int)) (by omega) hy.1 (ee hx)
 unfold iz
 rw[show br (i8 x)=_ from iR (oo (some x)),show br (i8 y)=_ from iR (oo (some y)),oh hx,oh hy,aa,aa]
 simp only[qm,cj,aK,aa,rp,t6]
 rw[DR hx.1 (ee hy) (by omega),aa,DR hy.1 (ee hx) (by omega),aa]
 simp only[rp,t6]
 rw[IV f1.1 f2.1,aa,IV (ee f1) (ee f2),aa,←c1,←jZ,←c2,K4,K4,J6,aa,wd,aa,←Bool.decide_or,eg]
 unfold uS
 by_cases h:mn (x*y)
 ·obtain⟨h1,h2⟩:=id h
  rw[if_neg (by rw[dQ];omega),if_pos h];rfl
 ·have h1:¬((x*y).num.natAbs<LIM∧(x*y).den<LIM):=h
  rw[if_pos (by rw[dQ];omega),if_neg h];rfl
theorem DL {x y:ao}(hx:okR x)(hy:okR y)(h:((cK x).isSome&&(cK y).isSome)=false):iz x y=some Bz:=by
 unfold iz
 rw[iR hx,iR hy,aa,aa,wd,aa]
 cases h1:(cK x).isSome with
 |false=>rfl
 |true=>
  cases h2:(cK y).isSome with
  |false=>rfl
  |true=>rw[h1,h2] at h;cases h
theorem BJ {n g:Nat}:((n:Int)).fdiv (g:Int)=((n / g:Nat):Int):=by
 rw[Int.fdiv_eq_ediv_of_nonneg _ (Int.natCast_nonneg _)]
 exact (Int.natCast_ediv ..).symm
theorem G_rAdd {x y:Rat}(hx:mn x)(hy:mn y):iA (i8 x) (i8 y)=some (vH (Bo x y)):=by
 have hdx:=x.den_pos
 have hdy:=y.den_pos
 have hg:0<Nat.gcd x.den y.den:=Nat.gcd_pos_of_pos_left _ hdx
 have IZ:Nat.gcd x.den y.den<LIM:=cp (vT _ hdx) hx.2
 have O9:((Nat.gcd x.den y.den:Nat):Int).natAbs<LIM:=by simpa using IZ
 have hp:x.den / Nat.gcd x.den y.den<LIM:=cp (pw _ _) hx.2
 have hq:y.den / Nat.gcd x.den y.den<LIM:=cp (pw _ _) hy.2
 have hp0:0<x.den / Nat.gcd x.den y.den:=Nat.div_pos (vT y.den hdx) hg
 have vy:0<x.den / Nat.gcd x.den y.den*y.den:=vP hp0 hdy
 have Ia:=Ds x y
 unfold iA
 rw[show br (i8 x)=_ from iR (oo (some x)),show br (i8 y)=_ from iR (oo (some y)),oh hx,oh hy,aa,aa]
 simp only[qm,cj,aK,aa,rp,t6]
 rw[Lw (ee hx) (ee hy),aa,dQ,dQ,Fu (ee hx) O9 (by omega),aa,Fu (ee hy) O9 (by omega),aa,BJ,BJ,IV hx.1 (by rw[dQ];exact hq),aa,IV hy.1 (by rw[dQ];exact hp),aa,IV (by rw[dQ];exact hp) (ee hy),←jZ]
 unfold Bo
 revert Ia
 generalize x.num*((y.den / Nat.gcd x.den y.den:Nat):Int)=z1
 generalize y.num*((x.den / Nat.gcd x.den y.den:Nat):Int)=z2
 revert vy
 generalize x.den / Nat.gcd x.den y.den*y.den=D
 intro vy Ia
 have hsum:jz (enc z1) (enc z2)=some (if z1.natAbs<LIM∧z2.natAbs<LIM then enc (z1+z2) else Dh):=by
  by_cases h:z1.natAbs<LIM∧z2.natAbs<LIM
  ·rw[if_pos h,G_Add h.1 h.2]
  ·rw[if_neg h,MT (by rw[jU,jU,←vS];exact bf h)]
 rw[hsum,aa,aa,nQ]
 by_cases h:z1.natAbs<LIM∧z2.natAbs<LIM
 ·rw[if_pos h]
  by_cases h2:(z1+z2).natAbs<LIM∧D<LIM
  ·rw[DR h2.1 (by rw[dQ];exact h2.2) (by omega),Ia,if_pos ⟨h.1,h.2,h2⟩];rfl
  ·rw[DQ (by rw[jU,jU,←vS,dQ];exact bf h2),if_neg fun hh=>h2 hh.2.2];rfl
 ·rw[if_neg h,DQ (by rw[qP,rH]),if_neg fun hh=>h ⟨hh.1,hh.2.1⟩];rfl
theorem DM {x y:ao}(hx:okR x)(hy:okR y)(h:((cK x).isSome&&(cK y).isSome)=false):iA x y=some Bz:=by
 unfold iA
 rw[iR hx,iR hy,aa,aa,wd,aa]
 cases h1:(cK x).isSome with
 |false=>rfl
 |true=>
  cases h2:(cK y).isSome with
  |false=>rfl
  |true=>rw[h1,h2] at h;cases h
def HI(a b:Option Rat):Option Rat:=a.bind fun x=>b.bind fun y=>Bo x y
def Bp(a b:Option Rat):Option Rat:=a.bind fun x=>b.bind fun y=>uS x y
def LW(a:Option Rat):Option Rat:=a.map fun x=>-x
def LX(a:Option Rat):Option Rat:=a.bind fun x=>if x=0 then none else some x⁻¹
def osub(a b:Option Rat):Option Rat:=HI a (LW b)
def HG(a b:Option Rat):Option Rat:=Bp a (LX b)
def osgn(a:Option Rat):Int:=match a with|some x=>x.num.sign|none=>0
theorem HH(a b:Option Rat):Ao (HI a b):=by
 cases a with
 |none=>exact qQ
 |some x=>
  cases b with
  |none=>exact qQ
  |some y=>exact NO x y
theorem HF(a b:Option Rat):Ao (Bp a b):=by
 cases a with
 |none=>exact qQ
 |some x=>
  cases b with
  |none=>exact qQ
  |some y=>exact NM x y
theorem Il {x:Rat}(h:mn x):mn (-x):=⟨by rw[Rat.neg_num,Int.natAbs_neg];exact h.1,h.2⟩
theorem Ct {a:Option Rat}(h:Ao a):Ao (LW a):=by
 cases a with
 |none=>exact qQ
 |some x=>
  intro q hq
  injection hq with hq
  subst hq
  exact Il (h x rfl)
theorem PK {x:Rat}(h:mn x)(h0:x≠0):mn x⁻¹:=by
 have hn:x.num≠0:=fun h=>h0 (Rat.num_eq_zero.1 h)
 refine⟨?_,?_⟩
 ·rw[Rat.num_inv,vU,Int.natAbs_sign,if_neg hn,kG,dQ];exact h.2
 ·rw[Rat.den_inv,if_neg hn];exact h.1
theorem NZ {a:Option Rat}(h:Ao a):Ao (LX a):=by
 cases a with
 |none=>exact qQ
 |some x=>
  intro q hq
  have hq:(if x=0 then none else some x⁻¹)=some q:=hq
  split at hq
  ·cases hq
  ·rename_i h0
   injection hq with hq
   subst hq
   exact PK (h x rfl) h0
theorem N1(a b:Option Rat):Ao (HG a b):=HF _ _
theorem Kh {x y:ao}(hx:okR x)(hy:okR y):iA x y=some (vH (HI (cK x) (cK y))):=by
 cases h1:cK x with
 |none=>exact DM hx hy (by rw[h1];rfl)
 |some p=>
  cases h2:cK y with
  |none=>exact DM hx hy (by rw[h1,h2];rfl)
  |some q=>
   obtain⟨hp,rfl⟩:=cY.1 h1
   obtain⟨hq,rfl⟩:=cY.1 h2
   exact G_rAdd hp hq
theorem Kg {x y:ao}(hx:okR x)(hy:okR y):iz x y=some (vH (Bp (cK x) (cK y))):=by
 cases h1:cK x with
 |none=>exact DL hx hy (by rw[h1];rfl)
 |some p=>
  cases h2:cK y with
  |none=>exact DL hx hy (by rw[h1,h2];rfl)
  |some q=>
   obtain⟨hp,rfl⟩:=cY.1 h1
   obtain⟨hq,rfl⟩:=cY.1 h2
   exact G_rMul hp hq
theorem Kf {x:ao}(hx:okR x):mI x=some (vH (LW (cK x))):=by
 unfold mI
 rw[iR hx,aa]
 cases h1:cK x with
 |none=>rw[wd,aa];rfl
 |some p=>
  obtain⟨hp,rfl⟩:=cY.1 h1
  simp only[qm,cj,aK,rp,t6]
  rw[Q1 hp.1,aa]
  rfl
theorem G_osub {x y:ao}(hx:okR x)(hy:okR y):si x y=some (vH (osub (cK x) (cK y))):=by
 unfold si
 rw[Kf hy,aa,Kh hx (oo _),aa,zK (Ct (CX y))]
 rfl
theorem Kj {q:Rat}(hq:mn q):dX (enc (q.den:Int)) (enc q.num)=some (vH (LX (some q))):=by
 by_cases h:q=0
 ·subst h
  show dX _ (enc 0)=_
  rw[IW];rfl
 ·have hn:q.num≠0:=fun h0=>h (Rat.num_eq_zero.1 h0)
  rw[DR (ee hq) hq.1 hn,←Rat.inv_def]
  show _=some (vH (if q=0 then none else some q⁻¹))
  rw[if_neg h];rfl
theorem G_odiv {x y:ao}(hx:okR x)(hy:okR y):sk x y=some (vH (HG (cK x) (cK y))):=by
 unfold sk
 rw[iR hy,aa]
 cases h2:cK y with
 |none=>
  rw[wd,aa]
  show some Bz=some (vH (Bp (cK x) none))
  unfold Bp
  cases cK x <;> rfl
 |some q=>
  obtain⟨hq,rfl⟩:=cY.1 h2
  simp only[qm,cj,aK,rp,t6]
  rw[Kj hq,aa,Kg hx (oo _),aa,zK (NZ fun r hr=>by injection hr with hr;subst hr;exact hq)]
  rfl
theorem QU {x:ao}(hx:okR x):lb x=some (osgn (cK x)):=by
 unfold lb
 rw[iR hx,aa]
 cases h1:cK x with
 |none=>rfl
 |some p=>
  obtain⟨hp,rfl⟩:=cY.1 h1
  simp only[qm,cj,aK,rp]
  rw[wh hp.1,aa]
  rfl
theorem C5(n:Int):Rat.divInt n 1=(n:Rat):=by
 show Rat.divInt n ((1:Nat):Int)=_
 rw[Rat.divInt_ofNat]
 exact Rat.mkRat_self (n:Rat)
theorem QT {n:Int}(h:n.natAbs<LIM):nA (enc n)=some (i8 (n:Rat)):=by
 unfold nA
 rw[Lr,aa,DR h (by decide) (by decide),aa,C5]
theorem G_rOf {n:Int}(h1:-9223372036854775808≤n)(h2:n≤9223372036854775807):pl n=some (i8 (n:Rat)):=by
 have hL:n.natAbs<LIM:=eD (show n.natAbs<18446744073709551616 by omega) (by decide)
 unfold pl
 rw[Ki h1 h2,aa,QT hL,aa]
end
end Go.Proofs.YtaedcknhkjpmlaaGreat
