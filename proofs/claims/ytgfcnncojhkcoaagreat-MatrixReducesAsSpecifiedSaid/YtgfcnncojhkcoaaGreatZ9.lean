/-
  Lemmas, part 9. Conditions: none.
-/
import Derived.Test.YtgfcnncojhkcoaaGreatZ8
import Derived.Test.YtgfcnncojhkcoaaGreatRows
import Derived.ProofKit
import Derived.OpenShut
import Derived.ChangeSame
import Derived.Deep.Slices
import Derived.JoinedCond
import Derived.SizedLaws
import Derived.Deep.CondSized
set_option linter.all false
set_option maxRecDepth 100000
set_option maxHeartbeats 40000000
namespace Go.Proofs.YtgfcnncojhkcoaaGreat
open Go.RowKit Go.IntKind Tryz Go.Proofs.Tryz
noncomputable section
def ot(qk:List Int):Int×(List ai)→Option ((Int×(List ai))⊕((List ai))):=fun (aG,aS)=>cnd (decide (aG<((qk).length:Int))) (gd (0≤aG∧aG<((qk).length:Int)) (bnd (e9 ((qk)[(aG).toNat]!)) fun x4=>gd ((aS++[x4]).length*136≤140737488355328) (some (.inl (i64.wrap (aG+(1:Int)),aS++[x4]))))) (some (.inr aS))
def gr(dJ:Int)(cG:Int)(qk:List Int):Option an:=bnd (aK (ot qk) ((0:Int),([]:List ai))) fun aE=>some (⟨dJ,cG,aE⟩:an)
theorem lI {dJ:Int}{cG:Int}{qk:List Int}{r:an}(h:gr dJ cG qk=some r):ax prog 59 [dI .i64 dJ,dI .i64 cG,dL (cI .i64) qk] (dG aH r):=by
 refine bn (rs:=[.cell 6 24]) (fun cx hx h0=>?_) func59
 unfold gr at h
 refine rs hx fun K hK=>?_
 refine s1 (d:=.pt 0 0) (aO aq) ?_
 refine .nil (hK _ _ (rs hx fun K hK=>?_))
 iterate 2 refine sa ?_
 refine s1 (d:=.ag [dI .i64 dJ,dI .i64 cG,dN]) (aR aq) ?_
 refine s1 (d:=.pt 1 0) (aO aq) ?_
 refine s0 (bu (ds':=[dI .i64 dJ,dI .i64 cG,dN]) aq) ?_
 refine .nil (hK _ _ (AW.seq (ra hx ?_)))
 refine AW.block ?_
 obtain⟨aE,hy,h⟩:=ah h
 refine lp (S:=Int×(List ai)) (X:=(List ai)) (fun (aG,aS)=>[(6,.pt 0 0),(7,.pt 1 0),(13,dL (cI .i64) qk),(14,dI .i64 ((qk).length:Int)),(15,dI .i64 aG)]) (fun (aG,aS)=>⟨[(0,[dI .i64 (0:Int),dI .i64 (0:Int),dN]),(1,[dI .i64 dJ,dI .i64 cG,dO 2 ae aS])],[(2,(aS).length,36,34)],3⟩) (PE cx (.exit 0) (fun aE=>[(6,.pt 0 0),(7,.pt 1 0)]) fun aE=>⟨[(0,[dI .i64 (0:Int),dI .i64 (0:Int),dN]),(1,[dI .i64 dJ,dI .i64 cG,dO 2 ae aE])],[(2,(aE).length,36,34)],3⟩) hy ?_ ?_ ?_
 exact Wk.trans (Wk.nilOwn (ds':=[dI .i64 dJ,dI .i64 cG,dO 2 ae ([]:List ai)]) 1 2 34 36) (wk h0 [0,1,2] (wR rfl (wR rfl (wR rfl (wR rfl (wR rfl wTn))))) (vR rfl (vR rfl wVn)) (wL rfl rfl wLn))
 clear hy h
 rintro⟨aG,aS⟩ y h
 dsimp only[ot] at h
 refine ra hx ?_
 refine AW.seq (cdh h rfl (fun eF h=>?_) (fun eF h=>?_))
 refine AW.skip (AW.seq (AW.block (rs hx fun K hK=>?_)))
 obtain⟨rk,h⟩:=am h
 have xE:(aG).toNat<(qk).length:=by omega
 refine s1 (mL rk b9 bh) ?_
 refine s1 (mh (c:=(cI .i64)) (l:=qk) (n:=(aG).toNat) (o:=0) bh xE) ?_
 refine sa ?_
 refine .nil (hK _ _ (rqd [60] hx fun K hK=>?_))
 refine sa ?_
 refine s1 (bK aF) ?_
 refine sa ?_
 refine cqb h lH fun x4 h=>?_
 refine s1 (mM ([x4]:List ai) ae aF aC) ?_
 obtain⟨Re,h⟩:=am h
 refine s1 (d:=dO 2 ae (aS++[x4])) (eD aF aC Re) ?_
 refine sa ?_
 refine s0 (bu (ds':=[dI .i64 dJ,dI .i64 cG,dO 2 ae (aS++[x4])]) aF) ?_
 refine .nil (hK _ _ (rb hx ?_))
 cases h
 exact PS.l (pe0 h0 [0,1,2])
 refine AW.exit ?_
 try dsimp only
 try simp only[bP,reduceIte,Nat.reduceEqDiff,reduceCtorEq]
 cases h
 exact PS.r ⟨by nofun,PE.i (wk h0 [0,1,2] (wR rfl (wR rfl wTn)) (vR rfl (vR rfl wVn)) (wL rfl rfl wLn))⟩
 rintro ex tm' hp' ⟨rfl,hw⟩
 try dsimp only
 try simp only[bP,reduceIte,Nat.reduceEqDiff,reduceCtorEq]
 refine AW.weak hw (rs hx fun K hK=>?_)
 refine s1 (d:=.ag [dI .i64 dJ,dI .i64 cG,dO 2 ae aE]) (bp aq) ?_
 refine s0 (bu (ds':=[dI .i64 dJ,dI .i64 cG,dO 2 ae aE]) aq) ?_
 refine .nil (hK _ _ (AW.ret ?_))
 cases h
 exact dm.mk1 (bN (es:=[dI .i64 dJ,dI .i64 cG,dO 2 ae aE]) rfl aq rfl rfl (ltb rfl) (leb rfl) rfl (.inr (.inr ⟨_,(et (wc (bI _) (wc (bI _) (wc (tT _) wcn)))),rfl,rfl⟩)))
def iv(qk:List Int):Option (List ai):=bnd (gr (1:Int) ((qk).length:Int) qk) fun x1=>some x1.vV
theorem px {qk:List Int}{r:List ai}(h:iv qk=some r):ax prog 36 [dL (cI .i64) qk] (dL ae r):=by
 refine bn (rs:=[.tmp 2]) (fun cx hx h0=>?_) func36
 unfold iv at h
 refine rs hx fun K hK=>?_
 refine s1 (d:=dO 0 ae ([]:List ai)) (eC aF aC) ?_
 refine .nil (hK _ _ (rs hx fun K hK=>?_))
 iterate 3 refine sa ?_
 refine scb h lI fun x1 h=>?_
 refine s1 (Mc aq aF) ?_
 refine sa ?_
 refine .nil (hK _ _ (AW.ret ?_))
 cases h
 exact rv1
def kU(a6:List Int)(aZ:List Int):Int→Option (Int⊕(Bool⊕Unit)):=fun bk=>cnd (decide (bk<((a6).length:Int))) (gd (0≤bk∧bk<((a6).length:Int)) (gd (0≤bk∧bk<((aZ).length:Int)) (cnd (decide (((a6)[(bk).toNat]!)≠((aZ)[(bk).toNat]!))) (some (.inr (.inl false))) (some (.inl (i64.wrap (bk+(1:Int)))))))) (some (.inr (.inr ())))
def pO(a6:List Int)(aZ:List Int):Option Bool:=cnd (decide (((a6).length:Int)≠((aZ).length:Int))) (some false) (bnd (aK (kU a6 aZ) (0:Int)) fun y8=>match y8 with| .inl r=>some r| .inr ()=>some true)
theorem Gv {a6:List Int}{aZ:List Int}{r:Bool}(h:pO a6 aZ=some r):ax prog 15 [dL (cI .i64) a6,dL (cI .i64) aZ] (dB r):=by
 refine bn (rs:=[.tmp 4]) (fun cx hx h0=>?_) func15
 unfold pO at h
 refine ra hx ?_
 refine AW.seq (ra hx ?_)
 refine cdh h rfl (fun eF h=>?_) (fun eF h=>?_)
 refine ra hx ?_
 refine AW.ret ?_
 cases h
 exact rv1
 refine AW.skip (AW.seq (ra hx ?_))
 refine AW.block ?_
 obtain⟨y,hy,h⟩:=ah h
 refine lp (S:=Int) (X:=Bool⊕Unit) (fun bk=>[(0,dL (cI .i64) a6),(1,dL (cI .i64) aZ),(12,dI .i64 ((a6).length:Int)),(13,dI .i64 bk)]) (fun bk=>⟨[],[],0⟩) (PS (PR [.tmp 4] fun r=>dB r) (PE cx (.exit 0) (fun ()=>[]) fun ()=>⟨[],[],0⟩)) hy ?_ ?_ ?_
 exact wk h0 [] (wR rfl (wR rfl (wR rfl (wR rfl wTn)))) wVn wLn
 clear hy h
 rintro bk y h
 dsimp only[kU] at h
 refine ra hx ?_
 refine AW.seq (cdh h rfl (fun tz h=>?_) (fun tz h=>?_))
 refine AW.skip (AW.seq (AW.block (ra hx ?_)))
 refine rsd [] hx fun K hK=>?_
 iterate 2 refine sa ?_
 obtain⟨Ou,h⟩:=am h
 have hn4:(bk).toNat<(a6).length:=by omega
 refine s1 (mL Ou b9 bh) ?_
 refine s1 (mh (c:=(cI .i64)) (l:=a6) (n:=(bk).toNat) (o:=0) bh hn4) ?_
 iterate 2 refine sa ?_
 obtain⟨FQ,h⟩:=am h
 have hn6:(bk).toNat<(aZ).length:=by omega
 refine s1 (mL FQ b9 bh) ?_
 refine s1 (mh (c:=(cI .i64)) (l:=aZ) (n:=(bk).toNat) (o:=0) bh hn6) ?_
 refine sa ?_
 refine .nil (hK _ _ (cdh h rfl (fun tX h=>?_) (fun tX h=>?_)))
 refine ra hx ?_
 refine AW.ret ?_
 cases h
 refine PS.r ⟨by nofun,PS.l (PR.i ?_)⟩
 exact rv1
 refine AW.skip (rb hx ?_)
 cases h
 exact PS.l (pe0 h0 [])
 refine AW.exit ?_
 try dsimp only
 try simp only[bP,reduceIte,Nat.reduceEqDiff,reduceCtorEq]
 cases h
 exact PS.r ⟨by nofun,PS.r (PE.i (wk h0 [] wTn wVn wLn))⟩
 rcases y with r|⟨⟩
 rintro ex tm' hp' ⟨rfl,hw⟩
 cases h
 exact hw
 rintro ex tm' hp' ⟨rfl,hw⟩
 try dsimp only
 try simp only[bP,reduceIte,Nat.reduceEqDiff,reduceCtorEq]
 refine AW.weak hw (ra hx ?_)
 refine AW.ret ?_
 cases h
 exact rv1
def nO(bq:an)(p_e:Int)(KR:dx):Option Bool:=bnd (S:=Bool) (cnd (decide (p_e=KR.vE)) (bnd (fG bq KR.vM) fun x2=>some (x2)) (some (false))) fun gP=>some gP
theorem Gu {bq:an}{p_e:Int}{KR:dx}{r:Bool}(h:nO bq p_e KR=some r):ax prog 25 [dG aH bq,dI .i64 p_e,dG tG KR] (dB r):=by
 refine bn (rs:=[.tmp 6]) (fun cx hx h0=>?_) func25
 unfold nO at h
 refine rs hx fun K hK=>?_
 refine s1 (d:=.pt 0 0) fC ?_
 refine s1 (d:=.pt 1 0) fC ?_
 refine sa ?_
 refine .nil (hK _ _ (AW.seq ?_))
 obtain⟨gP,hy,h⟩:=ah h
 refine jn ((PE cx .normal (fun gP=>[(6,dB gP)]) fun gP=>⟨[],[],0⟩) gP) ?_ ?_
 replace h:=hy
 refine rq hx fun K hK=>?_
 iterate 2 refine sa ?_
 refine s1 (bK wq) ?_
 iterate 2 refine sa ?_
 rcases ee (decide (p_e=KR.vE)) with eF|eF
 replace h:=ek eF h
 refine g1 (d:=dG aH bq) eF (bp aq) ?_
 refine ga eF ?_
 refine g1 (d:=dG aH KR.vM) eF (bp aq) ?_
 obtain⟨x2,Qn,h⟩:=ah h
 refine g1 eF (wZ rfl (rY Qn) (by simp only[fx,i2,nZ,rW,j7,mf];exact⟨dH _ _,dH _ _⟩) (lA (ao _) (lA (ao _) lAn)) (.inl rfl)) ?_
 refine s1 (au eF) ?_
 refine sa ?_
 refine .nil (hK _ _ ?_)
 cases h
 exact pe0 h0 []
 replace h:=eo eF h
 iterate 4 refine aT rfl rfl eF ?_
 refine s1 (aN eF) ?_
 refine sa ?_
 refine .nil (hK _ _ ?_)
 cases h
 exact pe0 h0 []
 rintro ex tm' hp' ⟨rfl,hw⟩
 refine AW.weak hw (AW.ret ?_)
 cases h
 exact rv1
def kS :Option Bool:=bnd (gr (2:Int) (2:Int) [(1:Int),(2:Int),(3:Int),(4:Int)]) fun x1=>bnd (g5 x1) fun x3=>bnd (lS x1) fun x5=>bnd (gr (2:Int) (3:Int) [(0:Int),(2:Int),(4:Int),(0:Int),(1:Int),(2:Int)]) fun x7=>bnd (g5 x7) fun x9=>bnd (iv [(5:Int),(6:Int)]) fun fU=>bnd (iY x1 fU) fun qz=>bnd (gr (1:Int) (2:Int) [(1:Int),(1:Int)]) fun uL=>bnd (iv [(2:Int)]) fun pk=>bnd (iY uL pk) fun uK=>bnd (gr (2:Int) (1:Int) [(1:Int),(1:Int)]) fun te=>bnd (iv [(1:Int),(2:Int)]) fun xx=>bnd (iY te xx) fun Am=>bnd (gr (1:Int) (3:Int) [(1:Int),(2:Int),(3:Int)]) fun yo=>bnd (j3 yo) fun uJ=>bnd (gr (2:Int) (2:Int) [(2:Int),(1:Int),(1:Int),(2:Int)]) fun Gn=>bnd (fJ Gn) fun Aq=>bnd (gr (2:Int) (2:Int) [(1:Int),(2:Int),(2:Int),(1:Int)]) fun KA=>bnd (fJ KA) fun Cs=>bnd (S:=Bool) (cnd (decide (x3.2.2≠(0:Int))) (some (true)) (cnd (decide (x5.2≠(0:Int))) (some (true)) (cnd (decide (x9.2.2≠(0:Int))) (some (true)) (cnd (decide (qz.2≠(0:Int))) (some (true)) (cnd (decide (uK.2≠(70:Int))) (some (true)) (cnd (decide (Am.2≠(200:Int))) (some (true)) (cnd (decide (uJ.2≠(0:Int))) (some (true)) (cnd (decide (Aq.2≠(0:Int))) (some (true)) (cnd (decide (Cs.2≠(0:Int))) (some (true)) (cnd (decide (((uJ.1).length:Int)≠(2:Int))) (some (true)) (cnd (decide (((qz.1).length:Int)≠(2:Int))) (some (true)) (cnd (decide (((x3.2.1).length:Int)≠(2:Int))) (some (true)) (some (decide (((x9.2.1).length:Int)≠(1:Int)))))))))))))))) fun cc=>cnd cc (some false) (bnd (S:=Bool) (bnd (gT (2:Int)) fun x53=>bnd (fG x3.1 x53) fun x55=>cnd x55 (gd (0≤(0:Int)∧(0:Int)<((x3.2.1).length:Int)) (cnd (decide (((x3.2.1)[((0:Int)).toNat]!)=(0:Int))) (gd (0≤(1:Int)∧(1:Int)<((x3.2.1).length:Int)) (cnd (decide (((x3.2.1)[((1:Int)).toNat]!)=(1:Int))) (bnd (e9 (-2:Int)) fun x64=>cnd (decide (x5.1=x64)) (bnd (gr (2:Int) (3:Int) [(0:Int),(1:Int),(2:Int),0,0,0]) fun x67=>bnd (fG x9.1 x67) fun x69=>cnd x69 (gd (0≤(0:Int)∧(0:Int)<((x9.2.1).length:Int)) (bnd (some (decide (((x9.2.1)[((0:Int)).toNat]!)=(1:Int)))) fun x74=>some (x74))) (some (false))) (some (false))) (some (false)))) (some (false)))) (some (false))) fun e7=>bnd (S:=Bool) (cnd e7 (gd (0≤(0:Int)∧(0:Int)<((qz.1).length:Int)) (bnd (e9 (-4:Int)) fun x80=>cnd (decide ((qz.1)[((0:Int)).toNat]! =x80)) (gd (0≤(1:Int)∧(1:Int)<((qz.1).length:Int)) (bnd (pN (9:Int) (2:Int)) fun x85=>cnd (decide ((qz.1)[((1:Int)).toNat]! =x85)) (gd (0≤(0:Int)∧(0:Int)<((uJ.1).length:Int)) (bnd (iv [(-2:Int),(1:Int),(0:Int)]) fun x90=>bnd (dc ((uJ.1)[((0:Int)).toNat]!) x90) fun x92=>cnd x92 (gd (0≤(1:Int)∧(1:Int)<((uJ.1).length:Int)) (bnd (iv [(-3:Int),(0:Int),(1:Int)]) fun x97=>bnd (dc ((uJ.1)[((1:Int)).toNat]!) x97) fun x99=>cnd x99 (cnd Aq.1 (some (!Cs.1)) (some (false))) (some (false)))) (some (false)))) (some (false)))) (some (false)))) (some (false))) fun j9=>some j9)
theorem wm  {r:Bool}(h:kS=some r):ax prog 12 [] (dB r):=by
 refine bn (rs:=[.tmp 0]) (fun cx hx h0=>?_) func12
 unfold kS at h
 refine ra hx ?_
 refine rs hx fun K hK=>?_
 refine s1 (d:=dO 0 (cI .i64) [(1:Int),(2:Int),(3:Int),(4:Int)]) (jc b9 bh) ?_
 refine scb h lI fun x1 h=>?_
 refine s1 (d:=.pt 1 0) (aO aq) ?_
 refine s0 (bu (ds':=[dI .i64 x1.vR,dI .i64 x1.vC,dL ae x1.vV]) aq) ?_
 refine .nil (hK _ _ (rs hx fun K hK=>?_))
 refine s1 (d:=dG aH x1) (bp aq) ?_
 refine scb h rE fun x3 h=>?_
 iterate 4 refine sa ?_
 refine s1 (d:=.pt 2 0) (aO aq) ?_
 refine s0 (bu (ds':=[dI .i64 x3.1.vR,dI .i64 x3.1.vC,dL ae x3.1.vV]) aq) ?_
 iterate 2 refine sa ?_
 refine .nil (hK _ _ (rs hx fun K hK=>?_))
 refine s1 (d:=dG aH x1) (bp aq) ?_
 refine scb h uR fun x5 h=>?_
 iterate 3 refine sa ?_
 refine s1 (lB (F:=ae.f co) aC) ?_
 refine s0 (ig (b':=x5.1) (aX.id _ _) aC) ?_
 refine sa ?_
 refine .nil (hK _ _ (rs hx fun K hK=>?_))
 refine s1 (d:=dO 4 (cI .i64) [(0:Int),(2:Int),(4:Int),(0:Int),(1:Int),(2:Int)]) (jc b9 bh) ?_
 refine scb h lI fun x7 h=>?_
 refine scb h rE fun x9 h=>?_
 iterate 4 refine sa ?_
 refine s1 (d:=.pt 5 0) (aO aq) ?_
 refine s0 (bu (ds':=[dI .i64 x9.1.vR,dI .i64 x9.1.vC,dL ae x9.1.vV]) aq) ?_
 iterate 2 refine sa ?_
 refine .nil (hK _ _ (rsd [36,29] hx fun K hK=>?_))
 refine s1 (d:=dG aH x1) (bp aq) ?_
 refine s1 (By b9 bh) ?_
 refine cqb h px fun fU h=>?_
 refine cqb h sy fun qz h=>?_
 iterate 5 refine sa ?_
 refine .nil (hK _ _ (rs hx fun K hK=>?_))
 refine s1 (d:=dO 6 (cI .i64) [(1:Int),(1:Int)]) (jc b9 bh) ?_
 refine scb h lI fun uL h=>?_
 refine s1 (d:=dO 7 (cI .i64) [(2:Int)]) (jc b9 bh) ?_
 refine scb h px fun pk h=>?_
 refine scb h sy fun uK h=>?_
 iterate 5 refine sa ?_
 refine .nil (hK _ _ (rs hx fun K hK=>?_))
 refine s1 (d:=dO 8 (cI .i64) [(1:Int),(1:Int)]) (jc b9 bh) ?_
 refine scb h lI fun te h=>?_
 refine s1 (d:=dO 9 (cI .i64) [(1:Int),(2:Int)]) (jc b9 bh) ?_
 refine scb h px fun xx h=>?_
 refine scb h sy fun Am h=>?_
 iterate 5 refine sa ?_
 refine .nil (hK _ _ (rs hx fun K hK=>?_))
 refine s1 (d:=dO 10 (cI .i64) [(1:Int),(2:Int),(3:Int)]) (jc b9 bh) ?_
 refine scb h lI fun yo h=>?_
 refine scb h xO fun uJ h=>?_
 iterate 5 refine sa ?_
 refine .nil (hK _ _ (rs hx fun K hK=>?_))
 refine s1 (d:=dO 11 (cI .i64) [(2:Int),(1:Int),(1:Int),(2:Int)]) (jc b9 bh) ?_
 refine scb h lI fun Gn h=>?_
 refine scb h pw fun Aq h=>?_
 iterate 5 refine sa ?_
 refine .nil (hK _ _ (rs hx fun K hK=>?_))
 refine s1 (d:=dO 12 (cI .i64) [(1:Int),(2:Int),(2:Int),(1:Int)]) (jc b9 bh) ?_
 refine scb h lI fun KA h=>?_
 refine scb h pw fun Cs h=>?_
 iterate 5 refine sa ?_
 refine .nil (hK _ _ ?_)
 iterate 2 refine AW.seq ?_
 obtain⟨cc,hy,h⟩:=ah h
 refine jn ((PE cx .normal (fun cc=>[(2,.pt 0 0),(3,dL (cI .i64) x3.2.1),(5,.pt 1 0),(7,.pt 2 0),(8,dL (cI .i64) x9.2.1),(10,dL ae qz.1),(16,dL (cL ae) uJ.1),(18,dB Aq.1),(20,dB Cs.1),(137,dB cc)]) fun cc=>⟨[(0,[dI .i64 x3.1.vR,dI .i64 x3.1.vC,dL ae x3.1.vV]),(1,dC (ae.f x5.1)),(2,[dI .i64 x9.1.vR,dI .i64 x9.1.vC,dL ae x9.1.vV])],[],3⟩) cc) ?_ ?_
 replace h:=hy
 refine rq hx fun K hK=>?_
 iterate 3 refine sa ?_
 rcases ee (decide (x3.2.2≠(0:Int))) with wz|wz
 replace h:=ek wz h
 iterate 2 refine aT rfl rfl wz ?_
 refine s1 (au wz) ?_
 refine sa ?_
 iterate 2 refine aT rfl rfl rfl ?_
 refine s1 (au rfl) ?_
 refine sa ?_
 iterate 2 refine aT rfl rfl rfl ?_
 refine s1 (au rfl) ?_
 refine sa ?_
 iterate 2 refine aT rfl rfl rfl ?_
 refine s1 (au rfl) ?_
 refine sa ?_
 iterate 2 refine aT rfl rfl rfl ?_
 refine s1 (au rfl) ?_
 refine sa ?_
 iterate 2 refine aT rfl rfl rfl ?_
 refine s1 (au rfl) ?_
 refine sa ?_
 iterate 2 refine aT rfl rfl rfl ?_
 refine s1 (au rfl) ?_
 refine sa ?_
 iterate 2 refine aT rfl rfl rfl ?_
 refine s1 (au rfl) ?_
 refine sa ?_
 iterate 3 refine aT rfl rfl rfl ?_
 refine s1 (au rfl) ?_
 refine sa ?_
 iterate 3 refine aT rfl rfl rfl ?_
 refine s1 (au rfl) ?_
 refine sa ?_
 iterate 3 refine aT rfl rfl rfl ?_
 refine s1 (au rfl) ?_
 refine sa ?_
 iterate 3 refine aT rfl rfl rfl ?_
 refine s1 (au rfl) ?_
 refine .nil (hK _ _ ?_)
 cases h
 exact pe0 h0 [2,3,5]
 replace h:=eo wz h
 iterate 2 refine ga wz ?_
 refine s1 (aN wz) ?_
 refine sa ?_
 rcases ee (decide (x5.2≠(0:Int))) with wy|wy
 replace h:=ek wy h
 iterate 2 refine aT rfl rfl wy ?_
 refine s1 (au wy) ?_
 refine sa ?_
 iterate 2 refine aT rfl rfl rfl ?_
 refine s1 (au rfl) ?_
 refine sa ?_
 iterate 2 refine aT rfl rfl rfl ?_
 refine s1 (au rfl) ?_
 refine sa ?_
 iterate 2 refine aT rfl rfl rfl ?_
 refine s1 (au rfl) ?_
 refine sa ?_
 iterate 2 refine aT rfl rfl rfl ?_
 refine s1 (au rfl) ?_
 refine sa ?_
 iterate 2 refine aT rfl rfl rfl ?_
 refine s1 (au rfl) ?_
 refine sa ?_
 iterate 2 refine aT rfl rfl rfl ?_
 refine s1 (au rfl) ?_
 refine sa ?_
 iterate 3 refine aT rfl rfl rfl ?_
 refine s1 (au rfl) ?_
 refine sa ?_
 iterate 3 refine aT rfl rfl rfl ?_
 refine s1 (au rfl) ?_
 refine sa ?_
 iterate 3 refine aT rfl rfl rfl ?_
 refine s1 (au rfl) ?_
 refine sa ?_
 iterate 3 refine aT rfl rfl rfl ?_
 refine s1 (au rfl) ?_
 refine .nil (hK _ _ ?_)
 cases h
 exact pe0 h0 [2,3,5]
 replace h:=eo wy h
 iterate 2 refine ga wy ?_
 refine s1 (aN wy) ?_
 refine sa ?_
 rcases ee (decide (x9.2.2≠(0:Int))) with Ha|Ha
 replace h:=ek Ha h
 iterate 2 refine aT rfl rfl Ha ?_
 refine s1 (au Ha) ?_
 refine sa ?_
 iterate 2 refine aT rfl rfl rfl ?_
 refine s1 (au rfl) ?_
 refine sa ?_
 iterate 2 refine aT rfl rfl rfl ?_
 refine s1 (au rfl) ?_
 refine sa ?_
 iterate 2 refine aT rfl rfl rfl ?_
 refine s1 (au rfl) ?_
 refine sa ?_
 iterate 2 refine aT rfl rfl rfl ?_
 refine s1 (au rfl) ?_
 refine sa ?_
 iterate 2 refine aT rfl rfl rfl ?_
 refine s1 (au rfl) ?_
 refine sa ?_
 iterate 3 refine aT rfl rfl rfl ?_
 refine s1 (au rfl) ?_
 refine sa ?_
 iterate 3 refine aT rfl rfl rfl ?_
 refine s1 (au rfl) ?_
 refine sa ?_
 iterate 3 refine aT rfl rfl rfl ?_
 refine s1 (au rfl) ?_
 refine sa ?_
 iterate 3 refine aT rfl rfl rfl ?_
 refine s1 (au rfl) ?_
 refine .nil (hK _ _ ?_)
 cases h
 exact pe0 h0 [2,3,5]
 replace h:=eo Ha h
 iterate 2 refine ga Ha ?_
 refine s1 (aN Ha) ?_
 refine sa ?_
 rcases ee (decide (qz.2≠(0:Int))) with G9|G9
 replace h:=ek G9 h
 iterate 2 refine aT rfl rfl G9 ?_
 refine s1 (au G9) ?_
 refine sa ?_
 iterate 2 refine aT rfl rfl rfl ?_
 refine s1 (au rfl) ?_
 refine sa ?_
 iterate 2 refine aT rfl rfl rfl ?_
 refine s1 (au rfl) ?_
 refine sa ?_
 iterate 2 refine aT rfl rfl rfl ?_
 refine s1 (au rfl) ?_
 refine sa ?_
 iterate 2 refine aT rfl rfl rfl ?_
 refine s1 (au rfl) ?_
 refine sa ?_
 iterate 3 refine aT rfl rfl rfl ?_
 refine s1 (au rfl) ?_
 refine sa ?_
 iterate 3 refine aT rfl rfl rfl ?_
 refine s1 (au rfl) ?_
 refine sa ?_
 iterate 3 refine aT rfl rfl rfl ?_
 refine s1 (au rfl) ?_
 refine sa ?_
 iterate 3 refine aT rfl rfl rfl ?_
 refine s1 (au rfl) ?_
 refine .nil (hK _ _ ?_)
 cases h
 exact pe0 h0 [2,3,5]
 replace h:=eo G9 h
 iterate 2 refine ga G9 ?_
 refine s1 (aN G9) ?_
 refine sa ?_
 rcases ee (decide (uK.2≠(70:Int))) with Dz|Dz
 replace h:=ek Dz h
 iterate 2 refine aT rfl rfl Dz ?_
 refine s1 (au Dz) ?_
 refine sa ?_
 iterate 2 refine aT rfl rfl rfl ?_
 refine s1 (au rfl) ?_
 refine sa ?_
 iterate 2 refine aT rfl rfl rfl ?_
 refine s1 (au rfl) ?_
 refine sa ?_
 iterate 2 refine aT rfl rfl rfl ?_
 refine s1 (au rfl) ?_
 refine sa ?_
 iterate 3 refine aT rfl rfl rfl ?_
 refine s1 (au rfl) ?_
 refine sa ?_
 iterate 3 refine aT rfl rfl rfl ?_
 refine s1 (au rfl) ?_
 refine sa ?_
 iterate 3 refine aT rfl rfl rfl ?_
 refine s1 (au rfl) ?_
 refine sa ?_
 iterate 3 refine aT rfl rfl rfl ?_
 refine s1 (au rfl) ?_
 refine .nil (hK _ _ ?_)
 cases h
 exact pe0 h0 [2,3,5]
 replace h:=eo Dz h
 iterate 2 refine ga Dz ?_
 refine s1 (aN Dz) ?_
 refine sa ?_
 rcases ee (decide (Am.2≠(200:Int))) with Lt|Lt
 replace h:=ek Lt h
 iterate 2 refine aT rfl rfl Lt ?_
 refine s1 (au Lt) ?_
 refine sa ?_
 iterate 2 refine aT rfl rfl rfl ?_
 refine s1 (au rfl) ?_
 refine sa ?_
 iterate 2 refine aT rfl rfl rfl ?_
 refine s1 (au rfl) ?_
 refine sa ?_
 iterate 3 refine aT rfl rfl rfl ?_
 refine s1 (au rfl) ?_
 refine sa ?_
 iterate 3 refine aT rfl rfl rfl ?_
 refine s1 (au rfl) ?_
 refine sa ?_
 iterate 3 refine aT rfl rfl rfl ?_
 refine s1 (au rfl) ?_
 refine sa ?_
 iterate 3 refine aT rfl rfl rfl ?_
 refine s1 (au rfl) ?_
 refine .nil (hK _ _ ?_)
 cases h
 exact pe0 h0 [2,3,5]
 replace h:=eo Lt h
 iterate 2 refine ga Lt ?_
 refine s1 (aN Lt) ?_
 refine sa ?_
 rcases ee (decide (uJ.2≠(0:Int))) with Ls|Ls
 replace h:=ek Ls h
 iterate 2 refine aT rfl rfl Ls ?_
 refine s1 (au Ls) ?_
 refine sa ?_
 iterate 2 refine aT rfl rfl rfl ?_
 refine s1 (au rfl) ?_
 refine sa ?_
 iterate 3 refine aT rfl rfl rfl ?_
 refine s1 (au rfl) ?_
 refine sa ?_
 iterate 3 refine aT rfl rfl rfl ?_
 refine s1 (au rfl) ?_
 refine sa ?_
 iterate 3 refine aT rfl rfl rfl ?_
 refine s1 (au rfl) ?_
 refine sa ?_
 iterate 3 refine aT rfl rfl rfl ?_
 refine s1 (au rfl) ?_
 refine .nil (hK _ _ ?_)
 cases h
 exact pe0 h0 [2,3,5]
 replace h:=eo Ls h
 iterate 2 refine ga Ls ?_
 refine s1 (aN Ls) ?_
 refine sa ?_
 rcases ee (decide (Aq.2≠(0:Int))) with Lr|Lr
 replace h:=ek Lr h
 iterate 2 refine aT rfl rfl Lr ?_
 refine s1 (au Lr) ?_
 refine sa ?_
 iterate 3 refine aT rfl rfl rfl ?_
 refine s1 (au rfl) ?_
 refine sa ?_
 iterate 3 refine aT rfl rfl rfl ?_
 refine s1 (au rfl) ?_
 refine sa ?_
 iterate 3 refine aT rfl rfl rfl ?_
 refine s1 (au rfl) ?_
 refine sa ?_
 iterate 3 refine aT rfl rfl rfl ?_
 refine s1 (au rfl) ?_
 refine .nil (hK _ _ ?_)
 cases h
 exact pe0 h0 [2,3,5]
 replace h:=eo Lr h
 iterate 2 refine ga Lr ?_
 refine s1 (aN Lr) ?_
 refine sa ?_
 rcases ee (decide (Cs.2≠(0:Int))) with Lq|Lq
 replace h:=ek Lq h
 iterate 3 refine aT rfl rfl Lq ?_
 refine s1 (au Lq) ?_
 refine sa ?_
 iterate 3 refine aT rfl rfl rfl ?_
 refine s1 (au rfl) ?_
 refine sa ?_
 iterate 3 refine aT rfl rfl rfl ?_
 refine s1 (au rfl) ?_
 refine sa ?_
 iterate 3 refine aT rfl rfl rfl ?_
 refine s1 (au rfl) ?_
 refine .nil (hK _ _ ?_)
 cases h
 exact pe0 h0 [2,3,5]
 replace h:=eo Lq h
 iterate 3 refine ga Lq ?_
 refine s1 (aN Lq) ?_
 refine sa ?_
 rcases ee (decide (((uJ.1).length:Int)≠(2:Int))) with Lp|Lp
 replace h:=ek Lp h
 iterate 3 refine aT rfl rfl Lp ?_
 refine s1 (au Lp) ?_
 refine sa ?_
 iterate 3 refine aT rfl rfl rfl ?_
 refine s1 (au rfl) ?_
 refine sa ?_
 iterate 3 refine aT rfl rfl rfl ?_
 refine s1 (au rfl) ?_
 refine .nil (hK _ _ ?_)
 cases h
 exact pe0 h0 [2,3,5]
 replace h:=eo Lp h
 iterate 3 refine ga Lp ?_
 refine s1 (aN Lp) ?_
 refine sa ?_
 rcases ee (decide (((qz.1).length:Int)≠(2:Int))) with Lo|Lo
 replace h:=ek Lo h
 iterate 3 refine aT rfl rfl Lo ?_
 refine s1 (au Lo) ?_
 refine sa ?_
 iterate 3 refine aT rfl rfl rfl ?_
 refine s1 (au rfl) ?_
 refine .nil (hK _ _ ?_)
 cases h
 exact pe0 h0 [2,3,5]
 replace h:=eo Lo h
 iterate 3 refine ga Lo ?_
 refine s1 (aN Lo) ?_
 refine sa ?_
 rcases ee (decide (((x3.2.1).length:Int)≠(2:Int))) with G8|G8
 replace h:=ek G8 h
 iterate 3 refine aT rfl rfl G8 ?_
 refine s1 (au G8) ?_
 refine .nil (hK _ _ ?_)
 cases h
 exact pe0 h0 [2,3,5]
 replace h:=eo G8 h
 iterate 3 refine ga G8 ?_
 refine s1 (aN G8) ?_
 refine .nil (hK _ _ ?_)
 cases h
 exact pe0 h0 [2,3,5]
 rintro ex tm' hp' ⟨rfl,hw⟩
 refine AW.weak hw (cdh h rfl (fun hb52 h=>?_) (fun hb52 h=>?_))
 refine ra hx ?_
 refine AW.ret ?_
 cases h
 exact rv1
 refine AW.skip (AW.seq ?_)
 obtain⟨e7,hy,h⟩:=ah h
 refine jn ((PE cx .normal (fun e7=>[(10,dL ae qz.1),(16,dL (cL ae) uJ.1),(18,dB Aq.1),(20,dB Cs.1),(22,dB e7)]) fun e7=>⟨[],[],0⟩) e7) ?_ ?_
 replace h:=hy
 refine rqd [43,14,60,59] hx fun K hK=>?_
 refine s1 (d:=dG aH x3.1) (bp aq) ?_
 refine cqb h tj fun x53 h=>?_
 refine cqb h rY fun x55 h=>?_
 refine sa ?_
 rcases ee x55 with Fh|Fh
 replace h:=ek Fh h
 refine ga Fh ?_
 obtain⟨hc58,h⟩:=am h
 have hn59:((0:Int)).toNat<(x3.2.1).length:=by omega
 refine g1 Fh (mL hc58 b9 bh) ?_
 refine g1 Fh (mh (c:=(cI .i64)) (l:=x3.2.1) (n:=((0:Int)).toNat) (o:=0) bh hn59) ?_
 refine ga Fh ?_
 refine s1 (au Fh) ?_
 refine sa ?_
 rcases ee (decide (((x3.2.1)[((0:Int)).toNat]!)=(0:Int))) with Fg|Fg
 replace h:=ek Fg h
 refine ga Fg ?_
 obtain⟨hc61,h⟩:=am h
 have hn62:((1:Int)).toNat<(x3.2.1).length:=by omega
 refine g1 Fg (mL hc61 b9 bh) ?_
 refine g1 Fg (mh (c:=(cI .i64)) (l:=x3.2.1) (n:=((1:Int)).toNat) (o:=0) bh hn62) ?_
 refine ga Fg ?_
 refine s1 (au Fg) ?_
 refine sa ?_
 rcases ee (decide (((x3.2.1)[((1:Int)).toNat]!)=(1:Int))) with G7|G7
 replace h:=ek G7 h
 refine g1 (d:=dG ae x5.1) G7 (nq (aX.id _ _) aC) ?_
 obtain⟨x64,hx65,h⟩:=ah h
 refine sqg tok rfl rfl G7 (lH hx65) rfl (lA (ao _) lAn) (.inl (lL _ _)) ?_
 refine g1 G7 (yT tok 4 (by decide) qK aC) ?_
 refine s1 (au G7) ?_
 refine sa ?_
 rcases ee (decide (x5.1=x64)) with Ff|Ff
 replace h:=ek Ff h
 refine g1 (d:=dG aH x9.1) Ff (bp aq) ?_
 refine g1 Ff (By b9 bh) ?_
 obtain⟨x67,hx68,h⟩:=ah h
 refine sqg tok rfl rfl Ff (lI hx68) rfl (lA (ao _) (lA (ao _) (lA (ao _) lAn))) (.inl (lL _ _)) ?_
 obtain⟨x69,hx70,h⟩:=ah h
 refine sqg tok rfl rfl Ff (rY hx70) (by simp only[fx,i2,nZ,rW,j7,mf];exact⟨dH _ _,dH _ _⟩) (lA (ao _) (lA (ao _) lAn)) (.inl rfl) ?_
 refine s1 (au Ff) ?_
 refine sa ?_
 rcases ee x69 with Fe|Fe
 replace h:=ek Fe h
 refine ga Fe ?_
 obtain⟨hc72,h⟩:=am h
 have hn73:((0:Int)).toNat<(x9.2.1).length:=by omega
 refine g1 Fe (mL hc72 b9 bh) ?_
 refine g1 Fe (mh (c:=(cI .i64)) (l:=x9.2.1) (n:=((0:Int)).toNat) (o:=0) bh hn73) ?_
 refine ga Fe ?_
 refine s1 (au Fe) ?_
 obtain⟨x74,hx75,h⟩:=ah h
 replace hx75:=d5 hx75
 refine s2 (d2:=dB x74) mi (gD (congrArg dB hx75)) ?_
 refine .nil (hK _ _ ?_)
 cases h
 exact pe0 h0 []
 replace h:=eo Fe h
 iterate 4 refine aT rfl rfl Fe ?_
 refine s1 (aN Fe) ?_
 refine sa ?_
 refine .nil (hK _ _ ?_)
 cases h
 exact pe0 h0 []
 replace h:=eo Ff h
 iterate 4 refine aT rfl rfl Ff ?_
 refine s1 (aN Ff) ?_
 refine sa ?_
 iterate 4 refine aT rfl rfl rfl ?_
 refine s1 (aN rfl) ?_
 refine sa ?_
 refine .nil (hK _ _ ?_)
 cases h
 exact pe0 h0 []
 replace h:=eo G7 h
 iterate 3 refine aT rfl rfl G7 ?_
 refine s1 (aN G7) ?_
 refine sa ?_
 iterate 4 refine aT rfl rfl rfl ?_
 refine s1 (aN rfl) ?_
 refine sa ?_
 iterate 4 refine aT rfl rfl rfl ?_
 refine s1 (aN rfl) ?_
 refine sa ?_
 refine .nil (hK _ _ ?_)
 cases h
 exact pe0 h0 []
 replace h:=eo Fg h
 iterate 4 refine aT rfl rfl Fg ?_
 refine s1 (aN Fg) ?_
 refine sa ?_
 iterate 3 refine aT rfl rfl rfl ?_
 refine s1 (aN rfl) ?_
 refine sa ?_
 iterate 4 refine aT rfl rfl rfl ?_
 refine s1 (aN rfl) ?_
 refine sa ?_
 iterate 4 refine aT rfl rfl rfl ?_
 refine s1 (aN rfl) ?_
 refine sa ?_
 refine .nil (hK _ _ ?_)
 cases h
 exact pe0 h0 []
 replace h:=eo Fh h
 iterate 4 refine aT rfl rfl Fh ?_
 refine s1 (aN Fh) ?_
 refine sa ?_
 iterate 4 refine aT rfl rfl rfl ?_
 refine s1 (aN rfl) ?_
 refine sa ?_
 iterate 3 refine aT rfl rfl rfl ?_
 refine s1 (aN rfl) ?_
 refine sa ?_
 iterate 4 refine aT rfl rfl rfl ?_
 refine s1 (aN rfl) ?_
 refine sa ?_
 iterate 4 refine aT rfl rfl rfl ?_
 refine s1 (aN rfl) ?_
 refine sa ?_
 refine .nil (hK _ _ ?_)
 cases h
 exact pe0 h0 []
 rintro ex tm' hp' ⟨rfl,hw⟩
 refine AW.weak hw (AW.seq ?_)
 obtain⟨j9,hy,h⟩:=ah h
 refine jn ((PE cx .normal (fun j9=>[(0,dB j9)]) fun j9=>⟨[],[],0⟩) j9) ?_ ?_
 replace h:=hy
 refine rqd [60,61,36,27] hx fun K hK=>?_
 iterate 2 refine sa ?_
 rcases ee e7 with Dy|Dy
 replace h:=ek Dy h
 refine ga Dy ?_
 obtain⟨hc78,h⟩:=am h
 have hn79:((0:Int)).toNat<(qz.1).length:=by omega
 refine g1 Dy (mL hc78 aF aC) ?_
 refine g1 (d:=dG ae ((qz.1)[((0:Int)).toNat]!)) Dy (gk (c:=ae) (l:=qz.1) (n:=((0:Int)).toNat) (o:=0) aC hn79 (cH _ _ rfl)) ?_
 obtain⟨x80,hx81,h⟩:=ah h
 refine sqg tok rfl rfl Dy (lH hx81) rfl (lA (ao _) lAn) (.inl (lL _ _)) ?_
 refine g1 Dy (yT tok 4 (by decide) qK aC) ?_
 refine s1 (au Dy) ?_
 refine sa ?_
 rcases ee (decide ((qz.1)[((0:Int)).toNat]! =x80)) with Dx|Dx
 replace h:=ek Dx h
 refine ga Dx ?_
 obtain⟨hc83,h⟩:=am h
 have hn84:((1:Int)).toNat<(qz.1).length:=by omega
 refine g1 Dx (mL hc83 aF aC) ?_
 refine g1 (d:=dG ae ((qz.1)[((1:Int)).toNat]!)) Dx (gk (c:=ae) (l:=qz.1) (n:=((1:Int)).toNat) (o:=0) aC hn84 (cH _ _ rfl)) ?_
 obtain⟨x85,hx86,h⟩:=ah h
 refine sqg tok rfl rfl Dx (Gt hx86) rfl (lA (ao _) (lA (ao _) lAn)) (.inl (lL _ _)) ?_
 refine g1 Dx (yT tok 4 (by decide) qK aC) ?_
 refine s1 (au Dx) ?_
 refine sa ?_
 rcases ee (decide ((qz.1)[((1:Int)).toNat]! =x85)) with Cn|Cn
 replace h:=ek Cn h
 refine ga Cn ?_
 obtain⟨hc88,h⟩:=am h
 have hn89:((0:Int)).toNat<(uJ.1).length:=by omega
 refine g1 Cn (mL hc88 js aF) ?_
 refine g1 Cn (mh (c:=(cL ae)) (l:=uJ.1) (n:=((0:Int)).toNat) (o:=0) aF hn89) ?_
 refine g1 Cn (By b9 bh) ?_
 obtain⟨x90,hx91,h⟩:=ah h
 refine sqg tok rfl rfl Cn (px hx91) rfl (lA (ao _) lAn) (.inl rfl) ?_
 obtain⟨x92,hx93,h⟩:=ah h
 refine sqg tok rfl rfl Cn (ny hx93) rfl (lA (ao _) (lA (ao _) lAn)) (.inl rfl) ?_
 refine s1 (au Cn) ?_
 refine sa ?_
 rcases ee x92 with Cm|Cm
 replace h:=ek Cm h
 refine ga Cm ?_
 obtain⟨hc95,h⟩:=am h
 have hn96:((1:Int)).toNat<(uJ.1).length:=by omega
 refine g1 Cm (mL hc95 js aF) ?_
 refine g1 Cm (mh (c:=(cL ae)) (l:=uJ.1) (n:=((1:Int)).toNat) (o:=0) aF hn96) ?_
 refine g1 Cm (By b9 bh) ?_
 obtain⟨x97,hx98,h⟩:=ah h
 refine sqg tok rfl rfl Cm (px hx98) rfl (lA (ao _) lAn) (.inl rfl) ?_
 obtain⟨x99,hx100,h⟩:=ah h
 refine sqg tok rfl rfl Cm (ny hx100) rfl (lA (ao _) (lA (ao _) lAn)) (.inl rfl) ?_
 refine s1 (au Cm) ?_
 refine sa ?_
 rcases ee x99 with DD|DD
 replace h:=ek DD h
 refine ga DD ?_
 refine s1 (au DD) ?_
 refine sa ?_
 rcases ee Aq.1 with DC|DC
 replace h:=ek DC h
 iterate 2 refine ga DC ?_
 refine s1 (au DC) ?_
 refine sa ?_
 refine .nil (hK _ _ ?_)
 cases h
 exact pe0 h0 []
 replace h:=eo DC h
 iterate 2 refine aT rfl rfl DC ?_
 refine s1 (aN DC) ?_
 refine sa ?_
 refine .nil (hK _ _ ?_)
 cases h
 exact pe0 h0 []
 replace h:=eo DD h
 refine aT rfl rfl DD ?_
 refine s1 (aN DD) ?_
 refine sa ?_
 iterate 2 refine aT rfl rfl rfl ?_
 refine s1 (aN rfl) ?_
 refine sa ?_
 refine .nil (hK _ _ ?_)
 cases h
 exact pe0 h0 []
 replace h:=eo Cm h
 iterate 6 refine aT rfl rfl Cm ?_
 refine s1 (aN Cm) ?_
 refine sa ?_
 refine aT rfl rfl rfl ?_
 refine s1 (aN rfl) ?_
 refine sa ?_
 iterate 2 refine aT rfl rfl rfl ?_
 refine s1 (aN rfl) ?_
 refine sa ?_
 refine .nil (hK _ _ ?_)
 cases h
 exact pe0 h0 []
 replace h:=eo Cn h
 iterate 6 refine aT rfl rfl Cn ?_
 refine s1 (aN Cn) ?_
 refine sa ?_
 iterate 6 refine aT rfl rfl rfl ?_
 refine s1 (aN rfl) ?_
 refine sa ?_
 refine aT rfl rfl rfl ?_
 refine s1 (aN rfl) ?_
 refine sa ?_
 iterate 2 refine aT rfl rfl rfl ?_
 refine s1 (aN rfl) ?_
 refine sa ?_
 refine .nil (hK _ _ ?_)
 cases h
 exact pe0 h0 []
 replace h:=eo Dx h
 iterate 5 refine aT rfl rfl Dx ?_
 refine s1 (aN Dx) ?_
 refine sa ?_
 iterate 6 refine aT rfl rfl rfl ?_
 refine s1 (aN rfl) ?_
 refine sa ?_
 iterate 6 refine aT rfl rfl rfl ?_
 refine s1 (aN rfl) ?_
 refine sa ?_
 refine aT rfl rfl rfl ?_
 refine s1 (aN rfl) ?_
 refine sa ?_
 iterate 2 refine aT rfl rfl rfl ?_
 refine s1 (aN rfl) ?_
 refine sa ?_
 refine .nil (hK _ _ ?_)
 cases h
 exact pe0 h0 []
 replace h:=eo Dy h
 iterate 5 refine aT rfl rfl Dy ?_
 refine s1 (aN Dy) ?_
 refine sa ?_
 iterate 5 refine aT rfl rfl rfl ?_
 refine s1 (aN rfl) ?_
 refine sa ?_
 iterate 6 refine aT rfl rfl rfl ?_
 refine s1 (aN rfl) ?_
 refine sa ?_
 iterate 6 refine aT rfl rfl rfl ?_
 refine s1 (aN rfl) ?_
 refine sa ?_
 refine aT rfl rfl rfl ?_
 refine s1 (aN rfl) ?_
 refine sa ?_
 iterate 2 refine aT rfl rfl rfl ?_
 refine s1 (aN rfl) ?_
 refine sa ?_
 refine .nil (hK _ _ ?_)
 cases h
 exact pe0 h0 []
 rintro ex tm' hp' ⟨rfl,hw⟩
 refine AW.weak hw (AW.ret ?_)
 cases h
 exact rv1
theorem RR {A k:Nat}(h:A<2 ^ (k+1))(hb:(dg 65536 A (k / 16) / 2 ^ (k % 16)) % 2=0):A<2 ^ k:=by
 have e1:(dg 65536 A (k / 16)).testBit (k % 16)=A.testBit k:=by
  unfold dg
  rw[show (65536:Nat) ^ (k / 16)=2 ^ (16*(k / 16)) by rw[Bv],show (65536:Nat)=2 ^ 16 by decide,Nat.testBit_mod_two_pow,Nat.testBit_div_two_pow,d6 (ep _ (by decide)),D2]
  congr 1;omega
 rw[R8,R8] at e1
 have h2:A / 2 ^ k % 2=0:=by
  rcases Nat.mod_two_eq_zero_or_one (A / 2 ^ k) with h3|h3
  ·exact h3
  ·rw[h3] at e1
   have:=n8 (e1.trans (d6 rfl))
   omega
 have h3:A / 2 ^ k<2:=by rw[qv (dE (by decide))];rw[eZ] at h;omega
 have h4:A / 2 ^ k=0:=by
  generalize A / 2 ^ k=q at h2 h3
  omega
 rcases Nat.div_eq_zero_iff.1 h4 with h5|h5
 ·have:=dE (n:=k) (show 0<2 by decide);omega
 ·exact h5
theorem R_bit {A k:Nat}(hk:k≤100000):rp (dl A) (k:Int)=some (((dg 65536 A (k / 16) / 2 ^ (k % 16)) % 2:Nat):Int):=by
 unfold rp
 have e1:i64.wrap (Int.tdiv (k:Int) (16:Int))=((k / 16:Nat):Int):=by
  rw[Int.tdiv_eq_ediv_of_nonneg (by omega),w64];omega
 have e2:Int.tmod (k:Int) (16:Int)=((k % 16:Nat):Int):=by
  rw[Int.tmod_eq_emod_of_nonneg (by omega)];rfl
 rw[e1,e2,show dl A=dk (sz6 A) A from rfl,vz (fm A),ab,aB,A6 _ _ _ (by have:k % 16<16:=ep _ (by decide);show k % 16≤64;omega)]
 generalize dg 65536 A (k / 16) / 2 ^ (k % 16)=q
 have e3:Int.tmod (q:Int) 2=((q % 2:Nat):Int):=by rw[Int.tmod_eq_emod_of_nonneg (by omega)];rfl
 rw[e3]
theorem R_Bits {z:Int}(hz:z.natAbs<LIM):∃n:Nat,eV (enc z)=some (n:Int)∧z.natAbs<2 ^ n:=by
 have hsz:sz6 z.natAbs≤32:=rF (bU hz (by decide))
 have bG:=fm z.natAbs
 have hlen:=Lz z.natAbs
 obtain⟨x,hl,hx⟩:=xV (b:=nL (dl z.natAbs)) (fun s:Int=>0≤s∧s≤512∧z.natAbs<2 ^ s.toNat) (fun s=>s.toNat) (fun x=>0≤x∧x≤512∧z.natAbs<2 ^ x.toNat) (fun s ⟨h1,h2,h3⟩=>by
  unfold nL
  by_cases h0:0<s
  ·obtain⟨k,rfl⟩:∃k:Nat,s=(k:Int)+1:=⟨(s - 1).toNat,by omega⟩
   rw[bb _ _ h0,w64 (n:=(k:Int)+1 - 1),show (k:Int)+1 - 1=(k:Int) by omega,R_bit (by omega),ab]
   have e:((k:Int)+1).toNat=k+1:=by omega
   rw[e] at h3
   by_cases hb:(dg 65536 z.natAbs (k / 16) / 2 ^ (k % 16)) % 2=0
   ·refine .inl ⟨(k:Int),?_,⟨by omega,by omega,?_⟩,by omega⟩
    ·rw[det_];rfl
    ·rw[show ((k:Int)).toNat=k by omega];exact RR h3 hb
   ·refine .inr ⟨(k:Int)+1,?_,by omega,by omega,by rw[e];exact h3⟩
    rw[def_];rfl
  ·obtain rfl:s=0:=by omega
   exact .inr ⟨0,by rw[a7 _ _ h0];rfl,by omega,by omega,h3⟩) (16*(sz6 z.natAbs:Int)) ⟨by omega,by omega,by
   rw[show (16*(sz6 z.natAbs:Int)).toNat=16*sz6 z.natAbs by omega,Bv];exact bG⟩
 refine⟨x.toNat,?_,hx.2.2⟩
 unfold eV
 rw[eE,bg hz,ab,iL hz]
 rw[show (!true)=false from rfl,kF]
 simp only[ab]
 rw[hlen,w64,hl,ab]
 congr 1;omega
theorem Kt {x:ap}(h:okI x):∃n:Int,eV x=some n:=by
 cases hg:cv x with
 |true=>
  obtain⟨z,hz,rfl⟩:=sQ h hg
  obtain⟨n,hn,_⟩:=R_Bits hz
  exact⟨n,hn⟩
 |false=>
  refine⟨0,?_⟩
  unfold eV
  rw[eE,hg];rfl
theorem Q_Small {l:List Nu}(hl:l.length≤1000000):∃b,oi (l.map nv)=some b:=by
 obtain⟨fN,hN⟩:∃fN:Nat→Int,fN=fun i=>(eV (nv l[i]!).vN).getD 0:=⟨_,rfl⟩
 obtain⟨fD,hD⟩:∃fD:Nat→Int,fD=fun i=>(eV (nv l[i]!).vD).getD 0:=⟨_,rfl⟩
 unfold oi
 rw[GQ (b:=kE (l.map nv)) (n:=l.length) hl (fun i=>!(decide (60<fN i)||decide (60<fD i))) (fun i hi=>by
  unfold kE
  rw[bW,bb _ _,aB,aB,aJ,oO hi]
  obtain⟨n1,h1⟩:=Kt (l[i]!).2.1
  obtain⟨n2,h2⟩:=Kt (l[i]!).2.2
  have h1:eV (nv l[i]!).vN=some n1:=h1
  have h2:eV (nv l[i]!).vD=some n2:=h2
  have e1:fN i=n1:=by rw[hN];dsimp only;rw[h1];rfl
  have e2:fD i=n2:=by rw[hD];dsimp only;rw[h2];rfl
  rw[h1,h2,e1,e2]
  simp only[ab,kOr,Bool.not_not]) (by
  unfold kE
  rw[bW,a7 _ _])]
 cases (List.range l.length).all fun i=>!(decide (60<fN i)||decide (60<fD i))
 ·exact⟨false,rfl⟩
 ·exact⟨true,rfl⟩
theorem Q_Light {R C:Int}{V:List Nu}:∃b,ol (mS R C V)=some b∧(b=true→V.length≤60∧(aP R C V=0→R≤6∧C≤7)):=by
 unfold ol
 dsimp only
 rw[bW]
 by_cases h:(60:Int)<V.length
 ·rw[bb _ _ h];exact⟨false,rfl,fun h=>by cases h⟩
 ·rw[a7 _ _ h,sr (by omega)]
  simp only[ab]
  by_cases hv:aP R C V=0
  ·rw[show (!decide (aP R C V=0))=false by simp[hv],kF]
   by_cases h1:R≤6
   ·by_cases h2:C≤7
    ·rw[bb _ _ h1,bb _ _ h2]
     obtain⟨b,hb⟩:=Q_Small (l:=V) (by omega)
     rw[hb]
     exact⟨b,rfl,fun _=>⟨by omega,fun _=>⟨h1,h2⟩⟩⟩
    ·rw[bb _ _ h1,a7 _ _ h2];exact⟨false,rfl,fun h=>by cases h⟩
   ·rw[a7 _ _ h1];exact⟨false,rfl,fun h=>by cases h⟩
  ·rw[show (!decide (aP R C V=0))=true by simp[hv],kT]
   exact⟨true,rfl,fun _=>⟨by omega,fun h=>absurd h hv⟩⟩
theorem No {α:Type}[DecidableEq α][Inhabited α]{a b:List α}(h:a.length=b.length):(List.range a.length).all (fun i=>decide (a[i]! =b[i]!))=decide (a=b):=by
 rw[Ee,cb,oK]
 constructor
 ·intro hh
  refine HE h fun i h1 h2=>?_
  have:=n8 (hh i (B1.2 h1))
  rwa[f7 a i h1,f7 b i h2] at this
 ·rintro rfl i _
  exact d6 rfl
theorem Ey {a b:List ai}(ha:a.length≤1000000):dc a b=some (decide (a=b)):=by
 unfold dc
 by_cases h:a.length=b.length
 ·rw[a7 _ _,GQ (b:=gI a b) (n:=a.length) ha (fun i=>decide (a[i]! =b[i]!)) (fun i hi=>by
   unfold gI
   rw[bb _ _,aB,aB,aJ]
   rw[show decide (¬a[i]! =b[i]!)= !decide (a[i]! =b[i]!) from dne _ _]) (by
   unfold gI
   rw[a7 _ _])]
  rw[No h]
  cases decide (a=b) <;> rfl
 ·rw[bb _ _,f8 (fun e=>h (by rw[e]))]
theorem L_ints {a b:List Int}(ha:a.length≤1000000):pO a b=some (decide (a=b)):=by
 unfold pO
 by_cases h:a.length=b.length
 ·rw[a7 _ _,GQ (b:=kU a b) (n:=a.length) ha (fun i=>decide (a[i]! =b[i]!)) (fun i hi=>by
   unfold kU
   rw[bb _ _,aB,aB,aJ]
   rw[show decide (a[i]!≠b[i]!)= !decide (a[i]! =b[i]!) from dne _ _]) (by
   unfold kU
   rw[a7 _ _])]
  rw[No h]
  cases decide (a=b) <;> rfl
 ·rw[bb _ _,f8 (fun e=>h (by rw[e]))]
theorem SF {a b:an}(ha:a.vV.length≤1000000):fG a b=some (decide (a=b)):=by
 unfold fG
 rw[Ey ha]
 obtain⟨R,C,V⟩:=a
 obtain⟨R',C',V'⟩:=b
 dsimp only
 by_cases h1:R=R'
 ·by_cases h2:C=C'
  ·rw[bb _ _ h1,bb _ _ h2]
   simp only[ab]
   rw[h1,h2]
   by_cases h3:V=V'
   ·rw[h3];simp
   ·rw[f8 h3,f8 (fun e=>h3 (by injection e))]
  ·rw[bb _ _ h1,a7 _ _ h2,f8 (fun e=>h2 (by injection e))];rfl
 ·rw[a7 _ _ h1,f8 (fun e=>h1 (by injection e))];rfl
theorem L_same {m:an}{e:Int}{w:dx}(hm:m.vV.length≤1000000):nO m e w=some (decide (e=w.vE)&&decide (m=w.vM)):=by
 unfold nO
 rw[SF hm]
 simp only[ab]
 cases decide (e=w.vE) <;> rfl
theorem Ic {r c:Int}{l:List Int}(hl:l.length≤1000)(h:∀i,i<l.length→-1000≤l[i]!∧l[i]!≤1000):gr r c l=some (mS r c (l.map nOf)):=by
 unfold gr
 have key:=db (b:=ot l) (fun i:Nat=>((i:Int),((l.take i).map nOf).map nv)) 0 l.length ((l.map nOf).map nv) (bY _) (fun i _ hi=>?_) ?_
 ·have e:((((0:Nat):Int),((l.take 0).map nOf).map nv))=((0:Int),([]:List ai)):=by simp
  rw[e] at key
  rw[key];rfl
 ·unfold ot
  dsimp only
  have O1:l.take (i+1)=l.take i++[l[i]!]:=by rw[List.take_add_one,i8 hi,f7 l i hi];rfl
  obtain⟨h1,h2⟩:=h i hi
  rw[bb _ _,aB,aJ,uOf,ab,aB (by simp;omega),w64,O1]
  simp only[jR,fx,i2]
  rfl
 ·unfold ot
  dsimp only
  rw[a7 _ _,gu (aD _)]
theorem EE {l:List Int}(hl:l.length≤1000)(h:∀i,i<l.length→-1000≤l[i]!∧l[i]!≤1000):iv l=some ((l.map nOf).map nv):=by
 unfold iv
 rw[Ic hl h];rfl
def fr(a b:Int):Nu:=nuR (some (Rat.divInt a b))
theorem s1T:xa 2 2 ([1,2,3,4].map nOf)=(mS 2 2 ([1,0,0,1].map nOf),[0,1],0):=by decide +kernel
theorem s2T:JS 2 2 ([1,2,3,4].map nOf)=(nv (nOf (-2)),0):=by decide +kernel
theorem s3T:xa 2 3 ([0,2,4,0,1,2].map nOf)=(mS 2 3 ([0,1,2,0,0,0].map nOf),[1],0):=by decide +kernel
theorem s4T:IR 2 2 ([1,2,3,4].map nOf) ([5,6].map nOf)=([nv (nOf (-4)),nv (fr 9 2)],0):=by decide +kernel
theorem s5T:IR 1 2 ([1,1].map nOf) ([2].map nOf)=([],70):=by decide +kernel
theorem s6T:IR 2 1 ([1,1].map nOf) ([1,2].map nOf)=([],200):=by decide +kernel
theorem s7T:xT 1 3 ([1,2,3].map nOf)=([[-2,1,0].map nOf,[-3,0,1].map nOf],0):=by decide +kernel
theorem s8T:C4 2 2 ([2,1,1,2].map nOf)=(true,0):=by decide +kernel
theorem s9T:C4 2 2 ([1,2,2,1].map nOf)=(false,0):=by decide +kernel
theorem sFrac:pN 9 2=some (nv (fr 9 2)):=by
 unfold pN
 rw[Ig (by decide) (by decide),ab,Ig (by decide) (by decide),ab,BD (by decide) (by decide) (by decide),ab]
 rfl
theorem Py {a b:an}(ha:a.vV.length≤1000000)(h:a=b):fG a b=some true:=by rw[SF ha,d6 h]
theorem Pz {a:List ai}(ha:a.length≤1000000):dc a a=some true:=by rw[Ey ha,d6 rfl]
theorem Kl:kS=some true:=by
 have o1:=Ic (r:=2) (c:=2) (l:=[1,2,3,4]) (by decide) (by decide)
 have o2:=Ic (r:=2) (c:=3) (l:=[0,2,4,0,1,2]) (by decide) (by decide)
 have o3:=EE (l:=[5,6]) (by decide) (by decide)
 have o4:=Ic (r:=1) (c:=2) (l:=[1,1]) (by decide) (by decide)
 have o5:=EE (l:=[2]) (by decide) (by decide)
 have o6:=Ic (r:=2) (c:=1) (l:=[1,1]) (by decide) (by decide)
 have o7:=EE (l:=[1,2]) (by decide) (by decide)
 have o8:=Ic (r:=1) (c:=3) (l:=[1,2,3]) (by decide) (by decide)
 have o9:=Ic (r:=2) (c:=2) (l:=[2,1,1,2]) (by decide) (by decide)
 have o10:=Ic (r:=2) (c:=2) (l:=[1,2,2,1]) (by decide) (by decide)
 have o11:=Ic (r:=2) (c:=3) (l:=[0,1,2,0,0,0]) (by decide) (by decide)
 have o12:=EE (l:=[-2,1,0]) (by decide) (by decide)
 have o13:=EE (l:=[-3,0,1]) (by decide) (by decide)
 have r1:=(EB (R:=2) (C:=2) (V:=[1,2,3,4].map nOf) (by decide)).trans (congrArg some s1T)
 have r2:=(SJ (R:=2) (C:=2) (V:=[1,2,3,4].map nOf) (by decide)).trans (congrArg some s2T)
 have r3:=(EB (R:=2) (C:=3) (V:=[0,2,4,0,1,2].map nOf) (by decide)).trans (congrArg some s3T)
 have r4:=(Ib (R:=2) (C:=2) (A:=[1,2,3,4].map nOf) (b:=[5,6].map nOf) (by decide) (by decide)).trans (congrArg some s4T)
 have r5:=(Ib (R:=1) (C:=2) (A:=[1,1].map nOf) (b:=[2].map nOf) (by decide) (by decide)).trans (congrArg some s5T)
 have r6:=(Ib (R:=2) (C:=1) (A:=[1,1].map nOf) (b:=[1,2].map nOf) (by decide) (by decide)).trans (congrArg some s6T)
 have r7:j3 (mS 1 3 ([1,2,3].map nOf))=some ([([-2,1,0].map nOf).map nv,([-3,0,1].map nOf).map nv],0):=(SH (R:=1) (C:=3) (V:=[1,2,3].map nOf) (by decide)).trans (by rw[s7T];rfl)
 have r8:=(yX (R:=2) (C:=2) (V:=[2,1,1,2].map nOf) (by decide)).trans (congrArg some s8T)
 have r9:=(yX (R:=2) (C:=2) (V:=[1,2,2,1].map nOf) (by decide)).trans (congrArg some s9T)
 have u1:=uOf (n:=-2) (by decide) (by decide)
 have u2:=uOf (n:=-4) (by decide) (by decide)
 have e1:fG (mS 2 2 ([1,0,0,1].map nOf)) (idP 2)=some true:=Py (by decide) rfl
 have e2:fG (mS 2 3 ([0,1,2,0,0,0].map nOf)) (mS 2 3 ([0,1,2,0,0,0].map nOf))=some true:=Py (by decide) rfl
 have e3:dc (([-2,1,0].map nOf).map nv) (([-2,1,0].map nOf).map nv)=some true:=Pz (by decide)
 have e4:dc (([-3,0,1].map nOf).map nv) (([-3,0,1].map nOf).map nv)=some true:=Pz (by decide)
 unfold kS
 rw[o1,ab,r1,ab,r2,ab,o2,ab,r3,ab,o3,ab,r4,ab,o4,ab,o5,ab,r5,ab,o6,ab,o7,ab,r6,ab,o8,ab,r7,ab,o9,ab,r8,ab,o10,ab,r9,ab]
 refine (congrArg (fun o=>bnd o _) (show _=some false from rfl)).trans ?_
 rw[ab,kF,EC,ab,o11,u1,u2,sFrac,o12,o13]
 refine (congrArg (fun o=>bnd o _) (show _=some true from ?_)).trans ?_
 ·refine (congrArg (fun o=>bnd o _) e1).trans ?_
  rw[ab,kT,aB (by decide)]
  refine (bb _ _ (by rfl)).trans ?_
  rw[aB (by decide)]
  refine (bb _ _ (by rfl)).trans ?_
  rw[ab]
  refine (bb _ _ (by rfl)).trans ?_
  rw[ab]
  refine (congrArg (fun o=>bnd o _) e2).trans ?_
  rfl
 ·rw[ab]
  refine (congrArg (fun o=>bnd o _) (show _=some true from ?_)).trans ?_
  ·rw[kT,aB (by decide),ab]
   refine (bb _ _ (by rfl)).trans ?_
   rw[aB (by decide),ab]
   refine (bb _ _ (by rfl)).trans ?_
   rw[aB (by decide),ab]
   refine (congrArg (fun o=>bnd o _) e3).trans ?_
   rw[ab,kT,aB (by decide),ab]
   refine (congrArg (fun o=>bnd o _) e4).trans ?_
   rfl
  ·rfl
theorem dt2:decide (¬True)=false:=rfl
theorem Oc {R C:Nat}{V:List Nu}(h:V.length≤1000000):(mD R C V).1.vV.length≤1000000:=by
 unfold mD
 split
 ·rw[bW];exact h
 ·exact bY _
theorem P1 {α:Type}{R C:Nat}{f:Nat→Nat→α}(hR:R≤400)(hC:C≤400):(mkM R C f).length≤1000000:=by
 have:R*C≤400*400:=ja hR hC
 rw[bL];omega
theorem sameT {p:an×Int}(h:p.1.vV.length≤1000000):nO p.1 p.2 (fnd p)=some true:=by
 rw[L_same h,d6 rfl,d6 rfl];rfl
def c8(qo:(List (List ai))×Int)(lh:jU):Int→Option (Int⊕(Bool⊕Unit)):=fun f9=>cnd (decide (f9<((qo.1).length:Int))) (gd (0≤f9∧f9<((qo.1).length:Int)) (gd (0≤f9∧f9<((lh.vL).length:Int)) (bnd (dc ((qo.1)[(f9).toNat]!) ((lh.vL)[(f9).toNat]!)) fun x48=>cnd (!x48) (some (.inr (.inl false))) (some (.inl (i64.wrap (f9+(1:Int)))))))) (some (.inr (.inr ())))
def cN(bq:an):Option Bool:=bnd (ol bq) fun x1=>cnd (!x1) (bnd (kS) fun x4=>some x4) (bnd (g5 bq) fun x6=>bnd (gF bq) fun x8=>bnd (lS bq) fun iM=>bnd (pb bq) fun jW=>bnd (kO bq) fun nV=>bnd (j3 bq) fun qo=>bnd (si bq) fun lh=>bnd (fJ bq) fun ua=>bnd (kG bq) fun vA=>bnd (S:=Bool) (cnd (decide (x6.2.2≠x8.vE)) (some (true)) (bnd (fG x6.1 x8.vM) fun Am=>cnd (!Am) (some (true)) (bnd (pO x6.2.1 x8.vP) fun Ik=>cnd (!Ik) (some (true)) (cnd (decide (¬(iM.1=jW.vX))) (some (true)) (cnd (decide (iM.2≠jW.vE)) (some (true)) (bnd (l8 bq) fun Aq=>bnd (nO nV.1 nV.2 Aq) fun KA=>cnd (!KA) (some (true)) (cnd (decide (qo.2≠lh.vE)) (some (true)) (cnd (decide (((qo.1).length:Int)≠((lh.vL).length:Int))) (some (true)) (cnd (!(ua.1 == vA.vIs)) (some (true)) (some (decide (ua.2≠vA.vE)))))))))))) fun Gf=>cnd Gf (some false) (bnd (aK (c8 qo lh) (0:Int)) fun y51=>match y51 with| .inl r=>some r| .inr ()=>bnd (kS) fun x52=>some x52))
theorem py {bq:an}{r:Bool}(h:cN bq=some r):ax prog 4 [dG aH bq] (dB r):=by
 refine bn (rs:=[.tmp 2]) (fun cx hx h0=>?_) func4
 unfold cN at h
 refine rs hx fun K hK=>?_
 refine s1 (d:=.pt 0 0) fC ?_
 refine sa ?_
 refine .nil (hK _ _ (AW.seq (rs hx fun K hK=>?_)))
 refine s1 (d:=dG aH bq) (bp aq) ?_
 refine scb h EW fun x1 h=>?_
 refine sa ?_
 refine .nil (hK _ _ (cdh h rfl (fun cj h=>?_) (fun cj h=>?_)))
 refine rs hx fun K hK=>?_
 refine scb h wm fun x4 h=>?_
 refine sa ?_
 refine .nil (hK _ _ (AW.ret ?_))
 cases h
 exact rv1
 refine AW.skip (rs hx fun K hK=>?_)
 refine s1 (d:=dG aH bq) (bp aq) ?_
 refine scb h rE fun x6 h=>?_
 iterate 4 refine sa ?_
 refine s1 (d:=.pt 1 0) (aO aq) ?_
 refine s0 (bu (ds':=[dI .i64 x6.1.vR,dI .i64 x6.1.vC,dL ae x6.1.vV]) aq) ?_
 iterate 2 refine sa ?_
 refine .nil (hK _ _ (rs hx fun K hK=>?_))
 refine s1 (d:=dG aH bq) (bp aq) ?_
 refine scb h mR fun x8 h=>?_
 refine s1 (d:=.pt 2 0) (aO eb) ?_
 refine s0 (bu (ds':=[dI .i64 x8.vM.vR,dI .i64 x8.vM.vC,dL ae x8.vM.vV,dL (cI .i64) x8.vP,dL ae x8.vBy,dB x8.vOdd,dI .i64 x8.vE,dI .i64 x8.vRows]) eb) ?_
 refine .nil (hK _ _ (rs hx fun K hK=>?_))
 refine s1 (d:=dG aH bq) (bp aq) ?_
 refine scb h uR fun iM h=>?_
 iterate 3 refine sa ?_
 refine s1 (lB (F:=ae.f co) aC) ?_
 refine s0 (ig (b':=iM.1) (aX.id _ _) aC) ?_
 refine sa ?_
 refine .nil (hK _ _ (rs hx fun K hK=>?_))
 refine s1 (d:=dG aH bq) (bp aq) ?_
 refine scb h BG fun jW h=>?_
 refine s1 (lB (F:=eS.f (⟨co,(0:Int)⟩:cf)) tr) ?_
 refine s0 (ig (b':=jW) (aX.id _ _) tr) ?_
 refine .nil (hK _ _ (rs hx fun K hK=>?_))
 refine s1 (d:=dG aH bq) (bp aq) ?_
 refine scb h Az fun nV h=>?_
 iterate 3 refine sa ?_
 refine s1 (d:=.pt 5 0) (aO aq) ?_
 refine s0 (bu (ds':=[dI .i64 nV.1.vR,dI .i64 nV.1.vC,dL ae nV.1.vV]) aq) ?_
 refine sa ?_
 refine .nil (hK _ _ (rs hx fun K hK=>?_))
 refine s1 (d:=dG aH bq) (bp aq) ?_
 refine scb h xO fun qo h=>?_
 iterate 5 refine sa ?_
 refine .nil (hK _ _ (rs hx fun K hK=>?_))
 refine s1 (d:=dG aH bq) (bp aq) ?_
 refine scb h Gs fun lh h=>?_
 refine s1 (d:=.pt 6 0) (aO ri) ?_
 refine s0 (bu (ds':=[dL (cL ae) lh.vL,dI .i64 lh.vE]) ri) ?_
 refine .nil (hK _ _ (rs hx fun K hK=>?_))
 refine s1 (d:=dG aH bq) (bp aq) ?_
 refine scb h pw fun ua h=>?_
 iterate 5 refine sa ?_
 refine .nil (hK _ _ (rs hx fun K hK=>?_))
 refine s1 (d:=dG aH bq) (bp aq) ?_
 refine scb h At fun vA h=>?_
 refine s1 (d:=.pt 7 0) (aO pD) ?_
 refine s0 (bu (ds':=[dB vA.vIs,dI .i64 vA.vE]) pD) ?_
 refine .nil (hK _ _ ?_)
 iterate 2 refine AW.seq ?_
 obtain⟨Gf,hy,h⟩:=ah h
 refine jn ((PE cx .normal (fun Gf=>[(12,dL (cL ae) qo.1),(14,.pt 0 0),(120,dB Gf)]) fun Gf=>⟨[(0,[dL (cL ae) lh.vL,dI .i64 lh.vE])],[],1⟩) Gf) ?_ ?_
 replace h:=hy
 refine rqd [14,15,26,25] hx fun K hK=>?_
 iterate 2 refine sa ?_
 refine s1 (bK wq) ?_
 iterate 2 refine sa ?_
 rcases ee (decide (x6.2.2≠x8.vE)) with tY|tY
 replace h:=ek tY h
 iterate 5 refine aT rfl rfl tY ?_
 refine s1 (au tY) ?_
 refine sa ?_
 iterate 5 refine aT rfl rfl rfl ?_
 refine s1 (au rfl) ?_
 refine sa ?_
 iterate 4 refine aT rfl rfl rfl ?_
 refine s1 (au rfl) ?_
 refine sa ?_
 iterate 4 refine aT rfl rfl rfl ?_
 refine s1 (au rfl) ?_
 refine sa ?_
 iterate 6 refine aT rfl rfl rfl ?_
 refine s1 (au rfl) ?_
 refine sa ?_
 iterate 4 refine aT rfl rfl rfl ?_
 refine s1 (au rfl) ?_
 refine sa ?_
 iterate 6 refine aT rfl rfl rfl ?_
 refine s1 (au rfl) ?_
 refine sa ?_
 iterate 4 refine aT rfl rfl rfl ?_
 refine s1 (au rfl) ?_
 refine sa ?_
 iterate 4 refine aT rfl rfl rfl ?_
 refine s1 (au rfl) ?_
 refine .nil (hK _ _ ?_)
 cases h
 exact pe0 h0 [6]
 replace h:=eo tY h
 refine g1 (d:=dG aH x6.1) tY (bp aq) ?_
 refine ga tY ?_
 refine g1 (d:=dG aH x8.vM) tY (bp aq) ?_
 obtain⟨Am,Qo,h⟩:=ah h
 refine sqg tok rfl rfl tY (rY Qo) (by simp only[fx,i2,nZ,rW,j7,mf];exact⟨dH _ _,dH _ _⟩) (lA (ao _) (lA (ao _) lAn)) (.inl rfl) ?_
 refine ga tY ?_
 refine s1 (aN tY) ?_
 refine sa ?_
 rcases ee (!Am) with xH|xH
 replace h:=ek xH h
 iterate 5 refine aT rfl rfl xH ?_
 refine s1 (au xH) ?_
 refine sa ?_
 iterate 4 refine aT rfl rfl rfl ?_
 refine s1 (au rfl) ?_
 refine sa ?_
 iterate 4 refine aT rfl rfl rfl ?_
 refine s1 (au rfl) ?_
 refine sa ?_
 iterate 6 refine aT rfl rfl rfl ?_
 refine s1 (au rfl) ?_
 refine sa ?_
 iterate 4 refine aT rfl rfl rfl ?_
 refine s1 (au rfl) ?_
 refine sa ?_
 iterate 6 refine aT rfl rfl rfl ?_
 refine s1 (au rfl) ?_
 refine sa ?_
 iterate 4 refine aT rfl rfl rfl ?_
 refine s1 (au rfl) ?_
 refine sa ?_
 iterate 4 refine aT rfl rfl rfl ?_
 refine s1 (au rfl) ?_
 refine .nil (hK _ _ ?_)
 cases h
 exact pe0 h0 [6]
 replace h:=eo xH h
 iterate 2 refine ga xH ?_
 refine g1 xH (bK b9) ?_
 obtain⟨Ik,hx29,h⟩:=ah h
 refine sqg tok rfl rfl xH (Gv hx29) rfl (lA (ao _) (lA (ao _) lAn)) (.inl rfl) ?_
 refine ga xH ?_
 refine s1 (aN xH) ?_
 refine sa ?_
 rcases ee (!Ik) with xG|xG
 replace h:=ek xG h
 iterate 4 refine aT rfl rfl xG ?_
 refine s1 (au xG) ?_
 refine sa ?_
 iterate 4 refine aT rfl rfl rfl ?_
 refine s1 (au rfl) ?_
 refine sa ?_
 iterate 6 refine aT rfl rfl rfl ?_
 refine s1 (au rfl) ?_
 refine sa ?_
 iterate 4 refine aT rfl rfl rfl ?_
 refine s1 (au rfl) ?_
 refine sa ?_
 iterate 6 refine aT rfl rfl rfl ?_
 refine s1 (au rfl) ?_
 refine sa ?_
 iterate 4 refine aT rfl rfl rfl ?_
 refine s1 (au rfl) ?_
 refine sa ?_
 iterate 4 refine aT rfl rfl rfl ?_
 refine s1 (au rfl) ?_
 refine .nil (hK _ _ ?_)
 cases h
 exact pe0 h0 [6]
 replace h:=eo xG h
 refine g1 (d:=dG ae iM.1) xG (nq (aX.id _ _) aC) ?_
 refine ga xG ?_
 refine g1 xG (nq (se jW) aC) ?_
 refine g1 xG (wY tok 4 (by decide) qK aC) ?_
 refine s1 (aN xG) ?_
 refine sa ?_
 rcases ee (decide (¬(iM.1=jW.vX))) with DA|DA
 replace h:=ek DA h
 iterate 4 refine aT rfl rfl DA ?_
 refine s1 (au DA) ?_
 refine sa ?_
 iterate 6 refine aT rfl rfl rfl ?_
 refine s1 (au rfl) ?_
 refine sa ?_
 iterate 4 refine aT rfl rfl rfl ?_
 refine s1 (au rfl) ?_
 refine sa ?_
 iterate 6 refine aT rfl rfl rfl ?_
 refine s1 (au rfl) ?_
 refine sa ?_
 iterate 4 refine aT rfl rfl rfl ?_
 refine s1 (au rfl) ?_
 refine sa ?_
 iterate 4 refine aT rfl rfl rfl ?_
 refine s1 (au rfl) ?_
 refine .nil (hK _ _ ?_)
 cases h
 exact pe0 h0 [6]
 replace h:=eo DA h
 iterate 2 refine ga DA ?_
 refine g1 DA (qU (nD jW) wq) ?_
 refine ga DA ?_
 refine s1 (aN DA) ?_
 refine sa ?_
 rcases ee (decide (iM.2≠jW.vE)) with xF|xF
 replace h:=ek xF h
 iterate 6 refine aT rfl rfl xF ?_
 refine s1 (au xF) ?_
 refine sa ?_
 iterate 4 refine aT rfl rfl rfl ?_
 refine s1 (au rfl) ?_
 refine sa ?_
 iterate 6 refine aT rfl rfl rfl ?_
 refine s1 (au rfl) ?_
 refine sa ?_
 iterate 4 refine aT rfl rfl rfl ?_
 refine s1 (au rfl) ?_
 refine sa ?_
 iterate 4 refine aT rfl rfl rfl ?_
 refine s1 (au rfl) ?_
 refine .nil (hK _ _ ?_)
 cases h
 exact pe0 h0 [6]
 replace h:=eo xF h
 refine g1 (d:=dG aH nV.1) xF (bp aq) ?_
 refine ga xF ?_
 refine g1 (d:=dG aH bq) xF (bp aq) ?_
 obtain⟨Aq,GW,h⟩:=ah h
 refine sqg tok rfl rfl xF (Ca GW) (by simp only[fx,i2,nZ,rW,j7,mf];exact dH _ _) (lA (ao _) lAn) (.inl (lL _ _)) ?_
 obtain⟨KA,hx36,h⟩:=ah h
 refine sqg tok rfl rfl xF (Gu hx36) (by simp only[fx,i2,nZ,rW,j7,mf];exact⟨dH _ _,rfl,dH _ _⟩) (lA (ao _) (lA (ao _) (lA (ao _) lAn))) (.inl rfl) ?_
 refine ga xF ?_
 refine s1 (aN xF) ?_
 refine sa ?_
 rcases ee (!KA) with Hc|Hc
 replace h:=ek Hc h
 iterate 4 refine aT rfl rfl Hc ?_
 refine s1 (au Hc) ?_
 refine sa ?_
 iterate 6 refine aT rfl rfl rfl ?_
 refine s1 (au rfl) ?_
 refine sa ?_
 iterate 4 refine aT rfl rfl rfl ?_
 refine s1 (au rfl) ?_
 refine sa ?_
 iterate 4 refine aT rfl rfl rfl ?_
 refine s1 (au rfl) ?_
 refine .nil (hK _ _ ?_)
 cases h
 exact pe0 h0 [6]
 replace h:=eo Hc h
 iterate 2 refine ga Hc ?_
 refine g1 Hc (bK wq) ?_
 refine ga Hc ?_
 refine s1 (aN Hc) ?_
 refine sa ?_
 rcases ee (decide (qo.2≠lh.vE)) with Hb|Hb
 replace h:=ek Hb h
 iterate 6 refine aT rfl rfl Hb ?_
 refine s1 (au Hb) ?_
 refine sa ?_
 iterate 4 refine aT rfl rfl rfl ?_
 refine s1 (au rfl) ?_
 refine sa ?_
 iterate 4 refine aT rfl rfl rfl ?_
 refine s1 (au rfl) ?_
 refine .nil (hK _ _ ?_)
 cases h
 exact pe0 h0 [6]
 replace h:=eo Hb h
 iterate 3 refine ga Hb ?_
 refine g1 Hb (bK js) ?_
 iterate 2 refine ga Hb ?_
 refine s1 (aN Hb) ?_
 refine sa ?_
 rcases ee (decide (((qo.1).length:Int)≠((lh.vL).length:Int))) with wz|wz
 replace h:=ek wz h
 iterate 4 refine aT rfl rfl wz ?_
 refine s1 (au wz) ?_
 refine sa ?_
 iterate 4 refine aT rfl rfl rfl ?_
 refine s1 (au rfl) ?_
 refine .nil (hK _ _ ?_)
 cases h
 exact pe0 h0 [6]
 replace h:=eo wz h
 iterate 2 refine ga wz ?_
 refine g1 wz (bK sD) ?_
 refine ga wz ?_
 refine s1 (aN wz) ?_
 refine sa ?_
 rcases ee (!(ua.1 == vA.vIs)) with wy|wy
 replace h:=ek wy h
 iterate 4 refine aT rfl rfl wy ?_
 refine s1 (au wy) ?_
 refine .nil (hK _ _ ?_)
 cases h
 exact pe0 h0 [6]
 replace h:=eo wy h
 iterate 2 refine ga wy ?_
 refine g1 wy (bK wq) ?_
 refine ga wy ?_
 refine s1 (aN wy) ?_
 refine .nil (hK _ _ ?_)
 cases h
 exact pe0 h0 [6]
 rintro ex tm' hp' ⟨rfl,hw⟩
 refine AW.weak hw (cdh h rfl (fun G9 h=>?_) (fun G9 h=>?_))
 refine ra hx ?_
 refine AW.ret ?_
 cases h
 exact rv1
 refine AW.skip (AW.seq (ra hx ?_))
 refine AW.block ?_
 obtain⟨y,hy,h⟩:=ah h
 refine lp (S:=Int) (X:=Bool⊕Unit) (fun f9=>[(12,dL (cL ae) qo.1),(14,.pt 0 0),(122,dI .i64 ((qo.1).length:Int)),(123,dI .i64 f9)]) (fun f9=>⟨[(0,[dL (cL ae) lh.vL,dI .i64 lh.vE])],[],1⟩) (PS (PR [.tmp 2] fun r=>dB r) (PE cx (.exit 0) (fun ()=>[]) fun ()=>⟨[],[],0⟩)) hy ?_ ?_ ?_
 exact wk h0 [0] (wR rfl (wR rfl (wR rfl (wR rfl wTn)))) (vR rfl wVn) wLn
 clear hy h
 rintro f9 y h
 dsimp only[c8] at h
 refine ra hx ?_
 refine AW.seq (cdh h rfl (fun Dz h=>?_) (fun Dz h=>?_))
 refine AW.skip (AW.seq (AW.block (ra hx ?_)))
 refine rsd [27] hx fun K hK=>?_
 iterate 2 refine sa ?_
 obtain⟨hc44,h⟩:=am h
 have hn45:(f9).toNat<(qo.1).length:=by omega
 refine s1 (mL hc44 js aF) ?_
 refine s1 (mh (c:=(cL ae)) (l:=qo.1) (n:=(f9).toNat) (o:=0) aF hn45) ?_
 refine sa ?_
 refine s1 (bK js) ?_
 refine sa ?_
 obtain⟨hc46,h⟩:=am h
 have hn47:(f9).toNat<(lh.vL).length:=by omega
 refine s1 (mL hc46 js aF) ?_
 refine s1 (mh (c:=(cL ae)) (l:=lh.vL) (n:=(f9).toNat) (o:=0) aF hn47) ?_
 refine cqb h ny fun x48 h=>?_
 refine sa ?_
 refine .nil (hK _ _ (cdh h rfl (fun G8 h=>?_) (fun G8 h=>?_)))
 refine ra hx ?_
 refine AW.ret ?_
 cases h
 refine PS.r ⟨by nofun,PS.l (PR.i ?_)⟩
 exact rv1
 refine AW.skip (rb hx ?_)
 cases h
 exact PS.l (pe0 h0 [0])
 refine AW.exit ?_
 try dsimp only
 try simp only[bP,reduceIte,Nat.reduceEqDiff,reduceCtorEq]
 cases h
 exact PS.r ⟨by nofun,PS.r (PE.i (wk h0 [] wTn wVn wLn))⟩
 rcases y with r|⟨⟩
 rintro ex tm' hp' ⟨rfl,hw⟩
 cases h
 exact hw
 rintro ex tm' hp' ⟨rfl,hw⟩
 try dsimp only
 try simp only[bP,reduceIte,Nat.reduceEqDiff,reduceCtorEq]
 refine AW.weak hw (rs hx fun K hK=>?_)
 refine scb h wm fun x52 h=>?_
 refine sa ?_
 refine .nil (hK _ _ (AW.ret ?_))
 cases h
 exact rv1
theorem NV {R C:Int}{V:List Nu}:xa R C V=((nB R C V).vM,(nB R C V).vP,(nB R C V).vE):=by
 unfold xa nB
 by_cases h1:aP R C V=0
 ·rw[ar h1,ar h1]
  obtain⟨r,c,rfl,rfl,hm⟩:=dA.1 h1
  rw[aJ,aJ]
  cases mu r c V <;> rfl
 ·rw[aA h1,aA h1]
theorem IX {R C:Int}{V:List Nu}:(nB R C V).vM.vV.length≤1000000∧(nB R C V).vP.length≤1000000:=by
 unfold nB
 split
 ·rename_i h1
  obtain⟨r,c,rfl,rfl,hm⟩:=dA.1 h1
  have h5:=hm.rc
  have h3:=hm.r
  rw[aJ,aJ]
  cases ku:mu r c V with
  |none=>exact⟨bY _,bY _⟩
  |some p=>
   obtain⟨U,acc⟩:=p
   have hU:=jt hm.len ku
   have hle:acc.length≤r:=uW ku
   refine⟨?_,?_⟩
   ·show (U.map nv).length≤_
    rw[bW];omega
   ·show (cP acc).length≤_
    rw[pe];omega
 ·exact⟨bY _,bY _⟩
theorem Qi {R C:Int}{A:List Nu}:(KY R C A).1.vV.length≤1000000:=by
 unfold KY
 split
 ·rename_i h
  obtain⟨n,c,rfl,hc,hm⟩:=dA.1 h.1
  have h3:=hm.r
  split
  ·exact bY _
  ·unfold invR
   split
   ·exact bY _
   ·split
    ·exact Oc (P1 (by omega) (by omega))
    ·exact bY _
 ·exact bY _
theorem N8 {R C:Int}{V:List Nu}:(xT R C V).1.length≤1000∧∀l∈(xT R C V).1,l.length≤1000:=by
 unfold xT
 split
 ·rename_i h1
  obtain⟨r,c,rfl,rfl,hm⟩:=dA.1 h1
  have h4:=hm.c
  rw[aJ,aJ]
  unfold nullR
  split
  ·exact⟨bY _,fun l hl=>by cases hl⟩
  ·rename_i U acc _
   refine⟨?_,fun l hl=>?_⟩
   ·rw[bW]
    have:(rU c acc).length≤c:=by unfold rU;exact cw (F6 _ _) (by rw[BZ];omega)
    omega
   ·obtain⟨k,hk,rfl⟩:=mw.1 hl
    rw[qC];omega
 ·exact⟨bY _,fun l hl=>by cases hl⟩
theorem lp_true {X:Type}{n:Nat}(hn:n≤1000000){b:Int→Option (Int⊕(X⊕Unit))}(h:∀i:Nat,i<n→b i=some (.inl (i64.wrap ((i:Int)+(1:Int)))))(he:b n=some (.inr (.inr ()))):aK b (0:Int)=some (.inr ()):=by
 have:=db (b:=b) (fun i=>(i:Int)) 0 n (.inr ()) (bY _) (fun i _ hi=>by rw[h i hi,w64];rfl) he
 exact this
theorem Rz(a:Int):decide (a≠a)=false:=by simp
theorem beq_not(b:Bool):(!(b == b))=false:=by cases b <;> rfl
theorem OU {R C:Int}{V:List Nu}:cN (mS R C V)=some true:=by
 unfold cN
 obtain⟨b1,h1,k1⟩:=Q_Light (R:=R) (C:=C) (V:=V)
 rw[h1]
 simp only[ab]
 cases b1 with
 |false=>rw[show (!false)=true from rfl,kT,Kl];rfl
 |true=>
  have hV:V.length≤1000000:=by have:=(k1 rfl).1;omega
  obtain⟨q1,q2⟩:=IX (R:=R) (C:=C) (V:=V)
  rw[show (!true)=false from rfl,kF,EB hV,Ah hV,SJ hV,Q_Det hV,OS hV,SH hV,Q_Null hV,yX hV,Mj hV,NV]
  simp only[ab]
  generalize nB R C V=rq at*
  generalize JS R C V=dp
  have hi:=Qi (R:=R) (C:=C) (A:=V)
  have hn:=N8 (R:=R) (C:=C) (V:=V)
  have hinv:=OR (R:=R) (C:=C) hV
  generalize KY R C V=ip at*
  generalize xT R C V=np at*
  generalize C4 R C V=pp
  rw[Py q1 rfl,L_ints q2,hinv]
  simp only[ab]
  rw[sameT hi]
  simp only[ab]
  rw[Rz,kF,show (!true)=false from rfl,kF,show (!decide True)=false from rfl,kF,dt2,kF,Rz,kF,kF,Rz,kF,Rz,kF,beq_not,kF,Rz]
  simp only[ab]
  rw[kF,lp_true (n:=np.1.length) (by omega) (fun i Q1=>?_) ?_]
  ·simp only[ab]
   rw[Kl];rfl
  ·unfold c8
   dsimp only
   rw[bW,a7 _ _]
  ·unfold c8
   dsimp only
   have hl:((np.1.map (List.map nv))[i]!).length≤1000000:=by
    rw[f7 _ i (by rw[bW];exact Q1),HF,bW]
    have:=hn.2 _ (B0 Q1)
    omega
   rw[bW,bb _ _,aB,aB,aJ,Pz hl]
   rfl
section
open Go.ChangeShapes Go.WideShapes Go.ChangeAt Go.RowKit Go.Deep
section
variable {H:Type} {enc:TypeId×Value→H} {P:Program}
theorem E3 {f:Func}{s:ChangeSpec}{apart fresh handsOn again:Bool}{W W':World}{args:Array Value}{v:Value}{ds gs:List (DataW H)}{before pa pv:List MemPlace}
  (hW:DataW.Whole enc P f.params.toList s.vars apart W args.toList ds gs before)
  (nE:∀(b:Nat) (sp:Nat→Bool) (hd:Bool),DataW.TrodAll enc P W' b sp hd f.resultTypes.toList (v.resultList f.resultTypes.size) (s.fn H (ds++gs)).results [])
  (tA:∀sp:Nat→Bool,(∀p∈before,sp p.block=true)→DataW.TrodAll enc P W' 0 sp true f.params.toList args.toList (s.fn H (ds++gs)).args pa)
  (MP:∀sp:Nat→Bool,(∀p∈before,sp p.block=true)→DataW.TrodVars enc P W' sp s.vars (s.fn H (ds++gs)).vars pv)
  (QA:before=pa++pv) (hb:Below W.heap.size W W')
  (hok:∀(j:Nat) (t:TypeId) (r:Value),f.resultTypes[j]? =some t→(v.resultList f.resultTypes.size)[j]? =some r→Value.okWide P W' .any 0 t r):
  s.post enc P f apart fresh handsOn again W args v W':=by
 have bG:∀p∈before,p.block<W.heap.size:=fun p hp=>hW.lt p hp
 have hold:∀p∈before,(fun b=>decide (b<W.heap.size)) p.block=true:=fun p hp=>by simpa using bG p hp
 refine⟨ds,gs,before,[],pa,pv,hW,nE _ _ _,tA _ hold,MP _ hold,World.keptBut_mono (fun p hp=>⟨hp,?_⟩) (hb.frame (·∈before)),fun _=>?_⟩
 ·rw[QA,s5] at hp
  exact Or.inr hp
 ·obtain⟨_,_,_,_,_,hz,hn⟩:=hW
  refine⟨hok,_,_,([]++pa)++pv,⟨[]++pa,pv,trodAll_append (tA _ (fun _ _=>rfl)) (nE _ _ _),MP _ (fun _ _=>rfl),rfl,?_,?_⟩,?_⟩
  ·intro b off hp
   have G3:MemPlace.cell b off∈before:=by rw[QA];simpa using hp
   rw[hb.frozen (bG _ G3)]
   exact hz b off G3
  ·intro ha
   have:=hn ha
   rw[QA] at this
   simpa using this
  ·intro p hp _
   rw[QA]
   simpa using hp
theorem E1(hl:laidOutB P=true){W W':World}(hb:Below W.heap.size W W'){sp:Nat→Bool}:∀(ts:List TypeId) (vs:List Value) (ds:List (DataW H)) (p:List MemPlace),
  (ts.all fun t=>P.readableRec t&&decide (t<P.types.size))=true→DataW.TrodAll enc P W 0 (fun _=>true) true ts vs ds p→(∀x∈p,x.block<W.heap.size)→(∀x∈p,sp x.block=true)→
  DataW.TrodAll enc P W' 0 sp true ts vs ds p:=by
 intro ts
 induction ts with
 |nil=>
  intro vs ds p _ h _ _
  cases vs with
  |nil=>cases ds with
   |nil=>exact h
   |cons d ds=>exact h.elim
  |cons v vs=>exact h.elim
 |cons t ts ih=>
  intro vs ds p hr h bG hs
  cases vs with
  |nil=>exact h.elim
  |cons v vs=>
   cases ds with
   |nil=>exact h.elim
   |cons d ds=>
    obtain⟨p1,q,h1,h2,rfl⟩:=h
    simp only[nZ,mf,oK] at hr
    refine⟨p1,q,WideElems.Trod_stays hl hr.1.1 hr.1.2 h1 (fun x hx=>hb.same (bG x (by simp[hx]))) (fun x hx=>hs x (by simp[hx])),ih vs ds q hr.2 h2 (fun x hx=>bG x (by simp[hx])) (fun x hx=>hs x (by simp[hx])),rfl⟩
theorem Qc {f:Func}{s:ChangeSpec}{W W':World}{args:Array Value}{ds gs:List (DataW H)}{before:List MemPlace}{tb:TypeId}
  (hl:laidOutB P=true) (hv:s.vars=[]) (Ch:(f.params.toList.all fun t=>P.readableRec t&&decide (t<P.types.size))=true)
  (nE:f.resultTypes=#[tb]) (htb:P.underlying tb=some .bool)
  (hW:DataW.Whole enc P f.params.toList s.vars false W args.toList ds gs before)
  (Q7:s.fn H (ds++gs)={results:=[.lit (.bool true)],args:=ds}) (hb:Below W.heap.size W W'):
  s.post enc P f false true false false W args (.bool true) W':=by
 have hW':=hW
 obtain⟨p,q,hA,hV,hpq,_,_⟩:=hW
 rw[hv] at hV
 have hq:q=[]:=by
  cases gs with
  |nil=>exact hV
  |cons g gs=>exact hV.elim
 subst hq
 rw[vQ] at hpq
 subst hpq
 refine E3 (pa:=before) (pv:=[]) hW' (fun b sp hd=>?_) (fun sp hsp=>?_) (fun sp _=>?_) (by simp) hb ?_
 ·rw[nE,Q7]
  exact trodAll_cons_mk (shut_bool htb _) trodAll_mk0
 ·rw[Q7]
  exact E1 hl hb _ _ _ _ Ch hA (fun x hx=>hW'.lt x hx) hsp
 ·rw[hv,Q7];rfl
 ·exact ok_one nE rfl (okWide_bool_mk htb _)
end
theorem hv_of {P:Program}{W:World}{params:Array TypeId}{args:Array Value}(h:∀(j:Nat) t v,params[j]? =some t→args[j]? =some v→Value.okWide P W .any 0 t v∨∃base,Value.okWide P W .any base t v)(j:Nat){t:TypeId}{v:Value}
  (h1:params[j]? =some t) (h2:args[j]? =some v):∃base,Value.okWide P W .any base t v:=by
 rcases h j t v h1 h2 with h|h
 ·exact⟨0,h⟩
 ·exact h
end
section
open Go.ChangeShapes Go.WideShapes Go.ChangeAt Go.RowKit Go.Deep
def wtFs(tb:TypeId→Option TyE)(f:TypeId→List E→Prop):List (Nat×TypeId)→List E→Prop
 |[],xs=>xs=[]
 |(_,t)::fs,xs=>∃j,tb t=some j∧j.size≤xs.length∧f t (xs.take j.size)∧wtFs tb f fs (xs.drop j.size)
def wtE(tb:TypeId→Option TyE):Nat→TypeId→List E→Prop
 |0,_,_=>False
 |k+1,t,xs=>∃i,tb t=some i∧xs.length=i.size∧match i.ty with
  | .int kd=>∃n,xs=[.lit (.int kd n)]∧(Lit.int kd n).wf=true
  | .bool=>∃b,xs=[.lit (.bool b)]
  | .str=>∃s:ByteArray,xs=[.lit (.string s)]∧s.size≤maxLen
  | .slice e=>∃j n ys,tb e=some j∧xs=[.sl j.size n ys]∧ys.length=n*j.size∧n≤maxLen∧∀i,i<n→wtE tb k e ((ys.drop (i*j.size)).take j.size)
  | .struct fs=>wtFs tb (wtE tb k) fs xs
  | .arr n e=>∃j,tb e=some j∧xs.length=n*j.size∧∀i,i<n→wtE tb k e ((xs.drop (i*j.size)).take j.size)
  |_=>False
def CV(tb:TypeId→Option TyE)(f:TypeId→Bool):List (Nat×TypeId)→Nat→Nat→Bool
 |[],off,n=>off == n
 |(o,t)::fs,off,n=>o == off&&f t&&match tb t with
  |some j=>CV tb f fs (off+j.size) n
  |none=>false
def GM(tb:TypeId→Option TyE):Nat→TypeId→Bool
 |0,_=>false
 |k+1,t=>match tb t with
  |some i=>match i.ty with
   | .int _| .bool| .str=>i.size == 1
   | .slice e=>i.size == 1&&GM tb k e&&match tb e with
    |some j=>decide (0<j.size)
    |none=>false
   | .struct fs=>CV tb (GM tb k) fs 0 i.size
   | .arr n e=>GM tb k e&&match tb e with
    |some j=>i.size == n*j.size
    |none=>false
   |_=>false
  |none=>false
section
variable {H:Type} {enc:TypeId×Value→H} {P:Program} {tb:TypeId→Option TyE} {W:World} {sp:Nat→Bool} {hd:Bool} {base:Nat}
theorem TOk.cells(tok:TOk P tb){t:TypeId}{i:TyE}(h:tb t=some i):P.cellsOf t=i.size:=by
 obtain⟨f,z,h1,h2,_⟩:=tok.inf h
 unfold Program.cellsOf
 rw[h1]
 exact h2
def F0:Addr→Prop:=fun _=>False
theorem Bh {z:Nat}{us:List Value}{Good:List E→Prop}:∀(n:Nat),us.length=n*z→(∀i,i<n→∃xs,Pw (dq W F0) xs ((us.drop (i*z)).take z)∧Good xs)→
  ∃ys,Pw (dq W F0) ys us∧ys.length=n*z∧∀i,i<n→Good ((ys.drop (i*z)).take z)
 |0,hl,_=>⟨[],by rw[fP] at hl;rw[kY hl];exact Pw.nil,by simp,fun i h=>absurd h (wI _)⟩
 |n+1,hl,h=>by
  rw[jS] at hl
  have bG:(us.take (n*z)).length=n*z:=by rw[e6];omega
  obtain⟨ys,h1,h2,h3⟩:=Bh (us:=us.take (n*z)) n bG fun i hi=>by
   obtain⟨xs,g1,g2⟩:=h i (by omega)
   have hm:i*z+z≤n*z:=by rw[←jS];exact bJ _ hi
   refine⟨xs,?_,g2⟩
   rw[DZ,Bo,sZ (by omega)]
   exact g1
  obtain⟨xs,g1,g2⟩:=h n (by omega)
  have hx:xs.length=z:=by rw[g1.1,e6,ie];omega
  refine⟨ys++xs,?_,by rw[eI,h2,hx,jS],fun i hi=>?_⟩
  ·have e:us=us.take (n*z)++(us.drop (n*z)).take z:=by
    rw[gu (l:=us.drop (n*z)) (by rw[ie];omega),s4]
   rw[e]
   exact h1.append g1
  ·rcases bt i n with G3|G3
   ·have hm:i*z+z≤n*z:=by rw[←jS];exact bJ _ G3
    rw[LJ (by omega),wJ (by rw[ie];omega)]
    exact h3 i G3
   ·obtain rfl:i=n:=by omega
    rw[LV,h2,Nat.sub_self,yO (by omega)]
    simp only[oa,qw]
    rw[gu (by omega)]
    exact g2
theorem xj(tok:TOk P tb):∀(k:Nat) (fuel:Nat) (t:TypeId) (cs:List Value) (x:DataW H×List MemPlace),GM tb k t=true→DataW.trod enc P W base sp hd fuel t cs=some x→∃xs,Pw (dq W F0) xs cs∧wtE tb k t xs
 |0,_,_,_,_,h,_=>by cases h
 |k+1,fuel,t,cs,x,hok,h=>by
  unfold GM at hok
  cases ht:tb t with
  |none=>rw[ht] at hok;cases hok
  |some i=>
   rw[ht] at hok
   dsimp only at hok
   cases j6:i.ty with
   |int kd=>
    rw[j6] at hok
    have hz:i.size=1:=by simpa using hok
    obtain⟨n,rfl,_,hw⟩:=DataW.trod_int (tok.int ht j6) h
    exact⟨[.lit (.int kd n)],Pw.cons (.lit _ rfl) Pw.nil,i,ht,by rw[hz];rfl,by rw[j6];exact⟨n,rfl,hw⟩⟩
   |bool=>
    rw[j6] at hok
    have hz:i.size=1:=by simpa using hok
    obtain⟨dd,O3,Jw⟩:=tok.und ht
    rw[j6] at Jw
    have hb:P.underlying t=some .bool:=by cases dd <;> simp[Ty.of] at Jw;exact O3
    obtain⟨b,rfl,_⟩:=DataW.trod_bool hb h
    exact⟨[.lit (.bool b)],Pw.cons (.lit _ rfl) Pw.nil,i,ht,by rw[hz];rfl,by rw[j6];exact⟨b,rfl⟩⟩
   |str=>
    rw[j6] at hok
    have hz:i.size=1:=by simpa using hok
    obtain⟨s,rfl,_,hs⟩:=DataW.trod_string (tok.str ht j6) h
    exact⟨[.lit (.string s)],Pw.cons (.lit _ rfl) Pw.nil,i,ht,by rw[hz];rfl,by rw[j6];exact⟨s,rfl,hs⟩⟩
   |slice e=>
    rw[j6] at hok
    dsimp only at hok
    cases he:tb e with
    |none=>rw[he] at hok;simp at hok
    |some j=>
     rw[he] at hok
     simp only[mf,beq_iff_eq,oK] at hok
     obtain⟨⟨hz,hoe⟩,G1⟩:=hok
     have hce:=tok.cells he
     rcases open_slice (tok.slice ht j6) h with⟨rfl,_⟩|⟨a,len,cap,m,n,D,Pl,rfl,hb,hlc,oF,hm,_,hi⟩
     ·exact⟨[.sl j.size 0 []],Pw.cons (.sl _ 0 [] none 0 (fun _=>undef) (by simp) G1 (aD _) (bY _) (fun h=>absurd h (HS _)) (fun _ h=>by cases h) (fun _ _ h=>by simp at h)) Pw.nil,
       i,ht,by rw[hz];rfl,by rw[j6];exact⟨j,0,[],he,rfl,by simp,bY _,fun i h=>absurd h (wI _)⟩⟩
     ·have hle:len≤m:=by rw[hm];split <;> omega
      rw[hce] at hi
      let us:List Value:=(List.range (len*j.size)).map fun q=>(W.cell? (a.add q)).getD undef
      have MQ:us.length=len*j.size:=by simp[us]
      have hu:∀q,q<len*j.size→us[q]? =some ((W.cell? (a.add q)).getD undef):=fun q hq=>by simp[us,hq]
      have Rb:∀i,i<len→∃vd,W.cells? base (a.add (i*j.size)) j.size=some vd∧vd=(us.drop (i*j.size)).take j.size:=by
       intro i Iq
       obtain⟨vd,hc,_⟩:=hi i (by omega)
       obtain⟨_,Dw,CD⟩:=World.cells?_some hc
       refine⟨vd,hc,vo fun q=>?_⟩
       have hm2:i*j.size+j.size≤len*j.size:=by rw[←jS];exact bJ _ Iq
       rw[ez,lX]
       split
       ·rename_i hq
        have h1:=CD q hq
        rw[qR] at h1
        rw[hu _ (by omega),h1]
        rw[i8 (by omega)];rfl
       ·rename_i hq
        rw[fa (by omega)]
      obtain⟨ys,Jp,Dk,hy3⟩:=Bh (W:=W) (us:=us) (z:=j.size) (Good:=wtE tb k e) len MQ fun i Iq=>by
       obtain⟨vd,hc,hcs'⟩:=Rb i Iq
       obtain⟨cs2,rk,htr⟩:=hi i (by omega)
       rw[hc] at rk
       injection rk with rk
       subst rk
       rw[←hcs']
       exact xj tok k _ e vd _ hoe htr
      have wx:∀q v,us[q]? =some v→W.cell? (a.add q)=some v:=by
       intro q v hv
       have hq:q<len*j.size:=by
        rcases bt q us.length with h|h
        ·omega
        ·rw[fa h] at hv;cases hv
       -- GA cell lies in a chunk
       have hqd:q / j.size<len:=J8 (by rw[cC];exact hq)
       obtain⟨vd,hc,hcs'⟩:=Rb (q / j.size) hqd
       obtain⟨_,Dw,CD⟩:=World.cells?_some hc
       have h1:=CD (q % j.size) (ep _ G1)
       rw[qR,cC,pW] at h1
       rw[hu q hq] at hv
       injection hv with hv
       rw[h1] at hv
       rw[h1,i8 (by have:=ep q G1;omega)] at*
       simp only[vk] at hv
       rw[hv]
      refine⟨[.sl j.size len ys],Pw.cons (.sl _ len ys (some a) cap (fun q=>us.getD q undef) Dk G1 hlc oF (fun hpl=>⟨a,rfl,?_⟩) (fun ad OA q y hq=>?_) (fun q y hq=>?_)) Pw.nil,i,ht,by rw[hz];rfl,by rw[j6];exact⟨j,len,ys,he,rfl,Dk,cw hlc oF,hy3⟩⟩
      ·have h0:0<len*j.size:=tL hpl G1
       have:=World.block_lt_of_cell? W _ (wx 0 _ (hu 0 h0))
       rwa[iw] at this
      ·injection OA with OA
       subst OA
       obtain⟨v,hv,_⟩:=Jp.get hq
       refine⟨?_,fun hf=>hf⟩
       rw[wx q v hv,List.getD,hv];rfl
      ·obtain⟨v,hv,hr⟩:=Jp.get hq
       rw[List.getD,hv]
       exact hr
   |other=>rw[j6] at hok;cases hok
   |struct fs=>
    rw[j6] at hok
    dsimp only at hok
    obtain⟨fields,hf,Ir⟩:=tok.struct ht j6
    obtain⟨xs,n,_,_,Dw,An,mP⟩:=DataW.trod_struct hf h
    rw[tok.cells ht] at Dw
    have key:∀(l:List Field) (off:Nat),(∀f∈l,∃x,DataW.trod enc P W base sp hd n f.type ((cs.drop f.offset).take (P.cellsOf f.type))=some x)→off≤cs.length→CV tb (GM tb k) (l.map fun f=>(f.offset,f.type)) off i.size=true→
      ∃ys,Pw (dq W F0) ys (cs.drop off)∧wtFs tb (wtE tb k) (l.map fun f=>(f.offset,f.type)) ys:=by
     intro l
     induction l with
     |nil=>
      intro off _ ho xY
      have:off=i.size:=by simpa[CV] using xY
      exact⟨[],by rw[yO (by omega)];exact Pw.nil,rfl⟩
     |cons f l ih=>
      intro off hl ho xY
      simp only[fx,CV,mf,beq_iff_eq] at xY
      obtain⟨⟨hof,Bb⟩,xY⟩:=xY
      cases hj:tb f.type with
      |none=>rw[hj] at xY;cases xY
      |some j=>
       rw[hj] at xY
       dsimp only at xY
       obtain⟨x,hx⟩:=hl f (ni ..)
       rw[tok.cells hj,hof] at hx
       obtain⟨zs,K0,hz2⟩:=xj tok k _ f.type _ _ Bb hx
       have hzl:zs.length=j.size:=by
        cases k with
        |zero=>cases hz2
        |succ k=>
         obtain⟨j',Ip,QW,_⟩:=hz2
         rw[hj] at Ip
         injection Ip with Ip
         subst Ip
         exact QW
       have hlen:off+j.size≤cs.length:=by
        have:=K0.1
        rw[hzl,e6,ie] at this
        omega
       obtain⟨ys,Jp,Dk⟩:=ih (off+j.size) (fun g hg=>hl g (lV _ hg)) hlen xY
       refine⟨zs++ys,?_,j,hj,by rw[eI];omega,?_,?_⟩
       ·have e:cs.drop off=(cs.drop off).take j.size++cs.drop (off+j.size):=by
         rw[←nj,s4]
        rw[e]
        exact K0.append Jp
       ·rw[wJ (by omega),gu (by omega)]
        exact hz2
       ·rw[LJ (by omega),yO (by omega)]
        exact Dk
    obtain⟨ys,Jp,Dk⟩:=key fields.toList 0 (fun f hfm=>by
     obtain⟨q,hq⟩:=wK hfm
     have hq':fields[q]? =some f:=by simpa using hq
     have bG:q<xs.length:=by rw[An];exact (ey.1 hq').1
     exact⟨xs[q],by rw[mP q f hq',i8 bG]⟩) (bY _) (by rw[Ir];exact hok)
    rw[oa] at Jp
    exact⟨ys,Jp,i,ht,by rw[Jp.1,Dw],by rw[j6];rw[Ir] at Dk;exact Dk⟩
   |arr n e=>
    rw[j6] at hok
    dsimp only at hok
    cases he:tb e with
    |none=>rw[he] at hok;simp at hok
    |some j=>
     rw[he] at hok
     simp only[mf,beq_iff_eq] at hok
     obtain⟨hoe,hz⟩:=hok
     obtain⟨xs,m,_,_,Dw,An,mP⟩:=DataW.trod_array (tok.arr ht j6) h
     rw[tok.cells ht] at Dw
     rw[tok.cells he] at mP
     obtain⟨ys,Jp,Dk,hy3⟩:=Bh (W:=W) (us:=cs) (z:=j.size) (Good:=wtE tb k e) n (by rw[Dw,hz]) fun q hq=>by
      have hq':=mP q hq
      rw[i8 (by omega)] at hq'
      exact xj tok k _ e _ _ hoe hq'
     exact⟨ys,Jp,i,ht,by rw[Jp.1,Dw],by rw[j6];exact⟨j,he,Dk,hy3⟩⟩
def argD(g:Bool)(xs:List E):D:=match g with
 |true=>.ag (xs.map D.e)
 |false=>.e (xs.headD .any)
theorem arg_rep(tok:TOk P tb){k:Nat}{t:TypeId}{i:TyE}{v:Value}{d:DataW H}{p:List MemPlace}{r:Reach}{b0:Nat}(hok:GM tb k t=true)(ht:tb t=some i)(yD:Value.okWide P W r b0 t v)(h:DataW.Trod enc P W base sp hd t v d p):
  ∃xs,wtE tb k t xs∧mz W F0 (argD i.ty.agg xs) v:=by
 obtain⟨fuel,hf⟩:=h
 obtain⟨xs,hx,hw⟩:=xj tok k fuel t _ _ hok hf
 refine⟨xs,hw,?_⟩
 have one:v.cells=#[v]→mz W F0 (.e (xs.headD .any)) v:=by
  intro hv
  rw[hv] at hx
  cases xs with
  |nil=>have:=hx.1;simp at this
  |cons y ys=>exact aI.e _ _ (hx.2 0 y v rfl rfl)
 have agg:∀cs,v=.agg cs→mz W F0 (.ag (xs.map D.e)) v:=by
  rintro cs rfl
  have hx':Pw (dq W F0) xs cs.toList:=hx
  refine aI.ag _ cs (by simpa using hx'.1.symm) (fun j u hu=>?_) (fun j d u hd hu=>?_)
  ·have vJ:cs.toList[j]? =some u:=by simpa using hu
   have bG:j<xs.length:=by
    rw[hx'.1]
    exact (j4.1 vJ).1
   exact (hx'.2 j _ u (i8 bG) vJ).one
  ·rw[fO] at hd
   cases hxj:xs[j]? with
   |none=>simp[hxj] at hd
   |some y=>
    simp only[hxj,lc,kZ] at hd
    subst hd
    exact .e _ _ (hx'.2 j y u hxj (by simpa using hu))
 cases j6:i.ty with
 |int kd=>obtain⟨n,rfl⟩:=okWide_int (tok.int ht j6) yD;exact one rfl
 |bool=>
  obtain⟨dd,O3,Jw⟩:=tok.und ht
  rw[j6] at Jw
  have hb:P.underlying t=some .bool:=by cases dd <;> simp[Ty.of] at Jw;exact O3
  obtain⟨b,rfl⟩:=okWide_bool hb yD
  exact one rfl
 |str=>obtain⟨s,rfl⟩:=okWide_string (tok.str ht j6) yD;exact one rfl
 |slice e=>obtain⟨a,l,c,rfl⟩:=okWide_slice (tok.slice ht j6) yD;exact one rfl
 |struct fs=>
  obtain⟨fields,hf,_⟩:=tok.struct ht j6
  obtain⟨cs,rfl,_⟩:=okWide_struct hf yD
  exact agg cs rfl
 |arr n e=>
  have ha:=tok.arr ht j6
  unfold Value.okWide at yD
  rw[ha] at yD
  obtain⟨cs,rfl,_⟩:=yD
  exact agg cs rfl
 |other=>
  cases k with
  |zero=>cases hok
  |succ k=>unfold GM at hok;rw[ht] at hok;dsimp only at hok;rw[j6] at hok;cases hok
theorem says_of {f:FuncId}{ds:List D}{args:Array Value}(hc:ax P f ds (.e (.lit (.bool true))))(hsz:args.size=ds.length)(tA:∀(j:Nat) (d:D) (u:Value),ds[j]? =some d→args[j]? =some u→mz W F0 d u):
  Calls P f args W fun e w'=>e=.returned (.bool true)∧Below W.heap.size W w':=by
 refine (hc.2 W F0 args (fun _ h=>h.elim) hsz tA).mono ?_
 rintro e w' ⟨v,rfl,nE,hb⟩
 have hr:mz w' F0 (.e (.lit (.bool true))) v:=nE
 exact⟨by rw[aI.lit hr],hb⟩
theorem ve {α:Type}(cells:α→List E)(z:Nat)(good:α→Prop):∀(n:Nat) (ys:List E),ys.length=n*z→(∀i,i<n→∃a,(ys.drop (i*z)).take z=cells a∧good a)→∃l:List α,l.length=n∧ys=l.flatMap cells∧∀a∈l,good a
 |0,ys,hl,_=>⟨[],rfl,by rw[fP] at hl;rw[kY hl];rfl,by simp⟩
 |n+1,ys,hl,h=>by
  rw[jS] at hl
  obtain⟨a,ha,hga⟩:=h 0 (Nat.succ_pos n)
  obtain⟨l,h1,h2,h3⟩:=ve cells z good n (ys.drop z) (by rw[ie];omega) fun i hi=>by
   have:=h (i+1) (by omega)
   rw[nj,show z+i*z=(i+1)*z by rw[jS];omega]
   exact this
  simp only[fP,oa] at ha
  refine⟨a::l,by simp[h1],?_,fun b hb=>?_⟩
  ·rw[oL,←ha,←h2,s4]
  ·rcases je.1 hb with rfl|hb
   ·exact hga
   ·exact h3 b hb
end
end
section
def Rd(tb:TypeId→Option TyE)(t:TypeId)(d:Nat){α:Type}(c:Cd α)(W:α→Prop):Prop:=∀k xs,wtE tb (k+d) t xs→∃a,xs=c.f a∧W a
theorem Rd.up {tb:TypeId→Option TyE}{t:TypeId}{d:Nat}{α:Type}{c:Cd α}{W:α→Prop}(h:Rd tb t d c W)(m:Nat):Rd tb t (d+m) c W:=fun k xs h'=>h (k+m) xs (by rw[ob,rz m d];exact h')
def Wi(k:IntKind)(n:Int):Prop:=k.min≤n∧n≤k.max
section
variable {tb:TypeId→Option TyE} {t e:TypeId} {i j:TyE} {d:Nat} {α:Type} {c:Cd α} {W:α→Prop}
theorem rd_I {k:IntKind}(ht:tb t=some i)(hi:i.ty=.int k):Rd tb t 1 (cI k) (Wi k):=by
 intro n xs h
 obtain⟨i',h1,_,h⟩:=h
 rw[ht] at h1;cases h1
 rw[hi] at h
 obtain⟨m,h1,h2⟩:=h
 exact⟨m,h1,by unfold Wi;simpa[Lit.wf] using h2⟩
theorem rd_B(ht:tb t=some i)(hi:i.ty=.bool):Rd tb t 1 cB (fun _=>True):=by
 intro n xs h
 obtain⟨i',h1,_,h⟩:=h
 rw[ht] at h1;cases h1
 rw[hi] at h
 obtain⟨m,h1⟩:=h
 exact⟨m,h1,trivial⟩
theorem rd_L(ht:tb t=some i)(he:tb e=some j)(hc:Rd tb e d c W)(hi:i.ty=.slice e:=by exact rfl)(hz:c.sz=j.size:=by exact rfl):Rd tb t (d+1) (cL c) (fun l=>l.length≤maxLen∧∀a∈l,W a):=by
 intro n xs h
 obtain⟨i',h1,_,h⟩:=h
 rw[ht] at h1;cases h1
 rw[hi] at h
 obtain⟨j',m,ys,h1,h2,h3,h4,h5⟩:=h
 rw[he] at h1;cases h1
 obtain⟨l,h6,h7,h8⟩:=ve c.f j.size W m ys h3 fun i hi=>hc n _ (h5 i hi)
 refine⟨l,?_,by omega,h8⟩
 rw[h2,h7,←h6,←hz];rfl
theorem mT {xs:List E}{n:Nat}{ys zs:List E}(h1:xs.take n=ys)(h2:xs.drop n=zs):xs=ys++zs:=by
 rw[←h1,←h2,s4]
theorem arg_of {P:Program}{H:Type}{enc:TypeId×Value→H}{Wd:World}{sp:Nat→Bool}{hd:Bool}{base k:Nat}{v:Value}{dw:DataW H}{p:List MemPlace}{r:Reach}{b0:Nat}(tok:TOk P tb)(hok:GM tb (k+d) t=true)(ht:tb t=some i)(hc:Rd tb t d c W)(yD:Value.okWide P Wd r b0 t v)(h:DataW.Trod enc P Wd base sp hd t v dw p):
  ∃a,mz Wd F0 (argD i.ty.agg (c.f a)) v∧W a:=by
 obtain⟨xs,h1,h2⟩:=arg_rep tok hok ht yD h
 obtain⟨a,rfl,h3⟩:=hc k xs h1
 exact⟨a,h2,h3⟩
end
end
theorem rd_A {tb:TypeId→Option TyE}{t e:TypeId}{i j:TyE}{d n:Nat}{α:Type}{c:Cd α}{W:α→Prop}(ht:tb t=some i)(he:tb e=some j)(hc:Rd tb e d c W)(hi:i.ty=.arr n e:=by exact rfl)(hz:c.sz=j.size:=by exact rfl):Rd tb t (d+1) (cA n c) (fun v=>∀a∈v.toList,W a):=by
 intro m xs h
 obtain⟨i',h1,_,h⟩:=h
 rw[ht] at h1;cases h1
 rw[hi] at h
 obtain⟨j',h1,h3,h5⟩:=h
 rw[he] at h1;cases h1
 obtain⟨l,h6,h7,h8⟩:=ve c.f j.size W n xs h3 fun i hi=>hc m _ (h5 i hi)
 exact⟨⟨l.toArray,by simpa using h6⟩,h7,h8⟩
def QR(x:ai):Prop:=(True∧True∧∀a∈x.vN.vW.toList,Wi .u32 a)∧(True∧True∧∀a∈x.vD.vW.toList,Wi .u32 a)
theorem PU {x:ap}(h:∀a∈x.vW.toList,Wi .u32 a):okI x:=fun j hj=>by
 have h2:=h x.vW[j]! (by rw[f7 x.vW j hj];simp)
 exact⟨h2.1,by have:x.vW[j]!≤4294967295:=h2.2;omega⟩
theorem okR_of {x:ai}(h:QR x):okR x:=⟨PU h.1.2.2,PU h.2.2.2⟩
def QL(l:List ai):Prop:=l.length≤maxLen∧∀x∈l,QR x
theorem QL.nu {l:List ai}(h:QL l):l=(l.map wu).map nv∧(l.map wu).length≤9223372036854775807:=by
 refine⟨(Jd fun x hx=>okR_of (h.2 x hx)).symm,?_⟩
 rw[bW]
 exact cw h.1 (by decide)
theorem Mp {a:an}(hA:QL a.vV):cN a=some true:=by
 obtain⟨R,C,A⟩:=a
 dsimp only at hA
 rw[hA.nu.1]
 exact OU
section
open Go.ChangeShapes Go.WideShapes Go.ChangeAt Go.RowKit Go.ChangeMaps
namespace matrixReduces
theorem k0:(Rows.matrixReducesAsSpecifiedRow.wf (OpenSpec.ofChange Rows.matrixReducesAsSpecifiedSpec))=true:=by kernel_rfl
theorem k1:(laidOutB prog)=true:=by kernel_rfl
theorem k2:(mapsRowed prog)=true:=by kernel_rfl
theorem k3:(f4.params.all (prog.readableRec ·))=true:=by kernel_rfl
theorem k4:(namedTie prog Rows.matrixReducesAsSpecifiedRow.named Rows.matrixReducesAsSpecifiedSpec.vars)=true:=by kernel_rfl
theorem k5:((Rows.matrixReducesAsSpecifiedRow.stops == []))=true:=by kernel_rfl
theorem k6:((prog.stops == []))=true:=by kernel_rfl
theorem k7:((Rows.matrixReducesAsSpecifiedRow.knobs == []))=true:=by kernel_rfl
theorem k8:((prog.stopKnobs == []))=true:=by kernel_rfl
theorem k9:((Rows.matrixReducesAsSpecifiedRow.inPlace == prog.inPlace 4))=true:=by kernel_rfl
theorem k10:((Rows.matrixReducesAsSpecifiedRow.unfollowed == prog.unfollowed 4))=true:=by kernel_rfl
theorem k11:((Rows.matrixReducesAsSpecifiedRow.recurses == prog.recurses 4))=true:=by kernel_rfl
theorem k12:((Rows.matrixReducesAsSpecifiedRow.named == prog.varsNamed 4))=true:=by kernel_rfl
theorem k13:((Rows.matrixReducesAsSpecifiedRow.maps == (f4.params.toList++Rows.matrixReducesAsSpecifiedSpec.plain.varTypes prog).any (prog.mapsRec ·)))=true:=by kernel_rfl
theorem k14:((Rows.matrixReducesAsSpecifiedRow.ifaces == (f4.params.toList++Rows.matrixReducesAsSpecifiedSpec.plain.varTypes prog).any (prog.ifacesRec ·)))=true:=by kernel_rfl
theorem k15:((Rows.matrixReducesAsSpecifiedRow.mapsOut == prog.mapsAmong f4.resultTypes.toList))=true:=by kernel_rfl
theorem k16:((Rows.matrixReducesAsSpecifiedRow.loops == (f4.params.toList++Rows.matrixReducesAsSpecifiedSpec.plain.varTypes prog).any (prog.loopsFrom ·)))=true:=by kernel_rfl
theorem k17:((Rows.matrixReducesAsSpecifiedRow.wideKeys == (f4.params.toList++Rows.matrixReducesAsSpecifiedSpec.plain.varTypes prog++f4.resultTypes.toList).any (prog.wideKeysFrom ·)))=true:=by kernel_rfl
theorem k18:(Rows.matrixReducesAsSpecifiedSpec.vars.all (prog.varReadable ·))=true:=by kernel_rfl
theorem k19:(f4.resultTypes.all (fun t=>prog.readableRec t&&decide (t<prog.types.size)))=true:=by kernel_rfl
theorem k20:((Rows.matrixReducesAsSpecifiedRow.ifacesOut == f4.resultTypes.toList.any (prog.ifacesRec ·)))=true:=by kernel_rfl
theorem k21:((Rows.matrixReducesAsSpecifiedRow.loopsOut == f4.resultTypes.toList.any (prog.loopsFrom ·)))=true:=by kernel_rfl
theorem k22:((Rows.matrixReducesAsSpecifiedRow.plainKeys == prog.plainKeys))=true:=by kernel_rfl
theorem k23:(Rows.matrixReducesAsSpecifiedRow.shortTexts.isNone)=true:=by kernel_rfl
theorem k24:(prog.stopsHeard)=true:=by kernel_rfl
theorem k25:(prog.mayEnter)=true:=by kernel_rfl
theorem k26:((Rows.matrixReducesAsSpecifiedRow.lifted == prog.liftsFinal))=true:=by kernel_rfl
theorem k27:((prog.make == some Rows.matrixReducesAsSpecifiedRow.make))=true:=by kernel_rfl
theorem k28:((Rows.matrixReducesAsSpecifiedRow.kinds == (if Rows.matrixReducesAsSpecifiedRow.domain.isEmpty then [] else f4.params.toList.map fun t=>match prog.underlying t with|some (.int k)=>some k|_=>none)))=true:=by kernel_rfl
theorem k29:((Rows.matrixReducesAsSpecifiedRow.pinned == Rows.matrixReducesAsSpecifiedRow.pinnedBy))=true:=by kernel_rfl
theorem k30:((Rows.matrixReducesAsSpecifiedRow.veiled == (f4.params.toList++Rows.matrixReducesAsSpecifiedSpec.plain.varTypes prog++f4.resultTypes.toList).any (prog.veiledRec ·)))=true:=by kernel_rfl
theorem k31:(Rows.matrixReducesAsSpecifiedRow.veiledFits prog f4.params.toList (f4.params.toList++Rows.matrixReducesAsSpecifiedSpec.plain.varTypes prog++f4.resultTypes.toList))=true:=by kernel_rfl
theorem oJ {a b:Bool}(h:a=true)(h2:b=true):(a&&b)=true:=by rw[h,h2];rfl
theorem closed:joinedFacts prog 4 f4 Rows.matrixReducesAsSpecifiedSpec Rows.matrixReducesAsSpecifiedRow=true:=by
 delta joinedFacts
 exact oJ (oJ (oJ (oJ (oJ (oJ (oJ (oJ (oJ (oJ (oJ (oJ (oJ (oJ (oJ (oJ (oJ (oJ (oJ (oJ (oJ (oJ (oJ (oJ (oJ (oJ (oJ (oJ (oJ (oJ (oJ k0 k1) k2) k3) k4) k5) k6) k7) k8) k9) k10) k11) k12) k13) k14) k15) k16) k17) k18) k19) k20) k21) k22) k23) k24) k25) k26) k27) k28) k29) k30) k31
end matrixReduces
end
end
end Go.Proofs.YtgfcnncojhkcoaaGreat
