/-
  Lemmas, part 7. Conditions: none.
-/
import Derived.Test.YtgfcnncojhkcoaaGreatV6
import Derived.Test.YtgfcnncojhkcoaaGreatRows
import Derived.ProofKit
import Derived.OpenShut
import Derived.ChangeSame
import Derived.Deep.Slices
import Derived.JoinedCond
import Derived.SizedLaws
import Derived.Deep.CondSized
set_option linter.all false
set_option maxRecDepth 100000
set_option maxHeartbeats 40000000
namespace Go.Proofs.YtgfcnncojhkcoaaGreat
open Go.RowKit Go.IntKind Tryz Go.Proofs.Tryz
noncomputable section
def lU(mE:List Int):Int×(List ak)→Option ((Int×(List ak))⊕((List ak))):=fun (aQ,aZ)=>cnd (decide (aQ<((mE).length:Int))) (gd (0≤aQ∧aQ<((mE).length:Int)) (bnd (ek ((mE)[(aQ).toNat]!)) fun x4=>gd ((aZ++[x4]).length*136≤140737488355328) (some (.inl (i64.wrap (aQ+(1:Int)),aZ++[x4]))))) (some (.inr aZ))
def fg(fU:Int)(eC:Int)(mE:List Int):Option aE:=bnd (a7 (lU mE) ((0:Int),([]:List ak))) fun aN=>some (⟨fU,eC,aN⟩:aE)
theorem jg {fU:Int}{eC:Int}{mE:List Int}{r:aE}(h:fg fU eC mE=some r):aB prog 59 [dI .i64 fU,dI .i64 eC,dL (cI .i64) mE] (dG a9 r):=by
 refine bJ (rs:=[.cell 6 24]) (fun cx hx h0=>?_) func59
 unfold fg at h
 refine rs hx fun K hK=>?_
 refine s1 (d:=.pt 0 0) (cr aG) ?_
 refine .nil (hK _ _ (rs hx fun K hK=>?_))
 iterate 2 refine sa ?_
 refine s1 (d:=.ag [dI .i64 fU,dI .i64 eC,dN]) (ez aG) ?_
 refine s1 (d:=.pt 1 0) (cr aG) ?_
 refine s0 (gv (ds':=[dI .i64 fU,dI .i64 eC,dN]) aG) ?_
 refine .nil (hK _ _ (AW.seq (ra hx ?_)))
 refine AW.block ?_
 obtain⟨aN,hy,h⟩:=ah h
 refine lp (S:=Int×(List ak)) (X:=(List ak)) (fun (aQ,aZ)=>[(6,.pt 0 0),(7,.pt 1 0),(13,dL (cI .i64) mE),(14,dI .i64 ((mE).length:Int)),(15,dI .i64 aQ)]) (fun (aQ,aZ)=>⟨[(0,[dI .i64 (0:Int),dI .i64 (0:Int),dN]),(1,[dI .i64 fU,dI .i64 eC,dO 2 aj aZ])],[(2,(aZ).length,36,34)],3⟩) (PE cx (.exit 0) (fun aN=>[(6,.pt 0 0),(7,.pt 1 0)]) fun aN=>⟨[(0,[dI .i64 (0:Int),dI .i64 (0:Int),dN]),(1,[dI .i64 fU,dI .i64 eC,dO 2 aj aN])],[(2,(aN).length,36,34)],3⟩) hy ?_ ?_ ?_
 exact Wk.trans (Wk.nilOwn (ds':=[dI .i64 fU,dI .i64 eC,dO 2 aj ([]:List ak)]) 1 2 34 36) (wk h0 [0,1,2] (wR rfl (wR rfl (wR rfl (wR rfl (wR rfl wTn))))) (vR rfl (vR rfl wVn)) (wL rfl rfl wLn))
 clear hy h
 rintro⟨aQ,aZ⟩ y h
 dsimp only[lU] at h
 refine ra hx ?_
 refine AW.seq (cdh h rfl (fun cQ h=>?_) (fun cQ h=>?_))
 refine AW.skip (AW.seq (AW.block (rs hx fun K hK=>?_)))
 obtain⟨mR,h⟩:=az h
 have pH:(aQ).toNat<(mE).length:=by omega
 refine s1 (eh mR bK aR) ?_
 refine s1 (nf (c:=(cI .i64)) (l:=mE) (n:=(aQ).toNat) (o:=0) aR pH) ?_
 refine sa ?_
 refine .nil (hK _ _ (rqd [60] hx fun K hK=>?_))
 refine sa ?_
 refine s1 (aP aJ) ?_
 refine sa ?_
 refine cqb h jf fun x4 h=>?_
 refine s1 (qp ([x4]:List ak) aj aJ ay) ?_
 obtain⟨hc6,h⟩:=az h
 refine s1 (d:=dO 2 aj (aZ++[x4])) (j4 aJ ay hc6) ?_
 refine sa ?_
 refine s0 (gv (ds':=[dI .i64 fU,dI .i64 eC,dO 2 aj (aZ++[x4])]) aJ) ?_
 refine .nil (hK _ _ (rb hx ?_))
 cases h
 exact PS.l (pe0 h0 [0,1,2])
 refine AW.exit ?_
 try dsimp only
 try simp only[bk,reduceIte,Nat.reduceEqDiff,reduceCtorEq]
 cases h
 exact PS.r ⟨by nofun,PE.i (wk h0 [0,1,2] (wR rfl (wR rfl wTn)) (vR rfl (vR rfl wVn)) (wL rfl rfl wLn))⟩
 rintro ex tm' hp' ⟨rfl,hw⟩
 try dsimp only
 try simp only[bk,reduceIte,Nat.reduceEqDiff,reduceCtorEq]
 refine AW.weak hw (rs hx fun K hK=>?_)
 refine s1 (d:=.ag [dI .i64 fU,dI .i64 eC,dO 2 aj aN]) (cm aG) ?_
 refine s0 (gv (ds':=[dI .i64 fU,dI .i64 eC,dO 2 aj aN]) aG) ?_
 refine .nil (hK _ _ (AW.ret ?_))
 cases h
 exact gQ.mk1 (lw (es:=[dI .i64 fU,dI .i64 eC,dO 2 aj aN]) rfl aG rfl rfl (ltb rfl) (leb rfl) rfl (.inr (.inr ⟨_,(oJ (wc (ly _) (wc (ly _) (wc (HH _) wcn)))),rfl,rfl⟩)))
def gj(mE:List Int):Option (List ak):=bnd (fg (1:Int) ((mE).length:Int) mE) fun x1=>some x1.vV
theorem mI {mE:List Int}{r:List ak}(h:gj mE=some r):aB prog 36 [dL (cI .i64) mE] (dL aj r):=by
 refine bJ (rs:=[.tmp 2]) (fun cx hx h0=>?_) func36
 unfold gj at h
 refine rs hx fun K hK=>?_
 refine s1 (d:=dO 0 aj ([]:List ak)) (d8 aJ ay) ?_
 refine .nil (hK _ _ (rs hx fun K hK=>?_))
 iterate 3 refine sa ?_
 refine scb h jg fun x1 h=>?_
 refine s1 (T_fldC aG aJ) ?_
 refine sa ?_
 refine .nil (hK _ _ (AW.ret ?_))
 cases h
 exact rv1
def i2(aY:List Int)(a8:List Int):Int→Option (Int⊕(Bool⊕Unit)):=fun bT=>cnd (decide (bT<((aY).length:Int))) (gd (0≤bT∧bT<((aY).length:Int)) (gd (0≤bT∧bT<((a8).length:Int)) (cnd (decide (((aY)[(bT).toNat]!)≠((a8)[(bT).toNat]!))) (some (.inr (.inl false))) (some (.inl (i64.wrap (bT+(1:Int)))))))) (some (.inr (.inr ())))
def ir(aY:List Int)(a8:List Int):Option Bool:=cnd (decide (((aY).length:Int)≠((a8).length:Int))) (some false) (bnd (a7 (i2 aY a8) (0:Int)) fun y8=>match y8 with| .inl r=>some r| .inr ()=>some true)
theorem oR {aY:List Int}{a8:List Int}{r:Bool}(h:ir aY a8=some r):aB prog 15 [dL (cI .i64) aY,dL (cI .i64) a8] (dB r):=by
 refine bJ (rs:=[.tmp 4]) (fun cx hx h0=>?_) func15
 unfold ir at h
 refine ra hx ?_
 refine AW.seq (ra hx ?_)
 refine cdh h rfl (fun cQ h=>?_) (fun cQ h=>?_)
 refine ra hx ?_
 refine AW.ret ?_
 cases h
 exact rv1
 refine AW.skip (AW.seq (ra hx ?_))
 refine AW.block ?_
 obtain⟨y,hy,h⟩:=ah h
 refine lp (S:=Int) (X:=Bool⊕Unit) (fun bT=>[(0,dL (cI .i64) aY),(1,dL (cI .i64) a8),(12,dI .i64 ((aY).length:Int)),(13,dI .i64 bT)]) (fun bT=>⟨[],[],0⟩) (PS (PR [.tmp 4] fun r=>dB r) (PE cx (.exit 0) (fun ()=>[]) fun ()=>⟨[],[],0⟩)) hy ?_ ?_ ?_
 exact wk h0 [] (wR rfl (wR rfl (wR rfl (wR rfl wTn)))) wVn wLn
 clear hy h
 rintro bT y h
 dsimp only[i2] at h
 refine ra hx ?_
 refine AW.seq (cdh h rfl (fun lL h=>?_) (fun lL h=>?_))
 refine AW.skip (AW.seq (AW.block (ra hx ?_)))
 refine rsd [] hx fun K hK=>?_
 iterate 2 refine sa ?_
 obtain⟨K6,h⟩:=az h
 have Np:(bT).toNat<(aY).length:=by omega
 refine s1 (eh K6 bK aR) ?_
 refine s1 (nf (c:=(cI .i64)) (l:=aY) (n:=(bT).toNat) (o:=0) aR Np) ?_
 iterate 2 refine sa ?_
 obtain⟨JI,h⟩:=az h
 have hn6:(bT).toNat<(a8).length:=by omega
 refine s1 (eh JI bK aR) ?_
 refine s1 (nf (c:=(cI .i64)) (l:=a8) (n:=(bT).toNat) (o:=0) aR hn6) ?_
 refine sa ?_
 refine .nil (hK _ _ (cdh h rfl (fun v6 h=>?_) (fun v6 h=>?_)))
 refine ra hx ?_
 refine AW.ret ?_
 cases h
 refine PS.r ⟨by nofun,PS.l (PR.i ?_)⟩
 exact rv1
 refine AW.skip (rb hx ?_)
 cases h
 exact PS.l (pe0 h0 [])
 refine AW.exit ?_
 try dsimp only
 try simp only[bk,reduceIte,Nat.reduceEqDiff,reduceCtorEq]
 cases h
 exact PS.r ⟨by nofun,PS.r (PE.i (wk h0 [] wTn wVn wLn))⟩
 rcases y with r|⟨⟩
 rintro ex tm' hp' ⟨rfl,hw⟩
 cases h
 exact hw
 rintro ex tm' hp' ⟨rfl,hw⟩
 try dsimp only
 try simp only[bk,reduceIte,Nat.reduceEqDiff,reduceCtorEq]
 refine AW.weak hw (ra hx ?_)
 refine AW.ret ?_
 cases h
 exact rv1
def cb :Option Bool:=bnd (fg (2:Int) (2:Int) [(1:Int),(2:Int),(3:Int),(4:Int)]) fun x1=>bnd (bY x1) fun x3=>bnd (fB x1) fun x5=>bnd (fg (2:Int) (3:Int) [(0:Int),(2:Int),(4:Int),(0:Int),(1:Int),(2:Int)]) fun x7=>bnd (bY x7) fun x9=>bnd (gj [(5:Int),(6:Int)]) fun t9=>bnd (gD x1 t9) fun qq=>bnd (fg (1:Int) (2:Int) [(1:Int),(1:Int)]) fun uC=>bnd (gj [(2:Int)]) fun pl=>bnd (gD uC pl) fun I8=>bnd (fg (2:Int) (1:Int) [(1:Int),(1:Int)]) fun BE=>bnd (gj [(1:Int),(2:Int)]) fun EU=>bnd (gD BE EU) fun Ly=>bnd (fg (1:Int) (3:Int) [(1:Int),(2:Int),(3:Int)]) fun wA=>bnd (jT wA) fun oP=>bnd (fg (2:Int) (2:Int) [(2:Int),(1:Int),(1:Int),(2:Int)]) fun Dc=>bnd (fM Dc) fun wJ=>bnd (fg (2:Int) (2:Int) [(1:Int),(2:Int),(2:Int),(1:Int)]) fun x35=>bnd (fM x35) fun wI=>bnd (S:=Bool) (cnd (decide (x3.2.2≠(0:Int))) (some (true)) (cnd (decide (x5.2≠(0:Int))) (some (true)) (cnd (decide (x9.2.2≠(0:Int))) (some (true)) (cnd (decide (qq.2≠(0:Int))) (some (true)) (cnd (decide (I8.2≠(70:Int))) (some (true)) (cnd (decide (Ly.2≠(200:Int))) (some (true)) (cnd (decide (oP.2≠(0:Int))) (some (true)) (cnd (decide (wJ.2≠(0:Int))) (some (true)) (cnd (decide (wI.2≠(0:Int))) (some (true)) (cnd (decide (((oP.1).length:Int)≠(2:Int))) (some (true)) (cnd (decide (((qq.1).length:Int)≠(2:Int))) (some (true)) (cnd (decide (((x3.2.1).length:Int)≠(2:Int))) (some (true)) (some (decide (((x9.2.1).length:Int)≠(1:Int)))))))))))))))) fun i7=>cnd i7 (some false) (bnd (S:=Bool) (bnd (fO (2:Int)) fun x53=>bnd (dK x3.1 x53) fun x55=>cnd x55 (gd (0≤(0:Int)∧(0:Int)<((x3.2.1).length:Int)) (cnd (decide (((x3.2.1)[((0:Int)).toNat]!)=(0:Int))) (gd (0≤(1:Int)∧(1:Int)<((x3.2.1).length:Int)) (cnd (decide (((x3.2.1)[((1:Int)).toNat]!)=(1:Int))) (bnd (ek (-2:Int)) fun x64=>cnd (decide (x5.1=x64)) (bnd (fg (2:Int) (3:Int) [(0:Int),(1:Int),(2:Int),0,0,0]) fun x67=>bnd (dK x9.1 x67) fun x69=>cnd x69 (gd (0≤(0:Int)∧(0:Int)<((x9.2.1).length:Int)) (bnd (some (decide (((x9.2.1)[((0:Int)).toNat]!)=(1:Int)))) fun x74=>some (x74))) (some (false))) (some (false))) (some (false)))) (some (false)))) (some (false))) fun l4=>bnd (S:=Bool) (cnd l4 (gd (0≤(0:Int)∧(0:Int)<((qq.1).length:Int)) (bnd (ek (-4:Int)) fun x80=>cnd (decide ((qq.1)[((0:Int)).toNat]! =x80)) (gd (0≤(1:Int)∧(1:Int)<((qq.1).length:Int)) (bnd (m4 (9:Int) (2:Int)) fun x85=>cnd (decide ((qq.1)[((1:Int)).toNat]! =x85)) (gd (0≤(0:Int)∧(0:Int)<((oP.1).length:Int)) (bnd (gj [(-2:Int),(1:Int),(0:Int)]) fun x90=>bnd (cY ((oP.1)[((0:Int)).toNat]!) x90) fun x92=>cnd x92 (gd (0≤(1:Int)∧(1:Int)<((oP.1).length:Int)) (bnd (gj [(-3:Int),(0:Int),(1:Int)]) fun x97=>bnd (cY ((oP.1)[((1:Int)).toNat]!) x97) fun x99=>cnd x99 (cnd wJ.1 (some (!wI.1)) (some (false))) (some (false)))) (some (false)))) (some (false)))) (some (false)))) (some (false))) fun qn=>some qn)
theorem dY  {r:Bool}(h:cb=some r):aB prog 12 [] (dB r):=by
 refine bJ (rs:=[.tmp 0]) (fun cx hx h0=>?_) func12
 unfold cb at h
 refine ra hx ?_
 refine rs hx fun K hK=>?_
 refine s1 (d:=dO 0 (cI .i64) [(1:Int),(2:Int),(3:Int),(4:Int)]) (jL bK aR) ?_
 refine scb h jg fun x1 h=>?_
 refine s1 (d:=.pt 1 0) (cr aG) ?_
 refine s0 (gv (ds':=[dI .i64 x1.vR,dI .i64 x1.vC,dL aj x1.vV]) aG) ?_
 refine .nil (hK _ _ (rs hx fun K hK=>?_))
 refine s1 (d:=dG a9 x1) (cm aG) ?_
 refine scb h eN fun x3 h=>?_
 iterate 4 refine sa ?_
 refine s1 (d:=.pt 2 0) (cr aG) ?_
 refine s0 (gv (ds':=[dI .i64 x3.1.vR,dI .i64 x3.1.vC,dL aj x3.1.vV]) aG) ?_
 iterate 2 refine sa ?_
 refine .nil (hK _ _ (rs hx fun K hK=>?_))
 refine s1 (d:=dG a9 x1) (cm aG) ?_
 refine scb h kQ fun x5 h=>?_
 iterate 3 refine sa ?_
 refine s1 (bq (F:=aj.f cU) ay) ?_
 refine s0 (aO (b':=x5.1) (an.id _ _) ay) ?_
 refine sa ?_
 refine .nil (hK _ _ (rs hx fun K hK=>?_))
 refine s1 (d:=dO 4 (cI .i64) [(0:Int),(2:Int),(4:Int),(0:Int),(1:Int),(2:Int)]) (jL bK aR) ?_
 refine scb h jg fun x7 h=>?_
 refine scb h eN fun x9 h=>?_
 iterate 4 refine sa ?_
 refine s1 (d:=.pt 5 0) (cr aG) ?_
 refine s0 (gv (ds':=[dI .i64 x9.1.vR,dI .i64 x9.1.vC,dL aj x9.1.vV]) aG) ?_
 iterate 2 refine sa ?_
 refine .nil (hK _ _ (rsd [36,29] hx fun K hK=>?_))
 refine s1 (d:=dG a9 x1) (cm aG) ?_
 refine s1 (xZ bK aR) ?_
 refine cqb h mI fun t9 h=>?_
 refine cqb h po fun qq h=>?_
 iterate 5 refine sa ?_
 refine .nil (hK _ _ (rs hx fun K hK=>?_))
 refine s1 (d:=dO 6 (cI .i64) [(1:Int),(1:Int)]) (jL bK aR) ?_
 refine scb h jg fun uC h=>?_
 refine s1 (d:=dO 7 (cI .i64) [(2:Int)]) (jL bK aR) ?_
 refine scb h mI fun pl h=>?_
 refine scb h po fun I8 h=>?_
 iterate 5 refine sa ?_
 refine .nil (hK _ _ (rs hx fun K hK=>?_))
 refine s1 (d:=dO 8 (cI .i64) [(1:Int),(1:Int)]) (jL bK aR) ?_
 refine scb h jg fun BE h=>?_
 refine s1 (d:=dO 9 (cI .i64) [(1:Int),(2:Int)]) (jL bK aR) ?_
 refine scb h mI fun EU h=>?_
 refine scb h po fun Ly h=>?_
 iterate 5 refine sa ?_
 refine .nil (hK _ _ (rs hx fun K hK=>?_))
 refine s1 (d:=dO 10 (cI .i64) [(1:Int),(2:Int),(3:Int)]) (jL bK aR) ?_
 refine scb h jg fun wA h=>?_
 refine scb h BT fun oP h=>?_
 iterate 5 refine sa ?_
 refine .nil (hK _ _ (rs hx fun K hK=>?_))
 refine s1 (d:=dO 11 (cI .i64) [(2:Int),(1:Int),(1:Int),(2:Int)]) (jL bK aR) ?_
 refine scb h jg fun Dc h=>?_
 refine scb h qa fun wJ h=>?_
 iterate 5 refine sa ?_
 refine .nil (hK _ _ (rs hx fun K hK=>?_))
 refine s1 (d:=dO 12 (cI .i64) [(1:Int),(2:Int),(2:Int),(1:Int)]) (jL bK aR) ?_
 refine scb h jg fun x35 h=>?_
 refine scb h qa fun wI h=>?_
 iterate 5 refine sa ?_
 refine .nil (hK _ _ ?_)
 iterate 2 refine AW.seq ?_
 obtain⟨i7,hy,h⟩:=ah h
 refine jn ((PE cx .normal (fun i7=>[(2,.pt 0 0),(3,dL (cI .i64) x3.2.1),(5,.pt 1 0),(7,.pt 2 0),(8,dL (cI .i64) x9.2.1),(10,dL aj qq.1),(16,dL (cL aj) oP.1),(18,dB wJ.1),(20,dB wI.1),(137,dB i7)]) fun i7=>⟨[(0,[dI .i64 x3.1.vR,dI .i64 x3.1.vC,dL aj x3.1.vV]),(1,dC (aj.f x5.1)),(2,[dI .i64 x9.1.vR,dI .i64 x9.1.vC,dL aj x9.1.vV])],[],3⟩) i7) ?_ ?_
 replace h:=hy
 refine rq hx fun K hK=>?_
 iterate 3 refine sa ?_
 rcases bP (decide (x3.2.2≠(0:Int))) with sF|sF
 replace h:=ba sF h
 iterate 2 refine aK rfl rfl sF ?_
 refine s1 (am sF) ?_
 refine sa ?_
 iterate 2 refine aK rfl rfl rfl ?_
 refine s1 (am rfl) ?_
 refine sa ?_
 iterate 2 refine aK rfl rfl rfl ?_
 refine s1 (am rfl) ?_
 refine sa ?_
 iterate 2 refine aK rfl rfl rfl ?_
 refine s1 (am rfl) ?_
 refine sa ?_
 iterate 2 refine aK rfl rfl rfl ?_
 refine s1 (am rfl) ?_
 refine sa ?_
 iterate 2 refine aK rfl rfl rfl ?_
 refine s1 (am rfl) ?_
 refine sa ?_
 iterate 2 refine aK rfl rfl rfl ?_
 refine s1 (am rfl) ?_
 refine sa ?_
 iterate 2 refine aK rfl rfl rfl ?_
 refine s1 (am rfl) ?_
 refine sa ?_
 iterate 3 refine aK rfl rfl rfl ?_
 refine s1 (am rfl) ?_
 refine sa ?_
 iterate 3 refine aK rfl rfl rfl ?_
 refine s1 (am rfl) ?_
 refine sa ?_
 iterate 3 refine aK rfl rfl rfl ?_
 refine s1 (am rfl) ?_
 refine sa ?_
 iterate 3 refine aK rfl rfl rfl ?_
 refine s1 (am rfl) ?_
 refine .nil (hK _ _ ?_)
 cases h
 exact pe0 h0 [2,3,5]
 replace h:=bb sF h
 iterate 2 refine ga sF ?_
 refine s1 (ax sF) ?_
 refine sa ?_
 rcases bP (decide (x5.2≠(0:Int))) with Ic|Ic
 replace h:=ba Ic h
 iterate 2 refine aK rfl rfl Ic ?_
 refine s1 (am Ic) ?_
 refine sa ?_
 iterate 2 refine aK rfl rfl rfl ?_
 refine s1 (am rfl) ?_
 refine sa ?_
 iterate 2 refine aK rfl rfl rfl ?_
 refine s1 (am rfl) ?_
 refine sa ?_
 iterate 2 refine aK rfl rfl rfl ?_
 refine s1 (am rfl) ?_
 refine sa ?_
 iterate 2 refine aK rfl rfl rfl ?_
 refine s1 (am rfl) ?_
 refine sa ?_
 iterate 2 refine aK rfl rfl rfl ?_
 refine s1 (am rfl) ?_
 refine sa ?_
 iterate 2 refine aK rfl rfl rfl ?_
 refine s1 (am rfl) ?_
 refine sa ?_
 iterate 3 refine aK rfl rfl rfl ?_
 refine s1 (am rfl) ?_
 refine sa ?_
 iterate 3 refine aK rfl rfl rfl ?_
 refine s1 (am rfl) ?_
 refine sa ?_
 iterate 3 refine aK rfl rfl rfl ?_
 refine s1 (am rfl) ?_
 refine sa ?_
 iterate 3 refine aK rfl rfl rfl ?_
 refine s1 (am rfl) ?_
 refine .nil (hK _ _ ?_)
 cases h
 exact pe0 h0 [2,3,5]
 replace h:=bb Ic h
 iterate 2 refine ga Ic ?_
 refine s1 (ax Ic) ?_
 refine sa ?_
 rcases bP (decide (x9.2.2≠(0:Int))) with rI|rI
 replace h:=ba rI h
 iterate 2 refine aK rfl rfl rI ?_
 refine s1 (am rI) ?_
 refine sa ?_
 iterate 2 refine aK rfl rfl rfl ?_
 refine s1 (am rfl) ?_
 refine sa ?_
 iterate 2 refine aK rfl rfl rfl ?_
 refine s1 (am rfl) ?_
 refine sa ?_
 iterate 2 refine aK rfl rfl rfl ?_
 refine s1 (am rfl) ?_
 refine sa ?_
 iterate 2 refine aK rfl rfl rfl ?_
 refine s1 (am rfl) ?_
 refine sa ?_
 iterate 2 refine aK rfl rfl rfl ?_
 refine s1 (am rfl) ?_
 refine sa ?_
 iterate 3 refine aK rfl rfl rfl ?_
 refine s1 (am rfl) ?_
 refine sa ?_
 iterate 3 refine aK rfl rfl rfl ?_
 refine s1 (am rfl) ?_
 refine sa ?_
 iterate 3 refine aK rfl rfl rfl ?_
 refine s1 (am rfl) ?_
 refine sa ?_
 iterate 3 refine aK rfl rfl rfl ?_
 refine s1 (am rfl) ?_
 refine .nil (hK _ _ ?_)
 cases h
 exact pe0 h0 [2,3,5]
 replace h:=bb rI h
 iterate 2 refine ga rI ?_
 refine s1 (ax rI) ?_
 refine sa ?_
 rcases bP (decide (qq.2≠(0:Int))) with s9|s9
 replace h:=ba s9 h
 iterate 2 refine aK rfl rfl s9 ?_
 refine s1 (am s9) ?_
 refine sa ?_
 iterate 2 refine aK rfl rfl rfl ?_
 refine s1 (am rfl) ?_
 refine sa ?_
 iterate 2 refine aK rfl rfl rfl ?_
 refine s1 (am rfl) ?_
 refine sa ?_
 iterate 2 refine aK rfl rfl rfl ?_
 refine s1 (am rfl) ?_
 refine sa ?_
 iterate 2 refine aK rfl rfl rfl ?_
 refine s1 (am rfl) ?_
 refine sa ?_
 iterate 3 refine aK rfl rfl rfl ?_
 refine s1 (am rfl) ?_
 refine sa ?_
 iterate 3 refine aK rfl rfl rfl ?_
 refine s1 (am rfl) ?_
 refine sa ?_
 iterate 3 refine aK rfl rfl rfl ?_
 refine s1 (am rfl) ?_
 refine sa ?_
 iterate 3 refine aK rfl rfl rfl ?_
 refine s1 (am rfl) ?_
 refine .nil (hK _ _ ?_)
 cases h
 exact pe0 h0 [2,3,5]
 replace h:=bb s9 h
 iterate 2 refine ga s9 ?_
 refine s1 (ax s9) ?_
 refine sa ?_
 rcases bP (decide (I8.2≠(70:Int))) with rH|rH
 replace h:=ba rH h
 iterate 2 refine aK rfl rfl rH ?_
 refine s1 (am rH) ?_
 refine sa ?_
 iterate 2 refine aK rfl rfl rfl ?_
 refine s1 (am rfl) ?_
 refine sa ?_
 iterate 2 refine aK rfl rfl rfl ?_
 refine s1 (am rfl) ?_
 refine sa ?_
 iterate 2 refine aK rfl rfl rfl ?_
 refine s1 (am rfl) ?_
 refine sa ?_
 iterate 3 refine aK rfl rfl rfl ?_
 refine s1 (am rfl) ?_
 refine sa ?_
 iterate 3 refine aK rfl rfl rfl ?_
 refine s1 (am rfl) ?_
 refine sa ?_
 iterate 3 refine aK rfl rfl rfl ?_
 refine s1 (am rfl) ?_
 refine sa ?_
 iterate 3 refine aK rfl rfl rfl ?_
 refine s1 (am rfl) ?_
 refine .nil (hK _ _ ?_)
 cases h
 exact pe0 h0 [2,3,5]
 replace h:=bb rH h
 iterate 2 refine ga rH ?_
 refine s1 (ax rH) ?_
 refine sa ?_
 rcases bP (decide (Ly.2≠(200:Int))) with Ib|Ib
 replace h:=ba Ib h
 iterate 2 refine aK rfl rfl Ib ?_
 refine s1 (am Ib) ?_
 refine sa ?_
 iterate 2 refine aK rfl rfl rfl ?_
 refine s1 (am rfl) ?_
 refine sa ?_
 iterate 2 refine aK rfl rfl rfl ?_
 refine s1 (am rfl) ?_
 refine sa ?_
 iterate 3 refine aK rfl rfl rfl ?_
 refine s1 (am rfl) ?_
 refine sa ?_
 iterate 3 refine aK rfl rfl rfl ?_
 refine s1 (am rfl) ?_
 refine sa ?_
 iterate 3 refine aK rfl rfl rfl ?_
 refine s1 (am rfl) ?_
 refine sa ?_
 iterate 3 refine aK rfl rfl rfl ?_
 refine s1 (am rfl) ?_
 refine .nil (hK _ _ ?_)
 cases h
 exact pe0 h0 [2,3,5]
 replace h:=bb Ib h
 iterate 2 refine ga Ib ?_
 refine s1 (ax Ib) ?_
 refine sa ?_
 rcases bP (decide (oP.2≠(0:Int))) with Ia|Ia
 replace h:=ba Ia h
 iterate 2 refine aK rfl rfl Ia ?_
 refine s1 (am Ia) ?_
 refine sa ?_
 iterate 2 refine aK rfl rfl rfl ?_
 refine s1 (am rfl) ?_
 refine sa ?_
 iterate 3 refine aK rfl rfl rfl ?_
 refine s1 (am rfl) ?_
 refine sa ?_
 iterate 3 refine aK rfl rfl rfl ?_
 refine s1 (am rfl) ?_
 refine sa ?_
 iterate 3 refine aK rfl rfl rfl ?_
 refine s1 (am rfl) ?_
 refine sa ?_
 iterate 3 refine aK rfl rfl rfl ?_
 refine s1 (am rfl) ?_
 refine .nil (hK _ _ ?_)
 cases h
 exact pe0 h0 [2,3,5]
 replace h:=bb Ia h
 iterate 2 refine ga Ia ?_
 refine s1 (ax Ia) ?_
 refine sa ?_
 rcases bP (decide (wJ.2≠(0:Int))) with s8|s8
 replace h:=ba s8 h
 iterate 2 refine aK rfl rfl s8 ?_
 refine s1 (am s8) ?_
 refine sa ?_
 iterate 3 refine aK rfl rfl rfl ?_
 refine s1 (am rfl) ?_
 refine sa ?_
 iterate 3 refine aK rfl rfl rfl ?_
 refine s1 (am rfl) ?_
 refine sa ?_
 iterate 3 refine aK rfl rfl rfl ?_
 refine s1 (am rfl) ?_
 refine sa ?_
 iterate 3 refine aK rfl rfl rfl ?_
 refine s1 (am rfl) ?_
 refine .nil (hK _ _ ?_)
 cases h
 exact pe0 h0 [2,3,5]
 replace h:=bb s8 h
 iterate 2 refine ga s8 ?_
 refine s1 (ax s8) ?_
 refine sa ?_
 rcases bP (decide (wI.2≠(0:Int))) with qX|qX
 replace h:=ba qX h
 iterate 3 refine aK rfl rfl qX ?_
 refine s1 (am qX) ?_
 refine sa ?_
 iterate 3 refine aK rfl rfl rfl ?_
 refine s1 (am rfl) ?_
 refine sa ?_
 iterate 3 refine aK rfl rfl rfl ?_
 refine s1 (am rfl) ?_
 refine sa ?_
 iterate 3 refine aK rfl rfl rfl ?_
 refine s1 (am rfl) ?_
 refine .nil (hK _ _ ?_)
 cases h
 exact pe0 h0 [2,3,5]
 replace h:=bb qX h
 iterate 3 refine ga qX ?_
 refine s1 (ax qX) ?_
 refine sa ?_
 rcases bP (decide (((oP.1).length:Int)≠(2:Int))) with H9|H9
 replace h:=ba H9 h
 iterate 3 refine aK rfl rfl H9 ?_
 refine s1 (am H9) ?_
 refine sa ?_
 iterate 3 refine aK rfl rfl rfl ?_
 refine s1 (am rfl) ?_
 refine sa ?_
 iterate 3 refine aK rfl rfl rfl ?_
 refine s1 (am rfl) ?_
 refine .nil (hK _ _ ?_)
 cases h
 exact pe0 h0 [2,3,5]
 replace h:=bb H9 h
 iterate 3 refine ga H9 ?_
 refine s1 (ax H9) ?_
 refine sa ?_
 rcases bP (decide (((qq.1).length:Int)≠(2:Int))) with H8|H8
 replace h:=ba H8 h
 iterate 3 refine aK rfl rfl H8 ?_
 refine s1 (am H8) ?_
 refine sa ?_
 iterate 3 refine aK rfl rfl rfl ?_
 refine s1 (am rfl) ?_
 refine .nil (hK _ _ ?_)
 cases h
 exact pe0 h0 [2,3,5]
 replace h:=bb H8 h
 iterate 3 refine ga H8 ?_
 refine s1 (ax H8) ?_
 refine sa ?_
 rcases bP (decide (((x3.2.1).length:Int)≠(2:Int))) with s7|s7
 replace h:=ba s7 h
 iterate 3 refine aK rfl rfl s7 ?_
 refine s1 (am s7) ?_
 refine .nil (hK _ _ ?_)
 cases h
 exact pe0 h0 [2,3,5]
 replace h:=bb s7 h
 iterate 3 refine ga s7 ?_
 refine s1 (ax s7) ?_
 refine .nil (hK _ _ ?_)
 cases h
 exact pe0 h0 [2,3,5]
 rintro ex tm' hp' ⟨rfl,hw⟩
 refine AW.weak hw (cdh h rfl (fun hb52 h=>?_) (fun hb52 h=>?_))
 refine ra hx ?_
 refine AW.ret ?_
 cases h
 exact rv1
 refine AW.skip (AW.seq ?_)
 obtain⟨l4,hy,h⟩:=ah h
 refine jn ((PE cx .normal (fun l4=>[(10,dL aj qq.1),(16,dL (cL aj) oP.1),(18,dB wJ.1),(20,dB wI.1),(22,dB l4)]) fun l4=>⟨[],[],0⟩) l4) ?_ ?_
 replace h:=hy
 refine rqd [43,14,60,59] hx fun K hK=>?_
 refine s1 (d:=dG a9 x3.1) (cm aG) ?_
 refine cqb h vz fun x53 h=>?_
 refine cqb h kP fun x55 h=>?_
 refine sa ?_
 rcases bP x55 with Cf|Cf
 replace h:=ba Cf h
 refine ga Cf ?_
 obtain⟨hc58,h⟩:=az h
 have hn59:((0:Int)).toNat<(x3.2.1).length:=by omega
 refine g1 Cf (eh hc58 bK aR) ?_
 refine g1 Cf (nf (c:=(cI .i64)) (l:=x3.2.1) (n:=((0:Int)).toNat) (o:=0) aR hn59) ?_
 refine ga Cf ?_
 refine s1 (am Cf) ?_
 refine sa ?_
 rcases bP (decide (((x3.2.1)[((0:Int)).toNat]!)=(0:Int))) with Ce|Ce
 replace h:=ba Ce h
 refine ga Ce ?_
 obtain⟨hc61,h⟩:=az h
 have hn62:((1:Int)).toNat<(x3.2.1).length:=by omega
 refine g1 Ce (eh hc61 bK aR) ?_
 refine g1 Ce (nf (c:=(cI .i64)) (l:=x3.2.1) (n:=((1:Int)).toNat) (o:=0) aR hn62) ?_
 refine ga Ce ?_
 refine s1 (am Ce) ?_
 refine sa ?_
 rcases bP (decide (((x3.2.1)[((1:Int)).toNat]!)=(1:Int))) with D1|D1
 replace h:=ba D1 h
 refine g1 (d:=dG aj x5.1) D1 (aD (an.id _ _) ay) ?_
 obtain⟨x64,hx65,h⟩:=ah h
 refine sqg tok rfl rfl D1 (jf hx65) rfl (lA (av _) lAn) (.inl (iK _ _)) ?_
 refine g1 D1 (sh tok 4 (by decide) nP ay) ?_
 refine s1 (am D1) ?_
 refine sa ?_
 rcases bP (decide (x5.1=x64)) with Cc|Cc
 replace h:=ba Cc h
 refine g1 (d:=dG a9 x9.1) Cc (cm aG) ?_
 refine g1 Cc (xZ bK aR) ?_
 obtain⟨x67,hx68,h⟩:=ah h
 refine sqg tok rfl rfl Cc (jg hx68) rfl (lA (av _) (lA (av _) (lA (av _) lAn))) (.inl (iK _ _)) ?_
 obtain⟨x69,hx70,h⟩:=ah h
 refine sqg tok rfl rfl Cc (kP hx70) (by simp only[e8,gL,js,lE,iC,iB];exact⟨bh _ _,bh _ _⟩) (lA (av _) (lA (av _) lAn)) (.inl rfl) ?_
 refine s1 (am Cc) ?_
 refine sa ?_
 rcases bP x69 with Cb|Cb
 replace h:=ba Cb h
 refine ga Cb ?_
 obtain⟨hc72,h⟩:=az h
 have hn73:((0:Int)).toNat<(x9.2.1).length:=by omega
 refine g1 Cb (eh hc72 bK aR) ?_
 refine g1 Cb (nf (c:=(cI .i64)) (l:=x9.2.1) (n:=((0:Int)).toNat) (o:=0) aR hn73) ?_
 refine ga Cb ?_
 refine s1 (am Cb) ?_
 obtain⟨x74,hx75,h⟩:=ah h
 replace hx75:=eG hx75
 refine s2 (d2:=dB x74) ke (fK (congrArg dB hx75)) ?_
 refine .nil (hK _ _ ?_)
 cases h
 exact pe0 h0 []
 replace h:=bb Cb h
 iterate 4 refine aK rfl rfl Cb ?_
 refine s1 (ax Cb) ?_
 refine sa ?_
 refine .nil (hK _ _ ?_)
 cases h
 exact pe0 h0 []
 replace h:=bb Cc h
 iterate 4 refine aK rfl rfl Cc ?_
 refine s1 (ax Cc) ?_
 refine sa ?_
 iterate 4 refine aK rfl rfl rfl ?_
 refine s1 (ax rfl) ?_
 refine sa ?_
 refine .nil (hK _ _ ?_)
 cases h
 exact pe0 h0 []
 replace h:=bb D1 h
 iterate 3 refine aK rfl rfl D1 ?_
 refine s1 (ax D1) ?_
 refine sa ?_
 iterate 4 refine aK rfl rfl rfl ?_
 refine s1 (ax rfl) ?_
 refine sa ?_
 iterate 4 refine aK rfl rfl rfl ?_
 refine s1 (ax rfl) ?_
 refine sa ?_
 refine .nil (hK _ _ ?_)
 cases h
 exact pe0 h0 []
 replace h:=bb Ce h
 iterate 4 refine aK rfl rfl Ce ?_
 refine s1 (ax Ce) ?_
 refine sa ?_
 iterate 3 refine aK rfl rfl rfl ?_
 refine s1 (ax rfl) ?_
 refine sa ?_
 iterate 4 refine aK rfl rfl rfl ?_
 refine s1 (ax rfl) ?_
 refine sa ?_
 iterate 4 refine aK rfl rfl rfl ?_
 refine s1 (ax rfl) ?_
 refine sa ?_
 refine .nil (hK _ _ ?_)
 cases h
 exact pe0 h0 []
 replace h:=bb Cf h
 iterate 4 refine aK rfl rfl Cf ?_
 refine s1 (ax Cf) ?_
 refine sa ?_
 iterate 4 refine aK rfl rfl rfl ?_
 refine s1 (ax rfl) ?_
 refine sa ?_
 iterate 3 refine aK rfl rfl rfl ?_
 refine s1 (ax rfl) ?_
 refine sa ?_
 iterate 4 refine aK rfl rfl rfl ?_
 refine s1 (ax rfl) ?_
 refine sa ?_
 iterate 4 refine aK rfl rfl rfl ?_
 refine s1 (ax rfl) ?_
 refine sa ?_
 refine .nil (hK _ _ ?_)
 cases h
 exact pe0 h0 []
 rintro ex tm' hp' ⟨rfl,hw⟩
 refine AW.weak hw (AW.seq ?_)
 obtain⟨qn,hy,h⟩:=ah h
 refine jn ((PE cx .normal (fun qn=>[(0,dB qn)]) fun qn=>⟨[],[],0⟩) qn) ?_ ?_
 replace h:=hy
 refine rqd [60,61,36,27] hx fun K hK=>?_
 iterate 2 refine sa ?_
 rcases bP l4 with An|An
 replace h:=ba An h
 refine ga An ?_
 obtain⟨hc78,h⟩:=az h
 have hn79:((0:Int)).toNat<(qq.1).length:=by omega
 refine g1 An (eh hc78 aJ ay) ?_
 refine g1 (d:=dG aj ((qq.1)[((0:Int)).toNat]!)) An (kN (c:=aj) (l:=qq.1) (n:=((0:Int)).toNat) (o:=0) ay hn79 (fm _ _ rfl)) ?_
 obtain⟨x80,hx81,h⟩:=ah h
 refine sqg tok rfl rfl An (jf hx81) rfl (lA (av _) lAn) (.inl (iK _ _)) ?_
 refine g1 An (sh tok 4 (by decide) nP ay) ?_
 refine s1 (am An) ?_
 refine sa ?_
 rcases bP (decide ((qq.1)[((0:Int)).toNat]! =x80)) with Am|Am
 replace h:=ba Am h
 refine ga Am ?_
 obtain⟨hc83,h⟩:=az h
 have hn84:((1:Int)).toNat<(qq.1).length:=by omega
 refine g1 Am (eh hc83 aJ ay) ?_
 refine g1 (d:=dG aj ((qq.1)[((1:Int)).toNat]!)) Am (kN (c:=aj) (l:=qq.1) (n:=((1:Int)).toNat) (o:=0) ay hn84 (fm _ _ rfl)) ?_
 obtain⟨x85,hx86,h⟩:=ah h
 refine sqg tok rfl rfl Am (Dm hx86) rfl (lA (av _) (lA (av _) lAn)) (.inl (iK _ _)) ?_
 refine g1 Am (sh tok 4 (by decide) nP ay) ?_
 refine s1 (am Am) ?_
 refine sa ?_
 rcases bP (decide ((qq.1)[((1:Int)).toNat]! =x85)) with yX|yX
 replace h:=ba yX h
 refine ga yX ?_
 obtain⟨hc88,h⟩:=az h
 have hn89:((0:Int)).toNat<(oP.1).length:=by omega
 refine g1 yX (eh hc88 lN aJ) ?_
 refine g1 yX (nf (c:=(cL aj)) (l:=oP.1) (n:=((0:Int)).toNat) (o:=0) aJ hn89) ?_
 refine g1 yX (xZ bK aR) ?_
 obtain⟨x90,hx91,h⟩:=ah h
 refine sqg tok rfl rfl yX (mI hx91) rfl (lA (av _) lAn) (.inl rfl) ?_
 obtain⟨x92,hx93,h⟩:=ah h
 refine sqg tok rfl rfl yX (nE hx93) rfl (lA (av _) (lA (av _) lAn)) (.inl rfl) ?_
 refine s1 (am yX) ?_
 refine sa ?_
 rcases bP x92 with yW|yW
 replace h:=ba yW h
 refine ga yW ?_
 obtain⟨hc95,h⟩:=az h
 have hn96:((1:Int)).toNat<(oP.1).length:=by omega
 refine g1 yW (eh hc95 lN aJ) ?_
 refine g1 yW (nf (c:=(cL aj)) (l:=oP.1) (n:=((1:Int)).toNat) (o:=0) aJ hn96) ?_
 refine g1 yW (xZ bK aR) ?_
 obtain⟨x97,hx98,h⟩:=ah h
 refine sqg tok rfl rfl yW (mI hx98) rfl (lA (av _) lAn) (.inl rfl) ?_
 obtain⟨x99,hx100,h⟩:=ah h
 refine sqg tok rfl rfl yW (nE hx100) rfl (lA (av _) (lA (av _) lAn)) (.inl rfl) ?_
 refine s1 (am yW) ?_
 refine sa ?_
 rcases bP x99 with Ar|Ar
 replace h:=ba Ar h
 refine ga Ar ?_
 refine s1 (am Ar) ?_
 refine sa ?_
 rcases bP wJ.1 with Aq|Aq
 replace h:=ba Aq h
 iterate 2 refine ga Aq ?_
 refine s1 (am Aq) ?_
 refine sa ?_
 refine .nil (hK _ _ ?_)
 cases h
 exact pe0 h0 []
 replace h:=bb Aq h
 iterate 2 refine aK rfl rfl Aq ?_
 refine s1 (ax Aq) ?_
 refine sa ?_
 refine .nil (hK _ _ ?_)
 cases h
 exact pe0 h0 []
 replace h:=bb Ar h
 refine aK rfl rfl Ar ?_
 refine s1 (ax Ar) ?_
 refine sa ?_
 iterate 2 refine aK rfl rfl rfl ?_
 refine s1 (ax rfl) ?_
 refine sa ?_
 refine .nil (hK _ _ ?_)
 cases h
 exact pe0 h0 []
 replace h:=bb yW h
 iterate 6 refine aK rfl rfl yW ?_
 refine s1 (ax yW) ?_
 refine sa ?_
 refine aK rfl rfl rfl ?_
 refine s1 (ax rfl) ?_
 refine sa ?_
 iterate 2 refine aK rfl rfl rfl ?_
 refine s1 (ax rfl) ?_
 refine sa ?_
 refine .nil (hK _ _ ?_)
 cases h
 exact pe0 h0 []
 replace h:=bb yX h
 iterate 6 refine aK rfl rfl yX ?_
 refine s1 (ax yX) ?_
 refine sa ?_
 iterate 6 refine aK rfl rfl rfl ?_
 refine s1 (ax rfl) ?_
 refine sa ?_
 refine aK rfl rfl rfl ?_
 refine s1 (ax rfl) ?_
 refine sa ?_
 iterate 2 refine aK rfl rfl rfl ?_
 refine s1 (ax rfl) ?_
 refine sa ?_
 refine .nil (hK _ _ ?_)
 cases h
 exact pe0 h0 []
 replace h:=bb Am h
 iterate 5 refine aK rfl rfl Am ?_
 refine s1 (ax Am) ?_
 refine sa ?_
 iterate 6 refine aK rfl rfl rfl ?_
 refine s1 (ax rfl) ?_
 refine sa ?_
 iterate 6 refine aK rfl rfl rfl ?_
 refine s1 (ax rfl) ?_
 refine sa ?_
 refine aK rfl rfl rfl ?_
 refine s1 (ax rfl) ?_
 refine sa ?_
 iterate 2 refine aK rfl rfl rfl ?_
 refine s1 (ax rfl) ?_
 refine sa ?_
 refine .nil (hK _ _ ?_)
 cases h
 exact pe0 h0 []
 replace h:=bb An h
 iterate 5 refine aK rfl rfl An ?_
 refine s1 (ax An) ?_
 refine sa ?_
 iterate 5 refine aK rfl rfl rfl ?_
 refine s1 (ax rfl) ?_
 refine sa ?_
 iterate 6 refine aK rfl rfl rfl ?_
 refine s1 (ax rfl) ?_
 refine sa ?_
 iterate 6 refine aK rfl rfl rfl ?_
 refine s1 (ax rfl) ?_
 refine sa ?_
 refine aK rfl rfl rfl ?_
 refine s1 (ax rfl) ?_
 refine sa ?_
 iterate 2 refine aK rfl rfl rfl ?_
 refine s1 (ax rfl) ?_
 refine sa ?_
 refine .nil (hK _ _ ?_)
 cases h
 exact pe0 h0 []
 rintro ex tm' hp' ⟨rfl,hw⟩
 refine AW.weak hw (AW.ret ?_)
 cases h
 exact rv1
theorem Ow {A k:Nat}(h:A<2 ^ (k+1))(hb:(dg 65536 A (k / 16) / 2 ^ (k % 16)) % 2=0):A<2 ^ k:=by
 have e1:(dg 65536 A (k / 16)).testBit (k % 16)=A.testBit k:=by
  unfold dg
  rw[show (65536:Nat) ^ (k / 16)=2 ^ (16*(k / 16)) by rw[Lq],show (65536:Nat)=2 ^ 16 by decide,Nat.testBit_mod_two_pow,Nat.testBit_div_two_pow,dy (c6 _ (by decide)),GT]
  congr 1;omega
 rw[al_13,al_13] at e1
 have h2:A / 2 ^ k % 2=0:=by
  rcases Nat.mod_two_eq_zero_or_one (A / 2 ^ k) with h3|h3
  ·exact h3
  ·rw[h3] at e1
   have:=pT (e1.trans (dy rfl))
   omega
 have h3:A / 2 ^ k<2:=by rw[nC (cH (by decide))];rw[eu] at h;omega
 have h4:A / 2 ^ k=0:=by
  generalize A / 2 ^ k=q at h2 h3
  omega
 rcases Nat.div_eq_zero_iff.1 h4 with h5|h5
 ·have:=cH (n:=k) (show 0<2 by decide);omega
 ·exact h5
theorem R_bit {A k:Nat}(hk:k≤100000):oa (dl A) (k:Int)=some (((dg 65536 A (k / 16) / 2 ^ (k % 16)) % 2:Nat):Int):=by
 unfold oa
 have e1:i64.wrap (Int.tdiv (k:Int) (16:Int))=((k / 16:Nat):Int):=by
  rw[Int.tdiv_eq_ediv_of_nonneg (by omega),w64];omega
 have e2:Int.tmod (k:Int) (16:Int)=((k % 16:Nat):Int):=by
  rw[ON (by omega)];rfl
 rw[e1,e2,show dl A=dk (sz6 A) A from rfl,sr (jh A),ab,aF,xm _ _ _ (by have:k % 16<16:=c6 _ (by decide);show k % 16≤64;omega)]
 generalize dg 65536 A (k / 16) / 2 ^ (k % 16)=q
 have e3:Int.tmod (q:Int) 2=((q % 2:Nat):Int):=by rw[ON (by omega)];rfl
 rw[e3]
theorem R_Bits {z:Int}(hz:z.natAbs<LIM):∃n:Nat,eb (enc z)=some (n:Int)∧z.natAbs<2 ^ n:=by
 have hsz:sz6 z.natAbs≤32:=qu (bG hz (by decide))
 have bz:=jh z.natAbs
 have hlen:=Ii z.natAbs
 obtain⟨x,hl,hx⟩:=ul (b:=kX (dl z.natAbs)) (fun s:Int=>0≤s∧s≤512∧z.natAbs<2 ^ s.toNat) (fun s=>s.toNat) (fun x=>0≤x∧x≤512∧z.natAbs<2 ^ x.toNat) (fun s ⟨h1,h2,h3⟩=>by
  unfold kX
  by_cases h0:0<s
  ·obtain⟨k,rfl⟩:∃k:Nat,s=(k:Int)+1:=⟨(s - 1).toNat,by omega⟩
   rw[bu _ _ h0,w64 (n:=(k:Int)+1 - 1),show (k:Int)+1 - 1=(k:Int) by omega,R_bit (by omega),ab]
   have e:((k:Int)+1).toNat=k+1:=by omega
   rw[e] at h3
   by_cases hb:(dg 65536 z.natAbs (k / 16) / 2 ^ (k % 16)) % 2=0
   ·refine .inl ⟨(k:Int),?_,⟨by omega,by omega,?_⟩,by omega⟩
    ·rw[det_];rfl
    ·rw[show ((k:Int)).toNat=k by omega];exact Ow h3 hb
   ·refine .inr ⟨(k:Int)+1,?_,by omega,by omega,by rw[e];exact h3⟩
    rw[def_];rfl
  ·obtain rfl:s=0:=by omega
   exact .inr ⟨0,by rw[bw _ _ h0];rfl,by omega,by omega,h3⟩) (16*(sz6 z.natAbs:Int)) ⟨by omega,by omega,by
   rw[show (16*(sz6 z.natAbs:Int)).toNat=16*sz6 z.natAbs by omega,Lq];exact bz⟩
 refine⟨x.toNat,?_,hx.2.2⟩
 unfold eb
 rw[li,bI hz,ab,rr hz]
 rw[show (!true)=false from rfl,kF]
 simp only[ab]
 rw[hlen,w64,hl,ab]
 congr 1;omega
theorem G5 {x:ar}(h:okI x):∃n:Int,eb x=some n:=by
 cases hg:dt x with
 |true=>
  obtain⟨z,hz,rfl⟩:=te h hg
  obtain⟨n,hn,_⟩:=R_Bits hz
  exact⟨n,hn⟩
 |false=>
  refine⟨0,?_⟩
  unfold eb
  rw[li,hg];rfl
theorem Q_Small {l:List Nu}(hl:l.length≤1000000):∃b,lQ (l.map nv)=some b:=by
 obtain⟨fN,hN⟩:∃fN:Nat→Int,fN=fun i=>(eb (nv l[i]!).vN).getD 0:=⟨_,rfl⟩
 obtain⟨fD,hD⟩:∃fD:Nat→Int,fD=fun i=>(eb (nv l[i]!).vD).getD 0:=⟨_,rfl⟩
 unfold lQ
 rw[DJ (b:=iR (l.map nv)) (n:=l.length) hl (fun i=>!(decide (60<fN i)||decide (60<fD i))) (fun i hi=>by
  unfold iR
  rw[bS,bu _ _,aF,aF,aW,CE hi]
  obtain⟨n1,h1⟩:=G5 (l[i]!).2.1
  obtain⟨n2,h2⟩:=G5 (l[i]!).2.2
  have h1:eb (nv l[i]!).vN=some n1:=h1
  have h2:eb (nv l[i]!).vD=some n2:=h2
  have e1:fN i=n1:=by rw[hN];dsimp only;rw[h1];rfl
  have e2:fD i=n2:=by rw[hD];dsimp only;rw[h2];rfl
  rw[h1,h2,e1,e2]
  simp only[ab,kOr,Bool.not_not]) (by
  unfold iR
  rw[bS,bw _ _])]
 cases (List.range l.length).all fun i=>!(decide (60<fN i)||decide (60<fD i))
 ·exact⟨false,rfl⟩
 ·exact⟨true,rfl⟩
theorem Q_Light {R C:Int}{V:List Nu}:∃b,jR (mS R C V)=some b∧(b=true→V.length≤60∧(bi R C V=0→R≤6∧C≤7)):=by
 unfold jR
 dsimp only
 rw[bS]
 by_cases h:(60:Int)<V.length
 ·rw[bu _ _ h];exact⟨false,rfl,fun h=>by cases h⟩
 ·rw[bw _ _ h,Q_valid (by omega)]
  simp only[ab]
  by_cases hv:bi R C V=0
  ·rw[show (!decide (bi R C V=0))=false by simp[hv],kF]
   by_cases h1:R≤6
   ·by_cases h2:C≤7
    ·rw[bu _ _ h1,bu _ _ h2]
     obtain⟨b,hb⟩:=Q_Small (l:=V) (by omega)
     rw[hb]
     exact⟨b,rfl,fun _=>⟨by omega,fun _=>⟨h1,h2⟩⟩⟩
    ·rw[bu _ _ h1,bw _ _ h2];exact⟨false,rfl,fun h=>by cases h⟩
   ·rw[bw _ _ h1];exact⟨false,rfl,fun h=>by cases h⟩
  ·rw[show (!decide (bi R C V=0))=true by simp[hv],kT]
   exact⟨true,rfl,fun _=>⟨by omega,fun h=>absurd h hv⟩⟩
theorem Kc {α:Type}[DecidableEq α][Inhabited α]{a b:List α}(h:a.length=b.length):(List.range a.length).all (fun i=>decide (a[i]! =b[i]!))=decide (a=b):=by
 rw[CZ,b7,ql]
 constructor
 ·intro hh
  refine Ke h fun i h1 h2=>?_
  have:=pT (hh i (AP.2 h1))
  rwa[eI a i h1,eI b i h2] at this
 ·rintro rfl i _
  exact dy rfl
theorem Bp {a b:List ak}(ha:a.length≤1000000):cY a b=some (decide (a=b)):=by
 unfold cY
 by_cases h:a.length=b.length
 ·rw[bw _ _,DJ (b:=fE a b) (n:=a.length) ha (fun i=>decide (a[i]! =b[i]!)) (fun i hi=>by
   unfold fE
   rw[bu _ _,aF,aF,aW]
   rw[show decide (¬a[i]! =b[i]!)= !decide (a[i]! =b[i]!) from dne _ _]) (by
   unfold fE
   rw[bw _ _])]
  rw[Kc h]
  cases decide (a=b) <;> rfl
 ·rw[bu _ _,gM (fun e=>h (by rw[e]))]
theorem O3 {a b:List Int}(ha:a.length≤1000000):ir a b=some (decide (a=b)):=by
 unfold ir
 by_cases h:a.length=b.length
 ·rw[bw _ _,DJ (b:=i2 a b) (n:=a.length) ha (fun i=>decide (a[i]! =b[i]!)) (fun i hi=>by
   unfold i2
   rw[bu _ _,aF,aF,aW]
   rw[show decide (a[i]!≠b[i]!)= !decide (a[i]! =b[i]!) from dne _ _]) (by
   unfold i2
   rw[bw _ _])]
  rw[Kc h]
  cases decide (a=b) <;> rfl
 ·rw[bu _ _,gM (fun e=>h (by rw[e]))]
theorem Q_Same {a b:aE}(ha:a.vV.length≤1000000):dK a b=some (decide (a=b)):=by
 unfold dK
 rw[Bp ha]
 obtain⟨R,C,V⟩:=a
 obtain⟨R',C',V'⟩:=b
 dsimp only
 by_cases h1:R=R'
 ·by_cases h2:C=C'
  ·rw[bu _ _ h1,bu _ _ h2]
   simp only[ab]
   rw[h1,h2]
   by_cases h3:V=V'
   ·rw[h3];simp
   ·rw[gM h3,gM (fun e=>h3 (by injection e))]
  ·rw[bu _ _ h1,bw _ _ h2,gM (fun e=>h2 (by injection e))];rfl
 ·rw[bw _ _ h1,gM (fun e=>h1 (by injection e))];rfl
theorem EQ {r c:Int}{l:List Int}(hl:l.length≤1000)(h:∀i,i<l.length→-1000≤l[i]!∧l[i]!≤1000):fg r c l=some (mS r c (l.map nOf)):=by
 unfold fg
 have key:=jA (b:=lU l) (fun i:Nat=>((i:Int),((l.take i).map nOf).map nv)) 0 l.length ((l.map nOf).map nv) (de _) (fun i _ hi=>?_) ?_
 ·have e:((((0:Nat):Int),((l.take 0).map nOf).map nv))=((0:Int),([]:List ak)):=by simp
  rw[e] at key
  rw[key];rfl
 ·unfold lU
  dsimp only
  have M6:l.take (i+1)=l.take i++[l[i]!]:=by rw[OK,eg hi,eI l i hi];rfl
  obtain⟨h1,h2⟩:=h i hi
  rw[bu _ _,aF,aW,uOf,ab,aF (by simp;omega),w64,M6]
  simp only[lY,e8,gL]
  rfl
 ·unfold lU
  dsimp only
  rw[bw _ _,jc (aI _)]
theorem Bv {l:List Int}(hl:l.length≤1000)(h:∀i,i<l.length→-1000≤l[i]!∧l[i]!≤1000):gj l=some ((l.map nOf).map nv):=by
 unfold gj
 rw[EQ hl h];rfl
def fr(a b:Int):Nu:=nuR (some (Rat.divInt a b))
theorem s1T:mL 2 2 ([1,2,3,4].map nOf)=(mS 2 2 ([1,0,0,1].map nOf),[0,1],0):=by decide +kernel
theorem s2T:Gy 2 2 ([1,2,3,4].map nOf)=(nv (nOf (-2)),0):=by decide +kernel
theorem s3T:mL 2 3 ([0,2,4,0,1,2].map nOf)=(mS 2 3 ([0,1,2,0,0,0].map nOf),[1],0):=by decide +kernel
theorem s4T:Fu 2 2 ([1,2,3,4].map nOf) ([5,6].map nOf)=([nv (nOf (-4)),nv (fr 9 2)],0):=by decide +kernel
theorem s5T:Fu 1 2 ([1,1].map nOf) ([2].map nOf)=([],70):=by decide +kernel
theorem s6T:Fu 2 1 ([1,1].map nOf) ([1,2].map nOf)=([],200):=by decide +kernel
theorem s7T:Jt 1 3 ([1,2,3].map nOf)=([[-2,1,0].map nOf,[-3,0,1].map nOf],0):=by decide +kernel
theorem s8T:Jo 2 2 ([2,1,1,2].map nOf)=(true,0):=by decide +kernel
theorem s9T:Jo 2 2 ([1,2,2,1].map nOf)=(false,0):=by decide +kernel
theorem sFrac:m4 9 2=some (nv (fr 9 2)):=by
 unfold m4
 rw[ES (by decide) (by decide),ab,ES (by decide) (by decide),ab,yc (by decide) (by decide) (by decide),ab]
 rfl
theorem Jj {a b:aE}(ha:a.vV.length≤1000000)(h:a=b):dK a b=some true:=by rw[Q_Same ha,dy h]
theorem sList {a:List ak}(ha:a.length≤1000000):cY a a=some true:=by rw[Bp ha,dy rfl]
theorem Bx:cb=some true:=by
 have o1:=EQ (r:=2) (c:=2) (l:=[1,2,3,4]) (by decide) (by decide)
 have o2:=EQ (r:=2) (c:=3) (l:=[0,2,4,0,1,2]) (by decide) (by decide)
 have o3:=Bv (l:=[5,6]) (by decide) (by decide)
 have o4:=EQ (r:=1) (c:=2) (l:=[1,1]) (by decide) (by decide)
 have o5:=Bv (l:=[2]) (by decide) (by decide)
 have o6:=EQ (r:=2) (c:=1) (l:=[1,1]) (by decide) (by decide)
 have o7:=Bv (l:=[1,2]) (by decide) (by decide)
 have o8:=EQ (r:=1) (c:=3) (l:=[1,2,3]) (by decide) (by decide)
 have o9:=EQ (r:=2) (c:=2) (l:=[2,1,1,2]) (by decide) (by decide)
 have o10:=EQ (r:=2) (c:=2) (l:=[1,2,2,1]) (by decide) (by decide)
 have o11:=EQ (r:=2) (c:=3) (l:=[0,1,2,0,0,0]) (by decide) (by decide)
 have o12:=Bv (l:=[-2,1,0]) (by decide) (by decide)
 have o13:=Bv (l:=[-3,0,1]) (by decide) (by decide)
 have r1:=(rp (R:=2) (C:=2) (V:=[1,2,3,4].map nOf) (by decide)).trans (congrArg some s1T)
 have r2:=(Ki (R:=2) (C:=2) (V:=[1,2,3,4].map nOf) (by decide)).trans (congrArg some s2T)
 have r3:=(rp (R:=2) (C:=3) (V:=[0,2,4,0,1,2].map nOf) (by decide)).trans (congrArg some s3T)
 have r4:=(EP (R:=2) (C:=2) (A:=[1,2,3,4].map nOf) (b:=[5,6].map nOf) (by decide) (by decide)).trans (congrArg some s4T)
 have r5:=(EP (R:=1) (C:=2) (A:=[1,1].map nOf) (b:=[2].map nOf) (by decide) (by decide)).trans (congrArg some s5T)
 have r6:=(EP (R:=2) (C:=1) (A:=[1,1].map nOf) (b:=[1,2].map nOf) (by decide) (by decide)).trans (congrArg some s6T)
 have r7:jT (mS 1 3 ([1,2,3].map nOf))=some ([([-2,1,0].map nOf).map nv,([-3,0,1].map nOf).map nv],0):=(P_Null (R:=1) (C:=3) (V:=[1,2,3].map nOf) (by decide)).trans (by rw[s7T];rfl)
 have r8:=(Bs (R:=2) (C:=2) (V:=[2,1,1,2].map nOf) (by decide)).trans (congrArg some s8T)
 have r9:=(Bs (R:=2) (C:=2) (V:=[1,2,2,1].map nOf) (by decide)).trans (congrArg some s9T)
 have u1:=uOf (n:=-2) (by decide) (by decide)
 have u2:=uOf (n:=-4) (by decide) (by decide)
 have e1:dK (mS 2 2 ([1,0,0,1].map nOf)) (idP 2)=some true:=Jj (by decide) rfl
 have e2:dK (mS 2 3 ([0,1,2,0,0,0].map nOf)) (mS 2 3 ([0,1,2,0,0,0].map nOf))=some true:=Jj (by decide) rfl
 have e3:cY (([-2,1,0].map nOf).map nv) (([-2,1,0].map nOf).map nv)=some true:=sList (by decide)
 have e4:cY (([-3,0,1].map nOf).map nv) (([-3,0,1].map nOf).map nv)=some true:=sList (by decide)
 unfold cb
 rw[o1,ab,r1,ab,r2,ab,o2,ab,r3,ab,o3,ab,r4,ab,o4,ab,o5,ab,r5,ab,o6,ab,o7,ab,r6,ab,o8,ab,r7,ab,o9,ab,r8,ab,o10,ab,r9,ab]
 refine (congrArg (fun o=>bnd o _) (show _=some false from rfl)).trans ?_
 rw[ab,kF,Bt,ab,o11,u1,u2,sFrac,o12,o13]
 refine (congrArg (fun o=>bnd o _) (show _=some true from ?_)).trans ?_
 ·refine (congrArg (fun o=>bnd o _) e1).trans ?_
  rw[ab,kT,aF (by decide)]
  refine (bu _ _ (by rfl)).trans ?_
  rw[aF (by decide)]
  refine (bu _ _ (by rfl)).trans ?_
  rw[ab]
  refine (bu _ _ (by rfl)).trans ?_
  rw[ab]
  refine (congrArg (fun o=>bnd o _) e2).trans ?_
  rfl
 ·rw[ab]
  refine (congrArg (fun o=>bnd o _) (show _=some true from ?_)).trans ?_
  ·rw[kT,aF (by decide),ab]
   refine (bu _ _ (by rfl)).trans ?_
   rw[aF (by decide),ab]
   refine (bu _ _ (by rfl)).trans ?_
   rw[aF (by decide),ab]
   refine (congrArg (fun o=>bnd o _) e3).trans ?_
   rw[ab,kT,aF (by decide),ab]
   refine (congrArg (fun o=>bnd o _) e4).trans ?_
   rfl
  ·rfl
section
theorem div_one {x y:Nu}(hx:aT x=true)(hy:aT y=true)(h1:rv y=1):t6 x y=x:=by
 have h0:rv y≠0:=by rw[h1];decide
 have e:BY (cP x.1) (cP y.1)=some (rv x):=by
  rw[eL.1 hx,eL.1 hy]
  have:Hv (some (rv y))=some (rv y)⁻¹:=aq h0
  unfold BY
  rw[this,h1]
  have e1:rv x*(1:Rat)⁻¹=rv x:=by grind
  show (if mi (rv x*(1:Rat)⁻¹) then some (rv x*(1:Rat)⁻¹) else none)=_
  rw[e1,ao (NR hx)]
 rw[zX,e]
 exact (D7 hx).symm
theorem wZ {V:List Nu}{i:Nat}(hi:i<V.length):V.set i V[i]! =V:=by
 rw[eI V i hi]
 exact List.set_getElem_self hi
theorem J3 {V:List Nu}{o n:Nat}{h:List Nu→Nat→Nu}(ho:o+n≤V.length)(hh:∀j,j<n→h V j=V[o+j]!):∀j,j≤n→rO V o h j=V
 |0,_=>rfl
 |j+1,hj=>by
  unfold rO
  rw[J3 ho hh j (by omega),hh j (by omega),wZ (by omega)]
section
variable {R C:Nat} {V:List Nu} {ps:List Nat}
theorem Fp {r:Nat}(h:r*C+C≤V.length):∀j,j≤C→cN C V r r j=V
 |0,_=>rfl
 |j+1,hj=>by
  unfold cN
  rw[Fp h j (by omega),wZ (by omega),wZ (by omega)]
theorem FA {k r:Nat}(h:∀n,n<R→n≠r→kw V[n*C+k]! =0):∀n,n≤R→gx C k r V n=V
 |0,_=>rfl
 |n+1,hn=>by
  unfold gx
  rw[FA h n (by omega),aq (fun hh=>hh.2 (h n (by omega) hh.1))]
theorem Ma(hV:V.length=R*C)(hg:V.all aT=true){k r:Nat}(hk:k<C)(hr:r<R)(h1:rv V[r*C+k]! =1)(h0:∀n,n<R→n≠r→rv V[n*C+k]! =0):ms R C k r r V=V:=by
 have KV:r*C+C≤R*C:=by have:(r+1)*C≤R*C:=cc C hr;rwa[qk] at this
 have F9:∀t,t<R*C→aT V[t]! =true:=fun t ht=>oX hg (by omega)
 unfold ms byN
 rw[Fp (by omega) C (aI _),J3 (n:=C) (by omega) (fun j hj=>div_one (F9 _ (by omega)) (F9 _ (bH hr hk)) h1) C (aI _)]
 exact FA (fun n hn lK=>(Cy (F9 _ (bH hn hk))).2 (h0 n hn lK)) R (aI _)
theorem Gm {k:Nat}:∀n i,(∀j,i≤j→j<i+n→kw V[j*C+k]! =0)→qZ C k V n i=none
 |0,_,_=>rfl
 |n+1,i,h=>by
  unfold qZ
  rw[aq (fun hh=>hh (h i (aI _) (by omega)))]
  exact Gm n (i+1) fun j h1 h2=>h j (by omega) (by omega)
theorem zQ(hV:V.length=R*C)(hg:V.all aT=true)(h:IsR (toR C V) R C ps):∀(n k r:Nat) (acc:List Pv),k+n=C→r≤ps.length→(∀j,j<r→ps[j]! <k)→(∀j,r≤j→j<ps.length→k≤ps[j]!)→acc.map (·.col)=ps.take r→∃l,jl R C n k r V acc=some (V,l)∧l.map (·.col)=ps
 |0,k,r,acc,hk,hr,h1,h2,ha=>by
  rw[sU (.inl rfl)]
  refine⟨acc,rfl,?_⟩
  have:r=ps.length:=by
   rcases bZ r ps.length with h3|h3
   ·have:=h2 r (aI _) h3
    have:=h.lt r h3
    omega
   ·omega
  rw[ha,this,GS]
 |n+1,k,r,acc,hk,hr,h1,h2,ha=>by
  have hle:=h.le
  have F9:∀t,t<R*C→aT V[t]! =true:=fun t ht=>oX hg (by omega)
  by_cases hp:r<ps.length∧ps[r]! =k
  ·obtain⟨h3,h4⟩:=hp
   have wD:r<R:=by omega
   have hv:∀i,i<R→rv V[i*C+k]! =if i=r then 1 else 0:=fun i hi=>by
    have:=h.piv i r hi h3
    rw[h4] at this
    exact this
   have hf:qZ C k V (R - r) r=some r:=by
    obtain⟨m,hm⟩:∃m,R - r=m+1:=⟨R - r - 1,by omega⟩
    rw[hm]
    unfold qZ
    rw[ao]
    intro e
    have:=(Cy (F9 _ (bH wD (show k<C by omega)))).1 e
    rw[hv r wD,ao rfl] at this
    exact absurd this (by decide)
   have v3:ms R C k r r V=V:=Ma hV hg (by omega) wD (by rw[hv r wD,ao rfl]) fun m hm lK=>by rw[hv m hm,aq lK]
   unfold jl
   rw[ao wD,hf]
   dsimp only
   rw[v3,ao hg]
   refine zQ hV hg h n (k+1) (r+1) _ (by omega) h3 (fun j hj=>?_) (fun j hj Ai=>?_) ?_
   ·rcases bZ j r with h5|h5
    ·have:=h1 j h5;omega
    ·rw[show j=r by omega,h4];omega
   ·have:=h.inc r j (by omega) Ai
    omega
   ·rw[lY,ha,OK,eg h3]
    show ps.take r++[k]=ps.take r++[ps[r]]
    rw[←h4,eI ps r h3]
  ·have ut:∀j,r≤j→j<ps.length→k<ps[j]! :=fun j hj Ai=>by
    have h3:=h2 j hj Ai
    rcases bZ r j with h5|h5
    ·have:=h.inc r j h5 Ai
     have:=h2 r (aI _) (by omega)
     omega
    ·obtain rfl:j=r:=by omega
     have:ps[j]!≠k:=fun e=>hp ⟨Ai,e⟩
     omega
   by_cases wD:r<R
   ·have hf:qZ C k V (R - r) r=none:=Gm _ _ fun j h3 h4=>(Cy (F9 _ (bH (show j<R by omega) (show k<C by omega)))).2 (by
     show toR C V j k=0
     rcases bZ j ps.length with h5|h5
     ·exact h.z1 j k h5 (ut j h3 h5)
     ·exact h.z2 j k h5 (by omega) (by omega))
    unfold jl
    rw[ao wD,hf]
    exact zQ hV hg h n (k+1) r acc (by omega) hr (fun j hj=>by have:=h1 j hj;omega) (fun j hj Ai=>ut j hj Ai) ha
   ·rw[sU (.inr wD)]
    refine⟨acc,rfl,?_⟩
    rw[ha,show r=ps.length by omega,GS]
end
theorem GC {acc l:List Pv}(h:l.map (·.col)=acc.map (·.col)):fk l=fk acc:=by
 unfold fk
 rw[show (l.map fun p=>(p.col:Int))=(l.map (·.col)).map fun n:Nat=>(n:Int) by rw[ol];rfl,h,ol];rfl
section
variable {r c a b:Nat} {V V' U U':List Nu} {acc Be:List Pv}
theorem forget(hV:V.length=r*c)(hg:V.all aT=true)(hV':V'.length=r*c)(hg':V'.all aT=true)(ha:a<r)(hb:b<r)(he:∀i k,i<r→k<c→toR c V' i k=fC (toR c V) a b i k)(h:jm r c V=some (U,acc))(h':jm r c V'=some (U',Be)):U=U'∧fk acc=fk Be∧acc.length=Be.length∧∃l,jm r c U=some (U,l)∧fk l=fk acc:=by
 have hok:=uM hV hg h
 have F7:=uM hV' hg' h'
 obtain⟨h1,h2⟩:=IsR.unique hok.red F7.red fun x=>by
  rw[hok.sol,F7.sol,←Fw (f:=toR c V) ha hb]
  exact⟨fun hs=>hs.congr fun i k hi hk=>(he i k hi hk).symm,fun hs=>hs.congr fun i k hi hk=>he i k hi hk⟩
 have e1:U=U':=by
  rw[Hz hok.len,Hz F7.len]
  exact KR fun i k hi hk=>At (oX hok.good (by rw[hok.len];exact bH hi hk)) (oX F7.good (by rw[F7.len];exact bH hi hk)) (h2 i k hi hk)
 obtain⟨l,h3,h4⟩:=zQ hok.len hok.good hok.red c 0 0 [] (by omega) (de _) (fun j hj=>by omega) (fun j _ _=>de _) (by simp)
 exact⟨e1,GC h1,by have:=congrArg List.length h1;rwa[bS,bS] at this,l,h3,GC h4⟩
theorem Ig {n:Nat}{d d':Nu}(hV:V.length=n*n)(hg:V.all aT=true)(hV':V'.length=n*n)(hg':V'.all aT=true)(ha:a<n)(hb:b<n)(he:∀i k,i<n→k<n→toR n V' i k=fC (toR n V) a b i k)(h:oB n (jm n n V)=(d,0))(h':oB n (jm n n V')=(d',0)):d=if a=b then d' else DG d':=by
 obtain⟨g1,v1⟩:=Gx hV hg h
 obtain⟨g2,v2⟩:=Gx hV' hg' h'
 have e1:det n (toR n V')=det n (fC (toR n V) a b):=(nQ n).congr _ _ he
 by_cases e:a=b
 ·rw[ao e]
  refine At g1 g2 ?_
  rw[v1,v2,e1]
  refine (nQ n).congr _ _ fun i k _ _=>?_
  unfold fC
  subst e
  by_cases e2:i=a
  ·rw[ao e2,e2]
  ·rw[aq e2,aq e2]
 ·rw[aq e]
  refine At g1 (by rw[xb];exact g2) ?_
  rw[Ju,v1,v2,e1,(nQ n).swap _ a b ha hb e]
  grind
end
end
section
open Go.ChangeShapes Go.WideShapes Go.ChangeAt Go.RowKit Go.Deep
section
variable {H:Type} {enc:TypeId×Value→H} {P:Program}
theorem BW {f:Func}{s:ChangeSpec}{apart fresh handsOn again:Bool}{W W':World}{args:Array Value}{v:Value}{ds gs:List (DataW H)}{before pa pv:List MemPlace}
  (hW:DataW.Whole enc P f.params.toList s.vars apart W args.toList ds gs before)
  (kS:∀(b:Nat) (sp:Nat→Bool) (hd:Bool),DataW.TrodAll enc P W' b sp hd f.resultTypes.toList (v.resultList f.resultTypes.size) (s.fn H (ds++gs)).results [])
  (qe:∀sp:Nat→Bool,(∀p∈before,sp p.block=true)→DataW.TrodAll enc P W' 0 sp true f.params.toList args.toList (s.fn H (ds++gs)).args pa)
  (JD:∀sp:Nat→Bool,(∀p∈before,sp p.block=true)→DataW.TrodVars enc P W' sp s.vars (s.fn H (ds++gs)).vars pv)
  (Nd:before=pa++pv) (hb:Below W.heap.size W W')
  (hok:∀(j:Nat) (t:TypeId) (r:Value),f.resultTypes[j]? =some t→(v.resultList f.resultTypes.size)[j]? =some r→Value.okWide P W' .any 0 t r):
  s.post enc P f apart fresh handsOn again W args v W':=by
 have bz:∀p∈before,p.block<W.heap.size:=fun p hp=>hW.lt p hp
 have hold:∀p∈before,(fun b=>decide (b<W.heap.size)) p.block=true:=fun p hp=>by simpa using bz p hp
 refine⟨ds,gs,before,[],pa,pv,hW,kS _ _ _,qe _ hold,JD _ hold,World.keptBut_mono (fun p hp=>⟨hp,?_⟩) (hb.frame (·∈before)),fun _=>?_⟩
 ·rw[Nd,tq] at hp
  exact Or.inr hp
 ·obtain⟨_,_,_,_,_,hz,hn⟩:=hW
  refine⟨hok,_,_,([]++pa)++pv,⟨[]++pa,pv,trodAll_append (qe _ (fun _ _=>rfl)) (kS _ _ _),JD _ (fun _ _=>rfl),rfl,?_,?_⟩,?_⟩
  ·intro b off hp
   have DS:MemPlace.cell b off∈before:=by rw[Nd];simpa using hp
   rw[hb.frozen (bz _ DS)]
   exact hz b off DS
  ·intro ha
   have:=hn ha
   rw[Nd] at this
   simpa using this
  ·intro p hp _
   rw[Nd]
   simpa using hp
theorem BU(hl:laidOutB P=true){W W':World}(hb:Below W.heap.size W W'){sp:Nat→Bool}:∀(ts:List TypeId) (vs:List Value) (ds:List (DataW H)) (p:List MemPlace),
  (ts.all fun t=>P.readableRec t&&decide (t<P.types.size))=true→DataW.TrodAll enc P W 0 (fun _=>true) true ts vs ds p→(∀x∈p,x.block<W.heap.size)→(∀x∈p,sp x.block=true)→
  DataW.TrodAll enc P W' 0 sp true ts vs ds p:=by
 intro ts
 induction ts with
 |nil=>
  intro vs ds p _ h _ _
  cases vs with
  |nil=>cases ds with
   |nil=>exact h
   |cons d ds=>exact h.elim
  |cons v vs=>exact h.elim
 |cons t ts ih=>
  intro vs ds p hr h bz hs
  cases vs with
  |nil=>exact h.elim
  |cons v vs=>
   cases ds with
   |nil=>exact h.elim
   |cons d ds=>
    obtain⟨p1,q,h1,h2,rfl⟩:=h
    simp only[js,iB,ql] at hr
    refine⟨p1,q,WideElems.Trod_stays hl hr.1.1 hr.1.2 h1 (fun x hx=>hb.same (bz x (by simp[hx]))) (fun x hx=>hs x (by simp[hx])),ih vs ds q hr.2 h2 (fun x hx=>bz x (by simp[hx])) (fun x hx=>hs x (by simp[hx])),rfl⟩
theorem MO {f:Func}{s:ChangeSpec}{W W':World}{args:Array Value}{ds gs:List (DataW H)}{before:List MemPlace}{tb:TypeId}
  (hl:laidOutB P=true) (hv:s.vars=[]) (yR:(f.params.toList.all fun t=>P.readableRec t&&decide (t<P.types.size))=true)
  (kS:f.resultTypes=#[tb]) (htb:P.underlying tb=some .bool)
  (hW:DataW.Whole enc P f.params.toList s.vars false W args.toList ds gs before)
  (NE:s.fn H (ds++gs)={results:=[.lit (.bool true)],args:=ds}) (hb:Below W.heap.size W W'):
  s.post enc P f false true false false W args (.bool true) W':=by
 have hW':=hW
 obtain⟨p,q,hA,hV,hpq,_,_⟩:=hW
 rw[hv] at hV
 have hq:q=[]:=by
  cases gs with
  |nil=>exact hV
  |cons g gs=>exact hV.elim
 subst hq
 rw[tp] at hpq
 subst hpq
 refine BW (pa:=before) (pv:=[]) hW' (fun b sp hd=>?_) (fun sp hsp=>?_) (fun sp _=>?_) (by simp) hb ?_
 ·rw[kS,NE]
  exact trodAll_cons_mk (shut_bool htb _) trodAll_mk0
 ·rw[NE]
  exact BU hl hb _ _ _ _ yR hA (fun x hx=>hW'.lt x hx) hsp
 ·rw[hv,NE];rfl
 ·exact ok_one kS rfl (okWide_bool_mk htb _)
end
theorem M2 {P:Program}{W:World}{params:Array TypeId}{args:Array Value}(h:∀(j:Nat) t v,params[j]? =some t→args[j]? =some v→Value.okWide P W .any 0 t v∨∃base,Value.okWide P W .any base t v)(j:Nat){t:TypeId}{v:Value}
  (h1:params[j]? =some t) (h2:args[j]? =some v):∃base,Value.okWide P W .any base t v:=by
 rcases h j t v h1 h2 with h|h
 ·exact⟨0,h⟩
 ·exact h
end
section
open Go.ChangeShapes Go.WideShapes Go.ChangeAt Go.RowKit Go.Deep
def wtFs(tb:TypeId→Option TyE)(f:TypeId→List E→Prop):List (Nat×TypeId)→List E→Prop
 |[],xs=>xs=[]
 |(_,t)::fs,xs=>∃j,tb t=some j∧j.size≤xs.length∧f t (xs.take j.size)∧wtFs tb f fs (xs.drop j.size)
def wtE(tb:TypeId→Option TyE):Nat→TypeId→List E→Prop
 |0,_,_=>False
 |k+1,t,xs=>∃i,tb t=some i∧xs.length=i.size∧match i.ty with
  | .int kd=>∃n,xs=[.lit (.int kd n)]∧(Lit.int kd n).wf=true
  | .bool=>∃b,xs=[.lit (.bool b)]
  | .str=>∃s:ByteArray,xs=[.lit (.string s)]∧s.size≤maxLen
  | .slice e=>∃j n ys,tb e=some j∧xs=[.sl j.size n ys]∧ys.length=n*j.size∧n≤maxLen∧∀i,i<n→wtE tb k e ((ys.drop (i*j.size)).take j.size)
  | .struct fs=>wtFs tb (wtE tb k) fs xs
  | .arr n e=>∃j,tb e=some j∧xs.length=n*j.size∧∀i,i<n→wtE tb k e ((xs.drop (i*j.size)).take j.size)
  |_=>False
def zG(tb:TypeId→Option TyE)(f:TypeId→Bool):List (Nat×TypeId)→Nat→Nat→Bool
 |[],off,n=>off == n
 |(o,t)::fs,off,n=>o == off&&f t&&match tb t with
  |some j=>zG tb f fs (off+j.size) n
  |none=>false
def DD(tb:TypeId→Option TyE):Nat→TypeId→Bool
 |0,_=>false
 |k+1,t=>match tb t with
  |some i=>match i.ty with
   | .int _| .bool| .str=>i.size == 1
   | .slice e=>i.size == 1&&DD tb k e&&match tb e with
    |some j=>decide (0<j.size)
    |none=>false
   | .struct fs=>zG tb (DD tb k) fs 0 i.size
   | .arr n e=>DD tb k e&&match tb e with
    |some j=>i.size == n*j.size
    |none=>false
   |_=>false
  |none=>false
section
variable {H:Type} {enc:TypeId×Value→H} {P:Program} {tb:TypeId→Option TyE} {W:World} {sp:Nat→Bool} {hd:Bool} {base:Nat}
theorem TOk.cells(tok:TOk P tb){t:TypeId}{i:TyE}(h:tb t=some i):P.cellsOf t=i.size:=by
 obtain⟨f,z,h1,h2,_⟩:=tok.inf h
 unfold Program.cellsOf
 rw[h1]
 exact h2
def F0:Addr→Prop:=fun _=>False
theorem xG {z:Nat}{us:List Value}{Good:List E→Prop}:∀(n:Nat),us.length=n*z→(∀i,i<n→∃xs,Pw (cC W F0) xs ((us.drop (i*z)).take z)∧Good xs)→
  ∃ys,Pw (cC W F0) ys us∧ys.length=n*z∧∀i,i<n→Good ((ys.drop (i*z)).take z)
 |0,hl,_=>⟨[],by rw[e7] at hl;rw[jJ hl];exact Pw.nil,by simp,fun i h=>absurd h (yB _)⟩
 |n+1,hl,h=>by
  rw[qk] at hl
  have bz:(us.take (n*z)).length=n*z:=by rw[eA];omega
  obtain⟨ys,h1,h2,h3⟩:=xG (us:=us.take (n*z)) n bz fun i hi=>by
   obtain⟨xs,g1,g2⟩:=h i (by omega)
   have hm:i*z+z≤n*z:=by rw[←qk];exact cc _ hi
   refine⟨xs,?_,g2⟩
   rw[GR,CY,tj (by omega)]
   exact g1
  obtain⟨xs,g1,g2⟩:=h n (by omega)
  have hx:xs.length=z:=by rw[g1.1,eA,f8];omega
  refine⟨ys++xs,?_,by rw[eH,h2,hx,qk],fun i hi=>?_⟩
  ·have e:us=us.take (n*z)++(us.drop (n*z)).take z:=by
    rw[jc (l:=us.drop (n*z)) (by rw[f8];omega),th]
   rw[e]
   exact h1.append g1
  ·rcases bZ i n with DS|DS
   ·have hm:i*z+z≤n*z:=by rw[←qk];exact cc _ DS
    rw[OJ (by omega),yA (by rw[f8];omega)]
    exact h3 i DS
   ·obtain rfl:i=n:=by omega
    rw[OI,h2,Nat.sub_self,AO (by omega)]
    simp only[pQ,oN]
    rw[jc (by omega)]
    exact g2
theorem tQ(tok:TOk P tb):∀(k:Nat) (fuel:Nat) (t:TypeId) (cs:List Value) (x:DataW H×List MemPlace),DD tb k t=true→DataW.trod enc P W base sp hd fuel t cs=some x→∃xs,Pw (cC W F0) xs cs∧wtE tb k t xs
 |0,_,_,_,_,h,_=>by cases h
 |k+1,fuel,t,cs,x,hok,h=>by
  unfold DD at hok
  cases ht:tb t with
  |none=>rw[ht] at hok;cases hok
  |some i=>
   rw[ht] at hok
   dsimp only at hok
   cases iA:i.ty with
   |int kd=>
    rw[iA] at hok
    have hz:i.size=1:=by simpa using hok
    obtain⟨n,rfl,_,hw⟩:=DataW.trod_int (tok.int ht iA) h
    exact⟨[.lit (.int kd n)],Pw.cons (.lit _ rfl) Pw.nil,i,ht,by rw[hz];rfl,by rw[iA];exact⟨n,rfl,hw⟩⟩
   |bool=>
    rw[iA] at hok
    have hz:i.size=1:=by simpa using hok
    obtain⟨dd,LJ,Gb⟩:=tok.und ht
    rw[iA] at Gb
    have hb:P.underlying t=some .bool:=by cases dd <;> simp[Ty.of] at Gb;exact LJ
    obtain⟨b,rfl,_⟩:=DataW.trod_bool hb h
    exact⟨[.lit (.bool b)],Pw.cons (.lit _ rfl) Pw.nil,i,ht,by rw[hz];rfl,by rw[iA];exact⟨b,rfl⟩⟩
   |str=>
    rw[iA] at hok
    have hz:i.size=1:=by simpa using hok
    obtain⟨s,rfl,_,hs⟩:=DataW.trod_string (tok.str ht iA) h
    exact⟨[.lit (.string s)],Pw.cons (.lit _ rfl) Pw.nil,i,ht,by rw[hz];rfl,by rw[iA];exact⟨s,rfl,hs⟩⟩
   |slice e=>
    rw[iA] at hok
    dsimp only at hok
    cases he:tb e with
    |none=>rw[he] at hok;simp at hok
    |some j=>
     rw[he] at hok
     simp only[iB,beq_iff_eq,ql] at hok
     obtain⟨⟨hz,hoe⟩,DQ⟩:=hok
     have hce:=tok.cells he
     rcases open_slice (tok.slice ht iA) h with⟨rfl,_⟩|⟨a,len,cap,m,n,D,Pl,rfl,hb,hlc,mQ,hm,_,hi⟩
     ·exact⟨[.sl j.size 0 []],Pw.cons (.sl _ 0 [] none 0 (fun _=>undef) (by simp) DQ (aI _) (de _) (fun h=>absurd h (AN _)) (fun _ h=>by cases h) (fun _ _ h=>by simp at h)) Pw.nil,
       i,ht,by rw[hz];rfl,by rw[iA];exact⟨j,0,[],he,rfl,by simp,de _,fun i h=>absurd h (yB _)⟩⟩
     ·have hle:len≤m:=by rw[hm];split <;> omega
      rw[hce] at hi
      let us:List Value:=(List.range (len*j.size)).map fun q=>(W.cell? (a.add q)).getD undef
      have JE:us.length=len*j.size:=by simp[us]
      have hu:∀q,q<len*j.size→us[q]? =some ((W.cell? (a.add q)).getD undef):=fun q hq=>by simp[us,hq]
      have NI:∀i,i<len→∃rM,W.cells? base (a.add (i*j.size)) j.size=some rM∧rM=(us.drop (i*j.size)).take j.size:=by
       intro i DT
       obtain⟨rM,hc,_⟩:=hi i (by omega)
       obtain⟨_,Aj,BJ⟩:=World.cells?_some hc
       refine⟨rM,hc,GQ fun q=>?_⟩
       have hm2:i*j.size+j.size≤len*j.size:=by rw[←qk];exact cc _ DT
       rw[gG,oM]
       split
       ·rename_i hq
        have h1:=BJ q hq
        rw[nX] at h1
        rw[hu _ (by omega),h1]
        rw[eg (by omega)];rfl
       ·rename_i hq
        rw[i5 (by omega)]
      obtain⟨ys,HM,z9,hy3⟩:=xG (W:=W) (us:=us) (z:=j.size) (Good:=wtE tb k e) len JE fun i DT=>by
       obtain⟨rM,hc,hcs'⟩:=NI i DT
       obtain⟨cs2,mR,htr⟩:=hi i (by omega)
       rw[hc] at mR
       injection mR with mR
       subst mR
       rw[←hcs']
       exact tQ tok k _ e rM _ hoe htr
      have s6:∀q v,us[q]? =some v→W.cell? (a.add q)=some v:=by
       intro q v hv
       have hq:q<len*j.size:=by
        rcases bZ q us.length with h|h
        ·omega
        ·rw[i5 h] at hv;cases hv
       -- the cell lies in a chunk
       have hqd:q / j.size<len:=GP (by rw[ci];exact hq)
       obtain⟨rM,hc,hcs'⟩:=NI (q / j.size) hqd
       obtain⟨_,Aj,BJ⟩:=World.cells?_some hc
       have h1:=BJ (q % j.size) (c6 _ DQ)
       rw[nX,ci,nB] at h1
       rw[hu q hq] at hv
       injection hv with hv
       rw[h1] at hv
       rw[h1,eg (by have:=c6 q DQ;omega)] at*
       simp only[wj] at hv
       rw[hv]
      refine⟨[.sl j.size len ys],Pw.cons (.sl _ len ys (some a) cap (fun q=>us.getD q undef) z9 DQ hlc mQ (fun hpl=>⟨a,rfl,?_⟩) (fun ad K9 q y hq=>?_) (fun q y hq=>?_)) Pw.nil,i,ht,by rw[hz];rfl,by rw[iA];exact⟨j,len,ys,he,rfl,z9,cG hlc mQ,hy3⟩⟩
      ·have h0:0<len*j.size:=rf hpl DQ
       have:=World.block_lt_of_cell? W _ (s6 0 _ (hu 0 h0))
       rwa[gk] at this
      ·injection K9 with K9
       subst K9
       obtain⟨v,hv,_⟩:=HM.get hq
       refine⟨?_,fun hf=>hf⟩
       rw[s6 q v hv,List.getD,hv];rfl
      ·obtain⟨v,hv,hr⟩:=HM.get hq
       rw[List.getD,hv]
       exact hr
   |other=>rw[iA] at hok;cases hok
   |struct fs=>
    rw[iA] at hok
    dsimp only at hok
    obtain⟨fields,hf,E0⟩:=tok.struct ht iA
    obtain⟨xs,n,_,_,Aj,zo,iL⟩:=DataW.trod_struct hf h
    rw[tok.cells ht] at Aj
    have key:∀(l:List Field) (off:Nat),(∀f∈l,∃x,DataW.trod enc P W base sp hd n f.type ((cs.drop f.offset).take (P.cellsOf f.type))=some x)→off≤cs.length→zG tb (DD tb k) (l.map fun f=>(f.offset,f.type)) off i.size=true→
      ∃ys,Pw (cC W F0) ys (cs.drop off)∧wtFs tb (wtE tb k) (l.map fun f=>(f.offset,f.type)) ys:=by
     intro l
     induction l with
     |nil=>
      intro off _ ho uo
      have:off=i.size:=by simpa[zG] using uo
      exact⟨[],by rw[AO (by omega)];exact Pw.nil,rfl⟩
     |cons f l ih=>
      intro off hl ho uo
      simp only[e8,zG,iB,beq_iff_eq] at uo
      obtain⟨⟨hof,xt⟩,uo⟩:=uo
      cases hj:tb f.type with
      |none=>rw[hj] at uo;cases uo
      |some j=>
       rw[hj] at uo
       dsimp only at uo
       obtain⟨x,hx⟩:=hl f (lq ..)
       rw[tok.cells hj,hof] at hx
       obtain⟨zs,HK,hz2⟩:=tQ tok k _ f.type _ _ xt hx
       have hzl:zs.length=j.size:=by
        cases k with
        |zero=>cases hz2
        |succ k=>
         obtain⟨j',EZ,Nz,_⟩:=hz2
         rw[hj] at EZ
         injection EZ with EZ
         subst EZ
         exact Nz
       have hlen:off+j.size≤cs.length:=by
        have:=HK.1
        rw[hzl,eA,f8] at this
        omega
       obtain⟨ys,HM,z9⟩:=ih (off+j.size) (fun g hg=>hl g (mA _ hg)) hlen uo
       refine⟨zs++ys,?_,j,hj,by rw[eH];omega,?_,?_⟩
       ·have e:cs.drop off=(cs.drop off).take j.size++cs.drop (off+j.size):=by
         rw[←oi,th]
        rw[e]
        exact HK.append HM
       ·rw[yA (by omega),jc (by omega)]
        exact hz2
       ·rw[OJ (by omega),AO (by omega)]
        exact z9
    obtain⟨ys,HM,z9⟩:=key fields.toList 0 (fun f hfm=>by
     obtain⟨q,hq⟩:=yz hfm
     have KW:fields[q]? =some f:=by simpa using hq
     have bz:q<xs.length:=by rw[zo];exact (f7.1 KW).1
     exact⟨xs[q],by rw[iL q f KW,eg bz]⟩) (de _) (by rw[E0];exact hok)
    rw[pQ] at HM
    exact⟨ys,HM,i,ht,by rw[HM.1,Aj],by rw[iA];rw[E0] at z9;exact z9⟩
   |arr n e=>
    rw[iA] at hok
    dsimp only at hok
    cases he:tb e with
    |none=>rw[he] at hok;simp at hok
    |some j=>
     rw[he] at hok
     simp only[iB,beq_iff_eq] at hok
     obtain⟨hoe,hz⟩:=hok
     obtain⟨xs,m,_,_,Aj,zo,iL⟩:=DataW.trod_array (tok.arr ht iA) h
     rw[tok.cells ht] at Aj
     rw[tok.cells he] at iL
     obtain⟨ys,HM,z9,hy3⟩:=xG (W:=W) (us:=cs) (z:=j.size) (Good:=wtE tb k e) n (by rw[Aj,hz]) fun q hq=>by
      have KW:=iL q hq
      rw[eg (by omega)] at KW
      exact tQ tok k _ e _ _ hoe KW
     exact⟨ys,HM,i,ht,by rw[HM.1,Aj],by rw[iA];exact⟨j,he,z9,hy3⟩⟩
def argD(g:Bool)(xs:List E):D:=match g with
 |true=>.ag (xs.map D.e)
 |false=>.e (xs.headD .any)
theorem arg_rep(tok:TOk P tb){k:Nat}{t:TypeId}{i:TyE}{v:Value}{d:DataW H}{p:List MemPlace}{r:Reach}{b0:Nat}(hok:DD tb k t=true)(ht:tb t=some i)(s4:Value.okWide P W r b0 t v)(h:DataW.Trod enc P W base sp hd t v d p):
  ∃xs,wtE tb k t xs∧j5 W F0 (argD i.ty.agg xs) v:=by
 obtain⟨fuel,hf⟩:=h
 obtain⟨xs,hx,hw⟩:=tQ tok k fuel t _ _ hok hf
 refine⟨xs,hw,?_⟩
 have one:v.cells=#[v]→j5 W F0 (.e (xs.headD .any)) v:=by
  intro hv
  rw[hv] at hx
  cases xs with
  |nil=>have:=hx.1;simp at this
  |cons y ys=>exact aM.e _ _ (hx.2 0 y v rfl rfl)
 have agg:∀cs,v=.agg cs→j5 W F0 (.ag (xs.map D.e)) v:=by
  rintro cs rfl
  have hx':Pw (cC W F0) xs cs.toList:=hx
  refine aM.ag _ cs (by simpa using hx'.1.symm) (fun j u hu=>?_) (fun j d u hd hu=>?_)
  ·have sx:cs.toList[j]? =some u:=by simpa using hu
   have bz:j<xs.length:=by
    rw[hx'.1]
    exact (lX.1 sx).1
   exact (hx'.2 j _ u (eg bz) sx).one
  ·rw[cF] at hd
   cases hxj:xs[j]? with
   |none=>simp[hxj] at hd
   |some y=>
    simp only[hxj,mz,my] at hd
    subst hd
    exact .e _ _ (hx'.2 j y u hxj (by simpa using hu))
 cases iA:i.ty with
 |int kd=>obtain⟨n,rfl⟩:=okWide_int (tok.int ht iA) s4;exact one rfl
 |bool=>
  obtain⟨dd,LJ,Gb⟩:=tok.und ht
  rw[iA] at Gb
  have hb:P.underlying t=some .bool:=by cases dd <;> simp[Ty.of] at Gb;exact LJ
  obtain⟨b,rfl⟩:=okWide_bool hb s4
  exact one rfl
 |str=>obtain⟨s,rfl⟩:=okWide_string (tok.str ht iA) s4;exact one rfl
 |slice e=>obtain⟨a,l,c,rfl⟩:=okWide_slice (tok.slice ht iA) s4;exact one rfl
 |struct fs=>
  obtain⟨fields,hf,_⟩:=tok.struct ht iA
  obtain⟨cs,rfl,_⟩:=okWide_struct hf s4
  exact agg cs rfl
 |arr n e=>
  have ha:=tok.arr ht iA
  unfold Value.okWide at s4
  rw[ha] at s4
  obtain⟨cs,rfl,_⟩:=s4
  exact agg cs rfl
 |other=>
  cases k with
  |zero=>cases hok
  |succ k=>unfold DD at hok;rw[ht] at hok;dsimp only at hok;rw[iA] at hok;cases hok
theorem says_of {f:FuncId}{ds:List D}{args:Array Value}(hc:aB P f ds (.e (.lit (.bool true))))(hsz:args.size=ds.length)(qe:∀(j:Nat) (d:D) (u:Value),ds[j]? =some d→args[j]? =some u→j5 W F0 d u):
  Calls P f args W fun e w'=>e=.returned (.bool true)∧Below W.heap.size W w':=by
 refine (hc.2 W F0 args (fun _ h=>h.elim) hsz qe).mono ?_
 rintro e w' ⟨v,rfl,kS,hb⟩
 have hr:j5 w' F0 (.e (.lit (.bool true))) v:=kS
 exact⟨by rw[aM.lit hr],hb⟩
theorem rN {α:Type}(cells:α→List E)(z:Nat)(good:α→Prop):∀(n:Nat) (ys:List E),ys.length=n*z→(∀i,i<n→∃a,(ys.drop (i*z)).take z=cells a∧good a)→∃l:List α,l.length=n∧ys=l.flatMap cells∧∀a∈l,good a
 |0,ys,hl,_=>⟨[],rfl,by rw[e7] at hl;rw[jJ hl];rfl,by simp⟩
 |n+1,ys,hl,h=>by
  rw[qk] at hl
  obtain⟨a,ha,hga⟩:=h 0 (Nat.succ_pos n)
  obtain⟨l,h1,h2,h3⟩:=rN cells z good n (ys.drop z) (by rw[f8];omega) fun i hi=>by
   have:=h (i+1) (by omega)
   rw[oi,show z+i*z=(i+1)*z by rw[qk];omega]
   exact this
  simp only[e7,pQ] at ha
  refine⟨a::l,by simp[h1],?_,fun b hb=>?_⟩
  ·rw[pP,←ha,←h2,th]
  ·rcases jI.1 hb with rfl|hb
   ·exact hga
   ·exact h3 b hb
end
end
section
def Rd(tb:TypeId→Option TyE)(t:TypeId)(d:Nat){α:Type}(c:Cd α)(W:α→Prop):Prop:=∀k xs,wtE tb (k+d) t xs→∃a,xs=c.f a∧W a
theorem Rd.up {tb:TypeId→Option TyE}{t:TypeId}{d:Nat}{α:Type}{c:Cd α}{W:α→Prop}(h:Rd tb t d c W)(m:Nat):Rd tb t (d+m) c W:=fun k xs h'=>h (k+m) xs (by rw[oL,oh m d];exact h')
def Wi(k:IntKind)(n:Int):Prop:=k.min≤n∧n≤k.max
section
variable {tb:TypeId→Option TyE} {t e:TypeId} {i j:TyE} {d:Nat} {α:Type} {c:Cd α} {W:α→Prop}
theorem Mo {k:IntKind}(ht:tb t=some i)(hi:i.ty=.int k):Rd tb t 1 (cI k) (Wi k):=by
 intro n xs h
 obtain⟨i',h1,_,h⟩:=h
 rw[ht] at h1;cases h1
 rw[hi] at h
 obtain⟨m,h1,h2⟩:=h
 exact⟨m,h1,by unfold Wi;simpa[Lit.wf] using h2⟩
theorem rd_B(ht:tb t=some i)(hi:i.ty=.bool):Rd tb t 1 cB (fun _=>True):=by
 intro n xs h
 obtain⟨i',h1,_,h⟩:=h
 rw[ht] at h1;cases h1
 rw[hi] at h
 obtain⟨m,h1⟩:=h
 exact⟨m,h1,trivial⟩
theorem rd_L(ht:tb t=some i)(he:tb e=some j)(hc:Rd tb e d c W)(hi:i.ty=.slice e:=by exact rfl)(hz:c.sz=j.size:=by exact rfl):Rd tb t (d+1) (cL c) (fun l=>l.length≤maxLen∧∀a∈l,W a):=by
 intro n xs h
 obtain⟨i',h1,_,h⟩:=h
 rw[ht] at h1;cases h1
 rw[hi] at h
 obtain⟨j',m,ys,h1,h2,h3,h4,h5⟩:=h
 rw[he] at h1;cases h1
 obtain⟨l,h6,h7,h8⟩:=rN c.f j.size W m ys h3 fun i hi=>hc n _ (h5 i hi)
 refine⟨l,?_,by omega,h8⟩
 rw[h2,h7,←h6,←hz];rfl
theorem kq {xs:List E}{n:Nat}{ys zs:List E}(h1:xs.take n=ys)(h2:xs.drop n=zs):xs=ys++zs:=by
 rw[←h1,←h2,th]
theorem Ip {P:Program}{H:Type}{enc:TypeId×Value→H}{Wd:World}{sp:Nat→Bool}{hd:Bool}{base k:Nat}{v:Value}{dw:DataW H}{p:List MemPlace}{r:Reach}{b0:Nat}(tok:TOk P tb)(hok:DD tb (k+d) t=true)(ht:tb t=some i)(hc:Rd tb t d c W)(s4:Value.okWide P Wd r b0 t v)(h:DataW.Trod enc P Wd base sp hd t v dw p):
  ∃a,j5 Wd F0 (argD i.ty.agg (c.f a)) v∧W a:=by
 obtain⟨xs,h1,h2⟩:=arg_rep tok hok ht s4 h
 obtain⟨a,rfl,h3⟩:=hc k xs h1
 exact⟨a,h2,h3⟩
end
end
theorem rd_A {tb:TypeId→Option TyE}{t e:TypeId}{i j:TyE}{d n:Nat}{α:Type}{c:Cd α}{W:α→Prop}(ht:tb t=some i)(he:tb e=some j)(hc:Rd tb e d c W)(hi:i.ty=.arr n e:=by exact rfl)(hz:c.sz=j.size:=by exact rfl):Rd tb t (d+1) (cA n c) (fun v=>∀a∈v.toList,W a):=by
 intro m xs h
 obtain⟨i',h1,_,h⟩:=h
 rw[ht] at h1;cases h1
 rw[hi] at h
 obtain⟨j',h1,h3,h5⟩:=h
 rw[he] at h1;cases h1
 obtain⟨l,h6,h7,h8⟩:=rN c.f j.size W n xs h3 fun i hi=>hc m _ (h5 i hi)
 exact⟨⟨l.toArray,by simpa using h6⟩,h7,h8⟩
def QR(x:ak):Prop:=(True∧True∧∀a∈x.vN.vW.toList,Wi .u32 a)∧(True∧True∧∀a∈x.vD.vW.toList,Wi .u32 a)
theorem My {x:ar}(h:∀a∈x.vW.toList,Wi .u32 a):okI x:=fun j hj=>by
 have h2:=h x.vW[j]! (by rw[eI x.vW j hj];simp)
 exact⟨h2.1,by have:x.vW[j]!≤4294967295:=h2.2;omega⟩
theorem okR_of {x:ak}(h:QR x):okR x:=⟨My h.1.2.2,My h.2.2.2⟩
def QL(l:List ak):Prop:=l.length≤maxLen∧∀x∈l,QR x
theorem QL.nu {l:List ak}(h:QL l):l=(l.map sY).map nv∧(l.map sY).length≤9223372036854775807:=by
 refine⟨(FN fun x hx=>okR_of (h.2 x hx)).symm,?_⟩
 rw[bS]
 exact cG h.1 (by decide)
theorem Oi {n:Nat}{V:List Nu}(hm:MV n n V):Gy n n V=(if (oB n (jm n n V)).2=0 then nv (oB n (jm n n V)).1 else rZ,(oB n (jm n n V)).2):=by
 unfold Gy
 rw[ao ⟨hm.chk,rfl⟩,aW,J0]
theorem neF {a b:Int}(h:a=b):decide (a≠b)=false:=by simp[h]
theorem neT {a b:Int}(h:¬a=b):decide (a≠b)=true:=by simp[h]
def bU(eJ:aE)(gI:Int)(eK:Int):Int×(List ak)→Option ((Int×(List ak))⊕((List ak))):=fun (aL,eQ)=>cnd (decide (aL<eJ.vC)) (gd (0≤i64.wrap ((i64.wrap ((Int.tmod (i64.wrap (eK)) eJ.vR)*eJ.vC))+aL)∧i64.wrap ((i64.wrap ((Int.tmod (i64.wrap (eK)) eJ.vR)*eJ.vC))+aL)<((eJ.vV).length:Int)) (gd (0≤i64.wrap ((i64.wrap ((Int.tmod (i64.wrap (gI)) eJ.vR)*eJ.vC))+aL)∧i64.wrap ((i64.wrap ((Int.tmod (i64.wrap (gI)) eJ.vR)*eJ.vC))+aL)<((eJ.vV).length:Int)) (gd (0≤i64.wrap ((i64.wrap ((Int.tmod (i64.wrap (gI)) eJ.vR)*eJ.vC))+aL)∧i64.wrap ((i64.wrap ((Int.tmod (i64.wrap (gI)) eJ.vR)*eJ.vC))+aL)<(((eJ.vV).length:Nat):Int)∧i64.wrap ((i64.wrap ((Int.tmod (i64.wrap (gI)) eJ.vR)*eJ.vC))+aL)<((eQ).length:Int)) (bnd (some ((eQ).set ((i64.wrap ((i64.wrap ((Int.tmod (i64.wrap (gI)) eJ.vR)*eJ.vC))+aL)).toNat) ((eJ.vV)[(i64.wrap ((i64.wrap ((Int.tmod (i64.wrap (eK)) eJ.vR)*eJ.vC))+aL)).toNat]!))) fun nq=>gd (0≤i64.wrap ((i64.wrap ((Int.tmod (i64.wrap (eK)) eJ.vR)*eJ.vC))+aL)∧i64.wrap ((i64.wrap ((Int.tmod (i64.wrap (eK)) eJ.vR)*eJ.vC))+aL)<(((eJ.vV).length:Nat):Int)∧i64.wrap ((i64.wrap ((Int.tmod (i64.wrap (eK)) eJ.vR)*eJ.vC))+aL)<((nq).length:Int)) (bnd (some ((nq).set ((i64.wrap ((i64.wrap ((Int.tmod (i64.wrap (eK)) eJ.vR)*eJ.vC))+aL)).toNat) ((eJ.vV)[(i64.wrap ((i64.wrap ((Int.tmod (i64.wrap (gI)) eJ.vR)*eJ.vC))+aL)).toNat]!))) fun x26=>some (.inl (i64.wrap (aL+(1:Int)),x26))))))) (some (.inr eQ))
def ey(eJ:aE)(gI:Int)(eK:Int):Option Bool:=bnd (S:=Bool) (bnd (jR eJ) fun x1=>cnd (!x1) (some (true)) (bnd (dv eJ) fun x4=>cnd (decide (x4≠(0:Int))) (some (true)) (some (decide (eJ.vR=(0:Int)))))) fun bQ=>cnd bQ (bnd (cb) fun x9=>some x9) (gd (eJ.vR≠0) (gd (eJ.vR≠0) (gd (0<(eJ.vV).length) (gd ((eJ.vV).length*136≤140737488355328) (bnd (a7 (bU eJ gI eK) ((0:Int),eJ.vV)) fun bR=>bnd (bY eJ) fun oP=>gd ((eJ.vV).length=(bR).length) (bnd (bY (⟨eJ.vR,eJ.vC,bR⟩:aE)) fun BD=>bnd (S:=Bool) (cnd (decide (oP.2.2≠(0:Int))) (some (true)) (some (decide (BD.2.2≠(0:Int))))) fun nd=>cnd nd (bnd (cb) fun wI=>some wI) (bnd (bY oP.1) fun yf=>bnd (S:=Bool) (bnd (dK oP.1 BD.1) fun x41=>cnd (!x41) (some (true)) (bnd (ir oP.2.1 BD.2.1) fun x44=>cnd (!x44) (some (true)) (cnd (decide (yf.2.2≠(0:Int))) (some (true)) (bnd (dK oP.1 yf.1) fun Lx=>cnd (!Lx) (some (true)) (bnd (ir oP.2.1 yf.2.1) fun x51=>some (!x51)))))) fun rk=>cnd rk (some false) (cnd (decide (eJ.vR≠eJ.vC)) (bnd (cb) fun x56=>some x56) (bnd (fB eJ) fun x58=>bnd (fB (⟨eJ.vR,eJ.vC,bR⟩:aE)) fun LO=>bnd (S:=Bool) (cnd (decide (x58.2≠(0:Int))) (some (true)) (some (decide (LO.2≠(0:Int))))) fun rj=>cnd rj (bnd (cb) fun x65=>some x65) (bnd (S:=ak) (cnd (decide ((Int.tmod (i64.wrap (gI)) eJ.vR)≠(Int.tmod (i64.wrap (eK)) eJ.vR))) (bnd (ij LO.1) fun x68=>some (x68)) (some (LO.1))) fun pU=>bnd (S:=Bool) (bnd (cb) fun x71=>cnd x71 (some (decide (x58.1=pU))) (some (false))) fun ri=>some ri))))))))))
theorem oS {eJ:aE}{gI:Int}{eK:Int}{r:Bool}(h:ey eJ gI eK=some r):aB prog 3 [dG a9 eJ,dI .u8 gI,dI .u8 eK] (dB r):=by
 refine bJ (rs:=[.tmp 6]) (fun cx hx h0=>?_) func3
 unfold ey at h
 refine rs hx fun K hK=>?_
 refine s1 (d:=.pt 0 0) ka ?_
 refine sa ?_
 refine .nil (hK _ _ ?_)
 iterate 2 refine AW.seq ?_
 obtain⟨bQ,hy,h⟩:=ah h
 refine jn ((PE cx .normal (fun bQ=>[(1,dI .u8 gI),(2,dI .u8 eK),(3,.pt 0 0),(36,dB bQ)]) fun bQ=>⟨[(0,[dI .i64 eJ.vR,dI .i64 eJ.vC,dL aj eJ.vV])],[],1⟩) bQ) ?_ ?_
 replace h:=hy
 refine rq hx fun K hK=>?_
 refine s1 (d:=dG a9 eJ) (cm aG) ?_
 refine scb h uf fun x1 h=>?_
 iterate 2 refine sa ?_
 rcases bP (!x1) with bn|bn
 replace h:=ba bn h
 iterate 3 refine aK rfl rfl bn ?_
 refine s1 (am bn) ?_
 refine sa ?_
 iterate 3 refine aK rfl rfl rfl ?_
 refine s1 (am rfl) ?_
 refine .nil (hK _ _ ?_)
 cases h
 exact pe0 h0 [0]
 replace h:=bb bn h
 refine g1 (d:=dG a9 eJ) bn (cm aG) ?_
 obtain⟨x4,uQ,h⟩:=ah h
 refine g1 bn (c9 rfl (pp uQ) (by simp only[e8,gL,js,lE,iC,iB];exact bh _ _) (lA (av _) lAn) (.inl rfl)) ?_
 refine ga bn ?_
 refine s1 (ax bn) ?_
 refine sa ?_
 rcases bP (decide (x4≠(0:Int))) with ej|ej
 replace h:=ba ej h
 iterate 3 refine aK rfl rfl ej ?_
 refine s1 (am ej) ?_
 refine .nil (hK _ _ ?_)
 cases h
 exact pe0 h0 [0]
 replace h:=bb ej h
 refine ga ej ?_
 refine g1 ej (aP aR) ?_
 refine ga ej ?_
 refine s1 (ax ej) ?_
 refine .nil (hK _ _ ?_)
 cases h
 exact pe0 h0 [0]
 rintro ex tm' hp' ⟨rfl,hw⟩
 refine AW.weak hw (cdh h rfl (fun pg h=>?_) (fun pg h=>?_))
 refine rs hx fun K hK=>?_
 refine scb h dY fun x9 h=>?_
 refine sa ?_
 refine .nil (hK _ _ (AW.ret ?_))
 cases h
 exact rv1
 refine AW.skip (rsd [] hx fun K hK=>?_)
 iterate 3 refine sa ?_
 refine s1 (aP aR) ?_
 obtain⟨Al,h⟩:=az h
 refine s1 (uB Al) ?_
 iterate 3 refine sa ?_
 refine s1 (aP aR) ?_
 obtain⟨DX,h⟩:=az h
 refine s1 (uB DX) ?_
 iterate 2 refine sa ?_
 refine .nil (hK _ _ (AW.seq ?_))
 obtain⟨Ak,h⟩:=az h
 obtain⟨H6,h⟩:=az h
 refine jn (PE cx .normal (fun (_:Unit)=>[(3,.pt 0 0),(7,dI .i64 (Int.tmod (i64.wrap (gI)) eJ.vR)),(8,dI .i64 (Int.tmod (i64.wrap (eK)) eJ.vR)),(9,.pt 1 0)]) (fun (_:Unit)=>⟨[(0,[dI .i64 eJ.vR,dI .i64 eJ.vC,dL aj eJ.vV]),(1,[dI .i64 eJ.vR,dI .i64 eJ.vC,.gw 2 36 ((eJ.vV).length)]),(2,dC ((cW aj).f eJ.vV))],[],3⟩) ()) ?_ ?_
 refine dw (DW.split 4 9 (by decide) ?_ ?_)
 refine DW.split 7 9 (by decide) ?_ ?_
 refine dwg [] [0,1,2,3,4,5,6,7,8,9,10] hx (by kernel_rfl) (by kernel_rfl) (by kernel_rfl) fun K hK=>?_
 dsimp only[dq,lg,lx,List.map]
 refine sa ?_
 refine s1 (aP aR) ?_
 refine sa ?_
 refine s1 (aP aR) ?_
 refine q1 (d:=dF aj ([]:List ak)) (MM tok aJ ay) ?_
 refine sa ?_
 refine s1 (aP aJ) ?_
 refine q1 (d:=.gw 1 36 ((eJ.vV).length)) (hp':=⟨[(1,dC ((cW aj).f eJ.vV)),(0,[dI .i64 eJ.vR,dI .i64 eJ.vC,dL aj eJ.vV])],[],2⟩) (sApN (c:=aj) (m:=eJ.vV) tok aJ ay H6 Ak (tF.l _ _) (.inr rfl)) ?_
 refine s1 (d:=.ag [dI .i64 eJ.vR,dI .i64 eJ.vC,.gw 1 36 ((eJ.vV).length)]) (ez aG) ?_
 refine s1 (d:=.pt 2 0) (cr aG) ?_
 refine s0 (gv (ds':=[dI .i64 eJ.vR,dI .i64 eJ.vC,.gw 1 36 ((eJ.vV).length)]) aG) ?_
 exact .nil (hK _ _ (pe0 h0 [0,2,1]))
 refine dwg [] [0,1,2,3,4,5,6,9,7,8,10] hx (by kernel_rfl) (by kernel_rfl) (by kernel_rfl) fun K hK=>?_
 dsimp only[dq,lg,lx,List.map]
 refine sa ?_
 refine s1 (aP aR) ?_
 refine sa ?_
 refine s1 (aP aR) ?_
 refine q1 (d:=dF aj ([]:List ak)) (MM tok aJ ay) ?_
 refine sa ?_
 refine s1 (aP aJ) ?_
 refine s1 (d:=.pt 1 0) (cr aG) ?_
 refine q1 (d:=.gw 2 36 ((eJ.vV).length)) (hp':=⟨[(2,dC ((cW aj).f eJ.vV)),(1,[dI .i64 (0:Int),dI .i64 (0:Int),dN]),(0,[dI .i64 eJ.vR,dI .i64 eJ.vC,dL aj eJ.vV])],[],3⟩) (sApN (c:=aj) (m:=eJ.vV) tok aJ ay H6 Ak (tF.l _ _) (.inr rfl)) ?_
 refine s1 (d:=.ag [dI .i64 eJ.vR,dI .i64 eJ.vC,.gw 2 36 ((eJ.vV).length)]) (ez aG) ?_
 refine s0 (gv (ds':=[dI .i64 eJ.vR,dI .i64 eJ.vC,.gw 2 36 ((eJ.vV).length)]) aG) ?_
 exact .nil (hK _ _ (pe0 h0 [0,1,2]))
 refine dwg [] [0,1,2,3,5,6,9,4,7,8,10] hx (by kernel_rfl) (by kernel_rfl) (by kernel_rfl) fun K hK=>?_
 dsimp only[dq,lg,lx,List.map]
 refine sa ?_
 refine s1 (aP aR) ?_
 refine sa ?_
 refine s1 (aP aR) ?_
 refine sa ?_
 refine s1 (aP aJ) ?_
 refine s1 (d:=.pt 1 0) (cr aG) ?_
 refine q1 (d:=dF aj ([]:List ak)) (MM tok aJ ay) ?_
 refine q1 (d:=.gw 2 36 ((eJ.vV).length)) (hp':=⟨[(2,dC ((cW aj).f eJ.vV)),(1,[dI .i64 (0:Int),dI .i64 (0:Int),dN]),(0,[dI .i64 eJ.vR,dI .i64 eJ.vC,dL aj eJ.vV])],[],3⟩) (sApN (c:=aj) (m:=eJ.vV) tok aJ ay H6 Ak (tF.l _ _) (.inr rfl)) ?_
 refine s1 (d:=.ag [dI .i64 eJ.vR,dI .i64 eJ.vC,.gw 2 36 ((eJ.vV).length)]) (ez aG) ?_
 refine s0 (gv (ds':=[dI .i64 eJ.vR,dI .i64 eJ.vC,.gw 2 36 ((eJ.vV).length)]) aG) ?_
 exact .nil (hK _ _ (pe0 h0 [0,1,2]))
 rintro ex tm' hp' ⟨rfl,hw⟩
 refine AW.weak hw (AW.seq (rs hx fun K hK=>?_))
 refine sa ?_
 refine s1 (aP aR) ?_
 refine sa ?_
 refine .nil (hK _ _ (AW.block ?_))
 obtain⟨bR,hy,h⟩:=ah h
 refine lp (S:=Int×(List ak)) (X:=(List ak)) (fun (aL,eQ)=>[(3,.pt 0 0),(7,dI .i64 (Int.tmod (i64.wrap (gI)) eJ.vR)),(8,dI .i64 (Int.tmod (i64.wrap (eK)) eJ.vR)),(9,.pt 1 0),(58,dI .i64 eJ.vC),(59,dI .i64 aL)]) (fun (aL,eQ)=>⟨[(0,[dI .i64 eJ.vR,dI .i64 eJ.vC,dL aj eJ.vV]),(1,[dI .i64 eJ.vR,dI .i64 eJ.vC,.gw 2 36 ((eJ.vV).length)]),(2,dC ((cW aj).f eQ))],[],3⟩) (PE cx (.exit 0) (fun bR=>[(3,.pt 0 0),(7,dI .i64 (Int.tmod (i64.wrap (gI)) eJ.vR)),(8,dI .i64 (Int.tmod (i64.wrap (eK)) eJ.vR)),(9,.pt 1 0)]) fun bR=>⟨[(0,[dI .i64 eJ.vR,dI .i64 eJ.vC,dL aj eJ.vV]),(1,[dI .i64 eJ.vR,dI .i64 eJ.vC,.gw 2 36 ((eJ.vV).length)]),(2,dC ((cW aj).f bR))],[],3⟩) hy ?_ ?_ ?_
 exact wk h0 [0,1,2] (wR rfl (wR rfl (wR rfl (wR rfl (wR rfl (wR rfl wTn)))))) (vR rfl (vR rfl (vC rfl wVn))) wLn
 clear hy h
 rintro⟨aL,eQ⟩ y h
 dsimp only[bU] at h
 refine ra hx ?_
 refine AW.seq (cdh h rfl (fun xz h=>?_) (fun xz h=>?_))
 refine AW.skip (AW.seq (AW.block (ra hx ?_)))
 obtain⟨xw,h⟩:=az h
 have yT:(i64.wrap ((i64.wrap ((Int.tmod (i64.wrap (eK)) eJ.vR)*eJ.vC))+aL)).toNat<(eJ.vV).length:=by omega
 obtain⟨hc18,h⟩:=az h
 have hn19:(i64.wrap ((i64.wrap ((Int.tmod (i64.wrap (gI)) eJ.vR)*eJ.vC))+aL)).toNat<(eJ.vV).length:=by omega
 obtain⟨uT,h⟩:=az h
 have B4:(i64.wrap ((i64.wrap ((Int.tmod (i64.wrap (gI)) eJ.vR)*eJ.vC))+aL)).toNat<(eQ).length:=by omega
 obtain⟨nq,B2,h⟩:=ah h
 replace B2:=eG B2
 obtain⟨v5,h⟩:=az h
 have K1:(i64.wrap ((i64.wrap ((Int.tmod (i64.wrap (eK)) eJ.vR)*eJ.vC))+aL)).toNat<(nq).length:=by omega
 obtain⟨x26,B1,h⟩:=ah h
 replace B1:=eG B1
 refine jn (PE cx .normal (fun (_:Unit)=>[(3,.pt 0 0),(7,dI .i64 (Int.tmod (i64.wrap (gI)) eJ.vR)),(8,dI .i64 (Int.tmod (i64.wrap (eK)) eJ.vR)),(9,.pt 1 0),(58,dI .i64 eJ.vC),(59,dI .i64 aL)]) (fun (_:Unit)=>⟨[(0,[dI .i64 eJ.vR,dI .i64 eJ.vC,dL aj eJ.vV]),(1,[dI .i64 eJ.vR,dI .i64 eJ.vC,.gw 2 36 ((eJ.vV).length)]),(2,dC ((cW aj).f x26))],[],3⟩) ()) ?_ ?_
 refine dw (DW.split 9 37 (by decide) ?_ ?_)
 refine DW.split 12 37 (by decide) ?_ ?_
 refine dwg [] [0,1,2,3,4,5,6,7,8,9,10,11,12,13,14,15,16,17,18,19,20,21,22,23,24,25,26,27,28,29,30,31,32,33,34,35,36,37,38,39] hx (by kernel_rfl) (by kernel_rfl) (by kernel_rfl) fun K hK=>?_
 dsimp only[dq,lg,lx,List.map]
 refine sa ?_
 refine s1 (aP aJ) ?_
 iterate 2 refine sa ?_
 refine s1 (aP aR) ?_
 iterate 4 refine sa ?_
 refine s1 (aP aJ) ?_
 iterate 2 refine sa ?_
 refine s1 (aP aR) ?_
 iterate 4 refine sa ?_
 refine s1 (aP aJ) ?_
 iterate 2 refine sa ?_
 refine s1 (aP aR) ?_
 iterate 3 refine sa ?_
 refine s1 (eh xw aJ ay) ?_
 refine s1 (d:=dG aj ((eJ.vV)[(i64.wrap ((i64.wrap ((Int.tmod (i64.wrap (eK)) eJ.vR)*eJ.vC))+aL)).toNat]!)) (kN (c:=aj) (l:=eJ.vV) (n:=(i64.wrap ((i64.wrap ((Int.tmod (i64.wrap (eK)) eJ.vR)*eJ.vC))+aL)).toNat) (o:=0) ay yT (fm _ _ rfl)) ?_
 refine sa ?_
 refine s1 (aP aJ) ?_
 iterate 2 refine sa ?_
 refine s1 (aP aR) ?_
 iterate 3 refine sa ?_
 refine s1 (eh hc18 aJ ay) ?_
 refine s1 (d:=dG aj ((eJ.vV)[(i64.wrap ((i64.wrap ((Int.tmod (i64.wrap (gI)) eJ.vR)*eJ.vC))+aL)).toNat]!)) (kN (c:=aj) (l:=eJ.vV) (n:=(i64.wrap ((i64.wrap ((Int.tmod (i64.wrap (gI)) eJ.vR)*eJ.vC))+aL)).toNat) (o:=0) ay hn19 (fm _ _ rfl)) ?_
 refine sG (om ⟨uT.1,uT.2.1⟩ aJ ay) ?_
 refine s0 (sf (b':=(eJ.vV)[(i64.wrap ((i64.wrap ((Int.tmod (i64.wrap (eK)) eJ.vR)*eJ.vC))+aL)).toNat]!) (an.seqW aj eQ ((i64.wrap ((i64.wrap ((Int.tmod (i64.wrap (gI)) eJ.vR)*eJ.vC))+aL)).toNat) B4) ay B2) ?_
 refine sG (om ⟨v5.1,v5.2.1⟩ aJ ay) ?_
 refine s0 (sf (b':=(eJ.vV)[(i64.wrap ((i64.wrap ((Int.tmod (i64.wrap (gI)) eJ.vR)*eJ.vC))+aL)).toNat]!) (an.seqW aj nq ((i64.wrap ((i64.wrap ((Int.tmod (i64.wrap (eK)) eJ.vR)*eJ.vC))+aL)).toNat) K1) ay B1) ?_
 exact .nil (hK _ _ (pe0 h0 [0,1,2]))
 refine dwg [] [0,1,2,3,4,5,6,7,8,9,10,11,14,16,17,18,19,20,21,22,23,24,25,26,27,28,29,30,31,32,33,34,35,36,37,12,13,15,38,39] hx (by kernel_rfl) (by kernel_rfl) (by kernel_rfl) fun K hK=>?_
 dsimp only[dq,lg,lx,List.map]
 refine sa ?_
 refine s1 (aP aJ) ?_
 iterate 2 refine sa ?_
 refine s1 (aP aR) ?_
 iterate 4 refine sa ?_
 refine s1 (aP aJ) ?_
 iterate 4 refine sa ?_
 refine s1 (aP aJ) ?_
 iterate 2 refine sa ?_
 refine s1 (aP aR) ?_
 iterate 3 refine sa ?_
 refine s1 (eh xw aJ ay) ?_
 refine s1 (d:=dG aj ((eJ.vV)[(i64.wrap ((i64.wrap ((Int.tmod (i64.wrap (eK)) eJ.vR)*eJ.vC))+aL)).toNat]!)) (kN (c:=aj) (l:=eJ.vV) (n:=(i64.wrap ((i64.wrap ((Int.tmod (i64.wrap (eK)) eJ.vR)*eJ.vC))+aL)).toNat) (o:=0) ay yT (fm _ _ rfl)) ?_
 refine sa ?_
 refine s1 (aP aJ) ?_
 iterate 2 refine sa ?_
 refine s1 (aP aR) ?_
 iterate 3 refine sa ?_
 refine s1 (eh hc18 aJ ay) ?_
 refine s1 (d:=dG aj ((eJ.vV)[(i64.wrap ((i64.wrap ((Int.tmod (i64.wrap (gI)) eJ.vR)*eJ.vC))+aL)).toNat]!)) (kN (c:=aj) (l:=eJ.vV) (n:=(i64.wrap ((i64.wrap ((Int.tmod (i64.wrap (gI)) eJ.vR)*eJ.vC))+aL)).toNat) (o:=0) ay hn19 (fm _ _ rfl)) ?_
 refine sG (om ⟨uT.1,uT.2.1⟩ aJ ay) ?_
 refine s0 (sf (b':=(eJ.vV)[(i64.wrap ((i64.wrap ((Int.tmod (i64.wrap (eK)) eJ.vR)*eJ.vC))+aL)).toNat]!) (an.seqW aj eQ ((i64.wrap ((i64.wrap ((Int.tmod (i64.wrap (gI)) eJ.vR)*eJ.vC))+aL)).toNat) B4) ay B2) ?_
 refine s1 (aP aR) ?_
 iterate 2 refine sa ?_
 refine sG (om ⟨v5.1,v5.2.1⟩ aJ ay) ?_
 refine s0 (sf (b':=(eJ.vV)[(i64.wrap ((i64.wrap ((Int.tmod (i64.wrap (gI)) eJ.vR)*eJ.vC))+aL)).toNat]!) (an.seqW aj nq ((i64.wrap ((i64.wrap ((Int.tmod (i64.wrap (eK)) eJ.vR)*eJ.vC))+aL)).toNat) K1) ay B1) ?_
 exact .nil (hK _ _ (pe0 h0 [0,1,2]))
 refine DW.split 12 37 (by decide) ?_ ?_
 refine dwg [] [0,1,2,3,4,5,6,7,8,10,11,12,13,14,15,16,17,18,19,20,21,22,23,24,25,26,27,28,29,30,31,32,33,34,35,36,37,9,38,39] hx (by kernel_rfl) (by kernel_rfl) (by kernel_rfl) fun K hK=>?_
 dsimp only[dq,lg,lx,List.map]
 refine sa ?_
 refine s1 (aP aJ) ?_
 iterate 2 refine sa ?_
 refine s1 (aP aR) ?_
 iterate 6 refine sa ?_
 refine s1 (aP aR) ?_
 iterate 4 refine sa ?_
 refine s1 (aP aJ) ?_
 iterate 2 refine sa ?_
 refine s1 (aP aR) ?_
 iterate 3 refine sa ?_
 refine s1 (eh xw aJ ay) ?_
 refine s1 (d:=dG aj ((eJ.vV)[(i64.wrap ((i64.wrap ((Int.tmod (i64.wrap (eK)) eJ.vR)*eJ.vC))+aL)).toNat]!)) (kN (c:=aj) (l:=eJ.vV) (n:=(i64.wrap ((i64.wrap ((Int.tmod (i64.wrap (eK)) eJ.vR)*eJ.vC))+aL)).toNat) (o:=0) ay yT (fm _ _ rfl)) ?_
 refine sa ?_
 refine s1 (aP aJ) ?_
 iterate 2 refine sa ?_
 refine s1 (aP aR) ?_
 iterate 3 refine sa ?_
 refine s1 (eh hc18 aJ ay) ?_
 refine s1 (d:=dG aj ((eJ.vV)[(i64.wrap ((i64.wrap ((Int.tmod (i64.wrap (gI)) eJ.vR)*eJ.vC))+aL)).toNat]!)) (kN (c:=aj) (l:=eJ.vV) (n:=(i64.wrap ((i64.wrap ((Int.tmod (i64.wrap (gI)) eJ.vR)*eJ.vC))+aL)).toNat) (o:=0) ay hn19 (fm _ _ rfl)) ?_
 refine sG (om ⟨uT.1,uT.2.1⟩ aJ ay) ?_
 refine s0 (sf (b':=(eJ.vV)[(i64.wrap ((i64.wrap ((Int.tmod (i64.wrap (eK)) eJ.vR)*eJ.vC))+aL)).toNat]!) (an.seqW aj eQ ((i64.wrap ((i64.wrap ((Int.tmod (i64.wrap (gI)) eJ.vR)*eJ.vC))+aL)).toNat) B4) ay B2) ?_
 refine s1 (aP aJ) ?_
 refine sG (om ⟨v5.1,v5.2.1⟩ aJ ay) ?_
 refine s0 (sf (b':=(eJ.vV)[(i64.wrap ((i64.wrap ((Int.tmod (i64.wrap (gI)) eJ.vR)*eJ.vC))+aL)).toNat]!) (an.seqW aj nq ((i64.wrap ((i64.wrap ((Int.tmod (i64.wrap (eK)) eJ.vR)*eJ.vC))+aL)).toNat) K1) ay B1) ?_
 exact .nil (hK _ _ (pe0 h0 [0,1,2]))
 refine dwg [] [0,1,2,3,4,5,6,7,8,10,11,14,16,17,18,19,20,21,22,23,24,25,26,27,28,29,30,31,32,33,34,35,36,37,9,12,13,15,38,39] hx (by kernel_rfl) (by kernel_rfl) (by kernel_rfl) fun K hK=>?_
 dsimp only[dq,lg,lx,List.map]
 refine sa ?_
 refine s1 (aP aJ) ?_
 iterate 2 refine sa ?_
 refine s1 (aP aR) ?_
 iterate 8 refine sa ?_
 refine s1 (aP aJ) ?_
 iterate 2 refine sa ?_
 refine s1 (aP aR) ?_
 iterate 3 refine sa ?_
 refine s1 (eh xw aJ ay) ?_
 refine s1 (d:=dG aj ((eJ.vV)[(i64.wrap ((i64.wrap ((Int.tmod (i64.wrap (eK)) eJ.vR)*eJ.vC))+aL)).toNat]!)) (kN (c:=aj) (l:=eJ.vV) (n:=(i64.wrap ((i64.wrap ((Int.tmod (i64.wrap (eK)) eJ.vR)*eJ.vC))+aL)).toNat) (o:=0) ay yT (fm _ _ rfl)) ?_
 refine sa ?_
 refine s1 (aP aJ) ?_
 iterate 2 refine sa ?_
 refine s1 (aP aR) ?_
 iterate 3 refine sa ?_
 refine s1 (eh hc18 aJ ay) ?_
 refine s1 (d:=dG aj ((eJ.vV)[(i64.wrap ((i64.wrap ((Int.tmod (i64.wrap (gI)) eJ.vR)*eJ.vC))+aL)).toNat]!)) (kN (c:=aj) (l:=eJ.vV) (n:=(i64.wrap ((i64.wrap ((Int.tmod (i64.wrap (gI)) eJ.vR)*eJ.vC))+aL)).toNat) (o:=0) ay hn19 (fm _ _ rfl)) ?_
 refine sG (om ⟨uT.1,uT.2.1⟩ aJ ay) ?_
 refine s0 (sf (b':=(eJ.vV)[(i64.wrap ((i64.wrap ((Int.tmod (i64.wrap (eK)) eJ.vR)*eJ.vC))+aL)).toNat]!) (an.seqW aj eQ ((i64.wrap ((i64.wrap ((Int.tmod (i64.wrap (gI)) eJ.vR)*eJ.vC))+aL)).toNat) B4) ay B2) ?_
 refine s1 (aP aJ) ?_
 refine s1 (aP aR) ?_
 iterate 2 refine sa ?_
 refine sG (om ⟨v5.1,v5.2.1⟩ aJ ay) ?_
 refine s0 (sf (b':=(eJ.vV)[(i64.wrap ((i64.wrap ((Int.tmod (i64.wrap (gI)) eJ.vR)*eJ.vC))+aL)).toNat]!) (an.seqW aj nq ((i64.wrap ((i64.wrap ((Int.tmod (i64.wrap (eK)) eJ.vR)*eJ.vC))+aL)).toNat) K1) ay B1) ?_
 exact .nil (hK _ _ (pe0 h0 [0,1,2]))
 rintro ex tm' hp' ⟨rfl,hw⟩
 refine AW.weak hw (rb hx ?_)
 cases h
 exact PS.l (pe0 h0 [0,1,2])
 refine AW.exit ?_
 try dsimp only
 try simp only[bk,reduceIte,Nat.reduceEqDiff,reduceCtorEq]
 cases h
 exact PS.r ⟨by nofun,PE.i (wk h0 [0,1,2] (wR rfl (wR rfl (wR rfl (wR rfl wTn)))) (vR rfl (vR rfl (vC rfl wVn))) wLn)⟩
 rintro ex tm' hp' ⟨rfl,hw⟩
 try dsimp only
 try simp only[bk,reduceIte,Nat.reduceEqDiff,reduceCtorEq]
 refine AW.weak hw (rs hx fun K hK=>?_)
 refine s1 (d:=dG a9 eJ) (cm aG) ?_
 refine scb h eN fun oP h=>?_
 iterate 4 refine sa ?_
 refine s1 (d:=.pt 3 0) (cr aG) ?_
 refine s0 (gv (ds':=[dI .i64 oP.1.vR,dI .i64 oP.1.vC,dL aj oP.1.vV]) aG) ?_
 iterate 2 refine sa ?_
 refine .nil (hK _ _ (rs hx fun K hK=>?_))
 refine s1 (d:=.ag [dI .i64 eJ.vR,dI .i64 eJ.vC,.gw 2 36 ((eJ.vV).length)]) (cm aG) ?_
 obtain⟨hc31,h⟩:=az h
 refine fzOD aj (n:=(eJ.vV).length) 2 [(108,.ag [dI .i64 eJ.vR,dI .i64 eJ.vC,dL aj bR])] [(1,[dI .i64 eJ.vR,dI .i64 eJ.vC,dL aj bR])] hc31 ?_ (ftc rfl (.ag (.cons (.keep _) (.cons (.keep _) (.cons (.hitG) .nil)))) ftn) (fvc (by decide) rfl (.cons (.keep _) (.cons (.keep _) (.cons (.hitG) .nil))) fvn)
 obtain⟨BD,hx33,h⟩:=ah h
 refine s1 (c9 rfl (eN hx33) rfl (lA (oJ (wc (ly _) (wc (ly _) (wc (ly _) wcn)))) lAn) (.inr ⟨_,rfl⟩)) ?_
 iterate 4 refine sa ?_
 refine s1 (d:=.pt 4 0) (cr aG) ?_
 refine s0 (gv (ds':=[dI .i64 BD.1.vR,dI .i64 BD.1.vC,dL aj BD.1.vV]) aG) ?_
 iterate 2 refine sa ?_
 refine .nil (hK _ _ ?_)
 iterate 2 refine AW.seq ?_
 obtain⟨nd,hy,h⟩:=ah h
 refine jn ((PE cx .normal (fun nd=>[(3,.pt 0 0),(7,dI .i64 (Int.tmod (i64.wrap (gI)) eJ.vR)),(8,dI .i64 (Int.tmod (i64.wrap (eK)) eJ.vR)),(9,.pt 1 0),(11,.pt 2 0),(12,dL (cI .i64) oP.2.1),(14,.pt 3 0),(15,dL (cI .i64) BD.2.1),(118,dB nd)]) fun nd=>⟨[(0,[dI .i64 eJ.vR,dI .i64 eJ.vC,dL aj eJ.vV]),(1,[dI .i64 eJ.vR,dI .i64 eJ.vC,dL aj bR]),(2,[dI .i64 oP.1.vR,dI .i64 oP.1.vC,dL aj oP.1.vV]),(3,[dI .i64 BD.1.vR,dI .i64 BD.1.vC,dL aj BD.1.vV])],[],4⟩) nd) ?_ ?_
 replace h:=hy
 refine rq hx fun K hK=>?_
 iterate 3 refine sa ?_
 rcases bP (decide (oP.2.2≠(0:Int))) with Ie|Ie
 replace h:=ba Ie h
 iterate 2 refine aK rfl rfl Ie ?_
 refine s1 (am Ie) ?_
 refine .nil (hK _ _ ?_)
 cases h
 exact pe0 h0 [0,1,3,4]
 replace h:=bb Ie h
 iterate 2 refine ga Ie ?_
 refine s1 (ax Ie) ?_
 refine .nil (hK _ _ ?_)
 cases h
 exact pe0 h0 [0,1,3,4]
 rintro ex tm' hp' ⟨rfl,hw⟩
 refine AW.weak hw (cdh h rfl (fun hb36 h=>?_) (fun hb36 h=>?_))
 refine rs hx fun K hK=>?_
 refine scb h dY fun wI h=>?_
 refine sa ?_
 refine .nil (hK _ _ (AW.ret ?_))
 cases h
 exact rv1
 refine AW.skip (rs hx fun K hK=>?_)
 refine s1 (d:=dG a9 oP.1) (cm aG) ?_
 refine scb h eN fun yf h=>?_
 iterate 4 refine sa ?_
 refine s1 (d:=.pt 4 0) (cr aG) ?_
 refine s0 (gv (ds':=[dI .i64 yf.1.vR,dI .i64 yf.1.vC,dL aj yf.1.vV]) aG) ?_
 iterate 2 refine sa ?_
 refine .nil (hK _ _ ?_)
 iterate 2 refine AW.seq ?_
 obtain⟨rk,hy,h⟩:=ah h
 refine jn ((PE cx .normal (fun rk=>[(3,.pt 0 0),(7,dI .i64 (Int.tmod (i64.wrap (gI)) eJ.vR)),(8,dI .i64 (Int.tmod (i64.wrap (eK)) eJ.vR)),(9,.pt 1 0),(151,dB rk)]) fun rk=>⟨[(0,[dI .i64 eJ.vR,dI .i64 eJ.vC,dL aj eJ.vV]),(1,[dI .i64 eJ.vR,dI .i64 eJ.vC,dL aj bR])],[],2⟩) rk) ?_ ?_
 replace h:=hy
 refine rq hx fun K hK=>?_
 refine s1 (d:=dG a9 oP.1) (cm aG) ?_
 refine s1 (d:=dG a9 BD.1) (cm aG) ?_
 refine scb h kP fun x41 h=>?_
 iterate 2 refine sa ?_
 rcases bP (!x41) with rH|rH
 replace h:=ba rH h
 iterate 4 refine aK rfl rfl rH ?_
 refine s1 (am rH) ?_
 refine sa ?_
 iterate 2 refine aK rfl rfl rfl ?_
 refine s1 (am rfl) ?_
 refine sa ?_
 iterate 4 refine aK rfl rfl rfl ?_
 refine s1 (am rfl) ?_
 refine sa ?_
 iterate 4 refine aK rfl rfl rfl ?_
 refine s1 (am rfl) ?_
 refine .nil (hK _ _ ?_)
 cases h
 exact pe0 h0 [0,1]
 replace h:=bb rH h
 iterate 2 refine ga rH ?_
 obtain⟨x44,hx45,h⟩:=ah h
 refine g1 rH (c9 rfl (oR hx45) rfl (lA (av _) (lA (av _) lAn)) (.inl rfl)) ?_
 refine ga rH ?_
 refine s1 (ax rH) ?_
 refine sa ?_
 rcases bP (!x44) with s8|s8
 replace h:=ba s8 h
 iterate 2 refine aK rfl rfl s8 ?_
 refine s1 (am s8) ?_
 refine sa ?_
 iterate 4 refine aK rfl rfl rfl ?_
 refine s1 (am rfl) ?_
 refine sa ?_
 iterate 4 refine aK rfl rfl rfl ?_
 refine s1 (am rfl) ?_
 refine .nil (hK _ _ ?_)
 cases h
 exact pe0 h0 [0,1]
 replace h:=bb s8 h
 iterate 2 refine ga s8 ?_
 refine s1 (ax s8) ?_
 refine sa ?_
 rcases bP (decide (yf.2.2≠(0:Int))) with qX|qX
 replace h:=ba qX h
 iterate 4 refine aK rfl rfl qX ?_
 refine s1 (am qX) ?_
 refine sa ?_
 iterate 4 refine aK rfl rfl rfl ?_
 refine s1 (am rfl) ?_
 refine .nil (hK _ _ ?_)
 cases h
 exact pe0 h0 [0,1]
 replace h:=bb qX h
 refine g1 (d:=dG a9 oP.1) qX (cm aG) ?_
 refine g1 (d:=dG a9 yf.1) qX (cm aG) ?_
 obtain⟨Lx,hx49,h⟩:=ah h
 refine g1 qX (c9 rfl (kP hx49) (by simp only[e8,gL,js,lE,iC,iB];exact⟨bh _ _,bh _ _⟩) (lA (av _) (lA (av _) lAn)) (.inl rfl)) ?_
 refine ga qX ?_
 refine s1 (ax qX) ?_
 refine sa ?_
 rcases bP (!Lx) with s7|s7
 replace h:=ba s7 h
 iterate 4 refine aK rfl rfl s7 ?_
 refine s1 (am s7) ?_
 refine .nil (hK _ _ ?_)
 cases h
 exact pe0 h0 [0,1]
 replace h:=bb s7 h
 iterate 2 refine ga s7 ?_
 obtain⟨x51,hx52,h⟩:=ah h
 refine g1 s7 (c9 rfl (oR hx52) rfl (lA (av _) (lA (av _) lAn)) (.inl rfl)) ?_
 refine ga s7 ?_
 refine s1 (ax s7) ?_
 refine .nil (hK _ _ ?_)
 cases h
 exact pe0 h0 [0,1]
 rintro ex tm' hp' ⟨rfl,hw⟩
 refine AW.weak hw (cdh h rfl (fun D2 h=>?_) (fun D2 h=>?_))
 refine ra hx ?_
 refine AW.ret ?_
 cases h
 exact rv1
 refine AW.skip (AW.seq (rs hx fun K hK=>?_))
 refine sa ?_
 refine s1 (aP aR) ?_
 refine sa ?_
 refine s1 (aP aR) ?_
 refine sa ?_
 refine .nil (hK _ _ (cdh h rfl (fun hb55 h=>?_) (fun hb55 h=>?_)))
 refine rs hx fun K hK=>?_
 refine scb h dY fun x56 h=>?_
 refine sa ?_
 refine .nil (hK _ _ (AW.ret ?_))
 cases h
 exact rv1
 refine AW.skip (rs hx fun K hK=>?_)
 refine s1 (d:=dG a9 eJ) (cm aG) ?_
 refine scb h kQ fun x58 h=>?_
 iterate 3 refine sa ?_
 refine s1 (bq (F:=aj.f cU) ay) ?_
 refine s0 (aO (b':=x58.1) (an.id _ _) ay) ?_
 refine sa ?_
 refine .nil (hK _ _ (rs hx fun K hK=>?_))
 refine s1 (d:=dG a9 (⟨eJ.vR,eJ.vC,bR⟩:aE)) (cm aG) ?_
 refine scb h kQ fun LO h=>?_
 iterate 3 refine sa ?_
 refine s1 (bq (F:=aj.f cU) ay) ?_
 refine s0 (aO (b':=LO.1) (an.id _ _) ay) ?_
 refine sa ?_
 refine .nil (hK _ _ ?_)
 iterate 2 refine AW.seq ?_
 obtain⟨rj,hy,h⟩:=ah h
 refine jn ((PE cx .normal (fun rj=>[(7,dI .i64 (Int.tmod (i64.wrap (gI)) eJ.vR)),(8,dI .i64 (Int.tmod (i64.wrap (eK)) eJ.vR)),(20,.pt 0 0),(22,.pt 1 0),(173,dB rj)]) fun rj=>⟨[(0,dC (aj.f x58.1)),(1,dC (aj.f LO.1))],[],2⟩) rj) ?_ ?_
 replace h:=hy
 refine rq hx fun K hK=>?_
 iterate 3 refine sa ?_
 rcases bP (decide (x58.2≠(0:Int))) with H7|H7
 replace h:=ba H7 h
 iterate 2 refine aK rfl rfl H7 ?_
 refine s1 (am H7) ?_
 refine .nil (hK _ _ ?_)
 cases h
 exact pe0 h0 [2,3]
 replace h:=bb H7 h
 iterate 2 refine ga H7 ?_
 refine s1 (ax H7) ?_
 refine .nil (hK _ _ ?_)
 cases h
 exact pe0 h0 [2,3]
 rintro ex tm' hp' ⟨rfl,hw⟩
 refine AW.weak hw (cdh h rfl (fun hb64 h=>?_) (fun hb64 h=>?_))
 refine rs hx fun K hK=>?_
 refine scb h dY fun x65 h=>?_
 refine sa ?_
 refine .nil (hK _ _ (AW.ret ?_))
 cases h
 exact rv1
 refine AW.skip (AW.seq ?_)
 obtain⟨pU,hy,h⟩:=ah h
 refine jn ((PE cx .normal (fun pU=>[(20,.pt 0 0),(22,.pt 1 0)]) fun pU=>⟨[(0,dC (aj.f x58.1)),(1,dC (aj.f pU))],[],2⟩) pU) ?_ ?_
 replace h:=hy
 refine ra hx ?_
 refine cdh h rfl (fun hb67 h=>?_) (fun hb67 h=>?_)
 refine rq hx fun K hK=>?_
 refine s1 (d:=dG aj LO.1) (aD (an.id _ _) ay) ?_
 refine scb h p9 fun x68 h=>?_
 refine s0 (aO (b':=x68) (an.id _ _) ay) ?_
 refine .nil (hK _ _ ?_)
 cases h
 exact pe0 h0 [0,1]
 refine AW.skip ?_
 cases h
 exact pe0 h0 [0,1]
 rintro ex tm' hp' ⟨rfl,hw⟩
 refine AW.weak hw (AW.seq ?_)
 obtain⟨ri,hy,h⟩:=ah h
 refine jn ((PE cx .normal (fun ri=>[(6,dB ri)]) fun ri=>⟨[],[],0⟩) ri) ?_ ?_
 replace h:=hy
 refine rq hx fun K hK=>?_
 refine scb h dY fun x71 h=>?_
 refine sa ?_
 rcases bP x71 with DZ|DZ
 replace h:=ba DZ h
 refine g1 (d:=dG aj x58.1) DZ (aD (an.id _ _) ay) ?_
 refine g1 (d:=dG aj pU) DZ (aD (an.id _ _) ay) ?_
 refine g1 DZ (sh tok 4 (by decide) nP ay) ?_
 refine s1 (am DZ) ?_
 refine sa ?_
 refine .nil (hK _ _ ?_)
 cases h
 exact pe0 h0 []
 replace h:=bb DZ h
 iterate 3 refine aK rfl rfl DZ ?_
 refine s1 (ax DZ) ?_
 refine sa ?_
 refine .nil (hK _ _ ?_)
 cases h
 exact pe0 h0 []
 rintro ex tm' hp' ⟨rfl,hw⟩
 refine AW.weak hw (AW.ret ?_)
 cases h
 exact rv1
def dm(eJ:aE):Unit→Option (Unit⊕Unit):=fun ()=>cnd (decide ((0:Int)<eJ.vC)) (none) (some (.inr ()))
def cp(eJ:aE)(gI:Int)(eK:Int):Option Bool:=bnd (S:=Bool) (bnd (jR eJ) fun x1=>cnd (!x1) (some (true)) (bnd (dv eJ) fun x4=>cnd (decide (x4≠(0:Int))) (some (true)) (some (decide (eJ.vR=(0:Int)))))) fun bQ=>cnd bQ (bnd (cb) fun x9=>some x9) (gd (eJ.vR≠0) (gd (eJ.vR≠0) (gd ((([]:List ak)++eJ.vV).length*136≤140737488355328) (bnd (a7 (dm eJ) ()) fun ()=>bnd (bY eJ) fun nq=>bnd (bY (⟨eJ.vR,eJ.vC,([]:List ak)++eJ.vV⟩:aE)) fun wB=>bnd (S:=Bool) (cnd (decide (nq.2.2≠(0:Int))) (some (true)) (some (decide (wB.2.2≠(0:Int))))) fun nd=>cnd nd (bnd (cb) fun oP=>some oP) (bnd (bY nq.1) fun Dc=>bnd (S:=Bool) (bnd (dK nq.1 wB.1) fun wJ=>cnd (!wJ) (some (true)) (bnd (ir nq.2.1 wB.2.1) fun x36=>cnd (!x36) (some (true)) (cnd (decide (Dc.2.2≠(0:Int))) (some (true)) (bnd (dK nq.1 Dc.1) fun x40=>cnd (!x40) (some (true)) (bnd (ir nq.2.1 Dc.2.1) fun x43=>some (!x43)))))) fun rk=>cnd rk (some false) (cnd (decide (eJ.vR≠eJ.vC)) (bnd (cb) fun Lx=>some Lx) (bnd (fB eJ) fun x50=>bnd (fB (⟨eJ.vR,eJ.vC,([]:List ak)++eJ.vV⟩:aE)) fun x52=>bnd (S:=Bool) (cnd (decide (x50.2≠(0:Int))) (some (true)) (some (decide (x52.2≠(0:Int))))) fun rj=>cnd rj (bnd (cb) fun x57=>some x57) (bnd (S:=ak) (cnd (decide ((Int.tmod (i64.wrap (gI)) eJ.vR)≠(Int.tmod (i64.wrap (eK)) eJ.vR))) (bnd (ij x52.1) fun LO=>some (LO)) (some (x52.1))) fun pU=>bnd (S:=Bool) (bnd (cb) fun x63=>cnd x63 (some (decide (x50.1=pU))) (some (false))) fun ri=>some ri))))))))
theorem oT {eJ:aE}{gI:Int}{eK:Int}{r:Bool}(h:cp eJ gI eK=some r):aB prog 3 [dG a9 eJ,dI .u8 gI,dI .u8 eK] (dB r):=by
 refine bJ (rs:=[.tmp 6]) (fun cx hx h0=>?_) func3
 unfold cp at h
 refine rs hx fun K hK=>?_
 refine s1 (d:=.pt 0 0) ka ?_
 refine sa ?_
 refine .nil (hK _ _ ?_)
 iterate 2 refine AW.seq ?_
 obtain⟨bQ,hy,h⟩:=ah h
 refine jn ((PE cx .normal (fun bQ=>[(1,dI .u8 gI),(2,dI .u8 eK),(3,.pt 0 0),(36,dB bQ)]) fun bQ=>⟨[(0,[dI .i64 eJ.vR,dI .i64 eJ.vC,dL aj eJ.vV])],[],1⟩) bQ) ?_ ?_
 replace h:=hy
 refine rq hx fun K hK=>?_
 refine s1 (d:=dG a9 eJ) (cm aG) ?_
 refine scb h uf fun x1 h=>?_
 iterate 2 refine sa ?_
 rcases bP (!x1) with bn|bn
 replace h:=ba bn h
 iterate 3 refine aK rfl rfl bn ?_
 refine s1 (am bn) ?_
 refine sa ?_
 iterate 3 refine aK rfl rfl rfl ?_
 refine s1 (am rfl) ?_
 refine .nil (hK _ _ ?_)
 cases h
 exact pe0 h0 [0]
 replace h:=bb bn h
 refine g1 (d:=dG a9 eJ) bn (cm aG) ?_
 obtain⟨x4,uQ,h⟩:=ah h
 refine g1 bn (c9 rfl (pp uQ) (by simp only[e8,gL,js,lE,iC,iB];exact bh _ _) (lA (av _) lAn) (.inl rfl)) ?_
 refine ga bn ?_
 refine s1 (ax bn) ?_
 refine sa ?_
 rcases bP (decide (x4≠(0:Int))) with ej|ej
 replace h:=ba ej h
 iterate 3 refine aK rfl rfl ej ?_
 refine s1 (am ej) ?_
 refine .nil (hK _ _ ?_)
 cases h
 exact pe0 h0 [0]
 replace h:=bb ej h
 refine ga ej ?_
 refine g1 ej (aP aR) ?_
 refine ga ej ?_
 refine s1 (ax ej) ?_
 refine .nil (hK _ _ ?_)
 cases h
 exact pe0 h0 [0]
 rintro ex tm' hp' ⟨rfl,hw⟩
 refine AW.weak hw (cdh h rfl (fun pg h=>?_) (fun pg h=>?_))
 refine rs hx fun K hK=>?_
 refine scb h dY fun x9 h=>?_
 refine sa ?_
 refine .nil (hK _ _ (AW.ret ?_))
 cases h
 exact rv1
 refine AW.skip (rsd [] hx fun K hK=>?_)
 iterate 3 refine sa ?_
 refine s1 (aP aR) ?_
 obtain⟨Al,h⟩:=az h
 refine s1 (uB Al) ?_
 iterate 3 refine sa ?_
 refine s1 (aP aR) ?_
 obtain⟨DX,h⟩:=az h
 refine s1 (uB DX) ?_
 iterate 2 refine sa ?_
 refine .nil (hK _ _ (AW.seq ?_))
 obtain⟨Ak,h⟩:=az h
 refine jn (PE cx .normal (fun (_:Unit)=>[(3,.pt 0 0),(7,dI .i64 (Int.tmod (i64.wrap (gI)) eJ.vR)),(8,dI .i64 (Int.tmod (i64.wrap (eK)) eJ.vR)),(9,.pt 1 0)]) (fun (_:Unit)=>⟨[(0,[dI .i64 eJ.vR,dI .i64 eJ.vC,dL aj eJ.vV]),(1,[dI .i64 eJ.vR,dI .i64 eJ.vC,dL aj (([]:List ak)++eJ.vV)])],[],2⟩) ()) ?_ ?_
 refine dw (DW.split 4 9 (by decide) ?_ ?_)
 refine DW.split 7 9 (by decide) ?_ ?_
 refine dwg [] [0,1,2,3,4,5,6,7,8,9,10] hx (by kernel_rfl) (by kernel_rfl) (by kernel_rfl) fun K hK=>?_
 dsimp only[dq,lg,lx,List.map]
 refine sa ?_
 refine s1 (aP aR) ?_
 refine sa ?_
 refine s1 (aP aR) ?_
 refine s1 (d:=dO 1 aj ([]:List ak)) (IW aJ ay) ?_
 refine sa ?_
 refine s1 (aP aJ) ?_
 refine s1 (d:=dO 1 aj (([]:List ak)++eJ.vV)) (j4 aJ ay Ak) ?_
 refine s2 (d2:=dG a9 (⟨eJ.vR,eJ.vC,([]:List ak)++eJ.vV⟩:aE)) (ez (es:=[dI .i64 eJ.vR,dI .i64 eJ.vC,dO 1 aj (([]:List ak)++eJ.vV)]) aG) (oJ (wc (ly _) (wc (ly _) (wc (HH _) wcn)))) ?_
 refine s1 (d:=.pt 2 0) (cr aG) ?_
 refine s0 (gv (ds':=[dI .i64 eJ.vR,dI .i64 eJ.vC,dL aj (([]:List ak)++eJ.vV)]) aG) ?_
 exact .nil (hK _ _ (pe0 h0 [0,2]))
 refine dwg [] [0,1,2,3,4,5,6,9,7,8,10] hx (by kernel_rfl) (by kernel_rfl) (by kernel_rfl) fun K hK=>?_
 dsimp only[dq,lg,lx,List.map]
 refine sa ?_
 refine s1 (aP aR) ?_
 refine sa ?_
 refine s1 (aP aR) ?_
 refine s1 (d:=dO 1 aj ([]:List ak)) (IW aJ ay) ?_
 refine sa ?_
 refine s1 (aP aJ) ?_
 refine s1 (d:=.pt 2 0) (cr aG) ?_
 refine s1 (d:=dO 1 aj (([]:List ak)++eJ.vV)) (j4 aJ ay Ak) ?_
 refine s2 (d2:=dG a9 (⟨eJ.vR,eJ.vC,([]:List ak)++eJ.vV⟩:aE)) (ez (es:=[dI .i64 eJ.vR,dI .i64 eJ.vC,dO 1 aj (([]:List ak)++eJ.vV)]) aG) (oJ (wc (ly _) (wc (ly _) (wc (HH _) wcn)))) ?_
 refine s0 (gv (ds':=[dI .i64 eJ.vR,dI .i64 eJ.vC,dL aj (([]:List ak)++eJ.vV)]) aG) ?_
 exact .nil (hK _ _ (pe0 h0 [0,2]))
 refine dwg [] [0,1,2,3,5,6,9,4,7,8,10] hx (by kernel_rfl) (by kernel_rfl) (by kernel_rfl) fun K hK=>?_
 dsimp only[dq,lg,lx,List.map]
 refine sa ?_
 refine s1 (aP aR) ?_
 refine sa ?_
 refine s1 (aP aR) ?_
 refine sa ?_
 refine s1 (aP aJ) ?_
 refine s1 (d:=.pt 1 0) (cr aG) ?_
 refine s1 (d:=dO 2 aj ([]:List ak)) (IW aJ ay) ?_
 refine s1 (d:=dO 2 aj (([]:List ak)++eJ.vV)) (j4 aJ ay Ak) ?_
 refine s2 (d2:=dG a9 (⟨eJ.vR,eJ.vC,([]:List ak)++eJ.vV⟩:aE)) (ez (es:=[dI .i64 eJ.vR,dI .i64 eJ.vC,dO 2 aj (([]:List ak)++eJ.vV)]) aG) (oJ (wc (ly _) (wc (ly _) (wc (HH _) wcn)))) ?_
 refine s0 (gv (ds':=[dI .i64 eJ.vR,dI .i64 eJ.vC,dL aj (([]:List ak)++eJ.vV)]) aG) ?_
 exact .nil (hK _ _ (pe0 h0 [0,1]))
 rintro ex tm' hp' ⟨rfl,hw⟩
 refine AW.weak hw (AW.seq (rs hx fun K hK=>?_))
 refine sa ?_
 refine s1 (aP aR) ?_
 refine sa ?_
 refine .nil (hK _ _ (AW.block ?_))
 obtain⟨y,hy,h⟩:=ah h
 refine lp (S:=Unit) (X:=Unit) (fun ()=>[(3,.pt 0 0),(7,dI .i64 (Int.tmod (i64.wrap (gI)) eJ.vR)),(8,dI .i64 (Int.tmod (i64.wrap (eK)) eJ.vR)),(9,.pt 1 0),(58,dI .i64 eJ.vC),(59,dI .i64 (0:Int))]) (fun ()=>⟨[(0,[dI .i64 eJ.vR,dI .i64 eJ.vC,dL aj eJ.vV]),(1,[dI .i64 eJ.vR,dI .i64 eJ.vC,dL aj (([]:List ak)++eJ.vV)])],[],2⟩) (PE cx (.exit 0) (fun ()=>[(3,.pt 0 0),(7,dI .i64 (Int.tmod (i64.wrap (gI)) eJ.vR)),(8,dI .i64 (Int.tmod (i64.wrap (eK)) eJ.vR)),(9,.pt 1 0)]) fun ()=>⟨[(0,[dI .i64 eJ.vR,dI .i64 eJ.vC,dL aj eJ.vV]),(1,[dI .i64 eJ.vR,dI .i64 eJ.vC,dL aj (([]:List ak)++eJ.vV)])],[],2⟩) hy ?_ ?_ ?_
 exact wk h0 [0,1] (wR rfl (wR rfl (wR rfl (wR rfl (wR rfl (wR rfl wTn)))))) (vR rfl (vR rfl wVn)) wLn
 clear hy h
 rintro⟨⟩ y h
 dsimp only[dm] at h
 refine ra hx ?_
 refine AW.seq (cdh h rfl (fun mf h=>?_) (fun mf h=>?_))
 refine AW.skip (AW.seq (AW.block (ra hx ?_)))
 cases h
 refine AW.exit ?_
 try dsimp only
 try simp only[bk,reduceIte,Nat.reduceEqDiff,reduceCtorEq]
 cases h
 exact PS.r ⟨by nofun,PE.i (wk h0 [0,1] (wR rfl (wR rfl (wR rfl (wR rfl wTn)))) (vR rfl (vR rfl wVn)) wLn)⟩
 cases y
 rintro ex tm' hp' ⟨rfl,hw⟩
 try dsimp only
 try simp only[bk,reduceIte,Nat.reduceEqDiff,reduceCtorEq]
 refine AW.weak hw (rs hx fun K hK=>?_)
 refine s1 (d:=dG a9 eJ) (cm aG) ?_
 refine scb h eN fun nq h=>?_
 iterate 4 refine sa ?_
 refine s1 (d:=.pt 2 0) (cr aG) ?_
 refine s0 (gv (ds':=[dI .i64 nq.1.vR,dI .i64 nq.1.vC,dL aj nq.1.vV]) aG) ?_
 iterate 2 refine sa ?_
 refine .nil (hK _ _ (rs hx fun K hK=>?_))
 refine s1 (d:=dG a9 (⟨eJ.vR,eJ.vC,([]:List ak)++eJ.vV⟩:aE)) (cm aG) ?_
 refine scb h eN fun wB h=>?_
 iterate 4 refine sa ?_
 refine s1 (d:=.pt 3 0) (cr aG) ?_
 refine s0 (gv (ds':=[dI .i64 wB.1.vR,dI .i64 wB.1.vC,dL aj wB.1.vV]) aG) ?_
 iterate 2 refine sa ?_
 refine .nil (hK _ _ ?_)
 iterate 2 refine AW.seq ?_
 obtain⟨nd,hy,h⟩:=ah h
 refine jn ((PE cx .normal (fun nd=>[(3,.pt 0 0),(7,dI .i64 (Int.tmod (i64.wrap (gI)) eJ.vR)),(8,dI .i64 (Int.tmod (i64.wrap (eK)) eJ.vR)),(9,.pt 1 0),(11,.pt 2 0),(12,dL (cI .i64) nq.2.1),(14,.pt 3 0),(15,dL (cI .i64) wB.2.1),(118,dB nd)]) fun nd=>⟨[(0,[dI .i64 eJ.vR,dI .i64 eJ.vC,dL aj eJ.vV]),(1,[dI .i64 eJ.vR,dI .i64 eJ.vC,dL aj (([]:List ak)++eJ.vV)]),(2,[dI .i64 nq.1.vR,dI .i64 nq.1.vC,dL aj nq.1.vV]),(3,[dI .i64 wB.1.vR,dI .i64 wB.1.vC,dL aj wB.1.vV])],[],4⟩) nd) ?_ ?_
 replace h:=hy
 refine rq hx fun K hK=>?_
 iterate 3 refine sa ?_
 rcases bP (decide (nq.2.2≠(0:Int))) with Ao|Ao
 replace h:=ba Ao h
 iterate 2 refine aK rfl rfl Ao ?_
 refine s1 (am Ao) ?_
 refine .nil (hK _ _ ?_)
 cases h
 exact pe0 h0 [0,1,2,3]
 replace h:=bb Ao h
 iterate 2 refine ga Ao ?_
 refine s1 (ax Ao) ?_
 refine .nil (hK _ _ ?_)
 cases h
 exact pe0 h0 [0,1,2,3]
 rintro ex tm' hp' ⟨rfl,hw⟩
 refine AW.weak hw (cdh h rfl (fun hb28 h=>?_) (fun hb28 h=>?_))
 refine rs hx fun K hK=>?_
 refine scb h dY fun oP h=>?_
 refine sa ?_
 refine .nil (hK _ _ (AW.ret ?_))
 cases h
 exact rv1
 refine AW.skip (rs hx fun K hK=>?_)
 refine s1 (d:=dG a9 nq.1) (cm aG) ?_
 refine scb h eN fun Dc h=>?_
 iterate 4 refine sa ?_
 refine s1 (d:=.pt 4 0) (cr aG) ?_
 refine s0 (gv (ds':=[dI .i64 Dc.1.vR,dI .i64 Dc.1.vC,dL aj Dc.1.vV]) aG) ?_
 iterate 2 refine sa ?_
 refine .nil (hK _ _ ?_)
 iterate 2 refine AW.seq ?_
 obtain⟨rk,hy,h⟩:=ah h
 refine jn ((PE cx .normal (fun rk=>[(3,.pt 0 0),(7,dI .i64 (Int.tmod (i64.wrap (gI)) eJ.vR)),(8,dI .i64 (Int.tmod (i64.wrap (eK)) eJ.vR)),(9,.pt 1 0),(151,dB rk)]) fun rk=>⟨[(0,[dI .i64 eJ.vR,dI .i64 eJ.vC,dL aj eJ.vV]),(1,[dI .i64 eJ.vR,dI .i64 eJ.vC,dL aj (([]:List ak)++eJ.vV)])],[],2⟩) rk) ?_ ?_
 replace h:=hy
 refine rq hx fun K hK=>?_
 refine s1 (d:=dG a9 nq.1) (cm aG) ?_
 refine s1 (d:=dG a9 wB.1) (cm aG) ?_
 refine scb h kP fun wJ h=>?_
 iterate 2 refine sa ?_
 rcases bP (!wJ) with D3|D3
 replace h:=ba D3 h
 iterate 4 refine aK rfl rfl D3 ?_
 refine s1 (am D3) ?_
 refine sa ?_
 iterate 2 refine aK rfl rfl rfl ?_
 refine s1 (am rfl) ?_
 refine sa ?_
 iterate 4 refine aK rfl rfl rfl ?_
 refine s1 (am rfl) ?_
 refine sa ?_
 iterate 4 refine aK rfl rfl rfl ?_
 refine s1 (am rfl) ?_
 refine .nil (hK _ _ ?_)
 cases h
 exact pe0 h0 [0,1]
 replace h:=bb D3 h
 iterate 2 refine ga D3 ?_
 obtain⟨x36,hx37,h⟩:=ah h
 refine g1 D3 (c9 rfl (oR hx37) rfl (lA (av _) (lA (av _) lAn)) (.inl rfl)) ?_
 refine ga D3 ?_
 refine s1 (ax D3) ?_
 refine sa ?_
 rcases bP (!x36) with Id|Id
 replace h:=ba Id h
 iterate 2 refine aK rfl rfl Id ?_
 refine s1 (am Id) ?_
 refine sa ?_
 iterate 4 refine aK rfl rfl rfl ?_
 refine s1 (am rfl) ?_
 refine sa ?_
 iterate 4 refine aK rfl rfl rfl ?_
 refine s1 (am rfl) ?_
 refine .nil (hK _ _ ?_)
 cases h
 exact pe0 h0 [0,1]
 replace h:=bb Id h
 iterate 2 refine ga Id ?_
 refine s1 (ax Id) ?_
 refine sa ?_
 rcases bP (decide (Dc.2.2≠(0:Int))) with sF|sF
 replace h:=ba sF h
 iterate 4 refine aK rfl rfl sF ?_
 refine s1 (am sF) ?_
 refine sa ?_
 iterate 4 refine aK rfl rfl rfl ?_
 refine s1 (am rfl) ?_
 refine .nil (hK _ _ ?_)
 cases h
 exact pe0 h0 [0,1]
 replace h:=bb sF h
 refine g1 (d:=dG a9 nq.1) sF (cm aG) ?_
 refine g1 (d:=dG a9 Dc.1) sF (cm aG) ?_
 obtain⟨x40,hx41,h⟩:=ah h
 refine g1 sF (c9 rfl (kP hx41) (by simp only[e8,gL,js,lE,iC,iB];exact⟨bh _ _,bh _ _⟩) (lA (av _) (lA (av _) lAn)) (.inl rfl)) ?_
 refine ga sF ?_
 refine s1 (ax sF) ?_
 refine sa ?_
 rcases bP (!x40) with s9|s9
 replace h:=ba s9 h
 iterate 4 refine aK rfl rfl s9 ?_
 refine s1 (am s9) ?_
 refine .nil (hK _ _ ?_)
 cases h
 exact pe0 h0 [0,1]
 replace h:=bb s9 h
 iterate 2 refine ga s9 ?_
 obtain⟨x43,hx44,h⟩:=ah h
 refine g1 s9 (c9 rfl (oR hx44) rfl (lA (av _) (lA (av _) lAn)) (.inl rfl)) ?_
 refine ga s9 ?_
 refine s1 (ax s9) ?_
 refine .nil (hK _ _ ?_)
 cases h
 exact pe0 h0 [0,1]
 rintro ex tm' hp' ⟨rfl,hw⟩
 refine AW.weak hw (cdh h rfl (fun s8 h=>?_) (fun s8 h=>?_))
 refine ra hx ?_
 refine AW.ret ?_
 cases h
 exact rv1
 refine AW.skip (AW.seq (rs hx fun K hK=>?_))
 refine sa ?_
 refine s1 (aP aR) ?_
 refine sa ?_
 refine s1 (aP aR) ?_
 refine sa ?_
 refine .nil (hK _ _ (cdh h rfl (fun qX h=>?_) (fun qX h=>?_)))
 refine rs hx fun K hK=>?_
 refine scb h dY fun Lx h=>?_
 refine sa ?_
 refine .nil (hK _ _ (AW.ret ?_))
 cases h
 exact rv1
 refine AW.skip (rs hx fun K hK=>?_)
 refine s1 (d:=dG a9 eJ) (cm aG) ?_
 refine scb h kQ fun x50 h=>?_
 iterate 3 refine sa ?_
 refine s1 (bq (F:=aj.f cU) ay) ?_
 refine s0 (aO (b':=x50.1) (an.id _ _) ay) ?_
 refine sa ?_
 refine .nil (hK _ _ (rs hx fun K hK=>?_))
 refine s1 (d:=dG a9 (⟨eJ.vR,eJ.vC,([]:List ak)++eJ.vV⟩:aE)) (cm aG) ?_
 refine scb h kQ fun x52 h=>?_
 iterate 3 refine sa ?_
 refine s1 (bq (F:=aj.f cU) ay) ?_
 refine s0 (aO (b':=x52.1) (an.id _ _) ay) ?_
 refine sa ?_
 refine .nil (hK _ _ ?_)
 iterate 2 refine AW.seq ?_
 obtain⟨rj,hy,h⟩:=ah h
 refine jn ((PE cx .normal (fun rj=>[(7,dI .i64 (Int.tmod (i64.wrap (gI)) eJ.vR)),(8,dI .i64 (Int.tmod (i64.wrap (eK)) eJ.vR)),(20,.pt 0 0),(22,.pt 1 0),(173,dB rj)]) fun rj=>⟨[(0,dC (aj.f x50.1)),(1,dC (aj.f x52.1))],[],2⟩) rj) ?_ ?_
 replace h:=hy
 refine rq hx fun K hK=>?_
 iterate 3 refine sa ?_
 rcases bP (decide (x50.2≠(0:Int))) with D2|D2
 replace h:=ba D2 h
 iterate 2 refine aK rfl rfl D2 ?_
 refine s1 (am D2) ?_
 refine .nil (hK _ _ ?_)
 cases h
 exact pe0 h0 [2,3]
 replace h:=bb D2 h
 iterate 2 refine ga D2 ?_
 refine s1 (ax D2) ?_
 refine .nil (hK _ _ ?_)
 cases h
 exact pe0 h0 [2,3]
 rintro ex tm' hp' ⟨rfl,hw⟩
 refine AW.weak hw (cdh h rfl (fun hb56 h=>?_) (fun hb56 h=>?_))
 refine rs hx fun K hK=>?_
 refine scb h dY fun x57 h=>?_
 refine sa ?_
 refine .nil (hK _ _ (AW.ret ?_))
 cases h
 exact rv1
 refine AW.skip (AW.seq ?_)
 obtain⟨pU,hy,h⟩:=ah h
 refine jn ((PE cx .normal (fun pU=>[(20,.pt 0 0),(22,.pt 1 0)]) fun pU=>⟨[(0,dC (aj.f x50.1)),(1,dC (aj.f pU))],[],2⟩) pU) ?_ ?_
 replace h:=hy
 refine ra hx ?_
 refine cdh h rfl (fun hb59 h=>?_) (fun hb59 h=>?_)
 refine rq hx fun K hK=>?_
 refine s1 (d:=dG aj x52.1) (aD (an.id _ _) ay) ?_
 refine scb h p9 fun LO h=>?_
 refine s0 (aO (b':=LO) (an.id _ _) ay) ?_
 refine .nil (hK _ _ ?_)
 cases h
 exact pe0 h0 [0,1]
 refine AW.skip ?_
 cases h
 exact pe0 h0 [0,1]
 rintro ex tm' hp' ⟨rfl,hw⟩
 refine AW.weak hw (AW.seq ?_)
 obtain⟨ri,hy,h⟩:=ah h
 refine jn ((PE cx .normal (fun ri=>[(6,dB ri)]) fun ri=>⟨[],[],0⟩) ri) ?_ ?_
 replace h:=hy
 refine rq hx fun K hK=>?_
 refine scb h dY fun x63 h=>?_
 refine sa ?_
 rcases bP x63 with D0|D0
 replace h:=ba D0 h
 refine g1 (d:=dG aj x50.1) D0 (aD (an.id _ _) ay) ?_
 refine g1 (d:=dG aj pU) D0 (aD (an.id _ _) ay) ?_
 refine g1 D0 (sh tok 4 (by decide) nP ay) ?_
 refine s1 (am D0) ?_
 refine sa ?_
 refine .nil (hK _ _ ?_)
 cases h
 exact pe0 h0 []
 replace h:=bb D0 h
 iterate 3 refine aK rfl rfl D0 ?_
 refine s1 (ax D0) ?_
 refine sa ?_
 refine .nil (hK _ _ ?_)
 cases h
 exact pe0 h0 []
 rintro ex tm' hp' ⟨rfl,hw⟩
 refine AW.weak hw (AW.ret ?_)
 cases h
 exact rv1
def eT(eJ:aE)(gI:Int)(eK:Int):Option Bool:=orO (ey eJ gI eK) (cp eJ gI eK)
theorem p6 {eJ:aE}{gI:Int}{eK:Int}{r:Bool}(h:eT eJ gI eK=some r):aB prog 3 [dG a9 eJ,dI .u8 gI,dI .u8 eK] (dB r):=(Mx h).elim oS oT
section
theorem Jg {i r:Nat}(hi:i≤255):Int.tmod (i64.wrap (i:Int)) (r:Int)=((i % r:Nat):Int):=by
 rw[w64,ON (by omega)];rfl
section
variable {r c a b:Nat} {V:List Nu}
theorem L5(hV:V.length=r*c)(ha:a<r)(hb:b<r):∀i k,i<r→k<c→toR c (cN c V a b c) i k=fC (toR c V) a b i k:=fun i k hi hk=>by
 unfold toR fC
 rw[pf hV ha hb c (aI _) i k hi hk,ao hk]
 split
 ·rfl
 ·split <;> rfl
theorem KG(hV:V.length=r*c)(hg:V.all aT=true)(ha:a<r)(hb:b<r):(cN c V a b c).all aT=true:=by
 rw[Hz (R:=r) (C:=c) (l:=cN c V a b c) (by rw[jM,hV])]
 refine zi.2 fun i k hi hk=>?_
 rw[pf hV ha hb c (aI _) i k hi hk,ao hk]
 have F9:∀i,i<r→aT V[i*c+k]! =true:=fun i hi=>oX hg (by rw[hV];exact bH hi hk)
 split
 ·exact F9 b hb
 ·split
  ·exact F9 a ha
  ·exact F9 i hi
theorem KF(hV:V.length=r*c)(LG:r*c≤1000000)(hc:c≤1000){i k:Nat}(hi:i≤255)(hk:k≤255)(h0:0<r):a7 (bU (mS r c V) (i:Int) (k:Int)) ((0:Int),V.map nv)=some ((cN c V (i % r) (k % r) c).map nv):=by
 have ha:i % r<r:=c6 _ h0
 have hb:k % r<r:=c6 _ h0
 have key:=jA (b:=bU (mS r c V) (i:Int) (k:Int)) (fun j=>((j:Int),(cN c V (i % r) (k % r) j).map nv)) 0 c ((cN c V (i % r) (k % r) c).map nv) (de _) (fun j _ hj=>?_) ?_
 ·exact key
 ·unfold bU
  dsimp only
  rw[Jg hi,Jg hk]
  generalize i % r=a at*
  generalize k % r=b at*
  have pa:=bH ha hj
  have pb:=bH hb hj
  have hl:(cN c V a b j).length=r*c:=by rw[jM,hV]
  rw[bu _ _,wix,wix,bS,bS,aF,aF,aF,aW,aW,CE,CE,←Kd]
  simp only[ab]
  rw[aF ⟨by omega,by omega,by rw[bS,yy];omega⟩,←Kd,w64]
  have e1:=pf hV ha hb j (by omega) b j hb hj
  have e2:=pf hV ha hb j (by omega) a j ha hj
  rw[ifn_] at e1 e2
  rw[show cN c V a b (j+1)=((cN c V a b j).set (a*c+j) (cN c V a b j)[b*c+j]!).set (b*c+j) (cN c V a b j)[a*c+j]! from rfl,e1,e2]
  rfl
 ·unfold bU
  dsimp only
  rw[bw _ _]
end
theorem zO {r c:Nat}{V:List Nu}(hm:MV r c V)(h:(mL r c V).2.2=0):∃U acc,jm r c V=some (U,acc)∧mL r c V=(mS r c U,fk acc,0):=by
 unfold mL at h ⊢
 rw[ao hm.chk,aW,aW] at h ⊢
 cases mF:jm r c V with
 |none=>rw[mF] at h;exact absurd h (by show ¬(30:Int)=0;decide)
 |some p=>exact⟨p.1,p.2,rfl,rfl⟩
theorem zP {r c:Nat}{V U:List Nu}{acc:List Pv}(hm:MV r c V)(h:jm r c V=some (U,acc)):mL r c V=(mS r c U,fk acc,0):=by
 unfold mL
 rw[ao hm.chk,aW,aW,h]
theorem Lt {R C:Int}{V:List Nu}{i k:Nat}(hi:i≤255)(hk:k≤255):eT (mS R C V) (i:Int) (k:Int)=some true:=by
 unfold eT ey
 have sn:(bnd cb fun x=>some x)=some true:=by rw[Bx];rfl
 have sn2:∀z:Option Bool,orO (some true) z=some true:=fun _=>rfl
 obtain⟨b1,h1,k1⟩:=Q_Light (R:=R) (C:=C) (V:=V)
 rw[h1,sn,ab]
 cases b1 with
 |false=>rw[show (!false)=true from rfl,kT,ab,kT,sn2]
 |true=>
  have hV:V.length≤1000000:=by have:=(k1 rfl).1;omega
  rw[show (!true)=false from rfl,kF,tZ hV,ab]
  by_cases g1:bi R C V=0
  rotate_left
  ·rw[neT g1,kT,ab,kT,sn2]
  rw[neF g1,kF,ab]
  obtain⟨r,c,rfl,rfl,hm⟩:=iv.1 g1
  have h3:=hm.r
  have h4:=hm.c
  have LG:=hm.rc
  have hl:=hm.len
  by_cases g2:(r:Int)=0
  ·rw[dy g2,kT,sn2]
  rw[gM g2,kF,aF g2,aF g2]
  have h0:0<r:=by omega
  rcases ln V.length with hz|hz
  ·-- no columns
   have hnil:V=[]:=jJ hz
   subst hnil
   have hc0:c=0:=by
    rcases Nat.mul_eq_zero.1 (show r*c=0 by rw[←hl];rfl) with h|h <;> omega
   subst hc0
   show orO none (cp (mS r ((0:Nat):Int) []) (i:Int) (k:Int))=some true
   show cp (mS r ((0:Nat):Int) []) (i:Int) (k:Int)=some true
   unfold cp
   have hr:=zP hm (show jm r 0 []=some ([],[]) from sU (.inl rfl))
   have hP:=rp (R:=r) (C:=((0:Nat):Int)) (V:=[]) (by decide)
   rw[hr] at hP
   rw[h1,ab,show (!true)=false from rfl,kF,tZ (by decide),ab,neF g1,kF,ab,gM g2,kF,aF g2,aF g2,aF (by show (0:Nat)*136≤_;omega)]
   rw[fa (b:=dm (mS r ((0:Nat):Int) [])) (x:=()) (by unfold dm;rfl),ab]
   show bnd (bY (mS r ((0:Nat):Int) [])) _=_
   rw[hP,ab]
   show bnd (bY (mS r ((0:Nat):Int) [])) _=_
   rw[hP,ab]
   dsimp only
   rw[neF rfl,kF,ab,kF,ab]
   dsimp only
   rw[Jj (de _) rfl,O3 (de _),ab,show (!true)=false from rfl,kF,ab,dy rfl,show (!true)=false from rfl,kF,neF rfl,kF,ab,show (!true)=false from rfl,kF,ab,ab,show (!true)=false from rfl,kF,neT (by omega),kT]
   exact sn
  ·have ha:i % r<r:=c6 _ h0
   have hb:k % r<r:=c6 _ h0
   have hVl:(cN c V (i % r) (k % r) c).length=r*c:=by rw[jM,hl]
   have hmV:MV r c (cN c V (i % r) (k % r) c):=⟨h3,h4,hVl,KG hl hm.good ha hb⟩
   have he:=L5 hl ha hb
   dsimp only
   rw[aF (show 0<(V.map nv).length by rw[bS];exact hz),aF (by rw[bS];omega),KF hl (by omega) (by omega) hi hk h0,ab,rp hV,ab,aF (by rw[bS,bS];omega),rp (by omega),ab]
   by_cases e1:(mL r c V).2.2=0
   rotate_left
   ·rw[neT e1,kT,ab,kT,sn2]
   rw[neF e1,kF,ab]
   by_cases e2:(mL r c (cN c V (i % r) (k % r) c)).2.2=0
   rotate_left
   ·rw[neT e2,kT,sn2]
   rw[neF e2,kF]
   obtain⟨U,acc,q1,q2⟩:=zO hm e1
   obtain⟨U',Be,q3,q4⟩:=zO hmV e2
   obtain⟨f1,f2,f3,l,f4,f5⟩:=forget hl hm.good hVl hmV.good ha hb he q1 q3
   have hUl:=kt hl q1
   have hUg:=w7 hm.good q1
   have hmU:MV r c U:=⟨h3,h4,hUl,hUg⟩
   have hle:acc.length≤r:=ze q1
   rw[q2,q4,←f1,←f2]
   dsimp only
   rw[rp (by omega),ab,zP hmU f4,f5]
   dsimp only
   rw[Jj (by rw[bS];omega) rfl,ab,show (!true)=false from rfl,kF,O3 (by rw[Lh];omega),ab,dy rfl,show (!true)=false from rfl,kF,neF rfl,kF,ab,show (!true)=false from rfl,kF,ab,ab,show (!true)=false from rfl,kF]
   by_cases e3:(r:Int)=(c:Int)
   rotate_left
   ·rw[neT e3,kT,sn2]
   rw[neF e3,kF,Ki hV,ab,Ki (by omega),ab]
   obtain rfl:r=c:=by omega
   by_cases e4:(Gy r r V).2=0
   rotate_left
   ·rw[neT e4,kT,ab,kT,sn2]
   rw[neF e4,kF,ab]
   by_cases e5:(Gy r r (cN r V (i % r) (k % r) r)).2=0
   rotate_left
   ·rw[neT e5,kT,sn2]
   rw[neF e5,kF]
   have d1:=Oi hm
   have d2:=Oi hmV
   rw[d1] at e4
   rw[d2] at e5
   dsimp only at e4 e5
   have hd:=Ig hl hm.good hVl hmV.good ha hb he (d:=(oB r (jm r r V)).1) (d':=(oB r (jm r r (cN r V (i % r) (k % r) r))).1) (by rw[←e4]) (by rw[←e5])
   rw[d1,d2,ao e4,ao e5,Jg hi,Jg hk]
   dsimp only
   generalize (oB r (jm r r V)).1=d at*
   generalize (oB r (jm r r (cN r V (i % r) (k % r) r))).1=d' at*
   by_cases e6:i % r=k % r
   ·rw[ao e6] at hd
    rw[neF (by omega),kF,ab,Bx,ab,kT,hd,dy rfl,ab,sn2]
   ·rw[aq e6] at hd
    rw[neT (by omega),kT,uNeg,ab,ab,Bx,ab,kT,hd,dy rfl,ab,sn2]
theorem I3 {a:aE}{i k:Int}(hA:QL a.vV)(hi:Wi .u8 i)(hk:Wi .u8 k):eT a i k=some true:=by
 obtain⟨R,C,A⟩:=a
 dsimp only at hA
 rw[hA.nu.1]
 have h1:0≤i∧i≤255:=hi
 have h2:0≤k∧k≤255:=hk
 obtain⟨m,rfl⟩:∃m:Nat,i=m:=⟨i.toNat,by omega⟩
 obtain⟨n,rfl⟩:∃n:Nat,k=n:=⟨k.toNat,by omega⟩
 exact Lt (by omega) (by omega)
end
section
open Go.ChangeShapes Go.WideShapes Go.ChangeAt Go.RowKit Go.ChangeMaps
namespace matrixForgets
theorem k0:(Rows.matrixForgetsRowsRow.wf (OpenSpec.ofChange Rows.matrixForgetsRowsSpec))=true:=by kernel_rfl
theorem k1:(laidOutB prog)=true:=by kernel_rfl
theorem k2:(mapsRowed prog)=true:=by kernel_rfl
theorem k3:(f3.params.all (prog.readableRec ·))=true:=by kernel_rfl
theorem k4:(namedTie prog Rows.matrixForgetsRowsRow.named Rows.matrixForgetsRowsSpec.vars)=true:=by kernel_rfl
theorem k5:((Rows.matrixForgetsRowsRow.stops == []))=true:=by kernel_rfl
theorem k6:((prog.stops == []))=true:=by kernel_rfl
theorem k7:((Rows.matrixForgetsRowsRow.knobs == []))=true:=by kernel_rfl
theorem k8:((prog.stopKnobs == []))=true:=by kernel_rfl
theorem k9:((Rows.matrixForgetsRowsRow.inPlace == prog.inPlace 3))=true:=by kernel_rfl
theorem k10:((Rows.matrixForgetsRowsRow.unfollowed == prog.unfollowed 3))=true:=by kernel_rfl
theorem k11:((Rows.matrixForgetsRowsRow.recurses == prog.recurses 3))=true:=by kernel_rfl
theorem k12:((Rows.matrixForgetsRowsRow.named == prog.varsNamed 3))=true:=by kernel_rfl
theorem k13:((Rows.matrixForgetsRowsRow.maps == (f3.params.toList++Rows.matrixForgetsRowsSpec.plain.varTypes prog).any (prog.mapsRec ·)))=true:=by kernel_rfl
theorem k14:((Rows.matrixForgetsRowsRow.ifaces == (f3.params.toList++Rows.matrixForgetsRowsSpec.plain.varTypes prog).any (prog.ifacesRec ·)))=true:=by kernel_rfl
theorem k15:((Rows.matrixForgetsRowsRow.mapsOut == prog.mapsAmong f3.resultTypes.toList))=true:=by kernel_rfl
theorem k16:((Rows.matrixForgetsRowsRow.loops == (f3.params.toList++Rows.matrixForgetsRowsSpec.plain.varTypes prog).any (prog.loopsFrom ·)))=true:=by kernel_rfl
theorem k17:((Rows.matrixForgetsRowsRow.wideKeys == (f3.params.toList++Rows.matrixForgetsRowsSpec.plain.varTypes prog++f3.resultTypes.toList).any (prog.wideKeysFrom ·)))=true:=by kernel_rfl
theorem k18:(Rows.matrixForgetsRowsSpec.vars.all (prog.varReadable ·))=true:=by kernel_rfl
theorem k19:(f3.resultTypes.all (fun t=>prog.readableRec t&&decide (t<prog.types.size)))=true:=by kernel_rfl
theorem k20:((Rows.matrixForgetsRowsRow.ifacesOut == f3.resultTypes.toList.any (prog.ifacesRec ·)))=true:=by kernel_rfl
theorem k21:((Rows.matrixForgetsRowsRow.loopsOut == f3.resultTypes.toList.any (prog.loopsFrom ·)))=true:=by kernel_rfl
theorem k22:((Rows.matrixForgetsRowsRow.plainKeys == prog.plainKeys))=true:=by kernel_rfl
theorem k23:(Rows.matrixForgetsRowsRow.shortTexts.isNone)=true:=by kernel_rfl
theorem k24:(prog.stopsHeard)=true:=by kernel_rfl
theorem k25:(prog.mayEnter)=true:=by kernel_rfl
theorem k26:((Rows.matrixForgetsRowsRow.lifted == prog.liftsFinal))=true:=by kernel_rfl
theorem k27:((prog.make == some Rows.matrixForgetsRowsRow.make))=true:=by kernel_rfl
theorem k28:((Rows.matrixForgetsRowsRow.kinds == (if Rows.matrixForgetsRowsRow.domain.isEmpty then [] else f3.params.toList.map fun t=>match prog.underlying t with|some (.int k)=>some k|_=>none)))=true:=by kernel_rfl
theorem k29:((Rows.matrixForgetsRowsRow.pinned == Rows.matrixForgetsRowsRow.pinnedBy))=true:=by kernel_rfl
theorem k30:((Rows.matrixForgetsRowsRow.veiled == (f3.params.toList++Rows.matrixForgetsRowsSpec.plain.varTypes prog++f3.resultTypes.toList).any (prog.veiledRec ·)))=true:=by kernel_rfl
theorem k31:(Rows.matrixForgetsRowsRow.veiledFits prog f3.params.toList (f3.params.toList++Rows.matrixForgetsRowsSpec.plain.varTypes prog++f3.resultTypes.toList))=true:=by kernel_rfl
theorem ml {a b:Bool}(h:a=true)(h2:b=true):(a&&b)=true:=by rw[h,h2];rfl
theorem closed:joinedFacts prog 3 f3 Rows.matrixForgetsRowsSpec Rows.matrixForgetsRowsRow=true:=by
 delta joinedFacts
 exact ml (ml (ml (ml (ml (ml (ml (ml (ml (ml (ml (ml (ml (ml (ml (ml (ml (ml (ml (ml (ml (ml (ml (ml (ml (ml (ml (ml (ml (ml (ml k0 k1) k2) k3) k4) k5) k6) k7) k8) k9) k10) k11) k12) k13) k14) k15) k16) k17) k18) k19) k20) k21) k22) k23) k24) k25) k26) k27) k28) k29) k30) k31
end matrixForgets
end
end
end Go.Proofs.YtgfcnncojhkcoaaGreat
