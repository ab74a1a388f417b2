/-
  Lemmas, part 4. Conditions: none.
-/
import Derived.Test.YtaedcknhkjpmlaaGreatA3
set_option linter.all false
set_option maxRecDepth 100000
namespace Go.Proofs.YtaedcknhkjpmlaaGreat
open Go.RowKit Go.IntKind
noncomputable section
def jV(aY:av):Bool×Int→Option ((Bool×Int)⊕Bool):=fun (bc,bt)=>cnd (decide (bt<(16:Int))) (bnd (S:=Bool) (cnd bc (gd (0≤bt∧bt<16) (some (decide (((aY.vW)[(bt).toNat]!)=(0:Int))))) (some (false))) fun bg=>some (.inl (bg,i64.wrap (bt+(1:Int))))) (some (.inr bc))
def o5(aY:av):Option Bool:=bnd (bS (jV aY) (true,(0:Int))) fun bo=>cnd aY.vBad (bnd (S:=Bool) (cnd bo (some (!aY.vNeg)) (some (false))) fun j6=>some j6) (bnd (S:=Bool) (cnd (!bo) (some (true)) (some (!aY.vNeg))) fun EM=>some EM)
set_option maxHeartbeats 4000000 in
theorem Dw {aY:av}{r:Bool}(h:o5 aY=some r):ax Tryz.prog 177 [dG aj aY] (dB r):=by
 refine bE (rs:=[.tmp 2]) (fun cx hx h0=>?_) Tryz.func177
 unfold o5 at h
 iterate 2 refine ra hx ?_
 refine AW.seq (ra hx ?_)
 refine AW.block ?_
 obtain⟨bo,hy,h⟩:=ab h
 refine lp (S:=Bool×Int) (X:=Bool) (fun (bc,bt)=>[(1,.pt 0 0),(3,dB bc),(4,dI .i64 bt)]) (fun (bc,bt)=>⟨[(0,dC (aj.f aY))],[],1⟩) (PE cx (.exit 0) (fun bo=>[(1,.pt 0 0),(3,dB bo)]) fun bo=>⟨[(0,dC (aj.f aY))],[],1⟩) hy ?_ ?_ ?_
 exact wk h0 [0] (wR rfl (wR rfl (wR rfl wTn))) (vC rfl wVn) wLn
 clear hy h
 rintro⟨bc,bt⟩ y h
 dsimp only[jV] at h
 refine AW.seq (ra hx ?_)
 refine cdh h rfl (fun c5 h=>?_) (fun c5 h=>?_)
 refine AW.skip (AW.seq ?_)
 obtain⟨bg,hy,h⟩:=ab h
 refine jn ((PE cx .normal (fun bg=>[(1,.pt 0 0),(3,dB bg),(4,dI .i64 bt)]) fun bg=>⟨[(0,dC (aj.f aY))],[],1⟩) bg) ?_ ?_
 replace h:=hy
 refine AW.block (rq hx fun K hK=>?_)
 iterate 2 refine sa ?_
 rcases aD bc with oq|oq
 replace h:=aP oq h
 iterate 2 refine ga oq ?_
 obtain⟨Ly,h⟩:=aC h
 have hn4:(bt).toNat<16:=by omega
 refine g1 oq (cJ Ly aA aG) ?_
 refine g1 oq (aW (am.comp (aT aY) (am.vec (cI .u32) aY.vW (bt).toNat hn4) (fun _=>rfl)) aG) ?_
 refine ga oq ?_
 refine s1 (aw oq) ?_
 refine sa ?_
 refine .nil (hK _ _ ?_)
 cases h
 exact pe0 h0 [0]
 replace h:=aQ oq h
 iterate 5 refine aH rfl rfl oq ?_
 refine s1 (al oq) ?_
 refine sa ?_
 refine .nil (hK _ _ ?_)
 cases h
 exact pe0 h0 [0]
 rintro ex tm' hp' ⟨rfl,hw⟩
 refine AW.weak hw (rb hx ?_)
 cases h
 exact PS.l (pe0 h0 [0])
 refine AW.exit ?_
 try dsimp only
 try simp only[aU,reduceIte,Nat.reduceEqDiff,reduceCtorEq]
 cases h
 exact PS.r ⟨by nofun,PE.i (wk h0 [0] (wR rfl (wR rfl wTn)) (vC rfl wVn) wLn)⟩
 rintro ex tm' hp' ⟨rfl,hw⟩
 try dsimp only
 try simp only[aU,reduceIte,Nat.reduceEqDiff,reduceCtorEq]
 refine AW.weak hw (AW.seq (rs hx fun K hK=>?_))
 refine sa ?_
 refine s1 (aW (jf aY) eY) ?_
 refine .nil (hK _ _ (cdh h rfl (fun qz h=>?_) (fun qz h=>?_)))
 refine AW.seq ?_
 obtain⟨j6,hy,h⟩:=ab h
 refine jn ((PE cx .normal (fun j6=>[(2,dB j6)]) fun j6=>⟨[],[],0⟩) j6) ?_ ?_
 replace h:=hy
 refine rq hx fun K hK=>?_
 iterate 2 refine sa ?_
 rcases aD bo with iS|iS
 replace h:=aP iS h
 refine ga iS ?_
 refine g1 iS (aW (aR aY) eY) ?_
 refine ga iS ?_
 refine s1 (aw iS) ?_
 refine sa ?_
 refine .nil (hK _ _ ?_)
 cases h
 exact pe0 h0 []
 replace h:=aQ iS h
 iterate 3 refine aH rfl rfl iS ?_
 refine s1 (al iS) ?_
 refine sa ?_
 refine .nil (hK _ _ ?_)
 cases h
 exact pe0 h0 []
 rintro ex tm' hp' ⟨rfl,hw⟩
 refine AW.weak hw (AW.ret ?_)
 cases h
 exact rv1
 refine AW.skip (AW.seq ?_)
 obtain⟨EM,hy,h⟩:=ab h
 refine jn ((PE cx .normal (fun EM=>[(2,dB EM)]) fun EM=>⟨[],[],0⟩) EM) ?_ ?_
 replace h:=hy
 refine rq hx fun K hK=>?_
 iterate 3 refine sa ?_
 rcases aD (!bo) with dM|dM
 replace h:=aP dM h
 iterate 3 refine aH rfl rfl dM ?_
 refine s1 (aw dM) ?_
 refine sa ?_
 refine .nil (hK _ _ ?_)
 cases h
 exact pe0 h0 []
 replace h:=aQ dM h
 refine ga dM ?_
 refine g1 dM (aW (aR aY) eY) ?_
 refine ga dM ?_
 refine s1 (al dM) ?_
 refine sa ?_
 refine .nil (hK _ _ ?_)
 cases h
 exact pe0 h0 []
 rintro ex tm' hp' ⟨rfl,hw⟩
 refine AW.weak hw (AW.ret ?_)
 cases h
 exact rv1
def bD(aY:av):Option Bool:=bnd (o5 aY) fun x1=>bnd (S:=Bool) (cnd x1 (some (!aY.vBad)) (some (false))) fun ju=>some ju
theorem cM {aY:av}{r:Bool}(h:bD aY=some r):ax Tryz.prog 142 [dG aj aY] (dB r):=by
 refine bE (rs:=[.tmp 2]) (fun cx hx h0=>?_) Tryz.func142
 unfold bD at h
 refine ra hx ?_
 refine rs hx fun K hK=>?_
 refine s1 (d:=dG aj aY) (au (am.id _ _) ap) ?_
 refine scb h Dw fun x1 h=>?_
 refine sa ?_
 refine .nil (hK _ _ (AW.seq ?_))
 obtain⟨ju,hy,h⟩:=ab h
 refine jn ((PE cx .normal (fun ju=>[(2,dB ju)]) fun ju=>⟨[],[],0⟩) ju) ?_ ?_
 replace h:=hy
 refine rq hx fun K hK=>?_
 iterate 2 refine sa ?_
 rcases aD x1 with bb|bb
 replace h:=aP bb h
 refine ga bb ?_
 refine g1 bb (aW (jf aY) eY) ?_
 refine ga bb ?_
 refine s1 (aw bb) ?_
 refine sa ?_
 refine .nil (hK _ _ ?_)
 cases h
 exact pe0 h0 []
 replace h:=aQ bb h
 iterate 3 refine aH rfl rfl bb ?_
 refine s1 (al bb) ?_
 refine sa ?_
 refine .nil (hK _ _ ?_)
 cases h
 exact pe0 h0 []
 rintro ex tm' hp' ⟨rfl,hw⟩
 refine AW.weak hw (AW.ret ?_)
 cases h
 exact rv1
def ms(aY:av):Int→Option (Int⊕((Int×Bool)⊕Unit)):=fun bg=>cnd (decide (bg<(16:Int))) (gd (0≤bg∧bg<16) (cnd (decide (((aY.vW)[(bg).toNat]!)≠(0:Int))) (some (.inr (.inl ((0:Int),false)))) (some (.inl (i64.wrap (bg+(1:Int))))))) (some (.inr (.inr ())))
def e6(aY:av):Option (Int×Bool):=bnd (bD aY) fun x1=>bnd (S:=Bool) (cnd (!x1) (some (true)) (some (decide ((1073741824:Int)≤((aY.vW)[((1:Int)).toNat]!))))) fun aJ=>cnd aJ (some ((0:Int),false)) (bnd (bS (ms aY) (2:Int)) fun y11=>match y11 with| .inl r=>some r| .inr ()=>bnd (some (i64.wrap ((i64.wrap ((i64.wrap ((aY.vW)[((1:Int)).toNat]!))*(4294967296:Int)))+(i64.wrap ((aY.vW)[((0:Int)).toNat]!))))) fun mD=>cnd aY.vNeg (some (i64.wrap (0 - mD),true)) (some (mD,true)))
set_option maxHeartbeats 4000000 in
theorem jc {aY:av}{r:Int×Bool}(h:e6 aY=some r):ax Tryz.prog 166 [dG aj aY] (.tu [dI .i64 r.1,dB r.2]):=by
 refine bE (rs:=[.tmp 2,.tmp 3]) (fun cx hx h0=>?_) Tryz.func166
 unfold e6 at h
 refine ra hx ?_
 refine rs hx fun K hK=>?_
 refine s1 (d:=dG aj aY) (au (am.id _ _) ap) ?_
 refine scb h cM fun x1 h=>?_
 refine sa ?_
 refine .nil (hK _ _ ?_)
 iterate 2 refine AW.seq ?_
 obtain⟨aJ,hy,h⟩:=ab h
 refine jn ((PE cx .normal (fun aJ=>[(1,.pt 0 0),(16,dB aJ)]) fun aJ=>⟨[(0,dC (aj.f aY))],[],1⟩) aJ) ?_ ?_
 replace h:=hy
 refine rq hx fun K hK=>?_
 iterate 3 refine sa ?_
 rcases aD (!x1) with bb|bb
 replace h:=aP bb h
 iterate 4 refine aH rfl rfl bb ?_
 refine s1 (aw bb) ?_
 refine .nil (hK _ _ ?_)
 cases h
 exact pe0 h0 [0]
 replace h:=aQ bb h
 refine ga bb ?_
 have hn4:((1:Int)).toNat<16:=by omega
 refine g1 bb (cJ (by decide:0≤(1:Int)∧(1:Int)<((16:Nat):Int)) aA aG) ?_
 refine g1 bb (aW (am.comp (aT aY) (am.vec (cI .u32) aY.vW ((1:Int)).toNat hn4) (fun _=>rfl)) aG) ?_
 refine ga bb ?_
 refine s1 (al bb) ?_
 refine .nil (hK _ _ ?_)
 cases h
 exact pe0 h0 [0]
 rintro ex tm' hp' ⟨rfl,hw⟩
 refine AW.weak hw (cdh h rfl (fun fe h=>?_) (fun fe h=>?_))
 refine ra hx ?_
 refine AW.ret ?_
 cases h
 exact rv2
 refine AW.skip (AW.seq (ra hx ?_))
 refine AW.block ?_
 obtain⟨y,hy,h⟩:=ab h
 refine lp (S:=Int) (X:=(Int×Bool)⊕Unit) (fun bg=>[(1,.pt 0 0),(5,dI .i64 bg)]) (fun bg=>⟨[(0,dC (aj.f aY))],[],1⟩) (PS (PR [.tmp 2,.tmp 3] fun r=>.tu [dI .i64 r.1,dB r.2]) (PE cx (.exit 0) (fun ()=>[(1,.pt 0 0)]) fun ()=>⟨[(0,dC (aj.f aY))],[],1⟩)) hy ?_ ?_ ?_
 exact wk h0 [0] (wR rfl (wR rfl wTn)) (vC rfl wVn) wLn
 clear hy h
 rintro bg y h
 dsimp only[ms] at h
 refine AW.seq (ra hx ?_)
 refine cdh h rfl (fun qz h=>?_) (fun qz h=>?_)
 refine AW.skip (AW.seq (AW.block (rs hx fun K hK=>?_)))
 iterate 2 refine sa ?_
 obtain⟨Hi,h⟩:=aC h
 have IZ:(bg).toNat<16:=by omega
 refine s1 (cJ Hi aA aG) ?_
 refine s1 (aW (am.comp (aT aY) (am.vec (cI .u32) aY.vW (bg).toNat IZ) (fun _=>rfl)) aG) ?_
 refine sa ?_
 refine .nil (hK _ _ (cdh h rfl (fun dM h=>?_) (fun dM h=>?_)))
 refine ra hx ?_
 refine AW.ret ?_
 cases h
 refine PS.r ⟨by nofun,PS.l (PR.i ?_)⟩
 exact rv2
 refine AW.skip (rb hx ?_)
 cases h
 exact PS.l (pe0 h0 [0])
 refine AW.exit ?_
 try dsimp only
 try simp only[aU,reduceIte,Nat.reduceEqDiff,reduceCtorEq]
 cases h
 exact PS.r ⟨by nofun,PS.r (PE.i (wk h0 [0] (wR rfl wTn) (vC rfl wVn) wLn))⟩
 rcases y with r|⟨⟩
 rintro ex tm' hp' ⟨rfl,hw⟩
 cases h
 exact hw
 rintro ex tm' hp' ⟨rfl,hw⟩
 try dsimp only
 try simp only[aU,reduceIte,Nat.reduceEqDiff,reduceCtorEq]
 refine AW.weak hw (rs hx fun K hK=>?_)
 refine sa ?_
 have Oc:((1:Int)).toNat<16:=by omega
 refine s1 (cJ (by decide:0≤(1:Int)∧(1:Int)<((16:Nat):Int)) aA aG) ?_
 refine s1 (aW (am.comp (aT aY) (am.vec (cI .u32) aY.vW ((1:Int)).toNat Oc) (fun _=>rfl)) aG) ?_
 iterate 3 refine sa ?_
 have FB:((0:Int)).toNat<16:=by omega
 refine s1 (cJ (by decide:0≤(0:Int)∧(0:Int)<((16:Nat):Int)) aA aG) ?_
 refine s1 (aW (am.comp (aT aY) (am.vec (cI .u32) aY.vW ((0:Int)).toNat FB) (fun _=>rfl)) aG) ?_
 iterate 2 refine sa ?_
 obtain⟨mD,uP,h⟩:=ab h
 replace uP:=bQ uP
 refine s2 (d2:=dI .i64 mD) ly (gq (congrArg (dI .i64) uP)) ?_
 refine .nil (hK _ _ (AW.seq (rs hx fun K hK=>?_)))
 refine sa ?_
 refine s1 (aW (aR aY) eY) ?_
 refine .nil (hK _ _ (cdh h rfl (fun nS h=>?_) (fun nS h=>?_)))
 refine ra hx ?_
 refine AW.ret ?_
 cases h
 exact rv2
 refine AW.skip (ra hx ?_)
 refine AW.ret ?_
 cases h
 exact rv2
def kW(ep:List Int):Int→Option (Int⊕Int):=fun aJ=>bnd (S:=Bool) (cnd (decide ((0:Int)<aJ)) (gd (0≤i64.wrap (aJ - (1:Int))∧i64.wrap (aJ - (1:Int))<((ep).length:Int)) (some (decide (((ep)[(i64.wrap (aJ - (1:Int))).toNat]!)=(0:Int))))) (some (false))) fun nE=>cnd nE (some (.inl (i64.wrap (aJ - (1:Int))))) (some (.inr aJ))
def fx(ep:List Int):Option (List Int):=bnd (bS (kW ep) ((ep).length:Int)) fun n9=>gd (0≤(0:Int)∧(0:Int)≤n9∧n9≤((ep).length:Int)) (some (AB ep (0:Int) n9))
theorem kw {ep:List Int}{r:List Int}(h:fx ep=some r):ax Tryz.prog 175 [dL (cI .i64) ep] (dL (cI .i64) r):=by
 refine bE (rs:=[.tmp 2]) (fun cx hx h0=>?_) Tryz.func175
 unfold fx at h
 refine rs hx fun K hK=>?_
 refine s1 (d:=dO 0 (cI .i64) ([]:List Int)) (gE ct bG) ?_
 refine .nil (hK _ _ (ra hx ?_))
 refine AW.seq (AW.block ?_)
 obtain⟨n9,hy,h⟩:=ab h
 refine lp (S:=Int) (X:=Int) (fun aJ=>[(0,dL (cI .i64) ep),(3,dI .i64 aJ)]) (fun aJ=>⟨[],[],0⟩) (PE cx (.exit 0) (fun n9=>[(0,dL (cI .i64) ep),(3,dI .i64 n9)]) fun n9=>⟨[],[],0⟩) hy ?_ ?_ ?_
 exact wk h0 [] (wR rfl (wR rfl wTn)) wVn wLn
 clear hy h
 rintro aJ y h
 dsimp only[kW] at h
 iterate 2 refine AW.seq ?_
 obtain⟨nE,hy,h⟩:=ab h
 refine jn ((PE cx .normal (fun nE=>[(0,dL (cI .i64) ep),(3,dI .i64 aJ),(15,dB nE)]) fun nE=>⟨[],[],0⟩) nE) ?_ ?_
 replace h:=hy
 refine rq hx fun K hK=>?_
 iterate 3 refine sa ?_
 rcases aD (decide ((0:Int)<aJ)) with c5|c5
 replace h:=aP c5 h
 iterate 3 refine ga c5 ?_
 obtain⟨ml,h⟩:=aC h
 have p8:(i64.wrap (aJ - (1:Int))).toNat<(ep).length:=by omega
 refine g1 c5 (g7 ml ct bG) ?_
 refine g1 c5 (wF (c:=(cI .i64)) (l:=ep) (n:=(i64.wrap (aJ - (1:Int))).toNat) (o:=0) bG p8) ?_
 refine ga c5 ?_
 refine s1 (aw c5) ?_
 refine .nil (hK _ _ ?_)
 cases h
 exact pe0 h0 []
 replace h:=aQ c5 h
 iterate 6 refine aH rfl rfl c5 ?_
 refine s1 (al c5) ?_
 refine .nil (hK _ _ ?_)
 cases h
 exact pe0 h0 []
 rintro ex tm' hp' ⟨rfl,hw⟩
 refine AW.weak hw (cdh h rfl (fun eH h=>?_) (fun eH h=>?_))
 refine AW.skip (AW.block (rb hx ?_))
 cases h
 exact PS.l (pe0 h0 [])
 refine AW.exit ?_
 try dsimp only
 try simp only[aU,reduceIte,Nat.reduceEqDiff,reduceCtorEq]
 cases h
 exact PS.r ⟨by nofun,PE.i (wk h0 [] (wR rfl (wR rfl wTn)) wVn wLn)⟩
 rintro ex tm' hp' ⟨rfl,hw⟩
 try dsimp only
 try simp only[aU,reduceIte,Nat.reduceEqDiff,reduceCtorEq]
 refine AW.weak hw (rs hx fun K hK=>?_)
 iterate 2 refine sa ?_
 obtain⟨I5,h⟩:=aC h
 refine s1 (T_sl (c:=(cI .i64)) (l:=ep) (a:=(0:Int)) (b:=n9) I5 ct bG) ?_
 refine sa ?_
 refine .nil (hK _ _ (AW.ret ?_))
 cases h
 exact rv1
def fH :Option av:=some (⟨true,false,(cy)⟩:av)
theorem ke  {r:av}(h:fH=some r):ax Tryz.prog 124 [] (dG aj r):=by
 refine bE (rs:=[.cell 0 41]) (fun cx hx h0=>?_) Tryz.func124
 unfold fH at h
 refine rs hx fun K hK=>?_
 refine s1 (bm (F:=aj.f be) ap) ?_
 refine .nil (hK _ _ (rs hx fun K hK=>?_))
 refine s1 (d:=dG aj (⟨true,false,(cy)⟩:av)) (g8 (FL.cons (y:=true) (jf be) rfl rfl (FL.nil _)) ap) ?_
 refine s0 (aE (b':=(⟨true,false,(cy)⟩:av)) (am.id _ _) ap) ?_
 refine .nil (hK _ _ (AW.ret ?_))
 cases h
 exact rv1
def fX(x1:List Int):Int×av→Option ((Int×av)⊕av):=fun (bx,lb)=>cnd (decide (bx<((x1).length:Int))) (bnd (S:=av) (cnd (decide ((Int.tmod bx (2:Int))=(0:Int))) (gd (0≤i64.wrap (Int.tdiv bx (2:Int))∧i64.wrap (Int.tdiv bx (2:Int))<16) (gd (0≤bx∧bx<((x1).length:Int)) (gd (0≤i64.wrap (Int.tdiv bx (2:Int))∧i64.wrap (Int.tdiv bx (2:Int))<16) (bnd (some ((⟨lb.vBad,lb.vNeg,(lb.vW).set! (i64.wrap (Int.tdiv bx (2:Int))).toNat (u32.wrap (((lb.vW)[(i64.wrap (Int.tdiv bx (2:Int))).toNat]!)+(u32.wrap ((x1)[(bx).toNat]!))))⟩:av))) fun q9=>some (q9))))) (gd (0≤i64.wrap (Int.tdiv bx (2:Int))∧i64.wrap (Int.tdiv bx (2:Int))<16) (gd (0≤bx∧bx<((x1).length:Int)) (gd (0≤i64.wrap (Int.tdiv bx (2:Int))∧i64.wrap (Int.tdiv bx (2:Int))<16) (bnd (some ((⟨lb.vBad,lb.vNeg,(lb.vW).set! (i64.wrap (Int.tdiv bx (2:Int))).toNat (u32.wrap (((lb.vW)[(i64.wrap (Int.tdiv bx (2:Int))).toNat]!)+(u32.wrap ((u32.wrap ((x1)[(bx).toNat]!))*(65536:Int)))))⟩:av))) fun x26=>some (x26)))))) fun sP=>some (.inl (i64.wrap (bx+(1:Int)),sP))) (some (.inr lb))
def cw(uI:Bool)(ep:List Int):Option av:=bnd (fx ep) fun x1=>cnd (decide ((32:Int)<((x1).length:Int))) (bnd (fH) fun x4=>some x4) (bnd (S:=av) (cnd uI (bnd (some ((⟨false,decide ((0:Int)<((x1).length:Int)),(cy)⟩:av))) fun x7=>some (x7)) (some ((⟨false,false,(cy)⟩:av)))) fun d9=>bnd (bS (fX x1) ((0:Int),d9)) fun eI=>some eI)
set_option maxHeartbeats 4000000 in
theorem eR {uI:Bool}{ep:List Int}{r:av}(h:cw uI ep=some r):ax Tryz.prog 140 [dB uI,dL (cI .i64) ep] (dG aj r):=by
 refine bE (rs:=[.cell 4 41]) (fun cx hx h0=>?_) Tryz.func140
 unfold cw at h
 refine rs hx fun K hK=>?_
 refine s1 (bm (F:=aj.f be) ap) ?_
 refine .nil (hK _ _ (rs hx fun K hK=>?_))
 refine sa ?_
 refine scb h kw fun x1 h=>?_
 refine sa ?_
 refine .nil (hK _ _ (AW.seq (ra hx ?_)))
 refine cdh h rfl (fun bb h=>?_) (fun bb h=>?_)
 refine rs hx fun K hK=>?_
 refine scb h ke fun x4 h=>?_
 refine s0 (aE (b':=x4) (am.id _ _) ap) ?_
 refine .nil (hK _ _ (AW.ret ?_))
 cases h
 exact rv1
 refine AW.skip (AW.seq ?_)
 obtain⟨d9,hy,h⟩:=ab h
 refine jn ((PE cx .normal (fun d9=>[(4,.pt 0 0),(5,dL (cI .i64) x1),(6,.pt 1 0)]) fun d9=>⟨[(0,dC (aj.f be)),(1,dC (aj.f d9))],[],2⟩) d9) ?_ ?_
 replace h:=hy
 refine rq hx fun K hK=>?_
 iterate 2 refine sa ?_
 rcases aD uI with fe|fe
 replace h:=aP fe h
 iterate 3 refine ga fe ?_
 refine s1 (aw fe) ?_
 refine s1 (d:=dG aj (⟨false,decide ((0:Int)<((x1).length:Int)),(cy)⟩:av)) (g8 (FL.cons (y:=decide ((0:Int)<((x1).length:Int))) (aR be) rfl rfl (FL.nil _)) ap) ?_
 refine s1 (bm (F:=aj.f be) ap) ?_
 obtain⟨x7,DI,h⟩:=ab h
 replace DI:=bQ DI
 refine s0 (nk (b':=(⟨false,decide ((0:Int)<((x1).length:Int)),(cy)⟩:av)) (am.id _ _) ap DI) ?_
 refine .nil (hK _ _ ?_)
 cases h
 exact pe0 h0 [0,1]
 replace h:=aQ fe h
 iterate 3 refine aH rfl rfl fe ?_
 refine s1 (al fe) ?_
 refine s1 (d:=dG aj be) (g8 (FL.cons (y:=false) (aR be) rfl rfl (FL.nil _)) ap) ?_
 refine s1 (bm (F:=aj.f be) ap) ?_
 refine s0 (aE (b':=be) (am.id _ _) ap) ?_
 refine .nil (hK _ _ ?_)
 cases h
 exact pe0 h0 [0,1]
 rintro ex tm' hp' ⟨rfl,hw⟩
 refine AW.weak hw (AW.seq (ra hx ?_))
 refine AW.block ?_
 obtain⟨eI,hy,h⟩:=ab h
 refine lp (S:=Int×av) (X:=av) (fun (bx,lb)=>[(4,.pt 0 0),(5,dL (cI .i64) x1),(6,.pt 1 0),(7,dI .i64 bx)]) (fun (bx,lb)=>⟨[(0,dC (aj.f be)),(1,dC (aj.f lb))],[],2⟩) (PE cx (.exit 0) (fun eI=>[(4,.pt 0 0),(6,.pt 1 0)]) fun eI=>⟨[(0,dC (aj.f be)),(1,dC (aj.f eI))],[],2⟩) hy ?_ ?_ ?_
 exact wk h0 [0,1] (wR rfl (wR rfl (wR rfl (wR rfl wTn)))) (vC rfl (vC rfl wVn)) wLn
 clear hy h
 rintro⟨bx,lb⟩ y h
 dsimp only[fX] at h
 refine AW.seq (ra hx ?_)
 refine cdh h rfl (fun dM h=>?_) (fun dM h=>?_)
 refine AW.skip (AW.seq ?_)
 obtain⟨sP,hy,h⟩:=ab h
 refine jn ((PE cx .normal (fun sP=>[(4,.pt 0 0),(5,dL (cI .i64) x1),(6,.pt 1 0),(7,dI .i64 bx)]) fun sP=>⟨[(0,dC (aj.f be)),(1,dC (aj.f sP))],[],2⟩) sP) ?_ ?_
 replace h:=hy
 refine AW.block (ra hx ?_)
 refine cdh h rfl (fun na h=>?_) (fun na h=>?_)
 refine rqd [] hx fun K hK=>?_
 iterate 5 refine sa ?_
 obtain⟨I7,h⟩:=aC h
 have FB:(i64.wrap (Int.tdiv bx (2:Int))).toNat<16:=by omega
 refine s1 (cJ I7 aA aG) ?_
 refine s1 (aW (am.comp (aT lb) (am.vec (cI .u32) lb.vW (i64.wrap (Int.tdiv bx (2:Int))).toNat FB) (fun _=>rfl)) aG) ?_
 iterate 2 refine sa ?_
 obtain⟨hc14,h⟩:=aC h
 have Ob:(bx).toNat<(x1).length:=by omega
 refine s1 (g7 hc14 ct bG) ?_
 refine s1 (wF (c:=(cI .i64)) (l:=x1) (n:=(bx).toNat) (o:=0) bG Ob) ?_
 iterate 3 refine sa ?_
 obtain⟨Hj,h⟩:=aC h
 have I0:(i64.wrap (Int.tdiv bx (2:Int))).toNat<16:=by omega
 refine s1 (cJ Hj aA aG) ?_
 obtain⟨q9,zu,h⟩:=ab h
 replace zu:=bQ zu
 refine s0 (nk (b':=u32.wrap (((lb.vW)[(i64.wrap (Int.tdiv bx (2:Int))).toNat]!)+(u32.wrap ((x1)[(bx).toNat]!)))) (am.comp (aT lb) (am.vec (cI .u32) lb.vW (i64.wrap (Int.tdiv bx (2:Int))).toNat I0) (fun _=>rfl)) aG zu) ?_
 refine .nil (hK _ _ ?_)
 cases h
 exact pe0 h0 [0,1]
 refine rqd [] hx fun K hK=>?_
 iterate 5 refine sa ?_
 obtain⟨Lz,h⟩:=aC h
 have Oa:(i64.wrap (Int.tdiv bx (2:Int))).toNat<16:=by omega
 refine s1 (cJ Lz aA aG) ?_
 refine s1 (aW (am.comp (aT lb) (am.vec (cI .u32) lb.vW (i64.wrap (Int.tdiv bx (2:Int))).toNat Oa) (fun _=>rfl)) aG) ?_
 iterate 2 refine sa ?_
 obtain⟨I6,h⟩:=aC h
 have hn23:(bx).toNat<(x1).length:=by omega
 refine s1 (g7 I6 ct bG) ?_
 refine s1 (wF (c:=(cI .i64)) (l:=x1) (n:=(bx).toNat) (o:=0) bG hn23) ?_
 iterate 4 refine sa ?_
 obtain⟨hc24,h⟩:=aC h
 have hn25:(i64.wrap (Int.tdiv bx (2:Int))).toNat<16:=by omega
 refine s1 (cJ hc24 aA aG) ?_
 obtain⟨x26,hx27,h⟩:=ab h
 replace hx27:=bQ hx27
 refine s0 (nk (b':=u32.wrap (((lb.vW)[(i64.wrap (Int.tdiv bx (2:Int))).toNat]!)+(u32.wrap ((u32.wrap ((x1)[(bx).toNat]!))*(65536:Int))))) (am.comp (aT lb) (am.vec (cI .u32) lb.vW (i64.wrap (Int.tdiv bx (2:Int))).toNat hn25) (fun _=>rfl)) aG hx27) ?_
 refine .nil (hK _ _ ?_)
 cases h
 exact pe0 h0 [0,1]
 rintro ex tm' hp' ⟨rfl,hw⟩
 refine AW.weak hw (rb hx ?_)
 cases h
 exact PS.l (pe0 h0 [0,1])
 refine AW.exit ?_
 try dsimp only
 try simp only[aU,reduceIte,Nat.reduceEqDiff,reduceCtorEq]
 cases h
 exact PS.r ⟨by nofun,PE.i (wk h0 [0,1] (wR rfl (wR rfl wTn)) (vC rfl (vC rfl wVn)) wLn)⟩
 rintro ex tm' hp' ⟨rfl,hw⟩
 try dsimp only
 try simp only[aU,reduceIte,Nat.reduceEqDiff,reduceCtorEq]
 refine AW.weak hw (rs hx fun K hK=>?_)
 refine s1 (d:=dG aj eI) (au (am.id _ _) ap) ?_
 refine s0 (aE (b':=eI) (am.id _ _) ap) ?_
 refine .nil (hK _ _ (AW.ret ?_))
 cases h
 exact rv1
def dX(ep:List Int)(tY:Int):Option Int:=cnd (decide (tY<((ep).length:Int))) (gd (0≤tY∧tY<((ep).length:Int)) (some ((ep)[(tY).toNat]!))) (some (0:Int))
theorem f9 {ep:List Int}{tY:Int}{r:Int}(h:dX ep tY=some r):ax Tryz.prog 176 [dL (cI .i64) ep,dI .i64 tY] (dI .i64 r):=by
 refine bE (rs:=[.tmp 4]) (fun cx hx h0=>?_) Tryz.func176
 unfold dX at h
 refine ra hx ?_
 refine AW.seq (ra hx ?_)
 refine cdh h rfl (fun c5 h=>?_) (fun c5 h=>?_)
 refine rs hx fun K hK=>?_
 iterate 2 refine sa ?_
 obtain⟨ml,h⟩:=aC h
 have p8:(tY).toNat<(ep).length:=by omega
 refine s1 (g7 ml ct bG) ?_
 refine s1 (wF (c:=(cI .i64)) (l:=ep) (n:=(tY).toNat) (o:=0) bG p8) ?_
 refine sa ?_
 refine .nil (hK _ _ (AW.ret ?_))
 cases h
 exact rv1
 refine AW.skip (ra hx ?_)
 refine AW.ret ?_
 cases h
 exact rv1
def jU(aN:List Int)(aV:List Int):(List Int)×Int×Int→Option (((List Int)×Int×Int)⊕((List Int))):=fun (dK,bF,eF)=>cnd (decide (eF<(i64.wrap ((max ((aN).length:Int) ((aV).length:Int))+(1:Int))))) (bnd (dX aN eF) fun x2=>bnd (dX aV eF) fun x4=>bnd (some (i64.wrap ((i64.wrap (x2+x4))+bF))) fun x6=>gd ((dK++[Int.tmod x6 (65536:Int)]).length*8≤140737488355328) (some (.inl (dK++[Int.tmod x6 (65536:Int)],i64.wrap (Int.tdiv x6 (65536:Int)),i64.wrap (eF+(1:Int)))))) (some (.inr dK))
def kF(aN:List Int)(aV:List Int):Option (List Int):=bnd (bS (jU aN aV) (([]:List Int),(0:Int),(0:Int))) fun cr=>bnd (fx cr) fun jA=>some jA
set_option maxHeartbeats 4000000 in
theorem sY {aN:List Int}{aV:List Int}{r:List Int}(h:kF aN aV=some r):ax Tryz.prog 141 [dL (cI .i64) aN,dL (cI .i64) aV] (dL (cI .i64) r):=by
 refine bE (rs:=[.tmp 4]) (fun cx hx h0=>?_) Tryz.func141
 unfold kF at h
 refine rs hx fun K hK=>?_
 refine s1 (d:=dO 0 (cI .i64) ([]:List Int)) (gE ct bG) ?_
 refine .nil (hK _ _ (rs hx fun K hK=>?_))
 refine s1 (d:=dO 1 (cI .i64) ([]:List Int)) (gE ct bG) ?_
 refine .nil (hK _ _ (ra hx ?_))
 refine AW.seq (ra hx ?_)
 refine AW.block ?_
 obtain⟨cr,hy,h⟩:=ab h
 refine lp (S:=(List Int)×Int×Int) (X:=(List Int)) (fun (dK,bF,eF)=>[(0,dL (cI .i64) aN),(1,dL (cI .i64) aV),(5,dO 0 (cI .i64) dK),(6,dI .i64 bF),(7,dI .i64 eF)]) (fun (dK,bF,eF)=>⟨[],[(0,(dK).length,1,3)],1⟩) (PE cx (.exit 0) (fun cr=>[(5,dO 0 (cI .i64) cr)]) fun cr=>⟨[],[(0,(cr).length,1,3)],1⟩) hy ?_ ?_ ?_
 exact wk h0 [1] (wR rfl (wR rfl (wR rfl (wR rfl (wR rfl wTn))))) wVn (wL rfl rfl wLn)
 clear hy h
 rintro⟨dK,bF,eF⟩ y h
 dsimp only[jU] at h
 refine AW.seq (ra hx ?_)
 refine cdh h rfl (fun c5 h=>?_) (fun c5 h=>?_)
 refine AW.skip (AW.seq (AW.block (rs hx fun K hK=>?_)))
 iterate 2 refine sa ?_
 refine scb h f9 fun x2 h=>?_
 iterate 2 refine sa ?_
 refine scb h f9 fun x4 h=>?_
 iterate 3 refine sa ?_
 obtain⟨x6,pZ,h⟩:=ab h
 replace pZ:=bQ pZ
 refine s2 (d2:=dI .i64 x6) ly (gq (congrArg (dI .i64) pZ)) ?_
 refine .nil (hK _ _ (rs hx fun K hK=>?_))
 iterate 3 refine sa ?_
 refine s1 (d:=dO 1 (cI .i64) [Int.tmod x6 (65536:Int)]) (j9 ct bG) ?_
 obtain⟨Hi,h⟩:=aC h
 refine s1 (d:=dO 0 (cI .i64) (dK++[Int.tmod x6 (65536:Int)])) (qZ ct bG Hi) ?_
 refine sa ?_
 refine .nil (hK _ _ ?_)
 iterate 2 refine rb hx ?_
 cases h
 exact PS.l (pe0 h0 [0])
 refine AW.exit ?_
 try dsimp only
 try simp only[aU,reduceIte,Nat.reduceEqDiff,reduceCtorEq]
 cases h
 exact PS.r ⟨by nofun,PE.i (wk h0 [0] (wR rfl wTn) wVn (wL rfl rfl wLn))⟩
 rintro ex tm' hp' ⟨rfl,hw⟩
 try dsimp only
 try simp only[aU,reduceIte,Nat.reduceEqDiff,reduceCtorEq]
 refine AW.weak hw (rs hx fun K hK=>?_)
 refine sa ?_
 refine scb h kw fun jA h=>?_
 refine sa ?_
 refine .nil (hK _ _ (AW.ret ?_))
 cases h
 exact rv1
def gU(cG:Int):Option av:=cnd (decide ((0:Int)≤cG)) (bnd (cw false [Int.tmod cG (65536:Int),Int.tmod (i64.wrap (Int.tdiv cG (65536:Int))) (65536:Int),Int.tmod (i64.wrap (Int.tdiv cG (4294967296:Int))) (65536:Int),i64.wrap (Int.tdiv cG (281474976710656:Int))]) fun x2=>some x2) (bnd (some (i64.wrap (0 - (i64.wrap (cG+(1:Int)))))) fun x4=>bnd (kF [Int.tmod x4 (65536:Int),Int.tmod (i64.wrap (Int.tdiv x4 (65536:Int))) (65536:Int),Int.tmod (i64.wrap (Int.tdiv x4 (4294967296:Int))) (65536:Int),i64.wrap (Int.tdiv x4 (281474976710656:Int))] [(1:Int)]) fun x6=>bnd (cw true x6) fun x8=>some x8)
theorem lR {cG:Int}{r:av}(h:gU cG=some r):ax Tryz.prog 88 [dI .i64 cG] (dG aj r):=by
 refine bE (rs:=[.cell 2 41]) (fun cx hx h0=>?_) Tryz.func88
 unfold gU at h
 refine rs hx fun K hK=>?_
 refine s1 (bm (F:=aj.f be) ap) ?_
 refine .nil (hK _ _ (AW.seq (ra hx ?_)))
 refine cdh h rfl (fun c5 h=>?_) (fun c5 h=>?_)
 refine rs hx fun K hK=>?_
 iterate 10 refine sa ?_
 refine s1 (d:=dO 1 (cI .i64) [Int.tmod cG (65536:Int),Int.tmod (i64.wrap (Int.tdiv cG (65536:Int))) (65536:Int),Int.tmod (i64.wrap (Int.tdiv cG (4294967296:Int))) (65536:Int),i64.wrap (Int.tdiv cG (281474976710656:Int))]) (j9 ct bG) ?_
 refine scb h eR fun x2 h=>?_
 refine s0 (aE (b':=x2) (am.id _ _) ap) ?_
 refine .nil (hK _ _ (AW.ret ?_))
 cases h
 exact rv1
 refine AW.skip (rs hx fun K hK=>?_)
 iterate 3 refine sa ?_
 obtain⟨x4,p6,h⟩:=ab h
 replace p6:=bQ p6
 refine s2 (d2:=dI .i64 x4) ly (gq (congrArg (dI .i64) p6)) ?_
 refine .nil (hK _ _ (rs hx fun K hK=>?_))
 iterate 10 refine sa ?_
 refine s1 (d:=dO 1 (cI .i64) [Int.tmod x4 (65536:Int),Int.tmod (i64.wrap (Int.tdiv x4 (65536:Int))) (65536:Int),Int.tmod (i64.wrap (Int.tdiv x4 (4294967296:Int))) (65536:Int),i64.wrap (Int.tdiv x4 (281474976710656:Int))]) (j9 ct bG) ?_
 refine s1 (d:=dO 2 (cI .i64) [(1:Int)]) (j9 ct bG) ?_
 refine scb h sY fun x6 h=>?_
 refine scb h eR fun x8 h=>?_
 refine s0 (aE (b':=x8) (am.id _ _) ap) ?_
 refine .nil (hK _ _ (AW.ret ?_))
 cases h
 exact rv1
def jq(aY:av):(List Int)×Int→Option (((List Int)×Int)⊕((List Int))):=fun (bc,bt)=>cnd (decide (bt<(16:Int))) (gd (0≤bt∧bt<16) (gd (0≤bt∧bt<16) (gd ((bc++[i64.wrap (Int.tmod ((aY.vW)[(bt).toNat]!) (65536:Int)),i64.wrap (u32.wrap (Int.tdiv ((aY.vW)[(bt).toNat]!) (65536:Int)))]).length*8≤140737488355328) (some (.inl (bc++[i64.wrap (Int.tmod ((aY.vW)[(bt).toNat]!) (65536:Int)),i64.wrap (u32.wrap (Int.tdiv ((aY.vW)[(bt).toNat]!) (65536:Int)))],i64.wrap (bt+(1:Int)))))))) (some (.inr bc))
def bM(aY:av):Option (List Int):=bnd (bS (jq aY) (([]:List Int),(0:Int))) fun bo=>bnd (fx bo) fun x8=>some x8
theorem dh {aY:av}{r:List Int}(h:bM aY=some r):ax Tryz.prog 143 [dG aj aY] (dL (cI .i64) r):=by
 refine bE (rs:=[.tmp 2]) (fun cx hx h0=>?_) Tryz.func143
 unfold bM at h
 refine rs hx fun K hK=>?_
 refine sa ?_
 refine s1 (d:=dO 1 (cI .i64) ([]:List Int)) (gE ct bG) ?_
 refine .nil (hK _ _ (rs hx fun K hK=>?_))
 refine s1 (d:=dO 2 (cI .i64) ([]:List Int)) (gE ct bG) ?_
 refine .nil (hK _ _ (AW.seq (ra hx ?_)))
 refine AW.block ?_
 obtain⟨bo,hy,h⟩:=ab h
 refine lp (S:=(List Int)×Int) (X:=(List Int)) (fun (bc,bt)=>[(1,.pt 0 0),(3,dO 1 (cI .i64) bc),(4,dI .i64 bt)]) (fun (bc,bt)=>⟨[(0,dC (aj.f aY))],[(1,(bc).length,1,3)],2⟩) (PE cx (.exit 0) (fun bo=>[(3,dO 0 (cI .i64) bo)]) fun bo=>⟨[],[(0,(bo).length,1,3)],1⟩) hy ?_ ?_ ?_
 exact wk h0 [0,2] (wR rfl (wR rfl (wR rfl wTn))) (vC rfl wVn) (wL rfl rfl wLn)
 clear hy h
 rintro⟨bc,bt⟩ y h
 dsimp only[jq] at h
 refine AW.seq (ra hx ?_)
 refine cdh h rfl (fun c5 h=>?_) (fun c5 h=>?_)
 refine AW.skip (AW.seq (AW.block (rqd [] hx fun K hK=>?_)))
 iterate 3 refine sa ?_
 obtain⟨ml,h⟩:=aC h
 have p8:(bt).toNat<16:=by omega
 refine s1 (cJ ml aA aG) ?_
 refine s1 (aW (am.comp (aT aY) (am.vec (cI .u32) aY.vW (bt).toNat p8) (fun _=>rfl)) aG) ?_
 iterate 4 refine sa ?_
 obtain⟨Eu,h⟩:=aC h
 have Lt:(bt).toNat<16:=by omega
 refine s1 (cJ Eu aA aG) ?_
 refine s1 (aW (am.comp (aT aY) (am.vec (cI .u32) aY.vW (bt).toNat Lt) (fun _=>rfl)) aG) ?_
 iterate 2 refine sa ?_
 refine s1 (CW ct bG) ?_
 obtain⟨hc6,h⟩:=aC h
 refine s1 (d:=dO 1 (cI .i64) (bc++[i64.wrap (Int.tmod ((aY.vW)[(bt).toNat]!) (65536:Int)),i64.wrap (u32.wrap (Int.tdiv ((aY.vW)[(bt).toNat]!) (65536:Int)))])) (qZ ct bG hc6) ?_
 refine sa ?_
 refine .nil (hK _ _ (rb hx ?_))
 cases h
 exact PS.l (pe0 h0 [0,1])
 refine AW.exit ?_
 try dsimp only
 try simp only[aU,reduceIte,Nat.reduceEqDiff,reduceCtorEq]
 cases h
 exact PS.r ⟨by nofun,PE.i (wk h0 [1] (wR rfl wTn) wVn (wL rfl rfl wLn))⟩
 rintro ex tm' hp' ⟨rfl,hw⟩
 try dsimp only
 try simp only[aU,reduceIte,Nat.reduceEqDiff,reduceCtorEq]
 refine AW.weak hw (rs hx fun K hK=>?_)
 refine sa ?_
 refine scb h kw fun x8 h=>?_
 refine sa ?_
 refine .nil (hK _ _ (AW.ret ?_))
 cases h
 exact rv1
def po(aY:av):Option av:=bnd (bD aY) fun x1=>cnd (!x1) (bnd (fH) fun x4=>some x4) (bnd (bM aY) fun x6=>bnd (cw false x6) fun x8=>some x8)
theorem GE {aY:av}{r:av}(h:po aY=some r):ax Tryz.prog 167 [dG aj aY] (dG aj r):=by
 refine bE (rs:=[.cell 2 41]) (fun cx hx h0=>?_) Tryz.func167
 unfold po at h
 refine rs hx fun K hK=>?_
 refine sa ?_
 refine s1 (bm (F:=aj.f be) ap) ?_
 refine .nil (hK _ _ (AW.seq (rs hx fun K hK=>?_)))
 refine s1 (d:=dG aj aY) (au (am.id _ _) ap) ?_
 refine scb h cM fun x1 h=>?_
 refine sa ?_
 refine .nil (hK _ _ (cdh h rfl (fun bb h=>?_) (fun bb h=>?_)))
 refine rs hx fun K hK=>?_
 refine scb h ke fun x4 h=>?_
 refine s0 (aE (b':=x4) (am.id _ _) ap) ?_
 refine .nil (hK _ _ (AW.ret ?_))
 cases h
 exact rv1
 refine AW.skip (rs hx fun K hK=>?_)
 refine s1 (d:=dG aj aY) (au (am.id _ _) ap) ?_
 refine scb h dh fun x6 h=>?_
 refine scb h eR fun x8 h=>?_
 refine s0 (aE (b':=x8) (am.id _ _) ap) ?_
 refine .nil (hK _ _ (AW.ret ?_))
 cases h
 exact rv1
def iD(ep:List Int)(tY:Int):Option Int:=cnd (decide (tY<(0:Int))) (some (0:Int)) (bnd (dX ep tY) fun x2=>some x2)
theorem sZ {ep:List Int}{tY:Int}{r:Int}(h:iD ep tY=some r):ax Tryz.prog 194 [dL (cI .i64) ep,dI .i64 tY] (dI .i64 r):=by
 refine bE (rs:=[.tmp 4]) (fun cx hx h0=>?_) Tryz.func194
 unfold iD at h
 refine ra hx ?_
 refine AW.seq (ra hx ?_)
 refine cdh h rfl (fun c5 h=>?_) (fun c5 h=>?_)
 refine ra hx ?_
 refine AW.ret ?_
 cases h
 exact rv1
 refine AW.skip (rs hx fun K hK=>?_)
 iterate 2 refine sa ?_
 refine scb h f9 fun x2 h=>?_
 refine sa ?_
 refine .nil (hK _ _ (AW.ret ?_))
 cases h
 exact rv1
def jo(aN:List Int)(aV:List Int)(bc:Int):Int×(List Int)→Option ((Int×(List Int))⊕((List Int))):=fun (io,rO)=>cnd (decide (io<((aV).length:Int))) (gd (0≤i64.wrap (bc+io)∧i64.wrap (bc+io)<(((i64.wrap ((i64.wrap (((aN).length:Int)+((aV).length:Int)))+(1:Int))).toNat:Nat):Int)∧i64.wrap (bc+io)<((rO).length:Int)) (gd (0≤bc∧bc<((aN).length:Int)) (gd (0≤io∧io<((aV).length:Int)) (gd (0≤i64.wrap (bc+io)∧i64.wrap (bc+io)<(((i64.wrap ((i64.wrap (((aN).length:Int)+((aV).length:Int)))+(1:Int))).toNat:Nat):Int)∧i64.wrap (bc+io)<((rO).length:Int)) (bnd (some ((rO).set ((i64.wrap (bc+io)).toNat) (i64.wrap (((rO)[(i64.wrap (bc+io)).toNat]!)+(i64.wrap (((aN)[(bc).toNat]!)*((aV)[(io).toNat]!))))))) fun jB=>some (.inl (i64.wrap (io+(1:Int)),jB))))))) (some (.inr rO))
def gJ(aN:List Int)(aV:List Int):Int×Int×(List Int)→Option ((Int×Int×(List Int))⊕((List Int))):=fun (H0,oy,sM)=>cnd (decide (oy<(((i64.wrap ((i64.wrap (((aN).length:Int)+((aV).length:Int)))+(1:Int))).toNat:Nat):Int))) (gd (0≤oy∧oy<(((i64.wrap ((i64.wrap (((aN).length:Int)+((aV).length:Int)))+(1:Int))).toNat:Nat):Int)∧oy<((sM).length:Int)) (bnd (some (i64.wrap (((sM)[(oy).toNat]!)+H0))) fun q9=>gd (0≤oy∧oy<(((i64.wrap ((i64.wrap (((aN).length:Int)+((aV).length:Int)))+(1:Int))).toNat:Nat):Int)∧oy<((sM).length:Int)) (some (.inl (i64.wrap (Int.tdiv q9 (65536:Int)),i64.wrap (oy+(1:Int)),(sM).set ((oy).toNat) (Int.tmod q9 (65536:Int))))))) (some (.inr sM))
def jT(aN:List Int)(aV:List Int):Int×(List Int)→Option ((Int×(List Int))⊕((List Int))):=fun (bc,bt)=>cnd (decide (bc<((aN).length:Int))) (bnd (bS (jo aN aV bc) ((0:Int),bt)) fun yz=>bnd (bS (gJ aN aV) ((0:Int),(0:Int),yz)) fun yv=>some (.inl (i64.wrap (bc+(1:Int)),yv))) (some (.inr bt))
def li(aN:List Int)(aV:List Int):Option (List Int):=gd (0≤i64.wrap ((i64.wrap (((aN).length:Int)+((aV).length:Int)))+(1:Int))∧i64.wrap ((i64.wrap (((aN).length:Int)+((aV).length:Int)))+(1:Int))≤1000000) (bnd (bS (jT aN aV) ((0:Int),List.replicate (i64.wrap ((i64.wrap (((aN).length:Int)+((aV).length:Int)))+(1:Int))).toNat (0:Int))) fun bo=>gd ((i64.wrap ((i64.wrap (((aN).length:Int)+((aV).length:Int)))+(1:Int))).toNat=(bo).length) (bnd (fx bo) fun Db=>some Db))
set_option maxHeartbeats 4000000 in
theorem wi {aN:List Int}{aV:List Int}{r:List Int}(h:li aN aV=some r):ax Tryz.prog 173 [dL (cI .i64) aN,dL (cI .i64) aV] (dL (cI .i64) r):=by
 refine bE (rs:=[.tmp 4]) (fun cx hx h0=>?_) Tryz.func173
 unfold li at h
 refine rs hx fun K hK=>?_
 refine s1 (d:=dO 0 (cI .i64) ([]:List Int)) (gE ct bG) ?_
 refine .nil (hK _ _ (rs hx fun K hK=>?_))
 iterate 6 refine sa ?_
 obtain⟨I9,h⟩:=aC h
 refine q1 (sMk (c:=(cI .i64)) (z0:=(0:Int)) tok I9 ct bG (by first|rfl|kernel_rfl)) ?_
 refine sa ?_
 refine .nil (hK _ _ (AW.seq (ra hx ?_)))
 refine AW.block ?_
 obtain⟨bo,hy,h⟩:=ab h
 refine lp (S:=Int×(List Int)) (X:=(List Int)) (fun (bc,bt)=>[(0,dL (cI .i64) aN),(1,dL (cI .i64) aV),(5,.ow 0 0 1 ((i64.wrap ((i64.wrap (((aN).length:Int)+((aV).length:Int)))+(1:Int))).toNat)),(6,dI .i64 bc)]) (fun (bc,bt)=>⟨[(0,dC ((cW (cI .i64)).f bt))],[],1⟩) (PE cx (.exit 0) (fun bo=>[(5,.ow 0 0 1 ((i64.wrap ((i64.wrap (((aN).length:Int)+((aV).length:Int)))+(1:Int))).toNat))]) fun bo=>⟨[(0,dC ((cW (cI .i64)).f bo))],[],1⟩) hy ?_ ?_ ?_
 exact wk h0 [1] (wR rfl (wR rfl (wR rfl (wR rfl wTn)))) (vC rfl wVn) wLn
 clear hy h
 rintro⟨bc,bt⟩ y h
 dsimp only[jT] at h
 refine AW.seq (ra hx ?_)
 refine cdh h rfl (fun oq h=>?_) (fun oq h=>?_)
 refine AW.skip (AW.seq (AW.block (AW.seq (ra hx ?_))))
 refine AW.block ?_
 obtain⟨yz,hy,h⟩:=ab h
 refine lp (S:=Int×(List Int)) (X:=(List Int)) (fun (io,rO)=>[(0,dL (cI .i64) aN),(1,dL (cI .i64) aV),(5,.ow 0 0 1 ((i64.wrap ((i64.wrap (((aN).length:Int)+((aV).length:Int)))+(1:Int))).toNat)),(6,dI .i64 bc),(7,dI .i64 io)]) (fun (io,rO)=>⟨[(0,dC ((cW (cI .i64)).f rO))],[],1⟩) (PE cx (.exit 2) (fun yz=>[(0,dL (cI .i64) aN),(1,dL (cI .i64) aV),(5,.ow 0 0 1 ((i64.wrap ((i64.wrap (((aN).length:Int)+((aV).length:Int)))+(1:Int))).toNat)),(6,dI .i64 bc)]) fun yz=>⟨[(0,dC ((cW (cI .i64)).f yz))],[],1⟩) hy ?_ ?_ ?_
 exact wk h0 [0] (wR rfl (wR rfl (wR rfl (wR rfl (wR rfl wTn))))) (vC rfl wVn) wLn
 clear hy h
 rintro⟨io,rO⟩ y h
 dsimp only[jo] at h
 refine AW.seq (ra hx ?_)
 refine cdh h rfl (fun bb h=>?_) (fun bb h=>?_)
 refine AW.skip (AW.seq (AW.block (rqd [] hx fun K hK=>?_)))
 iterate 8 refine sa ?_
 obtain⟨Eu,h⟩:=aC h
 have Lt:(i64.wrap (bc+io)).toNat<(rO).length:=by omega
 refine s1 (vf ⟨Eu.1,Eu.2.1⟩ ct bG) ?_
 refine s1 (aW (am.seqW (cI .i64) rO ((i64.wrap (bc+io)).toNat) Lt) bG) ?_
 iterate 2 refine sa ?_
 obtain⟨hc6,h⟩:=aC h
 have hn7:(bc).toNat<(aN).length:=by omega
 refine s1 (g7 hc6 ct bG) ?_
 refine s1 (wF (c:=(cI .i64)) (l:=aN) (n:=(bc).toNat) (o:=0) bG hn7) ?_
 iterate 2 refine sa ?_
 obtain⟨Hi,h⟩:=aC h
 have IZ:(io).toNat<(aV).length:=by omega
 refine s1 (g7 Hi ct bG) ?_
 refine s1 (wF (c:=(cI .i64)) (l:=aV) (n:=(io).toNat) (o:=0) bG IZ) ?_
 iterate 2 refine sa ?_
 obtain⟨Hk,h⟩:=aC h
 have Od:(i64.wrap (bc+io)).toNat<(rO).length:=by omega
 refine s1 (vf ⟨Hk.1,Hk.2.1⟩ ct bG) ?_
 obtain⟨jB,uR,h⟩:=ab h
 replace uR:=bQ uR
 refine s0 (T_stVw (b':=i64.wrap (((rO)[(i64.wrap (bc+io)).toNat]!)+(i64.wrap (((aN)[(bc).toNat]!)*((aV)[(io).toNat]!))))) (am.seqW (cI .i64) rO ((i64.wrap (bc+io)).toNat) Od) bG uR) ?_
 refine .nil (hK _ _ (rb hx ?_))
 cases h
 exact PS.l (pe0 h0 [0])
 refine AW.exit ?_
 try dsimp only
 try simp only[aU,reduceIte,Nat.reduceEqDiff,reduceCtorEq]
 cases h
 exact PS.r ⟨by nofun,PE.i (wk h0 [0] (wR rfl (wR rfl (wR rfl (wR rfl wTn)))) (vC rfl wVn) wLn)⟩
 rintro ex tm' hp' ⟨rfl,hw⟩
 try dsimp only
 try simp only[aU,reduceIte,Nat.reduceEqDiff,reduceCtorEq]
 refine AW.weak hw ?_
 iterate 2 refine ra hx ?_
 refine AW.block ?_
 obtain⟨yv,hy,h⟩:=ab h
 refine lp (S:=Int×Int×(List Int)) (X:=(List Int)) (fun (H0,oy,sM)=>[(0,dL (cI .i64) aN),(1,dL (cI .i64) aV),(5,.ow 0 0 1 ((i64.wrap ((i64.wrap (((aN).length:Int)+((aV).length:Int)))+(1:Int))).toNat)),(6,dI .i64 bc),(8,dI .i64 H0),(9,dI .i64 oy)]) (fun (H0,oy,sM)=>⟨[(0,dC ((cW (cI .i64)).f sM))],[],1⟩) (PE cx (.exit 4) (fun yv=>[(0,dL (cI .i64) aN),(1,dL (cI .i64) aV),(5,.ow 0 0 1 ((i64.wrap ((i64.wrap (((aN).length:Int)+((aV).length:Int)))+(1:Int))).toNat)),(6,dI .i64 bc)]) fun yv=>⟨[(0,dC ((cW (cI .i64)).f yv))],[],1⟩) hy ?_ ?_ ?_
 exact wk h0 [0] (wR rfl (wR rfl (wR rfl (wR rfl (wR rfl (wR rfl wTn)))))) (vC rfl wVn) wLn
 clear hy h
 rintro⟨H0,oy,sM⟩ y h
 dsimp only[gJ] at h
 refine AW.seq (ra hx ?_)
 refine cdh h rfl (fun nJ h=>?_) (fun nJ h=>?_)
 refine AW.skip (AW.seq (AW.block (rs hx fun K hK=>?_)))
 iterate 2 refine sa ?_
 obtain⟨Hj,h⟩:=aC h
 have I0:(oy).toNat<(sM).length:=by omega
 refine s1 (vf ⟨Hj.1,Hj.2.1⟩ ct bG) ?_
 refine s1 (aW (am.seqW (cI .i64) sM ((oy).toNat) I0) bG) ?_
 iterate 2 refine sa ?_
 obtain⟨q9,zu,h⟩:=ab h
 replace zu:=bQ zu
 refine s2 (d2:=dI .i64 q9) ly (gq (congrArg (dI .i64) zu)) ?_
 refine .nil (hK _ _ (rs hx fun K hK=>?_))
 iterate 4 refine sa ?_
 obtain⟨Lz,h⟩:=aC h
 have Oa:(oy).toNat<(sM).length:=by omega
 refine s1 (vf ⟨Lz.1,Lz.2.1⟩ ct bG) ?_
 refine s0 (aE (b':=Int.tmod q9 (65536:Int)) (am.seqW (cI .i64) sM ((oy).toNat) Oa) bG) ?_
 refine .nil (hK _ _ ?_)
 iterate 2 refine rb hx ?_
 cases h
 exact PS.l (pe0 h0 [0])
 refine AW.exit ?_
 try dsimp only
 try simp only[aU,reduceIte,Nat.reduceEqDiff,reduceCtorEq]
 cases h
 exact PS.r ⟨by nofun,PE.i (wk h0 [0] (wR rfl (wR rfl (wR rfl (wR rfl wTn)))) (vC rfl wVn) wLn)⟩
 rintro ex tm' hp' ⟨rfl,hw⟩
 try dsimp only
 try simp only[aU,reduceIte,Nat.reduceEqDiff,reduceCtorEq]
 refine AW.weak hw (rb hx ?_)
 cases h
 exact PS.l (pe0 h0 [0])
 refine AW.exit ?_
 try dsimp only
 try simp only[aU,reduceIte,Nat.reduceEqDiff,reduceCtorEq]
 cases h
 exact PS.r ⟨by nofun,PE.i (wk h0 [0] (wR rfl wTn) (vC rfl wVn) wLn)⟩
 rintro ex tm' hp' ⟨rfl,hw⟩
 try dsimp only
 try simp only[aU,reduceIte,Nat.reduceEqDiff,reduceCtorEq]
 refine AW.weak hw (rs hx fun K hK=>?_)
 refine sa ?_
 obtain⟨hc24,h⟩:=aC h
 refine fzO (cI .i64) (n:=(i64.wrap ((i64.wrap (((aN).length:Int)+((aV).length:Int)))+(1:Int))).toNat) 0 [5,70] hc24 ?_ (all2 rfl (all1 rfl))
 refine scb h kw fun Db h=>?_
 refine sa ?_
 refine .nil (hK _ _ (AW.ret ?_))
 cases h
 exact rv1
def kX(aN:List Int)(aV:List Int):Int→Option (Int⊕(Bool⊕Unit)):=fun aJ=>cnd (decide ((0:Int)≤aJ)) (bnd (dX aN aJ) fun x4=>bnd (dX aV aJ) fun x6=>cnd (decide (x4≠x6)) (bnd (dX aN aJ) fun x9=>bnd (dX aV aJ) fun ro=>some (.inr (.inl (decide (x9<ro))))) (some (.inl (i64.wrap (aJ - (1:Int)))))) (some (.inr (.inr ())))
def mu(aN:List Int)(aV:List Int):Option Bool:=bnd (some (i64.wrap ((max ((aN).length:Int) ((aV).length:Int)) - (1:Int)))) fun x1=>bnd (bS (kX aN aV) x1) fun y13=>match y13 with| .inl r=>some r| .inr ()=>some false
theorem xE {aN:List Int}{aV:List Int}{r:Bool}(h:mu aN aV=some r):ax Tryz.prog 170 [dL (cI .i64) aN,dL (cI .i64) aV] (dB r):=by
 refine bE (rs:=[.tmp 4]) (fun cx hx h0=>?_) Tryz.func170
 unfold mu at h
 refine ra hx ?_
 refine AW.seq (rs hx fun K hK=>?_)
 iterate 6 refine sa ?_
 obtain⟨x1,vu,h⟩:=ab h
 replace vu:=bQ vu
 refine s2 (d2:=dI .i64 x1) ly (gq (congrArg (dI .i64) vu)) ?_
 refine .nil (hK _ _ (AW.block ?_))
 obtain⟨y,hy,h⟩:=ab h
 refine lp (S:=Int) (X:=Bool⊕Unit) (fun aJ=>[(0,dL (cI .i64) aN),(1,dL (cI .i64) aV),(5,dI .i64 aJ)]) (fun aJ=>⟨[],[],0⟩) (PS (PR [.tmp 4] fun r=>dB r) (PE cx (.exit 0) (fun ()=>[]) fun ()=>⟨[],[],0⟩)) hy ?_ ?_ ?_
 exact wk h0 [] (wR rfl (wR rfl (wR rfl wTn))) wVn wLn
 clear hy h
 rintro aJ y h
 dsimp only[kX] at h
 refine AW.seq (ra hx ?_)
 refine cdh h rfl (fun bb h=>?_) (fun bb h=>?_)
 refine AW.skip (AW.seq (AW.block (rs hx fun K hK=>?_)))
 iterate 2 refine sa ?_
 refine scb h f9 fun x4 h=>?_
 iterate 2 refine sa ?_
 refine scb h f9 fun x6 h=>?_
 refine sa ?_
 refine .nil (hK _ _ (cdh h rfl (fun iS h=>?_) (fun iS h=>?_)))
 refine rs hx fun K hK=>?_
 iterate 2 refine sa ?_
 refine scb h f9 fun x9 h=>?_
 iterate 2 refine sa ?_
 refine scb h f9 fun ro h=>?_
 iterate 2 refine sa ?_
 refine .nil (hK _ _ (AW.ret ?_))
 cases h
 refine PS.r ⟨by nofun,PS.l (PR.i ?_)⟩
 exact rv1
 refine AW.skip (rb hx ?_)
 cases h
 exact PS.l (pe0 h0 [])
 refine AW.exit ?_
 try dsimp only
 try simp only[aU,reduceIte,Nat.reduceEqDiff,reduceCtorEq]
 cases h
 exact PS.r ⟨by nofun,PS.r (PE.i (wk h0 [] wTn wVn wLn))⟩
 rcases y with r|⟨⟩
 rintro ex tm' hp' ⟨rfl,hw⟩
 cases h
 exact hw
 rintro ex tm' hp' ⟨rfl,hw⟩
 try dsimp only
 try simp only[aU,reduceIte,Nat.reduceEqDiff,reduceCtorEq]
 refine AW.weak hw (ra hx ?_)
 refine AW.ret ?_
 cases h
 exact rv1
def jp(aN:List Int)(aV:List Int):(List Int)×Int×Int→Option (((List Int)×Int×Int)⊕((List Int))):=fun (dK,bF,eF)=>cnd (decide (eF<((aN).length:Int))) (gd (0≤eF∧eF<((aN).length:Int)) (bnd (dX aV eF) fun x4=>bnd (some (i64.wrap ((i64.wrap (((aN)[(eF).toNat]!) - x4)) - bF))) fun x6=>bnd (S:=Int×Int) (cnd (decide (x6<(0:Int))) (some (((1:Int),i64.wrap (x6+(65536:Int))))) (some (((0:Int),x6)))) fun (j6,pU)=>gd ((dK++[pU]).length*8≤140737488355328) (some (.inl (dK++[pU],j6,i64.wrap (eF+(1:Int))))))) (some (.inr dK))
def ij(aN:List Int)(aV:List Int):Option (List Int):=bnd (bS (jp aN aV) (([]:List Int),(0:Int),(0:Int))) fun cr=>bnd (fx cr) fun jB=>some jB
set_option maxHeartbeats 4000000 in
theorem o3 {aN:List Int}{aV:List Int}{r:List Int}(h:ij aN aV=some r):ax Tryz.prog 171 [dL (cI .i64) aN,dL (cI .i64) aV] (dL (cI .i64) r):=by
 refine bE (rs:=[.tmp 4]) (fun cx hx h0=>?_) Tryz.func171
 unfold ij at h
 refine rs hx fun K hK=>?_
 refine s1 (d:=dO 0 (cI .i64) ([]:List Int)) (gE ct bG) ?_
 refine .nil (hK _ _ (rs hx fun K hK=>?_))
 refine s1 (d:=dO 1 (cI .i64) ([]:List Int)) (gE ct bG) ?_
 refine .nil (hK _ _ (ra hx ?_))
 refine AW.seq (ra hx ?_)
 refine AW.block ?_
 obtain⟨cr,hy,h⟩:=ab h
 refine lp (S:=(List Int)×Int×Int) (X:=(List Int)) (fun (dK,bF,eF)=>[(0,dL (cI .i64) aN),(1,dL (cI .i64) aV),(5,dO 0 (cI .i64) dK),(6,dI .i64 bF),(7,dI .i64 eF)]) (fun (dK,bF,eF)=>⟨[],[(0,(dK).length,1,3)],1⟩) (PE cx (.exit 0) (fun cr=>[(5,dO 0 (cI .i64) cr)]) fun cr=>⟨[],[(0,(cr).length,1,3)],1⟩) hy ?_ ?_ ?_
 exact wk h0 [1] (wR rfl (wR rfl (wR rfl (wR rfl (wR rfl wTn))))) wVn (wL rfl rfl wLn)
 clear hy h
 rintro⟨dK,bF,eF⟩ y h
 dsimp only[jp] at h
 refine AW.seq (ra hx ?_)
 refine cdh h rfl (fun c5 h=>?_) (fun c5 h=>?_)
 refine AW.skip (AW.seq (AW.block (rsd [176] hx fun K hK=>?_)))
 iterate 2 refine sa ?_
 obtain⟨ml,h⟩:=aC h
 have p8:(eF).toNat<(aN).length:=by omega
 refine s1 (g7 ml ct bG) ?_
 refine s1 (wF (c:=(cI .i64)) (l:=aN) (n:=(eF).toNat) (o:=0) bG p8) ?_
 iterate 2 refine sa ?_
 refine cqb h f9 fun x4 h=>?_
 iterate 3 refine sa ?_
 obtain⟨x6,pZ,h⟩:=ab h
 replace pZ:=bQ pZ
 refine s2 (d2:=dI .i64 x6) ly (gq (congrArg (dI .i64) pZ)) ?_
 refine .nil (hK _ _ (ra hx ?_))
 refine AW.seq ?_
 obtain⟨y,hy,h⟩:=ab h
 refine jn ((PE cx .normal (fun (j6,pU)=>[(0,dL (cI .i64) aN),(1,dL (cI .i64) aV),(5,dO 0 (cI .i64) dK),(6,dI .i64 j6),(7,dI .i64 eF),(8,dI .i64 pU)]) fun (j6,pU)=>⟨[],[(0,(dK).length,1,3)],1⟩) y) ?_ ?_
 replace h:=hy
 refine ra hx ?_
 refine cdh h rfl (fun iS h=>?_) (fun iS h=>?_)
 refine ra hx ?_
 refine rb hx ?_
 cases h
 exact pe0 h0 [0]
 refine AW.skip ?_
 cases h
 exact pe0 h0 [0]
 obtain⟨j6,pU⟩:=y
 rintro ex tm' hp' ⟨rfl,hw⟩
 refine AW.weak hw (rq hx fun K hK=>?_)
 iterate 2 refine sa ?_
 refine s1 (d:=dO 1 (cI .i64) [pU]) (j9 ct bG) ?_
 obtain⟨Hk,h⟩:=aC h
 refine s1 (d:=dO 0 (cI .i64) (dK++[pU])) (qZ ct bG Hk) ?_
 refine sa ?_
 refine .nil (hK _ _ (rb hx ?_))
 cases h
 exact PS.l (pe0 h0 [0])
 refine AW.exit ?_
 try dsimp only
 try simp only[aU,reduceIte,Nat.reduceEqDiff,reduceCtorEq]
 cases h
 exact PS.r ⟨by nofun,PE.i (wk h0 [0] (wR rfl wTn) wVn (wL rfl rfl wLn))⟩
 rintro ex tm' hp' ⟨rfl,hw⟩
 try dsimp only
 try simp only[aU,reduceIte,Nat.reduceEqDiff,reduceCtorEq]
 refine AW.weak hw (rs hx fun K hK=>?_)
 refine sa ?_
 refine scb h kw fun jB h=>?_
 refine sa ?_
 refine .nil (hK _ _ (AW.ret ?_))
 cases h
 exact rv1
def iA(aV:List Int)(mD:List Int):Int×(List Int)→Option ((Int×(List Int))⊕(Int×(List Int))):=fun (sO,CN)=>bnd (mu mD CN) fun xu=>cnd xu (bnd (ij CN aV) fun Mr=>some (.inl (i64.wrap (sO - (1:Int)),Mr))) (some (.inr (sO,CN)))
def iB(aN:List Int)(aV:List Int)(x6:Int):(List Int)×Int×(List Int)→Option (((List Int)×Int×(List Int))⊕((List Int)×(List Int))):=fun (gN,mG,ve)=>cnd (decide ((0:Int)≤mG)) (gd (0≤mG∧mG<((aN).length:Int)) (gd (([(aN)[(mG).toNat]!]++gN).length*8≤140737488355328) (bnd (fx ([(aN)[(mG).toNat]!]++gN)) fun mD=>bnd (iD mD ((aV).length:Int)) fun sT=>bnd (iD mD (i64.wrap (((aV).length:Int) - (1:Int)))) fun q9=>bnd (iD mD (i64.wrap (((aV).length:Int) - (2:Int)))) fun Ay=>gd (x6≠0) (bnd (some (min (65535:Int) (i64.wrap (Int.tdiv (i64.wrap ((i64.wrap ((i64.wrap (sT*(4294967296:Int)))+(i64.wrap (q9*(65536:Int)))))+Ay)) x6)))) fun sS=>bnd (li aV [sS]) fun Db=>bnd (bS (iA aV mD) (sS,Db)) fun (vK,yy)=>gd (0≤mG∧mG<(((((aN).length:Int)).toNat:Nat):Int)∧mG<((ve).length:Int)) (bnd (ij mD yy) fun vS=>some (.inl (vS,i64.wrap (mG - (1:Int)),(ve).set ((mG).toNat) vK))))))) (some (.inr (gN,ve)))
def iC(aN:List Int)(aV:List Int):Option ((List Int)×(List Int)):=gd (0≤((aN).length:Int)∧((aN).length:Int)≤1000000) (gd (0≤i64.wrap (((aV).length:Int) - (1:Int))∧i64.wrap (((aV).length:Int) - (1:Int))<((aV).length:Int)) (bnd (iD aV (i64.wrap (((aV).length:Int) - (2:Int)))) fun x4=>bnd (some (i64.wrap ((i64.wrap (((aV)[(i64.wrap (((aV).length:Int) - (1:Int))).toNat]!)*(65536:Int)))+x4))) fun x6=>bnd (some (i64.wrap (((aN).length:Int) - (1:Int)))) fun x8=>bnd (bS (iB aN aV x6) (([]:List Int),x8,List.replicate (((aN).length:Int)).toNat (0:Int))) fun (yA,vL)=>gd ((((aN).length:Int)).toNat=(vL).length) (bnd (fx vL) fun Da=>some (Da,yA))))
set_option maxHeartbeats 4000000 in
theorem uu {aN:List Int}{aV:List Int}{r:(List Int)×(List Int)}(h:iC aN aV=some r):ax Tryz.prog 168 [dL (cI .i64) aN,dL (cI .i64) aV] (.tu [dL (cI .i64) r.1,dL (cI .i64) r.2]):=by
 refine bE (rs:=[.tmp 4,.tmp 5]) (fun cx hx h0=>?_) Tryz.func168
 unfold iC at h
 refine rs hx fun K hK=>?_
 refine s1 (d:=dO 0 (cI .i64) ([]:List Int)) (gE ct bG) ?_
 refine s1 (d:=dO 1 (cI .i64) ([]:List Int)) (gE ct bG) ?_
 refine .nil (hK _ _ (rs hx fun K hK=>?_))
 iterate 2 refine sa ?_
 obtain⟨I9,h⟩:=aC h
 refine q1 (sMk (c:=(cI .i64)) (z0:=(0:Int)) tok I9 ct bG (by first|rfl|kernel_rfl)) ?_
 refine sa ?_
 refine .nil (hK _ _ (ra hx ?_))
 refine rsd [194] hx fun K hK=>?_
 iterate 3 refine sa ?_
 obtain⟨ml,h⟩:=aC h
 have p8:(i64.wrap (((aV).length:Int) - (1:Int))).toNat<(aV).length:=by omega
 refine s1 (g7 ml ct bG) ?_
 refine s1 (wF (c:=(cI .i64)) (l:=aV) (n:=(i64.wrap (((aV).length:Int) - (1:Int))).toNat) (o:=0) bG p8) ?_
 iterate 4 refine sa ?_
 refine cqb h sZ fun x4 h=>?_
 refine sa ?_
 obtain⟨x6,pZ,h⟩:=ab h
 replace pZ:=bQ pZ
 refine s2 (d2:=dI .i64 x6) ly (gq (congrArg (dI .i64) pZ)) ?_
 refine .nil (hK _ _ (rs hx fun K hK=>?_))
 refine s1 (d:=dO 3 (cI .i64) ([]:List Int)) (gE ct bG) ?_
 refine .nil (hK _ _ (AW.seq (rs hx fun K hK=>?_)))
 iterate 3 refine sa ?_
 obtain⟨x8,J8,h⟩:=ab h
 replace J8:=bQ J8
 refine s2 (d2:=dI .i64 x8) ly (gq (congrArg (dI .i64) J8)) ?_
 refine .nil (hK _ _ (AW.block ?_))
 obtain⟨y,hy,h⟩:=ab h
 refine lp (S:=(List Int)×Int×(List Int)) (X:=(List Int)×(List Int)) (fun (gN,mG,ve)=>[(0,dL (cI .i64) aN),(1,dL (cI .i64) aV),(6,.ow 0 0 1 ((((aN).length:Int)).toNat)),(7,dI .i64 ((aV).length:Int)),(8,dI .i64 x6),(9,dL (cI .i64) gN),(10,dI .i64 mG)]) (fun (gN,mG,ve)=>⟨[(0,dC ((cW (cI .i64)).f ve))],[],1⟩) (PE cx (.exit 0) (fun (yA,vL)=>[(6,.ow 0 0 1 ((((aN).length:Int)).toNat)),(9,dL (cI .i64) yA)]) fun (yA,vL)=>⟨[(0,dC ((cW (cI .i64)).f vL))],[],1⟩) hy ?_ ?_ ?_
 exact wk h0 [2] (wR rfl (wR rfl (wR rfl (wR rfl (wR rfl (wT rfl (Nv _) rfl rfl (wR rfl wTn))))))) (vC rfl wVn) wLn
 clear hy h
 rintro⟨gN,mG,ve⟩ y h
 dsimp only[iB] at h
 refine AW.seq (ra hx ?_)
 refine cdh h rfl (fun dM h=>?_) (fun dM h=>?_)
 refine AW.skip (AW.seq (AW.block (rs hx fun K hK=>?_)))
 iterate 2 refine sa ?_
 obtain⟨I8,h⟩:=aC h
 have Oc:(mG).toNat<(aN).length:=by omega
 refine s1 (g7 I8 ct bG) ?_
 refine s1 (wF (c:=(cI .i64)) (l:=aN) (n:=(mG).toNat) (o:=0) bG Oc) ?_
 refine s1 (d:=dO 1 (cI .i64) [(aN)[(mG).toNat]!]) (j9 ct bG) ?_
 refine sa ?_
 obtain⟨hc13,h⟩:=aC h
 refine s1 (d:=dO 1 (cI .i64) ([(aN)[(mG).toNat]!]++gN)) (qZ ct bG hc13) ?_
 refine scb h kw fun mD h=>?_
 refine sa ?_
 refine .nil (hK _ _ (rs hx fun K hK=>?_))
 iterate 2 refine sa ?_
 refine scb h sZ fun sT h=>?_
 iterate 4 refine sa ?_
 refine scb h sZ fun q9 h=>?_
 iterate 5 refine sa ?_
 refine scb h sZ fun Ay h=>?_
 iterate 2 refine sa ?_
 obtain⟨I6,h⟩:=aC h
 refine s1 (EO I6) ?_
 refine sa ?_
 obtain⟨sS,hx24,h⟩:=ab h
 replace hx24:=bQ hx24
 refine s2 (d2:=dI .i64 sS) ly (gq (congrArg (dI .i64) hx24)) ?_
 refine .nil (hK _ _ (rs hx fun K hK=>?_))
 iterate 2 refine sa ?_
 refine s1 (d:=dO 2 (cI .i64) [sS]) (j9 ct bG) ?_
 refine scb h wi fun Db h=>?_
 refine sa ?_
 refine .nil (hK _ _ (AW.seq (AW.block ?_)))
 obtain⟨y,hy,h⟩:=ab h
 refine lp (S:=Int×(List Int)) (X:=Int×(List Int)) (fun (sO,CN)=>[(0,dL (cI .i64) aN),(1,dL (cI .i64) aV),(6,.ow 0 0 1 ((((aN).length:Int)).toNat)),(7,dI .i64 ((aV).length:Int)),(8,dI .i64 x6),(9,dL (cI .i64) mD),(10,dI .i64 mG),(11,dI .i64 sO),(12,dL (cI .i64) CN)]) (fun (sO,CN)=>⟨[(0,dC ((cW (cI .i64)).f ve))],[],1⟩) (PE cx (.exit 2) (fun (vK,yy)=>[(0,dL (cI .i64) aN),(1,dL (cI .i64) aV),(6,.ow 0 0 1 ((((aN).length:Int)).toNat)),(7,dI .i64 ((aV).length:Int)),(8,dI .i64 x6),(9,dL (cI .i64) mD),(10,dI .i64 mG),(11,dI .i64 vK),(12,dL (cI .i64) yy)]) fun (vK,yy)=>⟨[(0,dC ((cW (cI .i64)).f ve))],[],1⟩) hy ?_ ?_ ?_
 exact wk h0 [0] (wR rfl (wR rfl (wR rfl (wR rfl (wR rfl (wR rfl (wR rfl (wR rfl (wR rfl wTn))))))))) (vC rfl wVn) wLn
 clear hy h
 rintro⟨sO,CN⟩ y h
 dsimp only[iA] at h
 refine AW.seq (rs hx fun K hK=>?_)
 iterate 2 refine sa ?_
 refine scb h xE fun xu h=>?_
 refine .nil (hK _ _ (cdh h rfl (fun hb29 h=>?_) (fun hb29 h=>?_)))
 refine AW.skip (AW.block (ra hx ?_))
 refine rq hx fun K hK=>?_
 iterate 2 refine sa ?_
 refine scb h o3 fun Mr h=>?_
 refine sa ?_
 refine .nil (hK _ _ ?_)
 cases h
 exact PS.l (pe0 h0 [0])
 refine AW.exit ?_
 try dsimp only
 try simp only[aU,reduceIte,Nat.reduceEqDiff,reduceCtorEq]
 cases h
 exact PS.r ⟨by nofun,PE.i (wk h0 [0] (wR rfl (wR rfl (wR rfl (wR rfl (wR rfl (wR rfl (wR rfl (wR rfl (wR rfl wTn))))))))) (vC rfl wVn) wLn)⟩
 obtain⟨vK,yy⟩:=y
 rintro ex tm' hp' ⟨rfl,hw⟩
 try dsimp only
 try simp only[aU,reduceIte,Nat.reduceEqDiff,reduceCtorEq]
 refine AW.weak hw (rs hx fun K hK=>?_)
 iterate 3 refine sa ?_
 obtain⟨hc33,h⟩:=aC h
 have hn34:(mG).toNat<(ve).length:=by omega
 refine s1 (vf ⟨hc33.1,hc33.2.1⟩ ct bG) ?_
 refine s0 (aE (b':=vK) (am.seqW (cI .i64) ve ((mG).toNat) hn34) bG) ?_
 refine .nil (hK _ _ (rq hx fun K hK=>?_))
 iterate 2 refine sa ?_
 refine scb h o3 fun vS h=>?_
 refine sa ?_
 refine .nil (hK _ _ (rb hx ?_))
 cases h
 exact PS.l (pe0 h0 [0])
 refine AW.exit ?_
 try dsimp only
 try simp only[aU,reduceIte,Nat.reduceEqDiff,reduceCtorEq]
 cases h
 exact PS.r ⟨by nofun,PE.i (wk h0 [0] (wR rfl (wR rfl wTn)) (vC rfl wVn) wLn)⟩
 obtain⟨yA,vL⟩:=y
 rintro ex tm' hp' ⟨rfl,hw⟩
 try dsimp only
 try simp only[aU,reduceIte,Nat.reduceEqDiff,reduceCtorEq]
 refine AW.weak hw (rs hx fun K hK=>?_)
 refine sa ?_
 obtain⟨hc38,h⟩:=aC h
 refine fzO (cI .i64) (n:=(((aN).length:Int)).toNat) 0 [6,81] hc38 ?_ (all2 rfl (all1 rfl))
 refine scb h kw fun Da h=>?_
 iterate 3 refine sa ?_
 refine .nil (hK _ _ (AW.ret ?_))
 cases h
 exact rv2
def i8 :Int×Int→Option ((Int×Int)⊕Int):=fun (nD,Av)=>cnd (decide (Av≠(0:Int))) (gd (Av≠0) (some (.inl (Av,Int.tmod nD Av)))) (some (.inr nD))
def i7 :(List Int)×(List Int)→Option (((List Int)×(List Int))⊕((List Int))):=fun (EI,CL)=>cnd (decide ((0:Int)<((CL).length:Int))) (bnd (iC EI CL) fun zY=>some (.inl (CL,zY.2))) (some (.inr EI))
def ma(aN:av)(aV:av):Option av:=bnd (e6 aN) fun x1=>bnd (e6 aV) fun x3=>bnd (S:=Bool) (cnd x1.2 (some (x3.2)) (some (false))) fun bc=>cnd bc (bnd (bS (i8) (x1.1,x3.1)) fun yB=>bnd (gU yB) fun ro=>bnd (po ro) fun mX=>some mX) (bnd (S:=Bool) (bnd (bD aN) fun Gk=>cnd (!Gk) (some (true)) (bnd (bD aV) fun q9=>some (!q9))) fun sO=>cnd sO (bnd (fH) fun yE=>some yE) (bnd (bM aN) fun Ax=>bnd (bM aV) fun x26=>bnd (bS (i7) (Ax,x26)) fun yr=>bnd (cw false yr) fun Ie=>some Ie))
set_option maxHeartbeats 4000000 in
theorem uw {aN:av}{aV:av}{r:av}(h:ma aN aV=some r):ax Tryz.prog 127 [dG aj aN,dG aj aV] (dG aj r):=by
 refine bE (rs:=[.cell 4 41]) (fun cx hx h0=>?_) Tryz.func127
 unfold ma at h
 refine rs hx fun K hK=>?_
 iterate 2 refine sa ?_
 refine s1 (bm (F:=aj.f be) ap) ?_
 refine .nil (hK _ _ (rs hx fun K hK=>?_))
 refine s1 (d:=dG aj aN) (au (am.id _ _) ap) ?_
 refine scb h jc fun x1 h=>?_
 iterate 5 refine sa ?_
 refine .nil (hK _ _ (rs hx fun K hK=>?_))
 refine s1 (d:=dG aj aV) (au (am.id _ _) ap) ?_
 refine scb h jc fun x3 h=>?_
 iterate 5 refine sa ?_
 refine .nil (hK _ _ ?_)
 iterate 2 refine AW.seq ?_
 obtain⟨bc,hy,h⟩:=ab h
 refine jn ((PE cx .normal (fun bc=>[(2,.pt 0 0),(3,.pt 1 0),(4,.pt 2 0),(5,dI .i64 x1.1),(7,dI .i64 x3.1),(27,dB bc)]) fun bc=>⟨[(0,dC (aj.f aN)),(1,dC (aj.f aV)),(2,dC (aj.f be))],[],3⟩) bc) ?_ ?_
 replace h:=hy
 refine rq hx fun K hK=>?_
 iterate 2 refine sa ?_
 rcases aD x1.2 with eH|eH
 replace h:=aP eH h
 refine ga eH ?_
 refine s1 (aw eH) ?_
 refine .nil (hK _ _ ?_)
 cases h
 exact pe0 h0 [0,1,2]
 replace h:=aQ eH h
 refine aH rfl rfl eH ?_
 refine s1 (al eH) ?_
 refine .nil (hK _ _ ?_)
 cases h
 exact pe0 h0 [0,1,2]
 rintro ex tm' hp' ⟨rfl,hw⟩
 refine AW.weak hw (cdh h rfl (fun qz h=>?_) (fun qz h=>?_))
 refine AW.seq (AW.block ?_)
 obtain⟨yB,hy,h⟩:=ab h
 refine lp (S:=Int×Int) (X:=Int) (fun (nD,Av)=>[(4,.pt 0 0),(5,dI .i64 nD),(7,dI .i64 Av)]) (fun (nD,Av)=>⟨[(0,dC (aj.f be))],[],1⟩) (PE cx (.exit 0) (fun yB=>[(4,.pt 0 0),(5,dI .i64 yB)]) fun yB=>⟨[(0,dC (aj.f be))],[],1⟩) hy ?_ ?_ ?_
 exact wk h0 [2] (wR rfl (wR rfl (wR rfl wTn))) (vC rfl wVn) wLn
 clear hy h
 rintro⟨nD,Av⟩ y h
 dsimp only[i8] at h
 refine AW.seq (ra hx ?_)
 refine cdh h rfl (fun iS h=>?_) (fun iS h=>?_)
 refine AW.skip (AW.block (rs hx fun K hK=>?_))
 iterate 2 refine sa ?_
 obtain⟨hc9,h⟩:=aC h
 refine s1 (CT hc9) ?_
 refine sa ?_
 refine .nil (hK _ _ (ra hx ?_))
 refine rb hx ?_
 cases h
 exact PS.l (pe0 h0 [0])
 refine AW.exit ?_
 try dsimp only
 try simp only[aU,reduceIte,Nat.reduceEqDiff,reduceCtorEq]
 cases h
 exact PS.r ⟨by nofun,PE.i (wk h0 [0] (wR rfl (wR rfl wTn)) (vC rfl wVn) wLn)⟩
 rintro ex tm' hp' ⟨rfl,hw⟩
 try dsimp only
 try simp only[aU,reduceIte,Nat.reduceEqDiff,reduceCtorEq]
 refine AW.weak hw (rs hx fun K hK=>?_)
 refine sa ?_
 refine scb h lR fun ro h=>?_
 refine scb h GE fun mX h=>?_
 refine s0 (aE (b':=mX) (am.id _ _) ap) ?_
 refine .nil (hK _ _ (AW.ret ?_))
 cases h
 exact rv1
 refine AW.skip ?_
 iterate 2 refine AW.seq ?_
 obtain⟨sO,hy,h⟩:=ab h
 refine jn ((PE cx .normal (fun sO=>[(2,.pt 0 0),(3,.pt 1 0),(4,.pt 2 0),(45,dB sO)]) fun sO=>⟨[(0,dC (aj.f aN)),(1,dC (aj.f aV)),(2,dC (aj.f be))],[],3⟩) sO) ?_ ?_
 replace h:=hy
 refine rq hx fun K hK=>?_
 refine s1 (d:=dG aj aN) (au (am.id _ _) ap) ?_
 refine scb h cM fun Gk h=>?_
 iterate 2 refine sa ?_
 rcases aD (!Gk) with uT|uT
 replace h:=aP uT h
 iterate 3 refine aH rfl rfl uT ?_
 refine s1 (aw uT) ?_
 refine .nil (hK _ _ ?_)
 cases h
 exact pe0 h0 [0,1,2]
 replace h:=aQ uT h
 refine g1 (d:=dG aj aV) uT (au (am.id _ _) ap) ?_
 obtain⟨q9,zu,h⟩:=ab h
 refine g1 uT (bj rfl (cM zu) (by simp only[dJ,eD,cH,bP,bB,bq];exact aI _ _) (lA (cD _ _) lAn) (.inl rfl)) ?_
 refine ga uT ?_
 refine s1 (al uT) ?_
 refine .nil (hK _ _ ?_)
 cases h
 exact pe0 h0 [0,1,2]
 rintro ex tm' hp' ⟨rfl,hw⟩
 refine AW.weak hw (cdh h rfl (fun uS h=>?_) (fun uS h=>?_))
 refine rs hx fun K hK=>?_
 refine scb h ke fun yE h=>?_
 refine s0 (aE (b':=yE) (am.id _ _) ap) ?_
 refine .nil (hK _ _ (AW.ret ?_))
 cases h
 exact rv1
 refine AW.skip (rs hx fun K hK=>?_)
 refine s1 (d:=dG aj aN) (au (am.id _ _) ap) ?_
 refine scb h dh fun Ax h=>?_
 refine sa ?_
 refine .nil (hK _ _ (rs hx fun K hK=>?_))
 refine s1 (d:=dG aj aV) (au (am.id _ _) ap) ?_
 refine scb h dh fun x26 h=>?_
 refine sa ?_
 refine .nil (hK _ _ (AW.seq (AW.block ?_)))
 obtain⟨yr,hy,h⟩:=ab h
 refine lp (S:=(List Int)×(List Int)) (X:=(List Int)) (fun (EI,CL)=>[(4,.pt 0 0),(10,dL (cI .i64) EI),(11,dL (cI .i64) CL)]) (fun (EI,CL)=>⟨[(0,dC (aj.f be))],[],1⟩) (PE cx (.exit 2) (fun yr=>[(4,.pt 0 0),(10,dL (cI .i64) yr)]) fun yr=>⟨[(0,dC (aj.f be))],[],1⟩) hy ?_ ?_ ?_
 exact wk h0 [2] (wR rfl (wR rfl (wR rfl wTn))) (vC rfl wVn) wLn
 clear hy h
 rintro⟨EI,CL⟩ y h
 dsimp only[i7] at h
 refine AW.seq (ra hx ?_)
 refine cdh h rfl (fun hb28 h=>?_) (fun hb28 h=>?_)
 refine AW.skip (AW.block (rs hx fun K hK=>?_))
 iterate 2 refine sa ?_
 refine scb h uu fun zY h=>?_
 iterate 5 refine sa ?_
 refine .nil (hK _ _ (ra hx ?_))
 refine rb hx ?_
 cases h
 exact PS.l (pe0 h0 [0])
 refine AW.exit ?_
 try dsimp only
 try simp only[aU,reduceIte,Nat.reduceEqDiff,reduceCtorEq]
 cases h
 exact PS.r ⟨by nofun,PE.i (wk h0 [0] (wR rfl (wR rfl wTn)) (vC rfl wVn) wLn)⟩
 rintro ex tm' hp' ⟨rfl,hw⟩
 try dsimp only
 try simp only[aU,reduceIte,Nat.reduceEqDiff,reduceCtorEq]
 refine AW.weak hw (rs hx fun K hK=>?_)
 refine sa ?_
 refine scb h eR fun Ie h=>?_
 refine s0 (aE (b':=Ie) (am.id _ _) ap) ?_
 refine .nil (hK _ _ (AW.ret ?_))
 cases h
 exact rv1
def mR(cG:Int)(M7:Int):Option Int:=gd (M7≠0) (bnd (S:=Int) (bnd (S:=Bool) (gd (M7≠0) (cnd (decide ((Int.tmod cG M7)≠(0:Int))) (some (!((decide (cG<(0:Int))) == (decide (M7<(0:Int)))))) (some (false)))) fun aJ=>cnd aJ (bnd (some (i64.wrap ((i64.wrap (Int.tdiv cG M7)) - (1:Int)))) fun x6=>some (x6)) (some (i64.wrap (Int.tdiv cG M7)))) fun ju=>some ju)
theorem Dv {cG:Int}{M7:Int}{r:Int}(h:mR cG M7=some r):ax Tryz.prog 169 [dI .i64 cG,dI .i64 M7] (dI .i64 r):=by
 refine bE (rs:=[.tmp 4]) (fun cx hx h0=>?_) Tryz.func169
 unfold mR at h
 refine ra hx ?_
 refine rs hx fun K hK=>?_
 iterate 2 refine sa ?_
 obtain⟨I9,h⟩:=aC h
 refine s1 (EO I9) ?_
 refine sa ?_
 refine .nil (hK _ _ (AW.seq ?_))
 obtain⟨ju,hy,h⟩:=ab h
 refine jn ((PE cx .normal (fun ju=>[(5,dI .i64 ju)]) fun ju=>⟨[],[],0⟩) ju) ?_ ?_
 replace h:=hy
 refine AW.seq ?_
 obtain⟨aJ,hy,h⟩:=ab h
 refine jn ((PE cx .normal (fun aJ=>[(5,dI .i64 (i64.wrap (Int.tdiv cG M7))),(19,dB aJ)]) fun aJ=>⟨[],[],0⟩) aJ) ?_ ?_
 replace h:=hy
 refine rq hx fun K hK=>?_
 iterate 2 refine sa ?_
 obtain⟨ml,h⟩:=aC h
 refine s1 (CT ml) ?_
 iterate 2 refine sa ?_
 rcases aD (decide ((Int.tmod cG M7)≠(0:Int))) with bb|bb
 replace h:=aP bb h
 iterate 5 refine ga bb ?_
 refine s1 (aw bb) ?_
 refine .nil (hK _ _ ?_)
 cases h
 exact pe0 h0 []
 replace h:=aQ bb h
 iterate 5 refine aH rfl rfl bb ?_
 refine s1 (al bb) ?_
 refine .nil (hK _ _ ?_)
 cases h
 exact pe0 h0 []
 rintro ex tm' hp' ⟨rfl,hw⟩
 refine AW.weak hw (cdh h rfl (fun eH h=>?_) (fun eH h=>?_))
 refine rq hx fun K hK=>?_
 iterate 2 refine sa ?_
 obtain⟨x6,pZ,h⟩:=ab h
 replace pZ:=bQ pZ
 refine s2 (d2:=dI .i64 x6) ly (gq (congrArg (dI .i64) pZ)) ?_
 refine .nil (hK _ _ ?_)
 cases h
 exact pe0 h0 []
 refine AW.skip ?_
 cases h
 exact pe0 h0 []
 rintro ex tm' hp' ⟨rfl,hw⟩
 refine AW.weak hw (ra hx ?_)
 refine AW.ret ?_
 cases h
 exact rv1
def kg(aN:av)(aV:av):Option av:=bnd (e6 aN) fun x1=>bnd (e6 aV) fun x3=>bnd (S:=Bool) (cnd x1.2 (cnd x3.2 (some (decide (x3.1≠(0:Int)))) (some (false))) (some (false))) fun bc=>cnd bc (bnd (mR x1.1 x3.1) fun x9=>bnd (gU x9) fun ro=>some ro) (bnd (S:=Bool) (bnd (bD aN) fun mX=>cnd (!mX) (some (true)) (bnd (bD aV) fun sT=>cnd (!sT) (some (true)) (bnd (bM aV) fun rf=>some (decide (((rf).length:Int)=(0:Int)))))) fun bg=>cnd bg (bnd (fH) fun sS=>some sS) (bnd (bM aN) fun Db=>bnd (bM aV) fun xu=>bnd (iC Db xu) fun zY=>bnd (S:=(List Int)) (bnd (S:=Bool) (cnd (!(aN.vNeg == aV.vNeg)) (some (decide ((0:Int)<((zY.2).length:Int)))) (some (false))) fun sP=>cnd sP (bnd (kF zY.1 [(1:Int)]) fun Me=>some (Me)) (some (zY.1))) fun qW=>bnd (cw (!(aN.vNeg == aV.vNeg)) qW) fun xw=>some xw))
set_option maxHeartbeats 4000000 in
theorem rt {aN:av}{aV:av}{r:av}(h:kg aN aV=some r):ax Tryz.prog 128 [dG aj aN,dG aj aV] (dG aj r):=by
 refine bE (rs:=[.cell 4 41]) (fun cx hx h0=>?_) Tryz.func128
 unfold kg at h
 refine rs hx fun K hK=>?_
 iterate 2 refine sa ?_
 refine s1 (bm (F:=aj.f be) ap) ?_
 refine .nil (hK _ _ (rs hx fun K hK=>?_))
 refine s1 (d:=dG aj aN) (au (am.id _ _) ap) ?_
 refine scb h jc fun x1 h=>?_
 iterate 5 refine sa ?_
 refine .nil (hK _ _ (rs hx fun K hK=>?_))
 refine s1 (d:=dG aj aV) (au (am.id _ _) ap) ?_
 refine scb h jc fun x3 h=>?_
 iterate 5 refine sa ?_
 refine .nil (hK _ _ ?_)
 iterate 2 refine AW.seq ?_
 obtain⟨bc,hy,h⟩:=ab h
 refine jn ((PE cx .normal (fun bc=>[(2,.pt 0 0),(3,.pt 1 0),(4,.pt 2 0),(5,dI .i64 x1.1),(7,dI .i64 x3.1),(28,dB bc)]) fun bc=>⟨[(0,dC (aj.f aN)),(1,dC (aj.f aV)),(2,dC (aj.f be))],[],3⟩) bc) ?_ ?_
 replace h:=hy
 refine rq hx fun K hK=>?_
 iterate 2 refine sa ?_
 rcases aD x1.2 with eH|eH
 replace h:=aP eH h
 refine ga eH ?_
 refine s1 (aw eH) ?_
 refine sa ?_
 rcases aD x3.2 with fe|fe
 replace h:=aP fe h
 iterate 2 refine ga fe ?_
 refine s1 (aw fe) ?_
 refine .nil (hK _ _ ?_)
 cases h
 exact pe0 h0 [0,1,2]
 replace h:=aQ fe h
 iterate 2 refine aH rfl rfl fe ?_
 refine s1 (al fe) ?_
 refine .nil (hK _ _ ?_)
 cases h
 exact pe0 h0 [0,1,2]
 replace h:=aQ eH h
 refine aH rfl rfl eH ?_
 refine s1 (al eH) ?_
 refine sa ?_
 iterate 2 refine aH rfl rfl rfl ?_
 refine s1 (al rfl) ?_
 refine .nil (hK _ _ ?_)
 cases h
 exact pe0 h0 [0,1,2]
 rintro ex tm' hp' ⟨rfl,hw⟩
 refine AW.weak hw (cdh h rfl (fun iS h=>?_) (fun iS h=>?_))
 refine rs hx fun K hK=>?_
 iterate 2 refine sa ?_
 refine scb h Dv fun x9 h=>?_
 refine scb h lR fun ro h=>?_
 refine s0 (aE (b':=ro) (am.id _ _) ap) ?_
 refine .nil (hK _ _ (AW.ret ?_))
 cases h
 exact rv1
 refine AW.skip ?_
 iterate 2 refine AW.seq ?_
 obtain⟨bg,hy,h⟩:=ab h
 refine jn ((PE cx .normal (fun bg=>[(2,.pt 0 0),(3,.pt 1 0),(4,.pt 2 0),(46,dB bg)]) fun bg=>⟨[(0,dC (aj.f aN)),(1,dC (aj.f aV)),(2,dC (aj.f be))],[],3⟩) bg) ?_ ?_
 replace h:=hy
 refine rq hx fun K hK=>?_
 refine s1 (d:=dG aj aN) (au (am.id _ _) ap) ?_
 refine scb h cM fun mX h=>?_
 iterate 2 refine sa ?_
 rcases aD (!mX) with nJ|nJ
 replace h:=aP nJ h
 iterate 3 refine aH rfl rfl nJ ?_
 refine s1 (aw nJ) ?_
 refine sa ?_
 iterate 4 refine aH rfl rfl rfl ?_
 refine s1 (aw rfl) ?_
 refine .nil (hK _ _ ?_)
 cases h
 exact pe0 h0 [0,1,2]
 replace h:=aQ nJ h
 refine g1 (d:=dG aj aV) nJ (au (am.id _ _) ap) ?_
 obtain⟨sT,Lo,h⟩:=ab h
 refine g1 nJ (bj rfl (cM Lo) (by simp only[dJ,eD,cH,bP,bB,bq];exact aI _ _) (lA (cD _ _) lAn) (.inl rfl)) ?_
 refine ga nJ ?_
 refine s1 (al nJ) ?_
 refine sa ?_
 rcases aD (!sT) with jL|jL
 replace h:=aP jL h
 iterate 4 refine aH rfl rfl jL ?_
 refine s1 (aw jL) ?_
 refine .nil (hK _ _ ?_)
 cases h
 exact pe0 h0 [0,1,2]
 replace h:=aQ jL h
 refine g1 (d:=dG aj aV) jL (au (am.id _ _) ap) ?_
 obtain⟨rf,v4,h⟩:=ab h
 refine g1 jL (bj rfl (dh v4) (by simp only[dJ,eD,cH,bP,bB,bq];exact aI _ _) (lA (cD _ _) lAn) (.inl rfl)) ?_
 iterate 2 refine ga jL ?_
 refine s1 (al jL) ?_
 refine .nil (hK _ _ ?_)
 cases h
 exact pe0 h0 [0,1,2]
 rintro ex tm' hp' ⟨rfl,hw⟩
 refine AW.weak hw (cdh h rfl (fun Oz h=>?_) (fun Oz h=>?_))
 refine rs hx fun K hK=>?_
 refine scb h ke fun sS h=>?_
 refine s0 (aE (b':=sS) (am.id _ _) ap) ?_
 refine .nil (hK _ _ (AW.ret ?_))
 cases h
 exact rv1
 refine AW.skip (rsd [143,168] hx fun K hK=>?_)
 refine s1 (d:=dG aj aN) (au (am.id _ _) ap) ?_
 refine cqb h dh fun Db h=>?_
 refine s1 (d:=dG aj aV) (au (am.id _ _) ap) ?_
 refine cqb h dh fun xu h=>?_
 refine cqb h uu fun zY h=>?_
 iterate 5 refine sa ?_
 refine .nil (hK _ _ (AW.seq ?_))
 obtain⟨qW,hy,h⟩:=ab h
 refine jn ((PE cx .normal (fun qW=>[(2,.pt 0 0),(3,.pt 1 0),(4,.pt 2 0),(9,dL (cI .i64) qW)]) fun qW=>⟨[(0,dC (aj.f aN)),(1,dC (aj.f aV)),(2,dC (aj.f be))],[],3⟩) qW) ?_ ?_
 replace h:=hy
 refine AW.seq ?_
 obtain⟨sP,hy,h⟩:=ab h
 refine jn ((PE cx .normal (fun sP=>[(2,.pt 0 0),(3,.pt 1 0),(4,.pt 2 0),(9,dL (cI .i64) zY.1),(65,dB sP)]) fun sP=>⟨[(0,dC (aj.f aN)),(1,dC (aj.f aV)),(2,dC (aj.f be))],[],3⟩) sP) ?_ ?_
 replace h:=hy
 refine rq hx fun K hK=>?_
 refine sa ?_
 refine s1 (aW (aR aN) eY) ?_
 refine sa ?_
 refine s1 (aW (aR aV) eY) ?_
 iterate 2 refine sa ?_
 rcases aD (!(aN.vNeg == aV.vNeg)) with rZ|rZ
 replace h:=aP rZ h
 iterate 3 refine ga rZ ?_
 refine s1 (aw rZ) ?_
 refine .nil (hK _ _ ?_)
 cases h
 exact pe0 h0 [0,1,2]
 replace h:=aQ rZ h
 iterate 3 refine aH rfl rfl rZ ?_
 refine s1 (al rZ) ?_
 refine .nil (hK _ _ ?_)
 cases h
 exact pe0 h0 [0,1,2]
 rintro ex tm' hp' ⟨rfl,hw⟩
 refine AW.weak hw (cdh h rfl (fun hb33 h=>?_) (fun hb33 h=>?_))
 refine rq hx fun K hK=>?_
 refine sa ?_
 refine s1 (d:=dO 3 (cI .i64) [(1:Int)]) (j9 ct bG) ?_
 refine scb h sY fun Me h=>?_
 refine sa ?_
 refine .nil (hK _ _ ?_)
 cases h
 exact pe0 h0 [0,1,2]
 refine AW.skip ?_
 cases h
 exact pe0 h0 [0,1,2]
 rintro ex tm' hp' ⟨rfl,hw⟩
 refine AW.weak hw (rs hx fun K hK=>?_)
 refine sa ?_
 refine s1 (aW (aR aN) eY) ?_
 refine sa ?_
 refine s1 (aW (aR aV) eY) ?_
 iterate 2 refine sa ?_
 refine scb h eR fun xw h=>?_
 refine s0 (aE (b':=xw) (am.id _ _) ap) ?_
 refine .nil (hK _ _ (AW.ret ?_))
 cases h
 exact rv1
def qb(cG:Int):Option Bool:=bnd (S:=Bool) (cnd (decide (cG<(2147483648:Int))) (some (decide ((-2147483648:Int)<cG))) (some (false))) fun bI=>some bI
theorem xF {cG:Int}{r:Bool}(h:qb cG=some r):ax Tryz.prog 172 [dI .i64 cG] (dB r):=by
 refine bE (rs:=[.tmp 2]) (fun cx hx h0=>?_) Tryz.func172
 unfold qb at h
 refine ra hx ?_
 refine AW.seq ?_
 obtain⟨bI,hy,h⟩:=ab h
 refine jn ((PE cx .normal (fun bI=>[(2,dB bI)]) fun bI=>⟨[],[],0⟩) bI) ?_ ?_
 replace h:=hy
 refine rq hx fun K hK=>?_
 iterate 3 refine sa ?_
 rcases aD (decide (cG<(2147483648:Int))) with c5|c5
 replace h:=aP c5 h
 iterate 2 refine ga c5 ?_
 refine s1 (aw c5) ?_
 refine sa ?_
 refine .nil (hK _ _ ?_)
 cases h
 exact pe0 h0 []
 replace h:=aQ c5 h
 iterate 2 refine aH rfl rfl c5 ?_
 refine s1 (al c5) ?_
 refine sa ?_
 refine .nil (hK _ _ ?_)
 cases h
 exact pe0 h0 []
 rintro ex tm' hp' ⟨rfl,hw⟩
 refine AW.weak hw (AW.ret ?_)
 cases h
 exact rv1
def l9(aN:av)(aV:av):Option av:=bnd (e6 aN) fun x1=>bnd (e6 aV) fun x3=>bnd (S:=Bool) (cnd x1.2 (cnd x3.2 (bnd (qb x1.1) fun x7=>cnd x7 (bnd (qb x3.1) fun jA=>some (jA)) (some (false))) (some (false))) (some (false))) fun bc=>cnd bc (bnd (gU (i64.wrap (x1.1*x3.1))) fun mD=>some mD) (bnd (S:=Bool) (bnd (bD aN) fun sT=>cnd (!sT) (some (true)) (bnd (bD aV) fun rf=>some (!rf))) fun bg=>cnd bg (bnd (fH) fun sS=>some sS) (bnd (bM aN) fun Db=>bnd (bM aV) fun xu=>bnd (li Db xu) fun zY=>bnd (cw (!(aN.vNeg == aV.vNeg)) zY) fun AQ=>some AQ))
set_option maxHeartbeats 4000000 in
theorem o8 {aN:av}{aV:av}{r:av}(h:l9 aN aV=some r):ax Tryz.prog 130 [dG aj aN,dG aj aV] (dG aj r):=by
 refine bE (rs:=[.cell 4 41]) (fun cx hx h0=>?_) Tryz.func130
 unfold l9 at h
 refine rs hx fun K hK=>?_
 iterate 2 refine sa ?_
 refine s1 (bm (F:=aj.f be) ap) ?_
 refine .nil (hK _ _ (rs hx fun K hK=>?_))
 refine s1 (d:=dG aj aN) (au (am.id _ _) ap) ?_
 refine scb h jc fun x1 h=>?_
 iterate 5 refine sa ?_
 refine .nil (hK _ _ (rs hx fun K hK=>?_))
 refine s1 (d:=dG aj aV) (au (am.id _ _) ap) ?_
 refine scb h jc fun x3 h=>?_
 iterate 5 refine sa ?_
 refine .nil (hK _ _ ?_)
 iterate 2 refine AW.seq ?_
 obtain⟨bc,hy,h⟩:=ab h
 refine jn ((PE cx .normal (fun bc=>[(2,.pt 0 0),(3,.pt 1 0),(4,.pt 2 0),(5,dI .i64 x1.1),(7,dI .i64 x3.1),(30,dB bc)]) fun bc=>⟨[(0,dC (aj.f aN)),(1,dC (aj.f aV)),(2,dC (aj.f be))],[],3⟩) bc) ?_ ?_
 replace h:=hy
 refine rq hx fun K hK=>?_
 iterate 2 refine sa ?_
 rcases aD x1.2 with eH|eH
 replace h:=aP eH h
 refine ga eH ?_
 refine s1 (aw eH) ?_
 refine sa ?_
 rcases aD x3.2 with fe|fe
 replace h:=aP fe h
 refine ga fe ?_
 obtain⟨x7,DI,h⟩:=ab h
 refine g1 fe (bj rfl (xF DI) rfl (lA (ao _) lAn) (.inl rfl)) ?_
 refine s1 (aw fe) ?_
 refine sa ?_
 rcases aD x7 with rY|rY
 replace h:=aP rY h
 refine ga rY ?_
 obtain⟨jA,v5,h⟩:=ab h
 refine g1 rY (bj rfl (xF v5) rfl (lA (ao _) lAn) (.inl rfl)) ?_
 refine s1 (aw rY) ?_
 refine .nil (hK _ _ ?_)
 cases h
 exact pe0 h0 [0,1,2]
 replace h:=aQ rY h
 iterate 2 refine aH rfl rfl rY ?_
 refine s1 (al rY) ?_
 refine .nil (hK _ _ ?_)
 cases h
 exact pe0 h0 [0,1,2]
 replace h:=aQ fe h
 iterate 2 refine aH rfl rfl fe ?_
 refine s1 (al fe) ?_
 refine sa ?_
 iterate 2 refine aH rfl rfl rfl ?_
 refine s1 (al rfl) ?_
 refine .nil (hK _ _ ?_)
 cases h
 exact pe0 h0 [0,1,2]
 replace h:=aQ eH h
 refine aH rfl rfl eH ?_
 refine s1 (al eH) ?_
 refine sa ?_
 iterate 2 refine aH rfl rfl rfl ?_
 refine s1 (al rfl) ?_
 refine sa ?_
 iterate 2 refine aH rfl rfl rfl ?_
 refine s1 (al rfl) ?_
 refine .nil (hK _ _ ?_)
 cases h
 exact pe0 h0 [0,1,2]
 rintro ex tm' hp' ⟨rfl,hw⟩
 refine AW.weak hw (cdh h rfl (fun qB h=>?_) (fun qB h=>?_))
 refine rs hx fun K hK=>?_
 iterate 3 refine sa ?_
 refine scb h lR fun mD h=>?_
 refine s0 (aE (b':=mD) (am.id _ _) ap) ?_
 refine .nil (hK _ _ (AW.ret ?_))
 cases h
 exact rv1
 refine AW.skip ?_
 iterate 2 refine AW.seq ?_
 obtain⟨bg,hy,h⟩:=ab h
 refine jn ((PE cx .normal (fun bg=>[(2,.pt 0 0),(3,.pt 1 0),(4,.pt 2 0),(42,dB bg)]) fun bg=>⟨[(0,dC (aj.f aN)),(1,dC (aj.f aV)),(2,dC (aj.f be))],[],3⟩) bg) ?_ ?_
 replace h:=hy
 refine rq hx fun K hK=>?_
 refine s1 (d:=dG aj aN) (au (am.id _ _) ap) ?_
 refine scb h cM fun sT h=>?_
 iterate 2 refine sa ?_
 rcases aD (!sT) with jL|jL
 replace h:=aP jL h
 iterate 3 refine aH rfl rfl jL ?_
 refine s1 (aw jL) ?_
 refine .nil (hK _ _ ?_)
 cases h
 exact pe0 h0 [0,1,2]
 replace h:=aQ jL h
 refine g1 (d:=dG aj aV) jL (au (am.id _ _) ap) ?_
 obtain⟨rf,v4,h⟩:=ab h
 refine g1 jL (bj rfl (cM v4) (by simp only[dJ,eD,cH,bP,bB,bq];exact aI _ _) (lA (cD _ _) lAn) (.inl rfl)) ?_
 refine ga jL ?_
 refine s1 (al jL) ?_
 refine .nil (hK _ _ ?_)
 cases h
 exact pe0 h0 [0,1,2]
 rintro ex tm' hp' ⟨rfl,hw⟩
 refine AW.weak hw (cdh h rfl (fun Oz h=>?_) (fun Oz h=>?_))
 refine rs hx fun K hK=>?_
 refine scb h ke fun sS h=>?_
 refine s0 (aE (b':=sS) (am.id _ _) ap) ?_
 refine .nil (hK _ _ (AW.ret ?_))
 cases h
 exact rv1
 refine AW.skip (rsd [143,173,140] hx fun K hK=>?_)
 refine sa ?_
 refine s1 (aW (aR aN) eY) ?_
 refine sa ?_
 refine s1 (aW (aR aV) eY) ?_
 refine sa ?_
 refine s1 (d:=dG aj aN) (au (am.id _ _) ap) ?_
 refine cqb h dh fun Db h=>?_
 refine s1 (d:=dG aj aV) (au (am.id _ _) ap) ?_
 refine cqb h dh fun xu h=>?_
 refine cqb h wi fun zY h=>?_
 refine cqb h eR fun AQ h=>?_
 refine s0 (aE (b':=AQ) (am.id _ _) ap) ?_
 refine .nil (hK _ _ (AW.ret ?_))
 cases h
 exact rv1
def uY(aN:av)(aV:av):Option av:=bnd (e6 aN) fun x1=>bnd (e6 aV) fun x3=>bnd (S:=Bool) (cnd x1.2 (some (x3.2)) (some (false))) fun bc=>cnd bc (bnd (gU (i64.wrap (x1.1+x3.1))) fun x8=>some x8) (bnd (S:=Bool) (bnd (bD aN) fun jA=>cnd (!jA) (some (true)) (bnd (bD aV) fun mX=>some (!mX))) fun bg=>cnd bg (bnd (fH) fun nL=>some nL) (bnd (bM aN) fun rf=>bnd (bM aV) fun sb=>cnd (aN.vNeg == aV.vNeg) (bnd (kF rf sb) fun Ax=>bnd (cw aN.vNeg Ax) fun x26=>some x26) (bnd (mu rf sb) fun Gj=>cnd Gj (bnd (ij sb rf) fun AQ=>bnd (cw aV.vNeg AQ) fun EV=>some EV) (bnd (ij rf sb) fun vS=>bnd (cw aN.vNeg vS) fun xw=>some xw))))
set_option maxHeartbeats 4000000 in
theorem GD {aN:av}{aV:av}{r:av}(h:uY aN aV=some r):ax Tryz.prog 129 [dG aj aN,dG aj aV] (dG aj r):=by
 refine bE (rs:=[.cell 4 41]) (fun cx hx h0=>?_) Tryz.func129
 unfold uY at h
 refine rs hx fun K hK=>?_
 iterate 2 refine sa ?_
 refine s1 (bm (F:=aj.f be) ap) ?_
 refine .nil (hK _ _ (rs hx fun K hK=>?_))
 refine s1 (d:=dG aj aN) (au (am.id _ _) ap) ?_
 refine scb h jc fun x1 h=>?_
 iterate 5 refine sa ?_
 refine .nil (hK _ _ (rs hx fun K hK=>?_))
 refine s1 (d:=dG aj aV) (au (am.id _ _) ap) ?_
 refine scb h jc fun x3 h=>?_
 iterate 5 refine sa ?_
 refine .nil (hK _ _ ?_)
 iterate 2 refine AW.seq ?_
 obtain⟨bc,hy,h⟩:=ab h
 refine jn ((PE cx .normal (fun bc=>[(2,.pt 0 0),(3,.pt 1 0),(4,.pt 2 0),(5,dI .i64 x1.1),(7,dI .i64 x3.1),(25,dB bc)]) fun bc=>⟨[(0,dC (aj.f aN)),(1,dC (aj.f aV)),(2,dC (aj.f be))],[],3⟩) bc) ?_ ?_
 replace h:=hy
 refine rq hx fun K hK=>?_
 iterate 2 refine sa ?_
 rcases aD x1.2 with eH|eH
 replace h:=aP eH h
 refine ga eH ?_
 refine s1 (aw eH) ?_
 refine .nil (hK _ _ ?_)
 cases h
 exact pe0 h0 [0,1,2]
 replace h:=aQ eH h
 refine aH rfl rfl eH ?_
 refine s1 (al eH) ?_
 refine .nil (hK _ _ ?_)
 cases h
 exact pe0 h0 [0,1,2]
 rintro ex tm' hp' ⟨rfl,hw⟩
 refine AW.weak hw (cdh h rfl (fun qz h=>?_) (fun qz h=>?_))
 refine rs hx fun K hK=>?_
 iterate 3 refine sa ?_
 refine scb h lR fun x8 h=>?_
 refine s0 (aE (b':=x8) (am.id _ _) ap) ?_
 refine .nil (hK _ _ (AW.ret ?_))
 cases h
 exact rv1
 refine AW.skip ?_
 iterate 2 refine AW.seq ?_
 obtain⟨bg,hy,h⟩:=ab h
 refine jn ((PE cx .normal (fun bg=>[(2,.pt 0 0),(3,.pt 1 0),(4,.pt 2 0),(37,dB bg)]) fun bg=>⟨[(0,dC (aj.f aN)),(1,dC (aj.f aV)),(2,dC (aj.f be))],[],3⟩) bg) ?_ ?_
 replace h:=hy
 refine rq hx fun K hK=>?_
 refine s1 (d:=dG aj aN) (au (am.id _ _) ap) ?_
 refine scb h cM fun jA h=>?_
 iterate 2 refine sa ?_
 rcases aD (!jA) with iK|iK
 replace h:=aP iK h
 iterate 3 refine aH rfl rfl iK ?_
 refine s1 (aw iK) ?_
 refine .nil (hK _ _ ?_)
 cases h
 exact pe0 h0 [0,1,2]
 replace h:=aQ iK h
 refine g1 (d:=dG aj aV) iK (au (am.id _ _) ap) ?_
 obtain⟨mX,uQ,h⟩:=ab h
 refine g1 iK (bj rfl (cM uQ) (by simp only[dJ,eD,cH,bP,bB,bq];exact aI _ _) (lA (cD _ _) lAn) (.inl rfl)) ?_
 refine ga iK ?_
 refine s1 (al iK) ?_
 refine .nil (hK _ _ ?_)
 cases h
 exact pe0 h0 [0,1,2]
 rintro ex tm' hp' ⟨rfl,hw⟩
 refine AW.weak hw (cdh h rfl (fun nS h=>?_) (fun nS h=>?_))
 refine rs hx fun K hK=>?_
 refine scb h ke fun nL h=>?_
 refine s0 (aE (b':=nL) (am.id _ _) ap) ?_
 refine .nil (hK _ _ (AW.ret ?_))
 cases h
 exact rv1
 refine AW.skip (rs hx fun K hK=>?_)
 refine s1 (d:=dG aj aN) (au (am.id _ _) ap) ?_
 refine scb h dh fun rf h=>?_
 refine sa ?_
 refine .nil (hK _ _ (rs hx fun K hK=>?_))
 refine s1 (d:=dG aj aV) (au (am.id _ _) ap) ?_
 refine scb h dh fun sb h=>?_
 refine sa ?_
 refine .nil (hK _ _ (AW.seq (rs hx fun K hK=>?_)))
 refine sa ?_
 refine s1 (aW (aR aN) eY) ?_
 refine sa ?_
 refine s1 (aW (aR aV) eY) ?_
 refine sa ?_
 refine .nil (hK _ _ (cdh h rfl (fun hb23 h=>?_) (fun hb23 h=>?_)))
 refine rsd [141,140] hx fun K hK=>?_
 refine sa ?_
 refine s1 (aW (aR aN) eY) ?_
 iterate 2 refine sa ?_
 refine cqb h sY fun Ax h=>?_
 refine cqb h eR fun x26 h=>?_
 refine s0 (aE (b':=x26) (am.id _ _) ap) ?_
 refine .nil (hK _ _ (AW.ret ?_))
 cases h
 exact rv1
 refine AW.skip (rs hx fun K hK=>?_)
 iterate 2 refine sa ?_
 refine scb h xE fun Gj h=>?_
 refine sa ?_
 refine .nil (hK _ _ (AW.seq (ra hx ?_)))
 refine cdh h rfl (fun Oy h=>?_) (fun Oy h=>?_)
 refine rsd [171,140] hx fun K hK=>?_
 refine sa ?_
 refine s1 (aW (aR aV) eY) ?_
 iterate 2 refine sa ?_
 refine cqb h o3 fun AQ h=>?_
 refine cqb h eR fun EV h=>?_
 refine s0 (aE (b':=EV) (am.id _ _) ap) ?_
 refine .nil (hK _ _ (AW.ret ?_))
 cases h
 exact rv1
 refine AW.skip (rsd [171,140] hx fun K hK=>?_)
 refine sa ?_
 refine s1 (aW (aR aN) eY) ?_
 iterate 2 refine sa ?_
 refine cqb h o3 fun vS h=>?_
 refine cqb h eR fun xw h=>?_
 refine s0 (aE (b':=xw) (am.id _ _) ap) ?_
 refine .nil (hK _ _ (AW.ret ?_))
 cases h
 exact rv1
def pm(aY:av):Option av:=bnd (bD aY) fun x1=>cnd (!x1) (bnd (fH) fun x4=>some x4) (bnd (bM aY) fun x6=>bnd (cw (!aY.vNeg) x6) fun x8=>some x8)
theorem GC {aY:av}{r:av}(h:pm aY=some r):ax Tryz.prog 157 [dG aj aY] (dG aj r):=by
 refine bE (rs:=[.cell 2 41]) (fun cx hx h0=>?_) Tryz.func157
 unfold pm at h
 refine rs hx fun K hK=>?_
 refine sa ?_
 refine s1 (bm (F:=aj.f be) ap) ?_
 refine .nil (hK _ _ (AW.seq (rs hx fun K hK=>?_)))
 refine s1 (d:=dG aj aY) (au (am.id _ _) ap) ?_
 refine scb h cM fun x1 h=>?_
 refine sa ?_
 refine .nil (hK _ _ (cdh h rfl (fun bb h=>?_) (fun bb h=>?_)))
 refine rs hx fun K hK=>?_
 refine scb h ke fun x4 h=>?_
 refine s0 (aE (b':=x4) (am.id _ _) ap) ?_
 refine .nil (hK _ _ (AW.ret ?_))
 cases h
 exact rv1
 refine AW.skip (rsd [143,140] hx fun K hK=>?_)
 refine sa ?_
 refine s1 (aW (aR aY) eY) ?_
 refine sa ?_
 refine s1 (d:=dG aj aY) (au (am.id _ _) ap) ?_
 refine cqb h dh fun x6 h=>?_
 refine cqb h eR fun x8 h=>?_
 refine s0 (aE (b':=x8) (am.id _ _) ap) ?_
 refine .nil (hK _ _ (AW.ret ?_))
 cases h
 exact rv1
def kG(aY:av):Option Int:=bnd (S:=Bool) (bnd (bD aY) fun x1=>cnd (!x1) (some (true)) (bnd (bM aY) fun x4=>some (decide (((x4).length:Int)=(0:Int))))) fun dY=>cnd dY (some (0:Int)) (cnd aY.vNeg (some (-1:Int)) (some (1:Int)))
theorem s6 {aY:av}{r:Int}(h:kG aY=some r):ax Tryz.prog 113 [dG aj aY] (dI .i64 r):=by
 refine bE (rs:=[.tmp 2]) (fun cx hx h0=>?_) Tryz.func113
 unfold kG at h
 refine ra hx ?_
 iterate 2 refine AW.seq ?_
 obtain⟨dY,hy,h⟩:=ab h
 refine jn ((PE cx .normal (fun dY=>[(1,.pt 0 0),(11,dB dY)]) fun dY=>⟨[(0,dC (aj.f aY))],[],1⟩) dY) ?_ ?_
 replace h:=hy
 refine rq hx fun K hK=>?_
 refine s1 (d:=dG aj aY) (au (am.id _ _) ap) ?_
 refine scb h cM fun x1 h=>?_
 iterate 2 refine sa ?_
 rcases aD (!x1) with bb|bb
 replace h:=aP bb h
 iterate 4 refine aH rfl rfl bb ?_
 refine s1 (aw bb) ?_
 refine .nil (hK _ _ ?_)
 cases h
 exact pe0 h0 [0]
 replace h:=aQ bb h
 refine g1 (d:=dG aj aY) bb (au (am.id _ _) ap) ?_
 obtain⟨x4,p6,h⟩:=ab h
 refine g1 bb (bj rfl (dh p6) (by simp only[dJ,eD,cH,bP,bB,bq];exact aI _ _) (lA (cD _ _) lAn) (.inl rfl)) ?_
 iterate 2 refine ga bb ?_
 refine s1 (al bb) ?_
 refine .nil (hK _ _ ?_)
 cases h
 exact pe0 h0 [0]
 rintro ex tm' hp' ⟨rfl,hw⟩
 refine AW.weak hw (cdh h rfl (fun qz h=>?_) (fun qz h=>?_))
 refine ra hx ?_
 refine AW.ret ?_
 cases h
 exact rv1
 refine AW.skip (AW.seq (rs hx fun K hK=>?_))
 refine sa ?_
 refine s1 (aW (aR aY) eY) ?_
 refine .nil (hK _ _ (cdh h rfl (fun iS h=>?_) (fun iS h=>?_)))
 refine ra hx ?_
 refine AW.ret ?_
 cases h
 exact rv1
 refine AW.skip (ra hx ?_)
 refine AW.ret ?_
 cases h
 exact rv1
def pl(ep:List Int)(tY:Int):Option Int:=bnd (dX ep (i64.wrap (Int.tdiv tY (16:Int)))) fun x1=>gd (0≤Int.tmod tY (16:Int)) (some (Int.tmod (lX .i64 x1 (Int.tmod tY (16:Int))) (2:Int)))
theorem GB {ep:List Int}{tY:Int}{r:Int}(h:pl ep tY=some r):ax Tryz.prog 144 [dL (cI .i64) ep,dI .i64 tY] (dI .i64 r):=by
 refine bE (rs:=[.tmp 4]) (fun cx hx h0=>?_) Tryz.func144
 unfold pl at h
 refine ra hx ?_
 refine rs hx fun K hK=>?_
 iterate 3 refine sa ?_
 refine scb h f9 fun x1 h=>?_
 iterate 2 refine sa ?_
 obtain⟨Ly,h⟩:=aC h
 refine s1 (PI Ly) ?_
 iterate 2 refine sa ?_
 refine .nil (hK _ _ (AW.ret ?_))
 cases h
 exact rv1
def mv(x4:List Int):Int→Option (Int⊕Int):=fun bg=>bnd (S:=Bool) (cnd (decide ((0:Int)<bg)) (bnd (pl x4 (i64.wrap (bg - (1:Int)))) fun x9=>some (decide (x9=(0:Int)))) (some (false))) fun j7=>cnd j7 (some (.inl (i64.wrap (bg - (1:Int))))) (some (.inr bg))
def gi(aY:av):Option Int:=bnd (bD aY) fun x1=>cnd (!x1) (some (0:Int)) (bnd (bM aY) fun x4=>bnd (some (i64.wrap ((16:Int)*((x4).length:Int)))) fun x6=>bnd (bS (mv x4) x6) fun gp=>some gp)
set_option maxHeartbeats 4000000 in
theorem xG {aY:av}{r:Int}(h:gi aY=some r):ax Tryz.prog 90 [dG aj aY] (dI .i64 r):=by
 refine bE (rs:=[.tmp 2]) (fun cx hx h0=>?_) Tryz.func90
 unfold gi at h
 refine ra hx ?_
 refine AW.seq (rs hx fun K hK=>?_)
 refine s1 (d:=dG aj aY) (au (am.id _ _) ap) ?_
 refine scb h cM fun x1 h=>?_
 refine sa ?_
 refine .nil (hK _ _ (cdh h rfl (fun bb h=>?_) (fun bb h=>?_)))
 refine ra hx ?_
 refine AW.ret ?_
 cases h
 exact rv1
 refine AW.skip (rs hx fun K hK=>?_)
 refine s1 (d:=dG aj aY) (au (am.id _ _) ap) ?_
 refine scb h dh fun x4 h=>?_
 refine sa ?_
 refine .nil (hK _ _ (rs hx fun K hK=>?_))
 iterate 3 refine sa ?_
 obtain⟨x6,pZ,h⟩:=ab h
 replace pZ:=bQ pZ
 refine s2 (d2:=dI .i64 x6) ly (gq (congrArg (dI .i64) pZ)) ?_
 refine .nil (hK _ _ (AW.seq (AW.block ?_)))
 obtain⟨gp,hy,h⟩:=ab h
 refine lp (S:=Int) (X:=Int) (fun bg=>[(3,dL (cI .i64) x4),(4,dI .i64 bg)]) (fun bg=>⟨[],[],0⟩) (PE cx (.exit 0) (fun gp=>[(4,dI .i64 gp)]) fun gp=>⟨[],[],0⟩) hy ?_ ?_ ?_
 exact wk h0 [] (wR rfl (wR rfl wTn)) wVn wLn
 clear hy h
 rintro bg y h
 dsimp only[mv] at h
 iterate 2 refine AW.seq ?_
 obtain⟨j7,hy,h⟩:=ab h
 refine jn ((PE cx .normal (fun j7=>[(3,dL (cI .i64) x4),(4,dI .i64 bg),(21,dB j7)]) fun j7=>⟨[],[],0⟩) j7) ?_ ?_
 replace h:=hy
 refine rq hx fun K hK=>?_
 iterate 3 refine sa ?_
 rcases aD (decide ((0:Int)<bg)) with iS|iS
 replace h:=aP iS h
 iterate 3 refine ga iS ?_
 obtain⟨x9,rW,h⟩:=ab h
 refine g1 iS (bj rfl (GB rW) rfl (lA (ao _) (lA (ao _) lAn)) (.inl rfl)) ?_
 refine ga iS ?_
 refine s1 (aw iS) ?_
 refine .nil (hK _ _ ?_)
 cases h
 exact pe0 h0 []
 replace h:=aQ iS h
 iterate 5 refine aH rfl rfl iS ?_
 refine s1 (al iS) ?_
 refine .nil (hK _ _ ?_)
 cases h
 exact pe0 h0 []
 rintro ex tm' hp' ⟨rfl,hw⟩
 refine AW.weak hw (cdh h rfl (fun iK h=>?_) (fun iK h=>?_))
 refine AW.skip (AW.block (rb hx ?_))
 cases h
 exact PS.l (pe0 h0 [])
 refine AW.exit ?_
 try dsimp only
 try simp only[aU,reduceIte,Nat.reduceEqDiff,reduceCtorEq]
 cases h
 exact PS.r ⟨by nofun,PE.i (wk h0 [] (wR rfl wTn) wVn wLn)⟩
 rintro ex tm' hp' ⟨rfl,hw⟩
 try dsimp only
 try simp only[aU,reduceIte,Nat.reduceEqDiff,reduceCtorEq]
 refine AW.weak hw (ra hx ?_)
 refine AW.ret ?_
 cases h
 exact rv1
structure aq where
 vN:av
 vD:av
 deriving Inhabited,DecidableEq
abbrev cY:aq:=⟨be,be⟩
def ai:Cd aq:=⟨36,fun x=>aj.f x.vN++aj.f x.vD,fun x=>by simp[aj.h,show aj.sz=18 from rfl]⟩
theorem br(x:aq):am (ai.f x) aj 0 x.vN (fun y=>ai.f (⟨y,x.vD⟩:aq)):=
 am.of ([]) ((aj).f x.vD) (by first|rfl|(simp[aj.h];first|rfl|done)) (by first|rfl|simp[ai,cI,cB,cS,cL,dy]) (fun y=>by first|rfl|simp[ai,cI,cB,cS,cL,dy])
theorem aS(x:aq):am (ai.f x) aj 18 x.vD (fun y=>ai.f (⟨x.vN,y⟩:aq)):=
 am.of ((aj).f x.vN) ([]) (by first|rfl|(simp[aj.h];first|rfl|done)) (by first|rfl|simp[ai,cI,cB,cS,cL,dy]) (fun y=>by first|rfl|simp[ai,cI,cB,cS,cL,dy])
def Bn(x:av):List Value:=[Value.bool x.vBad]++([Value.bool x.vNeg]++((x.vW).toList.flatMap (fun x=>[Value.int .u32 x])++([])))
theorem gK:EqC tbl 3 41 aj Bn:=by
 refine EqC.struct (fs:=[(0,4),(1,4),(2,39)]) ap (fun x=>?_) (fun x=>by
  have q3:sE tbl (nd tbl 2) [] 18 []:=by unfold sE;rfl
  have q2:=qC (off:=2) (x:=x.vW) (EqC.arr (EqC.int (d:=0) aG) aA aG) aA rfl q3
  have q1:=qC (off:=1) (x:=x.vNeg) (EqC.bool (d:=1) eY) eY rfl q2
  have q0:=qC (off:=0) (x:=x.vBad) (EqC.bool (d:=1) eY) eY rfl q1
  exact q0) ?_
 ·have:=And.intro (And.intro ((EqC.bool (d:=1) eY).hf x.vBad) (And.intro ((EqC.bool (d:=1) eY).hf x.vNeg) (And.intro ((EqC.arr (EqC.int (d:=0) aG) aA aG).hf x.vW) (True.intro)))) True.intro
  simp only[Bn,aj,jz,eD,rM,dy]
  all_goals (first|rfl|(simp only[←(EqC.bool (d:=1) eY).hf,←(EqC.bool (d:=1) eY).hf,←(EqC.arr (EqC.int (d:=0) aG) aA aG).hf];try (first|rfl|simp[cI,cB])))
 ·skip
  intro x y h
  unfold Bn at h
  obtain⟨e0,h⟩:=List.append_inj h (by rw[(EqC.bool (d:=1) eY).len,(EqC.bool (d:=1) eY).len])
  obtain⟨e1,h⟩:=List.append_inj h (by rw[(EqC.bool (d:=1) eY).len,(EqC.bool (d:=1) eY).len])
  obtain⟨e2,h⟩:=List.append_inj h (by rw[(EqC.arr (EqC.int (d:=0) aG) aA aG).len,(EqC.arr (EqC.int (d:=0) aG) aA aG).len])
  cases x;cases y
  simp only[av.mk.injEq]
  exact⟨((EqC.bool (d:=1) eY).inj _ _).1 e0,((EqC.bool (d:=1) eY).inj _ _).1 e1,((EqC.arr (EqC.int (d:=0) aG) aA aG).inj _ _).1 e2⟩
def Il(x:aq):List Value:=Bn x.vN++(Bn x.vD++([]))
theorem zC:EqC tbl 4 43 ai Il:=by
 refine EqC.struct (fs:=[(0,41),(18,41)]) ay (fun x=>?_) (fun x=>by
  have q2:sE tbl (nd tbl 3) [] 36 []:=by unfold sE;rfl
  have q1:=qC (off:=18) (x:=x.vD) gK ap rfl q2
  have q0:=qC (off:=0) (x:=x.vN) gK ap rfl q1
  exact q0) ?_
 ·have:=And.intro (And.intro (gK.hf x.vN) (And.intro (gK.hf x.vD) (True.intro))) True.intro
  simp only[Il,ai,jz,eD,rM,dy]
  all_goals (first|rfl|(simp only[←gK.hf,←gK.hf];try (first|rfl|simp[cI,cB])))
 ·skip
  intro x y h
  unfold Il at h
  obtain⟨e0,h⟩:=List.append_inj h (by rw[gK.len,gK.len])
  obtain⟨e1,h⟩:=List.append_inj h (by rw[gK.len,gK.len])
  cases x;cases y
  simp only[aq.mk.injEq]
  exact⟨(gK.inj _ _).1 e0,(gK.inj _ _).1 e1⟩
def jr(aY:av):Option Bool:=bnd (S:=Bool) (cnd (!aY.vBad) (bnd (lf aY) fun x2=>some (x2)) (some (false))) fun bI=>some bI
theorem pV {aY:av}{r:Bool}(h:jr aY=some r):ax Tryz.prog 146 [dG aj aY] (dB r):=by
 refine bE (rs:=[.tmp 2]) (fun cx hx h0=>?_) Tryz.func146
 unfold jr at h
 refine ra hx ?_
 refine AW.seq ?_
 obtain⟨bI,hy,h⟩:=ab h
 refine jn ((PE cx .normal (fun bI=>[(2,dB bI)]) fun bI=>⟨[],[],0⟩) bI) ?_ ?_
 replace h:=hy
 refine rq hx fun K hK=>?_
 refine sa ?_
 refine s1 (aW (jf aY) eY) ?_
 iterate 2 refine sa ?_
 rcases aD (!aY.vBad) with c5|c5
 replace h:=aP c5 h
 refine g1 (d:=dG aj aY) c5 (au (am.id _ _) ap) ?_
 obtain⟨x2,IP,h⟩:=ab h
 refine g1 c5 (bj rfl (we IP) (by simp only[dJ,eD,cH,bP,bB,bq];exact aI _ _) (lA (cD _ _) lAn) (.inl rfl)) ?_
 refine s1 (aw c5) ?_
 refine sa ?_
 refine .nil (hK _ _ ?_)
 cases h
 exact pe0 h0 []
 replace h:=aQ c5 h
 iterate 2 refine aH rfl rfl c5 ?_
 refine s1 (al c5) ?_
 refine sa ?_
 refine .nil (hK _ _ ?_)
 cases h
 exact pe0 h0 []
 rintro ex tm' hp' ⟨rfl,hw⟩
 refine AW.weak hw (AW.ret ?_)
 cases h
 exact rv1
def mb :Option av:=bnd (gS (1:Int)) fun x1=>some x1
theorem ux  {r:av}(h:mb=some r):ax Tryz.prog 99 [] (dG aj r):=by
 refine bE (rs:=[.cell 0 41]) (fun cx hx h0=>?_) Tryz.func99
 unfold mb at h
 refine rs hx fun K hK=>?_
 refine s1 (bm (F:=aj.f be) ap) ?_
 refine .nil (hK _ _ (rs hx fun K hK=>?_))
 refine scb h ql fun x1 h=>?_
 refine s0 (aE (b':=x1) (am.id _ _) ap) ?_
 refine .nil (hK _ _ (AW.ret ?_))
 cases h
 exact rv1
def bn(aY:aq):Option Bool:=bnd (S:=Bool) (bnd (jr aY.vN) fun x1=>cnd x1 (bnd (jr aY.vD) fun x4=>cnd x4 (bnd (fk aY.vD) fun x7=>cnd (decide ((0:Int)<x7)) (bnd (nt aY.vN aY.vD) fun jA=>bnd (mb) fun jB=>some (decide (jA=jB))) (some (false))) (some (false))) (some (false))) fun bI=>some bI
set_option maxHeartbeats 4000000 in
theorem cC {aY:aq}{r:Bool}(h:bn aY=some r):ax Tryz.prog 92 [dG ai aY] (dB r):=by
 refine bE (rs:=[.tmp 2]) (fun cx hx h0=>?_) Tryz.func92
 unfold bn at h
 refine ra hx ?_
 refine AW.seq ?_
 obtain⟨bI,hy,h⟩:=ab h
 refine jn ((PE cx .normal (fun bI=>[(2,dB bI)]) fun bI=>⟨[],[],0⟩) bI) ?_ ?_
 replace h:=hy
 refine rq hx fun K hK=>?_
 refine sa ?_
 refine s1 (au (br aY) ap) ?_
 refine scb h pV fun x1 h=>?_
 refine sa ?_
 rcases aD x1 with bb|bb
 replace h:=aP bb h
 refine ga bb ?_
 refine g1 bb (au (aS aY) ap) ?_
 obtain⟨x4,p6,h⟩:=ab h
 refine g1 bb (bj rfl (pV p6) (by simp only[dJ,eD,cH,bP,bB,bq];exact aI _ _) (lA (cD _ _) lAn) (.inl rfl)) ?_
 refine s1 (aw bb) ?_
 refine sa ?_
 rcases aD x4 with fe|fe
 replace h:=aP fe h
 refine ga fe ?_
 refine g1 fe (au (aS aY) ap) ?_
 obtain⟨x7,DI,h⟩:=ab h
 refine g1 fe (bj rfl (ku DI) (by simp only[dJ,eD,cH,bP,bB,bq];exact aI _ _) (lA (cD _ _) lAn) (.inl rfl)) ?_
 refine ga fe ?_
 refine s1 (aw fe) ?_
 refine sa ?_
 rcases aD (decide ((0:Int)<x7)) with rY|rY
 replace h:=aP rY h
 refine ga rY ?_
 refine g1 rY (au (br aY) ap) ?_
 refine ga rY ?_
 refine g1 rY (au (aS aY) ap) ?_
 obtain⟨jA,v5,h⟩:=ab h
 refine g1 rY (bj rfl (uo v5) (by simp only[dJ,eD,cH,bP,bB,bq];exact⟨aI _ _,aI _ _⟩) (lA (cD _ _) (lA (cD _ _) lAn)) (.inl (g9 _ _))) ?_
 obtain⟨jB,uR,h⟩:=ab h
 refine g1 rY (bj rfl (ux uR) rfl lAn (.inl (g9 _ _))) ?_
 refine g1 rY (zV tok 3 (by decide) gK ap) ?_
 refine s1 (aw rY) ?_
 refine sa ?_
 refine .nil (hK _ _ ?_)
 cases h
 exact pe0 h0 []
 replace h:=aQ rY h
 iterate 7 refine aH rfl rfl rY ?_
 refine s1 (al rY) ?_
 refine sa ?_
 refine .nil (hK _ _ ?_)
 cases h
 exact pe0 h0 []
 replace h:=aQ fe h
 iterate 4 refine aH rfl rfl fe ?_
 refine s1 (al fe) ?_
 refine sa ?_
 iterate 7 refine aH rfl rfl rfl ?_
 refine s1 (al rfl) ?_
 refine sa ?_
 refine .nil (hK _ _ ?_)
 cases h
 exact pe0 h0 []
 replace h:=aQ bb h
 iterate 3 refine aH rfl rfl bb ?_
 refine s1 (al bb) ?_
 refine sa ?_
 iterate 4 refine aH rfl rfl rfl ?_
 refine s1 (al rfl) ?_
 refine sa ?_
 iterate 7 refine aH rfl rfl rfl ?_
 refine s1 (al rfl) ?_
 refine sa ?_
 refine .nil (hK _ _ ?_)
 cases h
 exact pe0 h0 []
 rintro ex tm' hp' ⟨rfl,hw⟩
 refine AW.weak hw (AW.ret ?_)
 cases h
 exact rv1
def fI :Option aq:=bnd (eN) fun x1=>bnd (mb) fun x3=>some (⟨x1,x3⟩:aq)
theorem lS  {r:aq}(h:fI=some r):ax Tryz.prog 65 [] (dG ai r):=by
 refine bE (rs:=[.cell 0 43]) (fun cx hx h0=>?_) Tryz.func65
 unfold fI at h
 refine rs hx fun K hK=>?_
 refine s1 (bm (F:=ai.f cY) ay) ?_
 refine .nil (hK _ _ (rs hx fun K hK=>?_))
 refine scb h ib fun x1 h=>?_
 refine scb h ux fun x3 h=>?_
 refine s1 (d:=dG ai (⟨x1,x3⟩:aq)) (g8 (FL.cons (y:=x1) (br cY) rfl rfl (FL.cons (y:=x3) (aS (⟨x1,be⟩:aq)) rfl rfl (FL.nil _))) ay) ?_
 refine s0 (aE (b':=(⟨x1,x3⟩:aq)) (am.id _ _) ay) ?_
 refine .nil (hK _ _ (AW.ret ?_))
 cases h
 exact rv1
def dE(cG:av)(tg:av):Option aq:=bnd (S:=Bool) (bnd (jr cG) fun x1=>cnd (!x1) (some (true)) (bnd (jr tg) fun x4=>cnd (!x4) (some (true)) (bnd (fk tg) fun x7=>some (decide (x7=(0:Int)))))) fun dY=>cnd dY (bnd (fI) fun ro=>some ro) (bnd (nt cG tg) fun mX=>bnd (S:=av) (bnd (fk tg) fun Gk=>cnd (decide (Gk<(0:Int))) (bnd (l5 mX) fun q9=>some (q9)) (some (mX))) fun d9=>bnd (ig cG d9) fun sb=>bnd (ig tg d9) fun sS=>some (⟨sb,sS⟩:aq))
set_option maxHeartbeats 4000000 in
theorem kz {cG:av}{tg:av}{r:aq}(h:dE cG tg=some r):ax Tryz.prog 93 [dG aj cG,dG aj tg] (dG ai r):=by
 refine bE (rs:=[.cell 4 43]) (fun cx hx h0=>?_) Tryz.func93
 unfold dE at h
 refine rs hx fun K hK=>?_
 iterate 2 refine sa ?_
 refine s1 (bm (F:=ai.f cY) ay) ?_
 refine .nil (hK _ _ ?_)
 iterate 2 refine AW.seq ?_
 obtain⟨dY,hy,h⟩:=ab h
 refine jn ((PE cx .normal (fun dY=>[(2,.pt 0 0),(3,.pt 1 0),(4,.pt 2 0),(18,dB dY)]) fun dY=>⟨[(0,dC (aj.f cG)),(1,dC (aj.f tg)),(2,dC (ai.f cY))],[],3⟩) dY) ?_ ?_
 replace h:=hy
 refine rq hx fun K hK=>?_
 refine s1 (d:=dG aj cG) (au (am.id _ _) ap) ?_
 refine scb h pV fun x1 h=>?_
 iterate 2 refine sa ?_
 rcases aD (!x1) with bb|bb
 replace h:=aP bb h
 iterate 3 refine aH rfl rfl bb ?_
 refine s1 (aw bb) ?_
 refine sa ?_
 iterate 3 refine aH rfl rfl rfl ?_
 refine s1 (aw rfl) ?_
 refine .nil (hK _ _ ?_)
 cases h
 exact pe0 h0 [0,1,2]
 replace h:=aQ bb h
 refine g1 (d:=dG aj tg) bb (au (am.id _ _) ap) ?_
 obtain⟨x4,p6,h⟩:=ab h
 refine g1 bb (bj rfl (pV p6) (by simp only[dJ,eD,cH,bP,bB,bq];exact aI _ _) (lA (cD _ _) lAn) (.inl rfl)) ?_
 refine ga bb ?_
 refine s1 (al bb) ?_
 refine sa ?_
 rcases aD (!x4) with fe|fe
 replace h:=aP fe h
 iterate 3 refine aH rfl rfl fe ?_
 refine s1 (aw fe) ?_
 refine .nil (hK _ _ ?_)
 cases h
 exact pe0 h0 [0,1,2]
 replace h:=aQ fe h
 refine g1 (d:=dG aj tg) fe (au (am.id _ _) ap) ?_
 obtain⟨x7,DI,h⟩:=ab h
 refine g1 fe (bj rfl (ku DI) (by simp only[dJ,eD,cH,bP,bB,bq];exact aI _ _) (lA (cD _ _) lAn) (.inl rfl)) ?_
 refine ga fe ?_
 refine s1 (al fe) ?_
 refine .nil (hK _ _ ?_)
 cases h
 exact pe0 h0 [0,1,2]
 rintro ex tm' hp' ⟨rfl,hw⟩
 refine AW.weak hw (cdh h rfl (fun dM h=>?_) (fun dM h=>?_))
 refine rs hx fun K hK=>?_
 refine scb h lS fun ro h=>?_
 refine s0 (aE (b':=ro) (am.id _ _) ay) ?_
 refine .nil (hK _ _ (AW.ret ?_))
 cases h
 exact rv1
 refine AW.skip (rs hx fun K hK=>?_)
 refine s1 (d:=dG aj cG) (au (am.id _ _) ap) ?_
 refine s1 (d:=dG aj tg) (au (am.id _ _) ap) ?_
 refine scb h uo fun mX h=>?_
 refine s1 (bm (F:=aj.f be) ap) ?_
 refine s0 (aE (b':=mX) (am.id _ _) ap) ?_
 refine .nil (hK _ _ (AW.seq ?_))
 obtain⟨d9,hy,h⟩:=ab h
 refine jn ((PE cx .normal (fun d9=>[(2,.pt 0 0),(3,.pt 1 0),(4,.pt 2 0),(5,.pt 3 0)]) fun d9=>⟨[(0,dC (aj.f cG)),(1,dC (aj.f tg)),(2,dC (ai.f cY)),(3,dC (aj.f d9))],[],4⟩) d9) ?_ ?_
 replace h:=hy
 refine rs hx fun K hK=>?_
 refine s1 (d:=dG aj tg) (au (am.id _ _) ap) ?_
 refine scb h ku fun Gk h=>?_
 refine sa ?_
 refine .nil (hK _ _ (cdh h rfl (fun uT h=>?_) (fun uT h=>?_)))
 refine rq hx fun K hK=>?_
 refine s1 (d:=dG aj mX) (au (am.id _ _) ap) ?_
 refine scb h um fun q9 h=>?_
 refine s0 (aE (b':=q9) (am.id _ _) ap) ?_
 refine .nil (hK _ _ ?_)
 cases h
 exact pe0 h0 [0,1,2,3]
 refine AW.skip ?_
 cases h
 exact pe0 h0 [0,1,2,3]
 rintro ex tm' hp' ⟨rfl,hw⟩
 refine AW.weak hw (rsd [97] hx fun K hK=>?_)
 refine s1 (d:=dG aj cG) (au (am.id _ _) ap) ?_
 refine s1 (d:=dG aj d9) (au (am.id _ _) ap) ?_
 refine cqb h kb fun sb h=>?_
 refine s1 (d:=dG aj tg) (au (am.id _ _) ap) ?_
 refine s1 (d:=dG aj d9) (au (am.id _ _) ap) ?_
 refine cqb h kb fun sS h=>?_
 refine s1 (d:=dG ai (⟨sb,sS⟩:aq)) (g8 (FL.cons (y:=sb) (br cY) rfl rfl (FL.cons (y:=sS) (aS (⟨sb,be⟩:aq)) rfl rfl (FL.nil _))) ay) ?_
 refine s0 (aE (b':=(⟨sb,sS⟩:aq)) (am.id _ _) ay) ?_
 refine .nil (hK _ _ (AW.ret ?_))
 cases h
 exact rv1
def il(aY:aq)(jx:aq):Option aq:=bnd (S:=Bool) (bnd (bn aY) fun x1=>cnd (!x1) (some (true)) (bnd (bn jx) fun x4=>some (!x4))) fun dY=>cnd dY (bnd (fI) fun x8=>some x8) (bnd (nt aY.vD jx.vD) fun jA=>bnd (ig aY.vD jA) fun jB=>bnd (ig jx.vD jA) fun mD=>bnd (jj aY.vN mD) fun sT=>bnd (jj jx.vN jB) fun q9=>bnd (jl sT q9) fun Ay=>bnd (jj jB jx.vD) fun yE=>bnd (dE Ay yE) fun Ax=>some Ax)
set_option maxHeartbeats 4000000 in
theorem uA {aY:aq}{jx:aq}{r:aq}(h:il aY jx=some r):ax Tryz.prog 66 [dG ai aY,dG ai jx] (dG ai r):=by
 refine bE (rs:=[.cell 4 43]) (fun cx hx h0=>?_) Tryz.func66
 unfold il at h
 refine rs hx fun K hK=>?_
 iterate 2 refine sa ?_
 refine s1 (bm (F:=ai.f cY) ay) ?_
 refine .nil (hK _ _ ?_)
 iterate 2 refine AW.seq ?_
 obtain⟨dY,hy,h⟩:=ab h
 refine jn ((PE cx .normal (fun dY=>[(2,.pt 0 0),(3,.pt 1 0),(4,.pt 2 0),(15,dB dY)]) fun dY=>⟨[(0,dC (ai.f aY)),(1,dC (ai.f jx)),(2,dC (ai.f cY))],[],3⟩) dY) ?_ ?_
 replace h:=hy
 refine rq hx fun K hK=>?_
 refine s1 (d:=dG ai aY) (au (am.id _ _) ay) ?_
 refine scb h cC fun x1 h=>?_
 iterate 2 refine sa ?_
 rcases aD (!x1) with bb|bb
 replace h:=aP bb h
 iterate 3 refine aH rfl rfl bb ?_
 refine s1 (aw bb) ?_
 refine .nil (hK _ _ ?_)
 cases h
 exact pe0 h0 [0,1,2]
 replace h:=aQ bb h
 refine g1 (d:=dG ai jx) bb (au (am.id _ _) ay) ?_
 obtain⟨x4,p6,h⟩:=ab h
 refine g1 bb (bj rfl (cC p6) (by simp only[dJ,eD,cH,bP,bB,bq];exact aI _ _) (lA (cD _ _) lAn) (.inl rfl)) ?_
 refine ga bb ?_
 refine s1 (al bb) ?_
 refine .nil (hK _ _ ?_)
 cases h
 exact pe0 h0 [0,1,2]
 rintro ex tm' hp' ⟨rfl,hw⟩
 refine AW.weak hw (cdh h rfl (fun qz h=>?_) (fun qz h=>?_))
 refine rs hx fun K hK=>?_
 refine scb h lS fun x8 h=>?_
 refine s0 (aE (b':=x8) (am.id _ _) ay) ?_
 refine .nil (hK _ _ (AW.ret ?_))
 cases h
 exact rv1
 refine AW.skip (rs hx fun K hK=>?_)
 refine sa ?_
 refine s1 (au (aS aY) ap) ?_
 refine sa ?_
 refine s1 (au (aS jx) ap) ?_
 refine scb h uo fun jA h=>?_
 refine s1 (bm (F:=aj.f be) ap) ?_
 refine s0 (aE (b':=jA) (am.id _ _) ap) ?_
 refine .nil (hK _ _ (AW.seq ?_))
 obtain⟨jB,uR,h⟩:=ab h
 obtain⟨mD,uP,h⟩:=ab h
 refine jn (PE cx .normal (fun (_:Unit)=>[(2,.pt 0 0),(3,.pt 1 0),(4,.pt 2 0),(6,.pt 3 0),(7,.pt 4 0)]) (fun (_:Unit)=>⟨[(0,dC (ai.f aY)),(1,dC (ai.f jx)),(2,dC (ai.f cY)),(3,dC (aj.f jB)),(4,dC (aj.f mD))],[],5⟩) ()) ?_ ?_
 refine dw (DW.split 8 9 (by decide) ?_ ?_)
 refine dwg [97] [0,1,2,3,4,5,6,7,8,9,10,11] hx (by kernel_rfl) (by kernel_rfl) (by kernel_rfl) fun K hK=>?_
 dsimp only[et,mA,mK,List.map]
 refine sa ?_
 refine s1 (au (aS aY) ap) ?_
 refine s1 (d:=dG aj jA) (au (am.id _ _) ap) ?_
 refine cq (kb uR) ?_
 refine sa ?_
 refine s1 (au (aS jx) ap) ?_
 refine s1 (d:=dG aj jA) (au (am.id _ _) ap) ?_
 refine cq (kb uP) ?_
 iterate 2 refine s1 (bm (F:=aj.f be) ap) ?_
 refine s0 (aE (b':=jB) (am.id _ _) ap) ?_
 refine s0 (aE (b':=mD) (am.id _ _) ap) ?_
 exact .nil (hK _ _ (pe0 h0 [0,1,2,4,5]))
 refine dwg [97] [0,1,2,3,4,5,6,7,9,8,10,11] hx (by kernel_rfl) (by kernel_rfl) (by kernel_rfl) fun K hK=>?_
 dsimp only[et,mA,mK,List.map]
 refine sa ?_
 refine s1 (au (aS aY) ap) ?_
 refine s1 (d:=dG aj jA) (au (am.id _ _) ap) ?_
 refine cq (kb uR) ?_
 refine sa ?_
 refine s1 (au (aS jx) ap) ?_
 refine s1 (d:=dG aj jA) (au (am.id _ _) ap) ?_
 refine cq (kb uP) ?_
 iterate 2 refine s1 (bm (F:=aj.f be) ap) ?_
 refine s0 (aE (b':=jB) (am.id _ _) ap) ?_
 refine s0 (aE (b':=mD) (am.id _ _) ap) ?_
 exact .nil (hK _ _ (pe0 h0 [0,1,2,5,4]))
 rintro ex tm' hp' ⟨rfl,hw⟩
 refine AW.weak hw (rsd [94,123,93] hx fun K hK=>?_)
 refine sa ?_
 refine s1 (au (br aY) ap) ?_
 refine s1 (d:=dG aj mD) (au (am.id _ _) ap) ?_
 refine cqb h lP fun sT h=>?_
 refine sa ?_
 refine s1 (au (br jx) ap) ?_
 refine s1 (d:=dG aj jB) (au (am.id _ _) ap) ?_
 refine cqb h lP fun q9 h=>?_
 refine cqb h zZ fun Ay h=>?_
 refine s1 (d:=dG aj jB) (au (am.id _ _) ap) ?_
 refine sa ?_
 refine s1 (au (aS jx) ap) ?_
 refine cqb h lP fun yE h=>?_
 refine cqb h kz fun Ax h=>?_
 refine s0 (aE (b':=Ax) (am.id _ _) ay) ?_
 refine .nil (hK _ _ (AW.ret ?_))
 cases h
 exact rv1
def ik(aY:aq)(jx:aq):Option aq:=bnd (S:=Bool) (bnd (bn aY) fun x1=>cnd (!x1) (some (true)) (bnd (bn jx) fun x4=>some (!x4))) fun dY=>cnd dY (bnd (fI) fun x8=>some x8) (bnd (dE aY.vN jx.vD) fun jA=>bnd (dE jx.vN aY.vD) fun jB=>bnd (jj jA.vN jB.vN) fun mD=>bnd (jj jA.vD jB.vD) fun sT=>bnd (S:=Bool) (cnd mD.vBad (some (true)) (some (sT.vBad))) fun bg=>cnd bg (bnd (fI) fun sb=>some sb) (some (⟨mD,sT⟩:aq)))
set_option maxHeartbeats 4000000 in
theorem uz {aY:aq}{jx:aq}{r:aq}(h:ik aY jx=some r):ax Tryz.prog 29 [dG ai aY,dG ai jx] (dG ai r):=by
 refine bE (rs:=[.cell 4 43]) (fun cx hx h0=>?_) Tryz.func29
 unfold ik at h
 refine rs hx fun K hK=>?_
 iterate 2 refine sa ?_
 refine s1 (bm (F:=ai.f cY) ay) ?_
 refine .nil (hK _ _ ?_)
 iterate 2 refine AW.seq ?_
 obtain⟨dY,hy,h⟩:=ab h
 refine jn ((PE cx .normal (fun dY=>[(2,.pt 0 0),(3,.pt 1 0),(4,.pt 2 0),(16,dB dY)]) fun dY=>⟨[(0,dC (ai.f aY)),(1,dC (ai.f jx)),(2,dC (ai.f cY))],[],3⟩) dY) ?_ ?_
 replace h:=hy
 refine rq hx fun K hK=>?_
 refine s1 (d:=dG ai aY) (au (am.id _ _) ay) ?_
 refine scb h cC fun x1 h=>?_
 iterate 2 refine sa ?_
 rcases aD (!x1) with bb|bb
 replace h:=aP bb h
 iterate 3 refine aH rfl rfl bb ?_
 refine s1 (aw bb) ?_
 refine .nil (hK _ _ ?_)
 cases h
 exact pe0 h0 [0,1,2]
 replace h:=aQ bb h
 refine g1 (d:=dG ai jx) bb (au (am.id _ _) ay) ?_
 obtain⟨x4,p6,h⟩:=ab h
 refine g1 bb (bj rfl (cC p6) (by simp only[dJ,eD,cH,bP,bB,bq];exact aI _ _) (lA (cD _ _) lAn) (.inl rfl)) ?_
 refine ga bb ?_
 refine s1 (al bb) ?_
 refine .nil (hK _ _ ?_)
 cases h
 exact pe0 h0 [0,1,2]
 rintro ex tm' hp' ⟨rfl,hw⟩
 refine AW.weak hw (cdh h rfl (fun qz h=>?_) (fun qz h=>?_))
 refine rs hx fun K hK=>?_
 refine scb h lS fun x8 h=>?_
 refine s0 (aE (b':=x8) (am.id _ _) ay) ?_
 refine .nil (hK _ _ (AW.ret ?_))
 cases h
 exact rv1
 refine AW.skip (AW.seq ?_)
 obtain⟨jA,v5,h⟩:=ab h
 obtain⟨jB,uR,h⟩:=ab h
 refine jn (PE cx .normal (fun (_:Unit)=>[(4,.pt 0 0),(5,.pt 1 0),(6,.pt 2 0)]) (fun (_:Unit)=>⟨[(0,dC (ai.f cY)),(1,dC (ai.f jA)),(2,dC (ai.f jB))],[],3⟩) ()) ?_ ?_
 refine dw (DW.split 10 11 (by decide) ?_ ?_)
 refine dwg [93] [0,1,2,3,4,5,6,7,8,9,10,11,12,13] hx (by kernel_rfl) (by kernel_rfl) (by kernel_rfl) fun K hK=>?_
 dsimp only[et,mA,mK,List.map]
 refine sa ?_
 refine s1 (au (br aY) ap) ?_
 refine sa ?_
 refine s1 (au (aS jx) ap) ?_
 refine cq (kz v5) ?_
 refine sa ?_
 refine s1 (au (br jx) ap) ?_
 refine sa ?_
 refine s1 (au (aS aY) ap) ?_
 refine cq (kz uR) ?_
 iterate 2 refine s1 (bm (F:=ai.f cY) ay) ?_
 refine s0 (aE (b':=jA) (am.id _ _) ay) ?_
 refine s0 (aE (b':=jB) (am.id _ _) ay) ?_
 exact .nil (hK _ _ (pe0 h0 [2,3,4]))
 refine dwg [93] [0,1,2,3,4,5,6,7,8,9,11,10,12,13] hx (by kernel_rfl) (by kernel_rfl) (by kernel_rfl) fun K hK=>?_
 dsimp only[et,mA,mK,List.map]
 refine sa ?_
 refine s1 (au (br aY) ap) ?_
 refine sa ?_
 refine s1 (au (aS jx) ap) ?_
 refine cq (kz v5) ?_
 refine sa ?_
 refine s1 (au (br jx) ap) ?_
 refine sa ?_
 refine s1 (au (aS aY) ap) ?_
 refine cq (kz uR) ?_
 iterate 2 refine s1 (bm (F:=ai.f cY) ay) ?_
 refine s0 (aE (b':=jA) (am.id _ _) ay) ?_
 refine s0 (aE (b':=jB) (am.id _ _) ay) ?_
 exact .nil (hK _ _ (pe0 h0 [2,4,3]))
 rintro ex tm' hp' ⟨rfl,hw⟩
 refine AW.weak hw (AW.seq ?_)
 obtain⟨mD,uP,h⟩:=ab h
 obtain⟨sT,Lo,h⟩:=ab h
 refine jn (PE cx .normal (fun (_:Unit)=>[(4,.pt 0 0),(7,.pt 1 0),(8,.pt 2 0)]) (fun (_:Unit)=>⟨[(0,dC (ai.f cY)),(1,dC (aj.f mD)),(2,dC (aj.f sT))],[],3⟩) ()) ?_ ?_
 refine dw (DW.split 10 11 (by decide) ?_ ?_)
 refine dwg [94] [0,1,2,3,4,5,6,7,8,9,10,11,12,13] hx (by kernel_rfl) (by kernel_rfl) (by kernel_rfl) fun K hK=>?_
 dsimp only[et,mA,mK,List.map]
 refine sa ?_
 refine s1 (au (br jA) ap) ?_
 refine sa ?_
 refine s1 (au (br jB) ap) ?_
 refine cq (lP uP) ?_
 refine sa ?_
 refine s1 (au (aS jA) ap) ?_
 refine sa ?_
 refine s1 (au (aS jB) ap) ?_
 refine cq (lP Lo) ?_
 iterate 2 refine s1 (bm (F:=aj.f be) ap) ?_
 refine s0 (aE (b':=mD) (am.id _ _) ap) ?_
 refine s0 (aE (b':=sT) (am.id _ _) ap) ?_
 exact .nil (hK _ _ (pe0 h0 [0,3,4]))
 refine dwg [94] [0,1,2,3,4,5,6,7,8,9,11,10,12,13] hx (by kernel_rfl) (by kernel_rfl) (by kernel_rfl) fun K hK=>?_
 dsimp only[et,mA,mK,List.map]
 refine sa ?_
 refine s1 (au (br jA) ap) ?_
 refine sa ?_
 refine s1 (au (br jB) ap) ?_
 refine cq (lP uP) ?_
 refine sa ?_
 refine s1 (au (aS jA) ap) ?_
 refine sa ?_
 refine s1 (au (aS jB) ap) ?_
 refine cq (lP Lo) ?_
 iterate 2 refine s1 (bm (F:=aj.f be) ap) ?_
 refine s0 (aE (b':=mD) (am.id _ _) ap) ?_
 refine s0 (aE (b':=sT) (am.id _ _) ap) ?_
 exact .nil (hK _ _ (pe0 h0 [0,4,3]))
 rintro ex tm' hp' ⟨rfl,hw⟩
 refine AW.weak hw ?_
 iterate 2 refine AW.seq ?_
 obtain⟨bg,hy,h⟩:=ab h
 refine jn ((PE cx .normal (fun bg=>[(4,.pt 0 0),(7,.pt 1 0),(8,.pt 2 0),(43,dB bg)]) fun bg=>⟨[(0,dC (ai.f cY)),(1,dC (aj.f mD)),(2,dC (aj.f sT))],[],3⟩) bg) ?_ ?_
 replace h:=hy
 refine rq hx fun K hK=>?_
 refine sa ?_
 refine s1 (aW (jf mD) eY) ?_
 refine sa ?_
 rcases aD mD.vBad with jL|jL
 replace h:=aP jL h
 iterate 2 refine aH rfl rfl jL ?_
 refine s1 (aw jL) ?_
 refine .nil (hK _ _ ?_)
 cases h
 exact pe0 h0 [0,1,2]
 replace h:=aQ jL h
 refine ga jL ?_
 refine g1 jL (aW (jf sT) eY) ?_
 refine s1 (al jL) ?_
 refine .nil (hK _ _ ?_)
 cases h
 exact pe0 h0 [0,1,2]
 rintro ex tm' hp' ⟨rfl,hw⟩
 refine AW.weak hw (cdh h rfl (fun hb20 h=>?_) (fun hb20 h=>?_))
 refine rs hx fun K hK=>?_
 refine scb h lS fun sb h=>?_
 refine s0 (aE (b':=sb) (am.id _ _) ay) ?_
 refine .nil (hK _ _ (AW.ret ?_))
 cases h
 exact rv1
 refine AW.skip (rs hx fun K hK=>?_)
 refine s1 (d:=dG aj mD) (au (am.id _ _) ap) ?_
 refine s1 (d:=dG aj sT) (au (am.id _ _) ap) ?_
 refine s1 (d:=dG ai (⟨mD,sT⟩:aq)) (g8 (FL.cons (y:=mD) (br cY) rfl rfl (FL.cons (y:=sT) (aS (⟨mD,be⟩:aq)) rfl rfl (FL.nil _))) ay) ?_
 refine s0 (aE (b':=(⟨mD,sT⟩:aq)) (am.id _ _) ay) ?_
 refine .nil (hK _ _ (AW.ret ?_))
 cases h
 exact rv1
def rH(aY:aq)(jx:aq):Option aq:=bnd (bn jx) fun x1=>cnd (!x1) (bnd (fI) fun x4=>some x4) (bnd (dE jx.vD jx.vN) fun x6=>bnd (ik aY x6) fun x8=>some x8)
theorem GG {aY:aq}{jx:aq}{r:aq}(h:rH aY jx=some r):ax Tryz.prog 153 [dG ai aY,dG ai jx] (dG ai r):=by
 refine bE (rs:=[.cell 4 43]) (fun cx hx h0=>?_) Tryz.func153
 unfold rH at h
 refine rs hx fun K hK=>?_
 iterate 2 refine sa ?_
 refine s1 (bm (F:=ai.f cY) ay) ?_
 refine .nil (hK _ _ (AW.seq (rs hx fun K hK=>?_)))
 refine s1 (d:=dG ai jx) (au (am.id _ _) ay) ?_
 refine scb h cC fun x1 h=>?_
 refine sa ?_
 refine .nil (hK _ _ (cdh h rfl (fun bb h=>?_) (fun bb h=>?_)))
 refine rs hx fun K hK=>?_
 refine scb h lS fun x4 h=>?_
 refine s0 (aE (b':=x4) (am.id _ _) ay) ?_
 refine .nil (hK _ _ (AW.ret ?_))
 cases h
 exact rv1
 refine AW.skip (rsd [93,29] hx fun K hK=>?_)
 refine s1 (d:=dG ai aY) (au (am.id _ _) ay) ?_
 refine sa ?_
 refine s1 (au (aS jx) ap) ?_
 refine sa ?_
 refine s1 (au (br jx) ap) ?_
 refine cqb h kz fun x6 h=>?_
 refine cqb h uz fun x8 h=>?_
 refine s0 (aE (b':=x8) (am.id _ _) ay) ?_
 refine .nil (hK _ _ (AW.ret ?_))
 cases h
 exact rv1
def mc(aY:aq):Option aq:=bnd (bn aY) fun x1=>cnd (!x1) (bnd (fI) fun x4=>some x4) (bnd (l5 aY.vN) fun x6=>some (⟨x6,aY.vD⟩:aq))
theorem uy {aY:aq}{r:aq}(h:mc aY=some r):ax Tryz.prog 42 [dG ai aY] (dG ai r):=by
 refine bE (rs:=[.cell 2 43]) (fun cx hx h0=>?_) Tryz.func42
 unfold mc at h
 refine rs hx fun K hK=>?_
 refine sa ?_
 refine s1 (bm (F:=ai.f cY) ay) ?_
 refine .nil (hK _ _ (AW.seq (rs hx fun K hK=>?_)))
 refine s1 (d:=dG ai aY) (au (am.id _ _) ay) ?_
 refine scb h cC fun x1 h=>?_
 refine sa ?_
 refine .nil (hK _ _ (cdh h rfl (fun bb h=>?_) (fun bb h=>?_)))
 refine rs hx fun K hK=>?_
 refine scb h lS fun x4 h=>?_
 refine s0 (aE (b':=x4) (am.id _ _) ay) ?_
 refine .nil (hK _ _ (AW.ret ?_))
 cases h
 exact rv1
 refine AW.skip (rsd [100] hx fun K hK=>?_)
 refine sa ?_
 refine s1 (au (br aY) ap) ?_
 refine cqb h um fun x6 h=>?_
 refine sa ?_
 refine s1 (au (aS aY) ap) ?_
 refine s1 (d:=dG ai (⟨x6,aY.vD⟩:aq)) (g8 (FL.cons (y:=x6) (br cY) rfl rfl (FL.cons (y:=aY.vD) (aS (⟨x6,be⟩:aq)) rfl rfl (FL.nil _))) ay) ?_
 refine s0 (aE (b':=(⟨x6,aY.vD⟩:aq)) (am.id _ _) ay) ?_
 refine .nil (hK _ _ (AW.ret ?_))
 cases h
 exact rv1
def mS(cG:av):Option aq:=bnd (mb) fun x1=>bnd (dE cG x1) fun x3=>some x3
theorem Dx {cG:av}{r:aq}(h:mS cG=some r):ax Tryz.prog 34 [dG aj cG] (dG ai r):=by
 refine bE (rs:=[.cell 2 43]) (fun cx hx h0=>?_) Tryz.func34
 unfold mS at h
 refine rs hx fun K hK=>?_
 refine sa ?_
 refine s1 (bm (F:=ai.f cY) ay) ?_
 refine .nil (hK _ _ (rsd [99,93] hx fun K hK=>?_))
 refine s1 (d:=dG aj cG) (au (am.id _ _) ap) ?_
 refine cqb h ux fun x1 h=>?_
 refine cqb h kz fun x3 h=>?_
 refine s0 (aE (b':=x3) (am.id _ _) ay) ?_
 refine .nil (hK _ _ (AW.ret ?_))
 cases h
 exact rv1
def oS(cG:Int):Option aq:=bnd (gS cG) fun x1=>bnd (mS x1) fun x3=>some x3
theorem Bm {cG:Int}{r:aq}(h:oS cG=some r):ax Tryz.prog 28 [dI .i64 cG] (dG ai r):=by
 refine bE (rs:=[.cell 2 43]) (fun cx hx h0=>?_) Tryz.func28
 unfold oS at h
 refine rs hx fun K hK=>?_
 refine s1 (bm (F:=ai.f cY) ay) ?_
 refine .nil (hK _ _ (rs hx fun K hK=>?_))
 refine sa ?_
 refine scb h ql fun x1 h=>?_
 refine scb h Dx fun x3 h=>?_
 refine s0 (aE (b':=x3) (am.id _ _) ay) ?_
 refine .nil (hK _ _ (AW.ret ?_))
 cases h
 exact rv1
def kH(aY:aq):Option Int:=bnd (bn aY) fun x1=>cnd (!x1) (some (0:Int)) (bnd (fk aY.vN) fun x4=>some x4)
theorem s7 {aY:aq}{r:Int}(h:kH aY=some r):ax Tryz.prog 30 [dG ai aY] (dI .i64 r):=by
 refine bE (rs:=[.tmp 2]) (fun cx hx h0=>?_) Tryz.func30
 unfold kH at h
 refine ra hx ?_
 refine AW.seq (rs hx fun K hK=>?_)
 refine s1 (d:=dG ai aY) (au (am.id _ _) ay) ?_
 refine scb h cC fun x1 h=>?_
 refine sa ?_
 refine .nil (hK _ _ (cdh h rfl (fun bb h=>?_) (fun bb h=>?_)))
 refine ra hx ?_
 refine AW.ret ?_
 cases h
 exact rv1
 refine AW.skip (rs hx fun K hK=>?_)
 refine sa ?_
 refine s1 (au (br aY) ap) ?_
 refine scb h ku fun x4 h=>?_
 refine sa ?_
 refine .nil (hK _ _ (AW.ret ?_))
 cases h
 exact rv1
def rG(aY:aq)(jx:aq):Option aq:=bnd (mc jx) fun x1=>bnd (il aY x1) fun x3=>some x3
theorem GF {aY:aq}{jx:aq}{r:aq}(h:rG aY jx=some r):ax Tryz.prog 76 [dG ai aY,dG ai jx] (dG ai r):=by
 refine bE (rs:=[.cell 4 43]) (fun cx hx h0=>?_) Tryz.func76
 unfold rG at h
 refine rs hx fun K hK=>?_
 iterate 2 refine sa ?_
 refine s1 (bm (F:=ai.f cY) ay) ?_
 refine .nil (hK _ _ (rsd [42,66] hx fun K hK=>?_))
 refine s1 (d:=dG ai aY) (au (am.id _ _) ay) ?_
 refine s1 (d:=dG ai jx) (au (am.id _ _) ay) ?_
 refine cqb h uy fun x1 h=>?_
 refine cqb h uA fun x3 h=>?_
 refine s0 (aE (b':=x3) (am.id _ _) ay) ?_
 refine .nil (hK _ _ (AW.ret ?_))
 cases h
 exact rv1
def i9 :Int×aq×aq→Option ((Int×aq×aq)⊕Int):=fun (yx,ub,ua)=>bnd (ig ub.vN ub.vD) fun jA=>bnd (ig ua.vN ua.vD) fun jB=>bnd (pi jA jB) fun mD=>cnd (decide (mD≠(0:Int))) (some (.inr (i64.wrap (yx*mD)))) (bnd (nr ub.vN ub.vD) fun nL=>bnd (nr ua.vN ua.vD) fun rf=>bnd (fk nL) fun sb=>bnd (fk rf) fun sS=>bnd (S:=Bool) (cnd (decide (sb=(0:Int))) (some (true)) (some (decide (sS=(0:Int))))) fun sL=>cnd sL (bnd (some (i64.wrap (yx*(i64.wrap (sb - sS))))) fun Gj=>some (.inr Gj)) (some (.inl (i64.wrap (0 - yx),(⟨ub.vD,nL⟩:aq),(⟨ua.vD,rf⟩:aq)))))
def js(aY:aq)(jx:aq):Option Int:=bnd (bn aY) fun x1=>bnd (bn jx) fun x3=>bnd (S:=Bool) (cnd (!x1) (some (!x3)) (some (false))) fun bc=>cnd bc (some (0:Int)) (cnd (!x1) (some (-1:Int)) (cnd (!x3) (some (1:Int)) (bnd (bS (i9) ((1:Int),aY,jx)) fun tL=>some tL)))
set_option maxHeartbeats 4000000 in
theorem ru {aY:aq}{jx:aq}{r:Int}(h:js aY jx=some r):ax Tryz.prog 32 [dG ai aY,dG ai jx] (dI .i64 r):=by
 refine bE (rs:=[.tmp 4]) (fun cx hx h0=>?_) Tryz.func32
 unfold js at h
 refine ra hx ?_
 refine AW.scope (rsd [92] hx fun K hK=>?_)
 refine s1 (d:=dG ai aY) (au (am.id _ _) ay) ?_
 refine cqb h cC fun x1 h=>?_
 refine s1 (d:=dG ai jx) (au (am.id _ _) ay) ?_
 refine cqb h cC fun x3 h=>?_
 iterate 2 refine sa ?_
 refine .nil (hK _ _ (AW.seq (AW.block (AW.seq ?_))))
 obtain⟨bc,hy,h⟩:=ab h
 refine jn ((PE cx .normal (fun bc=>[(2,.pt 0 0),(3,.pt 1 0),(5,dB x1),(6,dB x3),(15,dB bc)]) fun bc=>⟨[(0,dC (ai.f aY)),(1,dC (ai.f jx))],[],2⟩) bc) ?_ ?_
 replace h:=hy
 refine rq hx fun K hK=>?_
 iterate 3 refine sa ?_
 rcases aD (!x1) with eH|eH
 replace h:=aP eH h
 iterate 2 refine ga eH ?_
 refine s1 (aw eH) ?_
 refine sa ?_
 refine .nil (hK _ _ ?_)
 cases h
 exact pe0 h0 [0,1]
 replace h:=aQ eH h
 iterate 2 refine aH rfl rfl eH ?_
 refine s1 (al eH) ?_
 refine sa ?_
 refine .nil (hK _ _ ?_)
 cases h
 exact pe0 h0 [0,1]
 rintro ex tm' hp' ⟨rfl,hw⟩
 refine AW.weak hw (cdh h rfl (fun qz h=>?_) (fun qz h=>?_))
 refine ra hx ?_
 refine AW.ret ?_
 cases h
 exact rv1
 refine ra hx ?_
 refine cdh h rfl (fun iS h=>?_) (fun iS h=>?_)
 refine ra hx ?_
 refine AW.ret ?_
 cases h
 exact rv1
 refine ra hx ?_
 refine cdh h rfl (fun rY h=>?_) (fun rY h=>?_)
 refine ra hx ?_
 refine AW.ret ?_
 cases h
 exact rv1
 refine AW.skip (ra hx ?_)
 refine AW.seq (AW.label (AW.seq (AW.block ?_)))
 obtain⟨tL,hy,h⟩:=ab h
 refine lp (S:=Int×aq×aq) (X:=Int) (fun (yx,ub,ua)=>[(2,.pt 0 0),(3,.pt 1 0),(7,dI .i64 yx)]) (fun (yx,ub,ua)=>⟨[(0,dC (ai.f ub)),(1,dC (ai.f ua))],[],2⟩) (PE cx (.exit 1) (fun tL=>[(7,dI .i64 tL)]) fun tL=>⟨[],[],0⟩) hy ?_ ?_ ?_
 exact wk h0 [0,1] (wR rfl (wR rfl (wR rfl wTn))) (vC rfl (vC rfl wVn)) wLn
 clear hy h
 rintro⟨yx,ub,ua⟩ y h
 dsimp only[i9] at h
 refine AW.block (AW.seq (rsd [97,96] hx fun K hK=>?_))
 refine sa ?_
 refine s1 (au (br ub) ap) ?_
 refine sa ?_
 refine s1 (au (aS ub) ap) ?_
 refine cqb h kb fun jA h=>?_
 refine sa ?_
 refine s1 (au (br ua) ap) ?_
 refine sa ?_
 refine s1 (au (aS ua) ap) ?_
 refine cqb h kb fun jB h=>?_
 refine cqb h Gx fun mD h=>?_
 refine sa ?_
 refine .nil (hK _ _ (ra hx ?_))
 refine cdh h rfl (fun nS h=>?_) (fun nS h=>?_)
 refine ra hx ?_
 refine AW.exit ?_
 try dsimp only
 try simp only[aU,reduceIte,Nat.reduceEqDiff,reduceCtorEq]
 cases h
 exact PS.r ⟨by nofun,PE.i (wk h0 [] (wR rfl wTn) wVn wLn)⟩
 refine AW.skip (AW.seq ?_)
 obtain⟨nL,uf,h⟩:=ab h
 obtain⟨rf,v4,h⟩:=ab h
 refine jn (PE cx .normal (fun (_:Unit)=>[(2,.pt 0 0),(3,.pt 1 0),(7,dI .i64 yx)]) (fun (_:Unit)=>⟨[(0,dC (ai.f (⟨ub.vD,nL⟩:aq))),(1,dC (ai.f (⟨ua.vD,rf⟩:aq)))],[],2⟩) ()) ?_ ?_
 refine dw (DW.split 9 16 (by decide) ?_ ?_)
 refine dwg [98] [0,1,2,3,4,5,6,7,8,9,10,11,12,13,14,15,16,17] hx (by kernel_rfl) (by kernel_rfl) (by kernel_rfl) fun K hK=>?_
 dsimp only[et,mA,mK,List.map]
 refine sa ?_
 refine s1 (au (aS ub) ap) ?_
 refine sa ?_
 refine s1 (au (br ub) ap) ?_
 refine sa ?_
 refine s1 (au (aS ub) ap) ?_
 refine cq (rp uf) ?_
 refine s1 (d:=dG ai (⟨ub.vD,nL⟩:aq)) (g8 (FL.cons (y:=ub.vD) (br cY) rfl rfl (FL.cons (y:=nL) (aS (⟨ub.vD,be⟩:aq)) rfl rfl (FL.nil _))) ay) ?_
 refine sa ?_
 refine s1 (au (aS ua) ap) ?_
 refine sa ?_
 refine s1 (au (br ua) ap) ?_
 refine sa ?_
 refine s1 (au (aS ua) ap) ?_
 refine cq (rp v4) ?_
 refine s1 (d:=dG ai (⟨ua.vD,rf⟩:aq)) (g8 (FL.cons (y:=ua.vD) (br cY) rfl rfl (FL.cons (y:=rf) (aS (⟨ua.vD,be⟩:aq)) rfl rfl (FL.nil _))) ay) ?_
 refine s0 (aE (b':=(⟨ub.vD,nL⟩:aq)) (am.id _ _) ay) ?_
 refine s0 (aE (b':=(⟨ua.vD,rf⟩:aq)) (am.id _ _) ay) ?_
 exact .nil (hK _ _ (pe0 h0 [0,1]))
 refine dwg [98] [0,1,2,3,4,5,6,7,8,10,11,12,13,14,16,9,15,17] hx (by kernel_rfl) (by kernel_rfl) (by kernel_rfl) fun K hK=>?_
 dsimp only[et,mA,mK,List.map]
 refine sa ?_
 refine s1 (au (aS ub) ap) ?_
 refine sa ?_
 refine s1 (au (br ub) ap) ?_
 refine sa ?_
 refine s1 (au (aS ub) ap) ?_
 refine cq (rp uf) ?_
 refine s1 (d:=dG ai (⟨ub.vD,nL⟩:aq)) (g8 (FL.cons (y:=ub.vD) (br cY) rfl rfl (FL.cons (y:=nL) (aS (⟨ub.vD,be⟩:aq)) rfl rfl (FL.nil _))) ay) ?_
 iterate 2 refine sa ?_
 refine s1 (au (br ua) ap) ?_
 refine sa ?_
 refine s1 (au (aS ua) ap) ?_
 refine cq (rp v4) ?_
 refine s0 (aE (b':=(⟨ub.vD,nL⟩:aq)) (am.id _ _) ay) ?_
 refine s1 (au (aS ua) ap) ?_
 refine s1 (d:=dG ai (⟨ua.vD,rf⟩:aq)) (g8 (FL.cons (y:=ua.vD) (br cY) rfl rfl (FL.cons (y:=rf) (aS (⟨ua.vD,be⟩:aq)) rfl rfl (FL.nil _))) ay) ?_
 refine s0 (aE (b':=(⟨ua.vD,rf⟩:aq)) (am.id _ _) ay) ?_
 exact .nil (hK _ _ (pe0 h0 [0,1]))
 rintro ex tm' hp' ⟨rfl,hw⟩
 refine AW.weak hw (rsd [95] hx fun K hK=>?_)
 refine sa ?_
 refine s1 (au (aS (⟨ub.vD,nL⟩:aq)) ap) ?_
 refine cqb h ku fun sb h=>?_
 refine sa ?_
 refine s1 (au (aS (⟨ua.vD,rf⟩:aq)) ap) ?_
 refine cqb h ku fun sS h=>?_
 iterate 2 refine sa ?_
 refine .nil (hK _ _ ?_)
 iterate 2 refine AW.seq ?_
 obtain⟨sL,hy,h⟩:=ab h
 refine jn ((PE cx .normal (fun sL=>[(2,.pt 0 0),(3,.pt 1 0),(7,dI .i64 yx),(9,dI .i64 sb),(10,dI .i64 sS),(71,dB sL)]) fun sL=>⟨[(0,dC (ai.f (⟨ub.vD,nL⟩:aq))),(1,dC (ai.f (⟨ua.vD,rf⟩:aq)))],[],2⟩) sL) ?_ ?_
 replace h:=hy
 refine rq hx fun K hK=>?_
 iterate 3 refine sa ?_
 rcases aD (decide (sb=(0:Int))) with Je|Je
 replace h:=aP Je h
 iterate 2 refine aH rfl rfl Je ?_
 refine s1 (aw Je) ?_
 refine .nil (hK _ _ ?_)
 cases h
 exact pe0 h0 [0,1]
 replace h:=aQ Je h
 iterate 2 refine ga Je ?_
 refine s1 (al Je) ?_
 refine .nil (hK _ _ ?_)
 cases h
 exact pe0 h0 [0,1]
 rintro ex tm' hp' ⟨rfl,hw⟩
 refine AW.weak hw (cdh h rfl (fun v8 h=>?_) (fun v8 h=>?_))
 refine rs hx fun K hK=>?_
 iterate 5 refine sa ?_
 obtain⟨Gj,IQ,h⟩:=ab h
 replace IQ:=bQ IQ
 refine s2 (d2:=dI .i64 Gj) ly (gq (congrArg (dI .i64) IQ)) ?_
 refine .nil (hK _ _ (AW.exit ?_))
 try dsimp only
 try simp only[aU,reduceIte,Nat.reduceEqDiff,reduceCtorEq]
 cases h
 exact PS.r ⟨by nofun,PE.i (wk h0 [] (wR rfl wTn) wVn wLn)⟩
 refine AW.skip (rb hx ?_)
 cases h
 exact PS.l (pe0 h0 [0,1])
 rintro ex tm' hp' ⟨rfl,hw⟩
 try dsimp only
 try simp only[aU,reduceIte,Nat.reduceEqDiff,reduceCtorEq]
 refine AW.weak hw (ra hx ?_)
 refine AW.ret ?_
 cases h
 exact rv1
def l8 :Option av:=bnd (gU (1:Int)) fun x1=>some x1
theorem ut  {r:av}(h:l8=some r):ax Tryz.prog 125 [] (dG aj r):=by
 refine bE (rs:=[.cell 0 41]) (fun cx hx h0=>?_) Tryz.func125
 unfold l8 at h
 refine rs hx fun K hK=>?_
 refine s1 (bm (F:=aj.f be) ap) ?_
 refine .nil (hK _ _ (rs hx fun K hK=>?_))
 refine scb h lR fun x1 h=>?_
 refine s0 (aE (b':=x1) (am.id _ _) ap) ?_
 refine .nil (hK _ _ (AW.ret ?_))
 cases h
 exact rv1
def fq(aY:aq):Option Bool:=bnd (S:=Bool) (bnd (bD aY.vN) fun x1=>cnd (!x1) (some (true)) (bnd (bD aY.vD) fun x4=>some (!x4))) fun dY=>cnd dY (some false) (bnd (S:=Bool) (bnd (kG aY.vD) fun x8=>cnd (decide ((0:Int)<x8)) (bnd (ma aY.vN aY.vD) fun ro=>bnd (l8) fun mX=>some (decide (ro=mX))) (some (false))) fun oz=>some oz)
theorem mn {aY:aq}{r:Bool}(h:fq aY=some r):ax Tryz.prog 89 [dG ai aY] (dB r):=by
 refine bE (rs:=[.tmp 2]) (fun cx hx h0=>?_) Tryz.func89
 unfold fq at h
 refine ra hx ?_
 iterate 2 refine AW.seq ?_
 obtain⟨dY,hy,h⟩:=ab h
 refine jn ((PE cx .normal (fun dY=>[(1,.pt 0 0),(12,dB dY)]) fun dY=>⟨[(0,dC (ai.f aY))],[],1⟩) dY) ?_ ?_
 replace h:=hy
 refine rq hx fun K hK=>?_
 refine sa ?_
 refine s1 (au (br aY) ap) ?_
 refine scb h cM fun x1 h=>?_
 iterate 2 refine sa ?_
 rcases aD (!x1) with bb|bb
 replace h:=aP bb h
 iterate 4 refine aH rfl rfl bb ?_
 refine s1 (aw bb) ?_
 refine .nil (hK _ _ ?_)
 cases h
 exact pe0 h0 [0]
 replace h:=aQ bb h
 refine ga bb ?_
 refine g1 bb (au (aS aY) ap) ?_
 obtain⟨x4,p6,h⟩:=ab h
 refine g1 bb (bj rfl (cM p6) (by simp only[dJ,eD,cH,bP,bB,bq];exact aI _ _) (lA (cD _ _) lAn) (.inl rfl)) ?_
 refine ga bb ?_
 refine s1 (al bb) ?_
 refine .nil (hK _ _ ?_)
 cases h
 exact pe0 h0 [0]
 rintro ex tm' hp' ⟨rfl,hw⟩
 refine AW.weak hw (cdh h rfl (fun qz h=>?_) (fun qz h=>?_))
 refine ra hx ?_
 refine AW.ret ?_
 cases h
 exact rv1
 refine AW.skip (AW.seq ?_)
 obtain⟨oz,hy,h⟩:=ab h
 refine jn ((PE cx .normal (fun oz=>[(2,dB oz)]) fun oz=>⟨[],[],0⟩) oz) ?_ ?_
 replace h:=hy
 refine rq hx fun K hK=>?_
 refine sa ?_
 refine s1 (au (aS aY) ap) ?_
 refine scb h s6 fun x8 h=>?_
 iterate 2 refine sa ?_
 rcases aD (decide ((0:Int)<x8)) with dM|dM
 replace h:=aP dM h
 refine ga dM ?_
 refine g1 dM (au (br aY) ap) ?_
 refine ga dM ?_
 refine g1 dM (au (aS aY) ap) ?_
 obtain⟨ro,Fx,h⟩:=ab h
 refine g1 dM (bj rfl (uw Fx) (by simp only[dJ,eD,cH,bP,bB,bq];exact⟨aI _ _,aI _ _⟩) (lA (cD _ _) (lA (cD _ _) lAn)) (.inl (g9 _ _))) ?_
 obtain⟨mX,uQ,h⟩:=ab h
 refine g1 dM (bj rfl (ut uQ) rfl lAn (.inl (g9 _ _))) ?_
 refine g1 dM (zV tok 3 (by decide) gK ap) ?_
 refine s1 (aw dM) ?_
 refine sa ?_
 refine .nil (hK _ _ ?_)
 cases h
 exact pe0 h0 []
 replace h:=aQ dM h
 iterate 7 refine aH rfl rfl dM ?_
 refine s1 (al dM) ?_
 refine sa ?_
 refine .nil (hK _ _ ?_)
 cases h
 exact pe0 h0 []
 rintro ex tm' hp' ⟨rfl,hw⟩
 refine AW.weak hw (AW.ret ?_)
 cases h
 exact rv1
def ny :Option aq:=bnd (fH) fun x1=>bnd (l8) fun x3=>some (⟨x1,x3⟩:aq)
theorem rr  {r:aq}(h:ny=some r):ax Tryz.prog 67 [] (dG ai r):=by
 refine bE (rs:=[.cell 0 43]) (fun cx hx h0=>?_) Tryz.func67
 unfold ny at h
 refine rs hx fun K hK=>?_
 refine s1 (bm (F:=ai.f cY) ay) ?_
 refine .nil (hK _ _ (rs hx fun K hK=>?_))
 refine scb h ke fun x1 h=>?_
 refine scb h ut fun x3 h=>?_
 refine s1 (d:=dG ai (⟨x1,x3⟩:aq)) (g8 (FL.cons (y:=x1) (br cY) rfl rfl (FL.cons (y:=x3) (aS (⟨x1,be⟩:aq)) rfl rfl (FL.nil _))) ay) ?_
 refine s0 (aE (b':=(⟨x1,x3⟩:aq)) (am.id _ _) ay) ?_
 refine .nil (hK _ _ (AW.ret ?_))
 cases h
 exact rv1
def gh(cG:av)(tg:av):Option aq:=bnd (S:=Bool) (bnd (bD cG) fun x1=>cnd (!x1) (some (true)) (bnd (bD tg) fun x4=>cnd (!x4) (some (true)) (bnd (kG tg) fun x7=>some (decide (x7=(0:Int)))))) fun dY=>cnd dY (bnd (ny) fun ro=>some ro) (bnd (ma cG tg) fun mX=>bnd (S:=av) (bnd (kG tg) fun Gk=>cnd (decide (Gk<(0:Int))) (bnd (pm mX) fun q9=>some (q9)) (some (mX))) fun d9=>bnd (kg cG d9) fun sb=>bnd (kg tg d9) fun sS=>some (⟨sb,sS⟩:aq))
set_option maxHeartbeats 4000000 in
theorem mm {cG:av}{tg:av}{r:aq}(h:gh cG tg=some r):ax Tryz.prog 126 [dG aj cG,dG aj tg] (dG ai r):=by
 refine bE (rs:=[.cell 4 43]) (fun cx hx h0=>?_) Tryz.func126
 unfold gh at h
 refine rs hx fun K hK=>?_
 iterate 2 refine sa ?_
 refine s1 (bm (F:=ai.f cY) ay) ?_
 refine .nil (hK _ _ ?_)
 iterate 2 refine AW.seq ?_
 obtain⟨dY,hy,h⟩:=ab h
 refine jn ((PE cx .normal (fun dY=>[(2,.pt 0 0),(3,.pt 1 0),(4,.pt 2 0),(18,dB dY)]) fun dY=>⟨[(0,dC (aj.f cG)),(1,dC (aj.f tg)),(2,dC (ai.f cY))],[],3⟩) dY) ?_ ?_
 replace h:=hy
 refine rq hx fun K hK=>?_
 refine s1 (d:=dG aj cG) (au (am.id _ _) ap) ?_
 refine scb h cM fun x1 h=>?_
 iterate 2 refine sa ?_
 rcases aD (!x1) with bb|bb
 replace h:=aP bb h
 iterate 3 refine aH rfl rfl bb ?_
 refine s1 (aw bb) ?_
 refine sa ?_
 iterate 3 refine aH rfl rfl rfl ?_
 refine s1 (aw rfl) ?_
 refine .nil (hK _ _ ?_)
 cases h
 exact pe0 h0 [0,1,2]
 replace h:=aQ bb h
 refine g1 (d:=dG aj tg) bb (au (am.id _ _) ap) ?_
 obtain⟨x4,p6,h⟩:=ab h
 refine g1 bb (bj rfl (cM p6) (by simp only[dJ,eD,cH,bP,bB,bq];exact aI _ _) (lA (cD _ _) lAn) (.inl rfl)) ?_
 refine ga bb ?_
 refine s1 (al bb) ?_
 refine sa ?_
 rcases aD (!x4) with fe|fe
 replace h:=aP fe h
 iterate 3 refine aH rfl rfl fe ?_
 refine s1 (aw fe) ?_
 refine .nil (hK _ _ ?_)
 cases h
 exact pe0 h0 [0,1,2]
 replace h:=aQ fe h
 refine g1 (d:=dG aj tg) fe (au (am.id _ _) ap) ?_
 obtain⟨x7,DI,h⟩:=ab h
 refine g1 fe (bj rfl (s6 DI) (by simp only[dJ,eD,cH,bP,bB,bq];exact aI _ _) (lA (cD _ _) lAn) (.inl rfl)) ?_
 refine ga fe ?_
 refine s1 (al fe) ?_
 refine .nil (hK _ _ ?_)
 cases h
 exact pe0 h0 [0,1,2]
 rintro ex tm' hp' ⟨rfl,hw⟩
 refine AW.weak hw (cdh h rfl (fun dM h=>?_) (fun dM h=>?_))
 refine rs hx fun K hK=>?_
 refine scb h rr fun ro h=>?_
 refine s0 (aE (b':=ro) (am.id _ _) ay) ?_
 refine .nil (hK _ _ (AW.ret ?_))
 cases h
 exact rv1
 refine AW.skip (rs hx fun K hK=>?_)
 refine s1 (d:=dG aj cG) (au (am.id _ _) ap) ?_
 refine s1 (d:=dG aj tg) (au (am.id _ _) ap) ?_
 refine scb h uw fun mX h=>?_
 refine s1 (bm (F:=aj.f be) ap) ?_
 refine s0 (aE (b':=mX) (am.id _ _) ap) ?_
 refine .nil (hK _ _ (AW.seq ?_))
 obtain⟨d9,hy,h⟩:=ab h
 refine jn ((PE cx .normal (fun d9=>[(2,.pt 0 0),(3,.pt 1 0),(4,.pt 2 0),(5,.pt 3 0)]) fun d9=>⟨[(0,dC (aj.f cG)),(1,dC (aj.f tg)),(2,dC (ai.f cY)),(3,dC (aj.f d9))],[],4⟩) d9) ?_ ?_
 replace h:=hy
 refine rs hx fun K hK=>?_
 refine s1 (d:=dG aj tg) (au (am.id _ _) ap) ?_
 refine scb h s6 fun Gk h=>?_
 refine sa ?_
 refine .nil (hK _ _ (cdh h rfl (fun uT h=>?_) (fun uT h=>?_)))
 refine rq hx fun K hK=>?_
 refine s1 (d:=dG aj mX) (au (am.id _ _) ap) ?_
 refine scb h GC fun q9 h=>?_
 refine s0 (aE (b':=q9) (am.id _ _) ap) ?_
 refine .nil (hK _ _ ?_)
 cases h
 exact pe0 h0 [0,1,2,3]
 refine AW.skip ?_
 cases h
 exact pe0 h0 [0,1,2,3]
 rintro ex tm' hp' ⟨rfl,hw⟩
 refine AW.weak hw (rsd [128] hx fun K hK=>?_)
 refine s1 (d:=dG aj cG) (au (am.id _ _) ap) ?_
 refine s1 (d:=dG aj d9) (au (am.id _ _) ap) ?_
 refine cqb h rt fun sb h=>?_
 refine s1 (d:=dG aj tg) (au (am.id _ _) ap) ?_
 refine s1 (d:=dG aj d9) (au (am.id _ _) ap) ?_
 refine cqb h rt fun sS h=>?_
 refine s1 (d:=dG ai (⟨sb,sS⟩:aq)) (g8 (FL.cons (y:=sb) (br cY) rfl rfl (FL.cons (y:=sS) (aS (⟨sb,be⟩:aq)) rfl rfl (FL.nil _))) ay) ?_
 refine s0 (aE (b':=(⟨sb,sS⟩:aq)) (am.id _ _) ay) ?_
 refine .nil (hK _ _ (AW.ret ?_))
 cases h
 exact rv1
def uX(aY:aq)(jx:aq):Option aq:=bnd (S:=Bool) (bnd (fq aY) fun x1=>cnd (!x1) (some (true)) (bnd (fq jx) fun x4=>some (!x4))) fun dY=>cnd dY (bnd (ny) fun x8=>some x8) (bnd (ma aY.vD jx.vD) fun jA=>bnd (kg aY.vD jA) fun jB=>bnd (kg jx.vD jA) fun mD=>bnd (l9 aY.vN mD) fun sT=>bnd (l9 jx.vN jB) fun q9=>bnd (uY sT q9) fun Ay=>bnd (l9 jB jx.vD) fun yE=>bnd (gh Ay yE) fun Ax=>some Ax)
set_option maxHeartbeats 4000000 in
theorem GA {aY:aq}{jx:aq}{r:aq}(h:uX aY jx=some r):ax Tryz.prog 69 [dG ai aY,dG ai jx] (dG ai r):=by
 refine bE (rs:=[.cell 4 43]) (fun cx hx h0=>?_) Tryz.func69
 unfold uX at h
 refine rs hx fun K hK=>?_
 iterate 2 refine sa ?_
 refine s1 (bm (F:=ai.f cY) ay) ?_
 refine .nil (hK _ _ ?_)
 iterate 2 refine AW.seq ?_
 obtain⟨dY,hy,h⟩:=ab h
 refine jn ((PE cx .normal (fun dY=>[(2,.pt 0 0),(3,.pt 1 0),(4,.pt 2 0),(15,dB dY)]) fun dY=>⟨[(0,dC (ai.f aY)),(1,dC (ai.f jx)),(2,dC (ai.f cY))],[],3⟩) dY) ?_ ?_
 replace h:=hy
 refine rq hx fun K hK=>?_
 refine s1 (d:=dG ai aY) (au (am.id _ _) ay) ?_
 refine scb h mn fun x1 h=>?_
 iterate 2 refine sa ?_
 rcases aD (!x1) with bb|bb
 replace h:=aP bb h
 iterate 3 refine aH rfl rfl bb ?_
 refine s1 (aw bb) ?_
 refine .nil (hK _ _ ?_)
 cases h
 exact pe0 h0 [0,1,2]
 replace h:=aQ bb h
 refine g1 (d:=dG ai jx) bb (au (am.id _ _) ay) ?_
 obtain⟨x4,p6,h⟩:=ab h
 refine g1 bb (bj rfl (mn p6) (by simp only[dJ,eD,cH,bP,bB,bq];exact aI _ _) (lA (cD _ _) lAn) (.inl rfl)) ?_
 refine ga bb ?_
 refine s1 (al bb) ?_
 refine .nil (hK _ _ ?_)
 cases h
 exact pe0 h0 [0,1,2]
 rintro ex tm' hp' ⟨rfl,hw⟩
 refine AW.weak hw (cdh h rfl (fun qz h=>?_) (fun qz h=>?_))
 refine rs hx fun K hK=>?_
 refine scb h rr fun x8 h=>?_
 refine s0 (aE (b':=x8) (am.id _ _) ay) ?_
 refine .nil (hK _ _ (AW.ret ?_))
 cases h
 exact rv1
 refine AW.skip (rs hx fun K hK=>?_)
 refine sa ?_
 refine s1 (au (aS aY) ap) ?_
 refine sa ?_
 refine s1 (au (aS jx) ap) ?_
 refine scb h uw fun jA h=>?_
 refine s1 (bm (F:=aj.f be) ap) ?_
 refine s0 (aE (b':=jA) (am.id _ _) ap) ?_
 refine .nil (hK _ _ (rs hx fun K hK=>?_))
 refine sa ?_
 refine s1 (au (aS aY) ap) ?_
 refine s1 (d:=dG aj jA) (au (am.id _ _) ap) ?_
 refine scb h rt fun jB h=>?_
 refine s1 (bm (F:=aj.f be) ap) ?_
 refine s0 (aE (b':=jB) (am.id _ _) ap) ?_
 refine .nil (hK _ _ (rs hx fun K hK=>?_))
 refine sa ?_
 refine s1 (au (aS jx) ap) ?_
 refine s1 (d:=dG aj jA) (au (am.id _ _) ap) ?_
 refine scb h rt fun mD h=>?_
 refine s1 (bm (F:=aj.f be) ap) ?_
 refine s0 (aE (b':=mD) (am.id _ _) ap) ?_
 refine .nil (hK _ _ (rsd [130,129,126] hx fun K hK=>?_))
 refine sa ?_
 refine s1 (au (br aY) ap) ?_
 refine s1 (d:=dG aj mD) (au (am.id _ _) ap) ?_
 refine cqb h o8 fun sT h=>?_
 refine sa ?_
 refine s1 (au (br jx) ap) ?_
 refine s1 (d:=dG aj jB) (au (am.id _ _) ap) ?_
 refine cqb h o8 fun q9 h=>?_
 refine cqb h GD fun Ay h=>?_
 refine s1 (d:=dG aj jB) (au (am.id _ _) ap) ?_
 refine sa ?_
 refine s1 (au (aS jx) ap) ?_
 refine cqb h o8 fun yE h=>?_
 refine cqb h mm fun Ax h=>?_
 refine s0 (aE (b':=Ax) (am.id _ _) ay) ?_
 refine .nil (hK _ _ (AW.ret ?_))
 cases h
 exact rv1
def uW(aY:aq)(jx:aq):Option aq:=bnd (S:=Bool) (bnd (fq aY) fun x1=>cnd (!x1) (some (true)) (bnd (fq jx) fun x4=>some (!x4))) fun dY=>cnd dY (bnd (ny) fun x8=>some x8) (bnd (gh aY.vN jx.vD) fun jA=>bnd (gh jx.vN aY.vD) fun jB=>bnd (l9 jA.vN jB.vN) fun mD=>bnd (l9 jA.vD jB.vD) fun sT=>bnd (gh mD sT) fun q9=>some q9)
set_option maxHeartbeats 4000000 in
theorem Gz {aY:aq}{jx:aq}{r:aq}(h:uW aY jx=some r):ax Tryz.prog 70 [dG ai aY,dG ai jx] (dG ai r):=by
 refine bE (rs:=[.cell 4 43]) (fun cx hx h0=>?_) Tryz.func70
 unfold uW at h
 refine rs hx fun K hK=>?_
 iterate 2 refine sa ?_
 refine s1 (bm (F:=ai.f cY) ay) ?_
 refine .nil (hK _ _ ?_)
 iterate 2 refine AW.seq ?_
 obtain⟨dY,hy,h⟩:=ab h
 refine jn ((PE cx .normal (fun dY=>[(2,.pt 0 0),(3,.pt 1 0),(4,.pt 2 0),(16,dB dY)]) fun dY=>⟨[(0,dC (ai.f aY)),(1,dC (ai.f jx)),(2,dC (ai.f cY))],[],3⟩) dY) ?_ ?_
 replace h:=hy
 refine rq hx fun K hK=>?_
 refine s1 (d:=dG ai aY) (au (am.id _ _) ay) ?_
 refine scb h mn fun x1 h=>?_
 iterate 2 refine sa ?_
 rcases aD (!x1) with bb|bb
 replace h:=aP bb h
 iterate 3 refine aH rfl rfl bb ?_
 refine s1 (aw bb) ?_
 refine .nil (hK _ _ ?_)
 cases h
 exact pe0 h0 [0,1,2]
 replace h:=aQ bb h
 refine g1 (d:=dG ai jx) bb (au (am.id _ _) ay) ?_
 obtain⟨x4,p6,h⟩:=ab h
 refine g1 bb (bj rfl (mn p6) (by simp only[dJ,eD,cH,bP,bB,bq];exact aI _ _) (lA (cD _ _) lAn) (.inl rfl)) ?_
 refine ga bb ?_
 refine s1 (al bb) ?_
 refine .nil (hK _ _ ?_)
 cases h
 exact pe0 h0 [0,1,2]
 rintro ex tm' hp' ⟨rfl,hw⟩
 refine AW.weak hw (cdh h rfl (fun qz h=>?_) (fun qz h=>?_))
 refine rs hx fun K hK=>?_
 refine scb h rr fun x8 h=>?_
 refine s0 (aE (b':=x8) (am.id _ _) ay) ?_
 refine .nil (hK _ _ (AW.ret ?_))
 cases h
 exact rv1
 refine AW.skip (rs hx fun K hK=>?_)
 refine sa ?_
 refine s1 (au (br aY) ap) ?_
 refine sa ?_
 refine s1 (au (aS jx) ap) ?_
 refine scb h mm fun jA h=>?_
 refine s1 (bm (F:=ai.f cY) ay) ?_
 refine s0 (aE (b':=jA) (am.id _ _) ay) ?_
 refine .nil (hK _ _ (rs hx fun K hK=>?_))
 refine sa ?_
 refine s1 (au (br jx) ap) ?_
 refine sa ?_
 refine s1 (au (aS aY) ap) ?_
 refine scb h mm fun jB h=>?_
 refine s1 (bm (F:=ai.f cY) ay) ?_
 refine s0 (aE (b':=jB) (am.id _ _) ay) ?_
 refine .nil (hK _ _ (rs hx fun K hK=>?_))
 refine sa ?_
 refine s1 (au (br jA) ap) ?_
 refine sa ?_
 refine s1 (au (br jB) ap) ?_
 refine scb h o8 fun mD h=>?_
 refine s1 (bm (F:=aj.f be) ap) ?_
 refine s0 (aE (b':=mD) (am.id _ _) ap) ?_
 refine .nil (hK _ _ (rs hx fun K hK=>?_))
 refine sa ?_
 refine s1 (au (aS jA) ap) ?_
 refine sa ?_
 refine s1 (au (aS jB) ap) ?_
 refine scb h o8 fun sT h=>?_
 refine s1 (bm (F:=aj.f be) ap) ?_
 refine s0 (aE (b':=sT) (am.id _ _) ap) ?_
 refine .nil (hK _ _ (rs hx fun K hK=>?_))
 refine s1 (d:=dG aj mD) (au (am.id _ _) ap) ?_
 refine s1 (d:=dG aj sT) (au (am.id _ _) ap) ?_
 refine scb h mm fun q9 h=>?_
 refine s0 (aE (b':=q9) (am.id _ _) ay) ?_
 refine .nil (hK _ _ (AW.ret ?_))
 cases h
 exact rv1
def oR(cG:Int):Option aq:=bnd (gU cG) fun x1=>bnd (l8) fun x3=>bnd (gh x1 x3) fun x5=>some x5
theorem Bl {cG:Int}{r:aq}(h:oR cG=some r):ax Tryz.prog 68 [dI .i64 cG] (dG ai r):=by
 refine bE (rs:=[.cell 2 43]) (fun cx hx h0=>?_) Tryz.func68
 unfold oR at h
 refine rs hx fun K hK=>?_
 refine s1 (bm (F:=ai.f cY) ay) ?_
 refine .nil (hK _ _ (rs hx fun K hK=>?_))
 refine sa ?_
 refine scb h lR fun x1 h=>?_
 refine scb h ut fun x3 h=>?_
 refine scb h mm fun x5 h=>?_
 refine s0 (aE (b':=x5) (am.id _ _) ay) ?_
 refine .nil (hK _ _ (AW.ret ?_))
 cases h
 exact rv1
def mr(aN:Int)(aV:Int):Option aq:=bnd (gU aN) fun x1=>bnd (gU aV) fun x3=>bnd (gh x1 x3) fun x5=>some x5
theorem xD {aN:Int}{aV:Int}{r:aq}(h:mr aN aV=some r):ax Tryz.prog 102 [dI .i64 aN,dI .i64 aV] (dG ai r):=by
 refine bE (rs:=[.cell 4 43]) (fun cx hx h0=>?_) Tryz.func102
 unfold mr at h
 refine rs hx fun K hK=>?_
 refine s1 (bm (F:=ai.f cY) ay) ?_
 refine .nil (hK _ _ (rs hx fun K hK=>?_))
 refine sa ?_
 refine scb h lR fun x1 h=>?_
 refine sa ?_
 refine scb h lR fun x3 h=>?_
 refine scb h mm fun x5 h=>?_
 refine s0 (aE (b':=x5) (am.id _ _) ay) ?_
 refine .nil (hK _ _ (AW.ret ?_))
 cases h
 exact rv1
def nf(q:Rat):Prop:=q.num.natAbs<LIM∧q.den<LIM
instance(q:Rat):Decidable (nf q):=by unfold nf;exact inferInstance
def kZ(q:Rat):aq:=⟨enc q.num,enc (q.den:Int)⟩
def D0:aq:=⟨HO,enc 1⟩
def zD:Option Rat→aq
 |some q=>kZ q
 |none=>D0
def okR(x:aq):Prop:=okI x.vN∧okI x.vD
theorem th(o:Option Rat):okR (zD o):=by
 cases o with
 |some q=>exact⟨A0 _,A0 _⟩
 |none=>
  refine⟨fun j hj=>?_,A0 _⟩
  show 0≤(W 0)[j]!∧(W 0)[j]! <4294967296
  rw[gO hj];have:=@dgl 0 j;omega
theorem O0 {p q:Rat}(hp:nf p)(hq:nf q)(h:kZ p=kZ q):p=q:=by
 unfold kZ at h
 simp only[aq.mk.injEq] at h
 have h1:=yh hp.1 hq.1 h.1
 have h2:=yh (by simpa using hp.2) (by simpa using hq.2) h.2
 exact Rat.ext h1 (by omega)
theorem tr {z:Int}:ej (enc z)=decide (z.natAbs<LIM):=by
 by_cases h:z.natAbs<LIM
 ·rw[bz h,aF h]
 ·rw[Ck h,Ey,bH h]
theorem HA {q:Rat}(h:nf q):kZ q≠D0:=by
 intro e
 have:ej (kZ q).vN=ej D0.vN:=by rw[e]
 rw[show (kZ q).vN=enc q.num from rfl,bz h.1] at this
 cases this
def dT(x:aq):Option Rat:=open Classical in if h:∃q,nf q∧x=kZ q then some (Classical.choose h) else none
theorem eG {x:aq}{q:Rat}:dT x=some q↔nf q∧x=kZ q:=by
 unfold dT
 split
 ·rename_i h
  obtain⟨h1,h2⟩:=zJ h
  constructor
  ·intro e
   injection e with e
   rw[←e];exact⟨h1,h2⟩
  ·rintro⟨h3,h4⟩
   congr 1
   exact O0 h1 h3 (h2.symm.trans h4)
 ·rename_i h
  constructor
  ·intro e;cases e
  ·rintro h3;exact absurd ⟨q,h3⟩ h
theorem yI {x:aq}:dT x=none↔∀q,nf q→x≠kZ q:=by
 constructor
 ·intro h q hq e
  rw[eG.2 ⟨hq,e⟩] at h;cases h
 ·intro h
  cases hx:dT x with
  |none=>rfl
  |some q=>exact absurd (eG.1 hx).2 (h q (eG.1 hx).1)
theorem uC {q:Rat}(h:nf q):dT (kZ q)=some q:=eG.2 ⟨h,rfl⟩
theorem MB:dT D0=none:=yI.2 fun _ hq e=>HA hq e.symm
def zy(o:Option Rat):Prop:=∀q,o=some q→nf q
theorem yJ {o:Option Rat}(h:zy o):dT (zD o)=o:=by
 cases o with
 |none=>exact MB
 |some q=>exact uC (h q rfl)
theorem Cf(x:aq):zy (dT x):=fun _ h=>(eG.1 h).1
theorem oT:zy none:=fun _ h=>by cases h
theorem OW {g k:Int}(h:g≠0):(g*k).fdiv g=k:=Int.mul_fdiv_cancel_left _ h
theorem Km {g k:Int}(h:g≠0):(g*k).fdiv (-g)=-k:=by
 rw[show g*k=-g*-k from (Int.neg_mul_neg g k).symm]
 exact Int.mul_fdiv_cancel_left _ (by omega)
theorem qd {n d:Int}(hd:d≠0):∃k m:Int,n=(Nat.gcd n.natAbs d.natAbs:Nat)*k∧d=(Nat.gcd n.natAbs d.natAbs:Nat)*m∧m≠0∧(Rat.divInt n d).num=d.sign*k∧((Rat.divInt n d).den:Int)=d.sign*m:=by
 have hg0:Nat.gcd n.natAbs d.natAbs≠0:=by
  intro h
  have:=(Nat.gcd_eq_zero_iff.1 h).2
  omega
 have Ag:((Nat.gcd n.natAbs d.natAbs:Nat):Int)≠0:=by omega
 obtain⟨k,hk⟩:((Nat.gcd n.natAbs d.natAbs:Nat):Int) ∣ n:=Int.ofNat_dvd_left.2 (Nat.gcd_dvd_left _ _)
 obtain⟨m,hm⟩:((Nat.gcd n.natAbs d.natAbs:Nat):Int) ∣ d:=Int.ofNat_dvd_left.2 (Nat.gcd_dvd_right _ _)
 have hgg:((Int.gcd d n:Nat):Int)=((Nat.gcd n.natAbs d.natAbs:Nat):Int):=by
  rw[Int.gcd_comm];rfl
 have hmm:m≠0:=by
  intro h
  rw[h,Int.mul_zero] at hm
  exact hd hm
 refine⟨k,m,hk,hm,hmm,?_,?_⟩
 ·rw[Rat.num_divInt,hgg]
  generalize ((Nat.gcd n.natAbs d.natAbs:Nat):Int)=g at hk Ag ⊢
  rw[hk,Int.mul_left_comm,Int.mul_ediv_cancel_left _ Ag]
 ·rw[Rat.den_divInt,if_neg hd]
  have e:((d.natAbs / Int.gcd d n:Nat):Int)=(d.natAbs:Int) / ((Int.gcd d n:Nat):Int):=Int.natCast_ediv ..
  rw[e,hgg]
  have e2:(d.natAbs:Int)=d.sign*d:=by rw[Int.sign_mul_self]
  rw[e2]
  generalize ((Nat.gcd n.natAbs d.natAbs:Nat):Int)=g at hm Ag ⊢
  have e3:d.sign*d=g*(d.sign*m):=by
   conv=>lhs;rhs;rw[hm]
   rw[Int.mul_left_comm]
  rw[e3,Int.mul_ediv_cancel_left _ Ag]
theorem xe {n d:Int}(hd:d≠0)(h1:n.natAbs<LIM)(h2:d.natAbs<LIM):nf (Rat.divInt n d):=by
 obtain⟨k,m,hk,hm,Dj,e1,e2⟩:=qd (n:=n) hd
 have hg0:Nat.gcd n.natAbs d.natAbs≠0:=by
  intro h
  have:=(Nat.gcd_eq_zero_iff.1 h).2
  omega
 have hs:d.sign.natAbs=1:=by rw[Int.natAbs_sign,if_neg hd]
 refine⟨?_,?_⟩
 ·rw[e1,xm,hs,jZ]
  refine eV ?_ h1
  conv=>rhs;rw[hk]
  rw[xm,eU]
  exact CG _ (xn hg0)
 ·have:(Rat.divInt n d).den=(d.sign*m).natAbs:=by omega
  rw[this,xm,hs,jZ]
  refine eV ?_ h2
  conv=>rhs;rw[hm]
  rw[xm,eU]
  exact CG _ (xn hg0)
theorem G4 {n d:Int}(hd:d≠0):n.fdiv (bif decide (d<0) then -((Nat.gcd n.natAbs d.natAbs:Nat):Int) else ((Nat.gcd n.natAbs d.natAbs:Nat):Int))=(Rat.divInt n d).num∧d.fdiv (bif decide (d<0) then -((Nat.gcd n.natAbs d.natAbs:Nat):Int) else ((Nat.gcd n.natAbs d.natAbs:Nat):Int))=((Rat.divInt n d).den:Int):=by
 obtain⟨k,m,hk,hm,Dj,e1,e2⟩:=qd (n:=n) hd
 have Ag:((Nat.gcd n.natAbs d.natAbs:Nat):Int)≠0:=by
  intro h
  rw[h,Int.zero_mul] at hm
  exact hd hm
 rw[e1,e2]
 generalize ((Nat.gcd n.natAbs d.natAbs:Nat):Int)=g at hk hm Ag ⊢
 by_cases h:d<0
 ·rw[aF h,j4,CH h]
  constructor
  ·rw[hk,Km Ag];omega
  ·rw[hm,Km Ag];omega
 ·rw[bH h,cond_false,va (by omega)]
  constructor
  ·rw[hk,OW Ag];omega
  ·rw[hm,OW Ag];omega
theorem FJ {n d:Int}(hd:d≠0)(h2:d.natAbs<LIM):Nat.gcd n.natAbs d.natAbs<LIM∧Nat.gcd n.natAbs d.natAbs≠0:=
 ⟨eV (Nat.gcd_le_right _ (by omega)) h2,fun h=>by have:=(Nat.gcd_eq_zero_iff.1 h).2;omega⟩
theorem KJ:mb=some (enc 1):=by
 unfold mb
 rw[JB (by decide) (by decide),ae]
theorem o7(x:av):jr x=some (ej x):=by
 unfold jr
 rw[KL,ae,Pe,ae]
 congr 1
 unfold ej
 cases x.vBad <;> rfl
theorem vj:fI=some D0:=by
 unfold fI
 rw[KP,KJ,ae,ae]
 rfl
theorem ON {n d:Int}(hn:n.natAbs<LIM)(hd:d.natAbs<LIM):(∃q,nf q∧(⟨enc n,enc d⟩:aq)=kZ q)↔0<d∧Nat.gcd n.natAbs d.natAbs=1:=by
 constructor
 ·rintro⟨q,hq,e⟩
  unfold kZ at e
  simp only[aq.mk.injEq] at e
  have e1:=yh hn hq.1 e.1
  have e2:=yh hd (by simpa using hq.2) e.2
  subst e1;subst e2
  exact⟨by have:=q.den_pos;omega,by rw[eU];exact q.reduced⟩
 ·rintro⟨h1,h2⟩
  refine⟨⟨n,d.natAbs,by omega,h2⟩,⟨hn,hd⟩,?_⟩
  unfold kZ
  simp only[aq.mk.injEq,true_and]
  congr 1
  omega
theorem iJ {x:aq}(hx:okR x):bn x=some (dT x).isSome:=by
 obtain⟨n,d⟩:=x
 obtain⟨h1,h2⟩:=hx
 dsimp only at h1 h2
 have hb:∀b:Bool,(b=true↔∃q,nf q∧(⟨n,d⟩:aq)=kZ q)→(dT ⟨n,d⟩).isSome=b:=by
  intro b hb
  cases hv:dT ⟨n,d⟩ with
  |none=>
   cases b with
   |false=>rfl
   |true=>
    obtain⟨q,h3,h4⟩:=hb.1 rfl
    exact absurd h4 (yI.1 hv q h3)
  |some q=>exact ((hb.2 ⟨q,eG.1 hv⟩).symm)
 unfold bn
 dsimp only
 rw[o7,o7,ae,ae]
 cases Ag:ej n with
 |false=>
  rw[aX,ae,hb false]
  constructor
  ·intro h;cases h
  ·rintro⟨q,hq,e⟩
   unfold kZ at e
   simp only[aq.mk.injEq] at e
   rw[e.1,bz hq.1] at Ag;cases Ag
 |true=>
  cases DO:ej d with
  |false=>
   rw[gz,aX,ae,hb false]
   constructor
   ·intro h;cases h
   ·rintro⟨q,hq,e⟩
    unfold kZ at e
    simp only[aq.mk.injEq] at e
    rw[e.2,bz (by simpa using hq.2)] at DO;cases DO
  |true=>
   obtain⟨n,hn,rfl⟩:=yc h1 Ag
   obtain⟨d,hd,rfl⟩:=yc h2 DO
   have I1:=ON hn hd
   rw[gz,gz,vl hd,ae,KO hn hd,ae,KJ,ae,gj]
   by_cases h0:0<d
   ·rw[if_pos (by rw[va h0];decide),ae]
    congr 1
    symm
    refine hb _ ?_
    rw[I1,decide_eq_true_iff]
    have Kf:=(FJ (n:=n) (show d≠0 by omega) hd).1
    constructor
    ·intro h
     have:=yh (by simpa using Kf) (by decide) h
     exact⟨h0,by omega⟩
    ·rintro⟨_,h⟩
     rw[h];rfl
   ·rw[if_neg (by rw[Int.sign_pos_iff];exact h0),ae]
    congr 1
    symm
    refine hb _ ?_
    rw[I1]
    constructor
    ·intro h;cases h
    ·rintro⟨h,_⟩;exact absurd h h0
theorem C9 {n d:Int}(hn:n.natAbs<LIM)(hd:d.natAbs<LIM)(h0:d≠0):dE (enc n) (enc d)=some (kZ (Rat.divInt n d)):=by
 obtain⟨Ag,DO⟩:=FJ (n:=n) h0 hd
 obtain⟨e1,e2⟩:=G4 (n:=n) h0
 have Kf:(((Nat.gcd n.natAbs d.natAbs:Nat):Int)).natAbs<LIM:=by simpa using Ag
 unfold dE
 rw[o7,o7,ae,ae,bz hn,bz hd,c7,aX,aX,vl hd,ae,ae,cK _ _ (by rw[zM];exact h0),KO hn hd,ae,ae,Qf Kf,ae]
 have NP:(cnd (decide (d.sign<(0:Int))) (some (enc (-((Nat.gcd n.natAbs d.natAbs:Nat):Int)))) (some (enc ((Nat.gcd n.natAbs d.natAbs:Nat):Int))))=some (enc (bif decide (d<0) then -((Nat.gcd n.natAbs d.natAbs:Nat):Int) else ((Nat.gcd n.natAbs d.natAbs:Nat):Int))):=by
  by_cases h:d<0
  ·rw[de _ _ (by rw[Int.sign_neg_iff];exact h),aF h];rfl
  ·rw[cK _ _ (by rw[Int.sign_neg_iff];exact h),bH h];rfl
 have Dg:((bif decide (d<0) then -((Nat.gcd n.natAbs d.natAbs:Nat):Int) else ((Nat.gcd n.natAbs d.natAbs:Nat):Int))).natAbs<LIM∧(bif decide (d<0) then -((Nat.gcd n.natAbs d.natAbs:Nat):Int) else ((Nat.gcd n.natAbs d.natAbs:Nat):Int))≠0:=by
  cases decide (d<0)
  ·simp only[cond_false];omega
  ·simp only[j4];omega
 rw[NP,ae,EU hn Dg.1 Dg.2,ae,EU hd Dg.1 Dg.2,ae,e1,e2]
 rfl
theorem Id {x:av}:dE x (enc 0)=some D0:=by
 unfold dE
 rw[o7,o7,ae,ae,vl (by decide),ae,bz (by decide),vj,ae]
 cases ej x <;> rfl
theorem C8 {x y:av}(h:(ej x&&ej y)=false):dE x y=some D0:=by
 unfold dE
 rw[o7,o7,ae,ae,vj,ae]
 cases h1:ej x with
 |false=>rfl
 |true=>
  cases h2:ej y with
  |false=>rfl
  |true=>rw[h1,h2] at h;cases h
def DD(x y:Rat):Option Rat:=
 if (x.num*((y.den / Nat.gcd x.den y.den:Nat):Int)).natAbs<LIM∧(y.num*((x.den / Nat.gcd x.den y.den:Nat):Int)).natAbs<LIM∧(x.num*((y.den / Nat.gcd x.den y.den:Nat):Int)+y.num*((x.den / Nat.gcd x.den y.den:Nat):Int)).natAbs<LIM∧x.den / Nat.gcd x.den y.den*y.den<LIM then some (x+y) else none
def yX(x y:Rat):Option Rat:=if nf (x*y) then some (x*y) else none
theorem HY(x y:Rat):Rat.divInt (x.num*((y.den / Nat.gcd x.den y.den:Nat):Int)+y.num*((x.den / Nat.gcd x.den y.den:Nat):Int)) ((x.den / Nat.gcd x.den y.den*y.den:Nat):Int)=x+y:=by
 have hx:=x.den_pos
 have hy:=y.den_pos
 have hg:0<Nat.gcd x.den y.den:=Nat.gcd_pos_of_pos_left _ hx
 obtain⟨p,hp⟩:=Nat.gcd_dvd_left x.den y.den
 obtain⟨q,hq⟩:=Nat.gcd_dvd_right x.den y.den
 have e1:x.den / Nat.gcd x.den y.den=p:=by
                         conv=>lhs;lhs;rw[hp]
                         exact Nat.mul_div_cancel_left _ hg
 have e2:y.den / Nat.gcd x.den y.den=q:=by
                         conv=>lhs;lhs;rw[hq]
                         exact Nat.mul_div_cancel_left _ hg
 rw[e1,e2,Rat.add_def']
 generalize Nat.gcd x.den y.den=g at hg hp hq
 rw[←Rat.divInt_ofNat,←Rat.divInt_mul_left (a:=(g:Int)) (by omega)]
 congr 1
 ·rw[Int.mul_add,hp,hq,mT,mT,Int.mul_left_comm,Int.mul_left_comm (y.num)]
 ·rw[hp]
  simp only[mT,Int.mul_assoc]
theorem M3(x y:Rat):zy (DD x y):=by
 intro q h
 unfold DD at h
 split at h
 ·rename_i hc
  obtain⟨_,_,h3,h4⟩:=hc
  injection h with h
  subst h
  rw[←HY]
  refine xe ?_ h3 (by rw[eU];exact h4)
  have hg:0<Nat.gcd x.den y.den:=Nat.gcd_pos_of_pos_left _ x.den_pos
  have:=Nat.div_pos (Nat.gcd_le_left y.den x.den_pos) hg
  have:=wC this y.den_pos
  omega
 ·cases h
theorem M2(x y:Rat):zy (yX x y):=by
 intro q h
 unfold yX at h
 split at h
 ·rename_i hc
  injection h with h
  rw[←h];exact hc
 ·cases h
theorem cross(x y:Rat):(x*y).num=(Rat.divInt x.num y.den).num*(Rat.divInt y.num x.den).num∧(x*y).den=(Rat.divInt x.num y.den).den*(Rat.divInt y.num x.den).den:=by
 have hx:=x.den_pos
 have hy:=y.den_pos
 obtain⟨k,m,hk,hm,Dj,e1,e2⟩:=qd (n:=x.num) (d:=(y.den:Int)) (by omega)
 obtain⟨k',m',uh,hm',hm0',e1',e2'⟩:=qd (n:=y.num) (d:=(x.den:Int)) (by omega)
 rw[va (by omega),Int.one_mul] at e1 e2 e1' e2'
 have hxy:x*y=Rat.divInt x.num y.den*Rat.divInt y.num x.den:=by
  rw[Rat.divInt_mul_divInt]
  conv=>lhs;rw[←Rat.num_divInt_den x,←Rat.num_divInt_den y,Rat.divInt_mul_divInt]
  rw[kL (y.den:Int)]
 have hc:Nat.gcd ((Rat.divInt x.num y.den).num*(Rat.divInt y.num x.den).num).natAbs ((Rat.divInt x.num y.den).den*(Rat.divInt y.num x.den).den)=1:=by
  rw[xm]
  have c1:=(Rat.divInt x.num y.den).reduced
  have c2:=(Rat.divInt y.num x.den).reduced
  have d1:(Rat.divInt x.num y.den).num.natAbs ∣ x.num.natAbs:=by
   rw[e1];exact Int.natAbs_dvd_natAbs.2 ⟨_,by rw[kL];exact hk⟩
  have d2:(Rat.divInt y.num x.den).den ∣ x.den:=Int.natCast_dvd_natCast.1 (by rw[e2'];exact⟨_,by rw[kL];exact hm'⟩)
  have d3:(Rat.divInt y.num x.den).num.natAbs ∣ y.num.natAbs:=by
   rw[e1'];exact Int.natAbs_dvd_natAbs.2 ⟨_,by rw[kL];exact uh⟩
  have d4:(Rat.divInt x.num y.den).den ∣ y.den:=Int.natCast_dvd_natCast.1 (by rw[e2];exact⟨_,by rw[kL];exact hm⟩)
  have c3:Nat.Coprime (Rat.divInt x.num y.den).num.natAbs (Rat.divInt y.num x.den).den:=Nat.Coprime.coprime_dvd_left d1 (Nat.Coprime.coprime_dvd_right d2 x.reduced)
  have c4:Nat.Coprime (Rat.divInt y.num x.den).num.natAbs (Rat.divInt x.num y.den).den:=Nat.Coprime.coprime_dvd_left d3 (Nat.Coprime.coprime_dvd_right d4 y.reduced)
  exact Nat.Coprime.mul_left (Nat.Coprime.mul_right c1 c3) (Nat.Coprime.mul_right c4 c2)
 rw[hxy,Rat.num_mul,Rat.den_mul,hc]
 exact⟨by simp,by simp⟩
theorem zE(q:Rat):(kZ q).vN=enc q.num:=rfl
theorem Cl(q:Rat):(kZ q).vD=enc (q.den:Int):=rfl
theorem Ko(z:Int):(enc z).vBad=decide (¬z.natAbs<LIM):=by
 by_cases h:z.natAbs<LIM
 ·rw[qE h];simp[h]
 ·rw[Ck h];simp[h];rfl
theorem jF {q:Rat}(h:nf q):((q.den:Nat):Int).natAbs<LIM:=by simpa using h.2
theorem G_rMul {x y:Rat}(hx:nf x)(hy:nf y):ik (kZ x) (kZ y)=some (zD (yX x y)):=by
 have hdx:=x.den_pos
 have hdy:=y.den_pos
 obtain⟨c1,c2⟩:=cross x y
 have f1:=xe (n:=x.num) (d:=(y.den:Int)) (by omega) hx.1 (jF hy)
 have f2:=xe (n:=y.num) (d:=(x.den:Int)) (by omega) hy.1 (jF hx)
 unfold ik
 rw[show bn (kZ x)=_ from iJ (th (some x)),show bn (kZ y)=_ from iJ (th (some y)),uC hx,uC hy,ae,ae]
 simp only[zL,c7,aX,ae,zE,Cl]
 rw[C9 hx.1 (jF hy) (by omega),ae,C9 hy.1 (jF hx) (by omega),ae]
 simp only[zE,Cl]
 rw[Ic f1.1 f2.1,ae,Ic (jF f1) (jF f2),ae,←c1,←mT,←c2,Ko,Ko,Pg,ae,vj,ae,←Bool.decide_or,gj]
 unfold yX
 by_cases h:nf (x*y)
 ·obtain⟨h1,h2⟩:=id h
  rw[if_neg (by rw[eU];omega),if_pos h];rfl
 ·have h1:¬((x*y).num.natAbs<LIM∧(x*y).den<LIM):=h
  rw[if_pos (by rw[eU];omega),if_neg h];rfl
theorem C4 {x y:aq}(hx:okR x)(hy:okR y)(h:((dT x).isSome&&(dT y).isSome)=false):ik x y=some D0:=by
 unfold ik
 rw[iJ hx,iJ hy,ae,ae,vj,ae]
 cases h1:(dT x).isSome with
 |false=>rfl
 |true=>
  cases h2:(dT y).isSome with
  |false=>rfl
  |true=>rw[h1,h2] at h;cases h
theorem JT {n g:Nat}:((n:Int)).fdiv (g:Int)=((n / g:Nat):Int):=by
 rw[Int.fdiv_eq_ediv_of_nonneg _ (Int.natCast_nonneg _)]
 exact (Int.natCast_ediv ..).symm
theorem G_rAdd {x y:Rat}(hx:nf x)(hy:nf y):il (kZ x) (kZ y)=some (zD (DD x y)):=by
 have hdx:=x.den_pos
 have hdy:=y.den_pos
 have hg:0<Nat.gcd x.den y.den:=Nat.gcd_pos_of_pos_left _ hdx
 have Kf:Nat.gcd x.den y.den<LIM:=eV (Nat.gcd_le_left _ hdx) hx.2
 have hgl':((Nat.gcd x.den y.den:Nat):Int).natAbs<LIM:=by simpa using Kf
 have hp:x.den / Nat.gcd x.den y.den<LIM:=eV (qU _ _) hx.2
 have hq:y.den / Nat.gcd x.den y.den<LIM:=eV (qU _ _) hy.2
 have hp0:0<x.den / Nat.gcd x.den y.den:=Nat.div_pos (Nat.gcd_le_left y.den hdx) hg
 have ws:0<x.den / Nat.gcd x.den y.den*y.den:=wC hp0 hdy
 have LB:=HY x y
 unfold il
 rw[show bn (kZ x)=_ from iJ (th (some x)),show bn (kZ y)=_ from iJ (th (some y)),uC hx,uC hy,ae,ae]
 simp only[zL,c7,aX,ae,zE,Cl]
 rw[KO (jF hx) (jF hy),ae,eU,eU,EU (jF hx) hgl' (by omega),ae,EU (jF hy) hgl' (by omega),ae,JT,JT,Ic hx.1 (by rw[eU];exact hq),ae,Ic hy.1 (by rw[eU];exact hp),ae,Ic (by rw[eU];exact hp) (jF hy),←mT]
 unfold DD
 revert LB
 generalize x.num*((y.den / Nat.gcd x.den y.den:Nat):Int)=z1
 generalize y.num*((x.den / Nat.gcd x.den y.den:Nat):Int)=z2
 revert ws
 generalize x.den / Nat.gcd x.den y.den*y.den=D
 intro ws LB
 have hsum:jl (enc z1) (enc z2)=some (if z1.natAbs<LIM∧z2.natAbs<LIM then enc (z1+z2) else HO):=by
  by_cases h:z1.natAbs<LIM∧z2.natAbs<LIM
  ·rw[if_pos h,G_Add h.1 h.2]
  ·rw[if_neg h,Ma (by rw[tr,tr,←Bool.decide_and];exact bH h)]
 rw[hsum,ae,ae,tB]
 by_cases h:z1.natAbs<LIM∧z2.natAbs<LIM
 ·rw[if_pos h]
  by_cases h2:(z1+z2).natAbs<LIM∧D<LIM
  ·rw[C9 h2.1 (by rw[eU];exact h2.2) (by omega),LB,if_pos ⟨h.1,h.2,h2⟩];rfl
  ·rw[C8 (by rw[tr,tr,←Bool.decide_and,eU];exact bH h2),if_neg fun hh=>h2 hh.2.2];rfl
 ·rw[if_neg h,C8 (by rw[Ey,tH]),if_neg fun hh=>h ⟨hh.1,hh.2.1⟩];rfl
theorem C5 {x y:aq}(hx:okR x)(hy:okR y)(h:((dT x).isSome&&(dT y).isSome)=false):il x y=some D0:=by
 unfold il
 rw[iJ hx,iJ hy,ae,ae,vj,ae]
 cases h1:(dT x).isSome with
 |false=>rfl
 |true=>
  cases h2:(dT y).isSome with
  |false=>rfl
  |true=>rw[h1,h2] at h;cases h
def IA(a b:Option Rat):Option Rat:=a.bind fun x=>b.bind fun y=>DD x y
def AC(a b:Option Rat):Option Rat:=a.bind fun x=>b.bind fun y=>yX x y
def Ld(a:Option Rat):Option Rat:=a.map fun x=>-x
def Le(a:Option Rat):Option Rat:=a.bind fun x=>if x=0 then none else some x⁻¹
def osub(a b:Option Rat):Option Rat:=IA a (Ld b)
def GY(a b:Option Rat):Option Rat:=AC a (Le b)
def osgn(a:Option Rat):Int:=match a with|some x=>x.num.sign|none=>0
theorem GZ(a b:Option Rat):zy (IA a b):=by
 cases a with
 |none=>exact oT
 |some x=>
  cases b with
  |none=>exact oT
  |some y=>exact M3 x y
theorem BF(a b:Option Rat):zy (AC a b):=by
 cases a with
 |none=>exact oT
 |some x=>
  cases b with
  |none=>exact oT
  |some y=>exact M2 x y
theorem Hw {x:Rat}(h:nf x):nf (-x):=⟨by rw[Rat.neg_num,Int.natAbs_neg];exact h.1,h.2⟩
theorem BE {a:Option Rat}(h:zy a):zy (Ld a):=by
 cases a with
 |none=>exact oT
 |some x=>
  intro q hq
  injection hq with hq
  subst hq
  exact Hw (h x rfl)
theorem OU {x:Rat}(h:nf x)(h0:x≠0):nf x⁻¹:=by
 have hn:x.num≠0:=fun h=>h0 (Rat.num_eq_zero.1 h)
 refine⟨?_,?_⟩
 ·rw[Rat.num_inv,xm,Int.natAbs_sign,if_neg hn,jZ,eU];exact h.2
 ·rw[Rat.den_inv,if_neg hn];exact h.1
theorem Nd {a:Option Rat}(h:zy a):zy (Le a):=by
 cases a with
 |none=>exact oT
 |some x=>
  intro q hq
  have hq:(if x=0 then none else some x⁻¹)=some q:=hq
  split at hq
  ·cases hq
  ·rename_i h0
   injection hq with hq
   subst hq
   exact OU (h x rfl) h0
theorem Nf(a b:Option Rat):zy (GY a b):=BF _ _
theorem JA {x y:aq}(hx:okR x)(hy:okR y):il x y=some (zD (IA (dT x) (dT y))):=by
 cases h1:dT x with
 |none=>exact C5 hx hy (by rw[h1];rfl)
 |some p=>
  cases h2:dT y with
  |none=>exact C5 hx hy (by rw[h1,h2];rfl)
  |some q=>
   obtain⟨hp,rfl⟩:=eG.1 h1
   obtain⟨hq,rfl⟩:=eG.1 h2
   exact G_rAdd hp hq
theorem Jz {x y:aq}(hx:okR x)(hy:okR y):ik x y=some (zD (AC (dT x) (dT y))):=by
 cases h1:dT x with
 |none=>exact C4 hx hy (by rw[h1];rfl)
 |some p=>
  cases h2:dT y with
  |none=>exact C4 hx hy (by rw[h1,h2];rfl)
  |some q=>
   obtain⟨hp,rfl⟩:=eG.1 h1
   obtain⟨hq,rfl⟩:=eG.1 h2
   exact G_rMul hp hq
theorem Jy {x:aq}(hx:okR x):mc x=some (zD (Ld (dT x))):=by
 unfold mc
 rw[iJ hx,ae]
 cases h1:dT x with
 |none=>rw[vj,ae];rfl
 |some p=>
  obtain⟨hp,rfl⟩:=eG.1 h1
  simp only[zL,c7,aX,zE,Cl]
  rw[Qf hp.1,ae]
  rfl
theorem G_osub {x y:aq}(hx:okR x)(hy:okR y):rG x y=some (zD (osub (dT x) (dT y))):=by
 unfold rG
 rw[Jy hy,ae,JA hx (th _),ae,yJ (BE (Cf y))]
 rfl
theorem JC {q:Rat}(hq:nf q):dE (enc (q.den:Int)) (enc q.num)=some (zD (Le (some q))):=by
 by_cases h:q=0
 ·subst h
  show dE _ (enc 0)=_
  rw[Id];rfl
 ·have hn:q.num≠0:=fun h0=>h (Rat.num_eq_zero.1 h0)
  rw[C9 (jF hq) hq.1 hn,←Rat.inv_def]
  show _=some (zD (if q=0 then none else some q⁻¹))
  rw[if_neg h];rfl
theorem G_odiv {x y:aq}(hx:okR x)(hy:okR y):rH x y=some (zD (GY (dT x) (dT y))):=by
 unfold rH
 rw[iJ hy,ae]
 cases h2:dT y with
 |none=>
  rw[vj,ae]
  show some D0=some (zD (AC (dT x) none))
  unfold AC
  cases dT x <;> rfl
 |some q=>
  obtain⟨hq,rfl⟩:=eG.1 h2
  simp only[zL,c7,aX,zE,Cl]
  rw[JC hq,ae,Jz hx (th _),ae,yJ (Nd fun r hr=>by injection hr with hr;subst hr;exact hq)]
  rfl
theorem P8 {x:aq}(hx:okR x):kH x=some (osgn (dT x)):=by
 unfold kH
 rw[iJ hx,ae]
 cases h1:dT x with
 |none=>rfl
 |some p=>
  obtain⟨hp,rfl⟩:=eG.1 h1
  simp only[zL,c7,aX,zE]
  rw[vl hp.1,ae]
  rfl
theorem Cm(n:Int):Rat.divInt n 1=(n:Rat):=by
 show Rat.divInt n ((1:Nat):Int)=_
 rw[Rat.divInt_ofNat]
 exact Rat.mkRat_self (n:Rat)
theorem P7 {n:Int}(h:n.natAbs<LIM):mS (enc n)=some (kZ (n:Rat)):=by
 unfold mS
 rw[KJ,ae,C9 h (by decide) (by decide),ae,Cm]
theorem G_rOf {n:Int}(h1:-9223372036854775808≤n)(h2:n≤9223372036854775807):oS n=some (kZ (n:Rat)):=by
 have hL:n.natAbs<LIM:=d8 (show n.natAbs<18446744073709551616 by omega) (by decide)
 unfold oS
 rw[JB h1 h2,ae,P7 hL,ae]
section
def lF(n:Nat)(f:Nat→Nat):List Int:=(List.range n).map fun j=>(f j:Int)
section
variable {n m p x k j:Nat} {f g:Nat→Nat}
theorem c6:(lF n f).length=n:=by unfold lF;simp
theorem pF(h:j<n):(lF n f)[j]! =(f j:Int):=by
 unfold lF
 rw[cz _ j (by simpa using h)]
 simp
theorem tk(h:∀j,j<n→f j=g j):lF n f=lF n g:=by
 unfold lF
 apply rN
 intro j hj
 rw[h j (by simpa using hj)]
theorem xY:lF n f++[(f n:Int)]=lF (n+1) f:=by
 unfold lF
 rw[u6,jz];rfl
theorem IL:(lF n f).set p (x:Int)=lF n (fun j=>if j=p then x else f j):=by
 apply List.ext_getElem
 ·rw[eL,c6,c6]
 ·intro i h1 h2
  rw[List.getElem_set]
  have h3:i<n:=by rw[c6] at h2;exact h2
  have e1:=pF (f:=fun j=>if j=p then x else f j) h3
  rw[cz _ i h2] at e1
  rw[e1]
  split
  ·rename_i h;rw[if_pos h.symm]
  ·rename_i h
   rw[if_neg (fun e=>h e.symm)]
   have e2:=pF (f:=f) h3
   rw[cz _ i (by rw[c6];exact h3)] at e2
   exact e2
theorem lF_take(h:m≤n):(lF n f).take m=lF m f:=by
 unfold lF
 rw[←Aq,List.take_range,rL h]
theorem lF_cons:[(x:Int)]++lF n f=lF (n+1) (fun j=>if j=0 then x else f (j - 1)):=by
 unfold lF
 rw[List.range_succ_eq_map,dJ,px]
 rfl
theorem Nx:List.replicate n (0:Int)=lF n (fun _=>0):=by
 unfold lF
 induction n with
 |zero=>rfl
 |succ n ih=>rw[List.replicate_succ',ih,u6,jz];rfl
end
abbrev dk(n A:Nat):List Int:=lF n (dg 65536 A)
theorem kJ {A j:Nat}:dg 65536 A j<65536:=O4 (by decide)
theorem MG(A:Nat):∃n,szp 65536 A n:=by
 induction A using Nat.strongRecOn with
 |_ A ih=>
  by_cases h:A=0
  ·subst h;exact⟨0,by decide,fun h=>by omega⟩
  ·obtain⟨n,h1,h2⟩:=ih (A / 65536) (by omega)
   refine⟨n+1,?_,fun _=>?_⟩
   ·rw[c8];exact (lw (by decide)).1 h1
   ·rw[zR]
    cases n with
    |zero=>rw[fZ];omega
    |succ n=>
     have:=h2 (by omega)
     rw[zR] at this
     rw[c8]
     exact (oX (by decide)).1 this
def sz6(A:Nat):Nat:=Classical.choose (MG A)
theorem xM(A:Nat):szp 65536 A (sz6 A):=zJ (MG A)
theorem jG(A:Nat):A<65536 ^ sz6 A:=(xM A).1
theorem qq {A n:Nat}(h:A<65536 ^ n):sz6 A≤n:=Io (by decide) (xM A) h
theorem Ip {A n:Nat}(h:szp 65536 A n):n=sz6 A:=MF (by decide) h (xM A)
theorem Bq:sz6 0=0:=(Ip ⟨by decide,fun h=>by omega⟩).symm
theorem AU {A:Nat}(h:0<A):0<sz6 A:=by
 rcases qO (sz6 A) with h1|h1
 ·have:=jG A
  rw[h1,fZ] at this;omega
 ·exact h1
noncomputable abbrev dl(A:Nat):List Int:=dk (sz6 A) A
theorem Jo(A:Nat):(dl A).length=sz6 A:=c6
theorem dl_zero:dl 0=[]:=by unfold dl;rw[Bq];rfl
theorem Jn {A:Nat}:(dl A).length=0↔A=0:=by
 rw[Jo]
 constructor
 ·intro h
  rcases qO A with h1|h1
  ·exact h1
  ·have:=AU h1;omega
 ·rintro rfl;exact Bq
theorem tR {n A k:Nat}(hA:A<65536 ^ n):dX (dk n A) (k:Int)=some ((dg 65536 A k:Nat):Int):=by
 unfold dX
 rw[c6]
 by_cases h:k<n
 ·rw[de _ _ (by omega),aL (by omega),cl,pF h]
 ·rw[cK _ _ (by omega),lM (d8 hA (ia (by decide) (by omega)))];rfl
theorem xt {n A:Nat}(hA:A<65536 ^ n)(hn:n<1000000):fx (dk n A)=some (dl A):=by
 obtain⟨x,hl,hx⟩:=tZ (b:=kW (dk n A)) (fun s=>∃k:Nat,s=(k:Int)∧k≤n∧A<65536 ^ k) (fun s=>s.toNat) (fun x=>x=((sz6 A:Nat):Int))
  (by
   rintro s ⟨k,rfl,hk,bX⟩
   cases k with
   |zero=>
    right
    refine⟨((0:Nat):Int),?_,?_⟩
    ·dsimp only[kW]
     rw[cK _ _ (by omega),ae,aX]
    ·show ((0:Nat):Int)=_
     rw[←Ip ⟨bX,fun h=>by omega⟩]
   |succ k=>
    have e:i64.wrap (((k+1:Nat):Int) - 1)=(k:Int):=by rw[cm (by omega)];omega
    dsimp only[kW]
    rw[de _ _ (by omega),e,c6,aL (by omega),ae,cl,pF (by omega),gj]
    by_cases hd:dg 65536 A k=0
    ·left
     refine⟨(k:Int),by rw[if_pos (by omega)],⟨k,rfl,by omega,?_⟩,by omega⟩
     unfold dg at hd
     have h1:A / 65536 ^ k<65536:=by
      rw[lw (b9 (by decide)),cZ,←c8];exact bX
     rw[gL h1] at hd
     exact (Nat.div_eq_zero_iff_lt (b9 (by decide))).1 hd
    ·right
     refine⟨((k+1:Nat):Int),by rw[if_neg (by omega)],?_⟩
     show ((k+1:Nat):Int)=_
     rw[Ip (A:=A) ⟨bX,fun _=>?_⟩]
     rcases gW A (65536 ^ k) with h|h
     ·exact absurd (lM h) hd
     ·exact h) (n:Int) ⟨n,rfl,aB _,hA⟩
 unfold fx
 have hs:=qq hA
 rw[c6,hl,hx,ae,aL (by omega),subL_to _ _ (by omega),cl,lF_take hs]
theorem pmax {n m A B:Nat}(hA:A<65536 ^ n)(hB:B<65536 ^ m):A<65536 ^ max n m∧B<65536 ^ max n m:=
 ⟨d8 hA (ia (by decide) (Nat.le_max_left ..)),d8 hB (ia (by decide) (Nat.le_max_right ..))⟩
theorem BK(n m:Nat):max (n:Int) (m:Int)=((max n m:Nat):Int):=by omega
theorem KK {n m A B:Nat}(hA:A<65536 ^ n)(hB:B<65536 ^ m)(hn:n<100000)(hm:m<100000):kF (dk n A) (dk m B)=some (dl (A+B)):=by
 have hM:max n m<100000:=by omega
 obtain⟨Ki,hB'⟩:=pmax hA hB
 have hl:=qv (b:=jU (dk n A) (dk m B)) (s0:=(([]:List Int),(0:Int),(0:Int))) (fun k=>(dk k (A+B),(((A % 65536 ^ k+B % 65536 ^ k) / 65536 ^ k:Nat):Int),(k:Int))) (max n m+1) (dk (max n m+1) (A+B))
  (by simp only[fZ,mO];rfl)
  (fun k hk=>by
   have hc:=n3 (b:=65536) (A:=A) (B:=B) (k:=k) (by decide)
   obtain⟨h1,h2⟩:=oZ (b:=65536) (A:=A) (B:=B) (k:=k) (by decide)
   have ha:=@kJ A k
   have hb:=@kJ B k
   have hc':=n3 (b:=65536) (A:=A) (B:=B) (k:=k+1) (by decide)
   generalize (A % 65536 ^ k+B % 65536 ^ k) / 65536 ^ k=c at h1 h2 hc ⊢
   generalize (A % 65536 ^ (k+1)+B % 65536 ^ (k+1)) / 65536 ^ (k+1)=c' at h2 hc' ⊢
   dsimp only[jU]
   rw[c6,c6,BK,cm (by omega),de _ _ (by omega),tR hA,ae,tR hB,ae,cm (z:=(dg 65536 A k:Int)+(dg 65536 B k:Int)) (by omega),cm (by omega),ae,←j5,←j5,show (65536:Int)=((65536:Nat):Int) from rfl,←r7,←r8,pT (dg 65536 A k+dg 65536 B k),←wb,h1,h2,xY,c6,aL (by omega),cm (z:=(c':Int)) (by omega),cm (by omega)]
   rfl)
  (by
   dsimp only[jU]
   rw[c6,c6,BK,cm (by omega),cK _ _ (by omega)])
 unfold kF
 have:A+B<65536 ^ (max n m+1):=by rw[c8];omega
 rw[hl,ae,xt this (by omega),ae]
theorem Ia {n m A B:Nat}(hA:A<65536 ^ n)(hB:B<65536 ^ m)(hn:n<100000)(hBA:B≤A):ij (dk n A) (dk m B)=some (dl (A - B)):=by
 obtain⟨D,rfl⟩:∃D,A=D+B:=⟨A - B,by omega⟩
 rw[zR]
 have hl:=qv (b:=jp (dk n (D+B)) (dk m B)) (s0:=(([]:List Int),(0:Int),(0:Int))) (fun k=>(dk k D,(((D % 65536 ^ k+B % 65536 ^ k) / 65536 ^ k:Nat):Int),(k:Int))) n (dk n D)
  (by simp only[fZ,mO];rfl)
  (fun k hk=>by
   have hc:=n3 (b:=65536) (A:=D) (B:=B) (k:=k) (by decide)
   have hc':=n3 (b:=65536) (A:=D) (B:=B) (k:=k+1) (by decide)
   obtain⟨h1,h2⟩:=oZ (b:=65536) (A:=D) (B:=B) (k:=k) (by decide)
   have ha:=@kJ D k
   have hb:=@kJ B k
   have hd:=@kJ (D+B) k
   generalize hq:(D % 65536 ^ k+B % 65536 ^ k) / 65536 ^ k=c at h1 h2 hc ⊢
   generalize (D % 65536 ^ (k+1)+B % 65536 ^ (k+1)) / 65536 ^ (k+1)=c' at h2 hc' ⊢
   dsimp only[jp]
   rw[c6,de _ _ (by omega),aL (by omega),tR hB,ae,cl,pF hk,cm (z:=(dg 65536 (D+B) k:Int) - (dg 65536 B k:Int)) (by omega),cm (by omega),ae]
   by_cases hn0:(dg 65536 (D+B) k:Int) - (dg 65536 B k:Int) - (c:Int)<0
   ·obtain rfl:c'=1:=by omega
    rw[de _ _ hn0,ae,cm (by omega)]
    dsimp only
    rw[show (dg 65536 (D+B) k:Int) - (dg 65536 B k:Int) - (c:Int)+65536=(dg 65536 D k:Int) from by omega,xY,c6,aL (by omega),cm (by omega)]
    rfl
   ·obtain rfl:c'=0:=by omega
    rw[cK _ _ hn0,ae]
    dsimp only
    rw[show (dg 65536 (D+B) k:Int) - (dg 65536 B k:Int) - (c:Int)=(dg 65536 D k:Int) from by omega,xY,c6,aL (by omega),cm (by omega)]
    rfl)
  (by
   dsimp only[jp]
   rw[c6,cK _ _ (by omega)])
 unfold ij
 rw[hl,ae,xt (by omega) (by omega),ae]
theorem xW {A B k:Nat}(he:A / 65536 ^ (k+1)=B / 65536 ^ (k+1))(h:dg 65536 A k<dg 65536 B k):A<B:=by
 have e1:=cP (b:=65536) (A:=A) (k:=k)
 have e2:=cP (b:=65536) (A:=B) (k:=k)
 have h1:A / 65536 ^ k<B / 65536 ^ k:=by
  rw[e1,e2,he];exact CI h _
 rcases gW A B with h2|h2
 ·exact h2
 ·exact absurd (Nat.div_le_div_right h2) (Nat.not_le.2 h1)
theorem G_dless {n m A B:Nat}(hA:A<65536 ^ n)(hB:B<65536 ^ m)(hn:n<100000)(hm:m<100000):mu (dk n A) (dk m B)=some (decide (A<B)):=by
 obtain⟨Ki,hB'⟩:=pmax hA hB
 obtain⟨x,hl,hx⟩:=tZ (b:=kX (dk n A) (dk m B)) (fun s=>∃k:Nat,s=(k:Int) - 1∧k≤max n m∧A / 65536 ^ k=B / 65536 ^ k) (fun s=>(s+1).toNat) (fun x=>match x with| .inl r=>r=decide (A<B)| .inr _=>A=B)
  (by
   rintro s ⟨k,rfl,hk,he⟩
   cases k with
   |zero=>
    right
    refine⟨(Sum.inr ():Bool⊕Unit),?_,?_⟩
    ·dsimp only[kX]
     rw[cK _ _ (by omega)]
    ·simpa using he
   |succ k=>
    have e:((k+1:Nat):Int) - 1=(k:Int):=by omega
    rw[e]
    dsimp only[kX]
    rw[de _ _ (by omega),tR hA,ae,tR hB,ae]
    by_cases hd:dg 65536 A k=dg 65536 B k
    ·left
     refine⟨(k:Int) - 1,?_,⟨k,rfl,by omega,?_⟩,by omega⟩
     ·rw[cK _ _ (by rw[hd];simp),cm (by omega)]
     ·rw[cP (b:=65536) (A:=A) (k:=k),cP (b:=65536) (A:=B) (k:=k),he,hd]
    ·right
     refine⟨(Sum.inl (decide (A<B)):Bool⊕Unit),?_,rfl⟩
     rw[de _ _ (by omega),ae,ae]
     congr 3
     refine kM.2 ?_
     rcases Nat.lt_or_gt_of_ne hd with h|h
     ·have:=xW he h
      exact⟨fun _=>this,fun _=>by omega⟩
     ·have:=xW he.symm h
      exact⟨fun h'=>by omega,fun h'=>by omega⟩) (((max n m:Nat):Int) - 1) ⟨max n m,rfl,aB _,by rw[eM Ki,eM hB']⟩
 unfold mu
 rw[c6,c6,BK,cm (by omega),ae,hl,ae]
 cases x with
 |inl r=>obtain rfl:r=_:=hx;rfl
 |inr u=>
  obtain rfl:A=B:=hx
  simp
section
variable {b:Nat} {f g:Nat→Nat}
theorem GM:∀n,(∀j,j<n→f j=g j)→gG b f n=gG b g n
 |0,_=>rfl
 |n+1,h=>by
  unfold gG
  rw[GM n fun j hj=>h j (by omega),h n (by omega)]
theorem GK {q x:Nat}:∀n,q<n→gG b (fun j=>if j=q then f j+x else f j) n=gG b f n+x*b ^ q
 |0,h=>by omega
 |n+1,h=>by
  unfold gG
  by_cases hq:q=n
  ·subst hq
   rw[if_pos rfl,GM q (g:=f) fun j hj=>if_neg (by omega),cp];omega
  ·rw[if_neg (by omega),GK n (by omega)];omega
theorem JF {A:Nat}:∀n,gG b (dg b A) n=A % b ^ n
 |0=>by simp[gG,mO]
 |n+1=>by
  unfold gG
  rw[JF n,gY,cZ]
theorem GL(k:Nat):∀n,k≤n→gG b f n % b ^ k=gG b f k % b ^ k
 |0,h=>by
  obtain rfl:k=0:=by omega
  rfl
 |n+1,h=>by
  by_cases hk:k=n+1
  ·rw[hk]
  ·have uh:k≤n:=by omega
   obtain⟨d,rfl⟩:∃d,n=k+d:=⟨n - k,by omega⟩
   rw[←GL k (k+d) uh]
   show (gG b f (k+d)+f (k+d)*b ^ (k+d)) % b ^ k=_
   rw[hJ,zQ,zS]
theorem JE {M:Nat}(hb:2≤b):∀n,(∀j,j<n→f j≤M)→gG b f n≤M*b ^ n
 |0,_=>by simp[gG]
 |n+1,h=>by
  have ih:=JE hb n fun j hj=>h j (by omega)
  have h1:f n*b ^ n≤M*b ^ n:=dx _ (h n (by omega))
  have h2:M*b ^ n*2≤M*b ^ n*b:=yl _ hb
  unfold gG
  rw[c8,←fC]
  omega
theorem Lf {n k:Nat}(hb:0<b)(hk:k<n):(gG b f k / b ^ k+f k) % b=dg b (gG b f n) k∧(gG b f k / b ^ k+f k) / b=gG b f (k+1) / b ^ (k+1):=by
 have hp:0<b ^ k:=b9 hb
 have e:gG b f (k+1) / b ^ k=gG b f k / b ^ k+f k:=by
  show (gG b f k+f k*b ^ k) / b ^ k=_
  rw[Nat.add_mul_div_right _ _ hp]
 refine⟨?_,?_⟩
 ·rw[←e,←nh (A:=gG b f n) (k:=k+1) (eT _),GL (k+1) n hk,nh (eT _)]
  rfl
 ·rw[←e,gV,←c8]
end
theorem K0 {n m A B i:Nat}(hi:i<n)(hn:n<1000)(hm:m<1000)(hB:B<65536 ^ m){R:Nat}(hR:R<65536 ^ (n+m+1)):
  ∃f:Nat→Nat,bS (jo (dk n A) (dk m B) (i:Int)) ((0:Int),dk (n+m+1) R)=some (lF (n+m+1) f)∧gG 65536 f (n+m+1)=R+dg 65536 A i*B*65536 ^ i∧∀j,f j≤65535+65535*65535:=by
 have ha:=@kJ A i
 have eP:i64.wrap ((i64.wrap (((dk n A).length:Int)+((dk m B).length:Int)))+(1:Int))=((n+m+1:Nat):Int):=by
  rw[c6,c6,cm (z:=(n:Int)+(m:Int)) (by omega),cm (by omega)];omega
 obtain⟨x,hl,f,rfl,h1,h2⟩:=tZ (b:=jo (dk n A) (dk m B) (i:Int)) (fun s=>∃(k:Nat) (f:Nat→Nat),s=((k:Int),lF (n+m+1) f)∧k≤m∧gG 65536 f (n+m+1)=R+dg 65536 A i*(B % 65536 ^ k)*65536 ^ i∧(∀j,f j≤65535+65535*65535)∧∀j,i+k≤j→f j≤65535) (fun s=>m - s.1.toNat)
  (fun x=>∃f:Nat→Nat,x=lF (n+m+1) f∧gG 65536 f (n+m+1)=R+dg 65536 A i*B*65536 ^ i∧∀j,f j≤65535+65535*65535)
  (by
   rintro s ⟨k,f,rfl,hk,hv,hf,B0⟩
   dsimp only[jo]
   rw[eP,cl,c6,c6,c6]
   by_cases hkm:k<m
   ·left
    have eik:i64.wrap ((i:Int)+(k:Int))=((i+k:Nat):Int):=by rw[cm (by omega)];omega
    have hb:=@kJ B k
    have Mm:dg 65536 A i*dg 65536 B k≤65535*65535:=t7 (by omega) (by omega)
    have hfk:=B0 (i+k) (aB _)
    rw[de _ _ (by omega),eik,aL (by omega),aL (by omega),aL (by omega),aL (by omega),ae,cl,cl,cl,pF (by omega),pF hi,pF hkm,←mT,cm (z:=((dg 65536 A i*dg 65536 B k:Nat):Int)) (by omega),←j5,cm (z:=((f (i+k)+dg 65536 A i*dg 65536 B k:Nat):Int)) (by omega),IL,cm (by omega)]
    have e:lF (n+m+1) (fun j=>if j=i+k then f (i+k)+dg 65536 A i*dg 65536 B k else f j)=lF (n+m+1) (fun j=>if j=i+k then f j+dg 65536 A i*dg 65536 B k else f j):=tk fun j _=>by
     by_cases h:j=i+k
     ·rw[if_pos h,if_pos h,h]
     ·rw[if_neg h,if_neg h]
    refine⟨_,rfl,⟨k+1,(fun j=>if j=i+k then f j+dg 65536 A i*dg 65536 B k else f j),by rw[e];rfl,by omega,?_,fun j=>?_,fun j hj=>?_⟩,by show m - ((k:Int)+1).toNat<m - (k:Int).toNat;omega⟩
    ·rw[GK _ (by omega),hv,gY,tI,cp,hJ]
     simp only[fC,zQ,cZ,wb]
    ·dsimp only
     by_cases h:j=i+k
     ·rw[if_pos h,h];omega
     ·rw[if_neg h];exact hf j
    ·dsimp only
     rw[if_neg (by omega)];exact B0 j (by omega)
   ·right
    obtain rfl:k=m:=by omega
    refine⟨_,by rw[cK _ _ (by omega)],f,rfl,?_,hf⟩
    rw[hv,gL hB])
  ((0:Int),dk (n+m+1) R) ⟨0,dg 65536 R,rfl,cQ _,by rw[JF,fZ,mO,Nat.mul_zero,g5,gL hR,mf],fun j=>by have:=@kJ R j;omega,fun j _=>by have:=@kJ R j;omega⟩
 exact⟨f,hl,h1,h2⟩
theorem In {n m A B:Nat}(hn:n<1000)(hm:m<1000){f:Nat→Nat}(hf:∀j,f j≤65535+65535*65535):
  bS (gJ (dk n A) (dk m B)) ((0:Int),(0:Int),lF (n+m+1) f)=some (dk (n+m+1) (gG 65536 f (n+m+1))):=by
 have eP:i64.wrap ((i64.wrap (((dk n A).length:Int)+((dk m B).length:Int)))+(1:Int))=((n+m+1:Nat):Int):=by
  rw[c6,c6,cm (z:=(n:Int)+(m:Int)) (by omega),cm (by omega)];omega
 have hl:=qv (b:=gJ (dk n A) (dk m B)) (s0:=((0:Int),(0:Int),lF (n+m+1) f)) (fun k=>(((gG 65536 f k / 65536 ^ k:Nat):Int),(k:Int),lF (n+m+1) (fun j=>if j<k then dg 65536 (gG 65536 f (n+m+1)) j else f j))) (n+m+1) (lF (n+m+1) (fun j=>if j<n+m+1 then dg 65536 (gG 65536 f (n+m+1)) j else f j))
  (by
   rw[show gG 65536 f 0 / 65536 ^ 0=0 from by simp[gG],tk (n:=n+m+1) (f:=fun j=>if j<0 then dg 65536 (gG 65536 f (n+m+1)) j else f j) (g:=f) fun j _=>if_neg (by omega)]
   rfl)
  (fun k hk=>by
   obtain⟨h1,h2⟩:=Lf (b:=65536) (f:=f) (n:=n+m+1) (k:=k) (by decide) hk
   have hc:gG 65536 f k / 65536 ^ k≤65535+65535*65535:=by
    have:=JE (b:=65536) (f:=f) (by decide) k fun j _=>hf j
    exact Nat.div_le_of_le_mul (by rw[cZ];exact this)
   have hfk:=hf k
   generalize gG 65536 f k / 65536 ^ k=c at h1 h2 hc ⊢
   generalize gG 65536 f (k+1) / 65536 ^ (k+1)=c' at h2 ⊢
   dsimp only[gJ]
   rw[eP,cl,c6,de _ _ (by omega),aL (by omega),ae,aL (by omega),cl,pF hk,if_neg (Nat.lt_irrefl _),←j5,pT (f k),cm (z:=((c+f k:Nat):Int)) (by omega),show (65536:Int)=((65536:Nat):Int) from rfl,←r7,←r8,h1,h2,cm (z:=(c':Int)) (by omega),cm (by omega),IL]
   have e:lF (n+m+1) (fun j=>if j=k then dg 65536 (gG 65536 f (n+m+1)) k else if j<k then dg 65536 (gG 65536 f (n+m+1)) j else f j)=lF (n+m+1) (fun j=>if j<k+1 then dg 65536 (gG 65536 f (n+m+1)) j else f j):=tk fun j _=>by
    by_cases h:j=k
    ·rw[if_pos h,if_pos (by omega),h]
    ·rw[if_neg h]
     by_cases h3:j<k
     ·rw[if_pos h3,if_pos (by omega)]
     ·rw[if_neg h3,if_neg (by omega)]
   rw[e]
   rfl)
  (by
   dsimp only[gJ]
   rw[eP,cl,cK _ _ (by omega)])
 rw[hl]
 congr 1
 exact tk fun j hj=>if_pos hj
theorem Qb {n m A B:Nat}(hA:A<65536 ^ n)(hB:B<65536 ^ m)(hn:n<1000)(hm:m<1000):li (dk n A) (dk m B)=some (dl (A*B)):=by
 have eP:i64.wrap ((i64.wrap (((dk n A).length:Int)+((dk m B).length:Int)))+(1:Int))=((n+m+1:Nat):Int):=by
  rw[c6,c6,cm (z:=(n:Int)+(m:Int)) (by omega),cm (by omega)];omega
 have hbnd:∀i,A % 65536 ^ i*B<65536 ^ (n+m+1):=fun i=>by
  have h1:A % 65536 ^ i*B≤A*B:=dx _ (Nat.mod_le _ _)
  have h2:A*B<65536 ^ n*65536 ^ m:=zO hA hB
  have h3:65536 ^ n*65536 ^ m≤65536 ^ (n+m+1):=by rw[←hJ];exact ia (by decide) (by omega)
  omega
 have hl:=qv (b:=jT (dk n A) (dk m B)) (s0:=((0:Int),List.replicate (n+m+1) (0:Int))) (fun i=>((i:Int),dk (n+m+1) (A % 65536 ^ i*B))) n (dk (n+m+1) (A % 65536 ^ n*B))
  (by
   rw[Nx,fZ,mO,g5]
   have:dk (n+m+1) 0=lF (n+m+1) (fun _=>0):=tk fun j _=>by unfold dg;simp
   rw[this];rfl)
  (fun i hi=>by
   obtain⟨f,h1,h2,h3⟩:=K0 (A:=A) (i:=i) hi hn hm hB (hbnd i)
   dsimp only[jT]
   rw[c6,de _ _ (by omega),h1,ae,In hn hm h3,ae,h2,cm (by omega),gY,cp]
   have:65536 ^ i*dg 65536 A i*B=dg 65536 A i*B*65536 ^ i:=by simp only[fC,zQ,cZ]
   rw[this]
   rfl)
  (by
   dsimp only[jT]
   rw[c6,cK _ _ (by omega)])
 unfold li
 rw[eP,aL (by omega),cl,hl,ae,c6,aL rfl,gL hA,xt (by have:=hbnd n;rwa[gL hA] at this) (by omega),ae]
end
end
end Go.Proofs.YtaedcknhkjpmlaaGreat
