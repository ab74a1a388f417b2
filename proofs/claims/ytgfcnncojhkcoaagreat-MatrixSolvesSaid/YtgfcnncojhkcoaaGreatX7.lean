/-
  Lemmas, part 7. Conditions: none.
-/
import Derived.Test.YtgfcnncojhkcoaaGreatX6
set_option linter.all false
set_option maxRecDepth 100000
set_option maxHeartbeats 4000000
namespace Go.Proofs.YtgfcnncojhkcoaaGreat
open Go.RowKit Go.IntKind Tryz
noncomputable section
def nM(bm:aj):Option Bool:=bnd (cu bm) fun x1=>some (!x1)
theorem qza9 {bm:aj}{r:Bool}(h:nM bm=some r):aB prog 103 [dG ae bm] (dB r):=by
 refine bC (rs:=[.tmp 2]) (fun cx hx h0=>?_) func103
 unfold nM at h
 refine ra hx ?_
 refine rs hx fun K hK=>?_
 refine s1 (d:=dG ae bm) (aA (ao.id _ _) ax) ?_
 refine scb h fL fun x1 h=>?_
 iterate 2 refine sa ?_
 refine .nil (hK _ _ (AW.ret ?_))
 cases h
 exact rv1
def bx(pJ:List aj):Int→Option (Int⊕(Int⊕Unit)):=fun be=>cnd (decide (be<((pJ).length:Int))) (gd (0≤be∧be<((pJ).length:Int)) (bnd (nM ((pJ)[(be).toNat]!)) fun x4=>cnd x4 (some (.inr (.inl be))) (some (.inl (i64.wrap (be+(1:Int))))))) (some (.inr (.inr ())))
def b7(pJ:List aj):Option Int:=bnd (bf (bx pJ) (0:Int)) fun y7=>match y7 with| .inl r=>some r| .inr ()=>some (-1:Int)
theorem iU {pJ:List aj}{r:Int}(h:b7 pJ=some r):aB prog 135 [dL ae pJ,.e (.lit (.func (.func 103) #[] #[]))] (dI .i64 r):=by
 refine bC (rs:=[.tmp 4]) (fun cx hx h0=>?_) func135
 unfold b7 at h
 refine ra hx ?_
 refine AW.seq (ra hx ?_)
 refine AW.block ?_
 obtain⟨y,hy,h⟩:=ah h
 refine lp (S:=Int) (X:=Int⊕Unit) (fun be=>[(0,dL ae pJ),(1,.e (.lit (.func (.func 103) #[] #[]))),(7,dI .i64 ((pJ).length:Int)),(8,dI .i64 be)]) (fun be=>⟨[],[],0⟩) (PS (PR [.tmp 4] fun r=>dI .i64 r) (PE cx (.exit 0) (fun ()=>[]) fun ()=>⟨[],[],0⟩)) hy ?_ ?_ ?_
 exact wk h0 [] (wR rfl (wR rfl (wR rfl (wR rfl wTn)))) wVn wLn
 clear hy h
 rintro be y h
 dsimp only[bx] at h
 refine ra hx ?_
 refine AW.seq (cdh h rfl (fun cE h=>?_) (fun cE h=>?_))
 refine AW.skip (AW.seq (AW.block (ra hx ?_)))
 refine rs hx fun K hK=>?_
 iterate 3 refine sa ?_
 obtain⟨pg,h⟩:=az h
 have rz:(be).toNat<(pJ).length:=by omega
 refine s1 (ej pg aF ax) ?_
 refine s1 (d:=dG ae ((pJ)[(be).toNat]!)) (jI (c:=ae) (l:=pJ) (n:=(be).toNat) (o:=0) ax rz (eM _ _ rfl)) ?_
 refine scb h qza9 fun x4 h=>?_
 refine .nil (hK _ _ (cdh h rfl (fun bU h=>?_) (fun bU h=>?_)))
 refine ra hx ?_
 refine AW.ret ?_
 cases h
 refine PS.r ⟨by nofun,PS.l (PR.i ?_)⟩
 exact rv1
 refine AW.skip (rb hx ?_)
 cases h
 exact PS.l (pe0 h0 [])
 refine AW.exit ?_
 try dsimp only
 try simp only[aO,reduceIte,Nat.reduceEqDiff,reduceCtorEq]
 cases h
 exact PS.r ⟨by nofun,PS.r (PE.i (wk h0 [] wTn wVn wLn))⟩
 rcases y with r|⟨⟩
 rintro ex tm' hp' ⟨rfl,hw⟩
 cases h
 exact hw
 rintro ex tm' hp' ⟨rfl,hw⟩
 try dsimp only
 try simp only[aO,reduceIte,Nat.reduceEqDiff,reduceCtorEq]
 refine AW.weak hw (ra hx ?_)
 refine AW.ret ?_
 cases h
 exact rv1
def bR(pJ:List aj):Option Bool:=bnd (b7 pJ) fun x1=>some (decide ((0:Int)≤x1))
theorem ir {pJ:List aj}{r:Bool}(h:bR pJ=some r):aB prog 102 [dL ae pJ,.e (.lit (.func (.func 103) #[] #[]))] (dB r):=by
 refine bC (rs:=[.tmp 4]) (fun cx hx h0=>?_) func102
 unfold bR at h
 refine ra hx ?_
 refine rs hx fun K hK=>?_
 iterate 2 refine sa ?_
 refine scb h iU fun x1 h=>?_
 iterate 2 refine sa ?_
 refine .nil (hK _ _ (AW.ret ?_))
 cases h
 exact rv1
def dJ(gQ:List aj):Option Bool:=bnd (bR gQ) fun x1=>some (!x1)
theorem gu {gQ:List aj}{r:Bool}(h:dJ gQ=some r):aB prog 58 [dL ae gQ] (dB r):=by
 refine bC (rs:=[.tmp 2]) (fun cx hx h0=>?_) func58
 unfold dJ at h
 refine ra hx ?_
 refine rs hx fun K hK=>?_
 refine sa ?_
 refine scb h ir fun x1 h=>?_
 iterate 2 refine sa ?_
 refine .nil (hK _ _ (AW.ret ?_))
 cases h
 exact rv1
def eu(cQ:ap):Option Int:=bnd (S:=Bool) (cnd (decide (cQ.vR<(0:Int))) (some (true)) (cnd (decide ((200:Int)<cQ.vR)) (some (true)) (cnd (decide (cQ.vC<(0:Int))) (some (true)) (some (decide ((200:Int)<cQ.vC)))))) fun jy=>cnd jy (some (2:Int)) (bnd (S:=Bool) (cnd (decide (((cQ.vV).length:Int)≠(i64.wrap (cQ.vR*cQ.vC)))) (some (true)) (bnd (dJ cQ.vV) fun x7=>some (!x7))) fun lP=>cnd lP (some (1:Int)) (some (0:Int)))
theorem rf {cQ:ap}{r:Int}(h:eu cQ=some r):aB prog 11 [dG aE cQ] (dI .i64 r):=by
 refine bC (rs:=[.tmp 2]) (fun cx hx h0=>?_) func11
 unfold eu at h
 refine rs hx fun K hK=>?_
 refine s1 (d:=.pt 0 0) d8 ?_
 refine sa ?_
 refine .nil (hK _ _ (AW.seq (AW.block (AW.seq ?_))))
 obtain⟨jy,hy,h⟩:=ah h
 refine jn ((PE cx .normal (fun jy=>[(1,.pt 0 0),(3,dB jy)]) fun jy=>⟨[(0,[dI .i64 cQ.vR,dI .i64 cQ.vC,dL ae cQ.vV])],[],1⟩) jy) ?_ ?_
 replace h:=hy
 refine rq hx fun K hK=>?_
 refine sa ?_
 refine s1 (aG aT) ?_
 iterate 2 refine sa ?_
 rcases aW (decide (cQ.vR<(0:Int))) with cE|cE
 replace h:=aY cE h
 iterate 3 refine aJ rfl rfl cE ?_
 refine s1 (am cE) ?_
 refine sa ?_
 iterate 3 refine aJ rfl rfl rfl ?_
 refine s1 (am rfl) ?_
 refine sa ?_
 iterate 3 refine aJ rfl rfl rfl ?_
 refine s1 (am rfl) ?_
 refine sa ?_
 refine .nil (hK _ _ ?_)
 cases h
 exact pe0 h0 [0]
 replace h:=aZ cE h
 refine ga cE ?_
 refine g1 cE (aG aT) ?_
 refine ga cE ?_
 refine s1 (au cE) ?_
 refine sa ?_
 rcases aW (decide ((200:Int)<cQ.vR)) with mm|mm
 replace h:=aY mm h
 iterate 3 refine aJ rfl rfl mm ?_
 refine s1 (am mm) ?_
 refine sa ?_
 iterate 3 refine aJ rfl rfl rfl ?_
 refine s1 (am rfl) ?_
 refine sa ?_
 refine .nil (hK _ _ ?_)
 cases h
 exact pe0 h0 [0]
 replace h:=aZ mm h
 refine ga mm ?_
 refine g1 mm (aG aT) ?_
 refine ga mm ?_
 refine s1 (au mm) ?_
 refine sa ?_
 rcases aW (decide (cQ.vC<(0:Int))) with a8|a8
 replace h:=aY a8 h
 iterate 3 refine aJ rfl rfl a8 ?_
 refine s1 (am a8) ?_
 refine sa ?_
 refine .nil (hK _ _ ?_)
 cases h
 exact pe0 h0 [0]
 replace h:=aZ a8 h
 refine ga a8 ?_
 refine g1 a8 (aG aT) ?_
 refine ga a8 ?_
 refine s1 (au a8) ?_
 refine sa ?_
 refine .nil (hK _ _ ?_)
 cases h
 exact pe0 h0 [0]
 rintro ex tm' hp' ⟨rfl,hw⟩
 refine AW.weak hw (cdh h rfl (fun iO h=>?_) (fun iO h=>?_))
 refine ra hx ?_
 refine AW.ret ?_
 cases h
 exact rv1
 refine AW.seq ?_
 obtain⟨lP,hy,h⟩:=ah h
 refine jn ((PE cx .normal (fun lP=>[(22,dB lP)]) fun lP=>⟨[],[],0⟩) lP) ?_ ?_
 replace h:=hy
 refine rq hx fun K hK=>?_
 refine sa ?_
 refine s1 (aG aF) ?_
 iterate 2 refine sa ?_
 refine s1 (aG aT) ?_
 refine sa ?_
 refine s1 (aG aT) ?_
 iterate 3 refine sa ?_
 rcases aW (decide (((cQ.vV).length:Int)≠(i64.wrap (cQ.vR*cQ.vC)))) with bU|bU
 replace h:=aY bU h
 iterate 4 refine aJ rfl rfl bU ?_
 refine s1 (am bU) ?_
 refine sa ?_
 refine .nil (hK _ _ ?_)
 cases h
 exact pe0 h0 []
 replace h:=aZ bU h
 refine ga bU ?_
 refine g1 bU (aG aF) ?_
 obtain⟨x7,xn,h⟩:=ah h
 refine g1 bU (cj rfl (gu xn) rfl (lA (al _) lAn) (.inl rfl)) ?_
 refine ga bU ?_
 refine s1 (au bU) ?_
 refine sa ?_
 refine .nil (hK _ _ ?_)
 cases h
 exact pe0 h0 []
 rintro ex tm' hp' ⟨rfl,hw⟩
 refine AW.weak hw (cdh h rfl (fun eH h=>?_) (fun eH h=>?_))
 refine ra hx ?_
 refine AW.ret ?_
 cases h
 exact rv1
 refine AW.skip (ra hx ?_)
 refine AW.ret ?_
 cases h
 exact rv1
def j7(cQ:ap):Option Bool:=bnd (eu cQ) fun x1=>some (decide (x1≠(0:Int)))
theorem zg {cQ:ap}{r:Bool}(h:j7 cQ=some r):aB prog 107 [dG aE cQ] (dB r):=by
 refine bC (rs:=[.tmp 2]) (fun cx hx h0=>?_) func107
 unfold j7 at h
 refine rs hx fun K hK=>?_
 refine s1 (d:=.pt 0 0) d8 ?_
 refine sa ?_
 refine .nil (hK _ _ (rs hx fun K hK=>?_))
 refine s1 (d:=dG aE cQ) (bb aq) ?_
 refine scb h rf fun x1 h=>?_
 iterate 2 refine sa ?_
 refine .nil (hK _ _ (AW.ret ?_))
 cases h
 exact rv1
def bk(pJ:List ap):Int→Option (Int⊕(Int⊕Unit)):=fun be=>cnd (decide (be<((pJ).length:Int))) (gd (0≤be∧be<((pJ).length:Int)) (bnd (j7 ((pJ)[(be).toNat]!)) fun x4=>cnd x4 (some (.inr (.inl be))) (some (.inl (i64.wrap (be+(1:Int))))))) (some (.inr (.inr ())))
def bB(pJ:List ap):Option Int:=bnd (bf (bk pJ) (0:Int)) fun y7=>match y7 with| .inl r=>some r| .inr ()=>some (-1:Int)
theorem iN {pJ:List ap}{r:Int}(h:bB pJ=some r):aB prog 136 [dL aE pJ,.e (.lit (.func (.func 107) #[] #[]))] (dI .i64 r):=by
 refine bC (rs:=[.tmp 4]) (fun cx hx h0=>?_) func136
 unfold bB at h
 refine ra hx ?_
 refine AW.seq (ra hx ?_)
 refine AW.block ?_
 obtain⟨y,hy,h⟩:=ah h
 refine lp (S:=Int) (X:=Int⊕Unit) (fun be=>[(0,dL aE pJ),(1,.e (.lit (.func (.func 107) #[] #[]))),(7,dI .i64 ((pJ).length:Int)),(8,dI .i64 be)]) (fun be=>⟨[],[],0⟩) (PS (PR [.tmp 4] fun r=>dI .i64 r) (PE cx (.exit 0) (fun ()=>[]) fun ()=>⟨[],[],0⟩)) hy ?_ ?_ ?_
 exact wk h0 [] (wR rfl (wR rfl (wR rfl (wR rfl wTn)))) wVn wLn
 clear hy h
 rintro be y h
 dsimp only[bk] at h
 refine ra hx ?_
 refine AW.seq (cdh h rfl (fun cE h=>?_) (fun cE h=>?_))
 refine AW.skip (AW.seq (AW.block (ra hx ?_)))
 refine rs hx fun K hK=>?_
 iterate 3 refine sa ?_
 obtain⟨pg,h⟩:=az h
 have rz:(be).toNat<(pJ).length:=by omega
 refine s1 (ej pg pH aq) ?_
 refine s1 (d:=dG aE ((pJ)[(be).toNat]!)) (jI (c:=aE) (l:=pJ) (n:=(be).toNat) (o:=0) aq rz (eM _ _ rfl)) ?_
 refine scb h zg fun x4 h=>?_
 refine .nil (hK _ _ (cdh h rfl (fun bU h=>?_) (fun bU h=>?_)))
 refine ra hx ?_
 refine AW.ret ?_
 cases h
 refine PS.r ⟨by nofun,PS.l (PR.i ?_)⟩
 exact rv1
 refine AW.skip (rb hx ?_)
 cases h
 exact PS.l (pe0 h0 [])
 refine AW.exit ?_
 try dsimp only
 try simp only[aO,reduceIte,Nat.reduceEqDiff,reduceCtorEq]
 cases h
 exact PS.r ⟨by nofun,PS.r (PE.i (wk h0 [] wTn wVn wLn))⟩
 rcases y with r|⟨⟩
 rintro ex tm' hp' ⟨rfl,hw⟩
 cases h
 exact hw
 rintro ex tm' hp' ⟨rfl,hw⟩
 try dsimp only
 try simp only[aO,reduceIte,Nat.reduceEqDiff,reduceCtorEq]
 refine AW.weak hw (ra hx ?_)
 refine AW.ret ?_
 cases h
 exact rv1
def bt(pJ:List ap):Option Bool:=bnd (bB pJ) fun x1=>some (decide ((0:Int)≤x1))
theorem g7 {pJ:List ap}{r:Bool}(h:bt pJ=some r):aB prog 106 [dL aE pJ,.e (.lit (.func (.func 107) #[] #[]))] (dB r):=by
 refine bC (rs:=[.tmp 4]) (fun cx hx h0=>?_) func106
 unfold bt at h
 refine ra hx ?_
 refine rs hx fun K hK=>?_
 iterate 2 refine sa ?_
 refine scb h iN fun x1 h=>?_
 iterate 2 refine sa ?_
 refine .nil (hK _ _ (AW.ret ?_))
 cases h
 exact rv1
def b9(gQ:List ap):Option Bool:=bnd (bt gQ) fun x1=>some (!x1)
theorem ep {gQ:List ap}{r:Bool}(h:b9 gQ=some r):aB prog 62 [dL aE gQ] (dB r):=by
 refine bC (rs:=[.tmp 2]) (fun cx hx h0=>?_) func62
 unfold b9 at h
 refine ra hx ?_
 refine rs hx fun K hK=>?_
 refine sa ?_
 refine scb h g7 fun x1 h=>?_
 iterate 2 refine sa ?_
 refine .nil (hK _ _ (AW.ret ?_))
 cases h
 exact rv1
def l4(bL:Int)(bz:Int)(iJ:List aj):Option (ap×Int):=bnd (gj iJ) fun x1=>bnd (eu (⟨bL,bz,x1⟩:ap)) fun x3=>cnd (decide (x3≠(0:Int))) (some ((⟨(0:Int),(0:Int),([]:List aj)⟩:ap),x3)) (some ((⟨bL,bz,x1⟩:ap),(0:Int)))
theorem wK {bL:Int}{bz:Int}{iJ:List aj}{r:ap×Int}(h:l4 bL bz iJ=some r):aB prog 50 [dI .i64 bL,dI .i64 bz,dL ae iJ] (.tu [dG aE r.1,dI .i64 r.2]):=by
 refine bC (rs:=[.cell 6 24,.tmp 7]) (fun cx hx h0=>?_) func50
 unfold l4 at h
 refine rs hx fun K hK=>?_
 refine s1 (d:=.pt 0 0) (bc aq) ?_
 refine sa ?_
 refine .nil (hK _ _ (rs hx fun K hK=>?_))
 iterate 3 refine sa ?_
 obtain⟨x1,zV,h⟩:=ah h
 refine s1 (BA rfl (pD zV) rfl (lA (al _) lAn)) ?_
 refine s2 (d2:=dG aE (⟨bL,bz,x1⟩:ap)) (bE (es:=[dI .i64 bL,dI .i64 bz,dO 1 ae x1]) aq) (eA (wc (co _) (wc (co _) (wc (A5 _) wcn)))) ?_
 refine s1 (d:=.pt 2 0) (bc aq) ?_
 refine s0 (bO (ds':=[dI .i64 bL,dI .i64 bz,dL ae x1]) aq) ?_
 refine .nil (hK _ _ (AW.seq (rs hx fun K hK=>?_)))
 refine s1 (d:=dG aE (⟨bL,bz,x1⟩:ap)) (bb aq) ?_
 refine scb h rf fun x3 h=>?_
 refine sa ?_
 refine .nil (hK _ _ (ra hx ?_))
 refine cdh h rfl (fun iO h=>?_) (fun iO h=>?_)
 refine rs hx fun K hK=>?_
 refine s1 (d:=.ag [dI .i64 (0:Int),dI .i64 (0:Int),dN]) (bE aq) ?_
 refine sa ?_
 refine s0 (bO (ds':=[dI .i64 (0:Int),dI .i64 (0:Int),dN]) aq) ?_
 refine sa ?_
 refine .nil (hK _ _ (AW.ret ?_))
 cases h
 exact dh.mk2 (bJ (es:=[dI .i64 (0:Int),dI .i64 (0:Int),dN]) rfl aq rfl rfl (ltb rfl) (leb rfl) rfl (ci rfl (.inr ⟨_,_,(eA (wc (co _) (wc (co _) (wc (nT rfl) wcn)))),(al _),⟨rfl,rfl⟩,rfl⟩)))
 refine AW.skip (rs hx fun K hK=>?_)
 refine s1 (d:=dG aE (⟨bL,bz,x1⟩:ap)) (bb aq) ?_
 refine s0 (bO (ds':=[dI .i64 bL,dI .i64 bz,dL ae x1]) aq) ?_
 refine sa ?_
 refine .nil (hK _ _ (AW.ret ?_))
 cases h
 exact dh.mk2 (bJ (es:=(aE.f (⟨bL,bz,x1⟩:ap)).map .e) rfl aq rfl rfl (ltb rfl) (leb rfl) rfl (ci rfl (.inr ⟨_,_,(al _),(al _),⟨rfl,rfl⟩,rfl⟩)))
def gV(gq:Int)(fj:Int):Option aj:=cnd (decide (gq=fj)) (bnd (fk (1:Int)) fun x2=>some x2) (bnd (fk (0:Int)) fun x4=>some x4)
theorem qJ {gq:Int}{fj:Int}{r:aj}(h:gV gq fj=some r):aB prog 95 [dI .i64 gq,dI .i64 fj] (dG ae r):=by
 refine bC (rs:=[.cell 4 34]) (fun cx hx h0=>?_) func95
 unfold gV at h
 refine rs hx fun K hK=>?_
 refine s1 (bq (F:=ae.f cb) ax) ?_
 refine .nil (hK _ _ (AW.seq (ra hx ?_)))
 refine cdh h rfl (fun cE h=>?_) (fun cE h=>?_)
 refine rs hx fun K hK=>?_
 refine scb h jA fun x2 h=>?_
 refine s0 (aN (b':=x2) (ao.id _ _) ax) ?_
 refine .nil (hK _ _ (AW.ret ?_))
 cases h
 exact rv1
 refine AW.skip (rs hx fun K hK=>?_)
 refine scb h jA fun x4 h=>?_
 refine s0 (aN (b':=x4) (ao.id _ _) ax) ?_
 refine .nil (hK _ _ (AW.ret ?_))
 cases h
 exact rv1
def dH(bz:Int)(aL:Int):Int×(List aj)→Option ((Int×(List aj))⊕((List aj))):=fun (bQ,bn)=>cnd (decide (bQ<bz)) (bnd (gV aL bQ) fun x3=>gd ((bn++[x3]).length*136≤140737488355328) (some (.inl (i64.wrap (bQ+(1:Int)),bn++[x3])))) (some (.inr bn))
def dW(bL:Int)(bz:Int):Int×(List aj)→Option ((Int×(List aj))⊕((List aj))):=fun (aL,a6)=>cnd (decide (aL<bL)) (bnd (bf (dH bz aL) ((0:Int),a6)) fun bM=>some (.inl (i64.wrap (aL+(1:Int)),bM))) (some (.inr a6))
def dc(bL:Int)(bz:Int):Option (ap×Int):=bnd (bf (dW bL bz) ((0:Int),([]:List aj))) fun aD=>bnd (dJ aD) fun x8=>cnd (!x8) (some ((⟨(0:Int),(0:Int),([]:List aj)⟩:ap),(30:Int))) (some ((⟨bL,bz,aD⟩:ap),(0:Int)))
theorem pi {bL:Int}{bz:Int}{r:ap×Int}(h:dc bL bz=some r):aB prog 73 [dI .i64 bL,dI .i64 bz,.e (.lit (.func (.func 95) #[] #[]))] (.tu [dG aE r.1,dI .i64 r.2]):=by
 refine bC (rs:=[.cell 6 24,.tmp 7]) (fun cx hx h0=>?_) func73
 unfold dc at h
 refine rs hx fun K hK=>?_
 refine s1 (d:=.pt 0 0) (bc aq) ?_
 refine sa ?_
 refine .nil (hK _ _ (rs hx fun K hK=>?_))
 iterate 2 refine sa ?_
 refine s1 (d:=.ag [dI .i64 bL,dI .i64 bz,dN]) (bE aq) ?_
 refine s1 (d:=.pt 1 0) (bc aq) ?_
 refine s0 (bO (ds':=[dI .i64 bL,dI .i64 bz,dN]) aq) ?_
 refine .nil (hK _ _ (AW.seq (ra hx ?_)))
 refine AW.block ?_
 obtain⟨aD,hy,h⟩:=ah h
 refine lp (S:=Int×(List aj)) (X:=(List aj)) (fun (aL,a6)=>[(1,dI .i64 bz),(2,.e (.lit (.func (.func 95) #[] #[]))),(6,.pt 0 0),(8,.pt 1 0),(14,dI .i64 bL),(15,dI .i64 aL)]) (fun (aL,a6)=>⟨[(0,[dI .i64 (0:Int),dI .i64 (0:Int),dN]),(1,[dI .i64 bL,dI .i64 bz,dO 2 ae a6])],[(2,(a6).length,36,34)],3⟩) (PE cx (.exit 0) (fun aD=>[(6,.pt 0 0),(8,.pt 1 0)]) fun aD=>⟨[(0,[dI .i64 (0:Int),dI .i64 (0:Int),dN]),(1,[dI .i64 bL,dI .i64 bz,dO 2 ae aD])],[(2,(aD).length,36,34)],3⟩) hy ?_ ?_ ?_
 exact Wk.trans (Wk.nilOwn (ds':=[dI .i64 bL,dI .i64 bz,dO 2 ae ([]:List aj)]) 1 2 34 36) (wk h0 [0,1,2] (wR rfl (wR rfl (wR rfl (wR rfl (wR rfl (wR rfl wTn)))))) (vR rfl (vR rfl wVn)) (wL rfl rfl wLn))
 clear hy h
 rintro⟨aL,a6⟩ y h
 dsimp only[dW] at h
 refine ra hx ?_
 refine AW.seq (cdh h rfl (fun cE h=>?_) (fun cE h=>?_))
 refine AW.skip (AW.seq (AW.block ?_))
 iterate 2 refine ra hx ?_
 refine AW.block ?_
 obtain⟨bM,hy,h⟩:=ah h
 refine lp (S:=Int×(List aj)) (X:=(List aj)) (fun (bQ,bn)=>[(1,dI .i64 bz),(2,.e (.lit (.func (.func 95) #[] #[]))),(6,.pt 0 0),(8,.pt 1 0),(9,dI .i64 aL),(14,dI .i64 bL),(15,dI .i64 aL),(18,dI .i64 bz),(19,dI .i64 bQ)]) (fun (bQ,bn)=>⟨[(0,[dI .i64 (0:Int),dI .i64 (0:Int),dN]),(1,[dI .i64 bL,dI .i64 bz,dO 2 ae bn])],[(2,(bn).length,36,34)],3⟩) (PE cx (.exit 2) (fun bM=>[(1,dI .i64 bz),(2,.e (.lit (.func (.func 95) #[] #[]))),(6,.pt 0 0),(8,.pt 1 0),(14,dI .i64 bL),(15,dI .i64 aL)]) fun bM=>⟨[(0,[dI .i64 (0:Int),dI .i64 (0:Int),dN]),(1,[dI .i64 bL,dI .i64 bz,dO 2 ae bM])],[(2,(bM).length,36,34)],3⟩) hy ?_ ?_ ?_
 exact wk h0 [0,1,2] (wR rfl (wR rfl (wR rfl (wR rfl (wR rfl (wR rfl (wR rfl (wR rfl (wR rfl wTn))))))))) (vR rfl (vR rfl wVn)) (wL rfl rfl wLn)
 clear hy h
 rintro⟨bQ,bn⟩ y h
 dsimp only[dH] at h
 refine ra hx ?_
 refine AW.seq (cdh h rfl (fun mm h=>?_) (fun mm h=>?_))
 refine AW.skip (AW.seq (AW.block (ra hx ?_)))
 obtain⟨x3,xQ,h⟩:=ah h
 obtain⟨Bu,h⟩:=az h
 refine jn (PE cx .normal (fun (_:Unit)=>[(1,dI .i64 bz),(2,.e (.lit (.func (.func 95) #[] #[]))),(6,.pt 0 0),(8,.pt 1 0),(9,dI .i64 aL),(14,dI .i64 bL),(15,dI .i64 aL),(18,dI .i64 bz),(19,dI .i64 bQ)]) (fun (_:Unit)=>⟨[(0,[dI .i64 (0:Int),dI .i64 (0:Int),dN]),(1,[dI .i64 bL,dI .i64 bz,dO 2 ae (bn++[x3])])],[(2,(bn++[x3]).length,36,34)],3⟩) ()) ?_ ?_
 refine dw (DW.split 1 5 (by decide) ?_ ?_)
 refine dwg [] [0,1,2,3,4,5,6,7,8,9] hx (by kernel_rfl) (by kernel_rfl) (by kernel_rfl) fun K hK=>?_
 dsimp only[eJ,nE,nS,List.map]
 refine sa ?_
 refine s1 (aG aF) ?_
 iterate 3 refine sa ?_
 refine sc (qJ xQ) ?_
 refine s1 (iM ([x3]:List aj) ae aF ax) ?_
 refine s1 (d:=dO 2 ae (bn++[x3])) (gc aF ax Bu) ?_
 refine sa ?_
 refine s0 (bO (ds':=[dI .i64 bL,dI .i64 bz,dO 2 ae (bn++[x3])]) aF) ?_
 exact .nil (hK _ _ (pe0 h0 [0,1,2]))
 refine dwg [] [0,2,3,4,5,1,6,7,8,9] hx (by kernel_rfl) (by kernel_rfl) (by kernel_rfl) fun K hK=>?_
 dsimp only[eJ,nE,nS,List.map]
 iterate 4 refine sa ?_
 refine sc (qJ xQ) ?_
 refine s1 (aG aF) ?_
 refine s1 (iM ([x3]:List aj) ae aF ax) ?_
 refine s1 (d:=dO 2 ae (bn++[x3])) (gc aF ax Bu) ?_
 refine sa ?_
 refine s0 (bO (ds':=[dI .i64 bL,dI .i64 bz,dO 2 ae (bn++[x3])]) aF) ?_
 exact .nil (hK _ _ (pe0 h0 [0,1,2]))
 rintro ex tm' hp' ⟨rfl,hw⟩
 refine AW.weak hw (rb hx ?_)
 cases h
 exact PS.l (pe0 h0 [0,1,2])
 refine AW.exit ?_
 try dsimp only
 try simp only[aO,reduceIte,Nat.reduceEqDiff,reduceCtorEq]
 cases h
 exact PS.r ⟨by nofun,PE.i (wk h0 [0,1,2] (wR rfl (wR rfl (wR rfl (wR rfl (wR rfl (wR rfl wTn)))))) (vR rfl (vR rfl wVn)) (wL rfl rfl wLn))⟩
 rintro ex tm' hp' ⟨rfl,hw⟩
 try dsimp only
 try simp only[aO,reduceIte,Nat.reduceEqDiff,reduceCtorEq]
 refine AW.weak hw (rb hx ?_)
 cases h
 exact PS.l (pe0 h0 [0,1,2])
 refine AW.exit ?_
 try dsimp only
 try simp only[aO,reduceIte,Nat.reduceEqDiff,reduceCtorEq]
 cases h
 exact PS.r ⟨by nofun,PE.i (wk h0 [0,1,2] (wR rfl (wR rfl wTn)) (vR rfl (vR rfl wVn)) (wL rfl rfl wLn))⟩
 rintro ex tm' hp' ⟨rfl,hw⟩
 try dsimp only
 try simp only[aO,reduceIte,Nat.reduceEqDiff,reduceCtorEq]
 refine AW.weak hw (AW.seq (rs hx fun K hK=>?_))
 refine sa ?_
 refine s1 (aG aF) ?_
 refine scb h gu fun x8 h=>?_
 refine sa ?_
 refine .nil (hK _ _ (cdh h rfl (fun eH h=>?_) (fun eH h=>?_)))
 refine rs hx fun K hK=>?_
 refine s1 (d:=.ag [dI .i64 (0:Int),dI .i64 (0:Int),dN]) (bE aq) ?_
 refine s0 (bO (ds':=[dI .i64 (0:Int),dI .i64 (0:Int),dN]) aq) ?_
 refine sa ?_
 refine .nil (hK _ _ (AW.ret ?_))
 cases h
 exact dh.mk2 (bJ (es:=[dI .i64 (0:Int),dI .i64 (0:Int),dN]) rfl aq rfl rfl (ltb rfl) (leb rfl) rfl (ci rfl (.inr ⟨_,_,(eA (wc (co _) (wc (co _) (wc (nT rfl) wcn)))),(al _),⟨rfl,rfl⟩,rfl⟩)))
 refine AW.skip (rs hx fun K hK=>?_)
 refine s1 (d:=.ag [dI .i64 bL,dI .i64 bz,dO 2 ae aD]) (bb aq) ?_
 refine s0 (bO (ds':=[dI .i64 bL,dI .i64 bz,dO 2 ae aD]) aq) ?_
 refine sa ?_
 refine .nil (hK _ _ (AW.ret ?_))
 cases h
 exact dh.mk2 (bJ (es:=[dI .i64 bL,dI .i64 bz,dO 2 ae aD]) rfl aq rfl rfl (ltb rfl) (leb rfl) rfl (ci rfl (.inr ⟨_,_,(eA (wc (co _) (wc (co _) (wc (A5 _) wcn)))),(al _),⟨rfl,rfl⟩,rfl⟩)))
def fS(ce:Int):Option ap:=bnd (S:=Bool) (cnd (decide (ce<(0:Int))) (some (true)) (some (decide ((200:Int)<ce)))) fun a7=>cnd a7 (some (⟨(0:Int),(0:Int),([]:List aj)⟩:ap)) (bnd (dc ce ce) fun x4=>some x4.1)
theorem rX {ce:Int}{r:ap}(h:fS ce=some r):aB prog 43 [dI .i64 ce] (dG aE r):=by
 refine bC (rs:=[.cell 2 24]) (fun cx hx h0=>?_) func43
 unfold fS at h
 refine rs hx fun K hK=>?_
 refine s1 (d:=.pt 0 0) (bc aq) ?_
 refine .nil (hK _ _ ?_)
 iterate 2 refine AW.seq ?_
 obtain⟨a7,hy,h⟩:=ah h
 refine jn ((PE cx .normal (fun a7=>[(0,dI .i64 ce),(2,.pt 0 0),(10,dB a7)]) fun a7=>⟨[(0,[dI .i64 (0:Int),dI .i64 (0:Int),dN])],[],1⟩) a7) ?_ ?_
 replace h:=hy
 refine rq hx fun K hK=>?_
 iterate 3 refine sa ?_
 rcases aW (decide (ce<(0:Int))) with cE|cE
 replace h:=aY cE h
 iterate 2 refine aJ rfl rfl cE ?_
 refine s1 (am cE) ?_
 refine .nil (hK _ _ ?_)
 cases h
 exact pe0 h0 [0]
 replace h:=aZ cE h
 iterate 2 refine ga cE ?_
 refine s1 (au cE) ?_
 refine .nil (hK _ _ ?_)
 cases h
 exact pe0 h0 [0]
 rintro ex tm' hp' ⟨rfl,hw⟩
 refine AW.weak hw (cdh h rfl (fun a8 h=>?_) (fun a8 h=>?_))
 refine rs hx fun K hK=>?_
 refine s1 (d:=.ag [dI .i64 (0:Int),dI .i64 (0:Int),dN]) (bE aq) ?_
 refine s0 (bO (ds':=[dI .i64 (0:Int),dI .i64 (0:Int),dN]) aq) ?_
 refine .nil (hK _ _ (AW.ret ?_))
 cases h
 exact dh.mk1 (bJ (es:=[dI .i64 (0:Int),dI .i64 (0:Int),dN]) rfl aq rfl rfl (ltb rfl) (leb rfl) rfl (.inr (.inr ⟨_,(eA (wc (co _) (wc (co _) (wc (nT rfl) wcn)))),rfl,rfl⟩)))
 refine AW.skip (rs hx fun K hK=>?_)
 iterate 2 refine sa ?_
 refine scb h pi fun x4 h=>?_
 iterate 3 refine sa ?_
 refine s1 (d:=.pt 1 0) (bc aq) ?_
 refine s0 (bO (ds':=[dI .i64 x4.1.vR,dI .i64 x4.1.vC,dL ae x4.1.vV]) aq) ?_
 refine sa ?_
 refine .nil (hK _ _ (rs hx fun K hK=>?_))
 refine s1 (d:=dG aE x4.1) (bb aq) ?_
 refine s0 (bO (ds':=[dI .i64 x4.1.vR,dI .i64 x4.1.vC,dL ae x4.1.vV]) aq) ?_
 refine .nil (hK _ _ (AW.ret ?_))
 cases h
 exact dh.mk1 (bJ (es:=(aE.f x4.1).map .e) rfl aq rfl rfl (ltb rfl) (leb rfl) rfl (.inr (.inr ⟨_,(al _),rfl,rfl⟩)))
def cC(cQ:ap)(gq:Int)(fj:Int):Option aj:=gd (0≤i64.wrap ((i64.wrap (gq*cQ.vC))+fj)∧i64.wrap ((i64.wrap (gq*cQ.vC))+fj)<((cQ.vV).length:Int)) (bnd (some ((cQ.vV)[(i64.wrap ((i64.wrap (gq*cQ.vC))+fj)).toNat]!)) fun x3=>some x3)
theorem eg {cQ:ap}{gq:Int}{fj:Int}{r:aj}(h:cC cQ gq fj=some r):aB prog 75 [dG aE cQ,dI .i64 gq,dI .i64 fj] (dG ae r):=by
 refine bC (rs:=[.cell 6 34]) (fun cx hx h0=>?_) func75
 unfold cC at h
 refine rs hx fun K hK=>?_
 refine s1 (d:=.pt 0 0) d8 ?_
 refine s1 (bq (F:=ae.f cb) ax) ?_
 refine .nil (hK _ _ (rs hx fun K hK=>?_))
 refine sa ?_
 refine s1 (aG aF) ?_
 iterate 2 refine sa ?_
 refine s1 (aG aT) ?_
 iterate 3 refine sa ?_
 obtain⟨G0,h⟩:=az h
 have H5:(i64.wrap ((i64.wrap (gq*cQ.vC))+fj)).toNat<(cQ.vV).length:=by omega
 refine s1 (ej G0 aF ax) ?_
 refine s1 (d:=dG ae ((cQ.vV)[(i64.wrap ((i64.wrap (gq*cQ.vC))+fj)).toNat]!)) (jI (c:=ae) (l:=cQ.vV) (n:=(i64.wrap ((i64.wrap (gq*cQ.vC))+fj)).toNat) (o:=0) ax H5 (eM _ _ rfl)) ?_
 obtain⟨x3,xQ,h⟩:=ah h
 replace xQ:=cP xQ
 refine s0 (kD (b':=(cQ.vV)[(i64.wrap ((i64.wrap (gq*cQ.vC))+fj)).toNat]!) (ao.id _ _) ax xQ) ?_
 refine .nil (hK _ _ (AW.ret ?_))
 cases h
 exact rv1
def lL(iJ:List aj):Option ap:=bnd (l4 ((iJ).length:Int) (1:Int) iJ) fun x1=>some x1.1
theorem A3 {iJ:List aj}{r:ap}(h:lL iJ=some r):aB prog 32 [dL ae iJ] (dG aE r):=by
 refine bC (rs:=[.cell 2 24]) (fun cx hx h0=>?_) func32
 unfold lL at h
 refine rs hx fun K hK=>?_
 refine s1 (d:=.pt 0 0) (bc aq) ?_
 refine .nil (hK _ _ (rs hx fun K hK=>?_))
 iterate 3 refine sa ?_
 refine scb h wK fun x1 h=>?_
 iterate 3 refine sa ?_
 refine s1 (d:=.pt 1 0) (bc aq) ?_
 refine s0 (bO (ds':=[dI .i64 x1.1.vR,dI .i64 x1.1.vC,dL ae x1.1.vV]) aq) ?_
 refine sa ?_
 refine .nil (hK _ _ (rs hx fun K hK=>?_))
 refine s1 (d:=dG aE x1.1) (bb aq) ?_
 refine s0 (bO (ds':=[dI .i64 x1.1.vR,dI .i64 x1.1.vC,dL ae x1.1.vV]) aq) ?_
 refine .nil (hK _ _ (AW.ret ?_))
 cases h
 exact dh.mk1 (bJ (es:=(aE.f x1.1).map .e) rfl aq rfl rfl (ltb rfl) (leb rfl) rfl (.inr (.inr ⟨_,(al _),rfl,rfl⟩)))
def ko(gq:Int)(fj:Int)(bZ:ap)(qza2:ap):Option aj:=bnd (cC bZ gq fj) fun x1=>bnd (cC qza2 gq fj) fun x3=>bnd (gz x1 x3) fun x5=>some x5
def jM(bz:Int)(bZ:ap)(qza2:ap)(aL:Int):Int×(List aj)→Option ((Int×(List aj))⊕((List aj))):=fun (bQ,bn)=>cnd (decide (bQ<bz)) (bnd (ko aL bQ bZ qza2) fun x3=>gd ((bn++[x3]).length*136≤140737488355328) (some (.inl (i64.wrap (bQ+(1:Int)),bn++[x3])))) (some (.inr bn))
def li(bL:Int)(bz:Int)(bZ:ap)(qza2:ap):Int×(List aj)→Option ((Int×(List aj))⊕((List aj))):=fun (aL,a6)=>cnd (decide (aL<bL)) (bnd (bf (jM bz bZ qza2 aL) ((0:Int),a6)) fun bM=>some (.inl (i64.wrap (aL+(1:Int)),bM))) (some (.inr a6))
def lK(bL:Int)(bz:Int)(bZ:ap)(qza2:ap):Option (ap×Int):=bnd (bf (li bL bz bZ qza2) ((0:Int),([]:List aj))) fun aD=>bnd (dJ aD) fun x8=>cnd (!x8) (some ((⟨(0:Int),(0:Int),([]:List aj)⟩:ap),(30:Int))) (some ((⟨bL,bz,aD⟩:ap),(0:Int)))
def oP(aS:ap)(aU:ap):Option (ap×Int):=bnd (S:=Bool) (bnd (b9 [aS,aU]) fun x1=>cnd (!x1) (some (true)) (cnd (decide (aS.vR≠aU.vR)) (some (true)) (some (decide (aS.vC≠aU.vC))))) fun a7=>cnd a7 (some ((⟨(0:Int),(0:Int),([]:List aj)⟩:ap),(1:Int))) (bnd (lK aS.vR aS.vC aS aU) fun x7=>some (x7.1,x7.2))
def gA(gq:Int)(fj:Int)(bZ:ap)(qza2:ap):Int×aj→Option ((Int×aj)⊕aj):=fun (aK,d5)=>cnd (decide (aK<bZ.vC)) (bnd (cC bZ gq aK) fun qx=>bnd (cC qza2 aK fj) fun lw=>bnd (eO qx lw) fun sQ=>bnd (gz d5 sQ) fun ny=>some (.inl (i64.wrap (aK+(1:Int)),ny))) (some (.inr d5))
def iv(gq:Int)(fj:Int)(bZ:ap)(qza2:ap):Option aj:=cnd (decide (bZ.vC=(0:Int))) (bnd (fk (0:Int)) fun x2=>some x2) (bnd (cC bZ gq (0:Int)) fun x4=>bnd (cC qza2 (0:Int) fj) fun x6=>bnd (eO x4 x6) fun x8=>bnd (bf (gA gq fj bZ qza2) ((1:Int),x8)) fun bw=>some bw)
theorem sW {gq:Int}{fj:Int}{bZ:ap}{qza2:ap}{r:aj}(h:iv gq fj bZ qza2=some r):HC prog 84 [dI .i64 gq,dI .i64 fj,.pt 0 0,.pt 1 0] ⟨[(0,[dI .i64 bZ.vR,dI .i64 bZ.vC,dL ae bZ.vV]),(1,[dI .i64 qza2.vR,dI .i64 qza2.vC,dL ae qza2.vV])],[],2⟩ (dG ae r) ⟨[(0,[dI .i64 bZ.vR,dI .i64 bZ.vC,dL ae bZ.vV]),(1,[dI .i64 qza2.vR,dI .i64 qza2.vC,dL ae qza2.vV])],[],2⟩:=by
 refine HC.ofX (rs:=[.cell 6 34]) tok func84 rfl rfl (dM rfl) rfl (fun cx hx h1=>?_)
 have h0:cx.hp0.next=2:=by rw[h1]
 simp only[eC,Nat.reduceAdd,dA]
 unfold iv at h
 refine rs hx fun K hK=>?_
 refine s1 (bq (F:=ae.f cb) ax) ?_
 refine .nil (hK _ _ (AW.seq (rs hx fun K hK=>?_)))
 refine sa ?_
 refine s1 (aG aT) ?_
 refine sa ?_
 refine .nil (hK _ _ (cdh h rfl (fun cE h=>?_) (fun cE h=>?_)))
 refine rs hx fun K hK=>?_
 refine scb h jA fun x2 h=>?_
 refine s0 (aN (b':=x2) (ao.id _ _) ax) ?_
 refine .nil (hK _ _ (AW.ret ?_))
 cases h
 exact⟨_,qz rfl ax rfl rfl (ltb rfl) (ae.h _) (rfl),nr.of_wk (by rw[hx];exact dM rfl) (wkN h0 [] (wG rfl (al _) wTn) (vR rfl (vR rfl wVn)) wLn)⟩
 refine AW.skip (rsd [75,40] hx fun K hK=>?_)
 refine s1 (d:=dG aE bZ) (bb aq) ?_
 refine sa ?_
 refine cqb h eg fun x4 h=>?_
 refine s1 (d:=dG aE qza2) (bb aq) ?_
 refine sa ?_
 refine cqb h eg fun x6 h=>?_
 refine cqb h n4 fun x8 h=>?_
 refine s1 (bq (F:=ae.f cb) ax) ?_
 refine s0 (aN (b':=x8) (ao.id _ _) ax) ?_
 refine .nil (hK _ _ (AW.seq (ra hx ?_)))
 refine AW.block ?_
 obtain⟨bw,hy,h⟩:=ah h
 refine lp (S:=Int×aj) (X:=aj) (fun (aK,d5)=>[(0,dI .i64 gq),(1,dI .i64 fj),(2,.pt 0 0),(3,.pt 1 0),(6,.pt 2 0),(7,.pt 3 0),(8,dI .i64 aK)]) (fun (aK,d5)=>⟨[(0,[dI .i64 bZ.vR,dI .i64 bZ.vC,dL ae bZ.vV]),(1,[dI .i64 qza2.vR,dI .i64 qza2.vC,dL ae qza2.vV]),(2,dC (ae.f cb)),(3,dC (ae.f d5))],[],4⟩) (PE cx (.exit 0) (fun bw=>[(6,.pt 2 0),(7,.pt 3 0)]) fun bw=>⟨[(0,[dI .i64 bZ.vR,dI .i64 bZ.vC,dL ae bZ.vV]),(1,[dI .i64 qza2.vR,dI .i64 qza2.vC,dL ae qza2.vV]),(2,dC (ae.f cb)),(3,dC (ae.f bw))],[],4⟩) hy ?_ ?_ ?_
 exact wkN h0 [2,3] (wR rfl (wR rfl (wR rfl (wR rfl (wR rfl (wR rfl (wR rfl wTn))))))) (vR rfl (vR rfl (vC rfl (vC rfl wVn)))) wLn
 clear hy h
 rintro⟨aK,d5⟩ y h
 dsimp only[gA] at h
 refine AW.seq (rs hx fun K hK=>?_)
 iterate 2 refine sa ?_
 refine s1 (aG aT) ?_
 refine sa ?_
 refine .nil (hK _ _ (cdh h rfl (fun eH h=>?_) (fun eH h=>?_)))
 refine AW.skip (AW.seq (AW.block (rqd [75,40,85] hx fun K hK=>?_)))
 refine s1 (d:=dG ae d5) (aA (ao.id _ _) ax) ?_
 refine s1 (d:=dG aE bZ) (bb aq) ?_
 iterate 2 refine sa ?_
 refine cqb h eg fun qx h=>?_
 refine s1 (d:=dG aE qza2) (bb aq) ?_
 iterate 2 refine sa ?_
 refine cqb h eg fun lw h=>?_
 refine cqb h n4 fun sQ h=>?_
 refine cqb h uY fun ny h=>?_
 refine s0 (aN (b':=ny) (ao.id _ _) ax) ?_
 refine .nil (hK _ _ (rb hx ?_))
 cases h
 exact PS.l (PE.i (wkN h0 [2,3] (wR rfl (wR rfl (wR rfl (wR rfl (wR rfl (wR rfl (wR rfl wTn))))))) (vR rfl (vR rfl (vC rfl (vC rfl wVn)))) wLn))
 refine AW.exit ?_
 try dsimp only
 try simp only[aO,reduceIte,Nat.reduceEqDiff,reduceCtorEq]
 cases h
 exact PS.r ⟨by nofun,PE.i (wkN h0 [2,3] (wR rfl (wR rfl wTn)) (vR rfl (vR rfl (vC rfl (vC rfl wVn)))) wLn)⟩
 rintro ex tm' hp' ⟨rfl,hw⟩
 try dsimp only
 try simp only[aO,reduceIte,Nat.reduceEqDiff,reduceCtorEq]
 refine AW.weak hw (rs hx fun K hK=>?_)
 refine s1 (d:=dG ae bw) (aA (ao.id _ _) ax) ?_
 refine s0 (aN (b':=bw) (ao.id _ _) ax) ?_
 refine .nil (hK _ _ (AW.ret ?_))
 cases h
 exact⟨_,qz rfl ax rfl rfl (ltb rfl) (ae.h _) (rfl),nr.of_wk (by rw[hx];exact dM rfl) (wkN h0 [] (wG rfl (al _) wTn) (vR rfl (vR rfl wVn)) wLn)⟩
def js(bz:Int)(bZ:ap)(qza2:ap)(aL:Int):Int×(List aj)→Option ((Int×(List aj))⊕((List aj))):=fun (bQ,bn)=>cnd (decide (bQ<bz)) (bnd (iv aL bQ bZ qza2) fun x3=>gd ((bn++[x3]).length*136≤140737488355328) (some (.inl (i64.wrap (bQ+(1:Int)),bn++[x3])))) (some (.inr bn))
def jQ(bL:Int)(bz:Int)(bZ:ap)(qza2:ap):Int×(List aj)→Option ((Int×(List aj))⊕((List aj))):=fun (aL,a6)=>cnd (decide (aL<bL)) (bnd (bf (js bz bZ qza2 aL) ((0:Int),a6)) fun bM=>some (.inl (i64.wrap (aL+(1:Int)),bM))) (some (.inr a6))
def kb(bL:Int)(bz:Int)(bZ:ap)(qza2:ap):Option (ap×Int):=bnd (bf (jQ bL bz bZ qza2) ((0:Int),([]:List aj))) fun aD=>bnd (dJ aD) fun x8=>cnd (!x8) (some ((⟨(0:Int),(0:Int),([]:List aj)⟩:ap),(30:Int))) (some ((⟨bL,bz,aD⟩:ap),(0:Int)))
theorem zk {bL:Int}{bz:Int}{bZ:ap}{qza2:ap}{r:ap×Int}(h:kb bL bz bZ qza2=some r):HC prog 73 [dI .i64 bL,dI .i64 bz,.fn 84 [0,1]] ⟨[(0,[dI .i64 bZ.vR,dI .i64 bZ.vC,dL ae bZ.vV]),(1,[dI .i64 qza2.vR,dI .i64 qza2.vC,dL ae qza2.vV])],[],2⟩ (.tu [dG aE r.1,dI .i64 r.2]) ⟨[(0,[dI .i64 bZ.vR,dI .i64 bZ.vC,dL ae bZ.vV]),(1,[dI .i64 qza2.vR,dI .i64 qza2.vC,dL ae qza2.vV])],[],2⟩:=by
 refine HC.ofX (rs:=[.cell 6 24,.tmp 7]) tok func73 rfl rfl (dM rfl) rfl (fun cx hx h1=>?_)
 have h0:cx.hp0.next=2:=by rw[h1]
 simp only[eC,Nat.reduceAdd,dA]
 unfold kb at h
 refine rs hx fun K hK=>?_
 refine s1 (d:=.pt 2 0) (bc aq) ?_
 refine sa ?_
 refine .nil (hK _ _ (rs hx fun K hK=>?_))
 iterate 2 refine sa ?_
 refine s1 (d:=.ag [dI .i64 bL,dI .i64 bz,dN]) (bE aq) ?_
 refine s1 (d:=.pt 3 0) (bc aq) ?_
 refine s0 (bO (ds':=[dI .i64 bL,dI .i64 bz,dN]) aq) ?_
 refine .nil (hK _ _ (AW.seq (ra hx ?_)))
 refine AW.block ?_
 obtain⟨aD,hy,h⟩:=ah h
 refine lp (S:=Int×(List aj)) (X:=(List aj)) (fun (aL,a6)=>[(1,dI .i64 bz),(2,.fn 84 [0,1]),(6,.pt 2 0),(8,.pt 3 0),(14,dI .i64 bL),(15,dI .i64 aL)]) (fun (aL,a6)=>⟨[(0,[dI .i64 bZ.vR,dI .i64 bZ.vC,dL ae bZ.vV]),(1,[dI .i64 qza2.vR,dI .i64 qza2.vC,dL ae qza2.vV]),(2,[dI .i64 (0:Int),dI .i64 (0:Int),dN]),(3,[dI .i64 bL,dI .i64 bz,dO 4 ae a6])],[(4,(a6).length,36,34)],5⟩) (PE cx (.exit 0) (fun aD=>[(6,.pt 2 0),(8,.pt 3 0)]) fun aD=>⟨[(0,[dI .i64 bZ.vR,dI .i64 bZ.vC,dL ae bZ.vV]),(1,[dI .i64 qza2.vR,dI .i64 qza2.vC,dL ae qza2.vV]),(2,[dI .i64 (0:Int),dI .i64 (0:Int),dN]),(3,[dI .i64 bL,dI .i64 bz,dO 4 ae aD])],[(4,(aD).length,36,34)],5⟩) hy ?_ ?_ ?_
 exact Wk.trans (Wk.nilOwn (ds':=[dI .i64 bL,dI .i64 bz,dO 4 ae ([]:List aj)]) 3 2 34 36) (wkN h0 [2,3,4] (wR rfl (wR rfl (wR rfl (wR rfl (wR rfl (wR rfl wTn)))))) (vR rfl (vR rfl (vR rfl (vR rfl wVn)))) (wL rfl rfl wLn))
 clear hy h
 rintro⟨aL,a6⟩ y h
 dsimp only[jQ] at h
 refine ra hx ?_
 refine AW.seq (cdh h rfl (fun cE h=>?_) (fun cE h=>?_))
 refine AW.skip (AW.seq (AW.block ?_))
 iterate 2 refine ra hx ?_
 refine AW.block ?_
 obtain⟨bM,hy,h⟩:=ah h
 refine lp (S:=Int×(List aj)) (X:=(List aj)) (fun (bQ,bn)=>[(1,dI .i64 bz),(2,.fn 84 [0,1]),(6,.pt 2 0),(8,.pt 3 0),(9,dI .i64 aL),(14,dI .i64 bL),(15,dI .i64 aL),(18,dI .i64 bz),(19,dI .i64 bQ)]) (fun (bQ,bn)=>⟨[(0,[dI .i64 bZ.vR,dI .i64 bZ.vC,dL ae bZ.vV]),(1,[dI .i64 qza2.vR,dI .i64 qza2.vC,dL ae qza2.vV]),(2,[dI .i64 (0:Int),dI .i64 (0:Int),dN]),(3,[dI .i64 bL,dI .i64 bz,dO 4 ae bn])],[(4,(bn).length,36,34)],5⟩) (PE cx (.exit 2) (fun bM=>[(1,dI .i64 bz),(2,.fn 84 [0,1]),(6,.pt 2 0),(8,.pt 3 0),(14,dI .i64 bL),(15,dI .i64 aL)]) fun bM=>⟨[(0,[dI .i64 bZ.vR,dI .i64 bZ.vC,dL ae bZ.vV]),(1,[dI .i64 qza2.vR,dI .i64 qza2.vC,dL ae qza2.vV]),(2,[dI .i64 (0:Int),dI .i64 (0:Int),dN]),(3,[dI .i64 bL,dI .i64 bz,dO 4 ae bM])],[(4,(bM).length,36,34)],5⟩) hy ?_ ?_ ?_
 exact wkN h0 [2,3,4] (wR rfl (wR rfl (wR rfl (wR rfl (wR rfl (wR rfl (wR rfl (wR rfl (wR rfl wTn))))))))) (vR rfl (vR rfl (vR rfl (vR rfl wVn)))) (wL rfl rfl wLn)
 clear hy h
 rintro⟨bQ,bn⟩ y h
 dsimp only[js] at h
 refine ra hx ?_
 refine AW.seq (cdh h rfl (fun mm h=>?_) (fun mm h=>?_))
 refine AW.skip (AW.seq (AW.block (ra hx ?_)))
 obtain⟨x3,xQ,h⟩:=ah h
 obtain⟨Bu,h⟩:=az h
 refine jn (PE cx .normal (fun (_:Unit)=>[(1,dI .i64 bz),(2,.fn 84 [0,1]),(6,.pt 2 0),(8,.pt 3 0),(9,dI .i64 aL),(14,dI .i64 bL),(15,dI .i64 aL),(18,dI .i64 bz),(19,dI .i64 bQ)]) (fun (_:Unit)=>⟨[(0,[dI .i64 bZ.vR,dI .i64 bZ.vC,dL ae bZ.vV]),(1,[dI .i64 qza2.vR,dI .i64 qza2.vC,dL ae qza2.vV]),(2,[dI .i64 (0:Int),dI .i64 (0:Int),dN]),(3,[dI .i64 bL,dI .i64 bz,dO 4 ae (bn++[x3])])],[(4,(bn++[x3]).length,36,34)],5⟩) ()) ?_ ?_
 refine dw (DW.split 1 5 (by decide) ?_ ?_)
 refine dwg [] [0,1,2,3,4,5,6,7,8,9] hx (by kernel_rfl) (by kernel_rfl) (by kernel_rfl) fun K hK=>?_
 dsimp only[eJ,nE,nS,List.map]
 refine sa ?_
 refine s1 (aG aF) ?_
 iterate 3 refine sa ?_
 refine s1 (lQ [0,1] rfl (sW xQ) (fA (al _) (fA (al _) (fA (al _) (fA (al _) fAn)))) (vR rfl (vR rfl wVn)) wLn (rvE (rvE rvN)) (pP _ _ _) (uu _ _)) ?_
 refine s1 (iM ([x3]:List aj) ae aF ax) ?_
 refine s1 (d:=dO 4 ae (bn++[x3])) (gc aF ax Bu) ?_
 refine sa ?_
 refine s0 (bO (ds':=[dI .i64 bL,dI .i64 bz,dO 4 ae (bn++[x3])]) aF) ?_
 exact .nil (hK _ _ (PE.i (wkN h0 [2,3,4] (wR rfl (wR rfl (wR rfl (wR rfl (wR rfl (wR rfl (wR rfl (wR rfl (wR rfl wTn))))))))) (vR rfl (vR rfl (vR rfl (vR rfl wVn)))) (wL rfl rfl wLn))))
 refine dwg [] [0,2,3,4,5,1,6,7,8,9] hx (by kernel_rfl) (by kernel_rfl) (by kernel_rfl) fun K hK=>?_
 dsimp only[eJ,nE,nS,List.map]
 iterate 4 refine sa ?_
 refine s1 (lQ [0,1] rfl (sW xQ) (fA (al _) (fA (al _) (fA (al _) (fA (al _) fAn)))) (vR rfl (vR rfl wVn)) wLn (rvE (rvE rvN)) (pP _ _ _) (uu _ _)) ?_
 refine s1 (aG aF) ?_
 refine s1 (iM ([x3]:List aj) ae aF ax) ?_
 refine s1 (d:=dO 4 ae (bn++[x3])) (gc aF ax Bu) ?_
 refine sa ?_
 refine s0 (bO (ds':=[dI .i64 bL,dI .i64 bz,dO 4 ae (bn++[x3])]) aF) ?_
 exact .nil (hK _ _ (PE.i (wkN h0 [2,3,4] (wR rfl (wR rfl (wR rfl (wR rfl (wR rfl (wR rfl (wR rfl (wR rfl (wR rfl wTn))))))))) (vR rfl (vR rfl (vR rfl (vR rfl wVn)))) (wL rfl rfl wLn))))
 rintro ex tm' hp' ⟨rfl,hw⟩
 refine AW.weak hw (rb hx ?_)
 cases h
 exact PS.l (PE.i (wkN h0 [2,3,4] (wR rfl (wR rfl (wR rfl (wR rfl (wR rfl (wR rfl (wR rfl (wR rfl (wR rfl wTn))))))))) (vR rfl (vR rfl (vR rfl (vR rfl wVn)))) (wL rfl rfl wLn)))
 refine AW.exit ?_
 try dsimp only
 try simp only[aO,reduceIte,Nat.reduceEqDiff,reduceCtorEq]
 cases h
 exact PS.r ⟨by nofun,PE.i (wkN h0 [2,3,4] (wR rfl (wR rfl (wR rfl (wR rfl (wR rfl (wR rfl wTn)))))) (vR rfl (vR rfl (vR rfl (vR rfl wVn)))) (wL rfl rfl wLn))⟩
 rintro ex tm' hp' ⟨rfl,hw⟩
 try dsimp only
 try simp only[aO,reduceIte,Nat.reduceEqDiff,reduceCtorEq]
 refine AW.weak hw (rb hx ?_)
 cases h
 exact PS.l (PE.i (wkN h0 [2,3,4] (wR rfl (wR rfl (wR rfl (wR rfl (wR rfl (wR rfl wTn)))))) (vR rfl (vR rfl (vR rfl (vR rfl wVn)))) (wL rfl rfl wLn)))
 refine AW.exit ?_
 try dsimp only
 try simp only[aO,reduceIte,Nat.reduceEqDiff,reduceCtorEq]
 cases h
 exact PS.r ⟨by nofun,PE.i (wkN h0 [2,3,4] (wR rfl (wR rfl wTn)) (vR rfl (vR rfl (vR rfl (vR rfl wVn)))) (wL rfl rfl wLn))⟩
 rintro ex tm' hp' ⟨rfl,hw⟩
 try dsimp only
 try simp only[aO,reduceIte,Nat.reduceEqDiff,reduceCtorEq]
 refine AW.weak hw (AW.seq (rs hx fun K hK=>?_))
 refine sa ?_
 refine s1 (aG aF) ?_
 refine scb h gu fun x8 h=>?_
 refine sa ?_
 refine .nil (hK _ _ (cdh h rfl (fun eH h=>?_) (fun eH h=>?_)))
 refine rs hx fun K hK=>?_
 refine s1 (d:=.ag [dI .i64 (0:Int),dI .i64 (0:Int),dN]) (bE aq) ?_
 refine s0 (bO (ds':=[dI .i64 (0:Int),dI .i64 (0:Int),dN]) aq) ?_
 refine sa ?_
 refine .nil (hK _ _ (AW.ret ?_))
 cases h
 exact⟨_,bJ (es:=[dI .i64 (0:Int),dI .i64 (0:Int),dN]) rfl aq rfl rfl (ltb rfl) (leb rfl) rfl (ci rfl (rfl)),nr.of_wk2 (by rw[hx];exact dM rfl) (wkN h0 [] (wG rfl (eA (wc (co _) (wc (co _) (wc (nT rfl) wcn)))) (wR rfl wTn)) (vR rfl (vR rfl wVn)) wLn)⟩
 refine AW.skip (rs hx fun K hK=>?_)
 refine s1 (d:=.ag [dI .i64 bL,dI .i64 bz,dO 4 ae aD]) (bb aq) ?_
 refine s0 (bO (ds':=[dI .i64 bL,dI .i64 bz,dO 4 ae aD]) aq) ?_
 refine sa ?_
 refine .nil (hK _ _ (AW.ret ?_))
 cases h
 exact⟨_,bJ (es:=[dI .i64 bL,dI .i64 bz,dO 4 ae aD]) rfl aq rfl rfl (ltb rfl) (leb rfl) rfl (ci rfl (rfl)),nr.of_wk2 (by rw[hx];exact dM rfl) (wkN h0 [] (wG rfl (eA (wc (co _) (wc (co _) (wc (A5 _) wcn)))) (wR rfl wTn)) (vR rfl (vR rfl wVn)) wLn)⟩
def oO(aS:ap)(aU:ap):Option (ap×Int):=bnd (S:=Bool) (bnd (b9 [aS,aU]) fun x1=>cnd (!x1) (some (true)) (some (decide (aS.vC≠aU.vR)))) fun a7=>cnd a7 (some ((⟨(0:Int),(0:Int),([]:List aj)⟩:ap),(1:Int))) (bnd (kb aS.vR aU.vC aS aU) fun x6=>some (x6.1,x6.2))
theorem Fc {aS:ap}{aU:ap}{r:ap×Int}(h:oO aS aU=some r):aB prog 31 [dG aE aS,dG aE aU] (.tu [dG aE r.1,dI .i64 r.2]):=by
 refine bC (rs:=[.cell 4 24,.tmp 5]) (fun cx hx h0=>?_) func31
 unfold oO at h
 refine rs hx fun K hK=>?_
 refine s1 (d:=.pt 0 0) d8 ?_
 refine s1 (d:=.pt 1 0) d8 ?_
 refine s1 (d:=.pt 2 0) (bc aq) ?_
 refine sa ?_
 refine .nil (hK _ _ ?_)
 iterate 2 refine AW.seq ?_
 obtain⟨a7,hy,h⟩:=ah h
 refine jn ((PE cx .normal (fun a7=>[(2,.pt 0 0),(3,.pt 1 0),(4,.pt 2 0),(17,dB a7)]) fun a7=>⟨[(0,[dI .i64 aS.vR,dI .i64 aS.vC,dL ae aS.vV]),(1,[dI .i64 aU.vR,dI .i64 aU.vC,dL ae aU.vV]),(2,[dI .i64 (0:Int),dI .i64 (0:Int),dN])],[],3⟩) a7) ?_ ?_
 replace h:=hy
 refine rq hx fun K hK=>?_
 refine s1 (d:=dG aE aS) (bb aq) ?_
 refine s1 (d:=dG aE aU) (bb aq) ?_
 refine s1 (d:=dO 3 aE [aS,aU]) (iI pH aq) ?_
 refine scb h ep fun x1 h=>?_
 iterate 2 refine sa ?_
 rcases aW (!x1) with a8|a8
 replace h:=aY a8 h
 iterate 5 refine aJ rfl rfl a8 ?_
 refine s1 (am a8) ?_
 refine .nil (hK _ _ ?_)
 cases h
 exact pe0 h0 [0,1,2]
 replace h:=aZ a8 h
 refine ga a8 ?_
 refine g1 a8 (aG aT) ?_
 refine ga a8 ?_
 refine g1 a8 (aG aT) ?_
 refine ga a8 ?_
 refine s1 (au a8) ?_
 refine .nil (hK _ _ ?_)
 cases h
 exact pe0 h0 [0,1,2]
 rintro ex tm' hp' ⟨rfl,hw⟩
 refine AW.weak hw (cdh h rfl (fun iO h=>?_) (fun iO h=>?_))
 refine rs hx fun K hK=>?_
 refine s1 (d:=.ag [dI .i64 (0:Int),dI .i64 (0:Int),dN]) (bE aq) ?_
 refine s0 (bO (ds':=[dI .i64 (0:Int),dI .i64 (0:Int),dN]) aq) ?_
 refine sa ?_
 refine .nil (hK _ _ (AW.ret ?_))
 cases h
 exact dh.mk2 (bJ (es:=[dI .i64 (0:Int),dI .i64 (0:Int),dN]) rfl aq rfl rfl (ltb rfl) (leb rfl) rfl (ci rfl (.inr ⟨_,_,(eA (wc (co _) (wc (co _) (wc (nT rfl) wcn)))),(al _),⟨rfl,rfl⟩,rfl⟩)))
 refine AW.skip (rs hx fun K hK=>?_)
 refine sa ?_
 refine s1 (aG aT) ?_
 refine sa ?_
 refine s1 (aG aT) ?_
 refine s1 vH ?_
 obtain⟨x6,td,h⟩:=ah h
 refine s1 (yX [0,1] rfl (zk td) (fA (al _) (fA (al _) (fA (al _) fAn))) (vR rfl (vR rfl wVn)) wLn) ?_
 iterate 2 refine sa ?_
 refine s0 (bO (ds':=[dI .i64 x6.1.vR,dI .i64 x6.1.vC,dL ae x6.1.vV]) aq) ?_
 refine sa ?_
 refine .nil (hK _ _ (AW.ret ?_))
 cases h
 exact dh.mk2 (bJ (es:=(aE.f x6.1).map .e) rfl aq rfl rfl (ltb rfl) (leb rfl) rfl (ci rfl (.inr ⟨_,_,(al _),(al _),⟨rfl,rfl⟩,rfl⟩)))
def gW(gq:Int)(fj:Int)(bZ:ap)(qza2:ap):Option aj:=cnd (decide (fj<bZ.vC)) (bnd (cC bZ gq fj) fun x2=>some x2) (bnd (cC qza2 gq (i64.wrap (fj - bZ.vC))) fun x4=>some x4)
theorem qK {gq:Int}{fj:Int}{bZ:ap}{qza2:ap}{r:aj}(h:gW gq fj bZ qza2=some r):HC prog 98 [dI .i64 gq,dI .i64 fj,.pt 0 0,.pt 1 0] ⟨[(0,[dI .i64 bZ.vR,dI .i64 bZ.vC,dL ae bZ.vV]),(1,[dI .i64 qza2.vR,dI .i64 qza2.vC,dL ae qza2.vV])],[],2⟩ (dG ae r) ⟨[(0,[dI .i64 bZ.vR,dI .i64 bZ.vC,dL ae bZ.vV]),(1,[dI .i64 qza2.vR,dI .i64 qza2.vC,dL ae qza2.vV])],[],2⟩:=by
 refine HC.ofX (rs:=[.cell 6 34]) tok func98 rfl rfl (dM rfl) rfl (fun cx hx h1=>?_)
 have h0:cx.hp0.next=2:=by rw[h1]
 simp only[eC,Nat.reduceAdd,dA]
 unfold gW at h
 refine rs hx fun K hK=>?_
 refine s1 (bq (F:=ae.f cb) ax) ?_
 refine .nil (hK _ _ (AW.seq (rs hx fun K hK=>?_)))
 iterate 2 refine sa ?_
 refine s1 (aG aT) ?_
 refine sa ?_
 refine .nil (hK _ _ (cdh h rfl (fun cE h=>?_) (fun cE h=>?_)))
 refine rs hx fun K hK=>?_
 refine s1 (d:=dG aE bZ) (bb aq) ?_
 iterate 2 refine sa ?_
 refine scb h eg fun x2 h=>?_
 refine s0 (aN (b':=x2) (ao.id _ _) ax) ?_
 refine .nil (hK _ _ (AW.ret ?_))
 cases h
 exact⟨_,qz rfl ax rfl rfl (ltb rfl) (ae.h _) (rfl),nr.of_wk (by rw[hx];exact dM rfl) (wkN h0 [] (wG rfl (al _) wTn) (vR rfl (vR rfl wVn)) wLn)⟩
 refine AW.skip (rs hx fun K hK=>?_)
 refine s1 (d:=dG aE qza2) (bb aq) ?_
 iterate 3 refine sa ?_
 refine s1 (aG aT) ?_
 refine sa ?_
 refine scb h eg fun x4 h=>?_
 refine s0 (aN (b':=x4) (ao.id _ _) ax) ?_
 refine .nil (hK _ _ (AW.ret ?_))
 cases h
 exact⟨_,qz rfl ax rfl rfl (ltb rfl) (ae.h _) (rfl),nr.of_wk (by rw[hx];exact dM rfl) (wkN h0 [] (wG rfl (al _) wTn) (vR rfl (vR rfl wVn)) wLn)⟩
def jq(bz:Int)(bZ:ap)(qza2:ap)(aL:Int):Int×(List aj)→Option ((Int×(List aj))⊕((List aj))):=fun (bQ,bn)=>cnd (decide (bQ<bz)) (bnd (gW aL bQ bZ qza2) fun x3=>gd ((bn++[x3]).length*136≤140737488355328) (some (.inl (i64.wrap (bQ+(1:Int)),bn++[x3])))) (some (.inr bn))
def jO(bL:Int)(bz:Int)(bZ:ap)(qza2:ap):Int×(List aj)→Option ((Int×(List aj))⊕((List aj))):=fun (aL,a6)=>cnd (decide (aL<bL)) (bnd (bf (jq bz bZ qza2 aL) ((0:Int),a6)) fun bM=>some (.inl (i64.wrap (aL+(1:Int)),bM))) (some (.inr a6))
def j9(bL:Int)(bz:Int)(bZ:ap)(qza2:ap):Option (ap×Int):=bnd (bf (jO bL bz bZ qza2) ((0:Int),([]:List aj))) fun aD=>bnd (dJ aD) fun x8=>cnd (!x8) (some ((⟨(0:Int),(0:Int),([]:List aj)⟩:ap),(30:Int))) (some ((⟨bL,bz,aD⟩:ap),(0:Int)))
theorem zi {bL:Int}{bz:Int}{bZ:ap}{qza2:ap}{r:ap×Int}(h:j9 bL bz bZ qza2=some r):HC prog 73 [dI .i64 bL,dI .i64 bz,.fn 98 [0,1]] ⟨[(0,[dI .i64 bZ.vR,dI .i64 bZ.vC,dL ae bZ.vV]),(1,[dI .i64 qza2.vR,dI .i64 qza2.vC,dL ae qza2.vV])],[],2⟩ (.tu [dG aE r.1,dI .i64 r.2]) ⟨[(0,[dI .i64 bZ.vR,dI .i64 bZ.vC,dL ae bZ.vV]),(1,[dI .i64 qza2.vR,dI .i64 qza2.vC,dL ae qza2.vV])],[],2⟩:=by
 refine HC.ofX (rs:=[.cell 6 24,.tmp 7]) tok func73 rfl rfl (dM rfl) rfl (fun cx hx h1=>?_)
 have h0:cx.hp0.next=2:=by rw[h1]
 simp only[eC,Nat.reduceAdd,dA]
 unfold j9 at h
 refine rs hx fun K hK=>?_
 refine s1 (d:=.pt 2 0) (bc aq) ?_
 refine sa ?_
 refine .nil (hK _ _ (rs hx fun K hK=>?_))
 iterate 2 refine sa ?_
 refine s1 (d:=.ag [dI .i64 bL,dI .i64 bz,dN]) (bE aq) ?_
 refine s1 (d:=.pt 3 0) (bc aq) ?_
 refine s0 (bO (ds':=[dI .i64 bL,dI .i64 bz,dN]) aq) ?_
 refine .nil (hK _ _ (AW.seq (ra hx ?_)))
 refine AW.block ?_
 obtain⟨aD,hy,h⟩:=ah h
 refine lp (S:=Int×(List aj)) (X:=(List aj)) (fun (aL,a6)=>[(1,dI .i64 bz),(2,.fn 98 [0,1]),(6,.pt 2 0),(8,.pt 3 0),(14,dI .i64 bL),(15,dI .i64 aL)]) (fun (aL,a6)=>⟨[(0,[dI .i64 bZ.vR,dI .i64 bZ.vC,dL ae bZ.vV]),(1,[dI .i64 qza2.vR,dI .i64 qza2.vC,dL ae qza2.vV]),(2,[dI .i64 (0:Int),dI .i64 (0:Int),dN]),(3,[dI .i64 bL,dI .i64 bz,dO 4 ae a6])],[(4,(a6).length,36,34)],5⟩) (PE cx (.exit 0) (fun aD=>[(6,.pt 2 0),(8,.pt 3 0)]) fun aD=>⟨[(0,[dI .i64 bZ.vR,dI .i64 bZ.vC,dL ae bZ.vV]),(1,[dI .i64 qza2.vR,dI .i64 qza2.vC,dL ae qza2.vV]),(2,[dI .i64 (0:Int),dI .i64 (0:Int),dN]),(3,[dI .i64 bL,dI .i64 bz,dO 4 ae aD])],[(4,(aD).length,36,34)],5⟩) hy ?_ ?_ ?_
 exact Wk.trans (Wk.nilOwn (ds':=[dI .i64 bL,dI .i64 bz,dO 4 ae ([]:List aj)]) 3 2 34 36) (wkN h0 [2,3,4] (wR rfl (wR rfl (wR rfl (wR rfl (wR rfl (wR rfl wTn)))))) (vR rfl (vR rfl (vR rfl (vR rfl wVn)))) (wL rfl rfl wLn))
 clear hy h
 rintro⟨aL,a6⟩ y h
 dsimp only[jO] at h
 refine ra hx ?_
 refine AW.seq (cdh h rfl (fun cE h=>?_) (fun cE h=>?_))
 refine AW.skip (AW.seq (AW.block ?_))
 iterate 2 refine ra hx ?_
 refine AW.block ?_
 obtain⟨bM,hy,h⟩:=ah h
 refine lp (S:=Int×(List aj)) (X:=(List aj)) (fun (bQ,bn)=>[(1,dI .i64 bz),(2,.fn 98 [0,1]),(6,.pt 2 0),(8,.pt 3 0),(9,dI .i64 aL),(14,dI .i64 bL),(15,dI .i64 aL),(18,dI .i64 bz),(19,dI .i64 bQ)]) (fun (bQ,bn)=>⟨[(0,[dI .i64 bZ.vR,dI .i64 bZ.vC,dL ae bZ.vV]),(1,[dI .i64 qza2.vR,dI .i64 qza2.vC,dL ae qza2.vV]),(2,[dI .i64 (0:Int),dI .i64 (0:Int),dN]),(3,[dI .i64 bL,dI .i64 bz,dO 4 ae bn])],[(4,(bn).length,36,34)],5⟩) (PE cx (.exit 2) (fun bM=>[(1,dI .i64 bz),(2,.fn 98 [0,1]),(6,.pt 2 0),(8,.pt 3 0),(14,dI .i64 bL),(15,dI .i64 aL)]) fun bM=>⟨[(0,[dI .i64 bZ.vR,dI .i64 bZ.vC,dL ae bZ.vV]),(1,[dI .i64 qza2.vR,dI .i64 qza2.vC,dL ae qza2.vV]),(2,[dI .i64 (0:Int),dI .i64 (0:Int),dN]),(3,[dI .i64 bL,dI .i64 bz,dO 4 ae bM])],[(4,(bM).length,36,34)],5⟩) hy ?_ ?_ ?_
 exact wkN h0 [2,3,4] (wR rfl (wR rfl (wR rfl (wR rfl (wR rfl (wR rfl (wR rfl (wR rfl (wR rfl wTn))))))))) (vR rfl (vR rfl (vR rfl (vR rfl wVn)))) (wL rfl rfl wLn)
 clear hy h
 rintro⟨bQ,bn⟩ y h
 dsimp only[jq] at h
 refine ra hx ?_
 refine AW.seq (cdh h rfl (fun mm h=>?_) (fun mm h=>?_))
 refine AW.skip (AW.seq (AW.block (ra hx ?_)))
 obtain⟨x3,xQ,h⟩:=ah h
 obtain⟨Bu,h⟩:=az h
 refine jn (PE cx .normal (fun (_:Unit)=>[(1,dI .i64 bz),(2,.fn 98 [0,1]),(6,.pt 2 0),(8,.pt 3 0),(9,dI .i64 aL),(14,dI .i64 bL),(15,dI .i64 aL),(18,dI .i64 bz),(19,dI .i64 bQ)]) (fun (_:Unit)=>⟨[(0,[dI .i64 bZ.vR,dI .i64 bZ.vC,dL ae bZ.vV]),(1,[dI .i64 qza2.vR,dI .i64 qza2.vC,dL ae qza2.vV]),(2,[dI .i64 (0:Int),dI .i64 (0:Int),dN]),(3,[dI .i64 bL,dI .i64 bz,dO 4 ae (bn++[x3])])],[(4,(bn++[x3]).length,36,34)],5⟩) ()) ?_ ?_
 refine dw (DW.split 1 5 (by decide) ?_ ?_)
 refine dwg [] [0,1,2,3,4,5,6,7,8,9] hx (by kernel_rfl) (by kernel_rfl) (by kernel_rfl) fun K hK=>?_
 dsimp only[eJ,nE,nS,List.map]
 refine sa ?_
 refine s1 (aG aF) ?_
 iterate 3 refine sa ?_
 refine s1 (lQ [0,1] rfl (qK xQ) (fA (al _) (fA (al _) (fA (al _) (fA (al _) fAn)))) (vR rfl (vR rfl wVn)) wLn (rvE (rvE rvN)) (pP _ _ _) (uu _ _)) ?_
 refine s1 (iM ([x3]:List aj) ae aF ax) ?_
 refine s1 (d:=dO 4 ae (bn++[x3])) (gc aF ax Bu) ?_
 refine sa ?_
 refine s0 (bO (ds':=[dI .i64 bL,dI .i64 bz,dO 4 ae (bn++[x3])]) aF) ?_
 exact .nil (hK _ _ (PE.i (wkN h0 [2,3,4] (wR rfl (wR rfl (wR rfl (wR rfl (wR rfl (wR rfl (wR rfl (wR rfl (wR rfl wTn))))))))) (vR rfl (vR rfl (vR rfl (vR rfl wVn)))) (wL rfl rfl wLn))))
 refine dwg [] [0,2,3,4,5,1,6,7,8,9] hx (by kernel_rfl) (by kernel_rfl) (by kernel_rfl) fun K hK=>?_
 dsimp only[eJ,nE,nS,List.map]
 iterate 4 refine sa ?_
 refine s1 (lQ [0,1] rfl (qK xQ) (fA (al _) (fA (al _) (fA (al _) (fA (al _) fAn)))) (vR rfl (vR rfl wVn)) wLn (rvE (rvE rvN)) (pP _ _ _) (uu _ _)) ?_
 refine s1 (aG aF) ?_
 refine s1 (iM ([x3]:List aj) ae aF ax) ?_
 refine s1 (d:=dO 4 ae (bn++[x3])) (gc aF ax Bu) ?_
 refine sa ?_
 refine s0 (bO (ds':=[dI .i64 bL,dI .i64 bz,dO 4 ae (bn++[x3])]) aF) ?_
 exact .nil (hK _ _ (PE.i (wkN h0 [2,3,4] (wR rfl (wR rfl (wR rfl (wR rfl (wR rfl (wR rfl (wR rfl (wR rfl (wR rfl wTn))))))))) (vR rfl (vR rfl (vR rfl (vR rfl wVn)))) (wL rfl rfl wLn))))
 rintro ex tm' hp' ⟨rfl,hw⟩
 refine AW.weak hw (rb hx ?_)
 cases h
 exact PS.l (PE.i (wkN h0 [2,3,4] (wR rfl (wR rfl (wR rfl (wR rfl (wR rfl (wR rfl (wR rfl (wR rfl (wR rfl wTn))))))))) (vR rfl (vR rfl (vR rfl (vR rfl wVn)))) (wL rfl rfl wLn)))
 refine AW.exit ?_
 try dsimp only
 try simp only[aO,reduceIte,Nat.reduceEqDiff,reduceCtorEq]
 cases h
 exact PS.r ⟨by nofun,PE.i (wkN h0 [2,3,4] (wR rfl (wR rfl (wR rfl (wR rfl (wR rfl (wR rfl wTn)))))) (vR rfl (vR rfl (vR rfl (vR rfl wVn)))) (wL rfl rfl wLn))⟩
 rintro ex tm' hp' ⟨rfl,hw⟩
 try dsimp only
 try simp only[aO,reduceIte,Nat.reduceEqDiff,reduceCtorEq]
 refine AW.weak hw (rb hx ?_)
 cases h
 exact PS.l (PE.i (wkN h0 [2,3,4] (wR rfl (wR rfl (wR rfl (wR rfl (wR rfl (wR rfl wTn)))))) (vR rfl (vR rfl (vR rfl (vR rfl wVn)))) (wL rfl rfl wLn)))
 refine AW.exit ?_
 try dsimp only
 try simp only[aO,reduceIte,Nat.reduceEqDiff,reduceCtorEq]
 cases h
 exact PS.r ⟨by nofun,PE.i (wkN h0 [2,3,4] (wR rfl (wR rfl wTn)) (vR rfl (vR rfl (vR rfl (vR rfl wVn)))) (wL rfl rfl wLn))⟩
 rintro ex tm' hp' ⟨rfl,hw⟩
 try dsimp only
 try simp only[aO,reduceIte,Nat.reduceEqDiff,reduceCtorEq]
 refine AW.weak hw (AW.seq (rs hx fun K hK=>?_))
 refine sa ?_
 refine s1 (aG aF) ?_
 refine scb h gu fun x8 h=>?_
 refine sa ?_
 refine .nil (hK _ _ (cdh h rfl (fun eH h=>?_) (fun eH h=>?_)))
 refine rs hx fun K hK=>?_
 refine s1 (d:=.ag [dI .i64 (0:Int),dI .i64 (0:Int),dN]) (bE aq) ?_
 refine s0 (bO (ds':=[dI .i64 (0:Int),dI .i64 (0:Int),dN]) aq) ?_
 refine sa ?_
 refine .nil (hK _ _ (AW.ret ?_))
 cases h
 exact⟨_,bJ (es:=[dI .i64 (0:Int),dI .i64 (0:Int),dN]) rfl aq rfl rfl (ltb rfl) (leb rfl) rfl (ci rfl (rfl)),nr.of_wk2 (by rw[hx];exact dM rfl) (wkN h0 [] (wG rfl (eA (wc (co _) (wc (co _) (wc (nT rfl) wcn)))) (wR rfl wTn)) (vR rfl (vR rfl wVn)) wLn)⟩
 refine AW.skip (rs hx fun K hK=>?_)
 refine s1 (d:=.ag [dI .i64 bL,dI .i64 bz,dO 4 ae aD]) (bb aq) ?_
 refine s0 (bO (ds':=[dI .i64 bL,dI .i64 bz,dO 4 ae aD]) aq) ?_
 refine sa ?_
 refine .nil (hK _ _ (AW.ret ?_))
 cases h
 exact⟨_,bJ (es:=[dI .i64 bL,dI .i64 bz,dO 4 ae aD]) rfl aq rfl rfl (ltb rfl) (leb rfl) rfl (ci rfl (rfl)),nr.of_wk2 (by rw[hx];exact dM rfl) (wkN h0 [] (wG rfl (eA (wc (co _) (wc (co _) (wc (A5 _) wcn)))) (wR rfl wTn)) (vR rfl (vR rfl wVn)) wLn)⟩
def gR(aS:ap)(aU:ap):Option (ap×Int):=bnd (S:=Bool) (bnd (b9 [aS,aU]) fun x1=>cnd (!x1) (some (true)) (some (decide (aS.vR≠aU.vR)))) fun jy=>cnd jy (some ((⟨(0:Int),(0:Int),([]:List aj)⟩:ap),(1:Int))) (cnd (decide ((200:Int)<(i64.wrap (aS.vC+aU.vC)))) (some ((⟨(0:Int),(0:Int),([]:List aj)⟩:ap),(2:Int))) (bnd (j9 aS.vR (i64.wrap (aS.vC+aU.vC)) aS aU) fun x7=>some (x7.1,x7.2)))
theorem ul {aS:ap}{aU:ap}{r:ap×Int}(h:gR aS aU=some r):aB prog 51 [dG aE aS,dG aE aU] (.tu [dG aE r.1,dI .i64 r.2]):=by
 refine bC (rs:=[.cell 4 24,.tmp 5]) (fun cx hx h0=>?_) func51
 unfold gR at h
 refine rs hx fun K hK=>?_
 refine s1 (d:=.pt 0 0) d8 ?_
 refine s1 (d:=.pt 1 0) d8 ?_
 refine s1 (d:=.pt 2 0) (bc aq) ?_
 refine sa ?_
 refine .nil (hK _ _ (AW.seq (AW.block (AW.seq ?_))))
 obtain⟨jy,hy,h⟩:=ah h
 refine jn ((PE cx .normal (fun jy=>[(2,.pt 0 0),(3,.pt 1 0),(4,.pt 2 0),(6,dB jy)]) fun jy=>⟨[(0,[dI .i64 aS.vR,dI .i64 aS.vC,dL ae aS.vV]),(1,[dI .i64 aU.vR,dI .i64 aU.vC,dL ae aU.vV]),(2,[dI .i64 (0:Int),dI .i64 (0:Int),dN])],[],3⟩) jy) ?_ ?_
 replace h:=hy
 refine rq hx fun K hK=>?_
 refine s1 (d:=dG aE aS) (bb aq) ?_
 refine s1 (d:=dG aE aU) (bb aq) ?_
 refine s1 (d:=dO 3 aE [aS,aU]) (iI pH aq) ?_
 refine scb h ep fun x1 h=>?_
 iterate 2 refine sa ?_
 rcases aW (!x1) with a8|a8
 replace h:=aY a8 h
 iterate 5 refine aJ rfl rfl a8 ?_
 refine s1 (am a8) ?_
 refine sa ?_
 refine .nil (hK _ _ ?_)
 cases h
 exact pe0 h0 [0,1,2]
 replace h:=aZ a8 h
 refine ga a8 ?_
 refine g1 a8 (aG aT) ?_
 refine ga a8 ?_
 refine g1 a8 (aG aT) ?_
 refine ga a8 ?_
 refine s1 (au a8) ?_
 refine sa ?_
 refine .nil (hK _ _ ?_)
 cases h
 exact pe0 h0 [0,1,2]
 rintro ex tm' hp' ⟨rfl,hw⟩
 refine AW.weak hw (cdh h rfl (fun iO h=>?_) (fun iO h=>?_))
 refine rs hx fun K hK=>?_
 refine s1 (d:=.ag [dI .i64 (0:Int),dI .i64 (0:Int),dN]) (bE aq) ?_
 refine s0 (bO (ds':=[dI .i64 (0:Int),dI .i64 (0:Int),dN]) aq) ?_
 refine sa ?_
 refine .nil (hK _ _ (AW.ret ?_))
 cases h
 exact dh.mk2 (bJ (es:=[dI .i64 (0:Int),dI .i64 (0:Int),dN]) rfl aq rfl rfl (ltb rfl) (leb rfl) rfl (ci rfl (.inr ⟨_,_,(eA (wc (co _) (wc (co _) (wc (nT rfl) wcn)))),(al _),⟨rfl,rfl⟩,rfl⟩)))
 refine rs hx fun K hK=>?_
 refine sa ?_
 refine s1 (aG aT) ?_
 refine sa ?_
 refine s1 (aG aT) ?_
 iterate 3 refine sa ?_
 refine .nil (hK _ _ (cdh h rfl (fun bU h=>?_) (fun bU h=>?_)))
 refine rs hx fun K hK=>?_
 refine s1 (d:=.ag [dI .i64 (0:Int),dI .i64 (0:Int),dN]) (bE aq) ?_
 refine s0 (bO (ds':=[dI .i64 (0:Int),dI .i64 (0:Int),dN]) aq) ?_
 refine sa ?_
 refine .nil (hK _ _ (AW.ret ?_))
 cases h
 exact dh.mk2 (bJ (es:=[dI .i64 (0:Int),dI .i64 (0:Int),dN]) rfl aq rfl rfl (ltb rfl) (leb rfl) rfl (ci rfl (.inr ⟨_,_,(eA (wc (co _) (wc (co _) (wc (nT rfl) wcn)))),(al _),⟨rfl,rfl⟩,rfl⟩)))
 refine AW.skip (rs hx fun K hK=>?_)
 refine sa ?_
 refine s1 (aG aT) ?_
 refine sa ?_
 refine s1 (aG aT) ?_
 refine sa ?_
 refine s1 (aG aT) ?_
 refine sa ?_
 refine s1 vH ?_
 obtain⟨x7,xn,h⟩:=ah h
 refine s1 (yX [0,1] rfl (zi xn) (fA (al _) (fA (al _) (fA (al _) fAn))) (vR rfl (vR rfl wVn)) wLn) ?_
 iterate 2 refine sa ?_
 refine s0 (bO (ds':=[dI .i64 x7.1.vR,dI .i64 x7.1.vC,dL ae x7.1.vV]) aq) ?_
 refine sa ?_
 refine .nil (hK _ _ (AW.ret ?_))
 cases h
 exact dh.mk2 (bJ (es:=(aE.f x7.1).map .e) rfl aq rfl rfl (ltb rfl) (leb rfl) rfl (ci rfl (.inr ⟨_,_,(al _),(al _),⟨rfl,rfl⟩,rfl⟩)))
abbrev mS(R C:Int)(V:List Nu):ap:=⟨R,C,V.map nv⟩
abbrev mZ:ap:=⟨0,0,[]⟩
def aX(R C:Int)(V:List Nu):Int:=if R<0∨200<R∨C<0∨200<C then 2 else if (V.length:Int)≠R*C∨V.all cM=false then 1 else 0
structure MV(R C:Nat)(V:List Nu):Prop where
 r:R≤200
 c:C≤200
 len:V.length=R*C
 good:V.all cM=true
theorem cX {R C:Int}{V:List Nu}:aX R C V=0↔∃r c:Nat,R=r∧C=c∧MV r c V:=by
 unfold aX
 constructor
 ·intro h
  split at h
  ·cases h
  ·rename_i h1
   split at h
   ·cases h
   ·rename_i h2
    obtain⟨r,rfl⟩:∃r:Nat,R=r:=⟨R.toNat,by omega⟩
    obtain⟨c,rfl⟩:∃c:Nat,C=c:=⟨C.toNat,by omega⟩
    refine⟨r,c,rfl,rfl,by omega,by omega,?_,?_⟩
    ·have h3:(V.length:Int)=(r:Int)*c:=Classical.byContradiction fun e=>h2 (.inl e)
     exact_mod_cast h3
    ·cases hg:V.all cM with
     |true=>rfl
     |false=>exact absurd (.inr hg) h2
 ·rintro⟨r,c,rfl,rfl,hm⟩
  have h1:=hm.r
  have h2:=hm.c
  rw[ifn_,aV]
  rintro (h|h)
  ·exact h (by rw[hm.len];exact_mod_cast rfl)
  ·rw[hm.good] at h;cases h
theorem MV.rc {R C:Nat}{V:List Nu}(h:MV R C V):R*C≤40000:=iS h.r h.c
theorem MV.chk {R C:Nat}{V:List Nu}(h:MV R C V):aX R C V=0:=cX.2 ⟨R,C,rfl,rfl,h⟩
theorem rP {V:List Nu}(h:V.length≤1000000):dJ (V.map nv)=some (V.all cM):=by
 unfold dJ bR b7
 have key:=Bt (b:=bx (V.map nv)) (n:=V.length) h (fun i=>!cM V[i]!) (fun i hi=>by
  unfold bx nM
  rw[bH,bF _ _,aI,bh,uw hi,Nr]
  rfl) (by
  unfold bx
  rw[bH,bA _ _])
 rw[LE V (fun x=>!cM x)] at key
 have e:V.all cM= !V.any fun x=>!cM x:=by rw[Qb];simp
 rcases key with⟨h1,h2⟩|⟨j,h1,h2⟩ <;> rw[h1,e,h2]
 ·rfl
 ·simp[bnd]
theorem wo {R C:Int}{V:List Nu}(h:V.length≤1000000):eu (mS R C V)=some (aX R C V):=by
 unfold eu aX
 dsimp only
 simp only[kOr,ab,rP h]
 by_cases h1:R<0∨200<R∨C<0∨200<C
 ·rw[aQ h1]
  have:(decide (R<0)||(decide (200<R)||(decide (C<0)||decide (200<C))))=true:=by simpa using h1
  rw[this];rfl
 ·rw[aV h1]
  have:(decide (R<0)||(decide (200<R)||(decide (C<0)||decide (200<C))))=false:=by simpa using h1
  rw[this,kF]
  have H3:0≤R*C∧R*C≤40000:=by
   obtain⟨r,rfl⟩:∃r:Nat,R=r:=⟨R.toNat,by omega⟩
   obtain⟨c,rfl⟩:∃c:Nat,C=c:=⟨C.toNat,by omega⟩
   have:r*c≤200*200:=iS (by omega) (by omega)
   have e:((r:Int)*c)=((r*c:Nat):Int):=by exact_mod_cast rfl
   rw[e];omega
  rw[w64,bH]
  by_cases h2:(V.length:Int)≠R*C∨V.all cM=false
  ·rw[aQ h2]
   have:(decide ((V.length:Int)≠R*C)||!V.all cM)=true:=by
    rcases h2 with h2|h2
    ·rw[iP h2];rfl
    ·rw[h2];simp
   rw[this];rfl
  ·rw[aV h2]
   have:(decide ((V.length:Int)≠R*C)||!V.all cM)=false:=by
    have a:¬(V.length:Int)≠R*C:=fun e=>h2 (.inl e)
    have b:V.all cM=true:=by cases hg:V.all cM with
     |true=>rfl
     |false=>exact absurd (.inr hg) h2
    rw[gX a,b];rfl
   rw[this];rfl
theorem nH {R C:Int}{V:List Nu}(h:V.length≤1000000):b9 [mS R C V]=some (decide (aX R C V=0)):=by
 unfold b9 bt bB
 have key:=Bt (b:=bk [mS R C V]) (n:=1) (by decide) (fun i=>decide (aX R C V≠0)) (fun i hi=>by
  obtain rfl:i=0:=by omega
  unfold bk j7
  rw[bF _ _ (by simp),aI ⟨by simp,by simp⟩]
  show bnd (bnd (eu (mS R C V)) _) _=_
  rw[wo h]
  rfl) rfl
 rcases key with⟨h1,h2⟩|⟨j,h1,h2⟩ <;> rw[h1] <;> by_cases hc:aX R C V=0 <;> simp[hc,bnd,w7] at h2 ⊢
theorem Dl {R C R' C':Int}{V V':List Nu}(h:V.length≤1000000)(h':V'.length≤1000000):b9 [mS R C V,mS R' C' V']=some (decide (aX R C V=0)&&decide (aX R' C' V'=0)):=by
 unfold b9 bt bB
 have key:=Bt (b:=bk [mS R C V,mS R' C' V']) (n:=2) (by decide) (fun i=>if i=0 then decide (aX R C V≠0) else decide (aX R' C' V'≠0)) (fun i hi=>by
  unfold bk j7
  have hi2:i=0∨i=1:=by omega
  rcases hi2 with rfl|rfl
  ·rw[bF _ _ (by simp),aI ⟨by simp,by simp⟩]
   show bnd (bnd (eu (mS R C V)) _) _=_
   rw[wo h]
   rfl
  ·rw[bF _ _ (by simp),aI ⟨by simp,by simp⟩]
   show bnd (bnd (eu (mS R' C' V')) _) _=_
   rw[wo h']
   rfl) rfl
 rcases key with⟨h1,h2⟩|⟨j,h1,h2⟩ <;> rw[h1] <;> by_cases hc:aX R C V=0 <;> by_cases Pd:aX R' C' V'=0 <;> simp[hc,Pd,bnd,w7] at h2 ⊢<;> omega
theorem qza6 {R C:Nat}{V:List Nu}(hV:V.length=R*C)(H3:R*C≤1000000){i k:Nat}(hi:i<R)(hk:k<C):cC (mS R C V) i k=some (nv V[i*C+k]!):=by
 have h1:=cK hi hk
 have e:(i:Int)*(C:Int)=((i*C:Nat):Int):=by exact_mod_cast rfl
 unfold cC
 dsimp only
 rw[e]
 generalize i*C=p at*
 generalize R*C=n at*
 rw[w64 (n:=(p:Int)),w64 (n:=(p:Int)+(k:Int)),bH,aI]
 simp only[ab]
 rw[show (p:Int)+(k:Int)=((p+k:Nat):Int) by omega,bh,uw]
def iQ(R C:Nat)(V:List Nu):ap×Int:=if V.all cM then (mS R C V,0) else (mZ,30)
theorem Bj {R C:Nat}(hR:R≤400)(hC:C≤400)(f:Nat→Nat→Nu)(hf:∀i k:Nat,i<R→k<C→gV (i:Int) (k:Int)=some (nv (f i k))):dc R C=some (iQ R C (mkM R C f)):=by
 have H3:R*C≤400*400:=iS hR hC
 unfold dc
 rw[qi (R:=R) (C:=C) (by omega) f (by omega) (fun i hi acc wy=>?_) (fun l=>?_)]
 ·simp only[ab]
  rw[rP (by rw[br];omega)]
  simp only[ab]
  unfold iQ
  cases (mkM R C f).all cM <;> rfl
 ·unfold dW
  dsimp only
  rw[bF _ _,qP (C:=C) (by omega) (f i) acc wy (fun k hk l=>?_) (fun l=>?_)]
  ·rfl
  ·unfold dH
   dsimp only
   rw[bF _ _,hf i k hi hk]
   rfl
  ·unfold dH
   dsimp only
   rw[bA _ _]
 ·unfold dW
  dsimp only
  rw[bA _ _]
theorem KJ {R C:Nat}{a b:ap}(hR:R≤400)(hC:C≤400)(f:Nat→Nat→Nu)(hf:∀i k:Nat,i<R→k<C→ko (i:Int) (k:Int) a b=some (nv (f i k))):lK R C a b=some (iQ R C (mkM R C f)):=by
 have H3:R*C≤400*400:=iS hR hC
 unfold lK
 rw[qi (R:=R) (C:=C) (by omega) f (by omega) (fun i hi acc wy=>?_) (fun l=>?_)]
 ·simp only[ab]
  rw[rP (by rw[br];omega)]
  simp only[ab]
  unfold iQ
  cases (mkM R C f).all cM <;> rfl
 ·unfold li
  dsimp only
  rw[bF _ _,qP (C:=C) (by omega) (f i) acc wy (fun k hk l=>?_) (fun l=>?_)]
  ·rfl
  ·unfold jM
   dsimp only
   rw[bF _ _,hf i k hi hk]
   rfl
  ·unfold jM
   dsimp only
   rw[bA _ _]
 ·unfold li
  dsimp only
  rw[bA _ _]
theorem KI {R C:Nat}{a b:ap}(hR:R≤400)(hC:C≤400)(f:Nat→Nat→Nu)(hf:∀i k:Nat,i<R→k<C→iv (i:Int) (k:Int) a b=some (nv (f i k))):kb R C a b=some (iQ R C (mkM R C f)):=by
 have H3:R*C≤400*400:=iS hR hC
 unfold kb
 rw[qi (R:=R) (C:=C) (by omega) f (by omega) (fun i hi acc wy=>?_) (fun l=>?_)]
 ·simp only[ab]
  rw[rP (by rw[br];omega)]
  simp only[ab]
  unfold iQ
  cases (mkM R C f).all cM <;> rfl
 ·unfold jQ
  dsimp only
  rw[bF _ _,qP (C:=C) (by omega) (f i) acc wy (fun k hk l=>?_) (fun l=>?_)]
  ·rfl
  ·unfold js
   dsimp only
   rw[bF _ _,hf i k hi hk]
   rfl
  ·unfold js
   dsimp only
   rw[bA _ _]
 ·unfold jQ
  dsimp only
  rw[bA _ _]
theorem Ej {R C:Nat}{a b:ap}(hR:R≤400)(hC:C≤400)(f:Nat→Nat→Nu)(hf:∀i k:Nat,i<R→k<C→gW (i:Int) (k:Int) a b=some (nv (f i k))):j9 R C a b=some (iQ R C (mkM R C f)):=by
 have H3:R*C≤400*400:=iS hR hC
 unfold j9
 rw[qi (R:=R) (C:=C) (by omega) f (by omega) (fun i hi acc wy=>?_) (fun l=>?_)]
 ·simp only[ab]
  rw[rP (by rw[br];omega)]
  simp only[ab]
  unfold iQ
  cases (mkM R C f).all cM <;> rfl
 ·unfold jO
  dsimp only
  rw[bF _ _,qP (C:=C) (by omega) (f i) acc wy (fun k hk l=>?_) (fun l=>?_)]
  ·rfl
  ·unfold jq
   dsimp only
   rw[bF _ _,hf i k hi hk]
   rfl
  ·unfold jq
   dsimp only
   rw[bA _ _]
 ·unfold jO
  dsimp only
  rw[bA _ _]
section
def idF(i k:Nat):Nu:=if i=k then nOf 1 else nOf 0
def MS(C:Nat)(A B:List Nu)(i k:Nat):Nu:=Jn A[i*C+k]! B[i*C+k]!
def In(C K:Nat)(A B:List Nu)(i k:Nat):Nat→Nu
 |0=>uG A[i*C]! B[k]!
 |j+1=>Jn (In C K A B i k j) (uG A[i*C+(j+1)]! B[(j+1)*K+k]!)
def BX(C K:Nat)(A B:List Nu)(i k:Nat):Nu:=if C=0 then nOf 0 else In C K A B i k (C - 1)
def uL(C K:Nat)(A B:List Nu)(i k:Nat):Nu:=if k<C then A[i*C+k]! else B[i*K+(k - C)]!
def B0(R C:Int)(V:List Nu):ap×Int:=if aX R C V=0 then (mS R C V,0) else (mZ,aX R C V)
def idP(n:Int):ap:=if n<0∨200<n then mZ else mS n n (mkM n.toNat n.toNat idF)
def PO(V:List Nu):ap:=(B0 V.length 1 V).1
def MR(R C:Int)(A:List Nu)(R' C':Int)(B:List Nu):ap×Int:=if aX R C A=0∧aX R' C' B=0∧R=R'∧C=C' then iQ R.toNat C.toNat (mkM R.toNat C.toNat (MS C.toNat A B)) else (mZ,1)
def Mi(R C:Int)(A:List Nu)(R' C':Int)(B:List Nu):ap×Int:=if aX R C A=0∧aX R' C' B=0∧C=R' then iQ R.toNat C'.toNat (mkM R.toNat C'.toNat (BX C.toNat C'.toNat A B)) else (mZ,1)
def Eg(R C:Int)(A:List Nu)(R' C':Int)(B:List Nu):ap×Int:=if aX R C A=0∧aX R' C' B=0∧R=R' then if 200<C+C' then (mZ,2) else iQ R.toNat (C+C').toNat (mkM R.toNat (C+C').toNat (uL C.toNat C'.toNat A B)) else (mZ,1)
theorem HW(i k:Nat):cM (idF i k)=true:=by unfold idF;split;exact of1.1;exact of0.1
theorem tP {R C:Nat}{f:Nat→Nat→Nu}(h:∀i k,i<R→k<C→cM (f i k)=true):iQ R C (mkM R C f)=(mS R C (mkM R C f),0):=by
 unfold iQ
 rw[aQ (Fu.2 h)]
theorem e_mul(i C:Nat):(i:Int)*(C:Int)=((i*C:Nat):Int):=by exact_mod_cast rfl
section
variable {A B V:List Nu} {R C R' C':Int}
theorem Qx(h:V.length≤1000000):l4 R C (V.map nv)=some (B0 R C V):=by
 unfold l4 gj B0
 rw[bH,aI h]
 simp only[ab]
 rw[wo h]
 simp only[ab]
 by_cases h0:aX R C V=0
 ·rw[bA _ _ (by simpa using h0),aQ h0]
 ·rw[bF _ _ h0,aV h0]
theorem xK {n:Int}:fS n=some (idP n):=by
 unfold fS idP
 simp only[kOr,ab]
 by_cases h:n<0∨200<n
 ·have:(decide (n<0)||decide (200<n))=true:=by simpa using h
  rw[this,aQ h];rfl
 ·have:(decide (n<0)||decide (200<n))=false:=by simpa using h
  rw[this,aV h,kF]
  obtain⟨m,rfl⟩:∃m:Nat,n=m:=⟨n.toNat,by omega⟩
  rw[Bj (R:=m) (C:=m) (by omega) (by omega) idF (fun i k hi hk=>?_),tP fun i k _ _=>HW i k]
  ·simp only[ab,bh]
  ·unfold gV idF
   by_cases e:i=k
   ·rw[bF _ _,aQ e,uOf];rfl
   ·rw[bA _ _,aV e,uOf];rfl
theorem Qy(h:V.length≤1000000):lL (V.map nv)=some (PO V):=by
 unfold lL PO
 rw[bH,Qx h];rfl
theorem P_Add(hA:A.length≤1000000)(hB:B.length≤1000000):oP (mS R C A) (mS R' C' B)=some (MR R C A R' C' B):=by
 unfold oP MR
 rw[Dl hA hB]
 simp only[ab,kOr]
 by_cases h0:aX R C A=0∧aX R' C' B=0∧R=R'∧C=C'
 ·rw[aQ h0]
  obtain⟨h1,h2,rfl,rfl⟩:=h0
  obtain⟨r,c,rfl,rfl,hm⟩:=cX.1 h1
  obtain⟨r',c',hr,hc,tU⟩:=cX.1 h2
  obtain rfl:r=r':=by omega
  obtain rfl:c=c':=by omega
  rw[h1,h2]
  have:=hm.rc
  have h3:=hm.r
  have h4:=hm.c
  have e:(!(decide ((0:Int)=0)&&decide ((0:Int)=0))||(decide ((r:Int)≠r)||decide ((c:Int)≠c)))=false:=by simp
  rw[e,kF]
  rw[KJ (by omega) (by omega) (MS c A B) (fun i k hi hk=>?_)]
  ·simp only[ab,bh]
  ·unfold ko
   rw[qza6 hm.len (by omega) hi hk,qza6 tU.len (by omega) hi hk]
   simp only[ab,uAdd]
   rfl
 ·rw[aV h0]
  have e:(!(decide (aX R C A=0)&&decide (aX R' C' B=0))||(decide (R≠R')||decide (C≠C')))=true:=by
   by_cases a:aX R C A=0
   ·by_cases b:aX R' C' B=0
    ·by_cases c:R=R'
     ·by_cases d:C=C'
      ·exact absurd ⟨a,b,c,d⟩ h0
      ·simp[d]
     ·simp[c]
    ·simp[b]
   ·simp[a]
  rw[e,kT]
theorem P_dot {r c c':Nat}(hm:MV r c A)(tU:MV c c' B){i k:Nat}(hi:i<r)(hk:k<c'):iv (i:Int) (k:Int) (mS r c A) (mS c c' B)=some (nv (BX c c' A B i k)):=by
 have h1:=hm.rc
 have h2:=tU.rc
 have h3:=hm.c
 unfold iv BX
 dsimp only
 by_cases h0:c=0
 ·rw[bF _ _,aQ h0,uOf];rfl
 ·rw[bA _ _,aV h0]
  have a0:=qza6 hm.len (by omega) hi (show 0<c by omega)
  have b0:=qza6 tU.len (by omega) (show 0<c by omega) hk
  rw[mi] at a0
  rw[gb,dA] at b0
  rw[show ((0:Int))=((0:Nat):Int) from rfl,a0,b0]
  simp only[ab,uMul]
  have:=eK (b:=gA (i:Int) (k:Int) (mS r c A) (mS c c' B)) (fun j=>((j:Int),nv (In c c' A B i k (j - 1)))) 1 c (nv (In c c' A B i k (c - 1))) (by omega) (fun j O0 GW=>?_) ?_
  ·rw[show (((1:Nat):Int),nv (In c c' A B i k (1 - 1)))=((1:Int),nv (uG A[i*c]! B[k]!)) from rfl] at this
   rw[this];rfl
  ·unfold gA
   dsimp only
   rw[bF _ _,qza6 hm.len (by omega) hi GW,qza6 tU.len (by omega) GW hk]
   simp only[ab,uMul,uAdd]
   rw[w64]
   obtain⟨m,rfl⟩:∃m,j=m+1:=⟨j - 1,by omega⟩
   rfl
  ·unfold gA
   dsimp only
   rw[bA _ _]
theorem P_Mul(hA:A.length≤1000000)(hB:B.length≤1000000):oO (mS R C A) (mS R' C' B)=some (Mi R C A R' C' B):=by
 unfold oO Mi
 rw[Dl hA hB]
 simp only[ab,kOr]
 by_cases h0:aX R C A=0∧aX R' C' B=0∧C=R'
 ·rw[aQ h0]
  obtain⟨h1,h2,rfl⟩:=h0
  obtain⟨r,c,rfl,rfl,hm⟩:=cX.1 h1
  obtain⟨r',c',hr,rfl,tU⟩:=cX.1 h2
  obtain rfl:c=r':=by omega
  rw[h1,h2]
  have h3:=hm.r
  have h4:=tU.c
  have e:(!(decide ((0:Int)=0)&&decide ((0:Int)=0))||decide ((c:Int)≠c))=false:=by simp
  rw[e,kF]
  rw[KI (by omega) (by omega) (BX c c' A B) (fun i k hi hk=>P_dot hm tU hi hk)]
  simp only[ab,bh]
 ·rw[aV h0]
  have e:(!(decide (aX R C A=0)&&decide (aX R' C' B=0))||decide (C≠R'))=true:=by
   by_cases a:aX R C A=0
   ·by_cases b:aX R' C' B=0
    ·by_cases c:C=R'
     ·exact absurd ⟨a,b,c⟩ h0
     ·simp[c]
    ·simp[b]
   ·simp[a]
  rw[e,kT]
theorem Dp(hA:A.length≤1000000)(hB:B.length≤1000000):gR (mS R C A) (mS R' C' B)=some (Eg R C A R' C' B):=by
 unfold gR Eg
 rw[Dl hA hB]
 simp only[ab,kOr]
 by_cases h0:aX R C A=0∧aX R' C' B=0∧R=R'
 ·rw[aQ h0]
  obtain⟨h1,h2,rfl⟩:=h0
  obtain⟨r,c,rfl,rfl,hm⟩:=cX.1 h1
  obtain⟨r',c',hr,rfl,tU⟩:=cX.1 h2
  obtain rfl:r=r':=by omega
  rw[h1,h2]
  have h3:=hm.r
  have h4:=hm.c
  have h5:=tU.c
  have h6:=hm.rc
  have h7:=tU.rc
  have e:(!(decide ((0:Int)=0)&&decide ((0:Int)=0))||decide ((r:Int)≠r))=false:=by simp
  rw[e,kF,w64]
  by_cases hc:(200:Int)<(c:Int)+c'
  ·rw[bF _ _ hc,aQ hc]
  ·rw[bA _ _ hc,aV hc,show ((c:Int)+(c':Int))=((c+c':Nat):Int) by omega]
   rw[Ej (by omega) (by omega) (uL c c' A B) (fun i k hi hk=>?_)]
   ·simp only[ab,bh]
   ·unfold gW uL
    dsimp only
    by_cases D1:k<c
    ·rw[bF _ _,aQ D1,qza6 hm.len (by omega) hi D1];rfl
    ·rw[bA _ _,aV D1,w64,show (k:Int) - (c:Int)=((k - c:Nat):Int) by omega,qza6 tU.len (by omega) hi (by omega)];rfl
 ·rw[aV h0]
  have e:(!(decide (aX R C A=0)&&decide (aX R' C' B=0))||decide (R≠R'))=true:=by
   by_cases a:aX R C A=0
   ·by_cases b:aX R' C' B=0
    ·by_cases c:R=R'
     ·exact absurd ⟨a,b,c⟩ h0
     ·simp[c]
    ·simp[b]
   ·simp[a]
  rw[e,kT]
end
end
section
abbrev fnd(p:ap×Int):bp:=⟨p.1,p.2⟩
theorem wix {i c k:Nat}(h:i*c+k≤1000000:=by omega):i64.wrap (i64.wrap ((i:Int)*(c:Int))+(k:Int))=((i*c+k:Nat):Int):=by
 rw[e_mul]
 generalize i*c=p at*
 rw[w64 (n:=(p:Int)),w64];omega
theorem wim {i c:Nat}(h:i*c≤1000000:=by omega):i64.wrap ((i:Int)*(c:Int))=((i*c:Nat):Int):=by
 rw[e_mul]
 generalize i*c=p at*
 rw[w64]
theorem BQ {r c i j pos:Nat}{g g':Nat→Nat→Nu}{x:Nu}(hi:i<r)(hj:j<c)(hp:pos=i*c+j)(h:∀a b,a<r→b<c→(if a=i∧b=j then x else g a b)=g' a b):((mkM r c g).map nv).set pos (nv x)=(mkM r c g').map nv:=by
 rw[←List.map_set,hp,mkM_set hi hj,n6 h]
def ut(c t:Nat)(f:Nat→Nat→Nu)(i j:Nat):Nu:=if i*c+j<t then f i j else nOf 0
theorem zH {r c i j:Nat}{f:Nat→Nat→Nu}(hi:i<r)(hj:j<c):((mkM r c (ut c (i*c+j) f)).map nv).set (i*c+j) (nv (f i j))=(mkM r c (ut c (i*c+j+1) f)).map nv:=by
 refine BQ hi hj rfl fun a b ha hb=>?_
 unfold ut
 by_cases h:a=i∧b=j
 ·obtain⟨rfl,rfl⟩:=h
  rw[aQ ⟨rfl,rfl⟩,ifp_]
 ·rw[aV h]
  have:a*c+b≠i*c+j:=fun e=>h (Ex hb hj e)
  by_cases h2:a*c+b<i*c+j
  ·rw[aQ h2,ifp_]
  ·rw[aV h2,ifn_]
theorem Jj {r c:Nat}{f:Nat→Nat→Nu}:mkM r c (fun _ _=>nOf 0)=mkM r c (ut c 0 f):=n6 fun a b _ _=>by unfold ut;rw[ifn_]
theorem BU {r c:Nat}{f:Nat→Nat→Nu}:mkM r c (ut c (r*c) f)=mkM r c f:=n6 fun a b ha hb=>by unfold ut;rw[aQ (cK ha hb)]
section
variable {A B V:List Nu} {R C R' C':Int}
theorem Qs(h:V.length≤1000000):mR (V.map nv)=some (V.all cM):=by
 unfold mR
 rw[Jq (b:=lG (V.map nv)) (n:=V.length) h (fun i=>cM V[i]!) (fun i hi=>by
  unfold lG
  rw[bH,bF _ _,aI,bh,uw hi,tGood]
  rfl) (by
  unfold lG
  rw[bH,bA _ _])]
 rw[LF V cM]
 cases V.all cM <;> rfl
theorem GK(h:V.length≤1000000):jD (mS R C V)=some (aX R C V):=by
 rw[←wo h]
 unfold jD eu
 dsimp only
 rw[Qs h,rP h]
theorem qd(h:V.length≤1000000):bY (mS R C V)=some (decide (aX R C V=0)):=by
 unfold bY
 rw[GK h];rfl
theorem wn(h:V.length≤1000000){r c:Nat}:fK (mS r c V)=some (fnd (iQ r c V)):=by
 unfold fK iQ
 rw[Qs h]
 simp only[ab]
 cases V.all cM <;> rfl
theorem GJ {r c:Nat}(hr:r≤400)(hc:c≤400):bf (fY (r:Int) (c:Int)) ((0:Int),([]:List aj))=some ((mkM r c fun _ _=>nOf 0).map nv):=by
 have H3:r*c≤400*400:=iS hr hc
 rw[Od]
 have:=qP (b:=fY (r:Int) (c:Int)) (C:=r*c) (by omega) (fun _=>nOf 0) [] (by simp;omega) (fun k hk l=>?_) (fun l=>?_)
 ·rw[pB,List.map_const',Gv] at this
  exact this
 ·unfold fY
  dsimp only
  rw[wim,bF _ _,tOf];rfl
 ·unfold fY
  dsimp only
  rw[wim,bA _ _]
theorem Dj {r c:Nat}(hr:r≤400)(hc:c≤400):ib (r:Int) (c:Int)=some (mS r c (mkM r c fun _ _=>nOf 0)):=by
 unfold ib
 rw[GJ hr hc];rfl
theorem qza5 {r c:Nat}(hr:r≤400)(hc:c≤400)(h0:0<r*c):et (r:Int) (c:Int)=some (mS r c (mkM r c fun _ _=>nOf 0)):=by
 unfold et
 rw[show mf=fY from rfl,GJ hr hc]
 simp only[ab]
 rw[aI (by rw[bH,br];exact h0)]
theorem tz {r c:Nat}(hr:r≤400)(hc:c≤400)(h0:r*c=0):et (r:Int) (c:Int)=none:=by
 unfold et
 rw[show mf=fY from rfl,GJ hr hc]
 simp only[ab]
 exact aV (by rw[bH,br];omega)
theorem mk0 {α:Type}{r c:Nat}{f g:Nat→Nat→α}(h0:r*c=0):mkM r c f=mkM r c g:=by
 rw[kL (l:=mkM r c f) (by rw[br];exact h0),kL (l:=mkM r c g) (by rw[br];exact h0)]
end
end
section
section
variable {A B V:List Nu} {R C R' C':Int}
theorem Q_dot {r c c':Nat}(hm:MV r c A)(tU:MV c c' B){i k:Nat}(hi:i<r)(hk:k<c'):n9 (mS r c A) (i:Int) (mS c c' B) (k:Int)=some (nv (BX c c' A B i k)):=by
 have h1:=hm.rc
 have h2:=tU.rc
 have h3:=hm.c
 have la:=hm.len
 have lb:=tU.len
 unfold n9 BX
 dsimp only
 by_cases h0:c=0
 ·rw[bF _ _,aQ h0,tOf];rfl
 ·rw[bA _ _,aV h0]
  have a0:=cK hi (show 0<c by omega)
  have b0:=cK (show 0<c by omega) hk
  rw[mi] at a0
  rw[gb,dA] at b0
  rw[wim,bH,bH,aI,aI,bh,bh,uw,uw,tMul]
  simp only[ab]
  have:=eK (b:=lH (mS r c A) (i:Int) (mS c c' B) (k:Int)) (fun j=>((j:Int),nv (In c c' A B i k (j - 1)))) 1 c (nv (In c c' A B i k (c - 1))) (by omega) (fun j O0 GW=>?_) ?_
  ·rw[show (((1:Nat):Int),nv (In c c' A B i k (1 - 1)))=((1:Int),nv (uG A[i*c]! B[k]!)) from rfl] at this
   rw[this];rfl
  ·unfold lH
   dsimp only
   have a1:=cK hi GW
   have b1:=cK GW hk
   rw[bF _ _,wix,wix,bH,bH,aI,aI,bh,bh,uw,uw,tMul]
   simp only[ab,tAdd]
   rw[w64]
   obtain⟨m,rfl⟩:∃m,j=m+1:=⟨j - 1,by omega⟩
   rfl
  ·unfold lH
   dsimp only
   rw[bA _ _]
theorem Q_Mul(hA:A.length≤1000000)(hB:B.length≤1000000):sf (mS R C A) (mS R' C' B)=some (fnd (Mi R C A R' C' B)):=by
 unfold sf p7 p8 Mi
 rw[qd hA,qd hB]
 simp only[ab,kOr]
 by_cases h0:aX R C A=0∧aX R' C' B=0∧C=R'
 ·rw[aQ h0]
  obtain⟨h1,h2,rfl⟩:=h0
  obtain⟨r,c,rfl,rfl,hm⟩:=cX.1 h1
  obtain⟨r',c',hr,rfl,tU⟩:=cX.1 h2
  obtain rfl:c=r':=by omega
  rw[h1,h2]
  have h3:=hm.r
  have h4:=tU.c
  have H3:r*c'≤200*200:=iS h3 h4
  have e:(!decide ((0:Int)=0)||(!decide ((0:Int)=0)||decide ((c:Int)≠c)))=false:=by simp
  rw[e,kF,kF]
  simp only[bh]
  rcases kN (r*c') with hz|hz
  ·rw[tz (by omega) (by omega) hz,Dj (by omega) (by omega)]
   show orO none _=_
   simp only[ab]
   have key:=eK (b:=je (mS r c A) (mS c c' B) (mS r c' (mkM r c' fun _ _=>nOf 0))) (fun i=>(i:Int)) 0 r () (fH _) (fun i _ hi=>?_) ?_
   ·rw[show (((0:Nat):Int))=0 from rfl] at key
    rw[key]
    simp only[ab]
    rw[wn (by rw[br];omega),mk0 (g:=BX c c' A B) hz];rfl
   ·unfold je
    dsimp only
    have hc0:c'=0:=by
     rcases Nat.mul_eq_zero.1 hz with h|h
     ·omega
     ·exact h
    rw[bF _ _,eF (x:=()) (by unfold oL;rw[bA _ _ (show ¬(0:Int)<(c':Int) by omega)])]
    simp only[ab]
    rw[w64];rfl
   ·unfold je
    dsimp only
    rw[bA _ _]
  ·rw[qza5 (by omega) (by omega) hz]
   simp only[ab]
   have key:=eK (b:=jd (mS r c A) (mS c c' B) (mS r c' (mkM r c' fun _ _=>nOf 0))) (fun i=>((i:Int),(mkM r c' (ut c' (i*c') (BX c c' A B))).map nv)) 0 r ((mkM r c' (BX c c' A B)).map nv) (fH _) (fun i _ hi=>?_) ?_
   ·rw[gb,←Jj] at key
    rw[show (((0:Nat):Int))=0 from rfl] at key
    rw[key]
    simp only[ab]
    rw[aI (by simp[br]),wn (by rw[br];omega)]
    rfl
   ·unfold jd
    dsimp only
    rw[bF _ _]
    have inner:=eK (b:=jc (mS r c A) (mS c c' B) (mS r c' (mkM r c' fun _ _=>nOf 0)) (i:Int)) (fun k=>((k:Int),(mkM r c' (ut c' (i*c'+k) (BX c c' A B))).map nv)) 0 c' ((mkM r c' (ut c' (i*c'+c') (BX c c' A B))).map nv) (fH _) (fun k _ hk=>?_) ?_
    ·rw[mi,show (((0:Nat):Int))=0 from rfl] at inner
     rw[inner]
     simp only[ab]
     rw[w64,←qu];rfl
    ·unfold jc
     dsimp only
     have h5:=cK hi hk
     rw[bF _ _,Q_dot hm tU hi hk]
     simp only[ab]
     rw[wix,aI ⟨by omega,by rw[bH,br];omega,by rw[bH,br];omega⟩,bh,zH hi hk,w64]
     rfl
    ·unfold jc
     dsimp only
     rw[bA _ _]
   ·unfold jd
    dsimp only
    rw[bA _ _,BU]
 ·rw[aV h0]
  have e:(!decide (aX R C A=0)||(!decide (aX R' C' B=0)||decide (C≠R')))=true:=by
   by_cases a:aX R C A=0
   ·by_cases b:aX R' C' B=0
    ·by_cases c:C=R'
     ·exact absurd ⟨a,b,c⟩ h0
     ·simp[c]
    ·simp[b]
   ·simp[a]
  rw[e,kT];rfl
theorem MV.gd {r c:Nat}(hm:MV r c A){t:Nat}(h:t<r*c):cM A[t]! =true:=good_at hm.good (by rw[hm.len];exact h)
theorem P3 {r c c':Nat}(hm:MV r c A)(tU:MV r c' B):iQ r (c+c') (mkM r (c+c') (uL c c' A B))=(mS r ((c+c':Nat):Int) (mkM r (c+c') (uL c c' A B)),0):=tP fun i k hi hk=>by
 unfold uL
 split
 ·rename_i h;exact hm.gd (cK hi h)
 ·exact tU.gd (cK hi (by omega))
theorem rowE {r c:Nat}(hA:A.length=r*c){i:Nat}(hi:i<r):(A.drop (i*c)).take c=(List.range c).map fun k=>A[i*c+k]! :=by
 conv=>lhs;rw[mkM_of hA]
 exact mkM_row hi
theorem bes_row {r c c':Nat}(hA:A.length=r*c)(hB:B.length=r*c'){i:Nat}(hi:i<r):(List.range (c+c')).map (uL c c' A B i)=(A.drop (i*c)).take c++(B.drop (i*c')).take c':=by
 rw[rowE hA hi,rowE hB hi,List.range_add,nd,qza3]
 congr 1
 ·exact oY fun k hk=>aQ (AO.1 hk)
 ·refine oY fun k hk=>?_
  show uL c c' A B i (c+k)=_
  unfold uL
  rw[ifn_,C2]
theorem Qw(hA:A.length≤1000000)(hB:B.length≤1000000):mB (mS R C A) (mS R' C' B)=some (fnd (Eg R C A R' C' B)):=by
 unfold mB Eg
 rw[qd hA,qd hB]
 simp only[ab,kOr]
 by_cases h0:aX R C A=0∧aX R' C' B=0∧R=R'
 ·rw[aQ h0]
  obtain⟨h1,h2,rfl⟩:=h0
  obtain⟨r,c,rfl,rfl,hm⟩:=cX.1 h1
  obtain⟨r',c',hr,rfl,tU⟩:=cX.1 h2
  obtain rfl:r=r':=by omega
  rw[h1,h2]
  have h3:=hm.r
  have h4:=hm.c
  have h5:=tU.c
  have h6:=hm.rc
  have h7:=tU.rc
  have la:=hm.len
  have lb:=tU.len
  have e:(!decide ((0:Int)=0)||(!decide ((0:Int)=0)||decide ((r:Int)≠r)))=false:=by simp
  rw[e,kF,w64]
  by_cases hc:(200:Int)<(c:Int)+c'
  ·rw[bF _ _ hc,aQ hc]
  ·rw[bA _ _ hc,aV hc,show ((c:Int)+(c':Int))=((c+c':Nat):Int) by omega]
   simp only[bh]
   rw[P3 hm tU]
   have hrcc:r*(c+c')≤200*200:=iS h3 (by omega)
   have key:=eK (b:=iy (mS r c A) (mS r c' B)) (fun i=>((i:Int),(mkM i (c+c') (uL c c' A B)).map nv)) 0 r ((mkM r (c+c') (uL c c' A B)).map nv) (fH _) (fun i _ hi=>?_) ?_
   ·rw[show (((0:Nat):Int),(mkM 0 (c+c') (uL c c' A B)).map nv)=((0:Int),([]:List aj)) from rfl] at key
    rw[key];rfl
   ·unfold iy
    dsimp only
    have a1:(i+1)*c≤r*c:=c6 _ hi
    have b1:(i+1)*c'≤r*c':=c6 _ hi
    have a2:(i+1)*c=i*c+c:=qu ..
    have b2:(i+1)*c'=i*c'+c':=qu ..
    have a3:(i+1)*(c+c')≤r*(c+c'):=c6 _ hi
    have a4:(i+1)*(c+c')=i*(c+c')+(c+c'):=qu ..
    have w1:i64.wrap ((i:Int)+(1:Int))=((i+1:Nat):Int):=w64
    rw[bF _ _,w1,wim,wim,wim,wim,bH,bH]
    have sA:rR (A.map nv) ((i*c:Nat):Int) (((i+1)*c:Nat):Int)=((A.drop (i*c)).take c).map nv:=by
     unfold rR
     rw[bh,show ((((i+1)*c:Nat):Int) - ((i*c:Nat):Int)).toNat=c by rw[a2];omega,←vn,←ub]
    have sB:rR (B.map nv) ((i*c':Nat):Int) (((i+1)*c':Nat):Int)=((B.drop (i*c')).take c').map nv:=by
     unfold rR
     rw[bh,show ((((i+1)*c':Nat):Int) - ((i*c':Nat):Int)).toNat=c' by rw[b2];omega,←vn,←ub]
    rw[sA,sB,←nd,←nd]
    have l1:((A.drop (i*c)).take c).length≤c:=by rw[ff];omega
    have l2:((B.drop (i*c')).take c').length≤c':=by rw[ff];omega
    have l3:(mkM i (c+c') (uL c c' A B)).length=i*(c+c'):=br
    rw[aI,aI (by rw[bH,fg];omega),aI,aI (by rw[bH,fg,fg];omega)]
    rw[gr,←bes_row la lb hi,←yp]
   ·unfold iy
    dsimp only
    rw[bA _ _]
 ·rw[aV h0]
  have e:(!decide (aX R C A=0)||(!decide (aX R' C' B=0)||decide (R≠R')))=true:=by
   by_cases a:aX R C A=0
   ·by_cases b:aX R' C' B=0
    ·by_cases c:R=R'
     ·exact absurd ⟨a,b,c⟩ h0
     ·simp[c]
    ·simp[b]
   ·simp[a]
  rw[e,kT]
end
end
def eV(bm:ee):(List Int)×Int→Option (((List Int)×Int)⊕((List Int))):=fun (aL,a6)=>cnd (decide (a6<((bm.vl).length:Int))) (gd (0≤a6∧a6<((bm.vl).length:Int)) (gd ((aL++[((bm.vl)[(a6).toNat]!).vcol]).length*8≤140737488355328) (some (.inl (aL++[((bm.vl)[(a6).toNat]!).vcol],i64.wrap (a6+(1:Int))))))) (some (.inr aL))
def cR(bm:ee):Option (List Int):=bnd (bf (eV bm) (([]:List Int),(0:Int))) fun aD=>some aD
theorem l6 {bm:ee}{r:List Int}(h:cR bm=some r):aB prog 64 [dG qZ bm] (.own 3 (cI .i64).sz r.length (r.flatMap (cI .i64).f)):=by
 refine bC (rs:=[.tmp 2]) (fun cx hx h0=>?_) func64
 unfold cR at h
 refine rs hx fun K hK=>?_
 refine s1 (d:=.pt 0 0) d8 ?_
 refine s1 (d:=dO 1 (cI .i64) ([]:List Int)) (eZ cz aT) ?_
 refine .nil (hK _ _ (rs hx fun K hK=>?_))
 refine s1 (d:=dO 2 (cI .i64) ([]:List Int)) (eZ cz aT) ?_
 refine .nil (hK _ _ (AW.seq (rs hx fun K hK=>?_)))
 refine sa ?_
 refine s1 (aG um) ?_
 iterate 2 refine sa ?_
 refine .nil (hK _ _ (AW.block ?_))
 obtain⟨aD,hy,h⟩:=ah h
 refine lp (S:=(List Int)×Int) (X:=(List Int)) (fun (aL,a6)=>[(3,dO 0 (cI .i64) aL),(7,dL cv bm.vl),(8,dI .i64 ((bm.vl).length:Int)),(9,dI .i64 a6)]) (fun (aL,a6)=>⟨[],[(0,(aL).length,1,3)],1⟩) (PE cx (.exit 0) (fun aD=>[(3,dO 0 (cI .i64) aD)]) fun aD=>⟨[],[(0,(aD).length,1,3)],1⟩) hy ?_ ?_ ?_
 exact wk h0 [2] (wR rfl (wR rfl (wR rfl (wR rfl wTn)))) wVn (wL rfl rfl wLn)
 clear hy h
 rintro⟨aL,a6⟩ y h
 dsimp only[eV] at h
 refine ra hx ?_
 refine AW.seq (cdh h rfl (fun cE h=>?_) (fun cE h=>?_))
 refine AW.skip (AW.seq (AW.block (rs hx fun K hK=>?_)))
 obtain⟨pg,h⟩:=az h
 have rz:(a6).toNat<(bm.vl).length:=by omega
 refine s1 (ej pg um jS) ?_
 refine s1 (d:=dG cv ((bm.vl)[(a6).toNat]!)) (jI (c:=cv) (l:=bm.vl) (n:=(a6).toNat) (o:=0) jS rz (eM _ _ rfl)) ?_
 refine s1 (bq (F:=cv.f (⟨(0:Int),cb,false⟩:nN)) jS) ?_
 refine s0 (aN (b':=(bm.vl)[(a6).toNat]!) (ao.id _ _) jS) ?_
 refine .nil (hK _ _ (rq hx fun K hK=>?_))
 iterate 2 refine sa ?_
 refine s1 (bg (DX ((bm.vl)[(a6).toNat]!)) aT) ?_
 refine s1 (d:=dO 2 (cI .i64) [((bm.vl)[(a6).toNat]!).vcol]) (iI cz aT) ?_
 obtain⟨Bv,h⟩:=az h
 refine s1 (d:=dO 0 (cI .i64) (aL++[((bm.vl)[(a6).toNat]!).vcol])) (gc cz aT Bv) ?_
 refine sa ?_
 refine .nil (hK _ _ (rb hx ?_))
 cases h
 exact PS.l (pe0 h0 [0])
 refine AW.exit ?_
 try dsimp only
 try simp only[aO,reduceIte,Nat.reduceEqDiff,reduceCtorEq]
 cases h
 exact PS.r ⟨by nofun,PE.i (wk h0 [0] (wR rfl wTn) wVn (wL rfl rfl wLn))⟩
 rintro ex tm' hp' ⟨rfl,hw⟩
 try dsimp only
 try simp only[aO,reduceIte,Nat.reduceEqDiff,reduceCtorEq]
 refine AW.weak hw (ra hx ?_)
 refine AW.ret ?_
 cases h
 exact dh.own rfl rfl
def i2(cQ:ap):Option (ap×(List Int)×Int):=bnd (b9 [cQ]) fun x1=>cnd (!x1) (some ((⟨(0:Int),(0:Int),([]:List aj)⟩:ap),([]:List Int),(1:Int))) (bnd (e9 cQ) fun x4=>cnd (decide (x4.2≠(0:Int))) (some ((⟨(0:Int),(0:Int),([]:List aj)⟩:ap),([]:List Int),x4.2)) (bnd (cR x4.1) fun x7=>some (x4.1.vm,x7,(0:Int))))
theorem uk {cQ:ap}{r:ap×(List Int)×Int}(h:i2 cQ=some r):aB prog 13 [dG aE cQ] (.tu [dG aE r.1,dL (cI .i64) r.2.1,dI .i64 r.2.2]):=by
 refine bC (rs:=[.cell 2 24,.tmp 3,.tmp 4]) (fun cx hx h0=>?_) func13
 unfold i2 at h
 refine rs hx fun K hK=>?_
 refine s1 (d:=.pt 0 0) d8 ?_
 refine s1 (d:=.pt 1 0) (bc aq) ?_
 refine s1 (d:=dO 2 (cI .i64) ([]:List Int)) (eZ cz aT) ?_
 refine sa ?_
 refine .nil (hK _ _ (AW.seq (rs hx fun K hK=>?_)))
 refine s1 (d:=dG aE cQ) (bb aq) ?_
 refine s1 (d:=dO 3 aE [cQ]) (iI pH aq) ?_
 refine scb h ep fun x1 h=>?_
 refine sa ?_
 refine .nil (hK _ _ (cdh h rfl (fun a8 h=>?_) (fun a8 h=>?_)))
 refine rs hx fun K hK=>?_
 refine s1 (d:=.ag [dI .i64 (0:Int),dI .i64 (0:Int),dN]) (bE aq) ?_
 refine s0 (bO (ds':=[dI .i64 (0:Int),dI .i64 (0:Int),dN]) aq) ?_
 refine s1 (d:=dO 4 (cI .i64) ([]:List Int)) (eZ cz aT) ?_
 refine sa ?_
 refine .nil (hK _ _ (AW.ret ?_))
 cases h
 exact dh.mk3 (bJ (es:=[dI .i64 (0:Int),dI .i64 (0:Int),dN]) rfl aq rfl rfl (ltb rfl) (leb rfl) rfl (ci rfl (ci rfl (.inr ⟨_,_,_,(eA (wc (co _) (wc (co _) (wc (nT rfl) wcn)))),(sd _),(al _),⟨rfl,rfl,rfl⟩,rfl⟩))))
 refine AW.skip (rs hx fun K hK=>?_)
 refine s1 (d:=dG aE cQ) (bb aq) ?_
 refine scb h nI fun x4 h=>?_
 iterate 3 refine sa ?_
 refine s1 (d:=.pt 4 0) (bc ly) ?_
 refine s0 (bO (ds':=[dI .i64 x4.1.vm.vR,dI .i64 x4.1.vm.vC,dL ae x4.1.vm.vV,dL cv x4.1.vl]) ly) ?_
 refine sa ?_
 refine .nil (hK _ _ (AW.seq (ra hx ?_)))
 refine cdh h rfl (fun bU h=>?_) (fun bU h=>?_)
 refine rs hx fun K hK=>?_
 refine s1 (d:=.ag [dI .i64 (0:Int),dI .i64 (0:Int),dN]) (bE aq) ?_
 refine sa ?_
 refine s0 (bO (ds':=[dI .i64 (0:Int),dI .i64 (0:Int),dN]) aq) ?_
 refine s1 (d:=dO 5 (cI .i64) ([]:List Int)) (eZ cz aT) ?_
 refine sa ?_
 refine .nil (hK _ _ (AW.ret ?_))
 cases h
 exact dh.mk3 (bJ (es:=[dI .i64 (0:Int),dI .i64 (0:Int),dN]) rfl aq rfl rfl (ltb rfl) (leb rfl) rfl (ci rfl (ci rfl (.inr ⟨_,_,_,(eA (wc (co _) (wc (co _) (wc (nT rfl) wcn)))),(sd _),(al _),⟨rfl,rfl,rfl⟩,rfl⟩))))
 refine AW.skip (rsd [] hx fun K hK=>?_)
 refine sa ?_
 refine s1 (d:=dG aE x4.1.vm) (bb aq) ?_
 refine s1 (d:=dG qZ x4.1) (bb ly) ?_
 obtain⟨x7,xn,h⟩:=ah h
 refine s1 (BA rfl (l6 xn) (by simp only[bN,cl,cF,cZ,ck,cr];exact aM _ _) (lA (al _) lAn)) ?_
 refine s0 (bO (ds':=[dI .i64 x4.1.vm.vR,dI .i64 x4.1.vm.vC,dL ae x4.1.vm.vV]) aq) ?_
 iterate 2 refine sa ?_
 refine .nil (hK _ _ (AW.ret ?_))
 cases h
 exact dh.mk3 (bJ (es:=(aE.f x4.1.vm).map .e) rfl aq rfl rfl (ltb rfl) (leb rfl) rfl (ci rfl (ci rfl (.inr ⟨_,_,_,(al _),(sd _),(al _),⟨rfl,rfl,rfl⟩,rfl⟩))))
def kj(x8:ee×Int):Int×Int→Option ((Int×Int)⊕Int):=fun (sv,rL)=>cnd (decide (rL<((x8.1.vl).length:Int))) (bnd (S:=Int) (gd (0≤rL∧rL<((x8.1.vl).length:Int)) (cnd (((x8.1.vl)[(rL).toNat]!).vmoved) (some (i64.wrap (0 - sv))) (some (sv)))) fun su=>some (.inl (su,i64.wrap (rL+(1:Int))))) (some (.inr sv))
def kg(x8:ee×Int):Int×aj→Option ((Int×aj)⊕aj):=fun (ss,C7)=>cnd (decide (ss<((x8.1.vl).length:Int))) (gd (0≤ss∧ss<((x8.1.vl).length:Int)) (bnd (eO C7 (((x8.1.vl)[(ss).toNat]!).vby)) fun uC=>some (.inl (i64.wrap (ss+(1:Int)),uC)))) (some (.inr C7))
def m4(cQ:ap):Option (aj×Int):=bnd (S:=Bool) (bnd (b9 [cQ]) fun x1=>cnd (!x1) (some (true)) (some (decide (cQ.vR≠cQ.vC)))) fun a7=>cnd a7 (bnd (some ((⟨(⟨false,false,(cw)⟩:ay),(⟨false,false,(cw)⟩:ay)⟩:aj))) fun x6=>some (x6,(1:Int))) (bnd (e9 cQ) fun x8=>cnd (decide (x8.2≠(0:Int))) (bnd (some ((⟨(⟨false,false,(cw)⟩:ay),(⟨false,false,(cw)⟩:ay)⟩:aj))) fun qx=>some (qx,x8.2)) (cnd (decide (((x8.1.vl).length:Int)<cQ.vR)) (bnd (fk (0:Int)) fun og=>some (og,(0:Int))) (bnd (bf (kj x8) ((1:Int),(0:Int))) fun yP=>bnd (fk yP) fun rQ=>bnd (bf (kg x8) ((0:Int),rQ)) fun qV=>bnd (cu qV) fun KP=>cnd (!KP) (bnd (some ((⟨(⟨false,false,(cw)⟩:ay),(⟨false,false,(cw)⟩:ay)⟩:aj))) fun ze=>some (ze,(30:Int))) (some (qV,(0:Int))))))
theorem yc {cQ:ap}{r:aj×Int}(h:m4 cQ=some r):aB prog 16 [dG aE cQ] (.tu [dG ae r.1,dI .i64 r.2]):=by
 refine bC (rs:=[.cell 2 34,.tmp 3]) (fun cx hx h0=>?_) func16
 unfold m4 at h
 refine rs hx fun K hK=>?_
 refine s1 (d:=.pt 0 0) d8 ?_
 refine s1 (bq (F:=ae.f cb) ax) ?_
 refine sa ?_
 refine .nil (hK _ _ ?_)
 iterate 2 refine AW.seq ?_
 obtain⟨a7,hy,h⟩:=ah h
 refine jn ((PE cx .normal (fun a7=>[(1,.pt 0 0),(2,.pt 1 0),(22,dB a7)]) fun a7=>⟨[(0,[dI .i64 cQ.vR,dI .i64 cQ.vC,dL ae cQ.vV]),(1,dC (ae.f cb))],[],2⟩) a7) ?_ ?_
 replace h:=hy
 refine rq hx fun K hK=>?_
 refine s1 (d:=dG aE cQ) (bb aq) ?_
 refine s1 (d:=dO 2 aE [cQ]) (iI pH aq) ?_
 refine scb h ep fun x1 h=>?_
 iterate 2 refine sa ?_
 rcases aW (!x1) with a8|a8
 replace h:=aY a8 h
 iterate 5 refine aJ rfl rfl a8 ?_
 refine s1 (am a8) ?_
 refine .nil (hK _ _ ?_)
 cases h
 exact pe0 h0 [0,1]
 replace h:=aZ a8 h
 refine ga a8 ?_
 refine g1 a8 (aG aT) ?_
 refine ga a8 ?_
 refine g1 a8 (aG aT) ?_
 refine ga a8 ?_
 refine s1 (au a8) ?_
 refine .nil (hK _ _ ?_)
 cases h
 exact pe0 h0 [0,1]
 rintro ex tm' hp' ⟨rfl,hw⟩
 refine AW.weak hw (cdh h rfl (fun iO h=>?_) (fun iO h=>?_))
 refine rs hx fun K hK=>?_
 refine s1 (d:=dG ae cb) (iH (FL.nil _) ax) ?_
 obtain⟨x6,td,h⟩:=ah h
 replace td:=cP td
 refine s0 (kD (b':=cb) (ao.id _ _) ax td) ?_
 refine sa ?_
 refine .nil (hK _ _ (AW.ret ?_))
 cases h
 exact rv2
 refine AW.skip (rs hx fun K hK=>?_)
 refine s1 (d:=dG aE cQ) (bb aq) ?_
 refine scb h nI fun x8 h=>?_
 iterate 3 refine sa ?_
 refine s1 (d:=.pt 2 0) (bc ly) ?_
 refine s0 (bO (ds':=[dI .i64 x8.1.vm.vR,dI .i64 x8.1.vm.vC,dL ae x8.1.vm.vV,dL cv x8.1.vl]) ly) ?_
 refine sa ?_
 refine .nil (hK _ _ (AW.seq (AW.block (ra hx ?_))))
 refine cdh h rfl (fun eH h=>?_) (fun eH h=>?_)
 refine rs hx fun K hK=>?_
 refine s1 (d:=dG ae cb) (iH (FL.nil _) ax) ?_
 refine sa ?_
 obtain⟨qx,FE,h⟩:=ah h
 replace FE:=cP FE
 refine s0 (kD (b':=cb) (ao.id _ _) ax FE) ?_
 refine sa ?_
 refine .nil (hK _ _ (AW.ret ?_))
 cases h
 exact rv2
 refine rs hx fun K hK=>?_
 refine sa ?_
 refine s1 (aG um) ?_
 iterate 2 refine sa ?_
 refine s1 (aG aT) ?_
 iterate 2 refine sa ?_
 refine .nil (hK _ _ (cdh h rfl (fun xu h=>?_) (fun xu h=>?_)))
 refine rs hx fun K hK=>?_
 refine scb h jA fun og h=>?_
 refine s0 (aN (b':=og) (ao.id _ _) ax) ?_
 refine sa ?_
 refine .nil (hK _ _ (AW.ret ?_))
 cases h
 exact rv2
 refine AW.skip (ra hx ?_)
 refine AW.seq (rs hx fun K hK=>?_)
 refine sa ?_
 refine s1 (aG um) ?_
 iterate 2 refine sa ?_
 refine .nil (hK _ _ (AW.block ?_))
 obtain⟨yP,hy,h⟩:=ah h
 refine lp (S:=Int×Int) (X:=Int) (fun (sv,rL)=>[(2,.pt 0 0),(4,.pt 1 0),(6,dI .i64 sv),(43,dL cv x8.1.vl),(44,dI .i64 ((x8.1.vl).length:Int)),(45,dI .i64 rL)]) (fun (sv,rL)=>⟨[(0,dC (ae.f cb)),(1,[dI .i64 x8.1.vm.vR,dI .i64 x8.1.vm.vC,dL ae x8.1.vm.vV,dL cv x8.1.vl])],[],2⟩) (PE cx (.exit 1) (fun yP=>[(2,.pt 0 0),(4,.pt 1 0),(6,dI .i64 yP)]) fun yP=>⟨[(0,dC (ae.f cb)),(1,[dI .i64 x8.1.vm.vR,dI .i64 x8.1.vm.vC,dL ae x8.1.vm.vV,dL cv x8.1.vl])],[],2⟩) hy ?_ ?_ ?_
 exact wk h0 [1,2] (wR rfl (wR rfl (wR rfl (wR rfl (wR rfl (wR rfl wTn)))))) (vC rfl (vR rfl wVn)) wLn
 clear hy h
 rintro⟨sv,rL⟩ y h
 dsimp only[kj] at h
 refine ra hx ?_
 refine AW.seq (cdh h rfl (fun FT h=>?_) (fun FT h=>?_))
 refine AW.skip (AW.seq ?_)
 obtain⟨su,hy,h⟩:=ah h
 refine jn ((PE cx .normal (fun su=>[(2,.pt 0 0),(4,.pt 1 0),(6,dI .i64 su),(43,dL cv x8.1.vl),(44,dI .i64 ((x8.1.vl).length:Int)),(45,dI .i64 rL)]) fun su=>⟨[(0,dC (ae.f cb)),(1,[dI .i64 x8.1.vm.vR,dI .i64 x8.1.vm.vC,dL ae x8.1.vm.vV,dL cv x8.1.vl])],[],2⟩) su) ?_ ?_
 replace h:=hy
 refine AW.block (rs hx fun K hK=>?_)
 obtain⟨hc17,h⟩:=az h
 have hn18:(rL).toNat<(x8.1.vl).length:=by omega
 refine s1 (ej hc17 um jS) ?_
 refine s1 (d:=dG cv ((x8.1.vl)[(rL).toNat]!)) (jI (c:=cv) (l:=x8.1.vl) (n:=(rL).toNat) (o:=0) jS hn18 (eM _ _ rfl)) ?_
 refine s1 (bq (F:=cv.f (⟨(0:Int),cb,false⟩:nN)) jS) ?_
 refine s0 (aN (b':=(x8.1.vl)[(rL).toNat]!) (ao.id _ _) jS) ?_
 refine .nil (hK _ _ (rs hx fun K hK=>?_))
 refine sa ?_
 refine s1 (bg (A4 ((x8.1.vl)[(rL).toNat]!)) fF) ?_
 refine .nil (hK _ _ (cdh h rfl (fun Co h=>?_) (fun Co h=>?_)))
 refine rb hx ?_
 cases h
 exact pe0 h0 [0,1]
 refine AW.skip ?_
 cases h
 exact pe0 h0 [0,1]
 rintro ex tm' hp' ⟨rfl,hw⟩
 refine AW.weak hw (rb hx ?_)
 cases h
 exact PS.l (pe0 h0 [0,1])
 refine AW.exit ?_
 try dsimp only
 try simp only[aO,reduceIte,Nat.reduceEqDiff,reduceCtorEq]
 cases h
 exact PS.r ⟨by nofun,PE.i (wk h0 [0,1] (wR rfl (wR rfl (wR rfl wTn))) (vC rfl (vR rfl wVn)) wLn)⟩
 rintro ex tm' hp' ⟨rfl,hw⟩
 try dsimp only
 try simp only[aO,reduceIte,Nat.reduceEqDiff,reduceCtorEq]
 refine AW.weak hw (rs hx fun K hK=>?_)
 refine sa ?_
 refine scb h jA fun rQ h=>?_
 refine s1 (bq (F:=ae.f cb) ax) ?_
 refine s0 (aN (b':=rQ) (ao.id _ _) ax) ?_
 refine .nil (hK _ _ (AW.seq (rs hx fun K hK=>?_)))
 refine sa ?_
 refine s1 (aG um) ?_
 iterate 2 refine sa ?_
 refine .nil (hK _ _ (AW.block ?_))
 obtain⟨qV,hy,h⟩:=ah h
 refine lp (S:=Int×aj) (X:=aj) (fun (ss,C7)=>[(2,.pt 0 0),(9,.pt 1 0),(57,dL cv x8.1.vl),(58,dI .i64 ((x8.1.vl).length:Int)),(59,dI .i64 ss)]) (fun (ss,C7)=>⟨[(0,dC (ae.f cb)),(1,dC (ae.f C7))],[],2⟩) (PE cx (.exit 3) (fun qV=>[(2,.pt 0 0),(9,.pt 1 0)]) fun qV=>⟨[(0,dC (ae.f cb)),(1,dC (ae.f qV))],[],2⟩) hy ?_ ?_ ?_
 exact wk h0 [0,2] (wR rfl (wR rfl (wR rfl (wR rfl (wR rfl wTn))))) (vC rfl (vC rfl wVn)) wLn
 clear hy h
 rintro⟨ss,C7⟩ y h
 dsimp only[kg] at h
 refine ra hx ?_
 refine AW.seq (cdh h rfl (fun z4 h=>?_) (fun z4 h=>?_))
 refine AW.skip (AW.seq (AW.block (rs hx fun K hK=>?_)))
 obtain⟨hc25,h⟩:=az h
 have OR:(ss).toNat<(x8.1.vl).length:=by omega
 refine s1 (ej hc25 um jS) ?_
 refine s1 (d:=dG cv ((x8.1.vl)[(ss).toNat]!)) (jI (c:=cv) (l:=x8.1.vl) (n:=(ss).toNat) (o:=0) jS OR (eM _ _ rfl)) ?_
 refine s1 (bq (F:=cv.f (⟨(0:Int),cb,false⟩:nN)) jS) ?_
 refine s0 (aN (b':=(x8.1.vl)[(ss).toNat]!) (ao.id _ _) jS) ?_
 refine .nil (hK _ _ (rq hx fun K hK=>?_))
 refine s1 (d:=dG ae C7) (aA (ao.id _ _) ax) ?_
 refine sa ?_
 refine s1 (aA (Fx ((x8.1.vl)[(ss).toNat]!)) ax) ?_
 refine scb h n4 fun uC h=>?_
 refine s0 (aN (b':=uC) (ao.id _ _) ax) ?_
 refine .nil (hK _ _ (rb hx ?_))
 cases h
 exact PS.l (pe0 h0 [0,1])
 refine AW.exit ?_
 try dsimp only
 try simp only[aO,reduceIte,Nat.reduceEqDiff,reduceCtorEq]
 cases h
 exact PS.r ⟨by nofun,PE.i (wk h0 [0,1] (wR rfl (wR rfl wTn)) (vC rfl (vC rfl wVn)) wLn)⟩
 rintro ex tm' hp' ⟨rfl,hw⟩
 try dsimp only
 try simp only[aO,reduceIte,Nat.reduceEqDiff,reduceCtorEq]
 refine AW.weak hw (AW.seq (rs hx fun K hK=>?_))
 refine s1 (d:=dG ae qV) (aA (ao.id _ _) ax) ?_
 refine scb h fL fun KP h=>?_
 refine sa ?_
 refine .nil (hK _ _ (cdh h rfl (fun hb32 h=>?_) (fun hb32 h=>?_)))
 refine rs hx fun K hK=>?_
 refine s1 (d:=dG ae cb) (iH (FL.nil _) ax) ?_
 obtain⟨ze,Jx,h⟩:=ah h
 replace Jx:=cP Jx
 refine s0 (kD (b':=cb) (ao.id _ _) ax Jx) ?_
 refine sa ?_
 refine .nil (hK _ _ (AW.ret ?_))
 cases h
 exact rv2
 refine AW.skip (rs hx fun K hK=>?_)
 refine s1 (d:=dG ae qV) (aA (ao.id _ _) ax) ?_
 refine s0 (aN (b':=qV) (ao.id _ _) ax) ?_
 refine sa ?_
 refine .nil (hK _ _ (AW.ret ?_))
 cases h
 exact rv2
def eL(pJ:List Int)(iJ:Int):Int→Option (Int⊕(Int⊕Unit)):=fun be=>cnd (decide (be<((pJ).length:Int))) (gd (0≤be∧be<((pJ).length:Int)) (cnd (decide (iJ=((pJ)[(be).toNat]!))) (some (.inr (.inl be))) (some (.inl (i64.wrap (be+(1:Int))))))) (some (.inr (.inr ())))
def ia(pJ:List Int)(iJ:Int):Option Int:=bnd (bf (eL pJ iJ) (0:Int)) fun y5=>match y5 with| .inl r=>some r| .inr ()=>some (-1:Int)
theorem tE {pJ:List Int}{iJ:Int}{r:Int}(h:ia pJ iJ=some r):aB prog 121 [dL (cI .i64) pJ,dI .i64 iJ] (dI .i64 r):=by
 refine bC (rs:=[.tmp 4]) (fun cx hx h0=>?_) func121
 unfold ia at h
 refine ra hx ?_
 refine AW.seq (ra hx ?_)
 refine AW.block ?_
 obtain⟨y,hy,h⟩:=ah h
 refine lp (S:=Int) (X:=Int⊕Unit) (fun be=>[(0,dL (cI .i64) pJ),(1,dI .i64 iJ),(7,dI .i64 ((pJ).length:Int)),(8,dI .i64 be)]) (fun be=>⟨[],[],0⟩) (PS (PR [.tmp 4] fun r=>dI .i64 r) (PE cx (.exit 0) (fun ()=>[]) fun ()=>⟨[],[],0⟩)) hy ?_ ?_ ?_
 exact wk h0 [] (wR rfl (wR rfl (wR rfl (wR rfl wTn)))) wVn wLn
 clear hy h
 rintro be y h
 dsimp only[eL] at h
 refine ra hx ?_
 refine AW.seq (cdh h rfl (fun cE h=>?_) (fun cE h=>?_))
 refine AW.skip (AW.seq (AW.block (ra hx ?_)))
 refine rs hx fun K hK=>?_
 iterate 3 refine sa ?_
 obtain⟨pg,h⟩:=az h
 have rz:(be).toNat<(pJ).length:=by omega
 refine s1 (ej pg cz aT) ?_
 refine s1 (qv (c:=(cI .i64)) (l:=pJ) (n:=(be).toNat) (o:=0) aT rz) ?_
 refine sa ?_
 refine .nil (hK _ _ (cdh h rfl (fun lz h=>?_) (fun lz h=>?_)))
 refine ra hx ?_
 refine AW.ret ?_
 cases h
 refine PS.r ⟨by nofun,PS.l (PR.i ?_)⟩
 exact rv1
 refine AW.skip (rb hx ?_)
 cases h
 exact PS.l (pe0 h0 [])
 refine AW.exit ?_
 try dsimp only
 try simp only[aO,reduceIte,Nat.reduceEqDiff,reduceCtorEq]
 cases h
 exact PS.r ⟨by nofun,PS.r (PE.i (wk h0 [] wTn wVn wLn))⟩
 rcases y with r|⟨⟩
 rintro ex tm' hp' ⟨rfl,hw⟩
 cases h
 exact hw
 rintro ex tm' hp' ⟨rfl,hw⟩
 try dsimp only
 try simp only[aO,reduceIte,Nat.reduceEqDiff,reduceCtorEq]
 refine AW.weak hw (ra hx ?_)
 refine AW.ret ?_
 cases h
 exact rv1
def dQ(pJ:List Int)(iJ:Int):Option Bool:=bnd (ia pJ iJ) fun x1=>some (decide ((0:Int)≤x1))
theorem m8 {pJ:List Int}{iJ:Int}{r:Bool}(h:dQ pJ iJ=some r):aB prog 76 [dL (cI .i64) pJ,dI .i64 iJ] (dB r):=by
 refine bC (rs:=[.tmp 4]) (fun cx hx h0=>?_) func76
 unfold dQ at h
 refine ra hx ?_
 refine rs hx fun K hK=>?_
 iterate 2 refine sa ?_
 refine scb h tE fun x1 h=>?_
 iterate 2 refine sa ?_
 refine .nil (hK _ _ (AW.ret ?_))
 cases h
 exact rv1
def gl(aS:ap)(ii:ee×Int):(List aj)×Int→Option (((List aj)×Int)⊕((List aj))):=fun (yK,C8)=>cnd (decide (C8<((ii.1.vl).length:Int))) (bnd (cC ii.1.vm C8 aS.vC) fun rQ=>gd ((yK++[rQ]).length*136≤140737488355328) (some (.inl (yK++[rQ],i64.wrap (C8+(1:Int)))))) (some (.inr yK))
def iE(aS:ap)(aU:List aj):Option ((List aj)×Int):=bnd (S:=Bool) (bnd (b9 [aS]) fun x1=>cnd (!x1) (some (true)) (cnd (decide (((aU).length:Int)≠aS.vR)) (some (true)) (bnd (dJ aU) fun x5=>some (!x5)))) fun a7=>cnd a7 (some (([]:List aj),(1:Int))) (bnd (gR aS (⟨aS.vR,(1:Int),aU⟩:ap)) fun x9=>cnd (decide (x9.2≠(0:Int))) (some (([]:List aj),x9.2)) (bnd (e9 x9.1) fun ii=>cnd (decide (ii.2≠(0:Int))) (some (([]:List aj),ii.2)) (bnd (cR ii.1) fun sQ=>bnd (dQ sQ aS.vC) fun ny=>cnd ny (some (([]:List aj),(200:Int))) (cnd (decide (((ii.1.vl).length:Int)<aS.vC)) (some (([]:List aj),(70:Int))) (bnd (bf (gl aS ii) (([]:List aj),(0:Int))) fun wg=>some (wg,(0:Int)))))))
theorem q8 {aS:ap}{aU:List aj}{r:(List aj)×Int}(h:iE aS aU=some r):aB prog 29 [dG aE aS,dL ae aU] (.tu [dL ae r.1,dI .i64 r.2]):=by
 refine bC (rs:=[.tmp 4,.tmp 5]) (fun cx hx h0=>?_) func29
 unfold iE at h
 refine rs hx fun K hK=>?_
 refine s1 (d:=.pt 0 0) d8 ?_
 refine s1 (d:=dO 1 ae ([]:List aj)) (eZ aF ax) ?_
 refine sa ?_
 refine .nil (hK _ _ ?_)
 iterate 2 refine AW.seq ?_
 obtain⟨a7,hy,h⟩:=ah h
 refine jn ((PE cx .normal (fun a7=>[(1,dL ae aU),(2,.pt 0 0),(26,dB a7)]) fun a7=>⟨[(0,[dI .i64 aS.vR,dI .i64 aS.vC,dL ae aS.vV])],[],1⟩) a7) ?_ ?_
 replace h:=hy
 refine rq hx fun K hK=>?_
 refine s1 (d:=dG aE aS) (bb aq) ?_
 refine s1 (d:=dO 2 aE [aS]) (iI pH aq) ?_
 refine scb h ep fun x1 h=>?_
 iterate 2 refine sa ?_
 rcases aW (!x1) with a8|a8
 replace h:=aY a8 h
 iterate 5 refine aJ rfl rfl a8 ?_
 refine s1 (am a8) ?_
 refine sa ?_
 iterate 3 refine aJ rfl rfl rfl ?_
 refine s1 (am rfl) ?_
 refine .nil (hK _ _ ?_)
 cases h
 exact pe0 h0 [0]
 replace h:=aZ a8 h
 iterate 3 refine ga a8 ?_
 refine g1 a8 (aG aT) ?_
 refine ga a8 ?_
 refine s1 (au a8) ?_
 refine sa ?_
 rcases aW (decide (((aU).length:Int)≠aS.vR)) with lz|lz
 replace h:=aY lz h
 iterate 3 refine aJ rfl rfl lz ?_
 refine s1 (am lz) ?_
 refine .nil (hK _ _ ?_)
 cases h
 exact pe0 h0 [0]
 replace h:=aZ lz h
 refine ga lz ?_
 obtain⟨x5,FB,h⟩:=ah h
 refine g1 lz (cj rfl (gu FB) rfl (lA (al _) lAn) (.inl rfl)) ?_
 refine ga lz ?_
 refine s1 (au lz) ?_
 refine .nil (hK _ _ ?_)
 cases h
 exact pe0 h0 [0]
 rintro ex tm' hp' ⟨rfl,hw⟩
 refine AW.weak hw (cdh h rfl (fun py h=>?_) (fun py h=>?_))
 refine rs hx fun K hK=>?_
 refine s1 (d:=dO 1 ae ([]:List aj)) (eZ aF ax) ?_
 refine sa ?_
 refine .nil (hK _ _ (AW.ret ?_))
 cases h
 exact dh.mk2 (ci rfl (ci rfl (.inr ⟨_,_,(sd _),(al _),⟨rfl,rfl⟩,rfl⟩)))
 refine AW.skip (rs hx fun K hK=>?_)
 refine s1 (d:=dG aE aS) (bb aq) ?_
 refine sa ?_
 refine s1 (aG aT) ?_
 refine sa ?_
 refine s1 (d:=dG aE (⟨aS.vR,(1:Int),aU⟩:ap)) (bE aq) ?_
 refine scb h ul fun x9 h=>?_
 iterate 3 refine sa ?_
 refine s1 (d:=.pt 1 0) (bc aq) ?_
 refine s0 (bO (ds':=[dI .i64 x9.1.vR,dI .i64 x9.1.vC,dL ae x9.1.vV]) aq) ?_
 refine sa ?_
 refine .nil (hK _ _ (AW.seq (ra hx ?_)))
 refine cdh h rfl (fun FU h=>?_) (fun FU h=>?_)
 refine rs hx fun K hK=>?_
 refine sa ?_
 refine s1 (d:=dO 2 ae ([]:List aj)) (eZ aF ax) ?_
 refine sa ?_
 refine .nil (hK _ _ (AW.ret ?_))
 cases h
 exact dh.mk2 (ci rfl (ci rfl (.inr ⟨_,_,(sd _),(al _),⟨rfl,rfl⟩,rfl⟩)))
 refine AW.skip (rs hx fun K hK=>?_)
 refine s1 (d:=dG aE x9.1) (bb aq) ?_
 refine scb h nI fun ii h=>?_
 iterate 3 refine sa ?_
 refine s1 (d:=.pt 2 0) (bc ly) ?_
 refine s0 (bO (ds':=[dI .i64 ii.1.vm.vR,dI .i64 ii.1.vm.vC,dL ae ii.1.vm.vV,dL cv ii.1.vl]) ly) ?_
 refine sa ?_
 refine .nil (hK _ _ (AW.seq (AW.block (ra hx ?_))))
 refine cdh h rfl (fun oH h=>?_) (fun oH h=>?_)
 refine rs hx fun K hK=>?_
 refine sa ?_
 refine s1 (d:=dO 3 ae ([]:List aj)) (eZ aF ax) ?_
 refine sa ?_
 refine .nil (hK _ _ (AW.ret ?_))
 cases h
 exact dh.mk2 (ci rfl (ci rfl (.inr ⟨_,_,(sd _),(al _),⟨rfl,rfl⟩,rfl⟩)))
 refine rsd [76] hx fun K hK=>?_
 refine s1 (d:=dG qZ ii.1) (bb ly) ?_
 obtain⟨sQ,hx16,h⟩:=ah h
 refine s1 (BA rfl (l6 hx16) (by simp only[bN,cl,cF,cZ,ck,cr];exact aM _ _) (lA (al _) lAn)) ?_
 refine sa ?_
 refine s1 (aG aT) ?_
 refine cqb h m8 fun ny h=>?_
 refine sa ?_
 refine .nil (hK _ _ (cdh h rfl (fun Co h=>?_) (fun Co h=>?_)))
 refine rs hx fun K hK=>?_
 refine s1 (d:=dO 4 ae ([]:List aj)) (eZ aF ax) ?_
 refine sa ?_
 refine .nil (hK _ _ (AW.ret ?_))
 cases h
 exact dh.mk2 (ci rfl (ci rfl (.inr ⟨_,_,(sd _),(al _),⟨rfl,rfl⟩,rfl⟩)))
 refine rs hx fun K hK=>?_
 refine sa ?_
 refine s1 (aG um) ?_
 iterate 2 refine sa ?_
 refine s1 (aG aT) ?_
 iterate 2 refine sa ?_
 refine .nil (hK _ _ (cdh h rfl (fun xt h=>?_) (fun xt h=>?_)))
 refine rs hx fun K hK=>?_
 refine s1 (d:=dO 4 ae ([]:List aj)) (eZ aF ax) ?_
 refine sa ?_
 refine .nil (hK _ _ (AW.ret ?_))
 cases h
 exact dh.mk2 (ci rfl (ci rfl (.inr ⟨_,_,(sd _),(al _),⟨rfl,rfl⟩,rfl⟩)))
 refine AW.skip (rs hx fun K hK=>?_)
 refine s1 (d:=dO 4 ae ([]:List aj)) (eZ aF ax) ?_
 refine .nil (hK _ _ (AW.seq (rs hx fun K hK=>?_)))
 refine sa ?_
 refine s1 (aG um) ?_
 iterate 2 refine sa ?_
 refine .nil (hK _ _ (AW.block ?_))
 obtain⟨wg,hy,h⟩:=ah h
 refine lp (S:=(List aj)×Int) (X:=(List aj)) (fun (yK,C8)=>[(2,.pt 0 0),(8,.pt 1 0),(9,dO 2 ae yK),(63,dI .i64 ((ii.1.vl).length:Int)),(64,dI .i64 C8)]) (fun (yK,C8)=>⟨[(0,[dI .i64 aS.vR,dI .i64 aS.vC,dL ae aS.vV]),(1,[dI .i64 ii.1.vm.vR,dI .i64 ii.1.vm.vC,dL ae ii.1.vm.vV,dL cv ii.1.vl])],[(2,(yK).length,36,34)],3⟩) (PE cx (.exit 1) (fun wg=>[(9,dO 0 ae wg)]) fun wg=>⟨[],[(0,(wg).length,36,34)],1⟩) hy ?_ ?_ ?_
 exact wk h0 [0,2,4] (wR rfl (wR rfl (wR rfl (wR rfl (wR rfl wTn))))) (vR rfl (vR rfl wVn)) (wL rfl rfl wLn)
 clear hy h
 rintro⟨yK,C8⟩ y h
 dsimp only[gl] at h
 refine ra hx ?_
 refine AW.seq (cdh h rfl (fun FR h=>?_) (fun FR h=>?_))
 refine AW.skip (AW.seq (AW.block (ra hx ?_)))
 refine rq hx fun K hK=>?_
 iterate 2 refine sa ?_
 refine s1 (d:=dG aE ii.1.vm) (bb aq) ?_
 iterate 2 refine sa ?_
 refine s1 (aG aT) ?_
 refine scb h eg fun rQ h=>?_
 refine s1 (qI ([rQ]:List aj) ae aF ax) ?_
 obtain⟨Pc,h⟩:=az h
 refine s1 (d:=dO 2 ae (yK++[rQ])) (gc aF ax Pc) ?_
 refine sa ?_
 refine .nil (hK _ _ (rb hx ?_))
 cases h
 exact PS.l (pe0 h0 [0,1,2])
 refine AW.exit ?_
 try dsimp only
 try simp only[aO,reduceIte,Nat.reduceEqDiff,reduceCtorEq]
 cases h
 exact PS.r ⟨by nofun,PE.i (wk h0 [2] (wR rfl wTn) wVn (wL rfl rfl wLn))⟩
 rintro ex tm' hp' ⟨rfl,hw⟩
 try dsimp only
 try simp only[aO,reduceIte,Nat.reduceEqDiff,reduceCtorEq]
 refine AW.weak hw (ra hx ?_)
 refine AW.ret ?_
 cases h
 exact dh.mk2 (ci rfl (ci rfl (.inr ⟨_,_,(sd _),(al _),⟨rfl,rfl⟩,rfl⟩)))
def mI(gq:Int)(fj:Int)(bZ:ee)(qza2:ap):Option aj:=bnd (cC bZ.vm gq (i64.wrap (qza2.vR+fj))) fun x1=>some x1
def mG(bz:Int)(bZ:ee)(qza2:ap)(aL:Int):Int×(List aj)→Option ((Int×(List aj))⊕((List aj))):=fun (bQ,bn)=>cnd (decide (bQ<bz)) (bnd (mI aL bQ bZ qza2) fun x3=>gd ((bn++[x3]).length*136≤140737488355328) (some (.inl (i64.wrap (bQ+(1:Int)),bn++[x3])))) (some (.inr bn))
def nj(bL:Int)(bz:Int)(bZ:ee)(qza2:ap):Int×(List aj)→Option ((Int×(List aj))⊕((List aj))):=fun (aL,a6)=>cnd (decide (aL<bL)) (bnd (bf (mG bz bZ qza2 aL) ((0:Int),a6)) fun bM=>some (.inl (i64.wrap (aL+(1:Int)),bM))) (some (.inr a6))
def m3(bL:Int)(bz:Int)(bZ:ee)(qza2:ap):Option (ap×Int):=bnd (bf (nj bL bz bZ qza2) ((0:Int),([]:List aj))) fun aD=>bnd (dJ aD) fun x8=>cnd (!x8) (some ((⟨(0:Int),(0:Int),([]:List aj)⟩:ap),(30:Int))) (some ((⟨bL,bz,aD⟩:ap),(0:Int)))
def jw(qx:ee×Int):Int→Option (Int⊕((ap×Int)⊕Unit)):=fun E2=>cnd (decide (E2<((qx.1.vl).length:Int))) (gd (0≤E2∧E2<((qx.1.vl).length:Int)) (cnd (decide ((((qx.1.vl)[(E2).toNat]!).vcol)≠E2)) (some (.inr (.inl ((⟨(0:Int),(0:Int),([]:List aj)⟩:ap),(70:Int))))) (some (.inl (i64.wrap (E2+(1:Int))))))) (some (.inr (.inr ())))
def th(cQ:ap):Option (ap×Int):=bnd (S:=Bool) (bnd (b9 [cQ]) fun x1=>cnd (!x1) (some (true)) (some (decide (cQ.vR≠cQ.vC)))) fun a7=>cnd a7 (some ((⟨(0:Int),(0:Int),([]:List aj)⟩:ap),(1:Int))) (bnd (fS cQ.vR) fun x6=>bnd (gR cQ x6) fun x8=>cnd (decide (x8.2≠(0:Int))) (some ((⟨(0:Int),(0:Int),([]:List aj)⟩:ap),x8.2)) (bnd (e9 x8.1) fun qx=>cnd (decide (qx.2≠(0:Int))) (some ((⟨(0:Int),(0:Int),([]:List aj)⟩:ap),qx.2)) (bnd (bf (jw qx) (0:Int)) fun y18=>match y18 with| .inl r=>some r| .inr ()=>bnd (m3 cQ.vR cQ.vR qx.1 cQ) fun sP=>some (sP.1,sP.2))))
def ju(x4:ee×Int)(x7:List Int)(gZ:Int)(sQ:List aj):Int×(List aj)→Option ((Int×(List aj))⊕((List aj))):=fun (pc,w8)=>cnd (decide (pc<((x7).length:Int))) (bnd (S:=(List aj)) (gd (0≤pc∧pc<((x7).length:Int)) (cnd (decide (((x7)[(pc).toNat]!)<gZ)) (bnd (cC x4.1.vm pc gZ) fun DF=>bnd (mF DF) fun uC=>gd (0≤(x7)[(pc).toNat]!∧(x7)[(pc).toNat]! <(((sQ).length:Nat):Int)∧(x7)[(pc).toNat]! <((w8).length:Int)) (some ((w8).set (((x7)[(pc).toNat]!).toNat) uC))) (some (w8)))) fun EZ=>some (.inl (i64.wrap (pc+(1:Int)),EZ))) (some (.inr w8))
def jv(cQ:ap)(x4:ee×Int)(x7:List Int):(List (List aj))×Int→Option (((List (List aj))×Int)⊕((List (List aj)))):=fun (ez,gZ)=>cnd (decide (gZ<cQ.vC)) (bnd (S:=(List (List aj))) (bnd (dQ x7 gZ) fun fb=>cnd fb (some (ez)) (bnd (fk (0:Int)) fun lw=>bnd (gT [lw] cQ.vC) fun sQ=>bnd (fk (1:Int)) fun ny=>gd (0≤gZ∧gZ<(((sQ).length:Nat):Int)∧gZ<((sQ).length:Int)) (bnd (bf (ju x4 x7 gZ sQ) ((0:Int),(sQ).set ((gZ).toNat) ny)) fun qW=>gd ((sQ).length=(qW).length) (gd ((ez++[qW]).length*24≤140737488355328) (some (ez++[qW])))))) fun Dc=>some (.inl (Dc,i64.wrap (gZ+(1:Int))))) (some (.inr ez))
def lZ(cQ:ap):Option ((List (List aj))×Int):=bnd (b9 [cQ]) fun x1=>cnd (!x1) (some (([]:List (List aj)),(1:Int))) (bnd (e9 cQ) fun x4=>cnd (decide (x4.2≠(0:Int))) (some (([]:List (List aj)),x4.2)) (bnd (cR x4.1) fun x7=>bnd (bf (jv cQ x4 x7) (([]:List (List aj)),(0:Int))) fun wl=>some (wl,(0:Int))))
theorem DR {cQ:ap}{r:(List (List aj))×Int}(h:lZ cQ=some r):aB prog 21 [dG aE cQ] (.tu [dL (cL ae) r.1,dI .i64 r.2]):=by
 refine bC (rs:=[.tmp 2,.tmp 3]) (fun cx hx h0=>?_) func21
 unfold lZ at h
 refine rs hx fun K hK=>?_
 refine s1 (d:=.pt 0 0) d8 ?_
 refine s1 (d:=dO 1 (cL ae) ([]:List (List aj))) (eZ nz aF) ?_
 refine sa ?_
 refine .nil (hK _ _ (AW.seq (rs hx fun K hK=>?_)))
 refine s1 (d:=dG aE cQ) (bb aq) ?_
 refine s1 (d:=dO 2 aE [cQ]) (iI pH aq) ?_
 refine scb h ep fun x1 h=>?_
 refine sa ?_
 refine .nil (hK _ _ (cdh h rfl (fun a8 h=>?_) (fun a8 h=>?_)))
 refine rs hx fun K hK=>?_
 refine s1 (d:=dO 3 (cL ae) ([]:List (List aj))) (eZ nz aF) ?_
 refine sa ?_
 refine .nil (hK _ _ (AW.ret ?_))
 cases h
 exact dh.mk2 (ci rfl (ci rfl (.inr ⟨_,_,(sd _),(al _),⟨rfl,rfl⟩,rfl⟩)))
 refine AW.skip (rs hx fun K hK=>?_)
 refine s1 (d:=dG aE cQ) (bb aq) ?_
 refine scb h nI fun x4 h=>?_
 iterate 3 refine sa ?_
 refine s1 (d:=.pt 3 0) (bc ly) ?_
 refine s0 (bO (ds':=[dI .i64 x4.1.vm.vR,dI .i64 x4.1.vm.vC,dL ae x4.1.vm.vV,dL cv x4.1.vl]) ly) ?_
 refine sa ?_
 refine .nil (hK _ _ (AW.seq (ra hx ?_)))
 refine cdh h rfl (fun bU h=>?_) (fun bU h=>?_)
 refine rs hx fun K hK=>?_
 refine sa ?_
 refine s1 (d:=dO 4 (cL ae) ([]:List (List aj))) (eZ nz aF) ?_
 refine sa ?_
 refine .nil (hK _ _ (AW.ret ?_))
 cases h
 exact dh.mk2 (ci rfl (ci rfl (.inr ⟨_,_,(sd _),(al _),⟨rfl,rfl⟩,rfl⟩)))
 refine AW.skip (rs hx fun K hK=>?_)
 refine s1 (d:=dG qZ x4.1) (bb ly) ?_
 obtain⟨x7,xn,h⟩:=ah h
 refine s1 (BA rfl (l6 xn) (by simp only[bN,cl,cF,cZ,ck,cr];exact aM _ _) (lA (al _) lAn)) ?_
 refine sa ?_
 refine .nil (hK _ _ (rs hx fun K hK=>?_))
 refine s1 (d:=dO 5 (cL ae) ([]:List (List aj))) (eZ nz aF) ?_
 refine .nil (hK _ _ (AW.seq (rs hx fun K hK=>?_)))
 refine sa ?_
 refine s1 (aG aT) ?_
 refine sa ?_
 refine .nil (hK _ _ (AW.block ?_))
 obtain⟨wl,hy,h⟩:=ah h
 refine lp (S:=(List (List aj))×Int) (X:=(List (List aj))) (fun (ez,gZ)=>[(1,.pt 0 0),(4,.pt 1 0),(6,dO 2 (cI .i64) x7),(7,dO 3 (cL ae) ez),(27,dI .i64 cQ.vC),(28,dI .i64 gZ)]) (fun (ez,gZ)=>⟨[(0,[dI .i64 cQ.vR,dI .i64 cQ.vC,dL ae cQ.vV]),(1,[dI .i64 x4.1.vm.vR,dI .i64 x4.1.vm.vC,dL ae x4.1.vm.vV,dL cv x4.1.vl])],[(2,(x7).length,1,3),(3,(ez).length,1,22)],4⟩) (PE cx (.exit 0) (fun wl=>[(7,dO 0 (cL ae) wl)]) fun wl=>⟨[],[(0,(wl).length,1,22)],1⟩) hy ?_ ?_ ?_
 exact wk h0 [0,3,4,5] (wR rfl (wR rfl (wR rfl (wR rfl (wR rfl (wR rfl wTn)))))) (vR rfl (vR rfl wVn)) (wL rfl rfl (wL rfl rfl wLn))
 clear hy h
 rintro⟨ez,gZ⟩ y h
 dsimp only[jv] at h
 refine ra hx ?_
 refine AW.seq (cdh h rfl (fun v9 h=>?_) (fun v9 h=>?_))
 refine AW.skip (AW.seq ?_)
 obtain⟨Dc,hy,h⟩:=ah h
 refine jn ((PE cx .normal (fun Dc=>[(1,.pt 0 0),(4,.pt 1 0),(6,dO 2 (cI .i64) x7),(7,dO 3 (cL ae) Dc),(27,dI .i64 cQ.vC),(28,dI .i64 gZ)]) fun Dc=>⟨[(0,[dI .i64 cQ.vR,dI .i64 cQ.vC,dL ae cQ.vV]),(1,[dI .i64 x4.1.vm.vR,dI .i64 x4.1.vm.vC,dL ae x4.1.vm.vV,dL cv x4.1.vl])],[(2,(x7).length,1,3),(3,(Dc).length,1,22)],4⟩) Dc) ?_ ?_
 replace h:=hy
 refine AW.block (ra hx ?_)
 refine AW.seq (rs hx fun K hK=>?_)
 iterate 2 refine sa ?_
 refine scb h m8 fun fb h=>?_
 refine .nil (hK _ _ (cdh h rfl (fun mw h=>?_) (fun mw h=>?_)))
 refine AW.exit ?_
 try dsimp only
 try simp only[aO,reduceIte,Nat.reduceEqDiff,reduceCtorEq]
 cases h
 exact pe0 h0 [0,1,2,3]
 refine AW.skip (rsd [60] hx fun K hK=>?_)
 refine cqb h jA fun lw h=>?_
 refine s1 (iM ([lw]:List aj) ae aF ax) ?_
 refine sa ?_
 refine s1 (aG aT) ?_
 obtain⟨sQ,hx16,h⟩:=ah h
 refine sC0 (d:=.ow 5 0 36 ((sQ).length)) (hp':=⟨[(5,dC ((cW ae).f sQ)),(0,[dI .i64 cQ.vR,dI .i64 cQ.vC,dL ae cQ.vV]),(1,[dI .i64 x4.1.vm.vR,dI .i64 x4.1.vm.vC,dL ae x4.1.vm.vV,dL cv x4.1.vl])],[(2,(x7).length,1,3),(3,(ez).length,1,22)],6⟩) (wt hx16) (ARs.cons (AR.le (sd _) rfl) (ARs.cons (AR.le (al _) rfl) ARs.nil)) (tA.l _ _) ?_
 refine sa ?_
 refine .nil (hK _ _ (rs hx fun K hK=>?_))
 iterate 2 refine sa ?_
 refine scb h jA fun ny h=>?_
 obtain⟨FN,h⟩:=az h
 have Ms:(gZ).toNat<(sQ).length:=by omega
 refine s1 (sx ⟨FN.1,FN.2.1⟩ aF ax) ?_
 refine s0 (aN (b':=ny) (ao.seqW ae sQ ((gZ).toNat) Ms) ax) ?_
 refine .nil (hK _ _ (AW.seq (ra hx ?_)))
 refine AW.block ?_
 obtain⟨qW,hy,h⟩:=ah h
 refine lp (S:=Int×(List aj)) (X:=(List aj)) (fun (pc,w8)=>[(1,.pt 0 0),(4,.pt 1 0),(6,dO 2 (cI .i64) x7),(7,dO 3 (cL ae) ez),(8,dI .i64 gZ),(9,.ow 4 0 36 ((sQ).length)),(27,dI .i64 cQ.vC),(28,dI .i64 gZ),(43,dO 2 (cI .i64) x7),(44,dI .i64 ((x7).length:Int)),(45,dI .i64 pc)]) (fun (pc,w8)=>⟨[(0,[dI .i64 cQ.vR,dI .i64 cQ.vC,dL ae cQ.vV]),(1,[dI .i64 x4.1.vm.vR,dI .i64 x4.1.vm.vC,dL ae x4.1.vm.vV,dL cv x4.1.vl]),(4,dC ((cW ae).f w8))],[(2,(x7).length,1,3),(3,(ez).length,1,22)],5⟩) (PE cx (.exit 2) (fun qW=>[(1,.pt 0 0),(4,.pt 1 0),(6,dO 2 (cI .i64) x7),(7,dO 3 (cL ae) ez),(9,.ow 4 0 36 ((sQ).length)),(27,dI .i64 cQ.vC),(28,dI .i64 gZ)]) fun qW=>⟨[(0,[dI .i64 cQ.vR,dI .i64 cQ.vC,dL ae cQ.vV]),(1,[dI .i64 x4.1.vm.vR,dI .i64 x4.1.vm.vC,dL ae x4.1.vm.vV,dL cv x4.1.vl]),(4,dC ((cW ae).f qW))],[(2,(x7).length,1,3),(3,(ez).length,1,22)],5⟩) hy ?_ ?_ ?_
 exact wk h0 [0,1,2,3,5] (wR rfl (wR rfl (wR rfl (wR rfl (wR rfl (wR rfl (wR rfl (wR rfl (wR rfl (wR rfl (wR rfl wTn))))))))))) (vR rfl (vR rfl (vC rfl wVn))) (wL rfl rfl (wL rfl rfl wLn))
 clear hy h
 rintro⟨pc,w8⟩ y h
 dsimp only[ju] at h
 refine ra hx ?_
 refine AW.seq (cdh h rfl (fun FR h=>?_) (fun FR h=>?_))
 refine AW.skip (AW.seq ?_)
 obtain⟨EZ,hy,h⟩:=ah h
 refine jn ((PE cx .normal (fun EZ=>[(1,.pt 0 0),(4,.pt 1 0),(6,dO 2 (cI .i64) x7),(7,dO 3 (cL ae) ez),(8,dI .i64 gZ),(9,.ow 4 0 36 ((sQ).length)),(27,dI .i64 cQ.vC),(28,dI .i64 gZ),(43,dO 2 (cI .i64) x7),(44,dI .i64 ((x7).length:Int)),(45,dI .i64 pc)]) fun EZ=>⟨[(0,[dI .i64 cQ.vR,dI .i64 cQ.vC,dL ae cQ.vV]),(1,[dI .i64 x4.1.vm.vR,dI .i64 x4.1.vm.vC,dL ae x4.1.vm.vV,dL cv x4.1.vl]),(4,dC ((cW ae).f EZ))],[(2,(x7).length,1,3),(3,(ez).length,1,22)],5⟩) EZ) ?_ ?_
 replace h:=hy
 refine AW.block (rs hx fun K hK=>?_)
 refine sa ?_
 obtain⟨Cj,h⟩:=az h
 have hn23:(pc).toNat<(x7).length:=by omega
 refine s1 (ej Cj cz aT) ?_
 refine s1 (qv (c:=(cI .i64)) (l:=x7) (n:=(pc).toNat) (o:=0) aT hn23) ?_
 iterate 2 refine sa ?_
 refine .nil (hK _ _ (ra hx ?_))
 refine cdh h rfl (fun z4 h=>?_) (fun z4 h=>?_)
 refine rq hx fun K hK=>?_
 iterate 3 refine sa ?_
 refine s1 (d:=dG aE x4.1.vm) (bb aq) ?_
 iterate 2 refine sa ?_
 refine scb h eg fun DF h=>?_
 refine scb h Ax fun uC h=>?_
 obtain⟨hc29,h⟩:=az h
 have hn30:((x7)[(pc).toNat]!).toNat<(w8).length:=by omega
 refine s1 (sx ⟨hc29.1,hc29.2.1⟩ aF ax) ?_
 refine s0 (aN (b':=uC) (ao.seqW ae w8 (((x7)[(pc).toNat]!).toNat) hn30) ax) ?_
 refine .nil (hK _ _ ?_)
 cases h
 exact pe0 h0 [0,1,2,3,4]
 refine AW.skip ?_
 cases h
 exact pe0 h0 [0,1,2,3,4]
 rintro ex tm' hp' ⟨rfl,hw⟩
 refine AW.weak hw (rb hx ?_)
 cases h
 exact PS.l (pe0 h0 [0,1,2,3,4])
 refine AW.exit ?_
 try dsimp only
 try simp only[aO,reduceIte,Nat.reduceEqDiff,reduceCtorEq]
 cases h
 exact PS.r ⟨by nofun,PE.i (wk h0 [0,1,2,3,4] (wR rfl (wR rfl (wR rfl (wR rfl (wR rfl (wR rfl (wR rfl wTn))))))) (vR rfl (vR rfl (vC rfl wVn))) (wL rfl rfl (wL rfl rfl wLn)))⟩
 rintro ex tm' hp' ⟨rfl,hw⟩
 try dsimp only
 try simp only[aO,reduceIte,Nat.reduceEqDiff,reduceCtorEq]
 refine AW.weak hw (rq hx fun K hK=>?_)
 iterate 2 refine sa ?_
 obtain⟨hc33,h⟩:=az h
 refine fzO ae (n:=(sQ).length) 4 [9,64] hc33 ?_ (all2 rfl (all1 rfl))
 refine s1 (d:=dO 5 (cL ae) [qW]) (iI nz aF) ?_
 obtain⟨hc34,h⟩:=az h
 refine s1 (d:=dO 3 (cL ae) (ez++[qW])) (gc nz aF hc34) ?_
 refine sa ?_
 refine .nil (hK _ _ ?_)
 cases h
 exact pe0 h0 [0,1,2,3]
 rintro ex tm' hp' ⟨rfl,hw⟩
 refine AW.weak hw (rb hx ?_)
 cases h
 exact PS.l (pe0 h0 [0,1,2,3])
 refine AW.exit ?_
 try dsimp only
 try simp only[aO,reduceIte,Nat.reduceEqDiff,reduceCtorEq]
 cases h
 exact PS.r ⟨by nofun,PE.i (wk h0 [3] (wR rfl wTn) wVn (wL rfl rfl wLn))⟩
 rintro ex tm' hp' ⟨rfl,hw⟩
 try dsimp only
 try simp only[aO,reduceIte,Nat.reduceEqDiff,reduceCtorEq]
 refine AW.weak hw (ra hx ?_)
 refine AW.ret ?_
 cases h
 exact dh.mk2 (ci rfl (ci rfl (.inr ⟨_,_,(sd _),(al _),⟨rfl,rfl⟩,rfl⟩)))
def gg(gq:Int)(fj:Int)(bZ:ap):Option aj:=bnd (cC bZ gq fj) fun x1=>some x1
theorem pp {gq:Int}{fj:Int}{bZ:ap}{r:aj}(h:gg gq fj bZ=some r):HC prog 80 [dI .i64 gq,dI .i64 fj,.pt 0 0] ⟨[(0,[dI .i64 bZ.vR,dI .i64 bZ.vC,dL ae bZ.vV])],[],1⟩ (dG ae r) ⟨[(0,[dI .i64 bZ.vR,dI .i64 bZ.vC,dL ae bZ.vV])],[],1⟩:=by
 refine HC.ofX (rs:=[.cell 5 34]) tok func80 rfl rfl (dM rfl) rfl (fun cx hx h1=>?_)
 have h0:cx.hp0.next=1:=by rw[h1]
 simp only[eC,Nat.reduceAdd,dA]
 unfold gg at h
 refine rs hx fun K hK=>?_
 refine s1 (bq (F:=ae.f cb) ax) ?_
 refine .nil (hK _ _ (rs hx fun K hK=>?_))
 refine s1 (d:=dG aE bZ) (bb aq) ?_
 iterate 2 refine sa ?_
 refine scb h eg fun x1 h=>?_
 refine s0 (aN (b':=x1) (ao.id _ _) ax) ?_
 refine .nil (hK _ _ (AW.ret ?_))
 cases h
 exact⟨_,qz rfl ax rfl rfl (ltb rfl) (ae.h _) (rfl),nr.of_wk (by rw[hx];exact dM rfl) (wkN h0 [] (wG rfl (al _) wTn) (vR rfl wVn) wLn)⟩
def jp(bz:Int)(bZ:ap)(aL:Int):Int×(List aj)→Option ((Int×(List aj))⊕((List aj))):=fun (bQ,bn)=>cnd (decide (bQ<bz)) (bnd (gg aL bQ bZ) fun x3=>gd ((bn++[x3]).length*136≤140737488355328) (some (.inl (i64.wrap (bQ+(1:Int)),bn++[x3])))) (some (.inr bn))
def jN(bL:Int)(bz:Int)(bZ:ap):Int×(List aj)→Option ((Int×(List aj))⊕((List aj))):=fun (aL,a6)=>cnd (decide (aL<bL)) (bnd (bf (jp bz bZ aL) ((0:Int),a6)) fun bM=>some (.inl (i64.wrap (aL+(1:Int)),bM))) (some (.inr a6))
def j8(bL:Int)(bz:Int)(bZ:ap):Option (ap×Int):=bnd (bf (jN bL bz bZ) ((0:Int),([]:List aj))) fun aD=>bnd (dJ aD) fun x8=>cnd (!x8) (some ((⟨(0:Int),(0:Int),([]:List aj)⟩:ap),(30:Int))) (some ((⟨bL,bz,aD⟩:ap),(0:Int)))
theorem zh {bL:Int}{bz:Int}{bZ:ap}{r:ap×Int}(h:j8 bL bz bZ=some r):HC prog 73 [dI .i64 bL,dI .i64 bz,.fn 80 [0]] ⟨[(0,[dI .i64 bZ.vR,dI .i64 bZ.vC,dL ae bZ.vV])],[],1⟩ (.tu [dG aE r.1,dI .i64 r.2]) ⟨[(0,[dI .i64 bZ.vR,dI .i64 bZ.vC,dL ae bZ.vV])],[],1⟩:=by
 refine HC.ofX (rs:=[.cell 6 24,.tmp 7]) tok func73 rfl rfl (dM rfl) rfl (fun cx hx h1=>?_)
 have h0:cx.hp0.next=1:=by rw[h1]
 simp only[eC,Nat.reduceAdd,dA]
 unfold j8 at h
 refine rs hx fun K hK=>?_
 refine s1 (d:=.pt 1 0) (bc aq) ?_
 refine sa ?_
 refine .nil (hK _ _ (rs hx fun K hK=>?_))
 iterate 2 refine sa ?_
 refine s1 (d:=.ag [dI .i64 bL,dI .i64 bz,dN]) (bE aq) ?_
 refine s1 (d:=.pt 2 0) (bc aq) ?_
 refine s0 (bO (ds':=[dI .i64 bL,dI .i64 bz,dN]) aq) ?_
 refine .nil (hK _ _ (AW.seq (ra hx ?_)))
 refine AW.block ?_
 obtain⟨aD,hy,h⟩:=ah h
 refine lp (S:=Int×(List aj)) (X:=(List aj)) (fun (aL,a6)=>[(1,dI .i64 bz),(2,.fn 80 [0]),(6,.pt 1 0),(8,.pt 2 0),(14,dI .i64 bL),(15,dI .i64 aL)]) (fun (aL,a6)=>⟨[(0,[dI .i64 bZ.vR,dI .i64 bZ.vC,dL ae bZ.vV]),(1,[dI .i64 (0:Int),dI .i64 (0:Int),dN]),(2,[dI .i64 bL,dI .i64 bz,dO 3 ae a6])],[(3,(a6).length,36,34)],4⟩) (PE cx (.exit 0) (fun aD=>[(6,.pt 1 0),(8,.pt 2 0)]) fun aD=>⟨[(0,[dI .i64 bZ.vR,dI .i64 bZ.vC,dL ae bZ.vV]),(1,[dI .i64 (0:Int),dI .i64 (0:Int),dN]),(2,[dI .i64 bL,dI .i64 bz,dO 3 ae aD])],[(3,(aD).length,36,34)],4⟩) hy ?_ ?_ ?_
 exact Wk.trans (Wk.nilOwn (ds':=[dI .i64 bL,dI .i64 bz,dO 3 ae ([]:List aj)]) 2 2 34 36) (wkN h0 [1,2,3] (wR rfl (wR rfl (wR rfl (wR rfl (wR rfl (wR rfl wTn)))))) (vR rfl (vR rfl (vR rfl wVn))) (wL rfl rfl wLn))
 clear hy h
 rintro⟨aL,a6⟩ y h
 dsimp only[jN] at h
 refine ra hx ?_
 refine AW.seq (cdh h rfl (fun cE h=>?_) (fun cE h=>?_))
 refine AW.skip (AW.seq (AW.block ?_))
 iterate 2 refine ra hx ?_
 refine AW.block ?_
 obtain⟨bM,hy,h⟩:=ah h
 refine lp (S:=Int×(List aj)) (X:=(List aj)) (fun (bQ,bn)=>[(1,dI .i64 bz),(2,.fn 80 [0]),(6,.pt 1 0),(8,.pt 2 0),(9,dI .i64 aL),(14,dI .i64 bL),(15,dI .i64 aL),(18,dI .i64 bz),(19,dI .i64 bQ)]) (fun (bQ,bn)=>⟨[(0,[dI .i64 bZ.vR,dI .i64 bZ.vC,dL ae bZ.vV]),(1,[dI .i64 (0:Int),dI .i64 (0:Int),dN]),(2,[dI .i64 bL,dI .i64 bz,dO 3 ae bn])],[(3,(bn).length,36,34)],4⟩) (PE cx (.exit 2) (fun bM=>[(1,dI .i64 bz),(2,.fn 80 [0]),(6,.pt 1 0),(8,.pt 2 0),(14,dI .i64 bL),(15,dI .i64 aL)]) fun bM=>⟨[(0,[dI .i64 bZ.vR,dI .i64 bZ.vC,dL ae bZ.vV]),(1,[dI .i64 (0:Int),dI .i64 (0:Int),dN]),(2,[dI .i64 bL,dI .i64 bz,dO 3 ae bM])],[(3,(bM).length,36,34)],4⟩) hy ?_ ?_ ?_
 exact wkN h0 [1,2,3] (wR rfl (wR rfl (wR rfl (wR rfl (wR rfl (wR rfl (wR rfl (wR rfl (wR rfl wTn))))))))) (vR rfl (vR rfl (vR rfl wVn))) (wL rfl rfl wLn)
 clear hy h
 rintro⟨bQ,bn⟩ y h
 dsimp only[jp] at h
 refine ra hx ?_
 refine AW.seq (cdh h rfl (fun mm h=>?_) (fun mm h=>?_))
 refine AW.skip (AW.seq (AW.block (ra hx ?_)))
 obtain⟨x3,xQ,h⟩:=ah h
 obtain⟨Bu,h⟩:=az h
 refine jn (PE cx .normal (fun (_:Unit)=>[(1,dI .i64 bz),(2,.fn 80 [0]),(6,.pt 1 0),(8,.pt 2 0),(9,dI .i64 aL),(14,dI .i64 bL),(15,dI .i64 aL),(18,dI .i64 bz),(19,dI .i64 bQ)]) (fun (_:Unit)=>⟨[(0,[dI .i64 bZ.vR,dI .i64 bZ.vC,dL ae bZ.vV]),(1,[dI .i64 (0:Int),dI .i64 (0:Int),dN]),(2,[dI .i64 bL,dI .i64 bz,dO 3 ae (bn++[x3])])],[(3,(bn++[x3]).length,36,34)],4⟩) ()) ?_ ?_
 refine dw (DW.split 1 5 (by decide) ?_ ?_)
 refine dwg [] [0,1,2,3,4,5,6,7,8,9] hx (by kernel_rfl) (by kernel_rfl) (by kernel_rfl) fun K hK=>?_
 dsimp only[eJ,nE,nS,List.map]
 refine sa ?_
 refine s1 (aG aF) ?_
 iterate 3 refine sa ?_
 refine s1 (lQ [0] rfl (pp xQ) (fA (al _) (fA (al _) (fA (al _) fAn))) (vR rfl wVn) wLn (rvE rvN) (pP _ _ _) (uu _ _)) ?_
 refine s1 (iM ([x3]:List aj) ae aF ax) ?_
 refine s1 (d:=dO 3 ae (bn++[x3])) (gc aF ax Bu) ?_
 refine sa ?_
 refine s0 (bO (ds':=[dI .i64 bL,dI .i64 bz,dO 3 ae (bn++[x3])]) aF) ?_
 exact .nil (hK _ _ (PE.i (wkN h0 [1,2,3] (wR rfl (wR rfl (wR rfl (wR rfl (wR rfl (wR rfl (wR rfl (wR rfl (wR rfl wTn))))))))) (vR rfl (vR rfl (vR rfl wVn))) (wL rfl rfl wLn))))
 refine dwg [] [0,2,3,4,5,1,6,7,8,9] hx (by kernel_rfl) (by kernel_rfl) (by kernel_rfl) fun K hK=>?_
 dsimp only[eJ,nE,nS,List.map]
 iterate 4 refine sa ?_
 refine s1 (lQ [0] rfl (pp xQ) (fA (al _) (fA (al _) (fA (al _) fAn))) (vR rfl wVn) wLn (rvE rvN) (pP _ _ _) (uu _ _)) ?_
 refine s1 (aG aF) ?_
 refine s1 (iM ([x3]:List aj) ae aF ax) ?_
 refine s1 (d:=dO 3 ae (bn++[x3])) (gc aF ax Bu) ?_
 refine sa ?_
 refine s0 (bO (ds':=[dI .i64 bL,dI .i64 bz,dO 3 ae (bn++[x3])]) aF) ?_
 exact .nil (hK _ _ (PE.i (wkN h0 [1,2,3] (wR rfl (wR rfl (wR rfl (wR rfl (wR rfl (wR rfl (wR rfl (wR rfl (wR rfl wTn))))))))) (vR rfl (vR rfl (vR rfl wVn))) (wL rfl rfl wLn))))
 rintro ex tm' hp' ⟨rfl,hw⟩
 refine AW.weak hw (rb hx ?_)
 cases h
 exact PS.l (PE.i (wkN h0 [1,2,3] (wR rfl (wR rfl (wR rfl (wR rfl (wR rfl (wR rfl (wR rfl (wR rfl (wR rfl wTn))))))))) (vR rfl (vR rfl (vR rfl wVn))) (wL rfl rfl wLn)))
 refine AW.exit ?_
 try dsimp only
 try simp only[aO,reduceIte,Nat.reduceEqDiff,reduceCtorEq]
 cases h
 exact PS.r ⟨by nofun,PE.i (wkN h0 [1,2,3] (wR rfl (wR rfl (wR rfl (wR rfl (wR rfl (wR rfl wTn)))))) (vR rfl (vR rfl (vR rfl wVn))) (wL rfl rfl wLn))⟩
 rintro ex tm' hp' ⟨rfl,hw⟩
 try dsimp only
 try simp only[aO,reduceIte,Nat.reduceEqDiff,reduceCtorEq]
 refine AW.weak hw (rb hx ?_)
 cases h
 exact PS.l (PE.i (wkN h0 [1,2,3] (wR rfl (wR rfl (wR rfl (wR rfl (wR rfl (wR rfl wTn)))))) (vR rfl (vR rfl (vR rfl wVn))) (wL rfl rfl wLn)))
 refine AW.exit ?_
 try dsimp only
 try simp only[aO,reduceIte,Nat.reduceEqDiff,reduceCtorEq]
 cases h
 exact PS.r ⟨by nofun,PE.i (wkN h0 [1,2,3] (wR rfl (wR rfl wTn)) (vR rfl (vR rfl (vR rfl wVn))) (wL rfl rfl wLn))⟩
 rintro ex tm' hp' ⟨rfl,hw⟩
 try dsimp only
 try simp only[aO,reduceIte,Nat.reduceEqDiff,reduceCtorEq]
 refine AW.weak hw (AW.seq (rs hx fun K hK=>?_))
 refine sa ?_
 refine s1 (aG aF) ?_
 refine scb h gu fun x8 h=>?_
 refine sa ?_
 refine .nil (hK _ _ (cdh h rfl (fun eH h=>?_) (fun eH h=>?_)))
 refine rs hx fun K hK=>?_
 refine s1 (d:=.ag [dI .i64 (0:Int),dI .i64 (0:Int),dN]) (bE aq) ?_
 refine s0 (bO (ds':=[dI .i64 (0:Int),dI .i64 (0:Int),dN]) aq) ?_
 refine sa ?_
 refine .nil (hK _ _ (AW.ret ?_))
 cases h
 exact⟨_,bJ (es:=[dI .i64 (0:Int),dI .i64 (0:Int),dN]) rfl aq rfl rfl (ltb rfl) (leb rfl) rfl (ci rfl (rfl)),nr.of_wk2 (by rw[hx];exact dM rfl) (wkN h0 [] (wG rfl (eA (wc (co _) (wc (co _) (wc (nT rfl) wcn)))) (wR rfl wTn)) (vR rfl wVn) wLn)⟩
 refine AW.skip (rs hx fun K hK=>?_)
 refine s1 (d:=.ag [dI .i64 bL,dI .i64 bz,dO 3 ae aD]) (bb aq) ?_
 refine s0 (bO (ds':=[dI .i64 bL,dI .i64 bz,dO 3 ae aD]) aq) ?_
 refine sa ?_
 refine .nil (hK _ _ (AW.ret ?_))
 cases h
 exact⟨_,bJ (es:=[dI .i64 bL,dI .i64 bz,dO 3 ae aD]) rfl aq rfl rfl (ltb rfl) (leb rfl) rfl (ci rfl (rfl)),nr.of_wk2 (by rw[hx];exact dM rfl) (wkN h0 [] (wG rfl (eA (wc (co _) (wc (co _) (wc (A5 _) wcn)))) (wR rfl wTn)) (vR rfl wVn) wLn)⟩
def ge(cQ:ap)(eh:Int):Int→Option (Int⊕((Bool×Int)⊕Unit)):=fun ez=>cnd (decide (ez<eh)) (bnd (cC cQ eh ez) fun x8=>bnd (cC cQ ez eh) fun fb=>cnd (decide (¬(x8=fb))) (some (.inr (.inl (false,(0:Int))))) (some (.inl (i64.wrap (ez+(1:Int)))))) (some (.inr (.inr ())))
def gf(cQ:ap):Int→Option (Int⊕((Bool×Int)⊕Unit)):=fun eh=>cnd (decide (eh<cQ.vR)) (bnd (bf (ge cQ eh) (0:Int)) fun y13=>match y13 with| .inl r=>some (.inr (.inl r))| .inr ()=>some (.inl (i64.wrap (eh+(1:Int))))) (some (.inr (.inr ())))
def ek(cQ:ap):Int→Option (Int⊕((Bool×Int)⊕Unit)):=fun yJ=>cnd (decide (yJ≤cQ.vR)) (bnd (j8 yJ yJ cQ) fun sy=>bnd (m4 sy.1) fun nt=>bnd (S:=Bool) (cnd (decide (nt.2≠(0:Int))) (some (true)) (bnd (mY nt.1) fun uP=>some (decide (uP≤(0:Int))))) fun EY=>cnd EY (some (.inr (.inl (false,nt.2)))) (some (.inl (i64.wrap (yJ+(1:Int)))))) (some (.inr (.inr ())))
def gI(cQ:ap):Option (Bool×Int):=bnd (S:=Bool) (bnd (b9 [cQ]) fun x1=>cnd (!x1) (some (true)) (some (decide (cQ.vR≠cQ.vC)))) fun a7=>cnd a7 (some (false,(1:Int))) (bnd (bf (gf cQ) (0:Int)) fun y14=>match y14 with| .inl r=>some r| .inr ()=>bnd (bf (ek cQ) (1:Int)) fun y25=>match y25 with| .inl r=>some r| .inr ()=>some (true,(0:Int)))
theorem rW {cQ:ap}{r:Bool×Int}(h:gI cQ=some r):aB prog 23 [dG aE cQ] (.tu [dB r.1,dI .i64 r.2]):=by
 refine bC (rs:=[.tmp 2,.tmp 3]) (fun cx hx h0=>?_) func23
 unfold gI at h
 refine rs hx fun K hK=>?_
 refine s1 (d:=.pt 0 0) d8 ?_
 iterate 2 refine sa ?_
 refine .nil (hK _ _ ?_)
 iterate 2 refine AW.seq ?_
 obtain⟨a7,hy,h⟩:=ah h
 refine jn ((PE cx .normal (fun a7=>[(1,.pt 0 0),(21,dB a7)]) fun a7=>⟨[(0,[dI .i64 cQ.vR,dI .i64 cQ.vC,dL ae cQ.vV])],[],1⟩) a7) ?_ ?_
 replace h:=hy
 refine rq hx fun K hK=>?_
 refine s1 (d:=dG aE cQ) (bb aq) ?_
 refine s1 (d:=dO 1 aE [cQ]) (iI pH aq) ?_
 refine scb h ep fun x1 h=>?_
 iterate 2 refine sa ?_
 rcases aW (!x1) with a8|a8
 replace h:=aY a8 h
 iterate 5 refine aJ rfl rfl a8 ?_
 refine s1 (am a8) ?_
 refine .nil (hK _ _ ?_)
 cases h
 exact pe0 h0 [0]
 replace h:=aZ a8 h
 refine ga a8 ?_
 refine g1 a8 (aG aT) ?_
 refine ga a8 ?_
 refine g1 a8 (aG aT) ?_
 refine ga a8 ?_
 refine s1 (au a8) ?_
 refine .nil (hK _ _ ?_)
 cases h
 exact pe0 h0 [0]
 rintro ex tm' hp' ⟨rfl,hw⟩
 refine AW.weak hw (cdh h rfl (fun iO h=>?_) (fun iO h=>?_))
 refine ra hx ?_
 refine AW.ret ?_
 cases h
 exact rv2
 refine AW.skip (AW.seq (rs hx fun K hK=>?_))
 refine sa ?_
 refine s1 (aG aT) ?_
 refine sa ?_
 refine .nil (hK _ _ (AW.block ?_))
 obtain⟨y,hy,h⟩:=ah h
 refine lp (S:=Int) (X:=(Bool×Int)⊕Unit) (fun eh=>[(1,.pt 0 0),(23,dI .i64 cQ.vR),(24,dI .i64 eh)]) (fun eh=>⟨[(0,[dI .i64 cQ.vR,dI .i64 cQ.vC,dL ae cQ.vV])],[],1⟩) (PS (PR [.tmp 2,.tmp 3] fun r=>.tu [dB r.1,dI .i64 r.2]) (PE cx (.exit 0) (fun ()=>[(1,.pt 0 0)]) fun ()=>⟨[(0,[dI .i64 cQ.vR,dI .i64 cQ.vC,dL ae cQ.vV])],[],1⟩)) hy ?_ ?_ ?_
 exact wk h0 [0] (wR rfl (wR rfl (wR rfl wTn))) (vR rfl wVn) wLn
 clear hy h
 rintro eh y h
 dsimp only[gf] at h
 refine ra hx ?_
 refine AW.seq (cdh h rfl (fun bU h=>?_) (fun bU h=>?_))
 refine AW.skip (AW.seq (AW.block ?_))
 iterate 2 refine ra hx ?_
 refine AW.block ?_
 obtain⟨y,hy,h⟩:=ah h
 refine lp (S:=Int) (X:=(Bool×Int)⊕Unit) (fun ez=>[(1,.pt 0 0),(4,dI .i64 eh),(23,dI .i64 cQ.vR),(24,dI .i64 eh),(27,dI .i64 eh),(28,dI .i64 ez)]) (fun ez=>⟨[(0,[dI .i64 cQ.vR,dI .i64 cQ.vC,dL ae cQ.vV])],[],1⟩) (PS (PR [.tmp 2,.tmp 3] fun r=>.tu [dB r.1,dI .i64 r.2]) (PE cx (.exit 2) (fun ()=>[(1,.pt 0 0),(23,dI .i64 cQ.vR),(24,dI .i64 eh)]) fun ()=>⟨[(0,[dI .i64 cQ.vR,dI .i64 cQ.vC,dL ae cQ.vV])],[],1⟩)) hy ?_ ?_ ?_
 exact wk h0 [0] (wR rfl (wR rfl (wR rfl (wR rfl (wR rfl (wR rfl wTn)))))) (vR rfl wVn) wLn
 clear hy h
 rintro ez y h
 dsimp only[ge] at h
 refine ra hx ?_
 refine AW.seq (cdh h rfl (fun nh h=>?_) (fun nh h=>?_))
 refine AW.skip (AW.seq (AW.block (ra hx ?_)))
 refine rsd [75] hx fun K hK=>?_
 refine s1 (d:=dG aE cQ) (bb aq) ?_
 iterate 2 refine sa ?_
 refine cqb h eg fun x8 h=>?_
 refine s1 (d:=dG aE cQ) (bb aq) ?_
 iterate 2 refine sa ?_
 refine cqb h eg fun fb h=>?_
 refine s1 (xG tok 4 (by decide) qX ax) ?_
 refine .nil (hK _ _ (cdh h rfl (fun mw h=>?_) (fun mw h=>?_)))
 refine ra hx ?_
 refine AW.ret ?_
 cases h
 refine PS.r ⟨by nofun,PS.l (PR.i ?_)⟩
 exact rv2
 refine AW.skip (rb hx ?_)
 cases h
 exact PS.l (pe0 h0 [0])
 refine AW.exit ?_
 try dsimp only
 try simp only[aO,reduceIte,Nat.reduceEqDiff,reduceCtorEq]
 cases h
 exact PS.r ⟨by nofun,PS.r (PE.i (wk h0 [0] (wR rfl (wR rfl (wR rfl wTn))) (vR rfl wVn) wLn))⟩
 rcases y with r|⟨⟩
 rintro ex tm' hp' ⟨rfl,hw⟩
 cases h
 exact PS.r ⟨by nofun,PS.l (PR.i hw)⟩
 rintro ex tm' hp' ⟨rfl,hw⟩
 try dsimp only
 try simp only[aO,reduceIte,Nat.reduceEqDiff,reduceCtorEq]
 refine AW.weak hw (rb hx ?_)
 cases h
 exact PS.l (pe0 h0 [0])
 refine AW.exit ?_
 try dsimp only
 try simp only[aO,reduceIte,Nat.reduceEqDiff,reduceCtorEq]
 cases h
 exact PS.r ⟨by nofun,PS.r (PE.i (wk h0 [0] (wR rfl wTn) (vR rfl wVn) wLn))⟩
 rcases y with r|⟨⟩
 rintro ex tm' hp' ⟨rfl,hw⟩
 cases h
 exact hw
 rintro ex tm' hp' ⟨rfl,hw⟩
 try dsimp only
 try simp only[aO,reduceIte,Nat.reduceEqDiff,reduceCtorEq]
 refine AW.weak hw (AW.seq (ra hx ?_))
 refine AW.block ?_
 obtain⟨y,hy,h⟩:=ah h
 refine lp (S:=Int) (X:=(Bool×Int)⊕Unit) (fun yJ=>[(1,.pt 0 0),(6,dI .i64 yJ)]) (fun yJ=>⟨[(0,[dI .i64 cQ.vR,dI .i64 cQ.vC,dL ae cQ.vV])],[],1⟩) (PS (PR [.tmp 2,.tmp 3] fun r=>.tu [dB r.1,dI .i64 r.2]) (PE cx (.exit 4) (fun ()=>[]) fun ()=>⟨[],[],0⟩)) hy ?_ ?_ ?_
 exact wk h0 [0] (wR rfl (wR rfl wTn)) (vR rfl wVn) wLn
 clear hy h
 rintro yJ y h
 dsimp only[ek] at h
 refine AW.seq (rs hx fun K hK=>?_)
 iterate 2 refine sa ?_
 refine s1 (aG aT) ?_
 refine sa ?_
 refine .nil (hK _ _ (cdh h rfl (fun sH h=>?_) (fun sH h=>?_)))
 refine AW.skip (AW.seq (AW.block (rs hx fun K hK=>?_)))
 iterate 2 refine sa ?_
 refine s1 vH ?_
 obtain⟨sy,Mn,h⟩:=ah h
 refine s1 (yX [0] rfl (zh Mn) (fA (al _) (fA (al _) (fA (al _) fAn))) (vR rfl wVn) wLn) ?_
 iterate 3 refine sa ?_
 refine s1 (d:=.pt 1 0) (bc aq) ?_
 refine s0 (bO (ds':=[dI .i64 sy.1.vR,dI .i64 sy.1.vC,dL ae sy.1.vV]) aq) ?_
 refine sa ?_
 refine .nil (hK _ _ (rs hx fun K hK=>?_))
 refine s1 (d:=dG aE sy.1) (bb aq) ?_
 refine scb h yc fun nt h=>?_
 iterate 3 refine sa ?_
 refine s1 (bq (F:=ae.f cb) ax) ?_
 refine s0 (aN (b':=nt.1) (ao.id _ _) ax) ?_
 refine sa ?_
 refine .nil (hK _ _ (AW.seq ?_))
 obtain⟨EY,hy,h⟩:=ah h
 refine jn ((PE cx .normal (fun EY=>[(1,.pt 0 0),(6,dI .i64 yJ),(10,dI .i64 nt.2),(66,dB EY)]) fun EY=>⟨[(0,[dI .i64 cQ.vR,dI .i64 cQ.vC,dL ae cQ.vV])],[],1⟩) EY) ?_ ?_
 replace h:=hy
 refine rq hx fun K hK=>?_
 iterate 3 refine sa ?_
 rcases aW (decide (nt.2≠(0:Int))) with xt|xt
 replace h:=aY xt h
 iterate 3 refine aJ rfl rfl xt ?_
 refine s1 (am xt) ?_
 refine .nil (hK _ _ ?_)
 cases h
 exact pe0 h0 [0]
 replace h:=aZ xt h
 refine g1 (d:=dG ae nt.1) xt (aA (ao.id _ _) ax) ?_
 obtain⟨uP,Oz,h⟩:=ah h
 refine g1 xt (cj rfl (yb Oz) (by simp only[bN,cl,cF,cZ,ck,cr];exact aM _ _) (lA (dT _ _) lAn) (.inl rfl)) ?_
 refine ga xt ?_
 refine s1 (au xt) ?_
 refine .nil (hK _ _ ?_)
 cases h
 exact pe0 h0 [0]
 rintro ex tm' hp' ⟨rfl,hw⟩
 refine AW.weak hw (cdh h rfl (fun z4 h=>?_) (fun z4 h=>?_))
 refine ra hx ?_
 refine AW.ret ?_
 cases h
 refine PS.r ⟨by nofun,PS.l (PR.i ?_)⟩
 exact rv2
 refine AW.skip (rb hx ?_)
 cases h
 exact PS.l (pe0 h0 [0])
 refine AW.exit ?_
 try dsimp only
 try simp only[aO,reduceIte,Nat.reduceEqDiff,reduceCtorEq]
 cases h
 exact PS.r ⟨by nofun,PS.r (PE.i (wk h0 [] wTn wVn wLn))⟩
 rcases y with r|⟨⟩
 rintro ex tm' hp' ⟨rfl,hw⟩
 cases h
 exact hw
 rintro ex tm' hp' ⟨rfl,hw⟩
 try dsimp only
 try simp only[aO,reduceIte,Nat.reduceEqDiff,reduceCtorEq]
 refine AW.weak hw (ra hx ?_)
 refine AW.ret ?_
 cases h
 exact rv2
section
theorem Dm {R C:Nat}{a:ee}{b:ap}(hR:R≤400)(hC:C≤400)(f:Nat→Nat→Nu)(hf:∀i k:Nat,i<R→k<C→mI (i:Int) (k:Int) a b=some (nv (f i k))):m3 R C a b=some (iQ R C (mkM R C f)):=by
 have H3:R*C≤400*400:=iS hR hC
 unfold m3
 rw[qi (R:=R) (C:=C) (by omega) f (by omega) (fun i hi acc wy=>?_) (fun l=>?_)]
 ·simp only[ab]
  rw[rP (by rw[br];omega)]
  simp only[ab]
  unfold iQ
  cases (mkM R C f).all cM <;> rfl
 ·unfold nj
  dsimp only
  rw[bF _ _,qP (C:=C) (by omega) (f i) acc wy (fun k hk l=>?_) (fun l=>?_)]
  ·rfl
  ·unfold mG
   dsimp only
   rw[bF _ _,hf i k hi hk]
   rfl
  ·unfold mG
   dsimp only
   rw[bA _ _]
 ·unfold nj
  dsimp only
  rw[bA _ _]
theorem Bi {R C:Nat}{a:ap}(hR:R≤400)(hC:C≤400)(f:Nat→Nat→Nu)(hf:∀i k:Nat,i<R→k<C→gg (i:Int) (k:Int) a=some (nv (f i k))):j8 R C a=some (iQ R C (mkM R C f)):=by
 have H3:R*C≤400*400:=iS hR hC
 unfold j8
 rw[qi (R:=R) (C:=C) (by omega) f (by omega) (fun i hi acc wy=>?_) (fun l=>?_)]
 ·simp only[ab]
  rw[rP (by rw[br];omega)]
  simp only[ab]
  unfold iQ
  cases (mkM R C f).all cM <;> rfl
 ·unfold jN
  dsimp only
  rw[bF _ _,qP (C:=C) (by omega) (f i) acc wy (fun k hk l=>?_) (fun l=>?_)]
  ·rfl
  ·unfold jp
   dsimp only
   rw[bF _ _,hf i k hi hk]
   rfl
  ·unfold jp
   dsimp only
   rw[bA _ _]
 ·unfold jN
  dsimp only
  rw[bA _ _]
abbrev sE(R C:Nat)(V:List Nu):Option (List Nu×List Pv):=oB R C C 0 0 V []
def lM(acc:List Pv):List Int:=acc.map fun p=>(p.col:Int)
theorem u6 {R C:Nat}:∀{n k r:Nat} {V:List Nu} {acc:List Pv} {W:List Nu} {l:List Pv},oB R C n k r V acc=some (W,l)→l.length≤acc.length+n
 |0,_,_,_,_,_,_,h=>by
  unfold oB at h
  injection h with h
  injection h with h1 h2
  rw[←h2];omega
 |n+1,k,r,V,acc,W,l,h=>by
  unfold oB at h
  split at h
  ·split at h
   ·have:=u6 h;omega
   ·split at h
    ·have:=u6 h
     rw[fg] at this
     simp at this;omega
    ·cases h
  ·injection h with h
   injection h with h1 h2
   rw[←h2];omega
theorem zF {R C:Nat}:∀{n k r:Nat} {V:List Nu} {acc:List Pv} {W:List Nu} {l:List Pv},acc.length=r→r≤R→oB R C n k r V acc=some (W,l)→l.length≤R
 |0,_,_,_,_,_,_,ha,hr,h=>by
  unfold oB at h
  injection h with h
  injection h with h1 h2
  rw[←h2];omega
 |n+1,k,r,V,acc,W,l,ha,hr,h=>by
  unfold oB at h
  split at h
  ·rename_i cg
   split at h
   ·exact zF ha hr h
   ·split at h
    ·exact zF (by rw[fg,ha];rfl) cg h
    ·cases h
  ·injection h with h
   injection h with h1 h2
   rw[←h2];omega
theorem Fo {R C:Nat}{V W:List Nu}{l:List Pv}(h:sE R C V=some (W,l)):l.length≤R:=zF (r:=0) (acc:=[]) rfl (fH _) h
section
variable {V B:List Nu} {r c:Nat}
theorem vO(hr:r≤1000)(hc:c≤1000)(hV:V.length=r*c):e9 (mS r c V)=some (AA r c (sE r c V)):=by
 have H3:r*c≤1000*1000:=iS hr hc
 unfold e9
 rw[aQ ⟨by show (0:Int)≤r;omega,by show (0:Int)≤c;omega,by show (r:Int)≤1000000;omega,by show (c:Int)≤1000000;omega,by show (r:Int).toNat*(c:Int).toNat≤1000000;rw[bh,bh];omega,by show (V.map nv).length=(r:Int).toNat*(c:Int).toNat;rw[bH,bh,bh];exact hV,okL_nv V⟩]
 show some (AA (r:Int) (c:Int) (oB (r:Int).toNat (c:Int).toNat (c:Int).toNat 0 0 ((V.map nv).map uF) []))=_
 rw[map_nv,bh,bh]
theorem KK {m:ap}{acc:List Pv}(h:acc.length≤1000000):cR ⟨m,acc.map pvS⟩=some (lM acc):=by
 unfold cR
 have:=eK (b:=eV ⟨m,acc.map pvS⟩) (fun k=>(lM (acc.take k),(k:Int))) 0 acc.length (lM acc) (fH _) (fun k _ hk=>?_) ?_
 ·rw[show (lM (acc.take 0),((0:Nat):Int))=(([]:List Int),(0:Int)) from rfl] at this
  rw[this];rfl
 ·unfold eV
  dsimp only
  have e:((acc.map pvS)[k]!).vcol=((acc[k]).col:Int):=by
   rw[yG,dZ,fI hk];rfl
  have e2:lM (acc.take k)++[((acc[k]).col:Int)]=lM (acc.take (k+1)):=by
   unfold lM
   rw[List.take_succ,fI hk,nd];rfl
  rw[bH,bF _ _,aI,bh,e,e2,aI (by unfold lM;rw[bH,ff];omega),w64]
  rfl
 ·unfold eV
  dsimp only
  rw[bH,bA _ _,Ke]
end
def Bn(R C:Int)(V:List Nu):ap×List Int×Int:=if aX R C V=0 then match sE R.toNat C.toNat V with
 |some (U,acc)=>(mS R C U,lM acc,0)
 |none=>(mZ,[],30) else (mZ,[],1)
theorem IJ {R C:Int}{V:List Nu}(hV:V.length≤1000000):i2 (mS R C V)=some (Bn R C V):=by
 unfold i2 Bn
 rw[nH hV]
 simp only[ab]
 by_cases h1:aX R C V=0
 ·rw[aQ h1]
  obtain⟨r,c,rfl,rfl,hm⟩:=cX.1 h1
  have h3:=hm.r
  have h4:=hm.c
  rw[h1,show (!decide ((0:Int)=0))=false by simp,kF,vO (by omega) (by omega) hm.len,bh,bh]
  simp only[ab]
  cases qQ:sE r c V with
  |none=>rfl
  |some p=>
   obtain⟨U,acc⟩:=p
   have:=u6 qQ
   show bnd (cR ⟨mS r c U,acc.map pvS⟩) _=_
   rw[KK (by simp at this;omega)];rfl
 ·rw[aV h1,show (!decide (aX R C V=0))=true by simp[h1],kT]
abbrev rZ:aj:=⟨⟨false,false,Vector.replicate 16 0⟩,⟨false,false,Vector.replicate 16 0⟩⟩
def pI(acc:List Pv):Int:=acc.foldl (fun s p=>if p.mov then -s else s) 1
def ur(s:Int)(acc:List Pv):Nu:=acc.foldl (fun x p=>uG x p.by') (nOf s)
def detR(n:Nat)(o:Option (List Nu×List Pv)):aj×Int:=match o with
 |none=>(rZ,30)
 |some (_,acc)=>if acc.length<n then (nv (nOf 0),0) else if cM (ur (pI acc) acc) then (nv (ur (pI acc) acc),0) else (rZ,30)
def detP(R C:Int)(V:List Nu):aj×Int:=if aX R C V=0∧R=C then detR R.toNat (sE R.toNat R.toNat V) else (rZ,1)
theorem KX(acc:List Pv)(s:Int)(h:s=1∨s=-1):acc.foldl (fun s p=>if p.mov then -s else s) s=1∨acc.foldl (fun s p=>if p.mov then -s else s) s=-1:=by
 induction acc generalizing s with
 |nil=>exact h
 |cons p acc ih=>
  rw[List.foldl_cons]
  refine ih _ ?_
  rcases h with rfl|rfl <;> cases p.mov <;> simp
theorem Pj {acc:List Pv}{k:Nat}(hk:k<acc.length):(acc.map pvS)[k]! =pvS acc[k]:=by
 rw[yG,dZ,fI hk];rfl
theorem P_Det {R C:Int}{V:List Nu}(hV:V.length≤1000000):m4 (mS R C V)=some (detP R C V):=by
 unfold m4 detP
 rw[nH hV]
 simp only[ab,kOr]
 by_cases h0:aX R C V=0∧R=C
 ·rw[aQ h0]
  obtain⟨h1,rfl⟩:=h0
  obtain⟨r,c,rfl,hc,hm⟩:=cX.1 h1
  obtain rfl:r=c:=by omega
  have h3:=hm.r
  rw[h1,show (!decide ((0:Int)=0)||decide ((r:Int)≠r))=false by simp,kF,vO (by omega) (by omega) hm.len,bh]
  simp only[ab]
  cases qQ:sE r r V with
  |none=>rfl
  |some p=>
   obtain⟨U,acc⟩:=p
   have hal:=u6 qQ
   rw[List.length_nil,dA] at hal
   rw[show AA (r:Int) (r:Int) (some (U,acc))=((⟨mS r r U,acc.map pvS⟩:ee),(0:Int)) from rfl]
   dsimp only
   rw[bA _ _ (by simp),bH]
   unfold detR
   by_cases hl:acc.length<r
   ·rw[bF _ _,uOf]
    dsimp only
    rw[aQ hl];rfl
   ·rw[bA _ _]
    dsimp only
    rw[aV hl]
    have k1:=eK (b:=kj (⟨mS r r U,acc.map pvS⟩,0)) (fun k=>(pI (acc.take k),(k:Int))) 0 acc.length (pI acc) (fH _) (fun k _ hk=>?_) ?_
    ·rw[show (pI (acc.take 0),((0:Nat):Int))=((1:Int),(0:Int)) from rfl] at k1
     rw[k1]
     simp only[ab]
     have hs:=KX acc 1 (.inl rfl)
     rw[uOf (by show -9223372036854775808≤pI acc;unfold pI;omega) (by show pI acc≤_;unfold pI;omega)]
     simp only[ab]
     have k2:=eK (b:=kg (⟨mS r r U,acc.map pvS⟩,0)) (fun k=>((k:Int),nv (ur (pI acc) (acc.take k)))) 0 acc.length (nv (ur (pI acc) acc)) (fH _) (fun k _ hk=>?_) ?_
     ·rw[show (((0:Nat):Int),nv (ur (pI acc) (acc.take 0)))=((0:Int),nv (nOf (pI acc))) from rfl] at k2
      rw[k2]
      simp only[ab,Nr]
      cases cM (ur (pI acc) acc) <;> rfl
     ·unfold kg
      dsimp only
      rw[bH,bF _ _,aI,bh,Pj hk]
      show bnd (eO (nv (ur (pI acc) (acc.take k))) (nv (acc[k]).by')) _=_
      rw[uMul]
      simp only[ab]
      rw[w64]
      have:ur (pI acc) (acc.take (k+1))=uG (ur (pI acc) (acc.take k)) (acc[k]).by':=by
       unfold ur
       rw[List.take_succ,fI hk,List.foldl_append];rfl
      rw[this];rfl
     ·unfold kg
      dsimp only
      rw[bH,bA _ _,Ke]
    ·unfold kj
     dsimp only
     rw[bH,bF _ _,aI,bh,Pj hk]
     have hs:=KX (acc.take k) 1 (.inl rfl)
     have e2:pI (acc.take (k+1))=if (acc[k]).mov then -pI (acc.take k) else pI (acc.take k):=by
      unfold pI
      rw[List.take_succ,fI hk,List.foldl_append];rfl
     rw[e2]
     show bnd (cnd (acc[k]).mov _ _) _=_
     have w1:i64.wrap (0 - pI (acc.take k))=-pI (acc.take k):=by
      rw[w64 (by unfold pI;omega) (by unfold pI;omega)];omega
     rw[w1,w64 (n:=(k:Int)+1)]
     cases (acc[k]).mov <;> rfl
    ·unfold kj
     dsimp only
     rw[bH,bA _ _,Ke]
 ·rw[aV h0]
  have e:(!decide (aX R C V=0)||decide (R≠C))=true:=by
   by_cases a:aX R C V=0
   ·by_cases b:R=C
    ·exact absurd ⟨a,b⟩ h0
    ·simp[b]
   ·simp[a]
  rw[e,kT]
theorem Do {l:List Int}(h:l.length≤1000000)(v:Int):dQ l v=some (l.any fun x=>decide (v=x)):=by
 unfold dQ ia
 have key:=Bt (b:=eL l v) (n:=l.length) h (fun i=>decide (v=l[i]!)) (fun i hi=>by
  unfold eL
  rw[bF _ _,aI,bh]) (by
  unfold eL
  rw[bA _ _])
 rw[LE l (fun x=>decide (v=x))] at key
 rcases key with⟨h1,h2⟩|⟨j,h1,h2⟩ <;> rw[h1,h2]
 ·rfl
 ·simp[bnd]
def solvR(c:Nat)(o:Option (List Nu×List Pv)):List aj×Int:=match o with
 |none=>([],30)
 |some (U,acc)=>if (lM acc).any (fun x=>decide ((c:Int)=x)) then ([],200) else if acc.length<c then ([],70) else (((List.range acc.length).map fun i=>U[i*(c+1)+c]!).map nv,0)
def Hv(R C:Int)(A b:List Nu):List aj×Int:=if aX R C A=0∧(b.length:Int)=R∧b.all cM=true then (if 200<C+1 then ([],2) else solvR C.toNat (sE R.toNat (C.toNat+1) (mkM R.toNat (C.toNat+1) (uL C.toNat 1 A b)))) else ([],1)
theorem bes1 {r c:Nat}{A b:List Nu}(hm:MV r c A)(hb:b.length=r)(hg:b.all cM=true):MV r 1 b:=⟨hm.r,by decide,by rw[hb,uc],hg⟩
theorem LB {r c c':Nat}{A B:List Nu}(hm:MV r c A)(tU:MV r c' B)(hc:(200:Int)<(c:Int)+(c':Int)):Eg (r:Int) (c:Int) A (r:Int) (c':Int) B=(mZ,2):=by
 unfold Eg
 rw[aQ ⟨hm.chk,tU.chk,rfl⟩,aQ hc]
theorem LA {r c c':Nat}{A B:List Nu}(hm:MV r c A)(tU:MV r c' B)(hc:¬(200:Int)<(c:Int)+(c':Int)):Eg (r:Int) (c:Int) A (r:Int) (c':Int) B=(mS r ((c+c':Nat):Int) (mkM r (c+c') (uL c c' A B)),0):=by
 unfold Eg
 rw[aQ ⟨hm.chk,tU.chk,rfl⟩,aV hc,show ((c:Int)+(c':Int))=((c+c':Nat):Int) by omega]
 simp only[bh]
 exact P3 hm tU
theorem GM {R C:Int}{A b:List Nu}(hA:A.length≤1000000)(hb:b.length≤1000000):iE (mS R C A) (b.map nv)=some (Hv R C A b):=by
 unfold iE Hv
 rw[nH hA]
 simp only[ab,rP hb,kOr,bH]
 by_cases h0:aX R C A=0∧(b.length:Int)=R∧b.all cM=true
 ·rw[aQ h0]
  obtain⟨h1,h2,h5⟩:=h0
  obtain⟨r,c,rfl,rfl,hm⟩:=cX.1 h1
  have h3:=hm.r
  have h4:=hm.c
  have Mt:=bes1 hm (by omega) h5
  rw[h1,h5,show (!decide ((0:Int)=0)||(decide ((b.length:Int)≠(r:Int))||!true))=false by simp[h2],kF]
  rw[show (⟨(r:Int),(1:Int),b.map nv⟩:ap)=mS (r:Int) ((1:Nat):Int) b from rfl,Dp hA hb]
  by_cases hc:(200:Int)<(c:Int)+((1:Nat):Int)
  ·rw[LB hm Mt hc,aQ (show (200:Int)<(c:Int)+1 by omega)];rfl
  ·rw[LA hm Mt hc,aV (show ¬(200:Int)<(c:Int)+1 by omega)]
   simp only[ab,bh]
   rw[bA _ _ (by simp),vO (by omega) (by omega) br]
   simp only[ab]
   cases qQ:sE r (c+1) (mkM r (c+1) (uL c 1 A b)) with
   |none=>rfl
   |some p=>
    obtain⟨U,acc⟩:=p
    have hal:=u6 qQ
    rw[List.length_nil,dA] at hal
    have hU:=n5 br qQ
    have hle:acc.length≤r:=Fo qQ
    have H3:r*(c+1)≤200*201:=iS h3 (by omega)
    show cnd (decide ((0:Int)≠0)) _ (bnd (cR ⟨mS r ((c+1:Nat):Int) U,acc.map pvS⟩) _)=_
    rw[bA _ _ (by simp),KK (by omega)]
    simp only[ab]
    rw[Do (by unfold lM;rw[bH];omega)]
    simp only[ab]
    unfold solvR
    dsimp only
    cases hany:(lM acc).any fun x=>decide ((c:Int)=x) with
    |true=>rfl
    |false=>
     rw[kF]
     show cnd (decide (((acc.map pvS).length:Int)<(c:Int))) _ (bnd (bf (gl (mS r c A) (⟨mS r ((c+1:Nat):Int) U,acc.map pvS⟩,0)) (([]:List aj),(0:Int))) _)=_
     rw[bH]
     by_cases hl:acc.length<c
     ·rw[bF _ _,aQ hl];rfl
     ·rw[bA _ _,aV hl]
      have key:=eK (b:=gl (mS r c A) (⟨mS r ((c+1:Nat):Int) U,acc.map pvS⟩,0)) (fun k=>(((List.range k).map fun i=>U[i*(c+1)+c]!).map nv,(k:Int))) 0 acc.length (((List.range acc.length).map fun i=>U[i*(c+1)+c]!).map nv) (fH _) (fun k _ hk=>?_) ?_
      ·rw[show (((List.range 0).map fun i=>U[i*(c+1)+c]!).map nv,((0:Nat):Int))=(([]:List aj),(0:Int)) from rfl] at key
       rw[key];rfl
      ·unfold gl
       dsimp only
       rw[bH,bF _ _,qza6 hU (by omega) (by omega) (by omega)]
       simp only[ab]
       rw[aI (by simp;omega),w64,w7]
       simp
      ·unfold gl
       dsimp only
       rw[bH,bA _ _]
 ·rw[aV h0]
  have e:(!decide (aX R C A=0)||(decide ((b.length:Int)≠R)||!b.all cM))=true:=by
   by_cases a:aX R C A=0
   ·by_cases d:(b.length:Int)=R
    ·by_cases e:b.all cM=true
     ·exact absurd ⟨a,d,e⟩ h0
     ·simp only[Bool.not_eq_true] at e;simp[e]
    ·simp[d]
   ·simp[a]
  rw[e,kT]
end
theorem Jp {R:Type}{n:Nat}(hn:n≤1000000)(ok:Nat→Bool)(res:R){b:Int→Option (Int⊕(R⊕Unit))}(h:∀i:Nat,i<n→b i=cnd (!ok i) (some (.inr (.inl res))) (some (.inl (i64.wrap ((i:Int)+(1:Int))))))(he:b n=some (.inr (.inr ()))):
  bf b (0:Int)=some (if (List.range n).all ok then .inr () else .inl res):=by
 have key:∀m i:Nat,i+m=n→bf b (i:Int)=some (if (List.range' i m).all ok then .inr () else .inl res):=by
  intro m
  induction m with
  |zero=>
       intro i hi;obtain rfl:i=n:=by omega
       exact eF he
  |succ m ih=>
   intro i hi
   have hb:=h i (by omega)
   rw[yF,cF]
   cases hk:ok i with
   |false=>
    rw[hk] at hb
    rw[eF (by rw[hb];rfl)];rfl
   |true=>
    rw[hk,w64] at hb
    rw[lS (by rw[hb];rfl)]
    exact ih (i+1) (by omega)
 rw[show ((0:Int))=((0:Nat):Int) from rfl,key n 0 (by omega),EV]
theorem dne {α:Type}[DecidableEq α](a b:α):decide (a≠b)= !decide (a=b):=by by_cases h:a=b <;> simp[h]
theorem id_MV {n:Nat}(h:n≤200):MV n n (mkM n n idF):=⟨h,h,br,Fu.2 fun i k _ _=>HW i k⟩
def PF(acc:List Pv):Bool:=(List.range acc.length).all fun i=>decide ((((acc.map pvS)[i]!).vcol:Int)=i)
def invF(n:Nat)(U:List Nu)(i k:Nat):Nu:=U[i*(n+n)+(n+k)]!
def invR(n:Nat)(o:Option (List Nu×List Pv)):ap×Int:=match o with
 |none=>(mZ,30)
 |some (U,acc)=>if PF acc then iQ n n (mkM n n (invF n U)) else (mZ,70)
def invP(R C:Int)(A:List Nu):ap×Int:=if aX R C A=0∧R=C then (if 200<R+R then (mZ,2) else invR R.toNat (sE R.toNat (R.toNat+R.toNat) (mkM R.toNat (R.toNat+R.toNat) (uL R.toNat R.toNat A (mkM R.toNat R.toNat idF))))) else (mZ,1)
theorem idP_nat {n:Nat}(h:n≤200):idP (n:Int)=mS n n (mkM n n idF):=by
 unfold idP
 rw[ifn_,bh]
theorem P_Inverse {R C:Int}{A:List Nu}(hA:A.length≤1000000):th (mS R C A)=some (invP R C A):=by
 unfold th invP
 rw[nH hA]
 simp only[ab,kOr]
 by_cases h0:aX R C A=0∧R=C
 ·rw[aQ h0]
  obtain⟨h1,rfl⟩:=h0
  obtain⟨n,c,rfl,hc,hm⟩:=cX.1 h1
  obtain rfl:n=c:=by omega
  have h3:=hm.r
  rw[h1,show (!decide ((0:Int)=0)||decide ((n:Int)≠n))=false by simp,kF,xK]
  simp only[ab]
  rw[idP_nat h3,Dp hA (by rw[br];have:=hm.rc;omega)]
  have hi:=id_MV h3
  by_cases hb:(200:Int)<(n:Int)+(n:Int)
  ·rw[LB hm hi hb,aQ hb];rfl
  ·rw[LA hm hi hb,aV hb]
   simp only[ab,bh]
   rw[bA _ _ (by simp),vO (by omega) (by omega) br]
   simp only[ab]
   cases qQ:sE n (n+n) (mkM n (n+n) (uL n n A (mkM n n idF))) with
   |none=>rfl
   |some p=>
    obtain⟨U,acc⟩:=p
    have hU:=n5 br qQ
    have hle:acc.length≤n:=Fo qQ
    have H3:n*(n+n)≤200*200:=iS h3 (by omega)
    rw[show AA (n:Int) ((n+n:Nat):Int) (some (U,acc))=((⟨mS n ((n+n:Nat):Int) U,acc.map pvS⟩:ee),(0:Int)) from rfl]
    dsimp only
    rw[bA _ _ (by simp)]
    rw[Jp (b:=jw (⟨mS n ((n+n:Nat):Int) U,acc.map pvS⟩,0)) (n:=acc.length) (by omega) (fun i=>decide ((((acc.map pvS)[i]!).vcol:Int)=i)) (mZ,70) (fun i hi2=>?_) ?_]
    ·unfold invR
     dsimp only
     show bnd (some (if PF acc then _ else _)) _=_
     cases hd:PF acc with
     |false=>rfl
     |true=>
      show bnd (m3 (n:Int) (n:Int) ⟨mS n ((n+n:Nat):Int) U,acc.map pvS⟩ (mS n n A)) _=_
      rw[Dm (by omega) (by omega) (invF n U) (fun i k hi2 hk=>?_)]
      ·rfl
      ·unfold mI
       dsimp only
       rw[w64,show (n:Int)+(k:Int)=((n+k:Nat):Int) by omega,qza6 hU (by omega) hi2 (by omega)]
       rfl
    ·unfold jw
     dsimp only
     rw[bH,bA _ _]
    ·unfold jw
     dsimp only
     rw[bH,bF _ _,aI,bh,dne]
 ·rw[aV h0]
  have e:(!decide (aX R C A=0)||decide (R≠C))=true:=by
   by_cases a:aX R C A=0
   ·by_cases b:R=C
    ·exact absurd ⟨a,b⟩ h0
    ·simp[b]
   ·simp[a]
  rw[e,kT]
def J5(acc:List Pv)(i:Nat):Nat:=(acc[i]!).col
def rm(C:Nat)(U:List Nu)(acc:List Pv)(k:Nat):Nat→List Nu
 |0=>(List.replicate C (nOf 0)).set k (nOf 1)
 |n+1=>if J5 acc n<k then (rm C U acc k n).set (J5 acc n) (N8 U[n*C+k]!) else rm C U acc k n
theorem v5 {C:Nat}{U:List Nu}{acc:List Pv}{k:Nat}:∀n,(rm C U acc k n).length=C
 |0=>by simp[rm]
 |n+1=>by
  unfold rm
  split
  ·rw[CK];exact v5 n
  ·exact v5 n
def ym(C:Nat)(acc:List Pv):List Nat:=(List.range C).filter fun k=>!(lM acc).any fun x=>decide ((k:Int)=x)
def nullR(C:Nat)(o:Option (List Nu×List Pv)):List (List Nu)×Int:=match o with
 |none=>([],30)
 |some (U,acc)=>((ym C acc).map fun k=>rm C U acc k acc.length,0)
def K4(R C:Int)(V:List Nu):List (List Nu)×Int:=if aX R C V=0 then nullR C.toNat (sE R.toNat C.toNat V) else ([],1)
theorem MJ {acc:List Pv}{i:Nat}(h:i<acc.length):(lM acc)[i]! =((J5 acc i:Nat):Int):=by
 unfold lM J5
 rw[yG,yG,dZ,fI h];rfl
theorem Jm {C:Nat}{acc:List Pv}:ym (C+1) acc=ym C acc++if ((lM acc).any fun x=>decide ((C:Int)=x)) then [] else [C]:=by
 unfold ym
 rw[w7,List.filter_append]
 congr 1
 rw[Km]
 cases ((lM acc).any fun x=>decide ((C:Int)=x)) <;> rfl
theorem P_Null {R C:Int}{V:List Nu}(hV:V.length≤1000000):lZ (mS R C V)=some ((K4 R C V).1.map (List.map nv),(K4 R C V).2):=by
 unfold lZ K4
 rw[nH hV]
 simp only[ab]
 by_cases h1:aX R C V=0
 ·rw[aQ h1]
  obtain⟨r,c,rfl,rfl,hm⟩:=cX.1 h1
  have h3:=hm.r
  have h4:=hm.c
  have h5:=hm.rc
  rw[h1,show (!decide ((0:Int)=0))=false by simp,kF,vO (by omega) (by omega) hm.len,bh,bh]
  simp only[ab]
  cases qQ:sE r c V with
  |none=>rfl
  |some p=>
   obtain⟨U,acc⟩:=p
   have hU:=n5 hm.len qQ
   have hle:acc.length≤r:=Fo qQ
   rw[show AA (r:Int) (c:Int) (some (U,acc))=((⟨mS r c U,acc.map pvS⟩:ee),(0:Int)) from rfl]
   dsimp only
   rw[bA _ _ (by simp),KK (by omega)]
   simp only[ab]
   have key:=eK (b:=jv (mS r c V) (⟨mS r c U,acc.map pvS⟩,0) (lM acc)) (fun k=>(((ym k acc).map fun j=>rm c U acc j acc.length).map (List.map nv),(k:Int))) 0 c (((ym c acc).map fun j=>rm c U acc j acc.length).map (List.map nv)) (fH _) (fun k _ hk=>?_) ?_
   ·rw[show (((ym 0 acc).map fun j=>rm c U acc j acc.length).map (List.map nv),((0:Nat):Int))=(([]:List (List aj)),(0:Int)) from rfl] at key
    rw[key];rfl
   ·unfold jv
    dsimp only
    have hkl:(ym k acc).length≤k:=by unfold ym;exact da (Gk _ _) (by rw[Gv];omega)
    rw[bF _ _,Do (by unfold lM;rw[bH];omega),Jm]
    simp only[ab]
    cases hany:(lM acc).any fun x=>decide ((k:Int)=x) with
    |true=>
     rw[kT]
     simp only[ab]
     rw[w64];simp only[aO,vo];rfl
    |false=>
     rw[kF,uOf]
     simp only[ab]
     have dK:gT [nv (nOf 0)] (c:Int)=some ((List.replicate c (nOf 0)).map nv):=by
      unfold gT
      dsimp only
      rw[aQ ⟨(nOf 0).2,by omega,by omega⟩,bh,LG]
     rw[dK,uOf]
     simp only[ab]
     rw[aI ⟨by omega,by rw[bH,vh];omega,by rw[bH,vh];omega⟩,bh,←List.map_set]
     have inner:=eK (b:=ju (⟨mS r c U,acc.map pvS⟩,0) (lM acc) (k:Int) ((List.replicate c (nOf 0)).map nv)) (fun n=>((n:Int),(rm c U acc k n).map nv)) 0 acc.length ((rm c U acc k acc.length).map nv) (fH _) (fun n _ hn=>?_) ?_
     ·rw[show (((0:Nat):Int),(rm c U acc k 0).map nv)=((0:Int),((List.replicate c (nOf 0)).set k (nOf 1)).map nv) from rfl] at inner
      rw[inner]
      simp only[ab]
      rw[aI (by simp[v5]),aI (by simp;omega),w64]
      simp only[ab]
      simp only[Bool.false_eq_true,vj,nd];rfl
     ·unfold ju
      dsimp only
      have Ci:(lM acc).length=acc.length:=by unfold lM;rw[bH]
      rw[Ci,bF _ _,aI,bh,MJ hn]
      rw[show rm c U acc k (n+1)=if J5 acc n<k then (rm c U acc k n).set (J5 acc n) (N8 U[n*c+k]!) else rm c U acc k n from rfl]
      by_cases cg:J5 acc n<k
      ·rw[bF _ _,aQ cg,qza6 hU (by omega) (by omega) hk]
       simp only[ab,uNeg]
       rw[aI ⟨by omega,by rw[bH,vh];omega,by rw[bH,v5];omega⟩,bh,←List.map_set,w64]
       rfl
      ·rw[bA _ _,aV cg]
       simp only[ab]
       rw[w64];rfl
     ·unfold ju
      dsimp only
      rw[show (lM acc).length=acc.length by unfold lM;rw[bH],bA _ _]
   ·unfold jv
    dsimp only
    rw[bA _ _]
 ·rw[aV h1,show (!decide (aX R C V=0))=true by simp[h1],kT];rfl
def z9(n:Nat)(o:Option (List Nu×List Pv)):Nu×Int:=match o with
 |none=>(nOf 0,30)
 |some (_,acc)=>if acc.length<n then (nOf 0,0) else if cM (ur (pI acc) acc) then (ur (pI acc) acc,0) else (nOf 0,30)
theorem detR_eq(n:Nat)(o:Option (List Nu×List Pv)):detR n o=(if (z9 n o).2=0 then nv (z9 n o).1 else rZ,(z9 n o).2):=by
 unfold detR z9
 cases o with
 |none=>rfl
 |some p=>
  obtain⟨U,acc⟩:=p
  dsimp only
  split
  ·rfl
  ·split <;> rfl
def ux(n:Nat)(V:List Nu)(i k:Nat):Nu:=V[i*n+k]!
def Ma(n:Nat)(V:List Nu):Nat→Nat→Bool×Int
 |0,_=>(true,0)
 |m+1,j=>if (z9 j (sE j j (mkM j j (ux n V)))).2≠0∨va (z9 j (sE j j (mkM j j (ux n V)))).1≤0 then (false,(z9 j (sE j j (mkM j j (ux n V)))).2) else Ma n V m (j+1)
def symP(n:Nat)(V:List Nu):Bool:=(List.range n).all fun i=>(List.range i).all fun k=>decide (V[i*n+k]! =V[k*n+i]!)
def K1(R C:Int)(V:List Nu):Bool×Int:=if aX R C V=0∧R=C then (if symP R.toNat V then Ma R.toNat V R.toNat 1 else (false,0)) else (false,1)
theorem lead_MV {n j:Nat}{V:List Nu}(hm:MV n n V)(hj:j≤n):MV j j (mkM j j (ux n V)):=⟨da hj hm.r,da hj hm.r,br,Fu.2 fun i k hi hk=>hm.gd (cK (by omega) (by omega))⟩
theorem Dn {R C:Int}{V:List Nu}(hV:V.length≤1000000):gI (mS R C V)=some (K1 R C V):=by
 unfold gI K1
 rw[nH hV]
 simp only[ab,kOr]
 by_cases h0:aX R C V=0∧R=C
 ·rw[aQ h0]
  obtain⟨h1,rfl⟩:=h0
  obtain⟨n,c,rfl,hc,hm⟩:=cX.1 h1
  obtain rfl:n=c:=by omega
  have h3:=hm.r
  have h5:=hm.rc
  rw[h1,show (!decide ((0:Int)=0)||decide ((n:Int)≠n))=false by simp,kF,bh]
  rw[Jp (b:=gf (mS n n V)) (n:=n) (by omega) (fun i=>(List.range i).all fun k=>decide (V[i*n+k]! =V[k*n+i]!)) (false,0) (fun i hi=>?_) ?_]
  ·show bnd (some (if symP n V then _ else _)) _=_
   cases hs:symP n V with
   |false=>rfl
   |true=>
    show bnd (bf (ek (mS n n V)) (1:Int)) _=some (Ma n V n 1)
    have key:∀m j:Nat,j+m=n+1→∃z,bf (ek (mS n n V)) (j:Int)=some z∧((z=.inr ()∧Ma n V m j=(true,0))∨z=.inl (Ma n V m j)):=by
     intro m
     induction m with
     |zero=>
      intro j hj
      refine⟨.inr (),eF ?_,.inl ⟨rfl,rfl⟩⟩
      unfold ek
      dsimp only
      rw[bA _ _]
     |succ m ih=>
      intro j hj
      have hb:ek (mS n n V) (j:Int)=if (z9 j (sE j j (mkM j j (ux n V)))).2≠0∨va (z9 j (sE j j (mkM j j (ux n V)))).1≤0 then some (.inr (.inl (false,(z9 j (sE j j (mkM j j (ux n V)))).2))) else some (.inl ((j+1:Nat):Int)):=by
       unfold ek
       dsimp only
       have hl:=lead_MV hm (show j≤n by omega)
       rw[bF _ _,Bi (by omega) (by omega) (ux n V) (fun i k hi hk=>by unfold gg;rw[qza6 hm.len (by omega) (by omega) (by omega)];rfl)]
       simp only[ab]
       rw[tP (f:=ux n V) fun i k hi hk=>hm.gd (cK (show i<n by omega) (show k<n by omega))]
       dsimp only
       rw[P_Det (by rw[br];have:=hl.rc;omega)]
       unfold detP
       rw[aQ ⟨hl.chk,rfl⟩,bh,detR_eq]
       simp only[ab]
       generalize z9 j (sE j j (mkM j j (ux n V)))=d
       by_cases hd:d.2=0
       ·rw[bA _ _ (by simpa using hd),aQ hd,uSign]
        simp only[ab]
        by_cases JC:va d.1≤0
        ·rw[bF _ _ JC,aQ (.inr JC)]
        ·rw[bA _ _ JC,aV (by intro h;rcases h with h|h;exact h hd;exact JC h),w64];rfl
       ·rw[bF _ _ hd,aQ (.inl hd)]
        simp only[ab]
        rw[kT]
      unfold Ma
      by_cases hd:(z9 j (sE j j (mkM j j (ux n V)))).2≠0∨va (z9 j (sE j j (mkM j j (ux n V)))).1≤0
      ·rw[aQ hd] at hb
       rw[aQ hd]
       exact⟨_,eF hb,.inr rfl⟩
      ·rw[aV hd] at hb
       rw[aV hd,lS hb]
       exact ih (j+1) (by omega)
    obtain⟨z,hz,h6⟩:=key n 1 (by omega)
    rw[show (((1:Nat):Int))=1 from rfl] at hz
    rw[hz]
    rcases h6 with⟨rfl,h6⟩|rfl
    ·rw[h6];rfl
    ·rfl
  ·unfold gf
   dsimp only
   rw[bA _ _]
  ·unfold gf
   dsimp only
   rw[bF _ _,Jp (b:=ge (mS n n V) (i:Int)) (n:=i) (by omega) (fun k=>decide (V[i*n+k]! =V[k*n+i]!)) (false,0) (fun k hk=>?_) ?_]
   ·simp only[ab]
    cases (List.range i).all fun k=>decide (V[i*n+k]! =V[k*n+i]!) <;> rfl
   ·unfold ge
    try dsimp only
    rw[bA _ _]
   ·unfold ge
    try dsimp only
    rw[bF _ _,qza6 hm.len (by omega) hi (by omega),qza6 hm.len (by omega) (by omega) hi]
    simp only[ab,nv_eq]
    have:decide (¬V[i*n+k]! =V[k*n+i]!)= !decide (V[i*n+k]! =V[k*n+i]!):=dne _ _
    rw[this]
 ·rw[aV h0]
  have e:(!decide (aX R C V=0)||decide (R≠C))=true:=by
   by_cases a:aX R C V=0
   ·by_cases b:R=C
    ·exact absurd ⟨a,b⟩ h0
    ·simp[b]
   ·simp[a]
  rw[e,kT]
end
end Go.Proofs.YtgfcnncojhkcoaaGreat
