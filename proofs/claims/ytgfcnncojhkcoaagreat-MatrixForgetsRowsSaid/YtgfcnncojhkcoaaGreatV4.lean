/-
  Lemmas, part 4. Conditions: none.
-/
import Derived.Test.YtgfcnncojhkcoaaGreatV3
set_option linter.all false
set_option maxRecDepth 100000
set_option maxHeartbeats 4000000
namespace Go.Proofs.YtgfcnncojhkcoaaGreat
open Go.RowKit Go.IntKind Tryz
noncomputable section
structure ak where
 vN:ar
 vD:ar
 deriving Inhabited,DecidableEq
abbrev cU:ak:=⟨br,br⟩
def aj:Cd ak:=⟨36,fun x=>ap.f x.vN++ap.f x.vD,fun x=>by simp[ap.h,show ap.sz=18 from rfl]⟩
theorem cX(x:ak):an (aj.f x) ap 0 x.vN (fun y=>aj.f (⟨y,x.vD⟩:ak)):=
 an.of ([]) ((ap).f x.vD) (by first|rfl|(simp[ap.h];first|rfl|done)) (by first|rfl|simp[aj,cI,cB,cS,cL,dQ]) (fun y=>by first|rfl|simp[aj,cI,cB,cS,cL,dQ])
theorem bX(x:ak):an (aj.f x) ap 18 x.vD (fun y=>aj.f (⟨x.vN,y⟩:ak)):=
 an.of ((ap).f x.vN) ([]) (by first|rfl|(simp[ap.h];first|rfl|done)) (by first|rfl|simp[aj,cI,cB,cS,cL,dQ]) (fun y=>by first|rfl|simp[aj,cI,cB,cS,cL,dQ])
def zE(x:ar):List Value:=[Value.bool x.vBad]++([Value.bool x.vNeg]++((x.vW).toList.flatMap (fun x=>[Value.int .u32 x])++([])))
theorem fQ:EqC tbl 3 32 ap zE:=by
 refine EqC.struct (fs:=[(0,4),(1,4),(2,30)]) aA (fun x=>?_) (fun x=>by
  have q3:q7 tbl (mh tbl 2) [] 18 []:=by unfold q7;rfl
  have q2:=pK (off:=2) (x:=x.vW) (EqC.arr (EqC.int (d:=0) aH) aC aH) aC rfl q3
  have q1:=pK (off:=1) (x:=x.vNeg) (EqC.bool (d:=1) ge) ge rfl q2
  have q0:=pK (off:=0) (x:=x.vBad) (EqC.bool (d:=1) ge) ge rfl q1
  exact q0) ?_
 ·have:=And.intro (And.intro ((EqC.bool (d:=1) ge).hf x.vBad) (And.intro ((EqC.bool (d:=1) ge).hf x.vNeg) (And.intro ((EqC.arr (EqC.int (d:=0) aH) aC aH).hf x.vW) (True.intro)))) True.intro
  simp only[zE,ap,lY,gL,tp,dQ]
  all_goals (first|rfl|(simp only[←(EqC.bool (d:=1) ge).hf,←(EqC.bool (d:=1) ge).hf,←(EqC.arr (EqC.int (d:=0) aH) aC aH).hf];try (first|rfl|simp[cI,cB])))
 ·skip
  intro x y h
  unfold zE at h
  obtain⟨e0,h⟩:=xL h (by rw[(EqC.bool (d:=1) ge).len,(EqC.bool (d:=1) ge).len])
  obtain⟨e1,h⟩:=xL h (by rw[(EqC.bool (d:=1) ge).len,(EqC.bool (d:=1) ge).len])
  obtain⟨e2,h⟩:=xL h (by rw[(EqC.arr (EqC.int (d:=0) aH) aC aH).len,(EqC.arr (EqC.int (d:=0) aH) aC aH).len])
  cases x;cases y
  simp only[ar.mk.injEq]
  exact⟨((EqC.bool (d:=1) ge).inj _ _).1 e0,((EqC.bool (d:=1) ge).inj _ _).1 e1,((EqC.arr (EqC.int (d:=0) aH) aC aH).inj _ _).1 e2⟩
def He(x:ak):List Value:=zE x.vN++(zE x.vD++([]))
theorem nP:EqC tbl 4 34 aj He:=by
 refine EqC.struct (fs:=[(0,32),(18,32)]) ay (fun x=>?_) (fun x=>by
  have q2:q7 tbl (mh tbl 3) [] 36 []:=by unfold q7;rfl
  have q1:=pK (off:=18) (x:=x.vD) fQ aA rfl q2
  have q0:=pK (off:=0) (x:=x.vN) fQ aA rfl q1
  exact q0) ?_
 ·have:=And.intro (And.intro (fQ.hf x.vN) (And.intro (fQ.hf x.vD) (True.intro))) True.intro
  simp only[He,aj,lY,gL,tp,dQ]
  all_goals (first|rfl|(simp only[←fQ.hf,←fQ.hf];try (first|rfl|simp[cI,cB])))
 ·skip
  intro x y h
  unfold He at h
  obtain⟨e0,h⟩:=xL h (by rw[fQ.len,fQ.len])
  obtain⟨e1,h⟩:=xL h (by rw[fQ.len,fQ.len])
  cases x;cases y
  simp only[ak.mk.injEq]
  exact⟨(fQ.inj _ _).1 e0,(fQ.inj _ _).1 e1⟩
def ii(bj:ar):Option Bool:=bnd (S:=Bool) (cnd (!bj.vBad) (bnd (jP bj) fun x2=>some (x2)) (some (false))) fun jv=>some jv
theorem oQ {bj:ar}{r:Bool}(h:ii bj=some r):aB prog 91 [dG ap bj] (dB r):=by
 refine bJ (rs:=[.tmp 2]) (fun cx hx h0=>?_) func91
 unfold ii at h
 refine ra hx ?_
 refine AW.seq ?_
 obtain⟨jv,hy,h⟩:=ah h
 refine jn ((PE cx .normal (fun jv=>[(2,dB jv)]) fun jv=>⟨[],[],0⟩) jv) ?_ ?_
 replace h:=hy
 refine rq hx fun K hK=>?_
 refine sa ?_
 refine s1 (a6 (g5 bj) ge) ?_
 iterate 2 refine sa ?_
 rcases bP (!bj.vBad) with cQ|cQ
 replace h:=ba cQ h
 refine g1 (d:=dG ap bj) cQ (aD (an.id _ _) aA) ?_
 obtain⟨x2,MY,h⟩:=ah h
 refine g1 cQ (c9 rfl (uc MY) (by simp only[e8,gL,js,lE,iC,iB];exact bh _ _) (lA (fb _ _) lAn) (.inl rfl)) ?_
 refine s1 (am cQ) ?_
 refine sa ?_
 refine .nil (hK _ _ ?_)
 cases h
 exact pe0 h0 []
 replace h:=bb cQ h
 iterate 2 refine aK rfl rfl cQ ?_
 refine s1 (ax cQ) ?_
 refine sa ?_
 refine .nil (hK _ _ ?_)
 cases h
 exact pe0 h0 []
 rintro ex tm' hp' ⟨rfl,hw⟩
 refine AW.weak hw (AW.ret ?_)
 cases h
 exact rv1
def kE :Option ar:=bnd (eD (1:Int)) fun x1=>some x1
theorem sN  {r:ar}(h:kE=some r):aB prog 94 [] (dG ap r):=by
 refine bJ (rs:=[.cell 0 32]) (fun cx hx h0=>?_) func94
 unfold kE at h
 refine rs hx fun K hK=>?_
 refine s1 (bq (F:=ap.f br) aA) ?_
 refine .nil (hK _ _ (rs hx fun K hK=>?_))
 refine scb h l9 fun x1 h=>?_
 refine s0 (aO (b':=x1) (an.id _ _) aA) ?_
 refine .nil (hK _ _ (AW.ret ?_))
 cases h
 exact rv1
def bV(bj:ak):Option Bool:=bnd (S:=Bool) (bnd (ii bj.vN) fun x1=>cnd x1 (bnd (ii bj.vD) fun x4=>cnd x4 (bnd (gh bj.vD) fun x7=>cnd (decide ((0:Int)<x7)) (bnd (mv bj.vN bj.vD) fun nr=>bnd (kE) fun i9=>some (decide (nr=i9))) (some (false))) (some (false))) (some (false))) fun jv=>some jv
theorem fx {bj:ak}{r:Bool}(h:bV bj=some r):aB prog 41 [dG aj bj] (dB r):=by
 refine bJ (rs:=[.tmp 2]) (fun cx hx h0=>?_) func41
 unfold bV at h
 refine ra hx ?_
 refine AW.seq ?_
 obtain⟨jv,hy,h⟩:=ah h
 refine jn ((PE cx .normal (fun jv=>[(2,dB jv)]) fun jv=>⟨[],[],0⟩) jv) ?_ ?_
 replace h:=hy
 refine rq hx fun K hK=>?_
 refine sa ?_
 refine s1 (aD (cX bj) aA) ?_
 refine scb h oQ fun x1 h=>?_
 refine sa ?_
 rcases bP x1 with bn|bn
 replace h:=ba bn h
 refine ga bn ?_
 refine g1 bn (aD (bX bj) aA) ?_
 obtain⟨x4,uQ,h⟩:=ah h
 refine g1 bn (c9 rfl (oQ uQ) (by simp only[e8,gL,js,lE,iC,iB];exact bh _ _) (lA (fb _ _) lAn) (.inl rfl)) ?_
 refine s1 (am bn) ?_
 refine sa ?_
 rcases bP x4 with ej|ej
 replace h:=ba ej h
 refine ga ej ?_
 refine g1 ej (aD (bX bj) aA) ?_
 obtain⟨x7,Aa,h⟩:=ah h
 refine g1 ej (c9 rfl (mG Aa) (by simp only[e8,gL,js,lE,iC,iB];exact bh _ _) (lA (fb _ _) lAn) (.inl rfl)) ?_
 refine ga ej ?_
 refine s1 (am ej) ?_
 refine sa ?_
 rcases bP (decide ((0:Int)<x7)) with DY|DY
 replace h:=ba DY h
 refine ga DY ?_
 refine g1 DY (aD (cX bj) aA) ?_
 refine ga DY ?_
 refine g1 DY (aD (bX bj) aA) ?_
 obtain⟨nr,yQ,h⟩:=ah h
 refine g1 DY (c9 rfl (sL yQ) (by simp only[e8,gL,js,lE,iC,iB];exact⟨bh _ _,bh _ _⟩) (lA (fb _ _) (lA (fb _ _) lAn)) (.inl (iK _ _))) ?_
 obtain⟨i9,uR,h⟩:=ah h
 refine g1 DY (c9 rfl (sN uR) rfl lAn (.inl (iK _ _))) ?_
 refine g1 DY (sh tok 3 (by decide) fQ aA) ?_
 refine s1 (am DY) ?_
 refine sa ?_
 refine .nil (hK _ _ ?_)
 cases h
 exact pe0 h0 []
 replace h:=bb DY h
 iterate 7 refine aK rfl rfl DY ?_
 refine s1 (ax DY) ?_
 refine sa ?_
 refine .nil (hK _ _ ?_)
 cases h
 exact pe0 h0 []
 replace h:=bb ej h
 iterate 4 refine aK rfl rfl ej ?_
 refine s1 (ax ej) ?_
 refine sa ?_
 iterate 7 refine aK rfl rfl rfl ?_
 refine s1 (ax rfl) ?_
 refine sa ?_
 refine .nil (hK _ _ ?_)
 cases h
 exact pe0 h0 []
 replace h:=bb bn h
 iterate 3 refine aK rfl rfl bn ?_
 refine s1 (ax bn) ?_
 refine sa ?_
 iterate 4 refine aK rfl rfl rfl ?_
 refine s1 (ax rfl) ?_
 refine sa ?_
 iterate 7 refine aK rfl rfl rfl ?_
 refine s1 (ax rfl) ?_
 refine sa ?_
 refine .nil (hK _ _ ?_)
 cases h
 exact pe0 h0 []
 rintro ex tm' hp' ⟨rfl,hw⟩
 refine AW.weak hw (AW.ret ?_)
 cases h
 exact rv1
def gq :Option ak:=bnd (dU) fun x1=>bnd (kE) fun x3=>some (⟨x1,x3⟩:ak)
theorem mr  {r:ak}(h:gq=some r):aB prog 65 [] (dG aj r):=by
 refine bJ (rs:=[.cell 0 34]) (fun cx hx h0=>?_) func65
 unfold gq at h
 refine rs hx fun K hK=>?_
 refine s1 (bq (F:=aj.f cU) ay) ?_
 refine .nil (hK _ _ (rs hx fun K hK=>?_))
 refine scb h gl fun x1 h=>?_
 refine scb h sN fun x3 h=>?_
 refine s1 (d:=dG aj (⟨x1,x3⟩:ak)) (i8 (FL.cons (y:=x1) (cX cU) rfl rfl (FL.cons (y:=x3) (bX (⟨x1,br⟩:ak)) rfl rfl (FL.nil _))) ay) ?_
 refine s0 (aO (b':=(⟨x1,x3⟩:ak)) (an.id _ _) ay) ?_
 refine .nil (hK _ _ (AW.ret ?_))
 cases h
 exact rv1
def cy(da:ar)(zR:ar):Option ak:=bnd (S:=Bool) (bnd (ii da) fun x1=>cnd (!x1) (some (true)) (bnd (ii zR) fun x4=>cnd (!x4) (some (true)) (bnd (gh zR) fun x7=>some (decide (x7=(0:Int)))))) fun bQ=>cnd bQ (bnd (gq) fun t9=>some t9) (bnd (mv da zR) fun qq=>bnd (S:=ar) (bnd (gh zR) fun uC=>cnd (decide (uC<(0:Int))) (bnd (kC qq) fun p7=>some (p7)) (some (qq))) fun gN=>bnd (jb da gN) fun BE=>bnd (jb zR gN) fun EU=>some (⟨BE,EU⟩:ak))
theorem gZ {da:ar}{zR:ar}{r:ak}(h:cy da zR=some r):aB prog 89 [dG ap da,dG ap zR] (dG aj r):=by
 refine bJ (rs:=[.cell 4 34]) (fun cx hx h0=>?_) func89
 unfold cy at h
 refine rs hx fun K hK=>?_
 iterate 2 refine sa ?_
 refine s1 (bq (F:=aj.f cU) ay) ?_
 refine .nil (hK _ _ ?_)
 iterate 2 refine AW.seq ?_
 obtain⟨bQ,hy,h⟩:=ah h
 refine jn ((PE cx .normal (fun bQ=>[(2,.pt 0 0),(3,.pt 1 0),(4,.pt 2 0),(18,dB bQ)]) fun bQ=>⟨[(0,dC (ap.f da)),(1,dC (ap.f zR)),(2,dC (aj.f cU))],[],3⟩) bQ) ?_ ?_
 replace h:=hy
 refine rq hx fun K hK=>?_
 refine s1 (d:=dG ap da) (aD (an.id _ _) aA) ?_
 refine scb h oQ fun x1 h=>?_
 iterate 2 refine sa ?_
 rcases bP (!x1) with bn|bn
 replace h:=ba bn h
 iterate 3 refine aK rfl rfl bn ?_
 refine s1 (am bn) ?_
 refine sa ?_
 iterate 3 refine aK rfl rfl rfl ?_
 refine s1 (am rfl) ?_
 refine .nil (hK _ _ ?_)
 cases h
 exact pe0 h0 [0,1,2]
 replace h:=bb bn h
 refine g1 (d:=dG ap zR) bn (aD (an.id _ _) aA) ?_
 obtain⟨x4,uQ,h⟩:=ah h
 refine g1 bn (c9 rfl (oQ uQ) (by simp only[e8,gL,js,lE,iC,iB];exact bh _ _) (lA (fb _ _) lAn) (.inl rfl)) ?_
 refine ga bn ?_
 refine s1 (ax bn) ?_
 refine sa ?_
 rcases bP (!x4) with ej|ej
 replace h:=ba ej h
 iterate 3 refine aK rfl rfl ej ?_
 refine s1 (am ej) ?_
 refine .nil (hK _ _ ?_)
 cases h
 exact pe0 h0 [0,1,2]
 replace h:=bb ej h
 refine g1 (d:=dG ap zR) ej (aD (an.id _ _) aA) ?_
 obtain⟨x7,Aa,h⟩:=ah h
 refine g1 ej (c9 rfl (mG Aa) (by simp only[e8,gL,js,lE,iC,iB];exact bh _ _) (lA (fb _ _) lAn) (.inl rfl)) ?_
 refine ga ej ?_
 refine s1 (ax ej) ?_
 refine .nil (hK _ _ ?_)
 cases h
 exact pe0 h0 [0,1,2]
 rintro ex tm' hp' ⟨rfl,hw⟩
 refine AW.weak hw (cdh h rfl (fun gz h=>?_) (fun gz h=>?_))
 refine rs hx fun K hK=>?_
 refine scb h mr fun t9 h=>?_
 refine s0 (aO (b':=t9) (an.id _ _) ay) ?_
 refine .nil (hK _ _ (AW.ret ?_))
 cases h
 exact rv1
 refine AW.skip (rs hx fun K hK=>?_)
 refine s1 (d:=dG ap da) (aD (an.id _ _) aA) ?_
 refine s1 (d:=dG ap zR) (aD (an.id _ _) aA) ?_
 refine scb h sL fun qq h=>?_
 refine s1 (bq (F:=ap.f br) aA) ?_
 refine s0 (aO (b':=qq) (an.id _ _) aA) ?_
 refine .nil (hK _ _ (AW.seq ?_))
 obtain⟨gN,hy,h⟩:=ah h
 refine jn ((PE cx .normal (fun gN=>[(2,.pt 0 0),(3,.pt 1 0),(4,.pt 2 0),(5,.pt 3 0)]) fun gN=>⟨[(0,dC (ap.f da)),(1,dC (ap.f zR)),(2,dC (aj.f cU)),(3,dC (ap.f gN))],[],4⟩) gN) ?_ ?_
 replace h:=hy
 refine rs hx fun K hK=>?_
 refine s1 (d:=dG ap zR) (aD (an.id _ _) aA) ?_
 refine scb h mG fun uC h=>?_
 refine sa ?_
 refine .nil (hK _ _ (cdh h rfl (fun xy h=>?_) (fun xy h=>?_)))
 refine rq hx fun K hK=>?_
 refine s1 (d:=dG ap qq) (aD (an.id _ _) aA) ?_
 refine scb h sK fun p7 h=>?_
 refine s0 (aO (b':=p7) (an.id _ _) aA) ?_
 refine .nil (hK _ _ ?_)
 cases h
 exact pe0 h0 [0,1,2,3]
 refine AW.skip ?_
 cases h
 exact pe0 h0 [0,1,2,3]
 rintro ex tm' hp' ⟨rfl,hw⟩
 refine AW.weak hw (rsd [126] hx fun K hK=>?_)
 refine s1 (d:=dG ap da) (aD (an.id _ _) aA) ?_
 refine s1 (d:=dG ap gN) (aD (an.id _ _) aA) ?_
 refine cqb h mq fun BE h=>?_
 refine s1 (d:=dG ap zR) (aD (an.id _ _) aA) ?_
 refine s1 (d:=dG ap gN) (aD (an.id _ _) aA) ?_
 refine cqb h mq fun EU h=>?_
 refine s1 (d:=dG aj (⟨BE,EU⟩:ak)) (i8 (FL.cons (y:=BE) (cX cU) rfl rfl (FL.cons (y:=EU) (bX (⟨BE,br⟩:ak)) rfl rfl (FL.nil _))) ay) ?_
 refine s0 (aO (b':=(⟨BE,EU⟩:ak)) (an.id _ _) ay) ?_
 refine .nil (hK _ _ (AW.ret ?_))
 cases h
 exact rv1
def fF(bj:ak)(ng:ak):Option ak:=bnd (S:=Bool) (bnd (bV bj) fun x1=>cnd (!x1) (some (true)) (bnd (bV ng) fun x4=>some (!x4))) fun bQ=>cnd bQ (bnd (gq) fun x8=>some x8) (bnd (mv bj.vD ng.vD) fun nr=>bnd (jb bj.vD nr) fun i9=>bnd (jb ng.vD nr) fun pm=>bnd (ia bj.vN pm) fun yH=>bnd (ia ng.vN i9) fun p7=>bnd (ib yH p7) fun Dd=>bnd (ia i9 ng.vD) fun nq=>bnd (cy Dd nq) fun wB=>some wB)
theorem Ff {bj:ak}{ng:ak}{r:ak}(h:fF bj ng=some r):aB prog 85 [dG aj bj,dG aj ng] (dG aj r):=by
 refine bJ (rs:=[.cell 4 34]) (fun cx hx h0=>?_) func85
 unfold fF at h
 refine rs hx fun K hK=>?_
 iterate 2 refine sa ?_
 refine s1 (bq (F:=aj.f cU) ay) ?_
 refine .nil (hK _ _ ?_)
 iterate 2 refine AW.seq ?_
 obtain⟨bQ,hy,h⟩:=ah h
 refine jn ((PE cx .normal (fun bQ=>[(2,.pt 0 0),(3,.pt 1 0),(4,.pt 2 0),(15,dB bQ)]) fun bQ=>⟨[(0,dC (aj.f bj)),(1,dC (aj.f ng)),(2,dC (aj.f cU))],[],3⟩) bQ) ?_ ?_
 replace h:=hy
 refine rq hx fun K hK=>?_
 refine s1 (d:=dG aj bj) (aD (an.id _ _) ay) ?_
 refine scb h fx fun x1 h=>?_
 iterate 2 refine sa ?_
 rcases bP (!x1) with bn|bn
 replace h:=ba bn h
 iterate 3 refine aK rfl rfl bn ?_
 refine s1 (am bn) ?_
 refine .nil (hK _ _ ?_)
 cases h
 exact pe0 h0 [0,1,2]
 replace h:=bb bn h
 refine g1 (d:=dG aj ng) bn (aD (an.id _ _) ay) ?_
 obtain⟨x4,uQ,h⟩:=ah h
 refine g1 bn (c9 rfl (fx uQ) (by simp only[e8,gL,js,lE,iC,iB];exact bh _ _) (lA (fb _ _) lAn) (.inl rfl)) ?_
 refine ga bn ?_
 refine s1 (ax bn) ?_
 refine .nil (hK _ _ ?_)
 cases h
 exact pe0 h0 [0,1,2]
 rintro ex tm' hp' ⟨rfl,hw⟩
 refine AW.weak hw (cdh h rfl (fun v6 h=>?_) (fun v6 h=>?_))
 refine rs hx fun K hK=>?_
 refine scb h mr fun x8 h=>?_
 refine s0 (aO (b':=x8) (an.id _ _) ay) ?_
 refine .nil (hK _ _ (AW.ret ?_))
 cases h
 exact rv1
 refine AW.skip (rs hx fun K hK=>?_)
 refine sa ?_
 refine s1 (aD (bX bj) aA) ?_
 refine sa ?_
 refine s1 (aD (bX ng) aA) ?_
 refine scb h sL fun nr h=>?_
 refine s1 (bq (F:=ap.f br) aA) ?_
 refine s0 (aO (b':=nr) (an.id _ _) aA) ?_
 refine .nil (hK _ _ (AW.seq ?_))
 obtain⟨i9,uR,h⟩:=ah h
 obtain⟨pm,xq,h⟩:=ah h
 refine jn (PE cx .normal (fun (_:Unit)=>[(2,.pt 0 0),(3,.pt 1 0),(4,.pt 2 0),(6,.pt 3 0),(7,.pt 4 0)]) (fun (_:Unit)=>⟨[(0,dC (aj.f bj)),(1,dC (aj.f ng)),(2,dC (aj.f cU)),(3,dC (ap.f i9)),(4,dC (ap.f pm))],[],5⟩) ()) ?_ ?_
 refine dw (DW.split 8 9 (by decide) ?_ ?_)
 refine dwg [126] [0,1,2,3,4,5,6,7,8,9,10,11] hx (by kernel_rfl) (by kernel_rfl) (by kernel_rfl) fun K hK=>?_
 dsimp only[dq,lg,lx,List.map]
 refine sa ?_
 refine s1 (aD (bX bj) aA) ?_
 refine s1 (d:=dG ap nr) (aD (an.id _ _) aA) ?_
 refine cq (mq uR) ?_
 refine sa ?_
 refine s1 (aD (bX ng) aA) ?_
 refine s1 (d:=dG ap nr) (aD (an.id _ _) aA) ?_
 refine cq (mq xq) ?_
 iterate 2 refine s1 (bq (F:=ap.f br) aA) ?_
 refine s0 (aO (b':=i9) (an.id _ _) aA) ?_
 refine s0 (aO (b':=pm) (an.id _ _) aA) ?_
 exact .nil (hK _ _ (pe0 h0 [0,1,2,4,5]))
 refine dwg [126] [0,1,2,3,4,5,6,7,9,8,10,11] hx (by kernel_rfl) (by kernel_rfl) (by kernel_rfl) fun K hK=>?_
 dsimp only[dq,lg,lx,List.map]
 refine sa ?_
 refine s1 (aD (bX bj) aA) ?_
 refine s1 (d:=dG ap nr) (aD (an.id _ _) aA) ?_
 refine cq (mq uR) ?_
 refine sa ?_
 refine s1 (aD (bX ng) aA) ?_
 refine s1 (d:=dG ap nr) (aD (an.id _ _) aA) ?_
 refine cq (mq xq) ?_
 iterate 2 refine s1 (bq (F:=ap.f br) aA) ?_
 refine s0 (aO (b':=i9) (an.id _ _) aA) ?_
 refine s0 (aO (b':=pm) (an.id _ _) aA) ?_
 exact .nil (hK _ _ (pe0 h0 [0,1,2,5,4]))
 rintro ex tm' hp' ⟨rfl,hw⟩
 refine AW.weak hw (rsd [90,127,89] hx fun K hK=>?_)
 refine sa ?_
 refine s1 (aD (cX bj) aA) ?_
 refine s1 (d:=dG ap pm) (aD (an.id _ _) aA) ?_
 refine cqb h kg fun yH h=>?_
 refine sa ?_
 refine s1 (aD (cX ng) aA) ?_
 refine s1 (d:=dG ap i9) (aD (an.id _ _) aA) ?_
 refine cqb h kg fun p7 h=>?_
 refine cqb h yg fun Dd h=>?_
 refine s1 (d:=dG ap i9) (aD (an.id _ _) aA) ?_
 refine sa ?_
 refine s1 (aD (bX ng) aA) ?_
 refine cqb h kg fun nq h=>?_
 refine cqb h gZ fun wB h=>?_
 refine s0 (aO (b':=wB) (an.id _ _) ay) ?_
 refine .nil (hK _ _ (AW.ret ?_))
 cases h
 exact rv1
def et(bj:ak)(ng:ak):Option ak:=bnd (S:=Bool) (bnd (bV bj) fun x1=>cnd (!x1) (some (true)) (bnd (bV ng) fun x4=>some (!x4))) fun bQ=>cnd bQ (bnd (gq) fun x8=>some x8) (bnd (cy bj.vN ng.vD) fun nr=>bnd (cy ng.vN bj.vD) fun i9=>bnd (ia nr.vN i9.vN) fun pm=>bnd (ia nr.vD i9.vD) fun yH=>bnd (S:=Bool) (cnd pm.vBad (some (true)) (some (yH.vBad))) fun dh=>cnd dh (bnd (gq) fun BE=>some BE) (some (⟨pm,yH⟩:ak)))
theorem sO {bj:ak}{ng:ak}{r:ak}(h:et bj ng=some r):aB prog 40 [dG aj bj,dG aj ng] (dG aj r):=by
 refine bJ (rs:=[.cell 4 34]) (fun cx hx h0=>?_) func40
 unfold et at h
 refine rs hx fun K hK=>?_
 iterate 2 refine sa ?_
 refine s1 (bq (F:=aj.f cU) ay) ?_
 refine .nil (hK _ _ ?_)
 iterate 2 refine AW.seq ?_
 obtain⟨bQ,hy,h⟩:=ah h
 refine jn ((PE cx .normal (fun bQ=>[(2,.pt 0 0),(3,.pt 1 0),(4,.pt 2 0),(16,dB bQ)]) fun bQ=>⟨[(0,dC (aj.f bj)),(1,dC (aj.f ng)),(2,dC (aj.f cU))],[],3⟩) bQ) ?_ ?_
 replace h:=hy
 refine rq hx fun K hK=>?_
 refine s1 (d:=dG aj bj) (aD (an.id _ _) ay) ?_
 refine scb h fx fun x1 h=>?_
 iterate 2 refine sa ?_
 rcases bP (!x1) with bn|bn
 replace h:=ba bn h
 iterate 3 refine aK rfl rfl bn ?_
 refine s1 (am bn) ?_
 refine .nil (hK _ _ ?_)
 cases h
 exact pe0 h0 [0,1,2]
 replace h:=bb bn h
 refine g1 (d:=dG aj ng) bn (aD (an.id _ _) ay) ?_
 obtain⟨x4,uQ,h⟩:=ah h
 refine g1 bn (c9 rfl (fx uQ) (by simp only[e8,gL,js,lE,iC,iB];exact bh _ _) (lA (fb _ _) lAn) (.inl rfl)) ?_
 refine ga bn ?_
 refine s1 (ax bn) ?_
 refine .nil (hK _ _ ?_)
 cases h
 exact pe0 h0 [0,1,2]
 rintro ex tm' hp' ⟨rfl,hw⟩
 refine AW.weak hw (cdh h rfl (fun v6 h=>?_) (fun v6 h=>?_))
 refine rs hx fun K hK=>?_
 refine scb h mr fun x8 h=>?_
 refine s0 (aO (b':=x8) (an.id _ _) ay) ?_
 refine .nil (hK _ _ (AW.ret ?_))
 cases h
 exact rv1
 refine AW.skip (AW.seq ?_)
 obtain⟨nr,yQ,h⟩:=ah h
 obtain⟨i9,uR,h⟩:=ah h
 refine jn (PE cx .normal (fun (_:Unit)=>[(4,.pt 0 0),(5,.pt 1 0),(6,.pt 2 0)]) (fun (_:Unit)=>⟨[(0,dC (aj.f cU)),(1,dC (aj.f nr)),(2,dC (aj.f i9))],[],3⟩) ()) ?_ ?_
 refine dw (DW.split 10 11 (by decide) ?_ ?_)
 refine dwg [89] [0,1,2,3,4,5,6,7,8,9,10,11,12,13] hx (by kernel_rfl) (by kernel_rfl) (by kernel_rfl) fun K hK=>?_
 dsimp only[dq,lg,lx,List.map]
 refine sa ?_
 refine s1 (aD (cX bj) aA) ?_
 refine sa ?_
 refine s1 (aD (bX ng) aA) ?_
 refine cq (gZ yQ) ?_
 refine sa ?_
 refine s1 (aD (cX ng) aA) ?_
 refine sa ?_
 refine s1 (aD (bX bj) aA) ?_
 refine cq (gZ uR) ?_
 iterate 2 refine s1 (bq (F:=aj.f cU) ay) ?_
 refine s0 (aO (b':=nr) (an.id _ _) ay) ?_
 refine s0 (aO (b':=i9) (an.id _ _) ay) ?_
 exact .nil (hK _ _ (pe0 h0 [2,3,4]))
 refine dwg [89] [0,1,2,3,4,5,6,7,8,9,11,10,12,13] hx (by kernel_rfl) (by kernel_rfl) (by kernel_rfl) fun K hK=>?_
 dsimp only[dq,lg,lx,List.map]
 refine sa ?_
 refine s1 (aD (cX bj) aA) ?_
 refine sa ?_
 refine s1 (aD (bX ng) aA) ?_
 refine cq (gZ yQ) ?_
 refine sa ?_
 refine s1 (aD (cX ng) aA) ?_
 refine sa ?_
 refine s1 (aD (bX bj) aA) ?_
 refine cq (gZ uR) ?_
 iterate 2 refine s1 (bq (F:=aj.f cU) ay) ?_
 refine s0 (aO (b':=nr) (an.id _ _) ay) ?_
 refine s0 (aO (b':=i9) (an.id _ _) ay) ?_
 exact .nil (hK _ _ (pe0 h0 [2,4,3]))
 rintro ex tm' hp' ⟨rfl,hw⟩
 refine AW.weak hw (AW.seq ?_)
 obtain⟨pm,xq,h⟩:=ah h
 obtain⟨yH,hx17,h⟩:=ah h
 refine jn (PE cx .normal (fun (_:Unit)=>[(4,.pt 0 0),(7,.pt 1 0),(8,.pt 2 0)]) (fun (_:Unit)=>⟨[(0,dC (aj.f cU)),(1,dC (ap.f pm)),(2,dC (ap.f yH))],[],3⟩) ()) ?_ ?_
 refine dw (DW.split 10 11 (by decide) ?_ ?_)
 refine dwg [90] [0,1,2,3,4,5,6,7,8,9,10,11,12,13] hx (by kernel_rfl) (by kernel_rfl) (by kernel_rfl) fun K hK=>?_
 dsimp only[dq,lg,lx,List.map]
 refine sa ?_
 refine s1 (aD (cX nr) aA) ?_
 refine sa ?_
 refine s1 (aD (cX i9) aA) ?_
 refine cq (kg xq) ?_
 refine sa ?_
 refine s1 (aD (bX nr) aA) ?_
 refine sa ?_
 refine s1 (aD (bX i9) aA) ?_
 refine cq (kg hx17) ?_
 iterate 2 refine s1 (bq (F:=ap.f br) aA) ?_
 refine s0 (aO (b':=pm) (an.id _ _) aA) ?_
 refine s0 (aO (b':=yH) (an.id _ _) aA) ?_
 exact .nil (hK _ _ (pe0 h0 [0,3,4]))
 refine dwg [90] [0,1,2,3,4,5,6,7,8,9,11,10,12,13] hx (by kernel_rfl) (by kernel_rfl) (by kernel_rfl) fun K hK=>?_
 dsimp only[dq,lg,lx,List.map]
 refine sa ?_
 refine s1 (aD (cX nr) aA) ?_
 refine sa ?_
 refine s1 (aD (cX i9) aA) ?_
 refine cq (kg xq) ?_
 refine sa ?_
 refine s1 (aD (bX nr) aA) ?_
 refine sa ?_
 refine s1 (aD (bX i9) aA) ?_
 refine cq (kg hx17) ?_
 iterate 2 refine s1 (bq (F:=ap.f br) aA) ?_
 refine s0 (aO (b':=pm) (an.id _ _) aA) ?_
 refine s0 (aO (b':=yH) (an.id _ _) aA) ?_
 exact .nil (hK _ _ (pe0 h0 [0,4,3]))
 rintro ex tm' hp' ⟨rfl,hw⟩
 refine AW.weak hw ?_
 iterate 2 refine AW.seq ?_
 obtain⟨dh,hy,h⟩:=ah h
 refine jn ((PE cx .normal (fun dh=>[(4,.pt 0 0),(7,.pt 1 0),(8,.pt 2 0),(43,dB dh)]) fun dh=>⟨[(0,dC (aj.f cU)),(1,dC (ap.f pm)),(2,dC (ap.f yH))],[],3⟩) dh) ?_ ?_
 replace h:=hy
 refine rq hx fun K hK=>?_
 refine sa ?_
 refine s1 (a6 (g5 pm) ge) ?_
 refine sa ?_
 rcases bP pm.vBad with Ge|Ge
 replace h:=ba Ge h
 iterate 2 refine aK rfl rfl Ge ?_
 refine s1 (am Ge) ?_
 refine .nil (hK _ _ ?_)
 cases h
 exact pe0 h0 [0,1,2]
 replace h:=bb Ge h
 refine ga Ge ?_
 refine g1 Ge (a6 (g5 yH) ge) ?_
 refine s1 (ax Ge) ?_
 refine .nil (hK _ _ ?_)
 cases h
 exact pe0 h0 [0,1,2]
 rintro ex tm' hp' ⟨rfl,hw⟩
 refine AW.weak hw (cdh h rfl (fun uU h=>?_) (fun uU h=>?_))
 refine rs hx fun K hK=>?_
 refine scb h mr fun BE h=>?_
 refine s0 (aO (b':=BE) (an.id _ _) ay) ?_
 refine .nil (hK _ _ (AW.ret ?_))
 cases h
 exact rv1
 refine AW.skip (rs hx fun K hK=>?_)
 refine s1 (d:=dG ap pm) (aD (an.id _ _) aA) ?_
 refine s1 (d:=dG ap yH) (aD (an.id _ _) aA) ?_
 refine s1 (d:=dG aj (⟨pm,yH⟩:ak)) (i8 (FL.cons (y:=pm) (cX cU) rfl rfl (FL.cons (y:=yH) (bX (⟨pm,br⟩:ak)) rfl rfl (FL.nil _))) ay) ?_
 refine s0 (aO (b':=(⟨pm,yH⟩:ak)) (an.id _ _) ay) ?_
 refine .nil (hK _ _ (AW.ret ?_))
 cases h
 exact rv1
def qg(bj:ak)(ng:ak):Option ak:=bnd (bV ng) fun x1=>cnd (!x1) (bnd (gq) fun x4=>some x4) (bnd (cy ng.vD ng.vN) fun x6=>bnd (et bj x6) fun x8=>some x8)
theorem Fe {bj:ak}{ng:ak}{r:ak}(h:qg bj ng=some r):aB prog 144 [dG aj bj,dG aj ng] (dG aj r):=by
 refine bJ (rs:=[.cell 4 34]) (fun cx hx h0=>?_) func144
 unfold qg at h
 refine rs hx fun K hK=>?_
 iterate 2 refine sa ?_
 refine s1 (bq (F:=aj.f cU) ay) ?_
 refine .nil (hK _ _ (AW.seq (rs hx fun K hK=>?_)))
 refine s1 (d:=dG aj ng) (aD (an.id _ _) ay) ?_
 refine scb h fx fun x1 h=>?_
 refine sa ?_
 refine .nil (hK _ _ (cdh h rfl (fun bn h=>?_) (fun bn h=>?_)))
 refine rs hx fun K hK=>?_
 refine scb h mr fun x4 h=>?_
 refine s0 (aO (b':=x4) (an.id _ _) ay) ?_
 refine .nil (hK _ _ (AW.ret ?_))
 cases h
 exact rv1
 refine AW.skip (rsd [89,40] hx fun K hK=>?_)
 refine s1 (d:=dG aj bj) (aD (an.id _ _) ay) ?_
 refine sa ?_
 refine s1 (aD (bX ng) aA) ?_
 refine sa ?_
 refine s1 (aD (cX ng) aA) ?_
 refine cqb h gZ fun x6 h=>?_
 refine cqb h sO fun x8 h=>?_
 refine s0 (aO (b':=x8) (an.id _ _) ay) ?_
 refine .nil (hK _ _ (AW.ret ?_))
 cases h
 exact rv1
def m4(aY:Int)(a8:Int):Option ak:=bnd (eD aY) fun x1=>bnd (eD a8) fun x3=>bnd (cy x1 x3) fun x5=>some x5
theorem Dm {aY:Int}{a8:Int}{r:ak}(h:m4 aY a8=some r):aB prog 61 [dI .i64 aY,dI .i64 a8] (dG aj r):=by
 refine bJ (rs:=[.cell 4 34]) (fun cx hx h0=>?_) func61
 unfold m4 at h
 refine rs hx fun K hK=>?_
 refine s1 (bq (F:=aj.f cU) ay) ?_
 refine .nil (hK _ _ (rs hx fun K hK=>?_))
 refine sa ?_
 refine scb h l9 fun x1 h=>?_
 refine sa ?_
 refine scb h l9 fun x3 h=>?_
 refine scb h gZ fun x5 h=>?_
 refine s0 (aO (b':=x5) (an.id _ _) ay) ?_
 refine .nil (hK _ _ (AW.ret ?_))
 cases h
 exact rv1
def ij(bj:ak):Option ak:=bnd (bV bj) fun x1=>cnd (!x1) (bnd (gq) fun x4=>some x4) (bnd (kC bj.vN) fun x6=>some (⟨x6,bj.vD⟩:ak))
theorem p9 {bj:ak}{r:ak}(h:ij bj=some r):aB prog 17 [dG aj bj] (dG aj r):=by
 refine bJ (rs:=[.cell 2 34]) (fun cx hx h0=>?_) func17
 unfold ij at h
 refine rs hx fun K hK=>?_
 refine sa ?_
 refine s1 (bq (F:=aj.f cU) ay) ?_
 refine .nil (hK _ _ (AW.seq (rs hx fun K hK=>?_)))
 refine s1 (d:=dG aj bj) (aD (an.id _ _) ay) ?_
 refine scb h fx fun x1 h=>?_
 refine sa ?_
 refine .nil (hK _ _ (cdh h rfl (fun bn h=>?_) (fun bn h=>?_)))
 refine rs hx fun K hK=>?_
 refine scb h mr fun x4 h=>?_
 refine s0 (aO (b':=x4) (an.id _ _) ay) ?_
 refine .nil (hK _ _ (AW.ret ?_))
 cases h
 exact rv1
 refine AW.skip (rsd [66] hx fun K hK=>?_)
 refine sa ?_
 refine s1 (aD (cX bj) aA) ?_
 refine cqb h sK fun x6 h=>?_
 refine sa ?_
 refine s1 (aD (bX bj) aA) ?_
 refine s1 (d:=dG aj (⟨x6,bj.vD⟩:ak)) (i8 (FL.cons (y:=x6) (cX cU) rfl rfl (FL.cons (y:=bj.vD) (bX (⟨x6,br⟩:ak)) rfl rfl (FL.nil _))) ay) ?_
 refine s0 (aO (b':=(⟨x6,bj.vD⟩:ak)) (an.id _ _) ay) ?_
 refine .nil (hK _ _ (AW.ret ?_))
 cases h
 exact rv1
def lT(da:ar):Option ak:=bnd (kE) fun x1=>bnd (cy da x1) fun x3=>some x3
theorem BS {da:ar}{r:ak}(h:lT da=some r):aB prog 104 [dG ap da] (dG aj r):=by
 refine bJ (rs:=[.cell 2 34]) (fun cx hx h0=>?_) func104
 unfold lT at h
 refine rs hx fun K hK=>?_
 refine sa ?_
 refine s1 (bq (F:=aj.f cU) ay) ?_
 refine .nil (hK _ _ (rsd [94,89] hx fun K hK=>?_))
 refine s1 (d:=dG ap da) (aD (an.id _ _) aA) ?_
 refine cqb h sN fun x1 h=>?_
 refine cqb h gZ fun x3 h=>?_
 refine s0 (aO (b':=x3) (an.id _ _) ay) ?_
 refine .nil (hK _ _ (AW.ret ?_))
 cases h
 exact rv1
def ek(da:Int):Option ak:=bnd (eD da) fun x1=>bnd (lT x1) fun x3=>some x3
theorem jf {da:Int}{r:ak}(h:ek da=some r):aB prog 60 [dI .i64 da] (dG aj r):=by
 refine bJ (rs:=[.cell 2 34]) (fun cx hx h0=>?_) func60
 unfold ek at h
 refine rs hx fun K hK=>?_
 refine s1 (bq (F:=aj.f cU) ay) ?_
 refine .nil (hK _ _ (rs hx fun K hK=>?_))
 refine sa ?_
 refine scb h l9 fun x1 h=>?_
 refine scb h BS fun x3 h=>?_
 refine s0 (aO (b':=x3) (an.id _ _) ay) ?_
 refine .nil (hK _ _ (AW.ret ?_))
 cases h
 exact rv1
def kY(bj:ak):Option Int:=bnd (bV bj) fun x1=>cnd (!x1) (some (0:Int)) (bnd (gh bj.vN) fun x4=>some x4)
theorem vy {bj:ak}{r:Int}(h:kY bj=some r):aB prog 42 [dG aj bj] (dI .i64 r):=by
 refine bJ (rs:=[.tmp 2]) (fun cx hx h0=>?_) func42
 unfold kY at h
 refine ra hx ?_
 refine AW.seq (rs hx fun K hK=>?_)
 refine s1 (d:=dG aj bj) (aD (an.id _ _) ay) ?_
 refine scb h fx fun x1 h=>?_
 refine sa ?_
 refine .nil (hK _ _ (cdh h rfl (fun bn h=>?_) (fun bn h=>?_)))
 refine ra hx ?_
 refine AW.ret ?_
 cases h
 exact rv1
 refine AW.skip (rs hx fun K hK=>?_)
 refine sa ?_
 refine s1 (aD (cX bj) aA) ?_
 refine scb h mG fun x4 h=>?_
 refine sa ?_
 refine .nil (hK _ _ (AW.ret ?_))
 cases h
 exact rv1
def qf(bj:ak)(ng:ak):Option ak:=bnd (ij ng) fun x1=>bnd (fF bj x1) fun x3=>some x3
theorem Fd {bj:ak}{ng:ak}{r:ak}(h:qf bj ng=some r):aB prog 146 [dG aj bj,dG aj ng] (dG aj r):=by
 refine bJ (rs:=[.cell 4 34]) (fun cx hx h0=>?_) func146
 unfold qf at h
 refine rs hx fun K hK=>?_
 iterate 2 refine sa ?_
 refine s1 (bq (F:=aj.f cU) ay) ?_
 refine .nil (hK _ _ (rsd [17,85] hx fun K hK=>?_))
 refine s1 (d:=dG aj bj) (aD (an.id _ _) ay) ?_
 refine s1 (d:=dG aj ng) (aD (an.id _ _) ay) ?_
 refine cqb h p9 fun x1 h=>?_
 refine cqb h Ff fun x3 h=>?_
 refine s0 (aO (b':=x3) (an.id _ _) ay) ?_
 refine .nil (hK _ _ (AW.ret ?_))
 cases h
 exact rv1
def n9 :Option ar:=bnd (nL (1:Int)) fun x1=>some x1
theorem E9  {r:ar}(h:n9=some r):aB prog 116 [] (dG ap r):=by
 refine bJ (rs:=[.cell 0 32]) (fun cx hx h0=>?_) func116
 unfold n9 at h
 refine rs hx fun K hK=>?_
 refine s1 (bq (F:=ap.f br) aA) ?_
 refine .nil (hK _ _ (rs hx fun K hK=>?_))
 refine scb h zD fun x1 h=>?_
 refine s0 (aO (b':=x1) (an.id _ _) aA) ?_
 refine .nil (hK _ _ (AW.ret ?_))
 cases h
 exact rv1
def kU(bj:ak):Option Bool:=bnd (S:=Bool) (bnd (db bj.vN) fun x1=>cnd (!x1) (some (true)) (bnd (db bj.vD) fun x4=>some (!x4))) fun bQ=>cnd bQ (some false) (bnd (S:=Bool) (bnd (m3 bj.vD) fun x8=>cnd (decide ((0:Int)<x8)) (bnd (ob bj.vN bj.vD) fun t9=>bnd (n9) fun qq=>some (decide (t9=qq))) (some (false))) fun jK=>some jK)
theorem Di {bj:ak}{r:Bool}(h:kU bj=some r):aB prog 72 [dG aj bj] (dB r):=by
 refine bJ (rs:=[.tmp 2]) (fun cx hx h0=>?_) func72
 unfold kU at h
 refine ra hx ?_
 iterate 2 refine AW.seq ?_
 obtain⟨bQ,hy,h⟩:=ah h
 refine jn ((PE cx .normal (fun bQ=>[(1,.pt 0 0),(12,dB bQ)]) fun bQ=>⟨[(0,dC (aj.f bj))],[],1⟩) bQ) ?_ ?_
 replace h:=hy
 refine rq hx fun K hK=>?_
 refine sa ?_
 refine s1 (aD (cX bj) aA) ?_
 refine scb h gY fun x1 h=>?_
 iterate 2 refine sa ?_
 rcases bP (!x1) with bn|bn
 replace h:=ba bn h
 iterate 4 refine aK rfl rfl bn ?_
 refine s1 (am bn) ?_
 refine .nil (hK _ _ ?_)
 cases h
 exact pe0 h0 [0]
 replace h:=bb bn h
 refine ga bn ?_
 refine g1 bn (aD (bX bj) aA) ?_
 obtain⟨x4,uQ,h⟩:=ah h
 refine g1 bn (c9 rfl (gY uQ) (by simp only[e8,gL,js,lE,iC,iB];exact bh _ _) (lA (fb _ _) lAn) (.inl rfl)) ?_
 refine ga bn ?_
 refine s1 (ax bn) ?_
 refine .nil (hK _ _ ?_)
 cases h
 exact pe0 h0 [0]
 rintro ex tm' hp' ⟨rfl,hw⟩
 refine AW.weak hw (cdh h rfl (fun v6 h=>?_) (fun v6 h=>?_))
 refine ra hx ?_
 refine AW.ret ?_
 cases h
 exact rv1
 refine AW.skip (AW.seq ?_)
 obtain⟨jK,hy,h⟩:=ah h
 refine jn ((PE cx .normal (fun jK=>[(2,dB jK)]) fun jK=>⟨[],[],0⟩) jK) ?_ ?_
 replace h:=hy
 refine rq hx fun K hK=>?_
 refine sa ?_
 refine s1 (aD (bX bj) aA) ?_
 refine scb h Dl fun x8 h=>?_
 iterate 2 refine sa ?_
 rcases bP (decide ((0:Int)<x8)) with gz|gz
 replace h:=ba gz h
 refine ga gz ?_
 refine g1 gz (aD (cX bj) aA) ?_
 refine ga gz ?_
 refine g1 gz (aD (bX bj) aA) ?_
 obtain⟨t9,M1,h⟩:=ah h
 refine g1 gz (c9 rfl (Fb M1) (by simp only[e8,gL,js,lE,iC,iB];exact⟨bh _ _,bh _ _⟩) (lA (fb _ _) (lA (fb _ _) lAn)) (.inl (iK _ _))) ?_
 obtain⟨qq,M0,h⟩:=ah h
 refine g1 gz (c9 rfl (E9 M0) rfl lAn (.inl (iK _ _))) ?_
 refine g1 gz (sh tok 3 (by decide) fQ aA) ?_
 refine s1 (am gz) ?_
 refine sa ?_
 refine .nil (hK _ _ ?_)
 cases h
 exact pe0 h0 []
 replace h:=bb gz h
 iterate 7 refine aK rfl rfl gz ?_
 refine s1 (ax gz) ?_
 refine sa ?_
 refine .nil (hK _ _ ?_)
 cases h
 exact pe0 h0 []
 rintro ex tm' hp' ⟨rfl,hw⟩
 refine AW.weak hw (AW.ret ?_)
 cases h
 exact rv1
def fE(aY:List ak)(a8:List ak):Int→Option (Int⊕(Bool⊕Unit)):=fun bT=>cnd (decide (bT<((aY).length:Int))) (gd (0≤bT∧bT<((aY).length:Int)) (gd (0≤bT∧bT<((a8).length:Int)) (cnd (decide (¬((aY)[(bT).toNat]! =(a8)[(bT).toNat]!))) (some (.inr (.inl false))) (some (.inl (i64.wrap (bT+(1:Int)))))))) (some (.inr (.inr ())))
def cY(aY:List ak)(a8:List ak):Option Bool:=cnd (decide (((aY).length:Int)≠((a8).length:Int))) (some false) (bnd (a7 (fE aY a8) (0:Int)) fun y8=>match y8 with| .inl r=>some r| .inr ()=>some true)
theorem nE {aY:List ak}{a8:List ak}{r:Bool}(h:cY aY a8=some r):aB prog 27 [dL aj aY,dL aj a8] (dB r):=by
 refine bJ (rs:=[.tmp 4]) (fun cx hx h0=>?_) func27
 unfold cY at h
 refine ra hx ?_
 refine AW.seq (ra hx ?_)
 refine cdh h rfl (fun cQ h=>?_) (fun cQ h=>?_)
 refine ra hx ?_
 refine AW.ret ?_
 cases h
 exact rv1
 refine AW.skip (AW.seq (ra hx ?_))
 refine AW.block ?_
 obtain⟨y,hy,h⟩:=ah h
 refine lp (S:=Int) (X:=Bool⊕Unit) (fun bT=>[(0,dL aj aY),(1,dL aj a8),(5,dI .i64 bT)]) (fun bT=>⟨[],[],0⟩) (PS (PR [.tmp 4] fun r=>dB r) (PE cx (.exit 0) (fun ()=>[]) fun ()=>⟨[],[],0⟩)) hy ?_ ?_ ?_
 exact wk h0 [] (wR rfl (wR rfl (wR rfl wTn))) wVn wLn
 clear hy h
 rintro bT y h
 dsimp only[fE] at h
 refine AW.seq (ra hx ?_)
 refine cdh h rfl (fun lL h=>?_) (fun lL h=>?_)
 refine AW.skip (AW.seq (AW.block (rsd [] hx fun K hK=>?_)))
 iterate 2 refine sa ?_
 obtain⟨K6,h⟩:=az h
 have Np:(bT).toNat<(aY).length:=by omega
 refine s1 (eh K6 aJ ay) ?_
 refine s1 (d:=dG aj ((aY)[(bT).toNat]!)) (kN (c:=aj) (l:=aY) (n:=(bT).toNat) (o:=0) ay Np (fm _ _ rfl)) ?_
 iterate 2 refine sa ?_
 obtain⟨JI,h⟩:=az h
 have hn6:(bT).toNat<(a8).length:=by omega
 refine s1 (eh JI aJ ay) ?_
 refine s1 (d:=dG aj ((a8)[(bT).toNat]!)) (kN (c:=aj) (l:=a8) (n:=(bT).toNat) (o:=0) ay hn6 (fm _ _ rfl)) ?_
 refine s1 (xY tok 4 (by decide) nP ay) ?_
 refine .nil (hK _ _ (cdh h rfl (fun v6 h=>?_) (fun v6 h=>?_)))
 refine ra hx ?_
 refine AW.ret ?_
 cases h
 refine PS.r ⟨by nofun,PS.l (PR.i ?_)⟩
 exact rv1
 refine AW.skip (rb hx ?_)
 cases h
 exact PS.l (pe0 h0 [])
 refine AW.exit ?_
 try dsimp only
 try simp only[bk,reduceIte,Nat.reduceEqDiff,reduceCtorEq]
 cases h
 exact PS.r ⟨by nofun,PS.r (PE.i (wk h0 [] wTn wVn wLn))⟩
 rcases y with r|⟨⟩
 rintro ex tm' hp' ⟨rfl,hw⟩
 cases h
 exact hw
 rintro ex tm' hp' ⟨rfl,hw⟩
 try dsimp only
 try simp only[bk,reduceIte,Nat.reduceEqDiff,reduceCtorEq]
 refine AW.weak hw (ra hx ?_)
 refine AW.ret ?_
 cases h
 exact rv1
def mi(q:Rat):Prop:=q.num.natAbs<LIM∧q.den<LIM
instance(q:Rat):Decidable (mi q):=by unfold mi;exact inferInstance
def lV(q:Rat):ak:=⟨enc q.num,enc (q.den:Int)⟩
def Cm:ak:=⟨GK,enc 1⟩
def xE:Option Rat→ak
 |some q=>lV q
 |none=>Cm
def okR(x:ak):Prop:=okI x.vN∧okI x.vD
theorem rD(o:Option Rat):okR (xE o):=by
 cases o with
 |some q=>exact⟨DE _,DE _⟩
 |none=>
  refine⟨fun j hj=>?_,DE _⟩
  show 0≤(W 0)[j]!∧(W 0)[j]! <4294967296
  rw[fR hj];have:=@dgl 0 j;omega
theorem N8 {p q:Rat}(hp:mi p)(hq:mi q)(h:lV p=lV q):p=q:=by
 unfold lV at h
 simp only[ak.mk.injEq] at h
 have h1:=wd hp.1 hq.1 h.1
 have h2:=wd (by simpa using hp.2) (by simpa using hq.2) h.2
 exact Rat.ext h1 (by omega)
theorem rK {z:Int}:dt (enc z)=decide (z.natAbs<LIM):=by
 by_cases h:z.natAbs<LIM
 ·rw[bI h,dy h]
 ·rw[Ay h,CO,gM h]
theorem Gv {q:Rat}(h:mi q):lV q≠Cm:=by
 intro e
 have:dt (lV q).vN=dt Cm.vN:=by rw[e]
 rw[show (lV q).vN=enc q.num from rfl,bI h.1] at this
 cases this
def cP(x:ak):Option Rat:=open Classical in if h:∃q,mi q∧x=lV q then some (Classical.choose h) else none
theorem eo {x:ak}{q:Rat}:cP x=some q↔mi q∧x=lV q:=by
 unfold cP
 split
 ·rename_i h
  obtain⟨h1,h2⟩:=xM h
  constructor
  ·intro e
   injection e with e
   rw[←e];exact⟨h1,h2⟩
  ·rintro⟨h3,h4⟩
   congr 1
   exact N8 h1 h3 (h2.symm.trans h4)
 ·rename_i h
  constructor
  ·intro e;cases e
  ·rintro h3;exact absurd ⟨q,h3⟩ h
theorem wO {x:ak}:cP x=none↔∀q,mi q→x≠lV q:=by
 constructor
 ·intro h q hq e
  rw[eo.2 ⟨hq,e⟩] at h;cases h
 ·intro h
  cases hx:cP x with
  |none=>rfl
  |some q=>exact absurd (eo.1 hx).2 (h q (eo.1 hx).1)
theorem sQ {q:Rat}(h:mi q):cP (lV q)=some q:=eo.2 ⟨h,rfl⟩
theorem LX:cP Cm=none:=wO.2 fun _ hq e=>Gv hq e.symm
def xB(o:Option Rat):Prop:=∀q,o=some q→mi q
theorem wP {o:Option Rat}(h:xB o):cP (xE o)=o:=by
 cases o with
 |none=>exact LX
 |some q=>exact sQ (h q rfl)
theorem Av(x:ak):xB (cP x):=fun _ h=>(eo.1 h).1
theorem ph:xB none:=fun _ h=>by cases h
theorem N4 {g k:Int}(h:g≠0):(g*k).fdiv g=k:=Int.mul_fdiv_cancel_left _ h
theorem JU {g k:Int}(h:g≠0):(g*k).fdiv (-g)=-k:=by
 rw[show g*k=-g*-k from (Int.neg_mul_neg g k).symm]
 exact Int.mul_fdiv_cancel_left _ (by omega)
theorem oZ {n d:Int}(hd:d≠0):∃k m:Int,n=(Nat.gcd n.natAbs d.natAbs:Nat)*k∧d=(Nat.gcd n.natAbs d.natAbs:Nat)*m∧m≠0∧(Rat.divInt n d).num=d.sign*k∧((Rat.divInt n d).den:Int)=d.sign*m:=by
 have hg0:Nat.gcd n.natAbs d.natAbs≠0:=by
  intro h
  have:=(Iw.1 h).2
  omega
 have B9:((Nat.gcd n.natAbs d.natAbs:Nat):Int)≠0:=by omega
 obtain⟨k,hk⟩:((Nat.gcd n.natAbs d.natAbs:Nat):Int) ∣ n:=Int.ofNat_dvd_left.2 (Nat.gcd_dvd_left _ _)
 obtain⟨m,hm⟩:((Nat.gcd n.natAbs d.natAbs:Nat):Int) ∣ d:=Int.ofNat_dvd_left.2 (Nat.gcd_dvd_right _ _)
 have hgg:((Int.gcd d n:Nat):Int)=((Nat.gcd n.natAbs d.natAbs:Nat):Int):=by
  rw[Int.gcd_comm];rfl
 have hmm:m≠0:=by
  intro h
  rw[h,Int.mul_zero] at hm
  exact hd hm
 refine⟨k,m,hk,hm,hmm,?_,?_⟩
 ·rw[Rat.num_divInt,hgg]
  generalize ((Nat.gcd n.natAbs d.natAbs:Nat):Int)=g at hk B9 ⊢
  rw[hk,Ej,Int.mul_ediv_cancel_left _ B9]
 ·rw[Rat.den_divInt,aq hd]
  have e:((d.natAbs / Int.gcd d n:Nat):Int)=(d.natAbs:Int) / ((Int.gcd d n:Nat):Int):=IA ..
  rw[e,hgg]
  have e2:(d.natAbs:Int)=d.sign*d:=by rw[Int.sign_mul_self]
  rw[e2]
  generalize ((Nat.gcd n.natAbs d.natAbs:Nat):Int)=g at hm B9 ⊢
  have e3:d.sign*d=g*(d.sign*m):=by
   conv=>lhs;rhs;rw[hm]
   rw[Ej]
  rw[e3,Int.mul_ediv_cancel_left _ B9]
theorem uV {n d:Int}(hd:d≠0)(h1:n.natAbs<LIM)(h2:d.natAbs<LIM):mi (Rat.divInt n d):=by
 obtain⟨k,m,hk,hm,hm0,e1,e2⟩:=oZ (n:=n) hd
 have hg0:Nat.gcd n.natAbs d.natAbs≠0:=by
  intro h
  have:=(Iw.1 h).2
  omega
 have hs:d.sign.natAbs=1:=by rw[Int.natAbs_sign,aq hd]
 refine⟨?_,?_⟩
 ·rw[e1,vd,hs,dc]
  refine eS ?_ h1
  conv=>rhs;rw[hk]
  rw[vd,d6]
  exact Bb _ (rW hg0)
 ·have:(Rat.divInt n d).den=(d.sign*m).natAbs:=by omega
  rw[this,vd,hs,dc]
  refine eS ?_ h2
  conv=>rhs;rw[hm]
  rw[vd,d6]
  exact Bb _ (rW hg0)
theorem MI {n d:Int}(hd:d≠0):n.fdiv (bif decide (d<0) then -((Nat.gcd n.natAbs d.natAbs:Nat):Int) else ((Nat.gcd n.natAbs d.natAbs:Nat):Int))=(Rat.divInt n d).num∧d.fdiv (bif decide (d<0) then -((Nat.gcd n.natAbs d.natAbs:Nat):Int) else ((Nat.gcd n.natAbs d.natAbs:Nat):Int))=((Rat.divInt n d).den:Int):=by
 obtain⟨k,m,hk,hm,hm0,e1,e2⟩:=oZ (n:=n) hd
 have B9:((Nat.gcd n.natAbs d.natAbs:Nat):Int)≠0:=by
  intro h
  rw[h,Int.zero_mul] at hm
  exact hd hm
 rw[e1,e2]
 generalize ((Nat.gcd n.natAbs d.natAbs:Nat):Int)=g at hk hm B9 ⊢
 by_cases h:d<0
 ·rw[dy h,kK,Ix h]
  constructor
  ·rw[hk,JU B9];omega
  ·rw[hm,JU B9];omega
 ·rw[gM h,cond_false,AT (by omega)]
  constructor
  ·rw[hk,N4 B9];omega
  ·rw[hm,N4 B9];omega
theorem JN {n d:Int}(hd:d≠0)(h2:d.natAbs<LIM):Nat.gcd n.natAbs d.natAbs<LIM∧Nat.gcd n.natAbs d.natAbs≠0:=
 ⟨eS (Nat.gcd_le_right _ (by omega)) h2,fun h=>by have:=(Iw.1 h).2;omega⟩
theorem Km:kE=some (enc 1):=by
 unfold kE
 rw[ES (by decide) (by decide),ab]
theorem n4(x:ar):ii x=some (dt x):=by
 unfold ii
 rw[Ko,ab,Oo,ab]
 congr 1
 unfold dt
 cases x.vBad <;> rfl
theorem vj:gq=some Cm:=by
 unfold gq
 rw[Ku,Km,ab,ab]
 rfl
theorem NQ {n d:Int}(hn:n.natAbs<LIM)(hd:d.natAbs<LIM):(∃q,mi q∧(⟨enc n,enc d⟩:ak)=lV q)↔0<d∧Nat.gcd n.natAbs d.natAbs=1:=by
 constructor
 ·rintro⟨q,hq,e⟩
  unfold lV at e
  simp only[ak.mk.injEq] at e
  have e1:=wd hn hq.1 e.1
  have e2:=wd hd (by simpa using hq.2) e.2
  subst e1;subst e2
  exact⟨by have:=q.den_pos;omega,by rw[d6];exact q.reduced⟩
 ·rintro⟨h1,h2⟩
  refine⟨⟨n,d.natAbs,by omega,h2⟩,⟨hn,hd⟩,?_⟩
  unfold lV
  simp only[ak.mk.injEq,true_and]
  congr 1
  omega
theorem kb {x:ak}(hx:okR x):bV x=some (cP x).isSome:=by
 obtain⟨n,d⟩:=x
 obtain⟨h1,h2⟩:=hx
 dsimp only at h1 h2
 have hb:∀b:Bool,(b=true↔∃q,mi q∧(⟨n,d⟩:ak)=lV q)→(cP ⟨n,d⟩).isSome=b:=by
  intro b hb
  cases hv:cP ⟨n,d⟩ with
  |none=>
   cases b with
   |false=>rfl
   |true=>
    obtain⟨q,h3,h4⟩:=hb.1 rfl
    exact absurd h4 (wO.1 hv q h3)
  |some q=>exact ((hb.2 ⟨q,eo.1 hv⟩).symm)
 unfold bV
 dsimp only
 rw[n4,n4,ab,ab]
 cases B9:dt n with
 |false=>
  rw[bc,ab,hb false]
  constructor
  ·intro h;cases h
  ·rintro⟨q,hq,e⟩
   unfold lV at e
   simp only[ak.mk.injEq] at e
   rw[e.1,bI hq.1] at B9;cases B9
 |true=>
  cases H3:dt d with
  |false=>
   rw[gF,bc,ab,hb false]
   constructor
   ·intro h;cases h
   ·rintro⟨q,hq,e⟩
    unfold lV at e
    simp only[ak.mk.injEq] at e
    rw[e.2,bI (by simpa using hq.2)] at H3;cases H3
  |true=>
   obtain⟨n,hn,rfl⟩:=te h1 B9
   obtain⟨d,hd,rfl⟩:=te h2 H3
   have hgi:=NQ hn hd
   rw[gF,gF,yb hd,ab,Kt hn hd,ab,Km,ab,iG]
   by_cases h0:0<d
   ·rw[ao (by rw[AT h0];decide),ab]
    congr 1
    symm
    refine hb _ ?_
    rw[hgi,decide_eq_true_iff]
    have hgl:=(JN (n:=n) (show d≠0 by omega) hd).1
    constructor
    ·intro h
     have:=wd (by simpa using hgl) (by decide) h
     exact⟨h0,by omega⟩
    ·rintro⟨_,h⟩
     rw[h];rfl
   ·rw[aq (by rw[Int.sign_pos_iff];exact h0),ab]
    congr 1
    symm
    refine hb _ ?_
    rw[hgi]
    constructor
    ·intro h;cases h
    ·rintro⟨h,_⟩;exact absurd h h0
theorem yc {n d:Int}(hn:n.natAbs<LIM)(hd:d.natAbs<LIM)(h0:d≠0):cy (enc n) (enc d)=some (lV (Rat.divInt n d)):=by
 obtain⟨B9,H3⟩:=JN (n:=n) h0 hd
 obtain⟨e1,e2⟩:=MI (n:=n) h0
 have hgl:(((Nat.gcd n.natAbs d.natAbs:Nat):Int)).natAbs<LIM:=by simpa using B9
 unfold cy
 rw[n4,n4,ab,ab,bI hn,bI hd,d7,bc,bc,yb hd,ab,ab,bw _ _ (by rw[IL];exact h0),Kt hn hd,ab,ab,Pj hgl,ab]
 have hsel:(cnd (decide (d.sign<(0:Int))) (some (enc (-((Nat.gcd n.natAbs d.natAbs:Nat):Int)))) (some (enc ((Nat.gcd n.natAbs d.natAbs:Nat):Int))))=some (enc (bif decide (d<0) then -((Nat.gcd n.natAbs d.natAbs:Nat):Int) else ((Nat.gcd n.natAbs d.natAbs:Nat):Int))):=by
  by_cases h:d<0
  ·rw[bu _ _ (by rw[Int.sign_neg_iff];exact h),dy h];rfl
  ·rw[bw _ _ (by rw[Int.sign_neg_iff];exact h),gM h];rfl
 have LD:((bif decide (d<0) then -((Nat.gcd n.natAbs d.natAbs:Nat):Int) else ((Nat.gcd n.natAbs d.natAbs:Nat):Int))).natAbs<LIM∧(bif decide (d<0) then -((Nat.gcd n.natAbs d.natAbs:Nat):Int) else ((Nat.gcd n.natAbs d.natAbs:Nat):Int))≠0:=by
  cases decide (d<0)
  ·simp only[cond_false];omega
  ·simp only[kK];omega
 rw[hsel,ab,Kr hn LD.1 LD.2,ab,Kr hd LD.1 LD.2,ab,e1,e2]
 rfl
theorem G4 {x:ar}:cy x (enc 0)=some Cm:=by
 unfold cy
 rw[n4,n4,ab,ab,yb (by decide),ab,bI (by decide),vj,ab]
 cases dt x <;> rfl
theorem BC {x y:ar}(h:(dt x&&dt y)=false):cy x y=some Cm:=by
 unfold cy
 rw[n4,n4,ab,ab,vj,ab]
 cases h1:dt x with
 |false=>rfl
 |true=>
  cases h2:dt y with
  |false=>rfl
  |true=>rw[h1,h2] at h;cases h
def Hr(x y:Rat):Option Rat:=
 if (x.num*((y.den / Nat.gcd x.den y.den:Nat):Int)).natAbs<LIM∧(y.num*((x.den / Nat.gcd x.den y.den:Nat):Int)).natAbs<LIM∧(x.num*((y.den / Nat.gcd x.den y.den:Nat):Int)+y.num*((x.den / Nat.gcd x.den y.den:Nat):Int)).natAbs<LIM∧x.den / Nat.gcd x.den y.den*y.den<LIM then some (x+y) else none
def Dz(x y:Rat):Option Rat:=if mi (x*y) then some (x*y) else none
theorem GU(x y:Rat):Rat.divInt (x.num*((y.den / Nat.gcd x.den y.den:Nat):Int)+y.num*((x.den / Nat.gcd x.den y.den:Nat):Int)) ((x.den / Nat.gcd x.den y.den*y.den:Nat):Int)=x+y:=by
 have hx:=x.den_pos
 have hy:=y.den_pos
 have hg:0<Nat.gcd x.den y.den:=Iv _ hx
 obtain⟨p,hp⟩:=Nat.gcd_dvd_left x.den y.den
 obtain⟨q,hq⟩:=Nat.gcd_dvd_right x.den y.den
 have e1:x.den / Nat.gcd x.den y.den=p:=by
                         conv=>lhs;lhs;rw[hp]
                         exact IR _ hg
 have e2:y.den / Nat.gcd x.den y.den=q:=by
                         conv=>lhs;lhs;rw[hq]
                         exact IR _ hg
 rw[e1,e2,Rat.add_def']
 generalize Nat.gcd x.den y.den=g at hg hp hq
 rw[←Iu,←Rat.divInt_mul_left (a:=(g:Int)) (by omega)]
 congr 1
 ·rw[Int.mul_add,hp,hq,nW,nW,Ej,Ej (y.num)]
 ·rw[hp]
  simp only[nW,Int.mul_assoc]
theorem Mr(x y:Rat):xB (Hr x y):=by
 intro q h
 unfold Hr at h
 split at h
 ·rename_i hc
  obtain⟨_,_,h3,h4⟩:=hc
  injection h with h
  subst h
  rw[←GU]
  refine uV ?_ h3 (by rw[d6];exact h4)
  have hg:0<Nat.gcd x.den y.den:=Iv _ x.den_pos
  have:=Bc (xR y.den x.den_pos) hg
  have:=rf this y.den_pos
  omega
 ·cases h
theorem Mq(x y:Rat):xB (Dz x y):=by
 intro q h
 unfold Dz at h
 split at h
 ·rename_i hc
  injection h with h
  rw[←h];exact hc
 ·cases h
theorem cross(x y:Rat):(x*y).num=(Rat.divInt x.num y.den).num*(Rat.divInt y.num x.den).num∧(x*y).den=(Rat.divInt x.num y.den).den*(Rat.divInt y.num x.den).den:=by
 have hx:=x.den_pos
 have hy:=y.den_pos
 obtain⟨k,m,hk,hm,hm0,e1,e2⟩:=oZ (n:=x.num) (d:=(y.den:Int)) (by omega)
 obtain⟨k',m',s5,zp,hm0',e1',e2'⟩:=oZ (n:=y.num) (d:=(x.den:Int)) (by omega)
 rw[AT (by omega),Int.one_mul] at e1 e2 e1' e2'
 have hxy:x*y=Rat.divInt x.num y.den*Rat.divInt y.num x.den:=by
  rw[Rat.divInt_mul_divInt]
  conv=>lhs;rw[←Rat.num_divInt_den x,←Rat.num_divInt_den y,Rat.divInt_mul_divInt]
  rw[rV (y.den:Int)]
 have hc:Nat.gcd ((Rat.divInt x.num y.den).num*(Rat.divInt y.num x.den).num).natAbs ((Rat.divInt x.num y.den).den*(Rat.divInt y.num x.den).den)=1:=by
  rw[vd]
  have c1:=(Rat.divInt x.num y.den).reduced
  have c2:=(Rat.divInt y.num x.den).reduced
  have d1:(Rat.divInt x.num y.den).num.natAbs ∣ x.num.natAbs:=by
   rw[e1];exact Int.natAbs_dvd_natAbs.2 ⟨_,by rw[rV];exact hk⟩
  have d2:(Rat.divInt y.num x.den).den ∣ x.den:=Int.natCast_dvd_natCast.1 (by rw[e2'];exact⟨_,by rw[rV];exact zp⟩)
  have d3:(Rat.divInt y.num x.den).num.natAbs ∣ y.num.natAbs:=by
   rw[e1'];exact Int.natAbs_dvd_natAbs.2 ⟨_,by rw[rV];exact s5⟩
  have d4:(Rat.divInt x.num y.den).den ∣ y.den:=Int.natCast_dvd_natCast.1 (by rw[e2];exact⟨_,by rw[rV];exact hm⟩)
  have c3:Nat.Coprime (Rat.divInt x.num y.den).num.natAbs (Rat.divInt y.num x.den).den:=Nat.Coprime.coprime_dvd_left d1 (Nat.Coprime.coprime_dvd_right d2 x.reduced)
  have c4:Nat.Coprime (Rat.divInt y.num x.den).num.natAbs (Rat.divInt x.num y.den).den:=Nat.Coprime.coprime_dvd_left d3 (Nat.Coprime.coprime_dvd_right d4 y.reduced)
  exact Nat.Coprime.mul_left (Nat.Coprime.mul_right c1 c3) (Nat.Coprime.mul_right c4 c2)
 rw[hxy,Rat.num_mul,Rat.den_mul,hc]
 exact⟨by simp,by simp⟩
theorem xF(q:Rat):(lV q).vN=enc q.num:=rfl
theorem Az(q:Rat):(lV q).vD=enc (q.den:Int):=rfl
theorem JV(z:Int):(enc z).vBad=decide (¬z.natAbs<LIM):=by
 by_cases h:z.natAbs<LIM
 ·rw[pL h];simp[h]
 ·rw[Ay h];simp[h];rfl
theorem lf {q:Rat}(h:mi q):((q.den:Nat):Int).natAbs<LIM:=by simpa using h.2
theorem G_rMul {x y:Rat}(hx:mi x)(hy:mi y):et (lV x) (lV y)=some (xE (Dz x y)):=by
 have hdx:=x.den_pos
 have hdy:=y.den_pos
 obtain⟨c1,c2⟩:=cross x y
 have f1:=uV (n:=x.num) (d:=(y.den:Int)) (by omega) hx.1 (lf hy)
 have f2:=uV (n:=y.num) (d:=(x.den:Int)) (by omega) hy.1 (lf hx)
 unfold et
 rw[show bV (lV x)=_ from kb (rD (some x)),show bV (lV y)=_ from kb (rD (some y)),sQ hx,sQ hy,ab,ab]
 simp only[AS,d7,bc,ab,xF,Az]
 rw[yc hx.1 (lf hy) (by omega),ab,yc hy.1 (lf hx) (by omega),ab]
 simp only[xF,Az]
 rw[G3 f1.1 f2.1,ab,G3 (lf f1) (lf f2),ab,←c1,←nW,←c2,JV,JV,cnd_or,ab,vj,ab,←Bool.decide_or,iG]
 unfold Dz
 by_cases h:mi (x*y)
 ·obtain⟨h1,h2⟩:=id h
  rw[aq (by rw[d6];omega),ao h];rfl
 ·have h1:¬((x*y).num.natAbs<LIM∧(x*y).den<LIM):=h
  rw[ao (by rw[d6];omega),aq h];rfl
theorem By {x y:ak}(hx:okR x)(hy:okR y)(h:((cP x).isSome&&(cP y).isSome)=false):et x y=some Cm:=by
 unfold et
 rw[kb hx,kb hy,ab,ab,vj,ab]
 cases h1:(cP x).isSome with
 |false=>rfl
 |true=>
  cases h2:(cP y).isSome with
  |false=>rfl
  |true=>rw[h1,h2] at h;cases h
theorem Jl {n g:Nat}:((n:Int)).fdiv (g:Int)=((n / g:Nat):Int):=by
 rw[Int.fdiv_eq_ediv_of_nonneg _ (Ep _)]
 exact (IA ..).symm
theorem G_rAdd {x y:Rat}(hx:mi x)(hy:mi y):fF (lV x) (lV y)=some (xE (Hr x y)):=by
 have hdx:=x.den_pos
 have hdy:=y.den_pos
 have hg:0<Nat.gcd x.den y.den:=Iv _ hdx
 have hgl:Nat.gcd x.den y.den<LIM:=eS (xR _ hdx) hx.2
 have hgl':((Nat.gcd x.den y.den:Nat):Int).natAbs<LIM:=by simpa using hgl
 have hp:x.den / Nat.gcd x.den y.den<LIM:=eS (tv _ _) hx.2
 have hq:y.den / Nat.gcd x.den y.den<LIM:=eS (tv _ _) hy.2
 have hp0:0<x.den / Nat.gcd x.den y.den:=Bc (xR y.den hdx) hg
 have DU:0<x.den / Nat.gcd x.den y.den*y.den:=rf hp0 hdy
 have haf:=GU x y
 unfold fF
 rw[show bV (lV x)=_ from kb (rD (some x)),show bV (lV y)=_ from kb (rD (some y)),sQ hx,sQ hy,ab,ab]
 simp only[AS,d7,bc,ab,xF,Az]
 rw[Kt (lf hx) (lf hy),ab,d6,d6,Kr (lf hx) hgl' (by omega),ab,Kr (lf hy) hgl' (by omega),ab,Jl,Jl,G3 hx.1 (by rw[d6];exact hq),ab,G3 hy.1 (by rw[d6];exact hp),ab,G3 (by rw[d6];exact hp) (lf hy),←nW]
 unfold Hr
 revert haf
 generalize x.num*((y.den / Nat.gcd x.den y.den:Nat):Int)=z1
 generalize y.num*((x.den / Nat.gcd x.den y.den:Nat):Int)=z2
 revert DU
 generalize x.den / Nat.gcd x.den y.den*y.den=D
 intro DU haf
 have hsum:ib (enc z1) (enc z2)=some (if z1.natAbs<LIM∧z2.natAbs<LIM then enc (z1+z2) else GK):=by
  by_cases h:z1.natAbs<LIM∧z2.natAbs<LIM
  ·rw[ao h,G_Add h.1 h.2]
  ·rw[aq h,Lv (by rw[rK,rK,←Bool.decide_and];exact gM h)]
 rw[hsum,ab,ab,uY]
 by_cases h:z1.natAbs<LIM∧z2.natAbs<LIM
 ·rw[ao h]
  by_cases h2:(z1+z2).natAbs<LIM∧D<LIM
  ·rw[yc h2.1 (by rw[d6];exact h2.2) (by omega),haf,ao ⟨h.1,h.2,h2⟩];rfl
  ·rw[BC (by rw[rK,rK,←Bool.decide_and,d6];exact gM h2),aq fun hh=>h2 hh.2.2];rfl
 ·rw[aq h,BC (by rw[CO,Bool.false_and]),aq fun hh=>h ⟨hh.1,hh.2.1⟩];rfl
theorem Bz {x y:ak}(hx:okR x)(hy:okR y)(h:((cP x).isSome&&(cP y).isSome)=false):fF x y=some Cm:=by
 unfold fF
 rw[kb hx,kb hy,ab,ab,vj,ab]
 cases h1:(cP x).isSome with
 |false=>rfl
 |true=>
  cases h2:(cP y).isSome with
  |false=>rfl
  |true=>rw[h1,h2] at h;cases h
def FH(a b:Option Rat):Option Rat:=a.bind fun x=>b.bind fun y=>Hr x y
def yM(a b:Option Rat):Option Rat:=a.bind fun x=>b.bind fun y=>Dz x y
def DC(a:Option Rat):Option Rat:=a.map fun x=>-x
def Hv(a:Option Rat):Option Rat:=a.bind fun x=>if x=0 then none else some x⁻¹
def osub(a b:Option Rat):Option Rat:=FH a (DC b)
def BY(a b:Option Rat):Option Rat:=yM a (Hv b)
def osgn(a:Option Rat):Int:=match a with|some x=>x.num.sign|none=>0
theorem FG(a b:Option Rat):xB (FH a b):=by
 cases a with
 |none=>exact ph
 |some x=>
  cases b with
  |none=>exact ph
  |some y=>exact Mr x y
theorem zU(a b:Option Rat):xB (yM a b):=by
 cases a with
 |none=>exact ph
 |some x=>
  cases b with
  |none=>exact ph
  |some y=>exact Mq x y
theorem Gr {x:Rat}(h:mi x):mi (-x):=⟨by rw[Rat.neg_num,Int.natAbs_neg];exact h.1,h.2⟩
theorem zT {a:Option Rat}(h:xB a):xB (DC a):=by
 cases a with
 |none=>exact ph
 |some x=>
  intro q hq
  injection hq with hq
  subst hq
  exact Gr (h x rfl)
theorem N3 {x:Rat}(h:mi x)(h0:x≠0):mi x⁻¹:=by
 have hn:x.num≠0:=fun h=>h0 (Rat.num_eq_zero.1 h)
 refine⟨?_,?_⟩
 ·rw[Rat.num_inv,vd,Int.natAbs_sign,aq hn,dc,d6];exact h.2
 ·rw[Rat.den_inv,aq hn];exact h.1
theorem Mz {a:Option Rat}(h:xB a):xB (Hv a):=by
 cases a with
 |none=>exact ph
 |some x=>
  intro q hq
  have hq:(if x=0 then none else some x⁻¹)=some q:=hq
  split at hq
  ·cases hq
  ·rename_i h0
   injection hq with hq
   subst hq
   exact N3 (h x rfl) h0
theorem MA(a b:Option Rat):xB (BY a b):=zU _ _
theorem Pd {x y:ak}(hx:okR x)(hy:okR y):fF x y=some (xE (FH (cP x) (cP y))):=by
 cases h1:cP x with
 |none=>exact Bz hx hy (by rw[h1];rfl)
 |some p=>
  cases h2:cP y with
  |none=>exact Bz hx hy (by rw[h1,h2];rfl)
  |some q=>
   obtain⟨hp,rfl⟩:=eo.1 h1
   obtain⟨hq,rfl⟩:=eo.1 h2
   exact G_rAdd hp hq
theorem I2 {x y:ak}(hx:okR x)(hy:okR y):et x y=some (xE (yM (cP x) (cP y))):=by
 cases h1:cP x with
 |none=>exact By hx hy (by rw[h1];rfl)
 |some p=>
  cases h2:cP y with
  |none=>exact By hx hy (by rw[h1,h2];rfl)
  |some q=>
   obtain⟨hp,rfl⟩:=eo.1 h1
   obtain⟨hq,rfl⟩:=eo.1 h2
   exact G_rMul hp hq
theorem Pc {x:ak}(hx:okR x):ij x=some (xE (DC (cP x))):=by
 unfold ij
 rw[kb hx,ab]
 cases h1:cP x with
 |none=>rw[vj,ab];rfl
 |some p=>
  obtain⟨hp,rfl⟩:=eo.1 h1
  simp only[AS,d7,bc,xF,Az]
  rw[Pj hp.1,ab]
  rfl
theorem G_osub {x y:ak}(hx:okR x)(hy:okR y):qf x y=some (xE (osub (cP x) (cP y))):=by
 unfold qf
 rw[Pc hy,ab,Pd hx (rD _),ab,wP (zT (Av y))]
 rfl
theorem I4 {q:Rat}(hq:mi q):cy (enc (q.den:Int)) (enc q.num)=some (xE (Hv (some q))):=by
 by_cases h:q=0
 ·subst h
  show cy _ (enc 0)=_
  rw[G4];rfl
 ·have hn:q.num≠0:=fun h0=>h (Rat.num_eq_zero.1 h0)
  rw[yc (lf hq) hq.1 hn,←Rat.inv_def]
  show _=some (xE (if q=0 then none else some q⁻¹))
  rw[aq h];rfl
theorem G_odiv {x y:ak}(hx:okR x)(hy:okR y):qg x y=some (xE (BY (cP x) (cP y))):=by
 unfold qg
 rw[kb hy,ab]
 cases h2:cP y with
 |none=>
  rw[vj,ab]
  show some Cm=some (xE (yM (cP x) none))
  unfold yM
  cases cP x <;> rfl
 |some q=>
  obtain⟨hq,rfl⟩:=eo.1 h2
  simp only[AS,d7,bc,xF,Az]
  rw[I4 hq,ab,I2 hx (rD _),ab,wP (Mz fun r hr=>by injection hr with hr;subst hr;exact hq)]
  rfl
theorem Pb {x:ak}(hx:okR x):kY x=some (osgn (cP x)):=by
 unfold kY
 rw[kb hx,ab]
 cases h1:cP x with
 |none=>rfl
 |some p=>
  obtain⟨hp,rfl⟩:=eo.1 h1
  simp only[AS,d7,bc,xF]
  rw[yb hp.1,ab]
  rfl
theorem Ij(n:Int):Rat.divInt n 1=(n:Rat):=by
 show Rat.divInt n ((1:Nat):Int)=_
 rw[Iu]
 exact Rat.mkRat_self (n:Rat)
theorem Pa {n:Int}(h:n.natAbs<LIM):lT (enc n)=some (lV (n:Rat)):=by
 unfold lT
 rw[Km,ab,yc h (by decide) (by decide),ab,Ij]
theorem G_rOf {n:Int}(h1:-9223372036854775808≤n)(h2:n≤9223372036854775807):ek n=some (lV (n:Rat)):=by
 have hL:n.natAbs<LIM:=bG (show n.natAbs<18446744073709551616 by omega) (by decide)
 unfold ek
 rw[ES h1 h2,ab,Pa hL,ab]
section
def lF(n:Nat)(f:Nat→Nat):List Int:=(List.range n).map fun j=>(f j:Int)
section
variable {n m p x k j:Nat} {f g:Nat→Nat}
theorem cu:(lF n f).length=n:=by unfold lF;simp
theorem oy(h:j<n):(lF n f)[j]! =(f j:Int):=by
 unfold lF
 rw[eI _ j (by simpa using h)]
 simp
theorem rG(h:∀j,j<n→f j=g j):lF n f=lF n g:=by
 unfold lF
 apply oE
 intro j hj
 rw[h j (by simpa using hj)]
theorem vZ:lF n f++[(f n:Int)]=lF (n+1) f:=by
 unfold lF
 rw[qA,lY];rfl
theorem HI:(lF n f).set p (x:Int)=lF n (fun j=>if j=p then x else f j):=by
 apply Ke
 ·rw[yy,cu,cu]
 ·intro i h1 h2
  rw[List.getElem_set]
  have h3:i<n:=by rw[cu] at h2;exact h2
  have e1:=oy (f:=fun j=>if j=p then x else f j) h3
  rw[eI _ i h2] at e1
  rw[e1]
  split
  ·rename_i h;rw[ao h.symm]
  ·rename_i h
   rw[aq (fun e=>h e.symm)]
   have e2:=oy (f:=f) h3
   rw[eI _ i (by rw[cu];exact h3)] at e2
   exact e2
theorem lF_take(h:m≤n):(lF n f).take m=lF m f:=by
 unfold lF
 rw[←u9,List.take_range,tj h]
theorem lF_cons:[(x:Int)]++lF n f=lF (n+1) (fun j=>if j=0 then x else f (j - 1)):=by
 unfold lF
 rw[List.range_succ_eq_map,e8,ol]
 rfl
theorem MP:List.replicate n (0:Int)=lF n (fun _=>0):=by
 unfold lF
 induction n with
 |zero=>rfl
 |succ n ih=>rw[List.replicate_succ',ih,qA,lY];rfl
end
abbrev dk(n A:Nat):List Int:=lF n (dg 65536 A)
theorem jr {A j:Nat}:dg 65536 A j<65536:=Oe (by decide)
theorem L4(A:Nat):∃n,szp 65536 A n:=by
 induction A using Nat.strongRecOn with
 |_ A ih=>
  by_cases h:A=0
  ·subst h;exact⟨0,by decide,fun h=>by omega⟩
  ·obtain⟨n,h1,h2⟩:=ih (A / 65536) (by omega)
   refine⟨n+1,?_,fun _=>?_⟩
   ·rw[eu];exact (nC (by decide)).1 h1
   ·rw[xT]
    cases n with
    |zero=>rw[fj];omega
    |succ n=>
     have:=h2 (by omega)
     rw[xT] at this
     rw[eu]
     exact (nV (by decide)).1 this
def sz6(A:Nat):Nat:=Classical.choose (L4 A)
theorem vG(A:Nat):szp 65536 A (sz6 A):=xM (L4 A)
theorem jh(A:Nat):A<65536 ^ sz6 A:=(vG A).1
theorem qu {A n:Nat}(h:A<65536 ^ n):sz6 A≤n:=Hh (by decide) (vG A) h
theorem Hi {A n:Nat}(h:szp 65536 A n):n=sz6 A:=L3 (by decide) h (vG A)
theorem zH:sz6 0=0:=(Hi ⟨by decide,fun h=>by omega⟩).symm
theorem zd {A:Nat}(h:0<A):0<sz6 A:=by
 rcases ln (sz6 A) with h1|h1
 ·have:=jh A
  rw[h1,fj] at this;omega
 ·exact h1
noncomputable abbrev dl(A:Nat):List Int:=dk (sz6 A) A
theorem Ii(A:Nat):(dl A).length=sz6 A:=cu
theorem dl_zero:dl 0=[]:=by unfold dl;rw[zH];rfl
theorem Oa {A:Nat}:(dl A).length=0↔A=0:=by
 rw[Ii]
 constructor
 ·intro h
  rcases ln A with h1|h1
  ·exact h1
  ·have:=zd h1;omega
 ·rintro rfl;exact zH
theorem sr {n A k:Nat}(hA:A<65536 ^ n):cZ (dk n A) (k:Int)=some ((dg 65536 A k:Nat):Int):=by
 unfold cZ
 rw[cu]
 by_cases h:k<n
 ·rw[bu _ _,aF,aW,oy h]
 ·rw[bw _ _,j8 (bG hA (gP (by decide) (by omega)))];rfl
theorem vi {n A:Nat}(hA:A<65536 ^ n)(hn:n<1000000):eE (dk n A)=some (dl A):=by
 obtain⟨x,hl,hx⟩:=ul (b:=jF (dk n A)) (fun s=>∃k:Nat,s=(k:Int)∧k≤n∧A<65536 ^ k) (fun s=>s.toNat) (fun x=>x=((sz6 A:Nat):Int))
  (by
   rintro s ⟨k,rfl,hk,bz⟩
   cases k with
   |zero=>
    right
    refine⟨((0:Nat):Int),?_,?_⟩
    ·dsimp only[jF]
     rw[bw _ _,ab,bc]
    ·show ((0:Nat):Int)=_
     rw[←Hi ⟨bz,fun h=>by omega⟩]
   |succ k=>
    have e:i64.wrap (((k+1:Nat):Int) - 1)=(k:Int):=by rw[b8];omega
    dsimp only[jF]
    rw[bu _ _,e,cu,aF,ab,aW,oy (by omega),iG]
    by_cases hd:dg 65536 A k=0
    ·left
     refine⟨(k:Int),by rw[ifp_],⟨k,rfl,by omega,?_⟩,by omega⟩
     unfold dg at hd
     have h1:A / 65536 ^ k<65536:=by
      rw[nC (cH (by decide)),ci,←eu];exact bz
     rw[dM h1] at hd
     exact (EI (cH (by decide))).1 hd
    ·right
     refine⟨((k+1:Nat):Int),by rw[ifn_],?_⟩
     show ((k+1:Nat):Int)=_
     rw[Hi (A:=A) ⟨bz,fun _=>?_⟩]
     rcases bZ A (65536 ^ k) with h|h
     ·exact absurd (j8 h) hd
     ·exact h) (n:Int) ⟨n,rfl,aI _,hA⟩
 unfold eE
 have hs:=qu hA
 rw[cu,hl,hx,ab,aF,subL_to _ _ (by omega),aW,lF_take hs]
theorem pmax {n m A B:Nat}(hA:A<65536 ^ n)(hB:B<65536 ^ m):A<65536 ^ max n m∧B<65536 ^ max n m:=
 ⟨bG hA (gP (by decide) (Ez ..)),bG hB (gP (by decide) (Er ..))⟩
theorem zZ(n m:Nat):max (n:Int) (m:Int)=((max n m:Nat):Int):=by omega
theorem G_dplus {n m A B:Nat}(hA:A<65536 ^ n)(hB:B<65536 ^ m)(hn:n<100000)(hm:m<100000):mX (dk n A) (dk m B)=some (dl (A+B)):=by
 have hM:max n m<100000:=by omega
 obtain⟨JL,hB'⟩:=pmax hA hB
 have hl:=pC (b:=iT (dk n A) (dk m B)) (s0:=(([]:List Int),(0:Int),(0:Int))) (fun k=>(dk k (A+B),(((A % 65536 ^ k+B % 65536 ^ k) / 65536 ^ k:Nat):Int),(k:Int))) (max n m+1) (dk (max n m+1) (A+B))
  (by simp only[fj,lJ];rfl)
  (fun k hk=>by
   have hc:=m6 (b:=65536) (A:=A) (B:=B) (k:=k) (by decide)
   obtain⟨h1,h2⟩:=nY (b:=65536) (A:=A) (B:=B) (k:=k) (by decide)
   have ha:=@jr A k
   have hb:=@jr B k
   have NM:=m6 (b:=65536) (A:=A) (B:=B) (k:=k+1) (by decide)
   generalize (A % 65536 ^ k+B % 65536 ^ k) / 65536 ^ k=c at h1 h2 hc ⊢
   generalize (A % 65536 ^ (k+1)+B % 65536 ^ (k+1)) / 65536 ^ (k+1)=c' at h2 NM ⊢
   dsimp only[iT]
   rw[cu,cu,zZ,b8,bu _ _,sr hA,ab,sr hB,ab,b8 (z:=(dg 65536 A k:Int)+(dg 65536 B k:Int)) (by omega),b8,ab,←jZ,←jZ,show (65536:Int)=((65536:Nat):Int) from rfl,←qD,←qE,oh (dg 65536 A k+dg 65536 B k),←oL,h1,h2,vZ,cu,aF,b8 (z:=(c':Int)) (by omega),b8]
   rfl)
  (by
   dsimp only[iT]
   rw[cu,cu,zZ,b8,bw _ _])
 unfold mX
 have:A+B<65536 ^ (max n m+1):=by rw[eu];omega
 rw[hl,ab,vi this (by omega),ab]
theorem G2 {n m A B:Nat}(hA:A<65536 ^ n)(hB:B<65536 ^ m)(hn:n<100000)(hBA:B≤A):jS (dk n A) (dk m B)=some (dl (A - B)):=by
 obtain⟨D,rfl⟩:∃D,A=D+B:=⟨A - B,by omega⟩
 rw[xT]
 have hl:=pC (b:=ie (dk n (D+B)) (dk m B)) (s0:=(([]:List Int),(0:Int),(0:Int))) (fun k=>(dk k D,(((D % 65536 ^ k+B % 65536 ^ k) / 65536 ^ k:Nat):Int),(k:Int))) n (dk n D)
  (by simp only[fj,lJ];rfl)
  (fun k hk=>by
   have hc:=m6 (b:=65536) (A:=D) (B:=B) (k:=k) (by decide)
   have NM:=m6 (b:=65536) (A:=D) (B:=B) (k:=k+1) (by decide)
   obtain⟨h1,h2⟩:=nY (b:=65536) (A:=D) (B:=B) (k:=k) (by decide)
   have ha:=@jr D k
   have hb:=@jr B k
   have hd:=@jr (D+B) k
   generalize hq:(D % 65536 ^ k+B % 65536 ^ k) / 65536 ^ k=c at h1 h2 hc ⊢
   generalize (D % 65536 ^ (k+1)+B % 65536 ^ (k+1)) / 65536 ^ (k+1)=c' at h2 NM ⊢
   dsimp only[ie]
   rw[cu,bu _ _,aF,sr hB,ab,aW,oy hk,b8 (z:=(dg 65536 (D+B) k:Int) - (dg 65536 B k:Int)) (by omega),b8,ab]
   by_cases hn0:(dg 65536 (D+B) k:Int) - (dg 65536 B k:Int) - (c:Int)<0
   ·obtain rfl:c'=1:=by omega
    rw[bu _ _ hn0,ab,b8]
    dsimp only
    rw[show (dg 65536 (D+B) k:Int) - (dg 65536 B k:Int) - (c:Int)+65536=(dg 65536 D k:Int) from by omega,vZ,cu,aF,b8]
    rfl
   ·obtain rfl:c'=0:=by omega
    rw[bw _ _ hn0,ab]
    dsimp only
    rw[show (dg 65536 (D+B) k:Int) - (dg 65536 B k:Int) - (c:Int)=(dg 65536 D k:Int) from by omega,vZ,cu,aF,b8]
    rfl)
  (by
   dsimp only[ie]
   rw[cu,bw _ _])
 unfold jS
 rw[hl,ab,vi (by omega) (by omega),ab]
theorem vX {A B k:Nat}(he:A / 65536 ^ (k+1)=B / 65536 ^ (k+1))(h:dg 65536 A k<dg 65536 B k):A<B:=by
 have e1:=ck (b:=65536) (A:=A) (k:=k)
 have e2:=ck (b:=65536) (A:=B) (k:=k)
 have h1:A / 65536 ^ k<B / 65536 ^ k:=by
  rw[e1,e2,he];exact tw h _
 rcases bZ A B with h2|h2
 ·exact h2
 ·exact absurd (IS h2) (Nat.not_le.2 h1)
theorem G_dless {n m A B:Nat}(hA:A<65536 ^ n)(hB:B<65536 ^ m)(hn:n<100000)(hm:m<100000):mY (dk n A) (dk m B)=some (decide (A<B)):=by
 obtain⟨JL,hB'⟩:=pmax hA hB
 obtain⟨x,hl,hx⟩:=ul (b:=jG (dk n A) (dk m B)) (fun s=>∃k:Nat,s=(k:Int) - 1∧k≤max n m∧A / 65536 ^ k=B / 65536 ^ k) (fun s=>(s+1).toNat) (fun x=>match x with| .inl r=>r=decide (A<B)| .inr _=>A=B)
  (by
   rintro s ⟨k,rfl,hk,he⟩
   cases k with
   |zero=>
    right
    refine⟨(Sum.inr ():Bool⊕Unit),?_,?_⟩
    ·dsimp only[jG]
     rw[bw _ _]
    ·simpa using he
   |succ k=>
    have e:((k+1:Nat):Int) - 1=(k:Int):=by omega
    rw[e]
    dsimp only[jG]
    rw[bu _ _,sr hA,ab,sr hB,ab]
    by_cases hd:dg 65536 A k=dg 65536 B k
    ·left
     refine⟨(k:Int) - 1,?_,⟨k,rfl,by omega,?_⟩,by omega⟩
     ·rw[bw _ _ (by rw[hd];simp),b8]
     ·rw[ck (b:=65536) (A:=A) (k:=k),ck (b:=65536) (A:=B) (k:=k),he,hd]
    ·right
     refine⟨(Sum.inl (decide (A<B)):Bool⊕Unit),?_,rfl⟩
     rw[bu _ _,ab,ab]
     congr 3
     refine mn.2 ?_
     rcases Nat.lt_or_gt_of_ne hd with h|h
     ·have:=vX he h
      exact⟨fun _=>this,fun _=>by omega⟩
     ·have:=vX he.symm h
      exact⟨fun h'=>by omega,fun h'=>by omega⟩) (((max n m:Nat):Int) - 1) ⟨max n m,rfl,aI _,by rw[fI JL,fI hB']⟩
 unfold mY
 rw[cu,cu,zZ,b8,ab,hl,ab]
 cases x with
 |inl r=>obtain rfl:r=_:=hx;rfl
 |inr u=>
  obtain rfl:A=B:=hx
  simp
section
variable {b:Nat} {f g:Nat→Nat}
theorem Fl:∀n,(∀j,j<n→f j=g j)→fJ b f n=fJ b g n
 |0,_=>rfl
 |n+1,h=>by
  unfold fJ
  rw[Fl n fun j hj=>h j (by omega),h n (by omega)]
theorem Fj {q x:Nat}:∀n,q<n→fJ b (fun j=>if j=q then f j+x else f j) n=fJ b f n+x*b ^ q
 |0,h=>by omega
 |n+1,h=>by
  unfold fJ
  by_cases hq:q=n
  ·subst hq
   rw[ao rfl,Fl q (g:=f) fun j hj=>ifn_,bN];omega
  ·rw[ifn_,Fj n (by omega)];omega
theorem Jb {A:Nat}:∀n,fJ b (dg b A) n=A % b ^ n
 |0=>by simp[fJ,lJ]
 |n+1=>by
  unfold fJ
  rw[Jb n,fW,ci]
theorem Fk(k:Nat):∀n,k≤n→fJ b f n % b ^ k=fJ b f k % b ^ k
 |0,h=>by
  obtain rfl:k=0:=by omega
  rfl
 |n+1,h=>by
  by_cases hk:k=n+1
  ·rw[hk]
  ·have s5:k≤n:=by omega
   obtain⟨d,rfl⟩:∃d,n=k+d:=⟨n - k,by omega⟩
   rw[←Fk k (k+d) s5]
   show (fJ b f (k+d)+f (k+d)*b ^ (k+d)) % b ^ k=_
   rw[j9,CX,xW]
theorem Ja {M:Nat}(hb:2≤b):∀n,(∀j,j<n→f j≤M)→fJ b f n≤M*b ^ n
 |0,_=>by simp[fJ]
 |n+1,h=>by
  have ih:=Ja hb n fun j hj=>h j (by omega)
  have h1:f n*b ^ n≤M*b ^ n:=cc _ (h n (by omega))
  have h2:M*b ^ n*2≤M*b ^ n*b:=rY _ hb
  unfold fJ
  rw[eu,←iw]
  omega
theorem KP {n k:Nat}(hb:0<b)(hk:k<n):(fJ b f k / b ^ k+f k) % b=dg b (fJ b f n) k∧(fJ b f k / b ^ k+f k) / b=fJ b f (k+1) / b ^ (k+1):=by
 have hp:0<b ^ k:=cH hb
 have e:fJ b f (k+1) / b ^ k=fJ b f k / b ^ k+f k:=by
  show (fJ b f k+f k*b ^ k) / b ^ k=_
  rw[IC _ _ hp]
 refine⟨?_,?_⟩
 ·rw[←e,←mj (A:=fJ b f n) (k:=k+1) (cl _),Fk (k+1) n hk,mj (cl _)]
  rfl
 ·rw[←e,jH,←eu]
end
theorem KD {n m A B i:Nat}(hi:i<n)(hn:n<1000)(hm:m<1000)(hB:B<65536 ^ m){R:Nat}(hR:R<65536 ^ (n+m+1)):
  ∃f:Nat→Nat,a7 (ic (dk n A) (dk m B) (i:Int)) ((0:Int),dk (n+m+1) R)=some (lF (n+m+1) f)∧fJ 65536 f (n+m+1)=R+dg 65536 A i*B*65536 ^ i∧∀j,f j≤65535+65535*65535:=by
 have ha:=@jr A i
 have eP:i64.wrap ((i64.wrap (((dk n A).length:Int)+((dk m B).length:Int)))+(1:Int))=((n+m+1:Nat):Int):=by
  rw[cu,cu,b8 (z:=(n:Int)+(m:Int)) (by omega),b8];omega
 obtain⟨x,hl,f,rfl,h1,h2⟩:=ul (b:=ic (dk n A) (dk m B) (i:Int)) (fun s=>∃(k:Nat) (f:Nat→Nat),s=((k:Int),lF (n+m+1) f)∧k≤m∧fJ 65536 f (n+m+1)=R+dg 65536 A i*(B % 65536 ^ k)*65536 ^ i∧(∀j,f j≤65535+65535*65535)∧∀j,i+k≤j→f j≤65535) (fun s=>m - s.1.toNat)
  (fun x=>∃f:Nat→Nat,x=lF (n+m+1) f∧fJ 65536 f (n+m+1)=R+dg 65536 A i*B*65536 ^ i∧∀j,f j≤65535+65535*65535)
  (by
   rintro s ⟨k,f,rfl,hk,hv,hf,NF⟩
   dsimp only[ic]
   rw[eP,aW,cu,cu,cu]
   by_cases hkm:k<m
   ·left
    have eik:i64.wrap ((i:Int)+(k:Int))=((i+k:Nat):Int):=by rw[b8];omega
    have hb:=@jr B k
    have As:dg 65536 A i*dg 65536 B k≤65535*65535:=lW (by omega) (by omega)
    have hfk:=NF (i+k) (aI _)
    rw[bu _ _,eik,aF,aF,aF,aF,ab,aW,aW,aW,oy (by omega),oy hi,oy hkm,←nW,b8 (z:=((dg 65536 A i*dg 65536 B k:Nat):Int)) (by omega),←jZ,b8 (z:=((f (i+k)+dg 65536 A i*dg 65536 B k:Nat):Int)) (by omega),HI,b8]
    have e:lF (n+m+1) (fun j=>if j=i+k then f (i+k)+dg 65536 A i*dg 65536 B k else f j)=lF (n+m+1) (fun j=>if j=i+k then f j+dg 65536 A i*dg 65536 B k else f j):=rG fun j _=>by
     by_cases h:j=i+k
     ·rw[ao h,ao h,h]
     ·rw[aq h,aq h]
    refine⟨_,rfl,⟨k+1,(fun j=>if j=i+k then f j+dg 65536 A i*dg 65536 B k else f j),by rw[e];rfl,by omega,?_,fun j=>?_,fun j hj=>?_⟩,by show m - ((k:Int)+1).toNat<m - (k:Int).toNat;omega⟩
    ·rw[Fj _ (by omega),hv,fW,wi,bN,j9]
     simp only[iw,CX,ci,oL]
    ·dsimp only
     by_cases h:j=i+k
     ·rw[ao h,h];omega
     ·rw[aq h];exact hf j
    ·dsimp only
     rw[ifn_];exact NF j (by omega)
   ·right
    obtain rfl:k=m:=by omega
    refine⟨_,by rw[bw _ _],f,rfl,?_,hf⟩
    rw[hv,dM hB])
  ((0:Int),dk (n+m+1) R) ⟨0,dg 65536 R,rfl,de _,by rw[Jb,fj,lJ,EA,e7,dM hR,i6],fun j=>by have:=@jr R j;omega,fun j _=>by have:=@jr R j;omega⟩
 exact⟨f,hl,h1,h2⟩
theorem Hg {n m A B:Nat}(hn:n<1000)(hm:m<1000){f:Nat→Nat}(hf:∀j,f j≤65535+65535*65535):
  a7 (fL (dk n A) (dk m B)) ((0:Int),(0:Int),lF (n+m+1) f)=some (dk (n+m+1) (fJ 65536 f (n+m+1))):=by
 have eP:i64.wrap ((i64.wrap (((dk n A).length:Int)+((dk m B).length:Int)))+(1:Int))=((n+m+1:Nat):Int):=by
  rw[cu,cu,b8 (z:=(n:Int)+(m:Int)) (by omega),b8];omega
 have hl:=pC (b:=fL (dk n A) (dk m B)) (s0:=((0:Int),(0:Int),lF (n+m+1) f)) (fun k=>(((fJ 65536 f k / 65536 ^ k:Nat):Int),(k:Int),lF (n+m+1) (fun j=>if j<k then dg 65536 (fJ 65536 f (n+m+1)) j else f j))) (n+m+1) (lF (n+m+1) (fun j=>if j<n+m+1 then dg 65536 (fJ 65536 f (n+m+1)) j else f j))
  (by
   rw[show fJ 65536 f 0 / 65536 ^ 0=0 from by simp[fJ],rG (n:=n+m+1) (f:=fun j=>if j<0 then dg 65536 (fJ 65536 f (n+m+1)) j else f j) (g:=f) fun j _=>ifn_]
   rfl)
  (fun k hk=>by
   obtain⟨h1,h2⟩:=KP (b:=65536) (f:=f) (n:=n+m+1) (k:=k) (by decide) hk
   have hc:fJ 65536 f k / 65536 ^ k≤65535+65535*65535:=by
    have:=Ja (b:=65536) (f:=f) (by decide) k fun j _=>hf j
    exact Nat.div_le_of_le_mul (by rw[ci];exact this)
   have hfk:=hf k
   generalize fJ 65536 f k / 65536 ^ k=c at h1 h2 hc ⊢
   generalize fJ 65536 f (k+1) / 65536 ^ (k+1)=c' at h2 ⊢
   dsimp only[fL]
   rw[eP,aW,cu,bu _ _,aF,ab,aF,aW,oy hk,aq (AN _),←jZ,oh (f k),b8 (z:=((c+f k:Nat):Int)) (by omega),show (65536:Int)=((65536:Nat):Int) from rfl,←qD,←qE,h1,h2,b8 (z:=(c':Int)) (by omega),b8,HI]
   have e:lF (n+m+1) (fun j=>if j=k then dg 65536 (fJ 65536 f (n+m+1)) k else if j<k then dg 65536 (fJ 65536 f (n+m+1)) j else f j)=lF (n+m+1) (fun j=>if j<k+1 then dg 65536 (fJ 65536 f (n+m+1)) j else f j):=rG fun j _=>by
    by_cases h:j=k
    ·rw[ao h,ifp_,h]
    ·rw[aq h]
     by_cases h3:j<k
     ·rw[ao h3,ifp_]
     ·rw[aq h3,ifn_]
   rw[e]
   rfl)
  (by
   dsimp only[fL]
   rw[eP,aW,bw _ _])
 rw[hl]
 congr 1
 exact rG fun j hj=>ao hj
theorem Pf {n m A B:Nat}(hA:A<65536 ^ n)(hB:B<65536 ^ m)(hn:n<1000)(hm:m<1000):lS (dk n A) (dk m B)=some (dl (A*B)):=by
 have eP:i64.wrap ((i64.wrap (((dk n A).length:Int)+((dk m B).length:Int)))+(1:Int))=((n+m+1:Nat):Int):=by
  rw[cu,cu,b8 (z:=(n:Int)+(m:Int)) (by omega),b8];omega
 have hbnd:∀i,A % 65536 ^ i*B<65536 ^ (n+m+1):=fun i=>by
  have h1:A % 65536 ^ i*B≤A*B:=cc _ (Nat.mod_le _ _)
  have h2:A*B<65536 ^ n*65536 ^ m:=xU hA hB
  have h3:65536 ^ n*65536 ^ m≤65536 ^ (n+m+1):=by rw[←j9];exact gP (by decide) (by omega)
  omega
 have hl:=pC (b:=iS (dk n A) (dk m B)) (s0:=((0:Int),List.replicate (n+m+1) (0:Int))) (fun i=>((i:Int),dk (n+m+1) (A % 65536 ^ i*B))) n (dk (n+m+1) (A % 65536 ^ n*B))
  (by
   rw[MP,fj,lJ,e7]
   have:dk (n+m+1) 0=lF (n+m+1) (fun _=>0):=rG fun j _=>by unfold dg;simp
   rw[this];rfl)
  (fun i hi=>by
   obtain⟨f,h1,h2,h3⟩:=KD (A:=A) (i:=i) hi hn hm hB (hbnd i)
   dsimp only[iS]
   rw[cu,bu _ _,h1,ab,Hg hn hm h3,ab,h2,b8,fW,bN]
   have:65536 ^ i*dg 65536 A i*B=dg 65536 A i*B*65536 ^ i:=by simp only[iw,CX,ci]
   rw[this]
   rfl)
  (by
   dsimp only[iS]
   rw[cu,bw _ _])
 unfold lS
 rw[eP,aF,aW,hl,ab,cu,aF rfl,dM hA,vi (by have:=hbnd n;rwa[dM hA] at this) (by omega),ab]
end
theorem dg_cons {R d i:Nat}(hd:d<65536):dg 65536 (R*65536+d) (i+1)=dg 65536 R i:=by
 have e:(R*65536+d) / 65536=R:=by omega
 unfold dg
 rw[eu,ci (65536 ^ i),←jH,e]
theorem G_at {n A k:Nat}(hA:A<65536 ^ n):gC (dk n A) (k:Int)=some ((dg 65536 A k:Nat):Int):=by
 unfold gC
 rw[bw _ _,sr hA,ab]
theorem Pi {l:List Int}{k:Int}(h:k<0):gC l k=some 0:=by
 unfold gC
 rw[bu _ _ h]
def vY(A:Nat)(m:Nat):Nat:=if m<2 then 0 else dg 65536 A (m - 2)
theorem JA {A m:Nat}:vY A m<65536:=by
 unfold vY;split
 ·omega
 ·exact jr
theorem G_at2 {n A m:Nat}(hA:A<65536 ^ n)(hm:0<m)(hm2:m<100000):gC (dk n A) (i64.wrap ((m:Int) - (2:Int)))=some ((vY A m:Nat):Int):=by
 unfold vY
 rw[b8]
 by_cases h:m<2
 ·rw[ao h,Pi (by omega)];rfl
 ·rw[aq h,show (m:Int) - 2=((m - 2:Nat):Int) from by omega,G_at hA]
def Ih(x0 x1 x2:Nat):Nat:=x0*4294967296+x1*65536+x2
theorem Lg {x0 x1 x2:Nat}(h0:x0<65536)(h1:x1<65536)(h2:x2<65536):i64.wrap ((i64.wrap ((i64.wrap ((x0:Int)*(4294967296:Int)))+(i64.wrap ((x1:Int)*(65536:Int)))))+(x2:Int))=((Ih x0 x1 x2:Nat):Int):=by
 unfold Ih
 rw[b8 (z:=(x0:Int)*(4294967296:Int)) (by omega),b8 (z:=(x1:Int)*(65536:Int)) (by omega),b8 (z:=(x0:Int)*4294967296+(x1:Int)*65536) (by omega),b8]
 omega
theorem est3_lt {x0 x1 x2:Nat}(h0:x0<65536)(h1:x1<65536)(h2:x2<65536):Ih x0 x1 x2<281474976710656:=by
 unfold Ih;omega
theorem quo_w {S T:Nat}(h:S<281474976710656):i64.wrap (Int.tdiv (S:Int) (T:Int))=((S / T:Nat):Int):=by
 have:=tv S T
 rw[←qE]
 generalize S / T=q at this ⊢
 rw[b8]
theorem min_w {e:Nat}:min (65535:Int) (e:Int)=((min 65535 e:Nat):Int):=by omega
theorem est_ge {X B m:Nat}(hm:0<m)(hB:B<65536 ^ m)(hB1:65536 ^ (m - 1)≤B)(hX:X<B*65536):
  X / B≤Ih (dg 65536 X m) (dg 65536 X (m - 1)) (vY X m) / (dg 65536 B (m - 1)*65536+vY B m):=by
 unfold Ih
 have Gk:0<B:=bG (cH (by decide)) hB1
 have hXm:X<65536 ^ (m+1):=by
  rw[eu];exact bG hX (cc _ (nA hB))
 by_cases h:m<2
 ·obtain rfl:m=1:=by omega
  have eX:X=dg 65536 X 1*65536+dg 65536 X 0:=by
   have:=ck (b:=65536) (A:=X) (k:=0)
   rw[fj,mp] at this
   have e2:=ck (b:=65536) (A:=X) (k:=1)
   rw[fI hXm,e7,bE] at e2
   rw[←e2];exact this
  have eB:B=dg 65536 B 0:=by
   have:=ck (b:=65536) (A:=B) (k:=0)
   rw[fj,mp,fI hB,e7,bE] at this
   exact this
  unfold vY
  rw[ifp_,ifp_,i6,i6,show 1 - 1=0 from rfl,←eB]
  have:dg 65536 X 1*4294967296+dg 65536 X 0*65536=X*65536:=by omega
  rw[this,Nat.mul_div_mul_right _ _ (by decide)]
  exact aI _
 ·obtain⟨p,rfl⟩:∃p,m=p+2:=⟨m - 2,by omega⟩
  have hp:0<65536 ^ p:=cH (by decide)
  have eX:X / 65536 ^ p=dg 65536 X (p+2)*4294967296+dg 65536 X (p+1)*65536+dg 65536 X p:=by
   have e0:=ck (b:=65536) (A:=X) (k:=p)
   have e1:=ck (b:=65536) (A:=X) (k:=p+1)
   have e2:=ck (b:=65536) (A:=X) (k:=p+2)
   rw[fI hXm,e7,bE] at e2
   rw[e0,e1,show p+1+1=p+2 from rfl,e2,bN,iw]
  have eB:B / 65536 ^ p=dg 65536 B (p+1)*65536+dg 65536 B p:=by
   have e0:=ck (b:=65536) (A:=B) (k:=p)
   have e1:=ck (b:=65536) (A:=B) (k:=p+1)
   rw[fI hB,e7,bE] at e1
   rw[e0,e1]
  unfold vY
  rw[aq h,aq h,show p+2 - 2=p from rfl,show p+2 - 1=p+1 from rfl,←eX,←eB]
  have hT:0<B / 65536 ^ p:=by
   refine Bc (cG ?_ hB1) hp
   exact gP (by decide) (by omega)
  rw[nV hT,nV hp,iw]
  refine cG (rY _ (IU _ _)) ?_
  rw[ci]
  exact Nat.mul_div_le _ _
theorem FR {X B d:Nat}(hB:0<B):X<B*d↔X / B<d:=by
 rw[nC hB,ci]
theorem Oc {X B m:Nat}(hm:m<900)(hB:B<65536 ^ m)(Gk:0<B)(hXs:sz6 X≤m+1)(d:Nat)(hd:X / B≤d)(Gb:d≤65535):
  a7 (gA (dk m B) (dl X)) ((d:Int),dl (B*d))=some (((X / B:Nat):Int),dl (B*(X / B))):=by
 obtain⟨x,hl,hx⟩:=ul (b:=gA (dk m B) (dl X)) (fun s=>∃d:Nat,s=((d:Int),dl (B*d))∧X / B≤d∧d≤65535) (fun s=>s.1.toNat) (fun x=>x=(((X / B:Nat):Int),dl (B*(X / B))))
  (by
   rintro s ⟨d,rfl,h1,h2⟩
   have hBd:B*d<65536 ^ (m+1):=by
    rw[eu];exact Nat.mul_lt_mul_of_lt_of_le hB (by omega) (by decide)
   have hsz:=qu hBd
   dsimp only[gA]
   rw[G_dless (jh X) (jh (B*d)) (by omega) (by omega),ab]
   by_cases bz:X<B*d
   ·left
    have h3:=(FR Gk).1 bz
    have DU:0<d:=eS (de _) h3
    have h4:B≤B*d:=vc _ DU
    refine⟨_,by rw[bu _ _ bz,G2 (jh (B*d)) hB (by omega) h4,ab,b8],⟨d - 1,?_,by omega,by omega⟩,?_⟩
    ·rw[Nat.mul_sub,rX]
     congr 1
     omega
    ·show ((d:Int) - 1).toNat<((d:Nat):Int).toNat
     omega
   ·right
    have h3:=mt (FR Gk).2 bz
    obtain rfl:d=X / B:=by omega
    exact⟨_,by rw[bw _ _ bz],rfl⟩) ((d:Int),dl (B*d)) ⟨d,rfl,hd,Gb⟩
 rw[hl,hx]
set_option maxRecDepth 10000 in
theorem Pg {A B:Nat}(hA:sz6 A<800)(hBs:sz6 B<800)(Gk:0<B):iU (dl A) (dl B)=some (dl (A / B),dl (A % B)):=by
 obtain⟨m,hm⟩:∃m,m=sz6 B:=⟨_,rfl⟩
 obtain⟨n,hn⟩:∃n,n=sz6 A:=⟨_,rfl⟩
 have hB:=jh B
 have hB1:=(vG B).2 (zd Gk)
 have hm0:=zd Gk
 have hAn:=jh A
 show iU (dk (sz6 A) A) (dk (sz6 B) B)=_
 rw[←hm] at hB hB1 hm0 hBs ⊢
 rw[←hn] at hAn hA ⊢
 have cQ:1≤dg 65536 B (m - 1):=by
  have:=ck (b:=65536) (A:=B) (k:=m - 1)
  rw[show m - 1+1=m from by omega,fI hB,e7,bE] at this
  rw[←this]
  exact (nV (cH (by decide))).2 (by rw[dc];exact hB1)
 have hbl:=@jr B (m - 1)
 have hll:=@JA B m
 have em1:i64.wrap ((m:Int) - (1:Int))=((m - 1:Nat):Int):=by rw[b8];omega
 have hm5:m<100000:=by omega
 have htop:((dg 65536 B (m - 1)*65536+vY B m:Nat):Int)≠0:=by omega
 have hl:=ML (b:=gB (dk n A) (dk m B) ((dg 65536 B (m - 1)*65536+vY B m:Nat):Int)) (s0:=(([]:List Int),(n:Int) - 1,List.replicate n (0:Int))) (fun k=>(dl (A / 65536 ^ k % B),(k:Int) - 1,lF n (fun j=>if k≤j then dg 65536 (A / B) j else 0))) n (dl (A / 65536 ^ 0 % B),lF n (fun j=>if 0≤j then dg 65536 (A / B) j else 0))
  (by
   rw[fI hAn,Nat.zero_mod,dl_zero,MP]
   congr 2
   exact rG fun j hj=>ifn_)
  (fun k hk=>by
   obtain⟨h1,h2⟩:=uI (b:=65536) (A:=A) (k:=k) (d:=B) (by decide) Gk
   have hr:=c6 (A / 65536 ^ (k+1)) Gk
   have ha:=@jr A k
   generalize A / 65536 ^ (k+1) % B=R at h1 h2 hr ⊢
   generalize A / 65536 ^ k % B=R' at h2 ⊢
   have hX:R*65536+dg 65536 A k<B*65536:=by
    have:(R+1)*65536≤B*65536:=cc _ hr
    omega
   have hRs:sz6 R≤m:=qu (by omega)
   have hXm:R*65536+dg 65536 A k<65536 ^ (m+1):=by
    rw[eu];exact bG hX (cc _ (nA hB))
   have hXs:=qu hXm
   have hcons:[(dg 65536 A k:Int)]++dl R=dk (sz6 R+1) (R*65536+dg 65536 A k):=by
    unfold dl
    rw[lF_cons]
    exact rG fun j hj=>by
     by_cases hj0:j=0
     ·subst hj0
      rw[ao rfl]
      unfold dg
      rw[fj,mp]
      have:=@jr A k
      unfold dg at this
      omega
     ·rw[aq hj0]
      obtain⟨i,rfl⟩:∃i,j=i+1:=⟨j - 1,by omega⟩
      exact (dg_cons ha).symm
   have hXlt:R*65536+dg 65536 A k<65536 ^ (sz6 R+1):=by
    have:=jh R
    rw[eu]
    have h3:(R+1)*65536≤65536 ^ sz6 R*65536:=cc _ this
    rw[bN,dc] at h3
    exact bG (tw ha _) h3
   have hszR:sz6 R+1<1000:=by
    have:=eS hRs hBs
    exact bG (Nat.succ_lt_succ this) (by decide)
   have ei:((k+1:Nat):Int) - 1=(k:Int):=by omega
   have K5:=est_ge hm0 hB hB1 hX
   have d1:=@jr (R*65536+dg 65536 A k) m
   have d2:=@jr (R*65536+dg 65536 A k) (m - 1)
   have d3:=@JA (R*65536+dg 65536 A k) m
   have hqk:(R*65536+dg 65536 A k) / B<65536:=(nC Gk).2 (by rw[ci 65536 B];exact hX)
   dsimp only[gB]
   rw[ei,bu _ _ (Ep k)]
   rw[cu,cu,cu]
   rw[aF (show (0:Int)≤(k:Int)∧(k:Int)<(n:Int) from⟨Ep k,Int.ofNat_lt.2 hk⟩)]
   rw[aW,aW]
   rw[oy hk,hcons,cu]
   rw[aF (show (sz6 R+1)*8≤140737488355328 from cG (cc _ (nA hszR)) (by decide))]
   rw[vi hXlt (xS hszR (by decide)),ab,G_at (jh _),ab]
   rw[show i64.wrap ((m:Int) - (1:Int))=((m - 1:Nat):Int) from em1,G_at (jh _),ab,G_at2 (jh _) hm0 hm5,ab,aF htop]
   obtain⟨X,hX2⟩:∃X,X=R*65536+dg 65536 A k:=⟨_,rfl⟩
   rw[←hX2] at h1 h2 hX hXm hXs hXlt K5 d1 d2 d3 hqk ⊢
   generalize dg 65536 X m=x0 at K5 d1 ⊢
   generalize dg 65536 X (m - 1)=x1 at K5 d2 ⊢
   generalize vY X m=x2 at K5 d3 ⊢
   have hS:=est3_lt d1 d2 d3
   rw[Lg d1 d2 d3,quo_w hS]
   generalize Ih x0 x1 x2 / (dg 65536 B (m - 1)*65536+vY B m)=e at K5 ⊢
   have LJ:X / B≤min 65535 e:=Nat.le_min.2 ⟨Nat.le_of_lt_succ hqk,K5⟩
   have Gb:min 65535 e≤65535:=Nat.min_le_left ..
   rw[min_w,ab]
   generalize min 65535 e=d at LJ Gb ⊢
   have e1:[(d:Int)]=dk 1 d:=by
    show _=lF 1 _
    unfold lF dg
    simp only[List.range_one,e8,gL,fj,mp]
    rw[dM (by omega)]
   have hmul:B*(X / B)≤X:=Nat.mul_div_le _ _
   have hms:sz6 (B*(X / B))≤m+1:=qu (by omega)
   rw[e1,Pf hB (by rw[tx];omega) (by omega) (by omega),ab,Oc (by omega) hB Gk hXs d LJ Gb,ab]
   dsimp only
   rw[aF,G2 (jh X) (jh _) (by omega) hmul,ab,b8,HI]
   have em:X - B*(X / B)=X % B:=by have:=nB X B;omega
   rw[em,h2,h1]
   have ef:lF n (fun j=>if j=k then dg 65536 (A / B) k else if k+1≤j then dg 65536 (A / B) j else 0)=lF n (fun j=>if k≤j then dg 65536 (A / B) j else 0):=rG fun j _=>by
    by_cases h:j=k
    ·rw[ao h,ifp_,h]
    ·rw[aq h]
     by_cases h3:k+1≤j
     ·rw[ao h3,ifp_]
     ·rw[aq h3,ifn_]
   rw[ef])
  (by
   dsimp only[gB]
   rw[bw _ _])
 have hq:A / B<65536 ^ n:=eS (tv _ _) hAn
 unfold iU
 rw[cu,cu,aF,show i64.wrap ((m:Int) - (1:Int))=((m - 1:Nat):Int) from by rw[b8];omega,aF,G_at2 hB hm0 (by omega),ab,aW,aW,oy (by omega),b8 (z:=(dg 65536 B (m - 1):Int)*65536) (by omega),b8,ab,b8,ab,show (dg 65536 B (m - 1):Int)*65536+(vY B m:Int)=((dg 65536 B (m - 1)*65536+vY B m:Nat):Int) from by omega,hl,ab]
 dsimp only
 rw[cu,aF rfl,rG (n:=n) (f:=fun j=>if 0≤j then dg 65536 (A / B) j else 0) (g:=dg 65536 (A / B)) fun j _=>ao (de _),vi hq (by omega),ab,fj,mp]
theorem LIM6:LIM=65536 ^ 32:=by decide +kernel
theorem JX {A k:Nat}:dg 4294967296 A k=dg 65536 A (2*k+1)*65536+dg 65536 A (2*k):=by
 have e:(4294967296:Nat) ^ k=65536 ^ (2*k):=by rw[Lq]
 unfold dg
 rw[e,eu,←jH]
 omega
theorem Ph {x:ar}{A:Nat}(hx:x.vW=W A)(hA:A<LIM):dZ x=some (dl A):=by
 have hl:=pC (b:=ig x) (s0:=(([]:List Int),(0:Int))) (fun k=>(dk (2*k) A,(k:Int))) 16 (dk 32 A)
  (by rfl)
  (fun k hk=>by
   have hp:=JX (A:=A) (k:=k)
   have h0:=@jr A (2*k)
   have h1:=@jr A (2*k+1)
   dsimp only[ig]
   rw[bu _ _,aF,aF,hx,aW,fR hk]
   have e1:i64.wrap (Int.tmod (dg 4294967296 A k:Int) (65536:Int))=(dg 65536 A (2*k):Int):=by
    rw[show (65536:Int)=((65536:Nat):Int) from rfl,←qD,b8];omega
   have e2:i64.wrap (u32.wrap (Int.tdiv (dg 4294967296 A k:Int) (65536:Int)))=(dg 65536 A (2*k+1):Int):=by
    rw[show (65536:Int)=((65536:Nat):Int) from rfl,←qE,wV,b8];omega
   rw[e1,e2,show dk (2*k) A++[(dg 65536 A (2*k):Int),(dg 65536 A (2*k+1):Int)]=(dk (2*k) A++[(dg 65536 A (2*k):Int)])++[(dg 65536 A (2*k+1):Int)] from by rw[dQ];rfl,vZ,vZ,cu,aF,b8]
   rfl)
  (by
   dsimp only[ig]
   rw[bw _ _])
 unfold dZ
 rw[hl,ab,vi (by rw[←LIM6];exact hA) (by decide),ab]
theorem O8:kD=some GK:=by unfold kD;rw[r16];rfl
theorem MB {n A:Nat}(hn:n≤32)(neg:Bool):
  a7 (fe (dk n A)) ((0:Int),(⟨false,neg,W 0⟩:ar))=some (⟨false,neg,W (A % 65536 ^ n)⟩:ar):=by
 have hb:0<(4294967296:Nat):=by decide
 have hl:=pC (b:=fe (dk n A)) (s0:=((0:Int),(⟨false,neg,W 0⟩:ar))) (fun k=>((k:Int),(⟨false,neg,W (A % 65536 ^ k)⟩:ar))) n (⟨false,neg,W (A % 65536 ^ n)⟩:ar)
  (by rw[fj,lJ];rfl)
  (fun k hk=>by
   have h0:=@jr A k
   have bz:A % 65536 ^ k<65536 ^ k:=c6 _ (cH (by decide))
   have hdiv:i64.wrap (Int.tdiv (k:Int) (2:Int))=((k / 2:Nat):Int):=by
    rw[show (2:Int)=((2:Nat):Int) from rfl,←qE,b8]
   have e1:=JX (A:=A % 65536 ^ k) (k:=k / 2)
   have hu:=fun x:Nat=>Hf (b:=4294967296) (A:=A % 65536 ^ k) (p:=k / 2) (x:=x)
   dsimp only[fe]
   rw[cu,bu _ _,hdiv,aF,aF,aF,ab,aF,aF,aF,ab,aW,aW,fR (by omega),oy hk,show (2:Int)=((2:Nat):Int) from rfl,←qD,wV (n:=dg 65536 A k) (by omega),iG]
   have qH:A % 65536 ^ (k+1)=A % 65536 ^ k+65536 ^ k*dg 65536 A k:=fW
   have hpow:(4294967296:Nat) ^ (k / 2)=65536 ^ (2*(k / 2)):=by rw[Lq]
   by_cases he:k % 2=0
   ·have yV:2*(k / 2)=k:=by omega
    have d0:dg 4294967296 (A % 65536 ^ k) (k / 2)=0:=by
     rw[e1,yV,j8 bz,j8 (bG bz (gP (by decide) (by omega)))]
    rw[ifp_,ab,d0,←jZ,wV,wS hb (by omega) (by omega),b8]
    have:=hu (0+dg 65536 A k)
    rw[d0,hpow,yV] at this
    rw[e7,i6,bE] at this
    rw[show up1 4294967296 (A % 65536 ^ k) (k / 2) (0+dg 65536 A k)=A % 65536 ^ (k+1) from by rw[qH,ci (65536 ^ k),bE];exact this]
    rfl
   ·have yV:2*(k / 2)+1=k:=by omega
    have d1:dg 4294967296 (A % 65536 ^ k) (k / 2)=dg 65536 A (2*(k / 2)):=by
     rw[e1,yV,j8 bz,e7,bE,mj (by omega)]
    have h2:=@jr A (2*(k / 2))
    rw[ifn_,ab,d1,show ((dg 65536 A k:Nat):Int)*(65536:Int)=((dg 65536 A k*65536:Nat):Int) from by omega,wV (n:=dg 65536 A k*65536) (by omega),←jZ,wV,wS hb (by omega) (by omega),b8]
    have:=hu (dg 65536 A (2*(k / 2))+dg 65536 A k*65536)
    rw[d1,hpow,bN] at this
    have bF:65536 ^ (2*(k / 2))*65536=(65536:Nat) ^ k:=by rw[←eu];exact congrArg _ yV
    have e3:dg 65536 A k*65536*65536 ^ (2*(k / 2))=65536 ^ k*dg 65536 A k:=by
     rw[iw,ci 65536,bF,ci]
    rw[e3,Nat.add_left_comm,oh] at this
    have hfin:=Nat.add_left_cancel this
    rw[show up1 4294967296 (A % 65536 ^ k) (k / 2) (dg 65536 A (2*(k / 2))+dg 65536 A k*65536)=A % 65536 ^ (k+1) from by rw[qH];exact hfin]
    rfl)
  (by
   dsimp only[fe]
   rw[cu,bw _ _])
 exact hl
theorem BB {n A:Nat}(hA:A<65536 ^ n)(hn:n<100000)(neg:Bool):eF neg (dk n A)=some (enc (bif neg then -(A:Int) else (A:Int))):=by
 have hiff:32<sz6 A↔¬A<LIM:=by
  rw[LIM6]
  constructor
  ·intro h h2
   have:=qu h2;omega
  ·intro h
   rcases bZ 32 (sz6 A) with h1|h1
   ·exact h1
   ·exact absurd (bG (jh A) (gP (by decide) h1)) h
 have As:(bif neg then -(A:Int) else (A:Int)).natAbs=A:=by cases neg <;> simp
 unfold eF
 rw[vi hA (by omega),ab,Ii,r16]
 by_cases h:32<sz6 A
 ·rw[bu _ _,O8,ab,Ay (by rw[As];exact hiff.1 h)]
 ·have hAL:A<LIM:=Decidable.byContradiction fun h2=>h (hiff.2 h2)
  have hneg:decide ((0:Int)<((sz6 A:Nat):Int))= !decide (A=0):=by
   rw[←decide_not]
   refine mn.2 ?_
   constructor
   ·intro h3 h4;subst h4;rw[zH] at h3;omega
   ·intro h3;have:=zd (rW h3);omega
  have hsel:(cnd neg (bnd (some ((⟨false,decide ((0:Int)<((sz6 A:Nat):Int)),W 0⟩:ar))) fun x7=>some (x7)) (some ((⟨false,false,W 0⟩:ar))))=some (⟨false,neg&&!decide (A=0),W 0⟩:ar):=by
   rw[ab,hneg]
   cases neg <;> rfl
  rw[bw _ _,hsel,ab,MB (by omega),ab,dM (jh A),N6 hAL]
theorem zeroW {v:Vector Int 16}:(∀j:Nat,j<16→v[j]! =0)↔v=W 0:=by
 constructor
 ·intro h
  apply mK
  intro j hj
  rw[h j hj,fR hj]
  unfold dg;simp
 ·rintro rfl j hj
  rw[fR hj]
  unfold dg;simp
theorem li(x:ar):db x=some (dt x):=by
 have hl:=pC (b:=iV x) (s0:=(true,(0:Int))) (fun k=>(decide (∀j:Nat,j<k→x.vW[j]! =0),(k:Int))) 16 (decide (∀j:Nat,j<16→x.vW[j]! =0))
  (by
   rw[dy (p:=∀j:Nat,j<0→x.vW[j]! =0) (fun j hj=>by omega)]
   rfl)
  (fun k hk=>by
   dsimp only[iV]
   rw[bu _ _,aF,aW,cnd_and,ab,b8,←Bool.decide_and]
   have:((∀j:Nat,j<k→x.vW[j]! =0)∧x.vW[k]! =0)↔∀j:Nat,j<k+1→x.vW[j]! =0:=by
    constructor
    ·rintro⟨h1,h2⟩ j hj
     by_cases h:j=k
     ·rw[h];exact h2
     ·exact h1 j (by omega)
    ·intro h
     exact⟨fun j hj=>h j (by omega),h k (by omega)⟩
   rw[mn.2 this]
   rfl)
  (by
   dsimp only[iV]
   rw[bw _ _])
 have hz:decide (∀j:Nat,j<16→x.vW[j]! =0)=decide (x.vW=W 0):=mn.2 zeroW
 unfold db n0 dt
 rw[hl,ab,hz]
 cases x.vBad <;> cases decide (x.vW=W 0) <;> cases x.vNeg <;> rfl
theorem JG {A:Nat}(hA:A<LIM)(h:∀j,2≤j→j<16→dg 4294967296 A j=0):A / 4294967296 ^ 2=0:=by
 have key:∀d,d≤14→A / 4294967296 ^ (16 - d)=0:=by
  intro d
  induction d with
  |zero=>intro _;exact fI hA
  |succ d ih=>
   intro hd
   have h1:=ih (by omega)
   have h2:=ck (b:=4294967296) (A:=A) (k:=16 - (d+1))
   rw[show 16 - (d+1)+1=16 - d from by omega,h1,e7,bE,h _ (by omega) (by omega)] at h2
   exact h2
 exact key 14 (aI _)
structure uD(a:Int):Prop where
 h:a.natAbs<4611686018427387904
instance(a:Int):Decidable (uD a):=decidable_of_iff (a.natAbs<4611686018427387904) ⟨fun h=>⟨h⟩,fun h=>h.h⟩
theorem LQ {A:Nat}(hA:A<LIM):A<4611686018427387904↔dg 4294967296 A 1<1073741824∧∀j,2≤j→j<16→dg 4294967296 A j=0:=by
 constructor
 ·intro h
  refine⟨?_,fun j h1 _=>j8 (bG h ?_)⟩
  ·unfold dg;rw[tx];omega
  ·exact cG (by decide:4611686018427387904≤4294967296 ^ 2) (gP (by decide) h1)
 ·rintro⟨h1,h2⟩
  have h3:=JG hA h2
  have h4:=ck (b:=4294967296) (A:=A) (k:=1)
  rw[show 1+1=2 from rfl,h3,e7,bE,tx] at h4
  omega
theorem O5 {a:Int}(ha:a.natAbs<LIM):kW (enc a)=some (if uD a then (a,true) else (0,false)):=by
 have hwi:=LQ ha
 obtain⟨x,hl,hx⟩:=ul (b:=kV (enc a)) (fun s=>∃k:Nat,s=(k:Int)∧2≤k∧k≤16∧∀j,2≤j→j<k→dg 4294967296 a.natAbs j=0) (fun s=>16 - s.toNat) (fun x=>match x with| .inl r=>r=((0:Int),false)∧¬(∀j,2≤j→j<16→dg 4294967296 a.natAbs j=0)| .inr _=>∀j,2≤j→j<16→dg 4294967296 a.natAbs j=0)
  (by
   rintro s ⟨k,rfl,yV,hk,hz⟩
   dsimp only[kV]
   rw[lm ha]
   by_cases h16:k<16
   ·rw[bu _ _,aF,aW,fR h16]
    by_cases hd:dg 4294967296 a.natAbs k=0
    ·left
     refine⟨((k+1:Nat):Int),by rw[bw _ _,b8];rfl,⟨k+1,rfl,by omega,by omega,fun j h1 h2=>?_⟩,by omega⟩
     by_cases h:j=k
     ·rw[h];exact hd
     ·exact hz j h1 (by omega)
    ·right
     refine⟨(Sum.inl ((0:Int),false):(Int×Bool)⊕Unit),by rw[bu _ _],rfl,fun h=>hd (h k yV h16)⟩
   ·right
    refine⟨(Sum.inr ():(Int×Bool)⊕Unit),by rw[bw _ _],?_⟩
    obtain rfl:k=16:=by omega
    exact hz) (2:Int) ⟨2,rfl,by omega,by omega,fun j h1 h2=>by omega⟩
 have e1:(W a.natAbs)[((1:Int)).toNat]! =(dg 4294967296 a.natAbs 1:Int):=fR (by decide)
 have e0:(W a.natAbs)[((0:Int)).toNat]! =(dg 4294967296 a.natAbs 0:Int):=fR (by decide)
 have d0:=@dgl a.natAbs 0
 unfold kW
 rw[li,bI ha,ab,d7,bc,ab,lm ha,e1,e0,m5 ha]
 by_cases h1:dg 4294967296 a.natAbs 1<1073741824
 ·rw[bw _ _,hl,ab]
  cases x with
  |inl r=>
   obtain⟨rfl,h2⟩:=hx
   have:¬uD a:=fun h=>h2 (hwi.1 h.h).2
   rw[aq this]
  |inr u=>
   have h2:uD a:=⟨hwi.2 ⟨h1,hx⟩⟩
   have h3:=JG ha hx
   have h4:=ck (b:=4294967296) (A:=a.natAbs) (k:=1)
   rw[show 1+1=2 from rfl,h3,e7,bE,tx] at h4
   have h5:dg 4294967296 a.natAbs 0=a.natAbs % 4294967296:=by unfold dg;rw[fj,mp]
   have h6:(dg 4294967296 a.natAbs 1:Int)*4294967296+(dg 4294967296 a.natAbs 0:Int)=(a.natAbs:Int):=by omega
   have h7:=h2.h
   dsimp only
   rw[b8 (z:=(dg 4294967296 a.natAbs 1:Int)) (by omega),b8 (z:=(dg 4294967296 a.natAbs 1:Int)*4294967296) (by omega),b8 (z:=(dg 4294967296 a.natAbs 0:Int)) (by omega),h6,b8 (z:=(a.natAbs:Int)) (by omega),ab,iG,ao h2]
   by_cases hn:a<0
   ·rw[ao hn,b8,show (0:Int) - (a.natAbs:Int)=a from by omega]
   ·rw[aq hn,show (a.natAbs:Int)=a from by omega]
 ·have:¬uD a:=fun h=>h1 (hwi.1 h.h).1
  rw[bu _ _,aq this]
theorem dk4 {N:Nat}:dk 4 N=[(dg 65536 N 0:Int),(dg 65536 N 1:Int),(dg 65536 N 2:Int),(dg 65536 N 3:Int)]:=rfl
theorem of4 {N:Nat}(hN:N<9223372036854775808):[Int.tmod (N:Int) (65536:Int),Int.tmod (i64.wrap (Int.tdiv (N:Int) (65536:Int))) (65536:Int),Int.tmod (i64.wrap (Int.tdiv (N:Int) (4294967296:Int))) (65536:Int),i64.wrap (Int.tdiv (N:Int) (281474976710656:Int))]=dk 4 N:=by
 have e1:i64.wrap (Int.tdiv (N:Int) (65536:Int))=((N / 65536:Nat):Int):=by
  rw[show (65536:Int)=((65536:Nat):Int) from rfl,←qE,b8]
 have e2:i64.wrap (Int.tdiv (N:Int) (4294967296:Int))=((N / 4294967296:Nat):Int):=by
  rw[show (4294967296:Int)=((4294967296:Nat):Int) from rfl,←qE,b8]
 have e3:i64.wrap (Int.tdiv (N:Int) (281474976710656:Int))=((N / 281474976710656:Nat):Int):=by
  rw[show (281474976710656:Int)=((281474976710656:Nat):Int) from rfl,←qE,b8]
 rw[e1,e2,e3,dk4,show (65536:Int)=((65536:Nat):Int) from rfl,←qD,←qD,←qD]
 have d0:dg 65536 N 0=N % 65536:=by unfold dg;rw[fj,mp]
 have d1:dg 65536 N 1=N / 65536 % 65536:=by unfold dg;rw[tx]
 have d2:dg 65536 N 2=N / 4294967296 % 65536:=rfl
 have d3:dg 65536 N 3=N / 281474976710656:=by
  have:dg 65536 N 3=N / 281474976710656 % 65536:=rfl
  rw[this];omega
 rw[d0,d1,d2,d3]
theorem one_dk:[(1:Int)]=dk 1 1:=rfl
theorem Kk {n:Int}(h1:-9223372036854775808≤n)(h2:n≤9223372036854775807):nL n=some (enc n):=by
 unfold nL
 by_cases hn:0≤n
 ·obtain⟨N,rfl⟩:∃N:Nat,n=(N:Int):=⟨n.toNat,by omega⟩
  have hN4:N<65536 ^ 4:=bG (show N<9223372036854775808 by omega) (by decide)
  rw[bu _ _ hn,of4 (by omega),BB hN4 (by decide),ab]
  rfl
 ·obtain⟨M,hM⟩:∃M:Nat,-(n+1)=(M:Int):=⟨(-(n+1)).toNat,by omega⟩
  have hM4:M<65536 ^ 4:=bG (show M<9223372036854775808 by omega) (by decide)
  have e:i64.wrap (0 - (i64.wrap (n+(1:Int))))=(M:Int):=by
   rw[b8 (z:=n+1) (by omega),b8];omega
  rw[bw _ _ hn,e,ab,of4 (by omega),one_dk,G_dplus hM4 (by decide) (by decide) (by decide),ab,BB (A:=M+1) (jh _) (eS (qu (A:=M+1) (n:=5) (eS (show M+1≤65536 ^ 4 from hM4) (by decide))) (by decide)),ab]
  congr 2
  simp only[kK]
  omega
theorem Dr {A:Nat}(h:A<LIM):sz6 A≤32:=qu (by rw[←LIM6];exact h)
theorem G_num {A:Nat}(h:sz6 A≤1000)(neg:Bool):eF neg (dl A)=some (enc (bif neg then -(A:Int) else (A:Int))):=
 BB (jh A) (eS h (by decide)) neg
theorem rr {a:Int}(ha:a.natAbs<LIM):dZ (enc a)=some (dl a.natAbs):=Ph (lm ha) ha
theorem O9 {a:Int}(ha:a.natAbs<LIM):oc (enc a)=some (enc (a.natAbs:Int)):=by
 unfold oc
 rw[li,bI ha,ab,d7,bc,rr ha,ab,G_num (cG (Dr ha) (by decide)),ab]
 rfl
theorem Ls {a:Int}(ha:a.natAbs<LIM):m3 (enc a)=some a.sign:=by
 unfold m3
 rw[li,bI ha,ab,d7,bc,rr ha,ab,ab,m5 ha]
 have hz:((dl a.natAbs).length:Int)=0↔a=0:=by
  rw[show ((dl a.natAbs).length:Int)=0↔(dl a.natAbs).length=0 from by omega,Oa];omega
 rcases IM a 0 with h|h|h
 ·rw[bw _ _ (by rw[hz];omega),bu _ _ h,Ix h]
 ·subst h;rw[bu _ _ (hz.2 rfl)];rfl
 ·rw[bw _ _ (by rw[hz];omega),bw _ _,AT h]
theorem fast2(p q:Prop)[Decidable p][Decidable q](a c:Int):(cnd (if p then (a,true) else (0,false):Int×Bool).2 (some (if q then (c,true) else (0,false):Int×Bool).2) (some false))=some (decide (p∧q)):=by
 by_cases hp:p <;> by_cases hq:q <;> simp[hp,hq,cnd]
theorem good2r(x y:ar):(bnd (S:=Bool) (bnd (db x) fun nr=>cnd (!nr) (some (true)) (bnd (db y) fun qq=>some (!qq))) fun b=>some b)=some (!(dt x&&dt y)):=by
 rw[li,li,ab,ab]
 cases dt x <;> cases dt y <;> rfl
theorem dig2(A:Nat):decide ((0:Int)<((dl A).length:Int))=decide (A≠0):=by
 refine mn.2 ?_
 have:=@Oa A
 omega
theorem NW(n m:Int):∃r:Int,a7 gW (n,m)=some r∧r.natAbs=Nat.gcd n.natAbs m.natAbs:=by
 induction hk:m.natAbs using Nat.strongRecOn generalizing n m with
 |_ k ih=>
  subst hk
  by_cases hm:m=0
  ·subst hm
   refine⟨n,fa (by dsimp only[gW];rw[bw _ _ (fun h=>h rfl)]),?_⟩
   rw[Int.natAbs_zero,EF]
  ·have h1:gW (n,m)=some (.inl (m,n.tmod m)):=by
    dsimp only[gW]
    rw[bu _ _ hm,aF hm]
   have e:=Int.natAbs_tmod n m
   obtain⟨r,h2,h3⟩:=ih (n.tmod m).natAbs (by rw[e];exact c6 _ (by omega)) m (n.tmod m) rfl
   exact⟨r,(jN h1).trans h2,by rw[h3,e,←v8]⟩
theorem NX(x y:Nat)(hx:sz6 x<800)(hy:sz6 y<800):a7 gV (dl x,dl y)=some (dl (Nat.gcd x y)):=by
 induction y using Nat.strongRecOn generalizing x with
 |_ y ih=>
  by_cases h0:y=0
  ·subst h0
   rw[EF]
   refine fa ?_
   dsimp only[gV]
   rw[dig2,bw _ _ (fun h=>h rfl)]
  ·have h1:gV (dl x,dl y)=some (.inl (dl y,dl (x % y))):=by
    dsimp only[gV]
    rw[dig2,bu _ _ h0,Pg hx hy (by omega),ab]
   have bz:=c6 x (show 0<y by omega)
   have hs:sz6 (x % y)<800:=eS (qu (xS bz (jh y))) hy
   rw[jN h1,ih (x % y) bz y hy hs,←v8]
theorem O7 {a c:Int}(ha:a.natAbs<LIM)(hc:c.natAbs<LIM):ob (enc a) (enc c)=some (enc (Nat.gcd a.natAbs c.natAbs:Nat)):=by
 have hgl:Nat.gcd a.natAbs c.natAbs<LIM:=by
  rcases ln a.natAbs with h|h
  ·rw[h,IN];exact hc
  ·exact eS (xR _ h) ha
 unfold ob
 rw[O5 ha,O5 hc,ab,ab,fast2,ab,iG]
 by_cases hw:uD a∧uD c
 ·have h1:=hw.1.h
  have h2:=hw.2.h
  rw[ao hw,ao hw.1,ao hw.2]
  dsimp only
  obtain⟨r,h3,h4⟩:=NW a c
  have hr:r.natAbs<4611686018427387904:=by
   rw[h4]
   rcases ln a.natAbs with h|h
   ·rw[h,IN];exact h2
   ·exact eS (xR _ h) h1
  rw[h3,ab,Kk (by omega) (by omega),ab,O9 (by rw[h4];exact hgl),ab,h4]
 ·have hg:=good2r (enc a) (enc c)
  rw[uY] at hg
  rw[aq hw,hg,bI ha,bI hc,ab,iC,d7,bc,rr ha,ab,rr hc,ab,NX _ _ (eS (Dr ha) (by decide)) (eS (Dr hc) (by decide)),ab,G_num (cG (Dr hgl) (by decide)),ab]
  rfl
theorem R_one:n9=some (enc 1):=by
 unfold n9
 rw[Kk (by decide) (by decide),ab]
theorem R_Good {x:ak}(hx:okR x):kU x=some (cP x).isSome:=by
 rw[←kb hx]
 obtain⟨n,d⟩:=x
 obtain⟨h1,h2⟩:=hx
 dsimp only at h1 h2
 unfold kU bV
 dsimp only
 rw[li,li,n4,n4,ab,ab,ab,ab]
 cases B9:dt n with
 |false=>rfl
 |true=>
  cases H3:dt d with
  |false=>rfl
  |true=>
   obtain⟨n,hn,rfl⟩:=te h1 B9
   obtain⟨d,hd,rfl⟩:=te h2 H3
   rw[Ls hd,yb hd,O7 hn hd,Kt hn hd,R_one,Km]
   rfl
theorem N7 {x:ak}{q:Rat}(h:cP x=some q):x=lV q:=(eo.1 h).2
def Nu:={x:ak // okR x}
instance:DecidableEq Nu:=inferInstanceAs (DecidableEq {x:ak // okR x})
theorem okR0:okR (default:ak):=by
 have h:∀j:Nat,j<16→(default:ar).vW[j]! =0:=by
  intro j hj
  show (bM)[j]! =0
  rw[eI (bM) j hj,Vector.getElem_replicate]
 exact⟨fun j hj=>by show 0≤(default:ar).vW[j]!∧(default:ar).vW[j]! <4294967296;rw[h j hj];omega,fun j hj=>by show 0≤(default:ar).vW[j]!∧(default:ar).vW[j]! <4294967296;rw[h j hj];omega⟩
instance:Inhabited Nu:=⟨⟨default,okR0⟩⟩
def nuR(o:Option Rat):Nu:=⟨xE o,rD o⟩
def decW(v:Vector Int 16):Nat:=fJ 4294967296 (fun j=>(v[j]!).toNat) 16
def Ck(x:ar):Int:=if x.vNeg then -(decW x.vW:Int) else decW x.vW
theorem decW_W {A:Nat}(h:A<LIM):decW (W A)=A:=by
 refine Of (b:=4294967296) (n:=16) ?_ h fun j hj=>?_
 ·exact zb (by decide) _ fun j hj=>by
   rw[fR hj]
   have:=@dgl A j
   omega
 ·unfold decW
  rw[Eb (by decide) 16 (fun i hi=>by
   rw[fR hi]
   have:=@dgl A i
   omega) j hj,fR hj]
  omega
theorem Gz {z:Int}(h:z.natAbs<LIM):Ck (enc z)=z:=by
 rw[pL h]
 unfold Ck
 dsimp only
 rw[decW_W h]
 by_cases hz:z<0
 ·rw[ao (dy hz)];omega
 ·rw[aq (by simpa using hz)];omega
def wQ(x:ak):Option Rat:=if mi (Rat.divInt (Ck x.vN) (Ck x.vD))∧lV (Rat.divInt (Ck x.vN) (Ck x.vD))=x then some (Rat.divInt (Ck x.vN) (Ck x.vD)) else none
theorem rz:wQ=cP:=by
 funext x
 unfold wQ
 cases h:cP x with
 |none=>exact aq fun hh=>wO.1 h _ hh.1 hh.2.symm
 |some q=>
  obtain⟨h1,h2⟩:=eo.1 h
  have hn:Ck x.vN=q.num:=by rw[h2];exact Gz h1.1
  have hd:Ck x.vD=(q.den:Int):=by rw[h2];exact Gz (lf h1)
  rw[hn,hd,show Rat.divInt q.num q.den=q from by rw[Iu];exact Rat.mkRat_self q,ao ⟨h1,h2.symm⟩]
def DH(x y:Nu):Nu:=nuR (FH (wQ x.1) (wQ y.1))
def qv(x y:Nu):Nu:=nuR (yM (wQ x.1) (wQ y.1))
def yN(x y:Nu):Nu:=nuR (osub (wQ x.1) (wQ y.1))
def t6(x y:Nu):Nu:=nuR (BY (wQ x.1) (wQ y.1))
def DG(x:Nu):Nu:=nuR (DC (wQ x.1))
def nOf(n:Int):Nu:=nuR (some (n:Rat))
def kw(x:Nu):Int:=osgn (wQ x.1)
def aT(x:Nu):Bool:=(wQ x.1).isSome
theorem vS(x y:Nu):DH x y=nuR (FH (cP x.1) (cP y.1)):=by unfold DH;rw[rz]
theorem vQ(x y:Nu):qv x y=nuR (yM (cP x.1) (cP y.1)):=by unfold qv;rw[rz]
theorem FJ(x y:Nu):yN x y=nuR (osub (cP x.1) (cP y.1)):=by unfold yN;rw[rz]
theorem zX(x y:Nu):t6 x y=nuR (BY (cP x.1) (cP y.1)):=by unfold t6;rw[rz]
theorem vP(x:Nu):DG x=nuR (DC (cP x.1)):=by unfold DG;rw[rz]
theorem xa(x:Nu):kw x=osgn (cP x.1):=by unfold kw;rw[rz]
theorem e9(x:Nu):aT x=(cP x.1).isSome:=by unfold aT;rw[rz]
def rv(x:Nu):Rat:=(cP x.1).getD 0
theorem eL {x:Nu}:aT x=true↔cP x.1=some (rv x):=by
 rw[e9];unfold rv
 cases cP x.1 <;> simp
theorem NR {x:Nu}(h:aT x=true):mi (rv x):=(eo.1 (eL.1 h)).1
theorem D7 {x:Nu}(h:aT x=true):x=nuR (some (rv x)):=Subtype.ext (N7 (eL.1 h))
theorem At {x y:Nu}(hx:aT x=true)(hy:aT y=true)(h:rv x=rv y):x=y:=by
 rw[D7 hx,D7 hy,h]
theorem oU {o:Option Rat}(h:xB o):cP (nuR o).1=o:=wP h
theorem zW {q:Rat}(h:mi q):aT (nuR (some q))=true∧rv (nuR (some q))=q:=by
 have:cP (nuR (some q)).1=some q:=oU (o:=some q) fun p hp=>by injection hp with hp;rw[←hp];exact h
 rw[e9];unfold rv
 rw[this]
 exact⟨rfl,rfl⟩
theorem fit0:mi 0:=⟨by decide,by decide⟩
theorem fit1:mi 1:=⟨by decide,by decide⟩
theorem of0:aT (nOf 0)=true∧rv (nOf 0)=0:=zW (q:=((0:Int):Rat)) fit0
theorem of1:aT (nOf 1)=true∧rv (nOf 1)=1:=zW (q:=((1:Int):Rat)) fit1
theorem Hy {x:Nu}(h:aT x=true):kw x=(rv x).num.sign:=by rw[xa,eL.1 h];rfl
theorem Cy {x:Nu}(h:aT x=true):kw x=0↔rv x=0:=by
 rw[Hy h,IL]
 exact Rat.num_eq_zero
theorem nAdd_rv {x y:Nu}(hx:aT x=true)(hy:aT y=true)(h:aT (DH x y)=true):rv (DH x y)=rv x+rv y:=by
 have h1:=eL.1 h
 rw[vS] at h1 ⊢
 rw[oU (FG _ _),eL.1 hx,eL.1 hy] at h1
 have h2:Hr (rv x) (rv y)=some (rv (nuR (FH (some (rv x)) (some (rv y))))):=h1
 rw[eL.1 hx,eL.1 hy]
 unfold Hr at h2
 split at h2
 ·injection h2 with h2;exact h2.symm
 ·cases h2
theorem Jv {x y:Nu}(hx:aT x=true)(hy:aT y=true)(h:aT (qv x y)=true):rv (qv x y)=rv x*rv y:=by
 have h1:=eL.1 h
 rw[vQ] at h1 ⊢
 rw[oU (zU _ _)] at h1
 rw[eL.1 hx,eL.1 hy] at h1 ⊢
 have h2:Dz (rv x) (rv y)=some (rv (nuR (yM (some (rv x)) (some (rv y))))):=h1
 unfold Dz at h2
 split at h2
 ·injection h2 with h2;exact h2.symm
 ·cases h2
theorem NT {x y:Nu}(h:aT (DH x y)=true):aT x=true∧aT y=true:=by
 rw[e9,vS,oU (FG _ _)] at h
 rw[e9,e9]
 cases h1:cP x.1 <;> cases h2:cP y.1 <;> simp_all [FH]
theorem Gl {x y:Nu}(h:aT (qv x y)=true):aT x=true∧aT y=true:=by
 rw[e9,vQ,oU (zU _ _)] at h
 rw[e9,e9]
 cases h1:cP x.1 <;> cases h2:cP y.1 <;> simp_all [yM]
theorem xb {x:Nu}:aT (DG x)=aT x:=by
 rw[e9,e9,vP,oU (zT (Av _))]
 cases cP x.1 <;> rfl
theorem Ju {x:Nu}:rv (DG x)=-rv x:=by
 unfold rv
 rw[vP,oU (zT (Av _))]
 cases cP x.1
 ·simp[DC]
 ·rfl
theorem NS {x y:Nu}(h:aT (t6 x y)=true):aT x=true∧aT y=true∧rv y≠0∧rv (t6 x y)=rv x / rv y:=by
 have h1:=eL.1 h
 rw[zX] at h1 ⊢
 rw[oU (MA _ _)] at h1
 have hx:aT x=true:=by
  rw[e9]
  cases h2:cP x.1 with
  |some _=>rfl
  |none=>rw[h2] at h1;cases h1
 have hy:aT y=true:=by
  rw[e9]
  cases h2:cP y.1 with
  |some _=>rfl
  |none=>rw[h2] at h1;unfold BY yM Hv at h1;cases h3:cP x.1 <;> simp[h3] at h1
 rw[eL.1 hx,eL.1 hy] at h1 ⊢
 by_cases h0:rv y=0
 ·unfold BY yM Hv at h1
  simp[h0] at h1
 ·have h2:Dz (rv x) (rv y)⁻¹=some (rv (nuR (BY (some (rv x)) (some (rv y))))):=by
   rw[←h1]
   unfold BY yM Hv
   simp[h0]
  refine⟨hx,hy,h0,?_⟩
  unfold Dz at h2
  split at h2
  ·injection h2 with h2;rw[←h2,Rat.div_def]
  ·cases h2
def gf:Nat→(Nat→Rat)→Rat
 |0,_=>0
 |n+1,f=>gf n f+f n
theorem dp {f g:Nat→Rat}:∀{n:Nat},(∀t,t<n→f t=g t)→gf n f=gf n g
 |0,_=>rfl
 |n+1,h=>by unfold gf;rw[dp fun t ht=>h t (by omega),h n (by omega)]
theorem qN(f g:Nat→Rat):∀n,gf n (fun t=>f t+g t)=gf n f+gf n g
 |0=>by show (0:Rat)=0+0;grind
 |n+1=>by unfold gf;rw[qN f g n];grind
theorem qM(a:Rat)(f:Nat→Rat):∀n,gf n (fun t=>a*f t)=a*gf n f
 |0=>by simp[gf]
 |n+1=>by unfold gf;rw[qM a f n];grind
theorem tH:∀n,gf n (fun _=>0)=0
 |0=>rfl
 |n+1=>by unfold gf;rw[tH n];show (0:Rat)+0=0;grind
theorem n6(a:Nat)(x:Rat):∀n,a<n→gf n (fun t=>if t=a then x else 0)=x
 |0,h=>by omega
 |n+1,h=>by
  show gf n (fun t=>if t=a then x else 0)+(if n=a then x else 0)=x
  by_cases hn:n=a
  ·subst hn
   rw[ao rfl,dp (g:=fun _=>0) fun t ht=>ifn_,tH]
   grind
  ·rw[aq hn,n6 a x n (by omega)];grind
theorem L8(f g:Nat→Rat)(n:Nat):gf n (fun t=>f t - g t)=gf n f - gf n g:=by
 have:(fun t=>f t - g t)=fun t=>f t+(-1)*g t:=by funext t;grind
 rw[this,qN f (fun t=>(-1)*g t),qM];grind
abbrev Col:=Nat→Rat
def sgd(j:Nat):Rat:=if j % 2=0 then 1 else -1
theorem Mf(j:Nat):sgd (j+1)=-sgd j:=by
 unfold sgd
 by_cases h:j % 2=0
 ·rw[ao h,ifn_]
 ·rw[aq h,ifp_];grind
def skip(j i:Nat):Nat:=if i<j then i else i+1
def minor(f:Nat→Col)(j:Nat):Nat→Col:=fun c r=>f (skip j c) (r+1)
def det:Nat→(Nat→Col)→Rat
 |0,_=>1
 |n+1,f=>gf (n+1) fun j=>sgd j*(f j 0*det n (minor f j))
def cV(f:Nat→Col)(a:Nat)(u:Col):Nat→Col:=fun c=>if c=a then u else f c
theorem CU:∀{n:Nat} {f g:Nat→Col},(∀c,c<n→∀r,r<n→f c r=g c r)→det n f=det n g
 |0,_,_,_=>rfl
 |n+1,f,g,h=>by
  unfold det
  refine dp fun j hj=>?_
  rw[h j hj 0 (by omega),CU (f:=minor f j) (g:=minor g j) fun c hc r hr=>?_]
  unfold minor skip
  split
  ·exact h _ (by omega) _ (by omega)
  ·exact h _ (by omega) _ (by omega)
def place(j a:Nat):Nat:=if a<j then a else a - 1
theorem Hl {j a:Nat}(h:j≠a):skip j (place j a)=a:=by
 unfold skip place
 by_cases h1:a<j
 ·rw[ao h1,ao h1]
 ·rw[aq h1,ifn_];omega
theorem Ji {j a c:Nat}(h:j≠a):skip j c=a↔c=place j a:=by unfold skip place;split <;> split <;> omega
theorem skip_ne(j c:Nat):skip j c≠j:=by unfold skip;split <;> omega
theorem Mu {n j a:Nat}(hj:j<n+1)(ha:a<n+1)(h:j≠a):place j a<n:=by unfold place;split <;> omega
theorem xc(f:Nat→Col){j a:Nat}(h:j≠a)(u:Col):minor (cV f a u) j=cV (minor f j) (place j a) fun r=>u (r+1):=by
 funext c r
 unfold minor cV
 by_cases hc:c=place j a
 ·rw[ao ((Ji h).2 hc),ao hc]
 ·rw[aq (fun e=>hc ((Ji h).1 e)),aq hc]
theorem pB(f:Nat→Col)(a:Nat)(u:Col):minor (cV f a u) a=minor f a:=by
 funext c r
 unfold minor cV
 rw[aq (skip_ne a c)]
theorem qh(x:Rat):∀{n:Nat} (f:Nat→Col) (a:Nat) (u v:Col),a<n→det n (cV f a fun r=>x*u r+v r)=x*det n (cV f a u)+det n (cV f a v)
 |0,_,a,_,_,h=>by omega
 |n+1,f,a,u,v,h=>by
  unfold det
  rw[←qM,←qN (fun j=>x*(sgd j*(cV f a u j 0*det n (minor (cV f a u) j)))) (fun j=>sgd j*(cV f a v j 0*det n (minor (cV f a v) j)))]
  refine dp fun j hj=>?_
  by_cases hja:j=a
  ·subst hja
   rw[pB,pB,pB]
   unfold cV
   rw[ao rfl,ao rfl,ao rfl]
   grind
  ·rw[xc f hja,xc f hja,xc f hja]
   have:=qh x (minor f j) (place j a) (fun r=>u (r+1)) (fun r=>v (r+1)) (Mu hj h hja)
   rw[this]
   unfold cV
   rw[aq hja,aq hja,aq hja]
   grind
theorem L7 {f:Nat→Rat}{a:Nat}:∀{n:Nat},a+1<n→(∀j,j<n→j≠a→j≠a+1→f j=0)→gf n f=f a+f (a+1):=by
 intro n h h0
 have e:gf n f=gf n fun j=>(if j=a then f a else 0)+(if j=a+1 then f (a+1) else 0):=dp fun j hj=>by
  by_cases h1:j=a
  ·subst h1;rw[ao rfl,ifn_];grind
  ·by_cases h2:j=a+1
   ·subst h2;rw[ifn_,ao rfl];grind
   ·rw[aq h1,aq h2,h0 j hj h1 h2];grind
 rw[e,qN (fun j=>if j=a then f a else 0) (fun j=>if j=a+1 then f (a+1) else 0),n6 a _ n (by omega),n6 (a+1) _ n h]
theorem Ec:∀{n:Nat} (f:Nat→Col) (a:Nat),a+1<n→(∀r,f a r=f (a+1) r)→det n f=0
 |0,_,a,h,_=>by omega
 |n+1,f,a,h,he=>by
  unfold det
  rw[L7 h fun j hj h1 h2=>?_]
  ·have:minor f a=minor f (a+1):=by
    funext c r
    unfold minor skip
    by_cases hc:c=a
    ·subst hc
     rw[ifn_,ifp_]
     exact (he _).symm
    ·by_cases mR:c<a
     ·rw[ao mR,ifp_]
     ·rw[aq mR,ifn_]
   rw[this,he 0,Mf]
   grind
  ·rw[Ec (minor f j) (place j a) ?_ fun r=>?_]
   ·grind
   ·unfold place;split <;> omega
   ·have e1:skip j (place j a)=a:=Hl h1
    have e2:skip j (place j a+1)=a+1:=by unfold skip place;split <;> split <;> omega
    unfold minor
    rw[e1,e2]
    exact he _
theorem pe(f:Nat→Col){a b:Nat}(h:a≠b)(u v:Col):cV (cV f a u) b v=cV (cV f b v) a u:=by
 funext c
 unfold cV
 by_cases h1:c=a <;> by_cases h2:c=b <;> simp[h1,h2,h] <;> (try omega)
theorem Oh {n:Nat}(f:Nat→Col)(a:Nat)(h:a+1<n)(u v:Col):det n (cV (cV f a u) (a+1) v)=-det n (cV (cV f a v) (a+1) u):=by
 have z:∀t:Col,det n (cV (cV f a t) (a+1) t)=0:=fun t=>Ec _ a h fun r=>by
  unfold cV
  rw[ifn_,ao rfl,ao rfl]
 have h0:=z fun r=>1*u r+v r
 have l1:∀t:Col,det n (cV (cV f a t) (a+1) fun r=>1*u r+v r)=1*det n (cV (cV f a t) (a+1) u)+det n (cV (cV f a t) (a+1) v):=fun t=>qh 1 _ _ _ _ h
 have l2:∀t:Col,det n (cV (cV f a fun r=>1*u r+v r) (a+1) t)=1*det n (cV (cV f a u) (a+1) t)+det n (cV (cV f a v) (a+1) t):=fun t=>by
  have ne:a≠a+1:=by omega
  rw[pe f ne _ t,pe f ne _ t,pe f ne _ t]
  exact qh 1 _ _ _ _ (by omega)
 rw[l1,l2,l2,z,z] at h0
 grind
theorem pd(f:Nat→Col)(a:Nat):cV f a (f a)=f:=by
 funext c
 unfold cV
 split
 ·rename_i h;rw[h]
 ·rfl
theorem AA {n:Nat}:∀(k:Nat) (f:Nat→Col) (a:Nat),a+1+k<n→(∀r,f a r=f (a+1+k) r)→det n f=0
 |0,f,a,h,he=>Ec f a h he
 |k+1,f,a,h,he=>by
  have e:f=cV (cV f (a+1+k) (f (a+1+k))) (a+1+k+1) (f (a+1+k+1)):=by
   rw[pd]
   exact (pd f _).symm
  rw[e,Oh f (a+1+k) (by omega),AA k _ a (by omega) fun r=>?_]
  ·grind
  ·unfold cV
   rw[ifn_,ifn_,ifn_,ao rfl]
   exact he r
theorem JZ {n:Nat}(f:Nat→Col){a b:Nat}(ha:a<n)(hb:b<n)(As:a≠b)(he:∀r,f a r=f b r):det n f=0:=by
 rcases bZ a b with h|h
 ·exact AA (b - a - 1) f a (by omega) fun r=>by rw[show a+1+(b - a - 1)=b by omega];exact he r
 ·exact AA (a - b - 1) f b (by omega) fun r=>by rw[show b+1+(a - b - 1)=a by omega];exact (he r).symm
theorem Og {n:Nat}(f:Nat→Col){a:Nat}(ha:a<n):det n (cV f a fun _=>0)=0:=by
 have:=qh 1 f a (fun _=>0) (fun _=>0) ha
 have e:(fun r:Nat=>(1:Rat)*(fun _=>(0:Rat)) r+(fun _=>(0:Rat)) r)=fun _=>0:=by funext r;grind
 rw[e] at this
 grind
section
abbrev RM:=Nat→Nat→Rat
def si(f:RM)(R C:Nat)(x:Nat→Rat):Prop:=∀i,i<R→gf C (fun k=>f i k*x k)=0
structure IsR(f:RM)(R kk:Nat)(ps:List Nat):Prop where
 lt:∀j,j<ps.length→ps[j]! <kk
 inc:∀i j,i<j→j<ps.length→ps[i]! <ps[j]!
 le:ps.length≤R
 piv:∀i j,i<R→j<ps.length→f i ps[j]! =if i=j then 1 else 0
 z1:∀i k,i<ps.length→k<ps[i]!→f i k=0
 z2:∀i k,ps.length≤i→i<R→k<kk→f i k=0
theorem zk {ps:List Nat}{k:Nat}(h:k∈ps):∃j,j<ps.length∧ps[j]! =k:=by
 obtain⟨j,hj,he⟩:=List.mem_iff_getElem.1 h
 exact⟨j,hj,by rw[eI ps j hj];exact he⟩
theorem get_mem {ps:List Nat}{j:Nat}(h:j<ps.length):ps[j]!∈ps:=by
 rw[eI ps j h];exact u6 h
theorem Fq(a:Nat→Rat){C:Nat}:∀{ps:List Nat},ps.Nodup→(∀p∈ps,p<C)→gf C (fun k=>if k∈ps then a k else 0)=gf ps.length (fun j=>a ps[j]!)
 |[],_,_=>by simp only[va,lG];exact tH C
 |p::ps,hn,hl=>by
  have hnp:=List.nodup_cons.1 hn
  have ih:=Fq a (C:=C) hnp.2 fun q hq=>hl q (mA _ hq)
  have h1:gf C (fun k=>if k∈p::ps then a k else 0)=gf C (fun k=>(if k=p then a p else 0)+(if k∈ps then a k else 0)):=dp fun k _=>by
   by_cases hk:k=p
   ·subst hk;simp[hnp.1];grind
   ·simp[hk];grind
  have h2:∀n,gf (n+1) (fun j=>a (p::ps)[j]!)=a p+gf n (fun j=>a ps[j]!):=by
   intro n
   induction n with
   |zero=>simp[gf];grind
   |succ n ih=>rw[show gf (n+1+1) (fun j=>a (p::ps)[j]!)=gf (n+1) (fun j=>a (p::ps)[j]!)+a (p::ps)[n+1]! from rfl,ih,show gf (n+1) (fun j=>a ps[j]!)=gf n (fun j=>a ps[j]!)+a ps[n]! from rfl,show (p::ps)[n+1]! =ps[n]! from by simp];grind
  rw[h1,qN,n6 p (a p) C (hl p (lq ..)),ih]
  exact (h2 ps.length).symm
theorem IsR.nodup {f:RM}{R kk:Nat}{ps:List Nat}(h:IsR f R kk ps):ps.Nodup:=by
 rw[List.nodup_iff_pairwise_ne,AX]
 intro i j hi hj LI
 have:=h.inc i j LI hj
 rw[eI ps i hi,eI ps j hj] at this
 omega
def sX(f:RM)(ps:List Nat)(k t:Nat):Rat:=if t=k then 1 else match ps.idxOf? t with
 |some j=>-f j k
 |none=>0
theorem idx_of {ps:List Nat}{j:Nat}(hn:ps.Nodup)(hj:j<ps.length):ps.idxOf? ps[j]! =some j:=by
 rw[eI ps j hj,List.idxOf?_eq_some_iff]
 refine⟨hj,rfl,fun i hi=>?_⟩
 have:=AX.1 (List.nodup_iff_pairwise_ne.1 hn) i j (by omega) hj hi
 simpa using this
theorem MU {ps:List Nat}{k:Nat}(h:k∉ps):ps.idxOf? k=none:=by
 rw[List.idxOf?_eq_none_iff];exact h
section
variable {f g:RM} {R C:Nat} {ps qs:List Nat}
theorem CD(h:IsR f R C ps){k j:Nat}(hk:k∉ps)(hj:j<ps.length):sX f ps k ps[j]! =-f j k:=by
 unfold sX
 rw[aq (fun e=>hk (by rw[←e];exact get_mem hj)),idx_of h.nodup hj]
theorem zV(k:Nat):sX f ps k k=1:=ao rfl
theorem yk {k t:Nat}(hk:t≠k)(ht:t∉ps):sX f ps k t=0:=by
 unfold sX
 rw[aq hk,MU ht]
theorem FB(h:IsR f R C ps)(a:Nat→Rat){k:Nat}(hk:k∉ps)(hkC:k<C):gf C (fun t=>a t*sX f ps k t)=a k - gf ps.length (fun j=>a ps[j]! *f j k):=by
 have h1:gf C (fun t=>a t*sX f ps k t)=gf C (fun t=>(if t=k then a k else 0)+(if t∈ps then a t*sX f ps k t else 0)):=dp fun t _=>by
  by_cases ht:t=k
  ·subst ht;rw[ao rfl,aq hk,zV];grind
  ·rw[aq ht]
   by_cases hm:t∈ps
   ·rw[ao hm];grind
   ·rw[aq hm,yk ht hm];grind
 rw[h1,qN,n6 k (a k) C hkC,Fq (fun t=>a t*sX f ps k t) h.nodup fun p hp=>by obtain⟨j,hj,rfl⟩:=zk hp;exact h.lt j hj]
 rw[dp (g:=fun j=>(-1)*(a ps[j]! *f j k)) fun j hj=>by rw[CD h hk hj];grind,qM]
 grind
theorem Cv {n:Nat}(a:Nat→Rat){i:Nat}(hi:i<n):gf n (fun j=>(if i=j then 1 else 0)*a j)=a i:=by
 rw[dp (g:=fun j=>if j=i then a i else 0) fun j _=>by
  by_cases h:i=j
  ·subst h;simp
  ·simp[h,kJ h],n6 i (a i) n hi]
theorem L6 {n:Nat}{a:Nat→Rat}(h:∀j,j<n→a j=0):gf n a=0:=by
 rw[dp (g:=fun _=>0) h,tH]
theorem CC(h:IsR f R C ps){k:Nat}(hk:k∉ps)(hkC:k<C):si f R C (sX f ps k):=by
 intro i hi
 rw[FB h (f i) hk hkC]
 by_cases hip:i<ps.length
 ·rw[dp (g:=fun j=>(if i=j then 1 else 0)*f j k) fun j hj=>by rw[h.piv i j hi hj],Cv (fun j=>f j k) hip];grind
 ·rw[L6 fun j hj=>by rw[h.piv i j hi hj,ifn_];grind,h.z2 i k (by omega) hi hkC];grind
theorem Hw(h:IsR f R C ps){k t:Nat}(hk:k∉ps)(ht:k<t):sX f ps k t=0:=by
 by_cases hm:t∈ps
 ·obtain⟨j,hj,rfl⟩:=zk hm
  rw[CD h hk hj,h.z1 j k hj ht];grind
 ·exact yk (by omega) hm
theorem Mv(h:IsR f R C ps){j:Nat}(hj:j<ps.length){x:Nat→Rat}(hx:si f R C x)(h0:∀t,ps[j]! <t→t<C→x t=0):x ps[j]! =0:=by
 have h1:=hx j (by have:=h.le;omega)
 rw[dp (g:=fun t=>if t=ps[j]! then x ps[j]! else 0) fun t ht=>by
  by_cases he:t=ps[j]!
  ·rw[ao he,he,h.piv j j (by have:=h.le;omega) hj,ao rfl];grind
  ·rw[aq he]
   rcases bZ t ps[j]! with h2|h2
   ·rw[h.z1 j t hj h2];grind
   ·rw[h0 t (by omega) ht];grind,n6 _ _ C (h.lt j hj)] at h1
 exact h1
theorem Jp(hf:IsR f R C ps)(hg:IsR g R C qs)(hs:∀x,si f R C x→si g R C x){k:Nat}(hk:k∈qs):k∈ps:=by
 apply It
 intro hn
 obtain⟨j,hj,rfl⟩:=zk hk
 have:=Mv hg hj (hs _ (CC hf hn (hg.lt j hj))) fun t ht _=>Hw hf hn ht
 rw[zV] at this
 exact absurd this (by decide)
theorem inc_eq {ps qs:List Nat}(hp:ps.Pairwise (·<·))(hq:qs.Pairwise (·<·))(h:∀k,k∈ps↔k∈qs):ps=qs:=by
 induction ps generalizing qs with
 |nil=>
  cases qs with
  |nil=>rfl
  |cons q qs=>exact absurd ((h q).2 (lq ..)) (by simp)
 |cons p ps ih=>
  cases qs with
  |nil=>exact absurd ((h p).1 (lq ..)) (by simp)
  |cons q qs=>
   have hp':=List.pairwise_cons.1 hp
   have KW:=List.pairwise_cons.1 hq
   have hpq:p=q:=by
    rcases jI.1 ((h p).1 (lq ..)) with h1|h1
    ·exact h1
    ·rcases jI.1 ((h q).2 (lq ..)) with h2|h2
     ·exact h2.symm
     ·have:=hp'.1 q h2;have:=KW.1 p h1;omega
   subst hpq
   congr 1
   refine ih hp'.2 KW.2 fun k=>?_
   have hk:=h k
   simp only[jI] at hk
   constructor
   ·intro h1
    rcases hk.1 (.inr h1) with h2|h2
    ·have:=hp'.1 k h1;omega
    ·exact h2
   ·intro h1
    rcases hk.2 (.inr h1) with h2|h2
    ·have:=KW.1 k h1;omega
    ·exact h2
theorem IsR.pw(h:IsR f R C ps):ps.Pairwise (·<·):=by
 rw[AX]
 intro i j hi hj LI
 have:=h.inc i j LI hj
 rwa[eI ps i hi,eI ps j hj] at this
theorem IsR.unique(hf:IsR f R C ps)(hg:IsR g R C qs)(hs:∀x,si f R C x↔si g R C x):ps=qs∧∀i k,i<R→k<C→f i k=g i k:=by
 have hpq:ps=qs:=inc_eq hf.pw hg.pw fun k=>⟨fun h=>Jp hg hf (fun x=>(hs x).2) h,fun h=>Jp hf hg (fun x=>(hs x).1) h⟩
 subst hpq
 refine⟨rfl,fun i k hi hk=>?_⟩
 by_cases hm:k∈ps
 ·obtain⟨j,hj,rfl⟩:=zk hm
  rw[hf.piv i j hi hj,hg.piv i j hi hj]
 ·have h1:=(hs _).1 (CC hf hm hk) i hi
  rw[FB hf (g i) hm hk] at h1
  by_cases hip:i<ps.length
  ·rw[dp (g:=fun j=>(if i=j then 1 else 0)*f j k) fun j hj=>by rw[hg.piv i j hi hj],Cv (fun j=>f j k) hip] at h1
   grind
  ·rw[hf.z2 i k (by omega) hi hk,hg.z2 i k (by omega) hi hk]
end
end
section
def fC(f:RM)(a b:Nat):RM:=fun i k=>if i=a then f b k else if i=b then f a k else f i k
def oK(f:RM)(r k:Nat):RM:=fun i j=>if i=r then f r j / f r k else f i j - f i k*(f r j / f r k)
section
variable {f g:RM} {R C kk r k a b:Nat} {ps qs:List Nat}
theorem si.congr {x:Nat→Rat}(h:∀i k,i<R→k<C→f i k=g i k)(hs:si f R C x):si g R C x:=fun i hi=>by
 rw[←hs i hi]
 exact dp fun t ht=>by rw[h i t hi ht]
theorem Fw {x:Nat→Rat}(ha:a<R)(hb:b<R):si (fC f a b) R C x↔si f R C x:=by
 have key:∀{f:RM},si f R C x→si (fC f a b) R C x:=fun {f} h i hi=>by
  unfold fC
  by_cases h1:i=a
  ·simp only[h1,bk];exact h b hb
  ·by_cases h2:i=b
   ·simp only[h1,h2,bk,lG]
    by_cases h3:b=a
    ·simp only[h3,bk];rw[←h3];exact h b hb
    ·simp only[h3,lG];exact h a ha
   ·simp only[h1,h2,lG];exact h i hi
 refine⟨fun h=>?_,key⟩
 have h2:=key h
 refine h2.congr fun i t _ _=>?_
 unfold fC
 by_cases h1:i=a
 ·subst h1
  by_cases h3:b=i <;> simp[h3]
 ·by_cases h2:i=b
  ·subst h2;simp[h1]
  ·simp[h1,h2]
theorem Mc {x:Nat→Rat}(hr:r<R)(hp:f r k≠0):si (oK f r k) R C x↔si f R C x:=by
 have KV:gf C (fun t=>oK f r k r t*x t)=gf C (fun t=>f r t*x t) / f r k:=by
  rw[dp (g:=fun t=>(1 / f r k)*(f r t*x t)) fun t _=>by unfold oK;rw[ao rfl];grind,qM]
  grind
 have hoth:∀i,i≠r→gf C (fun t=>oK f r k i t*x t)=gf C (fun t=>f i t*x t) - f i k*(gf C (fun t=>f r t*x t) / f r k):=fun i hi=>by
  rw[dp (g:=fun t=>f i t*x t - (f i k / f r k)*(f r t*x t)) fun t _=>by unfold oK;rw[aq hi];grind,L8,qM]
  grind
 constructor
 ·intro h i hi
  have h0:gf C (fun t=>f r t*x t)=0:=by
   have:=h r hr
   rw[KV] at this
   have h2:gf C (fun t=>f r t*x t)=(gf C (fun t=>f r t*x t) / f r k)*f r k:=by grind
   rw[h2,this];grind
  by_cases hir:i=r
  ·subst hir;exact h0
  ·have:=h i hi
   rw[hoth i hir,h0] at this
   grind
 ·intro h i hi
  by_cases hir:i=r
  ·subst hir;rw[KV,h i hr];grind
  ·rw[hoth i hir,h i hi,h r hr];grind
theorem IsR.congr(h:IsR f R kk ps)(hk:kk≤C)(he:∀i k,i<R→k<C→f i k=g i k):IsR g R kk ps:=by
 refine⟨h.lt,h.inc,h.le,fun i j hi hj=>?_,fun i k hi yV=>?_,fun i k hi hi2 yV=>?_⟩
 ·rw[←he i _ hi (by have:=h.lt j hj;omega)];exact h.piv i j hi hj
 ·have:=h.lt i hi;have:=h.le;rw[←he i k (by omega) (by omega)];exact h.z1 i k hi yV
 ·rw[←he i k hi2 (by omega)];exact h.z2 i k hi hi2 yV
theorem isR_nil(f:RM)(R:Nat):IsR f R 0 []:=⟨fun j h=>absurd h (by simp),fun i j _ h=>absurd h (by simp),de _,fun i j _ h=>absurd h (by simp),fun i k h=>absurd h (by simp),fun i k _ _ h=>absurd h (by omega)⟩
theorem IsR.none(h:IsR f R kk ps)(h0:∀i,ps.length≤i→i<R→f i kk=0):IsR f R (kk+1) ps:=
 ⟨fun j hj=>nS (h.lt j hj),h.inc,h.le,h.piv,h.z1,fun i k h1 h2 h3=>by
  rcases bZ k kk with h4|h4
  ·exact h.z2 i k h1 h2 h4
  ·rw[show k=kk by omega];exact h0 i h1 h2⟩
theorem IsR.full(h:IsR f R kk ps)(h0:ps.length=R)(hk:kk≤C):IsR f R C ps:=
 ⟨fun j hj=>bG (h.lt j hj) hk,h.inc,h.le,h.piv,h.z1,fun i k h1 h2 _=>by omega⟩
theorem v7 {ps:List Nat}{q j:Nat}:(ps++[q])[j]! =if j<ps.length then ps[j]! else if j=ps.length then q else default:=by
 simp only[pR]
 by_cases h:j<ps.length
 ·rw[ao h,u3 h]
 ·rw[aq h,tr (by omega)]
  by_cases h2:j=ps.length
  ·rw[ao h2,h2];simp
  ·rw[aq h2,i5 (by simp;omega)];rfl
theorem IsR.step(h:IsR f R kk ps){i0:Nat}(hi:ps.length≤i0)(hi2:i0<R)(lK:f i0 kk≠0):IsR (oK (fC f i0 ps.length) ps.length kk) R (kk+1) (ps++[kk]):=by
 have hr:ps.length<R:=by omega
 -- the row of the pivot is 0 ahead of it
 have hg:∀t,fC f i0 ps.length ps.length t=f i0 t:=fun t=>by
  unfold fC
  by_cases e:ps.length=i0
  ·rw[ao e,←e]
  ·rw[aq e,ao rfl]
 have hg0:∀t,t<kk→f i0 t=0:=fun t ht=>h.z2 i0 t hi hi2 ht
 have hup:∀i t,i<ps.length→fC f i0 ps.length i t=f i t:=fun i t DT=>by unfold fC;rw[ifn_,ifn_]
 have hE:∀i t,i≠ps.length→t<kk→oK (fC f i0 ps.length) ps.length kk i t=fC f i0 ps.length i t:=fun i t h1 h2=>by
  unfold oK
  rw[aq h1,hg t,hg0 t h2];grind
 have hEr:∀t,t<kk→oK (fC f i0 ps.length) ps.length kk ps.length t=0:=fun t ht=>by
  unfold oK
  rw[ao rfl,hg t,hg0 t ht];grind
 have B6:∀i t,ps.length<i→i<R→t<kk→fC f i0 ps.length i t=0:=fun i t h1 h2 h3=>by
  unfold fC
  by_cases e:i=i0
  ·rw[ao e];exact h.z2 _ t (aI _) hr h3
  ·rw[aq e,ifn_];exact h.z2 i t (by omega) h2 h3
 have hcol:∀i,oK (fC f i0 ps.length) ps.length kk i kk=if i=ps.length then 1 else 0:=fun i=>by
  unfold oK
  by_cases e:i=ps.length
  ·rw[ao e,ao e,hg];grind
  ·rw[aq e,aq e,hg];grind
 have hlen:(ps++[kk]).length=ps.length+1:=by simp
 refine⟨fun j hj=>?_,fun i j LI hj=>?_,by omega,fun i j hi3 hj=>?_,fun i t hi3 ht=>?_,fun i t h1 h2 h3=>?_⟩
 ·rw[hlen] at hj
  rw[v7]
  by_cases e:j<ps.length
  ·rw[ao e];have:=h.lt j e;omega
  ·rw[aq e,ifp_];omega
 ·rw[hlen] at hj
  rw[v7,v7,ao (show i<ps.length by omega)]
  by_cases e:j<ps.length
  ·rw[ao e];exact h.inc i j LI e
  ·rw[aq e,ifp_];exact h.lt i (by omega)
 ·rw[hlen] at hj
  rw[v7]
  by_cases e:j<ps.length
  ·rw[ao e]
   have bz:=h.lt j e
   by_cases er:i=ps.length
   ·rw[er,hEr _ bz,ifn_]
   ·rw[hE i _ er bz]
    rcases bZ i ps.length with h4|h4
    ·rw[hup i _ h4];exact h.piv i j hi3 e
    ·rw[B6 i _ (by omega) hi3 bz,ifn_]
  ·rw[aq e,ifp_,hcol i]
   by_cases er:i=ps.length
   ·rw[ao er,ifp_]
   ·rw[aq er,ifn_]
 ·rw[hlen] at hi3
  rw[v7] at ht
  by_cases e:i<ps.length
  ·rw[ao e] at ht
   have bz:=h.lt i e
   rw[hE i t (by omega) (by omega),hup i t e];exact h.z1 i t e ht
  ·rw[aq e,ifp_] at ht
   rw[show i=ps.length by omega];exact hEr t ht
 ·rw[hlen] at h1
  rcases bZ t kk with h4|h4
  ·rw[hE i t (by omega) h4];exact B6 i t (by omega) h2 h4
  ·rw[show t=kk by omega,hcol i,ifn_]
end
structure vf(n:Nat)(D:RM→Rat):Prop where
 congr:∀f g,(∀i k,i<n→k<n→f i k=g i k)→D f=D g
 swap:∀f a b,a<n→b<n→a≠b→D (fC f a b)=-D f
 scale:∀f r c,r<n→D (fun i k=>if i=r then c*f r k else f i k)=c*D f
 add:∀f r i c,r<n→i<n→i≠r→D (fun j k=>if j=i then f i k+c*f r k else f j k)=D f
section
variable {n:Nat} {D:RM→Rat} {f:RM} {r k:Nat}
theorem vf.elim(h:vf n D)(hr:r<n)(hp:f r k≠0):D (oK f r k)=D f / f r k:=by
 -- the rows ahead of m are done
 have key:∀m,m≤n→D (fun i j=>if i=r then f r j / f r k else if i<m then f i j - f i k*(f r j / f r k) else f i j)=D f / f r k:=by
  intro m
  induction m with
  |zero=>
   intro _
   have:=h.scale f r (1 / f r k) hr
   rw[h.congr _ (fun i j=>if i=r then 1 / f r k*f r j else f i j) fun i j _ _=>by
    by_cases e:i=r
    ·rw[ao e,ao e];grind
    ·rw[aq e,aq e,ifn_],this]
   grind
  |succ m ih=>
   intro hm
   rw[←ih (by omega)]
   by_cases e:m=r
   ·refine h.congr _ _ fun i j _ _=>?_
    by_cases e2:i=r
    ·rw[ao e2,ao e2]
    ·rw[aq e2,aq e2]
     by_cases e3:i<m
     ·rw[ao e3,ifp_]
     ·rw[aq e3,ifn_]
   ·have:=h.add (fun i j=>if i=r then f r j / f r k else if i<m then f i j - f i k*(f r j / f r k) else f i j) r m (-f m k) hr (by omega) e
    rw[←this]
    refine h.congr _ _ fun i j _ _=>?_
    by_cases e2:i=m
    ·subst e2
     simp only[bk,aq e,AN,lG,cl]
     grind
    ·rw[aq e2]
     by_cases e3:i=r
     ·rw[ao e3,ao e3]
     ·rw[aq e3,aq e3]
      by_cases e4:i<m
      ·rw[ao e4,ifp_]
      ·rw[aq e4,ifn_]
 rw[←key n (aI n)]
 refine h.congr _ _ fun i j hi _=>?_
 unfold oK
 by_cases e:i=r
 ·rw[ao e,ao e]
 ·rw[aq e,aq e,ao hi]
theorem vf.zero(h:vf n D)(hr:r<n)(h0:∀t,t<n→f r t=0):D f=0:=by
 rw[h.congr f (fun i t=>if i=r then 0*f r t else f i t) fun i t _ ht=>by
  by_cases e:i=r
  ·rw[ao e,e,h0 t ht];grind
  ·rw[aq e],h.scale f r 0 hr]
 grind
end
def Hu:RM:=fun i k=>if i=k then 1 else 0
theorem isR_one {n:Nat}{g:RM}{ps:List Nat}(h:IsR g n n ps)(hl:ps.length=n):∀i k,i<n→k<n→g i k=Hu i k:=by
 have hp:∀j,j<n→ps[j]! =j:=by
  have xv:∀j,j<n→j≤ps[j]! :=by
   intro j
   induction j with
   |zero=>intro _;exact de _
   |succ j ih=>intro hj;have:=ih (by omega);have:=h.inc j (j+1) (by omega) (by omega);omega
  have hle:∀d j,j+d+1=n→ps[j]!≤j:=by
   intro d
   induction d with
   |zero=>intro j hj;have:=h.lt j (by omega);omega
   |succ d ih=>intro j hj;have:=ih (j+1) (by omega);have:=h.inc j (j+1) (by omega) (by omega);omega
  intro j hj
  have:=xv j hj;have:=hle (n - j - 1) j (by omega);omega
 intro i k hi hk
 have:=h.piv i k hi (by omega)
 rw[hp k hk] at this
 exact this
end
section
def qZ(C k:Nat)(V:List Nu):Nat→Nat→Option Nat
 |0,_=>none
 |n+1,i=>if kw V[i*C+k]!≠0 then some i else qZ C k V n (i+1)
def cN(C:Nat)(V:List Nu)(i r:Nat):Nat→List Nu
 |0=>V
 |j+1=>((cN C V i r j).set (i*C+j) (cN C V i r j)[r*C+j]!).set (r*C+j) (cN C V i r j)[i*C+j]!
def rO(V:List Nu)(o:Nat)(h:List Nu→Nat→Nu):Nat→List Nu
 |0=>V
 |j+1=>(rO V o h j).set (o+j) (h (rO V o h j) j)
def gx(C k r:Nat)(V:List Nu):Nat→List Nu
 |0=>V
 |n+1=>if n≠r∧kw (gx C k r V n)[n*C+k]!≠0 then rO (gx C k r V n) (n*C) (fun U j=>yN U[n*C+j]! (qv (gx C k r V n)[n*C+k]! U[r*C+j]!)) C else gx C k r V n
structure Pv where
 col:Nat
 by':Nu
 mov:Bool
 deriving Inhabited
def byN(C k i r:Nat)(V:List Nu):Nu:=(cN C V i r C)[r*C+k]!
def ms(R C k i r:Nat)(V:List Nu):List Nu:=gx C k r (rO (cN C V i r C) (r*C) (fun U j=>t6 U[r*C+j]! (byN C k i r V)) C) R
def jl(R C:Nat):Nat→Nat→Nat→List Nu→List Pv→Option (List Nu×List Pv)
 |0,_,_,V,acc=>some (V,acc)
 |n+1,k,r,V,acc=>if r<R then
   match qZ C k V (R - r) r with
   |none=>jl R C n (k+1) r V acc
   |some i=>if (ms R C k i r V).all aT then jl R C n (k+1) (r+1) (ms R C k i r V) (acc++[⟨k,byN C k i r V,decide (i≠r)⟩]) else none
  else some (V,acc)
theorem D8 {V:List Nu}{i t:Nat}{x:Nu}(hi:i<V.length):(V.set i x)[t]! =if t=i then x else V[t]! :=by
 simp only[pR]
 by_cases h:t=i
 ·subst h;rw[ao rfl,IE hi];rfl
 ·rw[aq h,List.getElem?_set_ne (fun e=>h e.symm)]
theorem jM {C:Nat}{V:List Nu}{i r:Nat}:∀j,(cN C V i r j).length=V.length
 |0=>rfl
 |j+1=>by unfold cN;rw[yy,yy,jM j]
theorem pM {V:List Nu}{o:Nat}{h:List Nu→Nat→Nu}:∀j,(rO V o h j).length=V.length
 |0=>rfl
 |j+1=>by unfold rO;rw[yy,pM j]
theorem qP {C k r:Nat}{V:List Nu}:∀n,(gx C k r V n).length=V.length
 |0=>rfl
 |n+1=>by
  unfold gx
  split
  ·rw[pM,qP n]
  ·exact qP n
theorem tI {R C k i r:Nat}{V:List Nu}:(ms R C k i r V).length=V.length:=by unfold ms;rw[qP,pM,jM]
theorem bH {R C i j:Nat}(hi:i<R)(hj:j<C):i*C+j<R*C:=by
 have:(i+1)*C≤R*C:=cc C hi
 rw[bN,dc] at this
 omega
theorem w9 {C i j i' j':Nat}(hj:j<C)(EZ:j'<C)(h:i*C+j=i'*C+j'):i=i'∧j=j':=by
 have h1:(i*C+j) / C=i:=by rw[ci,AM (by omega),fI hj];omega
 have h2:(i'*C+j') / C=i':=by rw[ci,AM (by omega),fI EZ];omega
 have:i=i':=by rw[←h1,←h2,h]
 subst this
 exact⟨rfl,by omega⟩
section
variable {R C:Nat} {V:List Nu}
theorem pf(hV:V.length=R*C){i r:Nat}(hi:i<R)(hr:r<R):∀j,j≤C→∀a b,a<R→b<C→(cN C V i r j)[a*C+b]! =if b<j then (if a=i then V[r*C+b]! else if a=r then V[i*C+b]! else V[a*C+b]!) else V[a*C+b]!
 |0,_,a,b,_,_=>by rw[ifn_];rfl
 |j+1,hj,a,b,ha,hb=>by
  have ih:=pf hV hi hr j (by omega)
  have yU:i*C+j<(cN C V i r j).length:=by rw[jM,hV];exact bH hi (by omega)
  have vo:r*C+j<(cN C V i r j).length:=by rw[jM,hV];exact bH hr (by omega)
  unfold cN
  rw[D8 (by rw[yy];exact vo),D8 yU]
  have e1:=ih r j hr (by omega)
  have e2:=ih i j hi (by omega)
  have e3:=ih a b ha hb
  have p1:(a*C+b=r*C+j)↔(a=r∧b=j):=⟨fun e=>w9 hb (by omega) e,by rintro⟨rfl,rfl⟩;rfl⟩
  have p2:(a*C+b=i*C+j)↔(a=i∧b=j):=⟨fun e=>w9 hb (by omega) e,by rintro⟨rfl,rfl⟩;rfl⟩
  rw[aq (AN j)] at e1 e2
  simp only[p1,p2]
  by_cases hbj:b=j
  ·subst hbj
   rw[aq (AN b)] at e3
   by_cases har:a=r
   ·subst har
    by_cases hai:a=i
    ·subst hai;simp[e2]
    ·simp[hai,e2]
   ·by_cases hai:a=i
    ·subst hai;simp[har,e1]
    ·simp[har,hai,e3]
  ·have h2:(b<j+1)↔(b<j):=by omega
   simp only[hbj,and_false,lG,h2]
   exact e3
theorem GE {n o:Nat}{h:List Nu→Nat→Nu}(ho:o+n≤V.length)(hh:∀(U:List Nu) j,j<n→(∀t,t<o∨o+j≤t→U[t]! =V[t]!)→h U j=h V j):∀j,j≤n→∀t,(rO V o h j)[t]! =if o≤t∧t<o+j then h V (t - o) else V[t]!
 |0,_,t=>by rw[ifn_];rfl
 |j+1,hj,t=>by
  have ih:=GE ho hh j (by omega)
  unfold rO
  rw[D8 (by rw[pM];omega)]
  by_cases e:t=o+j
  ·subst e
   rw[ao rfl,ifp_,hh _ j (by omega) (fun t ht=>by rw[ih t,ifn_]),show o+j - o=j by omega]
  ·rw[aq e,ih t]
   by_cases h2:o≤t∧t<o+j
   ·rw[ao h2,ifp_]
   ·rw[aq h2,ifn_]
theorem GD(hV:V.length=R*C){i:Nat}(hi:i<R){h:List Nu→Nat→Nu}(hh:∀(U:List Nu) j,j<C→(∀a b,a<R→b<C→a≠i∨j≤b→U[a*C+b]! =V[a*C+b]!)→h U j=h V j){a b:Nat}(ha:a<R)(hb:b<C):
  (rO V (i*C) h C)[a*C+b]! =if a=i then h V b else V[a*C+b]! :=by
 have hle:i*C+C≤V.length:=by
  rw[hV]
  have:(i+1)*C≤R*C:=cc C hi
  rw[bN,dc] at this
  exact this
 rw[GE hle (fun U j hj hU=>hh U j hj fun a b ha hb As=>hU _ ?_) C (aI _)]
 ·by_cases e:a=i
  ·subst e
   rw[ao ⟨by omega,by omega⟩,ao rfl,show a*C+b - a*C=b by omega]
  ·rw[aq e,aq]
   intro⟨h1,h2⟩
   obtain⟨d,hd⟩:∃d,a*C+b=i*C+d:=⟨a*C+b - i*C,by omega⟩
   exact e (w9 hb (show d<C by omega) hd).1
 ·rcases As with h1|h1
  ·rcases bZ a i with h2|h2
   ·left
    have:(a+1)*C≤i*C:=cc C h2
    rw[bN,dc] at this
    omega
   ·right
    have:(i+1)*C≤a*C:=cc C (by omega)
    rw[bN,dc] at this
    omega
  ·rcases AY a i with h2|h2|h2
   ·left
    have:(a+1)*C≤i*C:=cc C h2
    rw[bN,dc] at this
    omega
   ·subst h2;right;omega
   ·right
    have:(i+1)*C≤a*C:=cc C (by omega)
    rw[bN,dc] at this
    omega
theorem w5(hV:V.length=R*C){k r:Nat}(hk:k<C)(hr:r<R):∀n,n≤R→∀a b,a<R→b<C→(gx C k r V n)[a*C+b]! =if a<n∧a≠r∧kw V[a*C+k]!≠0 then yN V[a*C+b]! (qv V[a*C+k]! V[r*C+b]!) else V[a*C+b]!
 |0,_,a,b,_,_=>by rw[ifn_];rfl
 |n+1,hn,a,b,ha,hb=>by
  have ih:=w5 hV hk hr n (by omega)
  have hx:(gx C k r V n)[n*C+k]! =V[n*C+k]! :=by rw[ih n k (by omega) hk,ifn_]
  have hlen:(gx C k r V n).length=R*C:=by rw[qP,hV]
  unfold gx
  by_cases hc:n≠r∧kw (gx C k r V n)[n*C+k]!≠0
  ·rw[ao hc,GD hlen (show n<R by omega) (fun U j hj hU=>by rw[hU n j (by omega) hj (.inr (aI _)),hU r j hr hj (.inl (kJ hc.1))]) ha hb]
   rw[hx] at hc ⊢
   by_cases e:a=n
   ·subst e
    rw[ao rfl,ao ⟨by omega,hc⟩,ih a b ha hb,ifn_,ih r b hr hb,ifn_]
   ·rw[aq e,ih a b ha hb]
    by_cases h2:a<n∧a≠r∧kw V[a*C+k]!≠0
    ·rw[ao h2,ao ⟨by omega,h2.2⟩]
    ·rw[aq h2,aq fun h3=>h2 ⟨by omega,h3.2⟩]
  ·rw[aq hc,ih a b ha hb]
   rw[hx] at hc
   by_cases h2:a<n∧a≠r∧kw V[a*C+k]!≠0
   ·rw[ao h2,ao ⟨by omega,h2.2⟩]
   ·rw[aq h2,aq fun h3=>?_]
    by_cases e:a=n
    ·subst e;exact hc h3.2
    ·exact h2 ⟨by omega,h3.2⟩
def toR(C:Nat)(V:List Nu):RM:=fun i k=>rv V[i*C+k]!
theorem oX(hg:V.all aT=true){t:Nat}(ht:t<V.length):aT V[t]! =true:=by
 rw[eI V t ht];exact b7.1 hg _ (u6 ht)
theorem CQ {k:Nat}:∀{n i i0:Nat},qZ C k V n i=some i0→i≤i0∧i0<i+n∧kw V[i0*C+k]!≠0
 |0,_,_,h=>by cases h
 |n+1,i,i0,h=>by
  unfold qZ at h
  split at h
  ·rename_i hs;cases h;exact⟨by omega,by omega,hs⟩
  ·obtain⟨h1,h2,h3⟩:=CQ h;exact⟨by omega,by omega,h3⟩
theorem CR {k:Nat}:∀{n i:Nat},qZ C k V n i=none→∀j,i≤j→j<i+n→kw V[j*C+k]! =0
 |0,i,_,j,h1,h2=>by omega
 |n+1,i,h,j,h1,h2=>by
  unfold qZ at h
  split at h
  ·cases h
  ·rename_i hs
   by_cases e:j=i
   ·subst e;exact Classical.not_not.1 hs
   ·exact CR h j (by omega) (by omega)
theorem nSub_rv {x y:Nu}(h:aT (yN x y)=true):aT x=true∧aT y=true∧rv (yN x y)=rv x - rv y:=by
 have hs:yN x y=DH x (DG y):=by
  rw[FJ,vS,vP]
  have hv:cP (nuR (DC (cP y.1))).1=DC (cP y.1):=by
   refine oU ?_
   intro p hp
   cases hy:cP y.1 with
   |none=>rw[hy] at hp;cases hp
   |some q=>
    rw[hy] at hp
    have:-q=p:=by injection hp
    rw[←this];exact Gr (eo.1 hy).1
  exact congrArg nuR (show osub (cP x.1) (cP y.1)=FH (cP x.1) (cP (nuR (DC (cP y.1))).1) by rw[hv];rfl)
 rw[hs] at h ⊢
 obtain⟨h1,h2⟩:=NT h
 rw[xb] at h2
 rw[nAdd_rv h1 (by rw[xb];exact h2) h,Ju]
 exact⟨h1,h2,by grind⟩
theorem stepN_R(hV:V.length=R*C)(hg:V.all aT=true){k i r:Nat}(hk:k<C)(hi:i<R)(hr:r<R)(H3:(ms R C k i r V).all aT=true):
  aT (byN C k i r V)=true∧rv (byN C k i r V)=fC (toR C V) i r r k∧∀a b,a<R→b<C→toR C (ms R C k i r V) a b=oK (fC (toR C V) i r) r k a b:=by
 have F9:∀a b,a<R→b<C→aT V[a*C+b]! =true:=fun a b ha hb=>oX hg (by rw[hV];exact bH ha hb)
 have yU:(cN C V i r C).length=R*C:=by rw[jM,hV]
 have hs:∀a b,a<R→b<C→(cN C V i r C)[a*C+b]! =if a=i then V[r*C+b]! else if a=r then V[i*C+b]! else V[a*C+b]! :=fun a b ha hb=>by rw[pf hV hi hr C (aI _) a b ha hb,ao hb]
 have hsg:∀a b,a<R→b<C→aT (cN C V i r C)[a*C+b]! =true∧rv (cN C V i r C)[a*C+b]! =fC (toR C V) i r a b:=fun a b ha hb=>by
  rw[hs a b ha hb]
  unfold fC toR
  split
  ·exact⟨F9 r b hr hb,rfl⟩
  ·split
   ·exact⟨F9 i b hi hb,rfl⟩
   ·exact⟨F9 a b ha hb,rfl⟩
 have LK:=hsg r k hr hk
 have vo:(rO (cN C V i r C) (r*C) (fun U j=>t6 U[r*C+j]! (byN C k i r V)) C).length=R*C:=by rw[pM,yU]
 have hd:∀a b,a<R→b<C→(rO (cN C V i r C) (r*C) (fun U j=>t6 U[r*C+j]! (byN C k i r V)) C)[a*C+b]! =if a=r then t6 (cN C V i r C)[r*C+b]! (byN C k i r V) else (cN C V i r C)[a*C+b]! :=fun a b ha hb=>
  GD yU hr (fun U j hj hU=>by rw[hU r j hr hj (.inr (aI _))]) ha hb
 have v3:∀a b,a<R→b<C→aT (ms R C k i r V)[a*C+b]! =true:=fun a b ha hb=>oX H3 (by rw[tI,hV];exact bH ha hb)
 have KV:∀b,b<C→(ms R C k i r V)[r*C+b]! =t6 (cN C V i r C)[r*C+b]! (byN C k i r V):=fun b hb=>by
  unfold ms
  rw[w5 vo hk hr R (aI _) r b hr hb,ifn_,hd r b hr hb,ao rfl]
 have hrv:∀b,b<C→rv (t6 (cN C V i r C)[r*C+b]! (byN C k i r V))=fC (toR C V) i r r b / fC (toR C V) i r r k:=fun b hb=>by
  have h1:=v3 r b hr hb
  rw[KV b hb] at h1
  obtain⟨_,_,_,h2⟩:=NS h1
  rw[h2,(hsg r b hr hb).2]
  unfold byN
  rw[LK.2]
 refine⟨LK.1,LK.2,fun a b ha hb=>?_⟩
 show rv (ms R C k i r V)[a*C+b]! =_
 unfold oK
 by_cases e:a=r
 ·subst e
  rw[ao rfl,KV b hb,hrv b hb]
 ·rw[aq e]
  have h1:=v3 a b ha hb
  unfold ms at h1 ⊢
  rw[w5 vo hk hr R (aI _) a b ha hb,hd a k ha hk,hd a b ha hb,hd r b hr hb,aq e,aq e,ao rfl] at h1 ⊢
  by_cases hc:a<R∧a≠r∧kw (cN C V i r C)[a*C+k]!≠0
  ·rw[ao hc] at h1 ⊢
   obtain⟨_,h3,h4⟩:=nSub_rv h1
   obtain⟨h5,h6⟩:=Gl h3
   rw[h4,Jv h5 h6 h3,(hsg a b ha hb).2,(hsg a k ha hk).2,hrv b hb]
  ·rw[aq hc]
   have h0:kw (cN C V i r C)[a*C+k]! =0:=by
    apply It
    intro h;exact hc ⟨ha,e,h⟩
   have:=(Cy (hsg a k ha hk).1).1 h0
   rw[(hsg a k ha hk).2] at this
   rw[(hsg a b ha hb).2,this];grind
structure RedOk(R C:Nat)(f:RM)(W:List Nu)(l:List Pv):Prop where
 len:W.length=R*C
 good:W.all aT=true
 red:IsR (toR C W) R C (l.map (·.col))
 sol:∀x,si (toR C W) R C x↔si f R C x
 byG:∀p∈l,aT p.by'=true∧rv p.by'≠0
 det:∀D,R=C→vf R D→D f=(l.foldl (fun c p=>c*(rv p.by'*if p.mov then -1 else 1)) 1)*D (toR C W)
theorem Dy {f:RM}:∀(n k r:Nat) (V:List Nu) (acc:List Pv) {W:List Nu} {l:List Pv},k+n=C→V.length=R*C→V.all aT=true→acc.length=r→IsR (toR C V) R k (acc.map (·.col))→(∀x,si (toR C V) R C x↔si f R C x)→(∀p∈acc,aT p.by'=true∧rv p.by'≠0)→
  (∀D,R=C→vf R D→D f=(acc.foldl (fun c p=>c*(rv p.by'*if p.mov then -1 else 1)) 1)*D (toR C V))→jl R C n k r V acc=some (W,l)→RedOk R C f W l
 |0,k,r,V,acc,W,l,hk,hV,hg,ha,hI,hs,hb,hd,h=>by
  unfold jl at h
  cases h
  exact⟨hV,hg,by rw[show C=k by omega];rw[show C=k by omega] at hI;exact hI,hs,hb,hd⟩
 |n+1,k,r,V,acc,W,l,hk,hV,hg,ha,hI,hs,hb,hd,h=>by
  unfold jl at h
  have K8:(acc.map (·.col)).length=r:=by rw[bS,ha]
  by_cases hr:r<R
  ·rw[ao hr] at h
   have F9:∀a,a<R→aT V[a*C+k]! =true:=fun a ha=>oX hg (by rw[hV];exact bH ha (by omega))
   cases hf:qZ C k V (R - r) r with
   |none=>
    rw[hf] at h
    refine Dy n (k+1) r V acc (by omega) hV hg ha (hI.none fun i h1 h2=>?_) hs hb hd h
    rw[K8] at h1
    exact (Cy (F9 i h2)).1 (CR hf i h1 (by omega))
   |some i=>
    rw[hf] at h
    dsimp only at h
    obtain⟨h1,h2,h3⟩:=CQ hf
    by_cases iL:(ms R C k i r V).all aT=true
    ·rw[ao iL] at h
     obtain⟨h4,h5,h6⟩:=stepN_R hV hg (show k<C by omega) (show i<R by omega) hr iL
     have lK:toR C V i k≠0:=fun e=>h3 ((Cy (F9 i (by omega))).2 e)
     have hsw:fC (toR C V) i r r k=toR C V i k:=by
      unfold fC
      by_cases e:r=i
      ·rw[ao e,←e]
      ·rw[aq e,ao rfl]
     have v3:=hI.step (i0:=i) (by rw[K8];exact h1) (by omega) lK
     rw[K8] at v3
     refine Dy n (k+1) (r+1) _ _ (by omega) (by rw[tI,hV]) iL (by simp[ha]) ?_ (fun x=>?_) ?_ (fun D JK hD=>?_) h
     ·rw[lY]
      exact v3.congr (by omega) fun a b ha hb=>(h6 a b ha hb).symm
     ·rw[←hs x,←Fw (f:=toR C V) (show i<R by omega) hr,←Mc (f:=fC (toR C V) i r) hr (by rw[hsw];exact lK)]
      exact⟨fun h=>h.congr h6,fun h=>h.congr fun a b ha hb=>(h6 a b ha hb).symm⟩
     ·intro p hp
      rcases tq.1 hp with h7|h7
      ·exact hb p h7
      ·rw[IJ.1 h7];exact⟨h4,by rw[h5,hsw];exact lK⟩
     ·rw[hd D JK hD,Is,pS,List.foldl_nil,hD.congr _ _ (fun a b ha hb=>h6 a b ha (by omega)),hD.elim hr (by rw[hsw];exact lK),h5,hsw]
      by_cases e:i=r
      ·rw[hD.congr (fC (toR C V) i r) (toR C V) fun a b _ _=>by
        unfold fC
        by_cases e3:a=i
        ·rw[ao e3,e3,e]
        ·rw[aq e3,ifn_]]
       simp only[e,ne_eq,Ei,qF,Es,lG]
       subst e
       grind
      ·rw[hD.swap _ i r (by omega) hr e]
       simp only[e,ne_eq,not_false_eq_true,qG,bk]
       grind
    ·rw[aq iL] at h;cases h
  ·rw[aq hr] at h
   cases h
   have hle:=hI.le
   rw[K8] at hle
   exact⟨hV,hg,hI.full (by rw[K8];omega) (by omega),hs,hb,hd⟩
theorem uM(hV:V.length=R*C)(hg:V.all aT=true){W:List Nu}{l:List Pv}(h:jl R C C 0 0 V []=some (W,l)):RedOk R C (toR C V) W l:=
 Dy C 0 0 V [] (by omega) hV hg rfl (isR_nil _ R) (fun _=>Iff.rfl) (by simp) (fun D _ _=>by simp only[List.foldl_nil];grind) h
end
end
section
def mkM {α:Type}(R C:Nat)(f:Nat→Nat→α):List α:=(List.range R).flatMap fun i=>(List.range C).map (f i)
section
variable {α β:Type} {R C:Nat} {f g:Nat→Nat→α}
theorem zY:mkM (R+1) C f=mkM R C f++(List.range C).map (f R):=by
 unfold mkM
 rw[qA,AU]
 simp
theorem fy:(mkM R C f).length=R*C:=by
 induction R with
 |zero=>simp[mkM]
 |succ R ih=>rw[zY,eH,ih,bS,List.length_range,qk]
theorem vT {i k:Nat}(hi:i<R)(hk:k<C):(mkM R C f)[i*C+k]? =some (f i k):=by
 induction R with
 |zero=>omega
 |succ R ih=>
  rw[zY]
  rcases bZ i R with h|h
  ·have:=bH h hk
   rw[u3 (by rw[fy];exact this)]
   exact ih h
  ·obtain rfl:i=R:=by omega
   rw[tr (by rw[fy];omega),fy,EH,cF,A6 hk]
   rfl
theorem Cw {t:Nat}(h:t<R*C):∃i k,i<R∧k<C∧t=i*C+k:=by
 have hC:0<C:=by
  rcases ln C with h0|h0
  ·rw[h0,EA] at h;omega
  ·exact h0
 refine⟨t / C,t % C,?_,c6 _ hC,?_⟩
 ·exact GP (by rw[ci];exact h)
 ·rw[ci];exact (nB t C).symm
theorem Jw {l:List α}(hl:l.length=R*C)(h:∀i k,i<R→k<C→l[i*C+k]? =some (f i k)):l=mkM R C f:=by
 apply GQ
 intro t
 rcases bZ t (R*C) with ht|ht
 ·obtain⟨i,k,hi,hk,rfl⟩:=Cw ht
  rw[h i k hi hk,vT hi hk]
 ·rw[i5 (by omega),i5 (by rw[fy];exact ht)]
theorem KR(h:∀i k,i<R→k<C→f i k=g i k):mkM R C f=mkM R C g:=Jw fy fun i k hi hk=>by rw[vT hi hk,h i k hi hk]
theorem Hz [Inhabited α]{l:List α}(hl:l.length=R*C):l=mkM R C fun i k=>l[i*C+k]! :=Jw hl fun i k hi hk=>by
 have:=bH hi hk
 rw[pR,eg (by omega)];rfl
theorem zi {p:α→Bool}:(mkM R C f).all p=true↔∀i k,i<R→k<C→p (f i k)=true:=by
 rw[b7]
 constructor
 ·intro h i k hi hk
  exact h _ (bO (vT hi hk))
 ·intro h x hx
  obtain⟨t,ht⟩:=yz hx
  have bz:t<R*C:=by have:=(lX.1 ht).1;rwa[fy] at this
  obtain⟨i,k,hi,hk,rfl⟩:=Cw bz
  rw[vT hi hk] at ht
  injection ht with ht
  rw[←ht];exact h i k hi hk
end
end
section
section
variable {B:Nat} {hp:Hp} {g:Gh} {w w':World}
def Hp.re(hp:Hp)(k:Nat)(ds:List D):Hp:=⟨(hp.next,ds)::hp.vars.filter fun p=>!([k]:List Nat).contains p.1,hp.live,hp.next+1⟩
theorem vJ {k:Nat}{ds a:List D}{j:Nat}(h:(hp.re k ds).vars.lookup j=some a):(j=hp.next∧a=ds)∨(j≠hp.next∧j≠k∧hp.vars.lookup j=some a):=by
 by_cases hj:j=hp.next
 ·subst hj
  have:some ds=some a:=by rw[←h];exact ai.symm
  injection this with this
  exact .inl ⟨rfl,this.symm⟩
 ·have h1:(hp.vars.filter fun p=>!([k]:List Nat).contains p.1).lookup j=some a:=by rw[←h];exact (au hj).symm
  obtain⟨h2,h3⟩:=ja h1
  exact .inr ⟨hj,by simpa using h2,h3⟩
theorem bB.re(hr:HR B hp g w){k b:Nat}{nl:List D}(hk:hp.vars.lookup k=some nl)(ds:List D)(hs:w.heap.size≤w'.heap.size)(ho:∀c,c<w.heap.size→c≠g.μ k→w'.heap[c]? =w.heap[c]?)(hz:SzB w w' (g.μ k))(hb:b=g.μ k∨w.heap.size≤b):
  bB hp g w (hp.re k ds) (g.var hp.next b) w':=by
 have bz:=hr.var_lt hk
 obtain⟨h1,h2,h3,_⟩:=hr.var k nl hk
 refine⟨hs,fun p hp1 hf=>World.cell?_of_block (ho _ hp1 fun e=>hf (h3 p e)),fun p hpb hf=>?_,dx _,fun j hj=>?_,fun _ _ m _ hm=>⟨m,hm,aI _,fun _=>rfl⟩,fun c hc hf=>⟨ho _ hc fun e=>hf.1 k nl hk e.symm,fun _ _ h=>.inl h,fun j a hj=>?_,hf.2⟩,fun c=>?_⟩
 ·rcases hf with hf|hf
  ·exact hf
  ·rcases hb with hb|hb
   ·exact h3 p (by rw[hf,hb])
   ·omega
 ·show (if j=hp.next then _ else _)=_
  rw[ifn_]
 ·rcases vJ hj with⟨rfl,_⟩|⟨lK,_,h⟩
  ·show (if _ then _ else _)≠_
   rw[ao rfl]
   rcases hb with hb|hb
   ·rw[hb];exact hf.1 k nl hk
   ·omega
  ·show (if _ then _ else _)≠_
   rw[aq lK]
   exact hf.1 j a h
 ·by_cases hc:c=g.μ k
  ·subst hc;exact hz
  ·exact .same fun h=>ho c h hc
theorem HR.re(hr:HR B hp g w){k b:Nat}{nl:List D}(hk:hp.vars.lookup k=some nl)(ds:List D)(hs:w.heap.size≤w'.heap.size)(ho:∀c,c<w.heap.size→c≠g.μ k→w'.heap[c]? =w.heap[c]?)(hz:SzB w w' (g.μ k))(hb:b=g.μ k∨w.heap.size≤b)
  (cs:Array Value) (ty:TypeId) (hn:w'.heap[b]? =some (.cells cs ty (0,0))) (hl:ds.length≤cs.size) (hc:∀(j:Nat) (u:Value),cs[j]? =some u→(j<ds.length→u.oneCell'=true)∧∀d,ds[j]? =some d→aM hp g w d u):HR B (hp.re k ds) (g.var hp.next b) w':=by
 have m:=bB.re hr hk ds hs ho hz hb
 have hkl:=hr.var_lt hk
 obtain⟨hk1,yV,hk3,_⟩:=hr.var k nl hk
 have hbl:b<w'.heap.size:=(f7.1 hn).1
 have t7:(g.var hp.next b).μ hp.next=b:=ao rfl
 have hμ:∀j,j<hp.next→(g.var hp.next b).μ j=g.μ j:=m.μ
 have hdiff:∀{j:Nat} {a:List D},j≠k→hp.vars.lookup j=some a→g.μ j≠g.μ k:=fun hj h e=>hj (hr.inj _ _ _ _ h hk e)
 have yS:∀{j:Nat} {a:List D},j≠k→hp.vars.lookup j=some a→g.μ j≠b:=fun hj h e=>by
  rcases hb with hb|hb
  ·exact hdiff hj h (by rw[e,hb])
  ·have:=hr.var_lt h;omega
 refine⟨fun j a hj=>?_,fun j j' a a' hj EZ he=>?_,fun id n e hi=>?_,fun id yn t t' c hi wH he CN=>hr.tinj id yn t t' c hi wH he CN,cG hr.base hs,fun p hf=>?_⟩
 ·rcases vJ hj with⟨rfl,rfl⟩|⟨lK,hjk,h0⟩
  ·rw[t7]
   refine⟨cl _,?_,fun p hp'=>.inr hp',cs,ty,hn,hl,fun i u hu=>⟨(hc i u hu).1,fun d hd=>((hc i u hu).2 d hd).mono m⟩⟩
   rcases hb with hb|hb
   ·rw[hb];exact yV
   ·exact cG hr.base hb
  ·have bz:=hr.var_lt h0
   obtain⟨h1,h2,h3,rM,G6,h4,h5,h6⟩:=hr.var j a h0
   rw[hμ j h1]
   exact⟨nS h1,h2,fun p hp'=>.inl (h3 p hp'),rM,G6,(ho _ bz (hdiff hjk h0)).trans h4,h5,fun i u hu=>⟨(h6 i u hu).1,fun d hd=>((h6 i u hu).2 d hd).mono m⟩⟩
 ·rcases vJ hj with⟨h1,_⟩|⟨h1,hjk,h0⟩ <;> rcases vJ EZ with⟨h2,_⟩|⟨h2,hjk',E4⟩
  ·omega
  ·rw[h1,t7,hμ j' (hr.var j' a' E4).1] at he
   exact absurd he.symm (yS hjk' E4)
  ·rw[h2,t7,hμ j (hr.var j a h0).1] at he
   exact absurd he (yS hjk h0)
  ·rw[hμ j (hr.var j a h0).1,hμ j' (hr.var j' a' E4).1] at he
   exact hr.inj j j' a a' h0 E4 he
 ·obtain⟨h1,us,hz',h2,h3⟩:=hr.tok id n e hi
  refine⟨nS h1,us,hz',⟨h2.1,?_⟩,fun c BJ=>⟨fun p h4 h5=>.inl ((h3 c BJ).1 p h4 h5),fun j a hj=>?_⟩⟩
  ·rcases h2.2 with h0|⟨c,cap,cur,hv,hB,hh,r⟩
   ·exact .inl h0
   ·exact .inr ⟨c,cap,cur,hv,hB,(ho c (f7.1 hh).1 fun e=>(h3 c (by rw[hv];rfl)).2 k nl hk e.symm).trans hh,r⟩
  ·rcases vJ hj with⟨rfl,_⟩|⟨lK,_,h0⟩
   ·rw[t7]
    rcases hb with hb|hb
    ·rw[hb];exact (h3 c BJ).2 k nl hk
    ·have:=(h2.lt c BJ).2;omega
   ·rw[hμ j (hr.var j a h0).1]
    exact (h3 c BJ).2 j a h0
 ·rcases hf with hf|hf
  ·exact bG (hr.fits p hf) hs
  ·rw[hf];exact hbl
theorem bB.addVar(hp:Hp)(g:Gh)(ds:List D){b:Nat}(hs:w.heap.size≤w'.heap.size)(hb:∀c,c<w.heap.size→w'.heap[c]? =w.heap[c]?)(xv:w.heap.size≤b):bB hp g w (hp.var ds) (g.var hp.next b) w':=by
 refine⟨hs,fun p hp1 _=>World.cell?_of_block (hb _ hp1),fun p hpb hf=>?_,dx _,fun k hk=>?_,fun _ _ m _ hm=>⟨m,hm,aI _,fun _=>rfl⟩,fun c hc hf=>⟨hb _ hc,fun _ _ h=>.inl h,fun k ds' hk=>?_,hf.2⟩,fun c=>.same (hb c)⟩
 ·rcases hf with hf|hf
  ·exact hf
  ·omega
 ·show (if k=hp.next then _ else _)=_
  rw[ifn_]
 ·show (if k=hp.next then _ else _)≠_
  by_cases yp:k=hp.next
  ·rw[ao yp];omega
  ·rw[aq yp]
   exact hf.1 k ds' (by rw[←hk];exact (au yp).symm)
theorem HR.addVar(hr:HR B hp g w)(ds:List D){b:Nat}(hs:w.heap.size≤w'.heap.size)(hb:∀c,c<w.heap.size→w'.heap[c]? =w.heap[c]?)(xv:w.heap.size≤b)(cs:Array Value)(ty:TypeId)(hn:w'.heap[b]? =some (.cells cs ty (0,0)))(hl:ds.length≤cs.size)
  (hc:∀(j:Nat) (u:Value),cs[j]? =some u→(j<ds.length→u.oneCell'=true)∧∀d,ds[j]? =some d→aM (hp.var ds) (g.var hp.next b) w' d u):HR B (hp.var ds) (g.var hp.next b) w':=by
 have m:=bB.addVar hp g ds hs hb xv
 have hμ:∀k,k<hp.next→(g.var hp.next b).μ k=g.μ k:=m.μ
 have t7:(g.var hp.next b).μ hp.next=b:=ao rfl
 have hbl:b<w'.heap.size:=(f7.1 hn).1
 have look:∀{j:Nat} {a:List D},(hp.var ds).vars.lookup j=some a→(j=hp.next∧a=ds)∨(j≠hp.next∧hp.vars.lookup j=some a):=by
  intro j a hj
  by_cases xu:j=hp.next
  ·subst xu
   have:some ds=some a:=by rw[←hj];exact ai.symm
   injection this with this
   exact .inl ⟨rfl,this.symm⟩
  ·exact .inr ⟨xu,by rw[←hj];exact (au xu).symm⟩
 refine⟨fun j a hj=>?_,fun j j' a a' hj EZ he=>?_,fun id n e hi=>?_,fun id yn t t' c hi wH he CN=>hr.tinj id yn t t' c hi wH he CN,cG hr.base hs,fun p hf=>?_⟩
 ·rcases look hj with⟨rfl,rfl⟩|⟨lK,h0⟩
  ·rw[t7]
   exact⟨cl _,cG hr.base xv,fun p hp'=>.inr hp',cs,ty,hn,hl,hc⟩
  ·have bz:=hr.var_lt h0
   obtain⟨h1,h2,h3,rM,G6,h4,h5,h6⟩:=hr.var j a h0
   rw[hμ j h1]
   exact⟨nS h1,h2,fun p hp'=>.inl (h3 p hp'),rM,G6,(hb _ bz).trans h4,h5,fun i u hu=>⟨(h6 i u hu).1,fun d hd=>((h6 i u hu).2 d hd).mono m⟩⟩
 ·rcases look hj with⟨h1,_⟩|⟨h1,h0⟩ <;> rcases look EZ with⟨h2,_⟩|⟨h2,E4⟩
  ·omega
  ·rw[h1,t7,hμ j' (hr.var j' a' E4).1] at he
   have:=hr.var_lt E4;omega
  ·rw[h2,t7,hμ j (hr.var j a h0).1] at he
   have:=hr.var_lt h0;omega
  ·rw[hμ j (hr.var j a h0).1,hμ j' (hr.var j' a' E4).1] at he
   exact hr.inj j j' a a' h0 E4 he
 ·obtain⟨h1,us,hz',h2,h3⟩:=hr.tok id n e hi
  refine⟨nS h1,us,hz',⟨h2.1,?_⟩,fun c BJ=>⟨fun p h4 h5=>.inl ((h3 c BJ).1 p h4 h5),fun j a hj=>?_⟩⟩
  ·rcases h2.2 with h0|⟨c,cap,cur,hv,hB,hh,r⟩
   ·exact .inl h0
   ·exact .inr ⟨c,cap,cur,hv,hB,(hb c (f7.1 hh).1).trans hh,r⟩
  ·rcases look hj with⟨rfl,_⟩|⟨lK,h0⟩
   ·rw[t7]
    have:=(h2.lt c BJ).2;omega
   ·rw[hμ j (hr.var j a h0).1]
    exact (h3 c BJ).2 j a h0
 ·rcases hf with hf|hf
  ·exact bG (hr.fits p hf) hs
  ·rw[hf];exact hbl
end
end
section
def D.toOw:D→D
 | .gw k z n=>.ow k 0 z n
 |d=>d
section
variable {P:Program} {tb:TypeId→Option TyE} {md:Md} {B:Nat} {hp hp':Hp} {g:Gh} {w w':World} {d:D} {v:Value}
theorem aM.toOw(h:aM hp g w d v):aM hp g w d.toOw v:=by
 cases h with
 |gw k z n c hk h1 h2 hs=>exact .ow k 0 z n c hk h1 h2
 |e x v h=>exact .e x v h
 |own id z n xs v h hid ht=>exact .own id z n xs v h hid ht
 |fu z n xs A h=>exact .fu z n xs A h
 |ag ds cs hl h1 hr=>exact .ag ds cs hl h1 hr
 |tu ds cs hl hr=>exact .tu ds cs hl hr
 |fp xs off ad hb hc=>exact .fp xs off ad hb hc
 |pt k off hk=>exact .pt k off hk
 |ow k off z n c hk h1 h2=>exact .ow k off z n c hk h1 h2
 |fn f ks hk=>exact .fn f ks hk
 |opt b d v hi h=>exact .opt b d v hi h
 |top v=>exact .top v
theorem Jf {k off:Nat}(d:D):d.toOw.un=.pt k off↔d.un=.pt k off:=by cases d <;> simp[D.toOw,D.un]
theorem np.toOw {o:Oper}{ev:Operand→D}(h:np P o (fun x=>(ev x).toOw) hp d hp'):np P o ev hp d hp':=
 fun B g w a Kn Q hr hx hk=>h B g w a Kn Q hr (fun x tM=>(hx x tM).toOw) hk
theorem lh.toOw {o:Oper}{ev:Operand→D}(h:lh P tb md o (fun x=>(ev x).toOw) hp d hp'):lh P tb md o ev hp d hp':=
 ⟨h.ok.toOw,fun h1=>⟨(h.quiet h1).1,fun bF h3=>((h.quiet h1).2 bF fun hl x hx j off e=>h3 hl x hx j off ((Jf _).1 e)).toOw⟩,h.fr,fun hl x hx j off e=>h.lk hl x hx j off ((Jf _).2 e)⟩
variable {ops:Array Oper} {K:List (Nat×D)→Hp→Prop} {os:List Oper} {tm:List (Nat×D)} {t:Tmp} {dst:Option Tmp} {op:Op} {ty:TypeId} {pos:String} {af:Array Edge} {gd:Option (Nat×Bool)}
theorem stG(tok:TOk P tb)(h:AVC P tb md.dr op ty (fun x=>(evD tm x).toOw) hp (Kq d hp'))(h2:bt P tb md ops K os (w8 dst d tm) hp')(hn:md.nc tb op=true:=by exact rfl):bt P tb md ops K (⟨dst,op,ty,pos,af,none⟩::os) tm hp:=
 Ft rfl (((AVC.snd (o:=⟨dst,op,ty,pos,af,none⟩) tok h).q hn).toOw) h2
theorem JB(tok:TOk P tb){ev:Operand→D}{tt e:TypeId}{ti j:TyE}{x:Operand}{cs:List D}(ht:tb tt=some ti)(he:tb e=some j)(hx:(ev x).cells=some cs)(hl:cs.length=j.size)(uq:ti.ty=.slice e:=by exact rfl)(hz:Nat.ble 1 j.size=true:=by exact rfl)(hsm:Nat.ble j.size 16777216=true:=by exact rfl):
  np P ⟨dst,.buildSlice tt 1 #[(0,x)],ty,pos,af,gd⟩ ev hp (.gw hp.next j.size 1) (hp.var cs):=by
 have hz:=cg hz
 have hsm:=cg hsm
 have hu:=tok.slice ht uq
 refine .step fun B g w a hr tM=>?_
 have cE:=tM x (by simp[Op.operands])
 have oW:=cE.cells hx
 have Aj:(a.eval x).cells.size=j.size:=by rw[←dT,←oW.1.1,hl]
 obtain⟨zv,hzv,CL⟩:=tok.run_zero he w
 obtain⟨_,_,hzl,HK⟩:=tok e j he
 have hs:=tok.run_sizeOf he w
 have yq:Instr.fill (fun i=>some (i*j.size,j.size)) ((Array.range (1*j.size)).map (zv.cells[·% zv.cells.size]!)) [(0,a.eval x)]=some (a.eval x).cells:=by
  have h0:fP (fun i=>some (i*j.size,j.size)) ((Array.range (1*j.size)).map (zv.cells[·% zv.cells.size]!)).toList ([(0,a.eval x)].map fun p=>(p.1,p.2.cells.toList))=some (a.eval x).cells.toList:=by
   have HY:((Array.range (1*j.size)).map (zv.cells[·% zv.cells.size]!)).toList.length=j.size:=by simp
   simp only[e8,gL,fP,e7,bE,dT]
   rw[aq (by rw[Aj,Array.size_map,Array.size_range];omega)]
   rw[EG,oN,AO (by rw[HY];omega),tp]
  have:=zq h0
  simpa using this
 have bD:(Instr.buildSlice tt 1 #[(0,a.eval x)]).run P w=.ok (.slice (some ⟨w.heap.size,0,none⟩) 1 1) (w.alloc (.cells (a.eval x).cells e)):=by
  have hsm2:¬1*j.size > 2 ^ 24:=by omega
  have lK:¬1*j.size=0:=by omega
  simp only[Instr.buildSlice,Sem.run_bind,run_underlying hu,Result.andThen_ok,hs,aq hsm2,aq lK,hzv,Sem.run_pure]
  simp only[yq]
  rfl
 refine⟨.slice (some ⟨w.heap.size,0,none⟩) 1 1,g.var hp.next w.heap.size,w.alloc (.cells (a.eval x).cells e),?_,hr.newVar cs _ e (by rw[Aj,hl];exact aI _) (fun i u hu=>?_),bB.var hp g w cs _,?_,(Below.refl _ _).alloc hr.base _,fun p _ h=>.inl h⟩
 ·simp[execOp,bD]
 ·have sx:(a.eval x).cells.toList[i]? =some u:=by simpa using hu
  exact⟨fun _=>oW.2 u (bO sx),fun d hd=>oW.1.2 i d u hd sx⟩
 ·have:=aM.gw (hp:=hp.var cs) (g:=g.var hp.next w.heap.size) (w:=w.alloc (.cells (a.eval x).cells e)) hp.next j.size 1 1 (cl _) (aI _) (by decide) ⟨(a.eval x).cells,e,(0,0),by rw[show (g.var hp.next w.heap.size).μ hp.next=w.heap.size from ao rfl];exact heap_alloc_new w _,by omega⟩
  rwa[show (g.var hp.next w.heap.size).μ hp.next=w.heap.size from ao rfl] at this
theorem w4(w:World)(t ty e tt:TypeId)(i:TypeInfo)(ht:P.underlying t=some (.slice e))(hi:P.info? e=some i)
  (g Hm sCap:Nat) (cur:Array Value) (hg:w.heap[g]? =some (.cells cur tt (0,0)))
  (a:Addr) (m c:Nat) (news:List Value) (hl:news.length=m*i.size) (pG:∀j u,news[j]? =some u→w.cell? (a.add j)=some u) (h1:∀u∈news,u.oneCell'=true)
  (sy:Hm+m≤sCap) (Ca:Hm*i.size+news.length≤cur.size):
  (Builtin.append_ #[t,t] ty #[.slice (some ⟨g,0,none⟩) Hm sCap,.slice (some a) m c]).run P w=
   .ok (.slice (some ⟨g,0,none⟩) (Hm+m) sCap) (w.setRow g (cur.toList.take (Hm*i.size)++news++cur.toList.drop (Hm*i.size+news.length)).toArray):=by
 have hf:=run_firstCells_some (P:=P) w i.size m a m c news hl pG
 have v3:=run_storeCells_at P g (Hm*i.size) tt news 0 cur w hg (by simpa using Ca) h1
 simp only[i6] at v3
 simp[Builtin.append_,run_underlying ht,sizeOf,typeInfo,hi,Builtin.lenOf,sy,hf,Addr.add_lit,v3]
structure AppG(w:World)(g:Nat)(v':Value)(w':World)(b n z:Nat)(xs:List Value):Prop where
 size:w.heap.size≤w'.heap.size
 old:∀c,c<w.heap.size→c≠g→w'.heap[c]? =w.heap[c]?
 sz:SzB w w' g
 blk:b=g∨w.heap.size≤b
 rest:w'.os=w.os∧w'.tape=w.tape∧w'.output=w.output
 row:∃(cs:Array Value) (tt:TypeId) (cap:Nat),v'=.slice (some ⟨b,0,none⟩) n cap∧n≤cap∧cap≤maxLen∧w'.heap[b]? =some (.cells cs tt (0,0))∧cap*z≤cs.size∧cs.toList.take (n*z)=xs
theorem BV(tok:TOk P tb){t e:TypeId}{ti j:TyE}(ht:tb t=some ti)(uq:ti.ty=.slice e)(he:tb e=some j)(hz:0<j.size)(w:World)(ty tt:TypeId)(g n cap:Nat)(cur:Array Value)(hg:w.heap[g]? =some (.cells cur tt (0,0)))(nJ:n≤cap)(mQ:cap≤maxLen)(oW:cap*j.size≤cur.size)
  (a:Addr) (m c:Nat) (news:List Value) (hl:news.length=m*j.size) (pG:∀j u,news[j]? =some u→w.cell? (a.add j)=some u) (h1:∀u∈news,u.oneCell'=true) (hm:0<m) (hb:(n+m)*max 1 j.bytes≤140737488355328):
  ∃v' w' b,(Builtin.append_ #[t,t] ty #[.slice (some ⟨g,0,none⟩) n cap,.slice (some a) m c]).run P w=.ok v' w'∧AppG w g v' w' b (n+m) j.size (cur.toList.take (n*j.size)++news):=by
 obtain⟨f,zz,H2,Ga,NF,hf3,hf4,_⟩:=tok.inf he
 have hu:=tok.slice ht uq
 have hgl:g<w.heap.size:=(f7.1 hg).1
 have K0:n+m≤140737488355328:=cG (vc _ (by omega)) hb
 have yS:(n+m)*f.bytes≤140737488355328:=cG (rY _ (by rw[NF];omega)) hb
 have hns:n*j.size≤cap*j.size:=cc _ nJ
 have zo:(cur.toList.take (n*j.size)).length=n*j.size:=by rw[eA,dT];omega
 by_cases sy:n+m≤cap
 ·have HV:(n+m)*j.size≤cap*j.size:=cc _ sy
  rw[bN] at HV
  have hr:=w4 (P:=P) w t ty e tt f hu H2 g n cap cur hg a m c news (by rw[Ga];exact hl) pG h1 sy (by rw[Ga,hl];omega)
  rw[Ga] at hr
  have wF:(cur.toList.take (n*j.size)++news++cur.toList.drop (n*j.size+news.length)).toArray.size=cur.size:=by
   simp only[jY,eH,eA,f8,dT];omega
  refine⟨_,_,g,hr,by simp,fun c _ hc=>setRow_other w g c _ hc,SzB.row hg wF,.inl rfl,⟨rfl,rfl,rfl⟩,_,tt,cap,rfl,sy,mQ,setRow_heap w g cur _ tt (0,0) hg,by rw[wF];exact oW,?_⟩
  have e1:(n+m)*j.size=(cur.toList.take (n*j.size)++news).length:=by rw[eH,zo,hl,bN]
  rw[e1]
  exact oC
 ·have holds:∀i u,(cur.toList.take (n*j.size))[i]? =some u→w.cell? ((⟨g,0,none⟩:Addr).add i)=some u:=fun i u hu=>by
   rw[gG] at hu
   split at hu
   ·rw[Addr.add_lit]
    simpa[World.cell?,hg] using hu
   ·cases hu
  have hr:=run_append_grow (P:=P) w t ty e f zz hu H2 hf3 ⟨g,0,none⟩ n cap (cur.toList.take (n*j.size)) (by rw[Ga];exact zo) holds a m c news (by rw[Ga];exact hl) pG (by omega) (by omega) (growslice_fits (by omega) yS)
  have xv:=grownCap_ge w (n+m) cap e
  have hzs:zz.cells.size=j.size:=by
   have h4:=(tok e j he).2.2.1
   rw[←dT,hf4,h4]
  refine⟨_,_,w.heap.size,hr,by simp,fun c hc _=>heap_alloc_old w.drew _ hc,.same fun h=>heap_alloc_old w.drew _ h,.inr (aI _),⟨rfl,rfl,rfl⟩,_,e,_,rfl,xv,grownCap_le_maxLen w (n+m) cap e (by unfold maxLen;omega),heap_alloc_new w.drew _,?_,?_⟩
  ·simp only[xQ,jY,size_zeroCells,hzs,zo,hl,←bN]
   exact cc _ (by omega)
  ·have e1:(n+m)*j.size=(cur.toList.take (n*j.size)++news).length:=by rw[eH,zo,hl,bN]
   simp only[Eh]
   rw[e1]
   exact oC
theorem appR_ok(tok:TOk P tb){ev:Operand→D}{t e:TypeId}{ti j:TyE}{x y:Operand}{k n ky:Nat}{ds news:List D}(ht:tb t=some ti)(he:tb e=some j)(hk:hp.vars.lookup k=some ds)(hy:hp.vars.lookup ky=some news)(hx:ev x=.gw k j.size n)(hyy:ev y=.gw ky j.size 1)(hl:ds.length=n*j.size)(HY:news.length=j.size)(hb:(n+1)*max 1 j.bytes≤140737488355328)
  (uq:ti.ty=.slice e:=by exact rfl) (hz:Nat.ble 1 j.size=true:=by exact rfl):
  np P ⟨dst,.call ⟨.builtin .append,#[x,y],#[t,t]⟩,ty,pos,af,gd⟩ ev hp (.gw hp.next j.size (n+1)) (hp.re k (ds++news)):=by
 have hz:=cg hz
 refine .step fun B g w a hr tM=>?_
 ·have h1:=tM x (cd (by simp))
  have h2:=tM y (cd (by simp))
  rw[hx] at h1
  rw[hyy] at h2
  obtain⟨q1,q2,q3,cs,tt,q4,q5,q6⟩:=hr.var k ds hk
  obtain⟨y1,y2,y3,ys,yt,y4,y5,y6⟩:=hr.var ky news hy
  generalize M4:a.eval x=v1 at h1
  generalize LB:a.eval y=v2 at h2
  cases h1 with
  |gw _ _ _ cap yp nJ mQ hs=>
  cases h2 with
  |gw _ _ _ c hkn2 hnc2 hcm2 LE=>
  obtain⟨rM,tt',l',h3,h4⟩:=hs
  rw[q4] at h3
  injection h3 with h3
  injection h3 with h3 h5 h6
  subst h3;subst h5;subst h6
  have pG:∀i u,(ys.toList.take j.size)[i]? =some u→w.cell? ((⟨g.μ ky,0,none⟩:Addr).add i)=some u:=fun i u hu=>by
   rw[gG] at hu
   split at hu
   ·rw[Addr.add_lit]
    simpa[World.cell?,y4] using hu
   ·cases hu
  have hyone:∀u∈ys.toList.take j.size,u.oneCell'=true:=fun u hu=>by
   obtain⟨i,hi⟩:=yz hu
   rw[gG] at hi
   split at hi
   ·rename_i bz
    exact (y6 i u (by simpa using hi)).1 (by omega)
   ·cases hi
  obtain⟨v',w',b,bD,qz⟩:=BV tok ht uq he hz w ty tt (g.μ k) n cap cs q4 nJ mQ h4 ⟨g.μ ky,0,none⟩ 1 c (ys.toList.take j.size) (by rw[eA,dT];omega) pG hyone (by omega) hb
  obtain⟨cs2,tt2,cap2,tO,JJ,mR,hh2,K6,E2⟩:=qz.row
  have hlen:(ds++news).length=(n+1)*j.size:=by rw[eH,hl,HY,bN,dc]
  have E1:(n+1)*j.size≤cap2*j.size:=cc _ JJ
  have hHR:HR B (hp.re k (ds++news)) (g.var hp.next b) w':=hr.re hk _ qz.size qz.old qz.sz qz.blk cs2 tt2 hh2 (by rw[hlen];omega) (fun i u hu=>by
   have hwin:i<(n+1)*j.size→(cs.toList.take (n*j.size)++ys.toList.take j.size)[i]? =some u:=fun hi=>by
    rw[←E2,gG,ao hi];simpa using hu
   have M6:(cs.toList.take (n*j.size)).length=n*j.size:=by rw[eA,dT];omega
   have look:∀hi:i<(n+1)*j.size,(i<n*j.size∧cs[i]? =some u)∨(n*j.size≤i∧i - n*j.size<j.size∧ys[i - n*j.size]? =some u):=fun hi=>by
    have h:=hwin hi
    rcases bZ i (n*j.size) with bz|xv
    ·rw[u3 (by omega),gG,ao bz] at h
     exact .inl ⟨bz,by simpa using h⟩
    ·rw[tr (by omega),M6,gG] at h
     rw[bN,dc] at hi
     rw[ifp_] at h
     exact .inr ⟨xv,by omega,by simpa using h⟩
   refine⟨fun hi=>?_,fun d hd=>?_⟩
   ·rw[hlen] at hi
    rcases look hi with⟨h5,h6⟩|⟨h5,h6,h7⟩
    ·exact (q6 i u h6).1 (by omega)
    ·exact (y6 _ u h7).1 (by omega)
   ·have hi:i<(n+1)*j.size:=by rw[←hlen];exact (lX.1 hd).1
    rcases look hi with⟨h5,h6⟩|⟨h5,h6,h7⟩
    ·rw[u3 (by omega)] at hd
     exact (q6 i u h6).2 d hd
    ·rw[tr (by omega),hl] at hd
     exact (y6 _ u h7).2 d hd)
  refine⟨v',g.var hp.next b,w',?_,hHR,bB.re hr hk _ qz.size qz.old qz.sz qz.blk,?_,⟨qz.rest.1,qz.rest.2.1,qz.rest.2.2,qz.size,fun c hc=>qz.old c (bG hc hr.base) (by omega)⟩,fun p h5 h6=>.inl h6⟩
  ·simp only[execOp,EB,A5,e8,gL,resolve,invoke,builtin,M4,LB,Sem.run_bind]
   simp[resolve,invoke,builtin,M4,LB,bD]
  ·subst tO
   have t7:(g.var hp.next b).μ hp.next=b:=ao rfl
   have:=aM.gw (hp:=hp.re k (ds++news)) (g:=g.var hp.next b) (w:=w') hp.next j.size (n+1) cap2 (cl _) JJ mR ⟨cs2,tt2,(0,0),by rw[t7];exact hh2,K6⟩
   rwa[t7] at this
end
end
section
section
variable {P:Program} {tb:TypeId→Option TyE} {md:Md} {B:Nat} {hp hp':Hp} {g:Gh} {w w':World} {d:D} {v:Value}
theorem appN(tok:TOk P tb){ev:Operand→D}{dst:Option Tmp}{ty:TypeId}{pos:String}{af:Array Edge}{gd:Option (Nat×Bool)}{t e:TypeId}{ti j:TyE}{x y:Operand}{ky:Nat}{news:List D}(ht:tb t=some ti)(he:tb e=some j)(hy:hp.vars.lookup ky=some news)(hx:ev x=.e (.lit (.slice none 0 0)))(hyy:ev y=.gw ky j.size 1)(HY:news.length=j.size)(hb:1*max 1 j.bytes≤140737488355328)
  (uq:ti.ty=.slice e:=by exact rfl) (hz:Nat.ble 1 j.size=true:=by exact rfl):
  lh P tb md ⟨dst,.call ⟨.builtin .append,#[x,y],#[t,t]⟩,ty,pos,af,gd⟩ ev hp (.gw hp.next j.size 1) (hp.var news):=by
 have hz:=cg hz
 refine⟨.step fun B g w a hr tM=>?_,fun hq=>?_,fun _=>⟨dx _,fun j hj=>au (by omega)⟩,fun h=>by cases h⟩
 ·have h1:=tM x (cd (by simp))
  have h2:=tM y (cd (by simp))
  rw[hx] at h1
  rw[hyy] at h2
  have h1:=h1.lit
  obtain⟨y1,y2,y3,ys,yt,y4,y5,y6⟩:=hr.var ky news hy
  generalize LB:a.eval y=v2 at h2
  cases h2 with
  |gw _ _ _ c hkn2 hnc2 hcm2 LE=>
  obtain⟨f,zz,H2,Ga,NF,hf3,hf4,_⟩:=tok.inf he
  have hu:=tok.slice ht uq
  have hzs:zz.cells.size=j.size:=by
   have h4:=(tok e j he).2.2.1
   rw[←dT,hf4,h4]
  have yS:f.bytes≤140737488355328:=by rw[NF];omega
  have pG:∀i u,(ys.toList.take j.size)[i]? =some u→w.cell? ((⟨g.μ ky,0,none⟩:Addr).add i)=some u:=fun i u hu=>by
   rw[gG] at hu
   split at hu
   ·rw[Addr.add_lit]
    simpa[World.cell?,y4] using hu
   ·cases hu
  have wF:(ys.toList.take j.size).length=j.size:=by rw[eA,dT];omega
  have bD:=run_append_nil (P:=P) w t ty e f zz hu H2 hf3 ⟨g.μ ky,0,none⟩ 1 c (ys.toList.take j.size) (by rw[Ga,wF];omega) pG (by omega) (by omega) (by omega)
  have xv:=grownCap_ge w 1 0 e
  have hold:∀c,c<w.heap.size→(w.drew.alloc (.cells ((ys.toList.take j.size).toArray++Builtin.zeroCells zz.cells (grownCap w 1 0 e - 1)) e)).heap[c]? =w.heap[c]? :=fun c hc=>heap_alloc_old w.drew _ hc
  have qx:=heap_alloc_new w.drew (.cells ((ys.toList.take j.size).toArray++Builtin.zeroCells zz.cells (grownCap w 1 0 e - 1)) e)
  have mo:=bB.addVar (w:=w) (w':=w.drew.alloc (.cells ((ys.toList.take j.size).toArray++Builtin.zeroCells zz.cells (grownCap w 1 0 e - 1)) e)) hp g news (b:=w.heap.size) (by simp) hold (aI _)
  have hsz:((ys.toList.take j.size).toArray++Builtin.zeroCells zz.cells (grownCap w 1 0 e - 1)).size=grownCap w 1 0 e*j.size:=by
   simp only[xQ,jY,size_zeroCells,hzs,wF]
   have:grownCap w 1 0 e=1+(grownCap w 1 0 e - 1):=by omega
   rw[this,bN,dc]
   congr 2
   omega
  have h1z:1*j.size≤grownCap w 1 0 e*j.size:=cc _ xv
  refine⟨.slice (some ⟨w.heap.size,0,none⟩) 1 (grownCap w 1 0 e),g.var hp.next w.heap.size,_,?_,hr.addVar news (w':=w.drew.alloc (.cells ((ys.toList.take j.size).toArray++Builtin.zeroCells zz.cells (grownCap w 1 0 e - 1)) e)) (by simp) hold (aI _) _ e qx (by rw[hsz,HY];omega) (fun i u hu=>?_),mo,?_,⟨rfl,rfl,rfl,by simp,fun c hc=>hold c (bG hc hr.base)⟩,fun p h5 h6=>.inl h6⟩
  ·simp only[execOp,EB,A5,e8,gL,resolve,invoke,builtin,h1,LB,Sem.run_bind]
   simp[resolve,invoke,builtin,h1,LB,bD]
  ·have DS:i<news.length→ys[i]? =some u:=fun hi=>by
    have wH:i<(ys.toList.take j.size).toArray.size:=by rw[jY,wF];omega
    rw[vb wH,xP,gG,ifp_] at hu
    simpa using hu
   exact⟨fun hi=>(y6 i u (DS hi)).1 hi,fun d hd=>((y6 i u (DS (lX.1 hd).1)).2 d hd).mono mo⟩
  ·have t7:(g.var hp.next w.heap.size).μ hp.next=w.heap.size:=ao rfl
   have:=aM.gw (hp:=hp.var news) (g:=g.var hp.next w.heap.size) (w:=w.drew.alloc (.cells ((ys.toList.take j.size).toArray++Builtin.zeroCells zz.cells (grownCap w 1 0 e - 1)) e)) hp.next j.size 1 (grownCap w 1 0 e) (cl _) xv (grownCap_le_maxLen w 1 0 e (by decide)) ⟨_,e,(0,0),by rw[t7];exact qx,by rw[hsz];exact aI _⟩
   rwa[t7] at this
 ·exfalso
  cases md with
  |seq=>cases hq
  |any L=>
   have h1:((mb (.call ⟨.builtin .append,#[x,y],#[t,t]⟩)&&!HE tb (.call ⟨.builtin .append,#[x,y],#[t,t]⟩))||pN tb L (.call ⟨.builtin .append,#[x,y],#[t,t]⟩))=true:=hq
   simp[mb,pN] at h1
def Fv(hp:Hp)(g:Gh):Addr→Prop:=fun p=>g.F p∧∀k ds,hp.vars.lookup k=some ds→g.μ k≠p.block
def AR(hp:Hp)(d d':D):Prop:=∀(B:Nat) (g:Gh) (w:World) (v:Value),HR B hp g w→aM hp g w d v→j5 w (Fv hp g) d' v
theorem AR.data(h:d.ex.pure=true):AR hp d d.ex:=fun _ _ _ _ _ hd=>(hd.xport h).less fun _ hp=>hp.1
theorem AR.sl {k z n off:Nat}{F:List E}(hv:hp.vars.lookup k=some (dC F))(hz:0<z)(hl:off+n*z≤F.length):AR hp (.ow k off z n) (.e (.sl z n ((F.drop off).take (n*z)))):=by
 intro B g w v hr hd
 obtain⟨h1,h2,h3,cs,ty,h4,h5,h6⟩:=hr.var k _ hv
 rw[fH] at h5
 cases hd with
 |ow _ _ _ _ c hk nJ mQ=>
  refine .e _ _ (.sl z n _ (some ⟨g.μ k,off,none⟩) c (fun i=>cs.getD (off+i) undef) (by rw[eA,f8];omega) hz nJ mQ (fun _=>⟨_,rfl,(f7.1 h4).1⟩) (fun ad ha i e hi=>?_) (fun i e hi=>?_))
  ·injection ha with ha
   subst ha
   have wH:i<n*z:=by
    have:=(lX.1 hi).1
    rw[eA] at this;omega
   have K9:(⟨g.μ k,off,none⟩:Addr).add i=⟨g.μ k,off+i,none⟩:=by unfold Addr.add;split <;> simp_all
   refine⟨?_,fun hf=>hf.2 k _ hv (by rw[gk])⟩
   rw[K9]
   have bz:off+i<cs.size:=by omega
   simp[World.cell?,h4,cz,bz]
  ·have wH:i<n*z:=by
    have:=(lX.1 hi).1
    rw[eA] at this;omega
   have bz:off+i<cs.size:=by omega
   rw[gG,ao wH,oM] at hi
   have hu:=h6 (off+i) (cs.getD (off+i) undef) (by simp[cz,bz])
   have:=hu.2 (.e e) (by unfold dC;rw[cF,hi];rfl)
   cases this with
   |e _ _ h7=>exact h7.less fun p hp=>hp.1
def ARs(hp:Hp):List D→List D→Prop
 |[],[]=>True
 |d::ds,e::es=>AR hp d e∧ARs hp ds es
 |_,_=>False
theorem ARs.get:∀{ds es:List D},ARs hp ds es→ds.length=es.length∧∀(j:Nat) (e:D),es[j]? =some e→∃d,ds[j]? =some d∧AR hp d e
 |[],[],_=>⟨rfl,fun j e h=>by simp at h⟩
 |d::ds,e::es,⟨h1,h2⟩=>by
  obtain⟨h3,h4⟩:=ARs.get h2
  refine⟨by simp[h3],fun j x hx=>?_⟩
  cases j with
  |zero=>simp at hx;subst hx;exact⟨d,rfl,h1⟩
  |succ j=>exact h4 j x (by simpa using hx)
 |[],_::_,h=>h.elim
 |_::_,[],h=>h.elim
theorem AR.ag {ds es:List D}(h:ARs hp ds es):AR hp (.ag ds) (.ag es):=by
 intro B g w v hr hd
 obtain⟨h1,h2⟩:=h.get
 cases hd with
 |ag _ cs hl ho BG=>
  refine .ag es cs (by omega) ho fun j e u hj hu=>?_
  obtain⟨d,h3,h4⟩:=h2 j e hj
  exact h4 B g w u hr (BG j d u h3 hu)
def D.flatC:D→Bool
 | .e (.lit _)=>true
 |_=>false
def D.flat1:D→Bool
 | .ag ds=>ds.all D.flatC
 |d=>d.flatC
def D.flat:D→Bool
 | .tu ds=>ds.all D.flat1
 |d=>d.flat1
theorem Gn {F:Addr→Prop}(h:j5 w F d v)(hf:d.flatC=true)(hp:Hp)(g:Gh)(w':World):aM hp g w' d v:=by
 cases h with
 |e x v h=>
  cases x with
  |lit u=>cases h with|lit _ ho=>exact .e _ _ (.lit _ ho)
  |_=>cases hf
 |_=>cases hf
theorem Gp {F:Addr→Prop}(h:j5 w F d v)(hf:d.flat1=true)(hp:Hp)(g:Gh)(w':World):aM hp g w' d v:=by
 cases d with
 |ag ds=>
  cases h with
  |ag _ cs hl ho BG=>exact .ag ds cs hl ho fun j d u hj hu=>Gn (BG j d u hj hu) (b7.1 hf d (bO hj)) hp g w'
 |_=>exact Gn h hf hp g w'
theorem flat_to {F:Addr→Prop}(h:j5 w F d v)(hf:d.flat=true)(hp:Hp)(g:Gh)(w':World):aM hp g w' d v:=by
 cases d with
 |tu ds=>
  cases h with
  |tu _ cs hl BG=>exact .tu ds cs hl fun j d u hj hu=>Gp (BG j d u hj hu) (b7.1 hf d (bO hj)) hp g w'
 |_=>exact Gp h hf hp g w'
theorem Kv(hr:HR B hp g w):∀p:Addr,Fv hp g p→p.block<w.heap.size:=fun p h=>hr.fits p h.1
theorem xI {f:FuncId}{ds ds':List D}{r:D}(hc:aB P f ds' r)(ha:ARs hp ds ds'){vs:Array Value}(hr:HR B hp g w)(hsz:vs.size=ds.length)(cE:∀(j:Nat) (d:D) (u:Value),ds[j]? =some d→vs[j]? =some u→aM hp g w d u):
  Calls P f vs w fun e w'=>∃v,e=.returned v∧sH w.heap.size (Fv hp g) w' r v∧Below w.heap.size w w':=by
 obtain⟨h1,h2⟩:=ha.get
 refine hc.2 w _ vs (Kv hr) (by omega) fun j e u hj hu=>?_
 obtain⟨d,h3,h4⟩:=h2 j e hj
 exact h4 B g w u hr (cE j d u h3 hu)
theorem HC.frz {f:FuncId}{ds ds':List D}{r:D}(hc:aB P f ds' r)(ha:ARs hp ds ds')(hf:r.flat=true):HC P f ds hp r hp:=by
 refine⟨hc.1,fun B g w vs hr hsz cE=>(xI hc ha hr hsz cE).mono ?_⟩
 rintro e w' ⟨v,rfl,kS,hb⟩
 have M9:j5 w' (Fv hp g) r v:=by
  unfold sH at kS
  split at kS
  ·cases hf
  ·exact kS
 exact⟨v,g,rfl,hr.keep hb.size hb.block,bB.keep hp g hb.size hb.block,flat_to M9 hf hp g w',hb.mono hr.base,fun _ _ h=>h⟩
def E.isLit:E→Bool
 | .lit _=>true
 |_=>false
theorem HC.adopt {f:FuncId}{ds ds':List D}{e z n:Nat}{xs:List E}(hc:aB P f ds' (.own e z n xs))(ha:ARs hp ds ds')(hn:0<n)(hx:xs.all E.isLit=true):HC P f ds hp (.gw hp.next z n) (hp.var (dC xs)):=by
 refine⟨hc.1,fun B g w vs hr hsz cE=>(xI hc ha hr hsz cE).mono ?_⟩
 rintro en w' ⟨v,rfl,⟨hz,⟨us,ho⟩,kS⟩,hb⟩
 rcases ho.2 with⟨rfl,rfl⟩|⟨b,cap,cur,rfl,hB,hh,nJ,mQ,oW,M6⟩
 ·omega
 have zo:xs.length=n*z:=by cases kS with|sl _ _ _ _ _ _ hl=>exact hl
 have JE:=ho.1
 have hns:n*z≤cap*z:=cc _ nJ
 have mo:=bB.addVar hp g (dC xs) hb.size hb.block hB
 have t7:(g.var hp.next b).μ hp.next=b:=ao rfl
 have cells:∀(i:Nat) (u:Value),cur[i]? =some u→∀x,xs[i]? =some x→∃y,x=.lit y∧u=y∧y.oneCell'=true:=fun i u hu x hxi=>by
  have HZ:x.isLit=true:=b7.1 hx x (bO hxi)
  cases kS with
  |sl _ _ _ _ _ us2 _ _ _ _ hA BJ BG=>
   obtain⟨h5,_⟩:=BJ _ rfl i x hxi
   have h6:w'.cell? ((⟨b,0,none⟩:Addr).add i)=cur[i]? :=by rw[Addr.add_lit];simp[World.cell?,hh]
   rw[h6,hu] at h5
   injection h5 with h5
   have h7:=BG i x hxi
   rw[←h5] at h7
   cases x with
   |lit y=>cases h7 with|lit _ ho=>exact⟨_,rfl,rfl,ho⟩
   |_=>cases HZ
 refine⟨_,g.var hp.next b,rfl,hr.addVar (dC xs) hb.size hb.block hB cur e hh (by rw[fH,zo,oW];exact hns) (fun i u hu=>⟨fun hi=>?_,fun d hd=>?_⟩),mo,?_,hb.mono hr.base,fun p _ h=>.inl h⟩
 ·rw[fH] at hi
  obtain⟨y,_,rfl,h⟩:=cells i u hu xs[i] (eg hi)
  exact h
 ·unfold dC at hd
  rw[cF] at hd
  obtain⟨x,B3,rfl⟩:=nT.1 hd
  obtain⟨y,rfl,rfl,h⟩:=cells i u hu x B3
  exact .e _ _ (.lit _ h)
 ·have:=aM.gw (hp:=hp.var (dC xs)) (g:=g.var hp.next b) (w:=w') hp.next z n cap (cl _) nJ mQ ⟨cur,e,(0,0),by rw[t7];exact hh,by omega⟩
  rwa[t7] at this
end
end
section
section
variable {P:Program} {tb:TypeId→Option TyE} {md:Md} {hp hp':Hp} {d:D} {dst:Option Tmp} {ty:TypeId} {pos:String} {af:Array Edge} {gd:Option (Nat×Bool)} {ev:Operand→D}
theorem KO {x:Operand}{f:FuncId}{aS:List Operand}{ts:Array TypeId}{ds:List D}(uS:ev x=.e (.lit (.func (.func f) #[] #[])))(hc:HC P f ds hp d hp')(hd:aS.map ev=ds):np P ⟨dst,.call ⟨.value x,aS.toArray,ts⟩,ty,pos,af,gd⟩ ev hp d hp':=by
 intro B g w a Kn Q hr hx yp
 subst hd
 obtain⟨⟨fn,hf,hn,yu⟩,v4⟩:=hc
 have hv:=hx x (by simp[Op.operands,Call.operands])
 rw[uS] at hv
 have hv:=hv.lit
 have Aj:=v4 B g w (aS.map a.eval).toArray hr (by simp) (fun j d u hd hu=>by
  rw[cF] at hd
  obtain⟨y,hy,rfl⟩:=nT.1 hd
  have sx:(aS.map a.eval)[j]? =some u:=by simpa using hu
  rw[cF,hy] at sx
  injection sx with sx
  subst sx
  exact hx y (cd (by simpa using bO hy)))
 refine Ax (R:=fun v w'=>∃g',HR B hp' g' w'∧bB hp g w hp' g' w'∧aM hp' g' w' d v∧Below B w w'∧∀p:Addr,p.block<B→g.F p→g'.F p) ?_ (Aj.mono ?_) ?_
 ·have hn' : fn.name ≠ "runtime.NumGoroutine" := by simpa using hn
  have pJ:¬fn.body=none:=fun e=>by rw[e] at yu;cases yu
  have hcf:(callFunc f (aS.map a.eval).toArray).run P w=.ok (.enter f (aS.map a.eval).toArray) w:=by
   simp[callFunc,hf,hn',pJ]
  rw[←hcf]
  simp[execOp,resolve,invoke,Deferred.ofValue,hv]
 ·rintro e w' ⟨v,g',rfl,h1⟩
  exact⟨v,rfl,g',h1⟩
 ·rintro v w' ⟨g',h1,h2,h3,h4,h5⟩
  exact yp v g' w' h1 h2 h3 h4 h5
theorem opHF {x:Operand}{f:FuncId}{ks:List Nat}{aS:List Operand}{ts:Array TypeId}{ds:List D}(uS:ev x=.fn f ks)(hc:HC P f ds hp d hp')(hd:aS.map ev++ks.map (fun k=>D.pt k 0)=ds):np P ⟨dst,.call ⟨.value x,aS.toArray,ts⟩,ty,pos,af,gd⟩ ev hp d hp':=by
 intro B g w a Kn Q hr hx yp
 subst hd
 obtain⟨⟨fn,hf,hn,yu⟩,v4⟩:=hc
 have hv:=hx x (by simp[Op.operands,Call.operands])
 rw[uS] at hv
 generalize hu0:a.eval x=u0 at hv
 cases hv with
 |fn _ _ K4=>
 have Aj:=v4 B g w (aS.map a.eval++ks.map fun k=>Value.pointer (some ⟨g.μ k,0,none⟩)).toArray hr (by simp) (fun j d u hd hu=>by
  have sx:(aS.map a.eval++ks.map fun k=>Value.pointer (some ⟨g.μ k,0,none⟩))[j]? =some u:=by simpa using hu
  rcases bZ j aS.length with hj|hj
  ·rw[u3 (by simpa using hj),cF] at hd sx
   obtain⟨y,hy,rfl⟩:=nT.1 hd
   rw[hy] at sx
   injection sx with sx
   subst sx
   exact hx y (cd (by simpa using bO hy))
  ·rw[tr (by simpa using hj),cF] at hd sx
   obtain⟨k,hk,rfl⟩:=nT.1 hd
   simp only[bS] at hk sx
   rw[hk] at sx
   injection sx with sx
   subst sx
   exact .pt k 0 (K4 k (bO hk)))
 refine Ax (R:=fun v w'=>∃g',HR B hp' g' w'∧bB hp g w hp' g' w'∧aM hp' g' w' d v∧Below B w w'∧∀p:Addr,p.block<B→g.F p→g'.F p) ?_ (Aj.mono ?_) ?_
 ·have hn' : fn.name ≠ "runtime.NumGoroutine" := by simpa using hn
  have pJ:¬fn.body=none:=fun e=>by rw[e] at yu;cases yu
  have hcf:(callFunc f (aS.map a.eval++ks.map fun k=>Value.pointer (some ⟨g.μ k,0,none⟩)).toArray).run P w=.ok (.enter f (aS.map a.eval++ks.map fun k=>Value.pointer (some ⟨g.μ k,0,none⟩)).toArray) w:=by
   simp[callFunc,hf,hn',pJ]
  have qe:(aS.map a.eval++ks.map fun k=>Value.pointer (some ⟨g.μ k,0,none⟩)).toArray=aS.toArray.map a.eval++(ks.map fun k=>Value.pointer (some ⟨g.μ k,0,none⟩)).toArray:=by apply jt.1;simp
  rw[←hcf,qe]
  simp[execOp,resolve,invoke,Deferred.ofValue,hu0]
 ·rintro e w' ⟨v,g',rfl,h1⟩
  exact⟨v,rfl,g',h1⟩
 ·rintro v w' ⟨g',h1,h2,h3,h4,h5⟩
  exact yp v g' w' h1 h2 h3 h4 h5
theorem sndOf {c:Call}{x:Operand}(BJ:c.callee=.value x)(h:np P ⟨dst,.call c,ty,pos,af,gd⟩ ev hp d hp')(ND:hvB tb c=true∨Fr hp hp')(hn:md.nc tb (.call c)=true):lh P tb md ⟨dst,.call c,ty,pos,af,gd⟩ ev hp d hp':=by
 refine⟨h,fun hq=>?_,fun hv=>?_,fun h=>by cases h⟩
 ·exfalso
  cases md with
  |seq=>cases hq
  |any L=>
   have h1:((mb (.call c)&&!HE tb (.call c))||pN tb L (.call c))=true:=hq
   have h2:(!inL L (.call c))=true:=hn
   rw[u4] at h2
   have h2:=z8 (tb:=tb) h2
   rw[h2,Bool.or_false] at h1
   simp[mb,BJ] at h1
 ·rcases ND with h1|h1
  ·have h2:(hvB tb c||cpB tb c)=false:=Md.vr_C hn hv
   rw[h1] at h2;cases h2
  ·exact h1
theorem sndF {c:Call}{x:Operand}(BJ:c.callee=.value x)(h:np P ⟨dst,.call c,ty,pos,af,gd⟩ ev hp d hp')(hv:hvB tb c=true)(ND:Fr hp hp'):lh P tb md ⟨dst,.call c,ty,pos,af,gd⟩ ev hp d hp':=by
 refine⟨h,fun hq=>?_,fun _=>ND,fun h=>by cases h⟩
 exfalso
 cases md with
 |seq=>cases hq
 |any L=>
  have h1:((mb (.call c)&&!HE tb (.call c))||((match c.callee with| .value (.func f)=>L.elem f|_=>false)&&!hvB tb c))=true:=hq
  rw[hv] at h1
  simp[mb,BJ] at h1
theorem sHCf {x:Operand}{f:FuncId}{aS:List Operand}{ts:Array TypeId}{ds:List D}(hc:HC P f ds hp d hp')(hd:aS.map ev=ds)(ND:Fr hp hp')(uS:ev x=.e (.lit (.func (.func f) #[] #[])):=by exact rfl)(hv:hvB tb ⟨.value x,aS.toArray,ts⟩=true:=by exact rfl):
  lh P tb md ⟨dst,.call ⟨.value x,aS.toArray,ts⟩,ty,pos,af,gd⟩ ev hp d hp':=sndF rfl (KO uS hc hd) hv ND
theorem sHC {x:Operand}{f:FuncId}{aS:List Operand}{ts:Array TypeId}{ds:List D}(hc:HC P f ds hp d hp')(hd:aS.map ev=ds)(ND:hvB tb ⟨.value x,aS.toArray,ts⟩=true∨Fr hp hp')(uS:ev x=.e (.lit (.func (.func f) #[] #[])):=by exact rfl)(hn:md.nc tb (.call ⟨.value x,aS.toArray,ts⟩)=true:=by exact rfl):
  lh P tb md ⟨dst,.call ⟨.value x,aS.toArray,ts⟩,ty,pos,af,gd⟩ ev hp d hp':=sndOf rfl (KO uS hc hd) ND hn
theorem sHF {x:Operand}{f:FuncId}{ks:List Nat}{aS:List Operand}{ts:Array TypeId}{ds:List D}(hc:HC P f ds hp d hp')(hd:aS.map ev++ks.map (fun k=>D.pt k 0)=ds)(uS:ev x=.fn f ks:=by exact rfl)(ND:hvB tb ⟨.value x,aS.toArray,ts⟩=true:=by exact rfl)(hn:md.nc tb (.call ⟨.value x,aS.toArray,ts⟩)=true:=by exact rfl):
  lh P tb md ⟨dst,.call ⟨.value x,aS.toArray,ts⟩,ty,pos,af,gd⟩ ev hp d hp':=sndOf rfl (opHF uS hc hd) (.inl ND) hn
end
structure Pt(F:List D)(o:Nat)(bs:List D)(F':List D→List D):Prop where
 le:o+bs.length≤F.length
 g:(F.drop o).take bs.length=bs
 p:∀ys:List D,ys.length=bs.length→F.take o++ys++F.drop (o+bs.length)=F' ys
theorem Pt.of {F bs:List D}{o:Nat}{F':List D→List D}(A C:List D)(hA:A.length=o)(hF:F=A++bs++C)(hp:∀y,F' y=A++y++C):Pt F o bs F':=by
 subst hA hF
 refine⟨by simp only[eH];omega,?_,fun y hy=>?_⟩
 ·rw[dQ,qC,oC]
 ·rw[hp,dQ A bs C,oC,←oi,qC,qC]
section
variable {P:Program} {tb:TypeId→Option TyE} {dr:Bool} {ty:TypeId} {ev:Operand→D} {hp:Hp} {k o:Nat} {F bs:List D} {F':List D→List D} {t:TypeId} {i:TyE} {x y:Operand} {d:D}
theorem T_ldP(L:Pt F o bs F')(hv:hp.vars.lookup k=some F)(hk:k<hp.next)(ht:tb t=some i)(hz:bs.length=i.size)(hg:i.ty.agg=true:=by exact rfl)(hx:ev x=.pt k o:=by exact rfl):AVC P tb dr (.load t x) ty ev hp (Kq (.ag bs) hp):=by
 rw[qi,hx,mO,ht,hv]
 simp only[hg]
 refine⟨hk,by rw[←hz];exact L.le,?_⟩
 rw[←hz,L.g]
 exact Kq.here _ _
theorem T_ld1(L:Pt F o [d] F')(hv:hp.vars.lookup k=some F)(hk:k<hp.next)(ht:tb t=some i)(hg:i.ty.agg=false:=by exact rfl)(hx:ev x=.pt k o:=by exact rfl):AVC P tb dr (.load t x) ty ev hp (Kq d hp):=by
 rw[qi,hx,mO,ht,hv]
 simp only[hg]
 refine⟨hk,d,?_,Kq.here _ _⟩
 have h:=L.g
 have hle:=L.le
 have:((F.drop o).take 1)[0]? =some d:=by rw[show (1:Nat)=[d].length from rfl,h];rfl
 rw[gG,ifp_,oM,i6] at this
 exact this
theorem OS {ys F2:List D}{hp':Hp}(L:Pt F o bs F')(hv:hp.vars.lookup k=some F)(hyc:(ev y).cells=some ys)(ht:tb t=some i)(hz:bs.length=i.size)(hl:ys.length=bs.length)(h2:F' ys=F2)(hx:ev x=.pt k o:=by exact rfl)(he:hp.set k F2=hp':=by exact rfl):AVC P tb dr (.store t x y) ty ev hp (Kq .top hp'):=by
 subst he h2
 rw[AL,hx,wY,ht,hv,hyc]
 simp only
 refine⟨by omega,by rw[←hz];exact L.le,?_⟩
 rw[hl,L.p ys hl]
 exact Kq.here _ _
end
end
def D.ren2(ρ:Nat→Nat):D→D
 | .tu ds=>.tu (ds.map (D.ren ρ))
 |d=>d.ren ρ
end
end Go.Proofs.YtgfcnncojhkcoaaGreat
