/-
  Lemmas, part 4. Conditions: none.
-/
import Derived.Test.YtgfcnncojhkcoaaGreatU3
set_option linter.all false
set_option maxRecDepth 100000
set_option maxHeartbeats 4000000
namespace Go.Proofs.YtgfcnncojhkcoaaGreat
open Go.RowKit Go.IntKind Tryz
noncomputable section
structure ak where
 vN:aq
 vD:aq
 deriving Inhabited,DecidableEq
abbrev cu:ak:=⟨bx,bx⟩
def aj:Cd ak:=⟨36,fun x=>ap.f x.vN++ap.f x.vD,fun x=>by simp[ap.h,show ap.sz=18 from rfl]⟩
theorem c5(x:ak):an (aj.f x) ap 0 x.vN (fun y=>aj.f (⟨y,x.vD⟩:ak)):=
 an.of ([]) ((ap).f x.vD) (by first|rfl|(simp[ap.h];first|rfl|done)) (by first|rfl|simp[aj,cI,cB,cS,cL,dW]) (fun y=>by first|rfl|simp[aj,cI,cB,cS,cL,dW])
theorem cb(x:ak):an (aj.f x) ap 18 x.vD (fun y=>aj.f (⟨x.vN,y⟩:ak)):=
 an.of ((ap).f x.vN) ([]) (by first|rfl|(simp[ap.h];first|rfl|done)) (by first|rfl|simp[aj,cI,cB,cS,cL,dW]) (fun y=>by first|rfl|simp[aj,cI,cB,cS,cL,dW])
def Al(x:aq):List Value:=[Value.bool x.vBad]++([Value.bool x.vNeg]++((x.vW).toList.flatMap (fun x=>[Value.int .u32 x])++([])))
theorem fX:EqC tbl 3 32 ap Al:=by
 refine EqC.struct (fs:=[(0,4),(1,4),(2,30)]) az (fun x=>?_) (fun x=>by
  have q3:rQ tbl (mQ tbl 2) [] 18 []:=by unfold rQ;rfl
  have q2:=qu (off:=2) (x:=x.vW) (EqC.arr (EqC.int (d:=0) aH) aE aH) aE rfl q3
  have q1:=qu (off:=1) (x:=x.vNeg) (EqC.bool (d:=1) gp) gp rfl q2
  have q0:=qu (off:=0) (x:=x.vBad) (EqC.bool (d:=1) gp) gp rfl q1
  exact q0) ?_
 ·have:=And.intro (And.intro ((EqC.bool (d:=1) gp).hf x.vBad) (And.intro ((EqC.bool (d:=1) gp).hf x.vNeg) (And.intro ((EqC.arr (EqC.int (d:=0) aH) aE aH).hf x.vW) (True.intro)))) True.intro
  simp only[Al,ap,nd,dT,tX,dW]
  all_goals (first|rfl|(simp only[←(EqC.bool (d:=1) gp).hf,←(EqC.bool (d:=1) gp).hf,←(EqC.arr (EqC.int (d:=0) aH) aE aH).hf];try (first|rfl|simp[cI,cB])))
 ·skip
  intro x y h
  unfold Al at h
  obtain⟨e0,h⟩:=yy h (by rw[(EqC.bool (d:=1) gp).len,(EqC.bool (d:=1) gp).len])
  obtain⟨e1,h⟩:=yy h (by rw[(EqC.bool (d:=1) gp).len,(EqC.bool (d:=1) gp).len])
  obtain⟨e2,h⟩:=yy h (by rw[(EqC.arr (EqC.int (d:=0) aH) aE aH).len,(EqC.arr (EqC.int (d:=0) aH) aE aH).len])
  cases x;cases y
  simp only[aq.mk.injEq]
  exact⟨((EqC.bool (d:=1) gp).inj _ _).1 e0,((EqC.bool (d:=1) gp).inj _ _).1 e1,((EqC.arr (EqC.int (d:=0) aH) aE aH).inj _ _).1 e2⟩
def HS(x:ak):List Value:=Al x.vN++(Al x.vD++([]))
theorem rR:EqC tbl 4 34 aj HS:=by
 refine EqC.struct (fs:=[(0,32),(18,32)]) aD (fun x=>?_) (fun x=>by
  have q2:rQ tbl (mQ tbl 3) [] 36 []:=by unfold rQ;rfl
  have q1:=qu (off:=18) (x:=x.vD) fX az rfl q2
  have q0:=qu (off:=0) (x:=x.vN) fX az rfl q1
  exact q0) ?_
 ·have:=And.intro (And.intro (fX.hf x.vN) (And.intro (fX.hf x.vD) (True.intro))) True.intro
  simp only[HS,aj,nd,dT,tX,dW]
  all_goals (first|rfl|(simp only[←fX.hf,←fX.hf];try (first|rfl|simp[cI,cB])))
 ·skip
  intro x y h
  unfold HS at h
  obtain⟨e0,h⟩:=yy h (by rw[fX.len,fX.len])
  obtain⟨e1,h⟩:=yy h (by rw[fX.len,fX.len])
  cases x;cases y
  simp only[ak.mk.injEq]
  exact⟨(fX.inj _ _).1 e0,(fX.inj _ _).1 e1⟩
def iC(bj:aq):Option Bool:=bnd (S:=Bool) (cnd (!bj.vBad) (bnd (kD bj) fun x2=>some (x2)) (some (false))) fun j4=>some j4
theorem pR {bj:aq}{r:Bool}(h:iC bj=some r):aB prog 91 [dG ap bj] (dB r):=by
 refine bL (rs:=[.tmp 2]) (fun cx hx h0=>?_) func91
 unfold iC at h
 refine ra hx ?_
 refine AW.seq ?_
 obtain⟨j4,hy,h⟩:=ah h
 refine jn ((PE cx .normal (fun j4=>[(2,dB j4)]) fun j4=>⟨[],[],0⟩) j4) ?_ ?_
 replace h:=hy
 refine rq hx fun K hK=>?_
 refine sa ?_
 refine s1 (a8 (iq bj) gp) ?_
 iterate 2 refine sa ?_
 rcases aZ (!bj.vBad) with cE|cE
 replace h:=a3 cE h
 refine g1 (d:=dG ap bj) cE (aF (an.id _ _) az) ?_
 obtain⟨x2,Nv,h⟩:=ah h
 refine g1 cE (dP rfl (uJ Nv) (by simp only[cD,dT,jZ,gj,eh,eC];exact bn _ _) (lA (eK _ _) lAn) (.inl rfl)) ?_
 refine s1 (al cE) ?_
 refine sa ?_
 refine .nil (hK _ _ ?_)
 cases h
 exact pe0 h0 []
 replace h:=a4 cE h
 iterate 2 refine aI rfl rfl cE ?_
 refine s1 (au cE) ?_
 refine sa ?_
 refine .nil (hK _ _ ?_)
 cases h
 exact pe0 h0 []
 rintro ex tm' hp' ⟨rfl,hw⟩
 refine AW.weak hw (AW.ret ?_)
 cases h
 exact rv1
def lJ :Option aq:=bnd (eN (1:Int)) fun x1=>some x1
theorem tz  {r:aq}(h:lJ=some r):aB prog 94 [] (dG ap r):=by
 refine bL (rs:=[.cell 0 32]) (fun cx hx h0=>?_) func94
 unfold lJ at h
 refine rs hx fun K hK=>?_
 refine s1 (bo (F:=ap.f bx) az) ?_
 refine .nil (hK _ _ (rs hx fun K hK=>?_))
 refine scb h mL fun x1 h=>?_
 refine s0 (aO (b':=x1) (an.id _ _) az) ?_
 refine .nil (hK _ _ (AW.ret ?_))
 cases h
 exact rv1
def bN(bj:ak):Option Bool:=bnd (S:=Bool) (bnd (iC bj.vN) fun x1=>cnd x1 (bnd (iC bj.vD) fun x4=>cnd x4 (bnd (gr bj.vD) fun x7=>cnd (decide ((0:Int)<x7)) (bnd (m7 bj.vN bj.vD) fun nl=>bnd (lJ) fun jG=>some (decide (nl=jG))) (some (false))) (some (false))) (some (false))) fun j4=>some j4
theorem eM {bj:ak}{r:Bool}(h:bN bj=some r):aB prog 41 [dG aj bj] (dB r):=by
 refine bL (rs:=[.tmp 2]) (fun cx hx h0=>?_) func41
 unfold bN at h
 refine ra hx ?_
 refine AW.seq ?_
 obtain⟨j4,hy,h⟩:=ah h
 refine jn ((PE cx .normal (fun j4=>[(2,dB j4)]) fun j4=>⟨[],[],0⟩) j4) ?_ ?_
 replace h:=hy
 refine rq hx fun K hK=>?_
 refine sa ?_
 refine s1 (aF (c5 bj) az) ?_
 refine scb h pR fun x1 h=>?_
 refine sa ?_
 rcases aZ x1 with bm|bm
 replace h:=a3 bm h
 refine ga bm ?_
 refine g1 bm (aF (cb bj) az) ?_
 obtain⟨x4,vu,h⟩:=ah h
 refine g1 bm (dP rfl (pR vu) (by simp only[cD,dT,jZ,gj,eh,eC];exact bn _ _) (lA (eK _ _) lAn) (.inl rfl)) ?_
 refine s1 (al bm) ?_
 refine sa ?_
 rcases aZ x4 with dy|dy
 replace h:=a3 dy h
 refine ga dy ?_
 refine g1 dy (aF (cb bj) az) ?_
 obtain⟨x7,xZ,h⟩:=ah h
 refine g1 dy (dP rfl (np xZ) (by simp only[cD,dT,jZ,gj,eh,eC];exact bn _ _) (lA (eK _ _) lAn) (.inl rfl)) ?_
 refine ga dy ?_
 refine s1 (al dy) ?_
 refine sa ?_
 rcases aZ (decide ((0:Int)<x7)) with wP|wP
 replace h:=a3 wP h
 refine ga wP ?_
 refine g1 wP (aF (c5 bj) az) ?_
 refine ga wP ?_
 refine g1 wP (aF (cb bj) az) ?_
 obtain⟨nl,wK,h⟩:=ah h
 refine g1 wP (dP rfl (tw wK) (by simp only[cD,dT,jZ,gj,eh,eC];exact⟨bn _ _,bn _ _⟩) (lA (eK _ _) (lA (eK _ _) lAn)) (.inl (jf _ _))) ?_
 obtain⟨jG,vw,h⟩:=ah h
 refine g1 wP (dP rfl (tz vw) rfl lAn (.inl (jf _ _))) ?_
 refine g1 wP (v3 tok 3 (by decide) fX az) ?_
 refine s1 (al wP) ?_
 refine sa ?_
 refine .nil (hK _ _ ?_)
 cases h
 exact pe0 h0 []
 replace h:=a4 wP h
 iterate 7 refine aI rfl rfl wP ?_
 refine s1 (au wP) ?_
 refine sa ?_
 refine .nil (hK _ _ ?_)
 cases h
 exact pe0 h0 []
 replace h:=a4 dy h
 iterate 4 refine aI rfl rfl dy ?_
 refine s1 (au dy) ?_
 refine sa ?_
 iterate 7 refine aI rfl rfl rfl ?_
 refine s1 (au rfl) ?_
 refine sa ?_
 refine .nil (hK _ _ ?_)
 cases h
 exact pe0 h0 []
 replace h:=a4 bm h
 iterate 3 refine aI rfl rfl bm ?_
 refine s1 (au bm) ?_
 refine sa ?_
 iterate 4 refine aI rfl rfl rfl ?_
 refine s1 (au rfl) ?_
 refine sa ?_
 iterate 7 refine aI rfl rfl rfl ?_
 refine s1 (au rfl) ?_
 refine sa ?_
 refine .nil (hK _ _ ?_)
 cases h
 exact pe0 h0 []
 rintro ex tm' hp' ⟨rfl,hw⟩
 refine AW.weak hw (AW.ret ?_)
 cases h
 exact rv1
def fb :Option ak:=bnd (dY) fun x1=>bnd (lJ) fun x3=>some (⟨x1,x3⟩:ak)
theorem lq  {r:ak}(h:fb=some r):aB prog 65 [] (dG aj r):=by
 refine bL (rs:=[.cell 0 34]) (fun cx hx h0=>?_) func65
 unfold fb at h
 refine rs hx fun K hK=>?_
 refine s1 (bo (F:=aj.f cu) aD) ?_
 refine .nil (hK _ _ (rs hx fun K hK=>?_))
 refine scb h gz fun x1 h=>?_
 refine scb h tz fun x3 h=>?_
 refine s1 (d:=dG aj (⟨x1,x3⟩:ak)) (jF (FL.cons (y:=x1) (c5 cu) rfl rfl (FL.cons (y:=x3) (cb (⟨x1,bx⟩:ak)) rfl rfl (FL.nil _))) aD) ?_
 refine s0 (aO (b':=(⟨x1,x3⟩:ak)) (an.id _ _) aD) ?_
 refine .nil (hK _ _ (AW.ret ?_))
 cases h
 exact rv1
def cz(db:aq)(Ay:aq):Option ak:=bnd (S:=Bool) (bnd (iC db) fun x1=>cnd (!x1) (some (true)) (bnd (iC Ay) fun x4=>cnd (!x4) (some (true)) (bnd (gr Ay) fun x7=>some (decide (x7=(0:Int)))))) fun bB=>cnd bB (bnd (fb) fun s8=>some s8) (bnd (m7 db Ay) fun qN=>bnd (S:=aq) (bnd (gr Ay) fun uG=>cnd (decide (uG<(0:Int))) (bnd (lH qN) fun oa=>some (oa)) (some (qN))) fun gZ=>bnd (jJ db gZ) fun B9=>bnd (jJ Ay gZ) fun Fp=>some (⟨B9,Fp⟩:ak))
theorem im {db:aq}{Ay:aq}{r:ak}(h:cz db Ay=some r):aB prog 89 [dG ap db,dG ap Ay] (dG aj r):=by
 refine bL (rs:=[.cell 4 34]) (fun cx hx h0=>?_) func89
 unfold cz at h
 refine rs hx fun K hK=>?_
 iterate 2 refine sa ?_
 refine s1 (bo (F:=aj.f cu) aD) ?_
 refine .nil (hK _ _ ?_)
 iterate 2 refine AW.seq ?_
 obtain⟨bB,hy,h⟩:=ah h
 refine jn ((PE cx .normal (fun bB=>[(2,.pt 0 0),(3,.pt 1 0),(4,.pt 2 0),(18,dB bB)]) fun bB=>⟨[(0,dC (ap.f db)),(1,dC (ap.f Ay)),(2,dC (aj.f cu))],[],3⟩) bB) ?_ ?_
 replace h:=hy
 refine rq hx fun K hK=>?_
 refine s1 (d:=dG ap db) (aF (an.id _ _) az) ?_
 refine scb h pR fun x1 h=>?_
 iterate 2 refine sa ?_
 rcases aZ (!x1) with bm|bm
 replace h:=a3 bm h
 iterate 3 refine aI rfl rfl bm ?_
 refine s1 (al bm) ?_
 refine sa ?_
 iterate 3 refine aI rfl rfl rfl ?_
 refine s1 (al rfl) ?_
 refine .nil (hK _ _ ?_)
 cases h
 exact pe0 h0 [0,1,2]
 replace h:=a4 bm h
 refine g1 (d:=dG ap Ay) bm (aF (an.id _ _) az) ?_
 obtain⟨x4,vu,h⟩:=ah h
 refine g1 bm (dP rfl (pR vu) (by simp only[cD,dT,jZ,gj,eh,eC];exact bn _ _) (lA (eK _ _) lAn) (.inl rfl)) ?_
 refine ga bm ?_
 refine s1 (au bm) ?_
 refine sa ?_
 rcases aZ (!x4) with dy|dy
 replace h:=a3 dy h
 iterate 3 refine aI rfl rfl dy ?_
 refine s1 (al dy) ?_
 refine .nil (hK _ _ ?_)
 cases h
 exact pe0 h0 [0,1,2]
 replace h:=a4 dy h
 refine g1 (d:=dG ap Ay) dy (aF (an.id _ _) az) ?_
 obtain⟨x7,xZ,h⟩:=ah h
 refine g1 dy (dP rfl (np xZ) (by simp only[cD,dT,jZ,gj,eh,eC];exact bn _ _) (lA (eK _ _) lAn) (.inl rfl)) ?_
 refine ga dy ?_
 refine s1 (au dy) ?_
 refine .nil (hK _ _ ?_)
 cases h
 exact pe0 h0 [0,1,2]
 rintro ex tm' hp' ⟨rfl,hw⟩
 refine AW.weak hw (cdh h rfl (fun fh h=>?_) (fun fh h=>?_))
 refine rs hx fun K hK=>?_
 refine scb h lq fun s8 h=>?_
 refine s0 (aO (b':=s8) (an.id _ _) aD) ?_
 refine .nil (hK _ _ (AW.ret ?_))
 cases h
 exact rv1
 refine AW.skip (rs hx fun K hK=>?_)
 refine s1 (d:=dG ap db) (aF (an.id _ _) az) ?_
 refine s1 (d:=dG ap Ay) (aF (an.id _ _) az) ?_
 refine scb h tw fun qN h=>?_
 refine s1 (bo (F:=ap.f bx) az) ?_
 refine s0 (aO (b':=qN) (an.id _ _) az) ?_
 refine .nil (hK _ _ (AW.seq ?_))
 obtain⟨gZ,hy,h⟩:=ah h
 refine jn ((PE cx .normal (fun gZ=>[(2,.pt 0 0),(3,.pt 1 0),(4,.pt 2 0),(5,.pt 3 0)]) fun gZ=>⟨[(0,dC (ap.f db)),(1,dC (ap.f Ay)),(2,dC (aj.f cu)),(3,dC (ap.f gZ))],[],4⟩) gZ) ?_ ?_
 replace h:=hy
 refine rs hx fun K hK=>?_
 refine s1 (d:=dG ap Ay) (aF (an.id _ _) az) ?_
 refine scb h np fun uG h=>?_
 refine sa ?_
 refine .nil (hK _ _ (cdh h rfl (fun yj h=>?_) (fun yj h=>?_)))
 refine rq hx fun K hK=>?_
 refine s1 (d:=dG ap qN) (aF (an.id _ _) az) ?_
 refine scb h tv fun oa h=>?_
 refine s0 (aO (b':=oa) (an.id _ _) az) ?_
 refine .nil (hK _ _ ?_)
 cases h
 exact pe0 h0 [0,1,2,3]
 refine AW.skip ?_
 cases h
 exact pe0 h0 [0,1,2,3]
 rintro ex tm' hp' ⟨rfl,hw⟩
 refine AW.weak hw (rsd [126] hx fun K hK=>?_)
 refine s1 (d:=dG ap db) (aF (an.id _ _) az) ?_
 refine s1 (d:=dG ap gZ) (aF (an.id _ _) az) ?_
 refine cqb h m4 fun B9 h=>?_
 refine s1 (d:=dG ap Ay) (aF (an.id _ _) az) ?_
 refine s1 (d:=dG ap gZ) (aF (an.id _ _) az) ?_
 refine cqb h m4 fun Fp h=>?_
 refine s1 (d:=dG aj (⟨B9,Fp⟩:ak)) (jF (FL.cons (y:=B9) (c5 cu) rfl rfl (FL.cons (y:=Fp) (cb (⟨B9,bx⟩:ak)) rfl rfl (FL.nil _))) aD) ?_
 refine s0 (aO (b':=(⟨B9,Fp⟩:ak)) (an.id _ _) aD) ?_
 refine .nil (hK _ _ (AW.ret ?_))
 cases h
 exact rv1
def fM(bj:ak)(n0:ak):Option ak:=bnd (S:=Bool) (bnd (bN bj) fun x1=>cnd (!x1) (some (true)) (bnd (bN n0) fun x4=>some (!x4))) fun bB=>cnd bB (bnd (fb) fun x8=>some x8) (bnd (m7 bj.vD n0.vD) fun nl=>bnd (jJ bj.vD nl) fun jG=>bnd (jJ n0.vD nl) fun pF=>bnd (ix bj.vN pF) fun tp=>bnd (ix n0.vN jG) fun oa=>bnd (iy tp oa) fun xq=>bnd (ix jG n0.vD) fun oL=>bnd (cz xq oL) fun HN=>some HN)
theorem tA {bj:ak}{n0:ak}{r:ak}(h:fM bj n0=some r):aB prog 85 [dG aj bj,dG aj n0] (dG aj r):=by
 refine bL (rs:=[.cell 4 34]) (fun cx hx h0=>?_) func85
 unfold fM at h
 refine rs hx fun K hK=>?_
 iterate 2 refine sa ?_
 refine s1 (bo (F:=aj.f cu) aD) ?_
 refine .nil (hK _ _ ?_)
 iterate 2 refine AW.seq ?_
 obtain⟨bB,hy,h⟩:=ah h
 refine jn ((PE cx .normal (fun bB=>[(2,.pt 0 0),(3,.pt 1 0),(4,.pt 2 0),(15,dB bB)]) fun bB=>⟨[(0,dC (aj.f bj)),(1,dC (aj.f n0)),(2,dC (aj.f cu))],[],3⟩) bB) ?_ ?_
 replace h:=hy
 refine rq hx fun K hK=>?_
 refine s1 (d:=dG aj bj) (aF (an.id _ _) aD) ?_
 refine scb h eM fun x1 h=>?_
 iterate 2 refine sa ?_
 rcases aZ (!x1) with bm|bm
 replace h:=a3 bm h
 iterate 3 refine aI rfl rfl bm ?_
 refine s1 (al bm) ?_
 refine .nil (hK _ _ ?_)
 cases h
 exact pe0 h0 [0,1,2]
 replace h:=a4 bm h
 refine g1 (d:=dG aj n0) bm (aF (an.id _ _) aD) ?_
 obtain⟨x4,vu,h⟩:=ah h
 refine g1 bm (dP rfl (eM vu) (by simp only[cD,dT,jZ,gj,eh,eC];exact bn _ _) (lA (eK _ _) lAn) (.inl rfl)) ?_
 refine ga bm ?_
 refine s1 (au bm) ?_
 refine .nil (hK _ _ ?_)
 cases h
 exact pe0 h0 [0,1,2]
 rintro ex tm' hp' ⟨rfl,hw⟩
 refine AW.weak hw (cdh h rfl (fun tg h=>?_) (fun tg h=>?_))
 refine rs hx fun K hK=>?_
 refine scb h lq fun x8 h=>?_
 refine s0 (aO (b':=x8) (an.id _ _) aD) ?_
 refine .nil (hK _ _ (AW.ret ?_))
 cases h
 exact rv1
 refine AW.skip (rs hx fun K hK=>?_)
 refine sa ?_
 refine s1 (aF (cb bj) az) ?_
 refine sa ?_
 refine s1 (aF (cb n0) az) ?_
 refine scb h tw fun nl h=>?_
 refine s1 (bo (F:=ap.f bx) az) ?_
 refine s0 (aO (b':=nl) (an.id _ _) az) ?_
 refine .nil (hK _ _ (AW.seq ?_))
 obtain⟨jG,vw,h⟩:=ah h
 obtain⟨pF,yd,h⟩:=ah h
 refine jn (PE cx .normal (fun (_:Unit)=>[(2,.pt 0 0),(3,.pt 1 0),(4,.pt 2 0),(6,.pt 3 0),(7,.pt 4 0)]) (fun (_:Unit)=>⟨[(0,dC (aj.f bj)),(1,dC (aj.f n0)),(2,dC (aj.f cu)),(3,dC (ap.f jG)),(4,dC (ap.f pF))],[],5⟩) ()) ?_ ?_
 refine dw (DW.split 8 9 (by decide) ?_ ?_)
 refine dwg [126] [0,1,2,3,4,5,6,7,8,9,10,11] hx (by kernel_rfl) (by kernel_rfl) (by kernel_rfl) fun K hK=>?_
 dsimp only[d8,nj,nA,List.map]
 refine sa ?_
 refine s1 (aF (cb bj) az) ?_
 refine s1 (d:=dG ap nl) (aF (an.id _ _) az) ?_
 refine cq (m4 vw) ?_
 refine sa ?_
 refine s1 (aF (cb n0) az) ?_
 refine s1 (d:=dG ap nl) (aF (an.id _ _) az) ?_
 refine cq (m4 yd) ?_
 iterate 2 refine s1 (bo (F:=ap.f bx) az) ?_
 refine s0 (aO (b':=jG) (an.id _ _) az) ?_
 refine s0 (aO (b':=pF) (an.id _ _) az) ?_
 exact .nil (hK _ _ (pe0 h0 [0,1,2,4,5]))
 refine dwg [126] [0,1,2,3,4,5,6,7,9,8,10,11] hx (by kernel_rfl) (by kernel_rfl) (by kernel_rfl) fun K hK=>?_
 dsimp only[d8,nj,nA,List.map]
 refine sa ?_
 refine s1 (aF (cb bj) az) ?_
 refine s1 (d:=dG ap nl) (aF (an.id _ _) az) ?_
 refine cq (m4 vw) ?_
 refine sa ?_
 refine s1 (aF (cb n0) az) ?_
 refine s1 (d:=dG ap nl) (aF (an.id _ _) az) ?_
 refine cq (m4 yd) ?_
 iterate 2 refine s1 (bo (F:=ap.f bx) az) ?_
 refine s0 (aO (b':=jG) (an.id _ _) az) ?_
 refine s0 (aO (b':=pF) (an.id _ _) az) ?_
 exact .nil (hK _ _ (pe0 h0 [0,1,2,5,4]))
 rintro ex tm' hp' ⟨rfl,hw⟩
 refine AW.weak hw (rsd [90,127,89] hx fun K hK=>?_)
 refine sa ?_
 refine s1 (aF (c5 bj) az) ?_
 refine s1 (d:=dG ap pF) (aF (an.id _ _) az) ?_
 refine cqb h lm fun tp h=>?_
 refine sa ?_
 refine s1 (aF (c5 n0) az) ?_
 refine s1 (d:=dG ap jG) (aF (an.id _ _) az) ?_
 refine cqb h lm fun oa h=>?_
 refine cqb h yV fun xq h=>?_
 refine s1 (d:=dG ap jG) (aF (an.id _ _) az) ?_
 refine sa ?_
 refine s1 (aF (cb n0) az) ?_
 refine cqb h lm fun oL h=>?_
 refine cqb h im fun HN h=>?_
 refine s0 (aO (b':=HN) (an.id _ _) aD) ?_
 refine .nil (hK _ _ (AW.ret ?_))
 cases h
 exact rv1
def dZ(bj:ak)(n0:ak):Option ak:=bnd (S:=Bool) (bnd (bN bj) fun x1=>cnd (!x1) (some (true)) (bnd (bN n0) fun x4=>some (!x4))) fun bB=>cnd bB (bnd (fb) fun x8=>some x8) (bnd (cz bj.vN n0.vD) fun nl=>bnd (cz n0.vN bj.vD) fun jG=>bnd (ix nl.vN jG.vN) fun pF=>bnd (ix nl.vD jG.vD) fun tp=>bnd (S:=Bool) (cnd pF.vBad (some (true)) (some (tp.vBad))) fun cQ=>cnd cQ (bnd (fb) fun B9=>some B9) (some (⟨pF,tp⟩:ak)))
theorem oS {bj:ak}{n0:ak}{r:ak}(h:dZ bj n0=some r):aB prog 40 [dG aj bj,dG aj n0] (dG aj r):=by
 refine bL (rs:=[.cell 4 34]) (fun cx hx h0=>?_) func40
 unfold dZ at h
 refine rs hx fun K hK=>?_
 iterate 2 refine sa ?_
 refine s1 (bo (F:=aj.f cu) aD) ?_
 refine .nil (hK _ _ ?_)
 iterate 2 refine AW.seq ?_
 obtain⟨bB,hy,h⟩:=ah h
 refine jn ((PE cx .normal (fun bB=>[(2,.pt 0 0),(3,.pt 1 0),(4,.pt 2 0),(16,dB bB)]) fun bB=>⟨[(0,dC (aj.f bj)),(1,dC (aj.f n0)),(2,dC (aj.f cu))],[],3⟩) bB) ?_ ?_
 replace h:=hy
 refine rq hx fun K hK=>?_
 refine s1 (d:=dG aj bj) (aF (an.id _ _) aD) ?_
 refine scb h eM fun x1 h=>?_
 iterate 2 refine sa ?_
 rcases aZ (!x1) with bm|bm
 replace h:=a3 bm h
 iterate 3 refine aI rfl rfl bm ?_
 refine s1 (al bm) ?_
 refine .nil (hK _ _ ?_)
 cases h
 exact pe0 h0 [0,1,2]
 replace h:=a4 bm h
 refine g1 (d:=dG aj n0) bm (aF (an.id _ _) aD) ?_
 obtain⟨x4,vu,h⟩:=ah h
 refine g1 bm (dP rfl (eM vu) (by simp only[cD,dT,jZ,gj,eh,eC];exact bn _ _) (lA (eK _ _) lAn) (.inl rfl)) ?_
 refine ga bm ?_
 refine s1 (au bm) ?_
 refine .nil (hK _ _ ?_)
 cases h
 exact pe0 h0 [0,1,2]
 rintro ex tm' hp' ⟨rfl,hw⟩
 refine AW.weak hw (cdh h rfl (fun tg h=>?_) (fun tg h=>?_))
 refine rs hx fun K hK=>?_
 refine scb h lq fun x8 h=>?_
 refine s0 (aO (b':=x8) (an.id _ _) aD) ?_
 refine .nil (hK _ _ (AW.ret ?_))
 cases h
 exact rv1
 refine AW.skip (AW.seq ?_)
 obtain⟨nl,wK,h⟩:=ah h
 obtain⟨jG,vw,h⟩:=ah h
 refine jn (PE cx .normal (fun (_:Unit)=>[(4,.pt 0 0),(5,.pt 1 0),(6,.pt 2 0)]) (fun (_:Unit)=>⟨[(0,dC (aj.f cu)),(1,dC (aj.f nl)),(2,dC (aj.f jG))],[],3⟩) ()) ?_ ?_
 refine dw (DW.split 10 11 (by decide) ?_ ?_)
 refine dwg [89] [0,1,2,3,4,5,6,7,8,9,10,11,12,13] hx (by kernel_rfl) (by kernel_rfl) (by kernel_rfl) fun K hK=>?_
 dsimp only[d8,nj,nA,List.map]
 refine sa ?_
 refine s1 (aF (c5 bj) az) ?_
 refine sa ?_
 refine s1 (aF (cb n0) az) ?_
 refine cq (im wK) ?_
 refine sa ?_
 refine s1 (aF (c5 n0) az) ?_
 refine sa ?_
 refine s1 (aF (cb bj) az) ?_
 refine cq (im vw) ?_
 iterate 2 refine s1 (bo (F:=aj.f cu) aD) ?_
 refine s0 (aO (b':=nl) (an.id _ _) aD) ?_
 refine s0 (aO (b':=jG) (an.id _ _) aD) ?_
 exact .nil (hK _ _ (pe0 h0 [2,3,4]))
 refine dwg [89] [0,1,2,3,4,5,6,7,8,9,11,10,12,13] hx (by kernel_rfl) (by kernel_rfl) (by kernel_rfl) fun K hK=>?_
 dsimp only[d8,nj,nA,List.map]
 refine sa ?_
 refine s1 (aF (c5 bj) az) ?_
 refine sa ?_
 refine s1 (aF (cb n0) az) ?_
 refine cq (im wK) ?_
 refine sa ?_
 refine s1 (aF (c5 n0) az) ?_
 refine sa ?_
 refine s1 (aF (cb bj) az) ?_
 refine cq (im vw) ?_
 iterate 2 refine s1 (bo (F:=aj.f cu) aD) ?_
 refine s0 (aO (b':=nl) (an.id _ _) aD) ?_
 refine s0 (aO (b':=jG) (an.id _ _) aD) ?_
 exact .nil (hK _ _ (pe0 h0 [2,4,3]))
 rintro ex tm' hp' ⟨rfl,hw⟩
 refine AW.weak hw (AW.seq ?_)
 obtain⟨pF,yd,h⟩:=ah h
 obtain⟨tp,hx17,h⟩:=ah h
 refine jn (PE cx .normal (fun (_:Unit)=>[(4,.pt 0 0),(7,.pt 1 0),(8,.pt 2 0)]) (fun (_:Unit)=>⟨[(0,dC (aj.f cu)),(1,dC (ap.f pF)),(2,dC (ap.f tp))],[],3⟩) ()) ?_ ?_
 refine dw (DW.split 10 11 (by decide) ?_ ?_)
 refine dwg [90] [0,1,2,3,4,5,6,7,8,9,10,11,12,13] hx (by kernel_rfl) (by kernel_rfl) (by kernel_rfl) fun K hK=>?_
 dsimp only[d8,nj,nA,List.map]
 refine sa ?_
 refine s1 (aF (c5 nl) az) ?_
 refine sa ?_
 refine s1 (aF (c5 jG) az) ?_
 refine cq (lm yd) ?_
 refine sa ?_
 refine s1 (aF (cb nl) az) ?_
 refine sa ?_
 refine s1 (aF (cb jG) az) ?_
 refine cq (lm hx17) ?_
 iterate 2 refine s1 (bo (F:=ap.f bx) az) ?_
 refine s0 (aO (b':=pF) (an.id _ _) az) ?_
 refine s0 (aO (b':=tp) (an.id _ _) az) ?_
 exact .nil (hK _ _ (pe0 h0 [0,3,4]))
 refine dwg [90] [0,1,2,3,4,5,6,7,8,9,11,10,12,13] hx (by kernel_rfl) (by kernel_rfl) (by kernel_rfl) fun K hK=>?_
 dsimp only[d8,nj,nA,List.map]
 refine sa ?_
 refine s1 (aF (c5 nl) az) ?_
 refine sa ?_
 refine s1 (aF (c5 jG) az) ?_
 refine cq (lm yd) ?_
 refine sa ?_
 refine s1 (aF (cb nl) az) ?_
 refine sa ?_
 refine s1 (aF (cb jG) az) ?_
 refine cq (lm hx17) ?_
 iterate 2 refine s1 (bo (F:=ap.f bx) az) ?_
 refine s0 (aO (b':=pF) (an.id _ _) az) ?_
 refine s0 (aO (b':=tp) (an.id _ _) az) ?_
 exact .nil (hK _ _ (pe0 h0 [0,4,3]))
 rintro ex tm' hp' ⟨rfl,hw⟩
 refine AW.weak hw ?_
 iterate 2 refine AW.seq ?_
 obtain⟨cQ,hy,h⟩:=ah h
 refine jn ((PE cx .normal (fun cQ=>[(4,.pt 0 0),(7,.pt 1 0),(8,.pt 2 0),(43,dB cQ)]) fun cQ=>⟨[(0,dC (aj.f cu)),(1,dC (ap.f pF)),(2,dC (ap.f tp))],[],3⟩) cQ) ?_ ?_
 replace h:=hy
 refine rq hx fun K hK=>?_
 refine sa ?_
 refine s1 (a8 (iq pF) gp) ?_
 refine sa ?_
 rcases aZ pF.vBad with GO|GO
 replace h:=a3 GO h
 iterate 2 refine aI rfl rfl GO ?_
 refine s1 (al GO) ?_
 refine .nil (hK _ _ ?_)
 cases h
 exact pe0 h0 [0,1,2]
 replace h:=a4 GO h
 refine ga GO ?_
 refine g1 GO (a8 (iq tp) gp) ?_
 refine s1 (au GO) ?_
 refine .nil (hK _ _ ?_)
 cases h
 exact pe0 h0 [0,1,2]
 rintro ex tm' hp' ⟨rfl,hw⟩
 refine AW.weak hw (cdh h rfl (fun vB h=>?_) (fun vB h=>?_))
 refine rs hx fun K hK=>?_
 refine scb h lq fun B9 h=>?_
 refine s0 (aO (b':=B9) (an.id _ _) aD) ?_
 refine .nil (hK _ _ (AW.ret ?_))
 cases h
 exact rv1
 refine AW.skip (rs hx fun K hK=>?_)
 refine s1 (d:=dG ap pF) (aF (an.id _ _) az) ?_
 refine s1 (d:=dG ap tp) (aF (an.id _ _) az) ?_
 refine s1 (d:=dG aj (⟨pF,tp⟩:ak)) (jF (FL.cons (y:=pF) (c5 cu) rfl rfl (FL.cons (y:=tp) (cb (⟨pF,bx⟩:ak)) rfl rfl (FL.nil _))) aD) ?_
 refine s0 (aO (b':=(⟨pF,tp⟩:ak)) (an.id _ _) aD) ?_
 refine .nil (hK _ _ (AW.ret ?_))
 cases h
 exact rv1
def qW(bj:ak)(n0:ak):Option ak:=bnd (bN n0) fun x1=>cnd (!x1) (bnd (fb) fun x4=>some x4) (bnd (cz n0.vD n0.vN) fun x6=>bnd (dZ bj x6) fun x8=>some x8)
theorem FK {bj:ak}{n0:ak}{r:ak}(h:qW bj n0=some r):aB prog 144 [dG aj bj,dG aj n0] (dG aj r):=by
 refine bL (rs:=[.cell 4 34]) (fun cx hx h0=>?_) func144
 unfold qW at h
 refine rs hx fun K hK=>?_
 iterate 2 refine sa ?_
 refine s1 (bo (F:=aj.f cu) aD) ?_
 refine .nil (hK _ _ (AW.seq (rs hx fun K hK=>?_)))
 refine s1 (d:=dG aj n0) (aF (an.id _ _) aD) ?_
 refine scb h eM fun x1 h=>?_
 refine sa ?_
 refine .nil (hK _ _ (cdh h rfl (fun bm h=>?_) (fun bm h=>?_)))
 refine rs hx fun K hK=>?_
 refine scb h lq fun x4 h=>?_
 refine s0 (aO (b':=x4) (an.id _ _) aD) ?_
 refine .nil (hK _ _ (AW.ret ?_))
 cases h
 exact rv1
 refine AW.skip (rsd [89,40] hx fun K hK=>?_)
 refine s1 (d:=dG aj bj) (aF (an.id _ _) aD) ?_
 refine sa ?_
 refine s1 (aF (cb n0) az) ?_
 refine sa ?_
 refine s1 (aF (c5 n0) az) ?_
 refine cqb h im fun x6 h=>?_
 refine cqb h oS fun x8 h=>?_
 refine s0 (aO (b':=x8) (an.id _ _) aD) ?_
 refine .nil (hK _ _ (AW.ret ?_))
 cases h
 exact rv1
def nN(aY:Int)(a9:Int):Option ak:=bnd (eN aY) fun x1=>bnd (eN a9) fun x3=>bnd (cz x1 x3) fun x5=>some x5
theorem DS {aY:Int}{a9:Int}{r:ak}(h:nN aY a9=some r):aB prog 61 [dI .i64 aY,dI .i64 a9] (dG aj r):=by
 refine bL (rs:=[.cell 4 34]) (fun cx hx h0=>?_) func61
 unfold nN at h
 refine rs hx fun K hK=>?_
 refine s1 (bo (F:=aj.f cu) aD) ?_
 refine .nil (hK _ _ (rs hx fun K hK=>?_))
 refine sa ?_
 refine scb h mL fun x1 h=>?_
 refine sa ?_
 refine scb h mL fun x3 h=>?_
 refine scb h im fun x5 h=>?_
 refine s0 (aO (b':=x5) (an.id _ _) aD) ?_
 refine .nil (hK _ _ (AW.ret ?_))
 cases h
 exact rv1
def lK(bj:ak):Option ak:=bnd (bN bj) fun x1=>cnd (!x1) (bnd (fb) fun x4=>some x4) (bnd (lH bj.vN) fun x6=>some (⟨x6,bj.vD⟩:ak))
theorem yW {bj:ak}{r:ak}(h:lK bj=some r):aB prog 17 [dG aj bj] (dG aj r):=by
 refine bL (rs:=[.cell 2 34]) (fun cx hx h0=>?_) func17
 unfold lK at h
 refine rs hx fun K hK=>?_
 refine sa ?_
 refine s1 (bo (F:=aj.f cu) aD) ?_
 refine .nil (hK _ _ (AW.seq (rs hx fun K hK=>?_)))
 refine s1 (d:=dG aj bj) (aF (an.id _ _) aD) ?_
 refine scb h eM fun x1 h=>?_
 refine sa ?_
 refine .nil (hK _ _ (cdh h rfl (fun bm h=>?_) (fun bm h=>?_)))
 refine rs hx fun K hK=>?_
 refine scb h lq fun x4 h=>?_
 refine s0 (aO (b':=x4) (an.id _ _) aD) ?_
 refine .nil (hK _ _ (AW.ret ?_))
 cases h
 exact rv1
 refine AW.skip (rsd [66] hx fun K hK=>?_)
 refine sa ?_
 refine s1 (aF (c5 bj) az) ?_
 refine cqb h tv fun x6 h=>?_
 refine sa ?_
 refine s1 (aF (cb bj) az) ?_
 refine s1 (d:=dG aj (⟨x6,bj.vD⟩:ak)) (jF (FL.cons (y:=x6) (c5 cu) rfl rfl (FL.cons (y:=bj.vD) (cb (⟨x6,bx⟩:ak)) rfl rfl (FL.nil _))) aD) ?_
 refine s0 (aO (b':=(⟨x6,bj.vD⟩:ak)) (an.id _ _) aD) ?_
 refine .nil (hK _ _ (AW.ret ?_))
 cases h
 exact rv1
def mz(db:aq):Option ak:=bnd (lJ) fun x1=>bnd (cz db x1) fun x3=>some x3
theorem Cm {db:aq}{r:ak}(h:mz db=some r):aB prog 104 [dG ap db] (dG aj r):=by
 refine bL (rs:=[.cell 2 34]) (fun cx hx h0=>?_) func104
 unfold mz at h
 refine rs hx fun K hK=>?_
 refine sa ?_
 refine s1 (bo (F:=aj.f cu) aD) ?_
 refine .nil (hK _ _ (rsd [94,89] hx fun K hK=>?_))
 refine s1 (d:=dG ap db) (aF (an.id _ _) az) ?_
 refine cqb h tz fun x1 h=>?_
 refine cqb h im fun x3 h=>?_
 refine s0 (aO (b':=x3) (an.id _ _) aD) ?_
 refine .nil (hK _ _ (AW.ret ?_))
 cases h
 exact rv1
def eE(db:Int):Option ak:=bnd (eN db) fun x1=>bnd (mz x1) fun x3=>some x3
theorem iP {db:Int}{r:ak}(h:eE db=some r):aB prog 60 [dI .i64 db] (dG aj r):=by
 refine bL (rs:=[.cell 2 34]) (fun cx hx h0=>?_) func60
 unfold eE at h
 refine rs hx fun K hK=>?_
 refine s1 (bo (F:=aj.f cu) aD) ?_
 refine .nil (hK _ _ (rs hx fun K hK=>?_))
 refine sa ?_
 refine scb h mL fun x1 h=>?_
 refine scb h Cm fun x3 h=>?_
 refine s0 (aO (b':=x3) (an.id _ _) aD) ?_
 refine .nil (hK _ _ (AW.ret ?_))
 cases h
 exact rv1
def ey(bj:ak):Option Int:=bnd (bN bj) fun x1=>cnd (!x1) (some (0:Int)) (bnd (gr bj.vN) fun x4=>some x4)
theorem lS {bj:ak}{r:Int}(h:ey bj=some r):aB prog 42 [dG aj bj] (dI .i64 r):=by
 refine bL (rs:=[.tmp 2]) (fun cx hx h0=>?_) func42
 unfold ey at h
 refine ra hx ?_
 refine AW.seq (rs hx fun K hK=>?_)
 refine s1 (d:=dG aj bj) (aF (an.id _ _) aD) ?_
 refine scb h eM fun x1 h=>?_
 refine sa ?_
 refine .nil (hK _ _ (cdh h rfl (fun bm h=>?_) (fun bm h=>?_)))
 refine ra hx ?_
 refine AW.ret ?_
 cases h
 exact rv1
 refine AW.skip (rs hx fun K hK=>?_)
 refine sa ?_
 refine s1 (aF (c5 bj) az) ?_
 refine scb h np fun x4 h=>?_
 refine sa ?_
 refine .nil (hK _ _ (AW.ret ?_))
 cases h
 exact rv1
def qV(bj:ak)(n0:ak):Option ak:=bnd (lK n0) fun x1=>bnd (fM bj x1) fun x3=>some x3
theorem FJ {bj:ak}{n0:ak}{r:ak}(h:qV bj n0=some r):aB prog 146 [dG aj bj,dG aj n0] (dG aj r):=by
 refine bL (rs:=[.cell 4 34]) (fun cx hx h0=>?_) func146
 unfold qV at h
 refine rs hx fun K hK=>?_
 iterate 2 refine sa ?_
 refine s1 (bo (F:=aj.f cu) aD) ?_
 refine .nil (hK _ _ (rsd [17,85] hx fun K hK=>?_))
 refine s1 (d:=dG aj bj) (aF (an.id _ _) aD) ?_
 refine s1 (d:=dG aj n0) (aF (an.id _ _) aD) ?_
 refine cqb h yW fun x1 h=>?_
 refine cqb h tA fun x3 h=>?_
 refine s0 (aO (b':=x3) (an.id _ _) aD) ?_
 refine .nil (hK _ _ (AW.ret ?_))
 cases h
 exact rv1
def o0 :Option aq:=bnd (oA (1:Int)) fun x1=>some x1
theorem FF  {r:aq}(h:o0=some r):aB prog 116 [] (dG ap r):=by
 refine bL (rs:=[.cell 0 32]) (fun cx hx h0=>?_) func116
 unfold o0 at h
 refine rs hx fun K hK=>?_
 refine s1 (bo (F:=ap.f bx) az) ?_
 refine .nil (hK _ _ (rs hx fun K hK=>?_))
 refine scb h Ak fun x1 h=>?_
 refine s0 (aO (b':=x1) (an.id _ _) az) ?_
 refine .nil (hK _ _ (AW.ret ?_))
 cases h
 exact rv1
def lU(bj:ak):Option Bool:=bnd (S:=Bool) (bnd (dc bj.vN) fun x1=>cnd (!x1) (some (true)) (bnd (dc bj.vD) fun x4=>some (!x4))) fun bB=>cnd bB (some false) (bnd (S:=Bool) (bnd (nM bj.vD) fun x8=>cnd (decide ((0:Int)<x8)) (bnd (pc bj.vN bj.vD) fun s8=>bnd (o0) fun qN=>some (decide (s8=qN))) (some (false))) fun kA=>some kA)
theorem DO {bj:ak}{r:Bool}(h:lU bj=some r):aB prog 72 [dG aj bj] (dB r):=by
 refine bL (rs:=[.tmp 2]) (fun cx hx h0=>?_) func72
 unfold lU at h
 refine ra hx ?_
 iterate 2 refine AW.seq ?_
 obtain⟨bB,hy,h⟩:=ah h
 refine jn ((PE cx .normal (fun bB=>[(1,.pt 0 0),(12,dB bB)]) fun bB=>⟨[(0,dC (aj.f bj))],[],1⟩) bB) ?_ ?_
 replace h:=hy
 refine rq hx fun K hK=>?_
 refine sa ?_
 refine s1 (aF (c5 bj) az) ?_
 refine scb h il fun x1 h=>?_
 iterate 2 refine sa ?_
 rcases aZ (!x1) with bm|bm
 replace h:=a3 bm h
 iterate 4 refine aI rfl rfl bm ?_
 refine s1 (al bm) ?_
 refine .nil (hK _ _ ?_)
 cases h
 exact pe0 h0 [0]
 replace h:=a4 bm h
 refine ga bm ?_
 refine g1 bm (aF (cb bj) az) ?_
 obtain⟨x4,vu,h⟩:=ah h
 refine g1 bm (dP rfl (il vu) (by simp only[cD,dT,jZ,gj,eh,eC];exact bn _ _) (lA (eK _ _) lAn) (.inl rfl)) ?_
 refine ga bm ?_
 refine s1 (au bm) ?_
 refine .nil (hK _ _ ?_)
 cases h
 exact pe0 h0 [0]
 rintro ex tm' hp' ⟨rfl,hw⟩
 refine AW.weak hw (cdh h rfl (fun tg h=>?_) (fun tg h=>?_))
 refine ra hx ?_
 refine AW.ret ?_
 cases h
 exact rv1
 refine AW.skip (AW.seq ?_)
 obtain⟨kA,hy,h⟩:=ah h
 refine jn ((PE cx .normal (fun kA=>[(2,dB kA)]) fun kA=>⟨[],[],0⟩) kA) ?_ ?_
 replace h:=hy
 refine rq hx fun K hK=>?_
 refine sa ?_
 refine s1 (aF (cb bj) az) ?_
 refine scb h DR fun x8 h=>?_
 iterate 2 refine sa ?_
 rcases aZ (decide ((0:Int)<x8)) with fh|fh
 replace h:=a3 fh h
 refine ga fh ?_
 refine g1 fh (aF (c5 bj) az) ?_
 refine ga fh ?_
 refine g1 fh (aF (cb bj) az) ?_
 obtain⟨s8,Ny,h⟩:=ah h
 refine g1 fh (dP rfl (FH Ny) (by simp only[cD,dT,jZ,gj,eh,eC];exact⟨bn _ _,bn _ _⟩) (lA (eK _ _) (lA (eK _ _) lAn)) (.inl (jf _ _))) ?_
 obtain⟨qN,Nx,h⟩:=ah h
 refine g1 fh (dP rfl (FF Nx) rfl lAn (.inl (jf _ _))) ?_
 refine g1 fh (v3 tok 3 (by decide) fX az) ?_
 refine s1 (al fh) ?_
 refine sa ?_
 refine .nil (hK _ _ ?_)
 cases h
 exact pe0 h0 []
 replace h:=a4 fh h
 iterate 7 refine aI rfl rfl fh ?_
 refine s1 (au fh) ?_
 refine sa ?_
 refine .nil (hK _ _ ?_)
 cases h
 exact pe0 h0 []
 rintro ex tm' hp' ⟨rfl,hw⟩
 refine AW.weak hw (AW.ret ?_)
 cases h
 exact rv1
def fL(aY:List ak)(a9:List ak):Int→Option (Int⊕(Bool⊕Unit)):=fun c9=>cnd (decide (c9<((aY).length:Int))) (gd (0≤c9∧c9<((aY).length:Int)) (gd (0≤c9∧c9<((a9).length:Int)) (cnd (decide (¬((aY)[(c9).toNat]! =(a9)[(c9).toNat]!))) (some (.inr (.inl false))) (some (.inl (i64.wrap (c9+(1:Int)))))))) (some (.inr (.inr ())))
def c6(aY:List ak)(a9:List ak):Option Bool:=cnd (decide (((aY).length:Int)≠((a9).length:Int))) (some false) (bnd (a5 (fL aY a9) (0:Int)) fun y8=>match y8 with| .inl r=>some r| .inr ()=>some true)
theorem om {aY:List ak}{a9:List ak}{r:Bool}(h:c6 aY a9=some r):aB prog 27 [dL aj aY,dL aj a9] (dB r):=by
 refine bL (rs:=[.tmp 4]) (fun cx hx h0=>?_) func27
 unfold c6 at h
 refine ra hx ?_
 refine AW.seq (ra hx ?_)
 refine cdh h rfl (fun cE h=>?_) (fun cE h=>?_)
 refine ra hx ?_
 refine AW.ret ?_
 cases h
 exact rv1
 refine AW.skip (AW.seq (ra hx ?_))
 refine AW.block ?_
 obtain⟨y,hy,h⟩:=ah h
 refine lp (S:=Int) (X:=Bool⊕Unit) (fun c9=>[(0,dL aj aY),(1,dL aj a9),(5,dI .i64 c9)]) (fun c9=>⟨[],[],0⟩) (PS (PR [.tmp 4] fun r=>dB r) (PE cx (.exit 0) (fun ()=>[]) fun ()=>⟨[],[],0⟩)) hy ?_ ?_ ?_
 exact wk h0 [] (wR rfl (wR rfl (wR rfl wTn))) wVn wLn
 clear hy h
 rintro c9 y h
 dsimp only[fL] at h
 refine AW.seq (ra hx ?_)
 refine cdh h rfl (fun lR h=>?_) (fun lR h=>?_)
 refine AW.skip (AW.seq (AW.block (rsd [] hx fun K hK=>?_)))
 iterate 2 refine sa ?_
 obtain⟨Of,h⟩:=aC h
 have hn4:(c9).toNat<(aY).length:=by omega
 refine s1 (fZ Of aP aD) ?_
 refine s1 (d:=dG aj ((aY)[(c9).toNat]!)) (pl (c:=aj) (l:=aY) (n:=(c9).toNat) (o:=0) aD hn4 (jM _ _ rfl)) ?_
 iterate 2 refine sa ?_
 obtain⟨CG,h⟩:=aC h
 have hn6:(c9).toNat<(a9).length:=by omega
 refine s1 (fZ CG aP aD) ?_
 refine s1 (d:=dG aj ((a9)[(c9).toNat]!)) (pl (c:=aj) (l:=a9) (n:=(c9).toNat) (o:=0) aD hn6 (jM _ _ rfl)) ?_
 refine s1 (yM tok 4 (by decide) rR aD) ?_
 refine .nil (hK _ _ (cdh h rfl (fun tg h=>?_) (fun tg h=>?_)))
 refine ra hx ?_
 refine AW.ret ?_
 cases h
 refine PS.r ⟨by nofun,PS.l (PR.i ?_)⟩
 exact rv1
 refine AW.skip (rb hx ?_)
 cases h
 exact PS.l (pe0 h0 [])
 refine AW.exit ?_
 try dsimp only
 try simp only[aM,reduceIte,Nat.reduceEqDiff,reduceCtorEq]
 cases h
 exact PS.r ⟨by nofun,PS.r (PE.i (wk h0 [] wTn wVn wLn))⟩
 rcases y with r|⟨⟩
 rintro ex tm' hp' ⟨rfl,hw⟩
 cases h
 exact hw
 rintro ex tm' hp' ⟨rfl,hw⟩
 try dsimp only
 try simp only[aM,reduceIte,Nat.reduceEqDiff,reduceCtorEq]
 refine AW.weak hw (ra hx ?_)
 refine AW.ret ?_
 cases h
 exact rv1
def nP(q:Rat):Prop:=q.num.natAbs<LIM∧q.den<LIM
instance(q:Rat):Decidable (nP q):=by unfold nP;exact inferInstance
def mD(q:Rat):ak:=⟨enc q.num,enc (q.den:Int)⟩
def CR:ak:=⟨He,enc 1⟩
def yo:Option Rat→ak
 |some q=>mD q
 |none=>CR
def okR(x:ak):Prop:=okI x.vN∧okI x.vD
theorem sv(o:Option Rat):okR (yo o):=by
 cases o with
 |some q=>exact⟨Ee _,Ee _⟩
 |none=>
  refine⟨fun j hj=>?_,Ee _⟩
  show 0≤(W 0)[j]!∧(W 0)[j]! <4294967296
  rw[fY hj];have:=@dgl 0 j;omega
theorem OE {p q:Rat}(hp:nP p)(hq:nP q)(h:mD p=mD q):p=q:=by
 unfold mD at h
 simp only[ak.mk.injEq] at h
 have h1:=wX hp.1 hq.1 h.1
 have h2:=wX (by simpa using hp.2) (by simpa using hq.2) h.2
 exact Rat.ext h1 (by omega)
theorem sE {z:Int}:dq (enc z)=decide (z.natAbs<LIM):=by
 by_cases h:z.natAbs<LIM
 ·rw[bQ h,cV h]
 ·rw[Bd h,Dl,gG h]
theorem G2 {q:Rat}(h:nP q):mD q≠CR:=by
 intro e
 have:dq (mD q).vN=dq CR.vN:=by rw[e]
 rw[show (mD q).vN=enc q.num from rfl,bQ h.1] at this
 cases this
def cZ(x:ak):Option Rat:=open Classical in if h:∃q,nP q∧x=mD q then some (Classical.choose h) else none
theorem eW {x:ak}{q:Rat}:cZ x=some q↔nP q∧x=mD q:=by
 unfold cZ
 split
 ·rename_i h
  obtain⟨h1,h2⟩:=BB h
  constructor
  ·intro e
   injection e with e
   rw[←e];exact⟨h1,h2⟩
  ·rintro⟨h3,h4⟩
   congr 1
   exact OE h1 h3 (h2.symm.trans h4)
 ·rename_i h
  constructor
  ·intro e;cases e
  ·rintro h3;exact absurd ⟨q,h3⟩ h
theorem xx {x:ak}:cZ x=none↔∀q,nP q→x≠mD q:=by
 constructor
 ·intro h q hq e
  rw[eW.2 ⟨hq,e⟩] at h;cases h
 ·intro h
  cases hx:cZ x with
  |none=>rfl
  |some q=>exact absurd (eW.1 hx).2 (h q (eW.1 hx).1)
theorem tC {q:Rat}(h:nP q):cZ (mD q)=some q:=eW.2 ⟨h,rfl⟩
theorem Mq:cZ CR=none:=xx.2 fun _ hq e=>G2 hq e.symm
def yl(o:Option Rat):Prop:=∀q,o=some q→nP q
theorem xy {o:Option Rat}(h:yl o):cZ (yo o)=o:=by
 cases o with
 |none=>exact Mq
 |some q=>exact tC (h q rfl)
theorem Ba(x:ak):yl (cZ x):=fun _ h=>(eW.1 h).1
theorem p8:yl none:=fun _ h=>by cases h
theorem OA {g k:Int}(h:g≠0):(g*k).fdiv g=k:=Int.mul_fdiv_cancel_left _ h
theorem Ku {g k:Int}(h:g≠0):(g*k).fdiv (-g)=-k:=by
 rw[show g*k=-g*-k from (Int.neg_mul_neg g k).symm]
 exact Int.mul_fdiv_cancel_left _ (by omega)
theorem pW {n d:Int}(hd:d≠0):∃k m:Int,n=(Nat.gcd n.natAbs d.natAbs:Nat)*k∧d=(Nat.gcd n.natAbs d.natAbs:Nat)*m∧m≠0∧(Rat.divInt n d).num=d.sign*k∧((Rat.divInt n d).den:Int)=d.sign*m:=by
 have hg0:Nat.gcd n.natAbs d.natAbs≠0:=by
  intro h
  have:=(I1.1 h).2
  omega
 have CE:((Nat.gcd n.natAbs d.natAbs:Nat):Int)≠0:=by omega
 obtain⟨k,hk⟩:((Nat.gcd n.natAbs d.natAbs:Nat):Int) ∣ n:=Int.ofNat_dvd_left.2 (Nat.gcd_dvd_left _ _)
 obtain⟨m,hm⟩:((Nat.gcd n.natAbs d.natAbs:Nat):Int) ∣ d:=Int.ofNat_dvd_left.2 (Nat.gcd_dvd_right _ _)
 have hgg:((Int.gcd d n:Nat):Int)=((Nat.gcd n.natAbs d.natAbs:Nat):Int):=by
  rw[Int.gcd_comm];rfl
 have hmm:m≠0:=by
  intro h
  rw[h,Int.mul_zero] at hm
  exact hd hm
 refine⟨k,m,hk,hm,hmm,?_,?_⟩
 ·rw[Rat.num_divInt,hgg]
  generalize ((Nat.gcd n.natAbs d.natAbs:Nat):Int)=g at hk CE ⊢
  rw[hk,ER,Int.mul_ediv_cancel_left _ CE]
 ·rw[Rat.den_divInt,aA hd]
  have e:((d.natAbs / Int.gcd d n:Nat):Int)=(d.natAbs:Int) / ((Int.gcd d n:Nat):Int):=I5 ..
  rw[e,hgg]
  have e2:(d.natAbs:Int)=d.sign*d:=by rw[Int.sign_mul_self]
  rw[e2]
  generalize ((Nat.gcd n.natAbs d.natAbs:Nat):Int)=g at hm CE ⊢
  have e3:d.sign*d=g*(d.sign*m):=by
   conv=>lhs;rhs;rw[hm]
   rw[ER]
  rw[e3,Int.mul_ediv_cancel_left _ CE]
theorem vH {n d:Int}(hd:d≠0)(h1:n.natAbs<LIM)(h2:d.natAbs<LIM):nP (Rat.divInt n d):=by
 obtain⟨k,m,hk,hm,hm0,e1,e2⟩:=pW (n:=n) hd
 have hg0:Nat.gcd n.natAbs d.natAbs≠0:=by
  intro h
  have:=(I1.1 h).2
  omega
 have hs:d.sign.natAbs=1:=by rw[Int.natAbs_sign,aA hd]
 refine⟨?_,?_⟩
 ·rw[e1,vX,hs,dh]
  refine fj ?_ h1
  conv=>rhs;rw[hk]
  rw[vX,ek]
  exact BJ _ (sN hg0)
 ·have:(Rat.divInt n d).den=(d.sign*m).natAbs:=by omega
  rw[this,vX,hs,dh]
  refine fj ?_ h2
  conv=>rhs;rw[hm]
  rw[vX,ek]
  exact BJ _ (sN hg0)
theorem Nf {n d:Int}(hd:d≠0):n.fdiv (bif decide (d<0) then -((Nat.gcd n.natAbs d.natAbs:Nat):Int) else ((Nat.gcd n.natAbs d.natAbs:Nat):Int))=(Rat.divInt n d).num∧d.fdiv (bif decide (d<0) then -((Nat.gcd n.natAbs d.natAbs:Nat):Int) else ((Nat.gcd n.natAbs d.natAbs:Nat):Int))=((Rat.divInt n d).den:Int):=by
 obtain⟨k,m,hk,hm,hm0,e1,e2⟩:=pW (n:=n) hd
 have CE:((Nat.gcd n.natAbs d.natAbs:Nat):Int)≠0:=by
  intro h
  rw[h,Int.zero_mul] at hm
  exact hd hm
 rw[e1,e2]
 generalize ((Nat.gcd n.natAbs d.natAbs:Nat):Int)=g at hk hm CE ⊢
 by_cases h:d<0
 ·rw[cV h,lO,I2 h]
  constructor
  ·rw[hk,Ku CE];omega
  ·rw[hm,Ku CE];omega
 ·rw[gG h,cond_false,By (by omega)]
  constructor
  ·rw[hk,OA CE];omega
  ·rw[hm,OA CE];omega
theorem Kl {n d:Int}(hd:d≠0)(h2:d.natAbs<LIM):Nat.gcd n.natAbs d.natAbs<LIM∧Nat.gcd n.natAbs d.natAbs≠0:=
 ⟨fj (Nat.gcd_le_right _ (by omega)) h2,fun h=>by have:=(I1.1 h).2;omega⟩
theorem KX:lJ=some (enc 1):=by
 unfold lJ
 rw[Fm (by decide) (by decide),ab]
theorem oR(x:aq):iC x=some (dq x):=by
 unfold iC
 rw[KY,ab,OT,ab]
 congr 1
 unfold dq
 cases x.vBad <;> rfl
theorem uc:fb=some CR:=by
 unfold fb
 rw[K3,KX,ab,ab]
 rfl
theorem On {n d:Int}(hn:n.natAbs<LIM)(hd:d.natAbs<LIM):(∃q,nP q∧(⟨enc n,enc d⟩:ak)=mD q)↔0<d∧Nat.gcd n.natAbs d.natAbs=1:=by
 constructor
 ·rintro⟨q,hq,e⟩
  unfold mD at e
  simp only[ak.mk.injEq] at e
  have e1:=wX hn hq.1 e.1
  have e2:=wX hd (by simpa using hq.2) e.2
  subst e1;subst e2
  exact⟨by have:=q.den_pos;omega,by rw[ek];exact q.reduced⟩
 ·rintro⟨h1,h2⟩
  refine⟨⟨n,d.natAbs,by omega,h2⟩,⟨hn,hd⟩,?_⟩
  unfold mD
  simp only[ak.mk.injEq,true_and]
  congr 1
  omega
theorem lg {x:ak}(hx:okR x):bN x=some (cZ x).isSome:=by
 obtain⟨n,d⟩:=x
 obtain⟨h1,h2⟩:=hx
 dsimp only at h1 h2
 have hb:∀b:Bool,(b=true↔∃q,nP q∧(⟨n,d⟩:ak)=mD q)→(cZ ⟨n,d⟩).isSome=b:=by
  intro b hb
  cases hv:cZ ⟨n,d⟩ with
  |none=>
   cases b with
   |false=>rfl
   |true=>
    obtain⟨q,h3,h4⟩:=hb.1 rfl
    exact absurd h4 (xx.1 hv q h3)
  |some q=>exact ((hb.2 ⟨q,eW.1 hv⟩).symm)
 unfold bN
 dsimp only
 rw[oR,oR,ab,ab]
 cases CE:dq n with
 |false=>
  rw[ba,ab,hb false]
  constructor
  ·intro h;cases h
  ·rintro⟨q,hq,e⟩
   unfold mD at e
   simp only[ak.mk.injEq] at e
   rw[e.1,bQ hq.1] at CE;cases CE
 |true=>
  cases Ix:dq d with
  |false=>
   rw[gU,ba,ab,hb false]
   constructor
   ·intro h;cases h
   ·rintro⟨q,hq,e⟩
    unfold mD at e
    simp only[ak.mk.injEq] at e
    rw[e.2,bQ (by simpa using hq.2)] at Ix;cases Ix
  |true=>
   obtain⟨n,hn,rfl⟩:=tM h1 CE
   obtain⟨d,hd,rfl⟩:=tM h2 Ix
   have hgi:=On hn hd
   rw[gU,gU,yS hd,ab,K2 hn hd,ab,KX,ab,jb]
   by_cases h0:0<d
   ·rw[ay (by rw[By h0];decide),ab]
    congr 1
    symm
    refine hb _ ?_
    rw[hgi,decide_eq_true_iff]
    have hgl:=(Kl (n:=n) (show d≠0 by omega) hd).1
    constructor
    ·intro h
     have:=wX (by simpa using hgl) (by decide) h
     exact⟨h0,by omega⟩
    ·rintro⟨_,h⟩
     rw[h];rfl
   ·rw[aA (by rw[Int.sign_pos_iff];exact h0),ab]
    congr 1
    symm
    refine hb _ ?_
    rw[hgi]
    constructor
    ·intro h;cases h
    ·rintro⟨h,_⟩;exact absurd h h0
theorem yT {n d:Int}(hn:n.natAbs<LIM)(hd:d.natAbs<LIM)(h0:d≠0):cz (enc n) (enc d)=some (mD (Rat.divInt n d)):=by
 obtain⟨CE,Ix⟩:=Kl (n:=n) h0 hd
 obtain⟨e1,e2⟩:=Nf (n:=n) h0
 have hgl:(((Nat.gcd n.natAbs d.natAbs:Nat):Int)).natAbs<LIM:=by simpa using CE
 unfold cz
 rw[oR,oR,ab,ab,bQ hn,bQ hd,eo,ba,ba,yS hd,ab,ab,bu _ _ (by rw[Jg];exact h0),K2 hn hd,ab,ab,PV hgl,ab]
 have hsel:(cnd (decide (d.sign<(0:Int))) (some (enc (-((Nat.gcd n.natAbs d.natAbs:Nat):Int)))) (some (enc ((Nat.gcd n.natAbs d.natAbs:Nat):Int))))=some (enc (bif decide (d<0) then -((Nat.gcd n.natAbs d.natAbs:Nat):Int) else ((Nat.gcd n.natAbs d.natAbs:Nat):Int))):=by
  by_cases h:d<0
  ·rw[bt _ _ (by rw[Int.sign_neg_iff];exact h),cV h];rfl
  ·rw[bu _ _ (by rw[Int.sign_neg_iff];exact h),gG h];rfl
 have L6:((bif decide (d<0) then -((Nat.gcd n.natAbs d.natAbs:Nat):Int) else ((Nat.gcd n.natAbs d.natAbs:Nat):Int))).natAbs<LIM∧(bif decide (d<0) then -((Nat.gcd n.natAbs d.natAbs:Nat):Int) else ((Nat.gcd n.natAbs d.natAbs:Nat):Int))≠0:=by
  cases decide (d<0)
  ·simp only[cond_false];omega
  ·simp only[lO];omega
 rw[hsel,ab,K0 hn L6.1 L6.2,ab,K0 hd L6.1 L6.2,ab,e1,e2]
 rfl
theorem HD {x:aq}:cz x (enc 0)=some CR:=by
 unfold cz
 rw[oR,oR,ab,ab,yS (by decide),ab,bQ (by decide),uc,ab]
 cases dq x <;> rfl
theorem B8 {x y:aq}(h:(dq x&&dq y)=false):cz x y=some CR:=by
 unfold cz
 rw[oR,oR,ab,ab,uc,ab]
 cases h1:dq x with
 |false=>rfl
 |true=>
  cases h2:dq y with
  |false=>rfl
  |true=>rw[h1,h2] at h;cases h
def H6(x y:Rat):Option Rat:=
 if (x.num*((y.den / Nat.gcd x.den y.den:Nat):Int)).natAbs<LIM∧(y.num*((x.den / Nat.gcd x.den y.den:Nat):Int)).natAbs<LIM∧(x.num*((y.den / Nat.gcd x.den y.den:Nat):Int)+y.num*((x.den / Nat.gcd x.den y.den:Nat):Int)).natAbs<LIM∧x.den / Nat.gcd x.den y.den*y.den<LIM then some (x+y) else none
def D8(x y:Rat):Option Rat:=if nP (x*y) then some (x*y) else none
theorem Hm(x y:Rat):Rat.divInt (x.num*((y.den / Nat.gcd x.den y.den:Nat):Int)+y.num*((x.den / Nat.gcd x.den y.den:Nat):Int)) ((x.den / Nat.gcd x.den y.den*y.den:Nat):Int)=x+y:=by
 have hx:=x.den_pos
 have hy:=y.den_pos
 have hg:0<Nat.gcd x.den y.den:=I0 _ hx
 obtain⟨p,hp⟩:=Nat.gcd_dvd_left x.den y.den
 obtain⟨q,hq⟩:=Nat.gcd_dvd_right x.den y.den
 have e1:x.den / Nat.gcd x.den y.den=p:=by
                         conv=>lhs;lhs;rw[hp]
                         exact Jl _ hg
 have e2:y.den / Nat.gcd x.den y.den=q:=by
                         conv=>lhs;lhs;rw[hq]
                         exact Jl _ hg
 rw[e1,e2,Rat.add_def']
 generalize Nat.gcd x.den y.den=g at hg hp hq
 rw[←IZ,←Rat.divInt_mul_left (a:=(g:Int)) (by omega)]
 congr 1
 ·rw[Int.mul_add,hp,hq,oH,oH,ER,ER (y.num)]
 ·rw[hp]
  simp only[oH,Int.mul_assoc]
theorem MT(x y:Rat):yl (H6 x y):=by
 intro q h
 unfold H6 at h
 split at h
 ·rename_i hc
  obtain⟨_,_,h3,h4⟩:=hc
  injection h with h
  subst h
  rw[←Hm]
  refine vH ?_ h3 (by rw[ek];exact h4)
  have hg:0<Nat.gcd x.den y.den:=I0 _ x.den_pos
  have:=BK (yE y.den x.den_pos) hg
  have:=rU this y.den_pos
  omega
 ·cases h
theorem MS(x y:Rat):yl (D8 x y):=by
 intro q h
 unfold D8 at h
 split at h
 ·rename_i hc
  injection h with h
  rw[←h];exact hc
 ·cases h
theorem cross(x y:Rat):(x*y).num=(Rat.divInt x.num y.den).num*(Rat.divInt y.num x.den).num∧(x*y).den=(Rat.divInt x.num y.den).den*(Rat.divInt y.num x.den).den:=by
 have hx:=x.den_pos
 have hy:=y.den_pos
 obtain⟨k,m,hk,hm,hm0,e1,e2⟩:=pW (n:=x.num) (d:=(y.den:Int)) (by omega)
 obtain⟨k',m',tJ,ze,hm0',e1',e2'⟩:=pW (n:=y.num) (d:=(x.den:Int)) (by omega)
 rw[By (by omega),Int.one_mul] at e1 e2 e1' e2'
 have hxy:x*y=Rat.divInt x.num y.den*Rat.divInt y.num x.den:=by
  rw[Rat.divInt_mul_divInt]
  conv=>lhs;rw[←Rat.num_divInt_den x,←Rat.num_divInt_den y,Rat.divInt_mul_divInt]
  rw[sM (y.den:Int)]
 have hc:Nat.gcd ((Rat.divInt x.num y.den).num*(Rat.divInt y.num x.den).num).natAbs ((Rat.divInt x.num y.den).den*(Rat.divInt y.num x.den).den)=1:=by
  rw[vX]
  have c1:=(Rat.divInt x.num y.den).reduced
  have c2:=(Rat.divInt y.num x.den).reduced
  have d1:(Rat.divInt x.num y.den).num.natAbs ∣ x.num.natAbs:=by
   rw[e1];exact Int.natAbs_dvd_natAbs.2 ⟨_,by rw[sM];exact hk⟩
  have d2:(Rat.divInt y.num x.den).den ∣ x.den:=Int.natCast_dvd_natCast.1 (by rw[e2'];exact⟨_,by rw[sM];exact ze⟩)
  have d3:(Rat.divInt y.num x.den).num.natAbs ∣ y.num.natAbs:=by
   rw[e1'];exact Int.natAbs_dvd_natAbs.2 ⟨_,by rw[sM];exact tJ⟩
  have d4:(Rat.divInt x.num y.den).den ∣ y.den:=Int.natCast_dvd_natCast.1 (by rw[e2];exact⟨_,by rw[sM];exact hm⟩)
  have c3:Nat.Coprime (Rat.divInt x.num y.den).num.natAbs (Rat.divInt y.num x.den).den:=Nat.Coprime.coprime_dvd_left d1 (Nat.Coprime.coprime_dvd_right d2 x.reduced)
  have c4:Nat.Coprime (Rat.divInt y.num x.den).num.natAbs (Rat.divInt x.num y.den).den:=Nat.Coprime.coprime_dvd_left d3 (Nat.Coprime.coprime_dvd_right d4 y.reduced)
  exact Nat.Coprime.mul_left (Nat.Coprime.mul_right c1 c3) (Nat.Coprime.mul_right c4 c2)
 rw[hxy,Rat.num_mul,Rat.den_mul,hc]
 exact⟨by simp,by simp⟩
theorem yp(q:Rat):(mD q).vN=enc q.num:=rfl
theorem Be(q:Rat):(mD q).vD=enc (q.den:Int):=rfl
theorem Kv(z:Int):(enc z).vBad=decide (¬z.natAbs<LIM):=by
 by_cases h:z.natAbs<LIM
 ·rw[qv h];simp[h]
 ·rw[Bd h];simp[h];rfl
theorem l4 {q:Rat}(h:nP q):((q.den:Nat):Int).natAbs<LIM:=by simpa using h.2
theorem G_rMul {x y:Rat}(hx:nP x)(hy:nP y):dZ (mD x) (mD y)=some (yo (D8 x y)):=by
 have hdx:=x.den_pos
 have hdy:=y.den_pos
 obtain⟨c1,c2⟩:=cross x y
 have f1:=vH (n:=x.num) (d:=(y.den:Int)) (by omega) hx.1 (l4 hy)
 have f2:=vH (n:=y.num) (d:=(x.den:Int)) (by omega) hy.1 (l4 hx)
 unfold dZ
 rw[show bN (mD x)=_ from lg (sv (some x)),show bN (mD y)=_ from lg (sv (some y)),tC hx,tC hy,ab,ab]
 simp only[Bx,eo,ba,ab,yp,Be]
 rw[yT hx.1 (l4 hy) (by omega),ab,yT hy.1 (l4 hx) (by omega),ab]
 simp only[yp,Be]
 rw[HB f1.1 f2.1,ab,HB (l4 f1) (l4 f2),ab,←c1,←oH,←c2,Kv,Kv,cnd_or,ab,uc,ab,←Bool.decide_or,jb]
 unfold D8
 by_cases h:nP (x*y)
 ·obtain⟨h1,h2⟩:=id h
  rw[aA (by rw[ek];omega),ay h];rfl
 ·have h1:¬((x*y).num.natAbs<LIM∧(x*y).den<LIM):=h
  rw[ay (by rw[ek];omega),aA h];rfl
theorem B4 {x y:ak}(hx:okR x)(hy:okR y)(h:((cZ x).isSome&&(cZ y).isSome)=false):dZ x y=some CR:=by
 unfold dZ
 rw[lg hx,lg hy,ab,ab,uc,ab]
 cases h1:(cZ x).isSome with
 |false=>rfl
 |true=>
  cases h2:(cZ y).isSome with
  |false=>rfl
  |true=>rw[h1,h2] at h;cases h
theorem JS {n g:Nat}:((n:Int)).fdiv (g:Int)=((n / g:Nat):Int):=by
 rw[Int.fdiv_eq_ediv_of_nonneg _ (EW _)]
 exact (I5 ..).symm
theorem G_rAdd {x y:Rat}(hx:nP x)(hy:nP y):fM (mD x) (mD y)=some (yo (H6 x y)):=by
 have hdx:=x.den_pos
 have hdy:=y.den_pos
 have hg:0<Nat.gcd x.den y.den:=I0 _ hdx
 have hgl:Nat.gcd x.den y.den<LIM:=fj (yE _ hdx) hx.2
 have hgl':((Nat.gcd x.den y.den:Nat):Int).natAbs<LIM:=by simpa using hgl
 have hp:x.den / Nat.gcd x.den y.den<LIM:=fj (tY _ _) hx.2
 have hq:y.den / Nat.gcd x.den y.den<LIM:=fj (tY _ _) hy.2
 have hp0:0<x.den / Nat.gcd x.den y.den:=BK (yE y.den hdx) hg
 have Es:0<x.den / Nat.gcd x.den y.den*y.den:=rU hp0 hdy
 have haf:=Hm x y
 unfold fM
 rw[show bN (mD x)=_ from lg (sv (some x)),show bN (mD y)=_ from lg (sv (some y)),tC hx,tC hy,ab,ab]
 simp only[Bx,eo,ba,ab,yp,Be]
 rw[K2 (l4 hx) (l4 hy),ab,ek,ek,K0 (l4 hx) hgl' (by omega),ab,K0 (l4 hy) hgl' (by omega),ab,JS,JS,HB hx.1 (by rw[ek];exact hq),ab,HB hy.1 (by rw[ek];exact hp),ab,HB (by rw[ek];exact hp) (l4 hy),←oH]
 unfold H6
 revert haf
 generalize x.num*((y.den / Nat.gcd x.den y.den:Nat):Int)=z1
 generalize y.num*((x.den / Nat.gcd x.den y.den:Nat):Int)=z2
 revert Es
 generalize x.den / Nat.gcd x.den y.den*y.den=D
 intro Es haf
 have hsum:iy (enc z1) (enc z2)=some (if z1.natAbs<LIM∧z2.natAbs<LIM then enc (z1+z2) else He):=by
  by_cases h:z1.natAbs<LIM∧z2.natAbs<LIM
  ·rw[ay h,G_Add h.1 h.2]
  ·rw[aA h,L0 (by rw[sE,sE,←Bool.decide_and];exact gG h)]
 rw[hsum,ab,ab,vM]
 by_cases h:z1.natAbs<LIM∧z2.natAbs<LIM
 ·rw[ay h]
  by_cases h2:(z1+z2).natAbs<LIM∧D<LIM
  ·rw[yT h2.1 (by rw[ek];exact h2.2) (by omega),haf,ay ⟨h.1,h.2,h2⟩];rfl
  ·rw[B8 (by rw[sE,sE,←Bool.decide_and,ek];exact gG h2),aA fun hh=>h2 hh.2.2];rfl
 ·rw[aA h,B8 (by rw[Dl,Bool.false_and]),aA fun hh=>h ⟨hh.1,hh.2.1⟩];rfl
theorem B5 {x y:ak}(hx:okR x)(hy:okR y)(h:((cZ x).isSome&&(cZ y).isSome)=false):fM x y=some CR:=by
 unfold fM
 rw[lg hx,lg hy,ab,ab,uc,ab]
 cases h1:(cZ x).isSome with
 |false=>rfl
 |true=>
  cases h2:(cZ y).isSome with
  |false=>rfl
  |true=>rw[h1,h2] at h;cases h
def Gj(a b:Option Rat):Option Rat:=a.bind fun x=>b.bind fun y=>H6 x y
def zI(a b:Option Rat):Option Rat:=a.bind fun x=>b.bind fun y=>D8 x y
def Ec(a:Option Rat):Option Rat:=a.map fun x=>-x
def Ln(a:Option Rat):Option Rat:=a.bind fun x=>if x=0 then none else some x⁻¹
def osub(a b:Option Rat):Option Rat:=Gj a (Ec b)
def Gg(a b:Option Rat):Option Rat:=zI a (Ln b)
def osgn(a:Option Rat):Int:=match a with|some x=>x.num.sign|none=>0
theorem Gi(a b:Option Rat):yl (Gj a b):=by
 cases a with
 |none=>exact p8
 |some x=>
  cases b with
  |none=>exact p8
  |some y=>exact MT x y
theorem AB(a b:Option Rat):yl (zI a b):=by
 cases a with
 |none=>exact p8
 |some x=>
  cases b with
  |none=>exact p8
  |some y=>exact MS x y
theorem GY {x:Rat}(h:nP x):nP (-x):=⟨by rw[Rat.neg_num,Int.natAbs_neg];exact h.1,h.2⟩
theorem AA {a:Option Rat}(h:yl a):yl (Ec a):=by
 cases a with
 |none=>exact p8
 |some x=>
  intro q hq
  injection hq with hq
  subst hq
  exact GY (h x rfl)
theorem Oz {x:Rat}(h:nP x)(h0:x≠0):nP x⁻¹:=by
 have hn:x.num≠0:=fun h=>h0 (Rat.num_eq_zero.1 h)
 refine⟨?_,?_⟩
 ·rw[Rat.num_inv,vX,Int.natAbs_sign,aA hn,dh,ek];exact h.2
 ·rw[Rat.den_inv,aA hn];exact h.1
theorem M1 {a:Option Rat}(h:yl a):yl (Ln a):=by
 cases a with
 |none=>exact p8
 |some x=>
  intro q hq
  have hq:(if x=0 then none else some x⁻¹)=some q:=hq
  split at hq
  ·cases hq
  ·rename_i h0
   injection hq with hq
   subst hq
   exact Oz (h x rfl) h0
theorem M2(a b:Option Rat):yl (Gg a b):=AB _ _
theorem PN {x y:ak}(hx:okR x)(hy:okR y):fM x y=some (yo (Gj (cZ x) (cZ y))):=by
 cases h1:cZ x with
 |none=>exact B5 hx hy (by rw[h1];rfl)
 |some p=>
  cases h2:cZ y with
  |none=>exact B5 hx hy (by rw[h1,h2];rfl)
  |some q=>
   obtain⟨hp,rfl⟩:=eW.1 h1
   obtain⟨hq,rfl⟩:=eW.1 h2
   exact G_rAdd hp hq
theorem Jw {x y:ak}(hx:okR x)(hy:okR y):dZ x y=some (yo (zI (cZ x) (cZ y))):=by
 cases h1:cZ x with
 |none=>exact B4 hx hy (by rw[h1];rfl)
 |some p=>
  cases h2:cZ y with
  |none=>exact B4 hx hy (by rw[h1,h2];rfl)
  |some q=>
   obtain⟨hp,rfl⟩:=eW.1 h1
   obtain⟨hq,rfl⟩:=eW.1 h2
   exact G_rMul hp hq
theorem PM {x:ak}(hx:okR x):lK x=some (yo (Ec (cZ x))):=by
 unfold lK
 rw[lg hx,ab]
 cases h1:cZ x with
 |none=>rw[uc,ab];rfl
 |some p=>
  obtain⟨hp,rfl⟩:=eW.1 h1
  simp only[Bx,eo,ba,yp,Be]
  rw[PV hp.1,ab]
  rfl
theorem G_osub {x y:ak}(hx:okR x)(hy:okR y):qV x y=some (yo (osub (cZ x) (cZ y))):=by
 unfold qV
 rw[PM hy,ab,PN hx (sv _),ab,xy (AA (Ba y))]
 rfl
theorem Jx {q:Rat}(hq:nP q):cz (enc (q.den:Int)) (enc q.num)=some (yo (Ln (some q))):=by
 by_cases h:q=0
 ·subst h
  show cz _ (enc 0)=_
  rw[HD];rfl
 ·have hn:q.num≠0:=fun h0=>h (Rat.num_eq_zero.1 h0)
  rw[yT (l4 hq) hq.1 hn,←Rat.inv_def]
  show _=some (yo (if q=0 then none else some q⁻¹))
  rw[aA h];rfl
theorem G_odiv {x y:ak}(hx:okR x)(hy:okR y):qW x y=some (yo (Gg (cZ x) (cZ y))):=by
 unfold qW
 rw[lg hy,ab]
 cases h2:cZ y with
 |none=>
  rw[uc,ab]
  show some CR=some (yo (zI (cZ x) none))
  unfold zI
  cases cZ x <;> rfl
 |some q=>
  obtain⟨hq,rfl⟩:=eW.1 h2
  simp only[Bx,eo,ba,yp,Be]
  rw[Jx hq,ab,Jw hx (sv _),ab,xy (M1 fun r hr=>by injection hr with hr;subst hr;exact hq)]
  rfl
theorem PL {x:ak}(hx:okR x):ey x=some (osgn (cZ x)):=by
 unfold ey
 rw[lg hx,ab]
 cases h1:cZ x with
 |none=>rfl
 |some p=>
  obtain⟨hp,rfl⟩:=eW.1 h1
  simp only[Bx,eo,ba,yp]
  rw[yS hp.1,ab]
  rfl
theorem IM(n:Int):Rat.divInt n 1=(n:Rat):=by
 show Rat.divInt n ((1:Nat):Int)=_
 rw[IZ]
 exact Rat.mkRat_self (n:Rat)
theorem PK {n:Int}(h:n.natAbs<LIM):mz (enc n)=some (mD (n:Rat)):=by
 unfold mz
 rw[KX,ab,yT h (by decide) (by decide),ab,IM]
theorem G_rOf {n:Int}(h1:-9223372036854775808≤n)(h2:n≤9223372036854775807):eE n=some (mD (n:Rat)):=by
 have hL:n.natAbs<LIM:=bW (show n.natAbs<18446744073709551616 by omega) (by decide)
 unfold eE
 rw[Fm h1 h2,ab,PK hL,ab]
section
def lF(n:Nat)(f:Nat→Nat):List Int:=(List.range n).map fun j=>(f j:Int)
section
variable {n m p x k j:Nat} {f g:Nat→Nat}
theorem cw:(lF n f).length=n:=by unfold lF;simp
theorem py(h:j<n):(lF n f)[j]! =(f j:Int):=by
 unfold lF
 rw[gF _ j (by simpa using h)]
 simp
theorem sB(h:∀j,j<n→f j=g j):lF n f=lF n g:=by
 unfold lF
 apply pD
 intro j hj
 rw[h j (by simpa using hj)]
theorem wJ:lF n f++[(f n:Int)]=lF (n+1) f:=by
 unfold lF
 rw[u7,nd];rfl
theorem Ig:(lF n f).set p (x:Int)=lF n (fun j=>if j=p then x else f j):=by
 apply KN
 ·rw[IU,cw,cw]
 ·intro i h1 h2
  rw[List.getElem_set]
  have h3:i<n:=by rw[cw] at h2;exact h2
  have e1:=py (f:=fun j=>if j=p then x else f j) h3
  rw[gF _ i h2] at e1
  rw[e1]
  split
  ·rename_i h;rw[ay h.symm]
  ·rename_i h
   rw[aA (fun e=>h e.symm)]
   have e2:=py (f:=f) h3
   rw[gF _ i (by rw[cw];exact h3)] at e2
   exact e2
theorem lF_take(h:m≤n):(lF n f).take m=lF m f:=by
 unfold lF
 rw[←vU,List.take_range,tT h]
theorem lF_cons:[(x:Int)]++lF n f=lF (n+1) (fun j=>if j=0 then x else f (j - 1)):=by
 unfold lF
 rw[List.range_succ_eq_map,cD,mV]
 rfl
theorem Nm:List.replicate n (0:Int)=lF n (fun _=>0):=by
 unfold lF
 induction n with
 |zero=>rfl
 |succ n ih=>rw[List.replicate_succ',ih,u7,nd];rfl
end
abbrev dk(n A:Nat):List Int:=lF n (dg 65536 A)
theorem jX {A j:Nat}:dg 65536 A j<65536:=OJ (by decide)
theorem Mw(A:Nat):∃n,szp 65536 A n:=by
 induction A using Nat.strongRecOn with
 |_ A ih=>
  by_cases h:A=0
  ·subst h;exact⟨0,by decide,fun h=>by omega⟩
  ·obtain⟨n,h1,h2⟩:=ih (A / 65536) (by omega)
   refine⟨n+1,?_,fun _=>?_⟩
   ·rw[eH];exact (oh (by decide)).1 h1
   ·rw[Bu]
    cases n with
    |zero=>rw[fI];omega
    |succ n=>
     have:=h2 (by omega)
     rw[Bu] at this
     rw[eH]
     exact (oG (by decide)).1 this
def sz6(A:Nat):Nat:=Classical.choose (Mw A)
theorem wr(A:Nat):szp 65536 A (sz6 A):=BB (Mw A)
theorem jQ(A:Nat):A<65536 ^ sz6 A:=(wr A).1
theorem ri {A n:Nat}(h:A<65536 ^ n):sz6 A≤n:=HV (by decide) (wr A) h
theorem HW {A n:Nat}(h:szp 65536 A n):n=sz6 A:=Mv (by decide) h (wr A)
theorem Ao:sz6 0=0:=(HW ⟨by decide,fun h=>by omega⟩).symm
theorem zW {A:Nat}(h:0<A):0<sz6 A:=by
 rcases ma (sz6 A) with h1|h1
 ·have:=jQ A
  rw[h1,fI] at this;omega
 ·exact h1
noncomputable abbrev dl(A:Nat):List Int:=dk (sz6 A) A
theorem IL(A:Nat):(dl A).length=sz6 A:=cw
theorem dl_zero:dl 0=[]:=by unfold dl;rw[Ao];rfl
theorem OF {A:Nat}:(dl A).length=0↔A=0:=by
 rw[IL]
 constructor
 ·intro h
  rcases ma A with h1|h1
  ·exact h1
  ·have:=zW h1;omega
 ·rintro rfl;exact Ao
theorem sU {n A k:Nat}(hA:A<65536 ^ n):c7 (dk n A) (k:Int)=some ((dg 65536 A k:Nat):Int):=by
 unfold c7
 rw[cw]
 by_cases h:k<n
 ·rw[bt _ _,aJ,bH,py h]
 ·rw[bu _ _,kZ (bW hA (g9 (by decide) (by omega)))];rfl
theorem v6 {n A:Nat}(hA:A<65536 ^ n)(hn:n<1000000):eO (dk n A)=some (dl A):=by
 obtain⟨x,hl,hx⟩:=uT (b:=kg (dk n A)) (fun s=>∃k:Nat,s=(k:Int)∧k≤n∧A<65536 ^ k) (fun s=>s.toNat) (fun x=>x=((sz6 A:Nat):Int))
  (by
   rintro s ⟨k,rfl,hk,bI⟩
   cases k with
   |zero=>
    right
    refine⟨((0:Nat):Int),?_,?_⟩
    ·dsimp only[kg]
     rw[bu _ _,ab,ba]
    ·show ((0:Nat):Int)=_
     rw[←HW ⟨bI,fun h=>by omega⟩]
   |succ k=>
    have e:i64.wrap (((k+1:Nat):Int) - 1)=(k:Int):=by rw[cd];omega
    dsimp only[kg]
    rw[bt _ _,e,cw,aJ,ab,bH,py (by omega),jb]
    by_cases hd:dg 65536 A k=0
    ·left
     refine⟨(k:Int),by rw[ifp_],⟨k,rfl,by omega,?_⟩,by omega⟩
     unfold dg at hd
     have h1:A / 65536 ^ k<65536:=by
      rw[oh (cJ (by decide)),cj,←eH];exact bI
     rw[dK h1] at hd
     exact (Fb (cJ (by decide))).1 hd
    ·right
     refine⟨((k+1:Nat):Int),by rw[ifn_],?_⟩
     show ((k+1:Nat):Int)=_
     rw[HW (A:=A) ⟨bI,fun _=>?_⟩]
     rcases ck A (65536 ^ k) with h|h
     ·exact absurd (kZ h) hd
     ·exact h) (n:Int) ⟨n,rfl,aL _,hA⟩
 unfold eO
 have hs:=ri hA
 rw[cw,hl,hx,ab,aJ,subL_to _ _ (by omega),bH,lF_take hs]
theorem pmax {n m A B:Nat}(hA:A<65536 ^ n)(hB:B<65536 ^ m):A<65536 ^ max n m∧B<65536 ^ max n m:=
 ⟨bW hA (g9 (by decide) (E3 ..)),bW hB (g9 (by decide) (EX ..))⟩
theorem AG(n m:Nat):max (n:Int) (m:Int)=((max n m:Nat):Int):=by omega
theorem G_dplus {n m A B:Nat}(hA:A<65536 ^ n)(hB:B<65536 ^ m)(hn:n<100000)(hm:m<100000):nK (dk n A) (dk m B)=some (dl (A+B)):=by
 have hM:max n m<100000:=by omega
 obtain⟨Ki,hB'⟩:=pmax hA hB
 have hl:=qm (b:=jq (dk n A) (dk m B)) (s0:=(([]:List Int),(0:Int),(0:Int))) (fun k=>(dk k (A+B),(((A % 65536 ^ k+B % 65536 ^ k) / 65536 ^ k:Nat):Int),(k:Int))) (max n m+1) (dk (max n m+1) (A+B))
  (by simp only[fI,mm];rfl)
  (fun k hk=>by
   have hc:=nR (b:=65536) (A:=A) (B:=B) (k:=k) (by decide)
   obtain⟨h1,h2⟩:=oJ (b:=65536) (A:=A) (B:=B) (k:=k) (by decide)
   have ha:=@jX A k
   have hb:=@jX B k
   have Oj:=nR (b:=65536) (A:=A) (B:=B) (k:=k+1) (by decide)
   generalize (A % 65536 ^ k+B % 65536 ^ k) / 65536 ^ k=c at h1 h2 hc ⊢
   generalize (A % 65536 ^ (k+1)+B % 65536 ^ (k+1)) / 65536 ^ (k+1)=c' at h2 Oj ⊢
   dsimp only[jq]
   rw[cw,cw,AG,cd,bt _ _,sU hA,ab,sU hB,ab,cd (z:=(dg 65536 A k:Int)+(dg 65536 B k:Int)) (by omega),cd,ab,←kP,←kP,show (65536:Int)=((65536:Nat):Int) from rfl,←rp,←rr,pi (dg 65536 A k+dg 65536 B k),←pK,h1,h2,wJ,cw,aJ,cd (z:=(c':Int)) (by omega),cd]
   rfl)
  (by
   dsimp only[jq]
   rw[cw,cw,AG,cd,bu _ _])
 unfold nK
 have:A+B<65536 ^ (max n m+1):=by rw[eH];omega
 rw[hl,ab,v6 this (by omega),ab]
theorem HA {n m A B:Nat}(hA:A<65536 ^ n)(hB:B<65536 ^ m)(hn:n<100000)(hBA:B≤A):kH (dk n A) (dk m B)=some (dl (A - B)):=by
 obtain⟨D,rfl⟩:∃D,A=D+B:=⟨A - B,by omega⟩
 rw[Bu]
 have hl:=qm (b:=iA (dk n (D+B)) (dk m B)) (s0:=(([]:List Int),(0:Int),(0:Int))) (fun k=>(dk k D,(((D % 65536 ^ k+B % 65536 ^ k) / 65536 ^ k:Nat):Int),(k:Int))) n (dk n D)
  (by simp only[fI,mm];rfl)
  (fun k hk=>by
   have hc:=nR (b:=65536) (A:=D) (B:=B) (k:=k) (by decide)
   have Oj:=nR (b:=65536) (A:=D) (B:=B) (k:=k+1) (by decide)
   obtain⟨h1,h2⟩:=oJ (b:=65536) (A:=D) (B:=B) (k:=k) (by decide)
   have ha:=@jX D k
   have hb:=@jX B k
   have hd:=@jX (D+B) k
   generalize hq:(D % 65536 ^ k+B % 65536 ^ k) / 65536 ^ k=c at h1 h2 hc ⊢
   generalize (D % 65536 ^ (k+1)+B % 65536 ^ (k+1)) / 65536 ^ (k+1)=c' at h2 Oj ⊢
   dsimp only[iA]
   rw[cw,bt _ _,aJ,sU hB,ab,bH,py hk,cd (z:=(dg 65536 (D+B) k:Int) - (dg 65536 B k:Int)) (by omega),cd,ab]
   by_cases hn0:(dg 65536 (D+B) k:Int) - (dg 65536 B k:Int) - (c:Int)<0
   ·obtain rfl:c'=1:=by omega
    rw[bt _ _ hn0,ab,cd]
    dsimp only
    rw[show (dg 65536 (D+B) k:Int) - (dg 65536 B k:Int) - (c:Int)+65536=(dg 65536 D k:Int) from by omega,wJ,cw,aJ,cd]
    rfl
   ·obtain rfl:c'=0:=by omega
    rw[bu _ _ hn0,ab]
    dsimp only
    rw[show (dg 65536 (D+B) k:Int) - (dg 65536 B k:Int) - (c:Int)=(dg 65536 D k:Int) from by omega,wJ,cw,aJ,cd]
    rfl)
  (by
   dsimp only[iA]
   rw[cw,bu _ _])
 unfold kH
 rw[hl,ab,v6 (by omega) (by omega),ab]
theorem wH {A B k:Nat}(he:A / 65536 ^ (k+1)=B / 65536 ^ (k+1))(h:dg 65536 A k<dg 65536 B k):A<B:=by
 have e1:=cm (b:=65536) (A:=A) (k:=k)
 have e2:=cm (b:=65536) (A:=B) (k:=k)
 have h1:A / 65536 ^ k<B / 65536 ^ k:=by
  rw[e1,e2,he];exact t3 h _
 rcases ck A B with h2|h2
 ·exact h2
 ·exact absurd (Jm h2) (Nat.not_le.2 h1)
theorem G_dless {n m A B:Nat}(hA:A<65536 ^ n)(hB:B<65536 ^ m)(hn:n<100000)(hm:m<100000):nL (dk n A) (dk m B)=some (decide (A<B)):=by
 obtain⟨Ki,hB'⟩:=pmax hA hB
 obtain⟨x,hl,hx⟩:=uT (b:=kj (dk n A) (dk m B)) (fun s=>∃k:Nat,s=(k:Int) - 1∧k≤max n m∧A / 65536 ^ k=B / 65536 ^ k) (fun s=>(s+1).toNat) (fun x=>match x with| .inl r=>r=decide (A<B)| .inr _=>A=B)
  (by
   rintro s ⟨k,rfl,hk,he⟩
   cases k with
   |zero=>
    right
    refine⟨(Sum.inr ():Bool⊕Unit),?_,?_⟩
    ·dsimp only[kj]
     rw[bu _ _]
    ·simpa using he
   |succ k=>
    have e:((k+1:Nat):Int) - 1=(k:Int):=by omega
    rw[e]
    dsimp only[kj]
    rw[bt _ _,sU hA,ab,sU hB,ab]
    by_cases hd:dg 65536 A k=dg 65536 B k
    ·left
     refine⟨(k:Int) - 1,?_,⟨k,rfl,by omega,?_⟩,by omega⟩
     ·rw[bu _ _ (by rw[hd];simp),cd]
     ·rw[cm (b:=65536) (A:=A) (k:=k),cm (b:=65536) (A:=B) (k:=k),he,hd]
    ·right
     refine⟨(Sum.inl (decide (A<B)):Bool⊕Unit),?_,rfl⟩
     rw[bt _ _,ab,ab]
     congr 3
     refine mW.2 ?_
     rcases Nat.lt_or_gt_of_ne hd with h|h
     ·have:=wH he h
      exact⟨fun _=>this,fun _=>by omega⟩
     ·have:=wH he.symm h
      exact⟨fun h'=>by omega,fun h'=>by omega⟩) (((max n m:Nat):Int) - 1) ⟨max n m,rfl,aL _,by rw[dv Ki,dv hB']⟩
 unfold nL
 rw[cw,cw,AG,cd,ab,hl,ab]
 cases x with
 |inl r=>obtain rfl:r=_:=hx;rfl
 |inr u=>
  obtain rfl:A=B:=hx
  simp
section
variable {b:Nat} {f g:Nat→Nat}
theorem FT:∀n,(∀j,j<n→f j=g j)→fQ b f n=fQ b g n
 |0,_=>rfl
 |n+1,h=>by
  unfold fQ
  rw[FT n fun j hj=>h j (by omega),h n (by omega)]
theorem FQ {q x:Nat}:∀n,q<n→fQ b (fun j=>if j=q then f j+x else f j) n=fQ b f n+x*b ^ q
 |0,h=>by omega
 |n+1,h=>by
  unfold fQ
  by_cases hq:q=n
  ·subst hq
   rw[ay rfl,FT q (g:=f) fun j hj=>ifn_,bk];omega
  ·rw[ifn_,FQ n (by omega)];omega
theorem JF {A:Nat}:∀n,fQ b (dg b A) n=A % b ^ n
 |0=>by simp[fQ,mm]
 |n+1=>by
  unfold fQ
  rw[JF n,ge,cj]
theorem FR(k:Nat):∀n,k≤n→fQ b f n % b ^ k=fQ b f k % b ^ k
 |0,h=>by
  obtain rfl:k=0:=by omega
  rfl
 |n+1,h=>by
  by_cases hk:k=n+1
  ·rw[hk]
  ·have tJ:k≤n:=by omega
   obtain⟨d,rfl⟩:∃d,n=k+d:=⟨n - k,by omega⟩
   rw[←FR k (k+d) tJ]
   show (fQ b f (k+d)+f (k+d)*b ^ (k+d)) % b ^ k=_
   rw[gy,yJ,yI]
theorem JE {M:Nat}(hb:2≤b):∀n,(∀j,j<n→f j≤M)→fQ b f n≤M*b ^ n
 |0,_=>by simp[fQ]
 |n+1,h=>by
  have ih:=JE hb n fun j hj=>h j (by omega)
  have h1:f n*b ^ n≤M*b ^ n:=ci _ (h n (by omega))
  have h2:M*b ^ n*2≤M*b ^ n*b:=tZ _ hb
  unfold fQ
  rw[eH,←eV]
  omega
theorem Lo {n k:Nat}(hb:0<b)(hk:k<n):(fQ b f k / b ^ k+f k) % b=dg b (fQ b f n) k∧(fQ b f k / b ^ k+f k) / b=fQ b f (k+1) / b ^ (k+1):=by
 have hp:0<b ^ k:=cJ hb
 have e:fQ b f (k+1) / b ^ k=fQ b f k / b ^ k+f k:=by
  show (fQ b f k+f k*b ^ k) / b ^ k=_
  rw[I7 _ _ hp]
 refine⟨?_,?_⟩
 ·rw[←e,←mR (A:=fQ b f n) (k:=k+1) (cr _),FR (k+1) n hk,mR (cr _)]
  rfl
 ·rw[←e,gb,←eH]
end
theorem Lc {n m A B i:Nat}(hi:i<n)(hn:n<1000)(hm:m<1000)(hB:B<65536 ^ m){R:Nat}(hR:R<65536 ^ (n+m+1)):
  ∃f:Nat→Nat,a5 (iz (dk n A) (dk m B) (i:Int)) ((0:Int),dk (n+m+1) R)=some (lF (n+m+1) f)∧fQ 65536 f (n+m+1)=R+dg 65536 A i*B*65536 ^ i∧∀j,f j≤65535+65535*65535:=by
 have ha:=@jX A i
 have eP:i64.wrap ((i64.wrap (((dk n A).length:Int)+((dk m B).length:Int)))+(1:Int))=((n+m+1:Nat):Int):=by
  rw[cw,cw,cd (z:=(n:Int)+(m:Int)) (by omega),cd];omega
 obtain⟨x,hl,f,rfl,h1,h2⟩:=uT (b:=iz (dk n A) (dk m B) (i:Int)) (fun s=>∃(k:Nat) (f:Nat→Nat),s=((k:Int),lF (n+m+1) f)∧k≤m∧fQ 65536 f (n+m+1)=R+dg 65536 A i*(B % 65536 ^ k)*65536 ^ i∧(∀j,f j≤65535+65535*65535)∧∀j,i+k≤j→f j≤65535) (fun s=>m - s.1.toNat)
  (fun x=>∃f:Nat→Nat,x=lF (n+m+1) f∧fQ 65536 f (n+m+1)=R+dg 65536 A i*B*65536 ^ i∧∀j,f j≤65535+65535*65535)
  (by
   rintro s ⟨k,f,rfl,hk,hv,hf,hf2⟩
   dsimp only[iz]
   rw[eP,bH,cw,cw,cw]
   by_cases hkm:k<m
   ·left
    have eik:i64.wrap ((i:Int)+(k:Int))=((i+k:Nat):Int):=by rw[cd];omega
    have hb:=@jX B k
    have yk:dg 65536 A i*dg 65536 B k≤65535*65535:=pY (by omega) (by omega)
    have hfk:=hf2 (i+k) (aL _)
    rw[bt _ _,eik,aJ,aJ,aJ,aJ,ab,bH,bH,bH,py (by omega),py hi,py hkm,←oH,cd (z:=((dg 65536 A i*dg 65536 B k:Nat):Int)) (by omega),←kP,cd (z:=((f (i+k)+dg 65536 A i*dg 65536 B k:Nat):Int)) (by omega),Ig,cd]
    have e:lF (n+m+1) (fun j=>if j=i+k then f (i+k)+dg 65536 A i*dg 65536 B k else f j)=lF (n+m+1) (fun j=>if j=i+k then f j+dg 65536 A i*dg 65536 B k else f j):=sB fun j _=>by
     by_cases h:j=i+k
     ·rw[ay h,ay h,h]
     ·rw[aA h,aA h]
    refine⟨_,rfl,⟨k+1,(fun j=>if j=i+k then f j+dg 65536 A i*dg 65536 B k else f j),by rw[e];rfl,by omega,?_,fun j=>?_,fun j hj=>?_⟩,by show m - ((k:Int)+1).toNat<m - (k:Int).toNat;omega⟩
    ·rw[FQ _ (by omega),hv,ge,sO,bk,gy]
     simp only[eV,yJ,cj,pK]
    ·dsimp only
     by_cases h:j=i+k
     ·rw[ay h,h];omega
     ·rw[aA h];exact hf j
    ·dsimp only
     rw[ifn_];exact hf2 j (by omega)
   ·right
    obtain rfl:k=m:=by omega
    refine⟨_,by rw[bu _ _],f,rfl,?_,hf⟩
    rw[hv,dK hB])
  ((0:Int),dk (n+m+1) R) ⟨0,dg 65536 R,rfl,dU _,by rw[JF,fI,mm,E4,fe,dK hR,lc],fun j=>by have:=@jX R j;omega,fun j _=>by have:=@jX R j;omega⟩
 exact⟨f,hl,h1,h2⟩
theorem HU {n m A B:Nat}(hn:n<1000)(hm:m<1000){f:Nat→Nat}(hf:∀j,f j≤65535+65535*65535):
  a5 (fU (dk n A) (dk m B)) ((0:Int),(0:Int),lF (n+m+1) f)=some (dk (n+m+1) (fQ 65536 f (n+m+1))):=by
 have eP:i64.wrap ((i64.wrap (((dk n A).length:Int)+((dk m B).length:Int)))+(1:Int))=((n+m+1:Nat):Int):=by
  rw[cw,cw,cd (z:=(n:Int)+(m:Int)) (by omega),cd];omega
 have hl:=qm (b:=fU (dk n A) (dk m B)) (s0:=((0:Int),(0:Int),lF (n+m+1) f)) (fun k=>(((fQ 65536 f k / 65536 ^ k:Nat):Int),(k:Int),lF (n+m+1) (fun j=>if j<k then dg 65536 (fQ 65536 f (n+m+1)) j else f j))) (n+m+1) (lF (n+m+1) (fun j=>if j<n+m+1 then dg 65536 (fQ 65536 f (n+m+1)) j else f j))
  (by
   rw[show fQ 65536 f 0 / 65536 ^ 0=0 from by simp[fQ],sB (n:=n+m+1) (f:=fun j=>if j<0 then dg 65536 (fQ 65536 f (n+m+1)) j else f j) (g:=f) fun j _=>ifn_]
   rfl)
  (fun k hk=>by
   obtain⟨h1,h2⟩:=Lo (b:=65536) (f:=f) (n:=n+m+1) (k:=k) (by decide) hk
   have hc:fQ 65536 f k / 65536 ^ k≤65535+65535*65535:=by
    have:=JE (b:=65536) (f:=f) (by decide) k fun j _=>hf j
    exact Nat.div_le_of_le_mul (by rw[cj];exact this)
   have hfk:=hf k
   generalize fQ 65536 f k / 65536 ^ k=c at h1 h2 hc ⊢
   generalize fQ 65536 f (k+1) / 65536 ^ (k+1)=c' at h2 ⊢
   dsimp only[fU]
   rw[eP,bH,cw,bt _ _,aJ,ab,aJ,bH,py hk,aA (Bs _),←kP,pi (f k),cd (z:=((c+f k:Nat):Int)) (by omega),show (65536:Int)=((65536:Nat):Int) from rfl,←rp,←rr,h1,h2,cd (z:=(c':Int)) (by omega),cd,Ig]
   have e:lF (n+m+1) (fun j=>if j=k then dg 65536 (fQ 65536 f (n+m+1)) k else if j<k then dg 65536 (fQ 65536 f (n+m+1)) j else f j)=lF (n+m+1) (fun j=>if j<k+1 then dg 65536 (fQ 65536 f (n+m+1)) j else f j):=sB fun j _=>by
    by_cases h:j=k
    ·rw[ay h,ifp_,h]
    ·rw[aA h]
     by_cases h3:j<k
     ·rw[ay h3,ifp_]
     ·rw[aA h3,ifn_]
   rw[e]
   rfl)
  (by
   dsimp only[fU]
   rw[eP,bH,bu _ _])
 rw[hl]
 congr 1
 exact sB fun j hj=>ay hj
theorem PP {n m A B:Nat}(hA:A<65536 ^ n)(hB:B<65536 ^ m)(hn:n<1000)(hm:m<1000):my (dk n A) (dk m B)=some (dl (A*B)):=by
 have eP:i64.wrap ((i64.wrap (((dk n A).length:Int)+((dk m B).length:Int)))+(1:Int))=((n+m+1:Nat):Int):=by
  rw[cw,cw,cd (z:=(n:Int)+(m:Int)) (by omega),cd];omega
 have hbnd:∀i,A % 65536 ^ i*B<65536 ^ (n+m+1):=fun i=>by
  have h1:A % 65536 ^ i*B≤A*B:=ci _ (Nat.mod_le _ _)
  have h2:A*B<65536 ^ n*65536 ^ m:=yG hA hB
  have h3:65536 ^ n*65536 ^ m≤65536 ^ (n+m+1):=by rw[←gy];exact g9 (by decide) (by omega)
  omega
 have hl:=qm (b:=jp (dk n A) (dk m B)) (s0:=((0:Int),List.replicate (n+m+1) (0:Int))) (fun i=>((i:Int),dk (n+m+1) (A % 65536 ^ i*B))) n (dk (n+m+1) (A % 65536 ^ n*B))
  (by
   rw[Nm,fI,mm,fe]
   have:dk (n+m+1) 0=lF (n+m+1) (fun _=>0):=sB fun j _=>by unfold dg;simp
   rw[this];rfl)
  (fun i hi=>by
   obtain⟨f,h1,h2,h3⟩:=Lc (A:=A) (i:=i) hi hn hm hB (hbnd i)
   dsimp only[jp]
   rw[cw,bt _ _,h1,ab,HU hn hm h3,ab,h2,cd,ge,bk]
   have:65536 ^ i*dg 65536 A i*B=dg 65536 A i*B*65536 ^ i:=by simp only[eV,yJ,cj]
   rw[this]
   rfl)
  (by
   dsimp only[jp]
   rw[cw,bu _ _])
 unfold my
 rw[eP,aJ,bH,hl,ab,cw,aJ rfl,dK hA,v6 (by have:=hbnd n;rwa[dK hA] at this) (by omega),ab]
end
theorem dg_cons {R d i:Nat}(hd:d<65536):dg 65536 (R*65536+d) (i+1)=dg 65536 R i:=by
 have e:(R*65536+d) / 65536=R:=by omega
 unfold dg
 rw[eH,cj (65536 ^ i),←gb,e]
theorem G_at {n A k:Nat}(hA:A<65536 ^ n):gQ (dk n A) (k:Int)=some ((dg 65536 A k:Nat):Int):=by
 unfold gQ
 rw[bu _ _,sU hA,ab]
theorem PU {l:List Int}{k:Int}(h:k<0):gQ l k=some 0:=by
 unfold gQ
 rw[bt _ _ h]
def wI(A:Nat)(m:Nat):Nat:=if m<2 then 0 else dg 65536 A (m - 2)
theorem J3 {A m:Nat}:wI A m<65536:=by
 unfold wI;split
 ·omega
 ·exact jX
theorem G_at2 {n A m:Nat}(hA:A<65536 ^ n)(hm:0<m)(hm2:m<100000):gQ (dk n A) (i64.wrap ((m:Int) - (2:Int)))=some ((wI A m:Nat):Int):=by
 unfold wI
 rw[cd]
 by_cases h:m<2
 ·rw[ay h,PU (by omega)];rfl
 ·rw[aA h,show (m:Int) - 2=((m - 2:Nat):Int) from by omega,G_at hA]
def IK(x0 x1 x2:Nat):Nat:=x0*4294967296+x1*65536+x2
theorem LL {x0 x1 x2:Nat}(h0:x0<65536)(h1:x1<65536)(h2:x2<65536):i64.wrap ((i64.wrap ((i64.wrap ((x0:Int)*(4294967296:Int)))+(i64.wrap ((x1:Int)*(65536:Int)))))+(x2:Int))=((IK x0 x1 x2:Nat):Int):=by
 unfold IK
 rw[cd (z:=(x0:Int)*(4294967296:Int)) (by omega),cd (z:=(x1:Int)*(65536:Int)) (by omega),cd (z:=(x0:Int)*4294967296+(x1:Int)*65536) (by omega),cd]
 omega
theorem est3_lt {x0 x1 x2:Nat}(h0:x0<65536)(h1:x1<65536)(h2:x2<65536):IK x0 x1 x2<281474976710656:=by
 unfold IK;omega
theorem quo_w {S T:Nat}(h:S<281474976710656):i64.wrap (Int.tdiv (S:Int) (T:Int))=((S / T:Nat):Int):=by
 have:=tY S T
 rw[←rr]
 generalize S / T=q at this ⊢
 rw[cd]
theorem min_w {e:Nat}:min (65535:Int) (e:Int)=((min 65535 e:Nat):Int):=by omega
theorem est_ge {X B m:Nat}(hm:0<m)(hB:B<65536 ^ m)(hB1:65536 ^ (m - 1)≤B)(hX:X<B*65536):
  X / B≤IK (dg 65536 X m) (dg 65536 X (m - 1)) (wI X m) / (dg 65536 B (m - 1)*65536+wI B m):=by
 unfold IK
 have GT:0<B:=bW (cJ (by decide)) hB1
 have hXm:X<65536 ^ (m+1):=by
  rw[eH];exact bW hX (ci _ (kQ hB))
 by_cases h:m<2
 ·obtain rfl:m=1:=by omega
  have eX:X=dg 65536 X 1*65536+dg 65536 X 0:=by
   have:=cm (b:=65536) (A:=X) (k:=0)
   rw[fI,mX] at this
   have e2:=cm (b:=65536) (A:=X) (k:=1)
   rw[dv hXm,fe,bq] at e2
   rw[←e2];exact this
  have eB:B=dg 65536 B 0:=by
   have:=cm (b:=65536) (A:=B) (k:=0)
   rw[fI,mX,dv hB,fe,bq] at this
   exact this
  unfold wI
  rw[ifp_,ifp_,lc,lc,show 1 - 1=0 from rfl,←eB]
  have:dg 65536 X 1*4294967296+dg 65536 X 0*65536=X*65536:=by omega
  rw[this,Nat.mul_div_mul_right _ _ (by decide)]
  exact aL _
 ·obtain⟨p,rfl⟩:∃p,m=p+2:=⟨m - 2,by omega⟩
  have hp:0<65536 ^ p:=cJ (by decide)
  have eX:X / 65536 ^ p=dg 65536 X (p+2)*4294967296+dg 65536 X (p+1)*65536+dg 65536 X p:=by
   have e0:=cm (b:=65536) (A:=X) (k:=p)
   have e1:=cm (b:=65536) (A:=X) (k:=p+1)
   have e2:=cm (b:=65536) (A:=X) (k:=p+2)
   rw[dv hXm,fe,bq] at e2
   rw[e0,e1,show p+1+1=p+2 from rfl,e2,bk,eV]
  have eB:B / 65536 ^ p=dg 65536 B (p+1)*65536+dg 65536 B p:=by
   have e0:=cm (b:=65536) (A:=B) (k:=p)
   have e1:=cm (b:=65536) (A:=B) (k:=p+1)
   rw[dv hB,fe,bq] at e1
   rw[e0,e1]
  unfold wI
  rw[aA h,aA h,show p+2 - 2=p from rfl,show p+2 - 1=p+1 from rfl,←eX,←eB]
  have hT:0<B / 65536 ^ p:=by
   refine BK (cX ?_ hB1) hp
   exact g9 (by decide) (by omega)
  rw[oG hT,oG hp,eV]
  refine cX (tZ _ (Jo _ _)) ?_
  rw[cj]
  exact Nat.mul_div_le _ _
theorem Gx {X B d:Nat}(hB:0<B):X<B*d↔X / B<d:=by
 rw[oh hB,cj]
theorem OH {X B m:Nat}(hm:m<900)(hB:B<65536 ^ m)(GT:0<B)(hXs:sz6 X≤m+1)(d:Nat)(hd:X / B≤d)(GK:d≤65535):
  a5 (gO (dk m B) (dl X)) ((d:Int),dl (B*d))=some (((X / B:Nat):Int),dl (B*(X / B))):=by
 obtain⟨x,hl,hx⟩:=uT (b:=gO (dk m B) (dl X)) (fun s=>∃d:Nat,s=((d:Int),dl (B*d))∧X / B≤d∧d≤65535) (fun s=>s.1.toNat) (fun x=>x=(((X / B:Nat):Int),dl (B*(X / B))))
  (by
   rintro s ⟨d,rfl,h1,h2⟩
   have hBd:B*d<65536 ^ (m+1):=by
    rw[eH];exact Nat.mul_lt_mul_of_lt_of_le hB (by omega) (by decide)
   have hsz:=ri hBd
   dsimp only[gO]
   rw[G_dless (jQ X) (jQ (B*d)) (by omega) (by omega),ab]
   by_cases bI:X<B*d
   ·left
    have h3:=(Gx GT).1 bI
    have Es:0<d:=fj (dU _) h3
    have h4:B≤B*d:=yD _ Es
    refine⟨_,by rw[bt _ _ bI,HA (jQ (B*d)) hB (by omega) h4,ab,cd],⟨d - 1,?_,by omega,by omega⟩,?_⟩
    ·rw[Nat.mul_sub,pE]
     congr 1
     omega
    ·show ((d:Int) - 1).toNat<((d:Nat):Int).toNat
     omega
   ·right
    have h3:=mt (Gx GT).2 bI
    obtain rfl:d=X / B:=by omega
    exact⟨_,by rw[bu _ _ bI],rfl⟩) ((d:Int),dl (B*d)) ⟨d,rfl,hd,GK⟩
 rw[hl,hx]
set_option maxRecDepth 10000 in
theorem PQ {A B:Nat}(hA:sz6 A<800)(hBs:sz6 B<800)(GT:0<B):jr (dl A) (dl B)=some (dl (A / B),dl (A % B)):=by
 obtain⟨m,hm⟩:∃m,m=sz6 B:=⟨_,rfl⟩
 obtain⟨n,hn⟩:∃n,n=sz6 A:=⟨_,rfl⟩
 have hB:=jQ B
 have hB1:=(wr B).2 (zW GT)
 have hm0:=zW GT
 have hAn:=jQ A
 show jr (dk (sz6 A) A) (dk (sz6 B) B)=_
 rw[←hm] at hB hB1 hm0 hBs ⊢
 rw[←hn] at hAn hA ⊢
 have cE:1≤dg 65536 B (m - 1):=by
  have:=cm (b:=65536) (A:=B) (k:=m - 1)
  rw[show m - 1+1=m from by omega,dv hB,fe,bq] at this
  rw[←this]
  exact (oG (cJ (by decide))).2 (by rw[dh];exact hB1)
 have hbl:=@jX B (m - 1)
 have hll:=@J3 B m
 have em1:i64.wrap ((m:Int) - (1:Int))=((m - 1:Nat):Int):=by rw[cd];omega
 have hm5:m<100000:=by omega
 have htop:((dg 65536 B (m - 1)*65536+wI B m:Nat):Int)≠0:=by omega
 have hl:=Ni (b:=gP (dk n A) (dk m B) ((dg 65536 B (m - 1)*65536+wI B m:Nat):Int)) (s0:=(([]:List Int),(n:Int) - 1,List.replicate n (0:Int))) (fun k=>(dl (A / 65536 ^ k % B),(k:Int) - 1,lF n (fun j=>if k≤j then dg 65536 (A / B) j else 0))) n (dl (A / 65536 ^ 0 % B),lF n (fun j=>if 0≤j then dg 65536 (A / B) j else 0))
  (by
   rw[dv hAn,Nat.zero_mod,dl_zero,Nm]
   congr 2
   exact sB fun j hj=>ifn_)
  (fun k hk=>by
   obtain⟨h1,h2⟩:=vi (b:=65536) (A:=A) (k:=k) (d:=B) (by decide) GT
   have hr:=dA (A / 65536 ^ (k+1)) GT
   have ha:=@jX A k
   generalize A / 65536 ^ (k+1) % B=R at h1 h2 hr ⊢
   generalize A / 65536 ^ k % B=R' at h2 ⊢
   have hX:R*65536+dg 65536 A k<B*65536:=by
    have:(R+1)*65536≤B*65536:=ci _ hr
    omega
   have hRs:sz6 R≤m:=ri (by omega)
   have hXm:R*65536+dg 65536 A k<65536 ^ (m+1):=by
    rw[eH];exact bW hX (ci _ (kQ hB))
   have hXs:=ri hXm
   have hcons:[(dg 65536 A k:Int)]++dl R=dk (sz6 R+1) (R*65536+dg 65536 A k):=by
    unfold dl
    rw[lF_cons]
    exact sB fun j hj=>by
     by_cases hj0:j=0
     ·subst hj0
      rw[ay rfl]
      unfold dg
      rw[fI,mX]
      have:=@jX A k
      unfold dg at this
      omega
     ·rw[aA hj0]
      obtain⟨i,rfl⟩:∃i,j=i+1:=⟨j - 1,by omega⟩
      exact (dg_cons ha).symm
   have hXlt:R*65536+dg 65536 A k<65536 ^ (sz6 R+1):=by
    have:=jQ R
    rw[eH]
    have h3:(R+1)*65536≤65536 ^ sz6 R*65536:=ci _ this
    rw[bk,dh] at h3
    exact bW (t3 ha _) h3
   have hszR:sz6 R+1<1000:=by
    have:=fj hRs hBs
    exact bW (Nat.succ_lt_succ this) (by decide)
   have ei:((k+1:Nat):Int) - 1=(k:Int):=by omega
   have LA:=est_ge hm0 hB hB1 hX
   have d1:=@jX (R*65536+dg 65536 A k) m
   have d2:=@jX (R*65536+dg 65536 A k) (m - 1)
   have d3:=@J3 (R*65536+dg 65536 A k) m
   have hqk:(R*65536+dg 65536 A k) / B<65536:=(oh GT).2 (by rw[cj 65536 B];exact hX)
   dsimp only[gP]
   rw[ei,bt _ _ (EW k)]
   rw[cw,cw,cw]
   rw[aJ (show (0:Int)≤(k:Int)∧(k:Int)<(n:Int) from⟨EW k,Int.ofNat_lt.2 hk⟩)]
   rw[bH,bH]
   rw[py hk,hcons,cw]
   rw[aJ (show (sz6 R+1)*8≤140737488355328 from cX (ci _ (kQ hszR)) (by decide))]
   rw[v6 hXlt (yF hszR (by decide)),ab,G_at (jQ _),ab]
   rw[show i64.wrap ((m:Int) - (1:Int))=((m - 1:Nat):Int) from em1,G_at (jQ _),ab,G_at2 (jQ _) hm0 hm5,ab,aJ htop]
   obtain⟨X,hX2⟩:∃X,X=R*65536+dg 65536 A k:=⟨_,rfl⟩
   rw[←hX2] at h1 h2 hX hXm hXs hXlt LA d1 d2 d3 hqk ⊢
   generalize dg 65536 X m=x0 at LA d1 ⊢
   generalize dg 65536 X (m - 1)=x1 at LA d2 ⊢
   generalize wI X m=x2 at LA d3 ⊢
   have hS:=est3_lt d1 d2 d3
   rw[LL d1 d2 d3,quo_w hS]
   generalize IK x0 x1 x2 / (dg 65536 B (m - 1)*65536+wI B m)=e at LA ⊢
   have Mc:X / B≤min 65535 e:=Nat.le_min.2 ⟨Nat.le_of_lt_succ hqk,LA⟩
   have GK:min 65535 e≤65535:=Nat.min_le_left ..
   rw[min_w,ab]
   generalize min 65535 e=d at Mc GK ⊢
   have e1:[(d:Int)]=dk 1 d:=by
    show _=lF 1 _
    unfold lF dg
    simp only[List.range_one,cD,dT,fI,mX]
    rw[dK (by omega)]
   have hmul:B*(X / B)≤X:=Nat.mul_div_le _ _
   have hms:sz6 (B*(X / B))≤m+1:=ri (by omega)
   rw[e1,PP hB (by rw[t4];omega) (by omega) (by omega),ab,OH (by omega) hB GT hXs d Mc GK,ab]
   dsimp only
   rw[aJ,HA (jQ X) (jQ _) (by omega) hmul,ab,cd,Ig]
   have em:X - B*(X / B)=X % B:=by have:=og X B;omega
   rw[em,h2,h1]
   have ef:lF n (fun j=>if j=k then dg 65536 (A / B) k else if k+1≤j then dg 65536 (A / B) j else 0)=lF n (fun j=>if k≤j then dg 65536 (A / B) j else 0):=sB fun j _=>by
    by_cases h:j=k
    ·rw[ay h,ifp_,h]
    ·rw[aA h]
     by_cases h3:k+1≤j
     ·rw[ay h3,ifp_]
     ·rw[aA h3,ifn_]
   rw[ef])
  (by
   dsimp only[gP]
   rw[bu _ _])
 have hq:A / B<65536 ^ n:=fj (tY _ _) hAn
 unfold jr
 rw[cw,cw,aJ,show i64.wrap ((m:Int) - (1:Int))=((m - 1:Nat):Int) from by rw[cd];omega,aJ,G_at2 hB hm0 (by omega),ab,bH,bH,py (by omega),cd (z:=(dg 65536 B (m - 1):Int)*65536) (by omega),cd,ab,cd,ab,show (dg 65536 B (m - 1):Int)*65536+(wI B m:Int)=((dg 65536 B (m - 1)*65536+wI B m:Nat):Int) from by omega,hl,ab]
 dsimp only
 rw[cw,aJ rfl,sB (n:=n) (f:=fun j=>if 0≤j then dg 65536 (A / B) j else 0) (g:=dg 65536 (A / B)) fun j _=>ay (dU _),v6 hq (by omega),ab,fI,mX]
theorem LIM6:LIM=65536 ^ 32:=by decide +kernel
theorem Ky {A k:Nat}:dg 4294967296 A k=dg 65536 A (2*k+1)*65536+dg 65536 A (2*k):=by
 have e:(4294967296:Nat) ^ k=65536 ^ (2*k):=by rw[Dw]
 unfold dg
 rw[e,eH,←gb]
 omega
theorem PT {x:aq}{A:Nat}(hx:x.vW=W A)(hA:A<LIM):d9 x=some (dl A):=by
 have hl:=qm (b:=iB x) (s0:=(([]:List Int),(0:Int))) (fun k=>(dk (2*k) A,(k:Int))) 16 (dk 32 A)
  (by rfl)
  (fun k hk=>by
   have hp:=Ky (A:=A) (k:=k)
   have h0:=@jX A (2*k)
   have h1:=@jX A (2*k+1)
   dsimp only[iB]
   rw[bt _ _,aJ,aJ,hx,bH,fY hk]
   have e1:i64.wrap (Int.tmod (dg 4294967296 A k:Int) (65536:Int))=(dg 65536 A (2*k):Int):=by
    rw[show (65536:Int)=((65536:Nat):Int) from rfl,←rp,cd];omega
   have e2:i64.wrap (u32.wrap (Int.tdiv (dg 4294967296 A k:Int) (65536:Int)))=(dg 65536 A (2*k+1):Int):=by
    rw[show (65536:Int)=((65536:Nat):Int) from rfl,←rr,xC,cd];omega
   rw[e1,e2,show dk (2*k) A++[(dg 65536 A (2*k):Int),(dg 65536 A (2*k+1):Int)]=(dk (2*k) A++[(dg 65536 A (2*k):Int)])++[(dg 65536 A (2*k+1):Int)] from by rw[dW];rfl,wJ,wJ,cw,aJ,cd]
   rfl)
  (by
   dsimp only[iB]
   rw[bu _ _])
 unfold d9
 rw[hl,ab,v6 (by rw[←LIM6];exact hA) (by decide),ab]
theorem PI:lI=some He:=by unfold lI;rw[r16];rfl
theorem M4 {n A:Nat}(hn:n≤32)(neg:Bool):
  a5 (fE (dk n A)) ((0:Int),(⟨false,neg,W 0⟩:aq))=some (⟨false,neg,W (A % 65536 ^ n)⟩:aq):=by
 have hb:0<(4294967296:Nat):=by decide
 have hl:=qm (b:=fE (dk n A)) (s0:=((0:Int),(⟨false,neg,W 0⟩:aq))) (fun k=>((k:Int),(⟨false,neg,W (A % 65536 ^ k)⟩:aq))) n (⟨false,neg,W (A % 65536 ^ n)⟩:aq)
  (by rw[fI,mm];rfl)
  (fun k hk=>by
   have h0:=@jX A k
   have bI:A % 65536 ^ k<65536 ^ k:=dA _ (cJ (by decide))
   have hdiv:i64.wrap (Int.tdiv (k:Int) (2:Int))=((k / 2:Nat):Int):=by
    rw[show (2:Int)=((2:Nat):Int) from rfl,←rr,cd]
   have e1:=Ky (A:=A % 65536 ^ k) (k:=k / 2)
   have hu:=fun x:Nat=>HT (b:=4294967296) (A:=A % 65536 ^ k) (p:=k / 2) (x:=x)
   dsimp only[fE]
   rw[cw,bt _ _,hdiv,aJ,aJ,aJ,ab,aJ,aJ,aJ,ab,bH,bH,fY (by omega),py hk,show (2:Int)=((2:Nat):Int) from rfl,←rp,xC (n:=dg 65536 A k) (by omega),jb]
   have rx:A % 65536 ^ (k+1)=A % 65536 ^ k+65536 ^ k*dg 65536 A k:=ge
   have hpow:(4294967296:Nat) ^ (k / 2)=65536 ^ (2*(k / 2)):=by rw[Dw]
   by_cases he:k % 2=0
   ·have yh:2*(k / 2)=k:=by omega
    have d0:dg 4294967296 (A % 65536 ^ k) (k / 2)=0:=by
     rw[e1,yh,kZ bI,kZ (bW bI (g9 (by decide) (by omega)))]
    rw[ifp_,ab,d0,←kP,xC,xA hb (by omega) (by omega),cd]
    have:=hu (0+dg 65536 A k)
    rw[d0,hpow,yh] at this
    rw[fe,lc,bq] at this
    rw[show up1 4294967296 (A % 65536 ^ k) (k / 2) (0+dg 65536 A k)=A % 65536 ^ (k+1) from by rw[rx,cj (65536 ^ k),bq];exact this]
    rfl
   ·have yh:2*(k / 2)+1=k:=by omega
    have d1:dg 4294967296 (A % 65536 ^ k) (k / 2)=dg 65536 A (2*(k / 2)):=by
     rw[e1,yh,kZ bI,fe,bq,mR (by omega)]
    have h2:=@jX A (2*(k / 2))
    rw[ifn_,ab,d1,show ((dg 65536 A k:Nat):Int)*(65536:Int)=((dg 65536 A k*65536:Nat):Int) from by omega,xC (n:=dg 65536 A k*65536) (by omega),←kP,xC,xA hb (by omega) (by omega),cd]
    have:=hu (dg 65536 A (2*(k / 2))+dg 65536 A k*65536)
    rw[d1,hpow,bk] at this
    have bK:65536 ^ (2*(k / 2))*65536=(65536:Nat) ^ k:=by rw[←eH];exact congrArg _ yh
    have e3:dg 65536 A k*65536*65536 ^ (2*(k / 2))=65536 ^ k*dg 65536 A k:=by
     rw[eV,cj 65536,bK,cj]
    rw[e3,Nat.add_left_comm,pi] at this
    have hfin:=Nat.add_left_cancel this
    rw[show up1 4294967296 (A % 65536 ^ k) (k / 2) (dg 65536 A (2*(k / 2))+dg 65536 A k*65536)=A % 65536 ^ (k+1) from by rw[rx];exact hfin]
    rfl)
  (by
   dsimp only[fE]
   rw[cw,bu _ _])
 exact hl
theorem B7 {n A:Nat}(hA:A<65536 ^ n)(hn:n<100000)(neg:Bool):eQ neg (dk n A)=some (enc (bif neg then -(A:Int) else (A:Int))):=by
 have hiff:32<sz6 A↔¬A<LIM:=by
  rw[LIM6]
  constructor
  ·intro h h2
   have:=ri h2;omega
  ·intro h
   rcases ck 32 (sz6 A) with h1|h1
   ·exact h1
   ·exact absurd (bW (jQ A) (g9 (by decide) h1)) h
 have yk:(bif neg then -(A:Int) else (A:Int)).natAbs=A:=by cases neg <;> simp
 unfold eQ
 rw[v6 hA (by omega),ab,IL,r16]
 by_cases h:32<sz6 A
 ·rw[bt _ _,PI,ab,Bd (by rw[yk];exact hiff.1 h)]
 ·have hAL:A<LIM:=Decidable.byContradiction fun h2=>h (hiff.2 h2)
  have hneg:decide ((0:Int)<((sz6 A:Nat):Int))= !decide (A=0):=by
   rw[←decide_not]
   refine mW.2 ?_
   constructor
   ·intro h3 h4;subst h4;rw[Ao] at h3;omega
   ·intro h3;have:=zW (sN h3);omega
  have hsel:(cnd neg (bnd (some ((⟨false,decide ((0:Int)<((sz6 A:Nat):Int)),W 0⟩:aq))) fun x7=>some (x7)) (some ((⟨false,false,W 0⟩:aq))))=some (⟨false,neg&&!decide (A=0),W 0⟩:aq):=by
   rw[ab,hneg]
   cases neg <;> rfl
  rw[bu _ _,hsel,ab,M4 (by omega),ab,dK (jQ A),OC hAL]
theorem zeroW {v:Vector Int 16}:(∀j:Nat,j<16→v[j]! =0)↔v=W 0:=by
 constructor
 ·intro h
  apply nz
  intro j hj
  rw[h j hj,fY hj]
  unfold dg;simp
 ·rintro rfl j hj
  rw[fY hj]
  unfold dg;simp
theorem l6(x:aq):dc x=some (dq x):=by
 have hl:=qm (b:=js x) (s0:=(true,(0:Int))) (fun k=>(decide (∀j:Nat,j<k→x.vW[j]! =0),(k:Int))) 16 (decide (∀j:Nat,j<16→x.vW[j]! =0))
  (by
   rw[cV (p:=∀j:Nat,j<0→x.vW[j]! =0) (fun j hj=>by omega)]
   rfl)
  (fun k hk=>by
   dsimp only[js]
   rw[bt _ _,aJ,bH,cnd_and,ab,cd,←Bool.decide_and]
   have:((∀j:Nat,j<k→x.vW[j]! =0)∧x.vW[k]! =0)↔∀j:Nat,j<k+1→x.vW[j]! =0:=by
    constructor
    ·rintro⟨h1,h2⟩ j hj
     by_cases h:j=k
     ·rw[h];exact h2
     ·exact h1 j (by omega)
    ·intro h
     exact⟨fun j hj=>h j (by omega),h k (by omega)⟩
   rw[mW.2 this]
   rfl)
  (by
   dsimp only[js]
   rw[bu _ _])
 have hz:decide (∀j:Nat,j<16→x.vW[j]! =0)=decide (x.vW=W 0):=mW.2 zeroW
 unfold dc oP dq
 rw[hl,ab,hz]
 cases x.vBad <;> cases decide (x.vW=W 0) <;> cases x.vNeg <;> rfl
theorem Kd {A:Nat}(hA:A<LIM)(h:∀j,2≤j→j<16→dg 4294967296 A j=0):A / 4294967296 ^ 2=0:=by
 have key:∀d,d≤14→A / 4294967296 ^ (16 - d)=0:=by
  intro d
  induction d with
  |zero=>intro _;exact dv hA
  |succ d ih=>
   intro hd
   have h1:=ih (by omega)
   have h2:=cm (b:=4294967296) (A:=A) (k:=16 - (d+1))
   rw[show 16 - (d+1)+1=16 - d from by omega,h1,fe,bq,h _ (by omega) (by omega)] at h2
   exact h2
 exact key 14 (aL _)
structure vb(a:Int):Prop where
 h:a.natAbs<4611686018427387904
instance(a:Int):Decidable (vb a):=decidable_of_iff (a.natAbs<4611686018427387904) ⟨fun h=>⟨h⟩,fun h=>h.h⟩
theorem Mj {A:Nat}(hA:A<LIM):A<4611686018427387904↔dg 4294967296 A 1<1073741824∧∀j,2≤j→j<16→dg 4294967296 A j=0:=by
 constructor
 ·intro h
  refine⟨?_,fun j h1 _=>kZ (bW h ?_)⟩
  ·unfold dg;rw[t4];omega
  ·exact cX (by decide:4611686018427387904≤4294967296 ^ 2) (g9 (by decide) h1)
 ·rintro⟨h1,h2⟩
  have h3:=Kd hA h2
  have h4:=cm (b:=4294967296) (A:=A) (k:=1)
  rw[show 1+1=2 from rfl,h3,fe,bq,t4] at h4
  omega
theorem PF {a:Int}(ha:a.natAbs<LIM):lW (enc a)=some (if vb a then (a,true) else (0,false)):=by
 have hwi:=Mj ha
 obtain⟨x,hl,hx⟩:=uT (b:=lV (enc a)) (fun s=>∃k:Nat,s=(k:Int)∧2≤k∧k≤16∧∀j,2≤j→j<k→dg 4294967296 a.natAbs j=0) (fun s=>16 - s.toNat) (fun x=>match x with| .inl r=>r=((0:Int),false)∧¬(∀j,2≤j→j<16→dg 4294967296 a.natAbs j=0)| .inr _=>∀j,2≤j→j<16→dg 4294967296 a.natAbs j=0)
  (by
   rintro s ⟨k,rfl,yh,hk,hz⟩
   dsimp only[lV]
   rw[l9 ha]
   by_cases h16:k<16
   ·rw[bt _ _,aJ,bH,fY h16]
    by_cases hd:dg 4294967296 a.natAbs k=0
    ·left
     refine⟨((k+1:Nat):Int),by rw[bu _ _,cd];rfl,⟨k+1,rfl,by omega,by omega,fun j h1 h2=>?_⟩,by omega⟩
     by_cases h:j=k
     ·rw[h];exact hd
     ·exact hz j h1 (by omega)
    ·right
     refine⟨(Sum.inl ((0:Int),false):(Int×Bool)⊕Unit),by rw[bt _ _],rfl,fun h=>hd (h k yh h16)⟩
   ·right
    refine⟨(Sum.inr ():(Int×Bool)⊕Unit),by rw[bu _ _],?_⟩
    obtain rfl:k=16:=by omega
    exact hz) (2:Int) ⟨2,rfl,by omega,by omega,fun j h1 h2=>by omega⟩
 have e1:(W a.natAbs)[((1:Int)).toNat]! =(dg 4294967296 a.natAbs 1:Int):=fY (by decide)
 have e0:(W a.natAbs)[((0:Int)).toNat]! =(dg 4294967296 a.natAbs 0:Int):=fY (by decide)
 have d0:=@dgl a.natAbs 0
 unfold lW
 rw[l6,bQ ha,ab,eo,ba,ab,l9 ha,e1,e0,nQ ha]
 by_cases h1:dg 4294967296 a.natAbs 1<1073741824
 ·rw[bu _ _,hl,ab]
  cases x with
  |inl r=>
   obtain⟨rfl,h2⟩:=hx
   have:¬vb a:=fun h=>h2 (hwi.1 h.h).2
   rw[aA this]
  |inr u=>
   have h2:vb a:=⟨hwi.2 ⟨h1,hx⟩⟩
   have h3:=Kd ha hx
   have h4:=cm (b:=4294967296) (A:=a.natAbs) (k:=1)
   rw[show 1+1=2 from rfl,h3,fe,bq,t4] at h4
   have h5:dg 4294967296 a.natAbs 0=a.natAbs % 4294967296:=by unfold dg;rw[fI,mX]
   have h6:(dg 4294967296 a.natAbs 1:Int)*4294967296+(dg 4294967296 a.natAbs 0:Int)=(a.natAbs:Int):=by omega
   have h7:=h2.h
   dsimp only
   rw[cd (z:=(dg 4294967296 a.natAbs 1:Int)) (by omega),cd (z:=(dg 4294967296 a.natAbs 1:Int)*4294967296) (by omega),cd (z:=(dg 4294967296 a.natAbs 0:Int)) (by omega),h6,cd (z:=(a.natAbs:Int)) (by omega),ab,jb,ay h2]
   by_cases hn:a<0
   ·rw[ay hn,cd,show (0:Int) - (a.natAbs:Int)=a from by omega]
   ·rw[aA hn,show (a.natAbs:Int)=a from by omega]
 ·have:¬vb a:=fun h=>h1 (hwi.1 h.h).1
  rw[bt _ _,aA this]
theorem dk4 {N:Nat}:dk 4 N=[(dg 65536 N 0:Int),(dg 65536 N 1:Int),(dg 65536 N 2:Int),(dg 65536 N 3:Int)]:=rfl
theorem of4 {N:Nat}(hN:N<9223372036854775808):[Int.tmod (N:Int) (65536:Int),Int.tmod (i64.wrap (Int.tdiv (N:Int) (65536:Int))) (65536:Int),Int.tmod (i64.wrap (Int.tdiv (N:Int) (4294967296:Int))) (65536:Int),i64.wrap (Int.tdiv (N:Int) (281474976710656:Int))]=dk 4 N:=by
 have e1:i64.wrap (Int.tdiv (N:Int) (65536:Int))=((N / 65536:Nat):Int):=by
  rw[show (65536:Int)=((65536:Nat):Int) from rfl,←rr,cd]
 have e2:i64.wrap (Int.tdiv (N:Int) (4294967296:Int))=((N / 4294967296:Nat):Int):=by
  rw[show (4294967296:Int)=((4294967296:Nat):Int) from rfl,←rr,cd]
 have e3:i64.wrap (Int.tdiv (N:Int) (281474976710656:Int))=((N / 281474976710656:Nat):Int):=by
  rw[show (281474976710656:Int)=((281474976710656:Nat):Int) from rfl,←rr,cd]
 rw[e1,e2,e3,dk4,show (65536:Int)=((65536:Nat):Int) from rfl,←rp,←rp,←rp]
 have d0:dg 65536 N 0=N % 65536:=by unfold dg;rw[fI,mX]
 have d1:dg 65536 N 1=N / 65536 % 65536:=by unfold dg;rw[t4]
 have d2:dg 65536 N 2=N / 4294967296 % 65536:=rfl
 have d3:dg 65536 N 3=N / 281474976710656:=by
  have:dg 65536 N 3=N / 281474976710656 % 65536:=rfl
  rw[this];omega
 rw[d0,d1,d2,d3]
theorem one_dk:[(1:Int)]=dk 1 1:=rfl
theorem KV {n:Int}(h1:-9223372036854775808≤n)(h2:n≤9223372036854775807):oA n=some (enc n):=by
 unfold oA
 by_cases hn:0≤n
 ·obtain⟨N,rfl⟩:∃N:Nat,n=(N:Int):=⟨n.toNat,by omega⟩
  have hN4:N<65536 ^ 4:=bW (show N<9223372036854775808 by omega) (by decide)
  rw[bt _ _ hn,of4 (by omega),B7 hN4 (by decide),ab]
  rfl
 ·obtain⟨M,hM⟩:∃M:Nat,-(n+1)=(M:Int):=⟨(-(n+1)).toNat,by omega⟩
  have hM4:M<65536 ^ 4:=bW (show M<9223372036854775808 by omega) (by decide)
  have e:i64.wrap (0 - (i64.wrap (n+(1:Int))))=(M:Int):=by
   rw[cd (z:=n+1) (by omega),cd];omega
  rw[bu _ _ hn,e,ab,of4 (by omega),one_dk,G_dplus hM4 (by decide) (by decide) (by decide),ab,B7 (A:=M+1) (jQ _) (fj (ri (A:=M+1) (n:=5) (fj (show M+1≤65536 ^ 4 from hM4) (by decide))) (by decide)),ab]
  congr 2
  simp only[lO]
  omega
theorem DZ {A:Nat}(h:A<LIM):sz6 A≤32:=ri (by rw[←LIM6];exact h)
theorem G_num {A:Nat}(h:sz6 A≤1000)(neg:Bool):eQ neg (dl A)=some (enc (bif neg then -(A:Int) else (A:Int))):=
 B7 (jQ A) (fj h (by decide)) neg
theorem sb {a:Int}(ha:a.natAbs<LIM):d9 (enc a)=some (dl a.natAbs):=PT (l9 ha) ha
theorem PJ {a:Int}(ha:a.natAbs<LIM):pd (enc a)=some (enc (a.natAbs:Int)):=by
 unfold pd
 rw[l6,bQ ha,ab,eo,ba,sb ha,ab,G_num (cX (DZ ha) (by decide)),ab]
 rfl
theorem LY {a:Int}(ha:a.natAbs<LIM):nM (enc a)=some a.sign:=by
 unfold nM
 rw[l6,bQ ha,ab,eo,ba,sb ha,ab,ab,nQ ha]
 have hz:((dl a.natAbs).length:Int)=0↔a=0:=by
  rw[show ((dl a.natAbs).length:Int)=0↔(dl a.natAbs).length=0 from by omega,OF];omega
 rcases Jh a 0 with h|h|h
 ·rw[bu _ _ (by rw[hz];omega),bt _ _ h,I2 h]
 ·subst h;rw[bt _ _ (hz.2 rfl)];rfl
 ·rw[bu _ _ (by rw[hz];omega),bu _ _,By h]
theorem fast2(p q:Prop)[Decidable p][Decidable q](a c:Int):(cnd (if p then (a,true) else (0,false):Int×Bool).2 (some (if q then (c,true) else (0,false):Int×Bool).2) (some false))=some (decide (p∧q)):=by
 by_cases hp:p <;> by_cases hq:q <;> simp[hp,hq,cnd]
theorem good2r(x y:aq):(bnd (S:=Bool) (bnd (dc x) fun nl=>cnd (!nl) (some (true)) (bnd (dc y) fun qN=>some (!qN))) fun b=>some b)=some (!(dq x&&dq y)):=by
 rw[l6,l6,ab,ab]
 cases dq x <;> cases dq y <;> rfl
theorem dig2(A:Nat):decide ((0:Int)<((dl A).length:Int))=decide (A≠0):=by
 refine mW.2 ?_
 have:=@OF A
 omega
theorem Ov(n m:Int):∃r:Int,a5 ii (n,m)=some r∧r.natAbs=Nat.gcd n.natAbs m.natAbs:=by
 induction hk:m.natAbs using Nat.strongRecOn generalizing n m with
 |_ k ih=>
  subst hk
  by_cases hm:m=0
  ·subst hm
   refine⟨n,fS (by dsimp only[ii];rw[bu _ _ (fun h=>h rfl)]),?_⟩
   rw[Int.natAbs_zero,E8]
  ·have h1:ii (n,m)=some (.inl (m,n.tmod m)):=by
    dsimp only[ii]
    rw[bt _ _ hm,aJ hm]
   have e:=Int.natAbs_tmod n m
   obtain⟨r,h2,h3⟩:=ih (n.tmod m).natAbs (by rw[e];exact dA _ (by omega)) m (n.tmod m) rfl
   exact⟨r,(kB h1).trans h2,by rw[h3,e,←wV]⟩
theorem Ow(x y:Nat)(hx:sz6 x<800)(hy:sz6 y<800):a5 ig (dl x,dl y)=some (dl (Nat.gcd x y)):=by
 induction y using Nat.strongRecOn generalizing x with
 |_ y ih=>
  by_cases h0:y=0
  ·subst h0
   rw[E8]
   refine fS ?_
   dsimp only[ig]
   rw[dig2,bu _ _ (fun h=>h rfl)]
  ·have h1:ig (dl x,dl y)=some (.inl (dl y,dl (x % y))):=by
    dsimp only[ig]
    rw[dig2,bt _ _ h0,PQ hx hy (by omega),ab]
   have bI:=dA x (show 0<y by omega)
   have hs:sz6 (x % y)<800:=fj (ri (yF bI (jQ y))) hy
   rw[kB h1,ih (x % y) bI y hy hs,←wV]
theorem PH {a c:Int}(ha:a.natAbs<LIM)(hc:c.natAbs<LIM):pc (enc a) (enc c)=some (enc (Nat.gcd a.natAbs c.natAbs:Nat)):=by
 have hgl:Nat.gcd a.natAbs c.natAbs<LIM:=by
  rcases ma a.natAbs with h|h
  ·rw[h,Ji];exact hc
  ·exact fj (yE _ h) ha
 unfold pc
 rw[PF ha,PF hc,ab,ab,fast2,ab,jb]
 by_cases hw:vb a∧vb c
 ·have h1:=hw.1.h
  have h2:=hw.2.h
  rw[ay hw,ay hw.1,ay hw.2]
  dsimp only
  obtain⟨r,h3,h4⟩:=Ov a c
  have hr:r.natAbs<4611686018427387904:=by
   rw[h4]
   rcases ma a.natAbs with h|h
   ·rw[h,Ji];exact h2
   ·exact fj (yE _ h) h1
  rw[h3,ab,KV (by omega) (by omega),ab,PJ (by rw[h4];exact hgl),ab,h4]
 ·have hg:=good2r (enc a) (enc c)
  rw[vM] at hg
  rw[aA hw,hg,bQ ha,bQ hc,ab,eh,eo,ba,sb ha,ab,sb hc,ab,Ow _ _ (fj (DZ ha) (by decide)) (fj (DZ hc) (by decide)),ab,G_num (cX (DZ hgl) (by decide)),ab]
  rfl
theorem R_one:o0=some (enc 1):=by
 unfold o0
 rw[KV (by decide) (by decide),ab]
theorem R_Good {x:ak}(hx:okR x):lU x=some (cZ x).isSome:=by
 rw[←lg hx]
 obtain⟨n,d⟩:=x
 obtain⟨h1,h2⟩:=hx
 dsimp only at h1 h2
 unfold lU bN
 dsimp only
 rw[l6,l6,oR,oR,ab,ab,ab,ab]
 cases CE:dq n with
 |false=>rfl
 |true=>
  cases Ix:dq d with
  |false=>rfl
  |true=>
   obtain⟨n,hn,rfl⟩:=tM h1 CE
   obtain⟨d,hd,rfl⟩:=tM h2 Ix
   rw[LY hd,yS hd,PH hn hd,K2 hn hd,R_one,KX]
   rfl
theorem OD {x:ak}{q:Rat}(h:cZ x=some q):x=mD q:=(eW.1 h).2
def Nu:={x:ak // okR x}
instance:DecidableEq Nu:=inferInstanceAs (DecidableEq {x:ak // okR x})
theorem okR0:okR (default:ak):=by
 have h:∀j:Nat,j<16→(default:aq).vW[j]! =0:=by
  intro j hj
  show (bU)[j]! =0
  rw[gF (bU) j hj,Vector.getElem_replicate]
 exact⟨fun j hj=>by show 0≤(default:aq).vW[j]!∧(default:aq).vW[j]! <4294967296;rw[h j hj];omega,fun j hj=>by show 0≤(default:aq).vW[j]!∧(default:aq).vW[j]! <4294967296;rw[h j hj];omega⟩
instance:Inhabited Nu:=⟨⟨default,okR0⟩⟩
def nuR(o:Option Rat):Nu:=⟨yo o,sv o⟩
def decW(v:Vector Int 16):Nat:=fQ 4294967296 (fun j=>(v[j]!).toNat) 16
def CP(x:aq):Int:=if x.vNeg then -(decW x.vW:Int) else decW x.vW
theorem decW_W {A:Nat}(h:A<LIM):decW (W A)=A:=by
 refine OK (b:=4294967296) (n:=16) ?_ h fun j hj=>?_
 ·exact zU (by decide) _ fun j hj=>by
   rw[fY hj]
   have:=@dgl A j
   omega
 ·unfold decW
  rw[EF (by decide) 16 (fun i hi=>by
   rw[fY hi]
   have:=@dgl A i
   omega) j hj,fY hj]
  omega
theorem G4 {z:Int}(h:z.natAbs<LIM):CP (enc z)=z:=by
 rw[qv h]
 unfold CP
 dsimp only
 rw[decW_W h]
 by_cases hz:z<0
 ·rw[ay (cV hz)];omega
 ·rw[aA (by simpa using hz)];omega
def xz(x:ak):Option Rat:=if nP (Rat.divInt (CP x.vN) (CP x.vD))∧mD (Rat.divInt (CP x.vN) (CP x.vD))=x then some (Rat.divInt (CP x.vN) (CP x.vD)) else none
theorem sk:xz=cZ:=by
 funext x
 unfold xz
 cases h:cZ x with
 |none=>exact aA fun hh=>xx.1 h _ hh.1 hh.2.symm
 |some q=>
  obtain⟨h1,h2⟩:=eW.1 h
  have hn:CP x.vN=q.num:=by rw[h2];exact G4 h1.1
  have hd:CP x.vD=(q.den:Int):=by rw[h2];exact G4 (l4 h1)
  rw[hn,hd,show Rat.divInt q.num q.den=q from by rw[IZ];exact Rat.mkRat_self q,ay ⟨h1,h2.symm⟩]
def Cu(x y:Nu):Nu:=nuR (Gj (xz x.1) (xz y.1))
def qM(x y:Nu):Nu:=nuR (zI (xz x.1) (xz y.1))
def zJ(x y:Nu):Nu:=nuR (osub (xz x.1) (xz y.1))
def vo(x y:Nu):Nu:=nuR (Gg (xz x.1) (xz y.1))
def Gn(x:Nu):Nu:=nuR (Ec (xz x.1))
def nOf(n:Int):Nu:=nuR (some (n:Rat))
def eA(x:Nu):Int:=osgn (xz x.1)
def aQ(x:Nu):Bool:=(xz x.1).isSome
theorem wC(x y:Nu):Cu x y=nuR (Gj (cZ x.1) (cZ y.1)):=by unfold Cu;rw[sk]
theorem wB(x y:Nu):qM x y=nuR (zI (cZ x.1) (cZ y.1)):=by unfold qM;rw[sk]
theorem Gm(x y:Nu):zJ x y=nuR (osub (cZ x.1) (cZ y.1)):=by unfold zJ;rw[sk]
theorem Gp(x y:Nu):vo x y=nuR (Gg (cZ x.1) (cZ y.1)):=by unfold vo;rw[sk]
theorem wA(x:Nu):Gn x=nuR (Ec (cZ x.1)):=by unfold Gn;rw[sk]
theorem xM(x:Nu):eA x=osgn (cZ x.1):=by unfold eA;rw[sk]
theorem fy(x:Nu):aQ x=(cZ x.1).isSome:=by unfold aQ;rw[sk]
def rv(x:Nu):Rat:=(cZ x.1).getD 0
theorem gK {x:Nu}:aQ x=true↔cZ x.1=some (rv x):=by
 rw[fy];unfold rv
 cases cZ x.1 <;> simp
theorem Kj {x:Nu}(h:aQ x=true):x=nuR (some (rv x)):=Subtype.ext (OD (gK.1 h))
theorem Oo {x y:Nu}(hx:aQ x=true)(hy:aQ y=true)(h:rv x=rv y):x=y:=by
 rw[Kj hx,Kj hy,h]
theorem pS {o:Option Rat}(h:yl o):cZ (nuR o).1=o:=xy h
theorem AC {q:Rat}(h:nP q):aQ (nuR (some q))=true∧rv (nuR (some q))=q:=by
 have:cZ (nuR (some q)).1=some q:=pS (o:=some q) fun p hp=>by injection hp with hp;rw[←hp];exact h
 rw[fy];unfold rv
 rw[this]
 exact⟨rfl,rfl⟩
theorem fit0:nP 0:=⟨by decide,by decide⟩
theorem fit1:nP 1:=⟨by decide,by decide⟩
theorem of0:aQ (nOf 0)=true∧rv (nOf 0)=0:=AC (q:=((0:Int):Rat)) fit0
theorem of1:aQ (nOf 1)=true∧rv (nOf 1)=1:=AC (q:=((1:Int):Rat)) fit1
theorem AD {x:Nu}(h:aQ x=true):eA x=(rv x).num.sign:=by rw[xM,gK.1 h];rfl
theorem C3 {x:Nu}(h:aQ x=true):eA x=0↔rv x=0:=by
 rw[AD h,Jg]
 exact Rat.num_eq_zero
theorem M3 {q:Rat}:0<q.num↔0<q:=by
 rw[Rat.lt_iff];simp
theorem JQ {x:Nu}(h:aQ x=true):0<eA x↔0<rv x:=by
 rw[AD h,Int.sign_pos_iff];exact M3
theorem JY {x y:Nu}(hx:aQ x=true)(hy:aQ y=true)(h:aQ (Cu x y)=true):rv (Cu x y)=rv x+rv y:=by
 have h1:=gK.1 h
 rw[wC] at h1 ⊢
 rw[pS (Gi _ _),gK.1 hx,gK.1 hy] at h1
 have h2:H6 (rv x) (rv y)=some (rv (nuR (Gj (some (rv x)) (some (rv y))))):=h1
 rw[gK.1 hx,gK.1 hy]
 unfold H6 at h2
 split at h2
 ·injection h2 with h2;exact h2.symm
 ·cases h2
theorem z3 {x y:Nu}(hx:aQ x=true)(hy:aQ y=true)(h:aQ (qM x y)=true):rv (qM x y)=rv x*rv y:=by
 have h1:=gK.1 h
 rw[wB] at h1 ⊢
 rw[pS (AB _ _)] at h1
 rw[gK.1 hx,gK.1 hy] at h1 ⊢
 have h2:D8 (rv x) (rv y)=some (rv (nuR (zI (some (rv x)) (some (rv y))))):=h1
 unfold D8 at h2
 split at h2
 ·injection h2 with h2;exact h2.symm
 ·cases h2
theorem GU {x y:Nu}(h:aQ (Cu x y)=true):aQ x=true∧aQ y=true:=by
 rw[fy,wC,pS (Gi _ _)] at h
 rw[fy,fy]
 cases h1:cZ x.1 <;> cases h2:cZ y.1 <;> simp_all [Gj]
theorem wQ {x y:Nu}(h:aQ (qM x y)=true):aQ x=true∧aQ y=true:=by
 rw[fy,wB,pS (AB _ _)] at h
 rw[fy,fy]
 cases h1:cZ x.1 <;> cases h2:cZ y.1 <;> simp_all [zI]
theorem C9 {x:Nu}:aQ (Gn x)=aQ x:=by
 rw[fy,fy,wA,pS (AA (Ba _))]
 cases cZ x.1 <;> rfl
theorem nNeg_rv {x:Nu}:rv (Gn x)=-rv x:=by
 unfold rv
 rw[wA,pS (AA (Ba _))]
 cases cZ x.1
 ·simp[Ec]
 ·rfl
theorem Oq {x y:Nu}(h:aQ (vo x y)=true):aQ x=true∧aQ y=true∧rv y≠0∧rv (vo x y)=rv x / rv y:=by
 have h1:=gK.1 h
 rw[Gp] at h1 ⊢
 rw[pS (M2 _ _)] at h1
 have hx:aQ x=true:=by
  rw[fy]
  cases h2:cZ x.1 with
  |some _=>rfl
  |none=>rw[h2] at h1;cases h1
 have hy:aQ y=true:=by
  rw[fy]
  cases h2:cZ y.1 with
  |some _=>rfl
  |none=>rw[h2] at h1;unfold Gg zI Ln at h1;cases h3:cZ x.1 <;> simp[h3] at h1
 rw[gK.1 hx,gK.1 hy] at h1 ⊢
 by_cases h0:rv y=0
 ·unfold Gg zI Ln at h1
  simp[h0] at h1
 ·have h2:D8 (rv x) (rv y)⁻¹=some (rv (nuR (Gg (some (rv x)) (some (rv y))))):=by
   rw[←h1]
   unfold Gg zI Ln
   simp[h0]
  refine⟨hx,hy,h0,?_⟩
  unfold D8 at h2
  split at h2
  ·injection h2 with h2;rw[←h2,Rat.div_def]
  ·cases h2
def bA:Nat→(Nat→Rat)→Rat
 |0,_=>0
 |n+1,f=>bA n f+f n
theorem aX {f g:Nat→Rat}:∀{n:Nat},(∀t,t<n→f t=g t)→bA n f=bA n g
 |0,_=>rfl
 |n+1,h=>by unfold bA;rw[aX fun t ht=>h t (by omega),h n (by omega)]
theorem oU(f g:Nat→Rat):∀n,bA n (fun t=>f t+g t)=bA n f+bA n g
 |0=>by show (0:Rat)=0+0;grind
 |n+1=>by unfold bA;rw[oU f g n];grind
theorem gM(a:Rat)(f:Nat→Rat):∀n,bA n (fun t=>a*f t)=a*bA n f
 |0=>by simp[bA]
 |n+1=>by unfold bA;rw[gM a f n];grind
theorem rE:∀n,bA n (fun _=>0)=0
 |0=>rfl
 |n+1=>by unfold bA;rw[rE n];show (0:Rat)+0=0;grind
theorem ls(a:Nat)(x:Rat):∀n,a<n→bA n (fun t=>if t=a then x else 0)=x
 |0,h=>by omega
 |n+1,h=>by
  show bA n (fun t=>if t=a then x else 0)+(if n=a then x else 0)=x
  by_cases hn:n=a
  ·subst hn
   rw[ay rfl,aX (g:=fun _=>0) fun t ht=>ifn_,rE]
   grind
  ·rw[aA hn,ls a x n (by omega)];grind
theorem Aq(f g:Nat→Rat)(n:Nat):bA n (fun t=>f t - g t)=bA n f - bA n g:=by
 have:(fun t=>f t - g t)=fun t=>f t+(-1)*g t:=by funext t;grind
 rw[this,oU f (fun t=>(-1)*g t),gM];grind
theorem xE(f:Nat→Nat→Rat)(m:Nat):∀n,bA n (fun i=>bA m (fun j=>f i j))=bA m (fun j=>bA n (fun i=>f i j))
 |0=>(rE m).symm
 |n+1=>by
  have:(fun j=>bA (n+1) fun i=>f i j)=fun j=>bA n (fun i=>f i j)+f n j:=rfl
  rw[this,oU]
  show bA n (fun i=>bA m fun j=>f i j)+bA m (fun j=>f n j)=_
  rw[xE f m n]
theorem tE {f:Nat→Rat}:∀{n:Nat},(∀t,t<n→0≤f t)→0≤bA n f
 |0,_=>by simp[bA]
 |n+1,h=>by
  unfold bA
  have h1:=tE (f:=f) (n:=n) fun t ht=>h t (by omega)
  have h2:=h n (by omega)
  grind
abbrev Col:=Nat→Rat
def sgd(j:Nat):Rat:=if j % 2=0 then 1 else -1
theorem MF(j:Nat):sgd (j+1)=-sgd j:=by
 unfold sgd
 by_cases h:j % 2=0
 ·rw[ay h,ifn_]
 ·rw[aA h,ifp_];grind
def skip(j i:Nat):Nat:=if i<j then i else i+1
def minor(f:Nat→Col)(j:Nat):Nat→Col:=fun c r=>f (skip j c) (r+1)
def det:Nat→(Nat→Col)→Rat
 |0,_=>1
 |n+1,f=>bA (n+1) fun j=>sgd j*(f j 0*det n (minor f j))
def cv(f:Nat→Col)(a:Nat)(u:Col):Nat→Col:=fun c=>if c=a then u else f c
theorem yq:∀{n:Nat} {f g:Nat→Col},(∀c,c<n→∀r,r<n→f c r=g c r)→det n f=det n g
 |0,_,_,_=>rfl
 |n+1,f,g,h=>by
  unfold det
  refine aX fun j hj=>?_
  rw[h j hj 0 (by omega),yq (f:=minor f j) (g:=minor g j) fun c hc r hr=>?_]
  unfold minor skip
  split
  ·exact h _ (by omega) _ (by omega)
  ·exact h _ (by omega) _ (by omega)
def place(j a:Nat):Nat:=if a<j then a else a - 1
theorem HZ {j a:Nat}(h:j≠a):skip j (place j a)=a:=by
 unfold skip place
 by_cases h1:a<j
 ·rw[ay h1,ay h1]
 ·rw[aA h1,ifn_];omega
theorem JP {j a c:Nat}(h:j≠a):skip j c=a↔c=place j a:=by unfold skip place;split <;> split <;> omega
theorem skip_ne(j c:Nat):skip j c≠j:=by unfold skip;split <;> omega
theorem MY {n j a:Nat}(hj:j<n+1)(ha:a<n+1)(h:j≠a):place j a<n:=by unfold place;split <;> omega
theorem xN(f:Nat→Col){j a:Nat}(h:j≠a)(u:Col):minor (cv f a u) j=cv (minor f j) (place j a) fun r=>u (r+1):=by
 funext c r
 unfold minor cv
 by_cases hc:c=place j a
 ·rw[ay ((JP h).2 hc),ay hc]
 ·rw[aA (fun e=>hc ((JP h).1 e)),aA hc]
theorem ql(f:Nat→Col)(a:Nat)(u:Col):minor (cv f a u) a=minor f a:=by
 funext c r
 unfold minor cv
 rw[aA (skip_ne a c)]
theorem pX(x:Rat):∀{n:Nat} (f:Nat→Col) (a:Nat) (u v:Col),a<n→det n (cv f a fun r=>x*u r+v r)=x*det n (cv f a u)+det n (cv f a v)
 |0,_,a,_,_,h=>by omega
 |n+1,f,a,u,v,h=>by
  unfold det
  rw[←gM,←oU (fun j=>x*(sgd j*(cv f a u j 0*det n (minor (cv f a u) j)))) (fun j=>sgd j*(cv f a v j 0*det n (minor (cv f a v) j)))]
  refine aX fun j hj=>?_
  by_cases hja:j=a
  ·subst hja
   rw[ql,ql,ql]
   unfold cv
   rw[ay rfl,ay rfl,ay rfl]
   grind
  ·rw[xN f hja,xN f hja,xN f hja]
   have:=pX x (minor f j) (place j a) (fun r=>u (r+1)) (fun r=>v (r+1)) (MY hj h hja)
   rw[this]
   unfold cv
   rw[aA hja,aA hja,aA hja]
   grind
theorem Mz {f:Nat→Rat}{a:Nat}:∀{n:Nat},a+1<n→(∀j,j<n→j≠a→j≠a+1→f j=0)→bA n f=f a+f (a+1):=by
 intro n h h0
 have e:bA n f=bA n fun j=>(if j=a then f a else 0)+(if j=a+1 then f (a+1) else 0):=aX fun j hj=>by
  by_cases h1:j=a
  ·subst h1;rw[ay rfl,ifn_];grind
  ·by_cases h2:j=a+1
   ·subst h2;rw[ifn_,ay rfl];grind
   ·rw[aA h1,aA h2,h0 j hj h1 h2];grind
 rw[e,oU (fun j=>if j=a then f a else 0) (fun j=>if j=a+1 then f (a+1) else 0),ls a _ n (by omega),ls (a+1) _ n h]
theorem EH:∀{n:Nat} (f:Nat→Col) (a:Nat),a+1<n→(∀r,f a r=f (a+1) r)→det n f=0
 |0,_,a,h,_=>by omega
 |n+1,f,a,h,he=>by
  unfold det
  rw[Mz h fun j hj h1 h2=>?_]
  ·have:minor f a=minor f (a+1):=by
    funext c r
    unfold minor skip
    by_cases hc:c=a
    ·subst hc
     rw[ifn_,ifp_]
     exact (he _).symm
    ·by_cases ni:c<a
     ·rw[ay ni,ifp_]
     ·rw[aA ni,ifn_]
   rw[this,he 0,MF]
   grind
  ·rw[EH (minor f j) (place j a) ?_ fun r=>?_]
   ·grind
   ·unfold place;split <;> omega
   ·have e1:skip j (place j a)=a:=HZ h1
    have e2:skip j (place j a+1)=a+1:=by unfold skip place;split <;> split <;> omega
    unfold minor
    rw[e1,e2]
    exact he _
theorem p7(f:Nat→Col){a b:Nat}(h:a≠b)(u v:Col):cv (cv f a u) b v=cv (cv f b v) a u:=by
 funext c
 unfold cv
 by_cases h1:c=a <;> by_cases h2:c=b <;> simp[h1,h2,h] <;> (try omega)
theorem OL {n:Nat}(f:Nat→Col)(a:Nat)(h:a+1<n)(u v:Col):det n (cv (cv f a u) (a+1) v)=-det n (cv (cv f a v) (a+1) u):=by
 have z:∀t:Col,det n (cv (cv f a t) (a+1) t)=0:=fun t=>EH _ a h fun r=>by
  unfold cv
  rw[ifn_,ay rfl,ay rfl]
 have h0:=z fun r=>1*u r+v r
 have l1:∀t:Col,det n (cv (cv f a t) (a+1) fun r=>1*u r+v r)=1*det n (cv (cv f a t) (a+1) u)+det n (cv (cv f a t) (a+1) v):=fun t=>pX 1 _ _ _ _ h
 have l2:∀t:Col,det n (cv (cv f a fun r=>1*u r+v r) (a+1) t)=1*det n (cv (cv f a u) (a+1) t)+det n (cv (cv f a v) (a+1) t):=fun t=>by
  have ne:a≠a+1:=by omega
  rw[p7 f ne _ t,p7 f ne _ t,p7 f ne _ t]
  exact pX 1 _ _ _ _ (by omega)
 rw[l1,l2,l2,z,z] at h0
 grind
theorem oo(f:Nat→Col)(a:Nat):cv f a (f a)=f:=by
 funext c
 unfold cv
 split
 ·rename_i h;rw[h]
 ·rfl
theorem Bg {n:Nat}:∀(k:Nat) (f:Nat→Col) (a:Nat),a+1+k<n→(∀r,f a r=f (a+1+k) r)→det n f=0
 |0,f,a,h,he=>EH f a h he
 |k+1,f,a,h,he=>by
  have e:f=cv (cv f (a+1+k) (f (a+1+k))) (a+1+k+1) (f (a+1+k+1)):=by
   rw[oo]
   exact (oo f _).symm
  rw[e,OL f (a+1+k) (by omega),Bg k _ a (by omega) fun r=>?_]
  ·grind
  ·unfold cv
   rw[ifn_,ifn_,ifn_,ay rfl]
   exact he r
theorem EG {n:Nat}(f:Nat→Col){a b:Nat}(ha:a<n)(hb:b<n)(yk:a≠b)(he:∀r,f a r=f b r):det n f=0:=by
 rcases ck a b with h|h
 ·exact Bg (b - a - 1) f a (by omega) fun r=>by rw[show a+1+(b - a - 1)=b by omega];exact he r
 ·exact Bg (a - b - 1) f b (by omega) fun r=>by rw[show b+1+(a - b - 1)=a by omega];exact (he r).symm
theorem Bf {n:Nat}(f:Nat→Col){a:Nat}(ha:a<n):det n (cv f a fun _=>0)=0:=by
 have:=pX 1 f a (fun _=>0) (fun _=>0) ha
 have e:(fun r:Nat=>(1:Rat)*(fun _=>(0:Rat)) r+(fun _=>(0:Rat)) r)=fun _=>0:=by funext r;grind
 rw[e] at this
 grind
theorem KA {n:Nat}(f:Nat→Col){a:Nat}(ha:a<n)(x:Nat→Rat)(g:Nat→Col):∀m,det n (cv f a fun r=>bA m fun i=>x i*g i r)=bA m fun i=>x i*det n (cv f a (g i))
 |0=>Bf f ha
 |m+1=>by
  have e:(fun r=>bA (m+1) fun i=>x i*g i r)=fun r=>x m*g m r+bA m fun i=>x i*g i r:=by
   funext r
   show bA m (fun i=>x i*g i r)+x m*g m r=_
   grind
  rw[e,pX (x m) f a (g m) (fun r=>bA m fun i=>x i*g i r) ha,KA f ha x g m]
  show _=bA m (fun i=>x i*det n (cv f a (g i)))+x m*det n (cv f a (g m))
  grind
theorem cramer {n:Nat}(f:Nat→Col){j:Nat}(hj:j<n)(x:Nat→Rat)(v:Col)(h:∀r,r<n→v r=bA n fun i=>x i*f i r):det n (cv f j v)=x j*det n f:=by
 rw[yq (g:=cv f j fun r=>bA n fun i=>x i*f i r) fun c hc r hr=>?_,KA f hj x f n]
 ·rw[aX (g:=fun i=>if i=j then x j*det n f else 0) fun i hi=>?_,ls j _ n hj]
  by_cases Lz:i=j
  ·subst Lz;rw[ay rfl,oo]
  ·rw[aA Lz,EG (cv f j (f i)) (a:=i) (b:=j) hi hj Lz fun r=>by unfold cv;rw[aA Lz,ay rfl]]
   grind
 ·unfold cv
  split
  ·exact h r hr
  ·rfl
section
abbrev RM:=Nat→Nat→Rat
def yO(f:RM)(R C:Nat)(x:Nat→Rat):Prop:=∀i,i<R→bA C (fun k=>f i k*x k)=0
structure IsR(f:RM)(R kk:Nat)(ps:List Nat):Prop where
 lt:∀j,j<ps.length→ps[j]! <kk
 inc:∀i j,i<j→j<ps.length→ps[i]! <ps[j]!
 le:ps.length≤R
 piv:∀i j,i<R→j<ps.length→f i ps[j]! =if i=j then 1 else 0
 z1:∀i k,i<ps.length→k<ps[i]!→f i k=0
 z2:∀i k,ps.length≤i→i<R→k<kk→f i k=0
section
variable {f g:RM} {R C:Nat} {ps qs:List Nat}
theorem C2 {n:Nat}(a:Nat→Rat){i:Nat}(hi:i<n):bA n (fun j=>(if i=j then 1 else 0)*a j)=a i:=by
 rw[aX (g:=fun j=>if j=i then a i else 0) fun j _=>by
  by_cases h:i=j
  ·subst h;simp
  ·simp[h,mb h],ls i (a i) n hi]
end
end
section
def d7(f:RM)(a b:Nat):RM:=fun i k=>if i=a then f b k else if i=b then f a k else f i k
def kt(f:RM)(r k:Nat):RM:=fun i j=>if i=r then f r j / f r k else f i j - f i k*(f r j / f r k)
section
variable {f g:RM} {R C kk r k a b:Nat} {ps qs:List Nat}
theorem yO.congr {x:Nat→Rat}(h:∀i k,i<R→k<C→f i k=g i k)(hs:yO f R C x):yO g R C x:=fun i hi=>by
 rw[←hs i hi]
 exact aX fun t ht=>by rw[h i t hi ht]
theorem MC {x:Nat→Rat}(ha:a<R)(hb:b<R):yO (d7 f a b) R C x↔yO f R C x:=by
 have key:∀{f:RM},yO f R C x→yO (d7 f a b) R C x:=fun {f} h i hi=>by
  unfold d7
  by_cases h1:i=a
  ·simp only[h1,aM];exact h b hb
  ·by_cases h2:i=b
   ·simp only[h1,h2,aM,qB]
    by_cases h3:b=a
    ·simp only[h3,aM];rw[←h3];exact h b hb
    ·simp only[h3,qB];exact h a ha
   ·simp only[h1,h2,qB];exact h i hi
 refine⟨fun h=>?_,key⟩
 have h2:=key h
 refine h2.congr fun i t _ _=>?_
 unfold d7
 by_cases h1:i=a
 ·subst h1
  by_cases h3:b=i <;> simp[h3]
 ·by_cases h2:i=b
  ·subst h2;simp[h1]
  ·simp[h1,h2]
theorem MD {x:Nat→Rat}(hr:r<R)(hp:f r k≠0):yO (kt f r k) R C x↔yO f R C x:=by
 have NC:bA C (fun t=>kt f r k r t*x t)=bA C (fun t=>f r t*x t) / f r k:=by
  rw[aX (g:=fun t=>(1 / f r k)*(f r t*x t)) fun t _=>by unfold kt;rw[ay rfl];grind,gM]
  grind
 have hoth:∀i,i≠r→bA C (fun t=>kt f r k i t*x t)=bA C (fun t=>f i t*x t) - f i k*(bA C (fun t=>f r t*x t) / f r k):=fun i hi=>by
  rw[aX (g:=fun t=>f i t*x t - (f i k / f r k)*(f r t*x t)) fun t _=>by unfold kt;rw[aA hi];grind,Aq,gM]
  grind
 constructor
 ·intro h i hi
  have h0:bA C (fun t=>f r t*x t)=0:=by
   have:=h r hr
   rw[NC] at this
   have h2:bA C (fun t=>f r t*x t)=(bA C (fun t=>f r t*x t) / f r k)*f r k:=by grind
   rw[h2,this];grind
  by_cases N5:i=r
  ·subst N5;exact h0
  ·have:=h i hi
   rw[hoth i N5,h0] at this
   grind
 ·intro h i hi
  by_cases N5:i=r
  ·subst N5;rw[NC,h i hr];grind
  ·rw[hoth i N5,h i hi,h r hr];grind
theorem IsR.congr(h:IsR f R kk ps)(hk:kk≤C)(he:∀i k,i<R→k<C→f i k=g i k):IsR g R kk ps:=by
 refine⟨h.lt,h.inc,h.le,fun i j hi hj=>?_,fun i k hi yh=>?_,fun i k hi hi2 yh=>?_⟩
 ·rw[←he i _ hi (by have:=h.lt j hj;omega)];exact h.piv i j hi hj
 ·have:=h.lt i hi;have:=h.le;rw[←he i k (by omega) (by omega)];exact h.z1 i k hi yh
 ·rw[←he i k hi2 (by omega)];exact h.z2 i k hi hi2 yh
theorem J8(f:RM)(R:Nat):IsR f R 0 []:=⟨fun j h=>absurd h (by simp),fun i j _ h=>absurd h (by simp),dU _,fun i j _ h=>absurd h (by simp),fun i k h=>absurd h (by simp),fun i k _ _ h=>absurd h (by omega)⟩
theorem IsR.none(h:IsR f R kk ps)(h0:∀i,ps.length≤i→i<R→f i kk=0):IsR f R (kk+1) ps:=
 ⟨fun j hj=>oE (h.lt j hj),h.inc,h.le,h.piv,h.z1,fun i k h1 h2 h3=>by
  rcases ck k kk with h4|h4
  ·exact h.z2 i k h1 h2 h4
  ·rw[show k=kk by omega];exact h0 i h1 h2⟩
theorem IsR.full(h:IsR f R kk ps)(h0:ps.length=R)(hk:kk≤C):IsR f R C ps:=
 ⟨fun j hj=>bW (h.lt j hj) hk,h.inc,h.le,h.piv,h.z1,fun i k h1 h2 _=>by omega⟩
theorem wU {ps:List Nat}{q j:Nat}:(ps++[q])[j]! =if j<ps.length then ps[j]! else if j=ps.length then q else default:=by
 simp only[Br]
 by_cases h:j<ps.length
 ·rw[ay h,vP h]
 ·rw[aA h,tW (by omega)]
  by_cases h2:j=ps.length
  ·rw[ay h2,h2];simp
  ·rw[aA h2,kw (by simp;omega)];rfl
theorem IsR.step(h:IsR f R kk ps){i0:Nat}(hi:ps.length≤i0)(hi2:i0<R)(lh:f i0 kk≠0):IsR (kt (d7 f i0 ps.length) ps.length kk) R (kk+1) (ps++[kk]):=by
 have hr:ps.length<R:=by omega
 -- the row of the pivot is 0 ahead of it
 have hg:∀t,d7 f i0 ps.length ps.length t=f i0 t:=fun t=>by
  unfold d7
  by_cases e:ps.length=i0
  ·rw[ay e,←e]
  ·rw[aA e,ay rfl]
 have hg0:∀t,t<kk→f i0 t=0:=fun t ht=>h.z2 i0 t hi hi2 ht
 have hup:∀i t,i<ps.length→d7 f i0 ps.length i t=f i t:=fun i t Kc=>by unfold d7;rw[ifn_,ifn_]
 have hE:∀i t,i≠ps.length→t<kk→kt (d7 f i0 ps.length) ps.length kk i t=d7 f i0 ps.length i t:=fun i t h1 h2=>by
  unfold kt
  rw[aA h1,hg t,hg0 t h2];grind
 have hEr:∀t,t<kk→kt (d7 f i0 ps.length) ps.length kk ps.length t=0:=fun t ht=>by
  unfold kt
  rw[ay rfl,hg t,hg0 t ht];grind
 have CA:∀i t,ps.length<i→i<R→t<kk→d7 f i0 ps.length i t=0:=fun i t h1 h2 h3=>by
  unfold d7
  by_cases e:i=i0
  ·rw[ay e];exact h.z2 _ t (aL _) hr h3
  ·rw[aA e,ifn_];exact h.z2 i t (by omega) h2 h3
 have hcol:∀i,kt (d7 f i0 ps.length) ps.length kk i kk=if i=ps.length then 1 else 0:=fun i=>by
  unfold kt
  by_cases e:i=ps.length
  ·rw[ay e,ay e,hg];grind
  ·rw[aA e,aA e,hg];grind
 have hlen:(ps++[kk]).length=ps.length+1:=by simp
 refine⟨fun j hj=>?_,fun i j Lz hj=>?_,by omega,fun i j hi3 hj=>?_,fun i t hi3 ht=>?_,fun i t h1 h2 h3=>?_⟩
 ·rw[hlen] at hj
  rw[wU]
  by_cases e:j<ps.length
  ·rw[ay e];have:=h.lt j e;omega
  ·rw[aA e,ifp_];omega
 ·rw[hlen] at hj
  rw[wU,wU,ay (show i<ps.length by omega)]
  by_cases e:j<ps.length
  ·rw[ay e];exact h.inc i j Lz e
  ·rw[aA e,ifp_];exact h.lt i (by omega)
 ·rw[hlen] at hj
  rw[wU]
  by_cases e:j<ps.length
  ·rw[ay e]
   have bI:=h.lt j e
   by_cases er:i=ps.length
   ·rw[er,hEr _ bI,ifn_]
   ·rw[hE i _ er bI]
    rcases ck i ps.length with h4|h4
    ·rw[hup i _ h4];exact h.piv i j hi3 e
    ·rw[CA i _ (by omega) hi3 bI,ifn_]
  ·rw[aA e,ifp_,hcol i]
   by_cases er:i=ps.length
   ·rw[ay er,ifp_]
   ·rw[aA er,ifn_]
 ·rw[hlen] at hi3
  rw[wU] at ht
  by_cases e:i<ps.length
  ·rw[ay e] at ht
   have bI:=h.lt i e
   rw[hE i t (by omega) (by omega),hup i t e];exact h.z1 i t e ht
  ·rw[aA e,ifp_] at ht
   rw[show i=ps.length by omega];exact hEr t ht
 ·rw[hlen] at h1
  rcases ck t kk with h4|h4
  ·rw[hE i t (by omega) h4];exact CA i t (by omega) h2 h4
  ·rw[show t=kk by omega,hcol i,ifn_]
end
structure mn(n:Nat)(D:RM→Rat):Prop where
 congr:∀f g,(∀i k,i<n→k<n→f i k=g i k)→D f=D g
 swap:∀f a b,a<n→b<n→a≠b→D (d7 f a b)=-D f
 scale:∀f r c,r<n→D (fun i k=>if i=r then c*f r k else f i k)=c*D f
 add:∀f r i c,r<n→i<n→i≠r→D (fun j k=>if j=i then f i k+c*f r k else f j k)=D f
section
variable {n:Nat} {D:RM→Rat} {f:RM} {r k:Nat}
theorem mn.elim(h:mn n D)(hr:r<n)(hp:f r k≠0):D (kt f r k)=D f / f r k:=by
 -- the rows ahead of m are done
 have key:∀m,m≤n→D (fun i j=>if i=r then f r j / f r k else if i<m then f i j - f i k*(f r j / f r k) else f i j)=D f / f r k:=by
  intro m
  induction m with
  |zero=>
   intro _
   have:=h.scale f r (1 / f r k) hr
   rw[h.congr _ (fun i j=>if i=r then 1 / f r k*f r j else f i j) fun i j _ _=>by
    by_cases e:i=r
    ·rw[ay e,ay e];grind
    ·rw[aA e,aA e,ifn_],this]
   grind
  |succ m ih=>
   intro hm
   rw[←ih (by omega)]
   by_cases e:m=r
   ·refine h.congr _ _ fun i j _ _=>?_
    by_cases e2:i=r
    ·rw[ay e2,ay e2]
    ·rw[aA e2,aA e2]
     by_cases e3:i<m
     ·rw[ay e3,ifp_]
     ·rw[aA e3,ifn_]
   ·have:=h.add (fun i j=>if i=r then f r j / f r k else if i<m then f i j - f i k*(f r j / f r k) else f i j) r m (-f m k) hr (by omega) e
    rw[←this]
    refine h.congr _ _ fun i j _ _=>?_
    by_cases e2:i=m
    ·subst e2
     simp only[aM,aA e,Bs,qB,cr]
     grind
    ·rw[aA e2]
     by_cases e3:i=r
     ·rw[ay e3,ay e3]
     ·rw[aA e3,aA e3]
      by_cases e4:i<m
      ·rw[ay e4,ifp_]
      ·rw[aA e4,ifn_]
 rw[←key n (aL n)]
 refine h.congr _ _ fun i j hi _=>?_
 unfold kt
 by_cases e:i=r
 ·rw[ay e,ay e]
 ·rw[aA e,aA e,ay hi]
theorem mn.zero(h:mn n D)(hr:r<n)(h0:∀t,t<n→f r t=0):D f=0:=by
 rw[h.congr f (fun i t=>if i=r then 0*f r t else f i t) fun i t _ ht=>by
  by_cases e:i=r
  ·rw[ay e,e,h0 t ht];grind
  ·rw[aA e],h.scale f r 0 hr]
 grind
end
def jH:RM:=fun i k=>if i=k then 1 else 0
theorem C5(n:Nat)(f:RM):∀kk,kk≤n→∃g ps c,IsR g n kk ps∧(c:Rat)≠0∧∀D,mn n D→D f=c*D g
 |0,_=>⟨f,[],1,J8 f n,by decide,fun D _=>by grind⟩
 |kk+1,hk=>by
  obtain⟨g,ps,c,h1,h2,h3⟩:=C5 n f kk (by omega)
  by_cases h0:∃i,ps.length≤i∧i<n∧g i kk≠0
  ·obtain⟨i,hi,CC,lh⟩:=h0
   have hsw:d7 g i ps.length ps.length kk=g i kk:=by
    unfold d7
    by_cases e:ps.length=i
    ·rw[ay e,←e]
    ·rw[aA e,ay rfl]
   by_cases e:i=ps.length
   ·refine⟨_,_,c*g i kk,h1.step hi CC lh,fun e2=>?_,fun D hD=>?_⟩
    ·rcases Rat.mul_eq_zero.1 e2 with h|h
     ·exact h2 h
     ·exact lh h
    ·rw[hD.elim (by omega) (by rw[hsw];exact lh),hsw,h3 D hD]
     have:D (d7 g i ps.length)=D g:=hD.congr _ _ fun j t _ _=>by
      unfold d7
      by_cases e3:j=i
      ·rw[ay e3,e3,e]
      ·rw[aA e3,ifn_]
     rw[this];grind
   ·refine⟨_,_,-(c*g i kk),h1.step hi CC lh,fun e2=>?_,fun D hD=>?_⟩
    ·rcases Rat.mul_eq_zero.1 (show c*g i kk=0 by grind) with h|h
     ·exact h2 h
     ·exact lh h
    ·rw[hD.elim (by omega) (by rw[hsw];exact lh),hsw,hD.swap g i ps.length CC (by omega) e,h3 D hD]
     grind
  ·refine⟨g,ps,c,h1.none fun i hi CC=>?_,h2,h3⟩
   exact u5 fun e=>h0 ⟨i,hi,CC,e⟩
theorem J7 {n:Nat}{g:RM}{ps:List Nat}(h:IsR g n n ps)(hl:ps.length=n):∀i k,i<n→k<n→g i k=jH i k:=by
 have hp:∀j,j<n→ps[j]! =j:=by
  have z8:∀j,j<n→j≤ps[j]! :=by
   intro j
   induction j with
   |zero=>intro _;exact dU _
   |succ j ih=>intro hj;have:=ih (by omega);have:=h.inc j (j+1) (by omega) (by omega);omega
  have hle:∀d j,j+d+1=n→ps[j]!≤j:=by
   intro d
   induction d with
   |zero=>intro j hj;have:=h.lt j (by omega);omega
   |succ d ih=>intro j hj;have:=ih (j+1) (by omega);have:=h.inc j (j+1) (by omega) (by omega);omega
  intro j hj
  have:=z8 j hj;have:=hle (n - j - 1) j (by omega);omega
 intro i k hi hk
 have:=h.piv i k hi (by omega)
 rw[hp k hk] at this
 exact this
theorem mn.unique {n:Nat}{D E:RM→Rat}(hD:mn n D)(hE:mn n E)(hE1:E jH=1)(f:RM):D f=E f*D jH:=by
 obtain⟨g,ps,c,h1,h2,h3⟩:=C5 n f n (aL n)
 rw[h3 D hD,h3 E hE]
 rcases ck ps.length n with h|h
 ·have hz:∀t,t<n→g (n - 1) t=0:=fun t ht=>h1.z2 _ t (by omega) (by omega) ht
  rw[hD.zero (r:=n - 1) (by omega) hz,hE.zero (r:=n - 1) (by omega) hz];grind
 ·have hl:ps.length=n:=by have:=h1.le;omega
  have h4:=J7 h1 hl
  rw[hD.congr _ _ h4,hE.congr _ _ h4,hE1];grind
end
section
def vG(C k:Nat)(V:List Nu):Nat→Nat→Option Nat
 |0,_=>none
 |n+1,i=>if eA V[i*C+k]!≠0 then some i else vG C k V n (i+1)
def gc(C:Nat)(V:List Nu)(i r:Nat):Nat→List Nu
 |0=>V
 |j+1=>((gc C V i r j).set (i*C+j) (gc C V i r j)[r*C+j]!).set (r*C+j) (gc C V i r j)[i*C+j]!
def tQ(V:List Nu)(o:Nat)(h:List Nu→Nat→Nu):Nat→List Nu
 |0=>V
 |j+1=>(tQ V o h j).set (o+j) (h (tQ V o h j) j)
def io(C k r:Nat)(V:List Nu):Nat→List Nu
 |0=>V
 |n+1=>if n≠r∧eA (io C k r V n)[n*C+k]!≠0 then tQ (io C k r V n) (n*C) (fun U j=>zJ U[n*C+j]! (qM (io C k r V n)[n*C+k]! U[r*C+j]!)) C else io C k r V n
structure Pv where
 col:Nat
 by':Nu
 mov:Bool
 deriving Inhabited
def byN(C k i r:Nat)(V:List Nu):Nu:=(gc C V i r C)[r*C+k]!
def oV(R C k i r:Nat)(V:List Nu):List Nu:=io C k r (tQ (gc C V i r C) (r*C) (fun U j=>vo U[r*C+j]! (byN C k i r V)) C) R
def mf(R C:Nat):Nat→Nat→Nat→List Nu→List Pv→Option (List Nu×List Pv)
 |0,_,_,V,acc=>some (V,acc)
 |n+1,k,r,V,acc=>if r<R then
   match vG C k V (R - r) r with
   |none=>mf R C n (k+1) r V acc
   |some i=>if (oV R C k i r V).all aQ then mf R C n (k+1) (r+1) (oV R C k i r V) (acc++[⟨k,byN C k i r V,decide (i≠r)⟩]) else none
  else some (V,acc)
theorem EB {V:List Nu}{i t:Nat}{x:Nu}(hi:i<V.length):(V.set i x)[t]! =if t=i then x else V[t]! :=by
 simp only[Br]
 by_cases h:t=i
 ·subst h;rw[ay rfl,I9 hi];rfl
 ·rw[aA h,List.getElem?_set_ne (fun e=>h e.symm)]
theorem oq {C:Nat}{V:List Nu}{i r:Nat}:∀j,(gc C V i r j).length=V.length
 |0=>rfl
 |j+1=>by unfold gc;rw[IU,IU,oq j]
theorem qx {V:List Nu}{o:Nat}{h:List Nu→Nat→Nu}:∀j,(tQ V o h j).length=V.length
 |0=>rfl
 |j+1=>by unfold tQ;rw[IU,qx j]
theorem rG {C k r:Nat}{V:List Nu}:∀n,(io C k r V n).length=V.length
 |0=>rfl
 |n+1=>by
  unfold io
  split
  ·rw[qx,rG n]
  ·exact rG n
theorem uf {R C k i r:Nat}{V:List Nu}:(oV R C k i r V).length=V.length:=by unfold oV;rw[rG,qx,oq]
theorem cC {R C i j:Nat}(hi:i<R)(hj:j<C):i*C+j<R*C:=by
 have:(i+1)*C≤R*C:=ci C hi
 rw[bk,dh] at this
 omega
theorem xL {C i j i' j':Nat}(hj:j<C)(HG:j'<C)(h:i*C+j=i'*C+j'):i=i'∧j=j':=by
 have h1:(i*C+j) / C=i:=by rw[cj,vZ (by omega),dv hj];omega
 have h2:(i'*C+j') / C=i':=by rw[cj,vZ (by omega),dv HG];omega
 have:i=i':=by rw[←h1,←h2,h]
 subst this
 exact⟨rfl,by omega⟩
section
variable {R C:Nat} {V:List Nu}
theorem C0(hV:V.length=R*C){i r:Nat}(hi:i<R)(hr:r<R):∀j,j≤C→∀a b,a<R→b<C→(gc C V i r j)[a*C+b]! =if b<j then (if a=i then V[r*C+b]! else if a=r then V[i*C+b]! else V[a*C+b]!) else V[a*C+b]!
 |0,_,a,b,_,_=>by rw[ifn_];rfl
 |j+1,hj,a,b,ha,hb=>by
  have ih:=C0 hV hi hr j (by omega)
  have zM:i*C+j<(gc C V i r j).length:=by rw[oq,hV];exact cC hi (by omega)
  have wd:r*C+j<(gc C V i r j).length:=by rw[oq,hV];exact cC hr (by omega)
  unfold gc
  rw[EB (by rw[IU];exact wd),EB zM]
  have e1:=ih r j hr (by omega)
  have e2:=ih i j hi (by omega)
  have e3:=ih a b ha hb
  have p1:(a*C+b=r*C+j)↔(a=r∧b=j):=⟨fun e=>xL hb (by omega) e,by rintro⟨rfl,rfl⟩;rfl⟩
  have p2:(a*C+b=i*C+j)↔(a=i∧b=j):=⟨fun e=>xL hb (by omega) e,by rintro⟨rfl,rfl⟩;rfl⟩
  rw[aA (Bs j)] at e1 e2
  simp only[p1,p2]
  by_cases hbj:b=j
  ·subst hbj
   rw[aA (Bs b)] at e3
   by_cases har:a=r
   ·subst har
    by_cases hai:a=i
    ·subst hai;simp[e2]
    ·simp[hai,e2]
   ·by_cases hai:a=i
    ·subst hai;simp[har,e1]
    ·simp[har,hai,e3]
  ·have h2:(b<j+1)↔(b<j):=by omega
   simp only[hbj,and_false,qB,h2]
   exact e3
theorem G8 {n o:Nat}{h:List Nu→Nat→Nu}(ho:o+n≤V.length)(hh:∀(U:List Nu) j,j<n→(∀t,t<o∨o+j≤t→U[t]! =V[t]!)→h U j=h V j):∀j,j≤n→∀t,(tQ V o h j)[t]! =if o≤t∧t<o+j then h V (t - o) else V[t]!
 |0,_,t=>by rw[ifn_];rfl
 |j+1,hj,t=>by
  have ih:=G8 ho hh j (by omega)
  unfold tQ
  rw[EB (by rw[qx];omega)]
  by_cases e:t=o+j
  ·subst e
   rw[ay rfl,ifp_,hh _ j (by omega) (fun t ht=>by rw[ih t,ifn_]),show o+j - o=j by omega]
  ·rw[aA e,ih t]
   by_cases h2:o≤t∧t<o+j
   ·rw[ay h2,ifp_]
   ·rw[aA h2,ifn_]
theorem G7(hV:V.length=R*C){i:Nat}(hi:i<R){h:List Nu→Nat→Nu}(hh:∀(U:List Nu) j,j<C→(∀a b,a<R→b<C→a≠i∨j≤b→U[a*C+b]! =V[a*C+b]!)→h U j=h V j){a b:Nat}(ha:a<R)(hb:b<C):
  (tQ V (i*C) h C)[a*C+b]! =if a=i then h V b else V[a*C+b]! :=by
 have hle:i*C+C≤V.length:=by
  rw[hV]
  have:(i+1)*C≤R*C:=ci C hi
  rw[bk,dh] at this
  exact this
 rw[G8 hle (fun U j hj hU=>hh U j hj fun a b ha hb yk=>hU _ ?_) C (aL _)]
 ·by_cases e:a=i
  ·subst e
   rw[ay ⟨by omega,by omega⟩,ay rfl,show a*C+b - a*C=b by omega]
  ·rw[aA e,aA]
   intro⟨h1,h2⟩
   obtain⟨d,hd⟩:∃d,a*C+b=i*C+d:=⟨a*C+b - i*C,by omega⟩
   exact e (xL hb (show d<C by omega) hd).1
 ·rcases yk with h1|h1
  ·rcases ck a i with h2|h2
   ·left
    have:(a+1)*C≤i*C:=ci C h2
    rw[bk,dh] at this
    omega
   ·right
    have:(i+1)*C≤a*C:=ci C (by omega)
    rw[bk,dh] at this
    omega
  ·rcases yK a i with h2|h2|h2
   ·left
    have:(a+1)*C≤i*C:=ci C h2
    rw[bk,dh] at this
    omega
   ·subst h2;right;omega
   ·right
    have:(i+1)*C≤a*C:=ci C (by omega)
    rw[bk,dh] at this
    omega
theorem xI(hV:V.length=R*C){k r:Nat}(hk:k<C)(hr:r<R):∀n,n≤R→∀a b,a<R→b<C→(io C k r V n)[a*C+b]! =if a<n∧a≠r∧eA V[a*C+k]!≠0 then zJ V[a*C+b]! (qM V[a*C+k]! V[r*C+b]!) else V[a*C+b]!
 |0,_,a,b,_,_=>by rw[ifn_];rfl
 |n+1,hn,a,b,ha,hb=>by
  have ih:=xI hV hk hr n (by omega)
  have hx:(io C k r V n)[n*C+k]! =V[n*C+k]! :=by rw[ih n k (by omega) hk,ifn_]
  have hlen:(io C k r V n).length=R*C:=by rw[rG,hV]
  unfold io
  by_cases hc:n≠r∧eA (io C k r V n)[n*C+k]!≠0
  ·rw[ay hc,G7 hlen (show n<R by omega) (fun U j hj hU=>by rw[hU n j (by omega) hj (.inr (aL _)),hU r j hr hj (.inl (mb hc.1))]) ha hb]
   rw[hx] at hc ⊢
   by_cases e:a=n
   ·subst e
    rw[ay rfl,ay ⟨by omega,hc⟩,ih a b ha hb,ifn_,ih r b hr hb,ifn_]
   ·rw[aA e,ih a b ha hb]
    by_cases h2:a<n∧a≠r∧eA V[a*C+k]!≠0
    ·rw[ay h2,ay ⟨by omega,h2.2⟩]
    ·rw[aA h2,aA fun h3=>h2 ⟨by omega,h3.2⟩]
  ·rw[aA hc,ih a b ha hb]
   rw[hx] at hc
   by_cases h2:a<n∧a≠r∧eA V[a*C+k]!≠0
   ·rw[ay h2,ay ⟨by omega,h2.2⟩]
   ·rw[aA h2,aA fun h3=>?_]
    by_cases e:a=n
    ·subst e;exact hc h3.2
    ·exact h2 ⟨by omega,h3.2⟩
def toR(C:Nat)(V:List Nu):RM:=fun i k=>rv V[i*C+k]!
theorem wS(hg:V.all aQ=true){t:Nat}(ht:t<V.length):aQ V[t]! =true:=by
 rw[gF V t ht];exact bV.1 hg _ (yz ht)
theorem Dn {k:Nat}:∀{n i i0:Nat},vG C k V n i=some i0→i≤i0∧i0<i+n∧eA V[i0*C+k]!≠0
 |0,_,_,h=>by cases h
 |n+1,i,i0,h=>by
  unfold vG at h
  split at h
  ·rename_i hs;cases h;exact⟨by omega,by omega,hs⟩
  ·obtain⟨h1,h2,h3⟩:=Dn h;exact⟨by omega,by omega,h3⟩
theorem Do {k:Nat}:∀{n i:Nat},vG C k V n i=none→∀j,i≤j→j<i+n→eA V[j*C+k]! =0
 |0,i,_,j,h1,h2=>by omega
 |n+1,i,h,j,h1,h2=>by
  unfold vG at h
  split at h
  ·cases h
  ·rename_i hs
   by_cases e:j=i
   ·subst e;exact Classical.not_not.1 hs
   ·exact Do h j (by omega) (by omega)
theorem nSub_rv {x y:Nu}(h:aQ (zJ x y)=true):aQ x=true∧aQ y=true∧rv (zJ x y)=rv x - rv y:=by
 have hs:zJ x y=Cu x (Gn y):=by
  rw[Gm,wC,wA]
  have hv:cZ (nuR (Ec (cZ y.1))).1=Ec (cZ y.1):=by
   refine pS ?_
   intro p hp
   cases hy:cZ y.1 with
   |none=>rw[hy] at hp;cases hp
   |some q=>
    rw[hy] at hp
    have:-q=p:=by injection hp
    rw[←this];exact GY (eW.1 hy).1
  exact congrArg nuR (show osub (cZ x.1) (cZ y.1)=Gj (cZ x.1) (cZ (nuR (Ec (cZ y.1))).1) by rw[hv];rfl)
 rw[hs] at h ⊢
 obtain⟨h1,h2⟩:=GU h
 rw[C9] at h2
 rw[JY h1 (by rw[C9];exact h2) h,nNeg_rv]
 exact⟨h1,h2,by grind⟩
theorem stepN_R(hV:V.length=R*C)(hg:V.all aQ=true){k i r:Nat}(hk:k<C)(hi:i<R)(hr:r<R)(Ix:(oV R C k i r V).all aQ=true):
  aQ (byN C k i r V)=true∧rv (byN C k i r V)=d7 (toR C V) i r r k∧∀a b,a<R→b<C→toR C (oV R C k i r V) a b=kt (d7 (toR C V) i r) r k a b:=by
 have hgo:∀a b,a<R→b<C→aQ V[a*C+b]! =true:=fun a b ha hb=>wS hg (by rw[hV];exact cC ha hb)
 have zM:(gc C V i r C).length=R*C:=by rw[oq,hV]
 have hs:∀a b,a<R→b<C→(gc C V i r C)[a*C+b]! =if a=i then V[r*C+b]! else if a=r then V[i*C+b]! else V[a*C+b]! :=fun a b ha hb=>by rw[C0 hV hi hr C (aL _) a b ha hb,ay hb]
 have hsg:∀a b,a<R→b<C→aQ (gc C V i r C)[a*C+b]! =true∧rv (gc C V i r C)[a*C+b]! =d7 (toR C V) i r a b:=fun a b ha hb=>by
  rw[hs a b ha hb]
  unfold d7 toR
  split
  ·exact⟨hgo r b hr hb,rfl⟩
  ·split
   ·exact⟨hgo i b hi hb,rfl⟩
   ·exact⟨hgo a b ha hb,rfl⟩
 have Me:=hsg r k hr hk
 have wd:(tQ (gc C V i r C) (r*C) (fun U j=>vo U[r*C+j]! (byN C k i r V)) C).length=R*C:=by rw[qx,zM]
 have hd:∀a b,a<R→b<C→(tQ (gc C V i r C) (r*C) (fun U j=>vo U[r*C+j]! (byN C k i r V)) C)[a*C+b]! =if a=r then vo (gc C V i r C)[r*C+b]! (byN C k i r V) else (gc C V i r C)[a*C+b]! :=fun a b ha hb=>
  G7 zM hr (fun U j hj hU=>by rw[hU r j hr hj (.inr (aL _))]) ha hb
 have yf:∀a b,a<R→b<C→aQ (oV R C k i r V)[a*C+b]! =true:=fun a b ha hb=>wS Ix (by rw[uf,hV];exact cC ha hb)
 have NC:∀b,b<C→(oV R C k i r V)[r*C+b]! =vo (gc C V i r C)[r*C+b]! (byN C k i r V):=fun b hb=>by
  unfold oV
  rw[xI wd hk hr R (aL _) r b hr hb,ifn_,hd r b hr hb,ay rfl]
 have hrv:∀b,b<C→rv (vo (gc C V i r C)[r*C+b]! (byN C k i r V))=d7 (toR C V) i r r b / d7 (toR C V) i r r k:=fun b hb=>by
  have h1:=yf r b hr hb
  rw[NC b hb] at h1
  obtain⟨_,_,_,h2⟩:=Oq h1
  rw[h2,(hsg r b hr hb).2]
  unfold byN
  rw[Me.2]
 refine⟨Me.1,Me.2,fun a b ha hb=>?_⟩
 show rv (oV R C k i r V)[a*C+b]! =_
 unfold kt
 by_cases e:a=r
 ·subst e
  rw[ay rfl,NC b hb,hrv b hb]
 ·rw[aA e]
  have h1:=yf a b ha hb
  unfold oV at h1 ⊢
  rw[xI wd hk hr R (aL _) a b ha hb,hd a k ha hk,hd a b ha hb,hd r b hr hb,aA e,aA e,ay rfl] at h1 ⊢
  by_cases hc:a<R∧a≠r∧eA (gc C V i r C)[a*C+k]!≠0
  ·rw[ay hc] at h1 ⊢
   obtain⟨_,h3,h4⟩:=nSub_rv h1
   obtain⟨h5,h6⟩:=wQ h3
   rw[h4,z3 h5 h6 h3,(hsg a b ha hb).2,(hsg a k ha hk).2,hrv b hb]
  ·rw[aA hc]
   have h0:eA (gc C V i r C)[a*C+k]! =0:=by
    apply u5
    intro h;exact hc ⟨ha,e,h⟩
   have:=(C3 (hsg a k ha hk).1).1 h0
   rw[(hsg a k ha hk).2] at this
   rw[(hsg a b ha hb).2,this];grind
structure RedOk(R C:Nat)(f:RM)(W:List Nu)(l:List Pv):Prop where
 len:W.length=R*C
 good:W.all aQ=true
 red:IsR (toR C W) R C (l.map (·.col))
 sol:∀x,yO (toR C W) R C x↔yO f R C x
 byG:∀p∈l,aQ p.by'=true∧rv p.by'≠0
 det:∀D,R=C→mn R D→D f=(l.foldl (fun c p=>c*(rv p.by'*if p.mov then -1 else 1)) 1)*D (toR C W)
theorem D6 {f:RM}:∀(n k r:Nat) (V:List Nu) (acc:List Pv) {W:List Nu} {l:List Pv},k+n=C→V.length=R*C→V.all aQ=true→acc.length=r→IsR (toR C V) R k (acc.map (·.col))→(∀x,yO (toR C V) R C x↔yO f R C x)→(∀p∈acc,aQ p.by'=true∧rv p.by'≠0)→
  (∀D,R=C→mn R D→D f=(acc.foldl (fun c p=>c*(rv p.by'*if p.mov then -1 else 1)) 1)*D (toR C V))→mf R C n k r V acc=some (W,l)→RedOk R C f W l
 |0,k,r,V,acc,W,l,hk,hV,hg,ha,hI,hs,hb,hd,h=>by
  unfold mf at h
  cases h
  exact⟨hV,hg,by rw[show C=k by omega];rw[show C=k by omega] at hI;exact hI,hs,hb,hd⟩
 |n+1,k,r,V,acc,W,l,hk,hV,hg,ha,hI,hs,hb,hd,h=>by
  unfold mf at h
  have LD:(acc.map (·.col)).length=r:=by rw[eG,ha]
  by_cases hr:r<R
  ·rw[ay hr] at h
   have hgo:∀a,a<R→aQ V[a*C+k]! =true:=fun a ha=>wS hg (by rw[hV];exact cC ha (by omega))
   cases hf:vG C k V (R - r) r with
   |none=>
    rw[hf] at h
    refine D6 n (k+1) r V acc (by omega) hV hg ha (hI.none fun i h1 h2=>?_) hs hb hd h
    rw[LD] at h1
    exact (C3 (hgo i h2)).1 (Do hf i h1 (by omega))
   |some i=>
    rw[hf] at h
    dsimp only at h
    obtain⟨h1,h2,h3⟩:=Dn hf
    by_cases iR:(oV R C k i r V).all aQ=true
    ·rw[ay iR] at h
     obtain⟨h4,h5,h6⟩:=stepN_R hV hg (show k<C by omega) (show i<R by omega) hr iR
     have lh:toR C V i k≠0:=fun e=>h3 ((C3 (hgo i (by omega))).2 e)
     have hsw:d7 (toR C V) i r r k=toR C V i k:=by
      unfold d7
      by_cases e:r=i
      ·rw[ay e,←e]
      ·rw[aA e,ay rfl]
     have yf:=hI.step (i0:=i) (by rw[LD];exact h1) (by omega) lh
     rw[LD] at yf
     refine D6 n (k+1) (r+1) _ _ (by omega) (by rw[uf,hV]) iR (by simp[ha]) ?_ (fun x=>?_) ?_ (fun D Kh hD=>?_) h
     ·rw[nd]
      exact yf.congr (by omega) fun a b ha hb=>(h6 a b ha hb).symm
     ·rw[←hs x,←MC (f:=toR C V) (show i<R by omega) hr,←MD (f:=d7 (toR C V) i r) hr (by rw[hsw];exact lh)]
      exact⟨fun h=>h.congr h6,fun h=>h.congr fun a b ha hb=>(h6 a b ha hb).symm⟩
     ·intro p hp
      rcases tU.1 hp with h7|h7
      ·exact hb p h7
      ·rw[Je.1 h7];exact⟨h4,by rw[h5,hsw];exact lh⟩
     ·rw[hd D Kh hD,IY,tV,List.foldl_nil,hD.congr _ _ (fun a b ha hb=>h6 a b ha (by omega)),hD.elim hr (by rw[hsw];exact lh),h5,hsw]
      by_cases e:i=r
      ·rw[hD.congr (d7 (toR C V) i r) (toR C V) fun a b _ _=>by
        unfold d7
        by_cases e3:a=i
        ·rw[ay e3,e3,e]
        ·rw[aA e3,ifn_]]
       simp only[e,ne_eq,EQ,rt,KO,qB]
       subst e
       grind
      ·rw[hD.swap _ i r (by omega) hr e]
       simp only[e,ne_eq,not_false_eq_true,ru,aM]
       grind
    ·rw[aA iR] at h;cases h
  ·rw[aA hr] at h
   cases h
   have hle:=hI.le
   rw[LD] at hle
   exact⟨hV,hg,hI.full (by rw[LD];omega) (by omega),hs,hb,hd⟩
theorem H5(hV:V.length=R*C)(hg:V.all aQ=true){W:List Nu}{l:List Pv}(h:mf R C C 0 0 V []=some (W,l)):RedOk R C (toR C V) W l:=
 D6 C 0 0 V [] (by omega) hV hg rfl (J8 _ R) (fun _=>Iff.rfl) (by simp) (fun D _ _=>by simp only[List.foldl_nil];grind) h
end
end
section
def mkM {α:Type}(R C:Nat)(f:Nat→Nat→α):List α:=(List.range R).flatMap fun i=>(List.range C).map (f i)
section
variable {α β:Type} {R C:Nat} {f g:Nat→Nat→α}
theorem AE:mkM (R+1) C f=mkM R C f++(List.range C).map (f R):=by
 unfold mkM
 rw[u7,BA]
 simp
theorem et:(mkM R C f).length=R*C:=by
 induction R with
 |zero=>simp[mkM]
 |succ R ih=>rw[AE,eU,ih,eG,List.length_range,rV]
theorem AF {i k:Nat}(hi:i<R)(hk:k<C):(mkM R C f)[i*C+k]? =some (f i k):=by
 induction R with
 |zero=>omega
 |succ R ih=>
  rw[AE]
  rcases ck i R with h|h
  ·have:=cC h hk
   rw[vP (by rw[et];exact this)]
   exact ih h
  ·obtain rfl:i=R:=by omega
   rw[tW (by rw[et];omega),et,Fa,de,Jb hk]
   rfl
theorem oN [Inhabited α]{i k:Nat}(hi:i<R)(hk:k<C):(mkM R C f)[i*C+k]! =f i k:=by
 rw[Br,AF hi hk];rfl
theorem Le {t:Nat}(h:t<R*C):∃i k,i<R∧k<C∧t=i*C+k:=by
 have hC:0<C:=by
  rcases ma C with h0|h0
  ·rw[h0,E4] at h;omega
  ·exact h0
 refine⟨t / C,t % C,?_,dA _ hC,?_⟩
 ·exact Hj (by rw[cj];exact h)
 ·rw[cj];exact (og t C).symm
theorem oO {p:α→Bool}:(mkM R C f).all p=true↔∀i k,i<R→k<C→p (f i k)=true:=by
 rw[bV]
 constructor
 ·intro h i k hi hk
  exact h _ (cc (AF hi hk))
 ·intro h x hx
  obtain⟨t,ht⟩:=zq hx
  have bI:t<R*C:=by have:=(pL.1 ht).1;rwa[et] at this
  obtain⟨i,k,hi,hk,rfl⟩:=Le bI
  rw[AF hi hk] at ht
  injection ht with ht
  rw[←ht];exact h i k hi hk
end
end
section
section
variable {B:Nat} {hp:Hp} {g:Gh} {w w':World}
def Hp.re(hp:Hp)(k:Nat)(ds:List D):Hp:=⟨(hp.next,ds)::hp.vars.filter fun p=>!([k]:List Nat).contains p.1,hp.live,hp.next+1⟩
theorem wv {k:Nat}{ds a:List D}{j:Nat}(h:(hp.re k ds).vars.lookup j=some a):(j=hp.next∧a=ds)∨(j≠hp.next∧j≠k∧hp.vars.lookup j=some a):=by
 by_cases hj:j=hp.next
 ·subst hj
  have:some ds=some a:=by rw[←h];exact ai.symm
  injection this with this
  exact .inl ⟨rfl,this.symm⟩
 ·have h1:(hp.vars.filter fun p=>!([k]:List Nat).contains p.1).lookup j=some a:=by rw[←h];exact (ar hj).symm
  obtain⟨h2,h3⟩:=lB h1
  exact .inr ⟨hj,by simpa using h2,h3⟩
theorem bO.re(hr:HR B hp g w){k b:Nat}{tP:List D}(hk:hp.vars.lookup k=some tP)(ds:List D)(hs:w.heap.size≤w'.heap.size)(ho:∀c,c<w.heap.size→c≠g.μ k→w'.heap[c]? =w.heap[c]?)(hz:SzB w w' (g.μ k))(hb:b=g.μ k∨w.heap.size≤b):
  bO hp g w (hp.re k ds) (g.var hp.next b) w':=by
 have bI:=hr.var_lt hk
 obtain⟨h1,h2,h3,_⟩:=hr.var k tP hk
 refine⟨hs,fun p hp1 hf=>World.cell?_of_block (ho _ hp1 fun e=>hf (h3 p e)),fun p hpb hf=>?_,dJ _,fun j hj=>?_,fun _ _ m _ hm=>⟨m,hm,aL _,fun _=>rfl⟩,fun c hc hf=>⟨ho _ hc fun e=>hf.1 k tP hk e.symm,fun _ _ h=>.inl h,fun j a hj=>?_,hf.2⟩,fun c=>?_⟩
 ·rcases hf with hf|hf
  ·exact hf
  ·rcases hb with hb|hb
   ·exact h3 p (by rw[hf,hb])
   ·omega
 ·show (if j=hp.next then _ else _)=_
  rw[ifn_]
 ·rcases wv hj with⟨rfl,_⟩|⟨lh,_,h⟩
  ·show (if _ then _ else _)≠_
   rw[ay rfl]
   rcases hb with hb|hb
   ·rw[hb];exact hf.1 k tP hk
   ·omega
  ·show (if _ then _ else _)≠_
   rw[aA lh]
   exact hf.1 j a h
 ·by_cases hc:c=g.μ k
  ·subst hc;exact hz
  ·exact .same fun h=>ho c h hc
theorem HR.re(hr:HR B hp g w){k b:Nat}{tP:List D}(hk:hp.vars.lookup k=some tP)(ds:List D)(hs:w.heap.size≤w'.heap.size)(ho:∀c,c<w.heap.size→c≠g.μ k→w'.heap[c]? =w.heap[c]?)(hz:SzB w w' (g.μ k))(hb:b=g.μ k∨w.heap.size≤b)
  (cs:Array Value) (ty:TypeId) (hn:w'.heap[b]? =some (.cells cs ty (0,0))) (hl:ds.length≤cs.size) (hc:∀(j:Nat) (u:Value),cs[j]? =some u→(j<ds.length→u.oneCell'=true)∧∀d,ds[j]? =some d→aN hp g w d u):HR B (hp.re k ds) (g.var hp.next b) w':=by
 have m:=bO.re hr hk ds hs ho hz hb
 have hkl:=hr.var_lt hk
 obtain⟨hk1,yh,hk3,_⟩:=hr.var k tP hk
 have hbl:b<w'.heap.size:=(gD.1 hn).1
 have v9:(g.var hp.next b).μ hp.next=b:=ay rfl
 have hμ:∀j,j<hp.next→(g.var hp.next b).μ j=g.μ j:=m.μ
 have hdiff:∀{j:Nat} {a:List D},j≠k→hp.vars.lookup j=some a→g.μ j≠g.μ k:=fun hj h e=>hj (hr.inj _ _ _ _ h hk e)
 have AX:∀{j:Nat} {a:List D},j≠k→hp.vars.lookup j=some a→g.μ j≠b:=fun hj h e=>by
  rcases hb with hb|hb
  ·exact hdiff hj h (by rw[e,hb])
  ·have:=hr.var_lt h;omega
 refine⟨fun j a hj=>?_,fun j j' a a' hj HG he=>?_,fun id n e hi=>?_,fun id zb t t' c hi zf he Dj=>hr.tinj id zb t t' c hi zf he Dj,cX hr.base hs,fun p hf=>?_⟩
 ·rcases wv hj with⟨rfl,rfl⟩|⟨lh,hjk,h0⟩
  ·rw[v9]
   refine⟨cr _,?_,fun p hp'=>.inr hp',cs,ty,hn,hl,fun i u hu=>⟨(hc i u hu).1,fun d hd=>((hc i u hu).2 d hd).mono m⟩⟩
   rcases hb with hb|hb
   ·rw[hb];exact yh
   ·exact cX hr.base hb
  ·have bI:=hr.var_lt h0
   obtain⟨h1,h2,h3,th,JK,h4,h5,h6⟩:=hr.var j a h0
   rw[hμ j h1]
   exact⟨oE h1,h2,fun p hp'=>.inl (h3 p hp'),th,JK,(ho _ bI (hdiff hjk h0)).trans h4,h5,fun i u hu=>⟨(h6 i u hu).1,fun d hd=>((h6 i u hu).2 d hd).mono m⟩⟩
 ·rcases wv hj with⟨h1,_⟩|⟨h1,hjk,h0⟩ <;> rcases wv HG with⟨h2,_⟩|⟨h2,hjk',FA⟩
  ·omega
  ·rw[h1,v9,hμ j' (hr.var j' a' FA).1] at he
   exact absurd he.symm (AX hjk' FA)
  ·rw[h2,v9,hμ j (hr.var j a h0).1] at he
   exact absurd he (AX hjk h0)
  ·rw[hμ j (hr.var j a h0).1,hμ j' (hr.var j' a' FA).1] at he
   exact hr.inj j j' a a' h0 FA he
 ·obtain⟨h1,us,hz',h2,h3⟩:=hr.tok id n e hi
  refine⟨oE h1,us,hz',⟨h2.1,?_⟩,fun c Dk=>⟨fun p h4 h5=>.inl ((h3 c Dk).1 p h4 h5),fun j a hj=>?_⟩⟩
  ·rcases h2.2 with h0|⟨c,cap,cur,hv,hB,hh,r⟩
   ·exact .inl h0
   ·exact .inr ⟨c,cap,cur,hv,hB,(ho c (gD.1 hh).1 fun e=>(h3 c (by rw[hv];rfl)).2 k tP hk e.symm).trans hh,r⟩
  ·rcases wv hj with⟨rfl,_⟩|⟨lh,_,h0⟩
   ·rw[v9]
    rcases hb with hb|hb
    ·rw[hb];exact (h3 c Dk).2 k tP hk
    ·have:=(h2.lt c Dk).2;omega
   ·rw[hμ j (hr.var j a h0).1]
    exact (h3 c Dk).2 j a h0
 ·rcases hf with hf|hf
  ·exact bW (hr.fits p hf) hs
  ·rw[hf];exact hbl
theorem bO.addVar(hp:Hp)(g:Gh)(ds:List D){b:Nat}(hs:w.heap.size≤w'.heap.size)(hb:∀c,c<w.heap.size→w'.heap[c]? =w.heap[c]?)(z8:w.heap.size≤b):bO hp g w (hp.var ds) (g.var hp.next b) w':=by
 refine⟨hs,fun p hp1 _=>World.cell?_of_block (hb _ hp1),fun p hpb hf=>?_,dJ _,fun k hk=>?_,fun _ _ m _ hm=>⟨m,hm,aL _,fun _=>rfl⟩,fun c hc hf=>⟨hb _ hc,fun _ _ h=>.inl h,fun k ds' hk=>?_,hf.2⟩,fun c=>.same (hb c)⟩
 ·rcases hf with hf|hf
  ·exact hf
  ·omega
 ·show (if k=hp.next then _ else _)=_
  rw[ifn_]
 ·show (if k=hp.next then _ else _)≠_
  by_cases wN:k=hp.next
  ·rw[ay wN];omega
  ·rw[aA wN]
   exact hf.1 k ds' (by rw[←hk];exact (ar wN).symm)
theorem HR.addVar(hr:HR B hp g w)(ds:List D){b:Nat}(hs:w.heap.size≤w'.heap.size)(hb:∀c,c<w.heap.size→w'.heap[c]? =w.heap[c]?)(z8:w.heap.size≤b)(cs:Array Value)(ty:TypeId)(hn:w'.heap[b]? =some (.cells cs ty (0,0)))(hl:ds.length≤cs.size)
  (hc:∀(j:Nat) (u:Value),cs[j]? =some u→(j<ds.length→u.oneCell'=true)∧∀d,ds[j]? =some d→aN (hp.var ds) (g.var hp.next b) w' d u):HR B (hp.var ds) (g.var hp.next b) w':=by
 have m:=bO.addVar hp g ds hs hb z8
 have hμ:∀k,k<hp.next→(g.var hp.next b).μ k=g.μ k:=m.μ
 have v9:(g.var hp.next b).μ hp.next=b:=ay rfl
 have hbl:b<w'.heap.size:=(gD.1 hn).1
 have look:∀{j:Nat} {a:List D},(hp.var ds).vars.lookup j=some a→(j=hp.next∧a=ds)∨(j≠hp.next∧hp.vars.lookup j=some a):=by
  intro j a hj
  by_cases yi:j=hp.next
  ·subst yi
   have:some ds=some a:=by rw[←hj];exact ai.symm
   injection this with this
   exact .inl ⟨rfl,this.symm⟩
  ·exact .inr ⟨yi,by rw[←hj];exact (ar yi).symm⟩
 refine⟨fun j a hj=>?_,fun j j' a a' hj HG he=>?_,fun id n e hi=>?_,fun id zb t t' c hi zf he Dj=>hr.tinj id zb t t' c hi zf he Dj,cX hr.base hs,fun p hf=>?_⟩
 ·rcases look hj with⟨rfl,rfl⟩|⟨lh,h0⟩
  ·rw[v9]
   exact⟨cr _,cX hr.base z8,fun p hp'=>.inr hp',cs,ty,hn,hl,hc⟩
  ·have bI:=hr.var_lt h0
   obtain⟨h1,h2,h3,th,JK,h4,h5,h6⟩:=hr.var j a h0
   rw[hμ j h1]
   exact⟨oE h1,h2,fun p hp'=>.inl (h3 p hp'),th,JK,(hb _ bI).trans h4,h5,fun i u hu=>⟨(h6 i u hu).1,fun d hd=>((h6 i u hu).2 d hd).mono m⟩⟩
 ·rcases look hj with⟨h1,_⟩|⟨h1,h0⟩ <;> rcases look HG with⟨h2,_⟩|⟨h2,FA⟩
  ·omega
  ·rw[h1,v9,hμ j' (hr.var j' a' FA).1] at he
   have:=hr.var_lt FA;omega
  ·rw[h2,v9,hμ j (hr.var j a h0).1] at he
   have:=hr.var_lt h0;omega
  ·rw[hμ j (hr.var j a h0).1,hμ j' (hr.var j' a' FA).1] at he
   exact hr.inj j j' a a' h0 FA he
 ·obtain⟨h1,us,hz',h2,h3⟩:=hr.tok id n e hi
  refine⟨oE h1,us,hz',⟨h2.1,?_⟩,fun c Dk=>⟨fun p h4 h5=>.inl ((h3 c Dk).1 p h4 h5),fun j a hj=>?_⟩⟩
  ·rcases h2.2 with h0|⟨c,cap,cur,hv,hB,hh,r⟩
   ·exact .inl h0
   ·exact .inr ⟨c,cap,cur,hv,hB,(hb c (gD.1 hh).1).trans hh,r⟩
  ·rcases look hj with⟨rfl,_⟩|⟨lh,h0⟩
   ·rw[v9]
    have:=(h2.lt c Dk).2;omega
   ·rw[hμ j (hr.var j a h0).1]
    exact (h3 c Dk).2 j a h0
 ·rcases hf with hf|hf
  ·exact bW (hr.fits p hf) hs
  ·rw[hf];exact hbl
end
end
section
def D.toOw:D→D
 | .gw k z n=>.ow k 0 z n
 |d=>d
section
variable {P:Program} {tb:TypeId→Option TyE} {md:Md} {B:Nat} {hp hp':Hp} {g:Gh} {w w':World} {d:D} {v:Value}
theorem aN.toOw(h:aN hp g w d v):aN hp g w d.toOw v:=by
 cases h with
 |gw k z n c hk h1 h2 hs=>exact .ow k 0 z n c hk h1 h2
 |e x v h=>exact .e x v h
 |own id z n xs v h hid ht=>exact .own id z n xs v h hid ht
 |fu z n xs A h=>exact .fu z n xs A h
 |ag ds cs hl h1 hr=>exact .ag ds cs hl h1 hr
 |tu ds cs hl hr=>exact .tu ds cs hl hr
 |fp xs off ad hb hc=>exact .fp xs off ad hb hc
 |pt k off hk=>exact .pt k off hk
 |ow k off z n c hk h1 h2=>exact .ow k off z n c hk h1 h2
 |fn f ks hk=>exact .fn f ks hk
 |opt b d v hi h=>exact .opt b d v hi h
 |top v=>exact .top v
theorem JM {k off:Nat}(d:D):d.toOw.un=.pt k off↔d.un=.pt k off:=by cases d <;> simp[D.toOw,D.un]
theorem n9.toOw {o:Oper}{ev:Operand→D}(h:n9 P o (fun x=>(ev x).toOw) hp d hp'):n9 P o ev hp d hp':=
 fun B g w a Kn Q hr hx hk=>h B g w a Kn Q hr (fun x wa=>(hx x wa).toOw) hk
theorem m3.toOw {o:Oper}{ev:Operand→D}(h:m3 P tb md o (fun x=>(ev x).toOw) hp d hp'):m3 P tb md o ev hp d hp':=
 ⟨h.ok.toOw,fun h1=>⟨(h.quiet h1).1,fun bK h3=>((h.quiet h1).2 bK fun hl x hx j off e=>h3 hl x hx j off ((JM _).1 e)).toOw⟩,h.fr,fun hl x hx j off e=>h.lk hl x hx j off ((JM _).2 e)⟩
variable {ops:Array Oper} {K:List (Nat×D)→Hp→Prop} {os:List Oper} {tm:List (Nat×D)} {t:Tmp} {dst:Option Tmp} {op:Op} {ty:TypeId} {pos:String} {af:Array Edge} {gd:Option (Nat×Bool)}
theorem stG(tok:TOk P tb)(h:AVC P tb md.dr op ty (fun x=>(evD tm x).toOw) hp (Kq d hp'))(h2:bC P tb md ops K os (xK dst d tm) hp')(hn:md.nc tb op=true:=by exact rfl):bC P tb md ops K (⟨dst,op,ty,pos,af,none⟩::os) tm hp:=
 F3 rfl (((AVC.snd (o:=⟨dst,op,ty,pos,af,none⟩) tok h).q hn).toOw) h2
theorem J4(tok:TOk P tb){ev:Operand→D}{tt e:TypeId}{ti j:TyE}{x:Operand}{cs:List D}(ht:tb tt=some ti)(he:tb e=some j)(hx:(ev x).cells=some cs)(hl:cs.length=j.size)(zc:ti.ty=.slice e:=by exact rfl)(hz:Nat.ble 1 j.size=true:=by exact rfl)(hsm:Nat.ble j.size 16777216=true:=by exact rfl):
  n9 P ⟨dst,.buildSlice tt 1 #[(0,x)],ty,pos,af,gd⟩ ev hp (.gw hp.next j.size 1) (hp.var cs):=by
 have hz:=bg hz
 have hsm:=bg hsm
 have hu:=tok.slice ht zc
 refine .step fun B g w a hr wa=>?_
 have cM:=wa x (by simp[Op.operands])
 have qL:=cM.cells hx
 have A1:(a.eval x).cells.size=j.size:=by rw[←ej,←qL.1.1,hl]
 obtain⟨zv,hzv,Dh⟩:=tok.run_zero he w
 obtain⟨_,_,hzl,Ii⟩:=tok e j he
 have hs:=tok.run_sizeOf he w
 have zg:Instr.fill (fun i=>some (i*j.size,j.size)) ((Array.range (1*j.size)).map (zv.cells[·% zv.cells.size]!)) [(0,a.eval x)]=some (a.eval x).cells:=by
  have h0:fW (fun i=>some (i*j.size,j.size)) ((Array.range (1*j.size)).map (zv.cells[·% zv.cells.size]!)).toList ([(0,a.eval x)].map fun p=>(p.1,p.2.cells.toList))=some (a.eval x).cells.toList:=by
   have Iu:((Array.range (1*j.size)).map (zv.cells[·% zv.cells.size]!)).toList.length=j.size:=by simp
   simp only[cD,dT,fW,fe,bq,ej]
   rw[aA (by rw[A1,Array.size_map,Array.size_range];omega)]
   rw[E9,pN,Bt (by rw[Iu];omega),tX]
  have:=z9 h0
  simpa using this
 have bP:(Instr.buildSlice tt 1 #[(0,a.eval x)]).run P w=.ok (.slice (some ⟨w.heap.size,0,none⟩) 1 1) (w.alloc (.cells (a.eval x).cells e)):=by
  have hsm2:¬1*j.size > 2 ^ 24:=by omega
  have lh:¬1*j.size=0:=by omega
  simp only[Instr.buildSlice,Sem.run_bind,run_underlying hu,Result.andThen_ok,hs,aA hsm2,aA lh,hzv,Sem.run_pure]
  simp only[zg]
  rfl
 refine⟨.slice (some ⟨w.heap.size,0,none⟩) 1 1,g.var hp.next w.heap.size,w.alloc (.cells (a.eval x).cells e),?_,hr.newVar cs _ e (by rw[A1,hl];exact aL _) (fun i u hu=>?_),bO.var hp g w cs _,?_,(Below.refl _ _).alloc hr.base _,fun p _ h=>.inl h⟩
 ·simp[execOp,bP]
 ·have sZ:(a.eval x).cells.toList[i]? =some u:=by simpa using hu
  exact⟨fun _=>qL.2 u (cc sZ),fun d hd=>qL.1.2 i d u hd sZ⟩
 ·have:=aN.gw (hp:=hp.var cs) (g:=g.var hp.next w.heap.size) (w:=w.alloc (.cells (a.eval x).cells e)) hp.next j.size 1 1 (cr _) (aL _) (by decide) ⟨(a.eval x).cells,e,(0,0),by rw[show (g.var hp.next w.heap.size).μ hp.next=w.heap.size from ay rfl];exact heap_alloc_new w _,by omega⟩
  rwa[show (g.var hp.next w.heap.size).μ hp.next=w.heap.size from ay rfl] at this
theorem xH(w:World)(t ty e tt:TypeId)(i:TypeInfo)(ht:P.underlying t=some (.slice e))(hi:P.info? e=some i)
  (g H0 sCap:Nat) (cur:Array Value) (hg:w.heap[g]? =some (.cells cur tt (0,0)))
  (a:Addr) (m c:Nat) (news:List Value) (hl:news.length=m*i.size) (qq:∀j u,news[j]? =some u→w.cell? (a.add j)=some u) (h1:∀u∈news,u.oneCell'=true)
  (s4:H0+m≤sCap) (CF:H0*i.size+news.length≤cur.size):
  (Builtin.append_ #[t,t] ty #[.slice (some ⟨g,0,none⟩) H0 sCap,.slice (some a) m c]).run P w=
   .ok (.slice (some ⟨g,0,none⟩) (H0+m) sCap) (w.setRow g (cur.toList.take (H0*i.size)++news++cur.toList.drop (H0*i.size+news.length)).toArray):=by
 have hf:=run_firstCells_some (P:=P) w i.size m a m c news hl qq
 have yf:=run_storeCells_at P g (H0*i.size) tt news 0 cur w hg (by simpa using CF) h1
 simp only[lc] at yf
 simp[Builtin.append_,run_underlying ht,sizeOf,typeInfo,hi,Builtin.lenOf,s4,hf,Addr.add_lit,yf]
structure AppG(w:World)(g:Nat)(v':Value)(w':World)(b n z:Nat)(xs:List Value):Prop where
 size:w.heap.size≤w'.heap.size
 old:∀c,c<w.heap.size→c≠g→w'.heap[c]? =w.heap[c]?
 sz:SzB w w' g
 blk:b=g∨w.heap.size≤b
 rest:w'.os=w.os∧w'.tape=w.tape∧w'.output=w.output
 row:∃(cs:Array Value) (tt:TypeId) (cap:Nat),v'=.slice (some ⟨b,0,none⟩) n cap∧n≤cap∧cap≤maxLen∧w'.heap[b]? =some (.cells cs tt (0,0))∧cap*z≤cs.size∧cs.toList.take (n*z)=xs
theorem Cr(tok:TOk P tb){t e:TypeId}{ti j:TyE}(ht:tb t=some ti)(zc:ti.ty=.slice e)(he:tb e=some j)(hz:0<j.size)(w:World)(ty tt:TypeId)(g n cap:Nat)(cur:Array Value)(hg:w.heap[g]? =some (.cells cur tt (0,0)))(oY:n≤cap)(n7:cap≤maxLen)(qL:cap*j.size≤cur.size)
  (a:Addr) (m c:Nat) (news:List Value) (hl:news.length=m*j.size) (qq:∀j u,news[j]? =some u→w.cell? (a.add j)=some u) (h1:∀u∈news,u.oneCell'=true) (hm:0<m) (hb:(n+m)*max 1 j.bytes≤140737488355328):
  ∃v' w' b,(Builtin.append_ #[t,t] ty #[.slice (some ⟨g,0,none⟩) n cap,.slice (some a) m c]).run P w=.ok v' w'∧AppG w g v' w' b (n+m) j.size (cur.toList.take (n*j.size)++news):=by
 obtain⟨f,zz,Mb,Kf,hf2,hf3,hf4,_⟩:=tok.inf he
 have hu:=tok.slice ht zc
 have hgl:g<w.heap.size:=(gD.1 hg).1
 have Ma:n+m≤140737488355328:=cX (yD _ (by omega)) hb
 have AX:(n+m)*f.bytes≤140737488355328:=cX (tZ _ (by rw[hf2];omega)) hb
 have hns:n*j.size≤cap*j.size:=ci _ oY
 have z7:(cur.toList.take (n*j.size)).length=n*j.size:=by rw[eL,ej];omega
 by_cases s4:n+m≤cap
 ·have Iq:(n+m)*j.size≤cap*j.size:=ci _ s4
  rw[bk] at Iq
  have hr:=xH (P:=P) w t ty e tt f hu Mb g n cap cur hg a m c news (by rw[Kf];exact hl) qq h1 s4 (by rw[Kf,hl];omega)
  rw[Kf] at hr
  have AU:(cur.toList.take (n*j.size)++news++cur.toList.drop (n*j.size+news.length)).toArray.size=cur.size:=by
   simp only[mi,eU,eL,gi,ej];omega
  refine⟨_,_,g,hr,by simp,fun c _ hc=>setRow_other w g c _ hc,SzB.row hg AU,.inl rfl,⟨rfl,rfl,rfl⟩,_,tt,cap,rfl,s4,n7,setRow_heap w g cur _ tt (0,0) hg,by rw[AU];exact qL,?_⟩
  have e1:(n+m)*j.size=(cur.toList.take (n*j.size)++news).length:=by rw[eU,z7,hl,bk]
  rw[e1]
  exact pB
 ·have holds:∀i u,(cur.toList.take (n*j.size))[i]? =some u→w.cell? ((⟨g,0,none⟩:Addr).add i)=some u:=fun i u hu=>by
   rw[gV] at hu
   split at hu
   ·rw[Addr.add_lit]
    simpa[World.cell?,hg] using hu
   ·cases hu
  have hr:=run_append_grow (P:=P) w t ty e f zz hu Mb hf3 ⟨g,0,none⟩ n cap (cur.toList.take (n*j.size)) (by rw[Kf];exact z7) holds a m c news (by rw[Kf];exact hl) qq (by omega) (by omega) (growslice_fits (by omega) AX)
  have z8:=grownCap_ge w (n+m) cap e
  have hzs:zz.cells.size=j.size:=by
   have h4:=(tok e j he).2.2.1
   rw[←ej,hf4,h4]
  refine⟨_,_,w.heap.size,hr,by simp,fun c hc _=>heap_alloc_old w.drew _ hc,.same fun h=>heap_alloc_old w.drew _ h,.inr (aL _),⟨rfl,rfl,rfl⟩,_,e,_,rfl,z8,grownCap_le_maxLen w (n+m) cap e (by unfold maxLen;omega),heap_alloc_new w.drew _,?_,?_⟩
  ·simp only[Bw,mi,size_zeroCells,hzs,z7,hl,←bk]
   exact ci _ (by omega)
  ·have e1:(n+m)*j.size=(cur.toList.take (n*j.size)++news).length:=by rw[eU,z7,hl,bk]
   simp only[EP]
   rw[e1]
   exact pB
theorem appR_ok(tok:TOk P tb){ev:Operand→D}{t e:TypeId}{ti j:TyE}{x y:Operand}{k n ky:Nat}{ds news:List D}(ht:tb t=some ti)(he:tb e=some j)(hk:hp.vars.lookup k=some ds)(hy:hp.vars.lookup ky=some news)(hx:ev x=.gw k j.size n)(hyy:ev y=.gw ky j.size 1)(hl:ds.length=n*j.size)(Iu:news.length=j.size)(hb:(n+1)*max 1 j.bytes≤140737488355328)
  (zc:ti.ty=.slice e:=by exact rfl) (hz:Nat.ble 1 j.size=true:=by exact rfl):
  n9 P ⟨dst,.call ⟨.builtin .append,#[x,y],#[t,t]⟩,ty,pos,af,gd⟩ ev hp (.gw hp.next j.size (n+1)) (hp.re k (ds++news)):=by
 have hz:=bg hz
 refine .step fun B g w a hr wa=>?_
 ·have h1:=wa x (cy (by simp))
  have h2:=wa y (cy (by simp))
  rw[hx] at h1
  rw[hyy] at h2
  obtain⟨q1,q2,q3,cs,tt,q4,q5,q6⟩:=hr.var k ds hk
  obtain⟨y1,y2,y3,ys,yt,y4,y5,y6⟩:=hr.var ky news hy
  generalize hv1:a.eval x=v1 at h1
  generalize hv2:a.eval y=v2 at h2
  cases h1 with
  |gw _ _ _ cap wN oY n7 hs=>
  cases h2 with
  |gw _ _ _ c hkn2 hnc2 hcm2 L7=>
  obtain⟨th,tt',l',h3,h4⟩:=hs
  rw[q4] at h3
  injection h3 with h3
  injection h3 with h3 h5 h6
  subst h3;subst h5;subst h6
  have qq:∀i u,(ys.toList.take j.size)[i]? =some u→w.cell? ((⟨g.μ ky,0,none⟩:Addr).add i)=some u:=fun i u hu=>by
   rw[gV] at hu
   split at hu
   ·rw[Addr.add_lit]
    simpa[World.cell?,y4] using hu
   ·cases hu
  have hyone:∀u∈ys.toList.take j.size,u.oneCell'=true:=fun u hu=>by
   obtain⟨i,hi⟩:=zq hu
   rw[gV] at hi
   split at hi
   ·rename_i bI
    exact (y6 i u (by simpa using hi)).1 (by omega)
   ·cases hi
  obtain⟨v',w',b,bP,rl⟩:=Cr tok ht zc he hz w ty tt (g.μ k) n cap cs q4 oY n7 h4 ⟨g.μ ky,0,none⟩ 1 c (ys.toList.take j.size) (by rw[eL,ej];omega) qq hyone (by omega) hb
  obtain⟨cs2,tt2,cap2,uk,Kg,ni,hh2,Of,Fy⟩:=rl.row
  have hlen:(ds++news).length=(n+1)*j.size:=by rw[eU,hl,Iu,bk,dh]
  have Fx:(n+1)*j.size≤cap2*j.size:=ci _ Kg
  have hHR:HR B (hp.re k (ds++news)) (g.var hp.next b) w':=hr.re hk _ rl.size rl.old rl.sz rl.blk cs2 tt2 hh2 (by rw[hlen];omega) (fun i u hu=>by
   have hwin:i<(n+1)*j.size→(cs.toList.take (n*j.size)++ys.toList.take j.size)[i]? =some u:=fun hi=>by
    rw[←Fy,gV,ay hi];simpa using hu
   have NA:(cs.toList.take (n*j.size)).length=n*j.size:=by rw[eL,ej];omega
   have look:∀hi:i<(n+1)*j.size,(i<n*j.size∧cs[i]? =some u)∨(n*j.size≤i∧i - n*j.size<j.size∧ys[i - n*j.size]? =some u):=fun hi=>by
    have h:=hwin hi
    rcases ck i (n*j.size) with bI|z8
    ·rw[vP (by omega),gV,ay bI] at h
     exact .inl ⟨bI,by simpa using h⟩
    ·rw[tW (by omega),NA,gV] at h
     rw[bk,dh] at hi
     rw[ifp_] at h
     exact .inr ⟨z8,by omega,by simpa using h⟩
   refine⟨fun hi=>?_,fun d hd=>?_⟩
   ·rw[hlen] at hi
    rcases look hi with⟨h5,h6⟩|⟨h5,h6,h7⟩
    ·exact (q6 i u h6).1 (by omega)
    ·exact (y6 _ u h7).1 (by omega)
   ·have hi:i<(n+1)*j.size:=by rw[←hlen];exact (pL.1 hd).1
    rcases look hi with⟨h5,h6⟩|⟨h5,h6,h7⟩
    ·rw[vP (by omega)] at hd
     exact (q6 i u h6).2 d hd
    ·rw[tW (by omega),hl] at hd
     exact (y6 _ u h7).2 d hd)
  refine⟨v',g.var hp.next b,w',?_,hHR,bO.re hr hk _ rl.size rl.old rl.sz rl.blk,?_,⟨rl.rest.1,rl.rest.2.1,rl.rest.2.2,rl.size,fun c hc=>rl.old c (bW hc hr.base) (by omega)⟩,fun p h5 h6=>.inl h6⟩
  ·simp only[execOp,Array.map_map,EU,cD,dT,resolve,invoke,builtin,hv1,hv2,Sem.run_bind]
   simp[resolve,invoke,builtin,hv1,hv2,bP]
  ·subst uk
   have v9:(g.var hp.next b).μ hp.next=b:=ay rfl
   have:=aN.gw (hp:=hp.re k (ds++news)) (g:=g.var hp.next b) (w:=w') hp.next j.size (n+1) cap2 (cr _) Kg ni ⟨cs2,tt2,(0,0),by rw[v9];exact hh2,Of⟩
   rwa[v9] at this
end
end
section
section
variable {P:Program} {tb:TypeId→Option TyE} {md:Md} {B:Nat} {hp hp':Hp} {g:Gh} {w w':World} {d:D} {v:Value}
theorem appN(tok:TOk P tb){ev:Operand→D}{dst:Option Tmp}{ty:TypeId}{pos:String}{af:Array Edge}{gd:Option (Nat×Bool)}{t e:TypeId}{ti j:TyE}{x y:Operand}{ky:Nat}{news:List D}(ht:tb t=some ti)(he:tb e=some j)(hy:hp.vars.lookup ky=some news)(hx:ev x=.e (.lit (.slice none 0 0)))(hyy:ev y=.gw ky j.size 1)(Iu:news.length=j.size)(hb:1*max 1 j.bytes≤140737488355328)
  (zc:ti.ty=.slice e:=by exact rfl) (hz:Nat.ble 1 j.size=true:=by exact rfl):
  m3 P tb md ⟨dst,.call ⟨.builtin .append,#[x,y],#[t,t]⟩,ty,pos,af,gd⟩ ev hp (.gw hp.next j.size 1) (hp.var news):=by
 have hz:=bg hz
 refine⟨.step fun B g w a hr wa=>?_,fun hq=>?_,fun _=>⟨dJ _,fun j hj=>ar (by omega)⟩,fun h=>by cases h⟩
 ·have h1:=wa x (cy (by simp))
  have h2:=wa y (cy (by simp))
  rw[hx] at h1
  rw[hyy] at h2
  have h1:=h1.lit
  obtain⟨y1,y2,y3,ys,yt,y4,y5,y6⟩:=hr.var ky news hy
  generalize hv2:a.eval y=v2 at h2
  cases h2 with
  |gw _ _ _ c hkn2 hnc2 hcm2 L7=>
  obtain⟨f,zz,Mb,Kf,hf2,hf3,hf4,_⟩:=tok.inf he
  have hu:=tok.slice ht zc
  have hzs:zz.cells.size=j.size:=by
   have h4:=(tok e j he).2.2.1
   rw[←ej,hf4,h4]
  have AX:f.bytes≤140737488355328:=by rw[hf2];omega
  have qq:∀i u,(ys.toList.take j.size)[i]? =some u→w.cell? ((⟨g.μ ky,0,none⟩:Addr).add i)=some u:=fun i u hu=>by
   rw[gV] at hu
   split at hu
   ·rw[Addr.add_lit]
    simpa[World.cell?,y4] using hu
   ·cases hu
  have AU:(ys.toList.take j.size).length=j.size:=by rw[eL,ej];omega
  have bP:=run_append_nil (P:=P) w t ty e f zz hu Mb hf3 ⟨g.μ ky,0,none⟩ 1 c (ys.toList.take j.size) (by rw[Kf,AU];omega) qq (by omega) (by omega) (by omega)
  have z8:=grownCap_ge w 1 0 e
  have hold:∀c,c<w.heap.size→(w.drew.alloc (.cells ((ys.toList.take j.size).toArray++Builtin.zeroCells zz.cells (grownCap w 1 0 e - 1)) e)).heap[c]? =w.heap[c]? :=fun c hc=>heap_alloc_old w.drew _ hc
  have tf:=heap_alloc_new w.drew (.cells ((ys.toList.take j.size).toArray++Builtin.zeroCells zz.cells (grownCap w 1 0 e - 1)) e)
  have mo:=bO.addVar (w:=w) (w':=w.drew.alloc (.cells ((ys.toList.take j.size).toArray++Builtin.zeroCells zz.cells (grownCap w 1 0 e - 1)) e)) hp g news (b:=w.heap.size) (by simp) hold (aL _)
  have hsz:((ys.toList.take j.size).toArray++Builtin.zeroCells zz.cells (grownCap w 1 0 e - 1)).size=grownCap w 1 0 e*j.size:=by
   simp only[Bw,mi,size_zeroCells,hzs,AU]
   have:grownCap w 1 0 e=1+(grownCap w 1 0 e - 1):=by omega
   rw[this,bk,dh]
   congr 2
   omega
  have h1z:1*j.size≤grownCap w 1 0 e*j.size:=ci _ z8
  refine⟨.slice (some ⟨w.heap.size,0,none⟩) 1 (grownCap w 1 0 e),g.var hp.next w.heap.size,_,?_,hr.addVar news (w':=w.drew.alloc (.cells ((ys.toList.take j.size).toArray++Builtin.zeroCells zz.cells (grownCap w 1 0 e - 1)) e)) (by simp) hold (aL _) _ e tf (by rw[hsz,Iu];omega) (fun i u hu=>?_),mo,?_,⟨rfl,rfl,rfl,by simp,fun c hc=>hold c (bW hc hr.base)⟩,fun p h5 h6=>.inl h6⟩
  ·simp only[execOp,Array.map_map,EU,cD,dT,resolve,invoke,builtin,h1,hv2,Sem.run_bind]
   simp[resolve,invoke,builtin,h1,hv2,bP]
  ·have CC:i<news.length→ys[i]? =some u:=fun hi=>by
    have zf:i<(ys.toList.take j.size).toArray.size:=by rw[mi,AU];omega
    rw[yC zf,Bz,gV,ifp_] at hu
    simpa using hu
   exact⟨fun hi=>(y6 i u (CC hi)).1 hi,fun d hd=>((y6 i u (CC (pL.1 hd).1)).2 d hd).mono mo⟩
  ·have v9:(g.var hp.next w.heap.size).μ hp.next=w.heap.size:=ay rfl
   have:=aN.gw (hp:=hp.var news) (g:=g.var hp.next w.heap.size) (w:=w.drew.alloc (.cells ((ys.toList.take j.size).toArray++Builtin.zeroCells zz.cells (grownCap w 1 0 e - 1)) e)) hp.next j.size 1 (grownCap w 1 0 e) (cr _) z8 (grownCap_le_maxLen w 1 0 e (by decide)) ⟨_,e,(0,0),by rw[v9];exact tf,by rw[hsz];exact aL _⟩
   rwa[v9] at this
 ·exfalso
  cases md with
  |seq=>cases hq
  |any L=>
   have h1:((qi (.call ⟨.builtin .append,#[x,y],#[t,t]⟩)&&!Nj tb (.call ⟨.builtin .append,#[x,y],#[t,t]⟩))||vK tb L (.call ⟨.builtin .append,#[x,y],#[t,t]⟩))=true:=hq
   simp[qi,vK] at h1
def Fv(hp:Hp)(g:Gh):Addr→Prop:=fun p=>g.F p∧∀k ds,hp.vars.lookup k=some ds→g.μ k≠p.block
def AR(hp:Hp)(d d':D):Prop:=∀(B:Nat) (g:Gh) (w:World) (v:Value),HR B hp g w→aN hp g w d v→kU w (Fv hp g) d' v
theorem AR.data(h:d.ex.pure=true):AR hp d d.ex:=fun _ _ _ _ _ hd=>(hd.xport h).less fun _ hp=>hp.1
theorem AR.sl {k z n off:Nat}{F:List E}(hv:hp.vars.lookup k=some (dC F))(hz:0<z)(hl:off+n*z≤F.length):AR hp (.ow k off z n) (.e (.sl z n ((F.drop off).take (n*z)))):=by
 intro B g w v hr hd
 obtain⟨h1,h2,h3,cs,ty,h4,h5,h6⟩:=hr.var k _ hv
 rw[gT] at h5
 cases hd with
 |ow _ _ _ _ c hk oY n7=>
  refine .e _ _ (.sl z n _ (some ⟨g.μ k,off,none⟩) c (fun i=>cs.getD (off+i) undef) (by rw[eL,gi];omega) hz oY n7 (fun _=>⟨_,rfl,(gD.1 h4).1⟩) (fun ad ha i e hi=>?_) (fun i e hi=>?_))
  ·injection ha with ha
   subst ha
   have zf:i<n*z:=by
    have:=(pL.1 hi).1
    rw[eL] at this;omega
   have LE:(⟨g.μ k,off,none⟩:Addr).add i=⟨g.μ k,off+i,none⟩:=by unfold Addr.add;split <;> simp_all
   refine⟨?_,fun hf=>hf.2 k _ hv (by rw[iL])⟩
   rw[LE]
   have bI:off+i<cs.size:=by omega
   simp[World.cell?,h4,cP,bI]
  ·have zf:i<n*z:=by
    have:=(pL.1 hi).1
    rw[eL] at this;omega
   have bI:off+i<cs.size:=by omega
   rw[gV,ay zf,pM] at hi
   have hu:=h6 (off+i) (cs.getD (off+i) undef) (by simp[cP,bI])
   have:=hu.2 (.e e) (by unfold dC;rw[de,hi];rfl)
   cases this with
   |e _ _ h7=>exact h7.less fun p hp=>hp.1
def ARs(hp:Hp):List D→List D→Prop
 |[],[]=>True
 |d::ds,e::es=>AR hp d e∧ARs hp ds es
 |_,_=>False
theorem ARs.get:∀{ds es:List D},ARs hp ds es→ds.length=es.length∧∀(j:Nat) (e:D),es[j]? =some e→∃d,ds[j]? =some d∧AR hp d e
 |[],[],_=>⟨rfl,fun j e h=>by simp at h⟩
 |d::ds,e::es,⟨h1,h2⟩=>by
  obtain⟨h3,h4⟩:=ARs.get h2
  refine⟨by simp[h3],fun j x hx=>?_⟩
  cases j with
  |zero=>simp at hx;subst hx;exact⟨d,rfl,h1⟩
  |succ j=>exact h4 j x (by simpa using hx)
 |[],_::_,h=>h.elim
 |_::_,[],h=>h.elim
theorem AR.ag {ds es:List D}(h:ARs hp ds es):AR hp (.ag ds) (.ag es):=by
 intro B g w v hr hd
 obtain⟨h1,h2⟩:=h.get
 cases hd with
 |ag _ cs hl ho Fu=>
  refine .ag es cs (by omega) ho fun j e u hj hu=>?_
  obtain⟨d,h3,h4⟩:=h2 j e hj
  exact h4 B g w u hr (Fu j d u h3 hu)
def D.flatC:D→Bool
 | .e (.lit _)=>true
 |_=>false
def D.flat1:D→Bool
 | .ag ds=>ds.all D.flatC
 |d=>d.flatC
def D.flat:D→Bool
 | .tu ds=>ds.all D.flat1
 |d=>d.flat1
theorem GV {F:Addr→Prop}(h:kU w F d v)(hf:d.flatC=true)(hp:Hp)(g:Gh)(w':World):aN hp g w' d v:=by
 cases h with
 |e x v h=>
  cases x with
  |lit u=>cases h with|lit _ ho=>exact .e _ _ (.lit _ ho)
  |_=>cases hf
 |_=>cases hf
theorem GW {F:Addr→Prop}(h:kU w F d v)(hf:d.flat1=true)(hp:Hp)(g:Gh)(w':World):aN hp g w' d v:=by
 cases d with
 |ag ds=>
  cases h with
  |ag _ cs hl ho Fu=>exact .ag ds cs hl ho fun j d u hj hu=>GV (Fu j d u hj hu) (bV.1 hf d (cc hj)) hp g w'
 |_=>exact GV h hf hp g w'
theorem flat_to {F:Addr→Prop}(h:kU w F d v)(hf:d.flat=true)(hp:Hp)(g:Gh)(w':World):aN hp g w' d v:=by
 cases d with
 |tu ds=>
  cases h with
  |tu _ cs hl Fu=>exact .tu ds cs hl fun j d u hj hu=>GW (Fu j d u hj hu) (bV.1 hf d (cc hj)) hp g w'
 |_=>exact GW h hf hp g w'
theorem K4(hr:HR B hp g w):∀p:Addr,Fv hp g p→p.block<w.heap.size:=fun p h=>hr.fits p h.1
theorem yv {f:FuncId}{ds ds':List D}{r:D}(hc:aB P f ds' r)(ha:ARs hp ds ds'){vs:Array Value}(hr:HR B hp g w)(hsz:vs.size=ds.length)(cM:∀(j:Nat) (d:D) (u:Value),ds[j]? =some d→vs[j]? =some u→aN hp g w d u):
  Calls P f vs w fun e w'=>∃v,e=.returned v∧tj w.heap.size (Fv hp g) w' r v∧Below w.heap.size w w':=by
 obtain⟨h1,h2⟩:=ha.get
 refine hc.2 w _ vs (K4 hr) (by omega) fun j e u hj hu=>?_
 obtain⟨d,h3,h4⟩:=h2 j e hj
 exact h4 B g w u hr (cM j d u h3 hu)
theorem HC.frz {f:FuncId}{ds ds':List D}{r:D}(hc:aB P f ds' r)(ha:ARs hp ds ds')(hf:r.flat=true):HC P f ds hp r hp:=by
 refine⟨hc.1,fun B g w vs hr hsz cM=>(yv hc ha hr hsz cM).mono ?_⟩
 rintro e w' ⟨v,rfl,lT,hb⟩
 have NE:kU w' (Fv hp g) r v:=by
  unfold tj at lT
  split at lT
  ·cases hf
  ·exact lT
 exact⟨v,g,rfl,hr.keep hb.size hb.block,bO.keep hp g hb.size hb.block,flat_to NE hf hp g w',hb.mono hr.base,fun _ _ h=>h⟩
def E.isLit:E→Bool
 | .lit _=>true
 |_=>false
theorem HC.adopt {f:FuncId}{ds ds':List D}{e z n:Nat}{xs:List E}(hc:aB P f ds' (.own e z n xs))(ha:ARs hp ds ds')(hn:0<n)(hx:xs.all E.isLit=true):HC P f ds hp (.gw hp.next z n) (hp.var (dC xs)):=by
 refine⟨hc.1,fun B g w vs hr hsz cM=>(yv hc ha hr hsz cM).mono ?_⟩
 rintro en w' ⟨v,rfl,⟨hz,⟨us,ho⟩,lT⟩,hb⟩
 rcases ho.2 with⟨rfl,rfl⟩|⟨b,cap,cur,rfl,hB,hh,oY,n7,qL,NA⟩
 ·omega
 have z7:xs.length=n*z:=by cases lT with|sl _ _ _ _ _ _ hl=>exact hl
 have Ka:=ho.1
 have hns:n*z≤cap*z:=ci _ oY
 have mo:=bO.addVar hp g (dC xs) hb.size hb.block hB
 have v9:(g.var hp.next b).μ hp.next=b:=ay rfl
 have cells:∀(i:Nat) (u:Value),cur[i]? =some u→∀x,xs[i]? =some x→∃y,x=.lit y∧u=y∧y.oneCell'=true:=fun i u hu x hxi=>by
  have hlit:x.isLit=true:=bV.1 hx x (cc hxi)
  cases lT with
  |sl _ _ _ _ _ us2 _ _ _ _ hA Dk Fu=>
   obtain⟨h5,_⟩:=Dk _ rfl i x hxi
   have h6:w'.cell? ((⟨b,0,none⟩:Addr).add i)=cur[i]? :=by rw[Addr.add_lit];simp[World.cell?,hh]
   rw[h6,hu] at h5
   injection h5 with h5
   have h7:=Fu i x hxi
   rw[←h5] at h7
   cases x with
   |lit y=>cases h7 with|lit _ ho=>exact⟨_,rfl,rfl,ho⟩
   |_=>cases hlit
 refine⟨_,g.var hp.next b,rfl,hr.addVar (dC xs) hb.size hb.block hB cur e hh (by rw[gT,z7,qL];exact hns) (fun i u hu=>⟨fun hi=>?_,fun d hd=>?_⟩),mo,?_,hb.mono hr.base,fun p _ h=>.inl h⟩
 ·rw[gT] at hi
  obtain⟨y,_,rfl,h⟩:=cells i u hu xs[i] (ff hi)
  exact h
 ·unfold dC at hd
  rw[de] at hd
  obtain⟨x,Cy,rfl⟩:=qC.1 hd
  obtain⟨y,rfl,rfl,h⟩:=cells i u hu x Cy
  exact .e _ _ (.lit _ h)
 ·have:=aN.gw (hp:=hp.var (dC xs)) (g:=g.var hp.next b) (w:=w') hp.next z n cap (cr _) oY n7 ⟨cur,e,(0,0),by rw[v9];exact hh,by omega⟩
  rwa[v9] at this
end
end
section
section
variable {P:Program} {tb:TypeId→Option TyE} {md:Md} {hp hp':Hp} {d:D} {dst:Option Tmp} {ty:TypeId} {pos:String} {af:Array Edge} {gd:Option (Nat×Bool)} {ev:Operand→D}
theorem Lm {x:Operand}{f:FuncId}{aS:List Operand}{ts:Array TypeId}{ds:List D}(vy:ev x=.e (.lit (.func (.func f) #[] #[])))(hc:HC P f ds hp d hp')(hd:aS.map ev=ds):n9 P ⟨dst,.call ⟨.value x,aS.toArray,ts⟩,ty,pos,af,gd⟩ ev hp d hp':=by
 intro B g w a Kn Q hr hx wN
 subst hd
 obtain⟨⟨fn,hf,hn,zj⟩,wO⟩:=hc
 have hv:=hx x (by simp[Op.operands,Call.operands])
 rw[vy] at hv
 have hv:=hv.lit
 have A1:=wO B g w (aS.map a.eval).toArray hr (by simp) (fun j d u hd hu=>by
  rw[de] at hd
  obtain⟨y,hy,rfl⟩:=qC.1 hd
  have sZ:(aS.map a.eval)[j]? =some u:=by simpa using hu
  rw[de,hy] at sZ
  injection sZ with sZ
  subst sZ
  exact hx y (cy (by simpa using cc hy)))
 refine Bc (R:=fun v w'=>∃g',HR B hp' g' w'∧bO hp g w hp' g' w'∧aN hp' g' w' d v∧Below B w w'∧∀p:Addr,p.block<B→g.F p→g'.F p) ?_ (A1.mono ?_) ?_
 ·have hn' : fn.name ≠ "runtime.NumGoroutine" := by simpa using hn
  have qr:¬fn.body=none:=fun e=>by rw[e] at zj;cases zj
  have hcf:(callFunc f (aS.map a.eval).toArray).run P w=.ok (.enter f (aS.map a.eval).toArray) w:=by
   simp[callFunc,hf,hn',qr]
  rw[←hcf]
  simp[execOp,resolve,invoke,Deferred.ofValue,hv]
 ·rintro e w' ⟨v,g',rfl,h1⟩
  exact⟨v,rfl,g',h1⟩
 ·rintro v w' ⟨g',h1,h2,h3,h4,h5⟩
  exact wN v g' w' h1 h2 h3 h4 h5
theorem opHF {x:Operand}{f:FuncId}{ks:List Nat}{aS:List Operand}{ts:Array TypeId}{ds:List D}(vy:ev x=.fn f ks)(hc:HC P f ds hp d hp')(hd:aS.map ev++ks.map (fun k=>D.pt k 0)=ds):n9 P ⟨dst,.call ⟨.value x,aS.toArray,ts⟩,ty,pos,af,gd⟩ ev hp d hp':=by
 intro B g w a Kn Q hr hx wN
 subst hd
 obtain⟨⟨fn,hf,hn,zj⟩,wO⟩:=hc
 have hv:=hx x (by simp[Op.operands,Call.operands])
 rw[vy] at hv
 generalize hu0:a.eval x=u0 at hv
 cases hv with
 |fn _ _ Ly=>
 have A1:=wO B g w (aS.map a.eval++ks.map fun k=>Value.pointer (some ⟨g.μ k,0,none⟩)).toArray hr (by simp) (fun j d u hd hu=>by
  have sZ:(aS.map a.eval++ks.map fun k=>Value.pointer (some ⟨g.μ k,0,none⟩))[j]? =some u:=by simpa using hu
  rcases ck j aS.length with hj|hj
  ·rw[vP (by simpa using hj),de] at hd sZ
   obtain⟨y,hy,rfl⟩:=qC.1 hd
   rw[hy] at sZ
   injection sZ with sZ
   subst sZ
   exact hx y (cy (by simpa using cc hy))
  ·rw[tW (by simpa using hj),de] at hd sZ
   obtain⟨k,hk,rfl⟩:=qC.1 hd
   simp only[eG] at hk sZ
   rw[hk] at sZ
   injection sZ with sZ
   subst sZ
   exact .pt k 0 (Ly k (cc hk)))
 refine Bc (R:=fun v w'=>∃g',HR B hp' g' w'∧bO hp g w hp' g' w'∧aN hp' g' w' d v∧Below B w w'∧∀p:Addr,p.block<B→g.F p→g'.F p) ?_ (A1.mono ?_) ?_
 ·have hn' : fn.name ≠ "runtime.NumGoroutine" := by simpa using hn
  have qr:¬fn.body=none:=fun e=>by rw[e] at zj;cases zj
  have hcf:(callFunc f (aS.map a.eval++ks.map fun k=>Value.pointer (some ⟨g.μ k,0,none⟩)).toArray).run P w=.ok (.enter f (aS.map a.eval++ks.map fun k=>Value.pointer (some ⟨g.μ k,0,none⟩)).toArray) w:=by
   simp[callFunc,hf,hn',qr]
  have qU:(aS.map a.eval++ks.map fun k=>Value.pointer (some ⟨g.μ k,0,none⟩)).toArray=aS.toArray.map a.eval++(ks.map fun k=>Value.pointer (some ⟨g.μ k,0,none⟩)).toArray:=by apply jY.1;simp
  rw[←hcf,qU]
  simp[execOp,resolve,invoke,Deferred.ofValue,hu0]
 ·rintro e w' ⟨v,g',rfl,h1⟩
  exact⟨v,rfl,g',h1⟩
 ·rintro v w' ⟨g',h1,h2,h3,h4,h5⟩
  exact wN v g' w' h1 h2 h3 h4 h5
theorem sndOf {c:Call}{x:Operand}(Dk:c.callee=.value x)(h:n9 P ⟨dst,.call c,ty,pos,af,gd⟩ ev hp d hp')(N8:hvB tb c=true∨Fr hp hp')(hn:md.nc tb (.call c)=true):m3 P tb md ⟨dst,.call c,ty,pos,af,gd⟩ ev hp d hp':=by
 refine⟨h,fun hq=>?_,fun hv=>?_,fun h=>by cases h⟩
 ·exfalso
  cases md with
  |seq=>cases hq
  |any L=>
   have h1:((qi (.call c)&&!Nj tb (.call c))||vK tb L (.call c))=true:=hq
   have h2:(!inL L (.call c))=true:=hn
   rw[vQ] at h2
   have h2:=AN (tb:=tb) h2
   rw[h2,Bool.or_false] at h1
   simp[qi,Dk] at h1
 ·rcases N8 with h1|h1
  ·have h2:(hvB tb c||cpB tb c)=false:=Md.vr_C hn hv
   rw[h1] at h2;cases h2
  ·exact h1
theorem sndF {c:Call}{x:Operand}(Dk:c.callee=.value x)(h:n9 P ⟨dst,.call c,ty,pos,af,gd⟩ ev hp d hp')(hv:hvB tb c=true)(N8:Fr hp hp'):m3 P tb md ⟨dst,.call c,ty,pos,af,gd⟩ ev hp d hp':=by
 refine⟨h,fun hq=>?_,fun _=>N8,fun h=>by cases h⟩
 exfalso
 cases md with
 |seq=>cases hq
 |any L=>
  have h1:((qi (.call c)&&!Nj tb (.call c))||((match c.callee with| .value (.func f)=>L.elem f|_=>false)&&!hvB tb c))=true:=hq
  rw[hv] at h1
  simp[qi,Dk] at h1
theorem sHCf {x:Operand}{f:FuncId}{aS:List Operand}{ts:Array TypeId}{ds:List D}(hc:HC P f ds hp d hp')(hd:aS.map ev=ds)(N8:Fr hp hp')(vy:ev x=.e (.lit (.func (.func f) #[] #[])):=by exact rfl)(hv:hvB tb ⟨.value x,aS.toArray,ts⟩=true:=by exact rfl):
  m3 P tb md ⟨dst,.call ⟨.value x,aS.toArray,ts⟩,ty,pos,af,gd⟩ ev hp d hp':=sndF rfl (Lm vy hc hd) hv N8
theorem sHC {x:Operand}{f:FuncId}{aS:List Operand}{ts:Array TypeId}{ds:List D}(hc:HC P f ds hp d hp')(hd:aS.map ev=ds)(N8:hvB tb ⟨.value x,aS.toArray,ts⟩=true∨Fr hp hp')(vy:ev x=.e (.lit (.func (.func f) #[] #[])):=by exact rfl)(hn:md.nc tb (.call ⟨.value x,aS.toArray,ts⟩)=true:=by exact rfl):
  m3 P tb md ⟨dst,.call ⟨.value x,aS.toArray,ts⟩,ty,pos,af,gd⟩ ev hp d hp':=sndOf rfl (Lm vy hc hd) N8 hn
theorem sHF {x:Operand}{f:FuncId}{ks:List Nat}{aS:List Operand}{ts:Array TypeId}{ds:List D}(hc:HC P f ds hp d hp')(hd:aS.map ev++ks.map (fun k=>D.pt k 0)=ds)(vy:ev x=.fn f ks:=by exact rfl)(N8:hvB tb ⟨.value x,aS.toArray,ts⟩=true:=by exact rfl)(hn:md.nc tb (.call ⟨.value x,aS.toArray,ts⟩)=true:=by exact rfl):
  m3 P tb md ⟨dst,.call ⟨.value x,aS.toArray,ts⟩,ty,pos,af,gd⟩ ev hp d hp':=sndOf rfl (opHF vy hc hd) (.inl N8) hn
end
structure Pt(F:List D)(o:Nat)(bs:List D)(F':List D→List D):Prop where
 le:o+bs.length≤F.length
 g:(F.drop o).take bs.length=bs
 p:∀ys:List D,ys.length=bs.length→F.take o++ys++F.drop (o+bs.length)=F' ys
theorem Pt.of {F bs:List D}{o:Nat}{F':List D→List D}(A C:List D)(hA:A.length=o)(hF:F=A++bs++C)(hp:∀y,F' y=A++y++C):Pt F o bs F':=by
 subst hA hF
 refine⟨by simp only[eU];omega,?_,fun y hy=>?_⟩
 ·rw[dW,rm,pB]
 ·rw[hp,dW A bs C,pB,←pj,rm,rm]
section
variable {P:Program} {tb:TypeId→Option TyE} {dr:Bool} {ty:TypeId} {ev:Operand→D} {hp:Hp} {k o:Nat} {F bs:List D} {F':List D→List D} {t:TypeId} {i:TyE} {x y:Operand} {d:D}
theorem T_ldP(L:Pt F o bs F')(hv:hp.vars.lookup k=some F)(hk:k<hp.next)(ht:tb t=some i)(hz:bs.length=i.size)(hg:i.ty.agg=true:=by exact rfl)(hx:ev x=.pt k o:=by exact rfl):AVC P tb dr (.load t x) ty ev hp (Kq (.ag bs) hp):=by
 rw[qX,hx,nC,ht,hv]
 simp only[hg]
 refine⟨hk,by rw[←hz];exact L.le,?_⟩
 rw[←hz,L.g]
 exact Kq.here _ _
theorem T_ld1(L:Pt F o [d] F')(hv:hp.vars.lookup k=some F)(hk:k<hp.next)(ht:tb t=some i)(hg:i.ty.agg=false:=by exact rfl)(hx:ev x=.pt k o:=by exact rfl):AVC P tb dr (.load t x) ty ev hp (Kq d hp):=by
 rw[qX,hx,nC,ht,hv]
 simp only[hg]
 refine⟨hk,d,?_,Kq.here _ _⟩
 have h:=L.g
 have hle:=L.le
 have:((F.drop o).take 1)[0]? =some d:=by rw[show (1:Nat)=[d].length from rfl,h];rfl
 rw[gV,ifp_,pM,lc] at this
 exact this
theorem Pk {ys F2:List D}{hp':Hp}(L:Pt F o bs F')(hv:hp.vars.lookup k=some F)(hyc:(ev y).cells=some ys)(ht:tb t=some i)(hz:bs.length=i.size)(hl:ys.length=bs.length)(h2:F' ys=F2)(hx:ev x=.pt k o:=by exact rfl)(he:hp.set k F2=hp':=by exact rfl):AVC P tb dr (.store t x y) ty ev hp (Kq .top hp'):=by
 subst he h2
 rw[Bq,hx,xG,ht,hv,hyc]
 simp only
 refine⟨by omega,by rw[←hz];exact L.le,?_⟩
 rw[hl,L.p ys hl]
 exact Kq.here _ _
end
end
def D.ren2(ρ:Nat→Nat):D→D
 | .tu ds=>.tu (ds.map (D.ren ρ))
 |d=>d.ren ρ
end
end Go.Proofs.YtgfcnncojhkcoaaGreat
