/-
  Lemmas, part 4. Conditions: none.
-/
import Derived.Test.YtgfcnncojhkcoaaGreatY3
set_option linter.all false
set_option maxRecDepth 100000
set_option maxHeartbeats 4000000
namespace Go.Proofs.YtgfcnncojhkcoaaGreat
open Go.RowKit Go.IntKind Tryz
noncomputable section
structure ak where
 vN:aq
 vD:aq
 deriving Inhabited,DecidableEq
abbrev co:ak:=⟨bz,bz⟩
def aj:Cd ak:=⟨36,fun x=>ap.f x.vN++ap.f x.vD,fun x=>by simp[ap.h,show ap.sz=18 from rfl]⟩
theorem cY(x:ak):ao (aj.f x) ap 0 x.vN (fun y=>aj.f (⟨y,x.vD⟩:ak)):=
 ao.of ([]) ((ap).f x.vD) (by first|rfl|(simp[ap.h];first|rfl|done)) (by first|rfl|simp[aj,cI,cB,cS,cL,dP]) (fun y=>by first|rfl|simp[aj,cI,cB,cS,cL,dP])
theorem b7(x:ak):ao (aj.f x) ap 18 x.vD (fun y=>aj.f (⟨x.vN,y⟩:ak)):=
 ao.of ((ap).f x.vN) ([]) (by first|rfl|(simp[ap.h];first|rfl|done)) (by first|rfl|simp[aj,cI,cB,cS,cL,dP]) (fun y=>by first|rfl|simp[aj,cI,cB,cS,cL,dP])
def Aa(x:aq):List Value:=[Value.bool x.vBad]++([Value.bool x.vNeg]++((x.vW).toList.flatMap (fun x=>[Value.int .u32 x])++([])))
theorem fV:EqC tbl 3 32 ap Aa:=by
 refine EqC.struct (fs:=[(0,4),(1,4),(2,30)]) ax (fun x=>?_) (fun x=>by
  have q3:ru tbl (mv tbl 2) [] 18 []:=by unfold ru;rfl
  have q2:=qa (off:=2) (x:=x.vW) (EqC.arr (EqC.int (d:=0) aI) aF aI) aF rfl q3
  have q1:=qa (off:=1) (x:=x.vNeg) (EqC.bool (d:=1) gp) gp rfl q2
  have q0:=qa (off:=0) (x:=x.vBad) (EqC.bool (d:=1) gp) gp rfl q1
  exact q0) ?_
 ·have:=And.intro (And.intro ((EqC.bool (d:=1) gp).hf x.vBad) (And.intro ((EqC.bool (d:=1) gp).hf x.vNeg) (And.intro ((EqC.arr (EqC.int (d:=0) aI) aF aI).hf x.vW) (True.intro)))) True.intro
  simp only[Aa,ap,mg,dh,tG,dP]
  all_goals (first|rfl|(simp only[←(EqC.bool (d:=1) gp).hf,←(EqC.bool (d:=1) gp).hf,←(EqC.arr (EqC.int (d:=0) aI) aF aI).hf];try (first|rfl|simp[cI,cB])))
 ·skip
  intro x y h
  unfold Aa at h
  obtain⟨e0,h⟩:=yn h (by rw[(EqC.bool (d:=1) gp).len,(EqC.bool (d:=1) gp).len])
  obtain⟨e1,h⟩:=yn h (by rw[(EqC.bool (d:=1) gp).len,(EqC.bool (d:=1) gp).len])
  obtain⟨e2,h⟩:=yn h (by rw[(EqC.arr (EqC.int (d:=0) aI) aF aI).len,(EqC.arr (EqC.int (d:=0) aI) aF aI).len])
  cases x;cases y
  simp only[aq.mk.injEq]
  exact⟨((EqC.bool (d:=1) gp).inj _ _).1 e0,((EqC.bool (d:=1) gp).inj _ _).1 e1,((EqC.arr (EqC.int (d:=0) aI) aF aI).inj _ _).1 e2⟩
def Ht(x:ak):List Value:=Aa x.vN++(Aa x.vD++([]))
theorem mK:EqC tbl 4 34 aj Ht:=by
 refine EqC.struct (fs:=[(0,32),(18,32)]) aA (fun x=>?_) (fun x=>by
  have q2:ru tbl (mv tbl 3) [] 36 []:=by unfold ru;rfl
  have q1:=qa (off:=18) (x:=x.vD) fV ax rfl q2
  have q0:=qa (off:=0) (x:=x.vN) fV ax rfl q1
  exact q0) ?_
 ·have:=And.intro (And.intro (fV.hf x.vN) (And.intro (fV.hf x.vD) (True.intro))) True.intro
  simp only[Ht,aj,mg,dh,tG,dP]
  all_goals (first|rfl|(simp only[←fV.hf,←fV.hf];try (first|rfl|simp[cI,cB])))
 ·skip
  intro x y h
  unfold Ht at h
  obtain⟨e0,h⟩:=yn h (by rw[fV.len,fV.len])
  obtain⟨e1,h⟩:=yn h (by rw[fV.len,fV.len])
  cases x;cases y
  simp only[ak.mk.injEq]
  exact⟨(fV.inj _ _).1 e0,(fV.inj _ _).1 e1⟩
def iF(bn:aq):Option Bool:=bnd (S:=Bool) (cnd (!bn.vBad) (bnd (j9 bn) fun x2=>some (x2)) (some (false))) fun jR=>some jR
theorem pp {bn:aq}{r:Bool}(h:iF bn=some r):aC prog 91 [dG ap bn] (dB r):=by
 refine bQ (rs:=[.tmp 2]) (fun cx hx h0=>?_) func91
 unfold iF at h
 refine ra hx ?_
 refine AW.seq ?_
 obtain⟨jR,hy,h⟩:=ah h
 refine jn ((PE cx .normal (fun jR=>[(2,dB jR)]) fun jR=>⟨[],[],0⟩) jR) ?_ ?_
 replace h:=hy
 refine rq hx fun K hK=>?_
 refine sa ?_
 refine s1 (a4 (iv bn) gp) ?_
 iterate 2 refine sa ?_
 rcases aX (!bn.vBad) with cH|cH
 replace h:=aZ cH h
 refine g1 (d:=dG ap bn) cH (aE (ao.id _ _) ax) ?_
 obtain⟨x2,Ni,h⟩:=ah h
 refine g1 cH (eC rfl (uq Ni) (by simp only[cp,dh,jy,fO,dX,dW];exact bc _ _) (lA (fm _ _) lAn) (.inl rfl)) ?_
 refine s1 (al cH) ?_
 refine sa ?_
 refine .nil (hK _ _ ?_)
 cases h
 exact pe0 h0 []
 replace h:=a3 cH h
 iterate 2 refine aH rfl rfl cH ?_
 refine s1 (au cH) ?_
 refine sa ?_
 refine .nil (hK _ _ ?_)
 cases h
 exact pe0 h0 []
 rintro ex tm' hp' ⟨rfl,hw⟩
 refine AW.weak hw (AW.ret ?_)
 cases h
 exact rv1
def lm :Option aq:=bnd (eM (1:Int)) fun x1=>some x1
theorem sY  {r:aq}(h:lm=some r):aC prog 94 [] (dG ap r):=by
 refine bQ (rs:=[.cell 0 32]) (fun cx hx h0=>?_) func94
 unfold lm at h
 refine rs hx fun K hK=>?_
 refine s1 (bp (F:=ap.f bz) ax) ?_
 refine .nil (hK _ _ (rs hx fun K hK=>?_))
 refine scb h mn fun x1 h=>?_
 refine s0 (aO (b':=x1) (ao.id _ _) ax) ?_
 refine .nil (hK _ _ (AW.ret ?_))
 cases h
 exact rv1
def bH(bn:ak):Option Bool:=bnd (S:=Bool) (bnd (iF bn.vN) fun x1=>cnd x1 (bnd (iF bn.vD) fun x4=>cnd x4 (bnd (gt bn.vD) fun x7=>cnd (decide ((0:Int)<x7)) (bnd (mI bn.vN bn.vD) fun mU=>bnd (lm) fun jA=>some (decide (mU=jA))) (some (false))) (some (false))) (some (false))) fun jR=>some jR
theorem eK {bn:ak}{r:Bool}(h:bH bn=some r):aC prog 41 [dG aj bn] (dB r):=by
 refine bQ (rs:=[.tmp 2]) (fun cx hx h0=>?_) func41
 unfold bH at h
 refine ra hx ?_
 refine AW.seq ?_
 obtain⟨jR,hy,h⟩:=ah h
 refine jn ((PE cx .normal (fun jR=>[(2,dB jR)]) fun jR=>⟨[],[],0⟩) jR) ?_ ?_
 replace h:=hy
 refine rq hx fun K hK=>?_
 refine sa ?_
 refine s1 (aE (cY bn) ax) ?_
 refine scb h pp fun x1 h=>?_
 refine sa ?_
 rcases aX x1 with bo|bo
 replace h:=aZ bo h
 refine ga bo ?_
 refine g1 bo (aE (b7 bn) ax) ?_
 obtain⟨x4,va,h⟩:=ah h
 refine g1 bo (eC rfl (pp va) (by simp only[cp,dh,jy,fO,dX,dW];exact bc _ _) (lA (fm _ _) lAn) (.inl rfl)) ?_
 refine s1 (al bo) ?_
 refine sa ?_
 rcases aX x4 with eW|eW
 replace h:=aZ eW h
 refine ga eW ?_
 refine g1 eW (aE (b7 bn) ax) ?_
 obtain⟨x7,zu,h⟩:=ah h
 refine g1 eW (eC rfl (mV zu) (by simp only[cp,dh,jy,fO,dX,dW];exact bc _ _) (lA (fm _ _) lAn) (.inl rfl)) ?_
 refine ga eW ?_
 refine s1 (al eW) ?_
 refine sa ?_
 rcases aX (decide ((0:Int)<x7)) with wz|wz
 replace h:=aZ wz h
 refine ga wz ?_
 refine g1 wz (aE (cY bn) ax) ?_
 refine ga wz ?_
 refine g1 wz (aE (b7 bn) ax) ?_
 obtain⟨mU,ww,h⟩:=ah h
 refine g1 wz (eC rfl (sW ww) (by simp only[cp,dh,jy,fO,dX,dW];exact⟨bc _ _,bc _ _⟩) (lA (fm _ _) (lA (fm _ _) lAn)) (.inl (gP _ _))) ?_
 obtain⟨jA,vb,h⟩:=ah h
 refine g1 wz (eC rfl (sY vb) rfl lAn (.inl (gP _ _))) ?_
 refine g1 wz (vJ tok 3 (by decide) fV ax) ?_
 refine s1 (al wz) ?_
 refine sa ?_
 refine .nil (hK _ _ ?_)
 cases h
 exact pe0 h0 []
 replace h:=a3 wz h
 iterate 7 refine aH rfl rfl wz ?_
 refine s1 (au wz) ?_
 refine sa ?_
 refine .nil (hK _ _ ?_)
 cases h
 exact pe0 h0 []
 replace h:=a3 eW h
 iterate 4 refine aH rfl rfl eW ?_
 refine s1 (au eW) ?_
 refine sa ?_
 iterate 7 refine aH rfl rfl rfl ?_
 refine s1 (au rfl) ?_
 refine sa ?_
 refine .nil (hK _ _ ?_)
 cases h
 exact pe0 h0 []
 replace h:=a3 bo h
 iterate 3 refine aH rfl rfl bo ?_
 refine s1 (au bo) ?_
 refine sa ?_
 iterate 4 refine aH rfl rfl rfl ?_
 refine s1 (au rfl) ?_
 refine sa ?_
 iterate 7 refine aH rfl rfl rfl ?_
 refine s1 (au rfl) ?_
 refine sa ?_
 refine .nil (hK _ _ ?_)
 cases h
 exact pe0 h0 []
 rintro ex tm' hp' ⟨rfl,hw⟩
 refine AW.weak hw (AW.ret ?_)
 cases h
 exact rv1
def gG :Option ak:=bnd (dT) fun x1=>bnd (lm) fun x3=>some (⟨x1,x3⟩:ak)
theorem mG  {r:ak}(h:gG=some r):aC prog 65 [] (dG aj r):=by
 refine bQ (rs:=[.cell 0 34]) (fun cx hx h0=>?_) func65
 unfold gG at h
 refine rs hx fun K hK=>?_
 refine s1 (bp (F:=aj.f co) aA) ?_
 refine .nil (hK _ _ (rs hx fun K hK=>?_))
 refine scb h gB fun x1 h=>?_
 refine scb h sY fun x3 h=>?_
 refine s1 (d:=dG aj (⟨x1,x3⟩:ak)) (jz (FL.cons (y:=x1) (cY co) rfl rfl (FL.cons (y:=x3) (b7 (⟨x1,bz⟩:ak)) rfl rfl (FL.nil _))) aA) ?_
 refine s0 (aO (b':=(⟨x1,x3⟩:ak)) (ao.id _ _) aA) ?_
 refine .nil (hK _ _ (AW.ret ?_))
 cases h
 exact rv1
def cC(c8:aq)(Al:aq):Option ak:=bnd (S:=Bool) (bnd (iF c8) fun x1=>cnd (!x1) (some (true)) (bnd (iF Al) fun x4=>cnd (!x4) (some (true)) (bnd (gt Al) fun x7=>some (decide (x7=(0:Int)))))) fun bM=>cnd bM (bnd (gG) fun om=>some om) (bnd (mI c8 Al) fun qv=>bnd (S:=aq) (bnd (gt Al) fun ul=>cnd (decide (ul<(0:Int))) (bnd (li qv) fun pK=>some (pK)) (some (qv))) fun g8=>bnd (jB c8 g8) fun B0=>bnd (jB Al g8) fun Fa=>some (⟨B0,Fa⟩:ak))
theorem ip {c8:aq}{Al:aq}{r:ak}(h:cC c8 Al=some r):aC prog 89 [dG ap c8,dG ap Al] (dG aj r):=by
 refine bQ (rs:=[.cell 4 34]) (fun cx hx h0=>?_) func89
 unfold cC at h
 refine rs hx fun K hK=>?_
 iterate 2 refine sa ?_
 refine s1 (bp (F:=aj.f co) aA) ?_
 refine .nil (hK _ _ ?_)
 iterate 2 refine AW.seq ?_
 obtain⟨bM,hy,h⟩:=ah h
 refine jn ((PE cx .normal (fun bM=>[(2,.pt 0 0),(3,.pt 1 0),(4,.pt 2 0),(18,dB bM)]) fun bM=>⟨[(0,dC (ap.f c8)),(1,dC (ap.f Al)),(2,dC (aj.f co))],[],3⟩) bM) ?_ ?_
 replace h:=hy
 refine rq hx fun K hK=>?_
 refine s1 (d:=dG ap c8) (aE (ao.id _ _) ax) ?_
 refine scb h pp fun x1 h=>?_
 iterate 2 refine sa ?_
 rcases aX (!x1) with bo|bo
 replace h:=aZ bo h
 iterate 3 refine aH rfl rfl bo ?_
 refine s1 (al bo) ?_
 refine sa ?_
 iterate 3 refine aH rfl rfl rfl ?_
 refine s1 (al rfl) ?_
 refine .nil (hK _ _ ?_)
 cases h
 exact pe0 h0 [0,1,2]
 replace h:=a3 bo h
 refine g1 (d:=dG ap Al) bo (aE (ao.id _ _) ax) ?_
 obtain⟨x4,va,h⟩:=ah h
 refine g1 bo (eC rfl (pp va) (by simp only[cp,dh,jy,fO,dX,dW];exact bc _ _) (lA (fm _ _) lAn) (.inl rfl)) ?_
 refine ga bo ?_
 refine s1 (au bo) ?_
 refine sa ?_
 rcases aX (!x4) with eW|eW
 replace h:=aZ eW h
 iterate 3 refine aH rfl rfl eW ?_
 refine s1 (al eW) ?_
 refine .nil (hK _ _ ?_)
 cases h
 exact pe0 h0 [0,1,2]
 replace h:=a3 eW h
 refine g1 (d:=dG ap Al) eW (aE (ao.id _ _) ax) ?_
 obtain⟨x7,zu,h⟩:=ah h
 refine g1 eW (eC rfl (mV zu) (by simp only[cp,dh,jy,fO,dX,dW];exact bc _ _) (lA (fm _ _) lAn) (.inl rfl)) ?_
 refine ga eW ?_
 refine s1 (au eW) ?_
 refine .nil (hK _ _ ?_)
 cases h
 exact pe0 h0 [0,1,2]
 rintro ex tm' hp' ⟨rfl,hw⟩
 refine AW.weak hw (cdh h rfl (fun fa h=>?_) (fun fa h=>?_))
 refine rs hx fun K hK=>?_
 refine scb h mG fun om h=>?_
 refine s0 (aO (b':=om) (ao.id _ _) aA) ?_
 refine .nil (hK _ _ (AW.ret ?_))
 cases h
 exact rv1
 refine AW.skip (rs hx fun K hK=>?_)
 refine s1 (d:=dG ap c8) (aE (ao.id _ _) ax) ?_
 refine s1 (d:=dG ap Al) (aE (ao.id _ _) ax) ?_
 refine scb h sW fun qv h=>?_
 refine s1 (bp (F:=ap.f bz) ax) ?_
 refine s0 (aO (b':=qv) (ao.id _ _) ax) ?_
 refine .nil (hK _ _ (AW.seq ?_))
 obtain⟨g8,hy,h⟩:=ah h
 refine jn ((PE cx .normal (fun g8=>[(2,.pt 0 0),(3,.pt 1 0),(4,.pt 2 0),(5,.pt 3 0)]) fun g8=>⟨[(0,dC (ap.f c8)),(1,dC (ap.f Al)),(2,dC (aj.f co)),(3,dC (ap.f g8))],[],4⟩) g8) ?_ ?_
 replace h:=hy
 refine rs hx fun K hK=>?_
 refine s1 (d:=dG ap Al) (aE (ao.id _ _) ax) ?_
 refine scb h mV fun ul h=>?_
 refine sa ?_
 refine .nil (hK _ _ (cdh h rfl (fun tr h=>?_) (fun tr h=>?_)))
 refine rq hx fun K hK=>?_
 refine s1 (d:=dG ap qv) (aE (ao.id _ _) ax) ?_
 refine scb h sV fun pK h=>?_
 refine s0 (aO (b':=pK) (ao.id _ _) ax) ?_
 refine .nil (hK _ _ ?_)
 cases h
 exact pe0 h0 [0,1,2,3]
 refine AW.skip ?_
 cases h
 exact pe0 h0 [0,1,2,3]
 rintro ex tm' hp' ⟨rfl,hw⟩
 refine AW.weak hw (rsd [126] hx fun K hK=>?_)
 refine s1 (d:=dG ap c8) (aE (ao.id _ _) ax) ?_
 refine s1 (d:=dG ap g8) (aE (ao.id _ _) ax) ?_
 refine cqb h mE fun B0 h=>?_
 refine s1 (d:=dG ap Al) (aE (ao.id _ _) ax) ?_
 refine s1 (d:=dG ap g8) (aE (ao.id _ _) ax) ?_
 refine cqb h mE fun Fa h=>?_
 refine s1 (d:=dG aj (⟨B0,Fa⟩:ak)) (jz (FL.cons (y:=B0) (cY co) rfl rfl (FL.cons (y:=Fa) (b7 (⟨B0,bz⟩:ak)) rfl rfl (FL.nil _))) aA) ?_
 refine s0 (aO (b':=(⟨B0,Fa⟩:ak)) (ao.id _ _) aA) ?_
 refine .nil (hK _ _ (AW.ret ?_))
 cases h
 exact rv1
def fI(bn:ak)(nE:ak):Option ak:=bnd (S:=Bool) (bnd (bH bn) fun x1=>cnd (!x1) (some (true)) (bnd (bH nE) fun x4=>some (!x4))) fun bM=>cnd bM (bnd (gG) fun x8=>some x8) (bnd (mI bn.vD nE.vD) fun mU=>bnd (jB bn.vD mU) fun jA=>bnd (jB nE.vD mU) fun pL=>bnd (iA bn.vN pL) fun zj=>bnd (iA nE.vN jA) fun pK=>bnd (iB zj pK) fun xa=>bnd (iA jA nE.vD) fun sL=>bnd (cC xa sL) fun vT=>some vT)
theorem yK {bn:ak}{nE:ak}{r:ak}(h:fI bn nE=some r):aC prog 85 [dG aj bn,dG aj nE] (dG aj r):=by
 refine bQ (rs:=[.cell 4 34]) (fun cx hx h0=>?_) func85
 unfold fI at h
 refine rs hx fun K hK=>?_
 iterate 2 refine sa ?_
 refine s1 (bp (F:=aj.f co) aA) ?_
 refine .nil (hK _ _ ?_)
 iterate 2 refine AW.seq ?_
 obtain⟨bM,hy,h⟩:=ah h
 refine jn ((PE cx .normal (fun bM=>[(2,.pt 0 0),(3,.pt 1 0),(4,.pt 2 0),(15,dB bM)]) fun bM=>⟨[(0,dC (aj.f bn)),(1,dC (aj.f nE)),(2,dC (aj.f co))],[],3⟩) bM) ?_ ?_
 replace h:=hy
 refine rq hx fun K hK=>?_
 refine s1 (d:=dG aj bn) (aE (ao.id _ _) aA) ?_
 refine scb h eK fun x1 h=>?_
 iterate 2 refine sa ?_
 rcases aX (!x1) with bo|bo
 replace h:=aZ bo h
 iterate 3 refine aH rfl rfl bo ?_
 refine s1 (al bo) ?_
 refine .nil (hK _ _ ?_)
 cases h
 exact pe0 h0 [0,1,2]
 replace h:=a3 bo h
 refine g1 (d:=dG aj nE) bo (aE (ao.id _ _) aA) ?_
 obtain⟨x4,va,h⟩:=ah h
 refine g1 bo (eC rfl (eK va) (by simp only[cp,dh,jy,fO,dX,dW];exact bc _ _) (lA (fm _ _) lAn) (.inl rfl)) ?_
 refine ga bo ?_
 refine s1 (au bo) ?_
 refine .nil (hK _ _ ?_)
 cases h
 exact pe0 h0 [0,1,2]
 rintro ex tm' hp' ⟨rfl,hw⟩
 refine AW.weak hw (cdh h rfl (fun xY h=>?_) (fun xY h=>?_))
 refine rs hx fun K hK=>?_
 refine scb h mG fun x8 h=>?_
 refine s0 (aO (b':=x8) (ao.id _ _) aA) ?_
 refine .nil (hK _ _ (AW.ret ?_))
 cases h
 exact rv1
 refine AW.skip (rs hx fun K hK=>?_)
 refine sa ?_
 refine s1 (aE (b7 bn) ax) ?_
 refine sa ?_
 refine s1 (aE (b7 nE) ax) ?_
 refine scb h sW fun mU h=>?_
 refine s1 (bp (F:=ap.f bz) ax) ?_
 refine s0 (aO (b':=mU) (ao.id _ _) ax) ?_
 refine .nil (hK _ _ (AW.seq ?_))
 obtain⟨jA,vb,h⟩:=ah h
 obtain⟨pL,xS,h⟩:=ah h
 refine jn (PE cx .normal (fun (_:Unit)=>[(2,.pt 0 0),(3,.pt 1 0),(4,.pt 2 0),(6,.pt 3 0),(7,.pt 4 0)]) (fun (_:Unit)=>⟨[(0,dC (aj.f bn)),(1,dC (aj.f nE)),(2,dC (aj.f co)),(3,dC (ap.f jA)),(4,dC (ap.f pL))],[],5⟩) ()) ?_ ?_
 refine dw (DW.split 8 9 (by decide) ?_ ?_)
 refine dwg [126] [0,1,2,3,4,5,6,7,8,9,10,11] hx (by kernel_rfl) (by kernel_rfl) (by kernel_rfl) fun K hK=>?_
 dsimp only[d6,mT,m7,List.map]
 refine sa ?_
 refine s1 (aE (b7 bn) ax) ?_
 refine s1 (d:=dG ap mU) (aE (ao.id _ _) ax) ?_
 refine cq (mE vb) ?_
 refine sa ?_
 refine s1 (aE (b7 nE) ax) ?_
 refine s1 (d:=dG ap mU) (aE (ao.id _ _) ax) ?_
 refine cq (mE xS) ?_
 iterate 2 refine s1 (bp (F:=ap.f bz) ax) ?_
 refine s0 (aO (b':=jA) (ao.id _ _) ax) ?_
 refine s0 (aO (b':=pL) (ao.id _ _) ax) ?_
 exact .nil (hK _ _ (pe0 h0 [0,1,2,4,5]))
 refine dwg [126] [0,1,2,3,4,5,6,7,9,8,10,11] hx (by kernel_rfl) (by kernel_rfl) (by kernel_rfl) fun K hK=>?_
 dsimp only[d6,mT,m7,List.map]
 refine sa ?_
 refine s1 (aE (b7 bn) ax) ?_
 refine s1 (d:=dG ap mU) (aE (ao.id _ _) ax) ?_
 refine cq (mE vb) ?_
 refine sa ?_
 refine s1 (aE (b7 nE) ax) ?_
 refine s1 (d:=dG ap mU) (aE (ao.id _ _) ax) ?_
 refine cq (mE xS) ?_
 iterate 2 refine s1 (bp (F:=ap.f bz) ax) ?_
 refine s0 (aO (b':=jA) (ao.id _ _) ax) ?_
 refine s0 (aO (b':=pL) (ao.id _ _) ax) ?_
 exact .nil (hK _ _ (pe0 h0 [0,1,2,5,4]))
 rintro ex tm' hp' ⟨rfl,hw⟩
 refine AW.weak hw (rsd [90,127,89] hx fun K hK=>?_)
 refine sa ?_
 refine s1 (aE (cY bn) ax) ?_
 refine s1 (d:=dG ap pL) (aE (ao.id _ _) ax) ?_
 refine cqb h kP fun zj h=>?_
 refine sa ?_
 refine s1 (aE (cY nE) ax) ?_
 refine s1 (d:=dG ap jA) (aE (ao.id _ _) ax) ?_
 refine cqb h kP fun pK h=>?_
 refine cqb h yI fun xa h=>?_
 refine s1 (d:=dG ap jA) (aE (ao.id _ _) ax) ?_
 refine sa ?_
 refine s1 (aE (b7 nE) ax) ?_
 refine cqb h kP fun sL h=>?_
 refine cqb h ip fun vT h=>?_
 refine s0 (aO (b':=vT) (ao.id _ _) aA) ?_
 refine .nil (hK _ _ (AW.ret ?_))
 cases h
 exact rv1
def dp(bn:ak)(nE:ak):Option ak:=bnd (S:=Bool) (bnd (bH bn) fun x1=>cnd (!x1) (some (true)) (bnd (bH nE) fun x4=>some (!x4))) fun bM=>cnd bM (bnd (gG) fun x8=>some x8) (bnd (cC bn.vN nE.vD) fun mU=>bnd (cC nE.vN bn.vD) fun jA=>bnd (iA mU.vN jA.vN) fun pL=>bnd (iA mU.vD jA.vD) fun zj=>bnd (S:=Bool) (cnd pL.vBad (some (true)) (some (zj.vBad))) fun cQ=>cnd cQ (bnd (gG) fun B0=>some B0) (some (⟨pL,zj⟩:ak)))
theorem mF {bn:ak}{nE:ak}{r:ak}(h:dp bn nE=some r):aC prog 40 [dG aj bn,dG aj nE] (dG aj r):=by
 refine bQ (rs:=[.cell 4 34]) (fun cx hx h0=>?_) func40
 unfold dp at h
 refine rs hx fun K hK=>?_
 iterate 2 refine sa ?_
 refine s1 (bp (F:=aj.f co) aA) ?_
 refine .nil (hK _ _ ?_)
 iterate 2 refine AW.seq ?_
 obtain⟨bM,hy,h⟩:=ah h
 refine jn ((PE cx .normal (fun bM=>[(2,.pt 0 0),(3,.pt 1 0),(4,.pt 2 0),(16,dB bM)]) fun bM=>⟨[(0,dC (aj.f bn)),(1,dC (aj.f nE)),(2,dC (aj.f co))],[],3⟩) bM) ?_ ?_
 replace h:=hy
 refine rq hx fun K hK=>?_
 refine s1 (d:=dG aj bn) (aE (ao.id _ _) aA) ?_
 refine scb h eK fun x1 h=>?_
 iterate 2 refine sa ?_
 rcases aX (!x1) with bo|bo
 replace h:=aZ bo h
 iterate 3 refine aH rfl rfl bo ?_
 refine s1 (al bo) ?_
 refine .nil (hK _ _ ?_)
 cases h
 exact pe0 h0 [0,1,2]
 replace h:=a3 bo h
 refine g1 (d:=dG aj nE) bo (aE (ao.id _ _) aA) ?_
 obtain⟨x4,va,h⟩:=ah h
 refine g1 bo (eC rfl (eK va) (by simp only[cp,dh,jy,fO,dX,dW];exact bc _ _) (lA (fm _ _) lAn) (.inl rfl)) ?_
 refine ga bo ?_
 refine s1 (au bo) ?_
 refine .nil (hK _ _ ?_)
 cases h
 exact pe0 h0 [0,1,2]
 rintro ex tm' hp' ⟨rfl,hw⟩
 refine AW.weak hw (cdh h rfl (fun xY h=>?_) (fun xY h=>?_))
 refine rs hx fun K hK=>?_
 refine scb h mG fun x8 h=>?_
 refine s0 (aO (b':=x8) (ao.id _ _) aA) ?_
 refine .nil (hK _ _ (AW.ret ?_))
 cases h
 exact rv1
 refine AW.skip (AW.seq ?_)
 obtain⟨mU,ww,h⟩:=ah h
 obtain⟨jA,vb,h⟩:=ah h
 refine jn (PE cx .normal (fun (_:Unit)=>[(4,.pt 0 0),(5,.pt 1 0),(6,.pt 2 0)]) (fun (_:Unit)=>⟨[(0,dC (aj.f co)),(1,dC (aj.f mU)),(2,dC (aj.f jA))],[],3⟩) ()) ?_ ?_
 refine dw (DW.split 10 11 (by decide) ?_ ?_)
 refine dwg [89] [0,1,2,3,4,5,6,7,8,9,10,11,12,13] hx (by kernel_rfl) (by kernel_rfl) (by kernel_rfl) fun K hK=>?_
 dsimp only[d6,mT,m7,List.map]
 refine sa ?_
 refine s1 (aE (cY bn) ax) ?_
 refine sa ?_
 refine s1 (aE (b7 nE) ax) ?_
 refine cq (ip ww) ?_
 refine sa ?_
 refine s1 (aE (cY nE) ax) ?_
 refine sa ?_
 refine s1 (aE (b7 bn) ax) ?_
 refine cq (ip vb) ?_
 iterate 2 refine s1 (bp (F:=aj.f co) aA) ?_
 refine s0 (aO (b':=mU) (ao.id _ _) aA) ?_
 refine s0 (aO (b':=jA) (ao.id _ _) aA) ?_
 exact .nil (hK _ _ (pe0 h0 [2,3,4]))
 refine dwg [89] [0,1,2,3,4,5,6,7,8,9,11,10,12,13] hx (by kernel_rfl) (by kernel_rfl) (by kernel_rfl) fun K hK=>?_
 dsimp only[d6,mT,m7,List.map]
 refine sa ?_
 refine s1 (aE (cY bn) ax) ?_
 refine sa ?_
 refine s1 (aE (b7 nE) ax) ?_
 refine cq (ip ww) ?_
 refine sa ?_
 refine s1 (aE (cY nE) ax) ?_
 refine sa ?_
 refine s1 (aE (b7 bn) ax) ?_
 refine cq (ip vb) ?_
 iterate 2 refine s1 (bp (F:=aj.f co) aA) ?_
 refine s0 (aO (b':=mU) (ao.id _ _) aA) ?_
 refine s0 (aO (b':=jA) (ao.id _ _) aA) ?_
 exact .nil (hK _ _ (pe0 h0 [2,4,3]))
 rintro ex tm' hp' ⟨rfl,hw⟩
 refine AW.weak hw (AW.seq ?_)
 obtain⟨pL,xS,h⟩:=ah h
 obtain⟨zj,hx17,h⟩:=ah h
 refine jn (PE cx .normal (fun (_:Unit)=>[(4,.pt 0 0),(7,.pt 1 0),(8,.pt 2 0)]) (fun (_:Unit)=>⟨[(0,dC (aj.f co)),(1,dC (ap.f pL)),(2,dC (ap.f zj))],[],3⟩) ()) ?_ ?_
 refine dw (DW.split 10 11 (by decide) ?_ ?_)
 refine dwg [90] [0,1,2,3,4,5,6,7,8,9,10,11,12,13] hx (by kernel_rfl) (by kernel_rfl) (by kernel_rfl) fun K hK=>?_
 dsimp only[d6,mT,m7,List.map]
 refine sa ?_
 refine s1 (aE (cY mU) ax) ?_
 refine sa ?_
 refine s1 (aE (cY jA) ax) ?_
 refine cq (kP xS) ?_
 refine sa ?_
 refine s1 (aE (b7 mU) ax) ?_
 refine sa ?_
 refine s1 (aE (b7 jA) ax) ?_
 refine cq (kP hx17) ?_
 iterate 2 refine s1 (bp (F:=ap.f bz) ax) ?_
 refine s0 (aO (b':=pL) (ao.id _ _) ax) ?_
 refine s0 (aO (b':=zj) (ao.id _ _) ax) ?_
 exact .nil (hK _ _ (pe0 h0 [0,3,4]))
 refine dwg [90] [0,1,2,3,4,5,6,7,8,9,11,10,12,13] hx (by kernel_rfl) (by kernel_rfl) (by kernel_rfl) fun K hK=>?_
 dsimp only[d6,mT,m7,List.map]
 refine sa ?_
 refine s1 (aE (cY mU) ax) ?_
 refine sa ?_
 refine s1 (aE (cY jA) ax) ?_
 refine cq (kP xS) ?_
 refine sa ?_
 refine s1 (aE (b7 mU) ax) ?_
 refine sa ?_
 refine s1 (aE (b7 jA) ax) ?_
 refine cq (kP hx17) ?_
 iterate 2 refine s1 (bp (F:=ap.f bz) ax) ?_
 refine s0 (aO (b':=pL) (ao.id _ _) ax) ?_
 refine s0 (aO (b':=zj) (ao.id _ _) ax) ?_
 exact .nil (hK _ _ (pe0 h0 [0,4,3]))
 rintro ex tm' hp' ⟨rfl,hw⟩
 refine AW.weak hw ?_
 iterate 2 refine AW.seq ?_
 obtain⟨cQ,hy,h⟩:=ah h
 refine jn ((PE cx .normal (fun cQ=>[(4,.pt 0 0),(7,.pt 1 0),(8,.pt 2 0),(43,dB cQ)]) fun cQ=>⟨[(0,dC (aj.f co)),(1,dC (ap.f pL)),(2,dC (ap.f zj))],[],3⟩) cQ) ?_ ?_
 replace h:=hy
 refine rq hx fun K hK=>?_
 refine sa ?_
 refine s1 (a4 (iv pL) gp) ?_
 refine sa ?_
 rcases aX pL.vBad with Gu|Gu
 replace h:=aZ Gu h
 iterate 2 refine aH rfl rfl Gu ?_
 refine s1 (al Gu) ?_
 refine .nil (hK _ _ ?_)
 cases h
 exact pe0 h0 [0,1,2]
 replace h:=a3 Gu h
 refine ga Gu ?_
 refine g1 Gu (a4 (iv zj) gp) ?_
 refine s1 (au Gu) ?_
 refine .nil (hK _ _ ?_)
 cases h
 exact pe0 h0 [0,1,2]
 rintro ex tm' hp' ⟨rfl,hw⟩
 refine AW.weak hw (cdh h rfl (fun ve h=>?_) (fun ve h=>?_))
 refine rs hx fun K hK=>?_
 refine scb h mG fun B0 h=>?_
 refine s0 (aO (b':=B0) (ao.id _ _) aA) ?_
 refine .nil (hK _ _ (AW.ret ?_))
 cases h
 exact rv1
 refine AW.skip (rs hx fun K hK=>?_)
 refine s1 (d:=dG ap pL) (aE (ao.id _ _) ax) ?_
 refine s1 (d:=dG ap zj) (aE (ao.id _ _) ax) ?_
 refine s1 (d:=dG aj (⟨pL,zj⟩:ak)) (jz (FL.cons (y:=pL) (cY co) rfl rfl (FL.cons (y:=zj) (b7 (⟨pL,bz⟩:ak)) rfl rfl (FL.nil _))) aA) ?_
 refine s0 (aO (b':=(⟨pL,zj⟩:ak)) (ao.id _ _) aA) ?_
 refine .nil (hK _ _ (AW.ret ?_))
 cases h
 exact rv1
def qG(bn:ak)(nE:ak):Option ak:=bnd (bH nE) fun x1=>cnd (!x1) (bnd (gG) fun x4=>some x4) (bnd (cC nE.vD nE.vN) fun x6=>bnd (dp bn x6) fun x8=>some x8)
theorem Fx {bn:ak}{nE:ak}{r:ak}(h:qG bn nE=some r):aC prog 144 [dG aj bn,dG aj nE] (dG aj r):=by
 refine bQ (rs:=[.cell 4 34]) (fun cx hx h0=>?_) func144
 unfold qG at h
 refine rs hx fun K hK=>?_
 iterate 2 refine sa ?_
 refine s1 (bp (F:=aj.f co) aA) ?_
 refine .nil (hK _ _ (AW.seq (rs hx fun K hK=>?_)))
 refine s1 (d:=dG aj nE) (aE (ao.id _ _) aA) ?_
 refine scb h eK fun x1 h=>?_
 refine sa ?_
 refine .nil (hK _ _ (cdh h rfl (fun bo h=>?_) (fun bo h=>?_)))
 refine rs hx fun K hK=>?_
 refine scb h mG fun x4 h=>?_
 refine s0 (aO (b':=x4) (ao.id _ _) aA) ?_
 refine .nil (hK _ _ (AW.ret ?_))
 cases h
 exact rv1
 refine AW.skip (rsd [89,40] hx fun K hK=>?_)
 refine s1 (d:=dG aj bn) (aE (ao.id _ _) aA) ?_
 refine sa ?_
 refine s1 (aE (b7 nE) ax) ?_
 refine sa ?_
 refine s1 (aE (cY nE) ax) ?_
 refine cqb h ip fun x6 h=>?_
 refine cqb h mF fun x8 h=>?_
 refine s0 (aO (b':=x8) (ao.id _ _) aA) ?_
 refine .nil (hK _ _ (AW.ret ?_))
 cases h
 exact rv1
def np(aW:Int)(a6:Int):Option ak:=bnd (eM aW) fun x1=>bnd (eM a6) fun x3=>bnd (cC x1 x3) fun x5=>some x5
theorem DC {aW:Int}{a6:Int}{r:ak}(h:np aW a6=some r):aC prog 61 [dI .i64 aW,dI .i64 a6] (dG aj r):=by
 refine bQ (rs:=[.cell 4 34]) (fun cx hx h0=>?_) func61
 unfold np at h
 refine rs hx fun K hK=>?_
 refine s1 (bp (F:=aj.f co) aA) ?_
 refine .nil (hK _ _ (rs hx fun K hK=>?_))
 refine sa ?_
 refine scb h mn fun x1 h=>?_
 refine sa ?_
 refine scb h mn fun x3 h=>?_
 refine scb h ip fun x5 h=>?_
 refine s0 (aO (b':=x5) (ao.id _ _) aA) ?_
 refine .nil (hK _ _ (AW.ret ?_))
 cases h
 exact rv1
def ln(bn:ak):Option ak:=bnd (bH bn) fun x1=>cnd (!x1) (bnd (gG) fun x4=>some x4) (bnd (li bn.vN) fun x6=>some (⟨x6,bn.vD⟩:ak))
theorem yJ {bn:ak}{r:ak}(h:ln bn=some r):aC prog 17 [dG aj bn] (dG aj r):=by
 refine bQ (rs:=[.cell 2 34]) (fun cx hx h0=>?_) func17
 unfold ln at h
 refine rs hx fun K hK=>?_
 refine sa ?_
 refine s1 (bp (F:=aj.f co) aA) ?_
 refine .nil (hK _ _ (AW.seq (rs hx fun K hK=>?_)))
 refine s1 (d:=dG aj bn) (aE (ao.id _ _) aA) ?_
 refine scb h eK fun x1 h=>?_
 refine sa ?_
 refine .nil (hK _ _ (cdh h rfl (fun bo h=>?_) (fun bo h=>?_)))
 refine rs hx fun K hK=>?_
 refine scb h mG fun x4 h=>?_
 refine s0 (aO (b':=x4) (ao.id _ _) aA) ?_
 refine .nil (hK _ _ (AW.ret ?_))
 cases h
 exact rv1
 refine AW.skip (rsd [66] hx fun K hK=>?_)
 refine sa ?_
 refine s1 (aE (cY bn) ax) ?_
 refine cqb h sV fun x6 h=>?_
 refine sa ?_
 refine s1 (aE (b7 bn) ax) ?_
 refine s1 (d:=dG aj (⟨x6,bn.vD⟩:ak)) (jz (FL.cons (y:=x6) (cY co) rfl rfl (FL.cons (y:=bn.vD) (b7 (⟨x6,bz⟩:ak)) rfl rfl (FL.nil _))) aA) ?_
 refine s0 (aO (b':=(⟨x6,bn.vD⟩:ak)) (ao.id _ _) aA) ?_
 refine .nil (hK _ _ (AW.ret ?_))
 cases h
 exact rv1
def mb(c8:aq):Option ak:=bnd (lm) fun x1=>bnd (cC c8 x1) fun x3=>some x3
theorem Cc {c8:aq}{r:ak}(h:mb c8=some r):aC prog 104 [dG ap c8] (dG aj r):=by
 refine bQ (rs:=[.cell 2 34]) (fun cx hx h0=>?_) func104
 unfold mb at h
 refine rs hx fun K hK=>?_
 refine sa ?_
 refine s1 (bp (F:=aj.f co) aA) ?_
 refine .nil (hK _ _ (rsd [94,89] hx fun K hK=>?_))
 refine s1 (d:=dG ap c8) (aE (ao.id _ _) ax) ?_
 refine cqb h sY fun x1 h=>?_
 refine cqb h ip fun x3 h=>?_
 refine s0 (aO (b':=x3) (ao.id _ _) aA) ?_
 refine .nil (hK _ _ (AW.ret ?_))
 cases h
 exact rv1
def eA(c8:Int):Option ak:=bnd (eM c8) fun x1=>bnd (mb x1) fun x3=>some x3
theorem iP {c8:Int}{r:ak}(h:eA c8=some r):aC prog 60 [dI .i64 c8] (dG aj r):=by
 refine bQ (rs:=[.cell 2 34]) (fun cx hx h0=>?_) func60
 unfold eA at h
 refine rs hx fun K hK=>?_
 refine s1 (bp (F:=aj.f co) aA) ?_
 refine .nil (hK _ _ (rs hx fun K hK=>?_))
 refine sa ?_
 refine scb h mn fun x1 h=>?_
 refine scb h Cc fun x3 h=>?_
 refine s0 (aO (b':=x3) (ao.id _ _) aA) ?_
 refine .nil (hK _ _ (AW.ret ?_))
 cases h
 exact rv1
def jL(bn:ak):Option Int:=bnd (bH bn) fun x1=>cnd (!x1) (some (0:Int)) (bnd (gt bn.vN) fun x4=>some x4)
theorem rK {bn:ak}{r:Int}(h:jL bn=some r):aC prog 42 [dG aj bn] (dI .i64 r):=by
 refine bQ (rs:=[.tmp 2]) (fun cx hx h0=>?_) func42
 unfold jL at h
 refine ra hx ?_
 refine AW.seq (rs hx fun K hK=>?_)
 refine s1 (d:=dG aj bn) (aE (ao.id _ _) aA) ?_
 refine scb h eK fun x1 h=>?_
 refine sa ?_
 refine .nil (hK _ _ (cdh h rfl (fun bo h=>?_) (fun bo h=>?_)))
 refine ra hx ?_
 refine AW.ret ?_
 cases h
 exact rv1
 refine AW.skip (rs hx fun K hK=>?_)
 refine sa ?_
 refine s1 (aE (cY bn) ax) ?_
 refine scb h mV fun x4 h=>?_
 refine sa ?_
 refine .nil (hK _ _ (AW.ret ?_))
 cases h
 exact rv1
def qF(bn:ak)(nE:ak):Option ak:=bnd (ln nE) fun x1=>bnd (fI bn x1) fun x3=>some x3
theorem Fw {bn:ak}{nE:ak}{r:ak}(h:qF bn nE=some r):aC prog 146 [dG aj bn,dG aj nE] (dG aj r):=by
 refine bQ (rs:=[.cell 4 34]) (fun cx hx h0=>?_) func146
 unfold qF at h
 refine rs hx fun K hK=>?_
 iterate 2 refine sa ?_
 refine s1 (bp (F:=aj.f co) aA) ?_
 refine .nil (hK _ _ (rsd [17,85] hx fun K hK=>?_))
 refine s1 (d:=dG aj bn) (aE (ao.id _ _) aA) ?_
 refine s1 (d:=dG aj nE) (aE (ao.id _ _) aA) ?_
 refine cqb h yJ fun x1 h=>?_
 refine cqb h yK fun x3 h=>?_
 refine s0 (aO (b':=x3) (ao.id _ _) aA) ?_
 refine .nil (hK _ _ (AW.ret ?_))
 cases h
 exact rv1
def oD :Option aq:=bnd (n3 (1:Int)) fun x1=>some x1
theorem Fq  {r:aq}(h:oD=some r):aC prog 116 [] (dG ap r):=by
 refine bQ (rs:=[.cell 0 32]) (fun cx hx h0=>?_) func116
 unfold oD at h
 refine rs hx fun K hK=>?_
 refine s1 (bp (F:=ap.f bz) ax) ?_
 refine .nil (hK _ _ (rs hx fun K hK=>?_))
 refine scb h z9 fun x1 h=>?_
 refine s0 (aO (b':=x1) (ao.id _ _) ax) ?_
 refine .nil (hK _ _ (AW.ret ?_))
 cases h
 exact rv1
def lD(bn:ak):Option Bool:=bnd (S:=Bool) (bnd (da bn.vN) fun x1=>cnd (!x1) (some (true)) (bnd (da bn.vD) fun x4=>some (!x4))) fun bM=>cnd bM (some false) (bnd (S:=Bool) (bnd (nl bn.vD) fun x8=>cnd (decide ((0:Int)<x8)) (bnd (oF bn.vN bn.vD) fun om=>bnd (oD) fun qv=>some (decide (om=qv))) (some (false))) fun j6=>some j6)
theorem Dy {bn:ak}{r:Bool}(h:lD bn=some r):aC prog 72 [dG aj bn] (dB r):=by
 refine bQ (rs:=[.tmp 2]) (fun cx hx h0=>?_) func72
 unfold lD at h
 refine ra hx ?_
 iterate 2 refine AW.seq ?_
 obtain⟨bM,hy,h⟩:=ah h
 refine jn ((PE cx .normal (fun bM=>[(1,.pt 0 0),(12,dB bM)]) fun bM=>⟨[(0,dC (aj.f bn))],[],1⟩) bM) ?_ ?_
 replace h:=hy
 refine rq hx fun K hK=>?_
 refine sa ?_
 refine s1 (aE (cY bn) ax) ?_
 refine scb h io fun x1 h=>?_
 iterate 2 refine sa ?_
 rcases aX (!x1) with bo|bo
 replace h:=aZ bo h
 iterate 4 refine aH rfl rfl bo ?_
 refine s1 (al bo) ?_
 refine .nil (hK _ _ ?_)
 cases h
 exact pe0 h0 [0]
 replace h:=a3 bo h
 refine ga bo ?_
 refine g1 bo (aE (b7 bn) ax) ?_
 obtain⟨x4,va,h⟩:=ah h
 refine g1 bo (eC rfl (io va) (by simp only[cp,dh,jy,fO,dX,dW];exact bc _ _) (lA (fm _ _) lAn) (.inl rfl)) ?_
 refine ga bo ?_
 refine s1 (au bo) ?_
 refine .nil (hK _ _ ?_)
 cases h
 exact pe0 h0 [0]
 rintro ex tm' hp' ⟨rfl,hw⟩
 refine AW.weak hw (cdh h rfl (fun xY h=>?_) (fun xY h=>?_))
 refine ra hx ?_
 refine AW.ret ?_
 cases h
 exact rv1
 refine AW.skip (AW.seq ?_)
 obtain⟨j6,hy,h⟩:=ah h
 refine jn ((PE cx .normal (fun j6=>[(2,dB j6)]) fun j6=>⟨[],[],0⟩) j6) ?_ ?_
 replace h:=hy
 refine rq hx fun K hK=>?_
 refine sa ?_
 refine s1 (aE (b7 bn) ax) ?_
 refine scb h DB fun x8 h=>?_
 iterate 2 refine sa ?_
 rcases aX (decide ((0:Int)<x8)) with fa|fa
 replace h:=aZ fa h
 refine ga fa ?_
 refine g1 fa (aE (cY bn) ax) ?_
 refine ga fa ?_
 refine g1 fa (aE (b7 bn) ax) ?_
 obtain⟨om,Nm,h⟩:=ah h
 refine g1 fa (eC rfl (Ft Nm) (by simp only[cp,dh,jy,fO,dX,dW];exact⟨bc _ _,bc _ _⟩) (lA (fm _ _) (lA (fm _ _) lAn)) (.inl (gP _ _))) ?_
 obtain⟨qv,Nl,h⟩:=ah h
 refine g1 fa (eC rfl (Fq Nl) rfl lAn (.inl (gP _ _))) ?_
 refine g1 fa (vJ tok 3 (by decide) fV ax) ?_
 refine s1 (al fa) ?_
 refine sa ?_
 refine .nil (hK _ _ ?_)
 cases h
 exact pe0 h0 []
 replace h:=a3 fa h
 iterate 7 refine aH rfl rfl fa ?_
 refine s1 (au fa) ?_
 refine sa ?_
 refine .nil (hK _ _ ?_)
 cases h
 exact pe0 h0 []
 rintro ex tm' hp' ⟨rfl,hw⟩
 refine AW.weak hw (AW.ret ?_)
 cases h
 exact rv1
def fH(aW:List ak)(a6:List ak):Int→Option (Int⊕(Bool⊕Unit)):=fun c6=>cnd (decide (c6<((aW).length:Int))) (gd (0≤c6∧c6<((aW).length:Int)) (gd (0≤c6∧c6<((a6).length:Int)) (cnd (decide (¬((aW)[(c6).toNat]! =(a6)[(c6).toNat]!))) (some (.inr (.inl false))) (some (.inl (i64.wrap (c6+(1:Int)))))))) (some (.inr (.inr ())))
def cZ(aW:List ak)(a6:List ak):Option Bool:=cnd (decide (((aW).length:Int)≠((a6).length:Int))) (some false) (bnd (a7 (fH aW a6) (0:Int)) fun y8=>match y8 with| .inl r=>some r| .inr ()=>some true)
theorem nT {aW:List ak}{a6:List ak}{r:Bool}(h:cZ aW a6=some r):aC prog 27 [dL aj aW,dL aj a6] (dB r):=by
 refine bQ (rs:=[.tmp 4]) (fun cx hx h0=>?_) func27
 unfold cZ at h
 refine ra hx ?_
 refine AW.seq (ra hx ?_)
 refine cdh h rfl (fun cH h=>?_) (fun cH h=>?_)
 refine ra hx ?_
 refine AW.ret ?_
 cases h
 exact rv1
 refine AW.skip (AW.seq (ra hx ?_))
 refine AW.block ?_
 obtain⟨y,hy,h⟩:=ah h
 refine lp (S:=Int) (X:=Bool⊕Unit) (fun c6=>[(0,dL aj aW),(1,dL aj a6),(5,dI .i64 c6)]) (fun c6=>⟨[],[],0⟩) (PS (PR [.tmp 4] fun r=>dB r) (PE cx (.exit 0) (fun ()=>[]) fun ()=>⟨[],[],0⟩)) hy ?_ ?_ ?_
 exact wk h0 [] (wR rfl (wR rfl (wR rfl wTn))) wVn wLn
 clear hy h
 rintro c6 y h
 dsimp only[fH] at h
 refine AW.seq (ra hx ?_)
 refine cdh h rfl (fun ly h=>?_) (fun ly h=>?_)
 refine AW.skip (AW.seq (AW.block (rsd [] hx fun K hK=>?_)))
 iterate 2 refine sa ?_
 obtain⟨N6,h⟩:=aD h
 have hn4:(c6).toNat<(aW).length:=by omega
 refine s1 (gk N6 aP aA) ?_
 refine s1 (d:=dG aj ((aW)[(c6).toNat]!)) (pm (c:=aj) (l:=aW) (n:=(c6).toNat) (o:=0) aA hn4 (kC _ _ rfl)) ?_
 iterate 2 refine sa ?_
 obtain⟨Ct,h⟩:=aD h
 have hn6:(c6).toNat<(a6).length:=by omega
 refine s1 (gk Ct aP aA) ?_
 refine s1 (d:=dG aj ((a6)[(c6).toNat]!)) (pm (c:=aj) (l:=a6) (n:=(c6).toNat) (o:=0) aA hn6 (kC _ _ rfl)) ?_
 refine s1 (sw tok 4 (by decide) mK aA) ?_
 refine .nil (hK _ _ (cdh h rfl (fun xY h=>?_) (fun xY h=>?_)))
 refine ra hx ?_
 refine AW.ret ?_
 cases h
 refine PS.r ⟨by nofun,PS.l (PR.i ?_)⟩
 exact rv1
 refine AW.skip (rb hx ?_)
 cases h
 exact PS.l (pe0 h0 [])
 refine AW.exit ?_
 try dsimp only
 try simp only[aN,reduceIte,Nat.reduceEqDiff,reduceCtorEq]
 cases h
 exact PS.r ⟨by nofun,PS.r (PE.i (wk h0 [] wTn wVn wLn))⟩
 rcases y with r|⟨⟩
 rintro ex tm' hp' ⟨rfl,hw⟩
 cases h
 exact hw
 rintro ex tm' hp' ⟨rfl,hw⟩
 try dsimp only
 try simp only[aN,reduceIte,Nat.reduceEqDiff,reduceCtorEq]
 refine AW.weak hw (ra hx ?_)
 refine AW.ret ?_
 cases h
 exact rv1
def nq(q:Rat):Prop:=q.num.natAbs<LIM∧q.den<LIM
instance(q:Rat):Decidable (nq q):=by unfold nq;exact inferInstance
def me(q:Rat):ak:=⟨enc q.num,enc (q.den:Int)⟩
def CB:ak:=⟨GT,enc 1⟩
def ye:Option Rat→ak
 |some q=>me q
 |none=>CB
def okR(x:ak):Prop:=okI x.vN∧okI x.vD
theorem rQ(o:Option Rat):okR (ye o):=by
 cases o with
 |some q=>exact⟨DU _,DU _⟩
 |none=>
  refine⟨fun j hj=>?_,DU _⟩
  show 0≤(W 0)[j]!∧(W 0)[j]! <4294967296
  rw[fX hj];have:=@dgl 0 j;omega
theorem Oo {p q:Rat}(hp:nq p)(hq:nq q)(h:me p=me q):p=q:=by
 unfold me at h
 simp only[ak.mk.injEq] at h
 have h1:=wH hp.1 hq.1 h.1
 have h2:=wH (by simpa using hp.2) (by simpa using hq.2) h.2
 exact Rat.ext h1 (by omega)
theorem rY {z:Int}:dm (enc z)=decide (z.natAbs<LIM):=by
 by_cases h:z.natAbs<LIM
 ·rw[bN h,dU h]
 ·rw[A4 h,C4,jw h]
theorem GI {q:Rat}(h:nq q):me q≠CB:=by
 intro e
 have:dm (me q).vN=dm CB.vN:=by rw[e]
 rw[show (me q).vN=enc q.num from rfl,bN h.1] at this
 cases this
def cX(x:ak):Option Rat:=open Classical in if h:∃q,nq q∧x=me q then some (Classical.choose h) else none
theorem eV {x:ak}{q:Rat}:cX x=some q↔nq q∧x=me q:=by
 unfold cX
 split
 ·rename_i h
  obtain⟨h1,h2⟩:=Bs h
  constructor
  ·intro e
   injection e with e
   rw[←e];exact⟨h1,h2⟩
  ·rintro⟨h3,h4⟩
   congr 1
   exact Oo h1 h3 (h2.symm.trans h4)
 ·rename_i h
  constructor
  ·intro e;cases e
  ·rintro h3;exact absurd ⟨q,h3⟩ h
theorem xl {x:ak}:cX x=none↔∀q,nq q→x≠me q:=by
 constructor
 ·intro h q hq e
  rw[eV.2 ⟨hq,e⟩] at h;cases h
 ·intro h
  cases hx:cX x with
  |none=>rfl
  |some q=>exact absurd (eV.1 hx).2 (h q (eV.1 hx).1)
theorem s4 {q:Rat}(h:nq q):cX (me q)=some q:=eV.2 ⟨h,rfl⟩
theorem Mc:cX CB=none:=xl.2 fun _ hq e=>GI hq e.symm
def yb(o:Option Rat):Prop:=∀q,o=some q→nq q
theorem xm {o:Option Rat}(h:yb o):cX (ye o)=o:=by
 cases o with
 |none=>exact Mc
 |some q=>exact s4 (h q rfl)
theorem A1(x:ak):yb (cX x):=fun _ h=>(eV.1 h).1
theorem pG:yb none:=fun _ h=>by cases h
theorem Ok {g k:Int}(h:g≠0):(g*k).fdiv g=k:=Int.mul_fdiv_cancel_left _ h
theorem J9 {g k:Int}(h:g≠0):(g*k).fdiv (-g)=-k:=by
 rw[show g*k=-g*-k from (Int.neg_mul_neg g k).symm]
 exact Int.mul_fdiv_cancel_left _ (by omega)
theorem pz {n d:Int}(hd:d≠0):∃k m:Int,n=(Nat.gcd n.natAbs d.natAbs:Nat)*k∧d=(Nat.gcd n.natAbs d.natAbs:Nat)*m∧m≠0∧(Rat.divInt n d).num=d.sign*k∧((Rat.divInt n d).den:Int)=d.sign*m:=by
 have hg0:Nat.gcd n.natAbs d.natAbs≠0:=by
  intro h
  have:=(IK.1 h).2
  omega
 have Cr:((Nat.gcd n.natAbs d.natAbs:Nat):Int)≠0:=by omega
 obtain⟨k,hk⟩:((Nat.gcd n.natAbs d.natAbs:Nat):Int) ∣ n:=Int.ofNat_dvd_left.2 (Nat.gcd_dvd_left _ _)
 obtain⟨m,hm⟩:((Nat.gcd n.natAbs d.natAbs:Nat):Int) ∣ d:=Int.ofNat_dvd_left.2 (Nat.gcd_dvd_right _ _)
 have hgg:((Int.gcd d n:Nat):Int)=((Nat.gcd n.natAbs d.natAbs:Nat):Int):=by
  rw[Int.gcd_comm];rfl
 have hmm:m≠0:=by
  intro h
  rw[h,Int.mul_zero] at hm
  exact hd hm
 refine⟨k,m,hk,hm,hmm,?_,?_⟩
 ·rw[Rat.num_divInt,hgg]
  generalize ((Nat.gcd n.natAbs d.natAbs:Nat):Int)=g at hk Cr ⊢
  rw[hk,EC,Int.mul_ediv_cancel_left _ Cr]
 ·rw[Rat.den_divInt,ay hd]
  have e:((d.natAbs / Int.gcd d n:Nat):Int)=(d.natAbs:Int) / ((Int.gcd d n:Nat):Int):=IP ..
  rw[e,hgg]
  have e2:(d.natAbs:Int)=d.sign*d:=by rw[Int.sign_mul_self]
  rw[e2]
  generalize ((Nat.gcd n.natAbs d.natAbs:Nat):Int)=g at hm Cr ⊢
  have e3:d.sign*d=g*(d.sign*m):=by
   conv=>lhs;rhs;rw[hm]
   rw[EC]
  rw[e3,Int.mul_ediv_cancel_left _ Cr]
theorem vg {n d:Int}(hd:d≠0)(h1:n.natAbs<LIM)(h2:d.natAbs<LIM):nq (Rat.divInt n d):=by
 obtain⟨k,m,hk,hm,hm0,e1,e2⟩:=pz (n:=n) hd
 have hg0:Nat.gcd n.natAbs d.natAbs≠0:=by
  intro h
  have:=(IK.1 h).2
  omega
 have hs:d.sign.natAbs=1:=by rw[Int.natAbs_sign,ay hd]
 refine⟨?_,?_⟩
 ·rw[e1,vE,hs,de]
  refine fb ?_ h1
  conv=>rhs;rw[hk]
  rw[vE,eh]
  exact BA _ (sm hg0)
 ·have:(Rat.divInt n d).den=(d.sign*m).natAbs:=by omega
  rw[this,vE,hs,de]
  refine fb ?_ h2
  conv=>rhs;rw[hm]
  rw[vE,eh]
  exact BA _ (sm hg0)
theorem M0 {n d:Int}(hd:d≠0):n.fdiv (bif decide (d<0) then -((Nat.gcd n.natAbs d.natAbs:Nat):Int) else ((Nat.gcd n.natAbs d.natAbs:Nat):Int))=(Rat.divInt n d).num∧d.fdiv (bif decide (d<0) then -((Nat.gcd n.natAbs d.natAbs:Nat):Int) else ((Nat.gcd n.natAbs d.natAbs:Nat):Int))=((Rat.divInt n d).den:Int):=by
 obtain⟨k,m,hk,hm,hm0,e1,e2⟩:=pz (n:=n) hd
 have Cr:((Nat.gcd n.natAbs d.natAbs:Nat):Int)≠0:=by
  intro h
  rw[h,Int.zero_mul] at hm
  exact hd hm
 rw[e1,e2]
 generalize ((Nat.gcd n.natAbs d.natAbs:Nat):Int)=g at hk hm Cr ⊢
 by_cases h:d<0
 ·rw[dU h,lr,IL h]
  constructor
  ·rw[hk,J9 Cr];omega
  ·rw[hm,J9 Cr];omega
 ·rw[jw h,cond_false,Bp (by omega)]
  constructor
  ·rw[hk,Ok Cr];omega
  ·rw[hm,Ok Cr];omega
theorem J2 {n d:Int}(hd:d≠0)(h2:d.natAbs<LIM):Nat.gcd n.natAbs d.natAbs<LIM∧Nat.gcd n.natAbs d.natAbs≠0:=
 ⟨fb (Nat.gcd_le_right _ (by omega)) h2,fun h=>by have:=(IK.1 h).2;omega⟩
theorem KG:lm=some (enc 1):=by
 unfold lm
 rw[E8 (by decide) (by decide),ab]
theorem ol(x:aq):iF x=some (dm x):=by
 unfold iF
 rw[KH,ab,OF,ab]
 congr 1
 unfold dm
 cases x.vBad <;> rfl
theorem vQ:gG=some CB:=by
 unfold gG
 rw[KM,KG,ab,ab]
 rfl
theorem Oc {n d:Int}(hn:n.natAbs<LIM)(hd:d.natAbs<LIM):(∃q,nq q∧(⟨enc n,enc d⟩:ak)=me q)↔0<d∧Nat.gcd n.natAbs d.natAbs=1:=by
 constructor
 ·rintro⟨q,hq,e⟩
  unfold me at e
  simp only[ak.mk.injEq] at e
  have e1:=wH hn hq.1 e.1
  have e2:=wH hd (by simpa using hq.2) e.2
  subst e1;subst e2
  exact⟨by have:=q.den_pos;omega,by rw[eh];exact q.reduced⟩
 ·rintro⟨h1,h2⟩
  refine⟨⟨n,d.natAbs,by omega,h2⟩,⟨hn,hd⟩,?_⟩
  unfold me
  simp only[ak.mk.injEq,true_and]
  congr 1
  omega
theorem kL {x:ak}(hx:okR x):bH x=some (cX x).isSome:=by
 obtain⟨n,d⟩:=x
 obtain⟨h1,h2⟩:=hx
 dsimp only at h1 h2
 have hb:∀b:Bool,(b=true↔∃q,nq q∧(⟨n,d⟩:ak)=me q)→(cX ⟨n,d⟩).isSome=b:=by
  intro b hb
  cases hv:cX ⟨n,d⟩ with
  |none=>
   cases b with
   |false=>rfl
   |true=>
    obtain⟨q,h3,h4⟩:=hb.1 rfl
    exact absurd h4 (xl.1 hv q h3)
  |some q=>exact ((hb.2 ⟨q,eV.1 hv⟩).symm)
 unfold bH
 dsimp only
 rw[ol,ol,ab,ab]
 cases Cr:dm n with
 |false=>
  rw[a9,ab,hb false]
  constructor
  ·intro h;cases h
  ·rintro⟨q,hq,e⟩
   unfold me at e
   simp only[ak.mk.injEq] at e
   rw[e.1,bN hq.1] at Cr;cases Cr
 |true=>
  cases If:dm d with
  |false=>
   rw[gX,a9,ab,hb false]
   constructor
   ·intro h;cases h
   ·rintro⟨q,hq,e⟩
    unfold me at e
    simp only[ak.mk.injEq] at e
    rw[e.2,bN (by simpa using hq.2)] at If;cases If
  |true=>
   obtain⟨n,hn,rfl⟩:=tv h1 Cr
   obtain⟨d,hd,rfl⟩:=tv h2 If
   have hgi:=Oc hn hd
   rw[gX,gX,yF hd,ab,KL hn hd,ab,KG,ab,i5]
   by_cases h0:0<d
   ·rw[az (by rw[Bp h0];decide),ab]
    congr 1
    symm
    refine hb _ ?_
    rw[hgi,decide_eq_true_iff]
    have hgl:=(J2 (n:=n) (show d≠0 by omega) hd).1
    constructor
    ·intro h
     have:=wH (by simpa using hgl) (by decide) h
     exact⟨h0,by omega⟩
    ·rintro⟨_,h⟩
     rw[h];rfl
   ·rw[ay (by rw[Int.sign_pos_iff];exact h0),ab]
    congr 1
    symm
    refine hb _ ?_
    rw[hgi]
    constructor
    ·intro h;cases h
    ·rintro⟨h,_⟩;exact absurd h h0
theorem yG {n d:Int}(hn:n.natAbs<LIM)(hd:d.natAbs<LIM)(h0:d≠0):cC (enc n) (enc d)=some (me (Rat.divInt n d)):=by
 obtain⟨Cr,If⟩:=J2 (n:=n) h0 hd
 obtain⟨e1,e2⟩:=M0 (n:=n) h0
 have hgl:(((Nat.gcd n.natAbs d.natAbs:Nat):Int)).natAbs<LIM:=by simpa using Cr
 unfold cC
 rw[ol,ol,ab,ab,bN hn,bN hd,ej,a9,a9,yF hd,ab,ab,bx _ _ (by rw[IZ];exact h0),KL hn hd,ab,ab,PD hgl,ab]
 have hsel:(cnd (decide (d.sign<(0:Int))) (some (enc (-((Nat.gcd n.natAbs d.natAbs:Nat):Int)))) (some (enc ((Nat.gcd n.natAbs d.natAbs:Nat):Int))))=some (enc (bif decide (d<0) then -((Nat.gcd n.natAbs d.natAbs:Nat):Int) else ((Nat.gcd n.natAbs d.natAbs:Nat):Int))):=by
  by_cases h:d<0
  ·rw[bw _ _ (by rw[Int.sign_neg_iff];exact h),dU h];rfl
  ·rw[bx _ _ (by rw[Int.sign_neg_iff];exact h),jw h];rfl
 have LT:((bif decide (d<0) then -((Nat.gcd n.natAbs d.natAbs:Nat):Int) else ((Nat.gcd n.natAbs d.natAbs:Nat):Int))).natAbs<LIM∧(bif decide (d<0) then -((Nat.gcd n.natAbs d.natAbs:Nat):Int) else ((Nat.gcd n.natAbs d.natAbs:Nat):Int))≠0:=by
  cases decide (d<0)
  ·simp only[cond_false];omega
  ·simp only[lr];omega
 rw[hsel,ab,KJ hn LT.1 LT.2,ab,KJ hd LT.1 LT.2,ab,e1,e2]
 rfl
theorem Hi {x:aq}:cC x (enc 0)=some CB:=by
 unfold cC
 rw[ol,ol,ab,ab,yF (by decide),ab,bN (by decide),vQ,ab]
 cases dm x <;> rfl
theorem BZ {x y:aq}(h:(dm x&&dm y)=false):cC x y=some CB:=by
 unfold cC
 rw[ol,ol,ab,ab,vQ,ab]
 cases h1:dm x with
 |false=>rfl
 |true=>
  cases h2:dm y with
  |false=>rfl
  |true=>rw[h1,h2] at h;cases h
def HH(x y:Rat):Option Rat:=
 if (x.num*((y.den / Nat.gcd x.den y.den:Nat):Int)).natAbs<LIM∧(y.num*((x.den / Nat.gcd x.den y.den:Nat):Int)).natAbs<LIM∧(x.num*((y.den / Nat.gcd x.den y.den:Nat):Int)+y.num*((x.den / Nat.gcd x.den y.den:Nat):Int)).natAbs<LIM∧x.den / Nat.gcd x.den y.den*y.den<LIM then some (x+y) else none
def DP(x y:Rat):Option Rat:=if nq (x*y) then some (x*y) else none
theorem G4(x y:Rat):Rat.divInt (x.num*((y.den / Nat.gcd x.den y.den:Nat):Int)+y.num*((x.den / Nat.gcd x.den y.den:Nat):Int)) ((x.den / Nat.gcd x.den y.den*y.den:Nat):Int)=x+y:=by
 have hx:=x.den_pos
 have hy:=y.den_pos
 have hg:0<Nat.gcd x.den y.den:=IJ _ hx
 obtain⟨p,hp⟩:=Nat.gcd_dvd_left x.den y.den
 obtain⟨q,hq⟩:=Nat.gcd_dvd_right x.den y.den
 have e1:x.den / Nat.gcd x.den y.den=p:=by
                         conv=>lhs;lhs;rw[hp]
                         exact I4 _ hg
 have e2:y.den / Nat.gcd x.den y.den=q:=by
                         conv=>lhs;lhs;rw[hq]
                         exact I4 _ hg
 rw[e1,e2,Rat.add_def']
 generalize Nat.gcd x.den y.den=g at hg hp hq
 rw[←II,←Rat.divInt_mul_left (a:=(g:Int)) (by omega)]
 congr 1
 ·rw[Int.mul_add,hp,hq,oa,oa,EC,EC (y.num)]
 ·rw[hp]
  simp only[oa,Int.mul_assoc]
theorem MI(x y:Rat):yb (HH x y):=by
 intro q h
 unfold HH at h
 split at h
 ·rename_i hc
  obtain⟨_,_,h3,h4⟩:=hc
  injection h with h
  subst h
  rw[←G4]
  refine vg ?_ h3 (by rw[eh];exact h4)
  have hg:0<Nat.gcd x.den y.den:=IJ _ x.den_pos
  have:=BB (yr y.den x.den_pos) hg
  have:=rB this y.den_pos
  omega
 ·cases h
theorem MH(x y:Rat):yb (DP x y):=by
 intro q h
 unfold DP at h
 split at h
 ·rename_i hc
  injection h with h
  rw[←h];exact hc
 ·cases h
theorem cross(x y:Rat):(x*y).num=(Rat.divInt x.num y.den).num*(Rat.divInt y.num x.den).num∧(x*y).den=(Rat.divInt x.num y.den).den*(Rat.divInt y.num x.den).den:=by
 have hx:=x.den_pos
 have hy:=y.den_pos
 obtain⟨k,m,hk,hm,hm0,e1,e2⟩:=pz (n:=x.num) (d:=(y.den:Int)) (by omega)
 obtain⟨k',m',tj,wx,hm0',e1',e2'⟩:=pz (n:=y.num) (d:=(x.den:Int)) (by omega)
 rw[Bp (by omega),Int.one_mul] at e1 e2 e1' e2'
 have hxy:x*y=Rat.divInt x.num y.den*Rat.divInt y.num x.den:=by
  rw[Rat.divInt_mul_divInt]
  conv=>lhs;rw[←Rat.num_divInt_den x,←Rat.num_divInt_den y,Rat.divInt_mul_divInt]
  rw[sk (y.den:Int)]
 have hc:Nat.gcd ((Rat.divInt x.num y.den).num*(Rat.divInt y.num x.den).num).natAbs ((Rat.divInt x.num y.den).den*(Rat.divInt y.num x.den).den)=1:=by
  rw[vE]
  have c1:=(Rat.divInt x.num y.den).reduced
  have c2:=(Rat.divInt y.num x.den).reduced
  have d1:(Rat.divInt x.num y.den).num.natAbs ∣ x.num.natAbs:=by
   rw[e1];exact Int.natAbs_dvd_natAbs.2 ⟨_,by rw[sk];exact hk⟩
  have d2:(Rat.divInt y.num x.den).den ∣ x.den:=Int.natCast_dvd_natCast.1 (by rw[e2'];exact⟨_,by rw[sk];exact wx⟩)
  have d3:(Rat.divInt y.num x.den).num.natAbs ∣ y.num.natAbs:=by
   rw[e1'];exact Int.natAbs_dvd_natAbs.2 ⟨_,by rw[sk];exact tj⟩
  have d4:(Rat.divInt x.num y.den).den ∣ y.den:=Int.natCast_dvd_natCast.1 (by rw[e2];exact⟨_,by rw[sk];exact hm⟩)
  have c3:Nat.Coprime (Rat.divInt x.num y.den).num.natAbs (Rat.divInt y.num x.den).den:=Nat.Coprime.coprime_dvd_left d1 (Nat.Coprime.coprime_dvd_right d2 x.reduced)
  have c4:Nat.Coprime (Rat.divInt y.num x.den).num.natAbs (Rat.divInt x.num y.den).den:=Nat.Coprime.coprime_dvd_left d3 (Nat.Coprime.coprime_dvd_right d4 y.reduced)
  exact Nat.Coprime.mul_left (Nat.Coprime.mul_right c1 c3) (Nat.Coprime.mul_right c4 c2)
 rw[hxy,Rat.num_mul,Rat.den_mul,hc]
 exact⟨by simp,by simp⟩
theorem yf(q:Rat):(me q).vN=enc q.num:=rfl
theorem A5(q:Rat):(me q).vD=enc (q.den:Int):=rfl
theorem Ka(z:Int):(enc z).vBad=decide (¬z.natAbs<LIM):=by
 by_cases h:z.natAbs<LIM
 ·rw[qb h];simp[h]
 ·rw[A4 h];simp[h];rfl
theorem lJ {q:Rat}(h:nq q):((q.den:Nat):Int).natAbs<LIM:=by simpa using h.2
theorem G_rMul {x y:Rat}(hx:nq x)(hy:nq y):dp (me x) (me y)=some (ye (DP x y)):=by
 have hdx:=x.den_pos
 have hdy:=y.den_pos
 obtain⟨c1,c2⟩:=cross x y
 have f1:=vg (n:=x.num) (d:=(y.den:Int)) (by omega) hx.1 (lJ hy)
 have f2:=vg (n:=y.num) (d:=(x.den:Int)) (by omega) hy.1 (lJ hx)
 unfold dp
 rw[show bH (me x)=_ from kL (rQ (some x)),show bH (me y)=_ from kL (rQ (some y)),s4 hx,s4 hy,ab,ab]
 simp only[Bo,ej,a9,ab,yf,A5]
 rw[yG hx.1 (lJ hy) (by omega),ab,yG hy.1 (lJ hx) (by omega),ab]
 simp only[yf,A5]
 rw[Hh f1.1 f2.1,ab,Hh (lJ f1) (lJ f2),ab,←c1,←oa,←c2,Ka,Ka,cnd_or,ab,vQ,ab,←Bool.decide_or,i5]
 unfold DP
 by_cases h:nq (x*y)
 ·obtain⟨h1,h2⟩:=id h
  rw[ay (by rw[eh];omega),az h];rfl
 ·have h1:¬((x*y).num.natAbs<LIM∧(x*y).den<LIM):=h
  rw[az (by rw[eh];omega),ay h];rfl
theorem BV {x y:ak}(hx:okR x)(hy:okR y)(h:((cX x).isSome&&(cX y).isSome)=false):dp x y=some CB:=by
 unfold dp
 rw[kL hx,kL hy,ab,ab,vQ,ab]
 cases h1:(cX x).isSome with
 |false=>rfl
 |true=>
  cases h2:(cX y).isSome with
  |false=>rfl
  |true=>rw[h1,h2] at h;cases h
theorem Jw {n g:Nat}:((n:Int)).fdiv (g:Int)=((n / g:Nat):Int):=by
 rw[Int.fdiv_eq_ediv_of_nonneg _ (EH _)]
 exact (IP ..).symm
theorem G_rAdd {x y:Rat}(hx:nq x)(hy:nq y):fI (me x) (me y)=some (ye (HH x y)):=by
 have hdx:=x.den_pos
 have hdy:=y.den_pos
 have hg:0<Nat.gcd x.den y.den:=IJ _ hdx
 have hgl:Nat.gcd x.den y.den<LIM:=fb (yr _ hdx) hx.2
 have hgl':((Nat.gcd x.den y.den:Nat):Int).natAbs<LIM:=by simpa using hgl
 have hp:x.den / Nat.gcd x.den y.den<LIM:=fb (tH _ _) hx.2
 have hq:y.den / Nat.gcd x.den y.den<LIM:=fb (tH _ _) hy.2
 have hp0:0<x.den / Nat.gcd x.den y.den:=BB (yr y.den hdx) hg
 have Ea:0<x.den / Nat.gcd x.den y.den*y.den:=rB hp0 hdy
 have haf:=G4 x y
 unfold fI
 rw[show bH (me x)=_ from kL (rQ (some x)),show bH (me y)=_ from kL (rQ (some y)),s4 hx,s4 hy,ab,ab]
 simp only[Bo,ej,a9,ab,yf,A5]
 rw[KL (lJ hx) (lJ hy),ab,eh,eh,KJ (lJ hx) hgl' (by omega),ab,KJ (lJ hy) hgl' (by omega),ab,Jw,Jw,Hh hx.1 (by rw[eh];exact hq),ab,Hh hy.1 (by rw[eh];exact hp),ab,Hh (by rw[eh];exact hp) (lJ hy),←oa]
 unfold HH
 revert haf
 generalize x.num*((y.den / Nat.gcd x.den y.den:Nat):Int)=z1
 generalize y.num*((x.den / Nat.gcd x.den y.den:Nat):Int)=z2
 revert Ea
 generalize x.den / Nat.gcd x.den y.den*y.den=D
 intro Ea haf
 have hsum:iB (enc z1) (enc z2)=some (if z1.natAbs<LIM∧z2.natAbs<LIM then enc (z1+z2) else GT):=by
  by_cases h:z1.natAbs<LIM∧z2.natAbs<LIM
  ·rw[az h,G_Add h.1 h.2]
  ·rw[ay h,LM (by rw[rY,rY,←Bool.decide_and];exact jw h)]
 rw[hsum,ab,ab,vk]
 by_cases h:z1.natAbs<LIM∧z2.natAbs<LIM
 ·rw[az h]
  by_cases h2:(z1+z2).natAbs<LIM∧D<LIM
  ·rw[yG h2.1 (by rw[eh];exact h2.2) (by omega),haf,az ⟨h.1,h.2,h2⟩];rfl
  ·rw[BZ (by rw[rY,rY,←Bool.decide_and,eh];exact jw h2),ay fun hh=>h2 hh.2.2];rfl
 ·rw[ay h,BZ (by rw[C4,Bool.false_and]),ay fun hh=>h ⟨hh.1,hh.2.1⟩];rfl
theorem BW {x y:ak}(hx:okR x)(hy:okR y)(h:((cX x).isSome&&(cX y).isSome)=false):fI x y=some CB:=by
 unfold fI
 rw[kL hx,kL hy,ab,ab,vQ,ab]
 cases h1:(cX x).isSome with
 |false=>rfl
 |true=>
  cases h2:(cX y).isSome with
  |false=>rfl
  |true=>rw[h1,h2] at h;cases h
def FY(a b:Option Rat):Option Rat:=a.bind fun x=>b.bind fun y=>HH x y
def zp(a b:Option Rat):Option Rat:=a.bind fun x=>b.bind fun y=>DP x y
def DS(a:Option Rat):Option Rat:=a.map fun x=>-x
def K7(a:Option Rat):Option Rat:=a.bind fun x=>if x=0 then none else some x⁻¹
def osub(a b:Option Rat):Option Rat:=FY a (DS b)
def FV(a b:Option Rat):Option Rat:=zp a (K7 b)
def osgn(a:Option Rat):Int:=match a with|some x=>x.num.sign|none=>0
theorem FX(a b:Option Rat):yb (FY a b):=by
 cases a with
 |none=>exact pG
 |some x=>
  cases b with
  |none=>exact pG
  |some y=>exact MI x y
theorem Ao(a b:Option Rat):yb (zp a b):=by
 cases a with
 |none=>exact pG
 |some x=>
  cases b with
  |none=>exact pG
  |some y=>exact MH x y
theorem GE {x:Rat}(h:nq x):nq (-x):=⟨by rw[Rat.neg_num,Int.natAbs_neg];exact h.1,h.2⟩
theorem An {a:Option Rat}(h:yb a):yb (DS a):=by
 cases a with
 |none=>exact pG
 |some x=>
  intro q hq
  injection hq with hq
  subst hq
  exact GE (h x rfl)
theorem Oj {x:Rat}(h:nq x)(h0:x≠0):nq x⁻¹:=by
 have hn:x.num≠0:=fun h=>h0 (Rat.num_eq_zero.1 h)
 refine⟨?_,?_⟩
 ·rw[Rat.num_inv,vE,Int.natAbs_sign,ay hn,de,eh];exact h.2
 ·rw[Rat.den_inv,ay hn];exact h.1
theorem MO {a:Option Rat}(h:yb a):yb (K7 a):=by
 cases a with
 |none=>exact pG
 |some x=>
  intro q hq
  have hq:(if x=0 then none else some x⁻¹)=some q:=hq
  split at hq
  ·cases hq
  ·rename_i h0
   injection hq with hq
   subst hq
   exact Oj (h x rfl) h0
theorem MP(a b:Option Rat):yb (FV a b):=Ao _ _
theorem Px {x y:ak}(hx:okR x)(hy:okR y):fI x y=some (ye (FY (cX x) (cX y))):=by
 cases h1:cX x with
 |none=>exact BW hx hy (by rw[h1];rfl)
 |some p=>
  cases h2:cX y with
  |none=>exact BW hx hy (by rw[h1,h2];rfl)
  |some q=>
   obtain⟨hp,rfl⟩:=eV.1 h1
   obtain⟨hq,rfl⟩:=eV.1 h2
   exact G_rAdd hp hq
theorem Je {x y:ak}(hx:okR x)(hy:okR y):dp x y=some (ye (zp (cX x) (cX y))):=by
 cases h1:cX x with
 |none=>exact BV hx hy (by rw[h1];rfl)
 |some p=>
  cases h2:cX y with
  |none=>exact BV hx hy (by rw[h1,h2];rfl)
  |some q=>
   obtain⟨hp,rfl⟩:=eV.1 h1
   obtain⟨hq,rfl⟩:=eV.1 h2
   exact G_rMul hp hq
theorem Pu {x:ak}(hx:okR x):ln x=some (ye (DS (cX x))):=by
 unfold ln
 rw[kL hx,ab]
 cases h1:cX x with
 |none=>rw[vQ,ab];rfl
 |some p=>
  obtain⟨hp,rfl⟩:=eV.1 h1
  simp only[Bo,ej,a9,yf,A5]
  rw[PD hp.1,ab]
  rfl
theorem G_osub {x y:ak}(hx:okR x)(hy:okR y):qF x y=some (ye (osub (cX x) (cX y))):=by
 unfold qF
 rw[Pu hy,ab,Px hx (rQ _),ab,xm (An (A1 y))]
 rfl
theorem Jf {q:Rat}(hq:nq q):cC (enc (q.den:Int)) (enc q.num)=some (ye (K7 (some q))):=by
 by_cases h:q=0
 ·subst h
  show cC _ (enc 0)=_
  rw[Hi];rfl
 ·have hn:q.num≠0:=fun h0=>h (Rat.num_eq_zero.1 h0)
  rw[yG (lJ hq) hq.1 hn,←Rat.inv_def]
  show _=some (ye (if q=0 then none else some q⁻¹))
  rw[ay h];rfl
theorem G_odiv {x y:ak}(hx:okR x)(hy:okR y):qG x y=some (ye (FV (cX x) (cX y))):=by
 unfold qG
 rw[kL hy,ab]
 cases h2:cX y with
 |none=>
  rw[vQ,ab]
  show some CB=some (ye (zp (cX x) none))
  unfold zp
  cases cX x <;> rfl
 |some q=>
  obtain⟨hq,rfl⟩:=eV.1 h2
  simp only[Bo,ej,a9,yf,A5]
  rw[Jf hq,ab,Je hx (rQ _),ab,xm (MO fun r hr=>by injection hr with hr;subst hr;exact hq)]
  rfl
theorem Ps {x:ak}(hx:okR x):jL x=some (osgn (cX x)):=by
 unfold jL
 rw[kL hx,ab]
 cases h1:cX x with
 |none=>rfl
 |some p=>
  obtain⟨hp,rfl⟩:=eV.1 h1
  simp only[Bo,ej,a9,yf]
  rw[yF hp.1,ab]
  rfl
theorem Iy(n:Int):Rat.divInt n 1=(n:Rat):=by
 show Rat.divInt n ((1:Nat):Int)=_
 rw[II]
 exact Rat.mkRat_self (n:Rat)
theorem Pr {n:Int}(h:n.natAbs<LIM):mb (enc n)=some (me (n:Rat)):=by
 unfold mb
 rw[KG,ab,yG h (by decide) (by decide),ab,Iy]
theorem G_rOf {n:Int}(h1:-9223372036854775808≤n)(h2:n≤9223372036854775807):eA n=some (me (n:Rat)):=by
 have hL:n.natAbs<LIM:=bT (show n.natAbs<18446744073709551616 by omega) (by decide)
 unfold eA
 rw[E8 h1 h2,ab,Pr hL,ab]
section
def lF(n:Nat)(f:Nat→Nat):List Int:=(List.range n).map fun j=>(f j:Int)
section
variable {n m p x k j:Nat} {f g:Nat→Nat}
theorem cy:(lF n f).length=n:=by unfold lF;simp
theorem oR(h:j<n):(lF n f)[j]! =(f j:Int):=by
 unfold lF
 rw[eG _ j (by simpa using h)]
 simp
theorem rV(h:∀j,j<n→f j=g j):lF n f=lF n g:=by
 unfold lF
 apply oX
 intro j hj
 rw[h j (by simpa using hj)]
theorem wv:lF n f++[(f n:Int)]=lF (n+1) f:=by
 unfold lF
 rw[uO,mg];rfl
theorem HX:(lF n f).set p (x:Int)=lF n (fun j=>if j=p then x else f j):=by
 apply Ku
 ·rw[ID,cy,cy]
 ·intro i h1 h2
  rw[List.getElem_set]
  have h3:i<n:=by rw[cy] at h2;exact h2
  have e1:=oR (f:=fun j=>if j=p then x else f j) h3
  rw[eG _ i h2] at e1
  rw[e1]
  split
  ·rename_i h;rw[az h.symm]
  ·rename_i h
   rw[ay (fun e=>h e.symm)]
   have e2:=oR (f:=f) h3
   rw[eG _ i (by rw[cy];exact h3)] at e2
   exact e2
theorem lF_take(h:m≤n):(lF n f).take m=lF m f:=by
 unfold lF
 rw[←vA,List.take_range,tD h]
theorem lF_cons:[(x:Int)]++lF n f=lF (n+1) (fun j=>if j=0 then x else f (j - 1)):=by
 unfold lF
 rw[List.range_succ_eq_map,cp,mz]
 rfl
theorem M7:List.replicate n (0:Int)=lF n (fun _=>0):=by
 unfold lF
 induction n with
 |zero=>rfl
 |succ n ih=>rw[List.replicate_succ',ih,uO,mg];rfl
end
abbrev dk(n A:Nat):List Int:=lF n (dg 65536 A)
theorem jO {A j:Nat}:dg 65536 A j<65536:=Ov (by decide)
theorem Mk(A:Nat):∃n,szp 65536 A n:=by
 induction A using Nat.strongRecOn with
 |_ A ih=>
  by_cases h:A=0
  ·subst h;exact⟨0,by decide,fun h=>by omega⟩
  ·obtain⟨n,h1,h2⟩:=ih (A / 65536) (by omega)
   refine⟨n+1,?_,fun _=>?_⟩
   ·rw[eF];exact (nR (by decide)).1 h1
   ·rw[yv]
    cases n with
    |zero=>rw[fE];omega
    |succ n=>
     have:=h2 (by omega)
     rw[yv] at this
     rw[eF]
     exact (n9 (by decide)).1 this
def sz6(A:Nat):Nat:=Classical.choose (Mk A)
theorem wb(A:Nat):szp 65536 A (sz6 A):=Bs (Mk A)
theorem jH(A:Nat):A<65536 ^ sz6 A:=(wb A).1
theorem qP {A n:Nat}(h:A<65536 ^ n):sz6 A≤n:=Hw (by decide) (wb A) h
theorem Hx {A n:Nat}(h:szp 65536 A n):n=sz6 A:=Mj (by decide) h (wb A)
theorem Ad:sz6 0=0:=(Hx ⟨by decide,fun h=>by omega⟩).symm
theorem zK {A:Nat}(h:0<A):0<sz6 A:=by
 rcases iS (sz6 A) with h1|h1
 ·have:=jH A
  rw[h1,fE] at this;omega
 ·exact h1
noncomputable abbrev dl(A:Nat):List Int:=dk (sz6 A) A
theorem Ix(A:Nat):(dl A).length=sz6 A:=cy
theorem dl_zero:dl 0=[]:=by unfold dl;rw[Ad];rfl
theorem Oq {A:Nat}:(dl A).length=0↔A=0:=by
 rw[Ix]
 constructor
 ·intro h
  rcases iS A with h1|h1
  ·exact h1
  ·have:=zK h1;omega
 ·rintro rfl;exact Ad
theorem sA {n A k:Nat}(hA:A<65536 ^ n):c5 (dk n A) (k:Int)=some ((dg 65536 A k:Nat):Int):=by
 unfold c5
 rw[cy]
 by_cases h:k<n
 ·rw[bw _ _,aJ,bL,oR h]
 ·rw[bx _ _,kI (bT hA (ib (by decide) (by omega)))];rfl
theorem vP {n A:Nat}(hA:A<65536 ^ n)(hn:n<1000000):eN (dk n A)=some (dl A):=by
 obtain⟨x,hl,hx⟩:=uD (b:=jZ (dk n A)) (fun s=>∃k:Nat,s=(k:Int)∧k≤n∧A<65536 ^ k) (fun s=>s.toNat) (fun x=>x=((sz6 A:Nat):Int))
  (by
   rintro s ⟨k,rfl,hk,bF⟩
   cases k with
   |zero=>
    right
    refine⟨((0:Nat):Int),?_,?_⟩
    ·dsimp only[jZ]
     rw[bx _ _,ab,a9]
    ·show ((0:Nat):Int)=_
     rw[←Hx ⟨bF,fun h=>by omega⟩]
   |succ k=>
    have e:i64.wrap (((k+1:Nat):Int) - 1)=(k:Int):=by rw[cb];omega
    dsimp only[jZ]
    rw[bw _ _,e,cy,aJ,ab,bL,oR (by omega),i5]
    by_cases hd:dg 65536 A k=0
    ·left
     refine⟨(k:Int),by rw[ifp_],⟨k,rfl,by omega,?_⟩,by omega⟩
     unfold dg at hd
     have h1:A / 65536 ^ k<65536:=by
      rw[nR (cJ (by decide)),cj,←eF];exact bF
     rw[dJ h1] at hd
     exact (EV (cJ (by decide))).1 hd
    ·right
     refine⟨((k+1:Nat):Int),by rw[ifn_],?_⟩
     show ((k+1:Nat):Int)=_
     rw[Hx (A:=A) ⟨bF,fun _=>?_⟩]
     rcases ci A (65536 ^ k) with h|h
     ·exact absurd (kI h) hd
     ·exact h) (n:Int) ⟨n,rfl,aL _,hA⟩
 unfold eN
 have hs:=qP hA
 rw[cy,hl,hx,ab,aJ,subL_to _ _ (by omega),bL,lF_take hs]
theorem pmax {n m A B:Nat}(hA:A<65536 ^ n)(hB:B<65536 ^ m):A<65536 ^ max n m∧B<65536 ^ max n m:=
 ⟨bT hA (ib (by decide) (EO ..)),bT hB (ib (by decide) (EI ..))⟩
theorem As(n m:Nat):max (n:Int) (m:Int)=((max n m:Nat):Int):=by omega
theorem G_dplus {n m A B:Nat}(hA:A<65536 ^ n)(hB:B<65536 ^ m)(hn:n<100000)(hm:m<100000):nj (dk n A) (dk m B)=some (dl (A+B)):=by
 have hM:max n m<100000:=by omega
 obtain⟨JZ,hB'⟩:=pmax hA hB
 have hl:=pX (b:=jg (dk n A) (dk m B)) (s0:=(([]:List Int),(0:Int),(0:Int))) (fun k=>(dk k (A+B),(((A % 65536 ^ k+B % 65536 ^ k) / 65536 ^ k:Nat):Int),(k:Int))) (max n m+1) (dk (max n m+1) (A+B))
  (by simp only[fE,lZ];rfl)
  (fun k hk=>by
   have hc:=ny (b:=65536) (A:=A) (B:=B) (k:=k) (by decide)
   obtain⟨h1,h2⟩:=oc (b:=65536) (A:=A) (B:=B) (k:=k) (by decide)
   have ha:=@jO A k
   have hb:=@jO B k
   have LZ:=ny (b:=65536) (A:=A) (B:=B) (k:=k+1) (by decide)
   generalize (A % 65536 ^ k+B % 65536 ^ k) / 65536 ^ k=c at h1 h2 hc ⊢
   generalize (A % 65536 ^ (k+1)+B % 65536 ^ (k+1)) / 65536 ^ (k+1)=c' at h2 LZ ⊢
   dsimp only[jg]
   rw[cy,cy,As,cb,bw _ _,sA hA,ab,sA hB,ab,cb (z:=(dg 65536 A k:Int)+(dg 65536 B k:Int)) (by omega),cb,ab,←kw,←kw,show (65536:Int)=((65536:Nat):Int) from rfl,←qV,←qW,ls (dg 65536 A k+dg 65536 B k),←l4,h1,h2,wv,cy,aJ,cb (z:=(c':Int)) (by omega),cb]
   rfl)
  (by
   dsimp only[jg]
   rw[cy,cy,As,cb,bx _ _])
 unfold nj
 have:A+B<65536 ^ (max n m+1):=by rw[eF];omega
 rw[hl,ab,vP this (by omega),ab]
theorem Hg {n m A B:Nat}(hA:A<65536 ^ n)(hB:B<65536 ^ m)(hn:n<100000)(hBA:B≤A):ke (dk n A) (dk m B)=some (dl (A - B)):=by
 obtain⟨D,rfl⟩:∃D,A=D+B:=⟨A - B,by omega⟩
 rw[yv]
 have hl:=pX (b:=iD (dk n (D+B)) (dk m B)) (s0:=(([]:List Int),(0:Int),(0:Int))) (fun k=>(dk k D,(((D % 65536 ^ k+B % 65536 ^ k) / 65536 ^ k:Nat):Int),(k:Int))) n (dk n D)
  (by simp only[fE,lZ];rfl)
  (fun k hk=>by
   have hc:=ny (b:=65536) (A:=D) (B:=B) (k:=k) (by decide)
   have LZ:=ny (b:=65536) (A:=D) (B:=B) (k:=k+1) (by decide)
   obtain⟨h1,h2⟩:=oc (b:=65536) (A:=D) (B:=B) (k:=k) (by decide)
   have ha:=@jO D k
   have hb:=@jO B k
   have hd:=@jO (D+B) k
   generalize hq:(D % 65536 ^ k+B % 65536 ^ k) / 65536 ^ k=c at h1 h2 hc ⊢
   generalize (D % 65536 ^ (k+1)+B % 65536 ^ (k+1)) / 65536 ^ (k+1)=c' at h2 LZ ⊢
   dsimp only[iD]
   rw[cy,bw _ _,aJ,sA hB,ab,bL,oR hk,cb (z:=(dg 65536 (D+B) k:Int) - (dg 65536 B k:Int)) (by omega),cb,ab]
   by_cases hn0:(dg 65536 (D+B) k:Int) - (dg 65536 B k:Int) - (c:Int)<0
   ·obtain rfl:c'=1:=by omega
    rw[bw _ _ hn0,ab,cb]
    dsimp only
    rw[show (dg 65536 (D+B) k:Int) - (dg 65536 B k:Int) - (c:Int)+65536=(dg 65536 D k:Int) from by omega,wv,cy,aJ,cb]
    rfl
   ·obtain rfl:c'=0:=by omega
    rw[bx _ _ hn0,ab]
    dsimp only
    rw[show (dg 65536 (D+B) k:Int) - (dg 65536 B k:Int) - (c:Int)=(dg 65536 D k:Int) from by omega,wv,cy,aJ,cb]
    rfl)
  (by
   dsimp only[iD]
   rw[cy,bx _ _])
 unfold ke
 rw[hl,ab,vP (by omega) (by omega),ab]
theorem wt {A B k:Nat}(he:A / 65536 ^ (k+1)=B / 65536 ^ (k+1))(h:dg 65536 A k<dg 65536 B k):A<B:=by
 have e1:=cm (b:=65536) (A:=A) (k:=k)
 have e2:=cm (b:=65536) (A:=B) (k:=k)
 have h1:A / 65536 ^ k<B / 65536 ^ k:=by
  rw[e1,e2,he];exact tJ h _
 rcases ci A B with h2|h2
 ·exact h2
 ·exact absurd (I5 h2) (Nat.not_le.2 h1)
theorem G_dless {n m A B:Nat}(hA:A<65536 ^ n)(hB:B<65536 ^ m)(hn:n<100000)(hm:m<100000):nk (dk n A) (dk m B)=some (decide (A<B)):=by
 obtain⟨JZ,hB'⟩:=pmax hA hB
 obtain⟨x,hl,hx⟩:=uD (b:=j3 (dk n A) (dk m B)) (fun s=>∃k:Nat,s=(k:Int) - 1∧k≤max n m∧A / 65536 ^ k=B / 65536 ^ k) (fun s=>(s+1).toNat) (fun x=>match x with| .inl r=>r=decide (A<B)| .inr _=>A=B)
  (by
   rintro s ⟨k,rfl,hk,he⟩
   cases k with
   |zero=>
    right
    refine⟨(Sum.inr ():Bool⊕Unit),?_,?_⟩
    ·dsimp only[j3]
     rw[bx _ _]
    ·simpa using he
   |succ k=>
    have e:((k+1:Nat):Int) - 1=(k:Int):=by omega
    rw[e]
    dsimp only[j3]
    rw[bw _ _,sA hA,ab,sA hB,ab]
    by_cases hd:dg 65536 A k=dg 65536 B k
    ·left
     refine⟨(k:Int) - 1,?_,⟨k,rfl,by omega,?_⟩,by omega⟩
     ·rw[bx _ _ (by rw[hd];simp),cb]
     ·rw[cm (b:=65536) (A:=A) (k:=k),cm (b:=65536) (A:=B) (k:=k),he,hd]
    ·right
     refine⟨(Sum.inl (decide (A<B)):Bool⊕Unit),?_,rfl⟩
     rw[bw _ _,ab,ab]
     congr 3
     refine mA.2 ?_
     rcases Nat.lt_or_gt_of_ne hd with h|h
     ·have:=wt he h
      exact⟨fun _=>this,fun _=>by omega⟩
     ·have:=wt he.symm h
      exact⟨fun h'=>by omega,fun h'=>by omega⟩) (((max n m:Nat):Int) - 1) ⟨max n m,rfl,aL _,by rw[dt JZ,dt hB']⟩
 unfold nk
 rw[cy,cy,As,cb,ab,hl,ab]
 cases x with
 |inl r=>obtain rfl:r=_:=hx;rfl
 |inr u=>
  obtain rfl:A=B:=hx
  simp
section
variable {b:Nat} {f g:Nat→Nat}
theorem FD:∀n,(∀j,j<n→f j=g j)→fP b f n=fP b g n
 |0,_=>rfl
 |n+1,h=>by
  unfold fP
  rw[FD n fun j hj=>h j (by omega),h n (by omega)]
theorem FB {q x:Nat}:∀n,q<n→fP b (fun j=>if j=q then f j+x else f j) n=fP b f n+x*b ^ q
 |0,h=>by omega
 |n+1,h=>by
  unfold fP
  by_cases hq:q=n
  ·subst hq
   rw[az rfl,FD q (g:=f) fun j hj=>ifn_,bj];omega
  ·rw[ifn_,FB n (by omega)];omega
theorem Jk {A:Nat}:∀n,fP b (dg b A) n=A % b ^ n
 |0=>by simp[fP,lZ]
 |n+1=>by
  unfold fP
  rw[Jk n,ge,cj]
theorem FC(k:Nat):∀n,k≤n→fP b f n % b ^ k=fP b f k % b ^ k
 |0,h=>by
  obtain rfl:k=0:=by omega
  rfl
 |n+1,h=>by
  by_cases hk:k=n+1
  ·rw[hk]
  ·have tj:k≤n:=by omega
   obtain⟨d,rfl⟩:∃d,n=k+d:=⟨n - k,by omega⟩
   rw[←FC k (k+d) tj]
   show (fP b f (k+d)+f (k+d)*b ^ (k+d)) % b ^ k=_
   rw[gA,yz,yy]
theorem Jj {M:Nat}(hb:2≤b):∀n,(∀j,j<n→f j≤M)→fP b f n≤M*b ^ n
 |0,_=>by simp[fP]
 |n+1,h=>by
  have ih:=Jj hb n fun j hj=>h j (by omega)
  have h1:f n*b ^ n≤M*b ^ n:=cg _ (h n (by omega))
  have h2:M*b ^ n*2≤M*b ^ n*b:=tI _ hb
  unfold fP
  rw[eF,←eU]
  omega
theorem K8 {n k:Nat}(hb:0<b)(hk:k<n):(fP b f k / b ^ k+f k) % b=dg b (fP b f n) k∧(fP b f k / b ^ k+f k) / b=fP b f (k+1) / b ^ (k+1):=by
 have hp:0<b ^ k:=cJ hb
 have e:fP b f (k+1) / b ^ k=fP b f k / b ^ k+f k:=by
  show (fP b f k+f k*b ^ k) / b ^ k=_
  rw[IR _ _ hp]
 refine⟨?_,?_⟩
 ·rw[←e,←mw (A:=fP b f n) (k:=k+1) (dY _),FC (k+1) n hk,mw (dY _)]
  rfl
 ·rw[←e,f9,←eF]
end
theorem KW {n m A B i:Nat}(hi:i<n)(hn:n<1000)(hm:m<1000)(hB:B<65536 ^ m){R:Nat}(hR:R<65536 ^ (n+m+1)):
  ∃f:Nat→Nat,a7 (iC (dk n A) (dk m B) (i:Int)) ((0:Int),dk (n+m+1) R)=some (lF (n+m+1) f)∧fP 65536 f (n+m+1)=R+dg 65536 A i*B*65536 ^ i∧∀j,f j≤65535+65535*65535:=by
 have ha:=@jO A i
 have eP:i64.wrap ((i64.wrap (((dk n A).length:Int)+((dk m B).length:Int)))+(1:Int))=((n+m+1:Nat):Int):=by
  rw[cy,cy,cb (z:=(n:Int)+(m:Int)) (by omega),cb];omega
 obtain⟨x,hl,f,rfl,h1,h2⟩:=uD (b:=iC (dk n A) (dk m B) (i:Int)) (fun s=>∃(k:Nat) (f:Nat→Nat),s=((k:Int),lF (n+m+1) f)∧k≤m∧fP 65536 f (n+m+1)=R+dg 65536 A i*(B % 65536 ^ k)*65536 ^ i∧(∀j,f j≤65535+65535*65535)∧∀j,i+k≤j→f j≤65535) (fun s=>m - s.1.toNat)
  (fun x=>∃f:Nat→Nat,x=lF (n+m+1) f∧fP 65536 f (n+m+1)=R+dg 65536 A i*B*65536 ^ i∧∀j,f j≤65535+65535*65535)
  (by
   rintro s ⟨k,f,rfl,hk,hv,hf,hf2⟩
   dsimp only[iC]
   rw[eP,bL,cy,cy,cy]
   by_cases hkm:k<m
   ·left
    have eik:i64.wrap ((i:Int)+(k:Int))=((i+k:Nat):Int):=by rw[cb];omega
    have hb:=@jO B k
    have ya:dg 65536 A i*dg 65536 B k≤65535*65535:=pC (by omega) (by omega)
    have hfk:=hf2 (i+k) (aL _)
    rw[bw _ _,eik,aJ,aJ,aJ,aJ,ab,bL,bL,bL,oR (by omega),oR hi,oR hkm,←oa,cb (z:=((dg 65536 A i*dg 65536 B k:Nat):Int)) (by omega),←kw,cb (z:=((f (i+k)+dg 65536 A i*dg 65536 B k:Nat):Int)) (by omega),HX,cb]
    have e:lF (n+m+1) (fun j=>if j=i+k then f (i+k)+dg 65536 A i*dg 65536 B k else f j)=lF (n+m+1) (fun j=>if j=i+k then f j+dg 65536 A i*dg 65536 B k else f j):=rV fun j _=>by
     by_cases h:j=i+k
     ·rw[az h,az h,h]
     ·rw[ay h,ay h]
    refine⟨_,rfl,⟨k+1,(fun j=>if j=i+k then f j+dg 65536 A i*dg 65536 B k else f j),by rw[e];rfl,by omega,?_,fun j=>?_,fun j hj=>?_⟩,by show m - ((k:Int)+1).toNat<m - (k:Int).toNat;omega⟩
    ·rw[FB _ (by omega),hv,ge,ss,bj,gA]
     simp only[eU,yz,cj,l4]
    ·dsimp only
     by_cases h:j=i+k
     ·rw[az h,h];omega
     ·rw[ay h];exact hf j
    ·dsimp only
     rw[ifn_];exact hf2 j (by omega)
   ·right
    obtain rfl:k=m:=by omega
    refine⟨_,by rw[bx _ _],f,rfl,?_,hf⟩
    rw[hv,dJ hB])
  ((0:Int),dk (n+m+1) R) ⟨0,dg 65536 R,rfl,dZ _,by rw[Jk,fE,lZ,EP,fj,dJ hR,mf],fun j=>by have:=@jO R j;omega,fun j _=>by have:=@jO R j;omega⟩
 exact⟨f,hl,h1,h2⟩
theorem Hv {n m A B:Nat}(hn:n<1000)(hm:m<1000){f:Nat→Nat}(hf:∀j,f j≤65535+65535*65535):
  a7 (fS (dk n A) (dk m B)) ((0:Int),(0:Int),lF (n+m+1) f)=some (dk (n+m+1) (fP 65536 f (n+m+1))):=by
 have eP:i64.wrap ((i64.wrap (((dk n A).length:Int)+((dk m B).length:Int)))+(1:Int))=((n+m+1:Nat):Int):=by
  rw[cy,cy,cb (z:=(n:Int)+(m:Int)) (by omega),cb];omega
 have hl:=pX (b:=fS (dk n A) (dk m B)) (s0:=((0:Int),(0:Int),lF (n+m+1) f)) (fun k=>(((fP 65536 f k / 65536 ^ k:Nat):Int),(k:Int),lF (n+m+1) (fun j=>if j<k then dg 65536 (fP 65536 f (n+m+1)) j else f j))) (n+m+1) (lF (n+m+1) (fun j=>if j<n+m+1 then dg 65536 (fP 65536 f (n+m+1)) j else f j))
  (by
   rw[show fP 65536 f 0 / 65536 ^ 0=0 from by simp[fP],rV (n:=n+m+1) (f:=fun j=>if j<0 then dg 65536 (fP 65536 f (n+m+1)) j else f j) (g:=f) fun j _=>ifn_]
   rfl)
  (fun k hk=>by
   obtain⟨h1,h2⟩:=K8 (b:=65536) (f:=f) (n:=n+m+1) (k:=k) (by decide) hk
   have hc:fP 65536 f k / 65536 ^ k≤65535+65535*65535:=by
    have:=Jj (b:=65536) (f:=f) (by decide) k fun j _=>hf j
    exact Nat.div_le_of_le_mul (by rw[cj];exact this)
   have hfk:=hf k
   generalize fP 65536 f k / 65536 ^ k=c at h1 h2 hc ⊢
   generalize fP 65536 f (k+1) / 65536 ^ (k+1)=c' at h2 ⊢
   dsimp only[fS]
   rw[eP,bL,cy,bw _ _,aJ,ab,aJ,bL,oR hk,ay (Bj _),←kw,ls (f k),cb (z:=((c+f k:Nat):Int)) (by omega),show (65536:Int)=((65536:Nat):Int) from rfl,←qV,←qW,h1,h2,cb (z:=(c':Int)) (by omega),cb,HX]
   have e:lF (n+m+1) (fun j=>if j=k then dg 65536 (fP 65536 f (n+m+1)) k else if j<k then dg 65536 (fP 65536 f (n+m+1)) j else f j)=lF (n+m+1) (fun j=>if j<k+1 then dg 65536 (fP 65536 f (n+m+1)) j else f j):=rV fun j _=>by
    by_cases h:j=k
    ·rw[az h,ifp_,h]
    ·rw[ay h]
     by_cases h3:j<k
     ·rw[az h3,ifp_]
     ·rw[ay h3,ifn_]
   rw[e]
   rfl)
  (by
   dsimp only[fS]
   rw[eP,bL,bx _ _])
 rw[hl]
 congr 1
 exact rV fun j hj=>az hj
theorem Pz {n m A B:Nat}(hA:A<65536 ^ n)(hB:B<65536 ^ m)(hn:n<1000)(hm:m<1000):ma (dk n A) (dk m B)=some (dl (A*B)):=by
 have eP:i64.wrap ((i64.wrap (((dk n A).length:Int)+((dk m B).length:Int)))+(1:Int))=((n+m+1:Nat):Int):=by
  rw[cy,cy,cb (z:=(n:Int)+(m:Int)) (by omega),cb];omega
 have hbnd:∀i,A % 65536 ^ i*B<65536 ^ (n+m+1):=fun i=>by
  have h1:A % 65536 ^ i*B≤A*B:=cg _ (Nat.mod_le _ _)
  have h2:A*B<65536 ^ n*65536 ^ m:=yw hA hB
  have h3:65536 ^ n*65536 ^ m≤65536 ^ (n+m+1):=by rw[←gA];exact ib (by decide) (by omega)
  omega
 have hl:=pX (b:=jf (dk n A) (dk m B)) (s0:=((0:Int),List.replicate (n+m+1) (0:Int))) (fun i=>((i:Int),dk (n+m+1) (A % 65536 ^ i*B))) n (dk (n+m+1) (A % 65536 ^ n*B))
  (by
   rw[M7,fE,lZ,fj]
   have:dk (n+m+1) 0=lF (n+m+1) (fun _=>0):=rV fun j _=>by unfold dg;simp
   rw[this];rfl)
  (fun i hi=>by
   obtain⟨f,h1,h2,h3⟩:=KW (A:=A) (i:=i) hi hn hm hB (hbnd i)
   dsimp only[jf]
   rw[cy,bw _ _,h1,ab,Hv hn hm h3,ab,h2,cb,ge,bj]
   have:65536 ^ i*dg 65536 A i*B=dg 65536 A i*B*65536 ^ i:=by simp only[eU,yz,cj]
   rw[this]
   rfl)
  (by
   dsimp only[jf]
   rw[cy,bx _ _])
 unfold ma
 rw[eP,aJ,bL,hl,ab,cy,aJ rfl,dJ hA,vP (by have:=hbnd n;rwa[dJ hA] at this) (by omega),ab]
end
theorem dg_cons {R d i:Nat}(hd:d<65536):dg 65536 (R*65536+d) (i+1)=dg 65536 R i:=by
 have e:(R*65536+d) / 65536=R:=by omega
 unfold dg
 rw[eF,cj (65536 ^ i),←f9,e]
theorem G_at {n A k:Nat}(hA:A<65536 ^ n):gT (dk n A) (k:Int)=some ((dg 65536 A k:Nat):Int):=by
 unfold gT
 rw[bx _ _,sA hA,ab]
theorem PC {l:List Int}{k:Int}(h:k<0):gT l k=some 0:=by
 unfold gT
 rw[bw _ _ h]
def wu(A:Nat)(m:Nat):Nat:=if m<2 then 0 else dg 65536 A (m - 2)
theorem JK {A m:Nat}:wu A m<65536:=by
 unfold wu;split
 ·omega
 ·exact jO
theorem G_at2 {n A m:Nat}(hA:A<65536 ^ n)(hm:0<m)(hm2:m<100000):gT (dk n A) (i64.wrap ((m:Int) - (2:Int)))=some ((wu A m:Nat):Int):=by
 unfold wu
 rw[cb]
 by_cases h:m<2
 ·rw[az h,PC (by omega)];rfl
 ·rw[ay h,show (m:Int) - 2=((m - 2:Nat):Int) from by omega,G_at hA]
def Iw(x0 x1 x2:Nat):Nat:=x0*4294967296+x1*65536+x2
theorem Lx {x0 x1 x2:Nat}(h0:x0<65536)(h1:x1<65536)(h2:x2<65536):i64.wrap ((i64.wrap ((i64.wrap ((x0:Int)*(4294967296:Int)))+(i64.wrap ((x1:Int)*(65536:Int)))))+(x2:Int))=((Iw x0 x1 x2:Nat):Int):=by
 unfold Iw
 rw[cb (z:=(x0:Int)*(4294967296:Int)) (by omega),cb (z:=(x1:Int)*(65536:Int)) (by omega),cb (z:=(x0:Int)*4294967296+(x1:Int)*65536) (by omega),cb]
 omega
theorem est3_lt {x0 x1 x2:Nat}(h0:x0<65536)(h1:x1<65536)(h2:x2<65536):Iw x0 x1 x2<281474976710656:=by
 unfold Iw;omega
theorem quo_w {S T:Nat}(h:S<281474976710656):i64.wrap (Int.tdiv (S:Int) (T:Int))=((S / T:Nat):Int):=by
 have:=tH S T
 rw[←qW]
 generalize S / T=q at this ⊢
 rw[cb]
theorem min_w {e:Nat}:min (65535:Int) (e:Int)=((min 65535 e:Nat):Int):=by omega
theorem est_ge {X B m:Nat}(hm:0<m)(hB:B<65536 ^ m)(hB1:65536 ^ (m - 1)≤B)(hX:X<B*65536):
  X / B≤Iw (dg 65536 X m) (dg 65536 X (m - 1)) (wu X m) / (dg 65536 B (m - 1)*65536+wu B m):=by
 unfold Iw
 have Gz:0<B:=bT (cJ (by decide)) hB1
 have hXm:X<65536 ^ (m+1):=by
  rw[eF];exact bT hX (cg _ (kz hB))
 by_cases h:m<2
 ·obtain rfl:m=1:=by omega
  have eX:X=dg 65536 X 1*65536+dg 65536 X 0:=by
   have:=cm (b:=65536) (A:=X) (k:=0)
   rw[fE,mB] at this
   have e2:=cm (b:=65536) (A:=X) (k:=1)
   rw[dt hXm,fj,br] at e2
   rw[←e2];exact this
  have eB:B=dg 65536 B 0:=by
   have:=cm (b:=65536) (A:=B) (k:=0)
   rw[fE,mB,dt hB,fj,br] at this
   exact this
  unfold wu
  rw[ifp_,ifp_,mf,mf,show 1 - 1=0 from rfl,←eB]
  have:dg 65536 X 1*4294967296+dg 65536 X 0*65536=X*65536:=by omega
  rw[this,Nat.mul_div_mul_right _ _ (by decide)]
  exact aL _
 ·obtain⟨p,rfl⟩:∃p,m=p+2:=⟨m - 2,by omega⟩
  have hp:0<65536 ^ p:=cJ (by decide)
  have eX:X / 65536 ^ p=dg 65536 X (p+2)*4294967296+dg 65536 X (p+1)*65536+dg 65536 X p:=by
   have e0:=cm (b:=65536) (A:=X) (k:=p)
   have e1:=cm (b:=65536) (A:=X) (k:=p+1)
   have e2:=cm (b:=65536) (A:=X) (k:=p+2)
   rw[dt hXm,fj,br] at e2
   rw[e0,e1,show p+1+1=p+2 from rfl,e2,bj,eU]
  have eB:B / 65536 ^ p=dg 65536 B (p+1)*65536+dg 65536 B p:=by
   have e0:=cm (b:=65536) (A:=B) (k:=p)
   have e1:=cm (b:=65536) (A:=B) (k:=p+1)
   rw[dt hB,fj,br] at e1
   rw[e0,e1]
  unfold wu
  rw[ay h,ay h,show p+2 - 2=p from rfl,show p+2 - 1=p+1 from rfl,←eX,←eB]
  have hT:0<B / 65536 ^ p:=by
   refine BB (cU ?_ hB1) hp
   exact ib (by decide) (by omega)
  rw[n9 hT,n9 hp,eU]
  refine cU (tI _ (I7 _ _)) ?_
  rw[cj]
  exact Nat.mul_div_le _ _
theorem Gc {X B d:Nat}(hB:0<B):X<B*d↔X / B<d:=by
 rw[nR hB,cj]
theorem Ou {X B m:Nat}(hm:m<900)(hB:B<65536 ^ m)(Gz:0<B)(hXs:sz6 X≤m+1)(d:Nat)(hd:X / B≤d)(Gr:d≤65535):
  a7 (gR (dk m B) (dl X)) ((d:Int),dl (B*d))=some (((X / B:Nat):Int),dl (B*(X / B))):=by
 obtain⟨x,hl,hx⟩:=uD (b:=gR (dk m B) (dl X)) (fun s=>∃d:Nat,s=((d:Int),dl (B*d))∧X / B≤d∧d≤65535) (fun s=>s.1.toNat) (fun x=>x=(((X / B:Nat):Int),dl (B*(X / B))))
  (by
   rintro s ⟨d,rfl,h1,h2⟩
   have hBd:B*d<65536 ^ (m+1):=by
    rw[eF];exact Nat.mul_lt_mul_of_lt_of_le hB (by omega) (by decide)
   have hsz:=qP hBd
   dsimp only[gR]
   rw[G_dless (jH X) (jH (B*d)) (by omega) (by omega),ab]
   by_cases bF:X<B*d
   ·left
    have h3:=(Gc Gz).1 bF
    have Ea:0<d:=fb (dZ _) h3
    have h4:B≤B*d:=yq _ Ea
    refine⟨_,by rw[bw _ _ bF,Hg (jH (B*d)) hB (by omega) h4,ab,cb],⟨d - 1,?_,by omega,by omega⟩,?_⟩
    ·rw[Nat.mul_sub,sr]
     congr 1
     omega
    ·show ((d:Int) - 1).toNat<((d:Nat):Int).toNat
     omega
   ·right
    have h3:=mt (Gc Gz).2 bF
    obtain rfl:d=X / B:=by omega
    exact⟨_,by rw[bx _ _ bF],rfl⟩) ((d:Int),dl (B*d)) ⟨d,rfl,hd,Gr⟩
 rw[hl,hx]
set_option maxRecDepth 10000 in
theorem PA {A B:Nat}(hA:sz6 A<800)(hBs:sz6 B<800)(Gz:0<B):jh (dl A) (dl B)=some (dl (A / B),dl (A % B)):=by
 obtain⟨m,hm⟩:∃m,m=sz6 B:=⟨_,rfl⟩
 obtain⟨n,hn⟩:∃n,n=sz6 A:=⟨_,rfl⟩
 have hB:=jH B
 have hB1:=(wb B).2 (zK Gz)
 have hm0:=zK Gz
 have hAn:=jH A
 show jh (dk (sz6 A) A) (dk (sz6 B) B)=_
 rw[←hm] at hB hB1 hm0 hBs ⊢
 rw[←hn] at hAn hA ⊢
 have cH:1≤dg 65536 B (m - 1):=by
  have:=cm (b:=65536) (A:=B) (k:=m - 1)
  rw[show m - 1+1=m from by omega,dt hB,fj,br] at this
  rw[←this]
  exact (n9 (cJ (by decide))).2 (by rw[de];exact hB1)
 have hbl:=@jO B (m - 1)
 have hll:=@JK B m
 have em1:i64.wrap ((m:Int) - (1:Int))=((m - 1:Nat):Int):=by rw[cb];omega
 have hm5:m<100000:=by omega
 have htop:((dg 65536 B (m - 1)*65536+wu B m:Nat):Int)≠0:=by omega
 have hl:=M3 (b:=gS (dk n A) (dk m B) ((dg 65536 B (m - 1)*65536+wu B m:Nat):Int)) (s0:=(([]:List Int),(n:Int) - 1,List.replicate n (0:Int))) (fun k=>(dl (A / 65536 ^ k % B),(k:Int) - 1,lF n (fun j=>if k≤j then dg 65536 (A / B) j else 0))) n (dl (A / 65536 ^ 0 % B),lF n (fun j=>if 0≤j then dg 65536 (A / B) j else 0))
  (by
   rw[dt hAn,Nat.zero_mod,dl_zero,M7]
   congr 2
   exact rV fun j hj=>ifn_)
  (fun k hk=>by
   obtain⟨h1,h2⟩:=uY (b:=65536) (A:=A) (k:=k) (d:=B) (by decide) Gz
   have hr:=dv (A / 65536 ^ (k+1)) Gz
   have ha:=@jO A k
   generalize A / 65536 ^ (k+1) % B=R at h1 h2 hr ⊢
   generalize A / 65536 ^ k % B=R' at h2 ⊢
   have hX:R*65536+dg 65536 A k<B*65536:=by
    have:(R+1)*65536≤B*65536:=cg _ hr
    omega
   have hRs:sz6 R≤m:=qP (by omega)
   have hXm:R*65536+dg 65536 A k<65536 ^ (m+1):=by
    rw[eF];exact bT hX (cg _ (kz hB))
   have hXs:=qP hXm
   have hcons:[(dg 65536 A k:Int)]++dl R=dk (sz6 R+1) (R*65536+dg 65536 A k):=by
    unfold dl
    rw[lF_cons]
    exact rV fun j hj=>by
     by_cases hj0:j=0
     ·subst hj0
      rw[az rfl]
      unfold dg
      rw[fE,mB]
      have:=@jO A k
      unfold dg at this
      omega
     ·rw[ay hj0]
      obtain⟨i,rfl⟩:∃i,j=i+1:=⟨j - 1,by omega⟩
      exact (dg_cons ha).symm
   have hXlt:R*65536+dg 65536 A k<65536 ^ (sz6 R+1):=by
    have:=jH R
    rw[eF]
    have h3:(R+1)*65536≤65536 ^ sz6 R*65536:=cg _ this
    rw[bj,de] at h3
    exact bT (tJ ha _) h3
   have hszR:sz6 R+1<1000:=by
    have:=fb hRs hBs
    exact bT (Nat.succ_lt_succ this) (by decide)
   have ei:((k+1:Nat):Int) - 1=(k:Int):=by omega
   have Ll:=est_ge hm0 hB hB1 hX
   have d1:=@jO (R*65536+dg 65536 A k) m
   have d2:=@jO (R*65536+dg 65536 A k) (m - 1)
   have d3:=@JK (R*65536+dg 65536 A k) m
   have hqk:(R*65536+dg 65536 A k) / B<65536:=(nR Gz).2 (by rw[cj 65536 B];exact hX)
   dsimp only[gS]
   rw[ei,bw _ _ (EH k)]
   rw[cy,cy,cy]
   rw[aJ (show (0:Int)≤(k:Int)∧(k:Int)<(n:Int) from⟨EH k,Int.ofNat_lt.2 hk⟩)]
   rw[bL,bL]
   rw[oR hk,hcons,cy]
   rw[aJ (show (sz6 R+1)*8≤140737488355328 from cU (cg _ (kz hszR)) (by decide))]
   rw[vP hXlt (yu hszR (by decide)),ab,G_at (jH _),ab]
   rw[show i64.wrap ((m:Int) - (1:Int))=((m - 1:Nat):Int) from em1,G_at (jH _),ab,G_at2 (jH _) hm0 hm5,ab,aJ htop]
   obtain⟨X,hX2⟩:∃X,X=R*65536+dg 65536 A k:=⟨_,rfl⟩
   rw[←hX2] at h1 h2 hX hXm hXs hXlt Ll d1 d2 d3 hqk ⊢
   generalize dg 65536 X m=x0 at Ll d1 ⊢
   generalize dg 65536 X (m - 1)=x1 at Ll d2 ⊢
   generalize wu X m=x2 at Ll d3 ⊢
   have hS:=est3_lt d1 d2 d3
   rw[Lx d1 d2 d3,quo_w hS]
   generalize Iw x0 x1 x2 / (dg 65536 B (m - 1)*65536+wu B m)=e at Ll ⊢
   have LY:X / B≤min 65535 e:=Nat.le_min.2 ⟨Nat.le_of_lt_succ hqk,Ll⟩
   have Gr:min 65535 e≤65535:=Nat.min_le_left ..
   rw[min_w,ab]
   generalize min 65535 e=d at LY Gr ⊢
   have e1:[(d:Int)]=dk 1 d:=by
    show _=lF 1 _
    unfold lF dg
    simp only[List.range_one,cp,dh,fE,mB]
    rw[dJ (by omega)]
   have hmul:B*(X / B)≤X:=Nat.mul_div_le _ _
   have hms:sz6 (B*(X / B))≤m+1:=qP (by omega)
   rw[e1,Pz hB (by rw[tK];omega) (by omega) (by omega),ab,Ou (by omega) hB Gz hXs d LY Gr,ab]
   dsimp only
   rw[aJ,Hg (jH X) (jH _) (by omega) hmul,ab,cb,HX]
   have em:X - B*(X / B)=X % B:=by have:=nQ X B;omega
   rw[em,h2,h1]
   have ef:lF n (fun j=>if j=k then dg 65536 (A / B) k else if k+1≤j then dg 65536 (A / B) j else 0)=lF n (fun j=>if k≤j then dg 65536 (A / B) j else 0):=rV fun j _=>by
    by_cases h:j=k
    ·rw[az h,ifp_,h]
    ·rw[ay h]
     by_cases h3:k+1≤j
     ·rw[az h3,ifp_]
     ·rw[ay h3,ifn_]
   rw[ef])
  (by
   dsimp only[gS]
   rw[bx _ _])
 have hq:A / B<65536 ^ n:=fb (tH _ _) hAn
 unfold jh
 rw[cy,cy,aJ,show i64.wrap ((m:Int) - (1:Int))=((m - 1:Nat):Int) from by rw[cb];omega,aJ,G_at2 hB hm0 (by omega),ab,bL,bL,oR (by omega),cb (z:=(dg 65536 B (m - 1):Int)*65536) (by omega),cb,ab,cb,ab,show (dg 65536 B (m - 1):Int)*65536+(wu B m:Int)=((dg 65536 B (m - 1)*65536+wu B m:Nat):Int) from by omega,hl,ab]
 dsimp only
 rw[cy,aJ rfl,rV (n:=n) (f:=fun j=>if 0≤j then dg 65536 (A / B) j else 0) (g:=dg 65536 (A / B)) fun j _=>az (dZ _),vP hq (by omega),ab,fE,mB]
theorem LIM6:LIM=65536 ^ 32:=by decide +kernel
theorem Ke {A k:Nat}:dg 4294967296 A k=dg 65536 A (2*k+1)*65536+dg 65536 A (2*k):=by
 have e:(4294967296:Nat) ^ k=65536 ^ (2*k):=by rw[Df]
 unfold dg
 rw[e,eF,←f9]
 omega
theorem PB {x:aq}{A:Nat}(hx:x.vW=W A)(hA:A<LIM):d7 x=some (dl A):=by
 have hl:=pX (b:=iE x) (s0:=(([]:List Int),(0:Int))) (fun k=>(dk (2*k) A,(k:Int))) 16 (dk 32 A)
  (by rfl)
  (fun k hk=>by
   have hp:=Ke (A:=A) (k:=k)
   have h0:=@jO A (2*k)
   have h1:=@jO A (2*k+1)
   dsimp only[iE]
   rw[bw _ _,aJ,aJ,hx,bL,fX hk]
   have e1:i64.wrap (Int.tmod (dg 4294967296 A k:Int) (65536:Int))=(dg 65536 A (2*k):Int):=by
    rw[show (65536:Int)=((65536:Nat):Int) from rfl,←qV,cb];omega
   have e2:i64.wrap (u32.wrap (Int.tdiv (dg 4294967296 A k:Int) (65536:Int)))=(dg 65536 A (2*k+1):Int):=by
    rw[show (65536:Int)=((65536:Nat):Int) from rfl,←qW,xq,cb];omega
   rw[e1,e2,show dk (2*k) A++[(dg 65536 A (2*k):Int),(dg 65536 A (2*k+1):Int)]=(dk (2*k) A++[(dg 65536 A (2*k):Int)])++[(dg 65536 A (2*k+1):Int)] from by rw[dP];rfl,wv,wv,cy,aJ,cb]
   rfl)
  (by
   dsimp only[iE]
   rw[bx _ _])
 unfold d7
 rw[hl,ab,vP (by rw[←LIM6];exact hA) (by decide),ab]
theorem Pp:lj=some GT:=by unfold lj;rw[r16];rfl
theorem MQ {n A:Nat}(hn:n≤32)(neg:Bool):
  a7 (fx (dk n A)) ((0:Int),(⟨false,neg,W 0⟩:aq))=some (⟨false,neg,W (A % 65536 ^ n)⟩:aq):=by
 have hb:0<(4294967296:Nat):=by decide
 have hl:=pX (b:=fx (dk n A)) (s0:=((0:Int),(⟨false,neg,W 0⟩:aq))) (fun k=>((k:Int),(⟨false,neg,W (A % 65536 ^ k)⟩:aq))) n (⟨false,neg,W (A % 65536 ^ n)⟩:aq)
  (by rw[fE,lZ];rfl)
  (fun k hk=>by
   have h0:=@jO A k
   have bF:A % 65536 ^ k<65536 ^ k:=dv _ (cJ (by decide))
   have hdiv:i64.wrap (Int.tdiv (k:Int) (2:Int))=((k / 2:Nat):Int):=by
    rw[show (2:Int)=((2:Nat):Int) from rfl,←qW,cb]
   have e1:=Ke (A:=A % 65536 ^ k) (k:=k / 2)
   have hu:=fun x:Nat=>Hu (b:=4294967296) (A:=A % 65536 ^ k) (p:=k / 2) (x:=x)
   dsimp only[fx]
   rw[cy,bw _ _,hdiv,aJ,aJ,aJ,ab,aJ,aJ,aJ,ab,bL,bL,fX (by omega),oR hk,show (2:Int)=((2:Nat):Int) from rfl,←qV,xq (n:=dg 65536 A k) (by omega),i5]
   have qZ:A % 65536 ^ (k+1)=A % 65536 ^ k+65536 ^ k*dg 65536 A k:=ge
   have hpow:(4294967296:Nat) ^ (k / 2)=65536 ^ (2*(k / 2)):=by rw[Df]
   by_cases he:k % 2=0
   ·have xW:2*(k / 2)=k:=by omega
    have d0:dg 4294967296 (A % 65536 ^ k) (k / 2)=0:=by
     rw[e1,xW,kI bF,kI (bT bF (ib (by decide) (by omega)))]
    rw[ifp_,ab,d0,←kw,xq,xo hb (by omega) (by omega),cb]
    have:=hu (0+dg 65536 A k)
    rw[d0,hpow,xW] at this
    rw[fj,mf,br] at this
    rw[show up1 4294967296 (A % 65536 ^ k) (k / 2) (0+dg 65536 A k)=A % 65536 ^ (k+1) from by rw[qZ,cj (65536 ^ k),br];exact this]
    rfl
   ·have xW:2*(k / 2)+1=k:=by omega
    have d1:dg 4294967296 (A % 65536 ^ k) (k / 2)=dg 65536 A (2*(k / 2)):=by
     rw[e1,xW,kI bF,fj,br,mw (by omega)]
    have h2:=@jO A (2*(k / 2))
    rw[ifn_,ab,d1,show ((dg 65536 A k:Nat):Int)*(65536:Int)=((dg 65536 A k*65536:Nat):Int) from by omega,xq (n:=dg 65536 A k*65536) (by omega),←kw,xq,xo hb (by omega) (by omega),cb]
    have:=hu (dg 65536 A (2*(k / 2))+dg 65536 A k*65536)
    rw[d1,hpow,bj] at this
    have bG:65536 ^ (2*(k / 2))*65536=(65536:Nat) ^ k:=by rw[←eF];exact congrArg _ xW
    have e3:dg 65536 A k*65536*65536 ^ (2*(k / 2))=65536 ^ k*dg 65536 A k:=by
     rw[eU,cj 65536,bG,cj]
    rw[e3,Nat.add_left_comm,ls] at this
    have hfin:=Nat.add_left_cancel this
    rw[show up1 4294967296 (A % 65536 ^ k) (k / 2) (dg 65536 A (2*(k / 2))+dg 65536 A k*65536)=A % 65536 ^ (k+1) from by rw[qZ];exact hfin]
    rfl)
  (by
   dsimp only[fx]
   rw[cy,bx _ _])
 exact hl
theorem BY {n A:Nat}(hA:A<65536 ^ n)(hn:n<100000)(neg:Bool):eO neg (dk n A)=some (enc (bif neg then -(A:Int) else (A:Int))):=by
 have hiff:32<sz6 A↔¬A<LIM:=by
  rw[LIM6]
  constructor
  ·intro h h2
   have:=qP h2;omega
  ·intro h
   rcases ci 32 (sz6 A) with h1|h1
   ·exact h1
   ·exact absurd (bT (jH A) (ib (by decide) h1)) h
 have ya:(bif neg then -(A:Int) else (A:Int)).natAbs=A:=by cases neg <;> simp
 unfold eO
 rw[vP hA (by omega),ab,Ix,r16]
 by_cases h:32<sz6 A
 ·rw[bw _ _,Pp,ab,A4 (by rw[ya];exact hiff.1 h)]
 ·have hAL:A<LIM:=Decidable.byContradiction fun h2=>h (hiff.2 h2)
  have hneg:decide ((0:Int)<((sz6 A:Nat):Int))= !decide (A=0):=by
   rw[←decide_not]
   refine mA.2 ?_
   constructor
   ·intro h3 h4;subst h4;rw[Ad] at h3;omega
   ·intro h3;have:=zK (sm h3);omega
  have hsel:(cnd neg (bnd (some ((⟨false,decide ((0:Int)<((sz6 A:Nat):Int)),W 0⟩:aq))) fun x7=>some (x7)) (some ((⟨false,false,W 0⟩:aq))))=some (⟨false,neg&&!decide (A=0),W 0⟩:aq):=by
   rw[ab,hneg]
   cases neg <;> rfl
  rw[bx _ _,hsel,ab,MQ (by omega),ab,dJ (jH A),Om hAL]
theorem zeroW {v:Vector Int 16}:(∀j:Nat,j<16→v[j]! =0)↔v=W 0:=by
 constructor
 ·intro h
  apply m4
  intro j hj
  rw[h j hj,fX hj]
  unfold dg;simp
 ·rintro rfl j hj
  rw[fX hj]
  unfold dg;simp
theorem lM(x:aq):da x=some (dm x):=by
 have hl:=pX (b:=ji x) (s0:=(true,(0:Int))) (fun k=>(decide (∀j:Nat,j<k→x.vW[j]! =0),(k:Int))) 16 (decide (∀j:Nat,j<16→x.vW[j]! =0))
  (by
   rw[dU (p:=∀j:Nat,j<0→x.vW[j]! =0) (fun j hj=>by omega)]
   rfl)
  (fun k hk=>by
   dsimp only[ji]
   rw[bw _ _,aJ,bL,cnd_and,ab,cb,←Bool.decide_and]
   have:((∀j:Nat,j<k→x.vW[j]! =0)∧x.vW[k]! =0)↔∀j:Nat,j<k+1→x.vW[j]! =0:=by
    constructor
    ·rintro⟨h1,h2⟩ j hj
     by_cases h:j=k
     ·rw[h];exact h2
     ·exact h1 j (by omega)
    ·intro h
     exact⟨fun j hj=>h j (by omega),h k (by omega)⟩
   rw[mA.2 this]
   rfl)
  (by
   dsimp only[ji]
   rw[bx _ _])
 have hz:decide (∀j:Nat,j<16→x.vW[j]! =0)=decide (x.vW=W 0):=mA.2 zeroW
 unfold da oh dm
 rw[hl,ab,hz]
 cases x.vBad <;> cases decide (x.vW=W 0) <;> cases x.vNeg <;> rfl
theorem JU {A:Nat}(hA:A<LIM)(h:∀j,2≤j→j<16→dg 4294967296 A j=0):A / 4294967296 ^ 2=0:=by
 have key:∀d,d≤14→A / 4294967296 ^ (16 - d)=0:=by
  intro d
  induction d with
  |zero=>intro _;exact dt hA
  |succ d ih=>
   intro hd
   have h1:=ih (by omega)
   have h2:=cm (b:=4294967296) (A:=A) (k:=16 - (d+1))
   rw[show 16 - (d+1)+1=16 - d from by omega,h1,fj,br,h _ (by omega) (by omega)] at h2
   exact h2
 exact key 14 (aL _)
structure uR(a:Int):Prop where
 h:a.natAbs<4611686018427387904
instance(a:Int):Decidable (uR a):=decidable_of_iff (a.natAbs<4611686018427387904) ⟨fun h=>⟨h⟩,fun h=>h.h⟩
theorem L5 {A:Nat}(hA:A<LIM):A<4611686018427387904↔dg 4294967296 A 1<1073741824∧∀j,2≤j→j<16→dg 4294967296 A j=0:=by
 constructor
 ·intro h
  refine⟨?_,fun j h1 _=>kI (bT h ?_)⟩
  ·unfold dg;rw[tK];omega
  ·exact cU (by decide:4611686018427387904≤4294967296 ^ 2) (ib (by decide) h1)
 ·rintro⟨h1,h2⟩
  have h3:=JU hA h2
  have h4:=cm (b:=4294967296) (A:=A) (k:=1)
  rw[show 1+1=2 from rfl,h3,fj,br,tK] at h4
  omega
theorem Pm {a:Int}(ha:a.natAbs<LIM):lG (enc a)=some (if uR a then (a,true) else (0,false)):=by
 have hwi:=L5 ha
 obtain⟨x,hl,hx⟩:=uD (b:=lE (enc a)) (fun s=>∃k:Nat,s=(k:Int)∧2≤k∧k≤16∧∀j,2≤j→j<k→dg 4294967296 a.natAbs j=0) (fun s=>16 - s.toNat) (fun x=>match x with| .inl r=>r=((0:Int),false)∧¬(∀j,2≤j→j<16→dg 4294967296 a.natAbs j=0)| .inr _=>∀j,2≤j→j<16→dg 4294967296 a.natAbs j=0)
  (by
   rintro s ⟨k,rfl,xW,hk,hz⟩
   dsimp only[lE]
   rw[lO ha]
   by_cases h16:k<16
   ·rw[bw _ _,aJ,bL,fX h16]
    by_cases hd:dg 4294967296 a.natAbs k=0
    ·left
     refine⟨((k+1:Nat):Int),by rw[bx _ _,cb];rfl,⟨k+1,rfl,by omega,by omega,fun j h1 h2=>?_⟩,by omega⟩
     by_cases h:j=k
     ·rw[h];exact hd
     ·exact hz j h1 (by omega)
    ·right
     refine⟨(Sum.inl ((0:Int),false):(Int×Bool)⊕Unit),by rw[bw _ _],rfl,fun h=>hd (h k xW h16)⟩
   ·right
    refine⟨(Sum.inr ():(Int×Bool)⊕Unit),by rw[bx _ _],?_⟩
    obtain rfl:k=16:=by omega
    exact hz) (2:Int) ⟨2,rfl,by omega,by omega,fun j h1 h2=>by omega⟩
 have e1:(W a.natAbs)[((1:Int)).toNat]! =(dg 4294967296 a.natAbs 1:Int):=fX (by decide)
 have e0:(W a.natAbs)[((0:Int)).toNat]! =(dg 4294967296 a.natAbs 0:Int):=fX (by decide)
 have d0:=@dgl a.natAbs 0
 unfold lG
 rw[lM,bN ha,ab,ej,a9,ab,lO ha,e1,e0,nr ha]
 by_cases h1:dg 4294967296 a.natAbs 1<1073741824
 ·rw[bx _ _,hl,ab]
  cases x with
  |inl r=>
   obtain⟨rfl,h2⟩:=hx
   have:¬uR a:=fun h=>h2 (hwi.1 h.h).2
   rw[ay this]
  |inr u=>
   have h2:uR a:=⟨hwi.2 ⟨h1,hx⟩⟩
   have h3:=JU ha hx
   have h4:=cm (b:=4294967296) (A:=a.natAbs) (k:=1)
   rw[show 1+1=2 from rfl,h3,fj,br,tK] at h4
   have h5:dg 4294967296 a.natAbs 0=a.natAbs % 4294967296:=by unfold dg;rw[fE,mB]
   have h6:(dg 4294967296 a.natAbs 1:Int)*4294967296+(dg 4294967296 a.natAbs 0:Int)=(a.natAbs:Int):=by omega
   have h7:=h2.h
   dsimp only
   rw[cb (z:=(dg 4294967296 a.natAbs 1:Int)) (by omega),cb (z:=(dg 4294967296 a.natAbs 1:Int)*4294967296) (by omega),cb (z:=(dg 4294967296 a.natAbs 0:Int)) (by omega),h6,cb (z:=(a.natAbs:Int)) (by omega),ab,i5,az h2]
   by_cases hn:a<0
   ·rw[az hn,cb,show (0:Int) - (a.natAbs:Int)=a from by omega]
   ·rw[ay hn,show (a.natAbs:Int)=a from by omega]
 ·have:¬uR a:=fun h=>h1 (hwi.1 h.h).1
  rw[bw _ _,ay this]
theorem dk4 {N:Nat}:dk 4 N=[(dg 65536 N 0:Int),(dg 65536 N 1:Int),(dg 65536 N 2:Int),(dg 65536 N 3:Int)]:=rfl
theorem of4 {N:Nat}(hN:N<9223372036854775808):[Int.tmod (N:Int) (65536:Int),Int.tmod (i64.wrap (Int.tdiv (N:Int) (65536:Int))) (65536:Int),Int.tmod (i64.wrap (Int.tdiv (N:Int) (4294967296:Int))) (65536:Int),i64.wrap (Int.tdiv (N:Int) (281474976710656:Int))]=dk 4 N:=by
 have e1:i64.wrap (Int.tdiv (N:Int) (65536:Int))=((N / 65536:Nat):Int):=by
  rw[show (65536:Int)=((65536:Nat):Int) from rfl,←qW,cb]
 have e2:i64.wrap (Int.tdiv (N:Int) (4294967296:Int))=((N / 4294967296:Nat):Int):=by
  rw[show (4294967296:Int)=((4294967296:Nat):Int) from rfl,←qW,cb]
 have e3:i64.wrap (Int.tdiv (N:Int) (281474976710656:Int))=((N / 281474976710656:Nat):Int):=by
  rw[show (281474976710656:Int)=((281474976710656:Nat):Int) from rfl,←qW,cb]
 rw[e1,e2,e3,dk4,show (65536:Int)=((65536:Nat):Int) from rfl,←qV,←qV,←qV]
 have d0:dg 65536 N 0=N % 65536:=by unfold dg;rw[fE,mB]
 have d1:dg 65536 N 1=N / 65536 % 65536:=by unfold dg;rw[tK]
 have d2:dg 65536 N 2=N / 4294967296 % 65536:=rfl
 have d3:dg 65536 N 3=N / 281474976710656:=by
  have:dg 65536 N 3=N / 281474976710656 % 65536:=rfl
  rw[this];omega
 rw[d0,d1,d2,d3]
theorem one_dk:[(1:Int)]=dk 1 1:=rfl
theorem KE {n:Int}(h1:-9223372036854775808≤n)(h2:n≤9223372036854775807):n3 n=some (enc n):=by
 unfold n3
 by_cases hn:0≤n
 ·obtain⟨N,rfl⟩:∃N:Nat,n=(N:Int):=⟨n.toNat,by omega⟩
  have hN4:N<65536 ^ 4:=bT (show N<9223372036854775808 by omega) (by decide)
  rw[bw _ _ hn,of4 (by omega),BY hN4 (by decide),ab]
  rfl
 ·obtain⟨M,hM⟩:∃M:Nat,-(n+1)=(M:Int):=⟨(-(n+1)).toNat,by omega⟩
  have hM4:M<65536 ^ 4:=bT (show M<9223372036854775808 by omega) (by decide)
  have e:i64.wrap (0 - (i64.wrap (n+(1:Int))))=(M:Int):=by
   rw[cb (z:=n+1) (by omega),cb];omega
  rw[bx _ _ hn,e,ab,of4 (by omega),one_dk,G_dplus hM4 (by decide) (by decide) (by decide),ab,BY (A:=M+1) (jH _) (fb (qP (A:=M+1) (n:=5) (fb (show M+1≤65536 ^ 4 from hM4) (by decide))) (by decide)),ab]
  congr 2
  simp only[lr]
  omega
theorem DH {A:Nat}(h:A<LIM):sz6 A≤32:=qP (by rw[←LIM6];exact h)
theorem G_num {A:Nat}(h:sz6 A≤1000)(neg:Bool):eO neg (dl A)=some (enc (bif neg then -(A:Int) else (A:Int))):=
 BY (jH A) (fb h (by decide)) neg
theorem rF {a:Int}(ha:a.natAbs<LIM):d7 (enc a)=some (dl a.natAbs):=PB (lO ha) ha
theorem Pq {a:Int}(ha:a.natAbs<LIM):oG (enc a)=some (enc (a.natAbs:Int)):=by
 unfold oG
 rw[lM,bN ha,ab,ej,a9,rF ha,ab,G_num (cU (DH ha) (by decide)),ab]
 rfl
theorem LK {a:Int}(ha:a.natAbs<LIM):nl (enc a)=some a.sign:=by
 unfold nl
 rw[lM,bN ha,ab,ej,a9,rF ha,ab,ab,nr ha]
 have hz:((dl a.natAbs).length:Int)=0↔a=0:=by
  rw[show ((dl a.natAbs).length:Int)=0↔(dl a.natAbs).length=0 from by omega,Oq];omega
 rcases I0 a 0 with h|h|h
 ·rw[bx _ _ (by rw[hz];omega),bw _ _ h,IL h]
 ·subst h;rw[bw _ _ (hz.2 rfl)];rfl
 ·rw[bx _ _ (by rw[hz];omega),bx _ _,Bp h]
theorem fast2(p q:Prop)[Decidable p][Decidable q](a c:Int):(cnd (if p then (a,true) else (0,false):Int×Bool).2 (some (if q then (c,true) else (0,false):Int×Bool).2) (some false))=some (decide (p∧q)):=by
 by_cases hp:p <;> by_cases hq:q <;> simp[hp,hq,cnd]
theorem good2r(x y:aq):(bnd (S:=Bool) (bnd (da x) fun mU=>cnd (!mU) (some (true)) (bnd (da y) fun qv=>some (!qv))) fun b=>some b)=some (!(dm x&&dm y)):=by
 rw[lM,lM,ab,ab]
 cases dm x <;> cases dm y <;> rfl
theorem dig2(A:Nat):decide ((0:Int)<((dl A).length:Int))=decide (A≠0):=by
 refine mA.2 ?_
 have:=@Oq A
 omega
theorem Of(n m:Int):∃r:Int,a7 ik (n,m)=some r∧r.natAbs=Nat.gcd n.natAbs m.natAbs:=by
 induction hk:m.natAbs using Nat.strongRecOn generalizing n m with
 |_ k ih=>
  subst hk
  by_cases hm:m=0
  ·subst hm
   refine⟨n,fQ (by dsimp only[ik];rw[bx _ _ (fun h=>h rfl)]),?_⟩
   rw[Int.natAbs_zero,ET]
  ·have h1:ik (n,m)=some (.inl (m,n.tmod m)):=by
    dsimp only[ik]
    rw[bw _ _ hm,aJ hm]
   have e:=Int.natAbs_tmod n m
   obtain⟨r,h2,h3⟩:=ih (n.tmod m).natAbs (by rw[e];exact dv _ (by omega)) m (n.tmod m) rfl
   exact⟨r,(j7 h1).trans h2,by rw[h3,e,←wC]⟩
theorem Og(x y:Nat)(hx:sz6 x<800)(hy:sz6 y<800):a7 ij (dl x,dl y)=some (dl (Nat.gcd x y)):=by
 induction y using Nat.strongRecOn generalizing x with
 |_ y ih=>
  by_cases h0:y=0
  ·subst h0
   rw[ET]
   refine fQ ?_
   dsimp only[ij]
   rw[dig2,bx _ _ (fun h=>h rfl)]
  ·have h1:ij (dl x,dl y)=some (.inl (dl y,dl (x % y))):=by
    dsimp only[ij]
    rw[dig2,bw _ _ h0,PA hx hy (by omega),ab]
   have bF:=dv x (show 0<y by omega)
   have hs:sz6 (x % y)<800:=fb (qP (yu bF (jH y))) hy
   rw[j7 h1,ih (x % y) bF y hy hs,←wC]
theorem Po {a c:Int}(ha:a.natAbs<LIM)(hc:c.natAbs<LIM):oF (enc a) (enc c)=some (enc (Nat.gcd a.natAbs c.natAbs:Nat)):=by
 have hgl:Nat.gcd a.natAbs c.natAbs<LIM:=by
  rcases iS a.natAbs with h|h
  ·rw[h,I1];exact hc
  ·exact fb (yr _ h) ha
 unfold oF
 rw[Pm ha,Pm hc,ab,ab,fast2,ab,i5]
 by_cases hw:uR a∧uR c
 ·have h1:=hw.1.h
  have h2:=hw.2.h
  rw[az hw,az hw.1,az hw.2]
  dsimp only
  obtain⟨r,h3,h4⟩:=Of a c
  have hr:r.natAbs<4611686018427387904:=by
   rw[h4]
   rcases iS a.natAbs with h|h
   ·rw[h,I1];exact h2
   ·exact fb (yr _ h) h1
  rw[h3,ab,KE (by omega) (by omega),ab,Pq (by rw[h4];exact hgl),ab,h4]
 ·have hg:=good2r (enc a) (enc c)
  rw[vk] at hg
  rw[ay hw,hg,bN ha,bN hc,ab,dX,ej,a9,rF ha,ab,rF hc,ab,Og _ _ (fb (DH ha) (by decide)) (fb (DH hc) (by decide)),ab,G_num (cU (DH hgl) (by decide)),ab]
  rfl
theorem R_one:oD=some (enc 1):=by
 unfold oD
 rw[KE (by decide) (by decide),ab]
theorem R_Good {x:ak}(hx:okR x):lD x=some (cX x).isSome:=by
 rw[←kL hx]
 obtain⟨n,d⟩:=x
 obtain⟨h1,h2⟩:=hx
 dsimp only at h1 h2
 unfold lD bH
 dsimp only
 rw[lM,lM,ol,ol,ab,ab,ab,ab]
 cases Cr:dm n with
 |false=>rfl
 |true=>
  cases If:dm d with
  |false=>rfl
  |true=>
   obtain⟨n,hn,rfl⟩:=tv h1 Cr
   obtain⟨d,hd,rfl⟩:=tv h2 If
   rw[LK hd,yF hd,Po hn hd,KL hn hd,R_one,KG]
   rfl
theorem On {x:ak}{q:Rat}(h:cX x=some q):x=me q:=(eV.1 h).2
def Nu:={x:ak // okR x}
instance:DecidableEq Nu:=inferInstanceAs (DecidableEq {x:ak // okR x})
theorem okR0:okR (default:ak):=by
 have h:∀j:Nat,j<16→(default:aq).vW[j]! =0:=by
  intro j hj
  show (bS)[j]! =0
  rw[eG (bS) j hj,Vector.getElem_replicate]
 exact⟨fun j hj=>by show 0≤(default:aq).vW[j]!∧(default:aq).vW[j]! <4294967296;rw[h j hj];omega,fun j hj=>by show 0≤(default:aq).vW[j]!∧(default:aq).vW[j]! <4294967296;rw[h j hj];omega⟩
instance:Inhabited Nu:=⟨⟨default,okR0⟩⟩
def nuR(o:Option Rat):Nu:=⟨ye o,rQ o⟩
def decW(v:Vector Int 16):Nat:=fP 4294967296 (fun j=>(v[j]!).toNat) 16
def Cz(x:aq):Int:=if x.vNeg then -(decW x.vW:Int) else decW x.vW
theorem decW_W {A:Nat}(h:A<LIM):decW (W A)=A:=by
 refine Ow (b:=4294967296) (n:=16) ?_ h fun j hj=>?_
 ·exact zI (by decide) _ fun j hj=>by
   rw[fX hj]
   have:=@dgl A j
   omega
 ·unfold decW
  rw[Ep (by decide) 16 (fun i hi=>by
   rw[fX hi]
   have:=@dgl A i
   omega) j hj,fX hj]
  omega
theorem GJ {z:Int}(h:z.natAbs<LIM):Cz (enc z)=z:=by
 rw[qb h]
 unfold Cz
 dsimp only
 rw[decW_W h]
 by_cases hz:z<0
 ·rw[az (dU hz)];omega
 ·rw[ay (by simpa using hz)];omega
def xn(x:ak):Option Rat:=if nq (Rat.divInt (Cz x.vN) (Cz x.vD))∧me (Rat.divInt (Cz x.vN) (Cz x.vD))=x then some (Rat.divInt (Cz x.vN) (Cz x.vD)) else none
theorem rM:xn=cX:=by
 funext x
 unfold xn
 cases h:cX x with
 |none=>exact ay fun hh=>xl.1 h _ hh.1 hh.2.symm
 |some q=>
  obtain⟨h1,h2⟩:=eV.1 h
  have hn:Cz x.vN=q.num:=by rw[h2];exact GJ h1.1
  have hd:Cz x.vD=(q.den:Int):=by rw[h2];exact GJ (lJ h1)
  rw[hn,hd,show Rat.divInt q.num q.den=q from by rw[II];exact Rat.mkRat_self q,az ⟨h1,h2.symm⟩]
def Cj(x y:Nu):Nu:=nuR (FY (xn x.1) (xn y.1))
def nI(x y:Nu):Nu:=nuR (zp (xn x.1) (xn y.1))
def zq(x y:Nu):Nu:=nuR (osub (xn x.1) (xn y.1))
def u5(x y:Nu):Nu:=nuR (FV (xn x.1) (xn y.1))
def F4(x:Nu):Nu:=nuR (DS (xn x.1))
def nOf(n:Int):Nu:=nuR (some (n:Rat))
def kY(x:Nu):Int:=osgn (xn x.1)
def aR(x:Nu):Bool:=(xn x.1).isSome
theorem wr(x y:Nu):Cj x y=nuR (FY (cX x.1) (cX y.1)):=by unfold Cj;rw[rM]
theorem wq(x y:Nu):nI x y=nuR (zp (cX x.1) (cX y.1)):=by unfold nI;rw[rM]
theorem F3(x y:Nu):zq x y=nuR (osub (cX x.1) (cX y.1)):=by unfold zq;rw[rM]
theorem F5(x y:Nu):u5 x y=nuR (FV (cX x.1) (cX y.1)):=by unfold u5;rw[rM]
theorem wn(x:Nu):F4 x=nuR (DS (cX x.1)):=by unfold F4;rw[rM]
theorem xD(x:Nu):kY x=osgn (cX x.1):=by unfold kY;rw[rM]
theorem fk(x:Nu):aR x=(cX x.1).isSome:=by unfold aR;rw[rM]
def rv(x:Nu):Rat:=(cX x.1).getD 0
theorem gL {x:Nu}:aR x=true↔cX x.1=some (rv x):=by
 rw[fk];unfold rv
 cases cX x.1 <;> simp
theorem J0 {x:Nu}(h:aR x=true):x=nuR (some (rv x)):=Subtype.ext (On (gL.1 h))
theorem AZ {x y:Nu}(hx:aR x=true)(hy:aR y=true)(h:rv x=rv y):x=y:=by
 rw[J0 hx,J0 hy,h]
theorem pq {o:Option Rat}(h:yb o):cX (nuR o).1=o:=xm h
theorem Ap {q:Rat}(h:nq q):aR (nuR (some q))=true∧rv (nuR (some q))=q:=by
 have:cX (nuR (some q)).1=some q:=pq (o:=some q) fun p hp=>by injection hp with hp;rw[←hp];exact h
 rw[fk];unfold rv
 rw[this]
 exact⟨rfl,rfl⟩
theorem fit0:nq 0:=⟨by decide,by decide⟩
theorem fit1:nq 1:=⟨by decide,by decide⟩
theorem of0:aR (nOf 0)=true∧rv (nOf 0)=0:=Ap (q:=((0:Int):Rat)) fit0
theorem of1:aR (nOf 1)=true∧rv (nOf 1)=1:=Ap (q:=((1:Int):Rat)) fit1
theorem HN {x:Nu}(h:aR x=true):kY x=(rv x).num.sign:=by rw[xD,gL.1 h];rfl
theorem Ju {x:Nu}(h:aR x=true):kY x=0↔rv x=0:=by
 rw[HN h,IZ]
 exact Rat.num_eq_zero
theorem JE {x y:Nu}(hx:aR x=true)(hy:aR y=true)(h:aR (Cj x y)=true):rv (Cj x y)=rv x+rv y:=by
 have h1:=gL.1 h
 rw[wr] at h1 ⊢
 rw[pq (FX _ _),gL.1 hx,gL.1 hy] at h1
 have h2:HH (rv x) (rv y)=some (rv (nuR (FY (some (rv x)) (some (rv y))))):=h1
 rw[gL.1 hx,gL.1 hy]
 unfold HH at h2
 split at h2
 ·injection h2 with h2;exact h2.symm
 ·cases h2
theorem wo {x y:Nu}(hx:aR x=true)(hy:aR y=true)(h:aR (nI x y)=true):rv (nI x y)=rv x*rv y:=by
 have h1:=gL.1 h
 rw[wq] at h1 ⊢
 rw[pq (Ao _ _)] at h1
 rw[gL.1 hx,gL.1 hy] at h1 ⊢
 have h2:DP (rv x) (rv y)=some (rv (nuR (zp (some (rv x)) (some (rv y))))):=h1
 unfold DP at h2
 split at h2
 ·injection h2 with h2;exact h2.symm
 ·cases h2
theorem GA {x y:Nu}(h:aR (Cj x y)=true):aR x=true∧aR y=true:=by
 rw[fk,wr,pq (FX _ _)] at h
 rw[fk,fk]
 cases h1:cX x.1 <;> cases h2:cX y.1 <;> simp_all [FY]
theorem wA {x y:Nu}(h:aR (nI x y)=true):aR x=true∧aR y=true:=by
 rw[fk,wq,pq (Ao _ _)] at h
 rw[fk,fk]
 cases h1:cX x.1 <;> cases h2:cX y.1 <;> simp_all [zp]
theorem CS {x:Nu}:aR (F4 x)=aR x:=by
 rw[fk,fk,wn,pq (An (A1 _))]
 cases cX x.1 <;> rfl
theorem nNeg_rv {x:Nu}:rv (F4 x)=-rv x:=by
 unfold rv
 rw[wn,pq (An (A1 _))]
 cases cX x.1
 ·simp[DS]
 ·rfl
theorem Od {x y:Nu}(h:aR (u5 x y)=true):aR x=true∧aR y=true∧rv y≠0∧rv (u5 x y)=rv x / rv y:=by
 have h1:=gL.1 h
 rw[F5] at h1 ⊢
 rw[pq (MP _ _)] at h1
 have hx:aR x=true:=by
  rw[fk]
  cases h2:cX x.1 with
  |some _=>rfl
  |none=>rw[h2] at h1;cases h1
 have hy:aR y=true:=by
  rw[fk]
  cases h2:cX y.1 with
  |some _=>rfl
  |none=>rw[h2] at h1;unfold FV zp K7 at h1;cases h3:cX x.1 <;> simp[h3] at h1
 rw[gL.1 hx,gL.1 hy] at h1 ⊢
 by_cases h0:rv y=0
 ·unfold FV zp K7 at h1
  simp[h0] at h1
 ·have h2:DP (rv x) (rv y)⁻¹=some (rv (nuR (FV (some (rv x)) (some (rv y))))):=by
   rw[←h1]
   unfold FV zp K7
   simp[h0]
  refine⟨hx,hy,h0,?_⟩
  unfold DP at h2
  split at h2
  ·injection h2 with h2;rw[←h2,Rat.div_def]
  ·cases h2
def cl:Nat→(Nat→Rat)→Rat
 |0,_=>0
 |n+1,f=>cl n f+f n
theorem bk {f g:Nat→Rat}:∀{n:Nat},(∀t,t<n→f t=g t)→cl n f=cl n g
 |0,_=>rfl
 |n+1,h=>by unfold cl;rw[bk fun t ht=>h t (by omega),h n (by omega)]
theorem ox(f g:Nat→Rat):∀n,cl n (fun t=>f t+g t)=cl n f+cl n g
 |0=>by show (0:Rat)=0+0;grind
 |n+1=>by unfold cl;rw[ox f g n];grind
theorem kV(a:Rat)(f:Nat→Rat):∀n,cl n (fun t=>a*f t)=a*cl n f
 |0=>by simp[cl]
 |n+1=>by unfold cl;rw[kV a f n];grind
theorem tT:∀n,cl n (fun _=>0)=0
 |0=>rfl
 |n+1=>by unfold cl;rw[tT n];show (0:Rat)+0=0;grind
theorem ot(a:Nat)(x:Rat):∀n,a<n→cl n (fun t=>if t=a then x else 0)=x
 |0,h=>by omega
 |n+1,h=>by
  show cl n (fun t=>if t=a then x else 0)+(if n=a then x else 0)=x
  by_cases hn:n=a
  ·subst hn
   rw[az rfl,bk (g:=fun _=>0) fun t ht=>ifn_,tT]
   grind
  ·rw[ay hn,ot a x n (by omega)];grind
theorem Mn(f g:Nat→Rat)(n:Nat):cl n (fun t=>f t - g t)=cl n f - cl n g:=by
 have:(fun t=>f t - g t)=fun t=>f t+(-1)*g t:=by funext t;grind
 rw[this,ox f (fun t=>(-1)*g t),kV];grind
abbrev Col:=Nat→Rat
def sgd(j:Nat):Rat:=if j % 2=0 then 1 else -1
theorem Mt(j:Nat):sgd (j+1)=-sgd j:=by
 unfold sgd
 by_cases h:j % 2=0
 ·rw[az h,ifn_]
 ·rw[ay h,ifp_];grind
def skip(j i:Nat):Nat:=if i<j then i else i+1
def minor(f:Nat→Col)(j:Nat):Nat→Col:=fun c r=>f (skip j c) (r+1)
def det:Nat→(Nat→Col)→Rat
 |0,_=>1
 |n+1,f=>cl (n+1) fun j=>sgd j*(f j 0*det n (minor f j))
def cw(f:Nat→Col)(a:Nat)(u:Col):Nat→Col:=fun c=>if c=a then u else f c
theorem yg:∀{n:Nat} {f g:Nat→Col},(∀c,c<n→∀r,r<n→f c r=g c r)→det n f=det n g
 |0,_,_,_=>rfl
 |n+1,f,g,h=>by
  unfold det
  refine bk fun j hj=>?_
  rw[h j hj 0 (by omega),yg (f:=minor f j) (g:=minor g j) fun c hc r hr=>?_]
  unfold minor skip
  split
  ·exact h _ (by omega) _ (by omega)
  ·exact h _ (by omega) _ (by omega)
def place(j a:Nat):Nat:=if a<j then a else a - 1
theorem HB {j a:Nat}(h:j≠a):skip j (place j a)=a:=by
 unfold skip place
 by_cases h1:a<j
 ·rw[az h1,az h1]
 ·rw[ay h1,ifn_];omega
theorem Jt {j a c:Nat}(h:j≠a):skip j c=a↔c=place j a:=by unfold skip place;split <;> split <;> omega
theorem skip_ne(j c:Nat):skip j c≠j:=by unfold skip;split <;> omega
theorem ML {n j a:Nat}(hj:j<n+1)(ha:a<n+1)(h:j≠a):place j a<n:=by unfold place;split <;> omega
theorem xE(f:Nat→Col){j a:Nat}(h:j≠a)(u:Col):minor (cw f a u) j=cw (minor f j) (place j a) fun r=>u (r+1):=by
 funext c r
 unfold minor cw
 by_cases hc:c=place j a
 ·rw[az ((Jt h).2 hc),az hc]
 ·rw[ay (fun e=>hc ((Jt h).1 e)),ay hc]
theorem pV(f:Nat→Col)(a:Nat)(u:Col):minor (cw f a u) a=minor f a:=by
 funext c r
 unfold minor cw
 rw[ay (skip_ne a c)]
theorem pB(x:Rat):∀{n:Nat} (f:Nat→Col) (a:Nat) (u v:Col),a<n→det n (cw f a fun r=>x*u r+v r)=x*det n (cw f a u)+det n (cw f a v)
 |0,_,a,_,_,h=>by omega
 |n+1,f,a,u,v,h=>by
  unfold det
  rw[←kV,←ox (fun j=>x*(sgd j*(cw f a u j 0*det n (minor (cw f a u) j)))) (fun j=>sgd j*(cw f a v j 0*det n (minor (cw f a v) j)))]
  refine bk fun j hj=>?_
  by_cases hja:j=a
  ·subst hja
   rw[pV,pV,pV]
   unfold cw
   rw[az rfl,az rfl,az rfl]
   grind
  ·rw[xE f hja,xE f hja,xE f hja]
   have:=pB x (minor f j) (place j a) (fun r=>u (r+1)) (fun r=>v (r+1)) (ML hj h hja)
   rw[this]
   unfold cw
   rw[ay hja,ay hja,ay hja]
   grind
theorem Mm {f:Nat→Rat}{a:Nat}:∀{n:Nat},a+1<n→(∀j,j<n→j≠a→j≠a+1→f j=0)→cl n f=f a+f (a+1):=by
 intro n h h0
 have e:cl n f=cl n fun j=>(if j=a then f a else 0)+(if j=a+1 then f (a+1) else 0):=bk fun j hj=>by
  by_cases h1:j=a
  ·subst h1;rw[az rfl,ifn_];grind
  ·by_cases h2:j=a+1
   ·subst h2;rw[ifn_,az rfl];grind
   ·rw[ay h1,ay h2,h0 j hj h1 h2];grind
 rw[e,ox (fun j=>if j=a then f a else 0) (fun j=>if j=a+1 then f (a+1) else 0),ot a _ n (by omega),ot (a+1) _ n h]
theorem Es:∀{n:Nat} (f:Nat→Col) (a:Nat),a+1<n→(∀r,f a r=f (a+1) r)→det n f=0
 |0,_,a,h,_=>by omega
 |n+1,f,a,h,he=>by
  unfold det
  rw[Mm h fun j hj h1 h2=>?_]
  ·have:minor f a=minor f (a+1):=by
    funext c r
    unfold minor skip
    by_cases hc:c=a
    ·subst hc
     rw[ifn_,ifp_]
     exact (he _).symm
    ·by_cases nb:c<a
     ·rw[az nb,ifp_]
     ·rw[ay nb,ifn_]
   rw[this,he 0,Mt]
   grind
  ·rw[Es (minor f j) (place j a) ?_ fun r=>?_]
   ·grind
   ·unfold place;split <;> omega
   ·have e1:skip j (place j a)=a:=HB h1
    have e2:skip j (place j a+1)=a+1:=by unfold skip place;split <;> split <;> omega
    unfold minor
    rw[e1,e2]
    exact he _
theorem pF(f:Nat→Col){a b:Nat}(h:a≠b)(u v:Col):cw (cw f a u) b v=cw (cw f b v) a u:=by
 funext c
 unfold cw
 by_cases h1:c=a <;> by_cases h2:c=b <;> simp[h1,h2,h] <;> (try omega)
theorem Oy {n:Nat}(f:Nat→Col)(a:Nat)(h:a+1<n)(u v:Col):det n (cw (cw f a u) (a+1) v)=-det n (cw (cw f a v) (a+1) u):=by
 have z:∀t:Col,det n (cw (cw f a t) (a+1) t)=0:=fun t=>Es _ a h fun r=>by
  unfold cw
  rw[ifn_,az rfl,az rfl]
 have h0:=z fun r=>1*u r+v r
 have l1:∀t:Col,det n (cw (cw f a t) (a+1) fun r=>1*u r+v r)=1*det n (cw (cw f a t) (a+1) u)+det n (cw (cw f a t) (a+1) v):=fun t=>pB 1 _ _ _ _ h
 have l2:∀t:Col,det n (cw (cw f a fun r=>1*u r+v r) (a+1) t)=1*det n (cw (cw f a u) (a+1) t)+det n (cw (cw f a v) (a+1) t):=fun t=>by
  have ne:a≠a+1:=by omega
  rw[pF f ne _ t,pF f ne _ t,pF f ne _ t]
  exact pB 1 _ _ _ _ (by omega)
 rw[l1,l2,l2,z,z] at h0
 grind
theorem nU(f:Nat→Col)(a:Nat):cw f a (f a)=f:=by
 funext c
 unfold cw
 split
 ·rename_i h;rw[h]
 ·rfl
theorem A7 {n:Nat}:∀(k:Nat) (f:Nat→Col) (a:Nat),a+1+k<n→(∀r,f a r=f (a+1+k) r)→det n f=0
 |0,f,a,h,he=>Es f a h he
 |k+1,f,a,h,he=>by
  have e:f=cw (cw f (a+1+k) (f (a+1+k))) (a+1+k+1) (f (a+1+k+1)):=by
   rw[nU]
   exact (nU f _).symm
  rw[e,Oy f (a+1+k) (by omega),A7 k _ a (by omega) fun r=>?_]
  ·grind
  ·unfold cw
   rw[ifn_,ifn_,ifn_,az rfl]
   exact he r
theorem Er {n:Nat}(f:Nat→Col){a b:Nat}(ha:a<n)(hb:b<n)(ya:a≠b)(he:∀r,f a r=f b r):det n f=0:=by
 rcases ci a b with h|h
 ·exact A7 (b - a - 1) f a (by omega) fun r=>by rw[show a+1+(b - a - 1)=b by omega];exact he r
 ·exact A7 (a - b - 1) f b (by omega) fun r=>by rw[show b+1+(a - b - 1)=a by omega];exact (he r).symm
theorem A6 {n:Nat}(f:Nat→Col){a:Nat}(ha:a<n):det n (cw f a fun _=>0)=0:=by
 have:=pB 1 f a (fun _=>0) (fun _=>0) ha
 have e:(fun r:Nat=>(1:Rat)*(fun _=>(0:Rat)) r+(fun _=>(0:Rat)) r)=fun _=>0:=by funext r;grind
 rw[e] at this
 grind
theorem Kg {n:Nat}(f:Nat→Col){a:Nat}(ha:a<n)(x:Nat→Rat)(g:Nat→Col):∀m,det n (cw f a fun r=>cl m fun i=>x i*g i r)=cl m fun i=>x i*det n (cw f a (g i))
 |0=>A6 f ha
 |m+1=>by
  have e:(fun r=>cl (m+1) fun i=>x i*g i r)=fun r=>x m*g m r+cl m fun i=>x i*g i r:=by
   funext r
   show cl m (fun i=>x i*g i r)+x m*g m r=_
   grind
  rw[e,pB (x m) f a (g m) (fun r=>cl m fun i=>x i*g i r) ha,Kg f ha x g m]
  show _=cl m (fun i=>x i*det n (cw f a (g i)))+x m*det n (cw f a (g m))
  grind
theorem cramer {n:Nat}(f:Nat→Col){j:Nat}(hj:j<n)(x:Nat→Rat)(v:Col)(h:∀r,r<n→v r=cl n fun i=>x i*f i r):det n (cw f j v)=x j*det n f:=by
 rw[yg (g:=cw f j fun r=>cl n fun i=>x i*f i r) fun c hc r hr=>?_,Kg f hj x f n]
 ·rw[bk (g:=fun i=>if i=j then x j*det n f else 0) fun i hi=>?_,ot j _ n hj]
  by_cases Gq:i=j
  ·subst Gq;rw[az rfl,nU]
  ·rw[ay Gq,Er (cw f j (f i)) (a:=i) (b:=j) hi hj Gq fun r=>by unfold cw;rw[ay Gq,az rfl]]
   grind
 ·unfold cw
  split
  ·exact h r hr
  ·rfl
section
abbrev RM:=Nat→Nat→Rat
def vK(f:RM)(R C:Nat)(x:Nat→Rat):Prop:=∀i,i<R→cl C (fun k=>f i k*x k)=0
structure IsR(f:RM)(R kk:Nat)(ps:List Nat):Prop where
 lt:∀j,j<ps.length→ps[j]! <kk
 inc:∀i j,i<j→j<ps.length→ps[i]! <ps[j]!
 le:ps.length≤R
 piv:∀i j,i<R→j<ps.length→f i ps[j]! =if i=j then 1 else 0
 z1:∀i k,i<ps.length→k<ps[i]!→f i k=0
 z2:∀i k,ps.length≤i→i<R→k<kk→f i k=0
theorem DZ {ps:List Nat}{k:Nat}(h:k∈ps):∃j,j<ps.length∧ps[j]! =k:=by
 obtain⟨j,hj,he⟩:=List.mem_iff_getElem.1 h
 exact⟨j,hj,by rw[eG ps j hj];exact he⟩
theorem get_mem {ps:List Nat}{j:Nat}(h:j<ps.length):ps[j]!∈ps:=by
 rw[eG ps j h];exact vt h
theorem FG(a:Nat→Rat){C:Nat}:∀{ps:List Nat},ps.Nodup→(∀p∈ps,p<C)→cl C (fun k=>if k∈ps then a k else 0)=cl ps.length (fun j=>a ps[j]!)
 |[],_,_=>by simp only[vB,pj];exact tT C
 |p::ps,hn,hl=>by
  have hnp:=List.nodup_cons.1 hn
  have ih:=FG a (C:=C) hnp.2 fun q hq=>hl q (mN _ hq)
  have h1:cl C (fun k=>if k∈p::ps then a k else 0)=cl C (fun k=>(if k=p then a p else 0)+(if k∈ps then a k else 0)):=bk fun k _=>by
   by_cases hk:k=p
   ·subst hk;simp[hnp.1];grind
   ·simp[hk];grind
  have h2:∀n,cl (n+1) (fun j=>a (p::ps)[j]!)=a p+cl n (fun j=>a ps[j]!):=by
   intro n
   induction n with
   |zero=>simp[cl];grind
   |succ n ih=>rw[show cl (n+1+1) (fun j=>a (p::ps)[j]!)=cl (n+1) (fun j=>a (p::ps)[j]!)+a (p::ps)[n+1]! from rfl,ih,show cl (n+1) (fun j=>a ps[j]!)=cl n (fun j=>a ps[j]!)+a ps[n]! from rfl,show (p::ps)[n+1]! =ps[n]! from by simp];grind
  rw[h1,ox,ot p (a p) C (hl p (nP ..)),ih]
  exact (h2 ps.length).symm
theorem IsR.nodup {f:RM}{R kk:Nat}{ps:List Nat}(h:IsR f R kk ps):ps.Nodup:=by
 rw[List.nodup_iff_pairwise_ne,G2]
 intro i j hi hj Gq
 have:=h.inc i j Gq hj
 rw[eG ps i hi,eG ps j hj] at this
 omega
def m6(f:RM)(ps:List Nat)(k t:Nat):Rat:=if t=k then 1 else match ps.idxOf? t with
 |some j=>-f j k
 |none=>0
theorem idx_of {ps:List Nat}{j:Nat}(hn:ps.Nodup)(hj:j<ps.length):ps.idxOf? ps[j]! =some j:=by
 rw[eG ps j hj,List.idxOf?_eq_some_iff]
 refine⟨hj,rfl,fun i hi=>?_⟩
 have:=G2.1 (List.nodup_iff_pairwise_ne.1 hn) i j (by omega) hj hi
 simpa using this
theorem Nd {ps:List Nat}{k:Nat}(h:k∉ps):ps.idxOf? k=none:=by
 rw[List.idxOf?_eq_none_iff];exact h
section
variable {f g:RM} {R C:Nat} {ps qs:List Nat}
theorem xC(h:IsR f R C ps){k j:Nat}(hk:k∉ps)(hj:j<ps.length):m6 f ps k ps[j]! =-f j k:=by
 unfold m6
 rw[ay (fun e=>hk (by rw[←e];exact get_mem hj)),idx_of h.nodup hj]
theorem u4(k:Nat):m6 f ps k k=1:=az rfl
theorem td {k t:Nat}(hk:t≠k)(ht:t∉ps):m6 f ps k t=0:=by
 unfold m6
 rw[ay hk,Nd ht]
theorem My(h:IsR f R C ps)(a:Nat→Rat){k:Nat}(hk:k∉ps)(hkC:k<C):cl C (fun t=>a t*m6 f ps k t)=a k - cl ps.length (fun j=>a ps[j]! *f j k):=by
 have h1:cl C (fun t=>a t*m6 f ps k t)=cl C (fun t=>(if t=k then a k else 0)+(if t∈ps then a t*m6 f ps k t else 0)):=bk fun t _=>by
  by_cases ht:t=k
  ·subst ht;rw[az rfl,ay hk,u4];grind
  ·rw[ay ht]
   by_cases hm:t∈ps
   ·rw[az hm];grind
   ·rw[ay hm,td ht hm];grind
 rw[h1,ox,ot k (a k) C hkC,FG (fun t=>a t*m6 f ps k t) h.nodup fun p hp=>by obtain⟨j,hj,rfl⟩:=DZ hp;exact h.lt j hj]
 rw[bk (g:=fun j=>(-1)*(a ps[j]! *f j k)) fun j hj=>by rw[xC h hk hj];grind,kV]
 grind
theorem xt {n:Nat}(a:Nat→Rat){i:Nat}(hi:i<n):cl n (fun j=>(if i=j then 1 else 0)*a j)=a i:=by
 rw[bk (g:=fun j=>if j=i then a i else 0) fun j _=>by
  by_cases h:i=j
  ·subst h;simp
  ·simp[h,lP h],ot i (a i) n hi]
theorem Ml {n:Nat}{a:Nat→Rat}(h:∀j,j<n→a j=0):cl n a=0:=by
 rw[bk (g:=fun _=>0) h,tT]
theorem CR(h:IsR f R C ps){k:Nat}(hk:k∉ps)(hkC:k<C):vK f R C (m6 f ps k):=by
 intro i hi
 rw[My h (f i) hk hkC]
 by_cases hip:i<ps.length
 ·rw[bk (g:=fun j=>(if i=j then 1 else 0)*f j k) fun j hj=>by rw[h.piv i j hi hj],xt (fun j=>f j k) hip];grind
 ·rw[Ml fun j hj=>by rw[h.piv i j hi hj,ifn_];grind,h.z2 i k (by omega) hi hkC];grind
theorem HK(h:IsR f R C ps){k t:Nat}(hk:k∉ps)(ht:k<t):m6 f ps k t=0:=by
 by_cases hm:t∈ps
 ·obtain⟨j,hj,rfl⟩:=DZ hm
  rw[xC h hk hj,h.z1 j k hj ht];grind
 ·exact td (by omega) hm
end
end
section
def d5(f:RM)(a b:Nat):RM:=fun i k=>if i=a then f b k else if i=b then f a k else f i k
def pe(f:RM)(r k:Nat):RM:=fun i j=>if i=r then f r j / f r k else f i j - f i k*(f r j / f r k)
section
variable {f g:RM} {R C kk r k a b:Nat} {ps qs:List Nat}
theorem vK.congr {x:Nat→Rat}(h:∀i k,i<R→k<C→f i k=g i k)(hs:vK f R C x):vK g R C x:=fun i hi=>by
 rw[←hs i hi]
 exact bk fun t ht=>by rw[h i t hi ht]
theorem Mq {x:Nat→Rat}(ha:a<R)(hb:b<R):vK (d5 f a b) R C x↔vK f R C x:=by
 have key:∀{f:RM},vK f R C x→vK (d5 f a b) R C x:=fun {f} h i hi=>by
  unfold d5
  by_cases h1:i=a
  ·simp only[h1,aN];exact h b hb
  ·by_cases h2:i=b
   ·simp only[h1,h2,aN,pj]
    by_cases h3:b=a
    ·simp only[h3,aN];rw[←h3];exact h b hb
    ·simp only[h3,pj];exact h a ha
   ·simp only[h1,h2,pj];exact h i hi
 refine⟨fun h=>?_,key⟩
 have h2:=key h
 refine h2.congr fun i t _ _=>?_
 unfold d5
 by_cases h1:i=a
 ·subst h1
  by_cases h3:b=i <;> simp[h3]
 ·by_cases h2:i=b
  ·subst h2;simp[h1]
  ·simp[h1,h2]
theorem Mr {x:Nat→Rat}(hr:r<R)(hp:f r k≠0):vK (pe f r k) R C x↔vK f R C x:=by
 have Nq:cl C (fun t=>pe f r k r t*x t)=cl C (fun t=>f r t*x t) / f r k:=by
  rw[bk (g:=fun t=>(1 / f r k)*(f r t*x t)) fun t _=>by unfold pe;rw[az rfl];grind,kV]
  grind
 have hoth:∀i,i≠r→cl C (fun t=>pe f r k i t*x t)=cl C (fun t=>f i t*x t) - f i k*(cl C (fun t=>f r t*x t) / f r k):=fun i hi=>by
  rw[bk (g:=fun t=>f i t*x t - (f i k / f r k)*(f r t*x t)) fun t _=>by unfold pe;rw[ay hi];grind,Mn,kV]
  grind
 constructor
 ·intro h i hi
  have h0:cl C (fun t=>f r t*x t)=0:=by
   have:=h r hr
   rw[Nq] at this
   have h2:cl C (fun t=>f r t*x t)=(cl C (fun t=>f r t*x t) / f r k)*f r k:=by grind
   rw[h2,this];grind
  by_cases NT:i=r
  ·subst NT;exact h0
  ·have:=h i hi
   rw[hoth i NT,h0] at this
   grind
 ·intro h i hi
  by_cases NT:i=r
  ·subst NT;rw[Nq,h i hr];grind
  ·rw[hoth i NT,h i hi,h r hr];grind
theorem IsR.congr(h:IsR f R kk ps)(hk:kk≤C)(he:∀i k,i<R→k<C→f i k=g i k):IsR g R kk ps:=by
 refine⟨h.lt,h.inc,h.le,fun i j hi hj=>?_,fun i k hi xW=>?_,fun i k hi hi2 xW=>?_⟩
 ·rw[←he i _ hi (by have:=h.lt j hj;omega)];exact h.piv i j hi hj
 ·have:=h.lt i hi;have:=h.le;rw[←he i k (by omega) (by omega)];exact h.z1 i k hi xW
 ·rw[←he i k hi2 (by omega)];exact h.z2 i k hi hi2 xW
theorem JO(f:RM)(R:Nat):IsR f R 0 []:=⟨fun j h=>absurd h (by simp),fun i j _ h=>absurd h (by simp),dZ _,fun i j _ h=>absurd h (by simp),fun i k h=>absurd h (by simp),fun i k _ _ h=>absurd h (by omega)⟩
theorem IsR.none(h:IsR f R kk ps)(h0:∀i,ps.length≤i→i<R→f i kk=0):IsR f R (kk+1) ps:=
 ⟨fun j hj=>qi (h.lt j hj),h.inc,h.le,h.piv,h.z1,fun i k h1 h2 h3=>by
  rcases ci k kk with h4|h4
  ·exact h.z2 i k h1 h2 h4
  ·rw[show k=kk by omega];exact h0 i h1 h2⟩
theorem IsR.full(h:IsR f R kk ps)(h0:ps.length=R)(hk:kk≤C):IsR f R C ps:=
 ⟨fun j hj=>bT (h.lt j hj) hk,h.inc,h.le,h.piv,h.z1,fun i k h1 h2 _=>by omega⟩
theorem wB {ps:List Nat}{q j:Nat}:(ps++[q])[j]! =if j<ps.length then ps[j]! else if j=ps.length then q else default:=by
 simp only[Bh]
 by_cases h:j<ps.length
 ·rw[az h,vo h]
 ·rw[ay h,tF (by omega)]
  by_cases h2:j=ps.length
  ·rw[az h2,h2];simp
  ·rw[ay h2,jv (by simp;omega)];rfl
theorem IsR.step(h:IsR f R kk ps){i0:Nat}(hi:ps.length≤i0)(hi2:i0<R)(lg:f i0 kk≠0):IsR (pe (d5 f i0 ps.length) ps.length kk) R (kk+1) (ps++[kk]):=by
 have hr:ps.length<R:=by omega
 -- the row of the pivot is 0 ahead of it
 have hg:∀t,d5 f i0 ps.length ps.length t=f i0 t:=fun t=>by
  unfold d5
  by_cases e:ps.length=i0
  ·rw[az e,←e]
  ·rw[ay e,az rfl]
 have hg0:∀t,t<kk→f i0 t=0:=fun t ht=>h.z2 i0 t hi hi2 ht
 have hup:∀i t,i<ps.length→d5 f i0 ps.length i t=f i t:=fun i t JT=>by unfold d5;rw[ifn_,ifn_]
 have hE:∀i t,i≠ps.length→t<kk→pe (d5 f i0 ps.length) ps.length kk i t=d5 f i0 ps.length i t:=fun i t h1 h2=>by
  unfold pe
  rw[ay h1,hg t,hg0 t h2];grind
 have hEr:∀t,t<kk→pe (d5 f i0 ps.length) ps.length kk ps.length t=0:=fun t ht=>by
  unfold pe
  rw[az rfl,hg t,hg0 t ht];grind
 have Cn:∀i t,ps.length<i→i<R→t<kk→d5 f i0 ps.length i t=0:=fun i t h1 h2 h3=>by
  unfold d5
  by_cases e:i=i0
  ·rw[az e];exact h.z2 _ t (aL _) hr h3
  ·rw[ay e,ifn_];exact h.z2 i t (by omega) h2 h3
 have hcol:∀i,pe (d5 f i0 ps.length) ps.length kk i kk=if i=ps.length then 1 else 0:=fun i=>by
  unfold pe
  by_cases e:i=ps.length
  ·rw[az e,az e,hg];grind
  ·rw[ay e,ay e,hg];grind
 have hlen:(ps++[kk]).length=ps.length+1:=by simp
 refine⟨fun j hj=>?_,fun i j Gq hj=>?_,by omega,fun i j hi3 hj=>?_,fun i t hi3 ht=>?_,fun i t h1 h2 h3=>?_⟩
 ·rw[hlen] at hj
  rw[wB]
  by_cases e:j<ps.length
  ·rw[az e];have:=h.lt j e;omega
  ·rw[ay e,ifp_];omega
 ·rw[hlen] at hj
  rw[wB,wB,az (show i<ps.length by omega)]
  by_cases e:j<ps.length
  ·rw[az e];exact h.inc i j Gq e
  ·rw[ay e,ifp_];exact h.lt i (by omega)
 ·rw[hlen] at hj
  rw[wB]
  by_cases e:j<ps.length
  ·rw[az e]
   have bF:=h.lt j e
   by_cases er:i=ps.length
   ·rw[er,hEr _ bF,ifn_]
   ·rw[hE i _ er bF]
    rcases ci i ps.length with h4|h4
    ·rw[hup i _ h4];exact h.piv i j hi3 e
    ·rw[Cn i _ (by omega) hi3 bF,ifn_]
  ·rw[ay e,ifp_,hcol i]
   by_cases er:i=ps.length
   ·rw[az er,ifp_]
   ·rw[ay er,ifn_]
 ·rw[hlen] at hi3
  rw[wB] at ht
  by_cases e:i<ps.length
  ·rw[az e] at ht
   have bF:=h.lt i e
   rw[hE i t (by omega) (by omega),hup i t e];exact h.z1 i t e ht
  ·rw[ay e,ifp_] at ht
   rw[show i=ps.length by omega];exact hEr t ht
 ·rw[hlen] at h1
  rcases ci t kk with h4|h4
  ·rw[hE i t (by omega) h4];exact Cn i t (by omega) h2 h4
  ·rw[show t=kk by omega,hcol i,ifn_]
end
structure oe(n:Nat)(D:RM→Rat):Prop where
 congr:∀f g,(∀i k,i<n→k<n→f i k=g i k)→D f=D g
 swap:∀f a b,a<n→b<n→a≠b→D (d5 f a b)=-D f
 scale:∀f r c,r<n→D (fun i k=>if i=r then c*f r k else f i k)=c*D f
 add:∀f r i c,r<n→i<n→i≠r→D (fun j k=>if j=i then f i k+c*f r k else f j k)=D f
section
variable {n:Nat} {D:RM→Rat} {f:RM} {r k:Nat}
theorem oe.elim(h:oe n D)(hr:r<n)(hp:f r k≠0):D (pe f r k)=D f / f r k:=by
 -- the rows ahead of m are done
 have key:∀m,m≤n→D (fun i j=>if i=r then f r j / f r k else if i<m then f i j - f i k*(f r j / f r k) else f i j)=D f / f r k:=by
  intro m
  induction m with
  |zero=>
   intro _
   have:=h.scale f r (1 / f r k) hr
   rw[h.congr _ (fun i j=>if i=r then 1 / f r k*f r j else f i j) fun i j _ _=>by
    by_cases e:i=r
    ·rw[az e,az e];grind
    ·rw[ay e,ay e,ifn_],this]
   grind
  |succ m ih=>
   intro hm
   rw[←ih (by omega)]
   by_cases e:m=r
   ·refine h.congr _ _ fun i j _ _=>?_
    by_cases e2:i=r
    ·rw[az e2,az e2]
    ·rw[ay e2,ay e2]
     by_cases e3:i<m
     ·rw[az e3,ifp_]
     ·rw[ay e3,ifn_]
   ·have:=h.add (fun i j=>if i=r then f r j / f r k else if i<m then f i j - f i k*(f r j / f r k) else f i j) r m (-f m k) hr (by omega) e
    rw[←this]
    refine h.congr _ _ fun i j _ _=>?_
    by_cases e2:i=m
    ·subst e2
     simp only[aN,ay e,Bj,pj,dY]
     grind
    ·rw[ay e2]
     by_cases e3:i=r
     ·rw[az e3,az e3]
     ·rw[ay e3,ay e3]
      by_cases e4:i<m
      ·rw[az e4,ifp_]
      ·rw[ay e4,ifn_]
 rw[←key n (aL n)]
 refine h.congr _ _ fun i j hi _=>?_
 unfold pe
 by_cases e:i=r
 ·rw[az e,az e]
 ·rw[ay e,ay e,az hi]
theorem oe.zero(h:oe n D)(hr:r<n)(h0:∀t,t<n→f r t=0):D f=0:=by
 rw[h.congr f (fun i t=>if i=r then 0*f r t else f i t) fun i t _ ht=>by
  by_cases e:i=r
  ·rw[az e,e,h0 t ht];grind
  ·rw[ay e],h.scale f r 0 hr]
 grind
end
def eJ:RM:=fun i k=>if i=k then 1 else 0
theorem CO(n:Nat)(f:RM):∀kk,kk≤n→∃g ps c,IsR g n kk ps∧(c:Rat)≠0∧∀D,oe n D→D f=c*D g
 |0,_=>⟨f,[],1,JO f n,by decide,fun D _=>by grind⟩
 |kk+1,hk=>by
  obtain⟨g,ps,c,h1,h2,h3⟩:=CO n f kk (by omega)
  by_cases h0:∃i,ps.length≤i∧i<n∧g i kk≠0
  ·obtain⟨i,hi,Cp,lg⟩:=h0
   have hsw:d5 g i ps.length ps.length kk=g i kk:=by
    unfold d5
    by_cases e:ps.length=i
    ·rw[az e,←e]
    ·rw[ay e,az rfl]
   by_cases e:i=ps.length
   ·refine⟨_,_,c*g i kk,h1.step hi Cp lg,fun e2=>?_,fun D hD=>?_⟩
    ·rcases Rat.mul_eq_zero.1 e2 with h|h
     ·exact h2 h
     ·exact lg h
    ·rw[hD.elim (by omega) (by rw[hsw];exact lg),hsw,h3 D hD]
     have:D (d5 g i ps.length)=D g:=hD.congr _ _ fun j t _ _=>by
      unfold d5
      by_cases e3:j=i
      ·rw[az e3,e3,e]
      ·rw[ay e3,ifn_]
     rw[this];grind
   ·refine⟨_,_,-(c*g i kk),h1.step hi Cp lg,fun e2=>?_,fun D hD=>?_⟩
    ·rcases Rat.mul_eq_zero.1 (show c*g i kk=0 by grind) with h|h
     ·exact h2 h
     ·exact lg h
    ·rw[hD.elim (by omega) (by rw[hsw];exact lg),hsw,hD.swap g i ps.length Cp (by omega) e,h3 D hD]
     grind
  ·refine⟨g,ps,c,h1.none fun i hi Cp=>?_,h2,h3⟩
   exact vI fun e=>h0 ⟨i,hi,Cp,e⟩
theorem JN {n:Nat}{g:RM}{ps:List Nat}(h:IsR g n n ps)(hl:ps.length=n):∀i k,i<n→k<n→g i k=eJ i k:=by
 have hp:∀j,j<n→ps[j]! =j:=by
  have zT:∀j,j<n→j≤ps[j]! :=by
   intro j
   induction j with
   |zero=>intro _;exact dZ _
   |succ j ih=>intro hj;have:=ih (by omega);have:=h.inc j (j+1) (by omega) (by omega);omega
  have hle:∀d j,j+d+1=n→ps[j]!≤j:=by
   intro d
   induction d with
   |zero=>intro j hj;have:=h.lt j (by omega);omega
   |succ d ih=>intro j hj;have:=ih (j+1) (by omega);have:=h.inc j (j+1) (by omega) (by omega);omega
  intro j hj
  have:=zT j hj;have:=hle (n - j - 1) j (by omega);omega
 intro i k hi hk
 have:=h.piv i k hi (by omega)
 rw[hp k hk] at this
 exact this
theorem oe.unique {n:Nat}{D E:RM→Rat}(hD:oe n D)(hE:oe n E)(hE1:E eJ=1)(f:RM):D f=E f*D eJ:=by
 obtain⟨g,ps,c,h1,h2,h3⟩:=CO n f n (aL n)
 rw[h3 D hD,h3 E hE]
 rcases ci ps.length n with h|h
 ·have hz:∀t,t<n→g (n - 1) t=0:=fun t ht=>h1.z2 _ t (by omega) (by omega) ht
  rw[hD.zero (r:=n - 1) (by omega) hz,hE.zero (r:=n - 1) (by omega) hz];grind
 ·have hl:ps.length=n:=by have:=h1.le;omega
  have h4:=JN h1 hl
  rw[hD.congr _ _ h4,hE.congr _ _ h4,hE1];grind
end
section
def vf(C k:Nat)(V:List Nu):Nat→Nat→Option Nat
 |0,_=>none
 |n+1,i=>if kY V[i*C+k]!≠0 then some i else vf C k V n (i+1)
def gb(C:Nat)(V:List Nu)(i r:Nat):Nat→List Nu
 |0=>V
 |j+1=>((gb C V i r j).set (i*C+j) (gb C V i r j)[r*C+j]!).set (r*C+j) (gb C V i r j)[i*C+j]!
def tA(V:List Nu)(o:Nat)(h:List Nu→Nat→Nu):Nat→List Nu
 |0=>V
 |j+1=>(tA V o h j).set (o+j) (h (tA V o h j) j)
def ir(C k r:Nat)(V:List Nu):Nat→List Nu
 |0=>V
 |n+1=>if n≠r∧kY (ir C k r V n)[n*C+k]!≠0 then tA (ir C k r V n) (n*C) (fun U j=>zq U[n*C+j]! (nI (ir C k r V n)[n*C+k]! U[r*C+j]!)) C else ir C k r V n
structure Pv where
 col:Nat
 by':Nu
 mov:Bool
 deriving Inhabited
def byN(C k i r:Nat)(V:List Nu):Nu:=(gb C V i r C)[r*C+k]!
def oy(R C k i r:Nat)(V:List Nu):List Nu:=ir C k r (tA (gb C V i r C) (r*C) (fun U j=>u5 U[r*C+j]! (byN C k i r V)) C) R
def kN(R C:Nat):Nat→Nat→Nat→List Nu→List Pv→Option (List Nu×List Pv)
 |0,_,_,V,acc=>some (V,acc)
 |n+1,k,r,V,acc=>if r<R then
   match vf C k V (R - r) r with
   |none=>kN R C n (k+1) r V acc
   |some i=>if (oy R C k i r V).all aR then kN R C n (k+1) (r+1) (oy R C k i r V) (acc++[⟨k,byN C k i r V,decide (i≠r)⟩]) else none
  else some (V,acc)
theorem Ej {V:List Nu}{i t:Nat}{x:Nu}(hi:i<V.length):(V.set i x)[t]! =if t=i then x else V[t]! :=by
 simp only[Bh]
 by_cases h:t=i
 ·subst h;rw[az rfl,IT hi];rfl
 ·rw[ay h,List.getElem?_set_ne (fun e=>h e.symm)]
theorem nV {C:Nat}{V:List Nu}{i r:Nat}:∀j,(gb C V i r j).length=V.length
 |0=>rfl
 |j+1=>by unfold gb;rw[ID,ID,nV j]
theorem qd {V:List Nu}{o:Nat}{h:List Nu→Nat→Nu}:∀j,(tA V o h j).length=V.length
 |0=>rfl
 |j+1=>by unfold tA;rw[ID,qd j]
theorem rj {C k r:Nat}{V:List Nu}:∀n,(ir C k r V n).length=V.length
 |0=>rfl
 |n+1=>by
  unfold ir
  split
  ·rw[qd,rj n]
  ·exact rj n
theorem tU {R C k i r:Nat}{V:List Nu}:(oy R C k i r V).length=V.length:=by unfold oy;rw[rj,qd,nV]
theorem cd {R C i j:Nat}(hi:i<R)(hj:j<C):i*C+j<R*C:=by
 have:(i+1)*C≤R*C:=cg C hi
 rw[bj,de] at this
 omega
theorem xB {C i j i' j':Nat}(hj:j<C)(Hk:j'<C)(h:i*C+j=i'*C+j'):i=i'∧j=j':=by
 have h1:(i*C+j) / C=i:=by rw[cj,vH (by omega),dt hj];omega
 have h2:(i'*C+j') / C=i':=by rw[cj,vH (by omega),dt Hk];omega
 have:i=i':=by rw[←h1,←h2,h]
 subst this
 exact⟨rfl,by omega⟩
section
variable {R C:Nat} {V:List Nu}
theorem CL(hV:V.length=R*C){i r:Nat}(hi:i<R)(hr:r<R):∀j,j≤C→∀a b,a<R→b<C→(gb C V i r j)[a*C+b]! =if b<j then (if a=i then V[r*C+b]! else if a=r then V[i*C+b]! else V[a*C+b]!) else V[a*C+b]!
 |0,_,a,b,_,_=>by rw[ifn_];rfl
 |j+1,hj,a,b,ha,hb=>by
  have ih:=CL hV hi hr j (by omega)
  have zA:i*C+j<(gb C V i r j).length:=by rw[nV,hV];exact cd hi (by omega)
  have vZ:r*C+j<(gb C V i r j).length:=by rw[nV,hV];exact cd hr (by omega)
  unfold gb
  rw[Ej (by rw[ID];exact vZ),Ej zA]
  have e1:=ih r j hr (by omega)
  have e2:=ih i j hi (by omega)
  have e3:=ih a b ha hb
  have p1:(a*C+b=r*C+j)↔(a=r∧b=j):=⟨fun e=>xB hb (by omega) e,by rintro⟨rfl,rfl⟩;rfl⟩
  have p2:(a*C+b=i*C+j)↔(a=i∧b=j):=⟨fun e=>xB hb (by omega) e,by rintro⟨rfl,rfl⟩;rfl⟩
  rw[ay (Bj j)] at e1 e2
  simp only[p1,p2]
  by_cases hbj:b=j
  ·subst hbj
   rw[ay (Bj b)] at e3
   by_cases har:a=r
   ·subst har
    by_cases hai:a=i
    ·subst hai;simp[e2]
    ·simp[hai,e2]
   ·by_cases hai:a=i
    ·subst hai;simp[har,e1]
    ·simp[har,hai,e3]
  ·have h2:(b<j+1)↔(b<j):=by omega
   simp only[hbj,and_false,pj,h2]
   exact e3
theorem GN {n o:Nat}{h:List Nu→Nat→Nu}(ho:o+n≤V.length)(hh:∀(U:List Nu) j,j<n→(∀t,t<o∨o+j≤t→U[t]! =V[t]!)→h U j=h V j):∀j,j≤n→∀t,(tA V o h j)[t]! =if o≤t∧t<o+j then h V (t - o) else V[t]!
 |0,_,t=>by rw[ifn_];rfl
 |j+1,hj,t=>by
  have ih:=GN ho hh j (by omega)
  unfold tA
  rw[Ej (by rw[qd];omega)]
  by_cases e:t=o+j
  ·subst e
   rw[az rfl,ifp_,hh _ j (by omega) (fun t ht=>by rw[ih t,ifn_]),show o+j - o=j by omega]
  ·rw[ay e,ih t]
   by_cases h2:o≤t∧t<o+j
   ·rw[az h2,ifp_]
   ·rw[ay h2,ifn_]
theorem GM(hV:V.length=R*C){i:Nat}(hi:i<R){h:List Nu→Nat→Nu}(hh:∀(U:List Nu) j,j<C→(∀a b,a<R→b<C→a≠i∨j≤b→U[a*C+b]! =V[a*C+b]!)→h U j=h V j){a b:Nat}(ha:a<R)(hb:b<C):
  (tA V (i*C) h C)[a*C+b]! =if a=i then h V b else V[a*C+b]! :=by
 have hle:i*C+C≤V.length:=by
  rw[hV]
  have:(i+1)*C≤R*C:=cg C hi
  rw[bj,de] at this
  exact this
 rw[GN hle (fun U j hj hU=>hh U j hj fun a b ha hb ya=>hU _ ?_) C (aL _)]
 ·by_cases e:a=i
  ·subst e
   rw[az ⟨by omega,by omega⟩,az rfl,show a*C+b - a*C=b by omega]
  ·rw[ay e,ay]
   intro⟨h1,h2⟩
   obtain⟨d,hd⟩:∃d,a*C+b=i*C+d:=⟨a*C+b - i*C,by omega⟩
   exact e (xB hb (show d<C by omega) hd).1
 ·rcases ya with h1|h1
  ·rcases ci a i with h2|h2
   ·left
    have:(a+1)*C≤i*C:=cg C h2
    rw[bj,de] at this
    omega
   ·right
    have:(i+1)*C≤a*C:=cg C (by omega)
    rw[bj,de] at this
    omega
  ·rcases yA a i with h2|h2|h2
   ·left
    have:(a+1)*C≤i*C:=cg C h2
    rw[bj,de] at this
    omega
   ·subst h2;right;omega
   ·right
    have:(i+1)*C≤a*C:=cg C (by omega)
    rw[bj,de] at this
    omega
theorem xx(hV:V.length=R*C){k r:Nat}(hk:k<C)(hr:r<R):∀n,n≤R→∀a b,a<R→b<C→(ir C k r V n)[a*C+b]! =if a<n∧a≠r∧kY V[a*C+k]!≠0 then zq V[a*C+b]! (nI V[a*C+k]! V[r*C+b]!) else V[a*C+b]!
 |0,_,a,b,_,_=>by rw[ifn_];rfl
 |n+1,hn,a,b,ha,hb=>by
  have ih:=xx hV hk hr n (by omega)
  have hx:(ir C k r V n)[n*C+k]! =V[n*C+k]! :=by rw[ih n k (by omega) hk,ifn_]
  have hlen:(ir C k r V n).length=R*C:=by rw[rj,hV]
  unfold ir
  by_cases hc:n≠r∧kY (ir C k r V n)[n*C+k]!≠0
  ·rw[az hc,GM hlen (show n<R by omega) (fun U j hj hU=>by rw[hU n j (by omega) hj (.inr (aL _)),hU r j hr hj (.inl (lP hc.1))]) ha hb]
   rw[hx] at hc ⊢
   by_cases e:a=n
   ·subst e
    rw[az rfl,az ⟨by omega,hc⟩,ih a b ha hb,ifn_,ih r b hr hb,ifn_]
   ·rw[ay e,ih a b ha hb]
    by_cases h2:a<n∧a≠r∧kY V[a*C+k]!≠0
    ·rw[az h2,az ⟨by omega,h2.2⟩]
    ·rw[ay h2,ay fun h3=>h2 ⟨by omega,h3.2⟩]
  ·rw[ay hc,ih a b ha hb]
   rw[hx] at hc
   by_cases h2:a<n∧a≠r∧kY V[a*C+k]!≠0
   ·rw[az h2,az ⟨by omega,h2.2⟩]
   ·rw[ay h2,ay fun h3=>?_]
    by_cases e:a=n
    ·subst e;exact hc h3.2
    ·exact h2 ⟨by omega,h3.2⟩
def toR(C:Nat)(V:List Nu):RM:=fun i k=>rv V[i*C+k]!
theorem tZ(hg:V.all aR=true){t:Nat}(ht:t<V.length):aR V[t]! =true:=by
 rw[eG V t ht];exact bZ.1 hg _ (vt ht)
theorem C6 {k:Nat}:∀{n i i0:Nat},vf C k V n i=some i0→i≤i0∧i0<i+n∧kY V[i0*C+k]!≠0
 |0,_,_,h=>by cases h
 |n+1,i,i0,h=>by
  unfold vf at h
  split at h
  ·rename_i hs;cases h;exact⟨by omega,by omega,hs⟩
  ·obtain⟨h1,h2,h3⟩:=C6 h;exact⟨by omega,by omega,h3⟩
theorem C7 {k:Nat}:∀{n i:Nat},vf C k V n i=none→∀j,i≤j→j<i+n→kY V[j*C+k]! =0
 |0,i,_,j,h1,h2=>by omega
 |n+1,i,h,j,h1,h2=>by
  unfold vf at h
  split at h
  ·cases h
  ·rename_i hs
   by_cases e:j=i
   ·subst e;exact Classical.not_not.1 hs
   ·exact C7 h j (by omega) (by omega)
theorem nSub_rv {x y:Nu}(h:aR (zq x y)=true):aR x=true∧aR y=true∧rv (zq x y)=rv x - rv y:=by
 have hs:zq x y=Cj x (F4 y):=by
  rw[F3,wr,wn]
  have hv:cX (nuR (DS (cX y.1))).1=DS (cX y.1):=by
   refine pq ?_
   intro p hp
   cases hy:cX y.1 with
   |none=>rw[hy] at hp;cases hp
   |some q=>
    rw[hy] at hp
    have:-q=p:=by injection hp
    rw[←this];exact GE (eV.1 hy).1
  exact congrArg nuR (show osub (cX x.1) (cX y.1)=FY (cX x.1) (cX (nuR (DS (cX y.1))).1) by rw[hv];rfl)
 rw[hs] at h ⊢
 obtain⟨h1,h2⟩:=GA h
 rw[CS] at h2
 rw[JE h1 (by rw[CS];exact h2) h,nNeg_rv]
 exact⟨h1,h2,by grind⟩
theorem stepN_R(hV:V.length=R*C)(hg:V.all aR=true){k i r:Nat}(hk:k<C)(hi:i<R)(hr:r<R)(If:(oy R C k i r V).all aR=true):
  aR (byN C k i r V)=true∧rv (byN C k i r V)=d5 (toR C V) i r r k∧∀a b,a<R→b<C→toR C (oy R C k i r V) a b=pe (d5 (toR C V) i r) r k a b:=by
 have hgo:∀a b,a<R→b<C→aR V[a*C+b]! =true:=fun a b ha hb=>tZ hg (by rw[hV];exact cd ha hb)
 have zA:(gb C V i r C).length=R*C:=by rw[nV,hV]
 have hs:∀a b,a<R→b<C→(gb C V i r C)[a*C+b]! =if a=i then V[r*C+b]! else if a=r then V[i*C+b]! else V[a*C+b]! :=fun a b ha hb=>by rw[CL hV hi hr C (aL _) a b ha hb,az hb]
 have hsg:∀a b,a<R→b<C→aR (gb C V i r C)[a*C+b]! =true∧rv (gb C V i r C)[a*C+b]! =d5 (toR C V) i r a b:=fun a b ha hb=>by
  rw[hs a b ha hb]
  unfold d5 toR
  split
  ·exact⟨hgo r b hr hb,rfl⟩
  ·split
   ·exact⟨hgo i b hi hb,rfl⟩
   ·exact⟨hgo a b ha hb,rfl⟩
 have L0:=hsg r k hr hk
 have vZ:(tA (gb C V i r C) (r*C) (fun U j=>u5 U[r*C+j]! (byN C k i r V)) C).length=R*C:=by rw[qd,zA]
 have hd:∀a b,a<R→b<C→(tA (gb C V i r C) (r*C) (fun U j=>u5 U[r*C+j]! (byN C k i r V)) C)[a*C+b]! =if a=r then u5 (gb C V i r C)[r*C+b]! (byN C k i r V) else (gb C V i r C)[a*C+b]! :=fun a b ha hb=>
  GM zA hr (fun U j hj hU=>by rw[hU r j hr hj (.inr (aL _))]) ha hb
 have xU:∀a b,a<R→b<C→aR (oy R C k i r V)[a*C+b]! =true:=fun a b ha hb=>tZ If (by rw[tU,hV];exact cd ha hb)
 have Nq:∀b,b<C→(oy R C k i r V)[r*C+b]! =u5 (gb C V i r C)[r*C+b]! (byN C k i r V):=fun b hb=>by
  unfold oy
  rw[xx vZ hk hr R (aL _) r b hr hb,ifn_,hd r b hr hb,az rfl]
 have hrv:∀b,b<C→rv (u5 (gb C V i r C)[r*C+b]! (byN C k i r V))=d5 (toR C V) i r r b / d5 (toR C V) i r r k:=fun b hb=>by
  have h1:=xU r b hr hb
  rw[Nq b hb] at h1
  obtain⟨_,_,_,h2⟩:=Od h1
  rw[h2,(hsg r b hr hb).2]
  unfold byN
  rw[L0.2]
 refine⟨L0.1,L0.2,fun a b ha hb=>?_⟩
 show rv (oy R C k i r V)[a*C+b]! =_
 unfold pe
 by_cases e:a=r
 ·subst e
  rw[az rfl,Nq b hb,hrv b hb]
 ·rw[ay e]
  have h1:=xU a b ha hb
  unfold oy at h1 ⊢
  rw[xx vZ hk hr R (aL _) a b ha hb,hd a k ha hk,hd a b ha hb,hd r b hr hb,ay e,ay e,az rfl] at h1 ⊢
  by_cases hc:a<R∧a≠r∧kY (gb C V i r C)[a*C+k]!≠0
  ·rw[az hc] at h1 ⊢
   obtain⟨_,h3,h4⟩:=nSub_rv h1
   obtain⟨h5,h6⟩:=wA h3
   rw[h4,wo h5 h6 h3,(hsg a b ha hb).2,(hsg a k ha hk).2,hrv b hb]
  ·rw[ay hc]
   have h0:kY (gb C V i r C)[a*C+k]! =0:=by
    apply vI
    intro h;exact hc ⟨ha,e,h⟩
   have:=(Ju (hsg a k ha hk).1).1 h0
   rw[(hsg a k ha hk).2] at this
   rw[(hsg a b ha hb).2,this];grind
structure KB(R C:Nat)(f:RM)(W:List Nu)(l:List Pv):Prop where
 len:W.length=R*C
 good:W.all aR=true
 red:IsR (toR C W) R C (l.map (·.col))
 sol:∀x,vK (toR C W) R C x↔vK f R C x
 byG:∀p∈l,aR p.by'=true∧rv p.by'≠0
 det:∀D,R=C→oe R D→D f=(l.foldl (fun c p=>c*(rv p.by'*if p.mov then -1 else 1)) 1)*D (toR C W)
theorem DO {f:RM}:∀(n k r:Nat) (V:List Nu) (acc:List Pv) {W:List Nu} {l:List Pv},k+n=C→V.length=R*C→V.all aR=true→acc.length=r→IsR (toR C V) R k (acc.map (·.col))→(∀x,vK (toR C V) R C x↔vK f R C x)→(∀p∈acc,aR p.by'=true∧rv p.by'≠0)→
  (∀D,R=C→oe R D→D f=(acc.foldl (fun c p=>c*(rv p.by'*if p.mov then -1 else 1)) 1)*D (toR C V))→kN R C n k r V acc=some (W,l)→KB R C f W l
 |0,k,r,V,acc,W,l,hk,hV,hg,ha,hI,hs,hb,hd,h=>by
  unfold kN at h
  cases h
  exact⟨hV,hg,by rw[show C=k by omega];rw[show C=k by omega] at hI;exact hI,hs,hb,hd⟩
 |n+1,k,r,V,acc,W,l,hk,hV,hg,ha,hI,hs,hb,hd,h=>by
  unfold kN at h
  have Lp:(acc.map (·.col)).length=r:=by rw[ew,ha]
  by_cases hr:r<R
  ·rw[az hr] at h
   have hgo:∀a,a<R→aR V[a*C+k]! =true:=fun a ha=>tZ hg (by rw[hV];exact cd ha (by omega))
   cases hf:vf C k V (R - r) r with
   |none=>
    rw[hf] at h
    refine DO n (k+1) r V acc (by omega) hV hg ha (hI.none fun i h1 h2=>?_) hs hb hd h
    rw[Lp] at h1
    exact (Ju (hgo i h2)).1 (C7 hf i h1 (by omega))
   |some i=>
    rw[hf] at h
    dsimp only at h
    obtain⟨h1,h2,h3⟩:=C6 hf
    by_cases i8:(oy R C k i r V).all aR=true
    ·rw[az i8] at h
     obtain⟨h4,h5,h6⟩:=stepN_R hV hg (show k<C by omega) (show i<R by omega) hr i8
     have lg:toR C V i k≠0:=fun e=>h3 ((Ju (hgo i (by omega))).2 e)
     have hsw:d5 (toR C V) i r r k=toR C V i k:=by
      unfold d5
      by_cases e:r=i
      ·rw[az e,←e]
      ·rw[ay e,az rfl]
     have xU:=hI.step (i0:=i) (by rw[Lp];exact h1) (by omega) lg
     rw[Lp] at xU
     refine DO n (k+1) (r+1) _ _ (by omega) (by rw[tU,hV]) i8 (by simp[ha]) ?_ (fun x=>?_) ?_ (fun D JY hD=>?_) h
     ·rw[mg]
      exact xU.congr (by omega) fun a b ha hb=>(h6 a b ha hb).symm
     ·rw[←hs x,←Mq (f:=toR C V) (show i<R by omega) hr,←Mr (f:=d5 (toR C V) i r) hr (by rw[hsw];exact lg)]
      exact⟨fun h=>h.congr h6,fun h=>h.congr fun a b ha hb=>(h6 a b ha hb).symm⟩
     ·intro p hp
      rcases sK.1 hp with h7|h7
      ·exact hb p h7
      ·rw[G3.1 h7];exact⟨h4,by rw[h5,hsw];exact lg⟩
     ·rw[hd D JY hD,IH,tE,List.foldl_nil,hD.congr _ _ (fun a b ha hb=>h6 a b ha (by omega)),hD.elim hr (by rw[hsw];exact lg),h5,hsw]
      by_cases e:i=r
      ·rw[hD.congr (d5 (toR C V) i r) (toR C V) fun a b _ _=>by
        unfold d5
        by_cases e3:a=i
        ·rw[az e3,e3,e]
        ·rw[ay e3,ifn_]]
       simp only[e,ne_eq,EB,qX,Kw,pj]
       subst e
       grind
      ·rw[hD.swap _ i r (by omega) hr e]
       simp only[e,ne_eq,not_false_eq_true,qY,aN]
       grind
    ·rw[ay i8] at h;cases h
  ·rw[ay hr] at h
   cases h
   have hle:=hI.le
   rw[Lp] at hle
   exact⟨hV,hg,hI.full (by rw[Lp];omega) (by omega),hs,hb,hd⟩
theorem Ak(hV:V.length=R*C)(hg:V.all aR=true){W:List Nu}{l:List Pv}(h:kN R C C 0 0 V []=some (W,l)):KB R C (toR C V) W l:=
 DO C 0 0 V [] (by omega) hV hg rfl (JO _ R) (fun _=>Iff.rfl) (by simp) (fun D _ _=>by simp only[List.foldl_nil];grind) h
end
end
section
def mkM {α:Type}(R C:Nat)(f:Nat→Nat→α):List α:=(List.range R).flatMap fun i=>(List.range C).map (f i)
section
variable {α β:Type} {R C:Nat} {f g:Nat→Nat→α}
theorem Aq:mkM (R+1) C f=mkM R C f++(List.range C).map (f R):=by
 unfold mkM
 rw[uO,Br]
 simp
theorem c9:(mkM R C f).length=R*C:=by
 induction R with
 |zero=>simp[mkM]
 |succ R ih=>rw[Aq,eT,ih,ew,List.length_range,rC]
theorem tg {i k:Nat}(hi:i<R)(hk:k<C):(mkM R C f)[i*C+k]? =some (f i k):=by
 induction R with
 |zero=>omega
 |succ R ih=>
  rw[Aq]
  rcases ci i R with h|h
  ·have:=cd h hk
   rw[vo (by rw[c9];exact this)]
   exact ih h
  ·obtain rfl:i=R:=by omega
   rw[tF (by rw[c9];omega),c9,Bl,dc,IV hk]
   rfl
theorem rS [Inhabited α]{i k:Nat}(hi:i<R)(hk:k<C):(mkM R C f)[i*C+k]! =f i k:=by
 rw[Bh,tg hi hk];rfl
theorem CM {t:Nat}(h:t<R*C):∃i k,i<R∧k<C∧t=i*C+k:=by
 have hC:0<C:=by
  rcases iS C with h0|h0
  ·rw[h0,EP] at h;omega
  ·exact h0
 refine⟨t / C,t % C,?_,dv _ hC,?_⟩
 ·exact GY (by rw[cj];exact h)
 ·rw[cj];exact (nQ t C).symm
theorem mkM_ext {l:List α}(hl:l.length=R*C)(h:∀i k,i<R→k<C→l[i*C+k]? =some (f i k)):l=mkM R C f:=by
 apply GZ
 intro t
 rcases ci t (R*C) with ht|ht
 ·obtain⟨i,k,hi,hk,rfl⟩:=CM ht
  rw[h i k hi hk,tg hi hk]
 ·rw[jv (by omega),jv (by rw[c9];exact ht)]
theorem La(h:∀i k,i<R→k<C→f i k=g i k):mkM R C f=mkM R C g:=mkM_ext c9 fun i k hi hk=>by rw[tg hi hk,h i k hi hk]
theorem pw {p:α→Bool}:(mkM R C f).all p=true↔∀i k,i<R→k<C→p (f i k)=true:=by
 rw[bZ]
 constructor
 ·intro h i k hi hk
  exact h _ (b8 (tg hi hk))
 ·intro h x hx
  obtain⟨t,ht⟩:=zb hx
  have bF:t<R*C:=by have:=(pf.1 ht).1;rwa[c9] at this
  obtain⟨i,k,hi,hk,rfl⟩:=CM bF
  rw[tg hi hk] at ht
  injection ht with ht
  rw[←ht];exact h i k hi hk
end
end
section
section
variable {B:Nat} {hp:Hp} {g:Gh} {w w':World}
def Hp.re(hp:Hp)(k:Nat)(ds:List D):Hp:=⟨(hp.next,ds)::hp.vars.filter fun p=>!([k]:List Nat).contains p.1,hp.live,hp.next+1⟩
theorem wg {k:Nat}{ds a:List D}{j:Nat}(h:(hp.re k ds).vars.lookup j=some a):(j=hp.next∧a=ds)∨(j≠hp.next∧j≠k∧hp.vars.lookup j=some a):=by
 by_cases hj:j=hp.next
 ·subst hj
  have:some ds=some a:=by rw[←h];exact ai.symm
  injection this with this
  exact .inl ⟨rfl,this.symm⟩
 ·have h1:(hp.vars.filter fun p=>!([k]:List Nat).contains p.1).lookup j=some a:=by rw[←h];exact (ar hj).symm
  obtain⟨h2,h3⟩:=lc h1
  exact .inr ⟨hj,by simpa using h2,h3⟩
theorem bI.re(hr:HR B hp g w){k b:Nat}{tz:List D}(hk:hp.vars.lookup k=some tz)(ds:List D)(hs:w.heap.size≤w'.heap.size)(ho:∀c,c<w.heap.size→c≠g.μ k→w'.heap[c]? =w.heap[c]?)(hz:SzB w w' (g.μ k))(hb:b=g.μ k∨w.heap.size≤b):
  bI hp g w (hp.re k ds) (g.var hp.next b) w':=by
 have bF:=hr.var_lt hk
 obtain⟨h1,h2,h3,_⟩:=hr.var k tz hk
 refine⟨hs,fun p hp1 hf=>World.cell?_of_block (ho _ hp1 fun e=>hf (h3 p e)),fun p hpb hf=>?_,dH _,fun j hj=>?_,fun _ _ m _ hm=>⟨m,hm,aL _,fun _=>rfl⟩,fun c hc hf=>⟨ho _ hc fun e=>hf.1 k tz hk e.symm,fun _ _ h=>.inl h,fun j a hj=>?_,hf.2⟩,fun c=>?_⟩
 ·rcases hf with hf|hf
  ·exact hf
  ·rcases hb with hb|hb
   ·exact h3 p (by rw[hf,hb])
   ·omega
 ·show (if j=hp.next then _ else _)=_
  rw[ifn_]
 ·rcases wg hj with⟨rfl,_⟩|⟨lg,_,h⟩
  ·show (if _ then _ else _)≠_
   rw[az rfl]
   rcases hb with hb|hb
   ·rw[hb];exact hf.1 k tz hk
   ·omega
  ·show (if _ then _ else _)≠_
   rw[ay lg]
   exact hf.1 j a h
 ·by_cases hc:c=g.μ k
  ·subst hc;exact hz
  ·exact .same fun h=>ho c h hc
theorem HR.re(hr:HR B hp g w){k b:Nat}{tz:List D}(hk:hp.vars.lookup k=some tz)(ds:List D)(hs:w.heap.size≤w'.heap.size)(ho:∀c,c<w.heap.size→c≠g.μ k→w'.heap[c]? =w.heap[c]?)(hz:SzB w w' (g.μ k))(hb:b=g.μ k∨w.heap.size≤b)
  (cs:Array Value) (ty:TypeId) (hn:w'.heap[b]? =some (.cells cs ty (0,0))) (hl:ds.length≤cs.size) (hc:∀(j:Nat) (u:Value),cs[j]? =some u→(j<ds.length→u.oneCell'=true)∧∀d,ds[j]? =some d→aM hp g w d u):HR B (hp.re k ds) (g.var hp.next b) w':=by
 have m:=bI.re hr hk ds hs ho hz hb
 have hkl:=hr.var_lt hk
 obtain⟨hk1,xW,hk3,_⟩:=hr.var k tz hk
 have hbl:b<w'.heap.size:=(gH.1 hn).1
 have vU:(g.var hp.next b).μ hp.next=b:=az rfl
 have hμ:∀j,j<hp.next→(g.var hp.next b).μ j=g.μ j:=m.μ
 have hdiff:∀{j:Nat} {a:List D},j≠k→hp.vars.lookup j=some a→g.μ j≠g.μ k:=fun hj h e=>hj (hr.inj _ _ _ _ h hk e)
 have AG:∀{j:Nat} {a:List D},j≠k→hp.vars.lookup j=some a→g.μ j≠b:=fun hj h e=>by
  rcases hb with hb|hb
  ·exact hdiff hj h (by rw[e,hb])
  ·have:=hr.var_lt h;omega
 refine⟨fun j a hj=>?_,fun j j' a a' hj Hk he=>?_,fun id n e hi=>?_,fun id yQ t t' c hi yU he C2=>hr.tinj id yQ t t' c hi yU he C2,cU hr.base hs,fun p hf=>?_⟩
 ·rcases wg hj with⟨rfl,rfl⟩|⟨lg,hjk,h0⟩
  ·rw[vU]
   refine⟨dY _,?_,fun p hp'=>.inr hp',cs,ty,hn,hl,fun i u hu=>⟨(hc i u hu).1,fun d hd=>((hc i u hu).2 d hd).mono m⟩⟩
   rcases hb with hb|hb
   ·rw[hb];exact xW
   ·exact cU hr.base hb
  ·have bF:=hr.var_lt h0
   obtain⟨h1,h2,h3,sR,Jp,h4,h5,h6⟩:=hr.var j a h0
   rw[hμ j h1]
   exact⟨qi h1,h2,fun p hp'=>.inl (h3 p hp'),sR,Jp,(ho _ bF (hdiff hjk h0)).trans h4,h5,fun i u hu=>⟨(h6 i u hu).1,fun d hd=>((h6 i u hu).2 d hd).mono m⟩⟩
 ·rcases wg hj with⟨h1,_⟩|⟨h1,hjk,h0⟩ <;> rcases wg Hk with⟨h2,_⟩|⟨h2,hjk',Fj⟩
  ·omega
  ·rw[h1,vU,hμ j' (hr.var j' a' Fj).1] at he
   exact absurd he.symm (AG hjk' Fj)
  ·rw[h2,vU,hμ j (hr.var j a h0).1] at he
   exact absurd he (AG hjk h0)
  ·rw[hμ j (hr.var j a h0).1,hμ j' (hr.var j' a' Fj).1] at he
   exact hr.inj j j' a a' h0 Fj he
 ·obtain⟨h1,us,hz',h2,h3⟩:=hr.tok id n e hi
  refine⟨qi h1,us,hz',⟨h2.1,?_⟩,fun c C3=>⟨fun p h4 h5=>.inl ((h3 c C3).1 p h4 h5),fun j a hj=>?_⟩⟩
  ·rcases h2.2 with h0|⟨c,cap,cur,hv,hB,hh,r⟩
   ·exact .inl h0
   ·exact .inr ⟨c,cap,cur,hv,hB,(ho c (gH.1 hh).1 fun e=>(h3 c (by rw[hv];rfl)).2 k tz hk e.symm).trans hh,r⟩
  ·rcases wg hj with⟨rfl,_⟩|⟨lg,_,h0⟩
   ·rw[vU]
    rcases hb with hb|hb
    ·rw[hb];exact (h3 c C3).2 k tz hk
    ·have:=(h2.lt c C3).2;omega
   ·rw[hμ j (hr.var j a h0).1]
    exact (h3 c C3).2 j a h0
 ·rcases hf with hf|hf
  ·exact bT (hr.fits p hf) hs
  ·rw[hf];exact hbl
theorem bI.addVar(hp:Hp)(g:Gh)(ds:List D){b:Nat}(hs:w.heap.size≤w'.heap.size)(hb:∀c,c<w.heap.size→w'.heap[c]? =w.heap[c]?)(zT:w.heap.size≤b):bI hp g w (hp.var ds) (g.var hp.next b) w':=by
 refine⟨hs,fun p hp1 _=>World.cell?_of_block (hb _ hp1),fun p hpb hf=>?_,dH _,fun k hk=>?_,fun _ _ m _ hm=>⟨m,hm,aL _,fun _=>rfl⟩,fun c hc hf=>⟨hb _ hc,fun _ _ h=>.inl h,fun k ds' hk=>?_,hf.2⟩,fun c=>.same (hb c)⟩
 ·rcases hf with hf|hf
  ·exact hf
  ·omega
 ·show (if k=hp.next then _ else _)=_
  rw[ifn_]
 ·show (if k=hp.next then _ else _)≠_
  by_cases yT:k=hp.next
  ·rw[az yT];omega
  ·rw[ay yT]
   exact hf.1 k ds' (by rw[←hk];exact (ar yT).symm)
theorem HR.addVar(hr:HR B hp g w)(ds:List D){b:Nat}(hs:w.heap.size≤w'.heap.size)(hb:∀c,c<w.heap.size→w'.heap[c]? =w.heap[c]?)(zT:w.heap.size≤b)(cs:Array Value)(ty:TypeId)(hn:w'.heap[b]? =some (.cells cs ty (0,0)))(hl:ds.length≤cs.size)
  (hc:∀(j:Nat) (u:Value),cs[j]? =some u→(j<ds.length→u.oneCell'=true)∧∀d,ds[j]? =some d→aM (hp.var ds) (g.var hp.next b) w' d u):HR B (hp.var ds) (g.var hp.next b) w':=by
 have m:=bI.addVar hp g ds hs hb zT
 have hμ:∀k,k<hp.next→(g.var hp.next b).μ k=g.μ k:=m.μ
 have vU:(g.var hp.next b).μ hp.next=b:=az rfl
 have hbl:b<w'.heap.size:=(gH.1 hn).1
 have look:∀{j:Nat} {a:List D},(hp.var ds).vars.lookup j=some a→(j=hp.next∧a=ds)∨(j≠hp.next∧hp.vars.lookup j=some a):=by
  intro j a hj
  by_cases xX:j=hp.next
  ·subst xX
   have:some ds=some a:=by rw[←hj];exact ai.symm
   injection this with this
   exact .inl ⟨rfl,this.symm⟩
  ·exact .inr ⟨xX,by rw[←hj];exact (ar xX).symm⟩
 refine⟨fun j a hj=>?_,fun j j' a a' hj Hk he=>?_,fun id n e hi=>?_,fun id yQ t t' c hi yU he C2=>hr.tinj id yQ t t' c hi yU he C2,cU hr.base hs,fun p hf=>?_⟩
 ·rcases look hj with⟨rfl,rfl⟩|⟨lg,h0⟩
  ·rw[vU]
   exact⟨dY _,cU hr.base zT,fun p hp'=>.inr hp',cs,ty,hn,hl,hc⟩
  ·have bF:=hr.var_lt h0
   obtain⟨h1,h2,h3,sR,Jp,h4,h5,h6⟩:=hr.var j a h0
   rw[hμ j h1]
   exact⟨qi h1,h2,fun p hp'=>.inl (h3 p hp'),sR,Jp,(hb _ bF).trans h4,h5,fun i u hu=>⟨(h6 i u hu).1,fun d hd=>((h6 i u hu).2 d hd).mono m⟩⟩
 ·rcases look hj with⟨h1,_⟩|⟨h1,h0⟩ <;> rcases look Hk with⟨h2,_⟩|⟨h2,Fj⟩
  ·omega
  ·rw[h1,vU,hμ j' (hr.var j' a' Fj).1] at he
   have:=hr.var_lt Fj;omega
  ·rw[h2,vU,hμ j (hr.var j a h0).1] at he
   have:=hr.var_lt h0;omega
  ·rw[hμ j (hr.var j a h0).1,hμ j' (hr.var j' a' Fj).1] at he
   exact hr.inj j j' a a' h0 Fj he
 ·obtain⟨h1,us,hz',h2,h3⟩:=hr.tok id n e hi
  refine⟨qi h1,us,hz',⟨h2.1,?_⟩,fun c C3=>⟨fun p h4 h5=>.inl ((h3 c C3).1 p h4 h5),fun j a hj=>?_⟩⟩
  ·rcases h2.2 with h0|⟨c,cap,cur,hv,hB,hh,r⟩
   ·exact .inl h0
   ·exact .inr ⟨c,cap,cur,hv,hB,(hb c (gH.1 hh).1).trans hh,r⟩
  ·rcases look hj with⟨rfl,_⟩|⟨lg,h0⟩
   ·rw[vU]
    have:=(h2.lt c C3).2;omega
   ·rw[hμ j (hr.var j a h0).1]
    exact (h3 c C3).2 j a h0
 ·rcases hf with hf|hf
  ·exact bT (hr.fits p hf) hs
  ·rw[hf];exact hbl
end
end
section
def D.toOw:D→D
 | .gw k z n=>.ow k 0 z n
 |d=>d
section
variable {P:Program} {tb:TypeId→Option TyE} {md:Md} {B:Nat} {hp hp':Hp} {g:Gh} {w w':World} {d:D} {v:Value}
theorem aM.toOw(h:aM hp g w d v):aM hp g w d.toOw v:=by
 cases h with
 |gw k z n c hk h1 h2 hs=>exact .ow k 0 z n c hk h1 h2
 |e x v h=>exact .e x v h
 |own id z n xs v h hid ht=>exact .own id z n xs v h hid ht
 |fu z n xs A h=>exact .fu z n xs A h
 |ag ds cs hl h1 hr=>exact .ag ds cs hl h1 hr
 |tu ds cs hl hr=>exact .tu ds cs hl hr
 |fp xs off ad hb hc=>exact .fp xs off ad hb hc
 |pt k off hk=>exact .pt k off hk
 |ow k off z n c hk h1 h2=>exact .ow k off z n c hk h1 h2
 |fn f ks hk=>exact .fn f ks hk
 |opt b d v hi h=>exact .opt b d v hi h
 |top v=>exact .top v
theorem Jr {k off:Nat}(d:D):d.toOw.un=.pt k off↔d.un=.pt k off:=by cases d <;> simp[D.toOw,D.un]
theorem nL.toOw {o:Oper}{ev:Operand→D}(h:nL P o (fun x=>(ev x).toOw) hp d hp'):nL P o ev hp d hp':=
 fun B g w a Kn Q hr hx hk=>h B g w a Kn Q hr (fun x vX=>(hx x vX).toOw) hk
theorem mD.toOw {o:Oper}{ev:Operand→D}(h:mD P tb md o (fun x=>(ev x).toOw) hp d hp'):mD P tb md o ev hp d hp':=
 ⟨h.ok.toOw,fun h1=>⟨(h.quiet h1).1,fun bG h3=>((h.quiet h1).2 bG fun hl x hx j off e=>h3 hl x hx j off ((Jr _).1 e)).toOw⟩,h.fr,fun hl x hx j off e=>h.lk hl x hx j off ((Jr _).2 e)⟩
variable {ops:Array Oper} {K:List (Nat×D)→Hp→Prop} {os:List Oper} {tm:List (Nat×D)} {t:Tmp} {dst:Option Tmp} {op:Op} {ty:TypeId} {pos:String} {af:Array Edge} {gd:Option (Nat×Bool)}
theorem stG(tok:TOk P tb)(h:AVC P tb md.dr op ty (fun x=>(evD tm x).toOw) hp (Kq d hp'))(h2:bB P tb md ops K os (xA dst d tm) hp')(hn:md.nc tb op=true:=by exact rfl):bB P tb md ops K (⟨dst,op,ty,pos,af,none⟩::os) tm hp:=
 FI rfl (((AVC.snd (o:=⟨dst,op,ty,pos,af,none⟩) tok h).q hn).toOw) h2
theorem JL(tok:TOk P tb){ev:Operand→D}{tt e:TypeId}{ti j:TyE}{x:Operand}{cs:List D}(ht:tb tt=some ti)(he:tb e=some j)(hx:(ev x).cells=some cs)(hl:cs.length=j.size)(yR:ti.ty=.slice e:=by exact rfl)(hz:Nat.ble 1 j.size=true:=by exact rfl)(hsm:Nat.ble j.size 16777216=true:=by exact rfl):
  nL P ⟨dst,.buildSlice tt 1 #[(0,x)],ty,pos,af,gd⟩ ev hp (.gw hp.next j.size 1) (hp.var cs):=by
 have hz:=bg hz
 have hsm:=bg hsm
 have hu:=tok.slice ht yR
 refine .step fun B g w a hr vX=>?_
 have cM:=vX x (by simp[Op.operands])
 have qr:=cM.cells hx
 have AK:(a.eval x).cells.size=j.size:=by rw[←eg,←qr.1.1,hl]
 obtain⟨zv,hzv,CZ⟩:=tok.run_zero he w
 obtain⟨_,_,hzl,HZ⟩:=tok e j he
 have hs:=tok.run_sizeOf he w
 have yV:Instr.fill (fun i=>some (i*j.size,j.size)) ((Array.range (1*j.size)).map (zv.cells[·% zv.cells.size]!)) [(0,a.eval x)]=some (a.eval x).cells:=by
  have h0:fU (fun i=>some (i*j.size,j.size)) ((Array.range (1*j.size)).map (zv.cells[·% zv.cells.size]!)).toList ([(0,a.eval x)].map fun p=>(p.1,p.2.cells.toList))=some (a.eval x).cells.toList:=by
   have Id:((Array.range (1*j.size)).map (zv.cells[·% zv.cells.size]!)).toList.length=j.size:=by simp
   simp only[cp,dh,fU,fj,br,eg]
   rw[ay (by rw[AK,Array.size_map,Array.size_range];omega)]
   rw[EU,ph,Bk (by rw[Id];omega),tG]
  have:=zU h0
  simpa using this
 have bK:(Instr.buildSlice tt 1 #[(0,a.eval x)]).run P w=.ok (.slice (some ⟨w.heap.size,0,none⟩) 1 1) (w.alloc (.cells (a.eval x).cells e)):=by
  have hsm2:¬1*j.size > 2 ^ 24:=by omega
  have lg:¬1*j.size=0:=by omega
  simp only[Instr.buildSlice,Sem.run_bind,run_underlying hu,Result.andThen_ok,hs,ay hsm2,ay lg,hzv,Sem.run_pure]
  simp only[yV]
  rfl
 refine⟨.slice (some ⟨w.heap.size,0,none⟩) 1 1,g.var hp.next w.heap.size,w.alloc (.cells (a.eval x).cells e),?_,hr.newVar cs _ e (by rw[AK,hl];exact aL _) (fun i u hu=>?_),bI.var hp g w cs _,?_,(Below.refl _ _).alloc hr.base _,fun p _ h=>.inl h⟩
 ·simp[execOp,bK]
 ·have sG:(a.eval x).cells.toList[i]? =some u:=by simpa using hu
  exact⟨fun _=>qr.2 u (b8 sG),fun d hd=>qr.1.2 i d u hd sG⟩
 ·have:=aM.gw (hp:=hp.var cs) (g:=g.var hp.next w.heap.size) (w:=w.alloc (.cells (a.eval x).cells e)) hp.next j.size 1 1 (dY _) (aL _) (by decide) ⟨(a.eval x).cells,e,(0,0),by rw[show (g.var hp.next w.heap.size).μ hp.next=w.heap.size from az rfl];exact heap_alloc_new w _,by omega⟩
  rwa[show (g.var hp.next w.heap.size).μ hp.next=w.heap.size from az rfl] at this
theorem xw(w:World)(t ty e tt:TypeId)(i:TypeInfo)(ht:P.underlying t=some (.slice e))(hi:P.info? e=some i)
  (g HD sCap:Nat) (cur:Array Value) (hg:w.heap[g]? =some (.cells cur tt (0,0)))
  (a:Addr) (m c:Nat) (news:List Value) (hl:news.length=m*i.size) (p7:∀j u,news[j]? =some u→w.cell? (a.add j)=some u) (h1:∀u∈news,u.oneCell'=true)
  (sH:HD+m≤sCap) (Cs:HD*i.size+news.length≤cur.size):
  (Builtin.append_ #[t,t] ty #[.slice (some ⟨g,0,none⟩) HD sCap,.slice (some a) m c]).run P w=
   .ok (.slice (some ⟨g,0,none⟩) (HD+m) sCap) (w.setRow g (cur.toList.take (HD*i.size)++news++cur.toList.drop (HD*i.size+news.length)).toArray):=by
 have hf:=run_firstCells_some (P:=P) w i.size m a m c news hl p7
 have xU:=run_storeCells_at P g (HD*i.size) tt news 0 cur w hg (by simpa using Cs) h1
 simp only[mf] at xU
 simp[Builtin.append_,run_underlying ht,sizeOf,typeInfo,hi,Builtin.lenOf,sH,hf,Addr.add_lit,xU]
structure AppG(w:World)(g:Nat)(v':Value)(w':World)(b n z:Nat)(xs:List Value):Prop where
 size:w.heap.size≤w'.heap.size
 old:∀c,c<w.heap.size→c≠g→w'.heap[c]? =w.heap[c]?
 sz:SzB w w' g
 blk:b=g∨w.heap.size≤b
 rest:w'.os=w.os∧w'.tape=w.tape∧w'.output=w.output
 row:∃(cs:Array Value) (tt:TypeId) (cap:Nat),v'=.slice (some ⟨b,0,none⟩) n cap∧n≤cap∧cap≤maxLen∧w'.heap[b]? =some (.cells cs tt (0,0))∧cap*z≤cs.size∧cs.toList.take (n*z)=xs
theorem Cg(tok:TOk P tb){t e:TypeId}{ti j:TyE}(ht:tb t=some ti)(yR:ti.ty=.slice e)(he:tb e=some j)(hz:0<j.size)(w:World)(ty tt:TypeId)(g n cap:Nat)(cur:Array Value)(hg:w.heap[g]? =some (.cells cur tt (0,0)))(oB:n≤cap)(nJ:cap≤maxLen)(qr:cap*j.size≤cur.size)
  (a:Addr) (m c:Nat) (news:List Value) (hl:news.length=m*j.size) (p7:∀j u,news[j]? =some u→w.cell? (a.add j)=some u) (h1:∀u∈news,u.oneCell'=true) (hm:0<m) (hb:(n+m)*max 1 j.bytes≤140737488355328):
  ∃v' w' b,(Builtin.append_ #[t,t] ty #[.slice (some ⟨g,0,none⟩) n cap,.slice (some a) m c]).run P w=.ok v' w'∧AppG w g v' w' b (n+m) j.size (cur.toList.take (n*j.size)++news):=by
 obtain⟨f,zz,LX,JW,hf2,hf3,hf4,_⟩:=tok.inf he
 have hu:=tok.slice ht yR
 have hgl:g<w.heap.size:=(gH.1 hg).1
 have LW:n+m≤140737488355328:=cU (yq _ (by omega)) hb
 have AG:(n+m)*f.bytes≤140737488355328:=cU (tI _ (by rw[hf2];omega)) hb
 have hns:n*j.size≤cap*j.size:=cg _ oB
 have zS:(cur.toList.take (n*j.size)).length=n*j.size:=by rw[eI,eg];omega
 by_cases sH:n+m≤cap
 ·have H9:(n+m)*j.size≤cap*j.size:=cg _ sH
  rw[bj] at H9
  have hr:=xw (P:=P) w t ty e tt f hu LX g n cap cur hg a m c news (by rw[JW];exact hl) p7 h1 sH (by rw[JW,hl];omega)
  rw[JW] at hr
  have AF:(cur.toList.take (n*j.size)++news++cur.toList.drop (n*j.size+news.length)).toArray.size=cur.size:=by
   simp only[lW,eT,eI,gi,eg];omega
  refine⟨_,_,g,hr,by simp,fun c _ hc=>setRow_other w g c _ hc,SzB.row hg AF,.inl rfl,⟨rfl,rfl,rfl⟩,_,tt,cap,rfl,sH,nJ,setRow_heap w g cur _ tt (0,0) hg,by rw[AF];exact qr,?_⟩
  have e1:(n+m)*j.size=(cur.toList.take (n*j.size)++news).length:=by rw[eT,zS,hl,bj]
  rw[e1]
  exact oV
 ·have holds:∀i u,(cur.toList.take (n*j.size))[i]? =some u→w.cell? ((⟨g,0,none⟩:Addr).add i)=some u:=fun i u hu=>by
   rw[gY] at hu
   split at hu
   ·rw[Addr.add_lit]
    simpa[World.cell?,hg] using hu
   ·cases hu
  have hr:=run_append_grow (P:=P) w t ty e f zz hu LX hf3 ⟨g,0,none⟩ n cap (cur.toList.take (n*j.size)) (by rw[JW];exact zS) holds a m c news (by rw[JW];exact hl) p7 (by omega) (by omega) (growslice_fits (by omega) AG)
  have zT:=grownCap_ge w (n+m) cap e
  have hzs:zz.cells.size=j.size:=by
   have h4:=(tok e j he).2.2.1
   rw[←eg,hf4,h4]
  refine⟨_,_,w.heap.size,hr,by simp,fun c hc _=>heap_alloc_old w.drew _ hc,.same fun h=>heap_alloc_old w.drew _ h,.inr (aL _),⟨rfl,rfl,rfl⟩,_,e,_,rfl,zT,grownCap_le_maxLen w (n+m) cap e (by unfold maxLen;omega),heap_alloc_new w.drew _,?_,?_⟩
  ·simp only[Bn,lW,size_zeroCells,hzs,zS,hl,←bj]
   exact cg _ (by omega)
  ·have e1:(n+m)*j.size=(cur.toList.take (n*j.size)++news).length:=by rw[eT,zS,hl,bj]
   simp only[EA]
   rw[e1]
   exact oV
theorem appR_ok(tok:TOk P tb){ev:Operand→D}{t e:TypeId}{ti j:TyE}{x y:Operand}{k n ky:Nat}{ds news:List D}(ht:tb t=some ti)(he:tb e=some j)(hk:hp.vars.lookup k=some ds)(hy:hp.vars.lookup ky=some news)(hx:ev x=.gw k j.size n)(hyy:ev y=.gw ky j.size 1)(hl:ds.length=n*j.size)(Id:news.length=j.size)(hb:(n+1)*max 1 j.bytes≤140737488355328)
  (yR:ti.ty=.slice e:=by exact rfl) (hz:Nat.ble 1 j.size=true:=by exact rfl):
  nL P ⟨dst,.call ⟨.builtin .append,#[x,y],#[t,t]⟩,ty,pos,af,gd⟩ ev hp (.gw hp.next j.size (n+1)) (hp.re k (ds++news)):=by
 have hz:=bg hz
 refine .step fun B g w a hr vX=>?_
 ·have h1:=vX x (cz (by simp))
  have h2:=vX y (cz (by simp))
  rw[hx] at h1
  rw[hyy] at h2
  obtain⟨q1,q2,q3,cs,tt,q4,q5,q6⟩:=hr.var k ds hk
  obtain⟨y1,y2,y3,ys,yt,y4,y5,y6⟩:=hr.var ky news hy
  generalize hv1:a.eval x=v1 at h1
  generalize hv2:a.eval y=v2 at h2
  cases h1 with
  |gw _ _ _ cap yT oB nJ hs=>
  cases h2 with
  |gw _ _ _ c hkn2 hnc2 hcm2 H6=>
  obtain⟨sR,tt',l',h3,h4⟩:=hs
  rw[q4] at h3
  injection h3 with h3
  injection h3 with h3 h5 h6
  subst h3;subst h5;subst h6
  have p7:∀i u,(ys.toList.take j.size)[i]? =some u→w.cell? ((⟨g.μ ky,0,none⟩:Addr).add i)=some u:=fun i u hu=>by
   rw[gY] at hu
   split at hu
   ·rw[Addr.add_lit]
    simpa[World.cell?,y4] using hu
   ·cases hu
  have hyone:∀u∈ys.toList.take j.size,u.oneCell'=true:=fun u hu=>by
   obtain⟨i,hi⟩:=zb hu
   rw[gY] at hi
   split at hi
   ·rename_i bF
    exact (y6 i u (by simpa using hi)).1 (by omega)
   ·cases hi
  obtain⟨v',w',b,bK,qT⟩:=Cg tok ht yR he hz w ty tt (g.μ k) n cap cs q4 oB nJ h4 ⟨g.μ ky,0,none⟩ 1 c (ys.toList.take j.size) (by rw[eI,eg];omega) p7 hyone (by omega) hb
  obtain⟨cs2,tt2,cap2,tY,JX,nb,hh2,N6,Fh⟩:=qT.row
  have hlen:(ds++news).length=(n+1)*j.size:=by rw[eT,hl,Id,bj,de]
  have Fg:(n+1)*j.size≤cap2*j.size:=cg _ JX
  have hHR:HR B (hp.re k (ds++news)) (g.var hp.next b) w':=hr.re hk _ qT.size qT.old qT.sz qT.blk cs2 tt2 hh2 (by rw[hlen];omega) (fun i u hu=>by
   have hwin:i<(n+1)*j.size→(cs.toList.take (n*j.size)++ys.toList.take j.size)[i]? =some u:=fun hi=>by
    rw[←Fh,gY,az hi];simpa using hu
   have No:(cs.toList.take (n*j.size)).length=n*j.size:=by rw[eI,eg];omega
   have look:∀hi:i<(n+1)*j.size,(i<n*j.size∧cs[i]? =some u)∨(n*j.size≤i∧i - n*j.size<j.size∧ys[i - n*j.size]? =some u):=fun hi=>by
    have h:=hwin hi
    rcases ci i (n*j.size) with bF|zT
    ·rw[vo (by omega),gY,az bF] at h
     exact .inl ⟨bF,by simpa using h⟩
    ·rw[tF (by omega),No,gY] at h
     rw[bj,de] at hi
     rw[ifp_] at h
     exact .inr ⟨zT,by omega,by simpa using h⟩
   refine⟨fun hi=>?_,fun d hd=>?_⟩
   ·rw[hlen] at hi
    rcases look hi with⟨h5,h6⟩|⟨h5,h6,h7⟩
    ·exact (q6 i u h6).1 (by omega)
    ·exact (y6 _ u h7).1 (by omega)
   ·have hi:i<(n+1)*j.size:=by rw[←hlen];exact (pf.1 hd).1
    rcases look hi with⟨h5,h6⟩|⟨h5,h6,h7⟩
    ·rw[vo (by omega)] at hd
     exact (q6 i u h6).2 d hd
    ·rw[tF (by omega),hl] at hd
     exact (y6 _ u h7).2 d hd)
  refine⟨v',g.var hp.next b,w',?_,hHR,bI.re hr hk _ qT.size qT.old qT.sz qT.blk,?_,⟨qT.rest.1,qT.rest.2.1,qT.rest.2.2,qT.size,fun c hc=>qT.old c (bT hc hr.base) (by omega)⟩,fun p h5 h6=>.inl h6⟩
  ·simp only[execOp,Array.map_map,EF,cp,dh,resolve,invoke,builtin,hv1,hv2,Sem.run_bind]
   simp[resolve,invoke,builtin,hv1,hv2,bK]
  ·subst tY
   have vU:(g.var hp.next b).μ hp.next=b:=az rfl
   have:=aM.gw (hp:=hp.re k (ds++news)) (g:=g.var hp.next b) (w:=w') hp.next j.size (n+1) cap2 (dY _) JX nb ⟨cs2,tt2,(0,0),by rw[vU];exact hh2,N6⟩
   rwa[vU] at this
end
end
section
section
variable {P:Program} {tb:TypeId→Option TyE} {md:Md} {B:Nat} {hp hp':Hp} {g:Gh} {w w':World} {d:D} {v:Value}
theorem appN(tok:TOk P tb){ev:Operand→D}{dst:Option Tmp}{ty:TypeId}{pos:String}{af:Array Edge}{gd:Option (Nat×Bool)}{t e:TypeId}{ti j:TyE}{x y:Operand}{ky:Nat}{news:List D}(ht:tb t=some ti)(he:tb e=some j)(hy:hp.vars.lookup ky=some news)(hx:ev x=.e (.lit (.slice none 0 0)))(hyy:ev y=.gw ky j.size 1)(Id:news.length=j.size)(hb:1*max 1 j.bytes≤140737488355328)
  (yR:ti.ty=.slice e:=by exact rfl) (hz:Nat.ble 1 j.size=true:=by exact rfl):
  mD P tb md ⟨dst,.call ⟨.builtin .append,#[x,y],#[t,t]⟩,ty,pos,af,gd⟩ ev hp (.gw hp.next j.size 1) (hp.var news):=by
 have hz:=bg hz
 refine⟨.step fun B g w a hr vX=>?_,fun hq=>?_,fun _=>⟨dH _,fun j hj=>ar (by omega)⟩,fun h=>by cases h⟩
 ·have h1:=vX x (cz (by simp))
  have h2:=vX y (cz (by simp))
  rw[hx] at h1
  rw[hyy] at h2
  have h1:=h1.lit
  obtain⟨y1,y2,y3,ys,yt,y4,y5,y6⟩:=hr.var ky news hy
  generalize hv2:a.eval y=v2 at h2
  cases h2 with
  |gw _ _ _ c hkn2 hnc2 hcm2 H6=>
  obtain⟨f,zz,LX,JW,hf2,hf3,hf4,_⟩:=tok.inf he
  have hu:=tok.slice ht yR
  have hzs:zz.cells.size=j.size:=by
   have h4:=(tok e j he).2.2.1
   rw[←eg,hf4,h4]
  have AG:f.bytes≤140737488355328:=by rw[hf2];omega
  have p7:∀i u,(ys.toList.take j.size)[i]? =some u→w.cell? ((⟨g.μ ky,0,none⟩:Addr).add i)=some u:=fun i u hu=>by
   rw[gY] at hu
   split at hu
   ·rw[Addr.add_lit]
    simpa[World.cell?,y4] using hu
   ·cases hu
  have AF:(ys.toList.take j.size).length=j.size:=by rw[eI,eg];omega
  have bK:=run_append_nil (P:=P) w t ty e f zz hu LX hf3 ⟨g.μ ky,0,none⟩ 1 c (ys.toList.take j.size) (by rw[JW,AF];omega) p7 (by omega) (by omega) (by omega)
  have zT:=grownCap_ge w 1 0 e
  have hold:∀c,c<w.heap.size→(w.drew.alloc (.cells ((ys.toList.take j.size).toArray++Builtin.zeroCells zz.cells (grownCap w 1 0 e - 1)) e)).heap[c]? =w.heap[c]? :=fun c hc=>heap_alloc_old w.drew _ hc
  have sP:=heap_alloc_new w.drew (.cells ((ys.toList.take j.size).toArray++Builtin.zeroCells zz.cells (grownCap w 1 0 e - 1)) e)
  have mo:=bI.addVar (w:=w) (w':=w.drew.alloc (.cells ((ys.toList.take j.size).toArray++Builtin.zeroCells zz.cells (grownCap w 1 0 e - 1)) e)) hp g news (b:=w.heap.size) (by simp) hold (aL _)
  have hsz:((ys.toList.take j.size).toArray++Builtin.zeroCells zz.cells (grownCap w 1 0 e - 1)).size=grownCap w 1 0 e*j.size:=by
   simp only[Bn,lW,size_zeroCells,hzs,AF]
   have:grownCap w 1 0 e=1+(grownCap w 1 0 e - 1):=by omega
   rw[this,bj,de]
   congr 2
   omega
  have h1z:1*j.size≤grownCap w 1 0 e*j.size:=cg _ zT
  refine⟨.slice (some ⟨w.heap.size,0,none⟩) 1 (grownCap w 1 0 e),g.var hp.next w.heap.size,_,?_,hr.addVar news (w':=w.drew.alloc (.cells ((ys.toList.take j.size).toArray++Builtin.zeroCells zz.cells (grownCap w 1 0 e - 1)) e)) (by simp) hold (aL _) _ e sP (by rw[hsz,Id];omega) (fun i u hu=>?_),mo,?_,⟨rfl,rfl,rfl,by simp,fun c hc=>hold c (bT hc hr.base)⟩,fun p h5 h6=>.inl h6⟩
  ·simp only[execOp,Array.map_map,EF,cp,dh,resolve,invoke,builtin,h1,hv2,Sem.run_bind]
   simp[resolve,invoke,builtin,h1,hv2,bK]
  ·have Cp:i<news.length→ys[i]? =some u:=fun hi=>by
    have yU:i<(ys.toList.take j.size).toArray.size:=by rw[lW,AF];omega
    rw[yp yU,Bq,gY,ifp_] at hu
    simpa using hu
   exact⟨fun hi=>(y6 i u (Cp hi)).1 hi,fun d hd=>((y6 i u (Cp (pf.1 hd).1)).2 d hd).mono mo⟩
  ·have vU:(g.var hp.next w.heap.size).μ hp.next=w.heap.size:=az rfl
   have:=aM.gw (hp:=hp.var news) (g:=g.var hp.next w.heap.size) (w:=w.drew.alloc (.cells ((ys.toList.take j.size).toArray++Builtin.zeroCells zz.cells (grownCap w 1 0 e - 1)) e)) hp.next j.size 1 (grownCap w 1 0 e) (dY _) zT (grownCap_le_maxLen w 1 0 e (by decide)) ⟨_,e,(0,0),by rw[vU];exact sP,by rw[hsz];exact aL _⟩
   rwa[vU] at this
 ·exfalso
  cases md with
  |seq=>cases hq
  |any L=>
   have h1:((pS (.call ⟨.builtin .append,#[x,y],#[t,t]⟩)&&!M4 tb (.call ⟨.builtin .append,#[x,y],#[t,t]⟩))||vi tb L (.call ⟨.builtin .append,#[x,y],#[t,t]⟩))=true:=hq
   simp[pS,vi] at h1
def Fv(hp:Hp)(g:Gh):Addr→Prop:=fun p=>g.F p∧∀k ds,hp.vars.lookup k=some ds→g.μ k≠p.block
def AR(hp:Hp)(d d':D):Prop:=∀(B:Nat) (g:Gh) (w:World) (v:Value),HR B hp g w→aM hp g w d v→kB w (Fv hp g) d' v
theorem AR.data(h:d.ex.pure=true):AR hp d d.ex:=fun _ _ _ _ _ hd=>(hd.xport h).less fun _ hp=>hp.1
theorem AR.sl {k z n off:Nat}{F:List E}(hv:hp.vars.lookup k=some (dC F))(hz:0<z)(hl:off+n*z≤F.length):AR hp (.ow k off z n) (.e (.sl z n ((F.drop off).take (n*z)))):=by
 intro B g w v hr hd
 obtain⟨h1,h2,h3,cs,ty,h4,h5,h6⟩:=hr.var k _ hv
 rw[gW] at h5
 cases hd with
 |ow _ _ _ _ c hk oB nJ=>
  refine .e _ _ (.sl z n _ (some ⟨g.μ k,off,none⟩) c (fun i=>cs.getD (off+i) undef) (by rw[eI,gi];omega) hz oB nJ (fun _=>⟨_,rfl,(gH.1 h4).1⟩) (fun ad ha i e hi=>?_) (fun i e hi=>?_))
  ·injection ha with ha
   subst ha
   have yU:i<n*z:=by
    have:=(pf.1 hi).1
    rw[eI] at this;omega
   have Lq:(⟨g.μ k,off,none⟩:Addr).add i=⟨g.μ k,off+i,none⟩:=by unfold Addr.add;split <;> simp_all
   refine⟨?_,fun hf=>hf.2 k _ hv (by rw[iN])⟩
   rw[Lq]
   have bF:off+i<cs.size:=by omega
   simp[World.cell?,h4,cP,bF]
  ·have yU:i<n*z:=by
    have:=(pf.1 hi).1
    rw[eI] at this;omega
   have bF:off+i<cs.size:=by omega
   rw[gY,az yU,pg] at hi
   have hu:=h6 (off+i) (cs.getD (off+i) undef) (by simp[cP,bF])
   have:=hu.2 (.e e) (by unfold dC;rw[dc,hi];rfl)
   cases this with
   |e _ _ h7=>exact h7.less fun p hp=>hp.1
def ARs(hp:Hp):List D→List D→Prop
 |[],[]=>True
 |d::ds,e::es=>AR hp d e∧ARs hp ds es
 |_,_=>False
theorem ARs.get:∀{ds es:List D},ARs hp ds es→ds.length=es.length∧∀(j:Nat) (e:D),es[j]? =some e→∃d,ds[j]? =some d∧AR hp d e
 |[],[],_=>⟨rfl,fun j e h=>by simp at h⟩
 |d::ds,e::es,⟨h1,h2⟩=>by
  obtain⟨h3,h4⟩:=ARs.get h2
  refine⟨by simp[h3],fun j x hx=>?_⟩
  cases j with
  |zero=>simp at hx;subst hx;exact⟨d,rfl,h1⟩
  |succ j=>exact h4 j x (by simpa using hx)
 |[],_::_,h=>h.elim
 |_::_,[],h=>h.elim
theorem AR.ag {ds es:List D}(h:ARs hp ds es):AR hp (.ag ds) (.ag es):=by
 intro B g w v hr hd
 obtain⟨h1,h2⟩:=h.get
 cases hd with
 |ag _ cs hl ho Fe=>
  refine .ag es cs (by omega) ho fun j e u hj hu=>?_
  obtain⟨d,h3,h4⟩:=h2 j e hj
  exact h4 B g w u hr (Fe j d u h3 hu)
def D.flatC:D→Bool
 | .e (.lit _)=>true
 |_=>false
def D.flat1:D→Bool
 | .ag ds=>ds.all D.flatC
 |d=>d.flatC
def D.flat:D→Bool
 | .tu ds=>ds.all D.flat1
 |d=>d.flat1
theorem GB {F:Addr→Prop}(h:kB w F d v)(hf:d.flatC=true)(hp:Hp)(g:Gh)(w':World):aM hp g w' d v:=by
 cases h with
 |e x v h=>
  cases x with
  |lit u=>cases h with|lit _ ho=>exact .e _ _ (.lit _ ho)
  |_=>cases hf
 |_=>cases hf
theorem GC {F:Addr→Prop}(h:kB w F d v)(hf:d.flat1=true)(hp:Hp)(g:Gh)(w':World):aM hp g w' d v:=by
 cases d with
 |ag ds=>
  cases h with
  |ag _ cs hl ho Fe=>exact .ag ds cs hl ho fun j d u hj hu=>GB (Fe j d u hj hu) (bZ.1 hf d (b8 hj)) hp g w'
 |_=>exact GB h hf hp g w'
theorem flat_to {F:Addr→Prop}(h:kB w F d v)(hf:d.flat=true)(hp:Hp)(g:Gh)(w':World):aM hp g w' d v:=by
 cases d with
 |tu ds=>
  cases h with
  |tu _ cs hl Fe=>exact .tu ds cs hl fun j d u hj hu=>GC (Fe j d u hj hu) (bZ.1 hf d (b8 hj)) hp g w'
 |_=>exact GC h hf hp g w'
theorem KN(hr:HR B hp g w):∀p:Addr,Fv hp g p→p.block<w.heap.size:=fun p h=>hr.fits p h.1
theorem yk {f:FuncId}{ds ds':List D}{r:D}(hc:aC P f ds' r)(ha:ARs hp ds ds'){vs:Array Value}(hr:HR B hp g w)(hsz:vs.size=ds.length)(cM:∀(j:Nat) (d:D) (u:Value),ds[j]? =some d→vs[j]? =some u→aM hp g w d u):
  Calls P f vs w fun e w'=>∃v,e=.returned v∧sS w.heap.size (Fv hp g) w' r v∧Below w.heap.size w w':=by
 obtain⟨h1,h2⟩:=ha.get
 refine hc.2 w _ vs (KN hr) (by omega) fun j e u hj hu=>?_
 obtain⟨d,h3,h4⟩:=h2 j e hj
 exact h4 B g w u hr (cM j d u h3 hu)
theorem HC.frz {f:FuncId}{ds ds':List D}{r:D}(hc:aC P f ds' r)(ha:ARs hp ds ds')(hf:r.flat=true):HC P f ds hp r hp:=by
 refine⟨hc.1,fun B g w vs hr hsz cM=>(yk hc ha hr hsz cM).mono ?_⟩
 rintro e w' ⟨v,rfl,lB,hb⟩
 have Ns:kB w' (Fv hp g) r v:=by
  unfold sS at lB
  split at lB
  ·cases hf
  ·exact lB
 exact⟨v,g,rfl,hr.keep hb.size hb.block,bI.keep hp g hb.size hb.block,flat_to Ns hf hp g w',hb.mono hr.base,fun _ _ h=>h⟩
def E.isLit:E→Bool
 | .lit _=>true
 |_=>false
theorem HC.adopt {f:FuncId}{ds ds':List D}{e z n:Nat}{xs:List E}(hc:aC P f ds' (.own e z n xs))(ha:ARs hp ds ds')(hn:0<n)(hx:xs.all E.isLit=true):HC P f ds hp (.gw hp.next z n) (hp.var (dC xs)):=by
 refine⟨hc.1,fun B g w vs hr hsz cM=>(yk hc ha hr hsz cM).mono ?_⟩
 rintro en w' ⟨v,rfl,⟨hz,⟨us,ho⟩,lB⟩,hb⟩
 rcases ho.2 with⟨rfl,rfl⟩|⟨b,cap,cur,rfl,hB,hh,oB,nJ,qr,No⟩
 ·omega
 have zS:xs.length=n*z:=by cases lB with|sl _ _ _ _ _ _ hl=>exact hl
 have JR:=ho.1
 have hns:n*z≤cap*z:=cg _ oB
 have mo:=bI.addVar hp g (dC xs) hb.size hb.block hB
 have vU:(g.var hp.next b).μ hp.next=b:=az rfl
 have cells:∀(i:Nat) (u:Value),cur[i]? =some u→∀x,xs[i]? =some x→∃y,x=.lit y∧u=y∧y.oneCell'=true:=fun i u hu x hxi=>by
  have hlit:x.isLit=true:=bZ.1 hx x (b8 hxi)
  cases lB with
  |sl _ _ _ _ _ us2 _ _ _ _ hA C3 Fe=>
   obtain⟨h5,_⟩:=C3 _ rfl i x hxi
   have h6:w'.cell? ((⟨b,0,none⟩:Addr).add i)=cur[i]? :=by rw[Addr.add_lit];simp[World.cell?,hh]
   rw[h6,hu] at h5
   injection h5 with h5
   have h7:=Fe i x hxi
   rw[←h5] at h7
   cases x with
   |lit y=>cases h7 with|lit _ ho=>exact⟨_,rfl,rfl,ho⟩
   |_=>cases hlit
 refine⟨_,g.var hp.next b,rfl,hr.addVar (dC xs) hb.size hb.block hB cur e hh (by rw[gW,zS,qr];exact hns) (fun i u hu=>⟨fun hi=>?_,fun d hd=>?_⟩),mo,?_,hb.mono hr.base,fun p _ h=>.inl h⟩
 ·rw[gW] at hi
  obtain⟨y,_,rfl,h⟩:=cells i u hu xs[i] (e7 hi)
  exact h
 ·unfold dC at hd
  rw[dc] at hd
  obtain⟨x,Cm,rfl⟩:=qj.1 hd
  obtain⟨y,rfl,rfl,h⟩:=cells i u hu x Cm
  exact .e _ _ (.lit _ h)
 ·have:=aM.gw (hp:=hp.var (dC xs)) (g:=g.var hp.next b) (w:=w') hp.next z n cap (dY _) oB nJ ⟨cur,e,(0,0),by rw[vU];exact hh,by omega⟩
  rwa[vU] at this
end
end
section
section
variable {P:Program} {tb:TypeId→Option TyE} {md:Md} {hp hp':Hp} {d:D} {dst:Option Tmp} {ty:TypeId} {pos:String} {af:Array Edge} {gd:Option (Nat×Bool)} {ev:Operand→D}
theorem K6 {x:Operand}{f:FuncId}{aS:List Operand}{ts:Array TypeId}{ds:List D}(vd:ev x=.e (.lit (.func (.func f) #[] #[])))(hc:HC P f ds hp d hp')(hd:aS.map ev=ds):nL P ⟨dst,.call ⟨.value x,aS.toArray,ts⟩,ty,pos,af,gd⟩ ev hp d hp':=by
 intro B g w a Kn Q hr hx yT
 subst hd
 obtain⟨⟨fn,hf,hn,yY⟩,wy⟩:=hc
 have hv:=hx x (by simp[Op.operands,Call.operands])
 rw[vd] at hv
 have hv:=hv.lit
 have AK:=wy B g w (aS.map a.eval).toArray hr (by simp) (fun j d u hd hu=>by
  rw[dc] at hd
  obtain⟨y,hy,rfl⟩:=qj.1 hd
  have sG:(aS.map a.eval)[j]? =some u:=by simpa using hu
  rw[dc,hy] at sG
  injection sG with sG
  subst sG
  exact hx y (cz (by simpa using b8 hy)))
 refine A3 (R:=fun v w'=>∃g',HR B hp' g' w'∧bI hp g w hp' g' w'∧aM hp' g' w' d v∧Below B w w'∧∀p:Addr,p.block<B→g.F p→g'.F p) ?_ (AK.mono ?_) ?_
 ·have hn' : fn.name ≠ "runtime.NumGoroutine" := by simpa using hn
  have p9:¬fn.body=none:=fun e=>by rw[e] at yY;cases yY
  have hcf:(callFunc f (aS.map a.eval).toArray).run P w=.ok (.enter f (aS.map a.eval).toArray) w:=by
   simp[callFunc,hf,hn',p9]
  rw[←hcf]
  simp[execOp,resolve,invoke,Deferred.ofValue,hv]
 ·rintro e w' ⟨v,g',rfl,h1⟩
  exact⟨v,rfl,g',h1⟩
 ·rintro v w' ⟨g',h1,h2,h3,h4,h5⟩
  exact yT v g' w' h1 h2 h3 h4 h5
theorem opHF {x:Operand}{f:FuncId}{ks:List Nat}{aS:List Operand}{ts:Array TypeId}{ds:List D}(vd:ev x=.fn f ks)(hc:HC P f ds hp d hp')(hd:aS.map ev++ks.map (fun k=>D.pt k 0)=ds):nL P ⟨dst,.call ⟨.value x,aS.toArray,ts⟩,ty,pos,af,gd⟩ ev hp d hp':=by
 intro B g w a Kn Q hr hx yT
 subst hd
 obtain⟨⟨fn,hf,hn,yY⟩,wy⟩:=hc
 have hv:=hx x (by simp[Op.operands,Call.operands])
 rw[vd] at hv
 generalize hu0:a.eval x=u0 at hv
 cases hv with
 |fn _ _ Lk=>
 have AK:=wy B g w (aS.map a.eval++ks.map fun k=>Value.pointer (some ⟨g.μ k,0,none⟩)).toArray hr (by simp) (fun j d u hd hu=>by
  have sG:(aS.map a.eval++ks.map fun k=>Value.pointer (some ⟨g.μ k,0,none⟩))[j]? =some u:=by simpa using hu
  rcases ci j aS.length with hj|hj
  ·rw[vo (by simpa using hj),dc] at hd sG
   obtain⟨y,hy,rfl⟩:=qj.1 hd
   rw[hy] at sG
   injection sG with sG
   subst sG
   exact hx y (cz (by simpa using b8 hy))
  ·rw[tF (by simpa using hj),dc] at hd sG
   obtain⟨k,hk,rfl⟩:=qj.1 hd
   simp only[ew] at hk sG
   rw[hk] at sG
   injection sG with sG
   subst sG
   exact .pt k 0 (Lk k (b8 hk)))
 refine A3 (R:=fun v w'=>∃g',HR B hp' g' w'∧bI hp g w hp' g' w'∧aM hp' g' w' d v∧Below B w w'∧∀p:Addr,p.block<B→g.F p→g'.F p) ?_ (AK.mono ?_) ?_
 ·have hn' : fn.name ≠ "runtime.NumGoroutine" := by simpa using hn
  have p9:¬fn.body=none:=fun e=>by rw[e] at yY;cases yY
  have hcf:(callFunc f (aS.map a.eval++ks.map fun k=>Value.pointer (some ⟨g.μ k,0,none⟩)).toArray).run P w=.ok (.enter f (aS.map a.eval++ks.map fun k=>Value.pointer (some ⟨g.μ k,0,none⟩)).toArray) w:=by
   simp[callFunc,hf,hn',p9]
  have qE:(aS.map a.eval++ks.map fun k=>Value.pointer (some ⟨g.μ k,0,none⟩)).toArray=aS.toArray.map a.eval++(ks.map fun k=>Value.pointer (some ⟨g.μ k,0,none⟩)).toArray:=by apply jP.1;simp
  rw[←hcf,qE]
  simp[execOp,resolve,invoke,Deferred.ofValue,hu0]
 ·rintro e w' ⟨v,g',rfl,h1⟩
  exact⟨v,rfl,g',h1⟩
 ·rintro v w' ⟨g',h1,h2,h3,h4,h5⟩
  exact yT v g' w' h1 h2 h3 h4 h5
theorem sndOf {c:Call}{x:Operand}(C3:c.callee=.value x)(h:nL P ⟨dst,.call c,ty,pos,af,gd⟩ ev hp d hp')(NW:hvB tb c=true∨Fr hp hp')(hn:md.nc tb (.call c)=true):mD P tb md ⟨dst,.call c,ty,pos,af,gd⟩ ev hp d hp':=by
 refine⟨h,fun hq=>?_,fun hv=>?_,fun h=>by cases h⟩
 ·exfalso
  cases md with
  |seq=>cases hq
  |any L=>
   have h1:((pS (.call c)&&!M4 tb (.call c))||vi tb L (.call c))=true:=hq
   have h2:(!inL L (.call c))=true:=hn
   rw[vp] at h2
   have h2:=Ay (tb:=tb) h2
   rw[h2,Bool.or_false] at h1
   simp[pS,C3] at h1
 ·rcases NW with h1|h1
  ·have h2:(hvB tb c||cpB tb c)=false:=Md.vr_C hn hv
   rw[h1] at h2;cases h2
  ·exact h1
theorem sndF {c:Call}{x:Operand}(C3:c.callee=.value x)(h:nL P ⟨dst,.call c,ty,pos,af,gd⟩ ev hp d hp')(hv:hvB tb c=true)(NW:Fr hp hp'):mD P tb md ⟨dst,.call c,ty,pos,af,gd⟩ ev hp d hp':=by
 refine⟨h,fun hq=>?_,fun _=>NW,fun h=>by cases h⟩
 exfalso
 cases md with
 |seq=>cases hq
 |any L=>
  have h1:((pS (.call c)&&!M4 tb (.call c))||((match c.callee with| .value (.func f)=>L.elem f|_=>false)&&!hvB tb c))=true:=hq
  rw[hv] at h1
  simp[pS,C3] at h1
theorem sHCf {x:Operand}{f:FuncId}{aS:List Operand}{ts:Array TypeId}{ds:List D}(hc:HC P f ds hp d hp')(hd:aS.map ev=ds)(NW:Fr hp hp')(vd:ev x=.e (.lit (.func (.func f) #[] #[])):=by exact rfl)(hv:hvB tb ⟨.value x,aS.toArray,ts⟩=true:=by exact rfl):
  mD P tb md ⟨dst,.call ⟨.value x,aS.toArray,ts⟩,ty,pos,af,gd⟩ ev hp d hp':=sndF rfl (K6 vd hc hd) hv NW
theorem sHC {x:Operand}{f:FuncId}{aS:List Operand}{ts:Array TypeId}{ds:List D}(hc:HC P f ds hp d hp')(hd:aS.map ev=ds)(NW:hvB tb ⟨.value x,aS.toArray,ts⟩=true∨Fr hp hp')(vd:ev x=.e (.lit (.func (.func f) #[] #[])):=by exact rfl)(hn:md.nc tb (.call ⟨.value x,aS.toArray,ts⟩)=true:=by exact rfl):
  mD P tb md ⟨dst,.call ⟨.value x,aS.toArray,ts⟩,ty,pos,af,gd⟩ ev hp d hp':=sndOf rfl (K6 vd hc hd) NW hn
theorem sHF {x:Operand}{f:FuncId}{ks:List Nat}{aS:List Operand}{ts:Array TypeId}{ds:List D}(hc:HC P f ds hp d hp')(hd:aS.map ev++ks.map (fun k=>D.pt k 0)=ds)(vd:ev x=.fn f ks:=by exact rfl)(NW:hvB tb ⟨.value x,aS.toArray,ts⟩=true:=by exact rfl)(hn:md.nc tb (.call ⟨.value x,aS.toArray,ts⟩)=true:=by exact rfl):
  mD P tb md ⟨dst,.call ⟨.value x,aS.toArray,ts⟩,ty,pos,af,gd⟩ ev hp d hp':=sndOf rfl (opHF vd hc hd) (.inl NW) hn
end
structure Pt(F:List D)(o:Nat)(bs:List D)(F':List D→List D):Prop where
 le:o+bs.length≤F.length
 g:(F.drop o).take bs.length=bs
 p:∀ys:List D,ys.length=bs.length→F.take o++ys++F.drop (o+bs.length)=F' ys
theorem Pt.of {F bs:List D}{o:Nat}{F':List D→List D}(A C:List D)(hA:A.length=o)(hF:F=A++bs++C)(hp:∀y,F' y=A++y++C):Pt F o bs F':=by
 subst hA hF
 refine⟨by simp only[eT];omega,?_,fun y hy=>?_⟩
 ·rw[dP,qU,oV]
 ·rw[hp,dP A bs C,oV,←oK,qU,qU]
section
variable {P:Program} {tb:TypeId→Option TyE} {dr:Bool} {ty:TypeId} {ev:Operand→D} {hp:Hp} {k o:Nat} {F bs:List D} {F':List D→List D} {t:TypeId} {i:TyE} {x y:Operand} {d:D}
theorem T_ldP(L:Pt F o bs F')(hv:hp.vars.lookup k=some F)(hk:k<hp.next)(ht:tb t=some i)(hz:bs.length=i.size)(hg:i.ty.agg=true:=by exact rfl)(hx:ev x=.pt k o:=by exact rfl):AVC P tb dr (.load t x) ty ev hp (Kq (.ag bs) hp):=by
 rw[qH,hx,m9,ht,hv]
 simp only[hg]
 refine⟨hk,by rw[←hz];exact L.le,?_⟩
 rw[←hz,L.g]
 exact Kq.here _ _
theorem T_ld1(L:Pt F o [d] F')(hv:hp.vars.lookup k=some F)(hk:k<hp.next)(ht:tb t=some i)(hg:i.ty.agg=false:=by exact rfl)(hx:ev x=.pt k o:=by exact rfl):AVC P tb dr (.load t x) ty ev hp (Kq d hp):=by
 rw[qH,hx,m9,ht,hv]
 simp only[hg]
 refine⟨hk,d,?_,Kq.here _ _⟩
 have h:=L.g
 have hle:=L.le
 have:((F.drop o).take 1)[0]? =some d:=by rw[show (1:Nat)=[d].length from rfl,h];rfl
 rw[gY,ifp_,pg,mf] at this
 exact this
theorem O7 {ys F2:List D}{hp':Hp}(L:Pt F o bs F')(hv:hp.vars.lookup k=some F)(hyc:(ev y).cells=some ys)(ht:tb t=some i)(hz:bs.length=i.size)(hl:ys.length=bs.length)(h2:F' ys=F2)(hx:ev x=.pt k o:=by exact rfl)(he:hp.set k F2=hp':=by exact rfl):AVC P tb dr (.store t x y) ty ev hp (Kq .top hp'):=by
 subst he h2
 rw[Bg,hx,xv,ht,hv,hyc]
 simp only
 refine⟨by omega,by rw[←hz];exact L.le,?_⟩
 rw[hl,L.p ys hl]
 exact Kq.here _ _
end
end
def D.ren2(ρ:Nat→Nat):D→D
 | .tu ds=>.tu (ds.map (D.ren ρ))
 |d=>d.ren ρ
end
end Go.Proofs.YtgfcnncojhkcoaaGreat
