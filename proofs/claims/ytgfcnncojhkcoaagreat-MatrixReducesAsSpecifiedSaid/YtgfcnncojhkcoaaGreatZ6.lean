/-
  Lemmas, part 6. Conditions: none.
-/
import Derived.Test.YtgfcnncojhkcoaaGreatZ5
import Derived.RangeFuncNested
import Derived.RangeFuncLeaves
set_option linter.all false
set_option maxRecDepth 100000
set_option maxHeartbeats 4000000
namespace Go.Proofs.YtgfcnncojhkcoaaGreat
open Go.RowKit Go.IntKind Tryz
noncomputable section
structure dx where
 vM:an
 vE:Int
 deriving Inhabited,DecidableEq
def tG:Cd dx:=⟨4,fun x=>aH.f x.vM++[.lit (.int .i64 x.vE)],fun x=>by simp[aH.h,show aH.sz=3 from rfl]⟩
def l7(io:List ai):Int→Option (Int⊕(Bool⊕Unit)):=fun aU=>cnd (decide (aU<((io).length:Int))) (gd (0≤aU∧aU<((io).length:Int)) (bnd (ct ((io)[(aU).toNat]!)) fun x4=>cnd (!x4) (some (.inr (.inl false))) (some (.inl (i64.wrap (aU+(1:Int))))))) (some (.inr (.inr ())))
def jC(io:List ai):Option Bool:=bnd (aK (l7 io) (0:Int)) fun y7=>match y7 with| .inl r=>some r| .inr ()=>some true
theorem uO {io:List ai}{r:Bool}(h:jC io=some r):ax prog 69 [dL ae io] (dB r):=by
 refine bn (rs:=[.tmp 2]) (fun cx hx h0=>?_) func69
 unfold jC at h
 refine ra hx ?_
 refine AW.seq (ra hx ?_)
 refine AW.block ?_
 obtain⟨y,hy,h⟩:=ah h
 refine lp (S:=Int) (X:=Bool⊕Unit) (fun aU=>[(0,dL ae io),(3,dI .i64 aU)]) (fun aU=>⟨[],[],0⟩) (PS (PR [.tmp 2] fun r=>dB r) (PE cx (.exit 0) (fun ()=>[]) fun ()=>⟨[],[],0⟩)) hy ?_ ?_ ?_
 exact wk0 h0 []
 clear hy h
 rintro aU y h
 dsimp only[l7] at h
 refine AW.seq (ra hx ?_)
 refine cdh h rfl (fun eF h=>?_) (fun eF h=>?_)
 refine AW.skip (AW.seq (AW.block (rs hx fun K hK=>?_)))
 iterate 2 refine sa ?_
 obtain⟨rk,h⟩:=am h
 have xE:(aU).toNat<(io).length:=by omega
 refine sbr ?_
 refine s1 (d:=dG ae ((io)[(aU).toNat]!)) (gk (c:=ae) (l:=io) (n:=(aU).toNat) (o:=0) aC xE (cH _ _ rfl)) ?_
 refine scb h il fun x4 h=>?_
 refine nbr hK ?_
 refine ra hx ?_
 refine cdh h rfl (fun lZ h=>?_) (fun lZ h=>?_)
 refine ra hx ?_
 refine AW.ret ?_
 cases h
 refine PS.r ⟨by nofun,PS.l (PR.i ?_)⟩
 exact rv1
 refine AW.skip (rb hx ?_)
 exact pel h h0 []
 exact AW.exit (peq h h0 [])
 rcases y with r|⟨⟩
 rintro ex tm' hp' ⟨rfl,hw⟩
 cases h
 exact hw
 refine lwr ?_
 refine ra hx ?_
 exact AW.ret (rtv h)
def om(bq:an):Option Int:=bnd (S:=Bool) (cnd (decide (bq.vR<(0:Int))) (some (true)) (cnd (decide ((200:Int)<bq.vR)) (some (true)) (cnd (decide (bq.vC<(0:Int))) (some (true)) (some (decide ((200:Int)<bq.vC)))))) fun a8=>cnd a8 (some (2:Int)) (bnd (S:=Bool) (cnd (decide (((bq.vV).length:Int)≠(i64.wrap (bq.vR*bq.vC)))) (some (true)) (bnd (jC bq.vV) fun x7=>some (!x7))) fun pi=>cnd pi (some (1:Int)) (some (0:Int)))
theorem EX {bq:an}{r:Int}(h:om bq=some r):ax prog 46 [dG aH bq] (dI .i64 r):=by
 refine bn (rs:=[.tmp 2]) (fun cx hx h0=>?_) func46
 unfold om at h
 refine rs hx fun K hK=>?_
 refine s1 (d:=.pt 0 0) fC ?_
 refine nbr hK ?_
 iterate 2 refine AW.seq ?_
 obtain⟨a8,hy,h⟩:=ah h
 refine jn ((PE cx .normal (fun a8=>[(1,.pt 0 0),(20,dB a8)]) fun a8=>⟨[(0,[dI .i64 bq.vR,dI .i64 bq.vC,dL ae bq.vV])],[],1⟩) a8) ?_ ?_
 replace h:=hy
 refine rq hx fun K hK=>?_
 refine mbr ?_
 rcases bE h with⟨eF,h⟩|⟨eF,h⟩
 refine nbr hK ?_
 exact pe1 h h0 [0]
 refine mbr ?_
 rcases bE h with⟨tz,h⟩|⟨tz,h⟩
 refine nbr hK ?_
 exact pe1 h h0 [0]
 refine mbr ?_
 rcases bE h with⟨cj,h⟩|⟨cj,h⟩
 refine nbr hK ?_
 exact pe1 h h0 [0]
 refine nbr hK ?_
 exact pe1 h h0 [0]
 refine lw0 ?_
 refine cdh h rfl (fun pI h=>?_) (fun pI h=>?_)
 refine ra hx ?_
 exact AW.ret (rtv h)
 refine AW.skip ?_
 iterate 2 refine AW.seq ?_
 obtain⟨pi,hy,h⟩:=ah h
 refine jn ((PE cx .normal (fun pi=>[(35,dB pi)]) fun pi=>⟨[],[],0⟩) pi) ?_ ?_
 replace h:=hy
 refine rq hx fun K hK=>?_
 refine mbr ?_
 rcases bE h with⟨lZ,h⟩|⟨lZ,h⟩
 refine nbr hK ?_
 exact pe1 h h0 []
 refine ga lZ ?_
 refine gbr ?_
 refine gcb h uO fun x7 h=>?_
 refine nbr hK ?_
 exact pe1 h h0 []
 refine lw0 ?_
 refine cdh h rfl (fun jw h=>?_) (fun jw h=>?_)
 refine ra hx ?_
 exact AW.ret (rtv h)
 refine AW.skip (ra hx ?_)
 exact AW.ret (rtv h)
def cz(bq:an):Option Bool:=bnd (om bq) fun x1=>some (decide (x1=(0:Int)))
theorem iA {bq:an}{r:Bool}(h:cz bq=some r):ax prog 57 [dG aH bq] (dB r):=by
 refine bn (rs:=[.tmp 2]) (fun cx hx h0=>?_) func57
 unfold cz at h
 refine rs hx fun K hK=>?_
 refine s1 (d:=.pt 0 0) fC ?_
 refine nbr hK ?_
 refine rs hx fun K hK=>?_
 refine s1 (d:=dG aH bq) (bp aq) ?_
 refine scb h EX fun x1 h=>?_
 refine nbr hK ?_
 exact AW.ret (rtv h)
def fX(dJ:Int)(cG:Int):Int×(List ai)→Option ((Int×(List ai))⊕((List ai))):=fun (aG,aS)=>cnd (decide (aG<(i64.wrap (dJ*cG)))) (bnd (e8 (0:Int)) fun x2=>gd ((aS++[x2]).length*136≤140737488355328) (some (.inl (i64.wrap (aG+(1:Int)),aS++[x2])))) (some (.inr aS))
def lN(dJ:Int)(cG:Int):Option an:=bnd (aK (fX dJ cG) ((0:Int),([]:List ai))) fun aE=>some (⟨dJ,cG,aE⟩:an)
theorem zk {dJ:Int}{cG:Int}{r:an}(h:lN dJ cG=some r):ax prog 78 [dI .i64 dJ,dI .i64 cG] (dG aH r):=by
 refine bn (rs:=[.cell 4 24]) (fun cx hx h0=>?_) func78
 unfold lN at h
 refine rs hx fun K hK=>?_
 refine s1 (d:=.pt 0 0) (aO aq) ?_
 refine nl hK ?_
 refine rs hx fun K hK=>?_
 iterate 2 refine sa ?_
 refine s1 (d:=.ag [dI .i64 dJ,dI .i64 cG,dN]) (aR aq) ?_
 refine s1 (d:=.pt 1 0) (aO aq) ?_
 refine s0 (bu (ds':=[dI .i64 dJ,dI .i64 cG,dN]) aq) ?_
 refine nl hK ?_
 refine AW.seq (ra hx ?_)
 refine AW.block ?_
 obtain⟨aE,hy,h⟩:=ah h
 refine lp (S:=Int×(List ai)) (X:=(List ai)) (fun (aG,aS)=>[(0,dI .i64 dJ),(1,dI .i64 cG),(4,.pt 0 0),(5,.pt 1 0),(6,dI .i64 aG)]) (fun (aG,aS)=>⟨[(0,[dI .i64 (0:Int),dI .i64 (0:Int),dN]),(1,[dI .i64 dJ,dI .i64 cG,dO 2 ae aS])],[(2,(aS).length,36,34)],3⟩) (PE cx (.exit 0) (fun aE=>[(4,.pt 0 0),(5,.pt 1 0)]) fun aE=>⟨[(0,[dI .i64 (0:Int),dI .i64 (0:Int),dN]),(1,[dI .i64 dJ,dI .i64 cG,dO 2 ae aE])],[(2,(aE).length,36,34)],3⟩) hy ?_ ?_ ?_
 exact Wk.trans (Wk.nilOwn (ds':=[dI .i64 dJ,dI .i64 cG,dO 2 ae ([]:List ai)]) 1 2 34 36) (wk h0 [0,1,2] (wR rfl (wR rfl (wR rfl (wR rfl (wR rfl wTn))))) (vR rfl (vR rfl wVn)) (wL rfl rfl wLn))
 clear hy h
 rintro⟨aG,aS⟩ y h
 dsimp only[fX] at h
 refine AW.seq (ra hx ?_)
 refine cdh h rfl (fun eF h=>?_) (fun eF h=>?_)
 refine AW.skip (AW.seq (AW.block (rqd [70] hx fun K hK=>?_)))
 refine mbr ?_
 refine cqb h lE fun x2 h=>?_
 refine s1 (mM ([x2]:List ai) ae aF aC) ?_
 obtain⟨Ck,h⟩:=am h
 refine s1 (d:=dO 2 ae (aS++[x2])) (eD aF aC Ck) ?_
 refine sa ?_
 refine s0 (bu (ds':=[dI .i64 dJ,dI .i64 cG,dO 2 ae (aS++[x2])]) aF) ?_
 refine nl hK ?_
 refine rb hx ?_
 exact pel h h0 [0,1,2]
 exact AW.exit (per h h0 [0,1,2])
 refine lw0 ?_
 refine rs hx fun K hK=>?_
 refine s1 (d:=.ag [dI .i64 dJ,dI .i64 cG,dO 2 ae aE]) (bp aq) ?_
 refine s0 (bu (ds':=[dI .i64 dJ,dI .i64 cG,dO 2 ae aE]) aq) ?_
 refine nl hK ?_
 refine AW.ret ?_
 cases h
 exact dm.mk1 (bN (es:=[dI .i64 dJ,dI .i64 cG,dO 2 ae aE]) rfl aq rfl rfl (ltb rfl) (leb rfl) rfl (.inr (.inr ⟨_,(et (wc (bI _) (wc (bI _) (wc (tT _) wcn)))),rfl,rfl⟩)))
def mE(dJ:Int)(cG:Int):Int×(List ai)→Option ((Int×(List ai))⊕((List ai))):=fun (aG,aS)=>cnd (decide (aG<(i64.wrap (dJ*cG)))) (bnd (e8 (0:Int)) fun x2=>gd ((aS++[x2]).length*136≤140737488355328) (some (.inl (i64.wrap (aG+(1:Int)),aS++[x2])))) (some (.inr aS))
def fF(dJ:Int)(cG:Int):Option an:=bnd (aK (mE dJ cG) ((0:Int),([]:List ai))) fun aE=>gd (0<(aE).length) (some (⟨dJ,cG,aE⟩:an))
theorem wb {dJ:Int}{cG:Int}{r:an}(h:fF dJ cG=some r):HC prog 78 [dI .i64 dJ,dI .i64 cG] ⟨[],[],0⟩ (.ag [dI .i64 r.vR,dI .i64 r.vC,.gw 0 36 ((r.vV).length)]) (⟨[(0,dC ((cW ae).f r.vV))],[],1⟩):=by
 refine HC.ofX (rs:=[.cell 4 24]) tok func78 rfl rfl (b7 rfl) rfl (fun cx hx h0=>?_)
 simp only[fj,Nat.reduceAdd,bB]
 unfold fF at h
 refine rs hx fun K hK=>?_
 refine s1 (d:=.pt 0 0) (aO aq) ?_
 refine nl hK ?_
 refine rs hx fun K hK=>?_
 iterate 2 refine sa ?_
 refine s1 (d:=.ag [dI .i64 dJ,dI .i64 cG,dN]) (aR aq) ?_
 refine s1 (d:=.pt 1 0) (aO aq) ?_
 refine s0 (bu (ds':=[dI .i64 dJ,dI .i64 cG,dN]) aq) ?_
 refine nl hK ?_
 refine AW.seq (ra hx ?_)
 refine AW.block ?_
 obtain⟨aE,hy,h⟩:=ah h
 refine lp (S:=Int×(List ai)) (X:=(List ai)) (fun (aG,aS)=>[(0,dI .i64 dJ),(1,dI .i64 cG),(4,.pt 0 0),(5,.pt 1 0),(6,dI .i64 aG)]) (fun (aG,aS)=>⟨[(0,[dI .i64 (0:Int),dI .i64 (0:Int),dN]),(1,[dI .i64 dJ,dI .i64 cG,dO 2 ae aS])],[(2,(aS).length,36,34)],3⟩) (PE cx (.exit 0) (fun aE=>[(4,.pt 0 0),(5,.pt 1 0)]) fun aE=>⟨[(0,[dI .i64 (0:Int),dI .i64 (0:Int),dN]),(1,[dI .i64 dJ,dI .i64 cG,dO 2 ae aE])],[(2,(aE).length,36,34)],3⟩) hy ?_ ?_ ?_
 exact Wk.trans (Wk.nilOwn (ds':=[dI .i64 dJ,dI .i64 cG,dO 2 ae ([]:List ai)]) 1 2 34 36) (wk h0 [0,1,2] (wR rfl (wR rfl (wR rfl (wR rfl (wR rfl wTn))))) (vR rfl (vR rfl wVn)) (wL rfl rfl wLn))
 clear hy h
 rintro⟨aG,aS⟩ y h
 dsimp only[mE] at h
 refine AW.seq (ra hx ?_)
 refine cdh h rfl (fun eF h=>?_) (fun eF h=>?_)
 refine AW.skip (AW.seq (AW.block (rqd [70] hx fun K hK=>?_)))
 refine mbr ?_
 refine cqb h lE fun x2 h=>?_
 refine s1 (mM ([x2]:List ai) ae aF aC) ?_
 obtain⟨Ck,h⟩:=am h
 refine s1 (d:=dO 2 ae (aS++[x2])) (eD aF aC Ck) ?_
 refine sa ?_
 refine s0 (bu (ds':=[dI .i64 dJ,dI .i64 cG,dO 2 ae (aS++[x2])]) aF) ?_
 refine nl hK ?_
 refine rb hx ?_
 exact pel h h0 [0,1,2]
 exact AW.exit (per h h0 [0,1,2])
 refine lw0 ?_
 refine rs hx fun K hK=>?_
 refine s1 (d:=.ag [dI .i64 dJ,dI .i64 cG,dO 2 ae aE]) (bp aq) ?_
 refine s0 (bu (ds':=[dI .i64 dJ,dI .i64 cG,dO 2 ae aE]) aq) ?_
 refine nl hK ?_
 obtain⟨Re,h⟩:=am h
 refine AW.ret ?_
 cases h
 exact⟨_,bN (es:=[dI .i64 dJ,dI .i64 cG,dO 2 ae aE]) rfl aq rfl rfl (ltb rfl) (leb rfl) rfl rfl,qg.tokA (A:=[dI .i64 dJ,dI .i64 cG]) (C:=[]) h0 (id:=2) (xs:=(cW ae).f aE) rfl Re (qn.l _ _) rfl rfl⟩
def fH(bF:Int)(x4:an):Int×(List ai)→Option ((Int×(List ai))⊕((List ai))):=fun (aW,qy)=>cnd (decide (aW<bF)) (bnd (e8 (1:Int)) fun x7=>gd (0≤i64.wrap ((i64.wrap (aW*bF))+aW)∧i64.wrap ((i64.wrap (aW*bF))+aW)<(((x4.vV).length:Nat):Int)∧i64.wrap ((i64.wrap (aW*bF))+aW)<((qy).length:Int)) (bnd (some ((qy).set ((i64.wrap ((i64.wrap (aW*bF))+aW)).toNat) x7)) fun fU=>some (.inl (i64.wrap (aW+(1:Int)),fU)))) (some (.inr qy))
def lO(bF:Int):Option an:=bnd (S:=Bool) (cnd (decide (bF<(0:Int))) (some (true)) (some (decide ((200:Int)<bF)))) fun a8=>cnd a8 (some (⟨(0:Int),(0:Int),([]:List ai)⟩:an)) (bnd (fF bF bF) fun x4=>bnd (aK (fH bF x4) ((0:Int),x4.vV)) fun fS=>gd ((x4.vV).length=(fS).length) (some (⟨x4.vR,x4.vC,fS⟩:an)))
theorem yp {bF:Int}{r:an}(h:lO bF=some r):ax prog 49 [dI .i64 bF] (dG aH r):=by
 refine bn (rs:=[.cell 2 24]) (fun cx hx h0=>?_) func49
 unfold lO at h
 refine rs hx fun K hK=>?_
 refine s1 (d:=.pt 0 0) (aO aq) ?_
 refine nl hK ?_
 iterate 2 refine AW.seq ?_
 obtain⟨a8,hy,h⟩:=ah h
 refine jn ((PE cx .normal (fun a8=>[(0,dI .i64 bF),(2,.pt 0 0),(10,dB a8)]) fun a8=>⟨[(0,[dI .i64 (0:Int),dI .i64 (0:Int),dN])],[],1⟩) a8) ?_ ?_
 replace h:=hy
 refine rq hx fun K hK=>?_
 refine mbr ?_
 rcases bE h with⟨eF,h⟩|⟨eF,h⟩
 refine nbr hK ?_
 exact pe1 h h0 [0]
 refine nbr hK ?_
 exact pe1 h h0 [0]
 refine lw0 ?_
 refine cdh h rfl (fun cj h=>?_) (fun cj h=>?_)
 refine rs hx fun K hK=>?_
 refine s1 (d:=.ag [dI .i64 (0:Int),dI .i64 (0:Int),dN]) (aR aq) ?_
 refine s0 (bu (ds':=[dI .i64 (0:Int),dI .i64 (0:Int),dN]) aq) ?_
 refine nl hK ?_
 refine AW.ret ?_
 cases h
 exact dm.mk1 (bN (es:=[dI .i64 (0:Int),dI .i64 (0:Int),dN]) rfl aq rfl rfl (ltb rfl) (leb rfl) rfl (.inr (.inr ⟨_,(et (wc (bI _) (wc (bI _) (wc (mW rfl) wcn)))),rfl,rfl⟩)))
 refine AW.skip (rs hx fun K hK=>?_)
 iterate 2 refine sa ?_
 obtain⟨x4,Jq,h⟩:=ah h
 refine sC0 (d:=.ag [dI .i64 x4.vR,dI .i64 x4.vC,.gw 1 36 ((x4.vV).length)]) (hp':=⟨[(1,dC ((cW ae).f x4.vV)),(0,[dI .i64 (0:Int),dI .i64 (0:Int),dN])],[],2⟩) (wb Jq) (ARs.cons (AR.le (ao _) rfl) (ARs.cons (AR.le (ao _) rfl) ARs.nil)) (qn.l _ _) ?_
 refine s1 (d:=.pt 2 0) (aO aq) ?_
 refine s0 (bu (ds':=[dI .i64 x4.vR,dI .i64 x4.vC,.gw 1 36 ((x4.vV).length)]) aq) ?_
 refine nl hK ?_
 refine AW.seq (ra hx ?_)
 refine AW.block ?_
 obtain⟨fS,hy,h⟩:=ah h
 refine lp (S:=Int×(List ai)) (X:=(List ai)) (fun (aW,qy)=>[(0,dI .i64 bF),(2,.pt 0 0),(3,.pt 1 0),(4,dI .i64 aW)]) (fun (aW,qy)=>⟨[(0,[dI .i64 (0:Int),dI .i64 (0:Int),dN]),(1,[dI .i64 x4.vR,dI .i64 x4.vC,.gw 2 36 ((x4.vV).length)]),(2,dC ((cW ae).f qy))],[],3⟩) (PE cx (.exit 0) (fun fS=>[(2,.pt 0 0),(3,.pt 1 0)]) fun fS=>⟨[(0,[dI .i64 (0:Int),dI .i64 (0:Int),dN]),(1,[dI .i64 x4.vR,dI .i64 x4.vC,.gw 2 36 ((x4.vV).length)]),(2,dC ((cW ae).f fS))],[],3⟩) hy ?_ ?_ ?_
 exact wk0 h0 [0,2,1]
 clear hy h
 rintro⟨aW,qy⟩ y h
 dsimp only[fH] at h
 refine AW.seq (ra hx ?_)
 refine cdh h rfl (fun lZ h=>?_) (fun lZ h=>?_)
 refine AW.skip (AW.seq (AW.block (rqd [70] hx fun K hK=>?_)))
 refine mbr ?_
 refine cqb h lE fun x7 h=>?_
 obtain⟨hc9,h⟩:=am h
 have hn10:(i64.wrap ((i64.wrap (aW*bF))+aW)).toNat<(qy).length:=by omega
 refine sG (nr ⟨hc9.1,hc9.2.1⟩ aF aC) ?_
 obtain⟨fU,Dm,h⟩:=ah h
 replace Dm:=d5 Dm
 refine s0 (wX (b':=x7) (aX.seqW ae qy ((i64.wrap ((i64.wrap (aW*bF))+aW)).toNat) hn10) aC Dm) ?_
 refine nl hK ?_
 refine rb hx ?_
 exact pel h h0 [0,1,2]
 exact AW.exit (per h h0 [0,1,2])
 refine lw0 ?_
 refine rs hx fun K hK=>?_
 refine s1 (d:=.ag [dI .i64 x4.vR,dI .i64 x4.vC,.gw 2 36 ((x4.vV).length)]) (bp aq) ?_
 refine s0 (bu (ds':=[dI .i64 x4.vR,dI .i64 x4.vC,.gw 2 36 ((x4.vV).length)]) aq) ?_
 refine nl hK ?_
 obtain⟨G4,h⟩:=am h
 refine fzAD ae (n:=(x4.vV).length) 2 [(29,.ag [dI .i64 x4.vR,dI .i64 x4.vC,dL ae fS])] [(0,[dI .i64 x4.vR,dI .i64 x4.vC,dL ae fS]),(1,[dI .i64 x4.vR,dI .i64 x4.vC,dL ae fS])] G4 ?_ (ftc rfl (.ag (.cons (.keep _) (.cons (.keep _) (.cons (.hitG) .nil)))) ftn) (fvc (by decide) rfl (.cons (.keep _) (.cons (.keep _) (.cons (.hitG) .nil))) (fvc (by decide) rfl (.cons (.keep _) (.cons (.keep _) (.cons (.hitG) .nil))) fvn))
 refine AW.ret ?_
 cases h
 exact dm.mk1 (bN (es:=(aH.f (⟨x4.vR,x4.vC,fS⟩:an)).map .e) rfl aq rfl rfl (ltb rfl) (leb rfl) rfl (.inr (.inr ⟨_,(ao _),rfl,rfl⟩)))
def lP(bF:Int)(x4:an):Unit→Option (Unit⊕Unit):=fun ()=>cnd (decide ((0:Int)<bF)) (bnd (e8 (1:Int)) fun x7=>gd (0≤i64.wrap ((i64.wrap ((0:Int)*bF))+(0:Int))∧i64.wrap ((i64.wrap ((0:Int)*bF))+(0:Int))<((x4.vV).length:Int)) (none)) (some (.inr ()))
def lQ(bF:Int):Option an:=bnd (S:=Bool) (cnd (decide (bF<(0:Int))) (some (true)) (some (decide ((200:Int)<bF)))) fun a8=>cnd a8 (some (⟨(0:Int),(0:Int),([]:List ai)⟩:an)) (bnd (lN bF bF) fun x4=>bnd (aK (lP bF x4) ()) fun ()=>some x4)
theorem yq {bF:Int}{r:an}(h:lQ bF=some r):ax prog 49 [dI .i64 bF] (dG aH r):=by
 refine bn (rs:=[.cell 2 24]) (fun cx hx h0=>?_) func49
 unfold lQ at h
 refine rs hx fun K hK=>?_
 refine s1 (d:=.pt 0 0) (aO aq) ?_
 refine nl hK ?_
 iterate 2 refine AW.seq ?_
 obtain⟨a8,hy,h⟩:=ah h
 refine jn ((PE cx .normal (fun a8=>[(0,dI .i64 bF),(2,.pt 0 0),(10,dB a8)]) fun a8=>⟨[(0,[dI .i64 (0:Int),dI .i64 (0:Int),dN])],[],1⟩) a8) ?_ ?_
 replace h:=hy
 refine rq hx fun K hK=>?_
 refine mbr ?_
 rcases bE h with⟨eF,h⟩|⟨eF,h⟩
 refine nbr hK ?_
 exact pe1 h h0 [0]
 refine nbr hK ?_
 exact pe1 h h0 [0]
 refine lw0 ?_
 refine cdh h rfl (fun cj h=>?_) (fun cj h=>?_)
 refine rs hx fun K hK=>?_
 refine s1 (d:=.ag [dI .i64 (0:Int),dI .i64 (0:Int),dN]) (aR aq) ?_
 refine s0 (bu (ds':=[dI .i64 (0:Int),dI .i64 (0:Int),dN]) aq) ?_
 refine nl hK ?_
 refine AW.ret ?_
 cases h
 exact dm.mk1 (bN (es:=[dI .i64 (0:Int),dI .i64 (0:Int),dN]) rfl aq rfl rfl (ltb rfl) (leb rfl) rfl (.inr (.inr ⟨_,(et (wc (bI _) (wc (bI _) (wc (mW rfl) wcn)))),rfl,rfl⟩)))
 refine AW.skip (rs hx fun K hK=>?_)
 refine mbr ?_
 refine scb h zk fun x4 h=>?_
 refine s1 (d:=.pt 1 0) (aO aq) ?_
 refine s0 (bu (ds':=[dI .i64 x4.vR,dI .i64 x4.vC,dL ae x4.vV]) aq) ?_
 refine nl hK ?_
 refine AW.seq (ra hx ?_)
 refine AW.block ?_
 obtain⟨y,hy,h⟩:=ah h
 refine lp (S:=Unit) (X:=Unit) (fun ()=>[(0,dI .i64 bF),(2,.pt 0 0),(3,.pt 1 0),(4,dI .i64 (0:Int))]) (fun ()=>⟨[(0,[dI .i64 (0:Int),dI .i64 (0:Int),dN]),(1,[dI .i64 x4.vR,dI .i64 x4.vC,dL ae x4.vV])],[],2⟩) (PE cx (.exit 0) (fun ()=>[(2,.pt 0 0),(3,.pt 1 0)]) fun ()=>⟨[(0,[dI .i64 (0:Int),dI .i64 (0:Int),dN]),(1,[dI .i64 x4.vR,dI .i64 x4.vC,dL ae x4.vV])],[],2⟩) hy ?_ ?_ ?_
 exact wk0 h0 [0,1]
 clear hy h
 rintro⟨⟩ y h
 dsimp only[lP] at h
 refine AW.seq (ra hx ?_)
 refine cdh h rfl (fun lZ h=>?_) (fun lZ h=>?_)
 refine AW.skip (AW.seq (AW.block (rqd [70] hx fun K hK=>?_)))
 refine mbr ?_
 refine cqb h lE fun x7 h=>?_
 obtain⟨hc9,h⟩:=am h
 refine sbr ?_
 cases h
 exact AW.exit (per h h0 [0,1])
 cases y
 refine lw0 ?_
 refine rs hx fun K hK=>?_
 refine s1 (d:=dG aH x4) (bp aq) ?_
 refine s0 (bu (ds':=[dI .i64 x4.vR,dI .i64 x4.vC,dL ae x4.vV]) aq) ?_
 refine nl hK ?_
 refine AW.ret ?_
 cases h
 exact dm.mk1 (bN (es:=(aH.f r).map .e) rfl aq rfl rfl (ltb rfl) (leb rfl) rfl (.inr (.inr ⟨_,(ao _),rfl,rfl⟩)))
def nI(bF:Int):Option an:=orO (lO bF) (lQ bF)
theorem Au {bF:Int}{r:an}(h:nI bF=some r):ax prog 49 [dI .i64 bF] (dG aH r):=(zF h).elim yp yq
def qW(bq:an):Option dx:=bnd (jC bq.vV) fun x1=>cnd (!x1) (some (⟨(⟨(0:Int),(0:Int),([]:List ai)⟩:an),(30:Int)⟩:dx)) (some (⟨bq,(0:Int)⟩:dx))
def oy(a6:an)(sv:Int)(aZ:an)(cR:Int):Int×ai→Option ((Int×ai)⊕ai):=fun (aW,qy)=>cnd (decide (aW<a6.vC)) (gd (0≤i64.wrap ((i64.wrap (sv*a6.vC))+aW)∧i64.wrap ((i64.wrap (sv*a6.vC))+aW)<((a6.vV).length:Int)) (gd (0≤i64.wrap ((i64.wrap (aW*aZ.vC))+cR)∧i64.wrap ((i64.wrap (aW*aZ.vC))+cR)<((aZ.vV).length:Int)) (bnd (eh ((a6.vV)[(i64.wrap ((i64.wrap (sv*a6.vC))+aW)).toNat]!) ((aZ.vV)[(i64.wrap ((i64.wrap (aW*aZ.vC))+cR)).toNat]!)) fun uL=>bnd (iD qy uL) fun pk=>some (.inl (i64.wrap (aW+(1:Int)),pk))))) (some (.inr qy))
def tC(a6:an)(sv:Int)(aZ:an)(cR:Int):Option ai:=cnd (decide (a6.vC=(0:Int))) (bnd (e8 (0:Int)) fun x2=>some x2) (gd (0≤i64.wrap (sv*a6.vC)∧i64.wrap (sv*a6.vC)<((a6.vV).length:Int)) (gd (0≤cR∧cR<((aZ.vV).length:Int)) (bnd (eh ((a6.vV)[(i64.wrap (sv*a6.vC)).toNat]!) ((aZ.vV)[(cR).toNat]!)) fun x8=>bnd (aK (oy a6 sv aZ cR) ((1:Int),x8)) fun fS=>some fS)))
def mF(a6:an)(aZ:an)(x9:an)(aW:Int):Int×(List ai)→Option ((Int×(List ai))⊕((List ai))):=fun (cF,eO)=>cnd (decide (cF<aZ.vC)) (bnd (tC a6 aW aZ cF) fun qz=>gd (0≤i64.wrap ((i64.wrap (aW*aZ.vC))+cF)∧i64.wrap ((i64.wrap (aW*aZ.vC))+cF)<(((x9.vV).length:Nat):Int)∧i64.wrap ((i64.wrap (aW*aZ.vC))+cF)<((eO).length:Int)) (bnd (some ((eO).set ((i64.wrap ((i64.wrap (aW*aZ.vC))+cF)).toNat) qz)) fun pk=>some (.inl (i64.wrap (cF+(1:Int)),pk)))) (some (.inr eO))
def mG(a6:an)(aZ:an)(x9:an):Int×(List ai)→Option ((Int×(List ai))⊕((List ai))):=fun (aW,qy)=>cnd (decide (aW<a6.vR)) (bnd (aK (mF a6 aZ x9 aW) ((0:Int),qy)) fun a29e2_0=>some (.inl (i64.wrap (aW+(1:Int)),a29e2_0))) (some (.inr qy))
def yd(a6:an)(aZ:an):Option dx:=bnd (S:=Bool) (bnd (cz a6) fun x1=>cnd (!x1) (some (true)) (bnd (cz aZ) fun x4=>cnd (!x4) (some (true)) (some (decide (a6.vC≠aZ.vR))))) fun a8=>cnd a8 (some (⟨(⟨(0:Int),(0:Int),([]:List ai)⟩:an),(1:Int)⟩:dx)) (bnd (fF a6.vR aZ.vC) fun x9=>bnd (aK (mG a6 aZ x9) ((0:Int),x9.vV)) fun fS=>gd ((x9.vV).length=(fS).length) (bnd (qW (⟨x9.vR,x9.vC,fS⟩:an)) fun vA=>some vA))
def tD(a6:an)(aZ:an)(x9:an)(aW:Int):Unit→Option (Unit⊕Unit):=fun ()=>cnd (decide ((0:Int)<aZ.vC)) (bnd (tC a6 aW aZ (0:Int)) fun qz=>gd (0≤i64.wrap ((i64.wrap (aW*aZ.vC))+(0:Int))∧i64.wrap ((i64.wrap (aW*aZ.vC))+(0:Int))<((x9.vV).length:Int)) (none)) (some (.inr ()))
def mH(a6:an)(aZ:an)(x9:an):Int→Option (Int⊕Unit):=fun aW=>cnd (decide (aW<a6.vR)) (bnd (aK (tD a6 aZ x9 aW) ()) fun ()=>some (.inl (i64.wrap (aW+(1:Int))))) (some (.inr ()))
def ye(a6:an)(aZ:an):Option dx:=bnd (S:=Bool) (bnd (cz a6) fun x1=>cnd (!x1) (some (true)) (bnd (cz aZ) fun x4=>cnd (!x4) (some (true)) (some (decide (a6.vC≠aZ.vR))))) fun a8=>cnd a8 (some (⟨(⟨(0:Int),(0:Int),([]:List ai)⟩:an),(1:Int)⟩:dx)) (bnd (lN a6.vR aZ.vC) fun x9=>bnd (aK (mH a6 aZ x9) (0:Int)) fun ()=>bnd (qW x9) fun uK=>some uK)
def BT(a6:an)(aZ:an):Option dx:=orO (yd a6 aZ) (ye a6 aZ)
def iT(a6:an)(aZ:an):Int×(List ai)→Option ((Int×(List ai))⊕((List ai))):=fun (cc,jb)=>cnd (decide (cc<a6.vR)) (gd (0≤i64.wrap (cc*a6.vC)∧i64.wrap (cc*a6.vC)≤i64.wrap ((i64.wrap (cc+(1:Int)))*a6.vC)∧i64.wrap ((i64.wrap (cc+(1:Int)))*a6.vC)≤((a6.vV).length:Int)) (gd ((jb++(nA a6.vV (i64.wrap (cc*a6.vC)) (i64.wrap ((i64.wrap (cc+(1:Int)))*a6.vC)))).length*136≤140737488355328) (gd (0≤i64.wrap (cc*aZ.vC)∧i64.wrap (cc*aZ.vC)≤i64.wrap ((i64.wrap (cc+(1:Int)))*aZ.vC)∧i64.wrap ((i64.wrap (cc+(1:Int)))*aZ.vC)≤((aZ.vV).length:Int)) (gd (((jb++(nA a6.vV (i64.wrap (cc*a6.vC)) (i64.wrap ((i64.wrap (cc+(1:Int)))*a6.vC))))++(nA aZ.vV (i64.wrap (cc*aZ.vC)) (i64.wrap ((i64.wrap (cc+(1:Int)))*aZ.vC)))).length*136≤140737488355328) (some (.inl (i64.wrap (cc+(1:Int)),(jb++(nA a6.vV (i64.wrap (cc*a6.vC)) (i64.wrap ((i64.wrap (cc+(1:Int)))*a6.vC))))++(nA aZ.vV (i64.wrap (cc*aZ.vC)) (i64.wrap ((i64.wrap (cc+(1:Int)))*aZ.vC)))))))))) (some (.inr jb))
def m5(a6:an)(aZ:an):Option dx:=bnd (S:=Bool) (bnd (cz a6) fun x1=>cnd (!x1) (some (true)) (bnd (cz aZ) fun x4=>cnd (!x4) (some (true)) (some (decide (a6.vR≠aZ.vR))))) fun a8=>cnd a8 (some (⟨(⟨(0:Int),(0:Int),([]:List ai)⟩:an),(1:Int)⟩:dx)) (cnd (decide ((200:Int)<(i64.wrap (a6.vC+aZ.vC)))) (some (⟨(⟨(0:Int),(0:Int),([]:List ai)⟩:an),(2:Int)⟩:dx)) (bnd (aK (iT a6 aZ) ((0:Int),([]:List ai))) fun qd=>some (⟨(⟨a6.vR,i64.wrap (a6.vC+aZ.vC),qd⟩:an),(0:Int)⟩:dx)))
theorem CR {a6:an}{aZ:an}{r:dx}(h:m5 a6 aZ=some r):ax prog 56 [dG aH a6,dG aH aZ] (dG tG r):=by
 refine bn (rs:=[.cell 4 65]) (fun cx hx h0=>?_) func56
 unfold m5 at h
 refine rs hx fun K hK=>?_
 refine s1 (d:=.pt 0 0) fC ?_
 refine s1 (d:=.pt 1 0) fC ?_
 refine s1 (d:=.pt 2 0) (aO jr) ?_
 refine nl hK ?_
 iterate 2 refine AW.seq ?_
 obtain⟨a8,hy,h⟩:=ah h
 refine jn ((PE cx .normal (fun a8=>[(2,.pt 0 0),(3,.pt 1 0),(4,.pt 2 0),(21,dB a8)]) fun a8=>⟨[(0,[dI .i64 a6.vR,dI .i64 a6.vC,dL ae a6.vV]),(1,[dI .i64 aZ.vR,dI .i64 aZ.vC,dL ae aZ.vV]),(2,[dI .i64 (0:Int),dI .i64 (0:Int),dN,dI .i64 (0:Int)])],[],3⟩) a8) ?_ ?_
 replace h:=hy
 refine rq hx fun K hK=>?_
 refine s1 (d:=dG aH a6) (bp aq) ?_
 refine scb h iA fun x1 h=>?_
 refine mbr ?_
 rcases bE h with⟨cj,h⟩|⟨cj,h⟩
 refine nbr hK ?_
 exact pe1 h h0 [0,1,2]
 refine g1 (d:=dG aH aZ) cj (bp aq) ?_
 refine gcb h iA fun x4 h=>?_
 refine mbr ?_
 rcases bE h with⟨lZ,h⟩|⟨lZ,h⟩
 refine nbr hK ?_
 exact pe1 h h0 [0,1,2]
 refine nbr hK ?_
 exact pe1 h h0 [0,1,2]
 refine lw0 ?_
 refine cdh h rfl (fun Bd h=>?_) (fun Bd h=>?_)
 refine rs hx fun K hK=>?_
 refine s1 (d:=.ag [dI .i64 (0:Int),dI .i64 (0:Int),dN,dI .i64 (1:Int)]) (aR jr) ?_
 refine s0 (bu (ds':=[dI .i64 (0:Int),dI .i64 (0:Int),dN,dI .i64 (1:Int)]) jr) ?_
 refine nl hK ?_
 refine AW.ret ?_
 cases h
 exact dm.mk1 (bN (es:=[dI .i64 (0:Int),dI .i64 (0:Int),dN,dI .i64 (1:Int)]) rfl jr rfl rfl (ltb rfl) (leb rfl) rfl (.inr (.inr ⟨_,(et (wc (bI _) (wc (bI _) (wc (mW rfl) (wc (bI _) wcn))))),rfl,rfl⟩)))
 refine AW.skip (AW.seq (rar hx ?_))
 refine cdh h rfl (fun G6 h=>?_) (fun G6 h=>?_)
 refine rs hx fun K hK=>?_
 refine s1 (d:=.ag [dI .i64 (0:Int),dI .i64 (0:Int),dN,dI .i64 (2:Int)]) (aR jr) ?_
 refine s0 (bu (ds':=[dI .i64 (0:Int),dI .i64 (0:Int),dN,dI .i64 (2:Int)]) jr) ?_
 refine nl hK ?_
 refine AW.ret ?_
 cases h
 exact dm.mk1 (bN (es:=[dI .i64 (0:Int),dI .i64 (0:Int),dN,dI .i64 (2:Int)]) rfl jr rfl rfl (ltb rfl) (leb rfl) rfl (.inr (.inr ⟨_,(et (wc (bI _) (wc (bI _) (wc (mW rfl) (wc (bI _) wcn))))),rfl,rfl⟩)))
 refine AW.skip (rs hx fun K hK=>?_)
 iterate 7 refine sbr ?_
 refine s1 (d:=.ag [dI .i64 a6.vR,dI .i64 (i64.wrap (a6.vC+aZ.vC)),dN]) (aR aq) ?_
 refine s1 (d:=.pt 3 0) (aO aq) ?_
 refine s0 (bu (ds':=[dI .i64 a6.vR,dI .i64 (i64.wrap (a6.vC+aZ.vC)),dN]) aq) ?_
 refine nl hK ?_
 refine AW.seq (ra hx ?_)
 refine AW.block ?_
 obtain⟨qd,hy,h⟩:=ah h
 refine lp (S:=Int×(List ai)) (X:=(List ai)) (fun (cc,jb)=>[(2,.pt 0 0),(3,.pt 1 0),(4,.pt 2 0),(5,.pt 3 0),(6,dI .i64 cc)]) (fun (cc,jb)=>⟨[(0,[dI .i64 a6.vR,dI .i64 a6.vC,dL ae a6.vV]),(1,[dI .i64 aZ.vR,dI .i64 aZ.vC,dL ae aZ.vV]),(2,[dI .i64 (0:Int),dI .i64 (0:Int),dN,dI .i64 (0:Int)]),(3,[dI .i64 a6.vR,dI .i64 (i64.wrap (a6.vC+aZ.vC)),dO 4 ae jb])],[(4,(jb).length,36,34)],5⟩) (PE cx (.exit 0) (fun qd=>[(4,.pt 0 0),(5,.pt 1 0)]) fun qd=>⟨[(0,[dI .i64 (0:Int),dI .i64 (0:Int),dN,dI .i64 (0:Int)]),(1,[dI .i64 a6.vR,dI .i64 (i64.wrap (a6.vC+aZ.vC)),dO 2 ae qd])],[(2,(qd).length,36,34)],3⟩) hy ?_ ?_ ?_
 exact Wk.trans (Wk.nilOwn (ds':=[dI .i64 a6.vR,dI .i64 (i64.wrap (a6.vC+aZ.vC)),dO 4 ae ([]:List ai)]) 3 2 34 36) (wk h0 [0,1,2,3,4] (wR rfl (wR rfl (wR rfl (wR rfl (wR rfl wTn))))) (vR rfl (vR rfl (vR rfl (vR rfl wVn)))) (wL rfl rfl wLn))
 clear hy h
 rintro⟨cc,jb⟩ y h
 dsimp only[iT] at h
 refine AW.seq (rar hx ?_)
 refine cdh h rfl (fun jw h=>?_) (fun jw h=>?_)
 refine AW.skip (AW.seq (AW.block (rsd [] hx fun K hK=>?_)))
 iterate 13 refine sbr ?_
 obtain⟨Jy,h⟩:=am h
 refine s1 (Sj (c:=ae) (l:=a6.vV) (a:=i64.wrap (cc*a6.vC)) (b:=i64.wrap ((i64.wrap (cc+(1:Int)))*a6.vC)) Jy aF aC) ?_
 obtain⟨Cl,h⟩:=am h
 refine s1 (d:=dO 4 ae (jb++(nA a6.vV (i64.wrap (cc*a6.vC)) (i64.wrap ((i64.wrap (cc+(1:Int)))*a6.vC))))) (eD aF aC Cl) ?_
 refine sa ?_
 refine s0 (bu (ds':=[dI .i64 a6.vR,dI .i64 (i64.wrap (a6.vC+aZ.vC)),dO 4 ae (jb++(nA a6.vV (i64.wrap (cc*a6.vC)) (i64.wrap ((i64.wrap (cc+(1:Int)))*a6.vC))))]) aF) ?_
 refine nl hK ?_
 refine rqd [] hx fun K hK=>?_
 iterate 13 refine sbr ?_
 obtain⟨Ln,h⟩:=am h
 refine s1 (Sj (c:=ae) (l:=aZ.vV) (a:=i64.wrap (cc*aZ.vC)) (b:=i64.wrap ((i64.wrap (cc+(1:Int)))*aZ.vC)) Ln aF aC) ?_
 obtain⟨G4,h⟩:=am h
 refine s1 (d:=dO 4 ae ((jb++(nA a6.vV (i64.wrap (cc*a6.vC)) (i64.wrap ((i64.wrap (cc+(1:Int)))*a6.vC))))++(nA aZ.vV (i64.wrap (cc*aZ.vC)) (i64.wrap ((i64.wrap (cc+(1:Int)))*aZ.vC))))) (eD aF aC G4) ?_
 refine sa ?_
 refine s0 (bu (ds':=[dI .i64 a6.vR,dI .i64 (i64.wrap (a6.vC+aZ.vC)),dO 4 ae ((jb++(nA a6.vV (i64.wrap (cc*a6.vC)) (i64.wrap ((i64.wrap (cc+(1:Int)))*a6.vC))))++(nA aZ.vV (i64.wrap (cc*aZ.vC)) (i64.wrap ((i64.wrap (cc+(1:Int)))*aZ.vC))))]) aF) ?_
 refine nl hK ?_
 refine rb hx ?_
 exact pel h h0 [0,1,2,3,4]
 exact AW.exit (per h h0 [2,3,4])
 refine lw0 ?_
 refine rs hx fun K hK=>?_
 refine s1 (d:=.ag [dI .i64 a6.vR,dI .i64 (i64.wrap (a6.vC+aZ.vC)),dO 2 ae qd]) (bp aq) ?_
 refine s2 (d2:=dG tG (⟨(⟨a6.vR,i64.wrap (a6.vC+aZ.vC),qd⟩:an),(0:Int)⟩:dx)) (aR (es:=[dI .i64 a6.vR,dI .i64 (i64.wrap (a6.vC+aZ.vC)),dO 2 ae qd,dI .i64 (0:Int)]) jr) (et (wc (bI _) (wc (bI _) (wc (tT _) (wc (bI _) wcn))))) ?_
 refine s0 (bu (ds':=[dI .i64 a6.vR,dI .i64 (i64.wrap (a6.vC+aZ.vC)),dL ae qd,dI .i64 (0:Int)]) jr) ?_
 refine nl hK ?_
 refine AW.ret ?_
 cases h
 exact dm.mk1 (bN (es:=(tG.f (⟨(⟨a6.vR,i64.wrap (a6.vC+aZ.vC),qd⟩:an),(0:Int)⟩:dx)).map .e) rfl jr rfl rfl (ltb rfl) (leb rfl) rfl (.inr (.inr ⟨_,(ao _),rfl,rfl⟩)))
def fG(a6:an)(aZ:an):Option Bool:=bnd (S:=Bool) (cnd (decide (a6.vR=aZ.vR)) (cnd (decide (a6.vC=aZ.vC)) (bnd (dc a6.vV aZ.vV) fun x3=>some (x3)) (some (false))) (some (false))) fun gP=>some gP
theorem rY {a6:an}{aZ:an}{r:Bool}(h:fG a6 aZ=some r):ax prog 14 [dG aH a6,dG aH aZ] (dB r):=by
 refine bn (rs:=[.tmp 4]) (fun cx hx h0=>?_) func14
 unfold fG at h
 refine rs hx fun K hK=>?_
 refine s1 (d:=.pt 0 0) fC ?_
 refine s1 (d:=.pt 1 0) fC ?_
 refine nbr hK ?_
 refine AW.seq ?_
 obtain⟨gP,hy,h⟩:=ah h
 refine jn ((PE cx .normal (fun gP=>[(4,dB gP)]) fun gP=>⟨[],[],0⟩) gP) ?_ ?_
 replace h:=hy
 refine rq hx fun K hK=>?_
 refine mbr ?_
 rcases bE h with⟨eF,h⟩|⟨eF,h⟩
 refine mbr ?_
 rcases bE h with⟨tz,h⟩|⟨tz,h⟩
 refine ga tz ?_
 refine gbr ?_
 refine ga tz ?_
 refine gbr ?_
 refine gcb h ny fun x3 h=>?_
 refine nbr hK ?_
 exact pe1 h h0 []
 refine nbr hK ?_
 exact pe1 h h0 []
 refine nbr hK ?_
 exact pe1 h h0 []
 refine lw0 ?_
 exact AW.ret (rtv h)
def kE(io:List ai):Int→Option (Int⊕(Bool⊕Unit)):=fun aU=>cnd (decide (aU<((io).length:Int))) (bnd (S:=Bool) (gd (0≤aU∧aU<((io).length:Int)) (bnd (eV ((io)[(aU).toNat]!.vN)) fun x4=>cnd (decide ((60:Int)<x4)) (some (true)) (gd (0≤aU∧aU<((io).length:Int)) (bnd (eV ((io)[(aU).toNat]!.vD)) fun x9=>some (decide ((60:Int)<x9)))))) fun aW=>cnd aW (some (.inr (.inl false))) (some (.inl (i64.wrap (aU+(1:Int)))))) (some (.inr (.inr ())))
def oi(io:List ai):Option Bool:=bnd (aK (kE io) (0:Int)) fun y13=>match y13 with| .inl r=>some r| .inr ()=>some true
theorem EV {io:List ai}{r:Bool}(h:oi io=some r):ax prog 28 [dL ae io] (dB r):=by
 refine bn (rs:=[.tmp 2]) (fun cx hx h0=>?_) func28
 unfold oi at h
 refine ra hx ?_
 refine AW.seq (ra hx ?_)
 refine AW.block ?_
 obtain⟨y,hy,h⟩:=ah h
 refine lp (S:=Int) (X:=Bool⊕Unit) (fun aU=>[(0,dL ae io),(3,dI .i64 aU)]) (fun aU=>⟨[],[],0⟩) (PS (PR [.tmp 2] fun r=>dB r) (PE cx (.exit 0) (fun ()=>[]) fun ()=>⟨[],[],0⟩)) hy ?_ ?_ ?_
 exact wk0 h0 []
 clear hy h
 rintro aU y h
 dsimp only[kE] at h
 refine AW.seq (ra hx ?_)
 refine cdh h rfl (fun eF h=>?_) (fun eF h=>?_)
 refine AW.skip (AW.seq (AW.block (AW.seq ?_)))
 obtain⟨aW,hy,h⟩:=ah h
 refine jn ((PE cx .normal (fun aW=>[(0,dL ae io),(3,dI .i64 aU),(25,dB aW)]) fun aW=>⟨[],[],0⟩) aW) ?_ ?_
 replace h:=hy
 refine rq hx fun K hK=>?_
 iterate 2 refine sa ?_
 obtain⟨rk,h⟩:=am h
 have xE:(aU).toNat<(io).length:=by omega
 iterate 2 refine sbr ?_
 refine s1 (d:=dG az ((io)[(aU).toNat]!.vN)) (gk (c:=ae) (l:=io) (n:=(aU).toNat) (o:=0) iO xE (by first|exact rfl|exact pG0 _ _ _ rfl|exact pG1 _ _ _ _ rfl rfl)) ?_
 refine scb h zq fun x4 h=>?_
 refine mbr ?_
 rcases bE h with⟨lZ,h⟩|⟨lZ,h⟩
 refine nbr hK ?_
 exact pe1 h h0 []
 iterate 2 refine ga lZ ?_
 obtain⟨hc7,h⟩:=am h
 have hn8:(aU).toNat<(io).length:=by omega
 refine gbr ?_
 refine ga lZ ?_
 refine g1 (d:=dG az ((io)[(aU).toNat]!.vD)) lZ (gk (c:=ae) (l:=io) (n:=(aU).toNat) (o:=18) iO hn8 (by first|exact rfl|exact pG0 _ _ _ rfl|exact pG1 _ _ _ _ rfl rfl)) ?_
 refine gcb h zq fun x9 h=>?_
 refine nbr hK ?_
 exact pe1 h h0 []
 refine lw0 ?_
 refine cdh h rfl (fun wB h=>?_) (fun wB h=>?_)
 refine ra hx ?_
 refine AW.ret ?_
 cases h
 refine PS.r ⟨by nofun,PS.l (PR.i ?_)⟩
 exact rv1
 refine AW.skip (rb hx ?_)
 exact pel h h0 []
 exact AW.exit (peq h h0 [])
 rcases y with r|⟨⟩
 rintro ex tm' hp' ⟨rfl,hw⟩
 cases h
 exact hw
 refine lwr ?_
 refine ra hx ?_
 exact AW.ret (rtv h)
def ol(bq:an):Option Bool:=cnd (decide ((60:Int)<((bq.vV).length:Int))) (some false) (bnd (cz bq) fun x2=>cnd (!x2) (some true) (bnd (S:=Bool) (cnd (decide (bq.vR≤(6:Int))) (cnd (decide (bq.vC≤(7:Int))) (bnd (oi bq.vV) fun x7=>some (x7)) (some (false))) (some (false))) fun ph=>some ph))
theorem EW {bq:an}{r:Bool}(h:ol bq=some r):ax prog 10 [dG aH bq] (dB r):=by
 refine bn (rs:=[.tmp 2]) (fun cx hx h0=>?_) func10
 unfold ol at h
 refine rs hx fun K hK=>?_
 refine s1 (d:=.pt 0 0) fC ?_
 refine nbr hK ?_
 refine AW.seq (rar hx ?_)
 refine cdh h rfl (fun eF h=>?_) (fun eF h=>?_)
 refine ra hx ?_
 exact AW.ret (rtv h)
 refine AW.skip (AW.seq (rs hx fun K hK=>?_))
 refine s1 (d:=dG aH bq) (bp aq) ?_
 refine scb h iA fun x2 h=>?_
 refine nbr hK ?_
 refine cdh h rfl (fun yE h=>?_) (fun yE h=>?_)
 refine ra hx ?_
 exact AW.ret (rtv h)
 refine AW.skip (AW.seq ?_)
 obtain⟨ph,hy,h⟩:=ah h
 refine jn ((PE cx .normal (fun ph=>[(2,dB ph)]) fun ph=>⟨[],[],0⟩) ph) ?_ ?_
 replace h:=hy
 refine rq hx fun K hK=>?_
 refine mbr ?_
 rcases bE h with⟨pI,h⟩|⟨pI,h⟩
 refine mbr ?_
 rcases bE h with⟨lZ,h⟩|⟨lZ,h⟩
 refine ga lZ ?_
 refine gbr ?_
 refine gcb h EV fun x7 h=>?_
 refine nbr hK ?_
 exact pe1 h h0 []
 refine nbr hK ?_
 exact pe1 h h0 []
 refine nbr hK ?_
 exact pe1 h h0 []
 refine lw0 ?_
 exact AW.ret (rtv h)
def kD(bq:an)(bF:Int):Int×(List ai)→Option ((Int×(List ai))⊕((List ai))):=fun (aG,aS)=>cnd (decide (aG<bF)) (gd (0≤i64.wrap (aG*bq.vC)∧i64.wrap (aG*bq.vC)≤i64.wrap ((i64.wrap (aG*bq.vC))+bF)∧i64.wrap ((i64.wrap (aG*bq.vC))+bF)≤((bq.vV).length:Int)) (gd ((aS++(nA bq.vV (i64.wrap (aG*bq.vC)) (i64.wrap ((i64.wrap (aG*bq.vC))+bF)))).length*136≤140737488355328) (some (.inl (i64.wrap (aG+(1:Int)),aS++(nA bq.vV (i64.wrap (aG*bq.vC)) (i64.wrap ((i64.wrap (aG*bq.vC))+bF)))))))) (some (.inr aS))
def oh(bq:an)(bF:Int):Option an:=bnd (aK (kD bq bF) ((0:Int),([]:List ai))) fun aE=>some (⟨bF,bF,aE⟩:an)
theorem EU {bq:an}{bF:Int}{r:an}(h:oh bq bF=some r):ax prog 81 [dG aH bq,dI .i64 bF] (dG aH r):=by
 refine bn (rs:=[.cell 4 24]) (fun cx hx h0=>?_) func81
 unfold oh at h
 refine rs hx fun K hK=>?_
 refine s1 (d:=.pt 0 0) fC ?_
 refine s1 (d:=.pt 1 0) (aO aq) ?_
 refine nl hK ?_
 refine rs hx fun K hK=>?_
 iterate 2 refine sa ?_
 refine s1 (d:=.ag [dI .i64 bF,dI .i64 bF,dN]) (aR aq) ?_
 refine s1 (d:=.pt 2 0) (aO aq) ?_
 refine s0 (bu (ds':=[dI .i64 bF,dI .i64 bF,dN]) aq) ?_
 refine nl hK ?_
 refine AW.seq (ra hx ?_)
 refine AW.block ?_
 obtain⟨aE,hy,h⟩:=ah h
 refine lp (S:=Int×(List ai)) (X:=(List ai)) (fun (aG,aS)=>[(1,dI .i64 bF),(2,.pt 0 0),(4,.pt 1 0),(5,.pt 2 0),(6,dI .i64 aG)]) (fun (aG,aS)=>⟨[(0,[dI .i64 bq.vR,dI .i64 bq.vC,dL ae bq.vV]),(1,[dI .i64 (0:Int),dI .i64 (0:Int),dN]),(2,[dI .i64 bF,dI .i64 bF,dO 3 ae aS])],[(3,(aS).length,36,34)],4⟩) (PE cx (.exit 0) (fun aE=>[(4,.pt 0 0),(5,.pt 1 0)]) fun aE=>⟨[(0,[dI .i64 (0:Int),dI .i64 (0:Int),dN]),(1,[dI .i64 bF,dI .i64 bF,dO 2 ae aE])],[(2,(aE).length,36,34)],3⟩) hy ?_ ?_ ?_
 exact Wk.trans (Wk.nilOwn (ds':=[dI .i64 bF,dI .i64 bF,dO 3 ae ([]:List ai)]) 2 2 34 36) (wk h0 [0,1,2,3] (wR rfl (wR rfl (wR rfl (wR rfl (wR rfl wTn))))) (vR rfl (vR rfl (vR rfl wVn))) (wL rfl rfl wLn))
 clear hy h
 rintro⟨aG,aS⟩ y h
 dsimp only[kD] at h
 refine AW.seq (ra hx ?_)
 refine cdh h rfl (fun eF h=>?_) (fun eF h=>?_)
 refine AW.skip (AW.seq (AW.block (rqd [] hx fun K hK=>?_)))
 iterate 14 refine sbr ?_
 obtain⟨rk,h⟩:=am h
 refine s1 (Sj (c:=ae) (l:=bq.vV) (a:=i64.wrap (aG*bq.vC)) (b:=i64.wrap ((i64.wrap (aG*bq.vC))+bF)) rk aF aC) ?_
 obtain⟨Ou,h⟩:=am h
 refine s1 (d:=dO 3 ae (aS++(nA bq.vV (i64.wrap (aG*bq.vC)) (i64.wrap ((i64.wrap (aG*bq.vC))+bF))))) (eD aF aC Ou) ?_
 refine sa ?_
 refine s0 (bu (ds':=[dI .i64 bF,dI .i64 bF,dO 3 ae (aS++(nA bq.vV (i64.wrap (aG*bq.vC)) (i64.wrap ((i64.wrap (aG*bq.vC))+bF))))]) aF) ?_
 refine nl hK ?_
 refine rb hx ?_
 exact pel h h0 [0,1,2,3]
 exact AW.exit (per h h0 [1,2,3])
 refine lw0 ?_
 refine rs hx fun K hK=>?_
 refine s1 (d:=.ag [dI .i64 bF,dI .i64 bF,dO 2 ae aE]) (bp aq) ?_
 refine s0 (bu (ds':=[dI .i64 bF,dI .i64 bF,dO 2 ae aE]) aq) ?_
 refine nl hK ?_
 refine AW.ret ?_
 cases h
 exact dm.mk1 (bN (es:=[dI .i64 bF,dI .i64 bF,dO 2 ae aE]) rfl aq rfl rfl (ltb rfl) (leb rfl) rfl (.inr (.inr ⟨_,(et (wc (bI _) (wc (bI _) (wc (tT _) wcn)))),rfl,rfl⟩)))
structure nU where
 vcol:Int
 vby:ai
 vmoved:Bool
 deriving Inhabited,DecidableEq
def bf:Cd nU:=⟨38,fun x=>[.lit (.int .i64 x.vcol)]++ae.f x.vby++[.lit (.bool x.vmoved)],fun x=>by simp[ae.h,show ae.sz=36 from rfl]⟩
theorem xW(x:nU):aX (bf.f x) (cI .i64) 0 x.vcol (fun y=>bf.f (⟨y,x.vby,x.vmoved⟩:nU)):=
 aX.of ([]) ((ae).f x.vby++(cB).f x.vmoved) (by first|rfl|(simp[(cI .i64).h,cB.h,ae.h];first|rfl|done)) (by first|rfl|simp[bf,cI,cB,cS,cL,fy]) (fun y=>by first|rfl|simp[bf,cI,cB,cS,cL,fy])
theorem GR(x:nU):aX (bf.f x) ae 1 x.vby (fun y=>bf.f (⟨x.vcol,y,x.vmoved⟩:nU)):=
 aX.of (((cI .i64)).f x.vcol) ((cB).f x.vmoved) (by first|rfl|(simp[(cI .i64).h,cB.h,ae.h];first|rfl|done)) (by first|rfl|simp[bf,cI,cB,cS,cL,fy]) (fun y=>by first|rfl|simp[bf,cI,cB,cS,cL,fy])
theorem Cc(x:nU):aX (bf.f x) cB 37 x.vmoved (fun y=>bf.f (⟨x.vcol,x.vby,y⟩:nU)):=
 aX.of (((cI .i64)).f x.vcol++(ae).f x.vby) ([]) (by first|rfl|(simp[(cI .i64).h,cB.h,ae.h];first|rfl|done)) (by first|rfl|simp[bf,cI,cB,cS,cL,fy]) (fun y=>by first|rfl|simp[bf,cI,cB,cS,cL,fy])
structure dh where
 vm:an
 vl:List nU
 deriving Inhabited,DecidableEq
def sx:Cd dh:=⟨4,fun x=>aH.f x.vm++[slE bf x.vl],fun x=>by simp[aH.h,show aH.sz=3 from rfl]⟩
section
section
variable {vs v6 pz:List (Nat×List D)} {lv EN:List (Nat×Nat×Nat×TypeId)} {N M n2 k:Nat}
theorem fV.up(hok:fV ⟨vs,lv,N⟩)(h:N≤M):fV ⟨vs,lv,M⟩:=
 ⟨fun j es hj=>by obtain⟨h1,h2⟩:=hok.var j es hj;exact⟨bU h1 h,cb.2 fun d hd=>D.idsC_le h (cb.1 h2 d hd)⟩,fun id e hi=>bU (hok.tok id e hi) h⟩
theorem fV.consM {ds:List D}(hok:fV ⟨vs,lv,M⟩)(hk:k<M)(hd:ds.all (D.idsC M)=true):fV ⟨(k,ds)::vs,lv,M⟩:=hok.cons (aD M) hk hd
theorem wk1 {x:Cx}{tm tm':List (Nat×D)}{vs0:List (Nat×List D)}{lv0:List (Nat×Nat×Nat×TypeId)}{N0 n':Nat}(h0:x.hp0=⟨vs0,lv0,N0⟩)(hN:N0≤n':=by omega)(hn:n'≤n2:=by omega)(hok:fV ⟨pz,lv,n'⟩:=by (repeat (first|assumption|refine fV.consM ?_ (by omega) (by (first|exact qF _|exact lineD_ids (by omega)|exact dicC_ids (by omega) (by omega)|assumption|exact rfl|(simp only[nZ,rW,j7];exact det_)))|exact fV.up (by assumption) (by omega))))
  (hv:∀j ds,pz.lookup j=some ds→v6.lookup j=some ds:=by (intro j ds h;(repeat (rcases ew h with⟨rfl,rfl⟩|⟨hj,h⟩;·(repeat (first|exact ak|assumption|refine al (by first|assumption|exact n9 (by assumption)|omega) ?_))));have hjN:=fV.lt (by assumption) h;(repeat (first|exact ak|assumption|refine al (by first|assumption|exact n9 (by assumption)|omega) ?_)))) (ht:qT n' tm tm':=by (repeat (first|exact qT.nil|refine qT.cons ?_ (by exact rfl) (by (first|exact rfl|assumption|exact det_|exact cb.2 (fun k hk=>d6 (by simp only[je,Bp,or_false] at hk;omega))))))):Wk x tm ⟨v6,lv,n2⟩ tm' ⟨pz,lv,n'⟩:=wkS (by rw[h0];exact hN) hn hok hv ht
theorem rt1 {x:Cx}{tm:List (Nat×D)}{q:Nat}{d:D}(h0:x.hp0=⟨vs,lv,N⟩)(hok:fV ⟨pz,lv,N⟩:=by (repeat (first|assumption|refine fV.consM ?_ (by omega) (by (first|exact qF _|exact lineD_ids (by omega)|exact dicC_ids (by omega) (by omega)|assumption|exact rfl|(simp only[nZ,rW,j7];exact det_)))|exact fV.up (by assumption) (by omega))))(hN:N≤n2:=by omega)(hv:∀j ds,pz.lookup j=some ds→v6.lookup j=some ds:=by (intro j ds h;(repeat (rcases ew h with⟨rfl,rfl⟩|⟨hj,h⟩;·(repeat (first|exact ak|assumption|refine al (by first|assumption|exact n9 (by assumption)|omega) ?_))));have hjN:=fV.lt (by assumption) h;(repeat (first|exact ak|assumption|refine al (by first|assumption|exact n9 (by assumption)|omega) ?_))))(hq:tm.lookup q=some d:=by exact rfl)(hd:d.idsB N=true:=by (first|exact rfl|assumption|exact det_|exact cb.2 (fun k hk=>d6 (by simp only[je,Bp,or_false] at hk;omega)))):
  ∃tm',Wk x tm ⟨v6,lv,n2⟩ tm' ⟨pz,lv,N⟩∧yU tbl [.tmp q] tm' ⟨pz,lv,N⟩ d:=
 ⟨[(q,d)],wkS (by rw[h0];exact aD N) hN hok hv (qT.nil.cons hq hd),⟨d,ak,rfl⟩⟩
end
section
variable {md:Md} {ops:Array Oper} {K:List (Nat×D)→Hp→Prop} {os:List Oper} {tm:List (Nat×D)} {hp hp':Hp} {t s:Tmp} {op:Op} {ty:TypeId} {pos:String} {af:Array Edge} {d:D} {j k o n i:Nat} {want c:Bool} {F F2:List D} {F':List D→List D} {a b:Nu} {x y:Operand}
theorem gn(hw:c= !want)(h2:ba prog tbl md ops K os ((t,.tu [])::tm) hp)(hj:(ops[j]?).bind (·.dst)=some s:=by exact rfl)(hc:tm.lookup s=some (.e (.lit (.bool c))):=by exact rfl):ba prog tbl md ops K (⟨some t,op,ty,pos,af,some (j,want)⟩::os) tm hp:=aT hj hc hw h2
theorem l1(L:Pt F o (dC (a9.f a)) F')(h2:ba prog tbl md ops K os ((t,dG a9 a)::tm) hp)(hx:evD tm x=.pt k o:=by exact rfl)(hv:hp.vars.lookup k=some F:=by (repeat (first|exact ak|assumption|refine al (by first|assumption|exact n9 (by assumption)|omega) ?_)))(hk:k<hp.next:=by (first|omega|(dsimp only;omega)))(hn:md.nc tbl (.load 34 x)=true:=by exact rfl):ba prog tbl md ops K (⟨some t,.load 34 x,ty,pos,af,none⟩::os) tm hp:=s1 (ldN L hv hk hx) h2 hn
theorem t1 {vs:List (Nat×List D)}{lv:List (Nat×Nat×Nat×TypeId)}{N:Nat}(L:Pt F o (dC (a9.f a)) F')(h3:F' (dC (a9.f b))=F2)(h2:ba prog tbl md ops K os tm ⟨(k,F2)::vs,lv,N⟩)(hx:evD tm x=.pt k o:=by exact rfl)(hv:vs.lookup k=some F:=by (repeat (first|exact ak|assumption|refine al (by first|assumption|exact n9 (by assumption)|omega) ?_)))(hy:evD tm y=dG a9 b:=by exact rfl)(hn:md.nc tbl (.store 34 x y)=true:=by exact rfl):ba prog tbl md ops K (⟨none,.store 34 x y,ty,pos,af,none⟩::os) tm ⟨vs,lv,N⟩:=s0 (stN L hv h3 hx hy rfl) h2 hn
theorem l1g(L:Pt F o (dC (a9.f a)) F')(hw:c=want)(h2:ba prog tbl md ops K os ((t,dG a9 a)::tm) hp)(hx:evD tm x=.pt k o:=by exact rfl)(hv:hp.vars.lookup k=some F:=by (repeat (first|exact ak|assumption|refine al (by first|assumption|exact n9 (by assumption)|omega) ?_)))(hk:k<hp.next:=by (first|omega|(dsimp only;omega)))(hj:(ops[j]?).bind (·.dst)=some s:=by exact rfl)(hc:tm.lookup s=some (.e (.lit (.bool c))):=by exact rfl)(hn:md.nc tbl (.load 34 x)=true:=by exact rfl):ba prog tbl md ops K (⟨some t,.load 34 x,ty,pos,af,some (j,want)⟩::os) tm hp:=g1 hw (ldN L hv hk hx) h2 hj hc hn
theorem cqg {f:FuncId}{la:List Operand}{ts:Array TypeId}{ds:List D}{r:D}(hc:ax prog f ds r)(hw:c=want)(h2:ba prog tbl md ops K os ((t,r)::tm) hp)(hj:(ops[j]?).bind (·.dst)=some s:=by exact rfl)(hg:tm.lookup s=some (.e (.lit (.bool c))):=by exact rfl)(hp1:((la.map (evD tm)).map D.ex).all D.pure=true:=by repeat (first|exact pn|refine pA (dH _ _) ?_|refine pA rfl ?_))(hl:leL ((la.map (evD tm)).map D.ex) ds:=by repeat (first|exact lAn|refine lC (tS _ _) ?_|refine lC (ao _) ?_))(hr:r.pure=true∨∃ds,r=.tu ds:=by (first|exact .inl (lL _ _)|exact .inl rfl|exact .inr ⟨_,rfl⟩)):
  ba prog tbl md ops K (⟨some t,.call ⟨.value (.func f),la.toArray,ts⟩,ty,pos,af,some (j,want)⟩::os) tm hp:=sqg tok hj hg hw hc hp1 hl hr h2
theorem n1 {vs:List (Nat×List D)}{lv:List (Nat×Nat×Nat×TypeId)}{N:Nat}(h2:ba prog tbl md ops K os ((t,.pt N 0)::tm) ⟨(N,dC zN)::vs,lv,N+1⟩)(hn:md.nc tbl (.alloc 34)=true:=by exact rfl):ba prog tbl md ops K (⟨some t,.alloc 34,ty,pos,af,none⟩::os) tm ⟨vs,lv,N⟩:=s1 T_alN h2 hn
theorem z1 {vs:List (Nat×List D)}{lv:List (Nat×Nat×Nat×TypeId)}{N:Nat}(h2:ba prog tbl md ops K os tm ⟨(k,(dC (a9.f b)))::vs,lv,N⟩)(hx:evD tm x=.pt k 0:=by exact rfl)(hv:vs.lookup k=some (dC zN):=by (repeat (first|exact ak|assumption|refine al (by first|assumption|exact n9 (by assumption)|omega) ?_)))(hy:evD tm y=dG a9 b:=by exact rfl)(hn:md.nc tbl (.store 34 x y)=true:=by exact rfl):ba prog tbl md ops K (⟨none,.store 34 x y,ty,pos,af,none⟩::os) tm ⟨vs,lv,N⟩:=s0 (stZ hv hx hy rfl) h2 hn
theorem c1 {tt:TypeId}{ti:TyE}(L:Pt F o [d] F')(h2:ba prog tbl md ops K os ((t,d)::tm) hp)(hx:evD tm x=.pt k o:=by exact rfl)(hv:hp.vars.lookup k=some F:=by (repeat (first|exact ak|assumption|refine al (by first|assumption|exact n9 (by assumption)|omega) ?_)))(hk:k<hp.next:=by (first|omega|(dsimp only;omega)))(ht:tbl tt=some ti:=by exact tbI)(hg:ti.ty.agg=false:=by exact rfl)(hn:md.nc tbl (.load tt x)=true:=by exact rfl):ba prog tbl md ops K (⟨some t,.load tt x,ty,pos,af,none⟩::os) tm hp:=s1 (T_ld1 L hv hk ht hg hx) h2 hn
theorem c1g {tt:TypeId}{ti:TyE}(L:Pt F o [d] F')(hw:c=want)(h2:ba prog tbl md ops K os ((t,d)::tm) hp)(hx:evD tm x=.pt k o:=by exact rfl)(hv:hp.vars.lookup k=some F:=by (repeat (first|exact ak|assumption|refine al (by first|assumption|exact n9 (by assumption)|omega) ?_)))(hk:k<hp.next:=by (first|omega|(dsimp only;omega)))(ht:tbl tt=some ti:=by exact tbI)(hg:ti.ty.agg=false:=by exact rfl)(hj:(ops[j]?).bind (·.dst)=some s:=by exact rfl)(hc:tm.lookup s=some (.e (.lit (.bool c))):=by exact rfl)(hn:md.nc tbl (.load tt x)=true:=by exact rfl):ba prog tbl md ops K (⟨some t,.load tt x,ty,pos,af,some (j,want)⟩::os) tm hp:=g1 hw (T_ld1 L hv hk ht hg hx) h2 hj hc hn
theorem p1 {tt:TypeId}{ti:TyE}{bs:List D}(L:Pt F o bs F')(hz:bs.length=ti.size)(h2:ba prog tbl md ops K os ((t,.ag bs)::tm) hp)(hx:evD tm x=.pt k o:=by exact rfl)(hv:hp.vars.lookup k=some F:=by (repeat (first|exact ak|assumption|refine al (by first|assumption|exact n9 (by assumption)|omega) ?_)))(hk:k<hp.next:=by (first|omega|(dsimp only;omega)))(ht:tbl tt=some ti:=by exact tbI)(hg:ti.ty.agg=true:=by exact rfl)(hn:md.nc tbl (.load tt x)=true:=by exact rfl):ba prog tbl md ops K (⟨some t,.load tt x,ty,pos,af,none⟩::os) tm hp:=s1 (T_ldP L hv hk ht hz hg hx) h2 hn
theorem v1 {vs:List (Nat×List D)}{lv:List (Nat×Nat×Nat×TypeId)}{N:Nat}{tt:TypeId}{ti:TyE}{bs ys:List D}(L:Pt F o bs F')(hz:bs.length=ti.size)(hl:ys.length=bs.length)(h3:F' ys=F2)(h2:ba prog tbl md ops K os tm ⟨(k,F2)::vs,lv,N⟩)(hx:evD tm x=.pt k o:=by exact rfl)(hv:vs.lookup k=some F:=by (repeat (first|exact ak|assumption|refine al (by first|assumption|exact n9 (by assumption)|omega) ?_)))(hyc:(evD tm y).cells=some ys:=by exact rfl)(ht:tbl tt=some ti:=by exact tbI)(hn:md.nc tbl (.store tt x y)=true:=by exact rfl):ba prog tbl md ops K (⟨none,.store tt x y,ty,pos,af,none⟩::os) tm ⟨vs,lv,N⟩:=s0 (Si L hv hyc ht hz hl h3 hx rfl) h2 hn
theorem a1 {vs:List (Nat×List D)}{lv:List (Nat×Nat×Nat×TypeId)}{N:Nat}{tt:TypeId}{ti:TyE}{F:List E}(ht:tbl tt=some ti)(h2:ba prog tbl md ops K os ((t,.pt N 0)::tm) ⟨(N,dC F)::vs,lv,N+1⟩)(hz:ti.zero.map E.lit=F:=by kernel_rfl)(hn:md.nc tbl (.alloc tt)=true:=by exact rfl):ba prog tbl md ops K (⟨some t,.alloc tt,ty,pos,af,none⟩::os) tm ⟨vs,lv,N⟩:=s1 (lB ht hz) h2 hn
end
end
section
section
variable {vs:List (Nat×List D)} {lv:List (Nat×Nat×Nat×TypeId)} {N kd R G w:Nat} {C:Nat→Nat}
theorem Pt.all {F:List D}:Pt F 0 F id:=Pt.of [] [] rfl (by simp) fun y=>by simp
end
end
def KZ(p:Nu→Bool)(l:List Nu):Int:=match l.findIdx? p with
 |some i=>i
 |none=>-1
theorem Qk {p:Nu→Bool}{l:List Nu}{i:Nat}(hi:i<l.length)(h:p l[i]! =true)(Lf:∀j,j<i→p l[j]! =false):KZ p l=i:=by
 have:l.findIdx? p=some i:=by
  rw[R9]
  refine⟨hi,by rw[f7 l i hi] at h;exact h,fun j hj=>?_⟩
  have:=Lf j hj
  rw[f7 l j (by omega)] at this
  simp[this]
 unfold KZ;rw[this]
theorem Of {p:Nu→Bool}{l:List Nu}(Lf:∀j,j<l.length→p l[j]! =false):KZ p l=-1:=by
 have:l.findIdx? p=none:=by
  rw[List.findIdx?_eq_none_iff]
  intro x hx
  obtain⟨j,hj,rfl⟩:=List.mem_iff_getElem.1 hx
  have:=Lf j hj
  rwa[f7 l j hj] at this
 unfold KZ;rw[this]
theorem Pg {f:FuncId}{p:Nu→Bool}(hf:∀x:Nu,ax prog f [dG a9 x] (dB (p x))){l:List Nu}(hl:l.length≤1000000):ax prog 135 [.e (slE a9 l),.e (.lit (.func (.func f) #[] #[]))] (dI .i64 (KZ p l)):=by
 refine bn (rs:=[.tmp 4]) (fun cx hx h0=>?_) func135
 refine ra hx ?_
 refine AW.seq (ra hx ?_)
 refine AW.block (AW.loopW (fun i:Nat=>[(0,.e (slE a9 l)),(1,.e (.lit (.func (.func f) #[] #[]))),(7,dI .i64 (l.length:Nat)),(8,dI .i64 (i:Nat))]) (fun _=>⟨[],[],0⟩) (fun i=>i≤l.length∧∀j,j<i→p l[j]! =false) (fun i=>l.length - i) 0 ?_ ⟨bY _,fun j h=>absurd h (wI _)⟩ ?_)
 ·exact wk h0 [] (wR rfl (wR rfl (wR rfl (wR rfl wTn)))) wVn wLn
 ·rintro i ⟨hi,Lf⟩
  refine ra hx ?_
  refine AW.seq (AW.condS rfl (fun hb=>?_) (fun hb=>?_))
  ·have Iq:i<l.length:=by have:=n8 hb;omega
   refine AW.skip (AW.seq (AW.block (ra hx ?_)))
   refine rs hx fun K hK=>?_
   iterate 3 refine sa ?_
   have rk:0≤(i:Int)∧(i:Int)<((l.length:Nat):Int):=by omega
   refine sbr ?_
   refine s1 (d:=dG a9 l[i]!) (gk (c:=a9) (l:=l) (n:=i) (o:=0) aC Iq (cH _ _ rfl)) ?_
   refine sc (hf _) ?_
   refine nl hK ?_
   refine AW.condS rfl (fun hb=>?_) (fun hb=>?_)
   ·refine ra hx ?_
    refine AW.ret ?_
    rw[Qk Iq hb Lf]
    exact rv1
   ·refine AW.skip (rbr hx ?_)
    rw[pH]
    refine⟨i+1,wk h0 [] (wR rfl (wR rfl (wR rfl (wR rfl wTn)))) wVn wLn,⟨Iq,fun j hj=>?_⟩,by omega⟩
    rcases bt j i with h1|h1
    ·exact Lf j h1
    ·obtain rfl:j=i:=by omega
     exact hb
  ·refine AW.exit ?_
   have Iq:i=l.length:=by have:=rO hb;omega
   refine ra hx ?_
   refine AW.ret ?_
   rw[Of fun j hj=>Lf j (by omega)]
   exact rv1
section
section
variable {vs:List (Nat×List D)} {lv:List (Nat×Nat×Nat×TypeId)} {N kd R G w m nn:Nat} {C:Nat→Nat}
theorem lit_Nu(l:List Nu):(l.flatMap a9.f).all E.isLit=true:=by
 rw[cb]
 intro x hx
 obtain⟨a,_,ha⟩:=List.mem_flatMap.1 hx
 have h2:∀y,y∈az.f a.1.vN∨y∈az.f a.1.vD→y.isLit=true:=by
  have h3:∀z:ap,∀y∈az.f z,y.isLit=true:=fun z y hy=>by
   rcases s5.1 (show y∈[E.lit (.bool z.vBad),.lit (.bool z.vNeg)]++al_cV.f z.vW from hy) with h|h
   ·simp at h;rcases h with rfl|rfl <;> rfl
   ·obtain⟨n,_,hn⟩:=List.mem_flatMap.1 (show y∈z.vW.toList.flatMap (cI .u32).f from h)
    rw[HG.1 hn];rfl
  rintro y (h|h)
  ·exact h3 _ y h
  ·exact h3 _ y h
 exact h2 x (s5.1 (show x∈az.f a.1.vN++az.f a.1.vD from ha))
end
end
section
theorem HC.weak {P:Program}{f:FuncId}{ds:List D}{hp:Hp}{d:D}{vars vars':List (Nat×List D)}{lv lv':List (Nat×Nat×Nat×TypeId)}{n n':Nat}(hc:HC P f ds hp d ⟨vars,lv,n⟩)(h0:hp.next≤n')
  (h:fV hp→fV ⟨vars',lv',n'⟩∧(∀j ds,vars'.lookup j=some ds→vars.lookup j=some ds)∧(∀j y,lv'.lookup j=some y→lv.lookup j=some y)∧d.idsB n'=true):HC P f ds hp d ⟨vars',lv',n'⟩:=by
 refine⟨hc.1,fun B g w vs hr hsz dy=>(hc.2 B g w vs hr hsz dy).mono ?_⟩
 obtain⟨hok,hv,hl,hd⟩:=h hr.ok
 rintro e w' ⟨v,g',rfl,rD,hM,hrd,hb,hF⟩
 have fW:∀id y,lv'.lookup id=some y→lv.lookup id=some y:=hl
 refine⟨v,g',rfl,⟨fun k ds hk=>?_,fun k k' a b hk v3 he=>rD.inj k k' a b (hv k a hk) (hv k' b v3) he,fun id m e hi=>?_,fun id A9 t t' b hi Ap=>rD.tinj id A9 t t' b (fW _ _ hi) (fW _ _ Ap),rD.base,rD.fits⟩,
  ⟨hM.size,hM.cell,hM.forb,h0,hM.μ,fun id hid m e QW=>hM.live id hid m e (fW id _ QW),fun b hb hf=>⟨(hM.fr b hb hf).1,(hM.fr b hb hf).2.1,fun k ds hk=>(hM.fr b hb hf).2.2.1 k ds (hv k ds hk),fun id t hi=>(hM.fr b hb hf).2.2.2 id t (fW id _ hi)⟩,hM.szs⟩,Jm hrd hd rfl fW,hb,hF⟩
 ·obtain⟨_,h3,h4,cs,ty,h5,h6,h7⟩:=rD.var k ds (hv k ds hk)
  obtain⟨h1,h2⟩:=hok.var k ds hk
  exact⟨h1,h3,h4,cs,ty,h5,h6,fun j u hu=>⟨(h7 j u hu).1,fun d hd=>jv ((h7 j u hu).2 d hd) (cb.1 h2 d (bT hd)) rfl fW⟩⟩
 ·obtain⟨_,us,h2,h3,h4⟩:=rD.tok id m e (fW _ _ hi)
  exact⟨hok.tok id _ hi,us,h2,h3,fun b hb=>⟨(h4 b hb).1,fun k ds hk=>(h4 b hb).2 k ds (hv k ds hk)⟩⟩
theorem resV {q:Nat}{tt:TypeId}{ti:TyE}{k:Nat}{F:List D}{vs:List (Nat×List D)}{lv:List (Nat×Nat×Nat×TypeId)}{N:Nat}{tm:List (Nat×D)}{k2:D→Prop}(ht:tbl tt=some ti)(hl:tm.lookup q=some (.pt k 0))(hv:vs.lookup k=some F)(hk:k<N)(hz:F.length=ti.size)(hg:ti.ty.agg=true)(h:k2 (.ag F)):rG tbl tm ⟨vs,lv,N⟩ (.cell q tt) k2:=by
 refine⟨.pt k 0,hl,⟨_,ht⟩,?_⟩
 rw[pG,ht]
 simp only[hv,hg]
 refine⟨hk,by omega,?_⟩
 rw[oa,gu (by omega)]
 exact h
theorem HC.forget {P:Program}{f:FuncId}{ds:List D}{d:D}{vs vars:List (Nat×List D)}{lv:List (Nat×Nat×Nat×TypeId)}{N n:Nat}(hc:HC P f ds ⟨vs,lv,N⟩ d ⟨vars,lv,n⟩)(hv:∀j ds,j<N→vs.lookup j=some ds→vars.lookup j=some ds)(hd:d.idsB N=true):HC P f ds ⟨vs,lv,N⟩ d ⟨vs,lv,N⟩:=
 hc.weak (aD N) fun hok=>⟨hok,fun j ds h=>hv j ds (hok.lt h) h,fun _ _ h=>h,hd⟩
section
variable {vs:List (Nat×List D)} {lv:List (Nat×Nat×Nat×TypeId)} {N w i ks s:Nat} {C:Nat→Nat}
theorem rtN1 {x:Cx}{tm:List (Nat×D)}{pz v6:List (Nat×List D)}{vs0:List (Nat×List D)}{lv0:List (Nat×Nat×Nat×TypeId)}{N0 M n2 q k:Nat}{a:Nu}(h0:x.hp0=⟨vs0,lv0,N0⟩)(hM:N0≤M)(hok:fV ⟨pz,lv,M⟩)(hN:M≤n2)(hv:∀j ds,pz.lookup j=some ds→v6.lookup j=some ds)(hk:pz.lookup k=some (dC (a9.f a)))(hq:tm.lookup q=some (.pt k 0)):
  ∃tm',Wk x tm ⟨v6,lv,n2⟩ tm' ⟨pz,lv,M⟩∧yU tbl [.cell q 34] tm' ⟨pz,lv,M⟩ (dG a9 a):=
 ⟨[(q,.pt k 0)],wkS (by rw[h0];exact hM) hN hok hv (qT.nil.cons hq (d6 (hok.lt hk))),resV aC ak hk (hok.lt hk) (sM a) rfl rfl⟩
end
end
section
section
variable {x:Cx} {tm tm':List (Nat×D)} {hp:Hp}
theorem Wk.perm {vars':List (Nat×List D)}{iQ:List (Nat×Nat×Nat×TypeId)}{m:Nat}(σ:Nat→Nat)(h0:x.hp0.next≤m)(bG:∀i,i<x.hp0.next→σ i=i)(hinj:∀i j,i<m→j<m→σ i=σ j→i=j)
  (ht:∀p∈tm',tm.lookup p.1=some (p.2.ren σ)∧p.2.idsB m=true∧p.2.noOs=true)
  (hv:∀k ds,vars'.lookup k=some ds→k<m∧hp.vars.lookup (σ k)=some (ds.map (D.renC σ))∧ds.all (D.idsC m)=true∧ds.all D.noO=true)
  (hl:∀k y,iQ.lookup k=some y→k<m∧hp.live.lookup (σ k)=some y):Wk x tm hp tm' ⟨vars',iQ,m⟩:=by
 intro a w ⟨g,hr,i4,hsz,uc,hB,hF,hM⟩
 have fW:∀id y,(⟨vars',iQ,m⟩:Hp).live.lookup id=some y→hp.live.lookup (σ id)=some y:=fun id y h=>(hl _ _ h).2
 refine⟨⟨fun i=>g.μ (σ i),fun i=>g.τ (σ i),g.F⟩,⟨fun k ds hk=>?_,fun k k' ds ds' hk v3 he=>?_,fun id n e hi=>?_,fun id A9 t t' b hi Ap hb sh=>?_,hr.base,hr.fits⟩,fun t d h=>?_,hsz,uc,hB,hF,
  ⟨hM.size,hM.cell,hM.forb,h0,fun k hk=>by show g.μ _=_;rw[bG k hk];exact hM.μ k hk,fun id hid n e QW=>?_,fun b hb hf=>⟨(hM.fr b hb hf).1,(hM.fr b hb hf).2.1,fun k ds hk=>(hM.fr b hb hf).2.2.1 _ _ (hv _ _ hk).2.1,fun id t hi=>(hM.fr b hb hf).2.2.2 _ t (fW id _ hi)⟩,hM.szs⟩⟩
 ·obtain⟨h1,h2,h3,h4⟩:=hv _ _ hk
  obtain⟨_,h5,h6,cs,ty,h7,h8,h9⟩:=hr.var _ _ h2
  refine⟨h1,h5,h6,cs,ty,h7,by simpa using h8,fun j u hu=>⟨fun h=>(h9 j u hu).1 (by simpa using h),fun d hd=>?_⟩⟩
  exact kt ((h9 j u hu).2 (d.renC _) (by rw[fO,hd];rfl)) (cb.1 h3 d (bT hd)) (cb.1 h4 d (bT hd)) rfl (fun _=>rfl) (fun _=>rfl) rfl fW
 ·obtain⟨h1,h2,_⟩:=hv _ _ hk
  obtain⟨uI,u9,_⟩:=hv _ _ v3
  exact hinj _ _ h1 uI (hr.inj _ _ _ _ h2 u9 he)
 ·obtain⟨h1,h2⟩:=hl _ _ hi
  obtain⟨_,us,h3,h4,h5⟩:=hr.tok _ n e h2
  exact⟨h1,us,h3,h4,fun b hb=>⟨(h5 b hb).1,fun k ds hk=>(h5 b hb).2 _ _ (hv _ _ hk).2.1⟩⟩
 ·obtain⟨h1,h2⟩:=hl _ _ hi
  obtain⟨uI,u9⟩:=hl _ _ Ap
  exact hinj _ _ h1 uI (hr.tinj _ _ _ _ b h2 u9 hb sh)
 ·obtain⟨h1,h2,h3⟩:=ht _ (cy h)
  exact GI (i4 t _ h1) h2 h3 rfl (fun _=>rfl) (fun _=>rfl) rfl fW
 ·obtain⟨m0,h1,h2,h3⟩:=hM.live id hid n e (by rw[←bG id hid];exact fW id _ QW)
  exact⟨m0,h1,h2,fun h=>by show g.τ _=_;rw[bG id hid];exact h3 h⟩
theorem PC {σ:Nat→Nat}{n:Nat}(hσ:∀i,i<n→σ i=i){d:D}(hd:d.idsC n=true)(hn:d.noO=true):d.renC σ=d:=by
 cases d with
 |own id z n xs=>simp only[D.idsC,oK] at hd;simp only[D.renC,hσ id hd]
 |pt k o=>simp only[D.idsC,oK] at hd;simp only[D.renC,hσ k hd]
 |ow k o z n=>simp only[D.idsC,oK] at hd;simp only[D.renC,hσ k hd]
 |gw k z n=>simp only[D.idsC,oK] at hd;simp only[D.renC,hσ k hd]
 |fn f ks=>
  simp only[D.idsC,cb,oK] at hd
  simp only[D.renC]
  congr 1
  exact (tK fun k hk=>hσ k (hd k hk)).trans (D0 _)
 |opt b d=>cases hn
 |_=>rfl
theorem MJ {σ:Nat→Nat}{n:Nat}(hσ:∀i,i<n→σ i=i){ds:List D}(hd:ds.all (D.idsC n)=true)(hn:ds.all D.noO=true):ds.map (D.renC σ)=ds:=
 (tK fun d h=>PC hσ (cb.1 hd d h) (cb.1 hn d h)).trans (D0 _)
end
def TmR(σ:Nat→Nat)(m:Nat)(tm tm':List (Nat×D)):Prop:=∀p∈tm',tm.lookup p.1=some (p.2.ren σ)∧p.2.idsB m=true∧p.2.noOs=true
theorem TmR.nil {σ:Nat→Nat}{m:Nat}{tm:List (Nat×D)}:TmR σ m tm []:=fun p hp=>absurd hp (Bp)
theorem TmR.cons {σ:Nat→Nat}{m t:Nat}{d:D}{tm tm':List (Nat×D)}(h2:TmR σ m tm tm')(h:tm.lookup t=some (d.ren σ))(hi:d.idsB m=true)(hn:d.noOs=true:=by exact rfl):TmR σ m tm ((t,d)::tm'):=fun p hp=>by
 rcases je.1 hp with rfl|hp
 ·exact⟨h,hi,hn⟩
 ·exact h2 p hp
end
section
theorem AR.tu {hp:Hp}{ds es:List D}(h:ARs hp ds es):AR hp (.tu ds) (.tu es):=by
 intro B g w v hr hd
 obtain⟨h1,h2⟩:=h.get
 cases hd with
 |tu _ cs hl zc=>
  refine aI.tu es cs (by omega) fun j e u hj hu=>?_
  obtain⟨d,h3,h4⟩:=h2 j e hj
  exact h4 B g w u hr (zc j d u h3 hu)
def mkNu(x:ai)(h:okR x):Nu:=⟨x,h⟩
open Classical in
def wu(x:ai):Nu:=if h:okR x then mkNu x h else default
theorem GN {x:ai}(h:okR x):nv (wu x)=x:=by unfold wu;rw[dif_pos h];rfl
theorem nuOf_nv(x:Nu):wu (nv x)=x:=by unfold wu;rw[dif_pos (show okR (nv x) from x.2)];rfl
def okL(l:List ai):Prop:=∀x∈l,okR x
theorem Jd {l:List ai}(h:okL l):(l.map wu).map nv=l:=by
 rw[rX]
 exact (tK fun x hx=>GN (h x hx)).trans (D0 _)
theorem okL_nv(l:List Nu):okL (l.map nv):=fun x hx=>by
 obtain⟨a,_,rfl⟩:=mw.1 hx
 exact a.2
theorem map_nv(l:List Nu):(l.map nv).map wu=l:=by
 rw[rX]
 exact (tK fun x _=>nuOf_nv x).trans (D0 _)
theorem AR.dn {hp:Hp}{e:E}(h:(D.e e).pure=true):AR hp (.e e) (.e e):=AR.data (d:=.e e) h
end
theorem ql:El prog 22 34 (.agg #[.bool false,.bool false,aj,aj,aj,aj,aj,aj,aj,aj,aj,aj,aj,aj,aj,aj,aj,aj,.bool false,.bool false,aj,aj,aj,aj,aj,aj,aj,aj,aj,aj,aj,aj,aj,aj,aj,aj]) 36 136:=⟨underlying22,info_parts (by kernel_rfl),rfl,by decide⟩
theorem qh(n:Nat)(us:List Value)(v:Value)(w:World)(hl:Sl w v 36 n us)(h1:∀u∈us,u.oneCell'=true)(hn:n≤1000000):
  Calls prog 97 #[v] w fun e w'=>∃q,e=.returned q∧w'.ownsRow w.heap.size 34 36 q n us∧Below w.heap.size w w':=by
 obtain⟨A,c,rfl,pl,oF,hr⟩:=id hl
 cases A with
 |none=>
  obtain rfl:n=0:=by
   rcases mJ n with h|h
   ·exact h
   ·obtain⟨_,h,_⟩:=hr.2 h;cases h
  obtain rfl:us=[]:=kY (by simpa using hr.1)
  have he:(binOp .eql 22 (.slice none 0 c) (.slice none 0 0)).run prog w=.ok (.bool true) w:=by kernel_rfl
  go_enter func97,ntmps97
  go_wp2_with fail
  go_ret
  exact⟨_,rfl,⟨rfl,.inl ⟨rfl,rfl⟩⟩,Below.refl _ _⟩
 |some ad=>
  have he:(binOp .eql 22 (.slice (some ad) n c) (.slice none 0 0)).run prog w=.ok (.bool false) w:=by kernel_rfl
  go_enter func97,ntmps97
  have hown0:=own_mtG w 34 w.heap.size 36 (aD _)
  have JF:=(Below.refl w.heap.size w).alloc (aD _) (.cells #[] 34)
  have Cj:=hl.below JF
  have HL:=Lib.hid Cj
  have H1:=Lib.hid h1
  clear hl hr Cj h1
  go_wp2_with (at_builtin;refine zi _ rfl _ _ _ rfl ql w.heap.size _ _ _ rfl hown0 _ _ _ rfl HL.out H1.out (by omega) (by omega) (by simp) w w.heap.size JF (aD _) ?_)
  intro v' w' lj hb
  go_wp2_with fail
  go_ret
  refine⟨_,rfl,?_,hb⟩
  simpa using lj
theorem gb(n:Nat)(xs:List E)(hn:n≤1000000):ax prog 97 [.e (.sl 36 n xs)] (.own 34 36 n xs):=
 RM (by decide) ⟨_,func97,rfl,rfl⟩ (fun us v w h1 h2=>qh n us v w h1 h2 hn)
section
def FWd(ro:Option Nat):Fence:={Fence.wide with round:=ro}
section
variable {P:Program} {ro:Option Nat} {n:Nat}
theorem BV {f:FuncId}{args:Array Value}{w:World}{R:Ending→World→Prop}(h:Calls P f args w R):CallsIn (FWd ro) n P f args w R:=(callsIn_wide (n:=n)).2 h
theorem KN {row:String}{args:Array Value}{w:World}{R:Value→World→Prop}(h:Rows P row args w R):RowsIn (FWd ro) n P row args w R:=fun c cs _=>by
 obtain⟨v,w',hr,hs⟩:=h c cs
 exact⟨v,w',hr,stepsIn_wide.2 hs⟩
theorem upon_in {o:Oper}{a:Act}{K:Act→World→Prop}{Q:Exit→Act→World→Prop}{r:Result Next}(h:o.upon P a K Q r):o.uponIn (FWd ro) n P a K Q r:=by
 cases r with
 |ok nx w'=>
  cases nx with
  |enter f args=>
   rw[Oper.upon_enter] at h
   rw[Oper.uponIn_enter]
   refine⟨fun hd=>(by cases hd),(BV h).mono ?_⟩
   intro e w'' hh
   cases e <;> exact hh
  |row r args=>
   rw[Oper.uponIn_row]
   exact⟨fun hd=>(by cases hd),KN h⟩
  |value v=>exact h
  |skip=>exact h
  |«defer» d=>exact h
  |_=>exact h.elim
 |halt hx w'=>
  cases hx with
  |panic v=>exact h
  |_=>exact h.elim
def uY(ops:Array Oper):Bool:=ops.all fun o=>match o.op with
 | .defer _=>false
 |_=>true
theorem zG {ops:Array Oper}(h:uY ops=true){i:Nat}{o:Oper}(hi:ops[i]? =some o):∀c,o.op≠.defer c:=by
 unfold uY at h
 rw[LU] at h
 have:=h o (Array.mem_of_getElem? hi)
 intro c hc
 rw[hc] at this
 cases this
theorem op_in {o:Oper}{a:Act}{w:World}{K:Act→World→Prop}{Q:Exit→Act→World→Prop}(hd:∀c,o.op≠.defer c)(h:o.wp P a w K Q):o.wpIn (FWd ro) n P a w K Q:=by
 refine⟨fun _ _=>trivial,?_⟩
 rw[Oper.semAt_eq _ _ _ hd]
 exact upon_in h
end
section
variable {P:Program} {tb:TypeId→Option TyE} {x:Cx} {tm tm':List (Nat×D)} {hp hp':Hp} {a:Act} {w w':World} {ro:Option Nat} {n:Nat}
theorem CK {ops:Array Oper}{K:List (Nat×D)→Hp→Prop}{Q:Exit→Act→World→Prop}(hN:iZ x.N ops=true)(uH:uY ops=true)(tl:List Nat)(r2:List Oper)
  (hk:∀tm hp a w,K tm hp→RS x tm hp a w→wpOpsIn (FWd ro) n P ops Q tl a w)
  (rest:List Oper) (i:Nat) (tm:List (Nat×D)) (hp:Hp) (a:Act) (w:World) (hd:ops.toList.drop i=rest++r2) (h:ba P tb .seq ops K rest tm hp) (hr:RS x tm hp a w):wpOpsIn (FWd ro) n P ops Q (List.range' i rest.length++tl) a w:=by
 have step:∀{o:Oper} {os:List Oper} {i:Nat},ops.toList.drop i=o::os→ops[i]? =some o∧ops.toList.drop (i+1)=os:=by
  intro o os i hd
  refine⟨?_,by rw[←nj,hd];rfl⟩
  have:(ops.toList.drop i)[0]? =some o:=by rw[hd];rfl
  rw[lX] at this
  simpa using this
 induction h generalizing i a w with
 |nil h=>exact hk _ _ _ _ h hr
 |on d hp' hg h2 h1 ih=>
  obtain⟨ho,EQ⟩:=step hd
  have zO:=fun t ht=>lT hN ho (t:=t) ht
  simp only[n7,Hz,DY]
  unfold wpOpsIn
  rw[ho]
  dsimp only
  obtain⟨g,_,i4,_⟩:=id hr
  rw[hg.wanted i4,ar rfl]
  exact op_in (zG uH ho) (hr.op h2.ok zO fun a' w' rD=>ih (i+1) a' w' EQ rD)
 |off d hg hs h1 ih=>
  obtain⟨ho,EQ⟩:=step hd
  have zO:=fun t ht=>lT hN ho (t:=t) ht
  simp only[n7,Hz,DY]
  unfold wpOpsIn
  rw[ho]
  dsimp only
  obtain⟨g,_,i4,_⟩:=id hr
  rw[hg.wanted i4,aA (by simp)]
  exact⟨fun _ _=>trivial,ih (i+1) _ _ EQ (hr.skip hs zO)⟩
 |sq _ d hp' hg h2 h1 ih=>
  obtain⟨ho,EQ⟩:=step hd
  have zO:=fun t ht=>lT hN ho (t:=t) ht
  simp only[n7,Hz,DY]
  unfold wpOpsIn
  rw[ho]
  dsimp only
  obtain⟨g,_,i4,_⟩:=id hr
  rw[hg.wanted i4,ar rfl]
  exact op_in (zG uH ho) (hr.op h2 zO fun a' w' rD=>ih (i+1) a' w' EQ rD)
 |wk _ hw h ih=>exact ih i a w hd (hw.rs hr)
def AV(P:Program)(ro:Option Nat)(x:Cx)(c:Code)(tm:List (Nat×D))(hp:Hp)(Q:Exit→Act→World→Prop):Prop:=∀a w,RS x tm hp a w→c.wpIn (FWd ro) 0 P Q a w
variable {Q:Exit→Act→World→Prop}
theorem AV.mono {c:Code}{Q':Exit→Act→World→Prop}(h:AV P ro x c tm hp Q)(hq:∀ex a w,Q ex a w→Q' ex a w):AV P ro x c tm hp Q':=fun a w hr=>wpIn_mono (h a w hr) hq
theorem CL {c:Code}:c.wpIn (FWd none) n P Q a w↔c.wp P Q a w:=wpIn_wide (n:=n)
theorem AV.aw {c:Code}{Q':Exit→List (Nat×D)→Hp→Prop}(h:AW P x c tm hp Q')(hq:∀ex tm' hp' a w,Q' ex tm' hp'→RS x tm' hp' a w→Q ex a w):AV P none x c tm hp Q:=
 fun a w hr=>CL.2 (wp_mono (h a w hr) fun ex a' w' ⟨tm',hp',h1,h2⟩=>hq ex tm' hp' a' w' h2 h1)
theorem AV.seq {c c':Code}(h:AV P ro x c tm hp (Exit.then (fun a w=>c'.wpIn (FWd ro) 0 P Q a w) Q)):AV P ro x (.seq c c') tm hp Q:=fun a w hr=>wpIn_seq (h a w hr)
theorem AV.seqA {c c':Code}(h:AW P x c tm hp fun ex tm' hp'=>match ex with| .normal=>AV P none x c' tm' hp' Q|ex=>∀a w,RS x tm' hp' a w→Q ex a w):AV P none x (.seq c c') tm hp Q:=by
 refine AV.seq (AV.aw h ?_)
 intro ex tm' hp' a w h1 hr
 cases ex with
 |normal=>exact h1 a w hr
 |_=>exact h1 a w hr
theorem AV.block {id:Nat}{c:Code}(h:AV P ro x c tm hp (Exit.inBlock id Q)):AV P ro x (.block id c) tm hp Q:=fun a w hr=>wpIn_block (h a w hr)
theorem AV.ret(h:∀a w,RS x tm hp a w→Q .ret a w):AV P ro x .ret tm hp Q:=fun a w hr=>wpIn_ret (h a w hr)
theorem AV.skip(h:∀a w,RS x tm hp a w→Q .normal a w):AV P ro x .skip tm hp Q:=fun a w hr=>wpIn_skip (h a w hr)
theorem AV.weak {c:Code}(hw:Wk x tm hp tm' hp')(h:AV P ro x c tm' hp' Q):AV P ro x c tm hp Q:=fun a w hr=>h a w (hw a w hr)
theorem AV.cond {c:Operand}{c1 c2:Code}{b:Bool}(hc:evD tm c=.e (.lit (.bool b)))(ht:b=true→AV P ro x c1 tm hp Q)(hf:b=false→AV P ro x c2 tm hp Q):AV P ro x (.cond c c1 c2) tm hp Q:=by
 intro a w hr
 obtain⟨g,_,i4,_⟩:=id hr
 have hv:=zU i4 c
 rw[hc] at hv
 refine wpIn_cond (t:=b) hv.lit ?_
 cases b
 ·exact hf rfl a w hr
 ·exact ht rfl a w hr
theorem AV.region {id:Nat}{ops:Array Oper}(hN:iZ x.N ops=true)(uH:uY ops=true)(h:∀K:List (Nat×D)→Hp→Prop,(∀tm hp,(∀a w,RS x tm hp a w→Q .normal a w)→K tm hp)→ba P tb .seq ops K ops.toList tm hp):AV P ro x (.region id ops false) tm hp Q:=by
 intro a w hr
 refine wpIn_region ?_
 have:=CK (ro:=ro) (n:=0) (Q:=Q) hN uH [] [] (fun tm hp a w hk hr=>by unfold wpOpsIn;exact hk a w hr) ops.toList 0 tm hp a w (by simp) (h _ fun _ _ h=>h) hr
 rwa[vQ,eK,←F7] at this
theorem AV.loop {c:Code}(I:Nat→List (Nat×D)→Hp→Prop){n:Nat}{tm0:List (Nat×D)}{hp0:Hp}(hw:Wk x tm hp tm0 hp0)(h0:I n tm0 hp0)
  (round:∀n tm hp,I n tm hp→AV P none x c tm hp (Exit.then (fun a w=>∃m NQ bQ,m<n∧RS x NQ bQ a w∧I m NQ bQ) Q)):AV P none x (.loop c) tm hp Q:=by
 intro a w hr
 refine CL.2 (xI (fun n a w=>∃tm hp,RS x tm hp a w∧I n tm hp) (n:=n) ⟨tm0,hp0,hw a w hr,h0⟩ (fun n a w ⟨tm,hp,hr,hI⟩=>wp_mono (CL.1 (round n tm hp hI a w hr)) ?_))
 intro ex a' w' h1
 cases ex with
 |normal=>
  obtain⟨m,NQ,bQ,h2,h3,h4⟩:=h1
  exact⟨m,h2,NQ,bQ,h3,h4⟩
 |_=>exact h1
theorem IU {tc:Option Tmp}{ty ta:Tmp}{ts:Array TypeId}{tyid:TypeId}{pos:String}{af:Array Edge}{l:Nat}{gd:Option (Nat×Bool)}(hy:a.eval (.tmp ty)=.func (.yield l) #[] #[]){fn:FuncId}{tmps:Array Value}{assign body:Code}(hr:(Instr.yield l #[a.eval (.tmp ta)]).run P w=.ok (.round l fn tmps assign body) w):
  (execOp a.eval ⟨tc,.call ⟨.value (.tmp ty),#[.tmp ta],ts⟩,tyid,pos,af,gd⟩).run P w=.ok (.round l fn tmps assign body) w:=by
 have Dk:a.tmps[ty]?.getD undef=.func (.yield l) #[] #[]:=by simpa[Act.eval,de] using hy
 have Lb:(Instr.yield l #[a.tmps[ta]?.getD undef]).run P w=.ok (.round l fn tmps assign body) w:=by simpa[Act.eval,de] using hr
 simp[execOp,resolve,invoke,Dk,Lb,go_sem]
end
end
section
section
variable {B:Nat} {hp hp' hp1 bQ:Hp} {g g' g1 g2:Gh} {w w' w1 w2:World} {l:Nat} {o o':Obj}
theorem uy(hl:w.heap[l]? =some o)(ho:o.isCells=false)(uG:o'.isCells=false)(p:Addr):(w.putObj l o').cell? p=w.cell? p:=by
 by_cases hp:p.block=l
 ·unfold World.cell?
  rw[hp,hl,World.putObj_heap_same (ey.1 hl).1]
  cases o <;> cases o' <;> first|rfl|(cases uG;done)|(cases ho;done)
 ·exact World.cell?_of_block (World.putObj_heap_other hp)
theorem um(hl:w.heap[l]? =some o)(ho:o.isCells=false){b:Nat}{cs:Array Value}{ty:TypeId}{r:Nat×Nat}(hb:w.heap[b]? =some (.cells cs ty r)):b≠l:=by
 rintro rfl
 rw[hl] at hb
 injection hb with hb
 subst hb
 cases ho
theorem dq.putO {F:Addr→Prop}{x:E}{v:Value}(h:dq w F x v)(hl:w.heap[l]? =some o)(ho:o.isCells=false)(uG:o'.isCells=false):dq (w.putObj l o') F x v:=
 h.mono (by simp) (fun p _ _=>uy hl ho uG p) fun _ _ h=>h
theorem aI.putO {d:D}{v:Value}(h:aI hp g w d v)(hl:w.heap[l]? =some o)(ho:o.isCells=false)(uG:o'.isCells=false):aI hp g (w.putObj l o') d v:=by
 induction h with
 |e x v h=>exact .e x v (h.putO hl ho uG)
 |own id z n xs v h hid ht=>exact .own id z n xs v (h.putO hl ho uG) hid ht
 |fu z n xs A h=>exact .fu z n xs A (h.putO hl ho uG)
 |ag ds cs hl h1 _ ih=>exact .ag ds cs hl h1 ih
 |tu ds cs hl _ ih=>exact .tu ds cs hl ih
 |fp xs off ad hb hc=>
  refine .fp xs off ad (by simpa using hb) (fun j x hx=>?_)
  obtain⟨u,h1,h2,h3⟩:=hc j x hx
  exact⟨u,(uy hl ho uG _).trans h1,h2,h3.putO hl ho uG⟩
 |pt k off hk=>exact .pt k off hk
 |ow k off z n c hk h1 h2=>exact .ow k off z n c hk h1 h2
 |gw k z n c hk h1 h2 hs=>
  obtain⟨cs,ty,r,h3,h4⟩:=hs
  exact .gw k z n c hk h1 h2 ⟨cs,ty,r,(World.putObj_heap_other (um hl ho h3)).trans h3,h4⟩
 |fn f ks hk=>exact .fn f ks hk
 |opt b d v hi _ ih=>exact .opt b d v hi ih
 |top v=>exact .top v
theorem HR.putO(h:HR B hp g w)(hl:w.heap[l]? =some o)(ho:o.isCells=false)(uG:o'.isCells=false):HR B hp g (w.putObj l o'):=by
 refine⟨fun k ds hk=>?_,h.inj,fun id n e hi=>?_,h.tinj,by simpa using h.base,fun p hf=>by simpa using h.fits p hf⟩
 ·obtain⟨h1,h2,h3,cs,ty,h4,h5,h6⟩:=h.var k ds hk
  exact⟨h1,h2,h3,cs,ty,(World.putObj_heap_other (um hl ho h4)).trans h4,h5,fun j u hu=>⟨(h6 j u hu).1,fun d hd=>((h6 j u hu).2 d hd).putO hl ho uG⟩⟩
 ·obtain⟨h1,us,hz,h2,h3⟩:=h.tok id n e hi
  refine⟨h1,us,hz,⟨h2.1,?_⟩,h3⟩
  rcases h2.2 with h0|⟨b,cap,cur,hv,hB,hh,r⟩
  ·exact .inl h0
  ·exact .inr ⟨b,cap,cur,hv,hB,(World.putObj_heap_other (um hl ho hh)).trans hh,r⟩
theorem HR.free(h:HR B hp g w)(hl:w.heap[l]? =some o)(ho:o.isCells=false):Ih hp g l:=by
 refine⟨fun k ds hk=>?_,fun id t hi he=>?_⟩
 ·obtain⟨_,_,_,cs,ty,h4,_⟩:=h.var k ds hk
  exact um hl ho h4
 ·obtain⟨h1,us,hz,h2,h3⟩:=h.tok id t.1 t.2 hi
  rcases h2.2 with⟨h0,_⟩|⟨b,cap,cur,hv,hB,hh,r⟩
  ·rw[h0] at he;cases he
  ·rw[hv] at he
   have:b=l:=by injection he
   exact um hl ho hh this
theorem bC.patch {o1:Obj}(m:bC hp1 g1 (w1.putObj l o1) bQ g2 w2)(hl:w1.heap[l]? =some o)(ho:o.isCells=false)(ho1:o1.isCells=false)(hf:Ih hp1 g1 l):bC hp1 g1 w1 bQ g2 (w2.putObj l o):=by
 have bG:l<w1.heap.size:=(ey.1 hl).1
 have hs1:(w1.putObj l o1).heap.size=w1.heap.size:=by simp
 obtain⟨h2,h3,h4⟩:=m.fr l (by rw[hs1];exact bG) hf
 have h2:w2.heap[l]? =some o1:=h2.trans (World.putObj_heap_same bG)
 have hlt2:l<w2.heap.size:=(ey.1 h2).1
 refine⟨by have:=m.size;rw[hs1] at this;simpa using this,fun p hp hF=>?_,fun p hp hF=>m.forb p (by rw[hs1];exact hp) hF,m.next,m.μ,m.live,fun b hb hfb=>?_,fun b cs ty r hc=>?_⟩
 ·rw[uy h2 ho1 ho,m.cell p (by rw[hs1];exact hp) hF,uy hl ho ho1]
 ·obtain⟨h5,h6,h7⟩:=m.fr b (by rw[hs1];exact hb) hfb
  refine⟨?_,h6,h7⟩
  by_cases e:b=l
  ·subst e;rw[World.putObj_heap_same hlt2,hl]
  ·rw[World.putObj_heap_other e,h5,World.putObj_heap_other e]
 ·have e:b≠l:=um hl ho hc
  obtain⟨vd,h5,h6⟩:=m.szs b cs ty r ((World.putObj_heap_other e).trans hc)
  exact⟨vd,(World.putObj_heap_other e).trans h5,h6⟩
theorem bC.putNew(m:bC hp g w hp' g' w')(hn:w.heap.size≤l)(hl:w'.heap[l]? =some o)(ho:o.isCells=false)(uG:o'.isCells=false):bC hp g w hp' g' (w'.putObj l o'):=by
 refine⟨by simpa using m.size,fun p hp hF=>by rw[uy hl ho uG];exact m.cell p hp hF,m.forb,m.next,m.μ,m.live,fun b hb hfb=>?_,fun b cs ty r hc=>?_⟩
 ·obtain⟨h5,h6,h7⟩:=m.fr b hb hfb
  exact⟨(World.putObj_heap_other (by omega)).trans h5,h6,h7⟩
 ·obtain⟨vd,h5,h6⟩:=m.szs b cs ty r hc
  have:b<w.heap.size:=(ey.1 hc).1
  exact⟨vd,(World.putObj_heap_other (by omega)).trans h5,h6⟩
theorem vi {w0:World}(h:Below B w0 w)(hl:B≤l):Below B w0 (w.putObj l o'):=
 ⟨h.os,h.tape,h.output,by simpa using h.size,fun k hk=>(World.putObj_heap_other (by omega)).trans (h.block k hk)⟩
end
structure zb(B:Nat)(hp:Hp)(g:Gh)(w:World)(hp':Hp)(g':Gh)(w':World):Prop where
 hr:HR B hp' g' w'
 mo:bC hp g w hp' g' w'
 bl:Below B w w'
 fo:∀p:Addr,p.block<B→g.F p→g'.F p
theorem zb.trans {B:Nat}{hp hp' bQ:Hp}{g g' g2:Gh}{w w' w2:World}(h:zb B hp g w hp' g' w')(h':zb B hp' g' w' bQ g2 w2):zb B hp g w bQ g2 w2:=
 ⟨h'.hr,h.mo.trans h'.mo,h.bl.trans h'.bl,fun p hp hq=>h'.fo p hp (h.fo p hp hq)⟩
def FZ(r:Loop):Loop:={r with state:=.busy}
def sN(r:Loop):Loop:={r with state:=.done,pending:=some .ret}
def YOk(P:Program)(B l:Nat)(rec:Loop)(hpE:Hp)(gE:Gh)(wE:World)(hp:Hp)(d:D)(Y S:Hp→Prop):Prop:=
 ∀g W v,zb B hpE gE wE hp g W→aI hp g W d v→YieldAt Fence.wide 0 P l #[v] W fun e w'=>
  (e=.returned (.bool true)∧∃hp' g',zb B hp g W hp' g' w'∧Y hp')∨
  (e=.returned (.bool false)∧∃hp' g' W',w'=W'.putObj l (.loop (sN rec))∧W'.heap[l]? =some (.loop rec)∧zb B hp g W hp' g' W'∧S hp')
section
variable {P:Program} {tb:TypeId→Option TyE} {B l:Nat} {rec:Loop} {hpE hp:Hp} {gE:Gh} {wE:World} {d:D} {tm0:List (Nat×D)} {Y S:Hp→Prop}
theorem YOk.of {p:Tmp}(hlE:wE.heap[l]? =some (.loop rec))(hrE:HR B hpE gE wE)(Dp:rec.state=.ready)(hpe:rec.pending=none)(hpar:rec.params=#[p])(hB:B≤l)(hp0:p<rec.tmps.size)
  (i4:∀t d,tm0.lookup t=some d→aI hpE gE wE d (rec.tmps.getD t undef))
  (has:∀x:Cx,x.N=rec.tmps.size→x.df=[]→x.hp0=hp→AV P (some l) x rec.assign ((p,d)::tm0) hp fun ex a w=>ex=.normal∧∃Fy hp1,RS x Fy hp1 a w∧
   ∀x:Cx,x.N=rec.tmps.size→x.df=[]→x.hp0=hp1→AV P (some l) x rec.body Fy hp1 fun ex a w=>∃tm hp',RS x tm hp' a w∧match ex with| .normal=>Y hp'| .ret=>S hp'|_=>False):
  YOk P B l rec hpE gE wE hp d Y S:=by
 intro g W v hc hv
 have hfE:=hrE.free hlE rfl
 obtain⟨hl0,_,hf0⟩:=hc.mo.fr l (ey.1 hlE).1 hfE
 have hl:W.heap[l]? =some (.loop rec):=hl0.trans hlE
 refine⟨_,_,_,_,run_yield hl (by rw[hpar];rfl),roundIn_of_wpIn trivial ?_⟩
 rw[hpar]
 have Do:RS ⟨B,W,g.F,rec.tmps.size,hp,g,[]⟩ ((p,d)::tm0) hp {tmps:=((#[p]:Array Tmp).zip #[v]).foldl (fun tmps (t,a)=>tmps.setIfInBounds t a) rec.tmps,defers:=[]} W:=by
  refine⟨g,hc.hr,fun t d' ht=>?_,by simp,rfl,Below.refl _ _,fun _ _ h=>h,bC.refl _ _ _⟩
  have hz:(#[p]:Array Tmp).zip #[v]=#[(p,v)]:=by apply Array.ext';simp
  rw[hz]
  simp only[List.foldl_toArray',J9,List.foldl_nil,my,n7,List.length_nil,bB]
  by_cases e:t=p
  ·subst e
   have:some d=some d':=by rw[←ht];exact ak.symm
   injection this with this
   subst this
   simpa[de,hp0] using hv
  ·have h0:=i4 t d' (by rw[←ht];exact (ay e).symm)
   have:=h0.mono hc.mo
   simpa[de,D6 (fun h:p=t=>e h.symm)] using this
 refine wpIn_mono (has ⟨B,W,g.F,rec.tmps.size,hp,g,[]⟩ rfl rfl rfl _ _ Do) ?_
 rintro ex a1 w1 ⟨rfl,Fy,hp1,⟨g1,Qy,htm1,hsz1,hdf1,hB1,It,hM1⟩,hbo⟩
 obtain⟨hl1',_,Jv⟩:=hM1.fr l (ey.1 hl).1 hf0
 have FN:w1.heap[l]? =some (.loop rec):=hl1'.trans hl
 have hlt1:=(ey.1 FN).1
 refine⟨_,run_beginRound FN Dp,?_⟩
 have hmid:RS ⟨B,w1.putObj l (.loop (FZ rec)),g.F,rec.tmps.size,hp1,g1,[]⟩ Fy hp1 a1 (w1.putObj l (.loop (FZ rec))):=
  ⟨g1,Qy.putO FN rfl rfl,fun t d ht=>(htm1 t d ht).putO FN rfl rfl,hsz1,hdf1,Below.refl _ _,It,bC.refl _ _ _⟩
 refine wpIn_mono (hbo ⟨B,w1.putObj l (.loop (FZ rec)),g.F,rec.tmps.size,hp1,g1,[]⟩ rfl rfl rfl _ _ hmid) ?_
 rintro ex a2 w2 ⟨tm,bQ,⟨g2,Lb,_,_,_,hB2,hF2,hM2⟩,hq⟩
 obtain⟨hl2',_,Q8⟩:=hM2.fr l (by simpa using hlt1) Jv
 have Cj:w2.heap[l]? =some (.loop (FZ rec)):=hl2'.trans (World.putObj_heap_same hlt1)
 have hlt2:=(ey.1 Cj).1
 have hbl:Below B w1 w2:=⟨hB2.os,hB2.tape,hB2.output,by simpa using hB2.size,fun k hk=>(hB2.block k hk).trans (World.putObj_heap_other (by omega))⟩
 have yc:zb B hp g W bQ g2 (w2.putObj l (.loop rec)):=⟨Lb.putO Cj rfl rfl,hM1.trans (hM2.patch FN rfl rfl Jv),vi (hB1.trans hbl) hB,hF2⟩
 cases ex with
 |normal=>
  refine⟨_,_,run_endRound none Cj,.inl ⟨rfl,bQ,g2,?_,hq⟩⟩
  have:({(FZ rec) with state:=if (none:Option Code).isNone then .ready else .done,pending:=none}:Loop)=rec:=by
   obtain⟨s,q,f1,f2,f3,f4,f5,f6⟩:=rec
   dsimp only at Dp hpe
   subst Dp;subst hpe
   rfl
  rw[this];exact yc
 |ret=>
  refine⟨_,_,run_endRound (some .ret) Cj,.inr ⟨rfl,bQ,g2,w2.putObj l (.loop rec),?_,World.putObj_heap_same hlt2,yc,hq⟩⟩
  show w2.putObj l _=(w2.putObj l _).putObj l _
  unfold World.putObj
  dsimp only
  congr 1
  simp[sN,FZ]
 |_=>exact hq.elim
end
section
variable {P:Program} {tb:TypeId→Option TyE} {x:Cx} {tm Fy:List (Nat×D)} {hp hp1:Hp} {Q:Exit→Act→World→Prop}
theorem AV.yield {id:Nat}{ops:Array Oper}{tc ty ta tn:Tmp}{ts:Array TypeId}{ty1 ty2 ty3:TypeId}{p1 p2:String}{a1 a2:Array Edge}{l:Nat}{rec:Loop}{hpE:Hp}{gE:Gh}{wE:World}(m:Nat)
  (QD:ops.toList=ops.toList.take m++[⟨some tc,.call ⟨.value (.tmp ty),#[.tmp ta],ts⟩,ty1,p1,a1,none⟩,⟨some tn,.unOp .not ty2 (.tmp tc),ty3,p2,a2,none⟩]) (hN:iZ x.N ops=true) (uH:uY ops=true)
  (hx:x.hp0=hpE∧x.g0=gE∧x.w0=wE∧∀p:Addr,p.block<x.B→gE.F p→x.F0 p)
  (h1:∀K:List (Nat×D)→Hp→Prop,(∀Fy hp1 d Y S,Fy.lookup ty=some (.e (.lit (.func (.yield l) #[] #[])))→Fy.lookup ta=some d→YOk P x.B l rec hpE gE wE hp1 d Y S→
    (∀bQ a w,Y bQ→RS x ((tn,.e (.lit (.bool false)))::(tc,.e (.lit (.bool true)))::Fy) bQ a w→Q .normal a w)→
    (∀bQ g2 W' a,S bQ→W'.heap[l]? =some (.loop rec)→zb x.B hpE gE wE bQ g2 W'→a.defers=x.df→Q .ret a (W'.putObj l (.loop (sN rec))))→K Fy hp1)→ba P tb .seq ops K (ops.toList.take m) tm hp):
  AV P none x (.seq (.region id ops false) (.cond (.tmp tn) .ret .skip)) tm hp Q:=by
 generalize ops.toList.take m=pre at QD h1
 intro a w hr
 refine wpIn_seq (wpIn_region ?_)
 have hlen:ops.size=pre.length+2:=by rw[←eK,QD];simp
 have Dv:ops[pre.length]? =some ⟨some tc,.call ⟨.value (.tmp ty),#[.tmp ta],ts⟩,ty1,p1,a1,none⟩:=by
  rw[←yK,QD,wN (aD _)];simp
 have MW:ops[pre.length+1]? =some ⟨some tn,.unOp .not ty2 (.tmp tc),ty3,p2,a2,none⟩:=by
  rw[←yK,QD,wN (by omega),show pre.length+1 - pre.length=1 by omega];rfl
 have zQ:tc<x.N:=lT hN Dv rfl
 have rk:tn<x.N:=lT hN MW rfl
 rw[hlen,F7,show List.range' 0 (pre.length+2)=List.range' 0 pre.length++[pre.length,pre.length+1] from by
  rw[←List.range'_append_1];simp[List.range']]
 refine CK (K:=fun Fy hp1=>∃d Y S,Fy.lookup ty=some (.e (.lit (.func (.yield l) #[] #[])))∧Fy.lookup ta=some d∧YOk P x.B l rec hpE gE wE hp1 d Y S∧
   (∀bQ a w,Y bQ→RS x ((tn,.e (.lit (.bool false)))::(tc,.e (.lit (.bool true)))::Fy) bQ a w→Q .normal a w)∧
   (∀bQ g2 W' a,S bQ→W'.heap[l]? =some (.loop rec)→zb x.B hpE gE wE bQ g2 W'→a.defers=x.df→Q .ret a (W'.putObj l (.loop (sN rec))))) hN uH _ _ ?_ pre 0 tm hp a w (by rw[oa];exact QD) (h1 _ fun Fy hp1 d Y S q1 q2 q3 q4 q5=>⟨d,Y,S,q1,q2,q3,q4,q5⟩) hr
 rintro Fy hp1 a w ⟨d,Y,S,hy,ha,hY,ht,hf⟩ ⟨g,hh,i4,hsz,uc,hB,hF,hM⟩
 -- GA round
 unfold wpOpsIn
 rw[Dv]
 dsimp only
 rw[show Region.wanted (⟨some tc,.call ⟨.value (.tmp ty),#[.tmp ta],ts⟩,ty1,p1,a1,none⟩:Oper) (yielded ops a.tmps)=true from rfl,ar rfl]
 have hye:a.eval (.tmp ty)=.func (.yield l) #[] #[]:=by
  have:=i4 ty _ hy
  exact this.lit
 obtain⟨rfl,rfl,rfl,JE⟩:=hx
 obtain⟨fn,tmps,assign,body,bR,hR⟩:=hY g w (a.eval (.tmp ta)) ⟨hh,hM,hB,fun p hp hq=>hF p hp (JE p hp hq)⟩ (i4 ta d ha)
 refine⟨fun _ _=>trivial,?_⟩
 rw[Oper.semAt_eq _ _ _ (by intro c h;cases h),IU hye bR]
 refine⟨fun h=>(by cases h),?_⟩
 have hR2:RoundIn (FWd none) 0 P l fn tmps assign body w _:=hR
 refine hR2.mono ?_
 intro e w' hq
 have QG:∀(b:Bool) (Q':Exit→Act→World→Prop),(∀aa,aa=(a.put (some tc) (.bool b)).put (some tn) (.bool (!b))→Q' .normal aa w')→wpOpsIn (FWd none) 0 P ops Q' [pre.length+1] (a.put (some tc) (.bool b)) w':=by
  intro b Q' hq
  unfold wpOpsIn
  rw[MW]
  dsimp only
  rw[show Region.wanted (⟨some tn,.unOp .not ty2 (.tmp tc),ty3,p2,a2,none⟩:Oper) (yielded ops (a.put (some tc) (.bool b)).tmps)=true from rfl,ar rfl]
  refine⟨fun _ _=>trivial,?_⟩
  rw[Oper.semAt_eq _ _ _ (by intro c h;cases h)]
  have he:(a.put (some tc) (.bool b)).eval (.tmp tc)=.bool b:=zC (by rw[hsz];exact zQ)
  have hrun2:(execOp (a.put (some tc) (.bool b)).eval ⟨some tn,.unOp .not ty2 (.tmp tc),ty3,p2,a2,none⟩).run P w'=.ok (.value (.bool (!b))) w':=by
   have bG:tc<a.tmps.size:=by rw[hsz];exact zQ
   simp[execOp,bG,Op.unary,go_sem]
  rw[hrun2]
  show wpOpsIn (FWd none) 0 P ops Q' [] _ w'
  unfold wpOpsIn
  exact hq _ rfl
 have yb:∀b:Bool,((a.put (some tc) (.bool b)).put (some tn) (.bool (!b))).eval (.tmp tn)=.bool (!b):=fun b=>zC (by rw[sH,hsz];exact rk)
 rcases hq with⟨rfl,bQ,g2,hc,hq⟩|⟨rfl,bQ,g2,W',rfl,hl,hc,hq⟩
 ·refine QG true _ ?_
  rintro aa rfl
  refine wpIn_cond_false (yb true) (wpIn_skip (ht bQ _ _ hq ?_))
  refine⟨g2,hc.hr,Cz (dst:=some tn) (d:=.e (.lit (.bool false))) (v:=.bool (!true)) (Cz (dst:=some tc) (d:=.e (.lit (.bool true))) (v:=.bool true) (fun t d ht=>(i4 t d ht).mono hc.mo) (.e _ _ (.lit (.bool true) rfl)) ?_) (.e _ _ (.lit (.bool false) rfl)) ?_,by rw[sH,sH,hsz],by rw[oD,oD,uc],hB.trans hc.bl,fun p h1 h2=>hc.fo p h1 (hF p h1 h2),hM.trans hc.mo⟩
  ·intro t e;cases e;rw[hsz];exact zQ
  ·intro t e;cases e;rw[sH,hsz];exact rk
 ·refine QG false _ ?_
  rintro aa rfl
  refine wpIn_cond_true (yb false) (wpIn_ret (hf bQ g2 W' _ hq hl ?_ (by rw[oD,oD,uc])))
  exact (zb.mk hh hM hB fun p hp hq=>hF p hp (JE p hp hq)).trans hc
end
end
section
section
variable {P:Program} {tb:TypeId→Option TyE} {x:Cx} {tm Fy:List (Nat×D)} {hp hp1:Hp} {Q:Exit→Act→World→Prop}
def GK(g:Gh)(ks:List Nat):Array Value:=(ks.map fun k=>Value.pointer (some ⟨g.μ k,0,none⟩)).toArray
def Mo(P:Program)(f:FuncId)(ks:List Nat)(B:Nat)(hp:Hp)(p:Tmp)(N:Nat)(OL bod:Code)(tm:List (Nat×D))(Y S:Hp→Prop):Prop:=
 ∀(g:Gh) (w:World) (l:Nat) (rec:Loop),HR B hp g w→w.heap[l]? =some (.loop rec)→B≤l→rec.state=.ready→rec.pending=none→rec.params=#[p]→rec.assign=OL→rec.body=bod→rec.tmps.size=N→(∀t d,tm.lookup t=some d→aI hp g w d (rec.tmps.getD t undef))→
  Calls P f (#[.func (.yield l) #[] #[]]++GK g ks) w fun e w'=>∃v,e=.returned v∧∃hp' g' W',zb B hp g w hp' g' W'∧((w'=W'∧Y hp')∨(w'=W'.putObj l (.loop (sN rec))∧W'.heap[l]? =some (.loop rec)∧S hp'))
structure Ii(x x':Cx)(D:Nat)(hp:Hp)(w:World):Prop where
 B:x'.B=x.B
 F0:x'.F0=x.F0
 N:x'.N=x.N
 df:x'.df={target:=.collected D,args:=#[]}::x.df
 hp0:x'.hp0=hp
 w0:x'.w0=w
 came:bC x.hp0 x.g0 x.w0 hp x'.g0 w
 below:Below x.B x.w0 w
 blk:w.heap[D]? =some (.deferred (some []))
 new:x.w0.heap.size≤D
 hr:HR x.B hp x'.g0 w
theorem AV.range {gop:Operand}{p:Tmp}{assign body:Code}{f:FuncId}{ks:List Nat}{Y S:Hp→Prop}(hg:evD tm gop=.fn f ks)(Q7:Ms P f)(hB:x.B≤x.w0.heap.size)
  (hit:Mo P f ks x.B hp p x.N assign body tm Y S)
  (hn:∀x' D hp' a w,Ii x x' D hp' w→RS x' tm hp' a w→Y hp'→Q .normal a w)
  (hs:∀x' D hp' a w,Ii x x' D hp' w→RS x' tm hp' a w→S hp'→Q .ret a w):AV P none x (.rangeFunc gop #[p] assign body) tm hp Q:=by
 intro a w hr
 obtain⟨g,hh,i4,hsz,uc,hBl,hF,hM⟩:=id hr
 have hgv:=zU i4 gop
 rw[hg] at hgv
 have hgv:a.eval gop=.func (.func f) #[] (GK g ks):=by
  generalize a.eval gop=v at hgv
  cases hgv with
  |fn _ _ _=>rfl
 refine wpIn_rangeFunc ?_
 intro fn _
 obtain⟨rec,Ch⟩:∃rec:Loop,rec={state:=.ready,pending:=none,fn,tmps:=a.tmps,params:=#[p],assign,body,defers:=w.heap.size}:=⟨_,rfl⟩
 obtain⟨W1,hW1⟩:∃W1,(w.alloc (.deferred (some []))).alloc (.loop rec)=W1:=⟨_,rfl⟩
 have hL1:W1.heap[w.heap.size+1]? =some (.loop rec):=by
  rw[←hW1];have:=World.alloc_heap_new (w.alloc (.deferred (some []))) (.loop rec);rwa[World.size_alloc] at this
 have hK1:W1.heap[w.heap.size]? =some (.deferred (some [])):=by
  rw[←hW1];exact (Below.heap_alloc _ _ _ (by simp)).trans (World.alloc_heap_new w _)
 have hold:∀b,b<w.heap.size→W1.heap[b]? =w.heap[b]? :=fun b hb=>by
  rw[←hW1];exact (Below.heap_alloc _ _ _ (by simp;omega)).trans (Below.heap_alloc _ _ _ hb)
 have hsW:w.heap.size≤W1.heap.size:=by rw[←hW1];simp;omega
 have h1:HR x.B hp g W1:=hh.keep hsW hold
 have m1:bC hp g w hp g W1:=bC.keep hp g hsW hold
 have b1:Below x.B w W1:=by
  rw[←hW1]
  exact ((Below.refl x.B w).alloc hh.base _).alloc (by have:=hh.base;simp;omega) _
 have hD1:Ih hp g w.heap.size:=h1.free hK1 rfl
 refine⟨w.heap.size+1,[{target:=.collected w.heap.size,args:=#[]}],W1,{target:=.fn (.func f) (GK g ks),args:=#[.func (.yield (w.heap.size+1)) #[] #[]]},W1,f,
  #[.func (.yield (w.heap.size+1)) #[] #[]]++GK g ks,W1,?_,?_,fun _ _=>trivial,?_,fun h=>(by cases h),?_⟩
 ·rw[←hW1,Ch];exact run_enterLoop_outer _ _ _ _ _
 ·simp only[resolve,hgv]
  simp[go_sem]
 ·obtain⟨fn',hf',hn',sh⟩:=Q7
  have Le : fn'.name ≠ "runtime.NumGoroutine" := by simpa using hn'
  have tz:¬fn'.body=none:=fun e=>by rw[e] at sh;cases sh
  simp[invoke,callFunc,hf',Le,tz,go_sem]
 ·have hc:=hit g W1 (w.heap.size+1) rec h1 hL1 (by have:=hh.base;omega) (by rw[Ch]) (by rw[Ch]) (by rw[Ch]) (by rw[Ch]) (by rw[Ch]) (by rw[Ch];exact hsz) (fun t d ht=>by rw[Ch];exact (i4 t d ht).mono m1)
  refine (BV (n:=0) hc).mono ?_
  rintro e w3 ⟨v,rfl,hp',g',W',yc,hq⟩
  obtain⟨E9,_,hfk⟩:=yc.mo.fr w.heap.size (ey.1 hK1).1 hD1
  have hkW:W'.heap[w.heap.size]? =some (.deferred (some [])):=E9.trans hK1
  -- what holds behind,whatever GA record says
  have fin:∀(o':Obj),o'.isCells=false→W'.heap[w.heap.size+1]? =some (.loop rec)→
    Ii x ⟨x.B,W'.putObj (w.heap.size+1) o',x.F0,x.N,hp',g',{target:=.collected w.heap.size,args:=#[]}::x.df⟩ w.heap.size hp' (W'.putObj (w.heap.size+1) o')∧
    RS ⟨x.B,W'.putObj (w.heap.size+1) o',x.F0,x.N,hp',g',{target:=.collected w.heap.size,args:=#[]}::x.df⟩ tm hp' {a with defers:=[{target:=.collected w.heap.size,args:=#[]}]++a.defers} (W'.putObj (w.heap.size+1) o'):=by
   intro o' uG hl
   have rD:=yc.hr.putO (o':=o') hl rfl uG
   refine⟨⟨rfl,rfl,rfl,rfl,rfl,rfl,?_,?_,?_,?_,rD⟩,g',rD,fun t d ht=>(((i4 t d ht).mono m1).mono yc.mo).putO hl rfl uG,hsz,by simp[uc],Below.refl _ _,fun p h1 h2=>yc.fo p h1 (hF p h1 h2),bC.refl _ _ _⟩
   ·exact hM.trans ((m1.trans yc.mo).putNew (by omega) hl rfl uG)
   ·exact vi (hBl.trans (b1.trans yc.bl)) (by have:=hh.base;omega)
   ·exact (World.putObj_heap_other (by omega)).trans hkW
   ·exact hM.size
  have hlW:W'.heap[w.heap.size+1]? =some (.loop rec):=(yc.mo.fr _ (ey.1 hL1).1 (h1.free hL1 rfl)).1.trans hL1
  rcases hq with⟨rfl,hY⟩|⟨rfl,_,hS⟩
  ·have he:=run_endLoop (P:=P) hlW (by rw[Ch];simp)
   have hpn:rec.pending=none:=by rw[Ch]
   refine⟨none,_,he.trans (congrArg (fun q=>Result.ok q _) hpn),?_⟩
   obtain⟨h5,h6⟩:=fin (.loop {rec with state:=.exhausted}) rfl hlW
   exact hn _ _ hp' _ _ h5 h6 hY
  ·have Om:(W'.putObj (w.heap.size+1) (.loop (sN rec))).heap[w.heap.size+1]? =some (.loop (sN rec)):=World.putObj_heap_same (ey.1 hlW).1
   have he:=run_endLoop (P:=P) Om (by simp[sN])
   refine⟨some .ret,_,he,?_⟩
   obtain⟨h5,h6⟩:=fin (.loop {(sN rec) with state:=.exhausted}) rfl hlW
   have hw:(W'.putObj (w.heap.size+1) (.loop (sN rec))).putObj (w.heap.size+1) (.loop {(sN rec) with state:=.exhausted})=W'.putObj (w.heap.size+1) (.loop {(sN rec) with state:=.exhausted}):=by
    unfold World.putObj
    dsimp only
    congr 1
    simp
   rw[hw]
   exact wpIn_ret (hs _ _ hp' _ _ h5 h6 hS)
theorem Hx {B:Nat}{w:World}{F:Addr→Prop}{N:Nat}{g:Gh}{ds:List D}{vs:Array Value}(hr:HR B hp g w)(hF:∀p:Addr,p.block<B→F p→g.F p)(hN:ds.length≤N)(hsz:vs.size=ds.length)(xg:∀(j:Nat) (d:D) (u:Value),ds[j]? =some d→vs[j]? =some u→aI hp g w d u):
  RS ⟨B,w,F,N,hp,g,[]⟩ (fj 0 ds) hp {tmps:=vs++Array.replicate (N - vs.size) undef,defers:=[]} w:=by
 refine⟨g,hr,fun t d ht=>?_,by simp;omega,rfl,Below.refl _ _,hF,bC.refl _ _ _⟩
 obtain⟨_,h2⟩:=pV ht
 have bG:t<ds.length:=by
  rw[D5] at h2
  rcases bt t ds.length with hh|hh
  ·exact hh
  ·rw[fa hh] at h2;cases h2
 have hv:vs[t]? =some vs[t]:=nh (by omega)
 have:=xg t d vs[t] (by simpa using h2) hv
 have he:(vs++Array.replicate (N - vs.size) undef).getD t undef=vs[t]:=by
  rw[de,yN (by omega),hv];rfl
 rw[he]
 exact this
def OX(x:Cx)(G:Cx→List (Nat×D)→Hp→Prop)(ex:Exit)(a:Act)(w:World):Prop:=
 (ex=.normal∨ex=.ret)∧∃x' D hp1 w1 tm bQ,Ii x x' D hp1 w1∧RS x' tm bQ a w∧G {x with df:=x'.df} tm bQ
theorem OX.leaves {fn:Func}{R:Ending→World→Prop}{G:Cx→List (Nat×D)→Hp→Prop}{ex:Exit}{a:Act}{w:World}(h:OX x G ex a w)(uc:x.df=[])
  (hk:∀x2 tm bQ D w2,x2.B=x.B→x2.w0=x.w0→x2.F0=x.F0→x2.N=x.N→x2.hp0=x.hp0→x2.g0=x.g0→RS x2 tm bQ a w→G x2 tm bQ→w2=w.putObj D (.deferred none)→w.heap[D]? =some (.deferred (some []))→x.w0.heap.size≤D→∃v,(results fn a.tmps).run P w2=.ok v w2∧R (.returned v) w2):
  bodyPostM (FWd none) 0 P fn R ex a w:=by
 obtain⟨hex,x',D,hp1,w1,tm,bQ,hb,hr,hG⟩:=h
 obtain⟨g,hh,i4,hsz,hdf2,hBl,hF,hM⟩:=hr
 rw[hb.hp0,hb.w0] at hM
 rw[hb.B] at hh hBl hF
 rw[hb.w0] at hBl
 have Q6:=hb.hr.free hb.blk rfl
 obtain⟨hkD,_,_⟩:=hM.fr D (ey.1 hb.blk).1 Q6
 have hkD:w.heap[D]? =some (.deferred (some [])):=hkD.trans hb.blk
 have Lb:RS {x with df:=x'.df} tm bQ a w:=⟨g,hh,i4,by rw[hsz,hb.N],hdf2,hb.below.trans hBl,fun p h1 h2=>hF p h1 (by rw[hb.F0];exact h2),hb.came.trans hM⟩
 have fin:LeavesInM (FWd none) 0 P fn a.tmps R a.defers .returning w:=by
  rw[hdf2,hb.df,uc]
  refine⟨by simp,.inl ⟨D,_,rfl,run_takeDeferred hkD,?_⟩⟩
  obtain⟨v,h1,h2⟩:=hk {x with df:=x'.df} tm bQ D _ rfl rfl rfl rfl rfl rfl Lb hG rfl hkD hb.new
  exact⟨v,h1,h2⟩
 rcases hex with rfl|rfl <;> exact fin
theorem HC.ofM (tok : TOk P tb) {f : FuncId} {fn : Func} {c : Code} {ds : List D} {hp hp' : Hp} {r : D} {rs : List ResultVar} (hf : P.funcs[f]? = some fn) (hb : fn.body = some c) (uu : (fn.name == "runtime.NumGoroutine") = false) (hN : ds.length ≤ fn.ntmps) (hrs : fn.results.toList = rs)
  (h:∀x:Cx,x.N=fn.ntmps→x.hp0=hp→x.df=[]→fV hp→x.B≤x.w0.heap.size→AV P none x c (fj 0 ds) hp (OX x fun x2 tm bQ=>∃tm',Wk x2 tm bQ tm' hp'∧yU tb rs tm' hp' r)):HC P f ds hp r hp':=by
 subst hrs
 refine⟨⟨fn,hf,uu,by rw[hb];rfl⟩,fun B g w vs hr hsz xg=>?_⟩
 refine (callsIn_wide (n:=0)).1 (callsIn_of_wp_marks (F:=FWd none) hf hb trivial (wpIn_mono (h ⟨B,w,g.F,fn.ntmps,hp,g,[]⟩ rfl rfl rfl hr.ok hr.base _ _ (Hx hr (fun _ _ h=>h) hN hsz xg)) ?_))
 intro ex a w' he
 refine he.leaves rfl ?_
 rintro x2 tm bQ D w2 h1 h2 h3 h4 h5 h6 hrs ⟨tm',OZ,La⟩ rfl hD tW
 obtain⟨g',rD,i4,_,_,hB,hF,hM⟩:=OZ a w' hrs
 rw[h1] at rD hB hF
 rw[h2] at hB
 rw[h2,h5,h6] at hM
 rw[h3] at hF
 have vO:=hr.base
 obtain⟨v,bR,nE⟩:=vt (x:=⟨B,w,g.F,fn.ntmps,hp,g,[]⟩) (g:=g') tok rfl La (rD.putO (o':=.deferred none) hD rfl rfl) (fun t d ht=>(i4 t d ht).putO hD rfl rfl)
 have tW:w.heap.size≤D:=tW
 exact⟨v,bR,v,g',rfl,rD.putO hD rfl rfl,hM.putNew tW hD rfl rfl,nE,vi hB (by omega),hF⟩
def RdOk(P:Program)(N:Nat)(p:Tmp)(OL bod:Code)(tm:List (Nat×D))(hp:Hp)(d:D)(Y S:Hp→Prop):Prop:=∀(l:Nat) (x:Cx),x.N=N→x.df=[]→x.hp0=hp→AV P (some l) x OL ((p,d)::tm) hp fun ex a w=>ex=.normal∧∃Fy hp1,RS x Fy hp1 a w∧
 ∀x:Cx,x.N=N→x.df=[]→x.hp0=hp1→AV P (some l) x bod Fy hp1 fun ex a w=>∃tm hp',RS x tm hp' a w∧match ex with| .normal=>Y hp'| .ret=>S hp'|_=>False
theorem Mo.of {f:FuncId}{fn:Func}{c:Code}{ks:List Nat}{B:Nat}{p:Tmp}{N:Nat}{OL bod:Code}{Y S:Hp→Prop}(hf:P.funcs[f]? =some fn)(hb:fn.body=some c)(hN:ks.length+1≤fn.ntmps)(nE:fn.results=#[])(hpN:p<N)(On:∀k∈ks,k<hp.next)
  (h:∀(g:Gh) (w:World) (l:Nat) (rec:Loop) (x:Cx),x.B=B→x.hp0=hp→x.g0=g→x.w0=w→x.F0=g.F→x.N=fn.ntmps→x.df=[]→fV hp→(∀hp1 d Y' S',RdOk P N p OL bod tm hp1 d Y' S'→YOk P B l rec hp g w hp1 d Y' S')→
   AV P none x c (fj 0 (.e (.lit (.func (.yield l) #[] #[]))::ks.map fun k=>.pt k 0)) hp fun ex a w'=>((ex=.normal∨ex=.ret)∧∃tm' hp',RS x tm' hp' a w'∧Y hp')∨
    (ex=.ret∧a.defers=x.df∧∃hp' g' W',w'=W'.putObj l (.loop (sN rec))∧W'.heap[l]? =some (.loop rec)∧zb B hp g w hp' g' W'∧S hp')):Mo P f ks B hp p N OL bod tm Y S:=by
 intro g w l rec hr hl hBl Dp hpe hpar hasg hbod hsz i4
 have hmk:∀hp1 d Y' S',RdOk P N p OL bod tm hp1 d Y' S'→YOk P B l rec hp g w hp1 d Y' S':=by
  intro hp1 d Y' S' hrd
  subst hasg hbod hsz
  exact YOk.of hl hr Dp hpe hpar hBl hpN i4 (hrd l)
 have tA:RS ⟨B,w,g.F,fn.ntmps,hp,g,[]⟩ (fj 0 (.e (.lit (.func (.yield l) #[] #[]))::ks.map fun k=>.pt k 0)) hp {tmps:=(#[Value.func (.yield l) #[] #[]]++GK g ks)++Array.replicate (fn.ntmps - (#[Value.func (.yield l) #[] #[]]++GK g ks).size) undef,defers:=[]} w:=by
  refine Hx hr (fun _ _ h=>h) (by simpa using hN) (by simp[GK,rz]) fun j d u hd hu=>?_
  cases j with
  |zero=>
   have hu0:(#[Value.func (.yield l) #[] #[]]++GK g ks)[0]? =some (Value.func (.yield l) #[] #[]):=by rw[yN (by simp)];rfl
   rw[hu0] at hu
   injection hu with hu
   injection hd with hd
   subst hd;subst hu
   exact .e _ _ (.lit _ rfl)
  |succ j=>
   simp only[LM,fO] at hd
   rw[Array.getElem?_append_right (by simp)] at hu
   simp[GK] at hu
   cases hk:ks[j]? with
   |none=>simp[hk] at hd
   |some k=>
    simp[hk] at hd hu
    subst hd;subst hu
    exact .pt k 0 (On k (bT hk))
 have hend:∀(a:Act) (w':World),(results fn a.tmps).run P w'=.ok (.tuple #[]) w':=fun a w'=>by
  unfold results
  rw[nE,Sem.run_bind]
  simp
 refine (callsIn_wide (n:=0)).1 (callsIn_of_wp (F:=FWd none) hf hb trivial (wpIn_mono (h g w l rec ⟨B,w,g.F,fn.ntmps,hp,g,[]⟩ rfl rfl rfl rfl rfl rfl rfl hr.ok hmk _ _ tA) ?_))
 rintro ex a w' (⟨hex,tm',hp',⟨g',h1,_,_,h4,h5,h6,h7⟩,hY⟩|⟨rfl,uc,hp',g',W',h1,h2,h3,hS⟩)
 ·have:bodyPost P fn (fun e w'=>∃v,e=.returned v∧∃hp' g' W',zb B hp g w hp' g' W'∧((w'=W'∧Y hp')∨(w'=W'.putObj l (.loop (sN rec))∧W'.heap[l]? =some (.loop rec)∧S hp'))) .ret a w':=
   ⟨h4,_,hend a w',_,rfl,hp',g',w',⟨h1,h7,h5,h6⟩,.inl ⟨rfl,hY⟩⟩
  rcases hex with rfl|rfl <;> exact this
 ·exact⟨uc,_,hend a w',_,rfl,hp',g',W',h3,.inr ⟨h1,h2,hS⟩⟩
end
end
section
theorem Pt.one(d:D):Pt [d] 0 [d] id:=Pt.of [] [] rfl rfl fun y=>by simp
section
variable {P:Program} {tb:TypeId→Option TyE} {md:Md} {dst:Option Tmp} {ty2:TypeId} {pos:String} {af:Array Edge} {gd:Option (Nat×Bool)} {ev:Operand→D} {hp:Hp} {x lo hi mx:Operand} {k off z n l h:Nat} {t e:TypeId} {ti j:TyE} {k1 k2 k3:IntKind}
theorem slW3(tok:TOk P tb)(hlh:l<h)(hhn:h≤n)(ht:tb t=some ti)(he:tb e=some j)(Dt:ev lo=dI k1 (l:Int))(Kw:ev hi=dI k2 (h:Int))(hmx:ev mx=dI k3 (h:Int))(xZ:ti.ty=.slice e:=by exact rfl)(hx:ev x=.ow k off z n:=by exact rfl)(hz:z=j.size:=by exact rfl):
  nT P tb md ⟨dst,.slice t x (some lo) (some hi) (some mx),ty2,pos,af,gd⟩ ev hp (.ow k (off+l*z) z (h - l)) hp:=by
 subst hz
 refine (Snd.calm (dr:=md.dr) fun bQ _=>.pure fun B g w a hr xf=>?_).q (by cases md <;> rfl)
 have h1:=xf x (by simp[Op.operands])
 have e1:=xf lo (by simp[Op.operands])
 have e2:=xf hi (by simp[Op.operands])
 have e3:=xf mx (by simp[Op.operands])
 rw[hx] at h1
 rw[Dt] at e1
 rw[Kw] at e2
 rw[hmx] at e3
 have e1:=e1.lit
 have e2:=e2.lit
 have e3:=e3.lit
 have hs:=tok.run_sizeOf he w
 generalize hv:a.eval x=v at h1
 cases h1 with
 |ow _ _ _ _ c hk pl oF=>
  have hb:(Instr.sliceBounds true n c (some (Value.int k1 (l:Int))) (some (Value.int k2 (h:Int))) (some (Value.int k3 (h:Int)))).run P w=.ok (l,h,h) w:=by
   have q1:h≤c:=by omega
   have q2:l≤h:=by omega
   simp[Instr.sliceBounds,run_sliceBound,q1,q2]
  refine⟨.slice (some ⟨g.μ k,off+l*j.size,none⟩) (h - l) (h - l),?_,.ow _ _ _ _ _ hk (aD _) (by omega)⟩
  have qu:¬h=l:=by omega
  have OA:(⟨g.μ k,off,none⟩:Addr).add (l*j.size)=⟨g.μ k,off+l*j.size,none⟩:=by unfold Addr.add;split <;> simp_all
  simp[execOp,Instr.sliceAt,Instr.slice,hv,e1,e2,e3,run_underlying (tok.slice ht xZ),hb,hs,qu,OA]
end
section
variable {ops:Array Oper} {K:List (Nat×D)→Hp→Prop} {os:List Oper} {tm:List (Nat×D)} {hp hp':Hp} {t:Tmp} {op:Op} {ty:TypeId} {pos:String} {af:Array Edge} {d:D}
theorem q1s(h:qm prog ⟨some t,op,ty,pos,af,none⟩ (evD tm) hp d hp')(h2:ba prog tbl .seq ops K os ((t,d)::tm) hp'):ba prog tbl .seq ops K (⟨some t,op,ty,pos,af,none⟩::os) tm hp:=.sq rfl d hp' rfl h h2
end
section
variable {x:Cx} {Q:Exit→Act→World→Prop} {tm:List (Nat×D)} {hp:Hp}
theorem vrs {n id:Nat}{l:List Oper}{b:Code}(hx:x.N=n)(h:∀K:List (Nat×D)→Hp→Prop,(∀tm hp,AV prog none x b tm hp Q→K tm hp)→ba prog tbl .seq l.toArray K l tm hp)(hN:iZ n l.toArray=true:=by kernel_rfl):AV prog none x (.seq (.region id l.toArray false) b) tm hp Q:=
 AV.seqA (rq hx (fun K hK=>h K fun tm hp hh=>hK _ _ hh) hN)
theorem vrsd {n id:Nat}{l:List Oper}{b:Code}(L:List FuncId)(hx:x.N=n)(h:∀K:List (Nat×D)→Hp→Prop,(∀tm hp,AV prog none x b tm hp Q→K tm hp)→ba prog tbl (.any L) l.toArray K l tm hp)(hN:iZ n l.toArray=true:=by kernel_rfl)(rK:xR tbl L l.toArray=true:=by kernel_rfl):AV prog none x (.seq (.region id l.toArray true) b) tm hp Q:=
 AV.seqA (rqd L hx (fun K hK=>h K fun tm hp hh=>hK _ _ hh) hN rK)
theorem vrq {n id:Nat}{l:List Oper}(hx:x.N=n)(h:∀K:List (Nat×D)→Hp→Prop,(∀tm hp,(∀a w,RS x tm hp a w→Q .normal a w)→K tm hp)→ba prog tbl .seq l.toArray K l tm hp)(hN:iZ n l.toArray=true:=by kernel_rfl):AV prog none x (.region id l.toArray false) tm hp Q:=
 AV.aw (Q':=fun ex tm' hp'=>ex=.normal∧∀a w,RS x tm' hp' a w→Q .normal a w) (rq hx (fun K hK=>h K fun tm hp hh=>hK _ _ ⟨rfl,hh⟩) hN) fun ex tm' hp' a w h1 hr=>by obtain⟨rfl,h1⟩:=h1;exact h1 a w hr
theorem vrr {n id:Nat}{ro:Option Nat}{l:List Oper}(hx:x.N=n)(h:∀K:List (Nat×D)→Hp→Prop,(∀tm hp,(∀a w,RS x tm hp a w→Q .normal a w)→K tm hp)→ba prog tbl .seq l.toArray K l tm hp)(hN:iZ n l.toArray=true:=by kernel_rfl)(uH:uY l.toArray=true:=by kernel_rfl):AV prog ro x (.region id l.toArray false) tm hp Q:=
 AV.region (tb:=tbl) (by rw[hx];exact hN) uH h
theorem vrrs {n id:Nat}{ro:Option Nat}{l:List Oper}{b:Code}(hx:x.N=n)(h:∀K:List (Nat×D)→Hp→Prop,(∀tm hp,AV prog ro x b tm hp Q→K tm hp)→ba prog tbl .seq l.toArray K l tm hp)(hN:iZ n l.toArray=true:=by kernel_rfl)(uH:uY l.toArray=true:=by kernel_rfl):AV prog ro x (.seq (.region id l.toArray false) b) tm hp Q:=
 AV.seq (vrr hx (fun K hK=>h K fun tm hp hh=>hK _ _ fun a w hr=>hh a w hr) hN uH)
end
section
variable {vs:List (Nat×List D)} {lv:List (Nat×Nat×Nat×TypeId)} {N C R kM:Nat}
def iP(kM n:Nat):D:=if n=0 then dL a9 [] else .ow kM 0 36 n
theorem h_Chunk {dV:D}(hC:1≤C)(hC2:C≤1000000)(hV:dV.idsC N=true)(wx:D.cells dV=some [dV]):
  HC prog 139 [dV,dI .i64 C] ⟨vs,lv,N⟩ (.fn 174 [N,N+1]) ⟨(N+1,[dI .i64 C])::(N,[dV])::vs,lv,N+1+1⟩:=by
 refine HC.of (rs:=[.tmp 4]) tok func139 rfl rfl (b7 rfl) rfl (fun cx hx h0 hok=>?_)
 simp only[fj,Nat.reduceAdd,bB]
 have QF:fV ⟨(N,[dV])::vs,lv,N+1⟩:=hok.cons (gN _) (cp _) (by simpa using D.idsC_le (gN N) hV)
 have Bb:fV ⟨(N+1,[dI .i64 C])::(N,[dV])::vs,lv,N+1+1⟩:=QF.cons (gN _) (cp _) rfl
 refine rs hx fun K hK=>?_
 refine s1 (d:=.pt N 0) (fC (cs:=[dV]) (show D.cells (evD [(0,dV),(1,dI .i64 C)] (.tmp 0))=_ from wx)) ?_
 refine s1 (d:=.pt (N+1) 0) (fC (cs:=[dI .i64 C]) rfl) ?_
 refine sa ?_
 refine nl hK ?_
 refine AW.seq (rs hx fun K hK=>?_)
 refine c1 (Pt.one _) ?_
 refine sa ?_
 refine nl hK ?_
 refine AW.condF rfl (def_) (AW.skip (rs hx fun K hK=>?_))
 refine s1 (d:=.fn 174 [N,N+1]) B5 ?_
 refine sa ?_
 refine nl hK ?_
 exact AW.ret (⟨[(4,.fn 174 [N,N+1])],wkS (by rw[h0];show N≤N+1+1;omega) (aD _) Bb (fun j ds h=>h) (qT.cons qT.nil rfl (by simp[D.idsB,D.idsC];omega)),⟨_,ak,rfl⟩⟩)
end
theorem Wk.tmS {x:Cx}{tm tm':List (Nat×D)}{hp:Hp}(h:∀t d,tm'.lookup t=some d→tm.lookup t=some d):Wk x tm hp tm' hp:=by
 rintro a w ⟨g,h1,h2,h3,h4,h5,h6,h7⟩
 exact⟨g,h1,fun t d ht=>h2 t d (h t d ht),h3,h4,h5,h6,h7⟩
theorem NR {tm:List (Nat×D)}:∀t d,([]:List (Nat×D)).lookup t=some d→tm.lookup t=some d:=fun t d h=>by simp at h
theorem tin {tm tm':List (Nat×D)}{t:Nat}{d:D}(h2:∀t d,tm'.lookup t=some d→tm.lookup t=some d)(h:tm.lookup t=some d:=by exact rfl):∀t' d',((t,d)::tm').lookup t'=some d'→tm.lookup t'=some d':=fun t' d' ht=>by
 by_cases e:t'=t
 ·subst e
  have:some d=some d':=by rw[←ht];exact ak.symm
  rw[h,this]
 ·exact h2 t' d' (by rw[←ht];exact (ay e).symm)
theorem lenM {dr:Bool}{ty:TypeId}{ev:Operand→D}{hp:Hp}{kM n:Nat}{x:Operand}(hx:ev x=iP kM n):AVC prog tbl dr (.call ⟨.builtin .len,#[x],#[22]⟩) ty ev hp (Kq (dI .i64 (n:Nat)) hp):=by
 by_cases h:n=0
 ·subst h
  have hx:ev x=dL a9 []:=hx
  exact T_len (n:=0) (xs:=[]) aF aC rfl (by rw[hx];rfl)
 ·have hx:ev x=.ow kM 0 36 n:=by rw[hx];exact aA h
  exact Bx aF aC rfl hx
section
variable {hpE:Hp} {I:Nat→Hp→Prop} {ks kn kM R C B:Nat} {p:Tmp} {Nt:Nat} {OL bod:Code} {tm0:List (Nat×D)}
theorem Qf(hC:1≤C)(CE:R*C≤1000000)(hC2:C≤1000000)(On:ks<hpE.next)(BQ:kn<hpE.next)(hpN:p<Nt)(h0:I 0 hpE)
  (hI:∀q hp,I q hp→hp.vars.lookup ks=some [iP kM (R*C)]∧hp.vars.lookup kn=some [dI .i64 C]∧ks<hp.next∧kn<hp.next)
  (hrd:∀q hp,q<R→I q hp→RdOk prog Nt p OL bod tm0 hp (.ow kM (q*C*36) 36 C) (I (q+1)) (fun _=>False)):
  Mo prog 174 [ks,kn] B hpE p Nt OL bod tm0 (I R) (fun _=>False):=by
 refine Mo.of func174 rfl (b7 rfl) rfl hpN (by simp[On,BQ]) (fun g w l rec x hB Ao hg0 hw0 JE hN uc hok hmk=>?_)
 simp only[fx,i2,fj,Nat.reduceAdd,bB]
 refine vrs hN fun K hK=>?_
 refine sa ?_
 refine nl hK ?_
 refine AV.block ?_
 refine AV.loop (fun n tm hp=>∃q:Nat,q≤R∧n=R - q∧I q hp∧tm=[(0,.e (.lit (.func (.yield l) #[] #[]))),(1,.pt ks 0),(2,.pt kn 0),(4,dI .i64 (q*C:Nat))]) (tm0:=[(0,.e (.lit (.func (.yield l) #[] #[]))),(1,.pt ks 0),(2,.pt kn 0),(4,dI .i64 (0*C:Nat))]) (hp0:=hpE) (n:=R) ?_ ⟨0,bY _,rfl,h0,rfl⟩ ?_
 ·rw[fP]
  exact Wk.tmS (tin (tin (tin (tin NR))))
 ·rintro n tm hp ⟨q,hq,rfl,hIq,rfl⟩
  obtain⟨e1,e2,hk1,E9⟩:=hI q hp hIq
  have hqC:q*C≤R*C:=bJ C hq
  refine AV.seqA ?_
  refine rs hN fun K hK=>?_
  refine sa ?_
  refine c1 (Pt.one _) ?_
  refine s1 (d:=dI .i64 (R*C:Nat)) (lenM rfl) ?_
  refine sa ?_
  refine nl hK ?_
  refine AW.condS rfl (fun hb=>?_) (fun hb=>?_)
  ·have bG:q<R:=by
    have:=n8 hb
    rcases bt q R with h|h
    ·exact h
    ·have:R*C≤q*C:=bJ C h
     omega
   have hq1:(q+1)*C≤R*C:=bJ C bG
   rw[bZ,d8] at hq1
   have hm:iP kM (R*C)=.ow kM 0 36 (R*C):=ifn_
   rw[hm] at e1
   refine AW.skip (AV.seq (AV.block ?_))
   refine vrsd [] hN fun K hK=>?_
   refine c1 (Pt.one _) ?_
   refine c1 (Pt.one _) ?_
   refine sa ?_
   refine q1 (slW (l:=((q*C:Nat):Int)) (h:=((R*C:Nat):Int)) tok ⟨by omega,by omega,by omega,by omega⟩ aF aC ⟨.i64,rfl⟩ rfl) ?_
   refine s1 (Bx aF aC) ?_
   iterate 2 refine sa ?_
   refine nl hK ?_
   rw[show min (C:Int) ((((R*C:Nat):Int) - ((q*C:Nat):Int)).toNat:Int)=(C:Int) by omega]
   refine AV.yield (tb:=tbl) (x:=x) (l:=l) (rec:=rec) (hpE:=hpE) (gE:=g) (wE:=w) 10 rfl (by rw[hN];kernel_rfl) (by kernel_rfl) ⟨Ao,hg0,hw0,fun p _ hp=>by rw[JE];exact hp⟩ (fun K hK=>?_)
   refine sa ?_
   refine c1 (Pt.one _) ?_
   iterate 7 refine sa ?_
   rw[tg (show -9223372036854775808≤((q*C:Nat):Int)+(C:Int) by omega) (by omega)]
   refine q1 (slW3 (l:=q*C) (h:=q*C+C) tok (by omega) (by omega) aF aC rfl rfl rfl) ?_
   rw[show q*C+C - q*C=C by omega,bB]
   refine .nil (hK _ _ _ (I (q+1)) (fun _=>False) rfl rfl (by rw[hB];exact hmk _ _ _ _ (hrd q hp bG hIq)) ?_ ?_)
   ·intro bQ a w hI2 hr
    obtain⟨e3,e4,hk3,hk4⟩:=hI (q+1) bQ hI2
    show Code.wpIn (FWd none) 0 prog _ _ a w
    refine (vrq hN fun K hK=>?_) a w hr
    refine sa ?_
    refine c1 (Pt.one _) ?_
    iterate 2 refine sa ?_
    rw[tg (show -9223372036854775808≤((q*C:Nat):Int)+(C:Int) by omega) (by omega)]
    refine nl hK ?_
    intro a w hr
    refine⟨R - (q+1),_,bQ,by omega,?_,q+1,bG,rfl,hI2,rfl⟩
    have hc:((q*C:Nat):Int)+(C:Int)=(((q+1)*C:Nat):Int):=by rw[bZ,d8];omega
    rw[hc] at hr
    exact Wk.tmS (tin (tin (tin (tin NR)))) a w hr
   ·rintro bQ g2 W' a hS
    exact hS.elim
  ·refine AW.exit ?_
   intro a w hr
   have hqR:q=R:=by
    have:=rO hb
    rcases bt q R with h|h
    ·have:(q+1)*C≤R*C:=bJ C h
     rw[bZ,d8] at this
     omega
    ·omega
   subst hqR
   exact .inl ⟨.inl rfl,_,_,hr,hIq⟩
end
end
section
def j5(kM C n:Nat):List D:=(List.range n).map fun i=>.ow kM (i*C*36) 36 C
theorem yy(kM C n:Nat):j5 kM C (n+1)=j5 kM C n++[.ow kM (n*C*36) 36 C]:=by
 unfold j5;rw[yk,jR];rfl
theorem Fz(kM C n:Nat):(j5 kM C n).length=n:=by unfold j5;simp
theorem ui {kM C n N:Nat}(h:kM<N):(j5 kM C n).all (D.idsC N)=true:=by
 unfold j5
 rw[cb]
 intro d hd
 obtain⟨i,_,rfl⟩:=mw.1 hd
 exact d6 h
def zA(k n:Nat):D:=if n=0 then .e (.lit (.slice none 0 0)) else .gw k 1 n
theorem FX {l:List (Nat×List D)}{k j:Nat}(h:j≠k):(l.filter fun p=>!([k]:List Nat).contains p.1).lookup j=l.lookup j:=by
 induction l with
 |nil=>rfl
 |cons p l ih=>
  obtain⟨a,b⟩:=p
  by_cases e:a=k
  ·subst e
   rw[List.filter_cons_of_neg (by simp),ih,ay h]
  ·rw[List.filter_cons_of_pos (by simpa using e)]
   by_cases e2:j=a
   ·subst e2;rw[ak,ak]
   ·rw[ay e2,ay e2,ih]
def rT(k n:Nat):D:=if n=0 then .e (.sl 1 0 []) else .gw k 1 n
def tv(k kM C n:Nat)(vs:List (Nat×List D)):List (Nat×List D):=if n=0 then vs else (k,j5 kM C n)::vs
section
variable {vs:List (Nat×List D)} {lv:List (Nat×Nat×Nat×TypeId)} {N C R kM ks kn:Nat}
def AsI(vs:List (Nat×List D))(lv:List (Nat×Nat×Nat×TypeId))(N kM C q:Nat)(hp:Hp):Prop:=
 ∃V N1 kR,hp=⟨V,lv,N1⟩∧fV hp∧N+2≤N1∧V.lookup N=some [zA kR q]∧(∀j ds,vs.lookup j=some ds→V.lookup j=some ds)∧(0<q→N+2≤kR∧kR<N1∧V.lookup kR=some (j5 kM C q))
theorem JC(hC:1≤C)(CE:R*C≤1000000)(hC2:C≤1000000)(hs:vs.lookup ks=some [iP kM (R*C)])(hn:vs.lookup kn=some [dI .i64 C])(hkM:kM<N)(zO:∀k ds,vs.lookup k=some ds→ds.all D.noO=true):
  HC prog 173 [.e (.lit (.slice none 0 0)),.fn 174 [ks,kn]] ⟨vs,lv,N⟩ (rT N R) ⟨tv N kM C R vs,lv,N+1⟩:=by
 refine HC.ofM (rs:=[.tmp 4]) tok func173 rfl rfl (b7 rfl) rfl (fun x hN h0 uc hok hB=>?_)
 simp only[fj,Nat.reduceAdd,bB]
 have On:=hok.lt hs
 have BQ:=hok.lt hn
 refine vrs hN fun K hK=>?_
 refine s1 (d:=.pt N 0) (fC (cs:=[.e (.lit (.slice none 0 0))]) rfl) ?_
 refine s1 (d:=.own (N+1) 1 0 []) (eC js aF) ?_
 refine nl hK ?_
 refine AV.seq ?_
 refine vrs hN fun K hK=>?_
 refine sa ?_
 refine nl hK ?_
 refine AV.block ?_
 have QF:fV ⟨(N,[.e (.lit (.slice none 0 0))])::vs,(N+1,0,1,22)::lv,N+2⟩:=by
  refine⟨fun j es hj=>?_,fun id e hi=>?_⟩
  ·rcases ew hj with⟨e1,rfl⟩|⟨_,hj⟩
   ·exact⟨by rw[e1];show N<N+2;omega,rfl⟩
   ·obtain⟨h1,h2⟩:=hok.var j es hj
    exact⟨bU h1 (by show N≤N+2;omega),cb.2 fun d hd=>D.idsC_le (by show N≤N+2;omega) (cb.1 h2 d hd)⟩
  ·by_cases e1:id=N+1
   ·rw[e1];show N+1<N+2;omega
   ·have:=hok.tok id e (by rw[←hi];exact (ay e1).symm)
    have h2:id<N:=this
    show id<N+2;omega
 refine AV.range (f:=174) (ks:=[ks,kn]) (Y:=AsI vs ((N+1,0,1,22)::lv) N kM C R) (S:=fun _=>False) rfl ⟨_,func174,rfl,rfl⟩ hB
  (Qf (kM:=kM) (I:=AsI vs ((N+1,0,1,22)::lv) N kM C) hC CE hC2 (by show ks<N+2;omega) (by show kn<N+2;omega) (by rw[hN];exact b7 rfl) ?_ ?_ ?_) ?_ ?_
 ·exact⟨_,_,0,rfl,QF,aD _,ak,fun j ds h=>al (hok.ne h (aD _)) h,fun h=>absurd h (by omega)⟩
 ·rintro q hp ⟨V,N1,kR,rfl,hokV,hN1,e1,xg,hR⟩
  exact⟨xg _ _ hs,xg _ _ hn,by show ks<N1;omega,by show kn<N1;omega⟩
 ·rintro q hp hq ⟨V,N1,kR,rfl,hokV,hN1,e1,xg,hR⟩ l y hy _ _
  refine vrr (hy.trans hN) (fun K hK=>?_)
  refine sa ?_
  refine .nil (hK _ _ fun a w hr=>⟨rfl,_,_,hr,fun y2 Dk _ h0y=>AV.block (vrr (Dk.trans hN) (fun K hK=>?_))⟩)
  have hkN:N<N1:=by omega
  have sP:([.ow kM (q*C*36) 36 C]:List D).length=1:=rfl
  by_cases hq0:q=0
  ·have hd:zA kR q=.e (.lit (.slice none 0 0)):=by rw[hq0];rfl
   rw[hd] at e1
   refine c1 (Pt.one _) ?_
   refine sa ?_
   have E7:D.cells (D.ow kM (q*C*36) 36 C)=some [.ow kM (q*C*36) 36 C]:=rfl
   refine q1s (d:=.gw N1 1 1) (hp':=⟨(N1,[D.ow kM (q*C*36) 36 C])::V,(N+1,0,1,22)::lv,N1+1⟩) (ML (cs:=[.ow kM (q*C*36) 36 C]) tok js aF E7 rfl) ?_
   refine q1 (d:=.gw (N1+1) 1 1) (hp':=⟨(N1+1,[D.ow kM (q*C*36) 36 C])::(N1,[D.ow kM (q*C*36) 36 C])::V,(N+1,0,1,22)::lv,N1+1+1⟩) (appN (ky:=N1) (news:=[.ow kM (q*C*36) 36 C]) tok js aF ak rfl rfl rfl (by decide)) ?_
   refine v1 (k:=N) (F:=[zA kR q]) (ys:=[.gw (N1+1) 1 1]) (Pt.one _) rfl rfl rfl ?_ rfl (al (show N≠N1+1 by omega) (al (show N≠N1 by omega) (by rw[hd];exact e1)))
   refine nl hK ?_
   intro a w hr
   refine⟨_,_,hr,?_⟩
   refine⟨_,_,N1+1,rfl,?_,by omega,?_,fun j ds hj=>?_,fun _=>⟨by omega,by omega,?_⟩⟩
   ·exact ((hokV.cons (M:=N1+1+1) (by omega) (show N1<N1+1+1 by omega) (by simp[D.idsC];omega)).consM (show N1+1<N1+1+1 by omega) (by simp[D.idsC];omega)).consM (show N<N1+1+1 by omega) (by simp[D.idsC])
   ·rw[show zA (N1+1) (q+1)=.gw (N1+1) 1 1 by rw[hq0];rfl];exact ak
   ·have h1:=hok.lt hj
    exact al (by omega) (al (by omega) (al (by omega) (xg j ds hj)))
   ·rw[yy,show j5 kM C q=[] by rw[hq0];rfl]
    exact al (by omega) ak
  ·have hqp:0<q:=by omega
   obtain⟨k1,k2,k3⟩:=hR hqp
   have hd:zA kR q=.gw kR 1 q:=aA hq0
   rw[hd] at e1
   have E7:D.cells (D.ow kM (q*C*36) 36 C)=some [.ow kM (q*C*36) 36 C]:=rfl
   refine c1 (Pt.one _) ?_
   refine sa ?_
   refine q1s (d:=.gw N1 1 1) (hp':=⟨(N1,[D.ow kM (q*C*36) 36 C])::V,(N+1,0,1,22)::lv,N1+1⟩) (ML (cs:=[.ow kM (q*C*36) 36 C]) tok js aF E7 rfl) ?_
   refine q1s (d:=.gw (N1+1) 1 (q+1)) (hp':=⟨(N1+1,j5 kM C q++[D.ow kM (q*C*36) 36 C])::((N1,[D.ow kM (q*C*36) 36 C])::V).filter (fun p=>!([kR]:List Nat).contains p.1),(N+1,0,1,22)::lv,N1+1+1⟩) (appR_ok (k:=kR) (n:=q) (ky:=N1) (ds:=j5 kM C q) (news:=[.ow kM (q*C*36) 36 C]) tok js aF (al (show kR≠N1 by omega) k3) ak rfl rfl (by rw[Fz];exact (z5 q).symm) rfl (by
    have:q*1≤R*C:=ja (pX hq) hC
    show (q+1)*24≤_;omega)) ?_
   refine v1 (k:=N) (F:=[zA kR q]) (ys:=[.gw (N1+1) 1 (q+1)]) (Pt.one _) rfl rfl rfl ?_ rfl (al (show N≠N1+1 by omega) ((FX (show N≠kR by omega)).trans (al (show N≠N1 by omega) (by rw[hd];exact e1))))
   refine nl hK ?_
   intro a w hr
   refine⟨_,_,hr,?_⟩
   have hfil:fV ⟨((N1,[D.ow kM (q*C*36) 36 C])::V).filter fun p=>!([kR]:List Nat).contains p.1,(N+1,0,1,22)::lv,N1+1+1⟩:=by
    have h1:=hokV.cons (M:=N1+1+1) (by omega) (show N1<N1+1+1 by omega) (show ([D.ow kM (q*C*36) 36 C]).all (D.idsC (N1+1+1))=true by simp[D.idsC];omega)
    exact⟨fun j ds hj=>h1.var j ds (lq hj).2,h1.tok⟩
   refine⟨_,_,N1+1,rfl,?_,by omega,?_,fun j ds hj=>?_,fun _=>⟨by omega,by omega,?_⟩⟩
   ·refine (hfil.consM (show N1+1<N1+1+1 by omega) ?_).consM (show N<N1+1+1 by omega) (by simp[D.idsC])
    rw[←yy]
    exact ui (by omega)
   ·rw[show zA (N1+1) (q+1)=.gw (N1+1) 1 (q+1) from ifn_];exact ak
   ·have h1:=hok.lt hj
    exact al (by omega) (al (by omega) ((FX (by omega)).trans (al (by omega) (xg j ds hj))))
   ·rw[yy]
    exact al (by omega) ak
 ·rintro x' Db hp' a w hbh hrs ⟨V,N1,kR,rfl,hokV,hN1,e1,xg,hR⟩
  show Code.wpIn (FWd none) 0 prog _ _ a w
  refine (vrs (x:=x') (hbh.N.trans hN) fun K hK=>?_) a w hrs
  have hokL:∀id e,lv.lookup id=some e→id<N:=hok.tok
  by_cases Kz:R=0
  ·have hd:zA kR R=.e (.lit (.slice none 0 0)):=by rw[Kz];rfl
   rw[hd] at e1
   refine c1 (Pt.one _) ?_
   refine s1 (d:=.own N1 1 0 []) (hp':=⟨V,(N1,0,1,22)::(N+1,0,1,22)::lv,N1+1⟩) (eC js aF) ?_
   refine .nil (hK _ _ (AV.ret fun a w hr=>⟨.inr rfl,x',Db,_,_,_,_,hbh,hr,[(4,.e (.sl 1 0 []))],?_,⟨_,ak,ar Kz⟩⟩))
   unfold tv
   rw[ar Kz]
   refine wkS2 (by show x.hp0.next≤_;rw[h0];exact gN N) (by omega) (hok.up (gN N)) xg (fun j y hj=>?_) (fun p hp=>?_)
   ·have:=hokL j y hj
    exact (ay (by omega)).trans ((ay (by omega)).trans hj)
   ·rw[HG] at hp
    subst hp
    exact⟨⟨_,ak,.inr rfl⟩,rfl⟩
  ·obtain⟨k1,k2,k3⟩:=hR (by omega)
   have hd:zA kR R=.gw kR 1 R:=aA Kz
   rw[hd] at e1
   refine c1 (Pt.one _) ?_
   refine sa ?_
   refine .nil (hK _ _ (AV.ret fun a w hr=>⟨.inr rfl,x',Db,_,_,_,_,hbh,hr,[(4,.gw N 1 R)],?_,?_⟩))
   ·obtain⟨σ,hσ⟩:∃σ:Nat→Nat,σ=fun i=>if i=N then kR else i:=⟨_,rfl⟩
    have s1:σ N=kR:=by rw[hσ];exact ar rfl
    have s2:∀i,i<N→σ i=i:=fun i hi=>by rw[hσ];exact ifn_
    refine Wk.perm σ (by show x.hp0.next≤_;rw[h0];exact gN N) (fun i hi=>s2 i (by have:i<x.hp0.next:=hi;rw[h0] at this;exact this)) (fun i j hi hj he=>?_) (TmR.cons TmR.nil ?_ ?_) (fun k ds hk=>?_) (fun k y hk=>?_)
    ·rcases bt i N with h1|h1 <;> rcases bt j N with h2|h2
     ·rw[s2 i h1,s2 j h2] at he;exact he
     ·rw[s2 i h1,show j=N by omega,s1] at he;omega
     ·rw[s2 j h2,show i=N by omega,s1] at he;omega
     ·omega
    ·show _=some (D.gw (σ N) 1 R)
     rw[s1];exact rfl
    ·exact d6 (cp N)
    ·unfold tv at hk
     rw[aA Kz] at hk
     rcases ew hk with⟨e,rfl⟩|⟨e,hk⟩
     ·rw[e]
      refine⟨cp N,?_,ui (by omega),?_⟩
      ·rw[s1,MJ s2 (ui hkM) (by unfold j5;rw[cb];intro d hd;obtain⟨i,_,rfl⟩:=mw.1 hd;rfl)]
       exact k3
      ·unfold j5;rw[cb];intro d hd;obtain⟨i,_,rfl⟩:=mw.1 hd;rfl
     ·have hkN:=hok.lt hk
      have h2:=(hok.var k ds hk).2
      refine⟨by omega,?_,cb.2 fun d hd=>D.idsC_le (gN N) (cb.1 h2 d hd),zO k ds hk⟩
      rw[s2 k hkN,MJ s2 h2 (zO k ds hk)]
      exact xg k ds hk
    ·have hkN:=hokL k y hk
     refine⟨by omega,?_⟩
     rw[s2 k hkN]
     exact (ay (by omega)).trans hk
   ·exact⟨_,ak,aA Kz⟩
 ·rintro x' D hp' a w _ _ hS
  exact hS.elim
end
end
section
section
variable {vs:List (Nat×List D)} {lv:List (Nat×Nat×Nat×TypeId)} {N C R kM ks kn:Nat}
theorem OB(hC:1≤C)(CE:R*C≤1000000)(hC2:C≤1000000)(hs:vs.lookup ks=some [iP kM (R*C)])(hn:vs.lookup kn=some [dI .i64 C])(hkM:kM<N)(zO:∀k ds,vs.lookup k=some ds→ds.all D.noO=true):
  HC prog 138 [.fn 174 [ks,kn]] ⟨vs,lv,N⟩ (rT (N+1) R) ⟨tv (N+1) kM C R vs,lv,N+1+1⟩:=by
 refine HC.of (rs:=[.tmp 2]) tok func138 rfl rfl (b7 rfl) rfl (fun cx hx h0 hok=>?_)
 simp only[fj,Nat.reduceAdd,bB]
 have hap:=JC (lv:=(N,0,1,22)::lv) (N:=N+1) hC CE hC2 hs hn (by omega) zO
 have hokL:∀id e,lv.lookup id=some e→id<N:=hok.tok
 have hokH:fV ⟨tv (N+1) kM C R vs,lv,N+1+1⟩:=by
  unfold tv
  split
  ·exact hok.up (by omega)
  ·exact hok.cons (by omega) (by omega) (ui (by omega))
 refine rs hx fun K hK=>?_
 refine s1 (d:=.own N 1 0 []) (hp':=⟨vs,(N,0,1,22)::lv,N+1⟩) (eC js aF) ?_
 refine nl hK ?_
 have OZ:∀tm,tm.lookup 2=some (rT (N+1) R)→∃tm',Wk cx tm ⟨tv (N+1) kM C R vs,(N,0,1,22)::lv,N+1+1⟩ tm' ⟨tv (N+1) kM C R vs,lv,N+1+1⟩∧yU tbl [.tmp 2] tm' ⟨tv (N+1) kM C R vs,lv,N+1+1⟩ (rT (N+1) R):=by
  intro tm ht
  refine⟨[(2,rT (N+1) R)],wkS2 (by rw[h0];show N≤_;omega) (aD _) hokH (fun j ds h=>h) (fun j y hj=>(ay (by have:=hokL j y hj;omega)).trans hj) (qT.cons qT.nil ht ?_),⟨_,ak,rfl⟩⟩
  unfold rT
  split
  ·rfl
  ·exact det_
 by_cases Kz:R=0
 ·have hq:rT (N+1) R=.e (.sl 1 0 []):=ar Kz
  rw[hq] at hap OZ ⊢
  refine rs hx fun K hK=>?_
  refine sa ?_
  refine q1 (sHC hap rfl (.inl (by kernel_rfl))) ?_
  refine sa ?_
  refine nl hK ?_
  exact AW.ret (OZ _ rfl)
 ·have hq:rT (N+1) R=.gw (N+1) 1 R:=aA Kz
  rw[hq] at hap OZ ⊢
  refine rs hx fun K hK=>?_
  refine sa ?_
  refine q1 (sHC hap rfl (.inl (by kernel_rfl))) ?_
  refine sa ?_
  refine nl hK ?_
  exact AW.ret (OZ _ rfl)
def mV(kM R C:Nat):List D:=[dI .i64 R,dI .i64 C,iP kM (R*C)]
theorem Dd {M:Nat}(h:kM<M)(n:Nat):(iP kM n).idsC M=true:=by
 unfold iP
 split
 ·rfl
 ·exact d6 h
theorem KS(kM n:Nat):D.cells (iP kM n)=some [iP kM n]:=by
 unfold iP
 split <;> rfl
theorem h_steps(hkM:kM<N):HC prog 108 [.ag (mV kM R C)] ⟨vs,lv,N⟩ (.fn 137 [N]) ⟨(N,mV kM R C)::vs,lv,N+1⟩:=by
 refine HC.of (rs:=[.tmp 2]) tok func108 rfl rfl (b7 rfl) rfl (fun cx hx h0 hok=>?_)
 simp only[fj,Nat.reduceAdd,bB]
 have QF:fV ⟨(N,mV kM R C)::vs,lv,N+1⟩:=hok.cons (gN _) (cp _) (by unfold mV;simp only[nZ,rW,j7];simp only[Dd (show kM<N+1 by omega),j7];rfl)
 refine rs hx fun K hK=>?_
 refine s1 (d:=.pt N 0) (fC (cs:=mV kM R C) rfl) ?_
 refine sa ?_
 refine nl hK ?_
 refine rs hx fun K hK=>?_
 refine s1 (d:=.fn 137 [N]) B5 ?_
 refine sa ?_
 refine nl hK ?_
 exact AW.ret (⟨[(2,.fn 137 [N])],wkS (by rw[h0];show N≤N+1;omega) (aD _) QF (fun j ds h=>h) (qT.cons qT.nil rfl (by simp[D.idsB,D.idsC])),⟨_,ak,rfl⟩⟩)
end
section
variable {md:Md} {ops:Array Oper} {K:List (Nat×D)→Hp→Prop} {os:List Oper} {tm:List (Nat×D)} {hp:Hp} {t:Tmp} {ty:TypeId} {pos:String} {af:Array Edge} {k i j o n C:Nat} {x y:Operand}
theorem i1r(h:j<C)(h2:ba prog tbl md ops K os ((t,.pt k ((i*C+j)*36))::tm) hp)(hx:evD tm x=.ow k (i*C*36) 36 C:=by exact rfl)(hy:evD tm y=dI .i64 (j:Int):=by exact rfl)(hn:md.nc tbl (.indexAddr 22 x y)=true:=by exact rfl):ba prog tbl md ops K (⟨some t,.indexAddr 22 x y,ty,pos,af,none⟩::os) tm hp:=by
 have:=nr (P:=prog) (tb:=tbl) (dr:=md.dr) (ty:=ty) (ev:=evD tm) (hp:=hp) (x:=x) (y:=y) (v:=(j:Int)) (n:=C) (kn:=.i64) ⟨by omega,by omega⟩ aF aC rfl hx rfl hy
 rw[aJ,show i*C*36+j*36=(i*C+j)*36 by rw[bZ]] at this
 exact s1 this h2 hn
theorem xX(h:i<n)(h2:ba prog tbl md ops K os ((t,.pt k (o+i))::tm) hp)(hx:(evD tm x).toOw=.ow k o 1 n:=by exact rfl)(hy:(evD tm y).toOw=dI .i64 (i:Int):=by exact rfl)(hn:md.nc tbl (.indexAddr 52 x y)=true:=by exact rfl):ba prog tbl md ops K (⟨some t,.indexAddr 52 x y,ty,pos,af,none⟩::os) tm hp:=by
 have:=nr (P:=prog) (tb:=tbl) (dr:=md.dr) (ty:=ty) (ev:=fun x=>(evD tm x).toOw) (hp:=hp) (x:=x) (y:=y) (v:=(i:Int)) (n:=n) (kn:=.i64) ⟨by omega,by omega⟩ js aF rfl hx rfl hy
 rw[aJ,show o+i*1=o+i by omega] at this
 exact stG (d:=.pt k (o+i)) tok this h2 hn
end
theorem Pt.row {kM C n i:Nat}(h:i<n):Pt (j5 kM C n) i [.ow kM (i*C*36) 36 C] (fun ys=>(j5 kM C n).take i++ys++(j5 kM C n).drop (i+1)):=by
 have hlen:=Fz kM C n
 have hg:(j5 kM C n)[i]? =some (.ow kM (i*C*36) 36 C):=by unfold j5;rw[fO,wM h];rfl
 refine Pt.of ((j5 kM C n).take i) ((j5 kM C n).drop (i+1)) (by rw[e6,hlen];omega) ?_ fun y=>rfl
 conv=>lhs;rw[←s4 i (j5 kM C n)]
 rw[fy]
 congr 1
 rw[LS (by rw[hlen];exact h)]
 have:=j4.1 hg
 obtain⟨_,h2⟩:=this
 rw[h2];rfl
section
variable {vs:List (Nat×List D)} {lv:List (Nat×Nat×Nat×TypeId)} {N C R kM kk kR k i:Nat} {V:List Nu}
theorem h_pred(hM:vs.lookup kM=some (dC ((cW a9).f V)))(QY:vs.lookup kk=some [dI .i64 k])(hV:V.length=R*C)(hi:i<R)(hk:k<C):
  HC prog 141 [.ow kM (i*C*36) 36 C,.pt kk 0] ⟨vs,lv,N⟩ (dB (decide (i9 V[i*C+k]!≠0))) ⟨vs,lv,N⟩:=by
 refine HC.of (rs:=[.tmp 3]) tok func141 rfl rfl (b7 rfl) rfl (fun cx hx h0 hok=>?_)
 simp only[fj,Nat.reduceAdd,bB]
 have hkM:=hok.lt hM
 have hkN:=hok.lt QY
 have hpl:i*C+k<V.length:=by rw[hV];exact bj hi hk
 refine rs hx fun K hK=>?_
 refine sa ?_
 refine nl hK ?_
 refine rs hx fun K hK=>?_
 refine sa ?_
 refine c1 (Pt.one _) ?_
 refine i1r (i:=i) (j:=k) hk ?_
 refine l1 (Pt.el V (i*C+k) hpl) ?_
 refine cq (Pf _) ?_
 refine sa ?_
 refine sa ?_
 refine nl hK ?_
 exact AW.ret (rt1 h0 (hv:=fun j ds h=>h))
end
end
section
def Hm(C k:Nat)(V:List Nu)(n r:Nat):Int:=match wC C k V n r with
 |some i=>(i:Int) - (r:Int)
 |none=>-1
section
variable {vs:List (Nat×List D)} {lv:List (Nat×Nat×Nat×TypeId)} {N C R kM kk kR kr kp k r i:Nat} {V:List Nu}
theorem h_IdxF(hM:vs.lookup kM=some (dC ((cW a9).f V)))(QY:vs.lookup kk=some [dI .i64 k])(hkR:vs.lookup kR=some (j5 kM C R))(hV:V.length=R*C)(hk:k<C)(hr:r<R)(hR:R≤1000000):
  HC prog 140 [.ow kR r 1 (R - r),.fn 141 [kk]] ⟨vs,lv,N⟩ (dI .i64 (Hm C k V (R - r) r)) ⟨vs,lv,N⟩:=by
 refine HC.of (rs:=[.tmp 4]) tok func140 rfl rfl (b7 rfl) rfl (fun cx hx h0 hok=>?_)
 simp only[fj,Nat.reduceAdd,bB]
 have hk1:=hok.lt hM
 have E9:=hok.lt QY
 have hk3:=hok.lt hkR
 refine rs hx fun K hK=>?_
 refine sa ?_
 refine nl hK ?_
 refine AW.seq (rs hx fun K hK=>?_)
 refine sa ?_
 refine s1 (d:=dI .i64 ((R - r:Nat):Int)) (Bx js aF) ?_
 refine sa ?_
 refine nl hK ?_
 refine AW.block (AW.loopW (fun i:Nat=>[(0,.ow kR r 1 (R - r)),(1,.fn 141 [kk]),(7,dI .i64 ((R - r:Nat):Int)),(8,dI .i64 (i:Nat))]) (fun _=>⟨vs,lv,N⟩) (fun i=>i≤R - r∧wC C k V (R - r) r=wC C k V (R - r - i) (r+i)) (fun i=>R - r - i) 0 ?_ ⟨bY _,rfl⟩ ?_)
 ·exact wk1 h0 (hv:=fun j ds h=>h)
 ·rintro i ⟨hi,hf⟩
  refine rs hx fun K hK=>?_
  refine sa ?_
  refine nl hK ?_
  refine AW.seq (AW.condS rfl (fun hb=>?_) (fun hb=>?_))
  ·have Iq:i<R - r:=by have:=n8 hb;omega
   refine AW.skip (AW.seq (AW.block (rs hx fun K hK=>?_)))
   iterate 2 refine sa ?_
   refine nl hK ?_
   refine rs hx fun K hK=>?_
   iterate 3 refine sa ?_
   refine xX (k:=kR) (o:=r) (i:=i) (n:=R - r) Iq ?_
   refine c1 (Pt.row (kM:=kM) (C:=C) (n:=R) (i:=r+i) (by omega)) ?_
   refine q1 (sHF (h_pred hM QY hV (show r+i<R by omega) hk) rfl) ?_
   refine nl hK ?_
   obtain⟨m,hm⟩:∃m,R - r - i=m+1:=⟨R - r - i - 1,by omega⟩
   rw[hm] at hf
   refine AW.condS rfl (fun hb=>?_) (fun hb=>?_)
   ·refine rs hx fun K hK=>?_
    iterate 2 refine sa ?_
    refine nl hK ?_
    refine AW.ret ?_
    have he:Hm C k V (R - r) r=(i:Int):=by
     unfold Hm
     rw[hf];unfold wC
     rw[ar (n8 hb)]
     show ((r+i:Nat):Int) - (r:Int)=i
     omega
    rw[he]
    exact rt1 h0 (hv:=fun j ds h=>h)
   ·refine AW.skip (rq hx fun K hK=>?_)
    iterate 2 refine sa ?_
    refine nl hK ?_
    rw[pH]
    refine⟨i+1,wk1 h0 (hv:=fun j ds h=>h),⟨Iq,?_⟩,by omega⟩
    rw[hf]
    conv=>lhs;unfold wC
    rw[aA (rO hb),show R - r - (i+1)=m by omega]
    rfl
  ·refine AW.exit ?_
   have Iq:i=R - r:=by have:=rO hb;omega
   subst Iq
   refine rs hx fun K hK=>?_
   refine sa ?_
   refine nl hK ?_
   refine AW.ret ?_
   have he:Hm C k V (R - r) r=-1:=by
    unfold Hm
    rw[hf,Nat.sub_self];rfl
   rw[he]
   exact rt1 h0 (hv:=fun j ds h=>h)
theorem JB {f:FuncId}{ks:List Nat}{h:List Nu→Nat→Nu}(hM:vs.lookup kM=some (dC ((cW a9).f V)))(On:∀j∈ks,j<N)(hV:V.length=R*C)(hi:i<R)(hC:C≤1000000)
  (hf:∀(U:List Nu) j,j<C→U.length=R*C→HC prog f ([dI .i64 j]++ks.map fun k=>.pt k 0) ⟨(kM,dC ((cW a9).f U))::vs,lv,N⟩ (dG a9 (h U j)) ⟨(kM,dC ((cW a9).f U))::vs,lv,N⟩):
  HC prog 142 [.ow kM (i*C*36) 36 C,.fn f ks] ⟨vs,lv,N⟩ (.tu []) ⟨(kM,dC ((cW a9).f (ng V (i*C) h C)))::vs,lv,N⟩:=by
 refine HC.of (rs:=[]) tok func142 rfl rfl (b7 rfl) rfl (fun cx hx h0 hok=>?_)
 simp only[fj,Nat.reduceAdd,bB]
 have hk1:=hok.lt hM
 have Oh:∀U:List Nu,fV ⟨(kM,dC ((cW a9).f U))::vs,lv,N⟩:=fun U=>hok.consM hk1 (qF _)
 have Q7:D.idsB N (.fn f ks)=true:=cb.2 fun k hk=>d6 (On k hk)
 refine rs hx fun K hK=>?_
 refine sa ?_
 refine s1 (d:=dI .i64 (C:Nat)) (Bx aF aC) ?_
 refine sa ?_
 refine nl hK ?_
 refine AW.block (AW.loopW (fun j:Nat=>[(0,.ow kM (i*C*36) 36 C),(1,.fn f ks),(6,dI .i64 (C:Nat)),(7,dI .i64 (j:Nat))]) (fun j=>⟨(kM,dC ((cW a9).f (ng V (i*C) h j)))::vs,lv,N⟩) (fun j=>j≤C) (fun j=>C - j) 0 ?_ (bY _) ?_)
 ·exact wk1 h0 (hok:=Oh _) (hv:=fun j ds h=>by
   rcases ew h with⟨rfl,rfl⟩|⟨hj,h⟩
   ·exact hM
   ·exact h)
 ·intro j hj
  refine rs hx fun K hK=>?_
  refine sa ?_
  refine nl hK ?_
  refine AW.seq (AW.condS rfl (fun hb=>?_) (fun hb=>?_))
  ·have G2:j<C:=by have:=n8 hb;omega
   have hlen:(ng V (i*C) h j).length=R*C:=by rw[nf,hV]
   have hpl:i*C+j<(ng V (i*C) h j).length:=by rw[hlen];exact bj hi G2
   refine AW.skip (AW.seq (AW.block (rs hx fun K hK=>?_)))
   iterate 2 refine sa ?_
   refine nl hK ?_
   refine rq hx fun K hK=>?_
   iterate 4 refine sa ?_
   refine q1 (sHF (hf _ j G2 hlen) rfl) ?_
   refine i1r (i:=i) (j:=j) G2 ?_
   refine t1 (Pt.el _ (i*C+j) hpl) (Pt.el_set _ (i*C+j) hpl _) ?_
   refine nl hK ?_
   refine rq hx fun K hK=>?_
   iterate 2 refine sa ?_
   refine nl hK ?_
   rw[pH]
   refine⟨j+1,wk1 h0 (hok:=Oh _) (hv:=fun j' ds h=>by
    rcases ew h with⟨rfl,rfl⟩|⟨hj,h⟩
    ·exact ak
    ·exact al hj (al hj h)),G2,by omega⟩
  ·refine AW.exit ?_
   have G2:j=C:=by have:=rO hb;omega
   subst G2
   exact⟨_,wkS (by rw[h0];exact aD N) (aD N) (Oh _) (fun j ds h=>h) qT.nil,rfl⟩
end
end
section
def pvD(p:Pv):List D:=[dI .i64 p.col]++dC (a9.f p.by')++[dB p.mov]
theorem Cy(p:Pv):(pvD p).length=38:=by unfold pvD;simp only[eI,sM];rfl
theorem pvD_by {p:Pv}:Pt (pvD p) (0+1) (dC (a9.f p.by')) (fun ys=>[dI .i64 p.col]++ys++[dB p.mov]):=Pt.of [dI .i64 p.col] [dB p.mov] rfl (by unfold pvD;simp only[fy]) fun y=>rfl
section
variable {vs:List (Nat×List D)} {lv:List (Nat×Nat×Nat×TypeId)} {N C R kM krs kR kr kp kl kx k r i j:Nat} {V:List Nu} {p:Pv} {b:Nu}
theorem h_by3(hM:vs.lookup kM=some (dC ((cW a9).f V)))(hrs:vs.lookup krs=some [.gw kR 1 R])(hkr:vs.lookup kr=some [dI .i64 r])(hkp:vs.lookup kp=some (pvD p))(hkR:vs.lookup kR=some (j5 kM C R))(hV:V.length=R*C)(hj:j<C)(hr:r<R):
  HC prog 143 ([dI .i64 j]++[krs,kr,kp].map fun k=>.pt k 0) ⟨vs,lv,N⟩ (dG a9 (wv V[r*C+j]! p.by')) ⟨vs,lv,N⟩:=by
 refine HC.forget (vars:=(N,dC (a9.f (wv V[r*C+j]! p.by')))::vs) (n:=N+1) ?_ (fun j ds hj h=>al (by omega) h) (qF _)
 refine HC.of (rs:=[.cell 5 34]) tok func143 rfl rfl (b7 rfl) rfl (fun cx hx h0 hok=>?_)
 simp only[fj,i2,fx,DY,qw,Nat.reduceAdd,bB]
 have h1:=hok.lt hM
 have h2:=hok.lt hrs
 have h3:=hok.lt hkr
 have h4:=hok.lt hkp
 have h5:=hok.lt hkR
 refine rs hx fun K hK=>?_
 refine n1 ?_
 refine nl hK ?_
 refine rsd [144] hx fun K hK=>?_
 refine c1 (Pt.one _) ?_
 refine c1 (Pt.one _) ?_
 refine xX (k:=kR) (o:=0) (i:=r) (n:=R) hr ?_
 rw[bB]
 refine c1 (Pt.row (kM:=kM) (C:=C) (n:=R) (i:=r) hr) ?_
 refine sa ?_
 refine i1r (i:=r) (j:=j) hj ?_
 refine l1 (Pt.el V (r*C+j) (by rw[hV];exact bj hr hj)) ?_
 refine sa ?_
 refine l1 (pvD_by (p:=p)) ?_
 refine cq (w_Div _ _) ?_
 refine z1 ?_
 refine nl hK ?_
 refine AW.ret ?_
 exact rtN1 h0 (by omega) (fV.consM (hok.up (by omega)) (by omega) (qF _)) (aD _) (fun j ds h=>by
  rcases ew h with⟨rfl,rfl⟩|⟨hj,h⟩
  ·exact ak
  ·have:=hok.lt h
   exact al hj (al hj h)) ak rfl
theorem h_by4(hM:vs.lookup kM=some (dC ((cW a9).f V)))(hkl:vs.lookup kl=some [.ow kM (i*C*36) 36 C])(hkx:vs.lookup kx=some (dC (a9.f b)))(hrs:vs.lookup krs=some [.gw kR 1 R])(hkr:vs.lookup kr=some [dI .i64 r])(hkR:vs.lookup kR=some (j5 kM C R))(hV:V.length=R*C)(hj:j<C)(hr:r<R)(hi:i<R):
  HC prog 145 ([dI .i64 j]++[kl,kx,krs,kr].map fun k=>.pt k 0) ⟨vs,lv,N⟩ (dG a9 (yz V[i*C+j]! (sJ b V[r*C+j]!))) ⟨vs,lv,N⟩:=by
 refine HC.forget (vars:=(N,dC (a9.f (yz V[i*C+j]! (sJ b V[r*C+j]!))))::vs) (n:=N+1) ?_ (fun j ds hj h=>al (by omega) h) (qF _)
 refine HC.of (rs:=[.cell 6 34]) tok func145 rfl rfl (b7 rfl) rfl (fun cx hx h0 hok=>?_)
 simp only[fj,i2,fx,DY,qw,Nat.reduceAdd,bB]
 have h1:=hok.lt hM
 have h2:=hok.lt hrs
 have h3:=hok.lt hkr
 have h4:=hok.lt hkl
 have h5:=hok.lt hkR
 have h6:=hok.lt hkx
 refine rs hx fun K hK=>?_
 refine n1 ?_
 refine nl hK ?_
 refine rsd [40,146] hx fun K hK=>?_
 refine c1 (Pt.one _) ?_
 refine sa ?_
 refine i1r (i:=i) (j:=j) hj ?_
 refine l1 (Pt.el V (i*C+j) (by rw[hV];exact bj hi hj)) ?_
 refine l1 (Pt.idN b) ?_
 refine c1 (Pt.one _) ?_
 refine c1 (Pt.one _) ?_
 refine xX (k:=kR) (o:=0) (i:=r) (n:=R) hr ?_
 rw[bB]
 refine c1 (Pt.row (kM:=kM) (C:=C) (n:=R) (i:=r) hr) ?_
 refine sa ?_
 refine i1r (i:=r) (j:=j) hj ?_
 refine l1 (Pt.el V (r*C+j) (by rw[hV];exact bj hr hj)) ?_
 refine cq (w_Mul _ _) ?_
 refine cq (w_Sub _ _) ?_
 refine z1 ?_
 refine nl hK ?_
 refine AW.ret ?_
 exact rtN1 h0 (by omega) (fV.consM (hok.up (by omega)) (by omega) (qF _)) (aD _) (fun j ds h=>by
  rcases ew h with⟨rfl,rfl⟩|⟨hj,h⟩
  ·exact ak
  ·have:=hok.lt h
   exact al hj (al hj h)) ak rfl
end
end
section
theorem T_bldPv {dr:Bool}{ty:TypeId}{ev:Operand→D}{hp:Hp}{x y z:Operand}{p:Pv}(hx:ev x=dI .i64 p.col:=by exact rfl)(hy:ev y=dG a9 p.by':=by exact rfl)(hz:ev z=dB p.mov:=by exact rfl):AVC prog tbl dr (.build 102 #[(0,x),(1,y),(2,z)]) ty ev hp (Kq (.ag (pvD p)) hp):=by
 have h0:([(0,x),(1,y),(2,z)]:List (Nat×Operand)).map (fun p=>(p.1,ev p.2))=[(0,dI .i64 p.col),(1,dG a9 p.by'),(2,dB p.mov)]:=by simp only[fx,i2,hx,hy,hz]
 rw[show (#[(0,x),(1,y),(2,z)]:Array (Nat×Operand))=([(0,x),(1,y),(2,z)]:List (Nat×Operand)).toArray from rfl,z3,h0,xl,im]
 have hp:lM [(0,dI .i64 p.col),(1,dG a9 p.by'),(2,dB p.mov)]=some [(0,[dI .i64 p.col]),(1,dC (a9.f p.by')),(2,[dB p.mov])]:=rfl
 rw[hp]
 dsimp only
 refine⟨by decide,?_⟩
 have hz:∀zs:List D,zs.length=38→gU (rH tbl [(0,3),(1,34),(37,4)]) zs [(0,[dI .i64 p.col]),(1,dC (a9.f p.by')),(2,[dB p.mov])]=some (pvD p):=fun zs hzs=>by
  have p0:rH tbl [(0,3),(1,34),(37,4)] 0=some (0,1):=rfl
  have p1:rH tbl [(0,3),(1,34),(37,4)] 1=some (1,36):=rfl
  have p2:rH tbl [(0,3),(1,34),(37,4)] 2=some (37,1):=rfl
  obtain⟨z0,zr,rfl⟩:∃z0 zr,zs=z0::zr:=by
   cases zs with
   |nil=>cases hzs
   |cons a b=>exact⟨a,b,rfl⟩
  have hzr:zr.length=37:=by simpa using hzs
  have hl:=sM p.by'
  simp only[gU,p0,p1,p2,hl]
  rw[aA (by simp[hzr]),aA (by simp[hzr]),aA (by simp[hzr,hl])]
  unfold pvD
  have e1:(List.take 0 (z0::zr)++[dI IntKind.i64 (p.col:Int)]++List.drop (0+[dI IntKind.i64 (p.col:Int)].length) (z0::zr))=dI .i64 p.col::zr:=rfl
  rw[e1]
  have e2:List.take 1 (dI IntKind.i64 (p.col:Int)::zr)=[dI .i64 p.col]:=rfl
  have e3:List.drop (1+36) (dI IntKind.i64 (p.col:Int)::zr)=zr.drop 36:=rfl
  rw[e2,e3]
  have h37:([dI IntKind.i64 (p.col:Int)]++dC (a9.f p.by')).length=37:=by rw[eI,hl];rfl
  rw[wJ (by rw[h37];exact aD _),gu (by rw[h37];exact aD _),yO (by rw[eI,h37,ie,hzr];exact aD _),vQ]
 rw[hz _ (by rfl)]
 exact Kq.here _ _
section
variable {kM R C:Nat}
theorem mat_R:Pt (mV kM R C) (0+0) [dI .i64 R] (fun ys=>ys++[dI .i64 C,iP kM (R*C)]):=Pt.of [] [dI .i64 C,iP kM (R*C)] rfl rfl fun y=>rfl
theorem P3:Pt (mV kM R C) (0+1) [dI .i64 C] (fun ys=>[dI .i64 R]++ys++[iP kM (R*C)]):=Pt.of [dI .i64 R] [iP kM (R*C)] rfl rfl fun y=>rfl
theorem mat_D:Pt (mV kM R C) (0+2) [iP kM (R*C)] (fun ys=>[dI .i64 R,dI .i64 C]++ys++[]):=Pt.of [dI .i64 R,dI .i64 C] [] rfl rfl fun y=>rfl
theorem IW(k n:Nat):D.cells (rT k n)=some [rT k n]:=by unfold rT;split <;> rfl
theorem NU {k n M:Nat}(h:k<M):D.idsC M (rT k n)=true:=by
 unfold rT
 split
 ·rfl
 ·exact d6 h
end
structure Kept(W:List Nat)(hp hp':Hp):Prop where
 ok:fV hp'
 next:hp.next≤hp'.next
 vars:∀j ds,j∉W→hp.vars.lookup j=some ds→hp'.vars.lookup j=some ds
structure StH(E kM k0 R C r k kk:Nat)(V:List Nu)(hp:Hp):Prop where
 ok:fV hp
 nx:E+6≤kk
 kn:kk<hp.next
 len:V.length=R*C
 hM:0<R→0<C→hp.vars.lookup kM=some (dC ((cW a9).f V))
 h0:hp.vars.lookup k0=some (mV kM R C)
 hr:hp.vars.lookup (E+5)=some [dI .i64 r]
 hk:hp.vars.lookup kk=some [dI .i64 k]
 hrs:0<R→0<C→hp.vars.lookup (E+4)=some [.gw (E+3) 1 R]
 hR:0<R→0<C→hp.vars.lookup (E+3)=some (j5 kM C R)
end
section
theorem M3 {C k:Nat}{V:List Nu}:∀{n r i:Nat},wC C k V n r=some i→r≤i∧i<r+n
 |0,r,i,h=>by cases h
 |n+1,r,i,h=>by
  unfold wC at h
  split at h
  ·injection h with h;omega
  ·have:=M3 h;omega
theorem ul {R C n k r:Nat}{V:List Nu}{acc:List Pv}(h:n=0∨¬r<R):ms R C n k r V acc=some (V,acc):=by
 cases n with
 |zero=>rfl
 |succ n=>
  unfold ms
  rcases h with h|h
  ·cases h
  ·rw[aA h]
section
variable {KD:List (Nat×List D)} {P7:List (Nat×Nat×Nat×TypeId)} {E B kM k0 k4 R C:Nat} {p:Tmp} {Nt:Nat} {OL bod:Code} {tm0:List (Nat×D)} {J:List Pv→Hp→Prop} {S:Hp→Prop} {V0:List Nu}
def TH(l E k0 kk:Nat):List (Nat×D):=[(0,.e (.lit (.func (.yield l) #[] #[]))),(1,.pt k0 0),(3,.pt (E+4) 0),(4,.pt (E+5) 0),(5,.pt kk 0)]
theorem Qe(hkM:kM<E)(hk0:k0<E)(hk4:k4<E)(h4M:k4≠kM)(h40:k4≠k0)(hM0:kM≠k0)
  (Hi:V0.length=R*C) (CE:R*C≤1000000) (hR:R≤1000000) (hC:C≤1000000)
  (hM:0<R→0<C→KD.lookup kM=some (dC ((cW a9).f V0))) (h0:KD.lookup k0=some (mV kM R C))
  (zO:∀k ds,KD.lookup k=some ds→ds.all D.noO=true)
  (hpN:p<Nt) (hJ0:J [] ⟨KD,P7,E⟩)
  (hJ:∀acc vs pz lv N N',J acc ⟨vs,lv,N⟩→N≤N'→E≤N→(∀j ds,j≠kM→j<E→vs.lookup j=some ds→pz.lookup j=some ds)→J acc ⟨pz,lv,N'⟩)
  (hrd:∀V acc pv hp,0<R→acc.length<C→V.length=R*C→fV hp→hp.vars.lookup kM=some (dC ((cW a9).f V))→J acc hp→RdOk prog Nt p OL bod tm0 hp (.ag (pvD pv)) (fun hp'=>V.all ck=true∧Kept [k4] hp hp'∧J (acc++[pv]) hp') (fun hp'=>V.all ck=false∧S hp')):
  Mo prog 137 [k0] B ⟨KD,P7,E⟩ p Nt OL bod tm0 (fun hp=>∃V acc,ms R C C 0 0 V0 []=some (V,acc)∧fV hp∧(0<R→0<C→hp.vars.lookup kM=some (dC ((cW a9).f V)))∧J acc hp) (fun hp=>ms R C C 0 0 V0 []=none∧S hp):=by
 refine Mo.of func137 rfl (b7 rfl) rfl hpN (by simp[hk0]) (fun g w l rec x hB Ao hg0 hw0 JE hN uc hok hmk=>?_)
 simp only[fx,i2,fj,Nat.reduceAdd,bB]
 obtain⟨R1,C1,hC1,hR1,hC1p,hC1le,hR1le⟩:∃R1 C1,C1=max 1 C∧R1*C1=R*C∧1≤C1∧C1≤1000000∧(0<C→C1=C∧R1=R):=by
  rcases mJ C with h|h
  ·exact⟨0,max 1 C,rfl,by rw[h,fP,HV],HJ _ _,by omega,fun h'=>by omega⟩
  ·exact⟨R,max 1 C,rfl,by rw[show max 1 C=C by omega],HJ _ _,by omega,fun _=>⟨by omega,rfl⟩⟩
 have hmx:max (1:Int) (C:Int)=((C1:Nat):Int):=by omega
 refine vrs hN fun K hK=>?_
 refine sa ?_
 refine c1 mat_D ?_
 refine sa ?_
 refine c1 P3 ?_
 refine sa ?_
 rw[hmx]
 have hch:=h_Chunk (vs:=KD) (lv:=P7) (N:=E) (dV:=iP kM (R*C)) hC1p hC1le (Dd hkM _) (KS _ _)
 refine q1s (d:=.fn 174 [E,E+1]) (hp':=⟨(E+1,[dI .i64 C1])::(E,[iP kM (R*C)])::KD,P7,E+1+1⟩) (N5 rfl hch rfl) ?_
 have hcol:=OB (vs:=(E+1,[dI .i64 C1])::(E,[iP kM (R*C)])::KD) (lv:=P7) (N:=E+1+1) (R:=R1) (C:=C1) (kM:=kM) (ks:=E) (kn:=E+1) hC1p (by rw[hR1];exact CE) hC1le (by rw[hR1];exact al (by omega) ak) ak (by omega) (fun k ds hk=>by
  rcases ew hk with⟨rfl,rfl⟩|⟨_,hk⟩
  ·rfl
  rcases ew hk with⟨rfl,rfl⟩|⟨_,hk⟩
  ·unfold iP;split <;> rfl
  ·exact zO k ds hk)
 refine q1s (d:=rT (E+3) R1) (hp':=⟨tv (E+3) kM C1 R1 ((E+1,[dI .i64 C1])::(E,[iP kM (R*C)])::KD),P7,E+4⟩) (N5 rfl hcol rfl) ?_
 obtain⟨VR,hVR⟩:∃VR,VR=tv (E+3) kM C1 R1 ((E+1,[dI .i64 C1])::(E,[iP kM (R*C)])::KD):=⟨_,rfl⟩
 rw[←hVR]
 have hokC:fV ⟨(E+1,[dI .i64 C1])::(E,[iP kM (R*C)])::KD,P7,E+4⟩:=((hok.up (M:=E+4) (by omega)).consM (by omega) (by simp[Dd (show kM<E+4 by omega)])).consM (by omega) (by rfl)
 have hokR:fV ⟨VR,P7,E+4⟩:=by
  rw[hVR];unfold tv
  split
  ·exact hokC
  ·exact hokC.consM (by omega) (ui (by omega))
 have hoR:∀j ds,j<E→KD.lookup j=some ds→VR.lookup j=some ds:=fun j ds hj h=>by
  rw[hVR];unfold tv
  split
  ·exact al (by omega) (al (by omega) h)
  ·exact al (by omega) (al (by omega) (al (by omega) h))
 have hRR:0<R→0<C→rT (E+3) R1=.gw (E+3) 1 R∧VR.lookup (E+3)=some (j5 kM C R):=fun h1 h2=>by
  obtain⟨e1,e2⟩:=hR1le h2
  subst e1 e2
  refine⟨ifn_,?_⟩
  rw[hVR];unfold tv
  rw[ifn_]
  exact ak
 refine a1 js (hz:=rfl) ?_
 refine v1 (k:=E+4) (F:=[D.e (.lit (.slice none 0 0))]) (ys:=[rT (E+3) R1]) (Pt.one _) rfl rfl rfl ?_ rfl ak (IW _ _)
 refine nl hK ?_
 refine vrs hN fun K hK=>?_
 refine a1 bh (hz:=rfl) ?_
 refine v1 (k:=E+5) (ys:=[dI .i64 0]) (Pt.one _) rfl rfl rfl ?_ rfl ak rfl
 refine nl hK ?_
 refine vrs hN fun K hK=>?_
 refine a1 bh (hz:=rfl) ?_
 refine v1 (k:=E+6) (ys:=[dI .i64 0]) (Pt.one _) rfl rfl rfl ?_ rfl ak rfl
 refine nl hK ?_
 refine AV.block ?_
 refine AV.loop (fun n tm hp=>∃k r V acc kk,n=C - k∧k≤C∧tm=TH l E k0 kk∧StH E kM k0 R C r k kk V hp∧J acc hp∧acc.length≤k∧ms R C C 0 0 V0 []=ms R C (C - k) k r V acc) (n:=C) (Wk.tmS (tm':=TH l E k0 (E+6)) (tin (tin (tin (tin (tin NR)))))) ?_ ?_
 ·refine⟨0,0,V0,[],E+6,rfl,bY _,rfl,⟨?_,aD _,cp _,Hi,fun h1 h2=>?_,?_,?_,?_,fun h1 h2=>?_,fun h1 h2=>?_⟩,?_,aD _,rfl⟩
  ·exact (((((hokR.up (M:=E+7) (by omega)).consM (by omega) (by rfl)).consM (by omega) (by simp[NU (show E+3<E+7 by omega)])).consM (by omega) (by rfl)).consM (by omega) (by rfl)).consM (by omega) (by rfl) |>.consM (by omega) (by rfl)
  ·exact al (by omega) (al (by omega) (al (by omega) (al (by omega) (al (by omega) (al (by omega) (hoR _ _ hkM (hM h1 h2)))))))
  ·exact al (by omega) (al (by omega) (al (by omega) (al (by omega) (al (by omega) (al (by omega) (hoR _ _ hk0 h0))))))
  ·exact al (by omega) (al (by omega) ak)
  ·exact ak
  ·rw[←(hRR h1 h2).1]
   exact al (by omega) (al (by omega) (al (by omega) (al (by omega) ak)))
  ·exact al (by omega) (al (by omega) (al (by omega) (al (by omega) (al (by omega) (al (by omega) (hRR h1 h2).2)))))
  ·refine hJ [] KD _ P7 E _ hJ0 (by omega) (aD _) fun j ds _ hj h=>?_
   exact al (by omega) (al (by omega) (al (by omega) (al (by omega) (al (by omega) (al (by omega) (hoR _ _ hj h))))))
 ·rintro n tm hp ⟨k,r,V,acc,kk,rfl,hkC,rfl,⟨Oi,ub,hkkN,hlen,Qq,hv0,hvr,hvk,K6,hvR⟩,hJa,hal,ku⟩
  obtain⟨vs,lv,N⟩:=hp
  dsimp only at hkkN Qq hv0 hvr hvk K6 hvR
  refine AV.seqA ?_
  refine rs hN fun K hK=>?_
  refine c1 (Pt.one _) ?_
  refine sa ?_
  refine c1 P3 ?_
  iterate 2 refine sa ?_
  rcases ee (decide ((k:Int)<(C:Int))) with hb|hb
  ·refine c1g (Pt.one _) hb ?_
   refine ga hb ?_
   refine c1g mat_R hb ?_
   refine ga hb ?_
   refine s1 (au hb) ?_
   refine nl hK ?_
   have Lh:k<C:=by have:=n8 hb;omega
   refine AW.condS rfl (fun tz=>?_) (fun tz=>?_)
   ·have G0:r<R:=by have:=n8 tz;omega
    have K6:=K6 (by omega) (by omega)
    have hvR:=hvR (by omega) (by omega)
    have Qq:=Qq (by omega) (by omega)
    refine AW.skip ?_
    have hkM2:kM≠kk:=by omega
    have hkMN:kM<N:=by omega
    refine AV.seq (AV.mono (Q:=fun ex a w'=>(ex=.normal∧∃r' V' OP hp',RS x (TH l E k0 kk) hp' a w'∧StH E kM k0 R C r' k kk V' hp'∧J OP hp'∧OP.length≤k+1∧ms R C C 0 0 V0 []=ms R C (C - (k+1)) (k+1) r' V' OP)∨
     (ex=.ret∧a.defers=x.df∧∃hp' g' W',w'=W'.putObj l (.loop (sN rec))∧W'.heap[l]? =some (.loop rec)∧zb B ⟨KD,P7,E⟩ g w hp' g' W'∧ms R C C 0 0 V0 []=none∧S hp')) (AV.block ?_) ?_)
    ·refine vrsd [140] hN fun K hK=>?_
     refine c1 (Pt.one _) ?_
     refine c1 (Pt.one _) ?_
     refine c1 (Pt.one _) ?_
     refine q1 (nT.toOw (slW (l:=(r:Int)) (h:=(R:Int)) (n:=R) (k:=E+3) (off:=0) (z:=1) tok ⟨by omega,by omega,by omega,by omega⟩ js aF ⟨.i64,rfl⟩ rfl)) ?_
     rw[show 0+((r:Nat):Int).toNat*1=r by omega,show (((R:Nat):Int) - ((r:Nat):Int)).toNat=R - r by omega]
     refine s1 (d:=.fn 141 [kk]) B5 ?_
     refine q1 (sHCf (h_IdxF (kM:=kM) (kk:=kk) (kR:=E+3) (k:=k) (r:=r) (V:=V) Qq hvk hvR hlen Lh G0 hR) rfl (Fr.refl _) (hv:=by kernel_rfl)) ?_
     iterate 2 refine sa ?_
     refine nl hK ?_
     refine AV.seqA ?_
     refine rs hN fun K hK=>?_
     refine sa ?_
     refine c1 (Pt.one _) ?_
     refine sa ?_
     refine nl hK ?_
     obtain⟨m,hm⟩:∃m,C - k=m+1:=⟨C - k - 1,by omega⟩
     have Ol:C - (k+1)=m:=by omega
     rcases hf:wC C k V (R - r) r with _|i
     ·have hv:Hm C k V (R - r) r=-1:=by unfold Hm;rw[hf]
      rw[hv,tg (by omega) (by omega)]
      refine AW.condT rfl (det_) (AW.exit ?_)
      intro a w hr
      refine .inl ⟨rfl,r,V,acc,_,Wk.tmS (tin (tin (tin (tin (tin NR))))) a w hr,⟨Oi,ub,hkkN,hlen,fun _ _=>Qq,hv0,hvr,hvk,fun _ _=>K6,fun _ _=>hvR⟩,hJa,by omega,?_⟩
      rw[ku,hm,Ol]
      conv=>lhs;unfold ms
      rw[ar G0,hf]
     ·obtain⟨hri,hiR⟩:=M3 hf
      have hiR:i<R:=by omega
      have hv:Hm C k V (R - r) r=(i:Int) - (r:Int):=by unfold Hm;rw[hf]
      rw[hv,show (r:Int)+((i:Int) - (r:Int))=(i:Int) by omega,tg (by omega) (by omega)]
      refine AW.condF rfl (def_) (AW.skip (AV.seqA ?_))
      refine rs hN fun K hK=>?_
      refine sa ?_
      refine c1 P3 ?_
      refine sa ?_
      refine nl hK ?_
      refine AW.block ?_
      have Oh:∀U:List Nu,fV ⟨(kM,dC ((cW a9).f U))::vs,lv,N⟩:=fun U=>Oi.consM hkMN (qF _)
      refine AW.loopW (fun j:Nat=>[(0,.e (.lit (.func (.yield l) #[] #[]))),(1,.pt k0 0),(3,.pt (E+4) 0),(4,.pt (E+5) 0),(5,.pt kk 0),(6,dI .i64 (i:Nat)),(43,dI .i64 (C:Nat)),(44,dI .i64 (j:Nat))]) (fun j=>⟨(kM,dC ((cW a9).f (mA C V i r j)))::vs,lv,N⟩) (fun j=>j≤C) (fun j=>C - j) 0 ?_ (bY _) ?_
      ·exact wk1 Ao (hok:=Oh _) (hv:=fun j ds h=>by
        rcases ew h with⟨rfl,rfl⟩|⟨hj,h⟩
        ·exact Qq
        ·exact h)
      ·intro j hj
       refine rs hN fun K hK=>?_
       refine sa ?_
       refine nl hK ?_
       refine AW.seq (AW.condS rfl (fun cj=>?_) (fun cj=>?_))
       ·have G2:j<C:=by have:=n8 cj;omega
        have hlU:(mA C V i r j).length=R*C:=by rw[ss,hlen]
        have hp1:i*C+j<(mA C V i r j).length:=by rw[hlU];exact bj hiR G2
        have bQ:r*C+j<(mA C V i r j).length:=by rw[hlU];exact bj G0 G2
        have hp3:r*C+j<((mA C V i r j).set (i*C+j) (mA C V i r j)[r*C+j]!).length:=by rw[BY];exact bQ
        refine AW.skip (AW.seq (AW.block (rs hN fun K hK=>?_)))
        iterate 2 refine sa ?_
        refine nl hK ?_
        refine rqd [] hN fun K hK=>?_
        refine c1 (Pt.one _) ?_
        refine sa ?_
        refine xX (k:=E+3) (o:=0) (i:=i) (n:=R) hiR ?_
        rw[bB]
        refine c1 (Pt.row (kM:=kM) (C:=C) (n:=R) (i:=i) hiR) ?_
        refine sa ?_
        refine c1 (Pt.one _) ?_
        refine c1 (Pt.one _) ?_
        refine xX (k:=E+3) (o:=0) (i:=r) (n:=R) G0 ?_
        rw[bB]
        refine c1 (Pt.row (kM:=kM) (C:=C) (n:=R) (i:=r) G0) ?_
        refine sa ?_
        refine c1 (Pt.one _) ?_
        refine c1 (Pt.one _) ?_
        refine xX (k:=E+3) (o:=0) (i:=r) (n:=R) G0 ?_
        rw[bB]
        refine c1 (Pt.row (kM:=kM) (C:=C) (n:=R) (i:=r) G0) ?_
        refine sa ?_
        refine i1r (i:=r) (j:=j) G2 ?_
        refine l1 (Pt.el _ (r*C+j) bQ) ?_
        refine c1 (Pt.one _) ?_
        refine sa ?_
        refine xX (k:=E+3) (o:=0) (i:=i) (n:=R) hiR ?_
        rw[bB]
        refine c1 (Pt.row (kM:=kM) (C:=C) (n:=R) (i:=i) hiR) ?_
        refine sa ?_
        refine i1r (i:=i) (j:=j) G2 ?_
        refine l1 (Pt.el _ (i*C+j) hp1) ?_
        refine i1r (i:=i) (j:=j) G2 ?_
        refine t1 (Pt.el _ (i*C+j) hp1) (Pt.el_set _ (i*C+j) hp1 _) ?_
        refine i1r (i:=r) (j:=j) G2 ?_
        refine t1 (Pt.el _ (r*C+j) hp3) (Pt.el_set _ (r*C+j) hp3 _) ?_
        refine nl hK ?_
        refine rq hN fun K hK=>?_
        iterate 2 refine sa ?_
        refine nl hK ?_
        rw[pH]
        refine⟨j+1,wk1 Ao (hok:=Oh _) (hv:=fun j' ds h=>by
         rcases ew h with⟨rfl,rfl⟩|⟨hj,h⟩
         ·exact ak
         ·exact al hj (al hj (al hj h))),G2,by omega⟩
       ·refine AW.exit ?_
        have G2:j=C:=by have:=rO cj;omega
        rw[G2]
        clear cj hj G2
        have FN:(mA C V i r C).length=R*C:=by rw[ss,hlen]
        have hp1:r*C+k<(mA C V i r C).length:=by rw[FN];exact bj G0 Lh
        refine vrsd [] hN fun K hK=>?_
        refine c1 (Pt.one _) ?_
        refine c1 (Pt.one _) ?_
        refine c1 (Pt.one _) ?_
        refine xX (k:=E+3) (o:=0) (i:=r) (n:=R) G0 ?_
        rw[bB]
        refine c1 (Pt.row (kM:=kM) (C:=C) (n:=R) (i:=r) G0) ?_
        refine c1 (Pt.one _) ?_
        refine i1r (i:=r) (j:=k) Lh ?_
        refine l1 (Pt.el _ (r*C+k) hp1) ?_
        refine sa ?_
        refine c1 (Pt.one _) ?_
        refine sa ?_
        obtain⟨pv,hpv⟩:∃pv:Pv,pv=⟨k,byN C k i r V,decide (i≠r)⟩:=⟨_,rfl⟩
        refine s1 (d:=.ag (pvD pv)) (T_bldPv (p:=pv) (by rw[hpv];rfl) (by rw[hpv];rfl) (by rw[hpv];exact congrArg (fun b=>dB b) (i3.2 (by omega)))) ?_
        refine a1 im (hz:=rfl) ?_
        refine v1 (k:=N) (ys:=pvD pv) (F2:=pvD pv) Pt.all (by exact rfl) (by exact Cy pv) rfl ?_ rfl ak rfl (ht:=im)
        refine nl hK ?_
        refine vrs hN fun K hK=>?_
        refine s1 (d:=.e (.lit (.func (.func 142) #[] #[]))) Gk ?_
        refine nl hK ?_
        refine vrs hN fun K hK=>?_
        refine sa ?_
        refine c1 (Pt.one _) ?_
        refine c1 (Pt.one _) ?_
        refine xX (k:=E+3) (o:=0) (i:=r) (n:=R) G0 ?_
        rw[bB]
        refine c1 (Pt.row (kM:=kM) (C:=C) (n:=R) (i:=r) G0) ?_
        refine s1 (d:=.fn 143 [E+4,E+5,N]) B5 ?_
        refine q1 (sHC (JB (kM:=kM) (i:=r) (V:=mA C V i r C) (R:=R) (h:=fun U j=>wv U[r*C+j]! pv.by') (al (by omega) (al (by omega) ak)) (fun j hj=>by simp at hj;rcases hj with rfl|rfl|rfl <;> omega) FN G0 hC (fun U j hj hU=>h_by3 (kM:=kM) (krs:=E+4) (kr:=E+5) (kp:=N) (kR:=E+3) (p:=pv) ak (al (by omega) (al (by omega) (al (by omega) (al (by omega) K6)))) (al (by omega) (al (by omega) (al (by omega) (al (by omega) hvr)))) (al (by omega) ak) (al (by omega) (al (by omega) (al (by omega) (al (by omega) hvR)))) hU hj G0)) rfl (.inl (by kernel_rfl))) ?_
        refine nl hK ?_
        obtain⟨U2,hU2⟩:∃U2,U2=ng (mA C V i r C) (r*C) (fun U j=>wv U[r*C+j]! pv.by') C:=⟨_,rfl⟩
        rw[←hU2]
        have Cj:U2.length=R*C:=by rw[hU2,nf,FN]
        have hstep:g6 C k r U2 R=sE R C k i r V:=by rw[hU2,hpv];rfl
        have Bb:∀U:List Nu,fV ⟨(kM,dC ((cW a9).f U))::(N,pvD pv)::vs,lv,N+1⟩:=fun U=>((Oi.up (M:=N+1) (gN _)).consM (cp _) (by unfold pvD;rw[vn,vn,qF];rfl)).consM (by omega) (qF _)
        refine AV.weak (hp':=⟨(kM,dC ((cW a9).f U2))::(N,pvD pv)::vs,lv,N+1⟩) (tm':=[(0,.e (.lit (.func (.yield l) #[] #[]))),(1,.pt k0 0),(3,.pt (E+4) 0),(4,.pt (E+5) 0),(5,.pt kk 0),(8,.pt N 0),(9,.e (.lit (.func (.func 142) #[] #[])))]) (wk1 Ao (hok:=Bb _) (hv:=fun j ds h=>by
         rcases ew h with⟨rfl,rfl⟩|⟨hj,h⟩
         ·exact ak
         rcases ew h with⟨rfl,rfl⟩|⟨Io,h⟩
         ·exact al hj ak
         ·exact al hj (al Io (al Io (al hj h))))) ?_
        have g1:∀U:List Nu,((kM,dC ((cW a9).f U))::(N,pvD pv)::vs).lookup (E+4)=some [.gw (E+3) 1 R]:=fun U=>al (by omega) (al (by omega) K6)
        have g2:∀U:List Nu,((kM,dC ((cW a9).f U))::(N,pvD pv)::vs).lookup (E+5)=some [dI .i64 r]:=fun U=>al (by omega) (al (by omega) hvr)
        have g3:∀U:List Nu,((kM,dC ((cW a9).f U))::(N,pvD pv)::vs).lookup (E+3)=some (j5 kM C R):=fun U=>al (by omega) (al (by omega) hvR)
        have g4:∀U:List Nu,((kM,dC ((cW a9).f U))::(N,pvD pv)::vs).lookup kk=some [dI .i64 k]:=fun U=>al (by omega) (al (by omega) hvk)
        refine AV.seqA ?_
        refine rs hN fun K hK=>?_
        refine c1 (Pt.one _) ?_ (hv:=g1 _)
        refine stG (d:=dI .i64 (R:Nat)) tok (Bx (k:=E+3) (off:=0) (z:=1) js aF rfl rfl) ?_
        refine sa ?_
        refine nl hK ?_
        refine AW.block (AW.loopW (fun n:Nat=>[(0,.e (.lit (.func (.yield l) #[] #[]))),(1,.pt k0 0),(3,.pt (E+4) 0),(4,.pt (E+5) 0),(5,.pt kk 0),(8,.pt N 0),(9,.e (.lit (.func (.func 142) #[] #[]))),(93,.gw (E+3) 1 R),(94,dI .i64 (R:Nat)),(95,dI .i64 (n:Nat))]) (fun n=>⟨(kM,dC ((cW a9).f (g6 C k r U2 n)))::(N,pvD pv)::vs,lv,N+1⟩) (fun n=>n≤R) (fun n=>R - n) 0 ?_ (bY _) ?_)
        ·exact wk1 Ao (hok:=Bb _) (hv:=fun j ds h=>h)
        ·intro n hn
         refine rs hN fun K hK=>?_
         refine sa ?_
         refine nl hK ?_
         refine AW.seq (AW.condS rfl (fun cj=>?_) (fun cj=>?_))
         ·have QI:n<R:=by have:=n8 cj;omega
          have Om:(g6 C k r U2 n).length=R*C:=by rw[su,Cj]
          have hp3:n*C+k<(g6 C k r U2 n).length:=by rw[Om];exact bj QI Lh
          refine AW.skip (AW.seq (AW.block (rs hN fun K hK=>?_)))
          refine sa ?_
          refine xX (k:=E+3) (o:=0) (i:=n) (n:=R) QI ?_
          rw[bB]
          refine c1 (Pt.row (kM:=kM) (C:=C) (n:=R) (i:=n) QI) ?_ (hv:=g3 _)
          refine a1 aF (hz:=rfl) ?_
          refine sa ?_
          refine v1 (k:=N+1) (F:=[D.e (.lit (.slice none 0 0))]) (ys:=[.ow kM (n*C*36) 36 C]) (Pt.one _) rfl rfl rfl ?_ rfl ak rfl
          refine nl hK ?_
          refine rs hN fun K hK=>?_
          refine c1 (Pt.one _) ?_
          refine c1 (Pt.one _) ?_ (hv:=al (by omega) (al (by omega) (g4 _)))
          refine i1r (i:=n) (j:=k) Lh ?_
          refine l1 (Pt.el _ (n*C+k) hp3) ?_
          refine n1 ?_
          refine z1 ?_
          refine nl hK ?_
          refine rs hN fun K hK=>?_
          refine sa ?_
          refine c1 (Pt.one _) ?_ (hv:=al (by omega) (al (by omega) (al (by omega) (al (by omega) (g2 _)))))
          iterate 2 refine sa ?_
          have hvT:∀(U:List Nu) (a b c d e:List D) j ds,((kM,dC ((cW a9).f U))::(N,pvD pv)::vs).lookup j=some ds→((kM,dC ((cW a9).f U))::(N+1+1,a)::(N+1+1,b)::(N+1,c)::(N+1,d)::(kM,e)::(N,pvD pv)::vs).lookup j=some ds:=fun U a b c d e j ds h=>by
           rcases ew h with⟨rfl,rfl⟩|⟨hj,h⟩
           ·exact ak
           have hjN:j<N+1:=by
            rcases ew h with⟨rfl,_⟩|⟨_,h⟩
            ·omega
            ·exact pZ (Oi.lt h)
           exact al hj (al (by omega) (al (by omega) (al (by omega) (al (by omega) (al hj h)))))
          have hvF:∀(U:List Nu) (a b c d:List D) j ds,((kM,dC ((cW a9).f U))::(N,pvD pv)::vs).lookup j=some ds→((N+1+1,a)::(N+1+1,b)::(N+1,c)::(N+1,d)::(kM,dC ((cW a9).f U))::(N,pvD pv)::vs).lookup j=some ds:=fun U a b c d j ds h=>by
           have hjN:j<N+1:=(Bb U).lt h
           exact al (by omega) (al (by omega) (al (by omega) (al (by omega) h)))
          rcases ee (decide ((n:Int)≠(r:Int))) with yE|yE
          ·have hnr:n≠r:=by have:=n8 yE;omega
           refine l1g (Pt.idN _) yE ?_
           refine cqg (Pf _) yE ?_
           refine ga yE ?_
           refine s1 (au yE) ?_
           refine nl hK ?_
           refine AW.condS rfl (fun pI=>?_) (fun pI=>?_)
           ·have e:g6 C k r U2 (n+1)=ng (g6 C k r U2 n) (n*C) (fun U j=>yz U[n*C+j]! (sJ (g6 C k r U2 n)[n*C+k]! U[r*C+j]!)) C:=by
             conv=>lhs;unfold g6
             rw[ar ⟨hnr,n8 pI⟩]
            refine rq hN fun K hK=>?_
            refine sa ?_
            refine c1 (Pt.one _) ?_ (hv:=al (by omega) (al (by omega) ak))
            refine s1 (d:=.fn 145 [N+1,N+1+1,E+4,E+5]) B5 ?_
            refine q1 (sHC (JB (kM:=kM) (i:=n) (V:=g6 C k r U2 n) (R:=R) (h:=fun U j=>yz U[n*C+j]! (sJ (g6 C k r U2 n)[n*C+k]! U[r*C+j]!)) (al (by omega) (al (by omega) (al (by omega) (al (by omega) ak)))) (fun j hj=>by simp at hj;rcases hj with rfl|rfl|rfl|rfl <;> omega) Om QI hC (fun U j hj hU=>h_by4 (kM:=kM) (kl:=N+1) (kx:=N+1+1) (krs:=E+4) (kr:=E+5) (kR:=E+3) (i:=n) (b:=(g6 C k r U2 n)[n*C+k]!) ak (al (by omega) (al (by omega) (al (by omega) ak))) (al (by omega) ak) (al (by omega) (al (by omega) (al (by omega) (al (by omega) (al (by omega) (g1 _)))))) (al (by omega) (al (by omega) (al (by omega) (al (by omega) (al (by omega) (g2 _)))))) (al (by omega) (al (by omega) (al (by omega) (al (by omega) (al (by omega) (g3 _)))))) hU hj G0 QI)) rfl (.inl (by kernel_rfl))) ?_
            refine nl hK ?_
            refine rq hN fun K hK=>?_
            iterate 2 refine sa ?_
            refine nl hK ?_
            rw[pH]
            refine⟨n+1,?_,QI,by omega⟩
            dsimp only
            rw[e]
            exact wk1 Ao (hok:=Bb _) (hv:=fun j ds h=>hvT _ _ _ _ _ _ j ds h)
           ·have e:g6 C k r U2 (n+1)=g6 C k r U2 n:=by
             conv=>lhs;unfold g6
             rw[aA fun h=>rO pI h.2]
            refine AW.skip (rq hN fun K hK=>?_)
            iterate 2 refine sa ?_
            refine nl hK ?_
            rw[pH]
            refine⟨n+1,?_,QI,by omega⟩
            dsimp only
            rw[e]
            exact wk1 Ao (hok:=Bb _) (hv:=fun j ds h=>hvF _ _ _ _ _ j ds h)
          ·have e:g6 C k r U2 (n+1)=g6 C k r U2 n:=by
            conv=>lhs;unfold g6
            rw[aA fun h=>by have:=rO yE;omega]
           iterate 3 refine gn yE ?_
           refine s1 (aN yE) ?_
           refine nl hK ?_
           refine AW.condF rfl rfl (AW.skip (rq hN fun K hK=>?_))
           iterate 2 refine sa ?_
           refine nl hK ?_
           rw[pH]
           refine⟨n+1,?_,QI,by omega⟩
           dsimp only
           rw[e]
           exact wk1 Ao (hok:=Bb _) (hv:=fun j ds h=>hvF _ _ _ _ _ j ds h)
         ·refine AW.exit ?_
          have QI:n=R:=by have:=rO cj;omega
          rw[QI,hstep]
          clear cj hn QI
          have hls:(sE R C k i r V).length=R*C:=by rw[AJ,hlen]
          refine AV.seq ?_
          refine AV.yield (tb:=tbl) (x:=x) (l:=l) (rec:=rec) (hpE:=⟨KD,P7,E⟩) (gE:=g) (wE:=w) 2 rfl (by rw[hN];kernel_rfl) (by kernel_rfl) ⟨Ao,hg0,hw0,fun p _ hp=>by rw[JE];exact hp⟩ (fun K hK=>?_)
          refine sa ?_
          refine p1 (Pt.all (F:=pvD pv)) (Cy pv) ?_
          have hJ2:=hJ acc vs ((kM,dC ((cW a9).f (sE R C k i r V)))::(N,pvD pv)::vs) lv N (N+1) hJa (gN _) (by omega) (fun j ds hj hjE h=>al hj (al (by omega) h))
          refine .nil (hK _ _ _ _ _ rfl rfl (by rw[hB];exact hmk _ _ _ _ (hrd (sE R C k i r V) acc pv _ (by omega) (by omega) hls (Bb _) ak hJ2)) ?_ ?_)
          ·rintro⟨v2,l2,N2⟩ a w ⟨hgd,⟨hok3,xE,hv3⟩,hJ3⟩ hr
           dsimp only at xE hv3
           show Code.wpIn (FWd none) 0 prog _ _ a w
           have kp:∀j ds,j≠k4→j≠kM→j<N→vs.lookup j=some ds→v2.lookup j=some ds:=fun j ds h1 h2 h3 h=>hv3 j ds (by simpa using h1) (al h2 (al (by omega) h))
           have q5:v2.lookup (E+5)=some [dI .i64 r]:=kp _ _ (by omega) (by omega) (by omega) hvr
           refine (vrq hN fun K hK=>?_) a w hr
           refine c1 (Pt.one _) ?_
           refine sa ?_
           rw[pH]
           refine v1 (k:=E+5) (F:=[dI .i64 r]) (ys:=[dI .i64 ((r+1:Nat):Int)]) (Pt.one _) rfl rfl rfl ?_ rfl q5 rfl
           refine nl hK ?_
           intro a w hr
           refine .inl ⟨rfl,r+1,sE R C k i r V,acc++[pv],_,Wk.tmS (tin (tin (tin (tin (tin NR))))) a w hr,⟨hok3.consM (by omega) rfl,ub,by show kk<N2;omega,hls,fun _ _=>?_,?_,ak,?_,fun _ _=>?_,fun _ _=>?_⟩,?_,by rw[eI];exact Nat.succ_le_succ hal,?_⟩
           ·exact al (by omega) (hv3 _ _ (by simpa using fun e=>h4M e.symm) ak)
           ·exact al (by omega) (kp _ _ (fun e=>h40 e.symm) (fun e=>hM0 e.symm) (by omega) hv0)
           ·exact al (by omega) (kp _ _ (by omega) (by omega) (by omega) hvk)
           ·exact al (by omega) (kp _ _ (by omega) (by omega) (by omega) K6)
           ·exact al (by omega) (kp _ _ (by omega) (by omega) (by omega) hvR)
           ·exact hJ (acc++[pv]) v2 _ l2 N2 N2 hJ3 (aD _) (by omega) (fun j ds _ hjE h=>al (by omega) h)
           ·rw[ku,hm,Ol]
            conv=>lhs;unfold ms
            rw[ar G0,hf]
            dsimp only
            rw[ar hgd,hpv]
          ·rintro bQ g2 W' a ⟨hgd,hS2⟩ Cj rk Jw
           rw[hB] at rk
           refine .inr ⟨rfl,Jw,bQ,g2,W',rfl,Cj,rk,?_,hS2⟩
           rw[ku,hm]
           conv=>lhs;unfold ms
           rw[ar G0,hf]
           dsimp only
           rw[aA (by rw[hgd];simp)]
    ·rintro ex a w' (⟨rfl,r',V',OP,⟨pz,lv',N'⟩,hr,⟨hok',hnx',hkn',hlen',hvM',hv0',hvr',hvk',hvrs',hvR'⟩,hJ',hal',hred'⟩|⟨rfl,hd,hp',g',W',rfl,hl,hc,hn,hS'⟩)
     ·show Code.wpIn (FWd none) 0 prog _ _ a w'
      dsimp only at hkn' hvM' hv0' hvr' hvk' hvrs' hvR'
      refine (?_:AV prog none x _ (TH l E k0 kk) ⟨pz,lv',N'⟩ _) a w' hr
      refine AV.seqA ?_
      refine rs hN fun K hK=>?_
      refine c1 (Pt.one _) ?_
      refine nl hK ?_
      refine rq hN fun K hK=>?_
      refine a1 bh (hz:=rfl) ?_
      refine v1 (k:=N') (F:=[dI .i64 0]) (ys:=[dI .i64 (k:Int)]) (Pt.one _) rfl rfl rfl ?_ rfl ak rfl
      refine nl hK ?_
      refine vrq hN fun K hK=>?_
      refine c1 (Pt.one _) ?_
      refine sa ?_
      rw[pH]
      refine v1 (k:=N') (F:=[dI .i64 (k:Int)]) (ys:=[dI .i64 ((k+1:Nat):Int)]) (Pt.one _) rfl rfl rfl ?_ rfl ak rfl
      refine nl hK ?_
      intro a w hr
      refine⟨C - (k+1),_,_,by omega,Wk.tmS (tm':=TH l E k0 N') (tin (tin (tin (tin (tin NR))))) a w hr,k+1,r',V',OP,N',rfl,Lh,rfl,⟨?_,by omega,cp _,hlen',fun h1 h2=>?_,?_,?_,ak,fun h1 h2=>?_,fun h1 h2=>?_⟩,?_,hal',hred'⟩
      ·exact ((hok'.up (M:=N'+1) (gN _)).consM (cp _) rfl).consM (cp _) rfl |>.consM (cp _) rfl
      ·exact al (by omega) (al (by omega) (al (by omega) (hvM' h1 h2)))
      ·exact al (by omega) (al (by omega) (al (by omega) hv0'))
      ·exact al (by omega) (al (by omega) (al (by omega) hvr'))
      ·exact al (by omega) (al (by omega) (al (by omega) (hvrs' h1 h2)))
      ·exact al (by omega) (al (by omega) (al (by omega) (hvR' h1 h2)))
      ·exact hJ OP pz _ lv' N' (N'+1) hJ' (gN _) (by omega) (fun j ds _ hjE h=>al (by omega) (al (by omega) (al (by omega) h)))
     ·exact .inr ⟨rfl,hd,hp',g',W',rfl,hl,hc,hn,hS'⟩
   ·refine AW.exit ?_
    intro a w hr
    have G0:¬r<R:=by have:=rO tz;omega
    exact .inl ⟨.inl rfl,_,_,hr,V,acc,ku.trans (ul (.inr G0)),Oi,Qq,hJa⟩
  ·iterate 4 refine gn hb ?_
   refine s1 (aN hb) ?_
   refine nl hK ?_
   refine AW.condF rfl rfl (AW.exit ?_)
   intro a w hr
   have Lh:¬k<C:=by have:=rO hb;omega
   exact .inl ⟨.inl rfl,_,_,hr,V,acc,ku.trans (ul (.inl (by omega))),Oi,Qq,hJa⟩
end
end
theorem Pe(x:Nu):ax prog 103 [dG a9 x] (dB (!ck x)):=by
 refine bn (rs:=[.tmp 2]) (fun cx hx h0=>?_) func103
 refine ra hx ?_
 refine rs hx fun K hK=>?_
 refine mbr ?_
 refine sc (w_Good x) ?_
 refine nbr hK ?_
 exact AW.ret (rv1)
theorem idxP_ge {p:Nu→Bool}{l:List Nu}:decide (0≤KZ p l)=l.any p:=by
 unfold KZ
 cases h:l.findIdx? p with
 |none=>
  rw[List.findIdx?_eq_none_iff] at h
  have:l.any p=false:=by
   rw[List.any_eq_false]
   intro x hx
   rw[h x hx];simp
  rw[this];rfl
 |some i=>
  obtain⟨hi,h1,_⟩:=R9.1 h
  have:l.any p=true:=LK.2 ⟨l[i],B0 hi,h1⟩
  rw[this]
  exact d6 (show (0:Int)≤(i:Int) by omega)
theorem IG {f:FuncId}{p:Nu→Bool}(hf:∀x:Nu,ax prog f [dG a9 x] (dB (p x))){l:List Nu}(hl:l.length≤1000000):ax prog 102 [.e (slE a9 l),.e (.lit (.func (.func f) #[] #[]))] (dB (l.any p)):=by
 refine bn (rs:=[.tmp 4]) (fun cx hx h0=>?_) func102
 refine ra hx ?_
 refine rs hx fun K hK=>?_
 refine mbr ?_
 refine sc (Pg hf hl) ?_
 refine nbr hK ?_
 refine AW.ret ?_
 rw[idxP_ge]
 exact rv1
theorem ON(l:List Nu):(!l.any fun x=>!ck x)=l.all ck:=by
 induction l with
 |nil=>rfl
 |cons a l ih=>rw[List.any_cons,nZ,Bool.not_or,Bool.not_not,ih]
theorem w_mgood {l:List Nu}(hl:l.length≤1000000):ax prog 58 [.e (slE a9 l)] (dB (l.all ck)):=by
 refine bn (rs:=[.tmp 2]) (fun cx hx h0=>?_) func58
 refine ra hx ?_
 refine rs hx fun K hK=>?_
 refine sa ?_
 refine sc (IG Pe hl) ?_
 refine nbr hK ?_
 refine AW.ret ?_
 rw[ON]
 exact rv1
theorem AR.own {hp:Hp}{id z n:Nat}{xs:List E}:AR hp (.own id z n xs) (.e (.sl z n xs)):=by
 intro B g w v hr hd
 cases hd with
 |own _ _ _ _ _ h hid ht=>exact .e _ _ (h.less fun p hp=>hp.1)
theorem ax.ofMA {P : Program} {tb : TypeId → Option TyE} (tok : TOk P tb) {f : FuncId} {fn : Func} {c : Code} {ds es : List D} {rs : List ResultVar} (hf : P.funcs[f]? = some fn) (hb : fn.body = some c) (uu : (fn.name == "runtime.NumGoroutine") = false) (hN : ds.length ≤ fn.ntmps) (hrs : fn.results.toList = rs)
  (h:∀x:Cx,x.N=fn.ntmps→x.hp0=⟨[],[],0⟩→x.df=[]→x.B≤x.w0.heap.size→AV P none x c (fj 0 ds) ⟨[],[],0⟩ (OX x fun _ tm bQ=>∃d,yU tb rs tm bQ d∧AR bQ d (.tu es))):ax P f ds (.tu es):=by
 subst hrs
 refine⟨⟨fn,hf,uu,by rw[hb];rfl⟩,fun w F vs hF hsz xg=>?_⟩
 have hr:HR w.heap.size ⟨[],[],0⟩ ⟨fun _=>0,fun _=>default,F⟩ w:=⟨fun k ds h=>by simp at h,fun _ _ _ _ h=>by simp at h,fun _ _ _ h=>by simp at h,fun _ _ _ _ _ h=>by simp at h,aD _,hF⟩
 refine (callsIn_wide (n:=0)).1 (callsIn_of_wp_marks (F:=FWd none) hf hb trivial (wpIn_mono (h ⟨w.heap.size,w,F,fn.ntmps,⟨[],[],0⟩,⟨fun _=>0,fun _=>default,F⟩,[]⟩ rfl rfl rfl (aD _) _ _ (Hx hr (fun _ _ h=>h) hN hsz xg)) ?_))
 intro ex a w' he
 refine he.leaves rfl ?_
 rintro x2 tm bQ D w2 h1 h2 h3 h4 h5 h6 ⟨g',rD,i4,Kv,EQ,hB,hF',hM⟩ ⟨d,La,har⟩ rfl hD tW
 have tW:w.heap.size≤D:=tW
 rw[h1] at rD hB hF'
 rw[h2] at hB
 rw[h3] at hF'
 have Lb:=rD.putO (o':=.deferred none) hD rfl rfl
 obtain⟨v,bR,nE⟩:=vt (x:=⟨w.heap.size,w,F,fn.ntmps,⟨[],[],0⟩,⟨fun _=>0,fun _=>default,F⟩,[]⟩) (g:=g') tok rfl La Lb (fun t d ht=>(i4 t d ht).putO hD rfl rfl)
 refine⟨v,bR,v,rfl,(har _ g' _ v Lb nE).less fun p hp=>⟨hF' p (hF p hp) hp,fun k ds hk he=>?_⟩,vi hB tW⟩
 have h7:=(Lb.var k ds hk).2.1
 have h8:=hF p hp
 dsimp only at h7
 omega
section
theorem bC.up1 {vs:List (Nat×List D)}{lv:List (Nat×Nat×Nat×TypeId)}{N:Nat}{g:Gh}{w:World}:bC ⟨vs,lv,N⟩ g w ⟨vs,lv,N+1⟩ g w:=
 ⟨aD _,fun _ _ _=>rfl,fun _ _ h=>h,gN N,fun _ _=>rfl,fun _ _ m _ h=>⟨m,h,aD _,fun _=>rfl⟩,fun _ _ h=>⟨rfl,fun _ _ h=>h,h⟩,fun _=>.same fun _=>rfl⟩
theorem HR.up1 {vs:List (Nat×List D)}{lv:List (Nat×Nat×Nat×TypeId)}{N B:Nat}{g:Gh}{w:World}(hr:HR B ⟨vs,lv,N⟩ g w):HR B ⟨vs,lv,N+1⟩ g w:=by
 refine⟨fun k ds h=>?_,hr.inj,fun id n e h=>?_,hr.tinj,hr.base,hr.fits⟩
 ·obtain⟨a,b,c,cs,ty,d,e,f⟩:=hr.var k ds h
  exact⟨pZ a,b,c,cs,ty,d,e,fun j u hu=>⟨(f j u hu).1,fun d hd=>((f j u hu).2 d hd).mono bC.up1⟩⟩
 ·obtain⟨a,b⟩:=hr.tok id n e h
  exact⟨pZ a,b⟩
theorem HC.gwOw {P:Program}{f:FuncId}{ds:List D}{hp hp':Hp}{k z n:Nat}(h:HC P f ds hp (.gw k z n) hp'):HC P f ds hp (.ow k 0 z n) hp':=by
 refine⟨h.1,fun B g w vs hr hsz dy=>(h.2 B g w vs hr hsz dy).mono ?_⟩
 rintro e w' ⟨v,g',rfl,h1,h2,h3,h4,h5⟩
 refine⟨v,g',rfl,h1,h2,?_,h4,h5⟩
 cases h3 with
 |gw _ _ _ c hk pl oF hs=>exact .ow k 0 z n c hk pl oF
section
variable {vs:List (Nat×List D)} {lv:List (Nat×Nat×Nat×TypeId)} {N:Nat}
theorem Ri {V:List Nu}(hl:V.length≤1000000):HC prog 97 [.e (slE a9 V)] ⟨vs,lv,N⟩ (iP N V.length) ⟨if V.length=0 then vs else (N,dC ((cW a9).f V))::vs,lv,N+1⟩:=by
 by_cases h0:V.length=0
 ·obtain rfl:V=[]:=kY h0
  refine⟨(gb 0 [] (by decide)).1,fun B g w us hr hsz dy=>(Bj (hp:=⟨vs,lv,N⟩) (ds:=[.e (slE a9 [])]) (gb 0 [] (by decide)) ⟨AR.dn rfl,trivial⟩ hr hsz dy).mono ?_⟩
  rintro e w' ⟨v,rfl,⟨_,_,hE⟩,hb⟩
  have hE2:dq w' g.F (.sl 36 0 []) v:=by
   cases hE with
   |sl _ _ _ A c cs hl hz pl oF hA h1 h2=>exact .sl _ _ _ A c cs hl hz pl oF hA (fun ad ha i e hi=>by simp at hi) (fun i e hi=>by simp at hi)
  exact⟨v,g,rfl,(hr.keep hb.size hb.block).up1,(bC.keep _ g hb.size hb.block).trans bC.up1,.e _ _ hE2,hb.mono hr.base,fun _ _ h=>h⟩
 ·have h:=HC.adopt (hp:=⟨vs,lv,N⟩) (ds:=[.e (slE a9 V)]) (gb V.length (V.flatMap a9.f) hl) ⟨AR.dn rfl,trivial⟩ (by omega) (lit_Nu V)
  have h2:=h.gwOw
  rw[show iP N V.length=.ow N 0 36 V.length from aA h0,aA h0]
  exact h2
end
def yI:Cd Pv:=⟨38,fun p=>[.lit (.int .i64 p.col)]++a9.f p.by'++[.lit (.bool p.mov)],fun p=>by simp[a9.h p.by'];rfl⟩
theorem pvD_c(p:Pv):D.ag (pvD p)=dG yI p:=by
 show D.ag (pvD p)=D.ag (([E.lit (.int .i64 p.col)]++a9.f p.by'++[E.lit (.bool p.mov)]).map .e)
 rw[jR,jR]
 rfl
def redE(R C:Nat):Option (List Nu×List Pv)→List D
 |some (U,acc)=>[.ag [dI .i64 R,dI .i64 C,.e (slE a9 U),.e (slE yI acc)],dI .i64 0]
 |none=>[.ag [dI .i64 0,dI .i64 0,.e (slE a9 []),.e (slE yI [])],dI .i64 30]
def PvO(acc:List Pv)(d:D)(hp:Hp):Prop:=(acc=[]∧d=dN)∨∃tk,tk<hp.next∧d=dO tk yI acc∧hp.live.lookup tk=some (acc.length,38,102)
def redJ(kM k4 R C:Nat)(acc:List Pv)(hp:Hp):Prop:=6≤hp.next∧hp.vars.lookup 1=some [dI .i64 0,dI .i64 0,dN,dN]∧hp.vars.lookup 2=some [dI .i64 0]∧∃d,hp.vars.lookup k4=some (mV kM R C++[d])∧PvO acc d hp
def redS(hp:Hp):Prop:=6≤hp.next∧hp.vars.lookup 1=some [dI .i64 0,dI .i64 0,dN,dN]∧hp.vars.lookup 2=some [dI .i64 30]
section
variable {kM R C:Nat}
theorem red_m {d:D}:Pt (mV kM R C++[d]) (0+0) (mV kM R C) (fun ys=>ys++[d]):=Pt.of [] [d] rfl rfl fun y=>rfl
theorem red_D {d:D}:Pt (mV kM R C++[d]) (0+0+2) [iP kM (R*C)] (fun ys=>[dI .i64 R,dI .i64 C]++ys++[d]):=Pt.of [dI .i64 R,dI .i64 C] [d] rfl rfl fun y=>rfl
theorem red_l {d:D}:Pt (mV kM R C++[d]) (0+3) [d] (fun ys=>mV kM R C++ys):=Pt.of (mV kM R C) [] rfl (by simp) fun y=>by simp
theorem P4 {d:D}:Pt [dI .i64 R,dI .i64 C,d] (0+0) [dI .i64 R] (fun ys=>ys++[dI .i64 C,d]):=Pt.of [] _ rfl rfl fun y=>rfl
theorem P6 {d:D}:Pt [dI .i64 R,dI .i64 C,d] (0+1) [dI .i64 C] (fun ys=>[dI .i64 R]++ys++[d]):=Pt.of [dI .i64 R] [d] rfl rfl fun y=>rfl
theorem P5 {d:D}:Pt [dI .i64 R,dI .i64 C,d] (0+2) [d] (fun ys=>[dI .i64 R,dI .i64 C]++ys++[]):=Pt.of [dI .i64 R,dI .i64 C] [] rfl rfl fun y=>rfl
end
end
section
def restC:Code:=match (f63).body with
 |some (.seq _ (.seq _ c))=>c
 |_=>.skip
theorem RS.wk {x:Cx}{tm tm':List (Nat×D)}{hp hp':Hp}{a:Act}{w:World}(hr:RS x tm hp a w)(hw:Wk x tm hp tm' hp'):RS x tm' hp' a w:=hw a w hr
theorem redJ_up {kM k4 R C:Nat}{acc:List Pv}{vs pz:List (Nat×List D)}{lv:List (Nat×Nat×Nat×TypeId)}{N N':Nat}(hM:kM=3∨kM=4)(h4:k4=3∨k4=4)(qu:k4≠kM)(h:redJ kM k4 R C acc ⟨vs,lv,N⟩)(hN:N≤N')(hv:∀j ds,j≠kM→j<6→vs.lookup j=some ds→pz.lookup j=some ds):redJ kM k4 R C acc ⟨pz,lv,N'⟩:=by
 obtain⟨h0,h1,h2,d,h3,h5⟩:=h
 refine⟨cw h0 hN,hv _ _ (by omega) (by omega) h1,hv _ _ (by omega) (by omega) h2,d,hv _ _ qu (by omega) h3,?_⟩
 rcases h5 with h5|⟨tk,a,b,c⟩
 ·exact .inl h5
 ·exact .inr ⟨tk,bU a hN,b,c⟩
theorem jt {R C:Nat}:∀{n k r:Nat} {V:List Nu} {acc:List Pv} {W:List Nu} {l:List Pv},V.length=R*C→ms R C n k r V acc=some (W,l)→W.length=R*C
 |0,_,_,_,_,_,_,hV,h=>by
  unfold ms at h
  injection h with h
  injection h with h1 h2
  rw[←h1];exact hV
 |n+1,k,r,V,acc,W,l,hV,h=>by
  unfold ms at h
  split at h
  ·split at h
   ·exact jt hV h
   ·split at h
    ·exact jt (by rw[AJ];exact hV) h
    ·cases h
  ·injection h with h
   injection h with h1 h2
   rw[←h1];exact hV
section
variable {R C kM k4:Nat} {V:List Nu} {x:Cx} {vs:List (Nat×List D)}
theorem BL(hM:kM=3∨kM=4)(h4:k4=3∨k4=4)(qu:k4≠kM)(hN:x.N=(f63).ntmps)(h0:x.hp0=⟨[],[],0⟩)(uc:x.df=[])(hB:x.B≤x.w0.heap.size)(hok:fV ⟨vs,[],5⟩)
  (hV:V.length=R*C) (CE:R*C≤1000000) (hR:R≤1000000) (hC:C≤1000000)
  (FN:vs.lookup 1=some [dI .i64 0,dI .i64 0,dN,dN]) (Cj:vs.lookup 2=some [dI .i64 0]) (hl4:vs.lookup k4=some (mV kM R C++[dN])) (hlM:0<R→0<C→vs.lookup kM=some (dC ((cW a9).f V)))
  (zO:∀k ds,vs.lookup k=some ds→ds.all D.noO=true):
  AV prog none x restC [(2,.pt 1 0),(3,.pt 2 0),(4,.pt k4 0)] ⟨vs,[],5⟩ (OX x fun _ tm bQ=>∃d,yU tbl [.cell 2 97,.cell 3 26] tm bQ d∧AR bQ d (.tu (redE R C (ms R C C 0 0 V [])))):=by
 have hkM6:kM<5:=by omega
 have hk46:k4<5:=by omega
 refine AV.seq ?_
 refine vrs hN fun K hK=>?_
 refine sa ?_
 refine p1 red_m rfl ?_
 refine q1s (d:=.fn 137 [5]) (hp':=⟨(5,mV kM R C)::vs,[],6⟩) (N5 rfl (h_steps (kM:=kM) (R:=R) (C:=C) hkM6) rfl) ?_
 refine nl hK ?_
 refine AV.block ?_
 have hl5:∀j ds,vs.lookup j=some ds→((5,mV kM R C)::vs).lookup j=some ds:=fun j ds h=>al (hok.ne h (aD _)) h
 refine AV.range (f:=137) (ks:=[5]) rfl ⟨_,func137,rfl,rfl⟩ hB
  (Qe (kM:=kM) (k0:=5) (k4:=k4) (E:=6) (R:=R) (C:=C) (V0:=V) (J:=redJ kM k4 R C) (S:=redS) (by omega) (by omega) (by omega) qu (by omega) (by omega) hV CE hR hC (fun h1 h2=>hl5 _ _ (hlM h1 h2)) ak (fun k ds h=>?_) (by rw[hN];exact b7 rfl) ?_ ?_ ?_) ?_ ?_
 ·rcases ew h with⟨rfl,rfl⟩|⟨_,h⟩
  ·unfold mV iP;split <;> rfl
  ·exact zO k ds h
 ·exact⟨aD _,hl5 _ _ FN,hl5 _ _ Cj,dN,hl5 _ _ hl4,.inl ⟨rfl,rfl⟩⟩
 ·exact fun acc vs pz lv N N' h hN _ hv=>redJ_up hM h4 qu h hN hv
 ·rintro V' acc pv ⟨v1',lv,N⟩ Kz Cp hV' hokp Qq ⟨hN6,QZ,Io,d,hj4,hpo⟩ l y hy _ hy0
  dsimp only at hN6 QZ Io hj4 Qq
  have hk4N:k4<N:=by omega
  have hmD:iP kM (R*C)=.ow kM 0 36 (R*C):=aA (Nat.ne_of_gt (tL Kz (by omega)))
  refine vrr (hy.trans hN) (fun K hK=>?_)
  refine a1 im (hz:=rfl) ?_
  refine v1 (k:=N) (ys:=pvD pv) (F2:=pvD pv) Pt.all (by exact rfl) (by exact Cy pv) rfl ?_ rfl ak rfl (ht:=im)
  have hokN:fV ⟨(N,pvD pv)::v1',lv,N+1⟩:=(hokp.up (M:=N+1) (gN _)).consM (cp _) (by unfold pvD;rw[vn,vn,qF];rfl)
  refine .nil (hK _ _ fun a w hr=>⟨rfl,[(2,.pt 1 0),(3,.pt 2 0),(4,.pt k4 0),(5,.pt N 0)],⟨(N,pvD pv)::v1',lv,N+1⟩,RS.wk hr (wk1 hy0 (hok:=hokN) (hv:=fun j ds h=>by
   rcases ew h with⟨rfl,rfl⟩|⟨hj,h⟩
   ·exact ak
   ·exact al hj (al hj h))),fun y2 Dk _ h0y=>?_⟩)
  have Dk:=Dk.trans hN
  refine AV.block ?_
  refine AV.seq ?_
  refine vrrs Dk fun K hK=>?_
  iterate 2 refine sa ?_
  refine c1 red_D ?_ (hv:=al (by omega) hj4)
  have hgd:=HC.frz (hp:=⟨(N,pvD pv)::v1',lv,N+1⟩) (ds:=[iP kM (R*C)]) (w_mgood (l:=V') (by rw[hV'];exact CE)) ⟨by rw[hmD];exact AR.list (al (by omega) Qq) hV',trivial⟩ rfl
  refine q1s (N5 rfl hgd rfl) ?_
  refine sa ?_
  refine nl hK ?_
  refine AV.cond rfl (fun hb=>?_) (fun hb=>?_)
  ·have hbad:V'.all ck=false:=by simpa using hb
   refine vrrs Dk fun K hK=>?_
   refine s1 (d:=.ag [dI .i64 0,dI .i64 0,dN,dN]) (aR (ps:=[]) kq) ?_
   refine v1 (k:=1) (F:=[dI .i64 0,dI .i64 0,dN,dN]) (ys:=[dI .i64 0,dI .i64 0,dN,dN]) Pt.all (by exact rfl) (by exact rfl) rfl ?_ rfl (al (by omega) QZ) rfl (ht:=kq)
   refine v1 (k:=2) (F:=[dI .i64 0]) (ys:=[dI .i64 30]) (Pt.one _) rfl rfl rfl ?_ rfl (al (by omega) (al (by omega) Io)) rfl
   refine .nil (hK _ _ (AV.ret fun a w hr=>⟨_,_,hr,hbad,by show 6≤N+1;omega,al (by omega) ak,ak⟩))
  ·have hgood:V'.all ck=true:=by simpa using hb
   have key:∃v6 EN N2 tk,(∀tm,Wk y2 tm ⟨(N,pvD pv)::v1',lv,N+1⟩ tm ⟨v6,EN,N2⟩)∧fV ⟨v6,EN,N2⟩∧N+1≤N2∧tk<N2∧v6.lookup k4=some (mV kM R C++[dO tk yI acc])∧EN.lookup tk=some (acc.length,38,102)∧∀j ds,j≠k4→((N,pvD pv)::v1').lookup j=some ds→v6.lookup j=some ds:=by
    rcases hpo with⟨rfl,rfl⟩|⟨tk,O1,rfl,QV⟩
    ·refine⟨_,_,_,N+1,fun tm=>Wk.nilOwn k4 3 102 38 (hk:=al (by omega) hj4) (hj:=rfl) (hd:=rfl),?_,gN _,cp _,ak,ak,fun j ds hj h=>al hj h⟩
     have h1:=hokN.up (M:=N+1+1) (gN _)
     refine⟨fun j es hj=>?_,fun id e hi=>?_⟩
     ·rcases ew hj with⟨e1,rfl⟩|⟨_,hj⟩
      ·refine⟨by rw[e1];show k4<N+1+1;omega,?_⟩
       unfold mV iP
       split <;> simp[D.idsC,dI] <;> omega
      ·exact h1.var j es hj
     ·by_cases e1:id=N+1
      ·rw[e1];show N+1<N+1+1;omega
      ·exact h1.tok id e (by rw[←hi];exact (ay e1).symm)
    ·exact⟨_,_,_,tk,fun tm=>Wk.refl _ _ _,hokN,aD _,pZ O1,al (by omega) hj4,QV,fun j ds hj h=>h⟩
   obtain⟨v6,EN,N2,tk,hw,Bb,hN2,O1,hd4,QV,hkp⟩:=key
   refine AV.skip fun a w hr=>?_
   show Code.wpIn (FWd (some l)) 0 prog _ _ a w
   refine (AV.weak (hw _) ?_:AV prog (some l) y2 _ _ ⟨(N,pvD pv)::v1',lv,N+1⟩ _) a w hr
   refine vrr Dk (fun K hK=>?_)
   refine sa ?_
   refine c1 red_l ?_ (hv:=hd4)
   refine p1 (Pt.all (F:=pvD pv)) (Cy pv) ?_ (hv:=hkp _ _ (by omega) ak)
   rw[pvD_c]
   refine s1 (d:=dO N2 yI [pv]) (hp':=⟨v6,(N2,1,38,102)::EN,N2+1⟩) (s8 ([pv]:List Pv) yI tq im) ?_
   have hal:(acc++[pv]).length≤1000000:=by rw[eI];show acc.length+1≤1000000;omega
   refine s1 (d:=dO tk yI (acc++[pv])) (hp':=⟨v6,(tk,(acc++[pv]).length,38,102)::(N2,1,38,102)::EN,N2+1⟩) (eD (l:=acc) (l':=[pv]) (c:=yI) (id:=tk) tq im (cw (bJ _ hal) (by decide)) (hl:=(ay (by omega)).trans QV)) ?_
   refine sa ?_
   refine v1 (k:=k4) (F:=mV kM R C++[dO tk yI acc]) (ys:=[dO tk yI (acc++[pv])]) (F2:=mV kM R C++[dO tk yI (acc++[pv])]) red_l rfl rfl rfl ?_ rfl hd4 rfl
   refine .nil (hK _ _ fun a w hr=>⟨_,_,hr,hgood,⟨?_,?_,?_⟩,?_⟩)
   ·have h1:=(Bb.up (M:=N2+1) (gN _)).consM (k:=k4) (ds:=mV kM R C++[dO tk yI (acc++[pv])]) (by omega) (by unfold mV iP;split <;> simp[D.idsC,dI,dO] <;> omega)
    refine⟨fun j es hj=>h1.var j es hj,fun id e hi=>?_⟩
    by_cases e1:id=tk
    ·rw[e1];show tk<N2+1;omega
    ·by_cases e2:id=N2
     ·rw[e2];show N2<N2+1;omega
     ·exact h1.tok id e (by rw[←hi];exact ((ay e1).trans (ay e2)).symm)
   ·show N≤N2+1;omega
   ·intro j ds hj h
    have hj4':j≠k4:=by simpa using hj
    exact al hj4' (hkp j ds hj4' (al (hokp.ne h (aD _)) h))
   ·refine⟨by show 6≤N2+1;omega,al (by omega) (hkp _ _ (by omega) (al (by omega) QZ)),al (by omega) (hkp _ _ (by omega) (al (by omega) Io)),_,ak,.inr ⟨tk,by show tk<N2+1;omega,rfl,ak⟩⟩
 ·rintro x' Db ⟨v1',lv,N⟩ a w hbh hrs ⟨V',acc,ku,hok',hM',hN6,QZ,Io,d,hj4,hpo⟩
  dsimp only at hN6 QZ Io hj4 hM'
  have hlen:V'.length=R*C:=jt hV ku
  show Code.wpIn (FWd none) 0 prog _ _ a w
  refine (vrs (x:=x') (hbh.N.trans hN) fun K hK=>?_) a w hrs
  refine p1 (Pt.all (F:=mV kM R C++[d])) (by exact rfl) ?_ (hv:=hj4) (ht:=kq)
  refine v1 (k:=1) (F:=[dI .i64 0,dI .i64 0,dN,dN]) (ys:=mV kM R C++[d]) Pt.all (by exact rfl) (by exact rfl) rfl ?_ rfl QZ rfl (ht:=kq)
  refine v1 (k:=2) (F:=[dI .i64 0]) (ys:=[dI .i64 0]) (Pt.one _) rfl rfl rfl ?_ rfl (al (by omega) Io) rfl
  refine .nil (hK _ _ (AV.ret fun a w hr=>⟨.inr rfl,x',Db,_,_,_,_,hbh,hr,_,resV kq rfl (al (by omega) ak) (by show 1<N;omega) rfl rfl (PB rfl wq rfl ak (by show 2<N;omega) rfl rfl),?_⟩))
  rw[ku]
  refine AR.tu ⟨AR.ag ⟨AR.dn rfl,AR.dn rfl,?_,?_,trivial⟩,AR.dn rfl,trivial⟩
  ·show AR _ (iP kM (R*C)) (.e (slE a9 V'))
   unfold iP
   by_cases h0:R*C=0
   ·rw[ar h0]
    have:V'=[]:=kY (by omega)
    subst this
    exact AR.dn rfl
   ·rw[aA h0]
    have hRp:0<R:=vp fun e=>h0 (by rw[e,fP])
    have hCp:0<C:=vp fun e=>h0 (by rw[e,HV])
    exact AR.list (al (by omega) (al (by omega) (hM' hRp hCp))) hlen
  ·rcases hpo with⟨rfl,rfl⟩|⟨tk,_,rfl,_⟩
   ·exact AR.le (KW (ltb rfl)) rfl
   ·exact AR.own
 ·rintro x' Db ⟨v1',lv,N⟩ a w hbh hrs ⟨ku,hN6,QZ,Io⟩
  dsimp only at hN6 QZ Io
  show OX x (fun _ tm bQ=>∃d,yU tbl [.cell 2 97,.cell 3 26] tm bQ d∧AR bQ d (.tu (redE R C (ms R C C 0 0 V [])))) .ret a w
  refine⟨.inr rfl,x',Db,_,_,_,_,hbh,hrs,_,resV kq rfl QZ (by show 1<N;omega) rfl rfl (PB rfl wq rfl Io (by show 2<N;omega) rfl rfl),?_⟩
  rw[ku]
  exact AR.tu ⟨AR.ag ⟨AR.dn rfl,AR.dn rfl,AR.le (KW (ltb rfl)) rfl,AR.le (KW (ltb rfl)) rfl,trivial⟩,AR.dn rfl,trivial⟩
end
end
section
theorem Wk.tms {x:Cx}{tm tm':List (Nat×D)}{hp:Hp}(hs:∀p∈tm',tm.lookup p.1=some p.2):Wk x tm hp tm' hp:=by
 rintro a w ⟨g,hh,i4,h1⟩
 exact⟨g,hh,fun t d h=>i4 t d (hs _ (yA h)),h1⟩
def DN(V:List Nu)(N:Nat)(vs:List (Nat×List D)):List (Nat×List D):=if V.length=0 then vs else (N,dC ((cW a9).f V))::vs
section
variable {md:Md} {ops:Array Oper} {K:List (Nat×D)→Hp→Prop} {os:List Oper} {tm:List (Nat×D)} {hp hp':Hp} {t s:Tmp} {ty:TypeId} {pos:String} {af:Array Edge} {vs:List (Nat×List D)} {lv:List (Nat×Nat×Nat×TypeId)} {N n R C:Nat} {V:List Nu}
theorem sw {j:Nat}(h:j≠N):(DN V N vs).lookup j=vs.lookup j:=by
 unfold DN
 split
 ·rfl
 ·exact ay h
theorem Ng(hok:fV ⟨vs,lv,N⟩):fV ⟨DN V N vs,lv,N+1⟩:=by
 unfold DN
 split
 ·exact hok.up (gN N)
 ·exact (hok.up (gN N)).consM (cp N) (qF _)
theorem Nh(zO:∀k ds,vs.lookup k=some ds→ds.all D.noO=true):∀k ds,(DN V N vs).lookup k=some ds→ds.all D.noO=true:=by
 intro k ds h
 unfold DN at h
 split at h
 ·exact zO k ds h
 ·rcases ew h with⟨rfl,rfl⟩|⟨_,h⟩
  ·rw[cb]
   intro d hd
   obtain⟨e,_,rfl⟩:=mw.1 hd
   rfl
  ·exact zO k ds h
theorem PA {x:Operand}{ts:Array TypeId}(hl:V.length≤1000000)(hn:V.length=n)(h2:ba prog tbl md ops K os ((t,iP N n)::tm) ⟨DN V N vs,lv,N+1⟩)(hx:evD tm x=.e (slE a9 V):=by exact rfl)(pl:md.nc tbl (.call ⟨.value (.func 97),[x].toArray,ts⟩)=true:=by exact rfl):
  ba prog tbl md ops K (⟨some t,.call ⟨.value (.func 97),[x].toArray,ts⟩,ty,pos,af,none⟩::os) tm ⟨vs,lv,N⟩:=by
 subst hn
 refine GE rfl (sHC (Ri (vs:=vs) (lv:=lv) (N:=N) hl) (by show [evD tm x]=_;rw[hx]) (.inr ⟨gN _,fun j hj=>?_⟩) rfl pl) h2
 exact sw (V:=V) (Nat.ne_of_lt hj)
end
section
variable {R C:Nat} {V:List Nu}
theorem Pd(hV:V.length=R*C)(CE:R*C≤1000000)(hR:R≤1000000)(hC:C≤1000000):ax prog 63 [.ag [dI .i64 R,dI .i64 C,.e (slE a9 V)]] (.tu (redE R C (ms R C C 0 0 V []))):=by
 refine ax.ofMA tok func63 rfl rfl (b7 rfl) rfl (fun x hN h0 uc hB=>?_)
 simp only[fj,Nat.reduceAdd,bB]
 obtain⟨V0,Hi⟩:∃V0:List (Nat×List D),V0=[(2,[dI .i64 0]),(1,[dI .i64 0,dI .i64 0,dN,dN]),(0,[dI .i64 R,dI .i64 C,.e (slE a9 V)])]:=⟨_,rfl⟩
 refine vrs hN fun K hK=>?_
 refine s1 (d:=.pt 0 0) (hp':=⟨[(0,[dI .i64 R,dI .i64 C,.e (slE a9 V)])],[],1⟩) fC ?_
 refine a1 kq (hz:=rfl) ?_
 refine a1 wq (hz:=rfl) ?_
 refine nl hK ?_
 have hok0:fV ⟨V0,[],3⟩:=by
  rw[Hi]
  exact (((fV.nil.up (M:=3) (bY _)).consM (by decide) rfl).consM (by decide) rfl).consM (by decide) rfl
 have hno0:∀k ds,V0.lookup k=some ds→ds.all D.noO=true:=by
  intro k ds h
  rw[Hi] at h
  rcases ew h with⟨_,rfl⟩|⟨_,h⟩
  ·rfl
  ·rcases ew h with⟨_,rfl⟩|⟨_,h⟩
   ·rfl
   ·rcases ew h with⟨_,rfl⟩|⟨_,h⟩
    ·rfl
    ·cases h
 have l1:V0.lookup 1=some [dI .i64 0,dI .i64 0,dN,dN]:=by rw[Hi];rfl
 have l2:V0.lookup 2=some [dI .i64 0]:=by rw[Hi];rfl
 have l0:V0.lookup 0=some [dI .i64 R,dI .i64 C,.e (slE a9 V)]:=by rw[Hi];rfl
 have hVl:V.length≤1000000:=by omega
 have Jc:∀{kM M:Nat},kM<M→(mV kM R C++[dN]).all (D.idsC M)=true:=fun {kM M} h=>by
  unfold mV iP;split <;> simp[D.idsC,dI] <;> omega
 have MI:∀{kM:Nat},(mV kM R C++[dN]).all D.noO=true:=fun {kM}=>by
  unfold mV iP;split <;> rfl
 have hMl:∀N,0<R→0<C→(DN V N V0).lookup N=some (dC ((cW a9).f V)):=fun N h1 h2=>by
  have:0<R*C:=tL h1 h2
  unfold DN
  rw[ifn_]
  exact ak
 have hcM:∀k,(iP k (R*C)).cells=some [iP k (R*C)]:=fun k=>by unfold iP;split <;> rfl
 have hpt:∀k,lM [(0,dI .i64 R),(1,dI .i64 C),(2,iP k (R*C))]=some [(0,[dI .i64 R]),(1,[dI .i64 C]),(2,[iP k (R*C)])]:=fun k=>by
  simp only[lM,hcM]
  rfl
 show AV prog none x _ [(3,.pt 2 0),(2,.pt 1 0),(1,.pt 0 0),(0,.ag [dI .i64 R,dI .i64 C,.e (slE a9 V)])] ⟨[(2,[dI .i64 0]),(1,[dI .i64 0,dI .i64 0,dN,dN]),(0,[dI .i64 R,dI .i64 C,.e (slE a9 V)])],[],3⟩ _
 rw[←Hi]
 refine AV.seqA (dw (DW.split 6 9 (by decide) ?_ ?_))
 ·refine dwg [] [0,1,2,3,4,5,6,7,8,9,10] hN (by kernel_rfl) (by kernel_rfl) (by kernel_rfl) fun K hK=>?_
  dsimp only[dt,lf,li,List.map]
  refine sa ?_
  refine c1 P4 ?_ (hv:=l0)
  refine sa ?_
  refine c1 P6 ?_ (hv:=l0)
  refine sa ?_
  refine c1 P5 ?_ (hv:=l0)
  refine PA hVl hV ?_
  refine s1 (d:=.ag [dI .i64 R,dI .i64 C,iP 3 (R*C)]) (aR (qs:=[(0,[dI .i64 R]),(1,[dI .i64 C]),(2,[iP 3 (R*C)])]) aq (hp1:=hpt 3)) ?_
  refine s1 (d:=.ag [dI .i64 R,dI .i64 C,iP 3 (R*C),dN]) (aR kq) ?_
  refine a1 kq (hz:=rfl) ?_
  refine v1 (k:=4) (F:=[dI .i64 0,dI .i64 0,dN,dN]) (ys:=mV 3 R C++[dN]) Pt.all (by exact rfl) (by exact rfl) rfl ?_ rfl ak rfl (ht:=kq)
  refine nl hK ?_
  have h1:=(Ng (V:=V) hok0).up (M:=5) (by decide)
  refine AV.weak (Wk.tms ?_) (BL (kM:=3) (k4:=4) (.inl rfl) (.inr rfl) (by decide) hN h0 uc hB ((h1.consM (k:=4) (ds:=[dI .i64 0,dI .i64 0,dN,dN]) (by decide) rfl).consM (k:=4) (by decide) (Jc (by decide))) hV CE hR hC (al (by decide) (al (by decide) ((sw (by decide)).trans l1))) (al (by decide) (al (by decide) ((sw (by decide)).trans l2))) ak (fun a b=>al (by decide) (al (by decide) (hMl 3 a b))) (fun k ds h=>?_))
  ·intro p hp
   simp only[je,Bp,or_false] at hp
   rcases hp with rfl|rfl|rfl <;> rfl
  ·rcases ew h with⟨_,rfl⟩|⟨_,h⟩
   ·exact MI
   ·rcases ew h with⟨_,rfl⟩|⟨_,h⟩
    ·rfl
    ·exact Nh hno0 k ds h
 ·refine dwg [] [0,1,2,3,4,5,9,6,7,8,10] hN (by kernel_rfl) (by kernel_rfl) (by kernel_rfl) fun K hK=>?_
  dsimp only[dt,lf,li,List.map]
  refine sa ?_
  refine c1 P4 ?_ (hv:=l0)
  refine sa ?_
  refine c1 P6 ?_ (hv:=l0)
  refine sa ?_
  refine c1 P5 ?_ (hv:=l0)
  refine a1 kq (hz:=rfl) ?_
  refine PA hVl hV ?_
  refine s1 (d:=.ag [dI .i64 R,dI .i64 C,iP 4 (R*C)]) (aR (qs:=[(0,[dI .i64 R]),(1,[dI .i64 C]),(2,[iP 4 (R*C)])]) aq (hp1:=hpt 4)) ?_
  refine s1 (d:=.ag [dI .i64 R,dI .i64 C,iP 4 (R*C),dN]) (aR kq) ?_
  have l3:(DN V 4 ((3,[dI .i64 0,dI .i64 0,dN,dN])::V0)).lookup 3=some [dI .i64 0,dI .i64 0,dN,dN]:=(sw (by decide)).trans ak
  refine v1 (k:=3) (F:=[dI .i64 0,dI .i64 0,dN,dN]) (ys:=mV 4 R C++[dN]) Pt.all (by exact rfl) (by exact rfl) rfl ?_ rfl l3 rfl (ht:=kq)
  refine nl hK ?_
  have h1:=Ng (V:=V) ((hok0.up (M:=4) (by decide)).consM (k:=3) (ds:=[dI .i64 0,dI .i64 0,dN,dN]) (by decide) rfl)
  refine AV.weak (Wk.tms ?_) (BL (kM:=4) (k4:=3) (.inr rfl) (.inl rfl) (by decide) hN h0 uc hB (h1.consM (k:=3) (by decide) (Jc (by decide))) hV CE hR hC (al (by decide) ((sw (by decide)).trans (al (by decide) l1))) (al (by decide) ((sw (by decide)).trans (al (by decide) l2))) ak (fun a b=>al (by decide) ?_) (fun k ds h=>?_))
  ·intro p hp
   simp only[je,Bp,or_false] at hp
   rcases hp with rfl|rfl|rfl <;> rfl
  ·have:0<R*C:=tL a b
   unfold DN
   rw[ifn_]
   exact ak
  ·rcases ew h with⟨_,rfl⟩|⟨_,h⟩
   ·exact MI
   ·refine Nh (fun k ds h=>?_) k ds h
    rcases ew h with⟨_,rfl⟩|⟨_,h⟩
    ·rfl
    ·exact hno0 k ds h
end
end
end
end Go.Proofs.YtgfcnncojhkcoaaGreat
