/-
Lemmas. Conditions: none.
-/
import Derived.Test.YtaedcknhkjpmlaaGreatL2
set_option linter.all false
set_option maxRecDepth 100000
set_option maxHeartbeats 4000000
namespace Go.Proofs.YtaedcknhkjpmlaaGreat
open Go.RowKit Go.IntKind Tryz
noncomputable section
def jf(aG:ap)(aP:ap)(x8:Int)(a9:Int):Int×Int×(Vector Int 32)→Option ((Int×Int×(Vector Int 32))⊕(Int×(Vector Int 32))):=fun (HS,qT,De)=>cnd (decide (qT<x8)) (gd (0≤a9∧a9<16) (gd (0≤qT∧qT<16) (gd (0≤i64.wrap (a9+qT)∧i64.wrap (a9+qT)<32) (bnd (some (u64.wrap (HS+(u64.wrap ((u64.wrap ((u64.wrap ((aG.vW)[(a9).toNat]!))*(u64.wrap ((aP.vW)[(qT).toNat]!))))+(u64.wrap ((De)[(i64.wrap (a9+qT)).toNat]!))))))) fun sZ=>gd (0≤i64.wrap (a9+qT)∧i64.wrap (a9+qT)<32) (bnd (some ((De).set! (i64.wrap (a9+qT)).toNat (u32.wrap (sZ)))) fun Di=>some (.inl (mA .u64 sZ (32:Int),i64.wrap (qT+(1:Int)),Di))))))) (some (.inr (HS,De)))
def jg(aG:ap)(aP:ap)(x6:Int)(x8:Int):Int×(Vector Int 32)→Option ((Int×(Vector Int 32))⊕((Vector Int 32))):=fun (a9,mM)=>cnd (decide (a9<x6)) (bnd (bt (jf aG aP x8 a9) ((0:Int),(0:Int),mM)) fun (yi,yh)=>gd (0≤i64.wrap (a9+x8)∧i64.wrap (a9+x8)<32) (bnd (some ((yh).set! (i64.wrap (a9+x8)).toNat (u32.wrap (yi)))) fun Bq=>some (.inl (i64.wrap (a9+(1:Int)),Bq)))) (some (.inr mM))
def jC(aG:ap)(aP:ap):Option ap:=bnd (cE [aG,aP]) fun x1=>cnd (!x1) (bnd (eo) fun x4=>some x4) (bnd (eV aG.vW) fun x6=>bnd (eV aP.vW) fun x8=>bnd (bt (jg aG aP x6 x8) ((0:Int),(Vector.replicate 32 (0:Int)))) fun eY=>cnd (decide (¬(vOf 16 (List.take 16 (List.drop 16 (eY).toList))=#v[(0:Int),0,0,0,0,0,0,0,0,0,0,0,0,0,0,0]))) (bnd (eo) fun H5=>some H5) (bnd (bJ (!(aG.vNeg == aP.vNeg)) (vOf 16 (List.take 16 (List.drop 0 (eY).toList)))) fun Mi=>some Mi))
theorem mp {aG:ap}{aP:ap}{r:ap}(h:jC aG aP=some r):ar prog 94 [dG aq aG,dG aq aP] (dG aq r):=by
 refine bk (rs:=[.cell 4 41]) (fun cx hx h0=>?_) func94
 unfold jC at h
 refine rai hx ?_
 refine AW.seq (rs hx fun K hK=>?_)
 iterate 2 refine sbi ?_
 refine s1 (kP ([aG,aP]:List ap) aq qZ fy) ?_
 refine scb h fx fun x1 h=>?_
 refine nbi hK ?_
 refine cdh h rfl (fun fI h=>?_) (fun fI h=>?_)
 refine rs hx fun K hK=>?_
 refine scb h gE fun x4 h=>?_
 refine nbi hK ?_
 exact AW.ret (rtv h)
 refine AW.skip (rs hx fun K hK=>?_)
 refine s1 (zf (F:=(cA 32 (cI .u32)).f (Vector.replicate 32 (0:Int))) Ig) ?_
 refine nl hK ?_
 refine rsd [148] hx fun K hK=>?_
 refine mbi ?_
 refine cqb h kZ fun x6 h=>?_
 refine mbi ?_
 refine cqb h kZ fun x8 h=>?_
 refine nbi hK ?_
 refine AW.seq (ra hx ?_)
 refine AW.block ?_
 obtain⟨eY,hy,h⟩:=ae h
 refine lp (S:=Int×(Vector Int 32)) (X:=(Vector Int 32)) (fun (a9,mM)=>[(2,.pt 0 0),(3,.pt 1 0),(4,.pt 2 0),(5,.pt 3 0),(7,dI .i64 x8),(23,dI .i64 x6),(24,dI .i64 a9)]) (fun (a9,mM)=>⟨[(0,dC (aq.f aG)),(1,dC (aq.f aP)),(2,dC (aq.f ct)),(3,dC ((cA 32 (cI .u32)).f mM))],[],4⟩) (PE cx (.exit 0) (fun eY=>[(2,.pt 0 0),(3,.pt 1 0),(4,.pt 2 0),(5,.pt 3 0)]) fun eY=>⟨[(0,dC (aq.f aG)),(1,dC (aq.f aP)),(2,dC (aq.f ct)),(3,dC ((cA 32 (cI .u32)).f eY))],[],4⟩) hy ?_ ?_ ?_
 exact wk0 h0 [0,1,2,4]
 clear hy h
 rintro⟨a9,mM⟩ y h
 dsimp only[jg] at h
 refine ra hx ?_
 refine AW.seq (cdh h rfl (fun n0 h=>?_) (fun n0 h=>?_))
 refine AW.skip (AW.seq (AW.block ?_))
 iterate 2 refine ra hx ?_
 refine AW.seq (ra hx ?_)
 refine AW.block ?_
 obtain⟨y,hy,h⟩:=ae h
 refine lp (S:=Int×Int×(Vector Int 32)) (X:=Int×(Vector Int 32)) (fun (HS,qT,De)=>[(2,.pt 0 0),(3,.pt 1 0),(4,.pt 2 0),(5,.pt 3 0),(7,dI .i64 x8),(8,dI .i64 a9),(9,dI .u64 HS),(23,dI .i64 x6),(24,dI .i64 a9),(27,dI .i64 x8),(28,dI .i64 qT)]) (fun (HS,qT,De)=>⟨[(0,dC (aq.f aG)),(1,dC (aq.f aP)),(2,dC (aq.f ct)),(3,dC ((cA 32 (cI .u32)).f De))],[],4⟩) (PE cx (.exit 2) (fun (yi,yh)=>[(2,.pt 0 0),(3,.pt 1 0),(4,.pt 2 0),(5,.pt 3 0),(7,dI .i64 x8),(8,dI .i64 a9),(9,dI .u64 yi),(23,dI .i64 x6),(24,dI .i64 a9)]) fun (yi,yh)=>⟨[(0,dC (aq.f aG)),(1,dC (aq.f aP)),(2,dC (aq.f ct)),(3,dC ((cA 32 (cI .u32)).f yh))],[],4⟩) hy ?_ ?_ ?_
 exact wk0 h0 [0,1,2,3]
 clear hy h
 rintro⟨HS,qT,De⟩ y h
 dsimp only[jf] at h
 refine ra hx ?_
 refine AW.seq (cdh h rfl (fun ux h=>?_) (fun ux h=>?_))
 refine AW.skip (AW.seq (AW.block (ra hx ?_)))
 refine rsd [] hx fun K hK=>?_
 iterate 3 refine sa ?_
 obtain⟨hc12,h⟩:=aA h
 iterate 5 refine sbi ?_
 obtain⟨hc14,h⟩:=aA h
 iterate 7 refine sbi ?_
 obtain⟨QP,h⟩:=aA h
 iterate 5 refine sbi ?_
 obtain⟨sZ,EE,h⟩:=ae h
 replace EE:=bD EE
 refine s2 (d2:=dI .u64 sZ) lP (gG (congrArg (dI .u64) EE)) ?_
 refine nl hK ?_
 refine rs hx fun K hK=>?_
 iterate 5 refine sa ?_
 obtain⟨hc20,h⟩:=aA h
 have hn21:(i64.wrap (a9+qT)).toNat<32:=by omega
 refine sbi ?_
 obtain⟨Di,MY,h⟩:=ae h
 replace MY:=bD MY
 refine s0 (oa (b':=u32.wrap (sZ)) (b9.comp (b9.id _ _) (b9.vec (cI .u32) De (i64.wrap (a9+qT)).toNat hn21) (fun _=>rfl)) bX MY) ?_
 refine nl hK ?_
 iterate 2 refine rb hx ?_
 exact pel h h0 [0,1,2,3]
 exact AW.exit (per h h0 [0,1,2,3])
 obtain⟨yi,yh⟩:=y
 refine lw0 ?_
 refine rq hx fun K hK=>?_
 iterate 5 refine sa ?_
 obtain⟨hc25,h⟩:=aA h
 have hn26:(i64.wrap (a9+x8)).toNat<32:=by omega
 refine sbi ?_
 obtain⟨Bq,IL,h⟩:=ae h
 replace IL:=bD IL
 refine s0 (oa (b':=u32.wrap (yi)) (b9.comp (b9.id _ _) (b9.vec (cI .u32) yh (i64.wrap (a9+x8)).toNat hn26) (fun _=>rfl)) bX IL) ?_
 refine nl hK ?_
 refine rb hx ?_
 exact pel h h0 [0,1,2,3]
 exact AW.exit (per h h0 [0,1,2,3])
 refine lw0 ?_
 refine AW.seq (rs hx fun K hK=>?_)
 refine q1 (slA (n:=32) (l:=(16:Int)) (h:=(32:Int)) tok (by decide) Ig bX ⟨_,rfl⟩ rfl) ?_
 refine q1 (sPtr tok rfl c5) ?_
 refine s1 (d:=dG al_cV (vOf 16 (List.take 16 (List.drop 16 (eY).toList)))) (Bm (b9.sub (o:=16) 16 (cI .u32) eY 16 (by decide) (by first|rfl|decide)) c5) ?_
 refine s1 (d:=dG al_cV (#v[(0:Int),0,0,0,0,0,0,0,0,0,0,0,0,0,0,0])) (mN c5 bX) ?_
 refine s1 (xK tok 2 (by decide) (EqC.arr (EqC.int (d:=0) bX) c5 bX) c5) ?_
 refine nl hK ?_
 refine cdh h rfl (fun TP h=>?_) (fun TP h=>?_)
 refine rs hx fun K hK=>?_
 refine scb h gE fun H5 h=>?_
 refine nbi hK ?_
 exact AW.ret (rtv h)
 refine AW.skip (rsd [145] hx fun K hK=>?_)
 iterate 5 refine sbi ?_
 refine q1 (slA (n:=32) (l:=(0:Int)) (h:=(16:Int)) tok (by decide) Ig bX rfl ⟨_,rfl⟩) ?_
 refine q1 (sPtr tok rfl c5) ?_
 refine s1 (d:=dG al_cV (vOf 16 (List.take 16 (List.drop 0 (eY).toList)))) (Bm (b9.sub (o:=0) 16 (cI .u32) eY 0 (by decide) (by first|rfl|decide)) c5) ?_
 obtain⟨Mi,QC,h⟩:=ae h
 refine sq tok (dE QC) (by simp only[iX,l6,gh,io,eQ,bK];exact⟨rfl,cl _ _⟩) (lA (aw _) (lA (nZ _ _) lAn)) (.inl (jS _ _)) ?_
 refine nbi hK ?_
 exact AW.ret (rtv h)
def fV(aK:Int):Option Int:=bnd (mW aK) fun x1=>some (i64.wrap ((32:Int) - x1))
theorem wx {aK:Int}{r:Int}(h:fV aK=some r):ar prog 188 [dI .u32 aK] (dI .i64 r):=by
 refine bk (rs:=[.tmp 2]) (fun cx hx h0=>?_) func188
 unfold fV at h
 refine ra hx ?_
 refine rs hx fun K hK=>?_
 refine sa ?_
 refine scb h Ao fun x1 h=>?_
 refine nbi hK ?_
 exact AW.ret (rtv h)
def jW(Dl:Vector Int 16)(db:Int)(nI:Int)(pB:Vector Int 17)(x9:Int):Int×Int→Option ((Int×Int)⊕Int):=fun (dP,bW)=>bnd (S:=Bool) (cnd (decide (bW<(4294967296:Int))) (cnd (decide ((4294967296:Int)≤dP)) (some (true)) (gd (0≤i64.wrap (db - (2:Int))∧i64.wrap (db - (2:Int))<16) (gd (0≤i64.wrap ((i64.wrap (nI+db)) - (2:Int))∧i64.wrap ((i64.wrap (nI+db)) - (2:Int))<17) (some (decide ((ior .u64 (zI .u64 bW (32:Int)) (u64.wrap ((pB)[(i64.wrap ((i64.wrap (nI+db)) - (2:Int))).toNat]!)))<(u64.wrap (dP*(u64.wrap ((Dl)[(i64.wrap (db - (2:Int))).toNat]!)))))))))) (some (false))) fun eF=>cnd eF (some (.inl (u64.wrap (dP - (1:Int)),u64.wrap (bW+x9)))) (some (.inr dP))
def jd(Dl:Vector Int 16)(db:Int)(nI:Int)(pB:Vector Int 17):Option Int:=gd (0≤i64.wrap (nI+db)∧i64.wrap (nI+db)<17) (gd (0≤i64.wrap ((i64.wrap (nI+db)) - (1:Int))∧i64.wrap ((i64.wrap (nI+db)) - (1:Int))<17) (bnd (some (ior .u64 (zI .u64 (u64.wrap ((pB)[(i64.wrap (nI+db)).toNat]!)) (32:Int)) (u64.wrap ((pB)[(i64.wrap ((i64.wrap (nI+db)) - (1:Int))).toNat]!)))) fun x5=>gd (0≤i64.wrap (db - (1:Int))∧i64.wrap (db - (1:Int))<16) (bnd (some (u64.wrap ((Dl)[(i64.wrap (db - (1:Int))).toNat]!))) fun x9=>gd (x9≠0) (gd (x9≠0) (bnd (bt (jW Dl db nI pB x9) (u64.wrap (Int.tdiv x5 x9),Int.tmod x5 x9)) fun cu=>some cu)))))
theorem Dj {Dl:Vector Int 16}{db:Int}{nI:Int}{pB:Vector Int 17}{r:Int}(h:jd Dl db nI pB=some r):HC prog 190 [.pt 0 0,dG al_cV Dl,dI .i64 db,dI .i64 nI] ⟨[(0,dC ((cA 17 (cI .u32)).f pB))],[],1⟩ (dI .u64 r) ⟨[(0,dC ((cA 17 (cI .u32)).f pB))],[],1⟩:=by
 refine HC.of (rs:=[.tmp 8]) tok func190 rfl rfl (bb rfl) rfl (fun cx hx h1 hok=>?_)
 have h0:cx.hp0.next=1:=by rw[h1]
 simp only[fP,Nat.reduceAdd,bw]
 unfold jd at h
 refine ra hx ?_
 refine rsd [] hx fun K hK=>?_
 iterate 5 refine sa ?_
 obtain⟨Mn,h⟩:=aA h
 iterate 10 refine sbi ?_
 obtain⟨hc3,h⟩:=aA h
 iterate 4 refine sbi ?_
 obtain⟨x5,GK,h⟩:=ae h
 replace GK:=bD GK
 refine s2 (d2:=dI .u64 x5) lP (gG (congrArg (dI .u64) GK)) ?_
 refine nl hK ?_
 refine rs hx fun K hK=>?_
 iterate 2 refine sa ?_
 obtain⟨hc7,h⟩:=aA h
 iterate 3 refine sbi ?_
 obtain⟨x9,MZ,h⟩:=ae h
 replace MZ:=bD MZ
 refine s2 (d2:=dI .u64 x9) lP (gG (congrArg (dI .u64) MZ)) ?_
 refine nl hK ?_
 refine rsd [] hx fun K hK=>?_
 iterate 2 refine sa ?_
 obtain⟨TM,h⟩:=aA h
 refine s1 (HX TM) ?_
 iterate 2 refine sa ?_
 obtain⟨hc12,h⟩:=aA h
 refine s1 (FH hc12) ?_
 refine nbi hK ?_
 refine AW.seq (AW.block ?_)
 obtain⟨cu,hy,h⟩:=ae h
 refine lp (S:=Int×Int) (X:=Int) (fun (dP,bW)=>[(0,.pt 0 0),(2,dI .i64 db),(3,dI .i64 nI),(5,.pt 1 0),(10,dI .u64 x9),(11,dI .u64 dP),(12,dI .u64 bW)]) (fun (dP,bW)=>⟨[(0,dC ((cA 17 (cI .u32)).f pB)),(1,dC (al_cV.f Dl))],[],2⟩) (PE cx (.exit 0) (fun cu=>[(11,dI .u64 cu)]) fun cu=>⟨[(0,dC ((cA 17 (cI .u32)).f pB))],[],1⟩) hy ?_ ?_ ?_
 exact wkN h0 [1] (wR rfl (wR rfl (wR rfl (wR rfl (wR rfl (wR rfl (wR rfl wTn))))))) (vC rfl (vC rfl wVn)) wLn
 clear hy h
 rintro⟨dP,bW⟩ y h
 dsimp only[jW] at h
 iterate 2 refine AW.seq ?_
 obtain⟨eF,hy,h⟩:=ae h
 refine jn ((PE cx .normal (fun eF=>[(0,.pt 0 0),(2,dI .i64 db),(3,dI .i64 nI),(5,.pt 1 0),(10,dI .u64 x9),(11,dI .u64 dP),(12,dI .u64 bW),(70,dB eF)]) fun eF=>⟨[(0,dC ((cA 17 (cI .u32)).f pB)),(1,dC (al_cV.f Dl))],[],2⟩) eF) ?_ ?_
 replace h:=hy
 refine rqd [] hx fun K hK=>?_
 refine mbi ?_
 rcases aE h with⟨GR,h⟩|⟨GR,h⟩
 refine mbi ?_
 rcases aE h with⟨tT,h⟩|⟨tT,h⟩
 refine nbi hK ?_
 cases h
 exact PE.i (wkN h0 [1] (wR rfl (wR rfl (wR rfl (wR rfl (wR rfl (wR rfl (wR rfl (wR rfl wTn)))))))) (vC rfl (vC rfl wVn)) wLn)
 iterate 3 refine ga tT ?_
 obtain⟨hc15,h⟩:=aA h
 iterate 2 refine gbi ?_
 iterate 3 refine ga tT ?_
 refine g1 tT (Vk (b:=(32:Int)) (by decide)) ?_
 iterate 6 refine ga tT ?_
 obtain⟨hc17,h⟩:=aA h
 iterate 2 refine gbi ?_
 refine ga tT ?_
 refine g1 tT T_or ?_
 refine nbi hK ?_
 cases h
 exact PE.i (wkN h0 [1] (wR rfl (wR rfl (wR rfl (wR rfl (wR rfl (wR rfl (wR rfl (wR rfl wTn)))))))) (vC rfl (vC rfl wVn)) wLn)
 iterate 3 refine Es rfl rfl GR ?_
 iterate 20 refine SG rfl rfl ?_
 refine nbi hK ?_
 cases h
 exact PE.i (wkN h0 [1] (wR rfl (wR rfl (wR rfl (wR rfl (wR rfl (wR rfl (wR rfl (wR rfl wTn)))))))) (vC rfl (vC rfl wVn)) wLn)
 refine lw0 ?_
 refine cdh h rfl (fun TT h=>?_) (fun TT h=>?_)
 refine AW.skip (AW.block (ra hx ?_))
 refine rb hx ?_
 cases h
 exact PS.l (PE.i (wkN h0 [1] (wR rfl (wR rfl (wR rfl (wR rfl (wR rfl (wR rfl (wR rfl wTn))))))) (vC rfl (vC rfl wVn)) wLn))
 refine AW.exit ?_
 try dsimp only
 try simp only[vO,reduceIte,Nat.reduceEqDiff,reduceCtorEq]
 cases h
 exact PS.r ⟨by nofun,PE.i (wkN h0 [] (wR rfl wTn) (vC rfl wVn) wLn)⟩
 refine lw0 ?_
 refine ra hx ?_
 refine AW.ret ?_
 cases h
 exact rH1 (wkN h0 [] (wR rfl wTn) (vC rfl wVn) wLn)
def jz(Dl:Vector Int 16)(db:Int)(nI:Int)(AA:Int):Int×Int×Int×(Vector Int 17)→Option ((Int×Int×Int×(Vector Int 17))⊕(Int×Int×(Vector Int 17))):=fun (aU,bu,m8,LR)=>cnd (decide (m8<db)) (gd (0≤m8∧m8<16) (bnd (some (u64.wrap (aU+(u64.wrap (AA*(u64.wrap ((Dl)[(m8).toNat]!))))))) fun x4=>gd (0≤i64.wrap (nI+m8)∧i64.wrap (nI+m8)<17) (bnd (some (u64.wrap ((u64.wrap ((u64.wrap ((LR)[(i64.wrap (nI+m8)).toNat]!)) - (u64.wrap (u32.wrap (x4))))) - bu))) fun x8=>gd (0≤i64.wrap (nI+m8)∧i64.wrap (nI+m8)<17) (bnd (some ((LR).set! (i64.wrap (nI+m8)).toNat (u32.wrap (x8)))) fun nq=>some (.inl (mA .u64 x4 (32:Int),mA .u64 x8 (63:Int),i64.wrap (m8+(1:Int)),nq)))))) (some (.inr (aU,bu,LR)))
def ke(Dl:Vector Int 16)(db:Int)(nI:Int)(AA:Int)(pB:Vector Int 17):Option (Bool×(Vector Int 17)):=bnd (bt (jz Dl db nI AA) ((0:Int),(0:Int),(0:Int),pB)) fun (bh,kM,z7)=>gd (0≤i64.wrap (nI+db)∧i64.wrap (nI+db)<17) (bnd (some (u64.wrap ((u64.wrap ((u64.wrap ((z7)[(i64.wrap (nI+db)).toNat]!)) - bh)) - kM))) fun oN=>gd (0≤i64.wrap (nI+db)∧i64.wrap (nI+db)<17) (bnd (some ((z7).set! (i64.wrap (nI+db)).toNat (u32.wrap (oN)))) fun wJ=>some (decide ((mA .u64 oN (63:Int))=(1:Int)),wJ)))
theorem DZ {Dl:Vector Int 16}{db:Int}{nI:Int}{AA:Int}{pB:Vector Int 17}{r:Bool×(Vector Int 17)}(h:ke Dl db nI AA pB=some r):HC prog 191 [.pt 0 0,dG al_cV Dl,dI .i64 db,dI .i64 nI,dI .u64 AA] ⟨[(0,dC ((cA 17 (cI .u32)).f pB))],[],1⟩ (dB r.1) ⟨[(0,dC ((cA 17 (cI .u32)).f r.2))],[],1⟩:=by
 refine HC.of (rs:=[.tmp 10]) tok func191 rfl rfl (bb rfl) rfl (fun cx hx h1 hok=>?_)
 have h0:cx.hp0.next=1:=by rw[h1]
 simp only[fP,Nat.reduceAdd,bw]
 unfold ke at h
 iterate 2 refine ra hx ?_
 refine AW.seq (ra hx ?_)
 refine AW.block ?_
 obtain⟨y,hy,h⟩:=ae h
 refine lp (S:=Int×Int×Int×(Vector Int 17)) (X:=Int×Int×(Vector Int 17)) (fun (aU,bu,m8,LR)=>[(0,.pt 0 0),(2,dI .i64 db),(3,dI .i64 nI),(4,dI .u64 AA),(6,.pt 1 0),(11,dI .u64 aU),(12,dI .u64 bu),(16,dI .i64 db),(17,dI .i64 m8)]) (fun (aU,bu,m8,LR)=>⟨[(0,dC ((cA 17 (cI .u32)).f LR)),(1,dC (al_cV.f Dl))],[],2⟩) (PE cx (.exit 0) (fun (bh,kM,z7)=>[(0,.pt 0 0),(2,dI .i64 db),(3,dI .i64 nI),(11,dI .u64 bh),(12,dI .u64 kM)]) fun (bh,kM,z7)=>⟨[(0,dC ((cA 17 (cI .u32)).f z7))],[],1⟩) hy ?_ ?_ ?_
 exact wkN h0 [1] (wR rfl (wR rfl (wR rfl (wR rfl (wR rfl (wR rfl (wR rfl (wR rfl (wR rfl wTn))))))))) (vC rfl (vC rfl wVn)) wLn
 clear hy h
 rintro⟨aU,bu,m8,LR⟩ y h
 dsimp only[jz] at h
 refine ra hx ?_
 refine AW.seq (cdh h rfl (fun fT h=>?_) (fun fT h=>?_))
 refine AW.skip (AW.seq (AW.block (ra hx ?_)))
 refine rs hx fun K hK=>?_
 iterate 3 refine sa ?_
 obtain⟨rA,h⟩:=aA h
 iterate 5 refine sbi ?_
 obtain⟨x4,QB,h⟩:=ae h
 replace QB:=bD QB
 refine s2 (d2:=dI .u64 x4) lP (gG (congrArg (dI .u64) QB)) ?_
 refine nl hK ?_
 refine rs hx fun K hK=>?_
 iterate 5 refine sa ?_
 obtain⟨hc6,h⟩:=aA h
 iterate 9 refine sbi ?_
 obtain⟨x8,Rs,h⟩:=ae h
 replace Rs:=bD Rs
 refine s2 (d2:=dI .u64 x8) lP (gG (congrArg (dI .u64) Rs)) ?_
 refine nl hK ?_
 refine rs hx fun K hK=>?_
 iterate 7 refine sa ?_
 obtain⟨Nd,h⟩:=aA h
 have hn11:(i64.wrap (nI+m8)).toNat<17:=by omega
 refine sbi ?_
 obtain⟨nq,Cf,h⟩:=ae h
 replace Cf:=bD Cf
 refine s0 (oa (b':=u32.wrap (x8)) (b9.comp (b9.id _ _) (b9.vec (cI .u32) LR (i64.wrap (nI+m8)).toNat hn11) (fun _=>rfl)) bX Cf) ?_
 refine nl hK ?_
 refine ra hx ?_
 iterate 2 refine rb hx ?_
 cases h
 exact PS.l (PE.i (wkN h0 [1] (wR rfl (wR rfl (wR rfl (wR rfl (wR rfl (wR rfl (wR rfl (wR rfl (wR rfl wTn))))))))) (vC rfl (vC rfl wVn)) wLn))
 refine AW.exit ?_
 try dsimp only
 try simp only[vO,reduceIte,Nat.reduceEqDiff,reduceCtorEq]
 cases h
 exact PS.r ⟨by nofun,PE.i (wkN h0 [] (wR rfl (wR rfl (wR rfl (wR rfl (wR rfl wTn))))) (vC rfl wVn) wLn)⟩
 obtain⟨bh,kM,z7⟩:=y
 refine lw0 ?_
 refine rs hx fun K hK=>?_
 iterate 5 refine sa ?_
 obtain⟨hc15,h⟩:=aA h
 iterate 7 refine sbi ?_
 obtain⟨oN,wB,h⟩:=ae h
 replace wB:=bD wB
 refine s2 (d2:=dI .u64 oN) lP (gG (congrArg (dI .u64) wB)) ?_
 refine nl hK ?_
 refine rs hx fun K hK=>?_
 iterate 7 refine sa ?_
 obtain⟨hc19,h⟩:=aA h
 have hn20:(i64.wrap (nI+db)).toNat<17:=by omega
 refine sbi ?_
 obtain⟨wJ,S3,h⟩:=ae h
 replace S3:=bD S3
 refine s0 (oa (b':=u32.wrap (oN)) (b9.comp (b9.id _ _) (b9.vec (cI .u32) z7 (i64.wrap (nI+db)).toNat hn20) (fun _=>rfl)) bX S3) ?_
 refine nl hK ?_
 refine ra hx ?_
 refine AW.ret ?_
 cases h
 exact rH1 (wkN h0 [] (wR rfl wTn) (vC rfl wVn) wLn)
def jB(Dl:Vector Int 16)(db:Int)(nI:Int):Int×Int×(Vector Int 17)→Option ((Int×Int×(Vector Int 17))⊕(Int×(Vector Int 17))):=fun (aU,bu,m8)=>cnd (decide (bu<db)) (gd (0≤i64.wrap (nI+bu)∧i64.wrap (nI+bu)<17) (gd (0≤bu∧bu<16) (bnd (some (u64.wrap (aU+(u64.wrap ((u64.wrap ((m8)[(i64.wrap (nI+bu)).toNat]!))+(u64.wrap ((Dl)[(bu).toNat]!))))))) fun x6=>gd (0≤i64.wrap (nI+bu)∧i64.wrap (nI+bu)<17) (bnd (some ((m8).set! (i64.wrap (nI+bu)).toNat (u32.wrap (x6)))) fun oG=>some (.inl (mA .u64 x6 (32:Int),i64.wrap (bu+(1:Int)),oG)))))) (some (.inr (aU,m8)))
def ku(Dl:Vector Int 16)(db:Int)(nI:Int)(pB:Vector Int 17):Option (Vector Int 17):=bnd (bt (jB Dl db nI) ((0:Int),(0:Int),pB)) fun (bh,kM)=>gd (0≤i64.wrap (nI+db)∧i64.wrap (nI+db)<17) (gd (0≤i64.wrap (nI+db)∧i64.wrap (nI+db)<17) (bnd (some ((kM).set! (i64.wrap (nI+db)).toNat (u32.wrap (((kM)[(i64.wrap (nI+db)).toNat]!)+(u32.wrap (bh)))))) fun oN=>some oN))
theorem D0 {Dl:Vector Int 16}{db:Int}{nI:Int}{pB:Vector Int 17}{r:Vector Int 17}(h:ku Dl db nI pB=some r):HC prog 192 [.pt 0 0,dG al_cV Dl,dI .i64 db,dI .i64 nI] ⟨[(0,dC ((cA 17 (cI .u32)).f pB))],[],1⟩ (.tu []) ⟨[(0,dC ((cA 17 (cI .u32)).f r))],[],1⟩:=by
 refine HC.of (rs:=[]) tok func192 rfl rfl (bb rfl) rfl (fun cx hx h1 hok=>?_)
 have h0:cx.hp0.next=1:=by rw[h1]
 simp only[fP,Nat.reduceAdd,bw]
 unfold ku at h
 iterate 2 refine ra hx ?_
 refine AW.seq (ra hx ?_)
 refine AW.block ?_
 obtain⟨y,hy,h⟩:=ae h
 refine lp (S:=Int×Int×(Vector Int 17)) (X:=Int×(Vector Int 17)) (fun (aU,bu,m8)=>[(0,.pt 0 0),(2,dI .i64 db),(3,dI .i64 nI),(5,.pt 1 0),(8,dI .u64 aU),(10,dI .i64 db),(11,dI .i64 bu)]) (fun (aU,bu,m8)=>⟨[(0,dC ((cA 17 (cI .u32)).f m8)),(1,dC (al_cV.f Dl))],[],2⟩) (PE cx (.exit 0) (fun (bh,kM)=>[(0,.pt 0 0),(2,dI .i64 db),(3,dI .i64 nI),(8,dI .u64 bh)]) fun (bh,kM)=>⟨[(0,dC ((cA 17 (cI .u32)).f kM))],[],1⟩) hy ?_ ?_ ?_
 exact wkN h0 [1] (wR rfl (wR rfl (wR rfl (wR rfl (wR rfl (wR rfl (wR rfl wTn))))))) (vC rfl (vC rfl wVn)) wLn
 clear hy h
 rintro⟨aU,bu,m8⟩ y h
 dsimp only[jB] at h
 refine ra hx ?_
 refine AW.seq (cdh h rfl (fun fT h=>?_) (fun fT h=>?_))
 refine AW.skip (AW.seq (AW.block (ra hx ?_)))
 refine rsd [] hx fun K hK=>?_
 iterate 6 refine sa ?_
 obtain⟨rA,h⟩:=aA h
 iterate 4 refine sbi ?_
 obtain⟨Pf,h⟩:=aA h
 iterate 5 refine sbi ?_
 obtain⟨x6,wA,h⟩:=ae h
 replace wA:=bD wA
 refine s2 (d2:=dI .u64 x6) lP (gG (congrArg (dI .u64) wA)) ?_
 refine nl hK ?_
 refine rs hx fun K hK=>?_
 iterate 7 refine sa ?_
 obtain⟨hc8,h⟩:=aA h
 have hn9:(i64.wrap (nI+bu)).toNat<17:=by omega
 refine sbi ?_
 obtain⟨oG,GM,h⟩:=ae h
 replace GM:=bD GM
 refine s0 (oa (b':=u32.wrap (x6)) (b9.comp (b9.id _ _) (b9.vec (cI .u32) m8 (i64.wrap (nI+bu)).toNat hn9) (fun _=>rfl)) bX GM) ?_
 refine nl hK ?_
 iterate 2 refine rb hx ?_
 cases h
 exact PS.l (PE.i (wkN h0 [1] (wR rfl (wR rfl (wR rfl (wR rfl (wR rfl (wR rfl (wR rfl wTn))))))) (vC rfl (vC rfl wVn)) wLn))
 refine AW.exit ?_
 try dsimp only
 try simp only[vO,reduceIte,Nat.reduceEqDiff,reduceCtorEq]
 cases h
 exact PS.r ⟨by nofun,PE.i (wkN h0 [] (wR rfl (wR rfl (wR rfl (wR rfl wTn)))) (vC rfl wVn) wLn)⟩
 obtain⟨bh,kM⟩:=y
 refine lw0 ?_
 refine rqd [] hx fun K hK=>?_
 iterate 5 refine sa ?_
 obtain⟨hc13,h⟩:=aA h
 iterate 6 refine sbi ?_
 obtain⟨hc15,h⟩:=aA h
 have K3:(i64.wrap (nI+db)).toNat<17:=by omega
 refine sbi ?_
 obtain⟨oN,wB,h⟩:=ae h
 replace wB:=bD wB
 refine s0 (oa (b':=u32.wrap (((kM)[(i64.wrap (nI+db)).toNat]!)+(u32.wrap (bh)))) (b9.comp (b9.id _ _) (b9.vec (cI .u32) kM (i64.wrap (nI+db)).toNat K3) (fun _=>rfl)) bX wB) ?_
 refine nl hK ?_
 cases h
 exact rH0 (wkN h0 [] wTn (vC rfl wVn) wLn)
def fb(x1:Int)(Br:(Vector Int 16)×Int):Int×(Vector Int 16)×(Vector Int 17)→Option ((Int×(Vector Int 16)×(Vector Int 17))⊕((Vector Int 16)×(Vector Int 17))):=fun (sT,Dd,FC)=>cnd (decide ((0:Int)≤sT)) (bnd (jd Br.1 x1 sT FC) fun Dx=>bnd (S:=Int×(Vector Int 17)) (bnd (ke Br.1 x1 sT Dx FC) fun Dw=>cnd Dw.1 (bnd (ku Br.1 x1 sT Dw.2) fun Mi=>some ((u64.wrap (Dx - (1:Int)),Mi))) (some ((Dx,Dw.2)))) fun (uJ,LS)=>gd (0≤sT∧sT<16) (some (.inl (i64.wrap (sT - (1:Int)),(Dd).set! (sT).toNat (u32.wrap (uJ)),LS)))) (some (.inr (Dd,FC)))
def fZ(aG:Vector Int 16)(aP:Vector Int 16):Option ((Vector Int 16)×(Vector Int 16)):=bnd (eV aP) fun x1=>bnd (eV aG) fun x3=>bnd (iu aG aP) fun x5=>cnd (decide (x5<(0:Int))) (bnd (some (#v[(0:Int),0,0,0,0,0,0,0,0,0,0,0,0,0,0,0])) fun x8=>some (x8,aG)) (cnd (decide (x1=(1:Int))) (bnd (nL aG ((aP)[((0:Int)).toNat]!)) fun nq=>bnd (some (#v[nq.2,0,0,0,0,0,0,0,0,0,0,0,0,0,0,0])) fun qB=>some (nq.1,qB)) (gd (0≤i64.wrap (x1 - (1:Int))∧i64.wrap (x1 - (1:Int))<16) (bnd (fV ((aP)[(i64.wrap (x1 - (1:Int))).toNat]!)) fun sZ=>bnd (p8 aP sZ) fun Br=>bnd (p8 aG sZ) fun Di=>bnd (some (vOf 17 (lCp ((Vector.replicate 17 (0:Int))).toList 0 (List.take 17 (List.take 16 (List.drop 0 (Di.1).toList)))))) fun yo=>bnd (bt (fb x1 Br) (i64.wrap (x3 - x1),(er),(yo).set! ((16:Int)).toNat Di.2)) fun (Bf,vQ)=>bnd (o0 (vOf 16 (List.take 16 (List.drop 0 (vQ).toList))) sZ) fun Mh=>some (Bf,Mh))))
theorem ua {aG:Vector Int 16}{aP:Vector Int 16}{r:(Vector Int 16)×(Vector Int 16)}(h:fZ aG aP=some r):ar prog 162 [dG al_cV aG,dG al_cV aP] (.tu [dG al_cV r.1,dG al_cV r.2]):=by
 refine bk (rs:=[.cell 4 39,.cell 5 39]) (fun cx hx h0=>?_) func162
 unfold fZ at h
 refine rai hx ?_
 refine rsd [148] hx fun K hK=>?_
 refine mbi ?_
 refine cqb h kZ fun x1 h=>?_
 refine mbi ?_
 refine cqb h kZ fun x3 h=>?_
 refine nbi hK ?_
 refine AW.seq (rs hx fun K hK=>?_)
 refine mbi ?_
 refine scb h qo fun x5 h=>?_
 refine nbi hK ?_
 refine cdh h rfl (fun ss h=>?_) (fun ss h=>?_)
 refine AW.seq ?_
 obtain⟨x8,Rs,h⟩:=ae h
 replace Rs:=bD Rs
 refine jn (PE cx .normal (fun (_:Unit)=>[(4,.pt 0 0),(5,.pt 1 0)]) (fun (_:Unit)=>⟨[(0,dC (al_cV.f x8)),(1,dC (al_cV.f aG))],[],2⟩) ()) ?_ ?_
 refine dw (DW.split 1 2 (by decide) ?_ ?_)
 refine dwg [] [0,1,2,3] hx (by kernel_rfl) (by kernel_rfl) (by kernel_rfl) fun K hK=>?_
 dsimp only[ek,m7,nA,List.map]
 refine s1 (d:=dG al_cV (#v[(0:Int),0,0,0,0,0,0,0,0,0,0,0,0,0,0,0])) (mN c5 bX) ?_
 refine sbi ?_
 refine s0 (oa (b':=#v[(0:Int),0,0,0,0,0,0,0,0,0,0,0,0,0,0,0]) (b9.id _ _) c5 Rs) ?_
 refine tzi ?_
 exact .nil (hK _ _ (pe0 h0 [2,3]))
 refine dwg [] [0,2,1,3] hx (by kernel_rfl) (by kernel_rfl) (by kernel_rfl) fun K hK=>?_
 dsimp only[ek,m7,nA,List.map]
 refine s1 (d:=dG al_cV (#v[(0:Int),0,0,0,0,0,0,0,0,0,0,0,0,0,0,0])) (mN c5 bX) ?_
 refine s0 (oa (b':=#v[(0:Int),0,0,0,0,0,0,0,0,0,0,0,0,0,0,0]) (b9.id _ _) c5 Rs) ?_
 refine sbi ?_
 refine tzi ?_
 exact .nil (hK _ _ (pe0 h0 [2,3]))
 refine lw0 ?_
 refine AW.ret ?_
 cases h
 exact rv2
 refine AW.skip (AW.seq (ra hx ?_))
 refine cdh h rfl (fun n0 h=>?_) (fun n0 h=>?_)
 refine rs hx fun K hK=>?_
 refine sbi ?_
 refine s1 (wv (by decide:0≤(0:Int)∧(0:Int)<((16:Nat):Int)) c5 bX) ?_
 refine mbi ?_
 refine scb h Gt fun nq h=>?_
 refine nbi hK ?_
 refine rs hx fun K hK=>?_
 iterate 2 refine sbi ?_
 refine s1 (d:=dG al_cV (#v[nq.2,0,0,0,0,0,0,0,0,0,0,0,0,0,0,0])) (mN c5 bX) ?_
 refine tzi ?_
 obtain⟨qB,zJ,h⟩:=ae h
 replace zJ:=bD zJ
 refine s0 (oa (b':=#v[nq.2,0,0,0,0,0,0,0,0,0,0,0,0,0,0,0]) (b9.id _ _) c5 zJ) ?_
 refine nl hK ?_
 refine AW.ret ?_
 cases h
 exact rv2
 refine AW.skip (rs hx fun K hK=>?_)
 iterate 2 refine sa ?_
 obtain⟨QP,h⟩:=aA h
 refine mbi ?_
 refine scb h wx fun sZ h=>?_
 refine nbi hK ?_
 refine rs hx fun K hK=>?_
 refine mbi ?_
 refine scb h DY fun Br h=>?_
 refine nbi hK ?_
 refine rs hx fun K hK=>?_
 refine mbi ?_
 refine scb h DY fun Di h=>?_
 refine nbi hK ?_
 refine rs hx fun K hK=>?_
 refine s1 (zf (F:=(cA 17 (cI .u32)).f (Vector.replicate 17 (0:Int))) D7) ?_
 refine nl hK ?_
 refine rsd [] hx fun K hK=>?_
 refine q1 (slA (n:=17) (l:=(0:Int)) (h:=(17:Int)) tok (by decide) D7 bX rfl rfl) ?_
 refine q1 (slA (n:=16) (l:=(0:Int)) (h:=(16:Int)) tok (by decide) c5 bX rfl rfl) ?_
 obtain⟨yo,S2,h⟩:=ae h
 replace S2:=bD S2
 refine q1 (hp':=⟨[(6,dC ((cA 17 (cI .u32)).f yo)),(6,dC ((cA 17 (cI .u32)).f (Vector.replicate 17 (0:Int)))),(5,dC (al_cV.f Di.1)),(5,dC (al_cV.f (er))),(4,dC (al_cV.f Br.1)),(4,dC (al_cV.f (er))),(3,dC (al_cV.f (er))),(2,dC (al_cV.f (er))),(1,dC (al_cV.f aP)),(0,dC (al_cV.f aG))],[],7⟩) (sCpA (c:=(cI .u32)) (v:=(Vector.replicate 17 (0:Int))) (s:=(List.take 16 (List.drop 0 (Di.1).toList))) tok RX bX (xM.arr (c:=(cI .u32)) (v:=Di.1) rfl 0 (by decide)) (by simp only[eu,fh,n8];omega) rfl 0 (by decide) (congrArg (fun q=>(6,dC ((cA 17 (cI .u32)).f q))::_) S2)) ?_
 refine nl hK ?_
 refine rs hx fun K hK=>?_
 refine sa ?_
 have hn26:((16:Int)).toNat<17:=by omega
 refine s1 (wv (by decide:0≤(16:Int)∧(16:Int)<((17:Nat):Int)) D7 bX) ?_
 refine s0 (zd (b':=Di.2) (b9.comp (b9.id _ _) (b9.vec (cI .u32) yo ((16:Int)).toNat hn26) (fun _=>rfl)) bX) ?_
 refine nl hK ?_
 refine AW.seq (ra hx ?_)
 refine AW.block ?_
 obtain⟨y,hy,h⟩:=ae h
 refine lp (S:=Int×(Vector Int 16)×(Vector Int 17)) (X:=(Vector Int 16)×(Vector Int 17)) (fun (sT,Dd,FC)=>[(4,.pt 0 0),(5,.pt 1 0),(6,dI .i64 x1),(10,dI .i64 sZ),(11,.pt 2 0),(15,.pt 3 0),(16,dI .i64 sT)]) (fun (sT,Dd,FC)=>⟨[(0,dC (al_cV.f Dd)),(1,dC (al_cV.f (er))),(2,dC (al_cV.f Br.1)),(3,dC ((cA 17 (cI .u32)).f FC))],[],4⟩) (PE cx (.exit 0) (fun (Bf,vQ)=>[(4,.pt 0 0),(5,.pt 1 0),(10,dI .i64 sZ),(15,.pt 2 0)]) fun (Bf,vQ)=>⟨[(0,dC (al_cV.f Bf)),(1,dC (al_cV.f (er))),(2,dC ((cA 17 (cI .u32)).f vQ))],[],3⟩) hy ?_ ?_ ?_
 exact wk0 h0 [2,3,4,6]
 clear hy h
 rintro⟨sT,Dd,FC⟩ y h
 dsimp only[fb] at h
 refine AW.seq (ra hx ?_)
 refine cdh h rfl (fun TQ h=>?_) (fun TQ h=>?_)
 refine AW.skip (AW.seq (AW.block (rs hx fun K hK=>?_)))
 iterate 3 refine sbi ?_
 obtain⟨Dx,S1,h⟩:=ae h
 refine s1 (JI [3] rfl (Dj S1) (fA (aw _) (fAG (aw _) (fA (aw _) (fA (aw _) fAn)))) (vC rfl wVn) wLn (rvC rvN) rfl rfl) ?_
 refine nbi hK ?_
 refine AW.seq ?_
 obtain⟨y,hy,h⟩:=ae h
 refine jn ((PE cx .normal (fun (uJ,LS)=>[(4,.pt 0 0),(5,.pt 1 0),(6,dI .i64 x1),(10,dI .i64 sZ),(11,.pt 2 0),(15,.pt 3 0),(16,dI .i64 sT),(17,dI .u64 uJ)]) fun (uJ,LS)=>⟨[(0,dC (al_cV.f Dd)),(1,dC (al_cV.f (er))),(2,dC (al_cV.f Br.1)),(3,dC ((cA 17 (cI .u32)).f LS))],[],4⟩) y) ?_ ?_
 replace h:=hy
 refine rs hx fun K hK=>?_
 iterate 4 refine sbi ?_
 obtain⟨Dw,hx31,h⟩:=ae h
 refine s1 (JI [3] rfl (DZ hx31) (fA (aw _) (fAG (aw _) (fA (aw _) (fA (aw _) (fA (aw _) fAn))))) (vC rfl wVn) wLn (rvC rvN) rfl rfl) ?_
 refine nl hK ?_
 refine cdh h rfl (fun hb32 h=>?_) (fun hb32 h=>?_)
 refine ra hx ?_
 refine rq hx fun K hK=>?_
 iterate 3 refine sbi ?_
 obtain⟨Mi,QC,h⟩:=ae h
 refine s1 (JI [3] rfl (D0 QC) (fA (aw _) (fAG (aw _) (fA (aw _) (fA (aw _) fAn)))) (vC rfl wVn) wLn (rvC rvN) rfl rfl) ?_
 refine nl hK ?_
 exact pe1 h h0 [0,1,2,3]
 exact AW.skip (pe1 h h0 [0,1,2,3])
 obtain⟨uJ,LS⟩:=y
 refine lw0 ?_
 refine rq hx fun K hK=>?_
 iterate 3 refine sa ?_
 obtain⟨hc36,h⟩:=aA h
 have hn37:(sT).toNat<16:=by omega
 refine sbi ?_
 refine s0 (zd (b':=u32.wrap (uJ)) (b9.comp (b9.id _ _) (b9.vec (cI .u32) Dd (sT).toNat hn37) (fun _=>rfl)) bX) ?_
 refine nl hK ?_
 refine rb hx ?_
 exact pel h h0 [0,1,2,3]
 exact AW.exit (per h h0 [0,1,3])
 obtain⟨Bf,vQ⟩:=y
 refine lw0 ?_
 refine rsd [193] hx fun K hK=>?_
 refine sbi ?_
 refine q1 (slA (n:=17) (l:=(0:Int)) (h:=(16:Int)) tok (by decide) D7 bX rfl ⟨_,rfl⟩) ?_
 refine q1 (sPtr tok rfl c5) ?_
 refine s1 (d:=dG al_cV (vOf 16 (List.take 16 (List.drop 0 (vQ).toList)))) (Bm (b9.sub (o:=0) 16 (cI .u32) vQ 0 (by decide) (by first|rfl|decide)) c5) ?_
 refine sa ?_
 obtain⟨Mh,hx40,h⟩:=ae h
 refine sq tok (H7 hx40) (by simp only[iX,l6,gh,io,eQ,bK];exact⟨cl _ _,rfl⟩) (lA (nZ _ _) (lA (aw _) lAn)) (.inl (jS _ _)) ?_
 refine nbi hK ?_
 refine AW.ret ?_
 cases h
 exact rv2
def qL(aK:ap):Option ap:=bnd (cE [aK]) fun x1=>cnd (!x1) (bnd (eo) fun x4=>some x4) (bnd (bJ false aK.vW) fun x6=>some x6)
theorem J9 {aK:ap}{r:ap}(h:qL aK=some r):ar prog 163 [dG aq aK] (dG aq r):=by
 refine bk (rs:=[.cell 2 41]) (fun cx hx h0=>?_) func163
 unfold qL at h
 refine rai hx ?_
 refine AW.seq (rs hx fun K hK=>?_)
 refine sbi ?_
 refine s1 (kP ([aK]:List ap) aq qZ fy) ?_
 refine scb h fx fun x1 h=>?_
 refine nbi hK ?_
 refine cdh h rfl (fun fI h=>?_) (fun fI h=>?_)
 refine rs hx fun K hK=>?_
 refine scb h gE fun x4 h=>?_
 refine nbi hK ?_
 exact AW.ret (rtv h)
 refine AW.skip (rs hx fun K hK=>?_)
 refine mbi ?_
 refine scb h dE fun x6 h=>?_
 refine nbi hK ?_
 exact AW.ret (rtv h)
def jh :Int×Int→Option ((Int×Int)⊕Int):=fun (a9,mM)=>cnd (decide (mM≠(0:Int))) (gd (mM≠0) (some (.inl (mM,Int.tmod a9 mM)))) (some (.inr a9))
def cO(OM:ap→ap→Option ap)(aG:ap)(aP:ap):Option ap:=bnd (cE [aG,aP]) fun x1=>cnd (!x1) (bnd (eo) fun x4=>some x4) (bnd (S:=Bool) (bnd (eV aG.vW) fun x6=>cnd (decide (x6≤(2:Int))) (bnd (eV aP.vW) fun x9=>some (decide (x9≤(2:Int)))) (some (false))) fun uP=>cnd uP (bnd (some (ior .u64 (zI .u64 (u64.wrap ((aG.vW)[((1:Int)).toNat]!)) (32:Int)) (u64.wrap ((aG.vW)[((0:Int)).toNat]!)))) fun oN=>bnd (some (ior .u64 (zI .u64 (u64.wrap ((aP.vW)[((1:Int)).toNat]!)) (32:Int)) (u64.wrap ((aP.vW)[((0:Int)).toNat]!)))) fun ww=>bnd (bt (jh) (oN,ww)) fun eY=>bnd (bJ false (#v[u32.wrap (eY),u32.wrap (mA .u64 eY (32:Int)),0,0,0,0,0,0,0,0,0,0,0,0,0,0])) fun yo=>some yo) (cnd (decide (¬(aP.vW=#v[(0:Int),0,0,0,0,0,0,0,0,0,0,0,0,0,0,0]))) (bnd (fZ aG.vW aP.vW) fun Bq=>bnd (bJ false aP.vW) fun Bo=>bnd (bJ false Bq.2) fun H5=>bnd (OM Bo H5) fun Mi=>some Mi) (bnd (qL aG) fun Ad=>some Ad)))
theorem Gu {OM:ap→ap→Option ap}(ih:∀{aG:ap} {aP:ap} {r:ap},OM aG aP=some r→ar prog 122 [dG aq aG,dG aq aP] (dG aq r)){aG:ap}{aP:ap}{r:ap}(h:cO OM aG aP=some r):ar prog 122 [dG aq aG,dG aq aP] (dG aq r):=by
 refine bk (rs:=[.cell 4 41]) (fun cx hx h0=>?_) func122
 unfold cO at h
 refine rai hx ?_
 refine AW.seq (rs hx fun K hK=>?_)
 iterate 2 refine sbi ?_
 refine s1 (kP ([aG,aP]:List ap) aq qZ fy) ?_
 refine scb h fx fun x1 h=>?_
 refine nbi hK ?_
 refine cdh h rfl (fun fI h=>?_) (fun fI h=>?_)
 refine rs hx fun K hK=>?_
 refine scb h gE fun x4 h=>?_
 refine nbi hK ?_
 exact AW.ret (rtv h)
 refine AW.skip ?_
 iterate 2 refine AW.seq ?_
 obtain⟨uP,hy,h⟩:=ae h
 refine jn ((PE cx .normal (fun uP=>[(2,.pt 0 0),(3,.pt 1 0),(4,.pt 2 0),(26,dB uP)]) fun uP=>⟨[(0,dC (aq.f aG)),(1,dC (aq.f aP)),(2,dC (aq.f ct))],[],3⟩) uP) ?_ ?_
 replace h:=hy
 refine rq hx fun K hK=>?_
 refine mbi ?_
 refine scb h kZ fun x6 h=>?_
 refine mbi ?_
 rcases aE h with⟨uw,h⟩|⟨uw,h⟩
 refine ga uw ?_
 refine gbi ?_
 refine gcb h kZ fun x9 h=>?_
 refine nbi hK ?_
 exact pe1 h h0 [0,1,2]
 refine nbi hK ?_
 exact pe1 h h0 [0,1,2]
 refine lw0 ?_
 refine cdh h rfl (fun Cg h=>?_) (fun Cg h=>?_)
 refine rsd [] hx fun K hK=>?_
 refine sa ?_
 refine s1 (wv (by decide:0≤(1:Int)∧(1:Int)<((16:Nat):Int)) c5 bX) ?_
 iterate 4 refine sbi ?_
 refine s1 (wv (by decide:0≤(0:Int)∧(0:Int)<((16:Nat):Int)) c5 bX) ?_
 iterate 4 refine sbi ?_
 refine s1 (wv (by decide:0≤(1:Int)∧(1:Int)<((16:Nat):Int)) c5 bX) ?_
 iterate 4 refine sbi ?_
 refine s1 (wv (by decide:0≤(0:Int)∧(0:Int)<((16:Nat):Int)) c5 bX) ?_
 iterate 3 refine sbi ?_
 obtain⟨oN,wB,h⟩:=ae h
 replace wB:=bD wB
 refine s2 (d2:=dI .u64 oN) lP (gG (congrArg (dI .u64) wB)) ?_
 obtain⟨ww,GL,h⟩:=ae h
 replace GL:=bD GL
 refine s2 (d2:=dI .u64 ww) lP (gG (congrArg (dI .u64) GL)) ?_
 refine nl hK ?_
 refine AW.seq (AW.block ?_)
 obtain⟨eY,hy,h⟩:=ae h
 refine lp (S:=Int×Int) (X:=Int) (fun (a9,mM)=>[(4,.pt 0 0),(5,dI .u64 a9),(6,dI .u64 mM)]) (fun (a9,mM)=>⟨[(0,dC (aq.f ct))],[],1⟩) (PE cx (.exit 0) (fun eY=>[(4,.pt 0 0),(5,dI .u64 eY)]) fun eY=>⟨[(0,dC (aq.f ct))],[],1⟩) hy ?_ ?_ ?_
 exact wk0 h0 [2]
 clear hy h
 rintro⟨a9,mM⟩ y h
 dsimp only[jh] at h
 refine AW.seq (ra hx ?_)
 refine cdh h rfl (fun EQ h=>?_) (fun EQ h=>?_)
 refine AW.skip (AW.block (rqd [] hx fun K hK=>?_))
 iterate 3 refine sa ?_
 obtain⟨QO,h⟩:=aA h
 refine s1 (FH QO) ?_
 refine nbi hK ?_
 exact pel h h0 [0]
 exact AW.exit (per h h0 [0])
 refine lw0 ?_
 refine rs hx fun K hK=>?_
 iterate 5 refine sa ?_
 refine s1 (d:=dG al_cV (#v[u32.wrap (eY),u32.wrap (mA .u64 eY (32:Int)),0,0,0,0,0,0,0,0,0,0,0,0,0,0])) (mN c5 bX) ?_
 refine scb h dE fun yo h=>?_
 refine nbi hK ?_
 exact AW.ret (rtv h)
 refine AW.skip ?_
 iterate 2 refine AW.seq ?_
 refine jn (PE cx .normal (fun (_:Unit)=>[(2,.pt 0 0),(4,.pt 1 0),(7,.pt 2 0),(8,.pt 3 0)]) (fun (_:Unit)=>⟨[(0,dC (aq.f aG)),(1,dC (aq.f ct)),(2,dC (al_cV.f aG.vW)),(3,dC (al_cV.f aP.vW))],[],4⟩) ()) ?_ ?_
 refine dw (DW.split 4 5 (by decide) ?_ ?_)
 refine DW.split 3 6 (by decide) ?_ ?_
 refine dwg [] [0,1,2,3,4,5,6,7] hx (by kernel_rfl) (by kernel_rfl) (by kernel_rfl) fun K hK=>?_
 dsimp only[ek,m7,nA,List.map]
 iterate 6 refine sbi ?_
 iterate 2 refine tzi ?_
 exact .nil (hK _ _ (pe0 h0 [0,2,3,4]))
 refine dwg [] [0,1,2,4,5,6,3,7] hx (by kernel_rfl) (by kernel_rfl) (by kernel_rfl) fun K hK=>?_
 dsimp only[ek,m7,nA,List.map]
 iterate 5 refine sbi ?_
 refine tzi ?_
 refine sbi ?_
 refine tzi ?_
 exact .nil (hK _ _ (pe0 h0 [0,2,3,4]))
 refine DW.split 3 6 (by decide) ?_ ?_
 refine dwg [] [0,1,2,3,5,4,6,7] hx (by kernel_rfl) (by kernel_rfl) (by kernel_rfl) fun K hK=>?_
 dsimp only[ek,m7,nA,List.map]
 iterate 6 refine sbi ?_
 iterate 2 refine tzi ?_
 exact .nil (hK _ _ (pe0 h0 [0,2,4,3]))
 refine dwg [] [0,1,2,5,4,6,3,7] hx (by kernel_rfl) (by kernel_rfl) (by kernel_rfl) fun K hK=>?_
 dsimp only[ek,m7,nA,List.map]
 iterate 5 refine sbi ?_
 refine tzi ?_
 refine sbi ?_
 refine tzi ?_
 exact .nil (hK _ _ (pe0 h0 [0,2,4,3]))
 refine lw0 ?_
 refine rs hx fun K hK=>?_
 refine sbi ?_
 refine s1 (d:=dG al_cV (#v[(0:Int),0,0,0,0,0,0,0,0,0,0,0,0,0,0,0])) (mN c5 bX) ?_
 refine s1 (xK tok 2 (by decide) (EqC.arr (EqC.int (d:=0) bX) c5 bX) c5) ?_
 refine nl hK ?_
 refine cdh h rfl (fun IT h=>?_) (fun IT h=>?_)
 refine rs hx fun K hK=>?_
 refine mbi ?_
 refine scb h ua fun Bq h=>?_
 refine nbi hK ?_
 refine rsd [145,122] hx fun K hK=>?_
 refine mbi ?_
 refine cqb h dE fun Bo h=>?_
 refine mbi ?_
 refine cqb h dE fun H5 h=>?_
 refine cqb h ih fun Mi h=>?_
 refine nbi hK ?_
 exact AW.ret (rtv h)
 refine AW.skip (rs hx fun K hK=>?_)
 refine mbi ?_
 refine scb h J9 fun Ad h=>?_
 refine nbi hK ?_
 exact AW.ret (rtv h)
def iw:Nat→ap→ap→Option ap
 |0=>fun _ _=>none
 |n+1=>cO (iw n)
theorem yC:∀(n:Nat) {aG:ap} {aP:ap} {r:ap},iw n aG aP=some r→ar prog 122 [dG aq aG,dG aq aP] (dG aq r)
 |0,_,_,_,h=>by cases h
 |n+1,_,_,_,h=>Gu (yC n) h
def om(aG:ap)(aP:ap):Option ap:=iw 1000 aG aP
theorem wN {aG:ap}{aP:ap}{r:ap}(h:om aG aP=some r):ar prog 122 [dG aq aG,dG aq aP] (dG aq r):=yC 1000 h
def je(aG:ap)(aP:ap):Option (ap×ap):=bnd (S:=Bool) (bnd (cE [aG,aP]) fun x1=>cnd (!x1) (some (true)) (bnd (fC aP) fun x4=>some (decide (x4=(0:Int))))) fun dU=>cnd dU (bnd (eo) fun x8=>bnd (eo) fun oG=>some (x8,oG)) (bnd (S:=Unit⊕(ap×ap)) (bnd (lR aG) fun nq=>bnd (S:=Bool) (cnd nq.2 (some (decide (nq.1≠(-9223372036854775808:Int)))) (some (false))) fun ew=>cnd ew (bnd (lR aP) fun oN=>bnd (S:=Bool) (cnd oN.2 (some (decide (oN.1≠(-9223372036854775808:Int)))) (some (false))) fun oE=>cnd oE (gd (oN.1≠0) (gd (oN.1≠0) (bnd (S:=Int×Int) (bnd (S:=Bool) (cnd (decide ((Int.tmod nq.1 oN.1)≠(0:Int))) (some (!((decide ((Int.tmod nq.1 oN.1)<(0:Int))) == (decide (oN.1<(0:Int)))))) (some (false))) fun sU=>cnd sU (bnd (some (i64.wrap ((i64.wrap (Int.tdiv nq.1 oN.1)) - (1:Int)))) fun Bq=>bnd (some (i64.wrap ((Int.tmod nq.1 oN.1)+oN.1))) fun Bo=>some ((Bq,Bo))) (some ((i64.wrap (Int.tdiv nq.1 oN.1),Int.tmod nq.1 oN.1)))) fun (kN,rt)=>bnd (g6 kN) fun x32=>bnd (g6 rt) fun P4=>some (.inr (x32,P4))))) (some (.inl ()))) (some (.inl ()))) fun y36=>match y36 with| .inl ()=>bnd (fZ aG.vW aP.vW) fun DV=>bnd (bJ (!(aG.vNeg == aP.vNeg)) DV.1) fun Mh=>bnd (S:=(Vector Int 16)×ap) (bnd (S:=Bool) (cnd (decide (¬(DV.2=#v[(0:Int),0,0,0,0,0,0,0,0,0,0,0,0,0,0,0]))) (some (!(aG.vNeg == aP.vNeg))) (some (false))) fun Dc=>cnd Dc (bnd (g6 (1:Int)) fun P3=>bnd (oh Mh P3) fun x46=>bnd (iv aP.vW DV.2) fun x48=>some ((x48,x46))) (some ((DV.2,Mh)))) fun (ml,gq)=>bnd (bJ aP.vNeg ml) fun x51=>some (gq,x51)| .inr r=>some r)
theorem v8 {aG:ap}{aP:ap}{r:ap×ap}(h:je aG aP=some r):ar prog 150 [dG aq aG,dG aq aP] (.tu [dG aq r.1,dG aq r.2]):=by
 refine bk (rs:=[.cell 4 41,.cell 5 41]) (fun cx hx h0=>?_) func150
 unfold je at h
 refine rai hx ?_
 iterate 2 refine AW.seq ?_
 obtain⟨dU,hy,h⟩:=ae h
 refine jn ((PE cx .normal (fun dU=>[(2,.pt 0 0),(3,.pt 1 0),(4,.pt 2 0),(5,.pt 3 0),(24,dB dU)]) fun dU=>⟨[(0,dC (aq.f aG)),(1,dC (aq.f aP)),(2,dC (aq.f ct)),(3,dC (aq.f ct))],[],4⟩) dU) ?_ ?_
 replace h:=hy
 refine rq hx fun K hK=>?_
 iterate 2 refine sbi ?_
 refine s1 (kP ([aG,aP]:List ap) aq qZ fy) ?_
 refine scb h fx fun x1 h=>?_
 refine mbi ?_
 rcases aE h with⟨fI,h⟩|⟨fI,h⟩
 refine nbi hK ?_
 exact pe1 h h0 [0,1,2,3]
 refine gbi ?_
 refine gcb h lf fun x4 h=>?_
 refine nbi hK ?_
 exact pe1 h h0 [0,1,2,3]
 refine lw0 ?_
 refine cdh h rfl (fun ss h=>?_) (fun ss h=>?_)
 refine rs hx fun K hK=>?_
 refine scb h gE fun x8 h=>?_
 refine scb h gE fun oG h=>?_
 refine nbi hK ?_
 refine AW.ret ?_
 cases h
 exact rv2
 refine AW.skip (AW.seq ?_)
 obtain⟨y,hy,h⟩:=ae h
 refine jn ((PS (PE cx .normal (fun ()=>[(2,.pt 0 0),(3,.pt 1 0),(4,.pt 2 0),(5,.pt 3 0)]) fun ()=>⟨[(0,dC (aq.f aG)),(1,dC (aq.f aP)),(2,dC (aq.f ct)),(3,dC (aq.f ct))],[],4⟩) (PR [.cell 4 41,.cell 5 41] fun r=>.tu [dG aq r.1,dG aq r.2])) y) ?_ ?_
 replace h:=hy
 refine rs hx fun K hK=>?_
 refine mbi ?_
 refine scb h yB fun nq h=>?_
 refine nbi hK ?_
 refine AW.seq ?_
 obtain⟨ew,hy,h⟩:=ae h
 refine jn ((PE cx .normal (fun ew=>[(2,.pt 0 0),(3,.pt 1 0),(4,.pt 2 0),(5,.pt 3 0),(6,dI .i64 nq.1),(36,dB ew)]) fun ew=>⟨[(0,dC (aq.f aG)),(1,dC (aq.f aP)),(2,dC (aq.f ct)),(3,dC (aq.f ct))],[],4⟩) ew) ?_ ?_
 replace h:=hy
 refine rq hx fun K hK=>?_
 refine mbi ?_
 rcases aE h with⟨tT,h⟩|⟨tT,h⟩
 refine nbi hK ?_
 exact pe1 h h0 [0,1,2,3]
 refine nbi hK ?_
 exact pe1 h h0 [0,1,2,3]
 refine lw0 ?_
 refine cdh h rfl (fun tS h=>?_) (fun tS h=>?_)
 refine rs hx fun K hK=>?_
 refine mbi ?_
 refine scb h yB fun oN h=>?_
 refine nbi hK ?_
 refine AW.seq ?_
 obtain⟨oE,hy,h⟩:=ae h
 refine jn ((PE cx .normal (fun oE=>[(2,.pt 0 0),(3,.pt 1 0),(4,.pt 2 0),(5,.pt 3 0),(6,dI .i64 nq.1),(8,dI .i64 oN.1),(46,dB oE)]) fun oE=>⟨[(0,dC (aq.f aG)),(1,dC (aq.f aP)),(2,dC (aq.f ct)),(3,dC (aq.f ct))],[],4⟩) oE) ?_ ?_
 replace h:=hy
 refine rq hx fun K hK=>?_
 refine mbi ?_
 rcases aE h with⟨IU,h⟩|⟨IU,h⟩
 refine nbi hK ?_
 exact pe1 h h0 [0,1,2,3]
 refine nbi hK ?_
 exact pe1 h h0 [0,1,2,3]
 refine lw0 ?_
 refine cdh h rfl (fun EQ h=>?_) (fun EQ h=>?_)
 refine rsd [] hx fun K hK=>?_
 iterate 2 refine sa ?_
 obtain⟨QO,h⟩:=aA h
 refine s1 (HX QO) ?_
 iterate 2 refine sa ?_
 obtain⟨hc23,h⟩:=aA h
 refine s1 (FH hc23) ?_
 refine nbi hK ?_
 refine AW.seq ?_
 obtain⟨y,hy,h⟩:=ae h
 refine jn ((PE cx .normal (fun (kN,rt)=>[(4,.pt 0 0),(5,.pt 1 0),(10,dI .i64 kN),(11,dI .i64 rt)]) fun (kN,rt)=>⟨[(0,dC (aq.f ct)),(1,dC (aq.f ct))],[],2⟩) y) ?_ ?_
 replace h:=hy
 refine AW.seq ?_
 obtain⟨sU,hy,h⟩:=ae h
 refine jn ((PE cx .normal (fun sU=>[(4,.pt 0 0),(5,.pt 1 0),(8,dI .i64 oN.1),(10,dI .i64 (i64.wrap (Int.tdiv nq.1 oN.1))),(11,dI .i64 (Int.tmod nq.1 oN.1)),(61,dB sU)]) fun sU=>⟨[(0,dC (aq.f ct)),(1,dC (aq.f ct))],[],2⟩) sU) ?_ ?_
 replace h:=hy
 refine rq hx fun K hK=>?_
 refine mbi ?_
 rcases aE h with⟨TR,h⟩|⟨TR,h⟩
 refine nbi hK ?_
 exact pe1 h h0 [2,3]
 refine nbi hK ?_
 exact pe1 h h0 [2,3]
 refine lw0 ?_
 refine cdh h rfl (fun IT h=>?_) (fun IT h=>?_)
 refine rq hx fun K hK=>?_
 iterate 5 refine sa ?_
 obtain⟨Bq,IL,h⟩:=ae h
 replace IL:=bD IL
 refine s2 (d2:=dI .i64 Bq) lP (gG (congrArg (dI .i64) IL)) ?_
 obtain⟨Bo,MX,h⟩:=ae h
 replace MX:=bD MX
 refine s2 (d2:=dI .i64 Bo) lP (gG (congrArg (dI .i64) MX)) ?_
 refine nl hK ?_
 exact pe1 h h0 [0,1]
 exact AW.skip (pe1 h h0 [0,1])
 obtain⟨kN,rt⟩:=y
 refine lw0 ?_
 refine rs hx fun K hK=>?_
 refine sa ?_
 refine scb h rU fun x32 h=>?_
 refine sa ?_
 refine scb h rU fun P4 h=>?_
 refine nbi hK ?_
 refine AW.ret ?_
 cases h
 refine PS.r (PR.i ?_)
 exact rv2
 exact AW.skip (pel h h0 [0,1,2,3])
 exact AW.skip (pel h h0 [0,1,2,3])
 rcases y with⟨⟩|r
 rintro ex tm' hp' ⟨rfl,hw⟩
 refine AW.weak hw (rs hx fun K hK=>?_)
 refine mbi ?_
 refine scb h ua fun DV h=>?_
 refine nbi hK ?_
 refine rs hx fun K hK=>?_
 refine mbi ?_
 refine scb h dE fun Mh h=>?_
 refine nbi hK ?_
 refine AW.seq ?_
 obtain⟨y,hy,h⟩:=ae h
 refine jn ((PE cx .normal (fun (ml,gq)=>[(3,.pt 0 0),(4,.pt 1 0),(5,.pt 2 0),(13,.pt 3 0),(14,.pt 4 0)]) fun (ml,gq)=>⟨[(0,dC (aq.f aP)),(1,dC (aq.f ct)),(2,dC (aq.f ct)),(3,dC (al_cV.f ml)),(4,dC (aq.f gq))],[],5⟩) y) ?_ ?_
 replace h:=hy
 refine AW.seq ?_
 obtain⟨Dc,hy,h⟩:=ae h
 refine jn ((PE cx .normal (fun Dc=>[(3,.pt 0 0),(4,.pt 1 0),(5,.pt 2 0),(13,.pt 3 0),(14,.pt 4 0),(95,dB Dc)]) fun Dc=>⟨[(0,dC (aq.f aP)),(1,dC (aq.f ct)),(2,dC (aq.f ct)),(3,dC (al_cV.f DV.2)),(4,dC (aq.f Mh))],[],5⟩) Dc) ?_ ?_
 replace h:=hy
 refine rq hx fun K hK=>?_
 refine sbi ?_
 refine s1 (d:=dG al_cV (#v[(0:Int),0,0,0,0,0,0,0,0,0,0,0,0,0,0,0])) (mN c5 bX) ?_
 refine s1 (xK tok 2 (by decide) (EqC.arr (EqC.int (d:=0) bX) c5 bX) c5) ?_
 refine sa ?_
 rcases aE h with⟨hb41,h⟩|⟨hb41,h⟩
 refine nbi hK ?_
 exact pe1 h h0 [1,2,3,5,6]
 refine nbi hK ?_
 exact pe1 h h0 [1,2,3,5,6]
 refine lw0 ?_
 refine cdh h rfl (fun hb43 h=>?_) (fun hb43 h=>?_)
 refine rqd [91,181,165] hx fun K hK=>?_
 refine mbi ?_
 refine cqb h rU fun P3 h=>?_
 refine cqb h J7 fun x46 h=>?_
 refine mbi ?_
 refine cqb h tK fun x48 h=>?_
 refine nbi hK ?_
 exact pe1 h h0 [0,1,2,3,4]
 exact AW.skip (pe1 h h0 [0,1,2,3,4])
 obtain⟨ml,gq⟩:=y
 refine lw0 ?_
 refine rsd [145] hx fun K hK=>?_
 refine mbi ?_
 refine cqb h dE fun x51 h=>?_
 refine nbi hK ?_
 refine AW.ret ?_
 cases h
 exact rv2
 rintro ex tm' hp' ⟨rfl,hw⟩
 cases h
 exact hw
def gH(aG:ap)(aP:ap):Option ap:=bnd (je aG aP) fun x1=>some x1.1
theorem jp {aG:ap}{aP:ap}{r:ap}(h:gH aG aP=some r):ar prog 97 [dG aq aG,dG aq aP] (dG aq r):=by
 refine bk (rs:=[.cell 4 41]) (fun cx hx h0=>?_) func97
 unfold gH at h
 refine rai hx ?_
 refine rs hx fun K hK=>?_
 refine mbi ?_
 refine scb h v8 fun x1 h=>?_
 refine nbi hK ?_
 refine rai hx ?_
 exact AW.ret (rtv h)
def oi(aG:ap)(aP:ap):Option ap:=bnd (je aG aP) fun x1=>some x1.2
theorem td {aG:ap}{aP:ap}{r:ap}(h:oi aG aP=some r):ar prog 98 [dG aq aG,dG aq aP] (dG aq r):=by
 refine bk (rs:=[.cell 4 41]) (fun cx hx h0=>?_) func98
 unfold oi at h
 refine rai hx ?_
 refine rs hx fun K hK=>?_
 refine mbi ?_
 refine scb h v8 fun x1 h=>?_
 refine nbi hK ?_
 refine rai hx ?_
 exact AW.ret (rtv h)
def qK(aG:ap)(aP:ap):Option Int:=bnd (cE [aG]) fun x1=>bnd (cE [aP]) fun x3=>bnd (S:=Bool) (cnd (!x1) (some (!x3)) (some (false))) fun Rj=>cnd Rj (some (0:Int)) (cnd (!x1) (some (-1:Int)) (cnd (!x3) (some (1:Int)) (cnd (!(aG.vNeg == aP.vNeg)) (cnd aG.vNeg (some (-1:Int)) (some (1:Int))) (cnd aG.vNeg (bnd (iu aP.vW aG.vW) fun qW=>some qW) (bnd (iu aG.vW aP.vW) fun J2=>some J2)))))
theorem J8 {aG:ap}{aP:ap}{r:Int}(h:qK aG aP=some r):ar prog 96 [dG aq aG,dG aq aP] (dI .i64 r):=by
 refine bk (rs:=[.tmp 4]) (fun cx hx h0=>?_) func96
 unfold qK at h
 refine ra hx ?_
 refine rsd [147] hx fun K hK=>?_
 refine sbi ?_
 refine s1 (JJ ([aG]:List ap) aq qZ fy) ?_
 refine cqb h fx fun x1 h=>?_
 refine sbi ?_
 refine s1 (JJ ([aP]:List ap) aq qZ fy) ?_
 refine cqb h fx fun x3 h=>?_
 refine nbi hK ?_
 refine AW.seq (AW.block (AW.seq ?_))
 obtain⟨Rj,hy,h⟩:=ae h
 refine jn ((PE cx .normal (fun Rj=>[(2,.pt 0 0),(3,.pt 1 0),(5,dB x1),(6,dB x3),(13,dB Rj)]) fun Rj=>⟨[(0,dC (aq.f aG)),(1,dC (aq.f aP))],[],2⟩) Rj) ?_ ?_
 replace h:=hy
 refine rq hx fun K hK=>?_
 refine mbi ?_
 rcases aE h with⟨su,h⟩|⟨su,h⟩
 refine nbi hK ?_
 exact pe1 h h0 [0,1]
 refine nbi hK ?_
 exact pe1 h h0 [0,1]
 refine lw0 ?_
 refine cdh h rfl (fun ss h=>?_) (fun ss h=>?_)
 refine ra hx ?_
 exact AW.ret (rtv h)
 refine ra hx ?_
 refine cdh h rfl (fun uw h=>?_) (fun uw h=>?_)
 refine ra hx ?_
 exact AW.ret (rtv h)
 refine ra hx ?_
 refine cdh h rfl (fun K8 h=>?_) (fun K8 h=>?_)
 refine ra hx ?_
 exact AW.ret (rtv h)
 refine rai hx ?_
 refine cdh h rfl (fun n0 h=>?_) (fun n0 h=>?_)
 refine AW.seq (rai hx ?_)
 refine cdh h rfl (fun ux h=>?_) (fun ux h=>?_)
 refine ra hx ?_
 exact AW.ret (rtv h)
 refine AW.skip (ra hx ?_)
 exact AW.ret (rtv h)
 refine rai hx ?_
 refine cdh h rfl (fun Cg h=>?_) (fun Cg h=>?_)
 refine rs hx fun K hK=>?_
 refine mbi ?_
 refine scb h qo fun qW h=>?_
 refine nbi hK ?_
 exact AW.ret (rtv h)
 refine AW.skip (rs hx fun K hK=>?_)
 refine mbi ?_
 refine scb h qo fun J2 h=>?_
 refine nbi hK ?_
 exact AW.ret (rtv h)
section
theorem vsub {b n A:Nat}(m o:Nat)(h:o+m≤n):vOf m (List.take m (List.drop o (vN b n A).toList))=vN b m (A / b ^ o):=by
 have hl:(List.take m (List.drop o (vN b n A).toList)).length=m:=by
  rw[eu,fh,n8];omega
 apply oR
 intro j hj
 rw[jQ hj]
 have e1:=Ap (vOf m (List.take m (List.drop o (vN b n A).toList))) hj
 rw[zu hl] at e1
 rw[←e1,bT _ j (by omega),List.getElem_take,List.getElem_drop]
 have e2:=jQ (b:=b) (A:=A) (j:=o+j) (n:=n) (by omega)
 rw[←Ap (vN b n A) (by omega),bT _ (o+j) (by rw[n8];omega)] at e2
 rw[e2]
 unfold dg
 rw[ip,ia]
section
variable {b R a B i k:Nat}
def sX(b R a B i k:Nat):Nat:=R % b ^ (i+k)+a*(B % b ^ k)*b ^ i
def z9(b R a B i k:Nat):Nat:=R / b ^ (i+k)*b ^ (i+k)+sX b R a B i k % b ^ (i+k)
theorem HY:sX b R a B i (k+1)=sX b R a B i k+b ^ (i+k)*(dg b R (i+k)+a*dg b B k):=by
 unfold sX
 rw[show i+(k+1)=i+k+1 from rfl,ic,ic (A:=B),vM,vM,bP,ip b i k]
 have:a*(b ^ k*dg b B k)*b ^ i=b ^ i*b ^ k*(a*dg b B k):=by
  simp only[eR,xC,bz]
 rw[this];omega
theorem PO(hb:0<b)(ha:a<b):sX b R a B i k / b ^ (i+k)<b:=by
 have hp:0<b ^ (i+k):=bV hb
 rw[l7 hp]
 unfold sX
 have h1:=ey R hp
 have h2:a*(B % b ^ k)*b ^ i≤(b - 1)*b ^ (i+k):=by
  rw[ip,eR]
  refine kL (by omega) ?_
  rw[bz (b ^ i)]
  exact cz _ (mL (ey _ (bV hb)))
 have h3:(b - 1)*b ^ (i+k)+b ^ (i+k)=b*b ^ (i+k):=by
  rw[←rl];congr 1;omega
 omega
theorem Orow_dg(hb:0<b):dg b (z9 b R a B i k) (i+k)=dg b R (i+k):=by
 unfold z9 dg
 rw[bz (R / _),Fq (bV hb),eI (ey _ (bV hb)),iT]
theorem Rl(hb:0<b):up1 b (z9 b R a B i k) (i+k) (sX b R a B i (k+1) / b ^ (i+k) % b)=z9 b R a B i (k+1):=by
 have hp:0<b ^ (i+k):=bV hb
 have e1:z9 b R a B i k / b ^ (i+k+1)=R / b ^ (i+k+1):=by
  rw[cK,←ia,←ia]
  congr 1
  unfold z9
  rw[bz (R / _),Fq hp,eI (ey _ hp),iT]
 have e2:z9 b R a B i k % b ^ (i+k)=sX b R a B i (k+1) % b ^ (i+k):=by
  rw[HY,CD]
  unfold z9
  rw[bz (R / _),Nat.mul_add_mod,CC]
 unfold up1
 rw[e1,e2]
 show _=R / b ^ (i+k+1)*b ^ (i+k+1)+sX b R a B i (k+1) % b ^ (i+k+1)
 rw[ic (A:=sX b R a B i (k+1)),bz (b ^ (i+k)) (dg _ _ _)]
 unfold dg
 omega
end
theorem Mul_row {A B i m:Nat}(hi:i<16)(hm:m≤16)(hB:B<4294967296 ^ m)(x y:ap)(hx:x.vW=W A)(hy:y.vW=W B):
  ∃c:Nat,c<4294967296∧∃O:Nat,bt (jf x y (m:Int) (i:Int)) ((0:Int),(0:Int),vN 4294967296 32 (A % 4294967296 ^ i*B))=some ((c:Int),vN 4294967296 32 O)∧up1 4294967296 O (i+m) c=A % 4294967296 ^ (i+1)*B:=by
 have hb:0<(4294967296:Nat):=by decide
 have hR:A % 4294967296 ^ i*B<4294967296 ^ (i+m):=by
  rw[ip]
  exact Nat.mul_lt_mul_of_lt_of_le (ey _ (bV hb)) (mL hB) (bV hb)
 generalize hRR:A % 4294967296 ^ i*B=R at hR ⊢
 have ha:=@dgl A i
 have hl:=sf (b:=jf x y (m:Int) (i:Int)) (s0:=((0:Int),(0:Int),vN 4294967296 32 R)) (fun k=>((sX 4294967296 R (dg 4294967296 A i) B i k / 4294967296 ^ (i+k):Nat),(k:Int),vN 4294967296 32 (z9 4294967296 R (dg 4294967296 A i) B i k))) m ((sX 4294967296 R (dg 4294967296 A i) B i m / 4294967296 ^ (i+m):Nat),vN 4294967296 32 (z9 4294967296 R (dg 4294967296 A i) B i m))
  (by
   have e1:sX 4294967296 R (dg 4294967296 A i) B i 0=R % 4294967296 ^ i:=by unfold sX;simp[nF]
   have e2:z9 4294967296 R (dg 4294967296 A i) B i 0=R:=by
    unfold z9;rw[e1,iT,CC,bz];exact l8 _ _
   rw[e1,e2,iT,eI (ey _ (bV hb))]
   rfl)
  (fun k hk=>by
   have hk16:k<16:=by omega
   have hc:=PO (b:=4294967296) (R:=R) (a:=dg 4294967296 A i) (B:=B) (i:=i) (k:=k) hb ha
   have hbk:=@dgl B k
   have hr:=@dgl R (i+k)
   have O3:dg 4294967296 A i*dg 4294967296 B k≤4294967295*4294967295:=kL (by omega) (by omega)
   have Hn:sX 4294967296 R (dg 4294967296 A i) B i (k+1) / 4294967296 ^ (i+k)=sX 4294967296 R (dg 4294967296 A i) B i k / 4294967296 ^ (i+k)+(dg 4294967296 A i*dg 4294967296 B k+dg 4294967296 R (i+k)):=by
    rw[HY,z5 _ _ (bV hb),qR (dg 4294967296 R (i+k))]
   have xX:sX 4294967296 R (dg 4294967296 A i) B i (k+1) / 4294967296 ^ (i+(k+1))=sX 4294967296 R (dg 4294967296 A i) B i (k+1) / 4294967296 ^ (i+k) / 4294967296:=by
    rw[ia,←cK];rfl
   have rP:=Rl (b:=4294967296) (R:=R) (a:=dg 4294967296 A i) (B:=B) (i:=i) (k:=k) hb
   rw[xX]
   generalize sX 4294967296 R (dg 4294967296 A i) B i (k+1) / 4294967296 ^ (i+k)=x1 at Hn rP ⊢
   generalize sX 4294967296 R (dg 4294967296 A i) B i k / 4294967296 ^ (i+k)=c at Hn hc ⊢
   have eik:i64.wrap ((i:Int)+(k:Int))=((i+k:Nat):Int):=by rw[ce];omega
   dsimp only[jf]
   rw[cH _ _,aC,aC,eik,aC,ab,aC,ab,bH,bH,bH,hx,hy,gV hi,gV hk16,jQ (by omega),Orow_dg hb,
    iE (n:=dg 4294967296 A i) (by omega),iE (n:=dg 4294967296 B k) (by omega),iE (n:=dg 4294967296 R (i+k)) (by omega),←ir,iE (n:=dg 4294967296 A i*dg 4294967296 B k) (by omega),←kK,iE,←kK,iE,←Hn,yI,BB,Bw hb (ey _ hb) (by omega),rP,ce]
   rfl)
  (by
   dsimp only[jf]
   rw[cr _ _])
 refine⟨_,PO hb ha,_,hl,?_⟩
 have e1:sX 4294967296 R (dg 4294967296 A i) B i m=R+dg 4294967296 A i*B*4294967296 ^ i:=by
  unfold sX;rw[eD hR,eD hB]
 have e2:z9 4294967296 R (dg 4294967296 A i) B i m=sX 4294967296 R (dg 4294967296 A i) B i m % 4294967296 ^ (i+m):=by
  unfold z9;rw[eI hR,gS,bw]
 have hO:z9 4294967296 R (dg 4294967296 A i) B i m<4294967296 ^ (i+m):=by rw[e2];exact ey _ (bV hb)
 unfold up1
 rw[eI (bM hO (hJ hb (jM _))),gS,bw,eD hO,e2,bz (_ / _),l8,e1,←hRR,ic (A:=A),bP]
 congr 1
 simp only[eR,xC,bz]
theorem VH {A B n m:Nat}(hn:n≤16)(hm:m≤16)(hA:A<4294967296 ^ n)(hB:B<4294967296 ^ m)(x y:ap)(hx:x.vW=W A)(hy:y.vW=W B):
  bt (jg x y (n:Int) (m:Int)) ((0:Int),Vector.replicate 32 (0:Int))=some (vN 4294967296 32 (A*B)):=by
 have hb:0<(4294967296:Nat):=by decide
 have hl:=sf (b:=jg x y (n:Int) (m:Int)) (s0:=((0:Int),Vector.replicate 32 (0:Int))) (fun i=>((i:Int),vN 4294967296 32 (A % 4294967296 ^ i*B))) n (vN 4294967296 32 (A % 4294967296 ^ n*B))
  (by simp only[gf,nF,gS,tn];rfl)
  (fun i hi=>by
   obtain⟨c,hc,O,h1,h2⟩:=Mul_row (i:=i) (by omega) hm hB x y hx hy
   have eim:i64.wrap ((i:Int)+(m:Int))=((i+m:Nat):Int):=by rw[ce];omega
   dsimp only[jg]
   rw[cH _ _,h1,ab]
   dsimp only
   rw[eim,aC,ab,bH,BA hc,Bw hb hc (by omega),h2,ce]
   rfl)
  (by
   dsimp only[jg]
   rw[cr _ _])
 rw[hl,eD hA]
theorem Mf {a c:Int}(ha:a.natAbs<LIM)(hc:c.natAbs<LIM):jC (enc a) (enc c)=some (enc (a*c)):=by
 obtain⟨n,hn,Tw,Gg⟩:=CI ha
 obtain⟨m,hm,hm1,Tz⟩:=CI hc
 have O3:a.natAbs*c.natAbs<4294967296 ^ 16*4294967296 ^ 16:=CB ha hc
 unfold jC
 rw[vZ,bi ha,bi hc,ab]
 simp only[eQ,c8,aI]
 rw[mf ha,mf hc,Tw,ab,hm1,ab,VH hn hm Gg.1 Tz.1 (enc a) (enc c) (mf ha) (mf hc),ab,vsub 16 16 (by omega),vsub 16 0 (by omega),z16,jY ha,jY hc,gf,nE]
 have hq:a.natAbs*c.natAbs / 4294967296 ^ 16<LIM:=Jw O3
 have hz:(vN 4294967296 16 (a.natAbs*c.natAbs / 4294967296 ^ 16)=W 0)↔a.natAbs*c.natAbs<LIM:=by
  rw[FG hq ym,Jx (by decide)];rfl
 simp only[hz]
 by_cases h:a.natAbs*c.natAbs<LIM
 ·rw[cr _ _ (by simpa using h),jO h,ab]
  congr 2
  rcases Int.natAbs_eq a with e1|e1 <;> rcases Int.natAbs_eq c with e2|e2 <;> skip
  all_goals
   by_cases ha0:a<0 <;> by_cases hc0:c<0 <;> simp only[ha0,hc0,sQ,sP,Ft,c8,sO,kJ,cond_false,Bool.true_beq,Bool.false_beq,ir]
  all_goals (first|(exfalso;omega)|(have ea:(a.natAbs:Int)=a:=(by omega);have ec:(c.natAbs:Int)=c:=(by omega);rw[ea,ec])|(have ea:(a.natAbs:Int)=-a:=(by omega);have ec:(c.natAbs:Int)=c:=(by omega);rw[ea,ec,Fp,Int.neg_neg])|(have ea:(a.natAbs:Int)=a:=(by omega);have ec:(c.natAbs:Int)=-c:=(by omega);rw[ea,ec,CA,Int.neg_neg])|(have ea:(a.natAbs:Int)=-a:=(by omega);have ec:(c.natAbs:Int)=-c:=(by omega);rw[ea,ec,Int.neg_mul_neg])|skip)
 ·rw[cH _ _ (by simpa using h),P0,ab,EV (by rw[pi];exact h)]
end
theorem set16(x y:Int):(#v[x,y,0,0,0,0,0,0,0,0,0,0,0,0,0,0]:Vector Int 16)=((W 0).set! 0 x).set! 1 y:=by
 rw[←z16];rfl
theorem Vg {u:Nat}(hu:u<18446744073709551616):(#v[((u % 4294967296:Nat):Int),((u / 4294967296:Nat):Int),0,0,0,0,0,0,0,0,0,0,0,0,0,0]:Vector Int 16)=W u:=by
 have hb:0<(4294967296:Nat):=by decide
 have hx:u % 4294967296<4294967296:=ey _ hb
 have hy:u / 4294967296<4294967296:=by omega
 rw[set16]
 unfold W
 rw[Bw hb hx (by omega)]
 have e1:up1 4294967296 0 0 (u % 4294967296)=u % 4294967296:=by
  have:=Mv (b:=4294967296) (A:=0) (p:=0) (x:=u % 4294967296)
  rw[mg (by decide)] at this
  omega
 have h:=Mv (b:=4294967296) (A:=u % 4294967296) (p:=1) (x:=u / 4294967296)
 rw[mg (by rw[xA];exact hx),xA,gS,iT,Nat.mod_add_div'] at h
 rw[e1,Bw hb hy (by omega),h]
theorem Oj {n:Int}(h1:-9223372036854775808≤n)(h2:n≤9223372036854775807):g6 n=some (enc n):=by
 have hu:n.natAbs<18446744073709551616:=by omega
 have hL:n.natAbs<LIM:=bM hu (by decide)
 have hc:cnd (decide (n<(0:Int))) (some (u64.wrap (0 - (u64.wrap n)))) (some (u64.wrap n))=some ((n.natAbs:Nat):Int):=by
  rw[gz]
  split
  ·congr 1;rw[IntKind.wrap_u64,IntKind.wrap_u64];omega
  ·congr 1;rw[IntKind.wrap_u64];omega
 unfold g6
 rw[hc,ab,BB,yI,BA,Vg hu,jO hL,ab]
 congr 2
 by_cases h:n<0
 ·simp only[h,sQ,kJ];omega
 ·simp only[h,sP,cond_false];omega
theorem zx {x k l:Nat}(hx:2 ^ k≤x)(h:szp 2 (x / 2 ^ k) l):szp 2 x (l+k):=by
 have hp:0<2 ^ k:=bV (by decide)
 have h0:0<x / 2 ^ k:=Fo hx hp
 have hl:0<l:=by
  rcases sJ l with h1|h1
  ·subst h1;have:=h.1;simp at this;omega
  ·exact h1
 refine⟨?_,fun _=>?_⟩
 ·rw[ip];exact (l7 hp).1 h.1
 ·have:=h.2 hl
  rw[show l+k - 1=(l - 1)+k from by omega,ip]
  exact (qk hp).1 this
def KS:ByteArray:=⟨#[0,1,2,2,3,3,3,3,4,4,4,4,4,4,4,4,5,5,5,5,5,5,5,5,5,5,5,5,5,5,5,5,6,6,6,6,6,6,6,6,6,6,6,6,6,6,6,6,6,6,6,6,6,6,6,6,6,6,6,6,6,6,6,6,7,7,7,7,7,7,7,7,7,7,7,7,7,7,7,7,7,7,7,7,7,7,7,7,7,7,7,7,7,7,7,7,7,7,7,7,7,7,7,7,7,7,7,7,7,7,7,7,7,7,7,7,7,7,7,7,7,7,7,7,7,7,7,7,8,8,8,8,8,8,8,8,8,8,8,8,8,8,8,8,8,8,8,8,8,8,8,8,8,8,8,8,8,8,8,8,8,8,8,8,8,8,8,8,8,8,8,8,8,8,8,8,8,8,8,8,8,8,8,8,8,8,8,8,8,8,8,8,8,8,8,8,8,8,8,8,8,8,8,8,8,8,8,8,8,8,8,8,8,8,8,8,8,8,8,8,8,8,8,8,8,8,8,8,8,8,8,8,8,8,8,8,8,8,8,8,8,8,8,8,8,8,8,8,8,8,8,8,8,8,8,8]⟩
theorem Hl:∀y:Nat,y<256→(KS.data.toList.getD y 0).toNat≤8∧y<2 ^ (KS.data.toList.getD y 0).toNat∧(0<(KS.data.toList.getD y 0).toNat→2 ^ ((KS.data.toList.getD y 0).toNat - 1)≤y):=by decide +kernel
theorem Qt:KS.size=256:=by decide +kernel
theorem len_tab(y:Nat)(hy:y<256):∃l:Nat,sAt KS y=(l:Int)∧l≤8∧szp 2 y l:=
 ⟨_,rfl,(Hl y hy).1,(Hl y hy).2⟩
theorem VK(x:Int):mW x=bnd (S:=Int×Int) (cnd (decide ((65536:Int)≤x)) (some ((mA .u32 x (16:Int),(16:Int)))) (some ((x,(0:Int))))) fun (bn,JG)=>bnd (S:=Int×Int) (cnd (decide ((256:Int)≤bn)) (some ((mA .u32 bn (8:Int),i64.wrap (JG+(8:Int))))) (some ((bn,JG)))) fun (pM,FF)=>gd (0≤u8.wrap (pM)∧u8.wrap (pM)<(KS.size:Int)) (bnd (some (i64.wrap (FF+(i64.wrap (sAt KS (u8.wrap (pM)).toNat))))) fun x6=>some x6):=rfl
theorem u8n {n:Nat}(h:n<256):u8.wrap (n:Int)=(n:Int):=by
 rw[IntKind.wrap_u8];omega
theorem PY {x:Nat}(hx:x<4294967296):∃l:Nat,mW (x:Int)=some (l:Int)∧l≤32∧szp 2 x l:=by
 have h16:∃(y n:Nat),cnd (decide ((65536:Int)≤(x:Int))) (some ((mA .u32 (x:Int) (16:Int),(16:Int)))) (some (((x:Int),(0:Int))))=some ((y:Int),(n:Int))∧y<65536∧n≤16∧∀l,szp 2 y l→szp 2 x (l+n):=by
  rw[gz]
  split
  ·rename_i h
   exact⟨x / 2 ^ 16,16,by rw[show (16:Int)=((16:Nat):Int) from rfl,B8 .u32 x 16 (by decide)],by omega,by omega,fun l hl=>zx (by omega) hl⟩
  ·exact⟨x,0,rfl,by omega,by omega,fun l hl=>hl⟩
 obtain⟨y,n,e1,hy,hn,hs⟩:=h16
 have h8:∃(z m:Nat),cnd (decide ((256:Int)≤(y:Int))) (some ((mA .u32 (y:Int) (8:Int),i64.wrap ((n:Int)+(8:Int))))) (some (((y:Int),(n:Int))))=some ((z:Int),(m:Int))∧z<256∧m≤24∧∀l,szp 2 z l→szp 2 x (l+m):=by
  rw[gz]
  split
  ·rename_i h
   refine⟨y / 2 ^ 8,n+8,?_,by omega,by omega,fun l hl=>?_⟩
   ·rw[show (8:Int)=((8:Nat):Int) from rfl,B8 .u32 y 8 (by decide),ce];rfl
   ·rw[show l+(n+8)=(l+8)+n from by omega]
    exact hs _ (zx (by omega) hl)
  ·exact⟨y,n,rfl,by omega,by omega,hs⟩
 obtain⟨z,m,e2,hz,hm,Mk⟩:=h8
 obtain⟨l,hl1,Gj,hl3⟩:=len_tab z hz
 refine⟨l+m,?_,by omega,Mk l hl3⟩
 rw[VK,e1,ab]
 dsimp only
 rw[e2,ab]
 dsimp only
 rw[u8n hz,Qt,aC ⟨by omega,by omega⟩,bH,hl1,ce (z:=(l:Int)) (by omega),ce,ab]
 congr 1
 omega
theorem G_Lead {x:Nat}(hx:x<4294967296):∃l:Nat,fV (x:Int)=some (((32 - l:Nat)):Int)∧l≤32∧szp 2 x l:=by
 obtain⟨l,h1,h2,h3⟩:=PY hx
 refine⟨l,?_,h2,h3⟩
 unfold fV
 rw[h1,ab,ce]
 congr 1
 omega
theorem G_Bits {a:Int}(ha:a.natAbs<LIM):∃l:Nat,l≤512∧o3 (enc a)=some (l:Int)∧szp 2 a.natAbs l:=by
 obtain⟨n,hn,h1,h2⟩:=CI ha
 unfold o3
 rw[mf ha,h1,ab,v6,bi ha,ab,c8,aI,ab]
 cases n with
 |zero=>
  refine⟨0,by omega,?_,?_⟩
  ·rw[cH _ _];rfl
  ·have:=h2.1
   exact⟨by simpa using this,fun h=>by omega⟩
 |succ k=>
  have hk:k<16:=by omega
  rw[cr _ _,show i64.wrap (((k+1:Nat):Int) - 1)=(k:Int) from by rw[ce];omega,aC,bH,gV hk]
  obtain⟨l,h3,h4,h5⟩:=PY (x:=dg 4294967296 a.natAbs k) dgl
  have hd:dg 4294967296 a.natAbs k=a.natAbs / 2 ^ (32*k):=by
   unfold dg
   have e:(4294967296:Nat) ^ k=2 ^ (32*k):=by rw[Cz]
   rw[←e,eD]
   rw[l7 (bV (by decide)),bz,←cK];exact h2.1
  have wl:2 ^ (32*k)≤a.natAbs:=by
   have:=h2.2 (by omega)
   rw[vL] at this
   rwa[Cz]
  refine⟨l+32*k,by omega,?_,?_⟩
  ·rw[h3,ab,show i64.wrap ((32:Int)*(k:Int))=((32*k:Nat):Int) from by rw[ce];omega,ce]
   congr 1;omega
  ·rw[hd] at h5;exact zx wl h5
theorem SJ {A:Nat}(hA:A<18446744073709551616):ior .u64 (zI .u64 (u64.wrap ((W A)[((1:Int)).toNat]!)) (32:Int)) (u64.wrap ((W A)[((0:Int)).toNat]!))=(A:Int):=by
 have e1:(W A)[((1:Int)).toNat]! =(dg 4294967296 A 1:Int):=gV (by decide)
 have e0:(W A)[((0:Int)).toNat]! =(dg 4294967296 A 0:Int):=gV (by decide)
 have h1:=@dgl A 1
 have h0:=@dgl A 0
 rw[e1,e0,iE,iE,KB h1,KW h0 h1]
 have e:dg 4294967296 A 1*4294967296+dg 4294967296 A 0=A:=by
  unfold dg
  rw[xA,gf,nE]
  omega
 rw[e]
theorem PX {a:Int}(ha:a.natAbs<LIM):lR (enc a)=some (if -9223372036854775808≤a∧a<9223372036854775808 then (a,true) else (0,false)):=by
 obtain⟨l,hl,h1,h2⟩:=G_Bits ha
 have e64:(2:Nat) ^ 64=18446744073709551616:=by decide
 have hl64:64<l↔¬a.natAbs<18446744073709551616:=by
  constructor
  ·intro h h3
   have:=Mx (b:=2) (by decide) h2 (k:=64) (by rw[e64];exact h3)
   omega
  ·intro h
   rcases d9 64 l with h3|h3
   ·exact h3
   ·have h4:=h2.1
    have h5:2 ^ l≤2 ^ 64:=hJ (by decide) h3
    rw[e64] at h5
    exact absurd (bM h4 h5) h
 unfold lR
 rw[v6,bi ha,ab,c8,aI,h1,ab,ab]
 by_cases h:a.natAbs<18446744073709551616
 ·rw[cr _ _ (by have:=mt hl64.1 (fun hh=>hh h);omega),ab,mf ha,SJ h,jY ha]
  by_cases hn:a<0
  ·simp only[hn,sQ,gN,c8,aI,ab]
   by_cases h3:a.natAbs≤9223372036854775808
   ·rw[cH _ _,ifp_,show (0:Int) - (a.natAbs:Int)=a from by omega,IntKind.wrap_u64]
    rw[show i64.wrap (a % 18446744073709551616)=a from by rw[IntKind.wrap_i64];omega]
   ·rw[cr _ _,ifn_]
  ·rw[bm hn,aI,ab,aI,sO,gN,ab]
   have ea:(a.natAbs:Int)=a:=by omega
   rw[ea]
   by_cases h3:a<9223372036854775808
   ·rw[cH _ _ h3,ah ⟨by omega,h3⟩,ce ⟨by omega,by omega⟩]
   ·rw[cr _ _ h3,ai (fun hh=>h3 hh.2)]
 ·rw[cH _ _ (by have:=hl64.2 h;omega),ifn_]
def vF(n:Nat)(f:Nat→Nat):Vector Int n:=Vector.ofFn fun i=>(f i.val:Int)
theorem wZ {n j:Nat}{f:Nat→Nat}(h:j<n):(vF n f)[j]! =(f j:Int):=by
 rw[bT (vF n f) j h]
 unfold vF
 rw[N5]
theorem RU {n:Nat}{f g:Nat→Nat}(h:∀j,j<n→f j=g j):vF n f=vF n g:=by
 apply oR
 intro j hj
 rw[wZ hj,wZ hj,h j hj]
theorem vF_set {n p x:Nat}{f:Nat→Nat}:(vF n f).set! p (x:Int)=vF n (fun j=>if j=p then x else f j):=by
 apply oR
 intro j hj
 rw[qD hj,wZ hj,wZ hj]
 split <;> rfl
theorem vF_dg {b n A:Nat}:vF n (dg b A)=vN b n A:=rfl
theorem IY {X V n d:Nat}(hn:2≤n)(hV:2147483648*4294967296 ^ (n - 1)≤V)(hX:X<V*4294967296)
  (EM:min (X / 4294967296 ^ (n - 2) / (V / 4294967296 ^ (n - 2))) 4294967295≤d) (O7:d*(V / 4294967296 ^ (n - 2))≤X / 4294967296 ^ (n - 2)):X / V≤d∧d≤X / V+1:=by
 have hp:0<4294967296 ^ (n - 2):=bV (by decide)
 have e1:(4294967296:Nat) ^ (n - 1)=4294967296 ^ (n - 2)*4294967296:=by rw[←cK];congr 1;omega
 rw[e1] at hV
 generalize 4294967296 ^ (n - 2)=P at*
 have Gp:0<V:=bM (yZ (by decide) (yZ hp (by decide))) hV
 have S5:2147483648*4294967296≤V / P:=by
  rw[qk hp]
  calc 2147483648*4294967296*P=2147483648*(P*4294967296):=by rw[eR,bz 4294967296 P]
   _≤V:=hV
 have hv20:0<V / P:=by omega
 have hVP:=l8 V P
 have hVm:=ey V hp
 have hXP:=l8 X P
 have hXm:=ey X hp
 have hq1:X / V≤X / P / (V / P):=by
  rw[ia]
  refine Nat.div_le_div_left ?_ (yZ hp hv20)
  omega
 have hq2:X / V<4294967296:=(l7 Gp).2 (by rw[bz];exact hX)
 refine⟨by omega,?_⟩
 -- d V is not much more than X
 have DI:d*(V / P)*P≤X:=by
  have:=cz P O7
  rw[bz (X / P)] at this
  omega
 have hXP2:X / P<(V / P+1)*4294967296:=by
  rw[l7 hp]
  have h1:V<(V / P+1)*P:=by rw[bP,fk,bz (V / P)];omega
  calc X<V*4294967296:=hX
   _≤(V / P+1)*P*4294967296:=cz _ (mL h1)
   _=(V / P+1)*4294967296*P:=by rw[eR,bz P,←eR]
 have hdb:d≤4294967296:=by
  rcases d9 4294967296 d with h|h
  ·have:4294967297*(V / P)≤d*(V / P):=cz _ h
   omega
  ·exact h
 have h2:d*(V % P)≤4294967296*P:=kL hdb (mL hVm)
 have h3:d*V=d*(V / P)*P+d*(V % P):=by
  conv=>lhs;rw[←hVP]
  rw[vM,bz P,eR]
 have h4:d*V≤X+V:=by
  rw[h3]
  have h6:4294967296*P≤V:=by
   refine dm ?_ hV
   rw[bz P,←eR]
   exact cz _ (by decide)
  exact Nat.add_le_add DI (dm h2 h6)
 rcases sJ d with h0|h0
 ·rw[h0];exact cy _
 ·have h5:(d - 1)*V≤X:=by rw[Nat.sub_mul,fk];omega
  have:=(qk Gp).2 h5
  omega
theorem gA1 {y r u z:Nat}(h:r*4294967296+u<z):(y+r)*4294967296+u<y*4294967296+z:=by
 rw[bP,xE];exact Fu h _
theorem gA2 {y r u z:Nat}(h:z≤r*4294967296+u):y*4294967296+z≤(y+r)*4294967296+u:=by
 rw[bP,xE];exact Nat.add_le_add_left h _
theorem gA3 {y r u z:Nat}(h:4294967296≤r)(hz:z≤4294967295*4294967295):y*4294967296+z≤(y+r)*4294967296+u:=by
 have h1:z≤r*4294967296:=dm hz (dm (kL (by decide) (by decide)) (cz _ h))
 rw[bP,xE]
 exact Nat.add_le_add_left (dm h1 (tF _ _)) _
theorem pG {n:Nat}(h:n≤34359738368:=by omega):n<18446744073709551616:=by omega
theorem lt64p {n:Nat}(h:n≤4294967295*4294967295):n<18446744073709551616:=by omega
theorem guessB {d r f x0 x1:Nat}(h:d*f+r=x0*4294967296+x1)(hf:2147483648≤f)(h0:x0<4294967296)(h1:x1<4294967296):d≤8589934592:=by
 have:=Ba d hf
 omega
theorem guessT {x0 x1 f:Nat}(h0:x0<4294967296)(h1:x1<4294967296):(x0*4294967296+x1) / f<18446744073709551616:=
 dM (pj _ _) (by omega)
theorem G_guess {U V n j:Nat}(hn:2≤n)(K3:n≤16)(hj:j+n≤16)(hV:2147483648*4294967296 ^ (n - 1)≤V)(GS:V<4294967296 ^ n)(hU:U / 4294967296 ^ j<V*4294967296):
  ∃d:Nat,d<4294967296∧jd (W V) (n:Int) (j:Int) (vN 4294967296 17 U)=some (d:Int)∧U / 4294967296 ^ j / V≤d∧d≤U / 4294967296 ^ j / V+1:=by
 have hb:0<(4294967296:Nat):=by decide
 generalize hX:U / 4294967296 ^ j=X at hU
 -- r4 digits that it looks at
 have du:∀i,dg 4294967296 U (j+i)=dg 4294967296 X i:=fun i=>by
  unfold dg;rw[←hX,ia,←ip]
 have hXlt:X<4294967296 ^ (n+1):=by
  rw[cK];exact bM hU (cz _ (mL GS))
 have s1:=cG (b:=4294967296) (A:=X) (k:=n - 2)
 have s2:=cG (b:=4294967296) (A:=X) (k:=n - 1)
 have s3:=cG (b:=4294967296) (A:=X) (k:=n)
 rw[eI hXlt,gS,bw] at s3
 rw[show n - 2+1=n - 1 from by omega] at s1
 rw[show n - 1+1=n from by omega,s3] at s2
 have w1:=cG (b:=4294967296) (A:=V) (k:=n - 2)
 have w2:=cG (b:=4294967296) (A:=V) (k:=n - 1)
 rw[show n - 2+1=n - 1 from by omega] at w1
 rw[show n - 1+1=n from by omega,eI GS,gS,bw] at w2
 have Ga:=@dgl X n
 have Hn:=@dgl X (n - 1)
 have xX:=@dgl X (n - 2)
 have hv1:=@dgl V (n - 1)
 have S5:=@dgl V (n - 2)
 have Na:2147483648≤dg 4294967296 V (n - 1):=by
  rw[←w2,qk (bV hb)];exact hV
 -- r4 two highest digits against r4 highest one
 have hp:0<4294967296 ^ (n - 2):=bV hb
 have htop:X / 4294967296 ^ (n - 1)≤V / 4294967296 ^ (n - 2):=by
  have e1:(4294967296:Nat) ^ (n - 1)=4294967296 ^ (n - 2)*4294967296:=by rw[←cK];congr 1;omega
  have h1:X / 4294967296 ^ (n - 1)*4294967296 ^ (n - 1)≤X:=NX _ _
  rw[qk hp]
  rw[e1] at h1
  have h2:X / 4294967296 ^ (n - 1)*4294967296 ^ (n - 2)*4294967296<V*4294967296:=by
   rw[eR]
   exact dM (by rw[e1];exact h1) hU
  exact mL (Nat.lt_of_mul_lt_mul_right h2)
 rw[s2,w1,w2] at htop
 obtain⟨x,hl,d,rfl,hdb,EM,O7⟩:=wh (b:=jW (W V) (n:Int) (j:Int) (vN 4294967296 17 U) ((dg 4294967296 V (n - 1):Nat):Int)) (fun s=>∃d r:Nat,s=((d:Int),(r:Int))∧d*dg 4294967296 V (n - 1)+r=X / 4294967296 ^ (n - 1)∧min (X / 4294967296 ^ (n - 2) / (V / 4294967296 ^ (n - 2))) 4294967295≤d) (fun s=>4294967296 - s.2.toNat)
  (fun x=>∃d:Nat,x=(d:Int)∧d<4294967296∧min (X / 4294967296 ^ (n - 2) / (V / 4294967296 ^ (n - 2))) 4294967295≤d∧d*(V / 4294967296 ^ (n - 2))≤X / 4294967296 ^ (n - 2))
  (by
   rintro s ⟨d,r,rfl,hdr,EM⟩
   have hmul:d*(V / 4294967296 ^ (n - 2))=d*dg 4294967296 V (n - 1)*4294967296+d*dg 4294967296 V (n - 2):=by
    rw[w1,w2,vM,eR]
   have hdB:d≤8589934592:=guessB (by rw[hdr,s2]) Na Ga Hn
   have ei2:i64.wrap ((n:Int) - (2:Int))=((n - 2:Nat):Int):=by rw[ce];omega
   have eij2:i64.wrap ((i64.wrap ((j:Int)+(n:Int))) - (2:Int))=((j+(n - 2):Nat):Int):=by rw[ce (z:=(j:Int)+(n:Int)) (by omega),ce];omega
   dsimp only[jW]
   by_cases hr:r<4294967296
   ·rw[cH _ _]
    by_cases hd:4294967296≤d
    ·left
     refine⟨(((d - 1:Nat):Int),((r+dg 4294967296 V (n - 1):Nat):Int)),?_,⟨d - 1,_,rfl,?_,by omega⟩,by show 4294967296 - (_:Nat)<4294967296 - (_:Nat);rw[bH,bH];omega⟩
     ·rw[cH _ _,ab,gN,show (d:Int) - 1=((d - 1:Nat):Int) from by omega,iE (pG),←kK,iE (pG)]
     ·rw[Nat.sub_mul,fk]
      have:dg 4294967296 V (n - 1)≤d*dg 4294967296 V (n - 1):=vJ _ (by omega)
      omega
    ·have Gl:d*dg 4294967296 V (n - 2)≤4294967295*4294967295:=kL (by omega) (by omega)
     rw[cr _ _,ei2,aC,eij2,aC,bH,bH,jQ (by omega),gV (by omega),du,iE (n:=dg 4294967296 X (n - 2)) (pG),iE (n:=dg 4294967296 V (n - 2)) (pG),KB hr,KW xX hr,←ir,iE (lt64p Gl),ab]
     by_cases hc:r*4294967296+dg 4294967296 X (n - 2)<d*dg 4294967296 V (n - 2)
     ·left
      have wK:0<d:=by
       rcases sJ d with h|h
       ·subst h;omega
       ·exact h
      refine⟨(((d - 1:Nat):Int),((r+dg 4294967296 V (n - 1):Nat):Int)),?_,⟨d - 1,_,rfl,?_,?_⟩,by show 4294967296 - (_:Nat)<4294967296 - (_:Nat);rw[bH,bH];omega⟩
      ·rw[cH _ _,show (d:Int) - 1=((d - 1:Nat):Int) from by omega,iE (pG),←kK,iE (pG)]
      ·rw[Nat.sub_mul,fk]
       have:dg 4294967296 V (n - 1)≤d*dg 4294967296 V (n - 1):=vJ _ wK
       omega
      ·have hgt:X / 4294967296 ^ (n - 2)<d*(V / 4294967296 ^ (n - 2)):=by rw[hmul,s1,←hdr];exact gA1 hc
       have:=(l7 (x:=X / 4294967296 ^ (n - 2)) (y:=d) (k:=V / 4294967296 ^ (n - 2)) (by rw[w1,w2];omega)).2 hgt
       omega
     ·right
      refine⟨_,by rw[cr _ _],d,rfl,by omega,EM,?_⟩
      rw[hmul,s1,←hdr];exact gA2 (Nat.le_of_not_lt hc)
   ·right
    have hdlt:d<4294967296:=by
     rcases d9 d 4294967296 with h|h
     ·exact h
     ·have:4294967296*dg 4294967296 V (n - 1)≤d*dg 4294967296 V (n - 1):=cz _ h
      omega
    have Gl:d*dg 4294967296 V (n - 2)≤4294967295*4294967295:=kL (by omega) (by omega)
    refine⟨_,by rw[cr _ _,ab,aI],d,rfl,hdlt,EM,?_⟩
    rw[hmul,s1,←hdr];exact gA3 (Nat.le_of_not_lt hr) Gl)
  (((X / 4294967296 ^ (n - 1) / dg 4294967296 V (n - 1):Nat):Int),((X / 4294967296 ^ (n - 1) % dg 4294967296 V (n - 1):Nat):Int))
  ⟨_,_,rfl,by rw[bz];exact l8 _ _,by
   have h0:X / 4294967296 ^ (n - 2) / (V / 4294967296 ^ (n - 2))≤X / 4294967296 ^ (n - 1) / dg 4294967296 V (n - 1):=by
    rw[qk (by omega)]
    have h1:=NX (X / 4294967296 ^ (n - 2)) (V / 4294967296 ^ (n - 2))
    generalize X / 4294967296 ^ (n - 2) / (V / 4294967296 ^ (n - 2))=q at h1 ⊢
    rw[w1,w2,s1,vM,←eR] at h1
    generalize q*dg 4294967296 V (n - 1)=y at h1 ⊢
    omega
   omega⟩
 obtain⟨h1,h2⟩:=IY hn hV hU EM O7
 refine⟨d,hdb,?_,h1,h2⟩
 have ejn:i64.wrap ((j:Int)+(n:Int))=((j+n:Nat):Int):=by rw[ce];omega
 have ejn1:i64.wrap (((j+n:Nat):Int) - (1:Int))=((j+(n - 1):Nat):Int):=by rw[ce];omega
 have en1:i64.wrap ((n:Int) - (1:Int))=((n - 1:Nat):Int):=by rw[ce];omega
 unfold jd
 rw[ejn,aC,ejn1,aC,en1,bH,bH,bH,jQ (by omega),jQ (by omega),gV (by omega),du,du,iE (n:=dg 4294967296 X n) (pG),iE (n:=dg 4294967296 X (n - 1)) (pG),iE (n:=dg 4294967296 V (n - 1)) (pG),KB Ga,KW Hn Ga,ab,aC,ab,aC,aC,←tZ,←tY]
 rw[iE (guessT Ga Hn),←s2,hl,ab]
def AG(j i U D p:Nat):Nat:=if p<j then dg 4294967296 U p else if p<j+i then dg 4294967296 D (p - j) else dg 4294967296 U p
theorem mix0 {j U D:Nat}:AG j 0 U D=dg 4294967296 U:=by
 funext p
 unfold AG
 split
 ·rfl
 ·rw[ifn_]
theorem IC {j i U D:Nat}:AG j i U D (j+i)=dg 4294967296 U (j+i):=by
 unfold AG
 rw[ifn_,ifn_]
theorem DF {n j i U D:Nat}:(vF n (AG j i U D)).set! (j+i) (dg 4294967296 D i:Int)=vF n (AG j (i+1) U D):=by
 rw[vF_set]
 apply RU
 intro p hp
 by_cases h:p=j+i
 ·subst h
  rw[ah rfl]
  unfold AG
  rw[ifn_,ifp_]
  congr 1;omega
 ·rw[ai h]
  unfold AG
  by_cases h1:p<j
  ·rw[ah h1,ah h1]
  ·rw[ai h1,ai h1]
   by_cases h2:p<j+i
   ·rw[ah h2,ifp_]
   ·rw[ai h2,ifn_]
theorem OR {n j i U D:Nat}(hU:U<4294967296 ^ (i+j))(hD:D<4294967296 ^ i):vF n (AG j i U D)=vN 4294967296 n (D*4294967296 ^ j+U % 4294967296 ^ j):=by
 have hb:0<(4294967296:Nat):=by decide
 rw[←vF_dg]
 apply RU
 intro p _
 unfold AG
 by_cases h1:p<j
 ·rw[ah h1,←n4 (A:=D*_+_) h1,NW,CC,n4 h1]
 ·rw[ai h1]
  have e:dg 4294967296 (D*4294967296 ^ j+U % 4294967296 ^ j) p=dg 4294967296 D (p - j):=by
   obtain⟨q,rfl⟩:∃q,p=j+q:=⟨p - j,by omega⟩
   unfold dg
   rw[ip,←ia,bz D,Fq (bV hb),eI (ey _ (bV hb)),iT,PG]
  rw[e]
  by_cases h2:p<j+i
  ·rw[ah h2]
  ·rw[ai h2,mg (bM hU (hJ hb (by omega))),mg (bM hD (hJ hb (by omega)))]
theorem LA {D P i:Nat}:∃x:Nat,u64.wrap (u64.wrap ((dg 4294967296 (D+P) i:Int) - (dg 4294967296 P i:Int)) - (((D % 4294967296 ^ i+P % 4294967296 ^ i) / 4294967296 ^ i:Nat):Int))=(x:Int)∧x / 9223372036854775808=(D % 4294967296 ^ (i+1)+P % 4294967296 ^ (i+1)) / 4294967296 ^ (i+1)∧x % 4294967296=dg 4294967296 D i:=by
 have hc:=pb (b:=4294967296) (A:=D) (B:=P) (k:=i) (by decide)
 obtain⟨h1,h2⟩:=qm (b:=4294967296) (A:=D) (B:=P) (k:=i) (by decide)
 have ha:=@dgl D i
 have hb:=@dgl P i
 have hd:=@dgl (D+P) i
 generalize (D % 4294967296 ^ i+P % 4294967296 ^ i) / 4294967296 ^ i=c at h1 h2 hc ⊢
 generalize (D % 4294967296 ^ (i+1)+P % 4294967296 ^ (i+1)) / 4294967296 ^ (i+1)=c' at h2 ⊢
 rw[IntKind.wrap_u64,IntKind.wrap_u64]
 exact⟨((((dg 4294967296 (D+P) i:Int) - (dg 4294967296 P i:Int)) % 18446744073709551616 - (c:Int)) % 18446744073709551616).toNat,by omega,by omega,by omega⟩
theorem lt64m {c p d:Nat}(hc:c≤d)(hp:p<4294967296)(hd:d<4294967296):c+p*d<18446744073709551616:=by
 have h1:p*d≤4294967295*4294967295:=kL (by omega) (by omega)
 omega
theorem VT {U V D n j d:Nat}(K3:n≤16)(hj:j+n≤16)(GS:V<4294967296 ^ n)(hU:U<4294967296 ^ (n+1+j))(hd:d<4294967296)(hD:D<4294967296 ^ (n+1))
  (RC:D+V*d=U / 4294967296 ^ j+(if U / 4294967296 ^ j<V*d then 4294967296 ^ (n+1) else 0)):
  ke (W V) (n:Int) (j:Int) (d:Int) (vN 4294967296 17 U)=some (decide (U / 4294967296 ^ j<V*d),vN 4294967296 17 (D*4294967296 ^ j+U % 4294967296 ^ j)):=by
 have hb:0<(4294967296:Nat):=by decide
 generalize hZ:U / 4294967296 ^ j=Z at RC ⊢
 have QW:Z<4294967296 ^ (n+1):=by
  rw[←hZ];exact Jw (by rw[←ip,qR];exact hU)
 have dz:∀i,i<n+1→dg 4294967296 (D+V*d) i=dg 4294967296 U (j+i):=fun i hi=>by
  have e1:dg 4294967296 U (j+i)=dg 4294967296 Z i:=by
   unfold dg;rw[←hZ,ia,←ip]
  rw[e1,←n4 (A:=D+V*d) hi,←n4 (A:=Z) hi,RC]
  split
  ·rw[Nat.add_mod_right]
  ·rw[iT]
 have hcle:∀i,V % 4294967296 ^ i*d / 4294967296 ^ i≤d:=fun i=>
  dm (NY (cz d (mL (ey V (bV hb))))) (by rw[NV _ (bV hb)];exact az _)
 have hl:=sf (b:=jz (W V) (n:Int) (j:Int) (d:Int)) (s0:=((0:Int),(0:Int),(0:Int),vN 4294967296 17 U)) (fun i=>((V % 4294967296 ^ i*d / 4294967296 ^ i:Nat),((D % 4294967296 ^ i+V*d % 4294967296 ^ i) / 4294967296 ^ i:Nat),(i:Int),vF 17 (AG j i U D))) n ((V % 4294967296 ^ n*d / 4294967296 ^ n:Nat),((D % 4294967296 ^ n+V*d % 4294967296 ^ n) / 4294967296 ^ n:Nat),vF 17 (AG j n U D))
  (by simp only[gf,nF,gS,Nat.zero_div,mix0];rfl)
  (fun i hi=>by
   obtain⟨h1,h2⟩:=Hi (b:=4294967296) (A:=V) (k:=i) (m:=d) hb
   obtain⟨x,Hn,xX,hx3⟩:=LA (D:=D) (P:=V*d) (i:=i)
   have bO:=lt64m (hcle i) (@dgl V i) hd
   have hp:=@dgl (V*d) i
   have hz:=@dgl U (j+i)
   have hv:=@dgl V i
   have eij:i64.wrap ((j:Int)+(i:Int))=((j+i:Nat):Int):=by rw[ce];omega
   rw[dz i (by omega)] at Hn
   have hvd:dg 4294967296 V i*d<18446744073709551616:=dM (Nat.le_add_left _ _) bO
   dsimp only[jz]
   rw[cH _ _,aC,ab,eij,aC,ab,aC,ab,bH,bH,gV (by omega),wZ (by omega),IC,iE (n:=dg 4294967296 V i) (pG),←ir,bz d,iE hvd,←kK,iE bO,BB,h1,yI,h2,iE (n:=dg 4294967296 (V*d) i) (pG),iE (n:=dg 4294967296 U (j+i)) (pG),Hn,R7,xX,BB,hx3,DF,ce]
   rfl)
  (by
   dsimp only[jz]
   rw[cr _ _])
 obtain⟨x,Hn,xX,hx3⟩:=LA (D:=D) (P:=V*d) (i:=n)
 have hP:V*d<4294967296 ^ (n+1):=by
  rw[cK];exact CB GS hd
 have DJ:V % 4294967296 ^ n*d / 4294967296 ^ n=dg 4294967296 (V*d) n:=by
  rw[eD GS]
  unfold dg
  rw[eD]
  exact Jw (by rw[←cK];exact hP)
 have hbor:(D % 4294967296 ^ (n+1)+V*d % 4294967296 ^ (n+1)) / 4294967296 ^ (n+1)=if Z<V*d then 1 else 0:=by
  rw[eD hD,eD hP,RC]
  split
  ·rw[Nat.add_div_right _ (bV hb),eI QW]
  ·rw[iT,eI QW]
 have ejn:i64.wrap ((j:Int)+(n:Int))=((j+n:Nat):Int):=by rw[ce];omega
 have hz:=@dgl U (j+n)
 rw[dz n (by omega)] at Hn
 unfold ke
 rw[hl,ab]
 dsimp only
 rw[ejn,aC,ab,aC,ab,bH,wZ (by omega),IC,iE (n:=dg 4294967296 U (j+n)) (pG),DJ,Hn,R7,xX,BB,hx3,DF,OR hU hD,hbor]
 congr 2
 by_cases h:Z<V*d
 ·simp[h]
 ·simp[h]
theorem G_give {U V D n j:Nat}(K3:n≤16)(hj:j+n≤16)(GS:V<4294967296 ^ n)(hU:U<4294967296 ^ (n+1+j))(hD:D=(U / 4294967296 ^ j+V) % 4294967296 ^ (n+1)):
  ku (W V) (n:Int) (j:Int) (vN 4294967296 17 U)=some (vN 4294967296 17 (D*4294967296 ^ j+U % 4294967296 ^ j)):=by
 have hb:0<(4294967296:Nat):=by decide
 have hDlt:D<4294967296 ^ (n+1):=by rw[hD];exact ey _ (bV hb)
 generalize hZ:U / 4294967296 ^ j=Z at hD
 have dz:∀i,dg 4294967296 U (j+i)=dg 4294967296 Z i:=fun i=>by
  unfold dg;rw[←hZ,ia,←ip]
 have dD:∀i,i<n+1→dg 4294967296 (Z+V) i=dg 4294967296 D i:=fun i hi=>by rw[hD,n4 hi]
 have hl:=sf (b:=jB (W V) (n:Int) (j:Int)) (s0:=((0:Int),(0:Int),vN 4294967296 17 U)) (fun i=>(((Z % 4294967296 ^ i+V % 4294967296 ^ i) / 4294967296 ^ i:Nat),(i:Int),vF 17 (AG j i U D))) n (((Z % 4294967296 ^ n+V % 4294967296 ^ n) / 4294967296 ^ n:Nat),vF 17 (AG j n U D))
  (by simp only[gf,nF,mix0];rfl)
  (fun i hi=>by
   have hc:=pb (b:=4294967296) (A:=Z) (B:=V) (k:=i) hb
   obtain⟨h1,h2⟩:=qm (b:=4294967296) (A:=Z) (B:=V) (k:=i) hb
   have hz:=@dgl Z i
   have hv:=@dgl V i
   have eij:i64.wrap ((j:Int)+(i:Int))=((j+i:Nat):Int):=by rw[ce];omega
   generalize (Z % 4294967296 ^ i+V % 4294967296 ^ i) / 4294967296 ^ i=c at h1 h2 hc ⊢
   generalize (Z % 4294967296 ^ (i+1)+V % 4294967296 ^ (i+1)) / 4294967296 ^ (i+1)=c' at h2 ⊢
   dsimp only[jB]
   rw[cH _ _,eij,aC,aC,ab,aC,ab,bH,bH,gV (by omega),wZ (by omega),IC,dz,iE (n:=dg 4294967296 V i) (pG),iE (n:=dg 4294967296 Z i) (pG),←kK,iE (pG),←kK,iE (pG),←xE,yI,BB,h1,h2,dD i (by omega),DF,ce]
   rfl)
  (by
   dsimp only[jB]
   rw[cr _ _])
 have hc:=pb (b:=4294967296) (A:=Z) (B:=V) (k:=n) hb
 obtain⟨h1,h2⟩:=qm (b:=4294967296) (A:=Z) (B:=V) (k:=n) hb
 rw[mg GS,iT,dD n (by omega)] at h1
 have hz:=@dgl Z n
 have ejn:i64.wrap ((j:Int)+(n:Int))=((j+n:Nat):Int):=by rw[ce];omega
 unfold ku
 rw[hl,ab]
 dsimp only
 generalize (Z % 4294967296 ^ n+V % 4294967296 ^ n) / 4294967296 ^ n=c at h1 hc ⊢
 rw[ejn,aC,aC,ab,bH,wZ (by omega),IC,dz,BA (n:=c) (by omega),←kK,qR (dg 4294967296 Z n),BB,h1,DF,OR hU hDlt]
theorem Ql {U V n j:Nat}(hn:2≤n)(hj:j+n≤16)(hV:2147483648*4294967296 ^ (n - 1)≤V)(GS:V<4294967296 ^ n)(hU:U / 4294967296 ^ j<V*4294967296):
  (bnd (jd (W V) (n:Int) (j:Int) (vN 4294967296 17 U)) fun Dx=>bnd (S:=Int×(Vector Int 17)) (bnd (ke (W V) (n:Int) (j:Int) Dx (vN 4294967296 17 U)) fun Dw=>cnd Dw.1 (bnd (ku (W V) (n:Int) (j:Int) Dw.2) fun Mi=>some ((u64.wrap (Dx - (1:Int)),Mi))) (some ((Dx,Dw.2)))) fun y=>some y)=some (((U / 4294967296 ^ j / V:Nat):Int),vN 4294967296 17 (U / 4294967296 ^ j % V*4294967296 ^ j+U % 4294967296 ^ j))∧U / 4294967296 ^ j / V<4294967296:=by
 have hb:0<(4294967296:Nat):=by decide
 obtain⟨d,hdb,hg,DI,yR⟩:=G_guess hn (by omega) hj hV GS hU
 have Gp:0<V:=bM (yZ (by decide) (bV hb)) hV
 have hp:0<4294967296 ^ j:=bV hb
 have QW:U / 4294967296 ^ j<4294967296 ^ (n+1):=by
  rw[cK];exact bM hU (cz _ (mL GS))
 have hUlt:U<4294967296 ^ (n+1+j):=by
  rw[ip];exact (l7 hp).1 QW
 have hVd:V*d<4294967296 ^ (n+1):=by
  rw[cK];exact CB GS hdb
 have hq:U / 4294967296 ^ j / V<4294967296:=by omega
 refine⟨?_,hq⟩
 have hm:=l8 (U / 4294967296 ^ j) V
 have hml:=ey (U / 4294967296 ^ j) Gp
 rw[hg,ab]
 by_cases bO:U / 4294967296 ^ j<V*d
 ·-- one too many
  have hdq:d=U / 4294967296 ^ j / V+1:=by
   rcases d9 (U / 4294967296 ^ j / V) d with h|h
   ·omega
   ·have h1:V*d≤V*(U / 4294967296 ^ j / V):=Ba _ h
    omega
  have ht:=VT (U:=U) (V:=V) (D:=U / 4294967296 ^ j+4294967296 ^ (n+1) - V*d) (n:=n) (j:=j) (d:=d) (by omega) hj GS hUlt hdb (by omega) (by rw[ah bO];omega)
  rw[ht,aB bO,ab,gN]
  dsimp only
  generalize hD:U / 4294967296 ^ j+4294967296 ^ (n+1) - V*d=D
  have hDlt:D<4294967296 ^ (n+1):=by omega
  have e1:(D*4294967296 ^ j+U % 4294967296 ^ j) / 4294967296 ^ j=D:=by
   rw[bz,Fq hp,eI (ey _ hp),iT]
  have e2:(D*4294967296 ^ j+U % 4294967296 ^ j) % 4294967296 ^ j=U % 4294967296 ^ j:=by
   rw[NW,CC]
  have e3:(D+V) % 4294967296 ^ (n+1)=U / 4294967296 ^ j % V:=by
   have:D+V=U / 4294967296 ^ j % V+4294967296 ^ (n+1):=by
    rw[hdq,vM,zb] at hD bO
    omega
   rw[this,Nat.add_mod_right,eD]
   exact dM (Nat.mod_le _ _) QW
  have hgv:=G_give (U:=D*4294967296 ^ j+U % 4294967296 ^ j) (V:=V) (D:=U / 4294967296 ^ j % V) (n:=n) (j:=j) (by omega) hj GS (by
   rw[ip]
   have h1:(D+1)*4294967296 ^ j≤4294967296 ^ (n+1)*4294967296 ^ j:=cz _ hDlt
   rw[bP,fk] at h1
   have:=ey U hp
   omega) (by rw[e1,e3])
  rw[hgv,ab,ab,e2,show ((d:Nat):Int) - 1=((U / 4294967296 ^ j / V:Nat):Int) from by omega,iE (pG)]
 ·have hdq:d=U / 4294967296 ^ j / V:=by
   have h1:d≤U / 4294967296 ^ j / V:=(qk Gp).2 (by rw[bz];omega)
   omega
  have ht:=VT (U:=U) (V:=V) (D:=U / 4294967296 ^ j % V) (n:=n) (j:=j) (d:=d) (by omega) hj GS hUlt hdb (dM (Nat.mod_le _ _) QW) (by rw[ai bO,hdq];omega)
  rw[ht,bm bO,ab,aI,ab,hdq]
theorem Sm {U V n k:Nat}(hn:2≤n)(hk:k+n≤17)(hV:2147483648*4294967296 ^ (n - 1)≤V)(GS:V<4294967296 ^ n)(hU:U / 4294967296 ^ k<V)(y:Int):
  bt (fb (n:Int) (W V,y)) ((k:Int) - 1,W 0,vN 4294967296 17 U)=some (W (U / V),vN 4294967296 17 (U % V)):=by
 have hb:0<(4294967296:Nat):=by decide
 have Gp:0<V:=bM (yZ (by decide) (bV hb)) hV
 have hl:=SK (b:=fb (n:Int) (W V,y)) (s0:=((k:Int) - 1,W 0,vN 4294967296 17 U)) (fun i=>((i:Int) - 1,vN 4294967296 16 (U / V / 4294967296 ^ i*4294967296 ^ i),vN 4294967296 17 (U / 4294967296 ^ i % V*4294967296 ^ i+U % 4294967296 ^ i))) k (vN 4294967296 16 (U / V / 4294967296 ^ 0*4294967296 ^ 0),vN 4294967296 17 (U / 4294967296 ^ 0 % V*4294967296 ^ 0+U % 4294967296 ^ 0))
  (by
   have e1:U / V / 4294967296 ^ k=0:=by
    rw[ia,bz,←ia,eI hU]
   have e2:U / 4294967296 ^ k % V*4294967296 ^ k+U % 4294967296 ^ k=U:=by
    rw[eD hU,bz];exact l8 _ _
   rw[e1,e2,gS])
  (fun i hi=>by
   have hp:0<4294967296 ^ i:=bV hb
   obtain⟨h1,h2⟩:=zB (b:=4294967296) (A:=U) (k:=i) (d:=V) hb Gp
   have eR1:(U / 4294967296 ^ (i+1) % V*4294967296 ^ (i+1)+U % 4294967296 ^ (i+1)) / 4294967296 ^ i=U / 4294967296 ^ (i+1) % V*4294967296+dg 4294967296 U i:=by
    rw[ic,cK,←eR,Fm,qR (U % _),←xE,bz (4294967296 ^ i) (dg _ _ _),←bP,bz (_+_) (4294967296 ^ i),Fq hp,eI (ey _ hp),iT]
   have eR2:(U / 4294967296 ^ (i+1) % V*4294967296 ^ (i+1)+U % 4294967296 ^ (i+1)) % 4294967296 ^ i=U % 4294967296 ^ i:=by
    rw[ic,cK,←eR,Fm,qR (U % _),←xE,bz (4294967296 ^ i) (dg _ _ _),←bP,NW,CC]
   have bO:(U / 4294967296 ^ (i+1) % V*4294967296 ^ (i+1)+U % 4294967296 ^ (i+1)) / 4294967296 ^ i<V*4294967296:=by
    rw[eR1]
    have h3:=ey (U / 4294967296 ^ (i+1)) Gp
    have h4:(U / 4294967296 ^ (i+1) % V+1)*4294967296≤V*4294967296:=cz _ h3
    rw[bP,fk] at h4
    exact bM (Fu dgl _) h4
   obtain⟨hq,hqb⟩:=Ql (j:=i) hn (by omega) hV GS bO
   rw[eR1,h1,h2,eR2] at hq
   rw[eR1,h1] at hqb
   have ei:((i+1:Nat):Int) - 1=(i:Int):=by omega
   dsimp only[fb]
   rw[ei,cH _ _]
   -- r4 digit
   revert hq
   generalize vN 4294967296 17 (U / 4294967296 ^ (i+1) % V*4294967296 ^ (i+1)+U % 4294967296 ^ (i+1))=uv
   intro hq
   obtain⟨d,e1,hq⟩:=ae hq
   rw[vw] at hq
   rw[e1,ab,hq,ab]
   dsimp only
   rw[aC,bH,BA hqb,Ov hb (by omega),ce])
  (by
   dsimp only[fb]
   rw[cr _ _])
 rw[hl]
 simp only[gf,nE,zb,nF,iT]
theorem build17 {A s:Nat}(hA:A<LIM)(hs:s<32):(vOf 17 (lCp (Vector.replicate 17 (0:Int)).toList 0 (List.take 17 (List.take 16 (List.drop 0 (W (A*2 ^ s)).toList))))).set! ((16:Int)).toNat ((A % 4294967296 ^ 16*2 ^ s / 4294967296 ^ 16:Nat):Int)=vN 4294967296 17 (A*2 ^ s):=by
 have hb:0<(4294967296:Nat):=by decide
 have Mk:2 ^ s≤2 ^ 31:=hJ (by decide) (by omega)
 have hs3:0<2 ^ s:=bV (by decide)
 have hc:A % 4294967296 ^ 16*2 ^ s / 4294967296 ^ 16<2 ^ s:=BX hb hs3
 have h16:(W (A*2 ^ s)).toList.length=16:=n8
 have hl:lCp (Vector.replicate 17 (0:Int)).toList 0 (List.take 17 (List.take 16 (List.drop 0 (W (A*2 ^ s)).toList)))=(W (A*2 ^ s)).toList++[0]:=by
  rw[rp,ii (i:=17) (by simp),ii (by simp)]
  unfold lCp
  rw[h16,Fb,nR]
  rfl
 have M9:((W (A*2 ^ s)).toList++[(0:Int)]).length=17:=by rw[cJ,h16];rfl
 rw[hl]
 apply oR
 intro j hj
 rw[qD hj,jQ hj]
 by_cases h:j=16
 ·subst h
  rw[ah (by rfl)]
  have Pj:A<4294967296 ^ 16:=hA
  rw[eD Pj] at hc ⊢
  unfold dg
  rw[eD (by omega)]
 ·rw[ai (by simpa using h),←Ap (vOf 17 _) hj,zu M9,bT _ j (by rw[M9];omega),List.getElem_append_left (by rw[h16];omega)]
  have e2:=jQ (b:=4294967296) (A:=A*2 ^ s) (j:=j) (n:=16) (by omega)
  rw[←Ap _ (by omega),bT _ j (by rw[h16];omega)] at e2
  exact e2
theorem FX {A B:Nat}(hA:A<LIM)(hB:B<LIM)(IX:0<B):fZ (W A) (W B)=some (W (A / B),W (A % B)):=by
 have hb:0<(4294967296:Nat):=by decide
 obtain⟨n,hn,Tw,Gg,yv⟩:=CI hB
 obtain⟨m,hm,hm1,Tz,hm3⟩:=CI hA
 have hn0:0<n:=by
  rcases sJ n with h|h
  ·subst h;simp at Gg;omega
  ·exact h
 unfold fZ
 rw[Tw,ab,hm1,ab,DU hA hB,ab]
 by_cases bO:A<B
 ·rw[cH _ _ (by unfold Iv;rw[ah bO];omega),ab,z16,eI bO,eD bO]
 ·rw[cr _ _ (by unfold Iv;rw[ai bO];split <;> omega)]
  by_cases h1:n=1
  ·subst h1
   have hBb:B<4294967296:=by simpa using Gg
   have e0:(W B)[((0:Int)).toNat]! =(B:Int):=by
    have:(W B)[((0:Int)).toNat]! =(dg 4294967296 B 0:Int):=gV (by decide)
    rw[this]
    unfold dg
    rw[gf,nE,eD hBb]
   have hr:A % B<4294967296:=Cy (ey _ IX) hBb
   rw[cH _ _,e0,G_short hA IX hBb,ab,ab]
   have:=Vg (u:=A % B) (by omega)
   rw[eD hr,eI hr] at this
   dsimp only
   rw[←this]
   rfl
  ·have h2:2≤n:=by omega
   have hk:n - 1<16:=by omega
   have hBd:B / 4294967296 ^ (n - 1)=dg 4294967296 B (n - 1):=by
    have:=cG (b:=4294967296) (A:=B) (k:=n - 1)
    rw[show n - 1+1=n from by omega,eI Gg,gS,bw] at this
    exact this
   obtain⟨l,hl1,Gj,hl3,hl4⟩:=G_Lead (x:=dg 4294967296 B (n - 1)) dgl
   have hp:0<4294967296 ^ (n - 1):=bV hb
   have DI:1≤dg 4294967296 B (n - 1):=by rw[←hBd];exact (qk hp).2 (by rw[fk];exact yv hn0)
   have hl0:0<l:=by
    rcases sJ l with h|h
    ·subst h;simp at hl3;omega
    ·exact h
   have hl5:=hl4 hl0
   have hs:32 - l<32:=by omega
   have epow:2 ^ l*2 ^ (32 - l)=4294967296:=by rw[←ip,show l+(32 - l)=32 from by omega]
   have epow2:2 ^ (l - 1)*2 ^ (32 - l)=2147483648:=by rw[←ip,show l - 1+(32 - l)=31 from by omega]
   have hS:0<2 ^ (32 - l):=bV (by decide)
   have epn:(4294967296:Nat) ^ n=4294967296 ^ (n - 1)*4294967296:=by rw[←cK];congr 1;omega
   have hVlo:2147483648*4294967296 ^ (n - 1)≤B*2 ^ (32 - l):=by
    have h3:2 ^ (l - 1)*4294967296 ^ (n - 1)≤B:=(qk hp).1 (by rw[hBd];exact hl5)
    calc 2147483648*4294967296 ^ (n - 1)=2 ^ (l - 1)*4294967296 ^ (n - 1)*2 ^ (32 - l):=by rw[←epow2,Fm]
     _≤B*2 ^ (32 - l):=cz _ h3
   have hVhi:B*2 ^ (32 - l)<4294967296 ^ n:=by
    have h3:B<2 ^ l*4294967296 ^ (n - 1):=(l7 hp).1 (by rw[hBd];exact hl3)
    calc B*2 ^ (32 - l)<2 ^ l*4294967296 ^ (n - 1)*2 ^ (32 - l):=NU h3 hS
     _=4294967296 ^ n:=by rw[Fm,epow,bz,←epn]
   have Gp:0<B*2 ^ (32 - l):=yZ IX hS
   have hmn:n≤m:=by
    rcases d9 m n with h|h
    ·have h3:4294967296 ^ m≤4294967296 ^ (n - 1):=hJ hb (by omega)
     have h4:=yv hn0
     omega
    ·exact h
   have hUk:A*2 ^ (32 - l) / 4294967296 ^ (m - n+1)<B*2 ^ (32 - l):=by
    rw[l7 (bV hb)]
    have h3:A<B*4294967296 ^ (m - n+1):=by
     have h4:4294967296 ^ (n - 1)*4294967296 ^ (m - n+1)≤B*4294967296 ^ (m - n+1):=cz _ (yv hn0)
     rw[←ip,show n - 1+(m - n+1)=m from by omega] at h4
     omega
    calc A*2 ^ (32 - l)<B*4294967296 ^ (m - n+1)*2 ^ (32 - l):=NU h3 hS
     _=B*2 ^ (32 - l)*4294967296 ^ (m - n+1):=Fm _ _ _
   have eidx:i64.wrap ((m:Int) - (n:Int))=((m - n+1:Nat):Int) - 1:=by rw[ce];omega
   rw[cr _ _,show i64.wrap ((n:Int) - 1)=((n - 1:Nat):Int) from by rw[ce];omega,aC,bH,gV hk,hl1,ab,G_up hs,ab,G_up hs,ab,ab]
   dsimp only
   rw[build17 hA hs,eidx,r16,Sm h2 (by omega) hVlo hVhi hUk,ab]
   dsimp only
   have hmod:A*2 ^ (32 - l) % (B*2 ^ (32 - l))<4294967296 ^ 16:=bM (ey _ Gp) (dm (mL hVhi) (hJ hb hn))
   rw[vsub 16 0 (by omega),gf,nE,G_down hmod hs,ab,Nat.mul_mod_mul_right,NT _ hS,Nat.mul_div_mul_right _ _ hS]
theorem AU(x y:Nat):Nat.gcd x y=Nat.gcd y (x % y):=by
 rw[Nat.gcd_comm x y,Nat.gcd_rec,Nat.gcd_comm]
theorem VR(x y:Nat):bt jh ((x:Int),(y:Int))=some ((Nat.gcd x y:Nat):Int):=by
 induction y using Nat.strongRecOn generalizing x with
 |_ y ih=>
  by_cases hy:y=0
  ·subst hy
   rw[Jv]
   exact oc (by dsimp only[jh];rw[cr _ _ (by simp)])
  ·have h1:jh ((x:Int),(y:Int))=some (.inl ((y:Int),((x % y:Nat):Int))):=by
    dsimp only[jh]
    rw[cH _ _,aC,←tY]
   rw[pY h1,ih (x % y) (ey _ (by omega)) y,←AU]
theorem w7 {A:Nat}(hA:A<LIM):∃n:Nat,eV (W A)=some (n:Int)∧(n≤2↔A<18446744073709551616):=by
 obtain⟨n,hn,h1,h2⟩:=CI hA
 have e:(4294967296:Nat) ^ 2=18446744073709551616:=by decide
 refine⟨n,h1,fun h=>?_,fun h=>Mx (by decide) h2 (by rw[e];exact h)⟩
 have h3:4294967296 ^ n≤4294967296 ^ 2:=hJ (by decide) h
 rw[e] at h3
 exact bM h2.1 h3
theorem G_Abs {a:Int}(ha:a.natAbs<LIM):qL (enc a)=some (enc (a.natAbs:Int)):=by
 unfold qL
 rw[v6,bi ha,ab,c8,aI,mf ha,jO ha,ab]
 rfl
theorem yn {a c:Int}(ha:a.natAbs<LIM)(hc:c.natAbs<LIM)(h1:a.natAbs<18446744073709551616)(h2:c.natAbs<18446744073709551616)(p:ap→ap→Option ap):
  cO p (enc a) (enc c)=some (enc (Nat.gcd a.natAbs c.natAbs:Nat)):=by
 obtain⟨n,Tw,Gg⟩:=w7 ha
 obtain⟨m,hm1,Tz⟩:=w7 hc
 have hg:Nat.gcd a.natAbs c.natAbs<18446744073709551616:=by
  rcases sJ a.natAbs with h|h
  ·rw[h,NS];exact h2
  ·exact dM (Cw _ h) h1
 have hgL:Nat.gcd a.natAbs c.natAbs<LIM:=bM hg (by decide)
 unfold cO
 rw[vZ,bi ha,bi hc,ab]
 simp only[eQ,c8,aI,mf ha,mf hc]
 rw[Tw,ab,cH _ _ (by have:=Gg.2 h1;omega),hm1,ab,ab,cH _ _ (by have:=Tz.2 h2;omega),SJ h1,SJ h2,ab,ab,VR,ab,BB,yI,BA,Vg hg,jO hgL,ab]
 rfl
theorem L7 {a:Int}(ha:a.natAbs<LIM)(p:ap→ap→Option ap):cO p (enc a) (enc 0)=some (enc (Nat.gcd a.natAbs 0:Nat)):=by
 by_cases h1:a.natAbs<18446744073709551616
 ·exact yn ha (by decide) h1 (by decide) p
 ·obtain⟨n,Tw,Gg⟩:=w7 ha
  have hc:(0:Int).natAbs<LIM:=by decide
  unfold cO
  rw[vZ,bi ha,bi hc,ab]
  simp only[eQ,c8,aI,mf ha,mf hc]
  rw[Tw,ab,cr _ _ (by have:=mt Gg.1 h1;omega),ab,aI,cr _ _ (by rw[z16];exact fun h=>h rfl),G_Abs ha,ab,Jv]
theorem L8 {a c:Int}(ha:a.natAbs<LIM)(hc:c.natAbs<LIM)(h0:c.natAbs≠0)(h1:¬(a.natAbs<18446744073709551616∧c.natAbs<18446744073709551616))(p:ap→ap→Option ap):
  cO p (enc a) (enc c)=p (enc (c.natAbs:Int)) (enc ((a.natAbs % c.natAbs:Nat):Int)):=by
 obtain⟨n,Tw,Gg⟩:=w7 ha
 obtain⟨m,hm1,Tz⟩:=w7 hc
 have hr:a.natAbs % c.natAbs<LIM:=dM (Nat.mod_le _ _) ha
 unfold cO
 rw[vZ,bi ha,bi hc,ab]
 simp only[eQ,c8,aI,mf ha,mf hc]
 rw[Tw,ab,hm1,ab]
 have K7:(cnd (decide ((n:Int)≤(2:Int))) (some (decide ((m:Int)≤(2:Int)))) (some (false)))=some false:=by
  rw[gz]
  split
  ·rename_i h
   congr 1
   have h2:=Gg.1 (by omega)
   exact bm fun h3=>h1 ⟨h2,Tz.1 (by omega)⟩
  ·rfl
 rw[K7,ab,aI,z16,cH _ _ (by rw[FG hc ym];exact h0),FX ha hc (by omega),ab,jO hc,ab]
 dsimp only
 rw[jO hr,ab,vw]
 rfl
theorem QS {x y:Nat}(hy:0<y)(hxy:y≤x):2*(y*(x % y))<x*y:=by
 have h1:=l8 x y
 have h2:=ey x hy
 have h3:0<x / y:=Fo hxy hy
 have h4:y≤y*(x / y):=HH _ h3
 have h5:2*(x % y)<x:=by omega
 have h6:2*(x % y)*y<x*y:=NU h5 hy
 calc 2*(y*(x % y))=2*(x % y)*y:=by rw[bz y,eR]
  _<x*y:=h6
theorem PT(n:Nat):∀{a c:Int},a.natAbs<LIM→c.natAbs<LIM→c.natAbs≤a.natAbs→a.natAbs*c.natAbs<18446744073709551616*2 ^ n→iw (n+2) (enc a) (enc c)=some (enc (Nat.gcd a.natAbs c.natAbs:Nat)):=by
 induction n with
 |zero=>
  intro a c ha hc hle hp
  show cO _ _ _=_
  by_cases h0:c.natAbs=0
  ·obtain rfl:c=0:=by omega
   exact L7 ha _
  ·have h1:a.natAbs≤a.natAbs*c.natAbs:=HH _ (by omega)
   exact yn ha hc (by omega) (by omega) _
 |succ n ih=>
  intro a c ha hc hle hp
  show cO (iw (n+2)) _ _=_
  by_cases h0:c.natAbs=0
  ·obtain rfl:c=0:=by omega
   exact L7 ha _
  ·by_cases h1:a.natAbs<18446744073709551616∧c.natAbs<18446744073709551616
   ·exact yn ha hc h1.1 h1.2 _
   ·have h2:=QS (z4 h0) hle
    have h3:=ey a.natAbs (z4 h0)
    rw[L8 ha hc h0 h1,ih (by rw[dZ];exact hc) (by rw[dZ];omega) (by rw[dZ,dZ];omega) (by rw[dZ,dZ];rw[cK] at hp;omega),dZ,dZ,←AU]
theorem PZ {a c:Int}(ha:a.natAbs<LIM)(hc:c.natAbs<LIM):om (enc a) (enc c)=some (enc (Nat.gcd a.natAbs c.natAbs:Nat)):=by
 have e:LIM*LIM≤18446744073709551616*2 ^ 960:=by decide +kernel
 have mono:∀(n:Nat) {x y r:ap},iw n x y=some r→∀m,n≤m→iw m x y=some r:=by
  have step:∀{p q:ap→ap→Option ap},(∀{x y r},p x y=some r→q x y=some r)→∀{x y r},cO p x y=some r→cO q x y=some r:=by
   intro p q hpq x y r h
   unfold cO at h ⊢
   obtain⟨b,h1,h⟩:=ae h
   rw[h1,ab]
   cases b with
   |false=>exact h
   |true=>
    rw[c8,aI] at h ⊢
    obtain⟨b2,h2,h⟩:=ae h
    rw[h2,ab]
    cases b2 with
    |true=>exact h
    |false=>
     rw[aI] at h ⊢
     cases hd:decide (¬(y.vW=#v[(0:Int),0,0,0,0,0,0,0,0,0,0,0,0,0,0,0])) with
     |false=>rw[hd] at h;exact h
     |true=>
      rw[hd,gN] at h
      rw[gN]
      obtain⟨q1,h3,h⟩:=ae h
      rw[h3,ab]
      obtain⟨q2,h4,h⟩:=ae h
      rw[h4,ab]
      obtain⟨q3,h5,h⟩:=ae h
      rw[h5,ab]
      obtain⟨q4,h6,h⟩:=ae h
      rw[hpq h6,ab]
      exact h
  intro n
  induction n with
  |zero=>intro x y r h;cases h
  |succ n ih=>
   intro x y r h m hm
   obtain⟨m,rfl⟩:∃k,m=k+1:=⟨m - 1,by omega⟩
   exact step (fun h=>ih h m (by omega)) h
 unfold om
 by_cases hle:c.natAbs≤a.natAbs
 ·refine mono 962 (PT 960 ha hc hle ?_) 1000 (by decide)
  exact bM (CB ha hc) e
 ·by_cases h1:a.natAbs<18446744073709551616∧c.natAbs<18446744073709551616
  ·exact yn ha hc h1.1 h1.2 _
  ·refine mono 963 ?_ 1000 (by decide)
   show cO (iw 962) _ _=_
   rw[L8 ha hc (by omega) h1,eD (by omega),PT 960 (by rw[dZ];exact hc) (by rw[dZ];exact ha) (by rw[dZ,dZ];omega) (by rw[dZ,dZ];exact bM (CB hc ha) e),dZ,dZ,Nat.gcd_comm]
theorem mX {x y:Int}(hy:y≠0)(q r:Int)(h:q*y+r=x)(hr:0≤r∧r<y∨y<r∧r≤0):q=x.fdiv y∧r=x.fmod y:=by
 have h2:x.fdiv y*y+x.fmod y=x:=Int.fdiv_mul_add_fmod x y
 have hf:0≤x.fmod y∧x.fmod y<y∨y<x.fmod y∧x.fmod y≤0:=by
  rcases Int.lt_or_gt_of_ne hy with h|h
  ·right
   have h3:=Int.neg_fmod_neg x y
   have h4:=xz (-x) (b:=-y) (by omega)
   have h5:=zZ (-x) (b:=-y) (by omega)
   omega
  ·left;exact⟨xz _ h,zZ _ h⟩
 have hq:q=x.fdiv y:=by
  have h3:(q - x.fdiv y)*y=x.fmod y - r:=by rw[Int.sub_mul];omega
  rcases xB (q - x.fdiv y) 0 with h4|h4|h4
  ·exfalso
   rcases hr with hr|hr <;> rcases hf with hf|hf
   ·have:(q - x.fdiv y)*y≤(-1)*y:=Ju (by omega) (by omega)
    omega
   ·omega
   ·omega
   ·have:(-1)*y≤(q - x.fdiv y)*y:=Va (by omega) (by omega)
    omega
  ·omega
  ·exfalso
   rcases hr with hr|hr <;> rcases hf with hf|hf
   ·have:1*y≤(q - x.fdiv y)*y:=Ju (by omega) (by omega)
    omega
   ·omega
   ·omega
   ·have:(q - x.fdiv y)*y≤1*y:=Va (by omega) (by omega)
    omega
 subst hq
 exact⟨rfl,by omega⟩
theorem Kv {x y:Int}(hy:y≠0):x.tmod y<y.natAbs∧-(y.natAbs:Int)<x.tmod y:=by
 have h1:=Int.natAbs_tmod x y
 have h2:=ey x.natAbs (show 0<y.natAbs by omega)
 rw[←h1] at h2
 omega
theorem BD {x y:Int}(hy:y≠0):(cnd (decide (x.tmod y≠0)) (some (!((decide (x.tmod y<0)) == (decide (y<0))))) (some false))=some (decide (x.fdiv y≠x.tdiv y))∧(x.fdiv y≠x.tdiv y→x.fdiv y=x.tdiv y - 1∧x.fmod y=x.tmod y+y)∧(x.fdiv y=x.tdiv y→x.fmod y=x.tmod y):=by
 have e1:x.tdiv y*y+x.tmod y=x:=Int.tdiv_mul_add_tmod x y
 have e2:x.fdiv y*y+x.fmod y=x:=Int.fdiv_mul_add_fmod x y
 have hm:=Kv (x:=x) hy
 rw[gz]
 by_cases h1:x.tmod y=0
 ·obtain⟨h2,h3⟩:=mX (x:=x) hy (x.tdiv y) (x.tmod y) e1 (by omega)
  rw[ai (by simp[h1])]
  exact⟨by simp[h2],fun h=>absurd h2.symm h,fun _=>h3.symm⟩
 ·rw[ah h1]
  by_cases h2:(x.tmod y<0)↔(y<0)
  ·obtain⟨h3,h4⟩:=mX (x:=x) hy (x.tdiv y) (x.tmod y) e1 (by omega)
   refine⟨?_,fun h=>absurd h3.symm h,fun _=>h4.symm⟩
   rw[lE.2 h2,Ft]
   simp[h3]
  ·obtain⟨h3,h4⟩:=mX (x:=x) hy (x.tdiv y - 1) (x.tmod y+y) (by rw[Int.sub_mul];omega) (by omega)
   have h5:(decide (x.tmod y<0) == decide (y<0))=false:=LN.2 fun h=>h2 (lE.1 h)
   have h6:x.fdiv y≠x.tdiv y:=by omega
   refine⟨?_,fun _=>⟨h3.symm,h4.symm⟩,fun h=>absurd h h6⟩
   rw[h5]
   simp[h6]
theorem Kw {x y:Int}(hx:-9223372036854775807≤x∧x≤9223372036854775807):-9223372036854775807≤x.tdiv y∧x.tdiv y≤9223372036854775807:=by
 have h1:(x.tdiv y).natAbs=x.natAbs / y.natAbs:=Int.natAbs_tdiv ..
 have h2:x.natAbs / y.natAbs≤x.natAbs:=pj _ _
 omega
theorem Uq {x y:Int}(hx:-9223372036854775807≤x∧x≤9223372036854775807)(OY:-9223372036854775807≤y∧y≤9223372036854775807)(hy:y≠0):
  (bnd (S:=Int×Int) (bnd (S:=Bool) (cnd (decide ((Int.tmod x y)≠(0:Int))) (some (!((decide ((Int.tmod x y)<(0:Int))) == (decide (y<(0:Int)))))) (some (false))) fun sU=>cnd sU (bnd (some (i64.wrap ((i64.wrap (Int.tdiv x y)) - (1:Int)))) fun Bq=>bnd (some (i64.wrap ((Int.tmod x y)+y))) fun Bo=>some ((Bq,Bo))) (some ((i64.wrap (Int.tdiv x y),Int.tmod x y)))) fun (kN,rt)=>bnd (g6 kN) fun x32=>bnd (g6 rt) fun P4=>some ((.inr (x32,P4)):Unit⊕(ap×ap)))=some (.inr (enc (x.fdiv y),enc (x.fmod y))):=by
 obtain⟨h1,h2,h3⟩:=BD (x:=x) hy
 have hq:=Kw (y:=y) hx
 have hm:=Kv (x:=x) hy
 rw[h1,ab]
 by_cases h:x.fdiv y=x.tdiv y
 ·have hf:=h3 h
  rw[cr _ _ (fun hh=>hh h),ab,RN]
  dsimp only
  rw[Oj (by omega) (by omega),ab,Oj (by omega) (by omega),ab,h,hf]
 ·obtain⟨h4,h5⟩:=h2 h
  have hf:x.fmod y≤9223372036854775807∧-9223372036854775807≤x.fmod y:=by
   have:-(y.natAbs:Int)≤x.fmod y∧x.fmod y≤y.natAbs:=by
    rcases Int.lt_or_gt_of_ne hy with hl|hl
    ·have h7:=xz (-x) (b:=-y) (by omega)
     have h8:=zZ (-x) (b:=-y) (by omega)
     have h9:=Int.neg_fmod_neg x y
     omega
    ·have h7:=xz x (b:=y) (by omega)
     have h8:=zZ x (b:=y) (by omega)
     omega
   omega
  rw[cH _ _ h,RN (z:=Int.tdiv x y) (by omega),ab,ab,RN,RN,←h4,←h5]
  dsimp only
  rw[ab]
  dsimp only
  rw[Oj (by omega) (by omega),ab,Oj (by omega) (by omega),ab]
theorem H3 {a c:Int}(ha:a.natAbs<LIM)(hc:c.natAbs<LIM)(h0:c≠0):je (enc a) (enc c)=some (enc (a.fdiv c),enc (a.fmod c)):=by
 have GC:∀r:Unit⊕(ap×ap),r=.inl ()→(match r with| .inl ()=>bnd (fZ (enc a).vW (enc c).vW) fun DV=>bnd (bJ (!((enc a).vNeg == (enc c).vNeg)) DV.1) fun Mh=>bnd (S:=(Vector Int 16)×ap) (bnd (S:=Bool) (cnd (decide (¬(DV.2=#v[(0:Int),0,0,0,0,0,0,0,0,0,0,0,0,0,0,0]))) (some (!((enc a).vNeg == (enc c).vNeg))) (some (false))) fun Dc=>cnd Dc (bnd (g6 (1:Int)) fun P3=>bnd (oh Mh P3) fun x46=>bnd (iv (enc c).vW DV.2) fun x48=>some ((x48,x46))) (some ((DV.2,Mh)))) fun (ml,gq)=>bnd (bJ (enc c).vNeg ml) fun x51=>some (gq,x51)| .inr r=>some r)=some (enc (a.fdiv c),enc (a.fmod c)):=by
  rintro r rfl
  dsimp only
  have hr:=ey a.natAbs (show 0<c.natAbs by omega)
  have hq:a.natAbs / c.natAbs≤a.natAbs:=pj _ _
  have hdm:=l8 a.natAbs c.natAbs
  rw[mf ha,mf hc,jY ha,jY hc,FX ha hc (by omega),ab]
  dsimp only
  rw[jO (dM hq ha),ab,z16]
  simp only[FG (Cy hr hc) ym]
  have Nb:(c.natAbs:Int)*((a.natAbs / c.natAbs:Nat):Int)+((a.natAbs % c.natAbs:Nat):Int)=(a.natAbs:Int):=by rw[←ir,←kK,hdm]
  generalize hQ:a.natAbs / c.natAbs=Q at Nb hq ⊢
  generalize hR:a.natAbs % c.natAbs=R at Nb hr ⊢
  by_cases hs:decide (a<0)=decide (c<0)
  ·have QF:=lE.1 hs
   rw[hs,Ft,c8]
   rw[show (cnd (decide (¬(R=0))) (some false) (some false))=some false from by rw[UG],ab,aI,ab]
   dsimp only[cond_false]
   rw[jO (Cy hr hc),ab]
   obtain⟨h1,h2⟩:=mX (x:=a) h0 (Q:Int) (bif decide (c<0) then -(R:Int) else (R:Int)) (by
    by_cases DJ:c<0
    ·rw[aB DJ,kJ]
     have e:c=-(c.natAbs:Int):=by omega
     have e2:a=-(a.natAbs:Int):=by omega
     rw[e2,←Nb]
     conv=>lhs;rw[e]
     rw[CA,lD];omega
    ·rw[bm DJ,cond_false]
     have e:c=(c.natAbs:Int):=by omega
     have e2:a=(a.natAbs:Int):=by omega
     rw[e2,←Nb]
     conv=>lhs;rw[e]
     rw[lD]) (by
    by_cases DJ:c<0
    ·rw[aB DJ,kJ];omega
    ·rw[bm DJ,cond_false];omega)
   rw[←h1,←h2]
  ·have QF:¬((a<0)↔(c<0)):=fun h=>hs (lE.2 h)
   have hb:(decide (a<0) == decide (c<0))=false:=LN.2 hs
   rw[hb,sO,kJ]
   have hmul:-(Q:Int)*c=(if c<0 then 1 else -1)*((c.natAbs:Int)*(Q:Int)):=by
    split
    ·have e:c=-(c.natAbs:Int):=by omega
     conv=>lhs;rw[e]
     rw[Int.neg_mul_neg,zY,lD]
    ·have e:c=(c.natAbs:Int):=by omega
     conv=>lhs;rw[e]
     rw[Fp,Fp,zY,lD]
   by_cases hR0:R=0
   ·rw[cr _ _ (by simpa using hR0),ab,aI,ab]
    dsimp only
    rw[jO (Cy hr hc),ab]
    obtain⟨h1,h2⟩:=mX (x:=a) h0 (-(Q:Int)) 0 (by rw[hmul];subst hR0;split <;> omega) (by omega)
    rw[←h1,←h2]
    subst hR0
    cases decide (c<0) <;> rfl
   ·have hQ1:((-(Q:Int)).natAbs)<LIM:=by rw[Int.natAbs_neg,dZ];exact dM hq ha
    rw[cH _ _ hR0,ab,gN,Oj (by decide) (by decide),ab,G_Sub hQ1 (by decide),ab,JQ (mL hr),ab,ab]
    dsimp only
    rw[jO (dM (Nat.sub_le _ _) hc),ab]
    obtain⟨h1,h2⟩:=mX (x:=a) h0 (-(Q:Int) - 1) (bif decide (c<0) then -((c.natAbs - R:Nat):Int) else ((c.natAbs - R:Nat):Int)) (by
     rw[Int.sub_mul,hmul]
     by_cases DJ:c<0
     ·rw[aB DJ,kJ,ah DJ];omega
     ·rw[bm DJ,cond_false,ai DJ];omega) (by
     by_cases DJ:c<0
     ·rw[aB DJ,kJ];omega
     ·rw[bm DJ,cond_false];omega)
    rw[←h1,←h2]
 unfold je
 rw[vZ,bi ha,bi hc,ab,eQ,c8,aI,xP hc,ab,ab,cr _ _ (by rw[Cv];exact h0),PX ha,ab]
 have EJ:∀z:Int,(bnd (S:=Bool) (cnd (if -9223372036854775808≤z∧z<9223372036854775808 then (z,true) else (0,false):Int×Bool).2 (some (decide ((if -9223372036854775808≤z∧z<9223372036854775808 then (z,true) else (0,false):Int×Bool).1≠(-9223372036854775808:Int)))) (some (false))) fun a=>some a)=some (decide (-9223372036854775807≤z∧z≤9223372036854775807)):=by
  intro z
  rw[vw]
  split
  ·rw[gN];congr 1;exact lE.2 (by omega)
  ·rw[aI];congr 1;exact (def_).symm
 have e1:=EJ a
 have e2:=EJ c
 rw[vw] at e1 e2
 rw[e1,ab,gz]
 split
 ·rename_i h1
  rw[PX hc,ab,e2,ab,gz]
  split
  ·rename_i h2
   rw[ifp_,ifp_,aC h0,aC h0,Uq h1 h2 h0,ab]
  ·rw[ab];exact GC _ rfl
 ·rw[ab];exact GC _ rfl
theorem H4 {a c:Int}(ha:a.natAbs<LIM)(hc:c.natAbs<LIM)(h0:c≠0):gH (enc a) (enc c)=some (enc (a.fdiv c)):=by
 unfold gH
 rw[H3 ha hc h0,ab]
end
end Go.Proofs.YtaedcknhkjpmlaaGreat
