/-
  Lemmas, part 4. Conditions: none.
-/
import Derived.Test.YtgfcnncojhkcoaaGreatT3
set_option linter.all false
set_option maxRecDepth 100000
set_option maxHeartbeats 4000000
namespace Go.Proofs.YtgfcnncojhkcoaaGreat
open Go.RowKit Go.IntKind Tryz
noncomputable section
abbrev al_cV:Cd (Vector Int 16):=cA 16 (cI .u32)
structure ap where
 vBad:Bool
 vNeg:Bool
 vW:Vector Int 16
 deriving Inhabited,DecidableEq
abbrev dh:ap:=⟨false,false,cy⟩
def au:Cd ap:=⟨18,fun x=>[.lit (.bool x.vBad),.lit (.bool x.vNeg)]++al_cV.f x.vW,fun x=>by simp[al_cV.h,show al_cV.sz=16 from rfl]⟩
theorem pw(x:ap):a8 (au.f x) cB 0 x.vBad (fun y=>au.f (⟨y,x.vNeg,x.vW⟩:ap)):=
 a8.of ([]) ((cB).f x.vNeg++(al_cV).f x.vW) (by first|rfl|(simp[al_cV.h,cB.h];first|rfl|done)) (by first|rfl|simp[au,cI,cB,cS,cL,bP]) (fun y=>by first|rfl|simp[au,cI,cB,cS,cL,bP])
theorem lI(x:ap):a8 (au.f x) cB 1 x.vNeg (fun y=>au.f (⟨x.vBad,y,x.vW⟩:ap)):=
 a8.of ((cB).f x.vBad) ((al_cV).f x.vW) (by first|rfl|(simp[al_cV.h,cB.h];first|rfl|done)) (by first|rfl|simp[au,cI,cB,cS,cL,bP]) (fun y=>by first|rfl|simp[au,cI,cB,cS,cL,bP])
theorem lZ(x:ap):a8 (au.f x) al_cV 2 x.vW (fun y=>au.f (⟨x.vBad,x.vNeg,y⟩:ap)):=
 a8.of ((cB).f x.vBad++(cB).f x.vNeg) ([]) (by first|rfl|(simp[al_cV.h,cB.h];first|rfl|done)) (by first|rfl|simp[au,cI,cB,cS,cL,bP]) (fun y=>by first|rfl|simp[au,cI,cB,cS,cL,bP])
section
variable {md:Md} {ops:Array Oper} {K:List (Nat×D)→Hp→Prop} {os:List Oper} {tm:List (Nat×D)} {hp hp':Hp} {t s:Tmp} {op:Op} {ty:TypeId} {pos:String} {af:Array Edge} {d d2:D} {j:Nat} {want c:Bool}
variable {dr:Bool} {ev:Operand→D}
theorem av(h:AVC prog tbl dr op ty ev hp (Kq d hp'):=by (first|exact T_mv|exact lq|exact Vl|exact Nw|exact A_str|exact UU|exact M_bool|exact M_str|exact Ef|exact Ax|exact O6|exact Nj|exact T_nilF|exact Pe|exact Ph|exact O2|exact O8|exact Pf|exact O7|exact O9|exact Pb|exact Pc|exact Pd|exact IC|exact IB|exact IF qw|exact IE qw|exact UN|exact T_or|exact UC|exact UD|exact K_shl|exact K_shr|exact K_quo|exact K_rem|exact U1|exact U3|exact UJ tbI tbI|exact T_cvS tbI tbI|exact U0|exact ID tbI|exact Nk tbI|exact UZ|exact T_min|exact T_max|exact UM|exact KT_T|exact KT_F|exact KT_A|exact KT_S|exact KV_i)):AVC prog tbl dr op ty ev hp (Kq d hp'):=h
theorem avi(h:AVC prog tbl dr op ty ev hp (Kq d hp'):=by (first|exact av|exact KV_l (a8.id _ _)|exact s9 (F:=al_cV.f (cy)) cr|exact tU (lI _) tbI|exact tU (pw _) tbI|exact wz (lZ _) tbI|exact KV_l (lZ _)|exact s9 (F:=au.f (⟨false,false,(cy)⟩:ap)) g5|exact Ed tbI|exact cF tbI)):AVC prog tbl dr op ty ev hp (Kq d hp'):=h
theorem sbi(h2:aQ prog tbl md ops K os ((t,d)::tm) hp')(h:AVC prog tbl md.dr op ty (evD tm) hp (Kq d hp'):=by exact avi)(hn:md.nc tbl op=true:=by exact rfl):aQ prog tbl md ops K (⟨some t,op,ty,pos,af,none⟩::os) tm hp:=st tok hn h h2
theorem tzi(h2:aQ prog tbl md ops K os tm hp')(h:AVC prog tbl md.dr op ty (evD tm) hp (Kq .top hp'):=by (first|exact KV_s))(hn:md.nc tbl op=true:=by exact rfl):aQ prog tbl md ops K (⟨none,op,ty,pos,af,none⟩::os) tm hp:=st_n tok hn h h2
theorem gbi(h2:aQ prog tbl md ops K os ((t,d)::tm) hp')(hj:(ops[j]?).bind (·.dst)=some s:=by exact rfl)(hc:tm.lookup s=some (.e (.lit (.bool c))):=by exact rfl)(hw:c=want:=by (with_reducible first|rfl|assumption))(h:AVC prog tbl md.dr op ty (evD tm) hp (Kq d hp'):=by exact avi)(hn:md.nc tbl op=true:=by exact rfl):aQ prog tbl md ops K (⟨some t,op,ty,pos,af,some (j,want)⟩::os) tm hp:=Qu tok hn hj hc hw h h2
theorem mbi {os':List Oper}{tm':List (Nat×D)}(h2:aQ prog tbl md ops K os' tm' hp')(h:aQ prog tbl md ops K os' tm' hp'→aQ prog tbl md ops K os tm hp:=by (intro h;(repeat (first|refine sbi ?_|refine tzi ?_|refine gbi ?_|refine JM ?_));exact h)):aQ prog tbl md ops K os tm hp:=h h2
theorem nbi {R:List (Nat×D)→Hp→Prop}{tm':List (Nat×D)}(hK:∀tm hp,R tm hp→K tm hp)(h2:R tm' hp')(h:K tm' hp'→aQ prog tbl md ops K os tm hp:=by (intro h;(repeat (first|refine sbi ?_|refine tzi ?_|refine gbi ?_|refine JM ?_));exact .nil h)):aQ prog tbl md ops K os tm hp:=h (hK _ _ h2)
end
section
variable {x:Cx} {tm:List (Nat×D)} {hp hp':Hp} {Q:Exit→List (Nat×D)→Hp→Prop}
theorem rai {n id:Nat}{l:List Oper}{b:Code}{tm':List (Nat×D)}(hx:x.N=n)(h2:AW prog x b tm' hp' Q)(h:∀K:List (Nat×D)→Hp→Prop,K tm' hp'→aQ prog tbl .seq l.toArray K l tm hp:=by (intro K h;(repeat (first|refine sbi ?_|refine tzi ?_|refine gbi ?_|refine JM ?_));exact .nil h))(hN:gr n l.toArray=true:=by kernel_rfl):AW prog x (.seq (.region id l.toArray false) b) tm hp Q:=rs hx (fun K hK=>h K (hK _ _ h2)) hN
theorem rbi {n id:Nat}{l:List Oper}{tm':List (Nat×D)}(hx:x.N=n)(h2:Q .normal tm' hp')(h:∀K:List (Nat×D)→Hp→Prop,K tm' hp'→aQ prog tbl .seq l.toArray K l tm hp:=by (intro K h;(repeat (first|refine sbi ?_|refine tzi ?_|refine gbi ?_|refine JM ?_));exact .nil h))(hN:gr n l.toArray=true:=by kernel_rfl):AW prog x (.region id l.toArray false) tm hp Q:=rq hx (fun K hK=>h K (hK _ _ h2)) hN
end
def kD(bg:ap):Option Bool:=bnd (some (decide (bg.vW=#v[(0:Int),0,0,0,0,0,0,0,0,0,0,0,0,0,0,0]))) fun x1=>cnd bg.vBad (bnd (S:=Bool) (cnd x1 (some (!bg.vNeg)) (some (false))) fun nC=>some nC) (bnd (S:=Bool) (cnd (!x1) (some (true)) (some (!bg.vNeg))) fun ja=>some ja)
theorem v6 {bg:ap}{r:Bool}(h:kD bg=some r):ar prog 129 [dG au bg] (dB r):=by
 refine bB (rs:=[.tmp 2]) (fun cx hx h0=>?_) func129
 unfold kD at h
 refine ra hx ?_
 refine rs hx fun K hK=>?_
 iterate 2 refine sbi ?_
 refine s1 (d:=dG al_cV (#v[(0:Int),0,0,0,0,0,0,0,0,0,0,0,0,0,0,0])) (kB cr bH) ?_
 refine s1 (Ee tok 2 (by decide) (EqC.arr (EqC.int (d:=0) bH) cr bH) cr) ?_
 obtain⟨x1,vY,h⟩:=ai h
 replace vY:=bZ vY
 refine s2 (d2:=dB x1) lq (gj (congrArg dB vY)) ?_
 refine nl hK ?_
 refine AW.seq (rai hx ?_)
 refine cdh h rfl (fun fT h=>?_) (fun fT h=>?_)
 refine AW.seq ?_
 obtain⟨nC,hy,h⟩:=ai h
 refine jn ((PE cx .normal (fun nC=>[(2,dB nC)]) fun nC=>⟨[],[],0⟩) nC) ?_ ?_
 replace h:=hy
 refine rq hx fun K hK=>?_
 refine mbi ?_
 rcases bX h with⟨z5,h⟩|⟨z5,h⟩
 refine nbi hK ?_
 exact pe1 h h0 []
 refine nbi hK ?_
 exact pe1 h h0 []
 refine lw0 ?_
 exact AW.ret (rtv h)
 refine AW.skip (AW.seq ?_)
 obtain⟨ja,hy,h⟩:=ai h
 refine jn ((PE cx .normal (fun ja=>[(2,dB ja)]) fun ja=>⟨[],[],0⟩) ja) ?_ ?_
 replace h:=hy
 refine rq hx fun K hK=>?_
 refine mbi ?_
 rcases bX h with⟨pJ,h⟩|⟨pJ,h⟩
 refine nbi hK ?_
 exact pe1 h h0 []
 refine nbi hK ?_
 exact pe1 h h0 []
 refine lw0 ?_
 exact AW.ret (rtv h)
def eb :Option ap:=some (⟨true,false,(cy)⟩:ap)
theorem gI  {r:ap}(h:eb=some r):ar prog 109 [] (dG au r):=by
 refine bB (rs:=[.cell 0 32]) (fun cx hx h0=>?_) func109
 unfold eb at h
 refine rai hx ?_
 refine rs hx fun K hK=>?_
 refine s1 (d:=dG au (⟨true,false,(cy)⟩:ap)) (jO (FL.cons (y:=true) (pw dh) rfl rfl (FL.nil _)) g5) ?_
 refine nbi hK ?_
 exact AW.ret (rtv h)
def mN(dt:List ap):Int→Option (Int⊕(Bool⊕Unit)):=fun aJ=>cnd (decide (aJ<((dt).length:Int))) (gd (0≤aJ∧aJ<((dt).length:Int)) (bnd (S:=Bool) (cnd (((dt)[(aJ).toNat]!).vBad) (some (true)) (bnd (kD ((dt)[(aJ).toNat]!)) fun x5=>some (!x5))) fun bb=>cnd bb (some (.inr (.inl false))) (some (.inl (i64.wrap (aJ+(1:Int))))))) (some (.inr (.inr ())))
def cK(dt:List ap):Option Bool:=bnd (aL (mN dt) (0:Int)) fun y9=>match y9 with| .inl r=>some r| .inr ()=>some true
theorem gy {dt:List ap}{r:Bool}(h:cK dt=some r):ar prog 110 [dL au dt] (dB r):=by
 refine bB (rs:=[.tmp 2]) (fun cx hx h0=>?_) func110
 unfold cK at h
 refine ra hx ?_
 refine AW.seq (ra hx ?_)
 refine AW.block ?_
 obtain⟨y,hy,h⟩:=ai h
 refine lp (S:=Int) (X:=Bool⊕Unit) (fun aJ=>[(5,dL au dt),(6,dI .i64 ((dt).length:Int)),(7,dI .i64 aJ)]) (fun aJ=>⟨[],[],0⟩) (PS (PR [.tmp 2] fun r=>dB r) (PE cx (.exit 0) (fun ()=>[]) fun ()=>⟨[],[],0⟩)) hy ?_ ?_ ?_
 exact wk0 h0 []
 clear hy h
 rintro aJ y h
 dsimp only[mN] at h
 refine ra hx ?_
 refine AW.seq (cdh h rfl (fun fy h=>?_) (fun fy h=>?_))
 refine AW.skip (AW.seq (AW.block (rs hx fun K hK=>?_)))
 obtain⟨ui,h⟩:=ax h
 have yq:(aJ).toNat<(dt).length:=by omega
 refine sbi ?_
 refine s1 (d:=dG au ((dt)[(aJ).toNat]!)) (rK (c:=au) (l:=dt) (n:=(aJ).toNat) (o:=0) g5 yq (nH _ _ rfl)) ?_
 refine nbi hK ?_
 refine AW.seq ?_
 obtain⟨bb,hy,h⟩:=ai h
 refine jn ((PE cx .normal (fun bb=>[(5,dL au dt),(6,dI .i64 ((dt).length:Int)),(7,dI .i64 aJ),(17,dB bb)]) fun bb=>⟨[],[],0⟩) bb) ?_ ?_
 replace h:=hy
 refine rq hx fun K hK=>?_
 refine mbi ?_
 rcases bX h with⟨z5,h⟩|⟨z5,h⟩
 refine nbi hK ?_
 exact pe1 h h0 []
 refine gbi ?_
 refine gcb h v6 fun x5 h=>?_
 refine nbi hK ?_
 exact pe1 h h0 []
 refine lw0 ?_
 refine cdh h rfl (fun E8 h=>?_) (fun E8 h=>?_)
 refine ra hx ?_
 refine AW.ret ?_
 cases h
 refine PS.r ⟨by nofun,PS.l (PR.i ?_)⟩
 exact rv1
 refine AW.skip (rb hx ?_)
 exact pel h h0 []
 exact AW.exit (peq h h0 [])
 rcases y with r|⟨⟩
 rintro ex tm' hp' ⟨rfl,hw⟩
 cases h
 exact hw
 refine lwr ?_
 refine ra hx ?_
 exact AW.ret (rtv h)
def br(xS:Bool)(rS:Vector Int 16):Option ap:=bnd (S:=ap) (cnd xS (bnd (some ((⟨false,decide (¬(rS=#v[(0:Int),0,0,0,0,0,0,0,0,0,0,0,0,0,0,0])),rS⟩:ap))) fun x2=>some (x2)) (some ((⟨false,false,rS⟩:ap)))) fun jN=>some jN
theorem cO {xS:Bool}{rS:Vector Int 16}{r:ap}(h:br xS rS=some r):ar prog 111 [dB xS,dG al_cV rS] (dG au r):=by
 refine bB (rs:=[.cell 4 32]) (fun cx hx h0=>?_) func111
 unfold br at h
 refine rai hx ?_
 refine AW.seq ?_
 obtain⟨jN,hy,h⟩:=ai h
 refine jn ((PE cx .normal (fun jN=>[(4,.pt 0 0)]) fun jN=>⟨[(0,dC (au.f jN))],[],1⟩) jN) ?_ ?_
 replace h:=hy
 refine rqd [] hx fun K hK=>?_
 refine mbi ?_
 rcases bX h with⟨fy,h⟩|⟨fy,h⟩
 refine gbi ?_
 refine g1 (d:=dG al_cV (#v[(0:Int),0,0,0,0,0,0,0,0,0,0,0,0,0,0,0])) fy (kB cr bH) ?_
 refine g1 fy (xo tok 2 (by decide) (EqC.arr (EqC.int (d:=0) bH) cr bH) cr) ?_
 iterate 2 refine sbi ?_
 refine s1 (d:=dG au (⟨false,decide (¬(rS=#v[(0:Int),0,0,0,0,0,0,0,0,0,0,0,0,0,0,0])),rS⟩:ap)) (jO (FL.cons (y:=decide (¬(rS=#v[(0:Int),0,0,0,0,0,0,0,0,0,0,0,0,0,0,0]))) (lI dh) rfl rfl (FL.cons (y:=rS) (lZ (⟨false,decide (¬(rS=#v[(0:Int),0,0,0,0,0,0,0,0,0,0,0,0,0,0,0])),(cy)⟩:ap)) rfl rfl (FL.nil _))) g5) ?_
 obtain⟨x2,hx3,h⟩:=ai h
 replace hx3:=bZ hx3
 refine s0 (j9 (b':=(⟨false,decide (¬(rS=#v[(0:Int),0,0,0,0,0,0,0,0,0,0,0,0,0,0,0])),rS⟩:ap)) (a8.id _ _) g5 hx3) ?_
 refine nl hK ?_
 exact pe1 h h0 [1]
 iterate 3 refine LL rfl rfl fy ?_
 iterate 2 refine sbi ?_
 refine s1 (d:=dG au (⟨false,false,rS⟩:ap)) (jO (FL.cons (y:=false) (lI dh) rfl rfl (FL.cons (y:=rS) (lZ dh) rfl rfl (FL.nil _))) g5) ?_
 refine nbi hK ?_
 exact pe1 h h0 [1]
 refine lw0 ?_
 exact AW.ret (rtv h)
def eS(ew:Int):Option ap:=bnd (S:=Int) (cnd (decide (ew<(0:Int))) (some (u64.wrap (0 - (u64.wrap (ew))))) (some (u64.wrap (ew)))) fun i4=>bnd (br (decide (ew<(0:Int))) (#v[u32.wrap (i4),u32.wrap (li .u64 i4 (32:Int)),0,0,0,0,0,0,0,0,0,0,0,0,0,0])) fun x3=>some x3
theorem mR {ew:Int}{r:ap}(h:eS ew=some r):ar prog 105 [dI .i64 ew] (dG au r):=by
 refine bB (rs:=[.cell 2 32]) (fun cx hx h0=>?_) func105
 unfold eS at h
 refine rai hx ?_
 refine ra hx ?_
 refine AW.seq ?_
 obtain⟨i4,hy,h⟩:=ai h
 refine jn ((PE cx .normal (fun i4=>[(0,dI .i64 ew),(2,.pt 0 0),(3,dI .u64 i4)]) fun i4=>⟨[(0,dC (au.f dh))],[],1⟩) i4) ?_ ?_
 replace h:=hy
 refine ra hx ?_
 refine cdh h rfl (fun fy h=>?_) (fun fy h=>?_)
 refine rb hx ?_
 exact pe1 h h0 [0]
 exact AW.skip (pe1 h h0 [0])
 refine lw0 ?_
 refine rs hx fun K hK=>?_
 iterate 7 refine sa ?_
 refine s1 (d:=dG al_cV (#v[u32.wrap (i4),u32.wrap (li .u64 i4 (32:Int)),0,0,0,0,0,0,0,0,0,0,0,0,0,0])) (kB cr bH) ?_
 refine scb h cO fun x3 h=>?_
 refine nbi hK ?_
 exact AW.ret (rtv h)
def kg(rS:Vector Int 16):Int→Option (Int⊕Int):=fun aJ=>bnd (S:=Bool) (cnd (decide ((0:Int)<aJ)) (gd (0≤i64.wrap (aJ - (1:Int))∧i64.wrap (aJ - (1:Int))<16) (some (decide (((rS)[(i64.wrap (aJ - (1:Int))).toNat]!)=(0:Int))))) (some (false))) fun nC=>cnd nC (some (.inl (i64.wrap (aJ - (1:Int))))) (some (.inr aJ))
def eA(rS:Vector Int 16):Option Int:=bnd (aL (kg rS) (16:Int)) fun od=>some od
theorem jS {rS:Vector Int 16}{r:Int}(h:eA rS=some r):ar prog 128 [dG al_cV rS] (dI .i64 r):=by
 refine bB (rs:=[.tmp 2]) (fun cx hx h0=>?_) func128
 unfold eA at h
 iterate 2 refine ra hx ?_
 refine AW.seq (AW.block ?_)
 obtain⟨od,hy,h⟩:=ai h
 refine lp (S:=Int) (X:=Int) (fun aJ=>[(1,.pt 0 0),(3,dI .i64 aJ)]) (fun aJ=>⟨[(0,dC (al_cV.f rS))],[],1⟩) (PE cx (.exit 0) (fun od=>[(3,dI .i64 od)]) fun od=>⟨[],[],0⟩) hy ?_ ?_ ?_
 exact wk0 h0 [0]
 clear hy h
 rintro aJ y h
 dsimp only[kg] at h
 iterate 2 refine AW.seq ?_
 obtain⟨nC,hy,h⟩:=ai h
 refine jn ((PE cx .normal (fun nC=>[(1,.pt 0 0),(3,dI .i64 aJ),(12,dB nC)]) fun nC=>⟨[(0,dC (al_cV.f rS))],[],1⟩) nC) ?_ ?_
 replace h:=hy
 refine rq hx fun K hK=>?_
 refine mbi ?_
 rcases bX h with⟨fy,h⟩|⟨fy,h⟩
 iterate 2 refine ga fy ?_
 obtain⟨ui,h⟩:=ax h
 refine nbi hK ?_
 exact pe1 h h0 [0]
 refine nbi hK ?_
 exact pe1 h h0 [0]
 refine lw0 ?_
 refine cdh h rfl (fun v4 h=>?_) (fun v4 h=>?_)
 refine AW.skip (AW.block (rb hx ?_))
 exact pel h h0 [0]
 exact AW.exit (per h h0 [])
 refine lw0 ?_
 refine ra hx ?_
 exact AW.ret (rtv h)
def mf(bg:Int):Option Int:=bnd (S:=Int×Int) (cnd (decide ((65536:Int)≤bg)) (some ((li .u32 bg (16:Int),(16:Int)))) (some ((bg,(0:Int))))) fun (jN,IA)=>bnd (S:=Int×Int) (cnd (decide ((256:Int)≤jN)) (some ((li .u32 jN (8:Int),i64.wrap (IA+(8:Int))))) (some ((jN,IA)))) fun (kA,Ea)=>gd (0≤u8.wrap (kA)∧u8.wrap (kA)<((⟨#[0,1,2,2,3,3,3,3,4,4,4,4,4,4,4,4,5,5,5,5,5,5,5,5,5,5,5,5,5,5,5,5,6,6,6,6,6,6,6,6,6,6,6,6,6,6,6,6,6,6,6,6,6,6,6,6,6,6,6,6,6,6,6,6,7,7,7,7,7,7,7,7,7,7,7,7,7,7,7,7,7,7,7,7,7,7,7,7,7,7,7,7,7,7,7,7,7,7,7,7,7,7,7,7,7,7,7,7,7,7,7,7,7,7,7,7,7,7,7,7,7,7,7,7,7,7,7,7,8,8,8,8,8,8,8,8,8,8,8,8,8,8,8,8,8,8,8,8,8,8,8,8,8,8,8,8,8,8,8,8,8,8,8,8,8,8,8,8,8,8,8,8,8,8,8,8,8,8,8,8,8,8,8,8,8,8,8,8,8,8,8,8,8,8,8,8,8,8,8,8,8,8,8,8,8,8,8,8,8,8,8,8,8,8,8,8,8,8,8,8,8,8,8,8,8,8,8,8,8,8,8,8,8,8,8,8,8,8,8,8,8,8,8,8,8,8,8,8,8,8,8,8,8,8,8,8]⟩:ByteArray).size:Int)) (bnd (some (i64.wrap (Ea+(i64.wrap (sAt (⟨#[0,1,2,2,3,3,3,3,4,4,4,4,4,4,4,4,5,5,5,5,5,5,5,5,5,5,5,5,5,5,5,5,6,6,6,6,6,6,6,6,6,6,6,6,6,6,6,6,6,6,6,6,6,6,6,6,6,6,6,6,6,6,6,6,7,7,7,7,7,7,7,7,7,7,7,7,7,7,7,7,7,7,7,7,7,7,7,7,7,7,7,7,7,7,7,7,7,7,7,7,7,7,7,7,7,7,7,7,7,7,7,7,7,7,7,7,7,7,7,7,7,7,7,7,7,7,7,7,8,8,8,8,8,8,8,8,8,8,8,8,8,8,8,8,8,8,8,8,8,8,8,8,8,8,8,8,8,8,8,8,8,8,8,8,8,8,8,8,8,8,8,8,8,8,8,8,8,8,8,8,8,8,8,8,8,8,8,8,8,8,8,8,8,8,8,8,8,8,8,8,8,8,8,8,8,8,8,8,8,8,8,8,8,8,8,8,8,8,8,8,8,8,8,8,8,8,8,8,8,8,8,8,8,8,8,8,8,8,8,8,8,8,8,8,8,8,8,8,8,8,8,8,8,8,8,8]⟩:ByteArray) (u8.wrap (kA)).toNat))))) fun x6=>some x6)
theorem xH {bg:Int}{r:Int}(h:mf bg=some r):ar prog 179 [dI .u32 bg] (dI .i64 r):=by
 refine bB (rs:=[.tmp 2]) (fun cx hx h0=>?_) func179
 unfold mf at h
 refine ra hx ?_
 refine AW.seq ?_
 obtain⟨y,hy,h⟩:=ai h
 refine jn ((PE cx .normal (fun (jN,IA)=>[(0,dI .u32 jN),(2,dI .i64 IA)]) fun (jN,IA)=>⟨[],[],0⟩) y) ?_ ?_
 replace h:=hy
 refine ra hx ?_
 refine cdh h rfl (fun fy h=>?_) (fun fy h=>?_)
 refine ra hx ?_
 refine rb hx ?_
 exact pe1 h h0 []
 exact AW.skip (pe1 h h0 [])
 obtain⟨jN,IA⟩:=y
 refine lw0 ?_
 refine AW.seq ?_
 obtain⟨y,hy,h⟩:=ai h
 refine jn ((PE cx .normal (fun (kA,Ea)=>[(0,dI .u32 kA),(2,dI .i64 Ea)]) fun (kA,Ea)=>⟨[],[],0⟩) y) ?_ ?_
 replace h:=hy
 refine ra hx ?_
 refine cdh h rfl (fun fT h=>?_) (fun fT h=>?_)
 refine ra hx ?_
 refine rb hx ?_
 exact pe1 h h0 []
 exact AW.skip (pe1 h h0 [])
 obtain⟨kA,Ea⟩:=y
 refine lw0 ?_
 refine rs hx fun K hK=>?_
 iterate 3 refine sa ?_
 obtain⟨FQ,h⟩:=ax h
 refine s1 (T_ixS FQ tb_9) ?_
 iterate 2 refine sa ?_
 obtain⟨x6,ug,h⟩:=ai h
 replace ug:=bZ ug
 refine s2 (d2:=dI .i64 x6) lq (gj (congrArg (dI .i64) ug)) ?_
 refine nl hK ?_
 exact AW.ret (rtv h)
def nV(bg:ap):Option Int:=bnd (eA bg.vW) fun x1=>bnd (S:=Bool) (bnd (cK [bg]) fun x3=>cnd (!x3) (some (true)) (some (decide (x1=(0:Int))))) fun aJ=>cnd aJ (some (0:Int)) (gd (0≤i64.wrap (x1 - (1:Int))∧i64.wrap (x1 - (1:Int))<16) (bnd (mf ((bg.vW)[(i64.wrap (x1 - (1:Int))).toNat]!)) fun qp=>some (i64.wrap ((i64.wrap ((32:Int)*(i64.wrap (x1 - (1:Int)))))+qp))))
theorem Gy {bg:ap}{r:Int}(h:nV bg=some r):ar prog 180 [dG au bg] (dI .i64 r):=by
 refine bB (rs:=[.tmp 2]) (fun cx hx h0=>?_) func180
 unfold nV at h
 refine ra hx ?_
 refine rs hx fun K hK=>?_
 refine mbi ?_
 refine scb h jS fun x1 h=>?_
 refine nbi hK ?_
 iterate 2 refine AW.seq ?_
 obtain⟨aJ,hy,h⟩:=ai h
 refine jn ((PE cx .normal (fun aJ=>[(1,.pt 0 0),(3,dI .i64 x1),(14,dB aJ)]) fun aJ=>⟨[(0,dC (au.f bg))],[],1⟩) aJ) ?_ ?_
 replace h:=hy
 refine rq hx fun K hK=>?_
 refine sbi ?_
 refine s1 (pP ([bg]:List ap) au rO g5) ?_
 refine scb h gy fun x3 h=>?_
 refine mbi ?_
 rcases bX h with⟨v4,h⟩|⟨v4,h⟩
 refine nbi hK ?_
 exact pe1 h h0 [0]
 refine nbi hK ?_
 exact pe1 h h0 [0]
 refine lw0 ?_
 refine cdh h rfl (fun wW h=>?_) (fun wW h=>?_)
 refine ra hx ?_
 exact AW.ret (rtv h)
 refine AW.skip (rs hx fun K hK=>?_)
 iterate 6 refine sa ?_
 obtain⟨hc8,h⟩:=ax h
 refine mbi ?_
 refine scb h xH fun qp h=>?_
 refine nbi hK ?_
 exact AW.ret (rtv h)
def kE(bg:ap):Option (Int×Bool):=bnd (S:=Bool) (bnd (cK [bg]) fun x1=>cnd (!x1) (some (true)) (bnd (nV bg) fun x4=>some (decide ((64:Int)<x4)))) fun bG=>cnd bG (some ((0:Int),false)) (bnd (some (ior .u64 (vU .u64 (u64.wrap ((bg.vW)[((1:Int)).toNat]!)) (32:Int)) (u64.wrap ((bg.vW)[((0:Int)).toNat]!)))) fun qp=>bnd (S:=Bool) (cnd bg.vNeg (some (decide (qp≤(9223372036854775808:Int)))) (some (false))) fun Be=>cnd Be (some (i64.wrap (u64.wrap (0 - qp)),true)) (bnd (S:=Bool) (cnd (!bg.vNeg) (some (decide (qp<(9223372036854775808:Int)))) (some (false))) fun gR=>cnd gR (some (i64.wrap (qp),true)) (some ((0:Int),false))))
theorem v7 {bg:ap}{r:Int×Bool}(h:kE bg=some r):ar prog 176 [dG au bg] (.tu [dI .i64 r.1,dB r.2]):=by
 refine bB (rs:=[.tmp 2,.tmp 3]) (fun cx hx h0=>?_) func176
 unfold kE at h
 refine ra hx ?_
 iterate 2 refine AW.seq ?_
 obtain⟨bG,hy,h⟩:=ai h
 refine jn ((PE cx .normal (fun bG=>[(1,.pt 0 0),(13,dB bG)]) fun bG=>⟨[(0,dC (au.f bg))],[],1⟩) bG) ?_ ?_
 replace h:=hy
 refine rq hx fun K hK=>?_
 refine sbi ?_
 refine s1 (pP ([bg]:List ap) au rO g5) ?_
 refine scb h gy fun x1 h=>?_
 refine mbi ?_
 rcases bX h with⟨fT,h⟩|⟨fT,h⟩
 refine nbi hK ?_
 exact pe1 h h0 [0]
 refine gbi ?_
 refine gcb h Gy fun x4 h=>?_
 refine nbi hK ?_
 exact pe1 h h0 [0]
 refine lw0 ?_
 refine cdh h rfl (fun wW h=>?_) (fun wW h=>?_)
 refine ra hx ?_
 refine AW.ret ?_
 cases h
 exact rv2
 refine AW.skip (rs hx fun K hK=>?_)
 refine sa ?_
 refine s1 (s8 (by decide:0≤(1:Int)∧(1:Int)<((16:Nat):Int)) cr bH) ?_
 iterate 4 refine sbi ?_
 refine s1 (s8 (by decide:0≤(0:Int)∧(0:Int)<((16:Nat):Int)) cr bH) ?_
 iterate 3 refine sbi ?_
 obtain⟨qp,EX,h⟩:=ai h
 replace EX:=bZ EX
 refine s2 (d2:=dI .u64 qp) lq (gj (congrArg (dI .u64) EX)) ?_
 refine nl hK ?_
 refine AW.seq (AW.block (AW.seq ?_))
 obtain⟨Be,hy,h⟩:=ai h
 refine jn ((PE cx .normal (fun Be=>[(1,.pt 0 0),(4,dI .u64 qp),(24,dB Be)]) fun Be=>⟨[(0,dC (au.f bg))],[],1⟩) Be) ?_ ?_
 replace h:=hy
 refine rq hx fun K hK=>?_
 refine mbi ?_
 rcases bX h with⟨Da,h⟩|⟨Da,h⟩
 refine nbi hK ?_
 exact pe1 h h0 [0]
 refine nbi hK ?_
 exact pe1 h h0 [0]
 refine lw0 ?_
 refine cdh h rfl (fun z6 h=>?_) (fun z6 h=>?_)
 refine ra hx ?_
 refine AW.ret ?_
 cases h
 exact rv2
 refine AW.seq ?_
 obtain⟨gR,hy,h⟩:=ai h
 refine jn ((PE cx .normal (fun gR=>[(4,dI .u64 qp),(34,dB gR)]) fun gR=>⟨[],[],0⟩) gR) ?_ ?_
 replace h:=hy
 refine rq hx fun K hK=>?_
 refine mbi ?_
 rcases bX h with⟨Tj,h⟩|⟨Tj,h⟩
 refine nbi hK ?_
 exact pe1 h h0 []
 refine nbi hK ?_
 exact pe1 h h0 []
 refine lw0 ?_
 refine cdh h rfl (fun Ti h=>?_) (fun Ti h=>?_)
 refine ra hx ?_
 refine AW.ret ?_
 cases h
 exact rv2
 refine AW.skip (ra hx ?_)
 refine AW.ret ?_
 cases h
 exact rv2
def fG(bg:Int):Option Bool:=some (decide (bg≠bg))
theorem qv {bg:Int}{r:Bool}(h:fG bg=some r):ar prog 181 [dI .u32 bg] (dB r):=by
 refine bB (rs:=[.tmp 2]) (fun cx hx h0=>?_) func181
 unfold fG at h
 iterate 2 refine ra hx ?_
 exact AW.ret (rtv h)
def fR(bg:Int)(rR:Int):Option Int:=bnd (fG bg) fun x1=>bnd (fG rR) fun x3=>cnd x1 (cnd x3 (some (0:Int)) (some (-1:Int))) (cnd x3 (some (1:Int)) (cnd (decide (bg<rR)) (some (-1:Int)) (cnd (decide (rR<bg)) (some (1:Int)) (some (0:Int)))))
theorem uw {bg:Int}{rR:Int}{r:Int}(h:fR bg rR=some r):ar prog 178 [dI .u32 bg,dI .u32 rR] (dI .i64 r):=by
 refine bB (rs:=[.tmp 4]) (fun cx hx h0=>?_) func178
 unfold fR at h
 refine ra hx ?_
 refine rs hx fun K hK=>?_
 refine sa ?_
 refine scb h qv fun x1 h=>?_
 refine nbi hK ?_
 refine rs hx fun K hK=>?_
 refine sa ?_
 refine scb h qv fun x3 h=>?_
 refine nbi hK ?_
 refine AW.seq (ra hx ?_)
 refine cdh h rfl (fun v4 h=>?_) (fun v4 h=>?_)
 refine AW.seq (ra hx ?_)
 refine cdh h rfl (fun pJ h=>?_) (fun pJ h=>?_)
 refine ra hx ?_
 exact AW.ret (rtv h)
 refine AW.skip (ra hx ?_)
 exact AW.ret (rtv h)
 refine AW.skip (AW.seq (ra hx ?_))
 refine cdh h rfl (fun wW h=>?_) (fun wW h=>?_)
 refine ra hx ?_
 exact AW.ret (rtv h)
 refine AW.skip (AW.seq (ra hx ?_))
 refine cdh h rfl (fun E8 h=>?_) (fun E8 h=>?_)
 refine ra hx ?_
 exact AW.ret (rtv h)
 refine AW.skip (AW.seq (ra hx ?_))
 refine cdh h rfl (fun hb9 h=>?_) (fun hb9 h=>?_)
 refine ra hx ?_
 exact AW.ret (rtv h)
 refine AW.skip (ra hx ?_)
 exact AW.ret (rtv h)
def jt(aZ:Vector Int 16)(aY:Vector Int 16):Int→Option (Int⊕(Int⊕Unit)):=fun aJ=>cnd (decide ((0:Int)≤aJ)) (gd (0≤aJ∧aJ<16) (gd (0≤aJ∧aJ<16) (cnd (decide (((aZ)[(aJ).toNat]!)≠((aY)[(aJ).toNat]!))) (gd (0≤aJ∧aJ<16) (gd (0≤aJ∧aJ<16) (bnd (fR ((aZ)[(aJ).toNat]!) ((aY)[(aJ).toNat]!)) fun vQ=>some (.inr (.inl vQ))))) (some (.inl (i64.wrap (aJ - (1:Int)))))))) (some (.inr (.inr ())))
def kC(aZ:Vector Int 16)(aY:Vector Int 16):Option Int:=bnd (aL (jt aZ aY) (15:Int)) fun y13=>match y13 with| .inl r=>some r| .inr ()=>some (0:Int)
theorem v5 {aZ:Vector Int 16}{aY:Vector Int 16}{r:Int}(h:kC aZ aY=some r):ar prog 161 [dG al_cV aZ,dG al_cV aY] (dI .i64 r):=by
 refine bB (rs:=[.tmp 4]) (fun cx hx h0=>?_) func161
 unfold kC at h
 refine ra hx ?_
 refine AW.seq (ra hx ?_)
 refine AW.block ?_
 obtain⟨y,hy,h⟩:=ai h
 refine lp (S:=Int) (X:=Int⊕Unit) (fun aJ=>[(2,.pt 0 0),(3,.pt 1 0),(5,dI .i64 aJ)]) (fun aJ=>⟨[(0,dC (al_cV.f aZ)),(1,dC (al_cV.f aY))],[],2⟩) (PS (PR [.tmp 4] fun r=>dI .i64 r) (PE cx (.exit 0) (fun ()=>[]) fun ()=>⟨[],[],0⟩)) hy ?_ ?_ ?_
 exact wk0 h0 [0,1]
 clear hy h
 rintro aJ y h
 dsimp only[jt] at h
 refine AW.seq (ra hx ?_)
 refine cdh h rfl (fun fy h=>?_) (fun fy h=>?_)
 refine AW.skip (AW.seq (AW.block (rsd [] hx fun K hK=>?_)))
 refine sa ?_
 obtain⟨ui,h⟩:=ax h
 iterate 3 refine sbi ?_
 obtain⟨Qn,h⟩:=ax h
 refine nbi hK ?_
 refine cdh h rfl (fun pJ h=>?_) (fun pJ h=>?_)
 refine rsd [178] hx fun K hK=>?_
 refine sa ?_
 obtain⟨hc7,h⟩:=ax h
 iterate 3 refine sbi ?_
 obtain⟨hc9,h⟩:=ax h
 refine mbi ?_
 refine cqb h uw fun vQ h=>?_
 refine nbi hK ?_
 refine AW.ret ?_
 cases h
 refine PS.r ⟨by nofun,PS.l (PR.i ?_)⟩
 exact rv1
 refine AW.skip (rb hx ?_)
 exact pel h h0 [0,1]
 exact AW.exit (peq h h0 [])
 rcases y with r|⟨⟩
 rintro ex tm' hp' ⟨rfl,hw⟩
 cases h
 exact hw
 refine lwr ?_
 refine ra hx ?_
 exact AW.ret (rtv h)
def js(aZ:Vector Int 16)(aY:Vector Int 16):Int×Int×(Vector Int 16)→Option ((Int×Int×(Vector Int 16))⊕(Int×(Vector Int 16))):=fun (cQ,bF,dP)=>cnd (decide (bF<(16:Int))) (gd (0≤bF∧bF<16) (gd (0≤bF∧bF<16) (bnd (some (u64.wrap (cQ+(u64.wrap ((u64.wrap ((aZ)[(bF).toNat]!))+(u64.wrap ((aY)[(bF).toNat]!))))))) fun x6=>gd (0≤bF∧bF<16) (some (.inl (li .u64 x6 (32:Int),i64.wrap (bF+(1:Int)),(dP).set! (bF).toNat (u32.wrap (x6)))))))) (some (.inr (cQ,dP)))
def nS(aZ:Vector Int 16)(aY:Vector Int 16):Option ((Vector Int 16)×Bool):=bnd (aL (js aZ aY) ((0:Int),(0:Int),(cy))) fun (bW,oh)=>some (oh,decide (bW=(0:Int)))
theorem Gw {aZ:Vector Int 16}{aY:Vector Int 16}{r:(Vector Int 16)×Bool}(h:nS aZ aY=some r):ar prog 160 [dG al_cV aZ,dG al_cV aY] (.tu [dG al_cV r.1,dB r.2]):=by
 refine bB (rs:=[.cell 4 30,.tmp 5]) (fun cx hx h0=>?_) func160
 unfold nS at h
 refine rai hx ?_
 refine rai hx ?_
 refine ra hx ?_
 refine AW.seq (ra hx ?_)
 refine AW.block ?_
 obtain⟨y,hy,h⟩:=ai h
 refine lp (S:=Int×Int×(Vector Int 16)) (X:=Int×(Vector Int 16)) (fun (cQ,bF,dP)=>[(2,.pt 0 0),(3,.pt 1 0),(4,.pt 2 0),(6,.pt 3 0),(7,dI .u64 cQ),(9,dI .i64 bF)]) (fun (cQ,bF,dP)=>⟨[(0,dC (al_cV.f aZ)),(1,dC (al_cV.f aY)),(2,dC (al_cV.f (cy))),(3,dC (al_cV.f dP))],[],4⟩) (PE cx (.exit 0) (fun (bW,oh)=>[(4,.pt 0 0),(6,.pt 1 0),(7,dI .u64 bW)]) fun (bW,oh)=>⟨[(0,dC (al_cV.f (cy))),(1,dC (al_cV.f oh))],[],2⟩) hy ?_ ?_ ?_
 exact wk0 h0 [0,1,2,3]
 clear hy h
 rintro⟨cQ,bF,dP⟩ y h
 dsimp only[js] at h
 refine ra hx ?_
 refine AW.seq (cdh h rfl (fun fy h=>?_) (fun fy h=>?_))
 refine AW.skip (AW.seq (AW.block (ra hx ?_)))
 refine rsd [] hx fun K hK=>?_
 iterate 2 refine sa ?_
 obtain⟨ui,h⟩:=ax h
 iterate 4 refine sbi ?_
 obtain⟨Qn,h⟩:=ax h
 iterate 5 refine sbi ?_
 obtain⟨x6,ug,h⟩:=ai h
 replace ug:=bZ ug
 refine s2 (d2:=dI .u64 x6) lq (gj (congrArg (dI .u64) ug)) ?_
 refine nl hK ?_
 refine rs hx fun K hK=>?_
 iterate 3 refine sa ?_
 obtain⟨hc8,h⟩:=ax h
 have hn9:(bF).toNat<16:=by omega
 refine sbi ?_
 refine s0 (s6 (b':=u32.wrap (x6)) (a8.comp (a8.id _ _) (a8.vec (cI .u32) dP (bF).toNat hn9) (fun _=>rfl)) bH) ?_
 refine nl hK ?_
 iterate 2 refine rb hx ?_
 exact pel h h0 [0,1,2,3]
 exact AW.exit (per h h0 [2,3])
 obtain⟨bW,oh⟩:=y
 refine lw0 ?_
 refine rai hx ?_
 refine AW.ret ?_
 cases h
 exact rv2
def iG(aZ:Vector Int 16)(aY:Vector Int 16):Int×Int×(Vector Int 16)→Option ((Int×Int×(Vector Int 16))⊕((Vector Int 16))):=fun (cQ,bF,dP)=>cnd (decide (bF<(16:Int))) (gd (0≤bF∧bF<16) (gd (0≤bF∧bF<16) (bnd (some (u64.wrap ((u64.wrap ((u64.wrap ((aZ)[(bF).toNat]!)) - (u64.wrap ((aY)[(bF).toNat]!)))) - cQ))) fun x6=>gd (0≤bF∧bF<16) (some (.inl (li .u64 x6 (63:Int),i64.wrap (bF+(1:Int)),(dP).set! (bF).toNat (u32.wrap (x6)))))))) (some (.inr dP))
def gK(aZ:Vector Int 16)(aY:Vector Int 16):Option (Vector Int 16):=bnd (aL (iG aZ aY) ((0:Int),(0:Int),(cy))) fun bW=>some bW
theorem rM {aZ:Vector Int 16}{aY:Vector Int 16}{r:Vector Int 16}(h:gK aZ aY=some r):ar prog 162 [dG al_cV aZ,dG al_cV aY] (dG al_cV r):=by
 refine bB (rs:=[.cell 4 30]) (fun cx hx h0=>?_) func162
 unfold gK at h
 refine rai hx ?_
 refine rai hx ?_
 refine ra hx ?_
 refine AW.seq (ra hx ?_)
 refine AW.block ?_
 obtain⟨bW,hy,h⟩:=ai h
 refine lp (S:=Int×Int×(Vector Int 16)) (X:=(Vector Int 16)) (fun (cQ,bF,dP)=>[(2,.pt 0 0),(3,.pt 1 0),(4,.pt 2 0),(5,.pt 3 0),(6,dI .u64 cQ),(9,dI .i64 bF)]) (fun (cQ,bF,dP)=>⟨[(0,dC (al_cV.f aZ)),(1,dC (al_cV.f aY)),(2,dC (al_cV.f (cy))),(3,dC (al_cV.f dP))],[],4⟩) (PE cx (.exit 0) (fun bW=>[(4,.pt 0 0),(5,.pt 1 0)]) fun bW=>⟨[(0,dC (al_cV.f (cy))),(1,dC (al_cV.f bW))],[],2⟩) hy ?_ ?_ ?_
 exact wk0 h0 [0,1,2,3]
 clear hy h
 rintro⟨cQ,bF,dP⟩ y h
 dsimp only[iG] at h
 refine ra hx ?_
 refine AW.seq (cdh h rfl (fun fy h=>?_) (fun fy h=>?_))
 refine AW.skip (AW.seq (AW.block (ra hx ?_)))
 refine rsd [] hx fun K hK=>?_
 refine sa ?_
 obtain⟨ui,h⟩:=ax h
 iterate 4 refine sbi ?_
 obtain⟨Qn,h⟩:=ax h
 iterate 6 refine sbi ?_
 obtain⟨x6,ug,h⟩:=ai h
 replace ug:=bZ ug
 refine s2 (d2:=dI .u64 x6) lq (gj (congrArg (dI .u64) ug)) ?_
 refine nl hK ?_
 refine rs hx fun K hK=>?_
 iterate 3 refine sa ?_
 obtain⟨hc8,h⟩:=ax h
 have hn9:(bF).toNat<16:=by omega
 refine sbi ?_
 refine s0 (s6 (b':=u32.wrap (x6)) (a8.comp (a8.id _ _) (a8.vec (cI .u32) dP (bF).toNat hn9) (fun _=>rfl)) bH) ?_
 refine nl hK ?_
 iterate 2 refine rb hx ?_
 exact pel h h0 [0,1,2,3]
 exact AW.exit (per h h0 [2,3])
 refine lw0 ?_
 refine rai hx ?_
 exact AW.ret (rtv h)
def iJ(aZ:ap)(aY:ap):Option ap:=bnd (cK [aZ,aY]) fun x1=>cnd (!x1) (bnd (eb) fun x4=>some x4) (cnd (aZ.vNeg == aY.vNeg) (bnd (nS aZ.vW aY.vW) fun x7=>cnd (!x7.2) (bnd (eb) fun qp=>some qp) (bnd (br aZ.vNeg x7.1) fun mA=>some mA)) (bnd (kC aZ.vW aY.vW) fun ud=>cnd (decide ((0:Int)≤ud)) (bnd (gK aZ.vW aY.vW) fun rh=>bnd (br aZ.vNeg rh) fun Q7=>some Q7) (bnd (gK aY.vW aZ.vW) fun Gv=>bnd (br aY.vNeg Gv) fun Lk=>some Lk)))
theorem AF {aZ:ap}{aY:ap}{r:ap}(h:iJ aZ aY=some r):ar prog 127 [dG au aZ,dG au aY] (dG au r):=by
 refine bB (rs:=[.cell 4 32]) (fun cx hx h0=>?_) func127
 unfold iJ at h
 refine rai hx ?_
 refine AW.seq (rs hx fun K hK=>?_)
 iterate 2 refine sbi ?_
 refine s1 (pP ([aZ,aY]:List ap) au rO g5) ?_
 refine scb h gy fun x1 h=>?_
 refine nbi hK ?_
 refine cdh h rfl (fun fT h=>?_) (fun fT h=>?_)
 refine rs hx fun K hK=>?_
 refine scb h gI fun x4 h=>?_
 refine nbi hK ?_
 exact AW.ret (rtv h)
 refine AW.skip (AW.seq (rai hx ?_))
 refine cdh h rfl (fun pJ h=>?_) (fun pJ h=>?_)
 refine rs hx fun K hK=>?_
 refine mbi ?_
 refine scb h Gw fun x7 h=>?_
 refine nbi hK ?_
 refine AW.seq (ra hx ?_)
 refine cdh h rfl (fun hb9 h=>?_) (fun hb9 h=>?_)
 refine rs hx fun K hK=>?_
 refine scb h gI fun qp h=>?_
 refine nbi hK ?_
 exact AW.ret (rtv h)
 refine AW.skip (rs hx fun K hK=>?_)
 refine mbi ?_
 refine scb h cO fun mA h=>?_
 refine nbi hK ?_
 exact AW.ret (rtv h)
 refine AW.skip (AW.seq (rs hx fun K hK=>?_))
 refine mbi ?_
 refine scb h v5 fun ud h=>?_
 refine nbi hK ?_
 refine cdh h rfl (fun Mq h=>?_) (fun Mq h=>?_)
 refine rsd [162,111] hx fun K hK=>?_
 refine mbi ?_
 refine cqb h rM fun rh h=>?_
 refine cqb h cO fun Q7 h=>?_
 refine nbi hK ?_
 exact AW.ret (rtv h)
 refine AW.skip (rsd [162,111] hx fun K hK=>?_)
 refine mbi ?_
 refine cqb h rM fun Gv h=>?_
 refine cqb h cO fun Lk h=>?_
 refine nbi hK ?_
 exact AW.ret (rtv h)
def lK(bg:ap):Option ap:=bnd (cK [bg]) fun x1=>cnd (!x1) (bnd (eb) fun x4=>some x4) (bnd (br (!bg.vNeg) bg.vW) fun x6=>some x6)
theorem uo {bg:ap}{r:ap}(h:lK bg=some r):ar prog 66 [dG au bg] (dG au r):=by
 refine bB (rs:=[.cell 2 32]) (fun cx hx h0=>?_) func66
 unfold lK at h
 refine rai hx ?_
 refine AW.seq (rs hx fun K hK=>?_)
 refine sbi ?_
 refine s1 (pP ([bg]:List ap) au rO g5) ?_
 refine scb h gy fun x1 h=>?_
 refine nbi hK ?_
 refine cdh h rfl (fun fT h=>?_) (fun fT h=>?_)
 refine rs hx fun K hK=>?_
 refine scb h gI fun x4 h=>?_
 refine nbi hK ?_
 exact AW.ret (rtv h)
 refine AW.skip (rs hx fun K hK=>?_)
 refine mbi ?_
 refine scb h cO fun x6 h=>?_
 refine nbi hK ?_
 exact AW.ret (rtv h)
def nj(aZ:ap)(aY:ap):Option ap:=bnd (lK aY) fun x1=>bnd (iJ aZ x1) fun x3=>some x3
theorem I3 {aZ:ap}{aY:ap}{r:ap}(h:nj aZ aY=some r):ar prog 177 [dG au aZ,dG au aY] (dG au r):=by
 refine bB (rs:=[.cell 4 32]) (fun cx hx h0=>?_) func177
 unfold nj at h
 refine rai hx ?_
 refine rsd [66,127] hx fun K hK=>?_
 refine mbi ?_
 refine cqb h uo fun x1 h=>?_
 refine cqb h AF fun x3 h=>?_
 refine nbi hK ?_
 exact AW.ret (rtv h)
def gD(bg:ap):Option Int:=bnd (S:=Bool) (bnd (cK [bg]) fun x1=>cnd (!x1) (some (true)) (some (decide (bg.vW=#v[(0:Int),0,0,0,0,0,0,0,0,0,0,0,0,0,0,0])))) fun i4=>cnd i4 (some (0:Int)) (cnd bg.vNeg (some (-1:Int)) (some (1:Int)))
theorem nI {bg:ap}{r:Int}(h:gD bg=some r):ar prog 92 [dG au bg] (dI .i64 r):=by
 refine bB (rs:=[.tmp 2]) (fun cx hx h0=>?_) func92
 unfold gD at h
 refine ra hx ?_
 refine AW.seq (AW.block (AW.seq ?_))
 obtain⟨i4,hy,h⟩:=ai h
 refine jn ((PE cx .normal (fun i4=>[(1,.pt 0 0),(3,dB i4)]) fun i4=>⟨[(0,dC (au.f bg))],[],1⟩) i4) ?_ ?_
 replace h:=hy
 refine rq hx fun K hK=>?_
 refine sbi ?_
 refine s1 (pP ([bg]:List ap) au rO g5) ?_
 refine scb h gy fun x1 h=>?_
 refine mbi ?_
 rcases bX h with⟨fT,h⟩|⟨fT,h⟩
 refine nbi hK ?_
 exact pe1 h h0 [0]
 refine ga fT ?_
 refine gbi ?_
 refine g1 (d:=dG al_cV (#v[(0:Int),0,0,0,0,0,0,0,0,0,0,0,0,0,0,0])) fT (kB cr bH) ?_
 refine g1 fT (Ee tok 2 (by decide) (EqC.arr (EqC.int (d:=0) bH) cr bH) cr) ?_
 refine nbi hK ?_
 exact pe1 h h0 [0]
 refine lw0 ?_
 refine cdh h rfl (fun v4 h=>?_) (fun v4 h=>?_)
 refine ra hx ?_
 exact AW.ret (rtv h)
 refine rai hx ?_
 refine cdh h rfl (fun pJ h=>?_) (fun pJ h=>?_)
 refine ra hx ?_
 exact AW.ret (rtv h)
 refine AW.skip (ra hx ?_)
 exact AW.ret (rtv h)
def lJ(rS:Vector Int 16)(ew:Int):Int×Int×(Vector Int 16)→Option ((Int×Int×(Vector Int 16))⊕(Int×(Vector Int 16))):=fun (cQ,bF,dP)=>cnd (decide (bF<(16:Int))) (gd (0≤bF∧bF<16) (gd (0≤ew) (bnd (some (ior .u64 cQ (vU .u64 (u64.wrap ((rS)[(bF).toNat]!)) ew))) fun x5=>gd (0≤bF∧bF<16) (some (.inl (li .u64 x5 (32:Int),i64.wrap (bF+(1:Int)),(dP).set! (bF).toNat (u32.wrap (x5)))))))) (some (.inr (cQ,dP)))
def oR(rS:Vector Int 16)(ew:Int):Option ((Vector Int 16)×Int):=bnd (aL (lJ rS ew) ((0:Int),(0:Int),(cy))) fun (bW,oh)=>some (oh,u32.wrap (bW))
theorem B5 {rS:Vector Int 16}{ew:Int}{r:(Vector Int 16)×Int}(h:oR rS ew=some r):ar prog 165 [dG al_cV rS,dI .i64 ew] (.tu [dG al_cV r.1,dI .u32 r.2]):=by
 refine bB (rs:=[.cell 4 30,.tmp 5]) (fun cx hx h0=>?_) func165
 unfold oR at h
 refine rai hx ?_
 refine rai hx ?_
 refine ra hx ?_
 refine AW.seq (ra hx ?_)
 refine AW.block ?_
 obtain⟨y,hy,h⟩:=ai h
 refine lp (S:=Int×Int×(Vector Int 16)) (X:=Int×(Vector Int 16)) (fun (cQ,bF,dP)=>[(1,dI .i64 ew),(2,.pt 0 0),(4,.pt 1 0),(6,.pt 2 0),(7,dI .u64 cQ),(9,dI .i64 bF)]) (fun (cQ,bF,dP)=>⟨[(0,dC (al_cV.f rS)),(1,dC (al_cV.f (cy))),(2,dC (al_cV.f dP))],[],3⟩) (PE cx (.exit 0) (fun (bW,oh)=>[(4,.pt 0 0),(6,.pt 1 0),(7,dI .u64 bW)]) fun (bW,oh)=>⟨[(0,dC (al_cV.f (cy))),(1,dC (al_cV.f oh))],[],2⟩) hy ?_ ?_ ?_
 exact wk0 h0 [0,1,2]
 clear hy h
 rintro⟨cQ,bF,dP⟩ y h
 dsimp only[lJ] at h
 refine ra hx ?_
 refine AW.seq (cdh h rfl (fun fy h=>?_) (fun fy h=>?_))
 refine AW.skip (AW.seq (AW.block (ra hx ?_)))
 refine rs hx fun K hK=>?_
 iterate 2 refine sa ?_
 obtain⟨ui,h⟩:=ax h
 iterate 4 refine sbi ?_
 obtain⟨Qn,h⟩:=ax h
 refine s1 (O5 Qn) ?_
 refine sa ?_
 obtain⟨x5,L3,h⟩:=ai h
 replace L3:=bZ L3
 refine s2 (d2:=dI .u64 x5) lq (gj (congrArg (dI .u64) L3)) ?_
 refine nl hK ?_
 refine rs hx fun K hK=>?_
 iterate 3 refine sa ?_
 obtain⟨hc7,h⟩:=ax h
 have hn8:(bF).toNat<16:=by omega
 refine sbi ?_
 refine s0 (s6 (b':=u32.wrap (x5)) (a8.comp (a8.id _ _) (a8.vec (cI .u32) dP (bF).toNat hn8) (fun _=>rfl)) bH) ?_
 refine nl hK ?_
 iterate 2 refine rb hx ?_
 exact pel h h0 [0,1,2]
 exact AW.exit (per h h0 [1,2])
 obtain⟨bW,oh⟩:=y
 refine lw0 ?_
 refine rai hx ?_
 refine AW.ret ?_
 cases h
 exact rv2
def kj(rS:Vector Int 16)(ew:Int):Int×(Vector Int 16)→Option ((Int×(Vector Int 16))⊕((Vector Int 16))):=fun (aE,aM)=>cnd (decide (aE<(16:Int))) (bnd (S:=Int) (cnd (decide ((i64.wrap (aE+(1:Int)))<(16:Int))) (gd (0≤i64.wrap (aE+(1:Int))∧i64.wrap (aE+(1:Int))<16) (bnd (some (u64.wrap ((rS)[(i64.wrap (aE+(1:Int))).toNat]!))) fun x5=>some (x5))) (some ((0:Int)))) fun bS=>gd (0≤aE∧aE<16) (gd (0≤ew) (gd (0≤aE∧aE<16) (bnd (some ((aM).set! (aE).toNat (u32.wrap (li .u64 (ior .u64 (vU .u64 bS (32:Int)) (u64.wrap ((rS)[(aE).toNat]!))) ew)))) fun yY=>some (.inl (i64.wrap (aE+(1:Int)),yY)))))) (some (.inr aM))
def nU(rS:Vector Int 16)(ew:Int):Option (Vector Int 16):=bnd (aL (kj rS ew) ((0:Int),(cy))) fun aA=>some aA
theorem Gx {rS:Vector Int 16}{ew:Int}{r:Vector Int 16}(h:nU rS ew=some r):ar prog 169 [dG al_cV rS,dI .i64 ew] (dG al_cV r):=by
 refine bB (rs:=[.cell 4 30]) (fun cx hx h0=>?_) func169
 unfold nU at h
 refine rai hx ?_
 refine rai hx ?_
 refine AW.seq (ra hx ?_)
 refine AW.block ?_
 obtain⟨aA,hy,h⟩:=ai h
 refine lp (S:=Int×(Vector Int 16)) (X:=(Vector Int 16)) (fun (aE,aM)=>[(1,dI .i64 ew),(2,.pt 0 0),(4,.pt 1 0),(5,.pt 2 0),(8,dI .i64 aE)]) (fun (aE,aM)=>⟨[(0,dC (al_cV.f rS)),(1,dC (al_cV.f (cy))),(2,dC (al_cV.f aM))],[],3⟩) (PE cx (.exit 0) (fun aA=>[(4,.pt 0 0),(5,.pt 1 0)]) fun aA=>⟨[(0,dC (al_cV.f (cy))),(1,dC (al_cV.f aA))],[],2⟩) hy ?_ ?_ ?_
 exact wk0 h0 [0,1,2]
 clear hy h
 rintro⟨aE,aM⟩ y h
 dsimp only[kj] at h
 refine ra hx ?_
 refine AW.seq (cdh h rfl (fun fy h=>?_) (fun fy h=>?_))
 refine AW.skip (AW.seq (AW.block ?_))
 iterate 2 refine ra hx ?_
 refine AW.seq ?_
 obtain⟨bS,hy,h⟩:=ai h
 refine jn ((PE cx .normal (fun bS=>[(1,dI .i64 ew),(2,.pt 0 0),(4,.pt 1 0),(5,.pt 2 0),(6,dI .i64 aE),(7,dI .u64 bS),(8,dI .i64 aE)]) fun bS=>⟨[(0,dC (al_cV.f rS)),(1,dC (al_cV.f (cy))),(2,dC (al_cV.f aM))],[],3⟩) bS) ?_ ?_
 replace h:=hy
 refine ra hx ?_
 refine cdh h rfl (fun rf h=>?_) (fun rf h=>?_)
 refine rq hx fun K hK=>?_
 iterate 2 refine sa ?_
 obtain⟨hc3,h⟩:=ax h
 iterate 3 refine sbi ?_
 obtain⟨x5,L3,h⟩:=ai h
 replace L3:=bZ L3
 refine s2 (d2:=dI .u64 x5) lq (gj (congrArg (dI .u64) L3)) ?_
 refine nl hK ?_
 exact pe1 h h0 [0,1,2]
 exact AW.skip (pe1 h h0 [0,1,2])
 refine lw0 ?_
 refine rq hx fun K hK=>?_
 iterate 4 refine sa ?_
 obtain⟨hc8,h⟩:=ax h
 iterate 5 refine sbi ?_
 obtain⟨Mo,h⟩:=ax h
 refine s1 (O4 Mo) ?_
 refine sa ?_
 obtain⟨Tf,h⟩:=ax h
 have hn12:(aE).toNat<16:=by omega
 refine sbi ?_
 obtain⟨yY,hx14,h⟩:=ai h
 replace hx14:=bZ hx14
 refine s0 (j9 (b':=u32.wrap (li .u64 (ior .u64 (vU .u64 bS (32:Int)) (u64.wrap ((rS)[(aE).toNat]!))) ew)) (a8.comp (a8.id _ _) (a8.vec (cI .u32) aM (aE).toNat hn12) (fun _=>rfl)) bH hx14) ?_
 refine nl hK ?_
 refine rb hx ?_
 exact pel h h0 [0,1,2]
 exact AW.exit (per h h0 [1,2])
 refine lw0 ?_
 refine rai hx ?_
 exact AW.ret (rtv h)
def jr(aZ:Vector Int 16)(aY:Int):Int×Int×(Vector Int 16)→Option ((Int×Int×(Vector Int 16))⊕(Int×(Vector Int 16))):=fun (aE,aM,mh)=>cnd (decide ((0:Int)≤aM)) (gd (0≤aM∧aM<16) (bnd (some (ior .u64 (vU .u64 aE (32:Int)) (u64.wrap ((aZ)[(aM).toNat]!)))) fun x4=>gd (u64.wrap (aY)≠0) (gd (0≤aM∧aM<16) (bnd (some ((mh).set! (aM).toNat (u32.wrap (u64.wrap (Int.tdiv x4 (u64.wrap (aY))))))) fun x9=>gd (u64.wrap (aY)≠0) (some (.inl (Int.tmod x4 (u64.wrap (aY)),i64.wrap (aM - (1:Int)),x9))))))) (some (.inr (aE,mh)))
def mC(aZ:Vector Int 16)(aY:Int):Option ((Vector Int 16)×Int):=bnd (aL (jr aZ aY) ((0:Int),(15:Int),(cy))) fun (aA,jM)=>some (jM,u32.wrap (aA))
theorem EC {aZ:Vector Int 16}{aY:Int}{r:(Vector Int 16)×Int}(h:mC aZ aY=some r):ar prog 163 [dG al_cV aZ,dI .u32 aY] (.tu [dG al_cV r.1,dI .u32 r.2]):=by
 refine bB (rs:=[.cell 4 30,.tmp 5]) (fun cx hx h0=>?_) func163
 unfold mC at h
 refine rai hx ?_
 refine ra hx ?_
 refine AW.seq (ra hx ?_)
 refine AW.block ?_
 obtain⟨y,hy,h⟩:=ai h
 refine lp (S:=Int×Int×(Vector Int 16)) (X:=Int×(Vector Int 16)) (fun (aE,aM,mh)=>[(1,dI .u32 aY),(2,.pt 0 0),(4,.pt 1 0),(6,dI .u64 aE),(7,dI .i64 aM)]) (fun (aE,aM,mh)=>⟨[(0,dC (al_cV.f aZ)),(1,dC (al_cV.f mh))],[],2⟩) (PE cx (.exit 0) (fun (aA,jM)=>[(4,.pt 0 0),(6,dI .u64 aA)]) fun (aA,jM)=>⟨[(0,dC (al_cV.f jM))],[],1⟩) hy ?_ ?_ ?_
 exact wk0 h0 [0,1]
 clear hy h
 rintro⟨aE,aM,mh⟩ y h
 dsimp only[jr] at h
 refine AW.seq (ra hx ?_)
 refine cdh h rfl (fun fy h=>?_) (fun fy h=>?_)
 refine AW.skip (AW.seq (AW.block (rs hx fun K hK=>?_)))
 iterate 3 refine sa ?_
 obtain⟨ui,h⟩:=ax h
 iterate 4 refine sbi ?_
 obtain⟨x4,SE,h⟩:=ai h
 replace SE:=bZ SE
 refine s2 (d2:=dI .u64 x4) lq (gj (congrArg (dI .u64) SE)) ?_
 refine nl hK ?_
 refine rs hx fun K hK=>?_
 iterate 4 refine sa ?_
 obtain⟨hc6,h⟩:=ax h
 refine s1 (Gs hc6) ?_
 refine sa ?_
 obtain⟨hc7,h⟩:=ax h
 have hn8:(aM).toNat<16:=by omega
 refine sbi ?_
 obtain⟨x9,L6,h⟩:=ai h
 replace L6:=bZ L6
 refine s0 (j9 (b':=u32.wrap (u64.wrap (Int.tdiv x4 (u64.wrap (aY))))) (a8.comp (a8.id _ _) (a8.vec (cI .u32) mh (aM).toNat hn8) (fun _=>rfl)) bH L6) ?_
 refine nl hK ?_
 refine rq hx fun K hK=>?_
 iterate 3 refine sa ?_
 obtain⟨Tf,h⟩:=ax h
 refine s1 (Ec Tf) ?_
 refine nbi hK ?_
 refine rb hx ?_
 exact pel h h0 [0,1]
 exact AW.exit (per h h0 [1])
 obtain⟨aA,jM⟩:=y
 refine lw0 ?_
 refine rai hx ?_
 refine AW.ret ?_
 cases h
 exact rv2
section
section
variable {b A B k m d:Nat}
theorem pb(hb:0<b):((A % b ^ k+B % b ^ k) / b ^ k+dg b A k+dg b B k) % b=dg b (A+B) k∧((A % b ^ k+B % b ^ k) / b ^ k+dg b A k+dg b B k) / b=(A % b ^ (k+1)+B % b ^ (k+1)) / b ^ (k+1):=by
 have hp:0<b ^ k:=bD hb
 have hs:A % b ^ (k+1)+B % b ^ (k+1)=(A % b ^ k+B % b ^ k)+b ^ k*(dg b A k+dg b B k):=by
  rw[gi,gi,tQ];omega
 have h1:(A % b ^ (k+1)+B % b ^ (k+1)) / b ^ k=(A % b ^ k+B % b ^ k) / b ^ k+dg b A k+dg b B k:=by
  rw[hs,xh _ _ hp];omega
 refine⟨?_,?_⟩
 ·have e:A+B=(A % b ^ (k+1)+B % b ^ (k+1))+b ^ k*(b*(A / b ^ (k+1)+B / b ^ (k+1))):=by
   have e1:=kV A (b ^ (k+1))
   have e2:=kV B (b ^ (k+1))
   have e3:b ^ k*(b*(A / b ^ (k+1)+B / b ^ (k+1)))=b ^ (k+1)*(A / b ^ (k+1))+b ^ (k+1)*(B / b ^ (k+1)):=by
    rw[←fa,←cC,tQ]
   omega
  unfold dg
  rw[e,xh _ _ hp,h1]
  unfold dg
  rw[Aq]
 ·rw[cC,←gg,←cC,h1]
theorem n4(hb:0<b):(A % b ^ k+B % b ^ k) / b ^ k≤1:=by
 have hp:0<b ^ k:=bD hb
 have h1:=dM A hp
 have h2:=dM B hp
 have:(A % b ^ k+B % b ^ k) / b ^ k<2:=(kO hp).2 (by omega)
 omega
theorem FB(hb:0<b):(A % b ^ k*m / b ^ k+dg b A k*m) % b=dg b (A*m) k∧(A % b ^ k*m / b ^ k+dg b A k*m) / b=A % b ^ (k+1)*m / b ^ (k+1):=by
 have hp:0<b ^ k:=bD hb
 have hs:A % b ^ (k+1)*m=A % b ^ k*m+b ^ k*(dg b A k*m):=by
  rw[gi,aX,fa]
 have h1:A % b ^ (k+1)*m / b ^ k=A % b ^ k*m / b ^ k+dg b A k*m:=by
  rw[hs,xh _ _ hp]
 refine⟨?_,?_⟩
 ·have e:A*m=A % b ^ (k+1)*m+b ^ k*(b*(A / b ^ (k+1)*m)):=by
   have e1:=kV A (b ^ (k+1))
   have e3:b ^ k*(b*(A / b ^ (k+1)*m))=b ^ (k+1)*(A / b ^ (k+1))*m:=by
    rw[←fa,←cC,←fa]
   rw[e3,←aX]
   congr 1
   omega
  have h2:dg b (A*m) k=A*m / b ^ k % b:=rfl
  rw[h2,e,xh _ _ hp,h1,Aq]
 ·rw[cC,←gg,←cC,h1]
theorem zH(hb:0<b)(hm:0<m):A % b ^ k*m / b ^ k<m:=by
 have hp:0<b ^ k:=bD hb
 rw[kO hp,bj]
 exact Nat.mul_lt_mul_of_pos_left (dM A hp) hm
theorem wH(hb:0<b)(hd:0<d):(A / b ^ (k+1) % d*b+dg b A k) / d=dg b (A / d) k∧(A / b ^ (k+1) % d*b+dg b A k) % d=A / b ^ k % d:=by
 have e:=b9 (b:=b) (A:=A) (k:=k)
 have hR:=kV (A / b ^ (k+1)) d
 generalize hr:A / b ^ (k+1) % d=r at hR ⊢
 generalize ht:A / b ^ (k+1) / d=t at hR
 have hrd:r<d:=by rw[←hr];exact dM _ hd
 have ha:dg b A k<b:=TN hb
 generalize dg b A k=a at e ha ⊢
 have e2:A / b ^ k=r*b+a+d*(t*b):=by
  rw[e,←hR,aX,fa];omega
 have bh:(r*b+a) / d<b:=by
  rw[kO hd]
  have:(r+1)*b≤d*b:=bY _ hrd
  rw[aX,dq,bj d b] at this
  omega
 refine⟨?_,?_⟩
 ·have:dg b (A / d) k=A / b ^ k / d % b:=by unfold dg;rw[gg,bj,←gg]
  rw[this,e2,xh _ _ hd,Ng,dX bh]
 ·rw[e2,Aq]
end
abbrev W(A:Nat):Vector Int 16:=vN 4294967296 16 A
theorem f8 {A k:Nat}(h:k<16):(W A)[k]! =(dg 4294967296 A k:Int):=i1 h
theorem dgl {A k:Nat}:dg 4294967296 A k<4294967296:=TN (by decide)
theorem G_plus {A B:Nat}(hA:A<4294967296 ^ 16)(hB:B<4294967296 ^ 16):nS (W A) (W B)=some (W (A+B),decide (A+B<4294967296 ^ 16)):=by
 have hl:=qB (b:=js (W A) (W B)) (s0:=((0:Int),(0:Int),cy)) (fun k=>(((A % 4294967296 ^ k+B % 4294967296 ^ k) / 4294967296 ^ k:Nat),(k:Int),vN 4294967296 16 ((A+B) % 4294967296 ^ k))) 16 (((A % 4294967296 ^ 16+B % 4294967296 ^ 16) / 4294967296 ^ 16:Nat),vN 4294967296 16 ((A+B) % 4294967296 ^ 16))
  (by simp only[fI,mw,rk];rfl)
  (fun k hk=>by
   have hc:=n4 (b:=4294967296) (A:=A) (B:=B) (k:=k) (by decide)
   obtain⟨h1,h2⟩:=pb (b:=4294967296) (A:=A) (B:=B) (k:=k) (by decide)
   have ha:=@dgl A k
   have hb:=@dgl B k
   dsimp only[js]
   rw[ba _ _,aB,aB,ab,aB,aD,f8 hk,f8 hk,gU,gU,←kS,gU,←kS,gU,wd,zm,←kU,h1,h2,BG (by decide) hk,bU,kS]
   rfl)
  (by
   dsimp only[js]
   rw[a9 _ _])
 unfold nS
 rw[hl,ab,dX hA,dX hB,GL (by decide)]
 dsimp only
 congr 2
 have:((((A+B) / 4294967296 ^ 16:Nat):Int)=0)↔A+B<4294967296 ^ 16:=by
  rw[Int.natCast_eq_zero,Ip (by decide)]
 exact p6.2 this
theorem IL {A B:Nat}(hBA:B≤A):gK (W A) (W B)=some (W (A - B)):=by
 obtain⟨D,rfl⟩:∃D,A=D+B:=⟨A - B,by omega⟩
 rw[DF]
 have hl:=qB (b:=iG (W (D+B)) (W B)) (s0:=((0:Int),(0:Int),cy)) (fun k=>(((D % 4294967296 ^ k+B % 4294967296 ^ k) / 4294967296 ^ k:Nat),(k:Int),vN 4294967296 16 (D % 4294967296 ^ k))) 16 (vN 4294967296 16 (D % 4294967296 ^ 16))
  (by simp only[fI,mw,rk];rfl)
  (fun k hk=>by
   have hc:=n4 (b:=4294967296) (A:=D) (B:=B) (k:=k) (by decide)
   obtain⟨h1,h2⟩:=pb (b:=4294967296) (A:=D) (B:=B) (k:=k) (by decide)
   have ha:=@dgl D k
   have hb:=@dgl B k
   have hd:=@dgl (D+B) k
   generalize (D % 4294967296 ^ k+B % 4294967296 ^ k) / 4294967296 ^ k=c at h1 h2 hc ⊢
   generalize (D % 4294967296 ^ (k+1)+B % 4294967296 ^ (k+1)) / 4294967296 ^ (k+1)=c' at h2 ⊢
   dsimp only[iG]
   rw[ba _ _,aB,aB,ab,aB,aD,f8 hk,f8 hk,gU,gU,bU]
   have hx:∃x:Nat,u64.wrap (u64.wrap ((dg 4294967296 (D+B) k:Int) - (dg 4294967296 B k:Int)) - (c:Int))=(x:Int)∧x / 9223372036854775808=c'∧x % 4294967296=dg 4294967296 D k:=by
    rw[IntKind.wrap_u64,IntKind.wrap_u64]
    refine⟨((((dg 4294967296 (D+B) k:Int) - (dg 4294967296 B k:Int)) % 18446744073709551616 - (c:Int)) % 18446744073709551616).toNat,by omega,by omega,by omega⟩
   obtain⟨x,BU,vY,hx3⟩:=hx
   rw[BU,RA,zm,vY,hx3,BG (by decide) hk]
   rfl)
  (by
   dsimp only[iG]
   rw[a9 _ _])
 unfold gK
 rw[hl,ab,GL (by decide)]
theorem G_up {A s:Nat}(hs:s<32):oR (W A) (s:Int)=some (W (A*2 ^ s),((A % 4294967296 ^ 16*2 ^ s / 4294967296 ^ 16:Nat):Int)):=by
 have Oi:2 ^ s≤2 ^ 31:=im (by decide) (by omega)
 have hs3:0<2 ^ s:=bD (by decide)
 have hl:=qB (b:=lJ (W A) (s:Int)) (s0:=((0:Int),(0:Int),cy)) (fun k=>((A % 4294967296 ^ k*2 ^ s / 4294967296 ^ k:Nat),(k:Int),vN 4294967296 16 (A*2 ^ s % 4294967296 ^ k))) 16 ((A % 4294967296 ^ 16*2 ^ s / 4294967296 ^ 16:Nat),vN 4294967296 16 (A*2 ^ s % 4294967296 ^ 16))
  (by simp only[fI,mw,rk,jJ,Nat.zero_div];rfl)
  (fun k hk=>by
   have hc:=zH (b:=4294967296) (A:=A) (k:=k) (m:=2 ^ s) (by decide) hs3
   obtain⟨h1,h2⟩:=FB (b:=4294967296) (A:=A) (k:=k) (m:=2 ^ s) (by decide)
   have ha:=@dgl A k
   have hm:dg 4294967296 A k*2 ^ s≤4294967295*2 ^ s:=bY _ (by omega)
   generalize A % 4294967296 ^ k*2 ^ s / 4294967296 ^ k=c at h1 h2 hc ⊢
   generalize A % 4294967296 ^ (k+1)*2 ^ s / 4294967296 ^ (k+1)=c' at h2 ⊢
   dsimp only[lJ]
   rw[ba _ _,aB,aB,ab,aB,aD,f8 hk,gU,Sx _ _ (by omega) (by omega),Sy,ior_n hc (by omega),wd,zm,bU,lU _ c,h1,h2,BG (by decide) hk]
   rfl)
  (by
   dsimp only[lJ]
   rw[a9 _ _])
 have hc:A % 4294967296 ^ 16*2 ^ s / 4294967296 ^ 16<2 ^ s:=zH (by decide) hs3
 unfold oR
 rw[hl,ab,GL (by decide)]
 dsimp only
 rw[zk]
theorem G_down {A s:Nat}(hA:A<4294967296 ^ 16)(hs:s<32):nU (W A) (s:Int)=some (W (A / 2 ^ s)):=by
 have Oi:2 ^ s≤2 ^ 31:=im (by decide) (by omega)
 have hs3:0<2 ^ s:=bD (by decide)
 have hl:=qB (b:=kj (W A) (s:Int)) (s0:=((0:Int),cy)) (fun k=>((k:Int),vN 4294967296 16 (A / 2 ^ s % 4294967296 ^ k))) 16 (vN 4294967296 16 (A / 2 ^ s % 4294967296 ^ 16))
  (by simp only[fI,mw,rk];rfl)
  (fun k hk=>by
   have ha:=@dgl A k
   have ha1:=@dgl A (k+1)
   have hd:(dg 4294967296 A (k+1)*4294967296+dg 4294967296 A k) / 2 ^ s % 4294967296=dg 4294967296 (A / 2 ^ s) k:=by
    have e1:dg 4294967296 (A / 2 ^ s) k=A / 4294967296 ^ k / 2 ^ s % 4294967296:=by
     unfold dg;rw[gg,bj,←gg]
    have e2:A / 4294967296 ^ k=(dg 4294967296 A (k+1)*4294967296+dg 4294967296 A k)+2 ^ s*(4294967296*(2 ^ (32 - s)*(A / 4294967296 ^ (k+2)))):=by
     have e3:=b9 (b:=4294967296) (A:=A) (k:=k)
     have e4:=b9 (b:=4294967296) (A:=A) (k:=k+1)
     have e5:2 ^ s*(4294967296*(2 ^ (32 - s)*(A / 4294967296 ^ (k+2))))=2 ^ s*2 ^ (32 - s)*4294967296*(A / 4294967296 ^ (k+2)):=by
      simp only[fa,Ar]
     rw[e5,←gH,show s+(32 - s)=32 from by omega,e3,e4,show k+1+1=k+2 from rfl,show (2:Nat) ^ 32=4294967296 from rfl]
     generalize A / 4294967296 ^ (k+2)=q
     generalize dg 4294967296 A (k+1)=d1
     generalize dg 4294967296 A k=d0
     omega
    rw[e1,e2,xh _ _ hs3,Aq]
   dsimp only[kj]
   rw[ba _ _]
   have hnext:(bnd (S:=Int) (cnd (decide ((i64.wrap ((k:Int)+(1:Int)))<(16:Int))) (gd (0≤i64.wrap ((k:Int)+(1:Int))∧i64.wrap ((k:Int)+(1:Int))<16) (bnd (some (u64.wrap ((W A)[(i64.wrap ((k:Int)+(1:Int))).toNat]!))) fun x5=>some (x5))) (some ((0:Int)))) (fun a=>some a))=some ((dg 4294967296 A (k+1):Nat):Int):=by
    rw[bU]
    by_cases hk1:k+1<16
    ·rw[ba _ _,aB,ab,show ((k:Int)+1).toNat=k+1 from by omega,f8 hk1,gU,ab]
    ·rw[a9 _ _,ab,kZ (bC hA (im (by decide) (by omega)))]
     rfl
   rw[xe] at hnext
   rw[hnext,ab,aB,aB,aB,ab,aD,f8 hk,gU,Jv ha1,J6 ha ha1,zS .u64 _ _ (by show s≤64;omega),zm,hd,BG (by decide) hk,bU]
   rfl)
  (by
   dsimp only[kj]
   rw[a9 _ _])
 unfold nU
 rw[hl,ab,GL (by decide)]
theorem G_short {A d:Nat}(hA:A<4294967296 ^ 16)(hd:0<d)(HJ:d<4294967296):mC (W A) (d:Int)=some (W (A / d),((A % d:Nat):Int)):=by
 have hl:=So (b:=jr (W A) (d:Int)) (s0:=((0:Int),(15:Int),cy)) (fun k=>((A / 4294967296 ^ k % d:Nat),(k:Int) - 1,vN 4294967296 16 (A / d / 4294967296 ^ k*4294967296 ^ k))) 16 ((A / 4294967296 ^ 0 % d:Nat),vN 4294967296 16 (A / d / 4294967296 ^ 0*4294967296 ^ 0))
  (by
   have h1:A / d<4294967296 ^ 16:=fg (uZ _ _) hA
   simp only[dE hA,dE h1,jJ,rk,Nat.zero_mod];rfl)
  (fun k hk=>by
   have ha:=@dgl A k
   have hq:=@dgl (A / d) k
   obtain⟨h1,h2⟩:=wH (b:=4294967296) (A:=A) (k:=k) (d:=d) (by decide) hd
   have hr:A / 4294967296 ^ (k+1) % d<d:=dM _ hd
   generalize A / 4294967296 ^ (k+1) % d=r at h1 h2 hr ⊢
   generalize A / 4294967296 ^ k % d=r' at h2 ⊢
   have ed:u64.wrap (d:Int)=(d:Int):=gU
   dsimp only[jr]
   rw[ba _ _,aB,ab,ed,aB,aB,ab,aB,show (((k+1:Nat):Int) - 1).toNat=k from by omega,f8 hk,gU,Jv (by omega),J6 ha (by omega),←sj,←sm,h1,h2,gU,zk hq,ND (by decide) hk,bU]
   congr 4
   omega)
  (by
   dsimp only[jr]
   rw[a9 _ _])
 rw[fI,m8,m8,si] at hl
 have hr:A % d<d:=dM _ hd
 unfold mC
 rw[hl,ab]
 dsimp only
 rw[zk]
end
def LIM:Nat:=4294967296 ^ 16
theorem Ep:LIM=4294967296 ^ 16:=rfl
theorem vO:0<LIM:=by decide
theorem W_zero:W 0=cy:=rk
theorem z16:(#v[(0:Int),0,0,0,0,0,0,0,0,0,0,0,0,0,0,0]:Vector Int 16)=W 0:=by
 rw[W_zero];rfl
theorem r16:cy=W 0:=rk.symm
theorem Eb {A B:Nat}(hA:A<LIM)(hB:B<LIM):W A=W B↔A=B:=⟨vN_inj hA hB,fun h=>by rw[h]⟩
def JD(A B:Nat):Int:=if A<B then -1 else if B<A then 1 else 0
theorem G_cmp(x y:Int):fR x y=some (if x<y then -1 else if y<x then 1 else 0):=by
 have hn:∀z:Int,fG z=some false:=fun z=>by unfold fG;simp
 unfold fR
 rw[hn,hn,ab,ab,aP,aP,jj,jj]
 split
 ·rfl
 ·split <;> rfl
theorem AN {A B k:Nat}(he:A / 4294967296 ^ (k+1)=B / 4294967296 ^ (k+1))(h:dg 4294967296 A k<dg 4294967296 B k):A<B:=by
 have e1:=b9 (b:=4294967296) (A:=A) (k:=k)
 have e2:=b9 (b:=4294967296) (A:=B) (k:=k)
 have h1:A / 4294967296 ^ k<B / 4294967296 ^ k:=by
  rw[e1,e2,he];exact uX h _
 rcases bO A B with h2|h2
 ·exact h2
 ·exact absurd (M2 h2) (Nat.not_le.2 h1)
theorem Pp {A B:Nat}(hA:A<LIM)(hB:B<LIM):kC (W A) (W B)=some (JD A B):=by
 rw[Ep] at hA hB
 obtain⟨x,hl,hx⟩:=wi (b:=jt (W A) (W B)) (fun s=>∃k:Nat,s=(k:Int) - 1∧k≤16∧A / 4294967296 ^ k=B / 4294967296 ^ k) (fun s=>(s+1).toNat) (fun x=>match x with| .inl r=>r=JD A B| .inr _=>A=B)
  (by
   rintro s ⟨k,rfl,hk,he⟩
   cases k with
   |zero=>
    right
    refine⟨(Sum.inr ():Int⊕Unit),?_,?_⟩
    ·dsimp only[jt]
     rw[a9 _ _]
    ·simpa using he
   |succ k=>
    have pf:k<16:=by omega
    have e:((k+1:Nat):Int) - 1=(k:Int):=by omega
    rw[e]
    dsimp only[jt]
    rw[ba _ _,aB,aB,aD,f8 pf,f8 pf]
    by_cases hd:dg 4294967296 A k=dg 4294967296 B k
    ·left
     refine⟨(k:Int) - 1,?_,⟨k,rfl,by omega,?_⟩,by omega⟩
     ·rw[a9 _ _ (by rw[hd];simp),bU]
     ·rw[b9 (b:=4294967296) (A:=A) (k:=k),b9 (b:=4294967296) (A:=B) (k:=k),he,hd]
    ·right
     refine⟨(Sum.inl (JD A B):Int⊕Unit),?_,rfl⟩
     rw[ba _ _,aB,aB,G_cmp,ab]
     congr 3
     unfold JD
     rcases Nat.lt_or_gt_of_ne hd with h|h
     ·have:=AN he h
      rw[ifp_,an this]
     ·have:=AN he.symm h
      rw[ifn_,ifp_,ifn_,an this]) (15:Int) ⟨16,rfl,aC _,by rw[dE hA,dE hB]⟩
 unfold kC
 rw[hl,ab]
 cases x with
 |inl r=>obtain rfl:r=_:=hx;rfl
 |inr u=>
  obtain rfl:A=B:=hx
  unfold JD
  simp
def szp(b A n:Nat):Prop:=A<b ^ n∧(0<n→b ^ (n - 1)≤A)
theorem Rs {b A n m:Nat}(hb:0<b)(h:szp b A n)(h':szp b A m):n=m:=by
 have key:∀{n m:Nat},szp b A n→szp b A m→m≤n:=by
  intro n m h h'
  rcases bO n m with h1|h1
  ·have h2:=h'.2 (by omega)
   have h3:b ^ n≤b ^ (m - 1):=im hb (by omega)
   have:=h.1
   omega
  ·exact h1
 have:=key h h'
 have:=key h' h
 omega
theorem Lu {b A n k:Nat}(hb:0<b)(h:szp b A n)(hA:A<b ^ k):n≤k:=by
 rcases bO k n with h1|h1
 ·have h2:=h.2 (by omega)
  have h3:b ^ k≤b ^ (n - 1):=im hb (by omega)
  omega
 ·exact h1
theorem AB {A:Nat}(hA:A<LIM):∃n:Nat,n≤16∧eA (W A)=some (n:Int)∧szp 4294967296 A n:=by
 rw[Ep] at hA
 obtain⟨x,hl,n,rfl,hn,hs⟩:=wi (b:=kg (W A)) (fun s=>∃n:Nat,s=(n:Int)∧n≤16∧A<4294967296 ^ n) (fun s=>s.toNat) (fun x=>∃n:Nat,x=(n:Int)∧n≤16∧szp 4294967296 A n)
  (by
   rintro s ⟨n,rfl,hn,bh⟩
   cases n with
   |zero=>
    right
    refine⟨_,?_,0,rfl,by omega,bh,fun h=>by omega⟩
    dsimp only[kg]
    rw[a9 _ _,ab,aP]
   |succ k=>
    have hk:k<16:=by omega
    have e:i64.wrap (((k+1:Nat):Int) - 1)=(k:Int):=by rw[bU];omega
    dsimp only[kg]
    rw[ba _ _,e,aB,ab,aD,f8 hk,jj]
    by_cases hd:dg 4294967296 A k=0
    ·left
     refine⟨(k:Int),by rw[ifp_],⟨k,rfl,by omega,?_⟩,by omega⟩
     unfold dg at hd
     have h1:A / 4294967296 ^ k<4294967296:=by
      rw[kO (bD (by decide)),bj,←cC];exact bh
     rw[dX h1] at hd
     exact (Ip (bD (by decide))).1 hd
    ·right
     refine⟨_,by rw[ifn_],k+1,rfl,hn,bh,fun _=>?_⟩
     rcases bO A (4294967296 ^ k) with h|h
     ·exact absurd (kZ h) hd
     ·exact h) (16:Int) ⟨16,rfl,aC _,hA⟩
 refine⟨n,hn,?_,hs⟩
 unfold eA
 rw[hl,ab]
def KJ:ap:=⟨true,false,W 0⟩
def enc(z:Int):ap:=if z.natAbs<LIM then⟨false,decide (z<0),W z.natAbs⟩ else KJ
theorem qK {z:Int}(h:z.natAbs<LIM):enc z=⟨false,decide (z<0),W z.natAbs⟩:=an h
theorem Dj {z:Int}(h:¬z.natAbs<LIM):enc z=KJ:=az h
def dA(x:ap):Bool:=!x.vBad&&(!decide (x.vW=W 0)||!x.vNeg)
def okI(x:ap):Prop:=∀j:Nat,j<16→0≤x.vW[j]!∧x.vW[j]! <4294967296
theorem G9(z:Int):okI (enc z):=by
 have key:∀(A j:Nat),j<16→0≤(W A)[j]!∧(W A)[j]! <4294967296:=fun A j hj=>by
  rw[f8 hj];have:=@dgl A j;omega
 unfold enc
 split
 ·exact key _
 ·exact key 0
theorem bA {z:Int}(h:z.natAbs<LIM):dA (enc z)=true:=by
 rw[qK h]
 unfold dA
 dsimp only
 by_cases hz:z=0
 ·subst hz;simp
 ·have:¬W z.natAbs=W 0:=fun e=>hz (by have:=(Eb h vO).1 e;omega)
  simp[this]
theorem uM {x:ap}(h:okI x)(hg:dA x=true):∃z:Int,z.natAbs<LIM∧x=enc z:=by
 obtain⟨A,hA,hv⟩:=vN_of (b:=4294967296) (n:=16) (by decide) x.vW (fun j hj=>h j hj)
 obtain⟨bad,neg,w⟩:=x
 dsimp only at hv
 subst hv
 unfold dA at hg
 simp only[c8,OY,ww,Gb] at hg
 obtain⟨rfl,hg⟩:=hg
 have IY:A<LIM:=hA
 cases neg with
 |false=>
  refine⟨(A:Int),IY,?_⟩
  rw[qK (by simpa using IY)]
  simp
 |true=>
  refine⟨-(A:Int),by simpa using IY,?_⟩
  have h0:A≠0:=by
   rintro rfl
   rcases hg with h|h
   ·exact h rfl
   ·cases h
  rw[qK (by simpa using IY)]
  have:-(A:Int)<0:=by omega
  simp[this,yJ h0]
theorem FR:dA KJ=false:=rfl
theorem yx {z y:Int}(hz:z.natAbs<LIM)(hy:y.natAbs<LIM)(h:enc z=enc y):z=y:=by
 rw[qK hz,qK hy] at h
 simp only[ap.mk.injEq,true_and] at h
 obtain⟨h1,h2⟩:=h
 have h3:=(Eb hz hy).1 h2
 have h4:=p6.1 h1
 omega
theorem TE {A:Nat}(hA:A<LIM)(neg:Bool):(⟨false,neg&&!decide (A=0),W A⟩:ap)=enc (bif neg then -(A:Int) else A):=by
 cases neg with
 |false=>rw[qK (by simpa using hA)];simp
 |true=>
  rw[qK (by simpa using hA)]
  simp only[DK,lT,Int.natAbs_neg,ek,ap.mk.injEq,true_and,and_true]
  by_cases h:A=0
  ·subst h;simp
  ·have:-(A:Int)<0:=by omega
   simp[h,this,yJ h]
theorem Pr(x:ap):kD x=some (if x.vBad then decide (x.vW=W 0)&&!x.vNeg else !decide (x.vW=W 0)||!x.vNeg):=by
 unfold kD
 rw[ab,z16]
 cases x.vBad <;> cases decide (x.vW=W 0) <;> rfl
theorem Vf {l:List ap}(hl:l.length<1000000):cK l=some (l.all dA):=by
 obtain⟨x,h1,hx⟩:=wi (b:=mN l) (fun s=>∃n:Nat,s=(n:Int)∧n≤l.length∧(l.take n).all dA=true) (fun s=>l.length - s.toNat) (fun x=>match x with| .inl r=>r=false∧l.all dA=false| .inr _=>l.all dA=true)
  (by
   rintro s ⟨n,rfl,hn,ha⟩
   dsimp only[mN]
   by_cases bh:n<l.length
   ·rw[ba _ _,aB,aD,Pr,ab]
    have hg:cnd (l[n]!.vBad) (some true) (some (!(if l[n]!.vBad then decide (l[n]!.vW=W 0)&&!l[n]!.vNeg else !decide (l[n]!.vW=W 0)||!l[n]!.vNeg)))=some (!dA l[n]!):=by
     unfold dA
     cases l[n]!.vBad <;> rfl
    rw[hg,ab]
    have CZ:(l.take (n+1)).all dA=((l.take n).all dA&&dA l[n]!):=by
     rw[bK l n bh,List.take_succ_eq_append_getElem bh,sX]
     simp
    cases hgb:dA l[n]! with
    |true=>
     left
     refine⟨((n+1:Nat):Int),?_,⟨n+1,rfl,bh,by rw[CZ,ha,hgb];rfl⟩,by omega⟩
     rw[ep,aP,bU]
     rfl
    |false=>
     right
     refine⟨_,rfl,rfl,?_⟩
     rw[←n9 (n+1) l,sX,CZ,hgb]
     simp
   ·right
    refine⟨_,by rw[a9 _ _],?_⟩
    rw[e9 (by omega)] at ha
    exact ha) (0:Int) ⟨0,rfl,il _,by simp⟩
 unfold cK
 rw[h1,ab]
 cases x with
 |inl r=>obtain⟨rfl,h2⟩:=hx;rw[h2]
 |inr u=>rw[show l.all dA=true from hx]
theorem iZ {A:Nat}(hA:A<LIM)(neg:Bool):br neg (W A)=some (enc (bif neg then -(A:Int) else A)):=by
 unfold br
 rw[z16,←TE hA]
 cases neg with
 |true=>
  rw[ie,ab]
  simp only[ab,Eb hA vO,DK,decide_not]
 |false=>rfl
theorem Pz:eb=some KJ:=by unfold eb;rw[r16];rfl
theorem all2g(x y:ap):([x,y].all dA)=(dA x&&dA y):=by simp
theorem all1g(x:ap):([x].all dA)=dA x:=by simp
theorem tX(x y:ap):cK [x,y]=some (dA x&&dA y):=by rw[Vf (by simp),all2g]
theorem yX(x:ap):cK [x]=some (dA x):=by rw[Vf (by simp),all1g]
theorem ml {z:Int}(h:z.natAbs<LIM):(enc z).vW=W z.natAbs:=by rw[qK h]
theorem n3 {z:Int}(h:z.natAbs<LIM):(enc z).vNeg=decide (z<0):=by rw[qK h]
theorem G_Add {a c:Int}(ha:a.natAbs<LIM)(hc:c.natAbs<LIM):iJ (enc a) (enc c)=some (enc (a+c)):=by
 unfold iJ
 rw[tX,bA ha,bA hc,ab]
 simp only[iY,ep,aP,ml ha,ml hc,n3 ha,n3 hc]
 rw[G_plus (by rw[←Ep];exact ha) (by rw[←Ep];exact hc),ab,Pp ha hc,ab,←Ep]
 dsimp only
 by_cases hs:decide (a<0)=decide (c<0)
 ·have Ma:=p6.1 hs
  rw[hs,DZ,ie]
  by_cases bh:a.natAbs+c.natAbs<LIM
  ·rw[ck bh,ep,aP,iZ bh,ab]
   congr 2
   by_cases h:c<0
   ·simp only[h,sf,lT];omega
   ·simp only[h,se,cond_false];omega
  ·rw[gQ bh,uY,ie,Pz,ab,Dj (by omega)]
 ·have Ma:¬((a<0)↔(c<0)):=fun h=>hs (p6.2 h)
  have hb:(decide (a<0) == decide (c<0))=false:=A7.2 hs
  rw[hb,aP]
  unfold JD
  by_cases h1:a.natAbs<c.natAbs
  ·rw[an h1,a9 _ _,IL (kQ h1),ab,iZ (by omega),ab]
   congr 2
   by_cases h:c<0
   ·simp only[h,sf,lT];omega
   ·simp only[h,se,cond_false];omega
  ·have h2:(0:Int)≤(if a.natAbs<c.natAbs then -1 else if c.natAbs<a.natAbs then 1 else 0):=by
    rw[az h1];split <;> omega
   rw[ba _ _ h2,IL (by omega),ab,iZ (by omega),ab]
   congr 2
   by_cases h:a<0
   ·simp only[h,sf,lT];omega
   ·simp only[h,se,cond_false];omega
theorem QQ {x y:ap}(h:(dA x&&dA y)=false):iJ x y=some KJ:=by
 unfold iJ
 rw[tX,h,ab,uY,ie,Pz,ab]
theorem Vk {a:Int}(ha:a.natAbs<LIM):lK (enc a)=some (enc (-a)):=by
 unfold lK
 rw[yX,bA ha,ab,ep,aP,ml ha,n3 ha,iZ ha,ab]
 congr 2
 by_cases h:a<0
 ·simp only[h,sf,ep,cond_false];omega
 ·simp only[h,se,uY,lT];omega
theorem G_Sub {a c:Int}(ha:a.natAbs<LIM)(hc:c.natAbs<LIM):nj (enc a) (enc c)=some (enc (a - c)):=by
 unfold nj
 rw[Vk hc,ab,G_Add ha (by omega),ab]
 rfl
theorem AC {a:Int}(ha:a.natAbs<LIM):gD (enc a)=some a.sign:=by
 unfold gD
 rw[yX,bA ha,ab,ep,aP,ab,ml ha,n3 ha,z16]
 simp only[Eb ha vO]
 rcases M9 a 0 with h|h|h
 ·rw[a9 _ _,ba _ _ h,M6 h]
 ·subst h;rfl
 ·rw[a9 _ _,a9 _ _,DV h]
def iu(aZ:ap)(aY:ap)(x8:Int)(bb:Int):Int×Int×(Vector Int 32)→Option ((Int×Int×(Vector Int 32))⊕(Int×(Vector Int 32))):=fun (Gn,pI,Bc)=>cnd (decide (pI<x8)) (gd (0≤bb∧bb<16) (gd (0≤pI∧pI<16) (gd (0≤i64.wrap (bb+pI)∧i64.wrap (bb+pI)<32) (bnd (some (u64.wrap (Gn+(u64.wrap ((u64.wrap ((u64.wrap ((aZ.vW)[(bb).toNat]!))*(u64.wrap ((aY.vW)[(pI).toNat]!))))+(u64.wrap ((Bc)[(i64.wrap (bb+pI)).toNat]!))))))) fun rL=>gd (0≤i64.wrap (bb+pI)∧i64.wrap (bb+pI)<32) (bnd (some ((Bc).set! (i64.wrap (bb+pI)).toNat (u32.wrap (rL)))) fun Bg=>some (.inl (li .u64 rL (32:Int),i64.wrap (pI+(1:Int)),Bg))))))) (some (.inr (Gn,Bc)))
def iw(aZ:ap)(aY:ap)(x6:Int)(x8:Int):Int×(Vector Int 32)→Option ((Int×(Vector Int 32))⊕((Vector Int 32))):=fun (bb,lX)=>cnd (decide (bb<x6)) (bnd (aL (iu aZ aY x8 bb) ((0:Int),(0:Int),lX)) fun (vB,vA)=>gd (0≤i64.wrap (bb+x8)∧i64.wrap (bb+x8)<32) (bnd (some ((vA).set! (i64.wrap (bb+x8)).toNat (u32.wrap (vB)))) fun B0=>some (.inl (i64.wrap (bb+(1:Int)),B0)))) (some (.inr lX))
def iI(aZ:ap)(aY:ap):Option ap:=bnd (cK [aZ,aY]) fun x1=>cnd (!x1) (bnd (eb) fun x4=>some x4) (bnd (eA aZ.vW) fun x6=>bnd (eA aY.vW) fun x8=>bnd (aL (iw aZ aY x6 x8) ((0:Int),(Vector.replicate 32 (0:Int)))) fun eF=>cnd (decide (¬(vOf 16 (List.take 16 (List.drop 16 (eF).toList))=#v[(0:Int),0,0,0,0,0,0,0,0,0,0,0,0,0,0,0]))) (bnd (eb) fun x31=>some x31) (bnd (br (!(aZ.vNeg == aY.vNeg)) (vOf 16 (List.take 16 (List.drop 0 (eF).toList)))) fun Ld=>some Ld))
theorem lw {aZ:ap}{aY:ap}{r:ap}(h:iI aZ aY=some r):ar prog 90 [dG au aZ,dG au aY] (dG au r):=by
 refine bB (rs:=[.cell 4 32]) (fun cx hx h0=>?_) func90
 unfold iI at h
 refine rai hx ?_
 refine AW.seq (rs hx fun K hK=>?_)
 iterate 2 refine sbi ?_
 refine s1 (pP ([aZ,aY]:List ap) au rO g5) ?_
 refine scb h gy fun x1 h=>?_
 refine nbi hK ?_
 refine cdh h rfl (fun fT h=>?_) (fun fT h=>?_)
 refine rs hx fun K hK=>?_
 refine scb h gI fun x4 h=>?_
 refine nbi hK ?_
 exact AW.ret (rtv h)
 refine AW.skip (rs hx fun K hK=>?_)
 refine s1 (s9 (F:=(cA 32 (cI .u32)).f (Vector.replicate 32 (0:Int))) GR) ?_
 refine nl hK ?_
 refine rsd [128] hx fun K hK=>?_
 refine mbi ?_
 refine cqb h jS fun x6 h=>?_
 refine mbi ?_
 refine cqb h jS fun x8 h=>?_
 refine nbi hK ?_
 refine AW.seq (ra hx ?_)
 refine AW.block ?_
 obtain⟨eF,hy,h⟩:=ai h
 refine lp (S:=Int×(Vector Int 32)) (X:=(Vector Int 32)) (fun (bb,lX)=>[(2,.pt 0 0),(3,.pt 1 0),(4,.pt 2 0),(5,.pt 3 0),(7,dI .i64 x8),(23,dI .i64 x6),(24,dI .i64 bb)]) (fun (bb,lX)=>⟨[(0,dC (au.f aZ)),(1,dC (au.f aY)),(2,dC (au.f dh)),(3,dC ((cA 32 (cI .u32)).f lX))],[],4⟩) (PE cx (.exit 0) (fun eF=>[(2,.pt 0 0),(3,.pt 1 0),(4,.pt 2 0),(5,.pt 3 0)]) fun eF=>⟨[(0,dC (au.f aZ)),(1,dC (au.f aY)),(2,dC (au.f dh)),(3,dC ((cA 32 (cI .u32)).f eF))],[],4⟩) hy ?_ ?_ ?_
 exact wk0 h0 [0,1,2,4]
 clear hy h
 rintro⟨bb,lX⟩ y h
 dsimp only[iw] at h
 refine ra hx ?_
 refine AW.seq (cdh h rfl (fun ke h=>?_) (fun ke h=>?_))
 refine AW.skip (AW.seq (AW.block ?_))
 iterate 2 refine ra hx ?_
 refine AW.seq (ra hx ?_)
 refine AW.block ?_
 obtain⟨y,hy,h⟩:=ai h
 refine lp (S:=Int×Int×(Vector Int 32)) (X:=Int×(Vector Int 32)) (fun (Gn,pI,Bc)=>[(2,.pt 0 0),(3,.pt 1 0),(4,.pt 2 0),(5,.pt 3 0),(7,dI .i64 x8),(8,dI .i64 bb),(9,dI .u64 Gn),(23,dI .i64 x6),(24,dI .i64 bb),(27,dI .i64 x8),(28,dI .i64 pI)]) (fun (Gn,pI,Bc)=>⟨[(0,dC (au.f aZ)),(1,dC (au.f aY)),(2,dC (au.f dh)),(3,dC ((cA 32 (cI .u32)).f Bc))],[],4⟩) (PE cx (.exit 2) (fun (vB,vA)=>[(2,.pt 0 0),(3,.pt 1 0),(4,.pt 2 0),(5,.pt 3 0),(7,dI .i64 x8),(8,dI .i64 bb),(9,dI .u64 vB),(23,dI .i64 x6),(24,dI .i64 bb)]) fun (vB,vA)=>⟨[(0,dC (au.f aZ)),(1,dC (au.f aY)),(2,dC (au.f dh)),(3,dC ((cA 32 (cI .u32)).f vA))],[],4⟩) hy ?_ ?_ ?_
 exact wk0 h0 [0,1,2,3]
 clear hy h
 rintro⟨Gn,pI,Bc⟩ y h
 dsimp only[iu] at h
 refine ra hx ?_
 refine AW.seq (cdh h rfl (fun Tk h=>?_) (fun Tk h=>?_))
 refine AW.skip (AW.seq (AW.block (ra hx ?_)))
 refine rsd [] hx fun K hK=>?_
 iterate 3 refine sa ?_
 obtain⟨hc12,h⟩:=ax h
 iterate 5 refine sbi ?_
 obtain⟨hc14,h⟩:=ax h
 iterate 7 refine sbi ?_
 obtain⟨Te,h⟩:=ax h
 iterate 5 refine sbi ?_
 obtain⟨rL,CX,h⟩:=ai h
 replace CX:=bZ CX
 refine s2 (d2:=dI .u64 rL) lq (gj (congrArg (dI .u64) CX)) ?_
 refine nl hK ?_
 refine rs hx fun K hK=>?_
 iterate 5 refine sa ?_
 obtain⟨hc20,h⟩:=ax h
 have hn21:(i64.wrap (bb+pI)).toNat<32:=by omega
 refine sbi ?_
 obtain⟨Bg,hx23,h⟩:=ai h
 replace hx23:=bZ hx23
 refine s0 (j9 (b':=u32.wrap (rL)) (a8.comp (a8.id _ _) (a8.vec (cI .u32) Bc (i64.wrap (bb+pI)).toNat hn21) (fun _=>rfl)) bH hx23) ?_
 refine nl hK ?_
 iterate 2 refine rb hx ?_
 exact pel h h0 [0,1,2,3]
 exact AW.exit (per h h0 [0,1,2,3])
 obtain⟨vB,vA⟩:=y
 refine lw0 ?_
 refine rq hx fun K hK=>?_
 iterate 5 refine sa ?_
 obtain⟨hc25,h⟩:=ax h
 have SX:(i64.wrap (bb+x8)).toNat<32:=by omega
 refine sbi ?_
 obtain⟨B0,L5,h⟩:=ai h
 replace L5:=bZ L5
 refine s0 (j9 (b':=u32.wrap (vB)) (a8.comp (a8.id _ _) (a8.vec (cI .u32) vA (i64.wrap (bb+x8)).toNat SX) (fun _=>rfl)) bH L5) ?_
 refine nl hK ?_
 refine rb hx ?_
 exact pel h h0 [0,1,2,3]
 exact AW.exit (per h h0 [0,1,2,3])
 refine lw0 ?_
 refine AW.seq (rs hx fun K hK=>?_)
 refine q1 (slA (n:=32) (l:=(16:Int)) (h:=(32:Int)) tok (by decide) GR bH ⟨_,rfl⟩ rfl) ?_
 refine q1 (sPtr tok rfl cr) ?_
 refine s1 (d:=dG al_cV (vOf 16 (List.take 16 (List.drop 16 (eF).toList)))) (wz (a8.sub (o:=16) 16 (cI .u32) eF 16 (by decide) (by first|rfl|decide)) cr) ?_
 refine s1 (d:=dG al_cV (#v[(0:Int),0,0,0,0,0,0,0,0,0,0,0,0,0,0,0])) (kB cr bH) ?_
 refine s1 (xo tok 2 (by decide) (EqC.arr (EqC.int (d:=0) bH) cr bH) cr) ?_
 refine nl hK ?_
 refine cdh h rfl (fun hb30 h=>?_) (fun hb30 h=>?_)
 refine rs hx fun K hK=>?_
 refine scb h gI fun x31 h=>?_
 refine nbi hK ?_
 exact AW.ret (rtv h)
 refine AW.skip (rsd [111] hx fun K hK=>?_)
 iterate 5 refine sbi ?_
 refine q1 (slA (n:=32) (l:=(0:Int)) (h:=(16:Int)) tok (by decide) GR bH rfl ⟨_,rfl⟩) ?_
 refine q1 (sPtr tok rfl cr) ?_
 refine s1 (d:=dG al_cV (vOf 16 (List.take 16 (List.drop 0 (eF).toList)))) (wz (a8.sub (o:=0) 16 (cI .u32) eF 0 (by decide) (by first|rfl|decide)) cr) ?_
 obtain⟨Ld,L4,h⟩:=ai h
 refine sq tok (cO L4) (by simp only[gZ,pN,jL,oF,iY,c8];exact⟨rfl,gW _ _⟩) (lA (ao _) (lA (rU _ _) lAn)) (.inl (mr _ _)) ?_
 refine nbi hK ?_
 exact AW.ret (rtv h)
def fq(bg:Int):Option Int:=bnd (mf bg) fun x1=>some (i64.wrap ((32:Int) - x1))
theorem ue {bg:Int}{r:Int}(h:fq bg=some r):ar prog 164 [dI .u32 bg] (dI .i64 r):=by
 refine bB (rs:=[.tmp 2]) (fun cx hx h0=>?_) func164
 unfold fq at h
 refine ra hx ?_
 refine rs hx fun K hK=>?_
 refine sa ?_
 refine scb h xH fun x1 h=>?_
 refine nbi hK ?_
 exact AW.ret (rtv h)
def jd(jc:Vector Int 16)(ew:Int)(mB:Int)(bQ:Vector Int 17)(x9:Int):Int×Int→Option ((Int×Int)⊕Int):=fun (cQ,bF)=>bnd (S:=Bool) (cnd (decide (bF<(4294967296:Int))) (cnd (decide ((4294967296:Int)≤cQ)) (some (true)) (gd (0≤i64.wrap (ew - (2:Int))∧i64.wrap (ew - (2:Int))<16) (gd (0≤i64.wrap ((i64.wrap (mB+ew)) - (2:Int))∧i64.wrap ((i64.wrap (mB+ew)) - (2:Int))<17) (some (decide ((ior .u64 (vU .u64 bF (32:Int)) (u64.wrap ((bQ)[(i64.wrap ((i64.wrap (mB+ew)) - (2:Int))).toNat]!)))<(u64.wrap (cQ*(u64.wrap ((jc)[(i64.wrap (ew - (2:Int))).toNat]!)))))))))) (some (false))) fun ja=>cnd ja (some (.inl (u64.wrap (cQ - (1:Int)),u64.wrap (bF+x9)))) (some (.inr cQ))
def ir(jc:Vector Int 16)(ew:Int)(mB:Int)(bQ:Vector Int 17):Option Int:=gd (0≤i64.wrap (mB+ew)∧i64.wrap (mB+ew)<17) (gd (0≤i64.wrap ((i64.wrap (mB+ew)) - (1:Int))∧i64.wrap ((i64.wrap (mB+ew)) - (1:Int))<17) (bnd (some (ior .u64 (vU .u64 (u64.wrap ((bQ)[(i64.wrap (mB+ew)).toNat]!)) (32:Int)) (u64.wrap ((bQ)[(i64.wrap ((i64.wrap (mB+ew)) - (1:Int))).toNat]!)))) fun x5=>gd (0≤i64.wrap (ew - (1:Int))∧i64.wrap (ew - (1:Int))<16) (bnd (some (u64.wrap ((jc)[(i64.wrap (ew - (1:Int))).toNat]!))) fun x9=>gd (x9≠0) (gd (x9≠0) (bnd (aL (jd jc ew mB bQ x9) (u64.wrap (Int.tdiv x5 x9),Int.tmod x5 x9)) fun bW=>some bW)))))
theorem Bh {jc:Vector Int 16}{ew:Int}{mB:Int}{bQ:Vector Int 17}{r:Int}(h:ir jc ew mB bQ=some r):HC prog 166 [.pt 0 0,dG al_cV jc,dI .i64 ew,dI .i64 mB] ⟨[(0,dC ((cA 17 (cI .u32)).f bQ))],[],1⟩ (dI .u64 r) ⟨[(0,dC ((cA 17 (cI .u32)).f bQ))],[],1⟩:=by
 refine HC.of (rs:=[.tmp 8]) tok func166 rfl rfl (cD rfl) rfl (fun cx hx h1 hok=>?_)
 have h0:cx.hp0.next=1:=by rw[h1]
 simp only[dv,Nat.reduceAdd,cj]
 unfold ir at h
 refine ra hx ?_
 refine rsd [] hx fun K hK=>?_
 iterate 5 refine sa ?_
 obtain⟨HK,h⟩:=ax h
 iterate 10 refine sbi ?_
 obtain⟨hc3,h⟩:=ax h
 iterate 4 refine sbi ?_
 obtain⟨x5,L3,h⟩:=ai h
 replace L3:=bZ L3
 refine s2 (d2:=dI .u64 x5) lq (gj (congrArg (dI .u64) L3)) ?_
 refine nl hK ?_
 refine rs hx fun K hK=>?_
 iterate 2 refine sa ?_
 obtain⟨hc7,h⟩:=ax h
 iterate 3 refine sbi ?_
 obtain⟨x9,L6,h⟩:=ai h
 replace L6:=bZ L6
 refine s2 (d2:=dI .u64 x9) lq (gj (congrArg (dI .u64) L6)) ?_
 refine nl hK ?_
 refine rsd [] hx fun K hK=>?_
 iterate 2 refine sa ?_
 obtain⟨Tf,h⟩:=ax h
 refine s1 (Gs Tf) ?_
 iterate 2 refine sa ?_
 obtain⟨hc12,h⟩:=ax h
 refine s1 (Ec hc12) ?_
 refine nbi hK ?_
 refine AW.seq (AW.block ?_)
 obtain⟨bW,hy,h⟩:=ai h
 refine lp (S:=Int×Int) (X:=Int) (fun (cQ,bF)=>[(0,.pt 0 0),(2,dI .i64 ew),(3,dI .i64 mB),(5,.pt 1 0),(10,dI .u64 x9),(11,dI .u64 cQ),(12,dI .u64 bF)]) (fun (cQ,bF)=>⟨[(0,dC ((cA 17 (cI .u32)).f bQ)),(1,dC (al_cV.f jc))],[],2⟩) (PE cx (.exit 0) (fun bW=>[(11,dI .u64 bW)]) fun bW=>⟨[(0,dC ((cA 17 (cI .u32)).f bQ))],[],1⟩) hy ?_ ?_ ?_
 exact wkN h0 [1] (wR rfl (wR rfl (wR rfl (wR rfl (wR rfl (wR rfl (wR rfl wTn))))))) (vC rfl (vC rfl wVn)) wLn
 clear hy h
 rintro⟨cQ,bF⟩ y h
 dsimp only[jd] at h
 iterate 2 refine AW.seq ?_
 obtain⟨ja,hy,h⟩:=ai h
 refine jn ((PE cx .normal (fun ja=>[(0,.pt 0 0),(2,dI .i64 ew),(3,dI .i64 mB),(5,.pt 1 0),(10,dI .u64 x9),(11,dI .u64 cQ),(12,dI .u64 bF),(70,dB ja)]) fun ja=>⟨[(0,dC ((cA 17 (cI .u32)).f bQ)),(1,dC (al_cV.f jc))],[],2⟩) ja) ?_ ?_
 replace h:=hy
 refine rqd [] hx fun K hK=>?_
 refine mbi ?_
 rcases bX h with⟨hb13,h⟩|⟨hb13,h⟩
 refine mbi ?_
 rcases bX h with⟨z6,h⟩|⟨z6,h⟩
 refine nbi hK ?_
 cases h
 exact PE.i (wkN h0 [1] (wR rfl (wR rfl (wR rfl (wR rfl (wR rfl (wR rfl (wR rfl (wR rfl wTn)))))))) (vC rfl (vC rfl wVn)) wLn)
 iterate 3 refine ga z6 ?_
 obtain⟨hc15,h⟩:=ax h
 iterate 2 refine gbi ?_
 iterate 3 refine ga z6 ?_
 refine g1 z6 (O5 (b:=(32:Int)) (by decide)) ?_
 iterate 6 refine ga z6 ?_
 obtain⟨hc17,h⟩:=ax h
 iterate 2 refine gbi ?_
 refine ga z6 ?_
 refine g1 z6 T_or ?_
 refine nbi hK ?_
 cases h
 exact PE.i (wkN h0 [1] (wR rfl (wR rfl (wR rfl (wR rfl (wR rfl (wR rfl (wR rfl (wR rfl wTn)))))))) (vC rfl (vC rfl wVn)) wLn)
 iterate 3 refine LL rfl rfl hb13 ?_
 iterate 20 refine nn_t rfl rfl ?_
 refine nbi hK ?_
 cases h
 exact PE.i (wkN h0 [1] (wR rfl (wR rfl (wR rfl (wR rfl (wR rfl (wR rfl (wR rfl (wR rfl wTn)))))))) (vC rfl (vC rfl wVn)) wLn)
 refine lw0 ?_
 refine cdh h rfl (fun wX h=>?_) (fun wX h=>?_)
 refine AW.skip (AW.block (ra hx ?_))
 refine rb hx ?_
 cases h
 exact PS.l (PE.i (wkN h0 [1] (wR rfl (wR rfl (wR rfl (wR rfl (wR rfl (wR rfl (wR rfl wTn))))))) (vC rfl (vC rfl wVn)) wLn))
 refine AW.exit ?_
 try dsimp only
 try simp only[fS,reduceIte,Nat.reduceEqDiff,reduceCtorEq]
 cases h
 exact PS.r ⟨by nofun,PE.i (wkN h0 [] (wR rfl wTn) (vC rfl wVn) wLn)⟩
 refine lw0 ?_
 refine ra hx ?_
 refine AW.ret ?_
 cases h
 exact rH1 (wkN h0 [] (wR rfl wTn) (vC rfl wVn) wLn)
def iF(jc:Vector Int 16)(ew:Int)(mB:Int)(IS:Int):Int×Int×Int×(Vector Int 17)→Option ((Int×Int×Int×(Vector Int 17))⊕(Int×Int×(Vector Int 17))):=fun (aE,aM,mh,K0)=>cnd (decide (mh<ew)) (gd (0≤mh∧mh<16) (bnd (some (u64.wrap (aE+(u64.wrap (IS*(u64.wrap ((jc)[(mh).toNat]!))))))) fun x4=>gd (0≤i64.wrap (mB+mh)∧i64.wrap (mB+mh)<17) (bnd (some (u64.wrap ((u64.wrap ((u64.wrap ((K0)[(i64.wrap (mB+mh)).toNat]!)) - (u64.wrap (u32.wrap (x4))))) - aM))) fun x8=>gd (0≤i64.wrap (mB+mh)∧i64.wrap (mB+mh)<17) (bnd (some ((K0).set! (i64.wrap (mB+mh)).toNat (u32.wrap (x8)))) fun mA=>some (.inl (li .u64 x4 (32:Int),li .u64 x8 (63:Int),i64.wrap (mh+(1:Int)),mA)))))) (some (.inr (aE,aM,K0)))
def jq(jc:Vector Int 16)(ew:Int)(mB:Int)(IS:Int)(bQ:Vector Int 17):Option (Bool×(Vector Int 17)):=bnd (aL (iF jc ew mB IS) ((0:Int),(0:Int),(0:Int),bQ)) fun (aA,jM,xn)=>gd (0≤i64.wrap (mB+ew)∧i64.wrap (mB+ew)<17) (bnd (some (u64.wrap ((u64.wrap ((u64.wrap ((xn)[(i64.wrap (mB+ew)).toNat]!)) - aA)) - jM))) fun rh=>gd (0≤i64.wrap (mB+ew)∧i64.wrap (mB+ew)<17) (bnd (some ((xn).set! (i64.wrap (mB+ew)).toNat (u32.wrap (rh)))) fun Gv=>some (decide ((li .u64 rh (63:Int))=(1:Int)),Gv)))
theorem B6 {jc:Vector Int 16}{ew:Int}{mB:Int}{IS:Int}{bQ:Vector Int 17}{r:Bool×(Vector Int 17)}(h:jq jc ew mB IS bQ=some r):HC prog 167 [.pt 0 0,dG al_cV jc,dI .i64 ew,dI .i64 mB,dI .u64 IS] ⟨[(0,dC ((cA 17 (cI .u32)).f bQ))],[],1⟩ (dB r.1) ⟨[(0,dC ((cA 17 (cI .u32)).f r.2))],[],1⟩:=by
 refine HC.of (rs:=[.tmp 10]) tok func167 rfl rfl (cD rfl) rfl (fun cx hx h1 hok=>?_)
 have h0:cx.hp0.next=1:=by rw[h1]
 simp only[dv,Nat.reduceAdd,cj]
 unfold jq at h
 iterate 2 refine ra hx ?_
 refine AW.seq (ra hx ?_)
 refine AW.block ?_
 obtain⟨y,hy,h⟩:=ai h
 refine lp (S:=Int×Int×Int×(Vector Int 17)) (X:=Int×Int×(Vector Int 17)) (fun (aE,aM,mh,K0)=>[(0,.pt 0 0),(2,dI .i64 ew),(3,dI .i64 mB),(4,dI .u64 IS),(6,.pt 1 0),(11,dI .u64 aE),(12,dI .u64 aM),(16,dI .i64 ew),(17,dI .i64 mh)]) (fun (aE,aM,mh,K0)=>⟨[(0,dC ((cA 17 (cI .u32)).f K0)),(1,dC (al_cV.f jc))],[],2⟩) (PE cx (.exit 0) (fun (aA,jM,xn)=>[(0,.pt 0 0),(2,dI .i64 ew),(3,dI .i64 mB),(11,dI .u64 aA),(12,dI .u64 jM)]) fun (aA,jM,xn)=>⟨[(0,dC ((cA 17 (cI .u32)).f xn))],[],1⟩) hy ?_ ?_ ?_
 exact wkN h0 [1] (wR rfl (wR rfl (wR rfl (wR rfl (wR rfl (wR rfl (wR rfl (wR rfl (wR rfl wTn))))))))) (vC rfl (vC rfl wVn)) wLn
 clear hy h
 rintro⟨aE,aM,mh,K0⟩ y h
 dsimp only[iF] at h
 refine ra hx ?_
 refine AW.seq (cdh h rfl (fun fy h=>?_) (fun fy h=>?_))
 refine AW.skip (AW.seq (AW.block (ra hx ?_)))
 refine rs hx fun K hK=>?_
 iterate 3 refine sa ?_
 obtain⟨ui,h⟩:=ax h
 iterate 5 refine sbi ?_
 obtain⟨x4,SE,h⟩:=ai h
 replace SE:=bZ SE
 refine s2 (d2:=dI .u64 x4) lq (gj (congrArg (dI .u64) SE)) ?_
 refine nl hK ?_
 refine rs hx fun K hK=>?_
 iterate 5 refine sa ?_
 obtain⟨hc6,h⟩:=ax h
 iterate 9 refine sbi ?_
 obtain⟨x8,Of,h⟩:=ai h
 replace Of:=bZ Of
 refine s2 (d2:=dI .u64 x8) lq (gj (congrArg (dI .u64) Of)) ?_
 refine nl hK ?_
 refine rs hx fun K hK=>?_
 iterate 7 refine sa ?_
 obtain⟨Mo,h⟩:=ax h
 have hn11:(i64.wrap (mB+mh)).toNat<17:=by omega
 refine sbi ?_
 obtain⟨mA,zX,h⟩:=ai h
 replace zX:=bZ zX
 refine s0 (j9 (b':=u32.wrap (x8)) (a8.comp (a8.id _ _) (a8.vec (cI .u32) K0 (i64.wrap (mB+mh)).toNat hn11) (fun _=>rfl)) bH zX) ?_
 refine nl hK ?_
 refine ra hx ?_
 iterate 2 refine rb hx ?_
 cases h
 exact PS.l (PE.i (wkN h0 [1] (wR rfl (wR rfl (wR rfl (wR rfl (wR rfl (wR rfl (wR rfl (wR rfl (wR rfl wTn))))))))) (vC rfl (vC rfl wVn)) wLn))
 refine AW.exit ?_
 try dsimp only
 try simp only[fS,reduceIte,Nat.reduceEqDiff,reduceCtorEq]
 cases h
 exact PS.r ⟨by nofun,PE.i (wkN h0 [] (wR rfl (wR rfl (wR rfl (wR rfl (wR rfl wTn))))) (vC rfl wVn) wLn)⟩
 obtain⟨aA,jM,xn⟩:=y
 refine lw0 ?_
 refine rs hx fun K hK=>?_
 iterate 5 refine sa ?_
 obtain⟨hc15,h⟩:=ax h
 iterate 7 refine sbi ?_
 obtain⟨rh,CY,h⟩:=ai h
 replace CY:=bZ CY
 refine s2 (d2:=dI .u64 rh) lq (gj (congrArg (dI .u64) CY)) ?_
 refine nl hK ?_
 refine rs hx fun K hK=>?_
 iterate 7 refine sa ?_
 obtain⟨hc19,h⟩:=ax h
 have hn20:(i64.wrap (mB+ew)).toNat<17:=by omega
 refine sbi ?_
 obtain⟨Gv,SF,h⟩:=ai h
 replace SF:=bZ SF
 refine s0 (j9 (b':=u32.wrap (rh)) (a8.comp (a8.id _ _) (a8.vec (cI .u32) xn (i64.wrap (mB+ew)).toNat hn20) (fun _=>rfl)) bH SF) ?_
 refine nl hK ?_
 refine ra hx ?_
 refine AW.ret ?_
 cases h
 exact rH1 (wkN h0 [] (wR rfl wTn) (vC rfl wVn) wLn)
def iH(jc:Vector Int 16)(ew:Int)(mB:Int):Int×Int×(Vector Int 17)→Option ((Int×Int×(Vector Int 17))⊕(Int×(Vector Int 17))):=fun (aE,aM,mh)=>cnd (decide (aM<ew)) (gd (0≤i64.wrap (mB+aM)∧i64.wrap (mB+aM)<17) (gd (0≤aM∧aM<16) (bnd (some (u64.wrap (aE+(u64.wrap ((u64.wrap ((mh)[(i64.wrap (mB+aM)).toNat]!))+(u64.wrap ((jc)[(aM).toNat]!))))))) fun x6=>gd (0≤i64.wrap (mB+aM)∧i64.wrap (mB+aM)<17) (bnd (some ((mh).set! (i64.wrap (mB+aM)).toNat (u32.wrap (x6)))) fun qp=>some (.inl (li .u64 x6 (32:Int),i64.wrap (aM+(1:Int)),qp)))))) (some (.inr (aE,mh)))
def ju(jc:Vector Int 16)(ew:Int)(mB:Int)(bQ:Vector Int 17):Option (Vector Int 17):=bnd (aL (iH jc ew mB) ((0:Int),(0:Int),bQ)) fun (aA,jM)=>gd (0≤i64.wrap (mB+ew)∧i64.wrap (mB+ew)<17) (gd (0≤i64.wrap (mB+ew)∧i64.wrap (mB+ew)<17) (bnd (some ((jM).set! (i64.wrap (mB+ew)).toNat (u32.wrap (((jM)[(i64.wrap (mB+ew)).toNat]!)+(u32.wrap (aA)))))) fun rh=>some rh))
theorem B7 {jc:Vector Int 16}{ew:Int}{mB:Int}{bQ:Vector Int 17}{r:Vector Int 17}(h:ju jc ew mB bQ=some r):HC prog 168 [.pt 0 0,dG al_cV jc,dI .i64 ew,dI .i64 mB] ⟨[(0,dC ((cA 17 (cI .u32)).f bQ))],[],1⟩ (.tu []) ⟨[(0,dC ((cA 17 (cI .u32)).f r))],[],1⟩:=by
 refine HC.of (rs:=[]) tok func168 rfl rfl (cD rfl) rfl (fun cx hx h1 hok=>?_)
 have h0:cx.hp0.next=1:=by rw[h1]
 simp only[dv,Nat.reduceAdd,cj]
 unfold ju at h
 iterate 2 refine ra hx ?_
 refine AW.seq (ra hx ?_)
 refine AW.block ?_
 obtain⟨y,hy,h⟩:=ai h
 refine lp (S:=Int×Int×(Vector Int 17)) (X:=Int×(Vector Int 17)) (fun (aE,aM,mh)=>[(0,.pt 0 0),(2,dI .i64 ew),(3,dI .i64 mB),(5,.pt 1 0),(8,dI .u64 aE),(10,dI .i64 ew),(11,dI .i64 aM)]) (fun (aE,aM,mh)=>⟨[(0,dC ((cA 17 (cI .u32)).f mh)),(1,dC (al_cV.f jc))],[],2⟩) (PE cx (.exit 0) (fun (aA,jM)=>[(0,.pt 0 0),(2,dI .i64 ew),(3,dI .i64 mB),(8,dI .u64 aA)]) fun (aA,jM)=>⟨[(0,dC ((cA 17 (cI .u32)).f jM))],[],1⟩) hy ?_ ?_ ?_
 exact wkN h0 [1] (wR rfl (wR rfl (wR rfl (wR rfl (wR rfl (wR rfl (wR rfl wTn))))))) (vC rfl (vC rfl wVn)) wLn
 clear hy h
 rintro⟨aE,aM,mh⟩ y h
 dsimp only[iH] at h
 refine ra hx ?_
 refine AW.seq (cdh h rfl (fun fy h=>?_) (fun fy h=>?_))
 refine AW.skip (AW.seq (AW.block (ra hx ?_)))
 refine rsd [] hx fun K hK=>?_
 iterate 6 refine sa ?_
 obtain⟨ui,h⟩:=ax h
 iterate 4 refine sbi ?_
 obtain⟨Qn,h⟩:=ax h
 iterate 5 refine sbi ?_
 obtain⟨x6,ug,h⟩:=ai h
 replace ug:=bZ ug
 refine s2 (d2:=dI .u64 x6) lq (gj (congrArg (dI .u64) ug)) ?_
 refine nl hK ?_
 refine rs hx fun K hK=>?_
 iterate 7 refine sa ?_
 obtain⟨hc8,h⟩:=ax h
 have hn9:(i64.wrap (mB+aM)).toNat<17:=by omega
 refine sbi ?_
 obtain⟨qp,EX,h⟩:=ai h
 replace EX:=bZ EX
 refine s0 (j9 (b':=u32.wrap (x6)) (a8.comp (a8.id _ _) (a8.vec (cI .u32) mh (i64.wrap (mB+aM)).toNat hn9) (fun _=>rfl)) bH EX) ?_
 refine nl hK ?_
 iterate 2 refine rb hx ?_
 cases h
 exact PS.l (PE.i (wkN h0 [1] (wR rfl (wR rfl (wR rfl (wR rfl (wR rfl (wR rfl (wR rfl wTn))))))) (vC rfl (vC rfl wVn)) wLn))
 refine AW.exit ?_
 try dsimp only
 try simp only[fS,reduceIte,Nat.reduceEqDiff,reduceCtorEq]
 cases h
 exact PS.r ⟨by nofun,PE.i (wkN h0 [] (wR rfl (wR rfl (wR rfl (wR rfl wTn)))) (vC rfl wVn) wLn)⟩
 obtain⟨aA,jM⟩:=y
 refine lw0 ?_
 refine rqd [] hx fun K hK=>?_
 iterate 5 refine sa ?_
 obtain⟨hc13,h⟩:=ax h
 iterate 6 refine sbi ?_
 obtain⟨hc15,h⟩:=ax h
 have hn16:(i64.wrap (mB+ew)).toNat<17:=by omega
 refine sbi ?_
 obtain⟨rh,CY,h⟩:=ai h
 replace CY:=bZ CY
 refine s0 (j9 (b':=u32.wrap (((jM)[(i64.wrap (mB+ew)).toNat]!)+(u32.wrap (aA)))) (a8.comp (a8.id _ _) (a8.vec (cI .u32) jM (i64.wrap (mB+ew)).toNat hn16) (fun _=>rfl)) bH CY) ?_
 refine nl hK ?_
 cases h
 exact rH0 (wkN h0 [] wTn (vC rfl wVn) wLn)
def eK(x1:Int)(Ll:(Vector Int 16)×Int):Int×(Vector Int 16)×(Vector Int 17)→Option ((Int×(Vector Int 16)×(Vector Int 17))⊕((Vector Int 16)×(Vector Int 17))):=fun (qW,Bb,D7)=>cnd (decide ((0:Int)≤qW)) (bnd (ir Ll.1 x1 qW D7) fun x28=>bnd (S:=Int×(Vector Int 17)) (bnd (jq Ll.1 x1 qW x28 D7) fun Nz=>cnd Nz.1 (bnd (ju Ll.1 x1 qW Nz.2) fun Ld=>some ((u64.wrap (x28 - (1:Int)),Ld))) (some ((x28,Nz.2)))) fun (Gk,K2)=>gd (0≤qW∧qW<16) (some (.inl (i64.wrap (qW - (1:Int)),(Bb).set! (qW).toNat (u32.wrap (Gk)),K2)))) (some (.inr (Bb,D7)))
def fB(aZ:Vector Int 16)(aY:Vector Int 16):Option ((Vector Int 16)×(Vector Int 16)):=bnd (eA aY) fun x1=>bnd (eA aZ) fun x3=>bnd (kC aZ aY) fun x5=>cnd (decide (x5<(0:Int))) (bnd (some (#v[(0:Int),0,0,0,0,0,0,0,0,0,0,0,0,0,0,0])) fun x8=>some (x8,aZ)) (cnd (decide (x1=(1:Int))) (bnd (mC aZ ((aY)[((0:Int)).toNat]!)) fun mA=>bnd (some (#v[mA.2,0,0,0,0,0,0,0,0,0,0,0,0,0,0,0])) fun ud=>some (mA.1,ud)) (gd (0≤i64.wrap (x1 - (1:Int))∧i64.wrap (x1 - (1:Int))<16) (bnd (fq ((aY)[(i64.wrap (x1 - (1:Int))).toNat]!)) fun rL=>bnd (oR aY rL) fun Ll=>bnd (oR aZ rL) fun Bg=>bnd (some (vOf 17 (lCp ((Vector.replicate 17 (0:Int))).toList 0 (List.take 17 (List.take 16 (List.drop 0 (Bg.1).toList)))))) fun PC=>bnd (aL (eK x1 Ll) (i64.wrap (x3 - x1),(cy),(PC).set! ((16:Int)).toNat Bg.2)) fun (yN,tS)=>bnd (nU (vOf 16 (List.take 16 (List.drop 0 (tS).toList))) rL) fun PB=>some (yN,PB))))
theorem sw {aZ:Vector Int 16}{aY:Vector Int 16}{r:(Vector Int 16)×(Vector Int 16)}(h:fB aZ aY=some r):ar prog 130 [dG al_cV aZ,dG al_cV aY] (.tu [dG al_cV r.1,dG al_cV r.2]):=by
 refine bB (rs:=[.cell 4 30,.cell 5 30]) (fun cx hx h0=>?_) func130
 unfold fB at h
 refine rai hx ?_
 refine rsd [128] hx fun K hK=>?_
 refine mbi ?_
 refine cqb h jS fun x1 h=>?_
 refine mbi ?_
 refine cqb h jS fun x3 h=>?_
 refine nbi hK ?_
 refine AW.seq (rs hx fun K hK=>?_)
 refine mbi ?_
 refine scb h v5 fun x5 h=>?_
 refine nbi hK ?_
 refine cdh h rfl (fun wW h=>?_) (fun wW h=>?_)
 refine AW.seq ?_
 obtain⟨x8,Of,h⟩:=ai h
 replace Of:=bZ Of
 refine jn (PE cx .normal (fun (_:Unit)=>[(4,.pt 0 0),(5,.pt 1 0)]) (fun (_:Unit)=>⟨[(0,dC (al_cV.f x8)),(1,dC (al_cV.f aZ))],[],2⟩) ()) ?_ ?_
 refine dw (DW.split 1 2 (by decide) ?_ ?_)
 refine dwg [] [0,1,2,3] hx (by kernel_rfl) (by kernel_rfl) (by kernel_rfl) fun K hK=>?_
 dsimp only[db,nG,nD,List.map]
 refine s1 (d:=dG al_cV (#v[(0:Int),0,0,0,0,0,0,0,0,0,0,0,0,0,0,0])) (kB cr bH) ?_
 refine sbi ?_
 refine s0 (j9 (b':=#v[(0:Int),0,0,0,0,0,0,0,0,0,0,0,0,0,0,0]) (a8.id _ _) cr Of) ?_
 refine tzi ?_
 exact .nil (hK _ _ (pe0 h0 [2,3]))
 refine dwg [] [0,2,1,3] hx (by kernel_rfl) (by kernel_rfl) (by kernel_rfl) fun K hK=>?_
 dsimp only[db,nG,nD,List.map]
 refine s1 (d:=dG al_cV (#v[(0:Int),0,0,0,0,0,0,0,0,0,0,0,0,0,0,0])) (kB cr bH) ?_
 refine s0 (j9 (b':=#v[(0:Int),0,0,0,0,0,0,0,0,0,0,0,0,0,0,0]) (a8.id _ _) cr Of) ?_
 refine sbi ?_
 refine tzi ?_
 exact .nil (hK _ _ (pe0 h0 [2,3]))
 refine lw0 ?_
 refine AW.ret ?_
 cases h
 exact rv2
 refine AW.skip (AW.seq (ra hx ?_))
 refine cdh h rfl (fun ke h=>?_) (fun ke h=>?_)
 refine rs hx fun K hK=>?_
 refine sbi ?_
 refine s1 (s8 (by decide:0≤(0:Int)∧(0:Int)<((16:Nat):Int)) cr bH) ?_
 refine mbi ?_
 refine scb h EC fun mA h=>?_
 refine nbi hK ?_
 refine rs hx fun K hK=>?_
 iterate 2 refine sbi ?_
 refine s1 (d:=dG al_cV (#v[mA.2,0,0,0,0,0,0,0,0,0,0,0,0,0,0,0])) (kB cr bH) ?_
 refine tzi ?_
 obtain⟨ud,zW,h⟩:=ai h
 replace zW:=bZ zW
 refine s0 (j9 (b':=#v[mA.2,0,0,0,0,0,0,0,0,0,0,0,0,0,0,0]) (a8.id _ _) cr zW) ?_
 refine nl hK ?_
 refine AW.ret ?_
 cases h
 exact rv2
 refine AW.skip (rs hx fun K hK=>?_)
 iterate 2 refine sa ?_
 obtain⟨Te,h⟩:=ax h
 refine mbi ?_
 refine scb h ue fun rL h=>?_
 refine nbi hK ?_
 refine rs hx fun K hK=>?_
 refine mbi ?_
 refine scb h B5 fun Ll h=>?_
 refine nbi hK ?_
 refine rs hx fun K hK=>?_
 refine mbi ?_
 refine scb h B5 fun Bg h=>?_
 refine nbi hK ?_
 refine rs hx fun K hK=>?_
 refine s1 (s9 (F:=(cA 17 (cI .u32)).f (Vector.replicate 17 (0:Int))) Ci) ?_
 refine nl hK ?_
 refine rsd [] hx fun K hK=>?_
 refine q1 (slA (n:=17) (l:=(0:Int)) (h:=(17:Int)) tok (by decide) Ci bH rfl rfl) ?_
 refine q1 (slA (n:=16) (l:=(0:Int)) (h:=(16:Int)) tok (by decide) cr bH rfl rfl) ?_
 obtain⟨PC,hx25,h⟩:=ai h
 replace hx25:=bZ hx25
 refine q1 (hp':=⟨[(6,dC ((cA 17 (cI .u32)).f PC)),(6,dC ((cA 17 (cI .u32)).f (Vector.replicate 17 (0:Int)))),(5,dC (al_cV.f Bg.1)),(5,dC (al_cV.f (cy))),(4,dC (al_cV.f Ll.1)),(4,dC (al_cV.f (cy))),(3,dC (al_cV.f (cy))),(2,dC (al_cV.f (cy))),(1,dC (al_cV.f aY)),(0,dC (al_cV.f aZ))],[],7⟩) (sCpA (c:=(cI .u32)) (v:=(Vector.replicate 17 (0:Int))) (s:=(List.take 16 (List.drop 0 (Bg.1).toList))) tok Rr bH (u5.arr (c:=(cI .u32)) (v:=Bg.1) rfl 0 (by decide)) (by simp only[cz,fZ,m5];omega) rfl 0 (by decide) (congrArg (fun q=>(6,dC ((cA 17 (cI .u32)).f q))::_) hx25)) ?_
 refine nl hK ?_
 refine rs hx fun K hK=>?_
 refine sa ?_
 have SX:((16:Int)).toNat<17:=by omega
 refine s1 (s8 (by decide:0≤(16:Int)∧(16:Int)<((17:Nat):Int)) Ci bH) ?_
 refine s0 (s6 (b':=Bg.2) (a8.comp (a8.id _ _) (a8.vec (cI .u32) PC ((16:Int)).toNat SX) (fun _=>rfl)) bH) ?_
 refine nl hK ?_
 refine AW.seq (ra hx ?_)
 refine AW.block ?_
 obtain⟨y,hy,h⟩:=ai h
 refine lp (S:=Int×(Vector Int 16)×(Vector Int 17)) (X:=(Vector Int 16)×(Vector Int 17)) (fun (qW,Bb,D7)=>[(4,.pt 0 0),(5,.pt 1 0),(6,dI .i64 x1),(10,dI .i64 rL),(11,.pt 2 0),(15,.pt 3 0),(16,dI .i64 qW)]) (fun (qW,Bb,D7)=>⟨[(0,dC (al_cV.f Bb)),(1,dC (al_cV.f (cy))),(2,dC (al_cV.f Ll.1)),(3,dC ((cA 17 (cI .u32)).f D7))],[],4⟩) (PE cx (.exit 0) (fun (yN,tS)=>[(4,.pt 0 0),(5,.pt 1 0),(10,dI .i64 rL),(15,.pt 2 0)]) fun (yN,tS)=>⟨[(0,dC (al_cV.f yN)),(1,dC (al_cV.f (cy))),(2,dC ((cA 17 (cI .u32)).f tS))],[],3⟩) hy ?_ ?_ ?_
 exact wk0 h0 [2,3,4,6]
 clear hy h
 rintro⟨qW,Bb,D7⟩ y h
 dsimp only[eK] at h
 refine AW.seq (ra hx ?_)
 refine cdh h rfl (fun hb27 h=>?_) (fun hb27 h=>?_)
 refine AW.skip (AW.seq (AW.block (rs hx fun K hK=>?_)))
 iterate 3 refine sbi ?_
 obtain⟨x28,hx29,h⟩:=ai h
 refine s1 (BY [3] rfl (Bh hx29) (fA (ao _) (fAG (ao _) (fA (ao _) (fA (ao _) fAn)))) (vC rfl wVn) wLn (rvC rvN) rfl rfl) ?_
 refine nbi hK ?_
 refine AW.seq ?_
 obtain⟨y,hy,h⟩:=ai h
 refine jn ((PE cx .normal (fun (Gk,K2)=>[(4,.pt 0 0),(5,.pt 1 0),(6,dI .i64 x1),(10,dI .i64 rL),(11,.pt 2 0),(15,.pt 3 0),(16,dI .i64 qW),(17,dI .u64 Gk)]) fun (Gk,K2)=>⟨[(0,dC (al_cV.f Bb)),(1,dC (al_cV.f (cy))),(2,dC (al_cV.f Ll.1)),(3,dC ((cA 17 (cI .u32)).f K2))],[],4⟩) y) ?_ ?_
 replace h:=hy
 refine rs hx fun K hK=>?_
 iterate 4 refine sbi ?_
 obtain⟨Nz,hx31,h⟩:=ai h
 refine s1 (BY [3] rfl (B6 hx31) (fA (ao _) (fAG (ao _) (fA (ao _) (fA (ao _) (fA (ao _) fAn))))) (vC rfl wVn) wLn (rvC rvN) rfl rfl) ?_
 refine nl hK ?_
 refine cdh h rfl (fun hb32 h=>?_) (fun hb32 h=>?_)
 refine ra hx ?_
 refine rq hx fun K hK=>?_
 iterate 3 refine sbi ?_
 obtain⟨Ld,L4,h⟩:=ai h
 refine s1 (BY [3] rfl (B7 L4) (fA (ao _) (fAG (ao _) (fA (ao _) (fA (ao _) fAn)))) (vC rfl wVn) wLn (rvC rvN) rfl rfl) ?_
 refine nl hK ?_
 exact pe1 h h0 [0,1,2,3]
 exact AW.skip (pe1 h h0 [0,1,2,3])
 obtain⟨Gk,K2⟩:=y
 refine lw0 ?_
 refine rq hx fun K hK=>?_
 iterate 3 refine sa ?_
 obtain⟨hc36,h⟩:=ax h
 have hn37:(qW).toNat<16:=by omega
 refine sbi ?_
 refine s0 (s6 (b':=u32.wrap (Gk)) (a8.comp (a8.id _ _) (a8.vec (cI .u32) Bb (qW).toNat hn37) (fun _=>rfl)) bH) ?_
 refine nl hK ?_
 refine rb hx ?_
 exact pel h h0 [0,1,2,3]
 exact AW.exit (per h h0 [0,1,3])
 obtain⟨yN,tS⟩:=y
 refine lw0 ?_
 refine rsd [169] hx fun K hK=>?_
 refine sbi ?_
 refine q1 (slA (n:=17) (l:=(0:Int)) (h:=(16:Int)) tok (by decide) Ci bH rfl ⟨_,rfl⟩) ?_
 refine q1 (sPtr tok rfl cr) ?_
 refine s1 (d:=dG al_cV (vOf 16 (List.take 16 (List.drop 0 (tS).toList)))) (wz (a8.sub (o:=0) 16 (cI .u32) tS 0 (by decide) (by first|rfl|decide)) cr) ?_
 refine sa ?_
 obtain⟨PB,hx40,h⟩:=ai h
 refine sq tok (Gx hx40) (by simp only[gZ,pN,jL,oF,iY,c8];exact⟨gW _ _,rfl⟩) (lA (rU _ _) (lA (ao _) lAn)) (.inl (mr _ _)) ?_
 refine nbi hK ?_
 refine AW.ret ?_
 cases h
 exact rv2
def pz(bg:ap):Option ap:=bnd (cK [bg]) fun x1=>cnd (!x1) (bnd (eb) fun x4=>some x4) (bnd (br false bg.vW) fun x6=>some x6)
theorem I4 {bg:ap}{r:ap}(h:pz bg=some r):ar prog 131 [dG au bg] (dG au r):=by
 refine bB (rs:=[.cell 2 32]) (fun cx hx h0=>?_) func131
 unfold pz at h
 refine rai hx ?_
 refine AW.seq (rs hx fun K hK=>?_)
 refine sbi ?_
 refine s1 (pP ([bg]:List ap) au rO g5) ?_
 refine scb h gy fun x1 h=>?_
 refine nbi hK ?_
 refine cdh h rfl (fun fT h=>?_) (fun fT h=>?_)
 refine rs hx fun K hK=>?_
 refine scb h gI fun x4 h=>?_
 refine nbi hK ?_
 exact AW.ret (rtv h)
 refine AW.skip (rs hx fun K hK=>?_)
 refine mbi ?_
 refine scb h cO fun x6 h=>?_
 refine nbi hK ?_
 exact AW.ret (rtv h)
def ix :Int×Int→Option ((Int×Int)⊕Int):=fun (bb,lX)=>cnd (decide (lX≠(0:Int))) (gd (lX≠0) (some (.inl (lX,Int.tmod bb lX)))) (some (.inr bb))
def ce(NY:ap→ap→Option ap)(aZ:ap)(aY:ap):Option ap:=bnd (cK [aZ,aY]) fun x1=>cnd (!x1) (bnd (eb) fun x4=>some x4) (bnd (S:=Bool) (bnd (eA aZ.vW) fun x6=>cnd (decide (x6≤(2:Int))) (bnd (eA aY.vW) fun x9=>some (decide (x9≤(2:Int)))) (some (false))) fun nB=>cnd nB (bnd (some (ior .u64 (vU .u64 (u64.wrap ((aZ.vW)[((1:Int)).toNat]!)) (32:Int)) (u64.wrap ((aZ.vW)[((0:Int)).toNat]!)))) fun rh=>bnd (some (ior .u64 (vU .u64 (u64.wrap ((aY.vW)[((1:Int)).toNat]!)) (32:Int)) (u64.wrap ((aY.vW)[((0:Int)).toNat]!)))) fun Q7=>bnd (aL (ix) (rh,Q7)) fun eF=>bnd (br false (#v[u32.wrap (eF),u32.wrap (li .u64 eF (32:Int)),0,0,0,0,0,0,0,0,0,0,0,0,0,0])) fun PC=>some PC) (cnd (decide (¬(aY.vW=#v[(0:Int),0,0,0,0,0,0,0,0,0,0,0,0,0,0,0]))) (bnd (fB aZ.vW aY.vW) fun B0=>bnd (br false aY.vW) fun IQ=>bnd (br false B0.2) fun x31=>bnd (NY IQ x31) fun Ld=>some Ld) (bnd (pz aZ) fun x35=>some x35)))
theorem ED {NY:ap→ap→Option ap}(ih:∀{aZ:ap} {aY:ap} {r:ap},NY aZ aY=some r→ar prog 93 [dG au aZ,dG au aY] (dG au r)){aZ:ap}{aY:ap}{r:ap}(h:ce NY aZ aY=some r):ar prog 93 [dG au aZ,dG au aY] (dG au r):=by
 refine bB (rs:=[.cell 4 32]) (fun cx hx h0=>?_) func93
 unfold ce at h
 refine rai hx ?_
 refine AW.seq (rs hx fun K hK=>?_)
 iterate 2 refine sbi ?_
 refine s1 (pP ([aZ,aY]:List ap) au rO g5) ?_
 refine scb h gy fun x1 h=>?_
 refine nbi hK ?_
 refine cdh h rfl (fun fT h=>?_) (fun fT h=>?_)
 refine rs hx fun K hK=>?_
 refine scb h gI fun x4 h=>?_
 refine nbi hK ?_
 exact AW.ret (rtv h)
 refine AW.skip ?_
 iterate 2 refine AW.seq ?_
 obtain⟨nB,hy,h⟩:=ai h
 refine jn ((PE cx .normal (fun nB=>[(2,.pt 0 0),(3,.pt 1 0),(4,.pt 2 0),(26,dB nB)]) fun nB=>⟨[(0,dC (au.f aZ)),(1,dC (au.f aY)),(2,dC (au.f dh))],[],3⟩) nB) ?_ ?_
 replace h:=hy
 refine rq hx fun K hK=>?_
 refine mbi ?_
 refine scb h jS fun x6 h=>?_
 refine mbi ?_
 rcases bX h with⟨E8,h⟩|⟨E8,h⟩
 refine ga E8 ?_
 refine gbi ?_
 refine gcb h jS fun x9 h=>?_
 refine nbi hK ?_
 exact pe1 h h0 [0,1,2]
 refine nbi hK ?_
 exact pe1 h h0 [0,1,2]
 refine lw0 ?_
 refine cdh h rfl (fun Da h=>?_) (fun Da h=>?_)
 refine rsd [] hx fun K hK=>?_
 refine sa ?_
 refine s1 (s8 (by decide:0≤(1:Int)∧(1:Int)<((16:Nat):Int)) cr bH) ?_
 iterate 4 refine sbi ?_
 refine s1 (s8 (by decide:0≤(0:Int)∧(0:Int)<((16:Nat):Int)) cr bH) ?_
 iterate 4 refine sbi ?_
 refine s1 (s8 (by decide:0≤(1:Int)∧(1:Int)<((16:Nat):Int)) cr bH) ?_
 iterate 4 refine sbi ?_
 refine s1 (s8 (by decide:0≤(0:Int)∧(0:Int)<((16:Nat):Int)) cr bH) ?_
 iterate 3 refine sbi ?_
 obtain⟨rh,CY,h⟩:=ai h
 replace CY:=bZ CY
 refine s2 (d2:=dI .u64 rh) lq (gj (congrArg (dI .u64) CY)) ?_
 obtain⟨Q7,hx20,h⟩:=ai h
 replace hx20:=bZ hx20
 refine s2 (d2:=dI .u64 Q7) lq (gj (congrArg (dI .u64) hx20)) ?_
 refine nl hK ?_
 refine AW.seq (AW.block ?_)
 obtain⟨eF,hy,h⟩:=ai h
 refine lp (S:=Int×Int) (X:=Int) (fun (bb,lX)=>[(4,.pt 0 0),(5,dI .u64 bb),(6,dI .u64 lX)]) (fun (bb,lX)=>⟨[(0,dC (au.f dh))],[],1⟩) (PE cx (.exit 0) (fun eF=>[(4,.pt 0 0),(5,dI .u64 eF)]) fun eF=>⟨[(0,dC (au.f dh))],[],1⟩) hy ?_ ?_ ?_
 exact wk0 h0 [2]
 clear hy h
 rintro⟨bb,lX⟩ y h
 dsimp only[ix] at h
 refine AW.seq (ra hx ?_)
 refine cdh h rfl (fun HM h=>?_) (fun HM h=>?_)
 refine AW.skip (AW.block (rqd [] hx fun K hK=>?_))
 iterate 3 refine sa ?_
 obtain⟨Mn,h⟩:=ax h
 refine s1 (Ec Mn) ?_
 refine nbi hK ?_
 exact pel h h0 [0]
 exact AW.exit (per h h0 [0])
 refine lw0 ?_
 refine rs hx fun K hK=>?_
 iterate 5 refine sa ?_
 refine s1 (d:=dG al_cV (#v[u32.wrap (eF),u32.wrap (li .u64 eF (32:Int)),0,0,0,0,0,0,0,0,0,0,0,0,0,0])) (kB cr bH) ?_
 refine scb h cO fun PC h=>?_
 refine nbi hK ?_
 exact AW.ret (rtv h)
 refine AW.skip ?_
 iterate 2 refine AW.seq ?_
 refine jn (PE cx .normal (fun (_:Unit)=>[(2,.pt 0 0),(4,.pt 1 0),(7,.pt 2 0),(8,.pt 3 0)]) (fun (_:Unit)=>⟨[(0,dC (au.f aZ)),(1,dC (au.f dh)),(2,dC (al_cV.f aZ.vW)),(3,dC (al_cV.f aY.vW))],[],4⟩) ()) ?_ ?_
 refine dw (DW.split 4 5 (by decide) ?_ ?_)
 refine DW.split 3 6 (by decide) ?_ ?_
 refine dwg [] [0,1,2,3,4,5,6,7] hx (by kernel_rfl) (by kernel_rfl) (by kernel_rfl) fun K hK=>?_
 dsimp only[db,nG,nD,List.map]
 iterate 6 refine sbi ?_
 iterate 2 refine tzi ?_
 exact .nil (hK _ _ (pe0 h0 [0,2,3,4]))
 refine dwg [] [0,1,2,4,5,6,3,7] hx (by kernel_rfl) (by kernel_rfl) (by kernel_rfl) fun K hK=>?_
 dsimp only[db,nG,nD,List.map]
 iterate 5 refine sbi ?_
 refine tzi ?_
 refine sbi ?_
 refine tzi ?_
 exact .nil (hK _ _ (pe0 h0 [0,2,3,4]))
 refine DW.split 3 6 (by decide) ?_ ?_
 refine dwg [] [0,1,2,3,5,4,6,7] hx (by kernel_rfl) (by kernel_rfl) (by kernel_rfl) fun K hK=>?_
 dsimp only[db,nG,nD,List.map]
 iterate 6 refine sbi ?_
 iterate 2 refine tzi ?_
 exact .nil (hK _ _ (pe0 h0 [0,2,4,3]))
 refine dwg [] [0,1,2,5,4,6,3,7] hx (by kernel_rfl) (by kernel_rfl) (by kernel_rfl) fun K hK=>?_
 dsimp only[db,nG,nD,List.map]
 iterate 5 refine sbi ?_
 refine tzi ?_
 refine sbi ?_
 refine tzi ?_
 exact .nil (hK _ _ (pe0 h0 [0,2,4,3]))
 refine lw0 ?_
 refine rs hx fun K hK=>?_
 refine sbi ?_
 refine s1 (d:=dG al_cV (#v[(0:Int),0,0,0,0,0,0,0,0,0,0,0,0,0,0,0])) (kB cr bH) ?_
 refine s1 (xo tok 2 (by decide) (EqC.arr (EqC.int (d:=0) bH) cr bH) cr) ?_
 refine nl hK ?_
 refine cdh h rfl (fun hb26 h=>?_) (fun hb26 h=>?_)
 refine rs hx fun K hK=>?_
 refine mbi ?_
 refine scb h sw fun B0 h=>?_
 refine nbi hK ?_
 refine rsd [111,93] hx fun K hK=>?_
 refine mbi ?_
 refine cqb h cO fun IQ h=>?_
 refine mbi ?_
 refine cqb h cO fun x31 h=>?_
 refine cqb h ih fun Ld h=>?_
 refine nbi hK ?_
 exact AW.ret (rtv h)
 refine AW.skip (rs hx fun K hK=>?_)
 refine mbi ?_
 refine scb h I4 fun x35 h=>?_
 refine nbi hK ?_
 exact AW.ret (rtv h)
def gL:Nat→ap→ap→Option ap
 |0=>fun _ _=>none
 |n+1=>ce (gL n)
theorem v8:∀(n:Nat) {aZ:ap} {aY:ap} {r:ap},gL n aZ aY=some r→ar prog 93 [dG au aZ,dG au aY] (dG au r)
 |0,_,_,_,h=>by cases h
 |n+1,_,_,_,h=>ED (v8 n) h
def nk(aZ:ap)(aY:ap):Option ap:=gL 1000 aZ aY
theorem uq {aZ:ap}{aY:ap}{r:ap}(h:nk aZ aY=some r):ar prog 93 [dG au aZ,dG au aY] (dG au r):=v8 1000 h
def ko(aZ:ap)(aY:ap):Option (ap×ap):=bnd (S:=Bool) (bnd (cK [aZ,aY]) fun x1=>cnd (!x1) (some (true)) (bnd (gD aY) fun x4=>some (decide (x4=(0:Int))))) fun bG=>cnd bG (bnd (eb) fun x8=>bnd (eb) fun qp=>some (x8,qp)) (bnd (S:=Unit⊕(ap×ap)) (bnd (kE aZ) fun mA=>bnd (S:=Bool) (cnd mA.2 (some (decide (mA.1≠(-9223372036854775808:Int)))) (some (false))) fun c9=>cnd c9 (bnd (kE aY) fun rh=>bnd (S:=Bool) (cnd rh.2 (some (decide (rh.1≠(-9223372036854775808:Int)))) (some (false))) fun nA=>cnd nA (gd (rh.1≠0) (gd (rh.1≠0) (bnd (S:=Int×Int) (bnd (S:=Bool) (cnd (decide ((Int.tmod mA.1 rh.1)≠(0:Int))) (some (!((decide ((Int.tmod mA.1 rh.1)<(0:Int))) == (decide (rh.1<(0:Int)))))) (some (false))) fun Bd=>cnd Bd (bnd (some (i64.wrap ((i64.wrap (Int.tdiv mA.1 rh.1)) - (1:Int)))) fun B0=>bnd (some (i64.wrap ((Int.tmod mA.1 rh.1)+rh.1))) fun IQ=>some ((B0,IQ))) (some ((i64.wrap (Int.tdiv mA.1 rh.1),Int.tmod mA.1 rh.1)))) fun (mn,p7)=>bnd (eS mn) fun x32=>bnd (eS p7) fun x34=>some (.inr (x32,x34))))) (some (.inl ()))) (some (.inl ()))) fun y36=>match y36 with| .inl ()=>bnd (fB aZ.vW aY.vW) fun Ny=>bnd (br (!(aZ.vNeg == aY.vNeg)) Ny.1) fun PB=>bnd (S:=(Vector Int 16)×ap) (bnd (S:=Bool) (cnd (decide (¬(Ny.2=#v[(0:Int),0,0,0,0,0,0,0,0,0,0,0,0,0,0,0]))) (some (!(aZ.vNeg == aY.vNeg))) (some (false))) fun Ba=>cnd Ba (bnd (eS (1:Int)) fun x44=>bnd (nj PB x44) fun x46=>bnd (gK aY.vW Ny.2) fun x48=>some ((x48,x46))) (some ((Ny.2,PB)))) fun (D6,D5)=>bnd (br aY.vNeg D6) fun x51=>some (D5,x51)| .inr r=>some r)
theorem Bi {aZ:ap}{aY:ap}{r:ap×ap}(h:ko aZ aY=some r):ar prog 159 [dG au aZ,dG au aY] (.tu [dG au r.1,dG au r.2]):=by
 refine bB (rs:=[.cell 4 32,.cell 5 32]) (fun cx hx h0=>?_) func159
 unfold ko at h
 refine rai hx ?_
 iterate 2 refine AW.seq ?_
 obtain⟨bG,hy,h⟩:=ai h
 refine jn ((PE cx .normal (fun bG=>[(2,.pt 0 0),(3,.pt 1 0),(4,.pt 2 0),(5,.pt 3 0),(24,dB bG)]) fun bG=>⟨[(0,dC (au.f aZ)),(1,dC (au.f aY)),(2,dC (au.f dh)),(3,dC (au.f dh))],[],4⟩) bG) ?_ ?_
 replace h:=hy
 refine rq hx fun K hK=>?_
 iterate 2 refine sbi ?_
 refine s1 (pP ([aZ,aY]:List ap) au rO g5) ?_
 refine scb h gy fun x1 h=>?_
 refine mbi ?_
 rcases bX h with⟨fT,h⟩|⟨fT,h⟩
 refine nbi hK ?_
 exact pe1 h h0 [0,1,2,3]
 refine gbi ?_
 refine gcb h nI fun x4 h=>?_
 refine nbi hK ?_
 exact pe1 h h0 [0,1,2,3]
 refine lw0 ?_
 refine cdh h rfl (fun wW h=>?_) (fun wW h=>?_)
 refine rs hx fun K hK=>?_
 refine scb h gI fun x8 h=>?_
 refine scb h gI fun qp h=>?_
 refine nbi hK ?_
 refine AW.ret ?_
 cases h
 exact rv2
 refine AW.skip (AW.seq ?_)
 obtain⟨y,hy,h⟩:=ai h
 refine jn ((PS (PE cx .normal (fun ()=>[(2,.pt 0 0),(3,.pt 1 0),(4,.pt 2 0),(5,.pt 3 0)]) fun ()=>⟨[(0,dC (au.f aZ)),(1,dC (au.f aY)),(2,dC (au.f dh)),(3,dC (au.f dh))],[],4⟩) (PR [.cell 4 32,.cell 5 32] fun r=>.tu [dG au r.1,dG au r.2])) y) ?_ ?_
 replace h:=hy
 refine rs hx fun K hK=>?_
 refine mbi ?_
 refine scb h v7 fun mA h=>?_
 refine nbi hK ?_
 refine AW.seq ?_
 obtain⟨c9,hy,h⟩:=ai h
 refine jn ((PE cx .normal (fun c9=>[(2,.pt 0 0),(3,.pt 1 0),(4,.pt 2 0),(5,.pt 3 0),(6,dI .i64 mA.1),(36,dB c9)]) fun c9=>⟨[(0,dC (au.f aZ)),(1,dC (au.f aY)),(2,dC (au.f dh)),(3,dC (au.f dh))],[],4⟩) c9) ?_ ?_
 replace h:=hy
 refine rq hx fun K hK=>?_
 refine mbi ?_
 rcases bX h with⟨z6,h⟩|⟨z6,h⟩
 refine nbi hK ?_
 exact pe1 h h0 [0,1,2,3]
 refine nbi hK ?_
 exact pe1 h h0 [0,1,2,3]
 refine lw0 ?_
 refine cdh h rfl (fun Mq h=>?_) (fun Mq h=>?_)
 refine rs hx fun K hK=>?_
 refine mbi ?_
 refine scb h v7 fun rh h=>?_
 refine nbi hK ?_
 refine AW.seq ?_
 obtain⟨nA,hy,h⟩:=ai h
 refine jn ((PE cx .normal (fun nA=>[(2,.pt 0 0),(3,.pt 1 0),(4,.pt 2 0),(5,.pt 3 0),(6,dI .i64 mA.1),(8,dI .i64 rh.1),(46,dB nA)]) fun nA=>⟨[(0,dC (au.f aZ)),(1,dC (au.f aY)),(2,dC (au.f dh)),(3,dC (au.f dh))],[],4⟩) nA) ?_ ?_
 replace h:=hy
 refine rq hx fun K hK=>?_
 refine mbi ?_
 rcases bX h with⟨Th,h⟩|⟨Th,h⟩
 refine nbi hK ?_
 exact pe1 h h0 [0,1,2,3]
 refine nbi hK ?_
 exact pe1 h h0 [0,1,2,3]
 refine lw0 ?_
 refine cdh h rfl (fun HM h=>?_) (fun HM h=>?_)
 refine rsd [] hx fun K hK=>?_
 iterate 2 refine sa ?_
 obtain⟨Mn,h⟩:=ax h
 refine s1 (Gs Mn) ?_
 iterate 2 refine sa ?_
 obtain⟨hc23,h⟩:=ax h
 refine s1 (Ec hc23) ?_
 refine nbi hK ?_
 refine AW.seq ?_
 obtain⟨y,hy,h⟩:=ai h
 refine jn ((PE cx .normal (fun (mn,p7)=>[(4,.pt 0 0),(5,.pt 1 0),(10,dI .i64 mn),(11,dI .i64 p7)]) fun (mn,p7)=>⟨[(0,dC (au.f dh)),(1,dC (au.f dh))],[],2⟩) y) ?_ ?_
 replace h:=hy
 refine AW.seq ?_
 obtain⟨Bd,hy,h⟩:=ai h
 refine jn ((PE cx .normal (fun Bd=>[(4,.pt 0 0),(5,.pt 1 0),(8,dI .i64 rh.1),(10,dI .i64 (i64.wrap (Int.tdiv mA.1 rh.1))),(11,dI .i64 (Int.tmod mA.1 rh.1)),(61,dB Bd)]) fun Bd=>⟨[(0,dC (au.f dh)),(1,dC (au.f dh))],[],2⟩) Bd) ?_ ?_
 replace h:=hy
 refine rq hx fun K hK=>?_
 refine mbi ?_
 rcases bX h with⟨Mp,h⟩|⟨Mp,h⟩
 refine nbi hK ?_
 exact pe1 h h0 [2,3]
 refine nbi hK ?_
 exact pe1 h h0 [2,3]
 refine lw0 ?_
 refine cdh h rfl (fun hb26 h=>?_) (fun hb26 h=>?_)
 refine rq hx fun K hK=>?_
 iterate 5 refine sa ?_
 obtain⟨B0,L5,h⟩:=ai h
 replace L5:=bZ L5
 refine s2 (d2:=dI .i64 B0) lq (gj (congrArg (dI .i64) L5)) ?_
 obtain⟨IQ,hx30,h⟩:=ai h
 replace hx30:=bZ hx30
 refine s2 (d2:=dI .i64 IQ) lq (gj (congrArg (dI .i64) hx30)) ?_
 refine nl hK ?_
 exact pe1 h h0 [0,1]
 exact AW.skip (pe1 h h0 [0,1])
 obtain⟨mn,p7⟩:=y
 refine lw0 ?_
 refine rs hx fun K hK=>?_
 refine sa ?_
 refine scb h mR fun x32 h=>?_
 refine sa ?_
 refine scb h mR fun x34 h=>?_
 refine nbi hK ?_
 refine AW.ret ?_
 cases h
 refine PS.r (PR.i ?_)
 exact rv2
 exact AW.skip (pel h h0 [0,1,2,3])
 exact AW.skip (pel h h0 [0,1,2,3])
 rcases y with⟨⟩|r
 rintro ex tm' hp' ⟨rfl,hw⟩
 refine AW.weak hw (rs hx fun K hK=>?_)
 refine mbi ?_
 refine scb h sw fun Ny h=>?_
 refine nbi hK ?_
 refine rs hx fun K hK=>?_
 refine mbi ?_
 refine scb h cO fun PB h=>?_
 refine nbi hK ?_
 refine AW.seq ?_
 obtain⟨y,hy,h⟩:=ai h
 refine jn ((PE cx .normal (fun (D6,D5)=>[(3,.pt 0 0),(4,.pt 1 0),(5,.pt 2 0),(13,.pt 3 0),(14,.pt 4 0)]) fun (D6,D5)=>⟨[(0,dC (au.f aY)),(1,dC (au.f dh)),(2,dC (au.f dh)),(3,dC (al_cV.f D6)),(4,dC (au.f D5))],[],5⟩) y) ?_ ?_
 replace h:=hy
 refine AW.seq ?_
 obtain⟨Ba,hy,h⟩:=ai h
 refine jn ((PE cx .normal (fun Ba=>[(3,.pt 0 0),(4,.pt 1 0),(5,.pt 2 0),(13,.pt 3 0),(14,.pt 4 0),(95,dB Ba)]) fun Ba=>⟨[(0,dC (au.f aY)),(1,dC (au.f dh)),(2,dC (au.f dh)),(3,dC (al_cV.f Ny.2)),(4,dC (au.f PB))],[],5⟩) Ba) ?_ ?_
 replace h:=hy
 refine rq hx fun K hK=>?_
 refine sbi ?_
 refine s1 (d:=dG al_cV (#v[(0:Int),0,0,0,0,0,0,0,0,0,0,0,0,0,0,0])) (kB cr bH) ?_
 refine s1 (xo tok 2 (by decide) (EqC.arr (EqC.int (d:=0) bH) cr bH) cr) ?_
 refine sa ?_
 rcases bX h with⟨hb41,h⟩|⟨hb41,h⟩
 refine nbi hK ?_
 exact pe1 h h0 [1,2,3,5,6]
 refine nbi hK ?_
 exact pe1 h h0 [1,2,3,5,6]
 refine lw0 ?_
 refine cdh h rfl (fun hb43 h=>?_) (fun hb43 h=>?_)
 refine rqd [105,177,162] hx fun K hK=>?_
 refine mbi ?_
 refine cqb h mR fun x44 h=>?_
 refine cqb h I3 fun x46 h=>?_
 refine mbi ?_
 refine cqb h rM fun x48 h=>?_
 refine nbi hK ?_
 exact pe1 h h0 [0,1,2,3,4]
 exact AW.skip (pe1 h h0 [0,1,2,3,4])
 obtain⟨D6,D5⟩:=y
 refine lw0 ?_
 refine rsd [111] hx fun K hK=>?_
 refine mbi ?_
 refine cqb h cO fun x51 h=>?_
 refine nbi hK ?_
 refine AW.ret ?_
 cases h
 exact rv2
 rintro ex tm' hp' ⟨rfl,hw⟩
 cases h
 exact hw
def jP(aZ:ap)(aY:ap):Option ap:=bnd (ko aZ aY) fun x1=>some x1.1
theorem na {aZ:ap}{aY:ap}{r:ap}(h:jP aZ aY=some r):ar prog 126 [dG au aZ,dG au aY] (dG au r):=by
 refine bB (rs:=[.cell 4 32]) (fun cx hx h0=>?_) func126
 unfold jP at h
 refine rai hx ?_
 refine rs hx fun K hK=>?_
 refine mbi ?_
 refine scb h Bi fun x1 h=>?_
 refine nbi hK ?_
 refine rai hx ?_
 exact AW.ret (rtv h)
section
theorem vsub {b n A:Nat}(m o:Nat)(h:o+m≤n):vOf m (List.take m (List.drop o (vN b n A).toList))=vN b m (A / b ^ o):=by
 have hl:(List.take m (List.drop o (vN b n A).toList)).length=m:=by
  rw[cz,fZ,m5];omega
 apply nK
 intro j hj
 rw[i1 hj]
 have e1:=xI (vOf m (List.take m (List.drop o (vN b n A).toList))) hj
 rw[wD hl] at e1
 rw[←e1,bK _ j (by omega),List.getElem_take,List.getElem_drop]
 have e2:=i1 (b:=b) (A:=A) (j:=o+j) (n:=n) (by omega)
 rw[←xI (vN b n A) (by omega),bK _ (o+j) (by rw[m5];omega)] at e2
 rw[e2]
 unfold dg
 rw[gH,gg]
section
variable {b R a B i k:Nat}
def qZ(b R a B i k:Nat):Nat:=R % b ^ (i+k)+a*(B % b ^ k)*b ^ i
def xr(b R a B i k:Nat):Nat:=R / b ^ (i+k)*b ^ (i+k)+qZ b R a B i k % b ^ (i+k)
theorem Gu:qZ b R a B i (k+1)=qZ b R a B i k+b ^ (i+k)*(dg b R (i+k)+a*dg b B k):=by
 unfold qZ
 rw[show i+(k+1)=i+k+1 from rfl,gi,gi (A:=B),tQ,tQ,aX,gH b i k]
 have:a*(b ^ k*dg b B k)*b ^ i=b ^ i*b ^ k*(a*dg b B k):=by
  simp only[fa,Ar,bj]
 rw[this];omega
theorem Pi(hb:0<b)(ha:a<b):qZ b R a B i k / b ^ (i+k)<b:=by
 have hp:0<b ^ (i+k):=bD hb
 rw[kO hp]
 unfold qZ
 have h1:=dM R hp
 have h2:a*(B % b ^ k)*b ^ i≤(b - 1)*b ^ (i+k):=by
  rw[gH,fa]
  refine gG (by omega) ?_
  rw[bj (b ^ i)]
  exact bY _ (kQ (dM _ (bD hb)))
 have h3:(b - 1)*b ^ (i+k)+b ^ (i+k)=b*b ^ (i+k):=by
  rw[←oa];congr 1;omega
 omega
theorem Orow_dg(hb:0<b):dg b (xr b R a B i k) (i+k)=dg b R (i+k):=by
 unfold xr dg
 rw[bj (R / _),xg (bD hb),dE (dM _ (bD hb)),i9]
theorem QN(hb:0<b):up1 b (xr b R a B i k) (i+k) (qZ b R a B i (k+1) / b ^ (i+k) % b)=xr b R a B i (k+1):=by
 have hp:0<b ^ (i+k):=bD hb
 have e1:xr b R a B i k / b ^ (i+k+1)=R / b ^ (i+k+1):=by
  rw[cC,←gg,←gg]
  congr 1
  unfold xr
  rw[bj (R / _),xg hp,dE (dM _ hp),i9]
 have e2:xr b R a B i k % b ^ (i+k)=qZ b R a B i (k+1) % b ^ (i+k):=by
  rw[Gu,Aq]
  unfold xr
  rw[bj (R / _),Nat.mul_add_mod,Aw]
 unfold up1
 rw[e1,e2]
 show _=R / b ^ (i+k+1)*b ^ (i+k+1)+qZ b R a B i (k+1) % b ^ (i+k+1)
 rw[gi (A:=qZ b R a B i (k+1)),bj (b ^ (i+k)) (dg _ _ _)]
 unfold dg
 omega
end
theorem Mul_row {A B i m:Nat}(hi:i<16)(hm:m≤16)(hB:B<4294967296 ^ m)(x y:ap)(hx:x.vW=W A)(hy:y.vW=W B):
  ∃c:Nat,c<4294967296∧∃O:Nat,aL (iu x y (m:Int) (i:Int)) ((0:Int),(0:Int),vN 4294967296 32 (A % 4294967296 ^ i*B))=some ((c:Int),vN 4294967296 32 O)∧up1 4294967296 O (i+m) c=A % 4294967296 ^ (i+1)*B:=by
 have hb:0<(4294967296:Nat):=by decide
 have hR:A % 4294967296 ^ i*B<4294967296 ^ (i+m):=by
  rw[gH]
  exact Nat.mul_lt_mul_of_lt_of_le (dM _ (bD hb)) (kQ hB) (bD hb)
 generalize hRR:A % 4294967296 ^ i*B=R at hR ⊢
 have ha:=@dgl A i
 have hl:=qB (b:=iu x y (m:Int) (i:Int)) (s0:=((0:Int),(0:Int),vN 4294967296 32 R)) (fun k=>((qZ 4294967296 R (dg 4294967296 A i) B i k / 4294967296 ^ (i+k):Nat),(k:Int),vN 4294967296 32 (xr 4294967296 R (dg 4294967296 A i) B i k))) m ((qZ 4294967296 R (dg 4294967296 A i) B i m / 4294967296 ^ (i+m):Nat),vN 4294967296 32 (xr 4294967296 R (dg 4294967296 A i) B i m))
  (by
   have e1:qZ 4294967296 R (dg 4294967296 A i) B i 0=R % 4294967296 ^ i:=by unfold qZ;simp[mw]
   have e2:xr 4294967296 R (dg 4294967296 A i) B i 0=R:=by
    unfold xr;rw[e1,i9,Aw,bj];exact kV _ _
   rw[e1,e2,i9,dE (dM _ (bD hb))]
   rfl)
  (fun k hk=>by
   have hk16:k<16:=by omega
   have hc:=Pi (b:=4294967296) (R:=R) (a:=dg 4294967296 A i) (B:=B) (i:=i) (k:=k) hb ha
   have hbk:=@dgl B k
   have hr:=@dgl R (i+k)
   have FK:dg 4294967296 A i*dg 4294967296 B k≤4294967295*4294967295:=gG (by omega) (by omega)
   have BU:qZ 4294967296 R (dg 4294967296 A i) B i (k+1) / 4294967296 ^ (i+k)=qZ 4294967296 R (dg 4294967296 A i) B i k / 4294967296 ^ (i+k)+(dg 4294967296 A i*dg 4294967296 B k+dg 4294967296 R (i+k)):=by
    rw[Gu,xh _ _ (bD hb),lU (dg 4294967296 R (i+k))]
   have vY:qZ 4294967296 R (dg 4294967296 A i) B i (k+1) / 4294967296 ^ (i+(k+1))=qZ 4294967296 R (dg 4294967296 A i) B i (k+1) / 4294967296 ^ (i+k) / 4294967296:=by
    rw[gg,←cC];rfl
   have ru:=QN (b:=4294967296) (R:=R) (a:=dg 4294967296 A i) (B:=B) (i:=i) (k:=k) hb
   rw[vY]
   generalize qZ 4294967296 R (dg 4294967296 A i) B i (k+1) / 4294967296 ^ (i+k)=x1 at BU ru ⊢
   generalize qZ 4294967296 R (dg 4294967296 A i) B i k / 4294967296 ^ (i+k)=c at BU hc ⊢
   have eik:i64.wrap ((i:Int)+(k:Int))=((i+k:Nat):Int):=by rw[bU];omega
   dsimp only[iu]
   rw[ba _ _,aB,aB,eik,aB,ab,aB,ab,aD,aD,aD,hx,hy,f8 hi,f8 hk16,i1 (by omega),Orow_dg hb,
    gU (n:=dg 4294967296 A i) (by omega),gU (n:=dg 4294967296 B k) (by omega),gU (n:=dg 4294967296 R (i+k)) (by omega),←ob,gU (n:=dg 4294967296 A i*dg 4294967296 B k) (by omega),←kS,gU,←kS,gU,←BU,wd,zm,zi hb (dM _ hb) (by omega),ru,bU]
   rfl)
  (by
   dsimp only[iu]
   rw[a9 _ _])
 refine⟨_,Pi hb ha,_,hl,?_⟩
 have e1:qZ 4294967296 R (dg 4294967296 A i) B i m=R+dg 4294967296 A i*B*4294967296 ^ i:=by
  unfold qZ;rw[dX hR,dX hB]
 have e2:xr 4294967296 R (dg 4294967296 A i) B i m=qZ 4294967296 R (dg 4294967296 A i) B i m % 4294967296 ^ (i+m):=by
  unfold xr;rw[dE hR,jJ,cj]
 have hO:xr 4294967296 R (dg 4294967296 A i) B i m<4294967296 ^ (i+m):=by rw[e2];exact dM _ (bD hb)
 unfold up1
 rw[dE (bC hO (im hb (eQ _))),jJ,cj,dX hO,e2,bj (_ / _),kV,e1,←hRR,gi (A:=A),aX]
 congr 1
 simp only[fa,Ar,bj]
theorem UT {A B n m:Nat}(hn:n≤16)(hm:m≤16)(hA:A<4294967296 ^ n)(hB:B<4294967296 ^ m)(x y:ap)(hx:x.vW=W A)(hy:y.vW=W B):
  aL (iw x y (n:Int) (m:Int)) ((0:Int),Vector.replicate 32 (0:Int))=some (vN 4294967296 32 (A*B)):=by
 have hb:0<(4294967296:Nat):=by decide
 have hl:=qB (b:=iw x y (n:Int) (m:Int)) (s0:=((0:Int),Vector.replicate 32 (0:Int))) (fun i=>((i:Int),vN 4294967296 32 (A % 4294967296 ^ i*B))) n (vN 4294967296 32 (A % 4294967296 ^ n*B))
  (by simp only[fI,mw,jJ,rk];rfl)
  (fun i hi=>by
   obtain⟨c,hc,O,h1,h2⟩:=Mul_row (i:=i) (by omega) hm hB x y hx hy
   have eim:i64.wrap ((i:Int)+(m:Int))=((i+m:Nat):Int):=by rw[bU];omega
   dsimp only[iw]
   rw[ba _ _,h1,ab]
   dsimp only
   rw[eim,aB,ab,aD,zk hc,zi hb hc (by omega),h2,bU]
   rfl)
  (by
   dsimp only[iw]
   rw[a9 _ _])
 rw[hl,dX hA]
theorem La {a c:Int}(ha:a.natAbs<LIM)(hc:c.natAbs<LIM):iI (enc a) (enc c)=some (enc (a*c)):=by
 obtain⟨n,hn,hn1,Mf⟩:=AB ha
 obtain⟨m,hm,Qh,hm2⟩:=AB hc
 have FK:a.natAbs*c.natAbs<4294967296 ^ 16*4294967296 ^ 16:=At ha hc
 unfold iI
 rw[tX,bA ha,bA hc,ab]
 simp only[iY,ep,aP]
 rw[ml ha,ml hc,hn1,ab,Qh,ab,UT hn hm Mf.1 hm2.1 (enc a) (enc c) (ml ha) (ml hc),ab,vsub 16 16 (by omega),vsub 16 0 (by omega),z16,n3 ha,n3 hc,fI,m8]
 have hq:a.natAbs*c.natAbs / 4294967296 ^ 16<LIM:=DM FK
 have hz:(vN 4294967296 16 (a.natAbs*c.natAbs / 4294967296 ^ 16)=W 0)↔a.natAbs*c.natAbs<LIM:=by
  rw[Eb hq vO,Ip (by decide)];rfl
 simp only[hz]
 by_cases h:a.natAbs*c.natAbs<LIM
 ·rw[a9 _ _ (by simpa using h),iZ h,ab]
  congr 2
  rcases Int.natAbs_eq a with e1|e1 <;> rcases Int.natAbs_eq c with e2|e2 <;> skip
  all_goals
   by_cases ha0:a<0 <;> by_cases hc0:c<0 <;> simp only[ha0,hc0,sf,se,DZ,ep,uY,lT,cond_false,Bool.true_beq,Bool.false_beq,ob]
  all_goals (first|(exfalso;omega)|(have ea:(a.natAbs:Int)=a:=(by omega);have ec:(c.natAbs:Int)=c:=(by omega);rw[ea,ec])|(have ea:(a.natAbs:Int)=-a:=(by omega);have ec:(c.natAbs:Int)=c:=(by omega);rw[ea,ec,Int.neg_mul,Int.neg_neg])|(have ea:(a.natAbs:Int)=a:=(by omega);have ec:(c.natAbs:Int)=-c:=(by omega);rw[ea,ec,Int.mul_neg,Int.neg_neg])|(have ea:(a.natAbs:Int)=-a:=(by omega);have ec:(c.natAbs:Int)=-c:=(by omega);rw[ea,ec,Int.neg_mul_neg])|skip)
 ·rw[ba _ _ (by simpa using h),Pz,ab,Dj (by rw[xk];exact h)]
end
theorem set16(x y:Int):(#v[x,y,0,0,0,0,0,0,0,0,0,0,0,0,0,0]:Vector Int 16)=((W 0).set! 0 x).set! 1 y:=by
 rw[←z16];rfl
theorem UA {u:Nat}(hu:u<18446744073709551616):(#v[((u % 4294967296:Nat):Int),((u / 4294967296:Nat):Int),0,0,0,0,0,0,0,0,0,0,0,0,0,0]:Vector Int 16)=W u:=by
 have hb:0<(4294967296:Nat):=by decide
 have hx:u % 4294967296<4294967296:=dM _ hb
 have hy:u / 4294967296<4294967296:=by omega
 rw[set16]
 unfold W
 rw[zi hb hx (by omega)]
 have e1:up1 4294967296 0 0 (u % 4294967296)=u % 4294967296:=by
  have:=Ls (b:=4294967296) (A:=0) (p:=0) (x:=u % 4294967296)
  rw[kZ (by decide)] at this
  omega
 have h:=Ls (b:=4294967296) (A:=u % 4294967296) (p:=1) (x:=u / 4294967296)
 rw[kZ (by rw[uV];exact hx),uV,jJ,i9,Nat.mod_add_div'] at h
 rw[e1,zi hb hy (by omega),h]
theorem IM {n:Int}(h1:-9223372036854775808≤n)(h2:n≤9223372036854775807):eS n=some (enc n):=by
 have hu:n.natAbs<18446744073709551616:=by omega
 have hL:n.natAbs<LIM:=bC hu (by decide)
 have hc:cnd (decide (n<(0:Int))) (some (u64.wrap (0 - (u64.wrap n)))) (some (u64.wrap n))=some ((n.natAbs:Nat):Int):=by
  rw[jj]
  split
  ·congr 1;rw[IntKind.wrap_u64,IntKind.wrap_u64];omega
  ·congr 1;rw[IntKind.wrap_u64];omega
 unfold eS
 rw[hc,ab,zm,wd,zk,UA hu,iZ hL,ab]
 congr 2
 by_cases h:n<0
 ·simp only[h,sf,lT];omega
 ·simp only[h,se,cond_false];omega
theorem wF {x k l:Nat}(hx:2 ^ k≤x)(h:szp 2 (x / 2 ^ k) l):szp 2 x (l+k):=by
 have hp:0<2 ^ k:=bD (by decide)
 have h0:0<x / 2 ^ k:=D0 hx hp
 have hl:0<l:=by
  rcases rY l with h1|h1
  ·subst h1;have:=h.1;simp at this;omega
  ·exact h1
 refine⟨?_,fun _=>?_⟩
 ·rw[gH];exact (kO hp).1 h.1
 ·have:=h.2 hl
  rw[show l+k - 1=(l - 1)+k from by omega,gH]
  exact (oZ hp).1 this
def J2:ByteArray:=⟨#[0,1,2,2,3,3,3,3,4,4,4,4,4,4,4,4,5,5,5,5,5,5,5,5,5,5,5,5,5,5,5,5,6,6,6,6,6,6,6,6,6,6,6,6,6,6,6,6,6,6,6,6,6,6,6,6,6,6,6,6,6,6,6,6,7,7,7,7,7,7,7,7,7,7,7,7,7,7,7,7,7,7,7,7,7,7,7,7,7,7,7,7,7,7,7,7,7,7,7,7,7,7,7,7,7,7,7,7,7,7,7,7,7,7,7,7,7,7,7,7,7,7,7,7,7,7,7,7,8,8,8,8,8,8,8,8,8,8,8,8,8,8,8,8,8,8,8,8,8,8,8,8,8,8,8,8,8,8,8,8,8,8,8,8,8,8,8,8,8,8,8,8,8,8,8,8,8,8,8,8,8,8,8,8,8,8,8,8,8,8,8,8,8,8,8,8,8,8,8,8,8,8,8,8,8,8,8,8,8,8,8,8,8,8,8,8,8,8,8,8,8,8,8,8,8,8,8,8,8,8,8,8,8,8,8,8,8,8,8,8,8,8,8,8,8,8,8,8,8,8,8,8,8,8,8,8]⟩
theorem FG:∀y:Nat,y<256→(J2.data.toList.getD y 0).toNat≤8∧y<2 ^ (J2.data.toList.getD y 0).toNat∧(0<(J2.data.toList.getD y 0).toNat→2 ^ ((J2.data.toList.getD y 0).toNat - 1)≤y):=by decide +kernel
theorem Qb:J2.size=256:=by decide +kernel
theorem len_tab(y:Nat)(hy:y<256):∃l:Nat,sAt J2 y=(l:Int)∧l≤8∧szp 2 y l:=
 ⟨_,rfl,(FG y hy).1,(FG y hy).2⟩
theorem UV(x:Int):mf x=bnd (S:=Int×Int) (cnd (decide ((65536:Int)≤x)) (some ((li .u32 x (16:Int),(16:Int)))) (some ((x,(0:Int))))) fun (jN,IA)=>bnd (S:=Int×Int) (cnd (decide ((256:Int)≤jN)) (some ((li .u32 jN (8:Int),i64.wrap (IA+(8:Int))))) (some ((jN,IA)))) fun (kA,Ea)=>gd (0≤u8.wrap (kA)∧u8.wrap (kA)<(J2.size:Int)) (bnd (some (i64.wrap (Ea+(i64.wrap (sAt J2 (u8.wrap (kA)).toNat))))) fun x6=>some x6):=rfl
theorem u8n {n:Nat}(h:n<256):u8.wrap (n:Int)=(n:Int):=by
 rw[IntKind.wrap_u8];omega
theorem Px {x:Nat}(hx:x<4294967296):∃l:Nat,mf (x:Int)=some (l:Int)∧l≤32∧szp 2 x l:=by
 have h16:∃(y n:Nat),cnd (decide ((65536:Int)≤(x:Int))) (some ((li .u32 (x:Int) (16:Int),(16:Int)))) (some (((x:Int),(0:Int))))=some ((y:Int),(n:Int))∧y<65536∧n≤16∧∀l,szp 2 y l→szp 2 x (l+n):=by
  rw[jj]
  split
  ·rename_i h
   exact⟨x / 2 ^ 16,16,by rw[show (16:Int)=((16:Nat):Int) from rfl,zS .u32 x 16 (by decide)],by omega,by omega,fun l hl=>wF (by omega) hl⟩
  ·exact⟨x,0,rfl,by omega,by omega,fun l hl=>hl⟩
 obtain⟨y,n,e1,hy,hn,hs⟩:=h16
 have h8:∃(z m:Nat),cnd (decide ((256:Int)≤(y:Int))) (some ((li .u32 (y:Int) (8:Int),i64.wrap ((n:Int)+(8:Int))))) (some (((y:Int),(n:Int))))=some ((z:Int),(m:Int))∧z<256∧m≤24∧∀l,szp 2 z l→szp 2 x (l+m):=by
  rw[jj]
  split
  ·rename_i h
   refine⟨y / 2 ^ 8,n+8,?_,by omega,by omega,fun l hl=>?_⟩
   ·rw[show (8:Int)=((8:Nat):Int) from rfl,zS .u32 y 8 (by decide),bU];rfl
   ·rw[show l+(n+8)=(l+8)+n from by omega]
    exact hs _ (wF (by omega) hl)
  ·exact⟨y,n,rfl,by omega,by omega,hs⟩
 obtain⟨z,m,e2,hz,hm,Oi⟩:=h8
 obtain⟨l,Bv,oQ,Qi⟩:=len_tab z hz
 refine⟨l+m,?_,by omega,Oi l Qi⟩
 rw[UV,e1,ab]
 dsimp only
 rw[e2,ab]
 dsimp only
 rw[u8n hz,Qb,aB,aD,Bv,bU (z:=(l:Int)) (by omega),bU,ab]
 congr 1
 omega
theorem G_Lead {x:Nat}(hx:x<4294967296):∃l:Nat,fq (x:Int)=some (((32 - l:Nat)):Int)∧l≤32∧szp 2 x l:=by
 obtain⟨l,h1,h2,h3⟩:=Px hx
 refine⟨l,?_,h2,h3⟩
 unfold fq
 rw[h1,ab,bU]
 congr 1
 omega
theorem G_Bits {a:Int}(ha:a.natAbs<LIM):∃l:Nat,l≤512∧nV (enc a)=some (l:Int)∧szp 2 a.natAbs l:=by
 obtain⟨n,hn,h1,h2⟩:=AB ha
 unfold nV
 rw[ml ha,h1,ab,yX,bA ha,ab,ep,aP,ab]
 cases n with
 |zero=>
  refine⟨0,by omega,?_,?_⟩
  ·rw[ba _ _];rfl
  ·have:=h2.1
   exact⟨by simpa using this,fun h=>by omega⟩
 |succ k=>
  have hk:k<16:=by omega
  rw[a9 _ _,show i64.wrap (((k+1:Nat):Int) - 1)=(k:Int) from by rw[bU];omega,aB,aD,f8 hk]
  obtain⟨l,h3,h4,h5⟩:=Px (x:=dg 4294967296 a.natAbs k) dgl
  have hd:dg 4294967296 a.natAbs k=a.natAbs / 2 ^ (32*k):=by
   unfold dg
   have e:(4294967296:Nat) ^ k=2 ^ (32*k):=by rw[Ap]
   rw[←e,dX]
   rw[kO (bD (by decide)),bj,←cC];exact h2.1
  have C9:2 ^ (32*k)≤a.natAbs:=by
   have:=h2.2 (by omega)
   rw[DF] at this
   rwa[Ap]
  refine⟨l+32*k,by omega,?_,?_⟩
  ·rw[h3,ab,show i64.wrap ((32:Int)*(k:Int))=((32*k:Nat):Int) from by rw[bU];omega,bU]
   congr 1;omega
  ·rw[hd] at h5;exact wF C9 h5
theorem Sn {A:Nat}(hA:A<18446744073709551616):ior .u64 (vU .u64 (u64.wrap ((W A)[((1:Int)).toNat]!)) (32:Int)) (u64.wrap ((W A)[((0:Int)).toNat]!))=(A:Int):=by
 have e1:(W A)[((1:Int)).toNat]! =(dg 4294967296 A 1:Int):=f8 (by decide)
 have e0:(W A)[((0:Int)).toNat]! =(dg 4294967296 A 0:Int):=f8 (by decide)
 have h1:=@dgl A 1
 have h0:=@dgl A 0
 rw[e1,e0,gU,gU,Jv h1,J6 h0 h1]
 have e:dg 4294967296 A 1*4294967296+dg 4294967296 A 0=A:=by
  unfold dg
  rw[uV,fI,m8]
  omega
 rw[e]
theorem Ps {a:Int}(ha:a.natAbs<LIM):kE (enc a)=some (if -9223372036854775808≤a∧a<9223372036854775808 then (a,true) else (0,false)):=by
 obtain⟨l,hl,h1,h2⟩:=G_Bits ha
 have e64:(2:Nat) ^ 64=18446744073709551616:=by decide
 have hl64:64<l↔¬a.natAbs<18446744073709551616:=by
  constructor
  ·intro h h3
   have:=Lu (b:=2) (by decide) h2 (k:=64) (by rw[e64];exact h3)
   omega
  ·intro h
   rcases bO 64 l with h3|h3
   ·exact h3
   ·have h4:=h2.1
    have h5:2 ^ l≤2 ^ 64:=im (by decide) h3
    rw[e64] at h5
    exact absurd (bC h4 h5) h
 unfold kE
 rw[yX,bA ha,ab,ep,aP,h1,ab,ab]
 by_cases h:a.natAbs<18446744073709551616
 ·rw[a9 _ _ (by have:=mt hl64.1 (fun hh=>hh h);omega),ab,ml ha,Sn h,n3 ha]
  by_cases hn:a<0
  ·simp only[hn,sf,ie,ep,aP,ab]
   by_cases h3:a.natAbs≤9223372036854775808
   ·rw[ba _ _,ifp_,show (0:Int) - (a.natAbs:Int)=a from by omega,IntKind.wrap_u64]
    rw[show i64.wrap (a % 18446744073709551616)=a from by rw[IntKind.wrap_i64];omega]
   ·rw[a9 _ _,ifn_]
  ·rw[gQ hn,aP,ab,aP,uY,ie,ab]
   have ea:(a.natAbs:Int)=a:=by omega
   rw[ea]
   by_cases h3:a<9223372036854775808
   ·rw[ba _ _ h3,an ⟨by omega,h3⟩,bU ⟨by omega,by omega⟩]
   ·rw[a9 _ _ h3,az (fun hh=>h3 hh.2)]
 ·rw[ba _ _ (by have:=hl64.2 h;omega),ifn_]
def vF(n:Nat)(f:Nat→Nat):Vector Int n:=Vector.ofFn fun i=>(f i.val:Int)
theorem uy {n j:Nat}{f:Nat→Nat}(h:j<n):(vF n f)[j]! =(f j:Int):=by
 rw[bK (vF n f) j h]
 unfold vF
 rw[Nf]
theorem Rk {n:Nat}{f g:Nat→Nat}(h:∀j,j<n→f j=g j):vF n f=vF n g:=by
 apply nK
 intro j hj
 rw[uy hj,uy hj,h j hj]
theorem vF_set {n p x:Nat}{f:Nat→Nat}:(vF n f).set! p (x:Int)=vF n (fun j=>if j=p then x else f j):=by
 apply nK
 intro j hj
 rw[pm hj,uy hj,uy hj]
 split <;> rfl
theorem vF_dg {b n A:Nat}:vF n (dg b A)=vN b n A:=rfl
theorem HP {X V n d:Nat}(hn:2≤n)(hV:2147483648*4294967296 ^ (n - 1)≤V)(hX:X<V*4294967296)
  (C8:min (X / 4294967296 ^ (n - 2) / (V / 4294967296 ^ (n - 2))) 4294967295≤d) (Lg:d*(V / 4294967296 ^ (n - 2))≤X / 4294967296 ^ (n - 2)):X / V≤d∧d≤X / V+1:=by
 have hp:0<4294967296 ^ (n - 2):=bD (by decide)
 have e1:(4294967296:Nat) ^ (n - 1)=4294967296 ^ (n - 2)*4294967296:=by rw[←cC];congr 1;omega
 rw[e1] at hV
 generalize 4294967296 ^ (n - 2)=P at*
 have HN:0<V:=bC (sW (by decide) (sW hp (by decide))) hV
 have hv2:2147483648*4294967296≤V / P:=by
  rw[oZ hp]
  calc 2147483648*4294967296*P=2147483648*(P*4294967296):=by rw[fa,bj 4294967296 P]
   _≤V:=hV
 have hv20:0<V / P:=by omega
 have hVP:=kV V P
 have hVm:=dM V hp
 have hXP:=kV X P
 have hXm:=dM X hp
 have hq1:X / V≤X / P / (V / P):=by
  rw[gg]
  refine Nat.div_le_div_left ?_ (sW hp hv20)
  omega
 have hq2:X / V<4294967296:=(kO HN).2 (by rw[bj];exact hX)
 refine⟨by omega,?_⟩
 -- d V is not much more than X
 have Q2:d*(V / P)*P≤X:=by
  have:=bY P Lg
  rw[bj (X / P)] at this
  omega
 have hXP2:X / P<(V / P+1)*4294967296:=by
  rw[kO hp]
  have h1:V<(V / P+1)*P:=by rw[aX,dq,bj (V / P)];omega
  calc X<V*4294967296:=hX
   _≤(V / P+1)*P*4294967296:=bY _ (kQ h1)
   _=(V / P+1)*4294967296*P:=by rw[fa,bj P,←fa]
 have hdb:d≤4294967296:=by
  rcases bO 4294967296 d with h|h
  ·have:4294967297*(V / P)≤d*(V / P):=bY _ h
   omega
  ·exact h
 have h2:d*(V % P)≤4294967296*P:=gG hdb (kQ hVm)
 have h3:d*V=d*(V / P)*P+d*(V % P):=by
  conv=>lhs;rw[←hVP]
  rw[tQ,bj P,fa]
 have h4:d*V≤X+V:=by
  rw[h3]
  have h6:4294967296*P≤V:=by
   refine cg ?_ hV
   rw[bj P,←fa]
   exact bY _ (by decide)
  exact Nat.add_le_add Q2 (cg h2 h6)
 rcases rY d with h0|h0
 ·rw[h0];exact il _
 ·have h5:(d - 1)*V≤X:=by rw[Nat.sub_mul,dq];omega
  have:=(oZ HN).2 h5
  omega
theorem gA1 {y r u z:Nat}(h:r*4294967296+u<z):(y+r)*4294967296+u<y*4294967296+z:=by
 rw[aX,kU];exact uX h _
theorem gA2 {y r u z:Nat}(h:z≤r*4294967296+u):y*4294967296+z≤(y+r)*4294967296+u:=by
 rw[aX,kU];exact Nat.add_le_add_left h _
theorem gA3 {y r u z:Nat}(h:4294967296≤r)(hz:z≤4294967295*4294967295):y*4294967296+z≤(y+r)*4294967296+u:=by
 have h1:z≤r*4294967296:=cg hz (cg (gG (by decide) (by decide)) (bY _ h))
 rw[aX,kU]
 exact Nat.add_le_add_left (cg h1 (oY _ _)) _
theorem oC {n:Nat}(h:n≤34359738368:=by omega):n<18446744073709551616:=by omega
theorem lt64p {n:Nat}(h:n≤4294967295*4294967295):n<18446744073709551616:=by omega
theorem guessB {d r f x0 x1:Nat}(h:d*f+r=x0*4294967296+x1)(hf:2147483648≤f)(h0:x0<4294967296)(h1:x1<4294967296):d≤8589934592:=by
 have:=uW d hf
 omega
theorem guessT {x0 x1 f:Nat}(h0:x0<4294967296)(h1:x1<4294967296):(x0*4294967296+x1) / f<18446744073709551616:=
 fg (uZ _ _) (by omega)
theorem G_guess {U V n j:Nat}(hn:2≤n)(hn16:n≤16)(hj:j+n≤16)(hV:2147483648*4294967296 ^ (n - 1)≤V)(Li:V<4294967296 ^ n)(hU:U / 4294967296 ^ j<V*4294967296):
  ∃d:Nat,d<4294967296∧ir (W V) (n:Int) (j:Int) (vN 4294967296 17 U)=some (d:Int)∧U / 4294967296 ^ j / V≤d∧d≤U / 4294967296 ^ j / V+1:=by
 have hb:0<(4294967296:Nat):=by decide
 generalize hX:U / 4294967296 ^ j=X at hU
 -- the digits that it ye at
 have du:∀i,dg 4294967296 U (j+i)=dg 4294967296 X i:=fun i=>by
  unfold dg;rw[←hX,gg,←gH]
 have hXlt:X<4294967296 ^ (n+1):=by
  rw[cC];exact bC hU (bY _ (kQ Li))
 have s1:=b9 (b:=4294967296) (A:=X) (k:=n - 2)
 have s2:=b9 (b:=4294967296) (A:=X) (k:=n - 1)
 have s3:=b9 (b:=4294967296) (A:=X) (k:=n)
 rw[dE hXlt,jJ,cj] at s3
 rw[show n - 2+1=n - 1 from by omega] at s1
 rw[show n - 1+1=n from by omega,s3] at s2
 have w1:=b9 (b:=4294967296) (A:=V) (k:=n - 2)
 have w2:=b9 (b:=4294967296) (A:=V) (k:=n - 1)
 rw[show n - 2+1=n - 1 from by omega] at w1
 rw[show n - 1+1=n from by omega,dE Li,jJ,cj] at w2
 have yZ:=@dgl X n
 have BU:=@dgl X (n - 1)
 have vY:=@dgl X (n - 2)
 have hv1:=@dgl V (n - 1)
 have hv2:=@dgl V (n - 2)
 have Mm:2147483648≤dg 4294967296 V (n - 1):=by
  rw[←w2,oZ (bD hb)];exact hV
 -- the two highest digits against the highest one
 have hp:0<4294967296 ^ (n - 2):=bD hb
 have htop:X / 4294967296 ^ (n - 1)≤V / 4294967296 ^ (n - 2):=by
  have e1:(4294967296:Nat) ^ (n - 1)=4294967296 ^ (n - 2)*4294967296:=by rw[←cC];congr 1;omega
  have h1:X / 4294967296 ^ (n - 1)*4294967296 ^ (n - 1)≤X:=M1 _ _
  rw[oZ hp]
  rw[e1] at h1
  have h2:X / 4294967296 ^ (n - 1)*4294967296 ^ (n - 2)*4294967296<V*4294967296:=by
   rw[fa]
   exact fg (by rw[e1];exact h1) hU
  exact kQ (Nat.lt_of_mul_lt_mul_right h2)
 rw[s2,w1,w2] at htop
 obtain⟨x,hl,d,rfl,hdb,C8,Lg⟩:=wi (b:=jd (W V) (n:Int) (j:Int) (vN 4294967296 17 U) ((dg 4294967296 V (n - 1):Nat):Int)) (fun s=>∃d r:Nat,s=((d:Int),(r:Int))∧d*dg 4294967296 V (n - 1)+r=X / 4294967296 ^ (n - 1)∧min (X / 4294967296 ^ (n - 2) / (V / 4294967296 ^ (n - 2))) 4294967295≤d) (fun s=>4294967296 - s.2.toNat)
  (fun x=>∃d:Nat,x=(d:Int)∧d<4294967296∧min (X / 4294967296 ^ (n - 2) / (V / 4294967296 ^ (n - 2))) 4294967295≤d∧d*(V / 4294967296 ^ (n - 2))≤X / 4294967296 ^ (n - 2))
  (by
   rintro s ⟨d,r,rfl,hdr,C8⟩
   have hmul:d*(V / 4294967296 ^ (n - 2))=d*dg 4294967296 V (n - 1)*4294967296+d*dg 4294967296 V (n - 2):=by
    rw[w1,w2,tQ,fa]
   have hdB:d≤8589934592:=guessB (by rw[hdr,s2]) Mm yZ BU
   have ei2:i64.wrap ((n:Int) - (2:Int))=((n - 2:Nat):Int):=by rw[bU];omega
   have eij2:i64.wrap ((i64.wrap ((j:Int)+(n:Int))) - (2:Int))=((j+(n - 2):Nat):Int):=by rw[bU (z:=(j:Int)+(n:Int)) (by omega),bU];omega
   dsimp only[jd]
   by_cases hr:r<4294967296
   ·rw[ba _ _]
    by_cases hd:4294967296≤d
    ·left
     refine⟨(((d - 1:Nat):Int),((r+dg 4294967296 V (n - 1):Nat):Int)),?_,⟨d - 1,_,rfl,?_,by omega⟩,by show 4294967296 - (_:Nat)<4294967296 - (_:Nat);rw[aD,aD];omega⟩
     ·rw[ba _ _,ab,ie,show (d:Int) - 1=((d - 1:Nat):Int) from by omega,gU (oC),←kS,gU (oC)]
     ·rw[Nat.sub_mul,dq]
      have:dg 4294967296 V (n - 1)≤d*dg 4294967296 V (n - 1):=DX _ (by omega)
      omega
    ·have EA:d*dg 4294967296 V (n - 2)≤4294967295*4294967295:=gG (by omega) (by omega)
     rw[a9 _ _,ei2,aB,eij2,aB,aD,aD,i1 (by omega),f8 (by omega),du,gU (n:=dg 4294967296 X (n - 2)) (oC),gU (n:=dg 4294967296 V (n - 2)) (oC),Jv hr,J6 vY hr,←ob,gU (lt64p EA),ab]
     by_cases hc:r*4294967296+dg 4294967296 X (n - 2)<d*dg 4294967296 V (n - 2)
     ·left
      have E7:0<d:=by
       rcases rY d with h|h
       ·subst h;omega
       ·exact h
      refine⟨(((d - 1:Nat):Int),((r+dg 4294967296 V (n - 1):Nat):Int)),?_,⟨d - 1,_,rfl,?_,?_⟩,by show 4294967296 - (_:Nat)<4294967296 - (_:Nat);rw[aD,aD];omega⟩
      ·rw[ba _ _,show (d:Int) - 1=((d - 1:Nat):Int) from by omega,gU (oC),←kS,gU (oC)]
      ·rw[Nat.sub_mul,dq]
       have:dg 4294967296 V (n - 1)≤d*dg 4294967296 V (n - 1):=DX _ E7
       omega
      ·have hgt:X / 4294967296 ^ (n - 2)<d*(V / 4294967296 ^ (n - 2)):=by rw[hmul,s1,←hdr];exact gA1 hc
       have:=(kO (x:=X / 4294967296 ^ (n - 2)) (y:=d) (k:=V / 4294967296 ^ (n - 2)) (by rw[w1,w2];omega)).2 hgt
       omega
     ·right
      refine⟨_,by rw[a9 _ _],d,rfl,by omega,C8,?_⟩
      rw[hmul,s1,←hdr];exact gA2 (Nat.le_of_not_lt hc)
   ·right
    have hdlt:d<4294967296:=by
     rcases bO d 4294967296 with h|h
     ·exact h
     ·have:4294967296*dg 4294967296 V (n - 1)≤d*dg 4294967296 V (n - 1):=bY _ h
      omega
    have EA:d*dg 4294967296 V (n - 2)≤4294967295*4294967295:=gG (by omega) (by omega)
    refine⟨_,by rw[a9 _ _,ab,aP],d,rfl,hdlt,C8,?_⟩
    rw[hmul,s1,←hdr];exact gA3 (Nat.le_of_not_lt hr) EA)
  (((X / 4294967296 ^ (n - 1) / dg 4294967296 V (n - 1):Nat):Int),((X / 4294967296 ^ (n - 1) % dg 4294967296 V (n - 1):Nat):Int))
  ⟨_,_,rfl,by rw[bj];exact kV _ _,by
   have h0:X / 4294967296 ^ (n - 2) / (V / 4294967296 ^ (n - 2))≤X / 4294967296 ^ (n - 1) / dg 4294967296 V (n - 1):=by
    rw[oZ (by omega)]
    have h1:=M1 (X / 4294967296 ^ (n - 2)) (V / 4294967296 ^ (n - 2))
    generalize X / 4294967296 ^ (n - 2) / (V / 4294967296 ^ (n - 2))=q at h1 ⊢
    rw[w1,w2,s1,tQ,←fa] at h1
    generalize q*dg 4294967296 V (n - 1)=y at h1 ⊢
    omega
   omega⟩
 obtain⟨h1,h2⟩:=HP hn hV hU C8 Lg
 refine⟨d,hdb,?_,h1,h2⟩
 have ejn:i64.wrap ((j:Int)+(n:Int))=((j+n:Nat):Int):=by rw[bU];omega
 have ejn1:i64.wrap (((j+n:Nat):Int) - (1:Int))=((j+(n - 1):Nat):Int):=by rw[bU];omega
 have en1:i64.wrap ((n:Int) - (1:Int))=((n - 1:Nat):Int):=by rw[bU];omega
 unfold ir
 rw[ejn,aB,ejn1,aB,en1,aD,aD,aD,i1 (by omega),i1 (by omega),f8 (by omega),du,du,gU (n:=dg 4294967296 X n) (oC),gU (n:=dg 4294967296 X (n - 1)) (oC),gU (n:=dg 4294967296 V (n - 1)) (oC),Jv yZ,J6 BU yZ,ab,aB,ab,aB,aB,←sj,←sm]
 rw[gU (guessT yZ BU),←s2,hl,ab]
def xZ(j i U D p:Nat):Nat:=if p<j then dg 4294967296 U p else if p<j+i then dg 4294967296 D (p - j) else dg 4294967296 U p
theorem mix0 {j U D:Nat}:xZ j 0 U D=dg 4294967296 U:=by
 funext p
 unfold xZ
 split
 ·rfl
 ·rw[ifn_]
theorem Hh {j i U D:Nat}:xZ j i U D (j+i)=dg 4294967296 U (j+i):=by
 unfold xZ
 rw[ifn_,ifn_]
theorem BQ {n j i U D:Nat}:(vF n (xZ j i U D)).set! (j+i) (dg 4294967296 D i:Int)=vF n (xZ j (i+1) U D):=by
 rw[vF_set]
 apply Rk
 intro p hp
 by_cases h:p=j+i
 ·subst h
  rw[an rfl]
  unfold xZ
  rw[ifn_,ifp_]
  congr 1;omega
 ·rw[az h]
  unfold xZ
  by_cases h1:p<j
  ·rw[an h1,an h1]
  ·rw[az h1,az h1]
   by_cases h2:p<j+i
   ·rw[an h2,ifp_]
   ·rw[az h2,ifn_]
theorem N9 {n j i U D:Nat}(hU:U<4294967296 ^ (i+j))(hD:D<4294967296 ^ i):vF n (xZ j i U D)=vN 4294967296 n (D*4294967296 ^ j+U % 4294967296 ^ j):=by
 have hb:0<(4294967296:Nat):=by decide
 rw[←vF_dg]
 apply Rk
 intro p _
 unfold xZ
 by_cases h1:p<j
 ·rw[an h1,←mX (A:=D*_+_) h1,MG,Aw,mX h1]
 ·rw[az h1]
  have e:dg 4294967296 (D*4294967296 ^ j+U % 4294967296 ^ j) p=dg 4294967296 D (p - j):=by
   obtain⟨q,rfl⟩:∃q,p=j+q:=⟨p - j,by omega⟩
   unfold dg
   rw[gH,←gg,bj D,xg (bD hb),dE (dM _ (bD hb)),i9,yH]
  rw[e]
  by_cases h2:p<j+i
  ·rw[an h2]
  ·rw[az h2,kZ (bC hU (im hb (by omega))),kZ (bC hD (im hb (by omega)))]
theorem KG {D P i:Nat}:∃x:Nat,u64.wrap (u64.wrap ((dg 4294967296 (D+P) i:Int) - (dg 4294967296 P i:Int)) - (((D % 4294967296 ^ i+P % 4294967296 ^ i) / 4294967296 ^ i:Nat):Int))=(x:Int)∧x / 9223372036854775808=(D % 4294967296 ^ (i+1)+P % 4294967296 ^ (i+1)) / 4294967296 ^ (i+1)∧x % 4294967296=dg 4294967296 D i:=by
 have hc:=n4 (b:=4294967296) (A:=D) (B:=P) (k:=i) (by decide)
 obtain⟨h1,h2⟩:=pb (b:=4294967296) (A:=D) (B:=P) (k:=i) (by decide)
 have ha:=@dgl D i
 have hb:=@dgl P i
 have hd:=@dgl (D+P) i
 generalize (D % 4294967296 ^ i+P % 4294967296 ^ i) / 4294967296 ^ i=c at h1 h2 hc ⊢
 generalize (D % 4294967296 ^ (i+1)+P % 4294967296 ^ (i+1)) / 4294967296 ^ (i+1)=c' at h2 ⊢
 rw[IntKind.wrap_u64,IntKind.wrap_u64]
 exact⟨((((dg 4294967296 (D+P) i:Int) - (dg 4294967296 P i:Int)) % 18446744073709551616 - (c:Int)) % 18446744073709551616).toNat,by omega,by omega,by omega⟩
theorem lt64m {c p d:Nat}(hc:c≤d)(hp:p<4294967296)(hd:d<4294967296):c+p*d<18446744073709551616:=by
 have h1:p*d≤4294967295*4294967295:=gG (by omega) (by omega)
 omega
theorem U7 {U V D n j d:Nat}(hn16:n≤16)(hj:j+n≤16)(Li:V<4294967296 ^ n)(hU:U<4294967296 ^ (n+1+j))(hd:d<4294967296)(hD:D<4294967296 ^ (n+1))
  (hDZ:D+V*d=U / 4294967296 ^ j+(if U / 4294967296 ^ j<V*d then 4294967296 ^ (n+1) else 0)):
  jq (W V) (n:Int) (j:Int) (d:Int) (vN 4294967296 17 U)=some (decide (U / 4294967296 ^ j<V*d),vN 4294967296 17 (D*4294967296 ^ j+U % 4294967296 ^ j)):=by
 have hb:0<(4294967296:Nat):=by decide
 generalize hZ:U / 4294967296 ^ j=Z at hDZ ⊢
 have Qr:Z<4294967296 ^ (n+1):=by
  rw[←hZ];exact DM (by rw[←gH,lU];exact hU)
 have dz:∀i,i<n+1→dg 4294967296 (D+V*d) i=dg 4294967296 U (j+i):=fun i hi=>by
  have e1:dg 4294967296 U (j+i)=dg 4294967296 Z i:=by
   unfold dg;rw[←hZ,gg,←gH]
  rw[e1,←mX (A:=D+V*d) hi,←mX (A:=Z) hi,hDZ]
  split
  ·rw[Nat.add_mod_right]
  ·rw[i9]
 have hcle:∀i,V % 4294967296 ^ i*d / 4294967296 ^ i≤d:=fun i=>
  cg (M2 (bY d (kQ (dM V (bD hb))))) (by rw[M4 _ (bD hb)];exact aC _)
 have hl:=qB (b:=iF (W V) (n:Int) (j:Int) (d:Int)) (s0:=((0:Int),(0:Int),(0:Int),vN 4294967296 17 U)) (fun i=>((V % 4294967296 ^ i*d / 4294967296 ^ i:Nat),((D % 4294967296 ^ i+V*d % 4294967296 ^ i) / 4294967296 ^ i:Nat),(i:Int),vF 17 (xZ j i U D))) n ((V % 4294967296 ^ n*d / 4294967296 ^ n:Nat),((D % 4294967296 ^ n+V*d % 4294967296 ^ n) / 4294967296 ^ n:Nat),vF 17 (xZ j n U D))
  (by simp only[fI,mw,jJ,Nat.zero_div,mix0];rfl)
  (fun i hi=>by
   obtain⟨h1,h2⟩:=FB (b:=4294967296) (A:=V) (k:=i) (m:=d) hb
   obtain⟨x,BU,vY,hx3⟩:=KG (D:=D) (P:=V*d) (i:=i)
   have bh:=lt64m (hcle i) (@dgl V i) hd
   have hp:=@dgl (V*d) i
   have hz:=@dgl U (j+i)
   have hv:=@dgl V i
   have eij:i64.wrap ((j:Int)+(i:Int))=((j+i:Nat):Int):=by rw[bU];omega
   rw[dz i (by omega)] at BU
   have hvd:dg 4294967296 V i*d<18446744073709551616:=fg (Nat.le_add_left _ _) bh
   dsimp only[iF]
   rw[ba _ _,aB,ab,eij,aB,ab,aB,ab,aD,aD,f8 (by omega),uy (by omega),Hh,gU (n:=dg 4294967296 V i) (oC),←ob,bj d,gU hvd,←kS,gU bh,zm,h1,wd,h2,gU (n:=dg 4294967296 (V*d) i) (oC),gU (n:=dg 4294967296 U (j+i)) (oC),BU,RA,vY,zm,hx3,BQ,bU]
   rfl)
  (by
   dsimp only[iF]
   rw[a9 _ _])
 obtain⟨x,BU,vY,hx3⟩:=KG (D:=D) (P:=V*d) (i:=n)
 have hP:V*d<4294967296 ^ (n+1):=by
  rw[cC];exact At Li hd
 have IW:V % 4294967296 ^ n*d / 4294967296 ^ n=dg 4294967296 (V*d) n:=by
  rw[dX Li]
  unfold dg
  rw[dX]
  exact DM (by rw[←cC];exact hP)
 have hbor:(D % 4294967296 ^ (n+1)+V*d % 4294967296 ^ (n+1)) / 4294967296 ^ (n+1)=if Z<V*d then 1 else 0:=by
  rw[dX hD,dX hP,hDZ]
  split
  ·rw[Nat.add_div_right _ (bD hb),dE Qr]
  ·rw[i9,dE Qr]
 have ejn:i64.wrap ((j:Int)+(n:Int))=((j+n:Nat):Int):=by rw[bU];omega
 have hz:=@dgl U (j+n)
 rw[dz n (by omega)] at BU
 unfold jq
 rw[hl,ab]
 dsimp only
 rw[ejn,aB,ab,aB,ab,aD,uy (by omega),Hh,gU (n:=dg 4294967296 U (j+n)) (oC),IW,BU,RA,vY,zm,hx3,BQ,N9 hU hD,hbor]
 congr 2
 by_cases h:Z<V*d
 ·simp[h]
 ·simp[h]
theorem G_give {U V D n j:Nat}(hn16:n≤16)(hj:j+n≤16)(Li:V<4294967296 ^ n)(hU:U<4294967296 ^ (n+1+j))(hD:D=(U / 4294967296 ^ j+V) % 4294967296 ^ (n+1)):
  ju (W V) (n:Int) (j:Int) (vN 4294967296 17 U)=some (vN 4294967296 17 (D*4294967296 ^ j+U % 4294967296 ^ j)):=by
 have hb:0<(4294967296:Nat):=by decide
 have hDlt:D<4294967296 ^ (n+1):=by rw[hD];exact dM _ (bD hb)
 generalize hZ:U / 4294967296 ^ j=Z at hD
 have dz:∀i,dg 4294967296 U (j+i)=dg 4294967296 Z i:=fun i=>by
  unfold dg;rw[←hZ,gg,←gH]
 have dD:∀i,i<n+1→dg 4294967296 (Z+V) i=dg 4294967296 D i:=fun i hi=>by rw[hD,mX hi]
 have hl:=qB (b:=iH (W V) (n:Int) (j:Int)) (s0:=((0:Int),(0:Int),vN 4294967296 17 U)) (fun i=>(((Z % 4294967296 ^ i+V % 4294967296 ^ i) / 4294967296 ^ i:Nat),(i:Int),vF 17 (xZ j i U D))) n (((Z % 4294967296 ^ n+V % 4294967296 ^ n) / 4294967296 ^ n:Nat),vF 17 (xZ j n U D))
  (by simp only[fI,mw,mix0];rfl)
  (fun i hi=>by
   have hc:=n4 (b:=4294967296) (A:=Z) (B:=V) (k:=i) hb
   obtain⟨h1,h2⟩:=pb (b:=4294967296) (A:=Z) (B:=V) (k:=i) hb
   have hz:=@dgl Z i
   have hv:=@dgl V i
   have eij:i64.wrap ((j:Int)+(i:Int))=((j+i:Nat):Int):=by rw[bU];omega
   generalize (Z % 4294967296 ^ i+V % 4294967296 ^ i) / 4294967296 ^ i=c at h1 h2 hc ⊢
   generalize (Z % 4294967296 ^ (i+1)+V % 4294967296 ^ (i+1)) / 4294967296 ^ (i+1)=c' at h2 ⊢
   dsimp only[iH]
   rw[ba _ _,eij,aB,aB,ab,aB,ab,aD,aD,f8 (by omega),uy (by omega),Hh,dz,gU (n:=dg 4294967296 V i) (oC),gU (n:=dg 4294967296 Z i) (oC),←kS,gU (oC),←kS,gU (oC),←kU,wd,zm,h1,h2,dD i (by omega),BQ,bU]
   rfl)
  (by
   dsimp only[iH]
   rw[a9 _ _])
 have hc:=n4 (b:=4294967296) (A:=Z) (B:=V) (k:=n) hb
 obtain⟨h1,h2⟩:=pb (b:=4294967296) (A:=Z) (B:=V) (k:=n) hb
 rw[kZ Li,i9,dD n (by omega)] at h1
 have hz:=@dgl Z n
 have ejn:i64.wrap ((j:Int)+(n:Int))=((j+n:Nat):Int):=by rw[bU];omega
 unfold ju
 rw[hl,ab]
 dsimp only
 generalize (Z % 4294967296 ^ n+V % 4294967296 ^ n) / 4294967296 ^ n=c at h1 hc ⊢
 rw[ejn,aB,aB,ab,aD,uy (by omega),Hh,dz,zk (n:=c) (by omega),←kS,lU (dg 4294967296 Z n),zm,h1,BQ,N9 hU hDlt]
theorem PT {U V n j:Nat}(hn:2≤n)(hj:j+n≤16)(hV:2147483648*4294967296 ^ (n - 1)≤V)(Li:V<4294967296 ^ n)(hU:U / 4294967296 ^ j<V*4294967296):
  (bnd (ir (W V) (n:Int) (j:Int) (vN 4294967296 17 U)) fun x28=>bnd (S:=Int×(Vector Int 17)) (bnd (jq (W V) (n:Int) (j:Int) x28 (vN 4294967296 17 U)) fun Nz=>cnd Nz.1 (bnd (ju (W V) (n:Int) (j:Int) Nz.2) fun Ld=>some ((u64.wrap (x28 - (1:Int)),Ld))) (some ((x28,Nz.2)))) fun y=>some y)=some (((U / 4294967296 ^ j / V:Nat):Int),vN 4294967296 17 (U / 4294967296 ^ j % V*4294967296 ^ j+U % 4294967296 ^ j))∧U / 4294967296 ^ j / V<4294967296:=by
 have hb:0<(4294967296:Nat):=by decide
 obtain⟨d,hdb,hg,Q2,HJ⟩:=G_guess hn (by omega) hj hV Li hU
 have HN:0<V:=bC (sW (by decide) (bD hb)) hV
 have hp:0<4294967296 ^ j:=bD hb
 have Qr:U / 4294967296 ^ j<4294967296 ^ (n+1):=by
  rw[cC];exact bC hU (bY _ (kQ Li))
 have hUlt:U<4294967296 ^ (n+1+j):=by
  rw[gH];exact (kO hp).1 Qr
 have hVd:V*d<4294967296 ^ (n+1):=by
  rw[cC];exact At Li hdb
 have hq:U / 4294967296 ^ j / V<4294967296:=by omega
 refine⟨?_,hq⟩
 have hm:=kV (U / 4294967296 ^ j) V
 have hml:=dM (U / 4294967296 ^ j) HN
 rw[hg,ab]
 by_cases bh:U / 4294967296 ^ j<V*d
 ·-- one too many
  have hdq:d=U / 4294967296 ^ j / V+1:=by
   rcases bO (U / 4294967296 ^ j / V) d with h|h
   ·omega
   ·have h1:V*d≤V*(U / 4294967296 ^ j / V):=uW _ h
    omega
  have ht:=U7 (U:=U) (V:=V) (D:=U / 4294967296 ^ j+4294967296 ^ (n+1) - V*d) (n:=n) (j:=j) (d:=d) (by omega) hj Li hUlt hdb (by omega) (by rw[an bh];omega)
  rw[ht,ck bh,ab,ie]
  dsimp only
  generalize hD:U / 4294967296 ^ j+4294967296 ^ (n+1) - V*d=D
  have hDlt:D<4294967296 ^ (n+1):=by omega
  have e1:(D*4294967296 ^ j+U % 4294967296 ^ j) / 4294967296 ^ j=D:=by
   rw[bj,xg hp,dE (dM _ hp),i9]
  have e2:(D*4294967296 ^ j+U % 4294967296 ^ j) % 4294967296 ^ j=U % 4294967296 ^ j:=by
   rw[MG,Aw]
  have e3:(D+V) % 4294967296 ^ (n+1)=U / 4294967296 ^ j % V:=by
   have:D+V=U / 4294967296 ^ j % V+4294967296 ^ (n+1):=by
    rw[hdq,tQ,si] at hD bh
    omega
   rw[this,Nat.add_mod_right,dX]
   exact fg (Nat.mod_le _ _) Qr
  have hgv:=G_give (U:=D*4294967296 ^ j+U % 4294967296 ^ j) (V:=V) (D:=U / 4294967296 ^ j % V) (n:=n) (j:=j) (by omega) hj Li (by
   rw[gH]
   have h1:(D+1)*4294967296 ^ j≤4294967296 ^ (n+1)*4294967296 ^ j:=bY _ hDlt
   rw[aX,dq] at h1
   have:=dM U hp
   omega) (by rw[e1,e3])
  rw[hgv,ab,ab,e2,show ((d:Nat):Int) - 1=((U / 4294967296 ^ j / V:Nat):Int) from by omega,gU (oC)]
 ·have hdq:d=U / 4294967296 ^ j / V:=by
   have h1:d≤U / 4294967296 ^ j / V:=(oZ HN).2 (by rw[bj];omega)
   omega
  have ht:=U7 (U:=U) (V:=V) (D:=U / 4294967296 ^ j % V) (n:=n) (j:=j) (d:=d) (by omega) hj Li hUlt hdb (fg (Nat.mod_le _ _) Qr) (by rw[az bh,hdq];omega)
  rw[ht,gQ bh,ab,aP,ab,hdq]
theorem RN {U V n k:Nat}(hn:2≤n)(hk:k+n≤17)(hV:2147483648*4294967296 ^ (n - 1)≤V)(Li:V<4294967296 ^ n)(hU:U / 4294967296 ^ k<V)(y:Int):
  aL (eK (n:Int) (W V,y)) ((k:Int) - 1,W 0,vN 4294967296 17 U)=some (W (U / V),vN 4294967296 17 (U % V)):=by
 have hb:0<(4294967296:Nat):=by decide
 have HN:0<V:=bC (sW (by decide) (bD hb)) hV
 have hl:=So (b:=eK (n:Int) (W V,y)) (s0:=((k:Int) - 1,W 0,vN 4294967296 17 U)) (fun i=>((i:Int) - 1,vN 4294967296 16 (U / V / 4294967296 ^ i*4294967296 ^ i),vN 4294967296 17 (U / 4294967296 ^ i % V*4294967296 ^ i+U % 4294967296 ^ i))) k (vN 4294967296 16 (U / V / 4294967296 ^ 0*4294967296 ^ 0),vN 4294967296 17 (U / 4294967296 ^ 0 % V*4294967296 ^ 0+U % 4294967296 ^ 0))
  (by
   have e1:U / V / 4294967296 ^ k=0:=by
    rw[gg,bj,←gg,dE hU]
   have e2:U / 4294967296 ^ k % V*4294967296 ^ k+U % 4294967296 ^ k=U:=by
    rw[dX hU,bj];exact kV _ _
   rw[e1,e2,jJ])
  (fun i hi=>by
   have hp:0<4294967296 ^ i:=bD hb
   obtain⟨h1,h2⟩:=wH (b:=4294967296) (A:=U) (k:=i) (d:=V) hb HN
   have eR1:(U / 4294967296 ^ (i+1) % V*4294967296 ^ (i+1)+U % 4294967296 ^ (i+1)) / 4294967296 ^ i=U / 4294967296 ^ (i+1) % V*4294967296+dg 4294967296 U i:=by
    rw[gi,cC,←fa,DH,lU (U % _),←kU,bj (4294967296 ^ i) (dg _ _ _),←aX,bj (_+_) (4294967296 ^ i),xg hp,dE (dM _ hp),i9]
   have eR2:(U / 4294967296 ^ (i+1) % V*4294967296 ^ (i+1)+U % 4294967296 ^ (i+1)) % 4294967296 ^ i=U % 4294967296 ^ i:=by
    rw[gi,cC,←fa,DH,lU (U % _),←kU,bj (4294967296 ^ i) (dg _ _ _),←aX,MG,Aw]
   have bh:(U / 4294967296 ^ (i+1) % V*4294967296 ^ (i+1)+U % 4294967296 ^ (i+1)) / 4294967296 ^ i<V*4294967296:=by
    rw[eR1]
    have h3:=dM (U / 4294967296 ^ (i+1)) HN
    have h4:(U / 4294967296 ^ (i+1) % V+1)*4294967296≤V*4294967296:=bY _ h3
    rw[aX,dq] at h4
    exact bC (uX dgl _) h4
   obtain⟨hq,hqb⟩:=PT (j:=i) hn (by omega) hV Li bh
   rw[eR1,h1,h2,eR2] at hq
   rw[eR1,h1] at hqb
   have ei:((i+1:Nat):Int) - 1=(i:Int):=by omega
   dsimp only[eK]
   rw[ei,ba _ _]
   -- the digit
   revert hq
   generalize vN 4294967296 17 (U / 4294967296 ^ (i+1) % V*4294967296 ^ (i+1)+U % 4294967296 ^ (i+1))=uv
   intro hq
   obtain⟨d,e1,hq⟩:=ai hq
   rw[xe] at hq
   rw[e1,ab,hq,ab]
   dsimp only
   rw[aB,aD,zk hqb,ND hb (by omega),bU])
  (by
   dsimp only[eK]
   rw[a9 _ _])
 rw[hl]
 simp only[fI,m8,si,mw,i9]
theorem build17 {A s:Nat}(hA:A<LIM)(hs:s<32):(vOf 17 (lCp (Vector.replicate 17 (0:Int)).toList 0 (List.take 17 (List.take 16 (List.drop 0 (W (A*2 ^ s)).toList))))).set! ((16:Int)).toNat ((A % 4294967296 ^ 16*2 ^ s / 4294967296 ^ 16:Nat):Int)=vN 4294967296 17 (A*2 ^ s):=by
 have hb:0<(4294967296:Nat):=by decide
 have Oi:2 ^ s≤2 ^ 31:=im (by decide) (by omega)
 have hs3:0<2 ^ s:=bD (by decide)
 have hc:A % 4294967296 ^ 16*2 ^ s / 4294967296 ^ 16<2 ^ s:=zH hb hs3
 have h16:(W (A*2 ^ s)).toList.length=16:=m5
 have hl:lCp (Vector.replicate 17 (0:Int)).toList 0 (List.take 17 (List.take 16 (List.drop 0 (W (A*2 ^ s)).toList)))=(W (A*2 ^ s)).toList++[0]:=by
  rw[pH,e9 (i:=17) (by simp),e9 (by simp)]
  unfold lCp
  rw[h16,xi,mm]
  rfl
 have hll:((W (A*2 ^ s)).toList++[(0:Int)]).length=17:=by rw[cN,h16];rfl
 rw[hl]
 apply nK
 intro j hj
 rw[pm hj,i1 hj]
 by_cases h:j=16
 ·subst h
  rw[an (by rfl)]
  have IY:A<4294967296 ^ 16:=hA
  rw[dX IY] at hc ⊢
  unfold dg
  rw[dX (by omega)]
 ·rw[az (by simpa using h),←xI (vOf 17 _) hj,wD hll,bK _ j (by rw[hll];omega),List.getElem_append_left (by rw[h16];omega)]
  have e2:=i1 (b:=4294967296) (A:=A*2 ^ s) (j:=j) (n:=16) (by omega)
  rw[←xI _ (by omega),bK _ j (by rw[h16];omega)] at e2
  exact e2
theorem Eu {A B:Nat}(hA:A<LIM)(hB:B<LIM)(Ki:0<B):fB (W A) (W B)=some (W (A / B),W (A % B)):=by
 have hb:0<(4294967296:Nat):=by decide
 obtain⟨n,hn,hn1,Mf,yq⟩:=AB hB
 obtain⟨m,hm,Qh,hm2,hm3⟩:=AB hA
 have hn0:0<n:=by
  rcases rY n with h|h
  ·subst h;simp at Mf;omega
  ·exact h
 unfold fB
 rw[hn1,ab,Qh,ab,Pp hA hB,ab]
 by_cases bh:A<B
 ·rw[ba _ _ (by unfold JD;rw[an bh];omega),ab,z16,dE bh,dX bh]
 ·rw[a9 _ _ (by unfold JD;rw[az bh];split <;> omega)]
  by_cases h1:n=1
  ·subst h1
   have hBb:B<4294967296:=by simpa using Mf
   have e0:(W B)[((0:Int)).toNat]! =(B:Int):=by
    have:(W B)[((0:Int)).toNat]! =(dg 4294967296 B 0:Int):=f8 (by decide)
    rw[this]
    unfold dg
    rw[fI,m8,dX hBb]
   have hr:A % B<4294967296:=As (dM _ Ki) hBb
   rw[ba _ _,e0,G_short hA Ki hBb,ab,ab]
   have:=UA (u:=A % B) (by omega)
   rw[dX hr,dE hr] at this
   dsimp only
   rw[←this]
   rfl
  ·have h2:2≤n:=by omega
   have hk:n - 1<16:=by omega
   have hBd:B / 4294967296 ^ (n - 1)=dg 4294967296 B (n - 1):=by
    have:=b9 (b:=4294967296) (A:=B) (k:=n - 1)
    rw[show n - 1+1=n from by omega,dE Mf,jJ,cj] at this
    exact this
   obtain⟨l,Bv,oQ,Qi,hl4⟩:=G_Lead (x:=dg 4294967296 B (n - 1)) dgl
   have hp:0<4294967296 ^ (n - 1):=bD hb
   have Q2:1≤dg 4294967296 B (n - 1):=by rw[←hBd];exact (oZ hp).2 (by rw[dq];exact yq hn0)
   have hl0:0<l:=by
    rcases rY l with h|h
    ·subst h;simp at Qi;omega
    ·exact h
   have hl5:=hl4 hl0
   have hs:32 - l<32:=by omega
   have epow:2 ^ l*2 ^ (32 - l)=4294967296:=by rw[←gH,show l+(32 - l)=32 from by omega]
   have epow2:2 ^ (l - 1)*2 ^ (32 - l)=2147483648:=by rw[←gH,show l - 1+(32 - l)=31 from by omega]
   have hS:0<2 ^ (32 - l):=bD (by decide)
   have epn:(4294967296:Nat) ^ n=4294967296 ^ (n - 1)*4294967296:=by rw[←cC];congr 1;omega
   have hVlo:2147483648*4294967296 ^ (n - 1)≤B*2 ^ (32 - l):=by
    have h3:2 ^ (l - 1)*4294967296 ^ (n - 1)≤B:=(oZ hp).1 (by rw[hBd];exact hl5)
    calc 2147483648*4294967296 ^ (n - 1)=2 ^ (l - 1)*4294967296 ^ (n - 1)*2 ^ (32 - l):=by rw[←epow2,DH]
     _≤B*2 ^ (32 - l):=bY _ h3
   have hVhi:B*2 ^ (32 - l)<4294967296 ^ n:=by
    have h3:B<2 ^ l*4294967296 ^ (n - 1):=(kO hp).1 (by rw[hBd];exact Qi)
    calc B*2 ^ (32 - l)<2 ^ l*4294967296 ^ (n - 1)*2 ^ (32 - l):=Na h3 hS
     _=4294967296 ^ n:=by rw[DH,epow,bj,←epn]
   have HN:0<B*2 ^ (32 - l):=sW Ki hS
   have hmn:n≤m:=by
    rcases bO m n with h|h
    ·have h3:4294967296 ^ m≤4294967296 ^ (n - 1):=im hb (by omega)
     have h4:=yq hn0
     omega
    ·exact h
   have hUk:A*2 ^ (32 - l) / 4294967296 ^ (m - n+1)<B*2 ^ (32 - l):=by
    rw[kO (bD hb)]
    have h3:A<B*4294967296 ^ (m - n+1):=by
     have h4:4294967296 ^ (n - 1)*4294967296 ^ (m - n+1)≤B*4294967296 ^ (m - n+1):=bY _ (yq hn0)
     rw[←gH,show n - 1+(m - n+1)=m from by omega] at h4
     omega
    calc A*2 ^ (32 - l)<B*4294967296 ^ (m - n+1)*2 ^ (32 - l):=Na h3 hS
     _=B*2 ^ (32 - l)*4294967296 ^ (m - n+1):=DH _ _ _
   have eidx:i64.wrap ((m:Int) - (n:Int))=((m - n+1:Nat):Int) - 1:=by rw[bU];omega
   rw[a9 _ _,show i64.wrap ((n:Int) - 1)=((n - 1:Nat):Int) from by rw[bU];omega,aB,aD,f8 hk,Bv,ab,G_up hs,ab,G_up hs,ab,ab]
   dsimp only
   rw[build17 hA hs,eidx,r16,RN h2 (by omega) hVlo hVhi hUk,ab]
   dsimp only
   have SY:A*2 ^ (32 - l) % (B*2 ^ (32 - l))<4294967296 ^ 16:=bC (dM _ HN) (cg (kQ hVhi) (im hb hn))
   rw[vsub 16 0 (by omega),fI,m8,G_down SY hs,ab,Nat.mul_mod_mul_right,Nd _ hS,Nat.mul_div_mul_right _ _ hS]
end
end Go.Proofs.YtgfcnncojhkcoaaGreat
