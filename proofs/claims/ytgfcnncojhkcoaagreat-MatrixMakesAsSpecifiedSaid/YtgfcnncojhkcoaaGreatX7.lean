/-
  Lemmas, part 7. Conditions: none.
-/
import Derived.Test.YtgfcnncojhkcoaaGreatX6
set_option linter.all false
set_option maxRecDepth 100000
set_option maxHeartbeats 4000000
namespace Go.Proofs.YtgfcnncojhkcoaaGreat
open Go.RowKit Go.IntKind Tryz
noncomputable section
section
def F4(C k:Nat)(V:List Nu)(n r:Nat):Int:=match Ea C k V n r with
 |some i=>(i:Int) - (r:Int)
 |none=>-1
section
variable {vs:List (Nat×List D)} {lv:List (Nat×Nat×Nat×TypeId)} {N C R kM kk kR kr kp k r i:Nat} {V:List Nu}
theorem h_IdxF(hM:vs.lookup kM=some (dC ((cW bo).f V)))(OZ:vs.lookup kk=some [dI .i64 k])(hkR:vs.lookup kR=some (jG kM C R))(hV:V.length=R*C)(hk:k<C)(hr:r<R)(hR:R≤1000000):
  HC prog 140 [.ow kR r 1 (R - r),.fn 141 [kk]] ⟨vs,lv,N⟩ (dI .i64 (F4 C k V (R - r) r)) ⟨vs,lv,N⟩:=by
 refine HC.of (rs:=[.tmp 4]) tok func140 rfl rfl (dM rfl) rfl (fun cx hx h0 hok=>?_)
 simp only[eC,Nat.reduceAdd,dA]
 have hk1:=hok.lt hM
 have D1:=hok.lt OZ
 have hk3:=hok.lt hkR
 refine rs hx fun K hK=>?_
 refine sa ?_
 refine .nil (hK _ _ (AW.seq (rs hx fun K hK=>?_)))
 refine sa ?_
 refine s1 (d:=dI .i64 ((R - r:Nat):Int)) (vI nz aF) ?_
 refine sa ?_
 refine .nil (hK _ _ (AW.block (AW.loopW (fun i:Nat=>[(0,.ow kR r 1 (R - r)),(1,.fn 141 [kk]),(7,dI .i64 ((R - r:Nat):Int)),(8,dI .i64 (i:Nat))]) (fun _=>⟨vs,lv,N⟩) (fun i=>i≤R - r∧Ea C k V (R - r) r=Ea C k V (R - r - i) (r+i)) (fun i=>R - r - i) 0 ?_ ⟨fH _,rfl⟩ ?_)))
 ·exact wk1 h0 (hv:=fun j ds h=>h)
 ·rintro i ⟨hi,hf⟩
  refine rs hx fun K hK=>?_
  refine sa ?_
  refine .nil (hK _ _ (AW.seq (AW.condS rfl (fun hb=>?_) (fun hb=>?_))))
  ·have Mw:i<R - r:=by have:=xz hb;omega
   refine AW.skip (AW.seq (AW.block (rs hx fun K hK=>?_)))
   iterate 2 refine sa ?_
   refine .nil (hK _ _ (rs hx fun K hK=>?_))
   iterate 3 refine sa ?_
   refine wU (k:=kR) (o:=r) (i:=i) (n:=R - r) Mw ?_
   refine c1 (Pt.row (kM:=kM) (C:=C) (n:=R) (i:=r+i) (by omega)) ?_
   refine q1 (sHF (h_pred hM OZ hV (show r+i<R by omega) hk) rfl) ?_
   refine .nil (hK _ _ ?_)
   obtain⟨m,hm⟩:∃m,R - r - i=m+1:=⟨R - r - i - 1,by omega⟩
   rw[hm] at hf
   refine AW.condS rfl (fun hb=>?_) (fun hb=>?_)
   ·refine rs hx fun K hK=>?_
    iterate 2 refine sa ?_
    refine .nil (hK _ _ (AW.ret ?_))
    have he:F4 C k V (R - r) r=(i:Int):=by
     unfold F4
     rw[hf];unfold Ea
     rw[aQ (xz hb)]
     show ((r+i:Nat):Int) - (r:Int)=i
     omega
    rw[he]
    exact rt1 h0 (hv:=fun j ds h=>h)
   ·refine AW.skip (rq hx fun K hK=>?_)
    iterate 2 refine sa ?_
    refine .nil (hK _ _ ?_)
    rw[oF]
    refine⟨i+1,wk1 h0 (hv:=fun j ds h=>h),⟨Mw,?_⟩,by omega⟩
    rw[hf]
    conv=>lhs;unfold Ea
    rw[aV (Bh hb),show R - r - (i+1)=m by omega]
    rfl
  ·refine AW.exit ?_
   have Mw:i=R - r:=by have:=Bh hb;omega
   subst Mw
   refine rs hx fun K hK=>?_
   refine sa ?_
   refine .nil (hK _ _ (AW.ret ?_))
   have he:F4 C k V (R - r) r=-1:=by
    unfold F4
    rw[hf,Nat.sub_self];rfl
   rw[he]
   exact rt1 h0 (hv:=fun j ds h=>h)
theorem Ia {f:FuncId}{ks:List Nat}{h:List Nu→Nat→Nu}(hM:vs.lookup kM=some (dC ((cW bo).f V)))(Mv:∀j∈ks,j<N)(hV:V.length=R*C)(hi:i<R)(hC:C≤1000000)
  (hf:∀(U:List Nu) j,j<C→U.length=R*C→HC prog f ([dI .i64 j]++ks.map fun k=>.pt k 0) ⟨(kM,dC ((cW bo).f U))::vs,lv,N⟩ (dG bo (h U j)) ⟨(kM,dC ((cW bo).f U))::vs,lv,N⟩):
  HC prog 142 [.ow kM (i*C*36) 36 C,.fn f ks] ⟨vs,lv,N⟩ (.tu []) ⟨(kM,dC ((cW bo).f (Bf V (i*C) h C)))::vs,lv,N⟩:=by
 refine HC.of (rs:=[]) tok func142 rfl rfl (dM rfl) rfl (fun cx hx h0 hok=>?_)
 simp only[eC,Nat.reduceAdd,dA]
 have hk1:=hok.lt hM
 have Mp:∀U:List Nu,fW ⟨(kM,dC ((cW bo).f U))::vs,lv,N⟩:=fun U=>hok.consM hk1 (pM _)
 have O5:D.idsB N (.fn f ks)=true:=eS.2 fun k hk=>iP (Mv k hk)
 refine rs hx fun K hK=>?_
 refine sa ?_
 refine s1 (d:=dI .i64 (C:Nat)) (vI aF ax) ?_
 refine sa ?_
 refine .nil (hK _ _ (AW.block (AW.loopW (fun j:Nat=>[(0,.ow kM (i*C*36) 36 C),(1,.fn f ks),(6,dI .i64 (C:Nat)),(7,dI .i64 (j:Nat))]) (fun j=>⟨(kM,dC ((cW bo).f (Bf V (i*C) h j)))::vs,lv,N⟩) (fun j=>j≤C) (fun j=>C - j) 0 ?_ (fH _) ?_)))
 ·exact wk1 h0 (hok:=Mp _) (hv:=fun j ds h=>by
   rcases eG h with⟨rfl,rfl⟩|⟨hj,h⟩
   ·exact hM
   ·exact h)
 ·intro j hj
  refine rs hx fun K hK=>?_
  refine sa ?_
  refine .nil (hK _ _ (AW.seq (AW.condS rfl (fun hb=>?_) (fun hb=>?_))))
  ·have FK:j<C:=by have:=xz hb;omega
   have hlen:(Bf V (i*C) h j).length=R*C:=by rw[vf,hV]
   have hpl:i*C+j<(Bf V (i*C) h j).length:=by rw[hlen];exact cK hi FK
   refine AW.skip (AW.seq (AW.block (rs hx fun K hK=>?_)))
   iterate 2 refine sa ?_
   refine .nil (hK _ _ (rq hx fun K hK=>?_))
   iterate 4 refine sa ?_
   refine q1 (sHF (hf _ j FK hlen) rfl) ?_
   refine i1r (i:=i) (j:=j) FK ?_
   refine t1 (Pt.el _ (i*C+j) hpl) (Pt.el_set _ (i*C+j) hpl _) ?_
   refine .nil (hK _ _ (rq hx fun K hK=>?_))
   iterate 2 refine sa ?_
   refine .nil (hK _ _ ?_)
   rw[oF]
   refine⟨j+1,wk1 h0 (hok:=Mp _) (hv:=fun j' ds h=>by
    rcases eG h with⟨rfl,rfl⟩|⟨hj,h⟩
    ·exact ak
    ·exact ar hj (ar hj h)),FK,by omega⟩
  ·refine AW.exit ?_
   have FK:j=C:=by have:=Bh hb;omega
   subst FK
   exact⟨_,wkS (by rw[h0];exact bI N) (bI N) (Mp _) (fun j ds h=>h) pX.nil,rfl⟩
end
end
section
def pvD(p:Pv):List D:=[dI .i64 p.col]++dC (bo.f p.by')++[dB p.mov]
theorem Bp(p:Pv):(pvD p).length=38:=by unfold pvD;simp only[fg,rt];rfl
theorem pvD_by {p:Pv}:Pt (pvD p) (0+1) (dC (bo.f p.by')) (fun ys=>[dI .i64 p.col]++ys++[dB p.mov]):=Pt.of [dI .i64 p.col] [dB p.mov] rfl (by unfold pvD;simp only[gr]) fun y=>rfl
section
variable {vs:List (Nat×List D)} {lv:List (Nat×Nat×Nat×TypeId)} {N C R kM krs kR kr kp kl kx k r i j:Nat} {V:List Nu} {p:Pv} {b:Nu}
theorem h_by3(hM:vs.lookup kM=some (dC ((cW bo).f V)))(hrs:vs.lookup krs=some [.gw kR 1 R])(hkr:vs.lookup kr=some [dI .i64 r])(hkp:vs.lookup kp=some (pvD p))(hkR:vs.lookup kR=some (jG kM C R))(hV:V.length=R*C)(hj:j<C)(hr:r<R):
  HC prog 143 ([dI .i64 j]++[krs,kr,kp].map fun k=>.pt k 0) ⟨vs,lv,N⟩ (dG bo (HG V[r*C+j]! p.by')) ⟨vs,lv,N⟩:=by
 refine HC.forget (vars:=(N,dC (bo.f (HG V[r*C+j]! p.by')))::vs) (n:=N+1) ?_ (fun j ds hj h=>ar (by omega) h) (pM _)
 refine HC.of (rs:=[.cell 5 34]) tok func143 rfl rfl (dM rfl) rfl (fun cx hx h0 hok=>?_)
 simp only[eC,cl,bN,IB,pB,Nat.reduceAdd,dA]
 have h1:=hok.lt hM
 have h2:=hok.lt hrs
 have h3:=hok.lt hkr
 have h4:=hok.lt hkp
 have h5:=hok.lt hkR
 refine rs hx fun K hK=>?_
 refine n1 ?_
 refine .nil (hK _ _ (rsd [144] hx fun K hK=>?_))
 refine c1 (Pt.one _) ?_
 refine c1 (Pt.one _) ?_
 refine wU (k:=kR) (o:=0) (i:=r) (n:=R) hr ?_
 rw[dA]
 refine c1 (Pt.row (kM:=kM) (C:=C) (n:=R) (i:=r) hr) ?_
 refine sa ?_
 refine i1r (i:=r) (j:=j) hj ?_
 refine l1 (Pt.el V (r*C+j) (by rw[hV];exact cK hr hj)) ?_
 refine sa ?_
 refine l1 (pvD_by (p:=p)) ?_
 refine cq (w_Div _ _) ?_
 refine z1 ?_
 refine .nil (hK _ _ (AW.ret ?_))
 exact rtN1 h0 (by omega) (fW.consM (hok.up (by omega)) (by omega) (pM _)) (bI _) (fun j ds h=>by
  rcases eG h with⟨rfl,rfl⟩|⟨hj,h⟩
  ·exact ak
  ·have:=hok.lt h
   exact ar hj (ar hj h)) ak rfl
theorem h_by4(hM:vs.lookup kM=some (dC ((cW bo).f V)))(hkl:vs.lookup kl=some [.ow kM (i*C*36) 36 C])(hkx:vs.lookup kx=some (dC (bo.f b)))(hrs:vs.lookup krs=some [.gw kR 1 R])(hkr:vs.lookup kr=some [dI .i64 r])(hkR:vs.lookup kR=some (jG kM C R))(hV:V.length=R*C)(hj:j<C)(hr:r<R)(hi:i<R):
  HC prog 145 ([dI .i64 j]++[kl,kx,krs,kr].map fun k=>.pt k 0) ⟨vs,lv,N⟩ (dG bo (HF V[i*C+j]! (uG b V[r*C+j]!))) ⟨vs,lv,N⟩:=by
 refine HC.forget (vars:=(N,dC (bo.f (HF V[i*C+j]! (uG b V[r*C+j]!))))::vs) (n:=N+1) ?_ (fun j ds hj h=>ar (by omega) h) (pM _)
 refine HC.of (rs:=[.cell 6 34]) tok func145 rfl rfl (dM rfl) rfl (fun cx hx h0 hok=>?_)
 simp only[eC,cl,bN,IB,pB,Nat.reduceAdd,dA]
 have h1:=hok.lt hM
 have h2:=hok.lt hrs
 have h3:=hok.lt hkr
 have h4:=hok.lt hkl
 have h5:=hok.lt hkR
 have h6:=hok.lt hkx
 refine rs hx fun K hK=>?_
 refine n1 ?_
 refine .nil (hK _ _ (rsd [40,146] hx fun K hK=>?_))
 refine c1 (Pt.one _) ?_
 refine sa ?_
 refine i1r (i:=i) (j:=j) hj ?_
 refine l1 (Pt.el V (i*C+j) (by rw[hV];exact cK hi hj)) ?_
 refine l1 (Pt.idN b) ?_
 refine c1 (Pt.one _) ?_
 refine c1 (Pt.one _) ?_
 refine wU (k:=kR) (o:=0) (i:=r) (n:=R) hr ?_
 rw[dA]
 refine c1 (Pt.row (kM:=kM) (C:=C) (n:=R) (i:=r) hr) ?_
 refine sa ?_
 refine i1r (i:=r) (j:=j) hj ?_
 refine l1 (Pt.el V (r*C+j) (by rw[hV];exact cK hr hj)) ?_
 refine cq (w_Mul _ _) ?_
 refine cq (w_Sub _ _) ?_
 refine z1 ?_
 refine .nil (hK _ _ (AW.ret ?_))
 exact rtN1 h0 (by omega) (fW.consM (hok.up (by omega)) (by omega) (pM _)) (bI _) (fun j ds h=>by
  rcases eG h with⟨rfl,rfl⟩|⟨hj,h⟩
  ·exact ak
  ·have:=hok.lt h
   exact ar hj (ar hj h)) ak rfl
end
end
section
theorem T_bldPv {dr:Bool}{ty:TypeId}{ev:Operand→D}{hp:Hp}{x y z:Operand}{p:Pv}(hx:ev x=dI .i64 p.col:=by exact rfl)(hy:ev y=dG bo p.by':=by exact rfl)(hz:ev z=dB p.mov:=by exact rfl):AVC prog tbl dr (.build 102 #[(0,x),(1,y),(2,z)]) ty ev hp (Kq (.ag (pvD p)) hp):=by
 have h0:([(0,x),(1,y),(2,z)]:List (Nat×Operand)).map (fun p=>(p.1,ev p.2))=[(0,dI .i64 p.col),(1,dG bo p.by'),(2,dB p.mov)]:=by simp only[bN,cl,hx,hy,hz]
 rw[show (#[(0,x),(1,y),(2,z)]:Array (Nat×Operand))=([(0,x),(1,y),(2,z)]:List (Nat×Operand)).toArray from rfl,yD,h0,we,jS]
 have hp:kX [(0,dI .i64 p.col),(1,dG bo p.by'),(2,dB p.mov)]=some [(0,[dI .i64 p.col]),(1,dC (bo.f p.by')),(2,[dB p.mov])]:=rfl
 rw[hp]
 dsimp only
 refine⟨by decide,?_⟩
 have hz:∀zs:List D,zs.length=38→gJ (qB tbl [(0,3),(1,34),(37,4)]) zs [(0,[dI .i64 p.col]),(1,dC (bo.f p.by')),(2,[dB p.mov])]=some (pvD p):=fun zs hzs=>by
  have p0:qB tbl [(0,3),(1,34),(37,4)] 0=some (0,1):=rfl
  have p1:qB tbl [(0,3),(1,34),(37,4)] 1=some (1,36):=rfl
  have p2:qB tbl [(0,3),(1,34),(37,4)] 2=some (37,1):=rfl
  obtain⟨z0,zr,rfl⟩:∃z0 zr,zs=z0::zr:=by
   cases zs with
   |nil=>cases hzs
   |cons a b=>exact⟨a,b,rfl⟩
  have hzr:zr.length=37:=by simpa using hzs
  have hl:=rt p.by'
  simp only[gJ,p0,p1,p2,hl]
  rw[aV (by simp[hzr]),aV (by simp[hzr]),aV (by simp[hzr,hl])]
  unfold pvD
  have e1:(List.take 0 (z0::zr)++[dI IntKind.i64 (p.col:Int)]++List.drop (0+[dI IntKind.i64 (p.col:Int)].length) (z0::zr))=dI .i64 p.col::zr:=rfl
  rw[e1]
  have e2:List.take 1 (dI IntKind.i64 (p.col:Int)::zr)=[dI .i64 p.col]:=rfl
  have e3:List.drop (1+36) (dI IntKind.i64 (p.col:Int)::zr)=zr.drop 36:=rfl
  rw[e2,e3]
  have h37:([dI IntKind.i64 (p.col:Int)]++dC (bo.f p.by')).length=37:=by rw[fg,hl];rfl
  rw[AP (by rw[h37];exact bI _),kO (by rw[h37];exact bI _),CV (by rw[fg,h37,gY,hzr];exact bI _),vo]
 rw[hz _ (by rfl)]
 exact Kq.here _ _
section
variable {kM R C:Nat}
theorem mat_R:Pt (mu kM R C) (0+0) [dI .i64 R] (fun ys=>ys++[dI .i64 C,ix kM (R*C)]):=Pt.of [] [dI .i64 C,ix kM (R*C)] rfl rfl fun y=>rfl
theorem Oe:Pt (mu kM R C) (0+1) [dI .i64 C] (fun ys=>[dI .i64 R]++ys++[ix kM (R*C)]):=Pt.of [dI .i64 R] [ix kM (R*C)] rfl rfl fun y=>rfl
theorem mat_D:Pt (mu kM R C) (0+2) [ix kM (R*C)] (fun ys=>[dI .i64 R,dI .i64 C]++ys++[]):=Pt.of [dI .i64 R,dI .i64 C] [] rfl rfl fun y=>rfl
theorem Hy(k n:Nat):D.cells (qL k n)=some [qL k n]:=by unfold qL;split <;> rfl
theorem L8 {k n M:Nat}(h:k<M):D.idsC M (qL k n)=true:=by
 unfold qL
 split
 ·rfl
 ·exact iP h
end
structure Kept(W:List Nat)(hp hp':Hp):Prop where
 ok:fW hp'
 next:hp.next≤hp'.next
 vars:∀j ds,j∉W→hp.vars.lookup j=some ds→hp'.vars.lookup j=some ds
structure StH(E kM k0 R C r k kk:Nat)(V:List Nu)(hp:Hp):Prop where
 ok:fW hp
 nx:E+6≤kk
 kn:kk<hp.next
 len:V.length=R*C
 hM:0<R→0<C→hp.vars.lookup kM=some (dC ((cW bo).f V))
 h0:hp.vars.lookup k0=some (mu kM R C)
 hr:hp.vars.lookup (E+5)=some [dI .i64 r]
 hk:hp.vars.lookup kk=some [dI .i64 k]
 hrs:0<R→0<C→hp.vars.lookup (E+4)=some [.gw (E+3) 1 R]
 hR:0<R→0<C→hp.vars.lookup (E+3)=some (jG kM C R)
end
section
theorem Lm {C k:Nat}{V:List Nu}:∀{n r i:Nat},Ea C k V n r=some i→r≤i∧i<r+n
 |0,r,i,h=>by cases h
 |n+1,r,i,h=>by
  unfold Ea at h
  split at h
  ·injection h with h;omega
  ·have:=Lm h;omega
theorem Hz {R C n k r:Nat}{V:List Nu}{acc:List Pv}(h:n=0∨¬r<R):oB R C n k r V acc=some (V,acc):=by
 cases n with
 |zero=>rfl
 |succ n=>
  unfold oB
  rcases h with h|h
  ·cases h
  ·rw[aV h]
section
variable {I5:List (Nat×List D)} {Oi:List (Nat×Nat×Nat×TypeId)} {E B kM k0 k4 R C:Nat} {p:Tmp} {Nt:Nat} {MN bod:Code} {tm0:List (Nat×D)} {J:List Pv→Hp→Prop} {S:Hp→Prop} {V0:List Nu}
def TH(l E k0 kk:Nat):List (Nat×D):=[(0,.e (.lit (.func (.yield l) #[] #[]))),(1,.pt k0 0),(3,.pt (E+4) 0),(4,.pt (E+5) 0),(5,.pt kk 0)]
theorem Oq(hkM:kM<E)(hk0:k0<E)(hk4:k4<E)(h4M:k4≠kM)(h40:k4≠k0)(hM0:kM≠k0)
  (FV:V0.length=R*C) (M8:R*C≤1000000) (hR:R≤1000000) (hC:C≤1000000)
  (hM:0<R→0<C→I5.lookup kM=some (dC ((cW bo).f V0))) (h0:I5.lookup k0=some (mu kM R C))
  (yw:∀k ds,I5.lookup k=some ds→ds.all D.noO=true)
  (hpN:p<Nt) (hJ0:J [] ⟨I5,Oi,E⟩)
  (hJ:∀acc vs oy lv N N',J acc ⟨vs,lv,N⟩→N≤N'→E≤N→(∀j ds,j≠kM→j<E→vs.lookup j=some ds→oy.lookup j=some ds)→J acc ⟨oy,lv,N'⟩)
  (hrd:∀V acc pv hp,0<R→acc.length<C→V.length=R*C→fW hp→hp.vars.lookup kM=some (dC ((cW bo).f V))→J acc hp→RdOk prog Nt p MN bod tm0 hp (.ag (pvD pv)) (fun hp'=>V.all cM=true∧Kept [k4] hp hp'∧J (acc++[pv]) hp') (fun hp'=>V.all cM=false∧S hp')):
  KL prog 137 [k0] B ⟨I5,Oi,E⟩ p Nt MN bod tm0 (fun hp=>∃V acc,oB R C C 0 0 V0 []=some (V,acc)∧fW hp∧(0<R→0<C→hp.vars.lookup kM=some (dC ((cW bo).f V)))∧J acc hp) (fun hp=>oB R C C 0 0 V0 []=none∧S hp):=by
 refine KL.of func137 rfl (dM rfl) rfl hpN (by simp[hk0]) (fun g w l rec x hB zc hg0 hw0 J0 hN sS hok hmk=>?_)
 simp only[bN,cl,eC,Nat.reduceAdd,dA]
 obtain⟨R1,C1,hC1,hR1,hC1p,hC1le,hR1le⟩:∃R1 C1,C1=max 1 C∧R1*C1=R*C∧1≤C1∧C1≤1000000∧(0<C→C1=C∧R1=R):=by
  rcases kN C with h|h
  ·exact⟨0,max 1 C,rfl,by rw[h,gb,LI],LH _ _,by omega,fun h'=>by omega⟩
  ·exact⟨R,max 1 C,rfl,by rw[show max 1 C=C by omega],LH _ _,by omega,fun _=>⟨by omega,rfl⟩⟩
 have hmx:max (1:Int) (C:Int)=((C1:Nat):Int):=by omega
 refine vrs hN fun K hK=>?_
 refine sa ?_
 refine c1 mat_D ?_
 refine sa ?_
 refine c1 Oe ?_
 refine sa ?_
 rw[hmx]
 have hch:=h_Chunk (vs:=I5) (lv:=Oi) (N:=E) (dV:=ix kM (R*C)) hC1p hC1le (BZ hkM _) (Jo _ _)
 refine q1s (d:=.fn 174 [E,E+1]) (hp':=⟨(E+1,[dI .i64 C1])::(E,[ix kM (R*C)])::I5,Oi,E+1+1⟩) (Mf rfl hch rfl) ?_
 have hcol:=MD (vs:=(E+1,[dI .i64 C1])::(E,[ix kM (R*C)])::I5) (lv:=Oi) (N:=E+1+1) (R:=R1) (C:=C1) (kM:=kM) (ks:=E) (kn:=E+1) hC1p (by rw[hR1];exact M8) hC1le (by rw[hR1];exact ar (by omega) ak) ak (by omega) (fun k ds hk=>by
  rcases eG hk with⟨rfl,rfl⟩|⟨_,hk⟩
  ·rfl
  rcases eG hk with⟨rfl,rfl⟩|⟨_,hk⟩
  ·unfold ix;split <;> rfl
  ·exact yw k ds hk)
 refine q1s (d:=qL (E+3) R1) (hp':=⟨sb (E+3) kM C1 R1 ((E+1,[dI .i64 C1])::(E,[ix kM (R*C)])::I5),Oi,E+4⟩) (Mf rfl hcol rfl) ?_
 obtain⟨VR,hVR⟩:∃VR,VR=sb (E+3) kM C1 R1 ((E+1,[dI .i64 C1])::(E,[ix kM (R*C)])::I5):=⟨_,rfl⟩
 rw[←hVR]
 have hokC:fW ⟨(E+1,[dI .i64 C1])::(E,[ix kM (R*C)])::I5,Oi,E+4⟩:=((hok.up (M:=E+4) (by omega)).consM (by omega) (by simp[BZ (show kM<E+4 by omega)])).consM (by omega) (by rfl)
 have hokR:fW ⟨VR,Oi,E+4⟩:=by
  rw[hVR];unfold sb
  split
  ·exact hokC
  ·exact hokC.consM (by omega) (sZ (by omega))
 have hoR:∀j ds,j<E→I5.lookup j=some ds→VR.lookup j=some ds:=fun j ds hj h=>by
  rw[hVR];unfold sb
  split
  ·exact ar (by omega) (ar (by omega) h)
  ·exact ar (by omega) (ar (by omega) (ar (by omega) h))
 have hRR:0<R→0<C→qL (E+3) R1=.gw (E+3) 1 R∧VR.lookup (E+3)=some (jG kM C R):=fun h1 h2=>by
  obtain⟨e1,e2⟩:=hR1le h2
  subst e1 e2
  refine⟨ifn_,?_⟩
  rw[hVR];unfold sb
  rw[ifn_]
  exact ak
 refine a1 nz (hz:=rfl) ?_
 refine v1 (k:=E+4) (F:=[D.e (.lit (.slice none 0 0))]) (ys:=[qL (E+3) R1]) (Pt.one _) rfl rfl rfl ?_ rfl ak (Hy _ _)
 refine .nil (hK _ _ (vrs hN fun K hK=>?_))
 refine a1 aT (hz:=rfl) ?_
 refine v1 (k:=E+5) (ys:=[dI .i64 0]) (Pt.one _) rfl rfl rfl ?_ rfl ak rfl
 refine .nil (hK _ _ (vrs hN fun K hK=>?_))
 refine a1 aT (hz:=rfl) ?_
 refine v1 (k:=E+6) (ys:=[dI .i64 0]) (Pt.one _) rfl rfl rfl ?_ rfl ak rfl
 refine .nil (hK _ _ (AV.block ?_))
 refine AV.loop (fun n tm hp=>∃k r V acc kk,n=C - k∧k≤C∧tm=TH l E k0 kk∧StH E kM k0 R C r k kk V hp∧J acc hp∧acc.length≤k∧oB R C C 0 0 V0 []=oB R C (C - k) k r V acc) (n:=C) (Wk.tmS (tm':=TH l E k0 (E+6)) (tin (tin (tin (tin (tin L5)))))) ?_ ?_
 ·refine⟨0,0,V0,[],E+6,rfl,fH _,rfl,⟨?_,bI _,eR _,FV,fun h1 h2=>?_,?_,?_,?_,fun h1 h2=>?_,fun h1 h2=>?_⟩,?_,bI _,rfl⟩
  ·exact (((((hokR.up (M:=E+7) (by omega)).consM (by omega) (by rfl)).consM (by omega) (by simp[L8 (show E+3<E+7 by omega)])).consM (by omega) (by rfl)).consM (by omega) (by rfl)).consM (by omega) (by rfl) |>.consM (by omega) (by rfl)
  ·exact ar (by omega) (ar (by omega) (ar (by omega) (ar (by omega) (ar (by omega) (ar (by omega) (hoR _ _ hkM (hM h1 h2)))))))
  ·exact ar (by omega) (ar (by omega) (ar (by omega) (ar (by omega) (ar (by omega) (ar (by omega) (hoR _ _ hk0 h0))))))
  ·exact ar (by omega) (ar (by omega) ak)
  ·exact ak
  ·rw[←(hRR h1 h2).1]
   exact ar (by omega) (ar (by omega) (ar (by omega) (ar (by omega) ak)))
  ·exact ar (by omega) (ar (by omega) (ar (by omega) (ar (by omega) (ar (by omega) (ar (by omega) (hRR h1 h2).2)))))
  ·refine hJ [] I5 _ Oi E _ hJ0 (by omega) (bI _) fun j ds _ hj h=>?_
   exact ar (by omega) (ar (by omega) (ar (by omega) (ar (by omega) (ar (by omega) (ar (by omega) (hoR _ _ hj h))))))
 ·rintro n tm hp ⟨k,r,V,acc,kk,rfl,hkC,rfl,⟨Mq,sR,hkkN,hlen,OA,hv0,hvr,hvk,Jz,hvR⟩,hJa,hal,qQ⟩
  obtain⟨vs,lv,N⟩:=hp
  dsimp only at hkkN OA hv0 hvr hvk Jz hvR
  refine AV.seqA ?_
  refine rs hN fun K hK=>?_
  refine c1 (Pt.one _) ?_
  refine sa ?_
  refine c1 Oe ?_
  iterate 2 refine sa ?_
  rcases aW (decide ((k:Int)<(C:Int))) with hb|hb
  ·refine c1g (Pt.one _) hb ?_
   refine ga hb ?_
   refine c1g mat_R hb ?_
   refine ga hb ?_
   refine s1 (am hb) ?_
   refine .nil (hK _ _ ?_)
   have JK:k<C:=by have:=xz hb;omega
   refine AW.condS rfl (fun mm=>?_) (fun mm=>?_)
   ·have FG:r<R:=by have:=xz mm;omega
    have Jz:=Jz (by omega) (by omega)
    have hvR:=hvR (by omega) (by omega)
    have OA:=OA (by omega) (by omega)
    refine AW.skip ?_
    have hkM2:kM≠kk:=by omega
    have hkMN:kM<N:=by omega
    refine AV.seq (AV.mono (Q:=fun ex a w'=>(ex=.normal∧∃r' V' MT hp',RS x (TH l E k0 kk) hp' a w'∧StH E kM k0 R C r' k kk V' hp'∧J MT hp'∧MT.length≤k+1∧oB R C C 0 0 V0 []=oB R C (C - (k+1)) (k+1) r' V' MT)∨
     (ex=.ret∧a.defers=x.df∧∃hp' g' W',w'=W'.putObj l (.loop (ru rec))∧W'.heap[l]? =some (.loop rec)∧xN B ⟨I5,Oi,E⟩ g w hp' g' W'∧oB R C C 0 0 V0 []=none∧S hp')) (AV.block ?_) ?_)
    ·refine vrsd [140] hN fun K hK=>?_
     refine c1 (Pt.one _) ?_
     refine c1 (Pt.one _) ?_
     refine c1 (Pt.one _) ?_
     refine q1 (n0.toOw (slW (l:=(r:Int)) (h:=(R:Int)) (n:=R) (k:=E+3) (off:=0) (z:=1) tok ⟨by omega,by omega,by omega,by omega⟩ nz aF ⟨.i64,rfl⟩ rfl)) ?_
     rw[show 0+((r:Nat):Int).toNat*1=r by omega,show (((R:Nat):Int) - ((r:Nat):Int)).toNat=R - r by omega]
     refine s1 (d:=.fn 141 [kk]) vH ?_
     refine q1 (sHCf (h_IdxF (kM:=kM) (kk:=kk) (kR:=E+3) (k:=k) (r:=r) (V:=V) OA hvk hvR hlen JK FG hR) rfl (Fr.refl _) (hv:=by kernel_rfl)) ?_
     iterate 2 refine sa ?_
     refine .nil (hK _ _ (AV.seqA ?_))
     refine rs hN fun K hK=>?_
     refine sa ?_
     refine c1 (Pt.one _) ?_
     refine sa ?_
     refine .nil (hK _ _ ?_)
     obtain⟨m,hm⟩:∃m,C - k=m+1:=⟨C - k - 1,by omega⟩
     have Mt:C - (k+1)=m:=by omega
     rcases hf:Ea C k V (R - r) r with _|i
     ·have hv:F4 C k V (R - r) r=-1:=by unfold F4;rw[hf]
      rw[hv,rS (by omega) (by omega)]
      refine AW.condT rfl (det_) (AW.exit ?_)
      intro a w hr
      refine .inl ⟨rfl,r,V,acc,_,Wk.tmS (tin (tin (tin (tin (tin L5))))) a w hr,⟨Mq,sR,hkkN,hlen,fun _ _=>OA,hv0,hvr,hvk,fun _ _=>Jz,fun _ _=>hvR⟩,hJa,by omega,?_⟩
      rw[qQ,hm,Mt]
      conv=>lhs;unfold oB
      rw[aQ FG,hf]
     ·obtain⟨hri,hiR⟩:=Lm hf
      have hiR:i<R:=by omega
      have hv:F4 C k V (R - r) r=(i:Int) - (r:Int):=by unfold F4;rw[hf]
      rw[hv,show (r:Int)+((i:Int) - (r:Int))=(i:Int) by omega,rS (by omega) (by omega)]
      refine AW.condF rfl (def_) (AW.skip (AV.seqA ?_))
      refine rs hN fun K hK=>?_
      refine sa ?_
      refine c1 Oe ?_
      refine sa ?_
      refine .nil (hK _ _ (AW.block ?_))
      have Mp:∀U:List Nu,fW ⟨(kM,dC ((cW bo).f U))::vs,lv,N⟩:=fun U=>Mq.consM hkMN (pM _)
      refine AW.loopW (fun j:Nat=>[(0,.e (.lit (.func (.yield l) #[] #[]))),(1,.pt k0 0),(3,.pt (E+4) 0),(4,.pt (E+5) 0),(5,.pt kk 0),(6,dI .i64 (i:Nat)),(43,dI .i64 (C:Nat)),(44,dI .i64 (j:Nat))]) (fun j=>⟨(kM,dC ((cW bo).f (qh C V i r j)))::vs,lv,N⟩) (fun j=>j≤C) (fun j=>C - j) 0 ?_ (fH _) ?_
      ·exact wk1 zc (hok:=Mp _) (hv:=fun j ds h=>by
        rcases eG h with⟨rfl,rfl⟩|⟨hj,h⟩
        ·exact OA
        ·exact h)
      ·intro j hj
       refine rs hN fun K hK=>?_
       refine sa ?_
       refine .nil (hK _ _ (AW.seq (AW.condS rfl (fun a8=>?_) (fun a8=>?_))))
       ·have FK:j<C:=by have:=xz a8;omega
        have hlU:(qh C V i r j).length=R*C:=by rw[vU,hlen]
        have hp1:i*C+j<(qh C V i r j).length:=by rw[hlU];exact cK hiR FK
        have cf:r*C+j<(qh C V i r j).length:=by rw[hlU];exact cK FG FK
        have hp3:r*C+j<((qh C V i r j).set (i*C+j) (qh C V i r j)[r*C+j]!).length:=by rw[CK];exact cf
        refine AW.skip (AW.seq (AW.block (rs hN fun K hK=>?_)))
        iterate 2 refine sa ?_
        refine .nil (hK _ _ (rqd [] hN fun K hK=>?_))
        refine c1 (Pt.one _) ?_
        refine sa ?_
        refine wU (k:=E+3) (o:=0) (i:=i) (n:=R) hiR ?_
        rw[dA]
        refine c1 (Pt.row (kM:=kM) (C:=C) (n:=R) (i:=i) hiR) ?_
        refine sa ?_
        refine c1 (Pt.one _) ?_
        refine c1 (Pt.one _) ?_
        refine wU (k:=E+3) (o:=0) (i:=r) (n:=R) FG ?_
        rw[dA]
        refine c1 (Pt.row (kM:=kM) (C:=C) (n:=R) (i:=r) FG) ?_
        refine sa ?_
        refine c1 (Pt.one _) ?_
        refine c1 (Pt.one _) ?_
        refine wU (k:=E+3) (o:=0) (i:=r) (n:=R) FG ?_
        rw[dA]
        refine c1 (Pt.row (kM:=kM) (C:=C) (n:=R) (i:=r) FG) ?_
        refine sa ?_
        refine i1r (i:=r) (j:=j) FK ?_
        refine l1 (Pt.el _ (r*C+j) cf) ?_
        refine c1 (Pt.one _) ?_
        refine sa ?_
        refine wU (k:=E+3) (o:=0) (i:=i) (n:=R) hiR ?_
        rw[dA]
        refine c1 (Pt.row (kM:=kM) (C:=C) (n:=R) (i:=i) hiR) ?_
        refine sa ?_
        refine i1r (i:=i) (j:=j) FK ?_
        refine l1 (Pt.el _ (i*C+j) hp1) ?_
        refine i1r (i:=i) (j:=j) FK ?_
        refine t1 (Pt.el _ (i*C+j) hp1) (Pt.el_set _ (i*C+j) hp1 _) ?_
        refine i1r (i:=r) (j:=j) FK ?_
        refine t1 (Pt.el _ (r*C+j) hp3) (Pt.el_set _ (r*C+j) hp3 _) ?_
        refine .nil (hK _ _ (rq hN fun K hK=>?_))
        iterate 2 refine sa ?_
        refine .nil (hK _ _ ?_)
        rw[oF]
        refine⟨j+1,wk1 zc (hok:=Mp _) (hv:=fun j' ds h=>by
         rcases eG h with⟨rfl,rfl⟩|⟨hj,h⟩
         ·exact ak
         ·exact ar hj (ar hj (ar hj h))),FK,by omega⟩
       ·refine AW.exit ?_
        have FK:j=C:=by have:=Bh a8;omega
        rw[FK]
        clear a8 hj FK
        have EI:(qh C V i r C).length=R*C:=by rw[vU,hlen]
        have hp1:r*C+k<(qh C V i r C).length:=by rw[EI];exact cK FG JK
        refine vrsd [] hN fun K hK=>?_
        refine c1 (Pt.one _) ?_
        refine c1 (Pt.one _) ?_
        refine c1 (Pt.one _) ?_
        refine wU (k:=E+3) (o:=0) (i:=r) (n:=R) FG ?_
        rw[dA]
        refine c1 (Pt.row (kM:=kM) (C:=C) (n:=R) (i:=r) FG) ?_
        refine c1 (Pt.one _) ?_
        refine i1r (i:=r) (j:=k) JK ?_
        refine l1 (Pt.el _ (r*C+k) hp1) ?_
        refine sa ?_
        refine c1 (Pt.one _) ?_
        refine sa ?_
        obtain⟨pv,hpv⟩:∃pv:Pv,pv=⟨k,byN C k i r V,decide (i≠r)⟩:=⟨_,rfl⟩
        refine s1 (d:=.ag (pvD pv)) (T_bldPv (p:=pv) (by rw[hpv];rfl) (by rw[hpv];rfl) (by rw[hpv];exact congrArg (fun b=>dB b) (mJ.2 (by omega)))) ?_
        refine a1 jS (hz:=rfl) ?_
        refine v1 (k:=N) (ys:=pvD pv) (F2:=pvD pv) Pt.all (by exact rfl) (by exact Bp pv) rfl ?_ rfl ak rfl (ht:=jS)
        refine .nil (hK _ _ (vrs hN fun K hK=>?_))
        refine s1 (d:=.e (.lit (.func (.func 142) #[] #[]))) IF ?_
        refine .nil (hK _ _ (vrs hN fun K hK=>?_))
        refine sa ?_
        refine c1 (Pt.one _) ?_
        refine c1 (Pt.one _) ?_
        refine wU (k:=E+3) (o:=0) (i:=r) (n:=R) FG ?_
        rw[dA]
        refine c1 (Pt.row (kM:=kM) (C:=C) (n:=R) (i:=r) FG) ?_
        refine s1 (d:=.fn 143 [E+4,E+5,N]) vH ?_
        refine q1 (sHC (Ia (kM:=kM) (i:=r) (V:=qh C V i r C) (R:=R) (h:=fun U j=>HG U[r*C+j]! pv.by') (ar (by omega) (ar (by omega) ak)) (fun j hj=>by simp at hj;rcases hj with rfl|rfl|rfl <;> omega) EI FG hC (fun U j hj hU=>h_by3 (kM:=kM) (krs:=E+4) (kr:=E+5) (kp:=N) (kR:=E+3) (p:=pv) ak (ar (by omega) (ar (by omega) (ar (by omega) (ar (by omega) Jz)))) (ar (by omega) (ar (by omega) (ar (by omega) (ar (by omega) hvr)))) (ar (by omega) ak) (ar (by omega) (ar (by omega) (ar (by omega) (ar (by omega) hvR)))) hU hj FG)) rfl (.inl (by kernel_rfl))) ?_
        refine .nil (hK _ _ ?_)
        obtain⟨U2,hU2⟩:∃U2,U2=Bf (qh C V i r C) (r*C) (fun U j=>HG U[r*C+j]! pv.by') C:=⟨_,rfl⟩
        rw[←hU2]
        have A7:U2.length=R*C:=by rw[hU2,vf,EI]
        have hstep:mb C k r U2 R=yh R C k i r V:=by rw[hU2,hpv];rfl
        have zX:∀U:List Nu,fW ⟨(kM,dC ((cW bo).f U))::(N,pvD pv)::vs,lv,N+1⟩:=fun U=>((Mq.up (M:=N+1) (gM _)).consM (eR _) (by unfold pvD;rw[yI,yI,pM];rfl)).consM (by omega) (pM _)
        refine AV.weak (hp':=⟨(kM,dC ((cW bo).f U2))::(N,pvD pv)::vs,lv,N+1⟩) (tm':=[(0,.e (.lit (.func (.yield l) #[] #[]))),(1,.pt k0 0),(3,.pt (E+4) 0),(4,.pt (E+5) 0),(5,.pt kk 0),(8,.pt N 0),(9,.e (.lit (.func (.func 142) #[] #[])))]) (wk1 zc (hok:=zX _) (hv:=fun j ds h=>by
         rcases eG h with⟨rfl,rfl⟩|⟨hj,h⟩
         ·exact ak
         rcases eG h with⟨rfl,rfl⟩|⟨GW,h⟩
         ·exact ar hj ak
         ·exact ar hj (ar GW (ar GW (ar hj h))))) ?_
        have g1:∀U:List Nu,((kM,dC ((cW bo).f U))::(N,pvD pv)::vs).lookup (E+4)=some [.gw (E+3) 1 R]:=fun U=>ar (by omega) (ar (by omega) Jz)
        have g2:∀U:List Nu,((kM,dC ((cW bo).f U))::(N,pvD pv)::vs).lookup (E+5)=some [dI .i64 r]:=fun U=>ar (by omega) (ar (by omega) hvr)
        have g3:∀U:List Nu,((kM,dC ((cW bo).f U))::(N,pvD pv)::vs).lookup (E+3)=some (jG kM C R):=fun U=>ar (by omega) (ar (by omega) hvR)
        have g4:∀U:List Nu,((kM,dC ((cW bo).f U))::(N,pvD pv)::vs).lookup kk=some [dI .i64 k]:=fun U=>ar (by omega) (ar (by omega) hvk)
        refine AV.seqA ?_
        refine rs hN fun K hK=>?_
        refine c1 (Pt.one _) ?_ (hv:=g1 _)
        refine stG (d:=dI .i64 (R:Nat)) tok (vI (k:=E+3) (off:=0) (z:=1) nz aF rfl rfl) ?_
        refine sa ?_
        refine .nil (hK _ _ (AW.block (AW.loopW (fun n:Nat=>[(0,.e (.lit (.func (.yield l) #[] #[]))),(1,.pt k0 0),(3,.pt (E+4) 0),(4,.pt (E+5) 0),(5,.pt kk 0),(8,.pt N 0),(9,.e (.lit (.func (.func 142) #[] #[]))),(93,.gw (E+3) 1 R),(94,dI .i64 (R:Nat)),(95,dI .i64 (n:Nat))]) (fun n=>⟨(kM,dC ((cW bo).f (mb C k r U2 n)))::(N,pvD pv)::vs,lv,N+1⟩) (fun n=>n≤R) (fun n=>R - n) 0 ?_ (fH _) ?_)))
        ·exact wk1 zc (hok:=zX _) (hv:=fun j ds h=>h)
        ·intro n hn
         refine rs hN fun K hK=>?_
         refine sa ?_
         refine .nil (hK _ _ (AW.seq (AW.condS rfl (fun a8=>?_) (fun a8=>?_))))
         ·have OP:n<R:=by have:=xz a8;omega
          have Mu:(mb C k r U2 n).length=R*C:=by rw[vX,A7]
          have hp3:n*C+k<(mb C k r U2 n).length:=by rw[Mu];exact cK OP JK
          refine AW.skip (AW.seq (AW.block (rs hN fun K hK=>?_)))
          refine sa ?_
          refine wU (k:=E+3) (o:=0) (i:=n) (n:=R) OP ?_
          rw[dA]
          refine c1 (Pt.row (kM:=kM) (C:=C) (n:=R) (i:=n) OP) ?_ (hv:=g3 _)
          refine a1 aF (hz:=rfl) ?_
          refine sa ?_
          refine v1 (k:=N+1) (F:=[D.e (.lit (.slice none 0 0))]) (ys:=[.ow kM (n*C*36) 36 C]) (Pt.one _) rfl rfl rfl ?_ rfl ak rfl
          refine .nil (hK _ _ (rs hN fun K hK=>?_))
          refine c1 (Pt.one _) ?_
          refine c1 (Pt.one _) ?_ (hv:=ar (by omega) (ar (by omega) (g4 _)))
          refine i1r (i:=n) (j:=k) JK ?_
          refine l1 (Pt.el _ (n*C+k) hp3) ?_
          refine n1 ?_
          refine z1 ?_
          refine .nil (hK _ _ (rs hN fun K hK=>?_))
          refine sa ?_
          refine c1 (Pt.one _) ?_ (hv:=ar (by omega) (ar (by omega) (ar (by omega) (ar (by omega) (g2 _)))))
          iterate 2 refine sa ?_
          have hvT:∀(U:List Nu) (a b c d e:List D) j ds,((kM,dC ((cW bo).f U))::(N,pvD pv)::vs).lookup j=some ds→((kM,dC ((cW bo).f U))::(N+1+1,a)::(N+1+1,b)::(N+1,c)::(N+1,d)::(kM,e)::(N,pvD pv)::vs).lookup j=some ds:=fun U a b c d e j ds h=>by
           rcases eG h with⟨rfl,rfl⟩|⟨hj,h⟩
           ·exact ak
           have hjN:j<N+1:=by
            rcases eG h with⟨rfl,_⟩|⟨_,h⟩
            ·omega
            ·exact uB (Mq.lt h)
           exact ar hj (ar (by omega) (ar (by omega) (ar (by omega) (ar (by omega) (ar hj h)))))
          have hvF:∀(U:List Nu) (a b c d:List D) j ds,((kM,dC ((cW bo).f U))::(N,pvD pv)::vs).lookup j=some ds→((N+1+1,a)::(N+1+1,b)::(N+1,c)::(N+1,d)::(kM,dC ((cW bo).f U))::(N,pvD pv)::vs).lookup j=some ds:=fun U a b c d j ds h=>by
           have hjN:j<N+1:=(zX U).lt h
           exact ar (by omega) (ar (by omega) (ar (by omega) (ar (by omega) h)))
          rcases aW (decide ((n:Int)≠(r:Int))) with lz|lz
          ·have hnr:n≠r:=by have:=xz lz;omega
           refine l1g (Pt.idN _) lz ?_
           refine cqg (Nm _) lz ?_
           refine ga lz ?_
           refine s1 (am lz) ?_
           refine .nil (hK _ _ (AW.condS rfl (fun iO=>?_) (fun iO=>?_)))
           ·have e:mb C k r U2 (n+1)=Bf (mb C k r U2 n) (n*C) (fun U j=>HF U[n*C+j]! (uG (mb C k r U2 n)[n*C+k]! U[r*C+j]!)) C:=by
             conv=>lhs;unfold mb
             rw[aQ ⟨hnr,xz iO⟩]
            refine rq hN fun K hK=>?_
            refine sa ?_
            refine c1 (Pt.one _) ?_ (hv:=ar (by omega) (ar (by omega) ak))
            refine s1 (d:=.fn 145 [N+1,N+1+1,E+4,E+5]) vH ?_
            refine q1 (sHC (Ia (kM:=kM) (i:=n) (V:=mb C k r U2 n) (R:=R) (h:=fun U j=>HF U[n*C+j]! (uG (mb C k r U2 n)[n*C+k]! U[r*C+j]!)) (ar (by omega) (ar (by omega) (ar (by omega) (ar (by omega) ak)))) (fun j hj=>by simp at hj;rcases hj with rfl|rfl|rfl|rfl <;> omega) Mu OP hC (fun U j hj hU=>h_by4 (kM:=kM) (kl:=N+1) (kx:=N+1+1) (krs:=E+4) (kr:=E+5) (kR:=E+3) (i:=n) (b:=(mb C k r U2 n)[n*C+k]!) ak (ar (by omega) (ar (by omega) (ar (by omega) ak))) (ar (by omega) ak) (ar (by omega) (ar (by omega) (ar (by omega) (ar (by omega) (ar (by omega) (g1 _)))))) (ar (by omega) (ar (by omega) (ar (by omega) (ar (by omega) (ar (by omega) (g2 _)))))) (ar (by omega) (ar (by omega) (ar (by omega) (ar (by omega) (ar (by omega) (g3 _)))))) hU hj FG OP)) rfl (.inl (by kernel_rfl))) ?_
            refine .nil (hK _ _ (rq hN fun K hK=>?_))
            iterate 2 refine sa ?_
            refine .nil (hK _ _ ?_)
            rw[oF]
            refine⟨n+1,?_,OP,by omega⟩
            dsimp only
            rw[e]
            exact wk1 zc (hok:=zX _) (hv:=fun j ds h=>hvT _ _ _ _ _ _ j ds h)
           ·have e:mb C k r U2 (n+1)=mb C k r U2 n:=by
             conv=>lhs;unfold mb
             rw[aV fun h=>Bh iO h.2]
            refine AW.skip (rq hN fun K hK=>?_)
            iterate 2 refine sa ?_
            refine .nil (hK _ _ ?_)
            rw[oF]
            refine⟨n+1,?_,OP,by omega⟩
            dsimp only
            rw[e]
            exact wk1 zc (hok:=zX _) (hv:=fun j ds h=>hvF _ _ _ _ _ j ds h)
          ·have e:mb C k r U2 (n+1)=mb C k r U2 n:=by
            conv=>lhs;unfold mb
            rw[aV fun h=>by have:=Bh lz;omega]
           iterate 3 refine gn lz ?_
           refine s1 (au lz) ?_
           refine .nil (hK _ _ (AW.condF rfl rfl (AW.skip (rq hN fun K hK=>?_))))
           iterate 2 refine sa ?_
           refine .nil (hK _ _ ?_)
           rw[oF]
           refine⟨n+1,?_,OP,by omega⟩
           dsimp only
           rw[e]
           exact wk1 zc (hok:=zX _) (hv:=fun j ds h=>hvF _ _ _ _ _ j ds h)
         ·refine AW.exit ?_
          have OP:n=R:=by have:=Bh a8;omega
          rw[OP,hstep]
          clear a8 hn OP
          have hls:(yh R C k i r V).length=R*C:=by rw[Et,hlen]
          refine AV.seq ?_
          refine AV.yield (tb:=tbl) (x:=x) (l:=l) (rec:=rec) (hpE:=⟨I5,Oi,E⟩) (gE:=g) (wE:=w) 2 rfl (by rw[hN];kernel_rfl) (by kernel_rfl) ⟨zc,hg0,hw0,fun p _ hp=>by rw[J0];exact hp⟩ (fun K hK=>?_)
          refine sa ?_
          refine p1 (Pt.all (F:=pvD pv)) (Bp pv) ?_
          have hJ2:=hJ acc vs ((kM,dC ((cW bo).f (yh R C k i r V)))::(N,pvD pv)::vs) lv N (N+1) hJa (gM _) (by omega) (fun j ds hj hjE h=>ar hj (ar (by omega) h))
          refine .nil (hK _ _ _ _ _ rfl rfl (by rw[hB];exact hmk _ _ _ _ (hrd (yh R C k i r V) acc pv _ (by omega) (by omega) hls (zX _) ak hJ2)) ?_ ?_)
          ·rintro⟨v2,l2,N2⟩ a w ⟨hgd,⟨hok3,rz,hv3⟩,hJ3⟩ hr
           dsimp only at rz hv3
           show Code.wpIn (FWd none) 0 prog _ _ a w
           have kp:∀j ds,j≠k4→j≠kM→j<N→vs.lookup j=some ds→v2.lookup j=some ds:=fun j ds h1 h2 h3 h=>hv3 j ds (by simpa using h1) (ar h2 (ar (by omega) h))
           have q5:v2.lookup (E+5)=some [dI .i64 r]:=kp _ _ (by omega) (by omega) (by omega) hvr
           refine (vrq hN fun K hK=>?_) a w hr
           refine c1 (Pt.one _) ?_
           refine sa ?_
           rw[oF]
           refine v1 (k:=E+5) (F:=[dI .i64 r]) (ys:=[dI .i64 ((r+1:Nat):Int)]) (Pt.one _) rfl rfl rfl ?_ rfl q5 rfl
           refine .nil (hK _ _ ?_)
           intro a w hr
           refine .inl ⟨rfl,r+1,yh R C k i r V,acc++[pv],_,Wk.tmS (tin (tin (tin (tin (tin L5))))) a w hr,⟨hok3.consM (by omega) rfl,sR,by show kk<N2;omega,hls,fun _ _=>?_,?_,ak,?_,fun _ _=>?_,fun _ _=>?_⟩,?_,by rw[fg];exact Nat.succ_le_succ hal,?_⟩
           ·exact ar (by omega) (hv3 _ _ (by simpa using fun e=>h4M e.symm) ak)
           ·exact ar (by omega) (kp _ _ (fun e=>h40 e.symm) (fun e=>hM0 e.symm) (by omega) hv0)
           ·exact ar (by omega) (kp _ _ (by omega) (by omega) (by omega) hvk)
           ·exact ar (by omega) (kp _ _ (by omega) (by omega) (by omega) Jz)
           ·exact ar (by omega) (kp _ _ (by omega) (by omega) (by omega) hvR)
           ·exact hJ (acc++[pv]) v2 _ l2 N2 N2 hJ3 (bI _) (by omega) (fun j ds _ hjE h=>ar (by omega) h)
           ·rw[qQ,hm,Mt]
            conv=>lhs;unfold oB
            rw[aQ FG,hf]
            dsimp only
            rw[aQ hgd,hpv]
          ·rintro cf g2 W' a ⟨hgd,hS2⟩ A7 pg H7
           rw[hB] at pg
           refine .inr ⟨rfl,H7,cf,g2,W',rfl,A7,pg,?_,hS2⟩
           rw[qQ,hm]
           conv=>lhs;unfold oB
           rw[aQ FG,hf]
           dsimp only
           rw[aV (by rw[hgd];simp)]
    ·rintro ex a w' (⟨rfl,r',V',MT,⟨oy,lv',N'⟩,hr,⟨hok',hnx',hkn',hlen',hvM',hv0',hvr',hvk',hvrs',hvR'⟩,hJ',hal',hred'⟩|⟨rfl,hd,hp',g',W',rfl,hl,hc,hn,hS'⟩)
     ·show Code.wpIn (FWd none) 0 prog _ _ a w'
      dsimp only at hkn' hvM' hv0' hvr' hvk' hvrs' hvR'
      refine (?_:AV prog none x _ (TH l E k0 kk) ⟨oy,lv',N'⟩ _) a w' hr
      refine AV.seqA ?_
      refine rs hN fun K hK=>?_
      refine c1 (Pt.one _) ?_
      refine .nil (hK _ _ (rq hN fun K hK=>?_))
      refine a1 aT (hz:=rfl) ?_
      refine v1 (k:=N') (F:=[dI .i64 0]) (ys:=[dI .i64 (k:Int)]) (Pt.one _) rfl rfl rfl ?_ rfl ak rfl
      refine .nil (hK _ _ (vrq hN fun K hK=>?_))
      refine c1 (Pt.one _) ?_
      refine sa ?_
      rw[oF]
      refine v1 (k:=N') (F:=[dI .i64 (k:Int)]) (ys:=[dI .i64 ((k+1:Nat):Int)]) (Pt.one _) rfl rfl rfl ?_ rfl ak rfl
      refine .nil (hK _ _ ?_)
      intro a w hr
      refine⟨C - (k+1),_,_,by omega,Wk.tmS (tm':=TH l E k0 N') (tin (tin (tin (tin (tin L5))))) a w hr,k+1,r',V',MT,N',rfl,JK,rfl,⟨?_,by omega,eR _,hlen',fun h1 h2=>?_,?_,?_,ak,fun h1 h2=>?_,fun h1 h2=>?_⟩,?_,hal',hred'⟩
      ·exact ((hok'.up (M:=N'+1) (gM _)).consM (eR _) rfl).consM (eR _) rfl |>.consM (eR _) rfl
      ·exact ar (by omega) (ar (by omega) (ar (by omega) (hvM' h1 h2)))
      ·exact ar (by omega) (ar (by omega) (ar (by omega) hv0'))
      ·exact ar (by omega) (ar (by omega) (ar (by omega) hvr'))
      ·exact ar (by omega) (ar (by omega) (ar (by omega) (hvrs' h1 h2)))
      ·exact ar (by omega) (ar (by omega) (ar (by omega) (hvR' h1 h2)))
      ·exact hJ MT oy _ lv' N' (N'+1) hJ' (gM _) (by omega) (fun j ds _ hjE h=>ar (by omega) (ar (by omega) (ar (by omega) h)))
     ·exact .inr ⟨rfl,hd,hp',g',W',rfl,hl,hc,hn,hS'⟩
   ·refine AW.exit ?_
    intro a w hr
    have FG:¬r<R:=by have:=Bh mm;omega
    exact .inl ⟨.inl rfl,_,_,hr,V,acc,qQ.trans (Hz (.inr FG)),Mq,OA,hJa⟩
  ·iterate 4 refine gn hb ?_
   refine s1 (au hb) ?_
   refine .nil (hK _ _ (AW.condF rfl rfl (AW.exit ?_)))
   intro a w hr
   have JK:¬k<C:=by have:=Bh hb;omega
   exact .inl ⟨.inl rfl,_,_,hr,V,acc,qQ.trans (Hz (.inl (by omega))),Mq,OA,hJa⟩
end
end
theorem Nl(x:Nu):aB prog 103 [dG bo x] (dB (!cM x)):=by
 refine bC (rs:=[.tmp 2]) (fun cx hx h0=>?_) func103
 refine ra hx ?_
 refine rs hx fun K hK=>?_
 refine s1 (d:=dG bo x) (aA (ao.id _ _) ax) ?_
 refine sc (w_Good x) ?_
 iterate 2 refine sa ?_
 exact .nil (hK _ _ (AW.ret (rv1)))
theorem idxP_ge {p:Nu→Bool}{l:List Nu}:decide (0≤Jv p l)=l.any p:=by
 unfold Jv
 cases h:l.findIdx? p with
 |none=>
  rw[List.findIdx?_eq_none_iff] at h
  have:l.any p=false:=by
   rw[List.any_eq_false]
   intro x hx
   rw[h x hx];simp
  rw[this];rfl
 |some i=>
  obtain⟨hi,h1,_⟩:=al_33.1 h
  have:l.any p=true:=List.any_eq_true.2 ⟨l[i],EX hi,h1⟩
  rw[this]
  exact iP (show (0:Int)≤(i:Int) by omega)
theorem Hi {f:FuncId}{p:Nu→Bool}(hf:∀x:Nu,aB prog f [dG bo x] (dB (p x))){l:List Nu}(hl:l.length≤1000000):aB prog 102 [.e (slE bo l),.e (.lit (.func (.func f) #[] #[]))] (dB (l.any p)):=by
 refine bC (rs:=[.tmp 4]) (fun cx hx h0=>?_) func102
 refine ra hx ?_
 refine rs hx fun K hK=>?_
 iterate 2 refine sa ?_
 refine sc (Nn hf hl) ?_
 iterate 2 refine sa ?_
 refine .nil (hK _ _ (AW.ret ?_))
 rw[idxP_ge]
 exact rv1
theorem MP(l:List Nu):(!l.any fun x=>!cM x)=l.all cM:=by
 induction l with
 |nil=>rfl
 |cons a l ih=>rw[List.any_cons,cF,Bool.not_or,Bool.not_not,ih]
theorem w_mgood {l:List Nu}(hl:l.length≤1000000):aB prog 58 [.e (slE bo l)] (dB (l.all cM)):=by
 refine bC (rs:=[.tmp 2]) (fun cx hx h0=>?_) func58
 refine ra hx ?_
 refine rs hx fun K hK=>?_
 refine sa ?_
 refine sc (Hi Nl hl) ?_
 iterate 2 refine sa ?_
 refine .nil (hK _ _ (AW.ret ?_))
 rw[MP]
 exact rv1
theorem AR.own {hp:Hp}{id z n:Nat}{xs:List E}:AR hp (.own id z n xs) (.e (.sl z n xs)):=by
 intro B g w v hr hd
 cases hd with
 |own _ _ _ _ _ h hid ht=>exact .e _ _ (h.less fun p hp=>hp.1)
theorem aB.ofMA {P : Program} {tb : TypeId → Option TyE} (tok : TOk P tb) {f : FuncId} {fn : Func} {c : Code} {ds es : List D} {rs : List ResultVar} (hf : P.funcs[f]? = some fn) (hb : fn.body = some c) (te : (fn.name == "runtime.NumGoroutine") = false) (hN : ds.length ≤ fn.ntmps) (hrs : fn.results.toList = rs)
  (h:∀x:Cx,x.N=fn.ntmps→x.hp0=⟨[],[],0⟩→x.df=[]→x.B≤x.w0.heap.size→AV P none x c (eC 0 ds) ⟨[],[],0⟩ (MY x fun _ tm cf=>∃d,xI tb rs tm cf d∧AR cf d (.tu es))):aB P f ds (.tu es):=by
 subst hrs
 refine⟨⟨fn,hf,te,by rw[hb];rfl⟩,fun w F vs hF hsz v7=>?_⟩
 have hr:HR w.heap.size ⟨[],[],0⟩ ⟨fun _=>0,fun _=>default,F⟩ w:=⟨fun k ds h=>by simp at h,fun _ _ _ _ h=>by simp at h,fun _ _ _ h=>by simp at h,fun _ _ _ _ _ h=>by simp at h,bI _,hF⟩
 refine (callsIn_wide (n:=0)).1 (callsIn_of_wp_marks (F:=FWd none) hf hb trivial (wpIn_mono (h ⟨w.heap.size,w,F,fn.ntmps,⟨[],[],0⟩,⟨fun _=>0,fun _=>default,F⟩,[]⟩ rfl rfl rfl (bI _) _ _ (F9 hr (fun _ _ h=>h) hN hsz v7)) ?_))
 intro ex a w' he
 refine he.leaves rfl ?_
 rintro x2 tm cf D w2 h1 h2 h3 h4 h5 h6 ⟨g',qw,iK,IX,DD,hB,hF',hM⟩ ⟨d,JE,har⟩ rfl hD uI
 have uI:w.heap.size≤D:=uI
 rw[h1] at qw hB hF'
 rw[h2] at hB
 rw[h3] at hF'
 have JF:=qw.putO (o':=.deferred none) hD rfl rfl
 obtain⟨v,cp,mQ⟩:=ug (x:=⟨w.heap.size,w,F,fn.ntmps,⟨[],[],0⟩,⟨fun _=>0,fun _=>default,F⟩,[]⟩) (g:=g') tok rfl JE JF (fun t d ht=>(iK t d ht).putO hD rfl rfl)
 refine⟨v,cp,v,rfl,(har _ g' _ v JF mQ).less fun p hp=>⟨hF' p (hF p hp) hp,fun k ds hk he=>?_⟩,t8 hB uI⟩
 have h7:=(JF.var k ds hk).2.1
 have h8:=hF p hp
 dsimp only at h7
 omega
section
theorem bX.up1 {vs:List (Nat×List D)}{lv:List (Nat×Nat×Nat×TypeId)}{N:Nat}{g:Gh}{w:World}:bX ⟨vs,lv,N⟩ g w ⟨vs,lv,N+1⟩ g w:=
 ⟨bI _,fun _ _ _=>rfl,fun _ _ h=>h,gM N,fun _ _=>rfl,fun _ _ m _ h=>⟨m,h,bI _,fun _=>rfl⟩,fun _ _ h=>⟨rfl,fun _ _ h=>h,h⟩,fun _=>.same fun _=>rfl⟩
theorem HR.up1 {vs:List (Nat×List D)}{lv:List (Nat×Nat×Nat×TypeId)}{N B:Nat}{g:Gh}{w:World}(hr:HR B ⟨vs,lv,N⟩ g w):HR B ⟨vs,lv,N+1⟩ g w:=by
 refine⟨fun k ds h=>?_,hr.inj,fun id n e h=>?_,hr.tinj,hr.base,hr.fits⟩
 ·obtain⟨a,b,c,cs,ty,d,e,f⟩:=hr.var k ds h
  exact⟨uB a,b,c,cs,ty,d,e,fun j u hu=>⟨(f j u hu).1,fun d hd=>((f j u hu).2 d hd).mono bX.up1⟩⟩
 ·obtain⟨a,b⟩:=hr.tok id n e h
  exact⟨uB a,b⟩
theorem HC.gwOw {P:Program}{f:FuncId}{ds:List D}{hp hp':Hp}{k z n:Nat}(h:HC P f ds hp (.gw k z n) hp'):HC P f ds hp (.ow k 0 z n) hp':=by
 refine⟨h.1,fun B g w vs hr hsz dK=>(h.2 B g w vs hr hsz dK).mono ?_⟩
 rintro e w' ⟨v,g',rfl,h1,h2,h3,h4,h5⟩
 refine⟨v,g',rfl,h1,h2,?_,h4,h5⟩
 cases h3 with
 |gw _ _ _ c hk pf oh hs=>exact .ow k 0 z n c hk pf oh
section
variable {vs:List (Nat×List D)} {lv:List (Nat×Nat×Nat×TypeId)} {N:Nat}
theorem Pf {V:List Nu}(hl:V.length≤1000000):HC prog 97 [.e (slE bo V)] ⟨vs,lv,N⟩ (ix N V.length) ⟨if V.length=0 then vs else (N,dC ((cW bo).f V))::vs,lv,N+1⟩:=by
 by_cases h0:V.length=0
 ·obtain rfl:V=[]:=kL h0
  refine⟨(eo 0 [] (by decide)).1,fun B g w us hr hsz dK=>(Ac (hp:=⟨vs,lv,N⟩) (ds:=[.e (slE bo [])]) (eo 0 [] (by decide)) ⟨AR.dn rfl,trivial⟩ hr hsz dK).mono ?_⟩
  rintro e w' ⟨v,rfl,⟨_,_,hE⟩,hb⟩
  have hE2:dE w' g.F (.sl 36 0 []) v:=by
   cases hE with
   |sl _ _ _ A c cs hl hz pf oh hA h1 h2=>exact .sl _ _ _ A c cs hl hz pf oh hA (fun ad ha i e hi=>by simp at hi) (fun i e hi=>by simp at hi)
  exact⟨v,g,rfl,(hr.keep hb.size hb.block).up1,(bX.keep _ g hb.size hb.block).trans bX.up1,.e _ _ hE2,hb.mono hr.base,fun _ _ h=>h⟩
 ·have h:=HC.adopt (hp:=⟨vs,lv,N⟩) (ds:=[.e (slE bo V)]) (eo V.length (V.flatMap bo.f) hl) ⟨AR.dn rfl,trivial⟩ (by omega) (lit_Nu V)
  have h2:=h.gwOw
  rw[show ix N V.length=.ow N 0 36 V.length from aV h0,aV h0]
  exact h2
end
def xx:Cd Pv:=⟨38,fun p=>[.lit (.int .i64 p.col)]++bo.f p.by'++[.lit (.bool p.mov)],fun p=>by simp[bo.h p.by'];rfl⟩
theorem pvD_c(p:Pv):D.ag (pvD p)=dG xx p:=by
 show D.ag (pvD p)=D.ag (([E.lit (.int .i64 p.col)]++bo.f p.by'++[E.lit (.bool p.mov)]).map .e)
 rw[nd,nd]
 rfl
def redE(R C:Nat):Option (List Nu×List Pv)→List D
 |some (U,acc)=>[.ag [dI .i64 R,dI .i64 C,.e (slE bo U),.e (slE xx acc)],dI .i64 0]
 |none=>[.ag [dI .i64 0,dI .i64 0,.e (slE bo []),.e (slE xx [])],dI .i64 30]
def PvO(acc:List Pv)(d:D)(hp:Hp):Prop:=(acc=[]∧d=dN)∨∃tk,tk<hp.next∧d=dO tk xx acc∧hp.live.lookup tk=some (acc.length,38,102)
def redJ(kM k4 R C:Nat)(acc:List Pv)(hp:Hp):Prop:=6≤hp.next∧hp.vars.lookup 1=some [dI .i64 0,dI .i64 0,dN,dN]∧hp.vars.lookup 2=some [dI .i64 0]∧∃d,hp.vars.lookup k4=some (mu kM R C++[d])∧PvO acc d hp
def redS(hp:Hp):Prop:=6≤hp.next∧hp.vars.lookup 1=some [dI .i64 0,dI .i64 0,dN,dN]∧hp.vars.lookup 2=some [dI .i64 30]
section
variable {kM R C:Nat}
theorem red_m {d:D}:Pt (mu kM R C++[d]) (0+0) (mu kM R C) (fun ys=>ys++[d]):=Pt.of [] [d] rfl rfl fun y=>rfl
theorem red_D {d:D}:Pt (mu kM R C++[d]) (0+0+2) [ix kM (R*C)] (fun ys=>[dI .i64 R,dI .i64 C]++ys++[d]):=Pt.of [dI .i64 R,dI .i64 C] [d] rfl rfl fun y=>rfl
theorem red_l {d:D}:Pt (mu kM R C++[d]) (0+3) [d] (fun ys=>mu kM R C++ys):=Pt.of (mu kM R C) [] rfl (by simp) fun y=>by simp
theorem Of {d:D}:Pt [dI .i64 R,dI .i64 C,d] (0+0) [dI .i64 R] (fun ys=>ys++[dI .i64 C,d]):=Pt.of [] _ rfl rfl fun y=>rfl
theorem Oh {d:D}:Pt [dI .i64 R,dI .i64 C,d] (0+1) [dI .i64 C] (fun ys=>[dI .i64 R]++ys++[d]):=Pt.of [dI .i64 R] [d] rfl rfl fun y=>rfl
theorem Og {d:D}:Pt [dI .i64 R,dI .i64 C,d] (0+2) [d] (fun ys=>[dI .i64 R,dI .i64 C]++ys++[]):=Pt.of [dI .i64 R,dI .i64 C] [] rfl rfl fun y=>rfl
end
end
section
def restC:Code:=match (f63).body with
 |some (.seq _ (.seq _ c))=>c
 |_=>.skip
theorem RS.wk {x:Cx}{tm tm':List (Nat×D)}{hp hp':Hp}{a:Act}{w:World}(hr:RS x tm hp a w)(hw:Wk x tm hp tm' hp'):RS x tm' hp' a w:=hw a w hr
theorem redJ_up {kM k4 R C:Nat}{acc:List Pv}{vs oy:List (Nat×List D)}{lv:List (Nat×Nat×Nat×TypeId)}{N N':Nat}(hM:kM=3∨kM=4)(h4:k4=3∨k4=4)(px:k4≠kM)(h:redJ kM k4 R C acc ⟨vs,lv,N⟩)(hN:N≤N')(hv:∀j ds,j≠kM→j<6→vs.lookup j=some ds→oy.lookup j=some ds):redJ kM k4 R C acc ⟨oy,lv,N'⟩:=by
 obtain⟨h0,h1,h2,d,h3,h5⟩:=h
 refine⟨da h0 hN,hv _ _ (by omega) (by omega) h1,hv _ _ (by omega) (by omega) h2,d,hv _ _ px (by omega) h3,?_⟩
 rcases h5 with h5|⟨tk,a,b,c⟩
 ·exact .inl h5
 ·exact .inr ⟨tk,cm a hN,b,c⟩
theorem n5 {R C:Nat}:∀{n k r:Nat} {V:List Nu} {acc:List Pv} {W:List Nu} {l:List Pv},V.length=R*C→oB R C n k r V acc=some (W,l)→W.length=R*C
 |0,_,_,_,_,_,_,hV,h=>by
  unfold oB at h
  injection h with h
  injection h with h1 h2
  rw[←h1];exact hV
 |n+1,k,r,V,acc,W,l,hV,h=>by
  unfold oB at h
  split at h
  ·split at h
   ·exact n5 hV h
   ·split at h
    ·exact n5 (by rw[Et];exact hV) h
    ·cases h
  ·injection h with h
   injection h with h1 h2
   rw[←h1];exact hV
section
variable {R C kM k4:Nat} {V:List Nu} {x:Cx} {vs:List (Nat×List D)}
theorem Az(hM:kM=3∨kM=4)(h4:k4=3∨k4=4)(px:k4≠kM)(hN:x.N=(f63).ntmps)(h0:x.hp0=⟨[],[],0⟩)(sS:x.df=[])(hB:x.B≤x.w0.heap.size)(hok:fW ⟨vs,[],5⟩)
  (hV:V.length=R*C) (M8:R*C≤1000000) (hR:R≤1000000) (hC:C≤1000000)
  (EI:vs.lookup 1=some [dI .i64 0,dI .i64 0,dN,dN]) (A7:vs.lookup 2=some [dI .i64 0]) (hl4:vs.lookup k4=some (mu kM R C++[dN])) (hlM:0<R→0<C→vs.lookup kM=some (dC ((cW bo).f V)))
  (yw:∀k ds,vs.lookup k=some ds→ds.all D.noO=true):
  AV prog none x restC [(2,.pt 1 0),(3,.pt 2 0),(4,.pt k4 0)] ⟨vs,[],5⟩ (MY x fun _ tm cf=>∃d,xI tbl [.cell 2 97,.cell 3 26] tm cf d∧AR cf d (.tu (redE R C (oB R C C 0 0 V [])))):=by
 have hkM6:kM<5:=by omega
 have hk46:k4<5:=by omega
 refine AV.seq ?_
 refine vrs hN fun K hK=>?_
 refine sa ?_
 refine p1 red_m rfl ?_
 refine q1s (d:=.fn 137 [5]) (hp':=⟨(5,mu kM R C)::vs,[],6⟩) (Mf rfl (h_steps (kM:=kM) (R:=R) (C:=C) hkM6) rfl) ?_
 refine .nil (hK _ _ (AV.block ?_))
 have hl5:∀j ds,vs.lookup j=some ds→((5,mu kM R C)::vs).lookup j=some ds:=fun j ds h=>ar (hok.ne h (bI _)) h
 refine AV.range (f:=137) (ks:=[5]) rfl ⟨_,func137,rfl,rfl⟩ hB
  (Oq (kM:=kM) (k0:=5) (k4:=k4) (E:=6) (R:=R) (C:=C) (V0:=V) (J:=redJ kM k4 R C) (S:=redS) (by omega) (by omega) (by omega) px (by omega) (by omega) hV M8 hR hC (fun h1 h2=>hl5 _ _ (hlM h1 h2)) ak (fun k ds h=>?_) (by rw[hN];exact dM rfl) ?_ ?_ ?_) ?_ ?_
 ·rcases eG h with⟨rfl,rfl⟩|⟨_,h⟩
  ·unfold mu ix;split <;> rfl
  ·exact yw k ds h
 ·exact⟨bI _,hl5 _ _ EI,hl5 _ _ A7,dN,hl5 _ _ hl4,.inl ⟨rfl,rfl⟩⟩
 ·exact fun acc vs oy lv N N' h hN _ hv=>redJ_up hM h4 px h hN hv
 ·rintro V' acc pv ⟨v1',lv,N⟩ I1 wy hV' hokp OA ⟨hN6,O0,GW,d,hj4,hpo⟩ l y hy _ hy0
  dsimp only at hN6 O0 GW hj4 OA
  have hk4N:k4<N:=by omega
  have hmD:ix kM (R*C)=.ow kM 0 36 (R*C):=aV (Nat.ne_of_gt (sr I1 (by omega)))
  refine vrr (hy.trans hN) (fun K hK=>?_)
  refine a1 jS (hz:=rfl) ?_
  refine v1 (k:=N) (ys:=pvD pv) (F2:=pvD pv) Pt.all (by exact rfl) (by exact Bp pv) rfl ?_ rfl ak rfl (ht:=jS)
  have hokN:fW ⟨(N,pvD pv)::v1',lv,N+1⟩:=(hokp.up (M:=N+1) (gM _)).consM (eR _) (by unfold pvD;rw[yI,yI,pM];rfl)
  refine .nil (hK _ _ fun a w hr=>⟨rfl,[(2,.pt 1 0),(3,.pt 2 0),(4,.pt k4 0),(5,.pt N 0)],⟨(N,pvD pv)::v1',lv,N+1⟩,RS.wk hr (wk1 hy0 (hok:=hokN) (hv:=fun j ds h=>by
   rcases eG h with⟨rfl,rfl⟩|⟨hj,h⟩
   ·exact ak
   ·exact ar hj (ar hj h))),fun y2 B6 _ h0y=>?_⟩)
  have B6:=B6.trans hN
  refine AV.block ?_
  refine AV.seq ?_
  refine vrrs B6 fun K hK=>?_
  iterate 2 refine sa ?_
  refine c1 red_D ?_ (hv:=ar (by omega) hj4)
  have hgd:=HC.frz (hp:=⟨(N,pvD pv)::v1',lv,N+1⟩) (ds:=[ix kM (R*C)]) (w_mgood (l:=V') (by rw[hV'];exact M8)) ⟨by rw[hmD];exact AR.list (ar (by omega) OA) hV',trivial⟩ rfl
  refine q1s (Mf rfl hgd rfl) ?_
  refine sa ?_
  refine .nil (hK _ _ (AV.cond rfl (fun hb=>?_) (fun hb=>?_)))
  ·have hbad:V'.all cM=false:=by simpa using hb
   refine vrrs B6 fun K hK=>?_
   refine s1 (d:=.ag [dI .i64 0,dI .i64 0,dN,dN]) (bE (ps:=[]) ly) ?_
   refine v1 (k:=1) (F:=[dI .i64 0,dI .i64 0,dN,dN]) (ys:=[dI .i64 0,dI .i64 0,dN,dN]) Pt.all (by exact rfl) (by exact rfl) rfl ?_ rfl (ar (by omega) O0) rfl (ht:=ly)
   refine v1 (k:=2) (F:=[dI .i64 0]) (ys:=[dI .i64 30]) (Pt.one _) rfl rfl rfl ?_ rfl (ar (by omega) (ar (by omega) GW)) rfl
   refine .nil (hK _ _ (AV.ret fun a w hr=>⟨_,_,hr,hbad,by show 6≤N+1;omega,ar (by omega) ak,ak⟩))
  ·have hgood:V'.all cM=true:=by simpa using hb
   have key:∃uE DA N2 tk,(∀tm,Wk y2 tm ⟨(N,pvD pv)::v1',lv,N+1⟩ tm ⟨uE,DA,N2⟩)∧fW ⟨uE,DA,N2⟩∧N+1≤N2∧tk<N2∧uE.lookup k4=some (mu kM R C++[dO tk xx acc])∧DA.lookup tk=some (acc.length,38,102)∧∀j ds,j≠k4→((N,pvD pv)::v1').lookup j=some ds→uE.lookup j=some ds:=by
    rcases hpo with⟨rfl,rfl⟩|⟨tk,M3,rfl,OX⟩
    ·refine⟨_,_,_,N+1,fun tm=>Wk.nilOwn k4 3 102 38 (hk:=ar (by omega) hj4) (hj:=rfl) (hd:=rfl),?_,gM _,eR _,ak,ak,fun j ds hj h=>ar hj h⟩
     have h1:=hokN.up (M:=N+1+1) (gM _)
     refine⟨fun j es hj=>?_,fun id e hi=>?_⟩
     ·rcases eG hj with⟨e1,rfl⟩|⟨_,hj⟩
      ·refine⟨by rw[e1];show k4<N+1+1;omega,?_⟩
       unfold mu ix
       split <;> simp[D.idsC,dI] <;> omega
      ·exact h1.var j es hj
     ·by_cases e1:id=N+1
      ·rw[e1];show N+1<N+1+1;omega
      ·exact h1.tok id e (by rw[←hi];exact (aC e1).symm)
    ·exact⟨_,_,_,tk,fun tm=>Wk.refl _ _ _,hokN,bI _,uB M3,ar (by omega) hj4,OX,fun j ds hj h=>h⟩
   obtain⟨uE,DA,N2,tk,hw,zX,hN2,M3,hd4,OX,hkp⟩:=key
   refine AV.skip fun a w hr=>?_
   show Code.wpIn (FWd (some l)) 0 prog _ _ a w
   refine (AV.weak (hw _) ?_:AV prog (some l) y2 _ _ ⟨(N,pvD pv)::v1',lv,N+1⟩ _) a w hr
   refine vrr B6 (fun K hK=>?_)
   refine sa ?_
   refine c1 red_l ?_ (hv:=hd4)
   refine p1 (Pt.all (F:=pvD pv)) (Bp pv) ?_ (hv:=hkp _ _ (by omega) ak)
   rw[pvD_c]
   refine s1 (d:=dO N2 xx [pv]) (hp':=⟨uE,(N2,1,38,102)::DA,N2+1⟩) (qI ([pv]:List Pv) xx um jS) ?_
   have hal:(acc++[pv]).length≤1000000:=by rw[fg];show acc.length+1≤1000000;omega
   refine s1 (d:=dO tk xx (acc++[pv])) (hp':=⟨uE,(tk,(acc++[pv]).length,38,102)::(N2,1,38,102)::DA,N2+1⟩) (gc (l:=acc) (l':=[pv]) (c:=xx) (id:=tk) um jS (da (c6 _ hal) (by decide)) (hl:=(aC (by omega)).trans OX)) ?_
   refine sa ?_
   refine v1 (k:=k4) (F:=mu kM R C++[dO tk xx acc]) (ys:=[dO tk xx (acc++[pv])]) (F2:=mu kM R C++[dO tk xx (acc++[pv])]) red_l rfl rfl rfl ?_ rfl hd4 rfl
   refine .nil (hK _ _ fun a w hr=>⟨_,_,hr,hgood,⟨?_,?_,?_⟩,?_⟩)
   ·have h1:=(zX.up (M:=N2+1) (gM _)).consM (k:=k4) (ds:=mu kM R C++[dO tk xx (acc++[pv])]) (by omega) (by unfold mu ix;split <;> simp[D.idsC,dI,dO] <;> omega)
    refine⟨fun j es hj=>h1.var j es hj,fun id e hi=>?_⟩
    by_cases e1:id=tk
    ·rw[e1];show tk<N2+1;omega
    ·by_cases e2:id=N2
     ·rw[e2];show N2<N2+1;omega
     ·exact h1.tok id e (by rw[←hi];exact ((aC e1).trans (aC e2)).symm)
   ·show N≤N2+1;omega
   ·intro j ds hj h
    have hj4':j≠k4:=by simpa using hj
    exact ar hj4' (hkp j ds hj4' (ar (hokp.ne h (bI _)) h))
   ·refine⟨by show 6≤N2+1;omega,ar (by omega) (hkp _ _ (by omega) (ar (by omega) O0)),ar (by omega) (hkp _ _ (by omega) (ar (by omega) GW)),_,ak,.inr ⟨tk,by show tk<N2+1;omega,rfl,ak⟩⟩
 ·rintro x' Db ⟨v1',lv,N⟩ a w hbh hrs ⟨V',acc,qQ,hok',hM',hN6,O0,GW,d,hj4,hpo⟩
  dsimp only at hN6 O0 GW hj4 hM'
  have hlen:V'.length=R*C:=n5 hV qQ
  show Code.wpIn (FWd none) 0 prog _ _ a w
  refine (vrs (x:=x') (hbh.N.trans hN) fun K hK=>?_) a w hrs
  refine p1 (Pt.all (F:=mu kM R C++[d])) (by exact rfl) ?_ (hv:=hj4) (ht:=ly)
  refine v1 (k:=1) (F:=[dI .i64 0,dI .i64 0,dN,dN]) (ys:=mu kM R C++[d]) Pt.all (by exact rfl) (by exact rfl) rfl ?_ rfl O0 rfl (ht:=ly)
  refine v1 (k:=2) (F:=[dI .i64 0]) (ys:=[dI .i64 0]) (Pt.one _) rfl rfl rfl ?_ rfl (ar (by omega) GW) rfl
  refine .nil (hK _ _ (AV.ret fun a w hr=>⟨.inr rfl,x',Db,_,_,_,_,hbh,hr,_,resV ly rfl (ar (by omega) ak) (by show 1<N;omega) rfl rfl (ND rfl Hs rfl ak (by show 2<N;omega) rfl rfl),?_⟩))
  rw[qQ]
  refine AR.tu ⟨AR.ag ⟨AR.dn rfl,AR.dn rfl,?_,?_,trivial⟩,AR.dn rfl,trivial⟩
  ·show AR _ (ix kM (R*C)) (.e (slE bo V'))
   unfold ix
   by_cases h0:R*C=0
   ·rw[aQ h0]
    have:V'=[]:=kL (by omega)
    subst this
    exact AR.dn rfl
   ·rw[aV h0]
    have hRp:0<R:=yH fun e=>h0 (by rw[e,gb])
    have hCp:0<C:=yH fun e=>h0 (by rw[e,LI])
    exact AR.list (ar (by omega) (ar (by omega) (hM' hRp hCp))) hlen
  ·rcases hpo with⟨rfl,rfl⟩|⟨tk,_,rfl,_⟩
   ·exact AR.le (Jt (ltb rfl)) rfl
   ·exact AR.own
 ·rintro x' Db ⟨v1',lv,N⟩ a w hbh hrs ⟨qQ,hN6,O0,GW⟩
  dsimp only at hN6 O0 GW
  show MY x (fun _ tm cf=>∃d,xI tbl [.cell 2 97,.cell 3 26] tm cf d∧AR cf d (.tu (redE R C (oB R C C 0 0 V [])))) .ret a w
  refine⟨.inr rfl,x',Db,_,_,_,_,hbh,hrs,_,resV ly rfl O0 (by show 1<N;omega) rfl rfl (ND rfl Hs rfl GW (by show 2<N;omega) rfl rfl),?_⟩
  rw[qQ]
  exact AR.tu ⟨AR.ag ⟨AR.dn rfl,AR.dn rfl,AR.le (Jt (ltb rfl)) rfl,AR.le (Jt (ltb rfl)) rfl,trivial⟩,AR.dn rfl,trivial⟩
end
end
section
theorem Wk.tms {x:Cx}{tm tm':List (Nat×D)}{hp:Hp}(hs:∀p∈tm',tm.lookup p.1=some p.2):Wk x tm hp tm' hp:=by
 rintro a w ⟨g,hh,iK,h1⟩
 exact⟨g,hh,fun t d h=>iK t d (hs _ (xl h)),h1⟩
def CA(V:List Nu)(N:Nat)(vs:List (Nat×List D)):List (Nat×List D):=if V.length=0 then vs else (N,dC ((cW bo).f V))::vs
section
variable {md:Md} {ops:Array Oper} {K:List (Nat×D)→Hp→Prop} {os:List Oper} {tm:List (Nat×D)} {hp hp':Hp} {t s:Tmp} {ty:TypeId} {pos:String} {af:Array Edge} {vs:List (Nat×List D)} {lv:List (Nat×Nat×Nat×TypeId)} {N n R C:Nat} {V:List Nu}
theorem qY {j:Nat}(h:j≠N):(CA V N vs).lookup j=vs.lookup j:=by
 unfold CA
 split
 ·rfl
 ·exact aC h
theorem Lw(hok:fW ⟨vs,lv,N⟩):fW ⟨CA V N vs,lv,N+1⟩:=by
 unfold CA
 split
 ·exact hok.up (gM N)
 ·exact (hok.up (gM N)).consM (eR N) (pM _)
theorem Lx(yw:∀k ds,vs.lookup k=some ds→ds.all D.noO=true):∀k ds,(CA V N vs).lookup k=some ds→ds.all D.noO=true:=by
 intro k ds h
 unfold CA at h
 split at h
 ·exact yw k ds h
 ·rcases eG h with⟨rfl,rfl⟩|⟨_,h⟩
  ·rw[eS]
   intro d hd
   obtain⟨e,_,rfl⟩:=sn.1 hd
   rfl
  ·exact yw k ds h
theorem NC {x:Operand}{ts:Array TypeId}(hl:V.length≤1000000)(hn:V.length=n)(h2:bT prog tbl md ops K os ((t,ix N n)::tm) ⟨CA V N vs,lv,N+1⟩)(hx:evD tm x=.e (slE bo V):=by exact rfl)(pf:md.nc tbl (.call ⟨.value (.func 97),[x].toArray,ts⟩)=true:=by exact rfl):
  bT prog tbl md ops K (⟨some t,.call ⟨.value (.func 97),[x].toArray,ts⟩,ty,pos,af,none⟩::os) tm ⟨vs,lv,N⟩:=by
 subst hn
 refine Hu rfl (sHC (Pf (vs:=vs) (lv:=lv) (N:=N) hl) (by show [evD tm x]=_;rw[hx]) (.inr ⟨gM _,fun j hj=>?_⟩) rfl pf) h2
 exact qY (V:=V) (Nat.ne_of_lt hj)
end
section
variable {R C:Nat} {V:List Nu}
theorem Nk(hV:V.length=R*C)(M8:R*C≤1000000)(hR:R≤1000000)(hC:C≤1000000):aB prog 63 [.ag [dI .i64 R,dI .i64 C,.e (slE bo V)]] (.tu (redE R C (oB R C C 0 0 V []))):=by
 refine aB.ofMA tok func63 rfl rfl (dM rfl) rfl (fun x hN h0 sS hB=>?_)
 simp only[eC,Nat.reduceAdd,dA]
 obtain⟨V0,FV⟩:∃V0:List (Nat×List D),V0=[(2,[dI .i64 0]),(1,[dI .i64 0,dI .i64 0,dN,dN]),(0,[dI .i64 R,dI .i64 C,.e (slE bo V)])]:=⟨_,rfl⟩
 refine vrs hN fun K hK=>?_
 refine s1 (d:=.pt 0 0) (hp':=⟨[(0,[dI .i64 R,dI .i64 C,.e (slE bo V)])],[],1⟩) d8 ?_
 refine a1 ly (hz:=rfl) ?_
 refine a1 Hs (hz:=rfl) ?_
 refine .nil (hK _ _ ?_)
 have hok0:fW ⟨V0,[],3⟩:=by
  rw[FV]
  exact (((fW.nil.up (M:=3) (fH _)).consM (by decide) rfl).consM (by decide) rfl).consM (by decide) rfl
 have hno0:∀k ds,V0.lookup k=some ds→ds.all D.noO=true:=by
  intro k ds h
  rw[FV] at h
  rcases eG h with⟨_,rfl⟩|⟨_,h⟩
  ·rfl
  ·rcases eG h with⟨_,rfl⟩|⟨_,h⟩
   ·rfl
   ·rcases eG h with⟨_,rfl⟩|⟨_,h⟩
    ·rfl
    ·cases h
 have l1:V0.lookup 1=some [dI .i64 0,dI .i64 0,dN,dN]:=by rw[FV];rfl
 have l2:V0.lookup 2=some [dI .i64 0]:=by rw[FV];rfl
 have l0:V0.lookup 0=some [dI .i64 R,dI .i64 C,.e (slE bo V)]:=by rw[FV];rfl
 have hVl:V.length≤1000000:=by omega
 have HJ:∀{kM M:Nat},kM<M→(mu kM R C++[dN]).all (D.idsC M)=true:=fun {kM M} h=>by
  unfold mu ix;split <;> simp[D.idsC,dI] <;> omega
 have K6:∀{kM:Nat},(mu kM R C++[dN]).all D.noO=true:=fun {kM}=>by
  unfold mu ix;split <;> rfl
 have hMl:∀N,0<R→0<C→(CA V N V0).lookup N=some (dC ((cW bo).f V)):=fun N h1 h2=>by
  have:0<R*C:=sr h1 h2
  unfold CA
  rw[ifn_]
  exact ak
 have hcM:∀k,(ix k (R*C)).cells=some [ix k (R*C)]:=fun k=>by unfold ix;split <;> rfl
 have hpt:∀k,kX [(0,dI .i64 R),(1,dI .i64 C),(2,ix k (R*C))]=some [(0,[dI .i64 R]),(1,[dI .i64 C]),(2,[ix k (R*C)])]:=fun k=>by
  simp only[kX,hcM]
  rfl
 show AV prog none x _ [(3,.pt 2 0),(2,.pt 1 0),(1,.pt 0 0),(0,.ag [dI .i64 R,dI .i64 C,.e (slE bo V)])] ⟨[(2,[dI .i64 0]),(1,[dI .i64 0,dI .i64 0,dN,dN]),(0,[dI .i64 R,dI .i64 C,.e (slE bo V)])],[],3⟩ _
 rw[←FV]
 refine AV.seqA (dw (DW.split 6 9 (by decide) ?_ ?_))
 ·refine dwg [] [0,1,2,3,4,5,6,7,8,9,10] hN (by kernel_rfl) (by kernel_rfl) (by kernel_rfl) fun K hK=>?_
  dsimp only[eJ,nE,nS,List.map]
  refine sa ?_
  refine c1 Of ?_ (hv:=l0)
  refine sa ?_
  refine c1 Oh ?_ (hv:=l0)
  refine sa ?_
  refine c1 Og ?_ (hv:=l0)
  refine NC hVl hV ?_
  refine s1 (d:=.ag [dI .i64 R,dI .i64 C,ix 3 (R*C)]) (bE (qs:=[(0,[dI .i64 R]),(1,[dI .i64 C]),(2,[ix 3 (R*C)])]) aq (hp1:=hpt 3)) ?_
  refine s1 (d:=.ag [dI .i64 R,dI .i64 C,ix 3 (R*C),dN]) (bE ly) ?_
  refine a1 ly (hz:=rfl) ?_
  refine v1 (k:=4) (F:=[dI .i64 0,dI .i64 0,dN,dN]) (ys:=mu 3 R C++[dN]) Pt.all (by exact rfl) (by exact rfl) rfl ?_ rfl ak rfl (ht:=ly)
  refine .nil (hK _ _ ?_)
  have h1:=(Lw (V:=V) hok0).up (M:=5) (by decide)
  refine AV.weak (Wk.tms ?_) (Az (kM:=3) (k4:=4) (.inl rfl) (.inr rfl) (by decide) hN h0 sS hB ((h1.consM (k:=4) (ds:=[dI .i64 0,dI .i64 0,dN,dN]) (by decide) rfl).consM (k:=4) (by decide) (HJ (by decide))) hV M8 hR hC (ar (by decide) (ar (by decide) ((qY (by decide)).trans l1))) (ar (by decide) (ar (by decide) ((qY (by decide)).trans l2))) ak (fun a b=>ar (by decide) (ar (by decide) (hMl 3 a b))) (fun k ds h=>?_))
  ·intro p hp
   simp only[nb,EW,or_false] at hp
   rcases hp with rfl|rfl|rfl <;> rfl
  ·rcases eG h with⟨_,rfl⟩|⟨_,h⟩
   ·exact K6
   ·rcases eG h with⟨_,rfl⟩|⟨_,h⟩
    ·rfl
    ·exact Lx hno0 k ds h
 ·refine dwg [] [0,1,2,3,4,5,9,6,7,8,10] hN (by kernel_rfl) (by kernel_rfl) (by kernel_rfl) fun K hK=>?_
  dsimp only[eJ,nE,nS,List.map]
  refine sa ?_
  refine c1 Of ?_ (hv:=l0)
  refine sa ?_
  refine c1 Oh ?_ (hv:=l0)
  refine sa ?_
  refine c1 Og ?_ (hv:=l0)
  refine a1 ly (hz:=rfl) ?_
  refine NC hVl hV ?_
  refine s1 (d:=.ag [dI .i64 R,dI .i64 C,ix 4 (R*C)]) (bE (qs:=[(0,[dI .i64 R]),(1,[dI .i64 C]),(2,[ix 4 (R*C)])]) aq (hp1:=hpt 4)) ?_
  refine s1 (d:=.ag [dI .i64 R,dI .i64 C,ix 4 (R*C),dN]) (bE ly) ?_
  have l3:(CA V 4 ((3,[dI .i64 0,dI .i64 0,dN,dN])::V0)).lookup 3=some [dI .i64 0,dI .i64 0,dN,dN]:=(qY (by decide)).trans ak
  refine v1 (k:=3) (F:=[dI .i64 0,dI .i64 0,dN,dN]) (ys:=mu 4 R C++[dN]) Pt.all (by exact rfl) (by exact rfl) rfl ?_ rfl l3 rfl (ht:=ly)
  refine .nil (hK _ _ ?_)
  have h1:=Lw (V:=V) ((hok0.up (M:=4) (by decide)).consM (k:=3) (ds:=[dI .i64 0,dI .i64 0,dN,dN]) (by decide) rfl)
  refine AV.weak (Wk.tms ?_) (Az (kM:=4) (k4:=3) (.inr rfl) (.inl rfl) (by decide) hN h0 sS hB (h1.consM (k:=3) (by decide) (HJ (by decide))) hV M8 hR hC (ar (by decide) ((qY (by decide)).trans (ar (by decide) l1))) (ar (by decide) ((qY (by decide)).trans (ar (by decide) l2))) ak (fun a b=>ar (by decide) ?_) (fun k ds h=>?_))
  ·intro p hp
   simp only[nb,EW,or_false] at hp
   rcases hp with rfl|rfl|rfl <;> rfl
  ·have:0<R*C:=sr a b
   unfold CA
   rw[ifn_]
   exact ak
  ·rcases eG h with⟨_,rfl⟩|⟨_,h⟩
   ·exact K6
   ·refine Lx (fun k ds h=>?_) k ds h
    rcases eG h with⟨_,rfl⟩|⟨_,h⟩
    ·rfl
    ·exact hno0 k ds h
end
end
section
def pvS(p:Pv):nN:=⟨p.col,nv p.by',p.mov⟩
theorem slE_Pv(l:List Pv):slE xx l=slE cv (l.map pvS):=by
 unfold slE
 rw[bH,Qc]
 rfl
def AA(R C:Int)(o:Option (List Nu×List Pv)):ee×Int:=match o with
 |some (U,acc)=>(⟨⟨R,C,U.map nv⟩,acc.map pvS⟩,0)
 |none=>(⟨⟨0,0,[]⟩,[]⟩,30)
structure MatP(m:ap):Prop where
 r0:0≤m.vR
 c0:0≤m.vC
 r1:m.vR≤1000000
 c1:m.vC≤1000000
 rc:m.vR.toNat*m.vC.toNat≤1000000
 len:m.vV.length=m.vR.toNat*m.vC.toNat
 ok:okL m.vV
open Classical in
def e9(m:ap):Option (ee×Int):=
 if MatP m then some (AA m.vR m.vC (oB m.vR.toNat m.vC.toNat m.vC.toNat 0 0 (m.vV.map uF) [])) else none
theorem nI {cQ:ap}{r:ee×Int}(h:e9 cQ=some r):aB prog 63 [dG aE cQ] (.tu [dG qZ r.1,dI .i64 r.2]):=by
 unfold e9 at h
 split at h
 ·rename_i hp
  obtain rfl:=cP h
  obtain⟨h1,h2,h3,h4,h5,h6,h7⟩:=hp
  have hV:(cQ.vV.map uF).length=cQ.vR.toNat*cQ.vC.toNat:=by rw[bH];exact h6
  have hw:=Nk hV h5 (by omega) (by omega)
  have e1:(.ag [dI .i64 (cQ.vR.toNat:Int),dI .i64 (cQ.vC.toNat:Int),.e (slE bo (cQ.vV.map uF))]:D)=dG aE cQ:=by
   rw[Jb,HK h7,IA h1,IA h2]
   rfl
  rw[e1] at hw
  have e2:∀o:Option (List Nu×List Pv),redE cQ.vR.toNat cQ.vC.toNat o=[dG qZ (AA cQ.vR cQ.vC o).1,dI .i64 (AA cQ.vR cQ.vC o).2]:=by
   intro o
   match o with
   |some (U,acc)=>
    show [D.ag [dI .i64 (cQ.vR.toNat:Int),dI .i64 (cQ.vC.toNat:Int),.e (slE bo U),.e (slE xx acc)],dI .i64 0]=_
    rw[Jb,slE_Pv,IA h1,IA h2]
    rfl
   |none=>rfl
  rw[e2] at hw
  exact hw
 ·cases h
open Classical in
def gT(l:List aj)(n:Int):Option (List aj):=match l with
 |[a]=>if okR a∧0≤n∧n≤1000000 then some (List.replicate n.toNat a) else none
 |_=>none
theorem wt {l r:List aj}{n:Int}(h:gT l n=some r):HC prog 77 [dL ae l,dI .i64 n] ⟨[],[],0⟩ (.ow 1 0 36 r.length) ⟨[(1,dC ((cW ae).f r))],[],1+1⟩:=by
 unfold gT at h
 split at h
 ·rename_i a
  split at h
  ·rename_i hp
   obtain rfl:=cP h
   obtain⟨h1,h2,h3⟩:=hp
   have hw:=Pg (vs:=[]) (lv:=[]) (N:=0) (a:=uF a) (n:=n.toNat) (by omega)
   have e1:slE bo [uF a]=slE ae [a]:=by rw[Jb];show slE ae [nv (uF a)]=_;rw[Br h1]
   have e2:(cW bo).f (List.replicate n.toNat (uF a))=(cW ae).f (List.replicate n.toNat a):=by
    show (List.replicate n.toNat (uF a)).flatMap bo.f=(List.replicate n.toNat a).flatMap ae.f
    rw[show bo.f=fun x=>ae.f (nv x) from rfl]
    rw[←Qc,LG,Br h1]
   rw[e1,e2,IA h2] at hw
   rw[vh]
   exact hw
  ·cases h
 ·cases h
end
section
theorem uAdd(x y:Nu):gz (nv x) (nv y)=some (nv (Jn x y)):=by rw[HH];exact QN x.2 y.2
theorem uMul(x y:Nu):eO (nv x) (nv y)=some (nv (uG x y)):=by rw[BW];exact KM x.2 y.2
theorem uNeg(x:Nu):mF (nv x)=some (nv (N8 x)):=by rw[N7];exact QM x.2
theorem Nr(x:Nu):cu (nv x)=some (cM x):=by rw[v6];exact mj x.2
theorem uSign(x:Nu):mY (nv x)=some (va x):=by rw[Ez];exact QK x.2
theorem uOf {n:Int}(h1:-9223372036854775808≤n:=by omega)(h2:n≤9223372036854775807:=by omega):fk n=some (nv (nOf n)):=G_rOf h1 h2
theorem uBad:f8=some (nv (nuR none)):=vS
theorem tAdd(x y:Nu):gy (nv x) (nv y)=some (nv (Jn x y)):=by rw[HH];exact R_oadd x.2 y.2
theorem tMul(x y:Nu):fZ (nv x) (nv y)=some (nv (uG x y)):=by rw[BW];exact R_omul x.2 y.2
theorem tGood(x:Nu):dp (nv x)=some (cM x):=by rw[v6];exact pY x.2
theorem tOf {n:Int}(h1:-9223372036854775808≤n:=by omega)(h2:n≤9223372036854775807:=by omega):jE n=some (nv (nOf n)):=R_Of h1 h2
theorem tBad:jg=some (nv (nuR none)):=E6
theorem uw {l:List Nu}{i:Nat}(h:i<l.length:=by omega):(l.map nv)[i]! =nv l[i]! :=by
 rw[yG,yG,dZ,fI h];rfl
theorem nv_eq {x y:Nu}:nv x=nv y↔x=y:=⟨fun h=>Subtype.ext h,fun h=>by rw[h]⟩
section
variable {R:Type}
theorem kOr(b x:Bool):cnd b (some true) (some x)=some (b||x):=by cases b <;> rfl
theorem kF(x y:Option R):cnd false x y=y:=rfl
theorem kT(x y:Option R):cnd true x y=x:=rfl
theorem w64 {n:Int}(h1:-9223372036854775808≤n:=by omega)(h2:n≤9223372036854775807:=by omega):i64.wrap n=n:=LZ ⟨h1,h2⟩
theorem Jq {n:Nat}(hn:n≤1000000)(ok:Nat→Bool){b:Int→Option (Int⊕(Bool⊕Unit))}(h:∀i:Nat,i<n→b i=cnd (!ok i) (some (.inr (.inl false))) (some (.inl (i64.wrap ((i:Int)+(1:Int))))))(he:b n=some (.inr (.inr ()))):
  bf b (0:Int)=some (if (List.range n).all ok then .inr () else .inl false):=by
 have key:∀m i:Nat,i+m=n→bf b (i:Int)=some (if (List.range' i m).all ok then .inr () else .inl false):=by
  intro m
  induction m with
  |zero=>
       intro i hi;obtain rfl:i=n:=by omega
       exact eF he
  |succ m ih=>
   intro i hi
   have hb:=h i (by omega)
   rw[yF,cF]
   cases hk:ok i with
   |false=>
    rw[hk] at hb
    rw[eF (by rw[hb];rfl)];rfl
   |true=>
    rw[hk,w64] at hb
    rw[lS (by rw[hb];rfl)]
    exact ih (i+1) (by omega)
 rw[show ((0:Int))=((0:Nat):Int) from rfl,key n 0 (by omega),EV]
theorem Bt {n:Nat}(hn:n≤1000000)(ok:Nat→Bool){b:Int→Option (Int⊕(Int⊕Unit))}(h:∀i:Nat,i<n→b i=cnd (ok i) (some (.inr (.inl (i:Int)))) (some (.inl (i64.wrap ((i:Int)+(1:Int))))))(he:b n=some (.inr (.inr ()))):
  (bf b (0:Int)=some (.inr ())∧(List.range n).any ok=false)∨∃j:Nat,bf b (0:Int)=some (.inl (j:Int))∧(List.range n).any ok=true:=by
 have key:∀m i:Nat,i+m=n→(bf b (i:Int)=some (.inr ())∧(List.range' i m).any ok=false)∨∃j:Nat,bf b (i:Int)=some (.inl (j:Int))∧(List.range' i m).any ok=true:=by
  intro m
  induction m with
  |zero=>
       intro i hi;obtain rfl:i=n:=by omega
       exact .inl ⟨eF he,rfl⟩
  |succ m ih=>
   intro i hi
   have hb:=h i (by omega)
   rw[yF,List.any_cons]
   cases hk:ok i with
   |true=>
    rw[hk] at hb
    exact .inr ⟨i,eF (by rw[hb];rfl),rfl⟩
   |false=>
    rw[hk,w64] at hb
    rw[lS (show b (i:Int)=some (.inl (((i+1:Nat):Int))) by rw[hb];rfl)]
    exact ih (i+1) (by omega)
 rw[EV]
 exact key n 0 (by omega)
end
theorem LF {α:Type}[Inhabited α](l:List α)(p:α→Bool):(List.range l.length).all (fun i=>p l[i]!)=l.all p:=by
 rw[EU,eS,eS]
 constructor
 ·intro h x hx
  obtain⟨i,hi,rfl⟩:=List.getElem_of_mem hx
  have:=h i (AO.2 hi)
  rwa[yG,fI hi] at this
 ·intro h i hi
  have hi:=AO.1 hi
  rw[yG,fI hi]
  exact h _ (EX hi)
theorem LE {α:Type}[Inhabited α](l:List α)(p:α→Bool):(List.range l.length).any (fun i=>p l[i]!)=l.any p:=by
 have:=LF l (fun x=>!p x)
 rw[←Bool.not_inj_iff,←Qb,←Qb] at this
 simpa using this
theorem qP {C:Nat}(hC:C≤1000000){b:Int×List aj→Option ((Int×List aj)⊕List aj)}(f:Nat→Nu)(acc:List Nu)(hl:acc.length+C≤1000000)
  (h:∀k:Nat,k<C→∀l:List aj,b ((k:Int),l)=gd ((l++[nv (f k)]).length*136≤140737488355328) (some (.inl (i64.wrap ((k:Int)+(1:Int)),l++[nv (f k)]))))
  (he:∀l,b ((C:Int),l)=some (.inr l)):bf b ((0:Int),acc.map nv)=some ((acc++(List.range C).map f).map nv):=by
 have:=eK (b:=b) (fun k=>((k:Int),(acc++(List.range k).map f).map nv)) 0 C ((acc++(List.range C).map f).map nv) (fH _) (fun k _ hk=>?_) (he _)
 ·simpa using this
 ·rw[h k hk,aI (by simp;omega),w64,w7]
  simp
theorem qi {R C:Nat}(hR:R≤1000000){b:Int×List aj→Option ((Int×List aj)⊕List aj)}(f:Nat→Nat→Nu)(hl:R*C≤1000000)
  (h:∀i:Nat,i<R→∀acc:List Nu,acc.length+C≤1000000→b ((i:Int),acc.map nv)=some (.inl (i64.wrap ((i:Int)+(1:Int)),(acc++(List.range C).map (f i)).map nv)))
  (he:∀l,b ((R:Int),l)=some (.inr l)):bf b ((0:Int),([]:List aj))=some ((mkM R C f).map nv):=by
 have:=eK (b:=b) (fun i=>((i:Int),(mkM i C f).map nv)) 0 R ((mkM R C f).map nv) (fH _) (fun i _ hi=>?_) (he _)
 ·simpa[mkM] using this
 ·have:(i+1)*C≤R*C:=c6 _ hi
  rw[h i hi _ (by rw[br];rw[qu] at this;omega),w64,←yp]
  rfl
end
def nM(bm:aj):Option Bool:=bnd (cu bm) fun x1=>some (!x1)
theorem A2 {bm:aj}{r:Bool}(h:nM bm=some r):aB prog 103 [dG ae bm] (dB r):=by
 refine bC (rs:=[.tmp 2]) (fun cx hx h0=>?_) func103
 unfold nM at h
 refine ra hx ?_
 refine rs hx fun K hK=>?_
 refine s1 (d:=dG ae bm) (aA (ao.id _ _) ax) ?_
 refine scb h fL fun x1 h=>?_
 iterate 2 refine sa ?_
 refine .nil (hK _ _ (AW.ret ?_))
 cases h
 exact rv1
def bx(pJ:List aj):Int→Option (Int⊕(Int⊕Unit)):=fun be=>cnd (decide (be<((pJ).length:Int))) (gd (0≤be∧be<((pJ).length:Int)) (bnd (nM ((pJ)[(be).toNat]!)) fun x4=>cnd x4 (some (.inr (.inl be))) (some (.inl (i64.wrap (be+(1:Int))))))) (some (.inr (.inr ())))
def b7(pJ:List aj):Option Int:=bnd (bf (bx pJ) (0:Int)) fun y7=>match y7 with| .inl r=>some r| .inr ()=>some (-1:Int)
theorem iU {pJ:List aj}{r:Int}(h:b7 pJ=some r):aB prog 135 [dL ae pJ,.e (.lit (.func (.func 103) #[] #[]))] (dI .i64 r):=by
 refine bC (rs:=[.tmp 4]) (fun cx hx h0=>?_) func135
 unfold b7 at h
 refine ra hx ?_
 refine AW.seq (ra hx ?_)
 refine AW.block ?_
 obtain⟨y,hy,h⟩:=ah h
 refine lp (S:=Int) (X:=Int⊕Unit) (fun be=>[(0,dL ae pJ),(1,.e (.lit (.func (.func 103) #[] #[]))),(7,dI .i64 ((pJ).length:Int)),(8,dI .i64 be)]) (fun be=>⟨[],[],0⟩) (PS (PR [.tmp 4] fun r=>dI .i64 r) (PE cx (.exit 0) (fun ()=>[]) fun ()=>⟨[],[],0⟩)) hy ?_ ?_ ?_
 exact wk h0 [] (wR rfl (wR rfl (wR rfl (wR rfl wTn)))) wVn wLn
 clear hy h
 rintro be y h
 dsimp only[bx] at h
 refine ra hx ?_
 refine AW.seq (cdh h rfl (fun cE h=>?_) (fun cE h=>?_))
 refine AW.skip (AW.seq (AW.block (ra hx ?_)))
 refine rs hx fun K hK=>?_
 iterate 3 refine sa ?_
 obtain⟨pg,h⟩:=az h
 have rz:(be).toNat<(pJ).length:=by omega
 refine s1 (ej pg aF ax) ?_
 refine s1 (d:=dG ae ((pJ)[(be).toNat]!)) (jI (c:=ae) (l:=pJ) (n:=(be).toNat) (o:=0) ax rz (eM _ _ rfl)) ?_
 refine scb h A2 fun x4 h=>?_
 refine .nil (hK _ _ (cdh h rfl (fun bU h=>?_) (fun bU h=>?_)))
 refine ra hx ?_
 refine AW.ret ?_
 cases h
 refine PS.r ⟨by nofun,PS.l (PR.i ?_)⟩
 exact rv1
 refine AW.skip (rb hx ?_)
 cases h
 exact PS.l (pe0 h0 [])
 refine AW.exit ?_
 try dsimp only
 try simp only[aO,reduceIte,Nat.reduceEqDiff,reduceCtorEq]
 cases h
 exact PS.r ⟨by nofun,PS.r (PE.i (wk h0 [] wTn wVn wLn))⟩
 rcases y with r|⟨⟩
 rintro ex tm' hp' ⟨rfl,hw⟩
 cases h
 exact hw
 rintro ex tm' hp' ⟨rfl,hw⟩
 try dsimp only
 try simp only[aO,reduceIte,Nat.reduceEqDiff,reduceCtorEq]
 refine AW.weak hw (ra hx ?_)
 refine AW.ret ?_
 cases h
 exact rv1
def bR(pJ:List aj):Option Bool:=bnd (b7 pJ) fun x1=>some (decide ((0:Int)≤x1))
theorem ir {pJ:List aj}{r:Bool}(h:bR pJ=some r):aB prog 102 [dL ae pJ,.e (.lit (.func (.func 103) #[] #[]))] (dB r):=by
 refine bC (rs:=[.tmp 4]) (fun cx hx h0=>?_) func102
 unfold bR at h
 refine ra hx ?_
 refine rs hx fun K hK=>?_
 iterate 2 refine sa ?_
 refine scb h iU fun x1 h=>?_
 iterate 2 refine sa ?_
 refine .nil (hK _ _ (AW.ret ?_))
 cases h
 exact rv1
def dJ(gQ:List aj):Option Bool:=bnd (bR gQ) fun x1=>some (!x1)
theorem gu {gQ:List aj}{r:Bool}(h:dJ gQ=some r):aB prog 58 [dL ae gQ] (dB r):=by
 refine bC (rs:=[.tmp 2]) (fun cx hx h0=>?_) func58
 unfold dJ at h
 refine ra hx ?_
 refine rs hx fun K hK=>?_
 refine sa ?_
 refine scb h ir fun x1 h=>?_
 iterate 2 refine sa ?_
 refine .nil (hK _ _ (AW.ret ?_))
 cases h
 exact rv1
def eu(cQ:ap):Option Int:=bnd (S:=Bool) (cnd (decide (cQ.vR<(0:Int))) (some (true)) (cnd (decide ((200:Int)<cQ.vR)) (some (true)) (cnd (decide (cQ.vC<(0:Int))) (some (true)) (some (decide ((200:Int)<cQ.vC)))))) fun jy=>cnd jy (some (2:Int)) (bnd (S:=Bool) (cnd (decide (((cQ.vV).length:Int)≠(i64.wrap (cQ.vR*cQ.vC)))) (some (true)) (bnd (dJ cQ.vV) fun x7=>some (!x7))) fun lP=>cnd lP (some (1:Int)) (some (0:Int)))
theorem rf {cQ:ap}{r:Int}(h:eu cQ=some r):aB prog 11 [dG aE cQ] (dI .i64 r):=by
 refine bC (rs:=[.tmp 2]) (fun cx hx h0=>?_) func11
 unfold eu at h
 refine rs hx fun K hK=>?_
 refine s1 (d:=.pt 0 0) d8 ?_
 refine sa ?_
 refine .nil (hK _ _ (AW.seq (AW.block (AW.seq ?_))))
 obtain⟨jy,hy,h⟩:=ah h
 refine jn ((PE cx .normal (fun jy=>[(1,.pt 0 0),(3,dB jy)]) fun jy=>⟨[(0,[dI .i64 cQ.vR,dI .i64 cQ.vC,dL ae cQ.vV])],[],1⟩) jy) ?_ ?_
 replace h:=hy
 refine rq hx fun K hK=>?_
 refine sa ?_
 refine s1 (aG aT) ?_
 iterate 2 refine sa ?_
 rcases aW (decide (cQ.vR<(0:Int))) with cE|cE
 replace h:=aY cE h
 iterate 3 refine aJ rfl rfl cE ?_
 refine s1 (am cE) ?_
 refine sa ?_
 iterate 3 refine aJ rfl rfl rfl ?_
 refine s1 (am rfl) ?_
 refine sa ?_
 iterate 3 refine aJ rfl rfl rfl ?_
 refine s1 (am rfl) ?_
 refine sa ?_
 refine .nil (hK _ _ ?_)
 cases h
 exact pe0 h0 [0]
 replace h:=aZ cE h
 refine ga cE ?_
 refine g1 cE (aG aT) ?_
 refine ga cE ?_
 refine s1 (au cE) ?_
 refine sa ?_
 rcases aW (decide ((200:Int)<cQ.vR)) with mm|mm
 replace h:=aY mm h
 iterate 3 refine aJ rfl rfl mm ?_
 refine s1 (am mm) ?_
 refine sa ?_
 iterate 3 refine aJ rfl rfl rfl ?_
 refine s1 (am rfl) ?_
 refine sa ?_
 refine .nil (hK _ _ ?_)
 cases h
 exact pe0 h0 [0]
 replace h:=aZ mm h
 refine ga mm ?_
 refine g1 mm (aG aT) ?_
 refine ga mm ?_
 refine s1 (au mm) ?_
 refine sa ?_
 rcases aW (decide (cQ.vC<(0:Int))) with a8|a8
 replace h:=aY a8 h
 iterate 3 refine aJ rfl rfl a8 ?_
 refine s1 (am a8) ?_
 refine sa ?_
 refine .nil (hK _ _ ?_)
 cases h
 exact pe0 h0 [0]
 replace h:=aZ a8 h
 refine ga a8 ?_
 refine g1 a8 (aG aT) ?_
 refine ga a8 ?_
 refine s1 (au a8) ?_
 refine sa ?_
 refine .nil (hK _ _ ?_)
 cases h
 exact pe0 h0 [0]
 rintro ex tm' hp' ⟨rfl,hw⟩
 refine AW.weak hw (cdh h rfl (fun iO h=>?_) (fun iO h=>?_))
 refine ra hx ?_
 refine AW.ret ?_
 cases h
 exact rv1
 refine AW.seq ?_
 obtain⟨lP,hy,h⟩:=ah h
 refine jn ((PE cx .normal (fun lP=>[(22,dB lP)]) fun lP=>⟨[],[],0⟩) lP) ?_ ?_
 replace h:=hy
 refine rq hx fun K hK=>?_
 refine sa ?_
 refine s1 (aG aF) ?_
 iterate 2 refine sa ?_
 refine s1 (aG aT) ?_
 refine sa ?_
 refine s1 (aG aT) ?_
 iterate 3 refine sa ?_
 rcases aW (decide (((cQ.vV).length:Int)≠(i64.wrap (cQ.vR*cQ.vC)))) with bU|bU
 replace h:=aY bU h
 iterate 4 refine aJ rfl rfl bU ?_
 refine s1 (am bU) ?_
 refine sa ?_
 refine .nil (hK _ _ ?_)
 cases h
 exact pe0 h0 []
 replace h:=aZ bU h
 refine ga bU ?_
 refine g1 bU (aG aF) ?_
 obtain⟨x7,xn,h⟩:=ah h
 refine g1 bU (cj rfl (gu xn) rfl (lA (al _) lAn) (.inl rfl)) ?_
 refine ga bU ?_
 refine s1 (au bU) ?_
 refine sa ?_
 refine .nil (hK _ _ ?_)
 cases h
 exact pe0 h0 []
 rintro ex tm' hp' ⟨rfl,hw⟩
 refine AW.weak hw (cdh h rfl (fun eH h=>?_) (fun eH h=>?_))
 refine ra hx ?_
 refine AW.ret ?_
 cases h
 exact rv1
 refine AW.skip (ra hx ?_)
 refine AW.ret ?_
 cases h
 exact rv1
def j7(cQ:ap):Option Bool:=bnd (eu cQ) fun x1=>some (decide (x1≠(0:Int)))
theorem zg {cQ:ap}{r:Bool}(h:j7 cQ=some r):aB prog 107 [dG aE cQ] (dB r):=by
 refine bC (rs:=[.tmp 2]) (fun cx hx h0=>?_) func107
 unfold j7 at h
 refine rs hx fun K hK=>?_
 refine s1 (d:=.pt 0 0) d8 ?_
 refine sa ?_
 refine .nil (hK _ _ (rs hx fun K hK=>?_))
 refine s1 (d:=dG aE cQ) (bb aq) ?_
 refine scb h rf fun x1 h=>?_
 iterate 2 refine sa ?_
 refine .nil (hK _ _ (AW.ret ?_))
 cases h
 exact rv1
def bk(pJ:List ap):Int→Option (Int⊕(Int⊕Unit)):=fun be=>cnd (decide (be<((pJ).length:Int))) (gd (0≤be∧be<((pJ).length:Int)) (bnd (j7 ((pJ)[(be).toNat]!)) fun x4=>cnd x4 (some (.inr (.inl be))) (some (.inl (i64.wrap (be+(1:Int))))))) (some (.inr (.inr ())))
def bB(pJ:List ap):Option Int:=bnd (bf (bk pJ) (0:Int)) fun y7=>match y7 with| .inl r=>some r| .inr ()=>some (-1:Int)
theorem iN {pJ:List ap}{r:Int}(h:bB pJ=some r):aB prog 136 [dL aE pJ,.e (.lit (.func (.func 107) #[] #[]))] (dI .i64 r):=by
 refine bC (rs:=[.tmp 4]) (fun cx hx h0=>?_) func136
 unfold bB at h
 refine ra hx ?_
 refine AW.seq (ra hx ?_)
 refine AW.block ?_
 obtain⟨y,hy,h⟩:=ah h
 refine lp (S:=Int) (X:=Int⊕Unit) (fun be=>[(0,dL aE pJ),(1,.e (.lit (.func (.func 107) #[] #[]))),(7,dI .i64 ((pJ).length:Int)),(8,dI .i64 be)]) (fun be=>⟨[],[],0⟩) (PS (PR [.tmp 4] fun r=>dI .i64 r) (PE cx (.exit 0) (fun ()=>[]) fun ()=>⟨[],[],0⟩)) hy ?_ ?_ ?_
 exact wk h0 [] (wR rfl (wR rfl (wR rfl (wR rfl wTn)))) wVn wLn
 clear hy h
 rintro be y h
 dsimp only[bk] at h
 refine ra hx ?_
 refine AW.seq (cdh h rfl (fun cE h=>?_) (fun cE h=>?_))
 refine AW.skip (AW.seq (AW.block (ra hx ?_)))
 refine rs hx fun K hK=>?_
 iterate 3 refine sa ?_
 obtain⟨pg,h⟩:=az h
 have rz:(be).toNat<(pJ).length:=by omega
 refine s1 (ej pg pH aq) ?_
 refine s1 (d:=dG aE ((pJ)[(be).toNat]!)) (jI (c:=aE) (l:=pJ) (n:=(be).toNat) (o:=0) aq rz (eM _ _ rfl)) ?_
 refine scb h zg fun x4 h=>?_
 refine .nil (hK _ _ (cdh h rfl (fun bU h=>?_) (fun bU h=>?_)))
 refine ra hx ?_
 refine AW.ret ?_
 cases h
 refine PS.r ⟨by nofun,PS.l (PR.i ?_)⟩
 exact rv1
 refine AW.skip (rb hx ?_)
 cases h
 exact PS.l (pe0 h0 [])
 refine AW.exit ?_
 try dsimp only
 try simp only[aO,reduceIte,Nat.reduceEqDiff,reduceCtorEq]
 cases h
 exact PS.r ⟨by nofun,PS.r (PE.i (wk h0 [] wTn wVn wLn))⟩
 rcases y with r|⟨⟩
 rintro ex tm' hp' ⟨rfl,hw⟩
 cases h
 exact hw
 rintro ex tm' hp' ⟨rfl,hw⟩
 try dsimp only
 try simp only[aO,reduceIte,Nat.reduceEqDiff,reduceCtorEq]
 refine AW.weak hw (ra hx ?_)
 refine AW.ret ?_
 cases h
 exact rv1
def bt(pJ:List ap):Option Bool:=bnd (bB pJ) fun x1=>some (decide ((0:Int)≤x1))
theorem g7 {pJ:List ap}{r:Bool}(h:bt pJ=some r):aB prog 106 [dL aE pJ,.e (.lit (.func (.func 107) #[] #[]))] (dB r):=by
 refine bC (rs:=[.tmp 4]) (fun cx hx h0=>?_) func106
 unfold bt at h
 refine ra hx ?_
 refine rs hx fun K hK=>?_
 iterate 2 refine sa ?_
 refine scb h iN fun x1 h=>?_
 iterate 2 refine sa ?_
 refine .nil (hK _ _ (AW.ret ?_))
 cases h
 exact rv1
def b9(gQ:List ap):Option Bool:=bnd (bt gQ) fun x1=>some (!x1)
theorem ep {gQ:List ap}{r:Bool}(h:b9 gQ=some r):aB prog 62 [dL aE gQ] (dB r):=by
 refine bC (rs:=[.tmp 2]) (fun cx hx h0=>?_) func62
 unfold b9 at h
 refine ra hx ?_
 refine rs hx fun K hK=>?_
 refine sa ?_
 refine scb h g7 fun x1 h=>?_
 iterate 2 refine sa ?_
 refine .nil (hK _ _ (AW.ret ?_))
 cases h
 exact rv1
def l4(bL:Int)(bz:Int)(iJ:List aj):Option (ap×Int):=bnd (gj iJ) fun x1=>bnd (eu (⟨bL,bz,x1⟩:ap)) fun x3=>cnd (decide (x3≠(0:Int))) (some ((⟨(0:Int),(0:Int),([]:List aj)⟩:ap),x3)) (some ((⟨bL,bz,x1⟩:ap),(0:Int)))
theorem wK {bL:Int}{bz:Int}{iJ:List aj}{r:ap×Int}(h:l4 bL bz iJ=some r):aB prog 50 [dI .i64 bL,dI .i64 bz,dL ae iJ] (.tu [dG aE r.1,dI .i64 r.2]):=by
 refine bC (rs:=[.cell 6 24,.tmp 7]) (fun cx hx h0=>?_) func50
 unfold l4 at h
 refine rs hx fun K hK=>?_
 refine s1 (d:=.pt 0 0) (bc aq) ?_
 refine sa ?_
 refine .nil (hK _ _ (rs hx fun K hK=>?_))
 iterate 3 refine sa ?_
 obtain⟨x1,zV,h⟩:=ah h
 refine s1 (BA rfl (pD zV) rfl (lA (al _) lAn)) ?_
 refine s2 (d2:=dG aE (⟨bL,bz,x1⟩:ap)) (bE (es:=[dI .i64 bL,dI .i64 bz,dO 1 ae x1]) aq) (eA (wc (co _) (wc (co _) (wc (A5 _) wcn)))) ?_
 refine s1 (d:=.pt 2 0) (bc aq) ?_
 refine s0 (bO (ds':=[dI .i64 bL,dI .i64 bz,dL ae x1]) aq) ?_
 refine .nil (hK _ _ (AW.seq (rs hx fun K hK=>?_)))
 refine s1 (d:=dG aE (⟨bL,bz,x1⟩:ap)) (bb aq) ?_
 refine scb h rf fun x3 h=>?_
 refine sa ?_
 refine .nil (hK _ _ (ra hx ?_))
 refine cdh h rfl (fun iO h=>?_) (fun iO h=>?_)
 refine rs hx fun K hK=>?_
 refine s1 (d:=.ag [dI .i64 (0:Int),dI .i64 (0:Int),dN]) (bE aq) ?_
 refine sa ?_
 refine s0 (bO (ds':=[dI .i64 (0:Int),dI .i64 (0:Int),dN]) aq) ?_
 refine sa ?_
 refine .nil (hK _ _ (AW.ret ?_))
 cases h
 exact dh.mk2 (bJ (es:=[dI .i64 (0:Int),dI .i64 (0:Int),dN]) rfl aq rfl rfl (ltb rfl) (leb rfl) rfl (ci rfl (.inr ⟨_,_,(eA (wc (co _) (wc (co _) (wc (nT rfl) wcn)))),(al _),⟨rfl,rfl⟩,rfl⟩)))
 refine AW.skip (rs hx fun K hK=>?_)
 refine s1 (d:=dG aE (⟨bL,bz,x1⟩:ap)) (bb aq) ?_
 refine s0 (bO (ds':=[dI .i64 bL,dI .i64 bz,dL ae x1]) aq) ?_
 refine sa ?_
 refine .nil (hK _ _ (AW.ret ?_))
 cases h
 exact dh.mk2 (bJ (es:=(aE.f (⟨bL,bz,x1⟩:ap)).map .e) rfl aq rfl rfl (ltb rfl) (leb rfl) rfl (ci rfl (.inr ⟨_,_,(al _),(al _),⟨rfl,rfl⟩,rfl⟩)))
def gV(gq:Int)(fj:Int):Option aj:=cnd (decide (gq=fj)) (bnd (fk (1:Int)) fun x2=>some x2) (bnd (fk (0:Int)) fun x4=>some x4)
theorem qJ {gq:Int}{fj:Int}{r:aj}(h:gV gq fj=some r):aB prog 95 [dI .i64 gq,dI .i64 fj] (dG ae r):=by
 refine bC (rs:=[.cell 4 34]) (fun cx hx h0=>?_) func95
 unfold gV at h
 refine rs hx fun K hK=>?_
 refine s1 (bq (F:=ae.f cb) ax) ?_
 refine .nil (hK _ _ (AW.seq (ra hx ?_)))
 refine cdh h rfl (fun cE h=>?_) (fun cE h=>?_)
 refine rs hx fun K hK=>?_
 refine scb h jA fun x2 h=>?_
 refine s0 (aN (b':=x2) (ao.id _ _) ax) ?_
 refine .nil (hK _ _ (AW.ret ?_))
 cases h
 exact rv1
 refine AW.skip (rs hx fun K hK=>?_)
 refine scb h jA fun x4 h=>?_
 refine s0 (aN (b':=x4) (ao.id _ _) ax) ?_
 refine .nil (hK _ _ (AW.ret ?_))
 cases h
 exact rv1
def dH(bz:Int)(aL:Int):Int×(List aj)→Option ((Int×(List aj))⊕((List aj))):=fun (bQ,bn)=>cnd (decide (bQ<bz)) (bnd (gV aL bQ) fun x3=>gd ((bn++[x3]).length*136≤140737488355328) (some (.inl (i64.wrap (bQ+(1:Int)),bn++[x3])))) (some (.inr bn))
def dW(bL:Int)(bz:Int):Int×(List aj)→Option ((Int×(List aj))⊕((List aj))):=fun (aL,a6)=>cnd (decide (aL<bL)) (bnd (bf (dH bz aL) ((0:Int),a6)) fun bM=>some (.inl (i64.wrap (aL+(1:Int)),bM))) (some (.inr a6))
def dc(bL:Int)(bz:Int):Option (ap×Int):=bnd (bf (dW bL bz) ((0:Int),([]:List aj))) fun aD=>bnd (dJ aD) fun x8=>cnd (!x8) (some ((⟨(0:Int),(0:Int),([]:List aj)⟩:ap),(30:Int))) (some ((⟨bL,bz,aD⟩:ap),(0:Int)))
theorem pi {bL:Int}{bz:Int}{r:ap×Int}(h:dc bL bz=some r):aB prog 73 [dI .i64 bL,dI .i64 bz,.e (.lit (.func (.func 95) #[] #[]))] (.tu [dG aE r.1,dI .i64 r.2]):=by
 refine bC (rs:=[.cell 6 24,.tmp 7]) (fun cx hx h0=>?_) func73
 unfold dc at h
 refine rs hx fun K hK=>?_
 refine s1 (d:=.pt 0 0) (bc aq) ?_
 refine sa ?_
 refine .nil (hK _ _ (rs hx fun K hK=>?_))
 iterate 2 refine sa ?_
 refine s1 (d:=.ag [dI .i64 bL,dI .i64 bz,dN]) (bE aq) ?_
 refine s1 (d:=.pt 1 0) (bc aq) ?_
 refine s0 (bO (ds':=[dI .i64 bL,dI .i64 bz,dN]) aq) ?_
 refine .nil (hK _ _ (AW.seq (ra hx ?_)))
 refine AW.block ?_
 obtain⟨aD,hy,h⟩:=ah h
 refine lp (S:=Int×(List aj)) (X:=(List aj)) (fun (aL,a6)=>[(1,dI .i64 bz),(2,.e (.lit (.func (.func 95) #[] #[]))),(6,.pt 0 0),(8,.pt 1 0),(14,dI .i64 bL),(15,dI .i64 aL)]) (fun (aL,a6)=>⟨[(0,[dI .i64 (0:Int),dI .i64 (0:Int),dN]),(1,[dI .i64 bL,dI .i64 bz,dO 2 ae a6])],[(2,(a6).length,36,34)],3⟩) (PE cx (.exit 0) (fun aD=>[(6,.pt 0 0),(8,.pt 1 0)]) fun aD=>⟨[(0,[dI .i64 (0:Int),dI .i64 (0:Int),dN]),(1,[dI .i64 bL,dI .i64 bz,dO 2 ae aD])],[(2,(aD).length,36,34)],3⟩) hy ?_ ?_ ?_
 exact Wk.trans (Wk.nilOwn (ds':=[dI .i64 bL,dI .i64 bz,dO 2 ae ([]:List aj)]) 1 2 34 36) (wk h0 [0,1,2] (wR rfl (wR rfl (wR rfl (wR rfl (wR rfl (wR rfl wTn)))))) (vR rfl (vR rfl wVn)) (wL rfl rfl wLn))
 clear hy h
 rintro⟨aL,a6⟩ y h
 dsimp only[dW] at h
 refine ra hx ?_
 refine AW.seq (cdh h rfl (fun cE h=>?_) (fun cE h=>?_))
 refine AW.skip (AW.seq (AW.block ?_))
 iterate 2 refine ra hx ?_
 refine AW.block ?_
 obtain⟨bM,hy,h⟩:=ah h
 refine lp (S:=Int×(List aj)) (X:=(List aj)) (fun (bQ,bn)=>[(1,dI .i64 bz),(2,.e (.lit (.func (.func 95) #[] #[]))),(6,.pt 0 0),(8,.pt 1 0),(9,dI .i64 aL),(14,dI .i64 bL),(15,dI .i64 aL),(18,dI .i64 bz),(19,dI .i64 bQ)]) (fun (bQ,bn)=>⟨[(0,[dI .i64 (0:Int),dI .i64 (0:Int),dN]),(1,[dI .i64 bL,dI .i64 bz,dO 2 ae bn])],[(2,(bn).length,36,34)],3⟩) (PE cx (.exit 2) (fun bM=>[(1,dI .i64 bz),(2,.e (.lit (.func (.func 95) #[] #[]))),(6,.pt 0 0),(8,.pt 1 0),(14,dI .i64 bL),(15,dI .i64 aL)]) fun bM=>⟨[(0,[dI .i64 (0:Int),dI .i64 (0:Int),dN]),(1,[dI .i64 bL,dI .i64 bz,dO 2 ae bM])],[(2,(bM).length,36,34)],3⟩) hy ?_ ?_ ?_
 exact wk h0 [0,1,2] (wR rfl (wR rfl (wR rfl (wR rfl (wR rfl (wR rfl (wR rfl (wR rfl (wR rfl wTn))))))))) (vR rfl (vR rfl wVn)) (wL rfl rfl wLn)
 clear hy h
 rintro⟨bQ,bn⟩ y h
 dsimp only[dH] at h
 refine ra hx ?_
 refine AW.seq (cdh h rfl (fun mm h=>?_) (fun mm h=>?_))
 refine AW.skip (AW.seq (AW.block (ra hx ?_)))
 obtain⟨x3,xQ,h⟩:=ah h
 obtain⟨Bu,h⟩:=az h
 refine jn (PE cx .normal (fun (_:Unit)=>[(1,dI .i64 bz),(2,.e (.lit (.func (.func 95) #[] #[]))),(6,.pt 0 0),(8,.pt 1 0),(9,dI .i64 aL),(14,dI .i64 bL),(15,dI .i64 aL),(18,dI .i64 bz),(19,dI .i64 bQ)]) (fun (_:Unit)=>⟨[(0,[dI .i64 (0:Int),dI .i64 (0:Int),dN]),(1,[dI .i64 bL,dI .i64 bz,dO 2 ae (bn++[x3])])],[(2,(bn++[x3]).length,36,34)],3⟩) ()) ?_ ?_
 refine dw (DW.split 1 5 (by decide) ?_ ?_)
 refine dwg [] [0,1,2,3,4,5,6,7,8,9] hx (by kernel_rfl) (by kernel_rfl) (by kernel_rfl) fun K hK=>?_
 dsimp only[eJ,nE,nS,List.map]
 refine sa ?_
 refine s1 (aG aF) ?_
 iterate 3 refine sa ?_
 refine sc (qJ xQ) ?_
 refine s1 (iM ([x3]:List aj) ae aF ax) ?_
 refine s1 (d:=dO 2 ae (bn++[x3])) (gc aF ax Bu) ?_
 refine sa ?_
 refine s0 (bO (ds':=[dI .i64 bL,dI .i64 bz,dO 2 ae (bn++[x3])]) aF) ?_
 exact .nil (hK _ _ (pe0 h0 [0,1,2]))
 refine dwg [] [0,2,3,4,5,1,6,7,8,9] hx (by kernel_rfl) (by kernel_rfl) (by kernel_rfl) fun K hK=>?_
 dsimp only[eJ,nE,nS,List.map]
 iterate 4 refine sa ?_
 refine sc (qJ xQ) ?_
 refine s1 (aG aF) ?_
 refine s1 (iM ([x3]:List aj) ae aF ax) ?_
 refine s1 (d:=dO 2 ae (bn++[x3])) (gc aF ax Bu) ?_
 refine sa ?_
 refine s0 (bO (ds':=[dI .i64 bL,dI .i64 bz,dO 2 ae (bn++[x3])]) aF) ?_
 exact .nil (hK _ _ (pe0 h0 [0,1,2]))
 rintro ex tm' hp' ⟨rfl,hw⟩
 refine AW.weak hw (rb hx ?_)
 cases h
 exact PS.l (pe0 h0 [0,1,2])
 refine AW.exit ?_
 try dsimp only
 try simp only[aO,reduceIte,Nat.reduceEqDiff,reduceCtorEq]
 cases h
 exact PS.r ⟨by nofun,PE.i (wk h0 [0,1,2] (wR rfl (wR rfl (wR rfl (wR rfl (wR rfl (wR rfl wTn)))))) (vR rfl (vR rfl wVn)) (wL rfl rfl wLn))⟩
 rintro ex tm' hp' ⟨rfl,hw⟩
 try dsimp only
 try simp only[aO,reduceIte,Nat.reduceEqDiff,reduceCtorEq]
 refine AW.weak hw (rb hx ?_)
 cases h
 exact PS.l (pe0 h0 [0,1,2])
 refine AW.exit ?_
 try dsimp only
 try simp only[aO,reduceIte,Nat.reduceEqDiff,reduceCtorEq]
 cases h
 exact PS.r ⟨by nofun,PE.i (wk h0 [0,1,2] (wR rfl (wR rfl wTn)) (vR rfl (vR rfl wVn)) (wL rfl rfl wLn))⟩
 rintro ex tm' hp' ⟨rfl,hw⟩
 try dsimp only
 try simp only[aO,reduceIte,Nat.reduceEqDiff,reduceCtorEq]
 refine AW.weak hw (AW.seq (rs hx fun K hK=>?_))
 refine sa ?_
 refine s1 (aG aF) ?_
 refine scb h gu fun x8 h=>?_
 refine sa ?_
 refine .nil (hK _ _ (cdh h rfl (fun eH h=>?_) (fun eH h=>?_)))
 refine rs hx fun K hK=>?_
 refine s1 (d:=.ag [dI .i64 (0:Int),dI .i64 (0:Int),dN]) (bE aq) ?_
 refine s0 (bO (ds':=[dI .i64 (0:Int),dI .i64 (0:Int),dN]) aq) ?_
 refine sa ?_
 refine .nil (hK _ _ (AW.ret ?_))
 cases h
 exact dh.mk2 (bJ (es:=[dI .i64 (0:Int),dI .i64 (0:Int),dN]) rfl aq rfl rfl (ltb rfl) (leb rfl) rfl (ci rfl (.inr ⟨_,_,(eA (wc (co _) (wc (co _) (wc (nT rfl) wcn)))),(al _),⟨rfl,rfl⟩,rfl⟩)))
 refine AW.skip (rs hx fun K hK=>?_)
 refine s1 (d:=.ag [dI .i64 bL,dI .i64 bz,dO 2 ae aD]) (bb aq) ?_
 refine s0 (bO (ds':=[dI .i64 bL,dI .i64 bz,dO 2 ae aD]) aq) ?_
 refine sa ?_
 refine .nil (hK _ _ (AW.ret ?_))
 cases h
 exact dh.mk2 (bJ (es:=[dI .i64 bL,dI .i64 bz,dO 2 ae aD]) rfl aq rfl rfl (ltb rfl) (leb rfl) rfl (ci rfl (.inr ⟨_,_,(eA (wc (co _) (wc (co _) (wc (A5 _) wcn)))),(al _),⟨rfl,rfl⟩,rfl⟩)))
def fS(ce:Int):Option ap:=bnd (S:=Bool) (cnd (decide (ce<(0:Int))) (some (true)) (some (decide ((200:Int)<ce)))) fun a7=>cnd a7 (some (⟨(0:Int),(0:Int),([]:List aj)⟩:ap)) (bnd (dc ce ce) fun x4=>some x4.1)
theorem rX {ce:Int}{r:ap}(h:fS ce=some r):aB prog 43 [dI .i64 ce] (dG aE r):=by
 refine bC (rs:=[.cell 2 24]) (fun cx hx h0=>?_) func43
 unfold fS at h
 refine rs hx fun K hK=>?_
 refine s1 (d:=.pt 0 0) (bc aq) ?_
 refine .nil (hK _ _ ?_)
 iterate 2 refine AW.seq ?_
 obtain⟨a7,hy,h⟩:=ah h
 refine jn ((PE cx .normal (fun a7=>[(0,dI .i64 ce),(2,.pt 0 0),(10,dB a7)]) fun a7=>⟨[(0,[dI .i64 (0:Int),dI .i64 (0:Int),dN])],[],1⟩) a7) ?_ ?_
 replace h:=hy
 refine rq hx fun K hK=>?_
 iterate 3 refine sa ?_
 rcases aW (decide (ce<(0:Int))) with cE|cE
 replace h:=aY cE h
 iterate 2 refine aJ rfl rfl cE ?_
 refine s1 (am cE) ?_
 refine .nil (hK _ _ ?_)
 cases h
 exact pe0 h0 [0]
 replace h:=aZ cE h
 iterate 2 refine ga cE ?_
 refine s1 (au cE) ?_
 refine .nil (hK _ _ ?_)
 cases h
 exact pe0 h0 [0]
 rintro ex tm' hp' ⟨rfl,hw⟩
 refine AW.weak hw (cdh h rfl (fun a8 h=>?_) (fun a8 h=>?_))
 refine rs hx fun K hK=>?_
 refine s1 (d:=.ag [dI .i64 (0:Int),dI .i64 (0:Int),dN]) (bE aq) ?_
 refine s0 (bO (ds':=[dI .i64 (0:Int),dI .i64 (0:Int),dN]) aq) ?_
 refine .nil (hK _ _ (AW.ret ?_))
 cases h
 exact dh.mk1 (bJ (es:=[dI .i64 (0:Int),dI .i64 (0:Int),dN]) rfl aq rfl rfl (ltb rfl) (leb rfl) rfl (.inr (.inr ⟨_,(eA (wc (co _) (wc (co _) (wc (nT rfl) wcn)))),rfl,rfl⟩)))
 refine AW.skip (rs hx fun K hK=>?_)
 iterate 2 refine sa ?_
 refine scb h pi fun x4 h=>?_
 iterate 3 refine sa ?_
 refine s1 (d:=.pt 1 0) (bc aq) ?_
 refine s0 (bO (ds':=[dI .i64 x4.1.vR,dI .i64 x4.1.vC,dL ae x4.1.vV]) aq) ?_
 refine sa ?_
 refine .nil (hK _ _ (rs hx fun K hK=>?_))
 refine s1 (d:=dG aE x4.1) (bb aq) ?_
 refine s0 (bO (ds':=[dI .i64 x4.1.vR,dI .i64 x4.1.vC,dL ae x4.1.vV]) aq) ?_
 refine .nil (hK _ _ (AW.ret ?_))
 cases h
 exact dh.mk1 (bJ (es:=(aE.f x4.1).map .e) rfl aq rfl rfl (ltb rfl) (leb rfl) rfl (.inr (.inr ⟨_,(al _),rfl,rfl⟩)))
def cC(cQ:ap)(gq:Int)(fj:Int):Option aj:=gd (0≤i64.wrap ((i64.wrap (gq*cQ.vC))+fj)∧i64.wrap ((i64.wrap (gq*cQ.vC))+fj)<((cQ.vV).length:Int)) (bnd (some ((cQ.vV)[(i64.wrap ((i64.wrap (gq*cQ.vC))+fj)).toNat]!)) fun x3=>some x3)
theorem eg {cQ:ap}{gq:Int}{fj:Int}{r:aj}(h:cC cQ gq fj=some r):aB prog 75 [dG aE cQ,dI .i64 gq,dI .i64 fj] (dG ae r):=by
 refine bC (rs:=[.cell 6 34]) (fun cx hx h0=>?_) func75
 unfold cC at h
 refine rs hx fun K hK=>?_
 refine s1 (d:=.pt 0 0) d8 ?_
 refine s1 (bq (F:=ae.f cb) ax) ?_
 refine .nil (hK _ _ (rs hx fun K hK=>?_))
 refine sa ?_
 refine s1 (aG aF) ?_
 iterate 2 refine sa ?_
 refine s1 (aG aT) ?_
 iterate 3 refine sa ?_
 obtain⟨G0,h⟩:=az h
 have H5:(i64.wrap ((i64.wrap (gq*cQ.vC))+fj)).toNat<(cQ.vV).length:=by omega
 refine s1 (ej G0 aF ax) ?_
 refine s1 (d:=dG ae ((cQ.vV)[(i64.wrap ((i64.wrap (gq*cQ.vC))+fj)).toNat]!)) (jI (c:=ae) (l:=cQ.vV) (n:=(i64.wrap ((i64.wrap (gq*cQ.vC))+fj)).toNat) (o:=0) ax H5 (eM _ _ rfl)) ?_
 obtain⟨x3,xQ,h⟩:=ah h
 replace xQ:=cP xQ
 refine s0 (kD (b':=(cQ.vV)[(i64.wrap ((i64.wrap (gq*cQ.vC))+fj)).toNat]!) (ao.id _ _) ax xQ) ?_
 refine .nil (hK _ _ (AW.ret ?_))
 cases h
 exact rv1
def oa(cQ:ap)(gq:Int)(fj:Int):Option aj:=bnd (S:=Bool) (bnd (b9 [cQ]) fun x1=>cnd (!x1) (some (true)) (cnd (decide (gq<(0:Int))) (some (true)) (cnd (decide (cQ.vR≤gq)) (some (true)) (cnd (decide (fj<(0:Int))) (some (true)) (some (decide (cQ.vC≤fj))))))) fun a7=>cnd a7 (bnd (f8) fun x9=>some x9) (bnd (cC cQ gq fj) fun qx=>some qx)
theorem Hh {cQ:ap}{gq:Int}{fj:Int}{r:aj}(h:oa cQ gq fj=some r):aB prog 44 [dG aE cQ,dI .i64 gq,dI .i64 fj] (dG ae r):=by
 refine bC (rs:=[.cell 6 34]) (fun cx hx h0=>?_) func44
 unfold oa at h
 refine rs hx fun K hK=>?_
 refine s1 (d:=.pt 0 0) d8 ?_
 refine s1 (bq (F:=ae.f cb) ax) ?_
 refine .nil (hK _ _ ?_)
 iterate 2 refine AW.seq ?_
 obtain⟨a7,hy,h⟩:=ah h
 refine jn ((PE cx .normal (fun a7=>[(1,dI .i64 gq),(2,dI .i64 fj),(3,.pt 0 0),(6,.pt 1 0),(30,dB a7)]) fun a7=>⟨[(0,[dI .i64 cQ.vR,dI .i64 cQ.vC,dL ae cQ.vV]),(1,dC (ae.f cb))],[],2⟩) a7) ?_ ?_
 replace h:=hy
 refine rq hx fun K hK=>?_
 refine s1 (d:=dG aE cQ) (bb aq) ?_
 refine s1 (d:=dO 2 aE [cQ]) (iI pH aq) ?_
 refine scb h ep fun x1 h=>?_
 iterate 2 refine sa ?_
 rcases aW (!x1) with a8|a8
 replace h:=aY a8 h
 iterate 2 refine aJ rfl rfl a8 ?_
 refine s1 (am a8) ?_
 refine sa ?_
 iterate 4 refine aJ rfl rfl rfl ?_
 refine s1 (am rfl) ?_
 refine sa ?_
 iterate 2 refine aJ rfl rfl rfl ?_
 refine s1 (am rfl) ?_
 refine sa ?_
 iterate 4 refine aJ rfl rfl rfl ?_
 refine s1 (am rfl) ?_
 refine .nil (hK _ _ ?_)
 cases h
 exact pe0 h0 [0,1]
 replace h:=aZ a8 h
 iterate 2 refine ga a8 ?_
 refine s1 (au a8) ?_
 refine sa ?_
 rcases aW (decide (gq<(0:Int))) with lz|lz
 replace h:=aY lz h
 iterate 4 refine aJ rfl rfl lz ?_
 refine s1 (am lz) ?_
 refine sa ?_
 iterate 2 refine aJ rfl rfl rfl ?_
 refine s1 (am rfl) ?_
 refine sa ?_
 iterate 4 refine aJ rfl rfl rfl ?_
 refine s1 (am rfl) ?_
 refine .nil (hK _ _ ?_)
 cases h
 exact pe0 h0 [0,1]
 replace h:=aZ lz h
 iterate 2 refine ga lz ?_
 refine g1 lz (aG aT) ?_
 refine ga lz ?_
 refine s1 (au lz) ?_
 refine sa ?_
 rcases aW (decide (cQ.vR≤gq)) with iO|iO
 replace h:=aY iO h
 iterate 2 refine aJ rfl rfl iO ?_
 refine s1 (am iO) ?_
 refine sa ?_
 iterate 4 refine aJ rfl rfl rfl ?_
 refine s1 (am rfl) ?_
 refine .nil (hK _ _ ?_)
 cases h
 exact pe0 h0 [0,1]
 replace h:=aZ iO h
 iterate 2 refine ga iO ?_
 refine s1 (au iO) ?_
 refine sa ?_
 rcases aW (decide (fj<(0:Int))) with bU|bU
 replace h:=aY bU h
 iterate 4 refine aJ rfl rfl bU ?_
 refine s1 (am bU) ?_
 refine .nil (hK _ _ ?_)
 cases h
 exact pe0 h0 [0,1]
 replace h:=aZ bU h
 iterate 2 refine ga bU ?_
 refine g1 bU (aG aT) ?_
 refine ga bU ?_
 refine s1 (au bU) ?_
 refine .nil (hK _ _ ?_)
 cases h
 exact pe0 h0 [0,1]
 rintro ex tm' hp' ⟨rfl,hw⟩
 refine AW.weak hw (cdh h rfl (fun py h=>?_) (fun py h=>?_))
 refine rs hx fun K hK=>?_
 refine scb h mq fun x9 h=>?_
 refine s0 (aN (b':=x9) (ao.id _ _) ax) ?_
 refine .nil (hK _ _ (AW.ret ?_))
 cases h
 exact rv1
 refine AW.skip (rs hx fun K hK=>?_)
 refine s1 (d:=dG aE cQ) (bb aq) ?_
 iterate 2 refine sa ?_
 refine scb h eg fun qx h=>?_
 refine s0 (aN (b':=qx) (ao.id _ _) ax) ?_
 refine .nil (hK _ _ (AW.ret ?_))
 cases h
 exact rv1
def lL(iJ:List aj):Option ap:=bnd (l4 ((iJ).length:Int) (1:Int) iJ) fun x1=>some x1.1
theorem A3 {iJ:List aj}{r:ap}(h:lL iJ=some r):aB prog 32 [dL ae iJ] (dG aE r):=by
 refine bC (rs:=[.cell 2 24]) (fun cx hx h0=>?_) func32
 unfold lL at h
 refine rs hx fun K hK=>?_
 refine s1 (d:=.pt 0 0) (bc aq) ?_
 refine .nil (hK _ _ (rs hx fun K hK=>?_))
 iterate 3 refine sa ?_
 refine scb h wK fun x1 h=>?_
 iterate 3 refine sa ?_
 refine s1 (d:=.pt 1 0) (bc aq) ?_
 refine s0 (bO (ds':=[dI .i64 x1.1.vR,dI .i64 x1.1.vC,dL ae x1.1.vV]) aq) ?_
 refine sa ?_
 refine .nil (hK _ _ (rs hx fun K hK=>?_))
 refine s1 (d:=dG aE x1.1) (bb aq) ?_
 refine s0 (bO (ds':=[dI .i64 x1.1.vR,dI .i64 x1.1.vC,dL ae x1.1.vV]) aq) ?_
 refine .nil (hK _ _ (AW.ret ?_))
 cases h
 exact dh.mk1 (bJ (es:=(aE.f x1.1).map .e) rfl aq rfl rfl (ltb rfl) (leb rfl) rfl (.inr (.inr ⟨_,(al _),rfl,rfl⟩)))
def ko(gq:Int)(fj:Int)(bZ:ap)(er:ap):Option aj:=bnd (cC bZ gq fj) fun x1=>bnd (cC er gq fj) fun x3=>bnd (gz x1 x3) fun x5=>some x5
theorem sX {gq:Int}{fj:Int}{bZ:ap}{er:ap}{r:aj}(h:ko gq fj bZ er=some r):HC prog 87 [dI .i64 gq,dI .i64 fj,.pt 0 0,.pt 1 0] ⟨[(0,[dI .i64 bZ.vR,dI .i64 bZ.vC,dL ae bZ.vV]),(1,[dI .i64 er.vR,dI .i64 er.vC,dL ae er.vV])],[],2⟩ (dG ae r) ⟨[(0,[dI .i64 bZ.vR,dI .i64 bZ.vC,dL ae bZ.vV]),(1,[dI .i64 er.vR,dI .i64 er.vC,dL ae er.vV])],[],2⟩:=by
 refine HC.ofX (rs:=[.cell 6 34]) tok func87 rfl rfl (dM rfl) rfl (fun cx hx h1=>?_)
 have h0:cx.hp0.next=2:=by rw[h1]
 simp only[eC,Nat.reduceAdd,dA]
 unfold ko at h
 refine rs hx fun K hK=>?_
 refine s1 (bq (F:=ae.f cb) ax) ?_
 refine .nil (hK _ _ (rsd [75,85] hx fun K hK=>?_))
 refine s1 (d:=dG aE bZ) (bb aq) ?_
 iterate 2 refine sa ?_
 refine cqb h eg fun x1 h=>?_
 refine s1 (d:=dG aE er) (bb aq) ?_
 iterate 2 refine sa ?_
 refine cqb h eg fun x3 h=>?_
 refine cqb h uY fun x5 h=>?_
 refine s0 (aN (b':=x5) (ao.id _ _) ax) ?_
 refine .nil (hK _ _ (AW.ret ?_))
 cases h
 exact⟨_,qz rfl ax rfl rfl (ltb rfl) (ae.h _) (rfl),nr.of_wk (by rw[hx];exact dM rfl) (wkN h0 [] (wG rfl (al _) wTn) (vR rfl (vR rfl wVn)) wLn)⟩
def jM(bz:Int)(bZ:ap)(er:ap)(aL:Int):Int×(List aj)→Option ((Int×(List aj))⊕((List aj))):=fun (bQ,bn)=>cnd (decide (bQ<bz)) (bnd (ko aL bQ bZ er) fun x3=>gd ((bn++[x3]).length*136≤140737488355328) (some (.inl (i64.wrap (bQ+(1:Int)),bn++[x3])))) (some (.inr bn))
def li(bL:Int)(bz:Int)(bZ:ap)(er:ap):Int×(List aj)→Option ((Int×(List aj))⊕((List aj))):=fun (aL,a6)=>cnd (decide (aL<bL)) (bnd (bf (jM bz bZ er aL) ((0:Int),a6)) fun bM=>some (.inl (i64.wrap (aL+(1:Int)),bM))) (some (.inr a6))
def lK(bL:Int)(bz:Int)(bZ:ap)(er:ap):Option (ap×Int):=bnd (bf (li bL bz bZ er) ((0:Int),([]:List aj))) fun aD=>bnd (dJ aD) fun x8=>cnd (!x8) (some ((⟨(0:Int),(0:Int),([]:List aj)⟩:ap),(30:Int))) (some ((⟨bL,bz,aD⟩:ap),(0:Int)))
theorem A1 {bL:Int}{bz:Int}{bZ:ap}{er:ap}{r:ap×Int}(h:lK bL bz bZ er=some r):HC prog 73 [dI .i64 bL,dI .i64 bz,.fn 87 [0,1]] ⟨[(0,[dI .i64 bZ.vR,dI .i64 bZ.vC,dL ae bZ.vV]),(1,[dI .i64 er.vR,dI .i64 er.vC,dL ae er.vV])],[],2⟩ (.tu [dG aE r.1,dI .i64 r.2]) ⟨[(0,[dI .i64 bZ.vR,dI .i64 bZ.vC,dL ae bZ.vV]),(1,[dI .i64 er.vR,dI .i64 er.vC,dL ae er.vV])],[],2⟩:=by
 refine HC.ofX (rs:=[.cell 6 24,.tmp 7]) tok func73 rfl rfl (dM rfl) rfl (fun cx hx h1=>?_)
 have h0:cx.hp0.next=2:=by rw[h1]
 simp only[eC,Nat.reduceAdd,dA]
 unfold lK at h
 refine rs hx fun K hK=>?_
 refine s1 (d:=.pt 2 0) (bc aq) ?_
 refine sa ?_
 refine .nil (hK _ _ (rs hx fun K hK=>?_))
 iterate 2 refine sa ?_
 refine s1 (d:=.ag [dI .i64 bL,dI .i64 bz,dN]) (bE aq) ?_
 refine s1 (d:=.pt 3 0) (bc aq) ?_
 refine s0 (bO (ds':=[dI .i64 bL,dI .i64 bz,dN]) aq) ?_
 refine .nil (hK _ _ (AW.seq (ra hx ?_)))
 refine AW.block ?_
 obtain⟨aD,hy,h⟩:=ah h
 refine lp (S:=Int×(List aj)) (X:=(List aj)) (fun (aL,a6)=>[(1,dI .i64 bz),(2,.fn 87 [0,1]),(6,.pt 2 0),(8,.pt 3 0),(14,dI .i64 bL),(15,dI .i64 aL)]) (fun (aL,a6)=>⟨[(0,[dI .i64 bZ.vR,dI .i64 bZ.vC,dL ae bZ.vV]),(1,[dI .i64 er.vR,dI .i64 er.vC,dL ae er.vV]),(2,[dI .i64 (0:Int),dI .i64 (0:Int),dN]),(3,[dI .i64 bL,dI .i64 bz,dO 4 ae a6])],[(4,(a6).length,36,34)],5⟩) (PE cx (.exit 0) (fun aD=>[(6,.pt 2 0),(8,.pt 3 0)]) fun aD=>⟨[(0,[dI .i64 bZ.vR,dI .i64 bZ.vC,dL ae bZ.vV]),(1,[dI .i64 er.vR,dI .i64 er.vC,dL ae er.vV]),(2,[dI .i64 (0:Int),dI .i64 (0:Int),dN]),(3,[dI .i64 bL,dI .i64 bz,dO 4 ae aD])],[(4,(aD).length,36,34)],5⟩) hy ?_ ?_ ?_
 exact Wk.trans (Wk.nilOwn (ds':=[dI .i64 bL,dI .i64 bz,dO 4 ae ([]:List aj)]) 3 2 34 36) (wkN h0 [2,3,4] (wR rfl (wR rfl (wR rfl (wR rfl (wR rfl (wR rfl wTn)))))) (vR rfl (vR rfl (vR rfl (vR rfl wVn)))) (wL rfl rfl wLn))
 clear hy h
 rintro⟨aL,a6⟩ y h
 dsimp only[li] at h
 refine ra hx ?_
 refine AW.seq (cdh h rfl (fun cE h=>?_) (fun cE h=>?_))
 refine AW.skip (AW.seq (AW.block ?_))
 iterate 2 refine ra hx ?_
 refine AW.block ?_
 obtain⟨bM,hy,h⟩:=ah h
 refine lp (S:=Int×(List aj)) (X:=(List aj)) (fun (bQ,bn)=>[(1,dI .i64 bz),(2,.fn 87 [0,1]),(6,.pt 2 0),(8,.pt 3 0),(9,dI .i64 aL),(14,dI .i64 bL),(15,dI .i64 aL),(18,dI .i64 bz),(19,dI .i64 bQ)]) (fun (bQ,bn)=>⟨[(0,[dI .i64 bZ.vR,dI .i64 bZ.vC,dL ae bZ.vV]),(1,[dI .i64 er.vR,dI .i64 er.vC,dL ae er.vV]),(2,[dI .i64 (0:Int),dI .i64 (0:Int),dN]),(3,[dI .i64 bL,dI .i64 bz,dO 4 ae bn])],[(4,(bn).length,36,34)],5⟩) (PE cx (.exit 2) (fun bM=>[(1,dI .i64 bz),(2,.fn 87 [0,1]),(6,.pt 2 0),(8,.pt 3 0),(14,dI .i64 bL),(15,dI .i64 aL)]) fun bM=>⟨[(0,[dI .i64 bZ.vR,dI .i64 bZ.vC,dL ae bZ.vV]),(1,[dI .i64 er.vR,dI .i64 er.vC,dL ae er.vV]),(2,[dI .i64 (0:Int),dI .i64 (0:Int),dN]),(3,[dI .i64 bL,dI .i64 bz,dO 4 ae bM])],[(4,(bM).length,36,34)],5⟩) hy ?_ ?_ ?_
 exact wkN h0 [2,3,4] (wR rfl (wR rfl (wR rfl (wR rfl (wR rfl (wR rfl (wR rfl (wR rfl (wR rfl wTn))))))))) (vR rfl (vR rfl (vR rfl (vR rfl wVn)))) (wL rfl rfl wLn)
 clear hy h
 rintro⟨bQ,bn⟩ y h
 dsimp only[jM] at h
 refine ra hx ?_
 refine AW.seq (cdh h rfl (fun mm h=>?_) (fun mm h=>?_))
 refine AW.skip (AW.seq (AW.block (ra hx ?_)))
 obtain⟨x3,xQ,h⟩:=ah h
 obtain⟨Bu,h⟩:=az h
 refine jn (PE cx .normal (fun (_:Unit)=>[(1,dI .i64 bz),(2,.fn 87 [0,1]),(6,.pt 2 0),(8,.pt 3 0),(9,dI .i64 aL),(14,dI .i64 bL),(15,dI .i64 aL),(18,dI .i64 bz),(19,dI .i64 bQ)]) (fun (_:Unit)=>⟨[(0,[dI .i64 bZ.vR,dI .i64 bZ.vC,dL ae bZ.vV]),(1,[dI .i64 er.vR,dI .i64 er.vC,dL ae er.vV]),(2,[dI .i64 (0:Int),dI .i64 (0:Int),dN]),(3,[dI .i64 bL,dI .i64 bz,dO 4 ae (bn++[x3])])],[(4,(bn++[x3]).length,36,34)],5⟩) ()) ?_ ?_
 refine dw (DW.split 1 5 (by decide) ?_ ?_)
 refine dwg [] [0,1,2,3,4,5,6,7,8,9] hx (by kernel_rfl) (by kernel_rfl) (by kernel_rfl) fun K hK=>?_
 dsimp only[eJ,nE,nS,List.map]
 refine sa ?_
 refine s1 (aG aF) ?_
 iterate 3 refine sa ?_
 refine s1 (lQ [0,1] rfl (sX xQ) (fA (al _) (fA (al _) (fA (al _) (fA (al _) fAn)))) (vR rfl (vR rfl wVn)) wLn (rvE (rvE rvN)) (pP _ _ _) (uu _ _)) ?_
 refine s1 (iM ([x3]:List aj) ae aF ax) ?_
 refine s1 (d:=dO 4 ae (bn++[x3])) (gc aF ax Bu) ?_
 refine sa ?_
 refine s0 (bO (ds':=[dI .i64 bL,dI .i64 bz,dO 4 ae (bn++[x3])]) aF) ?_
 exact .nil (hK _ _ (PE.i (wkN h0 [2,3,4] (wR rfl (wR rfl (wR rfl (wR rfl (wR rfl (wR rfl (wR rfl (wR rfl (wR rfl wTn))))))))) (vR rfl (vR rfl (vR rfl (vR rfl wVn)))) (wL rfl rfl wLn))))
 refine dwg [] [0,2,3,4,5,1,6,7,8,9] hx (by kernel_rfl) (by kernel_rfl) (by kernel_rfl) fun K hK=>?_
 dsimp only[eJ,nE,nS,List.map]
 iterate 4 refine sa ?_
 refine s1 (lQ [0,1] rfl (sX xQ) (fA (al _) (fA (al _) (fA (al _) (fA (al _) fAn)))) (vR rfl (vR rfl wVn)) wLn (rvE (rvE rvN)) (pP _ _ _) (uu _ _)) ?_
 refine s1 (aG aF) ?_
 refine s1 (iM ([x3]:List aj) ae aF ax) ?_
 refine s1 (d:=dO 4 ae (bn++[x3])) (gc aF ax Bu) ?_
 refine sa ?_
 refine s0 (bO (ds':=[dI .i64 bL,dI .i64 bz,dO 4 ae (bn++[x3])]) aF) ?_
 exact .nil (hK _ _ (PE.i (wkN h0 [2,3,4] (wR rfl (wR rfl (wR rfl (wR rfl (wR rfl (wR rfl (wR rfl (wR rfl (wR rfl wTn))))))))) (vR rfl (vR rfl (vR rfl (vR rfl wVn)))) (wL rfl rfl wLn))))
 rintro ex tm' hp' ⟨rfl,hw⟩
 refine AW.weak hw (rb hx ?_)
 cases h
 exact PS.l (PE.i (wkN h0 [2,3,4] (wR rfl (wR rfl (wR rfl (wR rfl (wR rfl (wR rfl (wR rfl (wR rfl (wR rfl wTn))))))))) (vR rfl (vR rfl (vR rfl (vR rfl wVn)))) (wL rfl rfl wLn)))
 refine AW.exit ?_
 try dsimp only
 try simp only[aO,reduceIte,Nat.reduceEqDiff,reduceCtorEq]
 cases h
 exact PS.r ⟨by nofun,PE.i (wkN h0 [2,3,4] (wR rfl (wR rfl (wR rfl (wR rfl (wR rfl (wR rfl wTn)))))) (vR rfl (vR rfl (vR rfl (vR rfl wVn)))) (wL rfl rfl wLn))⟩
 rintro ex tm' hp' ⟨rfl,hw⟩
 try dsimp only
 try simp only[aO,reduceIte,Nat.reduceEqDiff,reduceCtorEq]
 refine AW.weak hw (rb hx ?_)
 cases h
 exact PS.l (PE.i (wkN h0 [2,3,4] (wR rfl (wR rfl (wR rfl (wR rfl (wR rfl (wR rfl wTn)))))) (vR rfl (vR rfl (vR rfl (vR rfl wVn)))) (wL rfl rfl wLn)))
 refine AW.exit ?_
 try dsimp only
 try simp only[aO,reduceIte,Nat.reduceEqDiff,reduceCtorEq]
 cases h
 exact PS.r ⟨by nofun,PE.i (wkN h0 [2,3,4] (wR rfl (wR rfl wTn)) (vR rfl (vR rfl (vR rfl (vR rfl wVn)))) (wL rfl rfl wLn))⟩
 rintro ex tm' hp' ⟨rfl,hw⟩
 try dsimp only
 try simp only[aO,reduceIte,Nat.reduceEqDiff,reduceCtorEq]
 refine AW.weak hw (AW.seq (rs hx fun K hK=>?_))
 refine sa ?_
 refine s1 (aG aF) ?_
 refine scb h gu fun x8 h=>?_
 refine sa ?_
 refine .nil (hK _ _ (cdh h rfl (fun eH h=>?_) (fun eH h=>?_)))
 refine rs hx fun K hK=>?_
 refine s1 (d:=.ag [dI .i64 (0:Int),dI .i64 (0:Int),dN]) (bE aq) ?_
 refine s0 (bO (ds':=[dI .i64 (0:Int),dI .i64 (0:Int),dN]) aq) ?_
 refine sa ?_
 refine .nil (hK _ _ (AW.ret ?_))
 cases h
 exact⟨_,bJ (es:=[dI .i64 (0:Int),dI .i64 (0:Int),dN]) rfl aq rfl rfl (ltb rfl) (leb rfl) rfl (ci rfl (rfl)),nr.of_wk2 (by rw[hx];exact dM rfl) (wkN h0 [] (wG rfl (eA (wc (co _) (wc (co _) (wc (nT rfl) wcn)))) (wR rfl wTn)) (vR rfl (vR rfl wVn)) wLn)⟩
 refine AW.skip (rs hx fun K hK=>?_)
 refine s1 (d:=.ag [dI .i64 bL,dI .i64 bz,dO 4 ae aD]) (bb aq) ?_
 refine s0 (bO (ds':=[dI .i64 bL,dI .i64 bz,dO 4 ae aD]) aq) ?_
 refine sa ?_
 refine .nil (hK _ _ (AW.ret ?_))
 cases h
 exact⟨_,bJ (es:=[dI .i64 bL,dI .i64 bz,dO 4 ae aD]) rfl aq rfl rfl (ltb rfl) (leb rfl) rfl (ci rfl (rfl)),nr.of_wk2 (by rw[hx];exact dM rfl) (wkN h0 [] (wG rfl (eA (wc (co _) (wc (co _) (wc (A5 _) wcn)))) (wR rfl wTn)) (vR rfl (vR rfl wVn)) wLn)⟩
def oP(aS:ap)(aU:ap):Option (ap×Int):=bnd (S:=Bool) (bnd (b9 [aS,aU]) fun x1=>cnd (!x1) (some (true)) (cnd (decide (aS.vR≠aU.vR)) (some (true)) (some (decide (aS.vC≠aU.vC))))) fun a7=>cnd a7 (some ((⟨(0:Int),(0:Int),([]:List aj)⟩:ap),(1:Int))) (bnd (lK aS.vR aS.vC aS aU) fun x7=>some (x7.1,x7.2))
theorem Fd {aS:ap}{aU:ap}{r:ap×Int}(h:oP aS aU=some r):aB prog 38 [dG aE aS,dG aE aU] (.tu [dG aE r.1,dI .i64 r.2]):=by
 refine bC (rs:=[.cell 4 24,.tmp 5]) (fun cx hx h0=>?_) func38
 unfold oP at h
 refine rs hx fun K hK=>?_
 refine s1 (d:=.pt 0 0) d8 ?_
 refine s1 (d:=.pt 1 0) d8 ?_
 refine s1 (d:=.pt 2 0) (bc aq) ?_
 refine sa ?_
 refine .nil (hK _ _ ?_)
 iterate 2 refine AW.seq ?_
 obtain⟨a7,hy,h⟩:=ah h
 refine jn ((PE cx .normal (fun a7=>[(2,.pt 0 0),(3,.pt 1 0),(4,.pt 2 0),(24,dB a7)]) fun a7=>⟨[(0,[dI .i64 aS.vR,dI .i64 aS.vC,dL ae aS.vV]),(1,[dI .i64 aU.vR,dI .i64 aU.vC,dL ae aU.vV]),(2,[dI .i64 (0:Int),dI .i64 (0:Int),dN])],[],3⟩) a7) ?_ ?_
 replace h:=hy
 refine rq hx fun K hK=>?_
 refine s1 (d:=dG aE aS) (bb aq) ?_
 refine s1 (d:=dG aE aU) (bb aq) ?_
 refine s1 (d:=dO 3 aE [aS,aU]) (iI pH aq) ?_
 refine scb h ep fun x1 h=>?_
 iterate 2 refine sa ?_
 rcases aW (!x1) with a8|a8
 replace h:=aY a8 h
 iterate 5 refine aJ rfl rfl a8 ?_
 refine s1 (am a8) ?_
 refine sa ?_
 iterate 5 refine aJ rfl rfl rfl ?_
 refine s1 (am rfl) ?_
 refine .nil (hK _ _ ?_)
 cases h
 exact pe0 h0 [0,1,2]
 replace h:=aZ a8 h
 refine ga a8 ?_
 refine g1 a8 (aG aT) ?_
 refine ga a8 ?_
 refine g1 a8 (aG aT) ?_
 refine ga a8 ?_
 refine s1 (au a8) ?_
 refine sa ?_
 rcases aW (decide (aS.vR≠aU.vR)) with lz|lz
 replace h:=aY lz h
 iterate 5 refine aJ rfl rfl lz ?_
 refine s1 (am lz) ?_
 refine .nil (hK _ _ ?_)
 cases h
 exact pe0 h0 [0,1,2]
 replace h:=aZ lz h
 refine ga lz ?_
 refine g1 lz (aG aT) ?_
 refine ga lz ?_
 refine g1 lz (aG aT) ?_
 refine ga lz ?_
 refine s1 (au lz) ?_
 refine .nil (hK _ _ ?_)
 cases h
 exact pe0 h0 [0,1,2]
 rintro ex tm' hp' ⟨rfl,hw⟩
 refine AW.weak hw (cdh h rfl (fun bU h=>?_) (fun bU h=>?_))
 refine rs hx fun K hK=>?_
 refine s1 (d:=.ag [dI .i64 (0:Int),dI .i64 (0:Int),dN]) (bE aq) ?_
 refine s0 (bO (ds':=[dI .i64 (0:Int),dI .i64 (0:Int),dN]) aq) ?_
 refine sa ?_
 refine .nil (hK _ _ (AW.ret ?_))
 cases h
 exact dh.mk2 (bJ (es:=[dI .i64 (0:Int),dI .i64 (0:Int),dN]) rfl aq rfl rfl (ltb rfl) (leb rfl) rfl (ci rfl (.inr ⟨_,_,(eA (wc (co _) (wc (co _) (wc (nT rfl) wcn)))),(al _),⟨rfl,rfl⟩,rfl⟩)))
 refine AW.skip (rs hx fun K hK=>?_)
 refine sa ?_
 refine s1 (aG aT) ?_
 refine sa ?_
 refine s1 (aG aT) ?_
 refine s1 vH ?_
 obtain⟨x7,xn,h⟩:=ah h
 refine s1 (yX [0,1] rfl (A1 xn) (fA (al _) (fA (al _) (fA (al _) fAn))) (vR rfl (vR rfl wVn)) wLn) ?_
 iterate 2 refine sa ?_
 refine s0 (bO (ds':=[dI .i64 x7.1.vR,dI .i64 x7.1.vC,dL ae x7.1.vV]) aq) ?_
 refine sa ?_
 refine .nil (hK _ _ (AW.ret ?_))
 cases h
 exact dh.mk2 (bJ (es:=(aE.f x7.1).map .e) rfl aq rfl rfl (ltb rfl) (leb rfl) rfl (ci rfl (.inr ⟨_,_,(al _),(al _),⟨rfl,rfl⟩,rfl⟩)))
def iF(gq:Int)(fj:Int)(bZ:ap)(er:aj):Option aj:=bnd (cC bZ gq fj) fun x1=>bnd (eO x1 er) fun x3=>some x3
theorem q9 {gq:Int}{fj:Int}{bZ:ap}{er:aj}{r:aj}(h:iF gq fj bZ er=some r):HC prog 86 [dI .i64 gq,dI .i64 fj,.pt 0 0,.pt 1 0] ⟨[(0,[dI .i64 bZ.vR,dI .i64 bZ.vC,dL ae bZ.vV]),(1,dC (ae.f er))],[],2⟩ (dG ae r) ⟨[(0,[dI .i64 bZ.vR,dI .i64 bZ.vC,dL ae bZ.vV]),(1,dC (ae.f er))],[],2⟩:=by
 refine HC.ofX (rs:=[.cell 6 34]) tok func86 rfl rfl (dM rfl) rfl (fun cx hx h1=>?_)
 have h0:cx.hp0.next=2:=by rw[h1]
 simp only[eC,Nat.reduceAdd,dA]
 unfold iF at h
 refine rs hx fun K hK=>?_
 refine s1 (bq (F:=ae.f cb) ax) ?_
 refine .nil (hK _ _ (rsd [75,40] hx fun K hK=>?_))
 refine s1 (d:=dG aE bZ) (bb aq) ?_
 iterate 2 refine sa ?_
 refine cqb h eg fun x1 h=>?_
 refine s1 (d:=dG ae er) (aA (ao.id _ _) ax) ?_
 refine cqb h n4 fun x3 h=>?_
 refine s0 (aN (b':=x3) (ao.id _ _) ax) ?_
 refine .nil (hK _ _ (AW.ret ?_))
 cases h
 exact⟨_,qz rfl ax rfl rfl (ltb rfl) (ae.h _) (rfl),nr.of_wk (by rw[hx];exact dM rfl) (wkN h0 [] (wG rfl (al _) wTn) (vR rfl (vC rfl wVn)) wLn)⟩
def jt(bz:Int)(bZ:ap)(er:aj)(aL:Int):Int×(List aj)→Option ((Int×(List aj))⊕((List aj))):=fun (bQ,bn)=>cnd (decide (bQ<bz)) (bnd (iF aL bQ bZ er) fun x3=>gd ((bn++[x3]).length*136≤140737488355328) (some (.inl (i64.wrap (bQ+(1:Int)),bn++[x3])))) (some (.inr bn))
def jR(bL:Int)(bz:Int)(bZ:ap)(er:aj):Int×(List aj)→Option ((Int×(List aj))⊕((List aj))):=fun (aL,a6)=>cnd (decide (aL<bL)) (bnd (bf (jt bz bZ er aL) ((0:Int),a6)) fun bM=>some (.inl (i64.wrap (aL+(1:Int)),bM))) (some (.inr a6))
def ke(bL:Int)(bz:Int)(bZ:ap)(er:aj):Option (ap×Int):=bnd (bf (jR bL bz bZ er) ((0:Int),([]:List aj))) fun aD=>bnd (dJ aD) fun x8=>cnd (!x8) (some ((⟨(0:Int),(0:Int),([]:List aj)⟩:ap),(30:Int))) (some ((⟨bL,bz,aD⟩:ap),(0:Int)))
theorem zm {bL:Int}{bz:Int}{bZ:ap}{er:aj}{r:ap×Int}(h:ke bL bz bZ er=some r):HC prog 73 [dI .i64 bL,dI .i64 bz,.fn 86 [0,1]] ⟨[(0,[dI .i64 bZ.vR,dI .i64 bZ.vC,dL ae bZ.vV]),(1,dC (ae.f er))],[],2⟩ (.tu [dG aE r.1,dI .i64 r.2]) ⟨[(0,[dI .i64 bZ.vR,dI .i64 bZ.vC,dL ae bZ.vV]),(1,dC (ae.f er))],[],2⟩:=by
 refine HC.ofX (rs:=[.cell 6 24,.tmp 7]) tok func73 rfl rfl (dM rfl) rfl (fun cx hx h1=>?_)
 have h0:cx.hp0.next=2:=by rw[h1]
 simp only[eC,Nat.reduceAdd,dA]
 unfold ke at h
 refine rs hx fun K hK=>?_
 refine s1 (d:=.pt 2 0) (bc aq) ?_
 refine sa ?_
 refine .nil (hK _ _ (rs hx fun K hK=>?_))
 iterate 2 refine sa ?_
 refine s1 (d:=.ag [dI .i64 bL,dI .i64 bz,dN]) (bE aq) ?_
 refine s1 (d:=.pt 3 0) (bc aq) ?_
 refine s0 (bO (ds':=[dI .i64 bL,dI .i64 bz,dN]) aq) ?_
 refine .nil (hK _ _ (AW.seq (ra hx ?_)))
 refine AW.block ?_
 obtain⟨aD,hy,h⟩:=ah h
 refine lp (S:=Int×(List aj)) (X:=(List aj)) (fun (aL,a6)=>[(1,dI .i64 bz),(2,.fn 86 [0,1]),(6,.pt 2 0),(8,.pt 3 0),(14,dI .i64 bL),(15,dI .i64 aL)]) (fun (aL,a6)=>⟨[(0,[dI .i64 bZ.vR,dI .i64 bZ.vC,dL ae bZ.vV]),(1,dC (ae.f er)),(2,[dI .i64 (0:Int),dI .i64 (0:Int),dN]),(3,[dI .i64 bL,dI .i64 bz,dO 4 ae a6])],[(4,(a6).length,36,34)],5⟩) (PE cx (.exit 0) (fun aD=>[(6,.pt 2 0),(8,.pt 3 0)]) fun aD=>⟨[(0,[dI .i64 bZ.vR,dI .i64 bZ.vC,dL ae bZ.vV]),(1,dC (ae.f er)),(2,[dI .i64 (0:Int),dI .i64 (0:Int),dN]),(3,[dI .i64 bL,dI .i64 bz,dO 4 ae aD])],[(4,(aD).length,36,34)],5⟩) hy ?_ ?_ ?_
 exact Wk.trans (Wk.nilOwn (ds':=[dI .i64 bL,dI .i64 bz,dO 4 ae ([]:List aj)]) 3 2 34 36) (wkN h0 [2,3,4] (wR rfl (wR rfl (wR rfl (wR rfl (wR rfl (wR rfl wTn)))))) (vR rfl (vC rfl (vR rfl (vR rfl wVn)))) (wL rfl rfl wLn))
 clear hy h
 rintro⟨aL,a6⟩ y h
 dsimp only[jR] at h
 refine ra hx ?_
 refine AW.seq (cdh h rfl (fun cE h=>?_) (fun cE h=>?_))
 refine AW.skip (AW.seq (AW.block ?_))
 iterate 2 refine ra hx ?_
 refine AW.block ?_
 obtain⟨bM,hy,h⟩:=ah h
 refine lp (S:=Int×(List aj)) (X:=(List aj)) (fun (bQ,bn)=>[(1,dI .i64 bz),(2,.fn 86 [0,1]),(6,.pt 2 0),(8,.pt 3 0),(9,dI .i64 aL),(14,dI .i64 bL),(15,dI .i64 aL),(18,dI .i64 bz),(19,dI .i64 bQ)]) (fun (bQ,bn)=>⟨[(0,[dI .i64 bZ.vR,dI .i64 bZ.vC,dL ae bZ.vV]),(1,dC (ae.f er)),(2,[dI .i64 (0:Int),dI .i64 (0:Int),dN]),(3,[dI .i64 bL,dI .i64 bz,dO 4 ae bn])],[(4,(bn).length,36,34)],5⟩) (PE cx (.exit 2) (fun bM=>[(1,dI .i64 bz),(2,.fn 86 [0,1]),(6,.pt 2 0),(8,.pt 3 0),(14,dI .i64 bL),(15,dI .i64 aL)]) fun bM=>⟨[(0,[dI .i64 bZ.vR,dI .i64 bZ.vC,dL ae bZ.vV]),(1,dC (ae.f er)),(2,[dI .i64 (0:Int),dI .i64 (0:Int),dN]),(3,[dI .i64 bL,dI .i64 bz,dO 4 ae bM])],[(4,(bM).length,36,34)],5⟩) hy ?_ ?_ ?_
 exact wkN h0 [2,3,4] (wR rfl (wR rfl (wR rfl (wR rfl (wR rfl (wR rfl (wR rfl (wR rfl (wR rfl wTn))))))))) (vR rfl (vC rfl (vR rfl (vR rfl wVn)))) (wL rfl rfl wLn)
 clear hy h
 rintro⟨bQ,bn⟩ y h
 dsimp only[jt] at h
 refine ra hx ?_
 refine AW.seq (cdh h rfl (fun mm h=>?_) (fun mm h=>?_))
 refine AW.skip (AW.seq (AW.block (ra hx ?_)))
 obtain⟨x3,xQ,h⟩:=ah h
 obtain⟨Bu,h⟩:=az h
 refine jn (PE cx .normal (fun (_:Unit)=>[(1,dI .i64 bz),(2,.fn 86 [0,1]),(6,.pt 2 0),(8,.pt 3 0),(9,dI .i64 aL),(14,dI .i64 bL),(15,dI .i64 aL),(18,dI .i64 bz),(19,dI .i64 bQ)]) (fun (_:Unit)=>⟨[(0,[dI .i64 bZ.vR,dI .i64 bZ.vC,dL ae bZ.vV]),(1,dC (ae.f er)),(2,[dI .i64 (0:Int),dI .i64 (0:Int),dN]),(3,[dI .i64 bL,dI .i64 bz,dO 4 ae (bn++[x3])])],[(4,(bn++[x3]).length,36,34)],5⟩) ()) ?_ ?_
 refine dw (DW.split 1 5 (by decide) ?_ ?_)
 refine dwg [] [0,1,2,3,4,5,6,7,8,9] hx (by kernel_rfl) (by kernel_rfl) (by kernel_rfl) fun K hK=>?_
 dsimp only[eJ,nE,nS,List.map]
 refine sa ?_
 refine s1 (aG aF) ?_
 iterate 3 refine sa ?_
 refine s1 (lQ [0,1] rfl (q9 xQ) (fA (al _) (fA (al _) (fA (al _) (fA (al _) fAn)))) (vR rfl (vC rfl wVn)) wLn (rvE (rvC rvN)) (pP _ _ _) (uu _ _)) ?_
 refine s1 (iM ([x3]:List aj) ae aF ax) ?_
 refine s1 (d:=dO 4 ae (bn++[x3])) (gc aF ax Bu) ?_
 refine sa ?_
 refine s0 (bO (ds':=[dI .i64 bL,dI .i64 bz,dO 4 ae (bn++[x3])]) aF) ?_
 exact .nil (hK _ _ (PE.i (wkN h0 [2,3,4] (wR rfl (wR rfl (wR rfl (wR rfl (wR rfl (wR rfl (wR rfl (wR rfl (wR rfl wTn))))))))) (vR rfl (vC rfl (vR rfl (vR rfl wVn)))) (wL rfl rfl wLn))))
 refine dwg [] [0,2,3,4,5,1,6,7,8,9] hx (by kernel_rfl) (by kernel_rfl) (by kernel_rfl) fun K hK=>?_
 dsimp only[eJ,nE,nS,List.map]
 iterate 4 refine sa ?_
 refine s1 (lQ [0,1] rfl (q9 xQ) (fA (al _) (fA (al _) (fA (al _) (fA (al _) fAn)))) (vR rfl (vC rfl wVn)) wLn (rvE (rvC rvN)) (pP _ _ _) (uu _ _)) ?_
 refine s1 (aG aF) ?_
 refine s1 (iM ([x3]:List aj) ae aF ax) ?_
 refine s1 (d:=dO 4 ae (bn++[x3])) (gc aF ax Bu) ?_
 refine sa ?_
 refine s0 (bO (ds':=[dI .i64 bL,dI .i64 bz,dO 4 ae (bn++[x3])]) aF) ?_
 exact .nil (hK _ _ (PE.i (wkN h0 [2,3,4] (wR rfl (wR rfl (wR rfl (wR rfl (wR rfl (wR rfl (wR rfl (wR rfl (wR rfl wTn))))))))) (vR rfl (vC rfl (vR rfl (vR rfl wVn)))) (wL rfl rfl wLn))))
 rintro ex tm' hp' ⟨rfl,hw⟩
 refine AW.weak hw (rb hx ?_)
 cases h
 exact PS.l (PE.i (wkN h0 [2,3,4] (wR rfl (wR rfl (wR rfl (wR rfl (wR rfl (wR rfl (wR rfl (wR rfl (wR rfl wTn))))))))) (vR rfl (vC rfl (vR rfl (vR rfl wVn)))) (wL rfl rfl wLn)))
 refine AW.exit ?_
 try dsimp only
 try simp only[aO,reduceIte,Nat.reduceEqDiff,reduceCtorEq]
 cases h
 exact PS.r ⟨by nofun,PE.i (wkN h0 [2,3,4] (wR rfl (wR rfl (wR rfl (wR rfl (wR rfl (wR rfl wTn)))))) (vR rfl (vC rfl (vR rfl (vR rfl wVn)))) (wL rfl rfl wLn))⟩
 rintro ex tm' hp' ⟨rfl,hw⟩
 try dsimp only
 try simp only[aO,reduceIte,Nat.reduceEqDiff,reduceCtorEq]
 refine AW.weak hw (rb hx ?_)
 cases h
 exact PS.l (PE.i (wkN h0 [2,3,4] (wR rfl (wR rfl (wR rfl (wR rfl (wR rfl (wR rfl wTn)))))) (vR rfl (vC rfl (vR rfl (vR rfl wVn)))) (wL rfl rfl wLn)))
 refine AW.exit ?_
 try dsimp only
 try simp only[aO,reduceIte,Nat.reduceEqDiff,reduceCtorEq]
 cases h
 exact PS.r ⟨by nofun,PE.i (wkN h0 [2,3,4] (wR rfl (wR rfl wTn)) (vR rfl (vC rfl (vR rfl (vR rfl wVn)))) (wL rfl rfl wLn))⟩
 rintro ex tm' hp' ⟨rfl,hw⟩
 try dsimp only
 try simp only[aO,reduceIte,Nat.reduceEqDiff,reduceCtorEq]
 refine AW.weak hw (AW.seq (rs hx fun K hK=>?_))
 refine sa ?_
 refine s1 (aG aF) ?_
 refine scb h gu fun x8 h=>?_
 refine sa ?_
 refine .nil (hK _ _ (cdh h rfl (fun eH h=>?_) (fun eH h=>?_)))
 refine rs hx fun K hK=>?_
 refine s1 (d:=.ag [dI .i64 (0:Int),dI .i64 (0:Int),dN]) (bE aq) ?_
 refine s0 (bO (ds':=[dI .i64 (0:Int),dI .i64 (0:Int),dN]) aq) ?_
 refine sa ?_
 refine .nil (hK _ _ (AW.ret ?_))
 cases h
 exact⟨_,bJ (es:=[dI .i64 (0:Int),dI .i64 (0:Int),dN]) rfl aq rfl rfl (ltb rfl) (leb rfl) rfl (ci rfl (rfl)),nr.of_wk2 (by rw[hx];exact dM rfl) (wkN h0 [] (wG rfl (eA (wc (co _) (wc (co _) (wc (nT rfl) wcn)))) (wR rfl wTn)) (vR rfl (vC rfl wVn)) wLn)⟩
 refine AW.skip (rs hx fun K hK=>?_)
 refine s1 (d:=.ag [dI .i64 bL,dI .i64 bz,dO 4 ae aD]) (bb aq) ?_
 refine s0 (bO (ds':=[dI .i64 bL,dI .i64 bz,dO 4 ae aD]) aq) ?_
 refine sa ?_
 refine .nil (hK _ _ (AW.ret ?_))
 cases h
 exact⟨_,bJ (es:=[dI .i64 bL,dI .i64 bz,dO 4 ae aD]) rfl aq rfl rfl (ltb rfl) (leb rfl) rfl (ci rfl (rfl)),nr.of_wk2 (by rw[hx];exact dM rfl) (wkN h0 [] (wG rfl (eA (wc (co _) (wc (co _) (wc (A5 _) wcn)))) (wR rfl wTn)) (vR rfl (vC rfl wVn)) wLn)⟩
def mH(cQ:ap)(bm:aj):Option (ap×Int):=bnd (S:=Bool) (bnd (b9 [cQ]) fun x1=>cnd (!x1) (some (true)) (bnd (cu bm) fun x4=>some (!x4))) fun a7=>cnd a7 (some ((⟨(0:Int),(0:Int),([]:List aj)⟩:ap),(1:Int))) (bnd (ke cQ.vR cQ.vC cQ bm) fun x8=>some (x8.1,x8.2))
theorem BJ {cQ:ap}{bm:aj}{r:ap×Int}(h:mH cQ bm=some r):aB prog 37 [dG aE cQ,dG ae bm] (.tu [dG aE r.1,dI .i64 r.2]):=by
 refine bC (rs:=[.cell 4 24,.tmp 5]) (fun cx hx h0=>?_) func37
 unfold mH at h
 refine rs hx fun K hK=>?_
 refine s1 (d:=.pt 0 0) d8 ?_
 refine sa ?_
 refine s1 (d:=.pt 2 0) (bc aq) ?_
 refine sa ?_
 refine .nil (hK _ _ ?_)
 iterate 2 refine AW.seq ?_
 obtain⟨a7,hy,h⟩:=ah h
 refine jn ((PE cx .normal (fun a7=>[(2,.pt 0 0),(3,.pt 1 0),(4,.pt 2 0),(14,dB a7)]) fun a7=>⟨[(0,[dI .i64 cQ.vR,dI .i64 cQ.vC,dL ae cQ.vV]),(1,dC (ae.f bm)),(2,[dI .i64 (0:Int),dI .i64 (0:Int),dN])],[],3⟩) a7) ?_ ?_
 replace h:=hy
 refine rq hx fun K hK=>?_
 refine s1 (d:=dG aE cQ) (bb aq) ?_
 refine s1 (d:=dO 3 aE [cQ]) (iI pH aq) ?_
 refine scb h ep fun x1 h=>?_
 iterate 2 refine sa ?_
 rcases aW (!x1) with a8|a8
 replace h:=aY a8 h
 iterate 3 refine aJ rfl rfl a8 ?_
 refine s1 (am a8) ?_
 refine .nil (hK _ _ ?_)
 cases h
 exact pe0 h0 [0,1,2]
 replace h:=aZ a8 h
 refine g1 (d:=dG ae bm) a8 (aA (ao.id _ _) ax) ?_
 obtain⟨x4,pk,h⟩:=ah h
 refine g1 a8 (cj rfl (fL pk) (by simp only[bN,cl,cF,cZ,ck,cr];exact aM _ _) (lA (dT _ _) lAn) (.inl rfl)) ?_
 refine ga a8 ?_
 refine s1 (au a8) ?_
 refine .nil (hK _ _ ?_)
 cases h
 exact pe0 h0 [0,1,2]
 rintro ex tm' hp' ⟨rfl,hw⟩
 refine AW.weak hw (cdh h rfl (fun nh h=>?_) (fun nh h=>?_))
 refine rs hx fun K hK=>?_
 refine s1 (d:=.ag [dI .i64 (0:Int),dI .i64 (0:Int),dN]) (bE aq) ?_
 refine s0 (bO (ds':=[dI .i64 (0:Int),dI .i64 (0:Int),dN]) aq) ?_
 refine sa ?_
 refine .nil (hK _ _ (AW.ret ?_))
 cases h
 exact dh.mk2 (bJ (es:=[dI .i64 (0:Int),dI .i64 (0:Int),dN]) rfl aq rfl rfl (ltb rfl) (leb rfl) rfl (ci rfl (.inr ⟨_,_,(eA (wc (co _) (wc (co _) (wc (nT rfl) wcn)))),(al _),⟨rfl,rfl⟩,rfl⟩)))
 refine AW.skip (rs hx fun K hK=>?_)
 refine sa ?_
 refine s1 (aG aT) ?_
 refine sa ?_
 refine s1 (aG aT) ?_
 refine s1 vH ?_
 obtain⟨x8,IW,h⟩:=ah h
 refine s1 (Bz [0,1] rfl (zm IW) (fA (al _) (fA (al _) (fA (al _) fAn))) (vR rfl (vC rfl wVn)) wLn (rvE (rvC rvN)) rfl rfl) ?_
 iterate 2 refine sa ?_
 refine s0 (bO (ds':=[dI .i64 x8.1.vR,dI .i64 x8.1.vC,dL ae x8.1.vV]) aq) ?_
 refine sa ?_
 refine .nil (hK _ _ (AW.ret ?_))
 cases h
 exact dh.mk2 (bJ (es:=(aE.f x8.1).map .e) rfl aq rfl rfl (ltb rfl) (leb rfl) rfl (ci rfl (.inr ⟨_,_,(al _),(al _),⟨rfl,rfl⟩,rfl⟩)))
def gA(gq:Int)(fj:Int)(bZ:ap)(er:ap):Int×aj→Option ((Int×aj)⊕aj):=fun (aK,d5)=>cnd (decide (aK<bZ.vC)) (bnd (cC bZ gq aK) fun qx=>bnd (cC er aK fj) fun lw=>bnd (eO qx lw) fun sQ=>bnd (gz d5 sQ) fun ny=>some (.inl (i64.wrap (aK+(1:Int)),ny))) (some (.inr d5))
def iv(gq:Int)(fj:Int)(bZ:ap)(er:ap):Option aj:=cnd (decide (bZ.vC=(0:Int))) (bnd (fk (0:Int)) fun x2=>some x2) (bnd (cC bZ gq (0:Int)) fun x4=>bnd (cC er (0:Int) fj) fun x6=>bnd (eO x4 x6) fun x8=>bnd (bf (gA gq fj bZ er) ((1:Int),x8)) fun bw=>some bw)
theorem sW {gq:Int}{fj:Int}{bZ:ap}{er:ap}{r:aj}(h:iv gq fj bZ er=some r):HC prog 84 [dI .i64 gq,dI .i64 fj,.pt 0 0,.pt 1 0] ⟨[(0,[dI .i64 bZ.vR,dI .i64 bZ.vC,dL ae bZ.vV]),(1,[dI .i64 er.vR,dI .i64 er.vC,dL ae er.vV])],[],2⟩ (dG ae r) ⟨[(0,[dI .i64 bZ.vR,dI .i64 bZ.vC,dL ae bZ.vV]),(1,[dI .i64 er.vR,dI .i64 er.vC,dL ae er.vV])],[],2⟩:=by
 refine HC.ofX (rs:=[.cell 6 34]) tok func84 rfl rfl (dM rfl) rfl (fun cx hx h1=>?_)
 have h0:cx.hp0.next=2:=by rw[h1]
 simp only[eC,Nat.reduceAdd,dA]
 unfold iv at h
 refine rs hx fun K hK=>?_
 refine s1 (bq (F:=ae.f cb) ax) ?_
 refine .nil (hK _ _ (AW.seq (rs hx fun K hK=>?_)))
 refine sa ?_
 refine s1 (aG aT) ?_
 refine sa ?_
 refine .nil (hK _ _ (cdh h rfl (fun cE h=>?_) (fun cE h=>?_)))
 refine rs hx fun K hK=>?_
 refine scb h jA fun x2 h=>?_
 refine s0 (aN (b':=x2) (ao.id _ _) ax) ?_
 refine .nil (hK _ _ (AW.ret ?_))
 cases h
 exact⟨_,qz rfl ax rfl rfl (ltb rfl) (ae.h _) (rfl),nr.of_wk (by rw[hx];exact dM rfl) (wkN h0 [] (wG rfl (al _) wTn) (vR rfl (vR rfl wVn)) wLn)⟩
 refine AW.skip (rsd [75,40] hx fun K hK=>?_)
 refine s1 (d:=dG aE bZ) (bb aq) ?_
 refine sa ?_
 refine cqb h eg fun x4 h=>?_
 refine s1 (d:=dG aE er) (bb aq) ?_
 refine sa ?_
 refine cqb h eg fun x6 h=>?_
 refine cqb h n4 fun x8 h=>?_
 refine s1 (bq (F:=ae.f cb) ax) ?_
 refine s0 (aN (b':=x8) (ao.id _ _) ax) ?_
 refine .nil (hK _ _ (AW.seq (ra hx ?_)))
 refine AW.block ?_
 obtain⟨bw,hy,h⟩:=ah h
 refine lp (S:=Int×aj) (X:=aj) (fun (aK,d5)=>[(0,dI .i64 gq),(1,dI .i64 fj),(2,.pt 0 0),(3,.pt 1 0),(6,.pt 2 0),(7,.pt 3 0),(8,dI .i64 aK)]) (fun (aK,d5)=>⟨[(0,[dI .i64 bZ.vR,dI .i64 bZ.vC,dL ae bZ.vV]),(1,[dI .i64 er.vR,dI .i64 er.vC,dL ae er.vV]),(2,dC (ae.f cb)),(3,dC (ae.f d5))],[],4⟩) (PE cx (.exit 0) (fun bw=>[(6,.pt 2 0),(7,.pt 3 0)]) fun bw=>⟨[(0,[dI .i64 bZ.vR,dI .i64 bZ.vC,dL ae bZ.vV]),(1,[dI .i64 er.vR,dI .i64 er.vC,dL ae er.vV]),(2,dC (ae.f cb)),(3,dC (ae.f bw))],[],4⟩) hy ?_ ?_ ?_
 exact wkN h0 [2,3] (wR rfl (wR rfl (wR rfl (wR rfl (wR rfl (wR rfl (wR rfl wTn))))))) (vR rfl (vR rfl (vC rfl (vC rfl wVn)))) wLn
 clear hy h
 rintro⟨aK,d5⟩ y h
 dsimp only[gA] at h
 refine AW.seq (rs hx fun K hK=>?_)
 iterate 2 refine sa ?_
 refine s1 (aG aT) ?_
 refine sa ?_
 refine .nil (hK _ _ (cdh h rfl (fun eH h=>?_) (fun eH h=>?_)))
 refine AW.skip (AW.seq (AW.block (rqd [75,40,85] hx fun K hK=>?_)))
 refine s1 (d:=dG ae d5) (aA (ao.id _ _) ax) ?_
 refine s1 (d:=dG aE bZ) (bb aq) ?_
 iterate 2 refine sa ?_
 refine cqb h eg fun qx h=>?_
 refine s1 (d:=dG aE er) (bb aq) ?_
 iterate 2 refine sa ?_
 refine cqb h eg fun lw h=>?_
 refine cqb h n4 fun sQ h=>?_
 refine cqb h uY fun ny h=>?_
 refine s0 (aN (b':=ny) (ao.id _ _) ax) ?_
 refine .nil (hK _ _ (rb hx ?_))
 cases h
 exact PS.l (PE.i (wkN h0 [2,3] (wR rfl (wR rfl (wR rfl (wR rfl (wR rfl (wR rfl (wR rfl wTn))))))) (vR rfl (vR rfl (vC rfl (vC rfl wVn)))) wLn))
 refine AW.exit ?_
 try dsimp only
 try simp only[aO,reduceIte,Nat.reduceEqDiff,reduceCtorEq]
 cases h
 exact PS.r ⟨by nofun,PE.i (wkN h0 [2,3] (wR rfl (wR rfl wTn)) (vR rfl (vR rfl (vC rfl (vC rfl wVn)))) wLn)⟩
 rintro ex tm' hp' ⟨rfl,hw⟩
 try dsimp only
 try simp only[aO,reduceIte,Nat.reduceEqDiff,reduceCtorEq]
 refine AW.weak hw (rs hx fun K hK=>?_)
 refine s1 (d:=dG ae bw) (aA (ao.id _ _) ax) ?_
 refine s0 (aN (b':=bw) (ao.id _ _) ax) ?_
 refine .nil (hK _ _ (AW.ret ?_))
 cases h
 exact⟨_,qz rfl ax rfl rfl (ltb rfl) (ae.h _) (rfl),nr.of_wk (by rw[hx];exact dM rfl) (wkN h0 [] (wG rfl (al _) wTn) (vR rfl (vR rfl wVn)) wLn)⟩
def js(bz:Int)(bZ:ap)(er:ap)(aL:Int):Int×(List aj)→Option ((Int×(List aj))⊕((List aj))):=fun (bQ,bn)=>cnd (decide (bQ<bz)) (bnd (iv aL bQ bZ er) fun x3=>gd ((bn++[x3]).length*136≤140737488355328) (some (.inl (i64.wrap (bQ+(1:Int)),bn++[x3])))) (some (.inr bn))
def jQ(bL:Int)(bz:Int)(bZ:ap)(er:ap):Int×(List aj)→Option ((Int×(List aj))⊕((List aj))):=fun (aL,a6)=>cnd (decide (aL<bL)) (bnd (bf (js bz bZ er aL) ((0:Int),a6)) fun bM=>some (.inl (i64.wrap (aL+(1:Int)),bM))) (some (.inr a6))
def kb(bL:Int)(bz:Int)(bZ:ap)(er:ap):Option (ap×Int):=bnd (bf (jQ bL bz bZ er) ((0:Int),([]:List aj))) fun aD=>bnd (dJ aD) fun x8=>cnd (!x8) (some ((⟨(0:Int),(0:Int),([]:List aj)⟩:ap),(30:Int))) (some ((⟨bL,bz,aD⟩:ap),(0:Int)))
theorem zk {bL:Int}{bz:Int}{bZ:ap}{er:ap}{r:ap×Int}(h:kb bL bz bZ er=some r):HC prog 73 [dI .i64 bL,dI .i64 bz,.fn 84 [0,1]] ⟨[(0,[dI .i64 bZ.vR,dI .i64 bZ.vC,dL ae bZ.vV]),(1,[dI .i64 er.vR,dI .i64 er.vC,dL ae er.vV])],[],2⟩ (.tu [dG aE r.1,dI .i64 r.2]) ⟨[(0,[dI .i64 bZ.vR,dI .i64 bZ.vC,dL ae bZ.vV]),(1,[dI .i64 er.vR,dI .i64 er.vC,dL ae er.vV])],[],2⟩:=by
 refine HC.ofX (rs:=[.cell 6 24,.tmp 7]) tok func73 rfl rfl (dM rfl) rfl (fun cx hx h1=>?_)
 have h0:cx.hp0.next=2:=by rw[h1]
 simp only[eC,Nat.reduceAdd,dA]
 unfold kb at h
 refine rs hx fun K hK=>?_
 refine s1 (d:=.pt 2 0) (bc aq) ?_
 refine sa ?_
 refine .nil (hK _ _ (rs hx fun K hK=>?_))
 iterate 2 refine sa ?_
 refine s1 (d:=.ag [dI .i64 bL,dI .i64 bz,dN]) (bE aq) ?_
 refine s1 (d:=.pt 3 0) (bc aq) ?_
 refine s0 (bO (ds':=[dI .i64 bL,dI .i64 bz,dN]) aq) ?_
 refine .nil (hK _ _ (AW.seq (ra hx ?_)))
 refine AW.block ?_
 obtain⟨aD,hy,h⟩:=ah h
 refine lp (S:=Int×(List aj)) (X:=(List aj)) (fun (aL,a6)=>[(1,dI .i64 bz),(2,.fn 84 [0,1]),(6,.pt 2 0),(8,.pt 3 0),(14,dI .i64 bL),(15,dI .i64 aL)]) (fun (aL,a6)=>⟨[(0,[dI .i64 bZ.vR,dI .i64 bZ.vC,dL ae bZ.vV]),(1,[dI .i64 er.vR,dI .i64 er.vC,dL ae er.vV]),(2,[dI .i64 (0:Int),dI .i64 (0:Int),dN]),(3,[dI .i64 bL,dI .i64 bz,dO 4 ae a6])],[(4,(a6).length,36,34)],5⟩) (PE cx (.exit 0) (fun aD=>[(6,.pt 2 0),(8,.pt 3 0)]) fun aD=>⟨[(0,[dI .i64 bZ.vR,dI .i64 bZ.vC,dL ae bZ.vV]),(1,[dI .i64 er.vR,dI .i64 er.vC,dL ae er.vV]),(2,[dI .i64 (0:Int),dI .i64 (0:Int),dN]),(3,[dI .i64 bL,dI .i64 bz,dO 4 ae aD])],[(4,(aD).length,36,34)],5⟩) hy ?_ ?_ ?_
 exact Wk.trans (Wk.nilOwn (ds':=[dI .i64 bL,dI .i64 bz,dO 4 ae ([]:List aj)]) 3 2 34 36) (wkN h0 [2,3,4] (wR rfl (wR rfl (wR rfl (wR rfl (wR rfl (wR rfl wTn)))))) (vR rfl (vR rfl (vR rfl (vR rfl wVn)))) (wL rfl rfl wLn))
 clear hy h
 rintro⟨aL,a6⟩ y h
 dsimp only[jQ] at h
 refine ra hx ?_
 refine AW.seq (cdh h rfl (fun cE h=>?_) (fun cE h=>?_))
 refine AW.skip (AW.seq (AW.block ?_))
 iterate 2 refine ra hx ?_
 refine AW.block ?_
 obtain⟨bM,hy,h⟩:=ah h
 refine lp (S:=Int×(List aj)) (X:=(List aj)) (fun (bQ,bn)=>[(1,dI .i64 bz),(2,.fn 84 [0,1]),(6,.pt 2 0),(8,.pt 3 0),(9,dI .i64 aL),(14,dI .i64 bL),(15,dI .i64 aL),(18,dI .i64 bz),(19,dI .i64 bQ)]) (fun (bQ,bn)=>⟨[(0,[dI .i64 bZ.vR,dI .i64 bZ.vC,dL ae bZ.vV]),(1,[dI .i64 er.vR,dI .i64 er.vC,dL ae er.vV]),(2,[dI .i64 (0:Int),dI .i64 (0:Int),dN]),(3,[dI .i64 bL,dI .i64 bz,dO 4 ae bn])],[(4,(bn).length,36,34)],5⟩) (PE cx (.exit 2) (fun bM=>[(1,dI .i64 bz),(2,.fn 84 [0,1]),(6,.pt 2 0),(8,.pt 3 0),(14,dI .i64 bL),(15,dI .i64 aL)]) fun bM=>⟨[(0,[dI .i64 bZ.vR,dI .i64 bZ.vC,dL ae bZ.vV]),(1,[dI .i64 er.vR,dI .i64 er.vC,dL ae er.vV]),(2,[dI .i64 (0:Int),dI .i64 (0:Int),dN]),(3,[dI .i64 bL,dI .i64 bz,dO 4 ae bM])],[(4,(bM).length,36,34)],5⟩) hy ?_ ?_ ?_
 exact wkN h0 [2,3,4] (wR rfl (wR rfl (wR rfl (wR rfl (wR rfl (wR rfl (wR rfl (wR rfl (wR rfl wTn))))))))) (vR rfl (vR rfl (vR rfl (vR rfl wVn)))) (wL rfl rfl wLn)
 clear hy h
 rintro⟨bQ,bn⟩ y h
 dsimp only[js] at h
 refine ra hx ?_
 refine AW.seq (cdh h rfl (fun mm h=>?_) (fun mm h=>?_))
 refine AW.skip (AW.seq (AW.block (ra hx ?_)))
 obtain⟨x3,xQ,h⟩:=ah h
 obtain⟨Bu,h⟩:=az h
 refine jn (PE cx .normal (fun (_:Unit)=>[(1,dI .i64 bz),(2,.fn 84 [0,1]),(6,.pt 2 0),(8,.pt 3 0),(9,dI .i64 aL),(14,dI .i64 bL),(15,dI .i64 aL),(18,dI .i64 bz),(19,dI .i64 bQ)]) (fun (_:Unit)=>⟨[(0,[dI .i64 bZ.vR,dI .i64 bZ.vC,dL ae bZ.vV]),(1,[dI .i64 er.vR,dI .i64 er.vC,dL ae er.vV]),(2,[dI .i64 (0:Int),dI .i64 (0:Int),dN]),(3,[dI .i64 bL,dI .i64 bz,dO 4 ae (bn++[x3])])],[(4,(bn++[x3]).length,36,34)],5⟩) ()) ?_ ?_
 refine dw (DW.split 1 5 (by decide) ?_ ?_)
 refine dwg [] [0,1,2,3,4,5,6,7,8,9] hx (by kernel_rfl) (by kernel_rfl) (by kernel_rfl) fun K hK=>?_
 dsimp only[eJ,nE,nS,List.map]
 refine sa ?_
 refine s1 (aG aF) ?_
 iterate 3 refine sa ?_
 refine s1 (lQ [0,1] rfl (sW xQ) (fA (al _) (fA (al _) (fA (al _) (fA (al _) fAn)))) (vR rfl (vR rfl wVn)) wLn (rvE (rvE rvN)) (pP _ _ _) (uu _ _)) ?_
 refine s1 (iM ([x3]:List aj) ae aF ax) ?_
 refine s1 (d:=dO 4 ae (bn++[x3])) (gc aF ax Bu) ?_
 refine sa ?_
 refine s0 (bO (ds':=[dI .i64 bL,dI .i64 bz,dO 4 ae (bn++[x3])]) aF) ?_
 exact .nil (hK _ _ (PE.i (wkN h0 [2,3,4] (wR rfl (wR rfl (wR rfl (wR rfl (wR rfl (wR rfl (wR rfl (wR rfl (wR rfl wTn))))))))) (vR rfl (vR rfl (vR rfl (vR rfl wVn)))) (wL rfl rfl wLn))))
 refine dwg [] [0,2,3,4,5,1,6,7,8,9] hx (by kernel_rfl) (by kernel_rfl) (by kernel_rfl) fun K hK=>?_
 dsimp only[eJ,nE,nS,List.map]
 iterate 4 refine sa ?_
 refine s1 (lQ [0,1] rfl (sW xQ) (fA (al _) (fA (al _) (fA (al _) (fA (al _) fAn)))) (vR rfl (vR rfl wVn)) wLn (rvE (rvE rvN)) (pP _ _ _) (uu _ _)) ?_
 refine s1 (aG aF) ?_
 refine s1 (iM ([x3]:List aj) ae aF ax) ?_
 refine s1 (d:=dO 4 ae (bn++[x3])) (gc aF ax Bu) ?_
 refine sa ?_
 refine s0 (bO (ds':=[dI .i64 bL,dI .i64 bz,dO 4 ae (bn++[x3])]) aF) ?_
 exact .nil (hK _ _ (PE.i (wkN h0 [2,3,4] (wR rfl (wR rfl (wR rfl (wR rfl (wR rfl (wR rfl (wR rfl (wR rfl (wR rfl wTn))))))))) (vR rfl (vR rfl (vR rfl (vR rfl wVn)))) (wL rfl rfl wLn))))
 rintro ex tm' hp' ⟨rfl,hw⟩
 refine AW.weak hw (rb hx ?_)
 cases h
 exact PS.l (PE.i (wkN h0 [2,3,4] (wR rfl (wR rfl (wR rfl (wR rfl (wR rfl (wR rfl (wR rfl (wR rfl (wR rfl wTn))))))))) (vR rfl (vR rfl (vR rfl (vR rfl wVn)))) (wL rfl rfl wLn)))
 refine AW.exit ?_
 try dsimp only
 try simp only[aO,reduceIte,Nat.reduceEqDiff,reduceCtorEq]
 cases h
 exact PS.r ⟨by nofun,PE.i (wkN h0 [2,3,4] (wR rfl (wR rfl (wR rfl (wR rfl (wR rfl (wR rfl wTn)))))) (vR rfl (vR rfl (vR rfl (vR rfl wVn)))) (wL rfl rfl wLn))⟩
 rintro ex tm' hp' ⟨rfl,hw⟩
 try dsimp only
 try simp only[aO,reduceIte,Nat.reduceEqDiff,reduceCtorEq]
 refine AW.weak hw (rb hx ?_)
 cases h
 exact PS.l (PE.i (wkN h0 [2,3,4] (wR rfl (wR rfl (wR rfl (wR rfl (wR rfl (wR rfl wTn)))))) (vR rfl (vR rfl (vR rfl (vR rfl wVn)))) (wL rfl rfl wLn)))
 refine AW.exit ?_
 try dsimp only
 try simp only[aO,reduceIte,Nat.reduceEqDiff,reduceCtorEq]
 cases h
 exact PS.r ⟨by nofun,PE.i (wkN h0 [2,3,4] (wR rfl (wR rfl wTn)) (vR rfl (vR rfl (vR rfl (vR rfl wVn)))) (wL rfl rfl wLn))⟩
 rintro ex tm' hp' ⟨rfl,hw⟩
 try dsimp only
 try simp only[aO,reduceIte,Nat.reduceEqDiff,reduceCtorEq]
 refine AW.weak hw (AW.seq (rs hx fun K hK=>?_))
 refine sa ?_
 refine s1 (aG aF) ?_
 refine scb h gu fun x8 h=>?_
 refine sa ?_
 refine .nil (hK _ _ (cdh h rfl (fun eH h=>?_) (fun eH h=>?_)))
 refine rs hx fun K hK=>?_
 refine s1 (d:=.ag [dI .i64 (0:Int),dI .i64 (0:Int),dN]) (bE aq) ?_
 refine s0 (bO (ds':=[dI .i64 (0:Int),dI .i64 (0:Int),dN]) aq) ?_
 refine sa ?_
 refine .nil (hK _ _ (AW.ret ?_))
 cases h
 exact⟨_,bJ (es:=[dI .i64 (0:Int),dI .i64 (0:Int),dN]) rfl aq rfl rfl (ltb rfl) (leb rfl) rfl (ci rfl (rfl)),nr.of_wk2 (by rw[hx];exact dM rfl) (wkN h0 [] (wG rfl (eA (wc (co _) (wc (co _) (wc (nT rfl) wcn)))) (wR rfl wTn)) (vR rfl (vR rfl wVn)) wLn)⟩
 refine AW.skip (rs hx fun K hK=>?_)
 refine s1 (d:=.ag [dI .i64 bL,dI .i64 bz,dO 4 ae aD]) (bb aq) ?_
 refine s0 (bO (ds':=[dI .i64 bL,dI .i64 bz,dO 4 ae aD]) aq) ?_
 refine sa ?_
 refine .nil (hK _ _ (AW.ret ?_))
 cases h
 exact⟨_,bJ (es:=[dI .i64 bL,dI .i64 bz,dO 4 ae aD]) rfl aq rfl rfl (ltb rfl) (leb rfl) rfl (ci rfl (rfl)),nr.of_wk2 (by rw[hx];exact dM rfl) (wkN h0 [] (wG rfl (eA (wc (co _) (wc (co _) (wc (A5 _) wcn)))) (wR rfl wTn)) (vR rfl (vR rfl wVn)) wLn)⟩
def oO(aS:ap)(aU:ap):Option (ap×Int):=bnd (S:=Bool) (bnd (b9 [aS,aU]) fun x1=>cnd (!x1) (some (true)) (some (decide (aS.vC≠aU.vR)))) fun a7=>cnd a7 (some ((⟨(0:Int),(0:Int),([]:List aj)⟩:ap),(1:Int))) (bnd (kb aS.vR aU.vC aS aU) fun x6=>some (x6.1,x6.2))
theorem Fc {aS:ap}{aU:ap}{r:ap×Int}(h:oO aS aU=some r):aB prog 31 [dG aE aS,dG aE aU] (.tu [dG aE r.1,dI .i64 r.2]):=by
 refine bC (rs:=[.cell 4 24,.tmp 5]) (fun cx hx h0=>?_) func31
 unfold oO at h
 refine rs hx fun K hK=>?_
 refine s1 (d:=.pt 0 0) d8 ?_
 refine s1 (d:=.pt 1 0) d8 ?_
 refine s1 (d:=.pt 2 0) (bc aq) ?_
 refine sa ?_
 refine .nil (hK _ _ ?_)
 iterate 2 refine AW.seq ?_
 obtain⟨a7,hy,h⟩:=ah h
 refine jn ((PE cx .normal (fun a7=>[(2,.pt 0 0),(3,.pt 1 0),(4,.pt 2 0),(17,dB a7)]) fun a7=>⟨[(0,[dI .i64 aS.vR,dI .i64 aS.vC,dL ae aS.vV]),(1,[dI .i64 aU.vR,dI .i64 aU.vC,dL ae aU.vV]),(2,[dI .i64 (0:Int),dI .i64 (0:Int),dN])],[],3⟩) a7) ?_ ?_
 replace h:=hy
 refine rq hx fun K hK=>?_
 refine s1 (d:=dG aE aS) (bb aq) ?_
 refine s1 (d:=dG aE aU) (bb aq) ?_
 refine s1 (d:=dO 3 aE [aS,aU]) (iI pH aq) ?_
 refine scb h ep fun x1 h=>?_
 iterate 2 refine sa ?_
 rcases aW (!x1) with a8|a8
 replace h:=aY a8 h
 iterate 5 refine aJ rfl rfl a8 ?_
 refine s1 (am a8) ?_
 refine .nil (hK _ _ ?_)
 cases h
 exact pe0 h0 [0,1,2]
 replace h:=aZ a8 h
 refine ga a8 ?_
 refine g1 a8 (aG aT) ?_
 refine ga a8 ?_
 refine g1 a8 (aG aT) ?_
 refine ga a8 ?_
 refine s1 (au a8) ?_
 refine .nil (hK _ _ ?_)
 cases h
 exact pe0 h0 [0,1,2]
 rintro ex tm' hp' ⟨rfl,hw⟩
 refine AW.weak hw (cdh h rfl (fun iO h=>?_) (fun iO h=>?_))
 refine rs hx fun K hK=>?_
 refine s1 (d:=.ag [dI .i64 (0:Int),dI .i64 (0:Int),dN]) (bE aq) ?_
 refine s0 (bO (ds':=[dI .i64 (0:Int),dI .i64 (0:Int),dN]) aq) ?_
 refine sa ?_
 refine .nil (hK _ _ (AW.ret ?_))
 cases h
 exact dh.mk2 (bJ (es:=[dI .i64 (0:Int),dI .i64 (0:Int),dN]) rfl aq rfl rfl (ltb rfl) (leb rfl) rfl (ci rfl (.inr ⟨_,_,(eA (wc (co _) (wc (co _) (wc (nT rfl) wcn)))),(al _),⟨rfl,rfl⟩,rfl⟩)))
 refine AW.skip (rs hx fun K hK=>?_)
 refine sa ?_
 refine s1 (aG aT) ?_
 refine sa ?_
 refine s1 (aG aT) ?_
 refine s1 vH ?_
 obtain⟨x6,td,h⟩:=ah h
 refine s1 (yX [0,1] rfl (zk td) (fA (al _) (fA (al _) (fA (al _) fAn))) (vR rfl (vR rfl wVn)) wLn) ?_
 iterate 2 refine sa ?_
 refine s0 (bO (ds':=[dI .i64 x6.1.vR,dI .i64 x6.1.vC,dL ae x6.1.vV]) aq) ?_
 refine sa ?_
 refine .nil (hK _ _ (AW.ret ?_))
 cases h
 exact dh.mk2 (bJ (es:=(aE.f x6.1).map .e) rfl aq rfl rfl (ltb rfl) (leb rfl) rfl (ci rfl (.inr ⟨_,_,(al _),(al _),⟨rfl,rfl⟩,rfl⟩)))
def fR(gq:Int)(fj:Int)(bZ:ap):Option aj:=bnd (cC bZ fj gq) fun x1=>some x1
theorem ot {gq:Int}{fj:Int}{bZ:ap}{r:aj}(h:fR gq fj bZ=some r):HC prog 88 [dI .i64 gq,dI .i64 fj,.pt 0 0] ⟨[(0,[dI .i64 bZ.vR,dI .i64 bZ.vC,dL ae bZ.vV])],[],1⟩ (dG ae r) ⟨[(0,[dI .i64 bZ.vR,dI .i64 bZ.vC,dL ae bZ.vV])],[],1⟩:=by
 refine HC.ofX (rs:=[.cell 5 34]) tok func88 rfl rfl (dM rfl) rfl (fun cx hx h1=>?_)
 have h0:cx.hp0.next=1:=by rw[h1]
 simp only[eC,Nat.reduceAdd,dA]
 unfold fR at h
 refine rs hx fun K hK=>?_
 refine s1 (bq (F:=ae.f cb) ax) ?_
 refine .nil (hK _ _ (rs hx fun K hK=>?_))
 refine s1 (d:=dG aE bZ) (bb aq) ?_
 iterate 2 refine sa ?_
 refine scb h eg fun x1 h=>?_
 refine s0 (aN (b':=x1) (ao.id _ _) ax) ?_
 refine .nil (hK _ _ (AW.ret ?_))
 cases h
 exact⟨_,qz rfl ax rfl rfl (ltb rfl) (ae.h _) (rfl),nr.of_wk (by rw[hx];exact dM rfl) (wkN h0 [] (wG rfl (al _) wTn) (vR rfl wVn) wLn)⟩
def jr(bz:Int)(bZ:ap)(aL:Int):Int×(List aj)→Option ((Int×(List aj))⊕((List aj))):=fun (bQ,bn)=>cnd (decide (bQ<bz)) (bnd (fR aL bQ bZ) fun x3=>gd ((bn++[x3]).length*136≤140737488355328) (some (.inl (i64.wrap (bQ+(1:Int)),bn++[x3])))) (some (.inr bn))
def jP(bL:Int)(bz:Int)(bZ:ap):Int×(List aj)→Option ((Int×(List aj))⊕((List aj))):=fun (aL,a6)=>cnd (decide (aL<bL)) (bnd (bf (jr bz bZ aL) ((0:Int),a6)) fun bM=>some (.inl (i64.wrap (aL+(1:Int)),bM))) (some (.inr a6))
def ka(bL:Int)(bz:Int)(bZ:ap):Option (ap×Int):=bnd (bf (jP bL bz bZ) ((0:Int),([]:List aj))) fun aD=>bnd (dJ aD) fun x8=>cnd (!x8) (some ((⟨(0:Int),(0:Int),([]:List aj)⟩:ap),(30:Int))) (some ((⟨bL,bz,aD⟩:ap),(0:Int)))
theorem zj {bL:Int}{bz:Int}{bZ:ap}{r:ap×Int}(h:ka bL bz bZ=some r):HC prog 73 [dI .i64 bL,dI .i64 bz,.fn 88 [0]] ⟨[(0,[dI .i64 bZ.vR,dI .i64 bZ.vC,dL ae bZ.vV])],[],1⟩ (.tu [dG aE r.1,dI .i64 r.2]) ⟨[(0,[dI .i64 bZ.vR,dI .i64 bZ.vC,dL ae bZ.vV])],[],1⟩:=by
 refine HC.ofX (rs:=[.cell 6 24,.tmp 7]) tok func73 rfl rfl (dM rfl) rfl (fun cx hx h1=>?_)
 have h0:cx.hp0.next=1:=by rw[h1]
 simp only[eC,Nat.reduceAdd,dA]
 unfold ka at h
 refine rs hx fun K hK=>?_
 refine s1 (d:=.pt 1 0) (bc aq) ?_
 refine sa ?_
 refine .nil (hK _ _ (rs hx fun K hK=>?_))
 iterate 2 refine sa ?_
 refine s1 (d:=.ag [dI .i64 bL,dI .i64 bz,dN]) (bE aq) ?_
 refine s1 (d:=.pt 2 0) (bc aq) ?_
 refine s0 (bO (ds':=[dI .i64 bL,dI .i64 bz,dN]) aq) ?_
 refine .nil (hK _ _ (AW.seq (ra hx ?_)))
 refine AW.block ?_
 obtain⟨aD,hy,h⟩:=ah h
 refine lp (S:=Int×(List aj)) (X:=(List aj)) (fun (aL,a6)=>[(1,dI .i64 bz),(2,.fn 88 [0]),(6,.pt 1 0),(8,.pt 2 0),(14,dI .i64 bL),(15,dI .i64 aL)]) (fun (aL,a6)=>⟨[(0,[dI .i64 bZ.vR,dI .i64 bZ.vC,dL ae bZ.vV]),(1,[dI .i64 (0:Int),dI .i64 (0:Int),dN]),(2,[dI .i64 bL,dI .i64 bz,dO 3 ae a6])],[(3,(a6).length,36,34)],4⟩) (PE cx (.exit 0) (fun aD=>[(6,.pt 1 0),(8,.pt 2 0)]) fun aD=>⟨[(0,[dI .i64 bZ.vR,dI .i64 bZ.vC,dL ae bZ.vV]),(1,[dI .i64 (0:Int),dI .i64 (0:Int),dN]),(2,[dI .i64 bL,dI .i64 bz,dO 3 ae aD])],[(3,(aD).length,36,34)],4⟩) hy ?_ ?_ ?_
 exact Wk.trans (Wk.nilOwn (ds':=[dI .i64 bL,dI .i64 bz,dO 3 ae ([]:List aj)]) 2 2 34 36) (wkN h0 [1,2,3] (wR rfl (wR rfl (wR rfl (wR rfl (wR rfl (wR rfl wTn)))))) (vR rfl (vR rfl (vR rfl wVn))) (wL rfl rfl wLn))
 clear hy h
 rintro⟨aL,a6⟩ y h
 dsimp only[jP] at h
 refine ra hx ?_
 refine AW.seq (cdh h rfl (fun cE h=>?_) (fun cE h=>?_))
 refine AW.skip (AW.seq (AW.block ?_))
 iterate 2 refine ra hx ?_
 refine AW.block ?_
 obtain⟨bM,hy,h⟩:=ah h
 refine lp (S:=Int×(List aj)) (X:=(List aj)) (fun (bQ,bn)=>[(1,dI .i64 bz),(2,.fn 88 [0]),(6,.pt 1 0),(8,.pt 2 0),(9,dI .i64 aL),(14,dI .i64 bL),(15,dI .i64 aL),(18,dI .i64 bz),(19,dI .i64 bQ)]) (fun (bQ,bn)=>⟨[(0,[dI .i64 bZ.vR,dI .i64 bZ.vC,dL ae bZ.vV]),(1,[dI .i64 (0:Int),dI .i64 (0:Int),dN]),(2,[dI .i64 bL,dI .i64 bz,dO 3 ae bn])],[(3,(bn).length,36,34)],4⟩) (PE cx (.exit 2) (fun bM=>[(1,dI .i64 bz),(2,.fn 88 [0]),(6,.pt 1 0),(8,.pt 2 0),(14,dI .i64 bL),(15,dI .i64 aL)]) fun bM=>⟨[(0,[dI .i64 bZ.vR,dI .i64 bZ.vC,dL ae bZ.vV]),(1,[dI .i64 (0:Int),dI .i64 (0:Int),dN]),(2,[dI .i64 bL,dI .i64 bz,dO 3 ae bM])],[(3,(bM).length,36,34)],4⟩) hy ?_ ?_ ?_
 exact wkN h0 [1,2,3] (wR rfl (wR rfl (wR rfl (wR rfl (wR rfl (wR rfl (wR rfl (wR rfl (wR rfl wTn))))))))) (vR rfl (vR rfl (vR rfl wVn))) (wL rfl rfl wLn)
 clear hy h
 rintro⟨bQ,bn⟩ y h
 dsimp only[jr] at h
 refine ra hx ?_
 refine AW.seq (cdh h rfl (fun mm h=>?_) (fun mm h=>?_))
 refine AW.skip (AW.seq (AW.block (ra hx ?_)))
 obtain⟨x3,xQ,h⟩:=ah h
 obtain⟨Bu,h⟩:=az h
 refine jn (PE cx .normal (fun (_:Unit)=>[(1,dI .i64 bz),(2,.fn 88 [0]),(6,.pt 1 0),(8,.pt 2 0),(9,dI .i64 aL),(14,dI .i64 bL),(15,dI .i64 aL),(18,dI .i64 bz),(19,dI .i64 bQ)]) (fun (_:Unit)=>⟨[(0,[dI .i64 bZ.vR,dI .i64 bZ.vC,dL ae bZ.vV]),(1,[dI .i64 (0:Int),dI .i64 (0:Int),dN]),(2,[dI .i64 bL,dI .i64 bz,dO 3 ae (bn++[x3])])],[(3,(bn++[x3]).length,36,34)],4⟩) ()) ?_ ?_
 refine dw (DW.split 1 5 (by decide) ?_ ?_)
 refine dwg [] [0,1,2,3,4,5,6,7,8,9] hx (by kernel_rfl) (by kernel_rfl) (by kernel_rfl) fun K hK=>?_
 dsimp only[eJ,nE,nS,List.map]
 refine sa ?_
 refine s1 (aG aF) ?_
 iterate 3 refine sa ?_
 refine s1 (lQ [0] rfl (ot xQ) (fA (al _) (fA (al _) (fA (al _) fAn))) (vR rfl wVn) wLn (rvE rvN) (pP _ _ _) (uu _ _)) ?_
 refine s1 (iM ([x3]:List aj) ae aF ax) ?_
 refine s1 (d:=dO 3 ae (bn++[x3])) (gc aF ax Bu) ?_
 refine sa ?_
 refine s0 (bO (ds':=[dI .i64 bL,dI .i64 bz,dO 3 ae (bn++[x3])]) aF) ?_
 exact .nil (hK _ _ (PE.i (wkN h0 [1,2,3] (wR rfl (wR rfl (wR rfl (wR rfl (wR rfl (wR rfl (wR rfl (wR rfl (wR rfl wTn))))))))) (vR rfl (vR rfl (vR rfl wVn))) (wL rfl rfl wLn))))
 refine dwg [] [0,2,3,4,5,1,6,7,8,9] hx (by kernel_rfl) (by kernel_rfl) (by kernel_rfl) fun K hK=>?_
 dsimp only[eJ,nE,nS,List.map]
 iterate 4 refine sa ?_
 refine s1 (lQ [0] rfl (ot xQ) (fA (al _) (fA (al _) (fA (al _) fAn))) (vR rfl wVn) wLn (rvE rvN) (pP _ _ _) (uu _ _)) ?_
 refine s1 (aG aF) ?_
 refine s1 (iM ([x3]:List aj) ae aF ax) ?_
 refine s1 (d:=dO 3 ae (bn++[x3])) (gc aF ax Bu) ?_
 refine sa ?_
 refine s0 (bO (ds':=[dI .i64 bL,dI .i64 bz,dO 3 ae (bn++[x3])]) aF) ?_
 exact .nil (hK _ _ (PE.i (wkN h0 [1,2,3] (wR rfl (wR rfl (wR rfl (wR rfl (wR rfl (wR rfl (wR rfl (wR rfl (wR rfl wTn))))))))) (vR rfl (vR rfl (vR rfl wVn))) (wL rfl rfl wLn))))
 rintro ex tm' hp' ⟨rfl,hw⟩
 refine AW.weak hw (rb hx ?_)
 cases h
 exact PS.l (PE.i (wkN h0 [1,2,3] (wR rfl (wR rfl (wR rfl (wR rfl (wR rfl (wR rfl (wR rfl (wR rfl (wR rfl wTn))))))))) (vR rfl (vR rfl (vR rfl wVn))) (wL rfl rfl wLn)))
 refine AW.exit ?_
 try dsimp only
 try simp only[aO,reduceIte,Nat.reduceEqDiff,reduceCtorEq]
 cases h
 exact PS.r ⟨by nofun,PE.i (wkN h0 [1,2,3] (wR rfl (wR rfl (wR rfl (wR rfl (wR rfl (wR rfl wTn)))))) (vR rfl (vR rfl (vR rfl wVn))) (wL rfl rfl wLn))⟩
 rintro ex tm' hp' ⟨rfl,hw⟩
 try dsimp only
 try simp only[aO,reduceIte,Nat.reduceEqDiff,reduceCtorEq]
 refine AW.weak hw (rb hx ?_)
 cases h
 exact PS.l (PE.i (wkN h0 [1,2,3] (wR rfl (wR rfl (wR rfl (wR rfl (wR rfl (wR rfl wTn)))))) (vR rfl (vR rfl (vR rfl wVn))) (wL rfl rfl wLn)))
 refine AW.exit ?_
 try dsimp only
 try simp only[aO,reduceIte,Nat.reduceEqDiff,reduceCtorEq]
 cases h
 exact PS.r ⟨by nofun,PE.i (wkN h0 [1,2,3] (wR rfl (wR rfl wTn)) (vR rfl (vR rfl (vR rfl wVn))) (wL rfl rfl wLn))⟩
 rintro ex tm' hp' ⟨rfl,hw⟩
 try dsimp only
 try simp only[aO,reduceIte,Nat.reduceEqDiff,reduceCtorEq]
 refine AW.weak hw (AW.seq (rs hx fun K hK=>?_))
 refine sa ?_
 refine s1 (aG aF) ?_
 refine scb h gu fun x8 h=>?_
 refine sa ?_
 refine .nil (hK _ _ (cdh h rfl (fun eH h=>?_) (fun eH h=>?_)))
 refine rs hx fun K hK=>?_
 refine s1 (d:=.ag [dI .i64 (0:Int),dI .i64 (0:Int),dN]) (bE aq) ?_
 refine s0 (bO (ds':=[dI .i64 (0:Int),dI .i64 (0:Int),dN]) aq) ?_
 refine sa ?_
 refine .nil (hK _ _ (AW.ret ?_))
 cases h
 exact⟨_,bJ (es:=[dI .i64 (0:Int),dI .i64 (0:Int),dN]) rfl aq rfl rfl (ltb rfl) (leb rfl) rfl (ci rfl (rfl)),nr.of_wk2 (by rw[hx];exact dM rfl) (wkN h0 [] (wG rfl (eA (wc (co _) (wc (co _) (wc (nT rfl) wcn)))) (wR rfl wTn)) (vR rfl wVn) wLn)⟩
 refine AW.skip (rs hx fun K hK=>?_)
 refine s1 (d:=.ag [dI .i64 bL,dI .i64 bz,dO 3 ae aD]) (bb aq) ?_
 refine s0 (bO (ds':=[dI .i64 bL,dI .i64 bz,dO 3 ae aD]) aq) ?_
 refine sa ?_
 refine .nil (hK _ _ (AW.ret ?_))
 cases h
 exact⟨_,bJ (es:=[dI .i64 bL,dI .i64 bz,dO 3 ae aD]) rfl aq rfl rfl (ltb rfl) (leb rfl) rfl (ci rfl (rfl)),nr.of_wk2 (by rw[hx];exact dM rfl) (wkN h0 [] (wG rfl (eA (wc (co _) (wc (co _) (wc (A5 _) wcn)))) (wR rfl wTn)) (vR rfl wVn) wLn)⟩
def iD(cQ:ap):Option (ap×Int):=bnd (b9 [cQ]) fun x1=>cnd (!x1) (some ((⟨(0:Int),(0:Int),([]:List aj)⟩:ap),(1:Int))) (bnd (ka cQ.vC cQ.vR cQ) fun x4=>some (x4.1,x4.2))
theorem xc {cQ:ap}{r:ap×Int}(h:iD cQ=some r):aB prog 39 [dG aE cQ] (.tu [dG aE r.1,dI .i64 r.2]):=by
 refine bC (rs:=[.cell 2 24,.tmp 3]) (fun cx hx h0=>?_) func39
 unfold iD at h
 refine rs hx fun K hK=>?_
 refine s1 (d:=.pt 0 0) d8 ?_
 refine s1 (d:=.pt 1 0) (bc aq) ?_
 refine sa ?_
 refine .nil (hK _ _ (AW.seq (rs hx fun K hK=>?_)))
 refine s1 (d:=dG aE cQ) (bb aq) ?_
 refine s1 (d:=dO 2 aE [cQ]) (iI pH aq) ?_
 refine scb h ep fun x1 h=>?_
 refine sa ?_
 refine .nil (hK _ _ (cdh h rfl (fun a8 h=>?_) (fun a8 h=>?_)))
 refine rs hx fun K hK=>?_
 refine s1 (d:=.ag [dI .i64 (0:Int),dI .i64 (0:Int),dN]) (bE aq) ?_
 refine s0 (bO (ds':=[dI .i64 (0:Int),dI .i64 (0:Int),dN]) aq) ?_
 refine sa ?_
 refine .nil (hK _ _ (AW.ret ?_))
 cases h
 exact dh.mk2 (bJ (es:=[dI .i64 (0:Int),dI .i64 (0:Int),dN]) rfl aq rfl rfl (ltb rfl) (leb rfl) rfl (ci rfl (.inr ⟨_,_,(eA (wc (co _) (wc (co _) (wc (nT rfl) wcn)))),(al _),⟨rfl,rfl⟩,rfl⟩)))
 refine AW.skip (rs hx fun K hK=>?_)
 refine sa ?_
 refine s1 (aG aT) ?_
 refine sa ?_
 refine s1 (aG aT) ?_
 refine s1 vH ?_
 obtain⟨x4,pk,h⟩:=ah h
 refine s1 (yX [0] rfl (zj pk) (fA (al _) (fA (al _) (fA (al _) fAn))) (vR rfl wVn) wLn) ?_
 iterate 2 refine sa ?_
 refine s0 (bO (ds':=[dI .i64 x4.1.vR,dI .i64 x4.1.vC,dL ae x4.1.vV]) aq) ?_
 refine sa ?_
 refine .nil (hK _ _ (AW.ret ?_))
 cases h
 exact dh.mk2 (bJ (es:=(aE.f x4.1).map .e) rfl aq rfl rfl (ltb rfl) (leb rfl) rfl (ci rfl (.inr ⟨_,_,(al _),(al _),⟨rfl,rfl⟩,rfl⟩)))
def gW(gq:Int)(fj:Int)(bZ:ap)(er:ap):Option aj:=cnd (decide (fj<bZ.vC)) (bnd (cC bZ gq fj) fun x2=>some x2) (bnd (cC er gq (i64.wrap (fj - bZ.vC))) fun x4=>some x4)
theorem qK {gq:Int}{fj:Int}{bZ:ap}{er:ap}{r:aj}(h:gW gq fj bZ er=some r):HC prog 98 [dI .i64 gq,dI .i64 fj,.pt 0 0,.pt 1 0] ⟨[(0,[dI .i64 bZ.vR,dI .i64 bZ.vC,dL ae bZ.vV]),(1,[dI .i64 er.vR,dI .i64 er.vC,dL ae er.vV])],[],2⟩ (dG ae r) ⟨[(0,[dI .i64 bZ.vR,dI .i64 bZ.vC,dL ae bZ.vV]),(1,[dI .i64 er.vR,dI .i64 er.vC,dL ae er.vV])],[],2⟩:=by
 refine HC.ofX (rs:=[.cell 6 34]) tok func98 rfl rfl (dM rfl) rfl (fun cx hx h1=>?_)
 have h0:cx.hp0.next=2:=by rw[h1]
 simp only[eC,Nat.reduceAdd,dA]
 unfold gW at h
 refine rs hx fun K hK=>?_
 refine s1 (bq (F:=ae.f cb) ax) ?_
 refine .nil (hK _ _ (AW.seq (rs hx fun K hK=>?_)))
 iterate 2 refine sa ?_
 refine s1 (aG aT) ?_
 refine sa ?_
 refine .nil (hK _ _ (cdh h rfl (fun cE h=>?_) (fun cE h=>?_)))
 refine rs hx fun K hK=>?_
 refine s1 (d:=dG aE bZ) (bb aq) ?_
 iterate 2 refine sa ?_
 refine scb h eg fun x2 h=>?_
 refine s0 (aN (b':=x2) (ao.id _ _) ax) ?_
 refine .nil (hK _ _ (AW.ret ?_))
 cases h
 exact⟨_,qz rfl ax rfl rfl (ltb rfl) (ae.h _) (rfl),nr.of_wk (by rw[hx];exact dM rfl) (wkN h0 [] (wG rfl (al _) wTn) (vR rfl (vR rfl wVn)) wLn)⟩
 refine AW.skip (rs hx fun K hK=>?_)
 refine s1 (d:=dG aE er) (bb aq) ?_
 iterate 3 refine sa ?_
 refine s1 (aG aT) ?_
 refine sa ?_
 refine scb h eg fun x4 h=>?_
 refine s0 (aN (b':=x4) (ao.id _ _) ax) ?_
 refine .nil (hK _ _ (AW.ret ?_))
 cases h
 exact⟨_,qz rfl ax rfl rfl (ltb rfl) (ae.h _) (rfl),nr.of_wk (by rw[hx];exact dM rfl) (wkN h0 [] (wG rfl (al _) wTn) (vR rfl (vR rfl wVn)) wLn)⟩
def jq(bz:Int)(bZ:ap)(er:ap)(aL:Int):Int×(List aj)→Option ((Int×(List aj))⊕((List aj))):=fun (bQ,bn)=>cnd (decide (bQ<bz)) (bnd (gW aL bQ bZ er) fun x3=>gd ((bn++[x3]).length*136≤140737488355328) (some (.inl (i64.wrap (bQ+(1:Int)),bn++[x3])))) (some (.inr bn))
def jO(bL:Int)(bz:Int)(bZ:ap)(er:ap):Int×(List aj)→Option ((Int×(List aj))⊕((List aj))):=fun (aL,a6)=>cnd (decide (aL<bL)) (bnd (bf (jq bz bZ er aL) ((0:Int),a6)) fun bM=>some (.inl (i64.wrap (aL+(1:Int)),bM))) (some (.inr a6))
def j9(bL:Int)(bz:Int)(bZ:ap)(er:ap):Option (ap×Int):=bnd (bf (jO bL bz bZ er) ((0:Int),([]:List aj))) fun aD=>bnd (dJ aD) fun x8=>cnd (!x8) (some ((⟨(0:Int),(0:Int),([]:List aj)⟩:ap),(30:Int))) (some ((⟨bL,bz,aD⟩:ap),(0:Int)))
theorem zi {bL:Int}{bz:Int}{bZ:ap}{er:ap}{r:ap×Int}(h:j9 bL bz bZ er=some r):HC prog 73 [dI .i64 bL,dI .i64 bz,.fn 98 [0,1]] ⟨[(0,[dI .i64 bZ.vR,dI .i64 bZ.vC,dL ae bZ.vV]),(1,[dI .i64 er.vR,dI .i64 er.vC,dL ae er.vV])],[],2⟩ (.tu [dG aE r.1,dI .i64 r.2]) ⟨[(0,[dI .i64 bZ.vR,dI .i64 bZ.vC,dL ae bZ.vV]),(1,[dI .i64 er.vR,dI .i64 er.vC,dL ae er.vV])],[],2⟩:=by
 refine HC.ofX (rs:=[.cell 6 24,.tmp 7]) tok func73 rfl rfl (dM rfl) rfl (fun cx hx h1=>?_)
 have h0:cx.hp0.next=2:=by rw[h1]
 simp only[eC,Nat.reduceAdd,dA]
 unfold j9 at h
 refine rs hx fun K hK=>?_
 refine s1 (d:=.pt 2 0) (bc aq) ?_
 refine sa ?_
 refine .nil (hK _ _ (rs hx fun K hK=>?_))
 iterate 2 refine sa ?_
 refine s1 (d:=.ag [dI .i64 bL,dI .i64 bz,dN]) (bE aq) ?_
 refine s1 (d:=.pt 3 0) (bc aq) ?_
 refine s0 (bO (ds':=[dI .i64 bL,dI .i64 bz,dN]) aq) ?_
 refine .nil (hK _ _ (AW.seq (ra hx ?_)))
 refine AW.block ?_
 obtain⟨aD,hy,h⟩:=ah h
 refine lp (S:=Int×(List aj)) (X:=(List aj)) (fun (aL,a6)=>[(1,dI .i64 bz),(2,.fn 98 [0,1]),(6,.pt 2 0),(8,.pt 3 0),(14,dI .i64 bL),(15,dI .i64 aL)]) (fun (aL,a6)=>⟨[(0,[dI .i64 bZ.vR,dI .i64 bZ.vC,dL ae bZ.vV]),(1,[dI .i64 er.vR,dI .i64 er.vC,dL ae er.vV]),(2,[dI .i64 (0:Int),dI .i64 (0:Int),dN]),(3,[dI .i64 bL,dI .i64 bz,dO 4 ae a6])],[(4,(a6).length,36,34)],5⟩) (PE cx (.exit 0) (fun aD=>[(6,.pt 2 0),(8,.pt 3 0)]) fun aD=>⟨[(0,[dI .i64 bZ.vR,dI .i64 bZ.vC,dL ae bZ.vV]),(1,[dI .i64 er.vR,dI .i64 er.vC,dL ae er.vV]),(2,[dI .i64 (0:Int),dI .i64 (0:Int),dN]),(3,[dI .i64 bL,dI .i64 bz,dO 4 ae aD])],[(4,(aD).length,36,34)],5⟩) hy ?_ ?_ ?_
 exact Wk.trans (Wk.nilOwn (ds':=[dI .i64 bL,dI .i64 bz,dO 4 ae ([]:List aj)]) 3 2 34 36) (wkN h0 [2,3,4] (wR rfl (wR rfl (wR rfl (wR rfl (wR rfl (wR rfl wTn)))))) (vR rfl (vR rfl (vR rfl (vR rfl wVn)))) (wL rfl rfl wLn))
 clear hy h
 rintro⟨aL,a6⟩ y h
 dsimp only[jO] at h
 refine ra hx ?_
 refine AW.seq (cdh h rfl (fun cE h=>?_) (fun cE h=>?_))
 refine AW.skip (AW.seq (AW.block ?_))
 iterate 2 refine ra hx ?_
 refine AW.block ?_
 obtain⟨bM,hy,h⟩:=ah h
 refine lp (S:=Int×(List aj)) (X:=(List aj)) (fun (bQ,bn)=>[(1,dI .i64 bz),(2,.fn 98 [0,1]),(6,.pt 2 0),(8,.pt 3 0),(9,dI .i64 aL),(14,dI .i64 bL),(15,dI .i64 aL),(18,dI .i64 bz),(19,dI .i64 bQ)]) (fun (bQ,bn)=>⟨[(0,[dI .i64 bZ.vR,dI .i64 bZ.vC,dL ae bZ.vV]),(1,[dI .i64 er.vR,dI .i64 er.vC,dL ae er.vV]),(2,[dI .i64 (0:Int),dI .i64 (0:Int),dN]),(3,[dI .i64 bL,dI .i64 bz,dO 4 ae bn])],[(4,(bn).length,36,34)],5⟩) (PE cx (.exit 2) (fun bM=>[(1,dI .i64 bz),(2,.fn 98 [0,1]),(6,.pt 2 0),(8,.pt 3 0),(14,dI .i64 bL),(15,dI .i64 aL)]) fun bM=>⟨[(0,[dI .i64 bZ.vR,dI .i64 bZ.vC,dL ae bZ.vV]),(1,[dI .i64 er.vR,dI .i64 er.vC,dL ae er.vV]),(2,[dI .i64 (0:Int),dI .i64 (0:Int),dN]),(3,[dI .i64 bL,dI .i64 bz,dO 4 ae bM])],[(4,(bM).length,36,34)],5⟩) hy ?_ ?_ ?_
 exact wkN h0 [2,3,4] (wR rfl (wR rfl (wR rfl (wR rfl (wR rfl (wR rfl (wR rfl (wR rfl (wR rfl wTn))))))))) (vR rfl (vR rfl (vR rfl (vR rfl wVn)))) (wL rfl rfl wLn)
 clear hy h
 rintro⟨bQ,bn⟩ y h
 dsimp only[jq] at h
 refine ra hx ?_
 refine AW.seq (cdh h rfl (fun mm h=>?_) (fun mm h=>?_))
 refine AW.skip (AW.seq (AW.block (ra hx ?_)))
 obtain⟨x3,xQ,h⟩:=ah h
 obtain⟨Bu,h⟩:=az h
 refine jn (PE cx .normal (fun (_:Unit)=>[(1,dI .i64 bz),(2,.fn 98 [0,1]),(6,.pt 2 0),(8,.pt 3 0),(9,dI .i64 aL),(14,dI .i64 bL),(15,dI .i64 aL),(18,dI .i64 bz),(19,dI .i64 bQ)]) (fun (_:Unit)=>⟨[(0,[dI .i64 bZ.vR,dI .i64 bZ.vC,dL ae bZ.vV]),(1,[dI .i64 er.vR,dI .i64 er.vC,dL ae er.vV]),(2,[dI .i64 (0:Int),dI .i64 (0:Int),dN]),(3,[dI .i64 bL,dI .i64 bz,dO 4 ae (bn++[x3])])],[(4,(bn++[x3]).length,36,34)],5⟩) ()) ?_ ?_
 refine dw (DW.split 1 5 (by decide) ?_ ?_)
 refine dwg [] [0,1,2,3,4,5,6,7,8,9] hx (by kernel_rfl) (by kernel_rfl) (by kernel_rfl) fun K hK=>?_
 dsimp only[eJ,nE,nS,List.map]
 refine sa ?_
 refine s1 (aG aF) ?_
 iterate 3 refine sa ?_
 refine s1 (lQ [0,1] rfl (qK xQ) (fA (al _) (fA (al _) (fA (al _) (fA (al _) fAn)))) (vR rfl (vR rfl wVn)) wLn (rvE (rvE rvN)) (pP _ _ _) (uu _ _)) ?_
 refine s1 (iM ([x3]:List aj) ae aF ax) ?_
 refine s1 (d:=dO 4 ae (bn++[x3])) (gc aF ax Bu) ?_
 refine sa ?_
 refine s0 (bO (ds':=[dI .i64 bL,dI .i64 bz,dO 4 ae (bn++[x3])]) aF) ?_
 exact .nil (hK _ _ (PE.i (wkN h0 [2,3,4] (wR rfl (wR rfl (wR rfl (wR rfl (wR rfl (wR rfl (wR rfl (wR rfl (wR rfl wTn))))))))) (vR rfl (vR rfl (vR rfl (vR rfl wVn)))) (wL rfl rfl wLn))))
 refine dwg [] [0,2,3,4,5,1,6,7,8,9] hx (by kernel_rfl) (by kernel_rfl) (by kernel_rfl) fun K hK=>?_
 dsimp only[eJ,nE,nS,List.map]
 iterate 4 refine sa ?_
 refine s1 (lQ [0,1] rfl (qK xQ) (fA (al _) (fA (al _) (fA (al _) (fA (al _) fAn)))) (vR rfl (vR rfl wVn)) wLn (rvE (rvE rvN)) (pP _ _ _) (uu _ _)) ?_
 refine s1 (aG aF) ?_
 refine s1 (iM ([x3]:List aj) ae aF ax) ?_
 refine s1 (d:=dO 4 ae (bn++[x3])) (gc aF ax Bu) ?_
 refine sa ?_
 refine s0 (bO (ds':=[dI .i64 bL,dI .i64 bz,dO 4 ae (bn++[x3])]) aF) ?_
 exact .nil (hK _ _ (PE.i (wkN h0 [2,3,4] (wR rfl (wR rfl (wR rfl (wR rfl (wR rfl (wR rfl (wR rfl (wR rfl (wR rfl wTn))))))))) (vR rfl (vR rfl (vR rfl (vR rfl wVn)))) (wL rfl rfl wLn))))
 rintro ex tm' hp' ⟨rfl,hw⟩
 refine AW.weak hw (rb hx ?_)
 cases h
 exact PS.l (PE.i (wkN h0 [2,3,4] (wR rfl (wR rfl (wR rfl (wR rfl (wR rfl (wR rfl (wR rfl (wR rfl (wR rfl wTn))))))))) (vR rfl (vR rfl (vR rfl (vR rfl wVn)))) (wL rfl rfl wLn)))
 refine AW.exit ?_
 try dsimp only
 try simp only[aO,reduceIte,Nat.reduceEqDiff,reduceCtorEq]
 cases h
 exact PS.r ⟨by nofun,PE.i (wkN h0 [2,3,4] (wR rfl (wR rfl (wR rfl (wR rfl (wR rfl (wR rfl wTn)))))) (vR rfl (vR rfl (vR rfl (vR rfl wVn)))) (wL rfl rfl wLn))⟩
 rintro ex tm' hp' ⟨rfl,hw⟩
 try dsimp only
 try simp only[aO,reduceIte,Nat.reduceEqDiff,reduceCtorEq]
 refine AW.weak hw (rb hx ?_)
 cases h
 exact PS.l (PE.i (wkN h0 [2,3,4] (wR rfl (wR rfl (wR rfl (wR rfl (wR rfl (wR rfl wTn)))))) (vR rfl (vR rfl (vR rfl (vR rfl wVn)))) (wL rfl rfl wLn)))
 refine AW.exit ?_
 try dsimp only
 try simp only[aO,reduceIte,Nat.reduceEqDiff,reduceCtorEq]
 cases h
 exact PS.r ⟨by nofun,PE.i (wkN h0 [2,3,4] (wR rfl (wR rfl wTn)) (vR rfl (vR rfl (vR rfl (vR rfl wVn)))) (wL rfl rfl wLn))⟩
 rintro ex tm' hp' ⟨rfl,hw⟩
 try dsimp only
 try simp only[aO,reduceIte,Nat.reduceEqDiff,reduceCtorEq]
 refine AW.weak hw (AW.seq (rs hx fun K hK=>?_))
 refine sa ?_
 refine s1 (aG aF) ?_
 refine scb h gu fun x8 h=>?_
 refine sa ?_
 refine .nil (hK _ _ (cdh h rfl (fun eH h=>?_) (fun eH h=>?_)))
 refine rs hx fun K hK=>?_
 refine s1 (d:=.ag [dI .i64 (0:Int),dI .i64 (0:Int),dN]) (bE aq) ?_
 refine s0 (bO (ds':=[dI .i64 (0:Int),dI .i64 (0:Int),dN]) aq) ?_
 refine sa ?_
 refine .nil (hK _ _ (AW.ret ?_))
 cases h
 exact⟨_,bJ (es:=[dI .i64 (0:Int),dI .i64 (0:Int),dN]) rfl aq rfl rfl (ltb rfl) (leb rfl) rfl (ci rfl (rfl)),nr.of_wk2 (by rw[hx];exact dM rfl) (wkN h0 [] (wG rfl (eA (wc (co _) (wc (co _) (wc (nT rfl) wcn)))) (wR rfl wTn)) (vR rfl (vR rfl wVn)) wLn)⟩
 refine AW.skip (rs hx fun K hK=>?_)
 refine s1 (d:=.ag [dI .i64 bL,dI .i64 bz,dO 4 ae aD]) (bb aq) ?_
 refine s0 (bO (ds':=[dI .i64 bL,dI .i64 bz,dO 4 ae aD]) aq) ?_
 refine sa ?_
 refine .nil (hK _ _ (AW.ret ?_))
 cases h
 exact⟨_,bJ (es:=[dI .i64 bL,dI .i64 bz,dO 4 ae aD]) rfl aq rfl rfl (ltb rfl) (leb rfl) rfl (ci rfl (rfl)),nr.of_wk2 (by rw[hx];exact dM rfl) (wkN h0 [] (wG rfl (eA (wc (co _) (wc (co _) (wc (A5 _) wcn)))) (wR rfl wTn)) (vR rfl (vR rfl wVn)) wLn)⟩
def gR(aS:ap)(aU:ap):Option (ap×Int):=bnd (S:=Bool) (bnd (b9 [aS,aU]) fun x1=>cnd (!x1) (some (true)) (some (decide (aS.vR≠aU.vR)))) fun jy=>cnd jy (some ((⟨(0:Int),(0:Int),([]:List aj)⟩:ap),(1:Int))) (cnd (decide ((200:Int)<(i64.wrap (aS.vC+aU.vC)))) (some ((⟨(0:Int),(0:Int),([]:List aj)⟩:ap),(2:Int))) (bnd (j9 aS.vR (i64.wrap (aS.vC+aU.vC)) aS aU) fun x7=>some (x7.1,x7.2)))
theorem ul {aS:ap}{aU:ap}{r:ap×Int}(h:gR aS aU=some r):aB prog 51 [dG aE aS,dG aE aU] (.tu [dG aE r.1,dI .i64 r.2]):=by
 refine bC (rs:=[.cell 4 24,.tmp 5]) (fun cx hx h0=>?_) func51
 unfold gR at h
 refine rs hx fun K hK=>?_
 refine s1 (d:=.pt 0 0) d8 ?_
 refine s1 (d:=.pt 1 0) d8 ?_
 refine s1 (d:=.pt 2 0) (bc aq) ?_
 refine sa ?_
 refine .nil (hK _ _ (AW.seq (AW.block (AW.seq ?_))))
 obtain⟨jy,hy,h⟩:=ah h
 refine jn ((PE cx .normal (fun jy=>[(2,.pt 0 0),(3,.pt 1 0),(4,.pt 2 0),(6,dB jy)]) fun jy=>⟨[(0,[dI .i64 aS.vR,dI .i64 aS.vC,dL ae aS.vV]),(1,[dI .i64 aU.vR,dI .i64 aU.vC,dL ae aU.vV]),(2,[dI .i64 (0:Int),dI .i64 (0:Int),dN])],[],3⟩) jy) ?_ ?_
 replace h:=hy
 refine rq hx fun K hK=>?_
 refine s1 (d:=dG aE aS) (bb aq) ?_
 refine s1 (d:=dG aE aU) (bb aq) ?_
 refine s1 (d:=dO 3 aE [aS,aU]) (iI pH aq) ?_
 refine scb h ep fun x1 h=>?_
 iterate 2 refine sa ?_
 rcases aW (!x1) with a8|a8
 replace h:=aY a8 h
 iterate 5 refine aJ rfl rfl a8 ?_
 refine s1 (am a8) ?_
 refine sa ?_
 refine .nil (hK _ _ ?_)
 cases h
 exact pe0 h0 [0,1,2]
 replace h:=aZ a8 h
 refine ga a8 ?_
 refine g1 a8 (aG aT) ?_
 refine ga a8 ?_
 refine g1 a8 (aG aT) ?_
 refine ga a8 ?_
 refine s1 (au a8) ?_
 refine sa ?_
 refine .nil (hK _ _ ?_)
 cases h
 exact pe0 h0 [0,1,2]
 rintro ex tm' hp' ⟨rfl,hw⟩
 refine AW.weak hw (cdh h rfl (fun iO h=>?_) (fun iO h=>?_))
 refine rs hx fun K hK=>?_
 refine s1 (d:=.ag [dI .i64 (0:Int),dI .i64 (0:Int),dN]) (bE aq) ?_
 refine s0 (bO (ds':=[dI .i64 (0:Int),dI .i64 (0:Int),dN]) aq) ?_
 refine sa ?_
 refine .nil (hK _ _ (AW.ret ?_))
 cases h
 exact dh.mk2 (bJ (es:=[dI .i64 (0:Int),dI .i64 (0:Int),dN]) rfl aq rfl rfl (ltb rfl) (leb rfl) rfl (ci rfl (.inr ⟨_,_,(eA (wc (co _) (wc (co _) (wc (nT rfl) wcn)))),(al _),⟨rfl,rfl⟩,rfl⟩)))
 refine rs hx fun K hK=>?_
 refine sa ?_
 refine s1 (aG aT) ?_
 refine sa ?_
 refine s1 (aG aT) ?_
 iterate 3 refine sa ?_
 refine .nil (hK _ _ (cdh h rfl (fun bU h=>?_) (fun bU h=>?_)))
 refine rs hx fun K hK=>?_
 refine s1 (d:=.ag [dI .i64 (0:Int),dI .i64 (0:Int),dN]) (bE aq) ?_
 refine s0 (bO (ds':=[dI .i64 (0:Int),dI .i64 (0:Int),dN]) aq) ?_
 refine sa ?_
 refine .nil (hK _ _ (AW.ret ?_))
 cases h
 exact dh.mk2 (bJ (es:=[dI .i64 (0:Int),dI .i64 (0:Int),dN]) rfl aq rfl rfl (ltb rfl) (leb rfl) rfl (ci rfl (.inr ⟨_,_,(eA (wc (co _) (wc (co _) (wc (nT rfl) wcn)))),(al _),⟨rfl,rfl⟩,rfl⟩)))
 refine AW.skip (rs hx fun K hK=>?_)
 refine sa ?_
 refine s1 (aG aT) ?_
 refine sa ?_
 refine s1 (aG aT) ?_
 refine sa ?_
 refine s1 (aG aT) ?_
 refine sa ?_
 refine s1 vH ?_
 obtain⟨x7,xn,h⟩:=ah h
 refine s1 (yX [0,1] rfl (zi xn) (fA (al _) (fA (al _) (fA (al _) fAn))) (vR rfl (vR rfl wVn)) wLn) ?_
 iterate 2 refine sa ?_
 refine s0 (bO (ds':=[dI .i64 x7.1.vR,dI .i64 x7.1.vC,dL ae x7.1.vV]) aq) ?_
 refine sa ?_
 refine .nil (hK _ _ (AW.ret ?_))
 cases h
 exact dh.mk2 (bJ (es:=(aE.f x7.1).map .e) rfl aq rfl rfl (ltb rfl) (leb rfl) rfl (ci rfl (.inr ⟨_,_,(al _),(al _),⟨rfl,rfl⟩,rfl⟩)))
abbrev mS(R C:Int)(V:List Nu):ap:=⟨R,C,V.map nv⟩
abbrev mZ:ap:=⟨0,0,[]⟩
def aX(R C:Int)(V:List Nu):Int:=if R<0∨200<R∨C<0∨200<C then 2 else if (V.length:Int)≠R*C∨V.all cM=false then 1 else 0
structure MV(R C:Nat)(V:List Nu):Prop where
 r:R≤200
 c:C≤200
 len:V.length=R*C
 good:V.all cM=true
theorem cX {R C:Int}{V:List Nu}:aX R C V=0↔∃r c:Nat,R=r∧C=c∧MV r c V:=by
 unfold aX
 constructor
 ·intro h
  split at h
  ·cases h
  ·rename_i h1
   split at h
   ·cases h
   ·rename_i h2
    obtain⟨r,rfl⟩:∃r:Nat,R=r:=⟨R.toNat,by omega⟩
    obtain⟨c,rfl⟩:∃c:Nat,C=c:=⟨C.toNat,by omega⟩
    refine⟨r,c,rfl,rfl,by omega,by omega,?_,?_⟩
    ·have h3:(V.length:Int)=(r:Int)*c:=Classical.byContradiction fun e=>h2 (.inl e)
     exact_mod_cast h3
    ·cases hg:V.all cM with
     |true=>rfl
     |false=>exact absurd (.inr hg) h2
 ·rintro⟨r,c,rfl,rfl,hm⟩
  have h1:=hm.r
  have h2:=hm.c
  rw[ifn_,aV]
  rintro (h|h)
  ·exact h (by rw[hm.len];exact_mod_cast rfl)
  ·rw[hm.good] at h;cases h
theorem MV.rc {R C:Nat}{V:List Nu}(h:MV R C V):R*C≤40000:=iS h.r h.c
theorem MV.chk {R C:Nat}{V:List Nu}(h:MV R C V):aX R C V=0:=cX.2 ⟨R,C,rfl,rfl,h⟩
theorem rP {V:List Nu}(h:V.length≤1000000):dJ (V.map nv)=some (V.all cM):=by
 unfold dJ bR b7
 have key:=Bt (b:=bx (V.map nv)) (n:=V.length) h (fun i=>!cM V[i]!) (fun i hi=>by
  unfold bx nM
  rw[bH,bF _ _,aI,bh,uw hi,Nr]
  rfl) (by
  unfold bx
  rw[bH,bA _ _])
 rw[LE V (fun x=>!cM x)] at key
 have e:V.all cM= !V.any fun x=>!cM x:=by rw[Qb];simp
 rcases key with⟨h1,h2⟩|⟨j,h1,h2⟩ <;> rw[h1,e,h2]
 ·rfl
 ·simp[bnd]
theorem wo {R C:Int}{V:List Nu}(h:V.length≤1000000):eu (mS R C V)=some (aX R C V):=by
 unfold eu aX
 dsimp only
 simp only[kOr,ab,rP h]
 by_cases h1:R<0∨200<R∨C<0∨200<C
 ·rw[aQ h1]
  have:(decide (R<0)||(decide (200<R)||(decide (C<0)||decide (200<C))))=true:=by simpa using h1
  rw[this];rfl
 ·rw[aV h1]
  have:(decide (R<0)||(decide (200<R)||(decide (C<0)||decide (200<C))))=false:=by simpa using h1
  rw[this,kF]
  have H3:0≤R*C∧R*C≤40000:=by
   obtain⟨r,rfl⟩:∃r:Nat,R=r:=⟨R.toNat,by omega⟩
   obtain⟨c,rfl⟩:∃c:Nat,C=c:=⟨C.toNat,by omega⟩
   have:r*c≤200*200:=iS (by omega) (by omega)
   have e:((r:Int)*c)=((r*c:Nat):Int):=by exact_mod_cast rfl
   rw[e];omega
  rw[w64,bH]
  by_cases h2:(V.length:Int)≠R*C∨V.all cM=false
  ·rw[aQ h2]
   have:(decide ((V.length:Int)≠R*C)||!V.all cM)=true:=by
    rcases h2 with h2|h2
    ·rw[iP h2];rfl
    ·rw[h2];simp
   rw[this];rfl
  ·rw[aV h2]
   have:(decide ((V.length:Int)≠R*C)||!V.all cM)=false:=by
    have a:¬(V.length:Int)≠R*C:=fun e=>h2 (.inl e)
    have b:V.all cM=true:=by cases hg:V.all cM with
     |true=>rfl
     |false=>exact absurd (.inr hg) h2
    rw[gX a,b];rfl
   rw[this];rfl
theorem nH {R C:Int}{V:List Nu}(h:V.length≤1000000):b9 [mS R C V]=some (decide (aX R C V=0)):=by
 unfold b9 bt bB
 have key:=Bt (b:=bk [mS R C V]) (n:=1) (by decide) (fun i=>decide (aX R C V≠0)) (fun i hi=>by
  obtain rfl:i=0:=by omega
  unfold bk j7
  rw[bF _ _ (by simp),aI ⟨by simp,by simp⟩]
  show bnd (bnd (eu (mS R C V)) _) _=_
  rw[wo h]
  rfl) rfl
 rcases key with⟨h1,h2⟩|⟨j,h1,h2⟩ <;> rw[h1] <;> by_cases hc:aX R C V=0 <;> simp[hc,bnd,w7] at h2 ⊢
theorem Dl {R C R' C':Int}{V V':List Nu}(h:V.length≤1000000)(h':V'.length≤1000000):b9 [mS R C V,mS R' C' V']=some (decide (aX R C V=0)&&decide (aX R' C' V'=0)):=by
 unfold b9 bt bB
 have key:=Bt (b:=bk [mS R C V,mS R' C' V']) (n:=2) (by decide) (fun i=>if i=0 then decide (aX R C V≠0) else decide (aX R' C' V'≠0)) (fun i hi=>by
  unfold bk j7
  have hi2:i=0∨i=1:=by omega
  rcases hi2 with rfl|rfl
  ·rw[bF _ _ (by simp),aI ⟨by simp,by simp⟩]
   show bnd (bnd (eu (mS R C V)) _) _=_
   rw[wo h]
   rfl
  ·rw[bF _ _ (by simp),aI ⟨by simp,by simp⟩]
   show bnd (bnd (eu (mS R' C' V')) _) _=_
   rw[wo h']
   rfl) rfl
 rcases key with⟨h1,h2⟩|⟨j,h1,h2⟩ <;> rw[h1] <;> by_cases hc:aX R C V=0 <;> by_cases Pd:aX R' C' V'=0 <;> simp[hc,Pd,bnd,w7] at h2 ⊢<;> omega
theorem vP {R C:Nat}{V:List Nu}(hV:V.length=R*C)(H3:R*C≤1000000){i k:Nat}(hi:i<R)(hk:k<C):cC (mS R C V) i k=some (nv V[i*C+k]!):=by
 have h1:=cK hi hk
 have e:(i:Int)*(C:Int)=((i*C:Nat):Int):=by exact_mod_cast rfl
 unfold cC
 dsimp only
 rw[e]
 generalize i*C=p at*
 generalize R*C=n at*
 rw[w64 (n:=(p:Int)),w64 (n:=(p:Int)+(k:Int)),bH,aI]
 simp only[ab]
 rw[show (p:Int)+(k:Int)=((p+k:Nat):Int) by omega,bh,uw]
def iQ(R C:Nat)(V:List Nu):ap×Int:=if V.all cM then (mS R C V,0) else (mZ,30)
theorem Bj {R C:Nat}(hR:R≤400)(hC:C≤400)(f:Nat→Nat→Nu)(hf:∀i k:Nat,i<R→k<C→gV (i:Int) (k:Int)=some (nv (f i k))):dc R C=some (iQ R C (mkM R C f)):=by
 have H3:R*C≤400*400:=iS hR hC
 unfold dc
 rw[qi (R:=R) (C:=C) (by omega) f (by omega) (fun i hi acc wy=>?_) (fun l=>?_)]
 ·simp only[ab]
  rw[rP (by rw[br];omega)]
  simp only[ab]
  unfold iQ
  cases (mkM R C f).all cM <;> rfl
 ·unfold dW
  dsimp only
  rw[bF _ _,qP (C:=C) (by omega) (f i) acc wy (fun k hk l=>?_) (fun l=>?_)]
  ·rfl
  ·unfold dH
   dsimp only
   rw[bF _ _,hf i k hi hk]
   rfl
  ·unfold dH
   dsimp only
   rw[bA _ _]
 ·unfold dW
  dsimp only
  rw[bA _ _]
theorem KJ {R C:Nat}{a b:ap}(hR:R≤400)(hC:C≤400)(f:Nat→Nat→Nu)(hf:∀i k:Nat,i<R→k<C→ko (i:Int) (k:Int) a b=some (nv (f i k))):lK R C a b=some (iQ R C (mkM R C f)):=by
 have H3:R*C≤400*400:=iS hR hC
 unfold lK
 rw[qi (R:=R) (C:=C) (by omega) f (by omega) (fun i hi acc wy=>?_) (fun l=>?_)]
 ·simp only[ab]
  rw[rP (by rw[br];omega)]
  simp only[ab]
  unfold iQ
  cases (mkM R C f).all cM <;> rfl
 ·unfold li
  dsimp only
  rw[bF _ _,qP (C:=C) (by omega) (f i) acc wy (fun k hk l=>?_) (fun l=>?_)]
  ·rfl
  ·unfold jM
   dsimp only
   rw[bF _ _,hf i k hi hk]
   rfl
  ·unfold jM
   dsimp only
   rw[bA _ _]
 ·unfold li
  dsimp only
  rw[bA _ _]
theorem GL {R C:Nat}{a:ap}{x:aj}(hR:R≤400)(hC:C≤400)(f:Nat→Nat→Nu)(hf:∀i k:Nat,i<R→k<C→iF (i:Int) (k:Int) a x=some (nv (f i k))):ke R C a x=some (iQ R C (mkM R C f)):=by
 have H3:R*C≤400*400:=iS hR hC
 unfold ke
 rw[qi (R:=R) (C:=C) (by omega) f (by omega) (fun i hi acc wy=>?_) (fun l=>?_)]
 ·simp only[ab]
  rw[rP (by rw[br];omega)]
  simp only[ab]
  unfold iQ
  cases (mkM R C f).all cM <;> rfl
 ·unfold jR
  dsimp only
  rw[bF _ _,qP (C:=C) (by omega) (f i) acc wy (fun k hk l=>?_) (fun l=>?_)]
  ·rfl
  ·unfold jt
   dsimp only
   rw[bF _ _,hf i k hi hk]
   rfl
  ·unfold jt
   dsimp only
   rw[bA _ _]
 ·unfold jR
  dsimp only
  rw[bA _ _]
theorem KI {R C:Nat}{a b:ap}(hR:R≤400)(hC:C≤400)(f:Nat→Nat→Nu)(hf:∀i k:Nat,i<R→k<C→iv (i:Int) (k:Int) a b=some (nv (f i k))):kb R C a b=some (iQ R C (mkM R C f)):=by
 have H3:R*C≤400*400:=iS hR hC
 unfold kb
 rw[qi (R:=R) (C:=C) (by omega) f (by omega) (fun i hi acc wy=>?_) (fun l=>?_)]
 ·simp only[ab]
  rw[rP (by rw[br];omega)]
  simp only[ab]
  unfold iQ
  cases (mkM R C f).all cM <;> rfl
 ·unfold jQ
  dsimp only
  rw[bF _ _,qP (C:=C) (by omega) (f i) acc wy (fun k hk l=>?_) (fun l=>?_)]
  ·rfl
  ·unfold js
   dsimp only
   rw[bF _ _,hf i k hi hk]
   rfl
  ·unfold js
   dsimp only
   rw[bA _ _]
 ·unfold jQ
  dsimp only
  rw[bA _ _]
theorem Ap {R C:Nat}{a:ap}(hR:R≤400)(hC:C≤400)(f:Nat→Nat→Nu)(hf:∀i k:Nat,i<R→k<C→fR (i:Int) (k:Int) a=some (nv (f i k))):ka R C a=some (iQ R C (mkM R C f)):=by
 have H3:R*C≤400*400:=iS hR hC
 unfold ka
 rw[qi (R:=R) (C:=C) (by omega) f (by omega) (fun i hi acc wy=>?_) (fun l=>?_)]
 ·simp only[ab]
  rw[rP (by rw[br];omega)]
  simp only[ab]
  unfold iQ
  cases (mkM R C f).all cM <;> rfl
 ·unfold jP
  dsimp only
  rw[bF _ _,qP (C:=C) (by omega) (f i) acc wy (fun k hk l=>?_) (fun l=>?_)]
  ·rfl
  ·unfold jr
   dsimp only
   rw[bF _ _,hf i k hi hk]
   rfl
  ·unfold jr
   dsimp only
   rw[bA _ _]
 ·unfold jP
  dsimp only
  rw[bA _ _]
theorem Ej {R C:Nat}{a b:ap}(hR:R≤400)(hC:C≤400)(f:Nat→Nat→Nu)(hf:∀i k:Nat,i<R→k<C→gW (i:Int) (k:Int) a b=some (nv (f i k))):j9 R C a b=some (iQ R C (mkM R C f)):=by
 have H3:R*C≤400*400:=iS hR hC
 unfold j9
 rw[qi (R:=R) (C:=C) (by omega) f (by omega) (fun i hi acc wy=>?_) (fun l=>?_)]
 ·simp only[ab]
  rw[rP (by rw[br];omega)]
  simp only[ab]
  unfold iQ
  cases (mkM R C f).all cM <;> rfl
 ·unfold jO
  dsimp only
  rw[bF _ _,qP (C:=C) (by omega) (f i) acc wy (fun k hk l=>?_) (fun l=>?_)]
  ·rfl
  ·unfold jq
   dsimp only
   rw[bF _ _,hf i k hi hk]
   rfl
  ·unfold jq
   dsimp only
   rw[bA _ _]
 ·unfold jO
  dsimp only
  rw[bA _ _]
section
def idF(i k:Nat):Nu:=if i=k then nOf 1 else nOf 0
def MS(C:Nat)(A B:List Nu)(i k:Nat):Nu:=Jn A[i*C+k]! B[i*C+k]!
def zD(C:Nat)(A:List Nu)(x:Nu)(i k:Nat):Nu:=uG A[i*C+k]! x
def In(C K:Nat)(A B:List Nu)(i k:Nat):Nat→Nu
 |0=>uG A[i*C]! B[k]!
 |j+1=>Jn (In C K A B i k j) (uG A[i*C+(j+1)]! B[(j+1)*K+k]!)
def BX(C K:Nat)(A B:List Nu)(i k:Nat):Nu:=if C=0 then nOf 0 else In C K A B i k (C - 1)
def ri(C:Nat)(A:List Nu)(i k:Nat):Nu:=A[k*C+i]!
def uL(C K:Nat)(A B:List Nu)(i k:Nat):Nu:=if k<C then A[i*C+k]! else B[i*K+(k - C)]!
def B0(R C:Int)(V:List Nu):ap×Int:=if aX R C V=0 then (mS R C V,0) else (mZ,aX R C V)
def idP(n:Int):ap:=if n<0∨200<n then mZ else mS n n (mkM n.toNat n.toNat idF)
def atP(R C:Int)(V:List Nu)(i k:Int):Nu:=if aX R C V=0∧0≤i∧i<R∧0≤k∧k<C then V[i.toNat*C.toNat+k.toNat]! else nuR none
def PO(V:List Nu):ap:=(B0 V.length 1 V).1
def MR(R C:Int)(A:List Nu)(R' C':Int)(B:List Nu):ap×Int:=if aX R C A=0∧aX R' C' B=0∧R=R'∧C=C' then iQ R.toNat C.toNat (mkM R.toNat C.toNat (MS C.toNat A B)) else (mZ,1)
def zC(R C:Int)(A:List Nu)(x:Nu):ap×Int:=if aX R C A=0∧cM x=true then iQ R.toNat C.toNat (mkM R.toNat C.toNat (zD C.toNat A x)) else (mZ,1)
def Mi(R C:Int)(A:List Nu)(R' C':Int)(B:List Nu):ap×Int:=if aX R C A=0∧aX R' C' B=0∧C=R' then iQ R.toNat C'.toNat (mkM R.toNat C'.toNat (BX C.toNat C'.toNat A B)) else (mZ,1)
def Er(R C:Int)(A:List Nu):ap×Int:=if aX R C A=0 then iQ C.toNat R.toNat (mkM C.toNat R.toNat (ri C.toNat A)) else (mZ,1)
def Eg(R C:Int)(A:List Nu)(R' C':Int)(B:List Nu):ap×Int:=if aX R C A=0∧aX R' C' B=0∧R=R' then if 200<C+C' then (mZ,2) else iQ R.toNat (C+C').toNat (mkM R.toNat (C+C').toNat (uL C.toNat C'.toNat A B)) else (mZ,1)
theorem HW(i k:Nat):cM (idF i k)=true:=by unfold idF;split;exact of1.1;exact of0.1
theorem tP {R C:Nat}{f:Nat→Nat→Nu}(h:∀i k,i<R→k<C→cM (f i k)=true):iQ R C (mkM R C f)=(mS R C (mkM R C f),0):=by
 unfold iQ
 rw[aQ (Fu.2 h)]
theorem e_mul(i C:Nat):(i:Int)*(C:Int)=((i*C:Nat):Int):=by exact_mod_cast rfl
section
variable {A B V:List Nu} {R C R' C':Int}
theorem Qx(h:V.length≤1000000):l4 R C (V.map nv)=some (B0 R C V):=by
 unfold l4 gj B0
 rw[bH,aI h]
 simp only[ab]
 rw[wo h]
 simp only[ab]
 by_cases h0:aX R C V=0
 ·rw[bA _ _ (by simpa using h0),aQ h0]
 ·rw[bF _ _ h0,aV h0]
theorem xK {n:Int}:fS n=some (idP n):=by
 unfold fS idP
 simp only[kOr,ab]
 by_cases h:n<0∨200<n
 ·have:(decide (n<0)||decide (200<n))=true:=by simpa using h
  rw[this,aQ h];rfl
 ·have:(decide (n<0)||decide (200<n))=false:=by simpa using h
  rw[this,aV h,kF]
  obtain⟨m,rfl⟩:∃m:Nat,n=m:=⟨n.toNat,by omega⟩
  rw[Bj (R:=m) (C:=m) (by omega) (by omega) idF (fun i k hi hk=>?_),tP fun i k _ _=>HW i k]
  ·simp only[ab,bh]
  ·unfold gV idF
   by_cases e:i=k
   ·rw[bF _ _,aQ e,uOf];rfl
   ·rw[bA _ _,aV e,uOf];rfl
theorem Qy(h:V.length≤1000000):lL (V.map nv)=some (PO V):=by
 unfold lL PO
 rw[bH,Qx h];rfl
theorem P_At(h:V.length≤1000000){i k:Int}:oa (mS R C V) i k=some (nv (atP R C V i k)):=by
 unfold oa atP
 rw[nH h]
 simp only[ab,kOr]
 by_cases h0:aX R C V=0∧0≤i∧i<R∧0≤k∧k<C
 ·rw[aQ h0]
  obtain⟨h1,h2,h3,h4,h5⟩:=h0
  obtain⟨r,c,rfl,rfl,hm⟩:=cX.1 h1
  have:(!decide (aX (r:Int) (c:Int) V=0)||(decide (i<0)||(decide ((r:Int)≤i)||(decide (k<0)||decide ((c:Int)≤k)))))=false:=by
   simp[h1,h2,h3,h4,h5]
  rw[this,kF]
  obtain⟨i',rfl⟩:∃m:Nat,i=m:=⟨i.toNat,by omega⟩
  obtain⟨k',rfl⟩:∃m:Nat,k=m:=⟨k.toNat,by omega⟩
  have:=hm.rc
  rw[vP hm.len (by omega) (by omega) (by omega)]
  rfl
 ·rw[aV h0]
  have:(!decide (aX R C V=0)||(decide (i<0)||(decide (R≤i)||(decide (k<0)||decide (C≤k)))))=true:=by
   by_cases a:aX R C V=0
   ·by_cases b:0≤i <;> by_cases c:i<R <;> by_cases d:0≤k <;> by_cases e:k<C <;> simp[a,b,c,d,e] <;> first|omega|exact absurd ⟨a,b,c,d,e⟩ h0
   ·simp[a]
  rw[this,kT,uBad];rfl
theorem P_Add(hA:A.length≤1000000)(hB:B.length≤1000000):oP (mS R C A) (mS R' C' B)=some (MR R C A R' C' B):=by
 unfold oP MR
 rw[Dl hA hB]
 simp only[ab,kOr]
 by_cases h0:aX R C A=0∧aX R' C' B=0∧R=R'∧C=C'
 ·rw[aQ h0]
  obtain⟨h1,h2,rfl,rfl⟩:=h0
  obtain⟨r,c,rfl,rfl,hm⟩:=cX.1 h1
  obtain⟨r',c',hr,hc,tU⟩:=cX.1 h2
  obtain rfl:r=r':=by omega
  obtain rfl:c=c':=by omega
  rw[h1,h2]
  have:=hm.rc
  have h3:=hm.r
  have h4:=hm.c
  have e:(!(decide ((0:Int)=0)&&decide ((0:Int)=0))||(decide ((r:Int)≠r)||decide ((c:Int)≠c)))=false:=by simp
  rw[e,kF]
  rw[KJ (by omega) (by omega) (MS c A B) (fun i k hi hk=>?_)]
  ·simp only[ab,bh]
  ·unfold ko
   rw[vP hm.len (by omega) hi hk,vP tU.len (by omega) hi hk]
   simp only[ab,uAdd]
   rfl
 ·rw[aV h0]
  have e:(!(decide (aX R C A=0)&&decide (aX R' C' B=0))||(decide (R≠R')||decide (C≠C')))=true:=by
   by_cases a:aX R C A=0
   ·by_cases b:aX R' C' B=0
    ·by_cases c:R=R'
     ·by_cases d:C=C'
      ·exact absurd ⟨a,b,c,d⟩ h0
      ·simp[d]
     ·simp[c]
    ·simp[b]
   ·simp[a]
  rw[e,kT]
theorem P_Scale(hA:A.length≤1000000){x:Nu}:mH (mS R C A) (nv x)=some (zC R C A x):=by
 unfold mH zC
 rw[nH hA]
 simp only[ab,Nr,kOr]
 by_cases h0:aX R C A=0∧cM x=true
 ·rw[aQ h0]
  obtain⟨h1,h2⟩:=h0
  obtain⟨r,c,rfl,rfl,hm⟩:=cX.1 h1
  rw[h1,h2]
  have:=hm.rc
  have h3:=hm.r
  have h4:=hm.c
  have e:(!decide ((0:Int)=0)||!true)=false:=by simp
  rw[e,kF]
  rw[GL (by omega) (by omega) (zD c A x) (fun i k hi hk=>?_)]
  ·simp only[ab,bh]
  ·unfold iF
   rw[vP hm.len (by omega) hi hk]
   simp only[ab,uMul]
   rfl
 ·rw[aV h0]
  have e:(!decide (aX R C A=0)||!cM x)=true:=by
   by_cases a:aX R C A=0
   ·by_cases b:cM x=true
    ·exact absurd ⟨a,b⟩ h0
    ·simp[b]
   ·simp[a]
  rw[e,kT]
theorem P_dot {r c c':Nat}(hm:MV r c A)(tU:MV c c' B){i k:Nat}(hi:i<r)(hk:k<c'):iv (i:Int) (k:Int) (mS r c A) (mS c c' B)=some (nv (BX c c' A B i k)):=by
 have h1:=hm.rc
 have h2:=tU.rc
 have h3:=hm.c
 unfold iv BX
 dsimp only
 by_cases h0:c=0
 ·rw[bF _ _,aQ h0,uOf];rfl
 ·rw[bA _ _,aV h0]
  have a0:=vP hm.len (by omega) hi (show 0<c by omega)
  have b0:=vP tU.len (by omega) (show 0<c by omega) hk
  rw[mi] at a0
  rw[gb,dA] at b0
  rw[show ((0:Int))=((0:Nat):Int) from rfl,a0,b0]
  simp only[ab,uMul]
  have:=eK (b:=gA (i:Int) (k:Int) (mS r c A) (mS c c' B)) (fun j=>((j:Int),nv (In c c' A B i k (j - 1)))) 1 c (nv (In c c' A B i k (c - 1))) (by omega) (fun j O0 GW=>?_) ?_
  ·rw[show (((1:Nat):Int),nv (In c c' A B i k (1 - 1)))=((1:Int),nv (uG A[i*c]! B[k]!)) from rfl] at this
   rw[this];rfl
  ·unfold gA
   dsimp only
   rw[bF _ _,vP hm.len (by omega) hi GW,vP tU.len (by omega) GW hk]
   simp only[ab,uMul,uAdd]
   rw[w64]
   obtain⟨m,rfl⟩:∃m,j=m+1:=⟨j - 1,by omega⟩
   rfl
  ·unfold gA
   dsimp only
   rw[bA _ _]
theorem P_Mul(hA:A.length≤1000000)(hB:B.length≤1000000):oO (mS R C A) (mS R' C' B)=some (Mi R C A R' C' B):=by
 unfold oO Mi
 rw[Dl hA hB]
 simp only[ab,kOr]
 by_cases h0:aX R C A=0∧aX R' C' B=0∧C=R'
 ·rw[aQ h0]
  obtain⟨h1,h2,rfl⟩:=h0
  obtain⟨r,c,rfl,rfl,hm⟩:=cX.1 h1
  obtain⟨r',c',hr,rfl,tU⟩:=cX.1 h2
  obtain rfl:c=r':=by omega
  rw[h1,h2]
  have h3:=hm.r
  have h4:=tU.c
  have e:(!(decide ((0:Int)=0)&&decide ((0:Int)=0))||decide ((c:Int)≠c))=false:=by simp
  rw[e,kF]
  rw[KI (by omega) (by omega) (BX c c' A B) (fun i k hi hk=>P_dot hm tU hi hk)]
  simp only[ab,bh]
 ·rw[aV h0]
  have e:(!(decide (aX R C A=0)&&decide (aX R' C' B=0))||decide (C≠R'))=true:=by
   by_cases a:aX R C A=0
   ·by_cases b:aX R' C' B=0
    ·by_cases c:C=R'
     ·exact absurd ⟨a,b,c⟩ h0
     ·simp[c]
    ·simp[b]
   ·simp[a]
  rw[e,kT]
theorem II(hA:A.length≤1000000):iD (mS R C A)=some (Er R C A):=by
 unfold iD Er
 rw[nH hA]
 simp only[ab]
 by_cases h1:aX R C A=0
 ·rw[aQ h1]
  obtain⟨r,c,rfl,rfl,hm⟩:=cX.1 h1
  rw[h1]
  have:=hm.rc
  have h3:=hm.r
  have h4:=hm.c
  have e:(!decide ((0:Int)=0))=false:=by simp
  rw[e,kF]
  rw[Ap (by omega) (by omega) (ri c A) (fun i k hi hk=>?_)]
  ·simp only[ab,bh]
  ·unfold fR
   rw[vP hm.len (by omega) hk hi]
   rfl
 ·rw[aV h1]
  have e:(!decide (aX R C A=0))=true:=by simp[h1]
  rw[e,kT]
theorem Dp(hA:A.length≤1000000)(hB:B.length≤1000000):gR (mS R C A) (mS R' C' B)=some (Eg R C A R' C' B):=by
 unfold gR Eg
 rw[Dl hA hB]
 simp only[ab,kOr]
 by_cases h0:aX R C A=0∧aX R' C' B=0∧R=R'
 ·rw[aQ h0]
  obtain⟨h1,h2,rfl⟩:=h0
  obtain⟨r,c,rfl,rfl,hm⟩:=cX.1 h1
  obtain⟨r',c',hr,rfl,tU⟩:=cX.1 h2
  obtain rfl:r=r':=by omega
  rw[h1,h2]
  have h3:=hm.r
  have h4:=hm.c
  have h5:=tU.c
  have h6:=hm.rc
  have h7:=tU.rc
  have e:(!(decide ((0:Int)=0)&&decide ((0:Int)=0))||decide ((r:Int)≠r))=false:=by simp
  rw[e,kF,w64]
  by_cases hc:(200:Int)<(c:Int)+c'
  ·rw[bF _ _ hc,aQ hc]
  ·rw[bA _ _ hc,aV hc,show ((c:Int)+(c':Int))=((c+c':Nat):Int) by omega]
   rw[Ej (by omega) (by omega) (uL c c' A B) (fun i k hi hk=>?_)]
   ·simp only[ab,bh]
   ·unfold gW uL
    dsimp only
    by_cases D1:k<c
    ·rw[bF _ _,aQ D1,vP hm.len (by omega) hi D1];rfl
    ·rw[bA _ _,aV D1,w64,show (k:Int) - (c:Int)=((k - c:Nat):Int) by omega,vP tU.len (by omega) hi (by omega)];rfl
 ·rw[aV h0]
  have e:(!(decide (aX R C A=0)&&decide (aX R' C' B=0))||decide (R≠R'))=true:=by
   by_cases a:aX R C A=0
   ·by_cases b:aX R' C' B=0
    ·by_cases c:R=R'
     ·exact absurd ⟨a,b,c⟩ h0
     ·simp[c]
    ·simp[b]
   ·simp[a]
  rw[e,kT]
end
end
end
end Go.Proofs.YtgfcnncojhkcoaaGreat
