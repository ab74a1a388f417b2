/-
  Lemmas, part 7. Conditions: none.
-/
import Derived.Test.YtgfcnncojhkcoaaGreatT6
set_option linter.all false
set_option maxRecDepth 100000
set_option maxHeartbeats 4000000
namespace Go.Proofs.YtgfcnncojhkcoaaGreat
open Go.RowKit Go.IntKind Tryz
noncomputable section
section
theorem Oz {C k:Nat}{V:List Nu}:∀{n r i:Nat},wY C k V n r=some i→r≤i∧i<r+n
 |0,r,i,h=>by cases h
 |n+1,r,i,h=>by
  unfold wY at h
  split at h
  ·injection h with h;omega
  ·have:=Oz h;omega
theorem Jz {R C n k r:Nat}{V:List Nu}{acc:List Pv}(h:n=0∨¬r<R):lh R C n k r V acc=some (V,acc):=by
 cases n with
 |zero=>rfl
 |succ n=>
  unfold lh
  rcases h with h|h
  ·cases h
  ·rw[az h]
section
variable {Lq:List (Nat×List D)} {Si:List (Nat×Nat×Nat×TypeId)} {E B kM k0 k4 R C:Nat} {p:Tmp} {Nt:Nat} {QH bod:Code} {tm0:List (Nat×D)} {J:List Pv→Hp→Prop} {S:Hp→Prop} {V0:List Nu}
def TH(l E k0 kk:Nat):List (Nat×D):=[(0,.e (.lit (.func (.yield l) #[] #[]))),(1,.pt k0 0),(3,.pt (E+4) 0),(4,.pt (E+5) 0),(5,.pt kk 0)]
theorem Sv(hkM:kM<E)(hk0:k0<E)(hk4:k4<E)(h4M:k4≠kM)(h40:k4≠k0)(hM0:kM≠k0)
  (HN:V0.length=R*C) (Ot:R*C≤1000000) (hR:R≤1000000) (hC:C≤1000000)
  (hM:0<R→0<C→Lq.lookup kM=some (dC ((cW aO).f V0))) (h0:Lq.lookup k0=some (lE kM R C))
  (wU:∀k ds,Lq.lookup k=some ds→ds.all D.noO=true)
  (hpN:p<Nt) (hJ0:J [] ⟨Lq,Si,E⟩)
  (hJ:∀acc vs pe lv N N',J acc ⟨vs,lv,N⟩→N≤N'→E≤N→(∀j ds,j≠kM→j<E→vs.lookup j=some ds→pe.lookup j=some ds)→J acc ⟨pe,lv,N'⟩)
  (hrd:∀V acc pv hp,0<R→acc.length<C→V.length=R*C→fc hp→hp.vars.lookup kM=some (dC ((cW aO).f V))→J acc hp→RdOk prog Nt p QH bod tm0 hp (.ag (pvD pv)) (fun hp'=>V.all aH=true∧Kept [k4] hp hp'∧J (acc++[pv]) hp') (fun hp'=>V.all aH=false∧S hp')):
  Np prog 137 [k0] B ⟨Lq,Si,E⟩ p Nt QH bod tm0 (fun hp=>∃V acc,lh R C C 0 0 V0 []=some (V,acc)∧fc hp∧(0<R→0<C→hp.vars.lookup kM=some (dC ((cW aO).f V)))∧J acc hp) (fun hp=>lh R C C 0 0 V0 []=none∧S hp):=by
 refine Np.of func137 rfl (cD rfl) rfl hpN (by simp[hk0]) (fun g w l rec x hB yZ hg0 hw0 Qs hN pg hok hmk=>?_)
 simp only[gZ,pN,dv,Nat.reduceAdd,cj]
 obtain⟨R1,C1,hC1,hR1,hC1p,hC1le,hR1le⟩:∃R1 C1,C1=max 1 C∧R1*C1=R*C∧1≤C1∧C1≤1000000∧(0<C→C1=C∧R1=R):=by
  rcases rY C with h|h
  ·exact⟨0,max 1 C,rfl,by rw[h,jJ,al_7],al_8 _ _,by omega,fun h'=>by omega⟩
  ·exact⟨R,max 1 C,rfl,by rw[show max 1 C=C by omega],al_8 _ _,by omega,fun _=>⟨by omega,rfl⟩⟩
 have hmx:max (1:Int) (C:Int)=((C1:Nat):Int):=by omega
 refine vrs hN fun K hK=>?_
 refine sa ?_
 refine c1 mat_D ?_
 refine sa ?_
 refine c1 Sa ?_
 refine sa ?_
 rw[hmx]
 have hch:=h_Chunk (vs:=Lq) (lv:=Si) (N:=E) (dV:=g7 kM (R*C)) hC1p hC1le (CI hkM _) (LR _ _)
 refine q1s (d:=.fn 174 [E,E+1]) (hp':=⟨(E+1,[dI .i64 C1])::(E,[g7 kM (R*C)])::Lq,Si,E+1+1⟩) (PY rfl hch rfl) ?_
 have hcol:=Qq (vs:=(E+1,[dI .i64 C1])::(E,[g7 kM (R*C)])::Lq) (lv:=Si) (N:=E+1+1) (R:=R1) (C:=C1) (kM:=kM) (ks:=E) (kn:=E+1) hC1p (by rw[hR1];exact Ot) hC1le (by rw[hR1];exact am (by omega) ah) ah (by omega) (fun k ds hk=>by
  rcases dT hk with⟨rfl,rfl⟩|⟨_,hk⟩
  ·rfl
  rcases dT hk with⟨rfl,rfl⟩|⟨_,hk⟩
  ·unfold g7;split <;> rfl
  ·exact wU k ds hk)
 refine q1s (d:=pS (E+3) R1) (hp':=⟨rm (E+3) kM C1 R1 ((E+1,[dI .i64 C1])::(E,[g7 kM (R*C)])::Lq),Si,E+4⟩) (PY rfl hcol rfl) ?_
 obtain⟨VR,hVR⟩:∃VR,VR=rm (E+3) kM C1 R1 ((E+1,[dI .i64 C1])::(E,[g7 kM (R*C)])::Lq):=⟨_,rfl⟩
 rw[←hVR]
 have hokC:fc ⟨(E+1,[dI .i64 C1])::(E,[g7 kM (R*C)])::Lq,Si,E+4⟩:=((hok.up (M:=E+4) (by omega)).consM (by omega) (by simp[CI (show kM<E+4 by omega)])).consM (by omega) (by rfl)
 have hokR:fc ⟨VR,Si,E+4⟩:=by
  rw[hVR];unfold rm
  split
  ·exact hokC
  ·exact hokC.consM (by omega) (sE (by omega))
 have hoR:∀j ds,j<E→Lq.lookup j=some ds→VR.lookup j=some ds:=fun j ds hj h=>by
  rw[hVR];unfold rm
  split
  ·exact am (by omega) (am (by omega) h)
  ·exact am (by omega) (am (by omega) (am (by omega) h))
 have hRR:0<R→0<C→pS (E+3) R1=.gw (E+3) 1 R∧VR.lookup (E+3)=some (i5 kM C R):=fun h1 h2=>by
  obtain⟨e1,e2⟩:=hR1le h2
  subst e1 e2
  refine⟨ifn_,?_⟩
  rw[hVR];unfold rm
  rw[ifn_]
  exact ah
 refine a1 nM (hz:=rfl) ?_
 refine v1 (k:=E+4) (F:=[D.e (.lit (.slice none 0 0))]) (ys:=[pS (E+3) R1]) (Pt.one _) rfl rfl rfl ?_ rfl ah (Jy _ _)
 refine nl hK ?_
 refine vrs hN fun K hK=>?_
 refine a1 dJ (hz:=rfl) ?_
 refine v1 (k:=E+5) (ys:=[dI .i64 0]) (Pt.one _) rfl rfl rfl ?_ rfl ah rfl
 refine nl hK ?_
 refine vrs hN fun K hK=>?_
 refine a1 dJ (hz:=rfl) ?_
 refine v1 (k:=E+6) (ys:=[dI .i64 0]) (Pt.one _) rfl rfl rfl ?_ rfl ah rfl
 refine nl hK ?_
 refine AV.block ?_
 refine AV.loop (fun n tm hp=>∃k r V acc kk,n=C - k∧k≤C∧tm=TH l E k0 kk∧StH E kM k0 R C r k kk V hp∧J acc hp∧acc.length≤k∧lh R C C 0 0 V0 []=lh R C (C - k) k r V acc) (n:=C) (Wk.tmS (tm':=TH l E k0 (E+6)) (tin (tin (tin (tin (tin PI)))))) ?_ ?_
 ·refine⟨0,0,V0,[],E+6,rfl,il _,rfl,⟨?_,aC _,dH _,HN,fun h1 h2=>?_,?_,?_,?_,fun h1 h2=>?_,fun h1 h2=>?_⟩,?_,aC _,rfl⟩
  ·exact (((((hokR.up (M:=E+7) (by omega)).consM (by omega) (by rfl)).consM (by omega) (by simp[PN (show E+3<E+7 by omega)])).consM (by omega) (by rfl)).consM (by omega) (by rfl)).consM (by omega) (by rfl) |>.consM (by omega) (by rfl)
  ·exact am (by omega) (am (by omega) (am (by omega) (am (by omega) (am (by omega) (am (by omega) (hoR _ _ hkM (hM h1 h2)))))))
  ·exact am (by omega) (am (by omega) (am (by omega) (am (by omega) (am (by omega) (am (by omega) (hoR _ _ hk0 h0))))))
  ·exact am (by omega) (am (by omega) ah)
  ·exact ah
  ·rw[←(hRR h1 h2).1]
   exact am (by omega) (am (by omega) (am (by omega) (am (by omega) ah)))
  ·exact am (by omega) (am (by omega) (am (by omega) (am (by omega) (am (by omega) (am (by omega) (hRR h1 h2).2)))))
  ·refine hJ [] Lq _ Si E _ hJ0 (by omega) (aC _) fun j ds _ hj h=>?_
   exact am (by omega) (am (by omega) (am (by omega) (am (by omega) (am (by omega) (am (by omega) (hoR _ _ hj h))))))
 ·rintro n tm hp ⟨k,r,V,acc,kk,rfl,hkC,rfl,⟨Qg,ru,hkkN,hlen,SG,hv0,hvr,hvk,L7,hvR⟩,hJa,Qp,oP⟩
  obtain⟨vs,lv,N⟩:=hp
  dsimp only at hkkN SG hv0 hvr hvk L7 hvR
  refine AV.seqA ?_
  refine rs hN fun K hK=>?_
  refine c1 (Pt.one _) ?_
  refine sa ?_
  refine c1 Sa ?_
  iterate 2 refine sa ?_
  rcases O0 (decide ((k:Int)<(C:Int))) with hb|hb
  ·refine c1g (Pt.one _) hb ?_
   refine ga hb ?_
   refine c1g mat_R hb ?_
   refine ga hb ?_
   refine s1 (vJ hb) ?_
   refine nl hK ?_
   have Mj:k<C:=by have:=oc hb;omega
   refine AW.condS rfl (fun rf=>?_) (fun rf=>?_)
   ·have HD:r<R:=by have:=oc rf;omega
    have L7:=L7 (by omega) (by omega)
    have hvR:=hvR (by omega) (by omega)
    have SG:=SG (by omega) (by omega)
    refine AW.skip ?_
    have hkM2:kM≠kk:=by omega
    have hkMN:kM<N:=by omega
    refine AV.seq (AV.mono (Q:=fun ex a w'=>(ex=.normal∧∃r' V' QM hp',RS x (TH l E k0 kk) hp' a w'∧StH E kM k0 R C r' k kk V' hp'∧J QM hp'∧QM.length≤k+1∧lh R C C 0 0 V0 []=lh R C (C - (k+1)) (k+1) r' V' QM)∨
     (ex=.ret∧a.defers=x.df∧∃hp' g' W',w'=W'.putObj l (.loop (qE rec))∧W'.heap[l]? =some (.loop rec)∧xv B ⟨Lq,Si,E⟩ g w hp' g' W'∧lh R C C 0 0 V0 []=none∧S hp')) (AV.block ?_) ?_)
    ·refine vrsd [140] hN fun K hK=>?_
     refine c1 (Pt.one _) ?_
     refine c1 (Pt.one _) ?_
     refine c1 (Pt.one _) ?_
     refine q1 (mz.toOw (slW (l:=(r:Int)) (h:=(R:Int)) (n:=R) (k:=E+3) (off:=0) (z:=1) tok ⟨by omega,by omega,by omega,by omega⟩ nM aW ⟨.i64,rfl⟩ rfl)) ?_
     rw[show 0+((r:Nat):Int).toNat*1=r by omega,show (((R:Nat):Int) - ((r:Nat):Int)).toNat=R - r by omega]
     refine s1 (d:=.fn 141 [kk]) wy ?_
     refine q1 (sHCf (h_IdxF (kM:=kM) (kk:=kk) (kR:=E+3) (k:=k) (r:=r) (V:=V) SG hvk hvR hlen Mj HD hR) rfl (Fr.refl _) (hv:=by kernel_rfl)) ?_
     iterate 2 refine sa ?_
     refine nl hK ?_
     refine AV.seqA ?_
     refine rs hN fun K hK=>?_
     refine sa ?_
     refine c1 (Pt.one _) ?_
     refine sa ?_
     refine nl hK ?_
     obtain⟨m,hm⟩:∃m,C - k=m+1:=⟨C - k - 1,by omega⟩
     have Qh:C - (k+1)=m:=by omega
     rcases hf:wY C k V (R - r) r with _|i
     ·have hv:HT C k V (R - r) r=-1:=by unfold HT;rw[hf]
      rw[hv,rj (by omega) (by omega)]
      refine AW.condT rfl (det_) (AW.exit ?_)
      intro a w hr
      refine .inl ⟨rfl,r,V,acc,_,Wk.tmS (tin (tin (tin (tin (tin PI))))) a w hr,⟨Qg,ru,hkkN,hlen,fun _ _=>SG,hv0,hvr,hvk,fun _ _=>L7,fun _ _=>hvR⟩,hJa,by omega,?_⟩
      rw[oP,hm,Qh]
      conv=>lhs;unfold lh
      rw[an HD,hf]
     ·obtain⟨hri,hiR⟩:=Oz hf
      have hiR:i<R:=by omega
      have hv:HT C k V (R - r) r=(i:Int) - (r:Int):=by unfold HT;rw[hf]
      rw[hv,show (r:Int)+((i:Int) - (r:Int))=(i:Int) by omega,rj (by omega) (by omega)]
      refine AW.condF rfl (def_) (AW.skip (AV.seqA ?_))
      refine rs hN fun K hK=>?_
      refine sa ?_
      refine c1 Sa ?_
      refine sa ?_
      refine nl hK ?_
      refine AW.block ?_
      have Qf:∀U:List Nu,fc ⟨(kM,dC ((cW aO).f U))::vs,lv,N⟩:=fun U=>Qg.consM hkMN (oO _)
      refine AW.loopW (fun j:Nat=>[(0,.e (.lit (.func (.yield l) #[] #[]))),(1,.pt k0 0),(3,.pt (E+4) 0),(4,.pt (E+5) 0),(5,.pt kk 0),(6,dI .i64 (i:Nat)),(43,dI .i64 (C:Nat)),(44,dI .i64 (j:Nat))]) (fun j=>⟨(kM,dC ((cW aO).f (gh C V i r j)))::vs,lv,N⟩) (fun j=>j≤C) (fun j=>C - j) 0 ?_ (il _) ?_
      ·exact wk1 yZ (hok:=Qf _) (hv:=fun j ds h=>by
        rcases dT h with⟨rfl,rfl⟩|⟨hj,h⟩
        ·exact SG
        ·exact h)
      ·intro j hj
       refine rs hN fun K hK=>?_
       refine sa ?_
       refine nl hK ?_
       refine AW.seq (AW.condS rfl (fun fT=>?_) (fun fT=>?_))
       ·have HG:j<C:=by have:=oc fT;omega
        have hlU:(gh C V i r j).length=R*C:=by rw[oI,hlen]
        have hp1:i*C+j<(gh C V i r j).length:=by rw[hlU];exact cT hiR HG
        have bk:r*C+j<(gh C V i r j).length:=by rw[hlU];exact cT HD HG
        have hp3:r*C+j<((gh C V i r j).set (i*C+j) (gh C V i r j)[r*C+j]!).length:=by rw[A9];exact bk
        refine AW.skip (AW.seq (AW.block (rs hN fun K hK=>?_)))
        iterate 2 refine sa ?_
        refine nl hK ?_
        refine rqd [] hN fun K hK=>?_
        refine c1 (Pt.one _) ?_
        refine sa ?_
        refine wm (k:=E+3) (o:=0) (i:=i) (n:=R) hiR ?_
        rw[cj]
        refine c1 (Pt.row (kM:=kM) (C:=C) (n:=R) (i:=i) hiR) ?_
        refine sa ?_
        refine c1 (Pt.one _) ?_
        refine c1 (Pt.one _) ?_
        refine wm (k:=E+3) (o:=0) (i:=r) (n:=R) HD ?_
        rw[cj]
        refine c1 (Pt.row (kM:=kM) (C:=C) (n:=R) (i:=r) HD) ?_
        refine sa ?_
        refine c1 (Pt.one _) ?_
        refine c1 (Pt.one _) ?_
        refine wm (k:=E+3) (o:=0) (i:=r) (n:=R) HD ?_
        rw[cj]
        refine c1 (Pt.row (kM:=kM) (C:=C) (n:=R) (i:=r) HD) ?_
        refine sa ?_
        refine i1r (i:=r) (j:=j) HG ?_
        refine l1 (Pt.el _ (r*C+j) bk) ?_
        refine c1 (Pt.one _) ?_
        refine sa ?_
        refine wm (k:=E+3) (o:=0) (i:=i) (n:=R) hiR ?_
        rw[cj]
        refine c1 (Pt.row (kM:=kM) (C:=C) (n:=R) (i:=i) hiR) ?_
        refine sa ?_
        refine i1r (i:=i) (j:=j) HG ?_
        refine l1 (Pt.el _ (i*C+j) hp1) ?_
        refine i1r (i:=i) (j:=j) HG ?_
        refine t1 (Pt.el _ (i*C+j) hp1) (Pt.el_set _ (i*C+j) hp1 _) ?_
        refine i1r (i:=r) (j:=j) HG ?_
        refine t1 (Pt.el _ (r*C+j) hp3) (Pt.el_set _ (r*C+j) hp3 _) ?_
        refine nl hK ?_
        refine rq hN fun K hK=>?_
        iterate 2 refine sa ?_
        refine nl hK ?_
        rw[nQ]
        refine⟨j+1,wk1 yZ (hok:=Qf _) (hv:=fun j' ds h=>by
         rcases dT h with⟨rfl,rfl⟩|⟨hj,h⟩
         ·exact ah
         ·exact am hj (am hj (am hj h))),HG,by omega⟩
       ·refine AW.exit ?_
        have HG:j=C:=by have:=sY fT;omega
        rw[HG]
        clear fT hj HG
        have Bv:(gh C V i r C).length=R*C:=by rw[oI,hlen]
        have hp1:r*C+k<(gh C V i r C).length:=by rw[Bv];exact cT HD Mj
        refine vrsd [] hN fun K hK=>?_
        refine c1 (Pt.one _) ?_
        refine c1 (Pt.one _) ?_
        refine c1 (Pt.one _) ?_
        refine wm (k:=E+3) (o:=0) (i:=r) (n:=R) HD ?_
        rw[cj]
        refine c1 (Pt.row (kM:=kM) (C:=C) (n:=R) (i:=r) HD) ?_
        refine c1 (Pt.one _) ?_
        refine i1r (i:=r) (j:=k) Mj ?_
        refine l1 (Pt.el _ (r*C+k) hp1) ?_
        refine sa ?_
        refine c1 (Pt.one _) ?_
        refine sa ?_
        obtain⟨pv,hpv⟩:∃pv:Pv,pv=⟨k,byN C k i r V,decide (i≠r)⟩:=⟨_,rfl⟩
        refine s1 (d:=.ag (pvD pv)) (T_bldPv (p:=pv) (by rw[hpv];rfl) (by rw[hpv];rfl) (by rw[hpv];exact congrArg (fun b=>dB b) (p6.2 (by omega)))) ?_
        refine a1 nN (hz:=rfl) ?_
        refine v1 (k:=N) (ys:=pvD pv) (F2:=pvD pv) Pt.all (by exact rfl) (by exact BK pv) rfl ?_ rfl ah rfl (ht:=nN)
        refine nl hK ?_
        refine vrs hN fun K hK=>?_
        refine s1 (d:=.e (.lit (.func (.func 142) #[] #[]))) Ef ?_
        refine nl hK ?_
        refine vrs hN fun K hK=>?_
        refine sa ?_
        refine c1 (Pt.one _) ?_
        refine c1 (Pt.one _) ?_
        refine wm (k:=E+3) (o:=0) (i:=r) (n:=R) HD ?_
        rw[cj]
        refine c1 (Pt.row (kM:=kM) (C:=C) (n:=R) (i:=r) HD) ?_
        refine s1 (d:=.fn 143 [E+4,E+5,N]) wy ?_
        refine q1 (sHC (Kf (kM:=kM) (i:=r) (V:=gh C V i r C) (R:=R) (h:=fun U j=>wO U[r*C+j]! pv.by') (am (by omega) (am (by omega) ah)) (fun j hj=>by simp at hj;rcases hj with rfl|rfl|rfl <;> omega) Bv HD hC (fun U j hj hU=>h_by3 (kM:=kM) (krs:=E+4) (kr:=E+5) (kp:=N) (kR:=E+3) (p:=pv) ah (am (by omega) (am (by omega) (am (by omega) (am (by omega) L7)))) (am (by omega) (am (by omega) (am (by omega) (am (by omega) hvr)))) (am (by omega) ah) (am (by omega) (am (by omega) (am (by omega) (am (by omega) hvR)))) hU hj HD)) rfl (.inl (by kernel_rfl))) ?_
        refine nl hK ?_
        obtain⟨U2,hU2⟩:∃U2,U2=uP (gh C V i r C) (r*C) (fun U j=>wO U[r*C+j]! pv.by') C:=⟨_,rfl⟩
        rw[←hU2]
        have oQ:U2.length=R*C:=by rw[hU2,qQ,Bv]
        have hstep:iD C k r U2 R=po R C k i r V:=by rw[hU2,hpv];rfl
        have zZ:∀U:List Nu,fc ⟨(kM,dC ((cW aO).f U))::(N,pvD pv)::vs,lv,N+1⟩:=fun U=>((Qg.up (M:=N+1) (eQ _)).consM (dH _) (by unfold pvD;rw[sX,sX,oO];rfl)).consM (by omega) (oO _)
        refine AV.weak (hp':=⟨(kM,dC ((cW aO).f U2))::(N,pvD pv)::vs,lv,N+1⟩) (tm':=[(0,.e (.lit (.func (.yield l) #[] #[]))),(1,.pt k0 0),(3,.pt (E+4) 0),(4,.pt (E+5) 0),(5,.pt kk 0),(8,.pt N 0),(9,.e (.lit (.func (.func 142) #[] #[])))]) (wk1 yZ (hok:=zZ _) (hv:=fun j ds h=>by
         rcases dT h with⟨rfl,rfl⟩|⟨hj,h⟩
         ·exact ah
         rcases dT h with⟨rfl,rfl⟩|⟨Mk,h⟩
         ·exact am hj ah
         ·exact am hj (am Mk (am Mk (am hj h))))) ?_
        have g1:∀U:List Nu,((kM,dC ((cW aO).f U))::(N,pvD pv)::vs).lookup (E+4)=some [.gw (E+3) 1 R]:=fun U=>am (by omega) (am (by omega) L7)
        have g2:∀U:List Nu,((kM,dC ((cW aO).f U))::(N,pvD pv)::vs).lookup (E+5)=some [dI .i64 r]:=fun U=>am (by omega) (am (by omega) hvr)
        have g3:∀U:List Nu,((kM,dC ((cW aO).f U))::(N,pvD pv)::vs).lookup (E+3)=some (i5 kM C R):=fun U=>am (by omega) (am (by omega) hvR)
        have g4:∀U:List Nu,((kM,dC ((cW aO).f U))::(N,pvD pv)::vs).lookup kk=some [dI .i64 k]:=fun U=>am (by omega) (am (by omega) hvk)
        refine AV.seqA ?_
        refine rs hN fun K hK=>?_
        refine c1 (Pt.one _) ?_ (hv:=g1 _)
        refine stG (d:=dI .i64 (R:Nat)) tok (Ay (k:=E+3) (off:=0) (z:=1) nM aW rfl rfl) ?_
        refine sa ?_
        refine nl hK ?_
        refine AW.block (AW.loopW (fun n:Nat=>[(0,.e (.lit (.func (.yield l) #[] #[]))),(1,.pt k0 0),(3,.pt (E+4) 0),(4,.pt (E+5) 0),(5,.pt kk 0),(8,.pt N 0),(9,.e (.lit (.func (.func 142) #[] #[]))),(93,.gw (E+3) 1 R),(94,dI .i64 (R:Nat)),(95,dI .i64 (n:Nat))]) (fun n=>⟨(kM,dC ((cW aO).f (iD C k r U2 n)))::(N,pvD pv)::vs,lv,N+1⟩) (fun n=>n≤R) (fun n=>R - n) 0 ?_ (il _) ?_)
        ·exact wk1 yZ (hok:=zZ _) (hv:=fun j ds h=>h)
        ·intro n hn
         refine rs hN fun K hK=>?_
         refine sa ?_
         refine nl hK ?_
         refine AW.seq (AW.condS rfl (fun fT=>?_) (fun fT=>?_))
         ·have SW:n<R:=by have:=oc fT;omega
          have Qi:(iD C k r U2 n).length=R*C:=by rw[sF,oQ]
          have hp3:n*C+k<(iD C k r U2 n).length:=by rw[Qi];exact cT SW Mj
          refine AW.skip (AW.seq (AW.block (rs hN fun K hK=>?_)))
          refine sa ?_
          refine wm (k:=E+3) (o:=0) (i:=n) (n:=R) SW ?_
          rw[cj]
          refine c1 (Pt.row (kM:=kM) (C:=C) (n:=R) (i:=n) SW) ?_ (hv:=g3 _)
          refine a1 aW (hz:=rfl) ?_
          refine sa ?_
          refine v1 (k:=N+1) (F:=[D.e (.lit (.slice none 0 0))]) (ys:=[.ow kM (n*C*36) 36 C]) (Pt.one _) rfl rfl rfl ?_ rfl ah rfl
          refine nl hK ?_
          refine rs hN fun K hK=>?_
          refine c1 (Pt.one _) ?_
          refine c1 (Pt.one _) ?_ (hv:=am (by omega) (am (by omega) (g4 _)))
          refine i1r (i:=n) (j:=k) Mj ?_
          refine l1 (Pt.el _ (n*C+k) hp3) ?_
          refine n1 ?_
          refine z1 ?_
          refine nl hK ?_
          refine rs hN fun K hK=>?_
          refine sa ?_
          refine c1 (Pt.one _) ?_ (hv:=am (by omega) (am (by omega) (am (by omega) (am (by omega) (g2 _)))))
          iterate 2 refine sa ?_
          have hvT:∀(U:List Nu) (a b c d e:List D) j ds,((kM,dC ((cW aO).f U))::(N,pvD pv)::vs).lookup j=some ds→((kM,dC ((cW aO).f U))::(N+1+1,a)::(N+1+1,b)::(N+1,c)::(N+1,d)::(kM,e)::(N,pvD pv)::vs).lookup j=some ds:=fun U a b c d e j ds h=>by
           rcases dT h with⟨rfl,rfl⟩|⟨hj,h⟩
           ·exact ah
           have hjN:j<N+1:=by
            rcases dT h with⟨rfl,_⟩|⟨_,h⟩
            ·omega
            ·exact pZ (Qg.lt h)
           exact am hj (am (by omega) (am (by omega) (am (by omega) (am (by omega) (am hj h)))))
          have hvF:∀(U:List Nu) (a b c d:List D) j ds,((kM,dC ((cW aO).f U))::(N,pvD pv)::vs).lookup j=some ds→((N+1+1,a)::(N+1+1,b)::(N+1,c)::(N+1,d)::(kM,dC ((cW aO).f U))::(N,pvD pv)::vs).lookup j=some ds:=fun U a b c d j ds h=>by
           have hjN:j<N+1:=(zZ U).lt h
           exact am (by omega) (am (by omega) (am (by omega) (am (by omega) h)))
          rcases O0 (decide ((n:Int)≠(r:Int))) with z5|z5
          ·have hnr:n≠r:=by have:=oc z5;omega
           refine l1g (Pt.idN _) z5 ?_
           refine cqg (Rh _) z5 ?_
           refine ga z5 ?_
           refine s1 (vJ z5) ?_
           refine nl hK ?_
           refine AW.condS rfl (fun v4=>?_) (fun v4=>?_)
           ·have e:iD C k r U2 (n+1)=uP (iD C k r U2 n) (n*C) (fun U j=>Bp U[n*C+j]! (tD (iD C k r U2 n)[n*C+k]! U[r*C+j]!)) C:=by
             conv=>lhs;unfold iD
             rw[an ⟨hnr,oc v4⟩]
            refine rq hN fun K hK=>?_
            refine sa ?_
            refine c1 (Pt.one _) ?_ (hv:=am (by omega) (am (by omega) ah))
            refine s1 (d:=.fn 145 [N+1,N+1+1,E+4,E+5]) wy ?_
            refine q1 (sHC (Kf (kM:=kM) (i:=n) (V:=iD C k r U2 n) (R:=R) (h:=fun U j=>Bp U[n*C+j]! (tD (iD C k r U2 n)[n*C+k]! U[r*C+j]!)) (am (by omega) (am (by omega) (am (by omega) (am (by omega) ah)))) (fun j hj=>by simp at hj;rcases hj with rfl|rfl|rfl|rfl <;> omega) Qi SW hC (fun U j hj hU=>h_by4 (kM:=kM) (kl:=N+1) (kx:=N+1+1) (krs:=E+4) (kr:=E+5) (kR:=E+3) (i:=n) (b:=(iD C k r U2 n)[n*C+k]!) ah (am (by omega) (am (by omega) (am (by omega) ah))) (am (by omega) ah) (am (by omega) (am (by omega) (am (by omega) (am (by omega) (am (by omega) (g1 _)))))) (am (by omega) (am (by omega) (am (by omega) (am (by omega) (am (by omega) (g2 _)))))) (am (by omega) (am (by omega) (am (by omega) (am (by omega) (am (by omega) (g3 _)))))) hU hj HD SW)) rfl (.inl (by kernel_rfl))) ?_
            refine nl hK ?_
            refine rq hN fun K hK=>?_
            iterate 2 refine sa ?_
            refine nl hK ?_
            rw[nQ]
            refine⟨n+1,?_,SW,by omega⟩
            dsimp only
            rw[e]
            exact wk1 yZ (hok:=zZ _) (hv:=fun j ds h=>hvT _ _ _ _ _ _ j ds h)
           ·have e:iD C k r U2 (n+1)=iD C k r U2 n:=by
             conv=>lhs;unfold iD
             rw[az fun h=>sY v4 h.2]
            refine AW.skip (rq hN fun K hK=>?_)
            iterate 2 refine sa ?_
            refine nl hK ?_
            rw[nQ]
            refine⟨n+1,?_,SW,by omega⟩
            dsimp only
            rw[e]
            exact wk1 yZ (hok:=zZ _) (hv:=fun j ds h=>hvF _ _ _ _ _ j ds h)
          ·have e:iD C k r U2 (n+1)=iD C k r U2 n:=by
            conv=>lhs;unfold iD
            rw[az fun h=>by have:=sY z5;omega]
           iterate 3 refine gn z5 ?_
           refine s1 (tT z5) ?_
           refine nl hK ?_
           refine AW.condF rfl rfl (AW.skip (rq hN fun K hK=>?_))
           iterate 2 refine sa ?_
           refine nl hK ?_
           rw[nQ]
           refine⟨n+1,?_,SW,by omega⟩
           dsimp only
           rw[e]
           exact wk1 yZ (hok:=zZ _) (hv:=fun j ds h=>hvF _ _ _ _ _ j ds h)
         ·refine AW.exit ?_
          have SW:n=R:=by have:=sY fT;omega
          rw[SW,hstep]
          clear fT hn SW
          have hls:(po R C k i r V).length=R*C:=by rw[vf,hlen]
          refine AV.seq ?_
          refine AV.yield (tb:=tbl) (x:=x) (l:=l) (rec:=rec) (hpE:=⟨Lq,Si,E⟩) (gE:=g) (wE:=w) 2 rfl (by rw[hN];kernel_rfl) (by kernel_rfl) ⟨yZ,hg0,hw0,fun p _ hp=>by rw[Qs];exact hp⟩ (fun K hK=>?_)
          refine sa ?_
          refine p1 (Pt.all (F:=pvD pv)) (BK pv) ?_
          have hJ2:=hJ acc vs ((kM,dC ((cW aO).f (po R C k i r V)))::(N,pvD pv)::vs) lv N (N+1) hJa (eQ _) (by omega) (fun j ds hj hjE h=>am hj (am (by omega) h))
          refine .nil (hK _ _ _ _ _ rfl rfl (by rw[hB];exact hmk _ _ _ _ (hrd (po R C k i r V) acc pv _ (by omega) (by omega) hls (zZ _) ah hJ2)) ?_ ?_)
          ·rintro⟨v2,l2,N2⟩ a w ⟨hgd,⟨hok3,yq,hv3⟩,hJ3⟩ hr
           dsimp only at yq hv3
           show Code.wpIn (FWd none) 0 prog _ _ a w
           have kp:∀j ds,j≠k4→j≠kM→j<N→vs.lookup j=some ds→v2.lookup j=some ds:=fun j ds h1 h2 h3 h=>hv3 j ds (by simpa using h1) (am h2 (am (by omega) h))
           have q5:v2.lookup (E+5)=some [dI .i64 r]:=kp _ _ (by omega) (by omega) (by omega) hvr
           refine (vrq hN fun K hK=>?_) a w hr
           refine c1 (Pt.one _) ?_
           refine sa ?_
           rw[nQ]
           refine v1 (k:=E+5) (F:=[dI .i64 r]) (ys:=[dI .i64 ((r+1:Nat):Int)]) (Pt.one _) rfl rfl rfl ?_ rfl q5 rfl
           refine nl hK ?_
           intro a w hr
           refine .inl ⟨rfl,r+1,po R C k i r V,acc++[pv],_,Wk.tmS (tin (tin (tin (tin (tin PI))))) a w hr,⟨hok3.consM (by omega) rfl,ru,by show kk<N2;omega,hls,fun _ _=>?_,?_,ah,?_,fun _ _=>?_,fun _ _=>?_⟩,?_,by rw[cN];exact Nat.succ_le_succ Qp,?_⟩
           ·exact am (by omega) (hv3 _ _ (by simpa using fun e=>h4M e.symm) ah)
           ·exact am (by omega) (kp _ _ (fun e=>h40 e.symm) (fun e=>hM0 e.symm) (by omega) hv0)
           ·exact am (by omega) (kp _ _ (by omega) (by omega) (by omega) hvk)
           ·exact am (by omega) (kp _ _ (by omega) (by omega) (by omega) L7)
           ·exact am (by omega) (kp _ _ (by omega) (by omega) (by omega) hvR)
           ·exact hJ (acc++[pv]) v2 _ l2 N2 N2 hJ3 (aC _) (by omega) (fun j ds _ hjE h=>am (by omega) h)
           ·rw[oP,hm,Qh]
            conv=>lhs;unfold lh
            rw[an HD,hf]
            dsimp only
            rw[an hgd,hpv]
          ·rintro bk g2 W' a ⟨hgd,hS2⟩ oQ ui HJ
           rw[hB] at ui
           refine .inr ⟨rfl,HJ,bk,g2,W',rfl,oQ,ui,?_,hS2⟩
           rw[oP,hm]
           conv=>lhs;unfold lh
           rw[an HD,hf]
           dsimp only
           rw[az (by rw[hgd];simp)]
    ·rintro ex a w' (⟨rfl,r',V',QM,⟨pe,QT,N'⟩,hr,⟨hok',hnx',hkn',hlen',hvM',hv0',hvr',hvk',hvrs',hvR'⟩,hJ',hal',hred'⟩|⟨rfl,hd,hp',g',W',rfl,hl,hc,hn,hS'⟩)
     ·show Code.wpIn (FWd none) 0 prog _ _ a w'
      dsimp only at hkn' hvM' hv0' hvr' hvk' hvrs' hvR'
      refine (?_:AV prog none x _ (TH l E k0 kk) ⟨pe,QT,N'⟩ _) a w' hr
      refine AV.seqA ?_
      refine rs hN fun K hK=>?_
      refine c1 (Pt.one _) ?_
      refine nl hK ?_
      refine rq hN fun K hK=>?_
      refine a1 dJ (hz:=rfl) ?_
      refine v1 (k:=N') (F:=[dI .i64 0]) (ys:=[dI .i64 (k:Int)]) (Pt.one _) rfl rfl rfl ?_ rfl ah rfl
      refine nl hK ?_
      refine vrq hN fun K hK=>?_
      refine c1 (Pt.one _) ?_
      refine sa ?_
      rw[nQ]
      refine v1 (k:=N') (F:=[dI .i64 (k:Int)]) (ys:=[dI .i64 ((k+1:Nat):Int)]) (Pt.one _) rfl rfl rfl ?_ rfl ah rfl
      refine nl hK ?_
      intro a w hr
      refine⟨C - (k+1),_,_,by omega,Wk.tmS (tm':=TH l E k0 N') (tin (tin (tin (tin (tin PI))))) a w hr,k+1,r',V',QM,N',rfl,Mj,rfl,⟨?_,by omega,dH _,hlen',fun h1 h2=>?_,?_,?_,ah,fun h1 h2=>?_,fun h1 h2=>?_⟩,?_,hal',hred'⟩
      ·exact ((hok'.up (M:=N'+1) (eQ _)).consM (dH _) rfl).consM (dH _) rfl |>.consM (dH _) rfl
      ·exact am (by omega) (am (by omega) (am (by omega) (hvM' h1 h2)))
      ·exact am (by omega) (am (by omega) (am (by omega) hv0'))
      ·exact am (by omega) (am (by omega) (am (by omega) hvr'))
      ·exact am (by omega) (am (by omega) (am (by omega) (hvrs' h1 h2)))
      ·exact am (by omega) (am (by omega) (am (by omega) (hvR' h1 h2)))
      ·exact hJ QM pe _ QT N' (N'+1) hJ' (eQ _) (by omega) (fun j ds _ hjE h=>am (by omega) (am (by omega) (am (by omega) h)))
     ·exact .inr ⟨rfl,hd,hp',g',W',rfl,hl,hc,hn,hS'⟩
   ·refine AW.exit ?_
    intro a w hr
    have HD:¬r<R:=by have:=sY rf;omega
    exact .inl ⟨.inl rfl,_,_,hr,V,acc,oP.trans (Jz (.inr HD)),Qg,SG,hJa⟩
  ·iterate 4 refine gn hb ?_
   refine s1 (tT hb) ?_
   refine nl hK ?_
   refine AW.condF rfl rfl (AW.exit ?_)
   intro a w hr
   have Mj:¬k<C:=by have:=sY hb;omega
   exact .inl ⟨.inl rfl,_,_,hr,V,acc,oP.trans (Jz (.inl (by omega))),Qg,SG,hJa⟩
end
end
theorem Rg(x:Nu):ar prog 103 [dG aO x] (dB (!aH x)):=by
 refine bB (rs:=[.tmp 2]) (fun cx hx h0=>?_) func103
 refine ra hx ?_
 refine rs hx fun K hK=>?_
 refine mbr ?_
 refine sc (w_Good x) ?_
 refine nbr hK ?_
 exact AW.ret (rv1)
theorem idxP_ge {p:Nu→Bool}{l:List Nu}:decide (0≤L0 p l)=l.any p:=by
 unfold L0
 cases h:l.findIdx? p with
 |none=>
  rw[List.findIdx?_eq_none_iff] at h
  have:l.any p=false:=by
   rw[List.any_eq_false]
   intro x hx
   rw[h x hx];simp
  rw[this];rfl
 |some i=>
  obtain⟨hi,h1,_⟩:=al_24.1 h
  have:l.any p=true:=OZ.2 ⟨l[i],uc hi,h1⟩
  rw[this]
  exact ck (show (0:Int)≤(i:Int) by omega)
theorem Jb {f:FuncId}{p:Nu→Bool}(hf:∀x:Nu,ar prog f [dG aO x] (dB (p x))){l:List Nu}(hl:l.length≤1000000):ar prog 102 [.e (slE aO l),.e (.lit (.func (.func f) #[] #[]))] (dB (l.any p)):=by
 refine bB (rs:=[.tmp 4]) (fun cx hx h0=>?_) func102
 refine ra hx ?_
 refine rs hx fun K hK=>?_
 refine mbr ?_
 refine sc (Ri hf hl) ?_
 refine nbr hK ?_
 refine AW.ret ?_
 rw[idxP_ge]
 exact rv1
theorem QJ(l:List Nu):(!l.any fun x=>!aH x)=l.all aH:=by
 induction l with
 |nil=>rfl
 |cons a l ih=>rw[List.any_cons,jL,Bool.not_or,Bool.not_not,ih]
theorem w_mgood {l:List Nu}(hl:l.length≤1000000):ar prog 58 [.e (slE aO l)] (dB (l.all aH)):=by
 refine bB (rs:=[.tmp 2]) (fun cx hx h0=>?_) func58
 refine ra hx ?_
 refine rs hx fun K hK=>?_
 refine sa ?_
 refine sc (Jb Rg hl) ?_
 refine nbr hK ?_
 refine AW.ret ?_
 rw[QJ]
 exact rv1
theorem AR.own {hp:Hp}{id z n:Nat}{xs:List E}:AR hp (.own id z n xs) (.e (.sl z n xs)):=by
 intro B g w v hr hd
 cases hd with
 |own _ _ _ _ _ h hid ht=>exact .e _ _ (h.less fun p hp=>hp.1)
theorem ar.ofMA {P : Program} {tb : TypeId → Option TyE} (tok : TOk P tb) {f : FuncId} {fn : Func} {c : Code} {ds es : List D} {rs : List ResultVar} (hf : P.funcs[f]? = some fn) (hb : fn.body = some c) (qH : (fn.name == "runtime.NumGoroutine") = false) (hN : ds.length ≤ fn.ntmps) (hrs : fn.results.toList = rs)
  (h:∀x:Cx,x.N=fn.ntmps→x.hp0=⟨[],[],0⟩→x.df=[]→x.B≤x.w0.heap.size→AV P none x c (dv 0 ds) ⟨[],[],0⟩ (QS x fun _ tm bk=>∃d,xp tb rs tm bk d∧AR bk d (.tu es))):ar P f ds (.tu es):=by
 subst hrs
 refine⟨⟨fn,hf,qH,by rw[hb];rfl⟩,fun w F vs hF hsz ss=>?_⟩
 have hr:HR w.heap.size ⟨[],[],0⟩ ⟨fun _=>0,fun _=>default,F⟩ w:=⟨fun k ds h=>by simp at h,fun _ _ _ _ h=>by simp at h,fun _ _ _ h=>by simp at h,fun _ _ _ _ _ h=>by simp at h,aC _,hF⟩
 refine (callsIn_wide (n:=0)).1 (callsIn_of_wp_marks (F:=FWd none) hf hb trivial (wpIn_mono (h ⟨w.heap.size,w,F,fn.ntmps,⟨[],[],0⟩,⟨fun _=>0,fun _=>default,F⟩,[]⟩ rfl rfl rfl (aC _) _ _ (H7 hr (fun _ _ h=>h) hN hsz ss)) ?_))
 intro ex a w' he
 refine he.leaves rfl ?_
 rintro x2 tm bk D w2 h1 h2 h3 h4 h5 h6 ⟨g',om,fh,Ma,AY,hB,hF',hM⟩ ⟨d,Mc,har⟩ rfl hD uh
 have uh:w.heap.size≤D:=uh
 rw[h1] at om hB hF'
 rw[h2] at hB
 rw[h3] at hF'
 have HE:=om.putO (o':=.deferred none) hD rfl rfl
 obtain⟨v,bm,l4⟩:=tV (x:=⟨w.heap.size,w,F,fn.ntmps,⟨[],[],0⟩,⟨fun _=>0,fun _=>default,F⟩,[]⟩) (g:=g') tok rfl Mc HE (fun t d ht=>(fh t d ht).putO hD rfl rfl)
 refine⟨v,bm,v,rfl,(har _ g' _ v HE l4).less fun p hp=>⟨hF' p (hF p hp) hp,fun k ds hk he=>?_⟩,qR hB uh⟩
 have h7:=(HE.var k ds hk).2.1
 have h8:=hF p hp
 dsimp only at h7
 omega
section
theorem bu.up1 {vs:List (Nat×List D)}{lv:List (Nat×Nat×Nat×TypeId)}{N:Nat}{g:Gh}{w:World}:bu ⟨vs,lv,N⟩ g w ⟨vs,lv,N+1⟩ g w:=
 ⟨aC _,fun _ _ _=>rfl,fun _ _ h=>h,eQ N,fun _ _=>rfl,fun _ _ m _ h=>⟨m,h,aC _,fun _=>rfl⟩,fun _ _ h=>⟨rfl,fun _ _ h=>h,h⟩,fun _=>.same fun _=>rfl⟩
theorem HR.up1 {vs:List (Nat×List D)}{lv:List (Nat×Nat×Nat×TypeId)}{N B:Nat}{g:Gh}{w:World}(hr:HR B ⟨vs,lv,N⟩ g w):HR B ⟨vs,lv,N+1⟩ g w:=by
 refine⟨fun k ds h=>?_,hr.inj,fun id n e h=>?_,hr.tinj,hr.base,hr.fits⟩
 ·obtain⟨a,b,c,cs,ty,d,e,f⟩:=hr.var k ds h
  exact⟨pZ a,b,c,cs,ty,d,e,fun j u hu=>⟨(f j u hu).1,fun d hd=>((f j u hu).2 d hd).mono bu.up1⟩⟩
 ·obtain⟨a,b⟩:=hr.tok id n e h
  exact⟨pZ a,b⟩
theorem HC.gwOw {P:Program}{f:FuncId}{ds:List D}{hp hp':Hp}{k z n:Nat}(h:HC P f ds hp (.gw k z n) hp'):HC P f ds hp (.ow k 0 z n) hp':=by
 refine⟨h.1,fun B g w vs hr hsz cJ=>(h.2 B g w vs hr hsz cJ).mono ?_⟩
 rintro e w' ⟨v,g',rfl,h1,h2,h3,h4,h5⟩
 refine⟨v,g',rfl,h1,h2,?_,h4,h5⟩
 cases h3 with
 |gw _ _ _ c hk oo nR hs=>exact .ow k 0 z n c hk oo nR
section
variable {vs:List (Nat×List D)} {lv:List (Nat×Nat×Nat×TypeId)} {N:Nat}
theorem Tl {V:List Nu}(hl:V.length≤1000000):HC prog 97 [.e (slE aO V)] ⟨vs,lv,N⟩ (g7 N V.length) ⟨if V.length=0 then vs else (N,dC ((cW aO).f V))::vs,lv,N+1⟩:=by
 by_cases h0:V.length=0
 ·obtain rfl:V=[]:=jR h0
  refine⟨(dx 0 [] (by decide)).1,fun B g w us hr hsz cJ=>(Ai (hp:=⟨vs,lv,N⟩) (ds:=[.e (slE aO [])]) (dx 0 [] (by decide)) ⟨AR.dn rfl,trivial⟩ hr hsz cJ).mono ?_⟩
  rintro e w' ⟨v,rfl,⟨_,_,hE⟩,hb⟩
  have hE2:cG w' g.F (.sl 36 0 []) v:=by
   cases hE with
   |sl _ _ _ A c cs hl hz oo nR hA h1 h2=>exact .sl _ _ _ A c cs hl hz oo nR hA (fun ad ha i e hi=>by simp at hi) (fun i e hi=>by simp at hi)
  exact⟨v,g,rfl,(hr.keep hb.size hb.block).up1,(bu.keep _ g hb.size hb.block).trans bu.up1,.e _ _ hE2,hb.mono hr.base,fun _ _ h=>h⟩
 ·have h:=HC.adopt (hp:=⟨vs,lv,N⟩) (ds:=[.e (slE aO V)]) (dx V.length (V.flatMap aO.f) hl) ⟨AR.dn rfl,trivial⟩ (by omega) (lit_Nu V)
  have h2:=h.gwOw
  rw[show g7 N V.length=.ow N 0 36 V.length from az h0,az h0]
  exact h2
end
def xc:Cd Pv:=⟨38,fun p=>[.lit (.int .i64 p.col)]++aO.f p.by'++[.lit (.bool p.mov)],fun p=>by simp[aO.h p.by'];rfl⟩
theorem pvD_c(p:Pv):D.ag (pvD p)=dG xc p:=by
 show D.ag (pvD p)=D.ag (([E.lit (.int .i64 p.col)]++aO.f p.by'++[E.lit (.bool p.mov)]).map .e)
 rw[lf,lf]
 rfl
def redE(R C:Nat):Option (List Nu×List Pv)→List D
 |some (U,acc)=>[.ag [dI .i64 R,dI .i64 C,.e (slE aO U),.e (slE xc acc)],dI .i64 0]
 |none=>[.ag [dI .i64 0,dI .i64 0,.e (slE aO []),.e (slE xc [])],dI .i64 30]
def PvO(acc:List Pv)(d:D)(hp:Hp):Prop:=(acc=[]∧d=dN)∨∃tk,tk<hp.next∧d=dO tk xc acc∧hp.live.lookup tk=some (acc.length,38,102)
def redJ(kM k4 R C:Nat)(acc:List Pv)(hp:Hp):Prop:=6≤hp.next∧hp.vars.lookup 1=some [dI .i64 0,dI .i64 0,dN,dN]∧hp.vars.lookup 2=some [dI .i64 0]∧∃d,hp.vars.lookup k4=some (lE kM R C++[d])∧PvO acc d hp
def redS(hp:Hp):Prop:=6≤hp.next∧hp.vars.lookup 1=some [dI .i64 0,dI .i64 0,dN,dN]∧hp.vars.lookup 2=some [dI .i64 30]
section
variable {kM R C:Nat}
theorem red_m {d:D}:Pt (lE kM R C++[d]) (0+0) (lE kM R C) (fun ys=>ys++[d]):=Pt.of [] [d] rfl rfl fun y=>rfl
theorem red_D {d:D}:Pt (lE kM R C++[d]) (0+0+2) [g7 kM (R*C)] (fun ys=>[dI .i64 R,dI .i64 C]++ys++[d]):=Pt.of [dI .i64 R,dI .i64 C] [d] rfl rfl fun y=>rfl
theorem red_l {d:D}:Pt (lE kM R C++[d]) (0+3) [d] (fun ys=>lE kM R C++ys):=Pt.of (lE kM R C) [] rfl (by simp) fun y=>by simp
theorem Sb {d:D}:Pt [dI .i64 R,dI .i64 C,d] (0+0) [dI .i64 R] (fun ys=>ys++[dI .i64 C,d]):=Pt.of [] _ rfl rfl fun y=>rfl
theorem Sd {d:D}:Pt [dI .i64 R,dI .i64 C,d] (0+1) [dI .i64 C] (fun ys=>[dI .i64 R]++ys++[d]):=Pt.of [dI .i64 R] [d] rfl rfl fun y=>rfl
theorem Sc {d:D}:Pt [dI .i64 R,dI .i64 C,d] (0+2) [d] (fun ys=>[dI .i64 R,dI .i64 C]++ys++[]):=Pt.of [dI .i64 R,dI .i64 C] [] rfl rfl fun y=>rfl
end
end
section
def restC:Code:=match (f63).body with
 |some (.seq _ (.seq _ c))=>c
 |_=>.skip
theorem RS.wk {x:Cx}{tm tm':List (Nat×D)}{hp hp':Hp}{a:Act}{w:World}(hr:RS x tm hp a w)(hw:Wk x tm hp tm' hp'):RS x tm' hp' a w:=hw a w hr
theorem redJ_up {kM k4 R C:Nat}{acc:List Pv}{vs pe:List (Nat×List D)}{lv:List (Nat×Nat×Nat×TypeId)}{N N':Nat}(hM:kM=3∨kM=4)(h4:k4=3∨k4=4)(lr:k4≠kM)(h:redJ kM k4 R C acc ⟨vs,lv,N⟩)(hN:N≤N')(hv:∀j ds,j≠kM→j<6→vs.lookup j=some ds→pe.lookup j=some ds):redJ kM k4 R C acc ⟨pe,lv,N'⟩:=by
 obtain⟨h0,h1,h2,d,h3,h5⟩:=h
 refine⟨cg h0 hN,hv _ _ (by omega) (by omega) h1,hv _ _ (by omega) (by omega) h2,d,hv _ _ lr (by omega) h3,?_⟩
 rcases h5 with h5|⟨tk,a,b,c⟩
 ·exact .inl h5
 ·exact .inr ⟨tk,bC a hN,b,c⟩
theorem ng {R C:Nat}:∀{n k r:Nat} {V:List Nu} {acc:List Pv} {W:List Nu} {l:List Pv},V.length=R*C→lh R C n k r V acc=some (W,l)→W.length=R*C
 |0,_,_,_,_,_,_,hV,h=>by
  unfold lh at h
  injection h with h
  injection h with h1 h2
  rw[←h1];exact hV
 |n+1,k,r,V,acc,W,l,hV,h=>by
  unfold lh at h
  split at h
  ·split at h
   ·exact ng hV h
   ·split at h
    ·exact ng (by rw[vf];exact hV) h
    ·cases h
  ·injection h with h
   injection h with h1 h2
   rw[←h1];exact hV
section
variable {R C kM k4:Nat} {V:List Nu} {x:Cx} {vs:List (Nat×List D)}
theorem AK(hM:kM=3∨kM=4)(h4:k4=3∨k4=4)(lr:k4≠kM)(hN:x.N=(f63).ntmps)(h0:x.hp0=⟨[],[],0⟩)(pg:x.df=[])(hB:x.B≤x.w0.heap.size)(hok:fc ⟨vs,[],5⟩)
  (hV:V.length=R*C) (Ot:R*C≤1000000) (hR:R≤1000000) (hC:C≤1000000)
  (Bv:vs.lookup 1=some [dI .i64 0,dI .i64 0,dN,dN]) (oQ:vs.lookup 2=some [dI .i64 0]) (hl4:vs.lookup k4=some (lE kM R C++[dN])) (hlM:0<R→0<C→vs.lookup kM=some (dC ((cW aO).f V)))
  (wU:∀k ds,vs.lookup k=some ds→ds.all D.noO=true):
  AV prog none x restC [(2,.pt 1 0),(3,.pt 2 0),(4,.pt k4 0)] ⟨vs,[],5⟩ (QS x fun _ tm bk=>∃d,xp tbl [.cell 2 97,.cell 3 26] tm bk d∧AR bk d (.tu (redE R C (lh R C C 0 0 V [])))):=by
 have hkM6:kM<5:=by omega
 have hk46:k4<5:=by omega
 refine AV.seq ?_
 refine vrs hN fun K hK=>?_
 refine sa ?_
 refine p1 red_m rfl ?_
 refine q1s (d:=.fn 137 [5]) (hp':=⟨(5,lE kM R C)::vs,[],6⟩) (PY rfl (h_steps (kM:=kM) (R:=R) (C:=C) hkM6) rfl) ?_
 refine nl hK ?_
 refine AV.block ?_
 have hl5:∀j ds,vs.lookup j=some ds→((5,lE kM R C)::vs).lookup j=some ds:=fun j ds h=>am (hok.ne h (aC _)) h
 refine AV.range (f:=137) (ks:=[5]) rfl ⟨_,func137,rfl,rfl⟩ hB
  (Sv (kM:=kM) (k0:=5) (k4:=k4) (E:=6) (R:=R) (C:=C) (V0:=V) (J:=redJ kM k4 R C) (S:=redS) (by omega) (by omega) (by omega) lr (by omega) (by omega) hV Ot hR hC (fun h1 h2=>hl5 _ _ (hlM h1 h2)) ah (fun k ds h=>?_) (by rw[hN];exact cD rfl) ?_ ?_ ?_) ?_ ?_
 ·rcases dT h with⟨rfl,rfl⟩|⟨_,h⟩
  ·unfold lE g7;split <;> rfl
  ·exact wU k ds h
 ·exact⟨aC _,hl5 _ _ Bv,hl5 _ _ oQ,dN,hl5 _ _ hl4,.inl ⟨rfl,rfl⟩⟩
 ·exact fun acc vs pe lv N N' h hN _ hv=>redJ_up hM h4 lr h hN hv
 ·rintro V' acc pv ⟨v1',lv,N⟩ Lj yr hV' hokp SG ⟨hN6,hj1,Mk,d,hj4,hpo⟩ l y hy _ hy0
  dsimp only at hN6 hj1 Mk hj4 SG
  have hk4N:k4<N:=by omega
  have hmD:g7 kM (R*C)=.ow kM 0 36 (R*C):=az (Nat.ne_of_gt (sW Lj (by omega)))
  refine vrr (hy.trans hN) (fun K hK=>?_)
  refine a1 nN (hz:=rfl) ?_
  refine v1 (k:=N) (ys:=pvD pv) (F2:=pvD pv) Pt.all (by exact rfl) (by exact BK pv) rfl ?_ rfl ah rfl (ht:=nN)
  have hokN:fc ⟨(N,pvD pv)::v1',lv,N+1⟩:=(hokp.up (M:=N+1) (eQ _)).consM (dH _) (by unfold pvD;rw[sX,sX,oO];rfl)
  refine .nil (hK _ _ fun a w hr=>⟨rfl,[(2,.pt 1 0),(3,.pt 2 0),(4,.pt k4 0),(5,.pt N 0)],⟨(N,pvD pv)::v1',lv,N+1⟩,RS.wk hr (wk1 hy0 (hok:=hokN) (hv:=fun j ds h=>by
   rcases dT h with⟨rfl,rfl⟩|⟨hj,h⟩
   ·exact ah
   ·exact am hj (am hj h))),fun y2 AS _ h0y=>?_⟩)
  have AS:=AS.trans hN
  refine AV.block ?_
  refine AV.seq ?_
  refine vrrs AS fun K hK=>?_
  iterate 2 refine sa ?_
  refine c1 red_D ?_ (hv:=am (by omega) hj4)
  have hgd:=HC.frz (hp:=⟨(N,pvD pv)::v1',lv,N+1⟩) (ds:=[g7 kM (R*C)]) (w_mgood (l:=V') (by rw[hV'];exact Ot)) ⟨by rw[hmD];exact AR.list (am (by omega) SG) hV',trivial⟩ rfl
  refine q1s (PY rfl hgd rfl) ?_
  refine sa ?_
  refine nl hK ?_
  refine AV.cond rfl (fun hb=>?_) (fun hb=>?_)
  ·have hbad:V'.all aH=false:=by simpa using hb
   refine vrrs AS fun K hK=>?_
   refine s1 (d:=.ag [dI .i64 0,dI .i64 0,dN,dN]) (cp (ps:=[]) kb) ?_
   refine v1 (k:=1) (F:=[dI .i64 0,dI .i64 0,dN,dN]) (ys:=[dI .i64 0,dI .i64 0,dN,dN]) Pt.all (by exact rfl) (by exact rfl) rfl ?_ rfl (am (by omega) hj1) rfl (ht:=kb)
   refine v1 (k:=2) (F:=[dI .i64 0]) (ys:=[dI .i64 30]) (Pt.one _) rfl rfl rfl ?_ rfl (am (by omega) (am (by omega) Mk)) rfl
   refine .nil (hK _ _ (AV.ret fun a w hr=>⟨_,_,hr,hbad,by show 6≤N+1;omega,am (by omega) ah,ah⟩))
  ·have hgood:V'.all aH=true:=by simpa using hb
   have key:∃ul Ez N2 tk,(∀tm,Wk y2 tm ⟨(N,pvD pv)::v1',lv,N+1⟩ tm ⟨ul,Ez,N2⟩)∧fc ⟨ul,Ez,N2⟩∧N+1≤N2∧tk<N2∧ul.lookup k4=some (lE kM R C++[dO tk xc acc])∧Ez.lookup tk=some (acc.length,38,102)∧∀j ds,j≠k4→((N,pvD pv)::v1').lookup j=some ds→ul.lookup j=some ds:=by
    rcases hpo with⟨rfl,rfl⟩|⟨tk,SH,rfl,S0⟩
    ·refine⟨_,_,_,N+1,fun tm=>Wk.nilOwn k4 3 102 38 (hk:=am (by omega) hj4) (hj:=rfl) (hd:=rfl),?_,eQ _,dH _,ah,ah,fun j ds hj h=>am hj h⟩
     have h1:=hokN.up (M:=N+1+1) (eQ _)
     refine⟨fun j es hj=>?_,fun id e hi=>?_⟩
     ·rcases dT hj with⟨e1,rfl⟩|⟨_,hj⟩
      ·refine⟨by rw[e1];show k4<N+1+1;omega,?_⟩
       unfold lE g7
       split <;> simp[D.idsC,dI] <;> omega
      ·exact h1.var j es hj
     ·by_cases e1:id=N+1
      ·rw[e1];show N+1<N+1+1;omega
      ·exact h1.tok id e (by rw[←hi];exact (al e1).symm)
    ·exact⟨_,_,_,tk,fun tm=>Wk.refl _ _ _,hokN,aC _,pZ SH,am (by omega) hj4,S0,fun j ds hj h=>h⟩
   obtain⟨ul,Ez,N2,tk,hw,zZ,hN2,SH,hd4,S0,S1⟩:=key
   refine AV.skip fun a w hr=>?_
   show Code.wpIn (FWd (some l)) 0 prog _ _ a w
   refine (AV.weak (hw _) ?_:AV prog (some l) y2 _ _ ⟨(N,pvD pv)::v1',lv,N+1⟩ _) a w hr
   refine vrr AS (fun K hK=>?_)
   refine sa ?_
   refine c1 red_l ?_ (hv:=hd4)
   refine p1 (Pt.all (F:=pvD pv)) (BK pv) ?_ (hv:=S1 _ _ (by omega) ah)
   rw[pvD_c]
   refine s1 (d:=dO N2 xc [pv]) (hp':=⟨ul,(N2,1,38,102)::Ez,N2+1⟩) (pP ([pv]:List Pv) xc Rq nN) ?_
   have Qp:(acc++[pv]).length≤1000000:=by rw[cN];show acc.length+1≤1000000;omega
   refine s1 (d:=dO tk xc (acc++[pv])) (hp':=⟨ul,(tk,(acc++[pv]).length,38,102)::(N2,1,38,102)::Ez,N2+1⟩) (ip (l:=acc) (l':=[pv]) (c:=xc) (id:=tk) Rq nN (cg (bY _ Qp) (by decide)) (hl:=(al (by omega)).trans S0)) ?_
   refine sa ?_
   refine v1 (k:=k4) (F:=lE kM R C++[dO tk xc acc]) (ys:=[dO tk xc (acc++[pv])]) (F2:=lE kM R C++[dO tk xc (acc++[pv])]) red_l rfl rfl rfl ?_ rfl hd4 rfl
   refine .nil (hK _ _ fun a w hr=>⟨_,_,hr,hgood,⟨?_,?_,?_⟩,?_⟩)
   ·have h1:=(zZ.up (M:=N2+1) (eQ _)).consM (k:=k4) (ds:=lE kM R C++[dO tk xc (acc++[pv])]) (by omega) (by unfold lE g7;split <;> simp[D.idsC,dI,dO] <;> omega)
    refine⟨fun j es hj=>h1.var j es hj,fun id e hi=>?_⟩
    by_cases e1:id=tk
    ·rw[e1];show tk<N2+1;omega
    ·by_cases e2:id=N2
     ·rw[e2];show N2<N2+1;omega
     ·exact h1.tok id e (by rw[←hi];exact ((al e1).trans (al e2)).symm)
   ·show N≤N2+1;omega
   ·intro j ds hj h
    have hj4':j≠k4:=by simpa using hj
    exact am hj4' (S1 j ds hj4' (am (hokp.ne h (aC _)) h))
   ·refine⟨by show 6≤N2+1;omega,am (by omega) (S1 _ _ (by omega) (am (by omega) hj1)),am (by omega) (S1 _ _ (by omega) (am (by omega) Mk)),_,ah,.inr ⟨tk,by show tk<N2+1;omega,rfl,ah⟩⟩
 ·rintro x' Db ⟨v1',lv,N⟩ a w hbh hrs ⟨V',acc,oP,hok',hM',hN6,hj1,Mk,d,hj4,hpo⟩
  dsimp only at hN6 hj1 Mk hj4 hM'
  have hlen:V'.length=R*C:=ng hV oP
  show Code.wpIn (FWd none) 0 prog _ _ a w
  refine (vrs (x:=x') (hbh.N.trans hN) fun K hK=>?_) a w hrs
  refine p1 (Pt.all (F:=lE kM R C++[d])) (by exact rfl) ?_ (hv:=hj4) (ht:=kb)
  refine v1 (k:=1) (F:=[dI .i64 0,dI .i64 0,dN,dN]) (ys:=lE kM R C++[d]) Pt.all (by exact rfl) (by exact rfl) rfl ?_ rfl hj1 rfl (ht:=kb)
  refine v1 (k:=2) (F:=[dI .i64 0]) (ys:=[dI .i64 0]) (Pt.one _) rfl rfl rfl ?_ rfl (am (by omega) Mk) rfl
  refine .nil (hK _ _ (AV.ret fun a w hr=>⟨.inr rfl,x',Db,_,_,_,_,hbh,hr,_,resV kb rfl (am (by omega) ah) (by show 1<N;omega) rfl rfl (LG rfl NJ rfl ah (by show 2<N;omega) rfl rfl),?_⟩))
  rw[oP]
  refine AR.tu ⟨AR.ag ⟨AR.dn rfl,AR.dn rfl,?_,?_,trivial⟩,AR.dn rfl,trivial⟩
  ·show AR _ (g7 kM (R*C)) (.e (slE aO V'))
   unfold g7
   by_cases h0:R*C=0
   ·rw[an h0]
    have:V'=[]:=jR (by omega)
    subst this
    exact AR.dn rfl
   ·rw[az h0]
    have hRp:0<R:=yJ fun e=>h0 (by rw[e,jJ])
    have hCp:0<C:=yJ fun e=>h0 (by rw[e,al_7])
    exact AR.list (am (by omega) (am (by omega) (hM' hRp hCp))) hlen
  ·rcases hpo with⟨rfl,rfl⟩|⟨tk,_,rfl,_⟩
   ·exact AR.le (Hm (ltb rfl)) rfl
   ·exact AR.own
 ·rintro x' Db ⟨v1',lv,N⟩ a w hbh hrs ⟨oP,hN6,hj1,Mk⟩
  dsimp only at hN6 hj1 Mk
  show QS x (fun _ tm bk=>∃d,xp tbl [.cell 2 97,.cell 3 26] tm bk d∧AR bk d (.tu (redE R C (lh R C C 0 0 V [])))) .ret a w
  refine⟨.inr rfl,x',Db,_,_,_,_,hbh,hrs,_,resV kb rfl hj1 (by show 1<N;omega) rfl rfl (LG rfl NJ rfl Mk (by show 2<N;omega) rfl rfl),?_⟩
  rw[oP]
  exact AR.tu ⟨AR.ag ⟨AR.dn rfl,AR.dn rfl,AR.le (Hm (ltb rfl)) rfl,AR.le (Hm (ltb rfl)) rfl,trivial⟩,AR.dn rfl,trivial⟩
end
end
section
theorem Wk.tms {x:Cx}{tm tm':List (Nat×D)}{hp:Hp}(hs:∀p∈tm',tm.lookup p.1=some p.2):Wk x tm hp tm' hp:=by
 rintro a w ⟨g,hh,fh,h1⟩
 exact⟨g,hh,fun t d h=>fh t d (hs _ (LU h)),h1⟩
def Dw(V:List Nu)(N:Nat)(vs:List (Nat×List D)):List (Nat×List D):=if V.length=0 then vs else (N,dC ((cW aO).f V))::vs
section
variable {md:Md} {ops:Array Oper} {K:List (Nat×D)→Hp→Prop} {os:List Oper} {tm:List (Nat×D)} {hp hp':Hp} {t s:Tmp} {ty:TypeId} {pos:String} {af:Array Edge} {vs:List (Nat×List D)} {lv:List (Nat×Nat×Nat×TypeId)} {N n R C:Nat} {V:List Nu}
theorem qn {j:Nat}(h:j≠N):(Dw V N vs).lookup j=vs.lookup j:=by
 unfold Dw
 split
 ·rfl
 ·exact al h
theorem OK(hok:fc ⟨vs,lv,N⟩):fc ⟨Dw V N vs,lv,N+1⟩:=by
 unfold Dw
 split
 ·exact hok.up (eQ N)
 ·exact (hok.up (eQ N)).consM (dH N) (oO _)
theorem OL(wU:∀k ds,vs.lookup k=some ds→ds.all D.noO=true):∀k ds,(Dw V N vs).lookup k=some ds→ds.all D.noO=true:=by
 intro k ds h
 unfold Dw at h
 split at h
 ·exact wU k ds h
 ·rcases dT h with⟨rfl,rfl⟩|⟨_,h⟩
  ·rw[bx]
   intro d hd
   obtain⟨e,_,rfl⟩:=nz.1 hd
   rfl
  ·exact wU k ds h
theorem RE {x:Operand}{ts:Array TypeId}(hl:V.length≤1000000)(hn:V.length=n)(h2:aQ prog tbl md ops K os ((t,g7 N n)::tm) ⟨Dw V N vs,lv,N+1⟩)(hx:evD tm x=.e (slE aO V):=by exact rfl)(oo:md.nc tbl (.call ⟨.value (.func 97),[x].toArray,ts⟩)=true:=by exact rfl):
  aQ prog tbl md ops K (⟨some t,.call ⟨.value (.func 97),[x].toArray,ts⟩,ty,pos,af,none⟩::os) tm ⟨vs,lv,N⟩:=by
 subst hn
 refine Js rfl (sHC (Tl (vs:=vs) (lv:=lv) (N:=N) hl) (by show [evD tm x]=_;rw[hx]) (.inr ⟨eQ _,fun j hj=>?_⟩) rfl oo) h2
 exact qn (V:=V) (Nat.ne_of_lt hj)
end
section
variable {R C:Nat} {V:List Nu}
theorem Rf(hV:V.length=R*C)(Ot:R*C≤1000000)(hR:R≤1000000)(hC:C≤1000000):ar prog 63 [.ag [dI .i64 R,dI .i64 C,.e (slE aO V)]] (.tu (redE R C (lh R C C 0 0 V []))):=by
 refine ar.ofMA tok func63 rfl rfl (cD rfl) rfl (fun x hN h0 pg hB=>?_)
 simp only[dv,Nat.reduceAdd,cj]
 obtain⟨V0,HN⟩:∃V0:List (Nat×List D),V0=[(2,[dI .i64 0]),(1,[dI .i64 0,dI .i64 0,dN,dN]),(0,[dI .i64 R,dI .i64 C,.e (slE aO V)])]:=⟨_,rfl⟩
 refine vrs hN fun K hK=>?_
 refine s1 (d:=.pt 0 0) (hp':=⟨[(0,[dI .i64 R,dI .i64 C,.e (slE aO V)])],[],1⟩) jb ?_
 refine a1 kb (hz:=rfl) ?_
 refine a1 NJ (hz:=rfl) ?_
 refine nl hK ?_
 have hok0:fc ⟨V0,[],3⟩:=by
  rw[HN]
  exact (((fc.nil.up (M:=3) (il _)).consM (by decide) rfl).consM (by decide) rfl).consM (by decide) rfl
 have hno0:∀k ds,V0.lookup k=some ds→ds.all D.noO=true:=by
  intro k ds h
  rw[HN] at h
  rcases dT h with⟨_,rfl⟩|⟨_,h⟩
  ·rfl
  ·rcases dT h with⟨_,rfl⟩|⟨_,h⟩
   ·rfl
   ·rcases dT h with⟨_,rfl⟩|⟨_,h⟩
    ·rfl
    ·cases h
 have l1:V0.lookup 1=some [dI .i64 0,dI .i64 0,dN,dN]:=by rw[HN];rfl
 have l2:V0.lookup 2=some [dI .i64 0]:=by rw[HN];rfl
 have l0:V0.lookup 0=some [dI .i64 R,dI .i64 C,.e (slE aO V)]:=by rw[HN];rfl
 have hVl:V.length≤1000000:=by omega
 have JT:∀{kM M:Nat},kM<M→(lE kM R C++[dN]).all (D.idsC M)=true:=fun {kM M} h=>by
  unfold lE g7;split <;> simp[D.idsC,dI] <;> omega
 have Oa:∀{kM:Nat},(lE kM R C++[dN]).all D.noO=true:=fun {kM}=>by
  unfold lE g7;split <;> rfl
 have hMl:∀N,0<R→0<C→(Dw V N V0).lookup N=some (dC ((cW aO).f V)):=fun N h1 h2=>by
  have:0<R*C:=sW h1 h2
  unfold Dw
  rw[ifn_]
  exact ah
 have hcM:∀k,(g7 k (R*C)).cells=some [g7 k (R*C)]:=fun k=>by unfold g7;split <;> rfl
 have hpt:∀k,g6 [(0,dI .i64 R),(1,dI .i64 C),(2,g7 k (R*C))]=some [(0,[dI .i64 R]),(1,[dI .i64 C]),(2,[g7 k (R*C)])]:=fun k=>by
  simp only[g6,hcM]
  rfl
 show AV prog none x _ [(3,.pt 2 0),(2,.pt 1 0),(1,.pt 0 0),(0,.ag [dI .i64 R,dI .i64 C,.e (slE aO V)])] ⟨[(2,[dI .i64 0]),(1,[dI .i64 0,dI .i64 0,dN,dN]),(0,[dI .i64 R,dI .i64 C,.e (slE aO V)])],[],3⟩ _
 rw[←HN]
 refine AV.seqA (dw (DW.split 6 9 (by decide) ?_ ?_))
 ·refine dwg [] [0,1,2,3,4,5,6,7,8,9,10] hN (by kernel_rfl) (by kernel_rfl) (by kernel_rfl) fun K hK=>?_
  dsimp only[db,nG,nD,List.map]
  refine sa ?_
  refine c1 Sb ?_ (hv:=l0)
  refine sa ?_
  refine c1 Sd ?_ (hv:=l0)
  refine sa ?_
  refine c1 Sc ?_ (hv:=l0)
  refine RE hVl hV ?_
  refine s1 (d:=.ag [dI .i64 R,dI .i64 C,g7 3 (R*C)]) (cp (qs:=[(0,[dI .i64 R]),(1,[dI .i64 C]),(2,[g7 3 (R*C)])]) ay (hp1:=hpt 3)) ?_
  refine s1 (d:=.ag [dI .i64 R,dI .i64 C,g7 3 (R*C),dN]) (cp kb) ?_
  refine a1 kb (hz:=rfl) ?_
  refine v1 (k:=4) (F:=[dI .i64 0,dI .i64 0,dN,dN]) (ys:=lE 3 R C++[dN]) Pt.all (by exact rfl) (by exact rfl) rfl ?_ rfl ah rfl (ht:=kb)
  refine nl hK ?_
  have h1:=(OK (V:=V) hok0).up (M:=5) (by decide)
  refine AV.weak (Wk.tms ?_) (AK (kM:=3) (k4:=4) (.inl rfl) (.inr rfl) (by decide) hN h0 pg hB ((h1.consM (k:=4) (ds:=[dI .i64 0,dI .i64 0,dN,dN]) (by decide) rfl).consM (k:=4) (by decide) (JT (by decide))) hV Ot hR hC (am (by decide) (am (by decide) ((qn (by decide)).trans l1))) (am (by decide) (am (by decide) ((qn (by decide)).trans l2))) ah (fun a b=>am (by decide) (am (by decide) (hMl 3 a b))) (fun k ds h=>?_))
  ·intro p hp
   simp only[e8,uR,A8] at hp
   rcases hp with rfl|rfl|rfl <;> rfl
  ·rcases dT h with⟨_,rfl⟩|⟨_,h⟩
   ·exact Oa
   ·rcases dT h with⟨_,rfl⟩|⟨_,h⟩
    ·rfl
    ·exact OL hno0 k ds h
 ·refine dwg [] [0,1,2,3,4,5,9,6,7,8,10] hN (by kernel_rfl) (by kernel_rfl) (by kernel_rfl) fun K hK=>?_
  dsimp only[db,nG,nD,List.map]
  refine sa ?_
  refine c1 Sb ?_ (hv:=l0)
  refine sa ?_
  refine c1 Sd ?_ (hv:=l0)
  refine sa ?_
  refine c1 Sc ?_ (hv:=l0)
  refine a1 kb (hz:=rfl) ?_
  refine RE hVl hV ?_
  refine s1 (d:=.ag [dI .i64 R,dI .i64 C,g7 4 (R*C)]) (cp (qs:=[(0,[dI .i64 R]),(1,[dI .i64 C]),(2,[g7 4 (R*C)])]) ay (hp1:=hpt 4)) ?_
  refine s1 (d:=.ag [dI .i64 R,dI .i64 C,g7 4 (R*C),dN]) (cp kb) ?_
  have l3:(Dw V 4 ((3,[dI .i64 0,dI .i64 0,dN,dN])::V0)).lookup 3=some [dI .i64 0,dI .i64 0,dN,dN]:=(qn (by decide)).trans ah
  refine v1 (k:=3) (F:=[dI .i64 0,dI .i64 0,dN,dN]) (ys:=lE 4 R C++[dN]) Pt.all (by exact rfl) (by exact rfl) rfl ?_ rfl l3 rfl (ht:=kb)
  refine nl hK ?_
  have h1:=OK (V:=V) ((hok0.up (M:=4) (by decide)).consM (k:=3) (ds:=[dI .i64 0,dI .i64 0,dN,dN]) (by decide) rfl)
  refine AV.weak (Wk.tms ?_) (AK (kM:=4) (k4:=3) (.inr rfl) (.inl rfl) (by decide) hN h0 pg hB (h1.consM (k:=3) (by decide) (JT (by decide))) hV Ot hR hC (am (by decide) ((qn (by decide)).trans (am (by decide) l1))) (am (by decide) ((qn (by decide)).trans (am (by decide) l2))) ah (fun a b=>am (by decide) ?_) (fun k ds h=>?_))
  ·intro p hp
   simp only[e8,uR,A8] at hp
   rcases hp with rfl|rfl|rfl <;> rfl
  ·have:0<R*C:=sW a b
   unfold Dw
   rw[ifn_]
   exact ah
  ·rcases dT h with⟨_,rfl⟩|⟨_,h⟩
   ·exact Oa
   ·refine OL (fun k ds h=>?_) k ds h
    rcases dT h with⟨_,rfl⟩|⟨_,h⟩
    ·rfl
    ·exact hno0 k ds h
end
end
section
def pvS(p:Pv):mQ:=⟨p.col,nv p.by',p.mov⟩
theorem slE_Pv(l:List Pv):slE xc l=slE bJ (l.map pvS):=by
 unfold slE
 rw[bc,Us]
 rfl
def AL(R C:Int)(o:Option (List Nu×List Pv)):cY×Int:=match o with
 |some (U,acc)=>(⟨⟨R,C,U.map nv⟩,acc.map pvS⟩,0)
 |none=>(⟨⟨0,0,[]⟩,[]⟩,30)
structure MatP(m:aq):Prop where
 r0:0≤m.vR
 c0:0≤m.vC
 r1:m.vR≤1000000
 c1:m.vC≤1000000
 rc:m.vR.toNat*m.vC.toNat≤1000000
 len:m.vV.length=m.vR.toNat*m.vC.toNat
 ok:okL m.vV
open Classical in
def eD(m:aq):Option (cY×Int):=
 if MatP m then some (AL m.vR m.vC (lh m.vR.toNat m.vC.toNat m.vC.toNat 0 0 (m.vV.map uG) [])) else none
theorem mL {dp:aq}{r:cY×Int}(h:eD dp=some r):ar prog 63 [dG aG dp] (.tu [dG qo r.1,dI .i64 r.2]):=by
 unfold eD at h
 split at h
 ·rename_i hp
  obtain rfl:=bZ h
  obtain⟨h1,h2,h3,h4,h5,h6,h7⟩:=hp
  have hV:(dp.vV.map uG).length=dp.vR.toNat*dp.vC.toNat:=by rw[bc];exact h6
  have hw:=Rf hV h5 (by omega) (by omega)
  have e1:(.ag [dI .i64 (dp.vR.toNat:Int),dI .i64 (dp.vC.toNat:Int),.e (slE aO (dp.vV.map uG))]:D)=dG aG dp:=by
   rw[Ly,JU h7,KW h1,KW h2]
   rfl
  rw[e1] at hw
  have e2:∀o:Option (List Nu×List Pv),redE dp.vR.toNat dp.vC.toNat o=[dG qo (AL dp.vR dp.vC o).1,dI .i64 (AL dp.vR dp.vC o).2]:=by
   intro o
   match o with
   |some (U,acc)=>
    show [D.ag [dI .i64 (dp.vR.toNat:Int),dI .i64 (dp.vC.toNat:Int),.e (slE aO U),.e (slE xc acc)],dI .i64 0]=_
    rw[Ly,slE_Pv,KW h1,KW h2]
    rfl
   |none=>rfl
  rw[e2] at hw
  exact hw
 ·cases h
open Classical in
def gk(l:List ak)(n:Int):Option (List ak):=match l with
 |[a]=>if okR a∧0≤n∧n≤1000000 then some (List.replicate n.toNat a) else none
 |_=>none
theorem vS {l r:List ak}{n:Int}(h:gk l n=some r):HC prog 77 [dL aj l,dI .i64 n] ⟨[],[],0⟩ (.ow 1 0 36 r.length) ⟨[(1,dC ((cW aj).f r))],[],1+1⟩:=by
 unfold gk at h
 split at h
 ·rename_i a
  split at h
  ·rename_i hp
   obtain rfl:=bZ h
   obtain⟨h1,h2,h3⟩:=hp
   have hw:=Tm (vs:=[]) (lv:=[]) (N:=0) (a:=uG a) (n:=n.toNat) (by omega)
   have e1:slE aO [uG a]=slE aj [a]:=by rw[Ly];show slE aj [nv (uG a)]=_;rw[Hb h1]
   have e2:(cW aO).f (List.replicate n.toNat (uG a))=(cW aj).f (List.replicate n.toNat a):=by
    show (List.replicate n.toNat (uG a)).flatMap aO.f=(List.replicate n.toNat a).flatMap aj.f
    rw[show aO.f=fun x=>aj.f (nv x) from rfl]
    rw[←Us,DG,Hb h1]
   rw[e1,e2,KW h2] at hw
   rw[ny]
   exact hw
  ·cases h
 ·cases h
end
def mO(bg:ak):Option Bool:=bnd (bq bg) fun x1=>some (!x1)
theorem Bk {bg:ak}{r:Bool}(h:mO bg=some r):ar prog 103 [dG aj bg] (dB r):=by
 refine bB (rs:=[.tmp 2]) (fun cx hx h0=>?_) func103
 unfold mO at h
 refine ra hx ?_
 refine rs hx fun K hK=>?_
 refine mbr ?_
 refine scb h ez fun x1 h=>?_
 refine nbr hK ?_
 exact AW.ret (rtv h)
def aT(oL:List ak):Int→Option (Int⊕(Int⊕Unit)):=fun aJ=>cnd (decide (aJ<((oL).length:Int))) (gd (0≤aJ∧aJ<((oL).length:Int)) (bnd (mO ((oL)[(aJ).toNat]!)) fun x4=>cnd x4 (some (.inr (.inl aJ))) (some (.inl (i64.wrap (aJ+(1:Int))))))) (some (.inr (.inr ())))
def bp(oL:List ak):Option Int:=bnd (aL (aT oL) (0:Int)) fun y7=>match y7 with| .inl r=>some r| .inr ()=>some (-1:Int)
theorem ik {oL:List ak}{r:Int}(h:bp oL=some r):ar prog 135 [dL aj oL,.e (.lit (.func (.func 103) #[] #[]))] (dI .i64 r):=by
 refine bB (rs:=[.tmp 4]) (fun cx hx h0=>?_) func135
 unfold bp at h
 refine ra hx ?_
 refine AW.seq (ra hx ?_)
 refine AW.block ?_
 obtain⟨y,hy,h⟩:=ai h
 refine lp (S:=Int) (X:=Int⊕Unit) (fun aJ=>[(0,dL aj oL),(1,.e (.lit (.func (.func 103) #[] #[]))),(7,dI .i64 ((oL).length:Int)),(8,dI .i64 aJ)]) (fun aJ=>⟨[],[],0⟩) (PS (PR [.tmp 4] fun r=>dI .i64 r) (PE cx (.exit 0) (fun ()=>[]) fun ()=>⟨[],[],0⟩)) hy ?_ ?_ ?_
 exact wk0 h0 []
 clear hy h
 rintro aJ y h
 dsimp only[aT] at h
 refine ra hx ?_
 refine AW.seq (cdh h rfl (fun fy h=>?_) (fun fy h=>?_))
 refine AW.skip (AW.seq (AW.block (ra hx ?_)))
 refine rs hx fun K hK=>?_
 iterate 3 refine sa ?_
 obtain⟨ui,h⟩:=ax h
 have yq:(aJ).toNat<(oL).length:=by omega
 refine sbr ?_
 refine s1 (d:=dG aj ((oL)[(aJ).toNat]!)) (rK (c:=aj) (l:=oL) (n:=(aJ).toNat) (o:=0) aR yq (nH _ _ rfl)) ?_
 refine scb h Bk fun x4 h=>?_
 refine nl hK ?_
 refine cdh h rfl (fun pJ h=>?_) (fun pJ h=>?_)
 refine ra hx ?_
 refine AW.ret ?_
 cases h
 refine PS.r ⟨by nofun,PS.l (PR.i ?_)⟩
 exact rv1
 refine AW.skip (rb hx ?_)
 exact pel h h0 []
 exact AW.exit (peq h h0 [])
 rcases y with r|⟨⟩
 rintro ex tm' hp' ⟨rfl,hw⟩
 cases h
 exact hw
 refine lwr ?_
 refine ra hx ?_
 exact AW.ret (rtv h)
def bi(oL:List ak):Option Bool:=bnd (bp oL) fun x1=>some (decide ((0:Int)≤x1))
theorem gT {oL:List ak}{r:Bool}(h:bi oL=some r):ar prog 102 [dL aj oL,.e (.lit (.func (.func 103) #[] #[]))] (dB r):=by
 refine bB (rs:=[.tmp 4]) (fun cx hx h0=>?_) func102
 unfold bi at h
 refine ra hx ?_
 refine rs hx fun K hK=>?_
 refine mbr ?_
 refine scb h ik fun x1 h=>?_
 refine nbr hK ?_
 exact AW.ret (rtv h)
def cX(dt:List ak):Option Bool:=bnd (bi dt) fun x1=>some (!x1)
theorem gJ {dt:List ak}{r:Bool}(h:cX dt=some r):ar prog 58 [dL aj dt] (dB r):=by
 refine bB (rs:=[.tmp 2]) (fun cx hx h0=>?_) func58
 unfold cX at h
 refine ra hx ?_
 refine rs hx fun K hK=>?_
 refine sa ?_
 refine scb h gT fun x1 h=>?_
 refine nbr hK ?_
 exact AW.ret (rtv h)
def cP(dp:aq):Option Int:=bnd (S:=Bool) (cnd (decide (dp.vR<(0:Int))) (some (true)) (cnd (decide ((200:Int)<dp.vR)) (some (true)) (cnd (decide (dp.vC<(0:Int))) (some (true)) (some (decide ((200:Int)<dp.vC)))))) fun i4=>cnd i4 (some (2:Int)) (bnd (S:=Bool) (cnd (decide (((dp.vV).length:Int)≠(i64.wrap (dp.vR*dp.vC)))) (some (true)) (bnd (cX dp.vV) fun x7=>some (!x7))) fun kA=>cnd kA (some (1:Int)) (some (0:Int)))
theorem qu {dp:aq}{r:Int}(h:cP dp=some r):ar prog 11 [dG aG dp] (dI .i64 r):=by
 refine bB (rs:=[.tmp 2]) (fun cx hx h0=>?_) func11
 unfold cP at h
 refine rs hx fun K hK=>?_
 refine s1 (d:=.pt 0 0) jb ?_
 refine nbr hK ?_
 refine AW.seq (AW.block (AW.seq ?_))
 obtain⟨i4,hy,h⟩:=ai h
 refine jn ((PE cx .normal (fun i4=>[(1,.pt 0 0),(3,dB i4)]) fun i4=>⟨[(0,[dI .i64 dp.vR,dI .i64 dp.vC,dL aj dp.vV])],[],1⟩) i4) ?_ ?_
 replace h:=hy
 refine rq hx fun K hK=>?_
 refine mbr ?_
 rcases bX h with⟨fy,h⟩|⟨fy,h⟩
 refine nbr hK ?_
 exact pe1 h h0 [0]
 refine mbr ?_
 rcases bX h with⟨rf,h⟩|⟨rf,h⟩
 refine nbr hK ?_
 exact pe1 h h0 [0]
 refine mbr ?_
 rcases bX h with⟨fT,h⟩|⟨fT,h⟩
 refine nbr hK ?_
 exact pe1 h h0 [0]
 refine nbr hK ?_
 exact pe1 h h0 [0]
 refine lw0 ?_
 refine cdh h rfl (fun v4 h=>?_) (fun v4 h=>?_)
 refine ra hx ?_
 exact AW.ret (rtv h)
 refine AW.seq ?_
 obtain⟨kA,hy,h⟩:=ai h
 refine jn ((PE cx .normal (fun kA=>[(22,dB kA)]) fun kA=>⟨[],[],0⟩) kA) ?_ ?_
 replace h:=hy
 refine rq hx fun K hK=>?_
 refine mbr ?_
 rcases bX h with⟨pJ,h⟩|⟨pJ,h⟩
 refine nbr hK ?_
 exact pe1 h h0 []
 refine ga pJ ?_
 refine gbr ?_
 refine gcb h gJ fun x7 h=>?_
 refine nbr hK ?_
 exact pe1 h h0 []
 refine lw0 ?_
 refine cdh h rfl (fun ke h=>?_) (fun ke h=>?_)
 refine ra hx ?_
 exact AW.ret (rtv h)
 refine AW.skip (ra hx ?_)
 exact AW.ret (rtv h)
def jA(dp:aq):Option Bool:=bnd (cP dp) fun x1=>some (decide (x1≠(0:Int)))
theorem za {dp:aq}{r:Bool}(h:jA dp=some r):ar prog 107 [dG aG dp] (dB r):=by
 refine bB (rs:=[.tmp 2]) (fun cx hx h0=>?_) func107
 unfold jA at h
 refine rs hx fun K hK=>?_
 refine s1 (d:=.pt 0 0) jb ?_
 refine nbr hK ?_
 refine rs hx fun K hK=>?_
 refine s1 (d:=dG aG dp) (cF ay) ?_
 refine scb h qu fun x1 h=>?_
 refine nbr hK ?_
 exact AW.ret (rtv h)
def aI(oL:List aq):Int→Option (Int⊕(Int⊕Unit)):=fun aJ=>cnd (decide (aJ<((oL).length:Int))) (gd (0≤aJ∧aJ<((oL).length:Int)) (bnd (jA ((oL)[(aJ).toNat]!)) fun x4=>cnd x4 (some (.inr (.inl aJ))) (some (.inl (i64.wrap (aJ+(1:Int))))))) (some (.inr (.inr ())))
def aU(oL:List aq):Option Int:=bnd (aL (aI oL) (0:Int)) fun y7=>match y7 with| .inl r=>some r| .inr ()=>some (-1:Int)
theorem ii {oL:List aq}{r:Int}(h:aU oL=some r):ar prog 136 [dL aG oL,.e (.lit (.func (.func 107) #[] #[]))] (dI .i64 r):=by
 refine bB (rs:=[.tmp 4]) (fun cx hx h0=>?_) func136
 unfold aU at h
 refine ra hx ?_
 refine AW.seq (ra hx ?_)
 refine AW.block ?_
 obtain⟨y,hy,h⟩:=ai h
 refine lp (S:=Int) (X:=Int⊕Unit) (fun aJ=>[(0,dL aG oL),(1,.e (.lit (.func (.func 107) #[] #[]))),(7,dI .i64 ((oL).length:Int)),(8,dI .i64 aJ)]) (fun aJ=>⟨[],[],0⟩) (PS (PR [.tmp 4] fun r=>dI .i64 r) (PE cx (.exit 0) (fun ()=>[]) fun ()=>⟨[],[],0⟩)) hy ?_ ?_ ?_
 exact wk0 h0 []
 clear hy h
 rintro aJ y h
 dsimp only[aI] at h
 refine ra hx ?_
 refine AW.seq (cdh h rfl (fun fy h=>?_) (fun fy h=>?_))
 refine AW.skip (AW.seq (AW.block (ra hx ?_)))
 refine rs hx fun K hK=>?_
 iterate 3 refine sa ?_
 obtain⟨ui,h⟩:=ax h
 have yq:(aJ).toNat<(oL).length:=by omega
 refine sbr ?_
 refine s1 (d:=dG aG ((oL)[(aJ).toNat]!)) (rK (c:=aG) (l:=oL) (n:=(aJ).toNat) (o:=0) ay yq (nH _ _ rfl)) ?_
 refine scb h za fun x4 h=>?_
 refine nl hK ?_
 refine cdh h rfl (fun pJ h=>?_) (fun pJ h=>?_)
 refine ra hx ?_
 refine AW.ret ?_
 cases h
 refine PS.r ⟨by nofun,PS.l (PR.i ?_)⟩
 exact rv1
 refine AW.skip (rb hx ?_)
 exact pel h h0 []
 exact AW.exit (peq h h0 [])
 rcases y with r|⟨⟩
 rintro ex tm' hp' ⟨rfl,hw⟩
 cases h
 exact hw
 refine lwr ?_
 refine ra hx ?_
 exact AW.ret (rtv h)
def aS(oL:List aq):Option Bool:=bnd (aU oL) fun x1=>some (decide ((0:Int)≤x1))
theorem gz {oL:List aq}{r:Bool}(h:aS oL=some r):ar prog 106 [dL aG oL,.e (.lit (.func (.func 107) #[] #[]))] (dB r):=by
 refine bB (rs:=[.tmp 4]) (fun cx hx h0=>?_) func106
 unfold aS at h
 refine ra hx ?_
 refine rs hx fun K hK=>?_
 refine mbr ?_
 refine scb h ii fun x1 h=>?_
 refine nbr hK ?_
 exact AW.ret (rtv h)
def bN(dt:List aq):Option Bool:=bnd (aS dt) fun x1=>some (!x1)
theorem eR {dt:List aq}{r:Bool}(h:bN dt=some r):ar prog 62 [dL aG dt] (dB r):=by
 refine bB (rs:=[.tmp 2]) (fun cx hx h0=>?_) func62
 unfold bN at h
 refine ra hx ?_
 refine rs hx fun K hK=>?_
 refine sa ?_
 refine scb h gz fun x1 h=>?_
 refine nbr hK ?_
 exact AW.ret (rtv h)
def mH(bT:Int)(bw:Int)(jc:List ak):Option (aq×Int):=bnd (fC jc) fun x1=>bnd (cP (⟨bT,bw,x1⟩:aq)) fun x3=>cnd (decide (x3≠(0:Int))) (some ((⟨(0:Int),(0:Int),([]:List ak)⟩:aq),x3)) (some ((⟨bT,bw,x1⟩:aq),(0:Int)))
theorem EK {bT:Int}{bw:Int}{jc:List ak}{r:aq×Int}(h:mH bT bw jc=some r):ar prog 50 [dI .i64 bT,dI .i64 bw,dL aj jc] (.tu [dG aG r.1,dI .i64 r.2]):=by
 refine bB (rs:=[.cell 6 24,.tmp 7]) (fun cx hx h0=>?_) func50
 unfold mH at h
 refine rs hx fun K hK=>?_
 refine s1 (d:=.pt 0 0) (cc ay) ?_
 refine nbr hK ?_
 refine rs hx fun K hK=>?_
 iterate 3 refine sa ?_
 obtain⟨x1,vY,h⟩:=ai h
 refine s1 (yV rfl (oH vY) rfl (lA (ao _) lAn)) ?_
 refine s2 (d2:=dG aG (⟨bT,bw,x1⟩:aq)) (cp (es:=[dI .i64 bT,dI .i64 bw,dO 1 aj x1]) ay) (i7 (wc (ge _) (wc (ge _) (wc (Ho _) wcn)))) ?_
 refine s1 (d:=.pt 2 0) (cc ay) ?_
 refine s0 (eL (ds':=[dI .i64 bT,dI .i64 bw,dL aj x1]) ay) ?_
 refine nl hK ?_
 refine AW.seq (rs hx fun K hK=>?_)
 refine s1 (d:=dG aG (⟨bT,bw,x1⟩:aq)) (cF ay) ?_
 refine scb h qu fun x3 h=>?_
 refine nbr hK ?_
 refine ra hx ?_
 refine cdh h rfl (fun v4 h=>?_) (fun v4 h=>?_)
 refine rs hx fun K hK=>?_
 refine s1 (d:=.ag [dI .i64 (0:Int),dI .i64 (0:Int),dN]) (cp ay) ?_
 refine sa ?_
 refine s0 (eL (ds':=[dI .i64 (0:Int),dI .i64 (0:Int),dN]) ay) ?_
 refine nbr hK ?_
 refine AW.ret ?_
 cases h
 exact eu.mk2 (dQ (es:=[dI .i64 (0:Int),dI .i64 (0:Int),dN]) rfl ay rfl rfl (ltb rfl) (leb rfl) rfl (bI rfl (.inr ⟨_,_,(i7 (wc (ge _) (wc (ge _) (wc (vT rfl) wcn)))),(ao _),⟨rfl,rfl⟩,rfl⟩)))
 refine AW.skip (rs hx fun K hK=>?_)
 refine s1 (d:=dG aG (⟨bT,bw,x1⟩:aq)) (cF ay) ?_
 refine s0 (eL (ds':=[dI .i64 bT,dI .i64 bw,dL aj x1]) ay) ?_
 refine nbr hK ?_
 refine AW.ret ?_
 cases h
 exact eu.mk2 (dQ (es:=(aG.f (⟨bT,bw,x1⟩:aq)).map .e) rfl ay rfl rfl (ltb rfl) (leb rfl) rfl (bI rfl (.inr ⟨_,_,(ao _),(ao _),⟨rfl,rfl⟩,rfl⟩)))
def gp(qi:Int)(jX:Int):Option ak:=cnd (decide (qi=jX)) (bnd (d7 (1:Int)) fun x2=>some x2) (bnd (d7 (0:Int)) fun x4=>some x4)
theorem pQ {qi:Int}{jX:Int}{r:ak}(h:gp qi jX=some r):ar prog 95 [dI .i64 qi,dI .i64 jX] (dG aj r):=by
 refine bB (rs:=[.cell 4 34]) (fun cx hx h0=>?_) func95
 unfold gp at h
 refine rar hx ?_
 refine AW.seq (ra hx ?_)
 refine cdh h rfl (fun fy h=>?_) (fun fy h=>?_)
 refine rs hx fun K hK=>?_
 refine scb h jU fun x2 h=>?_
 refine nbr hK ?_
 exact AW.ret (rtv h)
 refine AW.skip (rs hx fun K hK=>?_)
 refine scb h jU fun x4 h=>?_
 refine nbr hK ?_
 exact AW.ret (rtv h)
def cE(bw:Int)(aE:Int):Int×(List ak)→Option ((Int×(List ak))⊕((List ak))):=fun (bS,aV)=>cnd (decide (bS<bw)) (bnd (gp aE bS) fun x3=>gd ((aV++[x3]).length*136≤140737488355328) (some (.inl (i64.wrap (bS+(1:Int)),aV++[x3])))) (some (.inr aV))
def cM(bT:Int)(bw:Int):Int×(List ak)→Option ((Int×(List ak))⊕((List ak))):=fun (aE,aM)=>cnd (decide (aE<bT)) (bnd (aL (cE bw aE) ((0:Int),aM)) fun bz=>some (.inl (i64.wrap (aE+(1:Int)),bz))) (some (.inr aM))
def cf(bT:Int)(bw:Int):Option (aq×Int):=bnd (aL (cM bT bw) ((0:Int),([]:List ak))) fun aA=>bnd (cX aA) fun x8=>cnd (!x8) (some ((⟨(0:Int),(0:Int),([]:List ak)⟩:aq),(30:Int))) (some ((⟨bT,bw,aA⟩:aq),(0:Int)))
theorem ox {bT:Int}{bw:Int}{r:aq×Int}(h:cf bT bw=some r):ar prog 73 [dI .i64 bT,dI .i64 bw,.e (.lit (.func (.func 95) #[] #[]))] (.tu [dG aG r.1,dI .i64 r.2]):=by
 refine bB (rs:=[.cell 6 24,.tmp 7]) (fun cx hx h0=>?_) func73
 unfold cf at h
 refine rs hx fun K hK=>?_
 refine s1 (d:=.pt 0 0) (cc ay) ?_
 refine nbr hK ?_
 refine rs hx fun K hK=>?_
 iterate 2 refine sa ?_
 refine s1 (d:=.ag [dI .i64 bT,dI .i64 bw,dN]) (cp ay) ?_
 refine s1 (d:=.pt 1 0) (cc ay) ?_
 refine s0 (eL (ds':=[dI .i64 bT,dI .i64 bw,dN]) ay) ?_
 refine nl hK ?_
 refine AW.seq (ra hx ?_)
 refine AW.block ?_
 obtain⟨aA,hy,h⟩:=ai h
 refine lp (S:=Int×(List ak)) (X:=(List ak)) (fun (aE,aM)=>[(1,dI .i64 bw),(2,.e (.lit (.func (.func 95) #[] #[]))),(6,.pt 0 0),(8,.pt 1 0),(14,dI .i64 bT),(15,dI .i64 aE)]) (fun (aE,aM)=>⟨[(0,[dI .i64 (0:Int),dI .i64 (0:Int),dN]),(1,[dI .i64 bT,dI .i64 bw,dO 2 aj aM])],[(2,(aM).length,36,34)],3⟩) (PE cx (.exit 0) (fun aA=>[(6,.pt 0 0),(8,.pt 1 0)]) fun aA=>⟨[(0,[dI .i64 (0:Int),dI .i64 (0:Int),dN]),(1,[dI .i64 bT,dI .i64 bw,dO 2 aj aA])],[(2,(aA).length,36,34)],3⟩) hy ?_ ?_ ?_
 exact Wk.trans (Wk.nilOwn (ds':=[dI .i64 bT,dI .i64 bw,dO 2 aj ([]:List ak)]) 1 2 34 36) (wk h0 [0,1,2] (wR rfl (wR rfl (wR rfl (wR rfl (wR rfl (wR rfl wTn)))))) (vR rfl (vR rfl wVn)) (wL rfl rfl wLn))
 clear hy h
 rintro⟨aE,aM⟩ y h
 dsimp only[cM] at h
 refine ra hx ?_
 refine AW.seq (cdh h rfl (fun fy h=>?_) (fun fy h=>?_))
 refine AW.skip (AW.seq (AW.block ?_))
 iterate 2 refine ra hx ?_
 refine AW.block ?_
 obtain⟨bz,hy,h⟩:=ai h
 refine lp (S:=Int×(List ak)) (X:=(List ak)) (fun (bS,aV)=>[(1,dI .i64 bw),(2,.e (.lit (.func (.func 95) #[] #[]))),(6,.pt 0 0),(8,.pt 1 0),(9,dI .i64 aE),(14,dI .i64 bT),(15,dI .i64 aE),(18,dI .i64 bw),(19,dI .i64 bS)]) (fun (bS,aV)=>⟨[(0,[dI .i64 (0:Int),dI .i64 (0:Int),dN]),(1,[dI .i64 bT,dI .i64 bw,dO 2 aj aV])],[(2,(aV).length,36,34)],3⟩) (PE cx (.exit 2) (fun bz=>[(1,dI .i64 bw),(2,.e (.lit (.func (.func 95) #[] #[]))),(6,.pt 0 0),(8,.pt 1 0),(14,dI .i64 bT),(15,dI .i64 aE)]) fun bz=>⟨[(0,[dI .i64 (0:Int),dI .i64 (0:Int),dN]),(1,[dI .i64 bT,dI .i64 bw,dO 2 aj bz])],[(2,(bz).length,36,34)],3⟩) hy ?_ ?_ ?_
 exact wk0 h0 [0,1,2]
 clear hy h
 rintro⟨bS,aV⟩ y h
 dsimp only[cE] at h
 refine ra hx ?_
 refine AW.seq (cdh h rfl (fun rf h=>?_) (fun rf h=>?_))
 refine AW.skip (AW.seq (AW.block (ra hx ?_)))
 obtain⟨x3,Bs,h⟩:=ai h
 obtain⟨FQ,h⟩:=ax h
 refine jn (PE cx .normal (fun (_:Unit)=>[(1,dI .i64 bw),(2,.e (.lit (.func (.func 95) #[] #[]))),(6,.pt 0 0),(8,.pt 1 0),(9,dI .i64 aE),(14,dI .i64 bT),(15,dI .i64 aE),(18,dI .i64 bw),(19,dI .i64 bS)]) (fun (_:Unit)=>⟨[(0,[dI .i64 (0:Int),dI .i64 (0:Int),dN]),(1,[dI .i64 bT,dI .i64 bw,dO 2 aj (aV++[x3])])],[(2,(aV++[x3]).length,36,34)],3⟩) ()) ?_ ?_
 refine dw (DW.split 1 5 (by decide) ?_ ?_)
 refine dwg [] [0,1,2,3,4,5,6,7,8,9] hx (by kernel_rfl) (by kernel_rfl) (by kernel_rfl) fun K hK=>?_
 dsimp only[db,nG,nD,List.map]
 refine mbr ?_
 refine sc (pQ Bs) ?_
 refine s1 (ka ([x3]:List ak) aj aW aR) ?_
 refine s1 (d:=dO 2 aj (aV++[x3])) (ip aW aR FQ) ?_
 refine sa ?_
 refine s0 (eL (ds':=[dI .i64 bT,dI .i64 bw,dO 2 aj (aV++[x3])]) aW) ?_
 exact .nil (hK _ _ (pe0 h0 [0,1,2]))
 refine dwg [] [0,2,3,4,5,1,6,7,8,9] hx (by kernel_rfl) (by kernel_rfl) (by kernel_rfl) fun K hK=>?_
 dsimp only[db,nG,nD,List.map]
 refine mbr ?_
 refine sc (pQ Bs) ?_
 refine sbr ?_
 refine s1 (ka ([x3]:List ak) aj aW aR) ?_
 refine s1 (d:=dO 2 aj (aV++[x3])) (ip aW aR FQ) ?_
 refine sa ?_
 refine s0 (eL (ds':=[dI .i64 bT,dI .i64 bw,dO 2 aj (aV++[x3])]) aW) ?_
 exact .nil (hK _ _ (pe0 h0 [0,1,2]))
 refine lw0 ?_
 refine rb hx ?_
 exact pel h h0 [0,1,2]
 exact AW.exit (per h h0 [0,1,2])
 refine lw0 ?_
 refine rb hx ?_
 exact pel h h0 [0,1,2]
 exact AW.exit (per h h0 [0,1,2])
 refine lw0 ?_
 refine AW.seq (rs hx fun K hK=>?_)
 refine mbr ?_
 refine scb h gJ fun x8 h=>?_
 refine nbr hK ?_
 refine cdh h rfl (fun ke h=>?_) (fun ke h=>?_)
 refine rs hx fun K hK=>?_
 refine s1 (d:=.ag [dI .i64 (0:Int),dI .i64 (0:Int),dN]) (cp ay) ?_
 refine s0 (eL (ds':=[dI .i64 (0:Int),dI .i64 (0:Int),dN]) ay) ?_
 refine nbr hK ?_
 refine AW.ret ?_
 cases h
 exact eu.mk2 (dQ (es:=[dI .i64 (0:Int),dI .i64 (0:Int),dN]) rfl ay rfl rfl (ltb rfl) (leb rfl) rfl (bI rfl (.inr ⟨_,_,(i7 (wc (ge _) (wc (ge _) (wc (vT rfl) wcn)))),(ao _),⟨rfl,rfl⟩,rfl⟩)))
 refine AW.skip (rs hx fun K hK=>?_)
 refine s1 (d:=.ag [dI .i64 bT,dI .i64 bw,dO 2 aj aA]) (cF ay) ?_
 refine s0 (eL (ds':=[dI .i64 bT,dI .i64 bw,dO 2 aj aA]) ay) ?_
 refine nbr hK ?_
 refine AW.ret ?_
 cases h
 exact eu.mk2 (dQ (es:=[dI .i64 bT,dI .i64 bw,dO 2 aj aA]) rfl ay rfl rfl (ltb rfl) (leb rfl) rfl (bI rfl (.inr ⟨_,_,(i7 (wc (ge _) (wc (ge _) (wc (Ho _) wcn)))),(ao _),⟨rfl,rfl⟩,rfl⟩)))
def eY(ew:Int):Option aq:=bnd (S:=Bool) (cnd (decide (ew<(0:Int))) (some (true)) (some (decide ((200:Int)<ew)))) fun bG=>cnd bG (some (⟨(0:Int),(0:Int),([]:List ak)⟩:aq)) (bnd (cf ew ew) fun x4=>some x4.1)
theorem xF {ew:Int}{r:aq}(h:eY ew=some r):ar prog 43 [dI .i64 ew] (dG aG r):=by
 refine bB (rs:=[.cell 2 24]) (fun cx hx h0=>?_) func43
 unfold eY at h
 refine rs hx fun K hK=>?_
 refine s1 (d:=.pt 0 0) (cc ay) ?_
 refine nl hK ?_
 iterate 2 refine AW.seq ?_
 obtain⟨bG,hy,h⟩:=ai h
 refine jn ((PE cx .normal (fun bG=>[(0,dI .i64 ew),(2,.pt 0 0),(10,dB bG)]) fun bG=>⟨[(0,[dI .i64 (0:Int),dI .i64 (0:Int),dN])],[],1⟩) bG) ?_ ?_
 replace h:=hy
 refine rq hx fun K hK=>?_
 refine mbr ?_
 rcases bX h with⟨fy,h⟩|⟨fy,h⟩
 refine nbr hK ?_
 exact pe1 h h0 [0]
 refine nbr hK ?_
 exact pe1 h h0 [0]
 refine lw0 ?_
 refine cdh h rfl (fun fT h=>?_) (fun fT h=>?_)
 refine rs hx fun K hK=>?_
 refine s1 (d:=.ag [dI .i64 (0:Int),dI .i64 (0:Int),dN]) (cp ay) ?_
 refine s0 (eL (ds':=[dI .i64 (0:Int),dI .i64 (0:Int),dN]) ay) ?_
 refine nl hK ?_
 refine AW.ret ?_
 cases h
 exact eu.mk1 (dQ (es:=[dI .i64 (0:Int),dI .i64 (0:Int),dN]) rfl ay rfl rfl (ltb rfl) (leb rfl) rfl (.inr (.inr ⟨_,(i7 (wc (ge _) (wc (ge _) (wc (vT rfl) wcn)))),rfl,rfl⟩)))
 refine AW.skip (rs hx fun K hK=>?_)
 refine mbr ?_
 refine scb h ox fun x4 h=>?_
 iterate 3 refine sa ?_
 refine s1 (d:=.pt 1 0) (cc ay) ?_
 refine s0 (eL (ds':=[dI .i64 x4.1.vR,dI .i64 x4.1.vC,dL aj x4.1.vV]) ay) ?_
 refine nbr hK ?_
 refine rs hx fun K hK=>?_
 refine s1 (d:=dG aG x4.1) (cF ay) ?_
 refine s0 (eL (ds':=[dI .i64 x4.1.vR,dI .i64 x4.1.vC,dL aj x4.1.vV]) ay) ?_
 refine nl hK ?_
 refine AW.ret ?_
 cases h
 exact eu.mk1 (dQ (es:=(aG.f x4.1).map .e) rfl ay rfl rfl (ltb rfl) (leb rfl) rfl (.inr (.inr ⟨_,(ao _),rfl,rfl⟩)))
def b8(dp:aq)(qi:Int)(jX:Int):Option ak:=gd (0≤i64.wrap ((i64.wrap (qi*dp.vC))+jX)∧i64.wrap ((i64.wrap (qi*dp.vC))+jX)<((dp.vV).length:Int)) (bnd (some ((dp.vV)[(i64.wrap ((i64.wrap (qi*dp.vC))+jX)).toNat]!)) fun x3=>some x3)
theorem d9 {dp:aq}{qi:Int}{jX:Int}{r:ak}(h:b8 dp qi jX=some r):ar prog 75 [dG aG dp,dI .i64 qi,dI .i64 jX] (dG aj r):=by
 refine bB (rs:=[.cell 6 34]) (fun cx hx h0=>?_) func75
 unfold b8 at h
 refine rs hx fun K hK=>?_
 refine s1 (d:=.pt 0 0) jb ?_
 refine nbr hK ?_
 refine rs hx fun K hK=>?_
 iterate 8 refine sbr ?_
 obtain⟨HK,h⟩:=ax h
 have Mf:(i64.wrap ((i64.wrap (qi*dp.vC))+jX)).toNat<(dp.vV).length:=by omega
 refine sbr ?_
 refine s1 (d:=dG aj ((dp.vV)[(i64.wrap ((i64.wrap (qi*dp.vC))+jX)).toNat]!)) (rK (c:=aj) (l:=dp.vV) (n:=(i64.wrap ((i64.wrap (qi*dp.vC))+jX)).toNat) (o:=0) aR Mf (nH _ _ rfl)) ?_
 obtain⟨x3,Bs,h⟩:=ai h
 replace Bs:=bZ Bs
 refine s0 (j9 (b':=(dp.vV)[(i64.wrap ((i64.wrap (qi*dp.vC))+jX)).toNat]!) (a8.id _ _) aR Bs) ?_
 refine nl hK ?_
 exact AW.ret (rtv h)
def gf(jc:List ak):Option aq:=bnd (mH ((jc).length:Int) (1:Int) jc) fun x1=>some x1.1
theorem Bm {jc:List ak}{r:aq}(h:gf jc=some r):ar prog 32 [dL aj jc] (dG aG r):=by
 refine bB (rs:=[.cell 2 24]) (fun cx hx h0=>?_) func32
 unfold gf at h
 refine rs hx fun K hK=>?_
 refine s1 (d:=.pt 0 0) (cc ay) ?_
 refine nl hK ?_
 refine rs hx fun K hK=>?_
 refine mbr ?_
 refine scb h EK fun x1 h=>?_
 iterate 3 refine sa ?_
 refine s1 (d:=.pt 1 0) (cc ay) ?_
 refine s0 (eL (ds':=[dI .i64 x1.1.vR,dI .i64 x1.1.vC,dL aj x1.1.vV]) ay) ?_
 refine nbr hK ?_
 refine rs hx fun K hK=>?_
 refine s1 (d:=dG aG x1.1) (cF ay) ?_
 refine s0 (eL (ds':=[dI .i64 x1.1.vR,dI .i64 x1.1.vC,dL aj x1.1.vV]) ay) ?_
 refine nl hK ?_
 refine AW.ret ?_
 cases h
 exact eu.mk1 (dQ (es:=(aG.f x1.1).map .e) rfl ay rfl rfl (ltb rfl) (leb rfl) rfl (.inr (.inr ⟨_,(ao _),rfl,rfl⟩)))
def jI(qi:Int)(jX:Int)(bQ:aq)(dK:aq):Option ak:=bnd (b8 bQ qi jX) fun x1=>bnd (b8 dK qi jX) fun x3=>bnd (fO x1 x3) fun x5=>some x5
theorem sA {qi:Int}{jX:Int}{bQ:aq}{dK:aq}{r:ak}(h:jI qi jX bQ dK=some r):HC prog 87 [dI .i64 qi,dI .i64 jX,.pt 0 0,.pt 1 0] ⟨[(0,[dI .i64 bQ.vR,dI .i64 bQ.vC,dL aj bQ.vV]),(1,[dI .i64 dK.vR,dI .i64 dK.vC,dL aj dK.vV])],[],2⟩ (dG aj r) ⟨[(0,[dI .i64 bQ.vR,dI .i64 bQ.vC,dL aj bQ.vV]),(1,[dI .i64 dK.vR,dI .i64 dK.vC,dL aj dK.vV])],[],2⟩:=by
 refine HC.ofX (rs:=[.cell 6 34]) tok func87 rfl rfl (cD rfl) rfl (fun cx hx h1=>?_)
 have h0:cx.hp0.next=2:=by rw[h1]
 simp only[dv,Nat.reduceAdd,cj]
 unfold jI at h
 refine rar hx ?_
 refine rsd [75,85] hx fun K hK=>?_
 refine s1 (d:=dG aG bQ) (cF ay) ?_
 refine mbr ?_
 refine cqb h d9 fun x1 h=>?_
 refine s1 (d:=dG aG dK) (cF ay) ?_
 refine mbr ?_
 refine cqb h d9 fun x3 h=>?_
 refine cqb h uu fun x5 h=>?_
 refine nbr hK ?_
 refine AW.ret ?_
 cases h
 exact⟨_,qx rfl aR rfl rfl (ltb rfl) (aj.h _) (rfl),q8.of_wk (by rw[hx];exact cD rfl) (wkN h0 [] (wG rfl (ao _) wTn) (vR rfl (vR rfl wVn)) wLn)⟩
def je(bw:Int)(bQ:aq)(dK:aq)(aE:Int):Int×(List ak)→Option ((Int×(List ak))⊕((List ak))):=fun (bS,aV)=>cnd (decide (bS<bw)) (bnd (jI aE bS bQ dK) fun x3=>gd ((aV++[x3]).length*136≤140737488355328) (some (.inl (i64.wrap (bS+(1:Int)),aV++[x3])))) (some (.inr aV))
def jZ(bT:Int)(bw:Int)(bQ:aq)(dK:aq):Int×(List ak)→Option ((Int×(List ak))⊕((List ak))):=fun (aE,aM)=>cnd (decide (aE<bT)) (bnd (aL (je bw bQ dK aE) ((0:Int),aM)) fun bz=>some (.inl (i64.wrap (aE+(1:Int)),bz))) (some (.inr aM))
def kz(bT:Int)(bw:Int)(bQ:aq)(dK:aq):Option (aq×Int):=bnd (aL (jZ bT bw bQ dK) ((0:Int),([]:List ak))) fun aA=>bnd (cX aA) fun x8=>cnd (!x8) (some ((⟨(0:Int),(0:Int),([]:List ak)⟩:aq),(30:Int))) (some ((⟨bT,bw,aA⟩:aq),(0:Int)))
theorem Bj {bT:Int}{bw:Int}{bQ:aq}{dK:aq}{r:aq×Int}(h:kz bT bw bQ dK=some r):HC prog 73 [dI .i64 bT,dI .i64 bw,.fn 87 [0,1]] ⟨[(0,[dI .i64 bQ.vR,dI .i64 bQ.vC,dL aj bQ.vV]),(1,[dI .i64 dK.vR,dI .i64 dK.vC,dL aj dK.vV])],[],2⟩ (.tu [dG aG r.1,dI .i64 r.2]) ⟨[(0,[dI .i64 bQ.vR,dI .i64 bQ.vC,dL aj bQ.vV]),(1,[dI .i64 dK.vR,dI .i64 dK.vC,dL aj dK.vV])],[],2⟩:=by
 refine HC.ofX (rs:=[.cell 6 24,.tmp 7]) tok func73 rfl rfl (cD rfl) rfl (fun cx hx h1=>?_)
 have h0:cx.hp0.next=2:=by rw[h1]
 simp only[dv,Nat.reduceAdd,cj]
 unfold kz at h
 refine rs hx fun K hK=>?_
 refine s1 (d:=.pt 2 0) (cc ay) ?_
 refine nbr hK ?_
 refine rs hx fun K hK=>?_
 iterate 2 refine sa ?_
 refine s1 (d:=.ag [dI .i64 bT,dI .i64 bw,dN]) (cp ay) ?_
 refine s1 (d:=.pt 3 0) (cc ay) ?_
 refine s0 (eL (ds':=[dI .i64 bT,dI .i64 bw,dN]) ay) ?_
 refine nl hK ?_
 refine AW.seq (ra hx ?_)
 refine AW.block ?_
 obtain⟨aA,hy,h⟩:=ai h
 refine lp (S:=Int×(List ak)) (X:=(List ak)) (fun (aE,aM)=>[(1,dI .i64 bw),(2,.fn 87 [0,1]),(6,.pt 2 0),(8,.pt 3 0),(14,dI .i64 bT),(15,dI .i64 aE)]) (fun (aE,aM)=>⟨[(0,[dI .i64 bQ.vR,dI .i64 bQ.vC,dL aj bQ.vV]),(1,[dI .i64 dK.vR,dI .i64 dK.vC,dL aj dK.vV]),(2,[dI .i64 (0:Int),dI .i64 (0:Int),dN]),(3,[dI .i64 bT,dI .i64 bw,dO 4 aj aM])],[(4,(aM).length,36,34)],5⟩) (PE cx (.exit 0) (fun aA=>[(6,.pt 2 0),(8,.pt 3 0)]) fun aA=>⟨[(0,[dI .i64 bQ.vR,dI .i64 bQ.vC,dL aj bQ.vV]),(1,[dI .i64 dK.vR,dI .i64 dK.vC,dL aj dK.vV]),(2,[dI .i64 (0:Int),dI .i64 (0:Int),dN]),(3,[dI .i64 bT,dI .i64 bw,dO 4 aj aA])],[(4,(aA).length,36,34)],5⟩) hy ?_ ?_ ?_
 exact Wk.trans (Wk.nilOwn (ds':=[dI .i64 bT,dI .i64 bw,dO 4 aj ([]:List ak)]) 3 2 34 36) (wkN h0 [2,3,4] (wR rfl (wR rfl (wR rfl (wR rfl (wR rfl (wR rfl wTn)))))) (vR rfl (vR rfl (vR rfl (vR rfl wVn)))) (wL rfl rfl wLn))
 clear hy h
 rintro⟨aE,aM⟩ y h
 dsimp only[jZ] at h
 refine ra hx ?_
 refine AW.seq (cdh h rfl (fun fy h=>?_) (fun fy h=>?_))
 refine AW.skip (AW.seq (AW.block ?_))
 iterate 2 refine ra hx ?_
 refine AW.block ?_
 obtain⟨bz,hy,h⟩:=ai h
 refine lp (S:=Int×(List ak)) (X:=(List ak)) (fun (bS,aV)=>[(1,dI .i64 bw),(2,.fn 87 [0,1]),(6,.pt 2 0),(8,.pt 3 0),(9,dI .i64 aE),(14,dI .i64 bT),(15,dI .i64 aE),(18,dI .i64 bw),(19,dI .i64 bS)]) (fun (bS,aV)=>⟨[(0,[dI .i64 bQ.vR,dI .i64 bQ.vC,dL aj bQ.vV]),(1,[dI .i64 dK.vR,dI .i64 dK.vC,dL aj dK.vV]),(2,[dI .i64 (0:Int),dI .i64 (0:Int),dN]),(3,[dI .i64 bT,dI .i64 bw,dO 4 aj aV])],[(4,(aV).length,36,34)],5⟩) (PE cx (.exit 2) (fun bz=>[(1,dI .i64 bw),(2,.fn 87 [0,1]),(6,.pt 2 0),(8,.pt 3 0),(14,dI .i64 bT),(15,dI .i64 aE)]) fun bz=>⟨[(0,[dI .i64 bQ.vR,dI .i64 bQ.vC,dL aj bQ.vV]),(1,[dI .i64 dK.vR,dI .i64 dK.vC,dL aj dK.vV]),(2,[dI .i64 (0:Int),dI .i64 (0:Int),dN]),(3,[dI .i64 bT,dI .i64 bw,dO 4 aj bz])],[(4,(bz).length,36,34)],5⟩) hy ?_ ?_ ?_
 exact wkN h0 [2,3,4] (wR rfl (wR rfl (wR rfl (wR rfl (wR rfl (wR rfl (wR rfl (wR rfl (wR rfl wTn))))))))) (vR rfl (vR rfl (vR rfl (vR rfl wVn)))) (wL rfl rfl wLn)
 clear hy h
 rintro⟨bS,aV⟩ y h
 dsimp only[je] at h
 refine ra hx ?_
 refine AW.seq (cdh h rfl (fun rf h=>?_) (fun rf h=>?_))
 refine AW.skip (AW.seq (AW.block (ra hx ?_)))
 obtain⟨x3,Bs,h⟩:=ai h
 obtain⟨FQ,h⟩:=ax h
 refine jn (PE cx .normal (fun (_:Unit)=>[(1,dI .i64 bw),(2,.fn 87 [0,1]),(6,.pt 2 0),(8,.pt 3 0),(9,dI .i64 aE),(14,dI .i64 bT),(15,dI .i64 aE),(18,dI .i64 bw),(19,dI .i64 bS)]) (fun (_:Unit)=>⟨[(0,[dI .i64 bQ.vR,dI .i64 bQ.vC,dL aj bQ.vV]),(1,[dI .i64 dK.vR,dI .i64 dK.vC,dL aj dK.vV]),(2,[dI .i64 (0:Int),dI .i64 (0:Int),dN]),(3,[dI .i64 bT,dI .i64 bw,dO 4 aj (aV++[x3])])],[(4,(aV++[x3]).length,36,34)],5⟩) ()) ?_ ?_
 refine dw (DW.split 1 5 (by decide) ?_ ?_)
 refine dwg [] [0,1,2,3,4,5,6,7,8,9] hx (by kernel_rfl) (by kernel_rfl) (by kernel_rfl) fun K hK=>?_
 dsimp only[db,nG,nD,List.map]
 iterate 5 refine sbr ?_
 refine s1 (mK [0,1] rfl (sA Bs) (fA (ao _) (fA (ao _) (fA (ao _) (fA (ao _) fAn)))) (vR rfl (vR rfl wVn)) wLn (rvE (rvE rvN)) (qP _ _ _) (wg _ _)) ?_
 refine s1 (ka ([x3]:List ak) aj aW aR) ?_
 refine s1 (d:=dO 4 aj (aV++[x3])) (ip aW aR FQ) ?_
 refine sa ?_
 refine s0 (eL (ds':=[dI .i64 bT,dI .i64 bw,dO 4 aj (aV++[x3])]) aW) ?_
 exact .nil (hK _ _ (PE.i (wkN h0 [2,3,4] (wR rfl (wR rfl (wR rfl (wR rfl (wR rfl (wR rfl (wR rfl (wR rfl (wR rfl wTn))))))))) (vR rfl (vR rfl (vR rfl (vR rfl wVn)))) (wL rfl rfl wLn))))
 refine dwg [] [0,2,3,4,5,1,6,7,8,9] hx (by kernel_rfl) (by kernel_rfl) (by kernel_rfl) fun K hK=>?_
 dsimp only[db,nG,nD,List.map]
 iterate 4 refine sa ?_
 refine s1 (mK [0,1] rfl (sA Bs) (fA (ao _) (fA (ao _) (fA (ao _) (fA (ao _) fAn)))) (vR rfl (vR rfl wVn)) wLn (rvE (rvE rvN)) (qP _ _ _) (wg _ _)) ?_
 refine sbr ?_
 refine s1 (ka ([x3]:List ak) aj aW aR) ?_
 refine s1 (d:=dO 4 aj (aV++[x3])) (ip aW aR FQ) ?_
 refine sa ?_
 refine s0 (eL (ds':=[dI .i64 bT,dI .i64 bw,dO 4 aj (aV++[x3])]) aW) ?_
 exact .nil (hK _ _ (PE.i (wkN h0 [2,3,4] (wR rfl (wR rfl (wR rfl (wR rfl (wR rfl (wR rfl (wR rfl (wR rfl (wR rfl wTn))))))))) (vR rfl (vR rfl (vR rfl (vR rfl wVn)))) (wL rfl rfl wLn))))
 refine lw0 ?_
 refine rb hx ?_
 cases h
 exact PS.l (PE.i (wkN h0 [2,3,4] (wR rfl (wR rfl (wR rfl (wR rfl (wR rfl (wR rfl (wR rfl (wR rfl (wR rfl wTn))))))))) (vR rfl (vR rfl (vR rfl (vR rfl wVn)))) (wL rfl rfl wLn)))
 refine AW.exit ?_
 try dsimp only
 try simp only[fS,reduceIte,Nat.reduceEqDiff,reduceCtorEq]
 cases h
 exact PS.r ⟨by nofun,PE.i (wkN h0 [2,3,4] (wR rfl (wR rfl (wR rfl (wR rfl (wR rfl (wR rfl wTn)))))) (vR rfl (vR rfl (vR rfl (vR rfl wVn)))) (wL rfl rfl wLn))⟩
 refine lw0 ?_
 refine rb hx ?_
 cases h
 exact PS.l (PE.i (wkN h0 [2,3,4] (wR rfl (wR rfl (wR rfl (wR rfl (wR rfl (wR rfl wTn)))))) (vR rfl (vR rfl (vR rfl (vR rfl wVn)))) (wL rfl rfl wLn)))
 refine AW.exit ?_
 try dsimp only
 try simp only[fS,reduceIte,Nat.reduceEqDiff,reduceCtorEq]
 cases h
 exact PS.r ⟨by nofun,PE.i (wkN h0 [2,3,4] (wR rfl (wR rfl wTn)) (vR rfl (vR rfl (vR rfl (vR rfl wVn)))) (wL rfl rfl wLn))⟩
 refine lw0 ?_
 refine AW.seq (rs hx fun K hK=>?_)
 refine mbr ?_
 refine scb h gJ fun x8 h=>?_
 refine nbr hK ?_
 refine cdh h rfl (fun ke h=>?_) (fun ke h=>?_)
 refine rs hx fun K hK=>?_
 refine s1 (d:=.ag [dI .i64 (0:Int),dI .i64 (0:Int),dN]) (cp ay) ?_
 refine s0 (eL (ds':=[dI .i64 (0:Int),dI .i64 (0:Int),dN]) ay) ?_
 refine nbr hK ?_
 refine AW.ret ?_
 cases h
 exact⟨_,dQ (es:=[dI .i64 (0:Int),dI .i64 (0:Int),dN]) rfl ay rfl rfl (ltb rfl) (leb rfl) rfl (bI rfl (rfl)),q8.of_wk2 (by rw[hx];exact cD rfl) (wkN h0 [] (wG rfl (i7 (wc (ge _) (wc (ge _) (wc (vT rfl) wcn)))) (wR rfl wTn)) (vR rfl (vR rfl wVn)) wLn)⟩
 refine AW.skip (rs hx fun K hK=>?_)
 refine s1 (d:=.ag [dI .i64 bT,dI .i64 bw,dO 4 aj aA]) (cF ay) ?_
 refine s0 (eL (ds':=[dI .i64 bT,dI .i64 bw,dO 4 aj aA]) ay) ?_
 refine nbr hK ?_
 refine AW.ret ?_
 cases h
 exact⟨_,dQ (es:=[dI .i64 bT,dI .i64 bw,dO 4 aj aA]) rfl ay rfl rfl (ltb rfl) (leb rfl) rfl (bI rfl (rfl)),q8.of_wk2 (by rw[hx];exact cD rfl) (wkN h0 [] (wG rfl (i7 (wc (ge _) (wc (ge _) (wc (Ho _) wcn)))) (wR rfl wTn)) (vR rfl (vR rfl wVn)) wLn)⟩
def mb(aZ:aq)(aY:aq):Option (aq×Int):=bnd (S:=Bool) (bnd (bN [aZ,aY]) fun x1=>cnd (!x1) (some (true)) (cnd (decide (aZ.vR≠aY.vR)) (some (true)) (some (decide (aZ.vC≠aY.vC))))) fun bG=>cnd bG (some ((⟨(0:Int),(0:Int),([]:List ak)⟩:aq),(1:Int))) (bnd (kz aZ.vR aZ.vC aZ aY) fun x7=>some (x7.1,x7.2))
theorem GI {aZ:aq}{aY:aq}{r:aq×Int}(h:mb aZ aY=some r):ar prog 38 [dG aG aZ,dG aG aY] (.tu [dG aG r.1,dI .i64 r.2]):=by
 refine bB (rs:=[.cell 4 24,.tmp 5]) (fun cx hx h0=>?_) func38
 unfold mb at h
 refine rs hx fun K hK=>?_
 refine s1 (d:=.pt 0 0) jb ?_
 refine s1 (d:=.pt 1 0) jb ?_
 refine s1 (d:=.pt 2 0) (cc ay) ?_
 refine nbr hK ?_
 iterate 2 refine AW.seq ?_
 obtain⟨bG,hy,h⟩:=ai h
 refine jn ((PE cx .normal (fun bG=>[(2,.pt 0 0),(3,.pt 1 0),(4,.pt 2 0),(24,dB bG)]) fun bG=>⟨[(0,[dI .i64 aZ.vR,dI .i64 aZ.vC,dL aj aZ.vV]),(1,[dI .i64 aY.vR,dI .i64 aY.vC,dL aj aY.vV]),(2,[dI .i64 (0:Int),dI .i64 (0:Int),dN])],[],3⟩) bG) ?_ ?_
 replace h:=hy
 refine rq hx fun K hK=>?_
 refine s1 (d:=dG aG aZ) (cF ay) ?_
 refine s1 (d:=dG aG aY) (cF ay) ?_
 refine s1 (d:=dO 3 aG [aZ,aY]) (oi rP ay) ?_
 refine scb h eR fun x1 h=>?_
 refine mbr ?_
 rcases bX h with⟨fT,h⟩|⟨fT,h⟩
 refine nbr hK ?_
 exact pe1 h h0 [0,1,2]
 refine mbr ?_
 rcases bX h with⟨z5,h⟩|⟨z5,h⟩
 refine nbr hK ?_
 exact pe1 h h0 [0,1,2]
 refine nbr hK ?_
 exact pe1 h h0 [0,1,2]
 refine lw0 ?_
 refine cdh h rfl (fun pJ h=>?_) (fun pJ h=>?_)
 refine rs hx fun K hK=>?_
 refine s1 (d:=.ag [dI .i64 (0:Int),dI .i64 (0:Int),dN]) (cp ay) ?_
 refine s0 (eL (ds':=[dI .i64 (0:Int),dI .i64 (0:Int),dN]) ay) ?_
 refine nbr hK ?_
 refine AW.ret ?_
 cases h
 exact eu.mk2 (dQ (es:=[dI .i64 (0:Int),dI .i64 (0:Int),dN]) rfl ay rfl rfl (ltb rfl) (leb rfl) rfl (bI rfl (.inr ⟨_,_,(i7 (wc (ge _) (wc (ge _) (wc (vT rfl) wcn)))),(ao _),⟨rfl,rfl⟩,rfl⟩)))
 refine AW.skip (rs hx fun K hK=>?_)
 iterate 4 refine sbr ?_
 refine s1 wy ?_
 obtain⟨x7,L2,h⟩:=ai h
 refine s1 (BZ [0,1] rfl (Bj L2) (fA (ao _) (fA (ao _) (fA (ao _) fAn))) (vR rfl (vR rfl wVn)) wLn) ?_
 iterate 2 refine sa ?_
 refine s0 (eL (ds':=[dI .i64 x7.1.vR,dI .i64 x7.1.vC,dL aj x7.1.vV]) ay) ?_
 refine nbr hK ?_
 refine AW.ret ?_
 cases h
 exact eu.mk2 (dQ (es:=(aG.f x7.1).map .e) rfl ay rfl rfl (ltb rfl) (leb rfl) rfl (bI rfl (.inr ⟨_,_,(ao _),(ao _),⟨rfl,rfl⟩,rfl⟩)))
def ic(qi:Int)(jX:Int)(bQ:aq)(dK:ak):Option ak:=bnd (b8 bQ qi jX) fun x1=>bnd (ee x1 dK) fun x3=>some x3
theorem qr {qi:Int}{jX:Int}{bQ:aq}{dK:ak}{r:ak}(h:ic qi jX bQ dK=some r):HC prog 86 [dI .i64 qi,dI .i64 jX,.pt 0 0,.pt 1 0] ⟨[(0,[dI .i64 bQ.vR,dI .i64 bQ.vC,dL aj bQ.vV]),(1,dC (aj.f dK))],[],2⟩ (dG aj r) ⟨[(0,[dI .i64 bQ.vR,dI .i64 bQ.vC,dL aj bQ.vV]),(1,dC (aj.f dK))],[],2⟩:=by
 refine HC.ofX (rs:=[.cell 6 34]) tok func86 rfl rfl (cD rfl) rfl (fun cx hx h1=>?_)
 have h0:cx.hp0.next=2:=by rw[h1]
 simp only[dv,Nat.reduceAdd,cj]
 unfold ic at h
 refine rar hx ?_
 refine rsd [75,40] hx fun K hK=>?_
 refine s1 (d:=dG aG bQ) (cF ay) ?_
 refine mbr ?_
 refine cqb h d9 fun x1 h=>?_
 refine mbr ?_
 refine cqb h nb fun x3 h=>?_
 refine nbr hK ?_
 refine AW.ret ?_
 cases h
 exact⟨_,qx rfl aR rfl rfl (ltb rfl) (aj.h _) (rfl),q8.of_wk (by rw[hx];exact cD rfl) (wkN h0 [] (wG rfl (ao _) wTn) (vR rfl (vC rfl wVn)) wLn)⟩
def iS(bw:Int)(bQ:aq)(dK:ak)(aE:Int):Int×(List ak)→Option ((Int×(List ak))⊕((List ak))):=fun (bS,aV)=>cnd (decide (bS<bw)) (bnd (ic aE bS bQ dK) fun x3=>gd ((aV++[x3]).length*136≤140737488355328) (some (.inl (i64.wrap (bS+(1:Int)),aV++[x3])))) (some (.inr aV))
def ji(bT:Int)(bw:Int)(bQ:aq)(dK:ak):Int×(List ak)→Option ((Int×(List ak))⊕((List ak))):=fun (aE,aM)=>cnd (decide (aE<bT)) (bnd (aL (iS bw bQ dK aE) ((0:Int),aM)) fun bz=>some (.inl (i64.wrap (aE+(1:Int)),bz))) (some (.inr aM))
def jE(bT:Int)(bw:Int)(bQ:aq)(dK:ak):Option (aq×Int):=bnd (aL (ji bT bw bQ dK) ((0:Int),([]:List ak))) fun aA=>bnd (cX aA) fun x8=>cnd (!x8) (some ((⟨(0:Int),(0:Int),([]:List ak)⟩:aq),(30:Int))) (some ((⟨bT,bw,aA⟩:aq),(0:Int)))
theorem ze {bT:Int}{bw:Int}{bQ:aq}{dK:ak}{r:aq×Int}(h:jE bT bw bQ dK=some r):HC prog 73 [dI .i64 bT,dI .i64 bw,.fn 86 [0,1]] ⟨[(0,[dI .i64 bQ.vR,dI .i64 bQ.vC,dL aj bQ.vV]),(1,dC (aj.f dK))],[],2⟩ (.tu [dG aG r.1,dI .i64 r.2]) ⟨[(0,[dI .i64 bQ.vR,dI .i64 bQ.vC,dL aj bQ.vV]),(1,dC (aj.f dK))],[],2⟩:=by
 refine HC.ofX (rs:=[.cell 6 24,.tmp 7]) tok func73 rfl rfl (cD rfl) rfl (fun cx hx h1=>?_)
 have h0:cx.hp0.next=2:=by rw[h1]
 simp only[dv,Nat.reduceAdd,cj]
 unfold jE at h
 refine rs hx fun K hK=>?_
 refine s1 (d:=.pt 2 0) (cc ay) ?_
 refine nbr hK ?_
 refine rs hx fun K hK=>?_
 iterate 2 refine sa ?_
 refine s1 (d:=.ag [dI .i64 bT,dI .i64 bw,dN]) (cp ay) ?_
 refine s1 (d:=.pt 3 0) (cc ay) ?_
 refine s0 (eL (ds':=[dI .i64 bT,dI .i64 bw,dN]) ay) ?_
 refine nl hK ?_
 refine AW.seq (ra hx ?_)
 refine AW.block ?_
 obtain⟨aA,hy,h⟩:=ai h
 refine lp (S:=Int×(List ak)) (X:=(List ak)) (fun (aE,aM)=>[(1,dI .i64 bw),(2,.fn 86 [0,1]),(6,.pt 2 0),(8,.pt 3 0),(14,dI .i64 bT),(15,dI .i64 aE)]) (fun (aE,aM)=>⟨[(0,[dI .i64 bQ.vR,dI .i64 bQ.vC,dL aj bQ.vV]),(1,dC (aj.f dK)),(2,[dI .i64 (0:Int),dI .i64 (0:Int),dN]),(3,[dI .i64 bT,dI .i64 bw,dO 4 aj aM])],[(4,(aM).length,36,34)],5⟩) (PE cx (.exit 0) (fun aA=>[(6,.pt 2 0),(8,.pt 3 0)]) fun aA=>⟨[(0,[dI .i64 bQ.vR,dI .i64 bQ.vC,dL aj bQ.vV]),(1,dC (aj.f dK)),(2,[dI .i64 (0:Int),dI .i64 (0:Int),dN]),(3,[dI .i64 bT,dI .i64 bw,dO 4 aj aA])],[(4,(aA).length,36,34)],5⟩) hy ?_ ?_ ?_
 exact Wk.trans (Wk.nilOwn (ds':=[dI .i64 bT,dI .i64 bw,dO 4 aj ([]:List ak)]) 3 2 34 36) (wkN h0 [2,3,4] (wR rfl (wR rfl (wR rfl (wR rfl (wR rfl (wR rfl wTn)))))) (vR rfl (vC rfl (vR rfl (vR rfl wVn)))) (wL rfl rfl wLn))
 clear hy h
 rintro⟨aE,aM⟩ y h
 dsimp only[ji] at h
 refine ra hx ?_
 refine AW.seq (cdh h rfl (fun fy h=>?_) (fun fy h=>?_))
 refine AW.skip (AW.seq (AW.block ?_))
 iterate 2 refine ra hx ?_
 refine AW.block ?_
 obtain⟨bz,hy,h⟩:=ai h
 refine lp (S:=Int×(List ak)) (X:=(List ak)) (fun (bS,aV)=>[(1,dI .i64 bw),(2,.fn 86 [0,1]),(6,.pt 2 0),(8,.pt 3 0),(9,dI .i64 aE),(14,dI .i64 bT),(15,dI .i64 aE),(18,dI .i64 bw),(19,dI .i64 bS)]) (fun (bS,aV)=>⟨[(0,[dI .i64 bQ.vR,dI .i64 bQ.vC,dL aj bQ.vV]),(1,dC (aj.f dK)),(2,[dI .i64 (0:Int),dI .i64 (0:Int),dN]),(3,[dI .i64 bT,dI .i64 bw,dO 4 aj aV])],[(4,(aV).length,36,34)],5⟩) (PE cx (.exit 2) (fun bz=>[(1,dI .i64 bw),(2,.fn 86 [0,1]),(6,.pt 2 0),(8,.pt 3 0),(14,dI .i64 bT),(15,dI .i64 aE)]) fun bz=>⟨[(0,[dI .i64 bQ.vR,dI .i64 bQ.vC,dL aj bQ.vV]),(1,dC (aj.f dK)),(2,[dI .i64 (0:Int),dI .i64 (0:Int),dN]),(3,[dI .i64 bT,dI .i64 bw,dO 4 aj bz])],[(4,(bz).length,36,34)],5⟩) hy ?_ ?_ ?_
 exact wkN h0 [2,3,4] (wR rfl (wR rfl (wR rfl (wR rfl (wR rfl (wR rfl (wR rfl (wR rfl (wR rfl wTn))))))))) (vR rfl (vC rfl (vR rfl (vR rfl wVn)))) (wL rfl rfl wLn)
 clear hy h
 rintro⟨bS,aV⟩ y h
 dsimp only[iS] at h
 refine ra hx ?_
 refine AW.seq (cdh h rfl (fun rf h=>?_) (fun rf h=>?_))
 refine AW.skip (AW.seq (AW.block (ra hx ?_)))
 obtain⟨x3,Bs,h⟩:=ai h
 obtain⟨FQ,h⟩:=ax h
 refine jn (PE cx .normal (fun (_:Unit)=>[(1,dI .i64 bw),(2,.fn 86 [0,1]),(6,.pt 2 0),(8,.pt 3 0),(9,dI .i64 aE),(14,dI .i64 bT),(15,dI .i64 aE),(18,dI .i64 bw),(19,dI .i64 bS)]) (fun (_:Unit)=>⟨[(0,[dI .i64 bQ.vR,dI .i64 bQ.vC,dL aj bQ.vV]),(1,dC (aj.f dK)),(2,[dI .i64 (0:Int),dI .i64 (0:Int),dN]),(3,[dI .i64 bT,dI .i64 bw,dO 4 aj (aV++[x3])])],[(4,(aV++[x3]).length,36,34)],5⟩) ()) ?_ ?_
 refine dw (DW.split 1 5 (by decide) ?_ ?_)
 refine dwg [] [0,1,2,3,4,5,6,7,8,9] hx (by kernel_rfl) (by kernel_rfl) (by kernel_rfl) fun K hK=>?_
 dsimp only[db,nG,nD,List.map]
 iterate 5 refine sbr ?_
 refine s1 (mK [0,1] rfl (qr Bs) (fA (ao _) (fA (ao _) (fA (ao _) (fA (ao _) fAn)))) (vR rfl (vC rfl wVn)) wLn (rvE (rvC rvN)) (qP _ _ _) (wg _ _)) ?_
 refine s1 (ka ([x3]:List ak) aj aW aR) ?_
 refine s1 (d:=dO 4 aj (aV++[x3])) (ip aW aR FQ) ?_
 refine sa ?_
 refine s0 (eL (ds':=[dI .i64 bT,dI .i64 bw,dO 4 aj (aV++[x3])]) aW) ?_
 exact .nil (hK _ _ (PE.i (wkN h0 [2,3,4] (wR rfl (wR rfl (wR rfl (wR rfl (wR rfl (wR rfl (wR rfl (wR rfl (wR rfl wTn))))))))) (vR rfl (vC rfl (vR rfl (vR rfl wVn)))) (wL rfl rfl wLn))))
 refine dwg [] [0,2,3,4,5,1,6,7,8,9] hx (by kernel_rfl) (by kernel_rfl) (by kernel_rfl) fun K hK=>?_
 dsimp only[db,nG,nD,List.map]
 iterate 4 refine sa ?_
 refine s1 (mK [0,1] rfl (qr Bs) (fA (ao _) (fA (ao _) (fA (ao _) (fA (ao _) fAn)))) (vR rfl (vC rfl wVn)) wLn (rvE (rvC rvN)) (qP _ _ _) (wg _ _)) ?_
 refine sbr ?_
 refine s1 (ka ([x3]:List ak) aj aW aR) ?_
 refine s1 (d:=dO 4 aj (aV++[x3])) (ip aW aR FQ) ?_
 refine sa ?_
 refine s0 (eL (ds':=[dI .i64 bT,dI .i64 bw,dO 4 aj (aV++[x3])]) aW) ?_
 exact .nil (hK _ _ (PE.i (wkN h0 [2,3,4] (wR rfl (wR rfl (wR rfl (wR rfl (wR rfl (wR rfl (wR rfl (wR rfl (wR rfl wTn))))))))) (vR rfl (vC rfl (vR rfl (vR rfl wVn)))) (wL rfl rfl wLn))))
 refine lw0 ?_
 refine rb hx ?_
 cases h
 exact PS.l (PE.i (wkN h0 [2,3,4] (wR rfl (wR rfl (wR rfl (wR rfl (wR rfl (wR rfl (wR rfl (wR rfl (wR rfl wTn))))))))) (vR rfl (vC rfl (vR rfl (vR rfl wVn)))) (wL rfl rfl wLn)))
 refine AW.exit ?_
 try dsimp only
 try simp only[fS,reduceIte,Nat.reduceEqDiff,reduceCtorEq]
 cases h
 exact PS.r ⟨by nofun,PE.i (wkN h0 [2,3,4] (wR rfl (wR rfl (wR rfl (wR rfl (wR rfl (wR rfl wTn)))))) (vR rfl (vC rfl (vR rfl (vR rfl wVn)))) (wL rfl rfl wLn))⟩
 refine lw0 ?_
 refine rb hx ?_
 cases h
 exact PS.l (PE.i (wkN h0 [2,3,4] (wR rfl (wR rfl (wR rfl (wR rfl (wR rfl (wR rfl wTn)))))) (vR rfl (vC rfl (vR rfl (vR rfl wVn)))) (wL rfl rfl wLn)))
 refine AW.exit ?_
 try dsimp only
 try simp only[fS,reduceIte,Nat.reduceEqDiff,reduceCtorEq]
 cases h
 exact PS.r ⟨by nofun,PE.i (wkN h0 [2,3,4] (wR rfl (wR rfl wTn)) (vR rfl (vC rfl (vR rfl (vR rfl wVn)))) (wL rfl rfl wLn))⟩
 refine lw0 ?_
 refine AW.seq (rs hx fun K hK=>?_)
 refine mbr ?_
 refine scb h gJ fun x8 h=>?_
 refine nbr hK ?_
 refine cdh h rfl (fun ke h=>?_) (fun ke h=>?_)
 refine rs hx fun K hK=>?_
 refine s1 (d:=.ag [dI .i64 (0:Int),dI .i64 (0:Int),dN]) (cp ay) ?_
 refine s0 (eL (ds':=[dI .i64 (0:Int),dI .i64 (0:Int),dN]) ay) ?_
 refine nbr hK ?_
 refine AW.ret ?_
 cases h
 exact⟨_,dQ (es:=[dI .i64 (0:Int),dI .i64 (0:Int),dN]) rfl ay rfl rfl (ltb rfl) (leb rfl) rfl (bI rfl (rfl)),q8.of_wk2 (by rw[hx];exact cD rfl) (wkN h0 [] (wG rfl (i7 (wc (ge _) (wc (ge _) (wc (vT rfl) wcn)))) (wR rfl wTn)) (vR rfl (vC rfl wVn)) wLn)⟩
 refine AW.skip (rs hx fun K hK=>?_)
 refine s1 (d:=.ag [dI .i64 bT,dI .i64 bw,dO 4 aj aA]) (cF ay) ?_
 refine s0 (eL (ds':=[dI .i64 bT,dI .i64 bw,dO 4 aj aA]) ay) ?_
 refine nbr hK ?_
 refine AW.ret ?_
 cases h
 exact⟨_,dQ (es:=[dI .i64 bT,dI .i64 bw,dO 4 aj aA]) rfl ay rfl rfl (ltb rfl) (leb rfl) rfl (bI rfl (rfl)),q8.of_wk2 (by rw[hx];exact cD rfl) (wkN h0 [] (wG rfl (i7 (wc (ge _) (wc (ge _) (wc (Ho _) wcn)))) (wR rfl wTn)) (vR rfl (vC rfl wVn)) wLn)⟩
def jF(dp:aq)(bg:ak):Option (aq×Int):=bnd (S:=Bool) (bnd (bN [dp]) fun x1=>cnd (!x1) (some (true)) (bnd (bq bg) fun x4=>some (!x4))) fun bG=>cnd bG (some ((⟨(0:Int),(0:Int),([]:List ak)⟩:aq),(1:Int))) (bnd (jE dp.vR dp.vC dp bg) fun x8=>some (x8.1,x8.2))
theorem Cb {dp:aq}{bg:ak}{r:aq×Int}(h:jF dp bg=some r):ar prog 37 [dG aG dp,dG aj bg] (.tu [dG aG r.1,dI .i64 r.2]):=by
 refine bB (rs:=[.cell 4 24,.tmp 5]) (fun cx hx h0=>?_) func37
 unfold jF at h
 refine rs hx fun K hK=>?_
 refine s1 (d:=.pt 0 0) jb ?_
 refine sa ?_
 refine s1 (d:=.pt 2 0) (cc ay) ?_
 refine nbr hK ?_
 iterate 2 refine AW.seq ?_
 obtain⟨bG,hy,h⟩:=ai h
 refine jn ((PE cx .normal (fun bG=>[(2,.pt 0 0),(3,.pt 1 0),(4,.pt 2 0),(14,dB bG)]) fun bG=>⟨[(0,[dI .i64 dp.vR,dI .i64 dp.vC,dL aj dp.vV]),(1,dC (aj.f bg)),(2,[dI .i64 (0:Int),dI .i64 (0:Int),dN])],[],3⟩) bG) ?_ ?_
 replace h:=hy
 refine rq hx fun K hK=>?_
 refine s1 (d:=dG aG dp) (cF ay) ?_
 refine s1 (d:=dO 3 aG [dp]) (oi rP ay) ?_
 refine scb h eR fun x1 h=>?_
 refine mbr ?_
 rcases bX h with⟨fT,h⟩|⟨fT,h⟩
 refine nbr hK ?_
 exact pe1 h h0 [0,1,2]
 refine gbr ?_
 refine gcb h ez fun x4 h=>?_
 refine nbr hK ?_
 exact pe1 h h0 [0,1,2]
 refine lw0 ?_
 refine cdh h rfl (fun wW h=>?_) (fun wW h=>?_)
 refine rs hx fun K hK=>?_
 refine s1 (d:=.ag [dI .i64 (0:Int),dI .i64 (0:Int),dN]) (cp ay) ?_
 refine s0 (eL (ds':=[dI .i64 (0:Int),dI .i64 (0:Int),dN]) ay) ?_
 refine nbr hK ?_
 refine AW.ret ?_
 cases h
 exact eu.mk2 (dQ (es:=[dI .i64 (0:Int),dI .i64 (0:Int),dN]) rfl ay rfl rfl (ltb rfl) (leb rfl) rfl (bI rfl (.inr ⟨_,_,(i7 (wc (ge _) (wc (ge _) (wc (vT rfl) wcn)))),(ao _),⟨rfl,rfl⟩,rfl⟩)))
 refine AW.skip (rs hx fun K hK=>?_)
 iterate 4 refine sbr ?_
 refine s1 wy ?_
 obtain⟨x8,Of,h⟩:=ai h
 refine s1 (BY [0,1] rfl (ze Of) (fA (ao _) (fA (ao _) (fA (ao _) fAn))) (vR rfl (vC rfl wVn)) wLn (rvE (rvC rvN)) rfl rfl) ?_
 iterate 2 refine sa ?_
 refine s0 (eL (ds':=[dI .i64 x8.1.vR,dI .i64 x8.1.vC,dL aj x8.1.vV]) ay) ?_
 refine nbr hK ?_
 refine AW.ret ?_
 cases h
 exact eu.mk2 (dQ (es:=(aG.f x8.1).map .e) rfl ay rfl rfl (ltb rfl) (leb rfl) rfl (bI rfl (.inr ⟨_,_,(ao _),(ao _),⟨rfl,rfl⟩,rfl⟩)))
def fQ(qi:Int)(jX:Int)(bQ:aq)(dK:aq):Int×ak→Option ((Int×ak)⊕ak):=fun (dm,Gr)=>cnd (decide (dm<bQ.vC)) (bnd (b8 bQ qi dm) fun vQ=>bnd (b8 dK dm jX) fun yY=>bnd (ee vQ yY) fun xw=>bnd (fO Gr xw) fun rh=>some (.inl (i64.wrap (dm+(1:Int)),rh))) (some (.inr Gr))
def gY(qi:Int)(jX:Int)(bQ:aq)(dK:aq):Option ak:=cnd (decide (bQ.vC=(0:Int))) (bnd (d7 (0:Int)) fun x2=>some x2) (bnd (b8 bQ qi (0:Int)) fun x4=>bnd (b8 dK (0:Int) jX) fun x6=>bnd (ee x4 x6) fun x8=>bnd (aL (fQ qi jX bQ dK) ((1:Int),x8)) fun og=>some og)
theorem sy {qi:Int}{jX:Int}{bQ:aq}{dK:aq}{r:ak}(h:gY qi jX bQ dK=some r):HC prog 84 [dI .i64 qi,dI .i64 jX,.pt 0 0,.pt 1 0] ⟨[(0,[dI .i64 bQ.vR,dI .i64 bQ.vC,dL aj bQ.vV]),(1,[dI .i64 dK.vR,dI .i64 dK.vC,dL aj dK.vV])],[],2⟩ (dG aj r) ⟨[(0,[dI .i64 bQ.vR,dI .i64 bQ.vC,dL aj bQ.vV]),(1,[dI .i64 dK.vR,dI .i64 dK.vC,dL aj dK.vV])],[],2⟩:=by
 refine HC.ofX (rs:=[.cell 6 34]) tok func84 rfl rfl (cD rfl) rfl (fun cx hx h1=>?_)
 have h0:cx.hp0.next=2:=by rw[h1]
 simp only[dv,Nat.reduceAdd,cj]
 unfold gY at h
 refine rar hx ?_
 refine AW.seq (rar hx ?_)
 refine cdh h rfl (fun fy h=>?_) (fun fy h=>?_)
 refine rs hx fun K hK=>?_
 refine scb h jU fun x2 h=>?_
 refine nbr hK ?_
 refine AW.ret ?_
 cases h
 exact⟨_,qx rfl aR rfl rfl (ltb rfl) (aj.h _) (rfl),q8.of_wk (by rw[hx];exact cD rfl) (wkN h0 [] (wG rfl (ao _) wTn) (vR rfl (vR rfl wVn)) wLn)⟩
 refine AW.skip (rsd [75,40] hx fun K hK=>?_)
 refine s1 (d:=dG aG bQ) (cF ay) ?_
 refine sa ?_
 refine cqb h d9 fun x4 h=>?_
 refine s1 (d:=dG aG dK) (cF ay) ?_
 refine sa ?_
 refine cqb h d9 fun x6 h=>?_
 refine cqb h nb fun x8 h=>?_
 refine nbr hK ?_
 refine AW.seq (ra hx ?_)
 refine AW.block ?_
 obtain⟨og,hy,h⟩:=ai h
 refine lp (S:=Int×ak) (X:=ak) (fun (dm,Gr)=>[(0,dI .i64 qi),(1,dI .i64 jX),(2,.pt 0 0),(3,.pt 1 0),(6,.pt 2 0),(7,.pt 3 0),(8,dI .i64 dm)]) (fun (dm,Gr)=>⟨[(0,[dI .i64 bQ.vR,dI .i64 bQ.vC,dL aj bQ.vV]),(1,[dI .i64 dK.vR,dI .i64 dK.vC,dL aj dK.vV]),(2,dC (aj.f ij)),(3,dC (aj.f Gr))],[],4⟩) (PE cx (.exit 0) (fun og=>[(6,.pt 2 0),(7,.pt 3 0)]) fun og=>⟨[(0,[dI .i64 bQ.vR,dI .i64 bQ.vC,dL aj bQ.vV]),(1,[dI .i64 dK.vR,dI .i64 dK.vC,dL aj dK.vV]),(2,dC (aj.f ij)),(3,dC (aj.f og))],[],4⟩) hy ?_ ?_ ?_
 exact wkN h0 [2,3] (wR rfl (wR rfl (wR rfl (wR rfl (wR rfl (wR rfl (wR rfl wTn))))))) (vR rfl (vR rfl (vC rfl (vC rfl wVn)))) wLn
 clear hy h
 rintro⟨dm,Gr⟩ y h
 dsimp only[fQ] at h
 refine AW.seq (rar hx ?_)
 refine cdh h rfl (fun ke h=>?_) (fun ke h=>?_)
 refine AW.skip (AW.seq (AW.block (rqd [75,40,85] hx fun K hK=>?_)))
 refine sbr ?_
 refine s1 (d:=dG aG bQ) (cF ay) ?_
 refine mbr ?_
 refine cqb h d9 fun vQ h=>?_
 refine s1 (d:=dG aG dK) (cF ay) ?_
 refine mbr ?_
 refine cqb h d9 fun yY h=>?_
 refine cqb h nb fun xw h=>?_
 refine cqb h uu fun rh h=>?_
 refine nbr hK ?_
 refine rb hx ?_
 cases h
 exact PS.l (PE.i (wkN h0 [2,3] (wR rfl (wR rfl (wR rfl (wR rfl (wR rfl (wR rfl (wR rfl wTn))))))) (vR rfl (vR rfl (vC rfl (vC rfl wVn)))) wLn))
 refine AW.exit ?_
 try dsimp only
 try simp only[fS,reduceIte,Nat.reduceEqDiff,reduceCtorEq]
 cases h
 exact PS.r ⟨by nofun,PE.i (wkN h0 [2,3] (wR rfl (wR rfl wTn)) (vR rfl (vR rfl (vC rfl (vC rfl wVn)))) wLn)⟩
 refine lw0 ?_
 refine rar hx ?_
 refine AW.ret ?_
 cases h
 exact⟨_,qx rfl aR rfl rfl (ltb rfl) (aj.h _) (rfl),q8.of_wk (by rw[hx];exact cD rfl) (wkN h0 [] (wG rfl (ao _) wTn) (vR rfl (vR rfl wVn)) wLn)⟩
def iR(bw:Int)(bQ:aq)(dK:aq)(aE:Int):Int×(List ak)→Option ((Int×(List ak))⊕((List ak))):=fun (bS,aV)=>cnd (decide (bS<bw)) (bnd (gY aE bS bQ dK) fun x3=>gd ((aV++[x3]).length*136≤140737488355328) (some (.inl (i64.wrap (bS+(1:Int)),aV++[x3])))) (some (.inr aV))
def jh(bT:Int)(bw:Int)(bQ:aq)(dK:aq):Int×(List ak)→Option ((Int×(List ak))⊕((List ak))):=fun (aE,aM)=>cnd (decide (aE<bT)) (bnd (aL (iR bw bQ dK aE) ((0:Int),aM)) fun bz=>some (.inl (i64.wrap (aE+(1:Int)),bz))) (some (.inr aM))
def jD(bT:Int)(bw:Int)(bQ:aq)(dK:aq):Option (aq×Int):=bnd (aL (jh bT bw bQ dK) ((0:Int),([]:List ak))) fun aA=>bnd (cX aA) fun x8=>cnd (!x8) (some ((⟨(0:Int),(0:Int),([]:List ak)⟩:aq),(30:Int))) (some ((⟨bT,bw,aA⟩:aq),(0:Int)))
theorem zd {bT:Int}{bw:Int}{bQ:aq}{dK:aq}{r:aq×Int}(h:jD bT bw bQ dK=some r):HC prog 73 [dI .i64 bT,dI .i64 bw,.fn 84 [0,1]] ⟨[(0,[dI .i64 bQ.vR,dI .i64 bQ.vC,dL aj bQ.vV]),(1,[dI .i64 dK.vR,dI .i64 dK.vC,dL aj dK.vV])],[],2⟩ (.tu [dG aG r.1,dI .i64 r.2]) ⟨[(0,[dI .i64 bQ.vR,dI .i64 bQ.vC,dL aj bQ.vV]),(1,[dI .i64 dK.vR,dI .i64 dK.vC,dL aj dK.vV])],[],2⟩:=by
 refine HC.ofX (rs:=[.cell 6 24,.tmp 7]) tok func73 rfl rfl (cD rfl) rfl (fun cx hx h1=>?_)
 have h0:cx.hp0.next=2:=by rw[h1]
 simp only[dv,Nat.reduceAdd,cj]
 unfold jD at h
 refine rs hx fun K hK=>?_
 refine s1 (d:=.pt 2 0) (cc ay) ?_
 refine nbr hK ?_
 refine rs hx fun K hK=>?_
 iterate 2 refine sa ?_
 refine s1 (d:=.ag [dI .i64 bT,dI .i64 bw,dN]) (cp ay) ?_
 refine s1 (d:=.pt 3 0) (cc ay) ?_
 refine s0 (eL (ds':=[dI .i64 bT,dI .i64 bw,dN]) ay) ?_
 refine nl hK ?_
 refine AW.seq (ra hx ?_)
 refine AW.block ?_
 obtain⟨aA,hy,h⟩:=ai h
 refine lp (S:=Int×(List ak)) (X:=(List ak)) (fun (aE,aM)=>[(1,dI .i64 bw),(2,.fn 84 [0,1]),(6,.pt 2 0),(8,.pt 3 0),(14,dI .i64 bT),(15,dI .i64 aE)]) (fun (aE,aM)=>⟨[(0,[dI .i64 bQ.vR,dI .i64 bQ.vC,dL aj bQ.vV]),(1,[dI .i64 dK.vR,dI .i64 dK.vC,dL aj dK.vV]),(2,[dI .i64 (0:Int),dI .i64 (0:Int),dN]),(3,[dI .i64 bT,dI .i64 bw,dO 4 aj aM])],[(4,(aM).length,36,34)],5⟩) (PE cx (.exit 0) (fun aA=>[(6,.pt 2 0),(8,.pt 3 0)]) fun aA=>⟨[(0,[dI .i64 bQ.vR,dI .i64 bQ.vC,dL aj bQ.vV]),(1,[dI .i64 dK.vR,dI .i64 dK.vC,dL aj dK.vV]),(2,[dI .i64 (0:Int),dI .i64 (0:Int),dN]),(3,[dI .i64 bT,dI .i64 bw,dO 4 aj aA])],[(4,(aA).length,36,34)],5⟩) hy ?_ ?_ ?_
 exact Wk.trans (Wk.nilOwn (ds':=[dI .i64 bT,dI .i64 bw,dO 4 aj ([]:List ak)]) 3 2 34 36) (wkN h0 [2,3,4] (wR rfl (wR rfl (wR rfl (wR rfl (wR rfl (wR rfl wTn)))))) (vR rfl (vR rfl (vR rfl (vR rfl wVn)))) (wL rfl rfl wLn))
 clear hy h
 rintro⟨aE,aM⟩ y h
 dsimp only[jh] at h
 refine ra hx ?_
 refine AW.seq (cdh h rfl (fun fy h=>?_) (fun fy h=>?_))
 refine AW.skip (AW.seq (AW.block ?_))
 iterate 2 refine ra hx ?_
 refine AW.block ?_
 obtain⟨bz,hy,h⟩:=ai h
 refine lp (S:=Int×(List ak)) (X:=(List ak)) (fun (bS,aV)=>[(1,dI .i64 bw),(2,.fn 84 [0,1]),(6,.pt 2 0),(8,.pt 3 0),(9,dI .i64 aE),(14,dI .i64 bT),(15,dI .i64 aE),(18,dI .i64 bw),(19,dI .i64 bS)]) (fun (bS,aV)=>⟨[(0,[dI .i64 bQ.vR,dI .i64 bQ.vC,dL aj bQ.vV]),(1,[dI .i64 dK.vR,dI .i64 dK.vC,dL aj dK.vV]),(2,[dI .i64 (0:Int),dI .i64 (0:Int),dN]),(3,[dI .i64 bT,dI .i64 bw,dO 4 aj aV])],[(4,(aV).length,36,34)],5⟩) (PE cx (.exit 2) (fun bz=>[(1,dI .i64 bw),(2,.fn 84 [0,1]),(6,.pt 2 0),(8,.pt 3 0),(14,dI .i64 bT),(15,dI .i64 aE)]) fun bz=>⟨[(0,[dI .i64 bQ.vR,dI .i64 bQ.vC,dL aj bQ.vV]),(1,[dI .i64 dK.vR,dI .i64 dK.vC,dL aj dK.vV]),(2,[dI .i64 (0:Int),dI .i64 (0:Int),dN]),(3,[dI .i64 bT,dI .i64 bw,dO 4 aj bz])],[(4,(bz).length,36,34)],5⟩) hy ?_ ?_ ?_
 exact wkN h0 [2,3,4] (wR rfl (wR rfl (wR rfl (wR rfl (wR rfl (wR rfl (wR rfl (wR rfl (wR rfl wTn))))))))) (vR rfl (vR rfl (vR rfl (vR rfl wVn)))) (wL rfl rfl wLn)
 clear hy h
 rintro⟨bS,aV⟩ y h
 dsimp only[iR] at h
 refine ra hx ?_
 refine AW.seq (cdh h rfl (fun rf h=>?_) (fun rf h=>?_))
 refine AW.skip (AW.seq (AW.block (ra hx ?_)))
 obtain⟨x3,Bs,h⟩:=ai h
 obtain⟨FQ,h⟩:=ax h
 refine jn (PE cx .normal (fun (_:Unit)=>[(1,dI .i64 bw),(2,.fn 84 [0,1]),(6,.pt 2 0),(8,.pt 3 0),(9,dI .i64 aE),(14,dI .i64 bT),(15,dI .i64 aE),(18,dI .i64 bw),(19,dI .i64 bS)]) (fun (_:Unit)=>⟨[(0,[dI .i64 bQ.vR,dI .i64 bQ.vC,dL aj bQ.vV]),(1,[dI .i64 dK.vR,dI .i64 dK.vC,dL aj dK.vV]),(2,[dI .i64 (0:Int),dI .i64 (0:Int),dN]),(3,[dI .i64 bT,dI .i64 bw,dO 4 aj (aV++[x3])])],[(4,(aV++[x3]).length,36,34)],5⟩) ()) ?_ ?_
 refine dw (DW.split 1 5 (by decide) ?_ ?_)
 refine dwg [] [0,1,2,3,4,5,6,7,8,9] hx (by kernel_rfl) (by kernel_rfl) (by kernel_rfl) fun K hK=>?_
 dsimp only[db,nG,nD,List.map]
 iterate 5 refine sbr ?_
 refine s1 (mK [0,1] rfl (sy Bs) (fA (ao _) (fA (ao _) (fA (ao _) (fA (ao _) fAn)))) (vR rfl (vR rfl wVn)) wLn (rvE (rvE rvN)) (qP _ _ _) (wg _ _)) ?_
 refine s1 (ka ([x3]:List ak) aj aW aR) ?_
 refine s1 (d:=dO 4 aj (aV++[x3])) (ip aW aR FQ) ?_
 refine sa ?_
 refine s0 (eL (ds':=[dI .i64 bT,dI .i64 bw,dO 4 aj (aV++[x3])]) aW) ?_
 exact .nil (hK _ _ (PE.i (wkN h0 [2,3,4] (wR rfl (wR rfl (wR rfl (wR rfl (wR rfl (wR rfl (wR rfl (wR rfl (wR rfl wTn))))))))) (vR rfl (vR rfl (vR rfl (vR rfl wVn)))) (wL rfl rfl wLn))))
 refine dwg [] [0,2,3,4,5,1,6,7,8,9] hx (by kernel_rfl) (by kernel_rfl) (by kernel_rfl) fun K hK=>?_
 dsimp only[db,nG,nD,List.map]
 iterate 4 refine sa ?_
 refine s1 (mK [0,1] rfl (sy Bs) (fA (ao _) (fA (ao _) (fA (ao _) (fA (ao _) fAn)))) (vR rfl (vR rfl wVn)) wLn (rvE (rvE rvN)) (qP _ _ _) (wg _ _)) ?_
 refine sbr ?_
 refine s1 (ka ([x3]:List ak) aj aW aR) ?_
 refine s1 (d:=dO 4 aj (aV++[x3])) (ip aW aR FQ) ?_
 refine sa ?_
 refine s0 (eL (ds':=[dI .i64 bT,dI .i64 bw,dO 4 aj (aV++[x3])]) aW) ?_
 exact .nil (hK _ _ (PE.i (wkN h0 [2,3,4] (wR rfl (wR rfl (wR rfl (wR rfl (wR rfl (wR rfl (wR rfl (wR rfl (wR rfl wTn))))))))) (vR rfl (vR rfl (vR rfl (vR rfl wVn)))) (wL rfl rfl wLn))))
 refine lw0 ?_
 refine rb hx ?_
 cases h
 exact PS.l (PE.i (wkN h0 [2,3,4] (wR rfl (wR rfl (wR rfl (wR rfl (wR rfl (wR rfl (wR rfl (wR rfl (wR rfl wTn))))))))) (vR rfl (vR rfl (vR rfl (vR rfl wVn)))) (wL rfl rfl wLn)))
 refine AW.exit ?_
 try dsimp only
 try simp only[fS,reduceIte,Nat.reduceEqDiff,reduceCtorEq]
 cases h
 exact PS.r ⟨by nofun,PE.i (wkN h0 [2,3,4] (wR rfl (wR rfl (wR rfl (wR rfl (wR rfl (wR rfl wTn)))))) (vR rfl (vR rfl (vR rfl (vR rfl wVn)))) (wL rfl rfl wLn))⟩
 refine lw0 ?_
 refine rb hx ?_
 cases h
 exact PS.l (PE.i (wkN h0 [2,3,4] (wR rfl (wR rfl (wR rfl (wR rfl (wR rfl (wR rfl wTn)))))) (vR rfl (vR rfl (vR rfl (vR rfl wVn)))) (wL rfl rfl wLn)))
 refine AW.exit ?_
 try dsimp only
 try simp only[fS,reduceIte,Nat.reduceEqDiff,reduceCtorEq]
 cases h
 exact PS.r ⟨by nofun,PE.i (wkN h0 [2,3,4] (wR rfl (wR rfl wTn)) (vR rfl (vR rfl (vR rfl (vR rfl wVn)))) (wL rfl rfl wLn))⟩
 refine lw0 ?_
 refine AW.seq (rs hx fun K hK=>?_)
 refine mbr ?_
 refine scb h gJ fun x8 h=>?_
 refine nbr hK ?_
 refine cdh h rfl (fun ke h=>?_) (fun ke h=>?_)
 refine rs hx fun K hK=>?_
 refine s1 (d:=.ag [dI .i64 (0:Int),dI .i64 (0:Int),dN]) (cp ay) ?_
 refine s0 (eL (ds':=[dI .i64 (0:Int),dI .i64 (0:Int),dN]) ay) ?_
 refine nbr hK ?_
 refine AW.ret ?_
 cases h
 exact⟨_,dQ (es:=[dI .i64 (0:Int),dI .i64 (0:Int),dN]) rfl ay rfl rfl (ltb rfl) (leb rfl) rfl (bI rfl (rfl)),q8.of_wk2 (by rw[hx];exact cD rfl) (wkN h0 [] (wG rfl (i7 (wc (ge _) (wc (ge _) (wc (vT rfl) wcn)))) (wR rfl wTn)) (vR rfl (vR rfl wVn)) wLn)⟩
 refine AW.skip (rs hx fun K hK=>?_)
 refine s1 (d:=.ag [dI .i64 bT,dI .i64 bw,dO 4 aj aA]) (cF ay) ?_
 refine s0 (eL (ds':=[dI .i64 bT,dI .i64 bw,dO 4 aj aA]) ay) ?_
 refine nbr hK ?_
 refine AW.ret ?_
 cases h
 exact⟨_,dQ (es:=[dI .i64 bT,dI .i64 bw,dO 4 aj aA]) rfl ay rfl rfl (ltb rfl) (leb rfl) rfl (bI rfl (rfl)),q8.of_wk2 (by rw[hx];exact cD rfl) (wkN h0 [] (wG rfl (i7 (wc (ge _) (wc (ge _) (wc (Ho _) wcn)))) (wR rfl wTn)) (vR rfl (vR rfl wVn)) wLn)⟩
def iV(aZ:aq)(aY:aq):Option (aq×Int):=bnd (S:=Bool) (bnd (bN [aZ,aY]) fun x1=>cnd (!x1) (some (true)) (some (decide (aZ.vC≠aY.vR)))) fun bG=>cnd bG (some ((⟨(0:Int),(0:Int),([]:List ak)⟩:aq),(1:Int))) (bnd (jD aZ.vR aY.vC aZ aY) fun x6=>some (x6.1,x6.2))
theorem GH {aZ:aq}{aY:aq}{r:aq×Int}(h:iV aZ aY=some r):ar prog 31 [dG aG aZ,dG aG aY] (.tu [dG aG r.1,dI .i64 r.2]):=by
 refine bB (rs:=[.cell 4 24,.tmp 5]) (fun cx hx h0=>?_) func31
 unfold iV at h
 refine rs hx fun K hK=>?_
 refine s1 (d:=.pt 0 0) jb ?_
 refine s1 (d:=.pt 1 0) jb ?_
 refine s1 (d:=.pt 2 0) (cc ay) ?_
 refine nbr hK ?_
 iterate 2 refine AW.seq ?_
 obtain⟨bG,hy,h⟩:=ai h
 refine jn ((PE cx .normal (fun bG=>[(2,.pt 0 0),(3,.pt 1 0),(4,.pt 2 0),(17,dB bG)]) fun bG=>⟨[(0,[dI .i64 aZ.vR,dI .i64 aZ.vC,dL aj aZ.vV]),(1,[dI .i64 aY.vR,dI .i64 aY.vC,dL aj aY.vV]),(2,[dI .i64 (0:Int),dI .i64 (0:Int),dN])],[],3⟩) bG) ?_ ?_
 replace h:=hy
 refine rq hx fun K hK=>?_
 refine s1 (d:=dG aG aZ) (cF ay) ?_
 refine s1 (d:=dG aG aY) (cF ay) ?_
 refine s1 (d:=dO 3 aG [aZ,aY]) (oi rP ay) ?_
 refine scb h eR fun x1 h=>?_
 refine mbr ?_
 rcases bX h with⟨fT,h⟩|⟨fT,h⟩
 refine nbr hK ?_
 exact pe1 h h0 [0,1,2]
 refine nbr hK ?_
 exact pe1 h h0 [0,1,2]
 refine lw0 ?_
 refine cdh h rfl (fun v4 h=>?_) (fun v4 h=>?_)
 refine rs hx fun K hK=>?_
 refine s1 (d:=.ag [dI .i64 (0:Int),dI .i64 (0:Int),dN]) (cp ay) ?_
 refine s0 (eL (ds':=[dI .i64 (0:Int),dI .i64 (0:Int),dN]) ay) ?_
 refine nbr hK ?_
 refine AW.ret ?_
 cases h
 exact eu.mk2 (dQ (es:=[dI .i64 (0:Int),dI .i64 (0:Int),dN]) rfl ay rfl rfl (ltb rfl) (leb rfl) rfl (bI rfl (.inr ⟨_,_,(i7 (wc (ge _) (wc (ge _) (wc (vT rfl) wcn)))),(ao _),⟨rfl,rfl⟩,rfl⟩)))
 refine AW.skip (rs hx fun K hK=>?_)
 iterate 4 refine sbr ?_
 refine s1 wy ?_
 obtain⟨x6,ug,h⟩:=ai h
 refine s1 (BZ [0,1] rfl (zd ug) (fA (ao _) (fA (ao _) (fA (ao _) fAn))) (vR rfl (vR rfl wVn)) wLn) ?_
 iterate 2 refine sa ?_
 refine s0 (eL (ds':=[dI .i64 x6.1.vR,dI .i64 x6.1.vC,dL aj x6.1.vV]) ay) ?_
 refine nbr hK ?_
 refine AW.ret ?_
 cases h
 exact eu.mk2 (dQ (es:=(aG.f x6.1).map .e) rfl ay rfl rfl (ltb rfl) (leb rfl) rfl (bI rfl (.inr ⟨_,_,(ao _),(ao _),⟨rfl,rfl⟩,rfl⟩)))
def gq(qi:Int)(jX:Int)(bQ:aq)(dK:aq):Option ak:=cnd (decide (jX<bQ.vC)) (bnd (b8 bQ qi jX) fun x2=>some x2) (bnd (b8 dK qi (i64.wrap (jX - bQ.vC))) fun x4=>some x4)
theorem pR {qi:Int}{jX:Int}{bQ:aq}{dK:aq}{r:ak}(h:gq qi jX bQ dK=some r):HC prog 98 [dI .i64 qi,dI .i64 jX,.pt 0 0,.pt 1 0] ⟨[(0,[dI .i64 bQ.vR,dI .i64 bQ.vC,dL aj bQ.vV]),(1,[dI .i64 dK.vR,dI .i64 dK.vC,dL aj dK.vV])],[],2⟩ (dG aj r) ⟨[(0,[dI .i64 bQ.vR,dI .i64 bQ.vC,dL aj bQ.vV]),(1,[dI .i64 dK.vR,dI .i64 dK.vC,dL aj dK.vV])],[],2⟩:=by
 refine HC.ofX (rs:=[.cell 6 34]) tok func98 rfl rfl (cD rfl) rfl (fun cx hx h1=>?_)
 have h0:cx.hp0.next=2:=by rw[h1]
 simp only[dv,Nat.reduceAdd,cj]
 unfold gq at h
 refine rar hx ?_
 refine AW.seq (rar hx ?_)
 refine cdh h rfl (fun fy h=>?_) (fun fy h=>?_)
 refine rs hx fun K hK=>?_
 refine s1 (d:=dG aG bQ) (cF ay) ?_
 refine mbr ?_
 refine scb h d9 fun x2 h=>?_
 refine nbr hK ?_
 refine AW.ret ?_
 cases h
 exact⟨_,qx rfl aR rfl rfl (ltb rfl) (aj.h _) (rfl),q8.of_wk (by rw[hx];exact cD rfl) (wkN h0 [] (wG rfl (ao _) wTn) (vR rfl (vR rfl wVn)) wLn)⟩
 refine AW.skip (rs hx fun K hK=>?_)
 refine s1 (d:=dG aG dK) (cF ay) ?_
 refine mbr ?_
 refine scb h d9 fun x4 h=>?_
 refine nbr hK ?_
 refine AW.ret ?_
 cases h
 exact⟨_,qx rfl aR rfl rfl (ltb rfl) (aj.h _) (rfl),q8.of_wk (by rw[hx];exact cD rfl) (wkN h0 [] (wG rfl (ao _) wTn) (vR rfl (vR rfl wVn)) wLn)⟩
def iQ(bw:Int)(bQ:aq)(dK:aq)(aE:Int):Int×(List ak)→Option ((Int×(List ak))⊕((List ak))):=fun (bS,aV)=>cnd (decide (bS<bw)) (bnd (gq aE bS bQ dK) fun x3=>gd ((aV++[x3]).length*136≤140737488355328) (some (.inl (i64.wrap (bS+(1:Int)),aV++[x3])))) (some (.inr aV))
def jg(bT:Int)(bw:Int)(bQ:aq)(dK:aq):Int×(List ak)→Option ((Int×(List ak))⊕((List ak))):=fun (aE,aM)=>cnd (decide (aE<bT)) (bnd (aL (iQ bw bQ dK aE) ((0:Int),aM)) fun bz=>some (.inl (i64.wrap (aE+(1:Int)),bz))) (some (.inr aM))
def jC(bT:Int)(bw:Int)(bQ:aq)(dK:aq):Option (aq×Int):=bnd (aL (jg bT bw bQ dK) ((0:Int),([]:List ak))) fun aA=>bnd (cX aA) fun x8=>cnd (!x8) (some ((⟨(0:Int),(0:Int),([]:List ak)⟩:aq),(30:Int))) (some ((⟨bT,bw,aA⟩:aq),(0:Int)))
theorem zc {bT:Int}{bw:Int}{bQ:aq}{dK:aq}{r:aq×Int}(h:jC bT bw bQ dK=some r):HC prog 73 [dI .i64 bT,dI .i64 bw,.fn 98 [0,1]] ⟨[(0,[dI .i64 bQ.vR,dI .i64 bQ.vC,dL aj bQ.vV]),(1,[dI .i64 dK.vR,dI .i64 dK.vC,dL aj dK.vV])],[],2⟩ (.tu [dG aG r.1,dI .i64 r.2]) ⟨[(0,[dI .i64 bQ.vR,dI .i64 bQ.vC,dL aj bQ.vV]),(1,[dI .i64 dK.vR,dI .i64 dK.vC,dL aj dK.vV])],[],2⟩:=by
 refine HC.ofX (rs:=[.cell 6 24,.tmp 7]) tok func73 rfl rfl (cD rfl) rfl (fun cx hx h1=>?_)
 have h0:cx.hp0.next=2:=by rw[h1]
 simp only[dv,Nat.reduceAdd,cj]
 unfold jC at h
 refine rs hx fun K hK=>?_
 refine s1 (d:=.pt 2 0) (cc ay) ?_
 refine nbr hK ?_
 refine rs hx fun K hK=>?_
 iterate 2 refine sa ?_
 refine s1 (d:=.ag [dI .i64 bT,dI .i64 bw,dN]) (cp ay) ?_
 refine s1 (d:=.pt 3 0) (cc ay) ?_
 refine s0 (eL (ds':=[dI .i64 bT,dI .i64 bw,dN]) ay) ?_
 refine nl hK ?_
 refine AW.seq (ra hx ?_)
 refine AW.block ?_
 obtain⟨aA,hy,h⟩:=ai h
 refine lp (S:=Int×(List ak)) (X:=(List ak)) (fun (aE,aM)=>[(1,dI .i64 bw),(2,.fn 98 [0,1]),(6,.pt 2 0),(8,.pt 3 0),(14,dI .i64 bT),(15,dI .i64 aE)]) (fun (aE,aM)=>⟨[(0,[dI .i64 bQ.vR,dI .i64 bQ.vC,dL aj bQ.vV]),(1,[dI .i64 dK.vR,dI .i64 dK.vC,dL aj dK.vV]),(2,[dI .i64 (0:Int),dI .i64 (0:Int),dN]),(3,[dI .i64 bT,dI .i64 bw,dO 4 aj aM])],[(4,(aM).length,36,34)],5⟩) (PE cx (.exit 0) (fun aA=>[(6,.pt 2 0),(8,.pt 3 0)]) fun aA=>⟨[(0,[dI .i64 bQ.vR,dI .i64 bQ.vC,dL aj bQ.vV]),(1,[dI .i64 dK.vR,dI .i64 dK.vC,dL aj dK.vV]),(2,[dI .i64 (0:Int),dI .i64 (0:Int),dN]),(3,[dI .i64 bT,dI .i64 bw,dO 4 aj aA])],[(4,(aA).length,36,34)],5⟩) hy ?_ ?_ ?_
 exact Wk.trans (Wk.nilOwn (ds':=[dI .i64 bT,dI .i64 bw,dO 4 aj ([]:List ak)]) 3 2 34 36) (wkN h0 [2,3,4] (wR rfl (wR rfl (wR rfl (wR rfl (wR rfl (wR rfl wTn)))))) (vR rfl (vR rfl (vR rfl (vR rfl wVn)))) (wL rfl rfl wLn))
 clear hy h
 rintro⟨aE,aM⟩ y h
 dsimp only[jg] at h
 refine ra hx ?_
 refine AW.seq (cdh h rfl (fun fy h=>?_) (fun fy h=>?_))
 refine AW.skip (AW.seq (AW.block ?_))
 iterate 2 refine ra hx ?_
 refine AW.block ?_
 obtain⟨bz,hy,h⟩:=ai h
 refine lp (S:=Int×(List ak)) (X:=(List ak)) (fun (bS,aV)=>[(1,dI .i64 bw),(2,.fn 98 [0,1]),(6,.pt 2 0),(8,.pt 3 0),(9,dI .i64 aE),(14,dI .i64 bT),(15,dI .i64 aE),(18,dI .i64 bw),(19,dI .i64 bS)]) (fun (bS,aV)=>⟨[(0,[dI .i64 bQ.vR,dI .i64 bQ.vC,dL aj bQ.vV]),(1,[dI .i64 dK.vR,dI .i64 dK.vC,dL aj dK.vV]),(2,[dI .i64 (0:Int),dI .i64 (0:Int),dN]),(3,[dI .i64 bT,dI .i64 bw,dO 4 aj aV])],[(4,(aV).length,36,34)],5⟩) (PE cx (.exit 2) (fun bz=>[(1,dI .i64 bw),(2,.fn 98 [0,1]),(6,.pt 2 0),(8,.pt 3 0),(14,dI .i64 bT),(15,dI .i64 aE)]) fun bz=>⟨[(0,[dI .i64 bQ.vR,dI .i64 bQ.vC,dL aj bQ.vV]),(1,[dI .i64 dK.vR,dI .i64 dK.vC,dL aj dK.vV]),(2,[dI .i64 (0:Int),dI .i64 (0:Int),dN]),(3,[dI .i64 bT,dI .i64 bw,dO 4 aj bz])],[(4,(bz).length,36,34)],5⟩) hy ?_ ?_ ?_
 exact wkN h0 [2,3,4] (wR rfl (wR rfl (wR rfl (wR rfl (wR rfl (wR rfl (wR rfl (wR rfl (wR rfl wTn))))))))) (vR rfl (vR rfl (vR rfl (vR rfl wVn)))) (wL rfl rfl wLn)
 clear hy h
 rintro⟨bS,aV⟩ y h
 dsimp only[iQ] at h
 refine ra hx ?_
 refine AW.seq (cdh h rfl (fun rf h=>?_) (fun rf h=>?_))
 refine AW.skip (AW.seq (AW.block (ra hx ?_)))
 obtain⟨x3,Bs,h⟩:=ai h
 obtain⟨FQ,h⟩:=ax h
 refine jn (PE cx .normal (fun (_:Unit)=>[(1,dI .i64 bw),(2,.fn 98 [0,1]),(6,.pt 2 0),(8,.pt 3 0),(9,dI .i64 aE),(14,dI .i64 bT),(15,dI .i64 aE),(18,dI .i64 bw),(19,dI .i64 bS)]) (fun (_:Unit)=>⟨[(0,[dI .i64 bQ.vR,dI .i64 bQ.vC,dL aj bQ.vV]),(1,[dI .i64 dK.vR,dI .i64 dK.vC,dL aj dK.vV]),(2,[dI .i64 (0:Int),dI .i64 (0:Int),dN]),(3,[dI .i64 bT,dI .i64 bw,dO 4 aj (aV++[x3])])],[(4,(aV++[x3]).length,36,34)],5⟩) ()) ?_ ?_
 refine dw (DW.split 1 5 (by decide) ?_ ?_)
 refine dwg [] [0,1,2,3,4,5,6,7,8,9] hx (by kernel_rfl) (by kernel_rfl) (by kernel_rfl) fun K hK=>?_
 dsimp only[db,nG,nD,List.map]
 iterate 5 refine sbr ?_
 refine s1 (mK [0,1] rfl (pR Bs) (fA (ao _) (fA (ao _) (fA (ao _) (fA (ao _) fAn)))) (vR rfl (vR rfl wVn)) wLn (rvE (rvE rvN)) (qP _ _ _) (wg _ _)) ?_
 refine s1 (ka ([x3]:List ak) aj aW aR) ?_
 refine s1 (d:=dO 4 aj (aV++[x3])) (ip aW aR FQ) ?_
 refine sa ?_
 refine s0 (eL (ds':=[dI .i64 bT,dI .i64 bw,dO 4 aj (aV++[x3])]) aW) ?_
 exact .nil (hK _ _ (PE.i (wkN h0 [2,3,4] (wR rfl (wR rfl (wR rfl (wR rfl (wR rfl (wR rfl (wR rfl (wR rfl (wR rfl wTn))))))))) (vR rfl (vR rfl (vR rfl (vR rfl wVn)))) (wL rfl rfl wLn))))
 refine dwg [] [0,2,3,4,5,1,6,7,8,9] hx (by kernel_rfl) (by kernel_rfl) (by kernel_rfl) fun K hK=>?_
 dsimp only[db,nG,nD,List.map]
 iterate 4 refine sa ?_
 refine s1 (mK [0,1] rfl (pR Bs) (fA (ao _) (fA (ao _) (fA (ao _) (fA (ao _) fAn)))) (vR rfl (vR rfl wVn)) wLn (rvE (rvE rvN)) (qP _ _ _) (wg _ _)) ?_
 refine sbr ?_
 refine s1 (ka ([x3]:List ak) aj aW aR) ?_
 refine s1 (d:=dO 4 aj (aV++[x3])) (ip aW aR FQ) ?_
 refine sa ?_
 refine s0 (eL (ds':=[dI .i64 bT,dI .i64 bw,dO 4 aj (aV++[x3])]) aW) ?_
 exact .nil (hK _ _ (PE.i (wkN h0 [2,3,4] (wR rfl (wR rfl (wR rfl (wR rfl (wR rfl (wR rfl (wR rfl (wR rfl (wR rfl wTn))))))))) (vR rfl (vR rfl (vR rfl (vR rfl wVn)))) (wL rfl rfl wLn))))
 refine lw0 ?_
 refine rb hx ?_
 cases h
 exact PS.l (PE.i (wkN h0 [2,3,4] (wR rfl (wR rfl (wR rfl (wR rfl (wR rfl (wR rfl (wR rfl (wR rfl (wR rfl wTn))))))))) (vR rfl (vR rfl (vR rfl (vR rfl wVn)))) (wL rfl rfl wLn)))
 refine AW.exit ?_
 try dsimp only
 try simp only[fS,reduceIte,Nat.reduceEqDiff,reduceCtorEq]
 cases h
 exact PS.r ⟨by nofun,PE.i (wkN h0 [2,3,4] (wR rfl (wR rfl (wR rfl (wR rfl (wR rfl (wR rfl wTn)))))) (vR rfl (vR rfl (vR rfl (vR rfl wVn)))) (wL rfl rfl wLn))⟩
 refine lw0 ?_
 refine rb hx ?_
 cases h
 exact PS.l (PE.i (wkN h0 [2,3,4] (wR rfl (wR rfl (wR rfl (wR rfl (wR rfl (wR rfl wTn)))))) (vR rfl (vR rfl (vR rfl (vR rfl wVn)))) (wL rfl rfl wLn)))
 refine AW.exit ?_
 try dsimp only
 try simp only[fS,reduceIte,Nat.reduceEqDiff,reduceCtorEq]
 cases h
 exact PS.r ⟨by nofun,PE.i (wkN h0 [2,3,4] (wR rfl (wR rfl wTn)) (vR rfl (vR rfl (vR rfl (vR rfl wVn)))) (wL rfl rfl wLn))⟩
 refine lw0 ?_
 refine AW.seq (rs hx fun K hK=>?_)
 refine mbr ?_
 refine scb h gJ fun x8 h=>?_
 refine nbr hK ?_
 refine cdh h rfl (fun ke h=>?_) (fun ke h=>?_)
 refine rs hx fun K hK=>?_
 refine s1 (d:=.ag [dI .i64 (0:Int),dI .i64 (0:Int),dN]) (cp ay) ?_
 refine s0 (eL (ds':=[dI .i64 (0:Int),dI .i64 (0:Int),dN]) ay) ?_
 refine nbr hK ?_
 refine AW.ret ?_
 cases h
 exact⟨_,dQ (es:=[dI .i64 (0:Int),dI .i64 (0:Int),dN]) rfl ay rfl rfl (ltb rfl) (leb rfl) rfl (bI rfl (rfl)),q8.of_wk2 (by rw[hx];exact cD rfl) (wkN h0 [] (wG rfl (i7 (wc (ge _) (wc (ge _) (wc (vT rfl) wcn)))) (wR rfl wTn)) (vR rfl (vR rfl wVn)) wLn)⟩
 refine AW.skip (rs hx fun K hK=>?_)
 refine s1 (d:=.ag [dI .i64 bT,dI .i64 bw,dO 4 aj aA]) (cF ay) ?_
 refine s0 (eL (ds':=[dI .i64 bT,dI .i64 bw,dO 4 aj aA]) ay) ?_
 refine nbr hK ?_
 refine AW.ret ?_
 cases h
 exact⟨_,dQ (es:=[dI .i64 bT,dI .i64 bw,dO 4 aj aA]) rfl ay rfl rfl (ltb rfl) (leb rfl) rfl (bI rfl (rfl)),q8.of_wk2 (by rw[hx];exact cD rfl) (wkN h0 [] (wG rfl (i7 (wc (ge _) (wc (ge _) (wc (Ho _) wcn)))) (wR rfl wTn)) (vR rfl (vR rfl wVn)) wLn)⟩
def iA(aZ:aq)(aY:aq):Option (aq×Int):=bnd (S:=Bool) (bnd (bN [aZ,aY]) fun x1=>cnd (!x1) (some (true)) (some (decide (aZ.vR≠aY.vR)))) fun i4=>cnd i4 (some ((⟨(0:Int),(0:Int),([]:List ak)⟩:aq),(1:Int))) (cnd (decide ((200:Int)<(i64.wrap (aZ.vC+aY.vC)))) (some ((⟨(0:Int),(0:Int),([]:List ak)⟩:aq),(2:Int))) (bnd (jC aZ.vR (i64.wrap (aZ.vC+aY.vC)) aZ aY) fun x7=>some (x7.1,x7.2)))
theorem Bn {aZ:aq}{aY:aq}{r:aq×Int}(h:iA aZ aY=some r):ar prog 51 [dG aG aZ,dG aG aY] (.tu [dG aG r.1,dI .i64 r.2]):=by
 refine bB (rs:=[.cell 4 24,.tmp 5]) (fun cx hx h0=>?_) func51
 unfold iA at h
 refine rs hx fun K hK=>?_
 refine s1 (d:=.pt 0 0) jb ?_
 refine s1 (d:=.pt 1 0) jb ?_
 refine s1 (d:=.pt 2 0) (cc ay) ?_
 refine nbr hK ?_
 refine AW.seq (AW.block (AW.seq ?_))
 obtain⟨i4,hy,h⟩:=ai h
 refine jn ((PE cx .normal (fun i4=>[(2,.pt 0 0),(3,.pt 1 0),(4,.pt 2 0),(6,dB i4)]) fun i4=>⟨[(0,[dI .i64 aZ.vR,dI .i64 aZ.vC,dL aj aZ.vV]),(1,[dI .i64 aY.vR,dI .i64 aY.vC,dL aj aY.vV]),(2,[dI .i64 (0:Int),dI .i64 (0:Int),dN])],[],3⟩) i4) ?_ ?_
 replace h:=hy
 refine rq hx fun K hK=>?_
 refine s1 (d:=dG aG aZ) (cF ay) ?_
 refine s1 (d:=dG aG aY) (cF ay) ?_
 refine s1 (d:=dO 3 aG [aZ,aY]) (oi rP ay) ?_
 refine scb h eR fun x1 h=>?_
 refine mbr ?_
 rcases bX h with⟨fT,h⟩|⟨fT,h⟩
 refine nbr hK ?_
 exact pe1 h h0 [0,1,2]
 refine nbr hK ?_
 exact pe1 h h0 [0,1,2]
 refine lw0 ?_
 refine cdh h rfl (fun v4 h=>?_) (fun v4 h=>?_)
 refine rs hx fun K hK=>?_
 refine s1 (d:=.ag [dI .i64 (0:Int),dI .i64 (0:Int),dN]) (cp ay) ?_
 refine s0 (eL (ds':=[dI .i64 (0:Int),dI .i64 (0:Int),dN]) ay) ?_
 refine nbr hK ?_
 refine AW.ret ?_
 cases h
 exact eu.mk2 (dQ (es:=[dI .i64 (0:Int),dI .i64 (0:Int),dN]) rfl ay rfl rfl (ltb rfl) (leb rfl) rfl (bI rfl (.inr ⟨_,_,(i7 (wc (ge _) (wc (ge _) (wc (vT rfl) wcn)))),(ao _),⟨rfl,rfl⟩,rfl⟩)))
 refine rar hx ?_
 refine cdh h rfl (fun pJ h=>?_) (fun pJ h=>?_)
 refine rs hx fun K hK=>?_
 refine s1 (d:=.ag [dI .i64 (0:Int),dI .i64 (0:Int),dN]) (cp ay) ?_
 refine s0 (eL (ds':=[dI .i64 (0:Int),dI .i64 (0:Int),dN]) ay) ?_
 refine nbr hK ?_
 refine AW.ret ?_
 cases h
 exact eu.mk2 (dQ (es:=[dI .i64 (0:Int),dI .i64 (0:Int),dN]) rfl ay rfl rfl (ltb rfl) (leb rfl) rfl (bI rfl (.inr ⟨_,_,(i7 (wc (ge _) (wc (ge _) (wc (vT rfl) wcn)))),(ao _),⟨rfl,rfl⟩,rfl⟩)))
 refine AW.skip (rs hx fun K hK=>?_)
 iterate 7 refine sbr ?_
 refine s1 wy ?_
 obtain⟨x7,L2,h⟩:=ai h
 refine s1 (BZ [0,1] rfl (zc L2) (fA (ao _) (fA (ao _) (fA (ao _) fAn))) (vR rfl (vR rfl wVn)) wLn) ?_
 iterate 2 refine sa ?_
 refine s0 (eL (ds':=[dI .i64 x7.1.vR,dI .i64 x7.1.vC,dL aj x7.1.vV]) ay) ?_
 refine nbr hK ?_
 refine AW.ret ?_
 cases h
 exact eu.mk2 (dQ (es:=(aG.f x7.1).map .e) rfl ay rfl rfl (ltb rfl) (leb rfl) rfl (bI rfl (.inr ⟨_,_,(ao _),(ao _),⟨rfl,rfl⟩,rfl⟩)))
def ej(bg:cY):(List Int)×Int→Option (((List Int)×Int)⊕((List Int))):=fun (aE,aM)=>cnd (decide (aM<((bg.vl).length:Int))) (gd (0≤aM∧aM<((bg.vl).length:Int)) (gd ((aE++[((bg.vl)[(aM).toNat]!).vcol]).length*8≤140737488355328) (some (.inl (aE++[((bg.vl)[(aM).toNat]!).vcol],i64.wrap (aM+(1:Int))))))) (some (.inr aE))
def bV(bg:cY):Option (List Int):=bnd (aL (ej bg) (([]:List Int),(0:Int))) fun aA=>some aA
theorem kK {bg:cY}{r:List Int}(h:bV bg=some r):ar prog 64 [dG qo bg] (.own 3 (cI .i64).sz r.length (r.flatMap (cI .i64).f)):=by
 refine bB (rs:=[.tmp 2]) (fun cx hx h0=>?_) func64
 unfold bV at h
 refine rs hx fun K hK=>?_
 refine s1 (d:=.pt 0 0) jb ?_
 refine s1 (d:=dO 1 (cI .i64) ([]:List Int)) (d8 eO dJ) ?_
 refine nl hK ?_
 refine rs hx fun K hK=>?_
 refine s1 (d:=dO 2 (cI .i64) ([]:List Int)) (d8 eO dJ) ?_
 refine nl hK ?_
 refine AW.seq (rar hx ?_)
 refine AW.block ?_
 obtain⟨aA,hy,h⟩:=ai h
 refine lp (S:=(List Int)×Int) (X:=(List Int)) (fun (aE,aM)=>[(3,dO 0 (cI .i64) aE),(7,dL bJ bg.vl),(8,dI .i64 ((bg.vl).length:Int)),(9,dI .i64 aM)]) (fun (aE,aM)=>⟨[],[(0,(aE).length,1,3)],1⟩) (PE cx (.exit 0) (fun aA=>[(3,dO 0 (cI .i64) aA)]) fun aA=>⟨[],[(0,(aA).length,1,3)],1⟩) hy ?_ ?_ ?_
 exact wk0 h0 [2]
 clear hy h
 rintro⟨aE,aM⟩ y h
 dsimp only[ej] at h
 refine ra hx ?_
 refine AW.seq (cdh h rfl (fun fy h=>?_) (fun fy h=>?_))
 refine AW.skip (AW.seq (AW.block (rs hx fun K hK=>?_)))
 obtain⟨ui,h⟩:=ax h
 have yq:(aM).toNat<(bg.vl).length:=by omega
 refine sbr ?_
 refine s1 (d:=dG bJ ((bg.vl)[(aM).toNat]!)) (rK (c:=bJ) (l:=bg.vl) (n:=(aM).toNat) (o:=0) nN yq (nH _ _ rfl)) ?_
 refine s1 (s9 (F:=bJ.f (⟨(0:Int),ij,false⟩:mQ)) nN) ?_
 refine nbr hK ?_
 refine rq hx fun K hK=>?_
 iterate 2 refine sa ?_
 refine s1 (tU (ET ((bg.vl)[(aM).toNat]!)) dJ) ?_
 refine s1 (d:=dO 2 (cI .i64) [((bg.vl)[(aM).toNat]!).vcol]) (oi eO dJ) ?_
 obtain⟨Qn,h⟩:=ax h
 refine s1 (d:=dO 0 (cI .i64) (aE++[((bg.vl)[(aM).toNat]!).vcol])) (ip eO dJ Qn) ?_
 refine nbr hK ?_
 refine rb hx ?_
 exact pel h h0 [0]
 exact AW.exit (per h h0 [0])
 refine lw0 ?_
 refine ra hx ?_
 refine AW.ret ?_
 cases h
 exact eu.own rfl rfl
def fe(dp:aq):Option (aq×(List Int)×Int):=bnd (bN [dp]) fun x1=>cnd (!x1) (some ((⟨(0:Int),(0:Int),([]:List ak)⟩:aq),([]:List Int),(1:Int))) (bnd (eD dp) fun x4=>cnd (decide (x4.2≠(0:Int))) (some ((⟨(0:Int),(0:Int),([]:List ak)⟩:aq),([]:List Int),x4.2)) (bnd (bV x4.1) fun x7=>some (x4.1.vm,x7,(0:Int))))
theorem Bl {dp:aq}{r:aq×(List Int)×Int}(h:fe dp=some r):ar prog 13 [dG aG dp] (.tu [dG aG r.1,dL (cI .i64) r.2.1,dI .i64 r.2.2]):=by
 refine bB (rs:=[.cell 2 24,.tmp 3,.tmp 4]) (fun cx hx h0=>?_) func13
 unfold fe at h
 refine rs hx fun K hK=>?_
 refine s1 (d:=.pt 0 0) jb ?_
 refine s1 (d:=.pt 1 0) (cc ay) ?_
 refine s1 (d:=dO 2 (cI .i64) ([]:List Int)) (d8 eO dJ) ?_
 refine nbr hK ?_
 refine AW.seq (rs hx fun K hK=>?_)
 refine s1 (d:=dG aG dp) (cF ay) ?_
 refine s1 (d:=dO 3 aG [dp]) (oi rP ay) ?_
 refine scb h eR fun x1 h=>?_
 refine nbr hK ?_
 refine cdh h rfl (fun fT h=>?_) (fun fT h=>?_)
 refine rs hx fun K hK=>?_
 refine s1 (d:=.ag [dI .i64 (0:Int),dI .i64 (0:Int),dN]) (cp ay) ?_
 refine s0 (eL (ds':=[dI .i64 (0:Int),dI .i64 (0:Int),dN]) ay) ?_
 refine s1 (d:=dO 4 (cI .i64) ([]:List Int)) (d8 eO dJ) ?_
 refine nbr hK ?_
 refine AW.ret ?_
 cases h
 exact eu.mk3 (dQ (es:=[dI .i64 (0:Int),dI .i64 (0:Int),dN]) rfl ay rfl rfl (ltb rfl) (leb rfl) rfl (bI rfl (bI rfl (.inr ⟨_,_,_,(i7 (wc (ge _) (wc (ge _) (wc (vT rfl) wcn)))),(pV _),(ao _),⟨rfl,rfl,rfl⟩,rfl⟩))))
 refine AW.skip (rs hx fun K hK=>?_)
 refine s1 (d:=dG aG dp) (cF ay) ?_
 refine scb h mL fun x4 h=>?_
 iterate 3 refine sa ?_
 refine s1 (d:=.pt 4 0) (cc kb) ?_
 refine s0 (eL (ds':=[dI .i64 x4.1.vm.vR,dI .i64 x4.1.vm.vC,dL aj x4.1.vm.vV,dL bJ x4.1.vl]) kb) ?_
 refine nbr hK ?_
 refine AW.seq (ra hx ?_)
 refine cdh h rfl (fun pJ h=>?_) (fun pJ h=>?_)
 refine rs hx fun K hK=>?_
 refine s1 (d:=.ag [dI .i64 (0:Int),dI .i64 (0:Int),dN]) (cp ay) ?_
 refine sa ?_
 refine s0 (eL (ds':=[dI .i64 (0:Int),dI .i64 (0:Int),dN]) ay) ?_
 refine s1 (d:=dO 5 (cI .i64) ([]:List Int)) (d8 eO dJ) ?_
 refine nbr hK ?_
 refine AW.ret ?_
 cases h
 exact eu.mk3 (dQ (es:=[dI .i64 (0:Int),dI .i64 (0:Int),dN]) rfl ay rfl rfl (ltb rfl) (leb rfl) rfl (bI rfl (bI rfl (.inr ⟨_,_,_,(i7 (wc (ge _) (wc (ge _) (wc (vT rfl) wcn)))),(pV _),(ao _),⟨rfl,rfl,rfl⟩,rfl⟩))))
 refine AW.skip (rsd [] hx fun K hK=>?_)
 refine sa ?_
 refine s1 (d:=dG aG x4.1.vm) (cF ay) ?_
 refine s1 (d:=dG qo x4.1) (cF kb) ?_
 obtain⟨x7,L2,h⟩:=ai h
 refine s1 (yV rfl (kK L2) (by simp only[gZ,pN,jL,oF,iY,c8];exact gW _ _) (lA (ao _) lAn)) ?_
 refine s0 (eL (ds':=[dI .i64 x4.1.vm.vR,dI .i64 x4.1.vm.vC,dL aj x4.1.vm.vV]) ay) ?_
 refine nbr hK ?_
 refine AW.ret ?_
 cases h
 exact eu.mk3 (dQ (es:=(aG.f x4.1.vm).map .e) rfl ay rfl rfl (ltb rfl) (leb rfl) rfl (bI rfl (bI rfl (.inr ⟨_,_,_,(ao _),(pV _),(ao _),⟨rfl,rfl,rfl⟩,rfl⟩))))
def jH(x8:cY×Int):Int×Int→Option ((Int×Int)⊕Int):=fun (qX,rI)=>cnd (decide (rI<((x8.1.vl).length:Int))) (bnd (S:=Int) (gd (0≤rI∧rI<((x8.1.vl).length:Int)) (cnd (((x8.1.vl)[(rI).toNat]!).vmoved) (some (i64.wrap (0 - qX))) (some (qX)))) fun Gm=>some (.inl (Gm,i64.wrap (rI+(1:Int))))) (some (.inr qX))
def jG(x8:cY×Int):Int×ak→Option ((Int×ak)⊕ak):=fun (s4,Gj)=>cnd (decide (s4<((x8.1.vl).length:Int))) (gd (0≤s4∧s4<((x8.1.vl).length:Int)) (bnd (ee Gj (((x8.1.vl)[(s4).toNat]!).vby)) fun B0=>some (.inl (i64.wrap (s4+(1:Int)),B0)))) (some (.inr Gj))
def j3(dp:aq):Option (ak×Int):=bnd (S:=Bool) (bnd (bN [dp]) fun x1=>cnd (!x1) (some (true)) (some (decide (dp.vR≠dp.vC)))) fun bG=>cnd bG (bnd (some ((⟨(⟨false,false,(cy)⟩:ap),(⟨false,false,(cy)⟩:ap)⟩:ak))) fun x6=>some (x6,(1:Int))) (bnd (eD dp) fun x8=>cnd (decide (x8.2≠(0:Int))) (bnd (some ((⟨(⟨false,false,(cy)⟩:ap),(⟨false,false,(cy)⟩:ap)⟩:ak))) fun vQ=>some (vQ,x8.2)) (cnd (decide (((x8.1.vl).length:Int)<dp.vR)) (bnd (d7 (0:Int)) fun ud=>some (ud,(0:Int))) (bnd (aL (jH x8) ((1:Int),(0:Int))) fun yP=>bnd (d7 yP) fun Bg=>bnd (aL (jG x8) ((0:Int),Bg)) fun vy=>bnd (bq vy) fun Nz=>cnd (!Nz) (bnd (some ((⟨(⟨false,false,(cy)⟩:ap),(⟨false,false,(cy)⟩:ap)⟩:ak))) fun Ld=>some (Ld,(30:Int))) (some (vy,(0:Int))))))
theorem xG {dp:aq}{r:ak×Int}(h:j3 dp=some r):ar prog 16 [dG aG dp] (.tu [dG aj r.1,dI .i64 r.2]):=by
 refine bB (rs:=[.cell 2 34,.tmp 3]) (fun cx hx h0=>?_) func16
 unfold j3 at h
 refine rs hx fun K hK=>?_
 refine s1 (d:=.pt 0 0) jb ?_
 refine nbr hK ?_
 iterate 2 refine AW.seq ?_
 obtain⟨bG,hy,h⟩:=ai h
 refine jn ((PE cx .normal (fun bG=>[(1,.pt 0 0),(2,.pt 1 0),(22,dB bG)]) fun bG=>⟨[(0,[dI .i64 dp.vR,dI .i64 dp.vC,dL aj dp.vV]),(1,dC (aj.f ij))],[],2⟩) bG) ?_ ?_
 replace h:=hy
 refine rq hx fun K hK=>?_
 refine s1 (d:=dG aG dp) (cF ay) ?_
 refine s1 (d:=dO 2 aG [dp]) (oi rP ay) ?_
 refine scb h eR fun x1 h=>?_
 refine mbr ?_
 rcases bX h with⟨fT,h⟩|⟨fT,h⟩
 refine nbr hK ?_
 exact pe1 h h0 [0,1]
 refine nbr hK ?_
 exact pe1 h h0 [0,1]
 refine lw0 ?_
 refine cdh h rfl (fun v4 h=>?_) (fun v4 h=>?_)
 refine rs hx fun K hK=>?_
 refine s1 (d:=dG aj ij) (jO (FL.nil _) aR) ?_
 obtain⟨x6,ug,h⟩:=ai h
 replace ug:=bZ ug
 refine s0 (j9 (b':=ij) (a8.id _ _) aR ug) ?_
 refine nbr hK ?_
 refine AW.ret ?_
 cases h
 exact rv2
 refine AW.skip (rs hx fun K hK=>?_)
 refine s1 (d:=dG aG dp) (cF ay) ?_
 refine scb h mL fun x8 h=>?_
 iterate 3 refine sa ?_
 refine s1 (d:=.pt 2 0) (cc kb) ?_
 refine s0 (eL (ds':=[dI .i64 x8.1.vm.vR,dI .i64 x8.1.vm.vC,dL aj x8.1.vm.vV,dL bJ x8.1.vl]) kb) ?_
 refine nbr hK ?_
 refine AW.seq (AW.block (ra hx ?_))
 refine cdh h rfl (fun ke h=>?_) (fun ke h=>?_)
 refine rs hx fun K hK=>?_
 refine s1 (d:=dG aj ij) (jO (FL.nil _) aR) ?_
 refine sa ?_
 obtain⟨vQ,hx12,h⟩:=ai h
 replace hx12:=bZ hx12
 refine s0 (j9 (b':=ij) (a8.id _ _) aR hx12) ?_
 refine nbr hK ?_
 refine AW.ret ?_
 cases h
 exact rv2
 refine rar hx ?_
 refine cdh h rfl (fun hb13 h=>?_) (fun hb13 h=>?_)
 refine rs hx fun K hK=>?_
 refine scb h jU fun ud h=>?_
 refine nbr hK ?_
 refine AW.ret ?_
 cases h
 exact rv2
 refine AW.skip (ra hx ?_)
 refine AW.seq (rar hx ?_)
 refine AW.block ?_
 obtain⟨yP,hy,h⟩:=ai h
 refine lp (S:=Int×Int) (X:=Int) (fun (qX,rI)=>[(2,.pt 0 0),(4,.pt 1 0),(6,dI .i64 qX),(43,dL bJ x8.1.vl),(44,dI .i64 ((x8.1.vl).length:Int)),(45,dI .i64 rI)]) (fun (qX,rI)=>⟨[(0,dC (aj.f ij)),(1,[dI .i64 x8.1.vm.vR,dI .i64 x8.1.vm.vC,dL aj x8.1.vm.vV,dL bJ x8.1.vl])],[],2⟩) (PE cx (.exit 1) (fun yP=>[(2,.pt 0 0),(4,.pt 1 0),(6,dI .i64 yP)]) fun yP=>⟨[(0,dC (aj.f ij)),(1,[dI .i64 x8.1.vm.vR,dI .i64 x8.1.vm.vC,dL aj x8.1.vm.vV,dL bJ x8.1.vl])],[],2⟩) hy ?_ ?_ ?_
 exact wk0 h0 [1,2]
 clear hy h
 rintro⟨qX,rI⟩ y h
 dsimp only[jH] at h
 refine ra hx ?_
 refine AW.seq (cdh h rfl (fun Mq h=>?_) (fun Mq h=>?_))
 refine AW.skip (AW.seq ?_)
 obtain⟨Gm,hy,h⟩:=ai h
 refine jn ((PE cx .normal (fun Gm=>[(2,.pt 0 0),(4,.pt 1 0),(6,dI .i64 Gm),(43,dL bJ x8.1.vl),(44,dI .i64 ((x8.1.vl).length:Int)),(45,dI .i64 rI)]) fun Gm=>⟨[(0,dC (aj.f ij)),(1,[dI .i64 x8.1.vm.vR,dI .i64 x8.1.vm.vC,dL aj x8.1.vm.vV,dL bJ x8.1.vl])],[],2⟩) Gm) ?_ ?_
 replace h:=hy
 refine AW.block (rs hx fun K hK=>?_)
 obtain⟨hc17,h⟩:=ax h
 have hn18:(rI).toNat<(x8.1.vl).length:=by omega
 refine sbr ?_
 refine s1 (d:=dG bJ ((x8.1.vl)[(rI).toNat]!)) (rK (c:=bJ) (l:=x8.1.vl) (n:=(rI).toNat) (o:=0) nN hn18 (nH _ _ rfl)) ?_
 refine s1 (s9 (F:=bJ.f (⟨(0:Int),ij,false⟩:mQ)) nN) ?_
 refine nbr hK ?_
 refine rs hx fun K hK=>?_
 refine sa ?_
 refine s1 (tU (Bq ((x8.1.vl)[(rI).toNat]!)) sC) ?_
 refine nl hK ?_
 refine cdh h rfl (fun Th h=>?_) (fun Th h=>?_)
 refine rb hx ?_
 exact pe1 h h0 [0,1]
 exact AW.skip (pe1 h h0 [0,1])
 refine lw0 ?_
 refine rb hx ?_
 exact pel h h0 [0,1]
 exact AW.exit (per h h0 [0,1])
 refine lw0 ?_
 refine rs hx fun K hK=>?_
 refine sa ?_
 refine scb h jU fun Bg h=>?_
 refine nbr hK ?_
 refine AW.seq (rar hx ?_)
 refine AW.block ?_
 obtain⟨vy,hy,h⟩:=ai h
 refine lp (S:=Int×ak) (X:=ak) (fun (s4,Gj)=>[(2,.pt 0 0),(9,.pt 1 0),(57,dL bJ x8.1.vl),(58,dI .i64 ((x8.1.vl).length:Int)),(59,dI .i64 s4)]) (fun (s4,Gj)=>⟨[(0,dC (aj.f ij)),(1,dC (aj.f Gj))],[],2⟩) (PE cx (.exit 3) (fun vy=>[(2,.pt 0 0),(9,.pt 1 0)]) fun vy=>⟨[(0,dC (aj.f ij)),(1,dC (aj.f vy))],[],2⟩) hy ?_ ?_ ?_
 exact wk0 h0 [0,2]
 clear hy h
 rintro⟨s4,Gj⟩ y h
 dsimp only[jG] at h
 refine ra hx ?_
 refine AW.seq (cdh h rfl (fun Mp h=>?_) (fun Mp h=>?_))
 refine AW.skip (AW.seq (AW.block (rs hx fun K hK=>?_)))
 obtain⟨hc25,h⟩:=ax h
 have SX:(s4).toNat<(x8.1.vl).length:=by omega
 refine sbr ?_
 refine s1 (d:=dG bJ ((x8.1.vl)[(s4).toNat]!)) (rK (c:=bJ) (l:=x8.1.vl) (n:=(s4).toNat) (o:=0) nN SX (nH _ _ rfl)) ?_
 refine s1 (s9 (F:=bJ.f (⟨(0:Int),ij,false⟩:mQ)) nN) ?_
 refine nbr hK ?_
 refine rq hx fun K hK=>?_
 iterate 2 refine sbr ?_
 refine s1 (wz (Hj ((x8.1.vl)[(s4).toNat]!)) aR) ?_
 refine scb h nb fun B0 h=>?_
 refine nbr hK ?_
 refine rb hx ?_
 exact pel h h0 [0,1]
 exact AW.exit (per h h0 [0,1])
 refine lw0 ?_
 refine AW.seq (rs hx fun K hK=>?_)
 refine mbr ?_
 refine scb h ez fun Nz h=>?_
 refine nbr hK ?_
 refine cdh h rfl (fun hb32 h=>?_) (fun hb32 h=>?_)
 refine rs hx fun K hK=>?_
 refine s1 (d:=dG aj ij) (jO (FL.nil _) aR) ?_
 obtain⟨Ld,L4,h⟩:=ai h
 replace L4:=bZ L4
 refine s0 (j9 (b':=ij) (a8.id _ _) aR L4) ?_
 refine nbr hK ?_
 refine AW.ret ?_
 cases h
 exact rv2
 refine AW.skip (rar hx ?_)
 refine AW.ret ?_
 cases h
 exact rv2
def dZ(oL:List Int)(jc:Int):Int→Option (Int⊕(Int⊕Unit)):=fun aJ=>cnd (decide (aJ<((oL).length:Int))) (gd (0≤aJ∧aJ<((oL).length:Int)) (cnd (decide (jc=((oL)[(aJ).toNat]!))) (some (.inr (.inl aJ))) (some (.inl (i64.wrap (aJ+(1:Int))))))) (some (.inr (.inr ())))
def gF(oL:List Int)(jc:Int):Option Int:=bnd (aL (dZ oL jc) (0:Int)) fun y5=>match y5 with| .inl r=>some r| .inr ()=>some (-1:Int)
theorem th {oL:List Int}{jc:Int}{r:Int}(h:gF oL jc=some r):ar prog 121 [dL (cI .i64) oL,dI .i64 jc] (dI .i64 r):=by
 refine bB (rs:=[.tmp 4]) (fun cx hx h0=>?_) func121
 unfold gF at h
 refine ra hx ?_
 refine AW.seq (ra hx ?_)
 refine AW.block ?_
 obtain⟨y,hy,h⟩:=ai h
 refine lp (S:=Int) (X:=Int⊕Unit) (fun aJ=>[(0,dL (cI .i64) oL),(1,dI .i64 jc),(7,dI .i64 ((oL).length:Int)),(8,dI .i64 aJ)]) (fun aJ=>⟨[],[],0⟩) (PS (PR [.tmp 4] fun r=>dI .i64 r) (PE cx (.exit 0) (fun ()=>[]) fun ()=>⟨[],[],0⟩)) hy ?_ ?_ ?_
 exact wk0 h0 []
 clear hy h
 rintro aJ y h
 dsimp only[dZ] at h
 refine ra hx ?_
 refine AW.seq (cdh h rfl (fun fy h=>?_) (fun fy h=>?_))
 refine AW.skip (AW.seq (AW.block (ra hx ?_)))
 refine rs hx fun K hK=>?_
 iterate 3 refine sa ?_
 obtain⟨ui,h⟩:=ax h
 have yq:(aJ).toNat<(oL).length:=by omega
 refine sbr ?_
 refine s1 (s7 (c:=(cI .i64)) (l:=oL) (n:=(aJ).toNat) (o:=0) dJ yq) ?_
 refine nbr hK ?_
 refine cdh h rfl (fun z5 h=>?_) (fun z5 h=>?_)
 refine ra hx ?_
 refine AW.ret ?_
 cases h
 refine PS.r ⟨by nofun,PS.l (PR.i ?_)⟩
 exact rv1
 refine AW.skip (rb hx ?_)
 exact pel h h0 []
 exact AW.exit (peq h h0 [])
 rcases y with r|⟨⟩
 rintro ex tm' hp' ⟨rfl,hw⟩
 cases h
 exact hw
 refine lwr ?_
 refine ra hx ?_
 exact AW.ret (rtv h)
def cH(oL:List Int)(jc:Int):Option Bool:=bnd (gF oL jc) fun x1=>some (decide ((0:Int)≤x1))
theorem mj {oL:List Int}{jc:Int}{r:Bool}(h:cH oL jc=some r):ar prog 76 [dL (cI .i64) oL,dI .i64 jc] (dB r):=by
 refine bB (rs:=[.tmp 4]) (fun cx hx h0=>?_) func76
 unfold cH at h
 refine ra hx ?_
 refine rs hx fun K hK=>?_
 refine mbr ?_
 refine scb h th fun x1 h=>?_
 refine nbr hK ?_
 exact AW.ret (rtv h)
def fF(aZ:aq)(mA:cY×Int):(List ak)×Int→Option (((List ak)×Int)⊕((List ak))):=fun (yL,D3)=>cnd (decide (D3<((mA.1.vl).length:Int))) (bnd (b8 mA.1.vm D3 aZ.vC) fun Bg=>gd ((yL++[Bg]).length*136≤140737488355328) (some (.inl (yL++[Bg],i64.wrap (D3+(1:Int)))))) (some (.inr yL))
def fP(aZ:aq)(aY:List ak):Option ((List ak)×Int):=bnd (S:=Bool) (bnd (bN [aZ]) fun x1=>cnd (!x1) (some (true)) (cnd (decide (((aY).length:Int)≠aZ.vR)) (some (true)) (bnd (cX aY) fun x5=>some (!x5)))) fun bG=>cnd bG (some (([]:List ak),(1:Int))) (bnd (iA aZ (⟨aZ.vR,(1:Int),aY⟩:aq)) fun x9=>cnd (decide (x9.2≠(0:Int))) (some (([]:List ak),x9.2)) (bnd (eD x9.1) fun mA=>cnd (decide (mA.2≠(0:Int))) (some (([]:List ak),mA.2)) (bnd (bV mA.1) fun xw=>bnd (cH xw aZ.vC) fun rh=>cnd rh (some (([]:List ak),(200:Int))) (cnd (decide (((mA.1.vl).length:Int)<aZ.vC)) (some (([]:List ak),(70:Int))) (bnd (aL (fF aZ mA) (([]:List ak),(0:Int))) fun vz=>some (vz,(0:Int)))))))
theorem Ca {aZ:aq}{aY:List ak}{r:(List ak)×Int}(h:fP aZ aY=some r):ar prog 29 [dG aG aZ,dL aj aY] (.tu [dL aj r.1,dI .i64 r.2]):=by
 refine bB (rs:=[.tmp 4,.tmp 5]) (fun cx hx h0=>?_) func29
 unfold fP at h
 refine rs hx fun K hK=>?_
 refine s1 (d:=.pt 0 0) jb ?_
 refine s1 (d:=dO 1 aj ([]:List ak)) (d8 aW aR) ?_
 refine nbr hK ?_
 iterate 2 refine AW.seq ?_
 obtain⟨bG,hy,h⟩:=ai h
 refine jn ((PE cx .normal (fun bG=>[(1,dL aj aY),(2,.pt 0 0),(26,dB bG)]) fun bG=>⟨[(0,[dI .i64 aZ.vR,dI .i64 aZ.vC,dL aj aZ.vV])],[],1⟩) bG) ?_ ?_
 replace h:=hy
 refine rq hx fun K hK=>?_
 refine s1 (d:=dG aG aZ) (cF ay) ?_
 refine s1 (d:=dO 2 aG [aZ]) (oi rP ay) ?_
 refine scb h eR fun x1 h=>?_
 refine mbr ?_
 rcases bX h with⟨fT,h⟩|⟨fT,h⟩
 refine nbr hK ?_
 exact pe1 h h0 [0]
 refine mbr ?_
 rcases bX h with⟨z5,h⟩|⟨z5,h⟩
 refine nbr hK ?_
 exact pe1 h h0 [0]
 refine ga z5 ?_
 refine gcb h gJ fun x5 h=>?_
 refine nbr hK ?_
 exact pe1 h h0 [0]
 refine lw0 ?_
 refine cdh h rfl (fun E8 h=>?_) (fun E8 h=>?_)
 refine rs hx fun K hK=>?_
 refine s1 (d:=dO 1 aj ([]:List ak)) (d8 aW aR) ?_
 refine nbr hK ?_
 refine AW.ret ?_
 cases h
 exact eu.mk2 (bI rfl (bI rfl (.inr ⟨_,_,(pV _),(ao _),⟨rfl,rfl⟩,rfl⟩)))
 refine AW.skip (rs hx fun K hK=>?_)
 refine s1 (d:=dG aG aZ) (cF ay) ?_
 iterate 3 refine sbr ?_
 refine s1 (d:=dG aG (⟨aZ.vR,(1:Int),aY⟩:aq)) (cp ay) ?_
 refine scb h Bn fun x9 h=>?_
 iterate 3 refine sa ?_
 refine s1 (d:=.pt 1 0) (cc ay) ?_
 refine s0 (eL (ds':=[dI .i64 x9.1.vR,dI .i64 x9.1.vC,dL aj x9.1.vV]) ay) ?_
 refine nbr hK ?_
 refine AW.seq (ra hx ?_)
 refine cdh h rfl (fun Tk h=>?_) (fun Tk h=>?_)
 refine rs hx fun K hK=>?_
 refine sa ?_
 refine s1 (d:=dO 2 aj ([]:List ak)) (d8 aW aR) ?_
 refine nbr hK ?_
 refine AW.ret ?_
 cases h
 exact eu.mk2 (bI rfl (bI rfl (.inr ⟨_,_,(pV _),(ao _),⟨rfl,rfl⟩,rfl⟩)))
 refine AW.skip (rs hx fun K hK=>?_)
 refine s1 (d:=dG aG x9.1) (cF ay) ?_
 refine scb h mL fun mA h=>?_
 iterate 3 refine sa ?_
 refine s1 (d:=.pt 2 0) (cc kb) ?_
 refine s0 (eL (ds':=[dI .i64 mA.1.vm.vR,dI .i64 mA.1.vm.vC,dL aj mA.1.vm.vV,dL bJ mA.1.vl]) kb) ?_
 refine nbr hK ?_
 refine AW.seq (AW.block (ra hx ?_))
 refine cdh h rfl (fun z6 h=>?_) (fun z6 h=>?_)
 refine rs hx fun K hK=>?_
 refine sa ?_
 refine s1 (d:=dO 3 aj ([]:List ak)) (d8 aW aR) ?_
 refine nbr hK ?_
 refine AW.ret ?_
 cases h
 exact eu.mk2 (bI rfl (bI rfl (.inr ⟨_,_,(pV _),(ao _),⟨rfl,rfl⟩,rfl⟩)))
 refine rsd [76] hx fun K hK=>?_
 refine s1 (d:=dG qo mA.1) (cF kb) ?_
 obtain⟨xw,hx16,h⟩:=ai h
 refine s1 (yV rfl (kK hx16) (by simp only[gZ,pN,jL,oF,iY,c8];exact gW _ _) (lA (ao _) lAn)) ?_
 refine mbr ?_
 refine cqb h mj fun rh h=>?_
 refine nbr hK ?_
 refine cdh h rfl (fun Th h=>?_) (fun Th h=>?_)
 refine rs hx fun K hK=>?_
 refine s1 (d:=dO 4 aj ([]:List ak)) (d8 aW aR) ?_
 refine nbr hK ?_
 refine AW.ret ?_
 cases h
 exact eu.mk2 (bI rfl (bI rfl (.inr ⟨_,_,(pV _),(ao _),⟨rfl,rfl⟩,rfl⟩)))
 refine rar hx ?_
 refine cdh h rfl (fun wX h=>?_) (fun wX h=>?_)
 refine rs hx fun K hK=>?_
 refine s1 (d:=dO 4 aj ([]:List ak)) (d8 aW aR) ?_
 refine nbr hK ?_
 refine AW.ret ?_
 cases h
 exact eu.mk2 (bI rfl (bI rfl (.inr ⟨_,_,(pV _),(ao _),⟨rfl,rfl⟩,rfl⟩)))
 refine AW.skip (rs hx fun K hK=>?_)
 refine s1 (d:=dO 4 aj ([]:List ak)) (d8 aW aR) ?_
 refine nl hK ?_
 refine AW.seq (rar hx ?_)
 refine AW.block ?_
 obtain⟨vz,hy,h⟩:=ai h
 refine lp (S:=(List ak)×Int) (X:=(List ak)) (fun (yL,D3)=>[(2,.pt 0 0),(8,.pt 1 0),(9,dO 2 aj yL),(63,dI .i64 ((mA.1.vl).length:Int)),(64,dI .i64 D3)]) (fun (yL,D3)=>⟨[(0,[dI .i64 aZ.vR,dI .i64 aZ.vC,dL aj aZ.vV]),(1,[dI .i64 mA.1.vm.vR,dI .i64 mA.1.vm.vC,dL aj mA.1.vm.vV,dL bJ mA.1.vl])],[(2,(yL).length,36,34)],3⟩) (PE cx (.exit 1) (fun vz=>[(9,dO 0 aj vz)]) fun vz=>⟨[],[(0,(vz).length,36,34)],1⟩) hy ?_ ?_ ?_
 exact wk0 h0 [0,2,4]
 clear hy h
 rintro⟨yL,D3⟩ y h
 dsimp only[fF] at h
 refine ra hx ?_
 refine AW.seq (cdh h rfl (fun HM h=>?_) (fun HM h=>?_))
 refine AW.skip (AW.seq (AW.block (ra hx ?_)))
 refine rq hx fun K hK=>?_
 iterate 2 refine sa ?_
 refine s1 (d:=dG aG mA.1.vm) (cF ay) ?_
 refine mbr ?_
 refine scb h d9 fun Bg h=>?_
 refine s1 (pP ([Bg]:List ak) aj aW aR) ?_
 obtain⟨hc24,h⟩:=ax h
 refine s1 (d:=dO 2 aj (yL++[Bg])) (ip aW aR hc24) ?_
 refine nbr hK ?_
 refine rb hx ?_
 exact pel h h0 [0,1,2]
 exact AW.exit (per h h0 [2])
 refine lw0 ?_
 refine ra hx ?_
 refine AW.ret ?_
 cases h
 exact eu.mk2 (bI rfl (bI rfl (.inr ⟨_,_,(pV _),(ao _),⟨rfl,rfl⟩,rfl⟩)))
def lP(qi:Int)(jX:Int)(bQ:cY)(dK:aq):Option ak:=bnd (b8 bQ.vm qi (i64.wrap (dK.vR+jX))) fun x1=>some x1
def lO(bw:Int)(bQ:cY)(dK:aq)(aE:Int):Int×(List ak)→Option ((Int×(List ak))⊕((List ak))):=fun (bS,aV)=>cnd (decide (bS<bw)) (bnd (lP aE bS bQ dK) fun x3=>gd ((aV++[x3]).length*136≤140737488355328) (some (.inl (i64.wrap (bS+(1:Int)),aV++[x3])))) (some (.inr aV))
def ms(bT:Int)(bw:Int)(bQ:cY)(dK:aq):Int×(List ak)→Option ((Int×(List ak))⊕((List ak))):=fun (aE,aM)=>cnd (decide (aE<bT)) (bnd (aL (lO bw bQ dK aE) ((0:Int),aM)) fun bz=>some (.inl (i64.wrap (aE+(1:Int)),bz))) (some (.inr aM))
def ma(bT:Int)(bw:Int)(bQ:cY)(dK:aq):Option (aq×Int):=bnd (aL (ms bT bw bQ dK) ((0:Int),([]:List ak))) fun aA=>bnd (cX aA) fun x8=>cnd (!x8) (some ((⟨(0:Int),(0:Int),([]:List ak)⟩:aq),(30:Int))) (some ((⟨bT,bw,aA⟩:aq),(0:Int)))
def iW(vQ:cY×Int):Int→Option (Int⊕((aq×Int)⊕Unit)):=fun Gp=>cnd (decide (Gp<((vQ.1.vl).length:Int))) (gd (0≤Gp∧Gp<((vQ.1.vl).length:Int)) (cnd (decide ((((vQ.1.vl)[(Gp).toNat]!).vcol)≠Gp)) (some (.inr (.inl ((⟨(0:Int),(0:Int),([]:List ak)⟩:aq),(70:Int))))) (some (.inl (i64.wrap (Gp+(1:Int))))))) (some (.inr (.inr ())))
def sO(dp:aq):Option (aq×Int):=bnd (S:=Bool) (bnd (bN [dp]) fun x1=>cnd (!x1) (some (true)) (some (decide (dp.vR≠dp.vC)))) fun bG=>cnd bG (some ((⟨(0:Int),(0:Int),([]:List ak)⟩:aq),(1:Int))) (bnd (eY dp.vR) fun x6=>bnd (iA dp x6) fun x8=>cnd (decide (x8.2≠(0:Int))) (some ((⟨(0:Int),(0:Int),([]:List ak)⟩:aq),x8.2)) (bnd (eD x8.1) fun vQ=>cnd (decide (vQ.2≠(0:Int))) (some ((⟨(0:Int),(0:Int),([]:List ak)⟩:aq),vQ.2)) (bnd (aL (iW vQ) (0:Int)) fun y18=>match y18 with| .inl r=>some r| .inr ()=>bnd (ma dp.vR dp.vR vQ.1 dp) fun Q7=>some (Q7.1,Q7.2))))
def iT(x4:cY×Int)(x7:List Int)(lW:Int)(xw:List ak):Int×(List ak)→Option ((Int×(List ak))⊕((List ak))):=fun (oe,wx)=>cnd (decide (oe<((x7).length:Int))) (bnd (S:=(List ak)) (gd (0≤oe∧oe<((x7).length:Int)) (cnd (decide (((x7)[(oe).toNat]!)<lW)) (bnd (b8 x4.1.vm oe lW) fun x25=>bnd (lN x25) fun B0=>gd (0≤(x7)[(oe).toNat]!∧(x7)[(oe).toNat]! <(((xw).length:Nat):Int)∧(x7)[(oe).toNat]! <((wx).length:Int)) (some ((wx).set (((x7)[(oe).toNat]!).toNat) B0))) (some (wx)))) fun Gi=>some (.inl (i64.wrap (oe+(1:Int)),Gi))) (some (.inr wx))
def iU(dp:aq)(x4:cY×Int)(x7:List Int):(List (List ak))×Int→Option (((List (List ak))×Int)⊕((List (List ak)))):=fun (gu,lW)=>cnd (decide (lW<dp.vC)) (bnd (S:=(List (List ak))) (bnd (cH x7 lW) fun qp=>cnd qp (some (gu)) (bnd (d7 (0:Int)) fun yY=>bnd (gk [yY] dp.vC) fun xw=>bnd (d7 (1:Int)) fun rh=>gd (0≤lW∧lW<(((xw).length:Nat):Int)∧lW<((xw).length:Int)) (bnd (aL (iT x4 x7 lW xw) ((0:Int),(xw).set ((lW).toNat) rh)) fun qg=>gd ((xw).length=(qg).length) (gd ((gu++[qg]).length*24≤140737488355328) (some (gu++[qg])))))) fun D8=>some (.inl (D8,i64.wrap (lW+(1:Int))))) (some (.inr gu))
def gN(dp:aq):Option ((List (List ak))×Int):=bnd (bN [dp]) fun x1=>cnd (!x1) (some (([]:List (List ak)),(1:Int))) (bnd (eD dp) fun x4=>cnd (decide (x4.2≠(0:Int))) (some (([]:List (List ak)),x4.2)) (bnd (bV x4.1) fun x7=>bnd (aL (iU dp x4 x7) (([]:List (List ak)),(0:Int))) fun vH=>some (vH,(0:Int))))
theorem EJ {dp:aq}{r:(List (List ak))×Int}(h:gN dp=some r):ar prog 21 [dG aG dp] (.tu [dL (cL aj) r.1,dI .i64 r.2]):=by
 refine bB (rs:=[.tmp 2,.tmp 3]) (fun cx hx h0=>?_) func21
 unfold gN at h
 refine rs hx fun K hK=>?_
 refine s1 (d:=.pt 0 0) jb ?_
 refine s1 (d:=dO 1 (cL aj) ([]:List (List ak))) (d8 nM aW) ?_
 refine nbr hK ?_
 refine AW.seq (rs hx fun K hK=>?_)
 refine s1 (d:=dG aG dp) (cF ay) ?_
 refine s1 (d:=dO 2 aG [dp]) (oi rP ay) ?_
 refine scb h eR fun x1 h=>?_
 refine nbr hK ?_
 refine cdh h rfl (fun fT h=>?_) (fun fT h=>?_)
 refine rs hx fun K hK=>?_
 refine s1 (d:=dO 3 (cL aj) ([]:List (List ak))) (d8 nM aW) ?_
 refine nbr hK ?_
 refine AW.ret ?_
 cases h
 exact eu.mk2 (bI rfl (bI rfl (.inr ⟨_,_,(pV _),(ao _),⟨rfl,rfl⟩,rfl⟩)))
 refine AW.skip (rs hx fun K hK=>?_)
 refine s1 (d:=dG aG dp) (cF ay) ?_
 refine scb h mL fun x4 h=>?_
 iterate 3 refine sa ?_
 refine s1 (d:=.pt 3 0) (cc kb) ?_
 refine s0 (eL (ds':=[dI .i64 x4.1.vm.vR,dI .i64 x4.1.vm.vC,dL aj x4.1.vm.vV,dL bJ x4.1.vl]) kb) ?_
 refine nbr hK ?_
 refine AW.seq (ra hx ?_)
 refine cdh h rfl (fun pJ h=>?_) (fun pJ h=>?_)
 refine rs hx fun K hK=>?_
 refine sa ?_
 refine s1 (d:=dO 4 (cL aj) ([]:List (List ak))) (d8 nM aW) ?_
 refine nbr hK ?_
 refine AW.ret ?_
 cases h
 exact eu.mk2 (bI rfl (bI rfl (.inr ⟨_,_,(pV _),(ao _),⟨rfl,rfl⟩,rfl⟩)))
 refine AW.skip (rs hx fun K hK=>?_)
 refine s1 (d:=dG qo x4.1) (cF kb) ?_
 obtain⟨x7,L2,h⟩:=ai h
 refine s1 (yV rfl (kK L2) (by simp only[gZ,pN,jL,oF,iY,c8];exact gW _ _) (lA (ao _) lAn)) ?_
 refine nbr hK ?_
 refine rs hx fun K hK=>?_
 refine s1 (d:=dO 5 (cL aj) ([]:List (List ak))) (d8 nM aW) ?_
 refine nl hK ?_
 refine AW.seq (rar hx ?_)
 refine AW.block ?_
 obtain⟨vH,hy,h⟩:=ai h
 refine lp (S:=(List (List ak))×Int) (X:=(List (List ak))) (fun (gu,lW)=>[(1,.pt 0 0),(4,.pt 1 0),(6,dO 2 (cI .i64) x7),(7,dO 3 (cL aj) gu),(27,dI .i64 dp.vC),(28,dI .i64 lW)]) (fun (gu,lW)=>⟨[(0,[dI .i64 dp.vR,dI .i64 dp.vC,dL aj dp.vV]),(1,[dI .i64 x4.1.vm.vR,dI .i64 x4.1.vm.vC,dL aj x4.1.vm.vV,dL bJ x4.1.vl])],[(2,(x7).length,1,3),(3,(gu).length,1,22)],4⟩) (PE cx (.exit 0) (fun vH=>[(7,dO 0 (cL aj) vH)]) fun vH=>⟨[],[(0,(vH).length,1,22)],1⟩) hy ?_ ?_ ?_
 exact wk0 h0 [0,3,4,5]
 clear hy h
 rintro⟨gu,lW⟩ y h
 dsimp only[iU] at h
 refine ra hx ?_
 refine AW.seq (cdh h rfl (fun hb9 h=>?_) (fun hb9 h=>?_))
 refine AW.skip (AW.seq ?_)
 obtain⟨D8,hy,h⟩:=ai h
 refine jn ((PE cx .normal (fun D8=>[(1,.pt 0 0),(4,.pt 1 0),(6,dO 2 (cI .i64) x7),(7,dO 3 (cL aj) D8),(27,dI .i64 dp.vC),(28,dI .i64 lW)]) fun D8=>⟨[(0,[dI .i64 dp.vR,dI .i64 dp.vC,dL aj dp.vV]),(1,[dI .i64 x4.1.vm.vR,dI .i64 x4.1.vm.vC,dL aj x4.1.vm.vV,dL bJ x4.1.vl])],[(2,(x7).length,1,3),(3,(D8).length,1,22)],4⟩) D8) ?_ ?_
 replace h:=hy
 refine AW.block (ra hx ?_)
 refine AW.seq (rs hx fun K hK=>?_)
 refine mbr ?_
 refine scb h mj fun qp h=>?_
 refine nl hK ?_
 refine cdh h rfl (fun Da h=>?_) (fun Da h=>?_)
 refine AW.exit ?_
 try dsimp only
 try simp only[fS,reduceIte,Nat.reduceEqDiff,reduceCtorEq]
 exact pe1 h h0 [0,1,2,3]
 refine AW.skip (rsd [60] hx fun K hK=>?_)
 refine cqb h jU fun yY h=>?_
 refine s1 (ka ([yY]:List ak) aj aW aR) ?_
 iterate 2 refine sbr ?_
 obtain⟨xw,hx16,h⟩:=ai h
 refine sC0 (d:=.ow 5 0 36 ((xw).length)) (hp':=⟨[(5,dC ((cW aj).f xw)),(0,[dI .i64 dp.vR,dI .i64 dp.vC,dL aj dp.vV]),(1,[dI .i64 x4.1.vm.vR,dI .i64 x4.1.vm.vC,dL aj x4.1.vm.vV,dL bJ x4.1.vl])],[(2,(x7).length,1,3),(3,(gu).length,1,22)],6⟩) (vS hx16) (ARs.cons (AR.le (pV _) rfl) (ARs.cons (AR.le (ao _) rfl) ARs.nil)) (yW.l _ _) ?_
 refine nbr hK ?_
 refine rs hx fun K hK=>?_
 refine mbr ?_
 refine scb h jU fun rh h=>?_
 obtain⟨hc19,h⟩:=ax h
 have hn20:(lW).toNat<(xw).length:=by omega
 refine s1 (yU ⟨hc19.1,hc19.2.1⟩ aW aR) ?_
 refine s0 (s6 (b':=rh) (a8.seqW aj xw ((lW).toNat) hn20) aR) ?_
 refine nl hK ?_
 refine AW.seq (ra hx ?_)
 refine AW.block ?_
 obtain⟨qg,hy,h⟩:=ai h
 refine lp (S:=Int×(List ak)) (X:=(List ak)) (fun (oe,wx)=>[(1,.pt 0 0),(4,.pt 1 0),(6,dO 2 (cI .i64) x7),(7,dO 3 (cL aj) gu),(8,dI .i64 lW),(9,.ow 4 0 36 ((xw).length)),(27,dI .i64 dp.vC),(28,dI .i64 lW),(43,dO 2 (cI .i64) x7),(44,dI .i64 ((x7).length:Int)),(45,dI .i64 oe)]) (fun (oe,wx)=>⟨[(0,[dI .i64 dp.vR,dI .i64 dp.vC,dL aj dp.vV]),(1,[dI .i64 x4.1.vm.vR,dI .i64 x4.1.vm.vC,dL aj x4.1.vm.vV,dL bJ x4.1.vl]),(4,dC ((cW aj).f wx))],[(2,(x7).length,1,3),(3,(gu).length,1,22)],5⟩) (PE cx (.exit 2) (fun qg=>[(1,.pt 0 0),(4,.pt 1 0),(6,dO 2 (cI .i64) x7),(7,dO 3 (cL aj) gu),(9,.ow 4 0 36 ((xw).length)),(27,dI .i64 dp.vC),(28,dI .i64 lW)]) fun qg=>⟨[(0,[dI .i64 dp.vR,dI .i64 dp.vC,dL aj dp.vV]),(1,[dI .i64 x4.1.vm.vR,dI .i64 x4.1.vm.vC,dL aj x4.1.vm.vV,dL bJ x4.1.vl]),(4,dC ((cW aj).f qg))],[(2,(x7).length,1,3),(3,(gu).length,1,22)],5⟩) hy ?_ ?_ ?_
 exact wk0 h0 [0,1,2,3,5]
 clear hy h
 rintro⟨oe,wx⟩ y h
 dsimp only[iT] at h
 refine ra hx ?_
 refine AW.seq (cdh h rfl (fun HM h=>?_) (fun HM h=>?_))
 refine AW.skip (AW.seq ?_)
 obtain⟨Gi,hy,h⟩:=ai h
 refine jn ((PE cx .normal (fun Gi=>[(1,.pt 0 0),(4,.pt 1 0),(6,dO 2 (cI .i64) x7),(7,dO 3 (cL aj) gu),(8,dI .i64 lW),(9,.ow 4 0 36 ((xw).length)),(27,dI .i64 dp.vC),(28,dI .i64 lW),(43,dO 2 (cI .i64) x7),(44,dI .i64 ((x7).length:Int)),(45,dI .i64 oe)]) fun Gi=>⟨[(0,[dI .i64 dp.vR,dI .i64 dp.vC,dL aj dp.vV]),(1,[dI .i64 x4.1.vm.vR,dI .i64 x4.1.vm.vC,dL aj x4.1.vm.vV,dL bJ x4.1.vl]),(4,dC ((cW aj).f Gi))],[(2,(x7).length,1,3),(3,(gu).length,1,22)],5⟩) Gi) ?_ ?_
 replace h:=hy
 refine AW.block (rs hx fun K hK=>?_)
 refine sa ?_
 obtain⟨Mn,h⟩:=ax h
 have hn23:(oe).toNat<(x7).length:=by omega
 refine sbr ?_
 refine s1 (s7 (c:=(cI .i64)) (l:=x7) (n:=(oe).toNat) (o:=0) dJ hn23) ?_
 refine nbr hK ?_
 refine ra hx ?_
 refine cdh h rfl (fun Mp h=>?_) (fun Mp h=>?_)
 refine rq hx fun K hK=>?_
 iterate 3 refine sa ?_
 refine s1 (d:=dG aG x4.1.vm) (cF ay) ?_
 refine mbr ?_
 refine scb h d9 fun x25 h=>?_
 refine scb h AG fun B0 h=>?_
 obtain⟨hc29,h⟩:=ax h
 have hn30:((x7)[(oe).toNat]!).toNat<(wx).length:=by omega
 refine s1 (yU ⟨hc29.1,hc29.2.1⟩ aW aR) ?_
 refine s0 (s6 (b':=B0) (a8.seqW aj wx (((x7)[(oe).toNat]!).toNat) hn30) aR) ?_
 refine nl hK ?_
 exact pe1 h h0 [0,1,2,3,4]
 exact AW.skip (pe1 h h0 [0,1,2,3,4])
 refine lw0 ?_
 refine rb hx ?_
 exact pel h h0 [0,1,2,3,4]
 exact AW.exit (per h h0 [0,1,2,3,4])
 refine lw0 ?_
 refine rq hx fun K hK=>?_
 iterate 2 refine sa ?_
 obtain⟨hc33,h⟩:=ax h
 refine fzO aj (n:=(xw).length) 4 [9,64] hc33 ?_ (all2 rfl (all1 rfl))
 refine s1 (d:=dO 5 (cL aj) [qg]) (oi nM aW) ?_
 obtain⟨hc34,h⟩:=ax h
 refine s1 (d:=dO 3 (cL aj) (gu++[qg])) (ip nM aW hc34) ?_
 refine nbr hK ?_
 exact pe1 h h0 [0,1,2,3]
 refine lw0 ?_
 refine rb hx ?_
 exact pel h h0 [0,1,2,3]
 exact AW.exit (per h h0 [3])
 refine lw0 ?_
 refine ra hx ?_
 refine AW.ret ?_
 cases h
 exact eu.mk2 (bI rfl (bI rfl (.inr ⟨_,_,(pV _),(ao _),⟨rfl,rfl⟩,rfl⟩)))
def fm(qi:Int)(jX:Int)(bQ:aq):Option ak:=bnd (b8 bQ qi jX) fun x1=>some x1
theorem oB {qi:Int}{jX:Int}{bQ:aq}{r:ak}(h:fm qi jX bQ=some r):HC prog 80 [dI .i64 qi,dI .i64 jX,.pt 0 0] ⟨[(0,[dI .i64 bQ.vR,dI .i64 bQ.vC,dL aj bQ.vV])],[],1⟩ (dG aj r) ⟨[(0,[dI .i64 bQ.vR,dI .i64 bQ.vC,dL aj bQ.vV])],[],1⟩:=by
 refine HC.ofX (rs:=[.cell 5 34]) tok func80 rfl rfl (cD rfl) rfl (fun cx hx h1=>?_)
 have h0:cx.hp0.next=1:=by rw[h1]
 simp only[dv,Nat.reduceAdd,cj]
 unfold fm at h
 refine rar hx ?_
 refine rs hx fun K hK=>?_
 refine s1 (d:=dG aG bQ) (cF ay) ?_
 refine mbr ?_
 refine scb h d9 fun x1 h=>?_
 refine nbr hK ?_
 refine AW.ret ?_
 cases h
 exact⟨_,qx rfl aR rfl rfl (ltb rfl) (aj.h _) (rfl),q8.of_wk (by rw[hx];exact cD rfl) (wkN h0 [] (wG rfl (ao _) wTn) (vR rfl wVn) wLn)⟩
def iP(bw:Int)(bQ:aq)(aE:Int):Int×(List ak)→Option ((Int×(List ak))⊕((List ak))):=fun (bS,aV)=>cnd (decide (bS<bw)) (bnd (fm aE bS bQ) fun x3=>gd ((aV++[x3]).length*136≤140737488355328) (some (.inl (i64.wrap (bS+(1:Int)),aV++[x3])))) (some (.inr aV))
def jf(bT:Int)(bw:Int)(bQ:aq):Int×(List ak)→Option ((Int×(List ak))⊕((List ak))):=fun (aE,aM)=>cnd (decide (aE<bT)) (bnd (aL (iP bw bQ aE) ((0:Int),aM)) fun bz=>some (.inl (i64.wrap (aE+(1:Int)),bz))) (some (.inr aM))
def jB(bT:Int)(bw:Int)(bQ:aq):Option (aq×Int):=bnd (aL (jf bT bw bQ) ((0:Int),([]:List ak))) fun aA=>bnd (cX aA) fun x8=>cnd (!x8) (some ((⟨(0:Int),(0:Int),([]:List ak)⟩:aq),(30:Int))) (some ((⟨bT,bw,aA⟩:aq),(0:Int)))
theorem zb {bT:Int}{bw:Int}{bQ:aq}{r:aq×Int}(h:jB bT bw bQ=some r):HC prog 73 [dI .i64 bT,dI .i64 bw,.fn 80 [0]] ⟨[(0,[dI .i64 bQ.vR,dI .i64 bQ.vC,dL aj bQ.vV])],[],1⟩ (.tu [dG aG r.1,dI .i64 r.2]) ⟨[(0,[dI .i64 bQ.vR,dI .i64 bQ.vC,dL aj bQ.vV])],[],1⟩:=by
 refine HC.ofX (rs:=[.cell 6 24,.tmp 7]) tok func73 rfl rfl (cD rfl) rfl (fun cx hx h1=>?_)
 have h0:cx.hp0.next=1:=by rw[h1]
 simp only[dv,Nat.reduceAdd,cj]
 unfold jB at h
 refine rs hx fun K hK=>?_
 refine s1 (d:=.pt 1 0) (cc ay) ?_
 refine nbr hK ?_
 refine rs hx fun K hK=>?_
 iterate 2 refine sa ?_
 refine s1 (d:=.ag [dI .i64 bT,dI .i64 bw,dN]) (cp ay) ?_
 refine s1 (d:=.pt 2 0) (cc ay) ?_
 refine s0 (eL (ds':=[dI .i64 bT,dI .i64 bw,dN]) ay) ?_
 refine nl hK ?_
 refine AW.seq (ra hx ?_)
 refine AW.block ?_
 obtain⟨aA,hy,h⟩:=ai h
 refine lp (S:=Int×(List ak)) (X:=(List ak)) (fun (aE,aM)=>[(1,dI .i64 bw),(2,.fn 80 [0]),(6,.pt 1 0),(8,.pt 2 0),(14,dI .i64 bT),(15,dI .i64 aE)]) (fun (aE,aM)=>⟨[(0,[dI .i64 bQ.vR,dI .i64 bQ.vC,dL aj bQ.vV]),(1,[dI .i64 (0:Int),dI .i64 (0:Int),dN]),(2,[dI .i64 bT,dI .i64 bw,dO 3 aj aM])],[(3,(aM).length,36,34)],4⟩) (PE cx (.exit 0) (fun aA=>[(6,.pt 1 0),(8,.pt 2 0)]) fun aA=>⟨[(0,[dI .i64 bQ.vR,dI .i64 bQ.vC,dL aj bQ.vV]),(1,[dI .i64 (0:Int),dI .i64 (0:Int),dN]),(2,[dI .i64 bT,dI .i64 bw,dO 3 aj aA])],[(3,(aA).length,36,34)],4⟩) hy ?_ ?_ ?_
 exact Wk.trans (Wk.nilOwn (ds':=[dI .i64 bT,dI .i64 bw,dO 3 aj ([]:List ak)]) 2 2 34 36) (wkN h0 [1,2,3] (wR rfl (wR rfl (wR rfl (wR rfl (wR rfl (wR rfl wTn)))))) (vR rfl (vR rfl (vR rfl wVn))) (wL rfl rfl wLn))
 clear hy h
 rintro⟨aE,aM⟩ y h
 dsimp only[jf] at h
 refine ra hx ?_
 refine AW.seq (cdh h rfl (fun fy h=>?_) (fun fy h=>?_))
 refine AW.skip (AW.seq (AW.block ?_))
 iterate 2 refine ra hx ?_
 refine AW.block ?_
 obtain⟨bz,hy,h⟩:=ai h
 refine lp (S:=Int×(List ak)) (X:=(List ak)) (fun (bS,aV)=>[(1,dI .i64 bw),(2,.fn 80 [0]),(6,.pt 1 0),(8,.pt 2 0),(9,dI .i64 aE),(14,dI .i64 bT),(15,dI .i64 aE),(18,dI .i64 bw),(19,dI .i64 bS)]) (fun (bS,aV)=>⟨[(0,[dI .i64 bQ.vR,dI .i64 bQ.vC,dL aj bQ.vV]),(1,[dI .i64 (0:Int),dI .i64 (0:Int),dN]),(2,[dI .i64 bT,dI .i64 bw,dO 3 aj aV])],[(3,(aV).length,36,34)],4⟩) (PE cx (.exit 2) (fun bz=>[(1,dI .i64 bw),(2,.fn 80 [0]),(6,.pt 1 0),(8,.pt 2 0),(14,dI .i64 bT),(15,dI .i64 aE)]) fun bz=>⟨[(0,[dI .i64 bQ.vR,dI .i64 bQ.vC,dL aj bQ.vV]),(1,[dI .i64 (0:Int),dI .i64 (0:Int),dN]),(2,[dI .i64 bT,dI .i64 bw,dO 3 aj bz])],[(3,(bz).length,36,34)],4⟩) hy ?_ ?_ ?_
 exact wkN h0 [1,2,3] (wR rfl (wR rfl (wR rfl (wR rfl (wR rfl (wR rfl (wR rfl (wR rfl (wR rfl wTn))))))))) (vR rfl (vR rfl (vR rfl wVn))) (wL rfl rfl wLn)
 clear hy h
 rintro⟨bS,aV⟩ y h
 dsimp only[iP] at h
 refine ra hx ?_
 refine AW.seq (cdh h rfl (fun rf h=>?_) (fun rf h=>?_))
 refine AW.skip (AW.seq (AW.block (ra hx ?_)))
 obtain⟨x3,Bs,h⟩:=ai h
 obtain⟨FQ,h⟩:=ax h
 refine jn (PE cx .normal (fun (_:Unit)=>[(1,dI .i64 bw),(2,.fn 80 [0]),(6,.pt 1 0),(8,.pt 2 0),(9,dI .i64 aE),(14,dI .i64 bT),(15,dI .i64 aE),(18,dI .i64 bw),(19,dI .i64 bS)]) (fun (_:Unit)=>⟨[(0,[dI .i64 bQ.vR,dI .i64 bQ.vC,dL aj bQ.vV]),(1,[dI .i64 (0:Int),dI .i64 (0:Int),dN]),(2,[dI .i64 bT,dI .i64 bw,dO 3 aj (aV++[x3])])],[(3,(aV++[x3]).length,36,34)],4⟩) ()) ?_ ?_
 refine dw (DW.split 1 5 (by decide) ?_ ?_)
 refine dwg [] [0,1,2,3,4,5,6,7,8,9] hx (by kernel_rfl) (by kernel_rfl) (by kernel_rfl) fun K hK=>?_
 dsimp only[db,nG,nD,List.map]
 iterate 5 refine sbr ?_
 refine s1 (mK [0] rfl (oB Bs) (fA (ao _) (fA (ao _) (fA (ao _) fAn))) (vR rfl wVn) wLn (rvE rvN) (qP _ _ _) (wg _ _)) ?_
 refine s1 (ka ([x3]:List ak) aj aW aR) ?_
 refine s1 (d:=dO 3 aj (aV++[x3])) (ip aW aR FQ) ?_
 refine sa ?_
 refine s0 (eL (ds':=[dI .i64 bT,dI .i64 bw,dO 3 aj (aV++[x3])]) aW) ?_
 exact .nil (hK _ _ (PE.i (wkN h0 [1,2,3] (wR rfl (wR rfl (wR rfl (wR rfl (wR rfl (wR rfl (wR rfl (wR rfl (wR rfl wTn))))))))) (vR rfl (vR rfl (vR rfl wVn))) (wL rfl rfl wLn))))
 refine dwg [] [0,2,3,4,5,1,6,7,8,9] hx (by kernel_rfl) (by kernel_rfl) (by kernel_rfl) fun K hK=>?_
 dsimp only[db,nG,nD,List.map]
 iterate 4 refine sa ?_
 refine s1 (mK [0] rfl (oB Bs) (fA (ao _) (fA (ao _) (fA (ao _) fAn))) (vR rfl wVn) wLn (rvE rvN) (qP _ _ _) (wg _ _)) ?_
 refine sbr ?_
 refine s1 (ka ([x3]:List ak) aj aW aR) ?_
 refine s1 (d:=dO 3 aj (aV++[x3])) (ip aW aR FQ) ?_
 refine sa ?_
 refine s0 (eL (ds':=[dI .i64 bT,dI .i64 bw,dO 3 aj (aV++[x3])]) aW) ?_
 exact .nil (hK _ _ (PE.i (wkN h0 [1,2,3] (wR rfl (wR rfl (wR rfl (wR rfl (wR rfl (wR rfl (wR rfl (wR rfl (wR rfl wTn))))))))) (vR rfl (vR rfl (vR rfl wVn))) (wL rfl rfl wLn))))
 refine lw0 ?_
 refine rb hx ?_
 cases h
 exact PS.l (PE.i (wkN h0 [1,2,3] (wR rfl (wR rfl (wR rfl (wR rfl (wR rfl (wR rfl (wR rfl (wR rfl (wR rfl wTn))))))))) (vR rfl (vR rfl (vR rfl wVn))) (wL rfl rfl wLn)))
 refine AW.exit ?_
 try dsimp only
 try simp only[fS,reduceIte,Nat.reduceEqDiff,reduceCtorEq]
 cases h
 exact PS.r ⟨by nofun,PE.i (wkN h0 [1,2,3] (wR rfl (wR rfl (wR rfl (wR rfl (wR rfl (wR rfl wTn)))))) (vR rfl (vR rfl (vR rfl wVn))) (wL rfl rfl wLn))⟩
 refine lw0 ?_
 refine rb hx ?_
 cases h
 exact PS.l (PE.i (wkN h0 [1,2,3] (wR rfl (wR rfl (wR rfl (wR rfl (wR rfl (wR rfl wTn)))))) (vR rfl (vR rfl (vR rfl wVn))) (wL rfl rfl wLn)))
 refine AW.exit ?_
 try dsimp only
 try simp only[fS,reduceIte,Nat.reduceEqDiff,reduceCtorEq]
 cases h
 exact PS.r ⟨by nofun,PE.i (wkN h0 [1,2,3] (wR rfl (wR rfl wTn)) (vR rfl (vR rfl (vR rfl wVn))) (wL rfl rfl wLn))⟩
 refine lw0 ?_
 refine AW.seq (rs hx fun K hK=>?_)
 refine mbr ?_
 refine scb h gJ fun x8 h=>?_
 refine nbr hK ?_
 refine cdh h rfl (fun ke h=>?_) (fun ke h=>?_)
 refine rs hx fun K hK=>?_
 refine s1 (d:=.ag [dI .i64 (0:Int),dI .i64 (0:Int),dN]) (cp ay) ?_
 refine s0 (eL (ds':=[dI .i64 (0:Int),dI .i64 (0:Int),dN]) ay) ?_
 refine nbr hK ?_
 refine AW.ret ?_
 cases h
 exact⟨_,dQ (es:=[dI .i64 (0:Int),dI .i64 (0:Int),dN]) rfl ay rfl rfl (ltb rfl) (leb rfl) rfl (bI rfl (rfl)),q8.of_wk2 (by rw[hx];exact cD rfl) (wkN h0 [] (wG rfl (i7 (wc (ge _) (wc (ge _) (wc (vT rfl) wcn)))) (wR rfl wTn)) (vR rfl wVn) wLn)⟩
 refine AW.skip (rs hx fun K hK=>?_)
 refine s1 (d:=.ag [dI .i64 bT,dI .i64 bw,dO 3 aj aA]) (cF ay) ?_
 refine s0 (eL (ds':=[dI .i64 bT,dI .i64 bw,dO 3 aj aA]) ay) ?_
 refine nbr hK ?_
 refine AW.ret ?_
 cases h
 exact⟨_,dQ (es:=[dI .i64 bT,dI .i64 bw,dO 3 aj aA]) rfl ay rfl rfl (ltb rfl) (leb rfl) rfl (bI rfl (rfl)),q8.of_wk2 (by rw[hx];exact cD rfl) (wkN h0 [] (wG rfl (i7 (wc (ge _) (wc (ge _) (wc (Ho _) wcn)))) (wR rfl wTn)) (vR rfl wVn) wLn)⟩
def fj(dp:aq)(c9:Int):Int→Option (Int⊕((Bool×Int)⊕Unit)):=fun gu=>cnd (decide (gu<c9)) (bnd (b8 dp c9 gu) fun x8=>bnd (b8 dp gu c9) fun qp=>cnd (decide (¬(x8=qp))) (some (.inr (.inl (false,(0:Int))))) (some (.inl (i64.wrap (gu+(1:Int)))))) (some (.inr (.inr ())))
def fk(dp:aq):Int→Option (Int⊕((Bool×Int)⊕Unit)):=fun c9=>cnd (decide (c9<dp.vR)) (bnd (aL (fj dp c9) (0:Int)) fun y13=>match y13 with| .inl r=>some (.inr (.inl r))| .inr ()=>some (.inl (i64.wrap (c9+(1:Int))))) (some (.inr (.inr ())))
def da(dp:aq):Int→Option (Int⊕((Bool×Int)⊕Unit)):=fun yK=>cnd (decide (yK≤dp.vR)) (bnd (jB yK yK dp) fun Fi=>bnd (j3 Fi.1) fun rL=>bnd (S:=Bool) (cnd (decide (rL.2≠(0:Int))) (some (true)) (bnd (iO rL.1) fun Gv=>some (decide (Gv≤(0:Int))))) fun Gg=>cnd Gg (some (.inr (.inl (false,rL.2)))) (some (.inl (i64.wrap (yK+(1:Int)))))) (some (.inr (.inr ())))
def eW(dp:aq):Option (Bool×Int):=bnd (S:=Bool) (bnd (bN [dp]) fun x1=>cnd (!x1) (some (true)) (some (decide (dp.vR≠dp.vC)))) fun bG=>cnd bG (some (false,(1:Int))) (bnd (aL (fk dp) (0:Int)) fun y14=>match y14 with| .inl r=>some r| .inr ()=>bnd (aL (da dp) (1:Int)) fun y25=>match y25 with| .inl r=>some r| .inr ()=>some (true,(0:Int)))
theorem xE {dp:aq}{r:Bool×Int}(h:eW dp=some r):ar prog 23 [dG aG dp] (.tu [dB r.1,dI .i64 r.2]):=by
 refine bB (rs:=[.tmp 2,.tmp 3]) (fun cx hx h0=>?_) func23
 unfold eW at h
 refine rs hx fun K hK=>?_
 refine s1 (d:=.pt 0 0) jb ?_
 iterate 2 refine sa ?_
 refine nl hK ?_
 iterate 2 refine AW.seq ?_
 obtain⟨bG,hy,h⟩:=ai h
 refine jn ((PE cx .normal (fun bG=>[(1,.pt 0 0),(21,dB bG)]) fun bG=>⟨[(0,[dI .i64 dp.vR,dI .i64 dp.vC,dL aj dp.vV])],[],1⟩) bG) ?_ ?_
 replace h:=hy
 refine rq hx fun K hK=>?_
 refine s1 (d:=dG aG dp) (cF ay) ?_
 refine s1 (d:=dO 1 aG [dp]) (oi rP ay) ?_
 refine scb h eR fun x1 h=>?_
 iterate 2 refine sa ?_
 rcases O0 (!x1) with fT|fT
 replace h:=TX fT h
 iterate 5 refine LL rfl rfl fT ?_
 refine s1 (vJ fT) ?_
 refine nl hK ?_
 cases h
 exact pe0 h0 [0]
 replace h:=T0 fT h
 refine ga fT ?_
 refine g1 fT (Ed dJ) ?_
 refine ga fT ?_
 refine g1 fT (Ed dJ) ?_
 refine ga fT ?_
 refine s1 (tT fT) ?_
 refine nl hK ?_
 cases h
 exact pe0 h0 [0]
 rintro ex tm' hp' ⟨rfl,hw⟩
 refine AW.weak hw (cdh h rfl (fun v4 h=>?_) (fun v4 h=>?_))
 refine ra hx ?_
 refine AW.ret ?_
 cases h
 exact rv2
 refine AW.skip (AW.seq (rs hx fun K hK=>?_))
 refine sa ?_
 refine s1 (Ed dJ) ?_
 refine sa ?_
 refine nl hK ?_
 refine AW.block ?_
 obtain⟨y,hy,h⟩:=ai h
 refine lp (S:=Int) (X:=(Bool×Int)⊕Unit) (fun c9=>[(1,.pt 0 0),(23,dI .i64 dp.vR),(24,dI .i64 c9)]) (fun c9=>⟨[(0,[dI .i64 dp.vR,dI .i64 dp.vC,dL aj dp.vV])],[],1⟩) (PS (PR [.tmp 2,.tmp 3] fun r=>.tu [dB r.1,dI .i64 r.2]) (PE cx (.exit 0) (fun ()=>[(1,.pt 0 0)]) fun ()=>⟨[(0,[dI .i64 dp.vR,dI .i64 dp.vC,dL aj dp.vV])],[],1⟩)) hy ?_ ?_ ?_
 exact wk h0 [0] (wR rfl (wR rfl (wR rfl wTn))) (vR rfl wVn) wLn
 clear hy h
 rintro c9 y h
 dsimp only[fk] at h
 refine ra hx ?_
 refine AW.seq (cdh h rfl (fun pJ h=>?_) (fun pJ h=>?_))
 refine AW.skip (AW.seq (AW.block ?_))
 iterate 2 refine ra hx ?_
 refine AW.block ?_
 obtain⟨y,hy,h⟩:=ai h
 refine lp (S:=Int) (X:=(Bool×Int)⊕Unit) (fun gu=>[(1,.pt 0 0),(4,dI .i64 c9),(23,dI .i64 dp.vR),(24,dI .i64 c9),(27,dI .i64 c9),(28,dI .i64 gu)]) (fun gu=>⟨[(0,[dI .i64 dp.vR,dI .i64 dp.vC,dL aj dp.vV])],[],1⟩) (PS (PR [.tmp 2,.tmp 3] fun r=>.tu [dB r.1,dI .i64 r.2]) (PE cx (.exit 2) (fun ()=>[(1,.pt 0 0),(23,dI .i64 dp.vR),(24,dI .i64 c9)]) fun ()=>⟨[(0,[dI .i64 dp.vR,dI .i64 dp.vC,dL aj dp.vV])],[],1⟩)) hy ?_ ?_ ?_
 exact wk h0 [0] (wR rfl (wR rfl (wR rfl (wR rfl (wR rfl (wR rfl wTn)))))) (vR rfl wVn) wLn
 clear hy h
 rintro gu y h
 dsimp only[fj] at h
 refine ra hx ?_
 refine AW.seq (cdh h rfl (fun wW h=>?_) (fun wW h=>?_))
 refine AW.skip (AW.seq (AW.block (ra hx ?_)))
 refine rsd [75] hx fun K hK=>?_
 refine s1 (d:=dG aG dp) (cF ay) ?_
 iterate 2 refine sa ?_
 refine cqb h d9 fun x8 h=>?_
 refine s1 (d:=dG aG dp) (cF ay) ?_
 iterate 2 refine sa ?_
 refine cqb h d9 fun qp h=>?_
 refine s1 (xo tok 4 (by decide) vp aR) ?_
 refine nl hK ?_
 refine cdh h rfl (fun Da h=>?_) (fun Da h=>?_)
 refine ra hx ?_
 refine AW.ret ?_
 cases h
 refine PS.r ⟨by nofun,PS.l (PR.i ?_)⟩
 exact rv2
 refine AW.skip (rb hx ?_)
 cases h
 exact PS.l (pe0 h0 [0])
 refine AW.exit ?_
 try dsimp only
 try simp only[fS,reduceIte,Nat.reduceEqDiff,reduceCtorEq]
 cases h
 exact PS.r ⟨by nofun,PS.r (PE.i (wk h0 [0] (wR rfl (wR rfl (wR rfl wTn))) (vR rfl wVn) wLn))⟩
 rcases y with r|⟨⟩
 rintro ex tm' hp' ⟨rfl,hw⟩
 cases h
 exact PS.r ⟨by nofun,PS.l (PR.i hw)⟩
 rintro ex tm' hp' ⟨rfl,hw⟩
 try dsimp only
 try simp only[fS,reduceIte,Nat.reduceEqDiff,reduceCtorEq]
 refine AW.weak hw (rb hx ?_)
 cases h
 exact PS.l (pe0 h0 [0])
 refine AW.exit ?_
 try dsimp only
 try simp only[fS,reduceIte,Nat.reduceEqDiff,reduceCtorEq]
 cases h
 exact PS.r ⟨by nofun,PS.r (PE.i (wk h0 [0] (wR rfl wTn) (vR rfl wVn) wLn))⟩
 rcases y with r|⟨⟩
 rintro ex tm' hp' ⟨rfl,hw⟩
 cases h
 exact hw
 rintro ex tm' hp' ⟨rfl,hw⟩
 try dsimp only
 try simp only[fS,reduceIte,Nat.reduceEqDiff,reduceCtorEq]
 refine AW.weak hw (AW.seq (ra hx ?_))
 refine AW.block ?_
 obtain⟨y,hy,h⟩:=ai h
 refine lp (S:=Int) (X:=(Bool×Int)⊕Unit) (fun yK=>[(1,.pt 0 0),(6,dI .i64 yK)]) (fun yK=>⟨[(0,[dI .i64 dp.vR,dI .i64 dp.vC,dL aj dp.vV])],[],1⟩) (PS (PR [.tmp 2,.tmp 3] fun r=>.tu [dB r.1,dI .i64 r.2]) (PE cx (.exit 4) (fun ()=>[]) fun ()=>⟨[],[],0⟩)) hy ?_ ?_ ?_
 exact wk h0 [0] (wR rfl (wR rfl wTn)) (vR rfl wVn) wLn
 clear hy h
 rintro yK y h
 dsimp only[da] at h
 refine AW.seq (rs hx fun K hK=>?_)
 iterate 2 refine sa ?_
 refine s1 (Ed dJ) ?_
 refine sa ?_
 refine nl hK ?_
 refine cdh h rfl (fun Tj h=>?_) (fun Tj h=>?_)
 refine AW.skip (AW.seq (AW.block (rs hx fun K hK=>?_)))
 iterate 2 refine sa ?_
 refine s1 wy ?_
 obtain⟨Fi,hx17,h⟩:=ai h
 refine s1 (BZ [0] rfl (zb hx17) (fA (ao _) (fA (ao _) (fA (ao _) fAn))) (vR rfl wVn) wLn) ?_
 iterate 3 refine sa ?_
 refine s1 (d:=.pt 1 0) (cc ay) ?_
 refine s0 (eL (ds':=[dI .i64 Fi.1.vR,dI .i64 Fi.1.vC,dL aj Fi.1.vV]) ay) ?_
 refine sa ?_
 refine nl hK ?_
 refine rs hx fun K hK=>?_
 refine s1 (d:=dG aG Fi.1) (cF ay) ?_
 refine scb h xG fun rL h=>?_
 iterate 3 refine sa ?_
 refine s1 (s9 (F:=aj.f ij) aR) ?_
 refine s0 (s6 (b':=rL.1) (a8.id _ _) aR) ?_
 refine sa ?_
 refine nl hK ?_
 refine AW.seq ?_
 obtain⟨Gg,hy,h⟩:=ai h
 refine jn ((PE cx .normal (fun Gg=>[(1,.pt 0 0),(6,dI .i64 yK),(10,dI .i64 rL.2),(66,dB Gg)]) fun Gg=>⟨[(0,[dI .i64 dp.vR,dI .i64 dp.vC,dL aj dp.vV])],[],1⟩) Gg) ?_ ?_
 replace h:=hy
 refine rq hx fun K hK=>?_
 iterate 3 refine sa ?_
 rcases O0 (decide (rL.2≠(0:Int))) with wX|wX
 replace h:=TX wX h
 iterate 3 refine LL rfl rfl wX ?_
 refine s1 (vJ wX) ?_
 refine nl hK ?_
 cases h
 exact pe0 h0 [0]
 replace h:=T0 wX h
 refine g1 (d:=dG aj rL.1) wX (wz (a8.id _ _) aR) ?_
 obtain⟨Gv,SF,h⟩:=ai h
 refine g1 wX (Az rfl (tp SF) (by simp only[gZ,pN,jL,oF,iY,c8];exact gW _ _) (lA (rU _ _) lAn) (.inl rfl)) ?_
 refine ga wX ?_
 refine s1 (tT wX) ?_
 refine nl hK ?_
 cases h
 exact pe0 h0 [0]
 rintro ex tm' hp' ⟨rfl,hw⟩
 refine AW.weak hw (cdh h rfl (fun Mp h=>?_) (fun Mp h=>?_))
 refine ra hx ?_
 refine AW.ret ?_
 cases h
 refine PS.r ⟨by nofun,PS.l (PR.i ?_)⟩
 exact rv2
 refine AW.skip (rb hx ?_)
 cases h
 exact PS.l (pe0 h0 [0])
 refine AW.exit ?_
 try dsimp only
 try simp only[fS,reduceIte,Nat.reduceEqDiff,reduceCtorEq]
 cases h
 exact PS.r ⟨by nofun,PS.r (PE.i (wk h0 [] wTn wVn wLn))⟩
 rcases y with r|⟨⟩
 rintro ex tm' hp' ⟨rfl,hw⟩
 cases h
 exact hw
 rintro ex tm' hp' ⟨rfl,hw⟩
 try dsimp only
 try simp only[fS,reduceIte,Nat.reduceEqDiff,reduceCtorEq]
 refine AW.weak hw (ra hx ?_)
 refine AW.ret ?_
 cases h
 exact rv2
end
end Go.Proofs.YtgfcnncojhkcoaaGreat
