/-
  Lemmas, part 6. Conditions: none.
-/
import Derived.Test.YtaedcknhkjpmlaaGreatK5
set_option linter.all false
set_option maxRecDepth 100000
namespace Go.Proofs.YtaedcknhkjpmlaaGreat
open Go.RowKit Go.IntKind
noncomputable section
theorem HC.args {P:Program}{f:FuncId}{ds ds':List D}{hp hp':Hp}{d:D}(hl:leL ds ds')(hc:HC P f ds' hp d hp'):HC P f ds hp d hp':=by
 obtain⟨h1,h2⟩:=BN hl
 refine⟨hc.1,fun B g w vs hr hsz dx=>hc.2 B g w vs hr (by omega) fun j e u he hu=>?_⟩
 obtain⟨d0,h3,h4⟩:=h2 he
 exact (dx j d0 u h3 hu).le h4
theorem T_bldL {dr:Bool}{ty:TypeId}{ev:Operand→D}{hp:Hp}{x y:Operand}{a:Nu}{k n:Nat}(hx:ev x=dG ay a:=by exact rfl)(hy:ev y=.ow k 0 36 n:=by exact rfl):AVC Tryz.prog tbl dr (.build 73 #[(0,x),(1,y)]) ty ev hp (Kq (.ag (bu a k n)) hp):=by
 have h0:([(0,x),(1,y)]:List (Nat×Operand)).map (fun p=>(p.1,ev p.2))=[(0,dG ay a),(1,.ow k 0 36 n)]:=by simp only[cP,dA,hx,hy]
 rw[show (#[(0,x),(1,y)]:Array (Nat×Operand))=([(0,x),(1,y)]:List (Nat×Operand)).toArray from rfl,vK,h0,tf,yA]
 have hp:l5 [(0,dG ay a),(1,.ow k 0 36 n)]=some [(0,dC (ay.f a)),(1,[.ow k 0 36 n])]:=rfl
 rw[hp]
 dsimp only
 refine⟨by decide,?_⟩
 have hz:∀zs:List D,zs.length=37→gp (oi tbl [(0,43),(36,22)]) zs [(0,dC (ay.f a)),(1,[.ow k 0 36 n])]=some (bu a k n):=fun zs hzs=>by
  have p0:oi tbl [(0,43),(36,22)] 0=some (0,36):=rfl
  have p1:oi tbl [(0,43),(36,22)] 1=some (36,1):=rfl
  simp only[gp,p0,p1,i7]
  rw[if_neg (by simp[hzs])]
  rw[if_neg (by simp[i7,hzs])]
  unfold bu
  rw[Dk,mL,bJ,Bd (by rw[i7];exact aB _),iP (by rw[i7];exact aB _),Be (by simp[i7,hzs]),sv]
 rw[hz _ (by rfl)]
 exact Kq.here _ _
theorem ws {vs:List (Nat×List D)}{lv:List (Nat×Nat×Nat×TypeId)}{N n:Nat}(hn:n≤1000000):HC Tryz.prog 41 [dI .i64 n] ⟨vs,lv,N⟩ (.ag (bu (nOf 0) (N+3) n)) ⟨(N,bu (nOf 0) (N+3) n)::(N+3,dC ((cW ay).f (List.replicate n (nOf 0))))::vs,lv,N+4⟩:=by
 refine HC.of (rs:=[.cell 2 73]) tok Tryz.func41 rfl rfl (dK rfl) rfl (fun cx hx h0 hok=>?_)
 simp only[fS,Nat.reduceAdd,bJ]
 refine rs hx fun K hK=>?_
 refine s1 (be (F:=zN++[.lit (.slice none 0 0)]) yA) ?_
 refine .nil (hK _ _ (rs hx fun K hK=>?_))
 refine cq (Eh 0 (by omega)) ?_
 refine cq (Eh 0 (by omega)) ?_
 refine s1 (kJ [nOf 0] ay aH aw) ?_
 refine sa ?_
 refine q1 (sHC (HC.args (ds:=[dO (N+1) ay [nOf 0],dI .i64 n]) (ds':=[.e (slE ay [nOf 0]),dI .i64 n]) ⟨Oh _,ap _,trivial⟩ (Id hn)) rfl (.inr ⟨by show N+1+1≤N+1+1+1+1;omega,fun j hj=>au (by have:j<N+1+1:=hj;omega)⟩)) ?_
 refine s1 T_bldL ?_
 refine s0 (Fm (ys:=bu (nOf 0) (N+3) n) (bs:=dC (zN++[.lit (.slice none 0 0)])) (Pt.of [] [] rfl (by simp) (F':=id) fun y=>by simp) (al (show N≠N+1+1+1 by omega) ab) rfl yA rfl (cl _ _ _) rfl) ?_
 refine .nil (hK _ _ (AW.ret ?_))
 have hokF:cQ ⟨(N,bu (nOf 0) (N+3) n)::(N+3,dC ((cW ay).f (List.replicate n (nOf 0))))::vs,lv,N+4⟩:=(cQ.cons (N:=N+4) (hok.cons (by omega) (show N+3<N+4 by omega) (eS _)) (aB _) (show N<N+4 by omega) (ja (by omega)))
 refine⟨[(2,.pt N 0)],Ea (by rw[h0];show N≤N+4;omega) (aB _) hokF (fun j ds h=>?_) (fun j y h=>(au (by have:=hok.tok j y h;have h2:j<N:=this;omega)).trans h) (bU.cons (t:=2) (d:=.pt N 0) bU.nil rfl (aF (show N<N+4 by omega))),?_⟩
 ·rcases cD h with⟨rfl,rfl⟩|⟨h1,h⟩
  ·exact ab
  rcases cD h with⟨rfl,rfl⟩|⟨h2,h⟩
  ·exact al h1 ab
  ·exact al h1 (al h2 (al h1 h))
 ·refine⟨.pt N 0,ab,⟨_,yA⟩,?_⟩
  rw[ox,yA]
  rw[show (⟨(N,bu (nOf 0) (N+3) n)::(N+3,dC ((cW ay).f (List.replicate n (nOf 0))))::vs,lv,N+4⟩:Hp).vars.lookup N=some (bu (nOf 0) (N+3) n) from ab]
  dsimp only[Ty.agg]
  refine⟨show N<N+4 by omega,by rw[cl];exact aB _,?_⟩
  rw[rB,iP (by rw[cl];exact aB _)]
section
section
variable {md:Md} {dst:Option Tmp} {ty:TypeId} {pos:String} {af:Array Edge} {gd:Option (Nat×Bool)} {ev:Operand→D} {hp:Hp} {k n:Nat} {x y:Operand}
theorem slZ(hx:ev x=.ow k 0 36 n:=by exact rfl)(hy:ev y=dI .i64 (n:Int):=by exact rfl):m3 Tryz.prog tbl md ⟨dst,.slice 22 x (some y) none none,ty,pos,af,gd⟩ ev hp (.e (slE ay [])) hp:=by
 refine (Snd.calm (dr:=md.dr) fun dW _=>.pure fun B g w a hr xg=>?_).q (by cases md <;> rfl)
 have h1:=xg x (by simp[Op.operands])
 have h2:=xg y (by simp[Op.operands])
 rw[hx] at h1
 rw[hy] at h2
 have h2:=h2.lit
 have hs:=tok.run_sizeOf aw w
 generalize hv:a.eval x=v at h1
 cases h1 with
 |ow _ _ _ _ c hk p6 o0=>
  have hbd:=iF (P:=Tryz.prog) (w:=w) true n c (some (.int .i64 (n:Int))) none n n (.inr ⟨.i64,rfl⟩) (.inl ⟨rfl,rfl⟩) (aB _) p6
  have fin:∀A:Option Addr,aR dW g w (.e (slE ay [])) (.slice A 0 (c - n)):=fun A=>.e _ _ (.sl 36 0 [] A (c - n) (fun _=>undef) rfl (by decide) (cX _) (by omega) (fun h=>absurd h (by omega)) (fun _ _ _ _ h=>by simp at h) (fun _ _ h=>by simp at h))
  by_cases EA:c=n
  ·subst EA
   refine⟨.slice (some ⟨g.μ k,0,none⟩) 0 (c - c),?_,fin _⟩
   simp[execOp,Instr.sliceAt,Instr.slice,hv,h2,run_underlying (tok.slice aH rfl),hbd,hs]
  ·have gt:¬c=n:=EA
   refine⟨.slice (some ((⟨g.μ k,0,none⟩:Addr).add (n*36))) 0 (c - n),?_,fin _⟩
   simp[execOp,Instr.sliceAt,Instr.slice,hv,h2,run_underlying (tok.slice aH rfl),hbd,hs,gt]
end
theorem iaO {dr:Bool}{ty:TypeId}{ev:Operand→D}{hp:Hp}{k o i n:Nat}{kn:IntKind}{x y:Operand}(h:i<n)(hx:ev x=.ow k (o*36) 36 n)(hy:ev y=dI kn (i:Int):=by exact rfl):AVC Tryz.prog tbl dr (.indexAddr 22 x y) ty ev hp (Kq (.pt k ((o+i)*36)) hp):=by
 have:=v7 (P:=Tryz.prog) (tb:=tbl) (dr:=dr) (ty:=ty) (ev:=ev) (hp:=hp) (x:=x) (y:=y) (v:=(i:Int)) (n:=n) (kn:=kn) ⟨by omega,by omega⟩ aH aw rfl hx rfl hy
 rw[ct] at this
 rw[cz]
 exact this
theorem bU.consX {n t:Nat}{d:D}{tm tm':List (Nat×D)}(h2:bU n tm tm')(h:tm.lookup t=some d)(hi:d.ex.idsB n=true):bU n tm ((t,d.ex)::tm'):=fun p hp=>by
 rcases kO.1 hp with rfl|hp
 ·exact⟨⟨d,h,.inr rfl⟩,hi⟩
 ·exact h2 p hp
theorem Po {vs:List (Nat×List D)}{lv:List (Nat×Nat×Nat×TypeId)}{N kd R G w nn:Nat}{C:Nat→Nat}{d:Dic}(hD:DAt vs kd R G C w d)(hnn:d.n=(nn:Int))(hw:nn+1≤w)(hw2:w≤1000000):
  HC Tryz.prog 44 [.pt kd 0] ⟨vs,lv,N⟩ (.e (slE ay (fF d nn))) ⟨vs,lv,N⟩:=by
 refine HC.of (rs:=[.tmp 2]) tok Tryz.func44 rfl rfl (dK rfl) rfl (fun cx hx h0 hok=>?_)
 simp only[fS,Nat.reduceAdd,bJ]
 have Ev:=hok.lt hD.hd
 have Py:=hok.lt hD.hG
 have IZ:=hD.lG
 refine rs hx fun K hK=>?_
 refine s1 (d:=dO N ay ([]:List Nu)) (fW aH aw) ?_
 refine .nil (hK _ _ (rs hx fun K hK=>?_))
 refine s1 (d:=dO (N+1) ay ([]:List Nu)) (fW aH aw) ?_
 refine .nil (hK _ _ ?_)
 obtain⟨L,hL⟩:∃L,L=w - (nn+1):=⟨_,rfl⟩
 obtain⟨sD,hs1,hs0⟩:∃sD:D,(nn+1<w→sD=.ow G ((nn+1)*36) 36 L)∧(nn+1=w→sD=.e (slE ay [])):=by
  by_cases h:nn+1<w
  ·exact⟨_,fun _=>rfl,fun e=>by omega⟩
  ·exact⟨_,fun e=>absurd e h,fun _=>rfl⟩
 have hsi:sD.idsB (N+2)=true:=by
  by_cases h:nn+1<w
  ·rw[hs1 h];exact aF (show G<N+2 by omega)
  ·rw[hs0 (by omega)];rfl
 refine AW.seq (rsd [] hx fun K hK=>?_)
 iterate 4 refine sa ?_
 refine s1 (kI mJ.pc hD.hd (show kd<N+1+1 by omega) tbI) ?_
 iterate 3 refine sa ?_
 refine s1 (kI dic_n hD.hd (show kd<N+1+1 by omega) tbI) ?_
 rw[hnn]
 refine sa ?_
 rw[cm (by omega)]
 refine q1 (d:=sD) (by
  by_cases h:nn+1<w
  ·rw[hs1 h,hL];exact slT h
  ·have hw3:nn+1=w:=by omega
   rw[hs0 hw3]
   exact slZ rfl (by rw[←hw3];rfl)) ?_
 refine s1 (d:=dI .i64 L) (by
  by_cases h:nn+1<w
  ·exact AE aH aw rfl (hs1 h)
  ·have hL0:L=0:=by omega
   rw[hL0]
   exact Qx aH aw rfl (by show D.asSl 36 sD=_;rw[hs0 (by omega)];rfl)) ?_
 refine sa ?_
 refine .nil (hK _ _ ?_)
 have OR:∀u:Nat,cQ ⟨vs,(N+1,u,36,43)::lv,N+1+1⟩:=fun u=>by
  refine⟨fun j ds h=>?_,fun id e h=>?_⟩
  ·obtain⟨h1,h2⟩:=hok.var j ds h
   have h1:j<N:=h1
   exact⟨show j<N+1+1 by omega,dc.2 fun d hd=>D.idsC_le (show N≤N+1+1 by omega) (dc.1 h2 d hd)⟩
  ·by_cases hid:id=N+1
   ·show id<N+1+1;omega
   ·have:=hok.tok id e (by rw[←h];exact (au hid).symm)
    have:id<N:=this
    show id<N+1+1;omega
 refine AW.block (AW.loopW (fun u:Nat=>[(3,dO (N+1) ay (((d.gc.drop (nn+1)).take u).map hJ)),(16,sD),(17,dI .i64 L),(18,dI .i64 u)]) (fun u=>⟨vs,(N+1,u,36,43)::lv,N+1+1⟩) (fun u=>u≤L) (fun u=>L - u) 0 ?_ (cX _) ?_)
 ·refine Ea (by rw[h0];show N≤N+1+1;omega) (aB _) (OR 0) (fun j ds h=>h) (fun j y h=>?_) (bU.cons (t:=3) (d:=dO (N+1) ay ([]:List Nu)) (bU.cons (t:=16) (d:=sD) (bU.cons (t:=17) (d:=dI .i64 L) (bU.cons (t:=18) (d:=dI .i64 (0:Nat)) bU.nil rfl rfl) rfl rfl) rfl hsi) rfl (aF (show N+1<N+1+1 by omega)))
  by_cases hj:j=N+1
  ·subst hj
   rw[←h]
   exact ab.trans ab.symm
  ·have h1:lv.lookup j=some y:=by rw[←h];exact (au hj).symm
   have h2:j<N:=hok.tok j y h1
   exact (au hj).trans ((au (show j≠N by omega)).trans h1)
 ·intro u hu
  have Mk:(((d.gc.drop (nn+1)).take u).map hJ).length=u:=by rw[bw,eH,fT];omega
  refine rs hx fun K hK=>?_
  refine sa ?_
  refine .nil (hK _ _ (AW.seq (AW.condS rfl (fun hb=>?_) (fun hb=>?_))))
  ·have JA:u<L:=by have:=da hb;omega
   refine AW.skip (AW.seq (AW.block (rs hx fun K hK=>?_)))
   refine s1 (iaO (o:=nn+1) JA (hs1 (by omega))) ?_
   refine s1 (ldN (Pt.el d.gc (nn+1+u) (by omega)) hD.hG (show G<N+1+1 by omega)) ?_
   refine s1 IM ?_
   refine s0 (stZ ab) ?_
   refine .nil (hK _ _ (rq hx fun K hK=>?_))
   refine sa ?_
   refine s1 (ldN (Pt.idN _) ab (e9 _)) ?_
   refine cq (Hn _) ?_
   refine s1 (kJ [hJ d.gc[nn+1+u]!] ay aH aw) ?_
   have AY:((d.gc.drop (nn+1)).take u).map hJ++[hJ d.gc[nn+1+u]!]=((d.gc.drop (nn+1)).take (u+1)).map hJ:=by
    rw[zi,iU,oQ,cO d.gc (nn+1+u) (by omega),de (by omega)]
    rfl
   refine s1 (qn (id:=N+1) (l:=((d.gc.drop (nn+1)).take u).map hJ) (l':=[hJ d.gc[nn+1+u]!]) aH aw (by rw[c8,Mk];show (u+1)*136≤140737488355328;omega) rfl rfl rfl rfl (by rw[Mk];exact (au (show N+1≠N+1+1+1 by omega)).trans ab)) ?_
   rw[AY]
   refine sa ?_
   refine .nil (hK _ _ (rq hx fun K hK=>?_))
   iterate 2 refine sa ?_
   refine .nil (hK _ _ ?_)
   rw[cm (by omega)]
   have hlu1:(((d.gc.drop (nn+1)).take (u+1)).map hJ).length=u+1:=by rw[←AY,c8,Mk];rfl
   refine⟨u+1,Ea (by rw[h0];show N≤N+1+1;omega) (show N+1+1≤N+1+1+1+1 by omega) (OR (u+1)) (fun j ds h=>?_) (fun j y h=>?_) (bU.cons (t:=3) (d:=dO (N+1) ay (((d.gc.drop (nn+1)).take (u+1)).map hJ)) (bU.cons (t:=16) (d:=sD) (bU.cons (t:=17) (d:=dI .i64 L) (bU.cons (t:=18) (d:=dI .i64 (u+1:Nat)) bU.nil rfl rfl) rfl rfl) rfl hsi) rfl (aF (show N+1<N+1+1 by omega))),JA,by omega⟩
   ·have hj:j<N:=hok.lt h
    exact al (show j≠N+1+1 by omega) (al (show j≠N+1+1 by omega) h)
   ·by_cases hj:j=N+1
    ·subst hj
     have h1:some (u+1,36,43)=some y:=by rw[←h];exact ab.symm
     rw[←h1]
     exact ab.trans (by rw[hlu1])
    ·have h1:lv.lookup j=some y:=by rw[←h];exact (au hj).symm
     have h2:j<N:=hok.tok j y h1
     exact (au hj).trans ((au (show j≠N+1+1+1 by omega)).trans ((au hj).trans h1))
  ·refine AW.exit ?_
   have JA:u=L:=by have:=d8 hb;omega
   refine rs hx fun K hK=>?_
   iterate 2 refine sa ?_
   refine .nil (hK _ _ (AW.ret ?_))
   have uX:((d.gc.drop (nn+1)).take u).map hJ=fF d nn:=by
    unfold fF
    rw[iP (by rw[fT];omega)]
   rw[uX]
   exact⟨[(2,D.ex (dO (N+1) ay (fF d nn)))],Ea (by rw[h0];exact aB N) (show N≤N+1+1 by omega) hok (fun j ds h=>h) (fun j y h=>(au (by have h2:j<N:=hok.tok j y h;omega)).trans h) (bU.consX bU.nil rfl rfl),⟨_,ab,rfl⟩⟩
end
section
section
variable {vs vs2 pb:List (Nat×List D)} {lv DU:List (Nat×Nat×Nat×TypeId)} {N M n2 k:Nat}
theorem cQ.up(hok:cQ ⟨vs,lv,N⟩)(h:N≤M):cQ ⟨vs,lv,M⟩:=
 ⟨fun j es hj=>by obtain⟨h1,h2⟩:=hok.var j es hj;exact⟨eD h1 h,dc.2 fun d hd=>D.idsC_le h (dc.1 h2 d hd)⟩,fun id e hi=>eD (hok.tok id e hi) h⟩
theorem cQ.consM {ds:List D}(hok:cQ ⟨vs,lv,M⟩)(hk:k<M)(hd:ds.all (D.idsC M)=true):cQ ⟨(k,ds)::vs,lv,M⟩:=hok.cons (aB M) hk hd
theorem wk1 {x:Cx}{tm tm':List (Nat×D)}{vs0:List (Nat×List D)}{lv0:List (Nat×Nat×Nat×TypeId)}{N0 n':Nat}(h0:x.hp0=⟨vs0,lv0,N0⟩)(hN:N0≤n':=by omega)(hn:n'≤n2:=by omega)(hok:cQ ⟨pb,lv,n'⟩:=by (repeat (first|assumption|refine cQ.consM ?_ (by omega) (by (first|exact eS _|exact ja (by omega)|exact rt (by omega) (by omega)|assumption|exact rfl|(simp only[bX,bt,bc];exact aF (by omega))))|exact cQ.up (by assumption) (by omega))))
  (hv:∀j ds,pb.lookup j=some ds→vs2.lookup j=some ds:=by (intro j ds h;(repeat (rcases cD h with⟨rfl,rfl⟩|⟨hj,h⟩;·(repeat (first|exact ab|assumption|refine al (by first|assumption|exact mM (by assumption)|omega) ?_))));have hjN:=cQ.lt (by assumption) h;(repeat (first|exact ab|assumption|refine al (by first|assumption|exact mM (by assumption)|omega) ?_)))) (ht:bU n' tm tm':=by (repeat (first|exact bU.nil|refine bU.cons ?_ (by exact rfl) (by (first|exact rfl|assumption|exact aF (by omega)|exact dc.2 (fun k hk=>aF (by simp only[kO,qj,or_false] at hk;omega))))))):Wk x tm ⟨vs2,lv,n2⟩ tm' ⟨pb,lv,n'⟩:=wkS (by rw[h0];exact hN) hn hok hv ht
theorem rt1 {x:Cx}{tm:List (Nat×D)}{q:Nat}{d:D}(h0:x.hp0=⟨vs,lv,N⟩)(hok:cQ ⟨pb,lv,N⟩:=by (repeat (first|assumption|refine cQ.consM ?_ (by omega) (by (first|exact eS _|exact ja (by omega)|exact rt (by omega) (by omega)|assumption|exact rfl|(simp only[bX,bt,bc];exact aF (by omega))))|exact cQ.up (by assumption) (by omega))))(hN:N≤n2:=by omega)(hv:∀j ds,pb.lookup j=some ds→vs2.lookup j=some ds:=by (intro j ds h;(repeat (rcases cD h with⟨rfl,rfl⟩|⟨hj,h⟩;·(repeat (first|exact ab|assumption|refine al (by first|assumption|exact mM (by assumption)|omega) ?_))));have hjN:=cQ.lt (by assumption) h;(repeat (first|exact ab|assumption|refine al (by first|assumption|exact mM (by assumption)|omega) ?_))))(hq:tm.lookup q=some d:=by exact rfl)(hd:d.idsB N=true:=by (first|exact rfl|assumption|exact aF (by omega)|exact dc.2 (fun k hk=>aF (by simp only[kO,qj,or_false] at hk;omega)))):
  ∃tm',Wk x tm ⟨vs2,lv,n2⟩ tm' ⟨pb,lv,N⟩∧sQ tbl [.tmp q] tm' ⟨pb,lv,N⟩ d:=
 ⟨[(q,d)],wkS (by rw[h0];exact aB N) hN hok hv (bU.nil.cons hq hd),⟨d,ab,rfl⟩⟩
theorem rt2 {x:Cx}{tm:List (Nat×D)}{q p:Nat}{d e:D}(h0:x.hp0=⟨vs,lv,N⟩)(hok:cQ ⟨pb,lv,N⟩:=by (repeat (first|assumption|refine cQ.consM ?_ (by omega) (by (first|exact eS _|exact ja (by omega)|exact rt (by omega) (by omega)|assumption|exact rfl|(simp only[bX,bt,bc];exact aF (by omega))))|exact cQ.up (by assumption) (by omega))))(hN:N≤n2:=by omega)(hv:∀j ds,pb.lookup j=some ds→vs2.lookup j=some ds:=by (intro j ds h;(repeat (rcases cD h with⟨rfl,rfl⟩|⟨hj,h⟩;·(repeat (first|exact ab|assumption|refine al (by first|assumption|exact mM (by assumption)|omega) ?_))));have hjN:=cQ.lt (by assumption) h;(repeat (first|exact ab|assumption|refine al (by first|assumption|exact mM (by assumption)|omega) ?_))))(hq:tm.lookup q=some d:=by exact rfl)(hp:tm.lookup p=some e:=by exact rfl)(hd:d.idsB N=true:=by (first|exact rfl|assumption|exact aF (by omega)|exact dc.2 (fun k hk=>aF (by simp only[kO,qj,or_false] at hk;omega))))(he:e.idsB N=true:=by (first|exact rfl|assumption|exact aF (by omega)|exact dc.2 (fun k hk=>aF (by simp only[kO,qj,or_false] at hk;omega))))(gt:p≠q:=by decide):
  ∃tm',Wk x tm ⟨vs2,lv,n2⟩ tm' ⟨pb,lv,N⟩∧sQ tbl [.tmp q,.tmp p] tm' ⟨pb,lv,N⟩ (.tu [d,e]):=
 ⟨[(q,d),(p,e)],wkS (by rw[h0];exact aB N) hN hok hv ((bU.nil.cons hp he).cons hq hd),⟨d,ab,⟨e,(au gt).trans ab,rfl⟩⟩⟩
end
section
variable {md:Md} {ops:Array Oper} {K:List (Nat×D)→Hp→Prop} {os:List Oper} {tm:List (Nat×D)} {hp hp':Hp} {t s:Tmp} {op:Op} {ty:TypeId} {pos:String} {af:Array Edge} {d:D} {j k o n i:Nat} {want c:Bool} {F F2:List D} {F':List D→List D} {a b:Nu} {x y:Operand}
theorem gn(hw:c= !want)(h2:ci Tryz.prog tbl md ops K os ((t,.tu [])::tm) hp)(hj:(ops[j]?).bind (·.dst)=some s:=by exact rfl)(hc:tm.lookup s=some (.e (.lit (.bool c))):=by exact rfl):ci Tryz.prog tbl md ops K (⟨some t,op,ty,pos,af,some (j,want)⟩::os) tm hp:=aG hj hc hw h2
theorem gm(h2:ci Tryz.prog tbl md ops K os ((t,.tu [])::tm) hp)(hj:(ops[j]?).bind (·.dst)=some s:=by exact rfl)(hc:tm.lookup s=some (.tu []):=by exact rfl):ci Tryz.prog tbl md ops K (⟨some t,op,ty,pos,af,some (j,want)⟩::os) tm hp:=nn_t hj hc h2
theorem l1(L:Pt F o (dC (ay.f a)) F')(h2:ci Tryz.prog tbl md ops K os ((t,dG ay a)::tm) hp)(hx:evD tm x=.pt k o:=by exact rfl)(hv:hp.vars.lookup k=some F:=by (repeat (first|exact ab|assumption|refine al (by first|assumption|exact mM (by assumption)|omega) ?_)))(hk:k<hp.next:=by (first|omega|(dsimp only;omega)))(hn:md.nc tbl (.load 43 x)=true:=by exact rfl):ci Tryz.prog tbl md ops K (⟨some t,.load 43 x,ty,pos,af,none⟩::os) tm hp:=s1 (ldN L hv hk hx) h2 hn
theorem t1 {vs:List (Nat×List D)}{lv:List (Nat×Nat×Nat×TypeId)}{N:Nat}(L:Pt F o (dC (ay.f a)) F')(h3:F' (dC (ay.f b))=F2)(h2:ci Tryz.prog tbl md ops K os tm ⟨(k,F2)::vs,lv,N⟩)(hx:evD tm x=.pt k o:=by exact rfl)(hv:vs.lookup k=some F:=by (repeat (first|exact ab|assumption|refine al (by first|assumption|exact mM (by assumption)|omega) ?_)))(hy:evD tm y=dG ay b:=by exact rfl)(hn:md.nc tbl (.store 43 x y)=true:=by exact rfl):ci Tryz.prog tbl md ops K (⟨none,.store 43 x y,ty,pos,af,none⟩::os) tm ⟨vs,lv,N⟩:=s0 (stN L hv h3 hx hy rfl) h2 hn
theorem l1g(L:Pt F o (dC (ay.f a)) F')(hw:c=want)(h2:ci Tryz.prog tbl md ops K os ((t,dG ay a)::tm) hp)(hx:evD tm x=.pt k o:=by exact rfl)(hv:hp.vars.lookup k=some F:=by (repeat (first|exact ab|assumption|refine al (by first|assumption|exact mM (by assumption)|omega) ?_)))(hk:k<hp.next:=by (first|omega|(dsimp only;omega)))(hj:(ops[j]?).bind (·.dst)=some s:=by exact rfl)(hc:tm.lookup s=some (.e (.lit (.bool c))):=by exact rfl)(hn:md.nc tbl (.load 43 x)=true:=by exact rfl):ci Tryz.prog tbl md ops K (⟨some t,.load 43 x,ty,pos,af,some (j,want)⟩::os) tm hp:=g1 hw (ldN L hv hk hx) h2 hj hc hn
theorem cqg {f:FuncId}{la:List Operand}{ts:Array TypeId}{ds:List D}{r:D}(hc:ax Tryz.prog f ds r)(hw:c=want)(h2:ci Tryz.prog tbl md ops K os ((t,r)::tm) hp)(hj:(ops[j]?).bind (·.dst)=some s:=by exact rfl)(hg:tm.lookup s=some (.e (.lit (.bool c))):=by exact rfl)(ka:((la.map (evD tm)).map D.ex).all D.pure=true:=by repeat (first|exact pn|refine pA (aC _ _) ?_|refine pA rfl ?_))(hl:leL ((la.map (evD tm)).map D.ex) ds:=by repeat (first|exact lAn|refine lC (bZ _ _) ?_|refine lC (ap _) ?_))(hr:r.pure=true∨∃ds,r=.tu ds:=by (first|exact .inl (ii _ _)|exact .inl rfl|exact .inr ⟨_,rfl⟩)):
  ci Tryz.prog tbl md ops K (⟨some t,.call ⟨.value (.func f),la.toArray,ts⟩,ty,pos,af,some (j,want)⟩::os) tm hp:=sqg tok hj hg hw hc ka hl hr h2
theorem n1 {vs:List (Nat×List D)}{lv:List (Nat×Nat×Nat×TypeId)}{N:Nat}(h2:ci Tryz.prog tbl md ops K os ((t,.pt N 0)::tm) ⟨(N,dC zN)::vs,lv,N+1⟩)(hn:md.nc tbl (.alloc 43)=true:=by exact rfl):ci Tryz.prog tbl md ops K (⟨some t,.alloc 43,ty,pos,af,none⟩::os) tm ⟨vs,lv,N⟩:=s1 IM h2 hn
theorem z1 {vs:List (Nat×List D)}{lv:List (Nat×Nat×Nat×TypeId)}{N:Nat}(h2:ci Tryz.prog tbl md ops K os tm ⟨(k,(dC (ay.f b)))::vs,lv,N⟩)(hx:evD tm x=.pt k 0:=by exact rfl)(hv:vs.lookup k=some (dC zN):=by (repeat (first|exact ab|assumption|refine al (by first|assumption|exact mM (by assumption)|omega) ?_)))(hy:evD tm y=dG ay b:=by exact rfl)(hn:md.nc tbl (.store 43 x y)=true:=by exact rfl):ci Tryz.prog tbl md ops K (⟨none,.store 43 x y,ty,pos,af,none⟩::os) tm ⟨vs,lv,N⟩:=s0 (stZ hv hx hy rfl) h2 hn
theorem c1 {tt:TypeId}{ti:TyE}(L:Pt F o [d] F')(h2:ci Tryz.prog tbl md ops K os ((t,d)::tm) hp)(hx:evD tm x=.pt k o:=by exact rfl)(hv:hp.vars.lookup k=some F:=by (repeat (first|exact ab|assumption|refine al (by first|assumption|exact mM (by assumption)|omega) ?_)))(hk:k<hp.next:=by (first|omega|(dsimp only;omega)))(ht:tbl tt=some ti:=by exact tbI)(hg:ti.ty.agg=false:=by exact rfl)(hn:md.nc tbl (.load tt x)=true:=by exact rfl):ci Tryz.prog tbl md ops K (⟨some t,.load tt x,ty,pos,af,none⟩::os) tm hp:=s1 (kI L hv hk ht hg hx) h2 hn
theorem c1g {tt:TypeId}{ti:TyE}(L:Pt F o [d] F')(hw:c=want)(h2:ci Tryz.prog tbl md ops K os ((t,d)::tm) hp)(hx:evD tm x=.pt k o:=by exact rfl)(hv:hp.vars.lookup k=some F:=by (repeat (first|exact ab|assumption|refine al (by first|assumption|exact mM (by assumption)|omega) ?_)))(hk:k<hp.next:=by (first|omega|(dsimp only;omega)))(ht:tbl tt=some ti:=by exact tbI)(hg:ti.ty.agg=false:=by exact rfl)(hj:(ops[j]?).bind (·.dst)=some s:=by exact rfl)(hc:tm.lookup s=some (.e (.lit (.bool c))):=by exact rfl)(hn:md.nc tbl (.load tt x)=true:=by exact rfl):ci Tryz.prog tbl md ops K (⟨some t,.load tt x,ty,pos,af,some (j,want)⟩::os) tm hp:=g1 hw (kI L hv hk ht hg hx) h2 hj hc hn
theorem p1 {tt:TypeId}{ti:TyE}{bs:List D}(L:Pt F o bs F')(hz:bs.length=ti.size)(h2:ci Tryz.prog tbl md ops K os ((t,.ag bs)::tm) hp)(hx:evD tm x=.pt k o:=by exact rfl)(hv:hp.vars.lookup k=some F:=by (repeat (first|exact ab|assumption|refine al (by first|assumption|exact mM (by assumption)|omega) ?_)))(hk:k<hp.next:=by (first|omega|(dsimp only;omega)))(ht:tbl tt=some ti:=by exact tbI)(hg:ti.ty.agg=true:=by exact rfl)(hn:md.nc tbl (.load tt x)=true:=by exact rfl):ci Tryz.prog tbl md ops K (⟨some t,.load tt x,ty,pos,af,none⟩::os) tm hp:=s1 (Bj L hv hk ht hz hg hx) h2 hn
theorem v1 {vs:List (Nat×List D)}{lv:List (Nat×Nat×Nat×TypeId)}{N:Nat}{tt:TypeId}{ti:TyE}{bs ys:List D}(L:Pt F o bs F')(hz:bs.length=ti.size)(hl:ys.length=bs.length)(h3:F' ys=F2)(h2:ci Tryz.prog tbl md ops K os tm ⟨(k,F2)::vs,lv,N⟩)(hx:evD tm x=.pt k o:=by exact rfl)(hv:vs.lookup k=some F:=by (repeat (first|exact ab|assumption|refine al (by first|assumption|exact mM (by assumption)|omega) ?_)))(hyc:(evD tm y).cells=some ys:=by exact rfl)(ht:tbl tt=some ti:=by exact tbI)(hn:md.nc tbl (.store tt x y)=true:=by exact rfl):ci Tryz.prog tbl md ops K (⟨none,.store tt x y,ty,pos,af,none⟩::os) tm ⟨vs,lv,N⟩:=s0 (Fm L hv hyc ht hz hl h3 hx rfl) h2 hn
theorem i1(h:i<n)(h2:ci Tryz.prog tbl md ops K os ((t,.pt k (i*36))::tm) hp)(hx:evD tm x=.ow k 0 36 n:=by exact rfl)(hy:evD tm y=dI .i64 (i:Int):=by exact rfl)(hn:md.nc tbl (.indexAddr 22 x y)=true:=by exact rfl):ci Tryz.prog tbl md ops K (⟨some t,.indexAddr 22 x y,ty,pos,af,none⟩::os) tm hp:=s1 (iaN h hx hy) h2 hn
theorem r1(h:i<n)(h2:ci Tryz.prog tbl md ops K os ((t,.pt k (i*38))::tm) hp)(hx:(evD tm x).toOw=.ow k 0 38 n:=by exact rfl)(hy:(evD tm y).toOw=dI .i64 (i:Int):=by exact rfl)(hn:md.nc tbl (.indexAddr 71 x y)=true:=by exact rfl):ci Tryz.prog tbl md ops K (⟨some t,.indexAddr 71 x y,ty,pos,af,none⟩::os) tm hp:=stG (d:=.pt k (i*38)) tok (iaR h hx hy) h2 hn
theorem r1g'(h:i<n)(hw:c=want)(h2:ci Tryz.prog tbl md ops K os ((t,.pt k (i*38))::tm) hp)(hx:evD tm x=.gw k 38 n:=by exact rfl)(hy:evD tm y=dI .i64 (i:Int):=by exact rfl)(hj:(ops[j]?).bind (·.dst)=some s:=by exact rfl)(hc:tm.lookup s=some (.e (.lit (.bool c))):=by exact rfl)(hn:md.nc tbl (.indexAddr 71 x y)=true:=by exact rfl):ci Tryz.prog tbl md ops K (⟨some t,.indexAddr 71 x y,ty,pos,af,some (j,want)⟩::os) tm hp:=
 Kt hj hc (by subst hw;cases c <;> rfl) (m3.toOw ((AVC.snd (o:=⟨some t,.indexAddr 71 x y,ty,pos,af,some (j,want)⟩) tok (iaR h (by rw[hx];rfl) (by rw[hy];rfl))).q1 hn)) h2
theorem a1 {vs:List (Nat×List D)}{lv:List (Nat×Nat×Nat×TypeId)}{N:Nat}{tt:TypeId}{ti:TyE}{F:List E}(ht:tbl tt=some ti)(h2:ci Tryz.prog tbl md ops K os ((t,.pt N 0)::tm) ⟨(N,dC F)::vs,lv,N+1⟩)(hz:ti.zero.map E.lit=F:=by kernel_rfl)(hn:md.nc tbl (.alloc tt)=true:=by exact rfl):ci Tryz.prog tbl md ops K (⟨some t,.alloc tt,ty,pos,af,none⟩::os) tm ⟨vs,lv,N⟩:=s1 (be ht hz) h2 hn
end
end
def rv(x:Nu):Rat:=(cK x.1).getD 0
theorem eo {x:Nu}:aW x=true↔cK x.1=some (rv x):=by
 rw[gL];unfold rv
 cases cK x.1 <;> simp
theorem PC {x:Nu}(h:aW x=true):mn (rv x):=(cY.1 (eo.1 h)).1
theorem Gy {x:Nu}(h:aW x=true):x=nuR (some (rv x)):=Subtype.ext (PQ (eo.1 h))
theorem Ig {x y:Nu}(hx:aW x=true)(hy:aW y=true)(h:rv x=rv y):x=y:=by
 rw[Gy hx,Gy hy,h]
theorem tP {o:Option Rat}(h:Ao o):cK (nuR o).1=o:=zK h
theorem Cv {q:Rat}(h:mn q):aW (nuR (some q))=true∧rv (nuR (some q))=q:=by
 have:cK (nuR (some q)).1=some q:=tP (o:=some q) fun p hp=>by injection hp with hp;rw[←hp];exact h
 rw[gL];unfold rv
 rw[this]
 exact⟨rfl,rfl⟩
theorem fit0:mn 0:=⟨by decide,by decide⟩
theorem fit1:mn 1:=⟨by decide,by decide⟩
theorem LIM_one:1<LIM:=by decide
theorem of0:aW (nOf 0)=true∧rv (nOf 0)=0:=Cv (q:=((0:Int):Rat)) fit0
theorem of1:aW (nOf 1)=true∧rv (nOf 1)=1:=Cv (q:=((1:Int):Rat)) fit1
theorem ofm1:aW (nOf (-1))=true∧rv (nOf (-1))=-1:=Cv (q:=((-1:Int):Rat)) (Il fit1)
theorem Jl {x:Nu}(h:aW x=true):cU x=(rv x).num.sign:=by rw[sW,eo.1 h];rfl
theorem Ny {x:Nu}(h:aW x=true):cU x=0↔rv x=0:=by
 rw[Jl h,Ay]
 exact Rat.num_eq_zero
theorem KH {x y:Nu}(hx:aW x=true)(hy:aW y=true)(h:aW (n9 x y)=true):rv (n9 x y)=rv x+rv y:=by
 have h1:=eo.1 h
 rw[sX] at h1 ⊢
 rw[tP (HH _ _),eo.1 hx,eo.1 hy] at h1
 have h2:Bo (rv x) (rv y)=some (rv (nuR (HI (some (rv x)) (some (rv y))))):=h1
 rw[eo.1 hx,eo.1 hy]
 unfold Bo at h2
 split at h2
 ·injection h2 with h2;exact h2.symm
 ·cases h2
theorem KG {x y:Nu}(hx:aW x=true)(hy:aW y=true)(h:aW (oq x y)=true):rv (oq x y)=rv x*rv y:=by
 have h1:=eo.1 h
 rw[pK] at h1 ⊢
 rw[tP (HF _ _)] at h1
 rw[eo.1 hx,eo.1 hy] at h1 ⊢
 have h2:uS (rv x) (rv y)=some (rv (nuR (Bp (some (rv x)) (some (rv y))))):=h1
 unfold uS at h2
 split at h2
 ·injection h2 with h2;exact h2.symm
 ·cases h2
theorem yW {x y:Nu}(h:aW (n9 x y)=true):aW x=true∧aW y=true:=by
 rw[gL,sX,tP (HH _ _)] at h
 rw[gL,gL]
 cases h1:cK x.1 <;> cases h2:cK y.1 <;> simp_all [HI]
theorem EU {x:Nu}:aW (hJ x)=aW x:=by
 rw[gL,gL,yK,tP (Ct (CX _))]
 cases cK x.1 <;> rfl
theorem FY {x:Nu}:rv (hJ x)=-rv x:=by
 unfold rv
 rw[yK,tP (Ct (CX _))]
 cases cK x.1
 ·simp[LW]
 ·rfl
theorem yV {x y:Nu}(h:aW (rR x y)=true):aW x=true∧aW y=true∧rv y≠0∧rv (rR x y)=rv x / rv y:=by
 have h1:=eo.1 h
 rw[HK] at h1 ⊢
 rw[tP (N1 _ _)] at h1
 have hx:aW x=true:=by
  rw[gL]
  cases h2:cK x.1 with
  |some _=>rfl
  |none=>rw[h2] at h1;cases h1
 have hy:aW y=true:=by
  rw[gL]
  cases h2:cK y.1 with
  |some _=>rfl
  |none=>rw[h2] at h1;unfold HG Bp LX at h1;cases h3:cK x.1 <;> simp[h3] at h1
 rw[eo.1 hx,eo.1 hy] at h1 ⊢
 by_cases h0:rv y=0
 ·unfold HG Bp LX at h1
  simp[h0] at h1
 ·have h2:uS (rv x) (rv y)⁻¹=some (rv (nuR (HG (some (rv x)) (some (rv y))))):=by
   rw[←h1]
   unfold HG Bp LX
   simp[h0]
  refine⟨hx,hy,h0,?_⟩
  unfold uS at h2
  split at h2
  ·injection h2 with h2;rw[←h2,Rat.div_def]
  ·cases h2
theorem L6 {q y:Nu}(hq:aW q=true)(h0:rv q=0)(hy:aW y=true):oq q y=nOf 0:=by
 unfold nOf
 rw[pK,eo.1 hq,eo.1 hy,h0]
 show nuR (uS 0 (rv y))=_
 unfold uS
 rw[Rat.zero_mul,if_pos fit0]
 rfl
theorem Jm {q:Nu}(hq:aW q=true):oq q (nOf 0)=nOf 0:=by
 have h1:cK (nOf 0).1=some 0:=by have:=eo.1 of0.1;rw[of0.2] at this;exact this
 rw[pK,eo.1 hq,h1]
 show nuR (uS (rv q) 0)=_
 unfold uS
 rw[Rat.mul_zero,if_pos fit0]
 rfl
theorem LR {x:Rat}(h:mn x):Bo x 0=some x:=by
 unfold Bo
 rw[if_pos,Rat.add_zero]
 have h1:Nat.gcd x.den (0:Rat).den=1:=Nat.gcd_one_right _
 rw[h1]
 have e1:(0:Rat).den=1:=rfl
 have e2:(0:Rat).num=0:=rfl
 have:=LIM_one
 rw[e1,e2]
 simp only[nl,Int.mul_one,Int.zero_mul,Int.add_zero,xu]
 exact⟨by simpa using h.1,by simp;omega,by simpa using h.1,h.2⟩
theorem EV {x:Nu}(hx:aW x=true):n9 x (nOf 0)=x:=by
 have h1:=eo.1 hx
 rw[sX,h1,show cK (nOf 0).1=some 0 from by have:=eo.1 of0.1;rw[of0.2] at this;exact this]
 show nuR (Bo (rv x) 0)=x
 rw[LR (PC hx)]
 exact (Gy hx).symm
theorem EW {x q y:Nu}(hx:aW x=true)(hq:aW q=true)(hy:aW y=true)(h0:cU q=0):n9 x (oq q y)=x:=by
 rw[L6 hq ((Ny hq).1 h0) hy,EV hx]
theorem good0 {x:Nu}(h:aW x=true)(h0:cU x=0):x=nOf 0:=Ig h of0.1 (((Ny h).1 h0).trans of0.2.symm)
structure Lin where
 k:Nu
 c:List Nu
def goodR(l:Lin):Bool:=iT l.k l.c
def z4(l row:Lin)(s:Nat):Lin:=⟨n9 l.k (oq l.c[s]! row.k),(List.range l.c.length).map fun t=>if t=s then nOf 0 else n9 l.c[t]! (oq l.c[s]! row.c[t]!)⟩
theorem Hu(p:Nu)(l:List Nu):∀t,t≤l.length→r9 p t l=(l.take t).map (fun x=>rR (hJ x) p)++l.drop t
 |0,_=>by simp[r9]
 |t+1,h=>by
  have ih:=Hu p l t (by omega)
  unfold r9
  have hl:((l.take t).map fun x=>rR (hJ x) p).length=t:=by simp;omega
  have hg:(r9 p t l)[t]! =l[t]:=by
   rw[ih,xZ,ql (by omega),hl,Nat.sub_self,oQ,mK,de (by omega)]
   rfl
  rw[hg,ih,List.set_append_right _ _ (by omega),hl,Nat.sub_self,IH (by omega),List.set_cons_zero,zi,de (by omega)]
  simp only[iU,dU,cP,dA,List.cons_append,mL,Option.toList]
theorem LG(p:Nu)(l:List Nu):r9 p l.length l=l.map fun x=>rR (hJ x) p:=by
 rw[Hu p l _ (aB _)];simp
theorem wS {α:Type}[Inhabited α]{l:List α}{i:Nat}(h:i<l.length):l[i]? =some l[i]! :=by rw[cO l i h];exact de h
theorem ik {α:Type}[Inhabited α]{l:List α}{i:Nat}{x:α}(h:l[i]? =some x):l[i]! =x:=by rw[xZ,h];rfl
theorem LP {n i:Nat}(h:i<n):(List.range n)[i]? =some i:=by rw[de (by simpa using h),List.getElem_range]
theorem eF {α:Type}{n i:Nat}(f:Nat→α)(h:i<n):((List.range n).map f)[i]? =some (f i):=by rw[ep,LP h];rfl
theorem s8 {α:Type}[Inhabited α]{l:List α}{n:Nat}{f:Nat→α}(hl:l.length=n)(h:∀i,i<n→l[i]! =f i):l=(List.range n).map f:=by
 apply List.ext_getElem?
 intro i
 by_cases hi:i<n
 ·rw[wS (by omega),eF f hi,h i hi]
 ·rw[rC (by omega),rC (by simp;omega)]
theorem nG {α:Type}[Inhabited α]{l:List α}{i j:Nat}{x:α}(hj:j<l.length):(l.set i x)[j]! =if i=j then x else l[j]! :=by
 apply ik
 rw[List.getElem?_set]
 by_cases h:i=j
 ·subst h;simp[hj]
 ·rw[if_neg h,if_neg h,wS hj]
theorem Li(q:Nu)(xc:List Nu)(s:Nat)(l:List Nu):∀t i,i<l.length→(zm q xc s t l)[i]! =if i<t∧i≠s then n9 l[i]! (oq q xc[i]!) else l[i]!
 |0,i,_=>by rw[if_neg (by omega)];rfl
 |t+1,i,h=>by
  have ih:=Li q xc s l t
  unfold zm
  by_cases OB:(t:Int)=(s:Int)
  ·rw[if_pos OB,ih i h]
   by_cases hi:i<t∧i≠s
   ·rw[if_pos hi,if_pos (by omega)]
   ·rw[if_neg hi,if_neg (by omega)]
  ·rw[if_neg OB,nG (by rw[tp];exact h)]
   by_cases yR:t=i
   ·subst yR
    rw[if_pos rfl,if_pos (by omega),ih t h,if_neg (by omega)]
   ·rw[if_neg yR,ih i h]
    by_cases hi:i<t∧i≠s
    ·rw[if_pos hi,if_pos (by omega)]
    ·rw[if_neg hi,if_neg (by omega)]
theorem all_get {l:List Nu}(h:l.all aW=true){i:Nat}(hi:i<l.length):aW l[i]! =true:=by
 rw[cO l i hi];exact dc.1 h _ (rI hi)
theorem all_of {l:List Nu}(h:∀i,i<l.length→aW l[i]! =true):l.all aW=true:=by
 rw[dc]
 intro x hx
 obtain⟨i,hi,rfl⟩:=Dm.1 hx
 have:=h i hi
 rwa[cO l i hi] at this
theorem gP {k:Nu}{c:List Nu}:iT k c=true↔aW k=true∧∀i,i<c.length→aW c[i]! =true:=by
 unfold iT
 rw[bp]
 exact⟨fun h=>⟨h.1,fun i hi=>all_get h.2 hi⟩,fun h=>⟨h.1,all_of h.2⟩⟩
def ml(k:Nu)(c:List Nu)(r1:Row)(s:Nat):Lin:=⟨Dt c[s]! r1.k k,AD c[s]! r1.c s (c.set s (nOf 0))⟩
theorem yF(k:Nu)(c:List Nu)(r1:Row)(s:Nat):(ml k c r1 s).c.length=c.length:=by unfold ml;rw[zo,eU]
theorem putP_eq {k:Nu}{c:List Nu}{r1:Row}{s:Nat}(hg:iT k c=true)(hr:iT r1.k r1.c=true)(hs:s<c.length)(hl:r1.c.length=c.length):ml k c r1 s=z4 ⟨k,c⟩ ⟨r1.k,r1.c⟩ s:=by
 obtain⟨h1,h2⟩:=gP.1 hg
 obtain⟨h3,h4⟩:=gP.1 hr
 have hq:=h2 s hs
 unfold ml z4 Dt AD
 by_cases h0:cU c[s]! =0
 ·rw[if_pos h0,if_pos h0]
  congr 1
  ·exact (EW h1 hq h3 h0).symm
  ·refine s8 (by rw[eU]) fun i hi=>?_
   have hi:i<c.length:=hi
   rw[nG hi]
   by_cases his:s=i
   ·rw[if_pos his,if_pos his.symm]
   ·rw[if_neg his,if_neg (fun e=>his e.symm)]
    exact (EW (h2 i hi) hq (h4 i (by omega)) h0).symm
 ·rw[if_neg h0,if_neg h0]
  congr 1
  refine s8 (by rw[tp,eU]) fun i hi=>?_
  have hi:i<c.length:=hi
  rw[Li _ _ _ _ _ i (by rw[eU];exact hi),eU,nG hi]
  by_cases his:s=i
  ·subst his;simp
  ·rw[if_pos ⟨hi,fun e=>his e.symm⟩,if_neg his,if_neg (fun e=>his e.symm)]
theorem tQ(r:Row)(s:Nat):(ce r s).c.length=r.c.length:=by unfold ce;simp[zQ]
def pe(rows:List Row)(r1:Row)(s at' i:Nat):List Row:=(List.range rows.length).map fun j=>if j≠at'∧j<i then⟨(ml rows[j]!.k rows[j]!.c r1 s).k,(ml rows[j]!.k rows[j]!.c r1 s).c,rows[j]!.b⟩ else rows[j]!
theorem LV(at' i:Nat):wM at' (i+1)=if i=at' then wM at' i else wM at' i++[some i]:=by
 unfold wM
 rw[uK,List.filter_append,iU]
 by_cases h:i=at'
 ·rw[if_pos h];simp[h]
 ·rw[if_neg h];simp[h]
theorem K2(d:Dic)(r1:Row)(s at':Nat)(g:Bool):∀i,i≤d.rows.length→(wM at' i).foldl (vj r1 s) (d,g)=
  (⟨pe d.rows r1 s at' i,(ml d.gk d.gc r1 s).k,(ml d.gk d.gc r1 s).c,d.n,d.piv,d.most⟩,g&&(iT (ml d.gk d.gc r1 s).k (ml d.gk d.gc r1 s).c&&(List.range i).all fun j=>decide (j=at')||iT (ml d.rows[j]!.k d.rows[j]!.c r1 s).k (ml d.rows[j]!.k d.rows[j]!.c r1 s).c))
 |0,_=>by
  have h0:pe d.rows r1 s at' 0=d.rows:=by
   unfold pe
   exact (s8 rfl fun i hi=>by rw[if_neg (by omega)]).symm
  rw[h0]
  show vj r1 s (d,g) none=_
  simp[vj,Ns,Jc,lkO,lcO,ml]
 |i+1,h=>by
  have ih:=K2 d r1 s at' g i (by omega)
  rw[LV]
  by_cases hi:i=at'
  ·rw[if_pos hi,ih]
   congr 1
   ·congr 1
    unfold pe
    refine sw fun j hj=>?_
    by_cases D1:j≠at'∧j<i
    ·rw[if_pos D1,if_pos (by omega)]
    ·rw[if_neg D1,if_neg (by omega)]
   ·rw[uK,mi]
    simp[hi]
  ·rw[if_neg hi,List.foldl_append,ih]
   have kb:(pe d.rows r1 s at' i)[i]! =d.rows[i]! :=by
    apply ik
    unfold pe
    rw[eF _ (by omega),if_neg (by omega)]
   have Br:∀x:Row,(pe d.rows r1 s at' i).set i x=(List.range d.rows.length).map fun j=>if j=i then x else (pe d.rows r1 s at' i)[j]! :=fun x=>by
    refine s8 (by simp[pe]) fun j hj=>?_
    rw[nG (by simpa[pe] using hj)]
    by_cases G7:i=j
    ·rw[if_pos G7,if_pos G7.symm]
    ·rw[if_neg G7,if_neg (fun e=>G7 e.symm)]
   simp only[List.foldl_cons,List.foldl_nil,vj,Ns,Jc,lkO,lcO,kb]
   congr 1
   ·congr 1
    rw[Br]
    unfold pe
    refine sw fun j hj=>?_
    have hj:=sr.1 hj
    by_cases BO:j=i
    ·subst BO
     rw[if_pos rfl,if_pos ⟨hi,by omega⟩]
     rfl
    ·rw[if_neg BO]
     have:((List.range d.rows.length).map fun j=>if j≠at'∧j<i then (⟨(ml d.rows[j]!.k d.rows[j]!.c r1 s).k,(ml d.rows[j]!.k d.rows[j]!.c r1 s).c,d.rows[j]!.b⟩:Row) else d.rows[j]!)[j]! =_:=ik (eF _ hj)
     rw[this]
     by_cases D1:j≠at'∧j<i
     ·rw[if_pos D1,if_pos (by omega)]
     ·rw[if_neg D1,if_neg (by omega)]
   ·rw[uK,mi]
    simp[hi,ml,Bool.and_assoc]
structure Fine(d:Dic)(w:Nat):Prop where
 lg:d.gc.length=w
 lr:∀i,i<d.rows.length→d.rows[i]!.c.length=w
 gg:iT d.gk d.gc=true
 gr:∀i,i<d.rows.length→iT d.rows[i]!.k d.rows[i]!.c=true
def nL(d:Dic)(at' s:Nat):Dic:=
 let r1:=ce d.rows[at']! s
 ⟨(List.range d.rows.length).map fun j=>if j=at' then r1 else⟨(ml d.rows[j]!.k d.rows[j]!.c r1 s).k,(ml d.rows[j]!.k d.rows[j]!.c r1 s).c,d.rows[j]!.b⟩,(ml d.gk d.gc r1 s).k,(ml d.gk d.gc r1 s).c,d.n,d.piv+1,d.most⟩
theorem ER(d:Dic)(at' s:Nat)(hat:at'<d.rows.length)(hp:¬d.most≤d.piv):(ej d at' s).2=nL d at' s∧
  ((ej d at' s).1=0∨(ej d at' s).1=30)∧((ej d at' s).1=0↔iT (nL d at' s).gk (nL d at' s).gc=true∧∀i,i<d.rows.length→iT (nL d at' s).rows[i]!.k (nL d at' s).rows[i]!.c=true):=by
 have lz:∀(p:Dic×Bool) (r1:Row),pO r1 s at' d.rows.length p (wM at' d.rows.length).length=(wM at' d.rows.length).foldl (vj r1 s) p:=fun p r1=>by unfold pO;rw[List.take_length]
 unfold ej
 rw[if_neg hp]
 simp only[lz]
 obtain⟨r1,G5⟩:∃r1,r1=ce d.rows[at']! s:=⟨_,rfl⟩
 have hr1':=G5
 rw[←G5]
 obtain⟨d1,CQ⟩:∃d1:Dic,d1=⟨d.rows.set at' r1,d.gk,d.gc,d.n,d.piv+1,d.most⟩:=⟨_,rfl⟩
 have hdl:d1.rows.length=d.rows.length:=by rw[CQ];exact eU ..
 rw[←CQ]
 have hf:=K2 d1 r1 s at' (iT r1.k r1.c) d.rows.length (by omega)
 rw[hf]
 have hrow:∀j,j<d.rows.length→d1.rows[j]! =if at'=j then r1 else d.rows[j]! :=fun j hj=>by rw[CQ];exact nG hj
 have hpD:nL d at' s=⟨pe d1.rows r1 s at' d.rows.length,(ml d1.gk d1.gc r1 s).k,(ml d1.gk d1.gc r1 s).c,d1.n,d1.piv,d1.most⟩:=by
  unfold nL
  rw[←G5,CQ]
  dsimp only
  congr 1
  unfold pe
  rw[eU]
  refine sw fun j hj=>?_
  have hj:=sr.1 hj
  rw[nG hj]
  by_cases BP:j=at'
  ·subst BP;simp
  ·rw[if_neg BP,if_pos ⟨BP,hj⟩,if_neg (fun e=>BP e.symm)]
 refine⟨hpD.symm,?_,?_⟩
 ·dsimp only
  split <;> simp
 ·dsimp only
  have kb:∀i,i<d.rows.length→(nL d at' s).rows[i]! =if i=at' then r1 else⟨(ml d.rows[i]!.k d.rows[i]!.c r1 s).k,(ml d.rows[i]!.k d.rows[i]!.c r1 s).c,d.rows[i]!.b⟩:=fun i hi=>by
   apply ik
   unfold nL
   rw[←G5]
   exact eF _ hi
  constructor
  ·intro h
   split at h
   ·rename_i hb
    simp only[bp,dc] at hb
    obtain⟨h1,h2,h3⟩:=hb
    refine⟨by rw[hpD];exact h2,fun i hi=>?_⟩
    rw[kb i hi]
    by_cases sh:i=at'
    ·rw[if_pos sh];exact h1
    ·rw[if_neg sh]
     have:=h3 i (sr.2 hi)
     rw[hrow i hi,if_neg (fun e=>sh e.symm)] at this
     simpa[sh] using this
   ·cases h
  ·rintro⟨h1,h2⟩
   rw[if_pos]
   simp only[bp,dc]
   refine⟨?_,by rw[hpD] at h1;exact h1,fun i hi=>?_⟩
   ·have:=h2 at' hat
    rw[kb at' hat,if_pos rfl] at this
    exact this
   ·have hi:=sr.1 hi
    have:=h2 i hi
    rw[kb i hi] at this
    by_cases sh:i=at'
    ·simp[sh]
    ·rw[if_neg sh] at this
     rw[hrow i hi,if_neg (fun e=>sh e.symm)]
     simp only[Bool.or_eq_true]
     exact .inr this
def qg(c:List Nu):Option Nat:=c.findIdx? fun x=>decide (0<cU x)
def iG:Nat→Dic→(Int×Int)×Dic
 |0,d=>((-1,0),d)
 |f+1,d=>match qg d.gc with
  |none=>((-1,0),d)
  |some s=>match pP d.rows s default d.rows.length with
   |none=>((-1,30),d)
   |some p=>if p.1<0 then (((s:Int),0),d) else
    let q:=ej d p.1.toNat s
    if q.1=0 then iG f q.2 else ((-1,q.1),q.2)
def bn(d:Dic):(Int×Int)×Dic:=iG ((d.most - d.piv).toNat+1) d
def vJ(x:Nu)(r:Row):Row:=⟨r.k,r.c.set 0 x,r.b⟩
def nd(l:List Row):Nat→Nat
 |0=>0
 |i+1=>if pL l[i]!.k l[nd l i]!.k<0 then i else nd l i
def j8(d:Dic):Dic:=⟨d.rows.map (vJ (nOf 1)),d.gk,d.gc.set 0 (nOf (-1)),d.n,d.piv,d.most⟩
def AS(c:List Nu):Option Nat:=c.findIdx? fun x=>decide (cU x≠0)
def li(d:Dic):Int×Dic:=
 let p:=ej (j8 d) (nd d.rows d.rows.length) 0
 if p.1≠0 then p else
 let q:=bn p.2
 if q.1.2≠0∨cU q.2.gk<0 then (q.1.2,q.2) else
 if eC q.2.rows 0<0 then (0,q.2) else
 match AS q.2.rows[(eC q.2.rows 0).toNat]!.c with
 |none=>(0,q.2)
 |some s=>ej q.2 (eC q.2.rows 0).toNat s
def pZ(l:List Row)(w:Nat)(c:List Nu):Nat→Nu×List Nu
 |0=>(nOf 0,List.replicate w (nOf 0))
 |k+1=>let g:=pZ l w c k
  if 0≤eC l ((k+1:Nat):Int) then (Dt c[k]! l[(eC l ((k+1:Nat):Int)).toNat]!.k g.1,AD c[k]! l[(eC l ((k+1:Nat):Int)).toNat]!.c (-1) g.2)
  else (g.1,g.2.set (k+1) (n9 g.2[k+1]! c[k]!))
def aimD(d:Dic)(c:List Nu):Dic:=⟨d.rows.map (vJ (nOf 0)),(pZ (d.rows.map (vJ (nOf 0))) d.gc.length c c.length).1,(pZ (d.rows.map (vJ (nOf 0))) d.gc.length c c.length).2,d.n,d.piv,d.most⟩
def nB(d:Dic)(c:List Nu):Int×Dic:=(if iT (aimD d c).gk (aimD d c).gc then 0 else 30,aimD d c)
def mP(l:List Row)(nn:Nat)(of:Row→Nu)(other:Nat→Nu):List Nu:=(List.range nn).map fun j=>if 0≤eC l ((j+1:Nat):Int) then of l[(eC l ((j+1:Nat):Int)).toNat]! else other (j+1)
def fK(m nn:Nat)(A B:List Nu)(most:Int):Dic:=
 ⟨(List.range m).map fun i=>⟨B[i]!,(List.range (1+nn+m)).map (fun t=>if 1≤t∧t≤nn then hJ A[i*nn+(t - 1)]! else nOf 0),((1+nn+i:Nat):Int)⟩,nOf 0,List.replicate (1+nn+m) (nOf 0),nn,0,most⟩
structure Ans where
 kind:Int
 x:List Nu
 y:List Nu
 ray:List Nu
 deriving DecidableEq
def wU(nn:Nat)(d:Dic)(c:List Nu):Ans×Int×Int:=
 let a:=nB d c
 if a.1≠0 then (⟨0,[],[],[]⟩,0,a.1) else
 let q:=bn a.2
 if q.1.2≠0 then (⟨0,[],[],[]⟩,0,q.1.2) else
 let x:=mP q.2.rows nn Row.k fun _=>nOf 0
 if q.1.1<0 then (⟨1,x,fF q.2 nn,[]⟩,q.2.piv,0) else
 (⟨3,x,[],mP q.2.rows nn (fun r=>r.c[q.1.1.toNat]!) fun v=>if (v:Int)=q.1.1 then nOf 1 else nOf 0⟩,q.2.piv,0)
def lZ(m nn:Nat)(A B C:List Nu)(most:Int):Ans×Int×Int:=
 let d:=fK m nn A B most
 if B.any (fun b=>decide (cU b<0))=true then
  let p:=li d
  if p.1≠0 then (⟨0,[],[],[]⟩,0,p.1) else
  if cU p.2.gk<0 then (⟨2,[],fF p.2 nn,[]⟩,p.2.piv,0) else wU nn p.2 C
 else wU nn d C
section
def tR:Nat→(Nat→Rat)→Rat
 |0,_=>0
 |n+1,f=>tR n f+f n
theorem nJ {f g:Nat→Rat}:∀{n:Nat},(∀t,t<n→f t=g t)→tR n f=tR n g
 |0,_=>rfl
 |n+1,h=>by unfold tR;rw[nJ fun t ht=>h t (by omega),h n (by omega)]
theorem Cg(f g:Nat→Rat):∀n,tR n (fun t=>f t+g t)=tR n f+tR n g
 |0=>by show (0:Rat)=0+0;grind
 |n+1=>by unfold tR;rw[Cg f g n];grind
theorem Cf(a:Rat)(f:Nat→Rat):∀n,tR n (fun t=>a*f t)=a*tR n f
 |0=>by simp[tR]
 |n+1=>by unfold tR;rw[Cf a f n];grind
theorem zT:∀n,tR n (fun _=>0)=0
 |0=>rfl
 |n+1=>by unfold tR;rw[zT n];show (0:Rat)+0=0;grind
theorem Hx(a:Nat)(x:Rat):∀n,a<n→tR n (fun t=>if t=a then x else 0)=x
 |0,h=>by omega
 |n+1,h=>by
  show tR n (fun t=>if t=a then x else 0)+(if n=a then x else 0)=x
  by_cases hn:n=a
  ·subst hn
   rw[if_pos rfl,nJ (g:=fun _=>0) fun t ht=>if_neg (by omega),zT]
   grind
  ·rw[if_neg hn,Hx a x n (by omega)];grind
theorem Ce(f:Nat→Rat)(a:Nat)(x:Rat){n:Nat}(h:a<n):tR n (fun t=>if t=a then x else f t)=tR n f+(x - f a):=by
 rw[←Hx a (x - f a) n h,←Cg]
 refine nJ fun t _=>?_
 by_cases ht:t=a
 ·subst ht;rw[if_pos rfl,if_pos rfl];grind
 ·rw[if_neg ht,if_neg ht];grind
def jo(w:Nat)(k:Nu)(c:List Nu)(y:Nat→Rat):Rat:=rv k+tR w (fun t=>rv c[t]! *y t)
def Sol(d:Dic)(w:Nat)(y:Nat→Rat):Prop:=∀i,i<d.rows.length→y d.rows[i]!.b.toNat=jo w d.rows[i]!.k d.rows[i]!.c y
structure Inv(d:Dic)(w:Nat):Prop where
 fine:Fine d w
 rng:∀i,i<d.rows.length→0≤d.rows[i]!.b∧d.rows[i]!.b<w
 inj:∀i j,i<d.rows.length→j<d.rows.length→d.rows[i]!.b=d.rows[j]!.b→i=j
 zg:∀j,j<d.rows.length→d.gc[d.rows[j]!.b.toNat]! =nOf 0
 zr:∀i j,i<d.rows.length→j<d.rows.length→d.rows[i]!.c[d.rows[j]!.b.toNat]! =nOf 0
theorem xH {r:Row}{s t:Nat}(hs:s<r.c.length)(ht:t<r.c.length):(ce r s).c[t]! =if t=r.b.toNat then rR (nOf 1) r.c[s]! else if t=s then nOf 0 else rR (hJ r.c[t]!) r.c[s]! :=by
 unfold ce
 rw[LG]
 dsimp only
 rw[nG (by simpa using ht)]
 by_cases h1:r.b.toNat=t
 ·rw[if_pos h1,if_pos h1.symm]
 ·rw[if_neg h1,if_neg (fun e=>h1 e.symm),nG (by simpa using ht)]
  by_cases h2:s=t
  ·rw[if_pos h2,if_pos h2.symm]
  ·rw[if_neg h2,if_neg (fun e=>h2 e.symm)]
   apply ik
   rw[ep,wS ht];rfl
theorem FD {r:Row}{w s:Nat}(hs:s<w)(hl:r.c.length=w)(hb:r.b.toNat<w)(hg:iT r.k r.c=true)(hz:r.c[r.b.toNat]! =nOf 0)(gt:s≠r.b.toNat)(AZ:iT (ce r s).k (ce r s).c=true)(y:Nat→Rat):
  rv r.c[s]!≠0∧jo w (ce r s).k (ce r s).c y - y s=(y r.b.toNat - jo w r.k r.c y) / rv r.c[s]! :=by
 obtain⟨h1,h2⟩:=gP.1 hg
 obtain⟨h3,h4⟩:=gP.1 AZ
 have hk:(ce r s).k=rR (hJ r.k) r.c[s]! :=rfl
 rw[hk] at h3
 obtain⟨_,h6,h7,h8⟩:=yV h3
 refine⟨h7,?_⟩
 have hc:∀t,t<w→rv (ce r s).c[t]! *y t=if t=r.b.toNat then (rv r.c[s]!)⁻¹*y r.b.toNat else if t=s then 0 else -(rv r.c[s]!)⁻¹*(rv r.c[t]! *y t):=by
  intro t ht
  have h9:=h4 t (by rw[tQ];omega)
  rw[xH (by omega) (by omega)] at h9 ⊢
  by_cases e1:t=r.b.toNat
  ·rw[if_pos e1] at h9 ⊢
   rw[if_pos e1,(yV h9).2.2.2,of1.2,←e1];grind
  ·rw[if_neg e1] at h9 ⊢
   rw[if_neg e1]
   by_cases e2:t=s
   ·rw[if_pos e2,if_pos e2,of0.2];grind
   ·rw[if_neg e2] at h9 ⊢
    rw[if_neg e2,(yV h9).2.2.2,FY];grind
 unfold jo
 rw[nJ hc,Ce (fun t=>if t=s then 0 else -(rv r.c[s]!)⁻¹*(rv r.c[t]! *y t)) r.b.toNat _ hb,if_neg (fun e=>gt e.symm),Ce (fun t=>-(rv r.c[s]!)⁻¹*(rv r.c[t]! *y t)) s 0 hs,Cf,hk,h8,FY,hz,of0.2]
 grind
theorem Cn {k:Nu}{c:List Nu}{row:Lin}{w s:Nat}(hs:s<w)(hl:c.length=w)(hg:iT k c=true)(AZ:goodR (z4 ⟨k,c⟩ row s)=true)(hlr:row.c.length=w)(D2:goodR row=true)(hz:row.c[s]! =nOf 0)(y:Nat→Rat):
  jo w (z4 ⟨k,c⟩ row s).k (z4 ⟨k,c⟩ row s).c y=jo w k c y+rv c[s]! *(jo w row.k row.c y - y s):=by
 obtain⟨h1,h2⟩:=gP.1 hg
 obtain⟨h3,h4⟩:=gP.1 AZ
 obtain⟨h5,h6⟩:=gP.1 D2
 have hk:(z4 ⟨k,c⟩ row s).k=n9 k (oq c[s]! row.k):=rfl
 have CS:∀t,t<w→(z4 ⟨k,c⟩ row s).c[t]! =if t=s then nOf 0 else n9 c[t]! (oq c[s]! row.c[t]!):=fun t ht=>ik (eF _ (by show t<c.length;omega))
 have hlen:(z4 ⟨k,c⟩ row s).c.length=w:=by unfold z4;simp[hl]
 rw[hk] at h3
 have Al:rv (z4 ⟨k,c⟩ row s).k=rv k+rv c[s]! *rv row.k:=by
  rw[hk,KH h1 (yW h3).2 h3,KG (h2 s (by omega)) h5 (yW h3).2]
 have hc:∀t,t<w→rv (z4 ⟨k,c⟩ row s).c[t]! *y t=if t=s then 0 else rv c[t]! *y t+rv c[s]! *(rv row.c[t]! *y t):=by
  intro t ht
  have h9:=h4 t (by omega)
  rw[CS t ht] at h9 ⊢
  by_cases e:t=s
  ·rw[if_pos e,if_pos e,of0.2];grind
  ·rw[if_neg e] at h9 ⊢
   rw[if_neg e,KH (h2 t (by omega)) (yW h9).2 h9,KG (h2 s (by omega)) (h6 t (by omega)) (yW h9).2]
   grind
 unfold jo
 rw[Al,nJ hc,Ce (fun t=>rv c[t]! *y t+rv c[s]! *(rv row.c[t]! *y t)) s 0 hs,Cg (fun t=>rv c[t]! *y t) (fun t=>rv c[s]! *(rv row.c[t]! *y t)),Cf,hz,of0.2]
 grind
section
variable {d:Dic} {w at' s:Nat}
theorem jr:(nL d at' s).rows.length=d.rows.length:=by unfold nL;simp
theorem om {i:Nat}(hi:i<d.rows.length):(nL d at' s).rows[i]! =if i=at' then ce d.rows[at']! s else⟨(ml d.rows[i]!.k d.rows[i]!.c (ce d.rows[at']! s) s).k,(ml d.rows[i]!.k d.rows[i]!.c (ce d.rows[at']! s) s).c,d.rows[i]!.b⟩:=ik (eF _ hi)
theorem vm {i:Nat}(hi:i<d.rows.length):(nL d at' s).rows[i]!.b=if i=at' then (s:Int) else d.rows[i]!.b:=by
 rw[om hi]
 by_cases h:i=at'
 ·rw[if_pos h,if_pos h];rfl
 ·rw[if_neg h,if_neg h]
structure lx(d:Dic)(w at' s:Nat):Prop where
 inv:Inv d w
 hat:at'<d.rows.length
 hs:s<w
 nb:∀j,j<d.rows.length→d.rows[j]!.b≠s
 fine:Fine (nL d at' s) w
section
variable (h:lx d w at' s)
include h
theorem lx.turn(y:Nat→Rat):rv d.rows[at']!.c[s]!≠0∧jo w (ce d.rows[at']! s).k (ce d.rows[at']! s).c y - y s=(y d.rows[at']!.b.toNat - jo w d.rows[at']!.k d.rows[at']!.c y) / rv d.rows[at']!.c[s]! :=by
 have hr:=h.inv.rng at' h.hat
 refine FD h.hs (h.inv.fine.lr at' h.hat) (by omega) (h.inv.fine.gr at' h.hat) (h.inv.zr at' at' h.hat h.hat) (fun e=>h.nb at' h.hat (by omega)) ?_ y
 have:=h.fine.gr at' (by rw[jr];exact h.hat)
 rwa[om h.hat,if_pos rfl] at this
theorem lx.row:iT (ce d.rows[at']! s).k (ce d.rows[at']! s).c=true:=by
 have:=h.fine.gr at' (by rw[jr];exact h.hat)
 rwa[om h.hat,if_pos rfl] at this
theorem lx.lrow:(ce d.rows[at']! s).c.length=w:=by rw[tQ];exact h.inv.fine.lr at' h.hat
theorem lx.rowS:(ce d.rows[at']! s).c[s]! =nOf 0:=by
 have hl:=h.inv.fine.lr at' h.hat
 have hs:=h.hs
 have hr:=h.inv.rng at' h.hat
 rw[xH (by omega) (by omega),if_neg (fun e=>h.nb at' h.hat (by omega)),if_pos rfl]
theorem lx.put {k:Nu}{c:List Nu}(hg:iT k c=true)(hl:c.length=w):ml k c (ce d.rows[at']! s) s=z4 ⟨k,c⟩ ⟨(ce d.rows[at']! s).k,(ce d.rows[at']! s).c⟩ s:=by
 have hs:=h.hs
 have:=h.lrow
 exact putP_eq hg h.row (by omega) (by omega)
theorem lx.goalW(y:Nat→Rat):jo w (nL d at' s).gk (nL d at' s).gc y=jo w d.gk d.gc y+rv d.gc[s]! *(jo w (ce d.rows[at']! s).k (ce d.rows[at']! s).c y - y s):=by
 have h1:=h.fine.gg
 have e:ml d.gk d.gc (ce d.rows[at']! s) s=⟨(nL d at' s).gk,(nL d at' s).gc⟩:=rfl
 have e2:=(h.put h.inv.fine.gg h.inv.fine.lg).symm.trans e
 have:=Cn (row:=⟨(ce d.rows[at']! s).k,(ce d.rows[at']! s).c⟩) h.hs h.inv.fine.lg h.inv.fine.gg (by rw[e2];exact h1) h.lrow h.row h.rowS y
 rw[e2] at this
 exact this
theorem lx.rowW {i:Nat}(hi:i<d.rows.length)(sh:i≠at')(y:Nat→Rat):jo w (nL d at' s).rows[i]!.k (nL d at' s).rows[i]!.c y=jo w d.rows[i]!.k d.rows[i]!.c y+rv d.rows[i]!.c[s]! *(jo w (ce d.rows[at']! s).k (ce d.rows[at']! s).c y - y s):=by
 have h1:=h.fine.gr i (by rw[jr];exact hi)
 rw[om hi,if_neg sh] at h1 ⊢
 have e2:=h.put (h.inv.fine.gr i hi) (h.inv.fine.lr i hi)
 have:=Cn (row:=⟨(ce d.rows[at']! s).k,(ce d.rows[at']! s).c⟩) h.hs (h.inv.fine.lr i hi) (h.inv.fine.gr i hi) (by rw[←e2];exact h1) h.lrow h.row h.rowS y
 rw[←e2] at this
 exact this
theorem lx.sol(y:Nat→Rat):Sol (nL d at' s) w y↔Sol d w y:=by
 obtain⟨h0,ht⟩:=h.turn y
 have hat:=h.hat
 have key:y s=jo w (ce d.rows[at']! s).k (ce d.rows[at']! s).c y↔y d.rows[at']!.b.toNat=jo w d.rows[at']!.k d.rows[at']!.c y:=by
  constructor
  ·intro e
   rw[←e] at ht
   have:(y d.rows[at']!.b.toNat - jo w d.rows[at']!.k d.rows[at']!.c y) / rv d.rows[at']!.c[s]! =0:=by grind
   rw[Rat.div_def] at this
   have h2:=Rat.mul_eq_zero.1 this
   rcases h2 with h2|h2
   ·grind
   ·exact absurd h2 (by grind)
  ·intro e
   rw[e] at ht
   have:jo w (ce d.rows[at']! s).k (ce d.rows[at']! s).c y - y s=0:=by rw[ht,Rat.div_def];grind
   grind
 have hatS:(nL d at' s).rows[at']!.b.toNat=s∧(nL d at' s).rows[at']! =ce d.rows[at']! s:=by
  rw[om hat,if_pos rfl]
  exact⟨by show ((s:Int)).toNat=s;omega,rfl⟩
 unfold Sol
 rw[jr]
 constructor
 ·intro hy i hi
  have h1:=hy at' hat
  rw[hatS.1,hatS.2] at h1
  by_cases sh:i=at'
  ·subst sh;exact key.1 h1
  ·have h2:=hy i hi
   rw[h.rowW hi sh,vm hi,if_neg sh] at h2
   rw[h2]
   grind
 ·intro hy i hi
  have h1:=key.2 (hy at' hat)
  by_cases sh:i=at'
  ·subst sh;rw[hatS.1,hatS.2];exact h1
  ·rw[h.rowW hi sh,vm hi,if_neg sh,hy i hi]
   grind
theorem lx.goal {y:Nat→Rat}(hy:Sol d w y):jo w (nL d at' s).gk (nL d at' s).gc y=jo w d.gk d.gc y:=by
 have h1:=(h.sol y).2 hy at' (by rw[jr];exact h.hat)
 rw[om h.hat,if_pos rfl] at h1
 have h2:y s=jo w (ce d.rows[at']! s).k (ce d.rows[at']! s).c y:=by
  have e:((ce d.rows[at']! s).b).toNat=s:=by show ((s:Int)).toNat=s;omega
  rw[e] at h1;exact h1
 rw[h.goalW y]
 grind
end
end
end
section
theorem rv_nOf0 {x:Nu}(hg:aW x=true)(h:rv x=0):x=nOf 0:=Ig hg of0.1 (h.trans of0.2.symm)
section
variable {d:Dic} {w at' s:Nat}
theorem lx.toInv(h:lx d w at' s):Inv (nL d at' s) w:=by
 have hat:=h.hat
 have hs:=h.hs
 have hb:∀j,j<d.rows.length→d.rows[j]!.b.toNat<w:=fun j hj=>by have:=h.inv.rng j hj;omega
 have hrz:∀j,j<d.rows.length→j≠at'→(ce d.rows[at']! s).c[d.rows[j]!.b.toNat]! =nOf 0:=fun j hj BP=>by
  have hl:=h.inv.fine.lr at' hat
  have h1:=(gP.1 h.row).2 d.rows[j]!.b.toNat (by rw[h.lrow];exact hb j hj)
  have G5:=h.inv.rng j hj
  have hr2:=h.inv.rng at' hat
  rw[xH (by omega) (by rw[hl];exact hb j hj)] at h1 ⊢
  rw[if_neg (fun e=>BP (h.inv.inj j at' hj hat (by omega))),if_neg (fun e=>h.nb j hj (by omega))] at h1 ⊢
  refine rv_nOf0 h1 ?_
  rw[(yV h1).2.2.2,FY,h.inv.zr at' j hat hj,of0.2,Rat.div_def];grind
 have hz:∀(k:Nu) (c:List Nu),iT k c=true→c.length=w→iT (ml k c (ce d.rows[at']! s) s).k (ml k c (ce d.rows[at']! s) s).c=true→(ml k c (ce d.rows[at']! s) s).c[s]! =nOf 0∧
   ∀j,j<d.rows.length→j≠at'→c[d.rows[j]!.b.toNat]! =nOf 0→(ml k c (ce d.rows[at']! s) s).c[d.rows[j]!.b.toNat]! =nOf 0:=fun k c hg hl AZ=>by
  rw[h.put hg hl] at AZ ⊢
  have CS:∀t,t<w→(z4 ⟨k,c⟩ ⟨(ce d.rows[at']! s).k,(ce d.rows[at']! s).c⟩ s).c[t]! =if t=s then nOf 0 else n9 c[t]! (oq c[s]! (ce d.rows[at']! s).c[t]!):=fun t ht=>ik (eF _ (by show t<c.length;omega))
  refine⟨by rw[CS s hs,if_pos rfl],fun j hj BP h0=>?_⟩
  have G5:=h.inv.rng j hj
  rw[CS _ (hb j hj),if_neg (fun e=>h.nb j hj (by omega)),h0,hrz j hj BP]
  rw[Jm ((gP.1 hg).2 s (by omega)),EV of0.1]
 refine⟨h.fine,fun i hi=>?_,fun i j hi hj e=>?_,fun j hj=>?_,fun i j hi hj=>?_⟩
 ·rw[jr] at hi
  rw[vm hi]
  by_cases sh:i=at'
  ·rw[if_pos sh];omega
  ·rw[if_neg sh];exact h.inv.rng i hi
 ·rw[jr] at hi hj
  rw[vm hi,vm hj] at e
  by_cases sh:i=at' <;> by_cases BP:j=at'
  ·omega
  ·rw[if_pos sh,if_neg BP] at e;exact absurd e.symm (h.nb j hj)
  ·rw[if_neg sh,if_pos BP] at e;exact absurd e (h.nb i hi)
  ·rw[if_neg sh,if_neg BP] at e;exact h.inv.inj i j hi hj e
 ·rw[jr] at hj
  rw[vm hj]
  obtain⟨h1,h2⟩:=hz d.gk d.gc h.inv.fine.gg h.inv.fine.lg h.fine.gg
  by_cases BP:j=at'
  ·rw[if_pos BP,show ((s:Int)).toNat=s by omega];exact h1
  ·rw[if_neg BP];exact h2 j hj BP (h.inv.zg j hj)
 ·rw[jr] at hi hj
  have JL:=h.fine.gr i (by rw[jr];exact hi)
  rw[vm hj]
  rw[om hi] at JL ⊢
  by_cases sh:i=at'
  ·rw[if_pos sh]
   by_cases BP:j=at'
   ·rw[if_pos BP,show ((s:Int)).toNat=s by omega];exact h.rowS
   ·rw[if_neg BP];exact hrz j hj BP
  ·rw[if_neg sh] at JL ⊢
   obtain⟨h1,h2⟩:=hz d.rows[i]!.k d.rows[i]!.c (h.inv.fine.gr i hi) (h.inv.fine.lr i hi) JL
   by_cases BP:j=at'
   ·rw[if_pos BP,show ((s:Int)).toNat=s by omega];exact h1
   ·rw[if_neg BP];exact h2 j hj BP (h.inv.zr i j hi hj)
theorem Inv.pick(hI:Inv d w)(v:Nat→Rat):∃y,Sol d w y∧∀t,(∀j,j<d.rows.length→d.rows[j]!.b≠(t:Nat))→y t=v t:=by
 have hex:∃y:Nat→Rat,∀t,y t=(match (d.rows.findIdx? fun r=>decide (r.b=(t:Int))) with|some i=>jo w d.rows[i]!.k d.rows[i]!.c v|none=>v t):=⟨_,fun _=>rfl⟩
 obtain⟨y,hy⟩:=hex
 have h1:∀t,(∀j,j<d.rows.length→d.rows[j]!.b≠(t:Nat))→y t=v t:=fun t ht=>by
  rw[hy t]
  have:(d.rows.findIdx? fun r=>decide (r.b=(t:Int)))=none:=by
   rw[Aw]
   intro r hr
   obtain⟨j,hj,rfl⟩:=Dm.1 hr
   have:=ht j hj
   rw[cO d.rows j hj] at this
   exact bf this
  rw[this]
 refine⟨y,fun i hi=>?_,h1⟩
 have hr:=hI.rng i hi
 rw[hy]
 have:(d.rows.findIdx? fun r=>decide (r.b=((d.rows[i]!.b.toNat:Nat):Int)))=some i:=by
  rw[qk]
  refine⟨hi,?_,fun j hj=>?_⟩
  ·have:d.rows[i].b=d.rows[i]!.b:=by rw[cO d.rows i hi]
   exact aF (by omega)
  ·have h2:d.rows[j].b=d.rows[j]!.b:=by rw[cO d.rows j (by omega)]
   have:=hI.inj i j hi (by omega)
   simp only[qM]
   omega
 rw[this]
 dsimp only
 unfold jo
 congr 1
 refine nJ fun t ht=>?_
 by_cases hb:∀j,j<d.rows.length→d.rows[j]!.b≠(t:Nat)
 ·rw[h1 t hb]
 ·obtain⟨j,hj⟩:=Classical.not_forall.1 hb
  obtain⟨M1,D1⟩:=Classical.not_imp.1 hj
  have D1:=Classical.not_not.1 D1
  have:=hI.zr i j hi M1
  rw[D1,show ((t:Nat):Int).toNat=t by omega] at this
  rw[this,of0.2];grind
end
theorem C3 {c:List Nu}{s:Nat}(h:qg c=some s):s<c.length∧0<cU c[s]!∧∀t,t<s→¬0<cU c[t]! :=by
 unfold qg at h
 obtain⟨h1,h2,h3⟩:=qk.1 h
 refine⟨h1,?_,fun t ht=>?_⟩
 ·rw[cO c s h1];exact da h2
 ·have:=h3 t ht
  rw[cO c t (by omega)]
  simpa using this
theorem wo {l:List Row}{s:Nat}{z:Nu}:∀{n:Nat} {p:Int×Nu},pP l s z n=some p→p.1=-1∨∃i,i<n∧p.1=(i:Int)∧cU l[i]!.c[s]! <0∧aW p.2=true∧p.2=rR l[i]!.k (hJ l[i]!.c[s]!)
 |0,p,h=>by unfold pP at h;injection h with h;exact .inl (by rw[←h])
 |n+1,p,h=>by
  unfold pP at h
  cases hq:pP l s z n with
  |none=>rw[hq] at h;cases h
  |some q=>
   rw[hq] at h
   have ih:=wo hq
   have up:q=p→p.1=-1∨∃i,i<n+1∧p.1=(i:Int)∧cU l[i]!.c[s]! <0∧aW p.2=true∧p.2=rR l[i]!.k (hJ l[i]!.c[s]!):=by
    rintro rfl
    rcases ih with h1|⟨i,h1,h2⟩
    ·exact .inl h1
    ·exact .inr ⟨i,by omega,h2⟩
   unfold vr at h
   dsimp only at h
   split at h
   ·injection h with h;exact up h
   ·rename_i h1
    split at h
    ·cases h
    ·rename_i h2
     split at h
     ·injection h with h
      subst h
      exact .inr ⟨n,by omega,rfl,by omega,by simpa using h2,rfl⟩
     ·injection h with h;exact up h
theorem Inv.enter {d:Dic}{w s:Nat}(hI:Inv d w)(h:cU d.gc[s]!≠0):∀j,j<d.rows.length→d.rows[j]!.b≠s:=fun j hj e=>by
 have:=hI.zg j hj
 rw[e,show ((s:Int)).toNat=s by omega] at this
 rw[this,(Ny of0.1).2 of0.2] at h
 exact h rfl
structure wW(d d':Dic)(w:Nat):Prop where
 len:d'.rows.length=d.rows.length
 n:d'.n=d.n
 most:d'.most=d.most
 sol:∀y,Sol d' w y↔Sol d w y
 goal:∀y,Sol d w y→jo w d'.gk d'.gc y=jo w d.gk d.gc y
 piv:d.piv≤d'.piv
theorem wW.refl(d:Dic)(w:Nat):wW d d w:=⟨rfl,rfl,rfl,fun _=>Iff.rfl,fun _ _=>rfl,Int.le_refl _⟩
theorem wW.trans {d d' P1:Dic}{w:Nat}(h:wW d d' w)(h':wW d' P1 w):wW d P1 w:=
 ⟨h'.len.trans h.len,h'.n.trans h.n,h'.most.trans h.most,fun y=>(h'.sol y).trans (h.sol y),fun y hy=>(h'.goal y ((h.sol y).2 hy)).trans (h.goal y hy),Int.le_trans h.piv h'.piv⟩
theorem lx.same {d:Dic}{w at' s:Nat}(h:lx d w at' s):wW d (nL d at' s) w:=
 ⟨jr,rfl,rfl,h.sol,fun _ hy=>h.goal hy,by show d.piv≤d.piv+1;omega⟩
end
section
section
variable {vs:List (Nat×List D)} {lv:List (Nat×Nat×Nat×TypeId)} {N kd R G w:Nat} {C:Nat→Nat} {d:Dic}
theorem EP {A B:List D}{j:Nat}{r:Row}{F:List D}(h:F=A++iY C w j r++B)(hA:A.length=j*38):Pt F (j*38) (iY C w j r) (fun ys=>A++ys++B):=Pt.of A B hA h fun y=>rfl
theorem Jg {j:Nat}{r:Row}:Pt (iY C w j r) (0+36) [.ow (C j) 0 36 w] (fun ys=>dC (ay.f r.k)++ys++[dI .i64 r.b]):=Pt.of (dC (ay.f r.k)) [dI .i64 r.b] (i7 _) (by unfold iY bu;simp only[dU]) fun y=>rfl
theorem NF {j:Nat}{r:Row}:Pt (iY C w j r) (0+0) (dC (ay.f r.k)) (fun ys=>ys++([.ow (C j) 0 36 w]++[dI .i64 r.b])):=Pt.of [] ([.ow (C j) 0 36 w]++[dI .i64 r.b]) rfl (by unfold iY bu;simp only[dU,mL]) fun y=>rfl
theorem rowD_b {j:Nat}{r:Row}:Pt (iY C w j r) (0+37) [dI .i64 r.b] (fun ys=>bu r.k (C j) w++ys++[]):=Pt.of (bu r.k (C j) w) [] (cl _ _ _) (by unfold iY;simp) fun y=>rfl
def Ly:List E:=zN++[.lit (.slice none 0 0)]++[.lit (.int .i64 0)]
theorem Pt.all {F:List D}:Pt F 0 F id:=Pt.of [] [] rfl (by simp) fun y=>by simp
def Jt(o:Option (Int×Nu)):D:=match o with
 |none=>.tu [dI .i64 (-1),dI .i64 30]
 |some p=>.tu [dI .i64 p.1,dI .i64 0]
theorem Ju {l:List Row}{s:Nat}{z:Nu}{i:Nat}(h:pP l s z i=none):∀n,i≤n→pP l s z n=none:=by
 intro n hn
 induction n with
 |zero=>
      obtain rfl:i=0:=by omega
      exact h
 |succ n ih=>
  rcases Nat.eq_or_lt_of_le hn with e|e
  ·subst e;exact h
  ·unfold pP;rw[ih (by omega)]
theorem Mr {s:Nat}(hD:DAt vs kd R G C w d)(hs:s<w)(hm:d.rows.length≤1000000):
  HC Tryz.prog 110 [.pt kd 0,dI .i64 s] ⟨vs,lv,N⟩ (Jt (pP d.rows s default d.rows.length)) ⟨vs,lv,N⟩:=by
 refine HC.of (rs:=[.tmp 4,.tmp 5]) tok Tryz.func110 rfl rfl (dK rfl) rfl (fun cx hx h0 hok=>?_)
 simp only[fS,Nat.reduceAdd,bJ]
 have vy:=hD.hd
 have Ev:=hok.lt vy
 have hRi:(fy R d.rows).idsB (N+1)=true:=by
  cases hl:d.rows with
  |nil=>rfl
  |cons r l'=>exact aF (by have:=hok.lt (hD.hR (by rw[hl];simp));omega)
 refine rs hx fun K hK=>?_
 iterate 2 refine sa ?_
 refine .nil (hK _ _ (rs hx fun K hK=>?_))
 refine sa ?_
 refine .nil (hK _ _ (rs hx fun K hK=>?_))
 refine n1 ?_
 refine .nil (hK _ _ ?_)
 rw[←zNu]
 refine AW.seq (rs hx fun K hK=>?_)
 iterate 3 refine sa ?_
 refine c1 gI ?_
 refine Ku (R:=R) (l:=d.rows) rfl ?_
 refine sa ?_
 refine .nil (hK _ _ (AW.block (AW.loopW (fun u:Nat×(Int×Nu)=>[(0,.pt kd 0),(1,dI .i64 s),(6,dI .i64 u.2.1),(7,.pt N 0),(15,fy R d.rows),(16,dI .i64 d.rows.length),(17,dI .i64 u.1)]) (fun u=>⟨(N,dC (ay.f u.2.2))::vs,lv,N+1⟩) (fun u=>u.1≤d.rows.length∧pP d.rows s default u.1=some u.2) (fun u=>d.rows.length - u.1) (0,(-1,default)) ?_ ⟨cX _,rfl⟩ ?_)))
 ·exact wk1 h0
 ·rintro⟨i,at',q⟩ ⟨hi,hp⟩
  dsimp only at hi hp ⊢
  refine rs hx fun K hK=>?_
  refine sa ?_
  refine .nil (hK _ _ (AW.seq (AW.condS rfl (fun hb=>?_) (fun hb=>?_))))
  ·have xT:i<d.rows.length:=by have:=da hb;omega
   have gt:d.rows≠[]:=fun e=>by rw[e] at xT;simp at xT
   have hr:d.rows[i]? =some d.rows[i]! :=by rw[cO d.rows i xT];exact de xT
   obtain⟨A,B,hA,_,h3,_,_⟩:=mQ C w d.rows i hr
   have hRv:=hD.hR gt
   have BQ:=hok.lt hRv
   have hcv:=hD.hC i _ hr
   have hCN:=hok.lt hcv
   have tG:=hD.lC i _ hr
   have gN:pP d.rows s default (i+1)=vr d.rows s (at',q) i:=by
    show (match pP d.rows s default i with|none=>none|some p=>vr d.rows s p i)=_
    rw[hp]
   unfold vr at gN
   dsimp only at gN
   generalize hrow:d.rows[i]! =r at hr hcv tG h3 gN
   refine AW.skip (AW.seq (AW.block (rs hx fun K hK=>?_)))
   refine sa ?_
   refine r1 xT ?_ (by show (fy R d.rows).toOw=_;rw[pJ gt];rfl)
   refine p1 (EP h3 hA) (sV _ _ _ _) ?_
   refine a1 (F:=Ly) sT ?_
   refine sa ?_
   refine v1 (Pt.all (F:=dC Ly)) rfl (sV C w i r) rfl ?_
   refine .nil (hK _ _ (AW.seq (rs hx fun K hK=>?_)))
   iterate 2 refine sa ?_
   refine c1 (Jg (C:=C) (w:=w) (j:=i) (r:=r)) ?_
   refine sa ?_
   refine i1 hs ?_
   refine l1 (Pt.el r.c s (by omega)) ?_
   refine cq (xD _) ?_
   refine sa ?_
   refine .nil (hK _ _ (AW.condS rfl (fun hb=>?_) (fun hb=>?_)))
   ·have hsg:0≤cU r.c[s]! :=da hb
    refine AW.exit (rq hx fun K hK=>?_)
    iterate 2 refine sa ?_
    refine .nil (hK _ _ ?_)
    rw[cm (by omega)]
    exact⟨(i+1,(at',q)),wk1 h0,⟨xT,gN.trans (by rw[if_pos hsg])⟩,by dsimp only;omega⟩
   have hsg:¬0≤cU r.c[s]! :=d8 hb
   rw[if_neg hsg] at gN
   refine AW.skip (rsd [42,153] hx fun K hK=>?_)
   iterate 2 refine sa ?_
   refine l1 (NF (C:=C) (w:=w) (j:=i) (r:=r)) ?_
   iterate 2 refine sa ?_
   refine c1 (Jg (C:=C) (w:=w) (j:=i) (r:=r)) ?_
   refine sa ?_
   refine i1 hs ?_
   refine l1 (Pt.el r.c s (by omega)) ?_
   refine cq (Hn _) ?_
   refine cq (Nj _ _) ?_
   refine n1 ?_
   refine z1 ?_
   refine .nil (hK _ _ ?_)
   generalize rR r.k (hJ r.c[s]!)=q' at gN ⊢
   refine AW.seq (rs hx fun K hK=>?_)
   refine l1 (Pt.idN q') ?_
   refine cq (w_Good _) ?_
   refine sa ?_
   refine .nil (hK _ _ (AW.condS rfl (fun hb=>?_) (fun hb=>?_)))
   ·have hg:aW q'=false:=by simpa using hb
    rw[if_pos hg] at gN
    refine rs hx fun K hK=>?_
    iterate 2 refine sa ?_
    refine .nil (hK _ _ (AW.ret ?_))
    rw[Ju gN _ xT]
    exact rt2 h0
   have hg:¬aW q'=false:=by simpa using hb
   rw[if_neg hg] at gN
   refine AW.skip (rs hx fun K hK=>?_)
   refine l1 (Pt.idN q') ?_
   refine l1 (Pt.idN q) ?_
   refine cq (w_Cmp _ _) ?_
   refine sa ?_
   refine .nil (hK _ _ (rsd [] hx fun K hK=>?_))
   iterate 3 refine sa ?_
   by_cases h1:at'<0
   ·have e1:decide (at'<0)=true:=aF h1
    iterate 2 refine gn e1 ?_
    refine s1 (d:=dB true) (ar e1) ?_
    refine sa ?_
    iterate 3 refine gn rfl ?_
    iterate 11 refine gm ?_
    refine gn rfl ?_
    refine s1 (d:=dB true) (ar rfl) ?_
    refine .nil (hK _ _ ?_)
    rw[if_pos (.inl h1)] at gN
    refine AW.condS rfl (fun hb=>?_) (fun hb=>absurd hb (by simp))
    refine rqd [] hx fun K hK=>?_
    refine sa ?_
    refine l1 (Pt.idN q') ?_
    refine sa ?_
    refine t1 (Pt.idN q) rfl ?_
    refine .nil (hK _ _ (rq hx fun K hK=>?_))
    iterate 2 refine sa ?_
    refine .nil (hK _ _ ?_)
    rw[cm (by omega)]
    exact⟨(i+1,((i:Int),q')),wk1 h0,⟨xT,gN.trans rfl⟩,by dsimp only;omega⟩
   have qI:decide (at'<0)=false:=bf h1
   iterate 2 refine ga qI ?_
   refine s1 (d:=dB (decide (pL q' q<0))) (an qI) ?_
   refine sa ?_
   by_cases h2:pL q' q<0
   ·have e2:decide (pL q' q<0)=true:=aF h2
    iterate 3 refine gn e2 ?_
    iterate 11 refine gm ?_
    refine gn e2 ?_
    refine s1 (d:=dB true) (ar e2) ?_
    refine .nil (hK _ _ ?_)
    rw[if_pos (.inr (.inl h2))] at gN
    refine AW.condS rfl (fun hb=>?_) (fun hb=>absurd hb (by simp))
    refine rqd [] hx fun K hK=>?_
    refine sa ?_
    refine l1 (Pt.idN q') ?_
    refine sa ?_
    refine t1 (Pt.idN q) rfl ?_
    refine .nil (hK _ _ (rq hx fun K hK=>?_))
    iterate 2 refine sa ?_
    refine .nil (hK _ _ ?_)
    rw[cm (by omega)]
    exact⟨(i+1,((i:Int),q')),wk1 h0,⟨xT,gN.trans rfl⟩,by dsimp only;omega⟩
   have e2:decide (pL q' q<0)=false:=bf h2
   iterate 3 refine ga e2 ?_
   by_cases h3:pL q' q=0
   ·have e3:decide (pL q' q=0)=true:=aF h3
    obtain⟨a,ha,hai⟩:∃a:Nat,at'=(a:Int)∧a<i:=by
     rcases wo hp with e|⟨a,b1,b2,_⟩
     ·dsimp only at e;omega
     ·exact⟨a,b2,b1⟩
    have hra:d.rows[a]? =some d.rows[a]! :=by rw[cO d.rows a (by omega)];exact de _
    obtain⟨_,_,_,_,_,_,hPa⟩:=mQ C w d.rows a hra
    subst ha
    rw[show ((a:Int)).toNat=a by omega] at gN
    generalize d.rows[a]! =ra at hPa gN
    refine ga e3 ?_
    refine c1g rowD_b e3 ?_
    iterate 3 refine ga e3 ?_
    refine c1g gI e3 ?_
    refine ga e3 ?_
    refine r1g' (i:=a) (n:=d.rows.length) (by omega) e3 ?_ (pJ gt)
    refine ga e3 ?_
    refine c1g hPa e3 ?_
    refine ga e3 ?_
    refine g1 (d:=dB (decide (r.b<ra.b))) e2 (ar e3) ?_
    refine s1 (d:=dB (decide (r.b<ra.b))) (an e2) ?_
    refine .nil (hK _ _ (AW.condS rfl (fun hb=>?_) (fun hb=>?_)))
    ·have b8:=da hb
     rw[if_pos (.inr (.inr ⟨h3,b8⟩))] at gN
     refine rqd [] hx fun K hK=>?_
     refine sa ?_
     refine l1 (Pt.idN q') ?_
     refine sa ?_
     refine t1 (Pt.idN q) rfl ?_
     refine .nil (hK _ _ (rq hx fun K hK=>?_))
     iterate 2 refine sa ?_
     refine .nil (hK _ _ ?_)
     rw[cm (by omega)]
     exact⟨(i+1,((i:Int),q')),wk1 h0,⟨xT,gN.trans rfl⟩,by dsimp only;omega⟩
    ·have b8:=d8 hb
     rw[if_neg (by rintro (e|e|e);exact h1 e;exact h2 e;exact b8 e.2)] at gN
     refine AW.skip (rq hx fun K hK=>?_)
     iterate 2 refine sa ?_
     refine .nil (hK _ _ ?_)
     rw[cm (by omega)]
     exact⟨(i+1,((a:Int),q)),wk1 h0,⟨xT,gN.trans rfl⟩,by dsimp only;omega⟩
   ·have e3:decide (pL q' q=0)=false:=bf h3
    iterate 11 refine gn e3 ?_
    refine g1 (d:=dB false) e2 (an e3) ?_
    refine s1 (d:=dB false) (an e2) ?_
    refine .nil (hK _ _ ?_)
    rw[if_neg (by rintro (e|e|e);exact h1 e;exact h2 e;exact h3 e.1)] at gN
    refine AW.condS rfl (fun hb=>absurd hb (by simp)) (fun hb=>AW.skip (rq hx fun K hK=>?_))
    iterate 2 refine sa ?_
    refine .nil (hK _ _ ?_)
    rw[cm (by omega)]
    exact⟨(i+1,(at',q)),wk1 h0,⟨xT,gN.trans rfl⟩,by dsimp only;omega⟩
  ·refine AW.exit ?_
   have xT:i=d.rows.length:=by have:=d8 hb;omega
   refine rs hx fun K hK=>?_
   iterate 3 refine sa ?_
   refine .nil (hK _ _ (AW.ret ?_))
   rw[←xT,hp]
   exact rt2 h0
end
end
section
theorem yD {A B:List D}{C:Nat→Nat}{w j:Nat}(h:A.length=j*38)(r:Row):o5 (A++iY C w j r++B) (j*38) r.k (C j) w A ([dI .i64 r.b]++B):=⟨h,by unfold iY;simp only[dU]⟩
theorem Kw {A B:List D}{C:Nat→Nat}{w j:Nat}(h:A.length=j*38)(r:Row):Pt (A++iY C w j r++B) (j*38+37) [dI .i64 r.b] (fun ys=>A++(bu r.k (C j) w++ys)++B):=
 Pt.of (A++bu r.k (C j) w) B (by rw[c8,h,cl]) (by unfold iY;simp only[dU]) fun y=>by simp only[dU]
theorem row_k {A B:List D}{C:Nat→Nat}{w j:Nat}(k:Nu)(c:List Nu)(b:Int):A++(dC (ay.f k)++[.ow (C j) 0 36 w])++([dI .i64 b]++B)=A++iY C w j ⟨k,c,b⟩++B:=by unfold iY bu;simp only[dU]
theorem row_b {A B:List D}{C:Nat→Nat}{w j:Nat}(k:Nu)(c:List Nu)(b:Int):A++(bu k (C j) w++[dI .i64 b])++B=A++iY C w j ⟨k,c,b⟩++B:=by unfold iY;simp only[dU]
def lns(kd R at' i:Nat):List D:=.pt kd 1::((List.range i).filter fun j=>decide (j≠at')).map fun j=>.pt R (j*38)
theorem KL(kd R at' i:Nat):lns kd R at' i=(wM at' i).map fun o=>.pt (klO kd R o) (olO o):=by
 unfold lns wM
 rw[cP,pY]
 rfl
theorem Ga {kd R at' i:Nat}(h:i=at'):lns kd R at' (i+1)=lns kd R at' i:=by
 unfold lns
 rw[uK,List.filter_append,List.filter_cons_of_neg (by simp[h]),List.filter_nil,sv]
theorem F9 {kd R at' i:Nat}(h:i≠at'):lns kd R at' (i+1)=lns kd R at' i++[.pt R (i*38)]:=by
 unfold lns
 rw[uK,List.filter_append,List.filter_cons_of_pos (by simp[h]),List.filter_nil,iU]
 rfl
theorem Jo {kd R at':Nat}:∀i,(lns kd R at' i).length≤i+1
 |0=>by simp[lns]
 |i+1=>by
  have:=Jo (kd:=kd) (R:=R) (at':=at') i
  by_cases h:i=at'
  ·rw[Ga h];omega
  ·rw[F9 h,c8];simp;omega
theorem KM {kd R at' M:Nat}(hk:kd<M)(hR:R<M):∀i,(lns kd R at' i).all (D.idsC M)=true
 |0=>by simp[lns,D.idsC,hk]
 |i+1=>by
  have:=KM (at':=at') hk hR i
  by_cases h:i=at'
  ·rw[Ga h];exact this
  ·rw[F9 h,mi,this];simp[D.idsC,hR]
section
variable {vs:List (Nat×List D)} {lv:List (Nat×Nat×Nat×TypeId)} {N kd R G w:Nat} {C:Nat→Nat} {d:Dic} {at' s:Nat}
set_option maxHeartbeats 4000000 in
theorem Gv {r0:Row}(hD:DAt vs kd R G C w d)(hf:Dif d.rows.length kd R G C)(hr0:d.rows[at']? =some r0)(hs:s<w)(hb0:0≤r0.b∧r0.b<w)(hw:w≤1000000)(hm:d.rows.length≤1000000)(ka:0≤d.piv∧d.piv≤9223372036854775807)(dW:0≤d.most∧d.most≤9223372036854775807):
  HC Tryz.prog 104 [.pt kd 0,dI .i64 at',dI .i64 s] ⟨vs,lv,N⟩ (dI .i64 (ej d at' s).1) ⟨ov kd R G C w (ej d at' s).2 vs,lv,N⟩:=by
 refine HC.of (rs:=[.tmp 6]) tok Tryz.func104 rfl rfl (dK rfl) rfl (fun cx hx h0 hok=>?_)
 simp only[fS,Nat.reduceAdd,bJ]
 have hat:=(fZ.1 hr0).1
 have gt:d.rows≠[]:=fun e=>by rw[e] at hat;simp at hat
 have hRv:=hD.hR gt
 have Ev:=hok.lt hD.hd
 have BQ:=hok.lt hRv
 have Py:=hok.lt hD.hG
 obtain⟨A,B,hA,Br,heq,_,_⟩:=mQ C w d.rows at' hr0
 rw[heq] at hRv
 have hlin:=yD (B:=B) (C:=C) (w:=w) hA r0
 have hbas:=Kw (B:=B) (C:=C) (w:=w) hA r0
 obtain⟨bN,hbN⟩:∃bN:Nat,r0.b=(bN:Int):=⟨r0.b.toNat,by omega⟩
 have hbw:bN<w:=by omega
 have hcv:=hD.hC at' r0 hr0
 have hcN:=hok.lt hcv
 have tG:=hD.lC at' r0 hr0
 obtain⟨hC1,hC2,hC3⟩:=hf.C1 at' hat
 refine rs hx fun K hK=>?_
 refine sa ?_
 refine .nil (hK _ _ (AW.seq (rsd [] hx fun K hK=>?_)))
 iterate 3 refine sa ?_
 refine s1 (kI oK hD.hd Ev tbI) ?_
 iterate 3 refine sa ?_
 refine s1 (kI PX hD.hd Ev tbI) ?_
 refine sa ?_
 refine .nil (hK _ _ ?_)
 have hCj:∀j,j<d.rows.length→C j<N:=fun j hj=>hok.lt (hD.hC j _ (de hj))
 refine AW.condS rfl (fun hb=>?_) (fun hb=>?_)
 ·have hpm:d.most≤d.piv:=da hb
  have hpp:ej d at' s=(220,d):=by unfold ej;rw[if_pos hpm]
  rw[hpp]
  refine rs hx fun K hK=>?_
  refine sa ?_
  exact .nil (hK _ _ (AW.ret (Oe h0 hok (aB _) hD hf Ev BQ Py hCj (fun k ds _ _ _ _ h=>h) (fun e=>absurd e gt) rfl)))
 have hpm:d.piv<d.most:=by have:=d8 hb;omega
 refine AW.skip (rs hx fun K hK=>?_)
 iterate 3 refine sa ?_
 refine s1 (kI oK hD.hd Ev tbI) ?_
 iterate 3 refine sa ?_
 obtain⟨d1,CQ⟩:∃d1:Dic,d1=⟨d.rows,d.gk,d.gc,d.n,d.piv+1,d.most⟩:=⟨_,rfl⟩
 have Pb:d1.rows=d.rows:=by rw[CQ]
 have hdic1:[fy R d.rows]++bu d.gk G w++([dI .i64 d.n]++[dI .i64 (i64.wrap (d.piv+1))]++[dI .i64 d.most])=ni R G w d1:=by
  rw[eu (show -9223372036854775808≤d.piv+1 by omega) (by omega),CQ];rfl
 refine s0 (Fm (ys:=[dI .i64 (i64.wrap (d.piv+1))]) oK hD.hd rfl tbI rfl rfl hdic1) ?_
 refine .nil (hK _ _ (rs hx fun K hK=>?_))
 iterate 3 refine sa ?_
 refine s1 (kI (gI (d:=d1)) ab Ev tbI) ?_
 rw[Pb,pJ gt]
 refine sa ?_
 refine stG (d:=.pt R (at'*38)) tok (iaR hat) ?_
 refine sa ?_
 refine .nil (hK _ _ ?_)
 have Es:∀p:Nu,cQ ⟨(N,dC (ay.f p))::(kd,ni R G w d1)::vs,lv,N+1⟩:=fun p=>(hok.cons (aB _) Ev (rt BQ Py)).cons (jP _) (e9 _) (eS _)
 refine sj [(0,.pt kd 0),(1,dI .i64 at'),(2,dI .i64 s),(7,.pt R (at'*38)),(8,.pt N 0),(9,dI .i64 r0.b)] ⟨(N,dC (ay.f r0.c[s]!))::(kd,ni R G w d1)::vs,lv,N+1⟩ ?_ ?_
 ·have fin:∀tm:List (Nat×D),tm.lookup 0=some (.pt kd 0)→tm.lookup 1=some (dI .i64 at')→tm.lookup 2=some (dI .i64 s)→tm.lookup 7=some (.pt R (at'*38))→tm.lookup 8=some (.pt N 0)→tm.lookup 9=some (dI .i64 r0.b)→Wk cx tm ⟨(N,dC (ay.f r0.c[s]!))::(N,dC zN)::(kd,ni R G w d1)::vs,lv,N+1⟩ [(0,.pt kd 0),(1,dI .i64 at'),(2,dI .i64 s),(7,.pt R (at'*38)),(8,.pt N 0),(9,dI .i64 r0.b)] ⟨(N,dC (ay.f r0.c[s]!))::(kd,ni R G w d1)::vs,lv,N+1⟩:=fun tm a b c e f g=>
   wkS (by rw[h0];exact jP N) (aB _) (Es _) (fun j ds h=>by rw[vq];exact h) ((((((bU.nil.cons g).cons f (aF (e9 N))).cons e (aF (show R<N+1 by omega))).cons c).cons b).cons a (aF (show kd<N+1 by omega)))
  refine dw (DW.split 11 13 (by decide) ?_ ?_)
  ·refine dwg [] [0,1,2,3,4,5,6,7,8,9,10,11,12,13,14] hx (by kernel_rfl) (by kernel_rfl) (by kernel_rfl) fun K hK=>?_
   dsimp only[ez,mZ,na,List.map]
   iterate 4 refine sa ?_
   refine s1 (kI hlin.pc (al hf.dR.symm hRv) BQ tbI) ?_
   refine sa ?_
   refine s1 (iaN hs) ?_
   refine s1 (ldN (Pt.el r0.c s (by omega)) (al hC1 hcv) hcN) ?_
   iterate 3 refine sa ?_
   refine s1 (kI hbas (al hf.dR.symm hRv) BQ tbI) ?_
   refine s1 IM ?_
   refine s0 (stZ ab) ?_
   refine sa ?_
   exact .nil (hK _ _ ⟨rfl,fin _ rfl rfl rfl rfl rfl rfl⟩)
  ·refine dwg [] [0,1,2,3,4,5,6,7,8,9,10,12,13,11,14] hx (by kernel_rfl) (by kernel_rfl) (by kernel_rfl) fun K hK=>?_
   dsimp only[ez,mZ,na,List.map]
   iterate 4 refine sa ?_
   refine s1 (kI hlin.pc (al hf.dR.symm hRv) BQ tbI) ?_
   refine sa ?_
   refine s1 (iaN hs) ?_
   refine s1 (ldN (Pt.el r0.c s (by omega)) (al hC1 hcv) hcN) ?_
   iterate 3 refine sa ?_
   refine s1 IM ?_
   refine s0 (stZ ab) ?_
   refine s1 (kI hbas (al (show R≠N by omega) (al (show R≠N by omega) (al hf.dR.symm hRv))) (show R<N+1 by omega) tbI) ?_
   refine sa ?_
   exact .nil (hK _ _ ⟨rfl,fin _ rfl rfl rfl rfl rfl rfl⟩)
 refine rs hx fun K hK=>?_
 refine s1 (DC (ks:=[N])) ?_
 refine sa ?_
 refine .nil (hK _ _ ?_)
 -- the constant of the row
 obtain⟨p,hp⟩:∃p,p=r0.c[s]! :=⟨_,rfl⟩
 rw[←hp]
 refine rs hx fun K hK=>?_
 iterate 5 refine sa ?_
 have ht:=Pn (vs:=(N,dC (ay.f p))::(kd,ni R G w d1)::vs) (lv:=lv) (N:=N+1) (al (show R≠N by omega) (al hf.dR.symm hRv)) (show R<N+1 by omega) hlin.pk ab (e9 N)
 rw[row_k _ r0.c] at ht
 refine q1 (sHF ht rfl) ?_
 refine .nil (hK _ _ ?_)
 obtain⟨k1,hk1⟩:∃k1,k1=rR (hJ r0.k) p:=⟨_,rfl⟩
 rw[←hk1]
 -- its coefficients
 have Ie:R<N+1:=by omega
 have hkN1:kd<N+1:=by omega
 have hcN1:C at'<N+1:=by omega
 have OF:∀(r:Row),(A++iY C w at' r++B).all (D.idsC (N+1))=true:=fun r=>by
  rw[←Br r]
  refine wj 0 _ fun j hj=>?_
  rw[eU] at hj
  rw[bJ]
  have:=hok.lt (hD.hC j _ (de hj))
  omega
 have hokB:∀(r:Row),cQ ⟨(C at',dC ((cW ay).f r.c))::(R,A++iY C w at' r++B)::(N,dC (ay.f p))::(kd,ni R G w d1)::vs,lv,N+1⟩:=fun r=>
  (cQ.cons (N:=N+1) ((Es p).cons (aB _) Ie (OF r)) (aB _) hcN1 (eS _))
 have hTm:∀(t:Nat) (tm:List (Nat×D)),tm.lookup 0=some (.pt kd 0)→tm.lookup 1=some (dI .i64 at')→tm.lookup 2=some (dI .i64 s)→tm.lookup 7=some (.pt R (at'*38))→tm.lookup 8=some (.pt N 0)→tm.lookup 9=some (dI .i64 r0.b)→tm.lookup 10=some (.fn 152 [N])→tm.lookup 64=some (dI .i64 w)→tm.lookup 65=some (dI .i64 t)→
   bU (N+1) tm [(0,.pt kd 0),(1,dI .i64 at'),(2,dI .i64 s),(7,.pt R (at'*38)),(8,.pt N 0),(9,dI .i64 r0.b),(10,.fn 152 [N]),(64,dI .i64 w),(65,dI .i64 t)]:=fun t tm a b c e f g h i j=>
  (((((((((bU.nil.cons j).cons i).cons h (dc.2 fun k hk=>aF (by rw[qi.1 hk];omega))).cons g).cons f (aF (e9 N))).cons e (aF Ie)).cons c).cons b).cons a (aF hkN1))
 refine AW.seq (rs hx fun K hK=>?_)
 iterate 4 refine sa ?_
 refine s1 (kI (yD hA ⟨k1,r0.c,r0.b⟩).pc ab Ie tbI) ?_
 iterate 2 refine sa ?_
 refine .nil (hK _ _ (AW.block ?_))
 refine AW.loopW (fun t:Nat=>[(0,.pt kd 0),(1,dI .i64 at'),(2,dI .i64 s),(7,.pt R (at'*38)),(8,.pt N 0),(9,dI .i64 r0.b),(10,.fn 152 [N]),(64,dI .i64 w),(65,dI .i64 t)])
  (fun t=>⟨(C at',dC ((cW ay).f (r9 p t r0.c)))::(R,A++iY C w at' ⟨k1,r0.c,r0.b⟩++B)::(N,dC (ay.f p))::(kd,ni R G w d1)::vs,lv,N+1⟩) (fun t=>t≤w) (fun t=>w - t) 0 ?_ (cX _) ?_
 ·refine wkS (by rw[h0];exact jP N) (aB _) ((cQ.cons (N:=N+1) ((Es p).cons (aB _) Ie (OF ⟨k1,r0.c,r0.b⟩)) (aB _) hcN1 (eS _))) (fun j ds h=>?_) (hTm 0 _ rfl rfl rfl rfl rfl rfl rfl rfl rfl)
  rcases cD h with⟨rfl,rfl⟩|⟨_,h⟩
  ·exact al hC2 (al (show C at'≠N by omega) (al hC1 hcv))
  ·exact h
 ·intro t ht
  have O5:(r9 p t r0.c).length=w:=by rw[zQ,tG]
  refine rs hx fun K hK=>?_
  refine sa ?_
  refine .nil (hK _ _ (AW.seq (AW.condS rfl (fun hb=>?_) (fun hb=>?_))))
  ·have htn:t<w:=by have:=da hb;omega
   refine AW.skip (AW.seq (AW.block (rs hx fun K hK=>?_)))
   iterate 2 refine sa ?_
   refine .nil (hK _ _ (rq hx fun K hK=>?_))
   iterate 5 refine sa ?_
   refine s1 (kI (yD hA ⟨k1,r0.c,r0.b⟩).pc (al hC2.symm ab) Ie tbI) ?_
   refine sa ?_
   refine s1 (iaN htn) ?_
   refine q1 (sHF (Pn ab hcN1 (Pt.el (r9 p t r0.c) t (by omega)) (al (show N≠C at' by omega) (al (show N≠R by omega) ab)) (e9 N)) rfl) ?_
   refine .nil (hK _ _ (rq hx fun K hK=>?_))
   iterate 2 refine sa ?_
   refine .nil (hK _ _ ?_)
   rw[cm (by omega)]
   refine⟨t+1,wkS (by rw[h0];exact jP N) (aB _) ?_ (fun j ds h=>?_) (hTm (t+1) _ rfl rfl rfl rfl rfl rfl rfl rfl rfl),htn,by omega⟩
   ·exact (cQ.cons (N:=N+1) ((Es p).cons (aB _) Ie (OF ⟨k1,r0.c,r0.b⟩)) (aB _) hcN1 (eS _))
   ·rw[Pt.el_set _ _ (by omega),vq]
    exact h
  ·refine AW.exit ?_
   have htn:t=w:=by have:=d8 hb;omega
   subst htn
   obtain⟨c1,JR⟩:∃c1,c1=r9 p t r0.c:=⟨_,rfl⟩
   rw[←JR] at O5 ⊢
   -- the row's own places
   refine rsd [28,153] hx fun K hK=>?_
   iterate 4 refine sa ?_
   refine s1 (kI (yD hA ⟨k1,r0.c,r0.b⟩).pc (al hC2.symm ab) Ie tbI) ?_
   iterate 5 refine sa ?_
   refine s1 (kI (yD hA ⟨k1,r0.c,r0.b⟩).pc (al hC2.symm ab) Ie tbI) ?_
   iterate 2 refine sa ?_
   refine cq (Eh 0 (by omega)) ?_
   refine cq (Eh 1 (by omega)) ?_
   refine s1 (ldN (Pt.idN p) (al (show N≠C at' by omega) (al (show N≠R by omega) ab)) (e9 N)) ?_
   refine cq (Nj _ p) ?_
   refine sa ?_
   refine s1 (iaN hs) ?_
   refine s0 (stN (Pt.el c1 s (by omega)) ab (Pt.el_set c1 s (by omega) _)) ?_
   refine s1 (iaN (i:=bN) hbw rfl (congrArg (dI .i64) hbN)) ?_
   refine s0 (stN (Pt.el (c1.set s (nOf 0)) bN (by rw[eU];omega)) ab (Pt.el_set (c1.set s (nOf 0)) bN (by rw[eU];omega) _)) ?_
   iterate 2 refine sa ?_
   refine s0 (Fm (ys:=[dI .i64 s]) (Kw hA ⟨k1,r0.c,r0.b⟩) (al hC2.symm (al hC2.symm (al hC2.symm ab))) rfl tbI rfl rfl (row_b k1 (((c1.set s (nOf 0)).set bN (rR (nOf 1) p))) s)) ?_
   refine .nil (hK _ _ ?_)
   -- the dictionary with the row
   obtain⟨r1,G5⟩:∃r1:Row,r1=⟨k1,(c1.set s (nOf 0)).set bN (rR (nOf 1) p),s⟩:=⟨_,rfl⟩
   obtain⟨d2,CP⟩:∃d2:Dic,d2=⟨d.rows.set at' r1,d.gk,d.gc,d.n,d.piv+1,d.most⟩:=⟨_,rfl⟩
   have hr1c:r1.c.length=t:=by rw[G5];show (List.set _ _ _).length=t;rw[eU,eU];exact O5
   have hrowN:(gl C t 0 (d.rows.set at' r1)).all (D.idsC N)=true:=wj 0 _ fun j hj=>by
    rw[eU] at hj
    rw[bJ];exact hCj j hj
   obtain⟨LD,Mg⟩:∃v,v=(C at',dC ((cW ay).f r1.c))::(R,gl C t 0 (d.rows.set at' r1))::(kd,ni R G t d1)::vs:=⟨_,rfl⟩
   have CK:cQ ⟨LD,lv,N⟩:=by
    rw[Mg]
    exact ((hok.cons (aB _) Ev (rt BQ Py)).cons (aB _) BQ hrowN).cons (aB _) hcN (eS _)
   have hfr1:∀k ds,k≠kd→k≠R→k≠C at'→vs.lookup k=some ds→LD.lookup k=some ds:=fun k ds h1 h2 h3 h=>by
    rw[Mg];exact al h3 (al h2 (al h1 h))
   have hD2:DAt LD kd R G C t d2:=by
    have hDa:DAt ((kd,ni R G t d1)::vs) kd R G C t d1:=hD.setDic hf d1 Pb (by rw[CQ];exact hD.lG) ab (al hf.dG.symm (by rw[CQ];exact hD.hG)) fun k ds h1 _ h=>al h1 h
    have:=hDa.setRow (vs2:=LD) (by rw[Pb];exact hf) (by rw[Pb];exact hat) r1 hr1c (by rw[Mg,Pb];exact al hC2.symm ab) (by rw[Mg];exact ab) fun k ds h1 h2 h=>by rw[Mg];exact al h2 (al h1 h)
    rw[CP]
    rw[CQ] at this
    exact this
   have Gp:d2.rows.length=d.rows.length:=by rw[CP];exact eU ..
   have CO:Dif d2.rows.length kd R G C:=by rw[Gp];exact hf
   have Mi:d2.rows≠[]:=fun e=>by rw[e] at Gp;simp at Gp;omega
   have hr2:d2.rows[at']? =some r1:=by rw[CP];exact II hat
   refine AW.weak (wkS (tm':=[(0,.pt kd 0),(1,dI .i64 at'),(2,dI .i64 s),(7,.pt R (at'*38))]) (by rw[h0];exact aB N) (jP N) CK (fun j ds h=>?_) (bU.cons (t:=0) (d:=.pt kd 0) (bU.cons (t:=1) (d:=dI .i64 at') (bU.cons (t:=2) (d:=dI .i64 s) (bU.cons (t:=7) (d:=.pt R (at'*38)) bU.nil rfl (aF BQ)))) rfl (aF Ev))) ?_
   ·have hj:=CK.lt h
    rw[Mg] at h
    rcases cD h with⟨rfl,rfl⟩|⟨M1,h⟩
    ·refine al hC2 ?_
     rw[G5];exact ab
    rcases cD h with⟨rfl,rfl⟩|⟨D1,h⟩
    ·rw[Br,G5];exact ab
    exact al D1 (al M1 (al M1 (al M1 (al D1 (al (show j≠N by omega) h)))))
   obtain⟨A2,B2,_,_,_,hlin2,_⟩:=mQ C t d2.rows at' hr2
   refine rs hx fun K hK=>?_
   iterate 3 refine sa ?_
   refine s1 (Bj hlin2.pa (hD2.hR Mi) BQ yA (cl _ _ _)) ?_
   refine q1 (sHC (JW (hD2.hC at' r1 hr2) hr1c hw) rfl (.inr (Fr.refl _))) ?_
   refine sa ?_
   refine .nil (hK _ _ (rs hx fun K hK=>?_))
   iterate 3 refine sa ?_
   refine q1 (litR tok zS xI rfl rfl) ?_
   refine sa ?_
   refine .nil (hK _ _ ?_)
   -- the lines
   obtain⟨ok0,hok0⟩:∃b,b=iT r1.k r1.c:=⟨_,rfl⟩
   rw[←hok0]
   obtain⟨m,O4⟩:∃m,m=d2.rows.length:=⟨_,rfl⟩
   have hmm:m=d.rows.length:=O4.trans Gp
   have Gm:∀i id nx,N≤nx→id<nx→cQ ⟨(id,lns kd R at' i)::LD,lv,nx⟩:=fun i id nx h1 h2=>CK.cons h1 h2 (KM (by omega) (by omega) i)
   have hTmL:∀(i id n nx:Nat) (tm:List (Nat×D)),N≤nx→id<nx→tm.lookup 0=some (.pt kd 0)→tm.lookup 1=some (dI .i64 at')→tm.lookup 2=some (dI .i64 s)→tm.lookup 7=some (.pt R (at'*38))→tm.lookup 12=some (dB ok0)→tm.lookup 13=some (.gw id 1 n)→tm.lookup 113=some (dI .i64 m)→tm.lookup 114=some (dI .i64 i)→
     bU nx tm [(0,.pt kd 0),(1,dI .i64 at'),(2,dI .i64 s),(7,.pt R (at'*38)),(12,dB ok0),(13,.gw id 1 n),(113,dI .i64 m),(114,dI .i64 i)]:=fun i id n nx tm h1 h2 a b c e f g h j=>
    ((((((((bU.nil.cons j).cons h).cons g (aF h2)).cons f).cons e (aF (show R<nx by omega))).cons c).cons b).cons a (aF (show kd<nx by omega)))
   refine AW.seq (rs hx fun K hK=>?_)
   iterate 3 refine sa ?_
   refine s1 (kI (gI (d:=d2)) (al (show kd≠N by omega) hD2.hd) hkN1 tbI) ?_
   rw[pJ Mi]
   refine stG (d:=dI .i64 d2.rows.length) tok (AE AN sT) ?_
   refine sa ?_
   refine .nil (hK _ _ ?_)
   rw[←O4]
   refine AW.block ?_
   refine AW.loopW (fun st:Nat×Nat×Nat=>[(0,.pt kd 0),(1,dI .i64 at'),(2,dI .i64 s),(7,.pt R (at'*38)),(12,dB ok0),(13,.gw st.2.1 1 (lns kd R at' st.1).length),(113,dI .i64 m),(114,dI .i64 st.1)])
    (fun st=>⟨(st.2.1,lns kd R at' st.1)::LD,lv,st.2.2⟩) (fun st=>st.1≤m∧N≤st.2.1∧st.2.1<st.2.2) (fun st=>m - st.1) (0,N,N+1) ?_ ⟨cX _,aB _,e9 _⟩ ?_
   ·exact wkS (by rw[h0];exact jP N) (aB _) (Gm 0 N (N+1) (jP _) (e9 _)) (fun j ds h=>h) (hTmL 0 N 1 (N+1) _ (jP _) (e9 _) rfl rfl rfl rfl rfl rfl rfl rfl)
   ·rintro⟨i,id,nx⟩ ⟨hi,hid,rU⟩
    dsimp only at hi hid rU ⊢
    refine rs hx fun K hK=>?_
    refine sa ?_
    refine .nil (hK _ _ (AW.seq (AW.condS rfl (fun hb=>?_) (fun hb=>?_))))
    ·have Ew:i<m:=by have:=da hb;omega
     refine AW.skip (AW.seq (AW.block (rs hx fun K hK=>?_)))
     iterate 2 refine sa ?_
     refine .nil (hK _ _ (rs hx fun K hK=>?_))
     iterate 3 refine sa ?_
     refine .nil (hK _ _ (AW.condS rfl (fun hb=>?_) (fun hb=>?_)))
     ·have sh:i≠at':=by have:=da hb;omega
      refine rq hx fun K hK=>?_
      iterate 4 refine sa ?_
      refine s1 (kI (gI (d:=d2)) (al (show kd≠id by omega) hD2.hd) (show kd<nx by omega) tbI) ?_
      rw[pJ Mi]
      refine sa ?_
      refine stG (d:=.pt R (i*38)) tok (iaR (i:=i) (n:=d2.rows.length) (by omega)) ?_
      refine sa ?_
      refine q1 (litR tok zS xI rfl rfl) ?_
      refine q1 (appR tok (k:=id) (ky:=nx) (ds:=lns kd R at' i) zS xI (al (show id≠nx by omega) ab) ab rfl rfl (xu _).symm rfl (by have:=Jo (kd:=kd) (R:=R) (at':=at') i;show (_+1)*8≤_;omega)) ?_
      refine sa ?_
      refine .nil (hK _ _ (rq hx fun K hK=>?_))
      iterate 2 refine sa ?_
      refine .nil (hK _ _ ?_)
      rw[cm (by omega)]
      have hlen:(lns kd R at' (i+1)).length=(lns kd R at' i).length+1:=by rw[F9 sh,c8];rfl
      refine⟨(i+1,nx+1,nx+1+1),wkS (by rw[h0];show N≤nx+1+1;omega) (aB _) (Gm (i+1) (nx+1) (nx+1+1) (by omega) (by omega)) (fun j ds h=>?_) (by
       dsimp only
       rw[hlen]
       exact hTmL (i+1) (nx+1) _ (nx+1+1) _ (by omega) (by omega) rfl rfl rfl rfl rfl rfl rfl rfl),⟨Ew,by show N≤nx+1;omega,e9 _⟩,by show m - (i+1)<m - i;omega⟩
      rcases cD h with⟨rfl,rfl⟩|⟨hj,h⟩
      ·rw[F9 sh];exact ab
      ·have hjN:=CK.lt h
       exact al hj (wn (by simp;omega) (al (show j≠nx by omega) (al (show j≠id by omega) h)))
     ·have sh:i=at':=by have:=d8 hb;simp at this;omega
      refine AW.skip (rq hx fun K hK=>?_)
      iterate 2 refine sa ?_
      refine .nil (hK _ _ ?_)
      rw[cm (by omega)]
      refine⟨(i+1,id,nx),wkS (by rw[h0];show N≤nx;omega) (aB _) (Gm (i+1) id nx (by omega) rU) (fun j ds h=>?_) (by
       dsimp only
       rw[Ga sh]
       exact hTmL (i+1) id _ nx _ (by omega) rU rfl rfl rfl rfl rfl rfl rfl rfl),⟨Ew,hid,rU⟩,by show m - (i+1)<m - i;omega⟩
      dsimp only at h
      rw[Ga sh] at h
      exact h
    ·refine AW.exit ?_
     have zG:i=m:=by have:=d8 hb;omega
     subst zG
     -- the lines,one by one
     have hiat:at'<i:=by omega
     obtain⟨P,hP⟩:∃P:Nat→Dic×Bool,P=pO r1 s at' i (d2,ok0):=⟨_,rfl⟩
     have hP0:P 0=(d2,ok0):=by rw[hP];rfl
     have hPs:∀u o,(wM at' i)[u]? =some o→P (u+1)=vj r1 s (P u) o:=fun u o h=>by rw[hP];exact pO_succ h
     have hLl:(lns kd R at' i).length=(wM at' i).length:=by rw[KL,bw]
     have hLle:=Jo (kd:=kd) (R:=R) (at':=at') i
     refine AW.seq (rs hx fun K hK=>?_)
     refine sa ?_
     refine stG (d:=dI .i64 (lns kd R at' i).length) tok (AE zS xI) ?_
     refine sa ?_
     refine .nil (hK _ _ (AW.block ?_))
     refine AW.loopW (fun st:Nat×List (Nat×List D)=>[(2,dI .i64 s),(7,.pt R (at'*38)),(12,dB (P st.1).2),(131,.gw id 1 (lns kd R at' i).length),(132,dI .i64 (lns kd R at' i).length),(133,dI .i64 st.1)])
      (fun st=>⟨st.2,lv,nx⟩)
      (fun st=>st.1≤(lns kd R at' i).length∧DAt st.2 kd R G C t (P st.1).1∧cQ ⟨st.2,lv,nx⟩∧st.2.lookup id=some (lns kd R at' i)∧(P st.1).1.rows.length=i∧(P st.1).1.rows[at']? =some r1∧
       ∀k ds,k≠kd→k≠R→k≠G→(∀j,j<i→k≠C j)→LD.lookup k=some ds→st.2.lookup k=some ds)
      (fun st=>(lns kd R at' i).length - st.1) (0,(id,lns kd R at' i)::LD) ?_ ?_ ?_
     ·refine wkS (by rw[h0];show N≤nx;omega) (aB _) (Gm i id nx (by omega) rU) (fun j ds h=>h) ?_
      dsimp only
      rw[hP0]
      exact bU.cons (t:=2) (d:=dI .i64 s) (bU.cons (t:=7) (d:=.pt R (at'*38)) (bU.cons (t:=12) (d:=dB ok0) (bU.cons (t:=131) (d:=.gw id 1 (lns kd R at' i).length) (bU.cons (t:=132) (d:=dI .i64 (lns kd R at' i).length) (bU.cons (t:=133) (d:=dI .i64 (0:Nat)) bU.nil rfl rfl) rfl rfl) rfl (aF rU)) rfl rfl) rfl (aF (show R<nx by omega))) rfl rfl
     ·dsimp only
      rw[hP0]
      refine⟨cX _,hD2.look fun k ds hk h=>al ?_ h,Gm i id nx (by omega) rU,ab,by rw[hmm];exact Gp,hr2,fun k ds _ _ _ _ h=>al (by have:=CK.lt h;omega) h⟩
      have:=CK.lt h
      omega
     ·rintro⟨u,v⟩ ⟨hu,hDu,OQ,hvid,E5,hru,hfru⟩
      dsimp only at hu hDu OQ hvid E5 hru hfru ⊢
      obtain⟨du,hdu⟩:∃x,x=(P u).1:=⟨_,rfl⟩
      obtain⟨oku,OP⟩:∃x,x=(P u).2:=⟨_,rfl⟩
      rw[←hdu] at hDu E5 hru
      rw[←OP]
      have hfu:Dif du.rows.length kd R G C:=by rw[E5,hmm];exact hf
      refine rs hx fun K hK=>?_
      refine sa ?_
      refine .nil (hK _ _ (AW.seq (AW.condS rfl (fun hb=>?_) (fun hb=>?_))))
      ·have JA:u<(lns kd R at' i).length:=by have:=da hb;omega
       obtain⟨o,ho⟩:∃o,(wM at' i)[u]? =some o:=⟨_,de (by omega)⟩
       obtain⟨hoa,hoi⟩:=NW (er ho)
       have A1:(lns kd R at' i)[u]? =some (.pt (klO kd R o) (olO o)):=by rw[KL,ep,ho];rfl
       obtain⟨F,A3,B3,hF,hLi,hcO,hlO,H4,Bt⟩:=lineO hDu hfu o (fun j hj=>by rw[E5];exact hoi j hj)
       have hklN:=OQ.lt hF
       have hkcN:=OQ.lt hcO
       refine AW.skip (AW.seq (AW.block (rs hx fun K hK=>?_)))
       refine stG (d:=.pt id u) tok (iaP JA) ?_
       refine s1 (kI (Pt.cell A1) hvid rU xI) ?_
       refine sa ?_
       refine .nil (hK _ _ (rs hx fun K hK=>?_))
       iterate 3 refine sa ?_
       refine s1 (kI hLi.pc hF hklN tbI) ?_
       refine sa ?_
       refine s1 (iaN hs) ?_
       refine s1 (ldN (Pt.el (lcO du o) s (by omega)) hcO hkcN) ?_
       refine s1 IM ?_
       refine s0 (stZ ab) ?_
       refine .nil (hK _ _ ?_)
       obtain⟨q,hq⟩:∃q,q=(lcO du o)[s]! :=⟨_,rfl⟩
       rw[←hq]
       refine rsd [28] hx fun K hK=>?_
       iterate 3 refine sa ?_
       refine s1 (kI hLi.pc (al (show _≠nx by omega) (al (show _≠nx by omega) hF)) (show klO kd R o<nx+1 by omega) tbI) ?_
       refine sa ?_
       refine cq (Eh 0 (by omega)) ?_
       refine s1 (iaN hs) ?_
       refine s0 (stN (Pt.el (lcO du o) s (by omega)) (al (show _≠nx by omega) (al (show _≠nx by omega) hcO)) (Pt.el_set (lcO du o) s (by omega) _)) ?_
       refine .nil (hK _ _ ?_)
       have hneu:du.rows≠[]:=fun e=>by rw[e] at hru;simp at hru
       obtain⟨A4,B4,_,_,_,hlinr,_⟩:=mQ C t du.rows at' hru
       have hidk:klO kd R o<N∧kcO G C o<N∧R≠kcO G C o∧C at'≠kcO G C o∧C at'≠klO kd R o:=by
        cases o with
        |none=>exact⟨Ev,Py,hf.RG,hC3,hC1⟩
        |some j=>
         have hj:=hoi j rfl
         have O6:j<d.rows.length:=by omega
         exact⟨BQ,hCj j O6,(hf.C1 j O6).2.1.symm,fun e=>hoa (by rw[hf.C2 at' j hat O6 e]),hC2⟩
       obtain⟨hk1N,hk2N,hRkc,hakc,hakl⟩:=hidk
       refine rsd [] hx fun K hK=>?_
       refine sa ?_
       refine s1 (ldN (Pt.idN q) (al (show nx≠kcO G C o by omega) ab) (e9 nx)) ?_
       iterate 3 refine sa ?_
       refine s1 (Bj hlinr.pa (al hRkc (al (show R≠nx by omega) (al (show R≠nx by omega) (hDu.hR hneu)))) (show R<nx+1 by omega) yA (cl _ _ _)) ?_
       refine sa ?_
       refine q1 (sHC (h_add (vs:=(kcO G C o,dC ((cW ay).f ((lcO du o).set s (nOf 0))))::(nx,dC (ay.f q))::(nx,dC zN)::v) (lv:=lv) (N:=nx+1) (kx:=C at') (xc:=r1.c) (but:=(s:Int)) (al H4 (al (show klO kd R o≠nx by omega) (al (show klO kd R o≠nx by omega) hF))) hLi ab (by rw[eU];exact hlO)
        (al hakc (al (show C at'≠nx by omega) (al (show C at'≠nx by omega) (hDu.hC at' r1 hru)))) hr1c H4 hakc hakl hw) rfl (.inl (by kernel_rfl))) ?_
       refine .nil (hK _ _ ?_)
       obtain⟨k2,Al⟩:∃x,x=Dt q r1.k (lkO du o):=⟨_,rfl⟩
       obtain⟨c2,mq⟩:∃x,x=AD q r1.c s ((lcO du o).set s (nOf 0)):=⟨_,rfl⟩
       rw[←Al,←mq]
       have hc2l:c2.length=t:=by rw[mq,zo,eU];exact hlO
       have hPn:P (u+1)=(Jc du o k2 c2,oku&&iT k2 c2):=by
        rw[hPs u o ho,Al,mq,hq,hdu,OP];rfl
       have Bs:cQ ⟨(kcO G C o,dC ((cW ay).f c2))::(klO kd R o,A3++bu k2 (kcO G C o) t++B3)::v,lv,nx⟩:=
        cQ.cons (N:=nx) (OQ.cons (aB _) hklN (hLi.pa.ids (by rw[cl,cl]) (OQ.var _ F hF).2 (ja hkcN))) (aB _) hkcN (eS _)
       have fin:∀tm:List (Nat×D),tm.lookup 2=some (dI .i64 s)→tm.lookup 7=some (.pt R (at'*38))→tm.lookup 12=some (dB (oku&&iT k2 c2))→tm.lookup 131=some (.gw id 1 (lns kd R at' i).length)→tm.lookup 132=some (dI .i64 (lns kd R at' i).length)→tm.lookup 133=some (dI .i64 ((u+1:Nat):Int))→
         ∃st:Nat×List (Nat×List D),Wk cx tm ⟨(kcO G C o,dC ((cW ay).f c2))::(klO kd R o,A3++bu k2 (kcO G C o) t++B3)::(kcO G C o,dC ((cW ay).f ((lcO du o).set s (nOf 0))))::(nx,dC (ay.f q))::(nx,dC zN)::v,lv,nx+1⟩
          [(2,dI .i64 s),(7,.pt R (at'*38)),(12,dB (P st.1).2),(131,.gw id 1 (lns kd R at' i).length),(132,dI .i64 (lns kd R at' i).length),(133,dI .i64 st.1)] ⟨st.2,lv,nx⟩∧
          (st.1≤(lns kd R at' i).length∧DAt st.2 kd R G C t (P st.1).1∧cQ ⟨st.2,lv,nx⟩∧st.2.lookup id=some (lns kd R at' i)∧(P st.1).1.rows.length=i∧(P st.1).1.rows[at']? =some r1∧
           ∀k ds,k≠kd→k≠R→k≠G→(∀j,j<i→k≠C j)→LD.lookup k=some ds→st.2.lookup k=some ds)∧(lns kd R at' i).length - st.1<(lns kd R at' i).length - u:=fun tm a b c e f g=>by
        refine⟨(u+1,(kcO G C o,dC ((cW ay).f c2))::(klO kd R o,A3++bu k2 (kcO G C o) t++B3)::v),wkS (by rw[h0];show N≤nx;omega) (jP nx) Bs (fun j ds h=>?_) ?_,⟨by show u+1≤_;omega,?_,Bs,?_,?_,?_,fun k ds h1 h2 h3 h4 h=>?_⟩,by show (lns kd R at' i).length - (u+1)<_;omega⟩
        ·have hj:=Bs.lt h
         rcases cD h with⟨rfl,rfl⟩|⟨M1,h⟩
         ·exact ab
         rcases cD h with⟨rfl,rfl⟩|⟨D1,h⟩
         ·exact al H4 ab
         ·exact al M1 (al D1 (al M1 (al (show j≠nx by omega) (al (show j≠nx by omega) h))))
        ·dsimp only
         rw[hPn]
         exact (((((bU.nil.cons g).cons f).cons e (aF rU)).cons c).cons b (aF (show R<nx by omega))).cons a
        ·dsimp only
         rw[hPn]
         exact Bt _ k2 c2 hc2l (al H4 ab) ab fun k ds h1 h2 h=>al h2 (al h1 h)
        ·exact al (show id≠kcO G C o by omega) (al (show id≠klO kd R o by omega) hvid)
        ·dsimp only
         rw[hPn,NC];exact E5
        ·dsimp only
         rw[hPn,setO_ne hoa];exact hru
        ·have hkk:k≠klO kd R o∧k≠kcO G C o:=by
          cases o with
          |none=>exact⟨h1,h3⟩
          |some j=>exact⟨h2,h4 j (hoi j rfl)⟩
         exact al hkk.2 (al hkk.1 (hfru k ds h1 h2 h3 h4 h))
       refine rq hx fun K hK=>?_
       iterate 2 refine sa ?_
       rcases az oku with JG|JG
       ·iterate 2 refine ga JG ?_
        refine g1 (d:=.ag (bu k2 (kcO G C o) t)) JG (Bj (hLi.new k2).pa (al H4 ab) (show klO kd R o<nx+1 by omega) yA (cl _ _ _)) ?_
        refine Kt rfl rfl (by rw[JG];rfl) (sHC (JW ab hc2l hw) rfl (.inr (Fr.refl _))) ?_
        refine s1 (ar JG) ?_
        refine sa ?_
        refine .nil (hK _ _ (rq hx fun K hK=>?_))
        iterate 2 refine sa ?_
        refine .nil (hK _ _ ?_)
        rw[cm (by omega)]
        exact fin _ rfl rfl (by rw[JG];rfl) rfl rfl rfl
       ·iterate 4 refine aG rfl rfl JG ?_
        refine s1 (an JG) ?_
        refine sa ?_
        refine .nil (hK _ _ (rq hx fun K hK=>?_))
        iterate 2 refine sa ?_
        refine .nil (hK _ _ ?_)
        rw[cm (by omega)]
        exact fin _ rfl rfl (by rw[JG];rfl) rfl rfl rfl
      ·refine AW.exit ?_
       have JA:u=(lns kd R at' i).length:=by have:=d8 hb;omega
       have JE:d.rows[at']! =r0:=by rw[cO d.rows at' hat];exact (fZ.1 hr0).2
       have hr1t:r1=ce r0 s:=by
        rw[G5,hk1,JR,hp]
        unfold ce
        rw[show r0.b.toNat=bN by omega,show r0.c.length=t from tG]
       have hpp:ej d at' s=(if oku then 0 else 30,du):=by
        unfold ej
        rw[if_neg (by omega)]
        dsimp only
        rw[JE,←hr1t,←hmm,←hok0,←CP,←hLl,←JA,←show P=pO r1 s at' i (d2,ok0) from hP,←hdu,←OP]
       rw[hpp]
       have hlen':du.rows.length=d.rows.length:=by rw[E5,hmm]
       have fin2:∀(tm:List (Nat×D)) (e:Int),tm.lookup 6=some (dI .i64 e)→∃tm',Wk cx tm ⟨v,lv,nx⟩ tm' ⟨ov kd R G C t du vs,lv,N⟩∧sQ tbl [.tmp 6] tm' ⟨ov kd R G C t du vs,lv,N⟩ (dI .i64 e):=fun tm e h=>
        Oe h0 hok (by omega) hDu hfu Ev BQ Py (fun j hj=>hCj j (by omega)) (fun k ds h1 h2 h3 h4 h=>hfru k ds h1 h2 h3 (fun j hj=>h4 j (by omega)) (hfr1 k ds h1 h2 (h4 at' (by omega)) h)) (fun e=>by rw[e] at hlen';simp at hlen';omega) h
       refine AW.seq (rs hx fun K hK=>?_)
       iterate 2 refine sa ?_
       refine .nil (hK _ _ ?_)
       rcases az oku with JG|JG
       ·refine AW.condF rfl (by rw[JG];rfl) (AW.skip (rs hx fun K hK=>?_))
        refine sa ?_
        refine .nil (hK _ _ (AW.ret ?_))
        rw[JG]
        exact fin2 _ 0 rfl
       ·refine AW.condT rfl (by rw[JG];rfl) (rs hx fun K hK=>?_)
        refine sa ?_
        refine .nil (hK _ _ (AW.ret ?_))
        rw[JG]
        exact fin2 _ 30 rfl
end
end
section
structure dq(d:Dic)(w m:Nat):Prop where
 len:d.rows.length=m
 lg:d.gc.length=w
 lc:∀i,i<m→d.rows[i]!.c.length=w
 b:∀i,i<m→0≤d.rows[i]!.b∧d.rows[i]!.b<w
 p0:0≤d.piv
 p1:d.piv≤9223372036854775807
 m0:0≤d.most
 m1:d.most≤9223372036854775807
section
variable {d:Dic} {w m at' s:Nat}
theorem dq.lC(h:dq d w m):∀(i:Nat) (r:Row),d.rows[i]? =some r→r.c.length=w:=fun i r hr=>by
 have hi:=(fZ.1 hr).1
 have:=h.lc i (by rw[←h.len];exact hi)
 rwa[ik hr] at this
theorem NS(h:d.most≤d.piv):ej d at' s=(220,d):=by unfold ej;rw[if_pos h]
theorem dq.pivD(h:dq d w m)(hat:at'<m)(hs:s<w)(hp:d.piv<d.most):dq (nL d at' s) w m:=by
 have hl:=h.len
 refine⟨by rw[jr];exact hl,?_,fun i hi=>?_,fun i hi=>?_,?_,?_,h.m0,h.m1⟩
 ·show (ml d.gk d.gc _ s).c.length=w
  rw[yF];exact h.lg
 ·rw[om (by omega)]
  split
  ·rw[tQ];exact h.lc at' hat
  ·show (ml d.rows[i]!.k d.rows[i]!.c (ce d.rows[at']! s) s).c.length=w
   rw[yF];exact h.lc i hi
 ·rw[vm (by omega)]
  split
  ·omega
  ·exact h.b i hi
 ·have:=h.p0
  show 0≤d.piv+1;omega
 ·have:=h.m1
  show d.piv+1≤_;omega
theorem dq.pivot(h:dq d w m)(hat:at'<m)(hs:s<w):dq (ej d at' s).2 w m∧(ej d at' s).2.most=d.most∧(ej d at' s).2.n=d.n∧((ej d at' s).1=0→(ej d at' s).2.piv=d.piv+1∧d.piv<d.most):=by
 by_cases hp:d.most≤d.piv
 ·rw[NS hp]
  exact⟨h,rfl,rfl,fun e=>by cases e⟩
 ·obtain⟨h2,_,_⟩:=ER d at' s (by rw[h.len];exact hat) hp
  rw[h2]
  exact⟨h.pivD hat hs (by omega),rfl,rfl,fun _=>⟨rfl,by omega⟩⟩
theorem dq.enter(h:dq d w m)(he:qg d.gc=some s):s<w:=by have:=(C3 he).1;rw[h.lg] at this;exact this
theorem dq.leav(h:dq d w m){z:Nu}{p:Int×Nu}(hl:pP d.rows s z d.rows.length=some p)(hp:¬p.1<0):p.1.toNat<m∧p.1=(p.1.toNat:Int):=by
 rcases wo hl with e|⟨i,h1,h2,_⟩
 ·omega
 ·have:=h.len;omega
theorem dq.improve(h:dq d w m):∀(f:Nat),dq (iG f d).2 w m∧(iG f d).2.most=d.most∧(iG f d).2.n=d.n∧-1≤(iG f d).1.1∧(iG f d).1.1<w:=by
 intro f
 induction f generalizing d with
 |zero=>exact⟨h,rfl,rfl,Int.le_refl _,by show (-1:Int)<w;omega⟩
 |succ f ih=>
  unfold iG
  cases he:qg d.gc with
  |none=>exact⟨h,rfl,rfl,Int.le_refl _,by show (-1:Int)<w;omega⟩
  |some s=>
   dsimp only
   have hs:=h.enter he
   cases hl:pP d.rows s default d.rows.length with
   |none=>exact⟨h,rfl,rfl,Int.le_refl _,by show (-1:Int)<w;omega⟩
   |some p=>
    dsimp only
    by_cases hp:p.1<0
    ·rw[if_pos hp];exact⟨h,rfl,rfl,by show -1≤(s:Int);omega,by show (s:Int)<w;omega⟩
    ·rw[if_neg hp]
     obtain⟨h1,_⟩:=h.leav hl hp
     obtain⟨h2,h3,h4,_⟩:=h.pivot h1 hs
     by_cases h0:(ej d p.1.toNat s).1=0
     ·rw[if_pos h0]
      obtain⟨a1,a2,a3,a4⟩:=ih h2
      exact⟨a1,a2.trans h3,a3.trans h4,a4⟩
     ·rw[if_neg h0]
      exact⟨h2,h3,h4,Int.le_refl _,by show (-1:Int)<w;omega⟩
end
end
section
section
variable {vs vsX:List (Nat×List D)} {lv:List (Nat×Nat×Nat×TypeId)} {N kd R G w m:Nat} {C:Nat→Nat} {d d':Dic}
theorem BL(hf:Dif m kd R G C)(hS:dq d' w m)(hm:0<m)(hX:∀k ds,k≠kd→k≠R→k≠G→(∀j,j<m→k≠C j)→vs.lookup k=some ds→vsX.lookup k=some ds):∀j ds,(ov kd R G C w d' vs).lookup j=some ds→(ov kd R G C w d' vsX).lookup j=some ds:=by
 have hf':Dif d'.rows.length kd R G C:=by rw[hS.len];exact hf
 refine Cq hf' (DAt.ov hf' hS.lg hS.lC) (fun k ds h1 h2 h3 h4 h=>?_) (fun e=>?_)
 ·rw[FR h1 h2 h3 h4]
  exact hX k ds h1 h2 h3 (fun j hj=>h4 j (by rw[hS.len];exact hj)) h
 ·have:=hS.len
  rw[e] at this
  exact absurd this (by simp only[List.length_nil];omega)
theorem dq.dif(h:dq d w m)(hf:Dif m kd R G C):Dif d.rows.length kd R G C:=by rw[h.len];exact hf
theorem dq.at(h:dq d w m)(hf:Dif m kd R G C):DAt (ov kd R G C w d vs) kd R G C w d:=DAt.ov (h.dif hf) h.lg h.lC
theorem MB {c:List Nu}{s:Nat}(h:s<c.length)(h1:0<cU c[s]!)(h2:∀t,t<s→¬0<cU c[t]!):qg c=some s:=by
 unfold qg
 rw[qk]
 refine⟨h,?_,fun t ht=>?_⟩
 ·rw[cO c s h] at h1;exact aF h1
 ·have:=h2 t ht
  rw[cO c t (by omega)] at this
  simpa using this
theorem J3 {c:List Nu}(h2:∀t,t<c.length→¬0<cU c[t]!):qg c=none:=by
 unfold qg
 rw[Aw]
 intro x hx
 obtain⟨t,ht,rfl⟩:=Dm.1 hx
 have:=h2 t ht
 rw[cO c t ht] at this
 exact bf this
theorem DAt.up(h:DAt vs kd R G C w d)(hX:∀k ds,vs.lookup k=some ds→vsX.lookup k=some ds):DAt vsX kd R G C w d:=h.look fun k ds _=>hX k ds
theorem E7(BQ:R<N)(hD:DAt vs kd R G C w d)(hf:Dif m kd R G C)(hS:dq d w m)(hw:w≤1000000)(hm:m≤1000000):
  HC Tryz.prog 46 [.pt kd 0] ⟨vs,lv,N⟩ (.tu [dI .i64 (bn d).1.1,dI .i64 (bn d).1.2]) ⟨ov kd R G C w (bn d).2 vs,lv,N⟩:=by
 refine HC.of (rs:=[.tmp 2,.tmp 3]) tok Tryz.func46 rfl rfl (dK rfl) rfl (fun cx hx h0 hok=>?_)
 simp only[fS,Nat.reduceAdd,bJ]
 have hl:=hS.len
 have vy:=hD.hd
 have Ev:=hok.lt vy
 have Py:=hok.lt hD.hG
 have hCN:∀j,j<m→C j<N:=fun j hj=>hok.lt (hD.hC j d.rows[j]! (by rw[cO d.rows j (by omega)];exact de _))
 have sH:∀d2,dq d2 w m→cQ ⟨ov kd R G C w d2 vs,lv,N⟩:=fun d2 h2=>AQ hok Ev BQ Py fun j hj=>hCN j (by rw[←h2.len];exact hj)
 refine rs hx fun K hK=>?_
 iterate 2 refine sa ?_
 refine .nil (hK _ _ (AW.scope (AW.seq (AW.label (AW.block (AW.loopW (fun u:Nat×Dic=>[(0,.pt kd 0)]) (fun u=>⟨ov kd R G C w u.2 vs,lv,N⟩) (fun u=>iG u.1 u.2=bn d∧dq u.2 w m∧(u.2.most - u.2.piv).toNat+1≤u.1) (fun u=>u.1) ((d.most - d.piv).toNat+1,d) ?_ ⟨rfl,hS,aB _⟩ ?_))))))
 ·exact wk1 h0 (hok:=sH d hS) (hv:=Cq (hS.dif hf) hD (fun _ _ _ _ _ _ h=>h) fun _ _ h=>h)
 ·rintro⟨f,dj⟩ ⟨he,A6,hfj⟩
  dsimp only at he A6 hfj ⊢
  obtain⟨f,rfl⟩:∃f',f=f'+1:=⟨f - 1,by omega⟩
  have hDV:=A6.at hf (vs:=vs)
  have oa:=sH dj A6
  have tc:∀k ds,k≠kd→k≠R→k≠G→(∀j,j<m→k≠C j)→vs.lookup k=some ds→(ov kd R G C w dj vs).lookup k=some ds:=fun k ds h1 h2 h3 h4 h=>by rw[FR h1 h2 h3 fun j hj=>h4 j (by rw[←A6.len];exact hj)];exact h
  generalize hV:ov kd R G C w dj vs=V at hDV oa tc ⊢
  have hdV:=hDV.hd
  have hGV:=hDV.hG
  have IZ:=hDV.lG
  refine AW.block (AW.seq (rs hx fun K hK=>?_))
  iterate 4 refine sa ?_
  refine c1 mJ.pc ?_
  iterate 2 refine sa ?_
  refine .nil (hK _ _ (AW.block (AW.loopW (fun t:Nat=>[(0,.pt kd 0),(13,.ow G 0 36 w),(14,dI .i64 w),(15,dI .i64 t)]) (fun _=>⟨V,lv,N⟩) (fun t=>t≤w∧∀t',t'<t→¬0<cU dj.gc[t']!) (fun t=>w - t) 0 ?_ ⟨cX _,fun t h=>absurd h (rG _)⟩ ?_)))
  ·exact wk1 h0
  ·rintro t ⟨ht,ob⟩
   refine rs hx fun K hK=>?_
   refine sa ?_
   refine .nil (hK _ _ (AW.seq (AW.condS rfl (fun hb=>?_) (fun hb=>?_))))
   ·have htw:t<w:=by have:=da hb;omega
    refine AW.skip (AW.seq (AW.block (rs hx fun K hK=>?_)))
    refine sa ?_
    refine i1 htw ?_
    refine l1 (Pt.el dj.gc t (by omega)) ?_
    refine n1 ?_
    refine sa ?_
    refine z1 ?_
    refine .nil (hK _ _ (AW.seq (rs hx fun K hK=>?_)))
    refine l1 (Pt.idN _) ?_
    refine cq (xD _) ?_
    refine sa ?_
    refine .nil (hK _ _ (AW.condS rfl (fun hb=>?_) (fun hb=>?_)))
    ·have hsg:cU dj.gc[t]!≤0:=da hb
     refine AW.exit (rq hx fun K hK=>?_)
     iterate 2 refine sa ?_
     refine .nil (hK _ _ ?_)
     rw[cm (by omega)]
     refine⟨t+1,wk1 h0,⟨htw,fun t' h=>?_⟩,by omega⟩
     rcases hE t' t with h1|h1
     ·exact ob t' h1
     ·obtain rfl:t'=t:=by omega
      omega
    have hsg:¬cU dj.gc[t]!≤0:=d8 hb
    have hen:qg dj.gc=some t:=MB (by omega) (by omega) ob
    unfold iG at he
    rw[hen] at he
    dsimp only at he
    refine AW.skip ?_
    have hup:∀(k:Nat) (ds:List D),V.lookup k=some ds→((N,dC (ay.f dj.gc[t]!))::(N,dC zN)::V).lookup k=some ds:=fun k ds h=>by
     have hk:=oa.lt h
     exact al (by omega) (al (by omega) h)
    have Pz:=hDV.up hup
    have M0:=Mr (lv:=lv) (N:=N+1) Pz htw (by rw[A6.len];exact hm)
    cases hlp:pP dj.rows t default dj.rows.length with
    |none=>
     rw[hlp] at M0 he
     dsimp only[Jt] at M0 he
     refine rs hx fun K hK=>?_
     iterate 2 refine sa ?_
     refine q1 (sHC M0 rfl (.inl (by kernel_rfl))) ?_
     iterate 5 refine sa ?_
     refine .nil (hK _ _ (AW.seq (rs hx fun K hK=>?_)))
     iterate 2 refine sa ?_
     refine .nil (hK _ _ (AW.condT rfl (by decide) (rs hx fun K hK=>?_)))
     iterate 3 refine sa ?_
     refine .nil (hK _ _ (AW.ret ?_))
     rw[←he,hV]
     exact rt2 h0 (hok:=oa) (hv:=hup)
    |some p=>
     rw[hlp] at M0 he
     dsimp only[Jt] at M0 he
     refine rs hx fun K hK=>?_
     iterate 2 refine sa ?_
     refine q1 (sHC M0 rfl (.inl (by kernel_rfl))) ?_
     iterate 5 refine sa ?_
     refine .nil (hK _ _ (AW.seq (rs hx fun K hK=>?_)))
     iterate 2 refine sa ?_
     refine .nil (hK _ _ (AW.condF rfl (by decide) (AW.skip (AW.seq (rs hx fun K hK=>?_)))))
     iterate 2 refine sa ?_
     refine .nil (hK _ _ (AW.condS rfl (fun hb=>?_) (fun hb=>?_)))
     ·have hp:p.1<0:=da hb
      rw[if_pos hp] at he
      refine rs hx fun K hK=>?_
      iterate 3 refine sa ?_
      refine .nil (hK _ _ (AW.ret ?_))
      rw[←he,hV]
      exact rt2 h0 (hok:=oa) (hv:=hup)
     have hp:¬p.1<0:=d8 hb
     rw[if_neg hp] at he
     obtain⟨ha,hpa⟩:=A6.leav hlp hp
     generalize p.1.toNat=a at ha hpa he
     have hra:dj.rows[a]? =some dj.rows[a]! :=by
      have:=A6.len
      rw[cO dj.rows a (by omega)];exact de _
     have hpv:=Gv (lv:=lv) (N:=N+1) Pz (A6.dif hf) hra htw (A6.b a ha) hw (by rw[A6.len];exact hm) ⟨A6.p0,A6.p1⟩ ⟨A6.m0,A6.m1⟩
     obtain⟨M5,hmq,hnq,hq0⟩:=A6.pivot ha htw
     have hov:=BL (vs:=vs) (vsX:=(N,dC (ay.f dj.gc[t]!))::(N,dC zN)::V) hf M5 (by omega) fun k ds h1 h2 h3 h4 h=>hup k ds (tc k ds h1 h2 h3 h4 h)
     have Mh:=sH _ M5
     generalize ej dj a t=q at hpv M5 hmq hnq hq0 hov Mh he
     refine AW.skip (AW.seq (rs hx fun K hK=>?_))
     iterate 3 refine sa ?_
     refine q1 (sHC hpv (by show [_,dI .i64 p.1,_]=_;rw[hpa];rfl) (.inl (by kernel_rfl))) ?_
     refine sa ?_
     refine .nil (hK _ _ (rs hx fun K hK=>?_))
     iterate 2 refine sa ?_
     refine .nil (hK _ _ (AW.condS rfl (fun hb=>?_) (fun hb=>?_)))
     ·have hq:¬q.1=0:=da hb
      rw[if_neg hq] at he
      refine rs hx fun K hK=>?_
      iterate 3 refine sa ?_
      refine .nil (hK _ _ (AW.ret ?_))
      rw[←he]
      exact rt2 h0 (hok:=Mh) (hv:=hov)
     ·have hq:q.1=0:=by have:=d8 hb;simpa using this
      rw[if_pos hq] at he
      obtain⟨hq1,hq2⟩:=hq0 hq
      exact AW.skip (AW.exit (⟨(f,q.2),wk1 h0 (hok:=Mh) (hv:=hov),⟨he,M5,by dsimp only;omega⟩,by dsimp only;omega⟩))
   ·have htw:t=w:=by have:=d8 hb;omega
    subst htw
    have hen:qg dj.gc=none:=J3 fun t' h=>ob t' (by omega)
    unfold iG at he
    rw[hen] at he
    dsimp only at he
    refine AW.exit (rs hx fun K hK=>?_)
    iterate 2 refine sa ?_
    refine .nil (hK _ _ (AW.ret ?_))
    rw[←he,hV]
    exact rt2 h0 (hok:=oa) (hv:=fun _ _ h=>h)
end
end
def Mc(p:Nu→Bool)(l:List Nu):Int:=match l.findIdx? p with
 |some i=>i
 |none=>-1
theorem On {p:Nu→Bool}{l:List Nu}{i:Nat}(hi:i<l.length)(h:p l[i]! =true)(ob:∀j,j<i→p l[j]! =false):Mc p l=i:=by
 have:l.findIdx? p=some i:=by
  rw[qk]
  refine⟨hi,by rw[cO l i hi] at h;exact h,fun j hj=>?_⟩
  have:=ob j hj
  rw[cO l j (by omega)] at this
  simp[this]
 unfold Mc;rw[this]
theorem Mb {p:Nu→Bool}{l:List Nu}(ob:∀j,j<l.length→p l[j]! =false):Mc p l=-1:=by
 have:l.findIdx? p=none:=by
  rw[Aw]
  intro x hx
  obtain⟨j,hj,rfl⟩:=Dm.1 hx
  have:=ob j hj
  rwa[cO l j hj] at this
 unfold Mc;rw[this]
theorem Ni {f:FuncId}{p:Nu→Bool}(hf:∀x:Nu,ax Tryz.prog f [dG ay x] (dB (p x))){l:List Nu}(hl:l.length≤1000000):ax Tryz.prog 106 [.e (slE ay l),.e (.lit (.func (.func f) #[] #[]))] (dI .i64 (Mc p l)):=by
 refine bC (rs:=[.tmp 4]) (fun cx hx h0=>?_) Tryz.func106
 refine ra hx ?_
 refine AW.seq (ra hx ?_)
 refine AW.block (AW.loopW (fun i:Nat=>[(0,.e (slE ay l)),(1,.e (.lit (.func (.func f) #[] #[]))),(7,dI .i64 (l.length:Nat)),(8,dI .i64 (i:Nat))]) (fun _=>⟨[],[],0⟩) (fun i=>i≤l.length∧∀j,j<i→p l[j]! =false) (fun i=>l.length - i) 0 ?_ ⟨cX _,fun j h=>absurd h (rG _)⟩ ?_)
 ·exact wk h0 [] (wR rfl (wR rfl (wR rfl (wR rfl wTn)))) wVn wLn
 ·rintro i ⟨hi,ob⟩
  refine ra hx ?_
  refine AW.seq (AW.condS rfl (fun hb=>?_) (fun hb=>?_))
  ·have xT:i<l.length:=by have:=da hb;omega
   refine AW.skip (AW.seq (AW.block (ra hx ?_)))
   refine rs hx fun K hK=>?_
   iterate 3 refine sa ?_
   have mq:0≤(i:Int)∧(i:Int)<((l.length:Nat):Int):=by omega
   refine s1 (gV mq aH aw) ?_
   refine s1 (d:=dG ay l[i]!) (mj (c:=ay) (l:=l) (n:=i) (o:=0) aw xT (fm _ _ rfl)) ?_
   refine sc (hf _) ?_
   refine .nil (hK _ _ (AW.condS rfl (fun hb=>?_) (fun hb=>?_)))
   ·refine ra hx ?_
    refine AW.ret ?_
    rw[On xT hb ob]
    exact rv1
   ·refine AW.skip (rq hx fun K hK=>?_)
    iterate 2 refine sa ?_
    refine .nil (hK _ _ ?_)
    rw[cm (by omega)]
    refine⟨i+1,wk h0 [] (wR rfl (wR rfl (wR rfl (wR rfl wTn)))) wVn wLn,⟨xT,fun j hj=>?_⟩,by omega⟩
    rcases hE j i with h1|h1
    ·exact ob j h1
    ·obtain rfl:j=i:=by omega
     exact hb
  ·refine AW.exit ?_
   have xT:i=l.length:=by have:=d8 hb;omega
   refine ra hx ?_
   refine AW.ret ?_
   rw[Mb fun j hj=>ob j (by omega)]
   exact rv1
theorem Nh(x:Nu):ax Tryz.prog 107 [dG ay x] (dB (decide (cU x≠0))):=by
 refine bC (rs:=[.tmp 2]) (fun cx hx h0=>?_) Tryz.func107
 refine ra hx ?_
 refine rs hx fun K hK=>?_
 refine s1 (d:=dG ay x) (aq (ak.id _ _) aw) ?_
 refine sc (xD x) ?_
 iterate 2 refine sa ?_
 exact .nil (hK _ _ (AW.ret (rv1)))
section
section
variable {vs V V2:List (Nat×List D)} {lv:List (Nat×Nat×Nat×TypeId)} {N kd R G w m:Nat} {C:Nat→Nat} {d d':Dic}
def e8(x:Nu)(i:Nat)(d:Dic):Dic:=⟨(d.rows.take i).map (vJ x)++d.rows.drop i,d.gk,d.gc,d.n,d.piv,d.most⟩
theorem C9(x:Nu)(d:Dic):e8 x 0 d=d:=by unfold e8;simp
theorem wx(x:Nu)(d:Dic):e8 x d.rows.length d=⟨d.rows.map (vJ x),d.gk,d.gc,d.n,d.piv,d.most⟩:=by unfold e8;simp
theorem Fc {x:Nu}{i:Nat}(hi:i<d.rows.length):(e8 x i d).rows[i]! =d.rows[i]! :=by
 apply ik
 unfold e8
 dsimp only
 rw[ql (by simp;omega),bw,eH,su (by omega),Nat.sub_self,oQ,mK]
 exact wS hi
theorem MF {x:Nu}{i:Nat}(hi:i≤d.rows.length):(e8 x i d).rows.length=d.rows.length:=by
 unfold e8;simp;omega
theorem Da {x:Nu}{i:Nat}(hi:i<d.rows.length):(⟨(e8 x i d).rows.set i (vJ x d.rows[i]!),d.gk,d.gc,d.n,d.piv,d.most⟩:Dic)=e8 x (i+1) d:=by
 unfold e8
 dsimp only
 congr 1
 have hl:((d.rows.take i).map (vJ x)).length=i:=by simp;omega
 rw[List.set_append_right _ _ (by omega),hl,Nat.sub_self,IH hi,List.set_cons_zero,zi,de hi,iU,dU]
 rw[cO d.rows i hi]
 rfl
theorem BU {x:Nu}{i j:Nat}(hi:i≤d.rows.length)(hj:j<d.rows.length):(e8 x i d).rows[j]!.k=d.rows[j]!.k∧(e8 x i d).rows[j]!.b=d.rows[j]!.b∧(e8 x i d).rows[j]!.c.length=d.rows[j]!.c.length:=by
 have hl:((d.rows.take i).map (vJ x)).length=i:=by simp;omega
 by_cases h:j<i
 ·have:(e8 x i d).rows[j]! =vJ x d.rows[j]! :=by
   apply ik
   unfold e8
   dsimp only
   rw[zk (by omega),ep,ie,if_pos h,wS hj]
   rfl
  rw[this]
  exact⟨rfl,rfl,eU ..⟩
 ·have:(e8 x i d).rows[j]! =d.rows[j]! :=by
   apply ik
   unfold e8
   dsimp only
   rw[ql (by omega),hl,oQ,show i+(j - i)=j by omega]
   exact wS hj
  rw[this]
  exact⟨rfl,rfl,rfl⟩
theorem dq.colsI(h:dq d w m)(x:Nu){i:Nat}(hi:i≤m):dq (Go.Proofs.YtaedcknhkjpmlaaGreat.e8 x i d) w m:=by
 have hl:=h.len
 refine⟨(MF (by omega)).trans hl,h.lg,fun j hj=>?_,fun j hj=>?_,h.p0,h.p1,h.m0,h.m1⟩
 ·rw[(BU (by omega) (by omega)).2.2];exact h.lc j hj
 ·rw[(BU (by omega) (by omega)).2.1];exact h.b j hj
theorem F8(l:List Row):∀k,nd l k≤k
 |0=>aB _
 |k+1=>by unfold nd;have:=F8 l k;split <;> omega
theorem rowsC_c {l:List Row}{j:Nat}(hj:j<l.length)(c:List Nu):gl C w 0 (l.set j ⟨l[j]!.k,c,l[j]!.b⟩)=gl C w 0 l:=by
 obtain⟨A,B,_,h2,h3,_⟩:=mQ C w l j (wS hj)
 rw[h2,h3]
 rfl
theorem DAt.setC(h:DAt V kd R G C w d)(hf:Dif d.rows.length kd R G C){j:Nat}(hj:j<d.rows.length)(c:List Nu)(hl:c.length=w):DAt ((C j,dC ((cW ay).f c))::V) kd R G C w ⟨d.rows.set j ⟨d.rows[j]!.k,c,d.rows[j]!.b⟩,d.gk,d.gc,d.n,d.piv,d.most⟩:=by
 obtain⟨h1,h2,h3⟩:=hf.C1 j hj
 refine h.setRow hf hj ⟨d.rows[j]!.k,c,d.rows[j]!.b⟩ hl ?_ ab fun k ds _ Al hk=>al Al hk
 rw[rowsC_c hj]
 exact al h2.symm (h.hR (fun e=>by rw[e] at hj;simp at hj))
theorem DAt.setG(h:DAt V kd R G C w d)(hf:Dif d.rows.length kd R G C)(c:List Nu)(hl:c.length=w):DAt ((G,dC ((cW ay).f c))::V) kd R G C w ⟨d.rows,d.gk,c,d.n,d.piv,d.most⟩:=
 h.setDic hf ⟨d.rows,d.gk,c,d.n,d.piv,d.most⟩ rfl hl (al hf.dG h.hd) ab fun k ds _ Al hk=>al Al hk
theorem ov_in(hf:Dif m kd R G C)(hS:dq d w m)(h:DAt V2 kd R G C w d)(hm:0<m)(hr:∀k ds,k≠kd→k≠R→k≠G→(∀j,j<m→k≠C j)→vs.lookup k=some ds→V2.lookup k=some ds):∀j ds,(ov kd R G C w d vs).lookup j=some ds→V2.lookup j=some ds:=
 Cq (hS.dif hf) h (fun k ds h1 h2 h3 h4 h5=>hr k ds h1 h2 h3 (fun j hj=>h4 j (by rw[hS.len];exact hj)) h5) fun e=>by
  have:=hS.len
  rw[e] at this
  simp only[List.length_nil] at this
  omega
theorem KE(hS:dq d w m){k:Nat}{ds:List D}(h1:k≠kd)(h2:k≠R)(h3:k≠G)(h4:∀j,j<m→k≠C j)(h:vs.lookup k=some ds):(ov kd R G C w d vs).lookup k=some ds:=by
 rw[FR h1 h2 h3 fun j hj=>h4 j (by rw[←hS.len];exact hj)];exact h
structure RowAt(V:List (Nat×List D))(R w:Nat)(C:Nat→Nat)(d:Dic)(i:Nat):Prop where
 k:∃F F',V.lookup R=some F∧Pt F (i*38+0+0) (dC (ay.f d.rows[i]!.k)) F'
 c:∃F F',V.lookup R=some F∧Pt F (i*38+0+36) [.ow (C i) 0 36 w] F'
 v:V.lookup (C i)=some (dC ((cW ay).f d.rows[i]!.c))
 l:d.rows[i]!.c.length=w
 r:∃F F',V.lookup R=some F∧Pt F (i*38) (iY C w i d.rows[i]!) F'
 n:∃F F',V.lookup R=some F∧Pt F (i*38+0) (bu d.rows[i]!.k (C i) w) F'
 ne:fy R d.rows=.gw R 38 d.rows.length
theorem DAt.row(h:DAt V kd R G C w d){i:Nat}(hi:i<d.rows.length):RowAt V R w C d i:=by
 have hr:d.rows[i]? =some d.rows[i]! :=wS hi
 obtain⟨A,B,hA,h2,h3,h4,h5⟩:=mQ C w d.rows i hr
 have gt:d.rows≠[]:=fun e=>by rw[e] at hi;simp at hi
 exact⟨⟨_,_,h.hR gt,h4.pk⟩,⟨_,_,h.hR gt,h4.pc⟩,h.hC i _ hr,h.lC i _ hr,⟨_,_,h.hR gt,EP h3 hA⟩,⟨_,_,h.hR gt,h4.pa⟩,pJ gt⟩
theorem ND {x:Cx}{tm:List (Nat×D)}{q n2:Nat}{a:Int}{r:Int×Dic}(h0:x.hp0=⟨vs,lv,N⟩)(hr:r=(a,d))(hok:cQ ⟨ov kd R G C w d vs,lv,N⟩)(hN:N≤n2)(hv:∀j ds,(ov kd R G C w d vs).lookup j=some ds→V.lookup j=some ds)(hq:tm.lookup q=some (dI .i64 a):=by exact rfl):
  ∃tm',Wk x tm ⟨V,lv,n2⟩ tm' ⟨ov kd R G C w r.2 vs,lv,N⟩∧sQ tbl [.tmp q] tm' ⟨ov kd R G C w r.2 vs,lv,N⟩ (dI .i64 r.1):=by
 subst hr
 exact rt1 h0 hok hN hv hq rfl
theorem Om(c:List Nu):Mc (fun x=>decide (cU x≠0)) c=match AS c with|some i=>(i:Int)|none=>-1:=rfl
theorem h_begin(BQ:R<N)(hD:DAt vs kd R G C w d)(hf:Dif m kd R G C)(hS:dq d w m)(hw:w≤1000000)(hm:m≤1000000)(D0:0<m)(hw0:0<w)
  (yS:∀q,ej (j8 d) (nd d.rows d.rows.length) 0=q→q.1=0→(bn q.2).1.2=0→0≤eC (bn q.2).2.rows 0→AS (bn q.2).2.rows[(eC (bn q.2).2.rows 0).toNat]!.c≠none):
  HC Tryz.prog 43 [.pt kd 0] ⟨vs,lv,N⟩ (dI .i64 (li d).1) ⟨ov kd R G C w (li d).2 vs,lv,N⟩:=by
 refine HC.of (rs:=[.tmp 2]) tok Tryz.func43 rfl rfl (dK rfl) rfl (fun cx hx h0 hok=>?_)
 simp only[fS,Nat.reduceAdd,bJ]
 have hl:=hS.len
 have vy:=hD.hd
 have Ev:=hok.lt vy
 have Py:=hok.lt hD.hG
 have hCN:∀j,j<m→C j<N:=fun j hj=>hok.lt (hD.hC j d.rows[j]! (wS (by omega)))
 have sH:∀d2,dq d2 w m→cQ ⟨ov kd R G C w d2 vs,lv,N⟩:=fun d2 h2=>AQ hok Ev BQ Py fun j hj=>hCN j (by rw[←h2.len];exact hj)
 refine rs hx fun K hK=>?_
 refine sa ?_
 refine .nil (hK _ _ (rs hx fun K hK=>?_))
 refine sa ?_
 refine .nil (hK _ _ (AW.seq (rs hx fun K hK=>?_)))
 iterate 3 refine sa ?_
 refine c1 gI ?_
 refine Ku (R:=R) (l:=d.rows) rfl ?_
 refine sa ?_
 refine .nil (hK _ _ ?_)
 rw[hl]
 refine AW.block (AW.loopW (fun i:Nat=>[(0,.pt kd 0),(3,dI .i64 (nd d.rows i:Nat)),(14,dI .i64 m),(15,dI .i64 i)]) (fun i=>⟨ov kd R G C w (e8 (nOf 1) i d) vs,lv,N⟩) (fun i=>i≤m) (fun i=>m - i) 0 ?_ (cX _) ?_)
 ·rw[C9]
  exact wk1 h0 (hok:=sH d hS) (hv:=ov_in hf hS hD D0 fun _ _ _ _ _ _ h=>h)
 ·intro i hi
  have wt:=hS.colsI (nOf 1) hi
  have BR:=wt.at hf (vs:=vs)
  have oa:=sH _ wt
  have tc:∀k ds,k≠kd→k≠R→k≠G→(∀j,j<m→k≠C j)→vs.lookup k=some ds→(ov kd R G C w (e8 (nOf 1) i d) vs).lookup k=some ds:=fun k ds h1 h2 h3 h4 h=>KE wt h1 h2 h3 h4 h
  generalize hV:ov kd R G C w (e8 (nOf 1) i d) vs=V at BR oa tc ⊢
  have hdi:=BR.hd
  have hli:=wt.len
  refine rs hx fun K hK=>?_
  refine sa ?_
  refine .nil (hK _ _ (AW.seq (AW.condS rfl (fun hb=>?_) (fun hb=>?_))))
  ·have zG:i<m:=by have:=da hb;omega
   have JL:(e8 (nOf 1) i d).rows[i]! =d.rows[i]! :=Fc (by omega)
   obtain⟨⟨F1,F1',e1,L1⟩,⟨F2,F2',e2,L2⟩,e3,tG,_,_,gt⟩:=BR.row (i:=i) (by omega)
   have hk1:=oa.lt e1
   have hk3:=oa.lt e3
   rw[JL] at e3 L1 tG
   refine AW.skip (AW.seq (AW.block (rs hx fun K hK=>?_)))
   iterate 2 refine sa ?_
   refine .nil (hK _ _ (rsd [28] hx fun K hK=>?_))
   iterate 3 refine sa ?_
   refine c1 gI ?_
   refine sa ?_
   refine r1 (n:=(e8 (nOf 1) i d).rows.length) (i:=i) (by omega) ?_ (by show (fy R _).toOw=_;rw[gt];rfl)
   iterate 2 refine sa ?_
   refine c1 L2 ?_
   refine cq (Eh 1 (by omega)) ?_
   refine i1 (i:=0) (n:=w) hw0 ?_
   refine t1 (Pt.el d.rows[i]!.c 0 (by omega)) (Pt.el_set d.rows[i]!.c 0 (by omega) _) ?_
   refine .nil (hK _ _ ?_)
   have hdn:(⟨(e8 (nOf 1) i d).rows.set i ⟨(e8 (nOf 1) i d).rows[i]!.k,d.rows[i]!.c.set 0 (nOf 1),(e8 (nOf 1) i d).rows[i]!.b⟩,d.gk,d.gc,d.n,d.piv,d.most⟩:Dic)=e8 (nOf 1) (i+1) d:=by
    rw[JL];exact Da (by omega)
   have JY:=BR.setC (wt.dif hf) (j:=i) (by omega) (d.rows[i]!.c.set 0 (nOf 1)) (by rw[eU];exact tG)
   have JY:DAt ((C i,dC ((cW ay).f (d.rows[i]!.c.set 0 (nOf 1))))::V) kd R G C w (e8 (nOf 1) (i+1) d):=by rw[←hdn];exact JY
   have hSn:=hS.colsI (nOf 1) (show i+1≤m by omega)
   have ob:nd d.rows i<m:=by
    have:=F8 d.rows i
    omega
   have IY:=hSn.len
   obtain⟨⟨F3,F3',e4,L3⟩,_,_,_,_,_,Mi⟩:=JY.row (i:=i) (by omega)
   obtain⟨⟨F4,F4',e5,L4⟩,_⟩:=JY.row (i:=nd d.rows i) (by omega)
   rw[(BU (show i+1≤d.rows.length by omega) (show i<d.rows.length by omega)).1] at L3
   rw[(BU (show i+1≤d.rows.length by omega) (show nd d.rows i<d.rows.length by omega)).1] at L4
   have hdn2:=JY.hd
   have uX:∀j ds,(ov kd R G C w (e8 (nOf 1) (i+1) d) vs).lookup j=some ds→((C i,dC ((cW ay).f (d.rows[i]!.c.set 0 (nOf 1))))::V).lookup j=some ds:=ov_in hf hSn JY D0 fun k ds h1 h2 h3 h4 h=>al (h4 i zG) (tc k ds h1 h2 h3 h4 h)
   have hokn:=sH _ hSn
   have hokW:cQ ⟨(C i,dC ((cW ay).f (d.rows[i]!.c.set 0 (nOf 1))))::V,lv,N⟩:=oa.consM hk3 (eS _)
   have hk4:=hokW.lt e4
   generalize (C i,dC ((cW ay).f (d.rows[i]!.c.set 0 (nOf 1))))::V=W at JY e4 e5 hdn2 uX ⊢
   have gN:nd d.rows (i+1)=if pL d.rows[i]!.k d.rows[nd d.rows i]!.k<0 then i else nd d.rows i:=rfl
   refine rsd [32] hx fun K hK=>?_
   iterate 3 refine sa ?_
   refine c1 gI ?_
   refine sa ?_
   refine r1 (n:=(e8 (nOf 1) (i+1) d).rows.length) (i:=i) (by omega) ?_ (by show (fy R _).toOw=_;rw[Mi];rfl)
   iterate 2 refine sa ?_
   refine l1 L3 ?_
   iterate 3 refine sa ?_
   refine c1 gI ?_
   refine sa ?_
   refine r1 (n:=(e8 (nOf 1) (i+1) d).rows.length) (i:=nd d.rows i) (by omega) ?_ (by show (fy R _).toOw=_;rw[Mi];rfl)
   iterate 2 refine sa ?_
   refine l1 L4 ?_
   refine cq (w_Cmp _ _) ?_
   refine sa ?_
   refine .nil (hK _ _ (AW.condS rfl (fun hb=>?_) (fun hb=>?_)))
   ·rw[if_pos (da hb)] at gN
    refine rq hx fun K hK=>?_
    iterate 2 refine sa ?_
    refine .nil (hK _ _ (rq hx fun K hK=>?_))
    iterate 2 refine sa ?_
    refine .nil (hK _ _ ?_)
    rw[cm (by omega)]
    refine⟨i+1,?_,zG,by omega⟩
    rw[gN]
    exact wk1 h0 (hok:=hokn) (hv:=uX)
   ·rw[if_neg (d8 hb)] at gN
    refine AW.skip (rq hx fun K hK=>?_)
    iterate 2 refine sa ?_
    refine .nil (hK _ _ ?_)
    rw[cm (by omega)]
    refine⟨i+1,?_,zG,by omega⟩
    rw[gN]
    exact wk1 h0 (hok:=hokn) (hv:=uX)
  ·refine AW.exit ?_
   have zG:i=m:=by have:=d8 hb;omega
   subst zG
   have hlowm:nd d.rows i=nd d.rows d.rows.length:=by rw[hl]
   rw[hlowm]
   have hci:e8 (nOf 1) i d=⟨d.rows.map (vJ (nOf 1)),d.gk,d.gc,d.n,d.piv,d.most⟩:=by rw[←hl];exact wx _ _
   rw[hci] at wt BR hdi
   have hGi:=BR.hG
   -- the goal
   refine rsd [28] hx fun K hK=>?_
   iterate 4 refine sa ?_
   refine c1 mJ.pc ?_
   refine cq (Eh (-1) (by omega)) ?_
   refine i1 (i:=0) (n:=w) hw0 ?_
   refine t1 (Pt.el d.gc 0 (by rw[hS.lg];omega)) (Pt.el_set d.gc 0 (by rw[hS.lg];omega) _) ?_
   refine .nil (hK _ _ ?_)
   have hDs:=BR.setG (wt.dif hf) (d.gc.set 0 (nOf (-1))) (by rw[eU];exact hS.lg)
   have hDs:DAt ((G,dC ((cW ay).f (d.gc.set 0 (nOf (-1)))))::V) kd R G C w (j8 d):=hDs
   have hSs:dq (j8 d) w i:=by
    refine⟨wt.len,?_,wt.lc,wt.b,hS.p0,hS.p1,hS.m0,hS.m1⟩
    show (d.gc.set 0 (nOf (-1))).length=w
    rw[eU];exact hS.lg
   have CJ:∀k ds,k≠kd→k≠R→k≠G→(∀j,j<i→k≠C j)→vs.lookup k=some ds→((G,dC ((cW ay).f (d.gc.set 0 (nOf (-1)))))::V).lookup k=some ds:=fun k ds h1 h2 h3 h4 h=>al h3 (tc k ds h1 h2 h3 h4 h)
   generalize (G,dC ((cW ay).f (d.gc.set 0 (nOf (-1)))))::V=W at hDs CJ ⊢
   have hdW:=hDs.hd
   have hms:0<(j8 d).rows.length:=by rw[hSs.len];omega
   have ob:nd d.rows d.rows.length<i:=by
    rcases rF i with e|e
    ·omega
    ·have:nd d.rows i<i:=by
      have h3:∀n,0<n→nd d.rows n<n:=by
       intro n hn
       obtain⟨n,rfl⟩:∃n',n=n'+1:=⟨n - 1,by omega⟩
       unfold nd
       have:=F8 d.rows n
       split <;> omega
      exact h3 i e
     omega
   have hra:(j8 d).rows[nd d.rows d.rows.length]? =some (j8 d).rows[nd d.rows d.rows.length]! :=wS (by rw[hSs.len];exact ob)
   have hpv:=Gv (lv:=lv) (N:=N) hDs (hSs.dif hf) hra hw0 (hSs.b _ ob) hw (by rw[hSs.len];exact hm) ⟨hSs.p0,hSs.p1⟩ ⟨hSs.m0,hSs.m1⟩
   obtain⟨M5,_⟩:=hSs.pivot ob hw0
   have hov1:=BL (vs:=vs) (vsX:=W) hf M5 D0 CJ
   have Mh:=sH _ M5
   have t3:li d=(let p:=ej (j8 d) (nd d.rows d.rows.length) 0;if p.1≠0 then p else let q:=bn p.2;if q.1.2≠0∨cU q.2.gk<0 then (q.1.2,q.2) else if eC q.2.rows 0<0 then (0,q.2) else match AS q.2.rows[(eC q.2.rows 0).toNat]!.c with|none=>(0,q.2)|some s=>ej q.2 (eC q.2.rows 0).toNat s):=rfl
   have yS:=yS _ rfl
   generalize ej (j8 d) (nd d.rows d.rows.length) 0=q at hpv M5 hov1 Mh t3 yS
   dsimp only at t3
   refine AW.seq (rs hx fun K hK=>?_)
   iterate 2 refine sa ?_
   refine q1 (sHC hpv rfl (.inl (by kernel_rfl))) ?_
   refine sa ?_
   refine .nil (hK _ _ (rs hx fun K hK=>?_))
   iterate 2 refine sa ?_
   refine .nil (hK _ _ (AW.condS rfl (fun hb=>?_) (fun hb=>?_)))
   ·have hq:q.1≠0:=da hb
    rw[if_pos hq] at t3
    refine rs hx fun K hK=>?_
    iterate 2 refine sa ?_
    exact .nil (hK _ _ (AW.ret (ND h0 t3 Mh (aB _) hov1)))
   have hq0:q.1=0:=by have:=d8 hb;simpa using this
   rw[if_neg (fun e=>e hq0)] at t3
   have yS:=yS hq0
   refine AW.skip ?_
   -- improving
   have zG:=E7 (lv:=lv) (N:=N) BQ (M5.at hf (vs:=W)) hf M5 hw hm
   obtain⟨E8,hmr,hnr,G5,hr2⟩:=M5.improve ((q.2.most - q.2.piv).toNat+1)
   change dq (bn q.2).2 w i at E8
   have hout3:∀k ds,k≠kd→k≠R→k≠G→(∀j,j<i→k≠C j)→vs.lookup k=some ds→(ov kd R G C w q.2 W).lookup k=some ds:=fun k ds h1 h2 h3 h4 h=>KE M5 h1 h2 h3 h4 (CJ k ds h1 h2 h3 h4 h)
   have ON:=BL (vs:=vs) (vsX:=ov kd R G C w q.2 W) hf E8 D0 hout3
   have hokr:=sH _ E8
   generalize bn q.2=r at zG E8 ON hokr t3 yS
   have hDr:=E8.at hf (vs:=ov kd R G C w q.2 W)
   have hdr:=hDr.hd
   refine AW.seq (rs hx fun K hK=>?_)
   refine sa ?_
   refine q1 (sHC zG rfl (.inl (by kernel_rfl))) ?_
   iterate 5 refine sa ?_
   refine .nil (hK _ _ ?_)
   generalize hX:ov kd R G C w r.2 (ov kd R G C w q.2 W)=X at hDr hdr ON ⊢
   refine rs hx fun K hK=>?_
   iterate 3 refine sa ?_
   by_cases he:r.1.2≠0
   ·have e1:decide (r.1.2≠0)=true:=aF he
    iterate 7 refine gn e1 ?_
    refine s1 (d:=dB true) (ar e1) ?_
    refine .nil (hK _ _ ?_)
    rw[if_pos (.inl he)] at t3
    refine AW.condT rfl rfl (rs hx fun K hK=>?_)
    iterate 2 refine sa ?_
    exact .nil (hK _ _ (AW.ret (ND h0 t3 hokr (aB _) ON)))
   have e1:decide (r.1.2≠0)=false:=bf he
   iterate 4 refine ga e1 ?_
   refine l1g mJ.pk e1 ?_
   refine cqg (xD _) e1 ?_
   refine ga e1 ?_
   refine s1 (d:=dB (decide (cU r.2.gk<0))) (an e1) ?_
   refine .nil (hK _ _ ?_)
   have he0:r.1.2=0:=Classical.not_not.1 he
   refine AW.condS rfl (fun hb=>?_) (fun hb=>?_)
   ·rw[if_pos (.inr (da hb))] at t3
    refine rs hx fun K hK=>?_
    iterate 2 refine sa ?_
    exact .nil (hK _ _ (AW.ret (ND h0 t3 hokr (aB _) ON)))
   rw[if_neg (by rintro (e|e);exact he e;exact d8 hb e)] at t3
   have yS:=yS he0
   refine AW.skip ?_
   -- x(0)
   have hfd:=JX (lv:=lv) (N:=N) (v:=0) hDr (by rw[E8.len];exact hm)
   refine AW.seq (rs hx fun K hK=>?_)
   refine sa ?_
   refine q1 (sHC hfd rfl (.inl (by kernel_rfl))) ?_
   refine sa ?_
   refine .nil (hK _ _ (rs hx fun K hK=>?_))
   iterate 2 refine sa ?_
   refine .nil (hK _ _ (AW.condS rfl (fun hb=>?_) (fun hb=>?_)))
   ·have uG:0≤eC r.2.rows 0:=da hb
    rw[if_neg (by omega)] at t3
    obtain⟨a,ha,Ia⟩:∃a:Nat,a<i∧eC r.2.rows 0=(a:Int):=by
     have hlr:=E8.len
     unfold eC at uG ⊢
     cases Mm:r.2.rows.findIdx? fun r=>decide (r.b=0) with
     |none=>rw[Mm] at uG;exact absurd uG (by decide)
     |some a=>exact⟨a,by have:=(qk.1 Mm).1;omega,rfl⟩
    have yS:=yS uG
    rw[Ia,show ((a:Int)).toNat=a by omega] at t3 yS
    cases OT:AS r.2.rows[a]!.c with
    |none=>exact absurd OT yS
    |some sN=>
    rw[OT] at t3
    dsimp only at t3
    have hsw:sN<w:=by
     unfold AS at OT
     have:=(qk.1 OT).1
     rw[E8.lc a ha] at this;exact this
    obtain⟨_,⟨F2,F2',e2,L2⟩,e3,tG,_,_,gt⟩:=hDr.row (i:=a) (by rw[E8.len];exact ha)
    have hix:=HC.frz (hp:=⟨X,lv,N⟩) (Ni Nh (l:=r.2.rows[a]!.c) (by omega)) (ds:=[.ow (C a) 0 36 w,.e (.lit (.func (.func 107) #[] #[]))]) ⟨AR.list e3 tG,AR.data rfl,trivial⟩ rfl
    rw[Om,OT] at hix
    dsimp only at hix
    have hrb:r.2.rows[a]? =some r.2.rows[a]! :=wS (by rw[E8.len];exact ha)
    have hpv2:=Gv (lv:=lv) (N:=N) hDr (E8.dif hf) hrb hsw (E8.b a ha) hw (by rw[E8.len];exact hm) ⟨E8.p0,E8.p1⟩ ⟨E8.m0,E8.m1⟩
    obtain⟨hSz,_⟩:=E8.pivot ha hsw
    have hout4:∀k ds,k≠kd→k≠R→k≠G→(∀j,j<i→k≠C j)→vs.lookup k=some ds→X.lookup k=some ds:=fun k ds h1 h2 h3 h4 h=>by rw[←hX];exact KE E8 h1 h2 h3 h4 (hout3 k ds h1 h2 h3 h4 h)
    have hov3:=BL (vs:=vs) (vsX:=X) hf hSz D0 hout4
    have hokz:=sH _ hSz
    generalize ej r.2 a sN=z at hpv2 hSz hov3 hokz t3
    have Al:R<N:=BQ
    have heX:X.lookup R=some F2:=e2
    refine rs hx fun K hK=>?_
    iterate 3 refine sa ?_
    refine c1 gI ?_
    refine sa ?_
    refine r1 (n:=r.2.rows.length) (i:=a) (by rw[E8.len];exact ha) ?_ (by show (fy R _).toOw=_;rw[gt];rfl) (by show D.toOw (dI .i64 _)=_;rw[Ia];rfl)
    iterate 2 refine sa ?_
    refine c1 L2 ?_
    refine q1 (sHC hix rfl (.inl (by kernel_rfl))) ?_
    refine sa ?_
    refine .nil (hK _ _ (rs hx fun K hK=>?_))
    iterate 3 refine sa ?_
    refine q1 (sHC hpv2 (by show [_,dI .i64 (eC r.2.rows 0),_]=_;rw[Ia];rfl) (.inl (by kernel_rfl))) ?_
    refine sa ?_
    exact .nil (hK _ _ (AW.ret (ND h0 t3 hokz (aB _) hov3)))
   ·have b8:eC r.2.rows 0<0:=by have:=d8 hb;omega
    rw[if_pos b8] at t3
    refine AW.skip (rs hx fun K hK=>?_)
    refine sa ?_
    exact .nil (hK _ _ (AW.ret (ND h0 t3 hokr (aB _) ON)))
end
end
section
theorem v4(l:List Row)(w:Nat)(c:List Nu):∀k,(pZ l w c k).2.length=w
 |0=>by simp[pZ]
 |k+1=>by
  unfold pZ
  dsimp only
  split
  ·rw[zo];exact v4 l w c k
  ·rw[eU];exact v4 l w c k
section
variable {vs V V2:List (Nat×List D)} {lv:List (Nat×Nat×Nat×TypeId)} {N kd R G w m:Nat} {C:Nat→Nat} {d d':Dic}
theorem DAt.setGK(h:DAt V kd R G C w d)(hf:Dif d.rows.length kd R G C)(k:Nu)(c:List Nu)(hl:c.length=w):DAt ((G,dC ((cW ay).f c))::(kd,[fy R d.rows]++bu k G w++[dI .i64 d.n,dI .i64 d.piv,dI .i64 d.most])::V) kd R G C w ⟨d.rows,k,c,d.n,d.piv,d.most⟩:=
 h.setDic hf ⟨d.rows,k,c,d.n,d.piv,d.most⟩ rfl hl (al hf.dG ab) ab fun j ds h1 h2 hj=>al h2 (al h1 hj)
theorem vo(hf:Dif m kd R G C)(hS:dq d w m)(h:DAt V2 kd R G C w d)(hr:∀k ds,k≠kd→(m≠0→k≠R)→k≠G→(∀j,j<m→k≠C j)→vs.lookup k=some ds→V2.lookup k=some ds):∀j ds,(ov kd R G C w d vs).lookup j=some ds→V2.lookup j=some ds:=
 Cq (hS.dif hf) h (fun k ds h1 h2 h3 h4 h5=>hr k ds h1 (fun _=>h2) h3 (fun j hj=>h4 j (by rw[hS.len];exact hj)) h5) fun e ds h5=>by
  have hm:=hS.len
  rw[e] at hm
  simp only[List.length_nil] at hm
  exact hr R ds hf.dR.symm (fun hh=>absurd hm.symm hh) hf.RG (fun j hj=>by omega) h5
theorem Cr(hS:dq d w m){k:Nat}{ds:List D}(h1:k≠kd)(h2:m≠0→k≠R)(h3:k≠G)(h4:∀j,j<m→k≠C j)(h:vs.lookup k=some ds):(ov kd R G C w d vs).lookup k=some ds:=by
 by_cases hm:m=0
 ·have hl:=hS.len
  have hr:d.rows=[]:=List.length_eq_zero_iff.1 (by omega)
  refine al h1 (al h3 ?_)
  rw[hr];exact h
 ·exact KE hS h1 (h2 hm) h3 h4 h
theorem rtN {x:Cx}{tm:List (Nat×D)}{vs0:List (Nat×List D)}{lv0:List (Nat×Nat×Nat×TypeId)}{N0 M n2 q:Nat}{a:D}(h0:x.hp0=⟨vs0,lv0,N0⟩)(hM:N0≤M)(hok:cQ ⟨V,lv,M⟩)(hN:M≤n2)(hv:∀j ds,V.lookup j=some ds→V2.lookup j=some ds)(hq:tm.lookup q=some a:=by exact rfl)(hd:a.idsB M=true:=by exact rfl):
  ∃tm',Wk x tm ⟨V2,lv,n2⟩ tm' ⟨V,lv,M⟩∧sQ tbl [.tmp q] tm' ⟨V,lv,M⟩ a:=
 ⟨[(q,a)],wkS (by rw[h0];exact hM) hN hok hv (bU.nil.cons hq hd),⟨a,ab,rfl⟩⟩
theorem h_aim {c:List Nu}(BQ:R<N)(hD:DAt vs kd R G C w d)(hf:Dif m kd R G C)(hS:dq d w m)(hw:w≤1000000)(hm:m≤1000000)(hw0:0<w)(hc:c.length+1≤w):
  HC Tryz.prog 45 [.pt kd 0,.e (slE ay c)] ⟨vs,lv,N⟩ (dI .i64 (nB d c).1) ⟨ov kd R (N+3) C w (nB d c).2 vs,lv,N+4⟩:=by
 refine HC.of (rs:=[.tmp 4]) tok Tryz.func45 rfl rfl (dK rfl) rfl (fun cx hx h0 hok=>?_)
 simp only[fS,Nat.reduceAdd,bJ]
 have hl:=hS.len
 have vy:=hD.hd
 have Ev:=hok.lt vy
 have Py:=hok.lt hD.hG
 have hGV:=hD.hG
 have IZ:=hD.lG
 have hCN:∀j,j<m→C j<N:=fun j hj=>hok.lt (hD.hC j d.rows[j]! (wS (by omega)))
 have CO:Dif m kd R (N+3) C:=⟨hf.dR,by omega,by omega,fun i hi=>⟨(hf.C1 i hi).1,(hf.C1 i hi).2.1,by have:=hCN i hi;omega⟩,hf.C2⟩
 refine rs hx fun K hK=>?_
 refine sa ?_
 refine .nil (hK _ _ (rs hx fun K hK=>?_))
 iterate 5 refine sa ?_
 refine c1 mJ.pc ?_
 refine sa ?_
 refine q1 (sHC (ws hw) rfl (.inr ⟨by show N≤N+4;omega,fun j hj=>by have hj:j<N:=hj;exact (au (by omega)).trans (au (by omega))⟩)) ?_
 iterate 2 refine sa ?_
 refine v1 (ys:=bu (nOf 0) (N+3) w) (mJ (R:=R) (G:=G) (w:=w) (d:=d)).pa (cl _ _ _) ((cl _ _ _).trans (cl d.gk G w).symm) rfl ?_
 refine .nil (hK _ _ ?_)
 -- the dictionary with the goal 0
 obtain⟨dz,hdz⟩:∃dz:Dic,dz=⟨d.rows,nOf 0,List.replicate w (nOf 0),d.n,d.piv,d.most⟩:=⟨_,rfl⟩
 have hSz:dq dz w m:=by rw[hdz];exact⟨hl,by simp,hS.lc,hS.b,hS.p0,hS.p1,hS.m0,hS.m1⟩
 obtain⟨V0,D6⟩:∃V0,V0=(kd,[fy R d.rows]++bu (nOf 0) (N+3) w++[dI .i64 d.n,dI .i64 d.piv,dI .i64 d.most])::(N,bu (nOf 0) (N+3) w)::(N+3,dC ((cW ay).f (List.replicate w (nOf 0))))::vs:=⟨_,rfl⟩
 have hDz:DAt V0 kd R (N+3) C w dz:=by
  rw[D6,hdz]
  refine⟨ab,fun gt=>al hf.dR.symm (al (by omega) (al (by omega) (hD.hR gt))),al (by omega) (al (by omega) ab),fun i r hr=>?_,by simp,hS.lC⟩
  have hi:=(fZ.1 hr).1
  have hi:i<m:=by rw[←hl];exact hi
  have:=hCN i hi
  exact al (hf.C1 i hi).1 (al (by omega) (al (by omega) (hD.hC i r hr)))
 have hok0:cQ ⟨V0,lv,N+4⟩:=by
  rw[D6]
  refine cQ.consM ?_ (by omega) ?_
  ·refine cQ.consM ?_ (by omega) (ja (by omega))
   exact cQ.consM (hok.up (by omega)) (by omega) (eS _)
  ·exact rt (d:=⟨d.rows,nOf 0,List.replicate w (nOf 0),d.n,d.piv,d.most⟩) (R:=R) (G:=N+3) (w:=w) (by omega) (by omega)
 have KU:∀k ds,k≠kd→(m≠0→k≠R)→k≠N+3→(∀j,j<m→k≠C j)→vs.lookup k=some ds→V0.lookup k=some ds:=fun k ds h1 h2 h3 h4 h=>by
  have:=hok.lt h
  rw[D6];exact al h1 (al (by omega) (al h3 h))
 rw[←D6]
 have sH:∀d2,dq d2 w m→cQ ⟨ov kd R (N+3) C w d2 vs,lv,N+4⟩:=fun d2 h2=>AQ (hok.up (by omega)) (by omega) (by omega) (by omega) fun j hj=>by have:=hCN j (by rw[←h2.len];exact hj);omega
 -- the rows
 refine AW.seq (rs hx fun K hK=>?_)
 have hdz0:=hDz.hd
 iterate 3 refine sa ?_
 refine c1 gI ?_
 refine Ku (R:=R) (l:=dz.rows) rfl ?_
 refine sa ?_
 refine .nil (hK _ _ ?_)
 rw[hSz.len]
 refine AW.block (AW.loopW (fun i:Nat=>[(0,.pt kd 0),(1,.e (slE ay c)),(23,dI .i64 m),(24,dI .i64 i)]) (fun i=>⟨ov kd R (N+3) C w (e8 (nOf 0) i dz) vs,lv,N+4⟩) (fun i=>i≤m) (fun i=>m - i) 0 ?_ (cX _) ?_)
 ·rw[C9]
  exact wk1 h0 (hok:=sH dz hSz) (hv:=vo CO hSz hDz KU)
 ·intro i hi
  have wt:=hSz.colsI (nOf 0) hi
  have BR:=wt.at CO (vs:=vs)
  have oa:=sH _ wt
  have tc:∀k ds,k≠kd→(m≠0→k≠R)→k≠N+3→(∀j,j<m→k≠C j)→vs.lookup k=some ds→(ov kd R (N+3) C w (e8 (nOf 0) i dz) vs).lookup k=some ds:=fun k ds h1 h2 h3 h4 h=>Cr wt h1 h2 h3 h4 h
  have hzl:=hSz.len
  generalize hV:ov kd R (N+3) C w (e8 (nOf 0) i dz) vs=V at BR oa tc ⊢
  have hdi:=BR.hd
  have hli:=wt.len
  refine rs hx fun K hK=>?_
  refine sa ?_
  refine .nil (hK _ _ (AW.seq (AW.condS rfl (fun hb=>?_) (fun hb=>?_))))
  ·have zG:i<m:=by have:=da hb;omega
   have JL:(e8 (nOf 0) i dz).rows[i]! =dz.rows[i]! :=Fc (by omega)
   obtain⟨⟨F1,F1',e1,L1⟩,⟨F2,F2',e2,L2⟩,e3,tG,_,_,gt⟩:=BR.row (i:=i) (by omega)
   have hk1:=oa.lt e1
   have hk3:=oa.lt e3
   rw[JL] at e3 L1 tG
   refine AW.skip (AW.seq (AW.block (rs hx fun K hK=>?_)))
   iterate 2 refine sa ?_
   refine .nil (hK _ _ (rqd [28] hx fun K hK=>?_))
   iterate 3 refine sa ?_
   refine c1 gI ?_
   refine sa ?_
   refine r1 (n:=(e8 (nOf 0) i dz).rows.length) (i:=i) (by omega) ?_ (by show (fy R _).toOw=_;rw[gt];rfl)
   iterate 2 refine sa ?_
   refine c1 L2 ?_
   refine cq (Eh 0 (by omega)) ?_
   refine i1 (i:=0) (n:=w) hw0 ?_
   refine t1 (Pt.el dz.rows[i]!.c 0 (by omega)) (Pt.el_set dz.rows[i]!.c 0 (by omega) _) ?_
   refine .nil (hK _ _ ?_)
   have hdn:(⟨(e8 (nOf 0) i dz).rows.set i ⟨(e8 (nOf 0) i dz).rows[i]!.k,dz.rows[i]!.c.set 0 (nOf 0),(e8 (nOf 0) i dz).rows[i]!.b⟩,dz.gk,dz.gc,dz.n,dz.piv,dz.most⟩:Dic)=e8 (nOf 0) (i+1) dz:=by
    rw[JL];exact Da (by omega)
   have JY:=BR.setC (wt.dif CO) (j:=i) (by omega) (dz.rows[i]!.c.set 0 (nOf 0)) (by rw[eU];exact tG)
   have JY:DAt ((C i,dC ((cW ay).f (dz.rows[i]!.c.set 0 (nOf 0))))::V) kd R (N+3) C w (e8 (nOf 0) (i+1) dz):=by rw[←hdn];exact JY
   have hSn:=hSz.colsI (nOf 0) (show i+1≤m by omega)
   have uX:=vo (vs:=vs) CO hSn JY fun k ds h1 h2 h3 h4 h=>al (h4 i zG) (tc k ds h1 h2 h3 h4 h)
   have hokn:=sH _ hSn
   refine rq hx fun K hK=>?_
   iterate 2 refine sa ?_
   refine .nil (hK _ _ ?_)
   rw[cm (by omega)]
   exact⟨i+1,wk1 h0 (hok:=hokn) (hv:=uX),zG,by omega⟩
  ·refine AW.exit ?_
   have zG:i=m:=by have:=d8 hb;omega
   subst zG
   have hci:e8 (nOf 0) i dz=⟨d.rows.map (vJ (nOf 0)),nOf 0,List.replicate w (nOf 0),d.n,d.piv,d.most⟩:=by
    rw[←hzl,wx,hdz]
   rw[hci] at wt BR hdi
   -- the numbers of the program
   obtain⟨rz,hrz⟩:∃rz,rz=d.rows.map (vJ (nOf 0)):=⟨_,rfl⟩
   rw[←hrz] at wt BR hdi
   have hSk:∀k,dq ⟨rz,(pZ rz w c k).1,(pZ rz w c k).2,d.n,d.piv,d.most⟩ w i:=fun k=>⟨wt.len,v4 rz w c k,wt.lc,wt.b,hS.p0,hS.p1,hS.m0,hS.m1⟩
   have haim:nB d c=(if iT (pZ rz w c c.length).1 (pZ rz w c c.length).2 then 0 else 30,⟨rz,(pZ rz w c c.length).1,(pZ rz w c c.length).2,d.n,d.piv,d.most⟩):=by
    unfold nB aimD
    rw[←hrz,hS.lg]
   refine AW.seq (rs hx fun K hK=>?_)
   iterate 3 refine sa ?_
   refine .nil (hK _ _ (AW.block (AW.loopW (fun k:Nat=>[(0,.pt kd 0),(39,.e (slE ay c)),(40,dI .i64 (c.length:Nat)),(41,dI .i64 k)]) (fun k=>⟨ov kd R (N+3) C w ⟨rz,(pZ rz w c k).1,(pZ rz w c k).2,d.n,d.piv,d.most⟩ vs,lv,N+4⟩) (fun k=>k≤c.length) (fun k=>c.length - k) 0 ?_ (cX _) ?_)))
   ·exact wk1 h0 (hok:=sH _ (hSk 0)) (hv:=vo CO (hSk 0) BR tc)
   ·intro k hk
    have A6:=hSk k
    have hDj:=A6.at CO (vs:=vs)
    have oa:=sH _ A6
    have tc:∀k' ds,k'≠kd→(i≠0→k'≠R)→k'≠N+3→(∀j,j<i→k'≠C j)→vs.lookup k'=some ds→(ov kd R (N+3) C w ⟨rz,(pZ rz w c k).1,(pZ rz w c k).2,d.n,d.piv,d.most⟩ vs).lookup k'=some ds:=fun k' ds h1 h2 h3 h4 h=>Cr A6 h1 h2 h3 h4 h
    have Ex:pZ rz w c (k+1)=(if 0≤eC rz ((k+1:Nat):Int) then (Dt c[k]! rz[(eC rz ((k+1:Nat):Int)).toNat]!.k (pZ rz w c k).1,AD c[k]! rz[(eC rz ((k+1:Nat):Int)).toNat]!.c (-1) (pZ rz w c k).2) else ((pZ rz w c k).1,(pZ rz w c k).2.set (k+1) (n9 (pZ rz w c k).2[k+1]! c[k]!))):=rfl
    have zF:=v4 rz w c k
    clear hV KU oa
    have oa:=sH _ A6
    generalize ov kd R (N+3) C w ⟨rz,(pZ rz w c k).1,(pZ rz w c k).2,d.n,d.piv,d.most⟩ vs=W at hDj oa tc ⊢
    have Mt:=hSk (k+1)
    refine rs hx fun K hK=>?_
    refine sa ?_
    refine .nil (hK _ _ (AW.seq (AW.condS rfl (fun hb=>?_) (fun hb=>?_))))
    ·have hkc:k<c.length:=by have:=da hb;omega
     have mq:0≤(k:Int)∧(k:Int)<((c.length:Nat):Int):=by omega
     refine AW.skip (AW.seq (AW.block (rs hx fun K hK=>?_)))
     refine sa ?_
     refine s1 (gV mq aH aw) ?_
     refine s1 (d:=dG ay c[k]!) (mj (c:=ay) (l:=c) (n:=k) (o:=0) aw hkc (fm _ _ rfl)) ?_
     refine n1 ?_
     refine sa ?_
     refine z1 ?_
     refine .nil (hK _ _ ?_)
     generalize c[k]! =ck at Ex ⊢
     generalize pZ rz w c k=g1 at Ex hDj zF A6 tc
     have hup:∀(j:Nat) (ds:List D),W.lookup j=some ds→((N+4,dC (ay.f ck))::(N+4,dC zN)::W).lookup j=some ds:=fun j ds h=>by
      have:=oa.lt h
      exact al (by omega) (al (by omega) h)
     have Pz:=hDj.up hup
     have hfd:=JX (lv:=lv) (N:=N+4+1) (v:=((k+1:Nat):Int)) Pz (by show rz.length≤_;have:=wt.len;dsimp only at this;omega)
     have hoX:cQ ⟨(N+4,dC (ay.f ck))::(N+4,dC zN)::W,lv,N+4+1⟩:=cQ.consM (cQ.consM (oa.up (by omega)) (by omega) (eS _)) (by omega) (eS _)
     have CJ:∀k' ds,k'≠kd→(i≠0→k'≠R)→k'≠N+3→(∀j,j<i→k'≠C j)→vs.lookup k'=some ds→((N+4,dC (ay.f ck))::(N+4,dC zN)::W).lookup k'=some ds:=fun k' ds h1 h2 h3 h4 h=>hup k' ds (tc k' ds h1 h2 h3 h4 h)
     have hcX:((N+4,dC (ay.f ck))::(N+4,dC zN)::W).lookup (N+4)=some (dC (ay.f ck)):=ab
     generalize (N+4,dC (ay.f ck))::(N+4,dC zN)::W=X at Pz hfd hoX CJ hcX ⊢
     have hdX:=Pz.hd
     have hGX:=Pz.hG
     refine rs hx fun K hK=>?_
     iterate 3 refine sa ?_
     rw[cm (by omega)]
     refine q1 (sHC hfd rfl (.inl (by kernel_rfl))) ?_
     refine sa ?_
     refine .nil (hK _ _ (rs hx fun K hK=>?_))
     iterate 2 refine sa ?_
     refine .nil (hK _ _ ?_)
     dsimp only
     refine AW.condS rfl (fun hb=>?_) (fun hb=>?_)
     ·have uG:0≤eC rz ((k+1:Nat):Int):=da hb
      rw[if_pos uG] at Ex
      obtain⟨a,ha,Ia⟩:∃a:Nat,a<i∧eC rz ((k+1:Nat):Int)=(a:Int):=by
       have hlr:=wt.len
       dsimp only at hlr
       unfold eC at uG ⊢
       cases Mm:rz.findIdx? fun r=>decide (r.b=((k+1:Nat):Int)) with
       |none=>rw[Mm] at uG;exact absurd uG (by decide)
       |some a=>exact⟨a,by have:=(qk.1 Mm).1;omega,rfl⟩
      rw[Ia,show ((a:Int)).toNat=a by omega] at Ex
      have hra:=Pz.row (i:=a) (by have:=wt.len;dsimp only at this ⊢;omega)
      obtain⟨_,_,e3,tG,_,⟨F5,F5',e5,L5⟩,gt⟩:=hra
      dsimp only at e3 tG L5 gt
      have hk5:=hoX.lt e5
      have hkX:=hoX.lt hdX
      have hkC:=CO.C1 a ha
      have hadd:=h_add (lv:=lv) (N:=N+4+1) (q:=ck) (xk:=rz[a]!.k) (but:=-1) hdX mJ hGX Pz.lG e3 tG CO.dG hkC.2.2 hkC.1 hw
      refine rqd [] hx fun K hK=>?_
      iterate 3 refine sa ?_
      refine l1 (Pt.idN ck) ?_
      iterate 3 refine sa ?_
      refine c1 gI ?_
      refine sa ?_
      refine r1 (n:=rz.length) (i:=a) (by have:=wt.len;dsimp only at this;omega) ?_ (by show (fy R _).toOw=_;rw[gt];rfl) (by show D.toOw (dI .i64 _)=_;rw[Ia];rfl)
      refine sa ?_
      refine p1 L5 (cl _ _ _) ?_
      refine q1 (sHC hadd rfl (.inl (by kernel_rfl))) ?_
      refine .nil (hK _ _ ?_)
      have JY:=Pz.setGK (A6.dif CO) (Dt ck rz[a]!.k g1.1) (AD ck rz[a]!.c (-1) g1.2) (by rw[zo];exact zF)
      refine rq hx fun K hK=>?_
      iterate 2 refine sa ?_
      refine .nil (hK _ _ ?_)
      rw[cm (by omega)]
      rw[Ex] at Mt
      refine⟨k+1,?_,hkc,by omega⟩
      rw[Ex]
      exact wk1 h0 (hok:=sH _ Mt) (hv:=vo CO Mt JY fun k' ds h1 h2 h3 h4 h=>al h3 (al h1 (CJ k' ds h1 h2 h3 h4 h)))
     ·have b8:¬0≤eC rz ((k+1:Nat):Int):=d8 hb
      rw[if_neg b8] at Ex
      refine rqd [66] hx fun K hK=>?_
      iterate 4 refine sa ?_
      refine c1 mJ.pc ?_
      iterate 2 refine sa ?_
      rw[cm (by omega)]
      iterate 4 refine sa ?_
      refine c1 mJ.pc ?_
      iterate 2 refine sa ?_
      rw[cm (by omega)]
      refine i1 (i:=k+1) (n:=w) (by omega) ?_
      refine l1 (Pt.el g1.2 (k+1) (by omega)) ?_
      refine l1 (Pt.idN ck) ?_
      refine cq (w_Add _ _) ?_
      refine i1 (i:=k+1) (n:=w) (by omega) ?_
      refine t1 (Pt.el g1.2 (k+1) (by omega)) (Pt.el_set g1.2 (k+1) (by omega) _) ?_
      refine .nil (hK _ _ ?_)
      have JY:=Pz.setG (A6.dif CO) (g1.2.set (k+1) (n9 g1.2[k+1]! ck)) (by rw[eU];exact zF)
      refine rq hx fun K hK=>?_
      iterate 2 refine sa ?_
      refine .nil (hK _ _ ?_)
      rw[cm (by omega)]
      rw[Ex] at Mt
      refine⟨k+1,?_,hkc,by omega⟩
      rw[Ex]
      exact wk1 h0 (hok:=sH _ Mt) (hv:=vo CO Mt JY fun k' ds h1 h2 h3 h4 h=>al h3 (CJ k' ds h1 h2 h3 h4 h))
    ·refine AW.exit ?_
     have hkc:k=c.length:=by have:=d8 hb;omega
     subst hkc
     have hdX:=hDj.hd
     have hgd:=JW (lv:=lv) (N:=N+4) (k:=(pZ rz w c c.length).1) hDj.hG zF hw
     have uX:=vo (vs:=vs) CO A6 hDj tc
     refine AW.seq (rs hx fun K hK=>?_)
     iterate 3 refine sa ?_
     refine p1 mJ.pa (cl _ _ _) ?_
     refine q1 (sHC hgd rfl (.inl (by kernel_rfl))) ?_
     refine sa ?_
     refine .nil (hK _ _ ?_)
     rw[haim]
     refine AW.condS rfl (fun hb=>?_) (fun hb=>?_)
     ·rw[if_neg (by simpa using hb)]
      refine rs hx fun K hK=>?_
      refine sa ?_
      exact .nil (hK _ _ (AW.ret (rtN h0 (tk N 4) (sH _ A6) (aB _) uX)))
     ·rw[if_pos (by simpa using hb)]
      refine AW.skip (rs hx fun K hK=>?_)
      refine sa ?_
      exact .nil (hK _ _ (AW.ret (rtN h0 (tk N 4) (sH _ A6) (aB _) uX)))
end
end
section
theorem HC.conv {P:Program}{f:FuncId}{ds ds':List D}{hp hp':Hp}{d:D}(hl:ds'.length=ds.length)(hr:∀(g:Gh) (w:World) (j:Nat) (a b:D) (v:Value),ds[j]? =some a→ds'[j]? =some b→aR hp g w a v→aR hp g w b v)(hc:HC P f ds' hp d hp'):HC P f ds hp d hp':=by
 refine⟨hc.1,fun B g w vs pB hsz dx=>hc.2 B g w vs pB (by omega) fun j e u he hu=>?_⟩
 have hj:j<ds.length:=by rw[←hl];exact (fZ.1 he).1
 exact hr g w j ds[j] e u (de hj) he (dx j ds[j] u (de hj) hu)
theorem Ky {hp:Hp}{g:Gh}{w:World}{f:FuncId}{v:Value}(h:aR hp g w (.e (.lit (.func (.func f) #[] #[]))) v):aR hp g w (.fn f []) v:=by
 have h2:=h.lit
 subst h2
 exact .fn f [] (fun k hk=>absurd hk (qj))
section
variable {vs V V2:List (Nat×List D)} {lv:List (Nat×Nat×Nat×TypeId)} {N kd R G w m:Nat} {C:Nat→Nat} {d:Dic}
theorem Ib {fo ft:FuncId}{ko kt:List Nat}{of:Row→Nu}{ot:Nat→Int}{nn:Nat}(hD:DAt vs kd R G C w d)(hS:dq d w m)(hm:m≤1000000)(hnn:d.n=(nn:Int))(E4:nn≤1000000)
  (hko:∀k,k∈ko→k<N) (hkt:∀k,k∈kt→k<N) (hot2:∀v,-2≤ot v∧ot v≤2)
  (hof:∀(V2:List (Nat×List D)) (DU:List (Nat×Nat×Nat×TypeId)) (M i:Nat),(∀k ds,vs.lookup k=some ds→V2.lookup k=some ds)→i<m→HC Tryz.prog fo ([.ag (iY C w i d.rows[i]!)]++ko.map fun k=>.pt k 0) ⟨V2,DU,M⟩ (dG ay (of d.rows[i]!)) ⟨V2,DU,M⟩)
  (hot:∀(V2:List (Nat×List D)) (DU:List (Nat×Nat×Nat×TypeId)) (M v:Nat),(∀k ds,vs.lookup k=some ds→V2.lookup k=some ds)→HC Tryz.prog ft ([dI .i64 v]++kt.map fun k=>.pt k 0) ⟨V2,DU,M⟩ (dI .i64 (ot v)) ⟨V2,DU,M⟩):
  HC Tryz.prog 47 [.pt kd 0,.fn fo ko,.fn ft kt] ⟨vs,lv,N⟩ (.e (slE ay (mP d.rows nn of fun v=>nOf (ot v)))) ⟨vs,lv,N⟩:=by
 refine HC.of (rs:=[.tmp 6]) tok Tryz.func47 rfl rfl (dK rfl) rfl (fun cx hx h0 hok=>?_)
 simp only[fS,Nat.reduceAdd,bJ]
 have hl:=hS.len
 have vy:=hD.hd
 have Ev:=hok.lt vy
 obtain⟨f,hf⟩:∃f:Nat→Nu,f=fun j=>if 0≤eC d.rows ((j+1:Nat):Int) then of d.rows[(eC d.rows ((j+1:Nat):Int)).toNat]! else nOf (ot (j+1)):=⟨_,rfl⟩
 have hfv:mP d.rows nn of (fun v=>nOf (ot v))=(List.range nn).map f:=by rw[hf];rfl
 have hsk:∀M,N≤M→(D.fn fo ko).idsB M=true∧(D.fn ft kt).idsB M=true:=fun M hM=>⟨dc.2 fun k hk=>aF (by have:=hko k hk;omega),dc.2 fun k hk=>aF (by have:=hkt k hk;omega)⟩
 refine rs hx fun K hK=>?_
 refine s1 (d:=dO N ay ([]:List Nu)) (fW aH aw) ?_
 refine .nil (hK _ _ (rs hx fun K hK=>?_))
 refine s1 (d:=dO (N+1) ay ([]:List Nu)) (fW aH aw) ?_
 refine .nil (hK _ _ ?_)
 have OR:∀u:Nat,cQ ⟨vs,(N+1,u,36,43)::lv,N+1+1⟩:=fun u=>by
  refine⟨fun j ds h=>?_,fun id e h=>?_⟩
  ·obtain⟨h1,h2⟩:=hok.var j ds h
   have h1:j<N:=h1
   exact⟨show j<N+1+1 by omega,dc.2 fun d hd=>D.idsC_le (show N≤N+1+1 by omega) (dc.1 h2 d hd)⟩
  ·by_cases hid:id=N+1
   ·show id<N+1+1;omega
   ·have:=hok.tok id e (by rw[←h];exact (au hid).symm)
    have:id<N:=this
    show id<N+1+1;omega
 refine AW.seq (rs hx fun K hK=>?_)
 refine sa ?_
 refine .nil (hK _ _ (AW.block (AW.loopW (fun u:Nat=>[(0,.pt kd 0),(1,.fn fo ko),(2,.fn ft kt),(7,dO (N+1) ay ((List.range u).map f)),(8,dI .i64 (u+1:Nat))]) (fun u=>⟨vs,(N+1,u,36,43)::lv,N+1+1⟩) (fun u=>u≤nn) (fun u=>nn - u) 0 ?_ (cX _) ?_)))
 ·refine Ea (by rw[h0];show N≤N+1+1;omega) (aB _) (OR 0) (fun j ds h=>h) (fun j y h=>?_) (bU.cons (bU.cons (bU.cons (bU.cons (bU.cons bU.nil rfl rfl) rfl (aF (show N+1<N+1+1 by omega))) rfl (hsk _ (by omega)).2) rfl (hsk _ (by omega)).1) rfl (aF (show kd<N+1+1 by omega)))
  by_cases hj:j=N+1
  ·subst hj
   rw[←h]
   exact ab.trans ab.symm
  ·have h1:lv.lookup j=some y:=by rw[←h];exact (au hj).symm
   have h2:j<N:=hok.tok j y h1
   exact (au hj).trans ((au (show j≠N by omega)).trans h1)
 ·intro u hu
  have Mk:((List.range u).map f).length=u:=by simp
  refine AW.seq (rs hx fun K hK=>?_)
  iterate 4 refine sa ?_
  refine c1 dic_n ?_
  rw[hnn]
  refine sa ?_
  refine .nil (hK _ _ (AW.condS rfl (fun hb=>?_) (fun hb=>?_)))
  ·have hun:u<nn:=by have:=da hb;omega
   refine AW.skip ?_
   have hfd:=JX (lv:=(N+1,u,36,43)::lv) (N:=N+1+1) (v:=((u+1:Nat):Int)) hD (by omega)
   have rU:(List.range (u+1)).map f=(List.range u).map f++[f u]:=by rw[uK,iU];rfl
   have hfu:f u=if 0≤eC d.rows ((u+1:Nat):Int) then of d.rows[(eC d.rows ((u+1:Nat):Int)).toNat]! else nOf (ot (u+1)):=by rw[hf]
   have OG:∀{tm:List (Nat×D)} {vX:List (Nat×List D)} {n2:Nat},(∀j ds,vs.lookup j=some ds→vX.lookup j=some ds)→N+1+1≤n2→tm.lookup 0=some (.pt kd 0)→tm.lookup 1=some (.fn fo ko)→tm.lookup 2=some (.fn ft kt)→tm.lookup 7=some (dO (N+1) ay ((List.range u).map f++[f u]))→tm.lookup 8=some (dI .i64 ((u+1+1:Nat):Int))→
     Wk cx tm ⟨vX,(N+1,((List.range u).map f++[f u]).length,36,43)::(N+1+1,1,36,43)::(N+1,u,36,43)::lv,n2⟩ [(0,.pt kd 0),(1,.fn fo ko),(2,.fn ft kt),(7,dO (N+1) ay ((List.range (u+1)).map f)),(8,dI .i64 (u+1+1:Nat))] ⟨vs,(N+1,u+1,36,43)::lv,N+1+1⟩:=fun hv hn a b c e g=>by
    rw[rU]
    refine Ea (by rw[h0];show N≤N+1+1;omega) hn (OR (u+1)) hv (fun j y h=>?_) (bU.cons (bU.cons (bU.cons (bU.cons (bU.cons bU.nil g rfl) e (aF (show N+1<N+1+1 by omega))) c (hsk _ (by omega)).2) b (hsk _ (by omega)).1) a (aF (show kd<N+1+1 by omega)))
    by_cases hj:j=N+1
    ·subst hj
     have h1:some (u+1,36,43)=some y:=by rw[←h];exact ab.symm
     rw[←h1]
     exact ab.trans (by rw[c8,Mk];rfl)
    ·have h1:lv.lookup j=some y:=by rw[←h];exact (au hj).symm
     have h2:j<N:=hok.tok j y h1
     exact (au hj).trans ((au (show j≠N+1+1 by omega)).trans ((au hj).trans h1))
   refine AW.seq (AW.block (rs hx fun K hK=>?_))
   iterate 2 refine sa ?_
   refine q1 (sHC hfd rfl (.inl (by kernel_rfl))) ?_
   refine sa ?_
   refine .nil (hK _ _ (rs hx fun K hK=>?_))
   iterate 2 refine sa ?_
   refine .nil (hK _ _ (AW.condS rfl (fun hb=>?_) (fun hb=>?_)))
   ·have uG:0≤eC d.rows ((u+1:Nat):Int):=da hb
    rw[if_pos uG] at hfu
    obtain⟨a,ha,Ia⟩:∃a:Nat,a<m∧eC d.rows ((u+1:Nat):Int)=(a:Int):=by
     unfold eC at uG ⊢
     cases Mm:d.rows.findIdx? fun r=>decide (r.b=((u+1:Nat):Int)) with
     |none=>rw[Mm] at uG;exact absurd uG (by decide)
     |some a=>exact⟨a,by have:=(qk.1 Mm).1;omega,rfl⟩
    rw[Ia,show ((a:Int)).toNat=a by omega] at hfu
    obtain⟨_,_,_,_,⟨F5,F5',e5,L5⟩,_,gt⟩:=hD.row (i:=a) (by omega)
    have hk5:=hok.lt e5
    refine rq hx fun K hK=>?_
    iterate 5 refine sa ?_
    refine c1 gI ?_
    refine sa ?_
    refine r1 (n:=d.rows.length) (i:=a) (by omega) ?_ (by show (fy R _).toOw=_;rw[gt];rfl) (by show D.toOw (dI .i64 _)=_;rw[Ia];rfl)
    refine p1 L5 (sV _ _ _ _) ?_
    refine q1 (sHF (hof vs _ _ a (fun _ _ h=>h) ha) rfl) ?_
    rw[←hfu]
    refine s1 (kJ [f u] ay aH aw) ?_
    refine s1 (qn (id:=N+1) (l:=(List.range u).map f) (l':=[f u]) aH aw (by rw[c8,Mk];show (u+1)*136≤140737488355328;omega) rfl rfl rfl rfl (by rw[Mk];exact (au (show N+1≠N+1+1 by omega)).trans ab)) ?_
    refine sa ?_
    refine .nil (hK _ _ (rq hx fun K hK=>?_))
    iterate 3 refine sa ?_
    refine .nil (hK _ _ ?_)
    rw[cm (by omega)]
    exact⟨u+1,OG (fun _ _ h=>h) (by omega) rfl rfl rfl rfl rfl,hun,by omega⟩
   ·have b8:¬0≤eC d.rows ((u+1:Nat):Int):=d8 hb
    rw[if_neg b8] at hfu
    refine rq hx fun K hK=>?_
    iterate 3 refine sa ?_
    refine q1 (sHF (hot vs _ _ (u+1) (fun _ _ h=>h)) rfl) ?_
    refine cq (Eh (ot (u+1)) (hot2 _)) ?_
    rw[←hfu]
    refine s1 (kJ [f u] ay aH aw) ?_
    refine s1 (qn (id:=N+1) (l:=(List.range u).map f) (l':=[f u]) aH aw (by rw[c8,Mk];show (u+1)*136≤140737488355328;omega) rfl rfl rfl rfl (by rw[Mk];exact (au (show N+1≠N+1+1 by omega)).trans ab)) ?_
    refine sa ?_
    refine .nil (hK _ _ (rq hx fun K hK=>?_))
    iterate 3 refine sa ?_
    refine .nil (hK _ _ ?_)
    rw[cm (by omega)]
    exact⟨u+1,OG (fun _ _ h=>h) (by omega) rfl rfl rfl rfl rfl,hun,by omega⟩
  ·refine AW.exit ?_
   have hun:u=nn:=by have:=d8 hb;omega
   refine rs hx fun K hK=>?_
   iterate 2 refine sa ?_
   refine .nil (hK _ _ (AW.ret ?_))
   rw[hfv,hun]
   exact⟨[(6,D.ex (dO (N+1) ay ((List.range nn).map f)))],Ea (by rw[h0];exact aB N) (show N≤N+1+1 by omega) hok (fun j ds h=>h) (fun j y h=>(au (by have h2:j<N:=hok.tok j y h;omega)).trans h) (bU.consX bU.nil rfl rfl),⟨_,ab,rfl⟩⟩
end
end
section
section
variable {P:Program} {tb:TypeId→Option TyE} {dr:Bool} {ty:TypeId} {ev:Operand→D} {hp:Hp} {t:TypeId} {i:TyE} {x:Operand} {xs:List E} {off:Nat} {e:E}
theorem T_ldX(he:xs[off]? =some e)(ht:tb t=some i)(hg:i.ty.agg=false:=by exact rfl)(hx:ev x=.fp xs off:=by exact rfl):AVC P tb dr (.load t x) ty ev hp (Kq (.e e) hp):=by
 rw[qL,hx,CB,ht]
 simp only[hg]
 refine⟨(fZ.1 he).1,?_⟩
 rw[show xs.getD off .any=e by rw[ue,he];rfl]
 exact Kq.here _ _
theorem AR.ptf {k:Nat}{ds:List D}{es:List E}(hv:hp.vars.lookup k=some ds)(hl:es.length=ds.length)(ha:∀(j:Nat) (d:D) (e:E),ds[j]? =some d→es[j]? =some e→AR hp d (.e e)):AR hp (.pt k 0) (.fp es 0):=by
 intro B g w v hr hd
 obtain⟨h1,h2,h3,cs,tt,h4,h5,h6⟩:=hr.var k ds hv
 cases hd with
 |pt _ _ hk=>
  have h0:(⟨g.μ k,0,none⟩:Addr).add 0=⟨g.μ k,0,none⟩:=by rw[Addr.add_lit]
  have:=aR.fp (hp:=⟨[],[],0⟩) (g:=⟨fun _=>0,fun _=>default,Fv hp g⟩) (w:=w) es 0 ⟨g.μ k,0,none⟩ (oR.1 h4).1 fun j e he=>?_
  ·rw[h0] at this;exact this
  ·have hj:j<ds.length:=by rw[←hl];exact (fZ.1 he).1
   have hjc:j<cs.size:=by omega
   obtain⟨h7,h8⟩:=h6 j cs[j] (ss hjc)
   have h9:=ha j ds[j] e (de hj) he B g w cs[j] hr (h8 ds[j] (de hj))
   refine⟨cs[j],?_,fun hf=>hf.2 k ds hv (by rw[gv]),?_⟩
   ·rw[Addr.add_lit]
    simp[World.cell?,h4,ss hjc]
   ·cases h9 with
    |e _ _ h=>exact h
end
def Ir(d:Dic):List E:=[.any]++(ay.f d.gk++[slE ay d.gc])++[.lit (.int .i64 d.n),.lit (.int .i64 d.piv),.lit (.int .i64 d.most)]
theorem GE(a:Nu):(ay.f a).length=36:=by rw[ay.h];rfl
theorem dicE_c(d:Dic):(Ir d)[0+1+36]? =some (slE ay d.gc):=by
 have:=GE d.gk
 unfold Ir
 rw[zk (by simp[this]),ql (by simp),show (0+1+36 - [E.any].length)=(ay.f d.gk).length by rw[this];rfl,ql (by omega),Nat.sub_self]
 rfl
theorem dicE_n(d:Dic):(Ir d)[0+38]? =some (.lit (.int .i64 d.n)):=by
 have:=GE d.gk
 unfold Ir
 rw[ql (by simp[this])]
 simp[this]
theorem LB {d:Dic}{nn w:Nat}(hl:d.gc.length=w)(hnn:d.n=(nn:Int))(hw:nn+1≤w)(hw2:w≤1000000):
  ax Tryz.prog 44 [.fp (Ir d) 0] (.own 43 36 (fF d nn).length ((fF d nn).flatMap ay.f)):=by
 refine bC (rs:=[.tmp 2]) (fun cx hx h0=>?_) Tryz.func44
 obtain⟨l,O5⟩:∃l:List Nu,l=d.gc.drop (nn+1):=⟨_,rfl⟩
 have hlen:l.length=w - (nn+1):=by rw[O5,fT,hl]
 have OL:fF d nn=l.map hJ:=by rw[O5];rfl
 refine rs hx fun K hK=>?_
 refine s1 (d:=dO 0 ay ([]:List Nu)) (fW aH aw) ?_
 refine .nil (hK _ _ (rs hx fun K hK=>?_))
 refine s1 (d:=dO 1 ay ([]:List Nu)) (fW aH aw) ?_
 refine .nil (hK _ _ (AW.seq (rsd [] hx fun K hK=>?_)))
 iterate 4 refine sa ?_
 refine s1 (T_ldX (dicE_c d) tbI) ?_
 iterate 3 refine sa ?_
 refine s1 (T_ldX (dicE_n d) tbI) ?_
 rw[hnn]
 refine sa ?_
 rw[cm (by omega)]
 have hsub:xL d.gc ((nn+1:Nat):Int) (d.gc.length:Int)=l:=by
  rw[O5]
  unfold xL
  rw[show (((nn+1:Nat):Int)).toNat=nn+1 by omega,iP (by rw[fT];omega)]
 refine s1 (d:=dL ay (xL d.gc ((nn+1:Nat):Int) (d.gc.length:Int))) (T_sl (c:=ay) (l:=d.gc) (a:=((nn+1:Nat):Int)) (b:=(d.gc.length:Int)) (by omega) aH aw) ?_
 rw[hsub]
 iterate 2 refine sa ?_
 refine .nil (hK _ _ (AW.block (AW.loopW (fun u:Nat=>[(3,dO 1 ay ((l.take u).map hJ)),(16,dL ay l),(17,dI .i64 (l.length:Nat)),(18,dI .i64 u)]) (fun u=>⟨[],[(1,u,36,43)],2⟩) (fun u=>u≤l.length) (fun u=>l.length - u) 0 ?_ (cX _) ?_)))
 ·exact Ea (by rw[h0];exact cX _) (aB _) ⟨fun _ _ h=>by simp at h,fun id e h=>by rcases qi.1 (bQ h) with h2;simp at h2;show id<2;omega⟩ (fun _ _ h=>h) (fun j y h=>by
   by_cases hj:j=1
   ·subst hj;rw[←h];rfl
   ·exact absurd h (by rw[au hj];simp)) (bU.cons (bU.cons (bU.cons (bU.cons bU.nil rfl rfl) rfl rfl) rfl rfl) rfl rfl)
 ·intro u hu
  have Mk:((l.take u).map hJ).length=u:=by rw[bw,eH];omega
  refine rs hx fun K hK=>?_
  refine sa ?_
  refine .nil (hK _ _ (AW.seq (AW.condS rfl (fun hb=>?_) (fun hb=>?_))))
  ·have JA:u<l.length:=by have:=da hb;omega
   have mq:0≤(u:Int)∧(u:Int)<((l.length:Nat):Int):=by omega
   refine AW.skip (AW.seq (AW.block (rs hx fun K hK=>?_)))
   refine s1 (gV mq aH aw) ?_
   refine s1 (d:=dG ay l[u]!) (mj (c:=ay) (l:=l) (n:=u) (o:=0) aw JA (fm _ _ rfl)) ?_
   refine n1 ?_
   refine z1 ?_
   refine .nil (hK _ _ (rq hx fun K hK=>?_))
   refine sa ?_
   refine l1 (Pt.idN _) ?_
   refine cq (Hn _) ?_
   refine s1 (kJ [hJ l[u]!] ay aH aw) ?_
   have AY:(l.take u).map hJ++[hJ l[u]!]=(l.take (u+1)).map hJ:=by
    rw[zi,iU,cO l u JA,de JA]
    rfl
   refine s1 (qn (id:=1) (l:=(l.take u).map hJ) (l':=[hJ l[u]!]) aH aw (by rw[c8,Mk];show (u+1)*136≤140737488355328;omega) rfl rfl rfl rfl (by rw[Mk];rfl)) ?_
   rw[AY]
   refine sa ?_
   refine .nil (hK _ _ (rq hx fun K hK=>?_))
   iterate 2 refine sa ?_
   refine .nil (hK _ _ ?_)
   rw[cm (by omega)]
   have hlu1:((l.take (u+1)).map hJ).length=u+1:=by rw[←AY,c8,Mk];rfl
   refine⟨u+1,Ea (by rw[h0];exact cX _) (show 2≤_ by decide) ⟨fun _ _ h=>by simp at h,fun id e h=>by rcases qi.1 (bQ h) with h2;simp at h2;show id<2;omega⟩ (fun _ _ h=>by simp at h) (fun j y h=>?_) (bU.cons (bU.cons (bU.cons (bU.cons bU.nil rfl rfl) rfl rfl) rfl rfl) rfl rfl),JA,by omega⟩
   by_cases hj:j=1
   ·subst hj;rw[←h,hlu1];rfl
   ·exact absurd h (by rw[au hj];simp)
  ·refine AW.exit ?_
   have JA:u=l.length:=by have:=d8 hb;omega
   refine rs hx fun K hK=>?_
   iterate 2 refine sa ?_
   refine .nil (hK _ _ (AW.ret ?_))
   have uX:(l.take u).map hJ=fF d nn:=by rw[JA,List.take_length,OL]
   have hpl:(fF d nn).length=u:=by rw[OL,bw,JA]
   rw[uX]
   refine oT.own (id:=1) rfl ?_
   rw[hpl];rfl
section
variable {vs:List (Nat×List D)} {lv:List (Nat×Nat×Nat×TypeId)} {N kd R G w m nn:Nat} {C:Nat→Nat} {d:Dic}
theorem ph {α:Type}{a b:List α}{j:Nat}{x:α}(h:(a++b)[j]? =some x):(j<a.length∧a[j]? =some x)∨(a.length≤j∧b[j - a.length]? =some x):=by
 rcases hE j a.length with h1|h1
 ·exact .inl ⟨h1,by rw[zk h1] at h;exact h⟩
 ·exact .inr ⟨h1,by rw[ql h1] at h;exact h⟩
theorem AR.dic(hD:DAt vs kd R G C w d):AR ⟨vs,lv,N⟩ (.pt kd 0) (.fp (Ir d) 0):=by
 have hk:=GE d.gk
 refine AR.ptf hD.hd ?_ fun j x e hx he=>?_
 ·unfold ni Ir bu
  simp[hk,eT]
 ·unfold ni bu at hx
  unfold Ir at he
  rcases ph hx with⟨a1,hx⟩|⟨a1,hx⟩ <;> rcases ph he with⟨b1,he⟩|⟨b1,he⟩
  ·rcases ph hx with⟨a2,hx⟩|⟨a2,hx⟩ <;> rcases ph he with⟨b2,he⟩|⟨b2,he⟩
   ·obtain rfl:j=0:=by simp at a2;omega
    simp at hx he
    subst hx he
    intro B g w2 v hr hd
    refine .e _ _ (.any _ ?_)
    cases hl:d.rows with
    |nil=>rw[hl] at hd;exact (hd.lit▸rfl)
    |cons r l=>rw[hl] at hd;cases hd;rfl
   ·simp at a2 b2;omega
   ·simp at a2 b2;omega
   ·simp only[rD,List.length_nil] at hx he a2
    rcases ph hx with⟨a3,hx⟩|⟨a3,hx⟩ <;> rcases ph he with⟨b3,he⟩|⟨b3,he⟩
    ·unfold dC at hx
     rw[ep,he] at hx
     injection hx with hx
     subst hx
     exact AR.data (d:=.e e) rfl
    ·rw[eT] at a3;omega
    ·rw[eT] at a3;omega
    ·rw[eT] at a3 hx
     have h0:j - (0+1) - (ay.f d.gk).length=0:=by
      have:=(fZ.1 hx).1
      simp at this;omega
     rw[h0] at hx he
     simp at hx he
     subst hx he
     exact AR.list hD.hG hD.lG
  ·simp[eT] at a1 b1;omega
  ·simp[eT] at a1 b1;omega
  ·have e1:(([fy R d.rows]++(dC (ay.f d.gk)++[D.ow G 0 36 w])).length)=([E.any]++(ay.f d.gk++[slE ay d.gc])).length:=by simp[eT]
   rw[e1] at hx
   generalize j - ([E.any]++(ay.f d.gk++[slE ay d.gc])).length=q at hx he
   have hq:q=0∨q=1∨q=2:=by
    have:=(fZ.1 he).1
    simp at this;omega
   rcases hq with rfl|rfl|rfl
   all_goals
    simp at hx he
    subst hx he
    exact AR.data (d:=dI .i64 _) rfl
theorem lit_Nu(l:List Nu):(l.flatMap ay.f).all E.isLit=true:=by
 rw[dc]
 intro x hx
 obtain⟨a,_,ha⟩:=List.mem_flatMap.1 hx
 have h2:∀y,y∈aj.f a.1.vN∨y∈aj.f a.1.vD→y.isLit=true:=by
  have h3:∀z:av,∀y∈aj.f z,y.isLit=true:=fun z y hy=>by
   rcases uL.1 (show y∈[E.lit (.bool z.vBad),.lit (.bool z.vNeg)]++(cA 16 (cI .u32)).f z.vW from hy) with h|h
   ·simp at h;rcases h with rfl|rfl <;> rfl
   ·obtain⟨n,_,hn⟩:=List.mem_flatMap.1 (show y∈z.vW.toList.flatMap (cI .u32).f from h)
    rw[qi.1 hn];rfl
  rintro y (h|h)
  ·exact h3 _ y h
  ·exact h3 _ y h
 exact h2 x (uL.1 (show x∈aj.f a.1.vN++aj.f a.1.vD from ha))
theorem Mq(hD:DAt vs kd R G C w d)(hnn:d.n=(nn:Int))(hw:nn+1≤w)(hw2:w≤1000000)(hm:0<(fF d nn).length):
  HC Tryz.prog 44 [.pt kd 0] ⟨vs,lv,N⟩ (.gw N 36 (fF d nn).length) ⟨(N,dC ((cW ay).f (fF d nn)))::vs,lv,N+1⟩:=
 HC.adopt (LB hD.lG hnn hw hw2) (hp:=⟨vs,lv,N⟩) ⟨AR.dic hD,trivial⟩ hm (lit_Nu _)
end
end
section
theorem HC.weak {P:Program}{f:FuncId}{ds:List D}{hp:Hp}{d:D}{vars vars':List (Nat×List D)}{lv lv':List (Nat×Nat×Nat×TypeId)}{n n':Nat}(hc:HC P f ds hp d ⟨vars,lv,n⟩)(h0:hp.next≤n')
  (h:cQ hp→cQ ⟨vars',lv',n'⟩∧(∀j ds,vars'.lookup j=some ds→vars.lookup j=some ds)∧(∀j y,lv'.lookup j=some y→lv.lookup j=some y)∧d.idsB n'=true):HC P f ds hp d ⟨vars',lv',n'⟩:=by
 refine⟨hc.1,fun B g w vs hr hsz dx=>(hc.2 B g w vs hr hsz dx).mono ?_⟩
 obtain⟨hok,hv,hl,hd⟩:=h hr.ok
 rintro e w' ⟨v,g',rfl,pB,hM,hrd,hb,hF⟩
 have d9:∀id y,lv'.lookup id=some y→lv.lookup id=some y:=hl
 refine⟨v,g',rfl,⟨fun k ds hk=>?_,fun k k' a b hk uW he=>pB.inj k k' a b (hv k a hk) (hv k' b uW) he,fun id m e hi=>?_,fun id Ai t t' b hi xj=>pB.tinj id Ai t t' b (d9 _ _ hi) (d9 _ _ xj),pB.base,pB.fits⟩,
  ⟨hM.size,hM.cell,hM.forb,h0,hM.μ,fun id hid m e Ml=>hM.live id hid m e (d9 id _ Ml),fun b hb hf=>⟨(hM.fr b hb hf).1,(hM.fr b hb hf).2.1,fun k ds hk=>(hM.fr b hb hf).2.2.1 k ds (hv k ds hk),fun id t hi=>(hM.fr b hb hf).2.2.2 id t (d9 id _ hi)⟩,hM.szs⟩,CF hrd hd rfl d9,hb,hF⟩
 ·obtain⟨_,h3,h4,cs,ty,h5,h6,h7⟩:=pB.var k ds (hv k ds hk)
  obtain⟨h1,h2⟩:=hok.var k ds hk
  exact⟨h1,h3,h4,cs,ty,h5,h6,fun j u hu=>⟨(h7 j u hu).1,fun d hd=>iH ((h7 j u hu).2 d hd) (dc.1 h2 d (er hd)) rfl d9⟩⟩
 ·obtain⟨_,us,h2,h3,h4⟩:=pB.tok id m e (d9 _ _ hi)
  exact⟨hok.tok id _ hi,us,h2,h3,fun b hb=>⟨(h4 b hb).1,fun k ds hk=>(h4 b hb).2 k ds (hv k ds hk)⟩⟩
theorem resV {q:Nat}{tt:TypeId}{ti:TyE}{k:Nat}{F:List D}{vs:List (Nat×List D)}{lv:List (Nat×Nat×Nat×TypeId)}{N:Nat}{tm:List (Nat×D)}{k2:D→Prop}(ht:tbl tt=some ti)(hl:tm.lookup q=some (.pt k 0))(hv:vs.lookup k=some F)(hk:k<N)(hz:F.length=ti.size)(hg:ti.ty.agg=true)(h:k2 (.ag F)):sB tbl tm ⟨vs,lv,N⟩ (.cell q tt) k2:=by
 refine⟨.pt k 0,hl,⟨_,ht⟩,?_⟩
 rw[ox,ht]
 simp only[hv,hg]
 refine⟨hk,by omega,?_⟩
 rw[rB,iP (by omega)]
 exact h
theorem HC.forget {P:Program}{f:FuncId}{ds:List D}{d:D}{vs vars:List (Nat×List D)}{lv:List (Nat×Nat×Nat×TypeId)}{N n:Nat}(hc:HC P f ds ⟨vs,lv,N⟩ d ⟨vars,lv,n⟩)(hv:∀j ds,j<N→vs.lookup j=some ds→vars.lookup j=some ds)(hd:d.idsB N=true):HC P f ds ⟨vs,lv,N⟩ d ⟨vs,lv,N⟩:=
 hc.weak (aB N) fun hok=>⟨hok,fun j ds h=>hv j ds (hok.lt h) h,fun _ _ h=>h,hd⟩
section
variable {vs:List (Nat×List D)} {lv:List (Nat×Nat×Nat×TypeId)} {N w i ks s:Nat} {C:Nat→Nat} {r:Row}
theorem rtN1 {x:Cx}{tm:List (Nat×D)}{pb vs2:List (Nat×List D)}{vs0:List (Nat×List D)}{lv0:List (Nat×Nat×Nat×TypeId)}{N0 M n2 q k:Nat}{a:Nu}(h0:x.hp0=⟨vs0,lv0,N0⟩)(hM:N0≤M)(hok:cQ ⟨pb,lv,M⟩)(hN:M≤n2)(hv:∀j ds,pb.lookup j=some ds→vs2.lookup j=some ds)(hk:pb.lookup k=some (dC (ay.f a)))(hq:tm.lookup q=some (.pt k 0)):
  ∃tm',Wk x tm ⟨vs2,lv,n2⟩ tm' ⟨pb,lv,M⟩∧sQ tbl [.cell q 43] tm' ⟨pb,lv,M⟩ (dG ay a):=
 ⟨[(q,.pt k 0)],wkS (by rw[h0];exact hM) hN hok hv (bU.nil.cons hq (aF (hok.lt hk))),resV aw ab hk (hok.lt hk) (i7 a) rfl rfl⟩
theorem Pv:HC Tryz.prog 48 ([.ag (iY C w i r)]++([]:List Nat).map fun k=>.pt k 0) ⟨vs,lv,N⟩ (dG ay r.k) ⟨vs,lv,N⟩:=by
 refine HC.forget (vars:=(N+1,dC (ay.f r.k))::vs) (n:=N+2) ?_ (fun j ds hj h=>al (by omega) h) (eS _)
 refine HC.of (rs:=[.cell 2 43]) tok Tryz.func48 rfl rfl (dK rfl) rfl (fun cx hx h0 hok=>?_)
 simp only[fS,dA,sv,Nat.reduceAdd,bJ]
 refine rs hx fun K hK=>?_
 refine s1 (fB (cs:=iY C w i r)) ?_
 refine n1 ?_
 refine .nil (hK _ _ (rs hx fun K hK=>?_))
 iterate 2 refine sa ?_
 refine l1 (NF (C:=C) (w:=w) (j:=i) (r:=r)) ?_
 refine z1 ?_
 refine .nil (hK _ _ (AW.ret ?_))
 exact rtN1 h0 (by omega) (cQ.consM (hok.up (by omega)) (by omega) (eS _)) (aB _) (fun j ds h=>by
  rcases cD h with⟨rfl,rfl⟩|⟨hj,h⟩
  ·exact ab
  ·have:=hok.lt h
   exact al hj (al hj (al (by omega) h))) ab rfl
theorem Pu(v:Nat):HC Tryz.prog 49 ([dI .i64 v]++([]:List Nat).map fun k=>.pt k 0) ⟨vs,lv,N⟩ (dI .i64 0) ⟨vs,lv,N⟩:=by
 refine HC.of (rs:=[.tmp 2]) tok Tryz.func49 rfl rfl (dK rfl) rfl (fun cx hx h0 hok=>?_)
 simp only[fS,dA,sv,Nat.reduceAdd,bJ]
 refine rs hx fun K hK=>?_
 refine sa ?_
 refine .nil (hK _ _ (rs hx fun K hK=>?_))
 refine sa ?_
 exact .nil (hK _ _ (AW.ret (rt1 h0)))
theorem Ps(hs:vs.lookup ks=some [dI .i64 s])(hc:vs.lookup (C i)=some (dC ((cW ay).f r.c)))(hl:r.c.length=w)(hsw:s<w):HC Tryz.prog 50 ([.ag (iY C w i r)]++[ks].map fun k=>.pt k 0) ⟨vs,lv,N⟩ (dG ay r.c[s]!) ⟨vs,lv,N⟩:=by
 refine HC.forget (vars:=(N+1,dC (ay.f r.c[s]!))::vs) (n:=N+2) ?_ (fun j ds hj h=>al (by omega) h) (eS _)
 refine HC.of (rs:=[.cell 3 43]) tok Tryz.func50 rfl rfl (dK rfl) rfl (fun cx hx h0 hok=>?_)
 simp only[fS,dA,cP,List.cons_append,mL,Nat.reduceAdd,bJ]
 have hk1:=hok.lt hs
 have Al:=hok.lt hc
 refine rs hx fun K hK=>?_
 refine s1 (fB (cs:=iY C w i r)) ?_
 refine n1 ?_
 refine .nil (hK _ _ (rs hx fun K hK=>?_))
 iterate 2 refine sa ?_
 refine c1 (Jg (C:=C) (w:=w) (j:=i) (r:=r)) ?_
 refine c1 (Pt.all (F:=[dI .i64 s])) ?_
 refine i1 hsw ?_
 refine l1 (Pt.el r.c s (by omega)) ?_
 refine z1 ?_
 refine .nil (hK _ _ (AW.ret ?_))
 exact rtN1 h0 (by omega) (cQ.consM (hok.up (by omega)) (by omega) (eS _)) (aB _) (fun j ds h=>by
  rcases cD h with⟨rfl,rfl⟩|⟨hj,h⟩
  ·exact ab
  ·have:=hok.lt h
   exact al hj (al hj (al (by omega) h))) ab rfl
theorem Pr(v:Nat)(hs:vs.lookup ks=some [dI .i64 s]):HC Tryz.prog 51 ([dI .i64 v]++[ks].map fun k=>.pt k 0) ⟨vs,lv,N⟩ (dI .i64 (if (v:Int)=(s:Int) then 1 else 0)) ⟨vs,lv,N⟩:=by
 refine HC.of (rs:=[.tmp 3]) tok Tryz.func51 rfl rfl (dK rfl) rfl (fun cx hx h0 hok=>?_)
 simp only[fS,dA,cP,List.cons_append,mL,Nat.reduceAdd,bJ]
 have hk1:=hok.lt hs
 refine rs hx fun K hK=>?_
 refine sa ?_
 refine .nil (hK _ _ (AW.seq (rs hx fun K hK=>?_)))
 refine sa ?_
 refine c1 (Pt.all (F:=[dI .i64 s])) ?_
 refine sa ?_
 refine .nil (hK _ _ (AW.condS rfl (fun hb=>?_) (fun hb=>?_)))
 ·rw[if_pos (da hb)]
  refine rs hx fun K hK=>?_
  refine sa ?_
  exact .nil (hK _ _ (AW.ret (rt1 h0)))
 ·rw[if_neg (d8 hb)]
  refine AW.skip (rs hx fun K hK=>?_)
  refine sa ?_
  exact .nil (hK _ _ (AW.ret (rt1 h0)))
end
end
def fO(cy:Int):Option (List ao):=if 0≤cy∧cy≤1000000 then some (List.replicate cy.toNat (nv (nOf 0))) else none
theorem Qd(l:List Nu):(cW ay).f l=(cW ai).f (l.map nv):=by
 show l.flatMap ay.f=(l.map nv).flatMap ai.f
 rw[List.flatMap_map]
 rfl
theorem kT(l:List Nu):slE ay l=slE ai (l.map nv):=by
 unfold slE
 have:=Qd l
 rw[bw]
 show E.sl 36 l.length ((cW ay).f l)=E.sl 36 l.length ((cW ai).f (l.map nv))
 rw[this]
theorem nE {cy:Int}{r:List ao}(h:fO cy=some r):ax Tryz.prog 75 [dI .i64 cy] (dL ai r):=by
 unfold fO at h
 split at h
 rotate_left
 ·cases h
 rename_i hn
 injection h with h
 obtain⟨n,rfl⟩:∃n:Nat,cy=(n:Int):=⟨cy.toNat,by omega⟩
 have hr:slE ai r=slE ay (List.replicate n (nOf 0)):=by
  rw[kT,←h,List.map_replicate,show ((n:Int)).toNat=n by omega]
 show ax _ _ _ (.e (slE ai r))
 rw[hr]
 refine bC (rs:=[.tmp 2]) (fun cx hx h0=>?_) Tryz.func75
 refine rs hx fun K hK=>?_
 refine s1 (d:=dO 0 ay ([]:List Nu)) (fW aH aw) ?_
 refine .nil (hK _ _ (rs hx fun K hK=>?_))
 refine cq (Eh 0 (by omega)) ?_
 refine s1 (kJ [nOf 0] ay aH aw) ?_
 refine sa ?_
 refine q1 (sHC (HC.args (ds:=[dO 1 ay [nOf 0],dI .i64 n]) (ds':=[.e (slE ay [nOf 0]),dI .i64 n]) ⟨Oh _,ap _,trivial⟩ (Id (vs:=[]) (N:=2) (by omega))) rfl (.inr ⟨show 2≤4 by decide,fun j hj=>au (by have:j<2:=hj;omega)⟩)) ?_
 refine sa ?_
 refine .nil (hK _ _ (fzA ay 3 [2] (xq ..).symm ?_ (all1 rfl)))
 exact AW.ret (rv1)
end
end Go.Proofs.YtaedcknhkjpmlaaGreat
