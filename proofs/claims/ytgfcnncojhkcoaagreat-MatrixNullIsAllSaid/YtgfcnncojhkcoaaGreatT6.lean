/-
  Lemmas, part 6. Conditions: none.
-/
import Derived.Test.YtgfcnncojhkcoaaGreatT5
import Derived.RangeFuncNested
import Derived.RangeFuncLeaves
set_option linter.all false
set_option maxRecDepth 100000
set_option maxHeartbeats 4000000
namespace Go.Proofs.YtgfcnncojhkcoaaGreat
open Go.RowKit Go.IntKind Tryz
noncomputable section
section
theorem qD(a:Nu):(dC (aO.f a)).length=36:=by rw[fH,aO.h];rfl
section
variable {dr:Bool} {ty:TypeId} {ev:Operand→D} {hp hp':Hp} {k o:Nat} {F F2:List D} {F':List D→List D} {x y:Operand} {a b:Nu}
theorem ldN(L:Pt F o (dC (aO.f a)) F')(hv:hp.vars.lookup k=some F)(hk:k<hp.next)(hx:ev x=.pt k o:=by exact rfl):AVC prog tbl dr (.load 34 x) ty ev hp (Kq (dG aO a) hp):=UF L hv hk aR (qD a) rfl hx
theorem stN(L:Pt F o (dC (aO.f a)) F')(hv:hp.vars.lookup k=some F)(h2:F' (dC (aO.f b))=F2)(hx:ev x=.pt k o:=by exact rfl)(hy:ev y=dG aO b:=by exact rfl)(he:hp.set k F2=hp':=by exact rfl):AVC prog tbl dr (.store 34 x y) ty ev hp (Kq .top hp'):=
 O3 (ys:=dC (aO.f b)) L hv (by rw[hy];rfl) aR (qD a) (by rw[qD,qD]) h2 hx he
theorem Pt.idN(a:Nu):Pt (dC (aO.f a)) 0 (dC (aO.f a)) id:=Pt.of [] [] rfl (by simp) (fun y=>by simp)
end
section
variable {vs ul pe:List (Nat×List D)} {lv:List (Nat×Nat×Nat×TypeId)} {N n2 k:Nat}
theorem fc.lt(hok:fc ⟨vs,lv,N⟩){ds:List D}(h:vs.lookup k=some ds):k<N:=(hok.var k ds h).1
theorem fc.ne(hok:fc ⟨vs,lv,N⟩){ds:List D}(h:vs.lookup k=some ds){m:Nat}(hm:N≤m):k≠m:=by have:=hok.lt h;omega
theorem am {j m:Nat}{b:List D}{l:List (Nat×List D)}{r:Option (List D)}(hj:j≠m)(h:l.lookup j=r):((m,b)::l).lookup j=r:=(al hj).trans h
theorem oO(l:List E):(dC l).all (D.idsC N)=true:=tK (fun _=>rfl) l
theorem fc.cons {M:Nat}{ds:List D}(hok:fc ⟨vs,lv,N⟩)(hN:N≤M)(hk:k<M)(hd:ds.all (D.idsC M)=true):fc ⟨(k,ds)::vs,lv,M⟩:=by
 refine⟨fun j es h=>?_,fun id e h=>bC (hok.tok id e h) hN⟩
 by_cases hj:j=k
 ·subst hj
  have:some ds=some es:=by rw[←h];exact ah.symm
  injection this with this
  subst this
  exact⟨hk,hd⟩
 ·obtain⟨h1,h2⟩:=hok.var j es (by rw[←h];exact (al hj).symm)
  exact⟨bC h1 hN,bx.2 fun d hd=>D.idsC_le hN (bx.1 h2 d hd)⟩
def pc(n:Nat)(tm tm':List (Nat×D)):Prop:=∀p∈tm',(∃d,tm.lookup p.1=some d∧(p.2=d∨p.2=d.ex))∧p.2.idsB n=true
theorem pc.nil {n:Nat}{tm:List (Nat×D)}:pc n tm []:=fun p hp=>absurd hp (uR)
theorem pc.cons {n t:Nat}{d:D}{tm tm':List (Nat×D)}(h2:pc n tm tm')(h:tm.lookup t=some d:=by exact rfl)(hi:d.idsB n=true:=by exact rfl):pc n tm ((t,d)::tm'):=fun p hp=>by
 rcases e8.1 hp with rfl|hp
 ·exact⟨⟨d,h,.inl rfl⟩,hi⟩
 ·exact h2 p hp
theorem wkS {x:Cx}{tm tm':List (Nat×D)}{n':Nat}(h0:x.hp0.next≤n')(hn:n'≤n2)(hok:fc ⟨pe,lv,n'⟩)(hv:∀j ds,pe.lookup j=some ds→ul.lookup j=some ds)(ht:pc n' tm tm'):Wk x tm ⟨ul,lv,n2⟩ tm' ⟨pe,lv,n'⟩:=
 Wk.look h0 hn ht (fun j ds h=>⟨(hok.var j ds h).1,ds,hv j ds h,m9 _,(hok.var j ds h).2⟩) fun id y h=>⟨hok.tok id y h,h⟩
theorem JX {j:Nat}{a b:List D}{l:List (Nat×List D)}:((k,b)::(k,a)::l).lookup j=((k,b)::l).lookup j:=by
 by_cases hj:j=k
 ·subst hj;rw[ah,ah]
 ·rw[al hj,al hj,al hj]
theorem dT {j a:Nat}{x ds:List D}{l:List (Nat×List D)}(h:((a,x)::l).lookup j=some ds):(j=a∧ds=x)∨(j≠a∧l.lookup j=some ds):=by
 by_cases hj:j=a
 ·subst hj
  have:some x=some ds:=by rw[←h];exact ah.symm
  injection this with this
  exact .inl ⟨rfl,this.symm⟩
 ·exact .inr ⟨hj,by rw[←h];exact (al hj).symm⟩
theorem Pt.elN(l:List Nu)(i:Nat)(h:i<l.length):Pt (dC ((cW aO).f l)) (0+i*36) (dC (aO.f l[i]!)) (fun ys=>(dC ((cW aO).f l)).take (0+i*36)++ys++(dC ((cW aO).f l)).drop (0+i*36+36)):=by
 have L:=a8.seqW aO l i h
 have e:aO.sz=36:=rfl
 rw[e] at L
 refine⟨?_,?_,fun ys hy=>by rw[qD]⟩
 ·have:=L.le
  rw[qD,fH];exact this
 ·have:=L.g
  rw[qD]
  unfold dC
  rw[←Al,←xj]
  exact congrArg _ this
theorem Pt.elN_set(l:List Nu)(i:Nat)(h:i<l.length)(b:Nu):(dC ((cW aO).f l)).take (0+i*36)++dC (aO.f b)++(dC ((cW aO).f l)).drop (0+i*36+36)=dC ((cW aO).f (l.set i b)):=by
 have L:=a8.seqW aO l i h
 have e:aO.sz=36:=rfl
 rw[e] at L
 have:=L.p b
 rw[e] at this
 unfold dC
 rw[←xj,←Al,←lf,←lf]
 exact congrArg _ this
end
end
theorem nQ {t:Nat}(h:t<9223372036854775807:=by omega):i64.wrap ((t:Int)+1)=((t+1:Nat):Int):=by
 rw[rj (by omega) (by omega)];omega
def zN:List E:=(List.replicate 2 (E.lit (.bool false))++List.replicate 16 (E.lit (.int .u32 0)))++(List.replicate 2 (E.lit (.bool false))++List.replicate 16 (E.lit (.int .u32 0)))
theorem T_alN {dr:Bool}{ty:TypeId}{ev:Operand→D}{vs:List (Nat×List D)}{lv:List (Nat×Nat×Nat×TypeId)}{N:Nat}:AVC prog tbl dr (.alloc 34) ty ev ⟨vs,lv,N⟩ (Kq (.pt N 0) ⟨(N,dC zN)::vs,lv,N+1⟩):=s9 aR
theorem Pt.zN:Pt (dC zN) 0 (dC zN) id:=Pt.of [] [] rfl (by simp) (fun y=>by simp)
theorem stZ {dr:Bool}{ty:TypeId}{ev:Operand→D}{hp hp':Hp}{k:Nat}{x y:Operand}{b:Nu}(hv:hp.vars.lookup k=some (dC zN))(hx:ev x=.pt k 0:=by exact rfl)(hy:ev y=dG aO b:=by exact rfl)(he:hp.set k (dC (aO.f b))=hp':=by exact rfl):AVC prog tbl dr (.store 34 x y) ty ev hp (Kq .top hp'):=
 O3 (ys:=dC (aO.f b)) Pt.zN hv (by rw[hy];rfl) aR rfl (by rw[qD];rfl) rfl hx he
theorem Pt.el(l:List Nu)(i:Nat)(h:i<l.length):Pt (dC ((cW aO).f l)) (i*36) (dC (aO.f l[i]!)) (fun ys=>(dC ((cW aO).f l)).take (i*36)++ys++(dC ((cW aO).f l)).drop (i*36+36)):=by
 have:=Pt.elN l i h
 rwa[cj] at this
theorem Pt.el_set(l:List Nu)(i:Nat)(h:i<l.length)(b:Nu):(dC ((cW aO).f l)).take (i*36)++dC (aO.f b)++(dC ((cW aO).f l)).drop (i*36+36)=dC ((cW aO).f (l.set i b)):=by
 have:=Pt.elN_set l i h b
 rwa[cj] at this
section
section
variable {hp:Hp}
theorem AR.list {k n:Nat}{l:List Nu}(hv:hp.vars.lookup k=some (dC ((cW aO).f l)))(hl:l.length=n):AR hp (.ow k 0 36 n) (.e (slE aO l)):=by
 subst hl
 have hlen:((cW aO).f l).length=l.length*36:=jQ aO.f aO.h l
 have:=AR.sl (off:=0) hv (n:=l.length) (z:=36) (by omega) (by omega)
 rw[pH,e9 (by omega)] at this
 exact this
end
end
def qd(bg:Int)(rR:Int):Option (Int×Int):=bnd (some (u64.wrap ((Hz .u64 bg (4294967295:Int))*(Hz .u64 rR (4294967295:Int))))) fun x1=>bnd (some (u64.wrap ((u64.wrap ((li .u64 bg (32:Int))*(Hz .u64 rR (4294967295:Int))))+(li .u64 x1 (32:Int))))) fun x3=>bnd (some (u64.wrap ((Hz .u64 x3 (4294967295:Int))+(u64.wrap ((Hz .u64 bg (4294967295:Int))*(li .u64 rR (32:Int))))))) fun x5=>bnd (some (u64.wrap ((u64.wrap ((u64.wrap ((li .u64 bg (32:Int))*(li .u64 rR (32:Int))))+(li .u64 x3 (32:Int))))+(li .u64 x5 (32:Int))))) fun x7=>some (x7,u64.wrap (bg*rR))
theorem GK {bg:Int}{rR:Int}{r:Int×Int}(h:qd bg rR=some r):ar prog 156 [dI .u64 bg,dI .u64 rR] (.tu [dI .u64 r.1,dI .u64 r.2]):=by
 refine bB (rs:=[.tmp 4,.tmp 5]) (fun cx hx h0=>?_) func156
 unfold qd at h
 iterate 5 refine ra hx ?_
 refine rs hx fun K hK=>?_
 iterate 3 refine sa ?_
 obtain⟨x1,vY,h⟩:=ai h
 replace vY:=bZ vY
 refine s2 (d2:=dI .u64 x1) lq (gj (congrArg (dI .u64) vY)) ?_
 refine nl hK ?_
 refine rs hx fun K hK=>?_
 iterate 6 refine sa ?_
 obtain⟨x3,Bs,h⟩:=ai h
 replace Bs:=bZ Bs
 refine s2 (d2:=dI .u64 x3) lq (gj (congrArg (dI .u64) Bs)) ?_
 refine nl hK ?_
 iterate 2 refine ra hx ?_
 refine rs hx fun K hK=>?_
 iterate 5 refine sa ?_
 obtain⟨x5,L3,h⟩:=ai h
 replace L3:=bZ L3
 refine s2 (d2:=dI .u64 x5) lq (gj (congrArg (dI .u64) L3)) ?_
 refine nl hK ?_
 refine rs hx fun K hK=>?_
 iterate 8 refine sa ?_
 obtain⟨x7,L2,h⟩:=ai h
 replace L2:=bZ L2
 refine s2 (d2:=dI .u64 x7) lq (gj (congrArg (dI .u64) L2)) ?_
 refine nl hK ?_
 refine ra hx ?_
 refine AW.ret ?_
 cases h
 exact rv2
def tJ(bg:Int)(rR:Int):Option (Int×Int):=bnd (qd bg rR) fun x1=>some (x1.1,x1.2)
theorem Lp {bg:Int}{rR:Int}{r:Int×Int}(h:tJ bg rR=some r):ar prog 122 [dI .u64 bg,dI .u64 rR] (.tu [dI .u64 r.1,dI .u64 r.2]):=by
 refine bB (rs:=[.tmp 4,.tmp 5]) (fun cx hx h0=>?_) func122
 unfold tJ at h
 refine ra hx ?_
 refine AW.seq (AW.condF rfl rfl (AW.skip (rs hx fun K hK=>?_)))
 refine mbr ?_
 refine scb h GK fun x1 h=>?_
 refine nbr hK ?_
 refine ra hx ?_
 refine AW.ret ?_
 cases h
 exact rv2
theorem SB {m:Nat}(h:m<4294967296):Hz .u64 (m:Int) (4294967295:Int)=(m:Int):=by
 have h1:(BitVec.ofInt 64 (m:Int) &&&BitVec.ofInt 64 (4294967295:Int)).toNat=m:=by
  have a:(BitVec.ofInt 64 (m:Int)).toNat=m:=by
   rw[BitVec.ofInt_natCast,BitVec.toNat_ofNat];omega
  have b:(BitVec.ofInt 64 (4294967295:Int)).toNat=2 ^ 32 - 1:=by decide
  rw[BitVec.toNat_and,a,b,Nat.and_two_pow_sub_one_eq_mod];omega
 show u64.wrap (((BitVec.ofInt 64 (m:Int) &&&BitVec.ofInt 64 (4294967295:Int)).toNat:Nat):Int)=m
 rw[h1]
 exact gU
theorem mul1 {n:Nat}(h:n≤1000000):tJ (u64.wrap 1) (u64.wrap (n:Int))=some (0,(n:Int)):=by
 have e1:u64.wrap 1=((1:Nat):Int):=gU (n:=1) (by omega)
 have a1:=SB (m:=1) (by omega)
 have a2:=SB (m:=n) (by omega)
 have s1:=wd 1
 have s2:=wd n
 have m1:(1:Nat) / 4294967296=0:=rfl
 have m2:n / 4294967296=0:=dE (by omega)
 rw[m1] at s1
 rw[m2] at s2
 have z0:u64.wrap ((0:Nat):Int)=((0:Nat):Int):=gU (n:=0) (by omega)
 have zn:u64.wrap (n:Int)=(n:Int):=gU
 have i0:Hz .u64 ((0:Nat):Int) (4294967295:Int)=((0:Nat):Int):=SB (m:=0) (by omega)
 have h0:li .u64 ((0:Nat):Int) (32:Int)=((0:Nat):Int):=wd 0
 rw[e1,zn]
 unfold tJ qd
 rw[a1,a2,s1,s2]
 simp only[bnd,DS]
 have p1:((1:Nat):Int)*(n:Int)=(n:Int):=by omega
 have p2:((0:Nat):Int)*(n:Int)=((0:Nat):Int):=by omega
 have p3:((1:Nat):Int)*((0:Nat):Int)=((0:Nat):Int):=by omega
 have p4:((0:Nat):Int)*((0:Nat):Int)=((0:Nat):Int):=by omega
 have p5:((0:Nat):Int)+((0:Nat):Int)=((0:Nat):Int):=by omega
 rw[p1,p2,p3,p4,zn,z0,s2,p5,z0,i0,p5,z0,h0,p5,z0,p5,z0]
 rfl
section
def w9(a:Nu)(n s:Nat):List Nu:=List.replicate s a++List.replicate (n - s) default
theorem Dr {a:Nu}{n s:Nat}(h:s≤n):(w9 a n s).length=n:=by
 unfold w9;rw[cN,ny,ny];omega
theorem cont_cp {a:Nu}{n s:Nat}(h:s≤n):lCp (w9 a n s) s (((((w9 a n s).drop 0).take s)).take (n - s))=w9 a n (s+min s (n - s)):=by
 have h1:((w9 a n s).drop 0).take s=List.replicate s a:=by
  unfold w9
  rw[pH,sb (by simp),e9 (by simp)]
 rw[h1,List.take_replicate]
 unfold lCp
 rw[ny]
 unfold w9
 rw[sb (by simp),e9 (by simp),MT,ny,uS (by simp),mm,List.drop_replicate]
 rw[List.replicate_append_replicate,Nat.min_comm,show n - s - (s+min s (n - s) - s)=n - (s+min s (n - s)) by omega]
theorem wkS2 {x:Cx}{tm tm':List (Nat×D)}{ul pe:List (Nat×List D)}{lv Ez:List (Nat×Nat×Nat×TypeId)}{n' n2:Nat}(h0:x.hp0.next≤n')(hn:n'≤n2)(hok:fc ⟨pe,lv,n'⟩)(hv:∀j ds,pe.lookup j=some ds→ul.lookup j=some ds)(hl:∀j y,lv.lookup j=some y→Ez.lookup j=some y)(ht:pc n' tm tm'):Wk x tm ⟨ul,Ez,n2⟩ tm' ⟨pe,lv,n'⟩:=
 Wk.look h0 hn ht (fun j ds h=>⟨(hok.var j ds h).1,ds,hv j ds h,m9 _,(hok.var j ds h).2⟩) fun id y h=>⟨hok.tok id y h,hl id y h⟩
section
variable {md:Md} {dst:Option Tmp} {ty:TypeId} {pos:String} {af:Array Edge} {gd:Option (Nat×Bool)} {ev:Operand→D} {hp:Hp} {k s n:Nat} {x y:Operand}
theorem slT(h:s<n)(hx:ev x=.ow k 0 36 n:=by exact rfl)(hy:ev y=dI .i64 (s:Int):=by exact rfl):mz prog tbl md ⟨dst,.slice 22 x (some y) none none,ty,pos,af,gd⟩ ev hp (.ow k (s*36) 36 (n - s)) hp:=by
 have:=slW (P:=prog) (tb:=tbl) (md:=md) (dst:=dst) (ty2:=ty) (pos:=pos) (af:=af) (gd:=gd) (ev:=ev) (hp:=hp) (x:=x) (lo:=some y) (hi:=none) (l:=(s:Int)) (h:=(n:Int)) tok ⟨by omega,by omega,by omega,by omega⟩ aW aR ⟨.i64,hy⟩ rfl rfl hx rfl
 rw[show ((n:Int) - (s:Int)).toNat=n - s by omega,aD,cj] at this
 exact this
theorem slHd(h:s≤n)(h0:0<n)(hx:ev x=.ow k 0 36 n:=by exact rfl)(hy:ev y=dI .i64 (s:Int):=by exact rfl):mz prog tbl md ⟨dst,.slice 22 x none (some y) none,ty,pos,af,gd⟩ ev hp (.ow k (0*36) 36 s) hp:=by
 have:=slW (P:=prog) (tb:=tbl) (md:=md) (dst:=dst) (ty2:=ty) (pos:=pos) (af:=af) (gd:=gd) (ev:=ev) (hp:=hp) (x:=x) (lo:=none) (hi:=some y) (l:=(0:Int)) (h:=(s:Int)) tok ⟨by omega,by omega,by omega,by omega⟩ aW aR rfl ⟨.i64,hy⟩ rfl hx rfl
 rw[show ((s:Int) - 0).toNat=s by omega,cj] at this
 exact this
end
section
variable {vs:List (Nat×List D)} {lv:List (Nat×Nat×Nat×TypeId)} {N n:Nat} {a:Nu}
theorem Tm(hn:n≤1000000):HC prog 77 [.e (slE aO [a]),dI .i64 n] ⟨vs,lv,N⟩ (.ow (N+1) 0 36 n) ⟨(N+1,dC ((cW aO).f (List.replicate n a)))::vs,lv,N+1+1⟩:=by
 refine HC.of (rs:=[.tmp 4]) tok func77 rfl rfl (cD rfl) rfl (fun cx hx h0 hok=>?_)
 simp only[dv,Nat.reduceAdd,cj]
 refine rs hx fun K hK=>?_
 refine s1 (d:=dO N aO ([]:List Nu)) (d8 aW aR) ?_
 refine nl hK ?_
 refine AW.seq (rs hx fun K hK=>?_)
 iterate 2 refine sa ?_
 refine nl hK ?_
 refine AW.condF rfl (def_) (AW.skip (rs hx fun K hK=>?_))
 iterate 5 refine sa ?_
 refine cq (Lp (mul1 hn)) ?_
 iterate 5 refine sa ?_
 refine nl hK ?_
 refine AW.seq (rs hx fun K hK=>?_)
 iterate 3 refine sa ?_
 iterate 2 refine ga (show decide ((0:Int)<0)=false by decide) ?_
 refine s1 (tT (show decide ((0:Int)<0)=false by decide)) ?_
 refine nl hK ?_
 refine AW.condF rfl (def_) (AW.skip (rs hx fun K hK=>?_))
 iterate 2 refine sa ?_
 rw[rj (show -9223372036854775808≤(n:Int) by omega) (by omega)]
 refine q1 (sMk (c:=aO) (z0:=default) (v:=(n:Int)) tok ⟨by omega,by omega⟩ aW aR rfl) ?_
 rw[aD]
 refine sa ?_
 refine nl hK ?_
 have SI:u5 ⟨(N+1,dC ((cW aO).f (List.replicate n default)))::vs,(N,0,36,34)::lv,N+1+1⟩ (.e (slE aO [a])) 36 1 ([a].flatMap aO.f):=u5.dat rfl (by simp[aO.h];rfl)
 refine rs hx fun K hK=>?_
 iterate 2 refine sa ?_
 refine q1 (sCpW (c:=aO) (l:=List.replicate n default) (s:=[a]) (m:=1) (n:=n) tok aW aR SI rfl ah 0 (by simp) rfl) ?_
 refine sa ?_
 refine nl hK ?_
 have hc0:lCp (List.replicate n (default:Nu)) 0 ([a].take n)=w9 a n (min 1 n):=by
  cases n with
  |zero=>rfl
  |succ n=>
   unfold lCp w9
   rw[show min 1 (n+1)=1 by omega]
   simp[List.replicate_succ]
 rw[hc0]
 have hokA:∀l:List Nu,fc ⟨(N+1,dC ((cW aO).f l))::vs,lv,N+1+1⟩:=fun l=>hok.cons (by omega) (dH _) (oO _)
 have hNlv:∀j y,lv.lookup j=some y→((N,0,36,34)::lv).lookup j=some y:=fun j y h=>(al (by have:=hok.tok j y h;have h2:j<N:=this;omega)).trans h
 refine AW.seq (AW.block (AW.loopW (fun s:Nat=>[(7,.ow (N+1) 0 36 n),(8,dI .i64 s)]) (fun s=>⟨(N+1,dC ((cW aO).f (w9 a n s)))::vs,lv,N+1+1⟩) (fun s=>s≤n∧(0<n→0<s)) (fun s=>n - s) (min 1 n) ?_ ⟨by omega,by omega⟩ ?_))
 ·exact wkS2 (by rw[h0];show N≤N+1+1;omega) (aC _) (hokA _) (fun j ds h=>by rw[JX];exact h) hNlv (pc.cons (t:=7) (d:=.ow (N+1) 0 36 n) (pc.cons (t:=8) (d:=dI .i64 (min 1 n:Nat)) pc.nil rfl rfl) rfl (ck (dH _)))
 ·rintro s ⟨hsn,hs0⟩
  refine AW.seq (rs hx fun K hK=>?_)
  iterate 4 refine sa ?_
  refine nl hK ?_
  refine AW.condS rfl (fun hb=>?_) (fun hb=>?_)
  ·have bh:s<n:=by have:=oc hb;omega
   have hs1:0<s:=hs0 (by omega)
   refine AW.skip (AW.block (rqd [] hx fun K hK=>?_))
   iterate 3 refine sa ?_
   refine q1 (slT bh) ?_
   iterate 2 refine sa ?_
   refine q1 (slHd (by omega) (by omega)) ?_
   refine q1 (sCpW (c:=aO) (l:=w9 a n s) (s:=((w9 a n s).drop 0).take s) (m:=s) (n:=n - s) tok aW aR (u5.lst ah 0 (by rw[Dr hsn];omega)) (by rw[cz,pH,Dr hsn];omega) ah s (by rw[Dr hsn];omega) rfl) ?_
   rw[cont_cp hsn]
   iterate 2 refine sa ?_
   refine nl hK ?_
   rw[show i64.wrap ((s:Int)+(min s (n - s):Nat))=((s+min s (n - s):Nat):Int) by rw[rj (by omega) (by omega)];omega]
   exact⟨s+min s (n - s),wkS (by rw[h0];show N≤N+1+1;omega) (aC _) (hokA _) (fun j ds h=>by rw[JX];exact h) (pc.cons (t:=7) (d:=.ow (N+1) 0 36 n) (pc.cons (t:=8) (d:=dI .i64 (s+min s (n - s):Nat)) pc.nil rfl rfl) rfl (ck (dH _))),⟨by omega,by omega⟩,by omega⟩
  ·refine AW.exit ?_
   have hsn2:s=n:=by have:=sY hb;omega
   subst hsn2
   have IW:w9 a s s=List.replicate s a:=by unfold w9;simp
   rw[IW]
   refine rs hx fun K hK=>?_
   iterate 2 refine sa ?_
   refine nl hK ?_
   exact AW.ret (⟨[(4,.ow (N+1) 0 36 s)],wkS (by rw[h0];show N≤N+1+1;omega) (aC _) (hokA _) (fun j ds h=>h) (pc.cons (t:=4) (d:=.ow (N+1) 0 36 s) pc.nil rfl (ck (dH _))),⟨_,ah,rfl⟩⟩)
end
end
theorem T3(l:List Nu):(cW aO).f l=(cW aj).f (l.map nv):=by
 show l.flatMap aO.f=(l.map nv).flatMap aj.f
 rw[Us]
 rfl
theorem Ly(l:List Nu):slE aO l=slE aj (l.map nv):=by
 unfold slE
 have:=T3 l
 rw[bc]
 show E.sl 36 l.length ((cW aO).f l)=E.sl 36 l.length ((cW aj).f (l.map nv))
 rw[this]
structure aq where
 vR:Int
 vC:Int
 vV:List ak
 deriving Inhabited,DecidableEq
def aG:Cd aq:=⟨3,fun x=>[.lit (.int .i64 x.vR),.lit (.int .i64 x.vC),slE aj x.vV],fun _=>rfl⟩
def D.ren2(ρ:Nat→Nat):D→D
 | .tu ds=>.tu (ds.map (D.ren ρ))
 |d=>d.ren ρ
section
section
variable {B k z n N:Nat} {F:List E} {vs pe:List (Nat×List D)} {lv:List (Nat×Nat×Nat×TypeId)} {g:Gh} {w:World} {d d':D} {v:Value}
theorem LU {α:Type}{l:List (Nat×α)}{k:Nat}{y:α}(h:l.lookup k=some y):(k,y)∈l:=by
 induction l with
 |nil=>simp at h
 |cons p l ih=>
  obtain⟨a,b⟩:=p
  by_cases hk:k=a
  ·subst hk
   rw[ah] at h
   injection h with h
   subst h
   exact j8 ..
  ·rw[al hk] at h
   exact io _ (ih h)
end
theorem AR.le {hp:Hp}{d d2:D}(h:d.ex.le d2)(hp1:d.ex.pure=true):AR hp d d2:=fun B g w v hr hd=>(AR.data hp1 B g w v hr hd).le h
def D.refC:D→Bool
 | .e (.lit _)=>true
 | .pt _ _=>true
 | .ow _ _ _ _=>true
 | .gw _ _ _=>true
 |_=>false
def D.ref1:D→Bool
 | .ag ds=>ds.all D.refC
 |d=>d.refC
def D.ref2:D→Bool
 | .tu ds=>ds.all D.ref1
 |d=>d.ref1
section
variable {P:Program} {hp bk:Hp} {g g2:Gh} {w:World} {ρ:Nat→Nat} {d:D} {v:Value}
theorem sG(h:aF hp g w d v)(hn:d.refC=true)(ru:∀i,i<hp.next→ρ i<bk.next)(hμ:∀i,i<hp.next→g2.μ (ρ i)=g.μ i):aF bk g2 w (d.renC ρ) v:=by
 cases h with
 |e x v h=>
  cases x with
  |lit u=>cases h with|lit _ ho=>exact .e _ _ (.lit _ ho)
  |_=>cases hn
 |pt k off hk=>rw[←hμ k hk];exact .pt _ off (ru k hk)
 |ow k off z n c hk h1 h2=>rw[←hμ k hk];exact .ow _ off z n c (ru k hk) h1 h2
 |gw k z n c hk h1 h2 hs=>rw[←hμ k hk];exact .gw _ z n c (ru k hk) h1 h2 (by rw[hμ k hk];exact hs)
 |_=>cases hn
theorem sH(h:aF hp g w d v)(hn:d.ref1=true)(ru:∀i,i<hp.next→ρ i<bk.next)(hμ:∀i,i<hp.next→g2.μ (ρ i)=g.μ i):aF bk g2 w (d.ren ρ) v:=by
 cases d with
 |ag ds=>
  cases h with
  |ag _ cs hl ho IV=>
   refine .ag _ cs (by simpa using hl) ho fun j d u hj hu=>?_
   rw[bE] at hj
   obtain⟨d0,h4,rfl⟩:=rG.1 hj
   exact sG (IV j d0 u h4 hu) (bx.1 hn d0 (bL h4)) ru hμ
 |e x=>exact sG h hn ru hμ
 |pt k o=>exact sG h hn ru hμ
 |ow k o z n=>exact sG h hn ru hμ
 |gw k z n=>exact sG h hn ru hμ
 |_=>cases hn
theorem RJ(h:aF hp g w d v)(hn:d.ref2=true)(ru:∀i,i<hp.next→ρ i<bk.next)(hμ:∀i,i<hp.next→g2.μ (ρ i)=g.μ i):aF bk g2 w (d.ren2 ρ) v:=by
 cases d with
 |tu ds=>
  cases h with
  |tu _ cs hl IV=>
   refine .tu _ cs (by simpa using hl) fun j d u hj hu=>?_
   rw[bE] at hj
   obtain⟨d0,h4,rfl⟩:=rG.1 hj
   exact sH (IV j d0 u h4 hu) (bx.1 hn d0 (bL h4)) ru hμ
 |ag ds=>exact sH h hn ru hμ
 |e x=>exact sH h hn ru hμ
 |pt k o=>exact sH h hn ru hμ
 |ow k o z n=>exact sH h hn ru hμ
 |gw k z n=>exact sH h hn ru hμ
 |_=>cases hn
end
theorem HC.frame0R {P:Program}{f:FuncId}{ds dsE:List D}{r:D}{oy vs:List (Nat×List D)}{lv:List (Nat×Nat×Nat×TypeId)}{n' N:Nat}(h:HC P f dsE ⟨[],[],0⟩ r ⟨oy,[],n'⟩)
  (ha:ARs ⟨vs,lv,N⟩ ds dsE) (hr:r.ref2=true) (hvo:∀k cs,oy.lookup k=some cs→cs.all D.refC=true):
  HC P f ds ⟨vs,lv,N⟩ (r.ren2 (fun i=>N+i)) ⟨oy.map (fun p=>(N+p.1,p.2.map (D.renC fun i=>N+i)))++vs,lv,N+n'⟩:=by
 refine⟨h.1,fun B g w us hR hsz cJ=>?_⟩
 obtain⟨Bv,oQ⟩:=ha.get
 have hS0:HR w.heap.size ⟨[],[],0⟩ ⟨fun _=>0,fun _=>default,Fv ⟨vs,lv,N⟩ g⟩ w:=
  ⟨fun k ds h=>by simp at h,fun k k' a b h=>by simp at h,fun id n e h=>by simp at h,fun id sr a b c h=>by simp at h,aC _,PA hR⟩
 refine (h.2 w.heap.size _ w us hS0 (by omega) (fun j e u he hu=>?_)).mono ?_
 ·obtain⟨d,h3,h4⟩:=oQ j e he
  exact h4 B g w u hR (cJ j d u h3 hu)
 rintro en w' ⟨v,g',rfl,Kh,hM,l4,hB,hF⟩
 let g2:Gh:=⟨fun i=>if i<N then g.μ i else g'.μ (i - N),g.τ,fun p=>g.F p∨∃k cs,oy.lookup k=some cs∧p.block=g'.μ k⟩
 have hμo:∀i,i<N→g2.μ i=g.μ i:=fun i hi=>an hi
 have xy:∀i,g2.μ (N+i)=g'.μ i:=fun i=>by
  show (if N+i<N then _ else g'.μ (N+i - N))=_
  rw[ifn_,yH]
 have look:∀{j:Nat} {cs:List D},(oy.map (fun p=>(N+p.1,p.2.map (D.renC fun i=>N+i)))++vs).lookup j=some cs→
   (∃i a,N+i=j∧oy.lookup i=some a∧a.map (D.renC fun i=>N+i)=cs)∨(j<N∧vs.lookup j=some cs):=fun {j cs} h=>by
  rcases tF h with h|h
  ·exact .inl (nO (fun i=>N+i) (fun l:List D=>l.map (D.renC fun i=>N+i)) h)
  ·exact .inr ⟨(hR.var j cs h).1,h⟩
 have hold:∀b,b<w.heap.size→w'.heap[b]? =w.heap[b]? :=hB.block
 have mo:bu ⟨vs,lv,N⟩ g w ⟨oy.map (fun p=>(N+p.1,p.2.map (D.renC fun i=>N+i)))++vs,lv,N+n'⟩ g2 w':=by
  refine⟨hB.size,fun p hp _=>World.cell?_of_block (hold _ hp),fun p hp hf=>?_,oY _ _,fun k hk=>hμo k hk,fun id _ m e hm=>⟨m,hm,aC _,fun _=>rfl⟩,fun b hb hf=>⟨hold b hb,fun p _ hq=>.inl hq,fun k ds hk=>?_,hf.2⟩,fun b=>.same (hold b)⟩
  ·rcases hf with hf|⟨k,cs,hk,he⟩
   ·exact hf
   ·have:=(Kh.var k cs hk).2.1
    omega
  ·rcases look hk with⟨i,a,rfl,h1,_⟩|⟨h1,h2⟩
   ·rw[xy]
    have:=(Kh.var i a h1).2.1
    omega
   ·rw[hμo k h1];exact hf.1 k ds h2
 refine⟨v,g2,rfl,⟨fun k cs hk=>?_,fun k k' a b hk pf he=>?_,fun id m e hi=>?_,fun id sr t t' b h1 h2 h3 h4=>hR.tinj id sr t t' b h1 h2 h3 h4,cg hR.base hB.size,fun p hf=>?_⟩,mo,RJ l4 hr (fun i hi=>uX hi N) (fun i _=>xy i),hB.mono hR.base,fun p _ hp=>.inl hp⟩
 ·rcases look hk with⟨i,a,rfl,h1,h2⟩|⟨h1,h2⟩
  ·obtain⟨b1,b2,b3,ys,ty,b4,b5,b6⟩:=Kh.var i a h1
   refine⟨uX b1 N,by rw[xy];exact cg hR.base b2,fun p hp=>.inr ⟨i,a,h1,by rw[hp,xy]⟩,ys,ty,by rw[xy];exact b4,by rw[←h2,bc];exact b5,fun j u hu=>⟨fun hj=>(b6 j u hu).1 (by rw[←h2,bc] at hj;exact hj),fun d hd=>?_⟩⟩
   rw[←h2,bE] at hd
   obtain⟨d0,h4,rfl⟩:=rG.1 hd
   exact sG ((b6 j u hu).2 d0 h4) (bx.1 (hvo i a h1) d0 (bL h4)) (fun i hi=>uX hi N) (fun i _=>xy i)
  ·have bh:=hR.var_lt h2
   obtain⟨b1,b2,b3,ys,ty,b4,b5,b6⟩:=hR.var k cs h2
   exact⟨bC b1 (oY _ _),by rw[hμo k h1];exact b2,fun p hp=>.inl (b3 p (by rw[hp,hμo k h1])),ys,ty,by rw[hμo k h1,hold _ bh];exact b4,b5,fun j u hu=>⟨(b6 j u hu).1,fun d hd=>((b6 j u hu).2 d hd).mono mo⟩⟩
 ·rcases look hk with⟨i,x,rfl,h1,_⟩|⟨h1,h2⟩ <;> rcases look pf with⟨i',x',rfl,ni,_⟩|⟨ni,lj⟩
  ·rw[xy,xy] at he
   rw[Kh.inj i i' x x' h1 ni he]
  ·rw[xy,hμo _ ni] at he
   have h3:=(Kh.var i x h1).2.1
   have h4:=hR.var_lt lj
   omega
  ·rw[xy,hμo _ h1] at he
   have h3:=(Kh.var i' x' ni).2.1
   have h4:=hR.var_lt h2
   omega
  ·rw[hμo _ h1,hμo _ ni] at he
   exact hR.inj k k' a b h2 lj he
 ·obtain⟨b1,ys,b2,b3,b4⟩:=hR.tok id m e hi
  refine⟨bC b1 (oY _ _),ys,b2,⟨b3.1,?_⟩,fun b hb=>⟨fun p hp hq=>.inl ((b4 b hb).1 p hp hq),fun k cs hk=>?_⟩⟩
  ·rcases b3.2 with h0|⟨b,cap,cur,hv,hBb,hh,r⟩
   ·exact .inl h0
   ·exact .inr ⟨b,cap,cur,hv,hBb,(hold b (dW.1 hh).1).trans hh,r⟩
  ·have hblt:b<w.heap.size:=by
    rcases b3.2 with⟨h0,_⟩|⟨b',cap,cur,hv,hBb,hh,r⟩
    ·rw[show g2.τ id=g.τ id from rfl,h0] at hb;simp[Value.ownBlock] at hb
    ·rw[show g2.τ id=g.τ id from rfl,hv] at hb
     simp[Value.ownBlock] at hb
     subst hb
     exact (dW.1 hh).1
   rcases look hk with⟨i,x,rfl,h1,_⟩|⟨h1,h2⟩
   ·rw[xy]
    have:=(Kh.var i x h1).2.1
    omega
   ·rw[hμo _ h1];exact (b4 b hb).2 k cs h2
 ·rcases hf with hf|⟨k,cs,hk,he⟩
  ·exact bC (hR.fits p hf) hB.size
  ·obtain⟨_,_,_,ys,ty,b4,_⟩:=Kh.var k cs hk
   rw[he];exact (dW.1 b4).1
def q8(x:Cx)(d:D)(hp:Hp)(d':D)(hp':Hp):Prop:=∀(g:Gh) (w:World) (v:Value),HR x.B hp g w→aF hp g w d v→bu x.hp0 x.g0 x.w0 hp g w→Below x.B x.w0 w→(∀p:Addr,p.block<x.B→x.F0 p→g.F p)→∃g',HR x.B hp' g' w∧aF hp' g' w d' v∧bu x.hp0 x.g0 x.w0 hp' g' w∧∀p:Addr,p.block<x.B→x.F0 p→g'.F p
theorem q8.of_wk {x:Cx}{d d':D}{hp hp':Hp}(hN:0<x.N)(hw:Wk x [(0,d)] hp [(0,d')] hp'):q8 x d hp d' hp':=by
 intro g w v hr hd hM hB hF
 have hrs:RS x [(0,d)] hp {tmps:=(Array.replicate x.N undef).setIfInBounds 0 v,defers:=x.df} w:=by
  refine⟨g,hr,fun t d2 ht=>?_,by simp,rfl,hB,hF,hM⟩
  by_cases h0:t=0
  ·subst h0
   have:some d=some d2:=by rw[←ht];exact ah.symm
   injection this with this
   subst this
   have:((Array.replicate x.N undef).setIfInBounds 0 v).getD 0 undef=v:=by simp[e7,hN]
   dsimp only
   rw[this];exact hd
  ·rw[al h0] at ht;cases ht
 obtain⟨g',h1,h2,_,_,_,h3,h4⟩:=hw _ _ hrs
 refine⟨g',h1,?_,h4,h3⟩
 have:=h2 0 d' ah
 have e:((Array.replicate x.N undef).setIfInBounds 0 v).getD 0 undef=v:=by simp[e7,hN]
 dsimp only at this
 rwa[e] at this
theorem q8.of_wk2 {x:Cx}{d d' e e':D}{hp hp':Hp}(hN:1<x.N)(hw:Wk x [(0,d),(1,e)] hp [(0,d'),(1,e')] hp'):q8 x (.tu [d,e]) hp (.tu [d',e']) hp':=by
 intro g w v hr hd hM hB hF
 cases hd with
 |tu _ cs hl IV=>
  have oQ:cs.size=2:=hl
  have c0:cs[0]? =some cs[0]:=pX (by omega)
  have c1:cs[1]? =some cs[1]:=pX (by omega)
  have t0:((((Array.replicate x.N undef).setIfInBounds 0 cs[0]).setIfInBounds 1 cs[1]).getD 0 undef)=cs[0]:=by
   have:0<x.N:=by omega
   rw[e7,DT (by decide)]
   simp[this]
  have t1:((((Array.replicate x.N undef).setIfInBounds 0 cs[0]).setIfInBounds 1 cs[1]).getD 1 undef)=cs[1]:=by
   simp[e7,hN]
  have hrs:RS x [(0,d),(1,e)] hp {tmps:=((Array.replicate x.N undef).setIfInBounds 0 cs[0]).setIfInBounds 1 cs[1],defers:=x.df} w:=by
   refine⟨g,hr,fun t d2 ht=>?_,by simp,rfl,hB,hF,hM⟩
   by_cases h0:t=0
   ·subst h0
    have:some d=some d2:=by rw[←ht];exact ah.symm
    injection this with this
    subst this
    dsimp only
    rw[t0]
    exact IV 0 d _ rfl c0
   ·rw[al h0] at ht
    by_cases h1:t=1
    ·subst h1
     have:some e=some d2:=by rw[←ht];exact ah.symm
     injection this with this
     subst this
     dsimp only
     rw[t1]
     exact IV 1 e _ rfl c1
    ·rw[al h1] at ht;cases ht
  obtain⟨g',h1,h2,_,_,_,h3,h4⟩:=hw _ _ hrs
  have k0:=h2 0 d' ah
  have k1:=h2 1 e' ((al (by decide)).trans ah)
  dsimp only at k0 k1
  rw[t0] at k0
  rw[t1] at k1
  refine⟨g',h1,.tu _ cs hl fun j dj u hj hu=>?_,h4,h3⟩
  match j,hj,hu with
  |0,hj,hu=>
   have e1:some d'=some dj:=hj
   injection e1 with e1
   rw[c0] at hu
   injection hu with hu
   rw[←e1,←hu];exact k0
  |1,hj,hu=>
   have e1:some e'=some dj:=hj
   injection e1 with e1
   rw[c1] at hu
   injection hu with hu
   rw[←e1,←hu];exact k1
  |n+2,hj,hu=>cases hj
theorem HC.ofX {P : Program} {tb : TypeId → Option TyE} (tok : TOk P tb) {f : FuncId} {fn : Func} {c : Code} {ds : List D} {hp hp' : Hp} {r : D} {rs : List ResultVar} (hf : P.funcs[f]? = some fn) (hb : fn.body = some c) (qH : (fn.name == "runtime.NumGoroutine") = false) (hN : ds.length ≤ fn.ntmps) (hrs : fn.results.toList = rs)
  (h:∀x:Cx,x.N=fn.ntmps→x.hp0=hp→AW P x c (dv 0 ds) hp fun ex tm bk=>match ex with| .normal| .ret=>∃d,xp tb rs tm bk d∧q8 x d bk r hp'|_=>False):HC P f ds hp r hp':=by
 subst hrs
 refine⟨⟨fn,hf,qH,by rw[hb];rfl⟩,fun B g w vs hr hsz ss=>?_⟩
 refine calls_of_wp hf hb ?_
 have C0:RS ⟨B,w,g.F,fn.ntmps,hp,g,[]⟩ (dv 0 ds) hp {tmps:=vs++Array.replicate (fn.ntmps - vs.size) undef,defers:=[]} w:=by
  refine⟨g,hr,fun t d ht=>?_,by simp;omega,rfl,Below.refl _ _,fun _ _ h=>h,bu.refl _ _ _⟩
  obtain⟨_,h2⟩:=n7 ht
  have bh:t<ds.length:=by
   rw[DR] at h2
   rcases bO t ds.length with hh|hh
   ·exact hh
   ·rw[gP hh] at h2;cases h2
  have hv:vs[t]? =some vs[t]:=pX (by omega)
  have:=ss t d vs[t] (by simpa using h2) hv
  have he:(vs++Array.replicate (fn.ntmps - vs.size) undef).getD t undef=vs[t]:=by
   rw[e7,An (by omega),hv];rfl
  rw[he]
  exact this
 refine wp_mono (h ⟨B,w,g.F,fn.ntmps,hp,g,[]⟩ rfl rfl _ _ C0) ?_
 rintro ex a' w' ⟨tm',bk,h1,h2⟩
 have fin:(∃d,xp tb fn.results.toList tm' bk d∧q8 ⟨B,w,g.F,fn.ntmps,hp,g,[]⟩ d bk r hp')→a'.defers=[]∧∃v,(results fn a'.tmps).run P w'=.ok v w'∧∃v' g',Ending.returned v=.returned v'∧HR B hp' g' w'∧bu hp g w hp' g' w'∧aF hp' g' w' r v'∧Below B w w'∧∀p:Addr,p.block<B→g.F p→g'.F p:=by
  rintro⟨d,Mc,Qm⟩
  obtain⟨g1,om,fh,_,pg,hB,hF,hM⟩:=h1
  obtain⟨v,bm,l4⟩:=tV (x:=⟨B,w,g.F,fn.ntmps,hp,g,[]⟩) tok rfl Mc om fh
  obtain⟨g',h3,h4,h5,h6⟩:=Qm g1 w' v om l4 hM hB hF
  exact⟨pg,v,bm,v,g',rfl,h3,h5,h4,hB,h6⟩
 cases ex with
 |normal=>exact fin h2
 |ret=>exact fin h2
 |_=>cases h2
end
section
theorem ARs.nil {hp:Hp}:ARs hp [] []:=trivial
theorem ARs.cons {hp:Hp}{d e:D}{ds es:List D}(h:AR hp d e)(hl:ARs hp ds es):ARs hp (d::ds) (e::es):=⟨h,hl⟩
class yW {α:Type} (c:Cd α):Prop where
 h:∀x,(c.f x).all E.isLit=true
theorem yW.l {α:Type}(c:Cd α)(l:List α)[yW c]:(l.flatMap c.f).all E.isLit=true:=by
 rw[List.all_flatMap,bx]
 exact fun x _=>yW.h x
instance(k:IntKind):yW (cI k):=⟨fun _=>rfl⟩
instance:yW cS:=⟨fun _=>rfl⟩
instance:yW cB:=⟨fun _=>rfl⟩
instance {α:Type}(n:Nat)(c:Cd α)[yW c]:yW (cA n c):=⟨fun x=>yW.l c x.toList⟩
theorem RH {xs:List E}(ρ:Nat→Nat):(dC xs).map (D.renC ρ)=dC xs:=by
 unfold dC
 rw[kP]
 exact sV fun x _=>rfl
theorem RI {xs:List E}(h:xs.all E.isLit=true):(dC xs).all D.refC=true:=by
 unfold dC
 rw[DN,bx]
 intro y hy
 have:=bx.1 h y hy
 cases y with
 |lit u=>rfl
 |_=>cases this
section
variable {md:Md} {ops:Array Oper} {K:List (Nat×D)→Hp→Prop} {os:List Oper} {tm:List (Nat×D)} {hp hp':Hp} {t s:Tmp} {op:Op} {ty:TypeId} {pos:String} {af:Array Edge} {d d2:D} {j:Nat} {want c:Bool}
theorem sC0 {x:Operand}{f:FuncId}{la:List Operand}{ts:Array TypeId}{dsE:List D}{r:D}{xs:List E}{vs:List (Nat×List D)}{lv:List (Nat×Nat×Nat×TypeId)}{N q:Nat}(hc:HC prog f dsE ⟨[],[],0⟩ r ⟨[(q,dC xs)],[],q+1⟩)(ha:ARs ⟨vs,lv,N⟩ (la.map (evD tm)) dsE)(hx:xs.all E.isLit=true)(h2:aQ prog tbl md ops K os ((t,d)::tm) hp')(hr:r.ref2=true:=by exact rfl)(hd:r.ren2 (fun i=>N+i)=d:=by exact rfl)(hh:(⟨(N+q,dC xs)::vs,lv,N+(q+1)⟩:Hp)=hp':=by exact rfl)(uL:evD tm x=.e (.lit (.func (.func f) #[] #[])):=by exact rfl)(hn:md.nc tbl (.call ⟨.value x,la.toArray,ts⟩)=true:=by exact rfl):
  aQ prog tbl md ops K (⟨some t,.call ⟨.value x,la.toArray,ts⟩,ty,pos,af,none⟩::os) tm ⟨vs,lv,N⟩:=by
 subst hd hh
 have h:=HC.frame0R (vs:=vs) (lv:=lv) (N:=N) hc ha hr (fun k cs hk=>by
  by_cases h0:k=q
  ·subst h0
   rw[ah] at hk
   injection hk with hk
   subst hk
   exact RI hx
  ·rw[al h0] at hk;cases hk)
 rw[gZ,pN,RH] at h
 exact Js rfl (sHC h rfl (.inr ⟨oY _ _,fun j hj=>al (Nat.ne_of_lt (bC hj (oY _ _)))⟩) uL hn) h2
variable {x:Cx} {Q:Exit→List (Nat×D)→Hp→Prop}
end
end
instance:yW au:=⟨fun x=>by unfold au;simp only[sX,jL,oF,E.isLit,yW.h,iY,DK]⟩
instance:yW aj:=⟨fun x=>by unfold aj;simp only[sX,jL,oF,E.isLit,yW.h,iY,DK]⟩
theorem pG0 {α:Type}(c:Cd α)(a:α)(l:List E){z:Nat}(h:c.sz=z):((c.f a++l).drop 0).take z=c.f a:=by
 have hl:(c.f a).length=z:=(c.h a).trans h
 rw[pH,sb (by omega),e9 (by omega)]
theorem pG1 {α β:Type}(c:Cd α)(a:α)(k:Cd β)(b:β){o z:Nat}(h:c.sz=o)(h2:k.sz=z):((c.f a++k.f b).drop o).take z=k.f b:=by
 have hl:(c.f a).length=o:=(c.h a).trans h
 have hk:(k.f b).length=z:=(k.h b).trans h2
 rw[←hl,pO,e9 (by omega)]
structure f9 where
 vM:aq
 vE:Int
 deriving Inhabited,DecidableEq
def mP:Cd f9:=⟨4,fun x=>aG.f x.vM++[.lit (.int .i64 x.vE)],fun x=>by simp[aG.h,show aG.sz=3 from rfl]⟩
def kq(dt:List ak):Int→Option (Int⊕(Bool⊕Unit)):=fun aJ=>cnd (decide (aJ<((dt).length:Int))) (gd (0≤aJ∧aJ<((dt).length:Int)) (bnd (l5 ((dt)[(aJ).toNat]!)) fun x4=>cnd (!x4) (some (.inr (.inl false))) (some (.inl (i64.wrap (aJ+(1:Int))))))) (some (.inr (.inr ())))
def nW(dt:List ak):Option Bool:=bnd (aL (kq dt) (0:Int)) fun y7=>match y7 with| .inl r=>some r| .inr ()=>some true
theorem Gz {dt:List ak}{r:Bool}(h:nW dt=some r):ar prog 69 [dL aj dt] (dB r):=by
 refine bB (rs:=[.tmp 2]) (fun cx hx h0=>?_) func69
 unfold nW at h
 refine ra hx ?_
 refine AW.seq (ra hx ?_)
 refine AW.block ?_
 obtain⟨y,hy,h⟩:=ai h
 refine lp (S:=Int) (X:=Bool⊕Unit) (fun aJ=>[(0,dL aj dt),(3,dI .i64 aJ)]) (fun aJ=>⟨[],[],0⟩) (PS (PR [.tmp 2] fun r=>dB r) (PE cx (.exit 0) (fun ()=>[]) fun ()=>⟨[],[],0⟩)) hy ?_ ?_ ?_
 exact wk0 h0 []
 clear hy h
 rintro aJ y h
 dsimp only[kq] at h
 refine AW.seq (ra hx ?_)
 refine cdh h rfl (fun fy h=>?_) (fun fy h=>?_)
 refine AW.skip (AW.seq (AW.block (rs hx fun K hK=>?_)))
 iterate 2 refine sa ?_
 obtain⟨ui,h⟩:=ax h
 have yq:(aJ).toNat<(dt).length:=by omega
 refine sbr ?_
 refine s1 (d:=dG aj ((dt)[(aJ).toNat]!)) (rK (c:=aj) (l:=dt) (n:=(aJ).toNat) (o:=0) aR yq (nH _ _ rfl)) ?_
 refine scb h GC fun x4 h=>?_
 refine nbr hK ?_
 refine ra hx ?_
 refine cdh h rfl (fun pJ h=>?_) (fun pJ h=>?_)
 refine ra hx ?_
 refine AW.ret ?_
 cases h
 refine PS.r ⟨by nofun,PS.l (PR.i ?_)⟩
 exact rv1
 refine AW.skip (rb hx ?_)
 exact pel h h0 []
 exact AW.exit (peq h h0 [])
 rcases y with r|⟨⟩
 rintro ex tm' hp' ⟨rfl,hw⟩
 cases h
 exact hw
 refine lwr ?_
 refine ra hx ?_
 exact AW.ret (rtv h)
def kH(dp:aq):Option Int:=bnd (S:=Bool) (cnd (decide (dp.vR<(0:Int))) (some (true)) (cnd (decide ((200:Int)<dp.vR)) (some (true)) (cnd (decide (dp.vC<(0:Int))) (some (true)) (some (decide ((200:Int)<dp.vC)))))) fun bG=>cnd bG (some (2:Int)) (bnd (S:=Bool) (cnd (decide (((dp.vV).length:Int)≠(i64.wrap (dp.vR*dp.vC)))) (some (true)) (bnd (nW dp.vV) fun x7=>some (!x7))) fun nB=>cnd nB (some (1:Int)) (some (0:Int)))
theorem wa {dp:aq}{r:Int}(h:kH dp=some r):ar prog 46 [dG aG dp] (dI .i64 r):=by
 refine bB (rs:=[.tmp 2]) (fun cx hx h0=>?_) func46
 unfold kH at h
 refine rs hx fun K hK=>?_
 refine s1 (d:=.pt 0 0) jb ?_
 refine nbr hK ?_
 iterate 2 refine AW.seq ?_
 obtain⟨bG,hy,h⟩:=ai h
 refine jn ((PE cx .normal (fun bG=>[(1,.pt 0 0),(20,dB bG)]) fun bG=>⟨[(0,[dI .i64 dp.vR,dI .i64 dp.vC,dL aj dp.vV])],[],1⟩) bG) ?_ ?_
 replace h:=hy
 refine rq hx fun K hK=>?_
 refine mbr ?_
 rcases bX h with⟨fy,h⟩|⟨fy,h⟩
 refine nbr hK ?_
 exact pe1 h h0 [0]
 refine mbr ?_
 rcases bX h with⟨rf,h⟩|⟨rf,h⟩
 refine nbr hK ?_
 exact pe1 h h0 [0]
 refine mbr ?_
 rcases bX h with⟨fT,h⟩|⟨fT,h⟩
 refine nbr hK ?_
 exact pe1 h h0 [0]
 refine nbr hK ?_
 exact pe1 h h0 [0]
 refine lw0 ?_
 refine cdh h rfl (fun v4 h=>?_) (fun v4 h=>?_)
 refine ra hx ?_
 exact AW.ret (rtv h)
 refine AW.skip ?_
 iterate 2 refine AW.seq ?_
 obtain⟨nB,hy,h⟩:=ai h
 refine jn ((PE cx .normal (fun nB=>[(35,dB nB)]) fun nB=>⟨[],[],0⟩) nB) ?_ ?_
 replace h:=hy
 refine rq hx fun K hK=>?_
 refine mbr ?_
 rcases bX h with⟨pJ,h⟩|⟨pJ,h⟩
 refine nbr hK ?_
 exact pe1 h h0 []
 refine ga pJ ?_
 refine gbr ?_
 refine gcb h Gz fun x7 h=>?_
 refine nbr hK ?_
 exact pe1 h h0 []
 refine lw0 ?_
 refine cdh h rfl (fun ke h=>?_) (fun ke h=>?_)
 refine ra hx ?_
 exact AW.ret (rtv h)
 refine AW.skip (ra hx ?_)
 exact AW.ret (rtv h)
def mE(dp:aq):Option Bool:=bnd (kH dp) fun x1=>some (decide (x1=(0:Int)))
theorem EE {dp:aq}{r:Bool}(h:mE dp=some r):ar prog 57 [dG aG dp] (dB r):=by
 refine bB (rs:=[.tmp 2]) (fun cx hx h0=>?_) func57
 unfold mE at h
 refine rs hx fun K hK=>?_
 refine s1 (d:=.pt 0 0) jb ?_
 refine nbr hK ?_
 refine rs hx fun K hK=>?_
 refine s1 (d:=dG aG dp) (cF ay) ?_
 refine scb h wa fun x1 h=>?_
 refine nbr hK ?_
 exact AW.ret (rtv h)
def jY(bT:Int)(bw:Int)(jc:List ak):Option f9:=gd ((([]:List ak)++jc).length*136≤140737488355328) (bnd (kH (⟨bT,bw,([]:List ak)++jc⟩:aq)) fun x2=>cnd (decide (x2≠(0:Int))) (some (⟨(⟨(0:Int),(0:Int),([]:List ak)⟩:aq),x2⟩:f9)) (some (⟨(⟨bT,bw,([]:List ak)++jc⟩:aq),(0:Int)⟩:f9)))
theorem GB {bT:Int}{bw:Int}{jc:List ak}{r:f9}(h:jY bT bw jc=some r):ar prog 35 [dI .i64 bT,dI .i64 bw,dL aj jc] (dG mP r):=by
 refine bB (rs:=[.cell 6 65]) (fun cx hx h0=>?_) func35
 unfold jY at h
 refine rs hx fun K hK=>?_
 refine s1 (d:=.pt 0 0) (cc AI) ?_
 refine nl hK ?_
 refine rs hx fun K hK=>?_
 iterate 2 refine sa ?_
 refine s1 (d:=dO 1 aj ([]:List ak)) (UL aW aR) ?_
 refine sa ?_
 obtain⟨HK,h⟩:=ax h
 refine s1 (d:=dO 1 aj (([]:List ak)++jc)) (ip aW aR HK) ?_
 refine s2 (d2:=dG aG (⟨bT,bw,([]:List ak)++jc⟩:aq)) (cp (es:=[dI .i64 bT,dI .i64 bw,dO 1 aj (([]:List ak)++jc)]) ay) (i7 (wc (ge _) (wc (ge _) (wc (Ho _) wcn)))) ?_
 refine s1 (d:=.pt 2 0) (cc ay) ?_
 refine s0 (eL (ds':=[dI .i64 bT,dI .i64 bw,dL aj (([]:List ak)++jc)]) ay) ?_
 refine nl hK ?_
 refine rs hx fun K hK=>?_
 refine s1 (d:=dG aG (⟨bT,bw,([]:List ak)++jc⟩:aq)) (cF ay) ?_
 refine scb h wa fun x2 h=>?_
 refine nbr hK ?_
 refine AW.seq (ra hx ?_)
 refine cdh h rfl (fun z5 h=>?_) (fun z5 h=>?_)
 refine rs hx fun K hK=>?_
 refine sa ?_
 refine s1 (d:=.ag [dI .i64 (0:Int),dI .i64 (0:Int),dN,dI .i64 x2]) (cp AI) ?_
 refine s0 (eL (ds':=[dI .i64 (0:Int),dI .i64 (0:Int),dN,dI .i64 x2]) AI) ?_
 refine nl hK ?_
 refine AW.ret ?_
 cases h
 exact eu.mk1 (dQ (es:=[dI .i64 (0:Int),dI .i64 (0:Int),dN,dI .i64 x2]) rfl AI rfl rfl (ltb rfl) (leb rfl) rfl (.inr (.inr ⟨_,(i7 (wc (ge _) (wc (ge _) (wc (vT rfl) (wc (ge _) wcn))))),rfl,rfl⟩)))
 refine AW.skip (rs hx fun K hK=>?_)
 refine s1 (d:=dG aG (⟨bT,bw,([]:List ak)++jc⟩:aq)) (cF ay) ?_
 refine s1 (d:=dG mP (⟨(⟨bT,bw,([]:List ak)++jc⟩:aq),(0:Int)⟩:f9)) (cp AI) ?_
 refine s0 (eL (ds':=[dI .i64 bT,dI .i64 bw,dL aj (([]:List ak)++jc),dI .i64 (0:Int)]) AI) ?_
 refine nl hK ?_
 refine AW.ret ?_
 cases h
 exact eu.mk1 (dQ (es:=(mP.f (⟨(⟨bT,bw,([]:List ak)++jc⟩:aq),(0:Int)⟩:f9)).map .e) rfl AI rfl rfl (ltb rfl) (leb rfl) rfl (.inr (.inr ⟨_,(ao _),rfl,rfl⟩)))
def fL(aZ:aq)(aY:aq):Option Bool:=bnd (S:=Bool) (cnd (decide (aZ.vR=aY.vR)) (cnd (decide (aZ.vC=aY.vC)) (bnd (b7 aZ.vV aY.vV) fun x3=>some (x3)) (some (false))) (some (false))) fun jN=>some jN
theorem GA {aZ:aq}{aY:aq}{r:Bool}(h:fL aZ aY=some r):ar prog 14 [dG aG aZ,dG aG aY] (dB r):=by
 refine bB (rs:=[.tmp 4]) (fun cx hx h0=>?_) func14
 unfold fL at h
 refine rs hx fun K hK=>?_
 refine s1 (d:=.pt 0 0) jb ?_
 refine s1 (d:=.pt 1 0) jb ?_
 refine nbr hK ?_
 refine AW.seq ?_
 obtain⟨jN,hy,h⟩:=ai h
 refine jn ((PE cx .normal (fun jN=>[(4,dB jN)]) fun jN=>⟨[],[],0⟩) jN) ?_ ?_
 replace h:=hy
 refine rq hx fun K hK=>?_
 refine mbr ?_
 rcases bX h with⟨fy,h⟩|⟨fy,h⟩
 refine mbr ?_
 rcases bX h with⟨rf,h⟩|⟨rf,h⟩
 refine ga rf ?_
 refine gbr ?_
 refine ga rf ?_
 refine gbr ?_
 refine gcb h sx fun x3 h=>?_
 refine nbr hK ?_
 exact pe1 h h0 []
 refine nbr hK ?_
 exact pe1 h h0 []
 refine nbr hK ?_
 exact pe1 h h0 []
 refine lw0 ?_
 exact AW.ret (rtv h)
def jv(dt:List ak):Int→Option (Int⊕(Bool⊕Unit)):=fun aJ=>cnd (decide (aJ<((dt).length:Int))) (bnd (S:=Bool) (gd (0≤aJ∧aJ<((dt).length:Int)) (bnd (eC ((dt)[(aJ).toNat]!.vN)) fun x4=>cnd (decide ((60:Int)<x4)) (some (true)) (gd (0≤aJ∧aJ<((dt).length:Int)) (bnd (eC ((dt)[(aJ).toNat]!.vD)) fun x9=>some (decide ((60:Int)<x9)))))) fun dm=>cnd dm (some (.inr (.inl false))) (some (.inl (i64.wrap (aJ+(1:Int)))))) (some (.inr (.inr ())))
def i2(dt:List ak):Option Bool:=bnd (aL (jv dt) (0:Int)) fun y13=>match y13 with| .inl r=>some r| .inr ()=>some true
theorem v9 {dt:List ak}{r:Bool}(h:i2 dt=some r):ar prog 28 [dL aj dt] (dB r):=by
 refine bB (rs:=[.tmp 2]) (fun cx hx h0=>?_) func28
 unfold i2 at h
 refine ra hx ?_
 refine AW.seq (ra hx ?_)
 refine AW.block ?_
 obtain⟨y,hy,h⟩:=ai h
 refine lp (S:=Int) (X:=Bool⊕Unit) (fun aJ=>[(0,dL aj dt),(3,dI .i64 aJ)]) (fun aJ=>⟨[],[],0⟩) (PS (PR [.tmp 2] fun r=>dB r) (PE cx (.exit 0) (fun ()=>[]) fun ()=>⟨[],[],0⟩)) hy ?_ ?_ ?_
 exact wk0 h0 []
 clear hy h
 rintro aJ y h
 dsimp only[jv] at h
 refine AW.seq (ra hx ?_)
 refine cdh h rfl (fun fy h=>?_) (fun fy h=>?_)
 refine AW.skip (AW.seq (AW.block (AW.seq ?_)))
 obtain⟨dm,hy,h⟩:=ai h
 refine jn ((PE cx .normal (fun dm=>[(0,dL aj dt),(3,dI .i64 aJ),(25,dB dm)]) fun dm=>⟨[],[],0⟩) dm) ?_ ?_
 replace h:=hy
 refine rq hx fun K hK=>?_
 iterate 2 refine sa ?_
 obtain⟨ui,h⟩:=ax h
 have yq:(aJ).toNat<(dt).length:=by omega
 iterate 2 refine sbr ?_
 refine s1 (d:=dG au ((dt)[(aJ).toNat]!.vN)) (rK (c:=aj) (l:=dt) (n:=(aJ).toNat) (o:=0) g5 yq (by first|exact rfl|exact pG0 _ _ _ rfl|exact pG1 _ _ _ _ rfl rfl)) ?_
 refine scb h xD fun x4 h=>?_
 refine mbr ?_
 rcases bX h with⟨pJ,h⟩|⟨pJ,h⟩
 refine nbr hK ?_
 exact pe1 h h0 []
 iterate 2 refine ga pJ ?_
 obtain⟨hc7,h⟩:=ax h
 have hn8:(aJ).toNat<(dt).length:=by omega
 refine gbr ?_
 refine ga pJ ?_
 refine g1 (d:=dG au ((dt)[(aJ).toNat]!.vD)) pJ (rK (c:=aj) (l:=dt) (n:=(aJ).toNat) (o:=18) g5 hn8 (by first|exact rfl|exact pG0 _ _ _ rfl|exact pG1 _ _ _ _ rfl rfl)) ?_
 refine gcb h xD fun x9 h=>?_
 refine nbr hK ?_
 exact pe1 h h0 []
 refine lw0 ?_
 refine cdh h rfl (fun Da h=>?_) (fun Da h=>?_)
 refine ra hx ?_
 refine AW.ret ?_
 cases h
 refine PS.r ⟨by nofun,PS.l (PR.i ?_)⟩
 exact rv1
 refine AW.skip (rb hx ?_)
 exact pel h h0 []
 exact AW.exit (peq h h0 [])
 rcases y with r|⟨⟩
 rintro ex tm' hp' ⟨rfl,hw⟩
 cases h
 exact hw
 refine lwr ?_
 refine ra hx ?_
 exact AW.ret (rtv h)
def kG(dp:aq):Option Bool:=cnd (decide ((60:Int)<((dp.vV).length:Int))) (some false) (bnd (mE dp) fun x2=>cnd (!x2) (some true) (bnd (S:=Bool) (cnd (decide (dp.vR≤(6:Int))) (cnd (decide (dp.vC≤(7:Int))) (bnd (i2 dp.vV) fun x7=>some (x7)) (some (false))) (some (false))) fun nA=>some nA))
theorem EF {dp:aq}{r:Bool}(h:kG dp=some r):ar prog 10 [dG aG dp] (dB r):=by
 refine bB (rs:=[.tmp 2]) (fun cx hx h0=>?_) func10
 unfold kG at h
 refine rs hx fun K hK=>?_
 refine s1 (d:=.pt 0 0) jb ?_
 refine nbr hK ?_
 refine AW.seq (rar hx ?_)
 refine cdh h rfl (fun fy h=>?_) (fun fy h=>?_)
 refine ra hx ?_
 exact AW.ret (rtv h)
 refine AW.skip (AW.seq (rs hx fun K hK=>?_))
 refine s1 (d:=dG aG dp) (cF ay) ?_
 refine scb h EE fun x2 h=>?_
 refine nbr hK ?_
 refine cdh h rfl (fun z5 h=>?_) (fun z5 h=>?_)
 refine ra hx ?_
 exact AW.ret (rtv h)
 refine AW.skip (AW.seq ?_)
 obtain⟨nA,hy,h⟩:=ai h
 refine jn ((PE cx .normal (fun nA=>[(2,dB nA)]) fun nA=>⟨[],[],0⟩) nA) ?_ ?_
 replace h:=hy
 refine rq hx fun K hK=>?_
 refine mbr ?_
 rcases bX h with⟨v4,h⟩|⟨v4,h⟩
 refine mbr ?_
 rcases bX h with⟨pJ,h⟩|⟨pJ,h⟩
 refine ga pJ ?_
 refine gbr ?_
 refine gcb h v9 fun x7 h=>?_
 refine nbr hK ?_
 exact pe1 h h0 []
 refine nbr hK ?_
 exact pe1 h h0 []
 refine nbr hK ?_
 exact pe1 h h0 []
 refine lw0 ?_
 exact AW.ret (rtv h)
structure mQ where
 vcol:Int
 vby:ak
 vmoved:Bool
 deriving Inhabited,DecidableEq
def bJ:Cd mQ:=⟨38,fun x=>[.lit (.int .i64 x.vcol)]++aj.f x.vby++[.lit (.bool x.vmoved)],fun x=>by simp[aj.h,show aj.sz=36 from rfl]⟩
theorem ET(x:mQ):a8 (bJ.f x) (cI .i64) 0 x.vcol (fun y=>bJ.f (⟨y,x.vby,x.vmoved⟩:mQ)):=
 a8.of ([]) ((aj).f x.vby++(cB).f x.vmoved) (by first|rfl|(simp[(cI .i64).h,cB.h,aj.h];first|rfl|done)) (by first|rfl|simp[bJ,cI,cB,cS,cL,bP]) (fun y=>by first|rfl|simp[bJ,cI,cB,cS,cL,bP])
theorem Hj(x:mQ):a8 (bJ.f x) aj 1 x.vby (fun y=>bJ.f (⟨x.vcol,y,x.vmoved⟩:mQ)):=
 a8.of (((cI .i64)).f x.vcol) ((cB).f x.vmoved) (by first|rfl|(simp[(cI .i64).h,cB.h,aj.h];first|rfl|done)) (by first|rfl|simp[bJ,cI,cB,cS,cL,bP]) (fun y=>by first|rfl|simp[bJ,cI,cB,cS,cL,bP])
theorem Bq(x:mQ):a8 (bJ.f x) cB 37 x.vmoved (fun y=>bJ.f (⟨x.vcol,x.vby,y⟩:mQ)):=
 a8.of (((cI .i64)).f x.vcol++(aj).f x.vby) ([]) (by first|rfl|(simp[(cI .i64).h,cB.h,aj.h];first|rfl|done)) (by first|rfl|simp[bJ,cI,cB,cS,cL,bP]) (fun y=>by first|rfl|simp[bJ,cI,cB,cS,cL,bP])
structure cY where
 vm:aq
 vl:List mQ
 deriving Inhabited,DecidableEq
def qo:Cd cY:=⟨4,fun x=>aG.f x.vm++[slE bJ x.vl],fun x=>by simp[aG.h,show aG.sz=3 from rfl]⟩
section
section
variable {vs ul pe:List (Nat×List D)} {lv Ez:List (Nat×Nat×Nat×TypeId)} {N M n2 k:Nat}
theorem fc.up(hok:fc ⟨vs,lv,N⟩)(h:N≤M):fc ⟨vs,lv,M⟩:=
 ⟨fun j es hj=>by obtain⟨h1,h2⟩:=hok.var j es hj;exact⟨bC h1 h,bx.2 fun d hd=>D.idsC_le h (bx.1 h2 d hd)⟩,fun id e hi=>bC (hok.tok id e hi) h⟩
theorem fc.consM {ds:List D}(hok:fc ⟨vs,lv,M⟩)(hk:k<M)(hd:ds.all (D.idsC M)=true):fc ⟨(k,ds)::vs,lv,M⟩:=hok.cons (aC M) hk hd
theorem wk1 {x:Cx}{tm tm':List (Nat×D)}{vs0:List (Nat×List D)}{lv0:List (Nat×Nat×Nat×TypeId)}{N0 n':Nat}(h0:x.hp0=⟨vs0,lv0,N0⟩)(hN:N0≤n':=by omega)(hn:n'≤n2:=by omega)(hok:fc ⟨pe,lv,n'⟩:=by (repeat (first|assumption|refine fc.consM ?_ (by omega) (by (first|exact oO _|exact lineD_ids (by omega)|exact dicC_ids (by omega) (by omega)|assumption|exact rfl|(simp only[jL,oF,iY];exact det_)))|exact fc.up (by assumption) (by omega))))
  (hv:∀j ds,pe.lookup j=some ds→ul.lookup j=some ds:=by (intro j ds h;(repeat (rcases dT h with⟨rfl,rfl⟩|⟨hj,h⟩;·(repeat (first|exact ah|assumption|refine am (by first|assumption|exact lS (by assumption)|omega) ?_))));have hjN:=fc.lt (by assumption) h;(repeat (first|exact ah|assumption|refine am (by first|assumption|exact lS (by assumption)|omega) ?_)))) (ht:pc n' tm tm':=by (repeat (first|exact pc.nil|refine pc.cons ?_ (by exact rfl) (by (first|exact rfl|assumption|exact det_|exact bx.2 (fun k hk=>ck (by simp only[e8,uR,A8] at hk;omega))))))):Wk x tm ⟨ul,lv,n2⟩ tm' ⟨pe,lv,n'⟩:=wkS (by rw[h0];exact hN) hn hok hv ht
theorem rt1 {x:Cx}{tm:List (Nat×D)}{q:Nat}{d:D}(h0:x.hp0=⟨vs,lv,N⟩)(hok:fc ⟨pe,lv,N⟩:=by (repeat (first|assumption|refine fc.consM ?_ (by omega) (by (first|exact oO _|exact lineD_ids (by omega)|exact dicC_ids (by omega) (by omega)|assumption|exact rfl|(simp only[jL,oF,iY];exact det_)))|exact fc.up (by assumption) (by omega))))(hN:N≤n2:=by omega)(hv:∀j ds,pe.lookup j=some ds→ul.lookup j=some ds:=by (intro j ds h;(repeat (rcases dT h with⟨rfl,rfl⟩|⟨hj,h⟩;·(repeat (first|exact ah|assumption|refine am (by first|assumption|exact lS (by assumption)|omega) ?_))));have hjN:=fc.lt (by assumption) h;(repeat (first|exact ah|assumption|refine am (by first|assumption|exact lS (by assumption)|omega) ?_))))(hq:tm.lookup q=some d:=by exact rfl)(hd:d.idsB N=true:=by (first|exact rfl|assumption|exact det_|exact bx.2 (fun k hk=>ck (by simp only[e8,uR,A8] at hk;omega)))):
  ∃tm',Wk x tm ⟨ul,lv,n2⟩ tm' ⟨pe,lv,N⟩∧xp tbl [.tmp q] tm' ⟨pe,lv,N⟩ d:=
 ⟨[(q,d)],wkS (by rw[h0];exact aC N) hN hok hv (pc.nil.cons hq hd),⟨d,ah,rfl⟩⟩
end
section
variable {md:Md} {ops:Array Oper} {K:List (Nat×D)→Hp→Prop} {os:List Oper} {tm:List (Nat×D)} {hp hp':Hp} {t s:Tmp} {op:Op} {ty:TypeId} {pos:String} {af:Array Edge} {d:D} {j k o n i:Nat} {want c:Bool} {F F2:List D} {F':List D→List D} {a b:Nu} {x y:Operand}
theorem gn(hw:c= !want)(h2:aQ prog tbl md ops K os ((t,.tu [])::tm) hp)(hj:(ops[j]?).bind (·.dst)=some s:=by exact rfl)(hc:tm.lookup s=some (.e (.lit (.bool c))):=by exact rfl):aQ prog tbl md ops K (⟨some t,op,ty,pos,af,some (j,want)⟩::os) tm hp:=LL hj hc hw h2
theorem l1(L:Pt F o (dC (aO.f a)) F')(h2:aQ prog tbl md ops K os ((t,dG aO a)::tm) hp)(hx:evD tm x=.pt k o:=by exact rfl)(hv:hp.vars.lookup k=some F:=by (repeat (first|exact ah|assumption|refine am (by first|assumption|exact lS (by assumption)|omega) ?_)))(hk:k<hp.next:=by (first|omega|(dsimp only;omega)))(hn:md.nc tbl (.load 34 x)=true:=by exact rfl):aQ prog tbl md ops K (⟨some t,.load 34 x,ty,pos,af,none⟩::os) tm hp:=s1 (ldN L hv hk hx) h2 hn
theorem t1 {vs:List (Nat×List D)}{lv:List (Nat×Nat×Nat×TypeId)}{N:Nat}(L:Pt F o (dC (aO.f a)) F')(h3:F' (dC (aO.f b))=F2)(h2:aQ prog tbl md ops K os tm ⟨(k,F2)::vs,lv,N⟩)(hx:evD tm x=.pt k o:=by exact rfl)(hv:vs.lookup k=some F:=by (repeat (first|exact ah|assumption|refine am (by first|assumption|exact lS (by assumption)|omega) ?_)))(hy:evD tm y=dG aO b:=by exact rfl)(hn:md.nc tbl (.store 34 x y)=true:=by exact rfl):aQ prog tbl md ops K (⟨none,.store 34 x y,ty,pos,af,none⟩::os) tm ⟨vs,lv,N⟩:=s0 (stN L hv h3 hx hy rfl) h2 hn
theorem l1g(L:Pt F o (dC (aO.f a)) F')(hw:c=want)(h2:aQ prog tbl md ops K os ((t,dG aO a)::tm) hp)(hx:evD tm x=.pt k o:=by exact rfl)(hv:hp.vars.lookup k=some F:=by (repeat (first|exact ah|assumption|refine am (by first|assumption|exact lS (by assumption)|omega) ?_)))(hk:k<hp.next:=by (first|omega|(dsimp only;omega)))(hj:(ops[j]?).bind (·.dst)=some s:=by exact rfl)(hc:tm.lookup s=some (.e (.lit (.bool c))):=by exact rfl)(hn:md.nc tbl (.load 34 x)=true:=by exact rfl):aQ prog tbl md ops K (⟨some t,.load 34 x,ty,pos,af,some (j,want)⟩::os) tm hp:=g1 hw (ldN L hv hk hx) h2 hj hc hn
theorem cqg {f:FuncId}{la:List Operand}{ts:Array TypeId}{ds:List D}{r:D}(hc:ar prog f ds r)(hw:c=want)(h2:aQ prog tbl md ops K os ((t,r)::tm) hp)(hj:(ops[j]?).bind (·.dst)=some s:=by exact rfl)(hg:tm.lookup s=some (.e (.lit (.bool c))):=by exact rfl)(hp1:((la.map (evD tm)).map D.ex).all D.pure=true:=by repeat (first|exact pn|refine pA (gW _ _) ?_|refine pA rfl ?_))(hl:leL ((la.map (evD tm)).map D.ex) ds:=by repeat (first|exact lAn|refine lC (rU _ _) ?_|refine lC (ao _) ?_))(hr:r.pure=true∨∃ds,r=.tu ds:=by (first|exact .inl (mr _ _)|exact .inl rfl|exact .inr ⟨_,rfl⟩)):
  aQ prog tbl md ops K (⟨some t,.call ⟨.value (.func f),la.toArray,ts⟩,ty,pos,af,some (j,want)⟩::os) tm hp:=sqg tok hj hg hw hc hp1 hl hr h2
theorem n1 {vs:List (Nat×List D)}{lv:List (Nat×Nat×Nat×TypeId)}{N:Nat}(h2:aQ prog tbl md ops K os ((t,.pt N 0)::tm) ⟨(N,dC zN)::vs,lv,N+1⟩)(hn:md.nc tbl (.alloc 34)=true:=by exact rfl):aQ prog tbl md ops K (⟨some t,.alloc 34,ty,pos,af,none⟩::os) tm ⟨vs,lv,N⟩:=s1 T_alN h2 hn
theorem z1 {vs:List (Nat×List D)}{lv:List (Nat×Nat×Nat×TypeId)}{N:Nat}(h2:aQ prog tbl md ops K os tm ⟨(k,(dC (aO.f b)))::vs,lv,N⟩)(hx:evD tm x=.pt k 0:=by exact rfl)(hv:vs.lookup k=some (dC zN):=by (repeat (first|exact ah|assumption|refine am (by first|assumption|exact lS (by assumption)|omega) ?_)))(hy:evD tm y=dG aO b:=by exact rfl)(hn:md.nc tbl (.store 34 x y)=true:=by exact rfl):aQ prog tbl md ops K (⟨none,.store 34 x y,ty,pos,af,none⟩::os) tm ⟨vs,lv,N⟩:=s0 (stZ hv hx hy rfl) h2 hn
theorem c1 {tt:TypeId}{ti:TyE}(L:Pt F o [d] F')(h2:aQ prog tbl md ops K os ((t,d)::tm) hp)(hx:evD tm x=.pt k o:=by exact rfl)(hv:hp.vars.lookup k=some F:=by (repeat (first|exact ah|assumption|refine am (by first|assumption|exact lS (by assumption)|omega) ?_)))(hk:k<hp.next:=by (first|omega|(dsimp only;omega)))(ht:tbl tt=some ti:=by exact tbI)(hg:ti.ty.agg=false:=by exact rfl)(hn:md.nc tbl (.load tt x)=true:=by exact rfl):aQ prog tbl md ops K (⟨some t,.load tt x,ty,pos,af,none⟩::os) tm hp:=s1 (UG L hv hk ht hg hx) h2 hn
theorem c1g {tt:TypeId}{ti:TyE}(L:Pt F o [d] F')(hw:c=want)(h2:aQ prog tbl md ops K os ((t,d)::tm) hp)(hx:evD tm x=.pt k o:=by exact rfl)(hv:hp.vars.lookup k=some F:=by (repeat (first|exact ah|assumption|refine am (by first|assumption|exact lS (by assumption)|omega) ?_)))(hk:k<hp.next:=by (first|omega|(dsimp only;omega)))(ht:tbl tt=some ti:=by exact tbI)(hg:ti.ty.agg=false:=by exact rfl)(hj:(ops[j]?).bind (·.dst)=some s:=by exact rfl)(hc:tm.lookup s=some (.e (.lit (.bool c))):=by exact rfl)(hn:md.nc tbl (.load tt x)=true:=by exact rfl):aQ prog tbl md ops K (⟨some t,.load tt x,ty,pos,af,some (j,want)⟩::os) tm hp:=g1 hw (UG L hv hk ht hg hx) h2 hj hc hn
theorem p1 {tt:TypeId}{ti:TyE}{bs:List D}(L:Pt F o bs F')(hz:bs.length=ti.size)(h2:aQ prog tbl md ops K os ((t,.ag bs)::tm) hp)(hx:evD tm x=.pt k o:=by exact rfl)(hv:hp.vars.lookup k=some F:=by (repeat (first|exact ah|assumption|refine am (by first|assumption|exact lS (by assumption)|omega) ?_)))(hk:k<hp.next:=by (first|omega|(dsimp only;omega)))(ht:tbl tt=some ti:=by exact tbI)(hg:ti.ty.agg=true:=by exact rfl)(hn:md.nc tbl (.load tt x)=true:=by exact rfl):aQ prog tbl md ops K (⟨some t,.load tt x,ty,pos,af,none⟩::os) tm hp:=s1 (UF L hv hk ht hz hg hx) h2 hn
theorem v1 {vs:List (Nat×List D)}{lv:List (Nat×Nat×Nat×TypeId)}{N:Nat}{tt:TypeId}{ti:TyE}{bs ys:List D}(L:Pt F o bs F')(hz:bs.length=ti.size)(hl:ys.length=bs.length)(h3:F' ys=F2)(h2:aQ prog tbl md ops K os tm ⟨(k,F2)::vs,lv,N⟩)(hx:evD tm x=.pt k o:=by exact rfl)(hv:vs.lookup k=some F:=by (repeat (first|exact ah|assumption|refine am (by first|assumption|exact lS (by assumption)|omega) ?_)))(hyc:(evD tm y).cells=some ys:=by exact rfl)(ht:tbl tt=some ti:=by exact tbI)(hn:md.nc tbl (.store tt x y)=true:=by exact rfl):aQ prog tbl md ops K (⟨none,.store tt x y,ty,pos,af,none⟩::os) tm ⟨vs,lv,N⟩:=s0 (O3 L hv hyc ht hz hl h3 hx rfl) h2 hn
theorem a1 {vs:List (Nat×List D)}{lv:List (Nat×Nat×Nat×TypeId)}{N:Nat}{tt:TypeId}{ti:TyE}{F:List E}(ht:tbl tt=some ti)(h2:aQ prog tbl md ops K os ((t,.pt N 0)::tm) ⟨(N,dC F)::vs,lv,N+1⟩)(hz:ti.zero.map E.lit=F:=by kernel_rfl)(hn:md.nc tbl (.alloc tt)=true:=by exact rfl):aQ prog tbl md ops K (⟨some t,.alloc tt,ty,pos,af,none⟩::os) tm ⟨vs,lv,N⟩:=s1 (s9 ht hz) h2 hn
end
end
def rv(x:Nu):Rat:=(cR x.1).getD 0
theorem gX {x:Nu}:aH x=true↔cR x.1=some (rv x):=by
 rw[fx];unfold rv
 cases cR x.1 <;> simp
theorem Ou {x:Nu}(h:aH x=true):x=nuR (some (rv x)):=Subtype.ext (TF (gX.1 h))
theorem To {x y:Nu}(hx:aH x=true)(hy:aH y=true)(h:rv x=rv y):x=y:=by
 rw[Ou hx,Ou hy,h]
theorem qa {o:Option Rat}(h:z8 o):cR (nuR o).1=o:=zg h
theorem JK {q:Rat}(h:n0 q):aH (nuR (some q))=true∧rv (nuR (some q))=q:=by
 have:cR (nuR (some q)).1=some q:=qa (o:=some q) fun p hp=>by injection hp with hp;rw[←hp];exact h
 rw[fx];unfold rv
 rw[this]
 exact⟨rfl,rfl⟩
theorem fit0:n0 0:=⟨by decide,by decide⟩
theorem fit1:n0 1:=⟨by decide,by decide⟩
theorem of0:aH (nOf 0)=true∧rv (nOf 0)=0:=JK (q:=((0:Int):Rat)) fit0
theorem of1:aH (nOf 1)=true∧rv (nOf 1)=1:=JK (q:=((1:Int):Rat)) fit1
theorem LO {x:Nu}(h:aH x=true):jo x=(rv x).num.sign:=by rw[zE,gX.1 h];rfl
theorem Ju {x:Nu}(h:aH x=true):jo x=0↔rv x=0:=by
 rw[LO h,M8]
 exact Rat.num_eq_zero
theorem Hg {x y:Nu}(hx:aH x=true)(hy:aH y=true)(h:aH (ES x y)=true):rv (ES x y)=rv x+rv y:=by
 have h1:=gX.1 h
 rw[xY] at h1 ⊢
 rw[qa (JG _ _),gX.1 hx,gX.1 hy] at h1
 have h2:LI (rv x) (rv y)=some (rv (nuR (JH (some (rv x)) (some (rv y))))):=h1
 rw[gX.1 hx,gX.1 hy]
 unfold LI at h2
 split at h2
 ·injection h2 with h2;exact h2.symm
 ·cases h2
theorem BP {x y:Nu}(hx:aH x=true)(hy:aH y=true)(h:aH (tD x y)=true):rv (tD x y)=rv x*rv y:=by
 have h1:=gX.1 h
 rw[xX] at h1 ⊢
 rw[qa (CA _ _)] at h1
 rw[gX.1 hx,gX.1 hy] at h1 ⊢
 have h2:G1 (rv x) (rv y)=some (rv (nuR (Bo (some (rv x)) (some (rv y))))):=h1
 unfold G1 at h2
 split at h2
 ·injection h2 with h2;exact h2.symm
 ·cases h2
theorem Kj {x y:Nu}(h:aH (ES x y)=true):aH x=true∧aH y=true:=by
 rw[fx,xY,qa (JG _ _)] at h
 rw[fx,fx]
 cases h1:cR x.1 <;> cases h2:cR y.1 <;> simp_all [JH]
theorem Dc {x y:Nu}(h:aH (tD x y)=true):aH x=true∧aH y=true:=by
 rw[fx,xX,qa (CA _ _)] at h
 rw[fx,fx]
 cases h1:cR x.1 <;> cases h2:cR y.1 <;> simp_all [Bo]
theorem zF {x:Nu}:aH (He x)=aH x:=by
 rw[fx,fx,xW,qa (Cz (Dg _))]
 cases cR x.1 <;> rfl
theorem N5 {x:Nu}:rv (He x)=-rv x:=by
 unfold rv
 rw[xW,qa (Cz (Dg _))]
 cases cR x.1
 ·simp[G7]
 ·rfl
theorem Tp {x y:Nu}(h:aH (wO x y)=true):aH x=true∧aH y=true∧rv y≠0∧rv (wO x y)=rv x / rv y:=by
 have h1:=gX.1 h
 rw[JR] at h1 ⊢
 rw[qa (RY _ _)] at h1
 have hx:aH x=true:=by
  rw[fx]
  cases h2:cR x.1 with
  |some _=>rfl
  |none=>rw[h2] at h1;cases h1
 have hy:aH y=true:=by
  rw[fx]
  cases h2:cR y.1 with
  |some _=>rfl
  |none=>rw[h2] at h1;unfold JF Bo PZ at h1;cases h3:cR x.1 <;> simp[h3] at h1
 rw[gX.1 hx,gX.1 hy] at h1 ⊢
 by_cases h0:rv y=0
 ·unfold JF Bo PZ at h1
  simp[h0] at h1
 ·have h2:G1 (rv x) (rv y)⁻¹=some (rv (nuR (JF (some (rv x)) (some (rv y))))):=by
   rw[←h1]
   unfold JF Bo PZ
   simp[h0]
  refine⟨hx,hy,h0,?_⟩
  unfold G1 at h2
  split at h2
  ·injection h2 with h2;rw[←h2,Rat.div_def]
  ·cases h2
def ff:Nat→(Nat→Rat)→Rat
 |0,_=>0
 |n+1,f=>ff n f+f n
theorem dy {f g:Nat→Rat}:∀{n:Nat},(∀t,t<n→f t=g t)→ff n f=ff n g
 |0,_=>rfl
 |n+1,h=>by unfold ff;rw[dy fun t ht=>h t (by omega),h n (by omega)]
theorem xK(f g:Nat→Rat):∀n,ff n (fun t=>f t+g t)=ff n f+ff n g
 |0=>by show (0:Rat)=0+0;grind
 |n+1=>by unfold ff;rw[xK f g n];grind
theorem uA(a:Rat)(f:Nat→Rat):∀n,ff n (fun t=>a*f t)=a*ff n f
 |0=>by simp[ff]
 |n+1=>by unfold ff;rw[uA a f n];grind
theorem ve:∀n,ff n (fun _=>0)=0
 |0=>rfl
 |n+1=>by unfold ff;rw[ve n];show (0:Rat)+0=0;grind
theorem sD(a:Nat)(x:Rat):∀n,a<n→ff n (fun t=>if t=a then x else 0)=x
 |0,h=>by omega
 |n+1,h=>by
  show ff n (fun t=>if t=a then x else 0)+(if n=a then x else 0)=x
  by_cases hn:n=a
  ·subst hn
   rw[an rfl,dy (g:=fun _=>0) fun t ht=>ifn_,ve]
   grind
  ·rw[az hn,sD a x n (by omega)];grind
theorem Jp(f g:Nat→Rat)(n:Nat):ff n (fun t=>f t - g t)=ff n f - ff n g:=by
 have:(fun t=>f t - g t)=fun t=>f t+(-1)*g t:=by funext t;grind
 rw[this,xK f (fun t=>(-1)*g t),uA];grind
section
section
variable {vs:List (Nat×List D)} {lv:List (Nat×Nat×Nat×TypeId)} {N kd R G w:Nat} {C:Nat→Nat}
theorem Pt.all {F:List D}:Pt F 0 F id:=Pt.of [] [] rfl (by simp) fun y=>by simp
end
end
def L0(p:Nu→Bool)(l:List Nu):Int:=match l.findIdx? p with
 |some i=>i
 |none=>-1
theorem SA {p:Nu→Bool}{l:List Nu}{i:Nat}(hi:i<l.length)(h:p l[i]! =true)(EZ:∀j,j<i→p l[j]! =false):L0 p l=i:=by
 have:l.findIdx? p=some i:=by
  rw[al_24]
  refine⟨hi,by rw[bK l i hi] at h;exact h,fun j hj=>?_⟩
  have:=EZ j hj
  rw[bK l j (by omega)] at this
  simp[this]
 unfold L0;rw[this]
theorem Qe {p:Nu→Bool}{l:List Nu}(EZ:∀j,j<l.length→p l[j]! =false):L0 p l=-1:=by
 have:l.findIdx? p=none:=by
  rw[List.findIdx?_eq_none_iff]
  intro x hx
  obtain⟨j,hj,rfl⟩:=MI.1 hx
  have:=EZ j hj
  rwa[bK l j hj] at this
 unfold L0;rw[this]
theorem Ri {f:FuncId}{p:Nu→Bool}(hf:∀x:Nu,ar prog f [dG aO x] (dB (p x))){l:List Nu}(hl:l.length≤1000000):ar prog 135 [.e (slE aO l),.e (.lit (.func (.func f) #[] #[]))] (dI .i64 (L0 p l)):=by
 refine bB (rs:=[.tmp 4]) (fun cx hx h0=>?_) func135
 refine ra hx ?_
 refine AW.seq (ra hx ?_)
 refine AW.block (AW.loopW (fun i:Nat=>[(0,.e (slE aO l)),(1,.e (.lit (.func (.func f) #[] #[]))),(7,dI .i64 (l.length:Nat)),(8,dI .i64 (i:Nat))]) (fun _=>⟨[],[],0⟩) (fun i=>i≤l.length∧∀j,j<i→p l[j]! =false) (fun i=>l.length - i) 0 ?_ ⟨il _,fun j h=>absurd h (uU _)⟩ ?_)
 ·exact wk h0 [] (wR rfl (wR rfl (wR rfl (wR rfl wTn)))) wVn wLn
 ·rintro i ⟨hi,EZ⟩
  refine ra hx ?_
  refine AW.seq (AW.condS rfl (fun hb=>?_) (fun hb=>?_))
  ·have Ol:i<l.length:=by have:=oc hb;omega
   refine AW.skip (AW.seq (AW.block (ra hx ?_)))
   refine rs hx fun K hK=>?_
   iterate 3 refine sa ?_
   have ui:0≤(i:Int)∧(i:Int)<((l.length:Nat):Int):=by omega
   refine sbr ?_
   refine s1 (d:=dG aO l[i]!) (rK (c:=aO) (l:=l) (n:=i) (o:=0) aR Ol (nH _ _ rfl)) ?_
   refine sc (hf _) ?_
   refine nl hK ?_
   refine AW.condS rfl (fun hb=>?_) (fun hb=>?_)
   ·refine ra hx ?_
    refine AW.ret ?_
    rw[SA Ol hb EZ]
    exact rv1
   ·refine AW.skip (rbr hx ?_)
    rw[nQ]
    refine⟨i+1,wk h0 [] (wR rfl (wR rfl (wR rfl (wR rfl wTn)))) wVn wLn,⟨Ol,fun j hj=>?_⟩,by omega⟩
    rcases bO j i with h1|h1
    ·exact EZ j h1
    ·obtain rfl:j=i:=by omega
     exact hb
  ·refine AW.exit ?_
   have Ol:i=l.length:=by have:=sY hb;omega
   refine ra hx ?_
   refine AW.ret ?_
   rw[Qe fun j hj=>EZ j (by omega)]
   exact rv1
section
section
variable {vs:List (Nat×List D)} {lv:List (Nat×Nat×Nat×TypeId)} {N kd R G w m nn:Nat} {C:Nat→Nat}
theorem lit_Nu(l:List Nu):(l.flatMap aO.f).all E.isLit=true:=by
 rw[bx]
 intro x hx
 obtain⟨a,_,ha⟩:=List.mem_flatMap.1 hx
 have h2:∀y,y∈au.f a.1.vN∨y∈au.f a.1.vD→y.isLit=true:=by
  have h3:∀z:ap,∀y∈au.f z,y.isLit=true:=fun z y hy=>by
   rcases jK.1 (show y∈[E.lit (.bool z.vBad),.lit (.bool z.vNeg)]++al_cV.f z.vW from hy) with h|h
   ·simp at h;rcases h with rfl|rfl <;> rfl
   ·obtain⟨n,_,hn⟩:=List.mem_flatMap.1 (show y∈z.vW.toList.flatMap (cI .u32).f from h)
    rw[qU.1 hn];rfl
  rintro y (h|h)
  ·exact h3 _ y h
  ·exact h3 _ y h
 exact h2 x (jK.1 (show x∈au.f a.1.vN++au.f a.1.vD from ha))
end
end
section
theorem HC.weak {P:Program}{f:FuncId}{ds:List D}{hp:Hp}{d:D}{vars vars':List (Nat×List D)}{lv QT:List (Nat×Nat×Nat×TypeId)}{n n':Nat}(hc:HC P f ds hp d ⟨vars,lv,n⟩)(h0:hp.next≤n')
  (h:fc hp→fc ⟨vars',QT,n'⟩∧(∀j ds,vars'.lookup j=some ds→vars.lookup j=some ds)∧(∀j y,QT.lookup j=some y→lv.lookup j=some y)∧d.idsB n'=true):HC P f ds hp d ⟨vars',QT,n'⟩:=by
 refine⟨hc.1,fun B g w vs hr hsz cJ=>(hc.2 B g w vs hr hsz cJ).mono ?_⟩
 obtain⟨hok,hv,hl,hd⟩:=h hr.ok
 rintro e w' ⟨v,g',rfl,om,hM,hrd,hb,hF⟩
 have cZ:∀id y,QT.lookup id=some y→lv.lookup id=some y:=hl
 refine⟨v,g',rfl,⟨fun k ds hk=>?_,fun k k' a b hk pf he=>om.inj k k' a b (hv k a hk) (hv k' b pf) he,fun id m e hi=>?_,fun id sr t t' b hi sM=>om.tinj id sr t t' b (cZ _ _ hi) (cZ _ _ sM),om.base,om.fits⟩,
  ⟨hM.size,hM.cell,hM.forb,h0,hM.μ,fun id hid m e Mi=>hM.live id hid m e (cZ id _ Mi),fun b hb hf=>⟨(hM.fr b hb hf).1,(hM.fr b hb hf).2.1,fun k ds hk=>(hM.fr b hb hf).2.2.1 k ds (hv k ds hk),fun id t hi=>(hM.fr b hb hf).2.2.2 id t (cZ id _ hi)⟩,hM.szs⟩,CW hrd hd rfl cZ,hb,hF⟩
 ·obtain⟨_,h3,h4,cs,ty,h5,h6,h7⟩:=om.var k ds (hv k ds hk)
  obtain⟨h1,h2⟩:=hok.var k ds hk
  exact⟨h1,h3,h4,cs,ty,h5,h6,fun j u hu=>⟨(h7 j u hu).1,fun d hd=>g8 ((h7 j u hu).2 d hd) (bx.1 h2 d (bL hd)) rfl cZ⟩⟩
 ·obtain⟨_,us,h2,h3,h4⟩:=om.tok id m e (cZ _ _ hi)
  exact⟨hok.tok id _ hi,us,h2,h3,fun b hb=>⟨(h4 b hb).1,fun k ds hk=>(h4 b hb).2 k ds (hv k ds hk)⟩⟩
theorem resV {q:Nat}{tt:TypeId}{ti:TyE}{k:Nat}{F:List D}{vs:List (Nat×List D)}{lv:List (Nat×Nat×Nat×TypeId)}{N:Nat}{tm:List (Nat×D)}{k2:D→Prop}(ht:tbl tt=some ti)(hl:tm.lookup q=some (.pt k 0))(hv:vs.lookup k=some F)(hk:k<N)(hz:F.length=ti.size)(hg:ti.ty.agg=true)(h:k2 (.ag F)):oK tbl tm ⟨vs,lv,N⟩ (.cell q tt) k2:=by
 refine⟨.pt k 0,hl,⟨_,ht⟩,?_⟩
 rw[nP,ht]
 simp only[hv,hg]
 refine⟨hk,by omega,?_⟩
 rw[pH,e9 (by omega)]
 exact h
theorem HC.forget {P:Program}{f:FuncId}{ds:List D}{d:D}{vs vars:List (Nat×List D)}{lv:List (Nat×Nat×Nat×TypeId)}{N n:Nat}(hc:HC P f ds ⟨vs,lv,N⟩ d ⟨vars,lv,n⟩)(hv:∀j ds,j<N→vs.lookup j=some ds→vars.lookup j=some ds)(hd:d.idsB N=true):HC P f ds ⟨vs,lv,N⟩ d ⟨vs,lv,N⟩:=
 hc.weak (aC N) fun hok=>⟨hok,fun j ds h=>hv j ds (hok.lt h) h,fun _ _ h=>h,hd⟩
section
variable {vs:List (Nat×List D)} {lv:List (Nat×Nat×Nat×TypeId)} {N w i ks s:Nat} {C:Nat→Nat}
theorem rtN1 {x:Cx}{tm:List (Nat×D)}{pe ul:List (Nat×List D)}{vs0:List (Nat×List D)}{lv0:List (Nat×Nat×Nat×TypeId)}{N0 M n2 q k:Nat}{a:Nu}(h0:x.hp0=⟨vs0,lv0,N0⟩)(hM:N0≤M)(hok:fc ⟨pe,lv,M⟩)(hN:M≤n2)(hv:∀j ds,pe.lookup j=some ds→ul.lookup j=some ds)(hk:pe.lookup k=some (dC (aO.f a)))(hq:tm.lookup q=some (.pt k 0)):
  ∃tm',Wk x tm ⟨ul,lv,n2⟩ tm' ⟨pe,lv,M⟩∧xp tbl [.cell q 34] tm' ⟨pe,lv,M⟩ (dG aO a):=
 ⟨[(q,.pt k 0)],wkS (by rw[h0];exact hM) hN hok hv (pc.nil.cons hq (ck (hok.lt hk))),resV aR ah hk (hok.lt hk) (qD a) rfl rfl⟩
end
end
section
section
variable {x:Cx} {tm tm':List (Nat×D)} {hp:Hp}
theorem Wk.perm {vars':List (Nat×List D)}{eJ:List (Nat×Nat×Nat×TypeId)}{m:Nat}(σ:Nat→Nat)(h0:x.hp0.next≤m)(bh:∀i,i<x.hp0.next→σ i=i)(hinj:∀i j,i<m→j<m→σ i=σ j→i=j)
  (ht:∀p∈tm',tm.lookup p.1=some (p.2.ren σ)∧p.2.idsB m=true∧p.2.noOs=true)
  (hv:∀k ds,vars'.lookup k=some ds→k<m∧hp.vars.lookup (σ k)=some (ds.map (D.renC σ))∧ds.all (D.idsC m)=true∧ds.all D.noO=true)
  (hl:∀k y,eJ.lookup k=some y→k<m∧hp.live.lookup (σ k)=some y):Wk x tm hp tm' ⟨vars',eJ,m⟩:=by
 intro a w ⟨g,hr,fh,hsz,pg,hB,hF,hM⟩
 have cZ:∀id y,(⟨vars',eJ,m⟩:Hp).live.lookup id=some y→hp.live.lookup (σ id)=some y:=fun id y h=>(hl _ _ h).2
 refine⟨⟨fun i=>g.μ (σ i),fun i=>g.τ (σ i),g.F⟩,⟨fun k ds hk=>?_,fun k k' ds ds' hk pf he=>?_,fun id n e hi=>?_,fun id sr t t' b hi sM hb pK=>?_,hr.base,hr.fits⟩,fun t d h=>?_,hsz,pg,hB,hF,
  ⟨hM.size,hM.cell,hM.forb,h0,fun k hk=>by show g.μ _=_;rw[bh k hk];exact hM.μ k hk,fun id hid n e Mi=>?_,fun b hb hf=>⟨(hM.fr b hb hf).1,(hM.fr b hb hf).2.1,fun k ds hk=>(hM.fr b hb hf).2.2.1 _ _ (hv _ _ hk).2.1,fun id t hi=>(hM.fr b hb hf).2.2.2 _ t (cZ id _ hi)⟩,hM.szs⟩⟩
 ·obtain⟨h1,h2,h3,h4⟩:=hv _ _ hk
  obtain⟨_,h5,h6,cs,ty,h7,h8,h9⟩:=hr.var _ _ h2
  refine⟨h1,h5,h6,cs,ty,h7,by simpa using h8,fun j u hu=>⟨fun h=>(h9 j u hu).1 (by simpa using h),fun d hd=>?_⟩⟩
  exact iE ((h9 j u hu).2 (d.renC _) (by rw[bE,hd];rfl)) (bx.1 h3 d (bL hd)) (bx.1 h4 d (bL hd)) rfl (fun _=>rfl) (fun _=>rfl) rfl cZ
 ·obtain⟨h1,h2,_⟩:=hv _ _ hk
  obtain⟨ni,lj,_⟩:=hv _ _ pf
  exact hinj _ _ h1 ni (hr.inj _ _ _ _ h2 lj he)
 ·obtain⟨h1,h2⟩:=hl _ _ hi
  obtain⟨_,us,h3,h4,h5⟩:=hr.tok _ n e h2
  exact⟨h1,us,h3,h4,fun b hb=>⟨(h5 b hb).1,fun k ds hk=>(h5 b hb).2 _ _ (hv _ _ hk).2.1⟩⟩
 ·obtain⟨h1,h2⟩:=hl _ _ hi
  obtain⟨ni,lj⟩:=hl _ _ sM
  exact hinj _ _ h1 ni (hr.tinj _ _ _ _ b h2 lj hb pK)
 ·obtain⟨h1,h2,h3⟩:=ht _ (aK h)
  exact BJ (fh t _ h1) h2 h3 rfl (fun _=>rfl) (fun _=>rfl) rfl cZ
 ·obtain⟨m0,h1,h2,h3⟩:=hM.live id hid n e (by rw[←bh id hid];exact cZ id _ Mi)
  exact⟨m0,h1,h2,fun h=>by show g.τ _=_;rw[bh id hid];exact h3 h⟩
theorem RG {σ:Nat→Nat}{n:Nat}(hσ:∀i,i<n→σ i=i){d:D}(hd:d.idsC n=true)(hn:d.noO=true):d.renC σ=d:=by
 cases d with
 |own id z n xs=>simp only[D.idsC,mu] at hd;simp only[D.renC,hσ id hd]
 |pt k o=>simp only[D.idsC,mu] at hd;simp only[D.renC,hσ k hd]
 |ow k o z n=>simp only[D.idsC,mu] at hd;simp only[D.renC,hσ k hd]
 |gw k z n=>simp only[D.idsC,mu] at hd;simp only[D.renC,hσ k hd]
 |fn f ks=>
  simp only[D.idsC,bx,mu] at hd
  simp only[D.renC]
  congr 1
  exact (sV fun k hk=>hσ k (hd k hk)).trans (Gc _)
 |opt b d=>cases hn
 |_=>rfl
theorem Ob {σ:Nat→Nat}{n:Nat}(hσ:∀i,i<n→σ i=i){ds:List D}(hd:ds.all (D.idsC n)=true)(hn:ds.all D.noO=true):ds.map (D.renC σ)=ds:=
 (sV fun d h=>RG hσ (bx.1 hd d h) (bx.1 hn d h)).trans (Gc _)
end
def TmR(σ:Nat→Nat)(m:Nat)(tm tm':List (Nat×D)):Prop:=∀p∈tm',tm.lookup p.1=some (p.2.ren σ)∧p.2.idsB m=true∧p.2.noOs=true
theorem TmR.nil {σ:Nat→Nat}{m:Nat}{tm:List (Nat×D)}:TmR σ m tm []:=fun p hp=>absurd hp (uR)
theorem TmR.cons {σ:Nat→Nat}{m t:Nat}{d:D}{tm tm':List (Nat×D)}(h2:TmR σ m tm tm')(h:tm.lookup t=some (d.ren σ))(hi:d.idsB m=true)(hn:d.noOs=true:=by exact rfl):TmR σ m tm ((t,d)::tm'):=fun p hp=>by
 rcases e8.1 hp with rfl|hp
 ·exact⟨h,hi,hn⟩
 ·exact h2 p hp
end
section
theorem AR.tu {hp:Hp}{ds es:List D}(h:ARs hp ds es):AR hp (.tu ds) (.tu es):=by
 intro B g w v hr hd
 obtain⟨h1,h2⟩:=h.get
 cases hd with
 |tu _ cs hl IV=>
  refine aF.tu es cs (by omega) fun j e u hj hu=>?_
  obtain⟨d,h3,h4⟩:=h2 j e hj
  exact h4 B g w u hr (IV j d u h3 hu)
def mkNu(x:ak)(h:okR x):Nu:=⟨x,h⟩
open Classical in
def uG(x:ak):Nu:=if h:okR x then mkNu x h else default
theorem Hb {x:ak}(h:okR x):nv (uG x)=x:=by unfold uG;rw[dif_pos h];rfl
theorem nuOf_nv(x:Nu):uG (nv x)=x:=by unfold uG;rw[dif_pos (show okR (nv x) from x.2)];rfl
def okL(l:List ak):Prop:=∀x∈l,okR x
theorem JU {l:List ak}(h:okL l):(l.map uG).map nv=l:=by
 rw[kP]
 exact (sV fun x hx=>Hb (h x hx)).trans (Gc _)
theorem okL_nv(l:List Nu):okL (l.map nv):=fun x hx=>by
 obtain⟨a,_,rfl⟩:=nz.1 hx
 exact a.2
theorem map_nv(l:List Nu):(l.map nv).map uG=l:=by
 rw[kP]
 exact (sV fun x _=>nuOf_nv x).trans (Gc _)
theorem AR.dn {hp:Hp}{e:E}(h:(D.e e).pure=true):AR hp (.e e) (.e e):=AR.data (d:=.e e) h
end
theorem oz:El prog 22 34 (.agg #[.bool false,.bool false,ae,ae,ae,ae,ae,ae,ae,ae,ae,ae,ae,ae,ae,ae,ae,ae,.bool false,.bool false,ae,ae,ae,ae,ae,ae,ae,ae,ae,ae,ae,ae,ae,ae,ae,ae]) 36 136:=⟨underlying22,info_parts (by kernel_rfl),rfl,by decide⟩
theorem oq(n:Nat)(us:List Value)(v:Value)(w:World)(hl:Sl w v 36 n us)(h1:∀u∈us,u.oneCell'=true)(hn:n≤1000000):
  Calls prog 97 #[v] w fun e w'=>∃q,e=.returned q∧w'.ownsRow w.heap.size 34 36 q n us∧Below w.heap.size w w':=by
 obtain⟨A,c,rfl,oo,nR,hr⟩:=id hl
 cases A with
 |none=>
  obtain rfl:n=0:=by
   rcases rY n with h|h
   ·exact h
   ·obtain⟨_,h,_⟩:=hr.2 h;cases h
  obtain rfl:us=[]:=jR (by simpa using hr.1)
  have he:(binOp .eql 22 (.slice none 0 c) (.slice none 0 0)).run prog w=.ok (.bool true) w:=by kernel_rfl
  go_enter func97,ntmps97
  go_wp2_with fail
  go_ret
  exact⟨_,rfl,⟨rfl,.inl ⟨rfl,rfl⟩⟩,Below.refl _ _⟩
 |some ad=>
  have he:(binOp .eql 22 (.slice (some ad) n c) (.slice none 0 0)).run prog w=.ok (.bool false) w:=by kernel_rfl
  go_enter func97,ntmps97
  have hown0:=own_mtG w 34 w.heap.size 36 (aC _)
  have Ki:=(Below.refl w.heap.size w).alloc (aC _) (.cells #[] 34)
  have oQ:=hl.below Ki
  have HL:=Lib.hid oQ
  have H1:=Lib.hid h1
  clear hl hr oQ h1
  go_wp2_with (at_builtin;refine xB _ rfl _ _ _ rfl oz w.heap.size _ _ _ rfl hown0 _ _ _ rfl HL.out H1.out (by omega) (by omega) (by simp) w w.heap.size Ki (aC _) ?_)
  intro v' w' kN hb
  go_wp2_with fail
  go_ret
  refine⟨_,rfl,?_,hb⟩
  simpa using kN
theorem dx(n:Nat)(xs:List E)(hn:n≤1000000):ar prog 97 [.e (.sl 36 n xs)] (.own 34 36 n xs):=
 T1 (by decide) ⟨_,func97,rfl,rfl⟩ (fun us v w h1 h2=>oq n us v w h1 h2 hn)
def fC(l:List ak):Option (List ak):=gd (l.length≤1000000) (some l)
theorem oH {l r:List ak}(h:fC l=some r):ar prog 97 [dL aj l] (.own 34 aj.sz r.length (r.flatMap aj.f)):=by
 obtain⟨hn,h⟩:=ax h
 obtain rfl:=bZ h
 exact dx _ _ hn
section
def FWd(ro:Option Nat):Fence:={Fence.wide with round:=ro}
section
variable {P:Program} {ro:Option Nat} {n:Nat}
theorem A5 {f:FuncId}{args:Array Value}{w:World}{R:Ending→World→Prop}(h:Calls P f args w R):CallsIn (FWd ro) n P f args w R:=(callsIn_wide (n:=n)).2 h
theorem LE {row:String}{args:Array Value}{w:World}{R:Value→World→Prop}(h:Rows P row args w R):RowsIn (FWd ro) n P row args w R:=fun c cs _=>by
 obtain⟨v,w',hr,hs⟩:=h c cs
 exact⟨v,w',hr,stepsIn_wide.2 hs⟩
theorem upon_in {o:Oper}{a:Act}{K:Act→World→Prop}{Q:Exit→Act→World→Prop}{r:Result Next}(h:o.upon P a K Q r):o.uponIn (FWd ro) n P a K Q r:=by
 cases r with
 |ok nx w'=>
  cases nx with
  |enter f args=>
   rw[Oper.upon_enter] at h
   rw[Oper.uponIn_enter]
   refine⟨fun hd=>(by cases hd),(A5 h).mono ?_⟩
   intro e w'' hh
   cases e <;> exact hh
  |row r args=>
   rw[Oper.uponIn_row]
   exact⟨fun hd=>(by cases hd),LE h⟩
  |value v=>exact h
  |skip=>exact h
  |«defer» d=>exact h
  |_=>exact h.elim
 |halt hx w'=>
  cases hx with
  |panic v=>exact h
  |_=>exact h.elim
def tC(ops:Array Oper):Bool:=ops.all fun o=>match o.op with
 | .defer _=>false
 |_=>true
theorem xU {ops:Array Oper}(h:tC ops=true){i:Nat}{o:Oper}(hi:ops[i]? =some o):∀c,o.op≠.defer c:=by
 unfold tC at h
 rw[Uo] at h
 have:=h o (Array.mem_of_getElem? hi)
 intro c hc
 rw[hc] at this
 cases this
theorem op_in {o:Oper}{a:Act}{w:World}{K:Act→World→Prop}{Q:Exit→Act→World→Prop}(hd:∀c,o.op≠.defer c)(h:o.wp P a w K Q):o.wpIn (FWd ro) n P a w K Q:=by
 refine⟨fun _ _=>trivial,?_⟩
 rw[Oper.semAt_eq _ _ _ hd]
 exact upon_in h
end
section
variable {P:Program} {tb:TypeId→Option TyE} {x:Cx} {tm tm':List (Nat×D)} {hp hp':Hp} {a:Act} {w w':World} {ro:Option Nat} {n:Nat}
theorem B2 {ops:Array Oper}{K:List (Nat×D)→Hp→Prop}{Q:Exit→Act→World→Prop}(hN:gr x.N ops=true)(tf:tC ops=true)(tl:List Nat)(r2:List Oper)
  (hk:∀tm hp a w,K tm hp→RS x tm hp a w→wpOpsIn (FWd ro) n P ops Q tl a w)
  (rest:List Oper) (i:Nat) (tm:List (Nat×D)) (hp:Hp) (a:Act) (w:World) (hd:ops.toList.drop i=rest++r2) (h:aQ P tb .seq ops K rest tm hp) (hr:RS x tm hp a w):wpOpsIn (FWd ro) n P ops Q (List.range' i rest.length++tl) a w:=by
 have step:∀{o:Oper} {os:List Oper} {i:Nat},ops.toList.drop i=o::os→ops[i]? =some o∧ops.toList.drop (i+1)=os:=by
  intro o os i hd
  refine⟨?_,by rw[←j7,hd];rfl⟩
  have:(ops.toList.drop i)[0]? =some o:=by rw[hd];rfl
  rw[nt] at this
  simpa using this
 induction h generalizing i a w with
 |nil h=>exact hk _ _ _ _ h hr
 |on d hp' hg h2 h1 ih=>
  obtain⟨ho,AY⟩:=step hd
  have wU:=fun t ht=>j4 hN ho (t:=t) ht
  simp only[lc,tP,yI]
  unfold wpOpsIn
  rw[ho]
  dsimp only
  obtain⟨g,_,fh,_⟩:=id hr
  rw[hg.wanted fh,an rfl]
  exact op_in (xU tf ho) (hr.op h2.ok wU fun a' w' om=>ih (i+1) a' w' AY om)
 |off d hg hs h1 ih=>
  obtain⟨ho,AY⟩:=step hd
  have wU:=fun t ht=>j4 hN ho (t:=t) ht
  simp only[lc,tP,yI]
  unfold wpOpsIn
  rw[ho]
  dsimp only
  obtain⟨g,_,fh,_⟩:=id hr
  rw[hg.wanted fh,az (by simp)]
  exact⟨fun _ _=>trivial,ih (i+1) _ _ AY (hr.skip hs wU)⟩
 |sq _ d hp' hg h2 h1 ih=>
  obtain⟨ho,AY⟩:=step hd
  have wU:=fun t ht=>j4 hN ho (t:=t) ht
  simp only[lc,tP,yI]
  unfold wpOpsIn
  rw[ho]
  dsimp only
  obtain⟨g,_,fh,_⟩:=id hr
  rw[hg.wanted fh,an rfl]
  exact op_in (xU tf ho) (hr.op h2 wU fun a' w' om=>ih (i+1) a' w' AY om)
 |wk _ hw h ih=>exact ih i a w hd (hw.rs hr)
def AV(P:Program)(ro:Option Nat)(x:Cx)(c:Code)(tm:List (Nat×D))(hp:Hp)(Q:Exit→Act→World→Prop):Prop:=∀a w,RS x tm hp a w→c.wpIn (FWd ro) 0 P Q a w
variable {Q:Exit→Act→World→Prop}
theorem AV.mono {c:Code}{Q':Exit→Act→World→Prop}(h:AV P ro x c tm hp Q)(hq:∀ex a w,Q ex a w→Q' ex a w):AV P ro x c tm hp Q':=fun a w hr=>wpIn_mono (h a w hr) hq
theorem B3 {c:Code}:c.wpIn (FWd none) n P Q a w↔c.wp P Q a w:=wpIn_wide (n:=n)
theorem AV.aw {c:Code}{Q':Exit→List (Nat×D)→Hp→Prop}(h:AW P x c tm hp Q')(hq:∀ex tm' hp' a w,Q' ex tm' hp'→RS x tm' hp' a w→Q ex a w):AV P none x c tm hp Q:=
 fun a w hr=>B3.2 (wp_mono (h a w hr) fun ex a' w' ⟨tm',hp',h1,h2⟩=>hq ex tm' hp' a' w' h2 h1)
theorem AV.seq {c c':Code}(h:AV P ro x c tm hp (Exit.then (fun a w=>c'.wpIn (FWd ro) 0 P Q a w) Q)):AV P ro x (.seq c c') tm hp Q:=fun a w hr=>wpIn_seq (h a w hr)
theorem AV.seqA {c c':Code}(h:AW P x c tm hp fun ex tm' hp'=>match ex with| .normal=>AV P none x c' tm' hp' Q|ex=>∀a w,RS x tm' hp' a w→Q ex a w):AV P none x (.seq c c') tm hp Q:=by
 refine AV.seq (AV.aw h ?_)
 intro ex tm' hp' a w h1 hr
 cases ex with
 |normal=>exact h1 a w hr
 |_=>exact h1 a w hr
theorem AV.block {id:Nat}{c:Code}(h:AV P ro x c tm hp (Exit.inBlock id Q)):AV P ro x (.block id c) tm hp Q:=fun a w hr=>wpIn_block (h a w hr)
theorem AV.ret(h:∀a w,RS x tm hp a w→Q .ret a w):AV P ro x .ret tm hp Q:=fun a w hr=>wpIn_ret (h a w hr)
theorem AV.skip(h:∀a w,RS x tm hp a w→Q .normal a w):AV P ro x .skip tm hp Q:=fun a w hr=>wpIn_skip (h a w hr)
theorem AV.weak {c:Code}(hw:Wk x tm hp tm' hp')(h:AV P ro x c tm' hp' Q):AV P ro x c tm hp Q:=fun a w hr=>h a w (hw a w hr)
theorem AV.cond {c:Operand}{c1 c2:Code}{b:Bool}(hc:evD tm c=.e (.lit (.bool b)))(ht:b=true→AV P ro x c1 tm hp Q)(hf:b=false→AV P ro x c2 tm hp Q):AV P ro x (.cond c c1 c2) tm hp Q:=by
 intro a w hr
 obtain⟨g,_,fh,_⟩:=id hr
 have hv:=rC fh c
 rw[hc] at hv
 refine wpIn_cond (t:=b) hv.lit ?_
 cases b
 ·exact hf rfl a w hr
 ·exact ht rfl a w hr
theorem AV.region {id:Nat}{ops:Array Oper}(hN:gr x.N ops=true)(tf:tC ops=true)(h:∀K:List (Nat×D)→Hp→Prop,(∀tm hp,(∀a w,RS x tm hp a w→Q .normal a w)→K tm hp)→aQ P tb .seq ops K ops.toList tm hp):AV P ro x (.region id ops false) tm hp Q:=by
 intro a w hr
 refine wpIn_region ?_
 have:=B2 (ro:=ro) (n:=0) (Q:=Q) hN tf [] [] (fun tm hp a w hk hr=>by unfold wpOpsIn;exact hk a w hr) ops.toList 0 tm hp a w (by simp) (h _ fun _ _ h=>h) hr
 rwa[pY,dY,←Ao] at this
theorem AV.loop {c:Code}(I:Nat→List (Nat×D)→Hp→Prop){n:Nat}{tm0:List (Nat×D)}{hp0:Hp}(hw:Wk x tm hp tm0 hp0)(h0:I n tm0 hp0)
  (round:∀n tm hp,I n tm hp→AV P none x c tm hp (Exit.then (fun a w=>∃m AH bk,m<n∧RS x AH bk a w∧I m AH bk) Q)):AV P none x (.loop c) tm hp Q:=by
 intro a w hr
 refine B3.2 (pd (fun n a w=>∃tm hp,RS x tm hp a w∧I n tm hp) (n:=n) ⟨tm0,hp0,hw a w hr,h0⟩ (fun n a w ⟨tm,hp,hr,hI⟩=>wp_mono (B3.1 (round n tm hp hI a w hr)) ?_))
 intro ex a' w' h1
 cases ex with
 |normal=>
  obtain⟨m,AH,bk,h2,h3,h4⟩:=h1
  exact⟨m,h2,AH,bk,h3,h4⟩
 |_=>exact h1
theorem Jx {tc:Option Tmp}{ty ta:Tmp}{ts:Array TypeId}{tyid:TypeId}{pos:String}{af:Array Edge}{l:Nat}{gd:Option (Nat×Bool)}(hy:a.eval (.tmp ty)=.func (.yield l) #[] #[]){fn:FuncId}{tmps:Array Value}{assign body:Code}(hr:(Instr.yield l #[a.eval (.tmp ta)]).run P w=.ok (.round l fn tmps assign body) w):
  (execOp a.eval ⟨tc,.call ⟨.value (.tmp ty),#[.tmp ta],ts⟩,tyid,pos,af,gd⟩).run P w=.ok (.round l fn tmps assign body) w:=by
 have AS:a.tmps[ty]?.getD undef=.func (.yield l) #[] #[]:=by simpa[Act.eval,e7] using hy
 have HE:(Instr.yield l #[a.tmps[ta]?.getD undef]).run P w=.ok (.round l fn tmps assign body) w:=by simpa[Act.eval,e7] using hr
 simp[execOp,resolve,invoke,AS,HE,go_sem]
end
end
section
section
variable {B:Nat} {hp hp' hp1 bk:Hp} {g g' g1 g2:Gh} {w w' w1 w2:World} {l:Nat} {o o':Obj}
theorem sR(hl:w.heap[l]? =some o)(ho:o.isCells=false)(mM:o'.isCells=false)(p:Addr):(w.putObj l o').cell? p=w.cell? p:=by
 by_cases hp:p.block=l
 ·unfold World.cell?
  rw[hp,hl,World.putObj_heap_same (dW.1 hl).1]
  cases o <;> cases o' <;> first|rfl|(cases mM;done)|(cases ho;done)
 ·exact World.cell?_of_block (World.putObj_heap_other hp)
theorem sK(hl:w.heap[l]? =some o)(ho:o.isCells=false){b:Nat}{cs:Array Value}{ty:TypeId}{r:Nat×Nat}(hb:w.heap[b]? =some (.cells cs ty r)):b≠l:=by
 rintro rfl
 rw[hl] at hb
 injection hb with hb
 subst hb
 cases ho
theorem cG.putO {F:Addr→Prop}{x:E}{v:Value}(h:cG w F x v)(hl:w.heap[l]? =some o)(ho:o.isCells=false)(mM:o'.isCells=false):cG (w.putObj l o') F x v:=
 h.mono (by simp) (fun p _ _=>sR hl ho mM p) fun _ _ h=>h
theorem aF.putO {d:D}{v:Value}(h:aF hp g w d v)(hl:w.heap[l]? =some o)(ho:o.isCells=false)(mM:o'.isCells=false):aF hp g (w.putObj l o') d v:=by
 induction h with
 |e x v h=>exact .e x v (h.putO hl ho mM)
 |own id z n xs v h hid ht=>exact .own id z n xs v (h.putO hl ho mM) hid ht
 |fu z n xs A h=>exact .fu z n xs A (h.putO hl ho mM)
 |ag ds cs hl h1 _ ih=>exact .ag ds cs hl h1 ih
 |tu ds cs hl _ ih=>exact .tu ds cs hl ih
 |fp xs off ad hb hc=>
  refine .fp xs off ad (by simpa using hb) (fun j x hx=>?_)
  obtain⟨u,h1,h2,h3⟩:=hc j x hx
  exact⟨u,(sR hl ho mM _).trans h1,h2,h3.putO hl ho mM⟩
 |pt k off hk=>exact .pt k off hk
 |ow k off z n c hk h1 h2=>exact .ow k off z n c hk h1 h2
 |gw k z n c hk h1 h2 hs=>
  obtain⟨cs,ty,r,h3,h4⟩:=hs
  exact .gw k z n c hk h1 h2 ⟨cs,ty,r,(World.putObj_heap_other (sK hl ho h3)).trans h3,h4⟩
 |fn f ks hk=>exact .fn f ks hk
 |opt b d v hi _ ih=>exact .opt b d v hi ih
 |top v=>exact .top v
theorem HR.putO(h:HR B hp g w)(hl:w.heap[l]? =some o)(ho:o.isCells=false)(mM:o'.isCells=false):HR B hp g (w.putObj l o'):=by
 refine⟨fun k ds hk=>?_,h.inj,fun id n e hi=>?_,h.tinj,by simpa using h.base,fun p hf=>by simpa using h.fits p hf⟩
 ·obtain⟨h1,h2,h3,cs,ty,h4,h5,h6⟩:=h.var k ds hk
  exact⟨h1,h2,h3,cs,ty,(World.putObj_heap_other (sK hl ho h4)).trans h4,h5,fun j u hu=>⟨(h6 j u hu).1,fun d hd=>((h6 j u hu).2 d hd).putO hl ho mM⟩⟩
 ·obtain⟨h1,us,hz,h2,h3⟩:=h.tok id n e hi
  refine⟨h1,us,hz,⟨h2.1,?_⟩,h3⟩
  rcases h2.2 with h0|⟨b,cap,cur,hv,hB,hh,r⟩
  ·exact .inl h0
  ·exact .inr ⟨b,cap,cur,hv,hB,(World.putObj_heap_other (sK hl ho hh)).trans hh,r⟩
theorem HR.free(h:HR B hp g w)(hl:w.heap[l]? =some o)(ho:o.isCells=false):Ns hp g l:=by
 refine⟨fun k ds hk=>?_,fun id t hi he=>?_⟩
 ·obtain⟨_,_,_,cs,ty,h4,_⟩:=h.var k ds hk
  exact sK hl ho h4
 ·obtain⟨h1,us,hz,h2,h3⟩:=h.tok id t.1 t.2 hi
  rcases h2.2 with⟨h0,_⟩|⟨b,cap,cur,hv,hB,hh,r⟩
  ·rw[h0] at he;cases he
  ·rw[hv] at he
   have:b=l:=by injection he
   exact sK hl ho hh this
theorem bu.patch {o1:Obj}(m:bu hp1 g1 (w1.putObj l o1) bk g2 w2)(hl:w1.heap[l]? =some o)(ho:o.isCells=false)(ho1:o1.isCells=false)(hf:Ns hp1 g1 l):bu hp1 g1 w1 bk g2 (w2.putObj l o):=by
 have bh:l<w1.heap.size:=(dW.1 hl).1
 have hs1:(w1.putObj l o1).heap.size=w1.heap.size:=by simp
 obtain⟨h2,h3,h4⟩:=m.fr l (by rw[hs1];exact bh) hf
 have h2:w2.heap[l]? =some o1:=h2.trans (World.putObj_heap_same bh)
 have hlt2:l<w2.heap.size:=(dW.1 h2).1
 refine⟨by have:=m.size;rw[hs1] at this;simpa using this,fun p hp hF=>?_,fun p hp hF=>m.forb p (by rw[hs1];exact hp) hF,m.next,m.μ,m.live,fun b hb hfb=>?_,fun b cs ty r hc=>?_⟩
 ·rw[sR h2 ho1 ho,m.cell p (by rw[hs1];exact hp) hF,sR hl ho ho1]
 ·obtain⟨h5,h6,h7⟩:=m.fr b (by rw[hs1];exact hb) hfb
  refine⟨?_,h6,h7⟩
  by_cases e:b=l
  ·subst e;rw[World.putObj_heap_same hlt2,hl]
  ·rw[World.putObj_heap_other e,h5,World.putObj_heap_other e]
 ·have e:b≠l:=sK hl ho hc
  obtain⟨uj,h5,h6⟩:=m.szs b cs ty r ((World.putObj_heap_other e).trans hc)
  exact⟨uj,(World.putObj_heap_other e).trans h5,h6⟩
theorem bu.putNew(m:bu hp g w hp' g' w')(hn:w.heap.size≤l)(hl:w'.heap[l]? =some o)(ho:o.isCells=false)(mM:o'.isCells=false):bu hp g w hp' g' (w'.putObj l o'):=by
 refine⟨by simpa using m.size,fun p hp hF=>by rw[sR hl ho mM];exact m.cell p hp hF,m.forb,m.next,m.μ,m.live,fun b hb hfb=>?_,fun b cs ty r hc=>?_⟩
 ·obtain⟨h5,h6,h7⟩:=m.fr b hb hfb
  exact⟨(World.putObj_heap_other (by omega)).trans h5,h6,h7⟩
 ·obtain⟨uj,h5,h6⟩:=m.szs b cs ty r hc
  have:b<w.heap.size:=(dW.1 hc).1
  exact⟨uj,(World.putObj_heap_other (by omega)).trans h5,h6⟩
theorem qR {w0:World}(h:Below B w0 w)(hl:B≤l):Below B w0 (w.putObj l o'):=
 ⟨h.os,h.tape,h.output,by simpa using h.size,fun k hk=>(World.putObj_heap_other (by omega)).trans (h.block k hk)⟩
end
structure xv(B:Nat)(hp:Hp)(g:Gh)(w:World)(hp':Hp)(g':Gh)(w':World):Prop where
 hr:HR B hp' g' w'
 mo:bu hp g w hp' g' w'
 bl:Below B w w'
 fo:∀p:Addr,p.block<B→g.F p→g'.F p
theorem xv.trans {B:Nat}{hp hp' bk:Hp}{g g' g2:Gh}{w w' w2:World}(h:xv B hp g w hp' g' w')(h':xv B hp' g' w' bk g2 w2):xv B hp g w bk g2 w2:=
 ⟨h'.hr,h.mo.trans h'.mo,h.bl.trans h'.bl,fun p hp hq=>h'.fo p hp (h.fo p hp hq)⟩
def Ga(r:Loop):Loop:={r with state:=.busy}
def qE(r:Loop):Loop:={r with state:=.done,pending:=some .ret}
def YOk(P:Program)(B l:Nat)(rec:Loop)(hpE:Hp)(gE:Gh)(wE:World)(hp:Hp)(d:D)(Y S:Hp→Prop):Prop:=
 ∀g W v,xv B hpE gE wE hp g W→aF hp g W d v→YieldAt Fence.wide 0 P l #[v] W fun e w'=>
  (e=.returned (.bool true)∧∃hp' g',xv B hp g W hp' g' w'∧Y hp')∨
  (e=.returned (.bool false)∧∃hp' g' W',w'=W'.putObj l (.loop (qE rec))∧W'.heap[l]? =some (.loop rec)∧xv B hp g W hp' g' W'∧S hp')
section
variable {P:Program} {tb:TypeId→Option TyE} {B l:Nat} {rec:Loop} {hpE hp:Hp} {gE:Gh} {wE:World} {d:D} {tm0:List (Nat×D)} {Y S:Hp→Prop}
theorem YOk.of {p:Tmp}(hlE:wE.heap[l]? =some (.loop rec))(hrE:HR B hpE gE wE)(zY:rec.state=.ready)(hpe:rec.pending=none)(hpar:rec.params=#[p])(hB:B≤l)(hp0:p<rec.tmps.size)
  (fh:∀t d,tm0.lookup t=some d→aF hpE gE wE d (rec.tmps.getD t undef))
  (has:∀x:Cx,x.N=rec.tmps.size→x.df=[]→x.hp0=hp→AV P (some l) x rec.assign ((p,d)::tm0) hp fun ex a w=>ex=.normal∧∃EM hp1,RS x EM hp1 a w∧
   ∀x:Cx,x.N=rec.tmps.size→x.df=[]→x.hp0=hp1→AV P (some l) x rec.body EM hp1 fun ex a w=>∃tm hp',RS x tm hp' a w∧match ex with| .normal=>Y hp'| .ret=>S hp'|_=>False):
  YOk P B l rec hpE gE wE hp d Y S:=by
 intro g W v hc hv
 have hfE:=hrE.free hlE rfl
 obtain⟨hl0,_,hf0⟩:=hc.mo.fr l (dW.1 hlE).1 hfE
 have hl:W.heap[l]? =some (.loop rec):=hl0.trans hlE
 refine⟨_,_,_,_,run_yield hl (by rw[hpar];rfl),roundIn_of_wpIn trivial ?_⟩
 rw[hpar]
 have C0:RS ⟨B,W,g.F,rec.tmps.size,hp,g,[]⟩ ((p,d)::tm0) hp {tmps:=((#[p]:Array Tmp).zip #[v]).foldl (fun tmps (t,a)=>tmps.setIfInBounds t a) rec.tmps,defers:=[]} W:=by
  refine⟨g,hc.hr,fun t d' ht=>?_,by simp,rfl,Below.refl _ _,fun _ _ h=>h,bu.refl _ _ _⟩
  have hz:(#[p]:Array Tmp).zip #[v]=#[(p,v)]:=by apply Array.ext';simp
  rw[hz]
  simp only[List.foldl_toArray',Ik,List.foldl_nil,my,lc,Ij,cj]
  by_cases e:t=p
  ·subst e
   have:some d=some d':=by rw[←ht];exact ah.symm
   injection this with this
   subst this
   simpa[e7,hp0] using hv
  ·have h0:=fh t d' (by rw[←ht];exact (al e).symm)
   have:=h0.mono hc.mo
   simpa[e7,DT (fun h:p=t=>e h.symm)] using this
 refine wpIn_mono (has ⟨B,W,g.F,rec.tmps.size,hp,g,[]⟩ rfl rfl rfl _ _ C0) ?_
 rintro ex a1 w1 ⟨rfl,EM,hp1,⟨g1,Me,htm1,hsz1,hdf1,hB1,IX,hM1⟩,hbo⟩
 obtain⟨hl1',_,Kd⟩:=hM1.fr l (dW.1 hl).1 hf0
 have Bv:w1.heap[l]? =some (.loop rec):=hl1'.trans hl
 have hlt1:=(dW.1 Bv).1
 refine⟨_,run_beginRound Bv zY,?_⟩
 have hmid:RS ⟨B,w1.putObj l (.loop (Ga rec)),g.F,rec.tmps.size,hp1,g1,[]⟩ EM hp1 a1 (w1.putObj l (.loop (Ga rec))):=
  ⟨g1,Me.putO Bv rfl rfl,fun t d ht=>(htm1 t d ht).putO Bv rfl rfl,hsz1,hdf1,Below.refl _ _,IX,bu.refl _ _ _⟩
 refine wpIn_mono (hbo ⟨B,w1.putObj l (.loop (Ga rec)),g.F,rec.tmps.size,hp1,g1,[]⟩ rfl rfl rfl _ _ hmid) ?_
 rintro ex a2 w2 ⟨tm,bk,⟨g2,HE,_,_,_,hB2,hF2,hM2⟩,hq⟩
 obtain⟨hl2',_,S8⟩:=hM2.fr l (by simpa using hlt1) Kd
 have oQ:w2.heap[l]? =some (.loop (Ga rec)):=hl2'.trans (World.putObj_heap_same hlt1)
 have hlt2:=(dW.1 oQ).1
 have hbl:Below B w1 w2:=⟨hB2.os,hB2.tape,hB2.output,by simpa using hB2.size,fun k hk=>(hB2.block k hk).trans (World.putObj_heap_other (by omega))⟩
 have wq:xv B hp g W bk g2 (w2.putObj l (.loop rec)):=⟨HE.putO oQ rfl rfl,hM1.trans (hM2.patch Bv rfl rfl Kd),qR (hB1.trans hbl) hB,hF2⟩
 cases ex with
 |normal=>
  refine⟨_,_,run_endRound none oQ,.inl ⟨rfl,bk,g2,?_,hq⟩⟩
  have:({(Ga rec) with state:=if (none:Option Code).isNone then .ready else .done,pending:=none}:Loop)=rec:=by
   obtain⟨s,q,f1,f2,f3,f4,f5,f6⟩:=rec
   dsimp only at zY hpe
   subst zY;subst hpe
   rfl
  rw[this];exact wq
 |ret=>
  refine⟨_,_,run_endRound (some .ret) oQ,.inr ⟨rfl,bk,g2,w2.putObj l (.loop rec),?_,World.putObj_heap_same hlt2,wq,hq⟩⟩
  show w2.putObj l _=(w2.putObj l _).putObj l _
  unfold World.putObj
  dsimp only
  congr 1
  simp[qE,Ga]
 |_=>exact hq.elim
end
section
variable {P:Program} {tb:TypeId→Option TyE} {x:Cx} {tm EM:List (Nat×D)} {hp hp1:Hp} {Q:Exit→Act→World→Prop}
theorem AV.yield {id:Nat}{ops:Array Oper}{tc ty ta tn:Tmp}{ts:Array TypeId}{ty1 ty2 ty3:TypeId}{p1 p2:String}{a1 a2:Array Edge}{l:Nat}{rec:Loop}{hpE:Hp}{gE:Gh}{wE:World}(m:Nat)
  (SR:ops.toList=ops.toList.take m++[⟨some tc,.call ⟨.value (.tmp ty),#[.tmp ta],ts⟩,ty1,p1,a1,none⟩,⟨some tn,.unOp .not ty2 (.tmp tc),ty3,p2,a2,none⟩]) (hN:gr x.N ops=true) (tf:tC ops=true)
  (hx:x.hp0=hpE∧x.g0=gE∧x.w0=wE∧∀p:Addr,p.block<x.B→gE.F p→x.F0 p)
  (h1:∀K:List (Nat×D)→Hp→Prop,(∀EM hp1 d Y S,EM.lookup ty=some (.e (.lit (.func (.yield l) #[] #[])))→EM.lookup ta=some d→YOk P x.B l rec hpE gE wE hp1 d Y S→
    (∀bk a w,Y bk→RS x ((tn,.e (.lit (.bool false)))::(tc,.e (.lit (.bool true)))::EM) bk a w→Q .normal a w)→
    (∀bk g2 W' a,S bk→W'.heap[l]? =some (.loop rec)→xv x.B hpE gE wE bk g2 W'→a.defers=x.df→Q .ret a (W'.putObj l (.loop (qE rec))))→K EM hp1)→aQ P tb .seq ops K (ops.toList.take m) tm hp):
  AV P none x (.seq (.region id ops false) (.cond (.tmp tn) .ret .skip)) tm hp Q:=by
 generalize ops.toList.take m=pre at SR h1
 intro a w hr
 refine wpIn_seq (wpIn_region ?_)
 have hlen:ops.size=pre.length+2:=by rw[←dY,SR];simp
 have E5:ops[pre.length]? =some ⟨some tc,.call ⟨.value (.tmp ty),#[.tmp ta],ts⟩,ty1,p1,a1,none⟩:=by
  rw[←n8,SR,rH (aC _)];simp
 have Ml:ops[pre.length+1]? =some ⟨some tn,.unOp .not ty2 (.tmp tc),ty3,p2,a2,none⟩:=by
  rw[←n8,SR,rH (by omega),show pre.length+1 - pre.length=1 by omega];rfl
 have HK:tc<x.N:=j4 hN E5 rfl
 have ui:tn<x.N:=j4 hN Ml rfl
 rw[hlen,Ao,show List.range' 0 (pre.length+2)=List.range' 0 pre.length++[pre.length,pre.length+1] from by
  rw[←List.range'_append_1];simp[List.range']]
 refine B2 (K:=fun EM hp1=>∃d Y S,EM.lookup ty=some (.e (.lit (.func (.yield l) #[] #[])))∧EM.lookup ta=some d∧YOk P x.B l rec hpE gE wE hp1 d Y S∧
   (∀bk a w,Y bk→RS x ((tn,.e (.lit (.bool false)))::(tc,.e (.lit (.bool true)))::EM) bk a w→Q .normal a w)∧
   (∀bk g2 W' a,S bk→W'.heap[l]? =some (.loop rec)→xv x.B hpE gE wE bk g2 W'→a.defers=x.df→Q .ret a (W'.putObj l (.loop (qE rec))))) hN tf _ _ ?_ pre 0 tm hp a w (by rw[pH];exact SR) (h1 _ fun EM hp1 d Y S q1 q2 q3 q4 q5=>⟨d,Y,S,q1,q2,q3,q4,q5⟩) hr
 rintro EM hp1 a w ⟨d,Y,S,hy,ha,hY,ht,hf⟩ ⟨g,hh,fh,hsz,pg,hB,hF,hM⟩
 -- the round
 unfold wpOpsIn
 rw[E5]
 dsimp only
 rw[show Region.wanted (⟨some tc,.call ⟨.value (.tmp ty),#[.tmp ta],ts⟩,ty1,p1,a1,none⟩:Oper) (yielded ops a.tmps)=true from rfl,an rfl]
 have hye:a.eval (.tmp ty)=.func (.yield l) #[] #[]:=by
  have:=fh ty _ hy
  exact this.lit
 obtain⟨rfl,rfl,rfl,Qs⟩:=hx
 obtain⟨fn,tmps,assign,body,bm,hR⟩:=hY g w (a.eval (.tmp ta)) ⟨hh,hM,hB,fun p hp hq=>hF p hp (Qs p hp hq)⟩ (fh ta d ha)
 refine⟨fun _ _=>trivial,?_⟩
 rw[Oper.semAt_eq _ _ _ (by intro c h;cases h),Jx hye bm]
 refine⟨fun h=>(by cases h),?_⟩
 have hR2:RoundIn (FWd none) 0 P l fn tmps assign body w _:=hR
 refine hR2.mono ?_
 intro e w' hq
 have SU:∀(b:Bool) (Q':Exit→Act→World→Prop),(∀aa,aa=(a.put (some tc) (.bool b)).put (some tn) (.bool (!b))→Q' .normal aa w')→wpOpsIn (FWd none) 0 P ops Q' [pre.length+1] (a.put (some tc) (.bool b)) w':=by
  intro b Q' hq
  unfold wpOpsIn
  rw[Ml]
  dsimp only
  rw[show Region.wanted (⟨some tn,.unOp .not ty2 (.tmp tc),ty3,p2,a2,none⟩:Oper) (yielded ops (a.put (some tc) (.bool b)).tmps)=true from rfl,an rfl]
  refine⟨fun _ _=>trivial,?_⟩
  rw[Oper.semAt_eq _ _ _ (by intro c h;cases h)]
  have he:(a.put (some tc) (.bool b)).eval (.tmp tc)=.bool b:=uE (by rw[hsz];exact HK)
  have hrun2:(execOp (a.put (some tc) (.bool b)).eval ⟨some tn,.unOp .not ty2 (.tmp tc),ty3,p2,a2,none⟩).run P w'=.ok (.value (.bool (!b))) w':=by
   have bh:tc<a.tmps.size:=by rw[hsz];exact HK
   simp[execOp,bh,Op.unary,go_sem]
  rw[hrun2]
  show wpOpsIn (FWd none) 0 P ops Q' [] _ w'
  unfold wpOpsIn
  exact hq _ rfl
 have AZ:∀b:Bool,((a.put (some tc) (.bool b)).put (some tn) (.bool (!b))).eval (.tmp tn)=.bool (!b):=fun b=>uE (by rw[pp,hsz];exact ui)
 rcases hq with⟨rfl,bk,g2,hc,hq⟩|⟨rfl,bk,g2,W',rfl,hl,hc,hq⟩
 ·refine SU true _ ?_
  rintro aa rfl
  refine wpIn_cond_false (AZ true) (wpIn_skip (ht bk _ _ hq ?_))
  refine⟨g2,hc.hr,xQ (dst:=some tn) (d:=.e (.lit (.bool false))) (v:=.bool (!true)) (xQ (dst:=some tc) (d:=.e (.lit (.bool true))) (v:=.bool true) (fun t d ht=>(fh t d ht).mono hc.mo) (.e _ _ (.lit (.bool true) rfl)) ?_) (.e _ _ (.lit (.bool false) rfl)) ?_,by rw[pp,pp,hsz],by rw[lD,lD,pg],hB.trans hc.bl,fun p h1 h2=>hc.fo p h1 (hF p h1 h2),hM.trans hc.mo⟩
  ·intro t e;cases e;rw[hsz];exact HK
  ·intro t e;cases e;rw[pp,hsz];exact ui
 ·refine SU false _ ?_
  rintro aa rfl
  refine wpIn_cond_true (AZ false) (wpIn_ret (hf bk g2 W' _ hq hl ?_ (by rw[lD,lD,pg])))
  exact (xv.mk hh hM hB fun p hp hq=>hF p hp (Qs p hp hq)).trans hc
end
end
section
section
variable {P:Program} {tb:TypeId→Option TyE} {x:Cx} {tm EM:List (Nat×D)} {hp hp1:Hp} {Q:Exit→Act→World→Prop}
def G4(g:Gh)(ks:List Nat):Array Value:=(ks.map fun k=>Value.pointer (some ⟨g.μ k,0,none⟩)).toArray
def Np(P:Program)(f:FuncId)(ks:List Nat)(B:Nat)(hp:Hp)(p:Tmp)(N:Nat)(QH bod:Code)(tm:List (Nat×D))(Y S:Hp→Prop):Prop:=
 ∀(g:Gh) (w:World) (l:Nat) (rec:Loop),HR B hp g w→w.heap[l]? =some (.loop rec)→B≤l→rec.state=.ready→rec.pending=none→rec.params=#[p]→rec.assign=QH→rec.body=bod→rec.tmps.size=N→(∀t d,tm.lookup t=some d→aF hp g w d (rec.tmps.getD t undef))→
  Calls P f (#[.func (.yield l) #[] #[]]++G4 g ks) w fun e w'=>∃v,e=.returned v∧∃hp' g' W',xv B hp g w hp' g' W'∧((w'=W'∧Y hp')∨(w'=W'.putObj l (.loop (qE rec))∧W'.heap[l]? =some (.loop rec)∧S hp'))
structure IP(x x':Cx)(D:Nat)(hp:Hp)(w:World):Prop where
 B:x'.B=x.B
 F0:x'.F0=x.F0
 N:x'.N=x.N
 df:x'.df={target:=.collected D,args:=#[]}::x.df
 hp0:x'.hp0=hp
 w0:x'.w0=w
 came:bu x.hp0 x.g0 x.w0 hp x'.g0 w
 below:Below x.B x.w0 w
 blk:w.heap[D]? =some (.deferred (some []))
 new:x.w0.heap.size≤D
 hr:HR x.B hp x'.g0 w
theorem AV.range {gop:Operand}{p:Tmp}{assign body:Code}{f:FuncId}{ks:List Nat}{Y S:Hp→Prop}(hg:evD tm gop=.fn f ks)(S6:Nv P f)(hB:x.B≤x.w0.heap.size)
  (hit:Np P f ks x.B hp p x.N assign body tm Y S)
  (hn:∀x' D hp' a w,IP x x' D hp' w→RS x' tm hp' a w→Y hp'→Q .normal a w)
  (hs:∀x' D hp' a w,IP x x' D hp' w→RS x' tm hp' a w→S hp'→Q .ret a w):AV P none x (.rangeFunc gop #[p] assign body) tm hp Q:=by
 intro a w hr
 obtain⟨g,hh,fh,hsz,pg,hBl,hF,hM⟩:=id hr
 have hgv:=rC fh gop
 rw[hg] at hgv
 have hgv:a.eval gop=.func (.func f) #[] (G4 g ks):=by
  generalize a.eval gop=v at hgv
  cases hgv with
  |fn _ _ _=>rfl
 refine wpIn_rangeFunc ?_
 intro fn _
 obtain⟨rec,Bt⟩:∃rec:Loop,rec={state:=.ready,pending:=none,fn,tmps:=a.tmps,params:=#[p],assign,body,defers:=w.heap.size}:=⟨_,rfl⟩
 obtain⟨W1,hW1⟩:∃W1,(w.alloc (.deferred (some []))).alloc (.loop rec)=W1:=⟨_,rfl⟩
 have hL1:W1.heap[w.heap.size+1]? =some (.loop rec):=by
  rw[←hW1];have:=World.alloc_heap_new (w.alloc (.deferred (some []))) (.loop rec);rwa[World.size_alloc] at this
 have hK1:W1.heap[w.heap.size]? =some (.deferred (some [])):=by
  rw[←hW1];exact (Below.heap_alloc _ _ _ (by simp)).trans (World.alloc_heap_new w _)
 have hold:∀b,b<w.heap.size→W1.heap[b]? =w.heap[b]? :=fun b hb=>by
  rw[←hW1];exact (Below.heap_alloc _ _ _ (by simp;omega)).trans (Below.heap_alloc _ _ _ hb)
 have hsW:w.heap.size≤W1.heap.size:=by rw[←hW1];simp;omega
 have h1:HR x.B hp g W1:=hh.keep hsW hold
 have m1:bu hp g w hp g W1:=bu.keep hp g hsW hold
 have b1:Below x.B w W1:=by
  rw[←hW1]
  exact ((Below.refl x.B w).alloc hh.base _).alloc (by have:=hh.base;simp;omega) _
 have hD1:Ns hp g w.heap.size:=h1.free hK1 rfl
 refine⟨w.heap.size+1,[{target:=.collected w.heap.size,args:=#[]}],W1,{target:=.fn (.func f) (G4 g ks),args:=#[.func (.yield (w.heap.size+1)) #[] #[]]},W1,f,
  #[.func (.yield (w.heap.size+1)) #[] #[]]++G4 g ks,W1,?_,?_,fun _ _=>trivial,?_,fun h=>(by cases h),?_⟩
 ·rw[←hW1,Bt];exact run_enterLoop_outer _ _ _ _ _
 ·simp only[resolve,hgv]
  simp[go_sem]
 ·obtain⟨fn',hf',hn',pK⟩:=S6
  have Mf : fn'.name ≠ "runtime.NumGoroutine" := by simpa using hn'
  have rf:¬fn'.body=none:=fun e=>by rw[e] at pK;cases pK
  simp[invoke,callFunc,hf',Mf,rf,go_sem]
 ·have hc:=hit g W1 (w.heap.size+1) rec h1 hL1 (by have:=hh.base;omega) (by rw[Bt]) (by rw[Bt]) (by rw[Bt]) (by rw[Bt]) (by rw[Bt]) (by rw[Bt];exact hsz) (fun t d ht=>by rw[Bt];exact (fh t d ht).mono m1)
  refine (A5 (n:=0) hc).mono ?_
  rintro e w3 ⟨v,rfl,hp',g',W',wq,hq⟩
  obtain⟨z3,_,hfk⟩:=wq.mo.fr w.heap.size (dW.1 hK1).1 hD1
  have hkW:W'.heap[w.heap.size]? =some (.deferred (some [])):=z3.trans hK1
  -- what holds behind,whatever the record says
  have fin:∀(o':Obj),o'.isCells=false→W'.heap[w.heap.size+1]? =some (.loop rec)→
    IP x ⟨x.B,W'.putObj (w.heap.size+1) o',x.F0,x.N,hp',g',{target:=.collected w.heap.size,args:=#[]}::x.df⟩ w.heap.size hp' (W'.putObj (w.heap.size+1) o')∧
    RS ⟨x.B,W'.putObj (w.heap.size+1) o',x.F0,x.N,hp',g',{target:=.collected w.heap.size,args:=#[]}::x.df⟩ tm hp' {a with defers:=[{target:=.collected w.heap.size,args:=#[]}]++a.defers} (W'.putObj (w.heap.size+1) o'):=by
   intro o' mM hl
   have om:=wq.hr.putO (o':=o') hl rfl mM
   refine⟨⟨rfl,rfl,rfl,rfl,rfl,rfl,?_,?_,?_,?_,om⟩,g',om,fun t d ht=>(((fh t d ht).mono m1).mono wq.mo).putO hl rfl mM,hsz,by simp[pg],Below.refl _ _,fun p h1 h2=>wq.fo p h1 (hF p h1 h2),bu.refl _ _ _⟩
   ·exact hM.trans ((m1.trans wq.mo).putNew (by omega) hl rfl mM)
   ·exact qR (hBl.trans (b1.trans wq.bl)) (by have:=hh.base;omega)
   ·exact (World.putObj_heap_other (by omega)).trans hkW
   ·exact hM.size
  have hlW:W'.heap[w.heap.size+1]? =some (.loop rec):=(wq.mo.fr _ (dW.1 hL1).1 (h1.free hL1 rfl)).1.trans hL1
  rcases hq with⟨rfl,hY⟩|⟨rfl,_,hS⟩
  ·have he:=run_endLoop (P:=P) hlW (by rw[Bt];simp)
   have hpn:rec.pending=none:=by rw[Bt]
   refine⟨none,_,he.trans (congrArg (fun q=>Result.ok q _) hpn),?_⟩
   obtain⟨h5,h6⟩:=fin (.loop {rec with state:=.exhausted}) rfl hlW
   exact hn _ _ hp' _ _ h5 h6 hY
  ·have Qi:(W'.putObj (w.heap.size+1) (.loop (qE rec))).heap[w.heap.size+1]? =some (.loop (qE rec)):=World.putObj_heap_same (dW.1 hlW).1
   have he:=run_endLoop (P:=P) Qi (by simp[qE])
   refine⟨some .ret,_,he,?_⟩
   obtain⟨h5,h6⟩:=fin (.loop {(qE rec) with state:=.exhausted}) rfl hlW
   have hw:(W'.putObj (w.heap.size+1) (.loop (qE rec))).putObj (w.heap.size+1) (.loop {(qE rec) with state:=.exhausted})=W'.putObj (w.heap.size+1) (.loop {(qE rec) with state:=.exhausted}):=by
    unfold World.putObj
    dsimp only
    congr 1
    simp
   rw[hw]
   exact wpIn_ret (hs _ _ hp' _ _ h5 h6 hS)
theorem H7 {B:Nat}{w:World}{F:Addr→Prop}{N:Nat}{g:Gh}{ds:List D}{vs:Array Value}(hr:HR B hp g w)(hF:∀p:Addr,p.block<B→F p→g.F p)(hN:ds.length≤N)(hsz:vs.size=ds.length)(ss:∀(j:Nat) (d:D) (u:Value),ds[j]? =some d→vs[j]? =some u→aF hp g w d u):
  RS ⟨B,w,F,N,hp,g,[]⟩ (dv 0 ds) hp {tmps:=vs++Array.replicate (N - vs.size) undef,defers:=[]} w:=by
 refine⟨g,hr,fun t d ht=>?_,by simp;omega,rfl,Below.refl _ _,hF,bu.refl _ _ _⟩
 obtain⟨_,h2⟩:=n7 ht
 have bh:t<ds.length:=by
  rw[DR] at h2
  rcases bO t ds.length with hh|hh
  ·exact hh
  ·rw[gP hh] at h2;cases h2
 have hv:vs[t]? =some vs[t]:=pX (by omega)
 have:=ss t d vs[t] (by simpa using h2) hv
 have he:(vs++Array.replicate (N - vs.size) undef).getD t undef=vs[t]:=by
  rw[e7,An (by omega),hv];rfl
 rw[he]
 exact this
def QS(x:Cx)(G:Cx→List (Nat×D)→Hp→Prop)(ex:Exit)(a:Act)(w:World):Prop:=
 (ex=.normal∨ex=.ret)∧∃x' D hp1 w1 tm bk,IP x x' D hp1 w1∧RS x' tm bk a w∧G {x with df:=x'.df} tm bk
theorem QS.leaves {fn:Func}{R:Ending→World→Prop}{G:Cx→List (Nat×D)→Hp→Prop}{ex:Exit}{a:Act}{w:World}(h:QS x G ex a w)(pg:x.df=[])
  (hk:∀x2 tm bk D w2,x2.B=x.B→x2.w0=x.w0→x2.F0=x.F0→x2.N=x.N→x2.hp0=x.hp0→x2.g0=x.g0→RS x2 tm bk a w→G x2 tm bk→w2=w.putObj D (.deferred none)→w.heap[D]? =some (.deferred (some []))→x.w0.heap.size≤D→∃v,(results fn a.tmps).run P w2=.ok v w2∧R (.returned v) w2):
  bodyPostM (FWd none) 0 P fn R ex a w:=by
 obtain⟨hex,x',D,hp1,w1,tm,bk,hb,hr,hG⟩:=h
 obtain⟨g,hh,fh,hsz,hdf2,hBl,hF,hM⟩:=hr
 rw[hb.hp0,hb.w0] at hM
 rw[hb.B] at hh hBl hF
 rw[hb.w0] at hBl
 have S5:=hb.hr.free hb.blk rfl
 obtain⟨hkD,_,_⟩:=hM.fr D (dW.1 hb.blk).1 S5
 have hkD:w.heap[D]? =some (.deferred (some [])):=hkD.trans hb.blk
 have HE:RS {x with df:=x'.df} tm bk a w:=⟨g,hh,fh,by rw[hsz,hb.N],hdf2,hb.below.trans hBl,fun p h1 h2=>hF p h1 (by rw[hb.F0];exact h2),hb.came.trans hM⟩
 have fin:LeavesInM (FWd none) 0 P fn a.tmps R a.defers .returning w:=by
  rw[hdf2,hb.df,pg]
  refine⟨by simp,.inl ⟨D,_,rfl,run_takeDeferred hkD,?_⟩⟩
  obtain⟨v,h1,h2⟩:=hk {x with df:=x'.df} tm bk D _ rfl rfl rfl rfl rfl rfl HE hG rfl hkD hb.new
  exact⟨v,h1,h2⟩
 rcases hex with rfl|rfl <;> exact fin
theorem HC.ofM (tok : TOk P tb) {f : FuncId} {fn : Func} {c : Code} {ds : List D} {hp hp' : Hp} {r : D} {rs : List ResultVar} (hf : P.funcs[f]? = some fn) (hb : fn.body = some c) (qH : (fn.name == "runtime.NumGoroutine") = false) (hN : ds.length ≤ fn.ntmps) (hrs : fn.results.toList = rs)
  (h:∀x:Cx,x.N=fn.ntmps→x.hp0=hp→x.df=[]→fc hp→x.B≤x.w0.heap.size→AV P none x c (dv 0 ds) hp (QS x fun x2 tm bk=>∃tm',Wk x2 tm bk tm' hp'∧xp tb rs tm' hp' r)):HC P f ds hp r hp':=by
 subst hrs
 refine⟨⟨fn,hf,qH,by rw[hb];rfl⟩,fun B g w vs hr hsz ss=>?_⟩
 refine (callsIn_wide (n:=0)).1 (callsIn_of_wp_marks (F:=FWd none) hf hb trivial (wpIn_mono (h ⟨B,w,g.F,fn.ntmps,hp,g,[]⟩ rfl rfl rfl hr.ok hr.base _ _ (H7 hr (fun _ _ h=>h) hN hsz ss)) ?_))
 intro ex a w' he
 refine he.leaves rfl ?_
 rintro x2 tm bk D w2 h1 h2 h3 h4 h5 h6 hrs ⟨tm',Og,Mc⟩ rfl hD uh
 obtain⟨g',om,fh,_,_,hB,hF,hM⟩:=Og a w' hrs
 rw[h1] at om hB hF
 rw[h2] at hB
 rw[h2,h5,h6] at hM
 rw[h3] at hF
 have ub:=hr.base
 obtain⟨v,bm,l4⟩:=tV (x:=⟨B,w,g.F,fn.ntmps,hp,g,[]⟩) (g:=g') tok rfl Mc (om.putO (o':=.deferred none) hD rfl rfl) (fun t d ht=>(fh t d ht).putO hD rfl rfl)
 have uh:w.heap.size≤D:=uh
 exact⟨v,bm,v,g',rfl,om.putO hD rfl rfl,hM.putNew uh hD rfl rfl,l4,qR hB (by omega),hF⟩
def RdOk(P:Program)(N:Nat)(p:Tmp)(QH bod:Code)(tm:List (Nat×D))(hp:Hp)(d:D)(Y S:Hp→Prop):Prop:=∀(l:Nat) (x:Cx),x.N=N→x.df=[]→x.hp0=hp→AV P (some l) x QH ((p,d)::tm) hp fun ex a w=>ex=.normal∧∃EM hp1,RS x EM hp1 a w∧
 ∀x:Cx,x.N=N→x.df=[]→x.hp0=hp1→AV P (some l) x bod EM hp1 fun ex a w=>∃tm hp',RS x tm hp' a w∧match ex with| .normal=>Y hp'| .ret=>S hp'|_=>False
theorem Np.of {f:FuncId}{fn:Func}{c:Code}{ks:List Nat}{B:Nat}{p:Tmp}{N:Nat}{QH bod:Code}{Y S:Hp→Prop}(hf:P.funcs[f]? =some fn)(hb:fn.body=some c)(hN:ks.length+1≤fn.ntmps)(l4:fn.results=#[])(hpN:p<N)(Qj:∀k∈ks,k<hp.next)
  (h:∀(g:Gh) (w:World) (l:Nat) (rec:Loop) (x:Cx),x.B=B→x.hp0=hp→x.g0=g→x.w0=w→x.F0=g.F→x.N=fn.ntmps→x.df=[]→fc hp→(∀hp1 d Y' S',RdOk P N p QH bod tm hp1 d Y' S'→YOk P B l rec hp g w hp1 d Y' S')→
   AV P none x c (dv 0 (.e (.lit (.func (.yield l) #[] #[]))::ks.map fun k=>.pt k 0)) hp fun ex a w'=>((ex=.normal∨ex=.ret)∧∃tm' hp',RS x tm' hp' a w'∧Y hp')∨
    (ex=.ret∧a.defers=x.df∧∃hp' g' W',w'=W'.putObj l (.loop (qE rec))∧W'.heap[l]? =some (.loop rec)∧xv B hp g w hp' g' W'∧S hp')):Np P f ks B hp p N QH bod tm Y S:=by
 intro g w l rec hr hl hBl zY hpe hpar hasg hbod hsz fh
 have hmk:∀hp1 d Y' S',RdOk P N p QH bod tm hp1 d Y' S'→YOk P B l rec hp g w hp1 d Y' S':=by
  intro hp1 d Y' S' hrd
  subst hasg hbod hsz
  exact YOk.of hl hr zY hpe hpar hBl hpN fh (hrd l)
 have rx:RS ⟨B,w,g.F,fn.ntmps,hp,g,[]⟩ (dv 0 (.e (.lit (.func (.yield l) #[] #[]))::ks.map fun k=>.pt k 0)) hp {tmps:=(#[Value.func (.yield l) #[] #[]]++G4 g ks)++Array.replicate (fn.ntmps - (#[Value.func (.yield l) #[] #[]]++G4 g ks).size) undef,defers:=[]} w:=by
  refine H7 hr (fun _ _ h=>h) (by simpa using hN) (by simp[G4,lU]) fun j d u hd hu=>?_
  cases j with
  |zero=>
   have hu0:(#[Value.func (.yield l) #[] #[]]++G4 g ks)[0]? =some (Value.func (.yield l) #[] #[]):=by rw[An (by simp)];rfl
   rw[hu0] at hu
   injection hu with hu
   injection hd with hd
   subst hd;subst hu
   exact .e _ _ (.lit _ rfl)
  |succ j=>
   simp only[Iy,bE] at hd
   rw[Array.getElem?_append_right (by simp)] at hu
   simp[G4] at hu
   cases hk:ks[j]? with
   |none=>simp[hk] at hd
   |some k=>
    simp[hk] at hd hu
    subst hd;subst hu
    exact .pt k 0 (Qj k (bL hk))
 have Qm:∀(a:Act) (w':World),(results fn a.tmps).run P w'=.ok (.tuple #[]) w':=fun a w'=>by
  unfold results
  rw[l4,Sem.run_bind]
  simp
 refine (callsIn_wide (n:=0)).1 (callsIn_of_wp (F:=FWd none) hf hb trivial (wpIn_mono (h g w l rec ⟨B,w,g.F,fn.ntmps,hp,g,[]⟩ rfl rfl rfl rfl rfl rfl rfl hr.ok hmk _ _ rx) ?_))
 rintro ex a w' (⟨hex,tm',hp',⟨g',h1,_,_,h4,h5,h6,h7⟩,hY⟩|⟨rfl,pg,hp',g',W',h1,h2,h3,hS⟩)
 ·have:bodyPost P fn (fun e w'=>∃v,e=.returned v∧∃hp' g' W',xv B hp g w hp' g' W'∧((w'=W'∧Y hp')∨(w'=W'.putObj l (.loop (qE rec))∧W'.heap[l]? =some (.loop rec)∧S hp'))) .ret a w':=
   ⟨h4,_,Qm a w',_,rfl,hp',g',w',⟨h1,h7,h5,h6⟩,.inl ⟨rfl,hY⟩⟩
  rcases hex with rfl|rfl <;> exact this
 ·exact⟨pg,_,Qm a w',_,rfl,hp',g',W',h3,.inr ⟨h1,h2,hS⟩⟩
end
end
section
theorem Pt.one(d:D):Pt [d] 0 [d] id:=Pt.of [] [] rfl rfl fun y=>by simp
section
variable {P:Program} {tb:TypeId→Option TyE} {md:Md} {dst:Option Tmp} {ty2:TypeId} {pos:String} {af:Array Edge} {gd:Option (Nat×Bool)} {ev:Operand→D} {hp:Hp} {x lo hi mx:Operand} {k off z n l h:Nat} {t e:TypeId} {ti j:TyE} {k1 k2 k3:IntKind}
theorem slW3(tok:TOk P tb)(hlh:l<h)(hhn:h≤n)(ht:tb t=some ti)(he:tb e=some j)(C8:ev lo=dI k1 (l:Int))(Lg:ev hi=dI k2 (h:Int))(hmx:ev mx=dI k3 (h:Int))(uK:ti.ty=.slice e:=by exact rfl)(hx:ev x=.ow k off z n:=by exact rfl)(hz:z=j.size:=by exact rfl):
  mz P tb md ⟨dst,.slice t x (some lo) (some hi) (some mx),ty2,pos,af,gd⟩ ev hp (.ow k (off+l*z) z (h - l)) hp:=by
 subst hz
 refine (Snd.calm (dr:=md.dr) fun bk _=>.pure fun B g w a hr vX=>?_).q (by cases md <;> rfl)
 have h1:=vX x (by simp[Op.operands])
 have e1:=vX lo (by simp[Op.operands])
 have e2:=vX hi (by simp[Op.operands])
 have e3:=vX mx (by simp[Op.operands])
 rw[hx] at h1
 rw[C8] at e1
 rw[Lg] at e2
 rw[hmx] at e3
 have e1:=e1.lit
 have e2:=e2.lit
 have e3:=e3.lit
 have hs:=tok.run_sizeOf he w
 generalize hv:a.eval x=v at h1
 cases h1 with
 |ow _ _ _ _ c hk oo nR=>
  have hb:(Instr.sliceBounds true n c (some (Value.int k1 (l:Int))) (some (Value.int k2 (h:Int))) (some (Value.int k3 (h:Int)))).run P w=.ok (l,h,h) w:=by
   have q1:h≤c:=by omega
   have q2:l≤h:=by omega
   simp[Instr.sliceBounds,run_sliceBound,q1,q2]
  refine⟨.slice (some ⟨g.μ k,off+l*j.size,none⟩) (h - l) (h - l),?_,.ow _ _ _ _ _ hk (aC _) (by omega)⟩
  have lr:¬h=l:=by omega
  have Mr:(⟨g.μ k,off,none⟩:Addr).add (l*j.size)=⟨g.μ k,off+l*j.size,none⟩:=by unfold Addr.add;split <;> simp_all
  simp[execOp,Instr.sliceAt,Instr.slice,hv,e1,e2,e3,run_underlying (tok.slice ht uK),hb,hs,lr,Mr]
end
section
variable {ops:Array Oper} {K:List (Nat×D)→Hp→Prop} {os:List Oper} {tm:List (Nat×D)} {hp hp':Hp} {t:Tmp} {op:Op} {ty:TypeId} {pos:String} {af:Array Edge} {d:D}
theorem q1s(h:oA prog ⟨some t,op,ty,pos,af,none⟩ (evD tm) hp d hp')(h2:aQ prog tbl .seq ops K os ((t,d)::tm) hp'):aQ prog tbl .seq ops K (⟨some t,op,ty,pos,af,none⟩::os) tm hp:=.sq rfl d hp' rfl h h2
end
section
variable {x:Cx} {Q:Exit→Act→World→Prop} {tm:List (Nat×D)} {hp:Hp}
theorem vrs {n id:Nat}{l:List Oper}{b:Code}(hx:x.N=n)(h:∀K:List (Nat×D)→Hp→Prop,(∀tm hp,AV prog none x b tm hp Q→K tm hp)→aQ prog tbl .seq l.toArray K l tm hp)(hN:gr n l.toArray=true:=by kernel_rfl):AV prog none x (.seq (.region id l.toArray false) b) tm hp Q:=
 AV.seqA (rq hx (fun K hK=>h K fun tm hp hh=>hK _ _ hh) hN)
theorem vrsd {n id:Nat}{l:List Oper}{b:Code}(L:List FuncId)(hx:x.N=n)(h:∀K:List (Nat×D)→Hp→Prop,(∀tm hp,AV prog none x b tm hp Q→K tm hp)→aQ prog tbl (.any L) l.toArray K l tm hp)(hN:gr n l.toArray=true:=by kernel_rfl)(pM:t6 tbl L l.toArray=true:=by kernel_rfl):AV prog none x (.seq (.region id l.toArray true) b) tm hp Q:=
 AV.seqA (rqd L hx (fun K hK=>h K fun tm hp hh=>hK _ _ hh) hN pM)
theorem vrq {n id:Nat}{l:List Oper}(hx:x.N=n)(h:∀K:List (Nat×D)→Hp→Prop,(∀tm hp,(∀a w,RS x tm hp a w→Q .normal a w)→K tm hp)→aQ prog tbl .seq l.toArray K l tm hp)(hN:gr n l.toArray=true:=by kernel_rfl):AV prog none x (.region id l.toArray false) tm hp Q:=
 AV.aw (Q':=fun ex tm' hp'=>ex=.normal∧∀a w,RS x tm' hp' a w→Q .normal a w) (rq hx (fun K hK=>h K fun tm hp hh=>hK _ _ ⟨rfl,hh⟩) hN) fun ex tm' hp' a w h1 hr=>by obtain⟨rfl,h1⟩:=h1;exact h1 a w hr
theorem vrr {n id:Nat}{ro:Option Nat}{l:List Oper}(hx:x.N=n)(h:∀K:List (Nat×D)→Hp→Prop,(∀tm hp,(∀a w,RS x tm hp a w→Q .normal a w)→K tm hp)→aQ prog tbl .seq l.toArray K l tm hp)(hN:gr n l.toArray=true:=by kernel_rfl)(tf:tC l.toArray=true:=by kernel_rfl):AV prog ro x (.region id l.toArray false) tm hp Q:=
 AV.region (tb:=tbl) (by rw[hx];exact hN) tf h
theorem vrrs {n id:Nat}{ro:Option Nat}{l:List Oper}{b:Code}(hx:x.N=n)(h:∀K:List (Nat×D)→Hp→Prop,(∀tm hp,AV prog ro x b tm hp Q→K tm hp)→aQ prog tbl .seq l.toArray K l tm hp)(hN:gr n l.toArray=true:=by kernel_rfl)(tf:tC l.toArray=true:=by kernel_rfl):AV prog ro x (.seq (.region id l.toArray false) b) tm hp Q:=
 AV.seq (vrr hx (fun K hK=>h K fun tm hp hh=>hK _ _ fun a w hr=>hh a w hr) hN tf)
end
section
variable {vs:List (Nat×List D)} {lv:List (Nat×Nat×Nat×TypeId)} {N C R kM:Nat}
def g7(kM n:Nat):D:=if n=0 then dL aO [] else .ow kM 0 36 n
theorem h_Chunk {dV:D}(hC:1≤C)(hC2:C≤1000000)(hV:dV.idsC N=true)(A0:D.cells dV=some [dV]):
  HC prog 139 [dV,dI .i64 C] ⟨vs,lv,N⟩ (.fn 174 [N,N+1]) ⟨(N+1,[dI .i64 C])::(N,[dV])::vs,lv,N+1+1⟩:=by
 refine HC.of (rs:=[.tmp 4]) tok func139 rfl rfl (cD rfl) rfl (fun cx hx h0 hok=>?_)
 simp only[dv,Nat.reduceAdd,cj]
 have ST:fc ⟨(N,[dV])::vs,lv,N+1⟩:=hok.cons (eQ _) (dH _) (by simpa using D.idsC_le (eQ N) hV)
 have zZ:fc ⟨(N+1,[dI .i64 C])::(N,[dV])::vs,lv,N+1+1⟩:=ST.cons (eQ _) (dH _) rfl
 refine rs hx fun K hK=>?_
 refine s1 (d:=.pt N 0) (jb (cs:=[dV]) (show D.cells (evD [(0,dV),(1,dI .i64 C)] (.tmp 0))=_ from A0)) ?_
 refine s1 (d:=.pt (N+1) 0) (jb (cs:=[dI .i64 C]) rfl) ?_
 refine sa ?_
 refine nl hK ?_
 refine AW.seq (rs hx fun K hK=>?_)
 refine c1 (Pt.one _) ?_
 refine sa ?_
 refine nl hK ?_
 refine AW.condF rfl (def_) (AW.skip (rs hx fun K hK=>?_))
 refine s1 (d:=.fn 174 [N,N+1]) wy ?_
 refine sa ?_
 refine nl hK ?_
 exact AW.ret (⟨[(4,.fn 174 [N,N+1])],wkS (by rw[h0];show N≤N+1+1;omega) (aC _) zZ (fun j ds h=>h) (pc.cons pc.nil rfl (by simp[D.idsB,D.idsC];omega)),⟨_,ah,rfl⟩⟩)
end
theorem Wk.tmS {x:Cx}{tm tm':List (Nat×D)}{hp:Hp}(h:∀t d,tm'.lookup t=some d→tm.lookup t=some d):Wk x tm hp tm' hp:=by
 rintro a w ⟨g,h1,h2,h3,h4,h5,h6,h7⟩
 exact⟨g,h1,fun t d ht=>h2 t d (h t d ht),h3,h4,h5,h6,h7⟩
theorem PI {tm:List (Nat×D)}:∀t d,([]:List (Nat×D)).lookup t=some d→tm.lookup t=some d:=fun t d h=>by simp at h
theorem tin {tm tm':List (Nat×D)}{t:Nat}{d:D}(h2:∀t d,tm'.lookup t=some d→tm.lookup t=some d)(h:tm.lookup t=some d:=by exact rfl):∀t' d',((t,d)::tm').lookup t'=some d'→tm.lookup t'=some d':=fun t' d' ht=>by
 by_cases e:t'=t
 ·subst e
  have:some d=some d':=by rw[←ht];exact ah.symm
  rw[h,this]
 ·exact h2 t' d' (by rw[←ht];exact (al e).symm)
theorem lenM {dr:Bool}{ty:TypeId}{ev:Operand→D}{hp:Hp}{kM n:Nat}{x:Operand}(hx:ev x=g7 kM n):AVC prog tbl dr (.call ⟨.builtin .len,#[x],#[22]⟩) ty ev hp (Kq (dI .i64 (n:Nat)) hp):=by
 by_cases h:n=0
 ·subst h
  have hx:ev x=dL aO []:=hx
  exact UE (n:=0) (xs:=[]) aW aR rfl (by rw[hx];rfl)
 ·have hx:ev x=.ow kM 0 36 n:=by rw[hx];exact az h
  exact Ay aW aR rfl hx
section
variable {hpE:Hp} {I:Nat→Hp→Prop} {ks kn kM R C B:Nat} {p:Tmp} {Nt:Nat} {QH bod:Code} {tm0:List (Nat×D)}
theorem Sw(hC:1≤C)(Ot:R*C≤1000000)(hC2:C≤1000000)(Qj:ks<hpE.next)(AU:kn<hpE.next)(hpN:p<Nt)(h0:I 0 hpE)
  (hI:∀q hp,I q hp→hp.vars.lookup ks=some [g7 kM (R*C)]∧hp.vars.lookup kn=some [dI .i64 C]∧ks<hp.next∧kn<hp.next)
  (hrd:∀q hp,q<R→I q hp→RdOk prog Nt p QH bod tm0 hp (.ow kM (q*C*36) 36 C) (I (q+1)) (fun _=>False)):
  Np prog 174 [ks,kn] B hpE p Nt QH bod tm0 (I R) (fun _=>False):=by
 refine Np.of func174 rfl (cD rfl) rfl hpN (by simp[Qj,AU]) (fun g w l rec x hB yZ hg0 hw0 Qs hN pg hok hmk=>?_)
 simp only[gZ,pN,dv,Nat.reduceAdd,cj]
 refine vrs hN fun K hK=>?_
 refine sa ?_
 refine nl hK ?_
 refine AV.block ?_
 refine AV.loop (fun n tm hp=>∃q:Nat,q≤R∧n=R - q∧I q hp∧tm=[(0,.e (.lit (.func (.yield l) #[] #[]))),(1,.pt ks 0),(2,.pt kn 0),(4,dI .i64 (q*C:Nat))]) (tm0:=[(0,.e (.lit (.func (.yield l) #[] #[]))),(1,.pt ks 0),(2,.pt kn 0),(4,dI .i64 (0*C:Nat))]) (hp0:=hpE) (n:=R) ?_ ⟨0,il _,rfl,h0,rfl⟩ ?_
 ·rw[jJ]
  exact Wk.tmS (tin (tin (tin (tin PI))))
 ·rintro n tm hp ⟨q,hq,rfl,hIq,rfl⟩
  obtain⟨e1,e2,hk1,z3⟩:=hI q hp hIq
  have hqC:q*C≤R*C:=bY C hq
  refine AV.seqA ?_
  refine rs hN fun K hK=>?_
  refine sa ?_
  refine c1 (Pt.one _) ?_
  refine s1 (d:=dI .i64 (R*C:Nat)) (lenM rfl) ?_
  refine sa ?_
  refine nl hK ?_
  refine AW.condS rfl (fun hb=>?_) (fun hb=>?_)
  ·have bh:q<R:=by
    have:=oc hb
    rcases bO q R with h|h
    ·exact h
    ·have:R*C≤q*C:=bY C h
     omega
   have hq1:(q+1)*C≤R*C:=bY C bh
   rw[aX,dq] at hq1
   have hm:g7 kM (R*C)=.ow kM 0 36 (R*C):=ifn_
   rw[hm] at e1
   refine AW.skip (AV.seq (AV.block ?_))
   refine vrsd [] hN fun K hK=>?_
   refine c1 (Pt.one _) ?_
   refine c1 (Pt.one _) ?_
   refine sa ?_
   refine q1 (slW (l:=((q*C:Nat):Int)) (h:=((R*C:Nat):Int)) tok ⟨by omega,by omega,by omega,by omega⟩ aW aR ⟨.i64,rfl⟩ rfl) ?_
   refine s1 (Ay aW aR) ?_
   iterate 2 refine sa ?_
   refine nl hK ?_
   rw[show min (C:Int) ((((R*C:Nat):Int) - ((q*C:Nat):Int)).toNat:Int)=(C:Int) by omega]
   refine AV.yield (tb:=tbl) (x:=x) (l:=l) (rec:=rec) (hpE:=hpE) (gE:=g) (wE:=w) 10 rfl (by rw[hN];kernel_rfl) (by kernel_rfl) ⟨yZ,hg0,hw0,fun p _ hp=>by rw[Qs];exact hp⟩ (fun K hK=>?_)
   refine sa ?_
   refine c1 (Pt.one _) ?_
   iterate 7 refine sa ?_
   rw[rj (show -9223372036854775808≤((q*C:Nat):Int)+(C:Int) by omega) (by omega)]
   refine q1 (slW3 (l:=q*C) (h:=q*C+C) tok (by omega) (by omega) aW aR rfl rfl rfl) ?_
   rw[show q*C+C - q*C=C by omega,cj]
   refine .nil (hK _ _ _ (I (q+1)) (fun _=>False) rfl rfl (by rw[hB];exact hmk _ _ _ _ (hrd q hp bh hIq)) ?_ ?_)
   ·intro bk a w hI2 hr
    obtain⟨e3,e4,hk3,hk4⟩:=hI (q+1) bk hI2
    show Code.wpIn (FWd none) 0 prog _ _ a w
    refine (vrq hN fun K hK=>?_) a w hr
    refine sa ?_
    refine c1 (Pt.one _) ?_
    iterate 2 refine sa ?_
    rw[rj (show -9223372036854775808≤((q*C:Nat):Int)+(C:Int) by omega) (by omega)]
    refine nl hK ?_
    intro a w hr
    refine⟨R - (q+1),_,bk,by omega,?_,q+1,bh,rfl,hI2,rfl⟩
    have hc:((q*C:Nat):Int)+(C:Int)=(((q+1)*C:Nat):Int):=by rw[aX,dq];omega
    rw[hc] at hr
    exact Wk.tmS (tin (tin (tin (tin PI)))) a w hr
   ·rintro bk g2 W' a hS
    exact hS.elim
  ·refine AW.exit ?_
   intro a w hr
   have hqR:q=R:=by
    have:=sY hb
    rcases bO q R with h|h
    ·have:(q+1)*C≤R*C:=bY C h
     rw[aX,dq] at this
     omega
    ·omega
   subst hqR
   exact .inl ⟨.inl rfl,_,_,hr,hIq⟩
end
end
section
def i5(kM C n:Nat):List D:=(List.range n).map fun i=>.ow kM (i*C*36) 36 C
theorem wK(kM C n:Nat):i5 kM C (n+1)=i5 kM C n++[.ow kM (n*C*36) 36 C]:=by
 unfold i5;rw[sk,lf];rfl
theorem Fw(kM C n:Nat):(i5 kM C n).length=n:=by unfold i5;simp
theorem sE {kM C n N:Nat}(h:kM<N):(i5 kM C n).all (D.idsC N)=true:=by
 unfold i5
 rw[bx]
 intro d hd
 obtain⟨i,_,rfl⟩:=nz.1 hd
 exact ck h
def xN(k n:Nat):D:=if n=0 then .e (.lit (.slice none 0 0)) else .gw k 1 n
theorem F4 {l:List (Nat×List D)}{k j:Nat}(h:j≠k):(l.filter fun p=>!([k]:List Nat).contains p.1).lookup j=l.lookup j:=by
 induction l with
 |nil=>rfl
 |cons p l ih=>
  obtain⟨a,b⟩:=p
  by_cases e:a=k
  ·subst e
   rw[MR (by simp),ih,al h]
  ·rw[MQ (by simpa using e)]
   by_cases e2:j=a
   ·subst e2;rw[ah,ah]
   ·rw[al e2,al e2,ih]
def pS(k n:Nat):D:=if n=0 then .e (.sl 1 0 []) else .gw k 1 n
def rm(k kM C n:Nat)(vs:List (Nat×List D)):List (Nat×List D):=if n=0 then vs else (k,i5 kM C n)::vs
section
variable {vs:List (Nat×List D)} {lv:List (Nat×Nat×Nat×TypeId)} {N C R kM ks kn:Nat}
def AsI(vs:List (Nat×List D))(lv:List (Nat×Nat×Nat×TypeId))(N kM C q:Nat)(hp:Hp):Prop:=
 ∃V N1 kR,hp=⟨V,lv,N1⟩∧fc hp∧N+2≤N1∧V.lookup N=some [xN kR q]∧(∀j ds,vs.lookup j=some ds→V.lookup j=some ds)∧(0<q→N+2≤kR∧kR<N1∧V.lookup kR=some (i5 kM C q))
theorem Kg(hC:1≤C)(Ot:R*C≤1000000)(hC2:C≤1000000)(hs:vs.lookup ks=some [g7 kM (R*C)])(hn:vs.lookup kn=some [dI .i64 C])(hkM:kM<N)(wU:∀k ds,vs.lookup k=some ds→ds.all D.noO=true):
  HC prog 173 [.e (.lit (.slice none 0 0)),.fn 174 [ks,kn]] ⟨vs,lv,N⟩ (pS N R) ⟨rm N kM C R vs,lv,N+1⟩:=by
 refine HC.ofM (rs:=[.tmp 4]) tok func173 rfl rfl (cD rfl) rfl (fun x hN h0 pg hok hB=>?_)
 simp only[dv,Nat.reduceAdd,cj]
 have Qj:=hok.lt hs
 have AU:=hok.lt hn
 refine vrs hN fun K hK=>?_
 refine s1 (d:=.pt N 0) (jb (cs:=[.e (.lit (.slice none 0 0))]) rfl) ?_
 refine s1 (d:=.own (N+1) 1 0 []) (d8 nM aW) ?_
 refine nl hK ?_
 refine AV.seq ?_
 refine vrs hN fun K hK=>?_
 refine sa ?_
 refine nl hK ?_
 refine AV.block ?_
 have ST:fc ⟨(N,[.e (.lit (.slice none 0 0))])::vs,(N+1,0,1,22)::lv,N+2⟩:=by
  refine⟨fun j es hj=>?_,fun id e hi=>?_⟩
  ·rcases dT hj with⟨e1,rfl⟩|⟨_,hj⟩
   ·exact⟨by rw[e1];show N<N+2;omega,rfl⟩
   ·obtain⟨h1,h2⟩:=hok.var j es hj
    exact⟨bC h1 (by show N≤N+2;omega),bx.2 fun d hd=>D.idsC_le (by show N≤N+2;omega) (bx.1 h2 d hd)⟩
  ·by_cases e1:id=N+1
   ·rw[e1];show N+1<N+2;omega
   ·have:=hok.tok id e (by rw[←hi];exact (al e1).symm)
    have h2:id<N:=this
    show id<N+2;omega
 refine AV.range (f:=174) (ks:=[ks,kn]) (Y:=AsI vs ((N+1,0,1,22)::lv) N kM C R) (S:=fun _=>False) rfl ⟨_,func174,rfl,rfl⟩ hB
  (Sw (kM:=kM) (I:=AsI vs ((N+1,0,1,22)::lv) N kM C) hC Ot hC2 (by show ks<N+2;omega) (by show kn<N+2;omega) (by rw[hN];exact cD rfl) ?_ ?_ ?_) ?_ ?_
 ·exact⟨_,_,0,rfl,ST,aC _,ah,fun j ds h=>am (hok.ne h (aC _)) h,fun h=>absurd h (by omega)⟩
 ·rintro q hp ⟨V,N1,kR,rfl,hokV,hN1,e1,ss,hR⟩
  exact⟨ss _ _ hs,ss _ _ hn,by show ks<N1;omega,by show kn<N1;omega⟩
 ·rintro q hp hq ⟨V,N1,kR,rfl,hokV,hN1,e1,ss,hR⟩ l y hy _ _
  refine vrr (hy.trans hN) (fun K hK=>?_)
  refine sa ?_
  refine .nil (hK _ _ fun a w hr=>⟨rfl,_,_,hr,fun y2 AS _ h0y=>AV.block (vrr (AS.trans hN) (fun K hK=>?_))⟩)
  have hkN:N<N1:=by omega
  have qG:([.ow kM (q*C*36) 36 C]:List D).length=1:=rfl
  by_cases hq0:q=0
  ·have hd:xN kR q=.e (.lit (.slice none 0 0)):=by rw[hq0];rfl
   rw[hd] at e1
   refine c1 (Pt.one _) ?_
   refine sa ?_
   have BU:D.cells (D.ow kM (q*C*36) 36 C)=some [.ow kM (q*C*36) 36 C]:=rfl
   refine q1s (d:=.gw N1 1 1) (hp':=⟨(N1,[D.ow kM (q*C*36) 36 C])::V,(N+1,0,1,22)::lv,N1+1⟩) (Od (cs:=[.ow kM (q*C*36) 36 C]) tok nM aW BU rfl) ?_
   refine q1 (d:=.gw (N1+1) 1 1) (hp':=⟨(N1+1,[D.ow kM (q*C*36) 36 C])::(N1,[D.ow kM (q*C*36) 36 C])::V,(N+1,0,1,22)::lv,N1+1+1⟩) (appN (ky:=N1) (news:=[.ow kM (q*C*36) 36 C]) tok nM aW ah rfl rfl rfl (by decide)) ?_
   refine v1 (k:=N) (F:=[xN kR q]) (ys:=[.gw (N1+1) 1 1]) (Pt.one _) rfl rfl rfl ?_ rfl (am (show N≠N1+1 by omega) (am (show N≠N1 by omega) (by rw[hd];exact e1)))
   refine nl hK ?_
   intro a w hr
   refine⟨_,_,hr,?_⟩
   refine⟨_,_,N1+1,rfl,?_,by omega,?_,fun j ds hj=>?_,fun _=>⟨by omega,by omega,?_⟩⟩
   ·exact ((hokV.cons (M:=N1+1+1) (by omega) (show N1<N1+1+1 by omega) (by simp[D.idsC];omega)).consM (show N1+1<N1+1+1 by omega) (by simp[D.idsC];omega)).consM (show N<N1+1+1 by omega) (by simp[D.idsC])
   ·rw[show xN (N1+1) (q+1)=.gw (N1+1) 1 1 by rw[hq0];rfl];exact ah
   ·have h1:=hok.lt hj
    exact am (by omega) (am (by omega) (am (by omega) (ss j ds hj)))
   ·rw[wK,show i5 kM C q=[] by rw[hq0];rfl]
    exact am (by omega) ah
  ·have hqp:0<q:=by omega
   obtain⟨k1,k2,k3⟩:=hR hqp
   have hd:xN kR q=.gw kR 1 q:=az hq0
   rw[hd] at e1
   have BU:D.cells (D.ow kM (q*C*36) 36 C)=some [.ow kM (q*C*36) 36 C]:=rfl
   refine c1 (Pt.one _) ?_
   refine sa ?_
   refine q1s (d:=.gw N1 1 1) (hp':=⟨(N1,[D.ow kM (q*C*36) 36 C])::V,(N+1,0,1,22)::lv,N1+1⟩) (Od (cs:=[.ow kM (q*C*36) 36 C]) tok nM aW BU rfl) ?_
   refine q1s (d:=.gw (N1+1) 1 (q+1)) (hp':=⟨(N1+1,i5 kM C q++[D.ow kM (q*C*36) 36 C])::((N1,[D.ow kM (q*C*36) 36 C])::V).filter (fun p=>!([kR]:List Nat).contains p.1),(N+1,0,1,22)::lv,N1+1+1⟩) (appR_ok (k:=kR) (n:=q) (ky:=N1) (ds:=i5 kM C q) (news:=[.ow kM (q*C*36) 36 C]) tok nM aW (am (show kR≠N1 by omega) k3) ah rfl rfl (by rw[Fw];exact (si q).symm) rfl (by
    have:q*1≤R*C:=gG (kQ hq) hC
    show (q+1)*24≤_;omega)) ?_
   refine v1 (k:=N) (F:=[xN kR q]) (ys:=[.gw (N1+1) 1 (q+1)]) (Pt.one _) rfl rfl rfl ?_ rfl (am (show N≠N1+1 by omega) ((F4 (show N≠kR by omega)).trans (am (show N≠N1 by omega) (by rw[hd];exact e1))))
   refine nl hK ?_
   intro a w hr
   refine⟨_,_,hr,?_⟩
   have hfil:fc ⟨((N1,[D.ow kM (q*C*36) 36 C])::V).filter fun p=>!([kR]:List Nat).contains p.1,(N+1,0,1,22)::lv,N1+1+1⟩:=by
    have h1:=hokV.cons (M:=N1+1+1) (by omega) (show N1<N1+1+1 by omega) (show ([D.ow kM (q*C*36) 36 C]).all (D.idsC (N1+1+1))=true by simp[D.idsC];omega)
    exact⟨fun j ds hj=>h1.var j ds (lH hj).2,h1.tok⟩
   refine⟨_,_,N1+1,rfl,?_,by omega,?_,fun j ds hj=>?_,fun _=>⟨by omega,by omega,?_⟩⟩
   ·refine (hfil.consM (show N1+1<N1+1+1 by omega) ?_).consM (show N<N1+1+1 by omega) (by simp[D.idsC])
    rw[←wK]
    exact sE (by omega)
   ·rw[show xN (N1+1) (q+1)=.gw (N1+1) 1 (q+1) from ifn_];exact ah
   ·have h1:=hok.lt hj
    exact am (by omega) (am (by omega) ((F4 (by omega)).trans (am (by omega) (ss j ds hj))))
   ·rw[wK]
    exact am (by omega) ah
 ·rintro x' Db hp' a w hbh hrs ⟨V,N1,kR,rfl,hokV,hN1,e1,ss,hR⟩
  show Code.wpIn (FWd none) 0 prog _ _ a w
  refine (vrs (x:=x') (hbh.N.trans hN) fun K hK=>?_) a w hrs
  have hokL:∀id e,lv.lookup id=some e→id<N:=hok.tok
  by_cases Lj:R=0
  ·have hd:xN kR R=.e (.lit (.slice none 0 0)):=by rw[Lj];rfl
   rw[hd] at e1
   refine c1 (Pt.one _) ?_
   refine s1 (d:=.own N1 1 0 []) (hp':=⟨V,(N1,0,1,22)::(N+1,0,1,22)::lv,N1+1⟩) (d8 nM aW) ?_
   refine .nil (hK _ _ (AV.ret fun a w hr=>⟨.inr rfl,x',Db,_,_,_,_,hbh,hr,[(4,.e (.sl 1 0 []))],?_,⟨_,ah,an Lj⟩⟩))
   unfold rm
   rw[an Lj]
   refine wkS2 (by show x.hp0.next≤_;rw[h0];exact eQ N) (by omega) (hok.up (eQ N)) ss (fun j y hj=>?_) (fun p hp=>?_)
   ·have:=hokL j y hj
    exact (al (by omega)).trans ((al (by omega)).trans hj)
   ·rw[qU] at hp
    subst hp
    exact⟨⟨_,ah,.inr rfl⟩,rfl⟩
  ·obtain⟨k1,k2,k3⟩:=hR (by omega)
   have hd:xN kR R=.gw kR 1 R:=az Lj
   rw[hd] at e1
   refine c1 (Pt.one _) ?_
   refine sa ?_
   refine .nil (hK _ _ (AV.ret fun a w hr=>⟨.inr rfl,x',Db,_,_,_,_,hbh,hr,[(4,.gw N 1 R)],?_,?_⟩))
   ·obtain⟨σ,hσ⟩:∃σ:Nat→Nat,σ=fun i=>if i=N then kR else i:=⟨_,rfl⟩
    have s1:σ N=kR:=by rw[hσ];exact an rfl
    have s2:∀i,i<N→σ i=i:=fun i hi=>by rw[hσ];exact ifn_
    refine Wk.perm σ (by show x.hp0.next≤_;rw[h0];exact eQ N) (fun i hi=>s2 i (by have:i<x.hp0.next:=hi;rw[h0] at this;exact this)) (fun i j hi hj he=>?_) (TmR.cons TmR.nil ?_ ?_) (fun k ds hk=>?_) (fun k y hk=>?_)
    ·rcases bO i N with h1|h1 <;> rcases bO j N with h2|h2
     ·rw[s2 i h1,s2 j h2] at he;exact he
     ·rw[s2 i h1,show j=N by omega,s1] at he;omega
     ·rw[s2 j h2,show i=N by omega,s1] at he;omega
     ·omega
    ·show _=some (D.gw (σ N) 1 R)
     rw[s1];exact rfl
    ·exact ck (dH N)
    ·unfold rm at hk
     rw[az Lj] at hk
     rcases dT hk with⟨e,rfl⟩|⟨e,hk⟩
     ·rw[e]
      refine⟨dH N,?_,sE (by omega),?_⟩
      ·rw[s1,Ob s2 (sE hkM) (by unfold i5;rw[bx];intro d hd;obtain⟨i,_,rfl⟩:=nz.1 hd;rfl)]
       exact k3
      ·unfold i5;rw[bx];intro d hd;obtain⟨i,_,rfl⟩:=nz.1 hd;rfl
     ·have hkN:=hok.lt hk
      have h2:=(hok.var k ds hk).2
      refine⟨by omega,?_,bx.2 fun d hd=>D.idsC_le (eQ N) (bx.1 h2 d hd),wU k ds hk⟩
      rw[s2 k hkN,Ob s2 h2 (wU k ds hk)]
      exact ss k ds hk
    ·have hkN:=hokL k y hk
     refine⟨by omega,?_⟩
     rw[s2 k hkN]
     exact (al (by omega)).trans hk
   ·exact⟨_,ah,az Lj⟩
 ·rintro x' D hp' a w _ _ hS
  exact hS.elim
end
end
section
abbrev RM:=Nat→Nat→Rat
def u6(f:RM)(R C:Nat)(x:Nat→Rat):Prop:=∀i,i<R→ff C (fun k=>f i k*x k)=0
structure IsR(f:RM)(R kk:Nat)(ps:List Nat):Prop where
 lt:∀j,j<ps.length→ps[j]! <kk
 inc:∀i j,i<j→j<ps.length→ps[i]! <ps[j]!
 le:ps.length≤R
 piv:∀i j,i<R→j<ps.length→f i ps[j]! =if i=j then 1 else 0
 z1:∀i k,i<ps.length→k<ps[i]!→f i k=0
 z2:∀i k,ps.length≤i→i<R→k<kk→f i k=0
theorem IsR.inj {f:RM}{R kk:Nat}{ps:List Nat}(h:IsR f R kk ps){i j:Nat}(hi:i<ps.length)(hj:j<ps.length)(he:ps[i]! =ps[j]!):i=j:=by
 rcases xm i j with h1|h1|h1
 ·have:=h.inc i j h1 hj;omega
 ·exact h1
 ·have:=h.inc j i h1 hi;omega
theorem ya {ps:List Nat}{k:Nat}(h:k∈ps):∃j,j<ps.length∧ps[j]! =k:=by
 obtain⟨j,hj,he⟩:=MI.1 h
 exact⟨j,hj,by rw[bK ps j hj];exact he⟩
theorem Ov {ps:List Nat}{j:Nat}(h:j<ps.length):ps[j]!∈ps:=by
 rw[bK ps j h];exact uc h
theorem Ck(a:Nat→Rat){C:Nat}:∀{ps:List Nat},ps.Nodup→(∀p∈ps,p<C)→ff C (fun k=>if k∈ps then a k else 0)=ff ps.length (fun j=>a ps[j]!)
 |[],_,_=>by simp only[uR,m7];exact ve C
 |p::ps,hn,hl=>by
  have hnp:=List.nodup_cons.1 hn
  have ih:=Ck a (C:=C) hnp.2 fun q hq=>hl q (io _ hq)
  have h1:ff C (fun k=>if k∈p::ps then a k else 0)=ff C (fun k=>(if k=p then a p else 0)+(if k∈ps then a k else 0)):=dy fun k _=>by
   by_cases hk:k=p
   ·subst hk;simp[hnp.1];grind
   ·simp[hk];grind
  have h2:∀n,ff (n+1) (fun j=>a (p::ps)[j]!)=a p+ff n (fun j=>a ps[j]!):=by
   intro n
   induction n with
   |zero=>simp[ff];grind
   |succ n ih=>rw[show ff (n+1+1) (fun j=>a (p::ps)[j]!)=ff (n+1) (fun j=>a (p::ps)[j]!)+a (p::ps)[n+1]! from rfl,ih,show ff (n+1) (fun j=>a ps[j]!)=ff n (fun j=>a ps[j]!)+a ps[n]! from rfl,show (p::ps)[n+1]! =ps[n]! from by simp];grind
  rw[h1,xK,sD p (a p) C (hl p (j8 ..)),ih]
  exact (h2 ps.length).symm
theorem IsR.nodup {f:RM}{R kk:Nat}{ps:List Nat}(h:IsR f R kk ps):ps.Nodup:=by
 rw[List.nodup_iff_pairwise_ne,DQ]
 intro i j hi hj Q1
 have:=h.inc i j Q1 hj
 rw[bK ps i hi,bK ps j hj] at this
 omega
def pU(f:RM)(ps:List Nat)(k t:Nat):Rat:=if t=k then 1 else match ps.idxOf? t with
 |some j=>-f j k
 |none=>0
theorem idx_of {ps:List Nat}{j:Nat}(hn:ps.Nodup)(hj:j<ps.length):ps.idxOf? ps[j]! =some j:=by
 rw[bK ps j hj,List.idxOf?_eq_some_iff]
 refine⟨hj,rfl,fun i hi=>?_⟩
 have:=DQ.1 (List.nodup_iff_pairwise_ne.1 hn) i j (by omega) hj hi
 simpa using this
theorem Sz {ps:List Nat}{k:Nat}(h:k∉ps):ps.idxOf? k=none:=by
 rw[List.idxOf?_eq_none_iff];exact h
section
variable {f g:RM} {R C:Nat} {ps qs:List Nat}
theorem vi(h:IsR f R C ps){k j:Nat}(hk:k∉ps)(hj:j<ps.length):pU f ps k ps[j]! =-f j k:=by
 unfold pU
 rw[az (fun e=>hk (by rw[←e];exact Ov hj)),idx_of h.nodup hj]
theorem wN(k:Nat):pU f ps k k=1:=an rfl
theorem rr {k t:Nat}(hk:t≠k)(ht:t∉ps):pU f ps k t=0:=by
 unfold pU
 rw[az hk,Sz ht]
theorem RF(h:IsR f R C ps)(a:Nat→Rat){k:Nat}(hk:k∉ps)(hkC:k<C):ff C (fun t=>a t*pU f ps k t)=a k - ff ps.length (fun j=>a ps[j]! *f j k):=by
 have h1:ff C (fun t=>a t*pU f ps k t)=ff C (fun t=>(if t=k then a k else 0)+(if t∈ps then a t*pU f ps k t else 0)):=dy fun t _=>by
  by_cases ht:t=k
  ·subst ht;rw[an rfl,az hk,wN];grind
  ·rw[az ht]
   by_cases hm:t∈ps
   ·rw[an hm];grind
   ·rw[az hm,rr ht hm];grind
 rw[h1,xK,sD k (a k) C hkC,Ck (fun t=>a t*pU f ps k t) h.nodup fun p hp=>by obtain⟨j,hj,rfl⟩:=ya hp;exact h.lt j hj]
 rw[dy (g:=fun j=>(-1)*(a ps[j]! *f j k)) fun j hj=>by rw[vi h hk hj];grind,uA]
 grind
theorem Fq {n:Nat}(a:Nat→Rat){i:Nat}(hi:i<n):ff n (fun j=>(if i=j then 1 else 0)*a j)=a i:=by
 rw[dy (g:=fun j=>if j=i then a i else 0) fun j _=>by
  by_cases h:i=j
  ·subst h;simp
  ·simp[h,lS h],sD i (a i) n hi]
theorem Ru {n:Nat}{a:Nat→Rat}(h:∀j,j<n→a j=0):ff n a=0:=by
 rw[dy (g:=fun _=>0) h,ve]
theorem P0(h:IsR f R C ps){k:Nat}(hk:k∉ps)(hkC:k<C):u6 f R C (pU f ps k):=by
 intro i hi
 rw[RF h (f i) hk hkC]
 by_cases hip:i<ps.length
 ·rw[dy (g:=fun j=>(if i=j then 1 else 0)*f j k) fun j hj=>by rw[h.piv i j hi hj],Fq (fun j=>f j k) hip];grind
 ·rw[Ru fun j hj=>by rw[h.piv i j hi hj,ifn_];grind,h.z2 i k (by omega) hi hkC];grind
theorem LK(h:IsR f R C ps){k t:Nat}(hk:k∉ps)(ht:k<t):pU f ps k t=0:=by
 by_cases hm:t∈ps
 ·obtain⟨j,hj,rfl⟩:=ya hm
  rw[vi h hk hj,h.z1 j k hj ht];grind
 ·exact rr (by omega) hm
theorem piv_last(h:IsR f R C ps){j:Nat}(hj:j<ps.length){x:Nat→Rat}(hx:u6 f R C x)(h0:∀t,ps[j]! <t→t<C→x t=0):x ps[j]! =0:=by
 have h1:=hx j (by have:=h.le;omega)
 rw[dy (g:=fun t=>if t=ps[j]! then x ps[j]! else 0) fun t ht=>by
  by_cases he:t=ps[j]!
  ·rw[an he,he,h.piv j j (by have:=h.le;omega) hj,an rfl];grind
  ·rw[az he]
   rcases bO t ps[j]! with h2|h2
   ·rw[h.z1 j t hj h2];grind
   ·rw[h0 t (by omega) ht];grind,sD _ _ C (h.lt j hj)] at h1
 exact h1
theorem sol_eq(hf:IsR f R C ps){x:Nat→Rat}(hx:u6 f R C x){t:Nat}(ht:t<C):x t=ff C (fun k=>if k∈ps then 0 else x k*pU f ps k t):=by
 by_cases hm:t∈ps
 ·obtain⟨j,hj,rfl⟩:=ya hm
  have h1:=hx j (by have:=hf.le;omega)
  have h2:ff C (fun k=>f j k*x k)=ff C (fun k=>(if k∈ps then f j k*x k else 0) - (if k∈ps then 0 else x k*pU f ps k ps[j]!)):=dy fun k _=>by
   by_cases hk:k∈ps
   ·rw[an hk,an hk];grind
   ·rw[az hk,az hk,vi hf hk hj];grind
  rw[h2,Jp,Ck (fun k=>f j k*x k) hf.nodup fun p hp=>by obtain⟨i,hi,rfl⟩:=ya hp;exact hf.lt i hi] at h1
  rw[dy (g:=fun i=>(if j=i then 1 else 0)*x ps[i]!) fun i hi=>by rw[hf.piv j i (by have:=hf.le;omega) hi],Fq (fun i=>x ps[i]!) hj] at h1
  grind
 ·rw[dy (g:=fun k=>if k=t then x t else 0) fun k _=>by
   by_cases hk:k=t
   ·subst hk;rw[az hm,an rfl,wN];grind
   ·rw[az hk]
    by_cases S1:k∈ps
    ·rw[an S1]
    ·rw[az S1,rr (fun e=>hk e.symm) hm];grind,sD t (x t) C ht]
end
end
section
def jl(f:RM)(a b:Nat):RM:=fun i k=>if i=a then f b k else if i=b then f a k else f i k
def pW(f:RM)(r k:Nat):RM:=fun i j=>if i=r then f r j / f r k else f i j - f i k*(f r j / f r k)
section
variable {f g:RM} {R C kk r k a b:Nat} {ps qs:List Nat}
theorem u6.congr {x:Nat→Rat}(h:∀i k,i<R→k<C→f i k=g i k)(hs:u6 f R C x):u6 g R C x:=fun i hi=>by
 rw[←hs i hi]
 exact dy fun t ht=>by rw[h i t hi ht]
theorem Ry {x:Nat→Rat}(ha:a<R)(hb:b<R):u6 (jl f a b) R C x↔u6 f R C x:=by
 have key:∀{f:RM},u6 f R C x→u6 (jl f a b) R C x:=fun {f} h i hi=>by
  unfold jl
  by_cases h1:i=a
  ·simp only[h1,fS];exact h b hb
  ·by_cases h2:i=b
   ·simp only[h1,h2,fS,m7]
    by_cases h3:b=a
    ·simp only[h3,fS];rw[←h3];exact h b hb
    ·simp only[h3,m7];exact h a ha
   ·simp only[h1,h2,m7];exact h i hi
 refine⟨fun h=>?_,key⟩
 have h2:=key h
 refine h2.congr fun i t _ _=>?_
 unfold jl
 by_cases h1:i=a
 ·subst h1
  by_cases h3:b=i <;> simp[h3]
 ·by_cases h2:i=b
  ·subst h2;simp[h1]
  ·simp[h1,h2]
theorem Rz {x:Nat→Rat}(hr:r<R)(hp:f r k≠0):u6 (pW f r k) R C x↔u6 f R C x:=by
 have SJ:ff C (fun t=>pW f r k r t*x t)=ff C (fun t=>f r t*x t) / f r k:=by
  rw[dy (g:=fun t=>(1 / f r k)*(f r t*x t)) fun t _=>by unfold pW;rw[an rfl];grind,uA]
  grind
 have hoth:∀i,i≠r→ff C (fun t=>pW f r k i t*x t)=ff C (fun t=>f i t*x t) - f i k*(ff C (fun t=>f r t*x t) / f r k):=fun i hi=>by
  rw[dy (g:=fun t=>f i t*x t - (f i k / f r k)*(f r t*x t)) fun t _=>by unfold pW;rw[az hi];grind,Jp,uA]
  grind
 constructor
 ·intro h i hi
  have h0:ff C (fun t=>f r t*x t)=0:=by
   have:=h r hr
   rw[SJ] at this
   have h2:ff C (fun t=>f r t*x t)=(ff C (fun t=>f r t*x t) / f r k)*f r k:=by grind
   rw[h2,this];grind
  by_cases hir:i=r
  ·subst hir;exact h0
  ·have:=h i hi
   rw[hoth i hir,h0] at this
   grind
 ·intro h i hi
  by_cases hir:i=r
  ·subst hir;rw[SJ,h i hr];grind
  ·rw[hoth i hir,h i hi,h r hr];grind
theorem IsR.congr(h:IsR f R kk ps)(hk:kk≤C)(he:∀i k,i<R→k<C→f i k=g i k):IsR g R kk ps:=by
 refine⟨h.lt,h.inc,h.le,fun i j hi hj=>?_,fun i k hi z3=>?_,fun i k hi hi2 z3=>?_⟩
 ·rw[←he i _ hi (by have:=h.lt j hj;omega)];exact h.piv i j hi hj
 ·have:=h.lt i hi;have:=h.le;rw[←he i k (by omega) (by omega)];exact h.z1 i k hi z3
 ·rw[←he i k hi2 (by omega)];exact h.z2 i k hi hi2 z3
theorem isR_nil(f:RM)(R:Nat):IsR f R 0 []:=⟨fun j h=>absurd h (by simp),fun i j _ h=>absurd h (by simp),il _,fun i j _ h=>absurd h (by simp),fun i k h=>absurd h (by simp),fun i k _ _ h=>absurd h (by omega)⟩
theorem IsR.none(h:IsR f R kk ps)(h0:∀i,ps.length≤i→i<R→f i kk=0):IsR f R (kk+1) ps:=
 ⟨fun j hj=>pZ (h.lt j hj),h.inc,h.le,h.piv,h.z1,fun i k h1 h2 h3=>by
  rcases bO k kk with h4|h4
  ·exact h.z2 i k h1 h2 h4
  ·rw[show k=kk by omega];exact h0 i h1 h2⟩
theorem IsR.full(h:IsR f R kk ps)(h0:ps.length=R)(hk:kk≤C):IsR f R C ps:=
 ⟨fun j hj=>bC (h.lt j hj) hk,h.inc,h.le,h.piv,h.z1,fun i k h1 h2 _=>by omega⟩
theorem yv {ps:List Nat}{q j:Nat}:(ps++[q])[j]! =if j<ps.length then ps[j]! else if j=ps.length then q else default:=by
 simp only[m4]
 by_cases h:j<ps.length
 ·rw[an h,uQ h]
 ·rw[az h,rH (by omega)]
  by_cases h2:j=ps.length
  ·rw[an h2,h2];simp
  ·rw[az h2,gP (by simp;omega)];rfl
theorem IsR.step(h:IsR f R kk ps){i0:Nat}(hi:ps.length≤i0)(hi2:i0<R)(lr:f i0 kk≠0):IsR (pW (jl f i0 ps.length) ps.length kk) R (kk+1) (ps++[kk]):=by
 have hr:ps.length<R:=by omega
 -- the row of the pivot is 0 ahead of it
 have hg:∀t,jl f i0 ps.length ps.length t=f i0 t:=fun t=>by
  unfold jl
  by_cases e:ps.length=i0
  ·rw[an e,←e]
  ·rw[az e,an rfl]
 have hg0:∀t,t<kk→f i0 t=0:=fun t ht=>h.z2 i0 t hi hi2 ht
 have hup:∀i t,i<ps.length→jl f i0 ps.length i t=f i t:=fun i t Ol=>by unfold jl;rw[ifn_,ifn_]
 have hE:∀i t,i≠ps.length→t<kk→pW (jl f i0 ps.length) ps.length kk i t=jl f i0 ps.length i t:=fun i t h1 h2=>by
  unfold pW
  rw[az h1,hg t,hg0 t h2];grind
 have hEr:∀t,t<kk→pW (jl f i0 ps.length) ps.length kk ps.length t=0:=fun t ht=>by
  unfold pW
  rw[an rfl,hg t,hg0 t ht];grind
 have EZ:∀i t,ps.length<i→i<R→t<kk→jl f i0 ps.length i t=0:=fun i t h1 h2 h3=>by
  unfold jl
  by_cases e:i=i0
  ·rw[an e];exact h.z2 _ t (aC _) hr h3
  ·rw[az e,ifn_];exact h.z2 i t (by omega) h2 h3
 have hcol:∀i,pW (jl f i0 ps.length) ps.length kk i kk=if i=ps.length then 1 else 0:=fun i=>by
  unfold pW
  by_cases e:i=ps.length
  ·rw[an e,an e,hg];grind
  ·rw[az e,az e,hg];grind
 have hlen:(ps++[kk]).length=ps.length+1:=by simp
 refine⟨fun j hj=>?_,fun i j Q1 hj=>?_,by omega,fun i j hi3 hj=>?_,fun i t hi3 ht=>?_,fun i t h1 h2 h3=>?_⟩
 ·rw[hlen] at hj
  rw[yv]
  by_cases e:j<ps.length
  ·rw[an e];have:=h.lt j e;omega
  ·rw[az e,ifp_];omega
 ·rw[hlen] at hj
  rw[yv,yv,an (show i<ps.length by omega)]
  by_cases e:j<ps.length
  ·rw[an e];exact h.inc i j Q1 e
  ·rw[az e,ifp_];exact h.lt i (by omega)
 ·rw[hlen] at hj
  rw[yv]
  by_cases e:j<ps.length
  ·rw[an e]
   have bh:=h.lt j e
   by_cases er:i=ps.length
   ·rw[er,hEr _ bh,ifn_]
   ·rw[hE i _ er bh]
    rcases bO i ps.length with h4|h4
    ·rw[hup i _ h4];exact h.piv i j hi3 e
    ·rw[EZ i _ (by omega) hi3 bh,ifn_]
  ·rw[az e,ifp_,hcol i]
   by_cases er:i=ps.length
   ·rw[an er,ifp_]
   ·rw[az er,ifn_]
 ·rw[hlen] at hi3
  rw[yv] at ht
  by_cases e:i<ps.length
  ·rw[an e] at ht
   have bh:=h.lt i e
   rw[hE i t (by omega) (by omega),hup i t e];exact h.z1 i t e ht
  ·rw[az e,ifp_] at ht
   rw[show i=ps.length by omega];exact hEr t ht
 ·rw[hlen] at h1
  rcases bO t kk with h4|h4
  ·rw[hE i t (by omega) h4];exact EZ i t (by omega) h2 h4
  ·rw[show t=kk by omega,hcol i,ifn_]
end
structure IG(n:Nat)(D:RM→Rat):Prop where
 congr:∀f g,(∀i k,i<n→k<n→f i k=g i k)→D f=D g
 swap:∀f a b,a<n→b<n→a≠b→D (jl f a b)=-D f
 scale:∀f r c,r<n→D (fun i k=>if i=r then c*f r k else f i k)=c*D f
 add:∀f r i c,r<n→i<n→i≠r→D (fun j k=>if j=i then f i k+c*f r k else f j k)=D f
section
variable {n:Nat} {D:RM→Rat} {f:RM} {r k:Nat}
theorem IG.elim(h:IG n D)(hr:r<n)(hp:f r k≠0):D (pW f r k)=D f / f r k:=by
 -- the rows ahead of m are done
 have key:∀m,m≤n→D (fun i j=>if i=r then f r j / f r k else if i<m then f i j - f i k*(f r j / f r k) else f i j)=D f / f r k:=by
  intro m
  induction m with
  |zero=>
   intro _
   have:=h.scale f r (1 / f r k) hr
   rw[h.congr _ (fun i j=>if i=r then 1 / f r k*f r j else f i j) fun i j _ _=>by
    by_cases e:i=r
    ·rw[an e,an e];grind
    ·rw[az e,az e,ifn_],this]
   grind
  |succ m ih=>
   intro hm
   rw[←ih (by omega)]
   by_cases e:m=r
   ·refine h.congr _ _ fun i j _ _=>?_
    by_cases e2:i=r
    ·rw[an e2,an e2]
    ·rw[az e2,az e2]
     by_cases e3:i<m
     ·rw[an e3,ifp_]
     ·rw[az e3,ifn_]
   ·have:=h.add (fun i j=>if i=r then f r j / f r k else if i<m then f i j - f i k*(f r j / f r k) else f i j) r m (-f m k) hr (by omega) e
    rw[←this]
    refine h.congr _ _ fun i j _ _=>?_
    by_cases e2:i=m
    ·subst e2
     simp only[fS,az e,u3,m7,dH]
     grind
    ·rw[az e2]
     by_cases e3:i=r
     ·rw[an e3,an e3]
     ·rw[az e3,az e3]
      by_cases e4:i<m
      ·rw[an e4,ifp_]
      ·rw[az e4,ifn_]
 rw[←key n (aC n)]
 refine h.congr _ _ fun i j hi _=>?_
 unfold pW
 by_cases e:i=r
 ·rw[an e,an e]
 ·rw[az e,az e,an hi]
end
end
section
def wY(C k:Nat)(V:List Nu):Nat→Nat→Option Nat
 |0,_=>none
 |n+1,i=>if jo V[i*C+k]!≠0 then some i else wY C k V n (i+1)
def gh(C:Nat)(V:List Nu)(i r:Nat):Nat→List Nu
 |0=>V
 |j+1=>((gh C V i r j).set (i*C+j) (gh C V i r j)[r*C+j]!).set (r*C+j) (gh C V i r j)[i*C+j]!
def uP(V:List Nu)(o:Nat)(h:List Nu→Nat→Nu):Nat→List Nu
 |0=>V
 |j+1=>(uP V o h j).set (o+j) (h (uP V o h j) j)
def iD(C k r:Nat)(V:List Nu):Nat→List Nu
 |0=>V
 |n+1=>if n≠r∧jo (iD C k r V n)[n*C+k]!≠0 then uP (iD C k r V n) (n*C) (fun U j=>Bp U[n*C+j]! (tD (iD C k r V n)[n*C+k]! U[r*C+j]!)) C else iD C k r V n
structure Pv where
 col:Nat
 by':Nu
 mov:Bool
 deriving Inhabited
def byN(C k i r:Nat)(V:List Nu):Nu:=(gh C V i r C)[r*C+k]!
def po(R C k i r:Nat)(V:List Nu):List Nu:=iD C k r (uP (gh C V i r C) (r*C) (fun U j=>wO U[r*C+j]! (byN C k i r V)) C) R
def lh(R C:Nat):Nat→Nat→Nat→List Nu→List Pv→Option (List Nu×List Pv)
 |0,_,_,V,acc=>some (V,acc)
 |n+1,k,r,V,acc=>if r<R then
   match wY C k V (R - r) r with
   |none=>lh R C n (k+1) r V acc
   |some i=>if (po R C k i r V).all aH then lh R C n (k+1) (r+1) (po R C k i r V) (acc++[⟨k,byN C k i r V,decide (i≠r)⟩]) else none
  else some (V,acc)
theorem HQ {V:List Nu}{i t:Nat}{x:Nu}(hi:i<V.length):(V.set i x)[t]! =if t=i then x else V[t]! :=by
 simp only[m4]
 by_cases h:t=i
 ·subst h;rw[an rfl,MZ hi];rfl
 ·rw[az h,MY (fun e=>h e.symm)]
theorem oI {C:Nat}{V:List Nu}{i r:Nat}:∀j,(gh C V i r j).length=V.length
 |0=>rfl
 |j+1=>by unfold gh;rw[A9,A9,oI j]
theorem qQ {V:List Nu}{o:Nat}{h:List Nu→Nat→Nu}:∀j,(uP V o h j).length=V.length
 |0=>rfl
 |j+1=>by unfold uP;rw[A9,qQ j]
theorem sF {C k r:Nat}{V:List Nu}:∀n,(iD C k r V n).length=V.length
 |0=>rfl
 |n+1=>by
  unfold iD
  split
  ·rw[qQ,sF n]
  ·exact sF n
theorem vf {R C k i r:Nat}{V:List Nu}:(po R C k i r V).length=V.length:=by unfold po;rw[sF,qQ,oI]
theorem cT {R C i j:Nat}(hi:i<R)(hj:j<C):i*C+j<R*C:=by
 have:(i+1)*C≤R*C:=bY C hi
 rw[aX,dq] at this
 omega
theorem zC {C i j i' j':Nat}(hj:j<C)(Lf:j'<C)(h:i*C+j=i'*C+j'):i=i'∧j=j':=by
 have h1:(i*C+j) / C=i:=by rw[bj,xg (by omega),dE hj];omega
 have h2:(i'*C+j') / C=i':=by rw[bj,xg (by omega),dE Lf];omega
 have:i=i':=by rw[←h1,←h2,h]
 subst this
 exact⟨rfl,by omega⟩
section
variable {R C:Nat} {V:List Nu}
theorem Fp(hV:V.length=R*C){i r:Nat}(hi:i<R)(hr:r<R):∀j,j≤C→∀a b,a<R→b<C→(gh C V i r j)[a*C+b]! =if b<j then (if a=i then V[r*C+b]! else if a=r then V[i*C+b]! else V[a*C+b]!) else V[a*C+b]!
 |0,_,a,b,_,_=>by rw[ifn_];rfl
 |j+1,hj,a,b,ha,hb=>by
  have ih:=Fp hV hi hr j (by omega)
  have Bv:i*C+j<(gh C V i r j).length:=by rw[oI,hV];exact cT hi (by omega)
  have oQ:r*C+j<(gh C V i r j).length:=by rw[oI,hV];exact cT hr (by omega)
  unfold gh
  rw[HQ (by rw[A9];exact oQ),HQ Bv]
  have e1:=ih r j hr (by omega)
  have e2:=ih i j hi (by omega)
  have e3:=ih a b ha hb
  have p1:(a*C+b=r*C+j)↔(a=r∧b=j):=⟨fun e=>zC hb (by omega) e,by rintro⟨rfl,rfl⟩;rfl⟩
  have p2:(a*C+b=i*C+j)↔(a=i∧b=j):=⟨fun e=>zC hb (by omega) e,by rintro⟨rfl,rfl⟩;rfl⟩
  rw[az (u3 j)] at e1 e2
  simp only[p1,p2]
  by_cases hbj:b=j
  ·subst hbj
   rw[az (u3 b)] at e3
   by_cases har:a=r
   ·subst har
    by_cases hai:a=i
    ·subst hai;simp[e2]
    ·simp[hai,e2]
   ·by_cases hai:a=i
    ·subst hai;simp[har,e1]
    ·simp[har,hai,e3]
  ·have h2:(b<j+1)↔(b<j):=by omega
   simp only[hbj,and_false,m7,h2]
   exact e3
theorem KB {n o:Nat}{h:List Nu→Nat→Nu}(ho:o+n≤V.length)(hh:∀(U:List Nu) j,j<n→(∀t,t<o∨o+j≤t→U[t]! =V[t]!)→h U j=h V j):∀j,j≤n→∀t,(uP V o h j)[t]! =if o≤t∧t<o+j then h V (t - o) else V[t]!
 |0,_,t=>by rw[ifn_];rfl
 |j+1,hj,t=>by
  have ih:=KB ho hh j (by omega)
  unfold uP
  rw[HQ (by rw[qQ];omega)]
  by_cases e:t=o+j
  ·subst e
   rw[an rfl,ifp_,hh _ j (by omega) (fun t ht=>by rw[ih t,ifn_]),show o+j - o=j by omega]
  ·rw[az e,ih t]
   by_cases h2:o≤t∧t<o+j
   ·rw[an h2,ifp_]
   ·rw[az h2,ifn_]
theorem KA(hV:V.length=R*C){i:Nat}(hi:i<R){h:List Nu→Nat→Nu}(hh:∀(U:List Nu) j,j<C→(∀a b,a<R→b<C→a≠i∨j≤b→U[a*C+b]! =V[a*C+b]!)→h U j=h V j){a b:Nat}(ha:a<R)(hb:b<C):
  (uP V (i*C) h C)[a*C+b]! =if a=i then h V b else V[a*C+b]! :=by
 have hle:i*C+C≤V.length:=by
  rw[hV]
  have:(i+1)*C≤R*C:=bY C hi
  rw[aX,dq] at this
  exact this
 rw[KB hle (fun U j hj hU=>hh U j hj fun a b ha hb A2=>hU _ ?_) C (aC _)]
 ·by_cases e:a=i
  ·subst e
   rw[an ⟨by omega,by omega⟩,an rfl,show a*C+b - a*C=b by omega]
  ·rw[az e,az]
   intro⟨h1,h2⟩
   obtain⟨d,hd⟩:∃d,a*C+b=i*C+d:=⟨a*C+b - i*C,by omega⟩
   exact e (zC hb (show d<C by omega) hd).1
 ·rcases A2 with h1|h1
  ·rcases bO a i with h2|h2
   ·left
    have:(a+1)*C≤i*C:=bY C h2
    rw[aX,dq] at this
    omega
   ·right
    have:(i+1)*C≤a*C:=bY C (by omega)
    rw[aX,dq] at this
    omega
  ·rcases xm a i with h2|h2|h2
   ·left
    have:(a+1)*C≤i*C:=bY C h2
    rw[aX,dq] at this
    omega
   ·subst h2;right;omega
   ·right
    have:(i+1)*C≤a*C:=bY C (by omega)
    rw[aX,dq] at this
    omega
theorem zx(hV:V.length=R*C){k r:Nat}(hk:k<C)(hr:r<R):∀n,n≤R→∀a b,a<R→b<C→(iD C k r V n)[a*C+b]! =if a<n∧a≠r∧jo V[a*C+k]!≠0 then Bp V[a*C+b]! (tD V[a*C+k]! V[r*C+b]!) else V[a*C+b]!
 |0,_,a,b,_,_=>by rw[ifn_];rfl
 |n+1,hn,a,b,ha,hb=>by
  have ih:=zx hV hk hr n (by omega)
  have hx:(iD C k r V n)[n*C+k]! =V[n*C+k]! :=by rw[ih n k (by omega) hk,ifn_]
  have hlen:(iD C k r V n).length=R*C:=by rw[sF,hV]
  unfold iD
  by_cases hc:n≠r∧jo (iD C k r V n)[n*C+k]!≠0
  ·rw[an hc,KA hlen (show n<R by omega) (fun U j hj hU=>by rw[hU n j (by omega) hj (.inr (aC _)),hU r j hr hj (.inl (lS hc.1))]) ha hb]
   rw[hx] at hc ⊢
   by_cases e:a=n
   ·subst e
    rw[an rfl,an ⟨by omega,hc⟩,ih a b ha hb,ifn_,ih r b hr hb,ifn_]
   ·rw[az e,ih a b ha hb]
    by_cases h2:a<n∧a≠r∧jo V[a*C+k]!≠0
    ·rw[an h2,an ⟨by omega,h2.2⟩]
    ·rw[az h2,az fun h3=>h2 ⟨by omega,h3.2⟩]
  ·rw[az hc,ih a b ha hb]
   rw[hx] at hc
   by_cases h2:a<n∧a≠r∧jo V[a*C+k]!≠0
   ·rw[an h2,an ⟨by omega,h2.2⟩]
   ·rw[az h2,az fun h3=>?_]
    by_cases e:a=n
    ·subst e;exact hc h3.2
    ·exact h2 ⟨by omega,h3.2⟩
def toR(C:Nat)(V:List Nu):RM:=fun i k=>rv V[i*C+k]!
theorem ry(hg:V.all aH=true){t:Nat}(ht:t<V.length):aH V[t]! =true:=by
 rw[bK V t ht];exact bx.1 hg _ (uc ht)
theorem FU {k:Nat}:∀{n i i0:Nat},wY C k V n i=some i0→i≤i0∧i0<i+n∧jo V[i0*C+k]!≠0
 |0,_,_,h=>by cases h
 |n+1,i,i0,h=>by
  unfold wY at h
  split at h
  ·rename_i hs;cases h;exact⟨by omega,by omega,hs⟩
  ·obtain⟨h1,h2,h3⟩:=FU h;exact⟨by omega,by omega,h3⟩
theorem FV {k:Nat}:∀{n i:Nat},wY C k V n i=none→∀j,i≤j→j<i+n→jo V[j*C+k]! =0
 |0,i,_,j,h1,h2=>by omega
 |n+1,i,h,j,h1,h2=>by
  unfold wY at h
  split at h
  ·cases h
  ·rename_i hs
   by_cases e:j=i
   ·subst e;exact Classical.not_not.1 hs
   ·exact FV h j (by omega) (by omega)
theorem nSub_rv {x y:Nu}(h:aH (Bp x y)=true):aH x=true∧aH y=true∧rv (Bp x y)=rv x - rv y:=by
 have hs:Bp x y=ES x (He y):=by
  rw[JQ,xY,xW]
  have hv:cR (nuR (G7 (cR y.1))).1=G7 (cR y.1):=by
   refine qa ?_
   intro p hp
   cases hy:cR y.1 with
   |none=>rw[hy] at hp;cases hp
   |some q=>
    rw[hy] at hp
    have:-q=p:=by injection hp
    rw[←this];exact Ko (fb.1 hy).1
  exact congrArg nuR (show osub (cR x.1) (cR y.1)=JH (cR x.1) (cR (nuR (G7 (cR y.1))).1) by rw[hv];rfl)
 rw[hs] at h ⊢
 obtain⟨h1,h2⟩:=Kj h
 rw[zF] at h2
 rw[Hg h1 (by rw[zF];exact h2) h,N5]
 exact⟨h1,h2,by grind⟩
theorem stepN_R(hV:V.length=R*C)(hg:V.all aH=true){k i r:Nat}(hk:k<C)(hi:i<R)(hr:r<R)(Ml:(po R C k i r V).all aH=true):
  aH (byN C k i r V)=true∧rv (byN C k i r V)=jl (toR C V) i r r k∧∀a b,a<R→b<C→toR C (po R C k i r V) a b=pW (jl (toR C V) i r) r k a b:=by
 have hgo:∀a b,a<R→b<C→aH V[a*C+b]! =true:=fun a b ha hb=>ry hg (by rw[hV];exact cT ha hb)
 have Bv:(gh C V i r C).length=R*C:=by rw[oI,hV]
 have hs:∀a b,a<R→b<C→(gh C V i r C)[a*C+b]! =if a=i then V[r*C+b]! else if a=r then V[i*C+b]! else V[a*C+b]! :=fun a b ha hb=>by rw[Fp hV hi hr C (aC _) a b ha hb,an hb]
 have hsg:∀a b,a<R→b<C→aH (gh C V i r C)[a*C+b]! =true∧rv (gh C V i r C)[a*C+b]! =jl (toR C V) i r a b:=fun a b ha hb=>by
  rw[hs a b ha hb]
  unfold jl toR
  split
  ·exact⟨hgo r b hr hb,rfl⟩
  ·split
   ·exact⟨hgo i b hi hb,rfl⟩
   ·exact⟨hgo a b ha hb,rfl⟩
 have Q3:=hsg r k hr hk
 have oQ:(uP (gh C V i r C) (r*C) (fun U j=>wO U[r*C+j]! (byN C k i r V)) C).length=R*C:=by rw[qQ,Bv]
 have hd:∀a b,a<R→b<C→(uP (gh C V i r C) (r*C) (fun U j=>wO U[r*C+j]! (byN C k i r V)) C)[a*C+b]! =if a=r then wO (gh C V i r C)[r*C+b]! (byN C k i r V) else (gh C V i r C)[a*C+b]! :=fun a b ha hb=>
  KA Bv hr (fun U j hj hU=>by rw[hU r j hr hj (.inr (aC _))]) ha hb
 have zY:∀a b,a<R→b<C→aH (po R C k i r V)[a*C+b]! =true:=fun a b ha hb=>ry Ml (by rw[vf,hV];exact cT ha hb)
 have SJ:∀b,b<C→(po R C k i r V)[r*C+b]! =wO (gh C V i r C)[r*C+b]! (byN C k i r V):=fun b hb=>by
  unfold po
  rw[zx oQ hk hr R (aC _) r b hr hb,ifn_,hd r b hr hb,an rfl]
 have hrv:∀b,b<C→rv (wO (gh C V i r C)[r*C+b]! (byN C k i r V))=jl (toR C V) i r r b / jl (toR C V) i r r k:=fun b hb=>by
  have h1:=zY r b hr hb
  rw[SJ b hb] at h1
  obtain⟨_,_,_,h2⟩:=Tp h1
  rw[h2,(hsg r b hr hb).2]
  unfold byN
  rw[Q3.2]
 refine⟨Q3.1,Q3.2,fun a b ha hb=>?_⟩
 show rv (po R C k i r V)[a*C+b]! =_
 unfold pW
 by_cases e:a=r
 ·subst e
  rw[an rfl,SJ b hb,hrv b hb]
 ·rw[az e]
  have h1:=zY a b ha hb
  unfold po at h1 ⊢
  rw[zx oQ hk hr R (aC _) a b ha hb,hd a k ha hk,hd a b ha hb,hd r b hr hb,az e,az e,an rfl] at h1 ⊢
  by_cases hc:a<R∧a≠r∧jo (gh C V i r C)[a*C+k]!≠0
  ·rw[an hc] at h1 ⊢
   obtain⟨_,h3,h4⟩:=nSub_rv h1
   obtain⟨h5,h6⟩:=Dc h3
   rw[h4,BP h5 h6 h3,(hsg a b ha hb).2,(hsg a k ha hk).2,hrv b hb]
  ·rw[az hc]
   have h0:jo (gh C V i r C)[a*C+k]! =0:=by
    apply MN
    intro h;exact hc ⟨ha,e,h⟩
   have:=(Ju (hsg a k ha hk).1).1 h0
   rw[(hsg a k ha hk).2] at this
   rw[(hsg a b ha hb).2,this];grind
structure UQ(R C:Nat)(f:RM)(W:List Nu)(l:List Pv):Prop where
 len:W.length=R*C
 good:W.all aH=true
 red:IsR (toR C W) R C (l.map (·.col))
 sol:∀x,u6 (toR C W) R C x↔u6 f R C x
 byG:∀p∈l,aH p.by'=true∧rv p.by'≠0
 det:∀D,R=C→IG R D→D f=(l.foldl (fun c p=>c*(rv p.by'*if p.mov then -1 else 1)) 1)*D (toR C W)
theorem GZ {f:RM}:∀(n k r:Nat) (V:List Nu) (acc:List Pv) {W:List Nu} {l:List Pv},k+n=C→V.length=R*C→V.all aH=true→acc.length=r→IsR (toR C V) R k (acc.map (·.col))→(∀x,u6 (toR C V) R C x↔u6 f R C x)→(∀p∈acc,aH p.by'=true∧rv p.by'≠0)→
  (∀D,R=C→IG R D→D f=(acc.foldl (fun c p=>c*(rv p.by'*if p.mov then -1 else 1)) 1)*D (toR C V))→lh R C n k r V acc=some (W,l)→UQ R C f W l
 |0,k,r,V,acc,W,l,hk,hV,hg,ha,hI,hs,hb,hd,h=>by
  unfold lh at h
  cases h
  exact⟨hV,hg,by rw[show C=k by omega];rw[show C=k by omega] at hI;exact hI,hs,hb,hd⟩
 |n+1,k,r,V,acc,W,l,hk,hV,hg,ha,hI,hs,hb,hd,h=>by
  unfold lh at h
  have Qp:(acc.map (·.col)).length=r:=by rw[bc,ha]
  by_cases hr:r<R
  ·rw[an hr] at h
   have hgo:∀a,a<R→aH V[a*C+k]! =true:=fun a ha=>ry hg (by rw[hV];exact cT ha (by omega))
   cases hf:wY C k V (R - r) r with
   |none=>
    rw[hf] at h
    refine GZ n (k+1) r V acc (by omega) hV hg ha (hI.none fun i h1 h2=>?_) hs hb hd h
    rw[Qp] at h1
    exact (Ju (hgo i h2)).1 (FV hf i h1 (by omega))
   |some i=>
    rw[hf] at h
    dsimp only at h
    obtain⟨h1,h2,h3⟩:=FU hf
    by_cases jp:(po R C k i r V).all aH=true
    ·rw[an jp] at h
     obtain⟨h4,h5,h6⟩:=stepN_R hV hg (show k<C by omega) (show i<R by omega) hr jp
     have lr:toR C V i k≠0:=fun e=>h3 ((Ju (hgo i (by omega))).2 e)
     have hsw:jl (toR C V) i r r k=toR C V i k:=by
      unfold jl
      by_cases e:r=i
      ·rw[an e,←e]
      ·rw[az e,an rfl]
     have zY:=hI.step (i0:=i) (by rw[Qp];exact h1) (by omega) lr
     rw[Qp] at zY
     refine GZ n (k+1) (r+1) _ _ (by omega) (by rw[vf,hV]) jp (by simp[ha]) ?_ (fun x=>?_) ?_ (fun D Ot hD=>?_) h
     ·rw[lf]
      exact zY.congr (by omega) fun a b ha hb=>(h6 a b ha hb).symm
     ·rw[←hs x,←Ry (f:=toR C V) (show i<R by omega) hr,←Rz (f:=jl (toR C V) i r) hr (by rw[hsw];exact lr)]
      exact⟨fun h=>h.congr h6,fun h=>h.congr fun a b ha hb=>(h6 a b ha hb).symm⟩
     ·intro p hp
      rcases jK.1 hp with h7|h7
      ·exact hb p h7
      ·rw[qU.1 h7];exact⟨h4,by rw[h5,hsw];exact lr⟩
     ·rw[hd D Ot hD,ML,Ik,List.foldl_nil,hD.congr _ _ (fun a b ha hb=>h6 a b ha (by omega)),hD.elim hr (by rw[hsw];exact lr),h5,hsw]
      by_cases e:i=r
      ·rw[hD.congr (jl (toR C V) i r) (toR C V) fun a b _ _=>by
        unfold jl
        by_cases e3:a=i
        ·rw[an e3,e3,e]
        ·rw[az e3,ifn_]]
       simp only[e,ne_eq,Id,se,MX,m7]
       subst e
       grind
      ·rw[hD.swap _ i r (by omega) hr e]
       simp only[e,ne_eq,not_false_eq_true,sf,fS]
       grind
    ·rw[az jp] at h;cases h
  ·rw[az hr] at h
   cases h
   have hle:=hI.le
   rw[Qp] at hle
   exact⟨hV,hg,hI.full (by rw[Qp];omega) (by omega),hs,hb,hd⟩
theorem LH(hV:V.length=R*C)(hg:V.all aH=true){W:List Nu}{l:List Pv}(h:lh R C C 0 0 V []=some (W,l)):UQ R C (toR C V) W l:=
 GZ C 0 0 V [] (by omega) hV hg rfl (isR_nil _ R) (fun _=>Iff.rfl) (by simp) (fun D _ _=>by simp only[List.foldl_nil];grind) h
end
end
section
section
variable {vs:List (Nat×List D)} {lv:List (Nat×Nat×Nat×TypeId)} {N C R kM ks kn:Nat}
theorem Qq(hC:1≤C)(Ot:R*C≤1000000)(hC2:C≤1000000)(hs:vs.lookup ks=some [g7 kM (R*C)])(hn:vs.lookup kn=some [dI .i64 C])(hkM:kM<N)(wU:∀k ds,vs.lookup k=some ds→ds.all D.noO=true):
  HC prog 138 [.fn 174 [ks,kn]] ⟨vs,lv,N⟩ (pS (N+1) R) ⟨rm (N+1) kM C R vs,lv,N+1+1⟩:=by
 refine HC.of (rs:=[.tmp 2]) tok func138 rfl rfl (cD rfl) rfl (fun cx hx h0 hok=>?_)
 simp only[dv,Nat.reduceAdd,cj]
 have hap:=Kg (lv:=(N,0,1,22)::lv) (N:=N+1) hC Ot hC2 hs hn (by omega) wU
 have hokL:∀id e,lv.lookup id=some e→id<N:=hok.tok
 have hokH:fc ⟨rm (N+1) kM C R vs,lv,N+1+1⟩:=by
  unfold rm
  split
  ·exact hok.up (by omega)
  ·exact hok.cons (by omega) (by omega) (sE (by omega))
 refine rs hx fun K hK=>?_
 refine s1 (d:=.own N 1 0 []) (hp':=⟨vs,(N,0,1,22)::lv,N+1⟩) (d8 nM aW) ?_
 refine nl hK ?_
 have Og:∀tm,tm.lookup 2=some (pS (N+1) R)→∃tm',Wk cx tm ⟨rm (N+1) kM C R vs,(N,0,1,22)::lv,N+1+1⟩ tm' ⟨rm (N+1) kM C R vs,lv,N+1+1⟩∧xp tbl [.tmp 2] tm' ⟨rm (N+1) kM C R vs,lv,N+1+1⟩ (pS (N+1) R):=by
  intro tm ht
  refine⟨[(2,pS (N+1) R)],wkS2 (by rw[h0];show N≤_;omega) (aC _) hokH (fun j ds h=>h) (fun j y hj=>(al (by have:=hokL j y hj;omega)).trans hj) (pc.cons pc.nil ht ?_),⟨_,ah,rfl⟩⟩
  unfold pS
  split
  ·rfl
  ·exact det_
 by_cases Lj:R=0
 ·have hq:pS (N+1) R=.e (.sl 1 0 []):=an Lj
  rw[hq] at hap Og ⊢
  refine rs hx fun K hK=>?_
  refine sa ?_
  refine q1 (sHC hap rfl (.inl (by kernel_rfl))) ?_
  refine sa ?_
  refine nl hK ?_
  exact AW.ret (Og _ rfl)
 ·have hq:pS (N+1) R=.gw (N+1) 1 R:=az Lj
  rw[hq] at hap Og ⊢
  refine rs hx fun K hK=>?_
  refine sa ?_
  refine q1 (sHC hap rfl (.inl (by kernel_rfl))) ?_
  refine sa ?_
  refine nl hK ?_
  exact AW.ret (Og _ rfl)
def lE(kM R C:Nat):List D:=[dI .i64 R,dI .i64 C,g7 kM (R*C)]
theorem CI {M:Nat}(h:kM<M)(n:Nat):(g7 kM n).idsC M=true:=by
 unfold g7
 split
 ·rfl
 ·exact ck h
theorem LR(kM n:Nat):D.cells (g7 kM n)=some [g7 kM n]:=by
 unfold g7
 split <;> rfl
theorem h_steps(hkM:kM<N):HC prog 108 [.ag (lE kM R C)] ⟨vs,lv,N⟩ (.fn 137 [N]) ⟨(N,lE kM R C)::vs,lv,N+1⟩:=by
 refine HC.of (rs:=[.tmp 2]) tok func108 rfl rfl (cD rfl) rfl (fun cx hx h0 hok=>?_)
 simp only[dv,Nat.reduceAdd,cj]
 have ST:fc ⟨(N,lE kM R C)::vs,lv,N+1⟩:=hok.cons (eQ _) (dH _) (by unfold lE;simp only[jL,oF,iY];simp only[CI (show kM<N+1 by omega),iY];rfl)
 refine rs hx fun K hK=>?_
 refine s1 (d:=.pt N 0) (jb (cs:=lE kM R C) rfl) ?_
 refine sa ?_
 refine nl hK ?_
 refine rs hx fun K hK=>?_
 refine s1 (d:=.fn 137 [N]) wy ?_
 refine sa ?_
 refine nl hK ?_
 exact AW.ret (⟨[(2,.fn 137 [N])],wkS (by rw[h0];show N≤N+1;omega) (aC _) ST (fun j ds h=>h) (pc.cons pc.nil rfl (by simp[D.idsB,D.idsC])),⟨_,ah,rfl⟩⟩)
end
section
variable {md:Md} {ops:Array Oper} {K:List (Nat×D)→Hp→Prop} {os:List Oper} {tm:List (Nat×D)} {hp:Hp} {t:Tmp} {ty:TypeId} {pos:String} {af:Array Edge} {k i j o n C:Nat} {x y:Operand}
theorem i1r(h:j<C)(h2:aQ prog tbl md ops K os ((t,.pt k ((i*C+j)*36))::tm) hp)(hx:evD tm x=.ow k (i*C*36) 36 C:=by exact rfl)(hy:evD tm y=dI .i64 (j:Int):=by exact rfl)(hn:md.nc tbl (.indexAddr 22 x y)=true:=by exact rfl):aQ prog tbl md ops K (⟨some t,.indexAddr 22 x y,ty,pos,af,none⟩::os) tm hp:=by
 have:=yU (P:=prog) (tb:=tbl) (dr:=md.dr) (ty:=ty) (ev:=evD tm) (hp:=hp) (x:=x) (y:=y) (v:=(j:Int)) (n:=C) (kn:=.i64) ⟨by omega,by omega⟩ aW aR rfl hx rfl hy
 rw[aD,show i*C*36+j*36=(i*C+j)*36 by rw[aX]] at this
 exact s1 this h2 hn
theorem wm(h:i<n)(h2:aQ prog tbl md ops K os ((t,.pt k (o+i))::tm) hp)(hx:(evD tm x).toOw=.ow k o 1 n:=by exact rfl)(hy:(evD tm y).toOw=dI .i64 (i:Int):=by exact rfl)(hn:md.nc tbl (.indexAddr 52 x y)=true:=by exact rfl):aQ prog tbl md ops K (⟨some t,.indexAddr 52 x y,ty,pos,af,none⟩::os) tm hp:=by
 have:=yU (P:=prog) (tb:=tbl) (dr:=md.dr) (ty:=ty) (ev:=fun x=>(evD tm x).toOw) (hp:=hp) (x:=x) (y:=y) (v:=(i:Int)) (n:=n) (kn:=.i64) ⟨by omega,by omega⟩ nM aW rfl hx rfl hy
 rw[aD,show o+i*1=o+i by omega] at this
 exact stG (d:=.pt k (o+i)) tok this h2 hn
end
theorem Pt.row {kM C n i:Nat}(h:i<n):Pt (i5 kM C n) i [.ow kM (i*C*36) 36 C] (fun ys=>(i5 kM C n).take i++ys++(i5 kM C n).drop (i+1)):=by
 have hlen:=Fw kM C n
 have hg:(i5 kM C n)[i]? =some (.ow kM (i*C*36) 36 C):=by unfold i5;rw[bE,MS h];rfl
 refine Pt.of ((i5 kM C n).take i) ((i5 kM C n).drop (i+1)) (by rw[cz,hlen];omega) ?_ fun y=>rfl
 conv=>lhs;rw[←n9 i (i5 kM C n)]
 rw[bP]
 congr 1
 rw[Il (by rw[hlen];exact h)]
 have:=lV.1 hg
 obtain⟨_,h2⟩:=this
 rw[h2];rfl
section
variable {vs:List (Nat×List D)} {lv:List (Nat×Nat×Nat×TypeId)} {N C R kM kk kR k i:Nat} {V:List Nu}
theorem h_pred(hM:vs.lookup kM=some (dC ((cW aO).f V)))(Qk:vs.lookup kk=some [dI .i64 k])(hV:V.length=R*C)(hi:i<R)(hk:k<C):
  HC prog 141 [.ow kM (i*C*36) 36 C,.pt kk 0] ⟨vs,lv,N⟩ (dB (decide (jo V[i*C+k]!≠0))) ⟨vs,lv,N⟩:=by
 refine HC.of (rs:=[.tmp 3]) tok func141 rfl rfl (cD rfl) rfl (fun cx hx h0 hok=>?_)
 simp only[dv,Nat.reduceAdd,cj]
 have hkM:=hok.lt hM
 have hkN:=hok.lt Qk
 have Oj:i*C+k<V.length:=by rw[hV];exact cT hi hk
 refine rs hx fun K hK=>?_
 refine sa ?_
 refine nl hK ?_
 refine rs hx fun K hK=>?_
 refine sa ?_
 refine c1 (Pt.one _) ?_
 refine i1r (i:=i) (j:=k) hk ?_
 refine l1 (Pt.el V (i*C+k) Oj) ?_
 refine cq (Rh _) ?_
 refine sa ?_
 refine sa ?_
 refine nl hK ?_
 exact AW.ret (rt1 h0 (hv:=fun j ds h=>h))
end
end
section
def HT(C k:Nat)(V:List Nu)(n r:Nat):Int:=match wY C k V n r with
 |some i=>(i:Int) - (r:Int)
 |none=>-1
section
variable {vs:List (Nat×List D)} {lv:List (Nat×Nat×Nat×TypeId)} {N C R kM kk kR kr kp k r i:Nat} {V:List Nu}
theorem h_IdxF(hM:vs.lookup kM=some (dC ((cW aO).f V)))(Qk:vs.lookup kk=some [dI .i64 k])(hkR:vs.lookup kR=some (i5 kM C R))(hV:V.length=R*C)(hk:k<C)(hr:r<R)(hR:R≤1000000):
  HC prog 140 [.ow kR r 1 (R - r),.fn 141 [kk]] ⟨vs,lv,N⟩ (dI .i64 (HT C k V (R - r) r)) ⟨vs,lv,N⟩:=by
 refine HC.of (rs:=[.tmp 4]) tok func140 rfl rfl (cD rfl) rfl (fun cx hx h0 hok=>?_)
 simp only[dv,Nat.reduceAdd,cj]
 have hk1:=hok.lt hM
 have z3:=hok.lt Qk
 have hk3:=hok.lt hkR
 refine rs hx fun K hK=>?_
 refine sa ?_
 refine nl hK ?_
 refine AW.seq (rs hx fun K hK=>?_)
 refine sa ?_
 refine s1 (d:=dI .i64 ((R - r:Nat):Int)) (Ay nM aW) ?_
 refine sa ?_
 refine nl hK ?_
 refine AW.block (AW.loopW (fun i:Nat=>[(0,.ow kR r 1 (R - r)),(1,.fn 141 [kk]),(7,dI .i64 ((R - r:Nat):Int)),(8,dI .i64 (i:Nat))]) (fun _=>⟨vs,lv,N⟩) (fun i=>i≤R - r∧wY C k V (R - r) r=wY C k V (R - r - i) (r+i)) (fun i=>R - r - i) 0 ?_ ⟨il _,rfl⟩ ?_)
 ·exact wk1 h0 (hv:=fun j ds h=>h)
 ·rintro i ⟨hi,hf⟩
  refine rs hx fun K hK=>?_
  refine sa ?_
  refine nl hK ?_
  refine AW.seq (AW.condS rfl (fun hb=>?_) (fun hb=>?_))
  ·have Ol:i<R - r:=by have:=oc hb;omega
   refine AW.skip (AW.seq (AW.block (rs hx fun K hK=>?_)))
   iterate 2 refine sa ?_
   refine nl hK ?_
   refine rs hx fun K hK=>?_
   iterate 3 refine sa ?_
   refine wm (k:=kR) (o:=r) (i:=i) (n:=R - r) Ol ?_
   refine c1 (Pt.row (kM:=kM) (C:=C) (n:=R) (i:=r+i) (by omega)) ?_
   refine q1 (sHF (h_pred hM Qk hV (show r+i<R by omega) hk) rfl) ?_
   refine nl hK ?_
   obtain⟨m,hm⟩:∃m,R - r - i=m+1:=⟨R - r - i - 1,by omega⟩
   rw[hm] at hf
   refine AW.condS rfl (fun hb=>?_) (fun hb=>?_)
   ·refine rs hx fun K hK=>?_
    iterate 2 refine sa ?_
    refine nl hK ?_
    refine AW.ret ?_
    have he:HT C k V (R - r) r=(i:Int):=by
     unfold HT
     rw[hf];unfold wY
     rw[an (oc hb)]
     show ((r+i:Nat):Int) - (r:Int)=i
     omega
    rw[he]
    exact rt1 h0 (hv:=fun j ds h=>h)
   ·refine AW.skip (rq hx fun K hK=>?_)
    iterate 2 refine sa ?_
    refine nl hK ?_
    rw[nQ]
    refine⟨i+1,wk1 h0 (hv:=fun j ds h=>h),⟨Ol,?_⟩,by omega⟩
    rw[hf]
    conv=>lhs;unfold wY
    rw[az (sY hb),show R - r - (i+1)=m by omega]
    rfl
  ·refine AW.exit ?_
   have Ol:i=R - r:=by have:=sY hb;omega
   subst Ol
   refine rs hx fun K hK=>?_
   refine sa ?_
   refine nl hK ?_
   refine AW.ret ?_
   have he:HT C k V (R - r) r=-1:=by
    unfold HT
    rw[hf,KU];rfl
   rw[he]
   exact rt1 h0 (hv:=fun j ds h=>h)
theorem Kf {f:FuncId}{ks:List Nat}{h:List Nu→Nat→Nu}(hM:vs.lookup kM=some (dC ((cW aO).f V)))(Qj:∀j∈ks,j<N)(hV:V.length=R*C)(hi:i<R)(hC:C≤1000000)
  (hf:∀(U:List Nu) j,j<C→U.length=R*C→HC prog f ([dI .i64 j]++ks.map fun k=>.pt k 0) ⟨(kM,dC ((cW aO).f U))::vs,lv,N⟩ (dG aO (h U j)) ⟨(kM,dC ((cW aO).f U))::vs,lv,N⟩):
  HC prog 142 [.ow kM (i*C*36) 36 C,.fn f ks] ⟨vs,lv,N⟩ (.tu []) ⟨(kM,dC ((cW aO).f (uP V (i*C) h C)))::vs,lv,N⟩:=by
 refine HC.of (rs:=[]) tok func142 rfl rfl (cD rfl) rfl (fun cx hx h0 hok=>?_)
 simp only[dv,Nat.reduceAdd,cj]
 have hk1:=hok.lt hM
 have Qf:∀U:List Nu,fc ⟨(kM,dC ((cW aO).f U))::vs,lv,N⟩:=fun U=>hok.consM hk1 (oO _)
 have S6:D.idsB N (.fn f ks)=true:=bx.2 fun k hk=>ck (Qj k hk)
 refine rs hx fun K hK=>?_
 refine sa ?_
 refine s1 (d:=dI .i64 (C:Nat)) (Ay aW aR) ?_
 refine sa ?_
 refine nl hK ?_
 refine AW.block (AW.loopW (fun j:Nat=>[(0,.ow kM (i*C*36) 36 C),(1,.fn f ks),(6,dI .i64 (C:Nat)),(7,dI .i64 (j:Nat))]) (fun j=>⟨(kM,dC ((cW aO).f (uP V (i*C) h j)))::vs,lv,N⟩) (fun j=>j≤C) (fun j=>C - j) 0 ?_ (il _) ?_)
 ·exact wk1 h0 (hok:=Qf _) (hv:=fun j ds h=>by
   rcases dT h with⟨rfl,rfl⟩|⟨hj,h⟩
   ·exact hM
   ·exact h)
 ·intro j hj
  refine rs hx fun K hK=>?_
  refine sa ?_
  refine nl hK ?_
  refine AW.seq (AW.condS rfl (fun hb=>?_) (fun hb=>?_))
  ·have HG:j<C:=by have:=oc hb;omega
   have hlen:(uP V (i*C) h j).length=R*C:=by rw[qQ,hV]
   have Oj:i*C+j<(uP V (i*C) h j).length:=by rw[hlen];exact cT hi HG
   refine AW.skip (AW.seq (AW.block (rs hx fun K hK=>?_)))
   iterate 2 refine sa ?_
   refine nl hK ?_
   refine rq hx fun K hK=>?_
   iterate 4 refine sa ?_
   refine q1 (sHF (hf _ j HG hlen) rfl) ?_
   refine i1r (i:=i) (j:=j) HG ?_
   refine t1 (Pt.el _ (i*C+j) Oj) (Pt.el_set _ (i*C+j) Oj _) ?_
   refine nl hK ?_
   refine rq hx fun K hK=>?_
   iterate 2 refine sa ?_
   refine nl hK ?_
   rw[nQ]
   refine⟨j+1,wk1 h0 (hok:=Qf _) (hv:=fun j' ds h=>by
    rcases dT h with⟨rfl,rfl⟩|⟨hj,h⟩
    ·exact ah
    ·exact am hj (am hj h)),HG,by omega⟩
  ·refine AW.exit ?_
   have HG:j=C:=by have:=sY hb;omega
   subst HG
   exact⟨_,wkS (by rw[h0];exact aC N) (aC N) (Qf _) (fun j ds h=>h) pc.nil,rfl⟩
end
end
section
def pvD(p:Pv):List D:=[dI .i64 p.col]++dC (aO.f p.by')++[dB p.mov]
theorem BK(p:Pv):(pvD p).length=38:=by unfold pvD;simp only[cN,qD];rfl
theorem pvD_by {p:Pv}:Pt (pvD p) (0+1) (dC (aO.f p.by')) (fun ys=>[dI .i64 p.col]++ys++[dB p.mov]):=Pt.of [dI .i64 p.col] [dB p.mov] rfl (by unfold pvD;simp only[bP]) fun y=>rfl
section
variable {vs:List (Nat×List D)} {lv:List (Nat×Nat×Nat×TypeId)} {N C R kM krs kR kr kp kl kx k r i j:Nat} {V:List Nu} {p:Pv} {b:Nu}
theorem h_by3(hM:vs.lookup kM=some (dC ((cW aO).f V)))(hrs:vs.lookup krs=some [.gw kR 1 R])(hkr:vs.lookup kr=some [dI .i64 r])(S1:vs.lookup kp=some (pvD p))(hkR:vs.lookup kR=some (i5 kM C R))(hV:V.length=R*C)(hj:j<C)(hr:r<R):
  HC prog 143 ([dI .i64 j]++[krs,kr,kp].map fun k=>.pt k 0) ⟨vs,lv,N⟩ (dG aO (wO V[r*C+j]! p.by')) ⟨vs,lv,N⟩:=by
 refine HC.forget (vars:=(N,dC (aO.f (wO V[r*C+j]! p.by')))::vs) (n:=N+1) ?_ (fun j ds hj h=>am (by omega) h) (oO _)
 refine HC.of (rs:=[.cell 5 34]) tok func143 rfl rfl (cD rfl) rfl (fun cx hx h0 hok=>?_)
 simp only[dv,pN,gZ,yI,mm,Nat.reduceAdd,cj]
 have h1:=hok.lt hM
 have h2:=hok.lt hrs
 have h3:=hok.lt hkr
 have h4:=hok.lt S1
 have h5:=hok.lt hkR
 refine rs hx fun K hK=>?_
 refine n1 ?_
 refine nl hK ?_
 refine rsd [144] hx fun K hK=>?_
 refine c1 (Pt.one _) ?_
 refine c1 (Pt.one _) ?_
 refine wm (k:=kR) (o:=0) (i:=r) (n:=R) hr ?_
 rw[cj]
 refine c1 (Pt.row (kM:=kM) (C:=C) (n:=R) (i:=r) hr) ?_
 refine sa ?_
 refine i1r (i:=r) (j:=j) hj ?_
 refine l1 (Pt.el V (r*C+j) (by rw[hV];exact cT hr hj)) ?_
 refine sa ?_
 refine l1 (pvD_by (p:=p)) ?_
 refine cq (w_Div _ _) ?_
 refine z1 ?_
 refine nl hK ?_
 refine AW.ret ?_
 exact rtN1 h0 (by omega) (fc.consM (hok.up (by omega)) (by omega) (oO _)) (aC _) (fun j ds h=>by
  rcases dT h with⟨rfl,rfl⟩|⟨hj,h⟩
  ·exact ah
  ·have:=hok.lt h
   exact am hj (am hj h)) ah rfl
theorem h_by4(hM:vs.lookup kM=some (dC ((cW aO).f V)))(hkl:vs.lookup kl=some [.ow kM (i*C*36) 36 C])(hkx:vs.lookup kx=some (dC (aO.f b)))(hrs:vs.lookup krs=some [.gw kR 1 R])(hkr:vs.lookup kr=some [dI .i64 r])(hkR:vs.lookup kR=some (i5 kM C R))(hV:V.length=R*C)(hj:j<C)(hr:r<R)(hi:i<R):
  HC prog 145 ([dI .i64 j]++[kl,kx,krs,kr].map fun k=>.pt k 0) ⟨vs,lv,N⟩ (dG aO (Bp V[i*C+j]! (tD b V[r*C+j]!))) ⟨vs,lv,N⟩:=by
 refine HC.forget (vars:=(N,dC (aO.f (Bp V[i*C+j]! (tD b V[r*C+j]!))))::vs) (n:=N+1) ?_ (fun j ds hj h=>am (by omega) h) (oO _)
 refine HC.of (rs:=[.cell 6 34]) tok func145 rfl rfl (cD rfl) rfl (fun cx hx h0 hok=>?_)
 simp only[dv,pN,gZ,yI,mm,Nat.reduceAdd,cj]
 have h1:=hok.lt hM
 have h2:=hok.lt hrs
 have h3:=hok.lt hkr
 have h4:=hok.lt hkl
 have h5:=hok.lt hkR
 have h6:=hok.lt hkx
 refine rs hx fun K hK=>?_
 refine n1 ?_
 refine nl hK ?_
 refine rsd [40,146] hx fun K hK=>?_
 refine c1 (Pt.one _) ?_
 refine sa ?_
 refine i1r (i:=i) (j:=j) hj ?_
 refine l1 (Pt.el V (i*C+j) (by rw[hV];exact cT hi hj)) ?_
 refine l1 (Pt.idN b) ?_
 refine c1 (Pt.one _) ?_
 refine c1 (Pt.one _) ?_
 refine wm (k:=kR) (o:=0) (i:=r) (n:=R) hr ?_
 rw[cj]
 refine c1 (Pt.row (kM:=kM) (C:=C) (n:=R) (i:=r) hr) ?_
 refine sa ?_
 refine i1r (i:=r) (j:=j) hj ?_
 refine l1 (Pt.el V (r*C+j) (by rw[hV];exact cT hr hj)) ?_
 refine cq (w_Mul _ _) ?_
 refine cq (w_Sub _ _) ?_
 refine z1 ?_
 refine nl hK ?_
 refine AW.ret ?_
 exact rtN1 h0 (by omega) (fc.consM (hok.up (by omega)) (by omega) (oO _)) (aC _) (fun j ds h=>by
  rcases dT h with⟨rfl,rfl⟩|⟨hj,h⟩
  ·exact ah
  ·have:=hok.lt h
   exact am hj (am hj h)) ah rfl
end
end
section
theorem T_bldPv {dr:Bool}{ty:TypeId}{ev:Operand→D}{hp:Hp}{x y z:Operand}{p:Pv}(hx:ev x=dI .i64 p.col:=by exact rfl)(hy:ev y=dG aO p.by':=by exact rfl)(hz:ev z=dB p.mov:=by exact rfl):AVC prog tbl dr (.build 102 #[(0,x),(1,y),(2,z)]) ty ev hp (Kq (.ag (pvD p)) hp):=by
 have h0:([(0,x),(1,y),(2,z)]:List (Nat×Operand)).map (fun p=>(p.1,ev p.2))=[(0,dI .i64 p.col),(1,dG aO p.by'),(2,dB p.mov)]:=by simp only[gZ,pN,hx,hy,hz]
 rw[show (#[(0,x),(1,y),(2,z)]:Array (Nat×Operand))=([(0,x),(1,y),(2,z)]:List (Nat×Operand)).toArray from rfl,yE,h0,vw,nN]
 have hp:g6 [(0,dI .i64 p.col),(1,dG aO p.by'),(2,dB p.mov)]=some [(0,[dI .i64 p.col]),(1,dC (aO.f p.by')),(2,[dB p.mov])]:=rfl
 rw[hp]
 dsimp only
 refine⟨by decide,?_⟩
 have hz:∀zs:List D,zs.length=38→fJ (mV tbl [(0,3),(1,34),(37,4)]) zs [(0,[dI .i64 p.col]),(1,dC (aO.f p.by')),(2,[dB p.mov])]=some (pvD p):=fun zs hzs=>by
  have p0:mV tbl [(0,3),(1,34),(37,4)] 0=some (0,1):=rfl
  have p1:mV tbl [(0,3),(1,34),(37,4)] 1=some (1,36):=rfl
  have p2:mV tbl [(0,3),(1,34),(37,4)] 2=some (37,1):=rfl
  obtain⟨z0,zr,rfl⟩:∃z0 zr,zs=z0::zr:=by
   cases zs with
   |nil=>cases hzs
   |cons a b=>exact⟨a,b,rfl⟩
  have hzr:zr.length=37:=by simpa using hzs
  have hl:=qD p.by'
  simp only[fJ,p0,p1,p2,hl]
  rw[az (by simp[hzr]),az (by simp[hzr]),az (by simp[hzr,hl])]
  unfold pvD
  have e1:(List.take 0 (z0::zr)++[dI IntKind.i64 (p.col:Int)]++List.drop (0+[dI IntKind.i64 (p.col:Int)].length) (z0::zr))=dI .i64 p.col::zr:=rfl
  rw[e1]
  have e2:List.take 1 (dI IntKind.i64 (p.col:Int)::zr)=[dI .i64 p.col]:=rfl
  have e3:List.drop (1+36) (dI IntKind.i64 (p.col:Int)::zr)=zr.drop 36:=rfl
  rw[e2,e3]
  have h37:([dI IntKind.i64 (p.col:Int)]++dC (aO.f p.by')).length=37:=by rw[cN,hl];rfl
  rw[sb (by rw[h37];exact aC _),e9 (by rw[h37];exact aC _),uS (by rw[cN,h37,fZ,hzr];exact aC _),pY]
 rw[hz _ (by rfl)]
 exact Kq.here _ _
section
variable {kM R C:Nat}
theorem mat_R:Pt (lE kM R C) (0+0) [dI .i64 R] (fun ys=>ys++[dI .i64 C,g7 kM (R*C)]):=Pt.of [] [dI .i64 C,g7 kM (R*C)] rfl rfl fun y=>rfl
theorem Sa:Pt (lE kM R C) (0+1) [dI .i64 C] (fun ys=>[dI .i64 R]++ys++[g7 kM (R*C)]):=Pt.of [dI .i64 R] [g7 kM (R*C)] rfl rfl fun y=>rfl
theorem mat_D:Pt (lE kM R C) (0+2) [g7 kM (R*C)] (fun ys=>[dI .i64 R,dI .i64 C]++ys++[]):=Pt.of [dI .i64 R,dI .i64 C] [] rfl rfl fun y=>rfl
theorem Jy(k n:Nat):D.cells (pS k n)=some [pS k n]:=by unfold pS;split <;> rfl
theorem PN {k n M:Nat}(h:k<M):D.idsC M (pS k n)=true:=by
 unfold pS
 split
 ·rfl
 ·exact ck h
end
structure Kept(W:List Nat)(hp hp':Hp):Prop where
 ok:fc hp'
 next:hp.next≤hp'.next
 vars:∀j ds,j∉W→hp.vars.lookup j=some ds→hp'.vars.lookup j=some ds
structure StH(E kM k0 R C r k kk:Nat)(V:List Nu)(hp:Hp):Prop where
 ok:fc hp
 nx:E+6≤kk
 kn:kk<hp.next
 len:V.length=R*C
 hM:0<R→0<C→hp.vars.lookup kM=some (dC ((cW aO).f V))
 h0:hp.vars.lookup k0=some (lE kM R C)
 hr:hp.vars.lookup (E+5)=some [dI .i64 r]
 hk:hp.vars.lookup kk=some [dI .i64 k]
 hrs:0<R→0<C→hp.vars.lookup (E+4)=some [.gw (E+3) 1 R]
 hR:0<R→0<C→hp.vars.lookup (E+3)=some (i5 kM C R)
end
end
end Go.Proofs.YtgfcnncojhkcoaaGreat
