/-
  Lemmas, part 5. Conditions: none.
-/
import Derived.Test.YtaedcknhkjpmlaaGreatK4
set_option linter.all false
set_option maxRecDepth 100000
namespace Go.Proofs.YtaedcknhkjpmlaaGreat
open Go.RowKit Go.IntKind
noncomputable section
section
def lF(n:Nat)(f:Nat→Nat):List Int:=(List.range n).map fun j=>(f j:Int)
section
variable {n m p x k j:Nat} {f g:Nat→Nat}
theorem dh:(lF n f).length=n:=by unfold lF;simp
theorem qc(h:j<n):(lF n f)[j]! =(f j:Int):=by
 unfold lF
 rw[cO _ j (by simpa using h)]
 simp
theorem tZ(h:∀j,j<n→f j=g j):lF n f=lF n g:=by
 unfold lF
 apply sw
 intro j hj
 rw[h j (by simpa using hj)]
theorem yP:lF n f++[(f n:Int)]=lF (n+1) f:=by
 unfold lF
 rw[uK,iU];rfl
theorem Jv:(lF n f).set p (x:Int)=lF n (fun j=>if j=p then x else f j):=by
 apply List.ext_getElem
 ·rw[eU,dh,dh]
 ·intro i h1 h2
  rw[List.getElem_set]
  have h3:i<n:=by rw[dh] at h2;exact h2
  have e1:=qc (f:=fun j=>if j=p then x else f j) h3
  rw[cO _ i h2] at e1
  rw[e1]
  split
  ·rename_i h;rw[if_pos h.symm]
  ·rename_i h
   rw[if_neg (fun e=>h e.symm)]
   have e2:=qc (f:=f) h3
   rw[cO _ i (by rw[dh];exact h3)] at e2
   exact e2
theorem lF_take(h:m≤n):(lF n f).take m=lF m f:=by
 unfold lF
 rw[←ze,List.take_range,su h]
theorem lF_cons:[(x:Int)]++lF n f=lF (n+1) (fun j=>if j=0 then x else f (j - 1)):=by
 unfold lF
 rw[List.range_succ_eq_map,cP,pY]
 rfl
theorem Oj:List.replicate n (0:Int)=lF n (fun _=>0):=by
 unfold lF
 induction n with
 |zero=>rfl
 |succ n ih=>rw[List.replicate_succ',ih,uK,iU];rfl
end
abbrev dk(n A:Nat):List Int:=lF n (dg 65536 A)
theorem lh {A j:Nat}:dg 65536 A j<65536:=PY (by decide)
theorem Np(A:Nat):∃n,szp 65536 A n:=by
 induction A using Nat.strongRecOn with
 |_ A ih=>
  by_cases h:A=0
  ·subst h;exact⟨0,by decide,fun h=>by omega⟩
  ·obtain⟨n,h1,h2⟩:=ih (A / 65536) (by omega)
   refine⟨n+1,?_,fun _=>?_⟩
   ·rw[dM];exact (mN (by decide)).1 h1
   ·rw[AB]
    cases n with
    |zero=>rw[gj];omega
    |succ n=>
     have:=h2 (by omega)
     rw[AB] at this
     rw[dM]
     exact (pq (by decide)).1 this
def sz6(A:Nat):Nat:=Classical.choose (Np A)
theorem yB(A:Nat):szp 65536 A (sz6 A):=Do (Np A)
theorem e7(A:Nat):A<65536 ^ sz6 A:=(yB A).1
theorem qX {A n:Nat}(h:A<65536 ^ n):sz6 A≤n:=I9 (by decide) (yB A) h
theorem Ja {A n:Nat}(h:szp 65536 A n):n=sz6 A:=No (by decide) h (yB A)
theorem Cb:sz6 0=0:=(Ja ⟨by decide,fun h=>by omega⟩).symm
theorem BF {A:Nat}(h:0<A):0<sz6 A:=by
 rcases rF (sz6 A) with h1|h1
 ·have:=e7 A
  rw[h1,gj] at this;omega
 ·exact h1
noncomputable abbrev dl(A:Nat):List Int:=dk (sz6 A) A
theorem PU(A:Nat):(dl A).length=sz6 A:=dh
theorem dl_zero:dl 0=[]:=by unfold dl;rw[Cb];rfl
theorem J4 {A:Nat}:(dl A).length=0↔A=0:=by
 rw[PU]
 constructor
 ·intro h
  rcases rF A with h1|h1
  ·exact h1
  ·have:=BF h1;omega
 ·rintro rfl;exact Cb
theorem wI {n A k:Nat}(hA:A<65536 ^ n):eG (dk n A) (k:Int)=some ((dg 65536 A k:Nat):Int):=by
 unfold eG
 rw[dh]
 by_cases h:k<n
 ·rw[cE _ _ (by omega),aM (by omega),ct,qc h]
 ·rw[co _ _ (by omega),mh (eD hA (i9 (by decide) (by omega)))];rfl
theorem yi {n A:Nat}(hA:A<65536 ^ n)(hn:n<1000000):fI (dk n A)=some (dl A):=by
 obtain⟨x,hl,hx⟩:=vp (b:=lK (dk n A)) (fun s=>∃k:Nat,s=(k:Int)∧k≤n∧A<65536 ^ k) (fun s=>s.toNat) (fun x=>x=((sz6 A:Nat):Int))
  (by
   rintro s ⟨k,rfl,hk,b8⟩
   cases k with
   |zero=>
    right
    refine⟨((0:Nat):Int),?_,?_⟩
    ·dsimp only[lK]
     rw[co _ _ (by omega),aa,aK]
    ·show ((0:Nat):Int)=_
     rw[←Ja ⟨b8,fun h=>by omega⟩]
   |succ k=>
    have e:i64.wrap (((k+1:Nat):Int) - 1)=(k:Int):=by rw[b7 (by omega)];omega
    dsimp only[lK]
    rw[cE _ _ (by omega),e,dh,aM (by omega),aa,ct,qc (by omega),eg]
    by_cases hd:dg 65536 A k=0
    ·left
     refine⟨(k:Int),by rw[if_pos (by omega)],⟨k,rfl,by omega,?_⟩,by omega⟩
     unfold dg at hd
     have h1:A / 65536 ^ k<65536:=by
      rw[mN (cr (by decide)),db,←dM];exact b8
     rw[gS h1] at hd
     exact (Nat.div_eq_zero_iff_lt (cr (by decide))).1 hd
    ·right
     refine⟨((k+1:Nat):Int),by rw[if_neg (by omega)],?_⟩
     show ((k+1:Nat):Int)=_
     rw[Ja (A:=A) ⟨b8,fun _=>?_⟩]
     rcases hE A (65536 ^ k) with h|h
     ·exact absurd (mh h) hd
     ·exact h) (n:Int) ⟨n,rfl,aB _,hA⟩
 unfold fI
 have hs:=qX hA
 rw[dh,hl,hx,aa,aM (by omega),subL_to _ _ (by omega),ct,lF_take hs]
theorem pmax {n m A B:Nat}(hA:A<65536 ^ n)(hB:B<65536 ^ m):A<65536 ^ max n m∧B<65536 ^ max n m:=
 ⟨eD hA (i9 (by decide) (Nat.le_max_left ..)),eD hB (i9 (by decide) (Nat.le_max_right ..))⟩
theorem Cy(n m:Nat):max (n:Int) (m:Int)=((max n m:Nat):Int):=by omega
theorem G1 {n m A B:Nat}(hA:A<65536 ^ n)(hB:B<65536 ^ m)(hn:n<100000)(hm:m<100000):kZ (dk n A) (dk m B)=some (dl (A+B)):=by
 have hM:max n m<100000:=by omega
 obtain⟨KZ,hB'⟩:=pmax hA hB
 have hl:=rf (b:=kB (dk n A) (dk m B)) (s0:=(([]:List Int),(0:Int),(0:Int))) (fun k=>(dk k (A+B),(((A % 65536 ^ k+B % 65536 ^ k) / 65536 ^ k:Nat):Int),(k:Int))) (max n m+1) (dk (max n m+1) (A+B))
  (by simp only[gj,np];rfl)
  (fun k hk=>by
   have hc:=oL (b:=65536) (A:=A) (B:=B) (k:=k) (by decide)
   obtain⟨h1,h2⟩:=py (b:=65536) (A:=A) (B:=B) (k:=k) (by decide)
   have ha:=@lh A k
   have hb:=@lh B k
   have hc':=oL (b:=65536) (A:=A) (B:=B) (k:=k+1) (by decide)
   generalize (A % 65536 ^ k+B % 65536 ^ k) / 65536 ^ k=c at h1 h2 hc ⊢
   generalize (A % 65536 ^ (k+1)+B % 65536 ^ (k+1)) / 65536 ^ (k+1)=c' at h2 hc' ⊢
   dsimp only[kB]
   rw[dh,dh,Cy,b7 (by omega),cE _ _ (by omega),wI hA,aa,wI hB,aa,b7 (z:=(dg 65536 A k:Int)+(dg 65536 B k:Int)) (by omega),b7 (by omega),aa,←jX,←jX,show (65536:Int)=((65536:Nat):Int) from rfl,←sO,←sP,qx (dg 65536 A k+dg 65536 B k),←wV,h1,h2,yP,dh,aM (by omega),b7 (z:=(c':Int)) (by omega),b7 (by omega)]
   rfl)
  (by
   dsimp only[kB]
   rw[dh,dh,Cy,b7 (by omega),co _ _ (by omega)])
 unfold kZ
 have:A+B<65536 ^ (max n m+1):=by rw[dM];omega
 rw[hl,aa,yi this (by omega),aa]
theorem wg {n m A B:Nat}(hA:A<65536 ^ n)(hB:B<65536 ^ m)(hn:n<100000)(hBA:B≤A):gu (dk n A) (dk m B)=some (dl (A - B)):=by
 obtain⟨D,rfl⟩:∃D,A=D+B:=⟨A - B,by omega⟩
 rw[AB]
 have hl:=rf (b:=jI (dk n (D+B)) (dk m B)) (s0:=(([]:List Int),(0:Int),(0:Int))) (fun k=>(dk k D,(((D % 65536 ^ k+B % 65536 ^ k) / 65536 ^ k:Nat):Int),(k:Int))) n (dk n D)
  (by simp only[gj,np];rfl)
  (fun k hk=>by
   have hc:=oL (b:=65536) (A:=D) (B:=B) (k:=k) (by decide)
   have hc':=oL (b:=65536) (A:=D) (B:=B) (k:=k+1) (by decide)
   obtain⟨h1,h2⟩:=py (b:=65536) (A:=D) (B:=B) (k:=k) (by decide)
   have ha:=@lh D k
   have hb:=@lh B k
   have hd:=@lh (D+B) k
   generalize hq:(D % 65536 ^ k+B % 65536 ^ k) / 65536 ^ k=c at h1 h2 hc ⊢
   generalize (D % 65536 ^ (k+1)+B % 65536 ^ (k+1)) / 65536 ^ (k+1)=c' at h2 hc' ⊢
   dsimp only[jI]
   rw[dh,cE _ _ (by omega),aM (by omega),wI hB,aa,ct,qc hk,b7 (z:=(dg 65536 (D+B) k:Int) - (dg 65536 B k:Int)) (by omega),b7 (by omega),aa]
   by_cases hn0:(dg 65536 (D+B) k:Int) - (dg 65536 B k:Int) - (c:Int)<0
   ·obtain rfl:c'=1:=by omega
    rw[cE _ _ hn0,aa,b7 (by omega)]
    dsimp only
    rw[show (dg 65536 (D+B) k:Int) - (dg 65536 B k:Int) - (c:Int)+65536=(dg 65536 D k:Int) from by omega,yP,dh,aM (by omega),b7 (by omega)]
    rfl
   ·obtain rfl:c'=0:=by omega
    rw[co _ _ hn0,aa]
    dsimp only
    rw[show (dg 65536 (D+B) k:Int) - (dg 65536 B k:Int) - (c:Int)=(dg 65536 D k:Int) from by omega,yP,dh,aM (by omega),b7 (by omega)]
    rfl)
  (by
   dsimp only[jI]
   rw[dh,co _ _ (by omega)])
 unfold gu
 rw[hl,aa,yi (by omega) (by omega),aa]
theorem yN {A B k:Nat}(he:A / 65536 ^ (k+1)=B / 65536 ^ (k+1))(h:dg 65536 A k<dg 65536 B k):A<B:=by
 have e1:=c6 (b:=65536) (A:=A) (k:=k)
 have e2:=c6 (b:=65536) (A:=B) (k:=k)
 have h1:A / 65536 ^ k<B / 65536 ^ k:=by
  rw[e1,e2,he];exact Dq h _
 rcases hE A B with h2|h2
 ·exact h2
 ·exact absurd (Nat.div_le_div_right h2) (Nat.not_le.2 h1)
theorem G2 {n m A B:Nat}(hA:A<65536 ^ n)(hB:B<65536 ^ m)(hn:n<100000)(hm:m<100000):il (dk n A) (dk m B)=some (decide (A<B)):=by
 obtain⟨KZ,hB'⟩:=pmax hA hB
 obtain⟨x,hl,hx⟩:=vp (b:=lL (dk n A) (dk m B)) (fun s=>∃k:Nat,s=(k:Int) - 1∧k≤max n m∧A / 65536 ^ k=B / 65536 ^ k) (fun s=>(s+1).toNat) (fun x=>match x with| .inl r=>r=decide (A<B)| .inr _=>A=B)
  (by
   rintro s ⟨k,rfl,hk,he⟩
   cases k with
   |zero=>
    right
    refine⟨(Sum.inr ():Bool⊕Unit),?_,?_⟩
    ·dsimp only[lL]
     rw[co _ _ (by omega)]
    ·simpa using he
   |succ k=>
    have e:((k+1:Nat):Int) - 1=(k:Int):=by omega
    rw[e]
    dsimp only[lL]
    rw[cE _ _ (by omega),wI hA,aa,wI hB,aa]
    by_cases hd:dg 65536 A k=dg 65536 B k
    ·left
     refine⟨(k:Int) - 1,?_,⟨k,rfl,by omega,?_⟩,by omega⟩
     ·rw[co _ _ (by rw[hd];simp),b7 (by omega)]
     ·rw[c6 (b:=65536) (A:=A) (k:=k),c6 (b:=65536) (A:=B) (k:=k),he,hd]
    ·right
     refine⟨(Sum.inl (decide (A<B)):Bool⊕Unit),?_,rfl⟩
     rw[cE _ _ (by omega),aa,aa]
     congr 3
     refine im.2 ?_
     rcases Nat.lt_or_gt_of_ne hd with h|h
     ·have:=yN he h
      exact⟨fun _=>this,fun _=>by omega⟩
     ·have:=yN he.symm h
      exact⟨fun h'=>by omega,fun h'=>by omega⟩) (((max n m:Nat):Int) - 1) ⟨max n m,rfl,aB _,by rw[eV KZ,eV hB']⟩
 unfold il
 rw[dh,dh,Cy,b7 (by omega),aa,hl,aa]
 cases x with
 |inl r=>obtain rfl:r=_:=hx;rfl
 |inr u=>
  obtain rfl:A=B:=hx
  simp
section
variable {b:Nat} {f g:Nat→Nat}
theorem Hs:∀n,(∀j,j<n→f j=g j)→gK b f n=gK b g n
 |0,_=>rfl
 |n+1,h=>by
  unfold gK
  rw[Hs n fun j hj=>h j (by omega),h n (by omega)]
theorem Hq {q x:Nat}:∀n,q<n→gK b (fun j=>if j=q then f j+x else f j) n=gK b f n+x*b ^ q
 |0,h=>by omega
 |n+1,h=>by
  unfold gK
  by_cases hq:q=n
  ·subst hq
   rw[if_pos rfl,Hs q (g:=f) fun j hj=>if_neg (by omega),cz];omega
  ·rw[if_neg (by omega),Hq n (by omega)];omega
theorem Km {A:Nat}:∀n,gK b (dg b A) n=A % b ^ n
 |0=>by simp[gK,np]
 |n+1=>by
  unfold gK
  rw[Km n,ia,db]
theorem Hr(k:Nat):∀n,k≤n→gK b f n % b ^ k=gK b f k % b ^ k
 |0,h=>by
  obtain rfl:k=0:=by omega
  rfl
 |n+1,h=>by
  by_cases hk:k=n+1
  ·rw[hk]
  ·have uW:k≤n:=by omega
   obtain⟨d,rfl⟩:∃d,n=k+d:=⟨n - k,by omega⟩
   rw[←Hr k (k+d) uW]
   show (gK b f (k+d)+f (k+d)*b ^ (k+d)) % b ^ k=_
   rw[g8,AA,AC]
theorem Kl {M:Nat}(hb:2≤b):∀n,(∀j,j<n→f j≤M)→gK b f n≤M*b ^ n
 |0,_=>by simp[gK]
 |n+1,h=>by
  have ih:=Kl hb n fun j hj=>h j (by omega)
  have h1:f n*b ^ n≤M*b ^ n:=dZ _ (h n (by omega))
  have h2:M*b ^ n*2≤M*b ^ n*b:=zh _ hb
  unfold gK
  rw[dM,←fL]
  omega
theorem LY {n k:Nat}(hb:0<b)(hk:k<n):(gK b f k / b ^ k+f k) % b=dg b (gK b f n) k∧(gK b f k / b ^ k+f k) / b=gK b f (k+1) / b ^ (k+1):=by
 have hp:0<b ^ k:=cr hb
 have e:gK b f (k+1) / b ^ k=gK b f k / b ^ k+f k:=by
  show (gK b f k+f k*b ^ k) / b ^ k=_
  rw[Nat.add_mul_div_right _ _ hp]
 refine⟨?_,?_⟩
 ·rw[←e,←nP (A:=gK b f n) (k:=k+1) (e9 _),Hr (k+1) n hk,nP (e9 _)]
  rfl
 ·rw[←e,g9,←dM]
end
theorem LI {n m A B i:Nat}(hi:i<n)(hn:n<1000)(hm:m<1000)(hB:B<65536 ^ m){R:Nat}(hR:R<65536 ^ (n+m+1)):
  ∃f:Nat→Nat,bL (jH (dk n A) (dk m B) (i:Int)) ((0:Int),dk (n+m+1) R)=some (lF (n+m+1) f)∧gK 65536 f (n+m+1)=R+dg 65536 A i*B*65536 ^ i∧∀j,f j≤65535+65535*65535:=by
 have ha:=@lh A i
 have eP:i64.wrap ((i64.wrap (((dk n A).length:Int)+((dk m B).length:Int)))+(1:Int))=((n+m+1:Nat):Int):=by
  rw[dh,dh,b7 (z:=(n:Int)+(m:Int)) (by omega),b7 (by omega)];omega
 obtain⟨x,hl,f,rfl,h1,h2⟩:=vp (b:=jH (dk n A) (dk m B) (i:Int)) (fun s=>∃(k:Nat) (f:Nat→Nat),s=((k:Int),lF (n+m+1) f)∧k≤m∧gK 65536 f (n+m+1)=R+dg 65536 A i*(B % 65536 ^ k)*65536 ^ i∧(∀j,f j≤65535+65535*65535)∧∀j,i+k≤j→f j≤65535) (fun s=>m - s.1.toNat)
  (fun x=>∃f:Nat→Nat,x=lF (n+m+1) f∧gK 65536 f (n+m+1)=R+dg 65536 A i*B*65536 ^ i∧∀j,f j≤65535+65535*65535)
  (by
   rintro s ⟨k,f,rfl,hk,hv,hf,CO⟩
   dsimp only[jH]
   rw[eP,ct,dh,dh,dh]
   by_cases hkm:k<m
   ·left
    have eik:i64.wrap ((i:Int)+(k:Int))=((i+k:Nat):Int):=by rw[b7 (by omega)];omega
    have hb:=@lh B k
    have M4:dg 65536 A i*dg 65536 B k≤65535*65535:=uJ (by omega) (by omega)
    have hfk:=CO (i+k) (aB _)
    rw[cE _ _ (by omega),eik,aM (by omega),aM (by omega),aM (by omega),aM (by omega),aa,ct,ct,ct,qc (by omega),qc hi,qc hkm,←jZ,b7 (z:=((dg 65536 A i*dg 65536 B k:Nat):Int)) (by omega),←jX,b7 (z:=((f (i+k)+dg 65536 A i*dg 65536 B k:Nat):Int)) (by omega),Jv,b7 (by omega)]
    have e:lF (n+m+1) (fun j=>if j=i+k then f (i+k)+dg 65536 A i*dg 65536 B k else f j)=lF (n+m+1) (fun j=>if j=i+k then f j+dg 65536 A i*dg 65536 B k else f j):=tZ fun j _=>by
     by_cases h:j=i+k
     ·rw[if_pos h,if_pos h,h]
     ·rw[if_neg h,if_neg h]
    refine⟨_,rfl,⟨k+1,(fun j=>if j=i+k then f j+dg 65536 A i*dg 65536 B k else f j),by rw[e];rfl,by omega,?_,fun j=>?_,fun j hj=>?_⟩,by show m - ((k:Int)+1).toNat<m - (k:Int).toNat;omega⟩
    ·rw[Hq _ (by omega),hv,ia,ui,cz,g8]
     simp only[fL,AA,db,wV]
    ·dsimp only
     by_cases h:j=i+k
     ·rw[if_pos h,h];omega
     ·rw[if_neg h];exact hf j
    ·dsimp only
     rw[if_neg (by omega)];exact CO j (by omega)
   ·right
    obtain rfl:k=m:=by omega
    refine⟨_,by rw[co _ _ (by omega)],f,rfl,?_,hf⟩
    rw[hv,gS hB])
  ((0:Int),dk (n+m+1) R) ⟨0,dg 65536 R,rfl,cX _,by rw[Km,gj,np,Nat.mul_zero,ic,gS hR,mK],fun j=>by have:=@lh R j;omega,fun j _=>by have:=@lh R j;omega⟩
 exact⟨f,hl,h1,h2⟩
theorem I8 {n m A B:Nat}(hn:n<1000)(hm:m<1000){f:Nat→Nat}(hf:∀j,f j≤65535+65535*65535):
  bL (gQ (dk n A) (dk m B)) ((0:Int),(0:Int),lF (n+m+1) f)=some (dk (n+m+1) (gK 65536 f (n+m+1))):=by
 have eP:i64.wrap ((i64.wrap (((dk n A).length:Int)+((dk m B).length:Int)))+(1:Int))=((n+m+1:Nat):Int):=by
  rw[dh,dh,b7 (z:=(n:Int)+(m:Int)) (by omega),b7 (by omega)];omega
 have hl:=rf (b:=gQ (dk n A) (dk m B)) (s0:=((0:Int),(0:Int),lF (n+m+1) f)) (fun k=>(((gK 65536 f k / 65536 ^ k:Nat):Int),(k:Int),lF (n+m+1) (fun j=>if j<k then dg 65536 (gK 65536 f (n+m+1)) j else f j))) (n+m+1) (lF (n+m+1) (fun j=>if j<n+m+1 then dg 65536 (gK 65536 f (n+m+1)) j else f j))
  (by
   rw[show gK 65536 f 0 / 65536 ^ 0=0 from by simp[gK],tZ (n:=n+m+1) (f:=fun j=>if j<0 then dg 65536 (gK 65536 f (n+m+1)) j else f j) (g:=f) fun j _=>if_neg (by omega)]
   rfl)
  (fun k hk=>by
   obtain⟨h1,h2⟩:=LY (b:=65536) (f:=f) (n:=n+m+1) (k:=k) (by decide) hk
   have hc:gK 65536 f k / 65536 ^ k≤65535+65535*65535:=by
    have:=Kl (b:=65536) (f:=f) (by decide) k fun j _=>hf j
    exact Nat.div_le_of_le_mul (by rw[db];exact this)
   have hfk:=hf k
   generalize gK 65536 f k / 65536 ^ k=c at h1 h2 hc ⊢
   generalize gK 65536 f (k+1) / 65536 ^ (k+1)=c' at h2 ⊢
   dsimp only[gQ]
   rw[eP,ct,dh,cE _ _ (by omega),aM (by omega),aa,aM (by omega),ct,qc hk,if_neg (Nat.lt_irrefl _),←jX,qx (f k),b7 (z:=((c+f k:Nat):Int)) (by omega),show (65536:Int)=((65536:Nat):Int) from rfl,←sO,←sP,h1,h2,b7 (z:=(c':Int)) (by omega),b7 (by omega),Jv]
   have e:lF (n+m+1) (fun j=>if j=k then dg 65536 (gK 65536 f (n+m+1)) k else if j<k then dg 65536 (gK 65536 f (n+m+1)) j else f j)=lF (n+m+1) (fun j=>if j<k+1 then dg 65536 (gK 65536 f (n+m+1)) j else f j):=tZ fun j _=>by
    by_cases h:j=k
    ·rw[if_pos h,if_pos (by omega),h]
    ·rw[if_neg h]
     by_cases h3:j<k
     ·rw[if_pos h3,if_pos (by omega)]
     ·rw[if_neg h3,if_neg (by omega)]
   rw[e]
   rfl)
  (by
   dsimp only[gQ]
   rw[eP,ct,co _ _ (by omega)])
 rw[hl]
 congr 1
 exact tZ fun j hj=>if_pos hj
theorem IU {n m A B:Nat}(hA:A<65536 ^ n)(hB:B<65536 ^ m)(hn:n<1000)(hm:m<1000):lW (dk n A) (dk m B)=some (dl (A*B)):=by
 have eP:i64.wrap ((i64.wrap (((dk n A).length:Int)+((dk m B).length:Int)))+(1:Int))=((n+m+1:Nat):Int):=by
  rw[dh,dh,b7 (z:=(n:Int)+(m:Int)) (by omega),b7 (by omega)];omega
 have hbnd:∀i,A % 65536 ^ i*B<65536 ^ (n+m+1):=fun i=>by
  have h1:A % 65536 ^ i*B≤A*B:=dZ _ (Nat.mod_le _ _)
  have h2:A*B<65536 ^ n*65536 ^ m:=ya hA hB
  have h3:65536 ^ n*65536 ^ m≤65536 ^ (n+m+1):=by rw[←g8];exact i9 (by decide) (by omega)
  omega
 have hl:=rf (b:=kA (dk n A) (dk m B)) (s0:=((0:Int),List.replicate (n+m+1) (0:Int))) (fun i=>((i:Int),dk (n+m+1) (A % 65536 ^ i*B))) n (dk (n+m+1) (A % 65536 ^ n*B))
  (by
   rw[Oj,gj,np,ic]
   have:dk (n+m+1) 0=lF (n+m+1) (fun _=>0):=tZ fun j _=>by unfold dg;simp
   rw[this];rfl)
  (fun i hi=>by
   obtain⟨f,h1,h2,h3⟩:=LI (A:=A) (i:=i) hi hn hm hB (hbnd i)
   dsimp only[kA]
   rw[dh,cE _ _ (by omega),h1,aa,I8 hn hm h3,aa,h2,b7 (by omega),ia,cz]
   have:65536 ^ i*dg 65536 A i*B=dg 65536 A i*B*65536 ^ i:=by simp only[fL,AA,db]
   rw[this]
   rfl)
  (by
   dsimp only[kA]
   rw[dh,co _ _ (by omega)])
 unfold lW
 rw[eP,aM (by omega),ct,hl,aa,dh,aM rfl,gS hA,yi (by have:=hbnd n;rwa[gS hA] at this) (by omega),aa]
end
theorem dg_cons {R d i:Nat}(hd:d<65536):dg 65536 (R*65536+d) (i+1)=dg 65536 R i:=by
 have e:(R*65536+d) / 65536=R:=by omega
 unfold dg
 rw[dM,db (65536 ^ i),←g9,e]
theorem G_at {n A k:Nat}(hA:A<65536 ^ n):iN (dk n A) (k:Int)=some ((dg 65536 A k:Nat):Int):=by
 unfold iN
 rw[co _ _ (by omega),wI hA,aa]
theorem Q0 {l:List Int}{k:Int}(h:k<0):iN l k=some 0:=by
 unfold iN
 rw[cE _ _ h]
def yO(A:Nat)(m:Nat):Nat:=if m<2 then 0 else dg 65536 A (m - 2)
theorem KK {A m:Nat}:yO A m<65536:=by
 unfold yO;split
 ·omega
 ·exact lh
theorem G_at2 {n A m:Nat}(hA:A<65536 ^ n)(hm:0<m)(O4:m<100000):iN (dk n A) (i64.wrap ((m:Int) - (2:Int)))=some ((yO A m:Nat):Int):=by
 unfold yO
 rw[b7 (by omega)]
 by_cases h:m<2
 ·rw[if_pos h,Q0 (by omega)];rfl
 ·rw[if_neg h,show (m:Int) - 2=((m - 2:Nat):Int) from by omega,G_at hA]
def J2(x0 x1 x2:Nat):Nat:=x0*4294967296+x1*65536+x2
theorem MA {x0 x1 x2:Nat}(h0:x0<65536)(h1:x1<65536)(h2:x2<65536):i64.wrap ((i64.wrap ((i64.wrap ((x0:Int)*(4294967296:Int)))+(i64.wrap ((x1:Int)*(65536:Int)))))+(x2:Int))=((J2 x0 x1 x2:Nat):Int):=by
 unfold J2
 rw[b7 (z:=(x0:Int)*(4294967296:Int)) (by omega),b7 (z:=(x1:Int)*(65536:Int)) (by omega),b7 (z:=(x0:Int)*4294967296+(x1:Int)*65536) (by omega),b7 (by omega)]
 omega
theorem est3_lt {x0 x1 x2:Nat}(h0:x0<65536)(h1:x1<65536)(h2:x2<65536):J2 x0 x1 x2<281474976710656:=by
 unfold J2;omega
theorem quo_w {S T:Nat}(h:S<281474976710656):i64.wrap (Int.tdiv (S:Int) (T:Int))=((S / T:Nat):Int):=by
 have:=pw S T
 rw[←sP]
 generalize S / T=q at this ⊢
 rw[b7 (by omega)]
theorem min_w {e:Nat}:min (65535:Int) (e:Int)=((min 65535 e:Nat):Int):=by omega
theorem est_ge {X B m:Nat}(hm:0<m)(hB:B<65536 ^ m)(PA:65536 ^ (m - 1)≤B)(hX:X<B*65536):
  X / B≤J2 (dg 65536 X m) (dg 65536 X (m - 1)) (yO X m) / (dg 65536 B (m - 1)*65536+yO B m):=by
 unfold J2
 have Gw:0<B:=eD (cr (by decide)) PA
 have hXm:X<65536 ^ (m+1):=by
  rw[dM];exact eD hX (dZ _ (lj hB))
 by_cases h:m<2
 ·obtain rfl:m=1:=by omega
  have eX:X=dg 65536 X 1*65536+dg 65536 X 0:=by
   have:=c6 (b:=65536) (A:=X) (k:=0)
   rw[gj,nl] at this
   have e2:=c6 (b:=65536) (A:=X) (k:=1)
   rw[eV hXm,ic,bJ] at e2
   rw[←e2];exact this
  have eB:B=dg 65536 B 0:=by
   have:=c6 (b:=65536) (A:=B) (k:=0)
   rw[gj,nl,eV hB,ic,bJ] at this
   exact this
  unfold yO
  rw[if_pos (by omega),if_pos (by omega),mK,mK,show 1 - 1=0 from rfl,←eB]
  have:dg 65536 X 1*4294967296+dg 65536 X 0*65536=X*65536:=by omega
  rw[this,Nat.mul_div_mul_right _ _ (by decide)]
  exact aB _
 ·obtain⟨p,rfl⟩:∃p,m=p+2:=⟨m - 2,by omega⟩
  have hp:0<65536 ^ p:=cr (by decide)
  have eX:X / 65536 ^ p=dg 65536 X (p+2)*4294967296+dg 65536 X (p+1)*65536+dg 65536 X p:=by
   have e0:=c6 (b:=65536) (A:=X) (k:=p)
   have e1:=c6 (b:=65536) (A:=X) (k:=p+1)
   have e2:=c6 (b:=65536) (A:=X) (k:=p+2)
   rw[eV hXm,ic,bJ] at e2
   rw[e0,e1,show p+1+1=p+2 from rfl,e2,cz,fL]
  have eB:B / 65536 ^ p=dg 65536 B (p+1)*65536+dg 65536 B p:=by
   have e0:=c6 (b:=65536) (A:=B) (k:=p)
   have e1:=c6 (b:=65536) (A:=B) (k:=p+1)
   rw[eV hB,ic,bJ] at e1
   rw[e0,e1]
  unfold yO
  rw[if_neg h,if_neg h,show p+2 - 2=p from rfl,show p+2 - 1=p+1 from rfl,←eX,←eB]
  have hT:0<B / 65536 ^ p:=by
   refine Nat.div_pos (dP ?_ PA) hp
   exact i9 (by decide) (by omega)
  rw[pq hT,pq hp,fL]
  refine dP (zh _ (Nat.div_mul_le_self _ _)) ?_
  rw[db]
  exact Nat.mul_div_le _ _
theorem HP {X B d:Nat}(hB:0<B):X<B*d↔X / B<d:=by
 rw[mN hB,db]
theorem PW {X B m:Nat}(hm:m<900)(hB:B<65536 ^ m)(Gw:0<B)(hXs:sz6 X≤m+1)(d:Nat)(hd:X / B≤d)(CP:d≤65535):
  bL (iL (dk m B) (dl X)) ((d:Int),dl (B*d))=some (((X / B:Nat):Int),dl (B*(X / B))):=by
 obtain⟨x,hl,hx⟩:=vp (b:=iL (dk m B) (dl X)) (fun s=>∃d:Nat,s=((d:Int),dl (B*d))∧X / B≤d∧d≤65535) (fun s=>s.1.toNat) (fun x=>x=(((X / B:Nat):Int),dl (B*(X / B))))
  (by
   rintro s ⟨d,rfl,h1,h2⟩
   have hBd:B*d<65536 ^ (m+1):=by
    rw[dM];exact Nat.mul_lt_mul_of_lt_of_le hB (by omega) (by decide)
   have hsz:=qX hBd
   dsimp only[iL]
   rw[G2 (e7 X) (e7 (B*d)) (by omega) (by omega),aa]
   by_cases b8:X<B*d
   ·left
    have h3:=(HP Gw).1 b8
    have vy:0<d:=cp (cX _) h3
    have h4:B≤B*d:=Fg _ vy
    refine⟨_,by rw[cE _ _ b8,wg (e7 (B*d)) hB (by omega) h4,aa,b7 (by omega)],⟨d - 1,?_,by omega,by omega⟩,?_⟩
    ·rw[Nat.mul_sub,xu]
     congr 1
     omega
    ·show ((d:Int) - 1).toNat<((d:Nat):Int).toNat
     omega
   ·right
    have h3:=mt (HP Gw).2 b8
    obtain rfl:d=X / B:=by omega
    exact⟨_,by rw[co _ _ b8],rfl⟩) ((d:Int),dl (B*d)) ⟨d,rfl,hd,CP⟩
 rw[hl,hx]
set_option maxRecDepth 10000 in
theorem DP {A B:Nat}(hA:sz6 A<800)(hBs:sz6 B<800)(Gw:0<B):gE (dl A) (dl B)=some (dl (A / B),dl (A % B)):=by
 obtain⟨m,hm⟩:∃m,m=sz6 B:=⟨_,rfl⟩
 obtain⟨n,hn⟩:∃n,n=sz6 A:=⟨_,rfl⟩
 have hB:=e7 B
 have PA:=(yB B).2 (BF Gw)
 have D0:=BF Gw
 have hAn:=e7 A
 show gE (dk (sz6 A) A) (dk (sz6 B) B)=_
 rw[←hm] at hB PA D0 hBs ⊢
 rw[←hn] at hAn hA ⊢
 have cv:1≤dg 65536 B (m - 1):=by
  have:=c6 (b:=65536) (A:=B) (k:=m - 1)
  rw[show m - 1+1=m from by omega,eV hB,ic,bJ] at this
  rw[←this]
  exact (pq (cr (by decide))).2 (by rw[kG];exact PA)
 have hbl:=@lh B (m - 1)
 have O5:=@KK B m
 have em1:i64.wrap ((m:Int) - (1:Int))=((m - 1:Nat):Int):=by rw[b7 (by omega)];omega
 have hm5:m<100000:=by omega
 have htop:((dg 65536 B (m - 1)*65536+yO B m:Nat):Int)≠0:=by omega
 have hl:=Oa (b:=iM (dk n A) (dk m B) ((dg 65536 B (m - 1)*65536+yO B m:Nat):Int)) (s0:=(([]:List Int),(n:Int) - 1,List.replicate n (0:Int))) (fun k=>(dl (A / 65536 ^ k % B),(k:Int) - 1,lF n (fun j=>if k≤j then dg 65536 (A / B) j else 0))) n (dl (A / 65536 ^ 0 % B),lF n (fun j=>if 0≤j then dg 65536 (A / B) j else 0))
  (by
   rw[eV hAn,Nat.zero_mod,dl_zero,Oj]
   congr 2
   exact tZ fun j hj=>if_neg (by omega))
  (fun k hk=>by
   obtain⟨h1,h2⟩:=xM (b:=65536) (A:=A) (k:=k) (d:=B) (by decide) Gw
   have hr:=eO (A / 65536 ^ (k+1)) Gw
   have ha:=@lh A k
   generalize A / 65536 ^ (k+1) % B=R at h1 h2 hr ⊢
   generalize A / 65536 ^ k % B=R' at h2 ⊢
   have hX:R*65536+dg 65536 A k<B*65536:=by
    have:(R+1)*65536≤B*65536:=dZ _ hr
    omega
   have hRs:sz6 R≤m:=qX (by omega)
   have hXm:R*65536+dg 65536 A k<65536 ^ (m+1):=by
    rw[dM];exact eD hX (dZ _ (lj hB))
   have hXs:=qX hXm
   have hcons:[(dg 65536 A k:Int)]++dl R=dk (sz6 R+1) (R*65536+dg 65536 A k):=by
    unfold dl
    rw[lF_cons]
    exact tZ fun j hj=>by
     by_cases hj0:j=0
     ·subst hj0
      rw[if_pos rfl]
      unfold dg
      rw[gj,nl]
      have:=@lh A k
      unfold dg at this
      omega
     ·rw[if_neg hj0]
      obtain⟨i,rfl⟩:∃i,j=i+1:=⟨j - 1,by omega⟩
      exact (dg_cons ha).symm
   have hXlt:R*65536+dg 65536 A k<65536 ^ (sz6 R+1):=by
    have:=e7 R
    rw[dM]
    have h3:(R+1)*65536≤65536 ^ sz6 R*65536:=dZ _ this
    rw[cz,kG] at h3
    exact eD (Dq ha _) h3
   have hszR:sz6 R+1<1000:=by
    have:=cp hRs hBs
    exact eD (Nat.succ_lt_succ this) (by decide)
   have ei:((k+1:Nat):Int) - 1=(k:Int):=by omega
   have Mn:=est_ge D0 hB PA hX
   have d1:=@lh (R*65536+dg 65536 A k) m
   have d2:=@lh (R*65536+dg 65536 A k) (m - 1)
   have d3:=@KK (R*65536+dg 65536 A k) m
   have hqk:(R*65536+dg 65536 A k) / B<65536:=(mN Gw).2 (by rw[db 65536 B];exact hX)
   dsimp only[iM]
   rw[ei,cE _ _ (Int.natCast_nonneg k)]
   rw[dh,dh,dh]
   rw[aM (show (0:Int)≤(k:Int)∧(k:Int)<(n:Int) from⟨Int.natCast_nonneg k,Int.ofNat_lt.2 hk⟩)]
   rw[ct,ct]
   rw[qc hk,hcons,dh]
   rw[aM (show (sz6 R+1)*8≤140737488355328 from dP (dZ _ (lj hszR)) (by decide))]
   rw[yi hXlt (Nat.lt_trans hszR (by decide)),aa,G_at (e7 _),aa]
   rw[show i64.wrap ((m:Int) - (1:Int))=((m - 1:Nat):Int) from em1,G_at (e7 _),aa,G_at2 (e7 _) D0 hm5,aa,aM htop]
   obtain⟨X,hX2⟩:∃X,X=R*65536+dg 65536 A k:=⟨_,rfl⟩
   rw[←hX2] at h1 h2 hX hXm hXs hXlt Mn d1 d2 d3 hqk ⊢
   generalize dg 65536 X m=x0 at Mn d1 ⊢
   generalize dg 65536 X (m - 1)=x1 at Mn d2 ⊢
   generalize yO X m=x2 at Mn d3 ⊢
   have hS:=est3_lt d1 d2 d3
   rw[MA d1 d2 d3,quo_w hS]
   generalize J2 x0 x1 x2 / (dg 65536 B (m - 1)*65536+yO B m)=e at Mn ⊢
   have CQ:X / B≤min 65535 e:=Nat.le_min.2 ⟨Nat.le_of_lt_succ hqk,Mn⟩
   have CP:min 65535 e≤65535:=Nat.min_le_left ..
   rw[min_w,aa]
   generalize min 65535 e=d at CQ CP ⊢
   have e1:[(d:Int)]=dk 1 d:=by
    show _=lF 1 _
    unfold lF dg
    simp only[List.range_one,cP,dA,gj,nl]
    rw[gS (by omega)]
   have hmul:B*(X / B)≤X:=Nat.mul_div_le _ _
   have hms:sz6 (B*(X / B))≤m+1:=qX (by omega)
   rw[e1,IU hB (by rw[Nat.pow_one];omega) (by omega) (by omega),aa,PW (by omega) hB Gw hXs d CQ CP,aa]
   dsimp only
   rw[aM (by omega),wg (e7 X) (e7 _) (by omega) hmul,aa,b7 (by omega),Jv]
   have em:X - B*(X / B)=X % B:=by have:=ln X B;omega
   rw[em,h2,h1]
   have ef:lF n (fun j=>if j=k then dg 65536 (A / B) k else if k+1≤j then dg 65536 (A / B) j else 0)=lF n (fun j=>if k≤j then dg 65536 (A / B) j else 0):=tZ fun j _=>by
    by_cases h:j=k
    ·rw[if_pos h,if_pos (by omega),h]
    ·rw[if_neg h]
     by_cases h3:k+1≤j
     ·rw[if_pos h3,if_pos (by omega)]
     ·rw[if_neg h3,if_neg (by omega)]
   rw[ef])
  (by
   dsimp only[iM]
   rw[co _ _ (by omega)])
 have hq:A / B<65536 ^ n:=cp (pw _ _) hAn
 unfold gE
 rw[dh,dh,aM (by omega),show i64.wrap ((m:Int) - (1:Int))=((m - 1:Nat):Int) from by rw[b7 (by omega)];omega,aM (by omega),G_at2 hB D0 (by omega),aa,ct,ct,qc (by omega),b7 (z:=(dg 65536 B (m - 1):Int)*65536) (by omega),b7 (by omega),aa,b7 (by omega),aa,show (dg 65536 B (m - 1):Int)*65536+(yO B m:Int)=((dg 65536 B (m - 1)*65536+yO B m:Nat):Int) from by omega,hl,aa]
 dsimp only
 rw[dh,aM rfl,tZ (n:=n) (f:=fun j=>if 0≤j then dg 65536 (A / B) j else 0) (g:=dg 65536 (A / B)) fun j _=>if_pos (cX _),yi hq (by omega),aa,gj,nl]
theorem QK:LIM=65536 ^ 32:=by decide +kernel
theorem K6 {A k:Nat}:dg 4294967296 A k=dg 65536 A (2*k+1)*65536+dg 65536 A (2*k):=by
 have e:(4294967296:Nat) ^ k=65536 ^ (2*k):=by rw[Nat.pow_mul]
 unfold dg
 rw[e,dM,←g9]
 omega
theorem QY {x:av}{A:Nat}(hx:x.vW=W A)(hA:A<LIM):bg x=some (dl A):=by
 have hl:=rf (b:=jK x) (s0:=(([]:List Int),(0:Int))) (fun k=>(dk (2*k) A,(k:Int))) 16 (dk 32 A)
  (by rfl)
  (fun k hk=>by
   have hp:=K6 (A:=A) (k:=k)
   have h0:=@lh A (2*k)
   have h1:=@lh A (2*k+1)
   dsimp only[jK]
   rw[cE _ _ (by omega),aM (by omega),aM (by omega),hx,ct,gU hk]
   have e1:i64.wrap (Int.tmod (dg 4294967296 A k:Int) (65536:Int))=(dg 65536 A (2*k):Int):=by
    rw[show (65536:Int)=((65536:Nat):Int) from rfl,←sO,b7 (by omega)];omega
   have e2:i64.wrap (u32.wrap (Int.tdiv (dg 4294967296 A k:Int) (65536:Int)))=(dg 65536 A (2*k+1):Int):=by
    rw[show (65536:Int)=((65536:Nat):Int) from rfl,←sP,zO (by omega),b7 (by omega)];omega
   rw[e1,e2,show dk (2*k) A++[(dg 65536 A (2*k):Int),(dg 65536 A (2*k+1):Int)]=(dk (2*k) A++[(dg 65536 A (2*k):Int)])++[(dg 65536 A (2*k+1):Int)] from by rw[dU];rfl,yP,yP,dh,aM (by omega),b7 (by omega)]
   rfl)
  (by
   dsimp only[jK]
   rw[co _ _ (by omega)])
 unfold bg
 rw[hl,aa,yi (by rw[←QK];exact hA) (by decide),aa]
theorem zE:eY=some Dh:=by unfold eY;rw[r16];rfl
theorem N3 {n A:Nat}(hn:n≤32)(neg:Bool):
  bL (gh (dk n A)) ((0:Int),(⟨false,neg,W 0⟩:av))=some (⟨false,neg,W (A % 65536 ^ n)⟩:av):=by
 have hb:0<(4294967296:Nat):=by decide
 have hl:=rf (b:=gh (dk n A)) (s0:=((0:Int),(⟨false,neg,W 0⟩:av))) (fun k=>((k:Int),(⟨false,neg,W (A % 65536 ^ k)⟩:av))) n (⟨false,neg,W (A % 65536 ^ n)⟩:av)
  (by rw[gj,np];rfl)
  (fun k hk=>by
   have h0:=@lh A k
   have b8:A % 65536 ^ k<65536 ^ k:=eO _ (cr (by decide))
   have hdiv:i64.wrap (Int.tdiv (k:Int) (2:Int))=((k / 2:Nat):Int):=by
    rw[show (2:Int)=((2:Nat):Int) from rfl,←sP,b7 (by omega)]
   have e1:=K6 (A:=A % 65536 ^ k) (k:=k / 2)
   have hu:=fun x:Nat=>I7 (b:=4294967296) (A:=A % 65536 ^ k) (p:=k / 2) (x:=x)
   dsimp only[gh]
   rw[dh,cE _ _ (by omega),hdiv,aM (by omega),aM (by omega),aM (by omega),aa,aM (by omega),aM (by omega),aM (by omega),aa,ct,ct,gU (by omega),qc hk,show (2:Int)=((2:Nat):Int) from rfl,←sO,zO (n:=dg 65536 A k) (by omega),eg]
   have rU:A % 65536 ^ (k+1)=A % 65536 ^ k+65536 ^ k*dg 65536 A k:=ia
   have hpow:(4294967296:Nat) ^ (k / 2)=65536 ^ (2*(k / 2)):=by rw[Nat.pow_mul]
   by_cases he:k % 2=0
   ·have Al:2*(k / 2)=k:=by omega
    have d0:dg 4294967296 (A % 65536 ^ k) (k / 2)=0:=by
     rw[e1,Al,mh b8,mh (eD b8 (i9 (by decide) (by omega)))]
    rw[if_pos (by omega),aa,d0,←jX,zO (by omega),zL hb (by omega) (by omega),b7 (by omega)]
    have:=hu (0+dg 65536 A k)
    rw[d0,hpow,Al] at this
    rw[ic,mK,bJ] at this
    rw[show up1 4294967296 (A % 65536 ^ k) (k / 2) (0+dg 65536 A k)=A % 65536 ^ (k+1) from by rw[rU,db (65536 ^ k),bJ];exact this]
    rfl
   ·have Al:2*(k / 2)+1=k:=by omega
    have d1:dg 4294967296 (A % 65536 ^ k) (k / 2)=dg 65536 A (2*(k / 2)):=by
     rw[e1,Al,mh b8,ic,bJ,nP (by omega)]
    have h2:=@lh A (2*(k / 2))
    rw[if_neg (by omega),aa,d1,show ((dg 65536 A k:Nat):Int)*(65536:Int)=((dg 65536 A k*65536:Nat):Int) from by omega,zO (n:=dg 65536 A k*65536) (by omega),←jX,zO (by omega),zL hb (by omega) (by omega),b7 (by omega)]
    have:=hu (dg 65536 A (2*(k / 2))+dg 65536 A k*65536)
    rw[d1,hpow,cz] at this
    have dW:65536 ^ (2*(k / 2))*65536=(65536:Nat) ^ k:=by rw[←dM];exact congrArg _ Al
    have e3:dg 65536 A k*65536*65536 ^ (2*(k / 2))=65536 ^ k*dg 65536 A k:=by
     rw[fL,db 65536,dW,db]
    rw[e3,Nat.add_left_comm,qx] at this
    have uX:=Nat.add_left_cancel this
    rw[show up1 4294967296 (A % 65536 ^ k) (k / 2) (dg 65536 A (2*(k / 2))+dg 65536 A k*65536)=A % 65536 ^ (k+1) from by rw[rU];exact uX]
    rfl)
  (by
   dsimp only[gh]
   rw[dh,co _ _ (by omega)])
 exact hl
theorem DO {n A:Nat}(hA:A<65536 ^ n)(hn:n<100000)(neg:Bool):cg neg (dk n A)=some (enc (bif neg then -(A:Int) else (A:Int))):=by
 have hiff:32<sz6 A↔¬A<LIM:=by
  rw[QK]
  constructor
  ·intro h h2
   have:=qX h2;omega
  ·intro h
   rcases hE 32 (sz6 A) with h1|h1
   ·exact h1
   ·exact absurd (eD (e7 A) (i9 (by decide) h1)) h
 have M4:(bif neg then -(A:Int) else (A:Int)).natAbs=A:=by cases neg <;> simp
 unfold cg
 rw[yi hA (by omega),aa,PU,r16]
 by_cases h:32<sz6 A
 ·rw[cE _ _ (by omega),zE,aa,C4 (by rw[M4];exact hiff.1 h)]
 ·have hAL:A<LIM:=Decidable.byContradiction fun h2=>h (hiff.2 h2)
  have wP:decide ((0:Int)<((sz6 A:Nat):Int))= !decide (A=0):=by
   rw[←decide_not]
   refine im.2 ?_
   constructor
   ·intro h3 h4;subst h4;rw[Cb] at h3;omega
   ·intro h3;have:=BF (yc h3);omega
  have Gk:(cnd neg (bnd (some ((⟨false,decide ((0:Int)<((sz6 A:Nat):Int)),W 0⟩:av))) fun x7=>some (x7)) (some ((⟨false,false,W 0⟩:av))))=some (⟨false,neg&&!decide (A=0),W 0⟩:av):=by
   rw[aa,wP]
   cases neg <;> rfl
  rw[co _ _ (by omega),Gk,aa,N3 (by omega),aa,gS (e7 A),PP hAL]
theorem zeroW {v:Vector Int 16}:(∀j:Nat,j<16→v[j]! =0)↔v=W 0:=by
 constructor
 ·intro h
  apply og
  intro j hj
  rw[h j hj,gU hj]
  unfold dg;simp
 ·rintro rfl j hj
  rw[gU hj]
  unfold dg;simp
theorem dV(x:av):bk x=some (cR x):=by
 have hl:=rf (b:=kC x) (s0:=(true,(0:Int))) (fun k=>(decide (∀j:Nat,j<k→x.vW[j]! =0),(k:Int))) 16 (decide (∀j:Nat,j<16→x.vW[j]! =0))
  (by
   rw[aF (p:=∀j:Nat,j<0→x.vW[j]! =0) (fun j hj=>by omega)]
   rfl)
  (fun k hk=>by
   dsimp only[kC]
   rw[cE _ _ (by omega),aM (by omega),ct,BV,aa,b7 (by omega),←vS]
   have:((∀j:Nat,j<k→x.vW[j]! =0)∧x.vW[k]! =0)↔∀j:Nat,j<k+1→x.vW[j]! =0:=by
    constructor
    ·rintro⟨h1,h2⟩ j hj
     by_cases h:j=k
     ·rw[h];exact h2
     ·exact h1 j (by omega)
    ·intro h
     exact⟨fun j hj=>h j (by omega),h k (by omega)⟩
   rw[im.2 this]
   rfl)
  (by
   dsimp only[kC]
   rw[co _ _ (by omega)])
 have hz:decide (∀j:Nat,j<16→x.vW[j]! =0)=decide (x.vW=W 0):=im.2 zeroW
 unfold bk pC cR
 rw[hl,aa,hz]
 cases x.vBad <;> cases decide (x.vW=W 0) <;> cases x.vNeg <;> rfl
theorem KV {A:Nat}(hA:A<LIM)(h:∀j,2≤j→j<16→dg 4294967296 A j=0):A / 4294967296 ^ 2=0:=by
 have key:∀d,d≤14→A / 4294967296 ^ (16 - d)=0:=by
  intro d
  induction d with
  |zero=>intro _;exact eV hA
  |succ d ih=>
   intro hd
   have h1:=ih (by omega)
   have h2:=c6 (b:=4294967296) (A:=A) (k:=16 - (d+1))
   rw[show 16 - (d+1)+1=16 - d from by omega,h1,ic,bJ,h _ (by omega) (by omega)] at h2
   exact h2
 exact key 14 (aB _)
structure gx(a:Int):Prop where
 h:a.natAbs<4611686018427387904
instance(a:Int):Decidable (gx a):=decidable_of_iff (a.natAbs<4611686018427387904) ⟨fun h=>⟨h⟩,fun h=>h.h⟩
theorem Nc {A:Nat}(hA:A<LIM):A<4611686018427387904↔dg 4294967296 A 1<1073741824∧∀j,2≤j→j<16→dg 4294967296 A j=0:=by
 constructor
 ·intro h
  refine⟨?_,fun j h1 _=>mh (eD h ?_)⟩
  ·unfold dg;rw[Nat.pow_one];omega
  ·exact dP (by decide:4611686018427387904≤4294967296 ^ 2) (i9 (by decide) h1)
 ·rintro⟨h1,h2⟩
  have h3:=KV hA h2
  have h4:=c6 (b:=4294967296) (A:=A) (k:=1)
  rw[show 1+1=2 from rfl,h3,ic,bJ,Nat.pow_one] at h4
  omega
theorem qo {a:Int}(ha:a.natAbs<LIM):cM (enc a)=some (if gx a then (a,true) else (0,false)):=by
 have hwi:=Nc ha
 obtain⟨x,hl,hx⟩:=vp (b:=mW (enc a)) (fun s=>∃k:Nat,s=(k:Int)∧2≤k∧k≤16∧∀j,2≤j→j<k→dg 4294967296 a.natAbs j=0) (fun s=>16 - s.toNat) (fun x=>match x with| .inl r=>r=((0:Int),false)∧¬(∀j,2≤j→j<16→dg 4294967296 a.natAbs j=0)| .inr _=>∀j,2≤j→j<16→dg 4294967296 a.natAbs j=0)
  (by
   rintro s ⟨k,rfl,Al,hk,hz⟩
   dsimp only[mW]
   rw[mg ha]
   by_cases h16:k<16
   ·rw[cE _ _ (by omega),aM (by omega),ct,gU h16]
    by_cases hd:dg 4294967296 a.natAbs k=0
    ·left
     refine⟨((k+1:Nat):Int),by rw[co _ _ (by omega),b7 (by omega)];rfl,⟨k+1,rfl,by omega,by omega,fun j h1 h2=>?_⟩,by omega⟩
     by_cases h:j=k
     ·rw[h];exact hd
     ·exact hz j h1 (by omega)
    ·right
     refine⟨(Sum.inl ((0:Int),false):(Int×Bool)⊕Unit),by rw[cE _ _ (by omega)],rfl,fun h=>hd (h k Al h16)⟩
   ·right
    refine⟨(Sum.inr ():(Int×Bool)⊕Unit),by rw[co _ _ (by omega)],?_⟩
    obtain rfl:k=16:=by omega
    exact hz) (2:Int) ⟨2,rfl,by omega,by omega,fun j h1 h2=>by omega⟩
 have e1:(W a.natAbs)[((1:Int)).toNat]! =(dg 4294967296 a.natAbs 1:Int):=gU (by decide)
 have e0:(W a.natAbs)[((0:Int)).toNat]! =(dg 4294967296 a.natAbs 0:Int):=gU (by decide)
 have d0:=@dgl a.natAbs 0
 unfold cM
 rw[dV,bh ha,aa,cj,aK,aa,mg ha,e1,e0,fq ha]
 by_cases h1:dg 4294967296 a.natAbs 1<1073741824
 ·rw[co _ _ (by omega),hl,aa]
  cases x with
  |inl r=>
   obtain⟨rfl,h2⟩:=hx
   have:¬gx a:=fun h=>h2 (hwi.1 h.h).2
   rw[if_neg this]
  |inr u=>
   have h2:gx a:=⟨hwi.2 ⟨h1,hx⟩⟩
   have h3:=KV ha hx
   have h4:=c6 (b:=4294967296) (A:=a.natAbs) (k:=1)
   rw[show 1+1=2 from rfl,h3,ic,bJ,Nat.pow_one] at h4
   have h5:dg 4294967296 a.natAbs 0=a.natAbs % 4294967296:=by unfold dg;rw[gj,nl]
   have h6:(dg 4294967296 a.natAbs 1:Int)*4294967296+(dg 4294967296 a.natAbs 0:Int)=(a.natAbs:Int):=by omega
   have h7:=h2.h
   dsimp only
   rw[b7 (z:=(dg 4294967296 a.natAbs 1:Int)) (by omega),b7 (z:=(dg 4294967296 a.natAbs 1:Int)*4294967296) (by omega),b7 (z:=(dg 4294967296 a.natAbs 0:Int)) (by omega),h6,b7 (z:=(a.natAbs:Int)) (by omega),aa,eg,if_pos h2]
   by_cases hn:a<0
   ·rw[if_pos hn,b7 (by omega),show (0:Int) - (a.natAbs:Int)=a from by omega]
   ·rw[if_neg hn,show (a.natAbs:Int)=a from by omega]
 ·have:¬gx a:=fun h=>h1 (hwi.1 h.h).1
  rw[cE _ _ (by omega),if_neg this]
theorem ut {x:av}(h:cR x=false):cM x=some (0,false):=by
 unfold cM
 rw[dV,h,aa,lm,c7,aa,c7]
theorem dk4 {N:Nat}:dk 4 N=[(dg 65536 N 0:Int),(dg 65536 N 1:Int),(dg 65536 N 2:Int),(dg 65536 N 3:Int)]:=rfl
theorem of4 {N:Nat}(hN:N<9223372036854775808):[Int.tmod (N:Int) (65536:Int),Int.tmod (i64.wrap (Int.tdiv (N:Int) (65536:Int))) (65536:Int),Int.tmod (i64.wrap (Int.tdiv (N:Int) (4294967296:Int))) (65536:Int),i64.wrap (Int.tdiv (N:Int) (281474976710656:Int))]=dk 4 N:=by
 have e1:i64.wrap (Int.tdiv (N:Int) (65536:Int))=((N / 65536:Nat):Int):=by
  rw[show (65536:Int)=((65536:Nat):Int) from rfl,←sP,b7 (by omega)]
 have e2:i64.wrap (Int.tdiv (N:Int) (4294967296:Int))=((N / 4294967296:Nat):Int):=by
  rw[show (4294967296:Int)=((4294967296:Nat):Int) from rfl,←sP,b7 (by omega)]
 have e3:i64.wrap (Int.tdiv (N:Int) (281474976710656:Int))=((N / 281474976710656:Nat):Int):=by
  rw[show (281474976710656:Int)=((281474976710656:Nat):Int) from rfl,←sP,b7 (by omega)]
 rw[e1,e2,e3,dk4,show (65536:Int)=((65536:Nat):Int) from rfl,←sO,←sO,←sO]
 have d0:dg 65536 N 0=N % 65536:=by unfold dg;rw[gj,nl]
 have d1:dg 65536 N 1=N / 65536 % 65536:=by unfold dg;rw[Nat.pow_one]
 have d2:dg 65536 N 2=N / 4294967296 % 65536:=rfl
 have d3:dg 65536 N 3=N / 281474976710656:=by
  have:dg 65536 N 3=N / 281474976710656 % 65536:=rfl
  rw[this];omega
 rw[d0,d1,d2,d3]
theorem NX:[(1:Int)]=dk 1 1:=rfl
theorem pF {n:Int}(h1:-9223372036854775808≤n)(h2:n≤9223372036854775807):fJ n=some (enc n):=by
 unfold fJ
 by_cases hn:0≤n
 ·obtain⟨N,rfl⟩:∃N:Nat,n=(N:Int):=⟨n.toNat,by omega⟩
  have hN4:N<65536 ^ 4:=eD (show N<9223372036854775808 by omega) (by decide)
  rw[cE _ _ hn,of4 (by omega),DO hN4 (by decide),aa]
  rfl
 ·obtain⟨M,hM⟩:∃M:Nat,-(n+1)=(M:Int):=⟨(-(n+1)).toNat,by omega⟩
  have hM4:M<65536 ^ 4:=eD (show M<9223372036854775808 by omega) (by decide)
  have e:i64.wrap (0 - (i64.wrap (n+(1:Int))))=(M:Int):=by
   rw[b7 (z:=n+1) (by omega),b7 (by omega)];omega
  rw[co _ _ hn,e,aa,of4 (by omega),NX,G1 hM4 (by decide) (by decide) (by decide),aa,DO (A:=M+1) (e7 _) (cp (qX (A:=M+1) (n:=5) (cp (show M+1≤65536 ^ 4 from hM4) (by decide))) (by decide)),aa]
  congr 2
  simp only[fx]
  omega
theorem f7 {A:Nat}(h:A<LIM):sz6 A≤32:=qX (by rw[←QK];exact h)
theorem sz_mul {A B:Nat}(hA:A<LIM)(hB:B<LIM):sz6 (A*B)≤64:=qX (by
 have:=ya hA hB
 rw[QK,←g8] at this
 exact this)
theorem Nq {A B:Nat}(hA:A<LIM)(hB:B<LIM):sz6 (A+B)≤33:=qX (by
 have h1:A+B<2*LIM:=by omega
 have h2:2*LIM≤65536 ^ 33:=by rw[QK,dM,db];exact zh _ (by decide)
 exact eD h1 h2)
theorem we {A:Nat}(h:sz6 A≤1000)(neg:Bool):cg neg (dl A)=some (enc (bif neg then -(A:Int) else (A:Int))):=
 DO (e7 A) (cp h (by decide)) neg
theorem fM {a:Int}(ha:a.natAbs<LIM):bg (enc a)=some (dl a.natAbs):=QY (mg ha) ha
theorem QS {a:Int}(ha:a.natAbs<LIM):pV (enc a)=some (enc (a.natAbs:Int)):=by
 unfold pV
 rw[dV,bh ha,aa,cj,aK,fM ha,aa,we (dP (f7 ha) (by decide)),aa]
 rfl
theorem QO {a:Int}(ha:a.natAbs<LIM):pU (enc a)=some (enc (-a)):=by
 unfold pU
 rw[dV,bh ha,aa,cj,aK,fM ha,aa,fq ha,we (dP (f7 ha) (by decide)),aa]
 congr 2
 by_cases h:a<0
 ·simp only[h,nk,cj,cond_false];omega
 ·simp only[h,nj,lm,fx];omega
theorem tD {a:Int}(ha:a.natAbs<LIM):fe (enc a)=some a.sign:=by
 unfold fe
 rw[dV,bh ha,aa,cj,aK,fM ha,aa,aa,fq ha]
 have hz:((dl a.natAbs).length:Int)=0↔a=0:=by
  rw[show ((dl a.natAbs).length:Int)=0↔(dl a.natAbs).length=0 from by omega,J4];omega
 rcases yb a 0 with h|h|h
 ·rw[co _ _ (by rw[hz];omega),cE _ _ h,Az h]
 ·subst h;rw[cE _ _ (hz.2 rfl)];rfl
 ·rw[co _ _ (by rw[hz];omega),co _ _ (by omega),uh h]
theorem fast2(p q:Prop)[Decidable p][Decidable q](a c:Int):(cnd (if p then (a,true) else (0,false):Int×Bool).2 (some (if q then (c,true) else (0,false):Int×Bool).2) (some false))=some (decide (p∧q)):=by
 by_cases hp:p <;> by_cases hq:q <;> simp[hp,hq,cnd]
theorem Gz(x y:av):(bnd (S:=Bool) (bnd (bk x) fun jm=>cnd (!jm) (some (true)) (bnd (bk y) fun nD=>some (!nD))) fun b=>some b)=some (!(cR x&&cR y)):=by
 rw[dV,dV,aa,aa]
 cases cR x <;> cases cR y <;> rfl
theorem QQ {a c:Int}(ha:a.natAbs<LIM)(hc:c.natAbs<LIM):kN (enc a) (enc c)=some (enc (a+c)):=by
 unfold kN
 rw[qo ha,qo hc,aa,aa,fast2,aa,eg]
 by_cases hw:gx a∧gx c
 ·have h1:=hw.1.h
  have h2:=hw.2.h
  rw[if_pos hw,if_pos hw.1,if_pos hw.2]
  dsimp only
  rw[b7 (by omega),pF (by omega) (by omega),aa]
 ·have hg:=Gz (enc a) (enc c)
  rw[nQ] at hg
  rw[if_neg hw,hg,bh ha,bh hc,aa,bc,cj,aK,fM ha,aa,fM hc,aa,fq ha,fq hc,G1 (e7 _) (e7 _) (cp (f7 ha) (by decide)) (cp (f7 hc) (by decide)),aa,G2 (e7 _) (e7 _) (cp (f7 ha) (by decide)) (cp (f7 hc) (by decide)),aa]
  by_cases hs:decide (a<0)=decide (c<0)
  ·have HZ:=im.1 hs
   rw[hs,vZ,c7,we (dP (Nq ha hc) (by decide)),aa]
   congr 2
   by_cases h:c<0
   ·simp only[h,nk,fx];omega
   ·simp only[h,nj,cond_false];omega
  ·have HZ:¬((a<0)↔(c<0)):=fun h=>hs (im.2 h)
   have hb:(decide (a<0) == decide (c<0))=false:=Dp.2 hs
   rw[hb,aK]
   by_cases h1:a.natAbs<c.natAbs
   ·have hl:c.natAbs - a.natAbs<LIM:=cp (Nat.sub_le _ _) hc
    rw[cE _ _ h1,wg (e7 _) (e7 _) (cp (f7 hc) (by decide)) (lj h1),aa,we (dP (f7 hl) (by decide)),aa]
    congr 2
    by_cases h:c<0
    ·simp only[h,nk,fx];omega
    ·simp only[h,nj,cond_false];omega
   ·have hl:a.natAbs - c.natAbs<LIM:=cp (Nat.sub_le _ _) ha
    rw[co _ _ h1,wg (e7 _) (e7 _) (cp (f7 ha) (by decide)) (by omega),aa,we (dP (f7 hl) (by decide)),aa]
    congr 2
    by_cases h:a<0
    ·simp only[h,nk,fx];omega
    ·simp only[h,nj,cond_false];omega
theorem PN {x y:av}(hx:okI x)(hy:okI y)(h:(cR x&&cR y)=false):∃p q:Int×Bool,cM x=some p∧cM y=some q∧(p.2&&q.2)=false:=by
 cases h1:cR x with
 |false=>
  refine⟨(0,false),?_⟩
  cases h2:cR y with
  |false=>exact⟨(0,false),ut h1,ut h2,rfl⟩
  |true=>
   obtain⟨z,hz,rfl⟩:=td hy h2
   exact⟨_,ut h1,qo hz,rfl⟩
 |true=>
  have h2:cR y=false:=by rw[h1] at h;exact h
  obtain⟨z,hz,rfl⟩:=td hx h1
  exact⟨_,(0,false),qo hz,ut h2,uf _⟩
theorem GZ {x y:av}(hx:okI x)(hy:okI y)(h:(cR x&&cR y)=false):kN x y=some Dh:=by
 obtain⟨p,q,h1,h2,h3⟩:=PN hx hy h
 have hg:=Gz x y
 rw[nQ] at hg
 unfold kN
 rw[h1,h2,aa,aa,BV,h3,aa,aK,hg,h,aa,lm,c7,zE,aa]
theorem H9(n:Int):jJ n=some (decide (-2147483648<n∧n<2147483648)):=by
 unfold jJ
 rw[BV,aa,←vS]
 congr 1
 exact im.2 And.comm
theorem yL(a c:Int):(bif (!(decide (a<0) == decide (c<0))) then -((a.natAbs*c.natAbs:Nat):Int) else ((a.natAbs*c.natAbs:Nat):Int))=a*c:=by
 by_cases ha0:a<0 <;> by_cases hc0:c<0 <;> simp only[ha0,hc0,nk,nj,vZ,cj,lm,fx,cond_false,Bool.true_beq,Bool.false_beq,jZ]
 ·have ea:(a.natAbs:Int)=-a:=by omega
  have ec:(c.natAbs:Int)=-c:=by omega
  rw[ea,ec,Int.neg_mul_neg]
 ·have ea:(a.natAbs:Int)=-a:=by omega
  have ec:(c.natAbs:Int)=c:=by omega
  rw[ea,ec,Int.neg_mul,Int.neg_neg]
 ·have ea:(a.natAbs:Int)=a:=by omega
  have ec:(c.natAbs:Int)=-c:=by omega
  rw[ea,ec,rJ,Int.neg_neg]
 ·have ea:(a.natAbs:Int)=a:=by omega
  have ec:(c.natAbs:Int)=c:=by omega
  rw[ea,ec]
theorem N8 {n m:Int}(hn:-2147483648<n∧n<2147483648)(hm:-2147483648<m∧m<2147483648):-9223372036854775808≤n*m∧n*m≤9223372036854775807:=by
 have h1:n.natAbs*m.natAbs≤2147483647*2147483647:=uJ (by omega) (by omega)
 have h2:(n*m).natAbs=n.natAbs*m.natAbs:=vU _ _
 omega
theorem wb {a c:Int}(ha:a.natAbs<LIM)(hc:c.natAbs<LIM):jL (enc a) (enc c)=some (enc (a*c)):=by
 have hf:(cnd (if gx a then (a,true) else (0,false):Int×Bool).2 (cnd (if gx c then (c,true) else (0,false):Int×Bool).2 (bnd (jJ (if gx a then (a,true) else (0,false):Int×Bool).1) fun x7=>cnd x7 (bnd (jJ (if gx c then (c,true) else (0,false):Int×Bool).1) fun jm=>some (jm)) (some (false))) (some (false))) (some (false)))=some (decide ((-2147483648<a∧a<2147483648)∧(-2147483648<c∧c<2147483648))):=by
  by_cases hwa:gx a
  ·by_cases hwc:gx c
   ·rw[if_pos hwa,if_pos hwc,c7,c7,H9,H9,aa,aa,BV,←vS]
   ·rw[if_pos hwa,if_neg hwc,c7,aK]
    congr 1
    symm
    refine bf fun h=>hwc ?_
    constructor;omega
  ·rw[if_neg hwa,aK]
   congr 1
   symm
   refine bf fun h=>hwa ?_
   constructor;omega
 unfold jL
 rw[qo ha,qo hc,aa,aa,hf,aa,eg]
 by_cases hw:(-2147483648<a∧a<2147483648)∧(-2147483648<c∧c<2147483648)
 ·have hmh:=N8 hw.1 hw.2
  rw[if_pos hw,if_pos (by constructor;omega),if_pos (by constructor;omega)]
  dsimp only
  rw[b7 hmh,pF hmh.1 hmh.2,aa]
 ·have hg:=Gz (enc a) (enc c)
  rw[nQ] at hg
  rw[if_neg hw,hg,bh ha,bh hc,aa,bc,cj,aK,fM ha,aa,fM hc,aa,fq ha,fq hc,IU (e7 _) (e7 _) (cp (f7 ha) (by decide)) (cp (f7 hc) (by decide)),aa,we (dP (sz_mul ha hc) (by decide)),aa,yL]
theorem Ls {n m:Int}(D0:m≠0)(hn:n.natAbs<4611686018427387904):lX n m=some (n.fdiv m):=by
 obtain⟨h1,h2,h3⟩:=zR (x:=n) D0
 have hq:=Hw (x:=n) (y:=m) (by omega)
 have hnq:(n.tdiv m).natAbs≤n.natAbs:=by rw[Int.natAbs_tdiv];exact pw _ _
 have qI:(cnd (decide ((Int.tmod n m)≠(0:Int))) (some (!((decide (n<(0:Int))) == (decide (m<(0:Int)))))) (some (false)))=some (decide (n.fdiv m≠n.tdiv m)):=by
  rw[←h1,eg,eg]
  by_cases h:n.tmod m≠0
  ·rw[if_pos h,if_pos h]
   congr 3
   refine im.2 ?_
   constructor
   ·intro wP
    have:=Int.tmod_nonneg m (show 0≤-n by omega)
    rw[Int.neg_tmod] at this
    omega
   ·intro wP
    by_cases h4:n<0
    ·exact h4
    ·have:=Int.tmod_nonneg m (show 0≤n by omega)
     omega
  ·rw[if_neg h,if_neg h]
 unfold lX
 rw[aM D0,aM D0,qI,aa,eg]
 by_cases h:n.fdiv m=n.tdiv m
 ·rw[if_neg (fun hh=>hh h),aa,b7 (by omega),h]
 ·rw[if_pos h,b7 (z:=n.tdiv m) (by omega),b7 (by omega),aa,aa,(h2 h).1]
theorem NK {a c:Int}(h0:c≠0):(bif (!(decide (a<0) == decide (c<0))) then -((a.natAbs / c.natAbs+(if a.natAbs % c.natAbs=0 then 0 else 1):Nat):Int) else ((a.natAbs / c.natAbs:Nat):Int))=a.fdiv c:=by
 have hr:=eO a.natAbs (show 0<c.natAbs by omega)
 have hdm:=ln a.natAbs c.natAbs
 have Ez:(c.natAbs:Int)*((a.natAbs / c.natAbs:Nat):Int)+((a.natAbs % c.natAbs:Nat):Int)=(a.natAbs:Int):=by rw[←jZ,←jX,hdm]
 generalize a.natAbs / c.natAbs=Q at Ez ⊢
 generalize a.natAbs % c.natAbs=R at Ez hr ⊢
 have hmul:∀z:Int,z*c=(if c<0 then -1 else 1)*((c.natAbs:Int)*z):=by
  intro z
  split
  ·have e:c=-(c.natAbs:Int):=by omega
   conv=>lhs;rw[e]
   rw[rJ,Int.neg_mul,sL,jW]
  ·have e:c=(c.natAbs:Int):=by omega
   conv=>lhs;rw[e]
   rw[sL,jW]
 by_cases hs:decide (a<0)=decide (c<0)
 ·have HZ:=im.1 hs
  rw[hs,vZ,cj,cond_false]
  exact (jl (x:=a) h0 (Q:Int) (if c<0 then -(R:Int) else (R:Int)) (by rw[hmul];split <;> omega) (by split <;> omega)).1
 ·have HZ:¬((a<0)↔(c<0)):=fun h=>hs (im.2 h)
  have hb:(decide (a<0) == decide (c<0))=false:=Dp.2 hs
  rw[hb,lm,fx]
  by_cases hR:R=0
  ·rw[if_pos hR]
   refine (jl (x:=a) h0 _ 0 ?_ (by omega)).1
   rw[hmul,rJ,mK]
   split <;> omega
  ·rw[if_neg hR]
   refine (jl (x:=a) h0 _ (if c<0 then -((c.natAbs:Int) - (R:Int)) else (c.natAbs:Int) - (R:Int)) ?_ (by split <;> omega)).1
   rw[hmul,rJ,jX,Int.mul_add]
   split <;> omega
theorem dig1(A:Nat):decide (((dl A).length:Int)=0)=decide (A=0):=by
 refine im.2 ?_
 rw[show ((dl A).length:Int)=0↔(dl A).length=0 from by omega,J4]
theorem dig2(A:Nat):decide ((0:Int)<((dl A).length:Int))=decide (A≠0):=by
 refine im.2 ?_
 have:=@J4 A
 omega
theorem PD {x:av}{c:Int}(_hx:okI x)(hc:c.natAbs<LIM):(bnd (S:=Bool) (bnd (bk x) fun nD=>cnd (!nD) (some (true)) (bnd (bk (enc c)) fun o6=>cnd (!o6) (some (true)) (bnd (bg (enc c)) fun rP=>some (decide (((rP).length:Int)=(0:Int)))))) fun b=>some b)=some (!(cR x&&decide (c≠0))):=by
 rw[dV,dV,fM hc,aa,aa,aa,bh hc,dig1,nQ]
 have:decide (c≠0)= !decide (c.natAbs=0):=by
  rw[←decide_not];exact im.2 (by omega)
 rw[this]
 cases cR x <;> cases decide (c.natAbs=0) <;> rfl
theorem fastq(a c:Int):(cnd (if gx a then (a,true) else (0,false):Int×Bool).2 (cnd (if gx c then (c,true) else (0,false):Int×Bool).2 (some (decide ((if gx c then (c,true) else (0,false):Int×Bool).1≠(0:Int)))) (some (false))) (some (false)))=some (decide (gx a∧gx c∧c≠0)):=by
 by_cases hp:gx a <;> by_cases hq:gx c <;> simp[hp,hq,cnd]
theorem tE {a c:Int}(ha:a.natAbs<LIM)(hc:c.natAbs<LIM)(h0:c≠0):iy (enc a) (enc c)=some (enc (a.fdiv c)):=by
 unfold iy
 rw[qo ha,qo hc,aa,aa,fastq,aa,eg]
 by_cases hw:gx a∧gx c∧c≠0
 ·have hq:a.fdiv c=a.tdiv c∨a.fdiv c=a.tdiv c - 1:=by
   obtain⟨_,h2,_⟩:=zR (x:=a) h0
   by_cases h:a.fdiv c=a.tdiv c
   ·exact .inl h
   ·exact .inr (h2 h).1
  have h1:=hw.1.h
  have hnq:(a.tdiv c).natAbs≤a.natAbs:=by rw[Int.natAbs_tdiv];exact pw _ _
  rw[if_pos hw,if_pos hw.1,if_pos hw.2.1]
  dsimp only
  rw[Ls h0 hw.1.h,aa,pF (by omega) (by omega),aa]
 ·have hg:=PD (tW a) hc
  rw[nQ] at hg
  have hq:a.natAbs / c.natAbs<LIM:=cp (pw _ _) ha
  have hdl:decide ((0:Int)<((dl (a.natAbs % c.natAbs)).length:Int))=decide (a.natAbs % c.natAbs≠0):=dig2 _
  rw[if_neg hw,hg,bh ha,aF h0,aa,bc,cj,aK,fM ha,aa,fM hc,aa,DP (cp (f7 ha) (by decide)) (cp (f7 hc) (by decide)) (by omega),aa,fq ha,fq hc]
  dsimp only
  rw[NX,G1 (e7 _) (by decide) (cp (f7 hq) (by decide)) (by decide),aa,hdl,←NK h0]
  have hs1:sz6 (a.natAbs / c.natAbs+1)≤1000:=dP (Nq hq (by decide)) (by decide)
  have MY:sz6 (a.natAbs / c.natAbs)≤1000:=dP (f7 hq) (by decide)
  cases hsg:(!(decide (a<0) == decide (c<0))) with
  |false=>
   rw[aK,aa,aK,aa,we MY,aa]
   rfl
  |true=>
   rw[c7,aa,eg]
   by_cases hR:a.natAbs % c.natAbs=0
   ·rw[if_neg (fun h=>h hR),aa,we MY,aa,if_pos hR,mK]
   ·rw[if_pos hR,aa,we hs1,aa,if_neg hR]
    rfl
theorem PG(n m:Int):∃r:Int,bL ji (n,m)=some r∧r.natAbs=Nat.gcd n.natAbs m.natAbs:=by
 induction hk:m.natAbs using Nat.strongRecOn generalizing n m with
 |_ k ih=>
  subst hk
  by_cases hm:m=0
  ·subst hm
   refine⟨n,lS (by dsimp only[ji];rw[co _ _ (fun h=>h rfl)]),?_⟩
   rw[Int.natAbs_zero,Nat.gcd_zero_right]
  ·have h1:ji (n,m)=some (.inl (m,n.tmod m)):=by
    dsimp only[ji]
    rw[cE _ _ hm,aM hm]
   have e:=Int.natAbs_tmod n m
   obtain⟨r,h2,h3⟩:=ih (n.tmod m).natAbs (by rw[e];exact eO _ (by omega)) m (n.tmod m) rfl
   exact⟨r,(nW h1).trans h2,by rw[h3,e,←yX]⟩
theorem PH(x y:Nat)(hx:sz6 x<800)(hy:sz6 y<800):bL jh (dl x,dl y)=some (dl (Nat.gcd x y)):=by
 induction y using Nat.strongRecOn generalizing x with
 |_ y ih=>
  by_cases h0:y=0
  ·subst h0
   rw[Nat.gcd_zero_right]
   refine lS ?_
   dsimp only[jh]
   rw[dig2,co _ _ (fun h=>h rfl)]
  ·have h1:jh (dl x,dl y)=some (.inl (dl y,dl (x % y))):=by
    dsimp only[jh]
    rw[dig2,cE _ _ h0,DP hx hy (by omega),aa]
   have b8:=eO x (show 0<y by omega)
   have hs:sz6 (x % y)<800:=cp (qX (Nat.lt_trans b8 (e7 y))) hy
   rw[nW h1,ih (x % y) b8 y hy hs,←yX]
theorem DK {a c:Int}(ha:a.natAbs<LIM)(hc:c.natAbs<LIM):mG (enc a) (enc c)=some (enc (Nat.gcd a.natAbs c.natAbs:Nat)):=by
 have IZ:Nat.gcd a.natAbs c.natAbs<LIM:=by
  rcases rF a.natAbs with h|h
  ·rw[h,Nat.gcd_zero_left];exact hc
  ·exact cp (vT _ h) ha
 unfold mG
 rw[qo ha,qo hc,aa,aa,fast2,aa,eg]
 by_cases hw:gx a∧gx c
 ·have h1:=hw.1.h
  have h2:=hw.2.h
  rw[if_pos hw,if_pos hw.1,if_pos hw.2]
  dsimp only
  obtain⟨r,h3,h4⟩:=PG a c
  have hr:r.natAbs<4611686018427387904:=by
   rw[h4]
   rcases rF a.natAbs with h|h
   ·rw[h,Nat.gcd_zero_left];exact h2
   ·exact cp (vT _ h) h1
  rw[h3,aa,pF (by omega) (by omega),aa,QS (by rw[h4];exact IZ),aa,h4]
 ·have hg:=Gz (enc a) (enc c)
  rw[nQ] at hg
  rw[if_neg hw,hg,bh ha,bh hc,aa,bc,cj,aK,fM ha,aa,fM hc,aa,PH _ _ (cp (f7 ha) (by decide)) (cp (f7 hc) (by decide)),aa,we (dP (f7 IZ) (by decide)),aa]
  rfl
theorem QD:mE=some (enc 1):=by
 unfold mE
 rw[pF (by decide) (by decide),aa]
theorem Fq:jF=some Bz:=by
 unfold jF
 rw[zE,QD,aa,aa]
 rfl
theorem nq {x:ao}(hx:okR x):bT x=some (cK x).isSome:=by
 rw[←iR hx]
 obtain⟨n,d⟩:=x
 obtain⟨h1,h2⟩:=hx
 dsimp only at h1 h2
 unfold bT br
 dsimp only
 rw[dV,dV,pE,pE,aa,aa,aa,aa]
 cases AZ:cR n with
 |false=>rfl
 |true=>
  cases Ex:cR d with
  |false=>rfl
  |true=>
   obtain⟨n,hn,rfl⟩:=td h1 AZ
   obtain⟨d,hd,rfl⟩:=td h2 Ex
   rw[tD hd,wh hd,DK hn hd,Lw hn hd,QD,Lr]
   rfl
theorem AG {n d:Int}(hn:n.natAbs<LIM)(hd:d.natAbs<LIM)(h0:d≠0):fc (enc n) (enc d)=some (i8 (Rat.divInt n d)):=by
 obtain⟨AZ,Ex⟩:=GA (n:=n) h0 hd
 obtain⟨e1,e2⟩:=HN (n:=n) h0
 have IZ:(((Nat.gcd n.natAbs d.natAbs:Nat):Int)).natAbs<LIM:=by simpa using AZ
 unfold fc
 rw[dV,dV,aa,aa,bh hn,bh hd,cj,aK,aK,tD hd,aa,aa,co _ _ (by rw[Ay];exact h0),DK hn hd,aa,aa,QO IZ,aa]
 have Gk:(cnd (decide (d.sign<(0:Int))) (some (enc (-((Nat.gcd n.natAbs d.natAbs:Nat):Int)))) (some (enc ((Nat.gcd n.natAbs d.natAbs:Nat):Int))))=some (enc (bif decide (d<0) then -((Nat.gcd n.natAbs d.natAbs:Nat):Int) else ((Nat.gcd n.natAbs d.natAbs:Nat):Int))):=by
  by_cases h:d<0
  ·rw[cE _ _ (by rw[Int.sign_neg_iff];exact h),aF h];rfl
  ·rw[co _ _ (by rw[Int.sign_neg_iff];exact h),bf h];rfl
 have DX:((bif decide (d<0) then -((Nat.gcd n.natAbs d.natAbs:Nat):Int) else ((Nat.gcd n.natAbs d.natAbs:Nat):Int))).natAbs<LIM∧(bif decide (d<0) then -((Nat.gcd n.natAbs d.natAbs:Nat):Int) else ((Nat.gcd n.natAbs d.natAbs:Nat):Int))≠0:=by
  cases decide (d<0)
  ·simp only[cond_false];omega
  ·simp only[fx];omega
 rw[Gk,aa,tE hn DX.1 DX.2,aa,tE hd DX.1 DX.2,aa,e1,e2]
 rfl
theorem yg {x y:av}(h:(cR x&&cR y)=false):fc x y=some Bz:=by
 unfold fc
 rw[dV,dV,aa,aa,Fq,aa]
 cases h1:cR x with
 |false=>rfl
 |true=>
  cases h2:cR y with
  |false=>rfl
  |true=>rw[h1,h2] at h;cases h
theorem R_Mul {x y:Rat}(hx:mn x)(hy:mn y):jE (i8 x) (i8 y)=some (vH (uS x y)):=by
 have hdx:=x.den_pos
 have hdy:=y.den_pos
 obtain⟨c1,c2⟩:=cross x y
 have f1:=rr (n:=x.num) (d:=(y.den:Int)) (by omega) hx.1 (ee hy)
 have f2:=rr (n:=y.num) (d:=(x.den:Int)) (by omega) hy.1 (ee hx)
 unfold jE
 rw[show bT (i8 x)=_ from nq (oo (some x)),show bT (i8 y)=_ from nq (oo (some y)),oh hx,oh hy,aa,aa]
 simp only[qm,cj,aK,aa,rp,t6]
 rw[AG hx.1 (ee hy) (by omega),aa,AG hy.1 (ee hx) (by omega),aa]
 simp only[rp,t6]
 rw[wb f1.1 f2.1,aa,wb (ee f1) (ee f2),aa,←c1,←jZ,←c2,nQ]
 unfold uS
 by_cases h:mn (x*y)
 ·rw[if_pos h,AG h.1 (ee h) (by have:=(x*y).den_pos;omega),Rat.num_divInt_den]
  rfl
 ·rw[if_neg h,yg]
  ·rfl
  ·rw[jU,jU,←vS,dQ]
   exact bf h
theorem R_Add {x y:Rat}(hx:mn x)(hy:mn y):jG (i8 x) (i8 y)=some (vH (Bo x y)):=by
 have hdx:=x.den_pos
 have hdy:=y.den_pos
 have hg:0<Nat.gcd x.den y.den:=Nat.gcd_pos_of_pos_left _ hdx
 have IZ:Nat.gcd x.den y.den<LIM:=cp (vT _ hdx) hx.2
 have O9:((Nat.gcd x.den y.den:Nat):Int).natAbs<LIM:=by simpa using IZ
 have hp:x.den / Nat.gcd x.den y.den<LIM:=cp (pw _ _) hx.2
 have hq:y.den / Nat.gcd x.den y.den<LIM:=cp (pw _ _) hy.2
 have hp0:0<x.den / Nat.gcd x.den y.den:=Nat.div_pos (vT y.den hdx) hg
 have vy:0<x.den / Nat.gcd x.den y.den*y.den:=vP hp0 hdy
 have Ia:=Ds x y
 unfold jG
 rw[show bT (i8 x)=_ from nq (oo (some x)),show bT (i8 y)=_ from nq (oo (some y)),oh hx,oh hy,aa,aa]
 simp only[qm,cj,aK,aa,rp,t6]
 rw[DK (ee hx) (ee hy),aa,dQ,dQ,tE (ee hx) O9 (by omega),aa,tE (ee hy) O9 (by omega),aa,BJ,BJ,wb hx.1 (by rw[dQ];exact hq),aa,wb hy.1 (by rw[dQ];exact hp),aa,wb (by rw[dQ];exact hp) (ee hy),←jZ]
 unfold Bo
 revert Ia
 generalize x.num*((y.den / Nat.gcd x.den y.den:Nat):Int)=z1
 generalize y.num*((x.den / Nat.gcd x.den y.den:Nat):Int)=z2
 revert vy
 generalize x.den / Nat.gcd x.den y.den*y.den=D
 intro vy Ia
 have hsum:kN (enc z1) (enc z2)=some (if z1.natAbs<LIM∧z2.natAbs<LIM then enc (z1+z2) else Dh):=by
  by_cases h:z1.natAbs<LIM∧z2.natAbs<LIM
  ·rw[if_pos h,QQ h.1 h.2]
  ·rw[if_neg h,GZ (tW _) (tW _) (by rw[jU,jU,←vS];exact bf h)]
 rw[hsum,aa,aa,nQ]
 by_cases h:z1.natAbs<LIM∧z2.natAbs<LIM
 ·rw[if_pos h]
  by_cases h2:(z1+z2).natAbs<LIM∧D<LIM
  ·rw[AG h2.1 (by rw[dQ];exact h2.2) (by omega),Ia,if_pos ⟨h.1,h.2,h2⟩];rfl
  ·rw[yg (by rw[jU,jU,←vS,dQ];exact bf h2),if_neg fun hh=>h2 hh.2.2];rfl
 ·rw[if_neg h,yg (by rw[qP,rH]),if_neg fun hh=>h ⟨hh.1,hh.2.1⟩];rfl
theorem R_oadd {x y:ao}(hx:okR x)(hy:okR y):jG x y=some (vH (HI (cK x) (cK y))):=by
 cases h1:cK x with
 |none=>
  unfold jG
  rw[nq hx,nq hy,h1,aa,aa,Fq,aa];rfl
 |some p=>
  cases h2:cK y with
  |none=>
   unfold jG
   rw[nq hx,nq hy,h1,h2,aa,aa,Fq,aa];rfl
  |some q=>
   obtain⟨hp,rfl⟩:=cY.1 h1
   obtain⟨hq,rfl⟩:=cY.1 h2
   exact R_Add hp hq
theorem R_omul {x y:ao}(hx:okR x)(hy:okR y):jE x y=some (vH (Bp (cK x) (cK y))):=by
 cases h1:cK x with
 |none=>
  unfold jE
  rw[nq hx,nq hy,h1,aa,aa,Fq,aa];rfl
 |some p=>
  cases h2:cK y with
  |none=>
   unfold jE
   rw[nq hx,nq hy,h1,h2,aa,aa,Fq,aa];rfl
  |some q=>
   obtain⟨hp,rfl⟩:=cY.1 h1
   obtain⟨hq,rfl⟩:=cY.1 h2
   exact R_Mul hp hq
theorem R_osgn {x:ao}(hx:okR x):jD x=some (osgn (cK x)):=by
 unfold jD
 rw[nq hx,aa]
 cases h1:cK x with
 |none=>rfl
 |some p=>
  obtain⟨hp,rfl⟩:=cY.1 h1
  simp only[qm,cj,aK,rp]
  rw[tD hp.1,aa]
  rfl
theorem R_Of {n:Int}(h1:-9223372036854775808≤n)(h2:n≤9223372036854775807):kY n=some (i8 (n:Rat)):=by
 have hL:n.natAbs<LIM:=eD (show n.natAbs<18446744073709551616 by omega) (by decide)
 unfold kY
 rw[pF h1 h2,aa,QD,aa,AG hL (by decide) (by decide),aa,C5]
def po(a c:Int):Int:=if a<c then -1 else if c<a then 1 else 0
theorem G_Rem {a c:Int}(ha:a.natAbs<LIM)(hc:c.natAbs<LIM)(h0:c≠0):nZ (enc a) (enc c)=some (enc (a.fmod c)):=by
 unfold nZ
 rw[Ft ha hc h0,aa]
theorem G_Cmp {a c:Int}(ha:a.natAbs<LIM)(hc:c.natAbs<LIM):pS (enc a) (enc c)=some (po a c):=by
 unfold pS
 rw[uw,uw,aa,aa,bh ha,bh hc]
 simp only[cj,aK,aa,fq ha,fq hc,mg ha,mg hc]
 rw[BW ha hc,BW hc ha,aa,aa]
 unfold po FT
 by_cases h1:a<0 <;> by_cases h2:c<0 <;> simp only[h1,h2,nk,nj,vZ,cj,Bool.true_beq,Bool.false_beq,lm,c7,aK]
 ·by_cases h3:a<c
  ·rw[if_pos h3,if_pos (by omega)]
  ·rw[if_neg h3,if_neg (by omega)]
   by_cases h4:c<a
   ·rw[if_pos h4,if_pos (by omega)]
   ·rw[if_neg h4,if_neg (by omega)]
 ·rw[if_pos (by omega)]
 ·rw[if_neg (by omega),if_pos (by omega)]
 ·by_cases h3:a<c
  ·rw[if_pos h3,if_pos (by omega)]
  ·rw[if_neg h3,if_neg (by omega)]
   by_cases h4:c<a
   ·rw[if_pos h4,if_pos (by omega)]
   ·rw[if_neg h4,if_neg (by omega)]
theorem IT {a c:Int}(ha:a.natAbs<LIM)(hc:c.natAbs<LIM)(h0:c≠0):n3 (enc a) (enc c)=some (enc (a.fmod c)):=by
 have hfm:c*a.fdiv c+a.fmod c=a:=Ax a c
 have hrng:(a.fmod c).natAbs<c.natAbs:=by
  rcases Int.lt_or_gt_of_ne h0 with hl|hl
  ·have h7:=sM (-a) (b:=-c) (by omega)
   have h8:=ug (-a) (b:=-c) (by omega)
   have h9:=Int.neg_fmod_neg a c
   omega
  ·have h7:=sM a (b:=c) (by omega)
   have h8:=ug a (b:=c) (by omega)
   omega
 unfold n3
 rw[qo ha,qo hc,aa,aa,fastq,aa,eg]
 by_cases hw:gx a∧gx c∧c≠0
 ·have h1:=hw.1.h
  have h2:=hw.2.1.h
  rw[if_pos hw,if_pos hw.1,if_pos hw.2.1]
  dsimp only
  rw[Ls h0 hw.1.h,aa,b7 (z:=c*a.fdiv c) (by omega),b7 (by omega),pF (by omega) (by omega),aa]
  congr 2
  omega
 ·have hg:=PD (tW a) hc
  rw[nQ] at hg
  have hr:=eO a.natAbs (show 0<c.natAbs by omega)
  have hdl:decide ((0:Int)<((dl (a.natAbs % c.natAbs)).length:Int))=decide (a.natAbs % c.natAbs≠0):=dig2 _
  have hrl:a.natAbs % c.natAbs<LIM:=Nat.lt_trans hr hc
  have hml:c.natAbs - a.natAbs % c.natAbs<LIM:=cp (Nat.sub_le _ _) hc
  rw[if_neg hw,hg,bh ha,aF h0,aa,bc,cj,aK,fM ha,aa,fM hc,aa,DP (cp (f7 ha) (by decide)) (cp (f7 hc) (by decide)) (by omega),aa,fq ha,fq hc]
  dsimp only
  rw[hdl,aa,wg (e7 _) (e7 _) (cp (f7 hc) (by decide)) (lj hr),aa]
  have hdm:=ln a.natAbs c.natAbs
  have Ez:(c.natAbs:Int)*((a.natAbs / c.natAbs:Nat):Int)+((a.natAbs % c.natAbs:Nat):Int)=(a.natAbs:Int):=by rw[←jZ,←jX,hdm]
  have key:∀R:Nat,sz6 R≤1000→(bif decide (c<0) then -(R:Int) else (R:Int))=a.fmod c→(bnd (cg (decide (c<0)) (dl R)) fun Bk=>some Bk)=some (enc (a.fmod c)):=fun R h1 h2=>by
   rw[we h1,aa,h2]
  have hmul:∀z:Int,z*c=(if c<0 then -1 else 1)*((c.natAbs:Int)*z):=by
   intro z
   split
   ·have e:c=-(c.natAbs:Int):=by omega
    conv=>lhs;rw[e]
    rw[rJ,Int.neg_mul,sL,jW]
   ·have e:c=(c.natAbs:Int):=by omega
    conv=>lhs;rw[e]
    rw[sL,jW]
  generalize a.natAbs / c.natAbs=Q at Ez
  generalize a.natAbs % c.natAbs=R at Ez hr hrl hml ⊢
  by_cases hs:decide (a<0)=decide (c<0)
  ·have HZ:=im.1 hs
   rw[hs,vZ,cj,aK,aa,aK,aa]
   refine key R (dP (f7 hrl) (by decide)) ?_
   refine (jl (x:=a) h0 (Q:Int) _ ?_ ?_).2
   ·rw[hmul]
    by_cases h:c<0
    ·rw[if_pos h,aF h,fx];omega
    ·rw[if_neg h,bf h,cond_false];omega
   ·by_cases h:c<0
    ·rw[aF h,fx];omega
    ·rw[bf h,cond_false];omega
  ·have HZ:¬((a<0)↔(c<0)):=fun h=>hs (im.2 h)
   have hb:(decide (a<0) == decide (c<0))=false:=Dp.2 hs
   rw[hb,lm,c7,aa,eg]
   by_cases hR:R=0
   ·rw[if_neg (fun h=>h hR),aa]
    refine key R (dP (f7 hrl) (by decide)) ?_
    refine (jl (x:=a) h0 (-(Q:Int)) _ ?_ ?_).2
    ·rw[hmul,rJ]
     by_cases h:c<0
     ·rw[if_pos h,aF h,fx];omega
     ·rw[if_neg h,bf h,cond_false];omega
    ·by_cases h:c<0
     ·rw[aF h,fx];omega
     ·rw[bf h,cond_false];omega
   ·rw[if_pos hR,aa]
    refine key (c.natAbs - R) (dP (f7 hml) (by decide)) ?_
    refine (jl (x:=a) h0 (-(Q:Int) - 1) _ ?_ ?_).2
    ·rw[hmul,Int.mul_sub,rJ]
     by_cases h:c<0
     ·rw[if_pos h,aF h,fx];omega
     ·rw[if_neg h,bf h,cond_false];omega
    ·by_cases h:c<0
     ·rw[aF h,fx];omega
     ·rw[bf h,cond_false];omega
theorem QP {a c:Int}(ha:a.natAbs<LIM)(hc:c.natAbs<LIM):jM (enc a) (enc c)=some (po a c):=by
 unfold jM
 rw[dV,dV,aa,aa,aa,bh ha,bh hc]
 simp only[cj,aK,aa,fq ha,fq hc]
 rw[fM ha,fM hc,aa,aa]
 have hl:∀{A B:Nat},A<LIM→B<LIM→il (dl A) (dl B)=some (decide (A<B)):=fun hA hB=>G2 (e7 _) (e7 _) (cp (f7 hA) (by decide)) (cp (f7 hB) (by decide))
 unfold po
 by_cases h1:a<0 <;> by_cases h2:c<0 <;> simp only[h1,h2,nk,nj,vZ,cj,Bool.true_beq,Bool.false_beq,lm,c7,aK,aa]
 ·rw[hl hc ha,hl ha hc,aa,aa,eg,eg]
  by_cases h3:a<c
  ·rw[if_pos h3,if_pos (by omega)]
  ·rw[if_neg h3,if_neg (by omega)]
   by_cases h4:c<a
   ·rw[if_pos h4,if_pos (by omega)]
   ·rw[if_neg h4,if_neg (by omega)]
 ·rw[if_pos (by omega)]
 ·rw[if_neg (by omega),if_pos (by omega)]
 ·rw[hl hc ha,hl ha hc,aa,aa,eg,eg]
  by_cases h3:a<c
  ·rw[if_pos h3,if_pos (by omega)]
  ·rw[if_neg h3,if_neg (by omega)]
   by_cases h4:c<a
   ·rw[if_pos h4,if_pos (by omega)]
   ·rw[if_neg h4,if_neg (by omega)]
def Ar(n1 d1 n2 d2:Int):Int:=po (n1*d2) (n2*d1)
theorem Db {n1 d1 n2 d2:Int}(h1:0<d1)(h2:0<d2)(h:n1.fdiv d1<n2.fdiv d2):n1*d2<n2*d1:=by
 have e1:d1*n1.fdiv d1+n1.fmod d1=n1:=Ax n1 d1
 have e2:d2*n2.fdiv d2+n2.fmod d2=n2:=Ax n2 d2
 have r1:=ug n1 h1
 have r2:=sM n2 h2
 generalize n1.fdiv d1=f1 at*
 generalize n2.fdiv d2=f2 at*
 generalize n1.fmod d1=m1 at*
 generalize n2.fmod d2=m2 at*
 have h3:d1*(f1+1)≤d1*f2:=Int.mul_le_mul_of_nonneg_left (by omega) (by omega)
 rw[Int.mul_add,Int.mul_one] at h3
 have h4:n1+1≤d1*f2:=by omega
 have h5:(n1+1)*d2≤d1*f2*d2:=GM h4 (by omega)
 have h6:d2*f2*d1≤n2*d1:=GM (by omega) (by omega)
 have h7:d1*f2*d2=d2*f2*d1:=by rw[jW d1,jW d2,Int.mul_assoc,Int.mul_assoc,jW d1]
 rw[Int.add_mul,sL] at h5
 omega
theorem Fd {a c:Int}:po a c=(a - c).sign:=by
 unfold po
 rcases yb a c with h|h|h
 ·rw[if_pos h,Az (by omega)]
 ·subst h;rw[if_neg (by omega),if_neg (by omega),Int.sub_self];rfl
 ·rw[if_neg (by omega),if_pos h,uh (by omega)]
theorem Iv {n1 d1 n2 d2:Int}(h1:0<d1)(h2:0<d2):(po (n1.fdiv d1) (n2.fdiv d2)≠0→Ar n1 d1 n2 d2=po (n1.fdiv d1) (n2.fdiv d2))∧
  (po (n1.fdiv d1) (n2.fdiv d2)=0→((n1.fmod d1).sign=0∨(n2.fmod d2).sign=0→Ar n1 d1 n2 d2=(n1.fmod d1).sign - (n2.fmod d2).sign)∧(¬((n1.fmod d1).sign=0∨(n2.fmod d2).sign=0)→0<n1.fmod d1∧n1.fmod d1<d1∧0<n2.fmod d2∧Ar n1 d1 n2 d2=- Ar d1 (n1.fmod d1) d2 (n2.fmod d2))):=by
 have r1:=sM n1 h1
 have r2:=sM n2 h2
 have e1:d1*n1.fdiv d1+n1.fmod d1=n1:=Ax n1 d1
 have e2:d2*n2.fdiv d2+n2.fmod d2=n2:=Ax n2 d2
 constructor
 ·intro h
  rcases yb (n1.fdiv d1) (n2.fdiv d2) with h3|h3|h3
  ·have:=Db h1 h2 h3
   unfold Ar po
   rw[if_pos this,if_pos h3]
  ·exfalso;apply h;unfold po;rw[if_neg (by omega),if_neg (by omega)]
  ·have:=Db h2 h1 h3
   unfold Ar po
   rw[if_neg (by omega),if_pos this,if_neg (by omega),if_pos h3]
 ·intro h
  have h3:n1.fdiv d1=n2.fdiv d2:=by
   unfold po at h
   split at h
   ·cases h
   ·split at h
    ·cases h
    ·omega
  rw[h3] at e1
  have key:n1*d2 - n2*d1=n1.fmod d1*d2 - n2.fmod d2*d1:=by
   have a1:n1*d2=d1*n2.fdiv d2*d2+n1.fmod d1*d2:=by rw[←Int.add_mul,e1]
   have a2:n2*d1=d2*n2.fdiv d2*d1+n2.fmod d2*d1:=by rw[←Int.add_mul,e2]
   have:d1*n2.fdiv d2*d2=d2*n2.fdiv d2*d1:=by rw[jW d1,jW d2,Int.mul_assoc,Int.mul_assoc,jW d1]
   rw[a1,a2,this]
   omega
  have hs:Ar n1 d1 n2 d2=(n1.fmod d1*d2 - n2.fmod d2*d1).sign:=by unfold Ar;rw[Fd,key]
  have p1:=ug n1 h1
  generalize n1.fmod d1=m1 at*
  generalize n2.fmod d2=m2 at*
  constructor
  ·intro h4
   rw[hs]
   have yL:∀{x y:Int},0<y→(x*y).sign=x.sign:=fun {x y} hy=>by rw[Int.sign_mul,uh hy,Int.mul_one]
   rcases h4 with h4|h4
   ·have:m1=0:=Ay.1 h4
    subst this
    rw[h4,Int.zero_mul,Int.zero_sub,Int.zero_sub,Int.sign_neg,yL h1]
   ·have:m2=0:=Ay.1 h4
    subst this
    rw[h4,Int.zero_mul,Int.sub_zero,Int.sub_zero,yL h2]
  ·intro h4
   have h5:m1≠0:=fun h=>h4 (.inl (by rw[h];rfl))
   have h6:m2≠0:=fun h=>h4 (.inr (by rw[h];rfl))
   refine⟨by omega,by omega,by omega,?_⟩
   rw[hs]
   unfold Ar
   rw[Fd,←Int.sign_neg]
   congr 1
   rw[Int.neg_sub,jW d2,jW d1]
theorem Iw(a c:Int):po a c=-1∨po a c=0∨po a c=1:=by
 unfold po
 split
 ·exact .inl rfl
 ·split
  ·exact .inr (.inr rfl)
  ·exact .inr (.inl rfl)
theorem BG(a:Int):a.sign=-1∨a.sign=0∨a.sign=1:=by
 rcases yb a 0 with h|h|h
 ·exact .inl (Az h)
 ·subst h;exact .inr (.inl rfl)
 ·exact .inr (.inr (uh h))
theorem FN {n1 d1:Int}(h1:0<d1)(l1:n1.natAbs<LIM)(l2:d1.natAbs<LIM):(n1.fdiv d1).natAbs<LIM∧(n1.fmod d1).natAbs<LIM:=by
  have e:=Ax n1 d1
  have r1:=sM n1 h1
  have r2:=ug n1 h1
  have hq:-(n1.natAbs:Int)≤n1.fdiv d1∧n1.fdiv d1≤n1.natAbs:=by
   rw[Int.fdiv_eq_ediv_of_nonneg _ (Int.le_of_lt h1)]
   constructor
   ·exact (Int.le_ediv_iff_mul_le h1).2 (by have:-(n1.natAbs:Int)*d1≤-(n1.natAbs:Int)*1:=Int.mul_le_mul_of_nonpos_left (by omega) (by omega);omega)
   ·have:n1 / d1<n1.natAbs+1:=Int.ediv_lt_of_lt_mul h1 (by have:((n1.natAbs:Int)+1)*1≤((n1.natAbs:Int)+1)*d1:=Int.mul_le_mul_of_nonneg_left (by omega) (by omega);omega)
    omega
  omega
theorem Q2(k:Nat):∀{n1 d1 n2 d2 out:Int},d1.natAbs≤k→0<d1→0<d2→n1.natAbs<LIM→d1.natAbs<LIM→n2.natAbs<LIM→d2.natAbs<LIM→(out=1∨out=-1)→
  bL jj (out,(⟨enc n1,enc d1⟩:ao),(⟨enc n2,enc d2⟩:ao))=some (out*Ar n1 d1 n2 d2):=by
 induction k with
 |zero=>intro n1 d1 n2 d2 out h h1;omega
 |succ k ih=>
  intro n1 d1 n2 d2 out hk h1 h2 l1 l2 l3 l4 ho
  obtain⟨ca,cb⟩:=Iv (n1:=n1) (n2:=n2) h1 h2
  have q1:=FN h1 l1 l2
  have q2:=FN h2 l3 l4
  have gN:∀r,jj (out,(⟨enc n1,enc d1⟩:ao),(⟨enc n2,enc d2⟩:ao))=r↔(cnd (decide (po (n1.fdiv d1) (n2.fdiv d2)≠(0:Int))) (some (.inr (i64.wrap (out*po (n1.fdiv d1) (n2.fdiv d2))))) (cnd (decide ((n1.fmod d1).sign=0∨(n2.fmod d2).sign=0)) (some (.inr (i64.wrap (out*(i64.wrap ((n1.fmod d1).sign - (n2.fmod d2).sign)))))) (some (.inl (i64.wrap (0 - out),(⟨enc d1,enc (n1.fmod d1)⟩:ao),(⟨enc d2,enc (n2.fmod d2)⟩:ao))))))=r:=by
   intro r
   dsimp only[jj]
   rw[Fu l1 l2 (by omega),aa,Fu l3 l4 (by omega),aa,G_Cmp q1.1 q2.1,aa,G_Rem l1 l2 (by omega),aa,G_Rem l3 l4 (by omega),aa,wh q1.2,aa,wh q2.2,aa,J6,aa,aa,←Bool.decide_or]
  have rc:=Iw (n1.fdiv d1) (n2.fdiv d2)
  have rs1:=BG (n1.fmod d1)
  have rs2:=BG (n2.fmod d2)
  by_cases hc:po (n1.fdiv d1) (n2.fdiv d2)≠0
  ·refine lS ((gN _).2 ?_)
   rw[cE _ _ hc,ca hc,b7]
   rcases ho with rfl|rfl <;> omega
  ·have hc0:po (n1.fdiv d1) (n2.fdiv d2)=0:=Decidable.byContradiction hc
   obtain⟨cc,cd⟩:=cb hc0
   by_cases hz:(n1.fmod d1).sign=0∨(n2.fmod d2).sign=0
   ·refine lS ((gN _).2 ?_)
    rw[co _ _ hc,cE _ _ hz,cc hz,b7 (z:=(n1.fmod d1).sign - (n2.fmod d2).sign) (by omega),b7]
    rcases ho with rfl|rfl <;> omega
   ·obtain⟨g1,g2,g3,g4⟩:=cd hz
    refine (nW ((gN _).2 ?_)).trans ((ih (n1:=d1) (d1:=n1.fmod d1) (n2:=d2) (d2:=n2.fmod d2) (out:=0 - out) (by omega) g1 g3 l2 q1.2 l4 q2.2 (by omega)).trans ?_)
    ·rw[co _ _ hc,co _ _ hz,b7 (by omega)]
    ·rw[g4,Int.zero_sub,Int.neg_mul,rJ]
def ocmp(a b:Option Rat):Int:=match a,b with
 |none,none=>0
 |none,some _=>-1
 |some _,none=>1
 |some p,some q=>if p<q then -1 else if q<p then 1 else 0
theorem Ix(p q:Rat):Ar p.num p.den q.num q.den=if p<q then -1 else if q<p then 1 else 0:=by
 unfold Ar po
 simp only[Rat.lt_iff]
theorem QV {x y:ao}(hx:okR x)(hy:okR y):jO x y=some (ocmp (cK x) (cK y)):=by
 unfold jO
 rw[iR hx,iR hy,aa,aa]
 cases h1:cK x with
 |none=>
  cases h2:cK y with
  |none=>rfl
  |some q=>rfl
 |some p=>
  cases h2:cK y with
  |none=>rfl
  |some q=>
   obtain⟨hp,rfl⟩:=cY.1 h1
   obtain⟨hq,rfl⟩:=cY.1 h2
   have e:=Q2 p.den (n1:=p.num) (d1:=(p.den:Int)) (n2:=q.num) (d2:=(q.den:Int)) (out:=1) (by omega) (by have:=p.den_pos;omega) (by have:=q.den_pos;omega) hp.1 (ee hp) hq.1 (ee hq) (.inl rfl)
   simp only[qm,cj,aK,aa]
   show (bnd (bL jj ((1:Int),i8 p,i8 q)) fun ul=>some ul)=_
   unfold i8
   rw[e,aa,sL,Ix]
   rfl
theorem v2_0(a b:av):(#v[a,b])[((0:Int)).toNat]! =a:=rfl
theorem v2_1(a b:av):(#v[a,b])[((1:Int)).toNat]! =b:=rfl
theorem HA(k:Nat):∀{n1 d1 n2 d2 out:Int},d1.natAbs≤k→0<d1→0<d2→n1.natAbs<LIM→d1.natAbs<LIM→n2.natAbs<LIM→d2.natAbs<LIM→(out=1∨out=-1)→
  bL lJ (out,#v[enc n1,enc d1],#v[enc n2,enc d2])=some (out*Ar n1 d1 n2 d2):=by
 induction k with
 |zero=>intro n1 d1 n2 d2 out h h1;omega
 |succ k ih=>
  intro n1 d1 n2 d2 out hk h1 h2 l1 l2 l3 l4 ho
  obtain⟨ca,cb⟩:=Iv (n1:=n1) (n2:=n2) h1 h2
  have q1:=FN h1 l1 l2
  have q2:=FN h2 l3 l4
  have gN:∀r,lJ (out,#v[enc n1,enc d1],#v[enc n2,enc d2])=r↔(cnd (decide (po (n1.fdiv d1) (n2.fdiv d2)≠(0:Int))) (some (.inr (i64.wrap (out*po (n1.fdiv d1) (n2.fdiv d2))))) (cnd (decide ((n1.fmod d1).sign=0∨(n2.fmod d2).sign=0)) (some (.inr (i64.wrap (out*(i64.wrap ((n1.fmod d1).sign - (n2.fmod d2).sign)))))) (some (.inl (i64.wrap (0 - out),#v[enc d1,enc (n1.fmod d1)],#v[enc d2,enc (n2.fmod d2)])))))=r:=by
   intro r
   dsimp only[lJ]
   simp only[v2_0,v2_1]
   rw[tE l1 l2 (by omega),aa,tE l3 l4 (by omega),aa,QP q1.1 q2.1,aa,IT l1 l2 (by omega),aa,IT l3 l4 (by omega),aa,tD q1.2,aa,tD q2.2,aa,J6,aa,aa,aa,←Bool.decide_or]
  have rc:=Iw (n1.fdiv d1) (n2.fdiv d2)
  have rs1:=BG (n1.fmod d1)
  have rs2:=BG (n2.fmod d2)
  by_cases hc:po (n1.fdiv d1) (n2.fdiv d2)≠0
  ·refine lS ((gN _).2 ?_)
   rw[cE _ _ hc,ca hc,b7]
   rcases ho with rfl|rfl <;> omega
  ·have hc0:po (n1.fdiv d1) (n2.fdiv d2)=0:=Decidable.byContradiction hc
   obtain⟨cc,cd⟩:=cb hc0
   by_cases hz:(n1.fmod d1).sign=0∨(n2.fmod d2).sign=0
   ·refine lS ((gN _).2 ?_)
    rw[co _ _ hc,cE _ _ hz,cc hz,b7 (z:=(n1.fmod d1).sign - (n2.fmod d2).sign) (by omega),b7]
    rcases ho with rfl|rfl <;> omega
   ·obtain⟨g1,g2,g3,g4⟩:=cd hz
    refine (nW ((gN _).2 ?_)).trans ((ih (n1:=d1) (d1:=n1.fmod d1) (n2:=d2) (d2:=n2.fmod d2) (out:=0 - out) (by omega) g1 g3 l2 q1.2 l4 q2.2 (by omega)).trans ?_)
    ·rw[co _ _ hc,co _ _ hz,b7 (by omega)]
    ·rw[g4,Int.zero_sub,Int.neg_mul,rJ]
theorem R_ocmp {x y:ao}(hx:okR x)(hy:okR y):mF x y=some (ocmp (cK x) (cK y)):=by
 have hk:∀(z:ao) (b:Bool),mU z b=some (if b=true then enc 0 else Dh):=by
  intro z b
  unfold mU
  rw[pF (by decide) (by decide),zE]
  cases b <;> rfl
 have hb:cR (enc 0)=true:=bh (by decide)
 unfold mF
 rw[nq hx,nq hy,aa,aa,hk,hk,aa,aa]
 cases h1:cK x with
 |none=>
  cases h2:cK y with
  |none=>
   simp only[Option.isSome_none,lm,c7,aa,Bool.false_eq_true,if_false]
   unfold jM
   rw[dV,qP];rfl
  |some q=>
   simp only[Option.isSome_none,qm,lm,c7,aa,Bool.false_eq_true,if_false,aS]
   unfold jM
   rw[dV,dV,qP,hb];rfl
 |some p=>
  cases h2:cK y with
  |none=>
   simp only[Option.isSome_none,qm,lm,cj,c7,aK,aa,Bool.false_eq_true,if_false,aS]
   unfold jM
   rw[dV,dV,qP,hb];rfl
  |some q=>
   obtain⟨hp,rfl⟩:=cY.1 h1
   obtain⟨hq,rfl⟩:=cY.1 h2
   have e:=HA p.den (n1:=p.num) (d1:=(p.den:Int)) (n2:=q.num) (d2:=(q.den:Int)) (out:=1) (by omega) (by have:=p.den_pos;omega) (by have:=q.den_pos;omega) hp.1 (ee hp) hq.1 (ee hq) (.inl rfl)
   simp only[qm,cj,aK,aa,rp,t6]
   rw[e,aa,sL,Ix]
   rfl
theorem PQ {x:ao}{q:Rat}(h:cK x=some q):x=i8 q:=(cY.1 h).2
def Nu:={x:ao // okR x}
instance:DecidableEq Nu:=inferInstanceAs (DecidableEq {x:ao // okR x})
theorem okR0:okR (default:ao):=by
 have h:∀j:Nat,j<16→(default:av).vW[j]! =0:=by
  intro j hj
  show (cH)[j]! =0
  rw[cO (cH) j hj,Vector.getElem_replicate]
 exact⟨fun j hj=>by show 0≤(default:av).vW[j]!∧(default:av).vW[j]! <4294967296;rw[h j hj];omega,fun j hj=>by show 0≤(default:av).vW[j]!∧(default:av).vW[j]! <4294967296;rw[h j hj];omega⟩
instance:Inhabited Nu:=⟨⟨default,okR0⟩⟩
def nuR(o:Option Rat):Nu:=⟨vH o,oo o⟩
def decW(v:Vector Int 16):Nat:=gK 4294967296 (fun j=>(v[j]!).toNat) 16
def EG(x:av):Int:=if x.vNeg then -(decW x.vW:Int) else decW x.vW
theorem decW_W {A:Nat}(h:A<LIM):decW (W A)=A:=by
 refine PZ (b:=4294967296) (n:=16) ?_ h fun j hj=>?_
 ·exact BD (by decide) _ fun j hj=>by
   rw[gU hj]
   have:=@dgl A j
   omega
 ·unfold decW
  rw[GH (by decide) 16 (fun i hi=>by
   rw[gU hi]
   have:=@dgl A i
   omega) j hj,gU hj]
  omega
theorem Is {z:Int}(h:z.natAbs<LIM):EG (enc z)=z:=by
 rw[ro h]
 unfold EG
 dsimp only
 rw[decW_W h]
 by_cases hz:z<0
 ·rw[if_pos (aF hz)];omega
 ·rw[if_neg (by simpa using hz)];omega
def xF(x:ao):Option Rat:=if mn (Rat.divInt (EG x.vN) (EG x.vD))∧i8 (Rat.divInt (EG x.vN) (EG x.vD))=x then some (Rat.divInt (EG x.vN) (EG x.vD)) else none
theorem r7:xF=cK:=by
 funext x
 unfold xF
 cases h:cK x with
 |none=>exact if_neg fun hh=>zJ.1 h _ hh.1 hh.2.symm
 |some q=>
  obtain⟨h1,h2⟩:=cY.1 h
  have hn:EG x.vN=q.num:=by rw[h2];exact Is h1.1
  have hd:EG x.vD=(q.den:Int):=by rw[h2];exact Is (ee h1)
  rw[hn,hd,show Rat.divInt q.num q.den=q from by rw[Rat.divInt_ofNat];exact Rat.mkRat_self q,if_pos ⟨h1,h2.symm⟩]
def n9(x y:Nu):Nu:=nuR (HI (xF x.1) (xF y.1))
def oq(x y:Nu):Nu:=nuR (Bp (xF x.1) (xF y.1))
def FX(x y:Nu):Nu:=nuR (osub (xF x.1) (xF y.1))
def rR(x y:Nu):Nu:=nuR (HG (xF x.1) (xF y.1))
def hJ(x:Nu):Nu:=nuR (LW (xF x.1))
def nOf(n:Int):Nu:=nuR (some (n:Rat))
def cU(x:Nu):Int:=osgn (xF x.1)
def aW(x:Nu):Bool:=(xF x.1).isSome
def pL(x y:Nu):Int:=ocmp (xF x.1) (xF y.1)
theorem sX(x y:Nu):n9 x y=nuR (HI (cK x.1) (cK y.1)):=by unfold n9;rw[r7]
theorem pK(x y:Nu):oq x y=nuR (Bp (cK x.1) (cK y.1)):=by unfold oq;rw[r7]
theorem N7(x y:Nu):FX x y=nuR (osub (cK x.1) (cK y.1)):=by unfold FX;rw[r7]
theorem HK(x y:Nu):rR x y=nuR (HG (cK x.1) (cK y.1)):=by unfold rR;rw[r7]
theorem yK(x:Nu):hJ x=nuR (LW (cK x.1)):=by unfold hJ;rw[r7]
theorem sW(x:Nu):cU x=osgn (cK x.1):=by unfold cU;rw[r7]
theorem gL(x:Nu):aW x=(cK x.1).isSome:=by unfold aW;rw[r7]
theorem Cw(x y:Nu):pL x y=ocmp (cK x.1) (cK y.1):=by unfold pL;rw[r7]
section
section
variable {B:Nat} {hp:Hp} {g:Gh} {w w':World}
def Hp.re(hp:Hp)(k:Nat)(ds:List D):Hp:=⟨(hp.next,ds)::hp.vars.filter fun p=>!([k]:List Nat).contains p.1,hp.live,hp.next+1⟩
theorem yE {k:Nat}{ds a:List D}{j:Nat}(h:(hp.re k ds).vars.lookup j=some a):(j=hp.next∧a=ds)∨(j≠hp.next∧j≠k∧hp.vars.lookup j=some a):=by
 by_cases hj:j=hp.next
 ·subst hj
  have:some ds=some a:=by rw[←h];exact ab.symm
  injection this with this
  exact .inl ⟨rfl,this.symm⟩
 ·have h1:(hp.vars.filter fun p=>!([k]:List Nat).contains p.1).lookup j=some a:=by rw[←h];exact (au hj).symm
  obtain⟨h2,h3⟩:=js h1
  exact .inr ⟨hj,by simpa using h2,h3⟩
theorem dm.re(hr:HR B hp g w){k b:Nat}{sm:List D}(hk:hp.vars.lookup k=some sm)(ds:List D)(hs:w.heap.size≤w'.heap.size)(ho:∀c,c<w.heap.size→c≠g.μ k→w'.heap[c]? =w.heap[c]?)(hz:SzB w w' (g.μ k))(hb:b=g.μ k∨w.heap.size≤b):
  dm hp g w (hp.re k ds) (g.var hp.next b) w':=by
 have b8:=hr.var_lt hk
 obtain⟨h1,h2,h3,_⟩:=hr.var k sm hk
 refine⟨hs,fun p ka hf=>World.cell?_of_block (ho _ ka fun e=>hf (h3 p e)),fun p hpb hf=>?_,jP _,fun j hj=>?_,fun _ _ m _ hm=>⟨m,hm,aB _,fun _=>rfl⟩,fun c hc hf=>⟨ho _ hc fun e=>hf.1 k sm hk e.symm,fun _ _ h=>.inl h,fun j a hj=>?_,hf.2⟩,fun c=>?_⟩
 ·rcases hf with hf|hf
  ·exact hf
  ·rcases hb with hb|hb
   ·exact h3 p (by rw[hf,hb])
   ·omega
 ·show (if j=hp.next then _ else _)=_
  rw[if_neg (by omega)]
 ·rcases yE hj with⟨rfl,_⟩|⟨gt,_,h⟩
  ·show (if _ then _ else _)≠_
   rw[if_pos rfl]
   rcases hb with hb|hb
   ·rw[hb];exact hf.1 k sm hk
   ·omega
  ·show (if _ then _ else _)≠_
   rw[if_neg gt]
   exact hf.1 j a h
 ·by_cases hc:c=g.μ k
  ·subst hc;exact hz
  ·exact .same fun h=>ho c h hc
theorem HR.re(hr:HR B hp g w){k b:Nat}{sm:List D}(hk:hp.vars.lookup k=some sm)(ds:List D)(hs:w.heap.size≤w'.heap.size)(ho:∀c,c<w.heap.size→c≠g.μ k→w'.heap[c]? =w.heap[c]?)(hz:SzB w w' (g.μ k))(hb:b=g.μ k∨w.heap.size≤b)
  (cs:Array Value) (ty:TypeId) (hn:w'.heap[b]? =some (.cells cs ty (0,0))) (hl:ds.length≤cs.size) (hc:∀(j:Nat) (u:Value),cs[j]? =some u→(j<ds.length→u.oneCell'=true)∧∀d,ds[j]? =some d→aR hp g w d u):HR B (hp.re k ds) (g.var hp.next b) w':=by
 have m:=dm.re hr hk ds hs ho hz hb
 have hkl:=hr.var_lt hk
 obtain⟨hk1,Al,hk3,_⟩:=hr.var k sm hk
 have hbl:b<w'.heap.size:=(oR.1 hn).1
 have G3:(g.var hp.next b).μ hp.next=b:=if_pos rfl
 have hμ:∀j,j<hp.next→(g.var hp.next b).μ j=g.μ j:=m.μ
 have hdiff:∀{j:Nat} {a:List D},j≠k→hp.vars.lookup j=some a→g.μ j≠g.μ k:=fun hj h e=>hj (hr.inj _ _ _ _ h hk e)
 have DZ:∀{j:Nat} {a:List D},j≠k→hp.vars.lookup j=some a→g.μ j≠b:=fun hj h e=>by
  rcases hb with hb|hb
  ·exact hdiff hj h (by rw[e,hb])
  ·have:=hr.var_lt h;omega
 refine⟨fun j a hj=>?_,fun j j' a a' hj Gr he=>?_,fun id n e hi=>?_,fun id Ai t t' c hi xj he E6=>hr.tinj id Ai t t' c hi xj he E6,dP hr.base hs,fun p hf=>?_⟩
 ·rcases yE hj with⟨rfl,rfl⟩|⟨gt,hjk,h0⟩
  ·rw[G3]
   refine⟨e9 _,?_,fun p hp'=>.inr hp',cs,ty,hn,hl,fun i u hu=>⟨(hc i u hu).1,fun d hd=>((hc i u hu).2 d hd).mono m⟩⟩
   rcases hb with hb|hb
   ·rw[hb];exact Al
   ·exact dP hr.base hb
  ·have b8:=hr.var_lt h0
   obtain⟨h1,h2,h3,vI,IX,h4,h5,h6⟩:=hr.var j a h0
   rw[hμ j h1]
   exact⟨xv h1,h2,fun p hp'=>.inl (h3 p hp'),vI,IX,(ho _ b8 (hdiff hjk h0)).trans h4,h5,fun i u hu=>⟨(h6 i u hu).1,fun d hd=>((h6 i u hu).2 d hd).mono m⟩⟩
 ·rcases yE hj with⟨h1,_⟩|⟨h1,hjk,h0⟩ <;> rcases yE Gr with⟨h2,_⟩|⟨h2,hjk',G9⟩
  ·omega
  ·rw[h1,G3,hμ j' (hr.var j' a' G9).1] at he
   exact absurd he.symm (DZ hjk' G9)
  ·rw[h2,G3,hμ j (hr.var j a h0).1] at he
   exact absurd he (DZ hjk h0)
  ·rw[hμ j (hr.var j a h0).1,hμ j' (hr.var j' a' G9).1] at he
   exact hr.inj j j' a a' h0 G9 he
 ·obtain⟨h1,us,hz',h2,h3⟩:=hr.tok id n e hi
  refine⟨xv h1,us,hz',⟨h2.1,?_⟩,fun c CS=>⟨fun p h4 h5=>.inl ((h3 c CS).1 p h4 h5),fun j a hj=>?_⟩⟩
  ·rcases h2.2 with h0|⟨c,cap,cur,hv,hB,hh,r⟩
   ·exact .inl h0
   ·exact .inr ⟨c,cap,cur,hv,hB,(ho c (oR.1 hh).1 fun e=>(h3 c (by rw[hv];rfl)).2 k sm hk e.symm).trans hh,r⟩
  ·rcases yE hj with⟨rfl,_⟩|⟨gt,_,h0⟩
   ·rw[G3]
    rcases hb with hb|hb
    ·rw[hb];exact (h3 c CS).2 k sm hk
    ·have:=(h2.lt c CS).2;omega
   ·rw[hμ j (hr.var j a h0).1]
    exact (h3 c CS).2 j a h0
 ·rcases hf with hf|hf
  ·exact eD (hr.fits p hf) hs
  ·rw[hf];exact hbl
theorem dm.addVar(hp:Hp)(g:Gh)(ds:List D){b:Nat}(hs:w.heap.size≤w'.heap.size)(hb:∀c,c<w.heap.size→w'.heap[c]? =w.heap[c]?)(uG:w.heap.size≤b):dm hp g w (hp.var ds) (g.var hp.next b) w':=by
 refine⟨hs,fun p ka _=>World.cell?_of_block (hb _ ka),fun p hpb hf=>?_,jP _,fun k hk=>?_,fun _ _ m _ hm=>⟨m,hm,aB _,fun _=>rfl⟩,fun c hc hf=>⟨hb _ hc,fun _ _ h=>.inl h,fun k ds' hk=>?_,hf.2⟩,fun c=>.same (hb c)⟩
 ·rcases hf with hf|hf
  ·exact hf
  ·omega
 ·show (if k=hp.next then _ else _)=_
  rw[if_neg (by omega)]
 ·show (if k=hp.next then _ else _)≠_
  by_cases xR:k=hp.next
  ·rw[if_pos xR];omega
  ·rw[if_neg xR]
   exact hf.1 k ds' (by rw[←hk];exact (au xR).symm)
theorem HR.addVar(hr:HR B hp g w)(ds:List D){b:Nat}(hs:w.heap.size≤w'.heap.size)(hb:∀c,c<w.heap.size→w'.heap[c]? =w.heap[c]?)(uG:w.heap.size≤b)(cs:Array Value)(ty:TypeId)(hn:w'.heap[b]? =some (.cells cs ty (0,0)))(hl:ds.length≤cs.size)
  (hc:∀(j:Nat) (u:Value),cs[j]? =some u→(j<ds.length→u.oneCell'=true)∧∀d,ds[j]? =some d→aR (hp.var ds) (g.var hp.next b) w' d u):HR B (hp.var ds) (g.var hp.next b) w':=by
 have m:=dm.addVar hp g ds hs hb uG
 have hμ:∀k,k<hp.next→(g.var hp.next b).μ k=g.μ k:=m.μ
 have G3:(g.var hp.next b).μ hp.next=b:=if_pos rfl
 have hbl:b<w'.heap.size:=(oR.1 hn).1
 have look:∀{j:Nat} {a:List D},(hp.var ds).vars.lookup j=some a→(j=hp.next∧a=ds)∨(j≠hp.next∧hp.vars.lookup j=some a):=by
  intro j a hj
  by_cases Am:j=hp.next
  ·subst Am
   have:some ds=some a:=by rw[←hj];exact ab.symm
   injection this with this
   exact .inl ⟨rfl,this.symm⟩
  ·exact .inr ⟨Am,by rw[←hj];exact (au Am).symm⟩
 refine⟨fun j a hj=>?_,fun j j' a a' hj Gr he=>?_,fun id n e hi=>?_,fun id Ai t t' c hi xj he E6=>hr.tinj id Ai t t' c hi xj he E6,dP hr.base hs,fun p hf=>?_⟩
 ·rcases look hj with⟨rfl,rfl⟩|⟨gt,h0⟩
  ·rw[G3]
   exact⟨e9 _,dP hr.base uG,fun p hp'=>.inr hp',cs,ty,hn,hl,hc⟩
  ·have b8:=hr.var_lt h0
   obtain⟨h1,h2,h3,vI,IX,h4,h5,h6⟩:=hr.var j a h0
   rw[hμ j h1]
   exact⟨xv h1,h2,fun p hp'=>.inl (h3 p hp'),vI,IX,(hb _ b8).trans h4,h5,fun i u hu=>⟨(h6 i u hu).1,fun d hd=>((h6 i u hu).2 d hd).mono m⟩⟩
 ·rcases look hj with⟨h1,_⟩|⟨h1,h0⟩ <;> rcases look Gr with⟨h2,_⟩|⟨h2,G9⟩
  ·omega
  ·rw[h1,G3,hμ j' (hr.var j' a' G9).1] at he
   have:=hr.var_lt G9;omega
  ·rw[h2,G3,hμ j (hr.var j a h0).1] at he
   have:=hr.var_lt h0;omega
  ·rw[hμ j (hr.var j a h0).1,hμ j' (hr.var j' a' G9).1] at he
   exact hr.inj j j' a a' h0 G9 he
 ·obtain⟨h1,us,hz',h2,h3⟩:=hr.tok id n e hi
  refine⟨xv h1,us,hz',⟨h2.1,?_⟩,fun c CS=>⟨fun p h4 h5=>.inl ((h3 c CS).1 p h4 h5),fun j a hj=>?_⟩⟩
  ·rcases h2.2 with h0|⟨c,cap,cur,hv,hB,hh,r⟩
   ·exact .inl h0
   ·exact .inr ⟨c,cap,cur,hv,hB,(hb c (oR.1 hh).1).trans hh,r⟩
  ·rcases look hj with⟨rfl,_⟩|⟨gt,h0⟩
   ·rw[G3]
    have:=(h2.lt c CS).2;omega
   ·rw[hμ j (hr.var j a h0).1]
    exact (h3 c CS).2 j a h0
 ·rcases hf with hf|hf
  ·exact eD (hr.fits p hf) hs
  ·rw[hf];exact hbl
end
end
section
def D.toOw:D→D
 | .gw k z n=>.ow k 0 z n
 |d=>d
section
variable {P:Program} {tb:TypeId→Option TyE} {md:Md} {B:Nat} {hp hp':Hp} {g:Gh} {w w':World} {d:D} {v:Value}
theorem aR.toOw(h:aR hp g w d v):aR hp g w d.toOw v:=by
 cases h with
 |gw k z n c hk h1 h2 hs=>exact .ow k 0 z n c hk h1 h2
 |e x v h=>exact .e x v h
 |own id z n xs v h hid ht=>exact .own id z n xs v h hid ht
 |fu z n xs A h=>exact .fu z n xs A h
 |ag ds cs hl h1 hr=>exact .ag ds cs hl h1 hr
 |tu ds cs hl hr=>exact .tu ds cs hl hr
 |fp xs off ad hb hc=>exact .fp xs off ad hb hc
 |pt k off hk=>exact .pt k off hk
 |ow k off z n c hk h1 h2=>exact .ow k off z n c hk h1 h2
 |fn f ks hk=>exact .fn f ks hk
 |opt b d v hi h=>exact .opt b d v hi h
 |top v=>exact .top v
theorem Ks {k off:Nat}(d:D):d.toOw.un=.pt k off↔d.un=.pt k off:=by cases d <;> simp[D.toOw,D.un]
theorem qN.toOw {o:Oper}{ev:Operand→D}(h:qN P o (fun x=>(ev x).toOw) hp d hp'):qN P o ev hp d hp':=
 fun B g w a Kn Q hr hx hk=>h B g w a Kn Q hr (fun x xg=>(hx x xg).toOw) hk
theorem m3.toOw {o:Oper}{ev:Operand→D}(h:m3 P tb md o (fun x=>(ev x).toOw) hp d hp'):m3 P tb md o ev hp d hp':=
 ⟨h.ok.toOw,fun h1=>⟨(h.quiet h1).1,fun dW h3=>((h.quiet h1).2 dW fun hl x hx j off e=>h3 hl x hx j off ((Ks _).1 e)).toOw⟩,h.fr,fun hl x hx j off e=>h.lk hl x hx j off ((Ks _).2 e)⟩
variable {ops:Array Oper} {K:List (Nat×D)→Hp→Prop} {os:List Oper} {tm:List (Nat×D)} {t:Tmp} {dst:Option Tmp} {op:Op} {ty:TypeId} {pos:String} {af:Array Edge} {gd:Option (Nat×Bool)}
theorem stG(tok:TOk P tb)(h:AVC P tb md.dr op ty (fun x=>(evD tm x).toOw) hp (Kq d hp'))(h2:ci P tb md ops K os (z5 dst d tm) hp')(hn:md.nc tb op=true:=by exact rfl):ci P tb md ops K (⟨dst,op,ty,pos,af,none⟩::os) tm hp:=
 LJ rfl (((AVC.snd (o:=⟨dst,op,ty,pos,af,none⟩) tok h).q hn).toOw) h2
theorem litR(tok:TOk P tb){ev:Operand→D}{tt e:TypeId}{ti j:TyE}{x:Operand}{cs:List D}(ht:tb tt=some ti)(he:tb e=some j)(hx:(ev x).cells=some cs)(hl:cs.length=j.size)(yR:ti.ty=.slice e:=by exact rfl)(hz:Nat.ble 1 j.size=true:=by exact rfl)(hsm:Nat.ble j.size 16777216=true:=by exact rfl)(href:Jr tb (.buildSlice tt 1 #[(0,x)])=true:=by exact rfl)(p6:md.nc tb (.buildSlice tt 1 #[(0,x)])=true:=by exact rfl):
  m3 P tb md ⟨dst,.buildSlice tt 1 #[(0,x)],ty,pos,af,gd⟩ ev hp (.gw hp.next j.size 1) (hp.var cs):=by
 have hz:=dK hz
 have hsm:=dK hsm
 have hu:=tok.slice ht yR
 refine⟨.step fun B g w a hr xg=>?_,fun hq=>?_,fun _=>⟨jP _,fun j hj=>au (by omega)⟩,fun h=>by cases h⟩
 rotate_left
 ·exfalso
  cases md with
  |seq=>cases hq
  |any L=>
   have h1:((pf (.buildSlice tt 1 #[(0,x)])&&!Jr tb (.buildSlice tt 1 #[(0,x)]))||oM tb L (.buildSlice tt 1 #[(0,x)]))=true:=hq
   rw[href] at h1
   simp[pf,oM] at h1
 have dx:=xg x (by simp[Op.operands])
 have qE:=dx.cells hx
 have tG:(a.eval x).cells.size=j.size:=by rw[←iV,←qE.1.1,hl]
 obtain⟨zv,hzv,E2⟩:=tok.run_zero he w
 obtain⟨_,_,hzl,Jx⟩:=tok e j he
 have hs:=tok.run_sizeOf he w
 have A0:Instr.fill (fun i=>some (i*j.size,j.size)) ((Array.range (1*j.size)).map (zv.cells[·% zv.cells.size]!)) [(0,a.eval x)]=some (a.eval x).cells:=by
  have h0:gp (fun i=>some (i*j.size,j.size)) ((Array.range (1*j.size)).map (zv.cells[·% zv.cells.size]!)).toList ([(0,a.eval x)].map fun p=>(p.1,p.2.cells.toList))=some (a.eval x).cells.toList:=by
   have IY:((Array.range (1*j.size)).map (zv.cells[·% zv.cells.size]!)).toList.length=j.size:=by simp
   simp only[cP,dA,gp,ic,bJ,iV]
   rw[if_neg (by rw[tG,Array.size_map,Array.size_range];omega)]
   rw[Dk,mL,Be (by rw[IY];omega),sv]
  have:=BS h0
  simpa using this
 have cu:(Instr.buildSlice tt 1 #[(0,a.eval x)]).run P w=.ok (.slice (some ⟨w.heap.size,0,none⟩) 1 1) (w.alloc (.cells (a.eval x).cells e)):=by
  have hsm2:¬1*j.size > 2 ^ 24:=by omega
  have gt:¬1*j.size=0:=by omega
  simp only[Instr.buildSlice,Sem.run_bind,run_underlying hu,Result.andThen_ok,hs,if_neg hsm2,if_neg gt,hzv,Sem.run_pure]
  simp only[A0]
  rfl
 refine⟨.slice (some ⟨w.heap.size,0,none⟩) 1 1,g.var hp.next w.heap.size,w.alloc (.cells (a.eval x).cells e),?_,hr.newVar cs _ e (by rw[tG,hl];exact aB _) (fun i u hu=>?_),dm.var hp g w cs _,?_,(Below.refl _ _).alloc hr.base _,fun p _ h=>.inl h⟩
 ·simp[execOp,cu]
 ·have uE:(a.eval x).cells.toList[i]? =some u:=by simpa using hu
  exact⟨fun _=>qE.2 u (er uE),fun d hd=>qE.1.2 i d u hd uE⟩
 ·have:=aR.gw (hp:=hp.var cs) (g:=g.var hp.next w.heap.size) (w:=w.alloc (.cells (a.eval x).cells e)) hp.next j.size 1 1 (e9 _) (aB _) (by decide) ⟨(a.eval x).cells,e,(0,0),by rw[show (g.var hp.next w.heap.size).μ hp.next=w.heap.size from if_pos rfl];exact heap_alloc_new w _,by omega⟩
  rwa[show (g.var hp.next w.heap.size).μ hp.next=w.heap.size from if_pos rfl] at this
theorem zW(w:World)(t ty e tt:TypeId)(i:TypeInfo)(ht:P.underlying t=some (.slice e))(hi:P.info? e=some i)
  (g Jd sCap:Nat) (cur:Array Value) (hg:w.heap[g]? =some (.cells cur tt (0,0)))
  (a:Addr) (m c:Nat) (news:List Value) (hl:news.length=m*i.size) (sf:∀j u,news[j]? =some u→w.cell? (a.add j)=some u) (h1:∀u∈news,u.oneCell'=true)
  (uF:Jd+m≤sCap) (Ey:Jd*i.size+news.length≤cur.size):
  (Builtin.append_ #[t,t] ty #[.slice (some ⟨g,0,none⟩) Jd sCap,.slice (some a) m c]).run P w=
   .ok (.slice (some ⟨g,0,none⟩) (Jd+m) sCap) (w.setRow g (cur.toList.take (Jd*i.size)++news++cur.toList.drop (Jd*i.size+news.length)).toArray):=by
 have hf:=run_firstCells_some (P:=P) w i.size m a m c news hl sf
 have JC:=run_storeCells_at P g (Jd*i.size) tt news 0 cur w hg (by simpa using Ey) h1
 simp only[mK] at JC
 simp[Builtin.append_,run_underlying ht,sizeOf,typeInfo,hi,Builtin.lenOf,uF,hf,Addr.add_lit,JC]
structure AppG(w:World)(g:Nat)(v':Value)(w':World)(b n z:Nat)(xs:List Value):Prop where
 size:w.heap.size≤w'.heap.size
 old:∀c,c<w.heap.size→c≠g→w'.heap[c]? =w.heap[c]?
 sz:SzB w w' g
 blk:b=g∨w.heap.size≤b
 rest:w'.os=w.os∧w'.tape=w.tape∧w'.output=w.output
 row:∃(cs:Array Value) (tt:TypeId) (cap:Nat),v'=.slice (some ⟨b,0,none⟩) n cap∧n≤cap∧cap≤maxLen∧w'.heap[b]? =some (.cells cs tt (0,0))∧cap*z≤cs.size∧cs.toList.take (n*z)=xs
theorem Em(tok:TOk P tb){t e:TypeId}{ti j:TyE}(ht:tb t=some ti)(yR:ti.ty=.slice e)(he:tb e=some j)(hz:0<j.size)(w:World)(ty tt:TypeId)(g n cap:Nat)(cur:Array Value)(hg:w.heap[g]? =some (.cells cur tt (0,0)))(p6:n≤cap)(o0:cap≤maxLen)(qE:cap*j.size≤cur.size)
  (a:Addr) (m c:Nat) (news:List Value) (hl:news.length=m*j.size) (sf:∀j u,news[j]? =some u→w.cell? (a.add j)=some u) (h1:∀u∈news,u.oneCell'=true) (hm:0<m) (hb:(n+m)*max 1 j.bytes≤140737488355328):
  ∃v' w' b,(Builtin.append_ #[t,t] ty #[.slice (some ⟨g,0,none⟩) n cap,.slice (some a) m c]).run P w=.ok v' w'∧AppG w g v' w' b (n+m) j.size (cur.toList.take (n*j.size)++news):=by
 obtain⟨f,zz,M2,Pa,CO,hf3,hf4,_⟩:=tok.inf he
 have hu:=tok.slice ht yR
 have IZ:g<w.heap.size:=(oR.1 hg).1
 have MZ:n+m≤140737488355328:=dP (Fg _ (by omega)) hb
 have DZ:(n+m)*f.bytes≤140737488355328:=dP (zh _ (by rw[CO];omega)) hb
 have hns:n*j.size≤cap*j.size:=dZ _ p6
 have AV:(cur.toList.take (n*j.size)).length=n*j.size:=by rw[eH,iV];omega
 by_cases uF:n+m≤cap
 ·have hr2:(n+m)*j.size≤cap*j.size:=dZ _ uF
  rw[cz] at hr2
  have hr:=zW (P:=P) w t ty e tt f hu M2 g n cap cur hg a m c news (by rw[Pa];exact hl) sf h1 uF (by rw[Pa,hl];omega)
  rw[Pa] at hr
  have zF:(cur.toList.take (n*j.size)++news++cur.toList.drop (n*j.size+news.length)).toArray.size=cur.size:=by
   simp only[rE,c8,eH,fT,iV];omega
  refine⟨_,_,g,hr,by simp,fun c _ hc=>setRow_other w g c _ hc,SzB.row hg zF,.inl rfl,⟨rfl,rfl,rfl⟩,_,tt,cap,rfl,uF,o0,setRow_heap w g cur _ tt (0,0) hg,by rw[zF];exact qE,?_⟩
  have e1:(n+m)*j.size=(cur.toList.take (n*j.size)++news).length:=by rw[c8,AV,hl,cz]
  rw[e1]
  exact uM
 ·have holds:∀i u,(cur.toList.take (n*j.size))[i]? =some u→w.cell? ((⟨g,0,none⟩:Addr).add i)=some u:=fun i u hu=>by
   rw[ie] at hu
   split at hu
   ·rw[Addr.add_lit]
    simpa[World.cell?,hg] using hu
   ·cases hu
  have hr:=run_append_grow (P:=P) w t ty e f zz hu M2 hf3 ⟨g,0,none⟩ n cap (cur.toList.take (n*j.size)) (by rw[Pa];exact AV) holds a m c news (by rw[Pa];exact hl) sf (by omega) (by omega) (growslice_fits (by omega) DZ)
  have uG:=grownCap_ge w (n+m) cap e
  have hzs:zz.cells.size=j.size:=by
   have h4:=(tok e j he).2.2.1
   rw[←iV,hf4,h4]
  refine⟨_,_,w.heap.size,hr,by simp,fun c hc _=>heap_alloc_old w.drew _ hc,.same fun h=>heap_alloc_old w.drew _ h,.inr (aB _),⟨rfl,rfl,rfl⟩,_,e,_,rfl,uG,grownCap_le_maxLen w (n+m) cap e (by unfold maxLen;omega),heap_alloc_new w.drew _,?_,?_⟩
  ·simp only[Array.size_append,rE,size_zeroCells,hzs,AV,hl,←cz]
   exact dZ _ (by omega)
  ·have e1:(n+m)*j.size=(cur.toList.take (n*j.size)++news).length:=by rw[c8,AV,hl,cz]
   simp only[Array.toList_append]
   rw[e1]
   exact uM
theorem appR(tok:TOk P tb){ev:Operand→D}{t e:TypeId}{ti j:TyE}{x y:Operand}{k n ky:Nat}{ds news:List D}(ht:tb t=some ti)(he:tb e=some j)(hk:hp.vars.lookup k=some ds)(hy:hp.vars.lookup ky=some news)(hx:ev x=.gw k j.size n)(Ot:ev y=.gw ky j.size 1)(hl:ds.length=n*j.size)(IY:news.length=j.size)(hb:(n+1)*max 1 j.bytes≤140737488355328)
  (yR:ti.ty=.slice e:=by exact rfl) (hz:Nat.ble 1 j.size=true:=by exact rfl) (href:cpB tb ⟨.builtin .append,#[x,y],#[t,t]⟩=true:=by exact rfl):
  m3 P tb md ⟨dst,.call ⟨.builtin .append,#[x,y],#[t,t]⟩,ty,pos,af,gd⟩ ev hp (.gw hp.next j.size (n+1)) (hp.re k (ds++news)):=by
 have hz:=dK hz
 refine⟨.step fun B g w a hr xg=>?_,fun hq=>?_,fun h=>?_,fun h=>by cases h⟩
 ·have h1:=xg x (dv (by simp))
  have h2:=xg y (dv (by simp))
  rw[hx] at h1
  rw[Ot] at h2
  obtain⟨q1,q2,q3,cs,tt,q4,q5,q6⟩:=hr.var k ds hk
  obtain⟨y1,y2,y3,ys,yt,y4,y5,y6⟩:=hr.var ky news hy
  generalize hv1:a.eval x=v1 at h1
  generalize OA:a.eval y=v2 at h2
  cases h1 with
  |gw _ _ _ cap xR p6 o0 hs=>
  cases h2 with
  |gw _ _ _ c hkn2 hnc2 hcm2 MY=>
  obtain⟨vI,tt',l',h3,h4⟩:=hs
  rw[q4] at h3
  injection h3 with h3
  injection h3 with h3 h5 h6
  subst h3;subst h5;subst h6
  have sf:∀i u,(ys.toList.take j.size)[i]? =some u→w.cell? ((⟨g.μ ky,0,none⟩:Addr).add i)=some u:=fun i u hu=>by
   rw[ie] at hu
   split at hu
   ·rw[Addr.add_lit]
    simpa[World.cell?,y4] using hu
   ·cases hu
  have hyone:∀u∈ys.toList.take j.size,u.oneCell'=true:=fun u hu=>by
   obtain⟨i,hi⟩:=zj hu
   rw[ie] at hi
   split at hi
   ·rename_i b8
    exact (y6 i u (by simpa using hi)).1 (by omega)
   ·cases hi
  obtain⟨v',w',b,cu,sI⟩:=Em tok ht yR he hz w ty tt (g.μ k) n cap cs q4 p6 o0 h4 ⟨g.μ ky,0,none⟩ 1 c (ys.toList.take j.size) (by rw[eH,iV];omega) sf hyone (by omega) hb
  obtain⟨cs2,tt2,cap2,uV,JR,mq,hh2,Pg,D5⟩:=sI.row
  have hlen:(ds++news).length=(n+1)*j.size:=by rw[c8,hl,IY,cz,kG]
  have EA:(n+1)*j.size≤cap2*j.size:=dZ _ JR
  have hHR:HR B (hp.re k (ds++news)) (g.var hp.next b) w':=hr.re hk _ sI.size sI.old sI.sz sI.blk cs2 tt2 hh2 (by rw[hlen];omega) (fun i u hu=>by
   have hwin:i<(n+1)*j.size→(cs.toList.take (n*j.size)++ys.toList.take j.size)[i]? =some u:=fun hi=>by
    rw[←D5,ie,if_pos hi];simpa using hu
   have htk:(cs.toList.take (n*j.size)).length=n*j.size:=by rw[eH,iV];omega
   have look:∀hi:i<(n+1)*j.size,(i<n*j.size∧cs[i]? =some u)∨(n*j.size≤i∧i - n*j.size<j.size∧ys[i - n*j.size]? =some u):=fun hi=>by
    have h:=hwin hi
    rcases hE i (n*j.size) with b8|uG
    ·rw[zk (by omega),ie,if_pos b8] at h
     exact .inl ⟨b8,by simpa using h⟩
    ·rw[ql (by omega),htk,ie] at h
     rw[cz,kG] at hi
     rw[if_pos (by omega)] at h
     exact .inr ⟨uG,by omega,by simpa using h⟩
   refine⟨fun hi=>?_,fun d hd=>?_⟩
   ·rw[hlen] at hi
    rcases look hi with⟨h5,h6⟩|⟨h5,h6,h7⟩
    ·exact (q6 i u h6).1 (by omega)
    ·exact (y6 _ u h7).1 (by omega)
   ·have hi:i<(n+1)*j.size:=by rw[←hlen];exact (fZ.1 hd).1
    rcases look hi with⟨h5,h6⟩|⟨h5,h6,h7⟩
    ·rw[zk (by omega)] at hd
     exact (q6 i u h6).2 d hd
    ·rw[ql (by omega),hl] at hd
     exact (y6 _ u h7).2 d hd)
  refine⟨v',g.var hp.next b,w',?_,hHR,dm.re hr hk _ sI.size sI.old sI.sz sI.blk,?_,⟨sI.rest.1,sI.rest.2.1,sI.rest.2.2,sI.size,fun c hc=>sI.old c (eD hc hr.base) (by omega)⟩,fun p h5 h6=>.inl h6⟩
  ·simp only[execOp,Array.map_map,List.map_toArray,cP,dA,resolve,invoke,builtin,hv1,OA,Sem.run_bind]
   simp[resolve,invoke,builtin,hv1,OA,cu]
  ·subst uV
   have G3:(g.var hp.next b).μ hp.next=b:=if_pos rfl
   have:=aR.gw (hp:=hp.re k (ds++news)) (g:=g.var hp.next b) (w:=w') hp.next j.size (n+1) cap2 (e9 _) JR mq ⟨cs2,tt2,(0,0),by rw[G3];exact hh2,Pg⟩
   rwa[G3] at this
 ·exfalso
  cases md with
  |seq=>cases hq
  |any L=>
   have h1:((pf (.call ⟨.builtin .append,#[x,y],#[t,t]⟩)&&!Jr tb (.call ⟨.builtin .append,#[x,y],#[t,t]⟩))||oM tb L (.call ⟨.builtin .append,#[x,y],#[t,t]⟩))=true:=hq
   simp[pf,oM] at h1
 ·have h2:(hvB tb ⟨.builtin .append,#[x,y],#[t,t]⟩||cpB tb ⟨.builtin .append,#[x,y],#[t,t]⟩)=false:=h
  rw[href,Bool.or_true] at h2
  cases h2
end
end
section
section
variable {P:Program} {tb:TypeId→Option TyE} {md:Md} {B:Nat} {hp hp':Hp} {g:Gh} {w w':World} {d:D} {v:Value}
theorem appN(tok:TOk P tb){ev:Operand→D}{dst:Option Tmp}{ty:TypeId}{pos:String}{af:Array Edge}{gd:Option (Nat×Bool)}{t e:TypeId}{ti j:TyE}{x y:Operand}{ky:Nat}{news:List D}(ht:tb t=some ti)(he:tb e=some j)(hy:hp.vars.lookup ky=some news)(hx:ev x=.e (.lit (.slice none 0 0)))(Ot:ev y=.gw ky j.size 1)(IY:news.length=j.size)(hb:1*max 1 j.bytes≤140737488355328)
  (yR:ti.ty=.slice e:=by exact rfl) (hz:Nat.ble 1 j.size=true:=by exact rfl):
  m3 P tb md ⟨dst,.call ⟨.builtin .append,#[x,y],#[t,t]⟩,ty,pos,af,gd⟩ ev hp (.gw hp.next j.size 1) (hp.var news):=by
 have hz:=dK hz
 refine⟨.step fun B g w a hr xg=>?_,fun hq=>?_,fun _=>⟨jP _,fun j hj=>au (by omega)⟩,fun h=>by cases h⟩
 ·have h1:=xg x (dv (by simp))
  have h2:=xg y (dv (by simp))
  rw[hx] at h1
  rw[Ot] at h2
  have h1:=h1.lit
  obtain⟨y1,y2,y3,ys,yt,y4,y5,y6⟩:=hr.var ky news hy
  generalize OA:a.eval y=v2 at h2
  cases h2 with
  |gw _ _ _ c hkn2 hnc2 hcm2 MY=>
  obtain⟨f,zz,M2,Pa,CO,hf3,hf4,_⟩:=tok.inf he
  have hu:=tok.slice ht yR
  have hzs:zz.cells.size=j.size:=by
   have h4:=(tok e j he).2.2.1
   rw[←iV,hf4,h4]
  have DZ:f.bytes≤140737488355328:=by rw[CO];omega
  have sf:∀i u,(ys.toList.take j.size)[i]? =some u→w.cell? ((⟨g.μ ky,0,none⟩:Addr).add i)=some u:=fun i u hu=>by
   rw[ie] at hu
   split at hu
   ·rw[Addr.add_lit]
    simpa[World.cell?,y4] using hu
   ·cases hu
  have zF:(ys.toList.take j.size).length=j.size:=by rw[eH,iV];omega
  have cu:=run_append_nil (P:=P) w t ty e f zz hu M2 hf3 ⟨g.μ ky,0,none⟩ 1 c (ys.toList.take j.size) (by rw[Pa,zF];omega) sf (by omega) (by omega) (by omega)
  have uG:=grownCap_ge w 1 0 e
  have hold:∀c,c<w.heap.size→(w.drew.alloc (.cells ((ys.toList.take j.size).toArray++Builtin.zeroCells zz.cells (grownCap w 1 0 e - 1)) e)).heap[c]? =w.heap[c]? :=fun c hc=>heap_alloc_old w.drew _ hc
  have Bt:=heap_alloc_new w.drew (.cells ((ys.toList.take j.size).toArray++Builtin.zeroCells zz.cells (grownCap w 1 0 e - 1)) e)
  have mo:=dm.addVar (w:=w) (w':=w.drew.alloc (.cells ((ys.toList.take j.size).toArray++Builtin.zeroCells zz.cells (grownCap w 1 0 e - 1)) e)) hp g news (b:=w.heap.size) (by simp) hold (aB _)
  have hsz:((ys.toList.take j.size).toArray++Builtin.zeroCells zz.cells (grownCap w 1 0 e - 1)).size=grownCap w 1 0 e*j.size:=by
   simp only[Array.size_append,rE,size_zeroCells,hzs,zF]
   have:grownCap w 1 0 e=1+(grownCap w 1 0 e - 1):=by omega
   rw[this,cz,kG]
   congr 2
   omega
  have h1z:1*j.size≤grownCap w 1 0 e*j.size:=dZ _ uG
  refine⟨.slice (some ⟨w.heap.size,0,none⟩) 1 (grownCap w 1 0 e),g.var hp.next w.heap.size,_,?_,hr.addVar news (w':=w.drew.alloc (.cells ((ys.toList.take j.size).toArray++Builtin.zeroCells zz.cells (grownCap w 1 0 e - 1)) e)) (by simp) hold (aB _) _ e Bt (by rw[hsz,IY];omega) (fun i u hu=>?_),mo,?_,⟨rfl,rfl,rfl,by simp,fun c hc=>hold c (eD hc hr.base)⟩,fun p h5 h6=>.inl h6⟩
  ·simp only[execOp,Array.map_map,List.map_toArray,cP,dA,resolve,invoke,builtin,h1,OA,Sem.run_bind]
   simp[resolve,invoke,builtin,h1,OA,cu]
  ·have Ew:i<news.length→ys[i]? =some u:=fun hi=>by
    have xj:i<(ys.toList.take j.size).toArray.size:=by rw[rE,zF];omega
    rw[Array.getElem?_append_left xj,Dr,ie,if_pos (by omega)] at hu
    simpa using hu
   exact⟨fun hi=>(y6 i u (Ew hi)).1 hi,fun d hd=>((y6 i u (Ew (fZ.1 hd).1)).2 d hd).mono mo⟩
  ·have G3:(g.var hp.next w.heap.size).μ hp.next=w.heap.size:=if_pos rfl
   have:=aR.gw (hp:=hp.var news) (g:=g.var hp.next w.heap.size) (w:=w.drew.alloc (.cells ((ys.toList.take j.size).toArray++Builtin.zeroCells zz.cells (grownCap w 1 0 e - 1)) e)) hp.next j.size 1 (grownCap w 1 0 e) (e9 _) uG (grownCap_le_maxLen w 1 0 e (by decide)) ⟨_,e,(0,0),by rw[G3];exact Bt,by rw[hsz];exact aB _⟩
   rwa[G3] at this
 ·exfalso
  cases md with
  |seq=>cases hq
  |any L=>
   have h1:((pf (.call ⟨.builtin .append,#[x,y],#[t,t]⟩)&&!Jr tb (.call ⟨.builtin .append,#[x,y],#[t,t]⟩))||oM tb L (.call ⟨.builtin .append,#[x,y],#[t,t]⟩))=true:=hq
   simp[pf,oM] at h1
def Fv(hp:Hp)(g:Gh):Addr→Prop:=fun p=>g.F p∧∀k ds,hp.vars.lookup k=some ds→g.μ k≠p.block
def AR(hp:Hp)(d d':D):Prop:=∀(B:Nat) (g:Gh) (w:World) (v:Value),HR B hp g w→aR hp g w d v→l9 w (Fv hp g) d' v
theorem AR.data(h:d.ex.pure=true):AR hp d d.ex:=fun _ _ _ _ _ hd=>(hd.xport h).less fun _ hp=>hp.1
theorem AR.sl {k z n off:Nat}{F:List E}(hv:hp.vars.lookup k=some (dC F))(hz:0<z)(hl:off+n*z≤F.length):AR hp (.ow k off z n) (.e (.sl z n ((F.drop off).take (n*z)))):=by
 intro B g w v hr hd
 obtain⟨h1,h2,h3,cs,ty,h4,h5,h6⟩:=hr.var k _ hv
 rw[eT] at h5
 cases hd with
 |ow _ _ _ _ c hk p6 o0=>
  refine .e _ _ (.sl z n _ (some ⟨g.μ k,off,none⟩) c (fun i=>cs.getD (off+i) undef) (by rw[eH,fT];omega) hz p6 o0 (fun _=>⟨_,rfl,(oR.1 h4).1⟩) (fun ad ha i e hi=>?_) (fun i e hi=>?_))
  ·injection ha with ha
   subst ha
   have xj:i<n*z:=by
    have:=(fZ.1 hi).1
    rw[eH] at this;omega
   have M3:(⟨g.μ k,off,none⟩:Addr).add i=⟨g.μ k,off+i,none⟩:=by unfold Addr.add;split <;> simp_all
   refine⟨?_,fun hf=>hf.2 k _ hv (by rw[gv])⟩
   rw[M3]
   have b8:off+i<cs.size:=by omega
   simp[World.cell?,h4,iO,b8]
  ·have xj:i<n*z:=by
    have:=(fZ.1 hi).1
    rw[eH] at this;omega
   have b8:off+i<cs.size:=by omega
   rw[ie,if_pos xj,oQ] at hi
   have hu:=h6 (off+i) (cs.getD (off+i) undef) (by simp[iO,b8])
   have:=hu.2 (.e e) (by unfold dC;rw[ep,hi];rfl)
   cases this with
   |e _ _ h7=>exact h7.less fun p hp=>hp.1
theorem AR.gw {k z n:Nat}{F:List E}(hv:hp.vars.lookup k=some (dC F))(hz:0<z)(hl:F.length=n*z):AR hp (.gw k z n) (.e (.sl z n F)):=by
 intro B g w v hr hd
 have:=AR.sl (off:=0) hv hz (n:=n) (by omega) B g w v hr hd.toOw
 rwa[rB,iP (by omega)] at this
def ARs(hp:Hp):List D→List D→Prop
 |[],[]=>True
 |d::ds,e::es=>AR hp d e∧ARs hp ds es
 |_,_=>False
theorem ARs.get:∀{ds es:List D},ARs hp ds es→ds.length=es.length∧∀(j:Nat) (e:D),es[j]? =some e→∃d,ds[j]? =some d∧AR hp d e
 |[],[],_=>⟨rfl,fun j e h=>by simp at h⟩
 |d::ds,e::es,⟨h1,h2⟩=>by
  obtain⟨h3,h4⟩:=ARs.get h2
  refine⟨by simp[h3],fun j x hx=>?_⟩
  cases j with
  |zero=>simp at hx;subst hx;exact⟨d,rfl,h1⟩
  |succ j=>exact h4 j x (by simpa using hx)
 |[],_::_,h=>h.elim
 |_::_,[],h=>h.elim
theorem AR.ag {ds es:List D}(h:ARs hp ds es):AR hp (.ag ds) (.ag es):=by
 intro B g w v hr hd
 obtain⟨h1,h2⟩:=h.get
 cases hd with
 |ag _ cs hl ho JE=>
  refine .ag es cs (by omega) ho fun j e u hj hu=>?_
  obtain⟨d,h3,h4⟩:=h2 j e hj
  exact h4 B g w u hr (JE j d u h3 hu)
def D.flatC:D→Bool
 | .e (.lit _)=>true
 |_=>false
def D.flat1:D→Bool
 | .ag ds=>ds.all D.flatC
 |d=>d.flatC
def D.flat:D→Bool
 | .tu ds=>ds.all D.flat1
 |d=>d.flat1
theorem Ii {F:Addr→Prop}(h:l9 w F d v)(hf:d.flatC=true)(hp:Hp)(g:Gh)(w':World):aR hp g w' d v:=by
 cases h with
 |e x v h=>
  cases x with
  |lit u=>cases h with|lit _ ho=>exact .e _ _ (.lit _ ho)
  |_=>cases hf
 |_=>cases hf
theorem Ij {F:Addr→Prop}(h:l9 w F d v)(hf:d.flat1=true)(hp:Hp)(g:Gh)(w':World):aR hp g w' d v:=by
 cases d with
 |ag ds=>
  cases h with
  |ag _ cs hl ho JE=>exact .ag ds cs hl ho fun j d u hj hu=>Ii (JE j d u hj hu) (dc.1 hf d (er hj)) hp g w'
 |_=>exact Ii h hf hp g w'
theorem flat_to {F:Addr→Prop}(h:l9 w F d v)(hf:d.flat=true)(hp:Hp)(g:Gh)(w':World):aR hp g w' d v:=by
 cases d with
 |tu ds=>
  cases h with
  |tu _ cs hl JE=>exact .tu ds cs hl fun j d u hj hu=>Ij (JE j d u hj hu) (dc.1 hf d (er hj)) hp g w'
 |_=>exact Ij h hf hp g w'
theorem Fv_fits(hr:HR B hp g w):∀p:Addr,Fv hp g p→p.block<w.heap.size:=fun p h=>hr.fits p h.1
theorem Ff {f:FuncId}{ds ds':List D}{r:D}(hc:ax P f ds' r)(ha:ARs hp ds ds'){vs:Array Value}(hr:HR B hp g w)(hsz:vs.size=ds.length)(dx:∀(j:Nat) (d:D) (u:Value),ds[j]? =some d→vs[j]? =some u→aR hp g w d u):
  Calls P f vs w fun e w'=>∃v,e=.returned v∧u1 w.heap.size (Fv hp g) w' r v∧Below w.heap.size w w':=by
 obtain⟨h1,h2⟩:=ha.get
 refine hc.2 w _ vs (Fv_fits hr) (by omega) fun j e u hj hu=>?_
 obtain⟨d,h3,h4⟩:=h2 j e hj
 exact h4 B g w u hr (dx j d u h3 hu)
theorem HC.frz {f:FuncId}{ds ds':List D}{r:D}(hc:ax P f ds' r)(ha:ARs hp ds ds')(hf:r.flat=true):HC P f ds hp r hp:=by
 refine⟨hc.1,fun B g w vs hr hsz dx=>(Ff hc ha hr hsz dx).mono ?_⟩
 rintro e w' ⟨v,rfl,pQ,hb⟩
 have OI:l9 w' (Fv hp g) r v:=by
  unfold u1 at pQ
  split at pQ
  ·cases hf
  ·exact pQ
 exact⟨v,g,rfl,hr.keep hb.size hb.block,dm.keep hp g hb.size hb.block,flat_to OI hf hp g w',hb.mono hr.base,fun _ _ h=>h⟩
def E.isLit:E→Bool
 | .lit _=>true
 |_=>false
theorem HC.adopt {f:FuncId}{ds ds':List D}{e z n:Nat}{xs:List E}(hc:ax P f ds' (.own e z n xs))(ha:ARs hp ds ds')(hn:0<n)(hx:xs.all E.isLit=true):HC P f ds hp (.gw hp.next z n) (hp.var (dC xs)):=by
 refine⟨hc.1,fun B g w vs hr hsz dx=>(Ff hc ha hr hsz dx).mono ?_⟩
 rintro en w' ⟨v,rfl,⟨hz,⟨us,ho⟩,pQ⟩,hb⟩
 rcases ho.2 with⟨rfl,rfl⟩|⟨b,cap,cur,rfl,hB,hh,p6,o0,qE,htk⟩
 ·omega
 have AV:xs.length=n*z:=by cases pQ with|sl _ _ _ _ _ _ hl=>exact hl
 have KS:=ho.1
 have hns:n*z≤cap*z:=dZ _ p6
 have mo:=dm.addVar hp g (dC xs) hb.size hb.block hB
 have G3:(g.var hp.next b).μ hp.next=b:=if_pos rfl
 have cells:∀(i:Nat) (u:Value),cur[i]? =some u→∀x,xs[i]? =some x→∃y,x=.lit y∧u=y∧y.oneCell'=true:=fun i u hu x hxi=>by
  have hlit:x.isLit=true:=dc.1 hx x (er hxi)
  cases pQ with
  |sl _ _ _ _ _ us2 _ _ _ _ hA CS JE=>
   obtain⟨h5,_⟩:=CS _ rfl i x hxi
   have h6:w'.cell? ((⟨b,0,none⟩:Addr).add i)=cur[i]? :=by rw[Addr.add_lit];simp[World.cell?,hh]
   rw[h6,hu] at h5
   injection h5 with h5
   have h7:=JE i x hxi
   rw[←h5] at h7
   cases x with
   |lit y=>cases h7 with|lit _ ho=>exact⟨_,rfl,rfl,ho⟩
   |_=>cases hlit
 refine⟨_,g.var hp.next b,rfl,hr.addVar (dC xs) hb.size hb.block hB cur e hh (by rw[eT,AV,qE];exact hns) (fun i u hu=>⟨fun hi=>?_,fun d hd=>?_⟩),mo,?_,hb.mono hr.base,fun p _ h=>.inl h⟩
 ·rw[eT] at hi
  obtain⟨y,_,rfl,h⟩:=cells i u hu xs[i] (de hi)
  exact h
 ·unfold dC at hd
  rw[ep] at hd
  obtain⟨x,E3,rfl⟩:=xt.1 hd
  obtain⟨y,rfl,rfl,h⟩:=cells i u hu x E3
  exact .e _ _ (.lit _ h)
 ·have:=aR.gw (hp:=hp.var (dC xs)) (g:=g.var hp.next b) (w:=w') hp.next z n cap (e9 _) p6 o0 ⟨cur,e,(0,0),by rw[G3];exact hh,by omega⟩
  rwa[G3] at this
end
end
section
section
variable {P:Program} {tb:TypeId→Option TyE} {md:Md} {hp hp':Hp} {d:D} {dst:Option Tmp} {ty:TypeId} {pos:String} {af:Array Edge} {gd:Option (Nat×Bool)} {ev:Operand→D}
theorem opHC {x:Operand}{f:FuncId}{aS:List Operand}{ts:Array TypeId}{ds:List D}(Bu:ev x=.e (.lit (.func (.func f) #[] #[])))(hc:HC P f ds hp d hp')(hd:aS.map ev=ds):qN P ⟨dst,.call ⟨.value x,aS.toArray,ts⟩,ty,pos,af,gd⟩ ev hp d hp':=by
 intro B g w a Kn Q hr hx xR
 subst hd
 obtain⟨⟨fn,hf,hn,A5⟩,yT⟩:=hc
 have hv:=hx x (by simp[Op.operands,Call.operands])
 rw[Bu] at hv
 have hv:=hv.lit
 have tG:=yT B g w (aS.map a.eval).toArray hr (by simp) (fun j d u hd hu=>by
  rw[ep] at hd
  obtain⟨y,hy,rfl⟩:=xt.1 hd
  have uE:(aS.map a.eval)[j]? =some u:=by simpa using hu
  rw[ep,hy] at uE
  injection uE with uE
  subst uE
  exact hx y (dv (by simpa using er hy)))
 refine C0 (R:=fun v w'=>∃g',HR B hp' g' w'∧dm hp g w hp' g' w'∧aR hp' g' w' d v∧Below B w w'∧∀p:Addr,p.block<B→g.F p→g'.F p) ?_ (tG.mono ?_) ?_
 ·have hn' : fn.name ≠ "runtime.NumGoroutine" := by simpa using hn
  have pR:¬fn.body=none:=fun e=>by rw[e] at A5;cases A5
  have hcf:(callFunc f (aS.map a.eval).toArray).run P w=.ok (.enter f (aS.map a.eval).toArray) w:=by
   simp[callFunc,hf,hn',pR]
  rw[←hcf]
  simp[execOp,resolve,invoke,Deferred.ofValue,hv]
 ·rintro e w' ⟨v,g',rfl,h1⟩
  exact⟨v,rfl,g',h1⟩
 ·rintro v w' ⟨g',h1,h2,h3,h4,h5⟩
  exact xR v g' w' h1 h2 h3 h4 h5
theorem opHF {x:Operand}{f:FuncId}{ks:List Nat}{aS:List Operand}{ts:Array TypeId}{ds:List D}(Bu:ev x=.fn f ks)(hc:HC P f ds hp d hp')(hd:aS.map ev++ks.map (fun k=>D.pt k 0)=ds):qN P ⟨dst,.call ⟨.value x,aS.toArray,ts⟩,ty,pos,af,gd⟩ ev hp d hp':=by
 intro B g w a Kn Q hr hx xR
 subst hd
 obtain⟨⟨fn,hf,hn,A5⟩,yT⟩:=hc
 have hv:=hx x (by simp[Op.operands,Call.operands])
 rw[Bu] at hv
 generalize hu0:a.eval x=u0 at hv
 cases hv with
 |fn _ _ hks=>
 have tG:=yT B g w (aS.map a.eval++ks.map fun k=>Value.pointer (some ⟨g.μ k,0,none⟩)).toArray hr (by simp) (fun j d u hd hu=>by
  have uE:(aS.map a.eval++ks.map fun k=>Value.pointer (some ⟨g.μ k,0,none⟩))[j]? =some u:=by simpa using hu
  rcases hE j aS.length with hj|hj
  ·rw[zk (by simpa using hj),ep] at hd uE
   obtain⟨y,hy,rfl⟩:=xt.1 hd
   rw[hy] at uE
   injection uE with uE
   subst uE
   exact hx y (dv (by simpa using er hy))
  ·rw[ql (by simpa using hj),ep] at hd uE
   obtain⟨k,hk,rfl⟩:=xt.1 hd
   simp only[bw] at hk uE
   rw[hk] at uE
   injection uE with uE
   subst uE
   exact .pt k 0 (hks k (er hk)))
 refine C0 (R:=fun v w'=>∃g',HR B hp' g' w'∧dm hp g w hp' g' w'∧aR hp' g' w' d v∧Below B w w'∧∀p:Addr,p.block<B→g.F p→g'.F p) ?_ (tG.mono ?_) ?_
 ·have hn' : fn.name ≠ "runtime.NumGoroutine" := by simpa using hn
  have pR:¬fn.body=none:=fun e=>by rw[e] at A5;cases A5
  have hcf:(callFunc f (aS.map a.eval++ks.map fun k=>Value.pointer (some ⟨g.μ k,0,none⟩)).toArray).run P w=.ok (.enter f (aS.map a.eval++ks.map fun k=>Value.pointer (some ⟨g.μ k,0,none⟩)).toArray) w:=by
   simp[callFunc,hf,hn',pR]
  have uH:(aS.map a.eval++ks.map fun k=>Value.pointer (some ⟨g.μ k,0,none⟩)).toArray=aS.toArray.map a.eval++(ks.map fun k=>Value.pointer (some ⟨g.μ k,0,none⟩)).toArray:=by apply oP.1;simp
  rw[←hcf,uH]
  simp[execOp,resolve,invoke,Deferred.ofValue,hu0]
 ·rintro e w' ⟨v,g',rfl,h1⟩
  exact⟨v,rfl,g',h1⟩
 ·rintro v w' ⟨g',h1,h2,h3,h4,h5⟩
  exact xR v g' w' h1 h2 h3 h4 h5
theorem sndOf {c:Call}{x:Operand}(CS:c.callee=.value x)(h:qN P ⟨dst,.call c,ty,pos,af,gd⟩ ev hp d hp')(hfr:hvB tb c=true∨Fr hp hp')(hn:md.nc tb (.call c)=true):m3 P tb md ⟨dst,.call c,ty,pos,af,gd⟩ ev hp d hp':=by
 refine⟨h,fun hq=>?_,fun hv=>?_,fun h=>by cases h⟩
 ·exfalso
  cases md with
  |seq=>cases hq
  |any L=>
   have h1:((pf (.call c)&&!Jr tb (.call c))||oM tb L (.call c))=true:=hq
   have h2:(!oM tb L (.call c))=true:=hn
   rw[v3] at h2
   rw[h2,Bool.or_false] at h1
   simp[pf,CS] at h1
 ·rcases hfr with h1|h1
  ·have h2:(hvB tb c||cpB tb c)=false:=hv
   rw[h1] at h2;cases h2
  ·exact h1
theorem sHC {x:Operand}{f:FuncId}{aS:List Operand}{ts:Array TypeId}{ds:List D}(hc:HC P f ds hp d hp')(hd:aS.map ev=ds)(hfr:hvB tb ⟨.value x,aS.toArray,ts⟩=true∨Fr hp hp')(Bu:ev x=.e (.lit (.func (.func f) #[] #[])):=by exact rfl)(hn:md.nc tb (.call ⟨.value x,aS.toArray,ts⟩)=true:=by exact rfl):
  m3 P tb md ⟨dst,.call ⟨.value x,aS.toArray,ts⟩,ty,pos,af,gd⟩ ev hp d hp':=sndOf rfl (opHC Bu hc hd) hfr hn
theorem sHF {x:Operand}{f:FuncId}{ks:List Nat}{aS:List Operand}{ts:Array TypeId}{ds:List D}(hc:HC P f ds hp d hp')(hd:aS.map ev++ks.map (fun k=>D.pt k 0)=ds)(Bu:ev x=.fn f ks:=by exact rfl)(hfr:hvB tb ⟨.value x,aS.toArray,ts⟩=true:=by exact rfl)(hn:md.nc tb (.call ⟨.value x,aS.toArray,ts⟩)=true:=by exact rfl):
  m3 P tb md ⟨dst,.call ⟨.value x,aS.toArray,ts⟩,ty,pos,af,gd⟩ ev hp d hp':=sndOf rfl (opHF Bu hc hd) (.inl hfr) hn
end
structure Pt(F:List D)(o:Nat)(bs:List D)(F':List D→List D):Prop where
 le:o+bs.length≤F.length
 g:(F.drop o).take bs.length=bs
 p:∀ys:List D,ys.length=bs.length→F.take o++ys++F.drop (o+bs.length)=F' ys
theorem Pt.of {F bs:List D}{o:Nat}{F':List D→List D}(A C:List D)(hA:A.length=o)(hF:F=A++bs++C)(hp:∀y,F' y=A++y++C):Pt F o bs F':=by
 subst hA hF
 refine⟨by simp only[c8];omega,?_,fun y hy=>?_⟩
 ·rw[dU,zf,uM]
 ·rw[hp,dU A bs C,uM,←qv,zf,zf]
section
variable {P:Program} {tb:TypeId→Option TyE} {dr:Bool} {ty:TypeId} {ev:Operand→D} {hp:Hp} {k o:Nat} {F bs:List D} {F':List D→List D} {t:TypeId} {i:TyE} {x y:Operand} {d:D}
theorem Bj(L:Pt F o bs F')(hv:hp.vars.lookup k=some F)(hk:k<hp.next)(ht:tb t=some i)(hz:bs.length=i.size)(hg:i.ty.agg=true:=by exact rfl)(hx:ev x=.pt k o:=by exact rfl):AVC P tb dr (.load t x) ty ev hp (Kq (.ag bs) hp):=by
 rw[qL,hx,ox,ht,hv]
 simp only[hg]
 refine⟨hk,by rw[←hz];exact L.le,?_⟩
 rw[←hz,L.g]
 exact Kq.here _ _
theorem kI(L:Pt F o [d] F')(hv:hp.vars.lookup k=some F)(hk:k<hp.next)(ht:tb t=some i)(hg:i.ty.agg=false:=by exact rfl)(hx:ev x=.pt k o:=by exact rfl):AVC P tb dr (.load t x) ty ev hp (Kq d hp):=by
 rw[qL,hx,ox,ht,hv]
 simp only[hg]
 refine⟨hk,d,?_,Kq.here _ _⟩
 have h:=L.g
 have hle:=L.le
 have:((F.drop o).take 1)[0]? =some d:=by rw[show (1:Nat)=[d].length from rfl,h];rfl
 rw[ie,if_pos (by omega),oQ,mK] at this
 exact this
theorem Fm {ys F2:List D}{hp':Hp}(L:Pt F o bs F')(hv:hp.vars.lookup k=some F)(hyc:(ev y).cells=some ys)(ht:tb t=some i)(hz:bs.length=i.size)(hl:ys.length=bs.length)(h2:F' ys=F2)(hx:ev x=.pt k o:=by exact rfl)(he:hp.set k F2=hp':=by exact rfl):AVC P tb dr (.store t x y) ty ev hp (Kq .top hp'):=by
 subst he h2
 rw[Di,hx,zV,ht,hv,hyc]
 simp only
 refine⟨by omega,by rw[←hz];exact L.le,?_⟩
 rw[hl,L.p ys hl]
 exact Kq.here _ _
end
end
def ay:Cd Nu:=⟨36,fun x=>ai.f x.1,fun x=>ai.h x.1⟩
theorem w_Add(x y:Nu):ax Tryz.prog 66 [dG ay x,dG ay y] (dG ay (n9 x y)):=by rw[sX];exact vf (Kh x.2 y.2)
theorem w_Mul(x y:Nu):ax Tryz.prog 29 [dG ay x,dG ay y] (dG ay (oq x y)):=by rw[pK];exact ve (Kg x.2 y.2)
theorem w_Sub(x y:Nu):ax Tryz.prog 76 [dG ay x,dG ay y] (dG ay (FX x y)):=by rw[N7];exact Hl (G_osub x.2 y.2)
theorem Nj(x y:Nu):ax Tryz.prog 153 [dG ay x,dG ay y] (dG ay (rR x y)):=by rw[HK];exact Hm (G_odiv x.2 y.2)
theorem Hn(x:Nu):ax Tryz.prog 42 [dG ay x] (dG ay (hJ x)):=by rw[yK];exact vd (Kf x.2)
theorem Eh(n:Int)(h:-2≤n∧n≤2):ax Tryz.prog 28 [dI .i64 n] (dG ay (nOf n)):=B7 (G_rOf (by omega) (by omega))
theorem xD(x:Nu):ax Tryz.prog 30 [dG ay x] (dI .i64 (cU x)):=by rw[sW];exact tO (QU x.2)
theorem w_Good(x:Nu):ax Tryz.prog 92 [dG ay x] (dB (aW x)):=by rw[gL];exact cJ (iR x.2)
theorem w_Cmp(x y:Nu):ax Tryz.prog 32 [dG ay x,dG ay y] (dI .i64 (pL x y)):=by rw[Cw];exact r6 (QV x.2 y.2)
structure ye where
 vk:ao
 vc:List ao
 deriving Inhabited,DecidableEq
def sJ:Cd ye:=⟨37,fun x=>ai.f x.vk++[slE ai x.vc],fun x=>by simp[ai.h,show ai.sz=36 from rfl]⟩
theorem Jp(x:ye):ak (sJ.f x) ai 0 x.vk (fun y=>sJ.f (⟨y,x.vc⟩:ye)):=
 ak.of ([]) (((cL ai)).f x.vc) (by first|rfl|(simp[(cL ai).h,ai.h];first|rfl|done)) (by first|rfl|simp[sJ,cI,cB,cS,cL,dU]) (fun y=>by first|rfl|simp[sJ,cI,cB,cS,cL,dU])
theorem Jq(x:ye):ak (sJ.f x) (cL ai) 36 x.vc (fun y=>sJ.f (⟨x.vk,y⟩:ye)):=
 ak.of ((ai).f x.vk) ([]) (by first|rfl|(simp[(cL ai).h,ai.h];first|rfl|done)) (by first|rfl|simp[sJ,cI,cB,cS,cL,dU]) (fun y=>by first|rfl|simp[sJ,cI,cB,cS,cL,dU])
def iI(aU:ao):Option Bool:=bnd (br aU) fun x1=>some (!x1)
theorem xA {aU:ao}{r:Bool}(h:iI aU=some r):ax Tryz.prog 120 [dG ai aU] (dB r):=by
 refine bC (rs:=[.tmp 2]) (fun cx hx h0=>?_) Tryz.func120
 unfold iI at h
 refine ra hx ?_
 refine rs hx fun K hK=>?_
 refine s1 (d:=dG ai aU) (aq (ak.id _ _) aw) ?_
 refine scb h cJ fun x1 h=>?_
 iterate 2 refine sa ?_
 refine .nil (hK _ _ (AW.ret ?_))
 cases h
 exact rv1
def a5(uT:List ao):Int→Option (Int⊕(Int⊕Unit)):=fun aL=>cnd (decide (aL<((uT).length:Int))) (gd (0≤aL∧aL<((uT).length:Int)) (bnd (iI ((uT)[(aL).toNat]!)) fun x4=>cnd x4 (some (.inr (.inl aL))) (some (.inl (i64.wrap (aL+(1:Int))))))) (some (.inr (.inr ())))
def bq(uT:List ao):Option Int:=bnd (bL (a5 uT) (0:Int)) fun y7=>match y7 with| .inl r=>some r| .inr ()=>some (-1:Int)
theorem iC {uT:List ao}{r:Int}(h:bq uT=some r):ax Tryz.prog 106 [dL ai uT,.e (.lit (.func (.func 120) #[] #[]))] (dI .i64 r):=by
 refine bC (rs:=[.tmp 4]) (fun cx hx h0=>?_) Tryz.func106
 unfold bq at h
 refine ra hx ?_
 refine AW.seq (ra hx ?_)
 refine AW.block ?_
 obtain⟨y,hy,h⟩:=ae h
 refine lp (S:=Int) (X:=Int⊕Unit) (fun aL=>[(0,dL ai uT),(1,.e (.lit (.func (.func 120) #[] #[]))),(7,dI .i64 ((uT).length:Int)),(8,dI .i64 aL)]) (fun aL=>⟨[],[],0⟩) (PS (PR [.tmp 4] fun r=>dI .i64 r) (PE cx (.exit 0) (fun ()=>[]) fun ()=>⟨[],[],0⟩)) hy ?_ ?_ ?_
 exact wk h0 [] (wR rfl (wR rfl (wR rfl (wR rfl wTn)))) wVn wLn
 clear hy h
 rintro aL y h
 dsimp only[a5] at h
 refine ra hx ?_
 refine AW.seq (cdh h rfl (fun cv h=>?_) (fun cv h=>?_))
 refine AW.skip (AW.seq (AW.block (ra hx ?_)))
 refine rs hx fun K hK=>?_
 iterate 3 refine sa ?_
 obtain⟨mq,h⟩:=aD h
 have qD:(aL).toNat<(uT).length:=by omega
 refine s1 (gV mq aH aw) ?_
 refine s1 (d:=dG ai ((uT)[(aL).toNat]!)) (mj (c:=ai) (l:=uT) (n:=(aL).toNat) (o:=0) aw qD (fm _ _ rfl)) ?_
 refine scb h xA fun x4 h=>?_
 refine .nil (hK _ _ (cdh h rfl (fun fC h=>?_) (fun fC h=>?_)))
 refine ra hx ?_
 refine AW.ret ?_
 cases h
 refine PS.r ⟨by nofun,PS.l (PR.i ?_)⟩
 exact rv1
 refine AW.skip (rb hx ?_)
 cases h
 exact PS.l (pe0 h0 [])
 refine AW.exit ?_
 try dsimp only
 try simp only[aS,reduceIte,Nat.reduceEqDiff,reduceCtorEq]
 cases h
 exact PS.r ⟨by nofun,PS.r (PE.i (wk h0 [] wTn wVn wLn))⟩
 rcases y with r|⟨⟩
 rintro ex tm' hp' ⟨rfl,hw⟩
 cases h
 exact hw
 rintro ex tm' hp' ⟨rfl,hw⟩
 try dsimp only
 try simp only[aS,reduceIte,Nat.reduceEqDiff,reduceCtorEq]
 refine AW.weak hw (ra hx ?_)
 refine AW.ret ?_
 cases h
 exact rv1
def bi(uT:List ao):Option Bool:=bnd (bq uT) fun x1=>some (decide ((0:Int)≤x1))
theorem gW {uT:List ao}{r:Bool}(h:bi uT=some r):ax Tryz.prog 119 [dL ai uT,.e (.lit (.func (.func 120) #[] #[]))] (dB r):=by
 refine bC (rs:=[.tmp 4]) (fun cx hx h0=>?_) Tryz.func119
 unfold bi at h
 refine ra hx ?_
 refine rs hx fun K hK=>?_
 iterate 2 refine sa ?_
 refine scb h iC fun x1 h=>?_
 iterate 2 refine sa ?_
 refine .nil (hK _ _ (AW.ret ?_))
 cases h
 exact rv1
def dH(eZ:List ao):Option Bool:=bnd (bi eZ) fun x1=>some (!x1)
theorem f6 {eZ:List ao}{r:Bool}(h:dH eZ=some r):ax Tryz.prog 62 [dL ai eZ] (dB r):=by
 refine bC (rs:=[.tmp 2]) (fun cx hx h0=>?_) Tryz.func62
 unfold dH at h
 refine ra hx ?_
 refine rs hx fun K hK=>?_
 refine sa ?_
 refine scb h gW fun x1 h=>?_
 iterate 2 refine sa ?_
 refine .nil (hK _ _ (AW.ret ?_))
 cases h
 exact rv1
def j6(eZ:ye):Option Bool:=bnd (S:=Bool) (bnd (br eZ.vk) fun x1=>cnd x1 (bnd (dH eZ.vc) fun x4=>some (x4)) (some (false))) fun bI=>some bI
theorem wJ {eZ:ye}{r:Bool}(h:j6 eZ=some r):ax Tryz.prog 109 [dG sJ eZ] (dB r):=by
 refine bC (rs:=[.tmp 2]) (fun cx hx h0=>?_) Tryz.func109
 unfold j6 at h
 refine ra hx ?_
 refine AW.seq ?_
 obtain⟨bI,hy,h⟩:=ae h
 refine jn ((PE cx .normal (fun bI=>[(2,dB bI)]) fun bI=>⟨[],[],0⟩) bI) ?_ ?_
 replace h:=hy
 refine rq hx fun K hK=>?_
 refine sa ?_
 refine s1 (aq (Jp eZ) aw) ?_
 refine scb h cJ fun x1 h=>?_
 refine sa ?_
 rcases az x1 with a8|a8
 replace h:=aO a8 h
 refine ga a8 ?_
 refine g1 a8 (aT (Jq eZ) aH) ?_
 obtain⟨x4,qd,h⟩:=ae h
 refine g1 a8 (bb rfl (f6 qd) rfl (lA (ap _) lAn) (.inl rfl)) ?_
 refine s1 (ar a8) ?_
 refine sa ?_
 refine .nil (hK _ _ ?_)
 cases h
 exact pe0 h0 []
 replace h:=aP a8 h
 iterate 3 refine aG rfl rfl a8 ?_
 refine s1 (an a8) ?_
 refine sa ?_
 refine .nil (hK _ _ ?_)
 cases h
 exact pe0 h0 []
 rintro ex tm' hp' ⟨rfl,hw⟩
 refine AW.weak hw (AW.ret ?_)
 cases h
 exact rv1
def nv(x:Nu):ao:=x.1
theorem MR(x:Nu):iI (nv x)=some (!aW x):=by
 unfold iI nv
 rw[iR x.2,gL]
 rfl
theorem G_idx {c:List Nu}(h:c.length≤1000000):∃y,bq (c.map nv)=some y∧(0≤y↔c.all aW=false):=by
 have key:=vp (b:=a5 (c.map nv)) (fun i:Int=>0≤i∧i≤c.length∧∀j:Nat,j<i.toNat→∀x,c[j]? =some x→aW x=true) (fun i=>(c.length - i).toNat)
  (fun y=>match y with| .inl r=>0≤r∧c.all aW=false| .inr _=>c.all aW=true) (fun i ⟨h1,h2,h3⟩=>?_) 0 ⟨by omega,by omega,fun j hj=>absurd hj (by simp)⟩
 ·obtain⟨y,hy,hp⟩:=key
  unfold bq
  rw[hy]
  cases y with
  |inl r=>exact⟨r,rfl,fun _=>hp.2,fun _=>hp.1⟩
  |inr u=>exact⟨-1,rfl,fun h=>absurd h (by omega),fun h=>by rw[hp] at h;cases h⟩
 ·have hlen:((c.map nv).length:Int)=c.length:=by rw[bw]
  by_cases hi:i<c.length
  ·have Ew:i.toNat<c.length:=by omega
   have kb:(c.map nv)[i.toNat]! =nv c[i.toNat]:=by rw[cO _ _ (by rw[bw];exact Ew),List.getElem_map]
   have hb:a5 (c.map nv) i=cnd (!aW c[i.toNat]) (some (.inr (.inl i))) (some (.inl (i64.wrap (i+(1:Int))))):=by
    unfold a5
    rw[hlen,cE _ _ hi,aM (by omega),kb,MR]
    rfl
   cases hg:aW c[i.toNat] with
   |false=>
    refine .inr ⟨.inl i,by rw[hb,hg];rfl,h1,?_⟩
    rw[List.all_eq_false]
    exact⟨c[i.toNat],rI _,by rw[hg];simp⟩
   |true=>
    refine .inl ⟨i+1,by rw[hb,hg,eu (by omega) (by omega)];rfl,⟨by omega,by omega,fun j hj x hx=>?_⟩,by omega⟩
    rcases hE j i.toNat with h4|h4
    ·exact h3 j h4 x hx
    ·obtain rfl:j=i.toNat:=by omega
     rw[de Ew] at hx
     injection hx with hx
     rw[←hx];exact hg
  ·refine .inr ⟨.inr (),?_,dc.2 fun x hx=>?_⟩
   ·unfold a5
    rw[hlen,co _ _ hi]
   ·obtain⟨j,hj⟩:=zj hx
    exact h3 j (by have:=(fZ.1 hj).1;omega) x hj
theorem w_good(k:Nu)(c:List Nu)(h:c.length≤1000000):ax Tryz.prog 109 [.ag (dC (ay.f k)++[.e (slE ay c)])] (dB (aW k&&c.all aW)):=by
 obtain⟨y,hy,CG⟩:=G_idx h
 have hgood:j6 ⟨k.1,c.map nv⟩=some (aW k&&c.all aW):=by
  unfold j6 dH bi
  dsimp only
  rw[iR k.2,hy]
  show _=some (aW k&&c.all aW)
  have e:(cK k.1).isSome=aW k:=(gL k).symm
  rw[e]
  cases hk:aW k with
  |false=>rfl
  |true=>
   by_cases h0:0≤y
   ·have:=CG.1 h0
    rw[this]
    simp[bnd,cnd,h0]
   ·have:c.all aW=true:=by
     cases hc:c.all aW with
     |true=>rfl
     |false=>exact absurd (CG.2 hc) h0
    rw[this]
    simp[bnd,cnd,h0]
 have hw:=wJ hgood
 have hd:dG sJ ⟨k.1,c.map nv⟩=.ag (dC (ay.f k)++[.e (slE ay c)]):=by
  show D.ag ((ai.f k.1++[slE ai (c.map nv)]).map D.e)=_
  have:slE ai (c.map nv)=slE ay c:=by
   unfold slE
   rw[bw,List.flatMap_map]
   rfl
  rw[this,iU]
  rfl
 rw[hd] at hw
 exact hw
def zm(q:Nu)(xc:List Nu)(but:Int):Nat→List Nu→List Nu
 |0,l=>l
 |t+1,l=>if (t:Int)=but then zm q xc but t l else (zm q xc but t l).set t (n9 (zm q xc but t l)[t]! (oq q xc[t]!))
theorem tp(q:Nu)(xc:List Nu)(but:Int):∀(t:Nat) (l:List Nu),(zm q xc but t l).length=l.length
 |0,l=>rfl
 |t+1,l=>by
  unfold zm
  split
  ·exact tp q xc but t l
  ·rw[eU];exact tp q xc but t l
def Dt(q xk lk:Nu):Nu:=if cU q=0 then lk else n9 lk (oq q xk)
def AD(q:Nu)(xc:List Nu)(but:Int)(lc:List Nu):List Nu:=if cU q=0 then lc else zm q xc but lc.length lc
structure Row where
 k:Nu
 c:List Nu
 b:Int
instance:Inhabited Row:=⟨⟨default,[],0⟩⟩
structure Dic where
 rows:List Row
 gk:Nu
 gc:List Nu
 n:Int
 piv:Int
 most:Int
def iT(k:Nu)(c:List Nu):Bool:=aW k&&c.all aW
def lkO(d:Dic):Option Nat→Nu|none=>d.gk|some j=>d.rows[j]!.k
def lcO(d:Dic):Option Nat→List Nu|none=>d.gc|some j=>d.rows[j]!.c
def Jc(d:Dic)(o:Option Nat)(k:Nu)(c:List Nu):Dic:=match o with
 |none=>⟨d.rows,k,c,d.n,d.piv,d.most⟩
 |some j=>⟨d.rows.set j ⟨k,c,d.rows[j]!.b⟩,d.gk,d.gc,d.n,d.piv,d.most⟩
def Ns(r1:Row)(s:Nat)(d:Dic)(o:Option Nat):Dic:=Jc d o (Dt (lcO d o)[s]! r1.k (lkO d o)) (AD (lcO d o)[s]! r1.c s ((lcO d o).set s (nOf 0)))
def vj(r1:Row)(s:Nat)(p:Dic×Bool)(o:Option Nat):Dic×Bool:=(Ns r1 s p.1 o,p.2&&iT (Dt (lcO p.1 o)[s]! r1.k (lkO p.1 o)) (AD (lcO p.1 o)[s]! r1.c s ((lcO p.1 o).set s (nOf 0))))
theorem zo(q:Nu)(xc:List Nu)(but:Int)(lc:List Nu):(AD q xc but lc).length=lc.length:=by
 unfold AD
 split
 ·rfl
 ·exact tp _ _ _ _ _
def wM(at' i:Nat):List (Option Nat):=none::((List.range i).filter fun j=>decide (j≠at')).map some
theorem NW {at' i:Nat}{o:Option Nat}(h:o∈wM at' i):o≠some at'∧∀j,o=some j→j<i:=by
 rcases kO.1 h with rfl|h
 ·exact⟨fun e=>(by cases e),fun j e=>(by cases e)⟩
 ·obtain⟨j,hj,rfl⟩:=tj.1 h
  obtain⟨h1,h2⟩:=List.mem_filter.1 hj
  exact⟨fun e=>by injection e with e;simp[e] at h2,fun j' e=>by injection e with e;rw[←e];exact sr.1 h1⟩
def pO(r1:Row)(s at' i:Nat)(p:Dic×Bool)(u:Nat):Dic×Bool:=((wM at' i).take u).foldl (vj r1 s) p
def r9(p:Nu):Nat→List Nu→List Nu
 |0,l=>l
 |t+1,l=>(r9 p t l).set t (rR (hJ (r9 p t l)[t]!) p)
theorem zQ(p:Nu):∀(t:Nat) (l:List Nu),(r9 p t l).length=l.length
 |0,_=>rfl
 |t+1,l=>by unfold r9;rw[eU];exact zQ p t l
def ce(r:Row)(s:Nat):Row:=⟨rR (hJ r.k) r.c[s]!,((r9 r.c[s]! r.c.length r.c).set s (nOf 0)).set r.b.toNat (rR (nOf 1) r.c[s]!),s⟩
def ej(d:Dic)(at' s:Nat):Int×Dic:=
 if d.most≤d.piv then (220,d) else
 let r1:=ce d.rows[at']! s
 let p:=pO r1 s at' d.rows.length (⟨d.rows.set at' r1,d.gk,d.gc,d.n,d.piv+1,d.most⟩,iT r1.k r1.c) (wM at' d.rows.length).length
 (if p.2 then 0 else 30,p.1)
def eC(l:List Row)(v:Int):Int:=match l.findIdx? fun r=>decide (r.b=v) with
 |some i=>i
 |none=>-1
theorem Mz {l:List Row}{v:Int}{i:Nat}{r:Row}(hr:l[i]? =some r)(h:r.b=v)(ob:∀(j:Nat) (r':Row),j<i→l[j]? =some r'→r'.b≠v):eC l v=i:=by
 obtain⟨h1,h2⟩:=fZ.1 hr
 have:l.findIdx? (fun r=>decide (r.b=v))=some i:=by
  rw[qk]
  exact⟨h1,by rw[h2];exact aF h,fun j hj=>by have:=ob j l[j] hj (de (by omega));simpa using this⟩
 unfold eC;rw[this]
theorem J0 {l:List Row}{v:Int}(ob:∀(j:Nat) (r':Row),l[j]? =some r'→r'.b≠v):eC l v=-1:=by
 have:l.findIdx? (fun r=>decide (r.b=v))=none:=by
  rw[Aw]
  intro r hr
  obtain⟨j,hj⟩:=zj hr
  exact bf (ob j r hj)
 unfold eC;rw[this]
def fF(d:Dic)(nn:Nat):List Nu:=(d.gc.drop (nn+1)).map hJ
def vr(l:List Row)(s:Nat)(p:Int×Nu)(i:Nat):Option (Int×Nu):=
 let r:=l[i]!
 if 0≤cU r.c[s]! then some p else
 let q:=rR r.k (hJ r.c[s]!)
 if aW q=false then none else
 if p.1<0∨pL q p.2<0∨(pL q p.2=0∧r.b<l[p.1.toNat]!.b) then some ((i:Int),q) else some p
def pP(l:List Row)(s:Nat)(z:Nu):Nat→Option (Int×Nu)
 |0=>some (-1,z)
 |i+1=>match pP l s z i with
  |none=>none
  |some p=>vr l s p i
section
theorem i7(a:Nu):(dC (ay.f a)).length=36:=by rw[eT,ay.h];rfl
section
variable {dr:Bool} {ty:TypeId} {ev:Operand→D} {hp hp':Hp} {k o:Nat} {F F2:List D} {F':List D→List D} {x y:Operand} {a b:Nu}
theorem ldN(L:Pt F o (dC (ay.f a)) F')(hv:hp.vars.lookup k=some F)(hk:k<hp.next)(hx:ev x=.pt k o:=by exact rfl):AVC Tryz.prog tbl dr (.load 43 x) ty ev hp (Kq (dG ay a) hp):=Bj L hv hk aw (i7 a) rfl hx
theorem stN(L:Pt F o (dC (ay.f a)) F')(hv:hp.vars.lookup k=some F)(h2:F' (dC (ay.f b))=F2)(hx:ev x=.pt k o:=by exact rfl)(hy:ev y=dG ay b:=by exact rfl)(he:hp.set k F2=hp':=by exact rfl):AVC Tryz.prog tbl dr (.store 43 x y) ty ev hp (Kq .top hp'):=
 Fm (ys:=dC (ay.f b)) L hv (by rw[hy];rfl) aw (i7 a) (by rw[i7,i7]) h2 hx he
theorem Pt.idN(a:Nu):Pt (dC (ay.f a)) 0 (dC (ay.f a)) id:=Pt.of [] [] rfl (by simp) (fun y=>by simp)
end
section
variable {vs vs2 pb:List (Nat×List D)} {lv:List (Nat×Nat×Nat×TypeId)} {N n2 k:Nat}
theorem cQ.lt(hok:cQ ⟨vs,lv,N⟩){ds:List D}(h:vs.lookup k=some ds):k<N:=(hok.var k ds h).1
theorem cQ.ne(hok:cQ ⟨vs,lv,N⟩){ds:List D}(h:vs.lookup k=some ds){m:Nat}(hm:N≤m):k≠m:=by have:=hok.lt h;omega
theorem al {j m:Nat}{b:List D}{l:List (Nat×List D)}{r:Option (List D)}(hj:j≠m)(h:l.lookup j=r):((m,b)::l).lookup j=r:=(au hj).trans h
theorem Pt.ids {F bs:List D}{o:Nat}{F':List D→List D}(L:Pt F o bs F'){ys:List D}(hl:ys.length=bs.length)(hF:F.all (D.idsC N)=true)(hy:ys.all (D.idsC N)=true):(F' ys).all (D.idsC N)=true:=by
 rw[←L.p ys hl,mi,mi,bp,bp]
 have hF':=dc.1 hF
 exact⟨⟨dc.2 fun d hd=>hF' d (List.mem_of_mem_take hd),hy⟩,dc.2 fun d hd=>hF' d (List.mem_of_mem_drop hd)⟩
theorem eS(l:List E):(dC l).all (D.idsC N)=true:=GI (fun _=>rfl) l
theorem leave {x:Cx}{tm tm':List (Nat×D)}{rs:List ResultVar}{r:D}(h0:x.hp0=⟨vs,lv,N⟩)(hok:cQ ⟨vs,lv,N⟩)(hN:N≤n2)(ht:∀p∈tm',(∃d,tm.lookup p.1=some d∧(p.2=d∨p.2=d.ex))∧p.2.idsB N=true)
  (hv:∀j ds,pb.lookup j=some ds→(vs2.lookup j=some ds∧j<N∧ds.all (D.idsC N)=true)) (hr:sQ tbl rs tm' ⟨pb,lv,N⟩ r):∃tm',Wk x tm ⟨vs2,lv,n2⟩ tm' ⟨pb,lv,N⟩∧sQ tbl rs tm' ⟨pb,lv,N⟩ r:=by
 refine⟨tm',Wk.look (by rw[h0];exact aB _) hN ht (fun j ds h=>?_) (fun id y h=>⟨hok.tok id y h,h⟩),hr⟩
 obtain⟨h1,h2,h3⟩:=hv j ds h
 exact⟨h2,ds,h1,qO _,h3⟩
theorem Of {x:Cx}{tm:List (Nat×D)}{F F2:List D}(h0:x.hp0=⟨vs,lv,N⟩)(hok:cQ ⟨vs,lv,N⟩)(hN:N≤n2)(hk:vs.lookup k=some F)(hF:F2.all (D.idsC N)=true)(OA:vs2.lookup k=some F2)(hv:∀j ds,j≠k→vs.lookup j=some ds→vs2.lookup j=some ds):
  ∃tm',Wk x tm ⟨vs2,lv,n2⟩ tm' ⟨(k,F2)::vs,lv,N⟩∧sQ tbl [] tm' ⟨(k,F2)::vs,lv,N⟩ (.tu []):=by
 refine leave (tm':=[]) h0 hok hN (fun p hp=>absurd hp (qj)) (fun j ds h=>?_) rfl
 by_cases hj:j=k
 ·subst hj
  have:some F2=some ds:=by rw[←h];exact ab.symm
  injection this with this
  subst this
  exact⟨OA,hok.lt hk,hF⟩
 ·have h1:vs.lookup j=some ds:=by rw[←h];exact (au hj).symm
  exact⟨hv j ds hj h1,hok.lt h1,(hok.var j ds h1).2⟩
theorem h_sum {o kq:Nat}{F:List D}{F':List D→List D}{q a y:Nu}(hk:vs.lookup k=some F)(hN:k<N)(L:Pt F o (dC (ay.f a)) F')(hq:vs.lookup kq=some (dC (ay.f q)))(hqN:kq<N):
  HC Tryz.prog 156 [.pt k o,dG ay y,.pt kq 0] ⟨vs,lv,N⟩ (.tu []) ⟨(k,F' (dC (ay.f (n9 a (oq q y)))))::vs,lv,N⟩:=by
 refine HC.of (rs:=[]) tok Tryz.func156 rfl rfl (dK rfl) rfl (fun cx hx h0 hok=>?_)
 simp only[fS,Nat.reduceAdd,bJ]
 refine rs hx fun K hK=>?_
 refine sa ?_
 refine .nil (hK _ _ ?_)
 have xR:=hok.ne hk (aB N)
 have hqn:=hok.ne hq (aB N)
 refine rqd [29,66] hx fun K hK=>?_
 iterate 3 refine sa ?_
 refine s1 (ldN L (al xR hk) (xv hN)) ?_
 refine s1 (ldN (Pt.idN q) (al hqn hq) (xv hqN)) ?_
 refine s1 (ldN (Pt.idN y) ab (e9 _)) ?_
 refine cq (w_Mul q y) ?_
 refine cq (w_Add a _) ?_
 refine sa ?_
 refine s0 (stN L (al xR hk) rfl) ?_
 exact .nil (hK _ _ (Of h0 hok (jP _) hk (L.ids (by rw[i7,i7]) (hok.var k F hk).2 (eS _)) ab fun j ds hj h=>al hj (al (hok.ne h (aB N)) h)))
theorem Pn {o kp:Nat}{F:List D}{F':List D→List D}{p a:Nu}(hk:vs.lookup k=some F)(hN:k<N)(L:Pt F o (dC (ay.f a)) F')(hq:vs.lookup kp=some (dC (ay.f p)))(hqN:kp<N):
  HC Tryz.prog 152 [.pt k o,.pt kp 0] ⟨vs,lv,N⟩ (.tu []) ⟨(k,F' (dC (ay.f (rR (hJ a) p))))::vs,lv,N⟩:=by
 refine HC.of (rs:=[]) tok Tryz.func152 rfl rfl (dK rfl) rfl (fun cx hx h0 hok=>?_)
 simp only[fS,Nat.reduceAdd,bJ]
 refine rqd [42,153] hx fun K hK=>?_
 iterate 3 refine sa ?_
 refine s1 (ldN L hk hN) ?_
 refine cq (Hn a) ?_
 refine s1 (ldN (Pt.idN p) hq hqN) ?_
 refine cq (Nj _ p) ?_
 refine sa ?_
 refine s0 (stN L hk rfl) ?_
 exact .nil (hK _ _ (Of h0 hok (aB _) hk (L.ids (by rw[i7,i7]) (hok.var k F hk).2 (eS _)) ab fun j ds hj h=>al hj h))
theorem cQ.cons {M:Nat}{ds:List D}(hok:cQ ⟨vs,lv,N⟩)(hN:N≤M)(hk:k<M)(hd:ds.all (D.idsC M)=true):cQ ⟨(k,ds)::vs,lv,M⟩:=by
 refine⟨fun j es h=>?_,fun id e h=>eD (hok.tok id e h) hN⟩
 by_cases hj:j=k
 ·subst hj
  have:some ds=some es:=by rw[←h];exact ab.symm
  injection this with this
  subst this
  exact⟨hk,hd⟩
 ·obtain⟨h1,h2⟩:=hok.var j es (by rw[←h];exact (au hj).symm)
  exact⟨eD h1 hN,dc.2 fun d hd=>D.idsC_le hN (dc.1 h2 d hd)⟩
def bU(n:Nat)(tm tm':List (Nat×D)):Prop:=∀p∈tm',(∃d,tm.lookup p.1=some d∧(p.2=d∨p.2=d.ex))∧p.2.idsB n=true
theorem bU.nil {n:Nat}{tm:List (Nat×D)}:bU n tm []:=fun p hp=>absurd hp (qj)
theorem bU.cons {n t:Nat}{d:D}{tm tm':List (Nat×D)}(h2:bU n tm tm')(h:tm.lookup t=some d:=by exact rfl)(hi:d.idsB n=true:=by exact rfl):bU n tm ((t,d)::tm'):=fun p hp=>by
 rcases kO.1 hp with rfl|hp
 ·exact⟨⟨d,h,.inl rfl⟩,hi⟩
 ·exact h2 p hp
theorem wkS {x:Cx}{tm tm':List (Nat×D)}{n':Nat}(h0:x.hp0.next≤n')(hn:n'≤n2)(hok:cQ ⟨pb,lv,n'⟩)(hv:∀j ds,pb.lookup j=some ds→vs2.lookup j=some ds)(ht:bU n' tm tm'):Wk x tm ⟨vs2,lv,n2⟩ tm' ⟨pb,lv,n'⟩:=
 Wk.look h0 hn ht (fun j ds h=>⟨(hok.var j ds h).1,ds,hv j ds h,qO _,(hok.var j ds h).2⟩) fun id y h=>⟨hok.tok id y h,h⟩
theorem vq {j:Nat}{a b:List D}{l:List (Nat×List D)}:((k,b)::(k,a)::l).lookup j=((k,b)::l).lookup j:=by
 by_cases hj:j=k
 ·subst hj;rw[ab,ab]
 ·rw[au hj,au hj,au hj]
theorem cD {j a:Nat}{x ds:List D}{l:List (Nat×List D)}(h:((a,x)::l).lookup j=some ds):(j=a∧ds=x)∨(j≠a∧l.lookup j=some ds):=by
 by_cases hj:j=a
 ·subst hj
  have:some x=some ds:=by rw[←h];exact ab.symm
  injection this with this
  exact .inl ⟨rfl,this.symm⟩
 ·exact .inr ⟨hj,by rw[←h];exact (au hj).symm⟩
theorem Od {x:Cx}{tm:List (Nat×D)}(h0:x.hp0=⟨vs,lv,N⟩)(hN:N≤n2)(hok:cQ ⟨pb,lv,N⟩)(hv:∀j ds,pb.lookup j=some ds→vs2.lookup j=some ds):∃tm',Wk x tm ⟨vs2,lv,n2⟩ tm' ⟨pb,lv,N⟩∧sQ tbl [] tm' ⟨pb,lv,N⟩ (.tu []):=
 ⟨[],wkS (by rw[h0];exact aB _) hN hok hv bU.nil,rfl⟩
def bu(a:Nu)(kc n:Nat):List D:=dC (ay.f a)++[.ow kc 0 36 n]
theorem cl(a:Nu)(kc n:Nat):(bu a kc n).length=37:=by unfold bu;rw[c8,i7];rfl
theorem ja {M:Nat}{a:Nu}{kc n:Nat}(h:kc<M):(bu a kc n).all (D.idsC M)=true:=by
 unfold bu;rw[mi,eS];simp[D.idsC,h]
structure o5(F:List D)(o:Nat)(a:Nu)(kc n:Nat)(A C:List D):Prop where
 len:A.length=o
 eq:F=A++bu a kc n++C
section
variable {F A C:List D} {o kc n:Nat} {a:Nu}
theorem o5.pk(h:o5 F o a kc n A C):Pt F o (dC (ay.f a)) (fun ys=>A++(ys++[.ow kc 0 36 n])++C):=
 Pt.of A ([.ow kc 0 36 n]++C) h.len (by rw[h.eq];unfold bu;simp only[dU]) fun y=>by simp only[dU]
theorem o5.pc(h:o5 F o a kc n A C):Pt F (o+36) [.ow kc 0 36 n] (fun ys=>A++(dC (ay.f a)++ys)++C):=
 Pt.of (A++dC (ay.f a)) C (by rw[c8,h.len,i7]) (by rw[h.eq];unfold bu;simp only[dU]) fun y=>by simp only[dU]
theorem o5.pa(h:o5 F o a kc n A C):Pt F o (bu a kc n) (fun ys=>A++ys++C):=Pt.of A C h.len h.eq fun y=>rfl
theorem o5.self(a:Nu)(kc n:Nat):o5 (bu a kc n) 0 a kc n [] []:=⟨rfl,by simp⟩
theorem o5.new(h:o5 F o a kc n A C)(b:Nu):o5 (A++bu b kc n++C) o b kc n A C:=⟨h.len,rfl⟩
end
theorem Pt.elN(l:List Nu)(i:Nat)(h:i<l.length):Pt (dC ((cW ay).f l)) (0+i*36) (dC (ay.f l[i]!)) (fun ys=>(dC ((cW ay).f l)).take (0+i*36)++ys++(dC ((cW ay).f l)).drop (0+i*36+36)):=by
 have L:=ak.seqW ay l i h
 have e:ay.sz=36:=rfl
 rw[e] at L
 refine⟨?_,?_,fun ys hy=>by rw[i7]⟩
 ·have:=L.le
  rw[i7,eT];exact this
 ·have:=L.g
  rw[i7]
  unfold dC
  rw[←Bc,←ze]
  exact congrArg _ this
theorem Pt.elN_set(l:List Nu)(i:Nat)(h:i<l.length)(b:Nu):(dC ((cW ay).f l)).take (0+i*36)++dC (ay.f b)++(dC ((cW ay).f l)).drop (0+i*36+36)=dC ((cW ay).f (l.set i b)):=by
 have L:=ak.seqW ay l i h
 have e:ay.sz=36:=rfl
 rw[e] at L
 have:=L.p b
 rw[e] at this
 unfold dC
 rw[←ze,←Bc,←iU,←iU]
 exact congrArg _ this
end
end
section
theorem cm {t:Nat}(h:t<9223372036854775807):i64.wrap ((t:Int)+1)=((t+1:Nat):Int):=by
 rw[eu (by omega) (by omega)];omega
section
variable {vs:List (Nat×List D)} {lv:List (Nat×Nat×Nat×TypeId)} {N kl ol kc kx n:Nat} {F A C:List D} {lk xk q:Nu} {lc xc:List Nu} {but:Int}
theorem h_add(hl:vs.lookup kl=some F)(L:o5 F ol lk kc n A C)(hc:vs.lookup kc=some (dC ((cW ay).f lc)))(hlc:lc.length=n)(wq:vs.lookup kx=some (dC ((cW ay).f xc)))(hxc:xc.length=n)(h1:kl≠kc)(h2:kx≠kc)(h3:kx≠kl)(hn:n≤1000000):
  HC Tryz.prog 108 [.pt kl ol,dG ay q,.ag (bu xk kx n),dI .i64 but] ⟨vs,lv,N⟩ (.tu []) ⟨(kc,dC ((cW ay).f (AD q xc but lc)))::(kl,A++bu (Dt q xk lk) kc n++C)::vs,lv,N⟩:=by
 refine HC.of (rs:=[]) tok Tryz.func108 rfl rfl (dK rfl) rfl (fun cx hx h0 hok=>?_)
 simp only[fS,Nat.reduceAdd,bJ]
 refine rs hx fun K hK=>?_
 refine sa ?_
 refine s1 (fB (cs:=bu xk kx n)) ?_
 refine .nil (hK _ _ ?_)
 have hlN:=hok.lt hl
 have hcN:=hok.lt hc
 have hxN:=hok.lt wq
 have hFi:(A++bu lk kc n++C).all (D.idsC N)=true:=by rw[←L.eq];exact (hok.var kl F hl).2
 have Bs:∀(lk':Nu) (lc':List Nu) (M:Nat),N≤M→cQ ⟨(kc,dC ((cW ay).f lc'))::(kl,A++bu lk' kc n++C)::vs,lv,M⟩:=fun lk' lc' M hM=>by
  refine (cQ.cons (N:=M) (hok.cons hM (eD hlN hM) ?_) (aB _) (eD hcN hM) (eS _))
  rw[mi,mi,bp,bp] at hFi ⊢
  exact⟨⟨dc.2 fun d hd=>D.idsC_le hM (dc.1 hFi.1.1 d hd),ja (eD hcN hM)⟩,dc.2 fun d hd=>D.idsC_le hM (dc.1 hFi.2 d hd)⟩
 have hFi2:=Bs
 have tG:kc≠kl:=fun e=>h1 e.symm
 refine AW.seq (rs hx fun K hK=>?_)
 refine s1 (ldN (Pt.idN q) (al (by omega) ab) (show N<N+1+1 by omega)) ?_
 refine cq (xD q) ?_
 refine sa ?_
 refine .nil (hK _ _ (AW.condS rfl (fun hb=>?_) (fun hb=>?_)))
 ·have hq:cU q=0:=da hb
  refine AW.ret (Od h0 (by omega) (Bs _ _ N (aB _)) fun j ds h=>?_)
  unfold AD Dt at h
  rw[if_pos hq,if_pos hq] at h
  have hj:=(Bs lk lc N (aB _)).lt h
  refine al (show j≠N+1 by omega) (al (show j≠N by omega) ?_)
  rcases cD h with⟨rfl,rfl⟩|⟨_,h⟩
  ·exact hc
  rcases cD h with⟨rfl,rfl⟩|⟨_,h⟩
  ·rw[←L.eq];exact hl
  ·exact h
 have hq:¬cU q=0:=d8 hb
 refine AW.skip (rs hx fun K hK=>?_)
 refine s1 (DC (ks:=[N])) ?_
 refine sa ?_
 refine .nil (hK _ _ (rsd [] hx fun K hK=>?_))
 iterate 5 refine sa ?_
 refine s1 (ldN (o5.self xk kx n).pk ab (show N+1<N+1+1 by omega)) ?_
 refine q1 (sHF (h_sum (vs:=(N+1,bu xk kx n)::(N,dC (ay.f q))::vs) (N:=N+1+1) (al (show kl≠N+1 by omega) (al (show kl≠N by omega) hl)) (show kl<N+1+1 by omega) L.pk (al (show N≠N+1 by omega) ab) (show N<N+1+1 by omega)) rfl) ?_
 refine .nil (hK _ _ (rs hx fun K hK=>?_))
 iterate 3 refine sa ?_
 refine s1 (kI (L.new (n9 lk (oq q xk))).pc ab (show kl<N+1+1 by omega) tbI) ?_
 iterate 2 refine sa ?_
 refine .nil (hK _ _ ?_)
 have Gm:∀t,cQ ⟨(kc,dC ((cW ay).f (zm q xc but t lc)))::(kl,A++bu (n9 lk (oq q xk)) kc n++C)::(N+1,bu xk kx n)::(N,dC (ay.f q))::vs,lv,N+1+1⟩:=fun t=>by
  have JF:cQ ⟨(N+1,bu xk kx n)::(N,dC (ay.f q))::vs,lv,N+1+1⟩:=(cQ.cons (N:=N+1) (hok.cons (jP N) (e9 N) (eS _)) (jP _) (e9 _) (ja (by omega)))
  refine cQ.cons (N:=N+1+1) (JF.cons (aB _) (show kl<N+1+1 by omega) ?_) (aB _) (show kc<N+1+1 by omega) (eS _)
  exact ((Bs (n9 lk (oq q xk)) lc (N+1+1) (by omega)).var kl _ (al h1 ab)).2
 have hTm:∀(t:Nat) (tm:List (Nat×D)),tm.lookup 0=some (.pt kl ol)→tm.lookup 3=some (dI .i64 but)→tm.lookup 6=some (.pt (N+1) 0)→tm.lookup 8=some (.fn 156 [N])→tm.lookup 25=some (dI .i64 n)→tm.lookup 26=some (dI .i64 t)→bU (N+1+1) tm [(0,.pt kl ol),(3,dI .i64 but),(6,.pt (N+1) 0),(8,.fn 156 [N]),(25,dI .i64 n),(26,dI .i64 t)]:=fun t tm a b c d e f=>
  ((((((bU.nil.cons f).cons e).cons d (dc.2 fun k hk=>aF (by rw[qi.1 hk];omega))).cons c (aF (show N+1<N+1+1 by omega))).cons b).cons a (aF (show kl<N+1+1 by omega)))
 refine AW.block ?_
 refine AW.loopW (fun t:Nat=>[(0,.pt kl ol),(3,dI .i64 but),(6,.pt (N+1) 0),(8,.fn 156 [N]),(25,dI .i64 n),(26,dI .i64 t)])
  (fun t=>⟨(kc,dC ((cW ay).f (zm q xc but t lc)))::(kl,A++bu (n9 lk (oq q xk)) kc n++C)::(N+1,bu xk kx n)::(N,dC (ay.f q))::vs,lv,N+1+1⟩) (fun t=>t≤n) (fun t=>n - t) 0 ?_ (cX _) ?_
 ·refine wkS (by rw[h0];show N≤N+1+1;omega) (aB _) (Gm 0) (fun j ds h=>?_) (hTm 0 _ rfl rfl rfl rfl rfl rfl)
  rcases cD h with⟨rfl,rfl⟩|⟨_,h⟩
  ·exact al tG (al (show j≠N+1 by omega) (al (show j≠N by omega) hc))
  ·exact h
 ·intro t ht
  have O5:(zm q xc but t lc).length=n:=by rw[tp,hlc]
  refine rs hx fun K hK=>?_
  refine sa ?_
  refine .nil (hK _ _ (AW.seq (AW.condS rfl (fun hb=>?_) (fun hb=>?_))))
  rotate_left
  ·refine AW.exit ?_
   have htn:t=n:=by have:=d8 hb;omega
   refine Od h0 (by omega) (Bs _ _ N (aB _)) fun j ds h=>?_
   have hj:=(Bs _ _ N (aB _)).lt h
   unfold AD Dt at h
   rw[if_neg hq,if_neg hq,hlc] at h
   rw[htn]
   rcases cD h with⟨rfl,rfl⟩|⟨M1,h⟩
   ·exact ab
   rcases cD h with⟨rfl,rfl⟩|⟨D1,h⟩
   ·exact al h1 ab
   ·exact al M1 (al D1 (al (show j≠N+1 by omega) (al (show j≠N by omega) h)))
  have htn:t<n:=by have:=da hb;omega
  refine AW.skip (AW.seq (AW.block (rs hx fun K hK=>?_)))
  iterate 2 refine sa ?_
  refine .nil (hK _ _ (rs hx fun K hK=>?_))
  iterate 3 refine sa ?_
  refine .nil (hK _ _ (AW.condS rfl (fun hb=>?_) (fun hb=>?_)))
  ·have hbt:¬(t:Int)=but:=da hb
   refine rqd [] hx fun K hK=>?_
   iterate 4 refine sa ?_
   refine s1 (kI (L.new (n9 lk (oq q xk))).pc (al h1 ab) (show kl<N+1+1 by omega) tbI) ?_
   refine sa ?_
   refine s1 (v7 (v:=(t:Int)) (n:=n) ⟨by omega,by omega⟩ tbI aw) ?_
   refine sa ?_
   refine s1 (kI (o5.self xk kx n).pc (al (show N+1≠kc by omega) (al (show N+1≠kl by omega) ab)) (show N+1<N+1+1 by omega) tbI) ?_
   refine sa ?_
   refine s1 (v7 (v:=(t:Int)) (n:=n) ⟨by omega,by omega⟩ tbI aw) ?_
   refine s1 (ldN (Pt.elN xc t (by omega)) (al h2 (al h3 (al (show kx≠N+1 by omega) (al (show kx≠N by omega) wq)))) (show kx<N+1+1 by omega)) ?_
   refine q1 (sHF (h_sum ab (show kc<N+1+1 by omega) (Pt.elN (zm q xc but t lc) t (by omega)) (al (show N≠kc by omega) (al (show N≠kl by omega) (al (show N≠N+1 by omega) ab))) (show N<N+1+1 by omega)) rfl) ?_
   refine .nil (hK _ _ (rq hx fun K hK=>?_))
   iterate 2 refine sa ?_
   refine .nil (hK _ _ ?_)
   rw[cm (by omega)]
   refine⟨t+1,wkS (by rw[h0];show N≤N+1+1;omega) (aB _) (Gm (t+1)) (fun j ds h=>?_) (hTm (t+1) _ rfl rfl rfl rfl rfl rfl),htn,by omega⟩
   rw[Pt.elN_set _ _ (by omega),vq]
   unfold zm at h
   rw[if_neg hbt] at h
   exact h
  ·have hbt:(t:Int)=but:=by have:=d8 hb;simpa using this
   refine AW.skip (rq hx fun K hK=>?_)
   iterate 2 refine sa ?_
   refine .nil (hK _ _ ?_)
   rw[cm (by omega)]
   refine⟨t+1,wkS (by rw[h0];show N≤N+1+1;omega) (aB _) (Gm (t+1)) (fun j ds h=>?_) (hTm (t+1) _ rfl rfl rfl rfl rfl rfl),htn,by omega⟩
   unfold zm at h
   rw[if_pos hbt] at h
   exact h
end
end
section
def zN:List E:=(List.replicate 2 (E.lit (.bool false))++List.replicate 16 (E.lit (.int .u32 0)))++(List.replicate 2 (E.lit (.bool false))++List.replicate 16 (E.lit (.int .u32 0)))
theorem IM {dr:Bool}{ty:TypeId}{ev:Operand→D}{vs:List (Nat×List D)}{lv:List (Nat×Nat×Nat×TypeId)}{N:Nat}:AVC Tryz.prog tbl dr (.alloc 43) ty ev ⟨vs,lv,N⟩ (Kq (.pt N 0) ⟨(N,dC zN)::vs,lv,N+1⟩):=be aw
theorem Pt.zN:Pt (dC zN) 0 (dC zN) id:=Pt.of [] [] rfl (by simp) (fun y=>by simp)
theorem stZ {dr:Bool}{ty:TypeId}{ev:Operand→D}{hp hp':Hp}{k:Nat}{x y:Operand}{b:Nu}(hv:hp.vars.lookup k=some (dC zN))(hx:ev x=.pt k 0:=by exact rfl)(hy:ev y=dG ay b:=by exact rfl)(he:hp.set k (dC (ay.f b))=hp':=by exact rfl):AVC Tryz.prog tbl dr (.store 43 x y) ty ev hp (Kq .top hp'):=
 Fm (ys:=dC (ay.f b)) Pt.zN hv (by rw[hy];rfl) aw rfl (by rw[i7];rfl) rfl hx he
theorem iaN {dr:Bool}{ty:TypeId}{ev:Operand→D}{hp:Hp}{k i n:Nat}{kn:IntKind}{x y:Operand}(h:i<n)(hx:ev x=.ow k 0 36 n:=by exact rfl)(hy:ev y=dI kn (i:Int):=by exact rfl):AVC Tryz.prog tbl dr (.indexAddr 22 x y) ty ev hp (Kq (.pt k (i*36)) hp):=by
 have:=v7 (P:=Tryz.prog) (tb:=tbl) (dr:=dr) (ty:=ty) (ev:=ev) (hp:=hp) (x:=x) (y:=y) (v:=(i:Int)) (n:=n) (kn:=kn) ⟨by omega,by omega⟩ aH aw rfl hx rfl hy
 rwa[ct,bJ] at this
theorem iaR {dr:Bool}{ty:TypeId}{ev:Operand→D}{hp:Hp}{k i n:Nat}{kn:IntKind}{x y:Operand}(h:i<n)(hx:ev x=.ow k 0 38 n:=by exact rfl)(hy:ev y=dI kn (i:Int):=by exact rfl):AVC Tryz.prog tbl dr (.indexAddr 71 x y) ty ev hp (Kq (.pt k (i*38)) hp):=by
 have:=v7 (P:=Tryz.prog) (tb:=tbl) (dr:=dr) (ty:=ty) (ev:=ev) (hp:=hp) (x:=x) (y:=y) (v:=(i:Int)) (n:=n) (kn:=kn) ⟨by omega,by omega⟩ AN sT rfl hx rfl hy
 rwa[ct,bJ] at this
theorem Pt.el(l:List Nu)(i:Nat)(h:i<l.length):Pt (dC ((cW ay).f l)) (i*36) (dC (ay.f l[i]!)) (fun ys=>(dC ((cW ay).f l)).take (i*36)++ys++(dC ((cW ay).f l)).drop (i*36+36)):=by
 have:=Pt.elN l i h
 rwa[bJ] at this
theorem Pt.el_set(l:List Nu)(i:Nat)(h:i<l.length)(b:Nu):(dC ((cW ay).f l)).take (i*36)++dC (ay.f b)++(dC ((cW ay).f l)).drop (i*36+36)=dC ((cW ay).f (l.set i b)):=by
 have:=Pt.elN_set l i h b
 rwa[bJ] at this
theorem sj {x:Cx}{c1 c2:Code}{tm:List (Nat×D)}{hp:Hp}{Q:Exit→List (Nat×D)→Hp→Prop}(T:List (Nat×D))(H:Hp)(h1:AW Tryz.prog x c1 tm hp fun ex tm' hp'=>ex=.normal∧Wk x tm' hp' T H)(h2:AW Tryz.prog x c2 T H Q):AW Tryz.prog x (.seq c1 c2) tm hp Q:=by
 refine AW.seq (AW.mono h1 ?_)
 rintro ex tm' hp' ⟨rfl,hw⟩
 exact AW.weak hw h2
def iY(C:Nat→Nat)(w i:Nat)(r:Row):List D:=bu r.k (C i) w++[dI .i64 r.b]
theorem sV(C:Nat→Nat)(w i:Nat)(r:Row):(iY C w i r).length=38:=by unfold iY;rw[c8,cl];rfl
def gl(C:Nat→Nat)(w:Nat):Nat→List Row→List D
 |_,[]=>[]
 |i,r::l=>iY C w i r++gl C w (i+1) l
theorem zX(C:Nat→Nat)(w:Nat):∀(i:Nat) (l:List Row),(gl C w i l).length=l.length*38
 |_,[]=>rfl
 |i,r::l=>by
  unfold gl
  rw[c8,sV,zX C w (i+1) l,rD,cz]
  omega
theorem zY(C:Nat→Nat)(w:Nat):∀(i:Nat) (l l2:List Row),gl C w i (l++l2)=gl C w i l++gl C w (i+l.length) l2
 |i,[],l2=>by simp[gl]
 |i,r::l,l2=>by
  show iY C w i r++gl C w (i+1) (l++l2)=(iY C w i r++gl C w (i+1) l)++gl C w (i+(l.length+1)) l2
  rw[zY C w (i+1) l l2,dU,show i+1+l.length=i+(l.length+1) by omega]
theorem NE(C:Nat→Nat)(w:Nat)(l:List Row)(j:Nat)(h:j<l.length):∃A B:List D,A.length=j*38∧∀r:Row,gl C w 0 (l.set j r)=A++iY C w j r++B:=by
 refine⟨gl C w 0 (l.take j),gl C w (j+1) (l.drop (j+1)),?_,fun r=>?_⟩
 ·rw[zX,eH,su (by omega)]
 ·rw[List.set_eq_take_append_cons_drop,if_pos h,zY,eH,su (by omega),bJ]
  show _++(iY C w j r++_)=_
  rw[dU]
theorem NB {l:List Row}{j:Nat}{r:Row}(h:l[j]? =some r):l.set j r=l:=by
 obtain⟨h1,h2⟩:=fZ.1 h
 rw[←h2,List.set_getElem_self]
theorem mQ(C:Nat→Nat)(w:Nat)(l:List Row)(j:Nat){r:Row}(h:l[j]? =some r):∃A B:List D,A.length=j*38∧(∀r:Row,gl C w 0 (l.set j r)=A++iY C w j r++B)∧gl C w 0 l=A++iY C w j r++B∧o5 (gl C w 0 l) (j*38) r.k (C j) w A ([dI .i64 r.b]++B)∧Pt (gl C w 0 l) (j*38+37) [dI .i64 r.b] (fun ys=>A++(bu r.k (C j) w++ys)++B):=by
 obtain⟨A,B,h1,h2⟩:=NE C w l j (fZ.1 h).1
 have h3:=h2 r
 rw[NB h] at h3
 refine⟨A,B,h1,h2,h3,⟨h1,?_⟩,Pt.of (A++bu r.k (C j) w) B (by rw[c8,h1,cl]) ?_ fun y=>by simp only[dU]⟩
 ·rw[h3];unfold iY;simp only[dU]
 ·rw[h3];unfold iY;simp only[dU]
theorem wj {C:Nat→Nat}{w M:Nat}:∀(i:Nat) (l:List Row),(∀j,j<l.length→C (i+j)<M)→(gl C w i l).all (D.idsC M)=true
 |_,[],_=>rfl
 |i,r::l,h=>by
  unfold gl iY
  rw[mi,mi,ja (by have:=h 0 (by simp);simpa using this),wj (i+1) l (fun j hj=>by have:=h (j+1) (by simpa using hj);rwa[show i+(j+1)=i+1+j by omega] at this)]
  rfl
def fy(R:Nat)(l:List Row):D:=match l with
 |[]=>.e (.lit (.slice none 0 0))
 |_=>.gw R 38 l.length
theorem pJ {R:Nat}{l:List Row}(h:l≠[]):fy R l=.gw R 38 l.length:=by cases l with|nil=>exact absurd rfl h|cons r l=>rfl
def ni(R G w:Nat)(d:Dic):List D:=[fy R d.rows]++bu d.gk G w++[dI .i64 d.n,dI .i64 d.piv,dI .i64 d.most]
structure DAt(vs:List (Nat×List D))(kd R G:Nat)(C:Nat→Nat)(w:Nat)(d:Dic):Prop where
 hd:vs.lookup kd=some (ni R G w d)
 hR:d.rows≠[]→vs.lookup R=some (gl C w 0 d.rows)
 hG:vs.lookup G=some (dC ((cW ay).f d.gc))
 hC:∀(i:Nat) (r:Row),d.rows[i]? =some r→vs.lookup (C i)=some (dC ((cW ay).f r.c))
 lG:d.gc.length=w
 lC:∀(i:Nat) (r:Row),d.rows[i]? =some r→r.c.length=w
structure Dif(m kd R G:Nat)(C:Nat→Nat):Prop where
 dR:kd≠R
 dG:kd≠G
 RG:R≠G
 C1:∀i,i<m→C i≠kd∧C i≠R∧C i≠G
 C2:∀i j,i<m→j<m→C i=C j→i=j
def cOv(C:Nat→Nat):Nat→List Row→List (Nat×List D)
 |_,[]=>[]
 |i,r::l=>(C i,dC ((cW ay).f r.c))::cOv C (i+1) l
def rOv(R:Nat)(C:Nat→Nat)(w:Nat)(l:List Row):List (Nat×List D):=match l with
 |[]=>[]
 |_=>[(R,gl C w 0 l)]
def ov(kd R G:Nat)(C:Nat→Nat)(w:Nat)(d:Dic)(vs:List (Nat×List D)):List (Nat×List D):=(kd,ni R G w d)::(G,dC ((cW ay).f d.gc))::(rOv R C w d.rows++(cOv C 0 d.rows++vs))
theorem Qc {C:Nat→Nat}{j:Nat}{r:Row}{vs:List (Nat×List D)}{m:Nat}(hC:∀i j,i<m→j<m→C i=C j→i=j):∀(i:Nat) (l:List Row),i+l.length≤m→l[j]? =some r→(cOv C i l++vs).lookup (C (i+j))=some (dC ((cW ay).f r.c))
 |_,[],_,h=>by simp at h
 |i,s::l,hm,h=>by
  unfold cOv
  rw[List.cons_append]
  cases j with
  |zero=>
   simp at h
   subst h
   exact ab
  |succ j=>
   have b8:=(fZ.1 h).1
   simp only[rD] at hm b8
   refine al (fun e=>?_) ?_
   ·have:=hC _ _ (by omega) (by omega) e;omega
   ·rw[show i+(j+1)=i+1+j by omega]
    exact Qc hC (i+1) l (by omega) (by simpa using h)
theorem K9 {C:Nat→Nat}{k:Nat}{vs:List (Nat×List D)}:∀(i:Nat) (l:List Row),(∀j,j<l.length→k≠C (i+j))→(cOv C i l++vs).lookup k=vs.lookup k
 |_,[],_=>rfl
 |i,s::l,h=>by
  unfold cOv
  rw[List.cons_append]
  exact al (h 0 (by simp)) (K9 (i+1) l fun j hj=>by have:=h (j+1) (by simpa using hj);rwa[show i+(j+1)=i+1+j by omega] at this)
theorem NJ {R:Nat}{C:Nat→Nat}{w:Nat}{l:List Row}{k:Nat}{vs:List (Nat×List D)}(h:k≠R):(rOv R C w l++vs).lookup k=vs.lookup k:=by
 cases l with
 |nil=>rfl
 |cons r l=>exact au h
section
variable {kd R G w:Nat} {C:Nat→Nat} {d d':Dic} {vs vs2:List (Nat×List D)}
theorem DAt.ov(hf:Dif d.rows.length kd R G C)(lG:d.gc.length=w)(lC:∀(i:Nat) (r:Row),d.rows[i]? =some r→r.c.length=w):DAt (ov kd R G C w d vs) kd R G C w d:=by
 refine⟨ab,fun gt=>?_,al hf.dG.symm ab,fun i r h=>?_,lG,lC⟩
 ·refine al hf.dR.symm (al hf.RG ?_)
  cases hl:d.rows with
  |nil=>exact absurd hl gt
  |cons r l=>exact ab
 ·have hi:=(fZ.1 h).1
  obtain⟨h1,h2,h3⟩:=hf.C1 i hi
  refine al h1 (al h3 ?_)
  rw[NJ h2]
  have:=Qc (vs:=vs) hf.C2 0 d.rows (by omega) h
  rwa[bJ] at this
theorem FR {k:Nat}(h1:k≠kd)(h2:k≠R)(h3:k≠G)(h4:∀j,j<d.rows.length→k≠C j):(ov kd R G C w d vs).lookup k=vs.lookup k:=by
 refine al h1 (al h3 ?_)
 rw[NJ h2]
 exact K9 0 _ fun j hj=>by rw[bJ];exact h4 j hj
theorem Cq(hf:Dif d.rows.length kd R G C)(h:DAt vs2 kd R G C w d)(hr:∀k ds,k≠kd→k≠R→k≠G→(∀j,j<d.rows.length→k≠C j)→vs.lookup k=some ds→vs2.lookup k=some ds)(hnil:d.rows=[]→∀ds,vs.lookup R=some ds→vs2.lookup R=some ds):
  ∀k ds,(ov kd R G C w d vs).lookup k=some ds→vs2.lookup k=some ds:=by
 intro k ds hk
 have h0:=DAt.ov (vs:=vs) hf h.lG h.lC
 by_cases h1:k=kd
 ·subst h1;rw[h0.hd] at hk;rw[h.hd];exact hk
 by_cases h2:k=R
 ·subst h2
  by_cases gt:d.rows=[]
  ·refine hnil gt ds ?_
   rw[←hk]
   refine Eq.symm (al h1 (al hf.RG ?_))
   rw[gt];rfl
  ·rw[h0.hR gt] at hk;rw[h.hR gt];exact hk
 by_cases h3:k=G
 ·subst h3;rw[h0.hG] at hk;rw[h.hG];exact hk
 by_cases h4:∀j,j<d.rows.length→k≠C j
 ·rw[FR h1 h2 h3 h4] at hk
  exact hr k ds h1 h2 h3 h4 hk
 ·obtain⟨j,hj⟩:=Classical.not_forall.1 h4
  obtain⟨M1,D1⟩:=Classical.not_imp.1 hj
  have D1:=Classical.not_not.1 D1
  subst D1
  have hr:=de M1
  rw[h0.hC j _ hr] at hk;rw[h.hC j _ hr];exact hk
theorem rt {M:Nat}(hR:R<M)(hG:G<M):(ni R G w d).all (D.idsC M)=true:=by
 unfold ni
 rw[mi,mi,ja hG]
 cases d.rows <;> simp[fy,D.idsC,hR]
theorem AQ {lv:List (Nat×Nat×Nat×TypeId)}{N:Nat}(hok:cQ ⟨vs,lv,N⟩)(hd:kd<N)(hR:R<N)(hG:G<N)(hC:∀j,j<d.rows.length→C j<N):cQ ⟨ov kd R G C w d vs,lv,N⟩:=by
 have h1:∀(i:Nat) (l:List Row),(∀j,j<l.length→C (i+j)<N)→cQ ⟨cOv C i l++vs,lv,N⟩:=by
  intro i l
  induction l generalizing i with
  |nil=>intro _;exact hok
  |cons r l ih=>
   intro h
   exact (ih (i+1) fun j hj=>by have:=h (j+1) (by simpa using hj);rwa[show i+(j+1)=i+1+j by omega] at this).cons (aB _) (h 0 (by simp)) (eS _)
 have h2:cQ ⟨rOv R C w d.rows++(cOv C 0 d.rows++vs),lv,N⟩:=by
  have h3:=h1 0 d.rows fun j hj=>by rw[bJ];exact hC j hj
  cases hl:d.rows with
  |nil=>rw[hl] at h3;exact h3
  |cons r l=>
   rw[hl] at h3
   refine h3.cons (aB _) hR (wj 0 _ fun j hj=>?_)
   rw[bJ];exact hC j (by rw[hl];exact hj)
 exact (h2.cons (aB _) hG (eS _)).cons (aB _) hd (rt hR hG)
end
end
section
section
variable {kd R G w:Nat} {C:Nat→Nat} {d:Dic} {vs vs2:List (Nat×List D)}
theorem LL {R:Nat}{l l2:List Row}(h:l.length=l2.length):fy R l=fy R l2:=by
 cases l with
 |nil=>cases l2 with
  |nil=>rfl
  |cons _ _=>simp at h
 |cons _ _=>cases l2 with
  |nil=>simp at h
  |cons _ _=>show D.gw R 38 _=D.gw R 38 _;rw[h]
theorem DAt.look(h:DAt vs kd R G C w d)(h2:∀k ds,(k=kd∨k=R∨k=G∨∃i,i<d.rows.length∧k=C i)→vs.lookup k=some ds→vs2.lookup k=some ds):DAt vs2 kd R G C w d:=
 ⟨h2 _ _ (.inl rfl) h.hd,fun gt=>h2 _ _ (.inr (.inl rfl)) (h.hR gt),h2 _ _ (.inr (.inr (.inl rfl))) h.hG,fun i r hr=>h2 _ _ (.inr (.inr (.inr ⟨i,(fZ.1 hr).1,rfl⟩))) (h.hC i r hr),h.lG,h.lC⟩
theorem DAt.setRow(h:DAt vs kd R G C w d)(hf:Dif d.rows.length kd R G C){j:Nat}(hj:j<d.rows.length)(r:Row)(hl:r.c.length=w)(hR:vs2.lookup R=some (gl C w 0 (d.rows.set j r)))(hC:vs2.lookup (C j)=some (dC ((cW ay).f r.c)))
  (h2:∀k ds,k≠R→k≠C j→vs.lookup k=some ds→vs2.lookup k=some ds):DAt vs2 kd R G C w ⟨d.rows.set j r,d.gk,d.gc,d.n,d.piv,d.most⟩:=by
 obtain⟨h3,h4,h5⟩:=hf.C1 j hj
 refine⟨?_,fun _=>hR,h2 _ _ hf.RG.symm h5.symm h.hG,fun i r' hr=>?_,h.lG,fun i r' hr=>?_⟩
 ·have:ni R G w ⟨d.rows.set j r,d.gk,d.gc,d.n,d.piv,d.most⟩=ni R G w d:=by
   unfold ni
   rw[show fy R (d.rows.set j r)=fy R d.rows from LL (eU ..)]
  rw[this]
  exact h2 _ _ hf.dR h3.symm h.hd
 ·by_cases G7:i=j
  ·subst G7
   rw[II hj] at hr
   injection hr with hr
   subst hr
   exact hC
  ·rw[Dl (fun e=>G7 e.symm)] at hr
   have hi:=(fZ.1 hr).1
   exact h2 _ _ (hf.C1 i hi).2.1 (fun e=>G7 (hf.C2 i j hi hj e)) (h.hC i r' hr)
 ·by_cases G7:i=j
  ·subst G7
   rw[II hj] at hr
   injection hr with hr
   subst hr
   exact hl
  ·rw[Dl (fun e=>G7 e.symm)] at hr
   exact h.lC i r' hr
theorem DAt.setDic(h:DAt vs kd R G C w d)(hf:Dif d.rows.length kd R G C)(d':Dic)(hr:d'.rows=d.rows)(hl:d'.gc.length=w)(hd:vs2.lookup kd=some (ni R G w d'))(hG:vs2.lookup G=some (dC ((cW ay).f d'.gc)))
  (h2:∀k ds,k≠kd→k≠G→vs.lookup k=some ds→vs2.lookup k=some ds):DAt vs2 kd R G C w d':=by
 refine⟨hd,fun gt=>?_,hG,fun i r hi=>?_,hl,fun i r hi=>?_⟩
 ·rw[hr] at gt ⊢
  exact h2 _ _ hf.dR.symm hf.RG (h.hR gt)
 ·rw[hr] at hi
  obtain⟨h3,h4,h5⟩:=hf.C1 i (fZ.1 hi).1
  exact h2 _ _ h3 h5 (h.hC i r hi)
 ·rw[hr] at hi
  exact h.lC i r hi
end
theorem wn {k:Nat}{os:List Nat}(h:k∉os):∀{l:List (Nat×List D)} {ds:List D},l.lookup k=some ds→(l.filter fun p=>!os.contains p.1).lookup k=some ds
 |[],_,h'=>by simp at h'
 |(j,a)::l,ds,h'=>by
  by_cases hj:k=j
  ·subst hj
   rw[List.filter_cons_of_pos (by simpa using h)]
   rw[ab] at h' ⊢
   exact h'
  ·have h1:l.lookup k=some ds:=by rw[←h'];exact (au hj).symm
   by_cases hm:j∈os
   ·rw[List.filter_cons_of_neg (by simpa using hm)]
    exact wn h h1
   ·rw[List.filter_cons_of_pos (by simpa using hm)]
    exact al hj (wn h h1)
section
variable {hp:Hp}
theorem Q4:∀(l:List E),ARs hp (dC l) (dC l)
 |[]=>trivial
 |e::l=>⟨AR.data (d:=.e e) rfl,Q4 l⟩
theorem ARs.append:∀{ds es ds2 es2:List D},ARs hp ds es→ARs hp ds2 es2→ARs hp (ds++ds2) (es++es2)
 |[],[],_,_,_,h=>h
 |_::_,_::_,_,_,⟨h1,h2⟩,h=>⟨h1,ARs.append h2 h⟩
 |[],_::_,_,_,h,_=>h.elim
 |_::_,[],_,_,h,_=>h.elim
theorem AR.list {k n:Nat}{l:List Nu}(hv:hp.vars.lookup k=some (dC ((cW ay).f l)))(hl:l.length=n):AR hp (.ow k 0 36 n) (.e (slE ay l)):=by
 subst hl
 have hlen:((cW ay).f l).length=l.length*36:=iB ay.f ay.h l
 have:=AR.sl (off:=0) hv (n:=l.length) (z:=36) (by omega) (by omega)
 rw[rB,iP (by omega)] at this
 exact this
theorem AR.line {kc n:Nat}{k:Nu}{l:List Nu}(hv:hp.vars.lookup kc=some (dC ((cW ay).f l)))(hl:l.length=n):AR hp (.ag (bu k kc n)) (.ag (dC (ay.f k)++[.e (slE ay l)])):=
 AR.ag (ARs.append (Q4 _) ⟨AR.list hv hl,trivial⟩)
end
theorem JW {vs:List (Nat×List D)}{lv:List (Nat×Nat×Nat×TypeId)}{N kc n:Nat}{k:Nu}{l:List Nu}(hv:vs.lookup kc=some (dC ((cW ay).f l)))(hl:l.length=n)(hn:n≤1000000):HC Tryz.prog 109 [.ag (bu k kc n)] ⟨vs,lv,N⟩ (dB (iT k l)) ⟨vs,lv,N⟩:=
 HC.frz (w_good k l (by omega)) ⟨AR.line hv hl,trivial⟩ rfl
end
section
def klO(kd R:Nat):Option Nat→Nat|none=>kd|some _=>R
def olO:Option Nat→Nat|none=>1|some j=>j*38
def kcO(G:Nat)(C:Nat→Nat):Option Nat→Nat|none=>G|some j=>C j
section
variable {kd R G w:Nat} {C:Nat→Nat} {d:Dic} {vs:List (Nat×List D)}
theorem lineO(h:DAt vs kd R G C w d)(hf:Dif d.rows.length kd R G C)(o:Option Nat)(ho:∀j,o=some j→j<d.rows.length):
  ∃F A B:List D,vs.lookup (klO kd R o)=some F∧o5 F (olO o) (lkO d o) (kcO G C o) w A B∧vs.lookup (kcO G C o)=some (dC ((cW ay).f (lcO d o)))∧(lcO d o).length=w∧klO kd R o≠kcO G C o∧
   ∀(v2:List (Nat×List D)) (lk:Nu) (lc:List Nu),lc.length=w→v2.lookup (klO kd R o)=some (A++bu lk (kcO G C o) w++B)→v2.lookup (kcO G C o)=some (dC ((cW ay).f lc))→
    (∀k ds,k≠klO kd R o→k≠kcO G C o→vs.lookup k=some ds→v2.lookup k=some ds)→DAt v2 kd R G C w (Jc d o lk lc):=by
 cases o with
 |none=>
  refine⟨ni R G w d,[fy R d.rows],[dI .i64 d.n,dI .i64 d.piv,dI .i64 d.most],h.hd,⟨rfl,rfl⟩,h.hG,h.lG,hf.dG,fun v2 lk lc hl h1 h2 h3=>?_⟩
  exact h.setDic hf ⟨d.rows,lk,lc,d.n,d.piv,d.most⟩ rfl hl h1 h2 h3
 |some j=>
  have hj:=ho j rfl
  have hr:d.rows[j]? =some d.rows[j]! :=by rw[cO d.rows j hj];exact de hj
  obtain⟨A,B,h1,h2,h3,h4,_⟩:=mQ C w d.rows j hr
  have gt:d.rows≠[]:=fun e=>by rw[e] at hj;simp at hj
  refine⟨gl C w 0 d.rows,A,[dI .i64 d.rows[j]!.b]++B,h.hR gt,h4,h.hC j _ hr,h.lC j _ hr,(hf.C1 j hj).2.1.symm,fun v2 lk lc hl h5 h6 h7=>?_⟩
  refine h.setRow hf hj ⟨lk,lc,d.rows[j]!.b⟩ hl ?_ h6 h7
  rw[h2]
  have h5':v2.lookup R=some (A++bu lk (C j) w++([dI .i64 d.rows[j]!.b]++B)):=h5
  rw[h5']
  unfold iY
  simp only[dU]
theorem NC(d:Dic)(o:Option Nat)(k:Nu)(c:List Nu):(Jc d o k c).rows.length=d.rows.length:=by
 cases o with
 |none=>rfl
 |some j=>exact eU ..
theorem setO_ne {o:Option Nat}{i:Nat}(h:o≠some i)(k:Nu)(c:List Nu):(Jc d o k c).rows[i]? =d.rows[i]? :=by
 cases o with
 |none=>rfl
 |some j=>
  have:j≠i:=fun e=>h (by rw[e])
  exact Dl this
end
theorem pO_succ {r1:Row}{s at' i u:Nat}{p:Dic×Bool}{o:Option Nat}(h:(wM at' i)[u]? =some o):pO r1 s at' i p (u+1)=vj r1 s (pO r1 s at' i p u) o:=by
 unfold pO
 rw[zi,h,List.foldl_append]
 rfl
theorem Pt.cell {F:List D}{t:Nat}{x:D}(h:F[t]? =some x):Pt F t [x] (fun ys=>F.take t++ys++F.drop (t+1)):=by
 obtain⟨h1,h2⟩:=fZ.1 h
 refine⟨by simp;omega,?_,fun ys _=>rfl⟩
 show (F.drop t).take 1=[x]
 rw[IH h1,List.take_succ_cons,Dk,h2]
theorem iaP {dr:Bool}{ty:TypeId}{ev:Operand→D}{hp:Hp}{k i n:Nat}{kn:IntKind}{x y:Operand}(h:i<n)(hx:ev x=.ow k 0 1 n:=by exact rfl)(hy:ev y=dI kn (i:Int):=by exact rfl):AVC Tryz.prog tbl dr (.indexAddr 161 x y) ty ev hp (Kq (.pt k i) hp):=by
 have:=v7 (P:=Tryz.prog) (tb:=tbl) (dr:=dr) (ty:=ty) (ev:=ev) (hp:=hp) (x:=x) (y:=y) (v:=(i:Int)) (n:=n) (kn:=kn) ⟨by omega,by omega⟩ zS xI rfl hx rfl hy
 rwa[ct,bJ,show i*1=i from xu i] at this
theorem Oe {x:Cx}{kd R G w N n2 q:Nat}{C:Nat→Nat}{d':Dic}{vs v:List (Nat×List D)}{lv:List (Nat×Nat×Nat×TypeId)}{tm:List (Nat×D)}{e:Int}(h0:x.hp0=⟨vs,lv,N⟩)(hok:cQ ⟨vs,lv,N⟩)(hN:N≤n2)(hD:DAt v kd R G C w d')(hf:Dif d'.rows.length kd R G C)
  (Ev:kd<N) (hR:R<N) (hG:G<N) (hC:∀j,j<d'.rows.length→C j<N) (hr:∀k ds,k≠kd→k≠R→k≠G→(∀j,j<d'.rows.length→k≠C j)→vs.lookup k=some ds→v.lookup k=some ds) (hnil:d'.rows=[]→∀ds,vs.lookup R=some ds→v.lookup R=some ds) (hq:tm.lookup q=some (dI .i64 e)):
  ∃tm',Wk x tm ⟨v,lv,n2⟩ tm' ⟨ov kd R G C w d' vs,lv,N⟩∧sQ tbl [.tmp q] tm' ⟨ov kd R G C w d' vs,lv,N⟩ (dI .i64 e):=by
 have hok':=AQ (d:=d') (w:=w) hok Ev hR hG hC
 refine⟨[(q,dI .i64 e)],wkS (by rw[h0];exact aB N) hN hok' (Cq hf hD hr hnil) (bU.nil.cons hq),?_⟩
 exact⟨dI .i64 e,ab,rfl⟩
section
variable {R G w:Nat} {d:Dic}
theorem gI:Pt (ni R G w d) 0 [fy R d.rows] (fun ys=>ys++(bu d.gk G w++[dI .i64 d.n,dI .i64 d.piv,dI .i64 d.most])):=Pt.of [] (bu d.gk G w++[dI .i64 d.n,dI .i64 d.piv,dI .i64 d.most]) rfl (by unfold ni;simp) fun y=>by simp
theorem mJ:o5 (ni R G w d) 1 d.gk G w [fy R d.rows] [dI .i64 d.n,dI .i64 d.piv,dI .i64 d.most]:=⟨rfl,rfl⟩
theorem dic_n:Pt (ni R G w d) 38 [dI .i64 d.n] (fun ys=>[fy R d.rows]++bu d.gk G w++(ys++[dI .i64 d.piv,dI .i64 d.most])):=Pt.of ([fy R d.rows]++bu d.gk G w) [dI .i64 d.piv,dI .i64 d.most] (by rw[c8,cl];rfl) (by unfold ni;simp) fun y=>by simp
theorem oK:Pt (ni R G w d) 39 [dI .i64 d.piv] (fun ys=>[fy R d.rows]++bu d.gk G w++([dI .i64 d.n]++ys++[dI .i64 d.most])):=Pt.of ([fy R d.rows]++bu d.gk G w++[dI .i64 d.n]) [dI .i64 d.most] (by rw[c8,c8,cl];rfl) (by unfold ni;simp) fun y=>by simp
theorem PX:Pt (ni R G w d) 40 [dI .i64 d.most] (fun ys=>[fy R d.rows]++bu d.gk G w++([dI .i64 d.n,dI .i64 d.piv]++ys)):=Pt.of ([fy R d.rows]++bu d.gk G w++[dI .i64 d.n,dI .i64 d.piv]) [] (by rw[c8,c8,cl];rfl) (by unfold ni;simp) fun y=>by simp
end
end
section
theorem Gb {x:Cx}{tm:List (Nat×D)}{vs vs2:List (Nat×List D)}{lv:List (Nat×Nat×Nat×TypeId)}{N n2 q:Nat}{d:D}(h0:x.hp0=⟨vs,lv,N⟩)(hok:cQ ⟨vs,lv,N⟩)(hN:N≤n2)(hv:∀j ds,vs.lookup j=some ds→vs2.lookup j=some ds)(hq:tm.lookup q=some d)(hd:d.idsB N=true):
  ∃tm',Wk x tm ⟨vs2,lv,n2⟩ tm' ⟨vs,lv,N⟩∧sQ tbl [.tmp q] tm' ⟨vs,lv,N⟩ d:=
 ⟨[(q,d)],wkS (by rw[h0];exact aB N) hN hok hv (bU.nil.cons hq hd),⟨d,ab,rfl⟩⟩
section
variable {ops:Array Oper} {K:List (Nat×D)→Hp→Prop} {os:List Oper} {tm:List (Nat×D)} {hp:Hp} {t:Tmp} {ty:TypeId} {pos:String} {af:Array Edge} {md:Md}
theorem Ku {R:Nat}{l:List Row}{x:Operand}(hx:evD tm x=fy R l)(h2:ci Tryz.prog tbl md ops K os ((t,dI .i64 l.length)::tm) hp)(hn:md.nc tbl (.call ⟨.builtin .len,#[x],#[71]⟩)=true:=by exact rfl):ci Tryz.prog tbl md ops K (⟨some t,.call ⟨.builtin .len,#[x],#[71]⟩,ty,pos,af,none⟩::os) tm hp:=by
 cases l with
 |nil=>exact s1 (Qx AN sT rfl (by rw[hx];rfl)) h2 hn
 |cons r l=>exact stG (d:=dI .i64 (r::l).length) tok (AE (k:=R) (off:=0) (z:=38) AN sT rfl (by rw[hx];rfl)) h2 hn
end
section
variable {vs:List (Nat×List D)} {lv:List (Nat×Nat×Nat×TypeId)} {N kv R w:Nat} {C:Nat→Nat} {v:Int}
theorem h_findf {i:Nat}(r:Row)(hv:vs.lookup kv=some [dI .i64 v]):HC Tryz.prog 155 [.ag (iY C w i r),.pt kv 0] ⟨vs,lv,N⟩ (dB (decide (r.b=v))) ⟨vs,lv,N⟩:=by
 refine HC.of (rs:=[.tmp 3]) tok Tryz.func155 rfl rfl (dK rfl) rfl (fun cx hx h0 hok=>?_)
 simp only[fS,Nat.reduceAdd,bJ]
 have hkv:=hok.lt hv
 refine rs hx fun K hK=>?_
 refine s1 (fB (cs:=iY C w i r)) ?_
 refine sa ?_
 refine .nil (hK _ _ (rs hx fun K hK=>?_))
 refine sa ?_
 refine s1 (kI (Pt.of (F:=iY C w i r) (bs:=[dI .i64 r.b]) (bu r.k (C i) w) [] (cl _ _ _) (by unfold iY;simp) (F':=fun ys=>bu r.k (C i) w++ys++[]) fun y=>rfl) ab (e9 N) tbI) ?_
 refine s1 (kI (Pt.of (F:=[dI .i64 v]) (bs:=[dI .i64 v]) [] [] rfl (by simp) (F':=id) fun y=>by simp) (al (show kv≠N by omega) hv) (show kv<N+1 by omega) tbI) ?_
 iterate 2 refine sa ?_
 exact .nil (hK _ _ (AW.ret (Gb h0 hok (jP N) (fun j ds h=>al (hok.ne h (aB N)) h) rfl rfl)))
theorem Pp {l:List Row}(hm:l.length≤1000000)(hR:l≠[]→vs.lookup R=some (gl C w 0 l))(hv:vs.lookup kv=some [dI .i64 v]):
  HC Tryz.prog 154 [fy R l,.fn 155 [kv]] ⟨vs,lv,N⟩ (dI .i64 (eC l v)) ⟨vs,lv,N⟩:=by
 refine HC.of (rs:=[.tmp 4]) tok Tryz.func154 rfl rfl (dK rfl) rfl (fun cx hx h0 hok=>?_)
 simp only[fS,Nat.reduceAdd,bJ]
 have hkv:=hok.lt hv
 have hRi:(fy R l).idsB N=true:=by
  cases hl:l with
  |nil=>rfl
  |cons r l'=>exact aF (hok.lt (hR (by rw[hl];simp)))
 refine rs hx fun K hK=>?_
 refine sa ?_
 refine .nil (hK _ _ (AW.seq (rs hx fun K hK=>?_)))
 refine sa ?_
 refine Ku (R:=R) (l:=l) rfl ?_
 refine sa ?_
 refine .nil (hK _ _ (AW.block (AW.loopW (fun i:Nat=>[(0,fy R l),(1,.fn 155 [kv]),(7,dI .i64 l.length),(8,dI .i64 i)]) (fun _=>⟨vs,lv,N⟩) (fun i=>i≤l.length∧∀(j:Nat) (r':Row),j<i→l[j]? =some r'→r'.b≠v) (fun i=>l.length - i) 0 ?_ ⟨cX _,fun j _ hj=>absurd hj (rG _)⟩ ?_)))
 ·exact wkS (by rw[h0];exact aB N) (aB _) hok (fun j ds h=>h) (bU.cons (t:=0) (d:=fy R l) (bU.cons (t:=1) (d:=.fn 155 [kv]) (bU.cons (t:=7) (d:=dI .i64 l.length) (bU.cons (t:=8) (d:=dI .i64 (0:Nat)) bU.nil rfl rfl) rfl rfl) rfl (dc.2 fun k hk=>aF (by rw[qi.1 hk];exact hkv))) rfl hRi)
 ·rintro i ⟨hi,ob⟩
  refine rs hx fun K hK=>?_
  refine sa ?_
  refine .nil (hK _ _ (AW.seq (AW.condS rfl (fun hb=>?_) (fun hb=>?_))))
  ·have xT:i<l.length:=by have:=da hb;omega
   have gt:l≠[]:=fun e=>by rw[e] at xT;simp at xT
   have hr:l[i]? =some l[i]:=de xT
   obtain⟨A,B,hA,_,h3,_,_⟩:=mQ C w l i hr
   have BQ:=hok.lt (hR gt)
   refine AW.skip (AW.seq (AW.block (rs hx fun K hK=>?_)))
   iterate 2 refine sa ?_
   refine .nil (hK _ _ (rs hx fun K hK=>?_))
   iterate 3 refine sa ?_
   refine stG (d:=.pt R (i*38)) tok (iaR (i:=i) (n:=l.length) xT (by show (fy R l).toOw=_;rw[pJ gt];rfl) rfl) ?_
   refine s1 (Bj (Pt.of A B hA h3 (F':=fun ys=>A++ys++B) fun y=>rfl) (hR gt) BQ sT (sV _ _ _ _)) ?_
   refine q1 (sHF (h_findf l[i] hv) rfl) ?_
   refine .nil (hK _ _ (AW.condS rfl (fun hb=>?_) (fun hb=>?_)))
   ·have hbv:l[i].b=v:=da hb
    refine rs hx fun K hK=>?_
    iterate 2 refine sa ?_
    refine .nil (hK _ _ (AW.ret ?_))
    rw[Mz hr hbv ob]
    exact Gb h0 hok (aB N) (fun j ds h=>h) rfl rfl
   ·have hbv:¬l[i].b=v:=d8 hb
    refine AW.skip (rq hx fun K hK=>?_)
    iterate 2 refine sa ?_
    refine .nil (hK _ _ ?_)
    rw[cm (by omega)]
    refine⟨i+1,wkS (by rw[h0];exact aB N) (aB _) hok (fun j ds h=>h) (bU.cons (t:=0) (d:=fy R l) (bU.cons (t:=1) (d:=.fn 155 [kv]) (bU.cons (t:=7) (d:=dI .i64 l.length) (bU.cons (t:=8) (d:=dI .i64 (i+1:Nat)) bU.nil rfl rfl) rfl rfl) rfl (dc.2 fun k hk=>aF (by rw[qi.1 hk];exact hkv))) rfl hRi),⟨xT,fun j r' hj pB=>?_⟩,by omega⟩
    rcases hE j i with h|h
    ·exact ob j r' h pB
    ·obtain rfl:j=i:=by omega
     rw[hr] at pB
     injection pB with pB
     rw[←pB];exact hbv
  ·refine AW.exit ?_
   have xT:i=l.length:=by have:=d8 hb;omega
   refine rs hx fun K hK=>?_
   refine sa ?_
   refine .nil (hK _ _ (AW.ret ?_))
   rw[J0 fun j r' pB=>ob j r' (by rw[xT];exact (fZ.1 pB).1) pB]
   exact Gb h0 hok (aB N) (fun j ds h=>h) rfl rfl
theorem JX {kd G:Nat}{d:Dic}(hD:DAt vs kd R G C w d)(hm:d.rows.length≤1000000):HC Tryz.prog 105 [.pt kd 0,dI .i64 v] ⟨vs,lv,N⟩ (dI .i64 (eC d.rows v)) ⟨vs,lv,N⟩:=by
 refine HC.of (rs:=[.tmp 4]) tok Tryz.func105 rfl rfl (dK rfl) rfl (fun cx hx h0 hok=>?_)
 simp only[fS,Nat.reduceAdd,bJ]
 have Ev:=hok.lt hD.hd
 refine rs hx fun K hK=>?_
 refine s1 (fB (cs:=[dI .i64 v])) ?_
 refine sa ?_
 refine .nil (hK _ _ (rs hx fun K hK=>?_))
 iterate 3 refine sa ?_
 refine s1 (kI gI (al (show kd≠N by omega) hD.hd) (show kd<N+1 by omega) tbI) ?_
 refine s1 (DC (ks:=[N])) ?_
 refine q1 (sHC (Pp (vs:=(N,[dI .i64 v])::vs) (lv:=lv) (N:=N+1) (C:=C) (w:=w) hm (fun gt=>al (hok.ne (hD.hR gt) (aB N)) (hD.hR gt)) ab) rfl (.inl (by kernel_rfl))) ?_
 refine sa ?_
 exact .nil (hK _ _ (AW.ret (Gb h0 hok (jP N) (fun j ds h=>al (hok.ne h (aB N)) h) rfl rfl)))
end
end
def qJ(aU:Int)(gy:Int):Option (Int×Int):=bnd (some (u64.wrap ((HU .u64 aU (4294967295:Int))*(HU .u64 gy (4294967295:Int))))) fun x1=>bnd (some (u64.wrap ((u64.wrap ((mR .u64 aU (32:Int))*(HU .u64 gy (4294967295:Int))))+(mR .u64 x1 (32:Int))))) fun x3=>bnd (some (u64.wrap ((HU .u64 x3 (4294967295:Int))+(u64.wrap ((HU .u64 aU (4294967295:Int))*(mR .u64 gy (32:Int))))))) fun x5=>bnd (some (u64.wrap ((u64.wrap ((u64.wrap ((mR .u64 aU (32:Int))*(mR .u64 gy (32:Int))))+(mR .u64 x3 (32:Int))))+(mR .u64 x5 (32:Int))))) fun x7=>some (x7,u64.wrap (aU*gy))
theorem FA {aU:Int}{gy:Int}{r:Int×Int}(h:qJ aU gy=some r):ax Tryz.prog 183 [dI .u64 aU,dI .u64 gy] (.tu [dI .u64 r.1,dI .u64 r.2]):=by
 refine bC (rs:=[.tmp 4,.tmp 5]) (fun cx hx h0=>?_) Tryz.func183
 unfold qJ at h
 iterate 5 refine ra hx ?_
 refine rs hx fun K hK=>?_
 iterate 3 refine sa ?_
 obtain⟨x1,wq,h⟩:=ae h
 replace wq:=bW wq
 refine s2 (d2:=dI .u64 x1) mp (gM (congrArg (dI .u64) wq)) ?_
 refine .nil (hK _ _ (rs hx fun K hK=>?_))
 iterate 6 refine sa ?_
 obtain⟨x3,Ov,h⟩:=ae h
 replace Ov:=bW Ov
 refine s2 (d2:=dI .u64 x3) mp (gM (congrArg (dI .u64) Ov)) ?_
 refine .nil (hK _ _ ?_)
 iterate 2 refine ra hx ?_
 refine rs hx fun K hK=>?_
 iterate 5 refine sa ?_
 obtain⟨x5,Bq,h⟩:=ae h
 replace Bq:=bW Bq
 refine s2 (d2:=dI .u64 x5) mp (gM (congrArg (dI .u64) Bq)) ?_
 refine .nil (hK _ _ (rs hx fun K hK=>?_))
 iterate 8 refine sa ?_
 obtain⟨x7,Gg,h⟩:=ae h
 replace Gg:=bW Gg
 refine s2 (d2:=dI .u64 x7) mp (gM (congrArg (dI .u64) Gg)) ?_
 refine .nil (hK _ _ (ra hx ?_))
 refine AW.ret ?_
 cases h
 exact rv2
def t5(aU:Int)(gy:Int):Option (Int×Int):=bnd (qJ aU gy) fun x1=>some (x1.1,x1.2)
theorem I4 {aU:Int}{gy:Int}{r:Int×Int}(h:t5 aU gy=some r):ax Tryz.prog 151 [dI .u64 aU,dI .u64 gy] (.tu [dI .u64 r.1,dI .u64 r.2]):=by
 refine bC (rs:=[.tmp 4,.tmp 5]) (fun cx hx h0=>?_) Tryz.func151
 unfold t5 at h
 refine ra hx ?_
 refine AW.seq (AW.condF rfl rfl (AW.skip (rs hx fun K hK=>?_)))
 iterate 2 refine sa ?_
 refine scb h FA fun x1 h=>?_
 iterate 5 refine sa ?_
 refine .nil (hK _ _ (ra hx ?_))
 refine AW.ret ?_
 cases h
 exact rv2
theorem Oo {m:Nat}(h:m<4294967296):HU .u64 (m:Int) (4294967295:Int)=(m:Int):=by
 have h1:(BitVec.ofInt 64 (m:Int) &&&BitVec.ofInt 64 (4294967295:Int)).toNat=m:=by
  have a:(BitVec.ofInt 64 (m:Int)).toNat=m:=by
   rw[BitVec.ofInt_natCast,BitVec.toNat_ofNat];omega
  have b:(BitVec.ofInt 64 (4294967295:Int)).toNat=2 ^ 32 - 1:=by decide
  rw[BitVec.toNat_and,a,b,Nat.and_two_pow_sub_one_eq_mod];omega
 show u64.wrap (((BitVec.ofInt 64 (m:Int) &&&BitVec.ofInt 64 (4294967295:Int)).toNat:Nat):Int)=m
 rw[h1]
 exact iD (by omega)
theorem mul1 {n:Nat}(h:n≤1000000):t5 (u64.wrap 1) (u64.wrap (n:Int))=some (0,(n:Int)):=by
 have e1:u64.wrap 1=((1:Nat):Int):=iD (n:=1) (by omega)
 have a1:=Oo (m:=1) (by omega)
 have a2:=Oo (m:=n) (by omega)
 have s1:=xb 1
 have s2:=xb n
 have m1:(1:Nat) / 4294967296=0:=rfl
 have m2:n / 4294967296=0:=eV (by omega)
 rw[m1] at s1
 rw[m2] at s2
 have z0:u64.wrap ((0:Nat):Int)=((0:Nat):Int):=iD (n:=0) (by omega)
 have zn:u64.wrap (n:Int)=(n:Int):=iD (by omega)
 have i0:HU .u64 ((0:Nat):Int) (4294967295:Int)=((0:Nat):Int):=Oo (m:=0) (by omega)
 have h0:mR .u64 ((0:Nat):Int) (32:Int)=((0:Nat):Int):=xb 0
 rw[e1,zn]
 unfold t5 qJ
 rw[a1,a2,s1,s2]
 simp only[bnd,Option.bind_some]
 have p1:((1:Nat):Int)*(n:Int)=(n:Int):=by omega
 have p2:((0:Nat):Int)*(n:Int)=((0:Nat):Int):=by omega
 have p3:((1:Nat):Int)*((0:Nat):Int)=((0:Nat):Int):=by omega
 have p4:((0:Nat):Int)*((0:Nat):Int)=((0:Nat):Int):=by omega
 have p5:((0:Nat):Int)+((0:Nat):Int)=((0:Nat):Int):=by omega
 rw[p1,p2,p3,p4,zn,z0,s2,p5,z0,i0,p5,z0,h0,p5,z0,p5,z0]
 rfl
section
def xW(a:Nu)(n s:Nat):List Nu:=List.replicate s a++List.replicate (n - s) default
theorem C7 {a:Nu}{n s:Nat}(h:s≤n):(xW a n s).length=n:=by
 unfold xW;rw[c8,xq,xq];omega
theorem cont_cp {a:Nu}{n s:Nat}(h:s≤n):lCp (xW a n s) s (((((xW a n s).drop 0).take s)).take (n - s))=xW a n (s+min s (n - s)):=by
 have h1:((xW a n s).drop 0).take s=List.replicate s a:=by
  unfold xW
  rw[rB,Bd (by simp),iP (by simp)]
 rw[h1,List.take_replicate]
 unfold lCp
 rw[xq]
 unfold xW
 rw[Bd (by simp),iP (by simp),List.drop_append,xq,Be (by simp),mL,List.drop_replicate]
 rw[List.replicate_append_replicate,Nat.min_comm,show n - s - (s+min s (n - s) - s)=n - (s+min s (n - s)) by omega]
theorem zNu:ay.f (default:Nu)=zN:=rfl
theorem Ea {x:Cx}{tm tm':List (Nat×D)}{vs2 pb:List (Nat×List D)}{lv DU:List (Nat×Nat×Nat×TypeId)}{n' n2:Nat}(h0:x.hp0.next≤n')(hn:n'≤n2)(hok:cQ ⟨pb,lv,n'⟩)(hv:∀j ds,pb.lookup j=some ds→vs2.lookup j=some ds)(hl:∀j y,lv.lookup j=some y→DU.lookup j=some y)(ht:bU n' tm tm'):Wk x tm ⟨vs2,DU,n2⟩ tm' ⟨pb,lv,n'⟩:=
 Wk.look h0 hn ht (fun j ds h=>⟨(hok.var j ds h).1,ds,hv j ds h,qO _,(hok.var j ds h).2⟩) fun id y h=>⟨hok.tok id y h,hl id y h⟩
section
variable {md:Md} {dst:Option Tmp} {ty:TypeId} {pos:String} {af:Array Edge} {gd:Option (Nat×Bool)} {ev:Operand→D} {hp:Hp} {k s n:Nat} {x y:Operand}
theorem slT(h:s<n)(hx:ev x=.ow k 0 36 n:=by exact rfl)(hy:ev y=dI .i64 (s:Int):=by exact rfl):m3 Tryz.prog tbl md ⟨dst,.slice 22 x (some y) none none,ty,pos,af,gd⟩ ev hp (.ow k (s*36) 36 (n - s)) hp:=by
 have:=slW (P:=Tryz.prog) (tb:=tbl) (md:=md) (dst:=dst) (ty2:=ty) (pos:=pos) (af:=af) (gd:=gd) (ev:=ev) (hp:=hp) (x:=x) (lo:=some y) (hi:=none) (l:=(s:Int)) (h:=(n:Int)) tok ⟨by omega,by omega,by omega,by omega⟩ aH aw ⟨.i64,hy⟩ rfl rfl hx rfl
 rw[show ((n:Int) - (s:Int)).toNat=n - s by omega,ct,bJ] at this
 exact this
theorem slHd(h:s≤n)(h0:0<n)(hx:ev x=.ow k 0 36 n:=by exact rfl)(hy:ev y=dI .i64 (s:Int):=by exact rfl):m3 Tryz.prog tbl md ⟨dst,.slice 22 x none (some y) none,ty,pos,af,gd⟩ ev hp (.ow k (0*36) 36 s) hp:=by
 have:=slW (P:=Tryz.prog) (tb:=tbl) (md:=md) (dst:=dst) (ty2:=ty) (pos:=pos) (af:=af) (gd:=gd) (ev:=ev) (hp:=hp) (x:=x) (lo:=none) (hi:=some y) (l:=(0:Int)) (h:=(s:Int)) tok ⟨by omega,by omega,by omega,by omega⟩ aH aw rfl ⟨.i64,hy⟩ rfl hx rfl
 rw[show ((s:Int) - 0).toNat=s by omega,bJ] at this
 exact this
end
section
variable {vs:List (Nat×List D)} {lv:List (Nat×Nat×Nat×TypeId)} {N n:Nat} {a:Nu}
theorem Id(hn:n≤1000000):HC Tryz.prog 103 [.e (slE ay [a]),dI .i64 n] ⟨vs,lv,N⟩ (.ow (N+1) 0 36 n) ⟨(N+1,dC ((cW ay).f (List.replicate n a)))::vs,lv,N+1+1⟩:=by
 refine HC.of (rs:=[.tmp 4]) tok Tryz.func103 rfl rfl (dK rfl) rfl (fun cx hx h0 hok=>?_)
 simp only[fS,Nat.reduceAdd,bJ]
 refine rs hx fun K hK=>?_
 refine s1 (d:=dO N ay ([]:List Nu)) (fW aH aw) ?_
 refine .nil (hK _ _ (AW.seq (rs hx fun K hK=>?_)))
 iterate 2 refine sa ?_
 refine .nil (hK _ _ (AW.condF rfl (bf (by omega)) (AW.skip (rs hx fun K hK=>?_))))
 iterate 5 refine sa ?_
 refine cq (I4 (mul1 hn)) ?_
 iterate 5 refine sa ?_
 refine .nil (hK _ _ (AW.seq (rs hx fun K hK=>?_)))
 iterate 3 refine sa ?_
 iterate 2 refine ga (show decide ((0:Int)<0)=false by decide) ?_
 refine s1 (an (show decide ((0:Int)<0)=false by decide)) ?_
 refine .nil (hK _ _ (AW.condF rfl (bf (by omega)) (AW.skip (rs hx fun K hK=>?_))))
 iterate 2 refine sa ?_
 rw[eu (show -9223372036854775808≤(n:Int) by omega) (by omega)]
 refine q1 (sMk (c:=ay) (z0:=default) (v:=(n:Int)) tok ⟨by omega,by omega⟩ aH aw rfl) ?_
 rw[ct]
 refine sa ?_
 refine .nil (hK _ _ ?_)
 have OC:v9 ⟨(N+1,dC ((cW ay).f (List.replicate n default)))::vs,(N,0,36,43)::lv,N+1+1⟩ (.e (slE ay [a])) 36 1 ([a].flatMap ay.f):=v9.dat rfl (by simp[ay.h];rfl)
 refine rs hx fun K hK=>?_
 iterate 2 refine sa ?_
 refine q1 (sCpW (c:=ay) (l:=List.replicate n default) (s:=[a]) (m:=1) (n:=n) tok aH aw OC rfl ab 0 (by simp) rfl) ?_
 refine sa ?_
 refine .nil (hK _ _ ?_)
 have hc0:lCp (List.replicate n (default:Nu)) 0 ([a].take n)=xW a n (min 1 n):=by
  cases n with
  |zero=>rfl
  |succ n=>
   unfold lCp xW
   rw[show min 1 (n+1)=1 by omega]
   simp[List.replicate_succ]
 rw[hc0]
 have Es:∀l:List Nu,cQ ⟨(N+1,dC ((cW ay).f l))::vs,lv,N+1+1⟩:=fun l=>hok.cons (by omega) (e9 _) (eS _)
 have hNlv:∀j y,lv.lookup j=some y→((N,0,36,43)::lv).lookup j=some y:=fun j y h=>(au (by have:=hok.tok j y h;have h2:j<N:=this;omega)).trans h
 refine AW.seq (AW.block (AW.loopW (fun s:Nat=>[(7,.ow (N+1) 0 36 n),(8,dI .i64 s)]) (fun s=>⟨(N+1,dC ((cW ay).f (xW a n s)))::vs,lv,N+1+1⟩) (fun s=>s≤n∧(0<n→0<s)) (fun s=>n - s) (min 1 n) ?_ ⟨by omega,by omega⟩ ?_))
 ·exact Ea (by rw[h0];show N≤N+1+1;omega) (aB _) (Es _) (fun j ds h=>by rw[vq];exact h) hNlv (bU.cons (t:=7) (d:=.ow (N+1) 0 36 n) (bU.cons (t:=8) (d:=dI .i64 (min 1 n:Nat)) bU.nil rfl rfl) rfl (aF (e9 _)))
 ·rintro s ⟨hsn,hs0⟩
  refine AW.seq (rs hx fun K hK=>?_)
  iterate 4 refine sa ?_
  refine .nil (hK _ _ (AW.condS rfl (fun hb=>?_) (fun hb=>?_)))
  ·have b8:s<n:=by have:=da hb;omega
   have hs1:0<s:=hs0 (by omega)
   refine AW.skip (AW.block (rqd [] hx fun K hK=>?_))
   iterate 3 refine sa ?_
   refine q1 (slT b8) ?_
   iterate 2 refine sa ?_
   refine q1 (slHd (by omega) (by omega)) ?_
   refine q1 (sCpW (c:=ay) (l:=xW a n s) (s:=((xW a n s).drop 0).take s) (m:=s) (n:=n - s) tok aH aw (v9.lst ab 0 (by rw[C7 hsn];omega)) (by rw[eH,rB,C7 hsn];omega) ab s (by rw[C7 hsn];omega) rfl) ?_
   rw[cont_cp hsn]
   iterate 2 refine sa ?_
   refine .nil (hK _ _ ?_)
   rw[show i64.wrap ((s:Int)+(min s (n - s):Nat))=((s+min s (n - s):Nat):Int) by rw[eu (by omega) (by omega)];omega]
   exact⟨s+min s (n - s),wkS (by rw[h0];show N≤N+1+1;omega) (aB _) (Es _) (fun j ds h=>by rw[vq];exact h) (bU.cons (t:=7) (d:=.ow (N+1) 0 36 n) (bU.cons (t:=8) (d:=dI .i64 (s+min s (n - s):Nat)) bU.nil rfl rfl) rfl (aF (e9 _))),⟨by omega,by omega⟩,by omega⟩
  ·refine AW.exit ?_
   have hsn2:s=n:=by have:=d8 hb;omega
   subst hsn2
   have EA:xW a s s=List.replicate s a:=by unfold xW;simp
   rw[EA]
   refine rs hx fun K hK=>?_
   iterate 2 refine sa ?_
   exact .nil (hK _ _ (AW.ret (⟨[(4,.ow (N+1) 0 36 s)],wkS (by rw[h0];show N≤N+1+1;omega) (aB _) (Es _) (fun j ds h=>h) (bU.cons (t:=4) (d:=.ow (N+1) 0 36 s) bU.nil rfl (aF (e9 _))),⟨_,ab,rfl⟩⟩)))
end
end
end
end Go.Proofs.YtaedcknhkjpmlaaGreat
