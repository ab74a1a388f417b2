/-
  Lemmas, part 8. Conditions: none.
-/
import Derived.Test.YtgfcnncojhkcoaaGreatT7
import Derived.MapKept
import Derived.Carry
import Derived.Test.YtgfcnncojhkcoaaGreatRows
import Derived.ProofKit
import Derived.OpenShut
import Derived.ChangeSame
import Derived.Deep.Slices
import Derived.JoinedCond
import Derived.SizedLaws
import Derived.Deep.CondSized
set_option linter.all false
set_option maxRecDepth 100000
namespace Go.Proofs.YtgfcnncojhkcoaaGreat
open Go.RowKit Go.IntKind Tryz Go.Proofs.Tryz
noncomputable section
def mI(jc:List Int):Int×(List ak)→Option ((Int×(List ak))⊕((List ak))):=fun (aE,aM)=>cnd (decide (aE<((jc).length:Int))) (gd (0≤aE∧aE<((jc).length:Int)) (bnd (d7 ((jc)[(aE).toNat]!)) fun x4=>gd ((aM++[x4]).length*136≤140737488355328) (some (.inl (i64.wrap (aE+(1:Int)),aM++[x4]))))) (some (.inr aM))
def e6(bT:Int)(bw:Int)(jc:List Int):Option aq:=bnd (aL (mI jc) ((0:Int),([]:List ak))) fun aA=>some (⟨bT,bw,aA⟩:aq)
theorem Cc {bT:Int}{bw:Int}{jc:List Int}{r:aq}(h:e6 bT bw jc=some r):ar prog 59 [dI .i64 bT,dI .i64 bw,dL (cI .i64) jc] (dG aG r):=by
 refine bB (rs:=[.cell 6 24]) (fun cx hx h0=>?_) func59
 unfold e6 at h
 refine rs hx fun K hK=>?_
 refine s1 (d:=.pt 0 0) (cc ay) ?_
 refine .nil (hK _ _ (rs hx fun K hK=>?_))
 iterate 2 refine sa ?_
 refine s1 (d:=.ag [dI .i64 bT,dI .i64 bw,dN]) (cp ay) ?_
 refine s1 (d:=.pt 1 0) (cc ay) ?_
 refine s0 (eL (ds':=[dI .i64 bT,dI .i64 bw,dN]) ay) ?_
 refine .nil (hK _ _ (AW.seq (ra hx ?_)))
 refine AW.block ?_
 obtain⟨aA,hy,h⟩:=ai h
 refine lp (S:=Int×(List ak)) (X:=(List ak)) (fun (aE,aM)=>[(6,.pt 0 0),(7,.pt 1 0),(13,dL (cI .i64) jc),(14,dI .i64 ((jc).length:Int)),(15,dI .i64 aE)]) (fun (aE,aM)=>⟨[(0,[dI .i64 (0:Int),dI .i64 (0:Int),dN]),(1,[dI .i64 bT,dI .i64 bw,dO 2 aj aM])],[(2,(aM).length,36,34)],3⟩) (PE cx (.exit 0) (fun aA=>[(6,.pt 0 0),(7,.pt 1 0)]) fun aA=>⟨[(0,[dI .i64 (0:Int),dI .i64 (0:Int),dN]),(1,[dI .i64 bT,dI .i64 bw,dO 2 aj aA])],[(2,(aA).length,36,34)],3⟩) hy ?_ ?_ ?_
 exact Wk.trans (Wk.nilOwn (ds':=[dI .i64 bT,dI .i64 bw,dO 2 aj ([]:List ak)]) 1 2 34 36) (wk h0 [0,1,2] (wR rfl (wR rfl (wR rfl (wR rfl (wR rfl wTn))))) (vR rfl (vR rfl wVn)) (wL rfl rfl wLn))
 clear hy h
 rintro⟨aE,aM⟩ y h
 dsimp only[mI] at h
 refine ra hx ?_
 refine AW.seq (cdh h rfl (fun fy h=>?_) (fun fy h=>?_))
 refine AW.skip (AW.seq (AW.block (rs hx fun K hK=>?_)))
 obtain⟨ui,h⟩:=ax h
 have yq:(aE).toNat<(jc).length:=by omega
 refine s1 (UH ui eO dJ) ?_
 refine s1 (s7 (c:=(cI .i64)) (l:=jc) (n:=(aE).toNat) (o:=0) dJ yq) ?_
 refine sa ?_
 refine .nil (hK _ _ (rqd [60] hx fun K hK=>?_))
 refine sa ?_
 refine s1 (Ed aW) ?_
 refine sa ?_
 refine cqb h jU fun x4 h=>?_
 refine s1 (ka ([x4]:List ak) aj aW aR) ?_
 obtain⟨hc6,h⟩:=ax h
 refine s1 (d:=dO 2 aj (aM++[x4])) (ip aW aR hc6) ?_
 refine sa ?_
 refine s0 (eL (ds':=[dI .i64 bT,dI .i64 bw,dO 2 aj (aM++[x4])]) aW) ?_
 refine .nil (hK _ _ (rb hx ?_))
 cases h
 exact PS.l (pe0 h0 [0,1,2])
 refine AW.exit ?_
 try dsimp only
 try simp only[fS,reduceIte,Nat.reduceEqDiff,reduceCtorEq]
 cases h
 exact PS.r ⟨by nofun,PE.i (wk h0 [0,1,2] (wR rfl (wR rfl wTn)) (vR rfl (vR rfl wVn)) (wL rfl rfl wLn))⟩
 rintro ex tm' hp' ⟨rfl,hw⟩
 try dsimp only
 try simp only[fS,reduceIte,Nat.reduceEqDiff,reduceCtorEq]
 refine AW.weak hw (rs hx fun K hK=>?_)
 refine s1 (d:=.ag [dI .i64 bT,dI .i64 bw,dO 2 aj aA]) (cF ay) ?_
 refine s0 (eL (ds':=[dI .i64 bT,dI .i64 bw,dO 2 aj aA]) ay) ?_
 refine .nil (hK _ _ (AW.ret ?_))
 cases h
 exact eu.mk1 (dQ (es:=[dI .i64 bT,dI .i64 bw,dO 2 aj aA]) rfl ay rfl rfl (ltb rfl) (leb rfl) rfl (.inr (.inr ⟨_,(i7 (wc (ge _) (wc (ge _) (wc (Ho _) wcn)))),rfl,rfl⟩)))
def eE(jc:List Int):Option (List ak):=bnd (e6 (1:Int) ((jc).length:Int) jc) fun x1=>some x1.vV
theorem GJ {jc:List Int}{r:List ak}(h:eE jc=some r):ar prog 36 [dL (cI .i64) jc] (dL aj r):=by
 refine bB (rs:=[.tmp 2]) (fun cx hx h0=>?_) func36
 unfold eE at h
 refine rs hx fun K hK=>?_
 refine s1 (d:=dO 0 aj ([]:List ak)) (d8 aW aR) ?_
 refine .nil (hK _ _ (rs hx fun K hK=>?_))
 iterate 3 refine sa ?_
 refine scb h Cc fun x1 h=>?_
 refine s1 (UI ay aW) ?_
 refine sa ?_
 refine .nil (hK _ _ (AW.ret ?_))
 cases h
 exact rv1
def mc(dt:List ak):Int→Option (Int⊕(Bool⊕Unit)):=fun aJ=>cnd (decide (aJ<((dt).length:Int))) (gd (0≤aJ∧aJ<((dt).length:Int)) (bnd (S:=Bool) (bnd (iO ((dt)[(aJ).toNat]!)) fun x4=>cnd (decide (x4≠(0:Int))) (some (true)) (bnd (bq ((dt)[(aJ).toNat]!)) fun x7=>some (!x7))) fun bb=>cnd bb (some (.inr (.inl false))) (some (.inl (i64.wrap (aJ+(1:Int))))))) (some (.inr (.inr ())))
def i3(dt:List ak):Option Bool:=bnd (aL (mc dt) (0:Int)) fun y11=>match y11 with| .inl r=>some r| .inr ()=>some true
def lQ(dp:aq)(bg:List ak):Option Bool:=bnd (gf bg) fun x1=>bnd (iV dp x1) fun x3=>bnd (S:=Bool) (cnd (decide (x3.2≠(0:Int))) (some (true)) (bnd (i3 x3.1.vV) fun x6=>some (x6))) fun i4=>some i4
def lR(dp:aq)(bg:List ak):Option Bool:=bnd (gf bg) fun x1=>bnd (iV dp x1) fun x3=>bnd (S:=Bool) (cnd (decide (x3.2=(0:Int))) (bnd (i3 x3.1.vV) fun x6=>some (x6)) (some (false))) fun i4=>some i4
def eZ :Option Bool:=bnd (e6 (2:Int) (2:Int) [(1:Int),(2:Int),(3:Int),(4:Int)]) fun x1=>bnd (fe x1) fun x3=>bnd (j3 x1) fun x5=>bnd (e6 (2:Int) (3:Int) [(0:Int),(2:Int),(4:Int),(0:Int),(1:Int),(2:Int)]) fun x7=>bnd (fe x7) fun x9=>bnd (eE [(5:Int),(6:Int)]) fun vQ=>bnd (fP x1 vQ) fun yY=>bnd (e6 (1:Int) (2:Int) [(1:Int),(1:Int)]) fun xw=>bnd (eE [(2:Int)]) fun rh=>bnd (fP xw rh) fun Q7=>bnd (e6 (2:Int) (1:Int) [(1:Int),(1:Int)]) fun Gv=>bnd (eE [(1:Int),(2:Int)]) fun Lk=>bnd (fP Gv Lk) fun x25=>bnd (e6 (1:Int) (3:Int) [(1:Int),(2:Int),(3:Int)]) fun B0=>bnd (gN B0) fun IQ=>bnd (e6 (2:Int) (2:Int) [(2:Int),(1:Int),(1:Int),(2:Int)]) fun x31=>bnd (eW x31) fun Ld=>bnd (e6 (2:Int) (2:Int) [(1:Int),(2:Int),(2:Int),(1:Int)]) fun x35=>bnd (eW x35) fun Ny=>bnd (S:=Bool) (cnd (decide (x3.2.2≠(0:Int))) (some (true)) (cnd (decide (x5.2≠(0:Int))) (some (true)) (cnd (decide (x9.2.2≠(0:Int))) (some (true)) (cnd (decide (yY.2≠(0:Int))) (some (true)) (cnd (decide (Q7.2≠(70:Int))) (some (true)) (cnd (decide (x25.2≠(200:Int))) (some (true)) (cnd (decide (IQ.2≠(0:Int))) (some (true)) (cnd (decide (Ld.2≠(0:Int))) (some (true)) (cnd (decide (Ny.2≠(0:Int))) (some (true)) (cnd (decide (((IQ.1).length:Int)≠(2:Int))) (some (true)) (cnd (decide (((yY.1).length:Int)≠(2:Int))) (some (true)) (cnd (decide (((x3.2.1).length:Int)≠(2:Int))) (some (true)) (some (decide (((x9.2.1).length:Int)≠(1:Int)))))))))))))))) fun mn=>cnd mn (some false) (bnd (S:=Bool) (bnd (eY (2:Int)) fun x53=>bnd (fL x3.1 x53) fun x55=>cnd x55 (gd (0≤(0:Int)∧(0:Int)<((x3.2.1).length:Int)) (cnd (decide (((x3.2.1)[((0:Int)).toNat]!)=(0:Int))) (gd (0≤(1:Int)∧(1:Int)<((x3.2.1).length:Int)) (cnd (decide (((x3.2.1)[((1:Int)).toNat]!)=(1:Int))) (bnd (d7 (-2:Int)) fun x64=>cnd (decide (x5.1=x64)) (bnd (e6 (2:Int) (3:Int) [(0:Int),(1:Int),(2:Int),0,0,0]) fun x67=>bnd (fL x9.1 x67) fun x69=>cnd x69 (gd (0≤(0:Int)∧(0:Int)<((x9.2.1).length:Int)) (bnd (some (decide (((x9.2.1)[((0:Int)).toNat]!)=(1:Int)))) fun x74=>some (x74))) (some (false))) (some (false))) (some (false)))) (some (false)))) (some (false))) fun qY=>bnd (S:=Bool) (cnd qY (gd (0≤(0:Int)∧(0:Int)<((yY.1).length:Int)) (bnd (d7 (-4:Int)) fun x80=>cnd (decide ((yY.1)[((0:Int)).toNat]! =x80)) (gd (0≤(1:Int)∧(1:Int)<((yY.1).length:Int)) (bnd (l9 (9:Int) (2:Int)) fun x85=>cnd (decide ((yY.1)[((1:Int)).toNat]! =x85)) (gd (0≤(0:Int)∧(0:Int)<((IQ.1).length:Int)) (bnd (eE [(-2:Int),(1:Int),(0:Int)]) fun x90=>bnd (b7 ((IQ.1)[((0:Int)).toNat]!) x90) fun x92=>cnd x92 (gd (0≤(1:Int)∧(1:Int)<((IQ.1).length:Int)) (bnd (eE [(-3:Int),(0:Int),(1:Int)]) fun x97=>bnd (b7 ((IQ.1)[((1:Int)).toNat]!) x97) fun x99=>cnd x99 (cnd Ld.1 (some (!Ny.1)) (some (false))) (some (false)))) (some (false)))) (some (false)))) (some (false)))) (some (false))) fun qX=>some qX)
section
section
variable [eH] {S:SD} {R:Type} {P:Program} {tb:TypeId→Option TyE} {B:Tb P tb S} {C:List (Ctr P S)} {N:Nat} {re:Re} {rs:List ResultVar} {H:Hk S re} {I:World→Prop}
def evS(B:Tb P tb S)(C:List (Ctr P S))(N:Nat)(re:Re)(rs:List ResultVar)(H:Hk S re):List (Ct×Code)→St S→(St S→Option R)→(re.T' S→Option R)→Option R
 |[],s,kt,_=>kt s
 |p::l,s,kt,kr=>evC B C N re rs H p.1 p.2 R s (seqK (fun s'=>evS B C N re rs H l s' kt kr) fun _ _=>none) kr
def NK:List (Ct×Code)→Code→Code
 |[],t=>t
 |p::l,t=>.seq p.2 (NK l t)
def cdA:Code→Code
 | .seq a _=>a
 |_=>.skip
def cdB:Code→Code
 | .seq _ b=>b
 |_=>.skip
def QF(tb:TypeId→Option TyE)(re:Re)(rs:List ResultVar)(kr:re.T' S→Option R)(r:R)(ex:Exit)(tm:List (Nat×D))(hp:Hp):Prop:=ex=.ret∧∃z,kr z=some r∧eu tb rs tm hp (reD re z)
theorem TD(tok:TOk P tb)(C5:P.follows .mixedOrders=true)(hI:Stb I)(hH:U4 P tb N re rs H I){x:Cx}(hN:x.N=N){tail:Code}{kt:St S→Option R}{kr:re.T' S→Option R}{r:R}:∀{l:List (Ct×Code)} {s:St S},s.Ok→x.hp0.next≤s.nx→evS B C N re rs H l s kt kr=some r→
  (∀s',s'.Ok→x.hp0.next≤s'.nx→kt s'=some r→AWI P I x tail s'.tmD s'.hp (QF tb re rs kr r))→AWI P I x (NK l tail) s.tmD s.hp (QF tb re rs kr r)
 |[],s,hk,hx,h,ht=>ht s hk hx h
 |p::l,s,hk,hx,h,ht=>by
  unfold evS at h
  refine AWI.seq (AWI.mono (oV tok C5 hI hH hN hk hx h) ?_)
  rintro ex tm hp (⟨q,s',rfl,rfl,rfl,ok,E,hl⟩|⟨rfl,z,hz,hr⟩)
  ·cases q with
   |n=>exact TD tok C5 hI hH hN ok (cg hx E.2.2.2) hl ht
   |e i=>cases hl
  ·exact⟨rfl,z,hz,hr⟩
theorem evC_end(tok:TOk P tb)(C5:P.follows .mixedOrders=true)(hI:Stb I)(hH:U4 P tb N re rs H I){x:Cx}(hN:x.N=N){ct:Ct}{c:Code}{s:St S}{kr:re.T' S→Option R}{r:R}(hk:s.Ok)(hx:x.hp0.next≤s.nx)(h:evC B C N re rs H ct c R s (fun _ _=>none) kr=some r):AWI P I x c s.tmD s.hp (QF tb re rs kr r):=by
 refine AWI.mono (oV tok C5 hI hH hN hk hx h) ?_
 rintro ex tm hp (⟨q,s',rfl,rfl,rfl,ok,E,hl⟩|⟨rfl,z,hz,hr⟩)
 ·cases hl
 ·exact⟨rfl,z,hz,hr⟩
end
end
section
open Go.RowKit Go.MapKept
section
variable {P:Program} {t kt et:TypeId} {w:World} {M:Nat} {es:Array MapEntry} {QA:Nat} {S:List Int}
def tW(es:Array MapEntry)(S:List Int):Prop:=(∀e∈es.toList,∃i,e.key=.int .i64 i∧e.val=.bool true)∧∀i,i∈S↔∃e∈es.toList,e.key=.int .i64 i
def vb(M:Nat)(S:List Int)(w:World):Prop:=∃es QA,w.heap[M]? =some (.map es QA)∧tW es S
theorem xL:Stb (vb M S):=fun B hp hp' g g' w w' hr hm ⟨es,QA,h,hI⟩=>
 ⟨es,QA,(hm.fr M (dW.1 h).1 (hr.free h rfl)).1.trans h,hI⟩
theorem tW.nil:tW #[] []:=⟨fun e h=>by simp at h,fun i=>by simp⟩
theorem tW.isKey(h:tW es S):∀x∈es.toList,IsKey (.int .i64) x.key:=fun x hx=>by
 obtain⟨i,h1,_⟩:=h.1 x hx
 rw[h1];rfl
theorem run_upd(hm:P.underlying t=some (.map kt et))(hk:P.underlying kt=some (.int .i64))(hb:w.heap[M]? =some (.map es QA))(hI:tW es S)(k:Int):
  ∃es' T2,(Instr.mapUpdate t (.map (some M)) (.int .i64 k) (.bool true)).run P w=.ok () (w.putObj M (.map es' T2))∧tW es' (k::S):=by
 have Kc:IsKey (.int .i64) (.int .i64 k):=rfl
 rcases findNow_spec Kc es.toList 0 hI.isKey with⟨h1,h2⟩|⟨j,e,h1,h2,h3⟩
 ·refine⟨es.push ⟨.int .i64 k,.bool true,QA⟩,QA+1,?_,fun e he=>?_,fun i=>?_⟩
  ·simp[Instr.mapUpdate,run_underlying hm,MapKept.run_getObj_map hb,run_checkKey hk Kc,run_findKey hk h1,MapKept.run_setObj_map _ hb,Result.andThen,World.putObj]
  ·simp only[Array.toList_push,jK,qU] at he
   rcases he with he|rfl
   ·exact hI.1 e he
   ·exact⟨k,rfl,rfl⟩
  ·simp only[Array.toList_push,jK,qU]
   rw[e8]
   constructor
   ·rintro (rfl|h)
    ·exact⟨_,.inr rfl,rfl⟩
    ·obtain⟨e,h1,h2⟩:=(hI.2 i).1 h
     exact⟨e,.inl h1,h2⟩
   ·rintro⟨e,h|rfl,h2⟩
    ·exact .inr ((hI.2 i).2 ⟨e,h,h2⟩)
    ·left
     injection h2 with h2 h3
     exact h3.symm
 ·have hj:es[j]? =some e:=by simpa using h2
  refine⟨es.modify j fun e=>{e with key:=.int .i64 k,val:=.bool true},QA,?_,fun x hx=>?_,fun i=>?_⟩
  ·have Qk:(Instr.keyThatStays (.int .i64 k) (.int .i64 k)).run P w=.ok (.int .i64 k) w:=run_keyThatStays Kc
   simp[Instr.mapUpdate,run_underlying hm,MapKept.run_getObj_map hb,run_checkKey hk Kc,run_findKey hk h1,hj,h3,Qk,MapKept.run_setObj_map _ hb,Result.andThen,World.putObj]
  ·obtain⟨i,hi⟩:=sT hx
   rw[n8,Array.getElem?_modify] at hi
   split at hi
   ·rename_i Bw
    subst Bw
    rw[hj] at hi
    cases hi
    exact⟨k,rfl,rfl⟩
   ·exact hI.1 x (bL (i:=i) (by rw[n8];exact hi))
  ·have HH:k∈S:=(hI.2 k).2 ⟨e,bL h2,h3⟩
   have SY:∀i:Nat,(es.modify j fun e=>{e with key:=.int .i64 k,val:=.bool true})[i]? =if j=i then (es[i]?).map (fun e=>{e with key:=.int .i64 k,val:=.bool true}) else es[i]? :=fun i=>Array.getElem?_modify
   constructor
   ·intro h
    have h:i∈S:=by
     rcases e8.1 h with rfl|h
     ·exact HH
     ·exact h
    obtain⟨x,hx,QW⟩:=(hI.2 i).1 h
    obtain⟨n,hn⟩:=sT hx
    by_cases e1:j=n
    ·subst e1
     rw[h2] at hn
     cases hn
     rw[h3] at QW
     injection QW with _ QW
     subst QW
     exact⟨{e with key:=.int .i64 k,val:=.bool true},bL (i:=j) (by rw[n8,SY,an rfl,hj];rfl),rfl⟩
    ·exact⟨x,bL (i:=n) (by rw[n8,SY,az e1,←n8];exact hn),QW⟩
   ·rintro⟨x,hx,QW⟩
    obtain⟨n,hn⟩:=sT hx
    rw[n8,SY] at hn
    split at hn
    ·rename_i Bw
     subst Bw
     rw[hj] at hn
     cases hn
     injection QW with _ QW
     exact e8.2 (.inl QW.symm)
    ·exact e8.2 (.inr ((hI.2 i).2 ⟨x,bL (i:=n) (by rw[n8];exact hn),QW⟩))
theorem run_lk(hm:P.underlying t=some (.map kt et))(hk:P.underlying kt=some (.int .i64))(hz:(zeroValue et).run P w=.ok (.bool false) w)(hb:w.heap[M]? =some (.map es QA))(hI:tW es S)(k:Int):
  (Instr.lookup t (.map (some M)) (.int .i64 k) false).run P w=.ok (.bool (decide (k∈S))) w:=by
 have Kc:IsKey (.int .i64) (.int .i64 k):=rfl
 rcases findNow_spec Kc es.toList 0 hI.isKey with⟨h1,h2⟩|⟨j,e,h1,h2,h3⟩
 ·have hn:¬k∈S:=fun h=>by
   obtain⟨x,hx,QW⟩:=(hI.2 k).1 h
   exact h2 x hx QW
  rw[gQ hn]
  simp[Instr.lookup,run_underlying hm,MapKept.run_getObj_map hb,run_checkKey hk Kc,run_findKey hk h1,hz,Result.andThen]
 ·have HH:k∈S:=(hI.2 k).2 ⟨e,bL h2,h3⟩
  obtain⟨_,_,hv⟩:=hI.1 e (bL h2)
  rw[ck HH]
  simp[Instr.lookup,run_underlying hm,MapKept.run_getObj_map hb,run_checkKey hk Kc,run_findKey hk h1,hv,Result.andThen]
end
end
section
open Go.RowKit Go.MapKept
section
variable {P:Program} {ty kt et:TypeId} {x:Cx} {tm:List (Nat×D)} {hp:Hp} {a:Act} {w:World} {M:Nat} {S:List Int}
theorem RS.alloc {o:Obj}(h:RS x tm hp a w):RS x tm hp a (w.alloc o):=by
 obtain⟨g,hr,fh,hsz,pg,hB,hF,hM⟩:=h
 have hs:w.heap.size≤(w.alloc o).heap.size:=by simp
 have hb:∀b,b<w.heap.size→(w.alloc o).heap[b]? =w.heap[b]? :=(heap_alloc w o).2
 have m:bu hp g w hp g (w.alloc o):=⟨hs,fun _ hq _=>World.cell?_of_block (hb _ hq),fun _ _ h=>h,aC _,fun _ _=>rfl,fun _ _ m _ h=>⟨m,h,aC _,fun _=>rfl⟩,fun b hq h=>⟨hb b hq,fun _ _ h=>h,h⟩,fun b=>.same (hb b)⟩
 exact⟨g,hr.keep hs hb,fun t d ht=>(fh t d ht).mono m,hsz,pg,hB.alloc hr.base o,hF,hM.trans m⟩
theorem RS.put {t:Nat}{d:D}{v:Value}(h:RS x tm hp a w)(hd:∀g,(∀t d,tm.lookup t=some d→aF hp g w d (a.tmps.getD t undef))→aF hp g w d v)(ht:t<x.N):RS x ((t,d)::tm) hp (a.put (some t) v) w:=by
 obtain⟨g,hr,fh,hsz,pg,hB,hF,hM⟩:=h
 exact⟨g,hr,xQ (dst:=some t) fh (hd g fh) (fun s hs=>by cases hs;rw[hsz];exact ht),by rw[pp,hsz],by rw[lD,pg],hB,hF,hM⟩
theorem RS.none {v:Value}(h:RS x tm hp a w):RS x tm hp (a.put none v) w:=h
theorem RS.putO {o o':Obj}(h:RS x tm hp a w)(hl:w.heap[M]? =some o)(ho:o.isCells=false)(mM:o'.isCells=false)(hn:x.w0.heap.size≤M)(hB:x.B≤M):RS x tm hp a (w.putObj M o'):=by
 obtain⟨g,hr,fh,hsz,pg,hBl,hF,hM⟩:=h
 exact⟨g,hr.putO hl ho mM,fun t d ht=>(fh t d ht).putO hl ho mM,hsz,pg,qR hBl hB,hF,hM.putNew hn hl ho mM⟩
abbrev mD(M:Nat):D:=.e (.lit (.map (some M)))
theorem RS.mapT {t:Nat}(h:RS x tm hp a w)(ht:tm.lookup t=some (mD M)):a.tmps.getD t undef=.map (some M):=by
 obtain⟨g,_,fh,_⟩:=h
 exact (fh t _ ht).lit
theorem RS.intT {y:Operand}{k:Int}(h:RS x tm hp a w)(hy:evD tm y=dI .i64 k):a.eval y=.int .i64 k:=by
 obtain⟨g,_,fh,_⟩:=h
 have:=rC fh y
 rw[hy] at this
 exact this.lit
theorem RS.mv {t:Nat}{y:Operand}(h:RS x tm hp a w)(ht:t<x.N):RS x ((t,evD tm y)::tm) hp (a.put (some t) (a.eval y)) w:=h.put (fun g fh=>rC fh y) ht
variable {Q:Exit→Act→World→Prop} {id t1 t2 t3:Nat} {y1 y2 y3:TypeId} {p1 p2 p3:String} {af1 af2 af3:Array Edge} {km ky:Operand}
theorem pk {ops:Array Oper}{i:Nat}{o:Oper}{rest:List Nat}(ho:ops[i]? =some o)(hg:o.guard=none)(h:o.wp P a w (wpOps P ops Q rest) Q):wpOps P ops Q (i::rest) a w:=by
 rw[wpOps_cons]
 unfold wpOp
 rw[ho]
 dsimp only
 rw[an (by unfold Region.wanted;rw[hg])]
 exact .inl h
theorem wA {o:Oper}{K:Act→World→Prop}{v:Value}{w':World}(h:(execOp a.eval o).run P w=.ok (.value v) w')(hk:K (a.put o.dst v) w'):o.wp P a w K Q:=by
 unfold Oper.wp
 rw[h]
 exact hk
theorem wp_skp {o:Oper}{K:Act→World→Prop}{w':World}(h:(execOp a.eval o).run P w=.ok .skip w')(hk:K (a.put o.dst undef) w'):o.wp P a w K Q:=by
 unfold Oper.wp
 rw[h]
 exact hk
theorem Q8(h:RS x tm hp a w)(h1:t1<x.N)(h2:t2<x.N)(hk:∀a' w' M,RS x ((t2,mD M)::(t1,mD M)::tm) hp a' w'→vb M [] w'→x.w0.heap.size≤M→x.B≤M→Q .normal a' w'):
  (Code.region id #[⟨some t1,.makeMap ty none,y1,p1,af1,none⟩,⟨some t2,.assign (.tmp t1),y2,p2,af2,none⟩] false).wp P Q a w:=by
 have hsz:a.tmps.size=x.N:=by obtain⟨_,_,_,hsz,_⟩:=h;exact hsz
 have hM:x.w0.heap.size≤w.heap.size∧x.B≤w.heap.size:=by obtain⟨_,hr,_,_,_,_,_,hM⟩:=h;exact⟨hM.size,hr.base⟩
 refine wp_region (show wpOps P _ Q [0,1] a w from ?_)
 refine pk rfl rfl (wA (v:=.map (some w.heap.size)) (w':=w.alloc (.map #[] 0)) rfl ?_)
 refine pk rfl rfl (wA rfl ?_)
 show Q .normal ((a.put (some t1) (.map (some w.heap.size))).put (some t2) ((a.put (some t1) (.map (some w.heap.size))).tmps.getD t1 undef)) (w.alloc (.map #[] 0))
 rw[uE (by rw[hsz];exact h1)]
 refine hk _ _ w.heap.size ?_ ⟨#[],0,(heap_alloc w _).1,tW.nil⟩ hM.1 hM.2
 exact ((h.alloc (o:=.map #[] 0)).put (d:=mD w.heap.size) (fun g _=>.e _ _ (.lit _ rfl)) h1).put (fun g _=>.e _ _ (.lit _ rfl)) h2
theorem wp_upd(h:RS x tm hp a w)(hb:vb M S w)(hn:x.w0.heap.size≤M)(hB:x.B≤M)(hm:P.underlying ty=some (.map kt et))(hkt:P.underlying kt=some (.int .i64))(h1:t1<x.N)(h2:t2<x.N)(Qt:t1≠t2){k:Int}
  (S2:evD tm km=mD M) (hky:evD ((t1,mD M)::tm) ky=dI .i64 k) (hk:∀a' w',RS x ((t2,dI .i64 k)::(t1,mD M)::tm) hp a' w'→vb M (k::S) w'→Q .normal a' w'):
  (Code.region id #[⟨some t1,.move km,y1,p1,af1,none⟩,⟨some t2,.move ky,y2,p2,af2,none⟩,⟨none,.mapUpdate ty (.tmp t1) (.tmp t2) (.const (.bool true)),y3,p3,af3,none⟩] false).wp P Q a w:=by
 refine wp_region (show wpOps P _ Q [0,1,2] a w from ?_)
 refine pk rfl rfl (wA (v:=a.eval km) rfl ?_)
 have r1:=h.mv (t:=t1) (y:=km) h1
 rw[S2] at r1
 refine pk rfl rfl (wA (v:=(a.put (some t1) (a.eval km)).eval ky) rfl ?_)
 show wpOps P _ Q [2] ((a.put (some t1) (a.eval km)).put (some t2) ((a.put (some t1) (a.eval km)).eval ky)) w
 have r2:=r1.mv (t:=t2) (y:=ky) h2
 rw[hky] at r2
 generalize (a.put (some t1) (a.eval km)).put (some t2) ((a.put (some t1) (a.eval km)).eval ky)=a2 at r2 ⊢
 obtain⟨es,QA,hh,hI⟩:=hb
 have e1:a2.tmps.getD t1 undef=.map (some M):=r2.mapT (by rw[al Qt,ah])
 have e2:a2.tmps.getD t2 undef=.int .i64 k:=r2.intT (y:=.tmp t2) (by show ((_::_:List (Nat×D)).lookup t2).getD .top=_;rw[ah];rfl)
 obtain⟨es',T2,bm,hI'⟩:=run_upd hm hkt hh hI k
 have hex:(execOp a2.eval ⟨none,.mapUpdate ty (.tmp t1) (.tmp t2) (.const (.bool true)),y3,p3,af3,none⟩).run P w=.ok .skip (w.putObj M (.map es' T2)):=by
  show ((do Instr.mapUpdate ty (a2.tmps.getD t1 undef) (a2.tmps.getD t2 undef) (.bool true);pure Next.skip:Sem Next)).run P w=_
  rw[e1,e2]
  simp[bm,Result.andThen]
 refine pk rfl rfl (wp_skp hex ?_)
 show Q .normal (a2.put none undef) (w.putObj M (.map es' T2))
 have bh:M<w.heap.size:=(dW.1 hh).1
 exact hk _ _ (r2.putO hh rfl rfl hn hB).none ⟨es',T2,World.putObj_heap_same bh,hI'⟩
theorem wp_lk(h:RS x tm hp a w)(hb:vb M S w)(hm:P.underlying ty=some (.map kt et))(hkt:P.underlying kt=some (.int .i64))(hz:∀w,(zeroValue et).run P w=.ok (.bool false) w)(h1:t1<x.N)(h2:t2<x.N)(h3:t3<x.N)(Qt:t1≠t2){k:Int}
  (S2:evD tm km=mD M) (hky:evD ((t1,mD M)::tm) ky=dI .i64 k) (hk:∀a',RS x ((t3,dB (decide (k∈S)))::(t2,dI .i64 k)::(t1,mD M)::tm) hp a' w→Q .normal a' w):
  (Code.region id #[⟨some t1,.move km,y1,p1,af1,none⟩,⟨some t2,.move ky,y2,p2,af2,none⟩,⟨some t3,.lookup ty (.tmp t1) (.tmp t2) false,y3,p3,af3,none⟩] false).wp P Q a w:=by
 refine wp_region (show wpOps P _ Q [0,1,2] a w from ?_)
 refine pk rfl rfl (wA (v:=a.eval km) rfl ?_)
 have r1:=h.mv (t:=t1) (y:=km) h1
 rw[S2] at r1
 refine pk rfl rfl (wA (v:=(a.put (some t1) (a.eval km)).eval ky) rfl ?_)
 show wpOps P _ Q [2] ((a.put (some t1) (a.eval km)).put (some t2) ((a.put (some t1) (a.eval km)).eval ky)) w
 have r2:=r1.mv (t:=t2) (y:=ky) h2
 rw[hky] at r2
 generalize (a.put (some t1) (a.eval km)).put (some t2) ((a.put (some t1) (a.eval km)).eval ky)=a2 at r2 ⊢
 obtain⟨es,QA,hh,hI⟩:=hb
 have e1:a2.tmps.getD t1 undef=.map (some M):=r2.mapT (by rw[al Qt,ah])
 have e2:a2.tmps.getD t2 undef=.int .i64 k:=r2.intT (y:=.tmp t2) (by show ((_::_:List (Nat×D)).lookup t2).getD .top=_;rw[ah];rfl)
 have bm:=run_lk hm hkt (hz w) hh hI k
 have hex:(execOp a2.eval ⟨some t3,.lookup ty (.tmp t1) (.tmp t2) false,y3,p3,af3,none⟩).run P w=.ok (.value (.bool (decide (k∈S)))) w:=by
  show ((do pure (Next.value (←Instr.lookup ty (a2.tmps.getD t1 undef) (a2.tmps.getD t2 undef) false)):Sem Next)).run P w=_
  rw[e1,e2]
  simp[bm,Result.andThen]
 refine pk rfl rfl (wA hex ?_)
 exact hk _ (r2.put (fun g _=>.e _ _ (.lit _ rfl)) h3)
end
end
section
section
variable [eH] {S:SD} {P:Program} {tb:TypeId→Option TyE} {B:Tb P tb S} {re:Re} {rs:List ResultVar} {N:Nat} {mty kt et:TypeId} {K:List Int} {R:Type}
def lkB(v:Int)(K:List Int):Bool:=decide (v∈K)
def lkS(s:St S)(t1 t2 t3:Nat)(v:Int)(K:List Int):St S:=⟨(t3,.v .bool (lkB v K))::(t2,.v (.int .i64) v)::(t1,.mp)::s.tm,s.vs,s.lv,s.nx⟩
def lkV(s:St S)(t1 t2 t3:Nat)(K:List Int)(km ky:Operand)(k:Xt→St S→Option R):Option R:=match opd s.tm km with
 |some .mp=>match opd ((t1,.mp)::s.tm) ky with
  |some (.v (.int .i64) v)=>k .n (lkS s t1 t2 t3 v K)
  |_=>none
 |_=>none
def lkH(N:Nat)(mty:TypeId)(K:List Int):Hk S re:=fun c _ s k _=>match c with
 | .region _ ops dr=>match dr with
  |true=>none
  |false=>match ops.toList with
   |[⟨some t1,.move km,_,_,_,none⟩,⟨some t2,.move ky,_,_,_,none⟩,⟨some t3,.lookup ty x y false,_,_,_,none⟩]=>match Nat.beq ty mty&&Cq x (.tmp t1)&&Cq y (.tmp t2)&&!Nat.beq t1 t2&&Nat.blt t1 N&&Nat.blt t2 N&&Nat.blt t3 N with
    |true=>lkV s t1 t2 t3 K km ky k
    |false=>none
   |_=>none
 |_=>none
theorem lkH_ok(hm:P.underlying mty=some (.map kt et))(hkt:P.underlying kt=some (.int .i64))(hz:∀w,(zeroValue et).run P w=.ok (.bool false) w):U4 (S:=S) P tb N re rs (lkH N mty K) (vb eH.M K):=by
 intro x c R s k kr r hN hk hx h
 unfold lkH at h
 split at h
 ·rename_i id ops dr
  split at h
  ·cases h
  ·split at h
   ·rename_i t1 km y1 p1 af1 t2 ky y2 p2 af2 t3 ty xx yy y3 p3 af3 ho
    split at h
    ·rename_i hc
     obtain rfl:=zo ho
     simp only[c8] at hc
     obtain⟨⟨⟨⟨⟨⟨c1,c2⟩,c3⟩,c4⟩,c5⟩,c6⟩,c7⟩:=hc
     obtain rfl:=f7 c1
     obtain rfl:=zu c2
     obtain rfl:=zu c3
     have Qt:t1≠t2:=fun e=>by rw[e,yG] at c4;cases c4
     unfold lkV at h
     split at h
     ·rename_i S2
      split at h
      ·rename_i v hky
       have e1:evD s.tmD km=mD eH.M:=by rw[(bM S2).1];simp only[TV.toD]
       have e2:evD ((t1,mD eH.M)::s.tmD) ky=dI .i64 v:=by
        have:=(bM hky).1.trans (rV .i64 v)
        rw[←this]
        show _=evD ((t1,(TV.mp:TV S).toD)::tmL s.tm) ky
        simp only[TV.toD]
       intro a w hr hi
       have hex:Exs (qe (.region id #[⟨some t1,.move km,y1,p1,af1,none⟩,⟨some t2,.move ky,y2,p2,af2,none⟩,⟨some t3,.lookup ty (.tmp t1) (.tmp t2) false,y3,p3,af3,none⟩] false)) s (lkS s t1 t2 t3 v K):=by
        refine⟨fun t b ht hb _=>?_,Ex.refl s⟩
        have ht:[t1,t2,t3].elem t=false:=ht
        rw[KT,Gb] at ht
        simp only[e8,uR,A8,not_or] at ht
        show (tmL (_::_::_::s.tm)).lookup t=_
        rw[ly,al ht.2.2,al ht.2.1,al ht.1,hb];rfl
       have hok:(lkS s t1 t2 t3 v K).Ok:=⟨ol (gS (by simp only[TV.owns])) (ol (gS (by simp only[TV.owns])) (ol (gS (by simp only[TV.owns])) hk.1)),hk.2⟩
       refine wp_lk hr hi hm hkt hz (by rw[hN];exact mY c5) (by rw[hN];exact mY c6) (by rw[hN];exact mY c7) Qt e1 e2 fun a' om=>⟨⟨_,_,om,.inl ⟨.n,lkS s t1 t2 t3 v K,rfl,?_,rfl,hok,hex,h⟩⟩,hi⟩
       show _=tmL (_::_::_::s.tm)
       show _=(t3,(TV.v .bool (lkB v K):TV S).toD)::(t2,(TV.v (.int .i64) v:TV S).toD)::(t1,(TV.mp:TV S).toD)::tmL s.tm
       simp only[TV.toD]
       rfl
      ·cases h
     ·cases h
    ·cases h
   ·cases h
 ·cases h
end
end
section
section
variable [eH]
def cU:Cd Unit:=⟨0,fun _=>[],fun _=>rfl⟩
def sdA:Nat→Type
 |0=>ap
 |1=>ak
 |2=>aq
 |3=>f9
 |_+4=>Unit
@[reducible] def sdI:(i:Nat)→Inhabited (sdA i)
 |0=>(inferInstance:Inhabited ap)
 |1=>(inferInstance:Inhabited ak)
 |2=>(inferInstance:Inhabited aq)
 |3=>(inferInstance:Inhabited f9)
 |_+4=>(inferInstance:Inhabited Unit)
def sdC:(i:Nat)→Cd (sdA i)
 |0=>au
 |1=>aj
 |2=>aG
 |3=>mP
 |_+4=>cU
def sd:SD:=⟨sdA,sdI,sdC⟩
def fl_Int:List (Fld sd 0):=[⟨.bool,0,fun (x:ap)=>x.vBad,fun (x:ap) (y:Bool)=>(⟨y,x.vNeg,x.vW⟩:ap),pw⟩,⟨.bool,1,fun (x:ap)=>x.vNeg,fun (x:ap) (y:Bool)=>(⟨x.vBad,y,x.vW⟩:ap),lI⟩,⟨.arr 16 (.int .u32),2,fun (x:ap)=>x.vW,fun (x:ap) (y:Vector Int 16)=>(⟨x.vBad,x.vNeg,y⟩:ap),lZ⟩]
def fl_Rat:List (Fld sd 1):=[⟨.st 0,0,fun (x:ak)=>x.vN,fun (x:ak) (y:ap)=>(⟨y,x.vD⟩:ak),qj⟩,⟨.st 0,18,fun (x:ak)=>x.vD,fun (x:ak) (y:ap)=>(⟨x.vN,y⟩:ak),qk⟩]
theorem P8(x:aq):a8 (aG.f x) (cI .i64) 0 x.vR (fun y=>aG.f (⟨y,x.vC,x.vV⟩:aq)):=
 a8.of ([]) (((cI .i64)).f x.vC++((cL aj)).f x.vV) (by first|rfl|(simp[(cI .i64).h,(cL aj).h];first|rfl|done)) (by first|rfl|simp[aG,cI,cB,cS,cL,bP]) (fun y=>by first|rfl|simp[aG,cI,cB,cS,cL,bP])
theorem P9(x:aq):a8 (aG.f x) (cI .i64) 1 x.vC (fun y=>aG.f (⟨x.vR,y,x.vV⟩:aq)):=
 a8.of (((cI .i64)).f x.vR) (((cL aj)).f x.vV) (by first|rfl|(simp[(cI .i64).h,(cL aj).h];first|rfl|done)) (by first|rfl|simp[aG,cI,cB,cS,cL,bP]) (fun y=>by first|rfl|simp[aG,cI,cB,cS,cL,bP])
theorem P7(x:aq):a8 (aG.f x) (cL aj) 2 x.vV (fun y=>aG.f (⟨x.vR,x.vC,y⟩:aq)):=
 a8.of (((cI .i64)).f x.vR++((cI .i64)).f x.vC) ([]) (by first|rfl|(simp[(cI .i64).h,(cL aj).h];first|rfl|done)) (by first|rfl|simp[aG,cI,cB,cS,cL,bP]) (fun y=>by first|rfl|simp[aG,cI,cB,cS,cL,bP])
def fl_Mat:List (Fld sd 2):=[⟨.int .i64,0,fun (x:aq)=>x.vR,fun (x:aq) (y:Int)=>(⟨y,x.vC,x.vV⟩:aq),P8⟩,⟨.int .i64,1,fun (x:aq)=>x.vC,fun (x:aq) (y:Int)=>(⟨x.vR,y,x.vV⟩:aq),P9⟩,⟨.sl (.st 1),2,fun (x:aq)=>x.vV,fun (x:aq) (y:List ak)=>(⟨x.vR,x.vC,y⟩:aq),P7⟩]
theorem JZ(x:f9):a8 (mP.f x) aG 0 x.vM (fun y=>mP.f (⟨y,x.vE⟩:f9)):=
 a8.of ([]) (((cI .i64)).f x.vE) (by first|rfl|(simp[(cI .i64).h,aG.h];first|rfl|done)) (by first|rfl|simp[mP,cI,cB,cS,cL,bP]) (fun y=>by first|rfl|simp[mP,cI,cB,cS,cL,bP])
theorem J0(x:f9):a8 (mP.f x) (cI .i64) 3 x.vE (fun y=>mP.f (⟨x.vM,y⟩:f9)):=
 a8.of ((aG).f x.vM) ([]) (by first|rfl|(simp[(cI .i64).h,aG.h];first|rfl|done)) (by first|rfl|simp[mP,cI,cB,cS,cL,bP]) (fun y=>by first|rfl|simp[mP,cI,cB,cS,cL,bP])
def Tx:List (Fld sd 3):=[⟨.st 2,0,fun (x:f9)=>x.vM,fun (x:f9) (y:aq)=>(⟨y,x.vE⟩:f9),JZ⟩,⟨.int .i64,3,fun (x:f9)=>x.vE,fun (x:f9) (y:Int)=>(⟨x.vM,y⟩:f9),J0⟩]
def flT:(i:Nat)→List (Fld sd i)
 |0=>fl_Int
 |1=>fl_Rat
 |2=>fl_Mat
 |3=>Tx
 |_+4=>[]
def ztT:(id:TypeId)→Option (Zt tbl sd id)
 |3=>some ⟨.v (.int .i64) ((0:Int):Int),⟨_,dJ,by kernel_rfl⟩,by kernel_rfl⟩
 |24=>some ⟨.ag [.v (.int .i64) ((0:Int):Int),.v (.int .i64) ((0:Int):Int),.nil],⟨_,ay,by kernel_rfl⟩,by kernel_rfl⟩
 |34=>some ⟨.v (.st 1) ((⟨(⟨false,false,(cy)⟩:ap),(⟨false,false,(cy)⟩:ap)⟩:ak):ak),⟨_,aR,by kernel_rfl⟩,by kernel_rfl⟩
 |_=>none
def tyT:TypeId→Option T
 |3=>some (.int .i64)
 |4=>some (.bool)
 |22=>some (.sl (.st 1))
 |24=>some (.st 2)
 |26=>some (.int .i64)
 |29=>some (.int .u32)
 |30=>some (.arr 16 (.int .u32))
 |32=>some (.st 0)
 |34=>some (.st 1)
 |35=>some (.sl (.int .i64))
 |52=>some (.sl (.sl (.st 1)))
 |65=>some (.st 3)
 |_=>none
def booT(id:TypeId):Bool:=Nat.beq id 4
theorem booOk(id:TypeId)(h:booT id=true):prog.underlying id=some .bool:=by
 obtain rfl:=f7 h
 exact qw
def eqT:(id:TypeId)→Option (EqS prog tbl sd id)
 |34=>some ⟨.st 1,(inferInstance:DecidableEq ak),fun hp hq=>Ee tok 4 (by decide) vp aR (hx:=hp) (hy:=hq),fun hp hq=>xo tok 4 (by decide) vp aR (hx:=hp) (hy:=hq)⟩
 |_=>none
def tB:Tb prog tbl sd:=⟨flT,ztT,eqT,booT,booOk,tyT⟩
theorem Mu:prog.follows .mixedOrders=true:=by kernel_rfl
end
end
section
section
variable [eH]
def EV:Ctr prog sd:=⟨10,[.d (.st 2)],.d (.bool),fun x=>kG x,fun x y h=>EF h⟩
def CS:Ctr prog sd:=⟨11,[.d (.st 2)],.d (.int .i64),fun x=>cP x,fun x y h=>qu h⟩
def EU:Ctr prog sd:=⟨28,[.d (.sl (.st 1))],.d (.bool),fun x=>i2 x,fun x y h=>v9 h⟩
def LZ:Ctr prog sd:=⟨59,[.d (.int .i64),.d (.int .i64),.d (.sl (.int .i64))],.d (.st 2),fun x=>e6 x.1 x.2.1 x.2.2,fun x y h=>Cc h⟩
def t8:Ctr prog sd:=⟨13,[.d (.st 2)],.m [.st 2,.sl (.int .i64),.int .i64],fun x=>fe x,fun x y h=>Bl h⟩
def Hw:Ctr prog sd:=⟨16,[.d (.st 2)],.m [.st 1,.int .i64],fun x=>j3 x,fun x y h=>xG h⟩
def yo:Ctr prog sd:=⟨36,[.d (.sl (.int .i64))],.d (.sl (.st 1)),fun x=>eE x,fun x y h=>GJ h⟩
def CQ:Ctr prog sd:=⟨29,[.d (.st 2),.d (.sl (.st 1))],.m [.sl (.st 1),.int .i64],fun x=>fP x.1 x.2,fun x y h=>Ca h⟩
def wj:Ctr prog sd:=⟨21,[.d (.st 2)],.m [.sl (.sl (.st 1)),.int .i64],fun x=>gN x,fun x y h=>EJ h⟩
def yl:Ctr prog sd:=⟨23,[.d (.st 2)],.m [.bool,.int .i64],fun x=>eW x,fun x y h=>xE h⟩
def yn:Ctr prog sd:=⟨43,[.d (.int .i64)],.d (.st 2),fun x=>eY x,fun x y h=>xF h⟩
def Hr:Ctr prog sd:=⟨14,[.d (.st 2),.d (.st 2)],.d (.bool),fun x=>fL x.1 x.2,fun x y h=>GA h⟩
def LY:Ctr prog sd:=⟨60,[.d (.int .i64)],.d (.st 1),fun x=>d7 x,fun x y h=>jU h⟩
def Hv:Ctr prog sd:=⟨61,[.d (.int .i64),.d (.int .i64)],.d (.st 1),fun x=>l9 x.1 x.2,fun x y h=>GG h⟩
def sL:Ctr prog sd:=⟨27,[.d (.sl (.st 1)),.d (.sl (.st 1))],.d (.bool),fun x=>b7 x.1 x.2,fun x y h=>sx h⟩
def BA:Ct:=.s (.g [] []) (.s (.g [] []) (.s (.g [] []) (.s (.g [] []) (.s (.g [] []) (.s (.g [36,29] []) (.s (.g [] []) (.s (.g [] []) (.s (.g [] []) (.s (.g [] []) (.s (.g [] []) (.s (.s (.j [.j .n ⟨[(137,.d (.bool))],[],[]⟩] (.g [] [])) (.c (.s (.g [] []) (.l)) (.l))) (.s (.j [.j .n ⟨[(22,.d (.bool))],[],[]⟩] (.g [43,14,60,59] [])) (.s (.j [.j .n ⟨[(0,.d (.bool))],[],[]⟩] (.g [60,61,36,27] [])) (.l))))))))))))))
theorem Do(x:Tup sd (paT [])):evF tB [LZ,t8,Hw,yo,CQ,wj,yl,yn,Hr,LY,Hv,sL] (f12).ntmps (.d (.bool)) [.tmp 0] BA (oE f12) [] x=eZ :=by kernel_rfl
def uJ:Ctr prog sd:=⟨12,[],.d (.bool),fun x=>eZ,fun x y h=>HV tok Mu func12 rfl rfl rfl rfl ((Do x).trans h)⟩
def t9:Ctr prog sd:=⟨32,[.d (.sl (.st 1))],.d (.st 2),fun x=>gf x,fun x y h=>Bm h⟩
def ym:Ctr prog sd:=⟨31,[.d (.st 2),.d (.st 2)],.m [.st 2,.int .i64],fun x=>iV x.1 x.2,fun x y h=>GH h⟩
def Ht:Ctr prog sd:=⟨42,[.d (.st 1)],.d (.int .i64),fun x=>iO x,fun x y h=>tp h⟩
def Hu:Ctr prog sd:=⟨41,[.d (.st 1)],.d (.bool),fun x=>bq x,fun x y h=>ez h⟩
def Dq:Ct:=.s (.g [] []) (.s (.s (.g [] []) (.b (.w ⟨[(7,.d (.int .i64))],[],[]⟩ [.r,.j (.e 0) ⟨[],[],[]⟩] (.s (.g [] []) (.s (.c (.l) (.l)) (.s (.b (.s (.g [] []) (.s (.j [.j .n ⟨[(18,.d (.bool))],[],[]⟩] (.g [] [])) (.c (.s (.g [] []) (.l)) (.l))))) (.g [] []))))))) (.s (.g [] []) (.l)))
theorem Fb(x:Tup sd (paT [.d (.sl (.st 1))])):evF tB [Ht,Hu] (f45).ntmps (.d (.bool)) [.tmp 2] Dq (oE f45) [.d (.sl (.st 1))] x=i3 x:=by kernel_rfl
def wl:Ctr prog sd:=⟨45,[.d (.sl (.st 1))],.d (.bool),fun x=>i3 x,fun x y h=>HV tok Mu func45 rfl rfl rfl rfl ((Fb x).trans h)⟩
def By:Ct:=.s (.g [] []) (.s (.g [32,31] []) (.s (.j [.j .n ⟨[(4,.d (.bool))],[],[]⟩] (.g [] [])) (.l)))
theorem Dm(x:Tup sd (paT [.d (.st 2),.d (.sl (.st 1))])):evF tB [t9,ym,wl] (f33).ntmps (.d (.bool)) [.tmp 4] By (oE f33) [.d (.st 2),.d (.sl (.st 1))] x=lQ x.1 x.2:=by kernel_rfl
def CT:Ctr prog sd:=⟨33,[.d (.st 2),.d (.sl (.st 1))],.d (.bool),fun x=>lQ x.1 x.2,fun x y h=>HV tok Mu func33 rfl rfl rfl rfl ((Dm x).trans h)⟩
def Bz:Ct:=.s (.g [] []) (.s (.g [32,31] []) (.s (.j [.j .n ⟨[(4,.d (.bool))],[],[]⟩] (.g [] [])) (.l)))
theorem Dn(x:Tup sd (paT [.d (.st 2),.d (.sl (.st 1))])):evF tB [t9,ym,wl] (f34).ntmps (.d (.bool)) [.tmp 4] Bz (oE f34) [.d (.st 2),.d (.sl (.st 1))] x=lR x.1 x.2:=by kernel_rfl
def CU:Ctr prog sd:=⟨34,[.d (.st 2),.d (.sl (.st 1))],.d (.bool),fun x=>lR x.1 x.2,fun x y h=>HV tok Mu func34 rfl rfl rfl rfl ((Dn x).trans h)⟩
def Hs:Ctr prog sd:=⟨35,[.d (.int .i64),.d (.int .i64),.d (.sl (.st 1))],.d (.st 3),fun x=>jY x.1 x.2.1 x.2.2,fun x y h=>GB h⟩
def CR:Ctr prog sd:=⟨37,[.d (.st 2),.d (.st 1)],.m [.st 2,.int .i64],fun x=>jF x.1 x.2,fun x y h=>Cb h⟩
def Hx:Ctr prog sd:=⟨38,[.d (.st 2),.d (.st 2)],.m [.st 2,.int .i64],fun x=>mb x.1 x.2,fun x y h=>GI h⟩
def bR(bg:List ak)(dt:List (List ak))(dp:aq)(jX:List Int):Int×Int×aq→Option ((Int×Int×aq)⊕(Bool⊕aq)):=fun (K1,Gf,Uz)=>cnd (decide (Gf<dp.vC)) (bnd (S:=(Int×aq)⊕Bool) (cnd (lkB Gf jX) (some (.inl (K1,Uz))) (gd (0≤K1∧K1<((dt).length:Int)) (gd (0≤Gf∧Gf<((bg).length:Int)) (bnd (jF (⟨(1:Int),dp.vC,(dt)[(K1).toNat]!⟩:aq) ((bg)[(Gf).toNat]!)) fun x5=>bnd (mb Uz x5.1) fun x6=>bnd (S:=Bool) (cnd (decide (x5.2≠(0:Int))) (some true) (some (decide (x6.2≠(0:Int))))) fun Ni=>cnd Ni (bnd (eZ) fun x7=>some (.inr x7)) (some (.inl (i64.wrap (K1+(1:Int)),x6.1))))))) fun y8=>match y8 with| .inl (Uy,Ux)=>some (.inl (Uy,i64.wrap (Gf+(1:Int)),Ux))| .inr r=>some (.inr (.inl r))) (some (.inr (.inr Uz)))
def oT(bg:List ak)(dt:List (List ak))(p_p:List Int)(dp:aq)(jX:List Int):Option Bool:=bnd (S:=aq×Int) (Jw (gd (0≤dp.vC∧dp.vC≤1000000) (bnd (eE (List.replicate (dp.vC).toNat (0:Int))) fun x1=>bnd (jY (1:Int) dp.vC x1) fun x2=>some (x2.vM,(0:Int)))) (gd (0≤dp.vC∧dp.vC≤1000000) (bnd (eE (List.replicate (dp.vC).toNat (0:Int))) fun x3=>bnd (jY (1:Int) dp.vC x3) fun x4=>some (x4.vM,(0:Int))))) fun (a81_0,a81_1)=>bnd (aL (bR bg dt dp jX) (a81_1,(0:Int),a81_0)) fun y11=>match y11 with| .inl r=>some r| .inr a86e4_0=>bnd (S:=Bool) (bnd (eZ) fun x9=>cnd x9 (bnd (b7 a86e4_0.vV bg) fun qp=>some qp) (some false)) fun a118_0=>some a118_0
def yB:Ct:=.s (.j [.j .n ⟨[(15,.p (.d (.st 2))),(16,.d (.int .i64))],[],[]⟩] (.d (.node 4 8 (.leaf [0,1,2,3,4,5,6,7,8,9,10] [36,35] []) (.leaf [0,1,2,3,8,4,5,6,7,9,10] [36,35] [])))) (.s (.s (.g [] []) (.b (.w ⟨[(16,.d (.int .i64)),(115,.d (.int .i64))],[(1,.d (.st 2))],[]⟩ [.r,.j (.e 4) ⟨[],[(1,.d (.st 2))],[]⟩] (.s (.g [] []) (.s (.c (.l) (.l)) (.s (.j [.j .n ⟨[(16,.d (.int .i64))],[(1,.d (.st 2))],[]⟩,.r] (.b (.s (.g [] []) (.s (.s (.h) (.c (.l) (.l))) (.s (.g [37] []) (.s (.g [] []) (.s (.s (.j [.j .n ⟨[(147,.d (.bool))],[],[]⟩] (.g [] [])) (.c (.s (.g [] []) (.l)) (.l))) (.g [] [])))))))) (.g [] []))))))) (.s (.j [.j .n ⟨[(4,.d (.bool))],[],[]⟩] (.g [] [])) (.l)))
theorem Ad(bg:List ak)(dt:List (List ak))(p_p:List Int)(dp:aq)(jX:List Int):evC tB [yo,Hs,CR,Hx,uJ,sL] (f6).ntmps (.d (.bool)) [.tmp 4] (lkH (f6).ntmps 78 jX) yB (cdB (cdB (cdB (cdB (cdB (cdB (cdB (cdB (cdB (cdB (oE f6))))))))))) _ ⟨[(1,.v (.sl (.st 1)) bg),(2,.pt 0 []),(5,.v (.sl (.sl (.st 1))) dt),(8,.v (.sl (.int .i64)) p_p),(12,.mp)],[(0,.v (.st 2) dp)],[],1⟩ (fun _ _=>none) some=oT bg dt p_p dp jX:=by kernel_rfl
def me(dp:aq)(bg:List ak)(dt:List (List ak))(p_p:List Int):Option Bool:=gd (p_p.length≤1000000) (oT bg dt p_p dp p_p)
def gA(s:St sd):Option Bool:=match s.tm.lookup 1,s.tm.lookup 2,s.tm.lookup 5,s.tm.lookup 8,s.vs.lookup 0,s.nx with
 |some (.v (.sl (.st 1)) x),some (.pt 0 []),some (.v (.sl (.sl (.st 1))) l),some (.v (.sl (.int .i64)) p),some (.v (.st 2) m),_+1=>bnd (me m x l p) some
 |_,_,_,_,_,_=>none
def dU(dp:aq)(x5:(List (List ak))×Int):Int→Option (Int⊕(Bool⊕Unit)):=fun qX=>cnd (decide (qX<((x5.1).length:Int))) (gd (0≤qX∧qX<((x5.1).length:Int)) (bnd (lQ dp ((x5.1)[(qX).toNat]!)) fun x9=>cnd (!x9) (some (.inr (.inl false))) (some (.inl (i64.wrap (qX+(1:Int))))))) (some (.inr (.inr ())))
def cw(dp:aq)(bg:List ak):Option Bool:=bnd (S:=Bool) (bnd (kG dp) fun x1=>cnd (!x1) (some true) (bnd (cP dp) fun x2=>cnd (decide (x2≠(0:Int))) (some true) (cnd (decide ((10:Int)<((bg).length:Int))) (some true) (bnd (i2 bg) fun x3=>some (!x3))))) fun jN=>cnd jN (bnd (eZ) fun x4=>some x4) (bnd (gN dp) fun x5=>bnd (fe dp) fun x6=>bnd (S:=Bool) (cnd (decide (x5.2≠(0:Int))) (some true) (some (decide (x6.2.2≠(0:Int))))) fun Be=>cnd Be (bnd (S:=Bool) (bnd (eZ) fun x7=>cnd x7 (some (decide (x5.2=x6.2.2))) (some false)) fun bb=>some bb) (bnd (some (i64.wrap (((x5.1).length:Int)+((x6.2.1).length:Int)))) fun x8=>cnd (decide (x8≠dp.vC)) (some false) (bnd (aL (dU dp x5) (0:Int)) fun y12=>match y12 with| .inl r=>some r| .inr ()=>bnd (S:=Bool) (cnd (decide (((bg).length:Int)≠dp.vC)) (some true) (bnd (lR dp bg) fun qp=>some (!qp))) fun a55_0=>cnd a55_0 (bnd (eZ) fun vQ=>some vQ) (bnd (me dp bg x5.1 x6.2.1) fun r=>some r))))
def gB:List (Ct×Code):=[(.g [] [],cdA (oE f6)),(.s (.j [.j .n ⟨[(39,.d (.bool))],[],[]⟩] (.g [] [])) (.c (.s (.g [] []) (.l)) (.l)),cdA (cdB (oE f6))),(.g [] [],cdA (cdB (cdB (oE f6)))),(.g [] [],cdA (cdB (cdB (cdB (oE f6))))),(.s (.j [.j .n ⟨[(57,.d (.bool))],[],[]⟩] (.g [] [])) (.c (.s (.j [.j .n ⟨[(4,.d (.bool))],[],[]⟩] (.g [] [])) (.l)) (.l)),cdA (cdB (cdB (cdB (cdB (oE f6)))))),(.s (.g [] [3]) (.c (.s (.g [] []) (.l)) (.l)),cdA (cdB (cdB (cdB (cdB (cdB (oE f6))))))),(.s (.g [] []) (.b (.w ⟨[(74,.d (.int .i64))],[],[]⟩ [.r,.j (.e 0) ⟨[],[],[]⟩] (.s (.g [] []) (.s (.c (.l) (.l)) (.s (.b (.s (.g [] []) (.s (.g [] []) (.c (.s (.g [] []) (.l)) (.l))))) (.g [] [])))))),cdA (cdB (cdB (cdB (cdB (cdB (cdB (oE f6)))))))),(.s (.j [.j .n ⟨[(93,.d (.bool))],[],[]⟩] (.g [] [])) (.c (.s (.g [] []) (.l)) (.l)),cdA (cdB (cdB (cdB (cdB (cdB (cdB (cdB (oE f6)))))))))]
theorem qS:oE f6=NK gB (cdB (cdB (cdB (cdB (cdB (cdB (cdB (cdB (oE f6))))))))):=by kernel_rfl
theorem qM(x:Tup sd (paT [.d (.st 2),.d (.sl (.st 1))])):evS tB [EV,CS,EU,uJ,wj,t8,CT,CU] (f6).ntmps (.d (.bool)) [.tmp 4] noH gB ⟨paV [.d (.st 2),.d (.sl (.st 1))] x 0,[],[],0⟩ gA some=cw x.1 x.2:=by kernel_rfl
end
end
section
def mkM {α:Type}(R C:Nat)(f:Nat→Nat→α):List α:=(List.range R).flatMap fun i=>(List.range C).map (f i)
section
variable {α β:Type} {R C:Nat} {f g:Nat→Nat→α}
theorem CF:mkM (R+1) C f=mkM R C f++(List.range C).map (f R):=by
 unfold mkM
 rw[sk,DO]
 simp
theorem eN:(mkM R C f).length=R*C:=by
 induction R with
 |zero=>simp[mkM]
 |succ R ih=>rw[CF,cN,ih,bc,MP,oa]
theorem uH {i k:Nat}(hi:i<R)(hk:k<C):(mkM R C f)[i*C+k]? =some (f i k):=by
 induction R with
 |zero=>omega
 |succ R ih=>
  rw[CF]
  rcases bO i R with h|h
  ·have:=cT h hk
   rw[uQ (by rw[eN];exact this)]
   exact ih h
  ·obtain rfl:i=R:=by omega
   rw[rH (by rw[eN];omega),eN,yH,bE,MS hk]
   rfl
theorem mkM_get [Inhabited α]{i k:Nat}(hi:i<R)(hk:k<C):(mkM R C f)[i*C+k]! =f i k:=by
 rw[m4,uH hi hk];rfl
theorem Ft {t:Nat}(h:t<R*C):∃i k,i<R∧k<C∧t=i*C+k:=by
 have hC:0<C:=by
  rcases rY C with h0|h0
  ·rw[h0,al_7] at h;omega
  ·exact h0
 refine⟨t / C,t % C,?_,dM _ hC,?_⟩
 ·exact DM (by rw[bj];exact h)
 ·rw[bj];exact (kV t C).symm
theorem N8 {l:List α}(hl:l.length=R*C)(h:∀i k,i<R→k<C→l[i*C+k]? =some (f i k)):l=mkM R C f:=by
 apply DP
 intro t
 rcases bO t (R*C) with ht|ht
 ·obtain⟨i,k,hi,hk,rfl⟩:=Ft ht
  rw[h i k hi hk,uH hi hk]
 ·rw[gP (by omega),gP (by rw[eN];exact ht)]
theorem P6(h:∀i k,i<R→k<C→f i k=g i k):mkM R C f=mkM R C g:=N8 eN fun i k hi hk=>by rw[uH hi hk,h i k hi hk]
theorem R7 [Inhabited α]{l:List α}(hl:l.length=R*C):l=mkM R C fun i k=>l[i*C+k]! :=N8 hl fun i k hi hk=>by
 have:=cT hi hk
 rw[m4,eG (by omega)];rfl
theorem qb {p:α→Bool}:(mkM R C f).all p=true↔∀i k,i<R→k<C→p (f i k)=true:=by
 rw[bx]
 constructor
 ·intro h i k hi hk
  exact h _ (bL (uH hi hk))
 ·intro h x hx
  obtain⟨t,ht⟩:=sT hx
  have bh:t<R*C:=by have:=(lV.1 ht).1;rwa[eN] at this
  obtain⟨i,k,hi,hk,rfl⟩:=Ft bh
  rw[uH hi hk] at ht
  injection ht with ht
  rw[←ht];exact h i k hi hk
end
end
section
theorem uAdd(x y:Nu):fO (nv x) (nv y)=some (nv (ES x y)):=by rw[xY];exact Ve x.2 y.2
theorem uMul(x y:Nu):ee (nv x) (nv y)=some (nv (tD x y)):=by rw[xX];exact Nq x.2 y.2
theorem uNeg(x:Nu):lN (nv x)=some (nv (He x)):=by rw[xW];exact Vd x.2
theorem NG(x:Nu):bq (nv x)=some (aH x):=by rw[fx];exact lg x.2
theorem uSign(x:Nu):iO (nv x)=some (jo x):=by rw[zE];exact Vc x.2
theorem uOf {n:Int}(h1:-9223372036854775808≤n:=by omega)(h2:n≤9223372036854775807:=by omega):d7 n=some (nv (nOf n)):=G_rOf h1 h2
theorem tGood(x:Nu):l5 (nv x)=some (aH x):=by rw[fx];exact R_Good x.2
theorem JN {l:List Nu}{i:Nat}(h:i<l.length:=by omega):(l.map nv)[i]! =nv l[i]! :=by
 rw[m4,m4,bE,eG h];rfl
theorem nv_eq {x y:Nu}:nv x=nv y↔x=y:=⟨fun h=>Subtype.ext h,fun h=>by rw[h]⟩
theorem RZ {l m:List Nu}:l.map nv=m.map nv↔l=m:=⟨fun h=>List.map_inj_right (fun _ _ h=>nv_eq.1 h) |>.1 h,fun h=>by rw[h]⟩
section
variable {R:Type}
theorem kOr(b x:Bool):cnd b (some true) (some x)=some (b||x):=by cases b <;> rfl
theorem kF(x y:Option R):cnd false x y=y:=rfl
theorem kT(x y:Option R):cnd true x y=x:=rfl
theorem w64 {n:Int}(h1:-9223372036854775808≤n:=by omega)(h2:n≤9223372036854775807:=by omega):i64.wrap n=n:=Lo ⟨h1,h2⟩
theorem CJ {n:Nat}(hn:n≤1000000)(ok:Nat→Bool){b:Int→Option (Int⊕(Bool⊕Unit))}(h:∀i:Nat,i<n→b i=cnd (!ok i) (some (.inr (.inl false))) (some (.inl (i64.wrap ((i:Int)+(1:Int))))))(he:b n=some (.inr (.inr ()))):
  aL b (0:Int)=some (if (List.range n).all ok then .inr () else .inl false):=by
 have key:∀m i:Nat,i+m=n→aL b (i:Int)=some (if (List.range' i m).all ok then .inr () else .inl false):=by
  intro m
  induction m with
  |zero=>
       intro i hi;obtain rfl:i=n:=by omega
       exact eI he
  |succ m ih=>
   intro i hi
   have hb:=h i (by omega)
   rw[tP,jL]
   cases hk:ok i with
   |false=>
    rw[hk] at hb
    rw[eI (by rw[hb];rfl)];rfl
   |true=>
    rw[hk,w64] at hb
    rw[iq (by rw[hb];rfl)]
    exact ih (i+1) (by omega)
 rw[show ((0:Int))=((0:Nat):Int) from rfl,key n 0 (by omega),Ao]
theorem BR {n:Nat}(hn:n≤1000000)(ok:Nat→Bool){b:Int→Option (Int⊕(Int⊕Unit))}(h:∀i:Nat,i<n→b i=cnd (ok i) (some (.inr (.inl (i:Int)))) (some (.inl (i64.wrap ((i:Int)+(1:Int))))))(he:b n=some (.inr (.inr ()))):
  (aL b (0:Int)=some (.inr ())∧(List.range n).any ok=false)∨∃j:Nat,aL b (0:Int)=some (.inl (j:Int))∧(List.range n).any ok=true:=by
 have key:∀m i:Nat,i+m=n→(aL b (i:Int)=some (.inr ())∧(List.range' i m).any ok=false)∨∃j:Nat,aL b (i:Int)=some (.inl (j:Int))∧(List.range' i m).any ok=true:=by
  intro m
  induction m with
  |zero=>
       intro i hi;obtain rfl:i=n:=by omega
       exact .inl ⟨eI he,rfl⟩
  |succ m ih=>
   intro i hi
   have hb:=h i (by omega)
   rw[tP,List.any_cons]
   cases hk:ok i with
   |true=>
    rw[hk] at hb
    exact .inr ⟨i,eI (by rw[hb];rfl),rfl⟩
   |false=>
    rw[hk,w64] at hb
    rw[iq (show b (i:Int)=some (.inl (((i+1:Nat):Int))) by rw[hb];rfl)]
    exact ih (i+1) (by omega)
 rw[Ao]
 exact key n 0 (by omega)
end
theorem Ib {α:Type}[Inhabited α](l:List α)(p:α→Bool):(List.range l.length).all (fun i=>p l[i]!)=l.all p:=by
 rw[uT,bx,bx]
 constructor
 ·intro h x hx
  obtain⟨i,hi,rfl⟩:=List.getElem_of_mem hx
  have:=h i (A6.2 hi)
  rwa[m4,eG hi] at this
 ·intro h i hi
  have hi:=A6.1 hi
  rw[m4,eG hi]
  exact h _ (uc hi)
theorem OU {α:Type}[Inhabited α](l:List α)(p:α→Bool):(List.range l.length).any (fun i=>p l[i]!)=l.any p:=by
 have:=Ib l (fun x=>!p x)
 rw[←Bool.not_inj_iff,←MO,←MO] at this
 simpa using this
theorem tE {C:Nat}(hC:C≤1000000){b:Int×List ak→Option ((Int×List ak)⊕List ak)}(f:Nat→Nu)(acc:List Nu)(hl:acc.length+C≤1000000)
  (h:∀k:Nat,k<C→∀l:List ak,b ((k:Int),l)=gd ((l++[nv (f k)]).length*136≤140737488355328) (some (.inl (i64.wrap ((k:Int)+(1:Int)),l++[nv (f k)]))))
  (he:∀l,b ((C:Int),l)=some (.inr l)):aL b ((0:Int),acc.map nv)=some ((acc++(List.range C).map f).map nv):=by
 have:=lG (b:=b) (fun k=>((k:Int),(acc++(List.range k).map f).map nv)) 0 C ((acc++(List.range C).map f).map nv) (il _) (fun k _ hk=>?_) (he _)
 ·simpa using this
 ·rw[h k hk,aB (by simp;omega),w64,sk]
  simp
theorem qA {R C:Nat}(hR:R≤1000000){b:Int×List ak→Option ((Int×List ak)⊕List ak)}(f:Nat→Nat→Nu)(hl:R*C≤1000000)
  (h:∀i:Nat,i<R→∀acc:List Nu,acc.length+C≤1000000→b ((i:Int),acc.map nv)=some (.inl (i64.wrap ((i:Int)+(1:Int)),(acc++(List.range C).map (f i)).map nv)))
  (he:∀l,b ((R:Int),l)=some (.inr l)):aL b ((0:Int),([]:List ak))=some ((mkM R C f).map nv):=by
 have:=lG (b:=b) (fun i=>((i:Int),(mkM i C f).map nv)) 0 R ((mkM R C f).map nv) (il _) (fun i _ hi=>?_) (he _)
 ·simpa[mkM] using this
 ·have:(i+1)*C≤R*C:=bY _ hi
  rw[h i hi _ (by rw[eN];rw[oa] at this;omega),w64,←CF]
  rfl
end
abbrev mS(R C:Int)(V:List Nu):aq:=⟨R,C,V.map nv⟩
abbrev mZ:aq:=⟨0,0,[]⟩
def aN(R C:Int)(V:List Nu):Int:=if R<0∨200<R∨C<0∨200<C then 2 else if (V.length:Int)≠R*C∨V.all aH=false then 1 else 0
structure MV(R C:Nat)(V:List Nu):Prop where
 r:R≤200
 c:C≤200
 len:V.length=R*C
 good:V.all aH=true
theorem d6 {R C:Int}{V:List Nu}:aN R C V=0↔∃r c:Nat,R=r∧C=c∧MV r c V:=by
 unfold aN
 constructor
 ·intro h
  split at h
  ·cases h
  ·rename_i h1
   split at h
   ·cases h
   ·rename_i h2
    obtain⟨r,rfl⟩:∃r:Nat,R=r:=⟨R.toNat,by omega⟩
    obtain⟨c,rfl⟩:∃c:Nat,C=c:=⟨C.toNat,by omega⟩
    refine⟨r,c,rfl,rfl,by omega,by omega,?_,?_⟩
    ·have h3:(V.length:Int)=(r:Int)*c:=MN fun e=>h2 (.inl e)
     exact_mod_cast h3
    ·cases hg:V.all aH with
     |true=>rfl
     |false=>exact absurd (.inr hg) h2
 ·rintro⟨r,c,rfl,rfl,hm⟩
  have h1:=hm.r
  have h2:=hm.c
  rw[ifn_,az]
  rintro (h|h)
  ·exact h (by rw[hm.len];exact_mod_cast rfl)
  ·rw[hm.good] at h;cases h
theorem MV.rc {R C:Nat}{V:List Nu}(h:MV R C V):R*C≤40000:=gG h.r h.c
theorem MV.chk {R C:Nat}{V:List Nu}(h:MV R C V):aN R C V=0:=d6.2 ⟨R,C,rfl,rfl,h⟩
theorem sn {V:List Nu}(h:V.length≤1000000):cX (V.map nv)=some (V.all aH):=by
 unfold cX bi bp
 have key:=BR (b:=aT (V.map nv)) (n:=V.length) h (fun i=>!aH V[i]!) (fun i hi=>by
  unfold aT mO
  rw[bc,ba _ _,aB,aD,JN hi,NG]
  rfl) (by
  unfold aT
  rw[bc,a9 _ _])
 rw[OU V (fun x=>!aH x)] at key
 have e:V.all aH= !V.any fun x=>!aH x:=by rw[MO];simp
 rcases key with⟨h1,h2⟩|⟨j,h1,h2⟩ <;> rw[h1,e,h2]
 ·rfl
 ·simp[bnd]
theorem vK {R C:Int}{V:List Nu}(h:V.length≤1000000):cP (mS R C V)=some (aN R C V):=by
 unfold cP aN
 dsimp only
 simp only[kOr,ab,sn h]
 by_cases h1:R<0∨200<R∨C<0∨200<C
 ·rw[an h1]
  have:(decide (R<0)||(decide (200<R)||(decide (C<0)||decide (200<C))))=true:=by simpa using h1
  rw[this];rfl
 ·rw[az h1]
  have:(decide (R<0)||(decide (200<R)||(decide (C<0)||decide (200<C))))=false:=by simpa using h1
  rw[this,kF]
  have SM:0≤R*C∧R*C≤40000:=by
   obtain⟨r,rfl⟩:∃r:Nat,R=r:=⟨R.toNat,by omega⟩
   obtain⟨c,rfl⟩:∃c:Nat,C=c:=⟨C.toNat,by omega⟩
   have:r*c≤200*200:=gG (by omega) (by omega)
   have e:((r:Int)*c)=((r*c:Nat):Int):=by exact_mod_cast rfl
   rw[e];omega
  rw[w64,bc]
  by_cases h2:(V.length:Int)≠R*C∨V.all aH=false
  ·rw[an h2]
   have:(decide ((V.length:Int)≠R*C)||!V.all aH)=true:=by
    rcases h2 with h2|h2
    ·rw[ck h2];rfl
    ·rw[h2];simp
   rw[this];rfl
  ·rw[az h2]
   have:(decide ((V.length:Int)≠R*C)||!V.all aH)=false:=by
    have a:¬(V.length:Int)≠R*C:=fun e=>h2 (.inl e)
    have b:V.all aH=true:=by cases hg:V.all aH with
     |true=>rfl
     |false=>exact absurd (.inr hg) h2
    rw[gQ a,b];rfl
   rw[this];rfl
theorem q7 {R C:Int}{V:List Nu}(h:V.length≤1000000):bN [mS R C V]=some (decide (aN R C V=0)):=by
 unfold bN aS aU
 have key:=BR (b:=aI [mS R C V]) (n:=1) (by decide) (fun i=>decide (aN R C V≠0)) (fun i hi=>by
  obtain rfl:i=0:=by omega
  unfold aI jA
  rw[ba _ _ (by simp),aB ⟨by simp,by simp⟩]
  show bnd (bnd (cP (mS R C V)) _) _=_
  rw[vK h]
  rfl) rfl
 rcases key with⟨h1,h2⟩|⟨j,h1,h2⟩ <;> rw[h1] <;> by_cases hc:aN R C V=0 <;> simp[hc,bnd,sk] at h2 ⊢
theorem Ei {R C R' C':Int}{V V':List Nu}(h:V.length≤1000000)(h':V'.length≤1000000):bN [mS R C V,mS R' C' V']=some (decide (aN R C V=0)&&decide (aN R' C' V'=0)):=by
 unfold bN aS aU
 have key:=BR (b:=aI [mS R C V,mS R' C' V']) (n:=2) (by decide) (fun i=>if i=0 then decide (aN R C V≠0) else decide (aN R' C' V'≠0)) (fun i hi=>by
  unfold aI jA
  have hi2:i=0∨i=1:=by omega
  rcases hi2 with rfl|rfl
  ·rw[ba _ _ (by simp),aB ⟨by simp,by simp⟩]
   show bnd (bnd (cP (mS R C V)) _) _=_
   rw[vK h]
   rfl
  ·rw[ba _ _ (by simp),aB ⟨by simp,by simp⟩]
   show bnd (bnd (cP (mS R' C' V')) _) _=_
   rw[vK h']
   rfl) rfl
 rcases key with⟨h1,h2⟩|⟨j,h1,h2⟩ <;> rw[h1] <;> by_cases hc:aN R C V=0 <;> by_cases Tg:aN R' C' V'=0 <;> simp[hc,Tg,bnd,sk] at h2 ⊢<;> omega
theorem xq {R C:Nat}{V:List Nu}(hV:V.length=R*C)(SM:R*C≤1000000){i k:Nat}(hi:i<R)(hk:k<C):b8 (mS R C V) i k=some (nv V[i*C+k]!):=by
 have h1:=cT hi hk
 have e:(i:Int)*(C:Int)=((i*C:Nat):Int):=by exact_mod_cast rfl
 unfold b8
 dsimp only
 rw[e]
 generalize i*C=p at*
 generalize R*C=n at*
 rw[w64 (n:=(p:Int)),w64 (n:=(p:Int)+(k:Int)),bc,aB]
 simp only[ab]
 rw[show (p:Int)+(k:Int)=((p+k:Nat):Int) by omega,aD,JN]
def i6(R C:Nat)(V:List Nu):aq×Int:=if V.all aH then (mS R C V,0) else (mZ,30)
theorem BC {R C:Nat}(hR:R≤400)(hC:C≤400)(f:Nat→Nat→Nu)(hf:∀i k:Nat,i<R→k<C→gp (i:Int) (k:Int)=some (nv (f i k))):cf R C=some (i6 R C (mkM R C f)):=by
 have SM:R*C≤400*400:=gG hR hC
 unfold cf
 rw[qA (R:=R) (C:=C) (by omega) f (by omega) (fun i hi acc yr=>?_) (fun l=>?_)]
 ·simp only[ab]
  rw[sn (by rw[eN];omega)]
  simp only[ab]
  unfold i6
  cases (mkM R C f).all aH <;> rfl
 ·unfold cM
  dsimp only
  rw[ba _ _,tE (C:=C) (by omega) (f i) acc yr (fun k hk l=>?_) (fun l=>?_)]
  ·rfl
  ·unfold cE
   dsimp only
   rw[ba _ _,hf i k hi hk]
   rfl
  ·unfold cE
   dsimp only
   rw[a9 _ _]
 ·unfold cM
  dsimp only
  rw[a9 _ _]
theorem Nn {R C:Nat}{a b:aq}(hR:R≤400)(hC:C≤400)(f:Nat→Nat→Nu)(hf:∀i k:Nat,i<R→k<C→jI (i:Int) (k:Int) a b=some (nv (f i k))):kz R C a b=some (i6 R C (mkM R C f)):=by
 have SM:R*C≤400*400:=gG hR hC
 unfold kz
 rw[qA (R:=R) (C:=C) (by omega) f (by omega) (fun i hi acc yr=>?_) (fun l=>?_)]
 ·simp only[ab]
  rw[sn (by rw[eN];omega)]
  simp only[ab]
  unfold i6
  cases (mkM R C f).all aH <;> rfl
 ·unfold jZ
  dsimp only
  rw[ba _ _,tE (C:=C) (by omega) (f i) acc yr (fun k hk l=>?_) (fun l=>?_)]
  ·rfl
  ·unfold je
   dsimp only
   rw[ba _ _,hf i k hi hk]
   rfl
  ·unfold je
   dsimp only
   rw[a9 _ _]
 ·unfold jZ
  dsimp only
  rw[a9 _ _]
theorem II {R C:Nat}{a:aq}{x:ak}(hR:R≤400)(hC:C≤400)(f:Nat→Nat→Nu)(hf:∀i k:Nat,i<R→k<C→ic (i:Int) (k:Int) a x=some (nv (f i k))):jE R C a x=some (i6 R C (mkM R C f)):=by
 have SM:R*C≤400*400:=gG hR hC
 unfold jE
 rw[qA (R:=R) (C:=C) (by omega) f (by omega) (fun i hi acc yr=>?_) (fun l=>?_)]
 ·simp only[ab]
  rw[sn (by rw[eN];omega)]
  simp only[ab]
  unfold i6
  cases (mkM R C f).all aH <;> rfl
 ·unfold ji
  dsimp only
  rw[ba _ _,tE (C:=C) (by omega) (f i) acc yr (fun k hk l=>?_) (fun l=>?_)]
  ·rfl
  ·unfold iS
   dsimp only
   rw[ba _ _,hf i k hi hk]
   rfl
  ·unfold iS
   dsimp only
   rw[a9 _ _]
 ·unfold ji
  dsimp only
  rw[a9 _ _]
theorem Nm {R C:Nat}{a b:aq}(hR:R≤400)(hC:C≤400)(f:Nat→Nat→Nu)(hf:∀i k:Nat,i<R→k<C→gY (i:Int) (k:Int) a b=some (nv (f i k))):jD R C a b=some (i6 R C (mkM R C f)):=by
 have SM:R*C≤400*400:=gG hR hC
 unfold jD
 rw[qA (R:=R) (C:=C) (by omega) f (by omega) (fun i hi acc yr=>?_) (fun l=>?_)]
 ·simp only[ab]
  rw[sn (by rw[eN];omega)]
  simp only[ab]
  unfold i6
  cases (mkM R C f).all aH <;> rfl
 ·unfold jh
  dsimp only
  rw[ba _ _,tE (C:=C) (by omega) (f i) acc yr (fun k hk l=>?_) (fun l=>?_)]
  ·rfl
  ·unfold iR
   dsimp only
   rw[ba _ _,hf i k hi hk]
   rfl
  ·unfold iR
   dsimp only
   rw[a9 _ _]
 ·unfold jh
  dsimp only
  rw[a9 _ _]
theorem Fh {R C:Nat}{a b:aq}(hR:R≤400)(hC:C≤400)(f:Nat→Nat→Nu)(hf:∀i k:Nat,i<R→k<C→gq (i:Int) (k:Int) a b=some (nv (f i k))):jC R C a b=some (i6 R C (mkM R C f)):=by
 have SM:R*C≤400*400:=gG hR hC
 unfold jC
 rw[qA (R:=R) (C:=C) (by omega) f (by omega) (fun i hi acc yr=>?_) (fun l=>?_)]
 ·simp only[ab]
  rw[sn (by rw[eN];omega)]
  simp only[ab]
  unfold i6
  cases (mkM R C f).all aH <;> rfl
 ·unfold jg
  dsimp only
  rw[ba _ _,tE (C:=C) (by omega) (f i) acc yr (fun k hk l=>?_) (fun l=>?_)]
  ·rfl
  ·unfold iQ
   dsimp only
   rw[ba _ _,hf i k hi hk]
   rfl
  ·unfold iQ
   dsimp only
   rw[a9 _ _]
 ·unfold jg
  dsimp only
  rw[a9 _ _]
section
def idF(i k:Nat):Nu:=if i=k then nOf 1 else nOf 0
def QK(C:Nat)(A B:List Nu)(i k:Nat):Nu:=ES A[i*C+k]! B[i*C+k]!
def wI(C:Nat)(A:List Nu)(x:Nu)(i k:Nat):Nu:=tD A[i*C+k]! x
def HW(C K:Nat)(A B:List Nu)(i k:Nat):Nat→Nu
 |0=>tD A[i*C]! B[k]!
 |j+1=>ES (HW C K A B i k j) (tD A[i*C+(j+1)]! B[(j+1)*K+k]!)
def wP(C K:Nat)(A B:List Nu)(i k:Nat):Nu:=if C=0 then nOf 0 else HW C K A B i k (C - 1)
def DC(C K:Nat)(A B:List Nu)(i k:Nat):Nu:=if k<C then A[i*C+k]! else B[i*K+(k - C)]!
def AM(R C:Int)(V:List Nu):aq×Int:=if aN R C V=0 then (mS R C V,0) else (mZ,aN R C V)
def idP(n:Int):aq:=if n<0∨200<n then mZ else mS n n (mkM n.toNat n.toNat idF)
def TW(V:List Nu):aq:=(AM V.length 1 V).1
def KZ(R C:Int)(A:List Nu)(R' C':Int)(B:List Nu):aq×Int:=if aN R C A=0∧aN R' C' B=0∧R=R'∧C=C' then i6 R.toNat C.toNat (mkM R.toNat C.toNat (QK C.toNat A B)) else (mZ,1)
def tr(R C:Int)(A:List Nu)(x:Nu):aq×Int:=if aN R C A=0∧aH x=true then i6 R.toNat C.toNat (mkM R.toNat C.toNat (wI C.toNat A x)) else (mZ,1)
def LP(R C:Int)(A:List Nu)(R' C':Int)(B:List Nu):aq×Int:=if aN R C A=0∧aN R' C' B=0∧C=R' then i6 R.toNat C'.toNat (mkM R.toNat C'.toNat (wP C.toNat C'.toNat A B)) else (mZ,1)
def QG(R C:Int)(A:List Nu)(R' C':Int)(B:List Nu):aq×Int:=if aN R C A=0∧aN R' C' B=0∧R=R' then if 200<C+C' then (mZ,2) else i6 R.toNat (C+C').toNat (mkM R.toNat (C+C').toNat (DC C.toNat C'.toNat A B)) else (mZ,1)
theorem J7(i k:Nat):aH (idF i k)=true:=by unfold idF;split;exact of1.1;exact of0.1
theorem wQ {R C:Nat}{f:Nat→Nat→Nu}(h:∀i k,i<R→k<C→aH (f i k)=true):i6 R C (mkM R C f)=(mS R C (mkM R C f),0):=by
 unfold i6
 rw[an (qb.2 h)]
section
variable {A B V:List Nu} {R C R' C':Int}
theorem P_Make(h:V.length≤1000000):mH R C (V.map nv)=some (AM R C V):=by
 unfold mH fC AM
 rw[bc,aB h]
 simp only[ab]
 rw[vK h]
 simp only[ab]
 by_cases h0:aN R C V=0
 ·rw[a9 _ _ (by simpa using h0),an h0]
 ·rw[ba _ _ h0,az h0]
theorem En {n:Int}:eY n=some (idP n):=by
 unfold eY idP
 simp only[kOr,ab]
 by_cases h:n<0∨200<n
 ·have:(decide (n<0)||decide (200<n))=true:=by simpa using h
  rw[this,an h];rfl
 ·have:(decide (n<0)||decide (200<n))=false:=by simpa using h
  rw[this,az h,kF]
  obtain⟨m,rfl⟩:∃m:Nat,n=m:=⟨n.toNat,by omega⟩
  rw[BC (R:=m) (C:=m) (by omega) (by omega) idF (fun i k hi hk=>?_),wQ fun i k _ _=>J7 i k]
  ·simp only[ab,aD]
  ·unfold gp idF
   by_cases e:i=k
   ·rw[ba _ _,an e,uOf];rfl
   ·rw[a9 _ _,az e,uOf];rfl
theorem K5(h:V.length≤1000000):gf (V.map nv)=some (TW V):=by
 unfold gf TW
 rw[bc,P_Make h];rfl
theorem P_Add(hA:A.length≤1000000)(hB:B.length≤1000000):mb (mS R C A) (mS R' C' B)=some (KZ R C A R' C' B):=by
 unfold mb KZ
 rw[Ei hA hB]
 simp only[ab,kOr]
 by_cases h0:aN R C A=0∧aN R' C' B=0∧R=R'∧C=C'
 ·rw[an h0]
  obtain⟨h1,h2,rfl,rfl⟩:=h0
  obtain⟨r,c,rfl,rfl,hm⟩:=d6.1 h1
  obtain⟨r',c',hr,hc,xz⟩:=d6.1 h2
  obtain rfl:r=r':=by omega
  obtain rfl:c=c':=by omega
  rw[h1,h2]
  have:=hm.rc
  have h3:=hm.r
  have h4:=hm.c
  have e:(!(decide ((0:Int)=0)&&decide ((0:Int)=0))||(decide ((r:Int)≠r)||decide ((c:Int)≠c)))=false:=by simp
  rw[e,kF]
  rw[Nn (by omega) (by omega) (QK c A B) (fun i k hi hk=>?_)]
  ·simp only[ab,aD]
  ·unfold jI
   rw[xq hm.len (by omega) hi hk,xq xz.len (by omega) hi hk]
   simp only[ab,uAdd]
   rfl
 ·rw[az h0]
  have e:(!(decide (aN R C A=0)&&decide (aN R' C' B=0))||(decide (R≠R')||decide (C≠C')))=true:=by
   by_cases a:aN R C A=0
   ·by_cases b:aN R' C' B=0
    ·by_cases c:R=R'
     ·by_cases d:C=C'
      ·exact absurd ⟨a,b,c,d⟩ h0
      ·simp[d]
     ·simp[c]
    ·simp[b]
   ·simp[a]
  rw[e,kT]
theorem P_Scale(hA:A.length≤1000000){x:Nu}:jF (mS R C A) (nv x)=some (tr R C A x):=by
 unfold jF tr
 rw[q7 hA]
 simp only[ab,NG,kOr]
 by_cases h0:aN R C A=0∧aH x=true
 ·rw[an h0]
  obtain⟨h1,h2⟩:=h0
  obtain⟨r,c,rfl,rfl,hm⟩:=d6.1 h1
  rw[h1,h2]
  have:=hm.rc
  have h3:=hm.r
  have h4:=hm.c
  have e:(!decide ((0:Int)=0)||!true)=false:=by simp
  rw[e,kF]
  rw[II (by omega) (by omega) (wI c A x) (fun i k hi hk=>?_)]
  ·simp only[ab,aD]
  ·unfold ic
   rw[xq hm.len (by omega) hi hk]
   simp only[ab,uMul]
   rfl
 ·rw[az h0]
  have e:(!decide (aN R C A=0)||!aH x)=true:=by
   by_cases a:aN R C A=0
   ·by_cases b:aH x=true
    ·exact absurd ⟨a,b⟩ h0
    ·simp[b]
   ·simp[a]
  rw[e,kT]
theorem P_dot {r c c':Nat}(hm:MV r c A)(xz:MV c c' B){i k:Nat}(hi:i<r)(hk:k<c'):gY (i:Int) (k:Int) (mS r c A) (mS c c' B)=some (nv (wP c c' A B i k)):=by
 have h1:=hm.rc
 have h2:=xz.rc
 have h3:=hm.c
 unfold gY wP
 dsimp only
 by_cases h0:c=0
 ·rw[ba _ _,an h0,uOf];rfl
 ·rw[a9 _ _,az h0]
  have a0:=xq hm.len (by omega) hi (show 0<c by omega)
  have b0:=xq xz.len (by omega) (show 0<c by omega) hk
  rw[i9] at a0
  rw[jJ,cj] at b0
  rw[show ((0:Int))=((0:Nat):Int) from rfl,a0,b0]
  simp only[ab,uMul]
  have:=lG (b:=fQ (i:Int) (k:Int) (mS r c A) (mS c c' B)) (fun j=>((j:Int),nv (HW c c' A B i k (j - 1)))) 1 c (nv (HW c c' A B i k (c - 1))) (by omega) (fun j hj1 Mk=>?_) ?_
  ·rw[show (((1:Nat):Int),nv (HW c c' A B i k (1 - 1)))=((1:Int),nv (tD A[i*c]! B[k]!)) from rfl] at this
   rw[this];rfl
  ·unfold fQ
   dsimp only
   rw[ba _ _,xq hm.len (by omega) hi Mk,xq xz.len (by omega) Mk hk]
   simp only[ab,uMul,uAdd]
   rw[w64]
   obtain⟨m,rfl⟩:∃m,j=m+1:=⟨j - 1,by omega⟩
   rfl
  ·unfold fQ
   dsimp only
   rw[a9 _ _]
theorem P_Mul(hA:A.length≤1000000)(hB:B.length≤1000000):iV (mS R C A) (mS R' C' B)=some (LP R C A R' C' B):=by
 unfold iV LP
 rw[Ei hA hB]
 simp only[ab,kOr]
 by_cases h0:aN R C A=0∧aN R' C' B=0∧C=R'
 ·rw[an h0]
  obtain⟨h1,h2,rfl⟩:=h0
  obtain⟨r,c,rfl,rfl,hm⟩:=d6.1 h1
  obtain⟨r',c',hr,rfl,xz⟩:=d6.1 h2
  obtain rfl:c=r':=by omega
  rw[h1,h2]
  have h3:=hm.r
  have h4:=xz.c
  have e:(!(decide ((0:Int)=0)&&decide ((0:Int)=0))||decide ((c:Int)≠c))=false:=by simp
  rw[e,kF]
  rw[Nm (by omega) (by omega) (wP c c' A B) (fun i k hi hk=>P_dot hm xz hi hk)]
  simp only[ab,aD]
 ·rw[az h0]
  have e:(!(decide (aN R C A=0)&&decide (aN R' C' B=0))||decide (C≠R'))=true:=by
   by_cases a:aN R C A=0
   ·by_cases b:aN R' C' B=0
    ·by_cases c:C=R'
     ·exact absurd ⟨a,b,c⟩ h0
     ·simp[c]
    ·simp[b]
   ·simp[a]
  rw[e,kT]
theorem K6(hA:A.length≤1000000)(hB:B.length≤1000000):iA (mS R C A) (mS R' C' B)=some (QG R C A R' C' B):=by
 unfold iA QG
 rw[Ei hA hB]
 simp only[ab,kOr]
 by_cases h0:aN R C A=0∧aN R' C' B=0∧R=R'
 ·rw[an h0]
  obtain⟨h1,h2,rfl⟩:=h0
  obtain⟨r,c,rfl,rfl,hm⟩:=d6.1 h1
  obtain⟨r',c',hr,rfl,xz⟩:=d6.1 h2
  obtain rfl:r=r':=by omega
  rw[h1,h2]
  have h3:=hm.r
  have h4:=hm.c
  have h5:=xz.c
  have h6:=hm.rc
  have h7:=xz.rc
  have e:(!(decide ((0:Int)=0)&&decide ((0:Int)=0))||decide ((r:Int)≠r))=false:=by simp
  rw[e,kF,w64]
  by_cases hc:(200:Int)<(c:Int)+c'
  ·rw[ba _ _ hc,an hc]
  ·rw[a9 _ _ hc,az hc,show ((c:Int)+(c':Int))=((c+c':Nat):Int) by omega]
   rw[Fh (by omega) (by omega) (DC c c' A B) (fun i k hi hk=>?_)]
   ·simp only[ab,aD]
   ·unfold gq DC
    dsimp only
    by_cases z3:k<c
    ·rw[ba _ _,an z3,xq hm.len (by omega) hi z3];rfl
    ·rw[a9 _ _,az z3,w64,show (k:Int) - (c:Int)=((k - c:Nat):Int) by omega,xq xz.len (by omega) hi (by omega)];rfl
 ·rw[az h0]
  have e:(!(decide (aN R C A=0)&&decide (aN R' C' B=0))||decide (R≠R'))=true:=by
   by_cases a:aN R C A=0
   ·by_cases b:aN R' C' B=0
    ·by_cases c:R=R'
     ·exact absurd ⟨a,b,c⟩ h0
     ·simp[c]
    ·simp[b]
   ·simp[a]
  rw[e,kT]
end
end
section
abbrev fnd(p:aq×Int):f9:=⟨p.1,p.2⟩
section
variable {A B V:List Nu} {R C R' C':Int}
theorem Q_good(h:V.length≤1000000):nW (V.map nv)=some (V.all aH):=by
 unfold nW
 rw[CJ (b:=kq (V.map nv)) (n:=V.length) h (fun i=>aH V[i]!) (fun i hi=>by
  unfold kq
  rw[bc,ba _ _,aB,aD,JN hi,tGood]
  rfl) (by
  unfold kq
  rw[bc,a9 _ _])]
 rw[Ib V aH]
 cases V.all aH <;> rfl
theorem Pk(h:V.length≤1000000):kH (mS R C V)=some (aN R C V):=by
 rw[←vK h]
 unfold kH cP
 dsimp only
 rw[Q_good h,sn h]
theorem Q_valid(h:V.length≤1000000):mE (mS R C V)=some (decide (aN R C V=0)):=by
 unfold mE
 rw[Pk h];rfl
theorem Q_Make(h:V.length≤1000000):jY R C (V.map nv)=some (fnd (AM R C V)):=by
 unfold jY AM
 rw[mm,bc,aB,Pk h]
 simp only[ab]
 by_cases h0:aN R C V=0
 ·rw[a9 _ _ (by simpa using h0),an h0]
 ·rw[ba _ _ h0,az h0]
end
end
section
section
variable {A B V:List Nu} {R C R' C':Int}
theorem MV.gd {r c:Nat}(hm:MV r c A){t:Nat}(h:t<r*c):aH A[t]! =true:=ry hm.good (by rw[hm.len];exact h)
theorem bes_ok {r c c':Nat}(hm:MV r c A)(xz:MV r c' B):i6 r (c+c') (mkM r (c+c') (DC c c' A B))=(mS r ((c+c':Nat):Int) (mkM r (c+c') (DC c c' A B)),0):=wQ fun i k hi hk=>by
 unfold DC
 split
 ·rename_i h;exact hm.gd (cT hi h)
 ·exact xz.gd (cT hi (by omega))
end
end
section
theorem Ej {R C:Nat}{a:cY}{b:aq}(hR:R≤400)(hC:C≤400)(f:Nat→Nat→Nu)(hf:∀i k:Nat,i<R→k<C→lP (i:Int) (k:Int) a b=some (nv (f i k))):ma R C a b=some (i6 R C (mkM R C f)):=by
 have SM:R*C≤400*400:=gG hR hC
 unfold ma
 rw[qA (R:=R) (C:=C) (by omega) f (by omega) (fun i hi acc yr=>?_) (fun l=>?_)]
 ·simp only[ab]
  rw[sn (by rw[eN];omega)]
  simp only[ab]
  unfold i6
  cases (mkM R C f).all aH <;> rfl
 ·unfold ms
  dsimp only
  rw[ba _ _,tE (C:=C) (by omega) (f i) acc yr (fun k hk l=>?_) (fun l=>?_)]
  ·rfl
  ·unfold lO
   dsimp only
   rw[ba _ _,hf i k hi hk]
   rfl
  ·unfold lO
   dsimp only
   rw[a9 _ _]
 ·unfold ms
  dsimp only
  rw[a9 _ _]
theorem BB {R C:Nat}{a:aq}(hR:R≤400)(hC:C≤400)(f:Nat→Nat→Nu)(hf:∀i k:Nat,i<R→k<C→fm (i:Int) (k:Int) a=some (nv (f i k))):jB R C a=some (i6 R C (mkM R C f)):=by
 have SM:R*C≤400*400:=gG hR hC
 unfold jB
 rw[qA (R:=R) (C:=C) (by omega) f (by omega) (fun i hi acc yr=>?_) (fun l=>?_)]
 ·simp only[ab]
  rw[sn (by rw[eN];omega)]
  simp only[ab]
  unfold i6
  cases (mkM R C f).all aH <;> rfl
 ·unfold jf
  dsimp only
  rw[ba _ _,tE (C:=C) (by omega) (f i) acc yr (fun k hk l=>?_) (fun l=>?_)]
  ·rfl
  ·unfold iP
   dsimp only
   rw[ba _ _,hf i k hi hk]
   rfl
  ·unfold iP
   dsimp only
   rw[a9 _ _]
 ·unfold jf
  dsimp only
  rw[a9 _ _]
abbrev qy(R C:Nat)(V:List Nu):Option (List Nu×List Pv):=lh R C C 0 0 V []
def d5(acc:List Pv):List Int:=acc.map fun p=>(p.col:Int)
theorem uD {R C:Nat}:∀{n k r:Nat} {V:List Nu} {acc:List Pv} {W:List Nu} {l:List Pv},lh R C n k r V acc=some (W,l)→l.length≤acc.length+n
 |0,_,_,_,_,_,_,h=>by
  unfold lh at h
  injection h with h
  injection h with h1 h2
  rw[←h2];omega
 |n+1,k,r,V,acc,W,l,h=>by
  unfold lh at h
  split at h
  ·split at h
   ·have:=uD h;omega
   ·split at h
    ·have:=uD h
     rw[cN] at this
     simp at this;omega
    ·cases h
  ·injection h with h
   injection h with h1 h2
   rw[←h2];omega
theorem zA {R C:Nat}:∀{n k r:Nat} {V:List Nu} {acc:List Pv} {W:List Nu} {l:List Pv},acc.length=r→r≤R→lh R C n k r V acc=some (W,l)→l.length≤R
 |0,_,_,_,_,_,_,ha,hr,h=>by
  unfold lh at h
  injection h with h
  injection h with h1 h2
  rw[←h2];omega
 |n+1,k,r,V,acc,W,l,ha,hr,h=>by
  unfold lh at h
  split at h
  ·rename_i bh
   split at h
   ·exact zA ha hr h
   ·split at h
    ·exact zA (by rw[cN,ha];rfl) bh h
    ·cases h
  ·injection h with h
   injection h with h1 h2
   rw[←h2];omega
theorem G0 {R C:Nat}{V W:List Nu}{l:List Pv}(h:qy R C V=some (W,l)):l.length≤R:=zA (r:=0) (acc:=[]) rfl (il _) h
section
variable {V B:List Nu} {r c:Nat}
theorem u9(hr:r≤1000)(hc:c≤1000)(hV:V.length=r*c):eD (mS r c V)=some (AL r c (qy r c V)):=by
 have SM:r*c≤1000*1000:=gG hr hc
 unfold eD
 rw[an ⟨by show (0:Int)≤r;omega,by show (0:Int)≤c;omega,by show (r:Int)≤1000000;omega,by show (c:Int)≤1000000;omega,by show (r:Int).toNat*(c:Int).toNat≤1000000;rw[aD,aD];omega,by show (V.map nv).length=(r:Int).toNat*(c:Int).toNat;rw[bc,aD,aD];exact hV,okL_nv V⟩]
 show some (AL (r:Int) (c:Int) (lh (r:Int).toNat (c:Int).toNat (c:Int).toNat 0 0 ((V.map nv).map uG) []))=_
 rw[map_nv,aD,aD]
theorem No {m:aq}{acc:List Pv}(h:acc.length≤1000000):bV ⟨m,acc.map pvS⟩=some (d5 acc):=by
 unfold bV
 have:=lG (b:=ej ⟨m,acc.map pvS⟩) (fun k=>(d5 (acc.take k),(k:Int))) 0 acc.length (d5 acc) (il _) (fun k _ hk=>?_) ?_
 ·rw[show (d5 (acc.take 0),((0:Nat):Int))=(([]:List Int),(0:Int)) from rfl] at this
  rw[this];rfl
 ·unfold ej
  dsimp only
  have e:((acc.map pvS)[k]!).vcol=((acc[k]).col:Int):=by
   rw[m4,bE,eG hk];rfl
  have e2:d5 (acc.take k)++[((acc[k]).col:Int)]=d5 (acc.take (k+1)):=by
   unfold d5
   rw[List.take_succ,eG hk,lf];rfl
  rw[bc,ba _ _,aB,aD,e,e2,aB (by unfold d5;rw[bc,cz];omega),w64]
  rfl
 ·unfold ej
  dsimp only
  rw[bc,a9 _ _,MM]
end
def xO(R C:Int)(V:List Nu):aq×List Int×Int:=if aN R C V=0 then match qy R.toNat C.toNat V with
 |some (U,acc)=>(mS R C U,d5 acc,0)
 |none=>(mZ,[],30) else (mZ,[],1)
theorem Ek {R C:Int}{V:List Nu}(hV:V.length≤1000000):fe (mS R C V)=some (xO R C V):=by
 unfold fe xO
 rw[q7 hV]
 simp only[ab]
 by_cases h1:aN R C V=0
 ·rw[an h1]
  obtain⟨r,c,rfl,rfl,hm⟩:=d6.1 h1
  have h3:=hm.r
  have h4:=hm.c
  rw[h1,show (!decide ((0:Int)=0))=false by simp,kF,u9 (by omega) (by omega) hm.len,aD,aD]
  simp only[ab]
  cases oP:qy r c V with
  |none=>rfl
  |some p=>
   obtain⟨U,acc⟩:=p
   have:=uD oP
   show bnd (bV ⟨mS r c U,acc.map pvS⟩) _=_
   rw[No (by simp at this;omega)];rfl
 ·rw[az h1,show (!decide (aN R C V=0))=true by simp[h1],kT]
abbrev rZ:ak:=⟨⟨false,false,Vector.replicate 16 0⟩,⟨false,false,Vector.replicate 16 0⟩⟩
def oJ(acc:List Pv):Int:=acc.foldl (fun s p=>if p.mov then -s else s) 1
def t5(s:Int)(acc:List Pv):Nu:=acc.foldl (fun x p=>tD x p.by') (nOf s)
def detR(n:Nat)(o:Option (List Nu×List Pv)):ak×Int:=match o with
 |none=>(rZ,30)
 |some (_,acc)=>if acc.length<n then (nv (nOf 0),0) else if aH (t5 (oJ acc) acc) then (nv (t5 (oJ acc) acc),0) else (rZ,30)
def detP(R C:Int)(V:List Nu):ak×Int:=if aN R C V=0∧R=C then detR R.toNat (qy R.toNat R.toNat V) else (rZ,1)
theorem NM(acc:List Pv)(s:Int)(h:s=1∨s=-1):acc.foldl (fun s p=>if p.mov then -s else s) s=1∨acc.foldl (fun s p=>if p.mov then -s else s) s=-1:=by
 induction acc generalizing s with
 |nil=>exact h
 |cons p acc ih=>
  rw[Ik]
  refine ih _ ?_
  rcases h with rfl|rfl <;> cases p.mov <;> simp
theorem Tq {acc:List Pv}{k:Nat}(hk:k<acc.length):(acc.map pvS)[k]! =pvS acc[k]:=by
 rw[m4,bE,eG hk];rfl
theorem P_Det {R C:Int}{V:List Nu}(hV:V.length≤1000000):j3 (mS R C V)=some (detP R C V):=by
 unfold j3 detP
 rw[q7 hV]
 simp only[ab,kOr]
 by_cases h0:aN R C V=0∧R=C
 ·rw[an h0]
  obtain⟨h1,rfl⟩:=h0
  obtain⟨r,c,rfl,hc,hm⟩:=d6.1 h1
  obtain rfl:r=c:=by omega
  have h3:=hm.r
  rw[h1,show (!decide ((0:Int)=0)||decide ((r:Int)≠r))=false by simp,kF,u9 (by omega) (by omega) hm.len,aD]
  simp only[ab]
  cases oP:qy r r V with
  |none=>rfl
  |some p=>
   obtain⟨U,acc⟩:=p
   have Qp:=uD oP
   rw[Ij,cj] at Qp
   rw[show AL (r:Int) (r:Int) (some (U,acc))=((⟨mS r r U,acc.map pvS⟩:cY),(0:Int)) from rfl]
   dsimp only
   rw[a9 _ _ (by simp),bc]
   unfold detR
   by_cases hl:acc.length<r
   ·rw[ba _ _,uOf]
    dsimp only
    rw[an hl];rfl
   ·rw[a9 _ _]
    dsimp only
    rw[az hl]
    have k1:=lG (b:=jH (⟨mS r r U,acc.map pvS⟩,0)) (fun k=>(oJ (acc.take k),(k:Int))) 0 acc.length (oJ acc) (il _) (fun k _ hk=>?_) ?_
    ·rw[show (oJ (acc.take 0),((0:Nat):Int))=((1:Int),(0:Int)) from rfl] at k1
     rw[k1]
     simp only[ab]
     have hs:=NM acc 1 (.inl rfl)
     rw[uOf (by show -9223372036854775808≤oJ acc;unfold oJ;omega) (by show oJ acc≤_;unfold oJ;omega)]
     simp only[ab]
     have k2:=lG (b:=jG (⟨mS r r U,acc.map pvS⟩,0)) (fun k=>((k:Int),nv (t5 (oJ acc) (acc.take k)))) 0 acc.length (nv (t5 (oJ acc) acc)) (il _) (fun k _ hk=>?_) ?_
     ·rw[show (((0:Nat):Int),nv (t5 (oJ acc) (acc.take 0)))=((0:Int),nv (nOf (oJ acc))) from rfl] at k2
      rw[k2]
      simp only[ab,NG]
      cases aH (t5 (oJ acc) acc) <;> rfl
     ·unfold jG
      dsimp only
      rw[bc,ba _ _,aB,aD,Tq hk]
      show bnd (ee (nv (t5 (oJ acc) (acc.take k))) (nv (acc[k]).by')) _=_
      rw[uMul]
      simp only[ab]
      rw[w64]
      have:t5 (oJ acc) (acc.take (k+1))=tD (t5 (oJ acc) (acc.take k)) (acc[k]).by':=by
       unfold t5
       rw[List.take_succ,eG hk,ML];rfl
      rw[this];rfl
     ·unfold jG
      dsimp only
      rw[bc,a9 _ _,MM]
    ·unfold jH
     dsimp only
     rw[bc,ba _ _,aB,aD,Tq hk]
     have hs:=NM (acc.take k) 1 (.inl rfl)
     have e2:oJ (acc.take (k+1))=if (acc[k]).mov then -oJ (acc.take k) else oJ (acc.take k):=by
      unfold oJ
      rw[List.take_succ,eG hk,ML];rfl
     rw[e2]
     show bnd (cnd (acc[k]).mov _ _) _=_
     have w1:i64.wrap (0 - oJ (acc.take k))=-oJ (acc.take k):=by
      rw[w64 (by unfold oJ;omega) (by unfold oJ;omega)];omega
     rw[w1,w64 (n:=(k:Int)+1)]
     cases (acc[k]).mov <;> rfl
    ·unfold jH
     dsimp only
     rw[bc,a9 _ _,MM]
 ·rw[az h0]
  have e:(!decide (aN R C V=0)||decide (R≠C))=true:=by
   by_cases a:aN R C V=0
   ·by_cases b:R=C
    ·exact absurd ⟨a,b⟩ h0
    ·simp[b]
   ·simp[a]
  rw[e,kT]
theorem Eo {l:List Int}(h:l.length≤1000000)(v:Int):cH l v=some (l.any fun x=>decide (v=x)):=by
 unfold cH gF
 have key:=BR (b:=dZ l v) (n:=l.length) h (fun i=>decide (v=l[i]!)) (fun i hi=>by
  unfold dZ
  rw[ba _ _,aB,aD]) (by
  unfold dZ
  rw[a9 _ _])
 rw[OU l (fun x=>decide (v=x))] at key
 rcases key with⟨h1,h2⟩|⟨j,h1,h2⟩ <;> rw[h1,h2]
 ·rfl
 ·simp[bnd]
def solvR(c:Nat)(o:Option (List Nu×List Pv)):List ak×Int:=match o with
 |none=>([],30)
 |some (U,acc)=>if (d5 acc).any (fun x=>decide ((c:Int)=x)) then ([],200) else if acc.length<c then ([],70) else (((List.range acc.length).map fun i=>U[i*(c+1)+c]!).map nv,0)
def Jt(R C:Int)(A b:List Nu):List ak×Int:=if aN R C A=0∧(b.length:Int)=R∧b.all aH=true then (if 200<C+1 then ([],2) else solvR C.toNat (qy R.toNat (C.toNat+1) (mkM R.toNat (C.toNat+1) (DC C.toNat 1 A b)))) else ([],1)
theorem bes1 {r c:Nat}{A b:List Nu}(hm:MV r c A)(hb:b.length=r)(hg:b.all aH=true):MV r 1 b:=⟨hm.r,by decide,by rw[hb,si],hg⟩
theorem OQ {r c c':Nat}{A B:List Nu}(hm:MV r c A)(xz:MV r c' B)(hc:(200:Int)<(c:Int)+(c':Int)):QG (r:Int) (c:Int) A (r:Int) (c':Int) B=(mZ,2):=by
 unfold QG
 rw[an ⟨hm.chk,xz.chk,rfl⟩,an hc]
theorem OP {r c c':Nat}{A B:List Nu}(hm:MV r c A)(xz:MV r c' B)(hc:¬(200:Int)<(c:Int)+(c':Int)):QG (r:Int) (c:Int) A (r:Int) (c':Int) B=(mS r ((c+c':Nat):Int) (mkM r (c+c') (DC c c' A B)),0):=by
 unfold QG
 rw[an ⟨hm.chk,xz.chk,rfl⟩,az hc,show ((c:Int)+(c':Int))=((c+c':Nat):Int) by omega]
 simp only[aD]
 exact bes_ok hm xz
theorem IJ {R C:Int}{A b:List Nu}(hA:A.length≤1000000)(hb:b.length≤1000000):fP (mS R C A) (b.map nv)=some (Jt R C A b):=by
 unfold fP Jt
 rw[q7 hA]
 simp only[ab,sn hb,kOr,bc]
 by_cases h0:aN R C A=0∧(b.length:Int)=R∧b.all aH=true
 ·rw[an h0]
  obtain⟨h1,h2,h5⟩:=h0
  obtain⟨r,c,rfl,rfl,hm⟩:=d6.1 h1
  have h3:=hm.r
  have h4:=hm.c
  have Qh:=bes1 hm (by omega) h5
  rw[h1,h5,show (!decide ((0:Int)=0)||(decide ((b.length:Int)≠(r:Int))||!true))=false by simp[h2],kF]
  rw[show (⟨(r:Int),(1:Int),b.map nv⟩:aq)=mS (r:Int) ((1:Nat):Int) b from rfl,K6 hA hb]
  by_cases hc:(200:Int)<(c:Int)+((1:Nat):Int)
  ·rw[OQ hm Qh hc,an (show (200:Int)<(c:Int)+1 by omega)];rfl
  ·rw[OP hm Qh hc,az (show ¬(200:Int)<(c:Int)+1 by omega)]
   simp only[ab,aD]
   rw[a9 _ _ (by simp),u9 (by omega) (by omega) eN]
   simp only[ab]
   cases oP:qy r (c+1) (mkM r (c+1) (DC c 1 A b)) with
   |none=>rfl
   |some p=>
    obtain⟨U,acc⟩:=p
    have Qp:=uD oP
    rw[Ij,cj] at Qp
    have hU:=ng eN oP
    have hle:acc.length≤r:=G0 oP
    have SM:r*(c+1)≤200*201:=gG h3 (by omega)
    show cnd (decide ((0:Int)≠0)) _ (bnd (bV ⟨mS r ((c+1:Nat):Int) U,acc.map pvS⟩) _)=_
    rw[a9 _ _ (by simp),No (by omega)]
    simp only[ab]
    rw[Eo (by unfold d5;rw[bc];omega)]
    simp only[ab]
    unfold solvR
    dsimp only
    cases hany:(d5 acc).any fun x=>decide ((c:Int)=x) with
    |true=>rfl
    |false=>
     rw[kF]
     show cnd (decide (((acc.map pvS).length:Int)<(c:Int))) _ (bnd (aL (fF (mS r c A) (⟨mS r ((c+1:Nat):Int) U,acc.map pvS⟩,0)) (([]:List ak),(0:Int))) _)=_
     rw[bc]
     by_cases hl:acc.length<c
     ·rw[ba _ _,an hl];rfl
     ·rw[a9 _ _,az hl]
      have key:=lG (b:=fF (mS r c A) (⟨mS r ((c+1:Nat):Int) U,acc.map pvS⟩,0)) (fun k=>(((List.range k).map fun i=>U[i*(c+1)+c]!).map nv,(k:Int))) 0 acc.length (((List.range acc.length).map fun i=>U[i*(c+1)+c]!).map nv) (il _) (fun k _ hk=>?_) ?_
      ·rw[show (((List.range 0).map fun i=>U[i*(c+1)+c]!).map nv,((0:Nat):Int))=(([]:List ak),(0:Int)) from rfl] at key
       rw[key];rfl
      ·unfold fF
       dsimp only
       rw[bc,ba _ _,xq hU (by omega) (by omega) (by omega)]
       simp only[ab]
       rw[aB (by simp;omega),w64,sk]
       simp
      ·unfold fF
       dsimp only
       rw[bc,a9 _ _]
 ·rw[az h0]
  have e:(!decide (aN R C A=0)||(decide ((b.length:Int)≠R)||!b.all aH))=true:=by
   by_cases a:aN R C A=0
   ·by_cases d:(b.length:Int)=R
    ·by_cases e:b.all aH=true
     ·exact absurd ⟨a,d,e⟩ h0
     ·simp only[Bool.not_eq_true] at e;simp[e]
    ·simp[d]
   ·simp[a]
  rw[e,kT]
end
theorem LS {R:Type}{n:Nat}(hn:n≤1000000)(ok:Nat→Bool)(res:R){b:Int→Option (Int⊕(R⊕Unit))}(h:∀i:Nat,i<n→b i=cnd (!ok i) (some (.inr (.inl res))) (some (.inl (i64.wrap ((i:Int)+(1:Int))))))(he:b n=some (.inr (.inr ()))):
  aL b (0:Int)=some (if (List.range n).all ok then .inr () else .inl res):=by
 have key:∀m i:Nat,i+m=n→aL b (i:Int)=some (if (List.range' i m).all ok then .inr () else .inl res):=by
  intro m
  induction m with
  |zero=>
       intro i hi;obtain rfl:i=n:=by omega
       exact eI he
  |succ m ih=>
   intro i hi
   have hb:=h i (by omega)
   rw[tP,jL]
   cases hk:ok i with
   |false=>
    rw[hk] at hb
    rw[eI (by rw[hb];rfl)];rfl
   |true=>
    rw[hk,w64] at hb
    rw[iq (by rw[hb];rfl)]
    exact ih (i+1) (by omega)
 rw[show ((0:Int))=((0:Nat):Int) from rfl,key n 0 (by omega),Ao]
theorem dne {α:Type}[DecidableEq α](a b:α):decide (a≠b)= !decide (a=b):=by by_cases h:a=b <;> simp[h]
theorem id_MV {n:Nat}(h:n≤200):MV n n (mkM n n idF):=⟨h,h,eN,qb.2 fun i k _ _=>J7 i k⟩
def TM(acc:List Pv):Bool:=(List.range acc.length).all fun i=>decide ((((acc.map pvS)[i]!).vcol:Int)=i)
def invF(n:Nat)(U:List Nu)(i k:Nat):Nu:=U[i*(n+n)+(n+k)]!
def invR(n:Nat)(o:Option (List Nu×List Pv)):aq×Int:=match o with
 |none=>(mZ,30)
 |some (U,acc)=>if TM acc then i6 n n (mkM n n (invF n U)) else (mZ,70)
def invP(R C:Int)(A:List Nu):aq×Int:=if aN R C A=0∧R=C then (if 200<R+R then (mZ,2) else invR R.toNat (qy R.toNat (R.toNat+R.toNat) (mkM R.toNat (R.toNat+R.toNat) (DC R.toNat R.toNat A (mkM R.toNat R.toNat idF))))) else (mZ,1)
theorem idP_nat {n:Nat}(h:n≤200):idP (n:Int)=mS n n (mkM n n idF):=by
 unfold idP
 rw[ifn_,aD]
theorem P_Inverse {R C:Int}{A:List Nu}(hA:A.length≤1000000):sO (mS R C A)=some (invP R C A):=by
 unfold sO invP
 rw[q7 hA]
 simp only[ab,kOr]
 by_cases h0:aN R C A=0∧R=C
 ·rw[an h0]
  obtain⟨h1,rfl⟩:=h0
  obtain⟨n,c,rfl,hc,hm⟩:=d6.1 h1
  obtain rfl:n=c:=by omega
  have h3:=hm.r
  rw[h1,show (!decide ((0:Int)=0)||decide ((n:Int)≠n))=false by simp,kF,En]
  simp only[ab]
  rw[idP_nat h3,K6 hA (by rw[eN];have:=hm.rc;omega)]
  have hi:=id_MV h3
  by_cases hb:(200:Int)<(n:Int)+(n:Int)
  ·rw[OQ hm hi hb,an hb];rfl
  ·rw[OP hm hi hb,az hb]
   simp only[ab,aD]
   rw[a9 _ _ (by simp),u9 (by omega) (by omega) eN]
   simp only[ab]
   cases oP:qy n (n+n) (mkM n (n+n) (DC n n A (mkM n n idF))) with
   |none=>rfl
   |some p=>
    obtain⟨U,acc⟩:=p
    have hU:=ng eN oP
    have hle:acc.length≤n:=G0 oP
    have SM:n*(n+n)≤200*200:=gG h3 (by omega)
    rw[show AL (n:Int) ((n+n:Nat):Int) (some (U,acc))=((⟨mS n ((n+n:Nat):Int) U,acc.map pvS⟩:cY),(0:Int)) from rfl]
    dsimp only
    rw[a9 _ _ (by simp)]
    rw[LS (b:=iW (⟨mS n ((n+n:Nat):Int) U,acc.map pvS⟩,0)) (n:=acc.length) (by omega) (fun i=>decide ((((acc.map pvS)[i]!).vcol:Int)=i)) (mZ,70) (fun i hi2=>?_) ?_]
    ·unfold invR
     dsimp only
     show bnd (some (if TM acc then _ else _)) _=_
     cases hd:TM acc with
     |false=>rfl
     |true=>
      show bnd (ma (n:Int) (n:Int) ⟨mS n ((n+n:Nat):Int) U,acc.map pvS⟩ (mS n n A)) _=_
      rw[Ej (by omega) (by omega) (invF n U) (fun i k hi2 hk=>?_)]
      ·rfl
      ·unfold lP
       dsimp only
       rw[w64,show (n:Int)+(k:Int)=((n+k:Nat):Int) by omega,xq hU (by omega) hi2 (by omega)]
       rfl
    ·unfold iW
     dsimp only
     rw[bc,a9 _ _]
    ·unfold iW
     dsimp only
     rw[bc,ba _ _,aB,aD,dne]
 ·rw[az h0]
  have e:(!decide (aN R C A=0)||decide (R≠C))=true:=by
   by_cases a:aN R C A=0
   ·by_cases b:R=C
    ·exact absurd ⟨a,b⟩ h0
    ·simp[b]
   ·simp[a]
  rw[e,kT]
def lm(acc:List Pv)(i:Nat):Nat:=(acc[i]!).col
def jm(C:Nat)(U:List Nu)(acc:List Pv)(k:Nat):Nat→List Nu
 |0=>(List.replicate C (nOf 0)).set k (nOf 1)
 |n+1=>if lm acc n<k then (jm C U acc k n).set (lm acc n) (He U[n*C+k]!) else jm C U acc k n
theorem lY {C:Nat}{U:List Nu}{acc:List Pv}{k:Nat}:∀n,(jm C U acc k n).length=C
 |0=>by simp[jm]
 |n+1=>by
  unfold jm
  split
  ·rw[A9];exact lY n
  ·exact lY n
def fV(C:Nat)(acc:List Pv):List Nat:=(List.range C).filter fun k=>!(d5 acc).any fun x=>decide ((k:Int)=x)
def nullR(C:Nat)(o:Option (List Nu×List Pv)):List (List Nu)×Int:=match o with
 |none=>([],30)
 |some (U,acc)=>((fV C acc).map fun k=>jm C U acc k acc.length,0)
def JJ(R C:Int)(V:List Nu):List (List Nu)×Int:=if aN R C V=0 then nullR C.toNat (qy R.toNat C.toNat V) else ([],1)
theorem F7 {acc:List Pv}{i:Nat}(h:i<acc.length):(d5 acc)[i]! =((lm acc i:Nat):Int):=by
 unfold d5 lm
 rw[m4,m4,bE,eG h];rfl
theorem oM {C:Nat}{acc:List Pv}:fV (C+1) acc=fV C acc++if ((d5 acc).any fun x=>decide ((C:Int)=x)) then [] else [C]:=by
 unfold fV
 rw[sk,List.filter_append]
 congr 1
 rw[M0]
 cases ((d5 acc).any fun x=>decide ((C:Int)=x)) <;> rfl
theorem UR {R C:Int}{V:List Nu}(hV:V.length≤1000000):gN (mS R C V)=some ((JJ R C V).1.map (List.map nv),(JJ R C V).2):=by
 unfold gN JJ
 rw[q7 hV]
 simp only[ab]
 by_cases h1:aN R C V=0
 ·rw[an h1]
  obtain⟨r,c,rfl,rfl,hm⟩:=d6.1 h1
  have h3:=hm.r
  have h4:=hm.c
  have h5:=hm.rc
  rw[h1,show (!decide ((0:Int)=0))=false by simp,kF,u9 (by omega) (by omega) hm.len,aD,aD]
  simp only[ab]
  cases oP:qy r c V with
  |none=>rfl
  |some p=>
   obtain⟨U,acc⟩:=p
   have hU:=ng hm.len oP
   have hle:acc.length≤r:=G0 oP
   rw[show AL (r:Int) (c:Int) (some (U,acc))=((⟨mS r c U,acc.map pvS⟩:cY),(0:Int)) from rfl]
   dsimp only
   rw[a9 _ _ (by simp),No (by omega)]
   simp only[ab]
   have key:=lG (b:=iU (mS r c V) (⟨mS r c U,acc.map pvS⟩,0) (d5 acc)) (fun k=>(((fV k acc).map fun j=>jm c U acc j acc.length).map (List.map nv),(k:Int))) 0 c (((fV c acc).map fun j=>jm c U acc j acc.length).map (List.map nv)) (il _) (fun k _ hk=>?_) ?_
   ·rw[show (((fV 0 acc).map fun j=>jm c U acc j acc.length).map (List.map nv),((0:Nat):Int))=(([]:List (List ak)),(0:Int)) from rfl] at key
    rw[key];rfl
   ·unfold iU
    dsimp only
    have hkl:(fV k acc).length≤k:=by unfold fV;exact cg (D1 _ _) (by rw[MP];omega)
    rw[ba _ _,Eo (by unfold d5;rw[bc];omega),oM]
    simp only[ab]
    cases hany:(d5 acc).any fun x=>decide ((k:Int)=x) with
    |true=>
     rw[kT]
     simp only[ab]
     rw[w64];simp only[fS,pY];rfl
    |false=>
     rw[kF,uOf]
     simp only[ab]
     have cJ:gk [nv (nOf 0)] (c:Int)=some ((List.replicate c (nOf 0)).map nv):=by
      unfold gk
      dsimp only
      rw[an ⟨(nOf 0).2,by omega,by omega⟩,aD,DG]
     rw[cJ,uOf]
     simp only[ab]
     rw[aB ⟨by omega,by rw[bc,ny];omega,by rw[bc,ny];omega⟩,aD,←List.map_set]
     have inner:=lG (b:=iT (⟨mS r c U,acc.map pvS⟩,0) (d5 acc) (k:Int) ((List.replicate c (nOf 0)).map nv)) (fun n=>((n:Int),(jm c U acc k n).map nv)) 0 acc.length ((jm c U acc k acc.length).map nv) (il _) (fun n _ hn=>?_) ?_
     ·rw[show (((0:Nat):Int),(jm c U acc k 0).map nv)=((0:Int),((List.replicate c (nOf 0)).set k (nOf 1)).map nv) from rfl] at inner
      rw[inner]
      simp only[ab]
      rw[aB (by simp[lY]),aB (by simp;omega),w64]
      simp only[ab]
      simp only[MX,m7,lf];rfl
     ·unfold iT
      dsimp only
      have wV:(d5 acc).length=acc.length:=by unfold d5;rw[bc]
      rw[wV,ba _ _,aB,aD,F7 hn]
      rw[show jm c U acc k (n+1)=if lm acc n<k then (jm c U acc k n).set (lm acc n) (He U[n*c+k]!) else jm c U acc k n from rfl]
      by_cases bh:lm acc n<k
      ·rw[ba _ _,an bh,xq hU (by omega) (by omega) hk]
       simp only[ab,uNeg]
       rw[aB ⟨by omega,by rw[bc,ny];omega,by rw[bc,lY];omega⟩,aD,←List.map_set,w64]
       rfl
      ·rw[a9 _ _,az bh]
       simp only[ab]
       rw[w64];rfl
     ·unfold iT
      dsimp only
      rw[show (d5 acc).length=acc.length by unfold d5;rw[bc],a9 _ _]
   ·unfold iU
    dsimp only
    rw[a9 _ _]
 ·rw[az h1,show (!decide (aN R C V=0))=true by simp[h1],kT];rfl
def Ae(n:Nat)(o:Option (List Nu×List Pv)):Nu×Int:=match o with
 |none=>(nOf 0,30)
 |some (_,acc)=>if acc.length<n then (nOf 0,0) else if aH (t5 (oJ acc) acc) then (t5 (oJ acc) acc,0) else (nOf 0,30)
theorem detR_eq(n:Nat)(o:Option (List Nu×List Pv)):detR n o=(if (Ae n o).2=0 then nv (Ae n o).1 else rZ,(Ae n o).2):=by
 unfold detR Ae
 cases o with
 |none=>rfl
 |some p=>
  obtain⟨U,acc⟩:=p
  dsimp only
  split
  ·rfl
  ·split <;> rfl
def t7(n:Nat)(V:List Nu)(i k:Nat):Nu:=V[i*n+k]!
def PU(n:Nat)(V:List Nu):Nat→Nat→Bool×Int
 |0,_=>(true,0)
 |m+1,j=>if (Ae j (qy j j (mkM j j (t7 n V)))).2≠0∨jo (Ae j (qy j j (mkM j j (t7 n V)))).1≤0 then (false,(Ae j (qy j j (mkM j j (t7 n V)))).2) else PU n V m (j+1)
def symP(n:Nat)(V:List Nu):Bool:=(List.range n).all fun i=>(List.range i).all fun k=>decide (V[i*n+k]! =V[k*n+i]!)
def NV(R C:Int)(V:List Nu):Bool×Int:=if aN R C V=0∧R=C then (if symP R.toNat V then PU R.toNat V R.toNat 1 else (false,0)) else (false,1)
theorem lead_MV {n j:Nat}{V:List Nu}(hm:MV n n V)(hj:j≤n):MV j j (mkM j j (t7 n V)):=⟨cg hj hm.r,cg hj hm.r,eN,qb.2 fun i k hi hk=>hm.gd (cT (by omega) (by omega))⟩
theorem Em {R C:Int}{V:List Nu}(hV:V.length≤1000000):eW (mS R C V)=some (NV R C V):=by
 unfold eW NV
 rw[q7 hV]
 simp only[ab,kOr]
 by_cases h0:aN R C V=0∧R=C
 ·rw[an h0]
  obtain⟨h1,rfl⟩:=h0
  obtain⟨n,c,rfl,hc,hm⟩:=d6.1 h1
  obtain rfl:n=c:=by omega
  have h3:=hm.r
  have h5:=hm.rc
  rw[h1,show (!decide ((0:Int)=0)||decide ((n:Int)≠n))=false by simp,kF,aD]
  rw[LS (b:=fk (mS n n V)) (n:=n) (by omega) (fun i=>(List.range i).all fun k=>decide (V[i*n+k]! =V[k*n+i]!)) (false,0) (fun i hi=>?_) ?_]
  ·show bnd (some (if symP n V then _ else _)) _=_
   cases hs:symP n V with
   |false=>rfl
   |true=>
    show bnd (aL (da (mS n n V)) (1:Int)) _=some (PU n V n 1)
    have key:∀m j:Nat,j+m=n+1→∃z,aL (da (mS n n V)) (j:Int)=some z∧((z=.inr ()∧PU n V m j=(true,0))∨z=.inl (PU n V m j)):=by
     intro m
     induction m with
     |zero=>
      intro j hj
      refine⟨.inr (),eI ?_,.inl ⟨rfl,rfl⟩⟩
      unfold da
      dsimp only
      rw[a9 _ _]
     |succ m ih=>
      intro j hj
      have hb:da (mS n n V) (j:Int)=if (Ae j (qy j j (mkM j j (t7 n V)))).2≠0∨jo (Ae j (qy j j (mkM j j (t7 n V)))).1≤0 then some (.inr (.inl (false,(Ae j (qy j j (mkM j j (t7 n V)))).2))) else some (.inl ((j+1:Nat):Int)):=by
       unfold da
       dsimp only
       have hl:=lead_MV hm (show j≤n by omega)
       rw[ba _ _,BB (by omega) (by omega) (t7 n V) (fun i k hi hk=>by unfold fm;rw[xq hm.len (by omega) (by omega) (by omega)];rfl)]
       simp only[ab]
       rw[wQ (f:=t7 n V) fun i k hi hk=>hm.gd (cT (show i<n by omega) (show k<n by omega))]
       dsimp only
       rw[P_Det (by rw[eN];have:=hl.rc;omega)]
       unfold detP
       rw[an ⟨hl.chk,rfl⟩,aD,detR_eq]
       simp only[ab]
       generalize Ae j (qy j j (mkM j j (t7 n V)))=d
       by_cases hd:d.2=0
       ·rw[a9 _ _ (by simpa using hd),an hd,uSign]
        simp only[ab]
        by_cases Oi:jo d.1≤0
        ·rw[ba _ _ Oi,an (.inr Oi)]
        ·rw[a9 _ _ Oi,az (by intro h;rcases h with h|h;exact h hd;exact Oi h),w64];rfl
       ·rw[ba _ _ hd,an (.inl hd)]
        simp only[ab]
        rw[kT]
      unfold PU
      by_cases hd:(Ae j (qy j j (mkM j j (t7 n V)))).2≠0∨jo (Ae j (qy j j (mkM j j (t7 n V)))).1≤0
      ·rw[an hd] at hb
       rw[an hd]
       exact⟨_,eI hb,.inr rfl⟩
      ·rw[az hd] at hb
       rw[az hd,iq hb]
       exact ih (j+1) (by omega)
    obtain⟨z,hz,h6⟩:=key n 1 (by omega)
    rw[show (((1:Nat):Int))=1 from rfl] at hz
    rw[hz]
    rcases h6 with⟨rfl,h6⟩|rfl
    ·rw[h6];rfl
    ·rfl
  ·unfold fk
   dsimp only
   rw[a9 _ _]
  ·unfold fk
   dsimp only
   rw[ba _ _,LS (b:=fj (mS n n V) (i:Int)) (n:=i) (by omega) (fun k=>decide (V[i*n+k]! =V[k*n+i]!)) (false,0) (fun k hk=>?_) ?_]
   ·simp only[ab]
    cases (List.range i).all fun k=>decide (V[i*n+k]! =V[k*n+i]!) <;> rfl
   ·unfold fj
    try dsimp only
    rw[a9 _ _]
   ·unfold fj
    try dsimp only
    rw[ba _ _,xq hm.len (by omega) hi (by omega),xq hm.len (by omega) (by omega) hi]
    simp only[ab,nv_eq]
    have:decide (¬V[i*n+k]! =V[k*n+i]!)= !decide (V[i*n+k]! =V[k*n+i]!):=dne _ _
    rw[this]
 ·rw[az h0]
  have e:(!decide (aN R C V=0)||decide (R≠C))=true:=by
   by_cases a:aN R C V=0
   ·by_cases b:R=C
    ·exact absurd ⟨a,b⟩ h0
    ·simp[b]
   ·simp[a]
  rw[e,kT]
theorem F6(acc:List Pv):(d5 acc).length=acc.length:=by unfold d5;rw[bc]
theorem zy {R C:Nat}:∀{n k r:Nat} {V:List Nu} {acc:List Pv} {W:List Nu} {l:List Pv},(acc.map Pv.col).Pairwise (·<·)→(∀p∈acc,p.col<k)→lh R C n k r V acc=some (W,l)→(l.map Pv.col).Pairwise (·<·)∧∀p∈l,p.col<k+n
 |0,_,_,_,_,_,_,hs,hk,h=>by
  unfold lh at h
  injection h with h
  injection h with h1 h2
  rw[←h2];exact⟨hs,hk⟩
 |n+1,k,r,V,acc,W,l,hs,hk,h=>by
  unfold lh at h
  split at h
  ·split at h
   ·have:=zy hs (fun p hp=>pZ (hk p hp)) h
    exact⟨this.1,fun p hp=>by have:=this.2 p hp;omega⟩
   ·split at h
    ·have:=zy (by
      rw[lf,List.pairwise_append]
      refine⟨hs,List.pairwise_singleton _ _,fun a ha b hb=>?_⟩
      obtain⟨p,hp,rfl⟩:=nz.1 ha
      rw[gZ,pN,qU] at hb
      rw[hb];exact hk p hp) (fun p hp=>by
      rcases jK.1 hp with hp|hp
      ·exact pZ (hk p hp)
      ·rw[qU] at hp
       rw[hp];exact dH k) h
     exact⟨this.1,fun p hp=>by have:=this.2 p hp;omega⟩
    ·cases h
  ·injection h with h
   injection h with h1 h2
   rw[←h2];exact⟨hs,fun p hp=>by have:=hk p hp;omega⟩
theorem H3 {acc:List Pv}(hs:(acc.map Pv.col).Pairwise (·<·)){i j:Nat}(Q1:i<j)(hj:j<acc.length):lm acc i<lm acc j:=by
 have:=DQ.1 hs i j (by rw[bc];omega) (by rw[bc];omega) Q1
 rw[DL,DL] at this
 unfold lm
 rw[bK acc i (by omega),bK acc j hj]
 exact this
theorem any_col {acc:List Pv}{c:Nat}:((d5 acc).any fun x=>decide ((c:Int)=x))=true↔∃i,i<acc.length∧lm acc i=c:=by
 rw[OZ]
 constructor
 ·rintro⟨x,hx,h⟩
  unfold d5 at hx
  obtain⟨p,hp,rfl⟩:=nz.1 hx
  obtain⟨i,hi,rfl⟩:=List.getElem_of_mem hp
  refine⟨i,hi,?_⟩
  have:=oc h
  unfold lm
  rw[bK acc i hi];omega
 ·rintro⟨i,hi,h⟩
  refine⟨(d5 acc)[i]!,?_,?_⟩
  ·rw[bK (d5 acc) i (by rw[F6];exact hi)];exact uc _
  ·rw[F7 hi,h];exact ck rfl
theorem PP {R C:Nat}{V W:List Nu}{l:List Pv}(h:qy R C V=some (W,l)):(l.map Pv.col).Pairwise (·<·)∧∀p∈l,p.col<C:=by
 have:=zy (acc:=[]) List.Pairwise.nil (fun p hp=>by cases hp) h
 exact⟨this.1,fun p hp=>by have:=this.2 p hp;omega⟩
theorem T7 {A k:Nat}(h:A<2 ^ (k+1))(hb:(dg 65536 A (k / 16) / 2 ^ (k % 16)) % 2=0):A<2 ^ k:=by
 have e1:(dg 65536 A (k / 16)).testBit (k % 16)=A.testBit k:=by
  unfold dg
  rw[show (65536:Nat) ^ (k / 16)=2 ^ (16*(k / 16)) by rw[Ap],show (65536:Nat)=2 ^ 16 by decide,Nat.testBit_mod_two_pow,Nat.testBit_div_two_pow,ck (dM _ (by decide)),DK]
  congr 1;omega
 rw[Uu,Uu] at e1
 have h2:A / 2 ^ k % 2=0:=by
  rcases Nat.mod_two_eq_zero_or_one (A / 2 ^ k) with h3|h3
  ·exact h3
  ·rw[h3] at e1
   have:=oc (e1.trans (ck rfl))
   omega
 have h3:A / 2 ^ k<2:=by rw[kO (bD (by decide))];rw[cC] at h;omega
 have h4:A / 2 ^ k=0:=by
  generalize A / 2 ^ k=q at h2 h3
  omega
 rcases Nat.div_eq_zero_iff.1 h4 with h5|h5
 ·have:=bD (n:=k) (show 0<2 by decide);omega
 ·exact h5
theorem R_bit {A k:Nat}(hk:k≤100000):pC (dl A) (k:Int)=some (((dg 65536 A (k / 16) / 2 ^ (k % 16)) % 2:Nat):Int):=by
 unfold pC
 have e1:i64.wrap (Int.tdiv (k:Int) (16:Int))=((k / 16:Nat):Int):=by
  rw[Int.tdiv_eq_ediv_of_nonneg (by omega),w64];omega
 have e2:Int.tmod (k:Int) (16:Int)=((k % 16:Nat):Int):=by
  rw[Int.tmod_eq_emod_of_nonneg (by omega)];rfl
 rw[e1,e2,show dl A=dk (sz6 A) A from rfl,tY (jV A),ab,aB,zS _ _ _ (by have:k % 16<16:=dM _ (by decide);show k % 16≤64;omega)]
 generalize dg 65536 A (k / 16) / 2 ^ (k % 16)=q
 have e3:Int.tmod (q:Int) 2=((q % 2:Nat):Int):=by rw[Int.tmod_eq_emod_of_nonneg (by omega)];rfl
 rw[e3]
theorem R_Bits {z:Int}(hz:z.natAbs<LIM):∃n:Nat,eC (enc z)=some (n:Int)∧z.natAbs<2 ^ n:=by
 have hsz:sz6 z.natAbs≤32:=rQ (bC hz (by decide))
 have bh:=jV z.natAbs
 have hlen:=Mx z.natAbs
 obtain⟨x,hl,hx⟩:=wi (b:=l8 (dl z.natAbs)) (fun s:Int=>0≤s∧s≤512∧z.natAbs<2 ^ s.toNat) (fun s=>s.toNat) (fun x=>0≤x∧x≤512∧z.natAbs<2 ^ x.toNat) (fun s ⟨h1,h2,h3⟩=>by
  unfold l8
  by_cases h0:0<s
  ·obtain⟨k,rfl⟩:∃k:Nat,s=(k:Int)+1:=⟨(s - 1).toNat,by omega⟩
   rw[ba _ _ h0,w64 (n:=(k:Int)+1 - 1),show (k:Int)+1 - 1=(k:Int) by omega,R_bit (by omega),ab]
   have e:((k:Int)+1).toNat=k+1:=by omega
   rw[e] at h3
   by_cases hb:(dg 65536 z.natAbs (k / 16) / 2 ^ (k % 16)) % 2=0
   ·refine .inl ⟨(k:Int),?_,⟨by omega,by omega,?_⟩,by omega⟩
    ·rw[det_];rfl
    ·rw[show ((k:Int)).toNat=k by omega];exact T7 h3 hb
   ·refine .inr ⟨(k:Int)+1,?_,by omega,by omega,by rw[e];exact h3⟩
    rw[def_];rfl
  ·obtain rfl:s=0:=by omega
   exact .inr ⟨0,by rw[a9 _ _ h0];rfl,by omega,by omega,h3⟩) (16*(sz6 z.natAbs:Int)) ⟨by omega,by omega,by
   rw[show (16*(sz6 z.natAbs:Int)).toNat=16*sz6 z.natAbs by omega,Ap];exact bh⟩
 refine⟨x.toNat,?_,hx.2.2⟩
 unfold eC
 rw[mi,bA hz,ab,td hz]
 rw[show (!true)=false from rfl,kF]
 simp only[ab]
 rw[hlen,w64,hl,ab]
 congr 1;omega
theorem Lc {x:ap}(h:okI x):∃n:Int,eC x=some n:=by
 cases hg:dA x with
 |true=>
  obtain⟨z,hz,rfl⟩:=uM h hg
  obtain⟨n,hn,_⟩:=R_Bits hz
  exact⟨n,hn⟩
 |false=>
  refine⟨0,?_⟩
  unfold eC
  rw[mi,hg];rfl
theorem Pj {l:List Nu}(hl:l.length≤1000000):∃b,i2 (l.map nv)=some b:=by
 obtain⟨fN,hN⟩:∃fN:Nat→Int,fN=fun i=>(eC (nv l[i]!).vN).getD 0:=⟨_,rfl⟩
 obtain⟨fD,hD⟩:∃fD:Nat→Int,fD=fun i=>(eC (nv l[i]!).vD).getD 0:=⟨_,rfl⟩
 unfold i2
 rw[CJ (b:=jv (l.map nv)) (n:=l.length) hl (fun i=>!(decide (60<fN i)||decide (60<fD i))) (fun i hi=>by
  unfold jv
  rw[bc,ba _ _,aB,aB,aD,JN hi]
  obtain⟨n1,h1⟩:=Lc (l[i]!).2.1
  obtain⟨n2,h2⟩:=Lc (l[i]!).2.2
  have h1:eC (nv l[i]!).vN=some n1:=h1
  have h2:eC (nv l[i]!).vD=some n2:=h2
  have e1:fN i=n1:=by rw[hN];dsimp only;rw[h1];rfl
  have e2:fD i=n2:=by rw[hD];dsimp only;rw[h2];rfl
  rw[h1,h2,e1,e2]
  simp only[ab,kOr,Bool.not_not]) (by
  unfold jv
  rw[bc,a9 _ _])]
 cases (List.range l.length).all fun i=>!(decide (60<fN i)||decide (60<fD i))
 ·exact⟨false,rfl⟩
 ·exact⟨true,rfl⟩
theorem Q_Light {R C:Int}{V:List Nu}:∃b,kG (mS R C V)=some b∧(b=true→V.length≤60∧(aN R C V=0→R≤6∧C≤7)):=by
 unfold kG
 dsimp only
 rw[bc]
 by_cases h:(60:Int)<V.length
 ·rw[ba _ _ h];exact⟨false,rfl,fun h=>by cases h⟩
 ·rw[a9 _ _ h,Q_valid (by omega)]
  simp only[ab]
  by_cases hv:aN R C V=0
  ·rw[show (!decide (aN R C V=0))=false by simp[hv],kF]
   by_cases h1:R≤6
   ·by_cases h2:C≤7
    ·rw[ba _ _ h1,ba _ _ h2]
     obtain⟨b,hb⟩:=Pj (l:=V) (by omega)
     rw[hb]
     exact⟨b,rfl,fun _=>⟨by omega,fun _=>⟨h1,h2⟩⟩⟩
    ·rw[ba _ _ h1,a9 _ _ h2];exact⟨false,rfl,fun h=>by cases h⟩
   ·rw[a9 _ _ h1];exact⟨false,rfl,fun h=>by cases h⟩
  ·rw[show (!decide (aN R C V=0))=true by simp[hv],kT]
   exact⟨true,rfl,fun _=>⟨by omega,fun h=>absurd h hv⟩⟩
theorem all_eqL {α:Type}[DecidableEq α][Inhabited α]{a b:List α}(h:a.length=b.length):(List.range a.length).all (fun i=>decide (a[i]! =b[i]!))=decide (a=b):=by
 rw[uT,bx,mu]
 constructor
 ·intro hh
  refine Iq h fun i h1 h2=>?_
  have:=oc (hh i (A6.2 h1))
  rwa[bK a i h1,bK b i h2] at this
 ·rintro rfl i _
  exact ck rfl
theorem Eh {a b:List ak}(ha:a.length≤1000000):b7 a b=some (decide (a=b)):=by
 unfold b7
 by_cases h:a.length=b.length
 ·rw[a9 _ _,CJ (b:=fM a b) (n:=a.length) ha (fun i=>decide (a[i]! =b[i]!)) (fun i hi=>by
   unfold fM
   rw[ba _ _,aB,aB,aD]
   rw[show decide (¬a[i]! =b[i]!)= !decide (a[i]! =b[i]!) from dne _ _]) (by
   unfold fM
   rw[a9 _ _])]
  rw[all_eqL h]
  cases decide (a=b) <;> rfl
 ·rw[ba _ _,gQ (fun e=>h (by rw[e]))]
theorem Q_Same {a b:aq}(ha:a.vV.length≤1000000):fL a b=some (decide (a=b)):=by
 unfold fL
 rw[Eh ha]
 obtain⟨R,C,V⟩:=a
 obtain⟨R',C',V'⟩:=b
 dsimp only
 by_cases h1:R=R'
 ·by_cases h2:C=C'
  ·rw[ba _ _ h1,ba _ _ h2]
   simp only[ab]
   rw[h1,h2]
   by_cases h3:V=V'
   ·rw[h3];simp
   ·rw[gQ h3,gQ (fun e=>h3 (by injection e))]
  ·rw[ba _ _ h1,a9 _ _ h2,gQ (fun e=>h2 (by injection e))];rfl
 ·rw[a9 _ _ h1,gQ (fun e=>h1 (by injection e))];rfl
theorem Pm {l:List Nu}(hl:l.length≤1000000):i3 (l.map nv)=some (l.all fun x=>decide (jo x=0)&&aH x):=by
 unfold i3
 rw[CJ (b:=mc (l.map nv)) (n:=l.length) hl (fun i=>decide (jo l[i]! =0)&&aH l[i]!) (fun i hi=>by
  unfold mc
  rw[bc,ba _ _,aB,aD,JN hi,uSign,NG]
  simp only[ab,kOr]
  rw[show decide (jo l[i]!≠0)= !decide (jo l[i]! =0) from dne _ _,Bool.not_and]) (by
  unfold mc
  rw[bc,a9 _ _])]
 rw[Ib l (fun x=>decide (jo x=0)&&aH x)]
 cases l.all fun x=>decide (jo x=0)&&aH x <;> rfl
theorem IK {r c:Int}{l:List Int}(hl:l.length≤1000)(h:∀i,i<l.length→-1000≤l[i]!∧l[i]!≤1000):e6 r c l=some (mS r c (l.map nOf)):=by
 unfold e6
 have key:=lG (b:=mI l) (fun i:Nat=>((i:Int),((l.take i).map nOf).map nv)) 0 l.length ((l.map nOf).map nv) (il _) (fun i _ hi=>?_) ?_
 ·have e:((((0:Nat):Int),((l.take 0).map nOf).map nv))=((0:Int),([]:List ak)):=by simp
  rw[e] at key
  rw[key];rfl
 ·unfold mI
  dsimp only
  have SH:l.take (i+1)=l.take i++[l[i]!]:=by rw[List.take_add_one,eG hi,bK l i hi];rfl
  obtain⟨h1,h2⟩:=h i hi
  rw[ba _ _,aB,aD,uOf,ab,aB (by simp;omega),w64,SH]
  simp only[lf,gZ,pN]
  rfl
 ·unfold mI
  dsimp only
  rw[a9 _ _,e9 (aC _)]
theorem AA {l:List Int}(hl:l.length≤1000)(h:∀i,i<l.length→-1000≤l[i]!∧l[i]!≤1000):eE l=some ((l.map nOf).map nv):=by
 unfold eE
 rw[IK hl h];rfl
def fr(a b:Int):Nu:=nuR (some (Rat.divInt a b))
theorem s1T:xO 2 2 ([1,2,3,4].map nOf)=(mS 2 2 ([1,0,0,1].map nOf),[0,1],0):=by decide +kernel
theorem s2T:detP 2 2 ([1,2,3,4].map nOf)=(nv (nOf (-2)),0):=by decide +kernel
theorem s3T:xO 2 3 ([0,2,4,0,1,2].map nOf)=(mS 2 3 ([0,1,2,0,0,0].map nOf),[1],0):=by decide +kernel
theorem s4T:Jt 2 2 ([1,2,3,4].map nOf) ([5,6].map nOf)=([nv (nOf (-4)),nv (fr 9 2)],0):=by decide +kernel
theorem s5T:Jt 1 2 ([1,1].map nOf) ([2].map nOf)=([],70):=by decide +kernel
theorem s6T:Jt 2 1 ([1,1].map nOf) ([1,2].map nOf)=([],200):=by decide +kernel
theorem s7T:JJ 1 3 ([1,2,3].map nOf)=([[-2,1,0].map nOf,[-3,0,1].map nOf],0):=by decide +kernel
theorem s8T:NV 2 2 ([2,1,1,2].map nOf)=(true,0):=by decide +kernel
theorem s9T:NV 2 2 ([1,2,2,1].map nOf)=(false,0):=by decide +kernel
theorem sFrac:l9 9 2=some (nv (fr 9 2)):=by
 unfold l9
 rw[IM (by decide) (by decide),ab,IM (by decide) (by decide),ab,AD (by decide) (by decide) (by decide),ab]
 rfl
theorem sSame {a b:aq}(ha:a.vV.length≤1000000)(h:a=b):fL a b=some true:=by rw[Q_Same ha,ck h]
theorem RD {a:List ak}(ha:a.length≤1000000):b7 a a=some true:=by rw[Eh ha,ck rfl]
theorem Er:eZ=some true:=by
 have o1:=IK (r:=2) (c:=2) (l:=[1,2,3,4]) (by decide) (by decide)
 have o2:=IK (r:=2) (c:=3) (l:=[0,2,4,0,1,2]) (by decide) (by decide)
 have o3:=AA (l:=[5,6]) (by decide) (by decide)
 have o4:=IK (r:=1) (c:=2) (l:=[1,1]) (by decide) (by decide)
 have o5:=AA (l:=[2]) (by decide) (by decide)
 have o6:=IK (r:=2) (c:=1) (l:=[1,1]) (by decide) (by decide)
 have o7:=AA (l:=[1,2]) (by decide) (by decide)
 have o8:=IK (r:=1) (c:=3) (l:=[1,2,3]) (by decide) (by decide)
 have o9:=IK (r:=2) (c:=2) (l:=[2,1,1,2]) (by decide) (by decide)
 have o10:=IK (r:=2) (c:=2) (l:=[1,2,2,1]) (by decide) (by decide)
 have o11:=IK (r:=2) (c:=3) (l:=[0,1,2,0,0,0]) (by decide) (by decide)
 have o12:=AA (l:=[-2,1,0]) (by decide) (by decide)
 have o13:=AA (l:=[-3,0,1]) (by decide) (by decide)
 have r1:=(Ek (R:=2) (C:=2) (V:=[1,2,3,4].map nOf) (by decide)).trans (congrArg some s1T)
 have r2:=(P_Det (R:=2) (C:=2) (V:=[1,2,3,4].map nOf) (by decide)).trans (congrArg some s2T)
 have r3:=(Ek (R:=2) (C:=3) (V:=[0,2,4,0,1,2].map nOf) (by decide)).trans (congrArg some s3T)
 have r4:=(IJ (R:=2) (C:=2) (A:=[1,2,3,4].map nOf) (b:=[5,6].map nOf) (by decide) (by decide)).trans (congrArg some s4T)
 have r5:=(IJ (R:=1) (C:=2) (A:=[1,1].map nOf) (b:=[2].map nOf) (by decide) (by decide)).trans (congrArg some s5T)
 have r6:=(IJ (R:=2) (C:=1) (A:=[1,1].map nOf) (b:=[1,2].map nOf) (by decide) (by decide)).trans (congrArg some s6T)
 have r7:gN (mS 1 3 ([1,2,3].map nOf))=some ([([-2,1,0].map nOf).map nv,([-3,0,1].map nOf).map nv],0):=(UR (R:=1) (C:=3) (V:=[1,2,3].map nOf) (by decide)).trans (by rw[s7T];rfl)
 have r8:=(Em (R:=2) (C:=2) (V:=[2,1,1,2].map nOf) (by decide)).trans (congrArg some s8T)
 have r9:=(Em (R:=2) (C:=2) (V:=[1,2,2,1].map nOf) (by decide)).trans (congrArg some s9T)
 have u1:=uOf (n:=-2) (by decide) (by decide)
 have u2:=uOf (n:=-4) (by decide) (by decide)
 have e1:fL (mS 2 2 ([1,0,0,1].map nOf)) (idP 2)=some true:=sSame (by decide) rfl
 have e2:fL (mS 2 3 ([0,1,2,0,0,0].map nOf)) (mS 2 3 ([0,1,2,0,0,0].map nOf))=some true:=sSame (by decide) rfl
 have e3:b7 (([-2,1,0].map nOf).map nv) (([-2,1,0].map nOf).map nv)=some true:=RD (by decide)
 have e4:b7 (([-3,0,1].map nOf).map nv) (([-3,0,1].map nOf).map nv)=some true:=RD (by decide)
 unfold eZ
 rw[o1,ab,r1,ab,r2,ab,o2,ab,r3,ab,o3,ab,r4,ab,o4,ab,o5,ab,r5,ab,o6,ab,o7,ab,r6,ab,o8,ab,r7,ab,o9,ab,r8,ab,o10,ab,r9,ab]
 refine (congrArg (fun o=>bnd o _) (show _=some false from rfl)).trans ?_
 rw[ab,kF,En,ab,o11,u1,u2,sFrac,o12,o13]
 refine (congrArg (fun o=>bnd o _) (show _=some true from ?_)).trans ?_
 ·refine (congrArg (fun o=>bnd o _) e1).trans ?_
  rw[ab,kT,aB (by decide)]
  refine (ba _ _ (by rfl)).trans ?_
  rw[aB (by decide)]
  refine (ba _ _ (by rfl)).trans ?_
  rw[ab]
  refine (ba _ _ (by rfl)).trans ?_
  rw[ab]
  refine (congrArg (fun o=>bnd o _) e2).trans ?_
  rfl
 ·rw[ab]
  refine (congrArg (fun o=>bnd o _) (show _=some true from ?_)).trans ?_
  ·rw[kT,aB (by decide),ab]
   refine (ba _ _ (by rfl)).trans ?_
   rw[aB (by decide),ab]
   refine (ba _ _ (by rfl)).trans ?_
   rw[aB (by decide),ab]
   refine (congrArg (fun o=>bnd o _) e3).trans ?_
   rw[ab,kT,aB (by decide),ab]
   refine (congrArg (fun o=>bnd o _) e4).trans ?_
   rfl
  ·rfl
theorem CG {α:Type}{R C:Nat}{f:Nat→Nat→α}(hR:R≤400)(hC:C≤400):(mkM R C f).length≤1000000:=by
 have:R*C≤400*400:=gG hR hC
 rw[eN];omega
theorem OH {C K:Nat}{A B:List Nu}{i k:Nat}:∀n,aH (HW C K A B i k n)=true→rv (HW C K A B i k n)=ff (n+1) fun j=>rv A[i*C+j]! *rv B[j*K+k]!
 |0,h=>by
  unfold HW at h ⊢
  obtain⟨h1,h2⟩:=Dc h
  rw[BP h1 h2 h]
  show _=0+rv A[i*C+0]! *rv B[0*K+k]!
  rw[i9,jJ,cj];grind
 |n+1,h=>by
  unfold HW at h
  obtain⟨h1,h2⟩:=Kj h
  obtain⟨h3,h4⟩:=Dc h2
  show rv (ES _ _)=ff (n+1) _+_
  rw[Hg h1 h2 h,OH n h1,BP h3 h4 h2]
theorem mulF_rv {C K:Nat}{A B:List Nu}{i k:Nat}(h:aH (wP C K A B i k)=true):rv (wP C K A B i k)=ff C fun j=>rv A[i*C+j]! *rv B[j*K+k]! :=by
 unfold wP at h ⊢
 by_cases h0:C=0
 ·rw[an h0,h0,of0.2];rfl
 ·rw[az h0] at h ⊢
  have:=OH _ h
  rw[this,show C - 1+1=C by omega]
theorem N7 {R C R' C':Int}{A B:List Nu}(h:(LP R C A R' C' B).2=0):∃r c k:Nat,R=r∧C=c∧R'=c∧C'=k∧MV r c A∧MV c k B∧(mkM r k (wP c k A B)).all aH=true∧LP R C A R' C' B=(mS r k (mkM r k (wP c k A B)),0):=by
 unfold LP at h ⊢
 by_cases h0:aN R C A=0∧aN R' C' B=0∧C=R'
 ·rw[an h0] at h ⊢
  obtain⟨h1,h2,rfl⟩:=h0
  obtain⟨r,c,rfl,rfl,hm⟩:=d6.1 h1
  obtain⟨r',c',hr,rfl,xz⟩:=d6.1 h2
  obtain rfl:c=r':=by omega
  rw[aD,aD,aD] at h ⊢
  refine⟨r,c,c',rfl,rfl,rfl,rfl,hm,xz,?_⟩
  unfold i6 at h ⊢
  cases hg:(mkM r c' (wP c c' A B)).all aH with
  |true=>exact⟨rfl,rfl⟩
  |false=>
   rw[hg] at h
   exact absurd h (by show ¬(30:Int)=0;decide)
 ·rw[az h0] at h
  exact absurd h (by decide)
def H4(x:List Nu):Int×Int×List Nu:=if aN x.length 1 x=0 then ((x.length:Int),1,x) else (0,0,[])
theorem colP_eq(x:List Nu):TW x=mS (H4 x).1 (H4 x).2.1 (H4 x).2.2:=by
 unfold TW AM H4
 split <;> rfl
def mcP(R C:Int)(A x:List Nu):aq×Int:=LP R C A (H4 x).1 (H4 x).2.1 (H4 x).2.2
theorem K4 {R C:Int}{A x:List Nu}(hA:A.length≤1000000)(hx:x.length≤1000000):iV (mS R C A) (TW x)=some (mcP R C A x):=by
 rw[colP_eq]
 refine P_Mul hA ?_
 unfold H4
 split
 ·exact hx
 ·exact il _
theorem R9 {R C:Int}{A x:List Nu}(h:(mcP R C A x).2=0)(hC:C≠0):∃r c:Nat,R=r∧C=c∧MV r c A∧x.length=c∧x.all aH=true∧(mkM r 1 (wP c 1 A x)).all aH=true∧mcP R C A x=(mS r ((1:Nat):Int) (mkM r 1 (wP c 1 A x)),0):=by
 unfold mcP H4 at h ⊢
 by_cases h0:aN x.length 1 x=0
 ·rw[an h0] at h ⊢
  obtain⟨r,c,k,h1,h2,h3,h4,h5,h6,h7,h8⟩:=N7 h
  obtain rfl:k=1:=by
   have:(1:Int)=(k:Int):=h4
   omega
  have h3:(x.length:Int)=(c:Int):=h3
  exact⟨r,c,h1,h2,h5,by omega,h6.good,h7,h8⟩
 ·rw[az h0] at h
  obtain⟨r,c,k,h1,h2,h3,h4,h5,h6,h7,h8⟩:=N7 h
  have h3:(0:Int)=(c:Int):=h3
  exact absurd (by omega) hC
theorem vt {acc:List Pv}{j:Nat}(hj:j<acc.length):(acc.map (·.col))[j]! =lm acc j:=by
 unfold lm
 rw[bK (acc.map (·.col)) j (by rw[bc];exact hj),bK acc j hj,DL]
section
section
variable {c k:Nat} {U:List Nu} {acc:List Pv}
theorem yu {l:List Nu}{i t:Nat}{x:Nu}(hi:i<l.length):(l.set i x)[t]! =if i=t then x else l[t]! :=by
 by_cases e:i=t
 ·subst e
  rw[an rfl,bK _ i (by rw[A9];exact hi),List.getElem_set_self]
 ·rw[az e,m4,m4,MY e]
theorem NZ(bh:∀j,j<acc.length→lm acc j<c)(hinj:∀i j,i<acc.length→j<acc.length→lm acc i=lm acc j→i=j):∀{n j:Nat},n≤acc.length→j<n→lm acc j<k→(jm c U acc k n)[lm acc j]! =He U[j*c+k]!
 |0,j,_,hj,_=>by omega
 |n+1,j,hn,hj,hk=>by
  unfold jm
  by_cases e:j=n
  ·subst e
   rw[an hk,yu (by rw[lY];exact bh _ (by omega)),an rfl]
  ·have ih:=NZ bh hinj (n:=n) (j:=j) (by omega) (by omega) hk
   split
   ·rw[yu (by rw[lY];exact bh _ (by omega)),az (fun h=>e (hinj _ _ (by omega) (by omega) h.symm))]
    exact ih
   ·exact ih
theorem Hc(bh:∀j,j<acc.length→lm acc j<c){t:Nat}:∀{n:Nat},n≤acc.length→(∀j,j<n→lm acc j=t→¬t<k)→(jm c U acc k n)[t]! =((List.replicate c (nOf 0)).set k (nOf 1))[t]!
 |0,_,_=>by unfold jm;rfl
 |n+1,hn,h=>by
  unfold jm
  have ih:=Hc (t:=t) bh (n:=n) (by omega) fun j hj=>h j (by omega)
  split
  ·rename_i hk
   rw[yu (by rw[lY];exact bh _ (by omega)),az (fun e=>h n (by omega) e (by omega))]
   exact ih
  ·exact ih
theorem KI {t:Nat}(hk:k<c)(ht:t<c):((List.replicate c (nOf 0)).set k (nOf 1))[t]! =if k=t then nOf 1 else nOf 0:=by
 rw[yu (by rw[ny];exact hk)]
 split
 ·rfl
 ·rw[bK _ t (by rw[ny];exact ht),MK]
theorem cols_lt {r:Nat}(h:IsR (toR c U) r c (acc.map (·.col))){j:Nat}(hj:j<acc.length):lm acc j<c:=by
 have:=h.lt j (by rw[bc];exact hj)
 rwa[vt hj] at this
theorem TU {r:Nat}(h:IsR (toR c U) r c (acc.map (·.col))){i j:Nat}(hi:i<acc.length)(hj:j<acc.length)(he:lm acc i=lm acc j):i=j:=
 h.inj (by rw[bc];exact hi) (by rw[bc];exact hj) (by rw[vt hi,vt hj];exact he)
theorem JI {r:Nat}(h:IsR (toR c U) r c (acc.map (·.col)))(hg:U.all aH=true)(hU:U.length=r*c)(hk:k<c)(hn:k∉acc.map (·.col)){t:Nat}(ht:t<c):
  aH (jm c U acc k acc.length)[t]! =true∧rv (jm c U acc k acc.length)[t]! =pU (toR c U) (acc.map (·.col)) k t:=by
 have bh:=fun j (hj:j<acc.length)=>cols_lt h hj
 have hle:=h.le
 rw[bc] at hle
 by_cases hp:∃j,j<acc.length∧lm acc j=t
 ·obtain⟨j,hj,rfl⟩:=hp
  have lr:lm acc j≠k:=fun e=>hn (by
   rw[←e,←vt hj];exact Ov (by rw[bc];exact hj))
  by_cases Mh:lm acc j<k
  ·rw[NZ bh (fun i j hi hj=>TU h hi hj) (aC _) hj Mh]
   have hv:=vi h hn (j:=j) (by rw[bc];exact hj)
   rw[vt hj] at hv
   rw[hv,zF,N5]
   refine⟨ry hg ?_,rfl⟩
   rw[hU]
   have:j*c+k<j*c+c:=by omega
   have:(j+1)*c≤r*c:=bY c (by omega)
   rw[oa] at this
   omega
  ·rw[Hc bh (aC _) (fun i hi he=>Mh),KI hk ht,az (fun e=>lr e.symm),LK h hn (by omega)]
   exact of0
 ·rw[Hc bh (aC _) (fun i hi he=>absurd ⟨i,hi,he⟩ hp),KI hk ht]
  by_cases e:k=t
  ·subst e
   rw[an rfl,wN]
   exact of1
  ·rw[az e,rr (fun h=>e h.symm) (fun hm=>by
    obtain⟨j,hj,he⟩:=ya hm
    rw[bc] at hj
    rw[vt hj] at he
    exact hp ⟨j,hj,he⟩)]
   exact of0
end
end
section
open Go.ChangeShapes Go.WideShapes Go.ChangeAt Go.RowKit Go.Deep
section
variable {H:Type} {enc:TypeId×Value→H} {P:Program}
theorem EO {f:Func}{s:ChangeSpec}{apart fresh handsOn again:Bool}{W W':World}{args:Array Value}{v:Value}{ds gs:List (DataW H)}{before pa pv:List MemPlace}
  (hW:DataW.Whole enc P f.params.toList s.vars apart W args.toList ds gs before)
  (l4:∀(b:Nat) (sp:Nat→Bool) (hd:Bool),DataW.TrodAll enc P W' b sp hd f.resultTypes.toList (v.resultList f.resultTypes.size) (s.fn H (ds++gs)).results [])
  (rx:∀sp:Nat→Bool,(∀p∈before,sp p.block=true)→DataW.TrodAll enc P W' 0 sp true f.params.toList args.toList (s.fn H (ds++gs)).args pa)
  (Oh:∀sp:Nat→Bool,(∀p∈before,sp p.block=true)→DataW.TrodVars enc P W' sp s.vars (s.fn H (ds++gs)).vars pv)
  (SO:before=pa++pv) (hb:Below W.heap.size W W')
  (hok:∀(j:Nat) (t:TypeId) (r:Value),f.resultTypes[j]? =some t→(v.resultList f.resultTypes.size)[j]? =some r→Value.okWide P W' .any 0 t r):
  s.post enc P f apart fresh handsOn again W args v W':=by
 have bh:∀p∈before,p.block<W.heap.size:=fun p hp=>hW.lt p hp
 have hold:∀p∈before,(fun b=>decide (b<W.heap.size)) p.block=true:=fun p hp=>by simpa using bh p hp
 refine⟨ds,gs,before,[],pa,pv,hW,l4 _ _ _,rx _ hold,Oh _ hold,World.keptBut_mono (fun p hp=>⟨hp,?_⟩) (hb.frame (·∈before)),fun _=>?_⟩
 ·rw[SO,jK] at hp
  exact Or.inr hp
 ·obtain⟨_,_,_,_,_,hz,hn⟩:=hW
  refine⟨hok,_,_,([]++pa)++pv,⟨[]++pa,pv,trodAll_append (rx _ (fun _ _=>rfl)) (l4 _ _ _),Oh _ (fun _ _=>rfl),rfl,?_,?_⟩,?_⟩
  ·intro b off hp
   have HH:MemPlace.cell b off∈before:=by rw[SO];simpa using hp
   rw[hb.frozen (bh _ HH)]
   exact hz b off HH
  ·intro ha
   have:=hn ha
   rw[SO] at this
   simpa using this
  ·intro p hp _
   rw[SO]
   simpa using hp
theorem EL(hl:laidOutB P=true){W W':World}(hb:Below W.heap.size W W'){sp:Nat→Bool}:∀(ts:List TypeId) (vs:List Value) (ds:List (DataW H)) (p:List MemPlace),
  (ts.all fun t=>P.readableRec t&&decide (t<P.types.size))=true→DataW.TrodAll enc P W 0 (fun _=>true) true ts vs ds p→(∀x∈p,x.block<W.heap.size)→(∀x∈p,sp x.block=true)→
  DataW.TrodAll enc P W' 0 sp true ts vs ds p:=by
 intro ts
 induction ts with
 |nil=>
  intro vs ds p _ h _ _
  cases vs with
  |nil=>cases ds with
   |nil=>exact h
   |cons d ds=>exact h.elim
  |cons v vs=>exact h.elim
 |cons t ts ih=>
  intro vs ds p hr h bh hs
  cases vs with
  |nil=>exact h.elim
  |cons v vs=>
   cases ds with
   |nil=>exact h.elim
   |cons d ds=>
    obtain⟨p1,q,h1,h2,rfl⟩:=h
    simp only[jL,c8,mu] at hr
    refine⟨p1,q,WideElems.Trod_stays hl hr.1.1 hr.1.2 h1 (fun x hx=>hb.same (bh x (by simp[hx]))) (fun x hx=>hs x (by simp[hx])),ih vs ds q hr.2 h2 (fun x hx=>bh x (by simp[hx])) (fun x hx=>hs x (by simp[hx])),rfl⟩
theorem Ss {f:Func}{s:ChangeSpec}{W W':World}{args:Array Value}{ds gs:List (DataW H)}{before:List MemPlace}{tb:TypeId}
  (hl:laidOutB P=true) (hv:s.vars=[]) (Bt:(f.params.toList.all fun t=>P.readableRec t&&decide (t<P.types.size))=true)
  (l4:f.resultTypes=#[tb]) (htb:P.underlying tb=some .bool)
  (hW:DataW.Whole enc P f.params.toList s.vars false W args.toList ds gs before)
  (S6:s.fn H (ds++gs)={results:=[.lit (.bool true)],args:=ds}) (hb:Below W.heap.size W W'):
  s.post enc P f false true false false W args (.bool true) W':=by
 have hW':=hW
 obtain⟨p,q,hA,hV,hpq,_,_⟩:=hW
 rw[hv] at hV
 have hq:q=[]:=by
  cases gs with
  |nil=>exact hV
  |cons g gs=>exact hV.elim
 subst hq
 rw[pY] at hpq
 subst hpq
 refine EO (pa:=before) (pv:=[]) hW' (fun b sp hd=>?_) (fun sp hsp=>?_) (fun sp _=>?_) (by simp) hb ?_
 ·rw[l4,S6]
  exact trodAll_cons_mk (shut_bool htb _) trodAll_mk0
 ·rw[S6]
  exact EL hl hb _ _ _ _ Bt hA (fun x hx=>hW'.lt x hx) hsp
 ·rw[hv,S6];rfl
 ·exact ok_one l4 rfl (okWide_bool_mk htb _)
end
theorem hv_of {P:Program}{W:World}{params:Array TypeId}{args:Array Value}(h:∀(j:Nat) t v,params[j]? =some t→args[j]? =some v→Value.okWide P W .any 0 t v∨∃base,Value.okWide P W .any base t v)(j:Nat){t:TypeId}{v:Value}
  (h1:params[j]? =some t) (h2:args[j]? =some v):∃base,Value.okWide P W .any base t v:=by
 rcases h j t v h1 h2 with h|h
 ·exact⟨0,h⟩
 ·exact h
end
section
open Go.ChangeShapes Go.WideShapes Go.ChangeAt Go.RowKit Go.Deep
def wtFs(tb:TypeId→Option TyE)(f:TypeId→List E→Prop):List (Nat×TypeId)→List E→Prop
 |[],xs=>xs=[]
 |(_,t)::fs,xs=>∃j,tb t=some j∧j.size≤xs.length∧f t (xs.take j.size)∧wtFs tb f fs (xs.drop j.size)
def wtE(tb:TypeId→Option TyE):Nat→TypeId→List E→Prop
 |0,_,_=>False
 |k+1,t,xs=>∃i,tb t=some i∧xs.length=i.size∧match i.ty with
  | .int kd=>∃n,xs=[.lit (.int kd n)]∧(Lit.int kd n).wf=true
  | .bool=>∃b,xs=[.lit (.bool b)]
  | .str=>∃s:ByteArray,xs=[.lit (.string s)]∧s.size≤maxLen
  | .slice e=>∃j n ys,tb e=some j∧xs=[.sl j.size n ys]∧ys.length=n*j.size∧n≤maxLen∧∀i,i<n→wtE tb k e ((ys.drop (i*j.size)).take j.size)
  | .struct fs=>wtFs tb (wtE tb k) fs xs
  | .arr n e=>∃j,tb e=some j∧xs.length=n*j.size∧∀i,i<n→wtE tb k e ((xs.drop (i*j.size)).take j.size)
  |_=>False
def Ch(tb:TypeId→Option TyE)(f:TypeId→Bool):List (Nat×TypeId)→Nat→Nat→Bool
 |[],off,n=>off == n
 |(o,t)::fs,off,n=>o == off&&f t&&match tb t with
  |some j=>Ch tb f fs (off+j.size) n
  |none=>false
def G8(tb:TypeId→Option TyE):Nat→TypeId→Bool
 |0,_=>false
 |k+1,t=>match tb t with
  |some i=>match i.ty with
   | .int _| .bool| .str=>i.size == 1
   | .slice e=>i.size == 1&&G8 tb k e&&match tb e with
    |some j=>decide (0<j.size)
    |none=>false
   | .struct fs=>Ch tb (G8 tb k) fs 0 i.size
   | .arr n e=>G8 tb k e&&match tb e with
    |some j=>i.size == n*j.size
    |none=>false
   |_=>false
  |none=>false
section
variable {H:Type} {enc:TypeId×Value→H} {P:Program} {tb:TypeId→Option TyE} {W:World} {sp:Nat→Bool} {hd:Bool} {base:Nat}
theorem TOk.cells(tok:TOk P tb){t:TypeId}{i:TyE}(h:tb t=some i):P.cellsOf t=i.size:=by
 obtain⟨f,z,h1,h2,_⟩:=tok.inf h
 unfold Program.cellsOf
 rw[h1]
 exact h2
def F0:Addr→Prop:=fun _=>False
theorem Ag {z:Nat}{us:List Value}{Good:List E→Prop}:∀(n:Nat),us.length=n*z→(∀i,i<n→∃xs,Pw (cG W F0) xs ((us.drop (i*z)).take z)∧Good xs)→
  ∃ys,Pw (cG W F0) ys us∧ys.length=n*z∧∀i,i<n→Good ((ys.drop (i*z)).take z)
 |0,hl,_=>⟨[],by rw[jJ] at hl;rw[jR hl];exact Pw.nil,by simp,fun i h=>absurd h (uU _)⟩
 |n+1,hl,h=>by
  rw[oa] at hl
  have bh:(us.take (n*z)).length=n*z:=by rw[cz];omega
  obtain⟨ys,h1,h2,h3⟩:=Ag (us:=us.take (n*z)) n bh fun i hi=>by
   obtain⟨xs,g1,g2⟩:=h i (by omega)
   have hm:i*z+z≤n*z:=by rw[←oa];exact bY _ hi
   refine⟨xs,?_,g2⟩
   rw[DJ,Am,qV (by omega)]
   exact g1
  obtain⟨xs,g1,g2⟩:=h n (by omega)
  have hx:xs.length=z:=by rw[g1.1,cz,fZ];omega
  refine⟨ys++xs,?_,by rw[cN,h2,hx,oa],fun i hi=>?_⟩
  ·have e:us=us.take (n*z)++(us.drop (n*z)).take z:=by
    rw[e9 (l:=us.drop (n*z)) (by rw[fZ];omega),n9]
   rw[e]
   exact h1.append g1
  ·rcases bO i n with HH|HH
   ·have hm:i*z+z≤n*z:=by rw[←oa];exact bY _ HH
    rw[MJ (by omega),sb (by rw[fZ];omega)]
    exact h3 i HH
   ·obtain rfl:i=n:=by omega
    rw[MT,h2,KU,uS (by omega)]
    simp only[pH,mm]
    rw[e9 (by omega)]
    exact g2
theorem vq(tok:TOk P tb):∀(k:Nat) (fuel:Nat) (t:TypeId) (cs:List Value) (x:DataW H×List MemPlace),G8 tb k t=true→DataW.trod enc P W base sp hd fuel t cs=some x→∃xs,Pw (cG W F0) xs cs∧wtE tb k t xs
 |0,_,_,_,_,h,_=>by cases h
 |k+1,fuel,t,cs,x,hok,h=>by
  unfold G8 at hok
  cases ht:tb t with
  |none=>rw[ht] at hok;cases hok
  |some i=>
   rw[ht] at hok
   dsimp only at hok
   cases i8:i.ty with
   |int kd=>
    rw[i8] at hok
    have hz:i.size=1:=by simpa using hok
    obtain⟨n,rfl,_,hw⟩:=DataW.trod_int (tok.int ht i8) h
    exact⟨[.lit (.int kd n)],Pw.cons (.lit _ rfl) Pw.nil,i,ht,by rw[hz];rfl,by rw[i8];exact⟨n,rfl,hw⟩⟩
   |bool=>
    rw[i8] at hok
    have hz:i.size=1:=by simpa using hok
    obtain⟨dd,Q2,HJ⟩:=tok.und ht
    rw[i8] at HJ
    have hb:P.underlying t=some .bool:=by cases dd <;> simp[Ty.of] at HJ;exact Q2
    obtain⟨b,rfl,_⟩:=DataW.trod_bool hb h
    exact⟨[.lit (.bool b)],Pw.cons (.lit _ rfl) Pw.nil,i,ht,by rw[hz];rfl,by rw[i8];exact⟨b,rfl⟩⟩
   |str=>
    rw[i8] at hok
    have hz:i.size=1:=by simpa using hok
    obtain⟨s,rfl,_,hs⟩:=DataW.trod_string (tok.str ht i8) h
    exact⟨[.lit (.string s)],Pw.cons (.lit _ rfl) Pw.nil,i,ht,by rw[hz];rfl,by rw[i8];exact⟨s,rfl,hs⟩⟩
   |slice e=>
    rw[i8] at hok
    dsimp only at hok
    cases he:tb e with
    |none=>rw[he] at hok;simp at hok
    |some j=>
     rw[he] at hok
     simp only[c8,beq_iff_eq,mu] at hok
     obtain⟨⟨hz,hoe⟩,HF⟩:=hok
     have hce:=tok.cells he
     rcases open_slice (tok.slice ht i8) h with⟨rfl,_⟩|⟨a,len,cap,m,n,D,Pl,rfl,hb,hlc,nR,hm,_,hi⟩
     ·exact⟨[.sl j.size 0 []],Pw.cons (.sl _ 0 [] none 0 (fun _=>undef) (by simp) HF (aC _) (il _) (fun h=>absurd h (u3 _)) (fun _ h=>by cases h) (fun _ _ h=>by simp at h)) Pw.nil,
       i,ht,by rw[hz];rfl,by rw[i8];exact⟨j,0,[],he,rfl,by simp,il _,fun i h=>absurd h (uU _)⟩⟩
     ·have hle:len≤m:=by rw[hm];split <;> omega
      rw[hce] at hi
      let us:List Value:=(List.range (len*j.size)).map fun q=>(W.cell? (a.add q)).getD undef
      have Le:us.length=len*j.size:=by simp[us]
      have hu:∀q,q<len*j.size→us[q]? =some ((W.cell? (a.add q)).getD undef):=fun q hq=>by simp[us,hq]
      have Tc:∀i,i<len→∃uj,W.cells? base (a.add (i*j.size)) j.size=some uj∧uj=(us.drop (i*j.size)).take j.size:=by
       intro i Ol
       obtain⟨uj,hc,_⟩:=hi i (by omega)
       obtain⟨_,wV,FP⟩:=World.cells?_some hc
       refine⟨uj,hc,DP fun q=>?_⟩
       have hm2:i*j.size+j.size≤len*j.size:=by rw[←oa];exact bY _ Ol
       rw[fY,nt]
       split
       ·rename_i hq
        have h1:=FP q hq
        rw[o0] at h1
        rw[hu _ (by omega),h1]
        rw[eG (by omega)];rfl
       ·rename_i hq
        rw[gP (by omega)]
      obtain⟨ys,QV,AS,hy3⟩:=Ag (W:=W) (us:=us) (z:=j.size) (Good:=wtE tb k e) len Le fun i Ol=>by
       obtain⟨uj,hc,hcs'⟩:=Tc i Ol
       obtain⟨cs2,ui,htr⟩:=hi i (by omega)
       rw[hc] at ui
       injection ui with ui
       subst ui
       rw[←hcs']
       exact vq tok k _ e uj _ hoe htr
      have A0:∀q v,us[q]? =some v→W.cell? (a.add q)=some v:=by
       intro q v hv
       have hq:q<len*j.size:=by
        rcases bO q us.length with h|h
        ·omega
        ·rw[gP h] at hv;cases hv
       -- the cell lies in a chunk
       have hqd:q / j.size<len:=DM (by rw[bj];exact hq)
       obtain⟨uj,hc,hcs'⟩:=Tc (q / j.size) hqd
       obtain⟨_,wV,FP⟩:=World.cells?_some hc
       have h1:=FP (q % j.size) (dM _ HF)
       rw[o0,bj,kV] at h1
       rw[hu q hq] at hv
       injection hv with hv
       rw[h1] at hv
       rw[h1,eG (by have:=dM q HF;omega)] at*
       simp only[wv] at hv
       rw[hv]
      refine⟨[.sl j.size len ys],Pw.cons (.sl _ len ys (some a) cap (fun q=>us.getD q undef) AS HF hlc nR (fun Oj=>⟨a,rfl,?_⟩) (fun ad Mr q y hq=>?_) (fun q y hq=>?_)) Pw.nil,i,ht,by rw[hz];rfl,by rw[i8];exact⟨j,len,ys,he,rfl,AS,cg hlc nR,hy3⟩⟩
      ·have h0:0<len*j.size:=sW Oj HF
       have:=World.block_lt_of_cell? W _ (A0 0 _ (hu 0 h0))
       rwa[iX] at this
      ·injection Mr with Mr
       subst Mr
       obtain⟨v,hv,_⟩:=QV.get hq
       refine⟨?_,fun hf=>hf⟩
       rw[A0 q v hv,List.getD,hv];rfl
      ·obtain⟨v,hv,hr⟩:=QV.get hq
       rw[List.getD,hv]
       exact hr
   |other=>rw[i8] at hok;cases hok
   |struct fs=>
    rw[i8] at hok
    dsimp only at hok
    obtain⟨fields,hf,FN⟩:=tok.struct ht i8
    obtain⟨xs,n,_,_,wV,zV,jp⟩:=DataW.trod_struct hf h
    rw[tok.cells ht] at wV
    have key:∀(l:List Field) (off:Nat),(∀f∈l,∃x,DataW.trod enc P W base sp hd n f.type ((cs.drop f.offset).take (P.cellsOf f.type))=some x)→off≤cs.length→Ch tb (G8 tb k) (l.map fun f=>(f.offset,f.type)) off i.size=true→
      ∃ys,Pw (cG W F0) ys (cs.drop off)∧wtFs tb (wtE tb k) (l.map fun f=>(f.offset,f.type)) ys:=by
     intro l
     induction l with
     |nil=>
      intro off _ ho wn
      have:off=i.size:=by simpa[Ch] using wn
      exact⟨[],by rw[uS (by omega)];exact Pw.nil,rfl⟩
     |cons f l ih=>
      intro off hl ho wn
      simp only[gZ,Ch,c8,beq_iff_eq] at wn
      obtain⟨⟨hof,zZ⟩,wn⟩:=wn
      cases hj:tb f.type with
      |none=>rw[hj] at wn;cases wn
      |some j=>
       rw[hj] at wn
       dsimp only at wn
       obtain⟨x,hx⟩:=hl f (j8 ..)
       rw[tok.cells hj,hof] at hx
       obtain⟨zs,L1,hz2⟩:=vq tok k _ f.type _ _ zZ hx
       have hzl:zs.length=j.size:=by
        cases k with
        |zero=>cases hz2
        |succ k=>
         obtain⟨j',Lf,Mi,_⟩:=hz2
         rw[hj] at Lf
         injection Lf with Lf
         subst Lf
         exact Mi
       have hlen:off+j.size≤cs.length:=by
        have:=L1.1
        rw[hzl,cz,fZ] at this
        omega
       obtain⟨ys,QV,AS⟩:=ih (off+j.size) (fun g hg=>hl g (io _ hg)) hlen wn
       refine⟨zs++ys,?_,j,hj,by rw[cN];omega,?_,?_⟩
       ·have e:cs.drop off=(cs.drop off).take j.size++cs.drop (off+j.size):=by
         rw[←j7,n9]
        rw[e]
        exact L1.append QV
       ·rw[sb (by omega),e9 (by omega)]
        exact hz2
       ·rw[MJ (by omega),uS (by omega)]
        exact AS
    obtain⟨ys,QV,AS⟩:=key fields.toList 0 (fun f hfm=>by
     obtain⟨q,hq⟩:=sT hfm
     have hq':fields[q]? =some f:=by simpa using hq
     have bh:q<xs.length:=by rw[zV];exact (dW.1 hq').1
     exact⟨xs[q],by rw[jp q f hq',eG bh]⟩) (il _) (by rw[FN];exact hok)
    rw[pH] at QV
    exact⟨ys,QV,i,ht,by rw[QV.1,wV],by rw[i8];rw[FN] at AS;exact AS⟩
   |arr n e=>
    rw[i8] at hok
    dsimp only at hok
    cases he:tb e with
    |none=>rw[he] at hok;simp at hok
    |some j=>
     rw[he] at hok
     simp only[c8,beq_iff_eq] at hok
     obtain⟨hoe,hz⟩:=hok
     obtain⟨xs,m,_,_,wV,zV,jp⟩:=DataW.trod_array (tok.arr ht i8) h
     rw[tok.cells ht] at wV
     rw[tok.cells he] at jp
     obtain⟨ys,QV,AS,hy3⟩:=Ag (W:=W) (us:=cs) (z:=j.size) (Good:=wtE tb k e) n (by rw[wV,hz]) fun q hq=>by
      have hq':=jp q hq
      rw[eG (by omega)] at hq'
      exact vq tok k _ e _ _ hoe hq'
     exact⟨ys,QV,i,ht,by rw[QV.1,wV],by rw[i8];exact⟨j,he,AS,hy3⟩⟩
def argD(g:Bool)(xs:List E):D:=match g with
 |true=>.ag (xs.map D.e)
 |false=>.e (xs.headD .any)
theorem arg_rep(tok:TOk P tb){k:Nat}{t:TypeId}{i:TyE}{v:Value}{d:DataW H}{p:List MemPlace}{r:Reach}{b0:Nat}(hok:G8 tb k t=true)(ht:tb t=some i)(vZ:Value.okWide P W r b0 t v)(h:DataW.Trod enc P W base sp hd t v d p):
  ∃xs,wtE tb k t xs∧kW W F0 (argD i.ty.agg xs) v:=by
 obtain⟨fuel,hf⟩:=h
 obtain⟨xs,hx,hw⟩:=vq tok k fuel t _ _ hok hf
 refine⟨xs,hw,?_⟩
 have one:v.cells=#[v]→kW W F0 (.e (xs.headD .any)) v:=by
  intro hv
  rw[hv] at hx
  cases xs with
  |nil=>have:=hx.1;simp at this
  |cons y ys=>exact aF.e _ _ (hx.2 0 y v rfl rfl)
 have agg:∀cs,v=.agg cs→kW W F0 (.ag (xs.map D.e)) v:=by
  rintro cs rfl
  have hx':Pw (cG W F0) xs cs.toList:=hx
  refine aF.ag _ cs (by simpa using hx'.1.symm) (fun j u hu=>?_) (fun j d u hd hu=>?_)
  ·have te:cs.toList[j]? =some u:=by simpa using hu
   have bh:j<xs.length:=by
    rw[hx'.1]
    exact (lV.1 te).1
   exact (hx'.2 j _ u (eG bh) te).one
  ·rw[bE] at hd
   cases hxj:xs[j]? with
   |none=>simp[hxj] at hd
   |some y=>
    simp only[hxj,nr,nq] at hd
    subst hd
    exact .e _ _ (hx'.2 j y u hxj (by simpa using hu))
 cases i8:i.ty with
 |int kd=>obtain⟨n,rfl⟩:=okWide_int (tok.int ht i8) vZ;exact one rfl
 |bool=>
  obtain⟨dd,Q2,HJ⟩:=tok.und ht
  rw[i8] at HJ
  have hb:P.underlying t=some .bool:=by cases dd <;> simp[Ty.of] at HJ;exact Q2
  obtain⟨b,rfl⟩:=okWide_bool hb vZ
  exact one rfl
 |str=>obtain⟨s,rfl⟩:=okWide_string (tok.str ht i8) vZ;exact one rfl
 |slice e=>obtain⟨a,l,c,rfl⟩:=okWide_slice (tok.slice ht i8) vZ;exact one rfl
 |struct fs=>
  obtain⟨fields,hf,_⟩:=tok.struct ht i8
  obtain⟨cs,rfl,_⟩:=okWide_struct hf vZ
  exact agg cs rfl
 |arr n e=>
  have ha:=tok.arr ht i8
  unfold Value.okWide at vZ
  rw[ha] at vZ
  obtain⟨cs,rfl,_⟩:=vZ
  exact agg cs rfl
 |other=>
  cases k with
  |zero=>cases hok
  |succ k=>unfold G8 at hok;rw[ht] at hok;dsimp only at hok;rw[i8] at hok;cases hok
theorem says_of {f:FuncId}{ds:List D}{args:Array Value}(hc:ar P f ds (.e (.lit (.bool true))))(hsz:args.size=ds.length)(rx:∀(j:Nat) (d:D) (u:Value),ds[j]? =some d→args[j]? =some u→kW W F0 d u):
  Calls P f args W fun e w'=>e=.returned (.bool true)∧Below W.heap.size W w':=by
 refine (hc.2 W F0 args (fun _ h=>h.elim) hsz rx).mono ?_
 rintro e w' ⟨v,rfl,l4,hb⟩
 have hr:kW w' F0 (.e (.lit (.bool true))) v:=l4
 exact⟨by rw[aF.lit hr],hb⟩
theorem tL {α:Type}(cells:α→List E)(z:Nat)(good:α→Prop):∀(n:Nat) (ys:List E),ys.length=n*z→(∀i,i<n→∃a,(ys.drop (i*z)).take z=cells a∧good a)→∃l:List α,l.length=n∧ys=l.flatMap cells∧∀a∈l,good a
 |0,ys,hl,_=>⟨[],rfl,by rw[jJ] at hl;rw[jR hl];rfl,by simp⟩
 |n+1,ys,hl,h=>by
  rw[oa] at hl
  obtain⟨a,ha,hga⟩:=h 0 (Nat.succ_pos n)
  obtain⟨l,h1,h2,h3⟩:=tL cells z good n (ys.drop z) (by rw[fZ];omega) fun i hi=>by
   have:=h (i+1) (by omega)
   rw[j7,show z+i*z=(i+1)*z by rw[oa];omega]
   exact this
  simp only[jJ,pH] at ha
  refine⟨a::l,by simp[h1],?_,fun b hb=>?_⟩
  ·rw[m6,←ha,←h2,n9]
  ·rcases e8.1 hb with rfl|hb
   ·exact hga
   ·exact h3 b hb
end
end
section
def Rd(tb:TypeId→Option TyE)(t:TypeId)(d:Nat){α:Type}(c:Cd α)(W:α→Prop):Prop:=∀k xs,wtE tb (k+d) t xs→∃a,xs=c.f a∧W a
theorem Rd.up {tb:TypeId→Option TyE}{t:TypeId}{d:Nat}{α:Type}{c:Cd α}{W:α→Prop}(h:Rd tb t d c W)(m:Nat):Rd tb t (d+m) c W:=fun k xs h'=>h (k+m) xs (by rw[kU,lU m d];exact h')
def Wi(k:IntKind)(n:Int):Prop:=k.min≤n∧n≤k.max
section
variable {tb:TypeId→Option TyE} {t e:TypeId} {i j:TyE} {d:Nat} {α:Type} {c:Cd α} {W:α→Prop}
theorem rd_I {k:IntKind}(ht:tb t=some i)(hi:i.ty=.int k):Rd tb t 1 (cI k) (Wi k):=by
 intro n xs h
 obtain⟨i',h1,_,h⟩:=h
 rw[ht] at h1;cases h1
 rw[hi] at h
 obtain⟨m,h1,h2⟩:=h
 exact⟨m,h1,by unfold Wi;simpa[Lit.wf] using h2⟩
theorem rd_B(ht:tb t=some i)(hi:i.ty=.bool):Rd tb t 1 cB (fun _=>True):=by
 intro n xs h
 obtain⟨i',h1,_,h⟩:=h
 rw[ht] at h1;cases h1
 rw[hi] at h
 obtain⟨m,h1⟩:=h
 exact⟨m,h1,trivial⟩
theorem rd_L(ht:tb t=some i)(he:tb e=some j)(hc:Rd tb e d c W)(hi:i.ty=.slice e:=by exact rfl)(hz:c.sz=j.size:=by exact rfl):Rd tb t (d+1) (cL c) (fun l=>l.length≤maxLen∧∀a∈l,W a):=by
 intro n xs h
 obtain⟨i',h1,_,h⟩:=h
 rw[ht] at h1;cases h1
 rw[hi] at h
 obtain⟨j',m,ys,h1,h2,h3,h4,h5⟩:=h
 rw[he] at h1;cases h1
 obtain⟨l,h6,h7,h8⟩:=tL c.f j.size W m ys h3 fun i hi=>hc n _ (h5 i hi)
 refine⟨l,?_,by omega,h8⟩
 rw[h2,h7,←h6,←hz];rfl
theorem lz {xs:List E}{n:Nat}{ys zs:List E}(h1:xs.take n=ys)(h2:xs.drop n=zs):xs=ys++zs:=by
 rw[←h1,←h2,n9]
theorem Uk {P:Program}{H:Type}{enc:TypeId×Value→H}{Wd:World}{sp:Nat→Bool}{hd:Bool}{base k:Nat}{v:Value}{dw:DataW H}{p:List MemPlace}{r:Reach}{b0:Nat}(tok:TOk P tb)(hok:G8 tb (k+d) t=true)(ht:tb t=some i)(hc:Rd tb t d c W)(vZ:Value.okWide P Wd r b0 t v)(h:DataW.Trod enc P Wd base sp hd t v dw p):
  ∃a,kW Wd F0 (argD i.ty.agg (c.f a)) v∧W a:=by
 obtain⟨xs,h1,h2⟩:=arg_rep tok hok ht vZ h
 obtain⟨a,rfl,h3⟩:=hc k xs h1
 exact⟨a,h2,h3⟩
end
end
theorem rd_A {tb:TypeId→Option TyE}{t e:TypeId}{i j:TyE}{d n:Nat}{α:Type}{c:Cd α}{W:α→Prop}(ht:tb t=some i)(he:tb e=some j)(hc:Rd tb e d c W)(hi:i.ty=.arr n e:=by exact rfl)(hz:c.sz=j.size:=by exact rfl):Rd tb t (d+1) (cA n c) (fun v=>∀a∈v.toList,W a):=by
 intro m xs h
 obtain⟨i',h1,_,h⟩:=h
 rw[ht] at h1;cases h1
 rw[hi] at h
 obtain⟨j',h1,h3,h5⟩:=h
 rw[he] at h1;cases h1
 obtain⟨l,h6,h7,h8⟩:=tL c.f j.size W n xs h3 fun i hi=>hc m _ (h5 i hi)
 exact⟨⟨l.toArray,by simpa using h6⟩,h7,h8⟩
def QR(x:ak):Prop:=(True∧True∧∀a∈x.vN.vW.toList,Wi .u32 a)∧(True∧True∧∀a∈x.vD.vW.toList,Wi .u32 a)
theorem RW {x:ap}(h:∀a∈x.vW.toList,Wi .u32 a):okI x:=fun j hj=>by
 have h2:=h x.vW[j]! (by rw[bK x.vW j hj];simp)
 exact⟨h2.1,by have:x.vW[j]!≤4294967295:=h2.2;omega⟩
theorem okR_of {x:ak}(h:QR x):okR x:=⟨RW h.1.2.2,RW h.2.2.2⟩
def QL(l:List ak):Prop:=l.length≤maxLen∧∀x∈l,QR x
theorem QL.nu {l:List ak}(h:QL l):l=(l.map uG).map nv∧(l.map uG).length≤9223372036854775807:=by
 refine⟨(JU fun x hx=>okR_of (h.2 x hx)).symm,?_⟩
 rw[bc]
 exact cg h.1 (by decide)
theorem N6 {r c:Nat}{A x:List Nu}(hf:(mkM r 1 (wP c 1 A x)).all aH=true){i:Nat}(hi:i<r):rv (wP c 1 A x i 0)=ff c fun j=>rv A[i*c+j]! *rv x[j]! :=by
 rw[mulF_rv (qb.1 hf i 0 hi (by omega))]
 exact dy fun t _=>by rw[si,i9]
def nF(acc:List Pv):Nat→Nat
 |0=>0
 |k+1=>if nF acc k<acc.length∧lm acc (nF acc k)=k then nF acc k+1 else nF acc k
theorem nF_le {acc:List Pv}:∀k,nF acc k≤acc.length
 |0=>il _
 |k+1=>by
  unfold nF
  have:=nF_le (acc:=acc) k
  split <;> omega
theorem Hf {acc:List Pv}(hs:(acc.map Pv.col).Pairwise (·<·)):∀k i,i<acc.length→(lm acc i<k↔i<nF acc k)
 |0,i,hi=>by unfold nF;omega
 |k+1,i,hi=>by
  have ih:=Hf hs k
  unfold nF
  by_cases h:nF acc k<acc.length∧lm acc (nF acc k)=k
  ·rw[an h]
   have h1:=ih i hi
   rcases xm i (nF acc k) with h2|h2|h2
   ·have:=h1.2 h2;omega
   ·rw[h2];omega
   ·have:=H3 hs h2 hi
    omega
  ·rw[az h]
   have h1:=ih i hi
   constructor
   ·intro h2
    rcases bO (lm acc i) k with h3|h3
    ·exact h1.1 h3
    ·exfalso
     have h4:¬i<nF acc k:=fun h5=>by have:=h1.2 h5;omega
     rcases bO (nF acc k) i with h5|h5
     ·have h6:=H3 hs h5 hi
      have h7:=(ih (nF acc k) (by omega))
      have h8:¬lm acc (nF acc k)<k:=fun h9=>by have:=h7.1 h9;omega
      omega
     ·have:nF acc k=i:=by omega
      exact h ⟨by omega,by rw[this];omega⟩
   ·intro h2
    have:=h1.2 h2;omega
theorem nF_any {acc:List Pv}(hs:(acc.map Pv.col).Pairwise (·<·))(k:Nat):((d5 acc).any fun x=>decide ((k:Int)=x))=decide (nF acc k<acc.length∧lm acc (nF acc k)=k):=by
 rw[uT,any_col,mu]
 constructor
 ·rintro⟨i,hi,h⟩
  have h1:=Hf hs k i hi
  have h2:¬i<nF acc k:=fun h5=>by have:=h1.2 h5;omega
  rcases bO (nF acc k) i with h5|h5
  ·have h6:=H3 hs h5 hi
   have h7:=(Hf hs k (nF acc k) (by omega))
   have:nF acc k<nF acc k:=h7.1 (by omega)
   omega
  ·have:nF acc k=i:=by omega
   rw[this];exact⟨hi,h⟩
 ·rintro⟨h1,h2⟩
  exact⟨_,h1,h2⟩
section
section
variable {c k:Nat} {U:List Nu} {acc:List Pv}
theorem FA(hs:(acc.map Pv.col).Pairwise (·<·)):∀k,(fV k acc).length+nF acc k=k
 |0=>rfl
 |k+1=>by
  have ih:=FA hs k
  rw[oM,nF_any hs k,cN,show nF acc (k+1)=if nF acc k<acc.length∧lm acc (nF acc k)=k then nF acc k+1 else nF acc k from rfl]
  by_cases h:nF acc k<acc.length∧lm acc (nF acc k)=k
  ·rw[ck h,an rfl,an h,Ij];omega
  ·rw[gQ h,az (by decide),az h,Ur];omega
theorem nF_all(hs:(acc.map Pv.col).Pairwise (·<·))(hc:∀p∈acc,p.col<c):nF acc c=acc.length:=by
 have h1:=nF_le (acc:=acc) c
 refine MN fun hn=>?_
 have hi:nF acc c<acc.length:=by omega
 have h2:=(Hf hs c (nF acc c) hi).1 (by
  unfold lm
  rw[bK acc _ hi]
  exact hc _ (uc hi))
 omega
theorem Fz:∀n k,∃t,fV (k+n) acc=fV k acc++t
 |0,k=>⟨[],by rw[pY];rfl⟩
 |n+1,k=>by
  obtain⟨t,h⟩:=Fz n k
  rw[←kU,oM,h,bP]
  exact⟨_,rfl⟩
def lkP(v:Int)(K:List Int):Bool:=decide (v∈K)
theorem Hl(v:Nat):lkP (v:Int) (d5 acc)=decide (v∈acc.map (·.col)):=by
 unfold lkP d5
 rw[p6]
 simp only[nz]
 constructor
 ·rintro⟨p,h1,h2⟩
  exact⟨p,h1,by omega⟩
 ·rintro⟨p,h1,h2⟩
  exact⟨p,h1,by omega⟩
theorem yF(v:Nat):((d5 acc).any fun x=>decide ((v:Int)=x))=decide (v∈acc.map (·.col)):=by
 rw[←Hl]
 unfold lkP
 rw[uT,OZ,mu]
 constructor
 ·rintro⟨x,h1,h2⟩
  rw[oc h2];exact h1
 ·exact fun h=>⟨_,h,ck rfl⟩
theorem R2(hk:k<c)(hn:k∉acc.map (·.col)):(fV k acc).length<(fV c acc).length∧(fV c acc)[(fV k acc).length]! =k:=by
 obtain⟨t,h⟩:=Fz (acc:=acc) (c - (k+1)) (k+1)
 rw[show k+1+(c - (k+1))=c by omega,oM,yF,gQ hn,az (by decide)] at h
 rw[h]
 refine⟨by simp,?_⟩
 rw[bP,m4,rH (aC _),KU]
 rfl
theorem P1:k∈fV c acc→k<c∧k∉acc.map (·.col):=by
 intro h
 unfold fV at h
 rw[List.mem_filter,yF] at h
 exact⟨A6.1 h.1,fun hm=>by rw[ck hm] at h;exact absurd h.2 (by decide)⟩
def Df(U:List Nu)(c:Nat)(acc:List Pv)(x:Nat→Rat)(k t:Nat):Rat:=ff k fun j=>if j∈acc.map (·.col) then 0 else x j*pU (toR c U) (acc.map (·.col)) j t
theorem Qw {x:Nat→Rat}{t:Nat}(h:k∈acc.map (·.col)):Df U c acc x (k+1) t=Df U c acc x k t:=by
 show ff k _+(if k∈acc.map (·.col) then 0 else _)=_
 rw[an h]
 show Df U c acc x k t+0=_
 grind
theorem Mt {x:Nat→Rat}{t:Nat}(h:k∉acc.map (·.col)):Df U c acc x (k+1) t=Df U c acc x k t+x k*pU (toR c U) (acc.map (·.col)) k t:=by
 show ff k _+(if k∈acc.map (·.col) then 0 else _)=_
 rw[az h]
 rfl
end
section
variable {R C R' C':Int} {A B:List Nu} {x:Nu}
theorem Sf {r c:Nat}{V:List Nu}(h:V.length≤1000000):∃R' C' B,(i6 r c V).1=mS R' C' B∧B.length≤1000000:=by
 unfold i6
 split
 ·exact⟨_,_,V,rfl,h⟩
 ·exact⟨0,0,[],rfl,by simp⟩
theorem Sg {r c:Nat}{V:List Nu}(h:(i6 r c V).2=0):V.all aH=true∧i6 r c V=(mS r c V,0):=by
 unfold i6 at h ⊢
 split at h
 ·rename_i hg
  exact⟨hg,an hg⟩
 ·cases h
theorem scale_S:∃R' C' B,(tr R C A x).1=mS R' C' B∧B.length≤1000000:=by
 unfold tr
 split
 ·rename_i h
  obtain⟨r,c,rfl,rfl,hm⟩:=d6.1 h.1
  have:=hm.r
  have:=hm.c
  exact Sf (CG (by rw[aD];omega) (by rw[aD];omega))
 ·exact⟨0,0,[],rfl,by simp⟩
theorem scale_0 {c:Nat}(h:(tr 1 c A x).2=0):MV 1 c A∧aH x=true∧(mkM 1 c (wI c A x)).all aH=true∧tr 1 c A x=(mS 1 c (mkM 1 c (wI c A x)),0):=by
 unfold tr at h ⊢
 split at h
 ·rename_i h0
  rw[an h0]
  obtain⟨r,c',h1,h2,hm⟩:=d6.1 h0.1
  obtain rfl:r=1:=by omega
  obtain rfl:c=c':=by omega
  obtain⟨g,e⟩:=Sg h
  exact⟨hm,h0.2,g,e⟩
 ·cases h
theorem add_0 {c:Nat}(h:(KZ 1 c A 1 c B).2=0):(mkM 1 c (QK c A B)).all aH=true∧KZ 1 c A 1 c B=(mS 1 c (mkM 1 c (QK c A B)),0):=by
 unfold KZ at h ⊢
 split at h
 ·rename_i h0
  rw[an h0]
  exact Sg h
 ·cases h
theorem NQ {c t:Nat}{f:Nat→Nat→Nu}(ht:t<c):(mkM 1 c f)[t]! =f 0 t:=by
 have:=mkM_get (f:=f) (show 0<1 by omega) ht
 rwa[jJ,cj] at this
end
end
section
section
variable {r c:Nat} {U V x y:List Nu} {acc:List Pv}
theorem Dd {α β:Type}[Inhabited α][Inhabited β]{l:List α}{f:α→β}{i:Nat}(h:i<l.length):(l.map f)[i]! =f l[i]! :=by
 rw[bK (l.map f) i (by rw[bc];exact h),DL,bK l i h]
theorem MV.le(hm:MV r c V):V.length≤1000000:=by
 have:=hm.rc
 rw[hm.len];omega
theorem mc_S {R C:Int}{A:List Nu}:∃R' C' B,(mcP R C A y).1=mS R' C' B∧B.length≤1000000:=by
 unfold mcP LP
 split
 ·rename_i h
  obtain⟨r,c,rfl,rfl,hm⟩:=d6.1 h.1
  obtain⟨r',c',h1,h2,xz⟩:=d6.1 h.2.1
  have:=hm.r
  have:=xz.c
  exact Sf (CG (by rw[aD];omega) (by rw[h2,aD];omega))
 ·exact⟨0,0,[],rfl,by simp⟩
theorem UX(hm:MV r c V)(hc:c≠0)(hy:y.length≤1000000)(hs:∀i,i<r→ff c (fun j=>rv V[i*c+j]! *rv y[j]!)=0):lQ (mS r c V) (y.map nv)=some true:=by
 unfold lQ
 rw[K5 hy]
 simp only[ab]
 rw[K4 hm.le hy]
 simp only[ab]
 by_cases h:(mcP r c V y).2=0
 ·obtain⟨r',c',e1,e2,xz,hl,hg,hf,e⟩:=R9 h (by omega)
  obtain rfl:r=r':=by omega
  obtain rfl:c=c':=by omega
  have h3:=hm.r
  rw[e]
  dsimp only
  rw[a9 _ _ (by simp),Pm (CG (by omega) (by omega))]
  simp only[ab]
  refine congrArg some (qb.2 fun i k hi hk=>?_)
  obtain rfl:k=0:=by omega
  have g:=qb.1 hf i 0 hi (by omega)
  rw[g,iY]
  exact ck ((Ju g).2 (by rw[N6 hf hi];exact hs i hi))
 ·rw[ba _ _ h]
  rfl
theorem UY(hm:MV r c V)(hx:x.length≤1000000):∃b,lR (mS r c V) (x.map nv)=some b∧(b=true→c≠0→x.length=c∧x.all aH=true∧∀i,i<r→ff c (fun j=>rv V[i*c+j]! *rv x[j]!)=0):=by
 unfold lR
 rw[K5 hx]
 simp only[ab]
 rw[K4 hm.le hx]
 simp only[ab]
 by_cases h:(mcP r c V x).2=0
 ·rw[ba _ _ h]
  obtain⟨R',C',B,e,hB⟩:=mc_S (y:=x) (R:=r) (C:=c) (A:=V)
  rw[e]
  show ∃b,bnd (bnd (i3 (B.map nv)) fun x6=>some x6) (fun i4=>some i4)=some b∧_
  rw[Pm hB]
  simp only[ab]
  refine⟨_,rfl,fun hb hc=>?_⟩
  obtain⟨r',c',e1,e2,xz,hl,hg,hf,e'⟩:=R9 h (by omega)
  obtain rfl:r=r':=by omega
  obtain rfl:c=c':=by omega
  have e2:B.map nv=(mkM r 1 (wP c 1 V x)).map nv:=by
   have:(mcP r c V x).1.vV=B.map nv:=by rw[e]
   rw[←this,e']
  rw[RZ.1 e2] at hb
  refine⟨hl,hg,fun i hi=>?_⟩
  have:=qb.1 hb i 0 hi (by omega)
  rw[c8] at this
  rw[←N6 hf hi]
  exact (Ju this.2).1 (oc this.1)
 ·rw[a9 _ _ h]
  exact⟨false,rfl,fun h=>by cases h⟩
abbrev ER(c:Nat)(U:List Nu)(acc:List Pv):List (List ak):=(fV c acc).map fun k=>(jm c U acc k acc.length).map nv
theorem zP(hm:MV r c V)(hR:UQ r c (toR c V) U acc)(hx:x.length=c):∀(m k:Nat) (s:List Nu),k+m=c→s.length=c→s.all aH=true→(∀t,t<c→rv s[t]! =Df U c acc (fun j=>rv x[j]!) k t)→
  ∃o,aL (bR (x.map nv) (ER c U acc) (mS r c V) (d5 acc)) (((fV k acc).length:Int),(k:Int),mS 1 c s)=some o∧(o=.inl true∨∃s',o=.inr (mS 1 c s')∧s'.length=c∧s'.all aH=true∧∀t,t<c→rv s'[t]! =Df U c acc (fun j=>rv x[j]!) c t)
 |0,k,s,hk,hl,hg,hv=>by
  obtain rfl:k=c:=by omega
  refine⟨.inr (mS 1 k s),eI ?_,.inr ⟨s,rfl,hl,hg,hv⟩⟩
  unfold bR
  dsimp only
  rw[a9 _ _]
 |m+1,k,s,hk,hl,hg,hv=>by
  have h3:=hm.c
  have hkc:k<c:=by omega
  have step:∀o,bR (x.map nv) (ER c U acc) (mS r c V) (d5 acc) (((fV k acc).length:Int),(k:Int),mS 1 c s)=some o→bR (x.map nv) (ER c U acc) (mS r c V) (d5 acc) (((fV k acc).length:Int),(k:Int),mS 1 c s)=some o:=fun o h=>h
  by_cases hp:k∈acc.map (·.col)
  ·have ih:=zP hm hR hx m (k+1) s (by omega) hl hg (fun t ht=>by rw[Qw hp];exact hv t ht)
   have e:bR (x.map nv) (ER c U acc) (mS r c V) (d5 acc) (((fV k acc).length:Int),(k:Int),mS 1 c s)=some (.inl (((fV (k+1) acc).length:Int),((k+1:Nat):Int),mS 1 c s)):=by
    unfold bR
    dsimp only
    rw[ba _ _,show lkB (k:Int) (d5 acc)=true from (Hl k).trans (ck hp),kT]
    simp only[ab]
    rw[w64,oM,yF,ck hp,an rfl,pY]
    rfl
   rw[iq e]
   exact ih
  ·obtain⟨n1,n2⟩:=R2 hkc hp
   have oo:(fV k acc).length≤k:=by
    unfold fV
    exact cg (D1 _ _) (by rw[MP];exact aC _)
   have hy:=fun t (ht:t<c)=>JI hR.red hR.good hR.len hkc hp ht
   generalize hy0:jm c U acc k acc.length=y at hy
   have hyl:y.length=c:=by rw[←hy0];exact lY _
   obtain⟨R',C',B,eB,hB⟩:=scale_S (R:=1) (C:=c) (A:=y) (x:=x[k]!)
   have body:bR (x.map nv) (ER c U acc) (mS r c V) (d5 acc) (((fV k acc).length:Int),(k:Int),mS 1 c s)=bnd (S:=(Int×aq)⊕Bool) (bnd (S:=Bool) (cnd (decide ((tr 1 c y x[k]!).2≠(0:Int))) (some true) (some (decide ((KZ 1 c s R' C' B).2≠(0:Int))))) fun Ni=>cnd Ni (some (.inr true)) (some (.inl (i64.wrap (((fV k acc).length:Int)+(1:Int)),(KZ 1 c s R' C' B).1)))) fun y8=>match y8 with| .inl (Uy,Ux)=>some (.inl (Uy,i64.wrap ((k:Int)+(1:Int)),Ux))| .inr r=>some (.inr (.inl r)):=by
    unfold bR
    dsimp only
    rw[ba _ _,show lkB (k:Int) (d5 acc)=false from (Hl k).trans (gQ hp),kF,aB ⟨by omega,by rw[bc];omega⟩,aB ⟨by omega,by rw[bc];omega⟩,aD,aD,Dd n1,n2,hy0,Dd (by omega),
     show ((⟨(1:Int),(c:Int),y.map nv⟩:aq))=mS 1 c y from rfl,P_Scale (by omega)]
    simp only[ab]
    rw[eB,P_Add (by omega) hB,Er]
    simp only[ab]
    try rfl
   by_cases h1:(tr 1 c y x[k]!).2=0
   ·by_cases h2:(KZ 1 c s R' C' B).2=0
    ·obtain⟨_,gx,g1,e1⟩:=scale_0 h1
     have eB':=eB
     rw[e1] at eB'
     obtain⟨rfl,rfl,eV⟩:(1:Int)=R'∧(c:Int)=C'∧(mkM 1 c (wI c y x[k]!)).map nv=B.map nv:=by
      have:=eB'
      simp only[aq.mk.injEq] at this
      exact⟨this.1,this.2.1,this.2.2⟩
     obtain rfl:=RZ.1 eV
     obtain⟨g2,e2⟩:=add_0 h2
     have ih:=zP hm hR hx m (k+1) (mkM 1 c (QK c s (mkM 1 c (wI c y x[k]!)))) (by omega) (by rw[eN];omega) g2 (fun t ht=>by
      have ga:=qb.1 g2 0 t (by omega) ht
      have gm:=qb.1 g1 0 t (by omega) ht
      rw[NQ ht,Mt hp]
      unfold QK at ga ⊢
      rw[jJ,cj] at ga ⊢
      rw[NQ ht] at ga ⊢
      rw[Hg (ry hg (by omega)) gm ga,hv t ht]
      unfold wI at gm ⊢
      rw[jJ,cj] at gm ⊢
      rw[BP (hy t ht).1 gx gm,(hy t ht).2]
      grind)
     rw[iq (body.trans (by
      rw[a9 _ _ (by simpa using h1)]
      simp only[ab]
      rw[a9 _ _ (by simpa using h2),e2]
      simp only[ab]
      rw[w64,w64]))]
     have e3:((fV (k+1) acc).length:Int)=((fV k acc).length:Int)+1:=by
      rw[oM,yF,gQ hp,az (by decide),cN,Ur];omega
     rw[e3] at ih
     rw[show ((k+1:Nat):Int)=(k:Int)+1 from by omega] at ih
     exact ih
    ·refine⟨.inl true,eI (body.trans ?_),.inl rfl⟩
     rw[a9 _ _ (by simpa using h1)]
     simp only[ab]
     rw[ba _ _ h2]
     rfl
   ·refine⟨.inl true,eI (body.trans ?_),.inl rfl⟩
    rw[ba _ _ h1]
    rfl
end
theorem nlen {c:Nat}{U:List Nu}{acc:List Pv}(hs:(acc.map Pv.col).Pairwise (·<·))(hc:∀p∈acc,p.col<c):(ER c U acc).length+(d5 acc).length=c:=by
 have:=FA hs c
 rw[nF_all hs hc] at this
 rw[bc,F6]
 exact this
theorem G_null {R C:Int}{V x:List Nu}:cw (mS R C V) (x.map nv)=some true:=by
 unfold cw
 obtain⟨b1,h1,k1⟩:=Q_Light (R:=R) (C:=C) (V:=V)
 rw[h1,Er]
 simp only[ab,bc]
 cases b1 with
 |false=>rfl
 |true=>
  obtain⟨hV,hs⟩:=k1 rfl
  have hV:V.length≤1000000:=by omega
  rw[show (!true)=false from rfl,kF,vK hV]
  simp only[ab]
  by_cases h0:aN R C V=0
  ·rw[a9 _ _ (by simpa using h0)]
   by_cases hx:(10:Int)<x.length
   ·rw[ba _ _ hx,ab,kT]
   ·rw[a9 _ _ hx]
    obtain⟨s2,e2⟩:=Pj (l:=x) (by omega)
    rw[e2]
    simp only[ab]
    cases s2 with
    |false=>rfl
    |true=>
     rw[show (!true)=false from rfl,kF,UR hV,Ek hV]
     simp only[ab]
     unfold JJ xO
     rw[an h0,an h0]
     obtain⟨r,c,rfl,rfl,hm⟩:=d6.1 h0
     obtain⟨s1,s3⟩:=hs h0
     rw[aD,aD]
     cases oP:qy r c V with
     |none=>rfl
     |some p=>
      obtain⟨U,acc⟩:=p
      obtain⟨hso,wV⟩:=PP oP
      have hR:=LH hm.len hm.good oP
      have hn:=nlen (U:=U) hso wV
      have hcl2:(d5 acc).length≤7:=by omega
      unfold nullR
      dsimp only
      rw[kP,show (List.map nv∘fun k=>jm c U acc k acc.length)=fun k=>(jm c U acc k acc.length).map nv from rfl]
      have hL:((fV c acc).map fun k=>(jm c U acc k acc.length).map nv)=ER c U acc:=rfl
      rw[hL,a9 _ _ (by simp),ab,a9 _ _ (by simp),w64,a9 _ _,
       CJ (b:=dU (mS r c V) (ER c U acc,0)) (n:=(ER c U acc).length) (by omega) (fun _=>true) (fun i hi=>?_) ?_]
      ·rw[an (by simp)]
       simp only[ab]
       by_cases zV:(x.length:Int)=c
       ·rw[a9 _ _ (by simpa using zV)]
        obtain⟨b,fy,rf⟩:=UY (x:=x) hm (by omega)
        rw[fy]
        simp only[ab]
        cases b with
        |false=>rfl
        |true=>
         rw[show (!true)=false from rfl,kF]
         unfold me
         rw[aB]
         haveI:eH:=⟨0⟩
         unfold oT
         dsimp only
         rw[LB,aB,aD,AA (by rw[ny];omega) (fun i hi=>by
          rw[ny] at hi
          rw[bK _ i (by rw[ny];exact hi),MK];omega),DG]
         simp only[ab]
         rw[Q_Make (by rw[ny];omega)]
         simp only[ab]
         have hz:MV 1 c (List.replicate c (nOf 0)):=⟨by omega,by omega,by rw[ny];omega,bx.2 fun a ha=>by rw[(Ii.1 ha).2];exact of0.1⟩
         have hmk:AM 1 c (List.replicate c (nOf 0))=(mS 1 c (List.replicate c (nOf 0)),0):=by
          have h1c:aN 1 (c:Int) (List.replicate c (nOf 0))=0:=d6.2 ⟨1,c,rfl,rfl,hz⟩
          unfold AM
          rw[an h1c]
         rw[hmk]
         dsimp only
         have hsol:c≠0→u6 (toR c U) r c fun j=>rv x[j]! :=fun hc=>(hR.sol _).2 (rf rfl hc).2.2
         obtain⟨o,e1,ho⟩:=zP (x:=x) hm hR (by omega) c 0 (List.replicate c (nOf 0)) (by omega) (by rw[ny]) hz.good (fun t ht=>by
          rw[bK _ t (by rw[ny];exact ht),MK];exact of0.2)
         have e1:aL (bR (x.map nv) (ER c U acc) (mS r c V) (d5 acc)) ((0:Int),(0:Int),mS 1 c (List.replicate c (nOf 0)))=some o:=e1
         rw[e1]
         rcases ho with rfl|⟨s',rfl,l1,l2,l3⟩
         ·rfl
         ·simp only[ab]
          rw[Er]
          simp only[ab]
          rw[kT]
          have:s'=x:=by
           by_cases hc:c=0
           ·have z1:=jR (show s'.length=0 by omega)
            have z2:=jR (show x.length=0 by omega)
            rw[z1,z2]
           ·have hxg:=(rf rfl hc).2.1
            rw[R7 (R:=1) (C:=c) (l:=s') (by omega),R7 (R:=1) (C:=c) (l:=x) (by omega)]
            refine P6 fun i t hi ht=>?_
            obtain rfl:i=0:=by omega
            rw[jJ,cj]
            refine To (ry l2 (by omega)) (ry hxg (by omega)) ((l3 t ht).trans ?_)
            exact (sol_eq hR.red (hsol hc) ht).symm
          rw[this,RD (by rw[bc];omega)]
          rfl
       ·rw[ba _ _ zV]
        rfl
      ·unfold dU
       dsimp only
       rw[a9 _ _]
      ·unfold dU
       dsimp only
       rw[ba _ _,aB,aD]
       have sM:i<(fV c acc).length:=by rw[bc] at hi;exact hi
       rw[Dd (l:=fV c acc) sM]
       have EY:=P1 (k:=(fV c acc)[i]!) (c:=c) (acc:=acc) (by rw[bK _ i sM];exact uc sM)
       rw[UX hm (by omega) (by rw[lY];omega) (fun i hi=>?_)]
       ·rfl
       ·have hsv:=(hR.sol _).1 (P0 hR.red EY.2 EY.1) i hi
        rw[←hsv]
        exact dy fun t ht=>by
         rw[(JI hR.red hR.good hR.len EY.1 EY.2 ht).2];rfl
  ·rw[ba _ _ h0,ab,kT]
theorem G_nullW {a:aq}{x:List ak}(hA:QL a.vV)(hx:QL x):cw a x=some true:=by
 obtain⟨R,C,A⟩:=a
 dsimp only at hA
 rw[hA.nu.1,hx.nu.1]
 exact G_null
end
section
def CP(p:List Int):Nat→List Int
 |0=>[]
 |i+1=>p[i]! ::CP p i
theorem FI {p:List Int}{v:Int}:∀{n:Nat},v∈CP p n↔∃i,i<n∧p[i]! =v
 |0=>⟨fun h=>(by cases h),fun⟨_,h,_⟩=>absurd h (by omega)⟩
 |n+1=>by
  rw[show CP p (n+1)=p[n]! ::CP p n from rfl,e8,FI]
  constructor
  ·rintro (rfl|⟨i,h1,h2⟩)
   ·exact⟨n,by omega,rfl⟩
   ·exact⟨i,by omega,h2⟩
  ·rintro⟨i,h1,h2⟩
   by_cases e:i=n
   ·subst e;exact .inl h2.symm
   ·exact .inr ⟨i,by omega,h2⟩
theorem Qc {p:List Int}{v:Int}:v∈CP p p.length↔v∈p:=by
 rw[FI]
 constructor
 ·rintro⟨i,h1,h2⟩
  rw[bK p i h1] at h2
  rw[←h2];exact uc h1
 ·intro h
  obtain⟨i,h1,h2⟩:=MI.1 h
  exact⟨i,h1,by rw[bK p i h1];exact h2⟩
theorem vb.congr {M:Nat}{S T:List Int}{w:World}(h:vb M S w)(e:∀v,v∈S↔v∈T):vb M T w:=by
 obtain⟨es,QA,h1,h2,h3⟩:=h
 exact⟨es,QA,h1,h2,fun i=>(e i).symm.trans (h3 i)⟩
def Um(tm:List (Nat×D)):List (Nat×D)→Prop
 |[]=>True
 |p::l=>tm.lookup p.1=some p.2∧Um tm l
theorem KS {tm:List (Nat×D)}:∀{l:List (Nat×D)} {t:Nat} {d:D},Um tm l→l.lookup t=some d→tm.lookup t=some d
 |[],_,_,_,h=>by cases h
 |(u,e)::l,t,d,⟨h1,h2⟩,h=>by
  by_cases ht:t=u
  ·subst ht
   rw[ah] at h
   cases h
   exact h1
  ·rw[al ht] at h
   exact KS h2 h
theorem RS.less {x:Cx}{tm AH:List (Nat×D)}{hp:Hp}{a:Act}{w:World}(h:RS x tm hp a w)(hs:Um tm AH):RS x AH hp a w:=by
 obtain⟨g,hr,fh,h3⟩:=h
 exact⟨g,hr,fun t d hl=>fh t d (KS hs hl),h3⟩
def cdK:Code→Code
 | .block _ a=>a
 | .loop a=>a
 |_=>.skip
def opN(c:Code)(i:Nat):Oper:=match c with
 | .region _ ops _=>nD ops.toList i
 |_=>default
def nfn:Func:=f6
def nT:Code:=cdB (cdB (cdB (cdB (cdB (cdB (cdB (cdB (oE nfn))))))))
def nL:Code:=cdA (cdB nT)
def nLb:Code:=cdK (cdK (cdB nL))
def nB3:Code:=cdK (cdA (cdB (cdB nLb)))
theorem nT_e:nT=.seq (cdA nT) (.seq nL (cdB (cdB nT))):=by kernel_rfl
theorem nM_e:cdA nT=.region 17 #[⟨some 95,.makeMap 78 none,(opN (cdA nT) 0).type,(opN (cdA nT) 0).pos,(opN (cdA nT) 0).after,none⟩,⟨some 12,.assign (.tmp 95),(opN (cdA nT) 1).type,(opN (cdA nT) 1).pos,(opN (cdA nT) 1).after,none⟩] false:=by kernel_rfl
theorem nL_e:nL=.seq (cdA nL) (.block 2 (.loop (.seq (cdA nLb) (.seq (.cond (.tmp 99) .skip (.exit 2)) (.seq (.block 3 (.seq (cdA nB3) (cdB nB3))) (cdB (cdB (cdB nLb)))))))):=by kernel_rfl
theorem nU_e:cdB nB3=.region 21 #[⟨some 102,.move (.tmp 12),(opN (cdB nB3) 0).type,(opN (cdB nB3) 0).pos,(opN (cdB nB3) 0).after,none⟩,⟨some 103,.move (.tmp 14),(opN (cdB nB3) 1).type,(opN (cdB nB3) 1).pos,(opN (cdB nB3) 1).after,none⟩,⟨none,.mapUpdate 78 (.tmp 102) (.tmp 103) (.const (.bool true)),(opN (cdB nB3) 2).type,(opN (cdB nB3) 2).pos,(opN (cdB nB3) 2).after,none⟩] false:=by kernel_rfl
section
variable [eH]
def kst:Xt→St sd→Option (St sd)
 | .n,s=>some s
 | .e _,_=>none
theorem NW {I:World→Prop}(hI:Stb I){x:Cx}(hN:x.N=nfn.ntmps){ct:Ct}{c:Code}{s s':St sd}(hk:s.Ok)(hx:x.hp0.next≤s.nx)
  (h:evC tB [] nfn.ntmps (.d (.bool)) [.tmp 4] noH ct c (St sd) s kst (fun _=>none)=some s'):AWI prog I x c s.tmD s.hp fun ex tm hp=>ex=.normal∧tm=s'.tmD∧hp=s'.hp∧s'.Ok:=by
 refine AWI.mono (oV tok Mu hI LM hN hk hx h) ?_
 rintro ex tm hp (⟨q,s2,rfl,rfl,rfl,ok,E,hl⟩|⟨rfl,z,hz,hr⟩)
 ·cases q with
  |n=>cases hl;exact⟨rfl,rfl,rfl,ok⟩
  |e i=>cases hl
 ·cases hz
variable {dp:aq} {bg:List ak} {dt:List (List ak)} {p:List Int}
def sN0(bg:List ak)(dt:List (List ak))(p:List Int):List (Nat×TV sd):=[(1,.v (.sl (.st 1)) bg),(2,.pt 0 []),(5,.v (.sl (.sl (.st 1))) dt),(8,.v (.sl (.int .i64)) p),(12,.mp)]
def sN(dp:aq)(bg:List ak)(dt:List (List ak))(p:List Int)(tm:List (Nat×TV sd)):St sd:=⟨tm++sN0 bg dt p,[(0,.v (.st 2) dp)],[],1⟩
abbrev sI(i:Nat)(p:List Int):List (Nat×TV sd):=[(98,.v (.int .i64) ((i:Nat):Int)),(97,.v (.int .i64) ((p.length:Nat):Int)),(96,.v (.sl (.int .i64)) p)]
theorem e18:evC tB [] nfn.ntmps (.d (.bool)) [.tmp 4] noH (.g [] []) (cdA nL) (St sd) (sN dp bg dt p []) kst (fun _=>none)=some (sN dp bg dt p (sI 0 p)):=by kernel_rfl
theorem e19(i:Nat):evC tB [] nfn.ntmps (.d (.bool)) [.tmp 4] noH (.g [] []) (cdA nLb) (St sd) (sN dp bg dt p (sI i p)) kst (fun _=>none)=some (sN dp bg dt p ((99,.v .bool (decide ((i:Int)<(p.length:Int))))::sI i p)):=by kernel_rfl
theorem e20(i:Nat):evC tB [] nfn.ntmps (.d (.bool)) [.tmp 4] noH (.j [.j .n ⟨[(14,.d (.int .i64))],[],[]⟩] (.g [] [])) (cdA nB3) (St sd) (sN dp bg dt p (sI i p)) kst (fun _=>none)=bnd (gd (0≤(i:Int)∧(i:Int)<(p.length:Int)) (some p[(i:Int).toNat]!)) fun k=>some (sN dp bg dt p ((14,.v (.int .i64) k)::sI i p)):=by kernel_rfl
theorem e22(i:Nat)(k:Int):evC tB [] nfn.ntmps (.d (.bool)) [.tmp 4] noH (.g [] []) (cdB (cdB (cdB nLb))) (St sd) (sN dp bg dt p ((103,.v (.int .i64) k)::(102,.mp)::(14,.v (.int .i64) k)::sI i p)) kst (fun _=>none)=some (sN dp bg dt p ((98,.v (.int .i64) (i64.wrap ((i:Int)+1)))::(104,.v (.int .i64) (i64.wrap ((i:Int)+1)))::(103,.v (.int .i64) k)::(102,.mp)::(14,.v (.int .i64) k)::sI i p)):=by kernel_rfl
theorem NP {tm:List (Nat×TV sd)}(h:∀q∈tm,q.2.owns=[]):(sN dp bg dt p tm).Ok:=by
 refine⟨fun q hq=>gS ?_,fun q hq=>gS ?_⟩
 ·rcases jK.1 hq with hq|hq
  ·exact h q hq
  ·simp only[sN0,e8,uR,A8] at hq
   rcases hq with rfl|rfl|rfl|rfl|rfl <;> simp only[TV.owns]
 ·have hq:q∈[((0:Nat),(TV.v (.st 2) dp:TV sd))]:=hq
  simp only[e8,uR,A8] at hq
  subst hq
  simp only[TV.owns]
theorem sI_no {i:Nat}:∀q∈sI i p,q.2.owns=[]:=by
 intro q hq
 simp only[e8,uR,A8] at hq
 rcases hq with rfl|rfl|rfl <;> simp only[TV.owns]
theorem Hd {q:Nat×TV sd}{l:List (Nat×TV sd)}(h1:q.2.owns=[])(h2:∀q∈l,q.2.owns=[]):∀r∈q::l,r.2.owns=[]:=by
 intro r hr
 rcases e8.1 hr with rfl|hr
 ·exact h1
 ·exact h2 r hr
theorem nU_wp {x:Cx}{tm:List (Nat×D)}{hp:Hp}{a:Act}{w:World}{S:List Int}{k:Int}{Q:Exit→Act→World→Prop}(h:RS x tm hp a w)(hb:vb eH.M S w)(hn:x.w0.heap.size≤eH.M)(hB:x.B≤eH.M)(hN:x.N=nfn.ntmps)
  (S2:evD tm (.tmp 12)=mD eH.M) (hky:evD ((102,mD eH.M)::tm) (.tmp 14)=dI .i64 k) (hk:∀a' w',RS x ((103,dI .i64 k)::(102,mD eH.M)::tm) hp a' w'→vb eH.M (k::S) w'→Q .normal a' w'):(cdB nB3).wp prog Q a w:=by
 rw[nU_e]
 exact wp_upd h hb hn hB (kt:=3) (et:=4) (by kernel_rfl) (by kernel_rfl) (by rw[hN];exact mY (by kernel_rfl)) (by rw[hN];exact mY (by kernel_rfl)) (by decide) S2 hky hk
theorem keys_ok {x:Cx}(hN:x.N=nfn.ntmps)(hp:p.length≤1000000){a:Act}{w:World}(hx:x.hp0.next≤1)(hr:RS x (sN dp bg dt p []).tmD (sN dp bg dt p []).hp a w)(hb:vb eH.M [] w)(hn:x.w0.heap.size≤eH.M)(hB:x.B≤eH.M){Q:Exit→Act→World→Prop}
  (hq:∀a w,RS x (sN dp bg dt p []).tmD (sN dp bg dt p []).hp a w→vb eH.M p w→Q .normal a w):nL.wp prog Q a w:=by
 rw[nL_e]
 refine wp_seq (wp_mono (NW (xL (S:=[])) hN (NP (fun q h=>by cases h)) hx e18 a w hr hb) ?_)
 rintro ex a1 w1 ⟨⟨EM,hp1,Me,rfl,rfl,rfl,-⟩,fy⟩
 refine wp_block (pd (fun n a w=>∃i,n+i=p.length∧RS x (sN dp bg dt p (sI i p)).tmD (sN dp bg dt p []).hp a w∧vb eH.M (CP p i) w) (n:=p.length) ⟨0,rfl,Me,fy⟩ ?_)
 rintro n a2 w2 ⟨i,hi,HE,rf⟩
 have okI:(sN dp bg dt p (sI i p)).Ok:=NP sI_no
 refine wp_seq (wp_mono (NW xL hN okI hx (e19 i) a2 w2 HE rf) ?_)
 rintro ex a3 w3 ⟨⟨tm3,hp3,hr3,rfl,rfl,rfl,-⟩,fT⟩
 have hc:evD (sN dp bg dt p ((99,.v .bool (decide ((i:Int)<(p.length:Int))))::sI i p)).tmD (.tmp 99)=.e (.lit (.bool (decide ((i:Int)<(p.length:Int))))):=rfl
 refine wp_seq (wp_mono (AWI.condS (I:=vb eH.M (CP p i)) (Q:=fun ex tm hp=>tm=(sN dp bg dt p ((99,.v .bool (decide ((i:Int)<(p.length:Int))))::sI i p)).tmD∧hp=(sN dp bg dt p []).hp∧(ex=.normal∧i<p.length∨ex=.exit 2∧¬i<p.length)) hc
  (fun hb=>AWI.skip ⟨rfl,rfl,.inl ⟨rfl,by have:=oc hb;omega⟩⟩) (fun hb=>AWI.exit ⟨rfl,rfl,.inr ⟨rfl,by have:=sY hb;omega⟩⟩) a3 w3 hr3 fT) ?_)
 rintro ex a4 w4 ⟨⟨tm4,hp4,hr4,rfl,rfl,h4⟩,z5⟩
 have hr4':RS x (sN dp bg dt p (sI i p)).tmD (sN dp bg dt p []).hp a4 w4:=hr4.less ⟨rfl,rfl,rfl,rfl,rfl,rfl,rfl,rfl,trivial⟩
 rcases h4 with⟨rfl,bh⟩|⟨rfl,C9⟩
 ·have h20:=e20 (dp:=dp) (bg:=bg) (dt:=dt) (p:=p) i
  rw[aB] at h20
  refine wp_seq (wp_block (wp_seq (wp_mono (NW xL hN okI hx h20 a4 w4 hr4' z5) ?_)))
  rintro ex a5 w5 ⟨⟨tm5,hp5,hr5,rfl,rfl,rfl,-⟩,v4⟩
  refine nU_wp hr5 v4 hn hB hN (k:=p[(i:Int).toNat]!) rfl rfl fun a6 w6 hr6 pJ=>?_
  have ok6:(sN dp bg dt p ((103,.v (.int .i64) p[(i:Int).toNat]!)::(102,.mp)::(14,.v (.int .i64) p[(i:Int).toNat]!)::sI i p)).Ok:=NP (Hd (by simp only[TV.owns]) (Hd (by simp only[TV.owns]) (Hd (by simp only[TV.owns]) sI_no)))
  refine wp_mono (NW xL hN ok6 hx (e22 i _) a6 w6 hr6 pJ) ?_
  rintro ex a7 w7 ⟨⟨tm7,hp7,hr7,rfl,rfl,rfl,-⟩,wW⟩
  refine⟨n - 1,by omega,i+1,by omega,hr7.less ⟨?_,rfl,rfl,rfl,rfl,rfl,rfl,rfl,trivial⟩,wW⟩
  show some (dI .i64 (i64.wrap ((i:Int)+1)))=some (dI .i64 ((i+1:Nat):Int))
  rw[Lo ⟨by omega,by omega⟩]
  rfl
 ·exact hq a4 w4 (hr4'.less ⟨rfl,rfl,rfl,rfl,rfl,trivial⟩) (z5.congr fun v=>by
   rw[show i=p.length by omega];exact Qc)
end
theorem nM_wp {x:Cx}{tm:List (Nat×D)}{hp:Hp}{a:Act}{w:World}{Q:Exit→Act→World→Prop}(h:RS x tm hp a w)(hN:x.N=nfn.ntmps)(hk:∀a' w' M,RS x ((12,mD M)::(95,mD M)::tm) hp a' w'→vb M [] w'→x.w0.heap.size≤M→x.B≤M→Q .normal a' w'):(cdA nT).wp prog Q a w:=by
 rw[nM_e]
 haveI:eH:=⟨0⟩
 exact Q8 h (by rw[hN];exact mY (by kernel_rfl)) (by rw[hN];exact mY (by kernel_rfl)) hk
theorem zero_b(w:World):(zeroValue 4).run prog w=.ok (.bool false) w:=by kernel_rfl
theorem tail_ok [eH]{x:Cx}(hN:x.N=nfn.ntmps){s:St sd}{r:Bool}(h0:x.hp0.next=0)(h:gA s=some r):AWI prog (fun _=>True) x nT s.tmD s.hp (QF (S:=sd) (R:=Bool) tbl (.d (.bool)) [.tmp 4] some r):=by
 unfold gA at h
 split at h
 ·rename_i px pl p m n h1 h2 h5 h8 hv ru
  obtain⟨r',hl,om⟩:=ai h
  cases om
  unfold me at hl
  obtain⟨hp,hl⟩:=ax hl
  intro a w hr _
  have lk:∀{t:Nat} {v:TV sd},s.tm.lookup t=some v→s.tmD.lookup t=some v.toD:=fun e=>by
   rw[ly,e];rfl
  have hw:Wk x s.tmD s.hp [(1,dL aj px),(2,.pt 0 0),(5,dL (cL aj) pl),(8,dL (cI .i64) p)] ⟨[(0,dC (aG.f m))],[],1⟩:=Wk.mk (by omega) (by show 1≤s.nx;omega)
   (by
    simp only[MW]
    exact⟨⟨lk h1,rfl⟩,⟨lk h2,rfl⟩,⟨lk h5,rfl⟩,⟨lk h8,rfl⟩,fun q hq=>by cases hq⟩)
   (by
    simp only[MW]
    refine⟨⟨⟨rfl,?_⟩,?_⟩,fun q hq=>by cases hq⟩
    ·show (vsL s.vs).lookup 0=_
     rw[rN,hv];rfl
    ·rw[bx]
     intro d hd
     obtain⟨e,_,rfl⟩:=nz.1 hd
     rfl)
   (fun q hq=>by cases hq)
  have hr0:=hw a w hr
  rw[nT_e]
  refine wp_seq (nM_wp hr0 hN fun a1 w1 M Me fy hn hB=>?_)
  letI:eH:=⟨M⟩
  have HE:RS x (sN m px pl p []).tmD (sN m px pl p []).hp a1 w1:=Me.less ⟨rfl,rfl,rfl,rfl,rfl,trivial⟩
  refine wp_seq (keys_ok (dp:=m) (bg:=px) (dt:=pl) (p:=p) hN hp (by omega) HE fy hn hB fun a3 w3 hr3 fT=>?_)
  have Qm:=evC_end (I:=vb M p) tok Mu xL (lkH_ok (N:=nfn.ntmps) (re:=.d (.bool)) (rs:=[.tmp 4]) (mty:=78) (kt:=3) (et:=4) (by kernel_rfl) (by kernel_rfl) zero_b) hN (s:=sN m px pl p []) (NP fun q h=>by cases h) (by rw[h0];exact il _) ((Ad px pl p m p).trans hl) a3 w3 hr3 fT
  exact wp_mono Qm fun ex a w h=>⟨h.1,trivial⟩
 ·cases h
theorem c_null(x:Tup sd (paT [.d (.st 2),.d (.sl (.st 1))])){z:Bool}(h:cw x.1 x.2=some z):ar prog 6 (paD [.d (.st 2),.d (.sl (.st 1))] x) (dB z):=by
 letI:eH:=⟨0⟩
 refine ar.of tok (func6) (c:=oE nfn) rfl rfl (cD (by kernel_rfl)) (rs:=[.tmp 4]) rfl fun cx hx h0=>?_
 have hok:(⟨paV [.d (.st 2),.d (.sl (.st 1))] x 0,[],[],0⟩:St sd).Ok:=⟨fun p hp=>gS (G5 p hp),fun p hp=>by cases hp⟩
 have:=TD (tail:=nT) tok Mu Jr LM hx hok (by rw[h0];exact aC _) ((qM x).trans h) (fun s' ok hle ht=>tail_ok hx (by rw[h0]) ht)
 have e:(⟨paV [.d (.st 2),.d (.sl (.st 1))] x 0,[],[],0⟩:St sd).tmD=dv 0 (paD [.d (.st 2),.d (.sl (.st 1))] x):=NX _ x 0
 rw[e,show NK gB nT=oE nfn from qS.symm] at this
 refine AW.mono (AWI.aw this) ?_
 rintro ex tm hp ⟨rfl,z',hz,hr⟩
 cases hz
 exact hr
theorem sB {dp:aq}{bg:List ak}{r:Bool}(h:cw dp bg=some r):ar prog 6 [dG aG dp,dL aj bg] (dB r):=c_null (dp,bg) h
end
section
open Go.ChangeShapes Go.WideShapes Go.ChangeAt Go.RowKit Go.ChangeMaps
namespace matrixNull
theorem k0:(Rows.matrixNullIsAllRow.wf (OpenSpec.ofChange Rows.matrixNullIsAllSpec))=true:=by kernel_rfl
theorem k1:(laidOutB prog)=true:=by kernel_rfl
theorem k2:(mapsRowed prog)=true:=by kernel_rfl
theorem k3:(f6.params.all (prog.readableRec ·))=true:=by kernel_rfl
theorem k4:(namedTie prog Rows.matrixNullIsAllRow.named Rows.matrixNullIsAllSpec.vars)=true:=by kernel_rfl
theorem k5:((Rows.matrixNullIsAllRow.stops == []))=true:=by kernel_rfl
theorem k6:((prog.stops == []))=true:=by kernel_rfl
theorem k7:((Rows.matrixNullIsAllRow.knobs == []))=true:=by kernel_rfl
theorem k8:((prog.stopKnobs == []))=true:=by kernel_rfl
theorem k9:((Rows.matrixNullIsAllRow.inPlace == prog.inPlace 6))=true:=by kernel_rfl
theorem k10:((Rows.matrixNullIsAllRow.unfollowed == prog.unfollowed 6))=true:=by kernel_rfl
theorem k11:((Rows.matrixNullIsAllRow.recurses == prog.recurses 6))=true:=by kernel_rfl
theorem k12:((Rows.matrixNullIsAllRow.named == prog.varsNamed 6))=true:=by kernel_rfl
theorem k13:((Rows.matrixNullIsAllRow.maps == (f6.params.toList++Rows.matrixNullIsAllSpec.plain.varTypes prog).any (prog.mapsRec ·)))=true:=by kernel_rfl
theorem k14:((Rows.matrixNullIsAllRow.ifaces == (f6.params.toList++Rows.matrixNullIsAllSpec.plain.varTypes prog).any (prog.ifacesRec ·)))=true:=by kernel_rfl
theorem k15:((Rows.matrixNullIsAllRow.mapsOut == prog.mapsAmong f6.resultTypes.toList))=true:=by kernel_rfl
theorem k16:((Rows.matrixNullIsAllRow.loops == (f6.params.toList++Rows.matrixNullIsAllSpec.plain.varTypes prog).any (prog.loopsFrom ·)))=true:=by kernel_rfl
theorem k17:((Rows.matrixNullIsAllRow.wideKeys == (f6.params.toList++Rows.matrixNullIsAllSpec.plain.varTypes prog++f6.resultTypes.toList).any (prog.wideKeysFrom ·)))=true:=by kernel_rfl
theorem k18:(Rows.matrixNullIsAllSpec.vars.all (prog.varReadable ·))=true:=by kernel_rfl
theorem k19:(f6.resultTypes.all (fun t=>prog.readableRec t&&decide (t<prog.types.size)))=true:=by kernel_rfl
theorem k20:((Rows.matrixNullIsAllRow.ifacesOut == f6.resultTypes.toList.any (prog.ifacesRec ·)))=true:=by kernel_rfl
theorem k21:((Rows.matrixNullIsAllRow.loopsOut == f6.resultTypes.toList.any (prog.loopsFrom ·)))=true:=by kernel_rfl
theorem k22:((Rows.matrixNullIsAllRow.plainKeys == prog.plainKeys))=true:=by kernel_rfl
theorem k23:(Rows.matrixNullIsAllRow.shortTexts.isNone)=true:=by kernel_rfl
theorem k24:(prog.stopsHeard)=true:=by kernel_rfl
theorem k25:(prog.mayEnter)=true:=by kernel_rfl
theorem k26:((Rows.matrixNullIsAllRow.lifted == prog.liftsFinal))=true:=by kernel_rfl
theorem k27:((prog.make == some Rows.matrixNullIsAllRow.make))=true:=by kernel_rfl
theorem k28:((Rows.matrixNullIsAllRow.kinds == (if Rows.matrixNullIsAllRow.domain.isEmpty then [] else f6.params.toList.map fun t=>match prog.underlying t with|some (.int k)=>some k|_=>none)))=true:=by kernel_rfl
theorem k29:((Rows.matrixNullIsAllRow.pinned == Rows.matrixNullIsAllRow.pinnedBy))=true:=by kernel_rfl
theorem k30:((Rows.matrixNullIsAllRow.veiled == (f6.params.toList++Rows.matrixNullIsAllSpec.plain.varTypes prog++f6.resultTypes.toList).any (prog.veiledRec ·)))=true:=by kernel_rfl
theorem k31:(Rows.matrixNullIsAllRow.veiledFits prog f6.params.toList (f6.params.toList++Rows.matrixNullIsAllSpec.plain.varTypes prog++f6.resultTypes.toList))=true:=by kernel_rfl
theorem m3 {a b:Bool}(h:a=true)(h2:b=true):(a&&b)=true:=by rw[h,h2];rfl
theorem closed:joinedFacts prog 6 f6 Rows.matrixNullIsAllSpec Rows.matrixNullIsAllRow=true:=by
 delta joinedFacts
 exact m3 (m3 (m3 (m3 (m3 (m3 (m3 (m3 (m3 (m3 (m3 (m3 (m3 (m3 (m3 (m3 (m3 (m3 (m3 (m3 (m3 (m3 (m3 (m3 (m3 (m3 (m3 (m3 (m3 (m3 (m3 k0 k1) k2) k3) k4) k5) k6) k7) k8) k9) k10) k11) k12) k13) k14) k15) k16) k17) k18) k19) k20) k21) k22) k23) k24) k25) k26) k27) k28) k29) k30) k31
end matrixNull
end
end
end Go.Proofs.YtgfcnncojhkcoaaGreat
