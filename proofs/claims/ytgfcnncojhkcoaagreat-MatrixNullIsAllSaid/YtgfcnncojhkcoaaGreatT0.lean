/-
  Lemmas, part 0. Conditions: none.
-/
import Derived.WalkKit
import Derived.Lib.Hide
import Derived.Lib.AppendStr
import Derived.Laws.BytesArg
import Derived.Lib.SliceRun
import Derived.Deep.Draws
import Derived.Deep.AppendLies
import Derived.Maps.AppendAt
import Derived.BigQuiet
import Derived.Deep.QuietTactic
import Derived.Deep.DeepFit
import Derived.WalkSpells
import Derived.Deep.WholeRow
import Derived.Deep.MidRow
import Derived.WalkLawsBesides
import Derived.Great.BuildSlice
import Derived.Laws.Small
set_option linter.all false
set_option maxRecDepth 100000
namespace Go.Proofs.YtgfcnncojhkcoaaGreat
open Go.RowKit Go.IntKind
noncomputable section
theorem ifp_.{u}{c:Prop}{h:Decidable c}{α:Sort u}{t e:α}(hc:c:=by omega):ite c t e=t:=if_pos hc
theorem ifn_.{u}{c:Prop}{h:Decidable c}{α:Sort u}{t e:α}(hc:¬c:=by omega):ite c t e=e:=if_neg hc
theorem det_ {p:Prop}{i:Decidable p}(h:p:=by omega):decide p=true:=decide_eq_true h
theorem def_ {p:Prop}{i:Decidable p}(h:¬p:=by omega):decide p=false:=decide_eq_false h
abbrev az:=@if_neg
abbrev cD:=@Nat.le_of_ble_eq_true
abbrev gZ:=@List.map_cons
abbrev pN:=@List.map_nil
abbrev cj:=@Nat.zero_add
abbrev rY:=@Nat.eq_zero_or_pos
abbrev jJ:=@Nat.zero_mul
abbrev al_7:=@Nat.mul_zero
abbrev al_8:=@Nat.le_max_left
abbrev il:=@Nat.zero_le
abbrev aC:=@Nat.le_refl
abbrev dH:=@Nat.lt_succ_self
abbrev O0:=@Bool.eq_false_or_eq_true
abbrev oc:=@of_decide_eq_true
abbrev ck:=@decide_eq_true
abbrev an:=@if_pos
abbrev gQ:=@decide_eq_false
abbrev A9:=@List.length_set
abbrev sY:=@of_decide_eq_false
abbrev p6:=@decide_eq_decide
abbrev eQ:=@Nat.le_succ
abbrev sX:=@List.all_append
abbrev pZ:=@Nat.lt_succ_of_lt
abbrev cN:=@List.length_append
abbrev al_24:=@List.findIdx?_eq_some_iff_getElem
abbrev OZ:=@List.any_eq_true
abbrev uc:=@List.getElem_mem
abbrev jL:=@List.all_cons
abbrev jR:=@List.eq_nil_of_length_eq_zero
abbrev lf:=@List.map_append
abbrev cg:=@Nat.le_trans
abbrev bC:=@Nat.lt_of_lt_of_le
abbrev sW:=@Nat.mul_pos
abbrev bY:=@Nat.mul_le_mul_right
abbrev yJ:=@Nat.pos_of_ne_zero
abbrev bx:=@List.all_eq_true
abbrev nz:=@List.mem_map
abbrev e8:=@List.mem_cons
abbrev uR:=@List.not_mem_nil
abbrev A8:=@or_false
abbrev bc:=@List.length_map
abbrev Us:=@List.flatMap_map
abbrev bZ:=@Option.some.inj
abbrev KW:=@Int.toNat_of_nonneg
abbrev DG:=@List.map_replicate
abbrev ny:=@List.length_replicate
abbrev fS:=@if_true
abbrev oF:=@List.all_nil
abbrev iY:=@Bool.and_true
abbrev c8:=@Bool.and_eq_true
abbrev yI:=@List.cons_append
abbrev jK:=@List.mem_append
abbrev bO:=@Nat.lt_or_ge
abbrev gP:=@List.getElem?_eq_none
abbrev uQ:=@List.getElem?_append_left
abbrev rH:=@List.getElem?_append_right
abbrev yH:=@Nat.add_sub_cancel_left
abbrev mm:=@List.nil_append
abbrev i9:=@Nat.add_zero
abbrev f7:=@Nat.eq_of_beq_eq_true
abbrev qU:=@List.mem_singleton
abbrev Ur:=@List.length_singleton
abbrev lc:=@List.length_cons
abbrev pH:=@List.drop_zero
abbrev bP:=@List.append_assoc
abbrev OY:=@Bool.or_eq_true
abbrev Uq:=@Bool.eq_false_iff
abbrev Ge:=@List.elem_cons
abbrev A7:=@beq_eq_false_iff_ne
abbrev Gc:=@List.map_id
abbrev sV:=@List.map_congr_left
abbrev ww:=@Bool.not_eq_true'
abbrev bL:=@List.mem_of_getElem?
abbrev DF:=@Nat.add_sub_cancel
abbrev sU:=@List.take_left
abbrev KV:=@List.getD_eq_getElem?_getD
abbrev sT:=@List.getElem?_of_mem
abbrev eG:=@List.getElem?_eq_getElem
abbrev pY:=@List.append_nil
abbrev nt:=@List.getElem?_drop
abbrev fZ:=@List.length_drop
abbrev Up:=@List.mem_of_mem_drop
abbrev rG:=@Option.map_eq_some_iff
abbrev KU:=@Nat.sub_self
abbrev KT:=@List.elem_eq_mem
abbrev Gb:=@decide_eq_false_iff_not
abbrev fY:=@List.getElem?_take
abbrev A6:=@List.mem_range
abbrev nr:=@Option.map_some
abbrev wv:=@Option.getD_some
abbrev Uo:=@Array.all_eq_true'
abbrev nq:=@Option.some.injEq
abbrev e7:=@Array.getD_eq_getD_getElem?
abbrev OX:=@Array.getElem?_setIfInBounds
abbrev OW:=@Array.getElem?_eq_none
abbrev al_95:=@List.eq_nil_iff_forall_not_mem
abbrev pX:=@Array.getElem?_eq_getElem
abbrev dM:=@Nat.mod_lt
abbrev yG:=@Nat.beq_refl
abbrev Un:=@List.getElem?_cons_zero
abbrev Iy:=@List.getElem?_cons_succ
abbrev j8:=@List.mem_cons_self
abbrev io:=@List.mem_cons_of_mem
abbrev lV:=@List.getElem?_eq_some_iff
abbrev D2:=@List.getElem?_toArray
abbrev bE:=@List.getElem?_map
abbrev Ix:=@List.mem_toArray
abbrev my:=@List.size_toArray
abbrev D1:=@List.length_filter_le
abbrev dY:=@Array.length_toList
abbrev Iw:=@Array.getElem?_replicate
abbrev dE:=@Nat.div_eq_of_lt
abbrev cC:=@Nat.pow_succ
abbrev gg:=@Nat.div_div_eq_div_mul
abbrev bj:=@Nat.mul_comm
abbrev kV:=@Nat.div_add_mod
abbrev gH:=@Nat.pow_add
abbrev bD:=@Nat.pow_pos
abbrev im:=@Nat.pow_le_pow_right
abbrev mw:=@Nat.mod_one
abbrev dX:=@Nat.mod_eq_of_lt
abbrev kU:=@Nat.add_assoc
abbrev lU:=@Nat.add_comm
abbrev aX:=@Nat.add_mul
abbrev dq:=@Nat.one_mul
abbrev Nh:=@Nat.add_mul_div_right
abbrev fa:=@Nat.mul_assoc
abbrev Ng:=@Nat.add_mul_mod_self_right
abbrev Aw:=@Nat.mod_mod
abbrev xm:=@Nat.lt_trichotomy
abbrev bK:=@getElem!_pos
abbrev Nf:=@Vector.getElem_ofFn
abbrev Nd:=@Nat.mul_div_cancel
abbrev u3:=@Nat.lt_irrefl
abbrev aD:=@Int.toNat_natCast
abbrev qV:=@Nat.min_eq_left
abbrev Iv:=@Int.natCast_nonneg
abbrev Nc:=@Int.natCast_ediv
abbrev ob:=@Int.natCast_mul
abbrev Iu:=@Nat.gcd_zero_right
abbrev sm:=@Int.ofNat_tmod
abbrev ep:=@Bool.not_true
abbrev Nb:=@Nat.gcd_zero_left
abbrev fg:=@Nat.lt_of_le_of_lt
abbrev Av:=@Nat.gcd_le_left
abbrev D0:=@Nat.div_pos
abbrev Au:=@Nat.le_mul_of_pos_right
abbrev Na:=@Nat.mul_lt_mul_of_pos_right
abbrev ek:=@Int.natAbs_natCast
abbrev At:=@Nat.mul_lt_mul_of_lt_of_lt
abbrev It:=@Int.fmod_nonneg_of_pos
abbrev Is:=@Int.fmod_lt_of_pos
abbrev M9:=@Int.lt_trichotomy
abbrev Uw:=@Int.mul_le_mul_of_nonneg_right
abbrev Uv:=@Int.mul_le_mul_of_nonpos_right
abbrev DZ:=@beq_self_eq_true
abbrev uZ:=@Nat.div_le_self
abbrev As:=@Nat.lt_trans
abbrev kS:=@Int.natCast_add
abbrev lT:=@cond_true
abbrev tR:=@Int.mul_comm
abbrev uY:=@Bool.not_false
abbrev kQ:=@Nat.le_of_lt
abbrev M8:=@Int.sign_eq_zero_iff_zero
abbrev xl:=@List.append_inj
abbrev DY:=@Classical.choose_spec
abbrev M7:=@Nat.gcd_eq_zero_iff
abbrev Ir:=@Int.mul_left_comm
abbrev xk:=@Int.natAbs_mul
abbrev DX:=@Nat.le_mul_of_pos_left
abbrev M6:=@Int.sign_eq_neg_one_of_neg
abbrev DV:=@Int.sign_eq_one_of_pos
abbrev M5:=@Nat.gcd_pos_of_pos_left
abbrev M4:=@Nat.mul_div_cancel_left
abbrev M3:=@Rat.divInt_ofNat
abbrev DU:=@Option.isSome_some
abbrev sk:=@List.range_succ
abbrev Iq:=@List.ext_getElem
abbrev xj:=@List.map_take
abbrev kP:=@List.map_map
abbrev kO:=@Nat.div_lt_iff_lt_mul
abbrev fI:=@Nat.pow_zero
abbrev oZ:=@Nat.le_div_iff_mul_le
abbrev Ip:=@Nat.div_eq_zero_iff_lt
abbrev Io:=@Nat.le_max_right
abbrev sj:=@Int.ofNat_tdiv
abbrev uX:=@Nat.add_lt_add_left
abbrev M2:=@Nat.div_le_div_right
abbrev Ar:=@Nat.mul_left_comm
abbrev Aq:=@Nat.add_mul_mod_self_left
abbrev uW:=@Nat.mul_le_mul_left
abbrev gG:=@Nat.mul_le_mul
abbrev tQ:=@Nat.mul_add
abbrev m8:=@Nat.div_one
abbrev M1:=@Nat.div_mul_le_self
abbrev si:=@Nat.mul_one
abbrev uV:=@Nat.pow_one
abbrev Ap:=@Nat.pow_mul
abbrev DT:=@Array.getElem?_setIfInBounds_ne
abbrev DS:=@Option.bind_some
abbrev j7:=@List.drop_drop
abbrev tP:=@List.range'_succ
abbrev Ao:=@List.range_eq_range'
abbrev In:=@Array.mapM_eq_mapM_toList
abbrev j6:=@Array.toList_inj
abbrev DR:=@Nat.sub_zero
abbrev An:=@Array.getElem?_append_left
abbrev bf:=@Eq.trans
abbrev Im:=@Nat.testBit_or
abbrev dW:=@Array.getElem?_eq_some_iff
abbrev uU:=@Nat.not_lt_zero
abbrev m7:=@if_false
abbrev lS:=@Ne.symm
abbrev M0:=@List.filter_cons
abbrev sf:=@decide_true
abbrev se:=@decide_false
abbrev DQ:=@List.pairwise_iff_getElem
abbrev MZ:=@List.getElem?_set_self
abbrev MY:=@List.getElem?_set_ne
abbrev Il:=@List.drop_eq_getElem_cons
abbrev oa:=@Nat.succ_mul
abbrev n9:=@List.take_append_drop
abbrev MX:=@Bool.false_eq_true
abbrev MW:=@List.forall_mem_cons
abbrev uT:=@Bool.eq_iff_iff
abbrev m6:=@List.flatMap_cons
abbrev MU:=@List.take_append
abbrev e9:=@List.take_of_length_le
abbrev MT:=@List.drop_append
abbrev m5:=@Vector.length_toList
abbrev DP:=@List.ext_getElem?
abbrev MS:=@List.getElem?_range
abbrev DO:=@List.flatMap_append
abbrev cz:=@List.length_take
abbrev oY:=@Nat.le_add_right
abbrev DN:=@List.all_map
abbrev MR:=@List.filter_cons_of_neg
abbrev MQ:=@List.filter_cons_of_pos
abbrev n8:=@Array.getElem?_toList
abbrev MP:=@List.length_range
abbrev m4:=@List.getElem!_eq_getElem?_getD
abbrev DM:=@Nat.div_lt_of_lt_mul
abbrev MO:=@List.not_any_eq_all_not
abbrev MN:=@Classical.byContradiction
abbrev MM:=@List.take_length
abbrev Ik:=@List.foldl_cons
abbrev Ij:=@List.length_nil
abbrev ML:=@List.foldl_append
abbrev DL:=@List.getElem_map
abbrev DK:=@Bool.true_and
abbrev Uu:=@Nat.testBit_eq_decide_div_mod_eq
abbrev mu:=@decide_eq_true_eq
abbrev MK:=@List.getElem_replicate
abbrev DJ:=@List.drop_take
abbrev Am:=@List.take_take
abbrev MJ:=@List.drop_append_of_le_length
abbrev sb:=@List.take_append_of_le_length
abbrev uS:=@List.drop_of_length_le
abbrev Ii:=@List.mem_replicate
abbrev MI:=@List.mem_iff_getElem
abbrev xi:=@List.take_zero
abbrev pO:=@List.drop_left
abbrev Ut:=@List.set_eq_take_append_cons_drop
abbrev Al:=@List.map_drop
abbrev MH:=@List.mem_of_mem_take
abbrev Ih:=@List.map_toArray
abbrev DI:=@Array.size_append
abbrev Ig:=@Array.toList_append
abbrev If:=@List.lookup_cons
abbrev xh:=@Nat.add_mul_div_left
abbrev xg:=@Nat.mul_add_div
abbrev MG:=@Nat.mul_add_mod_self_right
abbrev DH:=@Nat.mul_right_comm
abbrev Ie:=@Array.eq_empty_of_size_eq_zero
abbrev Id:=@not_true_eq_false
abbrev MF:=@Array.mem_append
abbrev cy:Vector Int 16:=Vector.replicate 16 (0:Int)
abbrev ae:Value:=.int .u32 0
section
theorem iX(a:Addr)(n:Nat):(a.add n).block=a.block:=by unfold Addr.add;split <;> rfl
theorem o0(a:Addr)(i j:Nat):(a.add i).add j=a.add (i+j):=by
 unfold Addr.add
 by_cases hi:i=0 <;> by_cases hj:j=0 <;> simp[hi,hj,kU]
def u7(w:World)(B size:Nat)(A:Option Addr)(n:Nat)(xs:List Value):Prop:=
 xs.length=n*size∧(0<n→∃ad,A=some ad∧ad.block<B∧∀j u,xs[j]? =some u→w.cell? (ad.add j)=some u)
def Sl(w:World)(v:Value)(size n:Nat)(xs:List Value):Prop:=
 ∃A c,v=.slice A n c∧n≤c∧c≤maxLen∧u7 w w.heap.size size A n xs
section
variable {w w':World} {B B' size n:Nat} {A:Option Addr} {xs:List Value}
theorem u7.keep(h:u7 w B size A n xs)(hk:∀p:Addr,p.block<B→w'.cell? p=w.cell? p):u7 w' B size A n xs:=
 ⟨h.1,fun hn=>by
  obtain⟨ad,e,hb,hc⟩:=h.2 hn
  exact⟨ad,e,hb,fun j u hu=>(hk _ (by rw[iX];exact hb)).trans (hc j u hu)⟩⟩
theorem u7.more(h:u7 w B size A n xs)(hB:B≤B'):u7 w B' size A n xs:=
 ⟨h.1,fun hn=>by
  obtain⟨ad,e,hb,hc⟩:=h.2 hn
  exact⟨ad,e,by omega,hc⟩⟩
theorem u7.below(h:u7 w B size A n xs)(hb:Below B w w'):u7 w' B size A n xs:=h.keep fun _ hp=>hb.cell hp
theorem Sl.below {v:Value}(h:Sl w v size n xs)(hb:Below w.heap.size w w'):Sl w' v size n xs:=by
 obtain⟨A,c,rfl,h1,h2,hr⟩:=h
 exact⟨A,c,rfl,h1,h2,(hr.below hb).more hb.size⟩
end
theorem PX {w w':World}{base:Nat}{e:TypeId}{size:Nat}{v:Value}{n:Nat}{xs:List Value}(h:w.ownsRow base e size v n xs)(hb:Below w.heap.size w w'):w'.ownsRow base e size v n xs:=by
 refine⟨h.1,?_⟩
 rcases h.2 with h0|⟨g,cap,cur,rfl,hg,hh,r⟩
 ·exact .inl h0
 ·have bh:g<w.heap.size:=by
   rcases bO g w.heap.size with bh|C9
   ·exact bh
   ·rw[OW C9] at hh;cases hh
  exact .inr ⟨g,cap,cur,rfl,hg,(hb.block g bh).trans hh,r⟩
theorem RU {w:World}{base base':Nat}{e:TypeId}{size:Nat}{v:Value}{n:Nat}{xs:List Value}(h:w.ownsRow base e size v n xs)(hb:base'≤base):w.ownsRow base' e size v n xs:=by
 refine⟨h.1,?_⟩
 rcases h.2 with h0|⟨g,cap,cur,hv,hg,r⟩
 ·exact .inl h0
 ·exact .inr ⟨g,cap,cur,hv,by omega,r⟩
def bv(u:UInt8):Value:=.int .u8 (u.toNat:Int)
theorem AJ(s:ByteArray):Lib.strCells s=s.data.toList.map bv:=rfl
structure El(P:Program)(t e:TypeId)(z:Value)(size bytes:Nat):Prop where
 ht:P.underlying t=some (.slice e)
 info:∃i,P.info? e=some i∧i.zero=some z∧i.size=size∧i.bytes=bytes
 hzs:z.cells.size=size
 hsz:0<size
section
variable {P:Program} (w:World)
theorem xM(base:Nat)(t ty e:TypeId)(i:TypeInfo)(size:Nat)(ht:P.underlying t=some (.slice e))(hi:P.info? e=some i)
  (v:Value) (n:Nat) (xs:List Value) (kN:w.ownsRow base e size v n xs) (c:Nat):(Builtin.append_ #[t,t] ty #[v,.slice none 0 c]).run P w=.ok v w:=by
 rcases kN.2 with⟨rfl,rfl⟩|⟨g,cap,cur,rfl,_,_,oo,_⟩
 ·simp[Builtin.append_,run_underlying ht,sizeOf,typeInfo,hi,Builtin.lenOf,Builtin.firstCells]
 ·simp[Builtin.append_,run_underlying ht,sizeOf,typeInfo,hi,Builtin.lenOf,Builtin.firstCells,oo,storeCells]
theorem Cv(base:Nat)(t ty e:TypeId)(i:TypeInfo)(z:Value)(size bytes:Nat)(ht:P.underlying t=some (.slice e))(hi:P.info? e=some i)(hz:i.zero=some z)
  (wo:i.size=size) (Q3:i.bytes=bytes) (hzs:z.cells.size=size) (hsz:0<size)
  (v:Value) (n:Nat) (xs:List Value) (kN:w.ownsRow base e size v n xs)
  (B:Nat) (A:Option Addr) (m c:Nat) (news:List Value) (hr:u7 w B size A m news) (h1:∀u∈news,u.oneCell'=true)
  (Q4:n+m≤maxLen) (gC:(n+m)*bytes≤140737488355328) (ub:base≤w.heap.size):
  ∃v' w',(Builtin.append_ #[t,t] ty #[v,.slice A m c]).run P w=.ok v' w'∧w'.ownsRow base e size v' (n+m) (xs++news)∧w.grownBy w' v.ownBlock∧
   (v'.ownBlock=v.ownBlock∨v'.ownBlock=some w.heap.size):=by
 rcases A with _|ad
 ·have hm:m=0:=by
   rcases rY m with h0|h0
   ·exact h0
   ·obtain⟨ad,h,_⟩:=hr.2 h0
    cases h
  subst hm
  have hn:news=[]:=jR (by simpa using hr.1)
  subst hn
  exact⟨v,w,xM w base t ty e i size ht hi v n xs kN c,by simpa using kN,World.grownBy.refl w _,.inl rfl⟩
 ·have hcells:∀j u,news[j]? =some u→w.cell? (ad.add j)=some u:=by
   intro j u hu
   rcases rY m with h0|h0
   ·subst h0
    have hn:news=[]:=jR (by simpa using hr.1)
    subst hn
    simp at hu
   ·obtain⟨ad',h,_,hc⟩:=hr.2 h0
    injection h with h
    subst h
    exact hc j u hu
  obtain⟨v',w',bm,h2,h3,_,h5⟩:=run_append_own_at (P:=P) w base t ty e i z size bytes ht hi hz wo Q3 hzs hsz v n xs kN ad m c news hr.1 hcells h1 Q4 gC ub
  exact⟨v',w',bm,h2,h3,h5⟩
theorem EB {o:Oper}{a:Act}{K:Act→World→Prop}{Q:Exit→Act→World→Prop}(s x:Operand)(t:TypeId)
  (ho:o.op=.call {callee:=.builtin .append,args:=#[s,x],argTypes:=#[t,t]})
  {e:TypeId} {z:Value} {size bytes:Nat} (el:El P t e z size bytes) (base:Nat)
  (v:Value) (n:Nat) (xs:List Value) (hs:a.eval s=v) (kN:w.ownsRow base e size v n xs)
  (vx:Value) (m:Nat) (news:List Value) (hx:a.eval x=vx) (hr:Sl w vx size m news) (h1:∀u∈news,u.oneCell'=true)
  (gC:(n+m)*bytes≤140737488355328) (Q4:n+m≤140737488355328) (ub:base≤w.heap.size)
  (h:∀v' w',w'.ownsRow base e size v' (n+m) (xs++news)→w.grownBy w' v.ownBlock→(v'.ownBlock=v.ownBlock∨v'.ownBlock=some w.heap.size)→K (a.put o.dst v') w'):o.wp P a w K Q:=by
 obtain⟨i,hi,hz,wo,Q3⟩:=el.info
 obtain⟨A,c,rfl,_,_,hr⟩:=hr
 obtain⟨v',w',bm,h2,h3,h4⟩:=Cv (P:=P) w base t o.type e i z size bytes el.ht hi hz wo Q3 el.hzs el.hsz v n xs kN _ A m c news hr h1 (by unfold maxLen;omega) gC ub
 unfold Oper.wp execOp
 simp only[ho,resolve,invoke,builtin,Sem.run_bind,Sem.run_pure,Result.andThen_ok,Ih,gZ,pN,hs,hx,bm]
 exact h v' w' h2 h3 h4
theorem xA {ops:Array Oper}{rest:List Oper}{o:Oper}{a:Act}{Q:Exit→Act→World→Prop}(hgd:o.guard=none)(s x:Operand)(t:TypeId)
  (ho:o.op=.call {callee:=.builtin .append,args:=#[s,x],argTypes:=#[t,t]})
  {e:TypeId} {z:Value} {size bytes:Nat} (el:El P t e z size bytes) (base:Nat)
  (v:Value) (n:Nat) (xs:List Value) (hs:a.eval s=v) (kN:w.ownsRow base e size v n xs)
  (vx:Value) (m:Nat) (news:List Value) (hx:a.eval x=vx) (hr:Sl w vx size m news) (h1:∀u∈news,u.oneCell'=true)
  (gC:(n+m)*bytes≤140737488355328) (Q4:n+m≤140737488355328) (ub:base≤w.heap.size)
  (h:∀v' w',w'.ownsRow base e size v' (n+m) (xs++news)→w.grownBy w' v.ownBlock→(v'.ownBlock=v.ownBlock∨v'.ownBlock=some w.heap.size)→wpList P ops Q rest (a.put o.dst v') w'):wpList P ops Q (o::rest) a w:=
 wpList_plain hgd fun _ hK=>EB w s x t ho el base v n xs hs kN vx m news hx hr h1 gC Q4 ub fun v' w' h2 h3 h4=>hK _ _ (h v' w' h2 h3 h4)
theorem xB {ops:Array Oper}{rest:List Oper}{o:Oper}{a:Act}{Q:Exit→Act→World→Prop}(hgd:o.guard=none)(s x:Operand)(t:TypeId)
  (ho:o.op=.call {callee:=.builtin .append,args:=#[s,x],argTypes:=#[t,t]})
  {e:TypeId} {z:Value} {size bytes:Nat} (el:El P t e z size bytes) (base:Nat)
  (v:Value) (n:Nat) (xs:List Value) (hs:a.eval s=v) (kN:w.ownsRow base e size v n xs)
  (vx:Value) (m:Nat) (news:List Value) (hx:a.eval x=vx) (hr:Sl w vx size m news) (h1:∀u∈news,u.oneCell'=true)
  (gC:(n+m)*bytes≤140737488355328) (Q4:n+m≤140737488355328) (ub:base≤w.heap.size) (w0:World) (B:Nat) (hB:Below B w0 w) (hBb:B≤base)
  (h:∀v' w',w'.ownsRow base e size v' (n+m) (xs++news)→Below B w0 w'→wpList P ops Q rest (a.put o.dst v') w'):wpList P ops Q (o::rest) a w:=
 xA _ hgd s x t ho el base v n xs hs kN vx m news hx hr h1 gC Q4 ub fun v' w' h2 h3 _=>
  h v' w' h2 (hB.grown h3 (by omega) (fun k hk=>by have:=(kN.lt k hk).1;omega))
end
end
section
inductive E where
 |lit (v:Value)
 |sl (z n:Nat) (xs:List E)
 |any
 deriving Inhabited
inductive cG (w:World) (F:Addr→Prop):E→Value→Prop
 |lit (u:Value) (h:u.oneCell'=true):cG w F (.lit u) u
 |any (v:Value) (h:v.oneCell'=true):cG w F .any v
 |sl (z n:Nat) (xs:List E) (A:Option Addr) (c:Nat) (us:Nat→Value) (hl:xs.length=n*z) (hz:0<z) (oo:n≤c) (nR:c≤maxLen)
   (hA:0<n→∃ad,A=some ad∧ad.block<w.heap.size)
   (hc:∀ad,A=some ad→∀j x,xs[j]? =some x→w.cell? (ad.add j)=some (us j)∧¬F (ad.add j))
   (hr:∀j x,xs[j]? =some x→cG w F x (us j)):cG w F (.sl z n xs) (.slice A n c)
theorem cG.one {w:World}{F:Addr→Prop}{x:E}{v:Value}(h:cG w F x v):v.oneCell'=true:=by
 cases h <;> first|assumption|rfl
theorem cG.mono {w w':World}{F F':Addr→Prop}{x:E}{v:Value}(h:cG w F x v)(hs:w.heap.size≤w'.heap.size)
  (hc:∀p:Addr,p.block<w.heap.size→¬F p→w'.cell? p=w.cell? p) (hF:∀p:Addr,p.block<w.heap.size→F' p→F p):cG w' F' x v:=by
 induction h with
 |lit u h=>exact .lit u h
 |any v h=>exact .any v h
 |sl z n xs A c us hl hz oo nR hA FP hr ih=>
  refine .sl z n xs A c us hl hz oo nR (fun hn=>?_) (fun ad ha j x hx=>?_) ih
  ·obtain⟨ad,e,hb⟩:=hA hn
   exact⟨ad,e,by omega⟩
  ·obtain⟨h1,h2⟩:=FP ad ha j x hx
   have hn:0<n:=by
    have:j<xs.length:=by
     rcases bO j xs.length with h|h
     ·exact h
     ·rw[gP h] at hx;cases hx
    rcases rY n with h0|h0
    ·subst h0;omega
    ·exact h0
   obtain⟨ad',e,hb⟩:=hA hn
   rw[ha] at e
   injection e with e
   subst e
   have pK:(ad.add j).block<w.heap.size:=by rw[iX];exact hb
   exact⟨(hc _ pK h2).trans h1,fun hf=>h2 (hF _ pK hf)⟩
inductive D where
 |e (x:E)
 |own (id z n:Nat) (xs:List E)
 |fu (z n:Nat) (xs:List E)
 |ag (ds:List D)
 |tu (ds:List D)
 |fp (xs:List E) (off:Nat)
 |pt (k off:Nat)
 |ow (k off z n:Nat)
 |gw (k z n:Nat)
 |fn (f:FuncId) (ks:List Nat)
 |opt (b:Bool) (d:D)
 |top
 deriving Inhabited
def D.isE:D→Bool
 | .e _=>true
 | .fu _ _ _=>true
 | .fp _ _=>true
 |_=>false
def D.idsC(m:Nat):D→Bool
 | .e _=>true
 | .fu _ _ _=>true
 | .fp _ _=>true
 | .own id _ _ _=>decide (id<m)
 | .pt k _=>decide (k<m)
 | .ow k _ _ _=>decide (k<m)
 | .gw k _ _=>decide (k<m)
 | .fn _ ks=>ks.all fun k=>decide (k<m)
 | .top=>true
 | .opt _ (.ag ds)=>ds.all D.isE
 | .opt _ d=>d.idsC m
 |_=>false
theorem D.idsC_le {m m':Nat}(h:m≤m'):∀{d:D},d.idsC m=true→d.idsC m'=true
 | .e _,_=>rfl
 | .fu _ _ _,_=>rfl
 | .fp _ _,_=>rfl
 | .top,_=>rfl
 | .own id _ _ _,h'=>by simp only[D.idsC,mu] at h' ⊢;omega
 | .pt k _,h'=>by simp only[D.idsC,mu] at h' ⊢;omega
 | .ow k _ _ _,h'=>by simp only[D.idsC,mu] at h' ⊢;omega
 | .gw k _ _,h'=>by simp only[D.idsC,mu] at h' ⊢;omega
 | .fn _ ks,h'=>by simp only[D.idsC,bx,mu] at h' ⊢;exact fun k hk=>bC (h' k hk) h
 | .opt _ (.ag ds),h'=>h'
 | .opt _ (.e _),_=>rfl
 | .opt _ (.fu _ _ _),_=>rfl
 | .opt _ (.fp _ _),_=>rfl
 | .opt _ .top,_=>rfl
 | .opt _ (.own id z n xs),h'=>D.idsC_le (d:=.own id z n xs) h h'
 | .opt _ (.pt k o),h'=>D.idsC_le (d:=.pt k o) h h'
 | .opt _ (.ow k o z n),h'=>D.idsC_le (d:=.ow k o z n) h h'
 | .opt _ (.gw k z n),h'=>D.idsC_le (d:=.gw k z n) h h'
 | .opt _ (.fn f ks),h'=>D.idsC_le (d:=.fn f ks) h h'
 | .opt _ (.opt b d),h'=>D.idsC_le (d:=.opt b d) h h'
 | .opt _ (.tu _),h'=>by cases h'
 | .ag _,h'=>by cases h'
 | .tu _,h'=>by cases h'
structure Hp where
 vars:List (Nat×List D)
 live:List (Nat×Nat×Nat×TypeId)
 next:Nat
structure Gh where
 μ:Nat→Nat
 τ:Nat→Value
 F:Addr→Prop
inductive aF (hp:Hp) (g:Gh) (w:World):D→Value→Prop
 |e (x:E) (v:Value) (h:cG w g.F x v):aF hp g w (.e x) v
 |own (id z n:Nat) (xs:List E) (v:Value) (h:cG w g.F (.sl z n xs) v) (hid:id<hp.next)
   (ht:∀m e,hp.live.lookup id=some (m,e)→n≤m∧e.1=z∧(n=m→v=g.τ id)):aF hp g w (.own id z n xs) v
 |fu (z n:Nat) (xs:List E) (A:Option Addr) (h:cG w g.F (.sl z n xs) (.slice A n n)):aF hp g w (.fu z n xs) (.slice A n n)
 |ag (ds:List D) (cs:Array Value) (hl:cs.size=ds.length) (h1:∀(j:Nat) (u:Value),cs[j]? =some u→u.oneCell'=true)
   (hr:∀(j:Nat) (d:D) (u:Value),ds[j]? =some d→cs[j]? =some u→aF hp g w d u):aF hp g w (.ag ds) (.agg cs)
 |tu (ds:List D) (cs:Array Value) (hl:cs.size=ds.length)
   (hr:∀(j:Nat) (d:D) (u:Value),ds[j]? =some d→cs[j]? =some u→aF hp g w d u):aF hp g w (.tu ds) (.tuple cs)
 |fp (xs:List E) (off:Nat) (ad:Addr) (hb:ad.block<w.heap.size) (hc:∀j x,xs[j]? =some x→∃u,w.cell? (ad.add j)=some u∧¬g.F (ad.add j)∧cG w g.F x u):
   aF hp g w (.fp xs off) (.pointer (some (ad.add off)))
 |pt (k off:Nat) (hk:k<hp.next):aF hp g w (.pt k off) (.pointer (some ⟨g.μ k,off,none⟩))
 |ow (k off z n c:Nat) (hk:k<hp.next) (oo:n≤c) (nR:c≤maxLen):aF hp g w (.ow k off z n) (.slice (some ⟨g.μ k,off,none⟩) n c)
 |gw (k z n c:Nat) (hk:k<hp.next) (oo:n≤c) (nR:c≤maxLen) (hs:∃(cs:Array Value) (ty:TypeId) (l:Nat×Nat),w.heap[g.μ k]? =some (Obj.cells cs ty l)∧c*z≤cs.size):aF hp g w (.gw k z n) (.slice (some ⟨g.μ k,0,none⟩) n c)
 |fn (f:FuncId) (ks:List Nat) (hk:∀k∈ks,k<hp.next):aF hp g w (.fn f ks) (.func (.func f) #[] (ks.map fun k=>Value.pointer (some ⟨g.μ k,0,none⟩)).toArray)
 |opt (b:Bool) (d:D) (v:Value) (hi:(D.opt b d).idsC hp.next=true) (h:b=true→aF hp g w d v):aF hp g w (.opt b d) v
 |top (v:Value):aF hp g w .top v
def Ns(hp:Hp)(g:Gh)(b:Nat):Prop:=(∀k ds,hp.vars.lookup k=some ds→g.μ k≠b)∧∀id t,hp.live.lookup id=some t→(g.τ id).ownBlock≠some b
def SzB(w w':World)(b:Nat):Prop:=∀(cs:Array Value) (ty:TypeId) (l:Nat×Nat),w.heap[b]? =some (Obj.cells cs ty l)→∃uj:Array Value,w'.heap[b]? =some (Obj.cells uj ty l)∧uj.size=cs.size
theorem SzB.same {w w':World}{b:Nat}(h:b<w.heap.size→w'.heap[b]? =w.heap[b]?):SzB w w' b:=fun cs _ _ hc=>⟨cs,(h (dW.1 hc).1).trans hc,rfl⟩
structure bu(hp:Hp)(g:Gh)(w:World)(hp':Hp)(g':Gh)(w':World):Prop where
 size:w.heap.size≤w'.heap.size
 cell:∀p:Addr,p.block<w.heap.size→¬g.F p→w'.cell? p=w.cell? p
 forb:∀p:Addr,p.block<w.heap.size→g'.F p→g.F p
 next:hp.next≤hp'.next
 μ:∀k,k<hp.next→g'.μ k=g.μ k
 live:∀id,id<hp.next→∀m e,hp'.live.lookup id=some (m,e)→∃m0,hp.live.lookup id=some (m0,e)∧m0≤m∧(m0=m→g'.τ id=g.τ id)
 fr:∀b,b<w.heap.size→Ns hp g b→w'.heap[b]? =w.heap[b]?∧(∀p:Addr,p.block=b→g.F p→g'.F p)∧Ns hp' g' b
 szs:∀b,SzB w w' b
theorem bu.refl(hp:Hp)(g:Gh)(w:World):bu hp g w hp g w:=
 ⟨aC _,fun _ _ _=>rfl,fun _ _ h=>h,aC _,fun _ _=>rfl,fun _ _ m _ h=>⟨m,h,aC _,fun _=>rfl⟩,fun _ _ h=>⟨rfl,fun _ _ h=>h,h⟩,fun _=>.same fun _=>rfl⟩
theorem bu.trans {hp hp' SQ:Hp}{g g' g'':Gh}{w w' w'':World}(h:bu hp g w hp' g' w')(h':bu hp' g' w' SQ g'' w''):bu hp g w SQ g'' w'':=
 ⟨cg h.size h'.size,fun p hb hf=>(h'.cell p (bC hb h.size) (fun hf'=>hf (h.forb p hb hf'))).trans (h.cell p hb hf),
  fun p hb hf=>h.forb p hb (h'.forb p (bC hb h.size) hf),cg h.next h'.next,
  fun k hk=>(h'.μ k (bC hk h.next)).trans (h.μ k hk),
  fun id hid m e hm=>by
   obtain⟨m1,h1,h2,h3⟩:=h'.live id (bC hid h.next) m e hm
   obtain⟨m0,h4,h5,h6⟩:=h.live id hid m1 e h1
   exact⟨m0,h4,cg h5 h2,fun hh=>(h3 (by omega)).trans (h6 (by omega))⟩,
  fun b hb hf=>by
   obtain⟨h1,h2,h3⟩:=h.fr b hb hf
   obtain⟨h4,h5,h6⟩:=h'.fr b (bC hb h.size) h3
   exact⟨h4.trans h1,fun p hp hq=>h5 p hp (h2 p hp hq),h6⟩,
  fun b cs ty l hc=>by
   obtain⟨c1,h1,h2⟩:=h.szs b cs ty l hc
   obtain⟨c2,h3,h4⟩:=h'.szs b c1 ty l h1
   exact⟨c2,h3,h4.trans h2⟩⟩
section
variable {hp hp':Hp} {g g':Gh} {w w':World} {d:D} {v:Value} {x:E}
theorem bu.repE(m:bu hp g w hp' g' w')(h:cG w g.F x v):cG w' g'.F x v:=h.mono m.size m.cell m.forb
theorem aF.mono(h:aF hp g w d v)(m:bu hp g w hp' g' w'):aF hp' g' w' d v:=by
 induction h with
 |e x v h=>exact .e x v (m.repE h)
 |own id z n xs v h hid ht=>
  refine .own id z n xs v (m.repE h) (bC hid m.next) (fun m' e hm=>?_)
  obtain⟨m0,h1,h2,h3⟩:=m.live id hid m' e hm
  obtain⟨h4,h6,h5⟩:=ht m0 e h1
  exact⟨cg h4 h2,h6,fun hh=>(h5 (by omega)).trans (h3 (by omega)).symm⟩
 |fu z n xs A h=>exact .fu z n xs A (m.repE h)
 |ag ds cs hl h1 _ ih=>exact .ag ds cs hl h1 ih
 |tu ds cs hl _ ih=>exact .tu ds cs hl ih
 |fp xs off ad hb hc=>
  refine .fp xs off ad (bC hb m.size) (fun j x hx=>?_)
  obtain⟨u,h1,h2,h3⟩:=hc j x hx
  have pK:(ad.add j).block<w.heap.size:=by rw[iX];exact hb
  exact⟨u,(m.cell _ pK h2).trans h1,fun hf=>h2 (m.forb _ pK hf),m.repE h3⟩
 |pt k off hk=>rw[←m.μ k hk];exact .pt k off (bC hk m.next)
 |ow k off z n c hk h1 h2=>rw[←m.μ k hk];exact .ow k off z n c (bC hk m.next) h1 h2
 |gw k z n c hk h1 h2 hs=>
  obtain⟨cs,ty,l,h3,h4⟩:=hs
  obtain⟨uj,h5,h6⟩:=m.szs _ cs ty l h3
  rw[←m.μ k hk]
  exact .gw k z n c (bC hk m.next) h1 h2 ⟨uj,ty,l,by rw[m.μ k hk];exact h5,by omega⟩
 |fn f ks hk=>
  have:(ks.map fun k=>Value.pointer (some ⟨g.μ k,0,none⟩))=ks.map fun k=>Value.pointer (some ⟨g'.μ k,0,none⟩):=
   sV fun k h=>by rw[m.μ k (hk k h)]
  rw[this]
  exact .fn f ks (fun k h=>bC (hk k h) m.next)
 |opt b d v hi _ ih=>exact .opt b d v (D.idsC_le m.next hi) ih
 |top v=>exact .top v
end
structure HR(B:Nat)(hp:Hp)(g:Gh)(w:World):Prop where
 var:∀k ds,hp.vars.lookup k=some ds→k<hp.next∧B≤g.μ k∧(∀p:Addr,p.block=g.μ k→g.F p)∧
  ∃cs ty,w.heap[g.μ k]? =some (.cells cs ty (0,0))∧ds.length≤cs.size∧∀(j:Nat) (u:Value),cs[j]? =some u→(j<ds.length→u.oneCell'=true)∧∀d,ds[j]? =some d→aF hp g w d u
 inj:∀k k' ds ds',hp.vars.lookup k=some ds→hp.vars.lookup k'=some ds'→g.μ k=g.μ k'→k=k'
 tok:∀id n e,hp.live.lookup id=some (n,e)→id<hp.next∧∃us,0<e.1∧w.ownsRow B e.2 e.1 (g.τ id) n us∧
  ∀b,(g.τ id).ownBlock=some b→(∀p:Addr,p.block=b→n*e.1≤p.off→g.F p)∧∀k ds,hp.vars.lookup k=some ds→g.μ k≠b
 tinj:∀id sr t t' b,hp.live.lookup id=some t→hp.live.lookup sr=some t'→(g.τ id).ownBlock=some b→(g.τ sr).ownBlock=some b→id=sr
 base:B≤w.heap.size
 fits:∀p:Addr,g.F p→p.block<w.heap.size
section
variable {B:Nat} {hp hp':Hp} {g g':Gh} {w w':World}
theorem HR.var_lt(h:HR B hp g w){k:Nat}{ds:List D}(hk:hp.vars.lookup k=some ds):g.μ k<w.heap.size:=by
 obtain⟨_,_,_,cs,ty,hh,_⟩:=h.var k ds hk
 exact (dW.1 hh).1
theorem HR.keep(h:HR B hp g w)(hs:w.heap.size≤w'.heap.size)(hb:∀b,b<w.heap.size→w'.heap[b]? =w.heap[b]?):HR B hp g w':=by
 have m:bu hp g w hp g w':=⟨hs,fun _ hq _=>World.cell?_of_block (hb _ hq),fun _ _ h=>h,aC _,fun _ _=>rfl,fun _ _ m _ h=>⟨m,h,aC _,fun _=>rfl⟩,fun b hq h=>⟨hb b hq,fun _ _ h=>h,h⟩,fun b=>.same (hb b)⟩
 refine⟨fun k ds hk=>?_,h.inj,fun id n e hi=>?_,h.tinj,cg h.base hs,fun p hf=>bC (h.fits p hf) hs⟩
 ·have bh:=h.var_lt hk
  obtain⟨h1,h2,h3,cs,ty,h4,h5,h6⟩:=h.var k ds hk
  exact⟨h1,h2,h3,cs,ty,(hb _ bh).trans h4,h5,fun j u hu=>⟨(h6 j u hu).1,fun d hd=>((h6 j u hu).2 d hd).mono m⟩⟩
 ·obtain⟨h1,us,hz,h2,h3⟩:=h.tok id n e hi
  refine⟨h1,us,hz,⟨h2.1,?_⟩,h3⟩
  rcases h2.2 with h0|⟨b,cap,cur,hv,hB,hh,r⟩
  ·exact .inl h0
  ·exact .inr ⟨b,cap,cur,hv,hB,(hb b (dW.1 hh).1).trans hh,r⟩
theorem bu.keep(hp:Hp)(g:Gh)(hs:w.heap.size≤w'.heap.size)(hb:∀b,b<w.heap.size→w'.heap[b]? =w.heap[b]?):bu hp g w hp g w':=
 ⟨hs,fun _ hq _=>World.cell?_of_block (hb _ hq),fun _ _ h=>h,aC _,fun _ _=>rfl,fun _ _ m _ h=>⟨m,h,aC _,fun _=>rfl⟩,fun b hq h=>⟨hb b hq,fun _ _ h=>h,h⟩,fun b=>.same (hb b)⟩
theorem al {α:Type}{k j:Nat}{x:α}{l:List (Nat×α)}(h:j≠k):((k,x)::l).lookup j=l.lookup j:=by
 rw[If,A7.2 h]
theorem ah {α:Type}{k:Nat}{x:α}{l:List (Nat×α)}:((k,x)::l).lookup k=some x:=by
 rw[If,DZ]
def Hp.var(hp:Hp)(ds:List D):Hp:=⟨(hp.next,ds)::hp.vars,hp.live,hp.next+1⟩
def Gh.var(g:Gh)(k b:Nat):Gh:=⟨fun j=>if j=k then b else g.μ j,g.τ,fun p=>g.F p∨p.block=b⟩
theorem bu.var(hp:Hp)(g:Gh)(w:World)(ds:List D)(o:Obj):bu hp g w (hp.var ds) (g.var hp.next w.heap.size) (w.alloc o):=by
 refine⟨by simp,fun p hp1 _=>World.cell?_alloc_lt w o p hp1,fun p hb hf=>?_,eQ _,fun k hk=>?_,fun _ _ m _ hm=>⟨m,hm,aC _,fun _=>rfl⟩,fun b hb hf=>⟨heap_alloc_old w _ hb,fun _ _ h=>.inl h,fun k ds' hk=>?_,hf.2⟩,fun b=>.same fun h=>heap_alloc_old w _ h⟩
 ·rcases hf with hf|hf
  ·exact hf
  ·omega
 ·show (if k=hp.next then _ else _)=_
  rw[ifn_]
 ·show (if k=hp.next then _ else _)≠_
  by_cases AU:k=hp.next
  ·rw[an AU];omega
  ·rw[az AU]
   exact hf.1 k ds' (by rw[←hk];exact (al AU).symm)
theorem HR.newVar(hr:HR B hp g w)(ds:List D)(cs:Array Value)(ty:TypeId)(hl:ds.length≤cs.size)
  (hc:∀(j:Nat) (u:Value),cs[j]? =some u→(j<ds.length→u.oneCell'=true)∧∀d,ds[j]? =some d→aF hp g w d u):HR B (hp.var ds) (g.var hp.next w.heap.size) (w.alloc (.cells cs ty)):=by
 have m:=bu.var hp g w ds (.cells cs ty)
 have jp:∀b,b<w.heap.size→(w.alloc (.cells cs ty)).heap[b]? =w.heap[b]? :=fun b hb=>heap_alloc_old w _ hb
 have hμ:∀k,k<hp.next→(g.var hp.next w.heap.size).μ k=g.μ k:=m.μ
 refine⟨fun k ds' hk=>?_,fun k k' a b hk pf he=>?_,fun id n e hi=>?_,fun id sr t t' b hi sM he FO=>hr.tinj id sr t t' b hi sM he FO,by simp;have:=hr.base;omega,fun p hf=>?_⟩
 ·by_cases AU:k=hp.next
  ·subst AU
   have:some ds=some ds':=by rw[←hk];exact ah.symm
   injection this with this
   subst this
   refine⟨dH _,by show B≤(if _ then _ else _);rw[an rfl];exact hr.base,fun p hp'=>.inr ?_,cs,ty,?_,hl,fun j u hu=>⟨(hc j u hu).1,fun d hd=>((hc j u hu).2 d hd).mono m⟩⟩
   ·rw[hp'];show (if _ then _ else _)=_;rw[an rfl]
   ·show (w.alloc _).heap[(if _ then _ else _)]? =_
    rw[an rfl]
    exact heap_alloc_new w _
  ·have hk0:hp.vars.lookup k=some ds':=by rw[←hk];exact (al AU).symm
   have bh:=hr.var_lt hk0
   obtain⟨h1,h2,h3,uj,NH,h4,h5,h6⟩:=hr.var k ds' hk0
   rw[hμ k h1]
   exact⟨pZ h1,h2,fun p hp'=>.inl (h3 p hp'),uj,NH,(jp _ bh).trans h4,h5,fun j u hu=>⟨(h6 j u hu).1,fun d hd=>((h6 j u hu).2 d hd).mono m⟩⟩
 ·have look:∀{j:Nat} {a:List D},(hp.var ds).vars.lookup j=some a→j=hp.next∨(j≠hp.next∧hp.vars.lookup j=some a):=by
   intro j a hj
   by_cases z4:j=hp.next
   ·exact .inl z4
   ·exact .inr ⟨z4,by rw[←hj];exact (al z4).symm⟩
  rcases look hk with h1|⟨h1,ni⟩ <;> rcases look pf with h2|⟨h2,lj⟩
  ·omega
  ·have bh:=hr.var_lt lj
   have hn:=(hr.var k' b lj).1
   rw[hμ k' hn,h1] at he
   have:(g.var hp.next w.heap.size).μ hp.next=w.heap.size:=an rfl
   omega
  ·have bh:=hr.var_lt ni
   have hn:=(hr.var k a ni).1
   rw[hμ k hn,h2] at he
   have:(g.var hp.next w.heap.size).μ hp.next=w.heap.size:=an rfl
   omega
  ·rw[hμ k (hr.var k a ni).1,hμ k' (hr.var k' b lj).1] at he
   exact hr.inj k k' a b ni lj he
 ·obtain⟨h1,us,hz,h2,h3⟩:=hr.tok id n e hi
  refine⟨pZ h1,us,hz,PX h2 ((Below.refl w.heap.size w).alloc (aC _) _),fun b hb=>⟨fun p h4 h5=>.inl ((h3 b hb).1 p h4 h5),fun k ds' hk=>?_⟩⟩
  by_cases AU:k=hp.next
  ·subst AU
   show (if _ then _ else _)≠b
   rw[an rfl]
   have:=(h2.lt b hb).2
   omega
  ·have hk0:hp.vars.lookup k=some ds':=by rw[←hk];exact (al AU).symm
   rw[hμ k (hr.var k ds' hk0).1]
   exact (h3 b hb).2 k ds' hk0
 ·simp only[World.size_alloc]
  rcases hf with hf|hf
  ·have:=hr.fits p hf;omega
  ·omega
def Hp.set(hp:Hp)(k:Nat)(ds:List D):Hp:=⟨(k,ds)::hp.vars,hp.live,hp.next⟩
theorem bu.setVar(hr:HR B hp g w){k:Nat}{ds:List D}(hk:hp.vars.lookup k=some ds)(ds':List D)(hs:w'.heap.size=w.heap.size)(ho:∀b,b≠g.μ k→w'.heap[b]? =w.heap[b]?)(hz:SzB w w' (g.μ k)):bu hp g w (hp.set k ds') g w':=by
 refine⟨by omega,fun p hp' hf=>World.cell?_of_block (ho _ fun e=>hf ((hr.var k ds hk).2.2.1 p e)),fun _ _ h=>h,aC _,fun _ _=>rfl,fun _ _ m _ h=>⟨m,h,aC _,fun _=>rfl⟩,fun b hb hf=>⟨ho b fun e=>hf.1 k ds hk e.symm,fun _ _ h=>h,fun j a hj=>?_,hf.2⟩,fun b=>by
  by_cases hb:b=g.μ k
  ·subst hb;exact hz
  ·exact .same fun _=>ho b hb⟩
 by_cases z4:j=k
 ·subst z4;exact hf.1 j ds hk
 ·exact hf.1 j a (by rw[←hj];exact (al z4).symm)
theorem HR.setVar(hr:HR B hp g w){k:Nat}{ds:List D}(hk:hp.vars.lookup k=some ds)(ds':List D)(cs:Array Value)(ty:TypeId)(hs:w'.heap.size=w.heap.size)(ho:∀b,b≠g.μ k→w'.heap[b]? =w.heap[b]?)
  (hn:w'.heap[g.μ k]? =some (.cells cs ty (0,0))) (hl:ds'.length≤cs.size) (hz:SzB w w' (g.μ k)) (hc:∀(j:Nat) (u:Value),cs[j]? =some u→(j<ds'.length→u.oneCell'=true)∧∀d,ds'[j]? =some d→aF hp g w d u):HR B (hp.set k ds') g w':=by
 have m:=bu.setVar hr hk ds' hs ho hz
 have look:∀{j:Nat} {a:List D},(hp.set k ds').vars.lookup j=some a→(j=k∧a=ds')∨(j≠k∧hp.vars.lookup j=some a):=by
  intro j a hj
  by_cases z4:j=k
  ·subst z4
   have:some ds'=some a:=by rw[←hj];exact ah.symm
   injection this with this
   exact .inl ⟨rfl,this.symm⟩
  ·exact .inr ⟨z4,by rw[←hj];exact (al z4).symm⟩
 have GX:∀{j:Nat} {a:List D},(hp.set k ds').vars.lookup j=some a→∃a',hp.vars.lookup j=some a':=by
  intro j a hj
  rcases look hj with⟨rfl,_⟩|⟨_,h⟩
  ·exact⟨_,hk⟩
  ·exact⟨_,h⟩
 refine⟨fun j a hj=>?_,fun j j' a b hj Lf he=>?_,fun id n e hi=>?_,hr.tinj,by have:=hr.base;omega,fun p hf=>by have:=hr.fits p hf;omega⟩
 ·rcases look hj with⟨rfl,rfl⟩|⟨lr,h0⟩
  ·obtain⟨h1,h2,h3,_⟩:=hr.var j ds hk
   exact⟨h1,h2,h3,cs,ty,hn,hl,fun i u hu=>⟨(hc i u hu).1,fun d hd=>((hc i u hu).2 d hd).mono m⟩⟩
  ·obtain⟨h1,h2,h3,uj,NH,h4,h5,h6⟩:=hr.var j a h0
   exact⟨h1,h2,h3,uj,NH,(ho _ fun e=>lr (hr.inj j k a ds h0 hk e)).trans h4,h5,fun i u hu=>⟨(h6 i u hu).1,fun d hd=>((h6 i u hu).2 d hd).mono m⟩⟩
 ·obtain⟨a',ha'⟩:=GX hj
  obtain⟨b',pK⟩:=GX Lf
  exact hr.inj j j' a' b' ha' pK he
 ·obtain⟨h1,us,hz,h2,h3⟩:=hr.tok id n e hi
  refine⟨h1,us,hz,⟨h2.1,?_⟩,fun b hb=>⟨(h3 b hb).1,fun j a hj=>?_⟩⟩
  ·rcases h2.2 with h0|⟨b,cap,cur,hv,hB,hh,r⟩
   ·exact .inl h0
   ·refine .inr ⟨b,cap,cur,hv,hB,(ho b fun e=>?_).trans hh,r⟩
    exact (h3 b (by rw[hv];rfl)).2 k ds hk e.symm
  ·obtain⟨a',ha'⟩:=GX hj
   exact (h3 b hb).2 j a' ha'
def Hp.tok(hp:Hp)(n:Nat)(e:Nat×TypeId):Hp:=⟨hp.vars,(hp.next,n,e)::hp.live,hp.next+1⟩
def Value.tail(v:Value)(n:Nat)(p:Addr):Prop:=∃b,v.ownBlock=some b∧p.block=b∧n≤p.off
def Gh.tok(g:Gh)(id:Nat)(v:Value)(n:Nat):Gh:=⟨g.μ,fun j=>if j=id then v else g.τ j,fun p=>(g.F p∧¬(v.ownBlock=some p.block∧p.off<n))∨Value.tail v n p⟩
theorem bu.tok(hp:Hp)(g:Gh){v:Value}{n m:Nat}{e:Nat×TypeId}(hs:w.heap.size≤w'.heap.size)(hb:∀b,b<w.heap.size→w'.heap[b]? =w.heap[b]?)(hv:∀b,v.ownBlock=some b→w.heap.size≤b):
  bu hp g w (hp.tok n e) (g.tok hp.next v m) w':=by
 refine⟨hs,fun p hp' _=>World.cell?_of_block (hb _ hp'),fun p hpb hf=>?_,eQ _,fun _ _=>rfl,fun id hid k e' hm=>?_,fun b hq hf=>⟨hb b hq,fun p h1 h2=>.inl ⟨h2,fun h=>by have:=hv _ h.1;omega⟩,hf.1,fun id t hi=>?_⟩,fun b=>.same (hb b)⟩
 ·rcases hf with hf|⟨b,h1,h2,_⟩
  ·exact hf.1
  ·have:=hv b h1;omega
 ·refine⟨k,?_,aC _,fun _=>?_⟩
  ·rw[←hm]
   exact (al (show id≠hp.next by omega)).symm
  ·show (if id=hp.next then v else g.τ id)=_
   rw[ifn_]
 ·show (if id=hp.next then v else g.τ id).ownBlock≠_
  by_cases HH:id=hp.next
  ·rw[an HH];intro he;have:=hv _ he;omega
  ·rw[az HH]
   exact hf.2 id t (by rw[←hi];exact (al HH).symm)
theorem HR.newTok(hr:HR B hp g w){v:Value}{n:Nat}{e:Nat×TypeId}{us:List Value}(hz:0<e.1)(hs:w.heap.size≤w'.heap.size)(hb:∀b,b<w.heap.size→w'.heap[b]? =w.heap[b]?)(hv:∀b,v.ownBlock=some b→w.heap.size≤b)
  (ho:w'.ownsRow B e.2 e.1 v n us):HR B (hp.tok n e) (g.tok hp.next v (n*e.1)) w':=by
 have m:bu hp g w (hp.tok n e) (g.tok hp.next v (n*e.1)) w':=bu.tok hp g hs hb hv
 have look:∀{j:Nat} {a:Nat×Nat×TypeId},(hp.tok n e).live.lookup j=some a→(j=hp.next∧a=(n,e))∨(j≠hp.next∧hp.live.lookup j=some a):=by
  intro j a hj
  by_cases z4:j=hp.next
  ·subst z4
   have:some (n,e)=some a:=by rw[←hj];exact ah.symm
   injection this with this
   exact .inl ⟨rfl,this.symm⟩
  ·exact .inr ⟨z4,by rw[←hj];exact (al z4).symm⟩
 have hτ:∀j,j≠hp.next→(g.tok hp.next v (n*e.1)).τ j=g.τ j:=fun j hj=>az hj
 have hτn:(g.tok hp.next v (n*e.1)).τ hp.next=v:=an rfl
 have old:∀{j:Nat} {a:Nat×Nat×TypeId} {b:Nat},hp.live.lookup j=some a→(g.τ j).ownBlock=some b→b<w.heap.size:=by
  intro j a b hj pK
  obtain⟨_,_,_,h2,_⟩:=hr.tok j a.1 a.2 hj
  exact (h2.lt b pK).2
 have stay:∀p:Addr,p.block<w.heap.size→g.F p→(g.tok hp.next v (n*e.1)).F p:=fun p hp' hf=>.inl ⟨hf,fun h=>by have:=hv _ h.1;omega⟩
 refine⟨fun k ds hk=>?_,hr.inj,fun id n' e' hi=>?_,fun id sr t t' b hi sM he FO=>?_,cg hr.base hs,fun p hf=>?_⟩
 ·have bh:=hr.var_lt (k:=k) (ds:=ds) hk
  obtain⟨h1,h2,h3,uj,NH,h4,h5,h6⟩:=hr.var k ds hk
  exact⟨pZ h1,h2,fun p hp'=>stay p (by rw[hp'];exact bh) (h3 p hp'),uj,NH,(hb _ bh).trans h4,h5,fun j u hu=>⟨(h6 j u hu).1,fun d hd=>((h6 j u hu).2 d hd).mono m⟩⟩
 ·rcases look hi with⟨rfl,h⟩|⟨lr,h0⟩
  ·injection h with ha pK
   subst ha;subst pK
   rw[hτn]
   exact⟨dH _,us,hz,ho,fun b pK=>⟨fun p h4 h5=>.inr ⟨b,pK,h4,h5⟩,fun k ds hk=>by
    have h6:=hr.var_lt (k:=k) (ds:=ds) hk
    have h7:=hv b pK
    show g.μ k≠b
    omega⟩⟩
  ·obtain⟨h1,vd,QU,h2,h3⟩:=hr.tok id n' e' h0
   rw[hτ id lr]
   refine⟨pZ h1,vd,QU,⟨h2.1,?_⟩,fun b pK=>⟨fun p h4 h5=>stay p (by have:=old h0 pK;omega) ((h3 b pK).1 p h4 h5),(h3 b pK).2⟩⟩
   rcases h2.2 with h0|⟨b,cap,cur,vk,hB,hh,r⟩
   ·exact .inl h0
   ·exact .inr ⟨b,cap,cur,vk,hB,(hb b (dW.1 hh).1).trans hh,r⟩
 ·rcases look hi with⟨rfl,_⟩|⟨lr,h0⟩ <;> rcases look sM with⟨rfl,_⟩|⟨SV,IZ⟩
  ·rfl
  ·rw[hτn] at he
   rw[hτ _ SV] at FO
   have h1:=old IZ FO
   have h2:=hv b he
   omega
  ·rw[hτn] at FO
   rw[hτ _ lr] at he
   have h1:=old h0 he
   have h2:=hv b FO
   omega
  ·rw[hτ _ lr] at he
   rw[hτ _ SV] at FO
   exact hr.tinj id sr t t' b h0 IZ he FO
 ·rcases hf with hf|⟨b,h1,h2,_⟩
  ·exact bC (hr.fits p hf.1) hs
  ·rw[h2]
   exact (ho.lt b h1).2
theorem Gh.tok_keep(g:Gh)(id:Nat){v:Value}{n:Nat}(hv:∀b,v.ownBlock=some b→B≤b)(p:Addr)(hp:p.block<B)(hf:g.F p):(g.tok id v n).F p:=.inl ⟨hf,fun h=>by have:=hv _ h.1;omega⟩
end
end
section
section
variable {P:Program}
inductive AE (w:World) (v:Value) (m:Nat) (w':World) (v':Value):Prop
 |same (h0:m=0) (hw:w'=w) (hv:v'=v)
 |place (b:Nat) (h0:0<m) (hv:v.ownBlock=some b) (vk:v'.ownBlock=some b) (hg:w.grownBy w' (some b)) (hs:w'.heap.size=w.heap.size) (hz:SzB w w' b)
 |fresh (h0:0<m) (hg:w.grownBy w' none) (vk:v'.ownBlock=some w.heap.size)
theorem SzB.row {w:World}{b:Nat}{cur new:Array Value}{ty:TypeId}{l:Nat×Nat}(hg:w.heap[b]? =some (.cells cur ty l))(h:new.size=cur.size):SzB w (w.setRow b new) b:=fun cs NH l' hc=>by
 rw[hg] at hc
 injection hc with hc
 injection hc with h1 h2 h3
 subst h1;subst h2;subst h3
 exact⟨new,setRow_heap w b cur new ty l hg,h⟩
theorem Cu(w:World)(base:Nat)(t ty e:TypeId)(i:TypeInfo)(z:Value)(size bytes:Nat)(ht:P.underlying t=some (.slice e))(hi:P.info? e=some i)(hz:i.zero=some z)
  (wo:i.size=size) (Q3:i.bytes=bytes) (hzs:z.cells.size=size) (hsz:0<size)
  (v:Value) (n:Nat) (xs:List Value) (kN:w.ownsRow base e size v n xs)
  (A:Option Addr) (m c:Nat) (news:List Value) (hl:news.length=m*size) (hA:0<m→∃a,A=some a) (qG:∀a,A=some a→∀j u,news[j]? =some u→w.cell? (a.add j)=some u) (h1:∀u∈news,u.oneCell'=true)
  (Q4:n+m≤maxLen) (gC:(n+m)*bytes≤140737488355328) (ub:base≤w.heap.size):
  ∃v' w',(Builtin.append_ #[t,t] ty #[v,.slice A m c]).run P w=.ok v' w'∧w'.ownsRow base e size v' (n+m) (xs++news)∧AE w v m w' v':=by
 subst wo
 subst Q3
 have hsmall:n+m≤9223372036854775807:=by simp only[maxLen] at Q4;omega
 have hlen:(xs++news).length=(n+m)*i.size:=by rw[cN,kN.1,hl,aX]
 by_cases hm:m=0
 ·subst hm
  have hn:news=[]:=jR (by simpa using hl)
  subst hn
  refine⟨v,w,?_,by simpa using kN,.same rfl rfl rfl⟩
  rcases kN.2 with⟨rfl,rfl⟩|⟨g,cap,cur,rfl,hbg,hg,oo,nR,q9,CZ⟩
  ·cases A <;> simp[Builtin.append_,run_underlying ht,sizeOf,typeInfo,hi,Builtin.lenOf,Builtin.firstCells,loadCells,loadCellsFrom]
  ·cases A <;> simp[Builtin.append_,run_underlying ht,sizeOf,typeInfo,hi,Builtin.lenOf,Builtin.firstCells,loadCells,loadCellsFrom,oo,storeCells]
 ·have hmp:0<m:=by omega
  obtain⟨a,rfl⟩:=hA hmp
  have A0:=qG a rfl
  have grown:∀(old:Nat),old<n+m→
    (w.drew.alloc (.cells (xs.toArray++news.toArray++Builtin.zeroCells z.cells (grownCap w (n+m) old e - (n+m))) e)).ownsRow base e i.size
     (.slice (some ⟨w.heap.size,0,none⟩) (n+m) (grownCap w (n+m) old e)) (n+m) (xs++news)∧
    w.grownBy (w.drew.alloc (.cells (xs.toArray++news.toArray++Builtin.zeroCells z.cells (grownCap w (n+m) old e - (n+m))) e)) none:=by
   intro old ho
   have C9:=grownCap_ge w (n+m) old e
   have nR:grownCap w (n+m) old e≤maxLen:=grownCap_le_maxLen w (n+m) old e Q4
   refine⟨⟨hlen,.inr ⟨w.heap.size,_,_,rfl,ub,heap_alloc_new w.drew _,C9,nR,?_,?_⟩⟩,⟨rfl,rfl,rfl,by simp,fun k hk _=>heap_alloc_old w.drew _ hk⟩⟩
   ·simp only[DI,my,size_zeroCells,hzs,kN.1,hl,←aX]
    congr 1
    omega
   ·simp only[Ig,bP]
    rw[←bP,←hlen]
    exact sU
  rcases kN.2 with⟨rfl,rfl⟩|⟨g,cap,cur,rfl,hbg,hg,oo,nR,q9,CZ⟩
  ·have hx:xs=[]:=jR (by simpa using kN.1)
   subst hx
   have hr:=run_append_nil (P:=P) w t ty e i z ht hi hz a m c news hl A0 (by omega) (by omega) (by have hb:=gC;simp only[cj] at hb;omega)
   have FM:=grown 0 (by omega)
   simp only[cj,mm,Array.empty_append] at FM ⊢
   exact⟨_,_,hr,FM.1,.fresh hmp FM.2 rfl⟩
  ·by_cases ua:n+m≤cap
   ·have E6:n*i.size+news.length≤cur.size:=by rw[hl,q9,←aX];exact bY _ ua
    have hr:=run_append_room (P:=P) w t ty e i ht hi g n cap cur hg a m c news hl A0 h1 ua E6
    refine⟨_,_,hr,⟨hlen,.inr ⟨g,cap,_,rfl,hbg,setRow_heap w g cur _ e _ hg,ua,nR,?_,?_⟩⟩,.place g hmp rfl rfl ⟨rfl,rfl,rfl,by simp,fun k _ hk=>setRow_other w g k _ (fun e=>hk (by rw[e]))⟩ (by simp) (SzB.row hg ?_)⟩
    ·simp only[my,cN,cz,fZ,dY]
     omega
    ·rw[CZ,←hlen]
     exact sU
    ·simp only[my,cN,cz,fZ,dY]
     omega
   ·have holds:∀j u,xs[j]? =some u→w.cell? ((⟨g,0,none⟩:Addr).add j)=some u:=kN.cells (g:=g) rfl
    have hr:=run_append_grow (P:=P) w t ty e i z ht hi hz ⟨g,0,none⟩ n cap xs kN.1 holds a m c news hl A0 (by omega) (by omega) (growslice_fits (by omega) gC)
    have FM:=grown cap (by omega)
    exact⟨_,_,hr,FM.1,.fresh hmp FM.2 rfl⟩
theorem wJ(w:World)(base:Nat)(t u ty e:TypeId)(i:TypeInfo)(ht:P.underlying t=some (.slice e))(hu:P.underlying u=some .string)(hi:P.info? e=some i)(hz:i.zero=some (.int .u8 0))
  (wo:i.size=1) (Q3:i.bytes=1) (v:Value) (n:Nat) (xs:List Value) (kN:w.ownsRow base e 1 v n xs) (s:ByteArray)
  (Q4:n+s.size≤maxLen) (gC:n+s.size≤140737488355328) (ub:base≤w.heap.size):
  ∃v' w',(Builtin.append_ #[t,u] ty #[v,.string s]).run P w=.ok v' w'∧w'.ownsRow base e 1 v' (n+s.size) (xs++Lib.strCells s)∧AE w v s.size w' v':=by
 have hsmall:n+s.size≤9223372036854775807:=by simp only[maxLen] at Q4;omega
 have zV:xs.length=n:=by simpa using kN.1
 have hlen:(xs++Lib.strCells s).length=(n+s.size)*1:=by rw[cN,zV,Lib.strCells_length,si]
 have grown:∀(old:Nat),old<n+s.size→
   (w.drew.alloc (.cells (xs.toArray++(Lib.strCells s).toArray++Builtin.zeroCells (Value.int .u8 0).cells (grownCap w (n+s.size) old e - (n+s.size))) e)).ownsRow base e 1
    (.slice (some ⟨w.heap.size,0,none⟩) (n+s.size) (grownCap w (n+s.size) old e)) (n+s.size) (xs++Lib.strCells s)∧
   w.grownBy (w.drew.alloc (.cells (xs.toArray++(Lib.strCells s).toArray++Builtin.zeroCells (Value.int .u8 0).cells (grownCap w (n+s.size) old e - (n+s.size))) e)) none:=by
  intro old ho
  have C9:=grownCap_ge w (n+s.size) old e
  have nR:grownCap w (n+s.size) old e≤maxLen:=grownCap_le_maxLen w (n+s.size) old e Q4
  refine⟨⟨hlen,.inr ⟨w.heap.size,_,_,rfl,ub,heap_alloc_new w.drew _,C9,nR,?_,?_⟩⟩,⟨rfl,rfl,rfl,by simp,fun k hk _=>heap_alloc_old w.drew _ hk⟩⟩
  ·have L1:(Value.int IntKind.u8 0).cells.size=1:=rfl
   simp only[DI,my,size_zeroCells,L1,zV,Lib.strCells_length]
   omega
  ·simp only[Ig,bP]
   rw[←bP,←hlen]
   exact sU
 rcases kN.2 with⟨rfl,rfl⟩|⟨g,cap,cur,rfl,hbg,hg,oo,nR,q9,CZ⟩
 ·have hx:xs=[]:=jR zV
  subst hx
  by_cases hm:s.size=0
  ·have hn:Lib.strCells s=[]:=jR (by rw[Lib.strCells_length];exact hm)
   refine⟨.slice none 0 0,w,?_,by rw[hm,hn];exact World.ownsRow_nil w base e 1,.same hm rfl rfl⟩
   have hf:=Lib.run_firstCells_string (P:=P) w 1 s
   rw[hm] at hf
   simp[Builtin.append_,run_underlying ht,run_underlying hu,sizeOf,typeInfo,hi,wo,Builtin.lenOf,hm,hf]
  ·have hr:=run_append_nil_string (P:=P) w t u ty e i (.int .u8 0) ht hu hi hz s (by omega) (by omega) (by rw[Q3];omega)
   have FM:=grown 0 (by omega)
   simp only[cj,mm,Array.empty_append] at FM ⊢
   have e1:(s.data.map fun b=>Value.int .u8 b.toNat)=(Lib.strCells s).toArray:=by
    apply Array.ext'
    simp[Lib.strCells]
   rw[e1] at hr
   exact⟨_,_,hr,FM.1,.fresh (by omega) FM.2 rfl⟩
 ·by_cases hm:s.size=0
  ·have hn:Lib.strCells s=[]:=jR (by rw[Lib.strCells_length];exact hm)
   refine⟨_,w,?_,by rw[hm,hn,pY];exact kN,.same hm rfl rfl⟩
   have hf:=Lib.run_firstCells_string (P:=P) w 1 s
   rw[hm,hn] at hf
   simp[Builtin.append_,run_underlying ht,run_underlying hu,sizeOf,typeInfo,hi,wo,Builtin.lenOf,hm,hf,oo,storeCells]
  by_cases ua:n+s.size≤cap
  ·have hcs':cur.size=cap:=by simpa using q9
   have hr:=Lib.run_append_room_string (P:=P) w t u ty e i ht hu hi wo g n cap cur hg s ua (by omega)
   refine⟨_,_,hr,⟨hlen,.inr ⟨g,cap,_,rfl,hbg,setRow_heap w g cur _ e _ hg,ua,nR,?_,?_⟩⟩,.place g (by omega) rfl rfl ⟨rfl,rfl,rfl,by simp,fun k _ hk=>setRow_other w g k _ (fun e=>hk (by rw[e]))⟩ (by simp) (SzB.row hg ?_)⟩
   ·simp only[my,cN,cz,fZ,dY,Lib.strCells_length]
    omega
   ·have L8:cur.toList.take n=xs:=by simpa using CZ
    rw[L8,←hlen]
    exact sU
   ·simp only[my,cN,cz,fZ,dY,Lib.strCells_length]
    omega
  ·have holds:∀j u,xs[j]? =some u→w.cell? ((⟨g,0,none⟩:Addr).add j)=some u:=kN.cells (g:=g) rfl
   have hr:=Lib.run_append_grow_string (P:=P) w t u ty e i (.int .u8 0) ht hu hi hz ⟨g,0,none⟩ n cap xs (by rw[wo];simpa using zV) holds s (by omega) (by omega) (by rw[Q3];exact growslice_fits (by omega) (by omega))
   have FM:=grown cap (by omega)
   exact⟨_,_,hr,FM.1,.fresh (by omega) FM.2 rfl⟩
end
section
variable {B:Nat} {hp:Hp} {g:Gh} {w w':World}
def Hp.app(hp:Hp)(id n:Nat)(e:Nat×TypeId):Hp:=⟨hp.vars,(id,n,e)::hp.live,hp.next⟩
theorem AE.size {v v':Value}{m:Nat}(h:AE w v m w' v'):w.heap.size≤w'.heap.size:=by
 cases h with
 |same _ hw _=>rw[hw];exact aC _
 |place _ _ _ _ hg _ _=>exact hg.size
 |fresh _ hg _=>exact hg.size
theorem AE.szs {v v':Value}{m:Nat}(h:AE w v m w' v')(b:Nat):SzB w w' b:=by
 cases h with
 |same _ hw _=>rw[hw];exact .same fun _=>rfl
 |place b' _ _ _ hg _ hz=>
  by_cases hb:b=b'
  ·subst hb;exact hz
  ·exact .same fun h=>hg.block b h (fun e=>hb (by injection e))
 |fresh _ hg _=>exact .same fun h=>hg.block b h (by simp)
theorem LF {e:TypeId}{z n m b:Nat}{v v':Value}{xs news:List Value}(h:w.ownsRow B e z v n xs)(h':w'.ownsRow B e z v' (n+m) (xs++news))(hb:v.ownBlock=some b)(pK:v'.ownBlock=some b)(p:Addr)(hp:p.block=b)(ho:p.off<n*z):
  w'.cell? p=w.cell? p:=by
 rcases h.2 with⟨rfl,_⟩|⟨g,cap,cur,rfl,_,hh,_,_,_,ht⟩
 ·cases hb
 rcases h'.2 with⟨rfl,_⟩|⟨g',cap',cur',rfl,_,S4,_,_,_,L8⟩
 ·cases pK
 obtain rfl:g=b:=by simpa[Value.ownBlock] using hb
 obtain rfl:g'=g:=by simpa[Value.ownBlock] using pK
 subst hp
 have e1:cur[p.off]? =xs[p.off]? :=by
  rw[←ht,fY,an ho,n8]
 have e2:cur'[p.off]? =xs[p.off]? :=by
  have:(xs++news)[p.off]? =xs[p.off]? :=uQ (by rw[h.1];exact ho)
  rw[←this,←L8,fY,an (bC ho (bY _ (oY _ _))),n8]
 simp only[World.cell?,hh,S4,e1,e2]
theorem bu.app {id n m:Nat}{e:Nat×TypeId}{v':Value}{xs news:List Value}(hi:hp.live.lookup id=some (n,e))(ho:w.ownsRow B e.2 e.1 (g.τ id) n xs)
  (hF:∀b,(g.τ id).ownBlock=some b→∀p:Addr,p.block=b→n*e.1≤p.off→g.F p)
  (mM:w'.ownsRow B e.2 e.1 v' (n+m) (xs++news)) (ha:AE w (g.τ id) m w' v'):bu hp g w (hp.app id (n+m) e) (g.tok id v' ((n+m)*e.1)) w':=by
 refine⟨ha.size,fun p hpb hf=>?_,fun p hpb hf=>?_,aC _,fun _ _=>rfl,fun j hj k e' hm=>?_,fun b hb hf=>?_,fun b=>ha.szs b⟩
 ·cases ha with
  |same _ hw _=>rw[hw]
  |place b _ hv vk hg _ _=>
   by_cases hb:p.block=b
   ·refine LF ho mM hv vk p hb ?_
    rcases bO p.off (n*e.1) with h|h
    ·exact h
    ·exact absurd (hF b hv p hb h) hf
   ·exact World.cell?_of_block (hg.block _ hpb (fun e=>hb (by injection e)))
  |fresh _ hg _=>exact World.cell?_of_block (hg.block _ hpb (by simp))
 ·rcases hf with hf|⟨b,h1,h2,h3⟩
  ·exact hf.1
  ·cases ha with
   |same h0 _ hv=>
    subst h0
    rw[hv] at h1
    exact hF b h1 p h2 h3
   |place b' _ hv vk _ _ _=>
    obtain rfl:b'=b:=by rw[vk] at h1;injection h1
    exact hF b' hv p h2 (cg (bY _ (oY _ _)) h3)
   |fresh _ _ vk=>
    rw[vk] at h1
    injection h1 with h1
    omega
 ·by_cases hjd:j=id
  ·subst hjd
   have:some (n+m,e)=some (k,e'):=by rw[←hm];exact ah.symm
   injection this with this
   injection this with h1 h2
   subst h1;subst h2
   refine⟨n,hi,oY _ _,fun h=>?_⟩
   have h0:m=0:=by omega
   show (if j=j then v' else g.τ j)=_
   rw[an rfl]
   cases ha with
   |same _ _ hv=>exact hv
   |place _ h _ _ _ _ _=>omega
   |fresh h _ _=>omega
  ·refine⟨k,?_,aC _,fun _=>?_⟩
   ·rw[←hm]
    exact (al hjd).symm
   ·show (if j=id then v' else g.τ j)=_
    rw[az hjd]
 ·have lr:=hf.2 id _ hi
  have hvb:v'.ownBlock≠some b:=by
   cases ha with
   |same _ _ hv=>rw[hv];exact lr
   |place b' _ hv vk _ _ _=>rw[vk];intro he;exact lr (by rw[hv];exact he)
   |fresh _ _ vk=>rw[vk];intro he;injection he with he;omega
  refine⟨?_,fun p h1 h2=>.inl ⟨h2,fun h=>hvb (by rw[h.1,h1])⟩,hf.1,fun j t hj=>?_⟩
  ·cases ha with
   |same _ hw _=>rw[hw]
   |place b' _ hv vk hg _ _=>exact hg.block _ hb (fun e=>lr (by rw[hv];injection e with e;rw[e]))
   |fresh _ hg _=>exact hg.block _ hb (by simp)
  ·show (if j=id then v' else g.τ j).ownBlock≠_
   by_cases hjd:j=id
   ·rw[an hjd];exact hvb
   ·rw[az hjd]
    exact hf.2 j t (by rw[←hj];exact (al hjd).symm)
theorem HR.app(hr:HR B hp g w){id n m:Nat}{e:Nat×TypeId}{v':Value}{xs news:List Value}(hz:0<e.1)(hi:hp.live.lookup id=some (n,e))(ho:w.ownsRow B e.2 e.1 (g.τ id) n xs)
  (hF:∀b,(g.τ id).ownBlock=some b→∀p:Addr,p.block=b→n*e.1≤p.off→g.F p)
  (mM:w'.ownsRow B e.2 e.1 v' (n+m) (xs++news)) (ha:AE w (g.τ id) m w' v'):HR B (hp.app id (n+m) e) (g.tok id v' ((n+m)*e.1)) w':=by
 have mo:=bu.app hi ho hF mM ha
 have hs:=ha.size
 have look:∀{j:Nat} {a:Nat×Nat×TypeId},(hp.app id (n+m) e).live.lookup j=some a→(j=id∧a=(n+m,e))∨(j≠id∧hp.live.lookup j=some a):=by
  intro j a hj
  by_cases z4:j=id
  ·subst z4
   have:some (n+m,e)=some a:=by rw[←hj];exact ah.symm
   injection this with this
   exact .inl ⟨rfl,this.symm⟩
  ·exact .inr ⟨z4,by rw[←hj];exact (al z4).symm⟩
 have hτ:∀j,j≠id→(g.tok id v' ((n+m)*e.1)).τ j=g.τ j:=fun j hj=>az hj
 have hτn:(g.tok id v' ((n+m)*e.1)).τ id=v':=an rfl
 -- a block that is not the row's is aS it was
 have keep:∀b,b<w.heap.size→(g.τ id).ownBlock≠some b→w'.heap[b]? =w.heap[b]? :=by
  intro b hb lr
  cases ha with
  |same _ hw _=>rw[hw]
  |place b' _ hv _ hg _ _=>exact hg.block b hb (fun e=>lr (by rw[hv,←e]))
  |fresh _ hg _=>exact hg.block b hb (by simp)
 have newb:∀b,v'.ownBlock=some b→(g.τ id).ownBlock=some b∨w.heap.size≤b:=by
  intro b hb
  cases ha with
  |same _ _ hv=>rw[hv] at hb;exact .inl hb
  |place b' _ hv vk _ _ _=>rw[vk] at hb;rw[hv];exact .inl hb
  |fresh _ _ vk=>rw[vk] at hb;injection hb with hb;exact .inr (by omega)
 obtain⟨hid,_,_,_,SH⟩:=hr.tok id n e hi
 have stay:∀p:Addr,p.block<w.heap.size→(g.τ id).ownBlock≠some p.block→g.F p→(g.tok id v' ((n+m)*e.1)).F p:=fun p hp' lr hf=>.inl ⟨hf,fun h=>by
  rcases newb _ h.1 with h|h
  ·exact lr h
  ·omega⟩
 refine⟨fun k ds hk=>?_,hr.inj,fun j n' e' hj=>?_,fun j j' t t' b hj Lf he FO=>?_,cg hr.base hs,fun p hf=>?_⟩
 ·have bh:=hr.var_lt (k:=k) (ds:=ds) hk
  obtain⟨h1,h2,h3,uj,NH,h4,h5,h6⟩:=hr.var k ds hk
  exact⟨h1,h2,fun p hp'=>stay p (by rw[hp'];exact bh) (fun e=>(SH _ e).2 k ds hk hp'.symm) (h3 p hp'),uj,NH,(keep _ bh fun e=>(SH _ e).2 k ds hk rfl).trans h4,h5,fun j u hu=>⟨(h6 j u hu).1,fun d hd=>((h6 j u hu).2 d hd).mono mo⟩⟩
 ·rcases look hj with⟨rfl,h⟩|⟨lr,h0⟩
  ·injection h with ha1 fy
   subst ha1;subst fy
   rw[hτn]
   refine⟨hid,_,hz,mM,fun b hb=>⟨fun p h4 h5=>.inr ⟨b,hb,h4,h5⟩,fun k ds hk=>?_⟩⟩
   rcases newb b hb with h|h
   ·exact (SH b h).2 k ds hk
   ·have:=hr.var_lt (k:=k) (ds:=ds) hk
    show g.μ k≠b
    omega
  ·obtain⟨h1,vd,QU,h2,h3⟩:=hr.tok j n' e' h0
   rw[hτ j lr]
   refine⟨h1,vd,QU,⟨h2.1,?_⟩,fun b hb=>⟨fun p h4 h5=>stay p (by rw[h4];exact (h2.lt b hb).2) (fun e=>lr (hr.tinj j id _ _ b h0 hi hb (by rw[e,h4]))) ((h3 b hb).1 p h4 h5),(h3 b hb).2⟩⟩
   rcases h2.2 with IZ|⟨b,cap,cur,vk,hB,hh,r⟩
   ·exact .inl IZ
   ·refine .inr ⟨b,cap,cur,vk,hB,(keep b (dW.1 hh).1 fun e=>?_).trans hh,r⟩
    exact lr (hr.tinj j id _ _ b h0 hi (by rw[vk];rfl) e)
 ·have old:∀{j:Nat} {a:Nat×Nat×TypeId} {b:Nat},hp.live.lookup j=some a→(g.τ j).ownBlock=some b→b<w.heap.size:=by
   intro j a b hj pK
   obtain⟨_,_,_,h2,_⟩:=hr.tok j a.1 a.2 hj
   exact (h2.lt b pK).2
  rcases look hj with⟨rfl,_⟩|⟨lr,h0⟩ <;> rcases look Lf with⟨rfl,_⟩|⟨SV,IZ⟩
  ·rfl
  ·rw[hτn] at he
   rw[hτ _ SV] at FO
   rcases newb b he with h|h
   ·exact hr.tinj _ _ _ _ b hi IZ h FO
   ·have:=old IZ FO
    omega
  ·rw[hτn] at FO
   rw[hτ _ lr] at he
   rcases newb b FO with h|h
   ·exact hr.tinj _ _ _ _ b h0 hi he h
   ·have:=old h0 he
    omega
  ·rw[hτ _ lr] at he
   rw[hτ _ SV] at FO
   exact hr.tinj j j' t t' b h0 IZ he FO
 ·rcases hf with hf|⟨b,h1,h2,_⟩
  ·exact bC (hr.fits p hf.1) hs
  ·rw[h2]
   exact (mM.lt b h1).2
end
end
section
inductive Ty where
 |int (k:IntKind)|str|bool|slice (e:TypeId)|struct (fs:List (Nat×TypeId))|arr (n:Nat) (e:TypeId)|other
def Ty.of:TypeDesc→Ty
 | .int k=>.int k
 | .string=>.str
 | .bool=>.bool
 | .slice e=>.slice e
 | .struct fs=>.struct (fs.toList.map fun f=>(f.offset,f.type))
 | .array n e=>.arr n e
 |_=>.other
def Ty.agg:Ty→Bool
 | .struct _| .arr _ _=>true
 |_=>false
def _root_.Go.Value.isAggV:Value→Bool
 | .agg _=>true
 |_=>false
structure TyE where
 ty:Ty
 size:Nat
 bytes:Nat
 zero:List Value
def TOk(P:Program)(tb:TypeId→Option TyE):Prop:=∀t i,tb t=some i→
 (P.underlying t).map Ty.of=some i.ty∧(P.info? t).map (fun f=>(f.size,f.bytes,f.zero.map fun v=>(v.cells.toList,v.isAggV)))=some (i.size,i.bytes,some (i.zero,i.ty.agg))∧i.zero.length=i.size∧i.zero.all Value.oneCell'=true
section
variable {P:Program} {tb:TypeId→Option TyE}
theorem TOk.und(tok:TOk P tb){t:TypeId}{i:TyE}(h:tb t=some i):∃d,P.underlying t=some d∧Ty.of d=i.ty:=by
 obtain⟨h1,_⟩:=tok t i h
 cases hd:P.underlying t with
 |none=>simp[hd] at h1
 |some d=>exact⟨d,rfl,by simpa[hd] using h1⟩
theorem TOk.inf(tok:TOk P tb){t:TypeId}{i:TyE}(h:tb t=some i):∃f z,P.info? t=some f∧f.size=i.size∧f.bytes=i.bytes∧f.zero=some z∧z.cells.toList=i.zero∧z.isAggV=i.ty.agg:=by
 obtain⟨_,h1,_⟩:=tok t i h
 cases hd:P.info? t with
 |none=>simp[hd] at h1
 |some f=>
  simp only[hd,nr,nq,Prod.mk.injEq] at h1
  obtain⟨e1,e2,e3⟩:=h1
  cases hz:f.zero with
  |none=>simp[hz] at e3
  |some z=>
   simp only[hz,nr,nq,Prod.mk.injEq] at e3
   exact⟨f,z,rfl,e1,e2,hz,e3.1,e3.2⟩
theorem TOk.slice(tok:TOk P tb){t e:TypeId}{i:TyE}(h:tb t=some i)(hs:i.ty=.slice e):P.underlying t=some (.slice e):=by
 obtain⟨d,h1,h2⟩:=tok.und h
 rw[hs] at h2
 cases d <;> simp[Ty.of] at h2
 rw[h1,h2]
theorem TOk.str(tok:TOk P tb){t:TypeId}{i:TyE}(h:tb t=some i)(hs:i.ty=.str):P.underlying t=some .string:=by
 obtain⟨d,h1,h2⟩:=tok.und h
 rw[hs] at h2
 cases d <;> simp[Ty.of] at h2
 exact h1
theorem TOk.int(tok:TOk P tb){t:TypeId}{i:TyE}{k:IntKind}(h:tb t=some i)(hs:i.ty=.int k):P.underlying t=some (.int k):=by
 obtain⟨d,h1,h2⟩:=tok.und h
 rw[hs] at h2
 cases d <;> simp[Ty.of] at h2
 rw[h1,h2]
theorem TOk.arr(tok:TOk P tb){t e:TypeId}{n:Nat}{i:TyE}(h:tb t=some i)(hs:i.ty=.arr n e):P.underlying t=some (.array n e):=by
 obtain⟨d,h1,h2⟩:=tok.und h
 rw[hs] at h2
 cases d <;> simp[Ty.of] at h2
 rw[h1,h2.1,h2.2]
theorem TOk.struct(tok:TOk P tb){t:TypeId}{fs:List (Nat×TypeId)}{i:TyE}(h:tb t=some i)(hs:i.ty=.struct fs):∃fields:Array Field,P.underlying t=some (.struct fields)∧fields.toList.map (fun f=>(f.offset,f.type))=fs:=by
 obtain⟨d,h1,h2⟩:=tok.und h
 rw[hs] at h2
 cases d <;> simp[Ty.of] at h2
 exact⟨_,h1,h2⟩
theorem TOk.run_sizeOf(tok:TOk P tb){t:TypeId}{i:TyE}(h:tb t=some i)(w:World):(sizeOf t).run P w=.ok i.size w:=by
 obtain⟨f,z,h1,h2,_⟩:=tok.inf h
 simp[sizeOf,typeInfo,h1,h2]
theorem TOk.run_zero(tok:TOk P tb){t:TypeId}{i:TyE}(h:tb t=some i)(w:World):∃z,(zeroValue t).run P w=.ok z w∧z.cells.toList=i.zero:=by
 obtain⟨f,z,h1,_,_,h4,h5,_⟩:=tok.inf h
 exact⟨z,by simp[zeroValue,typeInfo,h1,h4],h5⟩
theorem TOk.run_isAgg(tok:TOk P tb){t:TypeId}{i:TyE}(h:tb t=some i)(w:World):(isAgg t).run P w=.ok i.ty.agg w:=by
 obtain⟨d,h1,h2⟩:=tok.und h
 rw[←h2]
 unfold isAgg
 rw[Sem.run_bind,run_underlying h1 w]
 cases d <;> rfl
end
def D.cells:D→Option (List D)
 | .ag ds=>some ds
 | .tu _| .top| .opt _ _=>none
 |d=>some [d]
def D.cellE:D→Option E
 | .e x=>some x
 | .own _ z n xs=>some (.sl z n xs)
 | .fu z n xs=>some (.sl z n xs)
 |_=>none
def tM:List D→Option (List E)
 |[]=>some []
 |d::ds=>match d.cellE,tM ds with
  |some x,some xs=>some (x::xs)
  |_,_=>none
def D.asSl(z:Nat):D→Option (Nat×List E)
 | .e (.sl z' n xs)=>if z'=z then some (n,xs) else none
 | .own _ z' n xs=>if z'=z then some (n,xs) else none
 | .fu z' n xs=>if z'=z then some (n,xs) else none
 | .e (.lit (.slice none 0 0))=>if z=0 then none else some (0,[])
 |_=>none
def D.strOf:D→Option ByteArray
 | .e (.lit (.string s))=>some s
 |_=>none
def D.exC:D→D
 | .own _ z n xs=>.e (.sl z n xs)
 | .fu z n xs=>.e (.sl z n xs)
 |d=>d
def D.ex:D→D
 | .own _ z n xs=>.e (.sl z n xs)
 | .fu z n xs=>.e (.sl z n xs)
 | .ag ds=>.ag (ds.map D.exC)
 |d=>d
def D.pureC:D→Bool
 | .e _=>true
 |_=>false
def D.pure:D→Bool
 | .e _=>true
 | .ag ds=>ds.all D.pureC
 | .fp _ _=>true
 |_=>false
def H2(v:Value):D:=
 match v with
 | .agg cs=>if cs.toList.all Value.oneCell' then .ag (cs.toList.map fun u=>.e (.lit u)) else .top
 | .tuple _=>.top
 |v=>.e (.lit v)
def evD(tm:List (Nat×D)):Operand→D
 | .tmp t=>(tm.lookup t).getD .top
 | .const v=>H2 v
 | .global _=>.top
 | .func f=>.e (.lit (.func (.func f) #[] #[]))
def xR(dst:Option Tmp)(d:D)(tm:List (Nat×D)):List (Nat×D):=
 match dst with
 |some t=>(t,d)::tm
 |none=>tm
section
variable (P:Program) (tb:TypeId→Option TyE)
def CM(t:TypeId)(d:D)(hp:Hp)(k:D→Prop):Prop:=
 match d with
 | .pt j off=>match tb t,hp.vars.lookup j with
  |some i,some ds=>j<hp.next∧match i.ty.agg with
   |true=>off+i.size≤ds.length∧k (.ag ((ds.drop off).take i.size))
   |false=>∃d,ds[off]? =some d∧k d
  |_,_=>False
 | .fp xs off=>match tb t with
  |some i=>match i.ty.agg with
   |true=>off+i.size≤xs.length∧k (.ag ((List.range i.size).map fun j=>.e (xs.getD (off+j) .any)))
   |false=>off<xs.length∧k (.e (xs.getD off .any))
  |_=>False
 |_=>False
def Cl(t:TypeId)(d x:D)(hp:Hp)(k:D→Hp→Prop):Prop:=
 match d with
 | .pt j off=>match tb t,hp.vars.lookup j,x.cells with
  |some i,some ds,some cs=>cs.length=i.size∧off+i.size≤ds.length∧k .top (hp.set j (ds.take off++cs++ds.drop (off+cs.length)))
  |_,_,_=>False
 |_=>False
def KO(ty:TypeId)(d:D)(hp:Hp)(k:D→Hp→Prop):Prop:=
 match d with
 | .e (.lit (.slice none 0 0))=>match tb ty with
  |some i=>match i.ty with
   | .slice e=>match tb e with
    |some j=>0<j.size∧k (.own hp.next j.size 0 []) (hp.tok 0 (j.size,e))
    |none=>k d hp
   |_=>k d hp
  |none=>k d hp
 |_=>k d hp
def JB(c a b:D)(k:D→Prop):Prop:=
 match c with
 | .e (.lit (.bool true))=>k a
 | .e (.lit (.bool false))=>k b
 |_=>False
def fJ {α:Type}(place:Nat→Option (Nat×Nat))(cells:List α):List (Nat×List α)→Option (List α)
 |[]=>some cells
 |(i,cs)::rest=>match place i with
  |none=>none
  |some (off,size)=>if cs.length≠size∨off+cs.length > cells.length then none else fJ place (cells.take off++cs++cells.drop (off+cs.length)) rest
def g6:List (Nat×D)→Option (List (Nat×List D))
 |[]=>some []
 |(i,d)::rest=>match d.cells,g6 rest with
  |some cs,some r=>some ((i,cs)::r)
  |_,_=>none
def mV(fs:List (Nat×TypeId))(i:Nat):Option (Nat×Nat):=
 match fs[i]? with
 |some (off,t)=>(tb t).map fun j=>(off,j.size)
 |none=>none
def DB(t:TypeId)(ps:List (Nat×D))(k:D→Prop):Prop:=
 match tb t,g6 ps with
 |some i,some qs=>match i.ty with
  | .struct fs=>(∀f∈fs,(tb f.2).isSome=true)∧match fJ (mV tb fs) (i.zero.map fun v=>D.e (.lit v)) qs with
   |some ds=>k (.ag ds)
   |none=>False
  | .arr _ e=>match tb e with
   |some j=>match fJ (fun n=>some (n*j.size,j.size)) (i.zero.map fun v=>D.e (.lit v)) qs with
    |some ds=>k (.ag ds)
    |none=>False
   |none=>False
  |_=>False
 |_,_=>False
def eg(own:Bool)(t:TypeId)(n:Nat)(ps:List (Nat×D))(hp:Hp)(k:D→Hp→Prop):Prop:=
 match tb t,g6 ps with
 |some i,some qs=>match i.ty with
  | .slice e=>match tb e with
   |some j=>0<j.size∧n*j.size≤16777216∧match n with
    |0=>qs=[]∧k (.own hp.next j.size 0 []) (hp.tok 0 (j.size,e))
    |n=>match fJ (fun m=>some (m*j.size,j.size)) (List.replicate (n*j.size) (D.e .any)) qs with
     |some ds=>match tM ds with
      |some xs=>match own with
       |true=>k (.own hp.next j.size n xs) (hp.tok n (j.size,e))
       |false=>k (.fu j.size n xs) hp
      |none=>False
     |none=>False
   |none=>False
  |_=>False
 |_,_=>False
def H6(op:BinOp)(j:IntKind)(a b:Int)(k:Value→Prop):Prop:=
 match op with
 | .add=>k (.int j (j.wrap (a+b)))
 | .sub=>k (.int j (j.wrap (a - b)))
 | .mul=>k (.int j (j.wrap (a*b)))
 | .quo=>b≠0∧k (.int j (j.wrap (a.tdiv b)))
 | .rem=>b≠0∧k (.int j (a.tmod b))
 | .and=>k (.int j (j.wrap (BitVec.ofInt j.bits a &&&BitVec.ofInt j.bits b).toNat))
 | .or=>k (.int j (j.wrap (BitVec.ofInt j.bits a |||BitVec.ofInt j.bits b).toNat))
 | .xor=>k (.int j (j.wrap (BitVec.ofInt j.bits a ^^^ BitVec.ofInt j.bits b).toNat))
 | .andNot=>k (.int j (j.wrap (BitVec.ofInt j.bits a &&&~~~ BitVec.ofInt j.bits b).toNat))
 | .eql=>k (.bool (decide (a=b)))
 | .neq=>k (.bool (decide (a≠b)))
 | .lss=>k (.bool (decide (a<b)))
 | .leq=>k (.bool (decide (a≤b)))
 | .gtr=>k (.bool (decide (b<a)))
 | .geq=>k (.bool (decide (b≤a)))
 |_=>False
def OO(op:BinOp)(a b:ByteArray)(k:Value→Prop):Prop:=
 match op with
 | .add=>a.size+b.size≤9223372036854775807∧k (.string (a++b))
 | .eql=>k (.bool (decide (a=b)))
 | .neq=>k (.bool (decide (a≠b)))
 |_=>False
def KH(op:BinOp)(a b:Bool)(k:Value→Prop):Prop:=
 match op with
 | .eql=>k (.bool (a == b))
 | .neq=>k (.bool (!(a == b)))
 |_=>False
def kL:List D→Option (List Value)
 |[]=>some []
 | .e (.lit v)::ds=>(kL ds).map (v::·)
 |_=>none
def nE(op:BinOp)(t:TypeId)(a b:D)(k:Value→Prop):Prop:=
 match op,a,b with
 | .shl,.e (.lit (.int j x)),.e (.lit (.int _ y))=>0≤y∧k (.int j (j.wrap (x*2 ^ min y.toNat j.bits)))
 | .shr,.e (.lit (.int j x)),.e (.lit (.int _ y))=>0≤y∧k (.int j (x.fdiv (2 ^ min y.toNat j.bits)))
 |op,.e (.lit (.int j x)),.e (.lit (.int j' y))=>j=j'∧H6 op j x y k
 |op,.e (.lit (.string x)),.e (.lit (.string y))=>OO op x y k
 |op,.e (.lit (.bool x)),.e (.lit (.bool y))=>P.underlying t=some .bool∧KH op x y k
 |op,.ag xs,.ag ys=>match kL xs,kL ys with
  |some us,some vs=>∃r,(∀w,(do eqGuard op t (.tmp 0) (.tmp 0) (.agg us.toArray) (.agg vs.toArray);binOp op t (.agg us.toArray) (.agg vs.toArray)).run P w=.ok r w)∧r.oneCell'=true∧k r
  |_,_=>False
 |_,_,_=>False
def unV(op:UnOp)(a:D)(k:Value→Prop):Prop:=
 match op,a with
 | .not,.e (.lit (.bool b))=>k (.bool !b)
 | .neg,.e (.lit (.int j n))=>k (.int j (j.wrap (0 - n)))
 |_,_=>False
def pF(s:TypeId)(f:Nat)(k:Nat→Nat→Bool→Prop):Prop:=
 match tb s with
 |some i=>match i.ty with
  | .struct fs=>match fs[f]? with
   |some (off,t)=>match tb t with
    |some j=>k off j.size j.ty.agg
    |none=>False
   |none=>False
  |_=>False
 |none=>False
def oU(s:TypeId)(f:Nat)(d:D)(k:D→Prop):Prop:=
 pF tb s f fun o z _=>z≠0∧match d with
  | .pt j off=>k (.pt j (off+o))
  | .fp xs off=>k (.fp xs (off+o))
  |_=>False
def Dh(s:TypeId)(f:Nat)(d:D)(k:D→Prop):Prop:=
 pF tb s f fun o z g=>match d with
  | .ag ds=>match g with
   |true=>o+z≤ds.length∧k (.ag ((ds.drop o).take z))
   |false=>∃d,ds[o]? =some d∧k d
  |_=>False
def oN(t:TypeId)(d i:D)(k:D→Prop):Prop:=
 match tb t,i with
 |some ti,.e (.lit (.int _ x))=>match ti.ty with
  | .slice e=>match tb e with
   |some j=>match d.asSl j.size with
    |some (n,xs)=>(0≤x∧x<(n:Int))∧k (.fp xs (x.toNat*j.size))
    |none=>match d with
     | .ow v off z n=>z=j.size∧(0≤x∧x<(n:Int))∧k (.pt v (off+x.toNat*j.size))
     |_=>False
   |none=>False
  | .arr n e=>match tb e,d with
   |some j,.pt v off=>(0≤x∧x<(n:Int))∧k (.pt v (off+x.toNat*j.size))
   |some j,.fp xs off=>(0≤x∧x<(n:Int))∧k (.fp xs (off+x.toNat*j.size))
   |_,_=>False
  |_=>False
 |_,_=>False
def zT(t:TypeId)(d i:D)(k:D→Prop):Prop:=
 match tb t,i with
 |some ti,.e (.lit (.int _ x))=>match ti.ty,d with
  | .str,.e (.lit (.string s))=>(0≤x∧x<(s.size:Int))∧k (.e (.lit (.int .u8 ((s.data.toList.getD x.toNat 0).toNat:Int))))
  | .arr n e,.ag ds=>match tb e with
   |some j=>(0≤x∧x<(n:Int))∧match j.ty.agg with
    |true=>x.toNat*j.size+j.size≤ds.length∧k (.ag ((ds.drop (x.toNat*j.size)).take j.size))
    |false=>∃d,ds[x.toNat*j.size]? =some d∧k d
   |none=>False
  |_,_=>False
 |_,_=>False
def T4:E→Option UInt8
 | .lit (.int .u8 n)=>some (UInt8.ofNat n.toNat)
 |_=>none
def vu:List E→Option (List UInt8)
 |[]=>some []
 |x::xs=>match T4 x,vu xs with
  |some b,some bs=>some (b::bs)
  |_,_=>none
def Kz(s t:TypeId)(d:D)(k:D→Prop):Prop:=
 match tb s,tb t with
 |some i,some j=>match j.ty,d with
  | .int jk,.e (.lit (.int _ n))=>k (.e (.lit (.int jk (jk.wrap n))))
  | .str,.e (.lit (.string s))=>k (.e (.lit (.string s)))
  | .str,d=>match i.ty with
   | .slice e=>match tb e with
    |some l=>l.ty=.int .u8∧match d.asSl 1 with
     |some (_,xs)=>match vu xs with
      |some bs=>k (.e (.lit (.string ⟨bs.toArray⟩)))
      |none=>False
     |none=>False
    |none=>False
   |_=>False
  |_,_=>False
 |_,_=>False
def oX(b:Option D)(Fc:Int)(k:Int→Prop):Prop:=
 match b with
 |none=>k Fc
 |some (.e (.lit (.int _ x)))=>k x
 |_=>False
def Co(t:TypeId)(d:D)(lo hi mx:Option D)(k:D→Prop):Prop:=
 match tb t with
 |some ti=>match ti.ty with
  | .slice e=>match tb e with
   |some j=>match d.asSl j.size with
    |some (n,xs)=>oX lo 0 fun l=>oX hi n fun h=>(0≤l∧l≤h∧h≤(n:Int))∧match mx with
     |none=>k (.e (.sl j.size (h - l).toNat ((xs.drop (l.toNat*j.size)).take ((h - l).toNat*j.size))))
     |some m=>oX (some m) 0 fun m=>hi.isSome=true∧m=h∧k (.fu j.size (h - l).toNat ((xs.drop (l.toNat*j.size)).take ((h - l).toNat*j.size)))
    |none=>False
   |none=>False
  | .str=>match d,mx with
   | .e (.lit (.string s)),none=>oX lo 0 fun l=>oX hi s.size fun h=>(0≤l∧l≤h∧h≤(s.size:Int))∧k (.e (.lit (.string (s.extract l.toNat h.toNat))))
   |_,_=>False
  |_=>False
 |none=>False
def Sr(t:TypeId)(d:D)(k:Int→Prop):Prop:=
 match tb t with
 |some ti=>match ti.ty with
  | .slice e=>match tb e with
   |some j=>match d.asSl j.size with
    |some (n,_)=>k n
    |none=>match d with
     | .ow _ _ _ n=>k n
     |_=>False
   |none=>False
  | .str=>match d with
   | .e (.lit (.string s))=>k s.size
   |_=>False
  | .arr n _=>k n
  |_=>False
 |none=>False
def xV(t:TypeId)(z:Nat)(x:D)(k:Nat→List E→Prop):Prop:=
 match tb t with
 |some i=>match i.ty,x.strOf with
  | .str,some s=>z=1∧k s.size (s.data.toList.map fun b=>.lit (bv b))
  | .slice _,none=>match x.asSl z with
   |some (m,ys)=>k m ys
   |none=>False
  |_,_=>False
 |none=>False
def rF(t t':TypeId)(s x:D)(hp:Hp)(k:D→Hp→Prop):Prop:=
 match tb t with
 |some ti=>match ti.ty with
  | .slice e=>match tb e with
   |some j=>0<j.size∧(x.strOf=none→t'=t)∧(x.strOf≠none→j.bytes=1∧j.zero=[.int .u8 0]∧j.ty.agg=false)∧xV tb t' j.size x fun m ys=>match s with
    | .own id z n xs=>z=j.size∧hp.live.lookup id=some (n,j.size,e)∧(n+m)*max 1 j.bytes≤140737488355328∧k (.own id j.size (n+m) (xs++ys)) (hp.app id (n+m) (j.size,e))
    | .e (.lit (.slice none 0 0))=>m*max 1 j.bytes≤140737488355328∧k (.own hp.next j.size m ys) (hp.tok m (j.size,e))
    | .fu z n xs=>z=j.size∧0<m∧(n+m)*max 1 j.bytes≤140737488355328∧k (.own hp.next j.size (n+m) (xs++ys)) (hp.tok (n+m) (j.size,e))
    |_=>False
   |none=>False
  |_=>False
 |none=>False
def Nv (P : Program) (f : FuncId) : Prop := ∃ fn, P.funcs[f]? = some fn ∧ (fn.name == "runtime.NumGoroutine") = false ∧ fn.body.isNone = false
def kW(w:World)(F:Addr→Prop)(d:D)(v:Value):Prop:=aF ⟨[],[],0⟩ ⟨fun _=>0,fun _=>default,F⟩ w d v
def uk(B:Nat)(F:Addr→Prop)(w:World)(r:D)(v:Value):Prop:=
 match r with
 | .own e z n xs=>0<z∧(∃us,w.ownsRow B e z v n us)∧cG w (fun p=>F p∨Value.tail v (n*z) p) (.sl z n xs) v
 |r=>kW w F r v
def ar(f:FuncId)(ds:List D)(r:D):Prop:=Nv P f∧∀(w:World) (F:Addr→Prop) (vs:Array Value),(∀p:Addr,F p→p.block<w.heap.size)→vs.size=ds.length→(∀(j:Nat) (d:D) (u:Value),ds[j]? =some d→vs[j]? =some u→kW w F d u)→
 Calls P f vs w fun e w'=>∃v,e=.returned v∧uk w.heap.size F w' r v∧Below w.heap.size w w'
def HC(f:FuncId)(ds:List D)(hp:Hp)(d:D)(hp':Hp):Prop:=Nv P f∧∀(B:Nat) (g:Gh) (w:World) (vs:Array Value),HR B hp g w→vs.size=ds.length→(∀(j:Nat) (d:D) (u:Value),ds[j]? =some d→vs[j]? =some u→aF hp g w d u)→
 Calls P f vs w fun e w'=>∃v g',e=.returned v∧HR B hp' g' w'∧bu hp g w hp' g' w'∧aF hp' g' w' d v∧Below B w w'∧∀p:Addr,p.block<B→g.F p→g'.F p
def hvB(c:Call):Bool:=
 match c.callee with
 | .value (.func _)=>c.argTypes.any fun t=>match tb t with
  |some i=>match i.ty with
   | .other=>true
   | .struct [p,q]=>match tb p.2,tb q.2 with
    |some a,some b=>match a.ty,b.ty with
     | .struct [_,_],.slice _=>true
     |_,_=>false
    |_,_=>true
   |_=>false
  |none=>true
 | .value _=>true
 |_=>false
def Iz(r:D)(hp:Hp)(k:D→Hp→Prop):Prop:=
 match r with
 | .own e z n xs=>k (.own hp.next z n xs) (hp.tok n (z,e))
 | .fu _ _ _=>False
 |r=>k r hp
def OM(hv:Bool)(f:FuncId)(ds:List D)(hp:Hp)(k:D→Hp→Prop):Prop:=
 ((ds.map D.ex).all D.pure=true∧∃r,ar P f (ds.map D.ex) r∧Iz r hp k)∨(hv=true∧∃d hp',HC P f ds hp d hp'∧k d hp')
def ig(b:Builtin)(ts:List TypeId)(ds:List D)(hp:Hp)(k:D→Hp→Prop):Prop:=
 match b,ts,ds with
 | .len,[t],[d]=>Sr tb t d fun n=>k (.e (.lit (.int .i64 n))) hp
 | .min,_,[.e (.lit (.int j x)),.e (.lit (.int _ y))]=>k (.e (.lit (.int j (min x y)))) hp
 | .max,_,[.e (.lit (.int j x)),.e (.lit (.int _ y))]=>k (.e (.lit (.int j (max x y)))) hp
 | .append,[t,t'],[s,x]=>rF tb t t' s x hp k
 |_,_,_=>False
def tN(hv:Bool)(d:D)(ds:List D)(hp:Hp)(k:D→Hp→Prop):Prop:=
 match d with
 | .e (.lit (.func (.func f) fi ca))=>fi.size=0∧ca.size=0∧OM P hv f ds hp k
 | .fn f ks=>OM P hv f (ds++ks.map fun k=>.pt k 0) hp k
 |_=>False
def nilV(d:D)(k:D→Prop):Prop:=
 match d with
 | .pt j off=>k (.pt j off)
 | .fp xs off=>k (.fp xs off)
 |_=>False
def A4:List D→Option (List Nat)
 |[]=>some []
 | .pt k 0::ds=>(A4 ds).map (k::·)
 |_=>none
def zM(fn:Fn)(first:Nat)(cs:List D)(k:D→Prop):Prop:=
 match fn with
 | .func f=>first=0∧match cs with
  |[]=>k (.e (.lit (.func (.func f) #[] #[])))
  |cs=>match A4 cs with
   |some ks=>k (.fn f ks)
   |none=>False
 |_=>False
def AVC(dr:Bool)(op:Op)(ty:TypeId)(ev:Operand→D)(hp:Hp)(k:D→Hp→Prop):Prop:=
 match op with
 | .move x=>k (ev x) hp
 | .assign x=>KO tb ty (ev x) hp k
 | .pick c a b=>JB (ev c) (ev a) (ev b) fun d=>k d hp
 | .alloc t=>match tb t with
  |some i=>k (.pt hp.next 0) (hp.var (i.zero.map fun v=>.e (.lit v)))
  |none=>False
 | .box _ x=>match (ev x).cells with
  |some cs=>k (.pt hp.next 0) (hp.var cs)
  |none=>False
 | .build t ps=>DB tb t (ps.toList.map fun p=>(p.1,ev p.2)) fun d=>k d hp
 | .buildSlice t n ps=>eg tb (!dr) t n (ps.toList.map fun p=>(p.1,ev p.2)) hp k
 | .load t x=>CM tb t (ev x) hp fun d=>k d hp
 | .store t x y=>Cl tb t (ev x) (ev y) hp k
 | .binOp o t x y _=>nE P o t (ev x) (ev y) fun v=>k (.e (.lit v)) hp
 | .unOp o _ x=>unV o (ev x) fun v=>k (.e (.lit v)) hp
 | .convert s t x=>Kz tb s t (ev x) fun d=>k d hp
 | .slice t x lo hi mx=>Co tb t (ev x) (lo.map ev) (hi.map ev) (mx.map ev) fun d=>k d hp
 | .fieldAddr s x f=>oU tb s f (ev x) fun d=>k d hp
 | .field s x f=>Dh tb s f (ev x) fun d=>k d hp
 | .indexAddr t x i=>oN tb t (ev x) (ev i) fun d=>k d hp
 | .index t x i=>zT tb t (ev x) (ev i) fun d=>k d hp
 | .extract x i=>match ev x with
  | .tu ds=>∃d,ds[i]? =some d∧k d hp
  |_=>False
 | .call c=>match c.callee with
  | .builtin b=>ig tb b c.argTypes.toList (c.args.toList.map ev) hp k
  | .value x=>tN P (hvB tb c) (ev x) (c.args.toList.map ev) hp k
  | .invoke _ _=>False
 | .nilCheck x=>nilV (ev x) fun d=>k d hp
 | .makeFunc fn first cs=>zM fn first.size (cs.toList.map ev) fun d=>k d hp
 |_=>False
end
end
section
def Pw {α β:Type}(R:α→β→Prop)(xs:List α)(ys:List β):Prop:=xs.length=ys.length∧∀(j:Nat) (x:α) (y:β),xs[j]? =some x→ys[j]? =some y→R x y
section
variable {α β:Type} {R:α→β→Prop} {xs Q6:List α} {ys ys':List β}
theorem Pw.append(h:Pw R xs ys)(h':Pw R Q6 ys'):Pw R (xs++Q6) (ys++ys'):=by
 refine⟨by rw[cN,cN,h.1,h'.1],fun j x y hx hy=>?_⟩
 rw[List.getElem?_append] at hx hy
 rw[h.1] at hx
 split at hx
 ·rename_i bh
  rw[an bh] at hy
  exact h.2 j x y hx hy
 ·rename_i bh
  rw[az bh] at hy
  exact h'.2 _ x y hx hy
theorem Pw.take(h:Pw R xs ys)(n:Nat):Pw R (xs.take n) (ys.take n):=by
 refine⟨by rw[cz,cz,h.1],fun j x y hx hy=>?_⟩
 rw[fY] at hx hy
 split at hx
 ·rename_i bh
  rw[an bh] at hy
  exact h.2 j x y hx hy
 ·cases hx
theorem Pw.drop(h:Pw R xs ys)(n:Nat):Pw R (xs.drop n) (ys.drop n):=by
 refine⟨by rw[fZ,fZ,h.1],fun j x y hx hy=>?_⟩
 rw[nt] at hx hy
 exact h.2 _ x y hx hy
theorem Pw.get(h:Pw R xs ys){j:Nat}{x:α}(hx:xs[j]? =some x):∃y,ys[j]? =some y∧R x y:=by
 have hj:j<ys.length:=by
  rw[←h.1]
  rcases bO j xs.length with hh|hh
  ·exact hh
  ·rw[gP hh] at hx;cases hx
 exact⟨ys[j],eG hj,h.2 j x _ hx (eG hj)⟩
theorem Pw.nil:Pw R [] []:=⟨rfl,fun j _ _ h _=>by simp at h⟩
theorem Pw.cons {x:α}{y:β}(h:R x y)(h':Pw R xs ys):Pw R (x::xs) (y::ys):=by
 refine⟨by simp[h'.1],fun j a b ha hb=>?_⟩
 cases j with
 |zero=>
  simp at ha hb
  subst ha;subst hb
  exact h
 |succ j=>exact h'.2 j a b (by simpa using ha) (by simpa using hb)
theorem Pw.imp {R':α→β→Prop}(h:Pw R xs ys)(hi:∀x y,R x y→R' x y):Pw R' xs ys:=⟨h.1,fun j x y hx hy=>hi x y (h.2 j x y hx hy)⟩
end
theorem we {v:Value}(h:v.oneCell'=true):v.cells=#[v]:=by cases v <;> first|rfl|cases h
section
variable {hp:Hp} {g:Gh} {w:World} {d:D} {v:Value}
def eM(hp:Hp)(g:Gh)(w:World)(cs:List D)(us:List Value):Prop:=Pw (aF hp g w) cs us∧∀u∈us,u.oneCell'=true
theorem eM.one(h:aF hp g w d v)(h1:v.oneCell'=true):eM hp g w [d] v.cells.toList:=by
 rw[we h1]
 exact⟨Pw.cons h Pw.nil,fun u hu=>by simp at hu;subst hu;exact h1⟩
theorem aF.cells {cs:List D}(h:aF hp g w d v)(hc:d.cells=some cs):eM hp g w cs v.cells.toList:=by
 cases h with
 |ag ds uj hl h1 hr=>
  obtain rfl:ds=cs:=by simpa[D.cells] using hc
  refine⟨⟨hl.symm.trans (dY (xs:=uj)).symm,fun j x y hx hy=>hr j x y hx (by simpa[Value.cells] using hy)⟩,fun u hu=>?_⟩
  obtain⟨j,hj⟩:=sT hu
  exact h1 j u (by simpa[Value.cells] using hj)
 |tu ds uj hl hr=>simp[D.cells] at hc
 |top v=>simp[D.cells] at hc
 |opt b d v hi h=>simp[D.cells] at hc
 |e x v h=>
  obtain rfl:[D.e x]=cs:=by simpa[D.cells] using hc
  exact eM.one (.e x v h) h.one
 |own id z n xs v h hid ht=>
  obtain rfl:[D.own id z n xs]=cs:=by simpa[D.cells] using hc
  exact eM.one (.own id z n xs v h hid ht) h.one
 |fu z n xs A h=>
  obtain rfl:[D.fu z n xs]=cs:=by simpa[D.cells] using hc
  exact eM.one (.fu z n xs A h) rfl
 |fp xs off ad hb Tg=>
  obtain rfl:[D.fp xs off]=cs:=by simpa[D.cells] using hc
  exact eM.one (.fp xs off ad hb Tg) rfl
 |pt k off hk=>
  obtain rfl:[D.pt k off]=cs:=by simpa[D.cells] using hc
  exact eM.one (.pt k off hk) rfl
 |ow k off z n c hk h1 h2=>
  obtain rfl:[D.ow k off z n]=cs:=by simpa[D.cells] using hc
  exact eM.one (.ow k off z n c hk h1 h2) rfl
 |gw k z n c hk h1 h2 hs=>
  obtain rfl:[D.gw k z n]=cs:=by simpa[D.cells] using hc
  exact eM.one (.gw k z n c hk h1 h2 hs) rfl
 |fn f ks hk=>
  obtain rfl:[D.fn f ks]=cs:=by simpa[D.cells] using hc
  exact eM.one (.fn f ks hk) rfl
theorem eM.append {cs uj:List D}{us vd:List Value}(h:eM hp g w cs us)(h':eM hp g w uj vd):eM hp g w (cs++uj) (us++vd):=
 ⟨h.1.append h'.1,fun u hu=>(jK.1 hu).elim (h.2 u) (h'.2 u)⟩
theorem eM.take {cs:List D}{us:List Value}(h:eM hp g w cs us)(n:Nat):eM hp g w (cs.take n) (us.take n):=⟨h.1.take n,fun u hu=>h.2 u (MH hu)⟩
theorem eM.drop {cs:List D}{us:List Value}(h:eM hp g w cs us)(n:Nat):eM hp g w (cs.drop n) (us.drop n):=⟨h.1.drop n,fun u hu=>h.2 u (Up hu)⟩
theorem eM.ag {cs:List D}{us:List Value}(h:eM hp g w cs us):aF hp g w (.ag cs) (.agg us.toArray):=
 .ag cs us.toArray (by simpa using h.1.1.symm) (fun j u hu=>h.2 u (bL (by simpa using hu))) (fun j d u hd hu=>h.1.2 j d u hd (by simpa using hu))
theorem eM.lits(l:List Value)(h:l.all Value.oneCell'=true):eM hp g w (l.map fun v=>.e (.lit v)) l:=by
 have h1:∀u∈l,u.oneCell'=true:=by simpa using h
 refine⟨⟨by simp,fun j x y hx hy=>?_⟩,h1⟩
 rw[bE,hy] at hx
 injection hx with hx
 subst hx
 exact .e _ _ (.lit y (h1 y (bL hy)))
theorem QB {x:E}(h:aF hp g w d v)(hx:d.cellE=some x):cG w g.F x v:=by
 cases h <;> simp[D.cellE] at hx <;> (subst hx;assumption)
theorem Dx:∀{cs:List D} {us:List Value} {xs:List E},eM hp g w cs us→tM cs=some xs→Pw (cG w g.F) xs us
 |[],us,xs,h,hx=>by
  obtain rfl:[]=xs:=by simpa[tM] using hx
  have:us=[]:=jR h.1.1.symm
  subst this
  exact Pw.nil
 |d::ds,us,xs,h,hx=>by
  cases us with
  |nil=>have:=h.1.1;simp at this
  |cons u us=>
   unfold tM at hx
   split at hx
   ·rename_i x Q6 h1 h2
    injection hx with hx
    subst hx
    refine Pw.cons (QB (h.1.2 0 d u rfl rfl) h1) (Dx ⟨⟨by simpa using h.1.1,fun j a b ha hb=>h.1.2 (j+1) a b ha hb⟩,fun u hu=>h.2 u (io _ hu)⟩ h2)
   ·cases hx
end
theorem FX(off:Nat):∀(l:List Value) (k:Nat) (arr:Array Value),off+k+l.length≤arr.size→
  ((l.zipIdx k).foldl (fun (cs:Array Value) (x:Value×Nat)=>cs.setIfInBounds (off+x.2) x.1) arr).toList=arr.toList.take (off+k)++l++arr.toList.drop (off+k+l.length)
 |[],k,arr,h=>by simp
 |c::l,k,arr,h=>by
  simp only[lc] at h
  simp only[List.zipIdx_cons,Ik]
  rw[FX off l (k+1) (arr.setIfInBounds (off+k) c) (by simp;omega),Array.toList_setIfInBounds]
  have hk:off+k<arr.toList.length:=by simp;omega
  rw[show off+(k+1)=off+k+1 by omega,List.take_add_one,List.take_set_of_le (aC _),MZ hk,List.drop_set_of_lt (by omega)]
  simp[kU,lU,Nat.add_left_comm]
theorem Kp(place:Nat→Option (Nat×Nat)):∀(parts:List (Nat×Value)) (cells:Array Value),
  Instr.fill place cells parts=(match fJ place cells.toList (parts.map fun p=>(p.1,p.2.cells.toList)) with|some l=>some l.toArray|none=>none)∨fJ place cells.toList (parts.map fun p=>(p.1,p.2.cells.toList))=none
 |[],cells=>by simp[Instr.fill,fJ]
 |(i,v)::rest,cells=>by
  simp only[Instr.fill,fJ,gZ]
  cases hp:place i with
  |none=>exact .inr rfl
  |some q=>
   obtain⟨off,size⟩:=q
   simp only[dY]
   by_cases hc:v.cells.size≠size∨off+v.cells.size > cells.size
   ·right
    rw[an hc]
   ·rw[az hc]
    have e1:(v.cells.zipIdx.foldl (fun cs (x:Value×Nat)=>match x with|(c,j)=>cs.setIfInBounds (off+j) c) cells).toList=cells.toList.take off++v.cells.toList++cells.toList.drop (off+v.cells.size):=by
     rw[←Array.foldl_toList,Array.toList_zipIdx]
     have:=FX off v.cells.toList 0 cells (by simp;omega)
     simpa using this
    have h3:¬(decide (v.cells.size≠size)||decide (off+v.cells.size > cells.size))=true:=by simpa using hc
    rw[←e1]
    have h2:=Kp place rest (v.cells.zipIdx.foldl (fun cs (x:Value×Nat)=>match x with|(c,j)=>cs.setIfInBounds (off+j) c) cells)
    rcases h2 with h2|h2
    ·left
     rw[←h2,az h3]
    ·exact .inr h2
theorem vo {α β:Type}{R:α→β→Prop}(place:Nat→Option (Nat×Nat)):∀{qs:List (Nat×List α)} {ps:List (Nat×List β)} {ds ds':List α} {vs:List β},fJ place ds qs=some ds'→Pw R ds vs→Pw (fun (q:Nat×List α) (p:Nat×List β)=>q.1=p.1∧Pw R q.2 p.2) qs ps→
  ∃pe,fJ place vs ps=some pe∧Pw R ds' pe
 |[],ps,ds,ds',vs,h,hd,hq=>by
  have:ps=[]:=jR hq.1.symm
  subst this
  obtain rfl:ds=ds':=by simpa[fJ] using h
  exact⟨vs,rfl,hd⟩
 |(i,cs)::rest,ps,ds,ds',vs,h,hd,hq=>by
  cases ps with
  |nil=>have:=hq.1;simp at this
  |cons p ps=>
   obtain⟨i',us⟩:=p
   obtain⟨e1,hcu⟩:=hq.2 0 _ _ rfl rfl
   dsimp only at e1 hcu
   subst e1
   have SK:Pw (fun (q:Nat×List α) (p:Nat×List β)=>q.1=p.1∧Pw R q.2 p.2) rest ps:=⟨by have:=hq.1;simpa using this,fun j a b ha hb=>hq.2 (j+1) a b ha hb⟩
   unfold fJ at h ⊢
   cases hp:place i with
   |none=>simp[hp] at h
   |some q=>
    obtain⟨off,size⟩:=q
    simp only[hp] at h ⊢
    rw[←hcu.1,←hd.1]
    split at h
    ·cases h
    ·rename_i hc
     rw[az hc]
     refine vo place h ?_ SK
     exact ((hd.take off).append hcu).append (hd.drop _)
theorem pi {place:Nat→Option (Nat×Nat)}:∀{ps:List (Nat×List Value)} {vs pe:List Value},fJ place vs ps=some pe→(∀u∈vs,u.oneCell'=true)→(∀p∈ps,∀u∈p.2,u.oneCell'=true)→∀u∈pe,u.oneCell'=true
 |[],vs,pe,h,h1,_=>by
  obtain rfl:vs=pe:=by simpa[fJ] using h
  exact h1
 |(i,cs)::rest,vs,pe,h,h1,h2=>by
  unfold fJ at h
  split at h
  ·cases h
  ·split at h
   ·cases h
   ·refine pi h (fun u hu=>?_) (fun p hp=>h2 p (io _ hp))
    rcases jK.1 hu with hu|hu
    ·rcases jK.1 hu with hu|hu
     ·exact h1 u (MH hu)
     ·exact h2 _ (j8 ..) u hu
    ·exact h1 u (Up hu)
theorem tx {hp:Hp}{g:Gh}{w:World}{ev:Operand→D}{ρ:Operand→Value}:∀{ps:List (Nat×Operand)} {qs:List (Nat×List D)},(∀p∈ps,aF hp g w (ev p.2) (ρ p.2))→g6 (ps.map fun p=>(p.1,ev p.2))=some qs→
  Pw (fun (q:Nat×List D) (p:Nat×List Value)=>q.1=p.1∧Pw (aF hp g w) q.2 p.2) qs ((ps.map fun p=>(p.1,ρ p.2)).map fun p=>(p.1,p.2.cells.toList))∧∀p∈((ps.map fun p=>(p.1,ρ p.2)).map fun p=>(p.1,p.2.cells.toList)),∀u∈p.2,u.oneCell'=true
 |[],qs,_,h=>by
  obtain rfl:[]=qs:=by simpa[g6] using h
  exact⟨Pw.nil,by simp⟩
 |(i,x)::ps,qs,hr,h=>by
  simp only[gZ,g6] at h
  split at h
  ·rename_i cs r h1 h2
   injection h with h
   subst h
   have hx:=(hr _ (j8 ..)).cells h1
   obtain⟨h3,h4⟩:=tx (fun p hp=>hr p (io _ hp)) h2
   refine⟨Pw.cons ⟨rfl,hx.1⟩ h3,fun p hp u hu=>?_⟩
   simp only[gZ,e8] at hp
   rcases hp with rfl|hp
   ·exact hx.2 u hu
   ·exact h4 p hp u hu
  ·cases h
section
variable {P:Program} {tb:TypeId→Option TyE}
theorem t4(tok:TOk P tb){t:TypeId}{i:TyE}(ht:tb t=some i)(ha:i.ty.agg=true)(w:World)(ad:Addr)(us:List Value)(hl:us.length=i.size)(hc:∀j u,us[j]? =some u→w.cell? (ad.add j)=some u):
  (loadVar t ad).run P w=.ok (.agg us.toArray) w:=by
 have hr:=run_loadCells_list (P:=P) w ad us hc
 have h1:=tok.run_isAgg ht w
 have h2:=tok.run_sizeOf ht w
 rw[ha] at h1
 rw[hl] at hr
 simp[loadVar,Sem.run_bind,h1,h2,hr]
theorem tZ(tok:TOk P tb){t:TypeId}{i:TyE}(ht:tb t=some i)(ha:i.ty.agg=false)(w:World)(ad:Addr)(u:Value)(hc:w.cell? ad=some u):(loadVar t ad).run P w=.ok u w:=by
 have h1:=tok.run_isAgg ht w
 rw[ha] at h1
 simp[loadVar,Sem.run_bind,h1,load,Sem.run,hc]
theorem HR.cells {B:Nat}{hp:Hp}{g:Gh}{w:World}(h:HR B hp g w){k:Nat}{ds:List D}(hk:hp.vars.lookup k=some ds):∃cs ty,w.heap[g.μ k]? =some (.cells cs ty (0,0))∧eM hp g w ds (cs.toList.take ds.length)∧ds.length≤cs.size:=by
 obtain⟨_,_,_,cs,ty,h1,h2,h3⟩:=h.var k ds hk
 refine⟨cs,ty,h1,⟨⟨by simp;omega,fun j x y hx hy=>(h3 j y ?_).2 x hx⟩,fun u hu=>?_⟩,h2⟩
 rotate_left
 ·obtain⟨j,hj⟩:=sT hu
  rw[fY] at hj
  split at hj
  ·rename_i bh
   exact (h3 j u (by simpa using hj)).1 bh
  ·cases hj
 rw[fY] at hy
 split at hy
 ·simpa using hy
 ·cases hy
theorem win_eq {α:Type}(l:List α){off s n:Nat}(h:off+s≤n):((l.take n).drop off).take s=(l.drop off).take s:=by
 rw[DJ,Am,qV (by omega)]
theorem AP(tok:TOk P tb){t:TypeId}{d:D}{hp:Hp}{k:D→Prop}(h:CM tb t d hp k):
  ∃d',k d'∧(∀j off,d=.pt j off→j<hp.next)∧∀(bk:Hp) (B:Nat) (g:Gh) (w:World) (u:Value),(∀j off,d=.pt j off→bk.vars.lookup j=hp.vars.lookup j)→HR B bk g w→aF bk g w d u→∃v,(Instr.loadAt t u).run P w=.ok v w∧aF bk g w d' v:=by
 unfold CM at h
 split at h
 ·rename_i j off
  split at h
  ·rename_i i ds ht hv
   obtain⟨z4,h⟩:=h
   split at h
   ·rename_i ha
    obtain⟨hle,hk⟩:=h
    refine⟨_,hk,(fun j' off' e=>by cases e;exact z4),fun bk B g w u IU hr hu=>?_⟩
    cases hu
    obtain⟨cs,ty,hh,q9,hlen⟩:=hr.cells (by rw[IU _ _ rfl];exact hv)
    have hag:=((q9.drop off).take i.size).ag
    rw[win_eq _ hle] at hag
    refine⟨_,?_,hag⟩
    have:=t4 tok ht ha w ⟨g.μ j,off,none⟩ ((cs.toList.drop off).take i.size) (by rw[cz,fZ,dY];omega) (fun n u hu=>by
     rw[Addr.add_lit]
     rw[fY] at hu
     split at hu
     ·rw[nt] at hu
      simp only[World.cell?,hh]
      simpa using hu
     ·cases hu)
    simpa[Instr.loadAt,Instr.sureAddr] using this
   ·rename_i ha
    obtain⟨d',AY,hk⟩:=h
    refine⟨d',hk,(fun j' off' e=>by cases e;exact z4),fun bk B g w u IU hr hu=>?_⟩
    cases hu
    obtain⟨cs,ty,hh,q9,_⟩:=hr.cells (by rw[IU _ _ rfl];exact hv)
    obtain⟨y,hy,cJ⟩:=q9.1.get AY
    refine⟨y,?_,cJ⟩
    rw[fY] at hy
    split at hy
    rotate_left
    ·cases hy
    have:=tZ tok ht ha w ⟨g.μ j,off,none⟩ y (by simp only[World.cell?,hh];simpa using hy)
    simpa[Instr.loadAt,Instr.sureAddr] using this
  ·cases h
 ·rename_i xs off
  split at h
  ·rename_i i ht
   split at h
   ·rename_i ha
    obtain⟨hle,hk⟩:=h
    refine⟨_,hk,(fun _ _ e=>by cases e),fun bk B g w u IU hr hu=>?_⟩
    cases hu with
    |fp _ _ ad hb hc=>
     have jp:∀m:Nat,∃us:List Value,m≤i.size→us.length=m∧(∀j u,us[j]? =some u→w.cell? ((ad.add off).add j)=some u)∧eM bk g w ((List.range m).map fun j=>.e (xs.getD (off+j) .any)) us:=by
      intro m
      induction m with
      |zero=>exact⟨[],fun _=>⟨rfl,by simp,Pw.nil,by simp⟩⟩
      |succ m ih=>
       obtain⟨us,hus⟩:=ih
       by_cases hm:m+1≤i.size
       ·obtain⟨h1,h2,h3⟩:=hus (by omega)
        have hx:xs[off+m]? =some xs[off+m]:=eG (by omega)
        obtain⟨u,hu1,_,hu3⟩:=hc _ _ hx
        refine⟨us++[u],fun _=>⟨by simp[h1],fun j v hv=>?_,?_⟩⟩
        ·rw[List.getElem?_append] at hv
         split at hv
         ·exact h2 j v hv
         ·have:j=m:=by
           rcases bO j (m+1) with hh|hh
           ·omega
           ·rw[gP (by simp;omega)] at hv;cases hv
          subst this
          have:u=v:=by simpa[h1] using hv
          subst this
          rw[o0]
          exact hu1
        ·rw[sk,lf]
         refine h3.append ?_
         have:=eM.one (hp:=bk) (g:=g) (w:=w) (d:=.e (xs.getD (off+m) .any)) (v:=u) (.e _ _ (by rw[List.getD,hx];exact hu3)) hu3.one
         rwa[we hu3.one] at this
       ·exact⟨[],fun h=>absurd h hm⟩
     obtain⟨us,hus⟩:=jp i.size
     obtain⟨h1,h2,h3⟩:=hus (aC _)
     refine⟨_,?_,h3.ag⟩
     have:=t4 tok ht ha w (ad.add off) us h1 h2
     simpa[Instr.loadAt,Instr.sureAddr] using this
   ·rename_i ha
    obtain⟨hle,hk⟩:=h
    refine⟨_,hk,(fun _ _ e=>by cases e),fun bk B g w u IU hr hu=>?_⟩
    cases hu with
    |fp _ _ ad hb hc=>
     have hx:xs[off]? =some xs[off]:=eG hle
     obtain⟨u,hu1,_,hu3⟩:=hc _ _ hx
     refine⟨u,?_,.e _ _ (by rw[List.getD,hx];exact hu3)⟩
     have:=tZ tok ht ha w (ad.add off) u hu1
     simpa[Instr.loadAt,Instr.sureAddr] using this
  ·cases h
 ·cases h
theorem wt {B:Nat}(w:World){b:Nat}(hb:B≤b)(cs:Array Value):Below B w (w.setRow b cs):=
 ⟨rfl,rfl,rfl,by simp[World.setRow],fun k hk=>setRow_other w b k cs (by omega)⟩
theorem GW(tok:TOk P tb){t:TypeId}{d x:D}{hp:Hp}{k:D→Hp→Prop}(h:Cl tb t d x hp k):
  ∃hp',k .top hp'∧∀(B:Nat) (g:Gh) (w:World) (u v:Value),HR B hp g w→aF hp g w d u→aF hp g w x v→
   ∃w',(Instr.storeAt t u v).run P w=.ok () w'∧HR B hp' g w'∧bu hp g w hp' g w'∧Below B w w':=by
 unfold Cl at h
 split at h
 ·rename_i j off
  split at h
  ·rename_i i ds cs ht hv hx
   obtain⟨hl,hle,hk⟩:=h
   refine⟨_,hk,fun B g w u v hr hu hxv=>?_⟩
   cases hu
   obtain⟨cur,ty,hh,S9,wV⟩:=hr.cells hv
   have q9:=hxv.cells hx
   have hsz:v.cells.size=i.size:=by rw[←hl,q9.1.1];simp
   have zY:=run_storeCells_at P (g.μ j) off ty v.cells.toList 0 cur w hh (by simp;omega) q9.2
   have bh:=hr.var_lt hv
   have hB:=(hr.var j ds hv).2.1
   have hcl2:cs.length=v.cells.toList.length:=q9.1.1
   have uh:eM hp g w (ds.take off++cs++ds.drop (off+cs.length)) ((cur.toList.take (off+0)++v.cells.toList++cur.toList.drop (off+0+v.cells.toList.length)).take ds.length):=by
    have:=((S9.take off).append q9).append (S9.drop (off+cs.length))
    rw[q9.1.1] at this ⊢
    have e1:(cur.toList.take (off+0)++v.cells.toList++cur.toList.drop (off+0+v.cells.toList.length)).take ds.length=((cur.toList.take ds.length).take off++v.cells.toList)++(cur.toList.take ds.length).drop (off+v.cells.toList.length):=by
     rw[MU,e9 (by simp;omega),DJ,Am,qV (by omega)]
     congr 2
     simp
     omega
    rw[e1]
    exact this
   have J9:SzB w (w.setRow (g.μ j) (cur.toList.take (off+0)++v.cells.toList++cur.toList.drop (off+0+v.cells.toList.length)).toArray) (g.μ j):=SzB.row hh (by simp;omega)
   have S3:=setRow_heap w (g.μ j) cur (cur.toList.take (off+0)++v.cells.toList++cur.toList.drop (off+0+v.cells.toList.length)).toArray ty (0,0) hh
   refine⟨_,?_,hr.setVar hv _ _ ty (by simp[World.setRow]) (fun b hb=>setRow_other w _ b _ hb) S3 (by simp;omega) J9 (fun n u hu=>?_),bu.setVar hr hv _ (by simp[World.setRow]) (fun b hb=>setRow_other w _ b _ hb) J9,wt w hB _⟩
   ·have h2:=tok.run_sizeOf ht w
    simp[Instr.storeAt,Instr.sureAddr,storeVar,Sem.run_bind,h2,hsz,zY]
   ·have te:(cur.toList.take (off+0)++v.cells.toList++cur.toList.drop (off+0+v.cells.toList.length))[n]? =some u:=by simpa using hu
    have hw:n<ds.length→((cur.toList.take (off+0)++v.cells.toList++cur.toList.drop (off+0+v.cells.toList.length)).take ds.length)[n]? =some u:=fun hn=>by
     rw[fY,an hn];exact te
    have Qi:(ds.take off++cs++ds.drop (off+cs.length)).length=ds.length:=by simp;omega
    exact⟨fun hn=>uh.2 u (bL (hw (by omega))),fun d hd=>uh.1.2 n d u hd (hw (by rw[←Qi];exact (lV.1 hd).1))⟩
  ·cases h
 ·cases h
end
end
section
section
variable {P:Program} {tb:TypeId→Option TyE} {hp:Hp} {g:Gh} {w:World} {B:Nat}
theorem Cr(tok:TOk P tb):∀(fields:List Field) (_:∀f∈fields.map (fun f=>(f.offset,f.type)),(tb f.2).isSome=true) (w:World),
  (fields.mapM fun f=>do pure (f.offset,←sizeOf f.type):Sem (List (Nat×Nat))).run P w=.ok (fields.map fun f=>(f.offset,((tb f.type).map TyE.size).getD 0)) w
 |[],_,w=>by simp
 |f::fs,h,w=>by
  have h1:=h (f.offset,f.type) (by simp)
  cases ht:tb f.type with
  |none=>simp[ht] at h1
  |some i=>
   have h2:=tok.run_sizeOf ht w
   have ih:=Cr tok fs (fun x hx=>h x (by simp only[gZ,e8];exact .inr hx)) w
   simp only[List.mapM_cons,Sem.run_bind,h2,Result.andThen_ok,Sem.run_pure,ih,gZ,ht,nr,wv]
theorem EP(fields:List Field)(h:∀f∈fields.map (fun f=>(f.offset,f.type)),(tb f.2).isSome=true)(i:Nat):
  (fields.map fun f=>(f.offset,((tb f.type).map TyE.size).getD 0))[i]? =mV tb (fields.map fun f=>(f.offset,f.type)) i:=by
 unfold mV
 rw[bE,bE]
 cases hf:fields[i]? with
 |none=>rfl
 |some f=>
  have h1:=h (f.offset,f.type) (by
   refine nz.2 ⟨f,bL hf,rfl⟩)
  cases ht:tb f.type with
  |none=>simp[ht] at h1
  |some i=>simp[ht]
theorem BV {place:Nat→Option (Nat×Nat)}{cells:Array Value}{parts:List (Nat×Value)}{l:List Value}(h:fJ place cells.toList (parts.map fun p=>(p.1,p.2.cells.toList))=some l):Instr.fill place cells parts=some l.toArray:=by
 rcases Kp place parts cells with h2|h2
 ·rw[h2,h]
 ·rw[h] at h2;cases h2
theorem H5(tok:TOk P tb){t:TypeId}{ps:List (Nat×Operand)}{ev:Operand→D}{k:D→Prop}(h:DB tb t (ps.map fun p=>(p.1,ev p.2)) k):
  ∃d',k d'∧∀(hp:Hp) (g:Gh) (w:World) (ρ:Operand→Value),(∀p∈ps,aF hp g w (ev p.2) (ρ p.2))→∃v,(Instr.build t (ps.map fun p=>(p.1,ρ p.2)).toArray).run P w=.ok v w∧aF hp g w d' v:=by
 unfold DB at h
 split at h
 ·rename_i i qs ht hq
  split at h
  ·rename_i fs i8
   obtain⟨hsz,h⟩:=h
   split at h
   ·rename_i ds EA
    refine⟨_,h,fun hp g w ρ hρ=>?_⟩
    obtain⟨fields,hu,FN⟩:=tok.struct ht i8
    obtain⟨z,hz,Br⟩:=tok.run_zero ht w
    obtain⟨h1,h2⟩:=tx hρ hq
    have h0:=eM.lits (hp:=hp) (g:=g) (w:=w) i.zero (tok t i ht).2.2.2
    obtain⟨vs,h3,h4⟩:=vo _ EA h0.1 h1
    have h5:=pi h3 h0.2 h2
    subst FN
    have Oj:=Cr tok fields.toList hsz w
    have hfun:(fun x=>(fields.toList.map fun f=>(f.offset,((tb f.type).map TyE.size).getD 0)).toArray[x]?)=mV tb (fields.toList.map fun f=>(f.offset,f.type)):=by
     funext n
     rw[←EP _ hsz n]
     simp
    rw[←Br] at h3
    have AX:=BV (parts:=ps.map fun p=>(p.1,ρ p.2)) h3
    refine⟨_,?_,(eM.ag ⟨h4,h5⟩)⟩
    rw[←hfun] at AX
    simp only[Instr.build,Sem.run_bind,hz,Result.andThen_ok,run_underlying hu,In,Sem.run_map,Oj]
    simp only[AX,Sem.run_pure]
   ·cases h
  ·rename_i n e i8
   split at h
   ·rename_i j he
    split at h
    ·rename_i ds EA
     refine⟨_,h,fun hp g w ρ hρ=>?_⟩
     have hu:=tok.arr ht i8
     obtain⟨z,hz,Br⟩:=tok.run_zero ht w
     obtain⟨h1,h2⟩:=tx hρ hq
     have h0:=eM.lits (hp:=hp) (g:=g) (w:=w) i.zero (tok t i ht).2.2.2
     obtain⟨vs,h3,h4⟩:=vo _ EA h0.1 h1
     have h5:=pi h3 h0.2 h2
     rw[←Br] at h3
     have AX:=BV (parts:=ps.map fun p=>(p.1,ρ p.2)) h3
     refine⟨_,?_,(eM.ag ⟨h4,h5⟩)⟩
     have hs:=tok.run_sizeOf he w
     simp only[Instr.build,Sem.run_bind,hz,Result.andThen_ok,run_underlying hu,hs]
     simp only[AX,Sem.run_pure]
    ·cases h
   ·cases h
  ·cases h
 ·cases h
theorem cG.new {F:Addr→Prop}{z n:Nat}{xs:List E}(us:List Value)(e:TypeId)(hz:0<z)(hl:xs.length=n*z)(hn:n≤maxLen)(hF:∀p:Addr,p.block=w.heap.size→¬F p)(h:Pw (cG w F) xs us):
  cG (w.alloc (.cells us.toArray e)) F (.sl z n xs) (.slice (some ⟨w.heap.size,0,none⟩) n n):=by
 refine .sl z n xs _ n (fun j=>us.getD j undef) hl hz (aC _) hn (fun _=>⟨_,rfl,by simp⟩) (fun ad ha j x hx=>?_) (fun j x hx=>?_)
 ·injection ha with ha
  subst ha
  obtain⟨u,hu,_⟩:=h.get hx
  refine⟨?_,hF _ (by rw[iX])⟩
  rw[Addr.add_lit,World.cell?_alloc_at _ _ _ _ rfl]
  simp[List.getD,hu]
 ·obtain⟨u,hu,hr⟩:=h.get hx
  have:us.getD j undef=u:=by simp[List.getD,hu]
  rw[this]
  exact hr.mono (by simp) (fun p hp _=>World.cell?_alloc_lt w _ p hp) (fun _ _ h=>h)
theorem qT {d:D}{v:Value}{z n:Nat}{xs:List E}(h:aF hp g w d v)(ha:d.asSl z=some (n,xs)):∃A c,v=.slice A n c∧cG w g.F (.sl z n xs) (.slice A n c):=by
 have gen:∀{z' n':Nat} {Q6:List E} {v:Value},cG w g.F (.sl z' n' Q6) v→(if z'=z then some (n',Q6) else none)=some (n,xs)→∃A c,v=.slice A n c∧cG w g.F (.sl z n xs) (.slice A n c):=by
  intro z' n' Q6 v h hq
  split at hq
  ·rename_i hz
   subst hz
   injection hq with hq
   injection hq with h1 h2
   subst h1;subst h2
   cases h with
   |sl _ _ _ A c us hl hz oo nR hA hc hr=>exact⟨A,c,rfl,.sl _ _ _ A c us hl hz oo nR hA hc hr⟩
  ·cases hq
 cases h with
 |e x v h=>
  cases h with
  |lit u h1=>
   unfold D.asSl at ha
   split at ha
   ·rename_i heq;cases heq
   ·rename_i heq;cases heq
   ·rename_i heq;cases heq
   ·rename_i heq
    injection heq with heq
    injection heq with heq
    subst heq
    split at ha
    ·cases ha
    ·rename_i hz
     injection ha with ha
     injection ha with h1 h2
     subst h1;subst h2
     exact⟨none,0,rfl,.sl z 0 [] none 0 (fun _=>undef) (by simp) (by omega) (aC _) (by decide) (fun h=>absurd h (by omega)) (fun _ h=>by cases h) (fun _ _ h=>by simp at h)⟩
   ·cases ha
  |any v h1=>simp[D.asSl] at ha
  |sl z' n' Q6 A c us hl hz oo nR hA hc hr=>exact gen (.sl z' n' Q6 A c us hl hz oo nR hA hc hr) ha
 |own id z' n' Q6 v h hid ht=>exact gen h ha
 |fu z' n' Q6 A h=>exact gen h ha
 |_=>simp[D.asSl] at ha
theorem cG.reads {F:Addr→Prop}{z n:Nat}{xs:List E}{A:Option Addr}{c:Nat}(h:cG w F (.sl z n xs) (.slice A n c)):
  xs.length=n*z∧0<z∧n≤c∧c≤maxLen∧(0<n→∃ad,A=some ad∧ad.block<w.heap.size)∧∃us:List Value,us.length=n*z∧(∀ad,A=some ad→∀j u,us[j]? =some u→w.cell? (ad.add j)=some u∧¬F (ad.add j))∧Pw (cG w F) xs us:=by
 cases h with
 |sl _ _ _ _ _ us hl hz oo nR hA hc hr=>
  refine⟨hl,hz,oo,nR,hA,(List.range (n*z)).map us,by simp,fun ad ha j u hu=>?_,⟨by simp[hl],fun j x y hx hy=>?_⟩⟩
  ·have hj:j<n*z:=by
    rcases bO j (n*z) with hh|hh
    ·exact hh
    ·rw[gP (by simpa using hh)] at hu;cases hu
   have:us j=u:=by simpa[hj] using hu
   subst this
   exact hc ad ha j _ (eG (by omega))
  ·have hj:j<n*z:=by
    rcases bO j (n*z) with hh|hh
    ·exact hh
    ·rw[gP (by simpa using hh)] at hy;cases hy
   have:us j=y:=by simpa[hj] using hy
   subst this
   exact hr j x hx
theorem cG.fp {z n:Nat}{xs:List E}{A:Option Addr}{c:Nat}(h:cG w g.F (.sl z n xs) (.slice A n c))(hn:0<n):∃ad,A=some ad∧∀off,aF hp g w (.fp xs off) (.pointer (some (ad.add off))):=by
 obtain⟨_,_,_,_,hA,us,_,hc,hp⟩:=h.reads
 obtain⟨ad,rfl,hb⟩:=hA hn
 refine⟨ad,rfl,fun off=>.fp xs off ad hb (fun j x hx=>?_)⟩
 obtain⟨u,hu,hr⟩:=hp.get hx
 obtain⟨h1,h2⟩:=hc ad rfl j u hu
 exact⟨u,h1,h2,hr⟩
theorem cG.cut {F:Addr→Prop}{z n:Nat}{xs:List E}{A:Option Addr}{c:Nat}(h:cG w F (.sl z n xs) (.slice A n c))(l m c':Nat)(hle:l+m≤n)(hmc:m≤c')(Tg:c'≤maxLen)(A':Option Addr)(IY:0<m→A'=A.map (·.add (l*z))):
  cG w F (.sl z m ((xs.drop (l*z)).take (m*z))) (.slice A' m c'):=by
 obtain⟨hl,hz,oo,nR,hA,us,Le,hc,hp⟩:=h.reads
 have hlm:(l+m)*z≤n*z:=bY _ hle
 rw[aX] at hlm
 refine .sl z m _ A' c' (fun j=>us.getD (l*z+j) undef) (by rw[cz,fZ,hl];omega) hz hmc Tg (fun hm=>?_) (fun ad ha j x hx=>?_) (fun j x hx=>?_)
 ·obtain⟨ad,rfl,hb⟩:=hA (by omega)
  exact⟨ad.add (l*z),by rw[IY hm];rfl,by rw[iX];exact hb⟩
 ·rw[fY] at hx
  split at hx
  ·rename_i hj
   rw[nt] at hx
   have hm:0<m:=by
    rcases rY m with h0|h0
    ·subst h0;omega
    ·exact h0
   obtain⟨ad0,rfl,_⟩:=hA (by omega)
   rw[IY hm] at ha
   have:ad0.add (l*z)=ad:=by simpa using ha
   subst this
   obtain⟨u,hu,hr⟩:=hp.get hx
   obtain⟨h1,h2⟩:=hc ad0 rfl _ u hu
   rw[o0]
   refine⟨?_,h2⟩
   simp only[List.getD,hu,wv]
   exact h1
  ·cases hx
 ·rw[fY] at hx
  split at hx
  ·rw[nt] at hx
   obtain⟨u,hu,hr⟩:=hp.get hx
   simpa only[List.getD,hu,wv] using hr
  ·cases hx
theorem n6 {b:Option Operand}{ev:Operand→D}{Fc:Int}{k:Int→Prop}(h:oX (b.map ev) Fc k):
  (b=none∧k Fc)∨∃x i,b=some x∧k i∧∀(hp:Hp) (g:Gh) (w:World) (v:Value),aF hp g w (ev x) v→∃kd,v=.int kd i:=by
 cases b with
 |none=>exact .inl ⟨rfl,h⟩
 |some x=>
  simp only[nr,oX] at h
  split at h
  ·rename_i heq;cases heq
  ·rename_i kd i heq
   injection heq with heq
   refine .inr ⟨x,i,rfl,h,fun hp g w v hv=>?_⟩
   rw[heq] at hv
   cases hv with
   |e _ _ h=>cases h;exact⟨kd,rfl⟩
  ·cases h
theorem aF.lit {u v:Value}(h:aF hp g w (.e (.lit u)) v):v=u:=by
 cases h with
 |e _ _ h=>cases h;rfl
theorem jW(b:Bool)(len cap:Nat)(lo hi:Option Value)(l h:Nat)(hl:lo=none∧l=0∨∃kd,lo=some (.int kd (l:Int)))(hh:hi=none∧h=len∨∃kd,hi=some (.int kd (h:Int)))(h1:l≤h)(h2:h≤cap):
  (Instr.sliceBounds b len cap lo hi none).run P w=.ok (l,h,cap) w:=by
 have n1:¬(l:Int)<0:=by omega
 rcases hl with⟨rfl,rfl⟩|⟨kd,rfl⟩ <;> rcases hh with⟨rfl,rfl⟩|⟨kd',rfl⟩ <;>
  simp[Instr.sliceBounds,run_sliceBound,h1,h2]
theorem GY(tok:TOk P tb){t:TypeId}{x:Operand}{lo hi mx:Option Operand}{ev:Operand→D}{k:D→Prop}(h:Co tb t (ev x) (lo.map ev) (hi.map ev) (mx.map ev) k):
  ∃d',k d'∧∀(hp:Hp) (g:Gh) (w:World) (ρ:Operand→Value),aF hp g w (ev x) (ρ x)→(∀y,lo=some y∨hi=some y∨mx=some y→aF hp g w (ev y) (ρ y))→
   ∃v,(Instr.sliceAt t (ρ x) (lo.map ρ) (hi.map ρ) (mx.map ρ)).run P w=.ok v w∧aF hp g w d' v:=by
 unfold Co at h
 split at h
 ·rename_i ti ht
  split at h
  ·rename_i e i8
   have hu:=tok.slice ht i8
   split at h
   ·rename_i j he
    split at h
    ·rename_i n xs ha
     obtain⟨l,C8,h⟩:∃l:Int,(lo=none∧l=0∨∃y,lo=some y∧∀(hp:Hp) (g:Gh) (w:World) (v:Value),aF hp g w (ev y) v→∃kd,v=.int kd l)∧oX (hi.map ev) n fun h=>(0≤l∧l≤h∧h≤(n:Int))∧match mx.map ev with
       |none=>k (.e (.sl j.size (h - l).toNat ((xs.drop (l.toNat*j.size)).take ((h - l).toNat*j.size))))
       |some m=>oX (some m) 0 fun m=>(hi.map ev).isSome=true∧m=h∧k (.fu j.size (h - l).toNat ((xs.drop (l.toNat*j.size)).take ((h - l).toNat*j.size))):=by
      rcases n6 h with⟨h1,h2⟩|⟨y,i,h1,h2,h3⟩
      ·exact⟨0,.inl ⟨h1,rfl⟩,h2⟩
      ·exact⟨i,.inr ⟨y,h1,h3⟩,h2⟩
     obtain⟨hh,Lg,⟨h0,hlh,hhn⟩,h⟩:∃hh:Int,(hi=none∧hh=n∨∃y,hi=some y∧∀(hp:Hp) (g:Gh) (w:World) (v:Value),aF hp g w (ev y) v→∃kd,v=.int kd hh)∧(0≤l∧l≤hh∧hh≤(n:Int))∧match mx.map ev with
       |none=>k (.e (.sl j.size (hh - l).toNat ((xs.drop (l.toNat*j.size)).take ((hh - l).toNat*j.size))))
       |some m=>oX (some m) 0 fun m=>(hi.map ev).isSome=true∧m=hh∧k (.fu j.size (hh - l).toNat ((xs.drop (l.toNat*j.size)).take ((hh - l).toNat*j.size))):=by
      rcases n6 h with⟨h1,h2⟩|⟨y,i,h1,h2,h3⟩
      ·exact⟨n,.inl ⟨h1,rfl⟩,h2⟩
      ·exact⟨i,.inr ⟨y,h1,h3⟩,h2⟩
     obtain⟨L,rfl⟩:∃L:Nat,l=L:=⟨l.toNat,by omega⟩
     obtain⟨H,rfl⟩:∃H:Nat,hh=H:=⟨hh.toNat,by omega⟩
     have e1:((H:Int) - L).toNat=H - L:=by omega
     rw[e1,aD] at h
     cases mx with
     |none=>
      refine⟨_,h,fun hp g w ρ hx hy=>?_⟩
      obtain⟨A,c,hv,cJ⟩:=qT hx ha
      obtain⟨_,hz,oo,nR,_⟩:=cJ.reads
      have hb:=jW (P:=P) (w:=w) true n c (lo.map ρ) (hi.map ρ) L H (by
       rcases C8 with⟨rfl,h9⟩|⟨y,rfl,h9⟩
       ·exact .inl ⟨rfl,by omega⟩
       ·obtain⟨kd,hk⟩:=h9 hp g w _ (hy y (.inl rfl));exact .inr ⟨kd,by simp[hk]⟩) (by
       rcases Lg with⟨rfl,h9⟩|⟨y,rfl,h9⟩
       ·exact .inl ⟨rfl,by omega⟩
       ·obtain⟨kd,hk⟩:=h9 hp g w _ (hy y (.inr (.inl rfl)));exact .inr ⟨kd,by simp[hk]⟩) (by omega) (by omega)
      have hs:=tok.run_sizeOf he w
      refine⟨.slice (if c=L then A else A.map (·.add (L*j.size))) (H - L) (c - L),?_,.e _ _ (cJ.cut L (H - L) (c - L) (by omega) (by omega) (by omega) _ (fun hm=>by rw[ifn_]))⟩
      simp[Instr.sliceAt,Instr.slice,run_underlying hu,hv,hb,hs]
     |some m=>
      rcases n6 (b:=some m) h with⟨h1,_⟩|⟨y,i,h1,⟨h2,lj,h3⟩,h4⟩
      ·cases h1
      injection h1 with h1
      subst h1;subst lj
      refine⟨_,h3,fun hp g w ρ hx hy=>?_⟩
      obtain⟨A,c,hv,cJ⟩:=qT hx ha
      have oo:=cJ.reads.2.2.1
      have nR:=cJ.reads.2.2.2.1
      have q1:L+(H - L)≤n:=by omega
      have q2:H - L≤maxLen:=by omega
      have q3:0<H - L→¬H=L:=by omega
      obtain⟨km,hm⟩:=h4 hp g w _ (hy m (.inr (.inr rfl)))
      have hs:=tok.run_sizeOf he w
      obtain⟨y,rfl⟩:∃y,hi=some y:=by cases hi with|none=>simp at h2|some y=>exact⟨y,rfl⟩
      obtain⟨kh,hk⟩:∃kh,ρ y=.int kh (H:Int):=by
       rcases Lg with⟨h,_⟩|⟨y',h,h'⟩
       ·cases h
       ·injection h with h;subst h
        exact h' hp g w _ (hy y (.inr (.inl rfl)))
      have hHc:H≤c:=by omega
      have hb:(Instr.sliceBounds true n c (lo.map ρ) (some (.int kh (H:Int))) (some (.int km (H:Int)))).run P w=.ok (L,H,H) w:=by
       have hLH:L≤H:=by omega
       rcases C8 with⟨rfl,h9⟩|⟨y',rfl,h9⟩
       ·obtain rfl:L=0:=by omega
        simp[Instr.sliceBounds,run_sliceBound,hHc]
       ·obtain⟨kd,pf⟩:=h9 hp g w _ (hy y' (.inl rfl))
        simp[Instr.sliceBounds,run_sliceBound,hHc,pf,hLH]
      have hcut:=cJ.cut L (H - L) (H - L) q1 (aC _) q2 (if H=L then A else A.map (·.add (L*j.size))) (fun hm=>by rw[az (q3 hm)])
      refine⟨.slice (if H=L then A else A.map (·.add (L*j.size))) (H - L) (H - L),?_,.fu _ _ _ _ hcut⟩
      simp[Instr.sliceAt,Instr.slice,run_underlying hu,hv,hb,hs,hk,hm]
    ·cases h
   ·cases h
  ·rename_i i8
   have hu:=tok.str ht i8
   split at h
   ·rename_i s yZ hmx
    obtain⟨l,C8,h⟩:∃l:Int,(lo=none∧l=0∨∃y,lo=some y∧∀(hp:Hp) (g:Gh) (w:World) (v:Value),aF hp g w (ev y) v→∃kd,v=.int kd l)∧oX (hi.map ev) s.size fun h=>(0≤l∧l≤h∧h≤(s.size:Int))∧k (.e (.lit (.string (s.extract l.toNat h.toNat)))):=by
     rcases n6 h with⟨h1,h2⟩|⟨y,i,h1,h2,h3⟩
     ·exact⟨0,.inl ⟨h1,rfl⟩,h2⟩
     ·exact⟨i,.inr ⟨y,h1,h3⟩,h2⟩
    obtain⟨hh,Lg,⟨h0,hlh,hhn⟩,h⟩:∃hh:Int,(hi=none∧hh=s.size∨∃y,hi=some y∧∀(hp:Hp) (g:Gh) (w:World) (v:Value),aF hp g w (ev y) v→∃kd,v=.int kd hh)∧(0≤l∧l≤hh∧hh≤(s.size:Int))∧k (.e (.lit (.string (s.extract l.toNat hh.toNat)))):=by
     rcases n6 h with⟨h1,h2⟩|⟨y,i,h1,h2,h3⟩
     ·exact⟨s.size,.inl ⟨h1,rfl⟩,h2⟩
     ·exact⟨i,.inr ⟨y,h1,h3⟩,h2⟩
    obtain⟨L,rfl⟩:∃L:Nat,l=L:=⟨l.toNat,by omega⟩
    obtain⟨H,rfl⟩:∃H:Nat,hh=H:=⟨hh.toNat,by omega⟩
    obtain rfl:mx=none:=by cases mx with|none=>rfl|some _=>cases hmx
    refine⟨_,h,fun hp g w ρ hx hy=>?_⟩
    rw[yZ] at hx
    have hv:=hx.lit
    have hb:=jW (P:=P) (w:=w) false s.size s.size (lo.map ρ) (hi.map ρ) L H (by
     rcases C8 with⟨rfl,h9⟩|⟨y,rfl,h9⟩
     ·exact .inl ⟨rfl,by omega⟩
     ·obtain⟨kd,hk⟩:=h9 hp g w _ (hy y (.inl rfl));exact .inr ⟨kd,by simp[hk]⟩) (by
     rcases Lg with⟨rfl,h9⟩|⟨y,rfl,h9⟩
     ·exact .inl ⟨rfl,by omega⟩
     ·obtain⟨kd,hk⟩:=h9 hp g w _ (hy y (.inr (.inl rfl)));exact .inr ⟨kd,by simp[hk]⟩) (by omega) (by omega)
    refine⟨.string (s.extract L H),?_,.e _ _ (.lit _ rfl)⟩
    simp[Instr.sliceAt,Instr.slice,run_underlying hu,hv,hb]
   ·cases h
  ·cases h
 ·cases h
end
end
section
section
variable {P:Program} {tb:TypeId→Option TyE} {hp:Hp} {g:Gh} {w:World} {B:Nat}
theorem Pw.of_any(us:List Value)(h:∀u∈us,u.oneCell'=true):eM hp g w (List.replicate us.length (D.e .any)) us:=by
 refine⟨⟨by simp,fun j x y hx hy=>?_⟩,h⟩
 have:x=D.e .any:=(Ii.1 (bL hx)).2
 subst this
 exact .e _ _ (.any y (h y (bL hy)))
theorem cG.new' {F':Addr→Prop}{z n:Nat}{xs:List E}(us:List Value)(e:TypeId)(hz:0<z)(hl:xs.length=n*z)(hn:n≤maxLen)(hF:∀j,j<n*z→¬F' ⟨w.heap.size,j,none⟩)(h:Pw (cG (w.alloc (.cells us.toArray e)) F') xs us):
  cG (w.alloc (.cells us.toArray e)) F' (.sl z n xs) (.slice (some ⟨w.heap.size,0,none⟩) n n):=by
 refine .sl z n xs _ n (fun j=>us.getD j undef) hl hz (aC _) hn (fun _=>⟨_,rfl,by simp⟩) (fun ad ha j x hx=>?_) (fun j x hx=>?_)
 ·injection ha with ha
  subst ha
  obtain⟨u,hu,_⟩:=h.get hx
  rw[Addr.add_lit,cj]
  refine⟨?_,hF j ?_⟩
  ·rw[World.cell?_alloc_at _ _ _ _ rfl]
   simp[List.getD,hu]
  ·rw[←hl]
   rcases bO j xs.length with hh|hh
   ·exact hh
   ·rw[gP hh] at hx;cases hx
 ·obtain⟨u,hu,hr⟩:=h.get hx
  simpa only[List.getD,hu,wv] using hr
theorem PH(g:Gh)(id:Nat)(v:Value)(n b j:Nat)(hb:v.ownBlock=some b)(hj:j<n):¬(g.tok id v n).F ⟨b,j,none⟩:=by
 rintro (⟨_,h⟩|⟨b',h1,h2,h3⟩)
 ·exact h ⟨hb,hj⟩
 ·have:n≤j:=h3
  omega
theorem n5(tok:TOk P tb){own:Bool}{t:TypeId}{n:Nat}{ps:List (Nat×Operand)}{ev:Operand→D}{k:D→Hp→Prop}(h:eg tb own t n (ps.map fun p=>(p.1,ev p.2)) hp k):
  ∃d' hp',k d' hp'∧∀(B:Nat) (g:Gh) (w:World) (ρ:Operand→Value),HR B hp g w→(∀p∈ps,aF hp g w (ev p.2) (ρ p.2))→
   ∃v g' w',(Instr.buildSlice t n (ps.map fun p=>(p.1,ρ p.2)).toArray).run P w=.ok v w'∧HR B hp' g' w'∧bu hp g w hp' g' w'∧aF hp' g' w' d' v∧Below B w w'∧∀p:Addr,p.block<B→g.F p→g'.F p:=by
 unfold eg at h
 split at h
 ·rename_i i qs ht hq
  split at h
  ·rename_i e i8
   have hu:=tok.slice ht i8
   split at h
   ·rename_i j he
    obtain⟨hz,hsm,h⟩:=h
    split at h
    ·obtain⟨rfl,hk⟩:=h
     refine⟨_,_,hk,fun B g w ρ hr hρ=>?_⟩
     have SO:ps=[]:=by
      cases ps with
      |nil=>rfl
      |cons p ps=>
       simp only[gZ,g6] at hq
       split at hq <;> simp at hq
     subst SO
     have ho:(w.alloc (.cells #[] e)).ownsRow B e j.size (.slice (some ⟨w.heap.size,0,none⟩) 0 0) 0 []:=World.ownsRow_made w #[] 0 hr.base (by decide) (by simp)
     have hv:∀b,(Value.slice (some ⟨w.heap.size,0,none⟩) 0 0).ownBlock=some b→w.heap.size≤b:=fun b hb=>by
      simp[Value.ownBlock] at hb;omega
     have hsz:w.heap.size≤(w.alloc (.cells #[] e)).heap.size:=by simp
     refine⟨.slice (some ⟨w.heap.size,0,none⟩) 0 0,_,w.alloc (.cells #[] e),?_,hr.newTok (e:=(j.size,e)) hz hsz (fun b hb=>heap_alloc_old w _ hb) hv ho,bu.tok hp g hsz (fun b hb=>heap_alloc_old w _ hb) hv,?_,(Below.refl _ _).alloc hr.base _,fun p hp1 bk=>Gh.tok_keep g _ (fun b hb=>cg hr.base (hv b hb)) p hp1 bk⟩
     ·have hs:=tok.run_sizeOf he w
      have h00:∀f:Nat→Value,Array.map f (Array.range 0)=#[]:=fun f=>Ie (by simp)
      simp only[Instr.buildSlice,Sem.run_bind,run_underlying hu,Result.andThen_ok,hs,jJ,pN,Instr.fill,h00]
      rfl
     ·refine .own _ _ _ _ _ (.sl _ 0 [] _ 0 (fun _=>undef) (by simp) hz (aC _) (by decide) (fun h=>absurd h (by omega)) (fun _ _ _ _ h=>by simp at h) (fun _ _ h=>by simp at h)) (dH _) (fun m e' hm=>?_)
      have:some (0,(j.size,e))=some (m,e'):=by rw[←hm];exact ah.symm
      injection this with this
      injection this with h1 h2
      subst h1;subst h2
      exact⟨aC _,rfl,fun _=>(an rfl).symm⟩
    ·rename_i hn0
     split at h
     ·rename_i ds EA
      split at h
      ·rename_i xs hxs
       have main:∀(hp:Hp) (g:Gh) (w:World) (ρ:Operand→Value),(∀p:Addr,g.F p→p.block<w.heap.size)→(∀p∈ps,aF hp g w (ev p.2) (ρ p.2))→∃vs:List Value,(Instr.buildSlice t n (ps.map fun p=>(p.1,ρ p.2)).toArray).run P w=.ok (.slice (some ⟨w.heap.size,0,none⟩) n n) (w.alloc (.cells vs.toArray e))∧
         Pw (cG w g.F) xs vs∧xs.length=n*j.size∧n≤maxLen:=by
        intro hp g w ρ hfits hρ
        have hnp:0<n:=by
         rcases rY n with h0|h0
         ·exact absurd h0 hn0
         ·exact h0
        obtain⟨zv,hzv,Br⟩:=tok.run_zero he w
        obtain⟨_,_,hzl,L1⟩:=tok e j he
        have hzb:∀u∈zv.cells,u.oneCell'=true:=fun u hu=>(by simpa using L1:∀u∈j.zero,u.oneCell'=true) u (by rw[←Br];simpa using hu)
        have hzs:zv.cells.size=j.size:=by rw[←hzl,←Br];simp
        obtain⟨h1,h2⟩:=tx hρ hq
        obtain⟨zl,hzl'⟩:∃zl,zl=((Array.range (n*j.size)).map (zv.cells[·% zv.cells.size]!)).toList:=⟨_,rfl⟩
        have hlen:zl.length=n*j.size:=by rw[hzl'];simp
        have hone:∀u∈zl,u.oneCell'=true:=by
         intro u hu
         rw[hzl'] at hu
         simp only[Array.toList_map,nz] at hu
         obtain⟨m,_,rfl⟩:=hu
         have bh:m % zv.cells.size<zv.cells.size:=dM _ (by omega)
         rw[bK zv.cells _ bh]
         exact hzb _ (Array.getElem_mem _)
        have h0:=Pw.of_any (hp:=hp) (g:=g) (w:=w) zl hone
        rw[hlen] at h0
        obtain⟨vs,h3,h4⟩:=vo _ EA h0.1 h1
        have h5:=pi h3 h0.2 h2
        rw[hzl'] at h3
        have AX:=BV (parts:=ps.map fun p=>(p.1,ρ p.2)) h3
        have v3:=Dx ⟨h4,h5⟩ hxs
        have fl:∀{α:Type} {place:Nat→Option (Nat×Nat)} {qs:List (Nat×List α)} {ds ds':List α},fJ place ds qs=some ds'→ds'.length=ds.length:=by
         intro α place qs
         induction qs with
         |nil=>intro ds ds' h;simp only[fJ,nq] at h;rw[h]
         |cons q qs ih=>
          obtain⟨q1,q2⟩:=q
          intro ds ds' h
          unfold fJ at h
          split at h
          ·cases h
          ·split at h
           ·cases h
           ·rw[ih h]
            simp only[cN,cz,fZ]
            omega
        have zV:xs.length=n*j.size:=by
         rw[v3.1,←h4.1,fl EA];simp
        have hsm2:¬n*j.size > 2 ^ 24:=by omega
        have lr:¬n*j.size=0:=by
         have:=sW hnp hz
         omega
        have QZ:n≤maxLen:=by
         have:n*1≤n*j.size:=uW _ hz
         unfold maxLen;omega
        refine⟨vs,?_,v3,zV,QZ⟩
        have hs:=tok.run_sizeOf he w
        simp only[Instr.buildSlice,Sem.run_bind,run_underlying hu,Result.andThen_ok,hs,az hsm2,az lr,hzv,Sem.run_pure]
        simp only[AX]
        rfl
       split at h
       ·refine⟨_,_,h,fun B g w ρ hr hρ=>?_⟩
        obtain⟨vs,bm,v3,zV,QZ⟩:=main hp g w ρ hr.fits hρ
        have hvl:vs.length=n*j.size:=by rw[←v3.1,zV]
        have C4:∀b,(Value.slice (some ⟨w.heap.size,0,none⟩) n n).ownBlock=some b→w.heap.size≤b:=fun b hb=>by
         simp[Value.ownBlock] at hb;omega
        have hsz:w.heap.size≤(w.alloc (.cells vs.toArray e)).heap.size:=by simp
        have ho:(w.alloc (.cells vs.toArray e)).ownsRow B e j.size (.slice (some ⟨w.heap.size,0,none⟩) n n) n vs:=
         ⟨hvl,.inr ⟨w.heap.size,n,vs.toArray,rfl,hr.base,heap_alloc_new w _,aC _,QZ,by simpa using hvl,by simp[←hvl]⟩⟩
        have mo:bu hp g w (hp.tok n (j.size,e)) (g.tok hp.next (.slice (some ⟨w.heap.size,0,none⟩) n n) (n*j.size)) (w.alloc (.cells vs.toArray e)):=bu.tok hp g hsz (fun b hb=>heap_alloc_old w _ hb) C4
        refine⟨_,_,_,bm,hr.newTok (e:=(j.size,e)) hz hsz (fun b hb=>heap_alloc_old w _ hb) C4 ho,mo,?_,(Below.refl _ _).alloc hr.base _,fun p hp1 bk=>Gh.tok_keep g _ (fun b hb=>cg hr.base (C4 b hb)) p hp1 bk⟩
        refine .own _ _ _ _ _ (cG.new' vs e hz zV QZ (fun i hi=>PH g _ _ _ _ _ rfl hi) (v3.imp fun _ _ h=>mo.repE h)) (dH _) (fun m e' hm=>?_)
        rw[show (Hp.tok hp _ _).live.lookup _=_ from ah] at hm
        injection hm with hm
        injection hm with h1 h2
        subst h1;subst h2
        exact⟨aC _,rfl,fun _=>(an rfl).symm⟩
       ·refine⟨_,_,h,fun B g w ρ hr hρ=>?_⟩
        obtain⟨vs,bm,v3,zV,QZ⟩:=main hp g w ρ hr.fits hρ
        exact⟨_,g,_,bm,hr.keep (by simp) (fun b hb=>heap_alloc_old w _ hb),bu.keep hp g (by simp) (fun b hb=>heap_alloc_old w _ hb),.fu _ _ _ _ (cG.new vs e hz zV QZ (fun p hp hf=>by have:=hr.fits p hf;omega) v3),(Below.refl _ _).alloc hr.base _,fun _ _ hp=>hp⟩
      ·cases h
     ·cases h
   ·cases h
  ·cases h
 ·cases h
theorem yC {t:TypeId}{n:Nat}{ps:List (Nat×D)}{k:D→Hp→Prop}(hn:n≠0)(h:eg tb false t n ps hp k):∃d,k d hp∧∀bk,eg tb false t n ps bk fun d' h'=>d'=d∧h'=bk:=by
 unfold eg at h ⊢
 split at h
 ·split at h
  ·split at h
   ·obtain⟨hz,hsm,h⟩:=h
    split at h
    ·exact absurd rfl hn
    ·split at h
     ·split at h
      ·dsimp only at h
       exact⟨_,h,fun bk=>by simp only[*,and_self]⟩
      ·cases h
     ·cases h
   ·cases h
  ·cases h
 ·cases h
theorem sS {own:Bool}{t:TypeId}{n:Nat}{ps:List (Nat×D)}{k:D→Hp→Prop}(h:eg tb own t n ps hp k):eg tb own t n ps hp fun d' h'=>k d' h'∧h'.vars=hp.vars∧hp.next≤h'.next:=by
 have h3:∀n e,(hp.tok n e).vars=hp.vars:=fun _ _=>rfl
 have h4:∀n e,hp.next≤(hp.tok n e).next:=fun _ _=>eQ _
 have h5:=aC hp.next
 unfold eg at h ⊢
 split at h
 ·split at h
  ·split at h
   ·obtain⟨hz,hsm,h⟩:=h
    split at h
    ·obtain⟨h1,h2⟩:=h
     simp only[*,and_self]
    ·split at h
     ·split at h
      ·cases own
       ·dsimp only at h
        simp only[*,and_self]
       ·dsimp only at h
        simp only[*,and_self]
      ·cases h
     ·cases h
   ·cases h
  ·cases h
 ·cases h
theorem wr(tok:TOk P tb){s:TypeId}{f:Nat}{k:Nat→Nat→Bool→Prop}(h:pF tb s f k):
  ∃(fields:Array Field) (fd:Field) (j:TyE),P.underlying s=some (.struct fields)∧fields[f]? =some fd∧tb fd.type=some j∧k fd.offset j.size j.ty.agg:=by
 unfold pF at h
 split at h
 ·rename_i i ht
  split at h
  ·rename_i fs i8
   obtain⟨fields,hu,FN⟩:=tok.struct ht i8
   split at h
   ·rename_i off t hf
    split at h
    ·rename_i j hj
     rw[←FN,bE] at hf
     cases hfd:fields.toList[f]? with
     |none=>simp[hfd] at hf
     |some fd=>
      simp only[hfd,nr,nq,Prod.mk.injEq] at hf
      obtain⟨h1,h2⟩:=hf
      subst h1;subst h2
      exact⟨fields,fd,j,hu,by simpa using hfd,hj,h⟩
    ·cases h
   ·cases h
  ·cases h
 ·cases h
theorem Aa(tok:TOk P tb){s:TypeId}{f:Nat}{d:D}{k:D→Prop}(h:oU tb s f d k):
  ∃d',k d'∧∀(hp:Hp) (g:Gh) (w:World) (u:Value),aF hp g w d u→∃v,(Instr.fieldAt s u f).run P w=.ok v w∧aF hp g w d' v:=by
 unfold oU at h
 obtain⟨fields,fd,j,hu,hf,hj,hz,h⟩:=wr tok h
 have bm:∀(w:World) (ad:Addr),(Instr.fieldAt s (.pointer (some ad)) f).run P w=.ok (.pointer (some (ad.add fd.offset))) w:=by
  intro w ad
  have hs:=tok.run_sizeOf hj w
  simp[Instr.fieldAt,run_underlying hu,hf,Instr.sureAddr,fieldPlace,hs,hz]
 split at h
 ·rename_i v off
  refine⟨_,h,fun hp g w u hr=>?_⟩
  cases hr with
  |pt _ _ hk=>
   refine⟨_,bm w _,?_⟩
   rw[Addr.add_lit]
   exact .pt _ _ hk
 ·rename_i xs off
  refine⟨_,h,fun hp g w u hr=>?_⟩
  cases hr with
  |fp _ _ ad hb hc=>
   refine⟨_,bm w _,?_⟩
   rw[o0]
   exact .fp _ _ ad hb hc
 ·cases h
theorem tw(tok:TOk P tb){t:TypeId}{j:TyE}(hj:tb t=some j)(ha:j.ty.agg=true)(cs:Array Value)(off:Nat)(w:World):(part t cs off).run P w=.ok (.agg (cs.extract off (off+j.size))) w:=by
 have h1:=tok.run_isAgg hj w
 have h2:=tok.run_sizeOf hj w
 rw[ha] at h1
 simp[part,h1,h2]
theorem tv(tok:TOk P tb){t:TypeId}{j:TyE}(hj:tb t=some j)(ha:j.ty.agg=false)(cs:Array Value)(off:Nat)(v:Value)(hv:cs[off]? =some v)(w:World):(part t cs off).run P w=.ok v w:=by
 have h1:=tok.run_isAgg hj w
 rw[ha] at h1
 simp[part,h1,hv]
theorem sZ {ds:List D}{u:Value}(h:aF hp g w (.ag ds) u):∃cs:Array Value,u=.agg cs∧eM hp g w ds cs.toList:=by
 have hc:=h.cells (cs:=ds) rfl
 cases h with
 |ag _ cs hl h1 hr=>exact⟨cs,rfl,hc⟩
theorem ws {cs:Array Value}(off n:Nat):(cs.toList.drop off).take n=(cs.extract off (off+n)).toList:=by
 rw[Array.toList_extract,List.extract_eq_take_drop,yH]
theorem HU(tok:TOk P tb){s:TypeId}{f:Nat}{d:D}{k:D→Prop}(h:Dh tb s f d k):
  ∃d',k d'∧∀(hp:Hp) (g:Gh) (w:World) (u:Value),aF hp g w d u→∃v,(Instr.field s u f).run P w=.ok v w∧aF hp g w d' v:=by
 unfold Dh at h
 obtain⟨fields,fd,j,hu,hf,hj,h⟩:=wr tok h
 split at h
 ·rename_i ds
  split at h
  ·rename_i ha
   obtain⟨hle,hk⟩:=h
   refine⟨_,hk,fun hp g w u hr=>?_⟩
   obtain⟨cs,rfl,q9⟩:=sZ hr
   refine⟨_,?_,((q9.drop fd.offset).take j.size).ag⟩
   have h1:=tw tok hj ha cs fd.offset w
   simp only[Instr.field,Sem.run_bind,run_underlying hu,Result.andThen_ok,hf,asAgg,Sem.run_pure,h1,ws]
  ·rename_i ha
   obtain⟨d',AY,hk⟩:=h
   refine⟨_,hk,fun hp g w u hr=>?_⟩
   obtain⟨cs,rfl,q9⟩:=sZ hr
   obtain⟨y,hy,cJ⟩:=q9.1.get AY
   refine⟨y,?_,cJ⟩
   have h1:=tv tok hj ha cs fd.offset y (by simpa using hy) w
   simp only[Instr.field,Sem.run_bind,run_underlying hu,Result.andThen_ok,hf,asAgg,Sem.run_pure,h1]
 ·cases h
theorem zU(tok:TOk P tb){t:TypeId}{d i:D}{k:D→Prop}(h:oN tb t d i k):
  ∃d',k d'∧∀(hp:Hp) (g:Gh) (w:World) (u v:Value),aF hp g w d u→aF hp g w i v→∃r,(Instr.indexAt t u v).run P w=.ok r w∧aF hp g w d' r:=by
 unfold oN at h
 split at h
 ·rename_i ti kd x ht
  split at h
  ·rename_i e i8
   have hu:=tok.slice ht i8
   split at h
   ·rename_i j he
    split at h
    ·rename_i n xs ha
     obtain⟨⟨h0,h1⟩,hk⟩:=h
     refine⟨_,hk,fun hp g w u v hr hi=>?_⟩
     obtain rfl:=hi.lit
     obtain⟨A,c,rfl,cJ⟩:=qT hr ha
     obtain⟨ad,rfl,hfp⟩:=cJ.fp (hp:=hp) (show 0<n by omega)
     have hs:=tok.run_sizeOf he w
     exact⟨_,by simp[Instr.indexAt,asIntOf,run_underlying hu,hs,h0,h1],hfp _⟩
    ·split at h
     ·rename_i vv off z n
      obtain⟨rfl,⟨h0,h1⟩,hk⟩:=h
      refine⟨_,hk,fun hp g w u v hr hi=>?_⟩
      obtain rfl:=hi.lit
      cases hr with
      |ow _ _ _ _ c Qk oo nR=>
       have hs:=tok.run_sizeOf he w
       refine⟨.pointer (some ((⟨_,_,none⟩:Addr).add (x.toNat*j.size))),?_,by rw[Addr.add_lit];exact .pt _ _ Qk⟩
       simp[Instr.indexAt,asIntOf,run_underlying hu,hs,h0,h1]
     ·cases h
   ·cases h
  ·rename_i n e i8
   have hu:=tok.arr ht i8
   split at h
   ·rename_i j vv off he
    obtain⟨⟨h0,h1⟩,hk⟩:=h
    refine⟨_,hk,fun hp g w u v hr hi=>?_⟩
    obtain rfl:=hi.lit
    cases hr with
    |pt _ _ Qk=>
     have hs:=tok.run_sizeOf he w
     refine⟨.pointer (some ((⟨_,_,none⟩:Addr).add (x.toNat*j.size))),?_,by rw[Addr.add_lit];exact .pt _ _ Qk⟩
     simp[Instr.indexAt,asIntOf,run_underlying hu,Instr.sureAddr,hs,h0,h1]
   ·rename_i j xs off he
    obtain⟨⟨h0,h1⟩,hk⟩:=h
    refine⟨_,hk,fun hp g w u v hr hi=>?_⟩
    obtain rfl:=hi.lit
    cases hr with
    |fp _ _ ad hb hc=>
     have hs:=tok.run_sizeOf he w
     refine⟨.pointer (some ((ad.add off).add (x.toNat*j.size))),?_,?_⟩
     ·simp[Instr.indexAt,asIntOf,run_underlying hu,Instr.sureAddr,hs,h0,h1]
     ·rw[o0]
      exact .fp _ _ ad hb hc
   ·cases h
  ·cases h
 ·cases h
theorem Hy(tok:TOk P tb){t:TypeId}{d i:D}{k:D→Prop}(h:zT tb t d i k):
  ∃d',k d'∧∀(hp:Hp) (g:Gh) (w:World) (u v:Value),aF hp g w d u→aF hp g w i v→∃r,(Instr.index t u v).run P w=.ok r w∧aF hp g w d' r:=by
 unfold zT at h
 split at h
 ·rename_i ti kd x ht
  split at h
  ·rename_i s i8
   have hu:=tok.str ht i8
   obtain⟨⟨h0,h1⟩,hk⟩:=h
   refine⟨_,hk,fun hp g w u v hr hi=>?_⟩
   obtain rfl:=hi.lit
   obtain rfl:=hr.lit
   refine⟨.int .u8 ((s.data.toList.getD x.toNat 0).toNat:Int),?_,.e _ _ (.lit _ rfl)⟩
   have bh:x.toNat<s.size:=by omega
   have E4:s[x.toNat]? =some s[x.toNat]:=getElem?_pos s x.toNat bh
   have C9:s.data.toList.getD x.toNat 0=s[x.toNat]:=by
    have hlt':x.toNat<s.data.size:=bh
    rw[List.getD,n8,pX hlt']
    rfl
   simp only[Instr.index,Sem.run_bind,asIntOf,Sem.run_pure,Result.andThen_ok,run_underlying hu,an h0,E4,C9]
  ·rename_i n e ds i8
   have hu:=tok.arr ht i8
   split at h
   ·rename_i j he
    obtain⟨⟨h0,h1⟩,h⟩:=h
    have hs:=fun w=>tok.run_sizeOf he w
    split at h
    ·rename_i ha
     obtain⟨hle,hk⟩:=h
     refine⟨_,hk,fun hp g w u v hr hi=>?_⟩
     obtain rfl:=hi.lit
     obtain⟨cs,rfl,q9⟩:=sZ hr
     refine⟨_,?_,((q9.drop (x.toNat*j.size)).take j.size).ag⟩
     have h2:=tw tok he ha cs (x.toNat*j.size) w
     have AZ:0≤x∧x<(n:Int):=⟨h0,h1⟩
     simp only[Instr.index,asIntOf,Sem.run_bind,Sem.run_pure,run_underlying hu,Result.andThen_ok,an AZ,hs,h2,ws]
    ·rename_i ha
     obtain⟨d',AY,hk⟩:=h
     refine⟨_,hk,fun hp g w u v hr hi=>?_⟩
     obtain rfl:=hi.lit
     obtain⟨cs,rfl,q9⟩:=sZ hr
     obtain⟨y,hy,cJ⟩:=q9.1.get AY
     refine⟨y,?_,cJ⟩
     have h2:=tv tok he ha cs (x.toNat*j.size) y (by simpa using hy) w
     have AZ:0≤x∧x<(n:Int):=⟨h0,h1⟩
     simp only[Instr.index,asIntOf,Sem.run_bind,Sem.run_pure,run_underlying hu,Result.andThen_ok,an AZ,hs,h2]
   ·cases h
  ·cases h
 ·cases h
theorem GV(a b:ByteArray):(a.toList == b.toList)=decide (a=b):=by
 rw[uT,beq_iff_eq,mu,ByteArray.toList_eq,ByteArray.toList_eq]
 constructor
 ·intro h
  cases a;cases b
  congr 1
  exact j6.1 h
 ·intro h;rw[h]
theorem Fe {op:BinOp}{j:IntKind}{a b:Int}{t:TypeId}{k:Value→Prop}(h:H6 op j a b k)(hs:op≠.shl∧op≠.shr):∃r,k r∧r.oneCell'=true∧∀w,(binOp op t (.int j a) (.int j b)).run P w=.ok r w:=by
 unfold H6 at h
 split at h
 all_goals first
  |(refine⟨_,h,rfl,fun w=>?_⟩;simp[binOp,Op.intArith,Op.intCmp,Op.intBits];done)
  |(obtain⟨hb,h⟩:=h;refine⟨_,h,rfl,fun w=>?_⟩;simp[binOp,Op.intDiv,hb];done)
  |(refine⟨_,h,rfl,fun w=>?_⟩;simp only[binOp,Op.intCmp,ne_eq,Id,m7,Sem.run_pure];congr 2;first|rfl|(rw[uT];simp;done))
  |(refine⟨_,h,rfl,fun w=>?_⟩;simp only[binOp,Op.intCmp,ne_eq,Id,m7,Sem.run_pure];rfl)
  |(refine⟨_,h,rfl,fun w=>?_⟩;simp only[binOp,Op.intCmp,ne_eq,Id,m7,Sem.run_pure,decide_not];rfl)
  |(cases h;done)
theorem MB {op:BinOp}{t:TypeId}{x y:Operand}{ev:Operand→D}{k:Value→Prop}(h:nE P op t (ev x) (ev y) k):
  ∃r,k r∧r.oneCell'=true∧∀(hp:Hp) (g:Gh) (w:World) (ρ:Operand→Value),aF hp g w (ev x) (ρ x)→aF hp g w (ev y) (ρ y)→(do eqGuard op t x y (ρ x) (ρ y);binOp op t (ρ x) (ρ y):Sem Value).run P w=.ok r w:=by
 have guard:∀(a b:Value) (w:World),(match a,b with| .nilIface,.nilIface=>False| .agg _,.agg _=>False|_,_=>True)→(eqGuard op t x y a b).run P w=.ok () w:=by
  intro a b w A2
  unfold eqGuard
  cases op <;> first|rfl|(cases a <;> cases b <;> first|rfl|exact A2.elim)
 unfold nE at h
 split at h
 ·rename_i j a kd b hx hy
  obtain⟨h0,h⟩:=h
  refine⟨_,h,rfl,fun hp g w ρ h1 h2=>?_⟩
  rw[hx] at h1
  rw[hy] at h2
  rw[Sem.run_bind,h1.lit,h2.lit,guard _ _ _ trivial]
  have:¬b<0:=by omega
  simp[binOp,Op.shift,this]
 ·rename_i j a kd b hx hy
  obtain⟨h0,h⟩:=h
  refine⟨_,h,rfl,fun hp g w ρ h1 h2=>?_⟩
  rw[hx] at h1
  rw[hy] at h2
  rw[Sem.run_bind,h1.lit,h2.lit,guard _ _ _ trivial]
  have:¬b<0:=by omega
  simp[binOp,Op.shift,this]
 ·rename_i j a j' b hs1 Oi hx hy
  obtain⟨rfl,h⟩:=h
  obtain⟨r,hk,h1,bm⟩:=Fe (P:=P) (t:=t) h (by constructor <;> (intro e;subst e;simp_all))
  refine⟨r,hk,h1,fun hp g w ρ h1 h2=>?_⟩
  rw[hx] at h1
  rw[hy] at h2
  rw[Sem.run_bind,h1.lit,h2.lit,guard _ _ _ trivial]
  exact bm w
 ·rename_i a b hx hy
  unfold OO at h
  split at h
  ·obtain⟨hl,h⟩:=h
   refine⟨_,h,rfl,fun hp g w ρ h1 h2=>?_⟩
   rw[hx] at h1
   rw[hy] at h2
   rw[Sem.run_bind,h1.lit,h2.lit,guard _ _ _ trivial]
   have hm:¬((a.size+b.size:Nat):Int) > IntKind.i64.max:=by
    have:IntKind.i64.max=9223372036854775807:=by decide
    omega
   simp only[Result.andThen_ok,binOp,Op.stringOp,az hm,Sem.run_pure]
  ·refine⟨_,h,rfl,fun hp g w ρ h1 h2=>?_⟩
   rw[hx] at h1
   rw[hy] at h2
   rw[Sem.run_bind,h1.lit,h2.lit,guard _ _ _ trivial]
   simp only[Result.andThen_ok,binOp,Op.stringOp,Sem.run_pure,GV]
  ·refine⟨_,h,rfl,fun hp g w ρ h1 h2=>?_⟩
   rw[hx] at h1
   rw[hy] at h2
   rw[Sem.run_bind,h1.lit,h2.lit,guard _ _ _ trivial]
   simp only[Result.andThen_ok,binOp,Op.stringOp,Sem.run_pure,GV,decide_not]
  ·cases h
 ·rename_i a b hx hy
  obtain⟨hub,h⟩:=h
  unfold KH at h
  split at h
  ·refine⟨_,h,rfl,fun hp g w ρ h1 h2=>?_⟩
   rw[hx] at h1
   rw[hy] at h2
   rw[Sem.run_bind,h1.lit,h2.lit,guard _ _ _ trivial]
   simp only[Result.andThen_ok]
   exact run_eql_bool w t a b hub
  ·refine⟨_,h,rfl,fun hp g w ρ h1 h2=>?_⟩
   rw[hx] at h1
   rw[hy] at h2
   rw[Sem.run_bind,h1.lit,h2.lit,guard _ _ _ trivial]
   simp only[Result.andThen_ok]
   exact run_neq_bool w t a b hub
  ·cases h
 ·rename_i xs ys hx hy
  split at h
  ·rename_i us vs h3 h4
   obtain⟨r,bm,h1,hk⟩:=h
   refine⟨r,hk,h1,fun hp g w ρ h5 h6=>?_⟩
   have lits:∀{l:List D} {us:List Value} {v:Value},kL l=some us→aF hp g w (.ag l) v→v=.agg us.toArray:=by
    intro l us v hl hv
    obtain⟨cs,rfl,q9⟩:=sZ hv
    have:∀(l:List D) (us cs:List Value),kL l=some us→Pw (aF hp g w) l cs→cs=us:=by
     intro l
     induction l with
     |nil=>
      intro us cs h1 h2
      simp only[kL,nq] at h1
      rw[←h1]
      exact jR h2.1.symm
     |cons d l ih=>
      intro us cs h1 h2
      cases cs with
      |nil=>have:=h2.1;simp at this
      |cons c cs=>
       unfold kL at h1
       split at h1
       ·rename_i heq;cases heq
       ·rename_i v ds heq
        injection heq with e1 e2
        subst e1;subst e2
        cases hl:kL l with
        |none=>simp[hl] at h1
        |some vd=>
         simp only[hl,nr,nq] at h1
         subst h1
         have hc:=(h2.2 0 _ _ rfl rfl:aF hp g w (.e (.lit v)) c).lit
         subst hc
         rw[ih vd cs hl ⟨by have:=h2.1;simpa using this,fun j a b ha hb=>h2.2 (j+1) a b ha hb⟩]
       ·cases h1
    have:=this l us cs.toList hl q9.1
    rw[←this]
   rw[hx] at h5
   rw[hy] at h6
   rw[lits h3 h5,lits h4 h6]
   exact bm w
  ·cases h
 ·cases h
theorem PG {op:UnOp}{d:D}{k:Value→Prop}(h:unV op d k):∃r,k r∧r.oneCell'=true∧∀(hp:Hp) (g:Gh) (w:World) (u:Value),aF hp g w d u→(Op.unary op u).run P w=.ok r w:=by
 unfold unV at h
 split at h
 ·refine⟨_,h,rfl,fun hp g w u hu=>?_⟩
  rw[hu.lit]
  rfl
 ·refine⟨_,h,rfl,fun hp g w u hu=>?_⟩
  rw[hu.lit]
  rfl
 ·cases h
theorem Dz:∀{xs:List E} {bs:List UInt8},vu xs=some bs→xs.length=bs.length∧∀(j:Nat) (b:UInt8),bs[j]? =some b→∃n:Int,xs[j]? =some (E.lit (.int .u8 n))∧b=UInt8.ofNat n.toNat
 |[],bs,h=>by
  simp only[vu,nq] at h
  subst h
  exact⟨rfl,fun j b h=>by simp at h⟩
 |x::xs,bs,h=>by
  unfold vu at h
  split at h
  ·rename_i b bs' h1 h2
   injection h with h
   subst h
   obtain⟨hl,hj⟩:=Dz h2
   refine⟨by simp[hl],fun j c hc=>?_⟩
   cases j with
   |zero=>
    simp only[Un,nq] at hc
    subst hc
    unfold T4 at h1
    split at h1
    ·injection h1 with h1
     exact⟨_,by simp,h1.symm⟩
    ·cases h1
   |succ j=>simpa using hj j c (by simpa using hc)
  ·cases h
theorem Ky(tok:TOk P tb){s t:TypeId}{d:D}{k:D→Prop}(h:Kz tb s t d k):∃r,k r∧∀(hp:Hp) (g:Gh) (w:World) (u:Value),aF hp g w d u→∃v,(convert s t u).run P w=.ok v w∧aF hp g w r v:=by
 unfold Kz at h
 split at h
 ·rename_i i j hi hj
  obtain⟨ds,hs,_⟩:=tok.und hi
  split at h
  ·rename_i jk _ n i8
   refine⟨_,h,fun hp g w u hu=>⟨_,?_,.e _ _ (.lit _ rfl)⟩⟩
   rw[hu.lit]
   simp[convert,run_underlying hs,run_underlying (tok.int hj i8),Conv.intToInt]
  ·rename_i str i8
   refine⟨_,h,fun hp g w u hu=>⟨_,?_,.e _ _ (.lit _ rfl)⟩⟩
   rw[hu.lit]
   simp[convert,run_underlying hs,run_underlying (tok.str hj i8)]
  ·rename_i i8 _
   split at h
   ·rename_i e QY
    split at h
    ·rename_i l he
     obtain⟨hl,h⟩:=h
     split at h
     ·rename_i n xs ha
      split at h
      ·rename_i bs hb
       refine⟨_,h,fun hp g w u hu=>?_⟩
       obtain⟨A,c,hv,cJ⟩:=qT hu ha
       subst hv
       obtain⟨hlen,hat⟩:=Dz hb
       refine⟨_,?_,.e _ _ (.lit _ rfl)⟩
       rw[run_convert_bytes_string w s t e A n c (tok.slice hi QY) (tok.int he hl) (tok.str hj i8)]
       cases cJ with
       |sl _ _ _ _ _ us zV hz oo nR hA hc hr=>
        cases A with
        |none=>
         have hn:n=0:=by
          rcases rY n with h0|h0
          ·exact h0
          ·obtain⟨ad,e,_⟩:=hA h0
           cases e
         subst hn
         have:bs=[]:=jR (by omega)
         subst this
         rfl
        |some a=>
         let ns:List Int:=xs.map fun x=>match x with
          | .lit (.int _ n)=>n
          |_=>0
         have C3:ns.length=n:=by simp only[ns,bc];omega
         have hload:(loadCells a n).run P w=.ok (ns.map (Value.int .u8)).toArray w:=by
          have:=run_loadCells_list (P:=P) w a (ns.map (Value.int .u8)) (fun j v hj=>by
           simp only[ns,kP,bE,rG] at hj
           obtain⟨x,hx,hv⟩:=hj
           have HG:j<bs.length:=by
            rw[←hlen]
            rcases bO j xs.length with h|h
            ·exact h
            ·rw[gP h] at hx;cases hx
           obtain⟨m,hm,_⟩:=hat j _ (eG HG)
           rw[hx] at hm
           injection hm with hm
           subst hm
           obtain⟨h1,_⟩:=hc a rfl j _ hx
           rw[h1]
           have h2:=hr j _ hx
           generalize us j=y at h2
           cases h2
           rw[←hv]
           rfl)
          simpa[C3] using this
         rw[run_bytesToString w a n c ns hload,foldl_push_bytes]
         have:(ns.map fun n=>UInt8.ofNat n.toNat)=bs:=by
          apply DP
          intro j
          rcases bO j bs.length with h|h
          ·obtain⟨m,hm,hb⟩:=hat j _ (eG h)
           rw[eG h,hb]
           simp only[ns,kP,bE,hm,nr,Function.comp]
          ·rw[gP h,gP (by simp only[ns,bc];omega)]
         rw[this]
         simp[ByteArray.empty,ByteArray.emptyWithCapacity]
         rfl
      ·cases h
     ·cases h
    ·cases h
   ·cases h
  ·cases h
 ·cases h
end
end
section
section
variable {P:Program} {tb:TypeId→Option TyE} {hp:Hp} {g:Gh} {w:World} {B:Nat}
theorem LW(tok:TOk P tb){t:TypeId}{d:D}{k:Int→Prop}(h:Sr tb t d k):∃n,k n∧∀(hp:Hp) (g:Gh) (w:World) (ty:TypeId) (u:Value),aF hp g w d u→(Builtin.len_ #[t] ty #[u]).run P w=.ok (.int .i64 n) w:=by
 unfold Sr at h
 split at h
 ·rename_i ti ht
  split at h
  ·rename_i e i8
   have hu:=tok.slice ht i8
   split at h
   ·rename_i j he
    split at h
    ·rename_i n xs ha
     refine⟨_,h,fun hp g w ty u hr=>?_⟩
     obtain⟨A,c,rfl,_⟩:=qT hr ha
     simp[Builtin.len_,run_underlying hu,goInt]
    ·split at h
     ·refine⟨_,h,fun hp g w ty u hr=>?_⟩
      cases hr with
      |ow _ _ _ _ c Qk oo nR=>simp[Builtin.len_,run_underlying hu,goInt]
     ·cases h
   ·cases h
  ·rename_i i8
   have hu:=tok.str ht i8
   split at h
   ·refine⟨_,h,fun hp g w ty u hr=>?_⟩
    rw[hr.lit]
    simp[Builtin.len_,run_underlying hu,goInt]
   ·cases h
  ·rename_i n e i8
   have hu:=tok.arr ht i8
   refine⟨_,h,fun hp g w ty u hr=>?_⟩
   simp[Builtin.len_,run_underlying hu,goInt]
  ·cases h
 ·cases h
inductive US (P:Program) (t t':TypeId) (F:Addr→Prop) (w:World) (z:Nat):Option ByteArray→Value→Nat→List E→Prop
 |sl (A:Option Addr) (m c:Nat) (ys:List E) (h:cG w F (.sl z m ys) (.slice A m c)) (hd:t'=t):US P t t' F w z none (.slice A m c) m ys
 |str (s:ByteArray) (hu:P.underlying t'=some .string) (hz:z=1):US P t t' F w z (some s) (.string s) s.size (s.data.toList.map fun b=>.lit (bv b))
theorem Rw {x:D}{s:ByteArray}(h:x.strOf=some s):x=.e (.lit (.string s)):=by
 unfold D.strOf at h
 split at h
 ·injection h with h;rw[h]
 ·cases h
theorem JO(tok:TOk P tb){t t':TypeId}{z:Nat}{x:D}{k:Nat→List E→Prop}(h:xV tb t' z x k)(hx:x.strOf=none→t'=t):
  ∃m ys,k m ys∧∀(hp:Hp) (g:Gh) (w:World) (u:Value),aF hp g w x u→US P t t' g.F w z x.strOf u m ys:=by
 unfold xV at h
 split at h
 ·rename_i i ht
  split at h
  ·rename_i s i8 hs
   obtain⟨hz,h⟩:=h
   refine⟨_,_,h,fun hp g w u hr=>?_⟩
   rw[hs]
   rw[Rw hs] at hr
   rw[hr.lit]
   exact .str s (tok.str ht i8) hz
  ·rename_i e i8 hs
   split at h
   ·rename_i m ys ha
    refine⟨_,_,h,fun hp g w u hr=>?_⟩
    rw[hs]
    obtain⟨A,c,rfl,cJ⟩:=qT hr ha
    exact .sl A m c ys cJ (hx hs)
   ·cases h
  ·cases h
 ·cases h
theorem xf(tok:TOk P tb){t t' e:TypeId}{ti j:TyE}(ht:tb t=some ti)(i8:ti.ty=.slice e)(he:tb e=some j)(HF:0<j.size){so:Option ByteArray}{u:Value}{m:Nat}{ys:List E}(hn:US P t t' g.F w j.size so u m ys)
  (J8:so≠none→j.bytes=1∧j.zero=[.int .u8 0]∧j.ty.agg=false) (ty:TypeId) (v:Value) (n:Nat) (xs:List Value) (kN:w.ownsRow B e j.size v n xs) (gC:(n+m)*max 1 j.bytes≤140737488355328) (hB:B≤w.heap.size):
  ∃v' w' news,(Builtin.append_ #[t,t'] ty #[v,u]).run P w=.ok v' w'∧w'.ownsRow B e j.size v' (n+m) (xs++news)∧AE w v m w' v'∧Pw (cG w g.F) ys news∧ys.length=m*j.size:=by
 have hu:=tok.slice ht i8
 obtain⟨f,z,hi,FN,hfb,hfz,Br,hza⟩:=tok.inf he
 have h1:n+m≤140737488355328:=cg (Au _ (by omega)) gC
 have h2:(n+m)*j.bytes≤140737488355328:=cg (uW _ (Io _ _)) gC
 have h3:n+m≤maxLen:=by unfold maxLen;omega
 cases hn with
 |sl A _ c _ cJ hd=>
  subst hd
  obtain⟨hl,hz,oo,nR,hA,us,Le,hc,hp⟩:=cJ.reads
  obtain⟨v',w',bm,ho,ha⟩:=Cu (P:=P) w B t' ty e f z j.size j.bytes hu hi hfz FN hfb (by rw[←(tok e j he).2.2.1,←Br];simp) HF v n xs kN A m c us Le (fun hm=>by obtain⟨ad,e,_⟩:=hA hm;exact⟨ad,e⟩)
   (fun a ha j' u hu=>(hc a ha j' u hu).1) (fun u hu=>by
    obtain⟨i,hi⟩:=sT hu
    have bh:i<ys.length:=by
     rw[hp.1]
     rcases bO i us.length with hh|hh
     ·exact hh
     ·rw[gP hh] at hi;cases hi
    exact (hp.2 i _ u (eG bh) hi).one) h3 h2 hB
  exact⟨v',w',us,bm,ho,ha,hp,hl⟩
 |str s hus hz=>
  obtain⟨fy,L1,hag⟩:=J8 (by simp)
  have hz0:f.zero=some (.int .u8 0):=by
   rw[hfz]
   congr 1
   rw[L1] at Br
   rw[hag] at hza
   cases z <;> simp_all [Value.cells,Value.isAggV]
  rw[hz] at kN ⊢
  obtain⟨v',w',bm,ho,ha⟩:=wJ (P:=P) w B t t' ty e f hu hus hi hz0 (by rw[FN,hz]) (by rw[hfb,fy]) v n xs kN s h3 h1 hB
  have hlen:s.data.toList.length=s.size:=by rw[dY];rfl
  refine⟨v',w',_,bm,ho,ha,⟨by simp[Lib.strCells],fun i a b hia hib=>?_⟩,by rw[bc,hlen,si]⟩
  rw[AJ,bE] at hib
  rw[bE] at hia
  cases hc:s.data.toList[i]? with
  |none=>simp[hc] at hia
  |some c=>
   simp only[hc,nr,nq] at hia hib
   subst hia;subst hib
   exact .lit _ rfl
theorem cG.appended {F':Addr→Prop}{w':World}{e:TypeId}{z n m:Nat}{v':Value}{xs ys:List E}{us news:List Value}(hz:0<z)(mM:w'.ownsRow B e z v' (n+m) (us++news))(hx:Pw (cG w' F') xs us)(hy:Pw (cG w' F') ys news)
  (hF:∀b j,v'.ownBlock=some b→j<(n+m)*z→¬F' ⟨b,j,none⟩):cG w' F' (.sl z (n+m) (xs++ys)) v':=by
 have hp:=hx.append hy
 have hl:=mM.1
 rcases mM.2 with⟨rfl,h0⟩|⟨b,cap,cur,rfl,_,hh,oo,nR,q9,ht⟩
 ·rw[h0] at hl ⊢
  have:xs++ys=[]:=jR (by rw[hp.1,hl];simp)
  rw[this]
  exact .sl z 0 [] none 0 (fun _=>undef) (by simp) hz (aC _) (by decide) (fun h=>absurd h (by omega)) (fun _ h=>by cases h) (fun _ _ h=>by simp at h)
 ·have bh:b<w'.heap.size:=(dW.1 hh).1
  refine .sl z (n+m) _ _ cap (fun j=>(us++news).getD j undef) (by rw[hp.1,hl]) hz oo nR (fun _=>⟨_,rfl,bh⟩) (fun ad ha j x hxj=>?_) (fun j x hxj=>?_)
  ·injection ha with ha
   subst ha
   obtain⟨u,hu,_⟩:=hp.get hxj
   have hj:j<(n+m)*z:=by
    rw[←hl]
    rcases bO j (us++news).length with h|h
    ·exact h
    ·rw[gP h] at hu;cases hu
   rw[Addr.add_lit,cj]
   refine⟨?_,hF b j rfl hj⟩
   simp only[List.getD,hu,wv,World.cell?,hh]
   rw[←ht,fY,an hj] at hu
   simpa using hu
  ·obtain⟨u,hu,hr⟩:=hp.get hxj
   simpa only[List.getD,hu,wv] using hr
theorem PW {e:TypeId}{z n:Nat}{v:Value}{xs:List E}{us:List Value}{F:Addr→Prop}(ho:w.ownsRow B e z v n us)(h:cG w F (.sl z n xs) v):Pw (cG w F) xs us:=by
 rcases ho.2 with⟨rfl,h0⟩|⟨b,cap,cur,rfl,_,hh,oo,nR,q9,ht⟩
 ·subst h0
  obtain⟨hl,_⟩:=h.reads
  have h1:xs=[]:=jR (by simpa using hl)
  have h2:us=[]:=jR (by simpa using ho.1)
  subst h1;subst h2
  exact Pw.nil
 ·obtain⟨hl,hz,_,_,hA,vd,Mi,hc,hp⟩:=h.reads
  have:vd=us:=by
   apply DP
   intro j
   rcases bO j (n*z) with hj|hj
   ·have h1:vd[j]? =some vd[j]:=eG (by omega)
    obtain⟨h2,_⟩:=hc _ rfl j _ h1
    rw[h1,←ht,fY,an hj]
    rw[Addr.add_lit,cj] at h2
    simp only[World.cell?,hh] at h2
    simpa using h2.symm
   ·rw[gP (by omega),gP (by rw[ho.1];omega)]
  rw[←this]
  exact hp
theorem AE.below {v v':Value}{m:Nat}{w':World}(h:AE w v m w' v')(hB:B≤w.heap.size)(hv:∀b,v.ownBlock=some b→B≤b):Below B w w':=by
 cases h with
 |same _ hw _=>rw[hw];exact Below.refl _ _
 |place b _ hb _ hg _ _=>exact (Below.refl _ _).grown hg hB (fun k hk=>by injection hk with hk;subst hk;exact hv _ hb)
 |fresh _ hg _=>exact (Below.refl _ _).grown hg hB (fun k hk=>by cases hk)
theorem AE.block {v v':Value}{m:Nat}{w':World}(h:AE w v m w' v'):∀b,v'.ownBlock=some b→v.ownBlock=some b∨w.heap.size≤b:=by
 intro b hb
 cases h with
 |same _ _ hv=>rw[hv] at hb;exact .inl hb
 |place b' _ hv vk _ _ _=>rw[vk] at hb;rw[hv];exact .inl hb
 |fresh _ _ vk=>rw[vk] at hb;injection hb with hb;exact .inr (by omega)
theorem Cg(g:Gh)(id:Nat)(v:Value)(n b j:Nat)(hb:v.ownBlock=some b)(hj:j<n):¬(g.tok id v n).F ⟨b,j,none⟩:=by
 rintro (⟨_,h⟩|⟨b',h1,h2,h3⟩)
 ·exact h ⟨hb,hj⟩
 ·have:n≤j:=h3
  omega
theorem KQ(tok:TOk P tb){t t' e:TypeId}{ti j:TyE}(ht:tb t=some ti)(i8:ti.ty=.slice e)(he:tb e=some j)(HF:0<j.size){so:Option ByteArray}{u:Value}{m:Nat}{ys:List E}(hn:US P t t' g.F w j.size so u m ys)
  (J8:so≠none→j.bytes=1∧j.zero=[.int .u8 0]∧j.ty.agg=false) (ty:TypeId) {A:Option Addr} {n:Nat} {xs:List E} (cJ:cG w g.F (.sl j.size n xs) (.slice A n n)) (hm:0<m) (gC:(n+m)*max 1 j.bytes≤140737488355328) (hB:B≤w.heap.size):
  ∃r w' us news,(Builtin.append_ #[t,t'] ty #[.slice A n n,u]).run P w=.ok r w'∧w'.ownsRow B e j.size r (n+m) (us++news)∧w.grownBy w' none∧r.ownBlock=some w.heap.size∧Pw (cG w g.F) xs us∧Pw (cG w g.F) ys news:=by
 cases A with
 |none=>
  obtain⟨hl,_,_,_,hA,_⟩:=cJ.reads
  have h0:n=0:=by
   rcases rY n with h|h
   ·exact h
   ·obtain⟨_,h1,_⟩:=hA h;cases h1
  subst h0
  have hx:xs=[]:=jR (by simpa using hl)
  subst hx
  obtain⟨r,w',news,bm,ho,ha,v3,_⟩:=xf tok ht i8 he HF hn J8 ty _ _ _ (World.ownsRow_nil w B e j.size) gC hB
  cases ha with
  |same h _ _=>omega
  |place b _ hv _ _ _ _=>cases hv
  |fresh _ hg hv=>exact⟨r,w',[],news,bm,ho,hg,hv,Pw.nil,v3⟩
 |some ad=>
  have hu:=tok.slice ht i8
  obtain⟨f,z,hi,FN,hfb,hfz,Br,hza⟩:=tok.inf he
  have hzs:z.cells.size=j.size:=by rw[←(tok e j he).2.2.1,←Br];simp
  have h1:n+m≤140737488355328:=cg (Au _ (by omega)) gC
  have h2:(n+m)*j.bytes≤140737488355328:=cg (uW _ (Io _ _)) gC
  have h3:n+m≤maxLen:=by unfold maxLen;omega
  obtain⟨hl,_,_,_,_,us,Le,hc,hpx⟩:=cJ.reads
  have holds:∀i u,us[i]? =some u→w.cell? (ad.add i)=some u:=fun i u hu=>(hc ad rfl i u hu).1
  have grown:∀(news:List Value),news.length=m*j.size→
    (w.drew.alloc (.cells (us.toArray++news.toArray++Builtin.zeroCells z.cells (grownCap w (n+m) n e - (n+m))) e)).ownsRow B e j.size
     (.slice (some ⟨w.heap.size,0,none⟩) (n+m) (grownCap w (n+m) n e)) (n+m) (us++news)∧
    w.grownBy (w.drew.alloc (.cells (us.toArray++news.toArray++Builtin.zeroCells z.cells (grownCap w (n+m) n e - (n+m))) e)) none:=by
   intro news C3
   have C9:=grownCap_ge w (n+m) n e
   have nR:grownCap w (n+m) n e≤maxLen:=grownCap_le_maxLen w (n+m) n e h3
   have hlen:(us++news).length=(n+m)*j.size:=by rw[cN,Le,C3,aX]
   refine⟨⟨hlen,.inr ⟨w.heap.size,_,_,rfl,hB,heap_alloc_new w.drew _,C9,nR,?_,?_⟩⟩,⟨rfl,rfl,rfl,by simp,fun k hk _=>heap_alloc_old w.drew _ hk⟩⟩
   ·simp only[DI,my,size_zeroCells,hzs,Le,C3,←aX]
    congr 1
    omega
   ·simp only[Ig,bP]
    rw[←bP,←hlen]
    exact sU
  cases hn with
  |sl A' _ c _ qF hd=>
   subst hd
   obtain⟨Mi,QU,hnc',hcm',IY,vd,hul',Tg,hpy⟩:=qF.reads
   obtain⟨ad',rfl,_⟩:=IY hm
   have hr:=run_append_grow (P:=P) w t' ty e f z hu hi hfz ad n n us (by rw[Le,FN]) holds ad' m c vd (by rw[hul',FN]) (fun i u hu=>(Tg ad' rfl i u hu).1) (by omega) (by omega) (by rw[hfb];exact growslice_fits (by omega) h2)
   have FM:=grown vd hul'
   exact⟨_,_,us,vd,hr,FM.1,FM.2,rfl,hpx,hpy⟩
  |str s hus hz=>
   obtain⟨fy,L1,hag⟩:=J8 (by simp)
   have hz0:f.zero=some (.int .u8 0):=by
    rw[hfz]
    congr 1
    rw[L1] at Br
    rw[hag] at hza
    cases z <;> simp_all [Value.cells,Value.isAggV]
   have hzz:z=.int .u8 0:=by rw[hfz] at hz0;injection hz0
   have hlen:s.data.toList.length=s.size:=by rw[dY];rfl
   have hr:=Lib.run_append_grow_string (P:=P) w t t' ty e f (.int .u8 0) hu hus hi hz0 ad n n us (by rw[Le,FN]) holds s (by omega) (by omega) (by rw[hfb];exact growslice_fits (by omega) h2)
   have FM:=grown (Lib.strCells s) (by rw[Lib.strCells_length,hz,si])
   rw[hzz] at FM
   refine⟨_,_,us,Lib.strCells s,hr,FM.1,FM.2,rfl,hpx,⟨by simp[Lib.strCells],fun i a b hia hib=>?_⟩⟩
   rw[AJ,bE] at hib
   rw[bE] at hia
   cases hc:s.data.toList[i]? with
   |none=>simp[hc] at hia
   |some c=>
    simp only[hc,nr,nq] at hia hib
    subst hia;subst hib
    exact .lit _ rfl
theorem Fg(tok:TOk P tb){t t':TypeId}{s x:D}{k:D→Hp→Prop}(h:rF tb t t' s x hp k):
  ∃d' hp',k d' hp'∧∀(B:Nat) (g:Gh) (w:World) (ty:TypeId) (u v:Value),HR B hp g w→aF hp g w s u→aF hp g w x v→
   ∃r g' w',(Builtin.append_ #[t,t'] ty #[u,v]).run P w=.ok r w'∧HR B hp' g' w'∧bu hp g w hp' g' w'∧aF hp' g' w' d' r∧Below B w w'∧∀p:Addr,p.block<B→g.F p→g'.F p:=by
 unfold rF at h
 split at h
 ·rename_i ti ht
  split at h
  ·rename_i e i8
   split at h
   ·rename_i j he
    obtain⟨HF,htt,J8,h⟩:=h
    obtain⟨m,ys,h,qG⟩:=JO tok h htt
    split at h
    ·rename_i id z n xs
     obtain⟨rfl,cZ,gC,hk⟩:=h
     refine⟨_,_,hk,fun B g w ty u v hr hu hv=>?_⟩
     cases hu with
     |own _ _ _ _ _ cJ hid htok=>
      have huτ:=(htok _ _ cZ).2.2 rfl
      obtain⟨_,us,_,ho,hF⟩:=hr.tok _ _ _ cZ
      subst huτ
      obtain⟨r,w',news,bm,mM,ha,v3,hyl⟩:=xf tok ht i8 he HF (qG hp g w v hv) J8 ty _ _ us ho gC hr.base
      have IX:=fun b hb=>(hF b hb).1
      have mo:=bu.app (hp:=hp) (g:=g) cZ ho IX mM ha
      have om:=hr.app HF cZ ho IX mM ha
      have kN:∀b,(g.τ _).ownBlock=some b→B≤b:=fun b hb=>(ho.lt b hb).1
      refine⟨r,_,w',bm,om,mo,?_,ha.below hr.base kN,fun p hp1 bk=>Gh.tok_keep g _ (fun b hb=>?_) p hp1 bk⟩
      ·have hx:=(PW ho cJ).imp (fun _ _ h=>mo.repE h)
       have hy:=v3.imp (fun _ _ h=>mo.repE h)
       refine .own _ _ _ _ _ (cG.appended HF mM hx hy (fun b j' hb hj=>Cg g _ r _ b j' hb hj)) hid (fun m' e' hm=>?_)
       rw[show (Hp.app hp _ _ _).live.lookup _=_ from ah] at hm
       injection hm with hm
       injection hm with h1 h2
       subst h1;subst h2
       exact⟨aC _,rfl,fun _=>(an rfl).symm⟩
      ·rcases ha.block b hb with h|h
       ·exact kN b h
       ·exact cg hr.base h
    ·obtain⟨gC,hk⟩:=h
     refine⟨_,_,hk,fun B g w ty u v hr hu hv=>?_⟩
     rw[hu.lit]
     obtain⟨r,w',news,bm,mM,ha,v3,hyl⟩:=xf tok ht i8 he HF (qG hp g w v hv) J8 ty _ _ _ (World.ownsRow_nil w B e j.size) (by simpa using gC) hr.base
     simp only[cj,mm] at mM
     have hsz:=ha.size
     have hold:∀b,b<w.heap.size→w'.heap[b]? =w.heap[b]? :=by
      intro b hb
      cases ha with
      |same _ hw _=>rw[hw]
      |place b' _ vk _ _ _ _=>cases vk
      |fresh _ hg _=>exact hg.block b hb (by simp)
     have C4:∀b,r.ownBlock=some b→w.heap.size≤b:=fun b hb=>by
      rcases ha.block b hb with h|h
      ·cases h
      ·exact h
     have mo:bu hp g w (hp.tok m (j.size,e)) (g.tok hp.next r (m*j.size)) w':=bu.tok hp g hsz hold C4
     have om:=hr.newTok (e:=(j.size,e)) HF hsz hold C4 mM
     refine⟨r,_,w',bm,om,mo,?_,ha.below hr.base (fun b hb=>by cases hb),fun p hp1 bk=>Gh.tok_keep g _ (fun b hb=>cg hr.base (C4 b hb)) p hp1 bk⟩
     have hy:=v3.imp (fun _ _ h=>mo.repE h)
     have rX:=cG.appended (F':=(g.tok hp.next r (m*j.size)).F) (n:=0) (m:=m) (xs:=[]) (us:=[]) HF (by simpa using mM) Pw.nil hy (fun b j' hb hj=>Cg g _ r _ b j' hb (by simpa using hj))
     simp only[cj,mm] at rX
     refine .own _ _ _ _ _ rX (dH _) (fun m' e' hm=>?_)
     rw[show (Hp.tok hp _ _).live.lookup _=_ from ah] at hm
     injection hm with hm
     injection hm with h1 h2
     subst h1;subst h2
     exact⟨aC _,rfl,fun _=>(an rfl).symm⟩
    ·rename_i z n xs _
     obtain⟨hzz,hm,gC,hk⟩:=h
     refine⟨_,_,hk,fun B g w ty u v hr hu hv=>?_⟩
     cases hu with
     |fu _ _ _ A cJ=>
      subst hzz
      obtain⟨r,w',us,news,bm,mM,hg,hrb,hpx,hpy⟩:=KQ tok ht i8 he HF (qG hp g w v hv) J8 ty cJ hm gC hr.base
      have hold:∀b,b<w.heap.size→w'.heap[b]? =w.heap[b]? :=fun b hb=>hg.block b hb (by simp)
      have C4:∀b,r.ownBlock=some b→w.heap.size≤b:=fun b hb=>by rw[hrb] at hb;injection hb with hb;omega
      have mo:bu hp g w (hp.tok (n+m) (j.size,e)) (g.tok hp.next r ((n+m)*j.size)) w':=bu.tok hp g hg.size hold C4
      have om:=hr.newTok (e:=(j.size,e)) HF hg.size hold C4 mM
      refine⟨r,_,w',bm,om,mo,?_,(Below.refl _ _).grown hg hr.base (fun k hk=>by cases hk),fun p hp1 bk=>Gh.tok_keep g _ (fun b hb=>cg hr.base (C4 b hb)) p hp1 bk⟩
      have rX:=cG.appended (F':=(g.tok hp.next r ((n+m)*j.size)).F) HF mM (hpx.imp fun _ _ h=>mo.repE h) (hpy.imp fun _ _ h=>mo.repE h) (fun b j' hb hj=>Cg g _ r _ b j' hb hj)
      refine .own _ _ _ _ _ rX (dH _) (fun m' e' hm=>?_)
      rw[show (Hp.tok hp _ _).live.lookup _=_ from ah] at hm
      injection hm with hm
      injection hm with h1 h2
      subst h1;subst h2
      exact⟨aC _,rfl,fun _=>(an rfl).symm⟩
    ·cases h
   ·cases h
  ·cases h
 ·cases h
end
end
section
section
variable {P:Program} {tb:TypeId→Option TyE}
def oA(P:Program)(o:Oper)(ev:Operand→D)(hp:Hp)(d:D)(hp':Hp):Prop:=
 ∀(B:Nat) (g:Gh) (w:World) (a:Act) (Kn:Act→World→Prop) (Q:Exit→Act→World→Prop),HR B hp g w→(∀x∈o.op.operands,aF hp g w (ev x) (a.eval x))→
  (∀v g' w',HR B hp' g' w'→bu hp g w hp' g' w'→aF hp' g' w' d v→Below B w w'→(∀p:Addr,p.block<B→g.F p→g'.F p)→Kn (a.put o.dst v) w')→o.wp P a w Kn Q
def qz:Op→Bool
 | .sliceToArrayPointer ..=>true
 | .move _| .nilCheck _| .makeFunc .. | .pick .. | .build .. | .load .. | .binOp .. | .unOp .. | .convert .. | .slice .. | .fieldAddr .. | .field .. | .indexAddr .. | .index .. | .extract ..=>true
 | .buildSlice _ n _=>n != 0
 | .call c=>match c.callee with
  | .builtin .append=>false
  | .builtin .copy=>false
  | .builtin _=>true
  |_=>false
 |_=>false
def refT(tb:TypeId→Option TyE)(t:TypeId):Bool:=
 match tb t with
 |some i=>match i.ty with
  | .slice e=>match tb e with
   |some j=>j.zero.any fun v=>match v with
    | .pointer _=>true
    | .slice ..=>j.size != 1
    |_=>false
   |none=>false
  |_=>false
 |none=>false
def cpB(tb:TypeId→Option TyE)(c:Call):Bool:=match c.callee with
 | .builtin .copy=>true
 | .builtin .append=>(c.argTypes[0]?).any (refT tb)
 |_=>false
def Sq(tb:TypeId→Option TyE):Op→Bool
 | .buildSlice t _ _=>refT tb t
 |_=>false
def varB(tb:TypeId→Option TyE):Op→Bool
 | .alloc _| .box .. | .store .. | .makeSlice ..=>true
 | .call c=>hvB tb c||cpB tb c
 |_=>false
theorem hvOf {tb:TypeId→Option TyE}{x:Operand}{args:Array Operand}{ts:Array TypeId}(h:(hvB tb ⟨.value x,args,ts⟩||cpB tb ⟨.value x,args,ts⟩)=false):hvB tb ⟨.value x,args,ts⟩=false:=by
 simpa[cpB] using h
def Jd(tb:TypeId→Option TyE):Op→Bool
 | .box .. | .store ..=>true
 | .call c=>hvB tb c||cpB tb c
 |_=>false
def oD:Op→Bool
 | .load ..=>true
 |_=>false
def D.un:D→D
 | .opt b d=>bif b then d.un else .top
 |d=>d
theorem aF.un {hp:Hp}{g:Gh}{w:World}{d:D}{v:Value}(h:aF hp g w d v):aF hp g w d.un v:=by
 induction h with
 |opt b d v hi h ih=>
  unfold D.un
  cases b
  ·exact .top _
  ·exact ih rfl
 |e x v h=>exact .e x v h
 |own id z n xs v h hid ht=>exact .own id z n xs v h hid ht
 |fu z n xs A h=>exact .fu z n xs A h
 |ag ds cs hl h1 hr ih=>exact .ag ds cs hl h1 hr
 |tu ds cs hl hr ih=>exact .tu ds cs hl hr
 |fp xs off ad hb hc=>exact .fp xs off ad hb hc
 |pt k off hk=>exact .pt k off hk
 |ow k off z n c hk h1 h2=>exact .ow k off z n c hk h1 h2
 |gw k z n c hk h1 h2 hs=>exact .gw k z n c hk h1 h2 hs
 |fn f ks hk=>exact .fn f ks hk
 |top v=>exact .top v
def UW(o:Oper)(ev:Operand→D)(hp bk:Hp):Prop:=∀x∈o.op.operands,∀j off,(ev x).un=.pt j off→bk.vars.lookup j=hp.vars.lookup j
def LdLt(o:Oper)(ev:Operand→D)(hp:Hp):Prop:=∀x∈o.op.operands,∀j off,(ev x).un=.pt j off→j<hp.next
def Fr(hp hp':Hp):Prop:=hp.next≤hp'.next∧∀j,j<hp.next→hp'.vars.lookup j=hp.vars.lookup j
theorem Fr.refl(hp:Hp):Fr hp hp:=⟨aC _,fun _ _=>rfl⟩
theorem Fr.of {hp hp':Hp}(h:hp'.vars=hp.vars∧hp.next≤hp'.next):Fr hp hp':=⟨h.2,fun _ _=>by rw[h.1]⟩
structure Snd(P:Program)(tb:TypeId→Option TyE)(dr:Bool)(o:Oper)(ev:Operand→D)(hp:Hp)(d:D)(hp':Hp):Prop where
 ok:oA P o ev hp d hp'
 quiet:dr=true→qz o.op=true→hp'=hp∧∀bk:Hp,(oD o.op=true→UW o ev hp bk)→oA P o ev bk d bk
 fr:Jd tb o.op=false→Fr hp hp'
 lk:oD o.op=true→LdLt o ev hp
def xb(tb:TypeId→Option TyE)(L:List FuncId):Op→Bool
 | .call c=>(match c.callee with
  | .value (.func f)=>L.elem f
  |_=>false)&&!hvB tb c
 |_=>false
def inL(L:List FuncId):Op→Bool
 | .call c=>match c.callee with
  | .value (.func f)=>L.elem f
  |_=>false
 |_=>false
theorem CV {tb:TypeId→Option TyE}{L:List FuncId}{op:Op}(h:inL L op=false):xb tb L op=false:=by
 cases op with
 |call c=>
  show ((match c.callee with| .value (.func f)=>L.elem f|_=>false)&&!hvB tb c)=false
  have h2:(match c.callee with| .value (.func f)=>L.elem f|_=>false)=false:=h
  rw[h2];rfl
 |_=>rfl
def wC(tb:TypeId→Option TyE)(L:List FuncId)(op:Op):Bool:=Jd tb op&&!inL L op
theorem varL_C {tb:TypeId→Option TyE}{L:List FuncId}{op:Op}(h:wC tb L op=true):Jd tb op=true:=by
 unfold wC at h;rw[c8] at h;exact h.1
def gc(tb:TypeId→Option TyE)(L:List FuncId)(op:Op):Bool:=(qz op&&!Sq tb op)||xb tb L op
inductive Md where
 |seq
 |any (L:List FuncId)
def Md.dr:Md→Bool
 | .seq=>false
 | .any _=>true
def Md.qt(tb:TypeId→Option TyE):Md→Op→Bool
 | .seq,_=>false
 | .any L,op=>gc tb L op
def Md.nc(_:TypeId→Option TyE):Md→Op→Bool
 | .seq,_=>true
 | .any L,op=>!inL L op
def Md.vr(tb:TypeId→Option TyE):Md→Op→Bool
 | .seq,op=>Jd tb op
 | .any L,op=>wC tb L op
theorem Md.vr_C {tb:TypeId→Option TyE}{md:Md}{op:Op}(hn:md.nc tb op=true)(h:md.vr tb op=false):Jd tb op=false:=by
 cases md with
 |seq=>exact h
 |any L=>
  have h1:(Jd tb op&&!inL L op)=false:=h
  have h2:(!inL L op)=true:=hn
  rwa[h2,iY] at h1
structure mz(P:Program)(tb:TypeId→Option TyE)(md:Md)(o:Oper)(ev:Operand→D)(hp:Hp)(d:D)(hp':Hp):Prop where
 ok:oA P o ev hp d hp'
 quiet:md.qt tb o.op=true→hp'=hp∧∀bk:Hp,(oD o.op=true→UW o ev hp bk)→oA P o ev bk d bk
 fr:md.vr tb o.op=false→Fr hp hp'
 lk:oD o.op=true→LdLt o ev hp
theorem Snd.q {md:Md}{o:Oper}{ev:Operand→D}{hp hp':Hp}{d:D}(h:Snd P tb md.dr o ev hp d hp')(hn:md.nc tb o.op=true):mz P tb md o ev hp d hp':=by
 refine⟨h.ok,fun hq=>?_,fun hv=>h.fr (Md.vr_C hn hv),h.lk⟩
 cases md with
 |seq=>cases hq
 |any L=>
  have h1:((qz o.op&&!Sq tb o.op)||xb tb L o.op)=true:=hq
  have h2:(!inL L o.op)=true:=hn
  refine h.quiet rfl ?_
  rw[CV (by rwa[ww] at h2),Bool.or_false,c8] at h1
  exact h1.1
theorem Snd.calmL {dr:Bool}{o:Oper}{ev:Operand→D}{hp:Hp}{d:D}(hl:oD o.op=true→LdLt o ev hp)(h:∀bk:Hp,(oD o.op=true→UW o ev hp bk)→oA P o ev bk d bk):Snd P tb dr o ev hp d hp:=⟨h hp fun _ _ _ _ _ _=>rfl,fun _ _=>⟨rfl,h⟩,fun _=>Fr.refl _,hl⟩
theorem Snd.calm {dr:Bool}{o:Oper}{ev:Operand→D}{hp:Hp}{d:D}(h:∀bk:Hp,(oD o.op=true→UW o ev hp bk)→oA P o ev bk d bk)(hl:oD o.op=false:=by rfl):Snd P tb dr o ev hp d hp:=Snd.calmL (fun h=>by rw[hl] at h;cases h) h
theorem Snd.loud {dr:Bool}{o:Oper}{ev:Operand→D}{hp hp':Hp}{d:D}(h:oA P o ev hp d hp')(hq:dr=true→qz o.op=false)(hv:Jd tb o.op=false→Fr hp hp')(hl:oD o.op=false:=by rfl):Snd P tb dr o ev hp d hp':=⟨h,fun hd h=>(by rw[hq hd] at h;cases h),hv,fun h=>by rw[hl] at h;cases h⟩
theorem oA.pure {o:Oper}{ev:Operand→D}{hp:Hp}{d:D}(h:∀(B:Nat) (g:Gh) (w:World) (a:Act),HR B hp g w→(∀x∈o.op.operands,aF hp g w (ev x) (a.eval x))→∃v,(execOp a.eval o).run P w=.ok (.value v) w∧aF hp g w d v):oA P o ev hp d hp:=by
 intro B g w a Kn Q hr hx hk
 obtain⟨v,bm,hd⟩:=h B g w a hr hx
 unfold Oper.wp
 rw[bm]
 exact hk v g w hr (bu.refl _ _ _) hd (Below.refl _ _) fun _ _ h=>h
theorem oA.step {o:Oper}{ev:Operand→D}{hp hp':Hp}{d:D}(h:∀(B:Nat) (g:Gh) (w:World) (a:Act),HR B hp g w→(∀x∈o.op.operands,aF hp g w (ev x) (a.eval x))→∃v g' w',(execOp a.eval o).run P w=.ok (.value v) w'∧HR B hp' g' w'∧bu hp g w hp' g' w'∧aF hp' g' w' d v∧Below B w w'∧∀p:Addr,p.block<B→g.F p→g'.F p):oA P o ev hp d hp':=by
 intro B g w a Kn Q hr hx hk
 obtain⟨v,g',w',bm,h1,h2,h3,h4,h5⟩:=h B g w a hr hx
 unfold Oper.wp
 rw[bm]
 exact hk v g' w' h1 h2 h3 h4 h5
theorem RQ {d:D}(h:d.exC.pureC=true):∃x,d.exC=D.e x∧∀(hp:Hp) (g:Gh) (w:World) (v:Value),aF hp g w d v→cG w g.F x v:=by
 cases d with
 |e x=>exact⟨x,rfl,fun hp g w v hv=>by cases hv;assumption⟩
 |own id z n xs=>exact⟨_,rfl,fun hp g w v hv=>by cases hv;assumption⟩
 |fu z n xs=>exact⟨_,rfl,fun hp g w v hv=>by cases hv;assumption⟩
 |_=>cases h
theorem aF.xport {hp:Hp}{g:Gh}{w:World}{d:D}{v:Value}(h:aF hp g w d v)(hp':d.ex.pure=true):kW w g.F d.ex v:=by
 cases h with
 |e x v h=>exact .e x v h
 |own id z n xs v h hid ht=>exact .e _ _ h
 |fu z n xs A h=>exact .e _ _ h
 |ag ds cs hl h1 hr=>
  refine .ag _ cs (by simpa using hl) h1 (fun j d u hd hu=>?_)
  have jp:∀x∈ds.map D.exC,D.pureC x=true:=by
   have:(ds.map D.exC).all D.pureC=true:=hp'
   simpa only[bx] using this
  have hm:=jp d (bL hd)
  rw[bE] at hd
  cases hdj:ds[j]? with
  |none=>simp[hdj] at hd
  |some d0=>
   simp only[hdj,nr,nq] at hd
   subst hd
   obtain⟨x,hx,cJ⟩:=RQ hm
   rw[hx]
   exact .e x u (show cG w g.F x u from cJ hp g w u (hr j d0 u hdj hu))
 |fp xs off ad hb hc=>exact .fp xs off ad hb hc
 |tu ds cs hl hr=>cases hp'
 |pt k off hk=>cases hp'
 |ow k off z n c hk h1 h2=>cases hp'
 |gw k z n c hk h1 h2 hs=>cases hp'
 |fn f ks hk=>cases hp'
 |opt b d v hi h=>cases hp'
 |top v=>cases hp'
theorem kW.to {w:World}{F:Addr→Prop}{d:D}{v:Value}(h:kW w F d v)(hp:Hp)(g:Gh)(hg:g.F=F):aF hp g w d v:=by
 subst hg
 unfold kW at h
 generalize hh:(⟨[],[],0⟩:Hp)=h0 at h
 generalize hgg:(⟨fun _=>0,fun _=>default,g.F⟩:Gh)=g0 at h
 have hF:g0.F=g.F:=by rw[←hgg]
 have hn:h0.next=0:=by rw[←hh]
 induction h with
 |e x v h=>exact .e x v (by rw[←hF];exact h)
 |own id z n xs v h hid ht=>omega
 |fu z n xs A h=>exact .fu z n xs A (by rw[←hF];exact h)
 |ag ds cs hl h1 hr ih=>exact .ag ds cs hl h1 ih
 |tu ds cs hl hr ih=>exact .tu ds cs hl ih
 |fp xs off ad hb hc=>exact .fp xs off ad hb (by rw[←hF];exact hc)
 |pt k off hk=>omega
 |ow k off z n c hk h1 h2=>omega
 |gw k z n c hk h1 h2 hs=>omega
 |fn f ks hk=>
  cases ks with
  |nil=>exact .fn f [] (by simp)
  |cons k ks=>have:=hk k (by simp);omega
 |opt b d v hi h ih=>exact .opt b d v (D.idsC_le (il _) (by rw[←hn];exact hi)) ih
 |top v=>exact .top v
theorem KD {hv:Bool}{f:FuncId}{args:List Operand}{ev:Operand→D}{hp:Hp}{k:D→Hp→Prop}{caps:List D}{cvs:Gh→List Value}(Td:∀(g:Gh) (w:World),Pw (aF hp g w) caps (cvs g))(h:OM P hv f (args.map ev++caps) hp k):
  ∃d hp',k d hp'∧(hv=false→Fr hp hp')∧Nv P f∧∀(B:Nat) (g:Gh) (w:World) (ρ:Operand→Value),HR B hp g w→(∀x∈args,aF hp g w (ev x) (ρ x))→
   Calls P f (args.map ρ++cvs g).toArray w fun e w'=>∃v g',e=.returned v∧HR B hp' g' w'∧bu hp g w hp' g' w'∧aF hp' g' w' d v∧Below B w w'∧∀p:Addr,p.block<B→g.F p→g'.F p:=by
 have reps:∀(g:Gh) (w:World) (ρ:Operand→Value),(∀x∈args,aF hp g w (ev x) (ρ x))→Pw (aF hp g w) (args.map ev++caps) (args.map ρ++cvs g):=fun g w ρ hx=>Pw.append ⟨by simp,fun j d u hd hu=>by
  rw[bE] at hd hu
  cases ha:args[j]? with
  |none=>simp[ha] at hd
  |some x=>
   simp only[ha,nr,nq] at hd hu
   subst hd;subst hu
   exact hx x (bL ha)⟩ (Td g w)
 rcases h with h|⟨rfl,d,hp',⟨S6,qI⟩,hk⟩
 rotate_left
 ·refine⟨d,hp',hk,(fun h=>by cases h),S6,fun B g w ρ hr hx=>?_⟩
  have v3:=reps g w ρ hx
  exact qI B g w _ hr (by simpa using v3.1.symm) (fun j d u hd hu=>v3.2 j d u hd (by simpa using hu))
 obtain⟨Ka,r,⟨S6,qI⟩,hk⟩:=h
 have rx:∀(B:Nat) (g:Gh) (w:World) (ρ:Operand→Value),HR B hp g w→(∀x∈args,aF hp g w (ev x) (ρ x))→
   Calls P f (args.map ρ++cvs g).toArray w fun e w'=>∃v,e=.returned v∧uk w.heap.size g.F w' r v∧Below w.heap.size w w':=by
  intro B g w ρ hr hx
  have v3:=reps g w ρ hx
  refine qI w g.F _ hr.fits (by have:=v3.1;simpa using this.symm) (fun j d u hd hu=>?_)
  rw[bE] at hd
  cases ha:(args.map ev++caps)[j]? with
  |none=>rw[ha] at hd;cases hd
  |some d0=>
   rw[ha] at hd
   simp only[nr,nq] at hd
   subst hd
   refine (v3.2 j d0 u ha (by simpa using hu)).xport ?_
   simp only[bx,nz] at Ka
   exact Ka _ ⟨d0,bL ha,rfl⟩
 have plain:(∀e z n xs,r≠.own e z n xs)→k r hp→∃d hp',k d hp'∧(hv=false→Fr hp hp')∧Nv P f∧∀(B:Nat) (g:Gh) (w:World) (ρ:Operand→Value),HR B hp g w→(∀x∈args,aF hp g w (ev x) (ρ x))→
   Calls P f (args.map ρ++cvs g).toArray w fun e w'=>∃v g',e=.returned v∧HR B hp' g' w'∧bu hp g w hp' g' w'∧aF hp' g' w' d v∧Below B w w'∧∀p:Addr,p.block<B→g.F p→g'.F p:=by
  intro wU hk
  refine⟨r,hp,hk,fun _=>Fr.refl _,S6,fun B g w ρ hr hx=>(rx B g w ρ hr hx).mono ?_⟩
  rintro e w' ⟨v,rfl,l4,hb⟩
  have SL:kW w' g.F r v:=by
   unfold uk at l4
   split at l4
   ·exact absurd rfl (wU _ _ _ _)
   ·exact l4
  exact⟨v,g,rfl,hr.keep hb.size hb.block,bu.keep hp g hb.size hb.block,SL.to hp g rfl,hb.mono hr.base,fun _ _ h=>h⟩
 unfold Iz at hk
 split at hk
 ·rename_i e z n xs
  refine⟨_,_,hk,fun _=>Fr.of ⟨rfl,eQ _⟩,S6,fun B g w ρ hr hx=>(rx B g w ρ hr hx).mono ?_⟩
  rintro e' w' ⟨v,rfl,⟨hz,⟨us,ho⟩,cJ⟩,hb⟩
  have hv:∀b,v.ownBlock=some b→w.heap.size≤b:=fun b hb=>(ho.lt b hb).1
  refine⟨v,_,rfl,hr.newTok (e:=(z,e)) hz hb.size hb.block hv (RU ho hr.base),bu.tok hp g hb.size hb.block hv,?_,hb.mono hr.base,fun p h1 h2=>Gh.tok_keep g _ (fun b hb=>cg hr.base (hv b hb)) p h1 h2⟩
  refine .own _ _ _ _ _ (cJ.mono (aC _) (fun _ _ _=>rfl) (fun p _ hf=>?_)) (dH _) (fun m e' hm=>?_)
  ·rcases hf with hf|hf
   ·exact .inl hf.1
   ·exact .inr hf
  ·rw[show (Hp.tok hp _ _).live.lookup _=_ from ah] at hm
   injection hm with hm
   injection hm with h1 h2
   subst h1;subst h2
   exact⟨aC _,rfl,fun _=>(an rfl).symm⟩
 ·cases hk
 ·rename_i h1 h2
  exact plain (fun e z n xs he=>h1 e z n xs he) hk
theorem cm {b:Callee}{args:Array Operand}{ts:Array TypeId}{x:Operand}(h:x∈args):x∈(Op.call ⟨b,args,ts⟩).operands:=by
 simp only[Op.operands,Call.operands]
 exact MF.2 (.inr h)
theorem Di {o:Oper}{a:Act}{w:World}{Kn:Act→World→Prop}{Q:Exit→Act→World→Prop}{f:FuncId}{args:Array Value}{R:Value→World→Prop}(h:(execOp a.eval o).run P w=.ok (.enter f args) w)(hc:Calls P f args w fun e w'=>∃v,e=.returned v∧R v w')
  (hk:∀v w',R v w'→Kn (a.put o.dst v) w'):o.wp P a w Kn Q:=by
 unfold Oper.wp
 rw[h,Oper.upon_enter]
 refine hc.mono ?_
 rintro e w' ⟨v,rfl,hr⟩
 exact hk v w' hr
theorem P5 {t:TypeId}{z:Nat}{x:D}{k k':Nat→List E→Prop}(h:xV tb t z x k)(hi:∀m ys,k m ys→k' m ys):xV tb t z x k':=by
 unfold xV at h ⊢
 split at h
 ·split at h
  ·exact⟨h.1,hi _ _ h.2⟩
  ·split at h
   ·exact hi _ _ h
   ·cases h
  ·cases h
 ·cases h
theorem Ia {t t':TypeId}{s x:D}{hp:Hp}{k:D→Hp→Prop}(h:rF tb t t' s x hp k):rF tb t t' s x hp fun d h'=>k d h'∧h'.vars=hp.vars∧hp.next≤h'.next:=by
 unfold rF at h ⊢
 split at h
 ·split at h
  ·split at h
   ·obtain⟨h1,h2,h3,h4⟩:=h
    refine⟨h1,h2,h3,P5 h4 fun m ys h=>?_⟩
    split at h
    ·obtain⟨h5,h6,h7,h8⟩:=h
     exact⟨h5,h6,h7,h8,rfl,by first|exact aC _|exact eQ _⟩
    ·obtain⟨h5,h6⟩:=h
     exact⟨h5,h6,rfl,by first|exact aC _|exact eQ _⟩
    ·obtain⟨h5,h6,h7,h8⟩:=h
     exact⟨h5,h6,h7,h8,rfl,by first|exact aC _|exact eQ _⟩
    ·cases h
   ·cases h
  ·cases h
 ·cases h
theorem AVC.sound(tok:TOk P tb){dr:Bool}{o:Oper}{ev:Operand→D}{hp:Hp}{k:D→Hp→Prop}(h:AVC P tb dr o.op o.type ev hp k):∃d hp',k d hp'∧Snd P tb dr o ev hp d hp':=by
 obtain⟨dst,op,ty,pos,af,gd⟩:=o
 unfold AVC at h
 dsimp only at h
 split at h
 ·-- move
  rename_i x
  exact⟨_,_,h,.calm fun bk _=>.pure fun B g w a hr hx=>⟨a.eval x,by simp[execOp],hx x (by simp[Op.operands])⟩⟩
 ·-- assign
  rename_i x
  have gen:k (ev x) hp→∃d hp',k d hp'∧Snd P tb dr ⟨dst,.assign x,ty,pos,af,gd⟩ ev hp d hp':=fun h=>⟨_,_,h,.loud (.pure fun B g w a hr hx=>⟨a.eval x,by simp[execOp],hx x (by simp[Op.operands])⟩) (fun _=>rfl) fun _=>Fr.refl _⟩
  unfold KO at h
  split at h
  ·rename_i hd
   split at h
   ·split at h
    ·rename_i e i8
     split at h
     ·rename_i j he
      obtain⟨hz,h⟩:=h
      refine⟨_,_,h,.loud (.step fun B g w a hr hx=>?_) (fun _=>rfl) fun _=>Fr.of ⟨rfl,eQ _⟩⟩
      have hv:=hx x (by simp[Op.operands])
      rw[hd] at hv
      have hv:=hv.lit
      have ho:=World.ownsRow_nil w B e j.size
      have C4:∀b,(Value.slice none 0 0).ownBlock=some b→w.heap.size≤b:=fun b hb=>by cases hb
      refine⟨.slice none 0 0,_,w,by simp[execOp,hv],hr.newTok (e:=(j.size,e)) hz (aC _) (fun _ _=>rfl) C4 ho,bu.tok hp g (aC _) (fun _ _=>rfl) C4,?_,Below.refl _ _,fun p h1 h2=>Gh.tok_keep g _ (fun b hb=>by cases hb) p h1 h2⟩
      refine .own _ _ _ _ _ (.sl _ 0 [] none 0 (fun _=>undef) (by simp) hz (aC _) (by decide) (fun h=>absurd h (by omega)) (fun _ h=>by cases h) (fun _ _ h=>by simp at h)) (dH _) (fun m e' hm=>?_)
      rw[show (Hp.tok hp _ _).live.lookup _=_ from ah] at hm
      injection hm with hm
      injection hm with h1 h2
      subst h1;subst h2
      exact⟨aC _,rfl,fun _=>(an rfl).symm⟩
     ·exact gen h
    ·exact gen h
   ·exact gen h
  ·exact gen h
 ·-- pick
  rename_i c x y
  unfold JB at h
  split at h
  ·rename_i hc
   refine⟨_,_,h,.calm fun bk _=>.pure fun B g w a hr hx=>⟨a.eval x,?_,hx x (by simp[Op.operands])⟩⟩
   have:=hx c (by simp[Op.operands])
   rw[hc] at this
   simp[execOp,this.lit,asBool]
  ·rename_i hc
   refine⟨_,_,h,.calm fun bk _=>.pure fun B g w a hr hx=>⟨a.eval y,?_,hx y (by simp[Op.operands])⟩⟩
   have:=hx c (by simp[Op.operands])
   rw[hc] at this
   simp[execOp,this.lit,asBool]
  ·cases h
 ·-- alloc
  rename_i t
  split at h
  ·rename_i i ht
   refine⟨_,_,h,.loud (.step fun B g w a hr hx=>?_) (fun _=>rfl) fun _=>⟨eQ _,fun j hj=>al (by omega)⟩⟩
   obtain⟨z,hz,Br⟩:=tok.run_zero ht w
   have q9:=eM.lits (hp:=hp) (g:=g) (w:=w) i.zero (tok t i ht).2.2.2
   refine⟨.pointer (some ⟨w.heap.size,0,none⟩),_,w.alloc (.cells z.cells t),?_,hr.newVar _ z.cells t (by rw[←dY,Br];simp) (fun j u hu=>?_),bu.var hp g w _ _,?_,(Below.refl _ _).alloc hr.base _,fun p _ h=>.inl h⟩
   ·simp only[execOp,Instr.alloc,Sem.run_bind,hz,Result.andThen_ok]
    rfl
   ·have te:i.zero[j]? =some u:=by rw[←Br];simpa using hu
    exact⟨fun _=>q9.2 u (bL te),fun d hd=>q9.1.2 j d u hd te⟩
   ·have:=aF.pt (hp:=hp.var (i.zero.map fun v=>.e (.lit v))) (g:=g.var hp.next w.heap.size) (w:=w.alloc (.cells z.cells t)) hp.next 0 (dH _)
    rwa[show (g.var hp.next w.heap.size).μ hp.next=w.heap.size from an rfl] at this
  ·cases h
 ·-- box
  rename_i t x
  split at h
  ·rename_i cs hc
   refine⟨_,_,h,.loud (.step fun B g w a hr hx=>?_) (fun _=>rfl) fun h=>by cases h⟩
   have q9:=(hx x (by simp[Op.operands])).cells hc
   refine⟨.pointer (some ⟨w.heap.size,0,none⟩),_,w.alloc (.cells (a.eval x).cells t),?_,hr.newVar _ _ t (by rw[←dY,q9.1.1];exact aC _) (fun j u hu=>?_),bu.var hp g w _ _,?_,(Below.refl _ _).alloc hr.base _,fun p _ h=>.inl h⟩
   ·rfl
   ·have te:(a.eval x).cells.toList[j]? =some u:=by simpa using hu
    exact⟨fun _=>q9.2 u (bL te),fun d hd=>q9.1.2 j d u hd te⟩
   ·have:=aF.pt (hp:=hp.var cs) (g:=g.var hp.next w.heap.size) (w:=w.alloc (.cells (a.eval x).cells t)) hp.next 0 (dH _)
    rwa[show (g.var hp.next w.heap.size).μ hp.next=w.heap.size from an rfl] at this
  ·cases h
 ·-- build
  rename_i t ps
  obtain⟨d',hk,hs⟩:=H5 tok h
  refine⟨_,_,hk,.calm fun bk IU=>.pure fun B g w a hr hx=>?_⟩
  obtain⟨v,bm,hd⟩:=hs bk g w a.eval (fun p hp=>hx _ (by simp only[Op.operands,Ix,nz];exact⟨p,hp,rfl⟩))
  refine⟨v,?_,hd⟩
  have SO:(ps.map fun (x:Nat×Operand)=>(x.1,a.eval x.2))=(ps.toList.map fun p=>(p.1,a.eval p.2)).toArray:=by
   apply j6.1;simp
  simp only[execOp,Sem.run_bind]
  rw[SO,bm]
  rfl
 ·-- buildSlice
  rename_i t n ps
  have SO:(ps.map fun (x:Nat×Operand)=>(x.1,ev x.2))=(ps.toList.map fun p=>(p.1,ev p.2)).toArray:=by
   apply j6.1;simp
  have step:∀{hp1 SP:Hp} {d':D},(∀(B:Nat) (g:Gh) (w:World) (ρ:Operand→Value),HR B hp1 g w→(∀p∈ps.toList,aF hp1 g w (ev p.2) (ρ p.2))→
    ∃v g' w',(Instr.buildSlice t n (ps.toList.map fun p=>(p.1,ρ p.2)).toArray).run P w=.ok v w'∧HR B SP g' w'∧bu hp1 g w SP g' w'∧aF SP g' w' d' v∧Below B w w'∧∀p:Addr,p.block<B→g.F p→g'.F p)→
    oA P ⟨dst,.buildSlice t n ps,ty,pos,af,gd⟩ ev hp1 d' SP:=by
   intro hp1 SP d' hs
   refine .step fun B g w a hr hx=>?_
   obtain⟨v,g',w',bm,h1⟩:=hs B g w a.eval hr (fun p hp=>hx _ (by simp only[Op.operands,Ix,nz];exact⟨p,hp,rfl⟩))
   refine⟨v,g',w',?_,h1⟩
   have SO:(ps.map fun (x:Nat×Operand)=>(x.1,a.eval x.2))=(ps.toList.map fun p=>(p.1,a.eval p.2)).toArray:=by
    apply j6.1;simp
   simp only[execOp,Sem.run_bind]
   rw[SO,bm]
   rfl
  by_cases hn:n=0
  ·subst hn
   obtain⟨d',hp',hk,hs⟩:=n5 tok (sS h)
   exact⟨_,_,hk.1,.loud (step hs) (fun _=>rfl) fun _=>Fr.of hk.2⟩
  ·cases dr with
   |false=>
    obtain⟨d',hp',hk,hs⟩:=n5 tok (sS h)
    exact⟨_,_,hk.1,.loud (step hs) (fun h=>by cases h) fun _=>Fr.of hk.2⟩
   |true=>
   obtain⟨d,hk,jp⟩:=yC hn h
   refine⟨_,_,hk,.calm fun bk _=>?_⟩
   obtain⟨d',hp',⟨rfl,rfl⟩,hs⟩:=n5 tok (jp bk)
   exact step hs
 ·-- load
  rename_i t x
  obtain⟨d',hk,bh,hs⟩:=AP tok h
  have hun:∀j off,(ev x).un=.pt j off→ev x=.pt j off:=by
   intro j off e
   cases hd:ev x with
   |opt b d=>rw[hd] at h;cases h
   |_=>rw[hd] at e;first|exact e|cases e
  refine⟨_,_,hk,.calmL (fun _ y hy j off e=>bh j off (hun j off (by rw[show y=x by simpa[Op.operands] using hy] at e;exact e))) fun bk IU=>.pure fun B g w a hr hx=>?_⟩
  obtain⟨v,bm,hd⟩:=hs bk B g w _ (fun j off e=>IU rfl x (by simp[Op.operands]) j off (by rw[e];rfl)) hr (hx x (by simp[Op.operands]))
  exact⟨v,by simp[execOp,bm],hd⟩
 ·-- store
  rename_i t x y
  obtain⟨hp',hk,hs⟩:=GW tok h
  refine⟨_,_,hk,.loud (fun B g w a Kn Q hr hx AU=>?_) (fun _=>rfl) fun h=>by cases h⟩
  obtain⟨w',bm,h1,h2,h3⟩:=hs B g w _ _ hr (hx x (by simp[Op.operands])) (hx y (by simp[Op.operands]))
  unfold Oper.wp
  have:(execOp a.eval ⟨dst,.store t x y,ty,pos,af,gd⟩).run P w=.ok .skip w':=by simp[execOp,bm]
  rw[this]
  exact AU undef g w' h1 h2 (.top _) h3 fun _ _ h=>h
 ·-- binOp
  rename_i op t x y yt
  obtain⟨r,hk,h1,hs⟩:=MB h
  refine⟨_,_,hk,.calm fun bk IU=>.pure fun B g w a hr hx=>⟨r,?_,.e _ _ (.lit r h1)⟩⟩
  have:=hs bk g w a.eval (hx x (by simp[Op.operands])) (hx y (by simp[Op.operands]))
  simp only[execOp,Sem.run_bind] at this ⊢
  rw[this]
  rfl
 ·-- unOp
  rename_i op t x
  obtain⟨r,hk,h1,hs⟩:=PG (P:=P) h
  refine⟨_,_,hk,.calm fun bk IU=>.pure fun B g w a hr hx=>⟨r,?_,.e _ _ (.lit r h1)⟩⟩
  have:=hs bk g w _ (hx x (by simp[Op.operands]))
  simp[execOp,this]
 ·-- convert
  rename_i s t x
  obtain⟨d',hk,hs⟩:=Ky tok h
  refine⟨_,_,hk,.calm fun bk IU=>.pure fun B g w a hr hx=>?_⟩
  obtain⟨v,bm,hd⟩:=hs bk g w _ (hx x (by simp[Op.operands]))
  exact⟨v,by simp[execOp,bm],hd⟩
 ·-- slice
  rename_i t x lo hi mx
  obtain⟨d',hk,hs⟩:=GY tok h
  refine⟨_,_,hk,.calm fun bk IU=>.pure fun B g w a hr hx=>?_⟩
  obtain⟨v,bm,hd⟩:=hs bk g w a.eval (hx x (by simp[Op.operands])) (fun y hy=>hx y (by
   simp only[Op.operands,MF]
   rcases hy with rfl|rfl|rfl
   ·exact .inl (.inl (.inr (by simp)))
   ·exact .inl (.inr (by simp))
   ·exact .inr (by simp)))
  exact⟨v,by simp[execOp,bm],hd⟩
 ·-- fieldAddr
  rename_i s x f
  obtain⟨d',hk,hs⟩:=Aa tok h
  refine⟨_,_,hk,.calm fun bk IU=>.pure fun B g w a hr hx=>?_⟩
  obtain⟨v,bm,hd⟩:=hs bk g w _ (hx x (by simp[Op.operands]))
  exact⟨v,by simp[execOp,bm],hd⟩
 ·-- field
  rename_i s x f
  obtain⟨d',hk,hs⟩:=HU tok h
  refine⟨_,_,hk,.calm fun bk IU=>.pure fun B g w a hr hx=>?_⟩
  obtain⟨v,bm,hd⟩:=hs bk g w _ (hx x (by simp[Op.operands]))
  exact⟨v,by simp[execOp,bm],hd⟩
 ·-- indexAddr
  rename_i t x i
  obtain⟨d',hk,hs⟩:=zU tok h
  refine⟨_,_,hk,.calm fun bk IU=>.pure fun B g w a hr hx=>?_⟩
  obtain⟨v,bm,hd⟩:=hs bk g w _ _ (hx x (by simp[Op.operands])) (hx i (by simp[Op.operands]))
  exact⟨v,by simp[execOp,bm],hd⟩
 ·-- index
  rename_i t x i
  obtain⟨d',hk,hs⟩:=Hy tok h
  refine⟨_,_,hk,.calm fun bk IU=>.pure fun B g w a hr hx=>?_⟩
  obtain⟨v,bm,hd⟩:=hs bk g w _ _ (hx x (by simp[Op.operands])) (hx i (by simp[Op.operands]))
  exact⟨v,by simp[execOp,bm],hd⟩
 ·-- extract
  rename_i x i
  split at h
  ·rename_i ds hd
   obtain⟨d',hdi,hk⟩:=h
   refine⟨_,_,hk,.calm fun bk IU=>.pure fun B g w a hr hx=>?_⟩
   have hv:=hx x (by simp[Op.operands])
   rw[hd] at hv
   generalize hu:a.eval x=u at hv
   cases hv with
   |tu _ cs hl IV=>
    have bh:i<cs.size:=by
     rw[hl]
     rcases bO i ds.length with hh|hh
     ·exact hh
     ·rw[gP hh] at hdi;cases hdi
    refine⟨cs[i],by simp[execOp,hu,Instr.extract,bh],IV i d' _ hdi (pX bh)⟩
  ·cases h
 ·-- call
  rename_i c
  obtain⟨callee,args,ts⟩:=c
  dsimp only at h
  split at h
  ·rename_i b
   unfold ig at h
   split at h
   ·-- len
    rename_i t d hts EA
    obtain⟨n,hk,hs⟩:=LW (P:=P) tok h
    refine⟨_,_,hk,.calm fun bk IU=>.pure fun B g w a hr hx=>?_⟩
    obtain⟨x,rfl,rfl⟩:∃x,args=#[x]∧ev x=d:=by
     rcases args with⟨_|⟨x,_|⟨y,l⟩⟩⟩ <;> simp at EA
     exact⟨x,rfl,EA⟩
    obtain rfl:ts=#[t]:=by
     apply j6.1;simpa using hts
    have:=hs bk g w ty _ (hx x (cm (by simp)))
    refine⟨.int .i64 n,?_,.e _ _ (.lit _ rfl)⟩
    simp[execOp,resolve,invoke,builtin,this]
   ·-- min
    rename_i j m j' m' EA
    obtain⟨x,y,rfl,h1,h2⟩:∃x y,args=#[x,y]∧ev x=.e (.lit (.int j m))∧ev y=.e (.lit (.int j' m')):=by
     rcases args with⟨_|⟨x,_|⟨y,_|⟨z,l⟩⟩⟩⟩ <;> simp at EA
     exact⟨x,y,rfl,EA⟩
    refine⟨_,_,h,.calm fun bk _=>.pure fun B g w a hr hx=>?_⟩
    have e1:=hx x (cm (by simp))
    have e2:=hx y (cm (by simp))
    rw[h1] at e1
    rw[h2] at e2
    refine⟨.int j (min m m'),?_,.e _ _ (.lit _ rfl)⟩
    have SZ:(if m'<m then m' else m)=min m m':=by
     rw[Int.min_def];split <;> split <;> omega
    simp[execOp,resolve,invoke,builtin,e1.lit,e2.lit,Builtin.min_,Builtin.min2,SZ]
   ·-- max
    rename_i j m j' m' EA
    obtain⟨x,y,rfl,h1,h2⟩:∃x y,args=#[x,y]∧ev x=.e (.lit (.int j m))∧ev y=.e (.lit (.int j' m')):=by
     rcases args with⟨_|⟨x,_|⟨y,_|⟨z,l⟩⟩⟩⟩ <;> simp at EA
     exact⟨x,y,rfl,EA⟩
    refine⟨_,_,h,.calm fun bk _=>.pure fun B g w a hr hx=>?_⟩
    have e1:=hx x (cm (by simp))
    have e2:=hx y (cm (by simp))
    rw[h1] at e1
    rw[h2] at e2
    refine⟨.int j (max m m'),?_,.e _ _ (.lit _ rfl)⟩
    have hmax:(if m<m' then m' else m)=max m m':=by
     rw[Int.max_def];split <;> split <;> omega
    simp[execOp,resolve,invoke,builtin,e1.lit,e2.lit,Builtin.max_,Builtin.max2,hmax]
   ·-- append
    rename_i t t' s x hts EA
    have h:=Ia h
    obtain⟨d',hp',hk,hs⟩:=Fg tok h
    refine⟨_,_,hk.1,.loud (.step fun B g w a hr hx=>?_) (fun _=>rfl) fun _=>Fr.of hk.2⟩
    obtain⟨o1,o2,rfl,rfl,rfl⟩:∃o1 o2,args=#[o1,o2]∧ev o1=s∧ev o2=x:=by
     rcases args with⟨_|⟨x,_|⟨y,_|⟨z,l⟩⟩⟩⟩ <;> simp at EA
     exact⟨x,y,rfl,EA⟩
    obtain rfl:ts=#[t,t']:=by
     apply j6.1;simpa using hts
    obtain⟨r,g',w',bm,h1⟩:=hs B g w ty _ _ hr (hx o1 (cm (by simp))) (hx o2 (cm (by simp)))
    refine⟨r,g',w',?_,h1⟩
    simp[execOp,resolve,invoke,builtin,bm]
   ·cases h
  ·rename_i x
   -- what is called,with what it has captured
   have enter:∀{f:FuncId} {caps:List D} {cvs:Gh→List Value},(∀(g:Gh) (w:World),Pw (aF hp g w) caps (cvs g))→OM P (hvB tb ⟨.value x,args,ts⟩) f (args.toList.map ev++caps) hp k→
     (∀(g:Gh) (w:World) (u:Value),aF hp g w (ev x) u→u=.func (.func f) #[] (cvs g).toArray)→∃d hp',k d hp'∧Snd P tb dr ⟨dst,.call ⟨.value x,args,ts⟩,ty,pos,af,gd⟩ ev hp d hp':=by
    intro f caps cvs Td h hfv
    obtain⟨d,hp',hk,Oh,⟨fn,hf,hn,A1⟩,hc⟩:=KD Td h
    refine⟨_,_,hk,.loud (fun B g w a Kn Q hr hx AU=>?_) (fun _=>rfl) fun h=>Oh (hvOf h)⟩
    have hv:=hfv g w _ (hx x (by simp[Op.operands,Call.operands]))
    have qI:=hc B g w a.eval hr (fun y hy=>hx y (cm (by simpa using hy)))
    have rx:(args.map a.eval++(cvs g).toArray)=(args.toList.map a.eval++cvs g).toArray:=by apply j6.1;simp
    refine Di (R:=fun v w'=>∃g',HR B hp' g' w'∧bu hp g w hp' g' w'∧aF hp' g' w' d v∧Below B w w'∧∀p:Addr,p.block<B→g.F p→g'.F p) ?_ (qI.mono ?_) ?_
    ·have hn' : fn.name ≠ "runtime.NumGoroutine" := by simpa using hn
     have pK:¬fn.body=none:=fun e=>by rw[e] at A1;cases A1
     have hcf:(callFunc f (args.toList.map a.eval++cvs g).toArray).run P w=.ok (.enter f (args.toList.map a.eval++cvs g).toArray) w:=by
      simp[callFunc,hf,hn',pK]
     rw[←hcf,←rx]
     simp[execOp,resolve,invoke,Deferred.ofValue,hv]
    ·rintro e w' ⟨v,g',rfl,h1⟩
     exact⟨v,rfl,g',h1⟩
    ·rintro v w' ⟨g',h1,h2,h3,h4,h5⟩
     exact AU v g' w' h1 h2 h3 h4 h5
   unfold tN at h
   split at h
   ·rename_i f fi ca yZ
    obtain⟨hfi,hca,h⟩:=h
    obtain rfl:=Ie hfi
    obtain rfl:=Ie hca
    refine enter (caps:=[]) (cvs:=fun _=>[]) (fun _ _=>Pw.nil) (by simpa using h) (fun g w u hu=>?_)
    rw[yZ] at hu
    exact hu.lit
   ·rename_i f ks yZ
    have Qj:∀(g:Gh) (w:World) (u:Value),aF hp g w (.fn f ks) u→(∀k∈ks,k<hp.next)∧u=.func (.func f) #[] (ks.map fun k=>Value.pointer (some ⟨g.μ k,0,none⟩)).toArray:=by
     intro g w u hu
     cases hu with
     |fn _ _ hk=>exact⟨hk,rfl⟩
    by_cases hk:∀k∈ks,k<hp.next
    ·refine enter (caps:=ks.map fun k=>.pt k 0) (cvs:=fun g=>ks.map fun k=>Value.pointer (some ⟨g.μ k,0,none⟩)) (fun g w=>⟨by simp,fun j d u hd hu=>?_⟩) h (fun g w u hu=>?_)
     ·rw[bE] at hd hu
      cases hj:ks[j]? with
      |none=>simp[hj] at hd
      |some kk=>
       simp only[hj,nr,nq] at hd hu
       subst hd;subst hu
       exact .pt kk 0 (hk kk (bL hj))
     ·rw[yZ] at hu
      exact (Qj g w u hu).2
    ·-- such a value stands for nothing
     rcases h with⟨Ka,_⟩|⟨hvt,d,hp',_,Qk⟩
     ·exfalso
      apply hk
      intro k S2
      rw[lf,sX,c8] at Ka
      have:=Ka.2
      simp only[bx,nz] at this
      have:=this (D.pt k 0).ex ⟨.pt k 0,⟨k,S2,rfl⟩,rfl⟩
      cases this
     refine⟨d,hp',Qk,.loud (fun B g w a Kn Q hr hx AU=>?_) (fun _=>rfl) fun h=>?_⟩
     rotate_left
     ·have h':hvB tb ⟨.value x,args,ts⟩=false:=hvOf h
      rw[hvt] at h';cases h'
     have:=hx x (by simp[Op.operands,Call.operands])
     rw[yZ] at this
     exact absurd (Qj g w _ this).1 hk
   ·cases h
  ·cases h
 ·-- nilCheck
  rename_i x
  unfold nilV at h
  split at h
  ·rename_i j off yZ
   refine⟨_,_,h,.calm fun bk _=>.pure fun B g w a hr hx=>⟨a.eval x,?_,?_⟩⟩
   ·have hv:=hx x (by simp[Op.operands])
    rw[yZ] at hv
    generalize hu:a.eval x=u at hv
    cases hv
    simp[execOp,hu]
   ·have hv:=hx x (by simp[Op.operands])
    rwa[yZ] at hv
  ·rename_i xs off yZ
   refine⟨_,_,h,.calm fun bk _=>.pure fun B g w a hr hx=>⟨a.eval x,?_,?_⟩⟩
   ·have hv:=hx x (by simp[Op.operands])
    rw[yZ] at hv
    generalize hu:a.eval x=u at hv
    cases hv
    simp[execOp,hu]
   ·have hv:=hx x (by simp[Op.operands])
    rwa[yZ] at hv
  ·cases h
 ·-- makeFunc
  rename_i fn first cs
  unfold zM at h
  split at h
  ·rename_i f
   obtain⟨Mm,h⟩:=h
   obtain rfl:=Ie Mm
   split at h
   ·rename_i q9
    have hce:cs=#[]:=by
     apply j6.1
     simpa using q9
    subst hce
    exact⟨_,_,h,.calm fun bk _=>.pure fun B g w a hr hx=>⟨_,by simp[execOp,Instr.makeFunc],.e _ _ (.lit _ rfl)⟩⟩
   ·split at h
    ·rename_i ks Qj
     refine⟨_,_,h,.calm fun bk _=>.pure fun B g w a hr hx=>?_⟩
     have caps:∀(l:List Operand) (ks:List Nat),A4 (l.map ev)=some ks→(∀y∈l,aF bk g w (ev y) (a.eval y))→l.map a.eval=(ks.map fun k=>Value.pointer (some ⟨g.μ k,0,none⟩))∧∀k∈ks,k<bk.next:=by
      intro l
      induction l with
      |nil=>
       intro ks h _
       simp only[pN,A4,nq] at h
       subst h
       exact⟨rfl,by simp⟩
      |cons y l ih=>
       intro ks h hy
       simp only[gZ] at h
       unfold A4 at h
       split at h
       ·rename_i heq;cases heq
       ·rename_i k ds heq
        injection heq with e1 e2
        subst e2
        cases hl:A4 (l.map ev) with
        |none=>simp[hl] at h
        |some ks'=>
         simp only[hl,nr,nq] at h
         subst h
         obtain⟨h1,h2⟩:=ih ks' hl (fun z hz=>hy z (io _ hz))
         have hv:=hy y (j8 ..)
         rw[e1] at hv
         generalize hu:a.eval y=u at hv
         cases hv with
         |pt _ _ hk=>
          refine⟨by simp[hu,h1],fun k' pf=>?_⟩
          rcases e8.1 pf with rfl|pf
          ·exact hk
          ·exact h2 k' pf
       ·cases h
     obtain⟨h1,h2⟩:=caps cs.toList ks Qj (fun y hy=>hx y (by
      simp only[Op.operands]
      exact MF.2 (.inr (by simpa using hy))))
     refine⟨_,?_,.fn f ks h2⟩
     have:cs.map a.eval=(ks.map fun k=>Value.pointer (some ⟨g.μ k,0,none⟩)).toArray:=by
      apply j6.1
      simpa using h1
     simp[execOp,Instr.makeFunc,this]
    ·cases h
  ·cases h
 ·cases h
end
end
end
end Go.Proofs.YtgfcnncojhkcoaaGreat
