/-
  Lemmas, part 0. Conditions: none.
-/
import Derived.WalkKit
import Derived.Lib.Hide
import Derived.Lib.AppendStr
import Derived.Laws.BytesArg
import Derived.Lib.SliceRun
import Derived.Deep.Draws
import Derived.Deep.AppendLies
import Derived.Maps.AppendAt
import Derived.BigQuiet
import Derived.Deep.QuietTactic
import Derived.Deep.DeepFit
import Derived.WalkSpells
import Derived.Deep.WholeRow
import Derived.Deep.MidRow
import Derived.WalkLawsBesides
import Derived.Great.BuildSlice
import Derived.Laws.Small
set_option linter.all false
set_option maxRecDepth 100000
namespace Go.Proofs.YtgfcnncojhkcoaaGreat
open Go.RowKit Go.IntKind
noncomputable section
theorem ifp_.{u}{c:Prop}{h:Decidable c}{α:Sort u}{t e:α}(hc:c:=by omega):ite c t e=t:=if_pos hc
theorem ifn_.{u}{c:Prop}{h:Decidable c}{α:Sort u}{t e:α}(hc:¬c:=by omega):ite c t e=e:=if_neg hc
theorem det_ {p:Prop}{i:Decidable p}(h:p:=by omega):decide p=true:=decide_eq_true h
theorem def_ {p:Prop}{i:Decidable p}(h:¬p:=by omega):decide p=false:=decide_eq_false h
abbrev bW:=@List.length_map
abbrev al_1:=@List.flatMap_map
abbrev d5:=@Option.some.inj
abbrev R7:=@Int.toNat_of_nonneg
abbrev al_4:=@List.map_replicate
abbrev Bm:=@List.length_replicate
abbrev DX:=@List.getElem!_eq_getElem?_getD
abbrev fO:=@List.getElem?_map
abbrev i8:=@List.getElem?_eq_getElem
abbrev Hz:=@List.range'_succ
abbrev nZ:=@List.all_cons
abbrev F7:=@List.range_eq_range'
abbrev Ee:=@Bool.eq_iff_iff
abbrev cb:=@List.all_eq_true
abbrev B1:=@List.mem_range
abbrev B0:=@List.getElem_mem
abbrev Sb:=@List.not_any_eq_all_not
abbrev bY:=@Nat.zero_le
abbrev yk:=@List.range_succ
abbrev bJ:=@Nat.mul_le_mul_right
abbrev jS:=@Nat.succ_mul
abbrev bP:=@if_true
abbrev ee:=@Bool.eq_false_or_eq_true
abbrev b7:=@Nat.le_of_ble_eq_true
abbrev bB:=@Nat.zero_add
abbrev aA:=@if_neg
abbrev ja:=@Nat.mul_le_mul
abbrev aJ:=@Int.toNat_natCast
abbrev ar:=@if_pos
abbrev d6:=@decide_eq_true
abbrev f8:=@decide_eq_false
abbrev mK:=@Nat.add_zero
abbrev fP:=@Nat.zero_mul
abbrev z6:=@List.map_set
abbrev qw:=@List.nil_append
abbrev BZ:=@List.length_range
abbrev kY:=@List.eq_nil_of_length_eq_zero
abbrev mJ:=@Nat.eq_zero_or_pos
abbrev tL:=@Nat.mul_pos
abbrev jR:=@List.map_append
abbrev rX:=@List.map_map
abbrev tK:=@List.map_congr_left
abbrev Ka:=@Nat.add_sub_cancel_left
abbrev yj:=@List.map_drop
abbrev wH:=@List.map_take
abbrev e6:=@List.length_take
abbrev eI:=@List.length_append
abbrev fy:=@List.append_assoc
abbrev fx:=@List.map_cons
abbrev i2:=@List.map_nil
abbrev rW:=@List.all_nil
abbrev j7:=@Bool.and_true
abbrev mf:=@Bool.and_eq_true
abbrev Ns:=@List.take_succ
abbrev Nr:=@List.take_length
abbrev J9:=@List.foldl_cons
abbrev Nq:=@List.foldl_append
abbrev z5:=@Nat.mul_one
abbrev BY:=@List.length_set
abbrev R6:=@List.filter_cons
abbrev cw:=@Nat.le_trans
abbrev F6:=@List.length_filter_le
abbrev vQ:=@List.append_nil
abbrev BX:=@if_false
abbrev ie:=@List.length_drop
abbrev sY:=@Vector.length_toList
abbrev f7:=@getElem!_pos
abbrev me:=@Nat.pow_add
abbrev mc:=@Nat.div_div_eq_div_mul
abbrev z4:=@Nat.mul_add
abbrev bZ:=@Nat.add_mul
abbrev i1:=@Nat.mul_assoc
abbrev F5:=@Nat.mul_left_comm
abbrev cC:=@Nat.mul_comm
abbrev dE:=@Nat.pow_pos
abbrev qv:=@Nat.div_lt_iff_lt_mul
abbrev ep:=@Nat.mod_lt
abbrev pX:=@Nat.le_of_lt
abbrev DV:=@Nat.mul_add_div
abbrev gO:=@Nat.div_eq_of_lt
abbrev eZ:=@Nat.pow_succ
abbrev F4:=@Nat.add_mul_mod_self_left
abbrev F3:=@Nat.mod_mod
abbrev rV:=@Nat.mod_one
abbrev pW:=@Nat.div_add_mod
abbrev DU:=@Nat.add_mul_div_left
abbrev rz:=@Nat.add_comm
abbrev ry:=@Int.natCast_mul
abbrev pf:=@Int.natCast_add
abbrev gW:=@Nat.mod_eq_of_lt
abbrev bU:=@Nat.lt_of_lt_of_le
abbrev nY:=@Nat.pow_le_pow_right
abbrev gN:=@Nat.le_succ
abbrev kX:=@Nat.pow_zero
abbrev DT:=@Nat.mul_lt_mul_of_lt_of_lt
abbrev eH:=@Bool.not_true
abbrev sX:=@Nat.div_one
abbrev J8:=@Nat.div_lt_of_lt_mul
abbrev Np:=@Nat.div_eq_zero_iff_lt
abbrev tJ:=@decide_true
abbrev p6:=@decide_false
abbrev wV:=@beq_self_eq_true
abbrev qQ:=@Bool.not_false
abbrev ix:=@cond_true
abbrev Eg:=@Int.neg_mul
abbrev Bw:=@Int.mul_neg
abbrev H4:=@Int.neg_mul_neg
abbrev wU:=@Int.natAbs_mul
abbrev wS:=@Nat.pow_one
abbrev Ef:=@Nat.div_pos
abbrev qP:=@Nat.le_div_iff_mul_le
abbrev Bv:=@Nat.pow_mul
abbrev Bu:=@Nat.add_sub_cancel
abbrev bt:=@Nat.lt_or_ge
abbrev Ma:=@Vector.getElem_ofFn
abbrev d8:=@Nat.one_mul
abbrev ob:=@Nat.add_assoc
abbrev wQ:=@Nat.add_lt_add_left
abbrev qO:=@Nat.le_add_right
abbrev t8:=@Nat.mul_le_mul_left
abbrev cD:=@Nat.lt_of_le_of_lt
abbrev qN:=@Nat.div_le_self
abbrev L9:=@Nat.div_mul_le_self
abbrev Ed:=@Nat.le_mul_of_pos_left
abbrev t7:=@Int.ofNat_tdiv
abbrev t6:=@Int.ofNat_tmod
abbrev L8:=@Nat.mul_add_mod_self_right
abbrev L7:=@Nat.div_le_div_right
abbrev L6:=@Nat.mul_div_cancel_left
abbrev aD:=@Nat.le_refl
abbrev Ec:=@Nat.mul_right_comm
abbrev oa:=@List.drop_zero
abbrev gu:=@List.take_of_length_le
abbrev H3:=@List.take_zero
abbrev Bt:=@Nat.lt_trans
abbrev L5:=@Nat.mul_lt_mul_of_pos_right
abbrev L4:=@Nat.mul_div_cancel
abbrev H2:=@Nat.gcd_zero_right
abbrev L3:=@Nat.gcd_zero_left
abbrev yR:=@Nat.gcd_le_left
abbrev yQ:=@Nat.le_mul_of_pos_right
abbrev vp:=@Nat.pos_of_ne_zero
abbrev dQ:=@Int.natAbs_natCast
abbrev H0:=@Int.fmod_nonneg_of_pos
abbrev HZ:=@Int.fmod_lt_of_pos
abbrev L2:=@Int.lt_trichotomy
abbrev Sd:=@Int.mul_le_mul_of_nonneg_right
abbrev Sc:=@Int.mul_le_mul_of_nonpos_right
abbrev i3:=@decide_eq_decide
abbrev Bs:=@beq_eq_false_iff_ne
abbrev s6:=@Int.mul_comm
abbrev Eb:=@Int.one_mul
abbrev L1:=@Int.sign_eq_zero_iff_zero
abbrev HY:=@Int.natCast_nonneg
abbrev Ea:=@decide_not
abbrev wP:=@Bool.decide_and
abbrev L0:=@Int.sign_eq_neg_one_of_neg
abbrev D9:=@Int.sign_eq_one_of_pos
abbrev HX:=@Int.sign_neg_iff
abbrev t5:=@Option.isSome_some
abbrev LZ:=@Rat.num_divInt_den
abbrev LY:=@Nat.gcd_pos_of_pos_left
abbrev LX:=@Rat.divInt_ofNat
abbrev HW:=@List.getElem?_set_self
abbrev LW:=@List.getElem?_set_ne
abbrev yP:=@Nat.lt_trichotomy
abbrev n9:=@Ne.symm
abbrev D8:=@List.flatMap_append
abbrev wO:=@List.getElem?_append_left
abbrev wN:=@List.getElem?_append_right
abbrev wM:=@List.getElem?_range
abbrev HV:=@Nat.mul_zero
abbrev vo:=@List.ext_getElem?
abbrev fa:=@List.getElem?_eq_none
abbrev bT:=@List.mem_of_getElem?
abbrev wK:=@List.getElem?_of_mem
abbrev j4:=@List.getElem?_eq_some_iff
abbrev ez:=@List.getElem?_take
abbrev lX:=@List.getElem?_drop
abbrev ey:=@Array.getElem?_eq_some_iff
abbrev cp:=@Nat.lt_succ_self
abbrev pZ:=@Nat.lt_succ_of_lt
abbrev eK:=@Array.length_toList
abbrev yO:=@List.drop_of_length_le
abbrev my:=@List.size_toArray
abbrev rP:=@List.take_left
abbrev Br:=@Array.size_append
abbrev HU:=@Array.toList_append
abbrev HT:=@Array.map_map
abbrev D7:=@List.map_toArray
abbrev yN:=@Array.getElem?_append_left
abbrev Bq:=@List.getElem?_toArray
abbrev de:=@Array.getD_eq_getD_getElem?
abbrev pY:=@Option.map_eq_some_iff
abbrev lW:=@Array.toList_inj
abbrev yM:=@Bool.not_eq_true'
abbrev t4:=@List.drop_left
abbrev nj:=@List.drop_drop
abbrev ni:=@List.mem_cons_self
abbrev lV:=@List.mem_cons_of_mem
abbrev nh:=@Array.getElem?_eq_getElem
abbrev D6:=@Array.getElem?_setIfInBounds_ne
abbrev D5:=@Nat.sub_zero
abbrev D4:=@Array.eq_empty_of_size_eq_zero
abbrev mw:=@List.mem_map
abbrev D3:=@List.all_map
abbrev je:=@List.mem_cons
abbrev vn:=@List.all_append
abbrev D2:=@Bool.true_and
abbrev wJ:=@List.take_append_of_le_length
abbrev Bp:=@List.not_mem_nil
abbrev D1:=@Option.bind_some
abbrev LV:=@List.drop_append
abbrev n8:=@of_decide_eq_true
abbrev rO:=@of_decide_eq_false
abbrev LU:=@Array.all_eq_true'
abbrev n7:=@List.length_cons
abbrev lc:=@Option.map_some
abbrev kZ:=@Option.some.injEq
abbrev HS:=@Nat.lt_irrefl
abbrev D0:=@List.map_id
abbrev HQ:=@Array.mapM_eq_mapM_toList
abbrev bH:=@Eq.trans
abbrev HP:=@Nat.testBit_or
abbrev yL:=@Nat.eq_of_beq_eq_true
abbrev HO:=@Nat.beq_refl
abbrev wI:=@Nat.not_lt_zero
abbrev s5:=@List.mem_append
abbrev HN:=@Array.getElem?_eq_none
abbrev HM:=@Array.getElem?_replicate
abbrev LT:=@List.pairwise_iff_getElem
abbrev LS:=@List.drop_eq_getElem_cons
abbrev s4:=@List.take_append_drop
abbrev oL:=@List.flatMap_cons
abbrev LR:=@List.take_append
abbrev HK:=@Classical.choose_spec
abbrev HJ:=@Nat.le_max_left
abbrev HI:=@Nat.le_max_right
abbrev LQ:=@Nat.add_mul_div_right
abbrev LP:=@Nat.add_mul_mod_self_right
abbrev sZ:=@Nat.min_eq_left
abbrev LO:=@Int.natCast_ediv
abbrev LN:=@List.getElem?_cons_zero
abbrev LM:=@List.getElem?_cons_succ
abbrev HH:=@List.getD_eq_getElem?_getD
abbrev vk:=@Option.getD_some
abbrev LL:=@decide_eq_false_iff_not
abbrev HG:=@List.mem_singleton
abbrev HF:=@List.getElem_map
abbrev LK:=@List.any_eq_true
abbrev oK:=@decide_eq_true_eq
abbrev DZ:=@List.drop_take
abbrev Bo:=@List.take_take
abbrev LJ:=@List.drop_append_of_le_length
abbrev Bn:=@List.append_inj
abbrev HE:=@List.ext_getElem
abbrev yK:=@Array.getElem?_toList
abbrev LI:=@List.mem_of_mem_take
abbrev HD:=@Array.getElem?_setIfInBounds
abbrev Sa:=@List.eq_nil_iff_forall_not_mem
abbrev HB:=@List.mem_toArray
abbrev LH:=@Nat.gcd_eq_zero_iff
abbrev HA:=@Int.mul_left_comm
abbrev LG:=@not_true_eq_false
abbrev LF:=@Array.mem_append
abbrev R9:=@List.findIdx?_eq_some_iff_getElem
abbrev DY:=@List.cons_append
abbrev R8:=@Nat.testBit_eq_decide_div_mod_eq
abbrev cQ:Vector Int 16:=Vector.replicate 16 (0:Int)
abbrev aj:Value:=.int .u32 0
section
theorem iw(a:Addr)(n:Nat):(a.add n).block=a.block:=by unfold Addr.add;split <;> rfl
theorem qR(a:Addr)(i j:Nat):(a.add i).add j=a.add (i+j):=by
 unfold Addr.add
 by_cases hi:i=0 <;> by_cases hj:j=0 <;> simp[hi,hj,ob]
def w5(w:World)(B size:Nat)(A:Option Addr)(n:Nat)(xs:List Value):Prop:=
 xs.length=n*size∧(0<n→∃ad,A=some ad∧ad.block<B∧∀j u,xs[j]? =some u→w.cell? (ad.add j)=some u)
def Sl(w:World)(v:Value)(size n:Nat)(xs:List Value):Prop:=
 ∃A c,v=.slice A n c∧n≤c∧c≤maxLen∧w5 w w.heap.size size A n xs
section
variable {w w':World} {B B' size n:Nat} {A:Option Addr} {xs:List Value}
theorem w5.keep(h:w5 w B size A n xs)(hk:∀p:Addr,p.block<B→w'.cell? p=w.cell? p):w5 w' B size A n xs:=
 ⟨h.1,fun hn=>by
  obtain⟨ad,e,hb,hc⟩:=h.2 hn
  exact⟨ad,e,hb,fun j u hu=>(hk _ (by rw[iw];exact hb)).trans (hc j u hu)⟩⟩
theorem w5.more(h:w5 w B size A n xs)(hB:B≤B'):w5 w B' size A n xs:=
 ⟨h.1,fun hn=>by
  obtain⟨ad,e,hb,hc⟩:=h.2 hn
  exact⟨ad,e,by omega,hc⟩⟩
theorem w5.below(h:w5 w B size A n xs)(hb:Below B w w'):w5 w' B size A n xs:=h.keep fun _ hp=>hb.cell hp
theorem Sl.below {v:Value}(h:Sl w v size n xs)(hb:Below w.heap.size w w'):Sl w' v size n xs:=by
 obtain⟨A,c,rfl,h1,h2,hr⟩:=h
 exact⟨A,c,rfl,h1,h2,(hr.below hb).more hb.size⟩
end
theorem N4 {w w':World}{base:Nat}{e:TypeId}{size:Nat}{v:Value}{n:Nat}{xs:List Value}(h:w.ownsRow base e size v n xs)(hb:Below w.heap.size w w'):w'.ownsRow base e size v n xs:=by
 refine⟨h.1,?_⟩
 rcases h.2 with h0|⟨g,cap,cur,rfl,hg,hh,r⟩
 ·exact .inl h0
 ·have bG:g<w.heap.size:=by
   rcases bt g w.heap.size with bG|ze
   ·exact bG
   ·rw[HN ze] at hh;cases hh
  exact .inr ⟨g,cap,cur,rfl,hg,(hb.block g bG).trans hh,r⟩
theorem PQ {w:World}{base base':Nat}{e:TypeId}{size:Nat}{v:Value}{n:Nat}{xs:List Value}(h:w.ownsRow base e size v n xs)(hb:base'≤base):w.ownsRow base' e size v n xs:=by
 refine⟨h.1,?_⟩
 rcases h.2 with h0|⟨g,cap,cur,hv,hg,r⟩
 ·exact .inl h0
 ·exact .inr ⟨g,cap,cur,hv,by omega,r⟩
def bv(u:UInt8):Value:=.int .u8 (u.toNat:Int)
theorem BK(s:ByteArray):Lib.strCells s=s.data.toList.map bv:=rfl
structure El(P:Program)(t e:TypeId)(z:Value)(size bytes:Nat):Prop where
 ht:P.underlying t=some (.slice e)
 info:∃i,P.info? e=some i∧i.zero=some z∧i.size=size∧i.bytes=bytes
 hzs:z.cells.size=size
 hsz:0<size
section
variable {P:Program} (w:World)
theorem zy(base:Nat)(t ty e:TypeId)(i:TypeInfo)(size:Nat)(ht:P.underlying t=some (.slice e))(hi:P.info? e=some i)
  (v:Value) (n:Nat) (xs:List Value) (lj:w.ownsRow base e size v n xs) (c:Nat):(Builtin.append_ #[t,t] ty #[v,.slice none 0 c]).run P w=.ok v w:=by
 rcases lj.2 with⟨rfl,rfl⟩|⟨g,cap,cur,rfl,_,_,pl,_⟩
 ·simp[Builtin.append_,run_underlying ht,sizeOf,typeInfo,hi,Builtin.lenOf,Builtin.firstCells]
 ·simp[Builtin.append_,run_underlying ht,sizeOf,typeInfo,hi,Builtin.lenOf,Builtin.firstCells,pl,storeCells]
theorem C3(base:Nat)(t ty e:TypeId)(i:TypeInfo)(z:Value)(size bytes:Nat)(ht:P.underlying t=some (.slice e))(hi:P.info? e=some i)(hz:i.zero=some z)
  (ya:i.size=size) (hby:i.bytes=bytes) (hzs:z.cells.size=size) (hsz:0<size)
  (v:Value) (n:Nat) (xs:List Value) (lj:w.ownsRow base e size v n xs)
  (B:Nat) (A:Option Addr) (m c:Nat) (news:List Value) (hr:w5 w B size A m news) (h1:∀u∈news,u.oneCell'=true)
  (O5:n+m≤maxLen) (iq:(n+m)*bytes≤140737488355328) (vO:base≤w.heap.size):
  ∃v' w',(Builtin.append_ #[t,t] ty #[v,.slice A m c]).run P w=.ok v' w'∧w'.ownsRow base e size v' (n+m) (xs++news)∧w.grownBy w' v.ownBlock∧
   (v'.ownBlock=v.ownBlock∨v'.ownBlock=some w.heap.size):=by
 rcases A with _|ad
 ·have hm:m=0:=by
   rcases mJ m with h0|h0
   ·exact h0
   ·obtain⟨ad,h,_⟩:=hr.2 h0
    cases h
  subst hm
  have hn:news=[]:=kY (by simpa using hr.1)
  subst hn
  exact⟨v,w,zy w base t ty e i size ht hi v n xs lj c,by simpa using lj,World.grownBy.refl w _,.inl rfl⟩
 ·have hcells:∀j u,news[j]? =some u→w.cell? (ad.add j)=some u:=by
   intro j u hu
   rcases mJ m with h0|h0
   ·subst h0
    have hn:news=[]:=kY (by simpa using hr.1)
    subst hn
    simp at hu
   ·obtain⟨ad',h,_,hc⟩:=hr.2 h0
    injection h with h
    subst h
    exact hc j u hu
  obtain⟨v',w',bR,h2,h3,_,h5⟩:=run_append_own_at (P:=P) w base t ty e i z size bytes ht hi hz ya hby hzs hsz v n xs lj ad m c news hr.1 hcells h1 O5 iq vO
  exact⟨v',w',bR,h2,h3,h5⟩
theorem ER {o:Oper}{a:Act}{K:Act→World→Prop}{Q:Exit→Act→World→Prop}(s x:Operand)(t:TypeId)
  (ho:o.op=.call {callee:=.builtin .append,args:=#[s,x],argTypes:=#[t,t]})
  {e:TypeId} {z:Value} {size bytes:Nat} (el:El P t e z size bytes) (base:Nat)
  (v:Value) (n:Nat) (xs:List Value) (hs:a.eval s=v) (lj:w.ownsRow base e size v n xs)
  (vx:Value) (m:Nat) (news:List Value) (hx:a.eval x=vx) (hr:Sl w vx size m news) (h1:∀u∈news,u.oneCell'=true)
  (iq:(n+m)*bytes≤140737488355328) (O5:n+m≤140737488355328) (vO:base≤w.heap.size)
  (h:∀v' w',w'.ownsRow base e size v' (n+m) (xs++news)→w.grownBy w' v.ownBlock→(v'.ownBlock=v.ownBlock∨v'.ownBlock=some w.heap.size)→K (a.put o.dst v') w'):o.wp P a w K Q:=by
 obtain⟨i,hi,hz,ya,hby⟩:=el.info
 obtain⟨A,c,rfl,_,_,hr⟩:=hr
 obtain⟨v',w',bR,h2,h3,h4⟩:=C3 (P:=P) w base t o.type e i z size bytes el.ht hi hz ya hby el.hzs el.hsz v n xs lj _ A m c news hr h1 (by unfold maxLen;omega) iq vO
 unfold Oper.wp execOp
 simp only[ho,resolve,invoke,builtin,Sem.run_bind,Sem.run_pure,Result.andThen_ok,D7,fx,i2,hs,hx,bR]
 exact h v' w' h2 h3 h4
theorem zh {ops:Array Oper}{rest:List Oper}{o:Oper}{a:Act}{Q:Exit→Act→World→Prop}(hgd:o.guard=none)(s x:Operand)(t:TypeId)
  (ho:o.op=.call {callee:=.builtin .append,args:=#[s,x],argTypes:=#[t,t]})
  {e:TypeId} {z:Value} {size bytes:Nat} (el:El P t e z size bytes) (base:Nat)
  (v:Value) (n:Nat) (xs:List Value) (hs:a.eval s=v) (lj:w.ownsRow base e size v n xs)
  (vx:Value) (m:Nat) (news:List Value) (hx:a.eval x=vx) (hr:Sl w vx size m news) (h1:∀u∈news,u.oneCell'=true)
  (iq:(n+m)*bytes≤140737488355328) (O5:n+m≤140737488355328) (vO:base≤w.heap.size)
  (h:∀v' w',w'.ownsRow base e size v' (n+m) (xs++news)→w.grownBy w' v.ownBlock→(v'.ownBlock=v.ownBlock∨v'.ownBlock=some w.heap.size)→wpList P ops Q rest (a.put o.dst v') w'):wpList P ops Q (o::rest) a w:=
 wpList_plain hgd fun _ hK=>ER w s x t ho el base v n xs hs lj vx m news hx hr h1 iq O5 vO fun v' w' h2 h3 h4=>hK _ _ (h v' w' h2 h3 h4)
theorem zi {ops:Array Oper}{rest:List Oper}{o:Oper}{a:Act}{Q:Exit→Act→World→Prop}(hgd:o.guard=none)(s x:Operand)(t:TypeId)
  (ho:o.op=.call {callee:=.builtin .append,args:=#[s,x],argTypes:=#[t,t]})
  {e:TypeId} {z:Value} {size bytes:Nat} (el:El P t e z size bytes) (base:Nat)
  (v:Value) (n:Nat) (xs:List Value) (hs:a.eval s=v) (lj:w.ownsRow base e size v n xs)
  (vx:Value) (m:Nat) (news:List Value) (hx:a.eval x=vx) (hr:Sl w vx size m news) (h1:∀u∈news,u.oneCell'=true)
  (iq:(n+m)*bytes≤140737488355328) (O5:n+m≤140737488355328) (vO:base≤w.heap.size) (w0:World) (B:Nat) (hB:Below B w0 w) (Rk:B≤base)
  (h:∀v' w',w'.ownsRow base e size v' (n+m) (xs++news)→Below B w0 w'→wpList P ops Q rest (a.put o.dst v') w'):wpList P ops Q (o::rest) a w:=
 zh _ hgd s x t ho el base v n xs hs lj vx m news hx hr h1 iq O5 vO fun v' w' h2 h3 _=>
  h v' w' h2 (hB.grown h3 (by omega) (fun k hk=>by have:=(lj.lt k hk).1;omega))
end
end
section
inductive E where
 |lit (v:Value)
 |sl (z n:Nat) (xs:List E)
 |any
 deriving Inhabited
inductive dq (w:World) (F:Addr→Prop):E→Value→Prop
 |lit (u:Value) (h:u.oneCell'=true):dq w F (.lit u) u
 |any (v:Value) (h:v.oneCell'=true):dq w F .any v
 |sl (z n:Nat) (xs:List E) (A:Option Addr) (c:Nat) (us:Nat→Value) (hl:xs.length=n*z) (hz:0<z) (pl:n≤c) (oF:c≤maxLen)
   (hA:0<n→∃ad,A=some ad∧ad.block<w.heap.size)
   (hc:∀ad,A=some ad→∀j x,xs[j]? =some x→w.cell? (ad.add j)=some (us j)∧¬F (ad.add j))
   (hr:∀j x,xs[j]? =some x→dq w F x (us j)):dq w F (.sl z n xs) (.slice A n c)
theorem dq.one {w:World}{F:Addr→Prop}{x:E}{v:Value}(h:dq w F x v):v.oneCell'=true:=by
 cases h <;> first|assumption|rfl
theorem dq.mono {w w':World}{F F':Addr→Prop}{x:E}{v:Value}(h:dq w F x v)(hs:w.heap.size≤w'.heap.size)
  (hc:∀p:Addr,p.block<w.heap.size→¬F p→w'.cell? p=w.cell? p) (hF:∀p:Addr,p.block<w.heap.size→F' p→F p):dq w' F' x v:=by
 induction h with
 |lit u h=>exact .lit u h
 |any v h=>exact .any v h
 |sl z n xs A c us hl hz pl oF hA CD hr ih=>
  refine .sl z n xs A c us hl hz pl oF (fun hn=>?_) (fun ad ha j x hx=>?_) ih
  ·obtain⟨ad,e,hb⟩:=hA hn
   exact⟨ad,e,by omega⟩
  ·obtain⟨h1,h2⟩:=CD ad ha j x hx
   have hn:0<n:=by
    have:j<xs.length:=by
     rcases bt j xs.length with h|h
     ·exact h
     ·rw[fa h] at hx;cases hx
    rcases mJ n with h0|h0
    ·subst h0;omega
    ·exact h0
   obtain⟨ad',e,hb⟩:=hA hn
   rw[ha] at e
   injection e with e
   subst e
   have sh:(ad.add j).block<w.heap.size:=by rw[iw];exact hb
   exact⟨(hc _ sh h2).trans h1,fun hf=>h2 (hF _ sh hf)⟩
inductive D where
 |e (x:E)
 |own (id z n:Nat) (xs:List E)
 |fu (z n:Nat) (xs:List E)
 |ag (ds:List D)
 |tu (ds:List D)
 |fp (xs:List E) (off:Nat)
 |pt (k off:Nat)
 |ow (k off z n:Nat)
 |gw (k z n:Nat)
 |fn (f:FuncId) (ks:List Nat)
 |opt (b:Bool) (d:D)
 |top
 deriving Inhabited
def D.isE:D→Bool
 | .e _=>true
 | .fu _ _ _=>true
 | .fp _ _=>true
 |_=>false
def D.idsC(m:Nat):D→Bool
 | .e _=>true
 | .fu _ _ _=>true
 | .fp _ _=>true
 | .own id _ _ _=>decide (id<m)
 | .pt k _=>decide (k<m)
 | .ow k _ _ _=>decide (k<m)
 | .gw k _ _=>decide (k<m)
 | .fn _ ks=>ks.all fun k=>decide (k<m)
 | .top=>true
 | .opt _ (.ag ds)=>ds.all D.isE
 | .opt _ d=>d.idsC m
 |_=>false
theorem D.idsC_le {m m':Nat}(h:m≤m'):∀{d:D},d.idsC m=true→d.idsC m'=true
 | .e _,_=>rfl
 | .fu _ _ _,_=>rfl
 | .fp _ _,_=>rfl
 | .top,_=>rfl
 | .own id _ _ _,h'=>by simp only[D.idsC,oK] at h' ⊢;omega
 | .pt k _,h'=>by simp only[D.idsC,oK] at h' ⊢;omega
 | .ow k _ _ _,h'=>by simp only[D.idsC,oK] at h' ⊢;omega
 | .gw k _ _,h'=>by simp only[D.idsC,oK] at h' ⊢;omega
 | .fn _ ks,h'=>by simp only[D.idsC,cb,oK] at h' ⊢;exact fun k hk=>bU (h' k hk) h
 | .opt _ (.ag ds),h'=>h'
 | .opt _ (.e _),_=>rfl
 | .opt _ (.fu _ _ _),_=>rfl
 | .opt _ (.fp _ _),_=>rfl
 | .opt _ .top,_=>rfl
 | .opt _ (.own id z n xs),h'=>D.idsC_le (d:=.own id z n xs) h h'
 | .opt _ (.pt k o),h'=>D.idsC_le (d:=.pt k o) h h'
 | .opt _ (.ow k o z n),h'=>D.idsC_le (d:=.ow k o z n) h h'
 | .opt _ (.gw k z n),h'=>D.idsC_le (d:=.gw k z n) h h'
 | .opt _ (.fn f ks),h'=>D.idsC_le (d:=.fn f ks) h h'
 | .opt _ (.opt b d),h'=>D.idsC_le (d:=.opt b d) h h'
 | .opt _ (.tu _),h'=>by cases h'
 | .ag _,h'=>by cases h'
 | .tu _,h'=>by cases h'
structure Hp where
 vars:List (Nat×List D)
 live:List (Nat×Nat×Nat×TypeId)
 next:Nat
structure Gh where
 μ:Nat→Nat
 τ:Nat→Value
 F:Addr→Prop
inductive aI (hp:Hp) (g:Gh) (w:World):D→Value→Prop
 |e (x:E) (v:Value) (h:dq w g.F x v):aI hp g w (.e x) v
 |own (id z n:Nat) (xs:List E) (v:Value) (h:dq w g.F (.sl z n xs) v) (hid:id<hp.next)
   (ht:∀m e,hp.live.lookup id=some (m,e)→n≤m∧e.1=z∧(n=m→v=g.τ id)):aI hp g w (.own id z n xs) v
 |fu (z n:Nat) (xs:List E) (A:Option Addr) (h:dq w g.F (.sl z n xs) (.slice A n n)):aI hp g w (.fu z n xs) (.slice A n n)
 |ag (ds:List D) (cs:Array Value) (hl:cs.size=ds.length) (h1:∀(j:Nat) (u:Value),cs[j]? =some u→u.oneCell'=true)
   (hr:∀(j:Nat) (d:D) (u:Value),ds[j]? =some d→cs[j]? =some u→aI hp g w d u):aI hp g w (.ag ds) (.agg cs)
 |tu (ds:List D) (cs:Array Value) (hl:cs.size=ds.length)
   (hr:∀(j:Nat) (d:D) (u:Value),ds[j]? =some d→cs[j]? =some u→aI hp g w d u):aI hp g w (.tu ds) (.tuple cs)
 |fp (xs:List E) (off:Nat) (ad:Addr) (hb:ad.block<w.heap.size) (hc:∀j x,xs[j]? =some x→∃u,w.cell? (ad.add j)=some u∧¬g.F (ad.add j)∧dq w g.F x u):
   aI hp g w (.fp xs off) (.pointer (some (ad.add off)))
 |pt (k off:Nat) (hk:k<hp.next):aI hp g w (.pt k off) (.pointer (some ⟨g.μ k,off,none⟩))
 |ow (k off z n c:Nat) (hk:k<hp.next) (pl:n≤c) (oF:c≤maxLen):aI hp g w (.ow k off z n) (.slice (some ⟨g.μ k,off,none⟩) n c)
 |gw (k z n c:Nat) (hk:k<hp.next) (pl:n≤c) (oF:c≤maxLen) (hs:∃(cs:Array Value) (ty:TypeId) (l:Nat×Nat),w.heap[g.μ k]? =some (Obj.cells cs ty l)∧c*z≤cs.size):aI hp g w (.gw k z n) (.slice (some ⟨g.μ k,0,none⟩) n c)
 |fn (f:FuncId) (ks:List Nat) (hk:∀k∈ks,k<hp.next):aI hp g w (.fn f ks) (.func (.func f) #[] (ks.map fun k=>Value.pointer (some ⟨g.μ k,0,none⟩)).toArray)
 |opt (b:Bool) (d:D) (v:Value) (hi:(D.opt b d).idsC hp.next=true) (h:b=true→aI hp g w d v):aI hp g w (.opt b d) v
 |top (v:Value):aI hp g w .top v
def Ih(hp:Hp)(g:Gh)(b:Nat):Prop:=(∀k ds,hp.vars.lookup k=some ds→g.μ k≠b)∧∀id t,hp.live.lookup id=some t→(g.τ id).ownBlock≠some b
def SzB(w w':World)(b:Nat):Prop:=∀(cs:Array Value) (ty:TypeId) (l:Nat×Nat),w.heap[b]? =some (Obj.cells cs ty l)→∃vd:Array Value,w'.heap[b]? =some (Obj.cells vd ty l)∧vd.size=cs.size
theorem SzB.same {w w':World}{b:Nat}(h:b<w.heap.size→w'.heap[b]? =w.heap[b]?):SzB w w' b:=fun cs _ _ hc=>⟨cs,(h (ey.1 hc).1).trans hc,rfl⟩
structure bC(hp:Hp)(g:Gh)(w:World)(hp':Hp)(g':Gh)(w':World):Prop where
 size:w.heap.size≤w'.heap.size
 cell:∀p:Addr,p.block<w.heap.size→¬g.F p→w'.cell? p=w.cell? p
 forb:∀p:Addr,p.block<w.heap.size→g'.F p→g.F p
 next:hp.next≤hp'.next
 μ:∀k,k<hp.next→g'.μ k=g.μ k
 live:∀id,id<hp.next→∀m e,hp'.live.lookup id=some (m,e)→∃m0,hp.live.lookup id=some (m0,e)∧m0≤m∧(m0=m→g'.τ id=g.τ id)
 fr:∀b,b<w.heap.size→Ih hp g b→w'.heap[b]? =w.heap[b]?∧(∀p:Addr,p.block=b→g.F p→g'.F p)∧Ih hp' g' b
 szs:∀b,SzB w w' b
theorem bC.refl(hp:Hp)(g:Gh)(w:World):bC hp g w hp g w:=
 ⟨aD _,fun _ _ _=>rfl,fun _ _ h=>h,aD _,fun _ _=>rfl,fun _ _ m _ h=>⟨m,h,aD _,fun _=>rfl⟩,fun _ _ h=>⟨rfl,fun _ _ h=>h,h⟩,fun _=>.same fun _=>rfl⟩
theorem bC.trans {hp hp' QC:Hp}{g g' g'':Gh}{w w' w'':World}(h:bC hp g w hp' g' w')(h':bC hp' g' w' QC g'' w''):bC hp g w QC g'' w'':=
 ⟨cw h.size h'.size,fun p hb hf=>(h'.cell p (bU hb h.size) (fun hf'=>hf (h.forb p hb hf'))).trans (h.cell p hb hf),
  fun p hb hf=>h.forb p hb (h'.forb p (bU hb h.size) hf),cw h.next h'.next,
  fun k hk=>(h'.μ k (bU hk h.next)).trans (h.μ k hk),
  fun id hid m e hm=>by
   obtain⟨m1,h1,h2,h3⟩:=h'.live id (bU hid h.next) m e hm
   obtain⟨m0,h4,h5,h6⟩:=h.live id hid m1 e h1
   exact⟨m0,h4,cw h5 h2,fun hh=>(h3 (by omega)).trans (h6 (by omega))⟩,
  fun b hb hf=>by
   obtain⟨h1,h2,h3⟩:=h.fr b hb hf
   obtain⟨h4,h5,h6⟩:=h'.fr b (bU hb h.size) h3
   exact⟨h4.trans h1,fun p hp hq=>h5 p hp (h2 p hp hq),h6⟩,
  fun b cs ty l hc=>by
   obtain⟨c1,h1,h2⟩:=h.szs b cs ty l hc
   obtain⟨c2,h3,h4⟩:=h'.szs b c1 ty l h1
   exact⟨c2,h3,h4.trans h2⟩⟩
section
variable {hp hp':Hp} {g g':Gh} {w w':World} {d:D} {v:Value} {x:E}
theorem bC.repE(m:bC hp g w hp' g' w')(h:dq w g.F x v):dq w' g'.F x v:=h.mono m.size m.cell m.forb
theorem aI.mono(h:aI hp g w d v)(m:bC hp g w hp' g' w'):aI hp' g' w' d v:=by
 induction h with
 |e x v h=>exact .e x v (m.repE h)
 |own id z n xs v h hid ht=>
  refine .own id z n xs v (m.repE h) (bU hid m.next) (fun m' e hm=>?_)
  obtain⟨m0,h1,h2,h3⟩:=m.live id hid m' e hm
  obtain⟨h4,h6,h5⟩:=ht m0 e h1
  exact⟨cw h4 h2,h6,fun hh=>(h5 (by omega)).trans (h3 (by omega)).symm⟩
 |fu z n xs A h=>exact .fu z n xs A (m.repE h)
 |ag ds cs hl h1 _ ih=>exact .ag ds cs hl h1 ih
 |tu ds cs hl _ ih=>exact .tu ds cs hl ih
 |fp xs off ad hb hc=>
  refine .fp xs off ad (bU hb m.size) (fun j x hx=>?_)
  obtain⟨u,h1,h2,h3⟩:=hc j x hx
  have sh:(ad.add j).block<w.heap.size:=by rw[iw];exact hb
  exact⟨u,(m.cell _ sh h2).trans h1,fun hf=>h2 (m.forb _ sh hf),m.repE h3⟩
 |pt k off hk=>rw[←m.μ k hk];exact .pt k off (bU hk m.next)
 |ow k off z n c hk h1 h2=>rw[←m.μ k hk];exact .ow k off z n c (bU hk m.next) h1 h2
 |gw k z n c hk h1 h2 hs=>
  obtain⟨cs,ty,l,h3,h4⟩:=hs
  obtain⟨vd,h5,h6⟩:=m.szs _ cs ty l h3
  rw[←m.μ k hk]
  exact .gw k z n c (bU hk m.next) h1 h2 ⟨vd,ty,l,by rw[m.μ k hk];exact h5,by omega⟩
 |fn f ks hk=>
  have:(ks.map fun k=>Value.pointer (some ⟨g.μ k,0,none⟩))=ks.map fun k=>Value.pointer (some ⟨g'.μ k,0,none⟩):=
   tK fun k h=>by rw[m.μ k (hk k h)]
  rw[this]
  exact .fn f ks (fun k h=>bU (hk k h) m.next)
 |opt b d v hi _ ih=>exact .opt b d v (D.idsC_le m.next hi) ih
 |top v=>exact .top v
end
structure HR(B:Nat)(hp:Hp)(g:Gh)(w:World):Prop where
 var:∀k ds,hp.vars.lookup k=some ds→k<hp.next∧B≤g.μ k∧(∀p:Addr,p.block=g.μ k→g.F p)∧
  ∃cs ty,w.heap[g.μ k]? =some (.cells cs ty (0,0))∧ds.length≤cs.size∧∀(j:Nat) (u:Value),cs[j]? =some u→(j<ds.length→u.oneCell'=true)∧∀d,ds[j]? =some d→aI hp g w d u
 inj:∀k k' ds ds',hp.vars.lookup k=some ds→hp.vars.lookup k'=some ds'→g.μ k=g.μ k'→k=k'
 tok:∀id n e,hp.live.lookup id=some (n,e)→id<hp.next∧∃us,0<e.1∧w.ownsRow B e.2 e.1 (g.τ id) n us∧
  ∀b,(g.τ id).ownBlock=some b→(∀p:Addr,p.block=b→n*e.1≤p.off→g.F p)∧∀k ds,hp.vars.lookup k=some ds→g.μ k≠b
 tinj:∀id A9 t t' b,hp.live.lookup id=some t→hp.live.lookup A9=some t'→(g.τ id).ownBlock=some b→(g.τ A9).ownBlock=some b→id=A9
 base:B≤w.heap.size
 fits:∀p:Addr,g.F p→p.block<w.heap.size
section
variable {B:Nat} {hp hp':Hp} {g g':Gh} {w w':World}
theorem HR.var_lt(h:HR B hp g w){k:Nat}{ds:List D}(hk:hp.vars.lookup k=some ds):g.μ k<w.heap.size:=by
 obtain⟨_,_,_,cs,ty,hh,_⟩:=h.var k ds hk
 exact (ey.1 hh).1
theorem HR.keep(h:HR B hp g w)(hs:w.heap.size≤w'.heap.size)(hb:∀b,b<w.heap.size→w'.heap[b]? =w.heap[b]?):HR B hp g w':=by
 have m:bC hp g w hp g w':=⟨hs,fun _ hq _=>World.cell?_of_block (hb _ hq),fun _ _ h=>h,aD _,fun _ _=>rfl,fun _ _ m _ h=>⟨m,h,aD _,fun _=>rfl⟩,fun b hq h=>⟨hb b hq,fun _ _ h=>h,h⟩,fun b=>.same (hb b)⟩
 refine⟨fun k ds hk=>?_,h.inj,fun id n e hi=>?_,h.tinj,cw h.base hs,fun p hf=>bU (h.fits p hf) hs⟩
 ·have bG:=h.var_lt hk
  obtain⟨h1,h2,h3,cs,ty,h4,h5,h6⟩:=h.var k ds hk
  exact⟨h1,h2,h3,cs,ty,(hb _ bG).trans h4,h5,fun j u hu=>⟨(h6 j u hu).1,fun d hd=>((h6 j u hu).2 d hd).mono m⟩⟩
 ·obtain⟨h1,us,hz,h2,h3⟩:=h.tok id n e hi
  refine⟨h1,us,hz,⟨h2.1,?_⟩,h3⟩
  rcases h2.2 with h0|⟨b,cap,cur,hv,hB,hh,r⟩
  ·exact .inl h0
  ·exact .inr ⟨b,cap,cur,hv,hB,(hb b (ey.1 hh).1).trans hh,r⟩
theorem bC.keep(hp:Hp)(g:Gh)(hs:w.heap.size≤w'.heap.size)(hb:∀b,b<w.heap.size→w'.heap[b]? =w.heap[b]?):bC hp g w hp g w':=
 ⟨hs,fun _ hq _=>World.cell?_of_block (hb _ hq),fun _ _ h=>h,aD _,fun _ _=>rfl,fun _ _ m _ h=>⟨m,h,aD _,fun _=>rfl⟩,fun b hq h=>⟨hb b hq,fun _ _ h=>h,h⟩,fun b=>.same (hb b)⟩
theorem ay {α:Type}{k j:Nat}{x:α}{l:List (Nat×α)}(h:j≠k):((k,x)::l).lookup j=l.lookup j:=by
 rw[List.lookup_cons,Bs.2 h]
theorem ak {α:Type}{k:Nat}{x:α}{l:List (Nat×α)}:((k,x)::l).lookup k=some x:=by
 rw[List.lookup_cons,wV]
def Hp.var(hp:Hp)(ds:List D):Hp:=⟨(hp.next,ds)::hp.vars,hp.live,hp.next+1⟩
def Gh.var(g:Gh)(k b:Nat):Gh:=⟨fun j=>if j=k then b else g.μ j,g.τ,fun p=>g.F p∨p.block=b⟩
theorem bC.var(hp:Hp)(g:Gh)(w:World)(ds:List D)(o:Obj):bC hp g w (hp.var ds) (g.var hp.next w.heap.size) (w.alloc o):=by
 refine⟨by simp,fun p hp1 _=>World.cell?_alloc_lt w o p hp1,fun p hb hf=>?_,gN _,fun k hk=>?_,fun _ _ m _ hm=>⟨m,hm,aD _,fun _=>rfl⟩,fun b hb hf=>⟨heap_alloc_old w _ hb,fun _ _ h=>.inl h,fun k ds' hk=>?_,hf.2⟩,fun b=>.same fun h=>heap_alloc_old w _ h⟩
 ·rcases hf with hf|hf
  ·exact hf
  ·omega
 ·show (if k=hp.next then _ else _)=_
  rw[ifn_]
 ·show (if k=hp.next then _ else _)≠_
  by_cases BQ:k=hp.next
  ·rw[ar BQ];omega
  ·rw[aA BQ]
   exact hf.1 k ds' (by rw[←hk];exact (ay BQ).symm)
theorem HR.newVar(hr:HR B hp g w)(ds:List D)(cs:Array Value)(ty:TypeId)(hl:ds.length≤cs.size)
  (hc:∀(j:Nat) (u:Value),cs[j]? =some u→(j<ds.length→u.oneCell'=true)∧∀d,ds[j]? =some d→aI hp g w d u):HR B (hp.var ds) (g.var hp.next w.heap.size) (w.alloc (.cells cs ty)):=by
 have m:=bC.var hp g w ds (.cells cs ty)
 have mP:∀b,b<w.heap.size→(w.alloc (.cells cs ty)).heap[b]? =w.heap[b]? :=fun b hb=>heap_alloc_old w _ hb
 have hμ:∀k,k<hp.next→(g.var hp.next w.heap.size).μ k=g.μ k:=m.μ
 refine⟨fun k ds' hk=>?_,fun k k' a b hk v3 he=>?_,fun id n e hi=>?_,fun id A9 t t' b hi Ap he FP=>hr.tinj id A9 t t' b hi Ap he FP,by simp;have:=hr.base;omega,fun p hf=>?_⟩
 ·by_cases BQ:k=hp.next
  ·subst BQ
   have:some ds=some ds':=by rw[←hk];exact ak.symm
   injection this with this
   subst this
   refine⟨cp _,by show B≤(if _ then _ else _);rw[ar rfl];exact hr.base,fun p hp'=>.inr ?_,cs,ty,?_,hl,fun j u hu=>⟨(hc j u hu).1,fun d hd=>((hc j u hu).2 d hd).mono m⟩⟩
   ·rw[hp'];show (if _ then _ else _)=_;rw[ar rfl]
   ·show (w.alloc _).heap[(if _ then _ else _)]? =_
    rw[ar rfl]
    exact heap_alloc_new w _
  ·have hk0:hp.vars.lookup k=some ds':=by rw[←hk];exact (ay BQ).symm
   have bG:=hr.var_lt hk0
   obtain⟨h1,h2,h3,vd,Ku,h4,h5,h6⟩:=hr.var k ds' hk0
   rw[hμ k h1]
   exact⟨pZ h1,h2,fun p hp'=>.inl (h3 p hp'),vd,Ku,(mP _ bG).trans h4,h5,fun j u hu=>⟨(h6 j u hu).1,fun d hd=>((h6 j u hu).2 d hd).mono m⟩⟩
 ·have look:∀{j:Nat} {a:List D},(hp.var ds).vars.lookup j=some a→j=hp.next∨(j≠hp.next∧hp.vars.lookup j=some a):=by
   intro j a hj
   by_cases Bc:j=hp.next
   ·exact .inl Bc
   ·exact .inr ⟨Bc,by rw[←hj];exact (ay Bc).symm⟩
  rcases look hk with h1|⟨h1,uI⟩ <;> rcases look v3 with h2|⟨h2,u9⟩
  ·omega
  ·have bG:=hr.var_lt u9
   have hn:=(hr.var k' b u9).1
   rw[hμ k' hn,h1] at he
   have:(g.var hp.next w.heap.size).μ hp.next=w.heap.size:=ar rfl
   omega
  ·have bG:=hr.var_lt uI
   have hn:=(hr.var k a uI).1
   rw[hμ k hn,h2] at he
   have:(g.var hp.next w.heap.size).μ hp.next=w.heap.size:=ar rfl
   omega
  ·rw[hμ k (hr.var k a uI).1,hμ k' (hr.var k' b u9).1] at he
   exact hr.inj k k' a b uI u9 he
 ·obtain⟨h1,us,hz,h2,h3⟩:=hr.tok id n e hi
  refine⟨pZ h1,us,hz,N4 h2 ((Below.refl w.heap.size w).alloc (aD _) _),fun b hb=>⟨fun p h4 h5=>.inl ((h3 b hb).1 p h4 h5),fun k ds' hk=>?_⟩⟩
  by_cases BQ:k=hp.next
  ·subst BQ
   show (if _ then _ else _)≠b
   rw[ar rfl]
   have:=(h2.lt b hb).2
   omega
  ·have hk0:hp.vars.lookup k=some ds':=by rw[←hk];exact (ay BQ).symm
   rw[hμ k (hr.var k ds' hk0).1]
   exact (h3 b hb).2 k ds' hk0
 ·simp only[World.size_alloc]
  rcases hf with hf|hf
  ·have:=hr.fits p hf;omega
  ·omega
def Hp.set(hp:Hp)(k:Nat)(ds:List D):Hp:=⟨(k,ds)::hp.vars,hp.live,hp.next⟩
theorem bC.setVar(hr:HR B hp g w){k:Nat}{ds:List D}(hk:hp.vars.lookup k=some ds)(ds':List D)(hs:w'.heap.size=w.heap.size)(ho:∀b,b≠g.μ k→w'.heap[b]? =w.heap[b]?)(hz:SzB w w' (g.μ k)):bC hp g w (hp.set k ds') g w':=by
 refine⟨by omega,fun p hp' hf=>World.cell?_of_block (ho _ fun e=>hf ((hr.var k ds hk).2.2.1 p e)),fun _ _ h=>h,aD _,fun _ _=>rfl,fun _ _ m _ h=>⟨m,h,aD _,fun _=>rfl⟩,fun b hb hf=>⟨ho b fun e=>hf.1 k ds hk e.symm,fun _ _ h=>h,fun j a hj=>?_,hf.2⟩,fun b=>by
  by_cases hb:b=g.μ k
  ·subst hb;exact hz
  ·exact .same fun _=>ho b hb⟩
 by_cases Bc:j=k
 ·subst Bc;exact hf.1 j ds hk
 ·exact hf.1 j a (by rw[←hj];exact (ay Bc).symm)
theorem HR.setVar(hr:HR B hp g w){k:Nat}{ds:List D}(hk:hp.vars.lookup k=some ds)(ds':List D)(cs:Array Value)(ty:TypeId)(hs:w'.heap.size=w.heap.size)(ho:∀b,b≠g.μ k→w'.heap[b]? =w.heap[b]?)
  (hn:w'.heap[g.μ k]? =some (.cells cs ty (0,0))) (hl:ds'.length≤cs.size) (hz:SzB w w' (g.μ k)) (hc:∀(j:Nat) (u:Value),cs[j]? =some u→(j<ds'.length→u.oneCell'=true)∧∀d,ds'[j]? =some d→aI hp g w d u):HR B (hp.set k ds') g w':=by
 have m:=bC.setVar hr hk ds' hs ho hz
 have look:∀{j:Nat} {a:List D},(hp.set k ds').vars.lookup j=some a→(j=k∧a=ds')∨(j≠k∧hp.vars.lookup j=some a):=by
  intro j a hj
  by_cases Bc:j=k
  ·subst Bc
   have:some ds'=some a:=by rw[←hj];exact ak.symm
   injection this with this
   exact .inl ⟨rfl,this.symm⟩
  ·exact .inr ⟨Bc,by rw[←hj];exact (ay Bc).symm⟩
 have GF:∀{j:Nat} {a:List D},(hp.set k ds').vars.lookup j=some a→∃a',hp.vars.lookup j=some a':=by
  intro j a hj
  rcases look hj with⟨rfl,_⟩|⟨_,h⟩
  ·exact⟨_,hk⟩
  ·exact⟨_,h⟩
 refine⟨fun j a hj=>?_,fun j j' a b hj Ip he=>?_,fun id n e hi=>?_,hr.tinj,by have:=hr.base;omega,fun p hf=>by have:=hr.fits p hf;omega⟩
 ·rcases look hj with⟨rfl,rfl⟩|⟨qu,h0⟩
  ·obtain⟨h1,h2,h3,_⟩:=hr.var j ds hk
   exact⟨h1,h2,h3,cs,ty,hn,hl,fun i u hu=>⟨(hc i u hu).1,fun d hd=>((hc i u hu).2 d hd).mono m⟩⟩
  ·obtain⟨h1,h2,h3,vd,Ku,h4,h5,h6⟩:=hr.var j a h0
   exact⟨h1,h2,h3,vd,Ku,(ho _ fun e=>qu (hr.inj j k a ds h0 hk e)).trans h4,h5,fun i u hu=>⟨(h6 i u hu).1,fun d hd=>((h6 i u hu).2 d hd).mono m⟩⟩
 ·obtain⟨a',ha'⟩:=GF hj
  obtain⟨b',sh⟩:=GF Ip
  exact hr.inj j j' a' b' ha' sh he
 ·obtain⟨h1,us,hz,h2,h3⟩:=hr.tok id n e hi
  refine⟨h1,us,hz,⟨h2.1,?_⟩,fun b hb=>⟨(h3 b hb).1,fun j a hj=>?_⟩⟩
  ·rcases h2.2 with h0|⟨b,cap,cur,hv,hB,hh,r⟩
   ·exact .inl h0
   ·refine .inr ⟨b,cap,cur,hv,hB,(ho b fun e=>?_).trans hh,r⟩
    exact (h3 b (by rw[hv];rfl)).2 k ds hk e.symm
  ·obtain⟨a',ha'⟩:=GF hj
   exact (h3 b hb).2 j a' ha'
def Hp.tok(hp:Hp)(n:Nat)(e:Nat×TypeId):Hp:=⟨hp.vars,(hp.next,n,e)::hp.live,hp.next+1⟩
def Value.tail(v:Value)(n:Nat)(p:Addr):Prop:=∃b,v.ownBlock=some b∧p.block=b∧n≤p.off
def Gh.tok(g:Gh)(id:Nat)(v:Value)(n:Nat):Gh:=⟨g.μ,fun j=>if j=id then v else g.τ j,fun p=>(g.F p∧¬(v.ownBlock=some p.block∧p.off<n))∨Value.tail v n p⟩
theorem bC.tok(hp:Hp)(g:Gh){v:Value}{n m:Nat}{e:Nat×TypeId}(hs:w.heap.size≤w'.heap.size)(hb:∀b,b<w.heap.size→w'.heap[b]? =w.heap[b]?)(hv:∀b,v.ownBlock=some b→w.heap.size≤b):
  bC hp g w (hp.tok n e) (g.tok hp.next v m) w':=by
 refine⟨hs,fun p hp' _=>World.cell?_of_block (hb _ hp'),fun p hpb hf=>?_,gN _,fun _ _=>rfl,fun id hid k e' hm=>?_,fun b hq hf=>⟨hb b hq,fun p h1 h2=>.inl ⟨h2,fun h=>by have:=hv _ h.1;omega⟩,hf.1,fun id t hi=>?_⟩,fun b=>.same (hb b)⟩
 ·rcases hf with hf|⟨b,h1,h2,_⟩
  ·exact hf.1
  ·have:=hv b h1;omega
 ·refine⟨k,?_,aD _,fun _=>?_⟩
  ·rw[←hm]
   exact (ay (show id≠hp.next by omega)).symm
  ·show (if id=hp.next then v else g.τ id)=_
   rw[ifn_]
 ·show (if id=hp.next then v else g.τ id).ownBlock≠_
  by_cases G3:id=hp.next
  ·rw[ar G3];intro he;have:=hv _ he;omega
  ·rw[aA G3]
   exact hf.2 id t (by rw[←hi];exact (ay G3).symm)
theorem HR.newTok(hr:HR B hp g w){v:Value}{n:Nat}{e:Nat×TypeId}{us:List Value}(hz:0<e.1)(hs:w.heap.size≤w'.heap.size)(hb:∀b,b<w.heap.size→w'.heap[b]? =w.heap[b]?)(hv:∀b,v.ownBlock=some b→w.heap.size≤b)
  (ho:w'.ownsRow B e.2 e.1 v n us):HR B (hp.tok n e) (g.tok hp.next v (n*e.1)) w':=by
 have m:bC hp g w (hp.tok n e) (g.tok hp.next v (n*e.1)) w':=bC.tok hp g hs hb hv
 have look:∀{j:Nat} {a:Nat×Nat×TypeId},(hp.tok n e).live.lookup j=some a→(j=hp.next∧a=(n,e))∨(j≠hp.next∧hp.live.lookup j=some a):=by
  intro j a hj
  by_cases Bc:j=hp.next
  ·subst Bc
   have:some (n,e)=some a:=by rw[←hj];exact ak.symm
   injection this with this
   exact .inl ⟨rfl,this.symm⟩
  ·exact .inr ⟨Bc,by rw[←hj];exact (ay Bc).symm⟩
 have hτ:∀j,j≠hp.next→(g.tok hp.next v (n*e.1)).τ j=g.τ j:=fun j hj=>aA hj
 have hτn:(g.tok hp.next v (n*e.1)).τ hp.next=v:=ar rfl
 have old:∀{j:Nat} {a:Nat×Nat×TypeId} {b:Nat},hp.live.lookup j=some a→(g.τ j).ownBlock=some b→b<w.heap.size:=by
  intro j a b hj sh
  obtain⟨_,_,_,h2,_⟩:=hr.tok j a.1 a.2 hj
  exact (h2.lt b sh).2
 have stay:∀p:Addr,p.block<w.heap.size→g.F p→(g.tok hp.next v (n*e.1)).F p:=fun p hp' hf=>.inl ⟨hf,fun h=>by have:=hv _ h.1;omega⟩
 refine⟨fun k ds hk=>?_,hr.inj,fun id n' e' hi=>?_,fun id A9 t t' b hi Ap he FP=>?_,cw hr.base hs,fun p hf=>?_⟩
 ·have bG:=hr.var_lt (k:=k) (ds:=ds) hk
  obtain⟨h1,h2,h3,vd,Ku,h4,h5,h6⟩:=hr.var k ds hk
  exact⟨pZ h1,h2,fun p hp'=>stay p (by rw[hp'];exact bG) (h3 p hp'),vd,Ku,(hb _ bG).trans h4,h5,fun j u hu=>⟨(h6 j u hu).1,fun d hd=>((h6 j u hu).2 d hd).mono m⟩⟩
 ·rcases look hi with⟨rfl,h⟩|⟨qu,h0⟩
  ·injection h with ha sh
   subst ha;subst sh
   rw[hτn]
   exact⟨cp _,us,hz,ho,fun b sh=>⟨fun p h4 h5=>.inr ⟨b,sh,h4,h5⟩,fun k ds hk=>by
    have h6:=hr.var_lt (k:=k) (ds:=ds) hk
    have h7:=hv b sh
    show g.μ k≠b
    omega⟩⟩
  ·obtain⟨h1,v7,hz',h2,h3⟩:=hr.tok id n' e' h0
   rw[hτ id qu]
   refine⟨pZ h1,v7,hz',⟨h2.1,?_⟩,fun b sh=>⟨fun p h4 h5=>stay p (by have:=old h0 sh;omega) ((h3 b sh).1 p h4 h5),(h3 b sh).2⟩⟩
   rcases h2.2 with h0|⟨b,cap,cur,xh,hB,hh,r⟩
   ·exact .inl h0
   ·exact .inr ⟨b,cap,cur,xh,hB,(hb b (ey.1 hh).1).trans hh,r⟩
 ·rcases look hi with⟨rfl,_⟩|⟨qu,h0⟩ <;> rcases look Ap with⟨rfl,_⟩|⟨QH,Iu⟩
  ·rfl
  ·rw[hτn] at he
   rw[hτ _ QH] at FP
   have h1:=old Iu FP
   have h2:=hv b he
   omega
  ·rw[hτn] at FP
   rw[hτ _ qu] at he
   have h1:=old h0 he
   have h2:=hv b FP
   omega
  ·rw[hτ _ qu] at he
   rw[hτ _ QH] at FP
   exact hr.tinj id A9 t t' b h0 Iu he FP
 ·rcases hf with hf|⟨b,h1,h2,_⟩
  ·exact bU (hr.fits p hf.1) hs
  ·rw[h2]
   exact (ho.lt b h1).2
theorem Gh.tok_keep(g:Gh)(id:Nat){v:Value}{n:Nat}(hv:∀b,v.ownBlock=some b→B≤b)(p:Addr)(hp:p.block<B)(hf:g.F p):(g.tok id v n).F p:=.inl ⟨hf,fun h=>by have:=hv _ h.1;omega⟩
end
end
section
section
variable {P:Program}
inductive BE (w:World) (v:Value) (m:Nat) (w':World) (v':Value):Prop
 |same (h0:m=0) (hw:w'=w) (hv:v'=v)
 |place (b:Nat) (h0:0<m) (hv:v.ownBlock=some b) (xh:v'.ownBlock=some b) (hg:w.grownBy w' (some b)) (hs:w'.heap.size=w.heap.size) (hz:SzB w w' b)
 |fresh (h0:0<m) (hg:w.grownBy w' none) (xh:v'.ownBlock=some w.heap.size)
theorem SzB.row {w:World}{b:Nat}{cur new:Array Value}{ty:TypeId}{l:Nat×Nat}(hg:w.heap[b]? =some (.cells cur ty l))(h:new.size=cur.size):SzB w (w.setRow b new) b:=fun cs Ku l' hc=>by
 rw[hg] at hc
 injection hc with hc
 injection hc with h1 h2 h3
 subst h1;subst h2;subst h3
 exact⟨new,setRow_heap w b cur new ty l hg,h⟩
theorem C2(w:World)(base:Nat)(t ty e:TypeId)(i:TypeInfo)(z:Value)(size bytes:Nat)(ht:P.underlying t=some (.slice e))(hi:P.info? e=some i)(hz:i.zero=some z)
  (ya:i.size=size) (hby:i.bytes=bytes) (hzs:z.cells.size=size) (hsz:0<size)
  (v:Value) (n:Nat) (xs:List Value) (lj:w.ownsRow base e size v n xs)
  (A:Option Addr) (m c:Nat) (news:List Value) (hl:news.length=m*size) (hA:0<m→∃a,A=some a) (sP:∀a,A=some a→∀j u,news[j]? =some u→w.cell? (a.add j)=some u) (h1:∀u∈news,u.oneCell'=true)
  (O5:n+m≤maxLen) (iq:(n+m)*bytes≤140737488355328) (vO:base≤w.heap.size):
  ∃v' w',(Builtin.append_ #[t,t] ty #[v,.slice A m c]).run P w=.ok v' w'∧w'.ownsRow base e size v' (n+m) (xs++news)∧BE w v m w' v':=by
 subst ya
 subst hby
 have hsmall:n+m≤9223372036854775807:=by simp only[maxLen] at O5;omega
 have hlen:(xs++news).length=(n+m)*i.size:=by rw[eI,lj.1,hl,bZ]
 by_cases hm:m=0
 ·subst hm
  have hn:news=[]:=kY (by simpa using hl)
  subst hn
  refine⟨v,w,?_,by simpa using lj,.same rfl rfl rfl⟩
  rcases lj.2 with⟨rfl,rfl⟩|⟨g,cap,cur,rfl,hbg,hg,pl,oF,rL,Dn⟩
  ·cases A <;> simp[Builtin.append_,run_underlying ht,sizeOf,typeInfo,hi,Builtin.lenOf,Builtin.firstCells,loadCells,loadCellsFrom]
  ·cases A <;> simp[Builtin.append_,run_underlying ht,sizeOf,typeInfo,hi,Builtin.lenOf,Builtin.firstCells,loadCells,loadCellsFrom,pl,storeCells]
 ·have hmp:0<m:=by omega
  obtain⟨a,rfl⟩:=hA hmp
  have wx:=sP a rfl
  have grown:∀(old:Nat),old<n+m→
    (w.drew.alloc (.cells (xs.toArray++news.toArray++Builtin.zeroCells z.cells (grownCap w (n+m) old e - (n+m))) e)).ownsRow base e i.size
     (.slice (some ⟨w.heap.size,0,none⟩) (n+m) (grownCap w (n+m) old e)) (n+m) (xs++news)∧
    w.grownBy (w.drew.alloc (.cells (xs.toArray++news.toArray++Builtin.zeroCells z.cells (grownCap w (n+m) old e - (n+m))) e)) none:=by
   intro old ho
   have ze:=grownCap_ge w (n+m) old e
   have oF:grownCap w (n+m) old e≤maxLen:=grownCap_le_maxLen w (n+m) old e O5
   refine⟨⟨hlen,.inr ⟨w.heap.size,_,_,rfl,vO,heap_alloc_new w.drew _,ze,oF,?_,?_⟩⟩,⟨rfl,rfl,rfl,by simp,fun k hk _=>heap_alloc_old w.drew _ hk⟩⟩
   ·simp only[Br,my,size_zeroCells,hzs,lj.1,hl,←bZ]
    congr 1
    omega
   ·simp only[HU,fy]
    rw[←fy,←hlen]
    exact rP
  rcases lj.2 with⟨rfl,rfl⟩|⟨g,cap,cur,rfl,hbg,hg,pl,oF,rL,Dn⟩
  ·have hx:xs=[]:=kY (by simpa using lj.1)
   subst hx
   have hr:=run_append_nil (P:=P) w t ty e i z ht hi hz a m c news hl wx (by omega) (by omega) (by have hb:=iq;simp only[bB] at hb;omega)
   have FO:=grown 0 (by omega)
   simp only[bB,qw,Array.empty_append] at FO ⊢
   exact⟨_,_,hr,FO.1,.fresh hmp FO.2 rfl⟩
  ·by_cases vK:n+m≤cap
   ·have Fc:n*i.size+news.length≤cur.size:=by rw[hl,rL,←bZ];exact bJ _ vK
    have hr:=run_append_room (P:=P) w t ty e i ht hi g n cap cur hg a m c news hl wx h1 vK Fc
    refine⟨_,_,hr,⟨hlen,.inr ⟨g,cap,_,rfl,hbg,setRow_heap w g cur _ e _ hg,vK,oF,?_,?_⟩⟩,.place g hmp rfl rfl ⟨rfl,rfl,rfl,by simp,fun k _ hk=>setRow_other w g k _ (fun e=>hk (by rw[e]))⟩ (by simp) (SzB.row hg ?_)⟩
    ·simp only[my,eI,e6,ie,eK]
     omega
    ·rw[Dn,←hlen]
     exact rP
    ·simp only[my,eI,e6,ie,eK]
     omega
   ·have holds:∀j u,xs[j]? =some u→w.cell? ((⟨g,0,none⟩:Addr).add j)=some u:=lj.cells (g:=g) rfl
    have hr:=run_append_grow (P:=P) w t ty e i z ht hi hz ⟨g,0,none⟩ n cap xs lj.1 holds a m c news hl wx (by omega) (by omega) (growslice_fits (by omega) iq)
    have FO:=grown cap (by omega)
    exact⟨_,_,hr,FO.1,.fresh hmp FO.2 rfl⟩
theorem yx(w:World)(base:Nat)(t u ty e:TypeId)(i:TypeInfo)(ht:P.underlying t=some (.slice e))(hu:P.underlying u=some .string)(hi:P.info? e=some i)(hz:i.zero=some (.int .u8 0))
  (ya:i.size=1) (hby:i.bytes=1) (v:Value) (n:Nat) (xs:List Value) (lj:w.ownsRow base e 1 v n xs) (s:ByteArray)
  (O5:n+s.size≤maxLen) (iq:n+s.size≤140737488355328) (vO:base≤w.heap.size):
  ∃v' w',(Builtin.append_ #[t,u] ty #[v,.string s]).run P w=.ok v' w'∧w'.ownsRow base e 1 v' (n+s.size) (xs++Lib.strCells s)∧BE w v s.size w' v':=by
 have hsmall:n+s.size≤9223372036854775807:=by simp only[maxLen] at O5;omega
 have An:xs.length=n:=by simpa using lj.1
 have hlen:(xs++Lib.strCells s).length=(n+s.size)*1:=by rw[eI,An,Lib.strCells_length,z5]
 have grown:∀(old:Nat),old<n+s.size→
   (w.drew.alloc (.cells (xs.toArray++(Lib.strCells s).toArray++Builtin.zeroCells (Value.int .u8 0).cells (grownCap w (n+s.size) old e - (n+s.size))) e)).ownsRow base e 1
    (.slice (some ⟨w.heap.size,0,none⟩) (n+s.size) (grownCap w (n+s.size) old e)) (n+s.size) (xs++Lib.strCells s)∧
   w.grownBy (w.drew.alloc (.cells (xs.toArray++(Lib.strCells s).toArray++Builtin.zeroCells (Value.int .u8 0).cells (grownCap w (n+s.size) old e - (n+s.size))) e)) none:=by
  intro old ho
  have ze:=grownCap_ge w (n+s.size) old e
  have oF:grownCap w (n+s.size) old e≤maxLen:=grownCap_le_maxLen w (n+s.size) old e O5
  refine⟨⟨hlen,.inr ⟨w.heap.size,_,_,rfl,vO,heap_alloc_new w.drew _,ze,oF,?_,?_⟩⟩,⟨rfl,rfl,rfl,by simp,fun k hk _=>heap_alloc_old w.drew _ hk⟩⟩
  ·have K0:(Value.int IntKind.u8 0).cells.size=1:=rfl
   simp only[Br,my,size_zeroCells,K0,An,Lib.strCells_length]
   omega
  ·simp only[HU,fy]
   rw[←fy,←hlen]
   exact rP
 rcases lj.2 with⟨rfl,rfl⟩|⟨g,cap,cur,rfl,hbg,hg,pl,oF,rL,Dn⟩
 ·have hx:xs=[]:=kY An
  subst hx
  by_cases hm:s.size=0
  ·have hn:Lib.strCells s=[]:=kY (by rw[Lib.strCells_length];exact hm)
   refine⟨.slice none 0 0,w,?_,by rw[hm,hn];exact World.ownsRow_nil w base e 1,.same hm rfl rfl⟩
   have hf:=Lib.run_firstCells_string (P:=P) w 1 s
   rw[hm] at hf
   simp[Builtin.append_,run_underlying ht,run_underlying hu,sizeOf,typeInfo,hi,ya,Builtin.lenOf,hm,hf]
  ·have hr:=run_append_nil_string (P:=P) w t u ty e i (.int .u8 0) ht hu hi hz s (by omega) (by omega) (by rw[hby];omega)
   have FO:=grown 0 (by omega)
   simp only[bB,qw,Array.empty_append] at FO ⊢
   have e1:(s.data.map fun b=>Value.int .u8 b.toNat)=(Lib.strCells s).toArray:=by
    apply Array.ext'
    simp[Lib.strCells]
   rw[e1] at hr
   exact⟨_,_,hr,FO.1,.fresh (by omega) FO.2 rfl⟩
 ·by_cases hm:s.size=0
  ·have hn:Lib.strCells s=[]:=kY (by rw[Lib.strCells_length];exact hm)
   refine⟨_,w,?_,by rw[hm,hn,vQ];exact lj,.same hm rfl rfl⟩
   have hf:=Lib.run_firstCells_string (P:=P) w 1 s
   rw[hm,hn] at hf
   simp[Builtin.append_,run_underlying ht,run_underlying hu,sizeOf,typeInfo,hi,ya,Builtin.lenOf,hm,hf,pl,storeCells]
  by_cases vK:n+s.size≤cap
  ·have hcs':cur.size=cap:=by simpa using rL
   have hr:=Lib.run_append_room_string (P:=P) w t u ty e i ht hu hi ya g n cap cur hg s vK (by omega)
   refine⟨_,_,hr,⟨hlen,.inr ⟨g,cap,_,rfl,hbg,setRow_heap w g cur _ e _ hg,vK,oF,?_,?_⟩⟩,.place g (by omega) rfl rfl ⟨rfl,rfl,rfl,by simp,fun k _ hk=>setRow_other w g k _ (fun e=>hk (by rw[e]))⟩ (by simp) (SzB.row hg ?_)⟩
   ·simp only[my,eI,e6,ie,eK,Lib.strCells_length]
    omega
   ·have K7:cur.toList.take n=xs:=by simpa using Dn
    rw[K7,←hlen]
    exact rP
   ·simp only[my,eI,e6,ie,eK,Lib.strCells_length]
    omega
  ·have holds:∀j u,xs[j]? =some u→w.cell? ((⟨g,0,none⟩:Addr).add j)=some u:=lj.cells (g:=g) rfl
   have hr:=Lib.run_append_grow_string (P:=P) w t u ty e i (.int .u8 0) ht hu hi hz ⟨g,0,none⟩ n cap xs (by rw[ya];simpa using An) holds s (by omega) (by omega) (by rw[hby];exact growslice_fits (by omega) (by omega))
   have FO:=grown cap (by omega)
   exact⟨_,_,hr,FO.1,.fresh (by omega) FO.2 rfl⟩
end
section
variable {B:Nat} {hp:Hp} {g:Gh} {w w':World}
def Hp.app(hp:Hp)(id n:Nat)(e:Nat×TypeId):Hp:=⟨hp.vars,(id,n,e)::hp.live,hp.next⟩
theorem BE.size {v v':Value}{m:Nat}(h:BE w v m w' v'):w.heap.size≤w'.heap.size:=by
 cases h with
 |same _ hw _=>rw[hw];exact aD _
 |place _ _ _ _ hg _ _=>exact hg.size
 |fresh _ hg _=>exact hg.size
theorem BE.szs {v v':Value}{m:Nat}(h:BE w v m w' v')(b:Nat):SzB w w' b:=by
 cases h with
 |same _ hw _=>rw[hw];exact .same fun _=>rfl
 |place b' _ _ _ hg _ hz=>
  by_cases hb:b=b'
  ·subst hb;exact hz
  ·exact .same fun h=>hg.block b h (fun e=>hb (by injection e))
 |fresh _ hg _=>exact .same fun h=>hg.block b h (by simp)
theorem KO {e:TypeId}{z n m b:Nat}{v v':Value}{xs news:List Value}(h:w.ownsRow B e z v n xs)(h':w'.ownsRow B e z v' (n+m) (xs++news))(hb:v.ownBlock=some b)(sh:v'.ownBlock=some b)(p:Addr)(hp:p.block=b)(ho:p.off<n*z):
  w'.cell? p=w.cell? p:=by
 rcases h.2 with⟨rfl,_⟩|⟨g,cap,cur,rfl,_,hh,_,_,_,ht⟩
 ·cases hb
 rcases h'.2 with⟨rfl,_⟩|⟨g',cap',cur',rfl,_,Q3,_,_,_,K7⟩
 ·cases sh
 obtain rfl:g=b:=by simpa[Value.ownBlock] using hb
 obtain rfl:g'=g:=by simpa[Value.ownBlock] using sh
 subst hp
 have e1:cur[p.off]? =xs[p.off]? :=by
  rw[←ht,ez,ar ho,yK]
 have e2:cur'[p.off]? =xs[p.off]? :=by
  have:(xs++news)[p.off]? =xs[p.off]? :=wO (by rw[h.1];exact ho)
  rw[←this,←K7,ez,ar (bU ho (bJ _ (qO _ _))),yK]
 simp only[World.cell?,hh,Q3,e1,e2]
theorem bC.app {id n m:Nat}{e:Nat×TypeId}{v':Value}{xs news:List Value}(hi:hp.live.lookup id=some (n,e))(ho:w.ownsRow B e.2 e.1 (g.τ id) n xs)
  (hF:∀b,(g.τ id).ownBlock=some b→∀p:Addr,p.block=b→n*e.1≤p.off→g.F p)
  (uG:w'.ownsRow B e.2 e.1 v' (n+m) (xs++news)) (ha:BE w (g.τ id) m w' v'):bC hp g w (hp.app id (n+m) e) (g.tok id v' ((n+m)*e.1)) w':=by
 refine⟨ha.size,fun p hpb hf=>?_,fun p hpb hf=>?_,aD _,fun _ _=>rfl,fun j hj k e' hm=>?_,fun b hb hf=>?_,fun b=>ha.szs b⟩
 ·cases ha with
  |same _ hw _=>rw[hw]
  |place b _ hv xh hg _ _=>
   by_cases hb:p.block=b
   ·refine KO ho uG hv xh p hb ?_
    rcases bt p.off (n*e.1) with h|h
    ·exact h
    ·exact absurd (hF b hv p hb h) hf
   ·exact World.cell?_of_block (hg.block _ hpb (fun e=>hb (by injection e)))
  |fresh _ hg _=>exact World.cell?_of_block (hg.block _ hpb (by simp))
 ·rcases hf with hf|⟨b,h1,h2,h3⟩
  ·exact hf.1
  ·cases ha with
   |same h0 _ hv=>
    subst h0
    rw[hv] at h1
    exact hF b h1 p h2 h3
   |place b' _ hv xh _ _ _=>
    obtain rfl:b'=b:=by rw[xh] at h1;injection h1
    exact hF b' hv p h2 (cw (bJ _ (qO _ _)) h3)
   |fresh _ _ xh=>
    rw[xh] at h1
    injection h1 with h1
    omega
 ·by_cases hjd:j=id
  ·subst hjd
   have:some (n+m,e)=some (k,e'):=by rw[←hm];exact ak.symm
   injection this with this
   injection this with h1 h2
   subst h1;subst h2
   refine⟨n,hi,qO _ _,fun h=>?_⟩
   have h0:m=0:=by omega
   show (if j=j then v' else g.τ j)=_
   rw[ar rfl]
   cases ha with
   |same _ _ hv=>exact hv
   |place _ h _ _ _ _ _=>omega
   |fresh h _ _=>omega
  ·refine⟨k,?_,aD _,fun _=>?_⟩
   ·rw[←hm]
    exact (ay hjd).symm
   ·show (if j=id then v' else g.τ j)=_
    rw[aA hjd]
 ·have qu:=hf.2 id _ hi
  have hvb:v'.ownBlock≠some b:=by
   cases ha with
   |same _ _ hv=>rw[hv];exact qu
   |place b' _ hv xh _ _ _=>rw[xh];intro he;exact qu (by rw[hv];exact he)
   |fresh _ _ xh=>rw[xh];intro he;injection he with he;omega
  refine⟨?_,fun p h1 h2=>.inl ⟨h2,fun h=>hvb (by rw[h.1,h1])⟩,hf.1,fun j t hj=>?_⟩
  ·cases ha with
   |same _ hw _=>rw[hw]
   |place b' _ hv xh hg _ _=>exact hg.block _ hb (fun e=>qu (by rw[hv];injection e with e;rw[e]))
   |fresh _ hg _=>exact hg.block _ hb (by simp)
  ·show (if j=id then v' else g.τ j).ownBlock≠_
   by_cases hjd:j=id
   ·rw[ar hjd];exact hvb
   ·rw[aA hjd]
    exact hf.2 j t (by rw[←hj];exact (ay hjd).symm)
theorem HR.app(hr:HR B hp g w){id n m:Nat}{e:Nat×TypeId}{v':Value}{xs news:List Value}(hz:0<e.1)(hi:hp.live.lookup id=some (n,e))(ho:w.ownsRow B e.2 e.1 (g.τ id) n xs)
  (hF:∀b,(g.τ id).ownBlock=some b→∀p:Addr,p.block=b→n*e.1≤p.off→g.F p)
  (uG:w'.ownsRow B e.2 e.1 v' (n+m) (xs++news)) (ha:BE w (g.τ id) m w' v'):HR B (hp.app id (n+m) e) (g.tok id v' ((n+m)*e.1)) w':=by
 have mo:=bC.app hi ho hF uG ha
 have hs:=ha.size
 have look:∀{j:Nat} {a:Nat×Nat×TypeId},(hp.app id (n+m) e).live.lookup j=some a→(j=id∧a=(n+m,e))∨(j≠id∧hp.live.lookup j=some a):=by
  intro j a hj
  by_cases Bc:j=id
  ·subst Bc
   have:some (n+m,e)=some a:=by rw[←hj];exact ak.symm
   injection this with this
   exact .inl ⟨rfl,this.symm⟩
  ·exact .inr ⟨Bc,by rw[←hj];exact (ay Bc).symm⟩
 have hτ:∀j,j≠id→(g.tok id v' ((n+m)*e.1)).τ j=g.τ j:=fun j hj=>aA hj
 have hτn:(g.tok id v' ((n+m)*e.1)).τ id=v':=ar rfl
 -- a block that is not GA row's is aS it was
 have keep:∀b,b<w.heap.size→(g.τ id).ownBlock≠some b→w'.heap[b]? =w.heap[b]? :=by
  intro b hb qu
  cases ha with
  |same _ hw _=>rw[hw]
  |place b' _ hv _ hg _ _=>exact hg.block b hb (fun e=>qu (by rw[hv,←e]))
  |fresh _ hg _=>exact hg.block b hb (by simp)
 have newb:∀b,v'.ownBlock=some b→(g.τ id).ownBlock=some b∨w.heap.size≤b:=by
  intro b hb
  cases ha with
  |same _ _ hv=>rw[hv] at hb;exact .inl hb
  |place b' _ hv xh _ _ _=>rw[xh] at hb;rw[hv];exact .inl hb
  |fresh _ _ xh=>rw[xh] at hb;injection hb with hb;exact .inr (by omega)
 obtain⟨hid,_,_,_,O1⟩:=hr.tok id n e hi
 have stay:∀p:Addr,p.block<w.heap.size→(g.τ id).ownBlock≠some p.block→g.F p→(g.tok id v' ((n+m)*e.1)).F p:=fun p hp' qu hf=>.inl ⟨hf,fun h=>by
  rcases newb _ h.1 with h|h
  ·exact qu h
  ·omega⟩
 refine⟨fun k ds hk=>?_,hr.inj,fun j n' e' hj=>?_,fun j j' t t' b hj Ip he FP=>?_,cw hr.base hs,fun p hf=>?_⟩
 ·have bG:=hr.var_lt (k:=k) (ds:=ds) hk
  obtain⟨h1,h2,h3,vd,Ku,h4,h5,h6⟩:=hr.var k ds hk
  exact⟨h1,h2,fun p hp'=>stay p (by rw[hp'];exact bG) (fun e=>(O1 _ e).2 k ds hk hp'.symm) (h3 p hp'),vd,Ku,(keep _ bG fun e=>(O1 _ e).2 k ds hk rfl).trans h4,h5,fun j u hu=>⟨(h6 j u hu).1,fun d hd=>((h6 j u hu).2 d hd).mono mo⟩⟩
 ·rcases look hj with⟨rfl,h⟩|⟨qu,h0⟩
  ·injection h with ha1 eF
   subst ha1;subst eF
   rw[hτn]
   refine⟨hid,_,hz,uG,fun b hb=>⟨fun p h4 h5=>.inr ⟨b,hb,h4,h5⟩,fun k ds hk=>?_⟩⟩
   rcases newb b hb with h|h
   ·exact (O1 b h).2 k ds hk
   ·have:=hr.var_lt (k:=k) (ds:=ds) hk
    show g.μ k≠b
    omega
  ·obtain⟨h1,v7,hz',h2,h3⟩:=hr.tok j n' e' h0
   rw[hτ j qu]
   refine⟨h1,v7,hz',⟨h2.1,?_⟩,fun b hb=>⟨fun p h4 h5=>stay p (by rw[h4];exact (h2.lt b hb).2) (fun e=>qu (hr.tinj j id _ _ b h0 hi hb (by rw[e,h4]))) ((h3 b hb).1 p h4 h5),(h3 b hb).2⟩⟩
   rcases h2.2 with Iu|⟨b,cap,cur,xh,hB,hh,r⟩
   ·exact .inl Iu
   ·refine .inr ⟨b,cap,cur,xh,hB,(keep b (ey.1 hh).1 fun e=>?_).trans hh,r⟩
    exact qu (hr.tinj j id _ _ b h0 hi (by rw[xh];rfl) e)
 ·have old:∀{j:Nat} {a:Nat×Nat×TypeId} {b:Nat},hp.live.lookup j=some a→(g.τ j).ownBlock=some b→b<w.heap.size:=by
   intro j a b hj sh
   obtain⟨_,_,_,h2,_⟩:=hr.tok j a.1 a.2 hj
   exact (h2.lt b sh).2
  rcases look hj with⟨rfl,_⟩|⟨qu,h0⟩ <;> rcases look Ip with⟨rfl,_⟩|⟨QH,Iu⟩
  ·rfl
  ·rw[hτn] at he
   rw[hτ _ QH] at FP
   rcases newb b he with h|h
   ·exact hr.tinj _ _ _ _ b hi Iu h FP
   ·have:=old Iu FP
    omega
  ·rw[hτn] at FP
   rw[hτ _ qu] at he
   rcases newb b FP with h|h
   ·exact hr.tinj _ _ _ _ b h0 hi he h
   ·have:=old h0 he
    omega
  ·rw[hτ _ qu] at he
   rw[hτ _ QH] at FP
   exact hr.tinj j j' t t' b h0 Iu he FP
 ·rcases hf with hf|⟨b,h1,h2,_⟩
  ·exact bU (hr.fits p hf.1) hs
  ·rw[h2]
   exact (uG.lt b h1).2
end
end
section
inductive Ty where
 |int (k:IntKind)|str|bool|slice (e:TypeId)|struct (fs:List (Nat×TypeId))|arr (n:Nat) (e:TypeId)|other
def Ty.of:TypeDesc→Ty
 | .int k=>.int k
 | .string=>.str
 | .bool=>.bool
 | .slice e=>.slice e
 | .struct fs=>.struct (fs.toList.map fun f=>(f.offset,f.type))
 | .array n e=>.arr n e
 |_=>.other
def Ty.agg:Ty→Bool
 | .struct _| .arr _ _=>true
 |_=>false
def _root_.Go.Value.isAggV:Value→Bool
 | .agg _=>true
 |_=>false
structure TyE where
 ty:Ty
 size:Nat
 bytes:Nat
 zero:List Value
def TOk(P:Program)(tb:TypeId→Option TyE):Prop:=∀t i,tb t=some i→
 (P.underlying t).map Ty.of=some i.ty∧(P.info? t).map (fun f=>(f.size,f.bytes,f.zero.map fun v=>(v.cells.toList,v.isAggV)))=some (i.size,i.bytes,some (i.zero,i.ty.agg))∧i.zero.length=i.size∧i.zero.all Value.oneCell'=true
section
variable {P:Program} {tb:TypeId→Option TyE}
theorem TOk.und(tok:TOk P tb){t:TypeId}{i:TyE}(h:tb t=some i):∃d,P.underlying t=some d∧Ty.of d=i.ty:=by
 obtain⟨h1,_⟩:=tok t i h
 cases hd:P.underlying t with
 |none=>simp[hd] at h1
 |some d=>exact⟨d,rfl,by simpa[hd] using h1⟩
theorem TOk.inf(tok:TOk P tb){t:TypeId}{i:TyE}(h:tb t=some i):∃f z,P.info? t=some f∧f.size=i.size∧f.bytes=i.bytes∧f.zero=some z∧z.cells.toList=i.zero∧z.isAggV=i.ty.agg:=by
 obtain⟨_,h1,_⟩:=tok t i h
 cases hd:P.info? t with
 |none=>simp[hd] at h1
 |some f=>
  simp only[hd,lc,kZ,Prod.mk.injEq] at h1
  obtain⟨e1,e2,e3⟩:=h1
  cases hz:f.zero with
  |none=>simp[hz] at e3
  |some z=>
   simp only[hz,lc,kZ,Prod.mk.injEq] at e3
   exact⟨f,z,rfl,e1,e2,hz,e3.1,e3.2⟩
theorem TOk.slice(tok:TOk P tb){t e:TypeId}{i:TyE}(h:tb t=some i)(hs:i.ty=.slice e):P.underlying t=some (.slice e):=by
 obtain⟨d,h1,h2⟩:=tok.und h
 rw[hs] at h2
 cases d <;> simp[Ty.of] at h2
 rw[h1,h2]
theorem TOk.str(tok:TOk P tb){t:TypeId}{i:TyE}(h:tb t=some i)(hs:i.ty=.str):P.underlying t=some .string:=by
 obtain⟨d,h1,h2⟩:=tok.und h
 rw[hs] at h2
 cases d <;> simp[Ty.of] at h2
 exact h1
theorem TOk.int(tok:TOk P tb){t:TypeId}{i:TyE}{k:IntKind}(h:tb t=some i)(hs:i.ty=.int k):P.underlying t=some (.int k):=by
 obtain⟨d,h1,h2⟩:=tok.und h
 rw[hs] at h2
 cases d <;> simp[Ty.of] at h2
 rw[h1,h2]
theorem TOk.arr(tok:TOk P tb){t e:TypeId}{n:Nat}{i:TyE}(h:tb t=some i)(hs:i.ty=.arr n e):P.underlying t=some (.array n e):=by
 obtain⟨d,h1,h2⟩:=tok.und h
 rw[hs] at h2
 cases d <;> simp[Ty.of] at h2
 rw[h1,h2.1,h2.2]
theorem TOk.struct(tok:TOk P tb){t:TypeId}{fs:List (Nat×TypeId)}{i:TyE}(h:tb t=some i)(hs:i.ty=.struct fs):∃fields:Array Field,P.underlying t=some (.struct fields)∧fields.toList.map (fun f=>(f.offset,f.type))=fs:=by
 obtain⟨d,h1,h2⟩:=tok.und h
 rw[hs] at h2
 cases d <;> simp[Ty.of] at h2
 exact⟨_,h1,h2⟩
theorem TOk.run_sizeOf(tok:TOk P tb){t:TypeId}{i:TyE}(h:tb t=some i)(w:World):(sizeOf t).run P w=.ok i.size w:=by
 obtain⟨f,z,h1,h2,_⟩:=tok.inf h
 simp[sizeOf,typeInfo,h1,h2]
theorem TOk.run_zero(tok:TOk P tb){t:TypeId}{i:TyE}(h:tb t=some i)(w:World):∃z,(zeroValue t).run P w=.ok z w∧z.cells.toList=i.zero:=by
 obtain⟨f,z,h1,_,_,h4,h5,_⟩:=tok.inf h
 exact⟨z,by simp[zeroValue,typeInfo,h1,h4],h5⟩
theorem TOk.run_isAgg(tok:TOk P tb){t:TypeId}{i:TyE}(h:tb t=some i)(w:World):(isAgg t).run P w=.ok i.ty.agg w:=by
 obtain⟨d,h1,h2⟩:=tok.und h
 rw[←h2]
 unfold isAgg
 rw[Sem.run_bind,run_underlying h1 w]
 cases d <;> rfl
end
def D.cells:D→Option (List D)
 | .ag ds=>some ds
 | .tu _| .top| .opt _ _=>none
 |d=>some [d]
def D.cellE:D→Option E
 | .e x=>some x
 | .own _ z n xs=>some (.sl z n xs)
 | .fu z n xs=>some (.sl z n xs)
 |_=>none
def vf:List D→Option (List E)
 |[]=>some []
 |d::ds=>match d.cellE,vf ds with
  |some x,some xs=>some (x::xs)
  |_,_=>none
def D.asSl(z:Nat):D→Option (Nat×List E)
 | .e (.sl z' n xs)=>if z'=z then some (n,xs) else none
 | .own _ z' n xs=>if z'=z then some (n,xs) else none
 | .fu z' n xs=>if z'=z then some (n,xs) else none
 | .e (.lit (.slice none 0 0))=>if z=0 then none else some (0,[])
 |_=>none
def D.strOf:D→Option ByteArray
 | .e (.lit (.string s))=>some s
 |_=>none
def D.exC:D→D
 | .own _ z n xs=>.e (.sl z n xs)
 | .fu z n xs=>.e (.sl z n xs)
 |d=>d
def D.ex:D→D
 | .own _ z n xs=>.e (.sl z n xs)
 | .fu z n xs=>.e (.sl z n xs)
 | .ag ds=>.ag (ds.map D.exC)
 |d=>d
def D.pureC:D→Bool
 | .e _=>true
 |_=>false
def D.pure:D→Bool
 | .e _=>true
 | .ag ds=>ds.all D.pureC
 | .fp _ _=>true
 |_=>false
def LA(v:Value):D:=
 match v with
 | .agg cs=>if cs.toList.all Value.oneCell' then .ag (cs.toList.map fun u=>.e (.lit u)) else .top
 | .tuple _=>.top
 |v=>.e (.lit v)
def evD(tm:List (Nat×D)):Operand→D
 | .tmp t=>(tm.lookup t).getD .top
 | .const v=>LA v
 | .global _=>.top
 | .func f=>.e (.lit (.func (.func f) #[] #[]))
def AP(dst:Option Tmp)(d:D)(tm:List (Nat×D)):List (Nat×D):=
 match dst with
 |some t=>(t,d)::tm
 |none=>tm
section
variable (P:Program) (tb:TypeId→Option TyE)
def Dg(t:TypeId)(d:D)(hp:Hp)(k:D→Prop):Prop:=
 match d with
 | .pt j off=>match tb t,hp.vars.lookup j with
  |some i,some ds=>j<hp.next∧match i.ty.agg with
   |true=>off+i.size≤ds.length∧k (.ag ((ds.drop off).take i.size))
   |false=>∃d,ds[off]? =some d∧k d
  |_,_=>False
 | .fp xs off=>match tb t with
  |some i=>match i.ty.agg with
   |true=>off+i.size≤xs.length∧k (.ag ((List.range i.size).map fun j=>.e (xs.getD (off+j) .any)))
   |false=>off<xs.length∧k (.e (xs.getD off .any))
  |_=>False
 |_=>False
def CY(t:TypeId)(d x:D)(hp:Hp)(k:D→Hp→Prop):Prop:=
 match d with
 | .pt j off=>match tb t,hp.vars.lookup j,x.cells with
  |some i,some ds,some cs=>cs.length=i.size∧off+i.size≤ds.length∧k .top (hp.set j (ds.take off++cs++ds.drop (off+cs.length)))
  |_,_,_=>False
 |_=>False
def OK(ty:TypeId)(d:D)(hp:Hp)(k:D→Hp→Prop):Prop:=
 match d with
 | .e (.lit (.slice none 0 0))=>match tb ty with
  |some i=>match i.ty with
   | .slice e=>match tb e with
    |some j=>0<j.size∧k (.own hp.next j.size 0 []) (hp.tok 0 (j.size,e))
    |none=>k d hp
   |_=>k d hp
  |none=>k d hp
 |_=>k d hp
def IY(c a b:D)(k:D→Prop):Prop:=
 match c with
 | .e (.lit (.bool true))=>k a
 | .e (.lit (.bool false))=>k b
 |_=>False
def gU {α:Type}(place:Nat→Option (Nat×Nat))(cells:List α):List (Nat×List α)→Option (List α)
 |[]=>some cells
 |(i,cs)::rest=>match place i with
  |none=>none
  |some (off,size)=>if cs.length≠size∨off+cs.length > cells.length then none else gU place (cells.take off++cs++cells.drop (off+cs.length)) rest
def lM:List (Nat×D)→Option (List (Nat×List D))
 |[]=>some []
 |(i,d)::rest=>match d.cells,lM rest with
  |some cs,some r=>some ((i,cs)::r)
  |_,_=>none
def rH(fs:List (Nat×TypeId))(i:Nat):Option (Nat×Nat):=
 match fs[i]? with
 |some (off,t)=>(tb t).map fun j=>(off,j.size)
 |none=>none
def DR(t:TypeId)(ps:List (Nat×D))(k:D→Prop):Prop:=
 match tb t,lM ps with
 |some i,some qs=>match i.ty with
  | .struct fs=>(∀f∈fs,(tb f.2).isSome=true)∧match gU (rH tb fs) (i.zero.map fun v=>D.e (.lit v)) qs with
   |some ds=>k (.ag ds)
   |none=>False
  | .arr _ e=>match tb e with
   |some j=>match gU (fun n=>some (n*j.size,j.size)) (i.zero.map fun v=>D.e (.lit v)) qs with
    |some ds=>k (.ag ds)
    |none=>False
   |none=>False
  |_=>False
 |_,_=>False
def eN(own:Bool)(t:TypeId)(n:Nat)(ps:List (Nat×D))(hp:Hp)(k:D→Hp→Prop):Prop:=
 match tb t,lM ps with
 |some i,some qs=>match i.ty with
  | .slice e=>match tb e with
   |some j=>0<j.size∧n*j.size≤16777216∧match n with
    |0=>qs=[]∧k (.own hp.next j.size 0 []) (hp.tok 0 (j.size,e))
    |n=>match gU (fun m=>some (m*j.size,j.size)) (List.replicate (n*j.size) (D.e .any)) qs with
     |some ds=>match vf ds with
      |some xs=>match own with
       |true=>k (.own hp.next j.size n xs) (hp.tok n (j.size,e))
       |false=>k (.fu j.size n xs) hp
      |none=>False
     |none=>False
   |none=>False
  |_=>False
 |_,_=>False
def Hu(op:BinOp)(j:IntKind)(a b:Int)(k:Value→Prop):Prop:=
 match op with
 | .add=>k (.int j (j.wrap (a+b)))
 | .sub=>k (.int j (j.wrap (a - b)))
 | .mul=>k (.int j (j.wrap (a*b)))
 | .quo=>b≠0∧k (.int j (j.wrap (a.tdiv b)))
 | .rem=>b≠0∧k (.int j (a.tmod b))
 | .and=>k (.int j (j.wrap (BitVec.ofInt j.bits a &&&BitVec.ofInt j.bits b).toNat))
 | .or=>k (.int j (j.wrap (BitVec.ofInt j.bits a |||BitVec.ofInt j.bits b).toNat))
 | .xor=>k (.int j (j.wrap (BitVec.ofInt j.bits a ^^^ BitVec.ofInt j.bits b).toNat))
 | .andNot=>k (.int j (j.wrap (BitVec.ofInt j.bits a &&&~~~ BitVec.ofInt j.bits b).toNat))
 | .eql=>k (.bool (decide (a=b)))
 | .neq=>k (.bool (decide (a≠b)))
 | .lss=>k (.bool (decide (a<b)))
 | .leq=>k (.bool (decide (a≤b)))
 | .gtr=>k (.bool (decide (b<a)))
 | .geq=>k (.bool (decide (b≤a)))
 |_=>False
def Nj(op:BinOp)(a b:ByteArray)(k:Value→Prop):Prop:=
 match op with
 | .add=>a.size+b.size≤9223372036854775807∧k (.string (a++b))
 | .eql=>k (.bool (decide (a=b)))
 | .neq=>k (.bool (decide (a≠b)))
 |_=>False
def J1(op:BinOp)(a b:Bool)(k:Value→Prop):Prop:=
 match op with
 | .eql=>k (.bool (a == b))
 | .neq=>k (.bool (!(a == b)))
 |_=>False
def mv:List D→Option (List Value)
 |[]=>some []
 | .e (.lit v)::ds=>(mv ds).map (v::·)
 |_=>none
def ru(op:BinOp)(t:TypeId)(a b:D)(k:Value→Prop):Prop:=
 match op,a,b with
 | .shl,.e (.lit (.int j x)),.e (.lit (.int _ y))=>0≤y∧k (.int j (j.wrap (x*2 ^ min y.toNat j.bits)))
 | .shr,.e (.lit (.int j x)),.e (.lit (.int _ y))=>0≤y∧k (.int j (x.fdiv (2 ^ min y.toNat j.bits)))
 |op,.e (.lit (.int j x)),.e (.lit (.int j' y))=>j=j'∧Hu op j x y k
 |op,.e (.lit (.string x)),.e (.lit (.string y))=>Nj op x y k
 |op,.e (.lit (.bool x)),.e (.lit (.bool y))=>P.underlying t=some .bool∧J1 op x y k
 |op,.ag xs,.ag ys=>match mv xs,mv ys with
  |some us,some vs=>∃r,(∀w,(do eqGuard op t (.tmp 0) (.tmp 0) (.agg us.toArray) (.agg vs.toArray);binOp op t (.agg us.toArray) (.agg vs.toArray)).run P w=.ok r w)∧r.oneCell'=true∧k r
  |_,_=>False
 |_,_,_=>False
def unV(op:UnOp)(a:D)(k:Value→Prop):Prop:=
 match op,a with
 | .not,.e (.lit (.bool b))=>k (.bool !b)
 | .neg,.e (.lit (.int j n))=>k (.int j (j.wrap (0 - n)))
 |_,_=>False
def rt(s:TypeId)(f:Nat)(k:Nat→Nat→Bool→Prop):Prop:=
 match tb s with
 |some i=>match i.ty with
  | .struct fs=>match fs[f]? with
   |some (off,t)=>match tb t with
    |some j=>k off j.size j.ty.agg
    |none=>False
   |none=>False
  |_=>False
 |none=>False
def qJ(s:TypeId)(f:Nat)(d:D)(k:D→Prop):Prop:=
 rt tb s f fun o z _=>z≠0∧match d with
  | .pt j off=>k (.pt j (off+o))
  | .fp xs off=>k (.fp xs (off+o))
  |_=>False
def DG(s:TypeId)(f:Nat)(d:D)(k:D→Prop):Prop:=
 rt tb s f fun o z g=>match d with
  | .ag ds=>match g with
   |true=>o+z≤ds.length∧k (.ag ((ds.drop o).take z))
   |false=>∃d,ds[o]? =some d∧k d
  |_=>False
def qE(t:TypeId)(d i:D)(k:D→Prop):Prop:=
 match tb t,i with
 |some ti,.e (.lit (.int _ x))=>match ti.ty with
  | .slice e=>match tb e with
   |some j=>match d.asSl j.size with
    |some (n,xs)=>(0≤x∧x<(n:Int))∧k (.fp xs (x.toNat*j.size))
    |none=>match d with
     | .ow v off z n=>z=j.size∧(0≤x∧x<(n:Int))∧k (.pt v (off+x.toNat*j.size))
     |_=>False
   |none=>False
  | .arr n e=>match tb e,d with
   |some j,.pt v off=>(0≤x∧x<(n:Int))∧k (.pt v (off+x.toNat*j.size))
   |some j,.fp xs off=>(0≤x∧x<(n:Int))∧k (.fp xs (off+x.toNat*j.size))
   |_,_=>False
  |_=>False
 |_,_=>False
def A7(t:TypeId)(d i:D)(k:D→Prop):Prop:=
 match tb t,i with
 |some ti,.e (.lit (.int _ x))=>match ti.ty,d with
  | .str,.e (.lit (.string s))=>(0≤x∧x<(s.size:Int))∧k (.e (.lit (.int .u8 ((s.data.toList.getD x.toNat 0).toNat:Int))))
  | .arr n e,.ag ds=>match tb e with
   |some j=>(0≤x∧x<(n:Int))∧match j.ty.agg with
    |true=>x.toNat*j.size+j.size≤ds.length∧k (.ag ((ds.drop (x.toNat*j.size)).take j.size))
    |false=>∃d,ds[x.toNat*j.size]? =some d∧k d
   |none=>False
  |_,_=>False
 |_,_=>False
def RP:E→Option UInt8
 | .lit (.int .u8 n)=>some (UInt8.ofNat n.toNat)
 |_=>none
def xk:List E→Option (List UInt8)
 |[]=>some []
 |x::xs=>match RP x,xk xs with
  |some b,some bs=>some (b::bs)
  |_,_=>none
def JV(s t:TypeId)(d:D)(k:D→Prop):Prop:=
 match tb s,tb t with
 |some i,some j=>match j.ty,d with
  | .int jk,.e (.lit (.int _ n))=>k (.e (.lit (.int jk (jk.wrap n))))
  | .str,.e (.lit (.string s))=>k (.e (.lit (.string s)))
  | .str,d=>match i.ty with
   | .slice e=>match tb e with
    |some l=>l.ty=.int .u8∧match d.asSl 1 with
     |some (_,xs)=>match xk xs with
      |some bs=>k (.e (.lit (.string ⟨bs.toArray⟩)))
      |none=>False
     |none=>False
    |none=>False
   |_=>False
  |_,_=>False
 |_,_=>False
def qM(b:Option D)(Fk:Int)(k:Int→Prop):Prop:=
 match b with
 |none=>k Fk
 |some (.e (.lit (.int _ x)))=>k x
 |_=>False
def CZ(t:TypeId)(d:D)(lo hi mx:Option D)(k:D→Prop):Prop:=
 match tb t with
 |some ti=>match ti.ty with
  | .slice e=>match tb e with
   |some j=>match d.asSl j.size with
    |some (n,xs)=>qM lo 0 fun l=>qM hi n fun h=>(0≤l∧l≤h∧h≤(n:Int))∧match mx with
     |none=>k (.e (.sl j.size (h - l).toNat ((xs.drop (l.toNat*j.size)).take ((h - l).toNat*j.size))))
     |some m=>qM (some m) 0 fun m=>hi.isSome=true∧m=h∧k (.fu j.size (h - l).toNat ((xs.drop (l.toNat*j.size)).take ((h - l).toNat*j.size)))
    |none=>False
   |none=>False
  | .str=>match d,mx with
   | .e (.lit (.string s)),none=>qM lo 0 fun l=>qM hi s.size fun h=>(0≤l∧l≤h∧h≤(s.size:Int))∧k (.e (.lit (.string (s.extract l.toNat h.toNat))))
   |_,_=>False
  |_=>False
 |none=>False
def Qa(t:TypeId)(d:D)(k:Int→Prop):Prop:=
 match tb t with
 |some ti=>match ti.ty with
  | .slice e=>match tb e with
   |some j=>match d.asSl j.size with
    |some (n,_)=>k n
    |none=>match d with
     | .ow _ _ _ n=>k n
     |_=>False
   |none=>False
  | .str=>match d with
   | .e (.lit (.string s))=>k s.size
   |_=>False
  | .arr n _=>k n
  |_=>False
 |none=>False
def zH(t:TypeId)(z:Nat)(x:D)(k:Nat→List E→Prop):Prop:=
 match tb t with
 |some i=>match i.ty,x.strOf with
  | .str,some s=>z=1∧k s.size (s.data.toList.map fun b=>.lit (bv b))
  | .slice _,none=>match x.asSl z with
   |some (m,ys)=>k m ys
   |none=>False
  |_,_=>False
 |none=>False
def tI(t t':TypeId)(s x:D)(hp:Hp)(k:D→Hp→Prop):Prop:=
 match tb t with
 |some ti=>match ti.ty with
  | .slice e=>match tb e with
   |some j=>0<j.size∧(x.strOf=none→t'=t)∧(x.strOf≠none→j.bytes=1∧j.zero=[.int .u8 0]∧j.ty.agg=false)∧zH tb t' j.size x fun m ys=>match s with
    | .own id z n xs=>z=j.size∧hp.live.lookup id=some (n,j.size,e)∧(n+m)*max 1 j.bytes≤140737488355328∧k (.own id j.size (n+m) (xs++ys)) (hp.app id (n+m) (j.size,e))
    | .e (.lit (.slice none 0 0))=>m*max 1 j.bytes≤140737488355328∧k (.own hp.next j.size m ys) (hp.tok m (j.size,e))
    | .fu z n xs=>z=j.size∧0<m∧(n+m)*max 1 j.bytes≤140737488355328∧k (.own hp.next j.size (n+m) (xs++ys)) (hp.tok (n+m) (j.size,e))
    |_=>False
   |none=>False
  |_=>False
 |none=>False
def Ms (P : Program) (f : FuncId) : Prop := ∃ fn, P.funcs[f]? = some fn ∧ (fn.name == "runtime.NumGoroutine") = false ∧ fn.body.isNone = false
def mz(w:World)(F:Addr→Prop)(d:D)(v:Value):Prop:=aI ⟨[],[],0⟩ ⟨fun _=>0,fun _=>default,F⟩ w d v
def v5(B:Nat)(F:Addr→Prop)(w:World)(r:D)(v:Value):Prop:=
 match r with
 | .own e z n xs=>0<z∧(∃us,w.ownsRow B e z v n us)∧dq w (fun p=>F p∨Value.tail v (n*z) p) (.sl z n xs) v
 |r=>mz w F r v
def ax(f:FuncId)(ds:List D)(r:D):Prop:=Ms P f∧∀(w:World) (F:Addr→Prop) (vs:Array Value),(∀p:Addr,F p→p.block<w.heap.size)→vs.size=ds.length→(∀(j:Nat) (d:D) (u:Value),ds[j]? =some d→vs[j]? =some u→mz w F d u)→
 Calls P f vs w fun e w'=>∃v,e=.returned v∧v5 w.heap.size F w' r v∧Below w.heap.size w w'
def HC(f:FuncId)(ds:List D)(hp:Hp)(d:D)(hp':Hp):Prop:=Ms P f∧∀(B:Nat) (g:Gh) (w:World) (vs:Array Value),HR B hp g w→vs.size=ds.length→(∀(j:Nat) (d:D) (u:Value),ds[j]? =some d→vs[j]? =some u→aI hp g w d u)→
 Calls P f vs w fun e w'=>∃v g',e=.returned v∧HR B hp' g' w'∧bC hp g w hp' g' w'∧aI hp' g' w' d v∧Below B w w'∧∀p:Addr,p.block<B→g.F p→g'.F p
def hvB(c:Call):Bool:=
 match c.callee with
 | .value (.func _)=>c.argTypes.any fun t=>match tb t with
  |some i=>match i.ty with
   | .other=>true
   | .struct [p,q]=>match tb p.2,tb q.2 with
    |some a,some b=>match a.ty,b.ty with
     | .struct [_,_],.slice _=>true
     |_,_=>false
    |_,_=>true
   |_=>false
  |none=>true
 | .value _=>true
 |_=>false
def H5(r:D)(hp:Hp)(k:D→Hp→Prop):Prop:=
 match r with
 | .own e z n xs=>k (.own hp.next z n xs) (hp.tok n (z,e))
 | .fu _ _ _=>False
 |r=>k r hp
def Ni(hv:Bool)(f:FuncId)(ds:List D)(hp:Hp)(k:D→Hp→Prop):Prop:=
 ((ds.map D.ex).all D.pure=true∧∃r,ax P f (ds.map D.ex) r∧H5 r hp k)∨(hv=true∧∃d hp',HC P f ds hp d hp'∧k d hp')
def kW(b:Builtin)(ts:List TypeId)(ds:List D)(hp:Hp)(k:D→Hp→Prop):Prop:=
 match b,ts,ds with
 | .len,[t],[d]=>Qa tb t d fun n=>k (.e (.lit (.int .i64 n))) hp
 | .min,_,[.e (.lit (.int j x)),.e (.lit (.int _ y))]=>k (.e (.lit (.int j (min x y)))) hp
 | .max,_,[.e (.lit (.int j x)),.e (.lit (.int _ y))]=>k (.e (.lit (.int j (max x y)))) hp
 | .append,[t,t'],[s,x]=>tI tb t t' s x hp k
 |_,_,_=>False
def vg(hv:Bool)(d:D)(ds:List D)(hp:Hp)(k:D→Hp→Prop):Prop:=
 match d with
 | .e (.lit (.func (.func f) fi ca))=>fi.size=0∧ca.size=0∧Ni P hv f ds hp k
 | .fn f ks=>Ni P hv f (ds++ks.map fun k=>.pt k 0) hp k
 |_=>False
def nilV(d:D)(k:D→Prop):Prop:=
 match d with
 | .pt j off=>k (.pt j off)
 | .fp xs off=>k (.fp xs off)
 |_=>False
def BU:List D→Option (List Nat)
 |[]=>some []
 | .pt k 0::ds=>(BU ds).map (k::·)
 |_=>none
def A3(fn:Fn)(first:Nat)(cs:List D)(k:D→Prop):Prop:=
 match fn with
 | .func f=>first=0∧match cs with
  |[]=>k (.e (.lit (.func (.func f) #[] #[])))
  |cs=>match BU cs with
   |some ks=>k (.fn f ks)
   |none=>False
 |_=>False
def AVC(dr:Bool)(op:Op)(ty:TypeId)(ev:Operand→D)(hp:Hp)(k:D→Hp→Prop):Prop:=
 match op with
 | .move x=>k (ev x) hp
 | .assign x=>OK tb ty (ev x) hp k
 | .pick c a b=>IY (ev c) (ev a) (ev b) fun d=>k d hp
 | .alloc t=>match tb t with
  |some i=>k (.pt hp.next 0) (hp.var (i.zero.map fun v=>.e (.lit v)))
  |none=>False
 | .box _ x=>match (ev x).cells with
  |some cs=>k (.pt hp.next 0) (hp.var cs)
  |none=>False
 | .build t ps=>DR tb t (ps.toList.map fun p=>(p.1,ev p.2)) fun d=>k d hp
 | .buildSlice t n ps=>eN tb (!dr) t n (ps.toList.map fun p=>(p.1,ev p.2)) hp k
 | .load t x=>Dg tb t (ev x) hp fun d=>k d hp
 | .store t x y=>CY tb t (ev x) (ev y) hp k
 | .binOp o t x y _=>ru P o t (ev x) (ev y) fun v=>k (.e (.lit v)) hp
 | .unOp o _ x=>unV o (ev x) fun v=>k (.e (.lit v)) hp
 | .convert s t x=>JV tb s t (ev x) fun d=>k d hp
 | .slice t x lo hi mx=>CZ tb t (ev x) (lo.map ev) (hi.map ev) (mx.map ev) fun d=>k d hp
 | .fieldAddr s x f=>qJ tb s f (ev x) fun d=>k d hp
 | .field s x f=>DG tb s f (ev x) fun d=>k d hp
 | .indexAddr t x i=>qE tb t (ev x) (ev i) fun d=>k d hp
 | .index t x i=>A7 tb t (ev x) (ev i) fun d=>k d hp
 | .extract x i=>match ev x with
  | .tu ds=>∃d,ds[i]? =some d∧k d hp
  |_=>False
 | .call c=>match c.callee with
  | .builtin b=>kW tb b c.argTypes.toList (c.args.toList.map ev) hp k
  | .value x=>vg P (hvB tb c) (ev x) (c.args.toList.map ev) hp k
  | .invoke _ _=>False
 | .nilCheck x=>nilV (ev x) fun d=>k d hp
 | .makeFunc fn first cs=>A3 fn first.size (cs.toList.map ev) fun d=>k d hp
 |_=>False
end
end
section
def Pw {α β:Type}(R:α→β→Prop)(xs:List α)(ys:List β):Prop:=xs.length=ys.length∧∀(j:Nat) (x:α) (y:β),xs[j]? =some x→ys[j]? =some y→R x y
section
variable {α β:Type} {R:α→β→Prop} {xs O7:List α} {ys ys':List β}
theorem Pw.append(h:Pw R xs ys)(h':Pw R O7 ys'):Pw R (xs++O7) (ys++ys'):=by
 refine⟨by rw[eI,eI,h.1,h'.1],fun j x y hx hy=>?_⟩
 rw[List.getElem?_append] at hx hy
 rw[h.1] at hx
 split at hx
 ·rename_i bG
  rw[ar bG] at hy
  exact h.2 j x y hx hy
 ·rename_i bG
  rw[aA bG] at hy
  exact h'.2 _ x y hx hy
theorem Pw.take(h:Pw R xs ys)(n:Nat):Pw R (xs.take n) (ys.take n):=by
 refine⟨by rw[e6,e6,h.1],fun j x y hx hy=>?_⟩
 rw[ez] at hx hy
 split at hx
 ·rename_i bG
  rw[ar bG] at hy
  exact h.2 j x y hx hy
 ·cases hx
theorem Pw.drop(h:Pw R xs ys)(n:Nat):Pw R (xs.drop n) (ys.drop n):=by
 refine⟨by rw[ie,ie,h.1],fun j x y hx hy=>?_⟩
 rw[lX] at hx hy
 exact h.2 _ x y hx hy
theorem Pw.get(h:Pw R xs ys){j:Nat}{x:α}(hx:xs[j]? =some x):∃y,ys[j]? =some y∧R x y:=by
 have hj:j<ys.length:=by
  rw[←h.1]
  rcases bt j xs.length with hh|hh
  ·exact hh
  ·rw[fa hh] at hx;cases hx
 exact⟨ys[j],i8 hj,h.2 j x _ hx (i8 hj)⟩
theorem Pw.nil:Pw R [] []:=⟨rfl,fun j _ _ h _=>by simp at h⟩
theorem Pw.cons {x:α}{y:β}(h:R x y)(h':Pw R xs ys):Pw R (x::xs) (y::ys):=by
 refine⟨by simp[h'.1],fun j a b ha hb=>?_⟩
 cases j with
 |zero=>
  simp at ha hb
  subst ha;subst hb
  exact h
 |succ j=>exact h'.2 j a b (by simpa using ha) (by simpa using hb)
theorem Pw.imp {R':α→β→Prop}(h:Pw R xs ys)(hi:∀x y,R x y→R' x y):Pw R' xs ys:=⟨h.1,fun j x y hx hy=>hi x y (h.2 j x y hx hy)⟩
end
theorem xS {v:Value}(h:v.oneCell'=true):v.cells=#[v]:=by cases v <;> first|rfl|cases h
section
variable {hp:Hp} {g:Gh} {w:World} {d:D} {v:Value}
def fk(hp:Hp)(g:Gh)(w:World)(cs:List D)(us:List Value):Prop:=Pw (aI hp g w) cs us∧∀u∈us,u.oneCell'=true
theorem fk.one(h:aI hp g w d v)(h1:v.oneCell'=true):fk hp g w [d] v.cells.toList:=by
 rw[xS h1]
 exact⟨Pw.cons h Pw.nil,fun u hu=>by simp at hu;subst hu;exact h1⟩
theorem aI.cells {cs:List D}(h:aI hp g w d v)(hc:d.cells=some cs):fk hp g w cs v.cells.toList:=by
 cases h with
 |ag ds vd hl h1 hr=>
  obtain rfl:ds=cs:=by simpa[D.cells] using hc
  refine⟨⟨hl.symm.trans (eK (xs:=vd)).symm,fun j x y hx hy=>hr j x y hx (by simpa[Value.cells] using hy)⟩,fun u hu=>?_⟩
  obtain⟨j,hj⟩:=wK hu
  exact h1 j u (by simpa[Value.cells] using hj)
 |tu ds vd hl hr=>simp[D.cells] at hc
 |top v=>simp[D.cells] at hc
 |opt b d v hi h=>simp[D.cells] at hc
 |e x v h=>
  obtain rfl:[D.e x]=cs:=by simpa[D.cells] using hc
  exact fk.one (.e x v h) h.one
 |own id z n xs v h hid ht=>
  obtain rfl:[D.own id z n xs]=cs:=by simpa[D.cells] using hc
  exact fk.one (.own id z n xs v h hid ht) h.one
 |fu z n xs A h=>
  obtain rfl:[D.fu z n xs]=cs:=by simpa[D.cells] using hc
  exact fk.one (.fu z n xs A h) rfl
 |fp xs off ad hb Rg=>
  obtain rfl:[D.fp xs off]=cs:=by simpa[D.cells] using hc
  exact fk.one (.fp xs off ad hb Rg) rfl
 |pt k off hk=>
  obtain rfl:[D.pt k off]=cs:=by simpa[D.cells] using hc
  exact fk.one (.pt k off hk) rfl
 |ow k off z n c hk h1 h2=>
  obtain rfl:[D.ow k off z n]=cs:=by simpa[D.cells] using hc
  exact fk.one (.ow k off z n c hk h1 h2) rfl
 |gw k z n c hk h1 h2 hs=>
  obtain rfl:[D.gw k z n]=cs:=by simpa[D.cells] using hc
  exact fk.one (.gw k z n c hk h1 h2 hs) rfl
 |fn f ks hk=>
  obtain rfl:[D.fn f ks]=cs:=by simpa[D.cells] using hc
  exact fk.one (.fn f ks hk) rfl
theorem fk.append {cs vd:List D}{us v7:List Value}(h:fk hp g w cs us)(h':fk hp g w vd v7):fk hp g w (cs++vd) (us++v7):=
 ⟨h.1.append h'.1,fun u hu=>(s5.1 hu).elim (h.2 u) (h'.2 u)⟩
theorem fk.take {cs:List D}{us:List Value}(h:fk hp g w cs us)(n:Nat):fk hp g w (cs.take n) (us.take n):=⟨h.1.take n,fun u hu=>h.2 u (LI hu)⟩
theorem fk.drop {cs:List D}{us:List Value}(h:fk hp g w cs us)(n:Nat):fk hp g w (cs.drop n) (us.drop n):=⟨h.1.drop n,fun u hu=>h.2 u (List.mem_of_mem_drop hu)⟩
theorem fk.ag {cs:List D}{us:List Value}(h:fk hp g w cs us):aI hp g w (.ag cs) (.agg us.toArray):=
 .ag cs us.toArray (by simpa using h.1.1.symm) (fun j u hu=>h.2 u (bT (by simpa using hu))) (fun j d u hd hu=>h.1.2 j d u hd (by simpa using hu))
theorem fk.lits(l:List Value)(h:l.all Value.oneCell'=true):fk hp g w (l.map fun v=>.e (.lit v)) l:=by
 have h1:∀u∈l,u.oneCell'=true:=by simpa using h
 refine⟨⟨by simp,fun j x y hx hy=>?_⟩,h1⟩
 rw[fO,hy] at hx
 injection hx with hx
 subst hx
 exact .e _ _ (.lit y (h1 y (bT hy)))
theorem OI {x:E}(h:aI hp g w d v)(hx:d.cellE=some x):dq w g.F x v:=by
 cases h <;> simp[D.cellE] at hx <;> (subst hx;assumption)
theorem DO:∀{cs:List D} {us:List Value} {xs:List E},fk hp g w cs us→vf cs=some xs→Pw (dq w g.F) xs us
 |[],us,xs,h,hx=>by
  obtain rfl:[]=xs:=by simpa[vf] using hx
  have:us=[]:=kY h.1.1.symm
  subst this
  exact Pw.nil
 |d::ds,us,xs,h,hx=>by
  cases us with
  |nil=>have:=h.1.1;simp at this
  |cons u us=>
   unfold vf at hx
   split at hx
   ·rename_i x O7 h1 h2
    injection hx with hx
    subst hx
    refine Pw.cons (OI (h.1.2 0 d u rfl rfl) h1) (DO ⟨⟨by simpa using h.1.1,fun j a b ha hb=>h.1.2 (j+1) a b ha hb⟩,fun u hu=>h.2 u (lV _ hu)⟩ h2)
   ·cases hx
end
theorem FU(off:Nat):∀(l:List Value) (k:Nat) (arr:Array Value),off+k+l.length≤arr.size→
  ((l.zipIdx k).foldl (fun (cs:Array Value) (x:Value×Nat)=>cs.setIfInBounds (off+x.2) x.1) arr).toList=arr.toList.take (off+k)++l++arr.toList.drop (off+k+l.length)
 |[],k,arr,h=>by simp
 |c::l,k,arr,h=>by
  simp only[n7] at h
  simp only[List.zipIdx_cons,J9]
  rw[FU off l (k+1) (arr.setIfInBounds (off+k) c) (by simp;omega),Array.toList_setIfInBounds]
  have hk:off+k<arr.toList.length:=by simp;omega
  rw[show off+(k+1)=off+k+1 by omega,List.take_add_one,List.take_set_of_le (aD _),HW hk,List.drop_set_of_lt (by omega)]
  simp[ob,rz,Nat.add_left_comm]
theorem JM(place:Nat→Option (Nat×Nat)):∀(parts:List (Nat×Value)) (cells:Array Value),
  Instr.fill place cells parts=(match gU place cells.toList (parts.map fun p=>(p.1,p.2.cells.toList)) with|some l=>some l.toArray|none=>none)∨gU place cells.toList (parts.map fun p=>(p.1,p.2.cells.toList))=none
 |[],cells=>by simp[Instr.fill,gU]
 |(i,v)::rest,cells=>by
  simp only[Instr.fill,gU,fx]
  cases hp:place i with
  |none=>exact .inr rfl
  |some q=>
   obtain⟨off,size⟩:=q
   simp only[eK]
   by_cases hc:v.cells.size≠size∨off+v.cells.size > cells.size
   ·right
    rw[ar hc]
   ·rw[aA hc]
    have e1:(v.cells.zipIdx.foldl (fun cs (x:Value×Nat)=>match x with|(c,j)=>cs.setIfInBounds (off+j) c) cells).toList=cells.toList.take off++v.cells.toList++cells.toList.drop (off+v.cells.size):=by
     rw[←Array.foldl_toList,Array.toList_zipIdx]
     have:=FU off v.cells.toList 0 cells (by simp;omega)
     simpa using this
    have h3:¬(decide (v.cells.size≠size)||decide (off+v.cells.size > cells.size))=true:=by simpa using hc
    rw[←e1]
    have h2:=JM place rest (v.cells.zipIdx.foldl (fun cs (x:Value×Nat)=>match x with|(c,j)=>cs.setIfInBounds (off+j) c) cells)
    rcases h2 with h2|h2
    ·left
     rw[←h2,aA h3]
    ·exact .inr h2
theorem xi {α β:Type}{R:α→β→Prop}(place:Nat→Option (Nat×Nat)):∀{qs:List (Nat×List α)} {ps:List (Nat×List β)} {ds ds':List α} {vs:List β},gU place ds qs=some ds'→Pw R ds vs→Pw (fun (q:Nat×List α) (p:Nat×List β)=>q.1=p.1∧Pw R q.2 p.2) qs ps→
  ∃pz,gU place vs ps=some pz∧Pw R ds' pz
 |[],ps,ds,ds',vs,h,hd,hq=>by
  have:ps=[]:=kY hq.1.symm
  subst this
  obtain rfl:ds=ds':=by simpa[gU] using h
  exact⟨vs,rfl,hd⟩
 |(i,cs)::rest,ps,ds,ds',vs,h,hd,hq=>by
  cases ps with
  |nil=>have:=hq.1;simp at this
  |cons p ps=>
   obtain⟨i',us⟩:=p
   obtain⟨e1,hcu⟩:=hq.2 0 _ _ rfl rfl
   dsimp only at e1 hcu
   subst e1
   have Qv:Pw (fun (q:Nat×List α) (p:Nat×List β)=>q.1=p.1∧Pw R q.2 p.2) rest ps:=⟨by have:=hq.1;simpa using this,fun j a b ha hb=>hq.2 (j+1) a b ha hb⟩
   unfold gU at h ⊢
   cases hp:place i with
   |none=>simp[hp] at h
   |some q=>
    obtain⟨off,size⟩:=q
    simp only[hp] at h ⊢
    rw[←hcu.1,←hd.1]
    split at h
    ·cases h
    ·rename_i hc
     rw[aA hc]
     refine xi place h ?_ Qv
     exact ((hd.take off).append hcu).append (hd.drop _)
theorem qY {place:Nat→Option (Nat×Nat)}:∀{ps:List (Nat×List Value)} {vs pz:List Value},gU place vs ps=some pz→(∀u∈vs,u.oneCell'=true)→(∀p∈ps,∀u∈p.2,u.oneCell'=true)→∀u∈pz,u.oneCell'=true
 |[],vs,pz,h,h1,_=>by
  obtain rfl:vs=pz:=by simpa[gU] using h
  exact h1
 |(i,cs)::rest,vs,pz,h,h1,h2=>by
  unfold gU at h
  split at h
  ·cases h
  ·split at h
   ·cases h
   ·refine qY h (fun u hu=>?_) (fun p hp=>h2 p (lV _ hp))
    rcases s5.1 hu with hu|hu
    ·rcases s5.1 hu with hu|hu
     ·exact h1 u (LI hu)
     ·exact h2 _ (ni ..) u hu
    ·exact h1 u (List.mem_of_mem_drop hu)
theorem uX {hp:Hp}{g:Gh}{w:World}{ev:Operand→D}{ρ:Operand→Value}:∀{ps:List (Nat×Operand)} {qs:List (Nat×List D)},(∀p∈ps,aI hp g w (ev p.2) (ρ p.2))→lM (ps.map fun p=>(p.1,ev p.2))=some qs→
  Pw (fun (q:Nat×List D) (p:Nat×List Value)=>q.1=p.1∧Pw (aI hp g w) q.2 p.2) qs ((ps.map fun p=>(p.1,ρ p.2)).map fun p=>(p.1,p.2.cells.toList))∧∀p∈((ps.map fun p=>(p.1,ρ p.2)).map fun p=>(p.1,p.2.cells.toList)),∀u∈p.2,u.oneCell'=true
 |[],qs,_,h=>by
  obtain rfl:[]=qs:=by simpa[lM] using h
  exact⟨Pw.nil,by simp⟩
 |(i,x)::ps,qs,hr,h=>by
  simp only[fx,lM] at h
  split at h
  ·rename_i cs r h1 h2
   injection h with h
   subst h
   have hx:=(hr _ (ni ..)).cells h1
   obtain⟨h3,h4⟩:=uX (fun p hp=>hr p (lV _ hp)) h2
   refine⟨Pw.cons ⟨rfl,hx.1⟩ h3,fun p hp u hu=>?_⟩
   simp only[fx,je] at hp
   rcases hp with rfl|hp
   ·exact hx.2 u hu
   ·exact h4 p hp u hu
  ·cases h
section
variable {P:Program} {tb:TypeId→Option TyE}
theorem vI(tok:TOk P tb){t:TypeId}{i:TyE}(ht:tb t=some i)(ha:i.ty.agg=true)(w:World)(ad:Addr)(us:List Value)(hl:us.length=i.size)(hc:∀j u,us[j]? =some u→w.cell? (ad.add j)=some u):
  (loadVar t ad).run P w=.ok (.agg us.toArray) w:=by
 have hr:=run_loadCells_list (P:=P) w ad us hc
 have h1:=tok.run_isAgg ht w
 have h2:=tok.run_sizeOf ht w
 rw[ha] at h1
 rw[hl] at hr
 simp[loadVar,Sem.run_bind,h1,h2,hr]
theorem vH(tok:TOk P tb){t:TypeId}{i:TyE}(ht:tb t=some i)(ha:i.ty.agg=false)(w:World)(ad:Addr)(u:Value)(hc:w.cell? ad=some u):(loadVar t ad).run P w=.ok u w:=by
 have h1:=tok.run_isAgg ht w
 rw[ha] at h1
 simp[loadVar,Sem.run_bind,h1,load,Sem.run,hc]
theorem HR.cells {B:Nat}{hp:Hp}{g:Gh}{w:World}(h:HR B hp g w){k:Nat}{ds:List D}(hk:hp.vars.lookup k=some ds):∃cs ty,w.heap[g.μ k]? =some (.cells cs ty (0,0))∧fk hp g w ds (cs.toList.take ds.length)∧ds.length≤cs.size:=by
 obtain⟨_,_,_,cs,ty,h1,h2,h3⟩:=h.var k ds hk
 refine⟨cs,ty,h1,⟨⟨by simp;omega,fun j x y hx hy=>(h3 j y ?_).2 x hx⟩,fun u hu=>?_⟩,h2⟩
 rotate_left
 ·obtain⟨j,hj⟩:=wK hu
  rw[ez] at hj
  split at hj
  ·rename_i bG
   exact (h3 j u (by simpa using hj)).1 bG
  ·cases hj
 rw[ez] at hy
 split at hy
 ·simpa using hy
 ·cases hy
theorem win_eq {α:Type}(l:List α){off s n:Nat}(h:off+s≤n):((l.take n).drop off).take s=(l.drop off).take s:=by
 rw[DZ,Bo,sZ (by omega)]
theorem BO(tok:TOk P tb){t:TypeId}{d:D}{hp:Hp}{k:D→Prop}(h:Dg tb t d hp k):
  ∃d',k d'∧(∀j off,d=.pt j off→j<hp.next)∧∀(bQ:Hp) (B:Nat) (g:Gh) (w:World) (u:Value),(∀j off,d=.pt j off→bQ.vars.lookup j=hp.vars.lookup j)→HR B bQ g w→aI bQ g w d u→∃v,(Instr.loadAt t u).run P w=.ok v w∧aI bQ g w d' v:=by
 unfold Dg at h
 split at h
 ·rename_i j off
  split at h
  ·rename_i i ds ht hv
   obtain⟨Bc,h⟩:=h
   split at h
   ·rename_i ha
    obtain⟨hle,hk⟩:=h
    refine⟨_,hk,(fun j' off' e=>by cases e;exact Bc),fun bQ B g w u In hr hu=>?_⟩
    cases hu
    obtain⟨cs,ty,hh,rL,hlen⟩:=hr.cells (by rw[In _ _ rfl];exact hv)
    have hag:=((rL.drop off).take i.size).ag
    rw[win_eq _ hle] at hag
    refine⟨_,?_,hag⟩
    have:=vI tok ht ha w ⟨g.μ j,off,none⟩ ((cs.toList.drop off).take i.size) (by rw[e6,ie,eK];omega) (fun n u hu=>by
     rw[Addr.add_lit]
     rw[ez] at hu
     split at hu
     ·rw[lX] at hu
      simp only[World.cell?,hh]
      simpa using hu
     ·cases hu)
    simpa[Instr.loadAt,Instr.sureAddr] using this
   ·rename_i ha
    obtain⟨d',EQ,hk⟩:=h
    refine⟨d',hk,(fun j' off' e=>by cases e;exact Bc),fun bQ B g w u In hr hu=>?_⟩
    cases hu
    obtain⟨cs,ty,hh,rL,_⟩:=hr.cells (by rw[In _ _ rfl];exact hv)
    obtain⟨y,hy,dy⟩:=rL.1.get EQ
    refine⟨y,?_,dy⟩
    rw[ez] at hy
    split at hy
    rotate_left
    ·cases hy
    have:=vH tok ht ha w ⟨g.μ j,off,none⟩ y (by simp only[World.cell?,hh];simpa using hy)
    simpa[Instr.loadAt,Instr.sureAddr] using this
  ·cases h
 ·rename_i xs off
  split at h
  ·rename_i i ht
   split at h
   ·rename_i ha
    obtain⟨hle,hk⟩:=h
    refine⟨_,hk,(fun _ _ e=>by cases e),fun bQ B g w u In hr hu=>?_⟩
    cases hu with
    |fp _ _ ad hb hc=>
     have mP:∀m:Nat,∃us:List Value,m≤i.size→us.length=m∧(∀j u,us[j]? =some u→w.cell? ((ad.add off).add j)=some u)∧fk bQ g w ((List.range m).map fun j=>.e (xs.getD (off+j) .any)) us:=by
      intro m
      induction m with
      |zero=>exact⟨[],fun _=>⟨rfl,by simp,Pw.nil,by simp⟩⟩
      |succ m ih=>
       obtain⟨us,Og⟩:=ih
       by_cases hm:m+1≤i.size
       ·obtain⟨h1,h2,h3⟩:=Og (by omega)
        have hx:xs[off+m]? =some xs[off+m]:=i8 (by omega)
        obtain⟨u,hu1,_,hu3⟩:=hc _ _ hx
        refine⟨us++[u],fun _=>⟨by simp[h1],fun j v hv=>?_,?_⟩⟩
        ·rw[List.getElem?_append] at hv
         split at hv
         ·exact h2 j v hv
         ·have:j=m:=by
           rcases bt j (m+1) with hh|hh
           ·omega
           ·rw[fa (by simp;omega)] at hv;cases hv
          subst this
          have:u=v:=by simpa[h1] using hv
          subst this
          rw[qR]
          exact hu1
        ·rw[yk,jR]
         refine h3.append ?_
         have:=fk.one (hp:=bQ) (g:=g) (w:=w) (d:=.e (xs.getD (off+m) .any)) (v:=u) (.e _ _ (by rw[List.getD,hx];exact hu3)) hu3.one
         rwa[xS hu3.one] at this
       ·exact⟨[],fun h=>absurd h hm⟩
     obtain⟨us,Og⟩:=mP i.size
     obtain⟨h1,h2,h3⟩:=Og (aD _)
     refine⟨_,?_,h3.ag⟩
     have:=vI tok ht ha w (ad.add off) us h1 h2
     simpa[Instr.loadAt,Instr.sureAddr] using this
   ·rename_i ha
    obtain⟨hle,hk⟩:=h
    refine⟨_,hk,(fun _ _ e=>by cases e),fun bQ B g w u In hr hu=>?_⟩
    cases hu with
    |fp _ _ ad hb hc=>
     have hx:xs[off]? =some xs[off]:=i8 hle
     obtain⟨u,hu1,_,hu3⟩:=hc _ _ hx
     refine⟨u,?_,.e _ _ (by rw[List.getD,hx];exact hu3)⟩
     have:=vH tok ht ha w (ad.add off) u hu1
     simpa[Instr.loadAt,Instr.sureAddr] using this
  ·cases h
 ·cases h
theorem yh {B:Nat}(w:World){b:Nat}(hb:B≤b)(cs:Array Value):Below B w (w.setRow b cs):=
 ⟨rfl,rfl,rfl,by simp[World.setRow],fun k hk=>setRow_other w b k cs (by omega)⟩
theorem GD(tok:TOk P tb){t:TypeId}{d x:D}{hp:Hp}{k:D→Hp→Prop}(h:CY tb t d x hp k):
  ∃hp',k .top hp'∧∀(B:Nat) (g:Gh) (w:World) (u v:Value),HR B hp g w→aI hp g w d u→aI hp g w x v→
   ∃w',(Instr.storeAt t u v).run P w=.ok () w'∧HR B hp' g w'∧bC hp g w hp' g w'∧Below B w w':=by
 unfold CY at h
 split at h
 ·rename_i j off
  split at h
  ·rename_i i ds cs ht hv hx
   obtain⟨hl,hle,hk⟩:=h
   refine⟨_,hk,fun B g w u v hr hu hxv=>?_⟩
   cases hu
   obtain⟨cur,ty,hh,Q9,Dw⟩:=hr.cells hv
   have rL:=hxv.cells hx
   have hsz:v.cells.size=i.size:=by rw[←hl,rL.1.1];simp
   have Dp:=run_storeCells_at P (g.μ j) off ty v.cells.toList 0 cur w hh (by simp;omega) rL.2
   have bG:=hr.var_lt hv
   have hB:=(hr.var j ds hv).2.1
   have hcl2:cs.length=v.cells.toList.length:=rL.1.1
   have tW:fk hp g w (ds.take off++cs++ds.drop (off+cs.length)) ((cur.toList.take (off+0)++v.cells.toList++cur.toList.drop (off+0+v.cells.toList.length)).take ds.length):=by
    have:=((Q9.take off).append rL).append (Q9.drop (off+cs.length))
    rw[rL.1.1] at this ⊢
    have e1:(cur.toList.take (off+0)++v.cells.toList++cur.toList.drop (off+0+v.cells.toList.length)).take ds.length=((cur.toList.take ds.length).take off++v.cells.toList)++(cur.toList.take ds.length).drop (off+v.cells.toList.length):=by
     rw[LR,gu (by simp;omega),DZ,Bo,sZ (by omega)]
     congr 2
     simp
     omega
    rw[e1]
    exact this
   have Jt:SzB w (w.setRow (g.μ j) (cur.toList.take (off+0)++v.cells.toList++cur.toList.drop (off+0+v.cells.toList.length)).toArray) (g.μ j):=SzB.row hh (by simp;omega)
   have Q2:=setRow_heap w (g.μ j) cur (cur.toList.take (off+0)++v.cells.toList++cur.toList.drop (off+0+v.cells.toList.length)).toArray ty (0,0) hh
   refine⟨_,?_,hr.setVar hv _ _ ty (by simp[World.setRow]) (fun b hb=>setRow_other w _ b _ hb) Q2 (by simp;omega) Jt (fun n u hu=>?_),bC.setVar hr hv _ (by simp[World.setRow]) (fun b hb=>setRow_other w _ b _ hb) Jt,yh w hB _⟩
   ·have h2:=tok.run_sizeOf ht w
    simp[Instr.storeAt,Instr.sureAddr,storeVar,Sem.run_bind,h2,hsz,Dp]
   ·have vJ:(cur.toList.take (off+0)++v.cells.toList++cur.toList.drop (off+0+v.cells.toList.length))[n]? =some u:=by simpa using hu
    have hw:n<ds.length→((cur.toList.take (off+0)++v.cells.toList++cur.toList.drop (off+0+v.cells.toList.length)).take ds.length)[n]? =some u:=fun hn=>by
     rw[ez,ar hn];exact vJ
    have Om:(ds.take off++cs++ds.drop (off+cs.length)).length=ds.length:=by simp;omega
    exact⟨fun hn=>tW.2 u (bT (hw (by omega))),fun d hd=>tW.1.2 n d u hd (hw (by rw[←Om];exact (j4.1 hd).1))⟩
  ·cases h
 ·cases h
end
end
section
section
variable {P:Program} {tb:TypeId→Option TyE} {hp:Hp} {g:Gh} {w:World} {B:Nat}
theorem C0(tok:TOk P tb):∀(fields:List Field) (_:∀f∈fields.map (fun f=>(f.offset,f.type)),(tb f.2).isSome=true) (w:World),
  (fields.mapM fun f=>do pure (f.offset,←sizeOf f.type):Sem (List (Nat×Nat))).run P w=.ok (fields.map fun f=>(f.offset,((tb f.type).map TyE.size).getD 0)) w
 |[],_,w=>by simp
 |f::fs,h,w=>by
  have h1:=h (f.offset,f.type) (by simp)
  cases ht:tb f.type with
  |none=>simp[ht] at h1
  |some i=>
   have h2:=tok.run_sizeOf ht w
   have ih:=C0 tok fs (fun x hx=>h x (by simp only[fx,je];exact .inr hx)) w
   simp only[List.mapM_cons,Sem.run_bind,h2,Result.andThen_ok,Sem.run_pure,ih,fx,ht,lc,vk]
theorem E5(fields:List Field)(h:∀f∈fields.map (fun f=>(f.offset,f.type)),(tb f.2).isSome=true)(i:Nat):
  (fields.map fun f=>(f.offset,((tb f.type).map TyE.size).getD 0))[i]? =rH tb (fields.map fun f=>(f.offset,f.type)) i:=by
 unfold rH
 rw[fO,fO]
 cases hf:fields[i]? with
 |none=>rfl
 |some f=>
  have h1:=h (f.offset,f.type) (by
   refine mw.2 ⟨f,bT hf,rfl⟩)
  cases ht:tb f.type with
  |none=>simp[ht] at h1
  |some i=>simp[ht]
theorem CF {place:Nat→Option (Nat×Nat)}{cells:Array Value}{parts:List (Nat×Value)}{l:List Value}(h:gU place cells.toList (parts.map fun p=>(p.1,p.2.cells.toList))=some l):Instr.fill place cells parts=some l.toArray:=by
 rcases JM place parts cells with h2|h2
 ·rw[h2,h]
 ·rw[h] at h2;cases h2
theorem Ht(tok:TOk P tb){t:TypeId}{ps:List (Nat×Operand)}{ev:Operand→D}{k:D→Prop}(h:DR tb t (ps.map fun p=>(p.1,ev p.2)) k):
  ∃d',k d'∧∀(hp:Hp) (g:Gh) (w:World) (ρ:Operand→Value),(∀p∈ps,aI hp g w (ev p.2) (ρ p.2))→∃v,(Instr.build t (ps.map fun p=>(p.1,ρ p.2)).toArray).run P w=.ok v w∧aI hp g w d' v:=by
 unfold DR at h
 split at h
 ·rename_i i qs ht hq
  split at h
  ·rename_i fs j6
   obtain⟨hsz,h⟩:=h
   split at h
   ·rename_i ds EO
    refine⟨_,h,fun hp g w ρ hρ=>?_⟩
    obtain⟨fields,hu,Ir⟩:=tok.struct ht j6
    obtain⟨z,hz,FK⟩:=tok.run_zero ht w
    obtain⟨h1,h2⟩:=uX hρ hq
    have h0:=fk.lits (hp:=hp) (g:=g) (w:=w) i.zero (tok t i ht).2.2.2
    obtain⟨vs,h3,h4⟩:=xi _ EO h0.1 h1
    have h5:=qY h3 h0.2 h2
    subst Ir
    have hpl:=C0 tok fields.toList hsz w
    have hfun:(fun x=>(fields.toList.map fun f=>(f.offset,((tb f.type).map TyE.size).getD 0)).toArray[x]?)=rH tb (fields.toList.map fun f=>(f.offset,f.type)):=by
     funext n
     rw[←E5 _ hsz n]
     simp
    rw[←FK] at h3
    have BR:=CF (parts:=ps.map fun p=>(p.1,ρ p.2)) h3
    refine⟨_,?_,(fk.ag ⟨h4,h5⟩)⟩
    rw[←hfun] at BR
    simp only[Instr.build,Sem.run_bind,hz,Result.andThen_ok,run_underlying hu,HQ,Sem.run_map,hpl]
    simp only[BR,Sem.run_pure]
   ·cases h
  ·rename_i n e j6
   split at h
   ·rename_i j he
    split at h
    ·rename_i ds EO
     refine⟨_,h,fun hp g w ρ hρ=>?_⟩
     have hu:=tok.arr ht j6
     obtain⟨z,hz,FK⟩:=tok.run_zero ht w
     obtain⟨h1,h2⟩:=uX hρ hq
     have h0:=fk.lits (hp:=hp) (g:=g) (w:=w) i.zero (tok t i ht).2.2.2
     obtain⟨vs,h3,h4⟩:=xi _ EO h0.1 h1
     have h5:=qY h3 h0.2 h2
     rw[←FK] at h3
     have BR:=CF (parts:=ps.map fun p=>(p.1,ρ p.2)) h3
     refine⟨_,?_,(fk.ag ⟨h4,h5⟩)⟩
     have hs:=tok.run_sizeOf he w
     simp only[Instr.build,Sem.run_bind,hz,Result.andThen_ok,run_underlying hu,hs]
     simp only[BR,Sem.run_pure]
    ·cases h
   ·cases h
  ·cases h
 ·cases h
theorem dq.new {F:Addr→Prop}{z n:Nat}{xs:List E}(us:List Value)(e:TypeId)(hz:0<z)(hl:xs.length=n*z)(hn:n≤maxLen)(hF:∀p:Addr,p.block=w.heap.size→¬F p)(h:Pw (dq w F) xs us):
  dq (w.alloc (.cells us.toArray e)) F (.sl z n xs) (.slice (some ⟨w.heap.size,0,none⟩) n n):=by
 refine .sl z n xs _ n (fun j=>us.getD j undef) hl hz (aD _) hn (fun _=>⟨_,rfl,by simp⟩) (fun ad ha j x hx=>?_) (fun j x hx=>?_)
 ·injection ha with ha
  subst ha
  obtain⟨u,hu,_⟩:=h.get hx
  refine⟨?_,hF _ (by rw[iw])⟩
  rw[Addr.add_lit,World.cell?_alloc_at _ _ _ _ rfl]
  simp[List.getD,hu]
 ·obtain⟨u,hu,hr⟩:=h.get hx
  have:us.getD j undef=u:=by simp[List.getD,hu]
  rw[this]
  exact hr.mono (by simp) (fun p hp _=>World.cell?_alloc_lt w _ p hp) (fun _ _ h=>h)
theorem rx {d:D}{v:Value}{z n:Nat}{xs:List E}(h:aI hp g w d v)(ha:d.asSl z=some (n,xs)):∃A c,v=.slice A n c∧dq w g.F (.sl z n xs) (.slice A n c):=by
 have gen:∀{z' n':Nat} {O7:List E} {v:Value},dq w g.F (.sl z' n' O7) v→(if z'=z then some (n',O7) else none)=some (n,xs)→∃A c,v=.slice A n c∧dq w g.F (.sl z n xs) (.slice A n c):=by
  intro z' n' O7 v h hq
  split at hq
  ·rename_i hz
   subst hz
   injection hq with hq
   injection hq with h1 h2
   subst h1;subst h2
   cases h with
   |sl _ _ _ A c us hl hz pl oF hA hc hr=>exact⟨A,c,rfl,.sl _ _ _ A c us hl hz pl oF hA hc hr⟩
  ·cases hq
 cases h with
 |e x v h=>
  cases h with
  |lit u h1=>
   unfold D.asSl at ha
   split at ha
   ·rename_i heq;cases heq
   ·rename_i heq;cases heq
   ·rename_i heq;cases heq
   ·rename_i heq
    injection heq with heq
    injection heq with heq
    subst heq
    split at ha
    ·cases ha
    ·rename_i hz
     injection ha with ha
     injection ha with h1 h2
     subst h1;subst h2
     exact⟨none,0,rfl,.sl z 0 [] none 0 (fun _=>undef) (by simp) (by omega) (aD _) (by decide) (fun h=>absurd h (by omega)) (fun _ h=>by cases h) (fun _ _ h=>by simp at h)⟩
   ·cases ha
  |any v h1=>simp[D.asSl] at ha
  |sl z' n' O7 A c us hl hz pl oF hA hc hr=>exact gen (.sl z' n' O7 A c us hl hz pl oF hA hc hr) ha
 |own id z' n' O7 v h hid ht=>exact gen h ha
 |fu z' n' O7 A h=>exact gen h ha
 |_=>simp[D.asSl] at ha
theorem dq.reads {F:Addr→Prop}{z n:Nat}{xs:List E}{A:Option Addr}{c:Nat}(h:dq w F (.sl z n xs) (.slice A n c)):
  xs.length=n*z∧0<z∧n≤c∧c≤maxLen∧(0<n→∃ad,A=some ad∧ad.block<w.heap.size)∧∃us:List Value,us.length=n*z∧(∀ad,A=some ad→∀j u,us[j]? =some u→w.cell? (ad.add j)=some u∧¬F (ad.add j))∧Pw (dq w F) xs us:=by
 cases h with
 |sl _ _ _ _ _ us hl hz pl oF hA hc hr=>
  refine⟨hl,hz,pl,oF,hA,(List.range (n*z)).map us,by simp,fun ad ha j u hu=>?_,⟨by simp[hl],fun j x y hx hy=>?_⟩⟩
  ·have hj:j<n*z:=by
    rcases bt j (n*z) with hh|hh
    ·exact hh
    ·rw[fa (by simpa using hh)] at hu;cases hu
   have:us j=u:=by simpa[hj] using hu
   subst this
   exact hc ad ha j _ (i8 (by omega))
  ·have hj:j<n*z:=by
    rcases bt j (n*z) with hh|hh
    ·exact hh
    ·rw[fa (by simpa using hh)] at hy;cases hy
   have:us j=y:=by simpa[hj] using hy
   subst this
   exact hr j x hx
theorem dq.fp {z n:Nat}{xs:List E}{A:Option Addr}{c:Nat}(h:dq w g.F (.sl z n xs) (.slice A n c))(hn:0<n):∃ad,A=some ad∧∀off,aI hp g w (.fp xs off) (.pointer (some (ad.add off))):=by
 obtain⟨_,_,_,_,hA,us,_,hc,hp⟩:=h.reads
 obtain⟨ad,rfl,hb⟩:=hA hn
 refine⟨ad,rfl,fun off=>.fp xs off ad hb (fun j x hx=>?_)⟩
 obtain⟨u,hu,hr⟩:=hp.get hx
 obtain⟨h1,h2⟩:=hc ad rfl j u hu
 exact⟨u,h1,h2,hr⟩
theorem dq.cut {F:Addr→Prop}{z n:Nat}{xs:List E}{A:Option Addr}{c:Nat}(h:dq w F (.sl z n xs) (.slice A n c))(l m c':Nat)(hle:l+m≤n)(hmc:m≤c')(Rg:c'≤maxLen)(A':Option Addr)(MY:0<m→A'=A.map (·.add (l*z))):
  dq w F (.sl z m ((xs.drop (l*z)).take (m*z))) (.slice A' m c'):=by
 obtain⟨hl,hz,pl,oF,hA,us,MQ,hc,hp⟩:=h.reads
 have hlm:(l+m)*z≤n*z:=bJ _ hle
 rw[bZ] at hlm
 refine .sl z m _ A' c' (fun j=>us.getD (l*z+j) undef) (by rw[e6,ie,hl];omega) hz hmc Rg (fun hm=>?_) (fun ad ha j x hx=>?_) (fun j x hx=>?_)
 ·obtain⟨ad,rfl,hb⟩:=hA (by omega)
  exact⟨ad.add (l*z),by rw[MY hm];rfl,by rw[iw];exact hb⟩
 ·rw[ez] at hx
  split at hx
  ·rename_i hj
   rw[lX] at hx
   have hm:0<m:=by
    rcases mJ m with h0|h0
    ·subst h0;omega
    ·exact h0
   obtain⟨ad0,rfl,_⟩:=hA (by omega)
   rw[MY hm] at ha
   have:ad0.add (l*z)=ad:=by simpa using ha
   subst this
   obtain⟨u,hu,hr⟩:=hp.get hx
   obtain⟨h1,h2⟩:=hc ad0 rfl _ u hu
   rw[qR]
   refine⟨?_,h2⟩
   simp only[List.getD,hu,vk]
   exact h1
  ·cases hx
 ·rw[ez] at hx
  split at hx
  ·rw[lX] at hx
   obtain⟨u,hu,hr⟩:=hp.get hx
   simpa only[List.getD,hu,vk] using hr
  ·cases hx
theorem pT {b:Option Operand}{ev:Operand→D}{Fk:Int}{k:Int→Prop}(h:qM (b.map ev) Fk k):
  (b=none∧k Fk)∨∃x i,b=some x∧k i∧∀(hp:Hp) (g:Gh) (w:World) (v:Value),aI hp g w (ev x) v→∃kd,v=.int kd i:=by
 cases b with
 |none=>exact .inl ⟨rfl,h⟩
 |some x=>
  simp only[lc,qM] at h
  split at h
  ·rename_i heq;cases heq
  ·rename_i kd i heq
   injection heq with heq
   refine .inr ⟨x,i,rfl,h,fun hp g w v hv=>?_⟩
   rw[heq] at hv
   cases hv with
   |e _ _ h=>cases h;exact⟨kd,rfl⟩
  ·cases h
theorem aI.lit {u v:Value}(h:aI hp g w (.e (.lit u)) v):v=u:=by
 cases h with
 |e _ _ h=>cases h;rfl
theorem lK(b:Bool)(len cap:Nat)(lo hi:Option Value)(l h:Nat)(hl:lo=none∧l=0∨∃kd,lo=some (.int kd (l:Int)))(hh:hi=none∧h=len∨∃kd,hi=some (.int kd (h:Int)))(h1:l≤h)(h2:h≤cap):
  (Instr.sliceBounds b len cap lo hi none).run P w=.ok (l,h,cap) w:=by
 have n1:¬(l:Int)<0:=by omega
 rcases hl with⟨rfl,rfl⟩|⟨kd,rfl⟩ <;> rcases hh with⟨rfl,rfl⟩|⟨kd',rfl⟩ <;>
  simp[Instr.sliceBounds,run_sliceBound,h1,h2]
theorem GG(tok:TOk P tb){t:TypeId}{x:Operand}{lo hi mx:Option Operand}{ev:Operand→D}{k:D→Prop}(h:CZ tb t (ev x) (lo.map ev) (hi.map ev) (mx.map ev) k):
  ∃d',k d'∧∀(hp:Hp) (g:Gh) (w:World) (ρ:Operand→Value),aI hp g w (ev x) (ρ x)→(∀y,lo=some y∨hi=some y∨mx=some y→aI hp g w (ev y) (ρ y))→
   ∃v,(Instr.sliceAt t (ρ x) (lo.map ρ) (hi.map ρ) (mx.map ρ)).run P w=.ok v w∧aI hp g w d' v:=by
 unfold CZ at h
 split at h
 ·rename_i ti ht
  split at h
  ·rename_i e j6
   have hu:=tok.slice ht j6
   split at h
   ·rename_i j he
    split at h
    ·rename_i n xs ha
     obtain⟨l,Dt,h⟩:∃l:Int,(lo=none∧l=0∨∃y,lo=some y∧∀(hp:Hp) (g:Gh) (w:World) (v:Value),aI hp g w (ev y) v→∃kd,v=.int kd l)∧qM (hi.map ev) n fun h=>(0≤l∧l≤h∧h≤(n:Int))∧match mx.map ev with
       |none=>k (.e (.sl j.size (h - l).toNat ((xs.drop (l.toNat*j.size)).take ((h - l).toNat*j.size))))
       |some m=>qM (some m) 0 fun m=>(hi.map ev).isSome=true∧m=h∧k (.fu j.size (h - l).toNat ((xs.drop (l.toNat*j.size)).take ((h - l).toNat*j.size))):=by
      rcases pT h with⟨h1,h2⟩|⟨y,i,h1,h2,h3⟩
      ·exact⟨0,.inl ⟨h1,rfl⟩,h2⟩
      ·exact⟨i,.inr ⟨y,h1,h3⟩,h2⟩
     obtain⟨hh,Kw,⟨h0,hlh,hhn⟩,h⟩:∃hh:Int,(hi=none∧hh=n∨∃y,hi=some y∧∀(hp:Hp) (g:Gh) (w:World) (v:Value),aI hp g w (ev y) v→∃kd,v=.int kd hh)∧(0≤l∧l≤hh∧hh≤(n:Int))∧match mx.map ev with
       |none=>k (.e (.sl j.size (hh - l).toNat ((xs.drop (l.toNat*j.size)).take ((hh - l).toNat*j.size))))
       |some m=>qM (some m) 0 fun m=>(hi.map ev).isSome=true∧m=hh∧k (.fu j.size (hh - l).toNat ((xs.drop (l.toNat*j.size)).take ((hh - l).toNat*j.size))):=by
      rcases pT h with⟨h1,h2⟩|⟨y,i,h1,h2,h3⟩
      ·exact⟨n,.inl ⟨h1,rfl⟩,h2⟩
      ·exact⟨i,.inr ⟨y,h1,h3⟩,h2⟩
     obtain⟨L,rfl⟩:∃L:Nat,l=L:=⟨l.toNat,by omega⟩
     obtain⟨H,rfl⟩:∃H:Nat,hh=H:=⟨hh.toNat,by omega⟩
     have e1:((H:Int) - L).toNat=H - L:=by omega
     rw[e1,aJ] at h
     cases mx with
     |none=>
      refine⟨_,h,fun hp g w ρ hx hy=>?_⟩
      obtain⟨A,c,hv,dy⟩:=rx hx ha
      obtain⟨_,hz,pl,oF,_⟩:=dy.reads
      have hb:=lK (P:=P) (w:=w) true n c (lo.map ρ) (hi.map ρ) L H (by
       rcases Dt with⟨rfl,h9⟩|⟨y,rfl,h9⟩
       ·exact .inl ⟨rfl,by omega⟩
       ·obtain⟨kd,hk⟩:=h9 hp g w _ (hy y (.inl rfl));exact .inr ⟨kd,by simp[hk]⟩) (by
       rcases Kw with⟨rfl,h9⟩|⟨y,rfl,h9⟩
       ·exact .inl ⟨rfl,by omega⟩
       ·obtain⟨kd,hk⟩:=h9 hp g w _ (hy y (.inr (.inl rfl)));exact .inr ⟨kd,by simp[hk]⟩) (by omega) (by omega)
      have hs:=tok.run_sizeOf he w
      refine⟨.slice (if c=L then A else A.map (·.add (L*j.size))) (H - L) (c - L),?_,.e _ _ (dy.cut L (H - L) (c - L) (by omega) (by omega) (by omega) _ (fun hm=>by rw[ifn_]))⟩
      simp[Instr.sliceAt,Instr.slice,run_underlying hu,hv,hb,hs]
     |some m=>
      rcases pT (b:=some m) h with⟨h1,_⟩|⟨y,i,h1,⟨h2,u9,h3⟩,h4⟩
      ·cases h1
      injection h1 with h1
      subst h1;subst u9
      refine⟨_,h3,fun hp g w ρ hx hy=>?_⟩
      obtain⟨A,c,hv,dy⟩:=rx hx ha
      have pl:=dy.reads.2.2.1
      have oF:=dy.reads.2.2.2.1
      have q1:L+(H - L)≤n:=by omega
      have q2:H - L≤maxLen:=by omega
      have q3:0<H - L→¬H=L:=by omega
      obtain⟨km,hm⟩:=h4 hp g w _ (hy m (.inr (.inr rfl)))
      have hs:=tok.run_sizeOf he w
      obtain⟨y,rfl⟩:∃y,hi=some y:=by cases hi with|none=>simp at h2|some y=>exact⟨y,rfl⟩
      obtain⟨kh,hk⟩:∃kh,ρ y=.int kh (H:Int):=by
       rcases Kw with⟨h,_⟩|⟨y',h,h'⟩
       ·cases h
       ·injection h with h;subst h
        exact h' hp g w _ (hy y (.inr (.inl rfl)))
      have hHc:H≤c:=by omega
      have hb:(Instr.sliceBounds true n c (lo.map ρ) (some (.int kh (H:Int))) (some (.int km (H:Int)))).run P w=.ok (L,H,H) w:=by
       have hLH:L≤H:=by omega
       rcases Dt with⟨rfl,h9⟩|⟨y',rfl,h9⟩
       ·obtain rfl:L=0:=by omega
        simp[Instr.sliceBounds,run_sliceBound,hHc]
       ·obtain⟨kd,v3⟩:=h9 hp g w _ (hy y' (.inl rfl))
        simp[Instr.sliceBounds,run_sliceBound,hHc,v3,hLH]
      have hcut:=dy.cut L (H - L) (H - L) q1 (aD _) q2 (if H=L then A else A.map (·.add (L*j.size))) (fun hm=>by rw[aA (q3 hm)])
      refine⟨.slice (if H=L then A else A.map (·.add (L*j.size))) (H - L) (H - L),?_,.fu _ _ _ _ hcut⟩
      simp[Instr.sliceAt,Instr.slice,run_underlying hu,hv,hb,hs,hk,hm]
    ·cases h
   ·cases h
  ·rename_i j6
   have hu:=tok.str ht j6
   split at h
   ·rename_i s Ao hmx
    obtain⟨l,Dt,h⟩:∃l:Int,(lo=none∧l=0∨∃y,lo=some y∧∀(hp:Hp) (g:Gh) (w:World) (v:Value),aI hp g w (ev y) v→∃kd,v=.int kd l)∧qM (hi.map ev) s.size fun h=>(0≤l∧l≤h∧h≤(s.size:Int))∧k (.e (.lit (.string (s.extract l.toNat h.toNat)))):=by
     rcases pT h with⟨h1,h2⟩|⟨y,i,h1,h2,h3⟩
     ·exact⟨0,.inl ⟨h1,rfl⟩,h2⟩
     ·exact⟨i,.inr ⟨y,h1,h3⟩,h2⟩
    obtain⟨hh,Kw,⟨h0,hlh,hhn⟩,h⟩:∃hh:Int,(hi=none∧hh=s.size∨∃y,hi=some y∧∀(hp:Hp) (g:Gh) (w:World) (v:Value),aI hp g w (ev y) v→∃kd,v=.int kd hh)∧(0≤l∧l≤hh∧hh≤(s.size:Int))∧k (.e (.lit (.string (s.extract l.toNat hh.toNat)))):=by
     rcases pT h with⟨h1,h2⟩|⟨y,i,h1,h2,h3⟩
     ·exact⟨s.size,.inl ⟨h1,rfl⟩,h2⟩
     ·exact⟨i,.inr ⟨y,h1,h3⟩,h2⟩
    obtain⟨L,rfl⟩:∃L:Nat,l=L:=⟨l.toNat,by omega⟩
    obtain⟨H,rfl⟩:∃H:Nat,hh=H:=⟨hh.toNat,by omega⟩
    obtain rfl:mx=none:=by cases mx with|none=>rfl|some _=>cases hmx
    refine⟨_,h,fun hp g w ρ hx hy=>?_⟩
    rw[Ao] at hx
    have hv:=hx.lit
    have hb:=lK (P:=P) (w:=w) false s.size s.size (lo.map ρ) (hi.map ρ) L H (by
     rcases Dt with⟨rfl,h9⟩|⟨y,rfl,h9⟩
     ·exact .inl ⟨rfl,by omega⟩
     ·obtain⟨kd,hk⟩:=h9 hp g w _ (hy y (.inl rfl));exact .inr ⟨kd,by simp[hk]⟩) (by
     rcases Kw with⟨rfl,h9⟩|⟨y,rfl,h9⟩
     ·exact .inl ⟨rfl,by omega⟩
     ·obtain⟨kd,hk⟩:=h9 hp g w _ (hy y (.inr (.inl rfl)));exact .inr ⟨kd,by simp[hk]⟩) (by omega) (by omega)
    refine⟨.string (s.extract L H),?_,.e _ _ (.lit _ rfl)⟩
    simp[Instr.sliceAt,Instr.slice,run_underlying hu,hv,hb]
   ·cases h
  ·cases h
 ·cases h
end
end
section
section
variable {P:Program} {tb:TypeId→Option TyE} {hp:Hp} {g:Gh} {w:World} {B:Nat}
theorem Pw.of_any(us:List Value)(h:∀u∈us,u.oneCell'=true):fk hp g w (List.replicate us.length (D.e .any)) us:=by
 refine⟨⟨by simp,fun j x y hx hy=>?_⟩,h⟩
 have:x=D.e .any:=(List.mem_replicate.1 (bT hx)).2
 subst this
 exact .e _ _ (.any y (h y (bT hy)))
theorem dq.new' {F':Addr→Prop}{z n:Nat}{xs:List E}(us:List Value)(e:TypeId)(hz:0<z)(hl:xs.length=n*z)(hn:n≤maxLen)(hF:∀j,j<n*z→¬F' ⟨w.heap.size,j,none⟩)(h:Pw (dq (w.alloc (.cells us.toArray e)) F') xs us):
  dq (w.alloc (.cells us.toArray e)) F' (.sl z n xs) (.slice (some ⟨w.heap.size,0,none⟩) n n):=by
 refine .sl z n xs _ n (fun j=>us.getD j undef) hl hz (aD _) hn (fun _=>⟨_,rfl,by simp⟩) (fun ad ha j x hx=>?_) (fun j x hx=>?_)
 ·injection ha with ha
  subst ha
  obtain⟨u,hu,_⟩:=h.get hx
  rw[Addr.add_lit,bB]
  refine⟨?_,hF j ?_⟩
  ·rw[World.cell?_alloc_at _ _ _ _ rfl]
   simp[List.getD,hu]
  ·rw[←hl]
   rcases bt j xs.length with hh|hh
   ·exact hh
   ·rw[fa hh] at hx;cases hx
 ·obtain⟨u,hu,hr⟩:=h.get hx
  simpa only[List.getD,hu,vk] using hr
theorem NP(g:Gh)(id:Nat)(v:Value)(n b j:Nat)(hb:v.ownBlock=some b)(hj:j<n):¬(g.tok id v n).F ⟨b,j,none⟩:=by
 rintro (⟨_,h⟩|⟨b',h1,h2,h3⟩)
 ·exact h ⟨hb,hj⟩
 ·have:n≤j:=h3
  omega
theorem pS(tok:TOk P tb){own:Bool}{t:TypeId}{n:Nat}{ps:List (Nat×Operand)}{ev:Operand→D}{k:D→Hp→Prop}(h:eN tb own t n (ps.map fun p=>(p.1,ev p.2)) hp k):
  ∃d' hp',k d' hp'∧∀(B:Nat) (g:Gh) (w:World) (ρ:Operand→Value),HR B hp g w→(∀p∈ps,aI hp g w (ev p.2) (ρ p.2))→
   ∃v g' w',(Instr.buildSlice t n (ps.map fun p=>(p.1,ρ p.2)).toArray).run P w=.ok v w'∧HR B hp' g' w'∧bC hp g w hp' g' w'∧aI hp' g' w' d' v∧Below B w w'∧∀p:Addr,p.block<B→g.F p→g'.F p:=by
 unfold eN at h
 split at h
 ·rename_i i qs ht hq
  split at h
  ·rename_i e j6
   have hu:=tok.slice ht j6
   split at h
   ·rename_i j he
    obtain⟨hz,hsm,h⟩:=h
    split at h
    ·obtain⟨rfl,hk⟩:=h
     refine⟨_,_,hk,fun B g w ρ hr hρ=>?_⟩
     have QA:ps=[]:=by
      cases ps with
      |nil=>rfl
      |cons p ps=>
       simp only[fx,lM] at hq
       split at hq <;> simp at hq
     subst QA
     have ho:(w.alloc (.cells #[] e)).ownsRow B e j.size (.slice (some ⟨w.heap.size,0,none⟩) 0 0) 0 []:=World.ownsRow_made w #[] 0 hr.base (by decide) (by simp)
     have hv:∀b,(Value.slice (some ⟨w.heap.size,0,none⟩) 0 0).ownBlock=some b→w.heap.size≤b:=fun b hb=>by
      simp[Value.ownBlock] at hb;omega
     have hsz:w.heap.size≤(w.alloc (.cells #[] e)).heap.size:=by simp
     refine⟨.slice (some ⟨w.heap.size,0,none⟩) 0 0,_,w.alloc (.cells #[] e),?_,hr.newTok (e:=(j.size,e)) hz hsz (fun b hb=>heap_alloc_old w _ hb) hv ho,bC.tok hp g hsz (fun b hb=>heap_alloc_old w _ hb) hv,?_,(Below.refl _ _).alloc hr.base _,fun p hp1 bQ=>Gh.tok_keep g _ (fun b hb=>cw hr.base (hv b hb)) p hp1 bQ⟩
     ·have hs:=tok.run_sizeOf he w
      have h00:∀f:Nat→Value,Array.map f (Array.range 0)=#[]:=fun f=>D4 (by simp)
      simp only[Instr.buildSlice,Sem.run_bind,run_underlying hu,Result.andThen_ok,hs,fP,i2,Instr.fill,h00]
      rfl
     ·refine .own _ _ _ _ _ (.sl _ 0 [] _ 0 (fun _=>undef) (by simp) hz (aD _) (by decide) (fun h=>absurd h (by omega)) (fun _ _ _ _ h=>by simp at h) (fun _ _ h=>by simp at h)) (cp _) (fun m e' hm=>?_)
      have:some (0,(j.size,e))=some (m,e'):=by rw[←hm];exact ak.symm
      injection this with this
      injection this with h1 h2
      subst h1;subst h2
      exact⟨aD _,rfl,fun _=>(ar rfl).symm⟩
    ·rename_i hn0
     split at h
     ·rename_i ds EO
      split at h
      ·rename_i xs hxs
       have main:∀(hp:Hp) (g:Gh) (w:World) (ρ:Operand→Value),(∀p:Addr,g.F p→p.block<w.heap.size)→(∀p∈ps,aI hp g w (ev p.2) (ρ p.2))→∃vs:List Value,(Instr.buildSlice t n (ps.map fun p=>(p.1,ρ p.2)).toArray).run P w=.ok (.slice (some ⟨w.heap.size,0,none⟩) n n) (w.alloc (.cells vs.toArray e))∧
         Pw (dq w g.F) xs vs∧xs.length=n*j.size∧n≤maxLen:=by
        intro hp g w ρ hfits hρ
        have hnp:0<n:=by
         rcases mJ n with h0|h0
         ·exact absurd h0 hn0
         ·exact h0
        obtain⟨zv,hzv,FK⟩:=tok.run_zero he w
        obtain⟨_,_,hzl,K0⟩:=tok e j he
        have hzb:∀u∈zv.cells,u.oneCell'=true:=fun u hu=>(by simpa using K0:∀u∈j.zero,u.oneCell'=true) u (by rw[←FK];simpa using hu)
        have hzs:zv.cells.size=j.size:=by rw[←hzl,←FK];simp
        obtain⟨h1,h2⟩:=uX hρ hq
        obtain⟨zl,hzl'⟩:∃zl,zl=((Array.range (n*j.size)).map (zv.cells[·% zv.cells.size]!)).toList:=⟨_,rfl⟩
        have hlen:zl.length=n*j.size:=by rw[hzl'];simp
        have hone:∀u∈zl,u.oneCell'=true:=by
         intro u hu
         rw[hzl'] at hu
         simp only[Array.toList_map,mw] at hu
         obtain⟨m,_,rfl⟩:=hu
         have bG:m % zv.cells.size<zv.cells.size:=ep _ (by omega)
         rw[f7 zv.cells _ bG]
         exact hzb _ (Array.getElem_mem _)
        have h0:=Pw.of_any (hp:=hp) (g:=g) (w:=w) zl hone
        rw[hlen] at h0
        obtain⟨vs,h3,h4⟩:=xi _ EO h0.1 h1
        have h5:=qY h3 h0.2 h2
        rw[hzl'] at h3
        have BR:=CF (parts:=ps.map fun p=>(p.1,ρ p.2)) h3
        have xD:=DO ⟨h4,h5⟩ hxs
        have fl:∀{α:Type} {place:Nat→Option (Nat×Nat)} {qs:List (Nat×List α)} {ds ds':List α},gU place ds qs=some ds'→ds'.length=ds.length:=by
         intro α place qs
         induction qs with
         |nil=>intro ds ds' h;simp only[gU,kZ] at h;rw[h]
         |cons q qs ih=>
          obtain⟨q1,q2⟩:=q
          intro ds ds' h
          unfold gU at h
          split at h
          ·cases h
          ·split at h
           ·cases h
           ·rw[ih h]
            simp only[eI,e6,ie]
            omega
        have An:xs.length=n*j.size:=by
         rw[xD.1,←h4.1,fl EO];simp
        have hsm2:¬n*j.size > 2 ^ 24:=by omega
        have qu:¬n*j.size=0:=by
         have:=tL hnp hz
         omega
        have Oj:n≤maxLen:=by
         have:n*1≤n*j.size:=t8 _ hz
         unfold maxLen;omega
        refine⟨vs,?_,xD,An,Oj⟩
        have hs:=tok.run_sizeOf he w
        simp only[Instr.buildSlice,Sem.run_bind,run_underlying hu,Result.andThen_ok,hs,aA hsm2,aA qu,hzv,Sem.run_pure]
        simp only[BR]
        rfl
       split at h
       ·refine⟨_,_,h,fun B g w ρ hr hρ=>?_⟩
        obtain⟨vs,bR,xD,An,Oj⟩:=main hp g w ρ hr.fits hρ
        have hvl:vs.length=n*j.size:=by rw[←xD.1,An]
        have Ci:∀b,(Value.slice (some ⟨w.heap.size,0,none⟩) n n).ownBlock=some b→w.heap.size≤b:=fun b hb=>by
         simp[Value.ownBlock] at hb;omega
        have hsz:w.heap.size≤(w.alloc (.cells vs.toArray e)).heap.size:=by simp
        have ho:(w.alloc (.cells vs.toArray e)).ownsRow B e j.size (.slice (some ⟨w.heap.size,0,none⟩) n n) n vs:=
         ⟨hvl,.inr ⟨w.heap.size,n,vs.toArray,rfl,hr.base,heap_alloc_new w _,aD _,Oj,by simpa using hvl,by simp[←hvl]⟩⟩
        have mo:bC hp g w (hp.tok n (j.size,e)) (g.tok hp.next (.slice (some ⟨w.heap.size,0,none⟩) n n) (n*j.size)) (w.alloc (.cells vs.toArray e)):=bC.tok hp g hsz (fun b hb=>heap_alloc_old w _ hb) Ci
        refine⟨_,_,_,bR,hr.newTok (e:=(j.size,e)) hz hsz (fun b hb=>heap_alloc_old w _ hb) Ci ho,mo,?_,(Below.refl _ _).alloc hr.base _,fun p hp1 bQ=>Gh.tok_keep g _ (fun b hb=>cw hr.base (Ci b hb)) p hp1 bQ⟩
        refine .own _ _ _ _ _ (dq.new' vs e hz An Oj (fun i hi=>NP g _ _ _ _ _ rfl hi) (xD.imp fun _ _ h=>mo.repE h)) (cp _) (fun m e' hm=>?_)
        rw[show (Hp.tok hp _ _).live.lookup _=_ from ak] at hm
        injection hm with hm
        injection hm with h1 h2
        subst h1;subst h2
        exact⟨aD _,rfl,fun _=>(ar rfl).symm⟩
       ·refine⟨_,_,h,fun B g w ρ hr hρ=>?_⟩
        obtain⟨vs,bR,xD,An,Oj⟩:=main hp g w ρ hr.fits hρ
        exact⟨_,g,_,bR,hr.keep (by simp) (fun b hb=>heap_alloc_old w _ hb),bC.keep hp g (by simp) (fun b hb=>heap_alloc_old w _ hb),.fu _ _ _ _ (dq.new vs e hz An Oj (fun p hp hf=>by have:=hr.fits p hf;omega) xD),(Below.refl _ _).alloc hr.base _,fun _ _ hp=>hp⟩
      ·cases h
     ·cases h
   ·cases h
  ·cases h
 ·cases h
theorem zX {t:TypeId}{n:Nat}{ps:List (Nat×D)}{k:D→Hp→Prop}(hn:n≠0)(h:eN tb false t n ps hp k):∃d,k d hp∧∀bQ,eN tb false t n ps bQ fun d' h'=>d'=d∧h'=bQ:=by
 unfold eN at h ⊢
 split at h
 ·split at h
  ·split at h
   ·obtain⟨hz,hsm,h⟩:=h
    split at h
    ·exact absurd rfl hn
    ·split at h
     ·split at h
      ·dsimp only at h
       exact⟨_,h,fun bQ=>by simp only[*,and_self]⟩
      ·cases h
     ·cases h
   ·cases h
  ·cases h
 ·cases h
theorem uz {own:Bool}{t:TypeId}{n:Nat}{ps:List (Nat×D)}{k:D→Hp→Prop}(h:eN tb own t n ps hp k):eN tb own t n ps hp fun d' h'=>k d' h'∧h'.vars=hp.vars∧hp.next≤h'.next:=by
 have h3:∀n e,(hp.tok n e).vars=hp.vars:=fun _ _=>rfl
 have h4:∀n e,hp.next≤(hp.tok n e).next:=fun _ _=>gN _
 have h5:=aD hp.next
 unfold eN at h ⊢
 split at h
 ·split at h
  ·split at h
   ·obtain⟨hz,hsm,h⟩:=h
    split at h
    ·obtain⟨h1,h2⟩:=h
     simp only[*,and_self]
    ·split at h
     ·split at h
      ·cases own
       ·dsimp only at h
        simp only[*,and_self]
       ·dsimp only at h
        simp only[*,and_self]
      ·cases h
     ·cases h
   ·cases h
  ·cases h
 ·cases h
theorem yf(tok:TOk P tb){s:TypeId}{f:Nat}{k:Nat→Nat→Bool→Prop}(h:rt tb s f k):
  ∃(fields:Array Field) (fd:Field) (j:TyE),P.underlying s=some (.struct fields)∧fields[f]? =some fd∧tb fd.type=some j∧k fd.offset j.size j.ty.agg:=by
 unfold rt at h
 split at h
 ·rename_i i ht
  split at h
  ·rename_i fs j6
   obtain⟨fields,hu,Ir⟩:=tok.struct ht j6
   split at h
   ·rename_i off t hf
    split at h
    ·rename_i j hj
     rw[←Ir,fO] at hf
     cases hfd:fields.toList[f]? with
     |none=>simp[hfd] at hf
     |some fd=>
      simp only[hfd,lc,kZ,Prod.mk.injEq] at hf
      obtain⟨h1,h2⟩:=hf
      subst h1;subst h2
      exact⟨fields,fd,j,hu,by simpa using hfd,hj,h⟩
    ·cases h
   ·cases h
  ·cases h
 ·cases h
theorem Bg(tok:TOk P tb){s:TypeId}{f:Nat}{d:D}{k:D→Prop}(h:qJ tb s f d k):
  ∃d',k d'∧∀(hp:Hp) (g:Gh) (w:World) (u:Value),aI hp g w d u→∃v,(Instr.fieldAt s u f).run P w=.ok v w∧aI hp g w d' v:=by
 unfold qJ at h
 obtain⟨fields,fd,j,hu,hf,hj,hz,h⟩:=yf tok h
 have bR:∀(w:World) (ad:Addr),(Instr.fieldAt s (.pointer (some ad)) f).run P w=.ok (.pointer (some (ad.add fd.offset))) w:=by
  intro w ad
  have hs:=tok.run_sizeOf hj w
  simp[Instr.fieldAt,run_underlying hu,hf,Instr.sureAddr,fieldPlace,hs,hz]
 split at h
 ·rename_i v off
  refine⟨_,h,fun hp g w u hr=>?_⟩
  cases hr with
  |pt _ _ hk=>
   refine⟨_,bR w _,?_⟩
   rw[Addr.add_lit]
   exact .pt _ _ hk
 ·rename_i xs off
  refine⟨_,h,fun hp g w u hr=>?_⟩
  cases hr with
  |fp _ _ ad hb hc=>
   refine⟨_,bR w _,?_⟩
   rw[qR]
   exact .fp _ _ ad hb hc
 ·cases h
theorem uV(tok:TOk P tb){t:TypeId}{j:TyE}(hj:tb t=some j)(ha:j.ty.agg=true)(cs:Array Value)(off:Nat)(w:World):(part t cs off).run P w=.ok (.agg (cs.extract off (off+j.size))) w:=by
 have h1:=tok.run_isAgg hj w
 have h2:=tok.run_sizeOf hj w
 rw[ha] at h1
 simp[part,h1,h2]
theorem uU(tok:TOk P tb){t:TypeId}{j:TyE}(hj:tb t=some j)(ha:j.ty.agg=false)(cs:Array Value)(off:Nat)(v:Value)(hv:cs[off]? =some v)(w:World):(part t cs off).run P w=.ok v w:=by
 have h1:=tok.run_isAgg hj w
 rw[ha] at h1
 simp[part,h1,hv]
theorem uA {ds:List D}{u:Value}(h:aI hp g w (.ag ds) u):∃cs:Array Value,u=.agg cs∧fk hp g w ds cs.toList:=by
 have hc:=h.cells (cs:=ds) rfl
 cases h with
 |ag _ cs hl h1 hr=>exact⟨cs,rfl,hc⟩
theorem yg {cs:Array Value}(off n:Nat):(cs.toList.drop off).take n=(cs.extract off (off+n)).toList:=by
 rw[Array.toList_extract,List.extract_eq_take_drop,Ka]
theorem Hn(tok:TOk P tb){s:TypeId}{f:Nat}{d:D}{k:D→Prop}(h:DG tb s f d k):
  ∃d',k d'∧∀(hp:Hp) (g:Gh) (w:World) (u:Value),aI hp g w d u→∃v,(Instr.field s u f).run P w=.ok v w∧aI hp g w d' v:=by
 unfold DG at h
 obtain⟨fields,fd,j,hu,hf,hj,h⟩:=yf tok h
 split at h
 ·rename_i ds
  split at h
  ·rename_i ha
   obtain⟨hle,hk⟩:=h
   refine⟨_,hk,fun hp g w u hr=>?_⟩
   obtain⟨cs,rfl,rL⟩:=uA hr
   refine⟨_,?_,((rL.drop fd.offset).take j.size).ag⟩
   have h1:=uV tok hj ha cs fd.offset w
   simp only[Instr.field,Sem.run_bind,run_underlying hu,Result.andThen_ok,hf,asAgg,Sem.run_pure,h1,yg]
  ·rename_i ha
   obtain⟨d',EQ,hk⟩:=h
   refine⟨_,hk,fun hp g w u hr=>?_⟩
   obtain⟨cs,rfl,rL⟩:=uA hr
   obtain⟨y,hy,dy⟩:=rL.1.get EQ
   refine⟨y,?_,dy⟩
   have h1:=uU tok hj ha cs fd.offset y (by simpa using hy) w
   simp only[Instr.field,Sem.run_bind,run_underlying hu,Result.andThen_ok,hf,asAgg,Sem.run_pure,h1]
 ·cases h
theorem A8(tok:TOk P tb){t:TypeId}{d i:D}{k:D→Prop}(h:qE tb t d i k):
  ∃d',k d'∧∀(hp:Hp) (g:Gh) (w:World) (u v:Value),aI hp g w d u→aI hp g w i v→∃r,(Instr.indexAt t u v).run P w=.ok r w∧aI hp g w d' r:=by
 unfold qE at h
 split at h
 ·rename_i ti kd x ht
  split at h
  ·rename_i e j6
   have hu:=tok.slice ht j6
   split at h
   ·rename_i j he
    split at h
    ·rename_i n xs ha
     obtain⟨⟨h0,h1⟩,hk⟩:=h
     refine⟨_,hk,fun hp g w u v hr hi=>?_⟩
     obtain rfl:=hi.lit
     obtain⟨A,c,rfl,dy⟩:=rx hr ha
     obtain⟨ad,rfl,hfp⟩:=dy.fp (hp:=hp) (show 0<n by omega)
     have hs:=tok.run_sizeOf he w
     exact⟨_,by simp[Instr.indexAt,asIntOf,run_underlying hu,hs,h0,h1],hfp _⟩
    ·split at h
     ·rename_i vv off z n
      obtain⟨rfl,⟨h0,h1⟩,hk⟩:=h
      refine⟨_,hk,fun hp g w u v hr hi=>?_⟩
      obtain rfl:=hi.lit
      cases hr with
      |ow _ _ _ _ c QY pl oF=>
       have hs:=tok.run_sizeOf he w
       refine⟨.pointer (some ((⟨_,_,none⟩:Addr).add (x.toNat*j.size))),?_,by rw[Addr.add_lit];exact .pt _ _ QY⟩
       simp[Instr.indexAt,asIntOf,run_underlying hu,hs,h0,h1]
     ·cases h
   ·cases h
  ·rename_i n e j6
   have hu:=tok.arr ht j6
   split at h
   ·rename_i j vv off he
    obtain⟨⟨h0,h1⟩,hk⟩:=h
    refine⟨_,hk,fun hp g w u v hr hi=>?_⟩
    obtain rfl:=hi.lit
    cases hr with
    |pt _ _ QY=>
     have hs:=tok.run_sizeOf he w
     refine⟨.pointer (some ((⟨_,_,none⟩:Addr).add (x.toNat*j.size))),?_,by rw[Addr.add_lit];exact .pt _ _ QY⟩
     simp[Instr.indexAt,asIntOf,run_underlying hu,Instr.sureAddr,hs,h0,h1]
   ·rename_i j xs off he
    obtain⟨⟨h0,h1⟩,hk⟩:=h
    refine⟨_,hk,fun hp g w u v hr hi=>?_⟩
    obtain rfl:=hi.lit
    cases hr with
    |fp _ _ ad hb hc=>
     have hs:=tok.run_sizeOf he w
     refine⟨.pointer (some ((ad.add off).add (x.toNat*j.size))),?_,?_⟩
     ·simp[Instr.indexAt,asIntOf,run_underlying hu,Instr.sureAddr,hs,h0,h1]
     ·rw[qR]
      exact .fp _ _ ad hb hc
   ·cases h
  ·cases h
 ·cases h
theorem GT(tok:TOk P tb){t:TypeId}{d i:D}{k:D→Prop}(h:A7 tb t d i k):
  ∃d',k d'∧∀(hp:Hp) (g:Gh) (w:World) (u v:Value),aI hp g w d u→aI hp g w i v→∃r,(Instr.index t u v).run P w=.ok r w∧aI hp g w d' r:=by
 unfold A7 at h
 split at h
 ·rename_i ti kd x ht
  split at h
  ·rename_i s j6
   have hu:=tok.str ht j6
   obtain⟨⟨h0,h1⟩,hk⟩:=h
   refine⟨_,hk,fun hp g w u v hr hi=>?_⟩
   obtain rfl:=hi.lit
   obtain rfl:=hr.lit
   refine⟨.int .u8 ((s.data.toList.getD x.toNat 0).toNat:Int),?_,.e _ _ (.lit _ rfl)⟩
   have bG:x.toNat<s.size:=by omega
   have Fb:s[x.toNat]? =some s[x.toNat]:=getElem?_pos s x.toNat bG
   have ze:s.data.toList.getD x.toNat 0=s[x.toNat]:=by
    have hlt':x.toNat<s.data.size:=bG
    rw[List.getD,yK,nh hlt']
    rfl
   simp only[Instr.index,Sem.run_bind,asIntOf,Sem.run_pure,Result.andThen_ok,run_underlying hu,ar h0,Fb,ze]
  ·rename_i n e ds j6
   have hu:=tok.arr ht j6
   split at h
   ·rename_i j he
    obtain⟨⟨h0,h1⟩,h⟩:=h
    have hs:=fun w=>tok.run_sizeOf he w
    split at h
    ·rename_i ha
     obtain⟨hle,hk⟩:=h
     refine⟨_,hk,fun hp g w u v hr hi=>?_⟩
     obtain rfl:=hi.lit
     obtain⟨cs,rfl,rL⟩:=uA hr
     refine⟨_,?_,((rL.drop (x.toNat*j.size)).take j.size).ag⟩
     have h2:=uV tok he ha cs (x.toNat*j.size) w
     have yb:0≤x∧x<(n:Int):=⟨h0,h1⟩
     simp only[Instr.index,asIntOf,Sem.run_bind,Sem.run_pure,run_underlying hu,Result.andThen_ok,ar yb,hs,h2,yg]
    ·rename_i ha
     obtain⟨d',EQ,hk⟩:=h
     refine⟨_,hk,fun hp g w u v hr hi=>?_⟩
     obtain rfl:=hi.lit
     obtain⟨cs,rfl,rL⟩:=uA hr
     obtain⟨y,hy,dy⟩:=rL.1.get EQ
     refine⟨y,?_,dy⟩
     have h2:=uU tok he ha cs (x.toNat*j.size) y (by simpa using hy) w
     have yb:0≤x∧x<(n:Int):=⟨h0,h1⟩
     simp only[Instr.index,asIntOf,Sem.run_bind,Sem.run_pure,run_underlying hu,Result.andThen_ok,ar yb,hs,h2]
   ·cases h
  ·cases h
 ·cases h
theorem GC(a b:ByteArray):(a.toList == b.toList)=decide (a=b):=by
 rw[Ee,beq_iff_eq,oK,ByteArray.toList_eq,ByteArray.toList_eq]
 constructor
 ·intro h
  cases a;cases b
  congr 1
  exact lW.1 h
 ·intro h;rw[h]
theorem Fm {op:BinOp}{j:IntKind}{a b:Int}{t:TypeId}{k:Value→Prop}(h:Hu op j a b k)(hs:op≠.shl∧op≠.shr):∃r,k r∧r.oneCell'=true∧∀w,(binOp op t (.int j a) (.int j b)).run P w=.ok r w:=by
 unfold Hu at h
 split at h
 all_goals first
  |(refine⟨_,h,rfl,fun w=>?_⟩;simp[binOp,Op.intArith,Op.intCmp,Op.intBits];done)
  |(obtain⟨hb,h⟩:=h;refine⟨_,h,rfl,fun w=>?_⟩;simp[binOp,Op.intDiv,hb];done)
  |(refine⟨_,h,rfl,fun w=>?_⟩;simp only[binOp,Op.intCmp,ne_eq,LG,BX,Sem.run_pure];congr 2;first|rfl|(rw[Ee];simp;done))
  |(refine⟨_,h,rfl,fun w=>?_⟩;simp only[binOp,Op.intCmp,ne_eq,LG,BX,Sem.run_pure];rfl)
  |(refine⟨_,h,rfl,fun w=>?_⟩;simp only[binOp,Op.intCmp,ne_eq,LG,BX,Sem.run_pure,Ea];rfl)
  |(cases h;done)
theorem LC {op:BinOp}{t:TypeId}{x y:Operand}{ev:Operand→D}{k:Value→Prop}(h:ru P op t (ev x) (ev y) k):
  ∃r,k r∧r.oneCell'=true∧∀(hp:Hp) (g:Gh) (w:World) (ρ:Operand→Value),aI hp g w (ev x) (ρ x)→aI hp g w (ev y) (ρ y)→(do eqGuard op t x y (ρ x) (ρ y);binOp op t (ρ x) (ρ y):Sem Value).run P w=.ok r w:=by
 have guard:∀(a b:Value) (w:World),(match a,b with| .nilIface,.nilIface=>False| .agg _,.agg _=>False|_,_=>True)→(eqGuard op t x y a b).run P w=.ok () w:=by
  intro a b w MX
  unfold eqGuard
  cases op <;> first|rfl|(cases a <;> cases b <;> first|rfl|exact MX.elim)
 unfold ru at h
 split at h
 ·rename_i j a kd b hx hy
  obtain⟨h0,h⟩:=h
  refine⟨_,h,rfl,fun hp g w ρ h1 h2=>?_⟩
  rw[hx] at h1
  rw[hy] at h2
  rw[Sem.run_bind,h1.lit,h2.lit,guard _ _ _ trivial]
  have:¬b<0:=by omega
  simp[binOp,Op.shift,this]
 ·rename_i j a kd b hx hy
  obtain⟨h0,h⟩:=h
  refine⟨_,h,rfl,fun hp g w ρ h1 h2=>?_⟩
  rw[hx] at h1
  rw[hy] at h2
  rw[Sem.run_bind,h1.lit,h2.lit,guard _ _ _ trivial]
  have:¬b<0:=by omega
  simp[binOp,Op.shift,this]
 ·rename_i j a j' b hs1 FM hx hy
  obtain⟨rfl,h⟩:=h
  obtain⟨r,hk,h1,bR⟩:=Fm (P:=P) (t:=t) h (by constructor <;> (intro e;subst e;simp_all))
  refine⟨r,hk,h1,fun hp g w ρ h1 h2=>?_⟩
  rw[hx] at h1
  rw[hy] at h2
  rw[Sem.run_bind,h1.lit,h2.lit,guard _ _ _ trivial]
  exact bR w
 ·rename_i a b hx hy
  unfold Nj at h
  split at h
  ·obtain⟨hl,h⟩:=h
   refine⟨_,h,rfl,fun hp g w ρ h1 h2=>?_⟩
   rw[hx] at h1
   rw[hy] at h2
   rw[Sem.run_bind,h1.lit,h2.lit,guard _ _ _ trivial]
   have hm:¬((a.size+b.size:Nat):Int) > IntKind.i64.max:=by
    have:IntKind.i64.max=9223372036854775807:=by decide
    omega
   simp only[Result.andThen_ok,binOp,Op.stringOp,aA hm,Sem.run_pure]
  ·refine⟨_,h,rfl,fun hp g w ρ h1 h2=>?_⟩
   rw[hx] at h1
   rw[hy] at h2
   rw[Sem.run_bind,h1.lit,h2.lit,guard _ _ _ trivial]
   simp only[Result.andThen_ok,binOp,Op.stringOp,Sem.run_pure,GC]
  ·refine⟨_,h,rfl,fun hp g w ρ h1 h2=>?_⟩
   rw[hx] at h1
   rw[hy] at h2
   rw[Sem.run_bind,h1.lit,h2.lit,guard _ _ _ trivial]
   simp only[Result.andThen_ok,binOp,Op.stringOp,Sem.run_pure,GC,Ea]
  ·cases h
 ·rename_i a b hx hy
  obtain⟨hub,h⟩:=h
  unfold J1 at h
  split at h
  ·refine⟨_,h,rfl,fun hp g w ρ h1 h2=>?_⟩
   rw[hx] at h1
   rw[hy] at h2
   rw[Sem.run_bind,h1.lit,h2.lit,guard _ _ _ trivial]
   simp only[Result.andThen_ok]
   exact run_eql_bool w t a b hub
  ·refine⟨_,h,rfl,fun hp g w ρ h1 h2=>?_⟩
   rw[hx] at h1
   rw[hy] at h2
   rw[Sem.run_bind,h1.lit,h2.lit,guard _ _ _ trivial]
   simp only[Result.andThen_ok]
   exact run_neq_bool w t a b hub
  ·cases h
 ·rename_i xs ys hx hy
  split at h
  ·rename_i us vs h3 h4
   obtain⟨r,bR,h1,hk⟩:=h
   refine⟨r,hk,h1,fun hp g w ρ h5 h6=>?_⟩
   have lits:∀{l:List D} {us:List Value} {v:Value},mv l=some us→aI hp g w (.ag l) v→v=.agg us.toArray:=by
    intro l us v hl hv
    obtain⟨cs,rfl,rL⟩:=uA hv
    have:∀(l:List D) (us cs:List Value),mv l=some us→Pw (aI hp g w) l cs→cs=us:=by
     intro l
     induction l with
     |nil=>
      intro us cs h1 h2
      simp only[mv,kZ] at h1
      rw[←h1]
      exact kY h2.1.symm
     |cons d l ih=>
      intro us cs h1 h2
      cases cs with
      |nil=>have:=h2.1;simp at this
      |cons c cs=>
       unfold mv at h1
       split at h1
       ·rename_i heq;cases heq
       ·rename_i v ds heq
        injection heq with e1 e2
        subst e1;subst e2
        cases hl:mv l with
        |none=>simp[hl] at h1
        |some v7=>
         simp only[hl,lc,kZ] at h1
         subst h1
         have hc:=(h2.2 0 _ _ rfl rfl:aI hp g w (.e (.lit v)) c).lit
         subst hc
         rw[ih v7 cs hl ⟨by have:=h2.1;simpa using this,fun j a b ha hb=>h2.2 (j+1) a b ha hb⟩]
       ·cases h1
    have:=this l us cs.toList hl rL.1
    rw[←this]
   rw[hx] at h5
   rw[hy] at h6
   rw[lits h3 h5,lits h4 h6]
   exact bR w
  ·cases h
 ·cases h
theorem NO {op:UnOp}{d:D}{k:Value→Prop}(h:unV op d k):∃r,k r∧r.oneCell'=true∧∀(hp:Hp) (g:Gh) (w:World) (u:Value),aI hp g w d u→(Op.unary op u).run P w=.ok r w:=by
 unfold unV at h
 split at h
 ·refine⟨_,h,rfl,fun hp g w u hu=>?_⟩
  rw[hu.lit]
  rfl
 ·refine⟨_,h,rfl,fun hp g w u hu=>?_⟩
  rw[hu.lit]
  rfl
 ·cases h
theorem DP:∀{xs:List E} {bs:List UInt8},xk xs=some bs→xs.length=bs.length∧∀(j:Nat) (b:UInt8),bs[j]? =some b→∃n:Int,xs[j]? =some (E.lit (.int .u8 n))∧b=UInt8.ofNat n.toNat
 |[],bs,h=>by
  simp only[xk,kZ] at h
  subst h
  exact⟨rfl,fun j b h=>by simp at h⟩
 |x::xs,bs,h=>by
  unfold xk at h
  split at h
  ·rename_i b bs' h1 h2
   injection h with h
   subst h
   obtain⟨hl,hj⟩:=DP h2
   refine⟨by simp[hl],fun j c hc=>?_⟩
   cases j with
   |zero=>
    simp only[LN,kZ] at hc
    subst hc
    unfold RP at h1
    split at h1
    ·injection h1 with h1
     exact⟨_,by simp,h1.symm⟩
    ·cases h1
   |succ j=>simpa using hj j c (by simpa using hc)
  ·cases h
theorem JU(tok:TOk P tb){s t:TypeId}{d:D}{k:D→Prop}(h:JV tb s t d k):∃r,k r∧∀(hp:Hp) (g:Gh) (w:World) (u:Value),aI hp g w d u→∃v,(convert s t u).run P w=.ok v w∧aI hp g w r v:=by
 unfold JV at h
 split at h
 ·rename_i i j hi hj
  obtain⟨ds,hs,_⟩:=tok.und hi
  split at h
  ·rename_i jk _ n j6
   refine⟨_,h,fun hp g w u hu=>⟨_,?_,.e _ _ (.lit _ rfl)⟩⟩
   rw[hu.lit]
   simp[convert,run_underlying hs,run_underlying (tok.int hj j6),Conv.intToInt]
  ·rename_i str j6
   refine⟨_,h,fun hp g w u hu=>⟨_,?_,.e _ _ (.lit _ rfl)⟩⟩
   rw[hu.lit]
   simp[convert,run_underlying hs,run_underlying (tok.str hj j6)]
  ·rename_i j6 _
   split at h
   ·rename_i e Js
    split at h
    ·rename_i l he
     obtain⟨hl,h⟩:=h
     split at h
     ·rename_i n xs ha
      split at h
      ·rename_i bs hb
       refine⟨_,h,fun hp g w u hu=>?_⟩
       obtain⟨A,c,hv,dy⟩:=rx hu ha
       subst hv
       obtain⟨hlen,hat⟩:=DP hb
       refine⟨_,?_,.e _ _ (.lit _ rfl)⟩
       rw[run_convert_bytes_string w s t e A n c (tok.slice hi Js) (tok.int he hl) (tok.str hj j6)]
       cases dy with
       |sl _ _ _ _ _ us An hz pl oF hA hc hr=>
        cases A with
        |none=>
         have hn:n=0:=by
          rcases mJ n with h0|h0
          ·exact h0
          ·obtain⟨ad,e,_⟩:=hA h0
           cases e
         subst hn
         have:bs=[]:=kY (by omega)
         subst this
         rfl
        |some a=>
         let ns:List Int:=xs.map fun x=>match x with
          | .lit (.int _ n)=>n
          |_=>0
         have zd:ns.length=n:=by simp only[ns,bW];omega
         have hload:(loadCells a n).run P w=.ok (ns.map (Value.int .u8)).toArray w:=by
          have:=run_loadCells_list (P:=P) w a (ns.map (Value.int .u8)) (fun j v hj=>by
           simp only[ns,rX,fO,pY] at hj
           obtain⟨x,hx,hv⟩:=hj
           have G2:j<bs.length:=by
            rw[←hlen]
            rcases bt j xs.length with h|h
            ·exact h
            ·rw[fa h] at hx;cases hx
           obtain⟨m,hm,_⟩:=hat j _ (i8 G2)
           rw[hx] at hm
           injection hm with hm
           subst hm
           obtain⟨h1,_⟩:=hc a rfl j _ hx
           rw[h1]
           have h2:=hr j _ hx
           generalize us j=y at h2
           cases h2
           rw[←hv]
           rfl)
          simpa[zd] using this
         rw[run_bytesToString w a n c ns hload,foldl_push_bytes]
         have:(ns.map fun n=>UInt8.ofNat n.toNat)=bs:=by
          apply vo
          intro j
          rcases bt j bs.length with h|h
          ·obtain⟨m,hm,hb⟩:=hat j _ (i8 h)
           rw[i8 h,hb]
           simp only[ns,rX,fO,hm,lc,Function.comp]
          ·rw[fa h,fa (by simp only[ns,bW];omega)]
         rw[this]
         simp[ByteArray.empty,ByteArray.emptyWithCapacity]
         rfl
      ·cases h
     ·cases h
    ·cases h
   ·cases h
  ·cases h
 ·cases h
end
end
section
section
variable {P:Program} {tb:TypeId→Option TyE} {hp:Hp} {g:Gh} {w:World} {B:Nat}
theorem KV(tok:TOk P tb){t:TypeId}{d:D}{k:Int→Prop}(h:Qa tb t d k):∃n,k n∧∀(hp:Hp) (g:Gh) (w:World) (ty:TypeId) (u:Value),aI hp g w d u→(Builtin.len_ #[t] ty #[u]).run P w=.ok (.int .i64 n) w:=by
 unfold Qa at h
 split at h
 ·rename_i ti ht
  split at h
  ·rename_i e j6
   have hu:=tok.slice ht j6
   split at h
   ·rename_i j he
    split at h
    ·rename_i n xs ha
     refine⟨_,h,fun hp g w ty u hr=>?_⟩
     obtain⟨A,c,rfl,_⟩:=rx hr ha
     simp[Builtin.len_,run_underlying hu,goInt]
    ·split at h
     ·refine⟨_,h,fun hp g w ty u hr=>?_⟩
      cases hr with
      |ow _ _ _ _ c QY pl oF=>simp[Builtin.len_,run_underlying hu,goInt]
     ·cases h
   ·cases h
  ·rename_i j6
   have hu:=tok.str ht j6
   split at h
   ·refine⟨_,h,fun hp g w ty u hr=>?_⟩
    rw[hr.lit]
    simp[Builtin.len_,run_underlying hu,goInt]
   ·cases h
  ·rename_i n e j6
   have hu:=tok.arr ht j6
   refine⟨_,h,fun hp g w ty u hr=>?_⟩
   simp[Builtin.len_,run_underlying hu,goInt]
  ·cases h
 ·cases h
inductive SK (P:Program) (t t':TypeId) (F:Addr→Prop) (w:World) (z:Nat):Option ByteArray→Value→Nat→List E→Prop
 |sl (A:Option Addr) (m c:Nat) (ys:List E) (h:dq w F (.sl z m ys) (.slice A m c)) (hd:t'=t):SK P t t' F w z none (.slice A m c) m ys
 |str (s:ByteArray) (hu:P.underlying t'=some .string) (hz:z=1):SK P t t' F w z (some s) (.string s) s.size (s.data.toList.map fun b=>.lit (bv b))
theorem Pr {x:D}{s:ByteArray}(h:x.strOf=some s):x=.e (.lit (.string s)):=by
 unfold D.strOf at h
 split at h
 ·injection h with h;rw[h]
 ·cases h
theorem I4(tok:TOk P tb){t t':TypeId}{z:Nat}{x:D}{k:Nat→List E→Prop}(h:zH tb t' z x k)(hx:x.strOf=none→t'=t):
  ∃m ys,k m ys∧∀(hp:Hp) (g:Gh) (w:World) (u:Value),aI hp g w x u→SK P t t' g.F w z x.strOf u m ys:=by
 unfold zH at h
 split at h
 ·rename_i i ht
  split at h
  ·rename_i s j6 hs
   obtain⟨hz,h⟩:=h
   refine⟨_,_,h,fun hp g w u hr=>?_⟩
   rw[hs]
   rw[Pr hs] at hr
   rw[hr.lit]
   exact .str s (tok.str ht j6) hz
  ·rename_i e j6 hs
   split at h
   ·rename_i m ys ha
    refine⟨_,_,h,fun hp g w u hr=>?_⟩
    rw[hs]
    obtain⟨A,c,rfl,dy⟩:=rx hr ha
    exact .sl A m c ys dy (hx hs)
   ·cases h
  ·cases h
 ·cases h
theorem yJ(tok:TOk P tb){t t' e:TypeId}{ti j:TyE}(ht:tb t=some ti)(j6:ti.ty=.slice e)(he:tb e=some j)(G1:0<j.size){so:Option ByteArray}{u:Value}{m:Nat}{ys:List E}(hn:SK P t t' g.F w j.size so u m ys)
  (Jr:so≠none→j.bytes=1∧j.zero=[.int .u8 0]∧j.ty.agg=false) (ty:TypeId) (v:Value) (n:Nat) (xs:List Value) (lj:w.ownsRow B e j.size v n xs) (iq:(n+m)*max 1 j.bytes≤140737488355328) (hB:B≤w.heap.size):
  ∃v' w' news,(Builtin.append_ #[t,t'] ty #[v,u]).run P w=.ok v' w'∧w'.ownsRow B e j.size v' (n+m) (xs++news)∧BE w v m w' v'∧Pw (dq w g.F) ys news∧ys.length=m*j.size:=by
 have hu:=tok.slice ht j6
 obtain⟨f,z,hi,Ir,hfb,hfz,FK,hza⟩:=tok.inf he
 have h1:n+m≤140737488355328:=cw (yQ _ (by omega)) iq
 have h2:(n+m)*j.bytes≤140737488355328:=cw (t8 _ (HI _ _)) iq
 have h3:n+m≤maxLen:=by unfold maxLen;omega
 cases hn with
 |sl A _ c _ dy hd=>
  subst hd
  obtain⟨hl,hz,pl,oF,hA,us,MQ,hc,hp⟩:=dy.reads
  obtain⟨v',w',bR,ho,ha⟩:=C2 (P:=P) w B t' ty e f z j.size j.bytes hu hi hfz Ir hfb (by rw[←(tok e j he).2.2.1,←FK];simp) G1 v n xs lj A m c us MQ (fun hm=>by obtain⟨ad,e,_⟩:=hA hm;exact⟨ad,e⟩)
   (fun a ha j' u hu=>(hc a ha j' u hu).1) (fun u hu=>by
    obtain⟨i,hi⟩:=wK hu
    have bG:i<ys.length:=by
     rw[hp.1]
     rcases bt i us.length with hh|hh
     ·exact hh
     ·rw[fa hh] at hi;cases hi
    exact (hp.2 i _ u (i8 bG) hi).one) h3 h2 hB
  exact⟨v',w',us,bR,ho,ha,hp,hl⟩
 |str s Og hz=>
  obtain⟨eF,K0,hag⟩:=Jr (by simp)
  have hz0:f.zero=some (.int .u8 0):=by
   rw[hfz]
   congr 1
   rw[K0] at FK
   rw[hag] at hza
   cases z <;> simp_all [Value.cells,Value.isAggV]
  rw[hz] at lj ⊢
  obtain⟨v',w',bR,ho,ha⟩:=yx (P:=P) w B t t' ty e f hu Og hi hz0 (by rw[Ir,hz]) (by rw[hfb,eF]) v n xs lj s h3 h1 hB
  have hlen:s.data.toList.length=s.size:=by rw[eK];rfl
  refine⟨v',w',_,bR,ho,ha,⟨by simp[Lib.strCells],fun i a b hia hib=>?_⟩,by rw[bW,hlen,z5]⟩
  rw[BK,fO] at hib
  rw[fO] at hia
  cases hc:s.data.toList[i]? with
  |none=>simp[hc] at hia
  |some c=>
   simp only[hc,lc,kZ] at hia hib
   subst hia;subst hib
   exact .lit _ rfl
theorem dq.appended {F':Addr→Prop}{w':World}{e:TypeId}{z n m:Nat}{v':Value}{xs ys:List E}{us news:List Value}(hz:0<z)(uG:w'.ownsRow B e z v' (n+m) (us++news))(hx:Pw (dq w' F') xs us)(hy:Pw (dq w' F') ys news)
  (hF:∀b j,v'.ownBlock=some b→j<(n+m)*z→¬F' ⟨b,j,none⟩):dq w' F' (.sl z (n+m) (xs++ys)) v':=by
 have hp:=hx.append hy
 have hl:=uG.1
 rcases uG.2 with⟨rfl,h0⟩|⟨b,cap,cur,rfl,_,hh,pl,oF,rL,ht⟩
 ·rw[h0] at hl ⊢
  have:xs++ys=[]:=kY (by rw[hp.1,hl];simp)
  rw[this]
  exact .sl z 0 [] none 0 (fun _=>undef) (by simp) hz (aD _) (by decide) (fun h=>absurd h (by omega)) (fun _ h=>by cases h) (fun _ _ h=>by simp at h)
 ·have bG:b<w'.heap.size:=(ey.1 hh).1
  refine .sl z (n+m) _ _ cap (fun j=>(us++news).getD j undef) (by rw[hp.1,hl]) hz pl oF (fun _=>⟨_,rfl,bG⟩) (fun ad ha j x hxj=>?_) (fun j x hxj=>?_)
  ·injection ha with ha
   subst ha
   obtain⟨u,hu,_⟩:=hp.get hxj
   have hj:j<(n+m)*z:=by
    rw[←hl]
    rcases bt j (us++news).length with h|h
    ·exact h
    ·rw[fa h] at hu;cases hu
   rw[Addr.add_lit,bB]
   refine⟨?_,hF b j rfl hj⟩
   simp only[List.getD,hu,vk,World.cell?,hh]
   rw[←ht,ez,ar hj] at hu
   simpa using hu
  ·obtain⟨u,hu,hr⟩:=hp.get hxj
   simpa only[List.getD,hu,vk] using hr
theorem N3 {e:TypeId}{z n:Nat}{v:Value}{xs:List E}{us:List Value}{F:Addr→Prop}(ho:w.ownsRow B e z v n us)(h:dq w F (.sl z n xs) v):Pw (dq w F) xs us:=by
 rcases ho.2 with⟨rfl,h0⟩|⟨b,cap,cur,rfl,_,hh,pl,oF,rL,ht⟩
 ·subst h0
  obtain⟨hl,_⟩:=h.reads
  have h1:xs=[]:=kY (by simpa using hl)
  have h2:us=[]:=kY (by simpa using ho.1)
  subst h1;subst h2
  exact Pw.nil
 ·obtain⟨hl,hz,_,_,hA,v7,QW,hc,hp⟩:=h.reads
  have:v7=us:=by
   apply vo
   intro j
   rcases bt j (n*z) with hj|hj
   ·have h1:v7[j]? =some v7[j]:=i8 (by omega)
    obtain⟨h2,_⟩:=hc _ rfl j _ h1
    rw[h1,←ht,ez,ar hj]
    rw[Addr.add_lit,bB] at h2
    simp only[World.cell?,hh] at h2
    simpa using h2.symm
   ·rw[fa (by omega),fa (by rw[ho.1];omega)]
  rw[←this]
  exact hp
theorem BE.below {v v':Value}{m:Nat}{w':World}(h:BE w v m w' v')(hB:B≤w.heap.size)(hv:∀b,v.ownBlock=some b→B≤b):Below B w w':=by
 cases h with
 |same _ hw _=>rw[hw];exact Below.refl _ _
 |place b _ hb _ hg _ _=>exact (Below.refl _ _).grown hg hB (fun k hk=>by injection hk with hk;subst hk;exact hv _ hb)
 |fresh _ hg _=>exact (Below.refl _ _).grown hg hB (fun k hk=>by cases hk)
theorem BE.block {v v':Value}{m:Nat}{w':World}(h:BE w v m w' v'):∀b,v'.ownBlock=some b→v.ownBlock=some b∨w.heap.size≤b:=by
 intro b hb
 cases h with
 |same _ _ hv=>rw[hv] at hb;exact .inl hb
 |place b' _ hv xh _ _ _=>rw[xh] at hb;rw[hv];exact .inl hb
 |fresh _ _ xh=>rw[xh] at hb;injection hb with hb;exact .inr (by omega)
theorem CU(g:Gh)(id:Nat)(v:Value)(n b j:Nat)(hb:v.ownBlock=some b)(hj:j<n):¬(g.tok id v n).F ⟨b,j,none⟩:=by
 rintro (⟨_,h⟩|⟨b',h1,h2,h3⟩)
 ·exact h ⟨hb,hj⟩
 ·have:n≤j:=h3
  omega
theorem J6(tok:TOk P tb){t t' e:TypeId}{ti j:TyE}(ht:tb t=some ti)(j6:ti.ty=.slice e)(he:tb e=some j)(G1:0<j.size){so:Option ByteArray}{u:Value}{m:Nat}{ys:List E}(hn:SK P t t' g.F w j.size so u m ys)
  (Jr:so≠none→j.bytes=1∧j.zero=[.int .u8 0]∧j.ty.agg=false) (ty:TypeId) {A:Option Addr} {n:Nat} {xs:List E} (dy:dq w g.F (.sl j.size n xs) (.slice A n n)) (hm:0<m) (iq:(n+m)*max 1 j.bytes≤140737488355328) (hB:B≤w.heap.size):
  ∃r w' us news,(Builtin.append_ #[t,t'] ty #[.slice A n n,u]).run P w=.ok r w'∧w'.ownsRow B e j.size r (n+m) (us++news)∧w.grownBy w' none∧r.ownBlock=some w.heap.size∧Pw (dq w g.F) xs us∧Pw (dq w g.F) ys news:=by
 cases A with
 |none=>
  obtain⟨hl,_,_,_,hA,_⟩:=dy.reads
  have h0:n=0:=by
   rcases mJ n with h|h
   ·exact h
   ·obtain⟨_,h1,_⟩:=hA h;cases h1
  subst h0
  have hx:xs=[]:=kY (by simpa using hl)
  subst hx
  obtain⟨r,w',news,bR,ho,ha,xD,_⟩:=yJ tok ht j6 he G1 hn Jr ty _ _ _ (World.ownsRow_nil w B e j.size) iq hB
  cases ha with
  |same h _ _=>omega
  |place b _ hv _ _ _ _=>cases hv
  |fresh _ hg hv=>exact⟨r,w',[],news,bR,ho,hg,hv,Pw.nil,xD⟩
 |some ad=>
  have hu:=tok.slice ht j6
  obtain⟨f,z,hi,Ir,hfb,hfz,FK,hza⟩:=tok.inf he
  have hzs:z.cells.size=j.size:=by rw[←(tok e j he).2.2.1,←FK];simp
  have h1:n+m≤140737488355328:=cw (yQ _ (by omega)) iq
  have h2:(n+m)*j.bytes≤140737488355328:=cw (t8 _ (HI _ _)) iq
  have h3:n+m≤maxLen:=by unfold maxLen;omega
  obtain⟨hl,_,_,_,_,us,MQ,hc,hpx⟩:=dy.reads
  have holds:∀i u,us[i]? =some u→w.cell? (ad.add i)=some u:=fun i u hu=>(hc ad rfl i u hu).1
  have grown:∀(news:List Value),news.length=m*j.size→
    (w.drew.alloc (.cells (us.toArray++news.toArray++Builtin.zeroCells z.cells (grownCap w (n+m) n e - (n+m))) e)).ownsRow B e j.size
     (.slice (some ⟨w.heap.size,0,none⟩) (n+m) (grownCap w (n+m) n e)) (n+m) (us++news)∧
    w.grownBy (w.drew.alloc (.cells (us.toArray++news.toArray++Builtin.zeroCells z.cells (grownCap w (n+m) n e - (n+m))) e)) none:=by
   intro news zd
   have ze:=grownCap_ge w (n+m) n e
   have oF:grownCap w (n+m) n e≤maxLen:=grownCap_le_maxLen w (n+m) n e h3
   have hlen:(us++news).length=(n+m)*j.size:=by rw[eI,MQ,zd,bZ]
   refine⟨⟨hlen,.inr ⟨w.heap.size,_,_,rfl,hB,heap_alloc_new w.drew _,ze,oF,?_,?_⟩⟩,⟨rfl,rfl,rfl,by simp,fun k hk _=>heap_alloc_old w.drew _ hk⟩⟩
   ·simp only[Br,my,size_zeroCells,hzs,MQ,zd,←bZ]
    congr 1
    omega
   ·simp only[HU,fy]
    rw[←fy,←hlen]
    exact rP
  cases hn with
  |sl A' _ c _ sO hd=>
   subst hd
   obtain⟨QW,hz',hnc',hcm',MY,v7,hul',Rg,hpy⟩:=sO.reads
   obtain⟨ad',rfl,_⟩:=MY hm
   have hr:=run_append_grow (P:=P) w t' ty e f z hu hi hfz ad n n us (by rw[MQ,Ir]) holds ad' m c v7 (by rw[hul',Ir]) (fun i u hu=>(Rg ad' rfl i u hu).1) (by omega) (by omega) (by rw[hfb];exact growslice_fits (by omega) h2)
   have FO:=grown v7 hul'
   exact⟨_,_,us,v7,hr,FO.1,FO.2,rfl,hpx,hpy⟩
  |str s Og hz=>
   obtain⟨eF,K0,hag⟩:=Jr (by simp)
   have hz0:f.zero=some (.int .u8 0):=by
    rw[hfz]
    congr 1
    rw[K0] at FK
    rw[hag] at hza
    cases z <;> simp_all [Value.cells,Value.isAggV]
   have hzz:z=.int .u8 0:=by rw[hfz] at hz0;injection hz0
   have hlen:s.data.toList.length=s.size:=by rw[eK];rfl
   have hr:=Lib.run_append_grow_string (P:=P) w t t' ty e f (.int .u8 0) hu Og hi hz0 ad n n us (by rw[MQ,Ir]) holds s (by omega) (by omega) (by rw[hfb];exact growslice_fits (by omega) h2)
   have FO:=grown (Lib.strCells s) (by rw[Lib.strCells_length,hz,z5])
   rw[hzz] at FO
   refine⟨_,_,us,Lib.strCells s,hr,FO.1,FO.2,rfl,hpx,⟨by simp[Lib.strCells],fun i a b hia hib=>?_⟩⟩
   rw[BK,fO] at hib
   rw[fO] at hia
   cases hc:s.data.toList[i]? with
   |none=>simp[hc] at hia
   |some c=>
    simp only[hc,lc,kZ] at hia hib
    subst hia;subst hib
    exact .lit _ rfl
theorem Fp(tok:TOk P tb){t t':TypeId}{s x:D}{k:D→Hp→Prop}(h:tI tb t t' s x hp k):
  ∃d' hp',k d' hp'∧∀(B:Nat) (g:Gh) (w:World) (ty:TypeId) (u v:Value),HR B hp g w→aI hp g w s u→aI hp g w x v→
   ∃r g' w',(Builtin.append_ #[t,t'] ty #[u,v]).run P w=.ok r w'∧HR B hp' g' w'∧bC hp g w hp' g' w'∧aI hp' g' w' d' r∧Below B w w'∧∀p:Addr,p.block<B→g.F p→g'.F p:=by
 unfold tI at h
 split at h
 ·rename_i ti ht
  split at h
  ·rename_i e j6
   split at h
   ·rename_i j he
    obtain⟨G1,htt,Jr,h⟩:=h
    obtain⟨m,ys,h,sP⟩:=I4 tok h htt
    split at h
    ·rename_i id z n xs
     obtain⟨rfl,fW,iq,hk⟩:=h
     refine⟨_,_,hk,fun B g w ty u v hr hu hv=>?_⟩
     cases hu with
     |own _ _ _ _ _ dy hid htok=>
      have huτ:=(htok _ _ fW).2.2 rfl
      obtain⟨_,us,_,ho,hF⟩:=hr.tok _ _ _ fW
      subst huτ
      obtain⟨r,w',news,bR,uG,ha,xD,hyl⟩:=yJ tok ht j6 he G1 (sP hp g w v hv) Jr ty _ _ us ho iq hr.base
      have It:=fun b hb=>(hF b hb).1
      have mo:=bC.app (hp:=hp) (g:=g) fW ho It uG ha
      have rD:=hr.app G1 fW ho It uG ha
      have lj:∀b,(g.τ _).ownBlock=some b→B≤b:=fun b hb=>(ho.lt b hb).1
      refine⟨r,_,w',bR,rD,mo,?_,ha.below hr.base lj,fun p hp1 bQ=>Gh.tok_keep g _ (fun b hb=>?_) p hp1 bQ⟩
      ·have hx:=(N3 ho dy).imp (fun _ _ h=>mo.repE h)
       have hy:=xD.imp (fun _ _ h=>mo.repE h)
       refine .own _ _ _ _ _ (dq.appended G1 uG hx hy (fun b j' hb hj=>CU g _ r _ b j' hb hj)) hid (fun m' e' hm=>?_)
       rw[show (Hp.app hp _ _ _).live.lookup _=_ from ak] at hm
       injection hm with hm
       injection hm with h1 h2
       subst h1;subst h2
       exact⟨aD _,rfl,fun _=>(ar rfl).symm⟩
      ·rcases ha.block b hb with h|h
       ·exact lj b h
       ·exact cw hr.base h
    ·obtain⟨iq,hk⟩:=h
     refine⟨_,_,hk,fun B g w ty u v hr hu hv=>?_⟩
     rw[hu.lit]
     obtain⟨r,w',news,bR,uG,ha,xD,hyl⟩:=yJ tok ht j6 he G1 (sP hp g w v hv) Jr ty _ _ _ (World.ownsRow_nil w B e j.size) (by simpa using iq) hr.base
     simp only[bB,qw] at uG
     have hsz:=ha.size
     have hold:∀b,b<w.heap.size→w'.heap[b]? =w.heap[b]? :=by
      intro b hb
      cases ha with
      |same _ hw _=>rw[hw]
      |place b' _ xh _ _ _ _=>cases xh
      |fresh _ hg _=>exact hg.block b hb (by simp)
     have Ci:∀b,r.ownBlock=some b→w.heap.size≤b:=fun b hb=>by
      rcases ha.block b hb with h|h
      ·cases h
      ·exact h
     have mo:bC hp g w (hp.tok m (j.size,e)) (g.tok hp.next r (m*j.size)) w':=bC.tok hp g hsz hold Ci
     have rD:=hr.newTok (e:=(j.size,e)) G1 hsz hold Ci uG
     refine⟨r,_,w',bR,rD,mo,?_,ha.below hr.base (fun b hb=>by cases hb),fun p hp1 bQ=>Gh.tok_keep g _ (fun b hb=>cw hr.base (Ci b hb)) p hp1 bQ⟩
     have hy:=xD.imp (fun _ _ h=>mo.repE h)
     have tZ:=dq.appended (F':=(g.tok hp.next r (m*j.size)).F) (n:=0) (m:=m) (xs:=[]) (us:=[]) G1 (by simpa using uG) Pw.nil hy (fun b j' hb hj=>CU g _ r _ b j' hb (by simpa using hj))
     simp only[bB,qw] at tZ
     refine .own _ _ _ _ _ tZ (cp _) (fun m' e' hm=>?_)
     rw[show (Hp.tok hp _ _).live.lookup _=_ from ak] at hm
     injection hm with hm
     injection hm with h1 h2
     subst h1;subst h2
     exact⟨aD _,rfl,fun _=>(ar rfl).symm⟩
    ·rename_i z n xs _
     obtain⟨hzz,hm,iq,hk⟩:=h
     refine⟨_,_,hk,fun B g w ty u v hr hu hv=>?_⟩
     cases hu with
     |fu _ _ _ A dy=>
      subst hzz
      obtain⟨r,w',us,news,bR,uG,hg,hrb,hpx,hpy⟩:=J6 tok ht j6 he G1 (sP hp g w v hv) Jr ty dy hm iq hr.base
      have hold:∀b,b<w.heap.size→w'.heap[b]? =w.heap[b]? :=fun b hb=>hg.block b hb (by simp)
      have Ci:∀b,r.ownBlock=some b→w.heap.size≤b:=fun b hb=>by rw[hrb] at hb;injection hb with hb;omega
      have mo:bC hp g w (hp.tok (n+m) (j.size,e)) (g.tok hp.next r ((n+m)*j.size)) w':=bC.tok hp g hg.size hold Ci
      have rD:=hr.newTok (e:=(j.size,e)) G1 hg.size hold Ci uG
      refine⟨r,_,w',bR,rD,mo,?_,(Below.refl _ _).grown hg hr.base (fun k hk=>by cases hk),fun p hp1 bQ=>Gh.tok_keep g _ (fun b hb=>cw hr.base (Ci b hb)) p hp1 bQ⟩
      have tZ:=dq.appended (F':=(g.tok hp.next r ((n+m)*j.size)).F) G1 uG (hpx.imp fun _ _ h=>mo.repE h) (hpy.imp fun _ _ h=>mo.repE h) (fun b j' hb hj=>CU g _ r _ b j' hb hj)
      refine .own _ _ _ _ _ tZ (cp _) (fun m' e' hm=>?_)
      rw[show (Hp.tok hp _ _).live.lookup _=_ from ak] at hm
      injection hm with hm
      injection hm with h1 h2
      subst h1;subst h2
      exact⟨aD _,rfl,fun _=>(ar rfl).symm⟩
    ·cases h
   ·cases h
  ·cases h
 ·cases h
end
end
section
section
variable {P:Program} {tb:TypeId→Option TyE}
def qm(P:Program)(o:Oper)(ev:Operand→D)(hp:Hp)(d:D)(hp':Hp):Prop:=
 ∀(B:Nat) (g:Gh) (w:World) (a:Act) (Kn:Act→World→Prop) (Q:Exit→Act→World→Prop),HR B hp g w→(∀x∈o.op.operands,aI hp g w (ev x) (a.eval x))→
  (∀v g' w',HR B hp' g' w'→bC hp g w hp' g' w'→aI hp' g' w' d v→Below B w w'→(∀p:Addr,p.block<B→g.F p→g'.F p)→Kn (a.put o.dst v) w')→o.wp P a w Kn Q
def oC:Op→Bool
 | .sliceToArrayPointer ..=>true
 | .move _| .nilCheck _| .makeFunc .. | .pick .. | .build .. | .load .. | .binOp .. | .unOp .. | .convert .. | .slice .. | .fieldAddr .. | .field .. | .indexAddr .. | .index .. | .extract ..=>true
 | .buildSlice _ n _=>n != 0
 | .call c=>match c.callee with
  | .builtin .append=>false
  | .builtin .copy=>false
  | .builtin _=>true
  |_=>false
 |_=>false
def refT(tb:TypeId→Option TyE)(t:TypeId):Bool:=
 match tb t with
 |some i=>match i.ty with
  | .slice e=>match tb e with
   |some j=>j.zero.any fun v=>match v with
    | .pointer _=>true
    | .slice ..=>j.size != 1
    |_=>false
   |none=>false
  |_=>false
 |none=>false
def cpB(tb:TypeId→Option TyE)(c:Call):Bool:=match c.callee with
 | .builtin .copy=>true
 | .builtin .append=>(c.argTypes[0]?).any (refT tb)
 |_=>false
def KU(tb:TypeId→Option TyE):Op→Bool
 | .buildSlice t _ _=>refT tb t
 |_=>false
def varB(tb:TypeId→Option TyE):Op→Bool
 | .alloc _| .box .. | .store .. | .makeSlice ..=>true
 | .call c=>hvB tb c||cpB tb c
 |_=>false
theorem hvOf {tb:TypeId→Option TyE}{x:Operand}{args:Array Operand}{ts:Array TypeId}(h:(hvB tb ⟨.value x,args,ts⟩||cpB tb ⟨.value x,args,ts⟩)=false):hvB tb ⟨.value x,args,ts⟩=false:=by
 simpa[cpB] using h
def II(tb:TypeId→Option TyE):Op→Bool
 | .box .. | .store ..=>true
 | .call c=>hvB tb c||cpB tb c
 |_=>false
def qr:Op→Bool
 | .load ..=>true
 |_=>false
def D.un:D→D
 | .opt b d=>bif b then d.un else .top
 |d=>d
theorem aI.un {hp:Hp}{g:Gh}{w:World}{d:D}{v:Value}(h:aI hp g w d v):aI hp g w d.un v:=by
 induction h with
 |opt b d v hi h ih=>
  unfold D.un
  cases b
  ·exact .top _
  ·exact ih rfl
 |e x v h=>exact .e x v h
 |own id z n xs v h hid ht=>exact .own id z n xs v h hid ht
 |fu z n xs A h=>exact .fu z n xs A h
 |ag ds cs hl h1 hr ih=>exact .ag ds cs hl h1 hr
 |tu ds cs hl hr ih=>exact .tu ds cs hl hr
 |fp xs off ad hb hc=>exact .fp xs off ad hb hc
 |pt k off hk=>exact .pt k off hk
 |ow k off z n c hk h1 h2=>exact .ow k off z n c hk h1 h2
 |gw k z n c hk h1 h2 hs=>exact .gw k z n c hk h1 h2 hs
 |fn f ks hk=>exact .fn f ks hk
 |top v=>exact .top v
def SO(o:Oper)(ev:Operand→D)(hp bQ:Hp):Prop:=∀x∈o.op.operands,∀j off,(ev x).un=.pt j off→bQ.vars.lookup j=hp.vars.lookup j
def LdLt(o:Oper)(ev:Operand→D)(hp:Hp):Prop:=∀x∈o.op.operands,∀j off,(ev x).un=.pt j off→j<hp.next
def Fr(hp hp':Hp):Prop:=hp.next≤hp'.next∧∀j,j<hp.next→hp'.vars.lookup j=hp.vars.lookup j
theorem Fr.refl(hp:Hp):Fr hp hp:=⟨aD _,fun _ _=>rfl⟩
theorem Fr.of {hp hp':Hp}(h:hp'.vars=hp.vars∧hp.next≤hp'.next):Fr hp hp':=⟨h.2,fun _ _=>by rw[h.1]⟩
structure Snd(P:Program)(tb:TypeId→Option TyE)(dr:Bool)(o:Oper)(ev:Operand→D)(hp:Hp)(d:D)(hp':Hp):Prop where
 ok:qm P o ev hp d hp'
 quiet:dr=true→oC o.op=true→hp'=hp∧∀bQ:Hp,(qr o.op=true→SO o ev hp bQ)→qm P o ev bQ d bQ
 fr:II tb o.op=false→Fr hp hp'
 lk:qr o.op=true→LdLt o ev hp
def sW(tb:TypeId→Option TyE)(L:List FuncId):Op→Bool
 | .call c=>(match c.callee with
  | .value (.func f)=>L.elem f
  |_=>false)&&!hvB tb c
 |_=>false
def inL(L:List FuncId):Op→Bool
 | .call c=>match c.callee with
  | .value (.func f)=>L.elem f
  |_=>false
 |_=>false
theorem Dj {tb:TypeId→Option TyE}{L:List FuncId}{op:Op}(h:inL L op=false):sW tb L op=false:=by
 cases op with
 |call c=>
  show ((match c.callee with| .value (.func f)=>L.elem f|_=>false)&&!hvB tb c)=false
  have h2:(match c.callee with| .value (.func f)=>L.elem f|_=>false)=false:=h
  rw[h2];rfl
 |_=>rfl
def yr(tb:TypeId→Option TyE)(L:List FuncId)(op:Op):Bool:=II tb op&&!inL L op
theorem varL_C {tb:TypeId→Option TyE}{L:List FuncId}{op:Op}(h:yr tb L op=true):II tb op=true:=by
 unfold yr at h;rw[mf] at h;exact h.1
def gZ(tb:TypeId→Option TyE)(L:List FuncId)(op:Op):Bool:=(oC op&&!KU tb op)||sW tb L op
inductive Md where
 |seq
 |any (L:List FuncId)
def Md.dr:Md→Bool
 | .seq=>false
 | .any _=>true
def Md.qt(tb:TypeId→Option TyE):Md→Op→Bool
 | .seq,_=>false
 | .any L,op=>gZ tb L op
def Md.nc(_:TypeId→Option TyE):Md→Op→Bool
 | .seq,_=>true
 | .any L,op=>!inL L op
def Md.vr(tb:TypeId→Option TyE):Md→Op→Bool
 | .seq,op=>II tb op
 | .any L,op=>yr tb L op
theorem Md.vr_C {tb:TypeId→Option TyE}{md:Md}{op:Op}(hn:md.nc tb op=true)(h:md.vr tb op=false):II tb op=false:=by
 cases md with
 |seq=>exact h
 |any L=>
  have h1:(II tb op&&!inL L op)=false:=h
  have h2:(!inL L op)=true:=hn
  rwa[h2,j7] at h1
structure nT(P:Program)(tb:TypeId→Option TyE)(md:Md)(o:Oper)(ev:Operand→D)(hp:Hp)(d:D)(hp':Hp):Prop where
 ok:qm P o ev hp d hp'
 quiet:md.qt tb o.op=true→hp'=hp∧∀bQ:Hp,(qr o.op=true→SO o ev hp bQ)→qm P o ev bQ d bQ
 fr:md.vr tb o.op=false→Fr hp hp'
 lk:qr o.op=true→LdLt o ev hp
theorem Snd.q {md:Md}{o:Oper}{ev:Operand→D}{hp hp':Hp}{d:D}(h:Snd P tb md.dr o ev hp d hp')(hn:md.nc tb o.op=true):nT P tb md o ev hp d hp':=by
 refine⟨h.ok,fun hq=>?_,fun hv=>h.fr (Md.vr_C hn hv),h.lk⟩
 cases md with
 |seq=>cases hq
 |any L=>
  have h1:((oC o.op&&!KU tb o.op)||sW tb L o.op)=true:=hq
  have h2:(!inL L o.op)=true:=hn
  refine h.quiet rfl ?_
  rw[Dj (by rwa[yM] at h2),Bool.or_false,mf] at h1
  exact h1.1
theorem Snd.calmL {dr:Bool}{o:Oper}{ev:Operand→D}{hp:Hp}{d:D}(hl:qr o.op=true→LdLt o ev hp)(h:∀bQ:Hp,(qr o.op=true→SO o ev hp bQ)→qm P o ev bQ d bQ):Snd P tb dr o ev hp d hp:=⟨h hp fun _ _ _ _ _ _=>rfl,fun _ _=>⟨rfl,h⟩,fun _=>Fr.refl _,hl⟩
theorem Snd.calm {dr:Bool}{o:Oper}{ev:Operand→D}{hp:Hp}{d:D}(h:∀bQ:Hp,(qr o.op=true→SO o ev hp bQ)→qm P o ev bQ d bQ)(hl:qr o.op=false:=by rfl):Snd P tb dr o ev hp d hp:=Snd.calmL (fun h=>by rw[hl] at h;cases h) h
theorem Snd.loud {dr:Bool}{o:Oper}{ev:Operand→D}{hp hp':Hp}{d:D}(h:qm P o ev hp d hp')(hq:dr=true→oC o.op=false)(hv:II tb o.op=false→Fr hp hp')(hl:qr o.op=false:=by rfl):Snd P tb dr o ev hp d hp':=⟨h,fun hd h=>(by rw[hq hd] at h;cases h),hv,fun h=>by rw[hl] at h;cases h⟩
theorem qm.pure {o:Oper}{ev:Operand→D}{hp:Hp}{d:D}(h:∀(B:Nat) (g:Gh) (w:World) (a:Act),HR B hp g w→(∀x∈o.op.operands,aI hp g w (ev x) (a.eval x))→∃v,(execOp a.eval o).run P w=.ok (.value v) w∧aI hp g w d v):qm P o ev hp d hp:=by
 intro B g w a Kn Q hr hx hk
 obtain⟨v,bR,hd⟩:=h B g w a hr hx
 unfold Oper.wp
 rw[bR]
 exact hk v g w hr (bC.refl _ _ _) hd (Below.refl _ _) fun _ _ h=>h
theorem qm.step {o:Oper}{ev:Operand→D}{hp hp':Hp}{d:D}(h:∀(B:Nat) (g:Gh) (w:World) (a:Act),HR B hp g w→(∀x∈o.op.operands,aI hp g w (ev x) (a.eval x))→∃v g' w',(execOp a.eval o).run P w=.ok (.value v) w'∧HR B hp' g' w'∧bC hp g w hp' g' w'∧aI hp' g' w' d v∧Below B w w'∧∀p:Addr,p.block<B→g.F p→g'.F p):qm P o ev hp d hp':=by
 intro B g w a Kn Q hr hx hk
 obtain⟨v,g',w',bR,h1,h2,h3,h4,h5⟩:=h B g w a hr hx
 unfold Oper.wp
 rw[bR]
 exact hk v g' w' h1 h2 h3 h4 h5
theorem PO {d:D}(h:d.exC.pureC=true):∃x,d.exC=D.e x∧∀(hp:Hp) (g:Gh) (w:World) (v:Value),aI hp g w d v→dq w g.F x v:=by
 cases d with
 |e x=>exact⟨x,rfl,fun hp g w v hv=>by cases hv;assumption⟩
 |own id z n xs=>exact⟨_,rfl,fun hp g w v hv=>by cases hv;assumption⟩
 |fu z n xs=>exact⟨_,rfl,fun hp g w v hv=>by cases hv;assumption⟩
 |_=>cases h
theorem aI.xport {hp:Hp}{g:Gh}{w:World}{d:D}{v:Value}(h:aI hp g w d v)(hp':d.ex.pure=true):mz w g.F d.ex v:=by
 cases h with
 |e x v h=>exact .e x v h
 |own id z n xs v h hid ht=>exact .e _ _ h
 |fu z n xs A h=>exact .e _ _ h
 |ag ds cs hl h1 hr=>
  refine .ag _ cs (by simpa using hl) h1 (fun j d u hd hu=>?_)
  have mP:∀x∈ds.map D.exC,D.pureC x=true:=by
   have:(ds.map D.exC).all D.pureC=true:=hp'
   simpa only[cb] using this
  have hm:=mP d (bT hd)
  rw[fO] at hd
  cases hdj:ds[j]? with
  |none=>simp[hdj] at hd
  |some d0=>
   simp only[hdj,lc,kZ] at hd
   subst hd
   obtain⟨x,hx,dy⟩:=PO hm
   rw[hx]
   exact .e x u (show dq w g.F x u from dy hp g w u (hr j d0 u hdj hu))
 |fp xs off ad hb hc=>exact .fp xs off ad hb hc
 |tu ds cs hl hr=>cases hp'
 |pt k off hk=>cases hp'
 |ow k off z n c hk h1 h2=>cases hp'
 |gw k z n c hk h1 h2 hs=>cases hp'
 |fn f ks hk=>cases hp'
 |opt b d v hi h=>cases hp'
 |top v=>cases hp'
theorem mz.to {w:World}{F:Addr→Prop}{d:D}{v:Value}(h:mz w F d v)(hp:Hp)(g:Gh)(hg:g.F=F):aI hp g w d v:=by
 subst hg
 unfold mz at h
 generalize hh:(⟨[],[],0⟩:Hp)=h0 at h
 generalize hgg:(⟨fun _=>0,fun _=>default,g.F⟩:Gh)=g0 at h
 have hF:g0.F=g.F:=by rw[←hgg]
 have hn:h0.next=0:=by rw[←hh]
 induction h with
 |e x v h=>exact .e x v (by rw[←hF];exact h)
 |own id z n xs v h hid ht=>omega
 |fu z n xs A h=>exact .fu z n xs A (by rw[←hF];exact h)
 |ag ds cs hl h1 hr ih=>exact .ag ds cs hl h1 ih
 |tu ds cs hl hr ih=>exact .tu ds cs hl ih
 |fp xs off ad hb hc=>exact .fp xs off ad hb (by rw[←hF];exact hc)
 |pt k off hk=>omega
 |ow k off z n c hk h1 h2=>omega
 |gw k z n c hk h1 h2 hs=>omega
 |fn f ks hk=>
  cases ks with
  |nil=>exact .fn f [] (by simp)
  |cons k ks=>have:=hk k (by simp);omega
 |opt b d v hi h ih=>exact .opt b d v (D.idsC_le (bY _) (by rw[←hn];exact hi)) ih
 |top v=>exact .top v
theorem JX {hv:Bool}{f:FuncId}{args:List Operand}{ev:Operand→D}{hp:Hp}{k:D→Hp→Prop}{caps:List D}{cvs:Gh→List Value}(Rc:∀(g:Gh) (w:World),Pw (aI hp g w) caps (cvs g))(h:Ni P hv f (args.map ev++caps) hp k):
  ∃d hp',k d hp'∧(hv=false→Fr hp hp')∧Ms P f∧∀(B:Nat) (g:Gh) (w:World) (ρ:Operand→Value),HR B hp g w→(∀x∈args,aI hp g w (ev x) (ρ x))→
   Calls P f (args.map ρ++cvs g).toArray w fun e w'=>∃v g',e=.returned v∧HR B hp' g' w'∧bC hp g w hp' g' w'∧aI hp' g' w' d v∧Below B w w'∧∀p:Addr,p.block<B→g.F p→g'.F p:=by
 have reps:∀(g:Gh) (w:World) (ρ:Operand→Value),(∀x∈args,aI hp g w (ev x) (ρ x))→Pw (aI hp g w) (args.map ev++caps) (args.map ρ++cvs g):=fun g w ρ hx=>Pw.append ⟨by simp,fun j d u hd hu=>by
  rw[fO] at hd hu
  cases ha:args[j]? with
  |none=>simp[ha] at hd
  |some x=>
   simp only[ha,lc,kZ] at hd hu
   subst hd;subst hu
   exact hx x (bT ha)⟩ (Rc g w)
 rcases h with h|⟨rfl,d,hp',⟨Q7,zP⟩,hk⟩
 rotate_left
 ·refine⟨d,hp',hk,(fun h=>by cases h),Q7,fun B g w ρ hr hx=>?_⟩
  have xD:=reps g w ρ hx
  exact zP B g w _ hr (by simpa using xD.1.symm) (fun j d u hd hu=>xD.2 j d u hd (by simpa using hu))
 obtain⟨Ju,r,⟨Q7,zP⟩,hk⟩:=h
 have tA:∀(B:Nat) (g:Gh) (w:World) (ρ:Operand→Value),HR B hp g w→(∀x∈args,aI hp g w (ev x) (ρ x))→
   Calls P f (args.map ρ++cvs g).toArray w fun e w'=>∃v,e=.returned v∧v5 w.heap.size g.F w' r v∧Below w.heap.size w w':=by
  intro B g w ρ hr hx
  have xD:=reps g w ρ hx
  refine zP w g.F _ hr.fits (by have:=xD.1;simpa using this.symm) (fun j d u hd hu=>?_)
  rw[fO] at hd
  cases ha:(args.map ev++caps)[j]? with
  |none=>rw[ha] at hd;cases hd
  |some d0=>
   rw[ha] at hd
   simp only[lc,kZ] at hd
   subst hd
   refine (xD.2 j d0 u ha (by simpa using hu)).xport ?_
   simp only[cb,mw] at Ju
   exact Ju _ ⟨d0,bT ha,rfl⟩
 have plain:(∀e z n xs,r≠.own e z n xs)→k r hp→∃d hp',k d hp'∧(hv=false→Fr hp hp')∧Ms P f∧∀(B:Nat) (g:Gh) (w:World) (ρ:Operand→Value),HR B hp g w→(∀x∈args,aI hp g w (ev x) (ρ x))→
   Calls P f (args.map ρ++cvs g).toArray w fun e w'=>∃v g',e=.returned v∧HR B hp' g' w'∧bC hp g w hp' g' w'∧aI hp' g' w' d v∧Below B w w'∧∀p:Addr,p.block<B→g.F p→g'.F p:=by
  intro zO hk
  refine⟨r,hp,hk,fun _=>Fr.refl _,Q7,fun B g w ρ hr hx=>(tA B g w ρ hr hx).mono ?_⟩
  rintro e w' ⟨v,rfl,nE,hb⟩
  have Qw:mz w' g.F r v:=by
   unfold v5 at nE
   split at nE
   ·exact absurd rfl (zO _ _ _ _)
   ·exact nE
  exact⟨v,g,rfl,hr.keep hb.size hb.block,bC.keep hp g hb.size hb.block,Qw.to hp g rfl,hb.mono hr.base,fun _ _ h=>h⟩
 unfold H5 at hk
 split at hk
 ·rename_i e z n xs
  refine⟨_,_,hk,fun _=>Fr.of ⟨rfl,gN _⟩,Q7,fun B g w ρ hr hx=>(tA B g w ρ hr hx).mono ?_⟩
  rintro e' w' ⟨v,rfl,⟨hz,⟨us,ho⟩,dy⟩,hb⟩
  have hv:∀b,v.ownBlock=some b→w.heap.size≤b:=fun b hb=>(ho.lt b hb).1
  refine⟨v,_,rfl,hr.newTok (e:=(z,e)) hz hb.size hb.block hv (PQ ho hr.base),bC.tok hp g hb.size hb.block hv,?_,hb.mono hr.base,fun p h1 h2=>Gh.tok_keep g _ (fun b hb=>cw hr.base (hv b hb)) p h1 h2⟩
  refine .own _ _ _ _ _ (dy.mono (aD _) (fun _ _ _=>rfl) (fun p _ hf=>?_)) (cp _) (fun m e' hm=>?_)
  ·rcases hf with hf|hf
   ·exact .inl hf.1
   ·exact .inr hf
  ·rw[show (Hp.tok hp _ _).live.lookup _=_ from ak] at hm
   injection hm with hm
   injection hm with h1 h2
   subst h1;subst h2
   exact⟨aD _,rfl,fun _=>(ar rfl).symm⟩
 ·cases hk
 ·rename_i h1 h2
  exact plain (fun e z n xs he=>h1 e z n xs he) hk
theorem cr {b:Callee}{args:Array Operand}{ts:Array TypeId}{x:Operand}(h:x∈args):x∈(Op.call ⟨b,args,ts⟩).operands:=by
 simp only[Op.operands,Call.operands]
 exact LF.2 (.inr h)
theorem DH {o:Oper}{a:Act}{w:World}{Kn:Act→World→Prop}{Q:Exit→Act→World→Prop}{f:FuncId}{args:Array Value}{R:Value→World→Prop}(h:(execOp a.eval o).run P w=.ok (.enter f args) w)(hc:Calls P f args w fun e w'=>∃v,e=.returned v∧R v w')
  (hk:∀v w',R v w'→Kn (a.put o.dst v) w'):o.wp P a w Kn Q:=by
 unfold Oper.wp
 rw[h,Oper.upon_enter]
 refine hc.mono ?_
 rintro e w' ⟨v,rfl,hr⟩
 exact hk v w' hr
theorem Oa {t:TypeId}{z:Nat}{x:D}{k k':Nat→List E→Prop}(h:zH tb t z x k)(hi:∀m ys,k m ys→k' m ys):zH tb t z x k':=by
 unfold zH at h ⊢
 split at h
 ·split at h
  ·exact⟨h.1,hi _ _ h.2⟩
  ·split at h
   ·exact hi _ _ h
   ·cases h
  ·cases h
 ·cases h
theorem Hy {t t':TypeId}{s x:D}{hp:Hp}{k:D→Hp→Prop}(h:tI tb t t' s x hp k):tI tb t t' s x hp fun d h'=>k d h'∧h'.vars=hp.vars∧hp.next≤h'.next:=by
 unfold tI at h ⊢
 split at h
 ·split at h
  ·split at h
   ·obtain⟨h1,h2,h3,h4⟩:=h
    refine⟨h1,h2,h3,Oa h4 fun m ys h=>?_⟩
    split at h
    ·obtain⟨h5,h6,h7,h8⟩:=h
     exact⟨h5,h6,h7,h8,rfl,by first|exact aD _|exact gN _⟩
    ·obtain⟨h5,h6⟩:=h
     exact⟨h5,h6,rfl,by first|exact aD _|exact gN _⟩
    ·obtain⟨h5,h6,h7,h8⟩:=h
     exact⟨h5,h6,h7,h8,rfl,by first|exact aD _|exact gN _⟩
    ·cases h
   ·cases h
  ·cases h
 ·cases h
theorem AVC.sound(tok:TOk P tb){dr:Bool}{o:Oper}{ev:Operand→D}{hp:Hp}{k:D→Hp→Prop}(h:AVC P tb dr o.op o.type ev hp k):∃d hp',k d hp'∧Snd P tb dr o ev hp d hp':=by
 obtain⟨dst,op,ty,pos,af,gd⟩:=o
 unfold AVC at h
 dsimp only at h
 split at h
 ·-- move
  rename_i x
  exact⟨_,_,h,.calm fun bQ _=>.pure fun B g w a hr hx=>⟨a.eval x,by simp[execOp],hx x (by simp[Op.operands])⟩⟩
 ·-- assign
  rename_i x
  have gen:k (ev x) hp→∃d hp',k d hp'∧Snd P tb dr ⟨dst,.assign x,ty,pos,af,gd⟩ ev hp d hp':=fun h=>⟨_,_,h,.loud (.pure fun B g w a hr hx=>⟨a.eval x,by simp[execOp],hx x (by simp[Op.operands])⟩) (fun _=>rfl) fun _=>Fr.refl _⟩
  unfold OK at h
  split at h
  ·rename_i hd
   split at h
   ·split at h
    ·rename_i e j6
     split at h
     ·rename_i j he
      obtain⟨hz,h⟩:=h
      refine⟨_,_,h,.loud (.step fun B g w a hr hx=>?_) (fun _=>rfl) fun _=>Fr.of ⟨rfl,gN _⟩⟩
      have hv:=hx x (by simp[Op.operands])
      rw[hd] at hv
      have hv:=hv.lit
      have ho:=World.ownsRow_nil w B e j.size
      have Ci:∀b,(Value.slice none 0 0).ownBlock=some b→w.heap.size≤b:=fun b hb=>by cases hb
      refine⟨.slice none 0 0,_,w,by simp[execOp,hv],hr.newTok (e:=(j.size,e)) hz (aD _) (fun _ _=>rfl) Ci ho,bC.tok hp g (aD _) (fun _ _=>rfl) Ci,?_,Below.refl _ _,fun p h1 h2=>Gh.tok_keep g _ (fun b hb=>by cases hb) p h1 h2⟩
      refine .own _ _ _ _ _ (.sl _ 0 [] none 0 (fun _=>undef) (by simp) hz (aD _) (by decide) (fun h=>absurd h (by omega)) (fun _ h=>by cases h) (fun _ _ h=>by simp at h)) (cp _) (fun m e' hm=>?_)
      rw[show (Hp.tok hp _ _).live.lookup _=_ from ak] at hm
      injection hm with hm
      injection hm with h1 h2
      subst h1;subst h2
      exact⟨aD _,rfl,fun _=>(ar rfl).symm⟩
     ·exact gen h
    ·exact gen h
   ·exact gen h
  ·exact gen h
 ·-- pick
  rename_i c x y
  unfold IY at h
  split at h
  ·rename_i hc
   refine⟨_,_,h,.calm fun bQ _=>.pure fun B g w a hr hx=>⟨a.eval x,?_,hx x (by simp[Op.operands])⟩⟩
   have:=hx c (by simp[Op.operands])
   rw[hc] at this
   simp[execOp,this.lit,asBool]
  ·rename_i hc
   refine⟨_,_,h,.calm fun bQ _=>.pure fun B g w a hr hx=>⟨a.eval y,?_,hx y (by simp[Op.operands])⟩⟩
   have:=hx c (by simp[Op.operands])
   rw[hc] at this
   simp[execOp,this.lit,asBool]
  ·cases h
 ·-- alloc
  rename_i t
  split at h
  ·rename_i i ht
   refine⟨_,_,h,.loud (.step fun B g w a hr hx=>?_) (fun _=>rfl) fun _=>⟨gN _,fun j hj=>ay (by omega)⟩⟩
   obtain⟨z,hz,FK⟩:=tok.run_zero ht w
   have rL:=fk.lits (hp:=hp) (g:=g) (w:=w) i.zero (tok t i ht).2.2.2
   refine⟨.pointer (some ⟨w.heap.size,0,none⟩),_,w.alloc (.cells z.cells t),?_,hr.newVar _ z.cells t (by rw[←eK,FK];simp) (fun j u hu=>?_),bC.var hp g w _ _,?_,(Below.refl _ _).alloc hr.base _,fun p _ h=>.inl h⟩
   ·simp only[execOp,Instr.alloc,Sem.run_bind,hz,Result.andThen_ok]
    rfl
   ·have vJ:i.zero[j]? =some u:=by rw[←FK];simpa using hu
    exact⟨fun _=>rL.2 u (bT vJ),fun d hd=>rL.1.2 j d u hd vJ⟩
   ·have:=aI.pt (hp:=hp.var (i.zero.map fun v=>.e (.lit v))) (g:=g.var hp.next w.heap.size) (w:=w.alloc (.cells z.cells t)) hp.next 0 (cp _)
    rwa[show (g.var hp.next w.heap.size).μ hp.next=w.heap.size from ar rfl] at this
  ·cases h
 ·-- box
  rename_i t x
  split at h
  ·rename_i cs hc
   refine⟨_,_,h,.loud (.step fun B g w a hr hx=>?_) (fun _=>rfl) fun h=>by cases h⟩
   have rL:=(hx x (by simp[Op.operands])).cells hc
   refine⟨.pointer (some ⟨w.heap.size,0,none⟩),_,w.alloc (.cells (a.eval x).cells t),?_,hr.newVar _ _ t (by rw[←eK,rL.1.1];exact aD _) (fun j u hu=>?_),bC.var hp g w _ _,?_,(Below.refl _ _).alloc hr.base _,fun p _ h=>.inl h⟩
   ·rfl
   ·have vJ:(a.eval x).cells.toList[j]? =some u:=by simpa using hu
    exact⟨fun _=>rL.2 u (bT vJ),fun d hd=>rL.1.2 j d u hd vJ⟩
   ·have:=aI.pt (hp:=hp.var cs) (g:=g.var hp.next w.heap.size) (w:=w.alloc (.cells (a.eval x).cells t)) hp.next 0 (cp _)
    rwa[show (g.var hp.next w.heap.size).μ hp.next=w.heap.size from ar rfl] at this
  ·cases h
 ·-- build
  rename_i t ps
  obtain⟨d',hk,hs⟩:=Ht tok h
  refine⟨_,_,hk,.calm fun bQ In=>.pure fun B g w a hr hx=>?_⟩
  obtain⟨v,bR,hd⟩:=hs bQ g w a.eval (fun p hp=>hx _ (by simp only[Op.operands,HB,mw];exact⟨p,hp,rfl⟩))
  refine⟨v,?_,hd⟩
  have QA:(ps.map fun (x:Nat×Operand)=>(x.1,a.eval x.2))=(ps.toList.map fun p=>(p.1,a.eval p.2)).toArray:=by
   apply lW.1;simp
  simp only[execOp,Sem.run_bind]
  rw[QA,bR]
  rfl
 ·-- buildSlice
  rename_i t n ps
  have QA:(ps.map fun (x:Nat×Operand)=>(x.1,ev x.2))=(ps.toList.map fun p=>(p.1,ev p.2)).toArray:=by
   apply lW.1;simp
  have step:∀{hp1 QB:Hp} {d':D},(∀(B:Nat) (g:Gh) (w:World) (ρ:Operand→Value),HR B hp1 g w→(∀p∈ps.toList,aI hp1 g w (ev p.2) (ρ p.2))→
    ∃v g' w',(Instr.buildSlice t n (ps.toList.map fun p=>(p.1,ρ p.2)).toArray).run P w=.ok v w'∧HR B QB g' w'∧bC hp1 g w QB g' w'∧aI QB g' w' d' v∧Below B w w'∧∀p:Addr,p.block<B→g.F p→g'.F p)→
    qm P ⟨dst,.buildSlice t n ps,ty,pos,af,gd⟩ ev hp1 d' QB:=by
   intro hp1 QB d' hs
   refine .step fun B g w a hr hx=>?_
   obtain⟨v,g',w',bR,h1⟩:=hs B g w a.eval hr (fun p hp=>hx _ (by simp only[Op.operands,HB,mw];exact⟨p,hp,rfl⟩))
   refine⟨v,g',w',?_,h1⟩
   have QA:(ps.map fun (x:Nat×Operand)=>(x.1,a.eval x.2))=(ps.toList.map fun p=>(p.1,a.eval p.2)).toArray:=by
    apply lW.1;simp
   simp only[execOp,Sem.run_bind]
   rw[QA,bR]
   rfl
  by_cases hn:n=0
  ·subst hn
   obtain⟨d',hp',hk,hs⟩:=pS tok (uz h)
   exact⟨_,_,hk.1,.loud (step hs) (fun _=>rfl) fun _=>Fr.of hk.2⟩
  ·cases dr with
   |false=>
    obtain⟨d',hp',hk,hs⟩:=pS tok (uz h)
    exact⟨_,_,hk.1,.loud (step hs) (fun h=>by cases h) fun _=>Fr.of hk.2⟩
   |true=>
   obtain⟨d,hk,mP⟩:=zX hn h
   refine⟨_,_,hk,.calm fun bQ _=>?_⟩
   obtain⟨d',hp',⟨rfl,rfl⟩,hs⟩:=pS tok (mP bQ)
   exact step hs
 ·-- load
  rename_i t x
  obtain⟨d',hk,bG,hs⟩:=BO tok h
  have hun:∀j off,(ev x).un=.pt j off→ev x=.pt j off:=by
   intro j off e
   cases hd:ev x with
   |opt b d=>rw[hd] at h;cases h
   |_=>rw[hd] at e;first|exact e|cases e
  refine⟨_,_,hk,.calmL (fun _ y hy j off e=>bG j off (hun j off (by rw[show y=x by simpa[Op.operands] using hy] at e;exact e))) fun bQ In=>.pure fun B g w a hr hx=>?_⟩
  obtain⟨v,bR,hd⟩:=hs bQ B g w _ (fun j off e=>In rfl x (by simp[Op.operands]) j off (by rw[e];rfl)) hr (hx x (by simp[Op.operands]))
  exact⟨v,by simp[execOp,bR],hd⟩
 ·-- store
  rename_i t x y
  obtain⟨hp',hk,hs⟩:=GD tok h
  refine⟨_,_,hk,.loud (fun B g w a Kn Q hr hx BQ=>?_) (fun _=>rfl) fun h=>by cases h⟩
  obtain⟨w',bR,h1,h2,h3⟩:=hs B g w _ _ hr (hx x (by simp[Op.operands])) (hx y (by simp[Op.operands]))
  unfold Oper.wp
  have:(execOp a.eval ⟨dst,.store t x y,ty,pos,af,gd⟩).run P w=.ok .skip w':=by simp[execOp,bR]
  rw[this]
  exact BQ undef g w' h1 h2 (.top _) h3 fun _ _ h=>h
 ·-- binOp
  rename_i op t x y yt
  obtain⟨r,hk,h1,hs⟩:=LC h
  refine⟨_,_,hk,.calm fun bQ In=>.pure fun B g w a hr hx=>⟨r,?_,.e _ _ (.lit r h1)⟩⟩
  have:=hs bQ g w a.eval (hx x (by simp[Op.operands])) (hx y (by simp[Op.operands]))
  simp only[execOp,Sem.run_bind] at this ⊢
  rw[this]
  rfl
 ·-- unOp
  rename_i op t x
  obtain⟨r,hk,h1,hs⟩:=NO (P:=P) h
  refine⟨_,_,hk,.calm fun bQ In=>.pure fun B g w a hr hx=>⟨r,?_,.e _ _ (.lit r h1)⟩⟩
  have:=hs bQ g w _ (hx x (by simp[Op.operands]))
  simp[execOp,this]
 ·-- convert
  rename_i s t x
  obtain⟨d',hk,hs⟩:=JU tok h
  refine⟨_,_,hk,.calm fun bQ In=>.pure fun B g w a hr hx=>?_⟩
  obtain⟨v,bR,hd⟩:=hs bQ g w _ (hx x (by simp[Op.operands]))
  exact⟨v,by simp[execOp,bR],hd⟩
 ·-- slice
  rename_i t x lo hi mx
  obtain⟨d',hk,hs⟩:=GG tok h
  refine⟨_,_,hk,.calm fun bQ In=>.pure fun B g w a hr hx=>?_⟩
  obtain⟨v,bR,hd⟩:=hs bQ g w a.eval (hx x (by simp[Op.operands])) (fun y hy=>hx y (by
   simp only[Op.operands,LF]
   rcases hy with rfl|rfl|rfl
   ·exact .inl (.inl (.inr (by simp)))
   ·exact .inl (.inr (by simp))
   ·exact .inr (by simp)))
  exact⟨v,by simp[execOp,bR],hd⟩
 ·-- fieldAddr
  rename_i s x f
  obtain⟨d',hk,hs⟩:=Bg tok h
  refine⟨_,_,hk,.calm fun bQ In=>.pure fun B g w a hr hx=>?_⟩
  obtain⟨v,bR,hd⟩:=hs bQ g w _ (hx x (by simp[Op.operands]))
  exact⟨v,by simp[execOp,bR],hd⟩
 ·-- field
  rename_i s x f
  obtain⟨d',hk,hs⟩:=Hn tok h
  refine⟨_,_,hk,.calm fun bQ In=>.pure fun B g w a hr hx=>?_⟩
  obtain⟨v,bR,hd⟩:=hs bQ g w _ (hx x (by simp[Op.operands]))
  exact⟨v,by simp[execOp,bR],hd⟩
 ·-- indexAddr
  rename_i t x i
  obtain⟨d',hk,hs⟩:=A8 tok h
  refine⟨_,_,hk,.calm fun bQ In=>.pure fun B g w a hr hx=>?_⟩
  obtain⟨v,bR,hd⟩:=hs bQ g w _ _ (hx x (by simp[Op.operands])) (hx i (by simp[Op.operands]))
  exact⟨v,by simp[execOp,bR],hd⟩
 ·-- index
  rename_i t x i
  obtain⟨d',hk,hs⟩:=GT tok h
  refine⟨_,_,hk,.calm fun bQ In=>.pure fun B g w a hr hx=>?_⟩
  obtain⟨v,bR,hd⟩:=hs bQ g w _ _ (hx x (by simp[Op.operands])) (hx i (by simp[Op.operands]))
  exact⟨v,by simp[execOp,bR],hd⟩
 ·-- extract
  rename_i x i
  split at h
  ·rename_i ds hd
   obtain⟨d',hdi,hk⟩:=h
   refine⟨_,_,hk,.calm fun bQ In=>.pure fun B g w a hr hx=>?_⟩
   have hv:=hx x (by simp[Op.operands])
   rw[hd] at hv
   generalize hu:a.eval x=u at hv
   cases hv with
   |tu _ cs hl zc=>
    have bG:i<cs.size:=by
     rw[hl]
     rcases bt i ds.length with hh|hh
     ·exact hh
     ·rw[fa hh] at hdi;cases hdi
    refine⟨cs[i],by simp[execOp,hu,Instr.extract,bG],zc i d' _ hdi (nh bG)⟩
  ·cases h
 ·-- call
  rename_i c
  obtain⟨callee,args,ts⟩:=c
  dsimp only at h
  split at h
  ·rename_i b
   unfold kW at h
   split at h
   ·-- len
    rename_i t d MR EO
    obtain⟨n,hk,hs⟩:=KV (P:=P) tok h
    refine⟨_,_,hk,.calm fun bQ In=>.pure fun B g w a hr hx=>?_⟩
    obtain⟨x,rfl,rfl⟩:∃x,args=#[x]∧ev x=d:=by
     rcases args with⟨_|⟨x,_|⟨y,l⟩⟩⟩ <;> simp at EO
     exact⟨x,rfl,EO⟩
    obtain rfl:ts=#[t]:=by
     apply lW.1;simpa using MR
    have:=hs bQ g w ty _ (hx x (cr (by simp)))
    refine⟨.int .i64 n,?_,.e _ _ (.lit _ rfl)⟩
    simp[execOp,resolve,invoke,builtin,this]
   ·-- min
    rename_i j m j' m' EO
    obtain⟨x,y,rfl,h1,h2⟩:∃x y,args=#[x,y]∧ev x=.e (.lit (.int j m))∧ev y=.e (.lit (.int j' m')):=by
     rcases args with⟨_|⟨x,_|⟨y,_|⟨z,l⟩⟩⟩⟩ <;> simp at EO
     exact⟨x,y,rfl,EO⟩
    refine⟨_,_,h,.calm fun bQ _=>.pure fun B g w a hr hx=>?_⟩
    have e1:=hx x (cr (by simp))
    have e2:=hx y (cr (by simp))
    rw[h1] at e1
    rw[h2] at e2
    refine⟨.int j (min m m'),?_,.e _ _ (.lit _ rfl)⟩
    have QS:(if m'<m then m' else m)=min m m':=by
     rw[Int.min_def];split <;> split <;> omega
    simp[execOp,resolve,invoke,builtin,e1.lit,e2.lit,Builtin.min_,Builtin.min2,QS]
   ·-- max
    rename_i j m j' m' EO
    obtain⟨x,y,rfl,h1,h2⟩:∃x y,args=#[x,y]∧ev x=.e (.lit (.int j m))∧ev y=.e (.lit (.int j' m')):=by
     rcases args with⟨_|⟨x,_|⟨y,_|⟨z,l⟩⟩⟩⟩ <;> simp at EO
     exact⟨x,y,rfl,EO⟩
    refine⟨_,_,h,.calm fun bQ _=>.pure fun B g w a hr hx=>?_⟩
    have e1:=hx x (cr (by simp))
    have e2:=hx y (cr (by simp))
    rw[h1] at e1
    rw[h2] at e2
    refine⟨.int j (max m m'),?_,.e _ _ (.lit _ rfl)⟩
    have hmax:(if m<m' then m' else m)=max m m':=by
     rw[Int.max_def];split <;> split <;> omega
    simp[execOp,resolve,invoke,builtin,e1.lit,e2.lit,Builtin.max_,Builtin.max2,hmax]
   ·-- append
    rename_i t t' s x MR EO
    have h:=Hy h
    obtain⟨d',hp',hk,hs⟩:=Fp tok h
    refine⟨_,_,hk.1,.loud (.step fun B g w a hr hx=>?_) (fun _=>rfl) fun _=>Fr.of hk.2⟩
    obtain⟨o1,o2,rfl,rfl,rfl⟩:∃o1 o2,args=#[o1,o2]∧ev o1=s∧ev o2=x:=by
     rcases args with⟨_|⟨x,_|⟨y,_|⟨z,l⟩⟩⟩⟩ <;> simp at EO
     exact⟨x,y,rfl,EO⟩
    obtain rfl:ts=#[t,t']:=by
     apply lW.1;simpa using MR
    obtain⟨r,g',w',bR,h1⟩:=hs B g w ty _ _ hr (hx o1 (cr (by simp))) (hx o2 (cr (by simp)))
    refine⟨r,g',w',?_,h1⟩
    simp[execOp,resolve,invoke,builtin,bR]
   ·cases h
  ·rename_i x
   -- what is called,with what it has captured
   have enter:∀{f:FuncId} {caps:List D} {cvs:Gh→List Value},(∀(g:Gh) (w:World),Pw (aI hp g w) caps (cvs g))→Ni P (hvB tb ⟨.value x,args,ts⟩) f (args.toList.map ev++caps) hp k→
     (∀(g:Gh) (w:World) (u:Value),aI hp g w (ev x) u→u=.func (.func f) #[] (cvs g).toArray)→∃d hp',k d hp'∧Snd P tb dr ⟨dst,.call ⟨.value x,args,ts⟩,ty,pos,af,gd⟩ ev hp d hp':=by
    intro f caps cvs Rc h hfv
    obtain⟨d,hp',hk,MP,⟨fn,hf,hn,BS⟩,hc⟩:=JX Rc h
    refine⟨_,_,hk,.loud (fun B g w a Kn Q hr hx BQ=>?_) (fun _=>rfl) fun h=>MP (hvOf h)⟩
    have hv:=hfv g w _ (hx x (by simp[Op.operands,Call.operands]))
    have zP:=hc B g w a.eval hr (fun y hy=>hx y (cr (by simpa using hy)))
    have tA:(args.map a.eval++(cvs g).toArray)=(args.toList.map a.eval++cvs g).toArray:=by apply lW.1;simp
    refine DH (R:=fun v w'=>∃g',HR B hp' g' w'∧bC hp g w hp' g' w'∧aI hp' g' w' d v∧Below B w w'∧∀p:Addr,p.block<B→g.F p→g'.F p) ?_ (zP.mono ?_) ?_
    ·have hn' : fn.name ≠ "runtime.NumGoroutine" := by simpa using hn
     have sh:¬fn.body=none:=fun e=>by rw[e] at BS;cases BS
     have hcf:(callFunc f (args.toList.map a.eval++cvs g).toArray).run P w=.ok (.enter f (args.toList.map a.eval++cvs g).toArray) w:=by
      simp[callFunc,hf,hn',sh]
     rw[←hcf,←tA]
     simp[execOp,resolve,invoke,Deferred.ofValue,hv]
    ·rintro e w' ⟨v,g',rfl,h1⟩
     exact⟨v,rfl,g',h1⟩
    ·rintro v w' ⟨g',h1,h2,h3,h4,h5⟩
     exact BQ v g' w' h1 h2 h3 h4 h5
   unfold vg at h
   split at h
   ·rename_i f fi ca Ao
    obtain⟨hfi,hca,h⟩:=h
    obtain rfl:=D4 hfi
    obtain rfl:=D4 hca
    refine enter (caps:=[]) (cvs:=fun _=>[]) (fun _ _=>Pw.nil) (by simpa using h) (fun g w u hu=>?_)
    rw[Ao] at hu
    exact hu.lit
   ·rename_i f ks Ao
    have On:∀(g:Gh) (w:World) (u:Value),aI hp g w (.fn f ks) u→(∀k∈ks,k<hp.next)∧u=.func (.func f) #[] (ks.map fun k=>Value.pointer (some ⟨g.μ k,0,none⟩)).toArray:=by
     intro g w u hu
     cases hu with
     |fn _ _ hk=>exact⟨hk,rfl⟩
    by_cases hk:∀k∈ks,k<hp.next
    ·refine enter (caps:=ks.map fun k=>.pt k 0) (cvs:=fun g=>ks.map fun k=>Value.pointer (some ⟨g.μ k,0,none⟩)) (fun g w=>⟨by simp,fun j d u hd hu=>?_⟩) h (fun g w u hu=>?_)
     ·rw[fO] at hd hu
      cases hj:ks[j]? with
      |none=>simp[hj] at hd
      |some kk=>
       simp only[hj,lc,kZ] at hd hu
       subst hd;subst hu
       exact .pt kk 0 (hk kk (bT hj))
     ·rw[Ao] at hu
      exact (On g w u hu).2
    ·-- such a value stands for nothing
     rcases h with⟨Ju,_⟩|⟨hvt,d,hp',_,QY⟩
     ·exfalso
      apply hk
      intro k hkm
      rw[jR,vn,mf] at Ju
      have:=Ju.2
      simp only[cb,mw] at this
      have:=this (D.pt k 0).ex ⟨.pt k 0,⟨k,hkm,rfl⟩,rfl⟩
      cases this
     refine⟨d,hp',QY,.loud (fun B g w a Kn Q hr hx BQ=>?_) (fun _=>rfl) fun h=>?_⟩
     rotate_left
     ·have h':hvB tb ⟨.value x,args,ts⟩=false:=hvOf h
      rw[hvt] at h';cases h'
     have:=hx x (by simp[Op.operands,Call.operands])
     rw[Ao] at this
     exact absurd (On g w _ this).1 hk
   ·cases h
  ·cases h
 ·-- nilCheck
  rename_i x
  unfold nilV at h
  split at h
  ·rename_i j off Ao
   refine⟨_,_,h,.calm fun bQ _=>.pure fun B g w a hr hx=>⟨a.eval x,?_,?_⟩⟩
   ·have hv:=hx x (by simp[Op.operands])
    rw[Ao] at hv
    generalize hu:a.eval x=u at hv
    cases hv
    simp[execOp,hu]
   ·have hv:=hx x (by simp[Op.operands])
    rwa[Ao] at hv
  ·rename_i xs off Ao
   refine⟨_,_,h,.calm fun bQ _=>.pure fun B g w a hr hx=>⟨a.eval x,?_,?_⟩⟩
   ·have hv:=hx x (by simp[Op.operands])
    rw[Ao] at hv
    generalize hu:a.eval x=u at hv
    cases hv
    simp[execOp,hu]
   ·have hv:=hx x (by simp[Op.operands])
    rwa[Ao] at hv
  ·cases h
 ·-- makeFunc
  rename_i fn first cs
  unfold A3 at h
  split at h
  ·rename_i f
   obtain⟨Lj,h⟩:=h
   obtain rfl:=D4 Lj
   split at h
   ·rename_i rL
    have hce:cs=#[]:=by
     apply lW.1
     simpa using rL
    subst hce
    exact⟨_,_,h,.calm fun bQ _=>.pure fun B g w a hr hx=>⟨_,by simp[execOp,Instr.makeFunc],.e _ _ (.lit _ rfl)⟩⟩
   ·split at h
    ·rename_i ks On
     refine⟨_,_,h,.calm fun bQ _=>.pure fun B g w a hr hx=>?_⟩
     have caps:∀(l:List Operand) (ks:List Nat),BU (l.map ev)=some ks→(∀y∈l,aI bQ g w (ev y) (a.eval y))→l.map a.eval=(ks.map fun k=>Value.pointer (some ⟨g.μ k,0,none⟩))∧∀k∈ks,k<bQ.next:=by
      intro l
      induction l with
      |nil=>
       intro ks h _
       simp only[i2,BU,kZ] at h
       subst h
       exact⟨rfl,by simp⟩
      |cons y l ih=>
       intro ks h hy
       simp only[fx] at h
       unfold BU at h
       split at h
       ·rename_i heq;cases heq
       ·rename_i k ds heq
        injection heq with e1 e2
        subst e2
        cases hl:BU (l.map ev) with
        |none=>simp[hl] at h
        |some ks'=>
         simp only[hl,lc,kZ] at h
         subst h
         obtain⟨h1,h2⟩:=ih ks' hl (fun z hz=>hy z (lV _ hz))
         have hv:=hy y (ni ..)
         rw[e1] at hv
         generalize hu:a.eval y=u at hv
         cases hv with
         |pt _ _ hk=>
          refine⟨by simp[hu,h1],fun k' v3=>?_⟩
          rcases je.1 v3 with rfl|v3
          ·exact hk
          ·exact h2 k' v3
       ·cases h
     obtain⟨h1,h2⟩:=caps cs.toList ks On (fun y hy=>hx y (by
      simp only[Op.operands]
      exact LF.2 (.inr (by simpa using hy))))
     refine⟨_,?_,.fn f ks h2⟩
     have:cs.map a.eval=(ks.map fun k=>Value.pointer (some ⟨g.μ k,0,none⟩)).toArray:=by
      apply lW.1
      simpa using h1
     simp[execOp,Instr.makeFunc,this]
    ·cases h
  ·cases h
 ·cases h
end
end
end
end Go.Proofs.YtgfcnncojhkcoaaGreat
