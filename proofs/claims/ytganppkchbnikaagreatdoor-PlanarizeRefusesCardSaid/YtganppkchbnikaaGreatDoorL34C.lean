/-
 A round of the search's loop, and what a visit promises.
-/
import Derived.Test.YtganppkchbnikaaGreatDoorD90A
import Derived.Test.YtganppkchbnikaaGreatDoorVmE
import Derived.Test.YtganppkchbnikaaGreatDoorL34B
open Option.some renaming injEq->aw
open Option renaming bind_some->dg
open List renaming getElem?_eq_some_iff->A2,length_cons->B6,length_nil->JB
open Prod.mk renaming injEq->B3
open Nat renaming ble->JK
open Int renaming le_refl->JO
set_option linter.unusedVariables false
set_option linter.unusedSimpArgs false
namespace Go.Vm
set_option maxRecDepth 100000
attribute [local irreducible] aa
abbrev GG:=List (Int×Int×Unit)×List (List Int)×Unit
abbrev SrD:=GG×List Int×List Int×Int×List Int×List (List Int)×Unit
section
variable {E:List (Int×Int×Unit)}{A:List (List Int)}
theorem tH{e:Int}{u v:Nat}(h:Jn E e u v)(hu:u<9000000)(hv:v<9000000):Zq ((E,A,()),e,(u:Int),())=some ((v:Int),()):=by
 unfold Zq;have hg:∀ x,E[e.toNat]?=some x->aL E e=some x:=λx hx=>by rw[zY h.1,hx]
 rcases h.2 with h|h
 ·simp only[hg _ h,dg];rw[s6 (by omega) (by omega),rS (by omega) (by omega),show(u:Int)+(v:Int)-(u:Int)=v by omega]
 simp only[hg _ h,dg];rw[s6 (by omega) (by omega),rS (by omega) (by omega),show(v:Int)+(u:Int)-(u:Int)=v by omega]
theorem zb{l:List Int}(h0:l≠[])(h1:l.length<=32768):Ze ((l,()),())=some (cR l,()):=by
 have e1:collectC.fn ((l,()),())=some (l,()):=by
  show cond (okS l) (some (l,())) none=_;have:okS l=true:=by
   unfold okS;cases l with
   |nil=>exact absurd rfl h0
   |cons a l=>simp only[List.isEmpty_cons,Bool.not_false,Bool.true_and,Nat.ble_eq];omega
  rw[this];rfl
 have e2:sortC.fn (l,())=some (cR l,()):=by show(if l.length<=lim then some (cR l,())else none)=_;rw[if_pos (by rw[ng];omega)]
 exact(congrArg (λo:Option (List Int×Unit)=>o.bind λr1=>(sortC.fn (r1.1,())).bind λr2=>some (r2.1,())) e1).trans (congrArg (λo:Option (List Int×Unit)=>o.bind λr2=>some (r2.1,())) e2)
variable {gg:SrD×Int×Int×Unit->Option (SrD×Unit)}{cnt via e:Int}{num low st l:List Int}{bl:List (List Int)}{v w i:Nat}
def stV(E:List (Int×Int×Unit))(A:List (List Int))(v:Nat)(via:Int)(l:List Int)(cnt:Int)(num low st:List Int)(bl:List (List Int))(i:Nat):GG×Int×List Int×List Int×List Int×List (List Int)×Int×Int×List Int×Int×Int×Unit:=
 ((E,A,()),cnt,num,low,st,bl,(v:Int),via,l,((l.length:Nat):Int),((i:Nat):Int),())
theorem Ho:fk gg (stV E A v via l cnt num low st bl l.length)=some (.inr (.inl ((E,A,()),cnt,num,low,st,bl,()))):=by unfold fk stV;simp only[bi (JO _)];rfl
theorem Gr(hi:i<l.length)(hl:l[i]?=some e)(hm:l.length<9000000)(ho:Zq ((E,A,()),e,(v:Int),())=some ((w:Int),()))(he:e=via):fk gg (stV E A v via l cnt num low st bl i)=some (.inl (stV E A v via l cnt num low st bl (i+1))):=by unfold fk stV;simp only[aC (show(i:Int)<(l.length:Nat) by omega),UA,ax,hl,dg,ho,cW he,bv (show i<9223372036854775807 by omega)]
theorem Fh (hi:i < l.length)(hl:l[i]?=some e)(hm:l.length < 9000000)(ho:Zq ((E,A,()),e,(v:Int),())=some ((w:Int),()))(he:e≠via){a b:Nat}(ha:num[w]?=some (a:Int))(hb:num[v]?=some (b:Int))(h0:a≠0)(hab:b<=a) :
  fk gg (stV E A v via l cnt num low st bl i)=some (.inl (stV E A v via l cnt num low st bl (i+1))):=by
 have hw:=(A2.1 ha).1;have hv:=(A2.1 hb).1;unfold fk stV;simp only[aC (show(i:Int)<(l.length:Nat) by omega),UA,UB,ax,hl,dg,ho,bN he,bv (show i<9223372036854775807 by omega),ae hw,ae hv,ha,hb,bN (show(a:Int)≠0 by omega),bi (show(b:Int)<=(a:Int) by omega)]
theorem EY (hi:i < l.length)(hl:l[i]?=some e)(hm:l.length < 9000000)(ho:Zq ((E,A,()),e,(v:Int),())=some ((w:Int),()))(he:e≠via){a b c:Nat}(ha:num[w]?=some (a:Int))(hb:num[v]?=some (b:Int))(hc:low[v]?=some (c:Int))(h0:a≠0)(hab:a < b)(hs:st.length < 9000000) :
  fk gg (stV E A v via l cnt num low st bl i)=some (.inl (stV E A v via l cnt num (low.set v ((min c a:Nat):Int)) (st++[e]) bl (i+1))):=by
 have hw:=(A2.1 ha).1;have hv:=(A2.1 hb).1;have hv2:=(A2.1 hc).1;have hmin:de (c:Int) (a:Int)=((min c a:Nat):Int):=by unfold de;split<;>omega
 unfold fk stV;simp only[aC (show(i:Int)<(l.length:Nat) by omega),UA,UB,ax,hl,dg,ho,bN he,bv (show i<9223372036854775807 by omega),ae hw,ae hv,ae hv2,ha,hb,hc,bN (show(a:Int)≠0 by omega),aC (show(a:Int)<(b:Int) by omega),bx (show st.length+[e].length<=68719476736 by simp only[B6,JB];omega),hmin]
theorem Fe (hi:i < l.length)(hl:l[i]?=some e)(hm:l.length < 9000000)(ho:Zq ((E,A,()),e,(v:Int),())=some ((w:Int),()))(he:e≠via)(ha:num[w]?=some 0)(hs:st.length < 9000000)
  {num' low':List Int} {cnt':Int} {T:List Int} {bl':List (List Int)} (hg:gg (((E,A,()),num,low,cnt,st++[e],bl,()),(w:Int),e,())=some (((E,A,()),num',low',cnt',(st++[e])++T,bl',()),()))
  {b c d:Nat} (hb:num'[v]?=some (b:Int)) (hc:low'[v]?=some (c:Int)) (hd:low'[w]?=some (d:Int)) (hvw:v≠w) (hT:T.length+1<=32768) (hbl:bl'.length<9000000) :
  fk gg (stV E A v via l cnt num low st bl i)=some (.inl (cond (JK b d) (stV E A v via l cnt' num' (low'.set v ((min c d:Nat):Int)) st (bl'++[cR (e::T)]) (i+1)) (stV E A v via l cnt' num' (low'.set v ((min c d:Nat):Int)) (st++e::T) bl' (i+1)))):=by
 have hw:=(A2.1 ha).1;have hv:=(A2.1 hb).1;have hv2:=(A2.1 hc).1;have hw2:=(A2.1 hd).1;have hmin:de (c:Int) (d:Int)=((min c d:Nat):Int):=by unfold de;split<;>omega
 have hw3:w<(low'.set v ((min c d:Nat):Int)).length:=by simpa using hw2
 have hd':(low'.set v ((min c d:Nat):Int))[w]?=some (d:Int):=by rw[List.getElem?_set_ne hvw];exact hd
 have e1:(st++[e])++T=st++(e::T):=by simp
 unfold fk stV;simp only[aC (show(i:Int)<(l.length:Nat) by omega),UA,UB,ax,hl,dg,ho,bN he,bv (show i<9223372036854775807 by omega),ae hw,ha,cW (rfl:(0:Int)=0),bx (show st.length+[e].length<=68719476736 by simp only[B6,JB];omega),hg,ae hv2,ae hw2,ae hv,hb,hc,hd,hmin,ae hw3,hd'];by_cases hbd:b<=d
 ·rw[oE (show(b:Int)<=(d:Int) by omega),Nat.ble_eq_true_of_le hbd];simp only[UA];have hlen:((st++[e])++T).length=st.length+(T.length+1):=by simp only[List.length_append,B6,JB];omega
  have v1:dF ((st++[e])++T).length ((st.length:Nat):Int) ((((st++[e])++T).length:Nat):Int)=some (st.length,T.length+1):=by unfold dF;rw[if_pos ⟨by omega,by rw[hlen];omega,JO _⟩];simp only[aw,B3];rw[hlen];omega
  have v2:dF ((st++[e])++T).length 0 ((st.length:Nat):Int)=some (0,st.length):=by unfold dF;rw[if_pos ⟨by omega,by omega,by rw[hlen];omega⟩];simp
  have v3:(((st++[e])++T).drop st.length).take (T.length+1)=e::T:=by rw[e1,List.drop_left];simp
  have v4:(((st++[e])++T).drop 0).take st.length=st:=by rw[e1];simp
  simp only[v1,v2,dg,v3,v4,zb (show e::T≠[] by simp) (show(e::T).length<=32768 by simp only[B6];omega),bx (show bl'.length+[cR (e::T)].length<=68719476736 by simp only[B6,JB];omega)]
 rw[gm (show(d:Int)<(b:Int) by omega),show JK b d=false by rw[Bool.eq_false_iff];intro h;exact hbd (Nat.le_of_ble_eq_true h)];simp only[UB,e1]
end
end Go.Vm
