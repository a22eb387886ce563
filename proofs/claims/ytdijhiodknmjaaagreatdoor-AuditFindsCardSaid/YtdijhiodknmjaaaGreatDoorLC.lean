/-
 Least sets of arcs whose reversal breaks all cycles, without any program.
-/
import Derived.Test.YtdijhiodknmjaaaGreatDoorVmE
import Derived.Test.YtdijhiodknmjaaaGreatDoorLB
open List renaming getElem?_eq_getElem->bx,getElem?_eq_some_iff->tz,mem_cons->A9,mem_append->B6,mem_of_getElem?->B9,pairwise_cons->Ve,mem_singleton->Vu,mem_map->VM,nodup_cons->Wg,nodup_append->WN,mem_reverse->WW,idxOf_lt_length_iff->Xb,pairwise_map->XC,pairwise_reverse->XX,reverse_reverse->Yb,getElem_idxOf->Yo,idxOf_append->Ys,idxOf->Y5
open Int renaming toNat->A4,toNat_of_nonneg->U9
open Nat renaming lt_of_lt_of_le->Vn,zero_add->Vt,lt_or_ge->VA,pow_le_pow_right->VT,testBit_lt_two_pow->Wv,testBit_two_pow_sub_one->Wy,and_le_left->Xk,eq_of_testBit_eq->Xn,lt_of_le_of_lt->Xu,testBit_or->XN,testBit_two_pow->Yn,testBit_and->YK
open List.Pairwise renaming cons->WR,imp_of_mem->Ym,imp->Y1
set_option linter.unusedVariables false
set_option linter.unusedSimpArgs false
/-
 Bits of numbers that are not negative.
-/
namespace Go.Vm
theorem CC{a:Nat}(h:a<9223372036854775808):IntKind.wrap .i64 (a:Int)=(a:Int):=by have:=IntKind.wrap;unfold IntKind.wrap;simp[IntKind.signed,IntKind.bits];omega
theorem zo{a:Nat}(h:a<9223372036854775808):(BitVec.ofInt 64 (a:Int)).toNat=a:=by rw[BitVec.ofInt_natCast,BitVec.toNat_ofNat];exact Nat.mod_eq_of_lt (by omega)
theorem Pi{a b:Nat}(ha:a<9223372036854775808)(hb:b<9223372036854775808):GC .i64 (a:Int) (b:Int)=((a &&& b:Nat):Int):=by rw[Jp];show IntKind.wrap .i64 (((BitVec.ofInt 64 (a:Int) &&& BitVec.ofInt 64 (b:Int)).toNat:Nat):Int)=_;rw[BitVec.toNat_and,zo ha,zo hb];exact CC (Xu Xk ha)
theorem RW{a b:Nat}(ha:a<9223372036854775808)(hb:b<9223372036854775808):orI .i64 (a:Int) (b:Int)=((a ||| b:Nat):Int):=by rw[LZ];show IntKind.wrap .i64 (((BitVec.ofInt 64 (a:Int) ||| BitVec.ofInt 64 (b:Int)).toNat:Nat):Int)=_;rw[BitVec.toNat_or,zo ha,zo hb];exact CC (Nat.or_lt_two_pow (n:=63) ha hb)
theorem DW{a b:Nat}(ha:a<9223372036854775808)(hb:b<9223372036854775808):∃ c:Nat,tq .i64 (a:Int) (b:Int)=(c:Int)/\c<=a/\∀ i,c.testBit i=(a.testBit i && !b.testBit i):=by
 rw[Bb];refine⟨(BitVec.ofInt 64 (a:Int) &&& ~~~BitVec.ofInt 64 (b:Int)).toNat,?_,?_,λi=>?_⟩
 ·show IntKind.wrap .i64 (((BitVec.ofInt 64 (a:Int) &&& ~~~BitVec.ofInt 64 (b:Int)).toNat:Nat):Int)=_;refine CC ?_;rw[BitVec.toNat_and,zo ha];exact Xu Xk ha
 ·rw[BitVec.toNat_and,zo ha];exact Xk
 rw[BitVec.toNat_and,YK,zo ha,BitVec.testBit_toNat,BitVec.getLsbD_not,<- BitVec.testBit_toNat,zo hb];by_cases h:i<64
 ·simp[h]
 have:a.testBit i=false:=Wv (Vn ha (by
  have:2^63<=2^i:=VT (by omega) (by omega);simpa using this))
 simp[this]
theorem GE{v:Nat}(h:v<62):vH .i64 1 (v:Int)=((2^v:Nat):Int):=by
 rw[IT];have e:min ((v:Int).toNat) (IntKind.bits .i64)=v:=by simp[IntKind.bits];omega
 rw[e];have e2:(1:Int)*2^v=((2^v:Nat):Int):=by simp
 rw[e2];refine CC ?_;have:2^v<2^63:=Nat.pow_lt_pow_right (by omega) (by omega);simpa using this
theorem QF{a v:Nat}(h:v<64):I5 .i64 (a:Int) (v:Int)=((a/2^v:Nat):Int):=by
 rw[IB];have e:min ((v:Int).toNat) (IntKind.bits .i64)=v:=by simp[IntKind.bits];omega
 rw[e,Int.fdiv_eq_ediv_of_nonneg _ (by
  have:(0:Int)<=((2^v:Nat):Int):=Int.natCast_nonneg _;simpa using this)]
 simp
theorem Sl{a v:Nat}(ha:a<9223372036854775808)(h:v<64):GC .i64 (I5 .i64 (a:Int) (v:Int)) 1=if a.testBit v then 1 else 0:=by
 rw[QF h,show(1:Int)=((1:Nat):Int)from rfl,Pi (Xu (Nat.div_le_self _ _) ha) (by omega)];have:a.testBit v=(1 &&& (a >>> v) != 0):=rfl;rw[this,Nat.shiftRight_eq_div_pow,Nat.and_comm 1];have h2:(a/2^v &&& 1)=0\/(a/2^v &&& 1)=1:=by rw[Nat.and_one_is_mod];omega
 rcases h2 with h2|h2<;>rw[h2]<;>simp
end Go.Vm

/-
 Orders of vertices, their backward arcs, and which of two sets of arcs is the lesser. (Chapter 19, without any program.)
-/
namespace Go.Vm
namespace Cyc
def uH:List Int->List Int->Bool
 |a::l,b::r=>if a=b then uH l r else decide (a<b)
 |_,_=>false
def jZ(a b:List Int):Bool:=if a.length=b.length then uH a b else decide (a.length<b.length)
theorem D7:∀ a,uH a a=false
 |[]=>rfl
 |a::l=>by simp[uH,D7 l]
theorem Fe:∀{a b c:List Int},a.length=b.length->b.length=c.length->uH a b=true->uH b c=true->uH a c=true
 |[],_,_,_,_,h,_=>by simp[uH]at h
 |_::_,[],_,h,_,_,_=>by simp at h
 |_::_,_::_,[],_,h,_,_=>by simp at h
 |a::l,b::r,c::s,h1,h2,h3,h4=>by
  unfold uH at h3 h4 ⊢;by_cases e1:a=b
  ·rw[if_pos e1]at h3;by_cases e2:b=c
   ·rw[if_pos e2]at h4;rw[if_pos (e1.trans e2)];exact Fe (by simpa using h1) (by simpa using h2) h3 h4
   rw[if_neg e2]at h4;rw[if_neg (by rw[e1];exact e2),e1];exact h4
  rw[if_neg e1]at h3;have h3:a<b:=by simpa using h3
  by_cases e2:b=c
  ·rw[if_neg (by omega)];simp;omega
  rw[if_neg e2]at h4;have h4:b<c:=by simpa using h4
  rw[if_neg (by omega)];simp;omega
theorem F5:∀{a b:List Int},a.length=b.length->uH a b=false->uH b a=false->a=b
 |[],[],_,_,_=>rfl
 |[],_::_,h,_,_=>by simp at h
 |_::_,[],h,_,_=>by simp at h
 |a::l,b::r,h,h1,h2=>by
  unfold uH at h1 h2;by_cases e:a=b
  ·subst e;rw[if_pos rfl]at h1 h2;rw[F5 (by simpa using h) h1 h2]
  rw[if_neg e]at h1;rw[if_neg (Ne.symm e)]at h2;simp at h1 h2;omega
theorem yc{a b c:List Int}(h1:jZ a b=true)(h2:jZ b c=true):jZ a c=true:=by
 unfold jZ at *;by_cases e1:a.length=b.length
 ·rw[if_pos e1]at h1;by_cases e2:b.length=c.length
  ·rw[if_pos e2]at h2;rw[if_pos (e1.trans e2)];exact Fe e1 e2 h1 h2
  rw[if_neg e2]at h2;rw[if_neg (by omega)];simp at h2 ⊢;omega
 rw[if_neg e1]at h1;have h1:a.length<b.length:=by simpa using h1
 by_cases e2:b.length=c.length
 ·rw[if_neg (by omega)];simp;omega
 rw[if_neg e2]at h2;have h2:b.length<c.length:=by simpa using h2
 rw[if_neg (by omega)];simp;omega
theorem CT(a:List Int):jZ a a=false:=by simp[jZ,D7]
theorem yH{a b:List Int}(h1:jZ a b=false)(h2:jZ b a=false):a=b:=by
 unfold jZ at h1 h2;by_cases e:a.length=b.length
 ·rw[if_pos e]at h1;rw[if_pos e.symm]at h2;exact F5 e h1 h2
 rw[if_neg e]at h1;rw[if_neg (Ne.symm e)]at h2;simp at h1 h2;omega
abbrev Arc:=Int×(Int×Unit)
structure Ord (n:Nat)(o:List Int):Prop where
 nodup:o.Nodup
 mem:∀ x:Int,x∈o↔0<=x/\x<n
def pos(o:List Int)(x:Int):Nat:=o.idxOf x
def bwd(o:List Int):Nat->List Arc->List Int
 |_,[]=>[]
 |i,a::A=>if pos o a.2.1<pos o a.1 then(i:Int)::bwd o (i+1) A else bwd o (i+1) A
theorem zG(o:List Int):∀{A:List Arc} {i:Nat} {x:Int},x∈bwd o i A↔∃ k:Nat,x=((i+k:Nat):Int)/\∃ a,A[k]?=some a/\pos o a.2.1<pos o a.1
 |[],i,x=>by simp[bwd]
 |a::A,i,x=>by
  have ih:=zG o (A:=A) (i:=i+1) (x:=x);have e:(∃ k:Nat,x=((i+k:Nat):Int)/\∃ b,(a::A)[k]?=some b/\pos o b.2.1<pos o b.1)↔((x=(i:Int)/\pos o a.2.1<pos o a.1)\/∃ k:Nat,x=((i+1+k:Nat):Int)/\∃ b,A[k]?=some b/\pos o b.2.1<pos o b.1):=by
   constructor
   ·rintro⟨k,h1,b,h2,h3⟩;cases k with
    |zero=>simp at h2;subst h2;exact .inl ⟨by simpa using h1,h3⟩
    |succ k=>exact .inr ⟨k,by rw[h1];congr 1;omega,b,by simpa using h2,h3⟩
   rintro(⟨h1,h2⟩|⟨k,h1,b,h2,h3⟩)
   ·exact⟨0,by simpa using h1,a,rfl,h2⟩
   exact⟨k+1,by rw[h1];congr 1;omega,b,by simpa using h2,h3⟩
  rw[e,<- ih];have hb:bwd o i (a::A)=if pos o a.2.1<pos o a.1 then(i:Int)::bwd o (i+1) A else bwd o (i+1) A:=rfl;rw[hb];by_cases h:pos o a.2.1<pos o a.1
  ·rw[if_pos h];simp[h]
  rw[if_neg h];simp[h]
theorem FF(o:List Int):∀{A:List Arc} {i:Nat},(bwd o i A).Pairwise (· < ·)
 |[],_=>.nil
 |a::A,i=>by
  unfold bwd;split
  ·refine WR (λx hx=>?_) (FF o);obtain⟨k,h1,_⟩:=(zG o).1 hx;omega
  exact FF o
theorem Kx:∀{a b:List Int},a.Pairwise (· < ·)->b.Pairwise (· < ·)->(∀ x,x∈a↔x∈b)->a=b
 |[],[],_,_,_=>rfl
 |[],b::l,_,_,h=>absurd ((h b).2 (by simp)) (by simp)
 |a::l,[],_,_,h=>absurd ((h a).1 (by simp)) (by simp)
 |a::l,b::r,h1,h2,h=>by
  have p1:=Ve.1 h1;have p2:=Ve.1 h2;have e:a=b:=by
   have m1:=(h a).1 (by simp);have m2:=(h b).2 (by simp);rcases A9.1 m1 with e|e
   ·exact e
   rcases A9.1 m2 with e'|e'
   ·exact e'.symm
   have:=p1.1 b e';have:=p2.1 a e;omega
  subst e;refine congrArg (a :: ·) (Kx p1.2 p2.2 λx=>?_);have:=h x;simp only[A9]at this;constructor
  ·intro hx;rcases this.1 (.inr hx)with e|e
   ·subst e;exact absurd (p1.1 x hx) (by omega)
   exact e
  intro hx;rcases this.2 (.inr hx)with e|e
  ·subst e;exact absurd (p2.1 x hx) (by omega)
  exact e
theorem R9 {a b:List Int}(h1:a.Pairwise (· < ·))(h2:b.Pairwise (· < ·))(hlen:a.length=b.length)
  (h:∀ x,x∈b->(∀ y,y<x->(y∈a↔y∈b))->x∈a):uH b a=false:=by
 induction a generalizing b with
 |nil=>cases b<;>simp[uH]
 |cons a l ih=>
  cases b with
  |nil=>simp[uH]
  |cons b r=>
   have p1:=Ve.1 h1;have p2:=Ve.1 h2;unfold uH;by_cases e:b=a
   ·subst e;rw[if_pos rfl];refine ih p1.2 p2.2 (by simpa using hlen) λx hx hy=>?_;have hbx:=p2.1 x hx;have:=h x (by simp[hx]) (λy hyx=>by
     by_cases e:y=b
     ·subst e;simp
     simp only[A9,e,false_or];exact hy y hyx)
    rcases A9.1 this with e|e
    ·omega
    exact e
   rw[if_neg e];simp only[decide_eq_false_iff_not];intro hlt;have:=h b (by simp) (λy hy=>by
    constructor
    ·intro hm;rcases A9.1 hm with e|e
     ·omega
     have:=p1.1 y e;omega
    intro hm;rcases A9.1 hm with e|e
    ·omega
    have:=p2.1 y e;omega)
   rcases A9.1 this with e'|e'
   ·exact e e'
   have:=p1.1 b e';omega
structure IsLeast (n:Nat)(A:List Arc)(s:List Int):Prop where
 some:∃ o,Ord n o/\s=bwd o 0 A
 least:∀ o,Ord n o->jZ (bwd o 0 A) s=false
theorem IsLeast.uniq{n:Nat}{A:List Arc}{s t:List Int}(h:IsLeast n A s)(k:IsLeast n A t):s=t:=by obtain⟨o,h1,rfl⟩:=h.some;obtain⟨p,k1,rfl⟩:=k.some;exact yH (k.least _ h1) (h.least _ k1)
end Cyc
end Go.Vm

/-
 The least number of backward arcs, set by set. (Chapter 19, without any program.)
-/
namespace Go.Vm
namespace Cyc
open Net (bn zf lsum_congr)
def aft:List Nat->Nat->Nat->Bool
 |[],_,_=>false
 |v::r,x,y=>if v=x then r.contains y else aft r x y
def AC(cnt:Nat->Nat->Int):List Nat->Int
 |[]=>0
 |v::r=>AC cnt r+bn (cnt v) r
def Om(first:Nat->Nat):List Nat->Prop
 |[]=>True
 |v::r=>(∀ u,(first v).testBit u=true->u∈r)/\Om first r
structure OrdR (s:Nat)(r:List Nat):Prop where
 nodup:r.Nodup
 mem:∀ u,u∈r↔s.testBit u=true
theorem FB(v:Nat)(r:List Nat)(x y:Nat):aft (v::r) x y=if v=x then r.contains y else aft r x y:=rfl
theorem IY:∀{r:List Nat} {x y:Nat},aft r x y=true->x∈r/\y∈r
 |[],_,_,h=>by simp[aft]at h
 |v::r,x,y,h=>by
  unfold aft at h;split at h
  ·rename_i e;exact⟨by simp[e],by simp at h;simp[h]⟩
  obtain⟨h1,h2⟩:=IY h;exact⟨by simp[h1],by simp[h2]⟩
theorem JV{first:Nat->Nat}:∀{r:List Nat},r.Nodup->(Om first r↔∀ v∈r,∀ u,(first v).testBit u=true->aft r v u=true)
 |[],_=>by simp[Om]
 |v::r,hn=>by
  have hn:=Wg.1 hn;have ih:=JV (first:=first) hn.2;constructor
  ·rintro⟨h1,h2⟩ w hw u hu;unfold aft;by_cases e:v=w
   ·subst e;rw[if_pos rfl];simpa using h1 u hu
   rw[if_neg e];rcases A9.1 hw with e'|hw
   ·exact absurd e'.symm e
   exact(ih.1 h2) w hw u hu
  intro h;refine⟨λu hu=>?_,ih.2 λw hw u hu=>?_⟩
  ·have:=h v (by simp) u hu;unfold aft at this;rw[if_pos rfl]at this;simpa using this
  have:=h w (by simp[hw]) u hu;rw[FB,if_neg (show ¬v=w fromλe=>hn.1 (by rw[e];exact hw))]at this;exact this
def b2i:Bool->Int
 |true=>1
 |false=>0
def num{α:Type}(P:α->Bool)(l:List α):Int:=bn (λa=>b2i (P a)) l
theorem JY{A:List Arc}(f:Arc->Bool)(t:Arc->Nat):∀{r:List Nat},r.Nodup->bn (λu=>num (λa=>f a&&t a==u) A) r=num (λa=>f a&&r.contains (t a)) A
 |[],_=>by simp only[bn,num];rw[lsum_congr (G:=λ_=>0) (λa _=>by simp[b2i]),Net.lsum_zero]
 |v::r,hn=>by
  have hn:=Wg.1 hn;simp only[bn];rw[JY f t hn.2];unfold num;rw[<- zf];refine lsum_congr λa _=>?_;by_cases h1:f a=true
  ·by_cases h2:t a=v
   ·have:r.contains (t a)=false:=by rw[h2];simpa using hn.1
    simp[h1,h2,hn.1,b2i]
   have:(t a==v)=false:=by simpa using h2
   simp only[h1,List.contains_cons,this];simp[b2i]
  have:f a=false:=by simpa using h1
  simp[this,b2i]
theorem HL {A:List Arc}(fr to:Arc->Nat):∀{r:List Nat},r.Nodup ->
  AC (λv u=>num (λa=>fr a==v&&to a==u) A) r=num (λa=>aft r (fr a) (to a)) A
 |[],_=>by simp only[AC,num,aft];rw[lsum_congr (G:=λ_=>0) (λa _=>by simp[b2i]),Net.lsum_zero]
 |v::r,hn=>by
  have hn:=Wg.1 hn;simp only[AC];rw[HL fr to hn.2,JY (λa=>fr a==v) to hn.2];unfold num;rw[<- zf];refine lsum_congr λa _=>?_;simp only[FB];by_cases e:v=fr a
  ·have hz:aft r (fr a) (to a)=false:=by
    cases h:aft r (fr a) (to a)with
    |false=>rfl
    |true=>exact absurd (IY h).1 (by rw[<- e];exact hn.1)
   rw[if_pos e,hz];simp[e,b2i]
  have:(fr a==v)=false:=by simpa using Ne.symm e
  rw[if_neg e,this];simp[b2i]
theorem lsum_ext{F:Nat->Int}:∀{r r':List Nat},r.Nodup->r'.Nodup->(∀ u,u∈r↔u∈r')->bn F r=bn F r'
 |[],[],_,_,_=>rfl
 |[],b::l,_,_,h=>absurd ((h b).2 (by simp)) (by simp)
 |a::r,r',h1,h2,h=>by
  have n1:=Wg.1 h1;obtain⟨p,q,e⟩:=List.append_of_mem ((h a).1 (by simp));subst e;have n3:a∉p++q/\(p++q).Nodup:=by
   have n4:=WN.1 h2;have n5:=Wg.1 n4.2.1;refine⟨λhm=>?_,WN.2 ⟨n4.1,n5.2,λx hx y hy=>n4.2.2 x hx y (by simp[hy])⟩⟩;rcases B6.1 hm with hm|hm
   ·exact n4.2.2 a hm a (by simp) rfl
   exact n5.1 hm
  have ih:=lsum_ext (F:=F) (r:=r) (r':=p++q) n1.2 n3.2 (λu=>by
   have:=h u;simp only[A9,B6]at this ⊢;constructor
   ·intro hu;rcases this.1 (.inr hu)with h|h|h
    ·exact .inl h
    ·subst h;exact absurd hu n1.1
    exact .inr h
   intro hu;rcases this.2 (by rcases hu with h|h<;>simp[h])with h|h
   ·subst h;exact absurd hu (by simpa using n3.1)
   exact h)
  simp only[bn,Net.lsum_append]at ih ⊢;omega
def clr(s v:Nat):Nat:=s ^^^ 2^v
theorem qY{s v:Nat}(h:s.testBit v=true)(u:Nat):(clr s v).testBit u=(s.testBit u && !decide (u=v)):=by
 unfold clr;rw[Nat.testBit_xor,Yn];by_cases e:v=u
 ·subst e;simp[h]
 have:¬u=v:=λh=>e h.symm;simp[e,this]
theorem O9{s v c:Nat}(h:s.testBit v=true)(hc:∀ u,c.testBit u=(s.testBit u && !decide (u=v))):c=clr s v:=
 Xn λu=>by rw[hc,qY h]
theorem sM{s v:Nat}(h:s.testBit v=true):clr s v<s:=by
 have h1:clr s v<=s:=by
  have:clr s v=s &&& clr s v:=Xn λu=>by rw[YK,qY h];cases s.testBit u<;>simp
  rw[this];exact Xk
 have h2:clr s v≠s:=λe=>by have:=qY h v;rw[e,h]at this;simp at this
 omega
def bits(n s:Nat):List Nat:=(List.range n).filter (s.testBit ·)
theorem bits_nodup(n s:Nat):(bits n s).Nodup:=List.nodup_range.filter _
theorem bits_mem{n s u:Nat}(h:s<2^n):u∈bits n s↔s.testBit u=true:=by
 unfold bits;rw[List.mem_filter,List.mem_range];constructor
 ·exactλh=>h.2
 intro hu;refine⟨?_,hu⟩;rcases VA u n with h1|h1
 ·exact h1
 have:=Wv (Vn h (VT (by omega) h1));rw[this]at hu;cases hu
structure Dp (n:Nat)(none:Int)(cnt:Nat->Nat->Int)(first:Nat->Nat)(C:Nat->Int):Prop where
 zero:C 0=0
 top:∀ s,s<2^n->C s<=none
 le:∀ s,s<2^n->∀ v,s.testBit v=true->(∀ u,(first v).testBit u=true->(clr s v).testBit u=true)->C s<=C (clr s v)+bn (cnt v) (bits n (clr s v))
 at':∀ s,0<s->s<2^n->C s=none\/∃ v,s.testBit v=true/\(∀ u,(first v).testBit u=true->(clr s v).testBit u=true)/\C s=C (clr s v)+bn (cnt v) (bits n (clr s v))
theorem Dp.lower{n:Nat}{none:Int}{cnt:Nat->Nat->Int}{first:Nat->Nat}{C:Nat->Int}(h:Dp n none cnt first C):∀{r:List Nat} {s:Nat},s<2^n->OrdR s r->Om first r->C s<=AC cnt r
 |[],s,hs,ho,_=>by
  have:s=0:=Xn λu=>by
   rw[Nat.zero_testBit];cases hb:s.testBit u with
   |false=>rfl
   |true=>exact absurd ((ho.mem u).2 hb) (by simp)
  subst this;rw[h.zero];simp[AC]
 |v::r,s,hs,ho,ha=>by
  have hn:=Wg.1 ho.nodup;have hv:=(ho.mem v).1 (by simp);have hlt:=sM hv;have ho':OrdR (clr s v) r:=⟨hn.2,λu=>by
   rw[qY hv];have:=ho.mem u;by_cases e:u=v
   ·subst e;simp[hn.1]
   rw[A9]at this;simp only[e,false_or]at this;simp[e,this]⟩
  have h1:=h.lower (r:=r) (s:=clr s v) (by omega) ho' ha.2;have h2:=h.le s hs v hv (λu hu=>(ho'.mem u).1 (ha.1 u hu));have e:=lsum_ext (F:=cnt v) (bits_nodup n (clr s v)) hn.2 (λu=>by rw[bits_mem (by omega),ho'.mem]);simp only[AC];omega
theorem Dp.reached {n:Nat}{none:Int}{cnt:Nat->Nat->Int}{first:Nat->Nat}{C:Nat->Int}(h:Dp n none cnt first C)(hc:∀ v u,0<=cnt v u) :
  ∀(s:Nat),s<2^n->C s<none->∃ r,OrdR s r/\Om first r/\AC cnt r=C s:=by
 intro s;induction s using Nat.strongRecOn with
 |ind s ih=>
  intro hs hl;rcases Nat.eq_zero_or_pos s with e|hp
  ·subst e;exact⟨[],⟨by simp,by simp⟩,trivial,by rw[h.zero];rfl⟩
  rcases h.at' s hp hs with e|⟨v,hv,hf,e⟩
  ·omega
  have hlt:=sM hv;have hnn:0<=bn (cnt v) (bits n (clr s v)):=Net.lsum_nonneg λu _=>hc v u;obtain⟨r,h1,h2,h3⟩:=ih (clr s v) hlt (by omega) (by omega);have hvr:v∉r:=λhm=>by have:=(h1.mem v).1 hm;rw[qY hv]at this;simp at this
  refine⟨v::r,⟨Wg.2 ⟨hvr,h1.nodup⟩,λu=>?_⟩,⟨λu hu=>(h1.mem u).2 (hf u hu),h2⟩,?_⟩
  ·rw[A9,h1.mem u,qY hv];by_cases e:u=v
   ·subst e;simp[hv]
   simp[e]
  have e2:=lsum_ext (F:=cnt v) (bits_nodup n (clr s v)) h1.nodup (λu=>by rw[bits_mem (by omega),h1.mem]);simp only[AC];omega
end Cyc
end Go.Vm

/-
 Arc by arc: which arcs belong to the least set. (Chapter 19, without any program.)
-/
namespace Go.Vm
namespace Cyc
open Net (bn zf lsum_congr)
def toR(o:List Int):List Nat:=(o.map A4).reverse
theorem Qk(o:List Int)(v:Int):toR (o++[v])=v.toNat::toR o:=by simp[toR]
theorem EF{o:List Int}(hnn:∀ x∈o,0<=x){u:Nat}:u∈toR o↔(u:Int)∈o:=by
 unfold toR;rw[WW,VM];constructor
 ·rintro⟨x,hx,rfl⟩;rw[U9 (hnn x hx)];exact hx
 intro h;exact⟨_,h,by simp⟩
theorem Oo:∀{o:List Int},(∀ x∈o,0<=x)->o.Nodup->(toR o).Nodup:=by intro o hnn hn;unfold toR;refine XX.2 (XC.2 (Ym (fun {a b} ha hb hab e=>hab ?_) hn));have:=hnn a ha;have:=hnn b hb;omega
theorem Nb{o:List Int}(hnn:∀ x∈o,0<=x)(hn:o.Nodup):∀{x y:Int},x∈o->y∈o->(pos o y<pos o x↔aft (toR o) x.toNat y.toNat=true):=by
 have key:∀(r:List Int),(∀ x∈r.reverse,0<=x)->r.reverse.Nodup->∀{x y:Int},x∈r.reverse->y∈r.reverse->(pos r.reverse y<pos r.reverse x↔aft (toR r.reverse) x.toNat y.toNat=true):=by
  intro r;induction r with
  |nil=>intro _ _ x y hx;simp at hx
  |cons v r ih=>
   intro hnn hn x y hx hy;rw[List.reverse_cons]at hnn hn hx hy ⊢;have hn':=WN.1 hn;have hv:v∉r.reverse:=λh=>hn'.2.2 v h v (by simp) rfl;have hv0:0<=v:=hnn v (by simp);have hnn':∀ x∈r.reverse,0<=x:=λx hx=>hnn x (B6.2 (.inl hx));rw[Qk,FB];unfold pos;rw[Ys,Ys];rcases B6.1 hx with hx1|hx1
   ·have hx0:=hnn' x hx1;have hne:¬ v.toNat=x.toNat:=fun e=>hv (by rw[show v=x by omega];exact hx1)
    rw[if_pos hx1,if_neg hne];rcases B6.1 hy with hy1|hy1
    ·rw[if_pos hy1];exact ih hnn' hn'.1 hx1 hy1
    simp only[Vu]at hy1;subst hy1;rw[if_neg hv];have h1:Y5 x r.reverse<r.reverse.length:=Xb.2 hx1;have h2:aft (toR r.reverse) x.toNat y.toNat=false:=by
     cases h:aft (toR r.reverse) x.toNat y.toNat with
     |false=>rfl
     |true=>have:=(EF hnn').1 (IY h).2;rw[U9 hv0]at this;exact absurd this hv
    rw[h2];simp only[List.idxOf_cons_self,Bool.false_eq_true,iff_false];omega
   simp only[Vu]at hx1;subst hx1;rw[if_neg hv,if_pos rfl];rcases B6.1 hy with hy1|hy1
   ·rw[if_pos hy1];have h1:Y5 y r.reverse<r.reverse.length:=Xb.2 hy1;have h2:y.toNat∈toR r.reverse:=(EF hnn').2 (by rw[U9 (hnn' y hy1)];exact hy1);simp[h2];simp at h1;omega
   simp only[Vu]at hy1;subst hy1;rw[if_neg hv];have h2:y.toNat∉toR r.reverse:=λh=>hv (by have:=(EF hnn').1 h;rwa[U9 hv0]at this);simp[h2]
 intro x y;have:=key o.reverse;rw[Yb]at this;exact this hnn hn
theorem Ord.nn{n:Nat}{o:List Int}(h:Ord n o):∀ x∈o,0<=x:=λx hx=>((h.mem x).1 hx).1
theorem Ord.ordR{n:Nat}{o:List Int}(h:Ord n o):OrdR (2^n-1) (toR o):=
 ⟨Oo h.nn h.nodup,λu=>by
  rw[EF h.nn,h.mem,Wy];simp⟩
theorem Ry{n:Nat}{r:List Nat}(h:OrdR (2^n-1) r):∃ o,Ord n o/\toR o=r:=by
 have e:toR (r.reverse.map λu:Nat=>(u:Int))=r:=by
  unfold toR;rw[List.map_map];have:(A4 ∘ λu:Nat=>(u:Int))=id:=by funext u;simp
  rw[this,List.map_id,Yb]
 refine⟨r.reverse.map λu:Nat=>(u:Int),⟨?_,λx=>?_⟩,e⟩
 ·refine XC.2 (Y1 (fun {a b:Nat} (hab:a≠b) (e:(a:Int)=b)=>hab (by omega)) (XX.2 (h.nodup.imp Ne.symm)))
 rw[VM];constructor
 ·rintro⟨u,hu,rfl⟩;have:=(h.mem u).1 (WW.1 hu);rw[Wy]at this;simp at this;omega
 rintro⟨h0,h1⟩;refine⟨x.toNat,WW.2 ((h.mem _).2 ?_),by omega⟩;rw[Wy];simp;omega
def fY(n:Nat)(A:List Arc):Prop:=∀ a∈A,0<=a.1/\a.1<n/\0<=a.2.1/\a.2.1<n
theorem Ij{n:Nat}{o:List Int}(h:Ord n o):∀{A:List Arc} {i:Nat},fY n A->((bwd o i A).length:Int)=num (λa=>aft (toR o) a.1.toNat a.2.1.toNat) A
 |[],_,_=>rfl
 |a::A,i,hA=>by
  obtain⟨h1,h2,h3,h4⟩:=hA a (by simp);have ih:=Ij h (A:=A) (i:=i+1) (λb hb=>hA b (by simp[hb]));have hb:bwd o i (a::A)=if pos o a.2.1<pos o a.1 then(i:Int)::bwd o (i+1) A else bwd o (i+1) A:=rfl;have hp:=Nb h.nn h.nodup ((h.mem a.1).2 ⟨h1,h2⟩) ((h.mem a.2.1).2 ⟨h3,h4⟩);have hn:num (λa=>aft (toR o) a.1.toNat a.2.1.toNat) (a::A)=b2i (aft (toR o) a.1.toNat a.2.1.toNat)+num (λa=>aft (toR o) a.1.toNat a.2.1.toNat) A:=rfl;rw[hb,hn,<- ih];by_cases e:pos o a.2.1<pos o a.1
  ·rw[if_pos e,hp.1 e];simp only[List.length_cons,b2i];omega
  rw[if_neg e];have:aft (toR o) a.1.toNat a.2.1.toNat=false:=by
   cases hq:aft (toR o) a.1.toNat a.2.1.toNat with
   |false=>rfl
   |true=>exact absurd (hp.2 hq) e
  rw[this];simp[b2i]
def N5(A:List Arc)(v u:Nat):Int:=num (λa=>a.1.toNat==v&&a.2.1.toNat==u) A
theorem KK(A:List Arc)(v u:Nat):0<=N5 A v u:=Net.lsum_nonneg λa _=>by unfold b2i;split<;>omega
def Cons(first:Nat->Nat)(o:List Int):Prop:=Om first (toR o)
theorem Cons.iff{n:Nat}{o:List Int}(h:Ord n o){first:Nat->Nat}:Cons first o↔∀ v,v<n->∀ u,(first v).testBit u=true->aft (toR o) v u=true:=by
 unfold Cons;rw[JV h.ordR.nodup];have:∀ v,v∈toR o↔v<n:=λv=>by rw[h.ordR.mem,Wy];simp
 exact⟨λH v hv=>H v ((this v).2 hv),λH v hv=>H v ((this v).1 hv)⟩
structure Tells (n:Nat)(A:List Arc)(first:Nat->Nat)(L:Int):Prop where
 low:∀ o,Ord n o->Cons first o->L<=(bwd o 0 A).length
 some:L<1048576->∃ o,Ord n o/\Cons first o/\((bwd o 0 A).length:Int)=L
theorem Dp.tells{n:Nat}{A:List Arc}(hA:fY n A){first:Nat->Nat}{C:Nat->Int}(h:Dp n 1048576 (N5 A) first C):Tells n A first (C (2^n-1)):=by
 have hlt:2^n-1<2^n:=by have:=Nat.two_pow_pos n;omega
 have hc:∀ o,Ord n o->AC (N5 A) (toR o)=(bwd o 0 A).length:=λo ho=>by rw[Ij ho hA];exact HL (λa=>a.1.toNat) (λa=>a.2.1.toNat) ho.ordR.nodup
 refine⟨λo ho hk=>?_,λhl=>?_⟩
 ·rw[<- hc o ho];exact h.lower hlt ho.ordR hk
 obtain⟨r,h1,h2,h3⟩:=h.reached (KK A) _ hlt hl;obtain⟨o,ho,rfl⟩:=Ry h1;exact⟨o,ho,h2,by rw[<- hc o ho];exact h3⟩
theorem pos_ne{n:Nat}{o:List Int}(h:Ord n o){x y:Int}(hx:0<=x/\x<n)(_hy:0<=y/\y<n)(hne:x≠y):pos o x≠pos o y:=by
 intro e;have hx':=(h.mem x).2 hx;have h1:pos o x<o.length:=Xb.2 hx';have h2:pos o y<o.length:=by rw[<- e];exact h1
 have e1:o[pos o x]=x:=Yo h1;have e2:o[pos o y]=y:=Yo h2;apply hne;rw[<- e1,<- e2];congr 1
structure LInv (n:Nat)(A:List Arc)(size:Int)(i:Nat)(out:List Int)(first:Nat->Nat):Prop where
 incr:out.Pairwise (· < ·)
 rng:∀ x∈out,0<=x/\x<i
 cons:∀ o,Ord n o->(Cons first o↔∀ k a,k<i->A[k]?=some a->((k:Int)∈out↔pos o a.2.1<pos o a.1))
 ex:∃ o,Ord n o/\Cons first o/\((bwd o 0 A).length:Int)=size
 no:∀ k:Nat,k<i->(k:Int)∉out->∀ o,Ord n o->((bwd o 0 A).length:Int)=size->(∀ y,y<(k:Int)->(y∈out↔y∈bwd o 0 A))->(k:Int)∉bwd o 0 A
def ask(first:Nat->Nat)(v u:Nat):Nat->Nat:=λw=>if w=v then first v ||| 2^u else first w
theorem ya {n:Nat}{o:List Int}(h:Ord n o){first:Nat->Nat}{x y:Int}(hx:0<=x/\x < n)(hy:0<=y/\y < n) :
  Cons (ask first x.toNat y.toNat) o↔Cons first o/\pos o y<pos o x:=by
 rw[Cons.iff h,Cons.iff h,Nb h.nn h.nodup ((h.mem x).2 hx) ((h.mem y).2 hy)];constructor
 ·intro H;refine⟨λv hv u hu=>H v hv u ?_,H x.toNat (by omega) y.toNat ?_⟩
  ·unfold ask;split
   ·rename_i e;subst e;rw[XN,hu];rfl
   exact hu
  unfold ask;rw[if_pos rfl,XN,Nat.testBit_two_pow_self];simp
 rintro⟨H,h2⟩ v hv u hu;unfold ask at hu;split at hu
 ·rename_i e;subst e;rw[XN,Yn]at hu;by_cases hb:(first x.toNat).testBit u=true
  ·exact H _ hv u hb
  have hb:(first x.toNat).testBit u=false:=by simpa using hb
  rw[hb]at hu;have:y.toNat=u:=by simpa using hu
  subst this;exact h2
 exact H v hv u hu
theorem bwd_at{o:List Int}{A:List Arc}{k:Nat}{a:Arc}(h:A[k]?=some a):(k:Int)∈bwd o 0 A↔pos o a.2.1<pos o a.1:=by
 rw[zG];constructor
 ·rintro⟨j,h1,b,h2,h3⟩;have:j=k:=by omega
  subst this;rw[h]at h2;cases h2;exact h3
 intro h1;exact⟨k,by simp,a,h,h1⟩
theorem LInv.init{n:Nat}{A:List Arc}{size:Int}(h:Tells n A (λ_=>0) size)(hs:size<1048576):LInv n A size 0 [] (λ_=>0):=by
 have h0:∀ o,Ord n o->Cons (λ_=>0) o:=λo ho=>(Cons.iff ho).2 λv _ u hu=>by simp at hu
 refine⟨.nil,by simp,λo ho=>⟨λ_ k a hk=>by omega,λ_=>h0 o ho⟩,?_,λk hk=>by omega⟩;exact h.some hs
theorem LInv.skip{n:Nat}{A:List Arc}{size:Int}{i:Nat}{out:List Int}{first:Nat->Nat}(h:LInv n A size i out first){a:Arc}(ha:A[i]?=some a)(hl:a.1=a.2.1):LInv n A size (i+1) out first:=by
 have hi:(i:Int)∉out:=λhm=>by have:=(h.rng _ hm).2;omega
 refine⟨h.incr,λx hx=>⟨(h.rng x hx).1,by have:=(h.rng x hx).2;omega⟩,λo ho=>?_,h.ex,λk hk hn o ho hs hy=>?_⟩
 ·rw[h.cons o ho];constructor
  ·intro H k b hk hb;rcases VA k i with h1|h1
   ·exact H k b h1 hb
   have:k=i:=by omega
   subst this;rw[ha]at hb;cases hb
   rw[hl];simp[hi]
  intro H k b hk hb;exact H k b (by omega) hb
 rcases VA k i with h1|h1
 ·exact h.no k h1 hn o ho hs hy
 have:k=i:=by omega
 subst this;rw[bwd_at ha,hl];omega
theorem LInv.yes {n:Nat}{A:List Arc}{size:Int}{i:Nat}{out:List Int}{first:Nat->Nat}(h:LInv n A size i out first){a:Arc}(ha:A[i]?=some a)(hA:fY n A)
  (ht:∃ o,Ord n o/\Cons (ask first a.1.toNat a.2.1.toNat) o/\((bwd o 0 A).length:Int)=size):LInv n A size (i+1) (out++[(i:Int)]) (ask first a.1.toNat a.2.1.toNat):=by
 obtain⟨a1,a2,a3,a4⟩:=hA a (B9 ha);have hi:(i:Int)∉out:=λhm=>by have:=(h.rng _ hm).2;omega
 refine⟨?_,λx hx=>?_,λo ho=>?_,ht,λk hk hn o ho hs hy=>?_⟩
 ·rw[List.pairwise_append];exact⟨h.incr,by simp,λx hx y hy=>by simp at hy;have:=(h.rng x hx).2;omega⟩
 ·rcases B6.1 hx with hx|hx
  ·exact⟨(h.rng x hx).1,by have:=(h.rng x hx).2;omega⟩
  simp at hx;omega
 ·rw[ya ho ⟨a1,a2⟩ ⟨a3,a4⟩,h.cons o ho];constructor
  ·rintro⟨H,h2⟩ k b hk hb;rcases VA k i with h1|h1
   ·rw[<- H k b h1 hb];simp;omega
   have:k=i:=by omega
   subst this;rw[ha]at hb;cases hb
   simp[h2]
  intro H;refine⟨λk b hk hb=>?_,(H i a (by omega) ha).1 (by simp)⟩;rw[<- H k b (by omega) hb];simp;omega
 rcases VA k i with h1|h1
 ·refine h.no k h1 (λhm=>hn (by simp[hm])) o ho hs (λy hyk=>?_);rw[<- hy y hyk];simp;omega
 have:k=i:=by omega
 subst this;exact absurd (by simp) hn
theorem LInv.not {n:Nat}{A:List Arc}{size:Int}{i:Nat}{out:List Int}{first:Nat->Nat}(h:LInv n A size i out first){a:Arc}(ha:A[i]?=some a)(hA:fY n A)(hl:a.1≠a.2.1)
  (ht:¬∃ o,Ord n o/\Cons (ask first a.1.toNat a.2.1.toNat) o/\((bwd o 0 A).length:Int)=size):LInv n A size (i+1) out (ask first a.2.1.toNat a.1.toNat):=by
 obtain⟨a1,a2,a3,a4⟩:=hA a (B9 ha);have hi:(i:Int)∉out:=λhm=>by have:=(h.rng _ hm).2;omega
 have hdec:∀ o,Ord n o->(pos o a.1<pos o a.2.1↔¬pos o a.2.1<pos o a.1):=λo ho=>by have:=pos_ne ho ⟨a1,a2⟩ ⟨a3,a4⟩ hl;omega
 refine⟨h.incr,λx hx=>⟨(h.rng x hx).1,by have:=(h.rng x hx).2;omega⟩,λo ho=>?_,?_,λk hk hn o ho hs hy=>?_⟩
 ·rw[ya ho ⟨a3,a4⟩ ⟨a1,a2⟩,h.cons o ho,hdec o ho];constructor
  ·rintro⟨H,h2⟩ k b hk hb;rcases VA k i with h1|h1
   ·exact H k b h1 hb
   have:k=i:=by omega
   subst this;rw[ha]at hb;cases hb
   simp[hi,h2]
  intro H;exact⟨λk b hk hb=>H k b (by omega) hb,λh2=>hi ((H i a (by omega) ha).2 h2)⟩
 ·obtain⟨o,h1,h2,h3⟩:=h.ex;refine⟨o,h1,?_,h3⟩;rw[ya h1 ⟨a3,a4⟩ ⟨a1,a2⟩,hdec o h1];exact⟨h2,λh4=>ht ⟨o,h1,(ya h1 ⟨a1,a2⟩ ⟨a3,a4⟩).2 ⟨h2,h4⟩,h3⟩⟩
 rcases VA k i with h1|h1
 ·exact h.no k h1 hn o ho hs hy
 have:k=i:=by omega
 subst this;rw[bwd_at ha];intro h4;refine ht ⟨o,ho,(ya ho ⟨a1,a2⟩ ⟨a3,a4⟩).2 ⟨(h.cons o ho).2 λj b hj hb=>?_,h4⟩,hs⟩;rw[<- bwd_at hb];exact hy _ (by omega)
theorem LInv.done{n:Nat}{A:List Arc}{size:Int}{out:List Int}{first:Nat->Nat}(h:LInv n A size A.length out first)(hA:fY n A)(hs:Tells n A (λ_=>0) size):IsLeast n A out:=by
 obtain⟨o,h1,h2,h3⟩:=h.ex;have e:out=bwd o 0 A:=by
  refine Kx h.incr (FF o) λx=>?_;have hc:=(h.cons o h1).1 h2;constructor
  ·intro hx;obtain⟨q1,q2⟩:=h.rng x hx;obtain⟨k,rfl⟩:∃ k:Nat,x=k:=⟨x.toNat,by omega⟩;have hk:k<A.length:=by omega
   rw[bwd_at (bx hk)];exact(hc k _ hk (bx hk)).1 hx
  intro hx;obtain⟨k,q1,b,q2,q3⟩:=(zG o).1 hx;simp only[Vt]at q1;subst q1;exact(hc k b ((tz.1 q2).1) q2).2 q3
 refine⟨⟨o,h1,e⟩,λo' ho'=>?_⟩;have hlen:(out.length:Int)=size:=by rw[e];exact h3
 have hlow:=hs.low o' ho' ((Cons.iff ho').2 λv _ u hu=>by simp at hu);unfold jZ;by_cases hl:(bwd o' 0 A).length=out.length
 ·rw[if_pos hl];refine R9 h.incr (FF o') hl.symm λx hx hy=>?_;obtain⟨k,q1,b,q2,q3⟩:=(zG o').1 hx;simp only[Vt]at q1;subst q1;apply Classical.byContradiction;intro hn;exact h.no k ((tz.1 q2).1) hn o' ho' (by omega) hy hx
 rw[if_neg hl];simp only[decide_eq_false_iff_not];omega
end Cyc
end Go.Vm

