/-
 OrthoChecks: the loops of the program.
-/
import Derived.Test.YtnkjongpfleloaaGreatDoorV43E
open List renaming getElem?_eq_getElem->dg,range->A2,getElem_mem->RA,any_eq_true->Sc,take_of_length_le->Sd,take_succ_eq_append_getElem->S2,any_append->Ul
open Option renaming bind_some->pw
open Nat renaming zero_le->SY
set_option linter.unusedVariables false
set_option linter.unusedSimpArgs false
namespace Go.Vm
set_option maxRecDepth 100000
attribute [local irreducible] ac
abbrev PcD:=Int×Int×SegD×Unit
def pcL(e:Nat)(l:List PtD):List PcD:=(sgD l).zipIdx.map λp=>((e:Int),((p.2+1:Nat):Int),p.1,())
theorem fb(e:Nat)(l:List PtD):(pcL e l).length=l.length-1:=by simp[pcL,iv]
theorem mG(e:Nat)(l:List PtD)(i:Nat)(h:i<(pcL e l).length)(h2:i+1<l.length):(pcL e l)[i]=((e:Int),((i+1:Nat):Int),(l[i],l[i+1],()),()):=by
 have hs:i<(sgD l).length:=by rw[fb]at h;rw[iv];exact h
 rw[List.getElem_of_eq (show pcL e l=(sgD l).zipIdx.map (λp=>((e:Int),((p.2+1:Nat):Int),p.1,()))from rfl) h];simp only[List.getElem_map,List.getElem_zipIdx,Nat.zero_add];rw[t6 l i hs (by omega) h2]
section
variable (N:Int)(E P:List PtD)(h:List (List PtD))
def iN(P:List PtD)(i:Nat):Bool:=match P[i]? with
 |some q=>!ptB q||(P.take i).any λp=>aZ q p
 |none=>false
theorem IP(l:List PtD)(q:PtD)(hl:l.length<=1000):Zp (l,q,())=some (l.any λp=>aZ q p,()):=by
 have:∃ k:Int,Zai (l,q,())=some (k,())/\geI k 0=l.any (λp=>aZ q p):=by
  obtain⟨r,hr,hq⟩:=dQ (f:=tK) (λx=>∃ i:Nat,x=(q.1,q.2.1,l,(l.length:Int),(i:Int),())/\i<=l.length/\(l.take i).any (λp=>aZ q p)=false) (λx=>l.length-x.2.2.2.2.1.toNat)
   (λr=>(∃ i:Nat,r=.inl ((i:Int),())/\l.any (λp=>aZ q p)=true)\/(r=.inr (.inl ())/\l.any (λp=>aZ q p)=false)) (by
   rintro x ⟨i,rfl,hi,ht⟩;simp only[tK];by_cases hh:i<l.length
   ·rw[cr (by omega),UA,aR,dg hh,d9 (by omega)];simp only[pw];rw[show((eqI q.1 l[i].1)&&((eqI q.2.1 l[i].2.1)&&true))=aZ q l[i]from rfl];cases hb:aZ q l[i]with
    |true=>exact .inr ⟨_,rfl,.inl ⟨i,rfl,Sc.2 ⟨_,RA hh,hb⟩⟩⟩
    |false=>refine .inl ⟨_,rfl,⟨i+1,rfl,hh,?_⟩,by show l.length-((i+1:Nat):Int).toNat<l.length-(i:Int).toNat;omega⟩;rw[S2 hh,Ul,ht];simp[hb]
   rw[cf (by omega)];rw[Sd (by omega)]at ht;exact .inr ⟨_,rfl,.inr ⟨rfl,ht⟩⟩) (q.1,q.2.1,l,(l.length:Int),0,()) ⟨0,rfl,SY _,rfl⟩
  unfold Zai;simp only;rw[show xx (q.1,q.2.1,l,(l.length:Int),0,())=_ from hr];rcases hq with⟨i,rfl,ha⟩|⟨rfl,ha⟩
  ·exact⟨_,rfl,by rw[ha,pQ (by omega)]⟩
  exact⟨_,rfl,by rw[ha];rfl⟩
 obtain⟨k,h1,h3⟩:=this;unfold Zp;simp only;rw[show Zai (l,(q.1,q.2.1,()),())=_ from h1];simp only[pw,h3]
theorem CQ(hE:E.length<=1000):Zf (E,(),())=some (E.any λa=>eqI a.1 a.2.1,()):=by
 have:∃ k:Int,Zi (E,(),())=some (k,())/\geI k 0=E.any (λa=>eqI a.1 a.2.1):=by
  obtain⟨r,hr,hq⟩:=dQ (f:=AS) (λx=>∃ i:Nat,x=(E,(),(E.length:Int),(i:Int),())/\i<=E.length/\(E.take i).any (λa=>eqI a.1 a.2.1)=false) (λx=>E.length-x.2.2.2.1.toNat)
   (λr=>(∃ i:Nat,r=.inl ((i:Int),())/\E.any (λa=>eqI a.1 a.2.1)=true)\/(r=.inr (.inl ())/\E.any (λa=>eqI a.1 a.2.1)=false)) (by
   rintro x ⟨i,rfl,hi,ht⟩;simp only[AS];by_cases hh:i<E.length
   ·rw[cr (by omega),UA,aR,dg hh,d9 (by omega)];simp only[pw,Zen];cases hb:eqI E[i].1 E[i].2.1 with
    |true=>exact .inr ⟨_,rfl,.inl ⟨i,rfl,Sc.2 ⟨_,RA hh,hb⟩⟩⟩
    |false=>refine .inl ⟨_,rfl,⟨i+1,rfl,hh,?_⟩,by show E.length-((i+1:Nat):Int).toNat<E.length-(i:Int).toNat;omega⟩;rw[S2 hh,Ul,ht];simp[hb]
   rw[cf (by omega)];rw[Sd (by omega)]at ht;exact .inr ⟨_,rfl,.inr ⟨rfl,ht⟩⟩) (E,(),(E.length:Int),0,()) ⟨0,rfl,SY _,rfl⟩
  unfold Zi;simp only;rw[show F3 (E,(),(E.length:Int),0,())=_ from hr];rcases hq with⟨i,rfl,ha⟩|⟨rfl,ha⟩
  ·exact⟨_,rfl,by rw[ha,pQ (by omega)]⟩
  exact⟨_,rfl,by rw[ha];rfl⟩
 obtain⟨k,h1,h3⟩:=this;unfold Zf;simp only[h1,pw,h3]
theorem dz{n i:Nat}(h:i<(A2 n).length):(A2 n)[i]=i:=by simp
theorem we(hP:P.length<=1000):ws (N,E,P,h,P,(P.length:Int),0,())=some (cond ((A2 P.length).any (iN P)) (.inl (false,())) (.inr (.inl (N,E,P,h,())))):=by
 have:=df (B:=rm) (A2 P.length) (λi=>(N,E,P,h,P,(P.length:Int),(i:Int),())) (iN P) (.inl (false,())) (.inr (.inl (N,E,P,h,()))) (by
  intro i hi;have hi':i<P.length:=by simpa using hi
  rw[dz];simp only[rm,iN];rw[cr (by omega),UA,aR,dg hi',pw,d9 (by omega)];rw[show Zeh ((P[i].1,P[i].2.1,()),())=_ from kQ P[i]];have hsl:pS P 0 (i:Int)=some (P.take i):=by unfold pS;simp;omega
  simp only[pw,hsl];rw[show Zp (P.take i,(P[i].1,P[i].2.1,()),())=_ from IP (P.take i) P[i] (by simp;omega)];cases ptB P[i]<;>cases(P.take i).any (λp=>aZ P[i] p)<;>rfl) (by
  simp only[rm,List.length_range];rw[cf (by omega)];rfl)
 exact this
end
end Go.Vm
