/-
 OrthoChecks: the pieces, in the program.
-/
import Derived.Test.YtnkjongpfleloaaGreatDoorV43F
open List renaming getElem?_eq_getElem->dg,range->A2,getElem_mem->RA,mem_range->RF,length_range->RZ
open Option renaming bind_some->pw,getD_some->R8
open Sum renaming elim->sw,elim_inl->TG
open Int renaming toNat_natCast->Sy
open Nat renaming zero_le->SY
set_option linter.unusedVariables false
set_option linter.unusedSimpArgs false
namespace Go.Vm
set_option maxRecDepth 100000
attribute [local irreducible] ac
structure K43 (E P:List PtD)(h:List (List PtD)):Prop where
 hE:E.length<=12
 hh:h.length=E.length
 hl:∀ l∈h,l.length<=20
 hP:P.length<=12
 ar:∀ a∈E,inP P a.1/\inP P a.2.1
 pv:∀ p∈P,ptB p=true
 pd:∀ u v:Int,inP P u->inP P v->P[u.toNat]?=P[v.toNat]?->u=v
section
variable {N:Int}{E P:List PtD}{h:List (List PtD)}
theorem K43.pt(K:K43 E P h){v:Int}(hv:inP P v):∃ q,ao P v=some q/\P[v.toNat]?=some q/\ptB q=true:=by
 have hl:v.toNat<P.length:=by have:=hv.1;have:=hv.2;omega
 exact⟨_,(qN hv.1).trans (dg hl),dg hl,K.pv _ (RA hl)⟩
noncomputable def pB(E P:List PtD)(h:List (List PtD))(e:Nat):Bool:=match E[e]?,h[e]? with
 |some a,some l=>(match Zej (l,(P[a.1.toNat]?).getD (0,0,()),(P[a.2.1.toNat]?).getD (0,0,()),())with
  |some (b,_)=>b
  |none=>false)
 |_,_=>false
theorem K43.path (K:K43 E P h){e:Nat}(he:e < E.length):∃ a l p q,E[e]?=some a/\h[e]?=some l/\ao P a.1=some p/\ao P a.2.1=some q/\l.length<=20/\Zej (l,p,q,())=some (pB E P h e,()) /\
  (pB E P h e=false->Zbh (l,p,q,())=some (false,())) /\
  (pB E P h e=true->OkR l/\(∀ s∈sgD l,jd s=true)/\Zbh (l,p,q,())=(re (l,0,())).bind (sw (λz8=>some (z8.1,())) (sw (λ_=>some (true,())) (λ_=>none)))):=by
 have hhe:e<h.length:=by rw[K.hh];exact he
 obtain⟨p,p1,p2,_⟩:=K.pt (K.ar _ (RA he)).1;obtain⟨q,q1,q2,_⟩:=K.pt (K.ar _ (RA he)).2;have hl:=K.hl _ (RA hhe);obtain⟨b,b1,b2,b3⟩:=CL h[e] (by omega) p q;have hb:pB E P h e=b:=by unfold pB;rw[dg he,dg hhe];simp only[p2,q2,R8,b1]
 rw[hb];exact⟨E[e],h[e],p,q,dg he,dg hhe,p1,q1,hl,b1,b2,b3⟩
def pcs(h:List (List PtD))(j:Nat):List PcD:=(A2 j).flatMap λe=>pcL e ((h[e]?).getD [])
theorem uW(h:List (List PtD))(j:Nat):pcs h (j+1)=pcs h j++pcL j ((h[j]?).getD []):=by unfold pcs;rw[List.range_succ,List.flatMap_append];simp
theorem tr(hl:∀ l∈h,l.length<=20):∀ j,(pcs h j).length<=j*20
 |0=>by simp[pcs]
 |j+1=>by
  rw[uW,List.length_append,fb];have:=tr hl j;have:((h[j]?).getD []).length<=20:=by
   cases hj:h[j]? with
   |none=>simp
   |some l=>exact hl l (List.mem_of_getElem? hj)
  omega
theorem CE (l:List PtD)(hne:l≠[])(hl:l.length<=20)(acc:List PcD)(hacc:acc.length<=100000)(e:Nat)(he:h[e]?=some l)(lE:Int) :
  tj (N,E,acc,P,h,(e:Int),1,E,lE,(e:Int),())=some (.inl (N,E,acc++pcL e l,P,h,E,lE,(e:Int),())):=by
 have hp:0<l.length:=List.length_pos_iff.2 hne;have hpl:=fb e l;obtain⟨r,hr,rfl⟩:=dQ (f:=pq) (λx=>∃ k:Nat,x=(N,E,acc++(pcL e l).take k,P,h,(e:Int),((k+1:Nat):Int),E,lE,(e:Int),())/\k<=l.length-1) (λx=>l.length+1-x.2.2.2.2.2.2.1.toNat)
  (λr=>r=.inl (N,E,acc++pcL e l,P,h,E,lE,(e:Int),())) (by
  rintro x ⟨k,rfl,hk⟩;simp only[pq];rw[aR,he];simp only[pw];by_cases hlt:k+1<l.length
  ·have hkp:k<(pcL e l).length:=by omega
   rw[cr (by omega),UA,rQ (by omega),show((k+1:Nat):Int)-1=(k:Nat) by omega,aR,aR,dg hlt,dg (show k<l.length by omega)];simp only[pw];rw[ui (by simp;omega)];simp only[pw];rw[d9 (by omega)];refine .inl ⟨_,rfl,⟨k+1,?_,by omega⟩,?_⟩
   ·rw[List.take_succ_eq_append_getElem hkp,<- List.append_assoc,mG e l k hkp hlt]
   show l.length+1-((k+1+1:Nat):Int).toNat<l.length+1-((k+1:Nat):Int).toNat;omega
  rw[cf (by omega),List.take_of_length_le (by omega)];exact .inr ⟨_,rfl,rfl⟩) (N,E,acc,P,h,(e:Int),1,E,lE,(e:Int),()) ⟨0,by simp,SY _⟩
 exact hr
theorem wW (K:K43 E P h):pD (N,E,[],P,h,E,(E.length:Int),0,()) =
  some (cond ((A2 E.length).all (pB E P h)) (.inr (.inl (N,E,pcs h E.length,P,h,()))) (.inl (false,()))):=by
 obtain⟨r,hr,hq⟩:=dQ (f:=pH) (λx=>∃ j:Nat,x=(N,E,pcs h j,P,h,E,(E.length:Int),(j:Int),())/\j<=E.length/\∀ e,e<j->pB E P h e=true) (λx=>E.length-x.2.2.2.2.2.2.2.1.toNat)
  (λr=>(r=.inl (false,())/\(A2 E.length).all (pB E P h)=false)\/(r=.inr (.inl (N,E,pcs h E.length,P,h,()))/\(A2 E.length).all (pB E P h)=true)) (by
  rintro x ⟨j,rfl,hj,hall⟩;simp only[pH];by_cases hlt:j<E.length
  ·obtain⟨a,l,p,q,e1,e2,e3,e4,e5,e6,e7,e8⟩:=K.path hlt;rw[cr (by omega),UA,aR,e1];simp only[pw];rw[aR,e2];simp only[pw,e3,e4];rw[e6];simp only[pw];cases hb:pB E P h j with
   |false=>refine .inr ⟨_,rfl,.inl ⟨rfl,?_⟩⟩;rw[List.all_eq_false];exact⟨j,RF.2 hlt,by rw[hb];simp⟩
   |true=>
    have O:=(e8 hb).1;have hlen:=tr K.hl j;have hE:=K.hE;simp only[Bool.not_true,UB];rw[CE l O.1 e5 (pcs h j) (by omega) j e2];simp only[pw,TG];rw[d9 (by omega)];refine .inl ⟨_,rfl,⟨j+1,?_,hlt,λe he=>?_⟩,?_⟩
    ·rw[uW,e2,R8]
    ·rcases Nat.lt_or_ge e j with h'|h'
     ·exact hall e h'
     have:e=j:=by omega
     subst this;exact hb
    show E.length-((j+1:Nat):Int).toNat<E.length-(j:Int).toNat;omega
  rw[cf (by omega)];have:j=E.length:=by omega
  subst this;refine .inr ⟨_,rfl,.inr ⟨rfl,?_⟩⟩;rw[List.all_eq_true];exactλe he=>hall e (RF.1 he)) (N,E,[],P,h,E,(E.length:Int),0,()) ⟨0,rfl,SY _,λe he=>by omega⟩
 rw[show pD (N,E,[],P,h,E,(E.length:Int),0,())=_ from hr];rcases hq with⟨rfl,hb⟩|⟨rfl,hb⟩<;>rw[hb]<;>rfl
noncomputable def apB(N:Int)(E P:List PtD)(s t:PcD):Bool:=match Zds ((N,E,()),P,s,t,())with
 |some (b,_)=>b
 |none=>false
theorem G6 (c:List PcD)(i:Nat)(s:PcD)(hi:i<=c.length)(hc:c.length<=100000)(hap:∀ t∈c.take i,∃ b,Zds ((N,E,()),P,s,t,())=some (b,()))(lc g:Int) :
  tP (N,E,c,s.1,s.2.1,s.2.2.1.1.1,s.2.2.1.1.2.1,s.2.2.1.2.1.1,s.2.2.1.2.1.2.1,P,h,lc,g,((0:Nat):Int),((i:Nat):Int),((i:Nat):Int),0,()) =
   some (cond ((c.take i).any λt=>!apB N E P s t) (.inl (false,())) (.inr (.inl (N,E,c,s.1,s.2.1,s.2.2.1.1.1,s.2.2.1.1.2.1,s.2.2.1.2.1.1,s.2.2.1.2.1.2.1,P,h,lc,g,())))):=by
 have hlen:(c.take i).length=i:=by rw[List.length_take];omega
 have:=df (B:=m7) (c.take i) (λj=>(N,E,c,s.1,s.2.1,s.2.2.1.1.1,s.2.2.1.1.2.1,s.2.2.1.2.1.1,s.2.2.1.2.1.2.1,P,h,lc,g,((0:Nat):Int),((i:Nat):Int),((i:Nat):Int),(j:Int),())) (λt=>!apB N E P s t) (.inl (false,()))
  (.inr (.inl (N,E,c,s.1,s.2.1,s.2.2.1.1.1,s.2.2.1.1.2.1,s.2.2.1.2.1.1,s.2.2.1.2.1.2.1,P,h,lc,g,()))) (by
  intro j hj;have hji:j<i:=by omega
  have hjc:j<c.length:=by omega
  obtain⟨b,hb⟩:=hap _ (RA hj);have ht:(c.take i)[j]=c[j]:=List.getElem_take;rw[ht]at hb ⊢;simp only[m7];rw[cr (by omega),UA,Sy,jf hji];simp only[pw,Sy,Nat.zero_add,dg hjc];rw[show Zds ((N,E,()),P,(s.1,s.2.1,((s.2.2.1.1.1,s.2.2.1.1.2.1,()),(s.2.2.1.2.1.1,s.2.2.1.2.1.2.1,()),()),()),(c[j].1,c[j].2.1,((c[j].2.2.1.1.1,c[j].2.2.1.1.2.1,()),(c[j].2.2.1.2.1.1,c[j].2.2.1.2.1.2.1,()),()),()),())=_ from hb,d9 (by omega)];have:apB N E P s c[j]=b:=by unfold apB;rw[hb]
  rw[this];cases b<;>rfl) (by
  simp only[m7,hlen];rw[cf (by omega)];rfl)
 exact this
def vxB(P:List PtD)(a:PtD)(last:Int)(s:PcD)(v:Nat):Bool:=match P[v]? with
 |some q=>onB s.2.2.1 q&&(!(eqI (v:Int) a.1&&(eqI s.2.1 1&&aZ q s.2.2.1.1)) && !(eqI (v:Int) a.2.1&&(eqI s.2.1 last&&aZ q s.2.2.1.2.1)))
 |none=>false
theorem Da (c:List PcD)(s:PcD)(a:PtD)(last lc g:Int)(hP:P.length<=1000)(hpv:∀ p∈P,ptB p=true)(hs:okS s.2.2.1) :
  tc (N,E,c,s.1,s.2.1,s.2.2.1.1.1,s.2.2.1.1.2.1,s.2.2.1.2.1.1,s.2.2.1.2.1.2.1,a.1,a.2.1,P,h,last,lc,g,P,(P.length:Int),0,()) =
   some (cond ((A2 P.length).any (vxB P a last s)) (.inl (false,())) (.inr (.inl (N,E,c,P,h,lc,g,())))):=by
 have:=df (B:=mR) (A2 P.length) (λv=>(N,E,c,s.1,s.2.1,s.2.2.1.1.1,s.2.2.1.1.2.1,s.2.2.1.2.1.1,s.2.2.1.2.1.2.1,a.1,a.2.1,P,h,last,lc,g,P,(P.length:Int),(v:Int),())) (vxB P a last s) (.inl (false,()))
  (.inr (.inl (N,E,c,P,h,lc,g,()))) (by
  intro v hv;have hv':v<P.length:=by simpa using hv
  rw[dz];simp only[mR,vxB];rw[cr (by omega),UA,aR,dg hv',d9 (by omega)];simp only[pw];rw[show Zfb ((P[v].1,P[v].2.1,()),((s.2.2.1.1.1,s.2.2.1.1.2.1,()),(s.2.2.1.2.1.1,s.2.2.1.2.1.2.1,()),()),())=_ from Nv P[v] s.2.2.1 hs (hpv _ (RA hv'))];rw[show((eqI P[v].1 s.2.2.1.1.1)&&((eqI P[v].2.1 s.2.2.1.1.2.1)&&true))=aZ P[v] s.2.2.1.1 from rfl,show((eqI P[v].1 s.2.2.1.2.1.1)&&((eqI P[v].2.1 s.2.2.1.2.1.2.1)&&true))=aZ P[v] s.2.2.1.2.1 from rfl];cases onB s.2.2.1 P[v]<;>cases eqI (v:Int) a.1<;>cases eqI s.2.1 1<;>cases aZ P[v] s.2.2.1.1<;>cases eqI (v:Int) a.2.1<;>cases eqI s.2.1 last<;>cases aZ P[v] s.2.2.1.2.1<;>rfl) (by
  simp only[mR,RZ];rw[cf (by omega)];rfl)
 exact this
noncomputable def oZ(N:Int)(E P:List PtD)(h:List (List PtD))(c:List PcD)(i:Nat):Bool:=match c[i]? with
 |some s=>((c.take i).any λt=>!apB N E P s t)||(A2 P.length).any (vxB P ((E[s.1.toNat]?).getD (0,0,())) ((((h[s.1.toNat]?).getD []).length:Int)-1) s)
 |none=>false
theorem xn (c:List PcD)(hc:c.length<=100000)(K:K43 E P h)(hs:∀ s∈c,okS s.2.2.1/\∃ e:Nat,s.1=(e:Int)/\e < E.length)(hap:∀ s∈c,∀ t∈c,∃ b,Zds ((N,E,()),P,s,t,())=some (b,())) :
  s8 (N,E,c,P,h,(c.length:Int),0,())=some (cond ((A2 c.length).any (oZ N E P h c)) (.inl (false,())) (.inr (.inl ()))):=by
 have:=df (B:=nG) (A2 c.length) (λi=>(N,E,c,P,h,(c.length:Int),(i:Int),())) (oZ N E P h c) (.inl (false,())) (.inr (.inl ())) (by
  intro i hi;have hi':i<c.length:=by simpa using hi
  rw[dz];obtain⟨ho,e,he,hel⟩:=hs _ (RA hi');have hhe:e<h.length:=by rw[K.hh];exact hel
  have hl:=K.hl _ (RA hhe);have hP:=K.hP;simp only[nG,oZ];rw[cr (by omega),UA,jf hi',pw,dg hi',pw,show gE c.length 0 (i:Int)=some (0,i) by unfold gE;simp;omega,pw];simp only;rw[G6 (N:=N) (E:=E) (P:=P) (h:=h) c i c[i] (by omega) hc (λt ht=>hap _ (RA hi') _ (List.mem_of_mem_take ht)) (c.length:Int) (i:Int)];cases(c.take i).any λt=>!apB N E P c[i] t with
  |true=>rfl
  |false=>
   simp only[UB,pw,Sum.elim_inr,TG,Bool.false_or];rw[he,aR,aR,dg hel,dg hhe,pw,pw,rQ (by omega),Sy,dg hel,dg hhe,R8,R8];have hpi:=Da (N:=N) (E:=E) (P:=P) (h:=h) c c[i] E[e] ((h[e].length:Int)-1) (c.length:Int) (i:Int) (by omega) K.pv ho;rw[he]at hpi;rw[hpi];have ad:ae .i64 (i:Int) 1=((i+1:Nat):Int):=d9 (by omega);cases(A2 P.length).any (vxB P E[e] ((h[e].length:Int)-1) c[i])with
   |true=>rfl
   |false=>exact congrArg (λz:Int=>(some (Sum.inl (N,E,c,P,h,(c.length:Int),z,())):Option (_⊕((Bool×Unit)⊕(Unit⊕Empty))))) ad) (by
  simp only[nG,RZ];rw[cf (by omega)];rfl)
 exact this
end
end Go.Vm
