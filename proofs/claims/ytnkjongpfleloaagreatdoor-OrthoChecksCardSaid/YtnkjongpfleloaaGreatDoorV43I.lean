/-
 OrthoChecks: the reference's arcs and pairs; both checks agree.
-/
import Derived.Test.YtnkjongpfleloaaGreatDoorV43H
open List renaming getElem?_eq_getElem->dg,range->A2,mem_of_getElem?->B7,getElem_mem->RA,mem_range->RF,length_range->RZ,getElem_of_mem->R6
open Option renaming bind_some->pw
open Bool renaming not_true->RU,false_or->Sw
set_option linter.unusedVariables false
set_option linter.unusedSimpArgs false
namespace Go.Vm
set_option maxRecDepth 100000
attribute [local irreducible] ac
def gx(E:List PtD)(e:Nat):PtD:=(E[e]?).getD (0,0,())
def ef(h:List (List PtD))(e:Nat):List PtD:=(h[e]?).getD []
def rC(h:List (List PtD))(e x:Nat):SegD:=((sgD (ef h e))[x]?).getD ((0,0,()),(0,0,()),())
def sgN(h:List (List PtD))(e:Nat):Nat:=(ef h e).length-1
section
variable {N:Int}{E P:List PtD}{h:List (List PtD)}
theorem NA{s:SegD}(hf:jd s=true)(hn:aZ s.1 s.2.1=false):axS s:=by
 unfold jd at hf;rw[Bool.or_eq_true,gI,gI]at hf;have hne:¬(s.1.1=s.2.1.1/\s.1.2.1=s.2.1.2.1):=by rintro⟨h1,h2⟩;unfold aZ at hn;rw[dY h1,dY h2]at hn;cases hn
 unfold axS rG;omega
theorem Aq{l:List PtD}(O:OkR l)(hf:∀ s∈sgD l,jd s=true):rL l:=by
 intro s hs;have hf:=hf s hs;obtain⟨i,hi,rfl⟩:=R6 hs;have hl:=iv l;have h1:i+1<l.length:=by omega
 rw[t6 l i hi (by omega) h1]at hf ⊢;exact⟨⟨O.2.2.1 _ (RA _),O.2.2.1 _ (RA _)⟩,NA hf (nW O i h1)⟩
noncomputable def jn(E P:List PtD)(h:List (List PtD))(e:Nat):Bool:=
 eqI (gx E e).1 (gx E e).2.1||(!pB E P h e||(((A2 (sgN h e)).any λk=>(A2 k).any (rgB (ef h e) k))||(A2 P.length).any λv=>(A2 (sgN h e)).any (frB P (gx E e) (ef h e) v)))
theorem FF(K:K43 E P h):wl (N,E,P,h,0,())=some (cond ((A2 E.length).any (jn E P h)) (.inl (false,())) (.inr (.inl (N,E,P,h,())))):=by
 have:=df (B:=pU) (A2 E.length) (λe=>(N,E,P,h,(e:Int),())) (jn E P h) (.inl (false,())) (.inr (.inl (N,E,P,h,()))) (by
  intro e he;have he':e<E.length:=by simpa using he
  rw[dz];obtain⟨a,l,p,q,e1,e2,e3,e4,e5,e6,e7,e8⟩:=K.path he';have ha:gx E e=a:=by unfold gx;rw[e1];rfl
  have hl:ef h e=l:=by unfold ef;rw[e2];rfl
  have hP:=K.hP;have hE:=K.hE;simp only[pU,jn,sgN,ha,hl];rw[cr (by omega),UA,aR,e1,pw];cases eqI a.1 a.2.1 with
  |true=>rfl
  |false=>
   simp only[UB,Sw];rw[aR,e2,pw,e3,pw,e4,pw];cases hb:pB E P h e with
   |false=>rw[e7 hb];rfl
   |true=>
    obtain⟨O,hf,hp⟩:=e8 hb;have hs:=Aq O hf;rw[hp,DB l (by omega) hs];simp only[RU,Sw];cases(A2 (l.length-1)).any λk=>(A2 k).any (rgB l k)with
    |true=>rfl
    |false=>
     simp only[UB,pw,Sum.elim_inr,Sum.elim_inl,RU,Sw];rw[show Zbj (P,(a.1,a.2.1,()),l,())=_ from JF P a l (by omega) K.pv (by omega) hs];have ad:ae .i64 (e:Int) 1=((e+1:Nat):Int):=d9 (by omega);cases(A2 P.length).any λv=>(A2 (l.length-1)).any (frB P a l v)with
     |true=>rfl
     |false=>exact congrArg (λz:Int=>(some (Sum.inl (N,E,P,h,z,())):Option (_⊕((Bool×Unit)⊕((Int×List PtD×List PtD×List (List PtD)×Unit)⊕Empty))))) ad) (by
  simp only[pU,RZ];rw[cf (by omega)];rfl)
 exact this
noncomputable def raB(E P:List PtD)(h:List (List PtD))(e f x y:Nat):Bool:=vB (Zau (P,gx E e,gx E f,rC h e x,rC h f y,()))
theorem pM{e x:Nat}{l:List PtD}(he:h[e]?=some l)(hx:x+1<l.length):rC h e x=(l[x],l[x+1],()):=by unfold rC ef;rw[he,Option.getD_some,fp hx];rfl
theorem Cl (K:K43 E P h)(hne:∀ l∈h,l≠[])
  (htot:∀ e f x y,e<E.length->f<e->x<sgN h e->y<sgN h f->∃ b,Zau (P,gx E e,gx E f,rC h e x,rC h f y,())=some (b,())) :
  nA (N,E,P,h,0,())=some (cond ((A2 E.length).any λe=>(A2 e).any λf=>(A2 (sgN h e)).any λx=>(A2 (sgN h f)).any λy=>!raB E P h e f x y) (.inl (false,())) (.inr (.inl ()))):=by
 have hE:=K.hE;have hh:=K.hh;have at_:∀ e,e<E.length->∃ a l,E[e]?=some a/\h[e]?=some l/\gx E e=a/\ef h e=l/\l.length<=20/\0<l.length:=by
  intro e he;have hhe:e<h.length:=by omega
  refine⟨E[e],h[e],dg he,dg hhe,?_,?_,K.hl _ (RA hhe),List.length_pos_iff.2 (hne _ (RA hhe))⟩
  ·unfold gx;rw[dg he];rfl
  unfold ef;rw[dg hhe];rfl
 have l19:∀ e f x,e < E.length->f < e->x < sgN h e->tW (N,E,P,h,(e:Int),(f:Int),(x:Int),0,()) =
   some (cond ((A2 (sgN h f)).any λy=>!raB E P h e f x y) (.inl (false,())) (.inr (.inl (N,E,P,h,(e:Int),(f:Int),(x:Int),())))):=by
  intro e f x he hf hx;obtain⟨a,l,e1,e2,e3,e4,e5,e6⟩:=at_ e he;obtain⟨b,k,f1,f2,f3,f4,f5,f6⟩:=at_ f (by omega);have hsf:sgN h f=k.length-1:=by unfold sgN;rw[f4]
  have hse:sgN h e=l.length-1:=by unfold sgN;rw[e4]
  have:=df (B:=nC) (A2 (sgN h f)) (λy=>(N,E,P,h,(e:Int),(f:Int),(x:Int),(y:Int),())) (λy=>!raB E P h e f x y) (.inl (false,())) (.inr (.inl (N,E,P,h,(e:Int),(f:Int),(x:Int),()))) (by
   intro y hy;have hy':y<sgN h f:=by simpa using hy
   rw[dz];obtain⟨r,hr⟩:=htot e f x y he hf hx hy';have hrb:raB E P h e f x y=r:=Oa hr;rw[hrb];rw[e3,f3,pM e2 (by omega),pM f2 (by omega)]at hr;have ad:ae .i64 (y:Int) 1=((y+1:Nat):Int):=d9 (by omega);simp only[nC];rw[aR,f2,pw,ad,cr (by omega),UA,aR,e1,pw,aR,f1,pw,aR,e2,pw,iC l x (by omega) (by omega),pw,pw,iC k y (by omega) (by omega),pw];rw[show Zau (P,a,b,((l[x].1,l[x].2.1,()),(l[x+1].1,l[x+1].2.1,()),()),((k[y].1,k[y].2.1,()),(k[y+1].1,k[y+1].2.1,()),()),())=_ from hr];cases r<;>rfl) (by
   have ad:ae .i64 ((sgN h f:Nat):Int) 1=((sgN h f+1:Nat):Int):=d9 (by omega);simp only[nC,RZ];rw[aR,f2,pw,ad,cf (by omega)];rfl)
  exact this
 have l16:∀ e f,e < E.length->f < e->tn (N,E,P,h,(e:Int),(f:Int),0,()) =
   some (cond ((A2 (sgN h e)).any λx=>(A2 (sgN h f)).any λy=>!raB E P h e f x y) (.inl (false,())) (.inr (.inl (N,E,P,h,(e:Int),(f:Int),())))):=by
  intro e f he hf;obtain⟨a,l,e1,e2,e3,e4,e5,e6⟩:=at_ e he;have hse:sgN h e=l.length-1:=by unfold sgN;rw[e4]
  have:=df (B:=nr) (A2 (sgN h e)) (λx=>(N,E,P,h,(e:Int),(f:Int),(x:Int),())) (λx=>(A2 (sgN h f)).any λy=>!raB E P h e f x y) (.inl (false,())) (.inr (.inl (N,E,P,h,(e:Int),(f:Int),()))) (by
   intro x hx;have hx':x<sgN h e:=by simpa using hx
   rw[dz];have ad:ae .i64 (x:Int) 1=((x+1:Nat):Int):=d9 (by omega);simp only[nr];rw[aR,e2,pw,ad,cr (by omega),UA,l19 e f x he hf hx'];cases(A2 (sgN h f)).any λy=>!raB E P h e f x y with
   |true=>rfl
   |false=>exact congrArg (λz:Int=>(some (Sum.inl (N,E,P,h,(e:Int),(f:Int),z,())):Option (_⊕((Bool×Unit)⊕((Int×List PtD×List PtD×List (List PtD)×Int×Int×Unit)⊕Empty))))) ad) (by
   have ad:ae .i64 ((sgN h e:Nat):Int) 1=((sgN h e+1:Nat):Int):=d9 (by omega);simp only[nr,RZ];rw[aR,e2,pw,ad,cf (by omega)];rfl)
  exact this
 have l13:∀ e,e < E.length->um (N,E,P,h,(e:Int),0,()) =
   some (cond ((A2 e).any λf=>(A2 (sgN h e)).any λx=>(A2 (sgN h f)).any λy=>!raB E P h e f x y) (.inl (false,())) (.inr (.inl (N,E,P,h,(e:Int),())))):=by
  intro e he;have:=df (B:=nt) (A2 e) (λf=>(N,E,P,h,(e:Int),(f:Int),())) (λf=>(A2 (sgN h e)).any λx=>(A2 (sgN h f)).any λy=>!raB E P h e f x y) (.inl (false,())) (.inr (.inl (N,E,P,h,(e:Int),()))) (by
   intro f hf;have hf':f<e:=by simpa using hf
   rw[dz];have ad:ae .i64 (f:Int) 1=((f+1:Nat):Int):=d9 (by omega);simp only[nt];rw[cr (by omega),UA,l16 e f he hf'];cases(A2 (sgN h e)).any λx=>(A2 (sgN h f)).any λy=>!raB E P h e f x y with
   |true=>rfl
   |false=>exact congrArg (λz:Int=>(some (Sum.inl (N,E,P,h,(e:Int),z,())):Option (_⊕((Bool×Unit)⊕((Int×List PtD×List PtD×List (List PtD)×Int×Unit)⊕Empty))))) ad) (by
   simp only[nt,RZ];rw[cf (by omega)];rfl)
  exact this
 have:=df (B:=nB) (A2 E.length) (λe=>(N,E,P,h,(e:Int),())) (λe=>(A2 e).any λf=>(A2 (sgN h e)).any λx=>(A2 (sgN h f)).any λy=>!raB E P h e f x y) (.inl (false,())) (.inr (.inl ())) (by
  intro e he;have he':e<E.length:=by simpa using he
  rw[dz];have ad:ae .i64 (e:Int) 1=((e+1:Nat):Int):=d9 (by omega);simp only[nB];rw[cr (by omega),UA,l13 e he'];cases(A2 e).any λf=>(A2 (sgN h e)).any λx=>(A2 (sgN h f)).any λy=>!raB E P h e f x y with
  |true=>rfl
  |false=>exact congrArg (λz:Int=>(some (Sum.inl (N,E,P,h,z,())):Option (_⊕((Bool×Unit)⊕(Unit⊕Empty))))) ad) (by
  simp only[nB,RZ];rw[cf (by omega)];rfl)
 exact this
theorem ub{e k:Nat}{l:List PtD}(hk:k+1<l.length):(pcL e l)[k]?=some ((e:Int),((k+1:Nat):Int),(l[k],l[k+1],()),()):=by
 have hp:k<(pcL e l).length:=by rw[fb];omega
 rw[dg hp,mG e l k hp hk]
theorem lS{e:Nat}{l:List PtD}{s:PcD}(hs:s∈pcL e l):∃ k,∃ hk:k+1<l.length,s=((e:Int),((k+1:Nat):Int),(l[k],l[k+1],()),()):=by obtain⟨k,hk,rfl⟩:=R6 hs;have hl:=fb e l;exact⟨k,by omega,mG e l k hk (by omega)⟩
theorem K0{a:PtD}{l:List PtD}{e k v:Nat}(hk:k+1<l.length):vxB P a ((l.length:Int)-1) ((e:Int),((k+1:Nat):Int),(l[k],l[k+1],()),()) v=frB P a l v k:=by
 unfold vxB frB;rw[dg hk,dg (show k<l.length by omega)];cases P[v]? with
 |none=>rfl
 |some q=>
  have h1:eqI ((k+1:Nat):Int) 1=eqI (k:Int) 0:=by
   by_cases h:k=0
   ·rw[dY (by omega),dY (by omega)]
   rw[dM (by omega),dM (by omega)]
  have h2:eqI ((k+1:Nat):Int) ((l.length:Int)-1)=eqI ((k+2:Nat):Int) (l.length:Int):=by
   by_cases h:k+2=l.length
   ·rw[dY (by omega),dY (by omega)]
   rw[dM (by omega),dM (by omega)]
  simp only[h1,h2];cases onB (l[k],l[k+1],()) q<;>cases eqI (v:Int) a.1<;>cases eqI (k:Int) 0<;>cases aZ q l[k]<;>cases eqI (v:Int) a.2.1<;>cases eqI ((k+2:Nat):Int) (l.length:Int)<;>cases aZ q l[k+1]<;>rfl
theorem qb (K:K43 E P h){e i j:Nat}{l:List PtD}(hs:rL l)(hl:l.length<=20)(hij:i < j)(hj:j+1 < l.length) :
  (apB N E P ((e:Int),((j+1:Nat):Int),(l[j],l[j+1],()),()) ((e:Int),((i+1:Nat):Int),(l[i],l[i+1],()),())=true↔rgB l j i=false):=by
 obtain⟨r,r1,r2⟩:=qh N E P (e:Int) (j+1) (i+1) (l[j],l[j+1],()) (l[i],l[i+1],()) (by omega) (by omega);have ha:apB N E P ((e:Int),((j+1:Nat):Int),(l[j],l[j+1],()),()) ((e:Int),((i+1:Nat):Int),(l[i],l[i+1],()),())=r:=by unfold apB;rw[r1]
 have gi:=fp (l:=l) (i:=i) (by omega);have gj:=fp (l:=l) (i:=j) hj;obtain⟨o1,a1⟩:=hs _ (B7 gi);obtain⟨o2,a2⟩:=hs _ (B7 gj);rw[ha,r2];unfold rgB;rw[gi,gj];simp only;by_cases he:i+1=j
 ·subst he;obtain⟨c,ok,t1,t2,_⟩:=qx _ _ o1 o2 a1 a2;rw[if_pos (.inl rfl),decide_eq_true rfl,UA,show tcB (l[i],l[i+1],()) (l[i+1],l[i+1+1],())=ok by unfold tcB;rw[t1],Bool.not_eq_false',t2,Gs];exact⟨λh=>⟨h,.inr (.inr (.inl rfl))⟩,λh=>h.1⟩
 rw[if_neg (by omega),decide_eq_false he,UB,Cj];have:=FT o1 o2 a1 a2;cases hm:mtB (l[i],l[i+1],()) (l[j],l[j+1],())with
 |true=>exact⟨λh=>absurd h (this.1 hm),λh=>(by cases h)⟩
 |false=>refine⟨λ_=>rfl,λ_=>?_⟩;exact Classical.not_not.1 λhn=>by rw[this.2 hn]at hm;cases hm
theorem gP{α:Type}{l:List α}{p:α->Bool}:l.any p=false↔∀ a∈l,p a=false:=by rw[List.any_eq_false];exact⟨λh a ha=>by simpa using h a ha,λh a ha=>by simp[h a ha]⟩
theorem bQ{n:Nat}{p:Nat->Bool}:(A2 n).any p=false↔∀ i,i<n->p i=false:=by rw[gP];exact⟨λh i hi=>h i (RF.2 hi),λh i hi=>h i (RF.1 hi)⟩
theorem Iu{n:Nat}{R:Nat->Nat->Prop}:(A2 n).Pairwise R↔∀ i j,j<n->i<j->R i j:=by rw[List.pairwise_iff_getElem];simp only[RZ,List.getElem_range];exact⟨λh i j hj hij=>h i j (by omega) hj hij,λh i j _ hj hij=>h i j hj hij⟩
end
end Go.Vm
