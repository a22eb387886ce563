/-
 OrthoChecks: the law.
-/
import Derived.Test.YtnkjongpfleloaaGreatDoorV43I
open List renaming getElem?_eq_getElem->dg,range->A2,mem_of_getElem?->B7,getElem_mem->RA,mem_range->RF,pairwise_iff_getElem->R3,getElem_of_mem->R6,any_eq_true->Sc,mem_flatMap->SD,length_take->SO,getElem_take->S5,mem_iff_getElem->T6
open Bool renaming and_eq_true->np,not_true->RU,or_eq_false_iff->Sj
open Option renaming bind_some->pw,getD_some->R8
open Option.some renaming inj->B6
open Int renaming toNat_natCast->Sy
open Sum renaming elim_inl->TG,elim_inr->TY
set_option linter.unusedVariables false
set_option linter.unusedSimpArgs false
namespace Go.Vm
set_option maxRecDepth 100000
attribute [local irreducible] ac
section
variable {N:Int}{E P:List PtD}{h:List (List PtD)}
theorem xJ(h:List (List PtD))(m:Nat):pcs h m=(A2 m).flatMap λe=>pcL e (ef h e):=rfl
theorem K43.ptOK(K:K43 E P h)(hsg:∀ l∈h,rL l){e:Nat}(he:e<E.length):rL (ef h e)/\(ef h e).length<=20/\h[e]?=some (ef h e)/\E[e]?=some (gx E e)/\inP P (gx E e).1/\inP P (gx E e).2.1:=by
 have hhe:e<h.length:=by rw[K.hh];exact he
 have h1:ef h e=h[e]:=by unfold ef;rw[dg hhe];rfl
 have h2:gx E e=E[e]:=by unfold gx;rw[dg he];rfl
 rw[h1,h2];exact⟨hsg _ (RA hhe),K.hl _ (RA hhe),dg hhe,dg he,(K.ar _ (RA he)).1,(K.ar _ (RA he)).2⟩
theorem mh (K:K43 E P h)(hsg:∀ l∈h,rL l){e f x y:Nat}(he:e < E.length)(hf:f < e)(hx:x+1 < (ef h e).length)(hy:y+1 < (ef h f).length)(i j:Int) :
  ∃ r,Zds ((N,E,()),P,((e:Int),i,((ef h e)[x],(ef h e)[x+1],()),()),((f:Int),j,((ef h f)[y],(ef h f)[y+1],()),()),())=some (r,()) /\
   Zau (P,gx E e,gx E f,rC h e x,rC h f y,())=some (r,()):=by
 obtain⟨s1,l1,h1,e1,a1,b1⟩:=K.ptOK hsg he;obtain⟨s2,l2,h2,e2,a2,b2⟩:=K.ptOK hsg (show f<E.length by omega);rw[pM h1 hx,pM h2 hy];obtain⟨o1,x1⟩:=s1 _ (B7 (fp hx));obtain⟨o2,x2⟩:=s2 _ (B7 (fp hy));exact qM N E P e f i j _ _ _ _ o1 o2 x1 x2 (by omega) (by rw[aR];exact e1) (by rw[aR];exact e2) a1 b1 a2 b2 K.pd
theorem Dt(K:K43 E P h)(hsg:∀ l∈h,rL l):∀ s∈pcs h E.length,∀ t∈pcs h E.length,∃ b,Zds ((N,E,()),P,s,t,())=some (b,()):=by
 intro s hs t ht;rw[xJ,SD]at hs ht;obtain⟨e,he,hs⟩:=hs;obtain⟨f,hf,ht⟩:=ht;have he:=RF.1 he;have hf:=RF.1 hf;obtain⟨k,hk,rfl⟩:=lS hs;obtain⟨m,hm,rfl⟩:=lS ht;obtain⟨s1,l1,h1,e1,a1,b1⟩:=K.ptOK hsg he;obtain⟨s2,l2,h2,e2,a2,b2⟩:=K.ptOK hsg hf;by_cases hef:e=f
 ·subst hef;obtain⟨r,hr,_⟩:=qh N E P (e:Int) (k+1) (m+1) ((ef h e)[k],(ef h e)[k+1],()) ((ef h e)[m],(ef h e)[m+1],()) (by omega) (by omega);exact⟨r,hr⟩
 obtain⟨o1,x1⟩:=s1 _ (B7 (fp hk));obtain⟨o2,x2⟩:=s2 _ (B7 (fp hm));obtain⟨r,hr,_⟩:=qM N E P e f ((k+1:Nat):Int) ((m+1:Nat):Int) _ _ _ _ o1 o2 x1 x2 (by omega) (by rw[aR];exact e1) (by rw[aR];exact e2) a1 b1 a2 b2 K.pd;exact⟨r,hr⟩
theorem yc (K:K43 E P h)(hsg:∀ l∈h,rL l):((A2 (pcs h E.length).length).any (oZ N E P h (pcs h E.length))=false) ↔
  (∀ e,e<E.length->(∀ k,k<sgN h e->∀ m,m<k->rgB (ef h e) k m=false)/\∀ v,v<P.length->∀ k,k<sgN h e->frB P (gx E e) (ef h e) v k=false) /\
  (∀ e f,e<E.length->f<e->∀ x,x<sgN h e->∀ y,y<sgN h f->raB E P h e f x y=true):=by
 have hpw:((A2 (pcs h E.length).length).any (oZ N E P h (pcs h E.length))=false) ↔
   (pcs h E.length).Pairwise (λt s=>apB N E P s t=true)/\∀ s∈pcs h E.length,∀ v,v<P.length->vxB P ((E[s.1.toNat]?).getD (0,0,())) ((((h[s.1.toNat]?).getD []).length:Int)-1) s v=false:=by
  rw[bQ,R3];generalize pcs h E.length=c;constructor
  ·intro H;have H':∀ i (hi:i<c.length),((c.take i).any λt=>!apB N E P c[i] t)=false/\(A2 P.length).any (vxB P ((E[c[i].1.toNat]?).getD (0,0,())) ((((h[c[i].1.toNat]?).getD []).length:Int)-1) c[i])=false:=by intro i hi;have:=H i hi;unfold oZ at this;rw[dg hi]at this;exact Sj.1 this
   refine⟨λi j hi hj hij=>?_,λs hs v hv=>?_⟩
   ·have hm:c[i]∈c.take j:=by rw[T6];exact⟨i,by rw[SO];omega,S5⟩
    have:=gP.1 (H' j hj).1 _ hm;simpa using this
   obtain⟨i,hi,rfl⟩:=R6 hs;exact bQ.1 (H' i hi).2 v hv
  rintro⟨H1,H2⟩ i hi;unfold oZ;rw[dg hi];refine Sj.2 ⟨gP.2 λt ht=>?_,bQ.2 λv hv=>H2 _ (RA hi) v hv⟩;obtain⟨j,hj,rfl⟩:=R6 ht;have hji:j<i:=by rw[SO]at hj;omega
  rw[show(c.take i)[j]=c[j]from S5,H1 j i (by omega) hi hji];rfl
 rw[hpw,xJ,List.pairwise_flatMap,Iu];constructor
 ·rintro⟨⟨H1,H2⟩,H3⟩;refine⟨λe he=>⟨λk hk m hm=>?_,λv hv k hk=>?_⟩,λe f he hf x hx y hy=>?_⟩
  ·obtain⟨s1,l1,h1,e1,a1,b1⟩:=K.ptOK hsg he;have hk1:k+1<(ef h e).length:=by unfold sgN at hk;omega
   have:=H1 e (RF.2 he);rw[R3]at this;have hpl:=fb e (ef h e);have:=this m k (by omega) (by omega) hm;rw[mG e _ m (by omega) (by omega),mG e _ k (by omega) hk1]at this;exact(qb K s1 l1 hm hk1).1 this
  ·obtain⟨s1,l1,h1,e1,a1,b1⟩:=K.ptOK hsg he;have hk1:k+1<(ef h e).length:=by unfold sgN at hk;omega
   have:=H3 _ (SD.2 ⟨e,RF.2 he,B7 (ub hk1)⟩) v hv;rw[Sy,e1,h1,R8,R8,K0 hk1]at this;exact this
  have hx1:x+1<(ef h e).length:=by unfold sgN at hx;omega
  have hy1:y+1<(ef h f).length:=by unfold sgN at hy;omega
  obtain⟨r,r1,r2⟩:=mh (N:=N) K hsg he hf hx1 hy1 ((x+1:Nat):Int) ((y+1:Nat):Int);have:=H2 f e he hf _ (B7 (ub hy1)) _ (B7 (ub hx1));unfold apB at this;rw[r1]at this;unfold raB;rw[r2];exact this
 rintro⟨H1,H2⟩;refine⟨⟨λe he=>?_,λf e he hf t ht s hs=>?_⟩,λs hs v hv=>?_⟩
 ·have he:=RF.1 he;obtain⟨s1,l1,h1,e1,a1,b1⟩:=K.ptOK hsg he;rw[R3];intro i j hi hj hij;have hpl:=fb e (ef h e);rw[mG e _ i hi (by omega),mG e _ j hj (by omega)];exact(qb K s1 l1 hij (by omega)).2 ((H1 e he).1 j (by unfold sgN;omega) i hij)
 ·obtain⟨y,hy1,rfl⟩:=lS ht;obtain⟨x,hx1,rfl⟩:=lS hs;obtain⟨r,r1,r2⟩:=mh (N:=N) K hsg he hf hx1 hy1 ((x+1:Nat):Int) ((y+1:Nat):Int);have:=H2 e f he hf x (by unfold sgN;omega) y (by unfold sgN;omega);unfold raB at this;rw[r2]at this;unfold apB;rw[r1];exact this
 obtain⟨e,he,hs⟩:=SD.1 hs;have he:=RF.1 he;obtain⟨k,hk,rfl⟩:=lS hs;obtain⟨s1,l1,h1,e1,a1,b1⟩:=K.ptOK hsg he;rw[Sy,e1,h1,R8,R8,K0 hk];exact(H1 e he).2 v hv k (by unfold sgN;omega)
theorem wV (N:Int)(E P:List PtD)(h:List (List PtD))(hE:E.length<=12)(hhl:h.length<=12)(hl:∀ l∈h,l.length<=20)(hP:P.length<=12) :
  ∃ b,Zeg ((N,E,()),P,h,())=some (b,())/\Zat ((N,E,()),P,h,())=some (b,()):=by
 unfold Zeg Zat;simp only;rw[Pd,MZ,CQ E (by omega),wE N P (by omega)];simp only[pw];cases hv:dvB N E with
 |false=>exact⟨false,rfl,rfl⟩
 |true=>
  simp only[RU,UB];by_cases hN:(P.length:Int)=N
  ·rw[At hN,dY hN];by_cases hH:h.length=E.length
   ·rw[At (show((h.length:Nat):Int)=(E.length:Nat) by omega)];cases hb:(A2 P.length).any (iN P)with
    |true=>
     refine⟨false,?_,rfl⟩;cases E.any λa=>eqI a.1 a.2.1 with
     |true=>rfl
     |false=>simp only[UB];rw[we N E P h (by omega),hb];rfl
    |false=>
     have hpts:=bQ.1 hb;have hpt:∀ i (hi:i<P.length),ptB P[i]=true/\∀ j,j<i->∀(hj:j<P.length),aZ P[i] P[j]=false:=by intro i hi;have:=hpts i hi;unfold iN at this;rw[dg hi]at this;obtain⟨h1,h2⟩:=Sj.1 this;refine⟨by simpa using h1,λj hji hj=>?_⟩;refine gP.1 h2 _ ?_;rw[T6];exact⟨j,by rw[SO];omega,S5⟩
     have hbad:∀ a∈E,mi N a=false:=by unfold dvB at hv;simp only[np,Bool.not_eq_true']at hv;exact gP.1 hv.2.2.2
     have K:K43 E P h:=by
      refine⟨hE,hH,hl,hP,λa ha=>?_,λp hp=>?_,λu v hu hv' huv=>?_⟩
      ·have:=hbad a ha;unfold mi at this;simp only[Sj]at this;obtain⟨h1,h2,h3,h4⟩:=this;simp only[ltI,geI,decide_eq_false_iff_not]at h1 h2 h3 h4;unfold inP;omega
      ·obtain⟨i,hi,rfl⟩:=R6 hp;exact(hpt i hi).1
      have hul:u.toNat<P.length:=by have:=hu.1;have:=hu.2;omega
      have hvl:v.toNat<P.length:=by have:=hv'.1;have:=hv'.2;omega
      rw[dg hul,dg hvl]at huv;have huv:=B6 huv;have h0:=hu.1;have h0':=hv'.1;rcases Nat.lt_trichotomy u.toNat v.toNat with hlt|heq|hgt
      ·have:=(hpt v.toNat hvl).2 u.toNat hlt hul;rw[bD.2 huv.symm]at this;cases this
      ·omega
      have:=(hpt u.toNat hul).2 v.toNat hgt hvl;rw[bD.2 huv]at this;cases this
     simp only[UB,RU];rw[we N E P h (by omega),hb,FF K];simp only[UB,pw,TY,TG];rw[wW K];cases hL:E.any λa=>eqI a.1 a.2.1 with
     |true=>
      refine⟨false,rfl,?_⟩;obtain⟨a,ha,hloop⟩:=Sc.1 hL;obtain⟨e,he,rfl⟩:=R6 ha;have:(A2 E.length).any (jn E P h)=true:=by refine Sc.2 ⟨e,RF.2 he,?_⟩;unfold jn gx;rw[dg he,R8,hloop];rfl
      rw[this];rfl
     |false=>
      have hnl:=gP.1 hL;simp only[UB];cases hpb:(A2 E.length).all (pB E P h)with
      |false=>
       refine⟨false,rfl,?_⟩;obtain⟨e,he,hbe⟩:=List.all_eq_false.1 hpb;have:(A2 E.length).any (jn E P h)=true:=by
        refine Sc.2 ⟨e,he,?_⟩;unfold jn;have:pB E P h e=false:=by simpa using hbe
        rw[this];simp
       rw[this];rfl
      |true=>
       have hpB:∀ e,e<E.length->pB E P h e=true:=λe he=>List.all_eq_true.1 hpb e (RF.2 he);have hO:∀ l∈h,OkR l/\∀ s∈sgD l,jd s=true:=by
        intro l hlm;obtain⟨e,he,rfl⟩:=R6 hlm;have he':e<E.length:=by omega
        obtain⟨a,l',p,q,e1,e2,e3,e4,e5,e6,e7,e8⟩:=K.path he';rw[dg he]at e2;cases e2;obtain⟨o,f,_⟩:=e8 (hpB e he');exact⟨o,f⟩
       have hsg:∀ l∈h,rL l:=λl hlm=>Aq (hO l hlm).1 (hO l hlm).2;have hne:∀ l∈h,l≠[]:=λl hlm=>(hO l hlm).1.1;have hlen:=tr K.hl E.length;simp only[UA,pw,TY,TG];rw[xn (N:=N) (pcs h E.length) (by omega) K (λs hs=>by
        obtain⟨e,he,hs⟩:=SD.1 (by rw[xJ]at hs;exact hs);have he:=RF.1 he;obtain⟨k,hk,rfl⟩:=lS hs;obtain⟨s1,_⟩:=K.ptOK hsg he;exact⟨(s1 _ (B7 (fp hk))).1,e,rfl,he⟩) (Dt K hsg)]
       have htot:∀ e f x y,e<E.length->f<e->x<sgN h e->y<sgN h f->∃ b,Zau (P,gx E e,gx E f,rC h e x,rC h f y,())=some (b,()):=by intro e f x y he hf hx hy;obtain⟨r,_,r2⟩:=mh (N:=N) K hsg he hf (x:=x) (y:=y) (by unfold sgN at hx;omega) (by unfold sgN at hy;omega) 0 0;exact⟨r,r2⟩
       have hpr:=Cl (N:=N) K hne htot;have hiff:=yc (N:=N) K hsg;have harc:((A2 E.length).any (jn E P h)=false)↔(∀ e,e<E.length->(∀ k,k<sgN h e->∀ m,m<k->rgB (ef h e) k m=false)/\∀ v,v<P.length->∀ k,k<sgN h e->frB P (gx E e) (ef h e) v k=false):=by
        rw[bQ];refine forall_congr' λe=>forall_congr' λhe=>?_;have h0:eqI (gx E e).1 (gx E e).2.1=false:=by unfold gx;rw[dg he,R8];exact hnl _ (RA he)
        unfold jn;rw[h0,hpB e he];simp only[RU,Bool.false_or,Sj];rw[bQ,bQ];constructor
        ·rintro⟨h1,h2⟩;exact⟨λk hk m hm=>bQ.1 (h1 k hk) m hm,λv hv k hk=>bQ.1 (h2 v hv) k hk⟩
        rintro⟨h1,h2⟩;exact⟨λk hk=>bQ.2 λm hm=>h1 k hk m hm,λv hv=>bQ.2 λk hk=>h2 v hv k hk⟩
       have hpair:((A2 E.length).any fun e=>(A2 e).any fun f=>(A2 (sgN h e)).any fun x=>(A2 (sgN h f)).any fun y=>!raB E P h e f x y)=false ↔
         (∀ e f,e<E.length->f<e->∀ x,x<sgN h e->∀ y,y<sgN h f->raB E P h e f x y=true):=by
        rw[bQ];constructor
        ·intro H e f he hf x hx y hy;have:=bQ.1 (bQ.1 (bQ.1 (H e he) f hf) x hx) y hy;simpa using this
        intro H e he;exact bQ.2 λf hf=>bQ.2 λx hx=>bQ.2 λy hy=>by rw[H e f he hf x hx y hy];rfl
       rw[<- harc,<- hpair]at hiff;revert hiff;revert hpr;cases(A2 (pcs h E.length).length).any (oZ N E P h (pcs h E.length))<;>cases(A2 E.length).any (jn E P h) <;>
        cases((A2 E.length).any λe=>(A2 e).any λf=>(A2 (sgN h e)).any λx=>(A2 (sgN h f)).any λy=>!raB E P h e f x y)<;>intro hpr hiff <;>
        first
        |(exfalso;revert hiff;decide)
        |exact⟨false,rfl,rfl⟩
        |(refine⟨true,rfl,?_⟩;show(nA (N,E,P,h,0,())).bind _=_;rw[hpr];rfl)
        |(refine⟨false,rfl,?_⟩;show(nA (N,E,P,h,0,())).bind _=_;rw[hpr];rfl)
   rw[BZ (show((h.length:Nat):Int)≠(E.length:Nat) by omega)];refine⟨false,?_,?_⟩
   ·cases E.any λa=>eqI a.1 a.2.1<;>rfl
   cases(A2 P.length).any (iN P)<;>rfl
  rw[BZ hN,dM hN];refine⟨false,?_,?_⟩
  ·cases E.any λa=>eqI a.1 a.2.1<;>rfl
  cases(A2 P.length).any (iN P)<;>rfl
theorem uR(P:List PtD)(h:List (List PtD)):∃ r,Zu (P,h,())=some (r,())/\(r=true->h.length<=12/\P.length<=12/\∀ l∈h,l.length<=20):=by
 obtain⟨r,hr,hq⟩:=dQ (f:=zM) (λx=>∃ i:Nat,x=(P,h,(i:Int),())/\i<=h.length/\i<=13/\∀ l∈h.take i,l.length<=20) (λx=>13-x.2.2.1.toNat)
  (λr=>r=.inl (false,())\/(r=.inr (.inl (P,h,()))/\(h.length<=12->∀ l∈h,l.length<=20))) (by
  rintro x ⟨i,rfl,hi,hi2,hall⟩;simp only[zM];by_cases hlt:i<h.length
  ·rw[cr (by omega),UA];by_cases h13:i<13
   ·rw[cr (by omega),UA,aR,dg hlt,pw];by_cases hg:h[i].length<=20
    ·rw[oN (by omega),UB,d9 (by omega)];refine .inl ⟨_,rfl,⟨i+1,rfl,hlt,h13,λl hlm=>?_⟩,?_⟩
     ·rw[List.take_succ_eq_append_getElem hlt,List.mem_append,List.mem_singleton]at hlm;rcases hlm with hlm|rfl
      ·exact hall l hlm
      exact hg
     show 13-((i+1:Nat):Int).toNat<13-(i:Int).toNat;omega
    rw[qQ (by omega)];exact .inr ⟨_,rfl,.inl rfl⟩
   rw[cf (by omega)];exact .inr ⟨_,rfl,.inr ⟨rfl,λh12=>by omega⟩⟩
  rw[cf (by omega)];rw[List.take_of_length_le (by omega)]at hall;exact .inr ⟨_,rfl,.inr ⟨rfl,λ_=>hall⟩⟩) (P,h,0,()) ⟨0,rfl,Nat.zero_le _,by omega,λl hlm=>by simp at hlm⟩
 unfold Zu;simp only;rw[show Il (P,h,0,())=_ from hr];rcases hq with rfl|⟨rfl,hq⟩
 ·exact⟨false,rfl,λh=>(by cases h)⟩
 simp only[pw,TY,TG];by_cases h1:h.length<=12
 ·rw[BO (by omega),UA];by_cases h2:P.length<=12
  ·rw[BO (by omega)];exact⟨true,rfl,λ_=>⟨h1,h2,hq h1⟩⟩
  rw[DS (by omega)];exact⟨false,rfl,λh=>(by cases h)⟩
 rw[DS (by omega)];exact⟨false,rfl,λh=>(by cases h)⟩
theorem nO(x:Q23)(hlives:Zan ()=some (true,())):Zn x=some (true,()):=by
 obtain⟨⟨N,E,_⟩,P,h,_⟩:=x;unfold Zn;simp only;have few:Zbx ((N,E,()),8,12,())=some (leI N 8&&leI (E.length:Int) 12,()):=by unfold Zbx;simp only;cases leI N 8<;>rfl
 obtain⟨r,r1,r2⟩:=uR P h;rw[few,r1,hlives];simp only[pw];cases hf:(leI N 8&&leI (E.length:Int) 12)with
 |false=>rfl
 |true=>
  cases r with
  |false=>rfl
  |true=>
   obtain⟨h1,h2,h3⟩:=r2 rfl;have hE:E.length<=12:=by rw[np]at hf;have:=hf.2;simp only[leI,decide_eq_true_eq]at this;omega
   obtain⟨b,b1,b2⟩:=wV N E P h hE h1 h3 h2;simp only[RU,UB];rw[show Zeg ((N,E,()),P,h,())=_ from b1,show Zat ((N,E,()),P,h,())=_ from b2];cases b<;>rfl
end
end Go.Vm
