/-
 The reference's optimal ranks; the law.
-/
import Derived.Test.YtdijhiodknmjaaaGreatDoorLF
open Option renaming bind_some->bv
open List renaming getElem?_eq_getElem->bx,getElem?_eq_some_iff->tz,getElem_mem->A2,getD_eq_getElem?_getD->A5,replicate->A7,mem_cons->A9,length_cons->B2,length_nil->B8,mem_of_getElem?->B9,map_cons->L3,length_replicate->L5,range->L7,length_set->L8,length_append->U6,take_succ_eq_append_getElem->Vf,any_eq_false->Vj,getElem?_set_ne->Vo,length_map->Vq,mem_singleton->Vu,getElem?_map->Vy,getElem?_set_self->VB,getElem?_eq_none->VG,getElem_of_mem->VJ,mem_map->VM,foldl_cons->VU,map_append->VX,take_length->V6,getElem?_replicate->Wc,of_mem_zip->Wu,map_nil->WL,mem_reverse->WW,singleton_append->XZ,not_mem_nil->YA,foldl_map->YL
open Option.some renaming injEq->ov,inj->L9
open Prod.mk renaming injEq->B4
open Nat renaming le_refl->B5,zero_le->L4,mul_le_mul->V9
open Sum renaming elim_inl->B7,elim_inr->Vx
open Bool renaming not_true->U8,not_false->Xc
open Int renaming toNat_of_nonneg->U9,toNat_natCast->VE,mul_le_mul_of_nonneg_left->WY,natAbs_mul->YS,sub_self->Y2
set_option linter.unusedVariables false
set_option linter.unusedSimpArgs false
/-
 AuditFinds: the reference's steps, and its least ranks.
-/
namespace Go.Vm
open Go.Proofs
open Net (Bd Stq gm pD ka Pot Swp TrI Par upd)
set_option maxRecDepth 100000
attribute [local irreducible] ab
abbrev StR:=Int×Bool×Int×Int×Int×Unit
def rX(s:StR):TrI:=(s.2.2.1.toNat,s.2.2.2.1.toNat,s.2.2.2.2.1)
section
variable {n:Nat}{L:List Bd}{f:List Int}
def stR(L:List Bd)(f:List Int)(i:Nat):List StR:=match L[i]?,f[i]? with
 |some b,some x=>((i:Int),false,b.1,b.2.1,b.2.2.1,())::cond (gtI x 0) [((i:Int),true,b.2.1,b.1,-b.2.2.1,())] []
 |_,_=>[]
def rsF(L:List Bd)(f:List Int):Nat->List StR
 |0=>[]
 |i+1=>rsF L f i++stR L f i
theorem Sy(i:Nat):(stR L f i).length<=2:=by
 unfold stR;cases L[i]? with
 |none=>simp
 |some b=>
  cases f[i]? with
  |none=>simp
  |some x=>simp only;cases gtI x 0<;>simp
theorem uP:∀ i,(rsF L f i).length<=2*i
 |0=>B5 _
 |i+1=>by have h1:=uP i;have h2:=Sy (L:=L) (f:=f) i;show(rsF L f i++stR L f i).length<=_;rw[U6];omega
theorem H2(i:Nat):∀ k,∃ rest,rsF L f (i+1+k)=rsF L f i++(stR L f i++rest)
 |0=>⟨[],by simp[rsF]⟩
 |k+1=>by obtain⟨rest,h⟩:=H2 i k;exact⟨rest++stR L f (i+1+k),by show rsF L f (i+1+k)++_=_;rw[h];simp⟩
theorem QJ{i m:Nat}(hi:i<m)(j:Nat){s:StR}(hj:(stR L f i)[j]?=some s):(rsF L f m)[(rsF L f i).length+j]?=some s:=by obtain⟨rest,h⟩:=H2 (L:=L) (f:=f) i (m-i-1);rw[show i+1+(m-i-1)=m by omega]at h;have hl:=(tz.1 hj).1;rw[h,List.getElem?_append_right (by omega),Nat.add_sub_cancel_left,List.getElem?_append_left hl];exact hj
theorem uS:∀{m:Nat} {s:StR},s∈rsF L f m↔∃ i,i<m/\s∈stR L f i
 |0,s=>by simp[rsF]
 |m+1,s=>by
  show s∈rsF L f m++stR L f m↔_;rw[List.mem_append,uS];constructor
  ·rintro(⟨i,h1,h2⟩|h)
   ·exact⟨i,by omega,h2⟩
   exact⟨m,by omega,h⟩
  rintro⟨i,h1,h2⟩;by_cases e:i=m
  ·subst e;exact .inr h2
  exact .inl ⟨i,by omega,h2⟩
theorem wM(hL:gm n L){i:Nat}{s:StR}:s∈stR L f i↔∃ bk u v g,s=((i:Int),bk,((u:Nat):Int),((v:Nat):Int),g,())/\Stq L f i bk u v g:=by
 unfold stR;cases hb:L[i]? with
 |none=>simp only[YA,false_iff];rintro⟨bk,u,v,g,_,b,x,b1,_⟩;rw[hb]at b1;cases b1
 |some b=>
  obtain⟨⟨q1,q2,q3,q4,q5⟩,q6⟩:=hL b (B9 hb);simp only[Bd.fr,Bd.to]at q1 q2 q3 q4 q5;cases hx:f[i]? with
  |none=>simp only[YA,false_iff];rintro⟨bk,u,v,g,_,b',x,b1,b2,_⟩;rw[hx]at b2;cases b2
  |some x=>
   simp only[A9];constructor
   ·rintro(rfl|h)
    ·exact⟨false,b.1.toNat,b.2.1.toNat,b.2.2.1,by rw[U9 q1,U9 q3],b,x,hb,hx,.inl ⟨rfl,(U9 q1).symm,(U9 q3).symm,rfl⟩⟩
    cases hg:gtI x 0 with
    |false=>rw[hg]at h;cases h
    |true=>
     rw[hg]at h;simp only[U3,Vu]at h;subst h;have hx0:0<x:=by unfold gtI at hg;exact of_decide_eq_true hg
     exact⟨true,b.2.1.toNat,b.1.toNat,-b.2.2.1,by rw[U9 q1,U9 q3],b,x,hb,hx,.inr ⟨rfl,hx0,(U9 q3).symm,(U9 q1).symm,rfl⟩⟩
   rintro⟨bk,u,v,g,rfl,b',x',b1,b2,b3⟩;rw[hb]at b1;cases b1
   rw[hx]at b2;cases b2
   rcases b3 with⟨rfl,c1,c2,rfl⟩|⟨rfl,c0,c1,c2,rfl⟩
   ·simp only[Bd.fr,Bd.to]at c1 c2;left;rw[c1,c2];rfl
   simp only[Bd.fr,Bd.to]at c1 c2;right;rw[pf c0,c1,c2];simp only[U3,Vu];rfl
theorem yD(hL:gm n L)(hB:pD L 64):Net.Steps n (Net.Res L f) ((rsF L f L.length).map rX) 64:=by
 refine⟨λs hs=>?_,λu v g ⟨i,bk,hs⟩=>?_,by omega⟩
 ·obtain⟨t,ht,rfl⟩:=VM.1 hs;obtain⟨i,hi,h2⟩:=uS.1 ht;obtain⟨bk,u,v,g,rfl,hst⟩:=(wM hL).1 h2;obtain⟨h3,h4,h5⟩:=hst.lt hL;exact⟨⟨i,bk,hst⟩,h3,h4,h5,(hst.gain hB).2⟩
 have hi:i<L.length:=by obtain⟨b,x,h1,_⟩:=hs;exact(tz.1 h1).1
 exact VM.2 ⟨((i:Int),bk,(u:Int),(v:Int),g,()),uS.2 ⟨i,hi,(wM hL).2 ⟨bk,u,v,g,rfl,hs⟩⟩,rfl⟩
theorem Mz{i:Nat}{b:Bd}{x:Int}(hb:L[i]?=some b)(hx:f[i]?=some x):stR L f i=((i:Int),false,b.1,b.2.1,b.2.2.1,())::cond (gtI x 0) [((i:Int),true,b.2.1,b.1,-b.2.2.1,())] []:=by unfold stR;rw[hb,hx]
theorem NJ(hf:f.length=L.length)(hl:L.length<=1000)(hB:pD L 64)(N:Int):lB ((N,L,()),f,())=some (rsF L f L.length,()):=by
 obtain⟨r,h1,rfl⟩:=aH (f:=im) (λx=>∃ i:Nat,i<=L.length/\x=(N,L,rsF L f i,f,(i:Int),())) (λx=>L.length-x.2.2.2.2.1.toNat)
  (λr=>r=.inl (rsF L f L.length,())) (by
  rintro x ⟨i,hi,rfl⟩;simp only[im];by_cases h:i<L.length
  ·have hb:=bx h;have hx:=bx (show i<f.length by omega);have hlen:=uP (L:=L) (f:=f) i;have hbl:=hB.2 _ (A2 h);simp only[Bd.len]at hbl;have hm:L.length-((i+1:Nat):Int).toNat<L.length-(i:Int).toNat:=by omega
   have he:rsF L f (i+1)=rsF L f i++stR L f i:=rfl;rw[Mz hb hx]at he;rw[aq (by omega),U3,ac,ac,hb,hx];simp only[bv];rw[bw (by simp only[B2,B8];omega),aR (by omega),nq (by omega) (by omega),Int.zero_sub];simp only[bv];left;cases hg:gtI f[i] 0 with
   |true=>rw[hg]at he;simp only[U3];rw[bw (by simp only[B2,B8,U6];omega)];exact⟨_,rfl,⟨i+1,h,by rw[he];simp⟩,hm⟩
   |false=>rw[hg]at he;exact⟨_,rfl,⟨i+1,h,by rw[he];rfl⟩,hm⟩
  have:i=L.length:=by omega
  subst this;rw[aj (by omega)];exact .inr ⟨_,rfl,rfl⟩) (N,L,[],f,0,()) ⟨0,L4 _,rfl⟩
 simp only[lB];rw[show mo (N,L,[],f,0,())=_ from h1];rfl
def SwL(n:Nat)(E:Nat->Nat->Int->Prop)(sl:List TrI)(m j:Nat)(C:List Int)(flag:Bool):Prop:=
 ∃ d par rk,Swp n E sl 64 m j d par rk/\C.length=n/\(∀ v,v<n->C.getD v 0=d v)/\(flag=true->∃ v,v<n/\rk v=m+1)/\(flag=false->∀ v,rk v<=m)
variable {E:Nat->Nat->Int->Prop}{sl:List TrI}{m j:Nat}{C:List Int}{flag:Bool}
theorem SwL.hit(hs:Net.Steps n E sl 64)(h:SwL n E sl m j C flag){u v:Nat}{g:Int}(hj:sl[j]?=some (u,v,g))(hlt:C.getD v 0<C.getD u 0+g):SwL n E sl m (j+1) (C.set v (C.getD u 0+g)) true:=by
 obtain⟨d,par,rk,h1,h2,h3,h4,h5⟩:=h;obtain⟨_,hu,hv,_,_⟩:=hs.ok _ (B9 hj);simp only at hu hv;rw[h3 u hu,h3 v hv]at hlt;refine⟨_,_,_,h1.hit hs hj hlt,by rw[L8,h2],λw hw=>?_,λ_=>⟨v,hv,Net.upd_self _ _ _⟩,λe=>by cases e⟩;rw[nJ (by omega)];unfold upd;rw[h3 u hu];by_cases e:w=v
 ·subst e;rw[if_pos rfl,if_pos rfl]
 rw[if_neg e,if_neg e];exact h3 w hw
theorem SwL.pass(hs:Net.Steps n E sl 64)(h:SwL n E sl m j C flag){u v:Nat}{g:Int}(hj:sl[j]?=some (u,v,g))(hge:C.getD u 0+g<=C.getD v 0):SwL n E sl m (j+1) C flag:=by obtain⟨d,par,rk,h1,h2,h3,h4,h5⟩:=h;obtain⟨_,hu,hv,_,_⟩:=hs.ok _ (B9 hj);simp only at hu hv;rw[h3 u hu,h3 v hv]at hge;exact⟨d,par,rk,h1.pass hs hj hge,h2,h3,h4,h5⟩
theorem SwL.bd(h:SwL n E sl m j C flag){v:Nat}(hv:v<n):0<=C.getD v 0/\C.getD v 0<=64*((m*sl.length+j:Nat):Int):=by obtain⟨d,par,rk,h1,h2,h3,_⟩:=h;rw[h3 v hv];exact⟨h1.nn v,h1.hi v⟩
theorem SwL.len(h:SwL n E sl m j C flag):C.length=n:=by obtain⟨d,par,rk,_,h2,_⟩:=h;exact h2
theorem SwL.get(h:SwL n E sl m j C flag){v:Nat}(hv:v<n):C[v]?=some (C.getD v 0):=by rw[A5,bx (show v<C.length by rw[h.len];exact hv)];rfl
def Nr(a:Int)(b:List Bd)(d:List Int)(e g:Int)(y:Bd)(C:List Int)(flag:Bool):Option ((Int×(List Q12)×List Int×List Int×Int×Bool×Int×Unit)⊕((Int×(List Q12)×List Int×List Int×Int×Bool×Unit)⊕Empty)):=
 cond (ltI g (d.length:Nat)) ((ai d g).bind λy10=>cond (gtI y10 0) ((aN C.length y.1).bind λj11=>(C[j11]?).bind λy12=>(aN C.length y.2.1).bind λj13=>(C[j13]?).bind λy14=>cond (ltI y12 (aK .i64 y14 y.2.2.1))
  ((aN C.length y.2.1).bind λj15=>(C[j15]?).bind λy16=>(aN C.length y.1).bind λj17=>(C[j17]?).bind λy18=>some (.inl (a,b,(C.set j17 (aK .i64 y16 y.2.2.1)),d,e,true,(af .i64 g 1),())))
  (some (.inl (a,b,C,d,e,flag,(af .i64 g 1),())))) (some (.inl (a,b,C,d,e,flag,(af .i64 g 1),())))) (some (.inl (a,b,C,d,e,flag,(af .i64 g 1),())))
theorem Ub(a:Int)(b:List Bd)(c d:List Int)(e:Int)(f:Bool)(g:Int):ii (a,b,c,d,e,f,g,())=
  cond (ltI g (b.length:Nat)) ((ai b g).bind λy1=>(aN c.length y1.2.1).bind λj2=>(c[j2]?).bind λy3=>(aN c.length y1.1).bind λj4=>(c[j4]?).bind λy5=>cond (ltI y3 (af .i64 y5 y1.2.2.1))
   ((aN c.length y1.1).bind λj6=>(c[j6]?).bind λy7=>(aN c.length y1.2.1).bind λj8=>(c[j8]?).bind λy9=>Nr a b d e g y1 (c.set j8 (af .i64 y7 y1.2.2.1)) true) (Nr a b d e g y1 c f)) (some (.inr (.inl (a,b,c,d,e,f,())))):=rfl
theorem PC(hL:gm n L)(hB:pD L 64)(hl:L.length<=8)(hm:m<=10)(hf:f.length=L.length){D:List Int}(hD:D=f\/(D=[]/\∀ x∈f,x=0)){i:Nat}(hi:i<L.length)(e:Int)(h:SwL n (Net.Res L f) ((rsF L f L.length).map rX) m ((rsF L f i).length+1) C flag):
  ∃ C' flag',Nr (n:Int) L D e (i:Int) L[i] C flag=some (.inl ((n:Int),L,C',D,e,flag',((i+1:Nat):Int),()))/\SwL n (Net.Res L f) ((rsF L f L.length).map rX) m (rsF L f (i+1)).length C' flag':=by
 have hb:=bx hi;have hx:=bx (show i<f.length by omega);have he:=Mz hb hx;have hlen:(rsF L f (i+1)).length=(rsF L f i).length+(stR L f i).length:=by show(rsF L f i++stR L f i).length=_;rw[U6]
 obtain⟨⟨q1,q2,q3,q4,q5⟩,q6⟩:=hL _ (A2 hi);have hbl:=hB.2 _ (A2 hi);simp only[Bd.fr,Bd.to,Bd.len]at q1 q2 q3 q4 q5 hbl;have hsl:((rsF L f L.length).map rX).length<=16:=by rw[Vq];have:=uP (L:=L) (f:=f) L.length;omega
 have hsi:=uP (L:=L) (f:=f) i;have hmm:m*((rsF L f L.length).map rX).length<=10*16:=V9 hm hsl;have hst:=yD (f:=f) hL hB;unfold Nr
 have stay:gtI f[i] 0=false->∃ C' flag',(some (.inl ((n:Int),L,C,D,e,flag,af .i64 (i:Int) 1,())):Option ((Int×(List Q12)×List Int×List Int×Int×Bool×Int×Unit)⊕((Int×(List Q12)×List Int×List Int×Int×Bool×Unit)⊕Empty)))=some (.inl ((n:Int),L,C',D,e,flag',((i+1:Nat):Int),()))/\SwL n (Net.Res L f) ((rsF L f L.length).map rX) m (rsF L f (i+1)).length C' flag':=λhg=>by rw[hg]at he;rw[aR (by omega)];refine⟨C,flag,rfl,?_⟩;rw[hlen,he];exact h
 rcases hD with rfl|⟨rfl,h0⟩
 ·rw[aq (by omega),U3,ac,hx];simp only[bv];cases hg:gtI D[i] 0 with
  |false=>exact stay hg
  |true=>
   obtain⟨fr,hfr⟩:∃ k:Nat,L[i].1=k:=⟨L[i].1.toNat,by omega⟩;obtain⟨tt,htt⟩:∃ k:Nat,L[i].2.1=k:=⟨L[i].2.1.toNat,by omega⟩;have hfn:fr<n:=by omega
   have htn:tt<n:=by omega
   have b1:=h.bd hfn;have b2:=h.bd htn;rw[hg]at he;have hj:((rsF L D L.length).map rX)[(rsF L D i).length+1]?=some (tt,fr,-L[i].2.2.1):=by rw[Vy,QJ hi 1 (by rw[he];rfl)];show some (L[i].2.1.toNat,L[i].1.toNat,-L[i].2.2.1)=_;rw[htt,hfr];rfl
   simp only[U3];rw[hfr,htt,h.len,aB hfn];simp only[bv];rw[h.get hfn,aB htn];simp only[bv];rw[h.get htn];simp only[bv];rw[nq (by omega) (by omega),aR (by omega)];have hl2:(rsF L D (i+1)).length=(rsF L D i).length+1+1:=by rw[hlen,he];rfl
   by_cases hlt:C.getD fr 0<C.getD tt 0-L[i].2.2.1
   ·rw[aq hlt];refine⟨_,_,rfl,?_⟩;have:=h.hit hst hj (by omega);rw[hl2];exact this
   rw[aj (by omega)];refine⟨_,_,rfl,?_⟩;rw[hl2];exact h.pass hst hj (by omega)
 rw[aj (by simp),U4];exact stay (by rw[h0 _ (A2 (show i<f.length by omega))];rfl)
theorem PI(hL:gm n L)(hB:pD L 64)(hl:L.length<=8)(hm:m<=10)(hf:f.length=L.length){D:List Int}(hD:D=f\/(D=[]/\∀ x∈f,x=0))(e:Int)(h:SwL n (Net.Res L f) ((rsF L f L.length).map rX) m 0 C false):
  ∃ C' flag',mD ((n:Int),L,C,D,e,false,0,())=some (.inl ((n:Int),L,C',D,e,flag',()))/\SwL n (Net.Res L f) ((rsF L f L.length).map rX) m ((rsF L f L.length).map rX).length C' flag':=by
 obtain⟨r,h1,C',flag',rfl,h2⟩:=aH (f:=ii) (λx=>∃(i:Nat) (C:List Int) (flag:Bool),i<=L.length/\x=((n:Int),L,C,D,e,flag,(i:Int),())/\SwL n (Net.Res L f) ((rsF L f L.length).map rX) m (rsF L f i).length C flag) (λx=>L.length-x.2.2.2.2.2.2.1.toNat)
  (λr=>∃ C' flag',r=.inl ((n:Int),L,C',D,e,flag',())/\SwL n (Net.Res L f) ((rsF L f L.length).map rX) m ((rsF L f L.length).map rX).length C' flag') (by
  rintro x ⟨i,C,flag,hi,rfl,hS⟩;rw[Ub];by_cases h:i<L.length
  ·have hb:=bx h;have hx:=bx (show i<f.length by omega);obtain⟨⟨q1,q2,q3,q4,q5⟩,q6⟩:=hL _ (A2 h);have hbl:=hB.2 _ (A2 h);simp only[Bd.fr,Bd.to,Bd.len]at q1 q2 q3 q4 q5 hbl;have hsl:((rsF L f L.length).map rX).length<=16:=by rw[Vq];have:=uP (L:=L) (f:=f) L.length;omega
   have hsi:=uP (L:=L) (f:=f) i;have hmm:m*((rsF L f L.length).map rX).length<=10*16:=V9 hm hsl;have hst:=yD (f:=f) hL hB;have hms:L.length-((i+1:Nat):Int).toNat<L.length-(i:Int).toNat:=by omega
   obtain⟨fr,hfr⟩:∃ k:Nat,L[i].1=k:=⟨L[i].1.toNat,by omega⟩;obtain⟨tt,htt⟩:∃ k:Nat,L[i].2.1=k:=⟨L[i].2.1.toNat,by omega⟩;have hfn:fr<n:=by omega
   have htn:tt<n:=by omega
   have b1:=hS.bd hfn;have b2:=hS.bd htn;have hj:((rsF L f L.length).map rX)[(rsF L f i).length]?=some (fr,tt,L[i].2.2.1):=by have:=QJ (L:=L) (f:=f) h 0 (by rw[Mz hb hx];rfl);rw[Nat.add_zero]at this;rw[Vy,this];show some (L[i].1.toNat,L[i].2.1.toNat,L[i].2.2.1)=_;rw[htt,hfr];rfl
   rw[aq (by omega),U3,ac,hb];simp only[bv];left;rw[show aN C.length L[i].2.1=some tt by rw[htt,aB (by rw[hS.len];exact htn)],show aN C.length L[i].1=some fr by rw[hfr,aB (by rw[hS.len];exact hfn)]];simp only[bv];rw[hS.get htn,hS.get hfn];simp only[bv];rw[oT (by omega) (by omega)];by_cases hlt:C.getD tt 0<C.getD fr 0+L[i].2.2.1
   ·rw[aq hlt,U3];obtain⟨C',flag',e1,e2⟩:=PC hL hB hl hm hf hD h e (hS.hit hst hj hlt);rw[e1];exact⟨_,rfl,⟨i+1,C',flag',h,rfl,e2⟩,hms⟩
   rw[aj (by omega),U4];obtain⟨C',flag',e1,e2⟩:=PC hL hB hl hm hf hD h e (hS.pass hst hj (by omega));rw[e1];exact⟨_,rfl,⟨i+1,C',flag',h,rfl,e2⟩,hms⟩
  have:i=L.length:=by omega
  subst this;rw[aj (by omega)];refine .inr ⟨_,rfl,C,flag,rfl,?_⟩;rw[Vq];exact hS) ((n:Int),L,C,D,e,false,0,()) ⟨0,C,false,L4 _,rfl,h⟩
 exact⟨C',flag',h1,h2⟩
theorem M9(hL:gm n L)(hB:pD L 64)(hl:L.length<=8)(hn:n<=7)(hf:f.length=L.length)(hnp:ka (Net.Res L f)){D:List Int}(hD:D=f\/(D=[]/\∀ x∈f,x=0)):
  ∃ r,ic (((n:Int),L,()),D,())=some (r,true,())/\r.length=n/\Pot (Net.Res L f) (λv=>r.getD v 0)/\∀ x∈r,0<=x/\x<=1000000:=by
 have hst:=yD (f:=f) hL hB;have hsl:((rsF L f L.length).map rX).length<=16:=by rw[Vq];have:=uP (L:=L) (f:=f) L.length;omega
 simp only[ic];rw[fR (B5 _) (by omega)];simp only[bv];obtain⟨r,h1,C,rfl,c1,c2,c3⟩:=aH (f:=iD) (λx=>∃(m:Nat) (C:List Int),x=((n:Int),L,C,D,(m:Int),())/\(m=0\/m<n)/\SwL n (Net.Res L f) ((rsF L f L.length).map rX) m 0 C false) (λx=>n+2-x.2.2.2.2.1.toNat)
  (λr=>∃ C:List Int,r=.inl (C,true,())/\C.length=n/\Pot (Net.Res L f) (λv=>C.getD v 0)/\∀ x∈C,0<=x/\x<=1000000) (by
  rintro x ⟨m,C,rfl,hm,hS⟩;simp only[iD];rw[aR (by omega),MI (by omega),U3];obtain⟨C',flag',e1,e2⟩:=PI hL hB hl (by omega) hf hD (m:Int) hS;rw[e1];simp only[bv,B7];cases flag' with
  |true=>obtain⟨d,par,rk,s1,s2,s3,s4,s5⟩:=e2;obtain⟨v,hv,hr⟩:=s4 rfl;have:=s1.count hnp hv hr;rw[aR (by omega)];refine .inl ⟨_,rfl,⟨m+1,C',rfl,by omega,d,par,rk,s1.turn,s2,s3,(λe=>by cases e),λ_ v=>by have:=s1.rkm v;omega⟩,by show n+2-((m+1:Nat):Int).toNat<n+2-(m:Int).toNat;omega⟩
  |false=>
   refine .inr ⟨_,rfl,C',rfl,e2.len,?_,λx hx=>?_⟩
   ·obtain⟨d,par,rk,s1,s2,s3,s4,s5⟩:=e2;have hp:=s1.still hst (s5 rfl);intro u v g hr;obtain⟨i,bk,hs⟩:=hr;obtain⟨hu,hv,_⟩:=hs.lt hL;show C'.getD u 0+g<=C'.getD v 0;rw[s3 u hu,s3 v hv];exact hp u v g ⟨i,bk,hs⟩
   obtain⟨v,hv,e⟩:=VJ hx;have hvn:v<n:=by rw[e2.len]at hv;exact hv
   have hb:=e2.bd hvn;rw[A5,bx hv]at hb;have hb:0<=C'[v]/\C'[v]<=64*((m*((rsF L f L.length).map rX).length+((rsF L f L.length).map rX).length:Nat):Int):=hb;have hmm:m*((rsF L f L.length).map rX).length<=10*16:=V9 (by omega) hsl;rw[<- e];omega) ((n:Int),L,A7 n 0,D,0,()) ⟨0,_,rfl,.inl rfl,λ_=>0,λ_=>none,λ_=>0,Swp.init hst,L5,λv hv=>by
    rw[A5,Wc,if_pos hv];rfl,(λe=>by cases e),λ_ v=>B5 _⟩
 rw[show mu ((n:Int),L,A7 n (aL I),D,0,())=_ from h1];exact⟨C,rfl,c1,c2,c3⟩
end
end Go.Vm

/-
 AuditFinds: the reference looks for a closed walk that gains.
-/
namespace Go.Vm
open Go.Proofs
open Net (Bd Stq gm pD ka Pot Swp TrI Par upd aM Rlx)
set_option maxRecDepth 100000
attribute [local irreducible] ab
section
variable {n:Nat}{L:List Bd}{f:List Int}
def E9(R:List StR)(par:Par)(last:List Int):Prop:=∀ v u g,par v=some (u,g)->∃(k:Nat) (s:StR),last[v]?=some (k:Int)/\R[k]?=some s/\s.2.2.1=(u:Int)/\s.2.2.2.1=(v:Int)/\s.2.2.2.2.1=g
structure SwC (n:Nat)(E:Nat->Nat->Int->Prop)(R:List StR)(m j:Nat)(C last:List Int)(par:Par)(rk:Nat->Nat):Prop where
 sw:∃ d,Swp n E (R.map rX) 64 m j d par rk/\∀ v,v<n->C.getD v 0=d v
 cl:C.length=n
 ll:last.length=n
 lo:E9 R par last
variable {E:Nat->Nat->Int->Prop}{R:List StR}{m j:Nat}{C last:List Int}{par:Par}{rk:Nat->Nat}
theorem SwC.hit(hs:Net.Steps n E (R.map rX) 64)(h:SwC n E R m j C last par rk){s:StR}{u v:Nat}{g:Int}(hj:R[j]?=some s)(hu:s.2.2.1=(u:Int))(hv:s.2.2.2.1=(v:Int))(hg:s.2.2.2.2.1=g)(hlt:C.getD v 0<C.getD u 0+g):
  SwC n E R m (j+1) (C.set v (C.getD u 0+g)) (last.set v (j:Int)) (upd par v (some (u,g))) (upd rk v (m+1)):=by
 obtain⟨d,h1,h3⟩:=h.sw;have hcl:=h.cl;have hll:=h.ll;have ht:(R.map rX)[j]?=some (u,v,g):=by rw[Vy,hj];show some (s.2.2.1.toNat,s.2.2.2.1.toNat,s.2.2.2.2.1)=_;rw[hu,hv,hg];rfl
 obtain⟨_,hu',hv',_,_⟩:=hs.ok _ (B9 ht);simp only at hu' hv';rw[h3 u hu',h3 v hv']at hlt;refine⟨⟨_,h1.hit hs ht hlt,λw hw=>?_⟩,by rw[L8,hcl],by rw[L8,hll],λw u' g' hp=>?_⟩
 ·rw[nJ (by omega)];unfold upd;rw[h3 u hu'];by_cases e:w=v
  ·subst e;rw[if_pos rfl,if_pos rfl]
  rw[if_neg e,if_neg e];exact h3 w hw
 unfold upd at hp;by_cases e:w=v
 ·subst e;rw[if_pos rfl]at hp;cases hp;exact⟨j,s,VB (by omega),hj,hu,hv,hg⟩
 rw[if_neg e]at hp;obtain⟨k,s',k1,k2⟩:=h.lo w u' g' hp;exact⟨k,s',by rw[Vo (Ne.symm e)];exact k1,k2⟩
theorem SwC.pass(hs:Net.Steps n E (R.map rX) 64)(h:SwC n E R m j C last par rk){s:StR}{u v:Nat}{g:Int}(hj:R[j]?=some s)(hu:s.2.2.1=(u:Int))(hv:s.2.2.2.1=(v:Int))(hg:s.2.2.2.2.1=g)(hge:C.getD u 0+g<=C.getD v 0):SwC n E R m (j+1) C last par rk:=by
 obtain⟨d,h1,h3⟩:=h.sw;have ht:(R.map rX)[j]?=some (u,v,g):=by rw[Vy,hj];show some (s.2.2.1.toNat,s.2.2.2.1.toNat,s.2.2.2.2.1)=_;rw[hu,hv,hg];rfl
 obtain⟨_,hu',hv',_,_⟩:=hs.ok _ (B9 ht);simp only at hu' hv';rw[h3 u hu',h3 v hv']at hge;exact⟨⟨d,h1.pass hs ht hge,h3⟩,h.cl,h.ll,h.lo⟩
theorem TL(hL:gm n L)(hB:pD L 64)(hl:L.length<=8)(hm:m<=10)(x:Int)(h:SwC n (Net.Res L f) (rsF L f L.length) m 0 C last par rk)(hrk:∀ v,rk v<=m):
  ∃ C' last' at' par' rk',mQ (C,last,rsF L f L.length,(n:Int),-1,x,0,())=some (.inl (C',last',rsF L f L.length,(n:Int),at',x,()))/\SwC n (Net.Res L f) (rsF L f L.length) m (rsF L f L.length).length C' last' par' rk' /\
   ((at'=-1/\∀ v,rk' v<=m)\/∃ v:Nat,v<n/\at'=(v:Int)/\rk' v=m+1):=by
 have hst:=yD (f:=f) hL hB;have hsl:(rsF L f L.length).length<=16:=by have:=uP (L:=L) (f:=f) L.length;omega
 have hmm:m*(rsF L f L.length).length<=10*16:=V9 hm hsl;obtain⟨r,h1,C',last',at',par',rk',rfl,h2,h3⟩:=aH (f:=iF) (λx'=>∃(j:Nat) (C last:List Int) (at':Int) (par:Par) (rk:Nat->Nat),j<=(rsF L f L.length).length/\x'=(C,last,rsF L f L.length,(n:Int),at',x,(j:Int),())/\SwC n (Net.Res L f) (rsF L f L.length) m j C last par rk/\((at'=-1/\∀ v,rk v<=m)\/∃ v:Nat,v<n/\at'=(v:Int)/\rk v=m+1)) (λx'=>(rsF L f L.length).length-x'.2.2.2.2.2.2.1.toNat)
  (λr=>∃ C' last' at' par' rk',r=.inl (C',last',rsF L f L.length,(n:Int),at',x,())/\SwC n (Net.Res L f) (rsF L f L.length) m (rsF L f L.length).length C' last' par' rk'/\((at'=-1/\∀ v,rk' v<=m)\/∃ v:Nat,v<n/\at'=(v:Int)/\rk' v=m+1)) (by
  rintro x' ⟨j,C,last,at',par,rk,hj,rfl,hS,hat⟩;simp only[iF];by_cases h:j<(rsF L f L.length).length
  ·have hx:=bx h;obtain⟨i,hi,hmem⟩:=uS.1 (A2 h);obtain⟨bk,u,v,g,he,hstp⟩:=(wM hL).1 hmem;obtain⟨hu,hv,huv⟩:=hstp.lt hL;have hg:=hstp.gain hB;have hmj:(rsF L f L.length).length-((j+1:Nat):Int).toNat<(rsF L f L.length).length-(j:Int).toNat:=by omega
   have hcl:=hS.cl;have hll:=hS.ll;obtain⟨d,d1,d2⟩:=hS.sw;have b1:=d1.nn u;have b2:=d1.hi u;rw[Vq]at b2;rw[<- d2 u hu]at b1 b2;have hgetC:∀ w,w<n->C[w]?=some (C.getD w 0):=λw hw=>by rw[A5,bx (show w<C.length by omega)];rfl
   rw[aq (by omega),U3,ac,hx];simp only[bv];rw[he];simp only;rw[aB (show u<C.length by omega),aB (show v<C.length by omega)];simp only[bv];rw[hgetC u hu,hgetC v hv];simp only[bv];rw[oT (by omega) (by omega),aR (by omega)];left;by_cases hlt:C.getD v 0<C.getD u 0+g
   ·rw[pf hlt,U3,aB (show v<last.length by omega)];simp only[bv];rw[bx (show v<last.length by omega)];simp only[bv];have hh:=hS.hit hst (s:=((i:Int),bk,(u:Int),(v:Int),g,())) (by rw[hx,he]) rfl rfl rfl hlt;exact⟨_,rfl,⟨j+1,_,_,_,_,_,h,rfl,hh,.inr ⟨v,hv,rfl,Net.upd_self _ _ _⟩⟩,hmj⟩
   rw[eM (by omega),U4];have hh:=hS.pass hst (s:=((i:Int),bk,(u:Int),(v:Int),g,())) (by rw[hx,he]) rfl rfl rfl (Int.not_lt.1 hlt);exact⟨_,rfl,⟨j+1,_,_,_,_,_,h,rfl,hh,hat⟩,hmj⟩
  have:j=(rsF L f L.length).length:=by omega
  subst this;rw[aj (by omega)];exact .inr ⟨_,rfl,C,last,at',par,rk,rfl,hS,hat⟩) (C,last,rsF L f L.length,(n:Int),-1,x,0,()) ⟨0,C,last,-1,par,rk,L4 _,rfl,h,.inl ⟨rfl,hrk⟩⟩
 exact⟨C',last',at',par',rk',h1,h2,h3⟩
def trI(par:Par)(last:List Int):Nat->Nat->List Int
 |0,_=>[]
 |l+1,v=>match par v with
  |some (u,_)=>last.getD v 0::trI par last l u
  |none=>[]
theorem wk{par:Par}{l v w:Nat}{G:Int}(h:aM par (l+1) v=some (w,G)):∃ u g K,par v=some (u,g)/\aM par l u=some (w,K):=by
 simp only[aM]at h;cases hp:par v with
 |none=>rw[hp]at h;simp at h
 |some q=>
  obtain⟨u,g⟩:=q;rw[hp]at h;simp only at h;cases hq:aM par l u with
  |none=>rw[hq]at h;simp at h
  |some q=>obtain⟨w',K⟩:=q;rw[hq]at h;simp only[ov,B4]at h;exact⟨u,g,K,rfl,by rw[<- h.1];exact hq⟩
theorem SC(hlo:E9 R par last)(N:Int)(i0:Nat):∀(l:Nat) (v w:Nat) (G:Int) (i:Nat),i+l=i0->N=(i0:Int)->i0<=1000->aM par l v=some (w,G)->(∀ v u g,par v=some (u,g)->v<last.length) ->
  cZ (last,R,N,(v:Int),(i:Int),())=some (.inl (last,R,(w:Int),())):=by
 intro l;induction l with
 |zero=>intro v w G i hi hN h1000 hb hpl;simp only[aM,ov,B4]at hb;obtain⟨rfl,_⟩:=hb;unfold cZ;refine ce ?_;simp only[gS];rw[aj (by omega)];rfl
 |succ l ih=>intro v w G i hi hN h1000 hb hpl;obtain⟨u,g,K,hp,hq⟩:=wk hb;obtain⟨k,s,k1,k2,k3,k4,k5⟩:=hlo v u g hp;rw[<- ih u w K (i+1) (by omega) hN h1000 hq hpl];unfold cZ;refine gq ?_;simp only[gS];rw[aq (by omega),U3,aB (hpl v u g hp)];simp only[bv];rw[k1];simp only[bv];rw[ac,k2,aR (by omega)];simp only[bv];rw[k3]
theorem Rc(hlo:E9 R par last)(w:Nat)(hpl:∀ v u g,par v=some (u,g)->v<last.length):∀(l:Nat) (v:Nat) (G:Int) (out:List Int),out.length+l<=1000->aM par l v=some (w,G)->(∀ i,i<l->∀ c K,aM par i v=some (c,K)->c≠w) ->
  ei (last,out,R,(w:Int),(v:Int),())=some (.inl (out++trI par last l v,())):=by
 intro l;induction l with
 |zero=>intro v G out _ hb _;simp only[aM,ov,B4]at hb;obtain⟨rfl,_⟩:=hb;unfold ei;refine ce ?_;simp only[gT];rw[gW rfl];simp[trI]
 |succ l ih=>
  intro v G out hlen hb hno;obtain⟨u,g,K,hp,hq⟩:=wk hb;obtain⟨k,s,k1,k2,k3,k4,k5⟩:=hlo v u g hp;have hvw:v≠w:=hno 0 (by omega) v 0 rfl;have hd:last.getD v 0=(k:Int):=by rw[A5,k1];rfl
  have e:out++trI par last (l+1) v=out++[(k:Int)]++trI par last l u:=by simp only[trI,hp,hd,List.append_assoc,XZ]
  rw[e,<- ih u K (out++[(k:Int)]) (by simp;omega) hq (λi hi c K' hc=>hno (i+1) (by omega) c (g+K') (by simp only[aM,hp,hc]))];unfold ei;refine gq ?_;simp only[gT];rw[wc (by omega),U3,aB (hpl v u g hp)];simp only[bv];rw[k1];simp only[bv];rw[bw (by simp;omega),ac,k2];simp only[bv];rw[k3]
theorem Ff{par:Par}{last:List Int}:∀{l v w:Nat} {G:Int},aM par l v=some (w,G)->(trI par last l v).length=l
 |0,_,_,_,_=>rfl
 |l+1,v,w,G,h=>by obtain⟨u,g,K,hp,hq⟩:=wk h;simp only[trI,hp,B2,Ff hq]
theorem Ob(hL:gm n L)(hB:pD L 64)(hl:L.length<=8)(hn:n<=7):
  ∃ out,lR (rsF L f L.length,(n:Int),())=some (out,()) /\
   ((out=[]/\∃ d,Pot (Net.Res L f) d) \/
    ∃(d:Nat->Int) (par:Par) (rk:Nat->Nat) (last:List Int) (w l:Nat) (H:Int),Rlx n (Net.Res L f) d par rk/\E9 (rsF L f L.length) par last/\0<l/\l<=n/\aM par l w=some (w,H)/\0<H/\out=trI par last l w /\
     ∀ i j c K c' K',i<j->j<l->aM par i w=some (c,K)->aM par j w=some (c',K')->c≠c'):=by
 have hst:=yD (f:=f) hL hB;simp only[lR];rw[fR (B5 _) (by omega)];simp only[bv];have hz:∀ v,v<n->(A7 n (0:Int)).getD v 0=0:=λv hv=>by rw[A5,Wc,if_pos hv];rfl
 obtain⟨r,h1,h2⟩:=aH (f:=iJ) (λx=>∃(m:Nat) (C last:List Int) (at':Int) (par:Par) (rk:Nat->Nat),m<=n+1/\x=(C,last,rsF L f L.length,(n:Int),at',(m:Int),())/\SwC n (Net.Res L f) (rsF L f L.length) m 0 C last par rk/\(∀ v,rk v<=m)/\(m=0\/∃ v:Nat,v<n/\at'=(v:Int)/\rk v=m)) (λx=>n+2-x.2.2.2.2.2.1.toNat)
  (λr=>(r=.inl ()/\∃ d,Pot (Net.Res L f) d)\/∃(C last:List Int) (par:Par) (rk:Nat->Nat) (v:Nat),v<n/\r=.inr (.inl (last,rsF L f L.length,(n:Int),(v:Int),()))/\SwC n (Net.Res L f) (rsF L f L.length) (n+1) 0 C last par rk/\rk v=n+1) (by
  rintro x ⟨m,C,last,at',par,rk,hm,rfl,hS,hrk,hat⟩;simp only[iJ];by_cases h:m<=n
  ·rw[MI (by omega),U3];obtain⟨C',last',at2,par',rk',e1,e2,e3⟩:=TL hL hB hl (by omega) (m:Int) hS hrk;rw[e1];simp only[bv,B7];obtain⟨d,d1,d2⟩:=e2.sw;rcases e3 with⟨rfl,e4⟩|⟨v,hv,rfl,e4⟩
   ·rw[aq (by omega)];refine .inr ⟨_,rfl,.inl ⟨rfl,d,?_⟩⟩;exact Swp.still hst (by rw[Vq];exact d1) e4
   rw[aj (by omega),aR (by omega)];refine .inl ⟨_,rfl,⟨m+1,C',last',_,par',rk',by omega,rfl,⟨⟨d,Swp.turn (by rw[Vq];exact d1),d2⟩,e2.cl,e2.ll,e2.lo⟩,λw=>by have:=d1.rkm w;omega,.inr ⟨v,hv,rfl,e4⟩⟩,by show n+2-((m+1:Nat):Int).toNat<n+2-(m:Int).toNat;omega⟩
  have:m=n+1:=by omega
  subst this;rw[PA (by omega)];rcases hat with h0|⟨v,hv,rfl,e4⟩
  ·omega
  exact .inr ⟨_,rfl,.inr ⟨C,last,par,rk,v,hv,rfl,hS,e4⟩⟩) (A7 n 0,A7 n 0,rsF L f L.length,(n:Int),-1,0,()) ⟨0,_,_,_,λ_=>none,λ_=>0,by omega,rfl,⟨⟨λ_=>0,Swp.init hst,hz⟩,L5,L5,λv u g h=>by cases h⟩,λ_=>B5 _,.inl rfl⟩
 rw[show mB (A7 n (aL I),A7 n (aL I),rsF L f L.length,(n:Int),-1,0,())=_ from h1];rcases h2 with⟨rfl,hd⟩|⟨C,last,par,rk,v,hv,rfl,hS,hr⟩
 ·exact⟨[],rfl,.inl ⟨rfl,hd⟩⟩
 obtain⟨d,d1,d2⟩:=hS.sw;have hll:=hS.ll;have hlo:=hS.lo;have hpl:∀ v u g,par v=some (u,g)->v<last.length:=λv u g hp=>by obtain⟨k,s,k1,_⟩:=hlo v u g hp;exact(tz.1 k1).1
 obtain⟨w,G,l,H,g1,g2,g3,g4⟩:=d1.rlx.round hv (B5 n) (by omega);obtain⟨l0,H0,q1,q2,q3,q4,q5,q6⟩:=d1.rlx.first g2 g4;have hdist:=Net.first_distinct q3 q5;simp only[bv,Vx,B7];have hgb:=SC (R:=rsF L f L.length) hlo (n:Int) n n v w G 0 (by omega) rfl (by omega) g1 hpl;rw[show cZ (last,rsF L f L.length,(n:Int),(v:Int),0,())=_ from hgb];simp only[bv,B7];obtain⟨l1,rfl⟩:∃ l1,l0=l1+1:=⟨l0-1,by omega⟩;obtain⟨u,g,K,p1,p2⟩:=wk q3;obtain⟨k,s,k1,k2,k3,k4,k5⟩:=hlo w u g p1;have hd:last.getD w 0=(k:Int):=by rw[A5,k1];rfl
 rw[aB (hpl w u g p1)];simp only[bv];rw[k1];simp only[bv];rw[ac,k2];simp only[bv];rw[k3,Rc hlo w hpl l1 u K [(k:Int)] (by simp;omega) p2 (λi hi c K' hc=>q5 (i+1) (by omega) (by omega) c (g+K') (by simp only[aM,p1,hc]))];simp only[bv,B7];refine⟨_,rfl,.inr ⟨d,par,rk,last,w,l1+1,H0,d1.rlx,hlo,q1,by omega,q3,q4,?_,hdist⟩⟩;simp only[trI,p1,hd,XZ]
end
end Go.Vm

/-
 AuditFinds: the reference's Solve gives ranks with a certificate.
-/
namespace Go.Vm
open Go.Proofs
open Net (Bd Stq gm pD ka Pot Par aM dA Rlx Cer Cert bn at1 chg)
set_option maxRecDepth 100000
attribute [local irreducible] ab
section
variable {n:Nat}{L:List Bd}{f:List Int}
structure RefS (n:Nat)(L:List Bd)(f:List Int):Prop where
 len:f.length=L.length
 nn:∀ x∈f,0<=x
 bal:∀ v,v<n->Net.bal (L.zip f) v=0
theorem F4{α:Type}{F:α->Int}{c:Int}:∀{l:List α},(∀ a∈l,F a<=c)->bn F l<=l.length*c
 |[],_=>by simp[bn]
 |a::l,h=>by
  have h1:=F4 (F:=F) (c:=c) (l:=l) λb hb=>h b (by simp[hb]);have h2:=h a (by simp);have e:((l.length+1:Nat):Int)*c=l.length*c+c:=by rw[Int.natCast_add,Int.add_mul];simp
  rw[B2,e];show F a+bn F l<=_;omega
theorem RefS.val_le(H:NetOK n L)(h:RefS n L f):Net.val L f<=8000000:=by
 obtain⟨r,hr,hb⟩:=H.pot;have h1:=Net.bal_sum (n:=n) r (l:=L.zip f) λp hp=>(H.bds _ (Wu hp).1).1;have h0:Net.zsum (λv=>r v*Net.bal (L.zip f) v) n=0:=by rw[Net.zsum_congr (G:=λ_=>0) λv hv=>by rw[h.bal v hv];simp];exact Net.zsum_zero n
 rw[h0]at h1;have h2:bn (λp:Bd×Int=>(p.2-p.1.wt)*(r p.1.to.toNat-r p.1.fr.toNat)) (L.zip f)=bn (λp:Bd×Int=>p.2*(r p.1.to.toNat-r p.1.fr.toNat)) (L.zip f)-bn (λp:Bd×Int=>p.1.wt*(r p.1.to.toNat-r p.1.fr.toNat)) (L.zip f):=by rw[<- Net.lsum_sub];exact Net.lsum_congr λp _=>Int.sub_mul _ _ _
 have h3:bn (λp:Bd×Int=>p.1.wt*(r p.1.to.toNat-r p.1.fr.toNat)) (L.zip f)=bn (λb:Bd=>b.wt*(r b.to.toNat-r b.fr.toNat)) L:=Net.lsum_zip (λb:Bd=>b.wt*(r b.to.toNat-r b.fr.toNat)) h.len;have h4:Net.val L f<=bn (λp:Bd×Int=>p.2*(r p.1.to.toNat-r p.1.fr.toNat)) (L.zip f):=Net.lsum_le λp hp=>by obtain⟨p1,p2⟩:=Wu hp;exact WY (hr _ p1) (h.nn _ p2)
 have h5:bn (λb:Bd=>b.wt*(r b.to.toNat-r b.fr.toNat)) L<=L.length*1000000:=F4 λb hb'=>by have w:=H.wt b hb';have d1:=hb b.to.toNat;have d2:=hb b.fr.toNat;have d3:=hr b hb';have d4:=H.len b hb';have:b.wt*(r b.to.toNat-r b.fr.toNat)<=1000*1000:=Int.mul_le_mul (by omega) (by omega) (by omega) (by omega);omega
 have hl:=H.l8;omega
theorem RefS.bd(H:NetOK n L)(h:RefS n L f):∀ x∈f,0<=x/\x<=8000000:=λx hx=>by
 refine⟨h.nn x hx,?_⟩;obtain⟨i,hi,e⟩:=VJ hx;have hiL:i<L.length:=by rw[<- h.len];exact hi
 have hm:(L[i],x)∈L.zip f:=by rw[<- e];exact List.mem_iff_getElem?.2 ⟨i,by rw[List.getElem?_zip_eq_some];exact⟨bx hiL,bx hi⟩⟩
 have h1:=Net.lsum_mem_le (F:=λp:Bd×Int=>p.2*p.1.len) (l:=L.zip f) (λp hp=>by
  obtain⟨p1,p2⟩:=Wu hp;have:=H.len _ p1;exact Int.mul_nonneg (h.nn _ p2) (by omega)) hm
 have h2:=h.val_le H;have h3:=H.len _ (A2 hiL);have h4:x*1<=x*L[i].len:=WY h3.1 (h.nn x hx);have h5:x*L[i].len<=Net.val L f:=h1;omega
theorem RefS.init(H:NetOK n L):RefS n L (L.map Bd.wt):=by
 refine⟨Vq _,λx hx=>?_,λv _=>?_⟩
 ·obtain⟨b,hb,rfl⟩:=VM.1 hx;exact(H.wt b hb).1
 unfold Net.bal;rw[Net.lsum_congr (G:=λ_=>0) λp hp=>?_,Net.lsum_zero];have:p.2=p.1.wt:=by
  rw[List.zip_map_right]at hp;obtain⟨q,hq,rfl⟩:=VM.1 hp;have:q.1=q.2:=by
   have:∀(l:List Bd) q,q∈l.zip l->q.1=q.2:=by
    intro l;induction l with
    |nil=>intro q hq;cases hq
    |cons a l ih=>
     intro q hq;rw[List.zip_cons_cons]at hq;cases hq with
     |head=>rfl
     |tail _ hq=>exact ih q hq
   exact this L q hq
  obtain⟨q1,q2⟩:=q;simp only at this;subst this;rfl
 rw[this,Y2,Int.zero_mul]
def idR(R:List StR)(k:Int):Nat×Bool:=match R[k.toNat]? with
 |some s=>(s.1.toNat,s.2.1)
 |none=>(0,false)
theorem Dv(par:Par)(R:List StR)(last:List Int):∀(l v:Nat),dA par (λv=>idR R (last.getD v 0)) l v=(trI par last l v).map (idR R)
 |0,_=>rfl
 |l+1,v=>by
  unfold dA trI;cases par v with
  |none=>rfl
  |some q=>simp only[L3,Dv par R last l]
theorem MX{par:Par}{R:List StR}{last:List Int}(hlo:E9 R par last):∀{l v w:Nat} {G:Int},aM par l v=some (w,G)->∀ x∈trI par last l v,∃(k:Nat) (s:StR),x=(k:Int)/\R[k]?=some s
 |0,_,_,_,_,x,hx=>by simp[trI]at hx
 |l+1,v,w,G,h,x,hx=>by
  obtain⟨u,g,K,hp,hq⟩:=wk h;simp only[trI,hp]at hx;rcases A9.1 hx with e|e
  ·obtain⟨k,s,k1,k2,_⟩:=hlo v u g hp;refine⟨k,s,?_,k2⟩;rw[e,A5,k1];rfl
  exact MX hlo hq x e
theorem Jb{R:List StR}{k:Nat}{s:StR}(h:R[k]?=some s):idR R (k:Int)=(s.1.toNat,s.2.1):=by unfold idR;rw[VE,h]
theorem PH(hL:gm n L)(hf:f.length=L.length)(N:Int){cyc:List Int}(hc:∀ x∈cyc,∃(k:Nat) (s:StR),x=(k:Int)/\(rsF L f L.length)[k]?=some s)(hcl:cyc.length<=1000)(h0:Int):
  lm (N,L,f,rsF L f L.length,cyc,h0,0,())=some (.inl (N,L,f,rsF L f L.length,cyc,xE f h0 (cyc.map (idR (rsF L f L.length))),())):=by
 have:=eu (B:=er) cyc (λh k=>cond (idR (rsF L f L.length) k).2 (bL h (f.getD (idR (rsF L f L.length) k).1 0)) h) h0 (λ_ _=>True) (λh g=>(N,L,f,rsF L f L.length,cyc,h,(g:Int),())) (λh=>.inl (N,L,f,rsF L f L.length,cyc,h,())) trivial (λ_ _ _ _ _=>trivial) (by
  intro i x h hx _;have hi:=(tz.1 hx).1;obtain⟨k,s,rfl,hk⟩:=hc x (B9 hx);have hkR:=(tz.1 hk).1;obtain⟨j,hj,hmem⟩:=uS.1 (B9 hk);obtain⟨bk,u,v,g,rfl,hst⟩:=(wM hL).1 hmem;have hjf:j<f.length:=by omega
  simp only[er];rw[aq (by omega),U3,aB hi];simp only[bv];rw[hx];simp only[bv];rw[aB hkR];simp only[bv];rw[hk,Jb hk,aR (by omega)];simp only[bv,VE];cases bk with
  |false=>rfl
  |true=>
   simp only[U3];rw[aB hjf];simp only[bv];rw[A5,bx hjf];rfl) (by
  intro h _;simp only[er];rw[aj (by omega)];rfl)
 unfold xE;rw[YL];exact this
theorem Qd(hL:gm n L)(hf:f.length=L.length)(hfb:∀ x∈f,0<=x/\x<=8000000)(N:Int){cyc:List Int}(hc:∀ x∈cyc,∃(k:Nat) (s:StR),x=(k:Int)/\(rsF L f L.length)[k]?=some s)(hcl:cyc.length<=1000){m:Int}(hm:0<=m/\m<=8000000):
  lf (N,L,f,rsF L f L.length,cyc,m,0,())=some (.inl (N,L,Net.send m f (cyc.map (idR (rsF L f L.length))),())):=by
 have:=eu (B:=eC) cyc (λ(c:List Int) k=>c.set (idR (rsF L f L.length) k).1 (chg m (idR (rsF L f L.length) k).2 (c.getD (idR (rsF L f L.length) k).1 0))) f (λi c=>c.length=f.length/\∀ x∈c,-(8000000+8000000*(i:Int))<=x/\x<=8000000+8000000*(i:Int)) (λc g=>(N,L,c,rsF L f L.length,cyc,m,(g:Int),())) (λc=>.inl (N,L,c,())) ⟨rfl,λx hx=>by have:=hfb x hx;omega⟩ (by
  rintro i x c hx ⟨h1,h2⟩;obtain⟨k,s,rfl,hk⟩:=hc x (B9 hx);obtain⟨j,hj,hmem⟩:=uS.1 (B9 hk);obtain⟨bk,u,v,g,rfl,hst⟩:=(wM hL).1 hmem;rw[Jb hk];simp only[VE];have hjc:j<c.length:=by omega
  have hb:=h2 _ (A2 hjc);refine⟨by rw[L8,h1],λy hy=>?_⟩;rcases List.mem_or_eq_of_mem_set hy with e|e
  ·have:=h2 y e;omega
  ·rw[e,A5,bx hjc];show -(8000000+8000000*((i+1:Nat):Int))<=chg m bk c[j]/\chg m bk c[j]<=8000000+8000000*((i+1:Nat):Int);unfold chg;split<;>omega) (by
  rintro i x c hx ⟨h1,h2⟩;have hi:=(tz.1 hx).1;obtain⟨k,s,rfl,hk⟩:=hc x (B9 hx);have hkR:=(tz.1 hk).1;obtain⟨j,hj,hmem⟩:=uS.1 (B9 hk);obtain⟨bk,u,v,g,rfl,hst⟩:=(wM hL).1 hmem;have hjc:j<c.length:=by omega
  have hb:=h2 _ (A2 hjc);simp only[eC];rw[aq (by omega),U3,aB hi];simp only[bv];rw[hx];simp only[bv];rw[aB hkR];simp only[bv];rw[hk,Jb hk,aR (by omega)];simp only[bv,VE];rw[aB hjc];simp only[bv];rw[bx hjc,A5,bx hjc];simp only[bv,Option.getD_some];cases bk with
  |false=>simp only[U4,chg];rw[oT (by omega) (by omega)];rfl
  |true=>simp only[U3,chg];rw[nq (by omega) (by omega)];rfl) (by
  rintro c -;simp only[eC];rw[aj (by omega)];rfl)
 unfold Net.send;rw[YL];exact this
theorem RefS.step(H:NetOK n L)(h:RefS n L f):
  (∃ r,db ((n:Int),L,f,())=some (.inr (.inl (r,f,0,())))/\Solved n L r f) \/
  ∃ f',db ((n:Int),L,f,())=some (.inl ((n:Int),L,f',()))/\RefS n L f'/\Net.val L f<Net.val L f':=by
 have hn:=H.n7;have hl:=H.l8;simp only[db];rw[NJ h.len (by omega) H.lenB];simp only[bv];obtain⟨out,o1,o2⟩:=Ob (f:=f) H.bds H.lenB hl hn;rw[o1];simp only[bv];rcases o2 with⟨rfl,d,hd⟩|⟨d,par,rk,last,w,l,G,hR,hlo,l0,ln,hb,hG,rfl,hdist⟩
 ·left;have hnp:=hd.noPos;obtain⟨r,r1,r2,r3,r4⟩:=M9 H.bds H.lenB hl hn h.len hnp (D:=f) (.inl rfl);rw[tg (show(([]:List Int).length:Int)=0 from rfl),r1];refine⟨r,rfl,r2,h.len,?_,λx hx=>by have:=r4 x hx;omega⟩;have hc:Cer n L f (λ_=>0):=⟨h.len,h.nn,λv hv=>by rw[h.bal v hv];rfl,hnp⟩;exact hc.cert H.bds (λv _=>Int.le_refl _) r3
 right;have hlen:=Ff (last:=last) hb;have hmem:=MX hlo hb;rw[qe (by omega)];simp only[U4];rw[PH H.bds h.len (n:Int) hmem (by omega)];simp only[bv,B7];rw[<- Dv]
 have hid:∀ v u g,par v=some (u,g)->Stq L f (idR (rsF L f L.length) (last.getD v 0)).1 (idR (rsF L f L.length) (last.getD v 0)).2 u v g:=λv u g hp=>by
  obtain⟨k,s,k1,k2,k3,k4,k5⟩:=hlo v u g hp;have e:last.getD v 0=(k:Int):=by rw[A5,k1];rfl
  rw[e,Jb k2];obtain⟨i,hi,hm⟩:=uS.1 (B9 k2);obtain⟨bk,u',v',g',rfl,hst⟩:=(wM H.bds).1 hm;simp only at k3 k4 k5;have e1:u'=u:=by omega
  have e2:v'=v:=by omega
  subst e1;subst e2;subst k5
  exact hst
 have honce:=hR.trace_round hid hb hdist;have hpath:=Net.trace_path hid hb;generalize hids:dA par (λv=>idR (rsF L f L.length) (last.getD v 0)) l w=ids at honce hpath
 have hfb:=h.bd H;have hback:∃ i,(i,true)∈ids:=by
  apply Classical.byContradiction;intro hno;obtain⟨r,hr,_⟩:=H.pot;have key:∀(p:List (Nat×Bool)) (u v:Nat) (G:Int),(∀ q∈p,q.2=false)->Net.Path L f u p v G->r u+G<=r v:=by
   intro p;induction p with
   |nil=>rintro u v G _ ⟨rfl,rfl⟩;omega
   |cons q p ih=>
    obtain⟨i,bk⟩:=q;rintro u v G hq ⟨x,g,G',⟨b,y,b1,b2,b3⟩,h2,rfl⟩;have:=ih x v G' (λq hq'=>hq q (by simp[hq'])) h2;have hbk:bk=false:=hq (i,bk) (by simp);have hbr:=hr b (B9 b1);rcases b3 with⟨_,c1,c2,rfl⟩|⟨c0,_⟩
    ·rw[c1,c2]at hbr;simp only[VE]at hbr;omega
    rw[hbk]at c0;cases c0
  have:=key ids.reverse w w G (λq hq=>by
   rw[WW]at hq;obtain⟨i,bk⟩:=q;cases bk with
   |false=>rfl
   |true=>exact absurd ⟨i,hq⟩ hno) hpath
  omega
 have hbk:∀ i,(i,true)∈ids->0<f.getD i 0/\f.getD i 0<=8000000:=by
  intro i hi;rw[<- hids]at hi;obtain⟨j,c,K,u,g,_,_,c2,c3⟩:=(Net.trace_mem hb _).1 hi;obtain⟨b,x,b1,b2,b3⟩:=hid c u g c2;rw[<- c3]at b2 b3;have hx:f.getD i 0=x:=by rw[A5,b2];rfl
  rw[hx];rcases b3 with⟨b4,_⟩|⟨_,b4,_⟩
  ·cases b4
  exact⟨b4,(hfb x (B9 b2)).2⟩
 have hle:=E8 f ids 1099511627776;have hpos:=Du f ids 1099511627776 (by omega) (λi hi=>(hbk i hi).1);obtain⟨i0,hi0⟩:=hback;have hm1:=hle.2 i0 hi0;have hm2:=(hbk i0 hi0).2;generalize hmm:xE f 1099511627776 ids=m at hle hpos hm1 ⊢;have hsent:=Qd H.bds h.len hfb (n:Int) hmem (by omega) (m:=m) (by omega);rw[<- Dv,hids]at hsent;rw[hsent];have hrev:(ids.reverse.map (·.1)).Nodup:=by rw[List.map_reverse];exact List.pairwise_reverse.2 (honce.imp Ne.symm)
 have hsr:=Net.send_reverse m (f:=f) honce;refine⟨_,rfl,⟨by rw[Net.send_length,h.len],?_,λv hv=>?_⟩,?_⟩
 ·rw[<- hsr];refine Net.send_nonneg (L:=L) (by omega) hrev (λi hi x hx=>?_) h.nn;rw[WW]at hi;have:=hle.2 i hi;rw[A5,hx]at this;exact this
 ·rw[<- hsr,Net.send_bal hpath v,h.bal v hv,Y2,Int.mul_zero];rfl
 rw[<- hsr,Net.send_val hpath];have:=Int.mul_pos hpos hG;omega
theorem NX(H:NetOK n L):∃ r f,lV (((n:Int),L,()),())=some (r,f,0,())/\Solved n L r f:=by
 have hn:=H.n7;have hl:=H.l8;simp only[lV,F8 H,bv,U8,U4];have hz:∀ x∈A7 L.length (0:Int),x=0:=λx hx=>(List.mem_replicate.1 hx).2;obtain⟨r0,e1,_⟩:=M9 H.bds H.lenB hl hn (f:=A7 L.length 0) L5 (H.np hz) (D:=[]) (.inr ⟨rfl,hz⟩);rw[e1];simp only[bv,U8,U4];rw[fR (B5 _) (by omega)];simp only[bv]
 obtain⟨r,g1,rfl⟩:=aH (f:=io) (λx=>∃(i:Nat) (c:List Int),i<=L.length/\x=((n:Int),L,c,(i:Int),())/\c.length=L.length/\∀ j (hj:j<L.length),j<i->c[j]?=some L[j].wt) (λx=>L.length-x.2.2.2.1.toNat)
  (λr=>r=.inl ((n:Int),L,L.map Bd.wt,())) (by
  rintro x ⟨i,c,hi,rfl,hc,hv⟩;simp only[io];by_cases h:i<L.length
  ·rw[aq (by omega),U3,ac,bx h,aB (show i<c.length by omega)];simp only[bv];rw[bx (show i<c.length by omega),aR (by omega)];refine .inl ⟨_,rfl,⟨i+1,_,h,rfl,by rw[L8,hc],λj hj hji=>?_⟩,by show L.length-((i+1:Nat):Int).toNat<L.length-(i:Int).toNat;omega⟩;by_cases e:j=i
   ·subst e;rw[VB (by omega)];rfl
   rw[Vo (Ne.symm e)];exact hv j hj (by omega)
  have:i=L.length:=by omega
  subst this;rw[aj (by omega)];refine .inr ⟨_,rfl,?_⟩;have:c=L.map Bd.wt:=by
   refine List.ext_getElem? λk=>?_;by_cases hk:k<L.length
   ·rw[hv k hk hk,Vy,bx hk];rfl
   rw[VG (by omega),VG (by rw[Vq];omega)]
  rw[this]) ((n:Int),L,A7 L.length 0,0,()) ⟨0,_,L4 _,rfl,L5,λj _ hj=>by omega⟩
 rw[show lY ((n:Int),L,A7 L.length (aL I),0,())=_ from g1];simp only[bv,B7];obtain⟨r,g2,rl,f',rfl,hS⟩:=aH (f:=db) (λx=>∃ f,x=((n:Int),L,f,())/\RefS n L f) (λx=>(8000000-Net.val L x.2.2.1).toNat)
  (λr=>∃ rl f,r=.inl (rl,f,0,())/\Solved n L rl f) (by
  rintro x ⟨f,rfl,hR⟩;rcases hR.step H with⟨r,e1,e2⟩|⟨f',e1,e2,e3⟩
  ·exact .inr ⟨_,e1,r,f,rfl,e2⟩
  refine .inl ⟨_,e1,⟨f',rfl,e2⟩,?_⟩;have:=e2.val_le H;show(8000000-Net.val L f').toNat<(8000000-Net.val L f).toNat;omega) ((n:Int),L,L.map Bd.wt,()) ⟨_,rfl,RefS.init H⟩
 rw[show kX ((n:Int),L,L.map Bd.wt,())=_ from g2];exact⟨rl,f',rfl,hS⟩
end
end Go.Vm

/-
 AuditFinds: the ranking problem of a graph; ranks in the program and in the reference.
-/
namespace Go.Vm
open Go.Proofs
open Cyc (fY)
open Net (Bd gm Cert bn)
set_option maxRecDepth 100000
attribute [local irreducible] ab
def arcE(x:tw):ArcD:=(x.1,x.2.1,())
def M5(d:List tw):List ArcD:=d.map arcE
def okE(B:List ArcD)(i:Nat):Bool:=match B[i]? with
 |some a=>neI a.1 a.2.1
 |none=>false
def edg(B:List ArcD)(i:Nat):List Nat:=(L7 i).filter (okE B)
def Ch(B:List ArcD)(i:Nat):ArcD:=B.getD i (0,0,())
def HV(B:List ArcD)(d:List tw)(i:Nat):Bd:=((Ch B i).1,(Ch B i).2.1,(match d[i]? with|some x=>x.2.2.2.2.2.2.1|none=>0),(match d[i]? with|some x=>x.2.2.2.2.2.1|none=>0),())
def xk(B:List ArcD)(d:List tw):List Bd:=(edg B B.length).map (HV B d)
def gY(B:List ArcD):List Int:=(edg B B.length).map λ(i:Nat)=>(i:Int)
def gb(B:List ArcD):List ArcD:=(edg B B.length).map (Ch B)
theorem F9(B:List ArcD)(i:Nat):edg B (i+1)=edg B i++cond (okE B i) [i] []:=by unfold edg;rw[List.range_succ,List.filter_append,List.filter_cons,List.filter_nil];cases okE B i<;>rfl
theorem uR(B:List ArcD)(i:Nat):(edg B i).length<=i:=by unfold edg;have:=List.length_filter_le (okE B) (L7 i);rw[List.length_range]at this;exact this
theorem CE{B:List ArcD}{i m:Nat}(h:i∈edg B m):i<m/\∃ a,B[i]?=some a/\a.1≠a.2.1:=by
 unfold edg at h;obtain⟨h1,h2⟩:=List.mem_filter.1 h;refine⟨List.mem_range.1 h1,?_⟩;unfold okE at h2;cases hb:B[i]? with
 |none=>rw[hb]at h2;cases h2
 |some a=>rw[hb]at h2;refine⟨a,rfl,?_⟩;unfold neI at h2;simpa using h2
theorem Ly{B:List ArcD}{i:Nat}{a:ArcD}(h:B[i]?=some a):okE B i=neI a.1 a.2.1:=by unfold okE;rw[h]
theorem yz{B:List ArcD}{i:Nat}{a:ArcD}(h:B[i]?=some a):Ch B i=a:=by unfold Ch;rw[A5,h];rfl
theorem CL{B:List ArcD}{d:List tw}{i:Nat}{a:ArcD}{x:tw}(h:B[i]?=some a)(hx:d[i]?=some x):HV B d i=(a.1,a.2.1,x.2.2.2.2.2.2.1,x.2.2.2.2.2.1,()):=by unfold HV;rw[yz h,hx]
section
variable {a:ByteArray}{b:Bool}{c:List qN}{d:List tw}{e:List kO}
theorem If(hd:d.length<=1000):mi ((a,b,c,d,e,()),())=some (((c.length:Int),M5 d,()),()):=by
 have:=eu (B:=iQ) d (λs x=>s++[arcE x]) [] (λi s=>s.length<=i) (λs i=>(0,(c.length:Int),s,d,(d.length:Int),(i:Int),())) (λs=>.inl (0,(c.length:Int),s,())) (B5 _) (by intro i x s _ hs;simp;omega) (by
  intro i x s hx hs;have hi:=(tz.1 hx).1;simp only[iQ];rw[aq (by omega),U3,ac,hx,aR (by omega)];simp only[bv];rw[bw (by simp;omega)];rfl) (by
  intro s _;simp only[iQ];rw[aj (by omega)];rfl)
 have hf:∀(l:List tw) (s:List ArcD),l.foldl (λs x=>s++[arcE x]) s=s++l.map arcE:=by
  intro l;induction l with
  |nil=>intro s;simp
  |cons x l ih=>intro s;rw[VU,ih];simp
 rw[hf]at this;simp only[mi];rw[show pB (0,(c.length:Int),[],d,(d.length:Int),0,())=_ from this];rfl
theorem PK(hd:d.length<=1000):ig ((a,b,c,d,e,()),())=some (((c.length:Int),M5 d,()),()):=by
 have:=eu (B:=dC) d (λs x=>s++[arcE x]) [] (λi s=>s.length<=i) (λs i=>(a,b,c,d,e,0,(c.length:Int),s,(i:Int),())) (λs=>.inl (0,(c.length:Int),s,())) (B5 _) (by intro i x s _ hs;simp;omega) (by
  intro i x s hx hs;have hi:=(tz.1 hx).1;simp only[dC];rw[aq (by omega),U3,ac,hx,aR (by omega)];simp only[bv];rw[bw (by simp;omega)];rfl) (by
  intro s _;simp only[dC];rw[aj (by omega)];rfl)
 have hf:∀(l:List tw) (s:List ArcD),l.foldl (λs x=>s++[arcE x]) s=s++l.map arcE:=by
  intro l;induction l with
  |nil=>intro s;simp
  |cons x l ih=>intro s;rw[VU,ih];simp
 rw[hf]at this;simp only[ig];rw[show jA (a,b,c,d,e,0,(c.length:Int),[],0,())=_ from this];rfl
theorem Mx{B:List ArcD}(hB:B.length=d.length)(hd:d.length<=1000)(N:Int)(q:List Int):
  sJ (a,b,c,d,e,N,B,[],q,(B.length:Int),0,())=some (.inl (a,b,c,d,e,N,xk B d,q,())):=by
 obtain⟨r,h1,rfl⟩:=aH (f:=ou) (λx=>∃ i:Nat,i<=B.length/\x=(a,b,c,d,e,N,B,(edg B i).map (HV B d),q,(B.length:Int),(i:Int),())) (λx=>B.length-x.2.2.2.2.2.2.2.2.2.2.1.toNat)
  (λr=>r=.inl (a,b,c,d,e,N,xk B d,q,())) (by
  rintro x ⟨i,hi,rfl⟩;simp only[ou];by_cases h:i<B.length
  ·have hx:=bx h;have hy:=bx (show i<d.length by omega);have hm:B.length-((i+1:Nat):Int).toNat<B.length-(i:Int).toNat:=by omega
   have hl:=uR B i;have hs:=F9 B i;rw[Ly hx]at hs;rw[aq (by omega),U3,aB h];simp only[bv];rw[hx,ac,hy,aR (by omega)];simp only[bv];left;cases hn:neI B[i].1 B[i].2.1 with
   |true=>rw[hn]at hs;rw[bw (by simp;omega)];exact⟨_,rfl,⟨i+1,h,by rw[hs,VX];simp only[U3,L3,WL];rw[CL hx hy]⟩,hm⟩
   |false=>rw[hn]at hs;exact⟨_,rfl,⟨i+1,h,by rw[hs];simp⟩,hm⟩
  have:i=B.length:=by omega
  subst this;rw[aj (by omega)];exact .inr ⟨_,rfl,rfl⟩) (a,b,c,d,e,N,B,[],q,(B.length:Int),0,()) ⟨0,L4 _,rfl⟩
 exact h1
theorem OJ{B:List ArcD}(hB:B.length<=1000)(N:Int):sG (0,N,B,[],[],(B.length:Int),0,())=some (.inl (0,N,gb B,gY B,())):=by
 obtain⟨r,h1,rfl⟩:=aH (f:=od) (λx=>∃ i:Nat,i<=B.length/\x=(0,N,B,(edg B i).map (Ch B),(edg B i).map (λ(i:Nat)=>(i:Int)),(B.length:Int),(i:Int),())) (λx=>B.length-x.2.2.2.2.2.2.1.toNat)
  (λr=>r=.inl (0,N,gb B,gY B,())) (by
  rintro x ⟨i,hi,rfl⟩;simp only[od];by_cases h:i<B.length
  ·have hx:=bx h;have hm:B.length-((i+1:Nat):Int).toNat<B.length-(i:Int).toNat:=by omega
   have hl:=uR B i;have hs:=F9 B i;rw[Ly hx]at hs;rw[aq (by omega),U3,aB h];simp only[bv];rw[hx,aR (by omega)];simp only[bv];left;cases hn:neI B[i].1 B[i].2.1 with
   |true=>rw[hn]at hs;rw[bw (by simp;omega)];simp only[bv];rw[bw (by simp;omega)];exact⟨_,rfl,⟨i+1,h,by rw[hs,VX,VX];simp only[U3,L3,WL];rw[yz hx]⟩,hm⟩
   |false=>rw[hn]at hs;exact⟨_,rfl,⟨i+1,h,by rw[hs];simp⟩,hm⟩
  have:i=B.length:=by omega
  subst this;rw[aj (by omega)];exact .inr ⟨_,rfl,rfl⟩) (0,N,B,[],[],(B.length:Int),0,()) ⟨0,L4 _,rfl⟩
 exact h1
theorem Rv{B:List ArcD}(hB:B.length<=1000)(M N:Int):ns (0,M,N,[],B,[],0,())=some (.inl (0,N,gY B,gb B,())):=by
 obtain⟨r,h1,rfl⟩:=aH (f:=jw) (λx=>∃ i:Nat,i<=B.length/\x=(0,M,N,(edg B i).map (λ(i:Nat)=>(i:Int)),B,(edg B i).map (Ch B),(i:Int),())) (λx=>B.length-x.2.2.2.2.2.2.1.toNat)
  (λr=>r=.inl (0,N,gY B,gb B,())) (by
  rintro x ⟨i,hi,rfl⟩;simp only[jw];by_cases h:i<B.length
  ·have hx:=bx h;have hm:B.length-((i+1:Nat):Int).toNat<B.length-(i:Int).toNat:=by omega
   have hl:=uR B i;have hs:=F9 B i;rw[Ly hx]at hs;rw[aq (by omega),U3,aB h];simp only[bv];rw[hx,aR (by omega)];simp only[bv];left;cases hn:neI B[i].1 B[i].2.1 with
   |true=>rw[hn]at hs;simp only[U3];rw[bw (by simp;omega)];simp only[bv];rw[bw (by simp;omega)];exact⟨_,rfl,⟨i+1,h,by rw[hs,VX,VX];simp only[U3,L3,WL];rw[yz hx]⟩,hm⟩
   |false=>rw[hn]at hs;exact⟨_,rfl,⟨i+1,h,by rw[hs];simp⟩,hm⟩
  have:i=B.length:=by omega
  subst this;rw[aj (by omega)];exact .inr ⟨_,rfl,rfl⟩) (0,M,N,[],B,[],0,()) ⟨0,L4 _,rfl⟩
 exact h1
theorem P2{B:List ArcD}(hB:B.length=d.length)(hd:d.length<=1000)(n N:Int):
  jE (n,gb B,gY B,a,b,c,d,e,N,[],gb B,((gb B).length:Int),0,())=some (.inl (N,xk B d,())):=by
 have hpl:(gb B).length=(edg B B.length).length:=Vq _;have hel:=uR B B.length;obtain⟨r,h1,rfl⟩:=aH (f:=fu) (λx=>∃ i:Nat,i<=(edg B B.length).length/\x=(n,gb B,gY B,a,b,c,d,e,N,((edg B B.length).take i).map (HV B d),gb B,((gb B).length:Int),(i:Int),())) (λx=>(edg B B.length).length-x.2.2.2.2.2.2.2.2.2.2.2.2.1.toNat)
  (λr=>r=.inl (N,xk B d,())) (by
  rintro x ⟨i,hi,rfl⟩;simp only[fu];by_cases h:i<(edg B B.length).length
  ·obtain⟨m1,y,m2,_⟩:=CE (A2 h);have hy:=bx (show(edg B B.length)[i]<d.length by omega);have hm:(edg B B.length).length-((i+1:Nat):Int).toNat<(edg B B.length).length-(i:Int).toNat:=by omega
   have e1:(gb B)[i]?=some y:=by unfold gb;rw[Vy,bx h];show some (Ch B _)=_;rw[yz m2]
   have e2:(gY B)[i]?=some (((edg B B.length)[i]:Nat):Int):=by unfold gY;rw[Vy,bx h];rfl
   rw[aq (by omega),U3,ac,ac,e1,e2];simp only[bv];rw[ac,hy,aR (by omega)];simp only[bv];rw[bw (by simp;omega)];refine .inl ⟨_,rfl,⟨i+1,h,?_⟩,hm⟩;rw[Vf h,VX];simp only[L3,WL];rw[CL m2 hy]
  have:i=(edg B B.length).length:=by omega
  subst this;rw[aj (by omega),V6];exact .inr ⟨_,rfl,rfl⟩) (n,gb B,gY B,a,b,c,d,e,N,[],gb B,((gb B).length:Int),0,()) ⟨0,L4 _,rfl⟩
 exact h1
theorem Sk{B:List ArcD}(hB:B.length=d.length)(hd:d.length<=1000)(M N:Int):
  oO (a,b,c,d,e,0,M,gY B,N,gb B,[],0,())=some (.inl (0,N,xk B d,())):=by
 have hpl:(gb B).length=(edg B B.length).length:=Vq _;have hil:(gY B).length=(edg B B.length).length:=Vq _;have hel:=uR B B.length;obtain⟨r,h1,rfl⟩:=aH (f:=kl) (λx=>∃ i:Nat,i<=(edg B B.length).length/\x=(a,b,c,d,e,0,M,gY B,N,gb B,((edg B B.length).take i).map (HV B d),(i:Int),())) (λx=>(edg B B.length).length-x.2.2.2.2.2.2.2.2.2.2.2.1.toNat)
  (λr=>r=.inl (0,N,xk B d,())) (by
  rintro x ⟨i,hi,rfl⟩;simp only[kl];by_cases h:i<(edg B B.length).length
  ·obtain⟨m1,y,m2,_⟩:=CE (A2 h);have hy:=bx (show(edg B B.length)[i]<d.length by omega);have hm:(edg B B.length).length-((i+1:Nat):Int).toNat<(edg B B.length).length-(i:Int).toNat:=by omega
   have e1:(gb B)[i]?=some y:=by unfold gb;rw[Vy,bx h];show some (Ch B _)=_;rw[yz m2]
   have e2:(gY B)[i]?=some (((edg B B.length)[i]:Nat):Int):=by unfold gY;rw[Vy,bx h];rfl
   rw[aq (by omega),U3,aB (show i<(gY B).length by omega)];simp only[bv];rw[e2];simp only[bv];rw[ac,hy,aB (show i<(gb B).length by omega),aR (by omega)];simp only[bv];rw[e1];simp only[bv];rw[bw (by simp;omega)];refine .inl ⟨_,rfl,⟨i+1,h,?_⟩,hm⟩;rw[Vf h,VX];simp only[L3,WL];rw[CL m2 hy]
  have:i=(edg B B.length).length:=by omega
  subst this;rw[aj (by omega),V6];exact .inr ⟨_,rfl,rfl⟩) (a,b,c,d,e,0,M,gY B,N,gb B,[],0,()) ⟨0,L4 _,rfl⟩
 exact h1
theorem Qy{B:List ArcD}(hB:B.length=d.length)(hd:d.length<=1000){r f:List Int}(hf:f.length=(xk B d).length):
  ∃ all,lz (r,f,A7 d.length 0,gY B,((gY B).length:Int),0,())=some (.inl (r,all,())):=by
 have hil:(gY B).length=(edg B B.length).length:=Vq _;have hnl:(xk B d).length=(edg B B.length).length:=Vq _;have hel:=uR B B.length;obtain⟨z,h1,all,rfl⟩:=aH (f:=lI) (λx=>∃(i:Nat) (w:List Int),i<=(gY B).length/\w.length=d.length/\x=(r,f,w,gY B,((gY B).length:Int),(i:Int),())) (λx=>(gY B).length-x.2.2.2.2.2.1.toNat)
  (λz=>∃ all,z=.inl (r,all,())) (by
  rintro x ⟨i,w,hi,hw,rfl⟩;simp only[lI];by_cases h:i<(gY B).length
  ·obtain⟨m1,_⟩:=CE (A2 (show i<(edg B B.length).length by omega));have e2:(gY B)[i]?=some (((edg B B.length)[i]'(by omega):Nat):Int):=by unfold gY;rw[Vy,bx (by omega)];rfl
   rw[aq (by omega),U3,aB h];simp only[bv];rw[e2,aB (show i<f.length by omega)];simp only[bv];rw[bx (show i<f.length by omega),aB (show(edg B B.length)[i]'(by omega)<w.length by omega)];simp only[bv];rw[bx (show(edg B B.length)[i]'(by omega)<w.length by omega),aR (by omega)];exact .inl ⟨_,rfl,⟨i+1,_,h,by rw[L8,hw],rfl⟩,by show(gY B).length-((i+1:Nat):Int).toNat<(gY B).length-(i:Int).toNat;omega⟩
  rw[aj (by omega)];exact .inr ⟨_,rfl,w,rfl⟩) (r,f,A7 d.length 0,gY B,((gY B).length:Int),0,()) ⟨0,_,L4 _,L5,rfl⟩
 exact⟨all,h1⟩
theorem IM{B:List ArcD}(hB:B.length=d.length)(hd:d.length<=1000){r f:List Int}(hf:f.length=(xk B d).length):
  ∃ all,gJ (r,f,gY B,A7 d.length 0,0,())=some (.inl (r,all,())):=by
 have hil:(gY B).length=(edg B B.length).length:=Vq _;have hnl:(xk B d).length=(edg B B.length).length:=Vq _;have hel:=uR B B.length;obtain⟨z,h1,all,rfl⟩:=aH (f:=gQ) (λx=>∃(i:Nat) (w:List Int),i<=(gY B).length/\w.length=d.length/\x=(r,f,gY B,w,(i:Int),())) (λx=>(gY B).length-x.2.2.2.2.1.toNat)
  (λz=>∃ all,z=.inl (r,all,())) (by
  rintro x ⟨i,w,hi,hw,rfl⟩;simp only[gQ];by_cases h:i<(gY B).length
  ·obtain⟨m1,_⟩:=CE (A2 (show i<(edg B B.length).length by omega));have e2:(gY B)[i]?=some (((edg B B.length)[i]'(by omega):Nat):Int):=by unfold gY;rw[Vy,bx (by omega)];rfl
   rw[aq (by omega),U3,aB h];simp only[bv];rw[e2,aB (show i<f.length by omega)];simp only[bv];rw[bx (show i<f.length by omega),aB (show(edg B B.length)[i]'(by omega)<w.length by omega)];simp only[bv];rw[bx (show(edg B B.length)[i]'(by omega)<w.length by omega),aR (by omega)];exact .inl ⟨_,rfl,⟨i+1,_,h,by rw[L8,hw],rfl⟩,by show(gY B).length-((i+1:Nat):Int).toNat<(gY B).length-(i:Int).toNat;omega⟩
  rw[aj (by omega)];exact .inr ⟨_,rfl,w,rfl⟩) (r,f,gY B,A7 d.length 0,0,()) ⟨0,_,L4 _,L5,rfl⟩
 exact⟨all,h1⟩
theorem Ra(G:GOK c d e):fY c.length (M5 d):=λx hx=>by obtain⟨y,hy,rfl⟩:=VM.1 hx;obtain⟨h1,h2,h3,h4,_⟩:=G.edge y hy;exact⟨h1,h2,h3,h4⟩
theorem Tz(G:GOK c d e)(hc:c.length<=7)(hd:d.length<=8){B:List ArcD}(hB:B.length=d.length)(hA:fY c.length B){o:List Int}(ho:Cyc.Ord c.length o)(hpos:∀ x∈B,x.1≠x.2.1->Cyc.pos o x.1<Cyc.pos o x.2.1):NetOK c.length (xk B d):=by
 have hel:=uR B B.length;have mem:∀ x∈xk B d,∃ y z,y∈B/\z∈d/\y.1≠y.2.1/\x=(y.1,y.2.1,z.2.2.2.2.2.2.1,z.2.2.2.2.2.1,()):=by intro x hx;obtain⟨i,hi,rfl⟩:=VM.1 hx;obtain⟨m1,y,m2,m3⟩:=CE hi;have hy:=bx (show i<d.length by omega);exact⟨y,d[i],B9 m2,A2 _,m3,CL m2 hy⟩
 refine⟨λx hx=>?_,hc,?_,λx hx=>?_,λx hx=>?_,λv=>64*(Cyc.pos o (v:Int):Int),λx hx=>?_,λv=>?_⟩
 ·obtain⟨y,z,h1,h2,h3,rfl⟩:=mem x hx;obtain⟨q1,q2,q3,q4⟩:=hA y h1;obtain⟨_,_,_,_,w1,_⟩:=G.edge z h2;exact⟨⟨q1,q2,q3,q4,h3⟩,by show 0<=z.2.2.2.2.2.1;omega⟩
 ·unfold xk;rw[Vq];omega
 ·obtain⟨y,z,h1,h2,h3,rfl⟩:=mem x hx;obtain⟨_,_,_,_,_,_,w1,w2⟩:=G.edge z h2;exact⟨w1,w2⟩
 ·obtain⟨y,z,h1,h2,h3,rfl⟩:=mem x hx;obtain⟨_,_,_,_,w1,w2,_⟩:=G.edge z h2;exact⟨by show 0<=z.2.2.2.2.2.1;omega,w2⟩
 ·obtain⟨y,z,h1,h2,h3,rfl⟩:=mem x hx;obtain⟨q1,q2,q3,q4⟩:=hA y h1;obtain⟨_,_,_,_,_,_,w1,w2⟩:=G.edge z h2;have hp:=hpos y h1 h3;show z.2.2.2.2.2.2.1<=64*(Cyc.pos o ((y.2.1.toNat:Nat):Int):Int)-64*(Cyc.pos o ((y.1.toNat:Nat):Int):Int);rw[U9 q1,U9 q3];omega
 have h1:Cyc.pos o (v:Int)<=o.length:=List.idxOf_le_length;have h2:=EO ho;show 0<=64*(Cyc.pos o (v:Int):Int)/\64*(Cyc.pos o (v:Int):Int)<=1000;omega
end
section
variable {n:Nat}{L:List Bd}
def AV(x:Int):Bool:=ltI x (-34359738368)||gtI x 34359738368
theorem Fp(H:NetOK n L)(q:List Int)(hq:q.length<=1000):nZ (((n:Int),L,()),q,())=some (!neI (q.length:Int) n && !q.any AV,()):=by
 have:=gl (B:=jD) q (λi=>(q,(q.length:Int),(i:Int),())) AV (.inl (false,())) (.inr (.inl ())) (by
  intro i hi;simp only[jD];rw[aq (by omega),U3,ac,bx hi,aR (by omega)];simp only[bv];unfold AV;cases ltI q[i] (-34359738368)<;>cases gtI q[i] 34359738368<;>rfl) (by
  simp only[jD];rw[aj (by omega)];rfl)
 simp only[nZ,D9 H,bv,U8,U4];rw[show qK (q,(q.length:Int),0,())=_ from this];cases neI (q.length:Int) n<;>cases q.any AV<;>rfl
theorem HH(H:NetOK n L)(q:List Int)(hq:q.length<=1000):iK (((n:Int),L,()),q,())=some (!neI (q.length:Int) n && !q.any AV,()):=by
 have:=gl (B:=eX) q (λi=>(q,(i:Int),())) AV (.inl (false,())) (.inr (.inl ())) (by
  intro i hi;simp only[eX];rw[aq (by omega),U3,ac,bx hi,aR (by omega)];simp only[bv];unfold AV;cases ltI q[i] (-34359738368)<;>cases gtI q[i] 34359738368<;>rfl) (by
  simp only[eX];rw[aj (by omega)];rfl)
 simp only[iK,F8 H,bv,U8,U4];rw[show mr (q,0,())=_ from this];cases neI (q.length:Int) n<;>cases q.any AV<;>rfl
theorem FE{q:List Int}(h:(!neI (q.length:Int) n && !q.any AV)=true):q.length=n/\∀ x∈q,-34359738368<=x/\x<=34359738368:=by simp only[Bool.and_eq_true,Bool.not_eq_true']at h;refine⟨by have:=Jc h.1;omega,λx hx=>?_⟩;have:=Vj.1 h.2 x hx;simp only[AV,Bool.or_eq_true,not_or,Bool.not_eq_true]at this;exact⟨Dt this.1,Lt this.2⟩
theorem Oz(H:NetOK n L)(q:List Int)(hq:q.length<=1000):∃ r,nh (((n:Int),L,()),q,())=some (r,())/\fc (((n:Int),L,()),q,())=some (r,())/\(r=true->(!neI (q.length:Int) n && !q.any AV)=true):=by
 have hl:=H.l8;simp only[nh,fc,Fp H q hq,HH H q hq,bv];cases hr:(!neI (q.length:Int) n && !q.any AV)with
 |false=>exact⟨false,rfl,rfl,λh=>by cases h⟩
 |true=>
  obtain⟨h1,h2⟩:=FE hr;simp only[U8,U4];obtain⟨r,u,g1,g2,g3⟩:=vY (B:=jn) (C:=fw) (λs t=>∃ i:Nat,i<=L.length/\s=(q,L,(L.length:Int),(i:Int),())/\t=((n:Int),L,q,(i:Int),())) (λs=>L.length-s.2.2.2.1.toNat)
   (λr u=>(r=.inl (false,())/\u=.inl (false,()))\/(r=.inr (.inl ())/\u=.inr (.inl ()))) (by
   rintro s t ⟨i,hi,rfl,rfl⟩;simp only[jn,fw];by_cases h:i<L.length
   ·obtain⟨⟨q1,q2,q3,q4,q5⟩,q6⟩:=H.bds _ (A2 h);simp only[Bd.fr,Bd.to]at q1 q2 q3 q4 q5;rw[aq (by omega),U3,U3,ac,bx h];simp only[bv];rw[nM q1,nM q3,bx (show L[i].1.toNat<q.length by omega),bx (show L[i].2.1.toNat<q.length by omega),aR (by omega)];simp only[bv];cases ltI (aK .i64 q[L[i].2.1.toNat] q[L[i].1.toNat]) L[i].2.2.1 with
    |true=>exact .inr ⟨_,_,rfl,rfl,.inl ⟨rfl,rfl⟩⟩
    |false=>exact .inl ⟨_,_,rfl,rfl,⟨i+1,h,rfl,rfl⟩,by show L.length-((i+1:Nat):Int).toNat<L.length-(i:Int).toNat;omega⟩
   rw[aj (by omega)];exact .inr ⟨_,_,rfl,rfl,.inr ⟨rfl,rfl⟩⟩) (q,L,(L.length:Int),0,()) ((n:Int),L,q,0,()) ⟨0,L4 _,rfl,rfl⟩
  rw[show nA (q,L,(L.length:Int),0,())=_ from g1,show jO ((n:Int),L,q,0,())=_ from g2];rcases g3 with⟨rfl,rfl⟩|⟨rfl,rfl⟩
  ·exact⟨false,rfl,rfl,λ_=>trivial⟩
  exact⟨true,rfl,rfl,λ_=>trivial⟩
theorem HG(l:List Bd)(x:Bd)(r:Nat->Int):Net.cost (l++[x]) r=Net.cost l r+x.wt*(r x.to.toNat-r x.fr.toNat):=by unfold Net.cost;rw[Net.lsum_append];simp[bn]
theorem zz(H:NetOK n L)(q:List Int)(hr:(!neI (q.length:Int) n&&!q.any AV)=true):
  py (((n:Int),L,()),q,())=some (Net.cost L (λv=>q.getD v 0),())/\eI (((n:Int),L,()),q,())=some (Net.cost L (λv=>q.getD v 0),()):=by
 have hl:=H.l8;have hn:=H.n7;obtain⟨h1,h2⟩:=FE hr;have hbd:∀ i,i<=L.length->-(100000000000000*(i:Int))<=Net.cost (L.take i) (λv=>q.getD v 0)/\Net.cost (L.take i) (λv=>q.getD v 0)<=100000000000000*(i:Int):=by
  intro i;induction i with
  |zero=>intro _;simp[Net.cost,bn]
  |succ i ih=>
   intro hi;have:=ih (by omega);have hil:i<L.length:=by omega
   obtain⟨⟨q1,q2,q3,q4,q5⟩,q6⟩:=H.bds _ (A2 hil);simp only[Bd.fr,Bd.to]at q1 q2 q3 q4;have w:=H.wt _ (A2 hil);rw[Vf hil,HG];have g:∀ v,v<n->-34359738368<=q.getD v 0/\q.getD v 0<=34359738368:=λv hv=>by rw[A5,bx (show v<q.length by omega)];exact h2 _ (A2 _)
   have g1:=g L[i].fr.toNat (by simp only[Bd.fr];omega);have g2:=g L[i].to.toNat (by simp only[Bd.to];omega);have g3:(L[i].wt*(q.getD L[i].to.toNat 0-q.getD L[i].fr.toNat 0)).natAbs<=1000*68719476736:=by rw[YS];exact V9 (by omega) (by omega)
   omega
 have step:∀ i (hi:i < L.length),q[L[i].2.1.toNat]?=some (q.getD L[i].to.toNat 0)/\q[L[i].1.toNat]?=some (q.getD L[i].fr.toNat 0) /\
   af .i64 (Net.cost (L.take i) (λv=>q.getD v 0)) (jV .i64 L[i].2.2.2.1 (aK .i64 (q.getD L[i].to.toNat 0) (q.getD L[i].fr.toNat 0)))=Net.cost (L.take (i+1)) (λv=>q.getD v 0):=by
  intro i hil;obtain⟨⟨q1,q2,q3,q4,q5⟩,q6⟩:=H.bds _ (A2 hil);simp only[Bd.fr,Bd.to]at q1 q2 q3 q4;have w:=H.wt _ (A2 hil);have g:∀ v,v<n->q[v]?=some (q.getD v 0)/\-34359738368<=q.getD v 0/\q.getD v 0<=34359738368:=λv hv=>by rw[A5,bx (show v<q.length by omega)];exact⟨rfl,h2 _ (A2 _)⟩
  have g1:=g L[i].fr.toNat (by simp only[Bd.fr];omega);have g2:=g L[i].to.toNat (by simp only[Bd.to];omega);have g3:(L[i].wt*(q.getD L[i].to.toNat 0-q.getD L[i].fr.toNat 0)).natAbs<=1000*68719476736:=by rw[YS];exact V9 (by omega) (by omega)
  have g4:=hbd i (by omega);refine⟨g2.1,g1.1,?_⟩;rw[nq (by omega) (by omega),show L[i].2.2.2.1=L[i].wt from rfl,Fq (by omega) (by omega),oT (by omega) (by omega),Vf hil,HG]
 constructor
 ·simp only[py,Fp H q (by omega),hr,bv,U8,U4];obtain⟨r,e1,rfl⟩:=aH (f:=ol) (λx=>∃ i:Nat,i<=L.length/\x=(q,Net.cost (L.take i) (λv=>q.getD v 0),L,(L.length:Int),(i:Int),())) (λx=>L.length-x.2.2.2.2.1.toNat) (λr=>r=.inl (Net.cost L (λv=>q.getD v 0),())) (by
   rintro x ⟨i,hi,rfl⟩;simp only[ol];by_cases h:i<L.length
   ·obtain⟨⟨q1,q2,q3,q4,q5⟩,q6⟩:=H.bds _ (A2 h);simp only[Bd.fr,Bd.to]at q1 q2 q3 q4 q5;obtain⟨s1,s2,s3⟩:=step i h;rw[aq (by omega),U3,ac,bx h];simp only[bv];rw[nM q1,nM q3,s1,s2,aR (by omega)];simp only[bv];rw[s3];exact .inl ⟨_,rfl,⟨i+1,h,rfl⟩,by show L.length-((i+1:Nat):Int).toNat<L.length-(i:Int).toNat;omega⟩
   have:i=L.length:=by omega
   subst this;rw[aj (by omega),V6];exact .inr ⟨_,rfl,rfl⟩) (q,0,L,(L.length:Int),0,()) ⟨0,L4 _,rfl⟩
  rw[show sE (q,0,L,(L.length:Int),0,())=_ from e1];rfl
 simp only[eI,HH H q (by omega),hr,bv,U8,U4];obtain⟨r,e1,rfl⟩:=aH (f:=jy) (λx=>∃ i:Nat,i<=L.length/\x=((n:Int),L,q,Net.cost (L.take i) (λv=>q.getD v 0),(i:Int),())) (λx=>L.length-x.2.2.2.2.1.toNat) (λr=>r=.inl (Net.cost L (λv=>q.getD v 0),())) (by
  rintro x ⟨i,hi,rfl⟩;simp only[jy];by_cases h:i<L.length
  ·obtain⟨⟨q1,q2,q3,q4,q5⟩,q6⟩:=H.bds _ (A2 h);simp only[Bd.fr,Bd.to]at q1 q2 q3 q4 q5;obtain⟨s1,s2,s3⟩:=step i h;rw[aq (by omega),U3,ac,bx h];simp only[bv];rw[nM q1,nM q3,s1,s2,aR (by omega)];simp only[bv];rw[s3];exact .inl ⟨_,rfl,⟨i+1,h,rfl⟩,by show L.length-((i+1:Nat):Int).toNat<L.length-(i:Int).toNat;omega⟩
  have:i=L.length:=by omega
  subst this;rw[aj (by omega),V6];exact .inr ⟨_,rfl,rfl⟩) ((n:Int),L,q,0,0,()) ⟨0,L4 _,rfl⟩
 rw[show nz ((n:Int),L,q,0,0,())=_ from e1];rfl
theorem CN{r f:List Int}(h:Solved n L r f):(!neI (r.length:Int) n && !r.any AV)=true:=by
 rw[gW (by have:=h.rl;omega),Vj.2 λx hx=>?_]
 ·rfl
 have:=h.rb x hx;unfold AV;rw[aj (by omega),eM (by omega)];simp
end
section
variable {a:ByteArray}{b:Bool}{c:List qN}{d:List tw}{e:List kO}
theorem JJ(G:GOK c d e)(hc:c.length<=7)(hd:d.length<=8)(hv:cX ((a,b,c,d,e,()),())=some (0,()))(hv2:bJ ((a,b,c,d,e,()),())=some (0,()))(q:List Int)(hq:q.length<=1000):
  ∃ n L rr all feas k1 k2,tB ((a,b,c,d,e,()),q,())=some (feas&&eqI k1 k2,())/\ia ((a,b,c,d,e,()),())=some ((n,L,()),())/\iw ((a,b,c,d,e,()),())=some (rr,all,0,()) /\
   fc ((n,L,()),q,())=some (feas,())/\(feas=true->eI ((n,L,()),q,())=some (k1,())/\eI ((n,L,()),rr,())=some (k2,())):=by
 have hA:=Ra G;have hdl:(M5 d).length=d.length:=Vq _;obtain⟨S,B,o,b1,b2,b3,b4,b5,b6⟩:=Mi hc hA (by omega);have hB:B.length=d.length:=by omega
 have H:=Tz G hc hd hB b4 b5 b6;obtain⟨rp,fp,p1,p2⟩:=MD H;obtain⟨rr,fr,r1,r2⟩:=NX H;obtain⟨allp,ap⟩:=Qy hB (by omega) (r:=rp) p2.fl;obtain⟨allr,ar⟩:=IM hB (by omega) (r:=rr) r2.fl;obtain⟨feas,f1,f2,f3⟩:=Oz H q hq;have cp:=(zz H rp (CN p2)).1;have cr:=(zz H rr (CN r2)).2;have hcost:Net.cost (xk B d) (λv=>rp.getD v 0)=Net.cost (xk B d) (λv=>rr.getD v 0):=p2.cert.cost_eq r2.cert;have hArcs:jT ((a,b,c,d,e,()),())=some (((c.length:Int),gb B,()),gY B,()):=by simp only[jT,PK (show d.length<=1000 by omega),bv,b2];rw[Rv (by omega)];rfl
 have hNet:ia ((a,b,c,d,e,()),())=some (((c.length:Int),xk B d,()),()):=by simp only[ia,hArcs,bv];rw[Sk hB (by omega)];rfl
 have hRanksP:qX ((a,b,c,d,e,()),())=some (rp,allp,0,()):=by simp only[qX,hv,bv];rw[gW rfl];simp only[U4,wV,If (show d.length<=1000 by omega),bv,b1];rw[OJ (by omega)];simp only[bv,B7,mf];rw[P2 hB (by omega)];simp only[bv,B7,p1];rw[gW rfl,fR (B5 _) (by omega)];simp only[U4,bv];rw[show lz (rp,fp,A7 d.length (aL I),gY B,((gY B).length:Int),0,())=_ from ap];rfl
 have hRanksR:iw ((a,b,c,d,e,()),())=some (rr,allr,0,()):=by simp only[iw,hv2,bv];rw[gW rfl];simp only[U4,hNet,bv,r1];rw[gW rfl,fR (B5 _) (by omega)];simp only[U4,bv,hArcs];rw[show gJ (rr,fr,gY B,A7 d.length (aL I),0,())=_ from ar];rfl
 refine⟨(c.length:Int),xk B d,rr,allr,feas,Net.cost (xk B d) (λv=>q.getD v 0),Net.cost (xk B d) (λv=>rr.getD v 0),?_,hNet,hRanksR,f2,λhf=>⟨(zz H q (f3 hf)).2,cr⟩⟩;simp only[tB,If (show d.length<=1000 by omega),bv,b1];rw[Mx hB (by omega)];simp only[bv,B7,hRanksP];rw[tg rfl];simp only[U3,f1,bv];cases feas with
 |false=>rfl
 |true=>rw[(zz H q (f3 rfl)).1,cp,hcost];rfl
end
end Go.Vm

/-
 AuditFinds: the law, in plain Lean.
-/
namespace Go.Vm
open Go.Proofs
set_option maxRecDepth 100000
attribute [local irreducible] ab
section
variable {a:ByteArray}{b:Bool}{c:List qN}{d:List tw}{e:List kO}{f g i:List BoxD}{h:List (List PtD)}{k l m n o p:Int}{q:List Int}
theorem NK:∃ r,dr ((a,b,c,d,e,()),7,8,())=some (r,())/\(r=true->FewG a c d e/\c.length<=7/\d.length<=8):=by
 by_cases h1:c.length<=7
 ·obtain⟨r,h2,h3⟩:=NM (a:=a) (b:=b) (c:=c) (d:=d) (e:=e);refine⟨r,?_,λhr=>⟨h3 hr,h1,?_⟩⟩
  ·unfold dr at h2 ⊢;simp only at h2 ⊢;rw[eM (show((c.length:Nat):Int)<=8 by omega)]at h2;rw[eM (show((c.length:Nat):Int)<=7 by omega)];exact h2
  apply Classical.byContradiction;intro h4;unfold dr at h2;simp only at h2;rw[eM (show((c.length:Nat):Int)<=8 by omega),pf (show(8:Int)<(d.length:Nat) by omega)]at h2;simp only[U4,U3]at h2;cases h2;cases hr
 refine⟨false,?_,λh=>by cases h⟩;unfold dr;simp only;rw[pf (show(7:Int)<(c.length:Nat) by omega)];rfl
theorem OU(hx:fG ((f,g,h,i,(k,l,m,n,()),o,p,q,()),())=some (true,())):q.length<=20:=by
 simp only[fG,Gs,bv]at hx;cases hr:(h.take 21).any λr=>gtI (r.length:Nat) 30 with
 |true=>rw[hr]at hx;cases hx
 |false=>
  rw[hr]at hx;simp only[U4,Vx,B7]at hx;have off:∀{c:Bool} {x:Option (Bool×Unit)},cond c x (some (false,()))=some (true,())->x=some (true,()):=by
   intro c x hc;cases c with
   |true=>exact hc
   |false=>cases hc
  have h5:=off (off (off (off hx)));have h6:leI (q.length:Int) 20=true:=by have:=L9 h5;exact(Prod.mk.inj this).1
  have:=yE h6;omega
theorem Fk(K:FewD f g i h)(hx:oU ((a,b,c,d,e,()),(f,g,h,i,(k,l,m,n,()),o,p,q,()),())=some (true,())):
  cX ((a,b,c,d,e,()),())=some (0,())/\f.length=c.length/\g.length=e.length/\f.all bxB=true/\g.all bxB=true:=by
 have kf:=K.hf;have kg:=K.hg;have ki:=K.hi;have no:(some (false,()):Option (Bool×Unit))≠some (true,()):=λh=>by cases h
 simp only[oU]at hx;obtain⟨⟨r1,_⟩,e1,hx⟩:=mV hx;obtain⟨h1,hx⟩:=cb hx (λ_=>no);obtain⟨h2,hx⟩:=cb hx (λ_=>no);obtain⟨h3,hx⟩:=cb hx (λ_=>no);obtain⟨_,hx⟩:=cb hx (λ_=>no);obtain⟨_,hx⟩:=cb hx (λ_=>no);obtain⟨t,t1,t2,t3⟩:=DU (k:=k) (l:=l) (m:=m) (n:=n) (o:=o) (p:=p) (q:=q) K;rw[t1]at hx;simp only[bv]at hx;have h1:=Jc h1;have h2:=Jc h2;have h3:=Jc h3;simp only at h1;subst h1;cases t with
 |false=>cases hx
 |true=>
  simp only[U3,Vx,B7,rF f (show f.length<=1000 by omega),rF g (show g.length<=1000 by omega),bv]at hx;refine⟨e1,by omega,by omega,?_,?_⟩
  ·cases hf:f.all bxB with
   |true=>rfl
   |false=>rw[hf]at hx;cases hx
  cases hf:f.all bxB with
  |false=>rw[hf]at hx;cases hx
  |true=>
   rw[hf]at hx;simp only[U3]at hx;cases hg:g.all bxB with
   |true=>rfl
   |false=>rw[hg]at hx;cases hx
variable {o1 o2 o3 o4 o5:Int}
theorem LV(K:FewD f g i h)(hc:c.length<=7)(hf:f.length=c.length):
  ∃ out:List ByteArray,out.length<=7/\uF (a,b,c,d,e,o1,o2,o3,o4,o5,f,g,h,i,k,l,m,n,o,p,q,[],c,(c.length:Int),0,())=some (.inl (a,b,c,d,e,o1,o2,o3,o4,o5,f,g,h,i,k,l,m,n,o,p,q,out,())) /\
   l6 (a,b,c,d,e,o1,o2,o3,o4,o5,f,g,h,i,k,l,m,n,o,p,q,[],0,())=some (.inl (a,b,c,d,e,o1,o2,o3,o4,o5,f,g,h,i,k,l,m,n,o,p,q,out,())):=by
 obtain⟨r,u,h1,h2,out,rfl,rfl,h3⟩:=vY (B:=pG) (C:=iu) (λs t=>∃(j:Nat) (w:List ByteArray),j<=c.length/\w.length<=j/\s=(a,b,c,d,e,o1,o2,o3,o4,o5,f,g,h,i,k,l,m,n,o,p,q,w,c,(c.length:Int),(j:Int),())/\t=(a,b,c,d,e,o1,o2,o3,o4,o5,f,g,h,i,k,l,m,n,o,p,q,w,(j:Int),())) (λs=>c.length-s.2.2.2.2.2.2.2.2.2.2.2.2.2.2.2.2.2.2.2.2.2.2.2.2.1.toNat)
  (λr u=>∃ w:List ByteArray,r=.inl (a,b,c,d,e,o1,o2,o3,o4,o5,f,g,h,i,k,l,m,n,o,p,q,w,())/\u=.inl (a,b,c,d,e,o1,o2,o3,o4,o5,f,g,h,i,k,l,m,n,o,p,q,w,())/\w.length<=7) (by
  rintro s t ⟨j,w,hj,hw,rfl,rfl⟩;simp only[pG,iu];by_cases hjc:j<c.length
  ·have hm:c.length-((j+1:Nat):Int).toNat<c.length-(j:Int).toNat:=by omega
   obtain⟨s,s0,s1,s2⟩:=Ol j (by omega);rw[aq (by omega)];simp only[U3,ac,bx hjc,bx (show j<f.length by omega),bv,s1,s2];rw[Sn (by
    have:(ByteArray.mk #[115,105,122,101,32]).size=5:=rfl;omega)]
   simp only[bv];rw[bw (by simp only[B2,B8];omega),aR (by omega)];simp only[bv];left;cases neI (aK .i64 f[j].2.2.1 f[j].1) c[j].2.2.1 with
   |true=>exact⟨_,_,rfl,rfl,⟨j+1,_,hjc,by simp;omega,rfl,rfl⟩,hm⟩
   |false=>
    cases neI (aK .i64 f[j].2.2.2.1 f[j].2.1) c[j].2.2.2.1 with
    |true=>exact⟨_,_,rfl,rfl,⟨j+1,_,hjc,by simp;omega,rfl,rfl⟩,hm⟩
    |false=>exact⟨_,_,rfl,rfl,⟨j+1,_,hjc,by omega,rfl,rfl⟩,hm⟩
  rw[aj (by omega)];exact .inr ⟨_,_,rfl,rfl,w,rfl,rfl,by omega⟩) (a,b,c,d,e,o1,o2,o3,o4,o5,f,g,h,i,k,l,m,n,o,p,q,[],c,(c.length:Int),0,()) (a,b,c,d,e,o1,o2,o3,o4,o5,f,g,h,i,k,l,m,n,o,p,q,[],0,()) ⟨0,[],L4 _,B5 _,rfl,rfl⟩
 exact⟨out,h3,h1,h2⟩
theorem Ot(K:FewD f g i h)(O:∀ x∈h,OkR x)(cr:Int):∃ t,uQ ((f,g,h,i,(k,l,m,n,()),o,p,q,()),())=some (t,())/\
  mA (a,b,c,d,e,o1,o2,o3,o4,o5,f,g,h,i,k,l,m,n,o,p,q,cr,0,0,())=some (.inl (a,b,c,d,e,o1,o2,o3,o4,o5,f,g,h,i,k,l,m,n,o,p,q,cr,t,())):=by
 have hh:=K.hh;obtain⟨r,u,h1,h2,t,rfl,rfl⟩:=vY (B:=pj) (C:=iI) (λs t=>∃(j:Nat) (w:Int),j<=h.length/\s=(w,h,(h.length:Int),(j:Int),())/\t=(a,b,c,d,e,o1,o2,o3,o4,o5,f,g,h,i,k,l,m,n,o,p,q,cr,w,(j:Int),())) (λs=>h.length-s.2.2.2.1.toNat)
  (λr u=>∃ w:Int,r=.inl (w,())/\u=.inl (a,b,c,d,e,o1,o2,o3,o4,o5,f,g,h,i,k,l,m,n,o,p,q,cr,w,())) (by
  rintro s t ⟨j,w,hj,rfl,rfl⟩;simp only[pj,iI];by_cases hjh:j<h.length
  ·obtain⟨z,z1,z2⟩:=MA h[j] (K.hr _ (A2 hjh)) (O _ (A2 hjh));rw[aq (by omega)];simp only[U3,ac,bx hjh,bv,z1,z2];rw[aR (by omega)];exact .inl ⟨_,_,rfl,rfl,⟨j+1,_,hjh,rfl,rfl⟩,by show h.length-((j+1:Nat):Int).toNat<h.length-(j:Int).toNat;omega⟩
  rw[aj (by omega)];exact .inr ⟨_,_,rfl,rfl,w,rfl,rfl⟩) (0,h,(h.length:Int),0,()) (a,b,c,d,e,o1,o2,o3,o4,o5,f,g,h,i,k,l,m,n,o,p,q,cr,0,0,()) ⟨0,0,L4 _,rfl,rfl⟩
 simp only[uQ];rw[show tU (0,h,(h.length:Int),0,())=_ from h1];exact⟨t,rfl,h2⟩
theorem BV(w:ByteArray)(t:Bool)(l:List ByteArray)(hl:l.length<=1000):dE (w,t,l,())=some (cond t (l++[w]) l,()):=by simp only[dE];rw[bw (by simp only[B2,B8];omega)];cases t<;>rfl
theorem GP(H:FewG a c d e)(K:FewD f g i h)(hc:c.length<=7)(hd:d.length<=8)(hq:q.length<=20)
  (hfit:oU ((a,b,c,d,e,()),(f,g,h,i,(k,l,m,n,()),o,p,q,()),())=some (true,())) (hfit2:eH ((a,b,c,d,e,()),(f,g,h,i,(k,l,m,n,()),o,p,q,()),())=some (true,())) (O:∀ x∈h,OkR x)
  (ho:cP ((o1,o2,o3,o4,o5,()),())=some (true,())) (ho2:bQ ((o1,o2,o3,o4,o5,()),())=some (true,())) :
  ∃ w,w.length<=2/\jH ((a,b,c,d,e,()),(o1,o2,o3,o4,o5,()),(f,g,h,i,(k,l,m,n,()),o,p,q,()),())=some (w,()) /\
   ((e.length≠0/\∃ z,cG ((a,b,c,d,e,()),(o1,o2,o3,o4,o5,()),f,g,())=some (z,())/\w=cond (neI z 0) [ByteArray.mk #[99,108,117,115,116,101,114,115]] []) \/
    (e.length=0/\cW ((a,b,c,d,e,()),(o1,o2,o3,o4,o5,()),(f,g,h,i,(k,l,m,n,()),o,p,q,()),())=some (w,()))):=by
 obtain⟨hv,hfl,hgl,hfb,hgb⟩:=Fk K hfit;obtain⟨v,v1,hv2⟩:=Ga (b:=b) H;rw[hv]at v1;have:v=0:=by cases v1;rfl
 subst this;have G:=PL H hv;have hf20:=K.hf;have hg20:=K.hg;simp only[jH];by_cases he:e.length=0
 ·rw[eM (by omega)];simp only[U4]
  have c1:=Mj (k:=k) (l:=l) (m:=m) (n:=n) (o:=o) (p:=p) (q:=q) K O;have c2:=Ov (k:=k) (l:=l) (m:=m) (n:=n) (o:=o) (p:=p) (q:=q) K O;generalize (((((L7 h.length).map (FW h)).sum:Nat):Int))=cr at c1 c2;obtain⟨t,t1,t2⟩:=Ot (a:=a) (b:=b) (c:=c) (d:=d) (e:=e) (k:=k) (l:=l) (m:=m) (n:=n) (o:=o) (p:=p) (q:=q) (o1:=o1) (o2:=o2) (o3:=o3) (o4:=o4) (o5:=o5) K O cr;obtain⟨N,L,rr,all,feas,k1,k2,r1,r2,r3,r4,r5⟩:=JJ (b:=b) G hc hd hv hv2 q (by omega);simp only[cW,lq,hfit2,bv,U8,U4];rw[c1,c2];simp only[bv,B7];rw[t1,t2];simp only[bv,B7,r1];cases eqI o1 0 with
  |true=>
   simp only[U3,r2,r3,bv];rw[gW rfl];simp only[U4,r4,bv];rw[BV _ _ _ (by simp),bw (by simp only[B2,B8];omega)];cases feas with
   |false=>exact⟨_,by simp,rfl,.inr ⟨he,rfl⟩⟩
   |true=>
    obtain⟨g1,g2⟩:=r5 rfl;simp only[g1,g2,bv,Iq];cases eqI k1 k2 with
    |false=>exact⟨_,by simp,rfl,.inr ⟨he,rfl⟩⟩
    |true=>exact⟨_,by simp,rfl,.inr ⟨he,rfl⟩⟩
  |false=>
   simp only[U4];cases eqI o1 1 with
   |true=>
    simp only[U3];rw[BV _ _ _ (by simp)];simp only[bv];rw[BV _ _ _ (by cases neI o cr<;>simp),bw (by simp only[B2,B8];omega),bw (by simp only[B2,B8];omega)];simp only[bv];cases neI o cr with
    |true=>
     rw[bw (by simp only[U6,B2,B8];omega)];cases neI p t with
     |true=>exact⟨_,by simp,rfl,.inr ⟨he,rfl⟩⟩
     |false=>exact⟨_,by simp,rfl,.inr ⟨he,rfl⟩⟩
    |false=>
     cases neI p t with
     |true=>exact⟨_,by simp,rfl,.inr ⟨he,rfl⟩⟩
     |false=>exact⟨_,by simp,rfl,.inr ⟨he,rfl⟩⟩
   |false=>
    simp only[U4];cases eqI o1 2 with
    |true=>
     simp only[U3];rw[BV _ _ _ (by simp),bw (by simp only[B2,B8];omega)];cases neI cr 0 with
     |true=>exact⟨_,by simp,rfl,.inr ⟨he,rfl⟩⟩
     |false=>exact⟨_,by simp,rfl,.inr ⟨he,rfl⟩⟩
    |false=>exact⟨_,by simp,rfl,.inr ⟨he,rfl⟩⟩
 rw[pf (by omega)];obtain⟨z,z1,z2⟩:=Jd H G hv hv2 o1 o2 o3 o4 o5 ho ho2 hf20 hg20 hfl hgl hfb hgb;simp only[U3,z1,bv];rw[BV _ _ _ (by simp)];exact⟨_,by cases neI z 0<;>simp,rfl,.inl ⟨he,z,z2,by cases neI z 0<;>rfl⟩⟩
theorem P8(s:ByteArray):neS s s=false:=by simp[neS]
theorem N3(w:List ByteArray)(hw:w.length<=1000):mY (w,w,())=some (true,()):=by
 have:=gl (B:=fO) w (λi=>(w,w,(i:Int),())) (λ_=>false) (.inl (false,())) (.inr (.inl ())) (by
  intro i hi;simp only[fO];rw[aq (by omega),U3,ac,bx hi,aR (by omega)];simp only[bv,P8,U4]) (by
  simp only[fO];rw[aj (by omega)];rfl)
 simp only[mY];rw[gW rfl,show nB (w,w,0,())=_ from this,Vj.2 (λ_ _=>by simp)];rfl
theorem LX(H:FewG a c d e)(K:FewD f g i h)(hc:c.length<=7)(hd:d.length<=8)(hq:q.length<=20):
  ∃ w,w.length<=1000/\sC ((a,b,c,d,e,()),(o1,o2,o3,o4,o5,()),(f,g,h,i,(k,l,m,n,()),o,p,q,()),())=some (w,()) /\
   iM ((a,b,c,d,e,()),(o1,o2,o3,o4,o5,()),(f,g,h,i,(k,l,m,n,()),o,p,q,()),())=some (w,()):=by
 obtain⟨r,r1,r2,r3⟩:=Oe (b:=b) (k:=k) (l:=l) (m:=m) (n:=n) (o:=o) (p:=p) (q:=q) H K;obtain⟨v,v1,v2⟩:=Re o1 o2 o3 o4 o5;simp only[sC,iM,r1,r2,v1,v2,bv];cases r with
 |false=>cases v<;>exact⟨_,by simp,rfl,rfl⟩
 |true=>
  cases v with
  |false=>exact⟨_,by simp,rfl,rfl⟩
  |true=>
   have O:=r3 rfl;obtain⟨hv,hfl,hgl,hfb,hgb⟩:=Fk K r1;simp only[U8,U4];obtain⟨out,w1,w2,w3⟩:=LV (a:=a) (b:=b) (c:=c) (d:=d) (e:=e) (k:=k) (l:=l) (m:=m) (n:=n) (o:=o) (p:=p) (q:=q) (o1:=o1) (o2:=o2) (o3:=o3) (o4:=o4) (o5:=o5) K hc hfl;rw[w2,w3];simp only[bv,B7];obtain⟨s,s1,s2⟩:=Oy (k:=k) (l:=l) (m:=m) (n:=n) (o:=o) (p:=p) (q:=q) K;simp only[me,r2,bv,U8,U4];rw[s1,s2];simp only[bv];rw[Ln K O,OI K O];simp only[bv];obtain⟨z,z1,z2,z3⟩:=GP (b:=b) H K hc hd hq r1 r2 O v1 v2;rw[z2];simp only[bv];generalize xZ ((f++g++i.filter λb=>!zV b)++h.map wy)=B;rw[bw (show out.length+[ByteArray.mk #[111,118,101,114,108,97,112]].length<=68719476736 by simp only[B2,B8];omega)];simp only[bv];rw[bw (show(out++[ByteArray.mk #[111,118,101,114,108,97,112]]).length+[ByteArray.mk #[98,111,117,110,100,115]].length<=68719476736 by simp only[U6,B2,B8];omega)];rw[bw (show out.length+[ByteArray.mk #[98,111,117,110,100,115]].length<=68719476736 by simp only[B2,B8];omega)];simp only[bv];have fin:∀ w:List ByteArray,w.length<=20->app w z=some (w++z)/\(w++z).length<=1000:=λw hw=>⟨bw (by omega),by rw[U6];omega⟩;have fin2:∀ w:List ByteArray,w.length<=20->app w [ByteArray.mk #[99,108,117,115,116,101,114,115]]=some (w++[ByteArray.mk #[99,108,117,115,116,101,114,115]]):=λw hw=>bw (by simp only[B2,B8];omega);have l0:out.length<=20:=by omega
   have l1:(out++[ByteArray.mk #[111,118,101,114,108,97,112]]).length<=20:=by simp only[U6,B2,B8];omega
   have l2:(out++[ByteArray.mk #[98,111,117,110,100,115]]).length<=20:=by simp only[U6,B2,B8];omega
   have l3:(out++[ByteArray.mk #[111,118,101,114,108,97,112]]++[ByteArray.mk #[98,111,117,110,100,115]]).length<=20:=by simp only[U6,B2,B8];omega
   have last:∀ w:List ByteArray,w.length<=20->∃ w',w'.length<=1000/\((app w z).bind fun x=>some (x,()))=some (w',()) /\
     cond (eqI (e.length:Int) 0) ((cW ((a,b,c,d,e,()),(o1,o2,o3,o4,o5,()),(f,g,h,i,(k,l,m,n,()),o,p,q,()),())).bind λy=>(app w y.1).bind λx=>some (x,()))
      ((cG ((a,b,c,d,e,()),(o1,o2,o3,o4,o5,()),f,g,())).bind λy=>cond (neI y.1 0) ((app w [ByteArray.mk #[99,108,117,115,116,101,114,115]]).bind λx=>some (x,())) (some (w,())))=some (w',()):=by
    intro w hw;obtain⟨g1,g2⟩:=fin w hw;refine⟨w++z,g2,by rw[g1];rfl,?_⟩;rcases z3 with⟨he,y,y1,y2⟩|⟨he,y1⟩
    ·rw[qe (by omega)];simp only[U4,y1,bv];rw[fin2 w hw];cases hn:neI y 0 with
     |true=>rw[hn]at y2;rw[y2];rfl
     |false=>rw[hn]at y2;rw[y2];simp
    rw[tg (by omega)];simp only[U3,y1,bv,g1]
   cases neI s 0 with
   |true=>
    simp only[U3];cases(eqI k B.1&&(eqI l B.2.1&&(eqI m B.2.2.1&&(eqI n B.2.2.2.1&&true))))with
    |true=>obtain⟨w',g1,g2,g3⟩:=last _ l1;exact⟨w',g1,g2,g3⟩
    |false=>obtain⟨w',g1,g2,g3⟩:=last _ l3;exact⟨w',g1,g2,g3⟩
   |false=>
    simp only[U4];cases(eqI k B.1&&(eqI l B.2.1&&(eqI m B.2.2.1&&(eqI n B.2.2.2.1&&true))))with
    |true=>obtain⟨w',g1,g2,g3⟩:=last _ l0;exact⟨w',g1,g2,g3⟩
    |false=>obtain⟨w',g1,g2,g3⟩:=last _ l2;exact⟨w',g1,g2,g3⟩
end
theorem CX(x)(_:JA Za_c.ins x):Za x=some (true,()):=by
 obtain⟨⟨a,b,c,d,e,_⟩,⟨o1,o2,o3,o4,o5,_⟩,⟨f,g,h,i,⟨k,l,m,n,_⟩,o,p,q,_⟩,_⟩:=x;have hlives:Zg ()=some (true,()):=rfl;obtain⟨r1,x1,x2⟩:=NK (a:=a) (b:=b) (c:=c) (d:=d) (e:=e);obtain⟨r2,y1,y2⟩:=JQ (f:=f) (g:=g) (h:=h) (i:=i) (k:=k) (l:=l) (m:=m) (n:=n) (o:=o) (p:=p) (q:=q);unfold Za;simp only;rw[show dr ((a,b,c,d,e,()),7,8,())=some (r1,())from x1];simp only[bv];cases r1 with
 |false=>simp only[Xc,U3,hlives,bv]
 |true=>
  obtain⟨H,hc,hd⟩:=x2 rfl;rw[show fG ((f,g,h,i,(k,l,m,n,()),o,p,q,()),())=some (r2,())from y1];simp only[U8,U4,bv];cases r2 with
  |false=>simp only[Xc,U3,hlives,bv]
  |true=>have K:=y2 rfl;have hq:=OU y1;obtain⟨w,w1,w2,w3⟩:=LX (b:=b) (k:=k) (l:=l) (m:=m) (n:=n) (o:=o) (p:=p) (q:=q) (o1:=o1) (o2:=o2) (o3:=o3) (o4:=o4) (o5:=o5) H K hc hd hq;simp only[U8,U4];rw[show sC ((a,b,c,d,e,()),(o1,o2,o3,o4,o5,()),(f,g,h,i,(k,l,m,n,()),o,p,q,()),())=_ from w2,show iM ((a,b,c,d,e,()),(o1,o2,o3,o4,o5,()),(f,g,h,i,(k,l,m,n,()),o,p,q,()),())=_ from w3];simp only[bv];rw[N3 w w1];simp only[bv,U3,hlives]
end Go.Vm

