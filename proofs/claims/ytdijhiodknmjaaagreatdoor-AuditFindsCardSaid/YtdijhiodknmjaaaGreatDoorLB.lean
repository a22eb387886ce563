/-
 Ranking problems, without any program.
-/
import Derived.Test.YtdijhiodknmjaaaGreatDoorVmE
open List renaming getElem?_eq_getElem->bx,getElem?_eq_some_iff->tz,mem_cons->A9,mem_of_getElem?->B9,map_cons->L3,getElem?_set_ne->Vo,mem_range->Vp,getElem?_set_self->VB,mem_iff_getElem?->VD,getElem?_eq_none->VG,getElem_of_mem->VJ,mem_map->VM,nodup_cons->Wg,of_mem_zip->Wu,getD->WT,getElem?_zip_eq_some->W7,zip_cons_cons->Xr
open Option.some renaming injEq->ov
open Prod.mk renaming injEq->B4
open Nat renaming le_refl->B5,lt_or_ge->VA
open Int renaming toNat_of_nonneg->U9,le_refl->V1,mul_add->WV,mul_le_mul_of_nonneg_left->WY,natCast_add->W4,mul_sub->Xm,neg_mul->Xy,add_assoc->Ya,sub_mul->Yh,mul_zero->Y0,mul_neg->Y4
open Bool renaming false_eq_true->Vz
open Option renaming map_some->VZ,getD_some->We
open List.Pairwise renaming imp_of_mem->Ym
open List.Nodup renaming not_mem_erase->Y9
set_option linter.unusedVariables false
set_option linter.unusedSimpArgs false
/-
 Networks: steps with gains, walks, and what a run of relaxations leaves behind. (Chapter 20, without any program.)
-/
namespace Go.Vm
namespace Net
inductive Walk (E:Nat->Nat->Int->Prop):Nat->Nat->Int->Prop
 |nil (u:Nat):Walk E u u 0
 |cons {u v w:Nat} {g G:Int} (h:E u v g) (k:Walk E v w G):Walk E u w (g+G)
theorem Walk.append{E:Nat->Nat->Int->Prop}{u v w:Nat}{G H:Int}(h:Walk E u v G)(k:Walk E v w H):Walk E u w (G+H):=by
 induction h with
 |nil=>simpa using k
 |cons h1 _ ih=>rw[Ya];exact .cons h1 (ih k)
theorem Walk.mono{E E':Nat->Nat->Int->Prop}(hE:∀ u v g,E u v g->E' u v g){u v:Nat}{G:Int}(h:Walk E u v G):Walk E' u v G:=by
 induction h with
 |nil=>exact .nil _
 |cons h1 _ ih=>exact .cons (hE _ _ _ h1) ih
def ka(E:Nat->Nat->Int->Prop):Prop:=∀ u G,Walk E u u G->G<=0
def Pot(E:Nat->Nat->Int->Prop)(p:Nat->Int):Prop:=∀ u v g,E u v g->p u+g<=p v
theorem Pot.walk{E:Nat->Nat->Int->Prop}{p:Nat->Int}(h:Pot E p){u v:Nat}{G:Int}(k:Walk E u v G):p u+G<=p v:=by
 induction k with
 |nil=>simp
 |cons h1 _ ih=>have:=h _ _ _ h1;omega
theorem Pot.noPos{E:Nat->Nat->Int->Prop}{p:Nat->Int}(h:Pot E p):ka E:=λu G k=>by have:=h.walk k;omega
theorem Mv {E E':Nat->Nat->Int->Prop}{R:Nat->Prop}{d:Nat->Int}(hn:ka E)
  (hin:∀ u v g,E' u v g->R u->R v/\d u+g<=d v) (hout:∀ u v g,E' u v g->¬R u->E u v g):ka E':=by
 have hw:∀{u v:Nat} {G:Int},Walk E' u v G->(R u->R v/\d u+G<=d v)/\(¬R u->R v\/Walk E u v G):=by
  intro u v G h;induction h with
  |nil u=>exact⟨λh=>⟨h,by simp⟩,λ_=>.inr (.nil _)⟩
  | @cons u v w g G h1 _ ih=>
   refine⟨λhu=>?_,λhu=>?_⟩
   ·obtain⟨hv,h2⟩:=hin _ _ _ h1 hu;obtain⟨hw,h3⟩:=ih.1 hv;exact⟨hw,by omega⟩
   by_cases hv:R v
   ·exact .inl (ih.1 hv).1
   rcases ih.2 hv with h|h
   ·exact .inl h
   exact .inr (.cons (hout _ _ _ h1 hu) h)
 intro u G h;by_cases hu:R u
 ·have:=((hw h).1 hu).2;omega
 rcases(hw h).2 hu with h|h
 ·exact absurd h hu
 exact hn u G h
abbrev Par:=Nat->Option (Nat×Int)
def aM(par:Par):Nat->Nat->Option (Nat×Int)
 |0,v=>some (v,0)
 |l+1,v=>match par v with
  |some (u,g)=>match aM par l u with
   |some (w,G)=>some (w,g+G)
   |none=>none
  |none=>none
theorem sb{par:Par}:∀{i j:Nat} {v u w:Nat} {G H:Int},aM par i v=some (u,G)->aM par j u=some (w,H)->aM par (i+j) v=some (w,G+H)
 |0,j,v,u,w,G,H,h1,h2=>by simp only[aM,ov,B4]at h1;obtain⟨rfl,rfl⟩:=h1;simpa using h2
 |i+1,j,v,u,w,G,H,h1,h2=>by
  rw[Nat.add_right_comm];simp only[aM]at h1 ⊢;cases hp:par v with
  |none=>rw[hp]at h1;simp at h1
  |some p=>
   obtain⟨p,g⟩:=p;rw[hp]at h1;simp only at h1 ⊢;cases hb:aM par i p with
   |none=>rw[hb]at h1;simp at h1
   |some q=>obtain⟨q,G'⟩:=q;rw[hb]at h1;simp only[ov,B4]at h1;obtain⟨rfl,rfl⟩:=h1;rw[sb hb h2];simp[Ya]
theorem lA{par:Par}:∀{i j:Nat} {v w:Nat} {G:Int},i<=j->aM par j v=some (w,G)->∃ u H K,aM par i v=some (u,H)/\aM par (j-i) u=some (w,K)/\G=H+K
 |0,j,v,w,G,_,h=>⟨v,0,G,rfl,by simpa using h,by simp⟩
 |i+1,0,_,_,_,h,_=>by omega
 |i+1,j+1,v,w,G,hij,h=>by
  simp only[aM]at h ⊢;cases hp:par v with
  |none=>rw[hp]at h;simp at h
  |some p=>
   obtain⟨p,g⟩:=p;rw[hp]at h;simp only at h ⊢;cases hb:aM par j p with
   |none=>rw[hb]at h;simp at h
   |some q=>
    obtain⟨q,G'⟩:=q;rw[hb]at h;simp only[ov,B4]at h;obtain⟨rfl,rfl⟩:=h;obtain⟨u,H,K,h1,h2,h3⟩:=lA (show i<=j by omega) hb;rw[h1];refine⟨u,g+H,K,rfl,?_,by omega⟩;have:j+1-(i+1)=j-i:=by omega
    rw[this];exact h2
structure Rlx (n:Nat)(E:Nat->Nat->Int->Prop)(d:Nat->Int)(par:Par)(rk:Nat->Nat):Prop where
 step:∀ v u g,par v=some (u,g)->E u v g/\d v<=d u+g/\u<n/\v<n
 rank:∀ v u g,par v=some (u,g)->rk v<=rk u+1
 has:∀ v,1<=rk v->par v≠none
 pos:∀ v l G,0<l->aM par l v=some (v,G)->∃ i c u g H,i<l/\aM par i v=some (c,H)/\par c=some (u,g)/\d c<d u+g
variable {n:Nat}{E:Nat->Nat->Int->Prop}{d:Nat->Int}{par:Par}{rk:Nat->Nat}
def upd{α:Type}(f:Nat->α)(y:Nat)(a:α):Nat->α:=λv=>if v=y then a else f v
theorem upd_self{α:Type}(f:Nat->α)(y:Nat)(a:α):upd f y a y=a:=by simp[upd]
theorem cA{α:Type}(f:Nat->α){y v:Nat}(a:α)(h:v≠y):upd f y a v=f v:=by simp[upd,h]
theorem Rlx.relax (h:Rlx n E d par rk){x y:Nat}{g:Int}{m:Nat}(hE:E x y g)(hx:x < n)(hy:y < n)(hd:d y < d x+g)(hm:m<=rk x+1)(hk:rk x<=m)(hky:rk y<=m)(hxy:x≠y) :
  Rlx n E (upd d y (d x+g)) (upd par y (some (x,g))) (upd rk y m):=by
 have hge:∀ v,d v<=upd d y (d x+g) v:=λv=>by unfold upd;split<;>(try subst_vars)<;>omega
 refine⟨λv u g' hv=>?_,λv u g' hv=>?_,λv hv=>?_,λv l G hl hb=>?_⟩
 ·by_cases e:v=y
  ·subst e;rw[upd_self]at hv;cases hv;rw[upd_self,cA _ _ hxy];exact⟨hE,by omega,hx,hy⟩
  rw[cA _ _ e]at hv;obtain⟨a,b,c,c2⟩:=h.step v u g' hv;rw[cA _ _ e];exact⟨a,by have:=hge u;omega,c,c2⟩
 ·by_cases e:v=y
  ·subst e;rw[upd_self]at hv;cases hv;rw[upd_self,cA _ _ hxy];exact hm
  rw[cA _ _ e]at hv;rw[cA _ _ e];have:=h.rank v u g' hv;unfold upd;split
  ·subst_vars;omega
  exact this
 ·by_cases e:v=y
  ·subst e;rw[upd_self];simp
  rw[cA _ _ e]at hv ⊢;exact h.has v hv
 by_cases hex:∃ i H,i<l/\aM (upd par y (some (x,g))) i v=some (y,H)
 ·-- the one that has y for a parent
  have key:∀ i c H K,aM (upd par y (some (x,g))) i v=some (c,H)->aM (upd par y (some (x,g))) 1 c=some (y,K)->i < l ->
    ∃ i c u g' H,i<l/\aM (upd par y (some (x,g))) i v=some (c,H)/\upd par y (some (x,g)) c=some (u,g')/\upd d y (d x+g) c<upd d y (d x+g) u+g':=by
   intro i c H K h1 h2 hi;simp only[aM]at h2;cases hp:upd par y (some (x,g)) c with
   |none=>rw[hp]at h2;simp at h2
   |some p=>
    obtain⟨p,g'⟩:=p;rw[hp]at h2;simp only[ov,B4]at h2;obtain⟨rfl,_⟩:=h2;refine⟨i,c,p,g',H,hi,h1,hp,?_⟩;by_cases e:c=p
    ·subst e;rw[upd_self]at hp;cases hp;exact absurd rfl hxy
    rw[cA _ _ e]at hp;have:=(h.step c p g' hp).2.1;rw[upd_self,cA _ _ e];omega
  obtain⟨i,H,hi,hb1⟩:=hex;cases i with
  |zero=>
   simp only[aM,ov,B4]at hb1;obtain⟨rfl,rfl⟩:=hb1;obtain⟨u,H,K,h1,h2,_⟩:=lA (show l-1<=l by omega) hb;have:l-(l-1)=1:=by omega
   rw[this]at h2;exact key _ _ _ _ h1 h2 (by omega)
  |succ i=>
   obtain⟨u,H',K,h1,h2,_⟩:=lA (show i<=i+1 by omega) hb1;have:i+1-i=1:=by omega
   rw[this]at h2;exact key _ _ _ _ h1 h2 (by omega)
 have hold:∀ i,i<=l->aM par i v=aM (upd par y (some (x,g))) i v:=by
  intro i;induction i with
  |zero=>intro _;rfl
  |succ i ih=>
   intro hi;have e1:=ih (by omega);obtain⟨u,H,K,h1,h2,_⟩:=lA (show i<=l by omega) hb;have hu:u≠y:=λe=>hex ⟨i,H,by omega,e▸h1⟩;rw[h1]at e1;obtain⟨l',hl'⟩:∃ l',l-i=l'+1:=⟨l-i-1,by omega⟩;rw[hl']at h2;simp only[aM]at h2;cases hp:upd par y (some (x,g)) u with
   |none=>rw[hp]at h2;simp at h2
   |some p=>
    obtain⟨p,g'⟩:=p;have hp':par u=some (p,g'):=by rw[cA _ _ hu]at hp;exact hp
    have a1:aM (upd par y (some (x,g))) 1 u=some (p,g'+0):=by simp[aM,hp]
    have a2:aM par 1 u=some (p,g'+0):=by simp[aM,hp']
    rw[sb h1 a1,sb e1 a2]
 obtain⟨i,c,u,g',H,a1,a2,a3,a4⟩:=h.pos v l G hl (by rw[hold l (B5 _)];exact hb);have hc:c≠y:=λe=>hex ⟨i,H,a1,by rw[<- hold i (by omega),a2,e]⟩;refine⟨i,c,u,g',H,a1,by rw[<- hold i (by omega)];exact a2,by rw[cA _ _ hc];exact a3,?_⟩;rw[cA _ _ hc];have:=hge u;omega
theorem Rlx.init(n:Nat)(E:Nat->Nat->Int->Prop)(d:Nat->Int):Rlx n E d (λ_=>none) (λ_=>0):=
 ⟨by simp,by simp,by simp,λv l G hl hb=>by
  obtain⟨l,rfl⟩:∃ k,l=k+1:=⟨l-1,by omega⟩;simp[aM]at hb⟩
theorem Rlx.gain(h:Rlx n E d par rk):∀{l v w:Nat} {G:Int},aM par l v=some (w,G)->d v<=d w+G
 |0,v,w,G,hb=>by simp only[aM,ov,B4]at hb;obtain⟨rfl,rfl⟩:=hb;omega
 |l+1,v,w,G,hb=>by
  simp only[aM]at hb;cases hp:par v with
  |none=>rw[hp]at hb;simp at hb
  |some p=>
   obtain⟨p,g⟩:=p;rw[hp]at hb;simp only at hb;cases hq:aM par l p with
   |none=>rw[hq]at hb;simp at hb
   |some q=>obtain⟨q,K⟩:=q;rw[hq]at hb;simp only[ov,B4]at hb;obtain⟨rfl,rfl⟩:=hb;have:=h.gain hq;have:=(h.step _ _ _ hp).2.1;omega
theorem Rlx.walk(h:Rlx n E d par rk):∀{l v w:Nat} {G:Int},aM par l v=some (w,G)->Walk E w v G
 |0,v,w,G,hb=>by simp only[aM,ov,B4]at hb;obtain⟨rfl,rfl⟩:=hb;exact .nil _
 |l+1,v,w,G,hb=>by
  simp only[aM]at hb;cases hp:par v with
  |none=>rw[hp]at hb;simp at hb
  |some p=>
   obtain⟨p,g⟩:=p;rw[hp]at hb;simp only at hb;cases hq:aM par l p with
   |none=>rw[hq]at hb;simp at hb
   |some q=>
    obtain⟨q,K⟩:=q;rw[hq]at hb;simp only[ov,B4]at hb;obtain⟨rfl,rfl⟩:=hb;have:=(h.walk hq).append (.cons (h.step _ _ _ hp).1 (.nil _));have e:K+(g+0)=g+K:=by omega
    rw[e]at this;exact this
theorem Rlx.closed(h:Rlx n E d par rk){l v:Nat}{G:Int}(hl:0<l)(hb:aM par l v=some (v,G)):0<G:=by
 obtain⟨i,c,u,g,H,a1,a2,a3,a4⟩:=h.pos v l G hl hb;obtain⟨c',H',K,b1,b2,b3⟩:=lA (show i<=l by omega) hb;rw[a2]at b1;cases b1;obtain⟨l',hl'⟩:∃ l',l-i=l'+1:=⟨l-i-1,by omega⟩;rw[hl']at b2;simp only[aM,a3]at b2;cases hq:aM par l' u with
 |none=>rw[hq]at b2;simp at b2
 |some q=>obtain⟨q,K'⟩:=q;rw[hq]at b2;simp only[ov,B4]at b2;obtain⟨rfl,rfl⟩:=b2;have e1:=h.gain a2;have e2:=h.gain hq;omega
theorem Rlx.not_closed(h:Rlx n E d par rk)(hn:ka E){l v:Nat}{G:Int}(hl:0<l):aM par l v≠some (v,G):=λhb=>by have:=h.closed hl hb;have:=hn v G (h.walk hb);omega
theorem Rlx.chain(h:Rlx n E d par rk):∀{k v:Nat},k<=rk v->∃ w G,aM par k v=some (w,G)/\rk v<=rk w+k
 |0,v,_=>⟨v,0,rfl,by omega⟩
 |k+1,v,hk=>by
  cases hp:par v with
  |none=>exact absurd hp (h.has v (by omega))
  |some p=>obtain⟨p,g⟩:=p;have:=h.rank v p g hp;obtain⟨w,G,h1,h2⟩:=h.chain (k:=k) (v:=p) (by omega);exact⟨w,g+G,by simp[aM,hp,h1],by omega⟩
theorem Rlx.back_lt(h:Rlx n E d par rk){k v w:Nat}{G:Int}(hv:v<n)(hb:aM par k v=some (w,G)):w<n:=by
 cases k with
 |zero=>simp only[aM,ov,B4]at hb;obtain⟨rfl,_⟩:=hb;exact hv
 |succ k=>
  obtain⟨u,H,K,h1,h2,_⟩:=lA (show k<=k+1 by omega) hb;have:k+1-k=1:=by omega
  rw[this]at h2;simp only[aM]at h2;cases hp:par u with
  |none=>rw[hp]at h2;simp at h2
  |some p=>obtain⟨p,g⟩:=p;rw[hp]at h2;simp only[ov,B4]at h2;obtain⟨rfl,_⟩:=h2;exact(h.step _ _ _ hp).2.2.1
theorem yG:∀(m:Nat) (l:List Nat),l.Nodup->(∀ x∈l,x<m)->l.length<=m
 |0,l,_,h=>by
  cases l with
  |nil=>simp
  |cons a l=>have:=h a (by simp);omega
 |m+1,l,hn,h=>by
  by_cases hm:m∈l
  ·have h1:=yG m (l.erase m) (hn.erase m) (λx hx=>by
    have h2:=h x (List.mem_of_mem_erase hx);have h3:x≠m:=λe=>by subst e;exact(Y9 hn) hx
    omega)
   rw[List.length_erase_of_mem hm]at h1;omega
  have:=yG m l hn (λx hx=>by
   have h2:=h x hx;have h3:x≠m:=λe=>hm (e▸hx);omega)
  omega
theorem Pc{n:Nat}{f:Nat->Nat}(h:∀ i,i<=n->f i<n):∃ i j,i<j/\j<=n/\f i=f j:=by
 apply Classical.byContradiction;intro hne;have hn:((List.range (n+1)).map f).Nodup:=by
  refine List.pairwise_map.2 (Ym (fun {a b} ha hb hab e=>?_) List.nodup_range);have ha:=Vp.1 ha;have hb:=Vp.1 hb;rcases Nat.lt_or_gt_of_ne hab with h1|h1
  ·exact hne ⟨a,b,h1,by omega,e⟩
  exact hne ⟨b,a,h1,by omega,e.symm⟩
 have:=yG n _ hn (by
  intro x hx;obtain⟨i,hi,rfl⟩:=VM.1 hx;exact h i (by have:=Vp.1 hi;omega))
 simp at this;omega
theorem Rlx.round(h:Rlx n E d par rk){v k:Nat}(hv:v<n)(hk:n<=k)(hr:k<=rk v):∃ w G l H,aM par k v=some (w,G)/\0<l/\l<=n/\aM par l w=some (w,H):=by
 have hc:∀ i,i<=k->∃ w G,aM par i v=some (w,G):=λi hi=>by obtain⟨w,G,h1,_⟩:=h.chain (k:=i) (v:=v) (by omega);exact⟨w,G,h1⟩
 obtain⟨i,j,hij,hj,e⟩:=Pc (n:=n) (f:=λi=>((aM par i v).map (·.1)).getD 0) (λi hi=>by
  obtain⟨w,G,h1⟩:=hc i (by omega);simp only[h1,VZ,We];exact h.back_lt hv h1)
 obtain⟨a,A,ha⟩:=hc i (by omega);obtain⟨b,B,hb⟩:=hc j (by omega);simp only[ha,hb,VZ,We]at e;subst e;obtain⟨w,W,hw⟩:=hc k (B5 _);obtain⟨a',A',K,b1,b2,b3⟩:=lA (show i<=j by omega) hb;rw[ha]at b1;cases b1
 obtain⟨a'',A'',K2,c1,c2,c3⟩:=lA (show i<=k by omega) hw;rw[ha]at c1;cases c1
 have r1:=sb b2 c2;have r2:∃ H,aM par (j-i) w=some (w,H):=by
  have e1:j-i+(k-i)=(k-i)+(j-i):=by omega
  rw[e1]at r1;obtain⟨u,H,K3,q1,q2,_⟩:=lA (show k-i<=(k-i)+(j-i) by omega) r1;rw[c2]at q1;cases q1
  have e2:(k-i)+(j-i)-(k-i)=j-i:=by omega
  rw[e2]at q2;exact⟨_,q2⟩
 obtain⟨H,hH⟩:=r2;exact⟨w,W,j-i,H,hw,by omega,by omega,hH⟩
theorem Rlx.rank_lt(h:Rlx n E d par rk)(hn:ka E){v:Nat}(hv:v<n):rk v<n:=by apply Classical.byContradiction;intro hr;obtain⟨w,G,l,H,_,hl,_,hb⟩:=h.round hv (B5 n) (by omega);exact h.not_closed hn hl hb
end Net
end Go.Vm

/-
 Ranking problems: two ranks with certificates have the same cost. (Chapter 20, without any program.)
-/
namespace Go.Vm
namespace Net
def bn{α:Type}(F:α->Int):List α->Int
 |[]=>0
 |a::l=>F a+bn F l
def zsum(F:Nat->Int):Nat->Int
 |0=>0
 |n+1=>zsum F n+F n
theorem zf{α:Type}(F G:α->Int):∀ l:List α,bn (λa=>F a+G a) l=bn F l+bn G l
 |[]=>rfl
 |a::l=>by simp only[bn,zf F G l];omega
theorem lsum_sub{α:Type}(F G:α->Int):∀ l:List α,bn (λa=>F a-G a) l=bn F l-bn G l
 |[]=>rfl
 |a::l=>by simp only[bn,lsum_sub F G l];omega
theorem lsum_zero{α:Type}:∀ l:List α,bn (λ_=>0) l=0
 |[]=>rfl
 |_::l=>by simp only[bn,lsum_zero l];rfl
theorem lsum_mul{α:Type}(c:Int)(F:α->Int):∀ l:List α,bn (λa=>c*F a) l=c*bn F l
 |[]=>by simp[bn]
 |a::l=>by simp only[bn,lsum_mul c F l,WV]
theorem lsum_le{α:Type}{F G:α->Int}:∀{l:List α},(∀ a∈l,F a<=G a)->bn F l<=bn G l
 |[],_=>V1 _
 |a::l,h=>by have h1:=h a (by simp);have h2:=lsum_le (l:=l) (λb hb=>h b (by simp[hb]));simp only[bn];omega
theorem lsum_congr{α:Type}{F G:α->Int}:∀{l:List α},(∀ a∈l,F a=G a)->bn F l=bn G l
 |[],_=>rfl
 |a::l,h=>by simp only[bn,h a (by simp),lsum_congr (l:=l) (λb hb=>h b (by simp[hb]))]
theorem lsum_append{α:Type}(F:α->Int):∀ l r:List α,bn F (l++r)=bn F l+bn F r
 |[],r=>by simp[bn]
 |a::l,r=>by simp only[List.cons_append,bn,lsum_append F l r];omega
theorem lsum_nonneg{α:Type}{F:α->Int}{l:List α}(h:∀ a∈l,0<=F a):0<=bn F l:=by have:=lsum_le (F:=λ_=>(0:Int)) (G:=F) (l:=l) h;rwa[lsum_zero]at this
theorem lsum_mem_le{α:Type}{F:α->Int}:∀{l:List α} {a:α},(∀ b∈l,0<=F b)->a∈l->F a<=bn F l
 |[],_,_,h=>by simp at h
 |b::l,a,h,ha=>by
  have h0:=h b (by simp);have h1:=lsum_nonneg (l:=l) (λc hc=>h c (by simp[hc]));simp only[bn];rcases A9.1 ha with rfl|ha
  ·omega
  have:=lsum_mem_le (l:=l) (λc hc=>h c (by simp[hc])) ha;omega
theorem zsum_add(F G:Nat->Int):∀ n,zsum (λv=>F v+G v) n=zsum F n+zsum G n
 |0=>rfl
 |n+1=>by simp only[zsum,zsum_add F G n];omega
theorem JT(c:Int)(F:Nat->Int):∀ n,zsum (λv=>c*F v) n=c*zsum F n
 |0=>by simp[zsum]
 |n+1=>by simp only[zsum,JT c F n,WV]
theorem zsum_zero:∀ n,zsum (λ_=>0) n=0
 |0=>rfl
 |n+1=>by simp only[zsum,zsum_zero n];rfl
theorem zsum_congr{F G:Nat->Int}:∀{n},(∀ v,v<n->F v=G v)->zsum F n=zsum G n
 |0,_=>rfl
 |n+1,h=>by simp only[zsum,h n (by omega),zsum_congr (n:=n) (λv hv=>h v (by omega))]
theorem NA{F G:Nat->Int}:∀{n},(∀ v,v<n->F v<=G v)->zsum F n<=zsum G n
 |0,_=>V1 _
 |n+1,h=>by have h1:=h n (by omega);have h2:=NA (n:=n) (λv hv=>h v (by omega));simp only[zsum];omega
theorem zsum_nonneg{F:Nat->Int}{n:Nat}(h:∀ v,v<n->0<=F v):0<=zsum F n:=by have:=NA (F:=λ_=>0) (G:=F) (n:=n) h;rwa[zsum_zero]at this
theorem zsum_mem_le{F:Nat->Int}:∀{n v:Nat},(∀ v,v<n->0<=F v)->v<n->F v<=zsum F n
 |0,_,_,h=>by omega
 |n+1,v,h,hv=>by
  have h0:=h n (by omega);have h1:=zsum_nonneg (n:=n) (λv hv=>h v (by omega));simp only[zsum];by_cases e:v=n
  ·subst e;omega
  have:=zsum_mem_le (n:=n) (v:=v) (λv hv=>h v (by omega)) (by omega);omega
def at1(a:Int)(v:Nat):Int:=if a=(v:Int)then 1 else 0
theorem ER(a v:Nat):at1 (a:Int) v=if a=v then 1 else 0:=by
 unfold at1;by_cases h:a=v
 ·subst h;simp
 rw[if_neg h,if_neg (by omega)]
theorem zsum_at(r:Nat->Int)(c:Int):∀{n a:Nat},a<n->zsum (λv=>r v*(c*at1 (a:Int) v)) n=c*r a
 |0,_,h=>by omega
 |n+1,a,h=>by
  simp only[zsum,ER];by_cases e:a=n
  ·subst e;have:zsum (λv=>r v*(c*at1 (a:Int) v)) a=zsum (λ_=>0) a:=zsum_congr λv hv=>by rw[ER,if_neg (by omega)];simp
   simp only[ER]at this;rw[this,zsum_zero];simp[Int.mul_comm]
  have:=zsum_at r c (n:=n) (a:=a) (by omega);simp only[ER]at this;rw[this,if_neg e];simp
abbrev Bd:=Int×(Int×(Int×(Int×Unit)))
def Bd.fr(b:Bd):Int:=b.1
def Bd.to(b:Bd):Int:=b.2.1
def Bd.len(b:Bd):Int:=b.2.2.1
def Bd.wt(b:Bd):Int:=b.2.2.2.1
def Bd.ok(n:Nat)(b:Bd):Prop:=0<=b.fr/\b.fr<n/\0<=b.to/\b.to<n/\b.fr≠b.to
def bal(l:List (Bd×Int))(v:Nat):Int:=bn (λp=>(p.2-p.1.wt)*(at1 p.1.to v-at1 p.1.fr v)) l
def cost(L:List Bd)(r:Nat->Int):Int:=bn (λb=>b.wt*(r b.to.toNat-r b.fr.toNat)) L
theorem bal_sum{n:Nat}(r:Nat->Int):∀{l:List (Bd×Int)},(∀ p∈l,p.1.ok n)->zsum (λv=>r v*bal l v) n=bn (λp=>(p.2-p.1.wt)*(r p.1.to.toNat-r p.1.fr.toNat)) l
 |[],_=>by simp only[bal,bn,Y0];exact zsum_zero n
 |p::l,h=>by
  obtain⟨h1,h2,h3,h4,_⟩:=h p (by simp);have ih:=bal_sum r (l:=l) (λq hq=>h q (by simp[hq]));have e:∀ v,r v*bal (p::l) v=r v*((p.2-p.1.wt)*at1 (p.1.to.toNat:Int) v)+(r v*((-(p.2-p.1.wt))*at1 (p.1.fr.toNat:Int) v)+r v*bal l v):=by intro v;have q1:((p.1.to.toNat:Nat):Int)=p.1.to:=U9 h3;have q2:((p.1.fr.toNat:Nat):Int)=p.1.fr:=U9 h1;rw[q1,q2];show r v*((p.2-p.1.wt)*(at1 p.1.to v-at1 p.1.fr v)+bal l v)=_;rw[WV,Xm,Xy,Xm,Y4];omega
  rw[zsum_congr (λv _=>e v),zsum_add,zsum_add,ih,zsum_at r _ (by omega),zsum_at r _ (by omega)];simp only[bn];rw[Xm,Xy];omega
structure Cert (n:Nat)(L:List Bd)(r:Nat->Int)(f:List Int):Prop where
 ok:∀ b∈L,b.ok n
 len:f.length=L.length
 feas:∀ b∈L,b.len<=r b.to.toNat-r b.fr.toNat
 nonneg:∀ p∈L.zip f,0<=p.2
 tight:∀ p∈L.zip f,0<p.2->r p.1.to.toNat-r p.1.fr.toNat=p.1.len
 bal:∀ v,v<n->bal (L.zip f) v=0
theorem lsum_zip{α β:Type}(F:α->Int):∀{L:List α} {f:List β},f.length=L.length->bn (λp=>F p.1) (L.zip f)=bn F L
 |[],[],_=>rfl
 |a::L,x::f,h=>by simp only[Xr,bn,lsum_zip F (L:=L) (f:=f) (by simpa using h)]
 |[],_::_,h=>by simp at h
 |_::_,[],h=>by simp at h
theorem Cert.cost_le{n:Nat}{L:List Bd}{r r':Nat->Int}{f:List Int}(h:Cert n L r f)(hf:∀ b∈L,b.len<=r' b.to.toNat-r' b.fr.toNat):cost L r<=cost L r':=by
 have flow:∀ q:Nat->Int,bn (λp=>p.2*(q p.1.to.toNat-q p.1.fr.toNat)) (L.zip f)=cost L q:=by intro q;have e1:=bal_sum (n:=n) q (l:=L.zip f) (λp hp=>h.ok _ (Wu hp).1);rw[zsum_congr (G:=λ_=>0) (λv hv=>by rw[h.bal v hv,Y0]),zsum_zero]at e1;have e2:=lsum_sub (λp:Bd×Int=>p.2*(q p.1.to.toNat-q p.1.fr.toNat)) (λp=>p.1.wt*(q p.1.to.toNat-q p.1.fr.toNat)) (L.zip f);rw[lsum_congr (G:=λp:Bd×Int=>(p.2-p.1.wt)*(q p.1.to.toNat-q p.1.fr.toNat)) (λp _=>by rw[Yh]),<- e1]at e2;have e3:=lsum_zip (λb:Bd=>b.wt*(q b.to.toNat-q b.fr.toNat)) h.len;unfold cost;omega
 rw[<- flow r,<- flow r'];refine lsum_le λp hp=>?_;have h0:=h.nonneg p hp;rcases Int.lt_or_eq_of_le h0 with h1|h1
 ·rw[h.tight p hp h1];exact WY (hf _ (Wu hp).1) h0
 rw[<- h1];simp
theorem Cert.cost_eq{n:Nat}{L:List Bd}{r r':Nat->Int}{f f':List Int}(h:Cert n L r f)(h':Cert n L r' f'):cost L r=cost L r' :=
 Int.le_antisymm (h.cost_le h'.feas) (h'.cost_le h.feas)
end Net
end Go.Vm

/-
 Ranking problems: the steps that numbers on the bounds leave open, and what it does to send more along a way. (Chapter 20, without any program.)
-/
namespace Go.Vm
namespace Net
def Stq(L:List Bd)(f:List Int)(i:Nat)(bk:Bool)(u v:Nat)(g:Int):Prop:=
 ∃ b x,L[i]?=some b/\f[i]?=some x/\((bk=false/\b.fr=(u:Int)/\b.to=(v:Int)/\g=b.len)\/(bk=true/\0<x/\b.to=(u:Int)/\b.fr=(v:Int)/\g=-b.len))
def Res(L:List Bd)(f:List Int)(u v:Nat)(g:Int):Prop:=∃ i bk,Stq L f i bk u v g
def Path(L:List Bd)(f:List Int):Nat->List (Nat×Bool)->Nat->Int->Prop
 |u,[],w,G=>u=w/\G=0
 |u,(i,bk)::r,w,G=>∃ v g G',Stq L f i bk u v g/\Path L f v r w G'/\G=g+G'
def chg(k:Int)(bk:Bool)(x:Int):Int:=if bk then x-k else x+k
def send(k:Int)(f:List Int)(l:List (Nat×Bool)):List Int:=l.foldl (λf p=>f.set p.1 (chg k p.2 (f.getD p.1 0))) f
theorem send_length(k:Int):∀(l:List (Nat×Bool)) (f:List Int),(send k f l).length=f.length
 |[],_=>rfl
 |p::l,f=>by show(send k (f.set _ _) l).length=_;rw[send_length k l];simp
theorem send_other(k:Int):∀(l:List (Nat×Bool)) (f:List Int) (i:Nat),(∀ p∈l,p.1≠i)->(send k f l)[i]?=f[i]?
 |[],_,_,_=>rfl
 |p::l,f,i,h=>by show(send k (f.set _ _) l)[i]?=_;rw[send_other k l _ i (λq hq=>h q (by simp[hq])),Vo (h p (by simp))]
theorem send_at(k:Int):∀(l:List (Nat×Bool)) (f:List Int) {i:Nat} {bk:Bool} {x:Int},(l.map (·.1)).Nodup->(i,bk)∈l->f[i]?=some x->(send k f l)[i]?=some (chg k bk x)
 |[],_,_,_,_,_,h,_=>by simp at h
 |p::l,f,i,bk,x,hn,h,hx=>by
  simp only[L3,Wg]at hn;show(send k (f.set _ _) l)[i]?=_;have hlt:=(tz.1 hx).1;rcases A9.1 h with e|h
  ·subst e;rw[send_other k l _ i (λq hq e=>hn.1 (VM.2 ⟨q,hq,e⟩)),VB (by simpa using hlt)];simp[WT,hx]
  have hne:p.1≠i:=λe=>hn.1 (VM.2 ⟨_,h,e.symm⟩);exact send_at k l _ hn.2 h (by rw[Vo hne];exact hx)
theorem CQ(F:Bd×Int->Int):∀{L:List Bd} {f:List Int} {i:Nat} {b:Bd} {x y:Int},L[i]?=some b->f[i]?=some x->bn F (L.zip (f.set i y))=bn F (L.zip f)+F (b,y)-F (b,x)
 |[],_,i,_,_,_,h,_=>by simp at h
 |_::_,[],i,_,_,_,_,h=>by simp at h
 |a::L,z::f,0,b,x,y,h1,h2=>by
  simp only[List.getElem?_cons_zero,ov]at h1 h2;subst h1;subst h2
  simp only[List.set_cons_zero,Xr,bn];omega
 |a::L,z::f,i+1,b,x,y,h1,h2=>by simp only[List.getElem?_cons_succ]at h1 h2;simp only[List.set_cons_succ,Xr,bn,CQ F h1 h2 (y:=y)];omega
theorem GA {L:List Bd}(F:Bd×Int->Int)(D:Bd->Int)(hF:∀ b x y,F (b,y) - F (b,x)=(y - x) * D b){k:Int}(P:Nat->Int)(T:Nat->Nat->Int->Int)
  (f0:List Int) (hT:∀ i bk u v g,Stq L f0 i bk u v g->∀ b,L[i]?=some b->(if bk then -D b else D b)=T u v g)
  (hadd:∀ u v w g G,T u v g+T v w G=T u w (g+G)) (h0:∀ u,T u u 0=0) :
  ∀(l:List (Nat×Bool)) (u w:Nat) (G:Int) (f:List Int),f.length=f0.length->Path L f0 u l w G->bn F (L.zip (send k f l))=bn F (L.zip f)+k*T u w G
 |[],u,w,G,f,_,h=>by obtain⟨rfl,rfl⟩:=h;simp[send,h0]
 |(i,bk)::l,u,w,G,f,hl,h=>by
  obtain⟨v,g,G',h1,h2,rfl⟩:=h;obtain⟨b,x0,a1,a2,_⟩:=id h1;have hlt:i<f.length:=by rw[hl];exact(tz.1 a2).1
  have hx:f[i]?=some f[i]:=bx hlt;show bn F (L.zip (send k (f.set i (chg k bk (f.getD i 0))) l))=_;rw[GA F D hF P T f0 hT hadd h0 l v w G' _ (by simpa using hl) h2,CQ F a1 hx];have e1:=hT i bk u v g h1 b a1;have e2:=hF b f[i] (chg k bk (f.getD i 0));have e3:f.getD i 0=f[i]:=by simp[WT,hx]
  rw[e3]at e2 ⊢;rw[<- hadd u v w g G',WV,<- e1];have e4:(chg k bk f[i]-f[i])*D b=k*(if bk then -D b else D b):=by
   unfold chg;cases bk with
   |true=>simp only[if_true];rw[Y4,show f[i]-k-f[i]=-k by omega,Xy]
   |false=>simp only[Vz,if_false];rw[show f[i]+k-f[i]=k by omega]
  omega
theorem send_bal {L:List Bd}{f:List Int}{k:Int}{l:List (Nat×Bool)}{u w:Nat}{G:Int}(h:Path L f u l w G)(v:Nat) :
  bal (L.zip (send k f l)) v=bal (L.zip f) v+k*(at1 (w:Int) v-at1 (u:Int) v):=by
 refine GA (L:=L) (λp=>(p.2-p.1.wt)*(at1 p.1.to v-at1 p.1.fr v)) (λb=>at1 b.to v-at1 b.fr v) (λb x y=>?_) (λ_=>0) (λa b _=>at1 (b:Int) v-at1 (a:Int) v) f ?_ ?_ ?_ l u w G f rfl h
 ·show(y-b.wt)*_-(x-b.wt)*_=_;rw[<- Yh];congr 1;omega
 ·rintro i bk a c g ⟨b,x,h1,h2,h3⟩ b' hb;rw[h1]at hb;cases hb
  rcases h3 with⟨rfl,e1,e2,_⟩|⟨rfl,_,e1,e2,_⟩
  ·rw[e1,e2];rfl
  rw[e1,e2];simp only[if_true];omega
 ·intros;omega
 intros;omega
def val(L:List Bd)(f:List Int):Int:=bn (λp=>p.2*p.1.len) (L.zip f)
theorem send_val{L:List Bd}{f:List Int}{k:Int}{l:List (Nat×Bool)}{u w:Nat}{G:Int}(h:Path L f u l w G):val L (send k f l)=val L f+k*G:=by
 refine GA (L:=L) (λp=>p.2*p.1.len) (λb=>b.len) (λb x y=>?_) (λ_=>0) (λ_ _ g=>g) f ?_ ?_ ?_ l u w G f rfl h
 ·show y*_-x*_=_;rw[<- Yh]
 ·rintro i bk a c g ⟨b,x,h1,h2,h3⟩ b' hb;rw[h1]at hb;cases hb
  rcases h3 with⟨rfl,_,_,e⟩|⟨rfl,_,_,_,e⟩
  ·rw[e];rfl
  rw[e];rfl
 ·intros;rfl
 intros;rfl
def TW(k:Int)(f:List Int)(l:List (Nat×Bool)):Prop:=∀ i,(i,true)∈l->∀ x,f[i]?=some x->k<=x
theorem send_nonneg{L:List Bd}{f:List Int}{k:Int}{l:List (Nat×Bool)}(hk:0<=k)(hn:(l.map (·.1)).Nodup)(hr:TW k f l)(hf:∀ x∈f,0<=x):∀ x∈send k f l,0<=x:=by
 intro x hx;obtain⟨i,hi,rfl⟩:=VJ hx;have hi':i<f.length:=by rw[send_length]at hi;exact hi
 obtain⟨x0,hx0⟩:∃ x0,f[i]?=some x0:=⟨_,bx hi'⟩;have h0:0<=x0:=hf _ (B9 hx0);have hg:=bx hi;by_cases h:∃ p∈l,p.1=i
 ·obtain⟨⟨j,bk⟩,hp,e⟩:=h;simp only at e;subst e;rw[send_at k l f hn hp hx0]at hg;simp only[ov]at hg;rw[<- hg];unfold chg;cases bk with
  |true=>have:=hr _ hp _ hx0;simp only[if_true];omega
  |false=>simp only[Vz,if_false];omega
 rw[send_other k l f i (λp hp e=>h ⟨p,hp,e⟩),hx0]at hg;simp only[ov]at hg;rw[<- hg];exact h0
theorem Kp {L:List Bd}{f:List Int}{k:Int}{l:List (Nat×Bool)}(hn:(l.map (·.1)).Nodup)(hk:0<=k){i:Nat}{bk:Bool}{u v:Nat}{g:Int}(h:Stq L (send k f l) i bk u v g) :
  Stq L f i bk u v g\/(bk=true/\(i,false)∈l/\∃ b x,L[i]?=some b/\f[i]?=some x/\b.to=(u:Int)/\b.fr=(v:Int)/\g=-b.len):=by
 obtain⟨b,x,h1,h2,h3⟩:=h;have hi:i<f.length:=by have:=(tz.1 h2).1;rwa[send_length]at this
 have hx:=bx hi;rcases h3 with⟨rfl,a1,a2,a3⟩|⟨rfl,a0,a1,a2,a3⟩
 ·exact .inl ⟨b,f[i],h1,hx,.inl ⟨rfl,a1,a2,a3⟩⟩
 by_cases hm:(i,false)∈l
 ·exact .inr ⟨rfl,hm,b,f[i],h1,hx,a1,a2,a3⟩
 refine .inl ⟨b,f[i],h1,hx,.inr ⟨rfl,?_,a1,a2,a3⟩⟩;by_cases hm2:(i,true)∈l
 ·rw[send_at k l f hn hm2 hx]at h2;simp only[ov,chg,if_true]at h2;omega
 rw[send_other k l f i (λp hp e=>?_),hx]at h2
 ·simp only[ov]at h2;omega
 obtain⟨j,b'⟩:=p;simp only at e;subst e;cases b' with
 |true=>exact hm2 hp
 |false=>exact hm hp
theorem Path.walk{L:List Bd}{f:List Int}:∀{l:List (Nat×Bool)} {u w:Nat} {G:Int},Path L f u l w G->Walk (Res L f) u w G
 |[],u,w,G,h=>by obtain⟨rfl,rfl⟩:=h;exact .nil _
 |(i,bk)::r,u,w,G,h=>by obtain⟨v,g,G',h1,h2,rfl⟩:=h;exact .cons ⟨i,bk,h1⟩ h2.walk
theorem Path.append{L:List Bd}{f:List Int}:∀{l r:List (Nat×Bool)} {u v w:Nat} {G H:Int},Path L f u l v G->Path L f v r w H->Path L f u (l++r) w (G+H)
 |[],r,u,v,w,G,H,h,k=>by obtain⟨rfl,rfl⟩:=h;simpa using k
 |(i,bk)::l,r,u,v,w,G,H,h,k=>by obtain⟨x,g,G',h1,h2,rfl⟩:=h;exact⟨x,g,G'+H,h1,h2.append k,by omega⟩
theorem Stq.ends {L:List Bd}{f:List Int}{i:Nat}{bk bk':Bool}{u v u' v':Nat}{g g':Int}(h:Stq L f i bk u v g)(h':Stq L f i bk' u' v' g') :
  (bk=bk'/\u=u'/\v=v'/\g=g')\/(bk≠bk'/\u=v'/\v=u'/\g=-g'):=by
 obtain⟨b,x,h1,h2,h3⟩:=h;obtain⟨b',x',h1',h2',h3'⟩:=h';rw[h1]at h1';cases h1'
 rcases h3 with⟨rfl,a1,a2,a3⟩|⟨rfl,_,a1,a2,a3⟩<;>rcases h3' with⟨rfl,c1,c2,c3⟩|⟨rfl,_,c1,c2,c3⟩
 ·exact .inl ⟨rfl,by omega,by omega,by omega⟩
 ·exact .inr ⟨by simp,by omega,by omega,by omega⟩
 ·exact .inr ⟨by simp,by omega,by omega,by omega⟩
 exact .inl ⟨rfl,by omega,by omega,by omega⟩
end Net
end Go.Vm

/-
 Ranking problems: what holds while a certificate is made. (Chapter 20, without any program.)
-/
namespace Go.Vm
namespace Net
def gm(n:Nat)(L:List Bd):Prop:=∀ b∈L,b.ok n/\0<=b.wt
theorem Stq.lt{n:Nat}{L:List Bd}{f:List Int}(hL:gm n L){i:Nat}{bk:Bool}{u v:Nat}{g:Int}(h:Stq L f i bk u v g):u<n/\v<n/\u≠v:=by
 obtain⟨b,x,h1,_,h3⟩:=h;obtain⟨⟨a1,a2,a3,a4,a5⟩,_⟩:=hL b (B9 h1);rcases h3 with⟨_,e1,e2,_⟩|⟨_,_,e1,e2,_⟩
 ·refine⟨by omega,by omega,λe=>a5 ?_⟩;omega
 refine⟨by omega,by omega,λe=>a5 ?_⟩;omega
structure Cer (n:Nat)(L:List Bd)(f:List Int)(needs:Nat->Int):Prop where
 len:f.length=L.length
 nn:∀ x∈f,0<=x
 needs:∀ v,v<n->needs v=- bal (L.zip f) v
 np:ka (Res L f)
theorem Cer.ex {n:Nat}{L:List Bd}{f:List Int}{needs:Nat->Int}(h:Cer n L f needs)(hL:gm n L){R:Nat->Prop}
  (hR:∀ u v g,R u->Res L f u v g->R v) {s:Nat} (hs:s<n) (hsR:R s) (hs0:needs s<0):∃ v,v<n/\R v/\0<needs v:=by
 apply Classical.byContradiction;intro hne;have hle:∀ v,v<n->R v->needs v<=0:=λv hv hr=>by apply Classical.byContradiction;intro h0;exact hne ⟨v,hv,hr,by omega⟩
 have e1:=bal_sum (n:=n) (open Classical inλv=>if R v then(1:Int)else 0) (l:=L.zip f) (λp hp=>(hL _ (Wu hp).1).1);have e2:bn (λp:Bd×Int=>(p.2-p.1.wt)*((open Classical in if R p.1.to.toNat then(1:Int)else 0)-(open Classical in if R p.1.fr.toNat then(1:Int)else 0))) (L.zip f)<=bn (λ_=>0) (L.zip f):=by
  refine lsum_le λp hp=>?_;obtain⟨k,hk⟩:=VD.1 hp;rw[W7]at hk;obtain⟨k1,k2⟩:=hk;obtain⟨⟨a1,a2,a3,a4,a5⟩,a6⟩:=hL p.1 (B9 k1);have f0:=h.nn _ (B9 k2);have t1:((p.1.to.toNat:Nat):Int)=p.1.to:=U9 a3;have t2:((p.1.fr.toNat:Nat):Int)=p.1.fr:=U9 a1;by_cases hf:R p.1.fr.toNat
  ·have ht:R p.1.to.toNat:=hR _ _ p.1.len hf ⟨k,false,p.1,p.2,k1,k2,.inl ⟨rfl,t2.symm,t1.symm,rfl⟩⟩;simp[hf,ht]
  by_cases ht:R p.1.to.toNat
  ·have:p.2=0:=by apply Classical.byContradiction;intro hx;exact hf (hR _ _ (-p.1.len) ht ⟨k,true,p.1,p.2,k1,k2,.inr ⟨rfl,by omega,t1.symm,t2.symm,rfl⟩⟩)
   simp only[hf,ht,if_true,if_false,this];omega
  simp[hf,ht]
 rw[lsum_zero,<- e1]at e2;have e3:zsum (λv=>(open Classical in if R v then(1:Int)else 0)*bal (L.zip f) v) n=zsum (λv=>(open Classical in if R v then-needs v else 0)) n:=by refine zsum_congr λv hv=>?_;rw[h.needs v hv];by_cases hr:R v<;>simp[hr]
 have e4:∀ v,v<n->0<=(open Classical in if R v then-needs v else 0):=λv hv=>by
  by_cases hr:R v
  ·have:=hle v hv hr;simp only[hr,if_true];omega
  simp[hr]
 have e5:=zsum_mem_le e4 hs;simp only[hsR,if_true]at e5;rw[e3]at e2;omega
structure Far (L:List Bd)(f:List Int)(R:Nat->Prop)(d:Nat->Int):Prop where
 step:∀ u v g,R u->Res L f u v g->R v/\d u+g<=d v
def T6(L:List Bd)(f:List Int)(R:Nat->Prop)(d:Nat->Int)(l:List (Nat×Bool)):Prop:=
 ∀ i bk,(i,bk)∈l->∃ u v g,Stq L f i bk u v g/\R u/\R v/\d v<=d u+g
theorem Cer.send {n:Nat}{L:List Bd}{f:List Int}{needs:Nat->Int}(h:Cer n L f needs){R:Nat->Prop}{d:Nat->Int}(hf:Far L f R d)
  {l:List (Nat×Bool)} {s t:Nat} {G:Int} (hp:Path L f s l t G) (hn:(l.map (·.1)).Nodup) (ht:T6 L f R d l) {k:Int} (hk:0<=k) (hr:TW k f l) :
  Cer n L (send k f l) (λv=>needs v+k*(at1 (s:Int) v-at1 (t:Int) v)):=by
 refine⟨by rw[send_length];exact h.len,send_nonneg (L:=L) hk hn hr h.nn,λv hv=>?_,?_⟩
 ·rw[send_bal hp v,h.needs v hv,Xm,Xm];omega
 refine Mv (R:=R) (d:=d) h.np ?_ ?_
 ·rintro u v g ⟨i,bk,hs⟩ hu;rcases Kp hn hk hs with h1|⟨rfl,hm,b,x,h1,h2,h3,h4,h5⟩
  ·exact hf.step u v g hu ⟨i,bk,h1⟩
  obtain⟨u',v',g',q1,q2,q3,q4⟩:=ht i false hm;obtain⟨b',x',c1,c2,c3⟩:=q1;rw[h1]at c1;cases c1
  rcases c3 with⟨_,c4,c5,c6⟩|⟨c,_⟩
  ·have e1:u'=v:=by omega
   have e2:v'=u:=by omega
   subst e1;subst e2
   exact⟨q2,by omega⟩
  cases c
 rintro u v g ⟨i,bk,hs⟩ hu;rcases Kp hn hk hs with h1|⟨rfl,hm,b,x,h1,h2,h3,h4,h5⟩
 ·exact⟨i,bk,h1⟩
 obtain⟨u',v',g',q1,q2,q3,q4⟩:=ht i false hm;obtain⟨b',x',c1,c2,c3⟩:=q1;rw[h1]at c1;cases c1
 rcases c3 with⟨_,c4,c5,c6⟩|⟨c,_⟩
 ·have e2:v'=u:=by omega
  subst e2;exact absurd q3 hu
 cases c
theorem Cer.cert{n:Nat}{L:List Bd}{f:List Int}{needs:Nat->Int}(h:Cer n L f needs)(hL:gm n L)(h0:∀ v,v<n->0<=needs v){r:Nat->Int}(hr:Pot (Res L f) r):Cert n L r f:=by
 have hz:∀ v,v<n->needs v=0:=by
  have e1:=bal_sum (n:=n) (λ_=>(1:Int)) (l:=L.zip f) (λp hp=>(hL _ (Wu hp).1).1);rw[lsum_congr (G:=λ_=>0) (λp _=>by simp),lsum_zero]at e1;have e2:zsum (λv=>(1:Int)*bal (L.zip f) v) n=zsum (λv=>(-1)*needs v) n:=zsum_congr λv hv=>by rw[h.needs v hv];omega
  rw[e2,JT]at e1;intro v hv;have:=zsum_mem_le h0 hv;have:=h0 v hv;omega
 have hstep:∀ p∈L.zip f,p.1.len<=r p.1.to.toNat-r p.1.fr.toNat/\(0<p.2->r p.1.to.toNat-r p.1.fr.toNat<=p.1.len):=by
  intro p hp;obtain⟨k,hk⟩:=VD.1 hp;rw[W7]at hk;obtain⟨k1,k2⟩:=hk;obtain⟨⟨a1,a2,a3,a4,a5⟩,a6⟩:=hL p.1 (B9 k1);have t1:((p.1.to.toNat:Nat):Int)=p.1.to:=U9 a3;have t2:((p.1.fr.toNat:Nat):Int)=p.1.fr:=U9 a1;refine⟨?_,λhx=>?_⟩
  ·have:=hr _ _ _ ⟨k,false,p.1,p.2,k1,k2,.inl ⟨rfl,t2.symm,t1.symm,rfl⟩⟩;omega
  have:=hr _ _ _ ⟨k,true,p.1,p.2,k1,k2,.inr ⟨rfl,hx,t1.symm,t2.symm,rfl⟩⟩;omega
 refine⟨λb hb=>(hL b hb).1,h.len,λb hb=>?_,λp hp=>h.nn _ (Wu hp).2,λp hp hx=>?_,λv hv=>by have:=h.needs v hv;have:=hz v hv;omega⟩
 ·obtain⟨k,hk,rfl⟩:=VJ hb;have hk2:k<f.length:=by rw[h.len];exact hk
  have:(L[k],f[k])∈L.zip f:=by rw[VD];exact⟨k,by rw[W7];exact⟨bx hk,bx hk2⟩⟩
  exact(hstep _ this).1
 have:=hstep p hp;have:=this.2 hx;omega
end Net
end Go.Vm

/-
 Ranking problems: the way back along the parents. (Chapter 20, without any program.)
-/
namespace Go.Vm
namespace Net
variable {n:Nat}{E:Nat->Nat->Int->Prop}{d:Nat->Int}{par:Par}{rk:Nat->Nat}
theorem yR{par:Par}{v u:Nat}{g:Int}(h:par v=some (u,g)):aM par 1 v=some (u,g):=by simp[aM,h]
theorem Rlx.ends(h:Rlx n E d par rk)(hn:ka E){v:Nat}(hv:v<n):∃ l w G,l<=n/\aM par l v=some (w,G)/\par w=none:=by
 apply Classical.byContradiction;intro hne;have hall:∀ k,k<=n+1->∃ w G,aM par k v=some (w,G):=by
  intro k;induction k with
  |zero=>intro _;exact⟨v,0,rfl⟩
  |succ k ih=>
   intro hk;obtain⟨w,G,hw⟩:=ih (by omega);cases hp:par w with
   |none=>exact absurd ⟨k,w,G,by omega,hw,hp⟩ hne
   |some q=>obtain⟨u,g⟩:=q;exact⟨u,_,sb hw (yR hp)⟩
 obtain⟨i,j,hij,hj,e⟩:=Pc (n:=n) (f:=λi=>((aM par i v).map (·.1)).getD 0) (λi hi=>by
  obtain⟨w,G,h1⟩:=hall i (by omega);simp only[h1,VZ,We];exact h.back_lt hv h1)
 obtain⟨a,A,ha⟩:=hall i (by omega);obtain⟨b,B,hb⟩:=hall j (by omega);simp only[ha,hb,VZ,We]at e;subst e;obtain⟨a',A',K,b1,b2,_⟩:=lA (show i<=j by omega) hb;rw[ha]at b1;cases b1
 exact h.not_closed hn (show 0<j-i by omega) b2
def dA(par:Par)(id:Nat->Nat×Bool):Nat->Nat->List (Nat×Bool)
 |0,_=>[]
 |l+1,v=>match par v with
  |some (u,_)=>id v::dA par id l u
  |none=>[]
theorem trace_mem{id:Nat->Nat×Bool}:∀{l v w:Nat} {G:Int},aM par l v=some (w,G)->∀ p,p∈dA par id l v↔∃ i c H u g,i<l/\aM par i v=some (c,H)/\par c=some (u,g)/\p=id c
 |0,v,w,G,_,p=>by simp[dA]
 |l+1,v,w,G,hb,p=>by
  simp only[aM]at hb;cases hp:par v with
  |none=>rw[hp]at hb;simp at hb
  |some q=>
   obtain⟨u,g⟩:=q;rw[hp]at hb;simp only at hb;cases hq:aM par l u with
   |none=>rw[hq]at hb;simp at hb
   |some q=>
    have e:dA par id (l+1) v=id v::dA par id l u:=by simp[dA,hp]
    rw[e,A9,trace_mem (w:=q.1) (G:=q.2) hq p];constructor
    ·rintro(rfl|⟨i,c,H,x,y,h1,h2,h3,h4⟩)
     ·exact⟨0,v,0,u,g,by omega,rfl,hp,rfl⟩
     exact⟨i+1,c,g+H,x,y,by omega,by simp[aM,hp,h2],h3,h4⟩
    rintro⟨i,c,H,x,y,h1,h2,h3,h4⟩;cases i with
    |zero=>simp only[aM,ov,B4]at h2;obtain⟨rfl,_⟩:=h2;exact .inl h4
    |succ i=>
     simp only[aM,hp]at h2;cases hr:aM par i u with
     |none=>rw[hr]at h2;simp at h2
     |some r=>rw[hr]at h2;simp only[ov,B4]at h2;obtain⟨rfl,_⟩:=h2;exact .inr ⟨i,r.1,r.2,x,y,by omega,hr,h3,h4⟩
theorem trace_path {L:List Bd}{f:List Int}{id:Nat->Nat×Bool}(hid:∀ v u g,par v=some (u,g)->Stq L f (id v).1 (id v).2 u v g) :
  ∀{l v w:Nat} {G:Int},aM par l v=some (w,G)->Path L f w (dA par id l v).reverse v G
 |0,v,w,G,hb=>by simp only[aM,ov,B4]at hb;obtain⟨rfl,rfl⟩:=hb;exact⟨rfl,rfl⟩
 |l+1,v,w,G,hb=>by
  simp only[aM]at hb;cases hp:par v with
  |none=>rw[hp]at hb;simp at hb
  |some q=>
   obtain⟨u,g⟩:=q;rw[hp]at hb;simp only at hb;cases hq:aM par l u with
   |none=>rw[hq]at hb;simp at hb
   |some q=>
    obtain⟨w',K⟩:=q;rw[hq]at hb;simp only[ov,B4]at hb;obtain⟨rfl,rfl⟩:=hb;have e:dA par id (l+1) v=id v::dA par id l u:=by simp[dA,hp]
    rw[e,List.reverse_cons];have h2:Path L f u [id v] v (g+0):=⟨v,g,0,hid v u g hp,⟨rfl,rfl⟩,rfl⟩;have:=(trace_path hid hq).append h2;rw[show g+K=K+(g+0) by omega];exact this
theorem zl {L:List Bd}{f:List Int}{id:Nat->Nat×Bool}(hid:∀ v u g,par v=some (u,g)->Stq L f (id v).1 (id v).2 u v g) :
  ∀{l v w:Nat} {G:Int},aM par l v=some (w,G)->(∀ i j c H c' H',i<j->j<l->aM par i v=some (c,H)->aM par j v=some (c',H')->c≠c') ->
   (∀ i j c c' H H' g,i<j->j<l->aM par i v=some (c,H)->aM par j v=some (c',H')->par c=some (c',g)->par c'=some (c,-g)->False)->((dA par id l v).map (·.1)).Nodup
 |0,v,w,G,_,_,_=>by simp[dA]
 |l+1,v,w,G,hb,h1,h2=>by
  simp only[aM]at hb;cases hp:par v with
  |none=>rw[hp]at hb;simp at hb
  |some q=>
   obtain⟨u,g⟩:=q;rw[hp]at hb;simp only at hb;cases hq:aM par l u with
   |none=>rw[hq]at hb;simp at hb
   |some q=>
    have up:∀{i c H},aM par i u=some (c,H)->aM par (i+1) v=some (c,g+H):=λh=>by simp[aM,hp,h]
    have e:dA par id (l+1) v=id v::dA par id l u:=by simp[dA,hp]
    rw[e,L3,Wg];refine⟨λhm=>?_,zl hid (w:=q.1) (G:=q.2) hq (λi j c H c' H' hij hj b1 b2=>h1 (i+1) (j+1) c _ c' _ (by omega) (by omega) (up b1) (up b2))
     (λi j c c' H H' g' hij hj b1 b2 p1 p2=>h2 (i+1) (j+1) c c' _ _ g' (by omega) (by omega) (up b1) (up b2) p1 p2)⟩
    obtain⟨p,hp1,hp2⟩:=VM.1 hm;obtain⟨i,c,H,x,y,c1,c2,c3,rfl⟩:=(trace_mem (id:=id) (w:=q.1) (G:=q.2) hq p).1 hp1;have s1:=hid v u g hp;have s2:=hid c x y c3;rw[hp2]at s2;rcases s1.ends s2 with⟨_,_,e2,_⟩|⟨_,e1,e2,e3⟩
    ·exact h1 0 (i+1) v 0 c _ (by omega) (by omega) rfl (up c2) e2
    subst e1;subst e2
    refine h2 0 (i+1) v u 0 _ g (by omega) (by omega) rfl (up c2) hp ?_;rw[c3];congr 2;omega
theorem Rlx.distinct(h:Rlx n E d par rk)(hn:ka E){v i j c c':Nat}{H H':Int}(hij:i<j)(h1:aM par i v=some (c,H))(h2:aM par j v=some (c',H')):c≠c':=by
 intro e;subst e;obtain⟨a,A,K,b1,b2,_⟩:=lA (show i<=j by omega) h2;rw[h1]at b1;cases b1
 exact h.not_closed hn (show 0<j-i by omega) b2
theorem Rlx.trace_once {L:List Bd}{f:List Int}(h:Rlx n (Res L f) d par rk)(hn:ka (Res L f)){id:Nat->Nat×Bool}(hid:∀ v u g,par v=some (u,g)->Stq L f (id v).1 (id v).2 u v g)
  {l v w:Nat} {G:Int} (hb:aM par l v=some (w,G)):((dA par id l v).map (·.1)).Nodup:=
 zl hid hb (λ_ _ _ _ _ _ hij _ b1 b2=>h.distinct hn hij b1 b2) (λi j c c' H H' g hij _ b1 b2 p1 p2=>by
  have b3:aM par 2 c=some (c,g+(-g)):=sb (yR p1) (yR p2);exact h.not_closed hn (by omega) b3)
theorem Rlx.trace_round {L:List Bd}{f:List Int}(h:Rlx n (Res L f) d par rk){id:Nat->Nat×Bool}(hid:∀ v u g,par v=some (u,g)->Stq L f (id v).1 (id v).2 u v g)
  {l v:Nat} {G:Int} (hb:aM par l v=some (v,G)) (hd:∀ i j c H c' H',i<j->j<l->aM par i v=some (c,H)->aM par j v=some (c',H')->c≠c'):((dA par id l v).map (·.1)).Nodup:=
 zl hid hb hd (λi j c c' H H' g hij _ b1 b2 p1 p2=>by
  have b3:aM par 2 c=some (c,g+(-g)):=sb (yR p1) (yR p2);have:=h.closed (by omega) b3;omega)
theorem OX(k:Int){f:List Int}{l l':List (Nat×Bool)}(hn:(l.map (·.1)).Nodup)(hn':(l'.map (·.1)).Nodup)(h:∀ p,p∈l↔p∈l'):send k f l=send k f l':=by
 apply List.ext_getElem?;intro i;by_cases hm:∃ p∈l,p.1=i
 ·obtain⟨⟨j,bk⟩,hp,rfl⟩:=hm;by_cases hi:j<f.length
  ·rw[send_at k l f hn hp (bx hi),send_at k l' f hn' ((h _).1 hp) (bx hi)]
  rw[VG (by rw[send_length];omega),VG (by rw[send_length];omega)]
 rw[send_other k l f i (λp hp e=>hm ⟨p,hp,e⟩),send_other k l' f i (λp hp e=>hm ⟨p,(h _).2 hp,e⟩)]
theorem send_reverse(k:Int){f:List Int}{l:List (Nat×Bool)}(hn:(l.map (·.1)).Nodup):send k f l.reverse=send k f l:=
 OX k (by rw[List.map_reverse];exact List.pairwise_reverse.2 (hn.imp Ne.symm)) hn (λp=>List.mem_reverse)
end Net
end Go.Vm

/-
 Ranking problems: the search for longest ways, round by round, as a function on lists. (Chapter 20, without any program.)
-/
namespace Go.Vm
namespace Net
abbrev StD:=Int×(Int×(Int×(Bool×Unit)))
abbrev WyD:=Int×(Int×(StD×(Bool×Unit)))
def none60:Int:=-1152921504606846976
def way0:WyD:=(none60,0,(0,0,0,false,()),false,())
def wyA(W:List WyD)(v:Nat):WyD:=W.getD v way0
def dW(W:List WyD)(v:Nat):Int:=(wyA W v).1
def beg(W:List WyD)(v:Nat):Bool:=(wyA W v).2.2.2.1
def gV(W:List WyD):Par:=λv=>if beg W v then none else if dW W v=none60 then none else some ((wyA W v).2.1.toNat,(wyA W v).2.2.1.2.1)
def idW(W:List WyD)(v:Nat):Nat×Bool:=((wyA W v).2.2.1.2.2.1.toNat,(wyA W v).2.2.1.2.2.2.1)
def Got(W:List WyD)(v:Nat):Prop:=dW W v≠none60
theorem wyA_set{W:List WyD}{y v:Nat}{w:WyD}(hy:y<W.length):wyA (W.set y w) v=if v=y then w else wyA W v:=by
 unfold wyA;simp only[WT,List.getElem?_set];by_cases e:v=y
 ·subst e;rw[if_pos rfl,if_pos rfl,if_pos hy];rfl
 rw[if_neg e,if_neg (Ne.symm e)]
def kv(v:Nat)(S:List WyD×(List Bool×List Int))(s:StD):List WyD×(List Bool×List Int):=
 if dW S.1 s.1.toNat<dW S.1 v+s.2.1 then
  (S.1.set s.1.toNat (dW S.1 v+s.2.1,(v:Int),s,false,()),if S.2.1.getD s.1.toNat false then S.2 else(S.2.1.set s.1.toNat true,S.2.2++[s.1]))
 else S
structure StepsOf (L:List Bd)(f:List Int)(v:Nat)(l:List StD):Prop where
 all:∀ i bk w g,Stq L f i bk v w g->((w:Int),g,(i:Int),bk,())∈l
 are:∀ s∈l,∃(i w:Nat),s.1=(w:Int)/\s.2.2.1=(i:Int)/\Stq L f i s.2.2.2.1 v w s.2.1
structure Rnd (n:Nat)(L:List Bd)(f:List Int)(starts:List Int)(B:Int)(m:Nat)(cur:Nat->StD->Prop)(rest:List Int)(rk:Nat->Nat)(S:List WyD×(List Bool×List Int)):Prop where
 len:S.1.length=n
 wlen:S.2.1.length=n
 rlx:Rlx n (Res L f) (dW S.1) (gV S.1) rk
 ids:∀ v u g,gV S.1 v=some (u,g)->Stq L f (idW S.1 v).1 (idW S.1 v).2 u v g/\Got S.1 u
 bg:∀ v,beg S.1 v=true->dW S.1 v=0/\(v:Int)∈starts
 st:∀ v:Nat,v<n->(v:Int)∈starts->0<=dW S.1 v
 viol:∀ u v g,Got S.1 u->Res L f u v g->dW S.1 v<dW S.1 u+g->(u:Int)∈rest\/(u:Int)∈S.2.2\/∃ s,cur u s/\s.1=(v:Int)/\s.2.1=g
 wait:∀ x:Nat,S.2.1.getD x false=true->(x:Int)∈rest\/(x:Int)∈S.2.2
 nx:∀ x∈S.2.2,∃ k:Nat,x=(k:Int)/\k<n/\rk k=m/\Got S.1 k
 rs:∀ x∈rest,∃ k:Nat,x=(k:Int)/\k<n/\m<=rk k+1/\Got S.1 k/\-(B*m)+B<=dW S.1 k
 rkm:∀ v,rk v<=m
 low:∀ v,Got S.1 v->-(B*m)<=dW S.1 v
variable {n:Nat}{L:List Bd}{f:List Int}{starts:List Int}{B:Int}{m:Nat}{cur cur':Nat->StD->Prop}{rest:List Int}{rk:Nat->Nat}{S:List WyD×(List Bool×List Int)}
def pD(L:List Bd)(B:Int):Prop:=0<=B/\∀ b∈L,-B<=b.len/\b.len<=B
theorem Stq.gain{i:Nat}{bk:Bool}{u v:Nat}{g:Int}(hB:pD L B)(h:Stq L f i bk u v g):-B<=g/\g<=B:=by
 obtain⟨b,x,h1,_,h3⟩:=h;have:=hB.2 b (B9 h1);rcases h3 with⟨_,_,_,e⟩|⟨_,_,_,_,e⟩<;>omega
theorem HI{E:Nat->Nat->Int->Prop}{d:Nat->Int}{par:Par}(h:Rlx n E d par rk)(hB0:0<=B)(hE:∀ u v g,E u v g->-B<=g/\g<=B):∀{l v w:Nat} {G:Int},aM par l v=some (w,G)->G<=l*B
 |0,v,w,G,hb=>by simp only[aM,ov,B4]at hb;obtain⟨_,rfl⟩:=hb;simp
 |l+1,v,w,G,hb=>by
  simp only[aM]at hb;cases hp:par v with
  |none=>rw[hp]at hb;simp at hb
  |some q=>
   obtain⟨u,g⟩:=q;rw[hp]at hb;simp only at hb;cases hq:aM par l u with
   |none=>rw[hq]at hb;simp at hb
   |some q=>obtain⟨w',K⟩:=q;rw[hq]at hb;simp only[ov,B4]at hb;obtain⟨rfl,rfl⟩:=hb;have:=HI h hB0 hE hq;have:=hE _ _ _ (h.step v u g hp).1;rw[W4,Int.add_mul];simp only[Int.natCast_one,Int.one_mul];omega
theorem NQ{W:List WyD}{v:Nat}(h:gV W v=none):beg W v=true\/dW W v=none60:=by
 unfold gV at h;cases hb:beg W v with
 |true=>exact .inl rfl
 |false=>
  rw[hb]at h;simp only[Vz,if_false]at h;by_cases e:dW W v=none60
  ·exact .inr e
  rw[if_neg e]at h;cases h
theorem Rnd.root (h:Rnd n L f starts B m cur rest rk S)(hn:ka (Res L f)){v:Nat}(hv:v < n)(hg:Got S.1 v) :
  ∃ l w G,l<=n/\aM (gV S.1) l v=some (w,G)/\beg S.1 w=true:=by
 obtain⟨l,w,G,h1,h2,h3⟩:=h.rlx.ends hn hv;refine⟨l,w,G,h1,h2,?_⟩;rcases NQ h3 with h4|h4
 ·exact h4
 exfalso
 cases l with
 |zero=>simp only[aM,ov,B4]at h2;obtain⟨rfl,_⟩:=h2;exact hg h4
 |succ l=>
  obtain⟨u,H,K,q1,q2,_⟩:=lA (show l<=l+1 by omega) h2;have:l+1-l=1:=by omega
  rw[this]at q2;simp only[aM]at q2;cases hp:gV S.1 u with
  |none=>rw[hp]at q2;simp at q2
  |some p=>obtain⟨p,g⟩:=p;rw[hp]at q2;simp only[ov,B4]at q2;obtain⟨rfl,_⟩:=q2;exact(h.ids u p g hp).2 h4
theorem Rnd.high(h:Rnd n L f starts B m cur rest rk S)(hn:ka (Res L f))(hB:pD L B){v:Nat}(hv:v<n)(hg:Got S.1 v):dW S.1 v<=n*B:=by obtain⟨l,w,G,h1,h2,h3⟩:=h.root hn hv hg;have e1:=h.rlx.gain h2;have e2:=(h.bg w h3).1;have e3:=HI h.rlx hB.1 (λu v g ⟨i,bk,hs⟩=>hs.gain hB) h2;have e4:(l:Int)*B<=n*B:=Int.mul_le_mul_of_nonneg_right (by omega) hB.1;omega
theorem Rnd.relax (hL:gm n L)(hB:pD L B)(hm:B * m+B < 1000000000000000000){v:Nat}{s:StD}{todo:List StD}(hv:v < n)
  (h:Rnd n L f starts B m (λu t=>u=v/\t∈s::todo) rest rk S) (hs:∃(i w:Nat),s.1=(w:Int)/\s.2.2.1=(i:Int)/\Stq L f i s.2.2.2.1 v w s.2.1)
  (hgv:Got S.1 v) (hrv:m<=rk v+1) (hlv:-(B*m)+B<=dW S.1 v) :
  ∃ rk',Rnd n L f starts B m (λu t=>u=v/\t∈todo) rest rk' (kv v S s)/\Got (kv v S s).1 v/\m<=rk' v+1/\-(B*m)+B<=dW (kv v S s).1 v:=by
 obtain⟨W,Q,N⟩:=S;obtain⟨i,w,e1,e2,hst⟩:=hs;obtain⟨q1,q2,q3⟩:=hst.lt hL;have hg:=hst.gain hB;have hl:W.length=n:=h.len;have hql:Q.length=n:=h.wlen;have ew:s.1.toNat=w:=by rw[e1];simp
 have hm0:0<=B*m:=Int.mul_nonneg hB.1 (by omega);unfold kv;simp only;rw[ew];by_cases hlt:dW W w<dW W v+s.2.1
 ·rw[if_pos hlt];have hnn:dW W v+s.2.1≠none60:=by unfold none60;simp only at hlv;omega
  have hset:∀ x,wyA (W.set w (dW W v+s.2.1,(v:Int),s,false,())) x=if x=w then(dW W v+s.2.1,(v:Int),s,false,())else wyA W x:=λx=>wyA_set (by omega);have hd:dW (W.set w (dW W v+s.2.1,(v:Int),s,false,()))=upd (dW W) w (dW W v+s.2.1):=by funext x;show(wyA _ x).1=_;rw[hset];unfold upd;split<;>rfl
  have hp:gV (W.set w (dW W v+s.2.1,(v:Int),s,false,()))=upd (gV W) w (some (v,s.2.1)):=by
   funext x;unfold gV;rw[hd];unfold Net.beg;rw[hset];unfold upd;by_cases e:x=w
   ·subst e;simp only[if_true,Vz,if_false];rw[if_neg hnn];simp
   simp only[if_neg e]
  have hgot:∀ x,Got (W.set w (dW W v+s.2.1,(v:Int),s,false,())) x↔x=w\/Got W x:=by
   intro x;unfold Got;rw[hd];unfold upd;by_cases e:x=w
   ·subst e;simp[hnn]
   simp[e]
  have hge:∀ x,dW W x<=upd (dW W) w (dW W v+s.2.1) x:=λx=>by unfold upd;split<;>(try subst_vars)<;>omega
  have hvw:v≠w:=q3;obtain⟨N',Q',hQ,hN,hQl,hnext⟩ : ∃ N' Q',(if Q.getD w false then (Q,N) else (Q.set w true,N++[s.1]))=(Q',N')/\(∀ x,x∈N'->x∈N\/x=(w:Int))/\Q'.length=n /\
    ((∀ x∈N,x∈N')/\((w:Int)∈N'\/(w:Int)∈rest)/\∀ x:Nat,Q'.getD x false=true->(x:Int)∈rest\/(x:Int)∈N'):=by
   cases hq:Q.getD w false with
   |true=>exact⟨N,Q,by simp,λx hx=>.inl hx,hql,λx hx=>hx,(h.wait w hq).symm,λx hx=>h.wait x hx⟩
   |false=>
    refine⟨N++[s.1],Q.set w true,by simp,λx hx=>?_,by simpa using hql,λx hx=>by simp[hx],.inl (by simp[e1]),λx hx=>?_⟩
    ·rcases List.mem_append.1 hx with hx|hx
     ·exact .inl hx
     simp at hx;exact .inr (hx.trans e1)
    by_cases e:x=w
    ·subst e;right;simp[e1]
    simp only[WT,Vo (Ne.symm e)]at hx;rcases h.wait x hx with h1|h1
    ·exact .inl h1
    right;simp only at h1;simp[h1]
  obtain⟨hN1,hN2,hN3⟩:=hnext;rw[hQ];have hrk:rk v<=m:=h.rkm v;refine⟨upd rk w m,⟨?_,hQl,?_,?_,?_,?_,?_,hN3,?_,?_,?_,?_⟩,?_,?_,?_⟩
  ·show(W.set _ _).length=n;rw[List.length_set];exact hl
  ·show Rlx n (Res L f) (dW (W.set _ _)) (gV (W.set _ _)) _;rw[hd,hp];exact h.rlx.relax ⟨i,s.2.2.2.1,hst⟩ hv q2 hlt hrv hrk (h.rkm w) hvw
  ·intro x u g hx;simp only at hx ⊢;rw[hp]at hx;rw[hgot];by_cases e:x=w
   ·subst e;rw[upd_self]at hx;cases hx;refine⟨?_,.inr hgv⟩;unfold idW;rw[hset,if_pos rfl];have:s.2.2.1.toNat=i:=by rw[e2];simp
    simp only[this];exact hst
   rw[cA _ _ e]at hx;obtain⟨h1,h2⟩:=h.ids x u g hx;refine⟨?_,.inr h2⟩;unfold idW at h1 ⊢;rw[hset,if_neg e];exact h1
  ·intro x hx;simp only at hx ⊢;rw[hd];unfold Net.beg at hx;rw[hset]at hx;by_cases e:x=w
   ·rw[if_pos e]at hx;cases hx
   rw[if_neg e]at hx;rw[cA _ _ e];exact h.bg x hx
  ·intro x hx hs;simp only;rw[hd];have:=h.st x hx hs;have:=hge x;simp only at *;omega
  ·intro u y g hu hr hlt2;simp only at hu hlt2 ⊢;rw[hd]at hlt2;rw[hgot]at hu;by_cases e:u=w
   ·subst e;exact hN2.symm.imp id .inl
   rw[cA _ _ e]at hlt2;have hu:=hu.resolve_left e;have:=hge y;rcases h.viol u y g hu hr (by simp only;omega)with h1|h1|⟨t,⟨h2,h3⟩,h4,h5⟩
   ·exact .inl h1
   ·exact .inr (.inl (hN1 _ h1))
   rcases A9.1 h3 with h6|h6
   ·exfalso;subst h6;have:y=w:=by rw[h4]at e1;omega
    subst this;rw[upd_self]at hlt2;subst h2;omega
   exact .inr (.inr ⟨t,⟨h2,h6⟩,h4,h5⟩)
  ·intro x hx;simp only at hx ⊢;rcases hN x hx with h1|h1
   ·obtain⟨k,k1,k2,k3,k4⟩:=h.nx x h1;refine⟨k,k1,k2,?_,(hgot k).2 (.inr k4)⟩;unfold upd;split
    ·rfl
    exact k3
   exact⟨w,h1,q2,upd_self _ _ _,(hgot w).2 (.inl rfl)⟩
  ·intro x hx;obtain⟨k,k1,k2,k3,k4,k5⟩:=h.rs x hx;simp only at k5 ⊢;refine⟨k,k1,k2,?_,(hgot k).2 (.inr k4),?_⟩
   ·unfold upd;split
    ·omega
    exact k3
   rw[hd];have:=hge k;omega
  ·intro x;unfold upd;split
   ·omega
   exact h.rkm x
  ·intro x hx;simp only at hx ⊢;rw[hd];by_cases e:x=w
   ·subst e;rw[upd_self];simp only at hlv;omega
   rw[cA _ _ e];exact h.low x (((hgot x).1 hx).resolve_left e)
  ·exact(hgot v).2 (.inr hgv)
  ·rw[cA _ _ hvw];exact hrv
  simp only;rw[hd,cA _ _ hvw];exact hlv
 rw[if_neg hlt];refine⟨rk,⟨h.len,h.wlen,h.rlx,h.ids,h.bg,h.st,λu y g hu hr hl2=>?_,h.wait,h.nx,h.rs,h.rkm,h.low⟩,hgv,hrv,hlv⟩;rcases h.viol u y g hu hr hl2 with h1|h1|⟨t,⟨h2,h3⟩,h4,h5⟩
 ·exact .inl h1
 ·exact .inr (.inl h1)
 rcases A9.1 h3 with h6|h6
 ·exfalso;subst h6;have:y=w:=by rw[h4]at e1;omega
  subst this;subst h2;simp only at hl2;omega
 exact .inr (.inr ⟨t,⟨h2,h6⟩,h4,h5⟩)
end Net
end Go.Vm

/-
 Ranking problems: whole rounds of the search for longest ways, and what is left in the end. (Chapter 20, without any program.)
-/
namespace Go.Vm
namespace Net
variable {n:Nat}{L:List Bd}{f:List Int}{starts:List Int}{B:Int}
abbrev SrD:=List WyD×(List Bool×List Int)
def rZ:Nat->StD->Prop:=λ_ _=>False
theorem Rnd.relaxes (hL:gm n L)(hB:pD L B){m:Nat}(hm:B * m+B < 1000000000000000000){v:Nat}(hv:v < n){rest:List Int}:∀{todo:List StD} {rk:Nat->Nat} {S:SrD},
  Rnd n L f starts B m (λu t=>u=v/\t∈todo) rest rk S->(∀ s∈todo,∃(i w:Nat),s.1=(w:Int)/\s.2.2.1=(i:Int)/\Stq L f i s.2.2.2.1 v w s.2.1) ->
  Got S.1 v->m<=rk v+1->-(B*m)+B<=dW S.1 v->∃ rk',Rnd n L f starts B m rZ rest rk' (todo.foldl (kv v) S)
 | [],rk,S,h,_,_,_,_=>⟨rk,⟨h.len,h.wlen,h.rlx,h.ids,h.bg,h.st,fun u y g a b c=>by
   rcases h.viol u y g a b c with h1|h1|⟨t,⟨_,h2⟩,_⟩
   ·exact .inl h1
   ·exact .inr (.inl h1)
   simp at h2,h.wait,h.nx,h.rs,h.rkm,h.low⟩⟩
 |s::todo,rk,S,h,hs,hg,hr,hl=>by obtain⟨rk',h1,h2,h3,h4⟩:=h.relax hL hB hm hv (hs s (by simp)) hg hr hl;exact Rnd.relaxes hL hB hm hv (todo:=todo) (S:=kv v S s) h1 (λt ht=>hs t (by simp[ht])) h2 h3 h4
def visit(steps:Nat->List StD)(S:SrD)(x:Int):SrD:=(steps x.toNat).foldl (kv x.toNat) (S.1,S.2.1.set x.toNat false,S.2.2)
theorem Rnd.visit (hL:gm n L)(hB:pD L B){m:Nat}(hm:B * m+B < 1000000000000000000){steps:Nat->List StD}(hst:∀ v,v < n->StepsOf L f v (steps v)){x:Int}{rest:List Int}{rk:Nat->Nat}{S:SrD}
  (h:Rnd n L f starts B m rZ (x::rest) rk S):∃ rk',Rnd n L f starts B m rZ rest rk' (visit steps S x):=by
 obtain⟨v,rfl,k2,k3,k4,k5⟩:=h.rs x (by simp);unfold Net.visit;have e:((v:Int)).toNat=v:=by simp
 rw[e];refine Rnd.relaxes hL hB hm k2 (rk:=rk) (todo:=steps v) ⟨h.len,by simpa using h.wlen,h.rlx,h.ids,h.bg,h.st,λu y g a b c=>?_,λx hx=>?_,h.nx,λx hx=>h.rs x (by simp[hx]),h.rkm,h.low⟩ (λs hs=>(hst v k2).are s hs) k4 k3 k5
 ·rcases h.viol u y g a b c with h1|h1|⟨_,h2,_⟩
  ·rcases A9.1 h1 with h3|h3
   ·have:u=v:=by omega
    subst this;obtain⟨i,bk,hs⟩:=b;exact .inr (.inr ⟨_,⟨rfl,(hst u k2).all i bk y g hs⟩,rfl,rfl⟩)
   exact .inl h3
  ·exact .inr (.inl h1)
  exact h2.elim
 by_cases e:x=v
 ·subst e;exfalso;have:x<S.2.1.length:=by rw[h.wlen];exact k2
  simp[WT,VB this]at hx
 simp only[WT,Vo (Ne.symm e)]at hx;rcases h.wait x hx with h1|h1
 ·rcases A9.1 h1 with h3|h3
  ·omega
  exact .inl h3
 exact .inr h1
theorem Rnd.visits (hL:gm n L)(hB:pD L B){m:Nat}(hm:B * m+B < 1000000000000000000){steps:Nat->List StD}(hst:∀ v,v < n->StepsOf L f v (steps v)):∀{rest:List Int} {rk:Nat->Nat} {S:SrD},
  Rnd n L f starts B m rZ rest rk S->∃ rk',Rnd n L f starts B m rZ [] rk' (rest.foldl (Net.visit steps) S)
 |[],rk,S,h=>⟨rk,h⟩
 |x::rest,rk,S,h=>by obtain⟨rk',h1⟩:=h.visit hL hB hm hst;exact Rnd.visits hL hB hm hst (rest:=rest) (S:=Net.visit steps S x) h1
theorem Rnd.turn{m:Nat}(hB:pD L B){rk:Nat->Nat}{S:SrD}(h:Rnd n L f starts B m rZ [] rk S):Rnd n L f starts B (m+1) rZ S.2.2 rk (S.1,S.2.1,[]):=by
 have hmm:B*((m+1:Nat):Int)=B*m+B:=by rw[W4,WV];simp
 refine⟨h.len,h.wlen,h.rlx,h.ids,h.bg,h.st,λu y g a b c=>?_,λx hx=>?_,by simp,λx hx=>?_,λv=>by have:=h.rkm v;omega,λv hv=>?_⟩
 ·rcases h.viol u y g a b c with h1|h1|⟨_,h2,_⟩
  ·simp at h1
  ·exact .inl h1
  exact h2.elim
 ·rcases h.wait x hx with h1|h1
  ·simp at h1
  exact .inl h1
 ·obtain⟨k,k1,k2,k3,k4⟩:=h.nx x hx;refine⟨k,k1,k2,by omega,k4,?_⟩;have:=h.low k k4;rw[hmm];simp only;omega
 have:=h.low v hv;have:=hB.1;rw[hmm];simp only;omega
theorem Rnd.count{m:Nat}(hn:ka (Res L f)){x:Int}{rest:List Int}{rk:Nat->Nat}{S:SrD}(h:Rnd n L f starts B m rZ (x::rest) rk S):m<=n:=by obtain⟨v,rfl,k2,k3,k4,k5⟩:=h.rs x (by simp);have:=h.rlx.rank_lt hn k2;omega
def Mg:WyD:=(0,0,(0,0,0,false,()),true,())
structure Begun (n:Nat)(starts:List Int)(W:List WyD):Prop where
 len:W.length=n
 at':∀ v,v<n->wyA W v=if(v:Int)∈starts then Mg else way0
theorem Begun.rnd{W:List WyD}(h:Begun n starts W)(hs:∀ x∈starts,∃ k:Nat,x=(k:Int)/\k<n)(hB:pD L B):Rnd n L f starts B 1 rZ starts (λ_=>0) (W,List.replicate n false,[]):=by
 have hat:∀ v,wyA W v=if v<n/\(v:Int)∈starts then Mg else way0:=by
  intro v;by_cases hv:v<n
  ·rw[h.at' v hv];simp[hv]
  have:wyA W v=way0:=by unfold wyA;rw[WT,VG (by rw[h.len];omega)];rfl
  rw[this,if_neg (λe=>hv e.1)]
 have hg:∀ v,Got W v->v<n/\(v:Int)∈starts:=by
  intro v hv;unfold Got dW at hv;rw[hat]at hv;by_cases e:v<n/\(v:Int)∈starts
  ·exact e
  rw[if_neg e]at hv;exact absurd rfl hv
 have hd:∀ v,v<n->(v:Int)∈starts->dW W v=0:=λv h1 h2=>by unfold dW;rw[hat,if_pos ⟨h1,h2⟩];rfl
 have hp:∀ v,gV W v=none:=λv=>by
  unfold gV beg dW;rw[hat];split
  ·simp[Mg]
  simp[way0]
 have hpf:gV W=λ_=>none:=funext hp;refine⟨h.len,by simp,?_,λv u g hv=>(by rw[hp]at hv;cases hv),λv hv=>?_,λv h1 h2=>(by rw[hd v h1 h2];exact V1 _),λu y g a _ _=>.inl (hg u a).2,λx hx=>?_,by simp,λx hx=>?_,λv=>by omega,λv hv=>?_⟩
 ·show Rlx n (Res L f) (dW W) (gV W) _;rw[hpf];exact Rlx.init n _ _
 ·simp only at hv ⊢;unfold beg at hv;rw[hat]at hv;by_cases e:v<n/\(v:Int)∈starts
  ·exact⟨hd v e.1 e.2,e.2⟩
  rw[if_neg e]at hv;cases hv
 ·simp only[WT,List.getElem?_replicate]at hx;split at hx<;>simp at hx
 ·obtain⟨k,rfl,hk⟩:=hs x hx;have:=hd k hk hx;refine⟨k,rfl,hk,by omega,?_,?_⟩
  ·unfold Got;simp only;rw[this];unfold none60;omega
  simp only;rw[this];simp;omega
 obtain⟨h1,h2⟩:=hg v hv;have:=hB.1;simp only;rw[hd v h1 h2];simp;exact this
structure Sought (n:Nat)(L:List Bd)(f:List Int)(starts:List Int)(B:Int)(W:List WyD):Prop where
 len:W.length=n
 rlx:∃ rk,Rlx n (Res L f) (dW W) (gV W) rk
 ids:∀ v u g,gV W v=some (u,g)->Stq L f (idW W v).1 (idW W v).2 u v g/\Got W u/\Got W v
 bg:∀ v,beg W v=true->dW W v=0/\(v:Int)∈starts
 st:∀ v:Nat,v<n->(v:Int)∈starts->0<=dW W v
 far:Far L f (Got W) (dW W)
 root:∀ v,v<n->Got W v->∃ l w G,l<=n/\aM (gV W) l v=some (w,G)/\beg W w=true
 low:∀ v,Got W v->-(B*(n+1))<=dW W v
 high:∀ v,v<n->Got W v->dW W v<=n*B
theorem Rnd.sought{m:Nat}(hm:m<=n+1)(hB:pD L B)(hBn:B*(n+1)+B<1000000000000000000)(hn:ka (Res L f)){rk:Nat->Nat}{W:List WyD}{Q:List Bool}(h:Rnd n L f starts B m rZ [] rk (W,Q,[])):Sought n L f starts B W:=by
 have hlow:∀ v,Got W v->-(B*(n+1))<=dW W v:=λv hv=>by have h1:=h.low v hv;have h2:B*(m:Int)<=B*(n+1):=WY (by omega) hB.1;simp only at h1;omega
 have hfar:∀ u v g,Got W u->Res L f u v g->dW W u+g<=dW W v:=λu v g a b=>by
  apply Classical.byContradiction;intro hc;rcases h.viol u v g a b (by simp only;omega)with h1|h1|⟨_,h2,_⟩
  ·simp at h1
  ·simp at h1
  exact h2.elim
 refine⟨h.len,⟨rk,h.rlx⟩,λv u g hv=>⟨(h.ids v u g hv).1,(h.ids v u g hv).2,?_⟩,h.bg,h.st,⟨λu v g a b=>⟨?_,hfar u v g a b⟩⟩,λv hv hg=>h.root hn hv hg,hlow,λv hv hg=>h.high hn hB hv hg⟩
 ·intro e;unfold gV at hv;rw[e]at hv;cases hb:beg W v<;>rw[hb]at hv<;>simp at hv
 intro e;have h1:=hfar u v g a b;have h2:=hlow u a;obtain⟨i,bk,hs⟩:=b;have h3:=hs.gain hB;rw[e]at h1;unfold none60 at h1;omega
end Net
end Go.Vm

/-
 Ranking problems: sweeps over all steps, and the closed way that is found. (Chapter 20, without any program.)
-/
namespace Go.Vm
namespace Net
variable {n:Nat}{E:Nat->Nat->Int->Prop}{B:Int}
abbrev TrI:=Nat×Nat×Int
structure Swp (n:Nat)(E:Nat->Nat->Int->Prop)(sl:List TrI)(B:Int)(m j:Nat)(d:Nat->Int)(par:Par)(rk:Nat->Nat):Prop where
 rlx:Rlx n E d par rk
 old:∀(i:Nat) s,i<j->sl[i]?=some s->d s.2.1<d s.1+s.2.2->m+1<=rk s.1
 new:∀(i:Nat) s,j<=i->sl[i]?=some s->d s.2.1<d s.1+s.2.2->m<=rk s.1
 rkm:∀ v,rk v<=m+1
 quiet:(∀ v,rk v<=m)->∀(i:Nat) s,i<j->sl[i]?=some s->d s.1+s.2.2<=d s.2.1
 nn:∀ v,0<=d v
 hi:∀ v,d v<=B*((m*sl.length+j:Nat):Int)
structure Steps (n:Nat)(E:Nat->Nat->Int->Prop)(sl:List TrI)(B:Int):Prop where
 ok:∀ s∈sl,E s.1 s.2.1 s.2.2/\s.1<n/\s.2.1<n/\s.1≠s.2.1/\s.2.2<=B
 all:∀ u v g,E u v g->(u,v,g)∈sl
 b0:0<=B
theorem Swp.init{sl:List TrI}(hs:Steps n E sl B):Swp n E sl B 0 0 (λ_=>0) (λ_=>none) (λ_=>0):=by refine⟨Rlx.init n E _,λi s h=>by omega,λi s _ _ _=>by omega,λv=>by omega,λ_ i s h=>by omega,λv=>V1 _,λv=>?_⟩;simp
theorem Swp.hit {sl:List TrI}(hs:Steps n E sl B){m j:Nat}{d:Nat->Int}{par:Par}{rk:Nat->Nat}(h:Swp n E sl B m j d par rk){s:TrI}(hj:sl[j]?=some s)(hlt:d s.2.1 < d s.1+s.2.2) :
  Swp n E sl B m (j+1) (upd d s.2.1 (d s.1+s.2.2)) (upd par s.2.1 (some (s.1,s.2.2))) (upd rk s.2.1 (m+1)):=by
 obtain⟨h1,h2,h3,h4,h5⟩:=hs.ok s (B9 hj);have hb0:=hs.b0;have hge:∀ v,d v<=upd d s.2.1 (d s.1+s.2.2) v:=λv=>by unfold upd;split<;>(try subst_vars)<;>omega
 have hm:=h.new j s (B5 _) hj hlt;have hcnt:B*((m*sl.length+(j+1):Nat):Int)=B*((m*sl.length+j:Nat):Int)+B:=by rw[show m*sl.length+(j+1)=m*sl.length+j+1 by omega,W4 (m*sl.length+j) 1,WV];simp
 have hv:∀(i:Nat) t,sl[i]?=some t->upd d s.2.1 (d s.1+s.2.2) t.2.1<upd d s.2.1 (d s.1+s.2.2) t.1+t.2.2->t.1=s.2.1\/(d t.2.1<d t.1+t.2.2/\t.1≠s.2.1/\i≠j):=by
  intro i t ht hl;by_cases e:t.1=s.2.1
  ·exact .inl e
  right;rw[cA _ _ e]at hl;have:=hge t.2.1;refine⟨by omega,e,λe2=>?_⟩;subst e2;rw[hj]at ht;cases ht
  rw[upd_self]at hl;omega
 refine⟨h.rlx.relax h1 h2 h3 hlt (by omega) (h.rkm _) (h.rkm _) h4,λi t hi ht hl=>?_,λi t hi ht hl=>?_,λv=>?_,λhq=>?_,λv=>?_,λv=>?_⟩
 ·rcases hv i t ht hl with e|⟨e1,e2,e3⟩
  ·rw[e,upd_self];exact B5 _
  rw[cA _ _ e2];exact h.old i t (by omega) ht e1
 ·rcases hv i t ht hl with e|⟨e1,e2,e3⟩
  ·rw[e,upd_self];omega
  rw[cA _ _ e2];exact h.new i t (by omega) ht e1
 ·unfold upd;split
  ·exact B5 _
  exact h.rkm v
 ·have:=hq s.2.1;rw[upd_self]at this;omega
 ·have:=h.nn v;have:=hge v;omega
 rw[hcnt];unfold upd;split
 ·have:=h.hi s.1;omega
 have:=h.hi v;omega
theorem Swp.pass{sl:List TrI}(hs:Steps n E sl B){m j:Nat}{d:Nat->Int}{par:Par}{rk:Nat->Nat}(h:Swp n E sl B m j d par rk){s:TrI}(hj:sl[j]?=some s)(hge:d s.1+s.2.2<=d s.2.1):Swp n E sl B m (j+1) d par rk:=by
 have hb0:=hs.b0;have hcnt:B*((m*sl.length+(j+1):Nat):Int)=B*((m*sl.length+j:Nat):Int)+B:=by rw[show m*sl.length+(j+1)=m*sl.length+j+1 by omega,W4 (m*sl.length+j) 1,WV];simp
 refine⟨h.rlx,λi t hi ht hl=>?_,λi t hi ht hl=>h.new i t (by omega) ht hl,h.rkm,λhq i t hi ht=>?_,h.nn,λv=>?_⟩
 ·rcases VA i j with h1|h1
  ·exact h.old i t h1 ht hl
  have:i=j:=by omega
  subst this;rw[hj]at ht;cases ht
  omega
 ·rcases VA i j with h1|h1
  ·exact h.quiet hq i t h1 ht
  have:i=j:=by omega
  subst this;rw[hj]at ht;cases ht
  exact hge
 rw[hcnt];have:=h.hi v;omega
theorem Swp.turn{sl:List TrI}{m:Nat}{d:Nat->Int}{par:Par}{rk:Nat->Nat}(h:Swp n E sl B m sl.length d par rk):Swp n E sl B (m+1) 0 d par rk:=by
 refine⟨h.rlx,λi t hi=>by omega,λi t _ ht hl=>?_,λv=>by have:=h.rkm v;omega,λ_ i t hi=>by omega,h.nn,λv=>?_⟩
 ·exact h.old i t ((tz.1 ht).1) ht hl
 have:=h.hi v;have e:(m+1)*sl.length+0=m*sl.length+sl.length:=by rw[Nat.add_mul];omega
 rw[e];exact this
theorem Swp.still{sl:List TrI}(hs:Steps n E sl B){m:Nat}{d:Nat->Int}{par:Par}{rk:Nat->Nat}(h:Swp n E sl B m sl.length d par rk)(hq:∀ v,rk v<=m):Pot E d:=by intro u v g he;obtain⟨i,hi⟩:=VD.1 (hs.all u v g he);exact h.quiet hq i _ ((tz.1 hi).1) hi
theorem Swp.count{sl:List TrI}{m j:Nat}{d:Nat->Int}{par:Par}{rk:Nat->Nat}(h:Swp n E sl B m j d par rk)(hn:ka E){v:Nat}(hv:v<n)(hr:rk v=m+1):m+1<n:=by have:=h.rlx.rank_lt hn hv;omega
theorem Rlx.first {d:Nat->Int}{par:Par}{rk:Nat->Nat}(h:Rlx n E d par rk){w l:Nat}{H:Int}(hl:0 < l)(hb:aM par l w=some (w,H)) :
  ∃ l0 H0,0<l0/\l0<=l/\aM par l0 w=some (w,H0)/\0<H0/\(∀ i,0<i->i<l0->∀ c K,aM par i w=some (c,K)->c≠w) /\
   (∀ i,i<l0->∃ c K u g,aM par i w=some (c,K)/\par c=some (u,g)):=by
 have hex:∃ k,0<k/\∃ H,aM par k w=some (w,H):=⟨l,hl,H,hb⟩;obtain⟨k,⟨hk,H0,hH⟩,hmin⟩:∃ k,(0<k/\∃ H,aM par k w=some (w,H))/\∀ i,i<k->¬(0<i/\∃ H,aM par i w=some (w,H)):=by
  obtain⟨k,hk⟩:∃ k,k=l:=⟨l,rfl⟩;clear hb hl;induction l using Nat.strongRecOn generalizing k with
  |ind l ih=>
   apply Classical.byContradiction;intro hne;have:∀ k,¬(0<k/\∃ H,aM par k w=some (w,H)):=by
    intro k;induction k using Nat.strongRecOn with
    |ind k ihk=>intro hk;exact hne ⟨k,hk,ihk⟩
   obtain⟨k,hk⟩:=hex;exact this k hk
 have hle:k<=l:=by apply Classical.byContradiction;intro hc;exact hmin l (by omega) ⟨hl,H,hb⟩
 refine⟨k,H0,hk,hle,hH,h.closed hk hH,λi h1 h2 c K hc e=>hmin i h2 ⟨h1,K,e▸hc⟩,λi hi=>?_⟩;obtain⟨u,H',K,q1,q2,_⟩:=lA (show i<=k by omega) hH;obtain⟨t,ht⟩:∃ t,k-i=t+1:=⟨k-i-1,by omega⟩;rw[ht]at q2;simp only[aM]at q2;cases hp:par u with
 |none=>rw[hp]at q2;simp at q2
 |some p=>exact⟨u,H',p.1,p.2,q1,hp⟩
theorem first_distinct {par:Par}{w l0:Nat}{H0:Int}(hb:aM par l0 w=some (w,H0))(hm:∀ i,0 < i->i < l0->∀ c K,aM par i w=some (c,K)->c≠w) :
  ∀ i j c H c' H',i<j->j<l0->aM par i w=some (c,H)->aM par j w=some (c',H')->c≠c':=by
 intro i j c H c' H' hij hj h1 h2 e;subst e
 obtain⟨u,A,K,q1,q2,_⟩:=lA (show j<=l0 by omega) hb;rw[h2]at q1;cases q1
 have h3:=sb h1 q2;exact hm (i+(l0-j)) (by omega) (by omega) w _ h3 rfl
end Net
end Go.Vm

