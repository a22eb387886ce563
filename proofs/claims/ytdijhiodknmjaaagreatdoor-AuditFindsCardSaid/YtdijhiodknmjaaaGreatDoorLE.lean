/-
 Cycles are broken alike.
-/
import Derived.Test.YtdijhiodknmjaaaGreatDoorLD
import Derived.Test.YtdijhiodknmjaaaGreatDoorLC
open Option renaming bind_some->bv
open List renaming getElem?_eq_getElem->bx,getElem?_eq_some_iff->tz,getElem_mem->A2,getD_eq_getElem?_getD->A5,replicate->A7,mem_cons->A9,length_cons->B2,length_nil->B8,length_replicate->L5,range->L7,length_set->L8,all_eq_true->U5,length_take->Vd,take_succ_eq_append_getElem->Vf,any_eq_false->Vj,getElem?_set_ne->Vo,mem_range->Vp,append_nil->Vw,getElem?_map->Vy,getElem?_set_self->VB,length_range->VC,getElem_of_mem->VJ,mem_map->VM,drop_eq_getElem_cons->VQ,foldl_cons->VU,nil_append->V4,take_length->V6,getElem?_replicate->Wc,nodup_cons->Wg,getElem_take->Wo,nodup_append->WN,drop_zero->WO,drop_of_length_le->Xi,getElem?_range->Xp,pairwise_map->XC,getElem_inj->XD
open Bool renaming and_eq_true->sg,not_true->U8,false_or->Wp,true_and->Ww
open Sum renaming elim->A1,elim_inl->B7
open Nat renaming beq->A3,le_refl->B5,zero_le->L4,lt_of_lt_of_le->Vn,lt_or_ge->VA,pow_le_pow_right->VT,testBit_lt_two_pow->Wv,zero_testBit->XF
open Int renaming toNat->A4,toNat_of_nonneg->U9,le_refl->V1,add_assoc->Ya,lt_of_le_of_lt->Yt
open Option.some renaming inj->L9
open List.Sublist renaming nodup->XL
set_option linter.unusedVariables false
set_option linter.unusedSimpArgs false
/-
 AuditFinds: the exact search of cycle.Least tells the least number of backward arcs.
-/
namespace Go.Vm
open Go.Proofs
open Cyc (clr sM qY O9 Dp)
open Net (bn)
set_option maxRecDepth 100000
attribute [local irreducible] ab
def Uo(k:Nat):Bool:=match gy (IntKind.wrap .u64 (k:Int),())with
 |some (u,_)=>decide (0<=u)&&decide (u<7)&&k.testBit u.toNat&&decide (GC .i64 (k:Int) (aK .i64 (k:Int) 1)=((clr k u.toNat:Nat):Int))
 |none=>false
theorem Tp:(L7 128).all (λk=>k==0||Uo k)=true:=by decide +kernel
theorem Ui{k:Nat}(h0:0<k)(h1:k<128):∃ u:Nat,u<7/\gy (IntKind.wrap .u64 (k:Int),())=some ((u:Int),())/\k.testBit u=true/\GC .i64 (k:Int) (aK .i64 (k:Int) 1)=((clr k u:Nat):Int):=by
 have h:=U5.1 Tp k (Vp.2 h1);have hk:(k==0)=false:=by simp;omega
 rw[hk,Wp]at h;unfold Uo at h;cases hb:gy (IntKind.wrap .u64 (k:Int),())with
 |none=>rw[hb]at h;cases h
 |some r=>obtain⟨u,z⟩:=r;rw[hb]at h;simp only[sg,decide_eq_true_eq]at h;obtain⟨⟨⟨g1,g2⟩,g3⟩,g4⟩:=h;exact⟨u.toNat,by omega,by rw[U9 g1],g3,g4⟩
theorem xj{cnt:Nat->Int}(h:∀ u,0<=cnt u)(l:List Nat):0<=bn cnt l:=Net.lsum_nonneg λu _=>h u
theorem O3(n:Nat):Cyc.bits n 0=[]:=by unfold Cyc.bits;rw[List.filter_eq_nil_iff];intro a _;simp
theorem OS{cnt:Nat->Int}{n s u:Nat}(hs:s<2^n)(hu:s.testBit u=true):bn cnt (Cyc.bits n s)=cnt u+bn cnt (Cyc.bits n (clr s u)):=by
 have hlt:=sM hu;have h1:u∉Cyc.bits n (clr s u):=λh=>by rw[Cyc.bits_mem (by omega),qY hu]at h;simp at h
 rw[Cyc.lsum_ext (F:=cnt) (r':=u::Cyc.bits n (clr s u)) (Cyc.bits_nodup n s) (Wg.2 ⟨h1,Cyc.bits_nodup n _⟩) (λv=>?_)]
 ·rfl
 rw[A9,Cyc.bits_mem hs,Cyc.bits_mem (by omega),qY hu];by_cases e:v=u
 ·subst e;simp[hu]
 simp[e]
theorem Ta{n:Nat}(hn:n<=7)(cost:List Int)(X:Int×List (List Int)×List Int×Unit)(s N J:Int){v:Nat}{row:List Int}(hrow:X.2.1[v]?=some row){cnt:Nat->Int}(hcnt:∀ u,u<n->row[u]?=some (cnt u))(hnn:∀ u,0<=cnt u):
  ∀ left:Nat,left<2^n->∀ acc:Int,0<=acc->acc+bn cnt (Cyc.bits n left)<=1000000000->cQ (cost,X,s,(v:Int),acc,(left:Int),N,J,())=some (.inl (cost,X,s,acc+bn cnt (Cyc.bits n left),N,J,())):=by
 have h128:2^n<=128:=VT (n:=2) (by omega) hn;intro left;induction left using Nat.strongRecOn with
 |ind left ih=>
  intro hl acc h0 hb;rcases Nat.eq_zero_or_pos left with e|hp
  ·subst e;unfold cQ;rw[ce (r:=.inl (cost,X,s,acc,N,J,())) (by
    simp only[fU];rw[eM (by omega)];rfl),O3]
   simp[bn]
  obtain⟨u,u7,t1,t2,t3⟩:=Ui hp (by omega);have hun:u<n:=by
   rcases VA u n with h|h
   ·exact h
   have:=Wv (Vn hl (VT (by omega) h));rw[this]at t2;cases t2
  have hlt:=sM t2;rw[OS hl t2]at hb ⊢;have hnn':=xj hnn (Cyc.bits n (clr left u));have hu0:=hnn u;unfold cQ;rw[gq (t:=(cost,X,s,(v:Int),acc+cnt u,((clr left u:Nat):Int),N,J,())) (by
   simp only[fU];rw[pf (by omega)];simp only[U3,t1,bv,ac,hrow,hcnt u hun,t3];rw[oT (by omega) (by omega)])]
  have:=ih (clr left u) hlt (by omega) (acc+cnt u) (by omega) (by omega);unfold cQ at this;rw[this,Ya]
def P5(a b:Nat):Bool:=(L7 7).all λu=>!a.testBit u||b.testBit u
theorem Cw{a b:Nat}:P5 a b=true↔∀ u,u<7->a.testBit u=true->b.testBit u=true:=by
 unfold P5;rw[U5];constructor
 ·intro h u hu ha;have:=h u (Vp.2 hu);rw[ha]at this;simpa using this
 intro h u hu;cases ha:a.testBit u with
 |false=>rfl
 |true=>simpa using h u (Vp.1 hu) ha
def adm(first:List Int)(s v:Nat):Bool:=s.testBit v&&P5 (first.getD v 0).toNat (clr s v)
def val(n:Nat)(cnt:Nat->Nat->Int)(cost:List Int)(s v:Nat):Int:=cost.getD (clr s v) 0+bn (cnt v) (Cyc.bits n (clr s v))
def tn(n:Nat)(cnt:Nat->Nat->Int)(first cost:List Int)(s:Nat):Int:=(L7 n).foldl (λw v=>cond (adm first s v) (bL w (val n cnt cost s v)) w) 1048576
structure Srch (n:Nat)(cnt:Nat->Nat->Int)(rows:List (List Int))(first:List Int):Prop where
 n7:n<=7
 nn:∀ v u,0<=cnt v u
 few:∀ v s,v<n->s<2^n->bn (cnt v) (Cyc.bits n s)<=1000000
 row:∀ v,v<n->∃ r,rows[v]?=some r/\∀ u,u<n->r[u]?=some (cnt v u)
 len:first.length=n
 rng:∀ v,v<n->0<=first.getD v 0/\first.getD v 0<128
theorem Srch.set{n:Nat}{cnt:Nat->Nat->Int}{rows:List (List Int)}{first:List Int}(H:Srch n cnt rows first){cost:List Int}(hc:cost.length=2 ^ n)(hv:∀ t,t<2 ^ n->0<=cost.getD t 0/\cost.getD t 0<=1048576){s:Nat}(hs:s<2 ^ n):
  ls (cost.set s 1048576,((n:Int),rows,first,()),(s:Int),(n:Int),0,())=some (.inl (cost.set s (tn n cnt first cost s),((n:Int),rows,first,()),(s:Int),())):=by
 have h128:2^n<=128:=VT (n:=2) (by omega) H.n7;have n7:=H.n7;have:=eu (B:=eA) (L7 n) (λw v=>cond (adm first s v) (bL w (val n cnt cost s v)) w) 1048576 (λ_ w=>0<=w/\w<=1048576) (λw v=>(cost.set s w,((n:Int),rows,first,()),(s:Int),(n:Int),(v:Int),()))
  (λw=>.inl (cost.set s w,((n:Int),rows,first,()),(s:Int),())) ⟨by omega,by omega⟩ (by
   intro i v w hv' hw;have hi:i<n:=by have:=(tz.1 hv').1;simpa using this
   have hvi:v=i:=by rw[bx (by simpa using hi)]at hv';simpa using(L9 hv').symm
   subst hvi;cases ha:adm first s v with
   |false=>exact hw
   |true=>
    have ht:s.testBit v=true:=by unfold adm at ha;simp only[sg]at ha;exact ha.1
    have hlt:=sM ht;have h1:=hv (clr s v) (by omega);have h2:=xj (H.nn v) (Cyc.bits n (clr s v));show 0<=bL w (val n cnt cost s v)/\bL w (val n cnt cost s v)<=1048576;unfold bL val;split<;>omega) (by
   intro i v w hv' hw;have hi:i<n:=by have:=(tz.1 hv').1;simpa using this
   have hvi:v=i:=by rw[bx (by simpa using hi)]at hv';simpa using(L9 hv').symm
   subst hvi;simp only[eA];rw[aq (by omega),aj (show(0:Int)<=(v:Int) by omega),Sl (show s<9223372036854775808 by omega) (by omega),aR (by omega)];simp only[U3,U4];cases ht:s.testBit v with
   |false=>
    have ha:adm first s v=false:=by unfold adm;rw[ht];rfl
    rw[ha];rfl
   |true=>
    have hlt:=sM ht;have hsv:vH .i64 1 (v:Int)=((2^v:Nat):Int):=GE (by omega);have hp63:2^v<9223372036854775808:=by have:2^v<=2^7:=VT (by omega) (by omega);omega
    obtain⟨c,c1,c2,c3⟩:=DW (a:=s) (b:=2^v) (by omega) hp63;have hce:c=clr s v:=O9 ht λu=>by
     rw[c3,Nat.testBit_two_pow];by_cases e:v=u
     ·subst e;simp
     have:¬u=v:=λh=>e h.symm;simp[e,this]
    subst hce;have hfl:v<first.length:=by rw[H.len];exact hi
    have hf:first[v]?=some ((first.getD v 0).toNat:Int):=by rw[bx hfl];have:=(H.rng v hi).1;rw[U9 this,A5,bx hfl];rfl
    obtain⟨q,q1,q2,q3⟩:=DW (a:=(first.getD v 0).toNat) (b:=clr s v) (by have:=(H.rng v hi).2;omega) (by omega);have hq:neI (q:Int) 0=!adm first s v:=by
     unfold adm;rw[ht,Ww];by_cases e:q=0
     ·rw[gW (by omega)];have:P5 (first.getD v 0).toNat (clr s v)=true:=by rw[Cw];intro u _ hu;have:=q3 u;rw[e,XF,hu,Ww]at this;simpa using this.symm
      rw[this];rfl
     rw[wc (by omega)];have:P5 (first.getD v 0).toNat (clr s v)=false:=by
      refine Bool.eq_false_iff.2 λhall=>?_;have hall:=Cw.1 hall;apply e;refine Nat.eq_of_testBit_eq λu=>?_;rw[XF,q3];cases hb:((first.getD v 0).toNat).testBit u with
      |false=>rfl
      |true=>
       have hu7:u<7:=by
        rcases VA u 7 with h|h
        ·exact h
        have h2:(first.getD v 0).toNat<2^u:=Vn (show(first.getD v 0).toNat<2^7 by have:=(H.rng v hi).2;omega) (VT (by omega) h);rw[Wv h2]at hb;cases hb
       rw[hall u hu7 hb];rfl
     rw[this];rfl
    rw[if_pos rfl,qe (show(1:Int)≠0 by omega)];simp only[U4,hsv,c1,ac,hf,bv,q1,hq];cases ha:adm first s v with
    |false=>rfl
    |true=>
     simp only[U8,U4,U3];have hcl:clr s v<2^n:=by omega
     have hne:¬s=clr s v:=by omega
     rw[aB (by rw[L8,hc];exact hcl)];simp only[bv];rw[Vo hne,bx (show clr s v<cost.length by rw[hc];exact hcl)];simp only[bv];obtain⟨row,r1,r2⟩:=H.row v hi;have hcv:=hv (clr s v) hcl;have hcd:cost.getD (clr s v) 0=cost[clr s v]'(by rw[hc];exact hcl):=by rw[A5,bx (show clr s v<cost.length by rw[hc];exact hcl)];rfl
     have hfew:=H.few v (clr s v) hi hcl;have:=Ta H.n7 (cost.set s w) ((n:Int),rows,first,()) (s:Int) (n:Int) (v:Int) r1 (cnt:=cnt v) r2 (H.nn v) (clr s v) hcl (cost[clr s v]'(by rw[hc];exact hcl)) (by rw[<- hcd];exact hcv.1) (by rw[<- hcd];omega);rw[this];simp only[bv,B7];rw[aB (show s<(cost.set s w).length by rw[L8,hc];exact hs)];simp only[bv];rw[VB (by rw[hc];exact hs)];simp only[bv];rw[aR (by omega),List.set_set];unfold val;rw[hcd]) (by
   intro w _;rw[VC];simp only[eA];rw[aj (by omega)];rfl)
 exact this
structure DpTo (n:Nat)(cnt:Nat->Nat->Int)(first:Nat->Nat)(C:Nat->Int)(k:Nat):Prop where
 zero:C 0=0
 top:∀ s,s<2^n->0<=C s/\C s<=1048576
 le:∀ s,s<k->∀ v,s.testBit v=true->(∀ u,(first v).testBit u=true->(clr s v).testBit u=true)->C s<=C (clr s v)+bn (cnt v) (Cyc.bits n (clr s v))
 at':∀ s,0<s->s<k->C s=1048576\/∃ v,s.testBit v=true/\(∀ u,(first v).testBit u=true->(clr s v).testBit u=true)/\C s=C (clr s v)+bn (cnt v) (Cyc.bits n (clr s v))
def zm(first:List Int)(v:Nat):Nat:=(first.getD v 0).toNat
theorem Nt(n:Nat)(cnt:Nat->Nat->Int)(first cost:List Int)(s:Nat):tn n cnt first cost s=1048576\/∃ v,v<n/\adm first s v=true/\tn n cnt first cost s=val n cnt cost s v:=by
 unfold tn;have:∀(l:List Nat) (w:Int),(∀ v∈l,v<n)->(w=1048576\/∃ v,v<n/\adm first s v=true/\w=val n cnt cost s v)->(l.foldl (λw v=>cond (adm first s v) (bL w (val n cnt cost s v)) w) w=1048576\/∃ v,v<n/\adm first s v=true/\l.foldl (λw v=>cond (adm first s v) (bL w (val n cnt cost s v)) w) w=val n cnt cost s v):=by
  intro l;induction l with
  |nil=>intro w _ h;exact h
  |cons v l ih=>
   intro w hl h;rw[VU];refine ih _ (λx hx=>hl x (by simp[hx])) ?_;cases ha:adm first s v with
   |false=>exact h
   |true=>
    simp only[U3];unfold bL;split
    ·exact .inr ⟨v,hl v (by simp),ha,rfl⟩
    exact h
 exact this _ _ (λv hv=>Vp.1 hv) (.inl rfl)
theorem RZ(n:Nat)(cnt:Nat->Nat->Int)(first cost:List Int)(s:Nat):tn n cnt first cost s<=1048576/\∀ v,v<n->adm first s v=true->tn n cnt first cost s<=val n cnt cost s v:=by
 unfold tn;have:∀(l:List Nat) (w:Int),l.foldl (λw v=>cond (adm first s v) (bL w (val n cnt cost s v)) w) w<=w/\∀ v∈l,adm first s v=true->l.foldl (λw v=>cond (adm first s v) (bL w (val n cnt cost s v)) w) w<=val n cnt cost s v:=by
  intro l;induction l with
  |nil=>intro w;exact⟨V1 _,λv hv=>by cases hv⟩
  |cons v l ih=>
   intro w;rw[VU];obtain⟨h1,h2⟩:=ih (cond (adm first s v) (bL w (val n cnt cost s v)) w);have h3:cond (adm first s v) (bL w (val n cnt cost s v)) w<=w:=by
    cases adm first s v with
    |false=>exact V1 _
    |true=>simp only[U3];unfold bL;split<;>omega
   refine⟨by omega,λx hx ha=>?_⟩;cases hx with
   |head=>
    have:cond (adm first s v) (bL w (val n cnt cost s v)) w<=val n cnt cost s v:=by rw[ha];simp only[U3];unfold bL;split<;>omega
    omega
   |tail _ hx=>exact h2 x hx ha
 obtain⟨h1,h2⟩:=this (L7 n) 1048576;exact⟨h1,λv hv=>h2 v (Vp.2 hv)⟩
theorem S8{first:List Int}{s v:Nat}(h1:s.testBit v=true)(h2:∀ u,(zm first v).testBit u=true->(clr s v).testBit u=true):adm first s v=true:=by unfold adm;rw[h1,Ww,Cw];exactλu _ hu=>h2 u hu
theorem Pk{first:List Int}{s v:Nat}(hr:first.getD v 0<128)(h:adm first s v=true):s.testBit v=true/\∀ u,(zm first v).testBit u=true->(clr s v).testBit u=true:=by
 unfold adm at h;rw[sg,Cw]at h;refine⟨h.1,λu hu=>h.2 u ?_ hu⟩;rcases VA u 7 with h1|h1
 ·exact h1
 have h2:(first.getD v 0).toNat<2^u:=Vn (show(first.getD v 0).toNat<2^7 by omega) (VT (by omega) h1);unfold zm at hu;rw[Wv h2]at hu;cases hu
theorem Mm{n s v:Nat}(hs:s<2^n)(h:s.testBit v=true):v<n:=by
 rcases VA v n with h1|h1
 ·exact h1
 rw[Wv (Vn hs (VT (by omega) h1))]at h;cases h
theorem nJ{l:List Int}{i j:Nat}{x:Int}(hi:i<l.length):(l.set i x).getD j 0=if j=i then x else l.getD j 0:=by
 rw[A5,A5];by_cases e:j=i
 ·subst e;rw[if_pos rfl,VB hi];rfl
 rw[if_neg e,Vo (Ne.symm e)]
theorem DpTo.step{n:Nat}{cnt:Nat->Nat->Int}{rows:List (List Int)}{first cost:List Int}(H:Srch n cnt rows first)(hc:cost.length=2 ^ n){k:Nat}(hk:k<2 ^ n)(h0:0<k)(D:DpTo n cnt (zm first) (λs=>cost.getD s 0) k):
  DpTo n cnt (zm first) (λs=>(cost.set k (tn n cnt first cost k)).getD s 0) (k+1):=by
 have hg:∀ j,(cost.set k (tn n cnt first cost k)).getD j 0=if j=k then tn n cnt first cost k else cost.getD j 0:=λj=>nJ (by rw[hc];exact hk)
 have hb:=RZ n cnt first cost k
 have hval:∀ v,v<n->k.testBit v=true->0<=val n cnt cost k v:=λv hv ht=>by have hlt:=sM ht;have h1:=(D.top (clr k v) (by omega)).1;have h2:=xj (H.nn v) (Cyc.bits n (clr k v));unfold val;have h1':0<=cost.getD (clr k v) 0:=h1;omega
 refine⟨?_,λs hs=>?_,λs hs v ht hu=>?_,λs hs hs2=>?_⟩
 ·simp only[hg];rw[if_neg (by omega)];exact D.zero
 ·simp only[hg];split
  ·refine⟨?_,hb.1⟩;rcases Nt n cnt first cost k with e|⟨v,v1,v2,v3⟩
   ·omega
   rw[v3];exact hval v v1 (Pk (H.rng v v1).2 v2).1
  exact D.top s hs
 ·have hlt:=sM ht;simp only[hg];rw[if_neg (show ¬clr s v=k by omega)];by_cases e:s=k
  ·subst e;rw[if_pos rfl];exact hb.2 v (Mm hk ht) (S8 ht hu)
  rw[if_neg e];exact D.le s (by omega) v ht hu
 simp only[hg];by_cases e:s=k
 ·subst e;rw[if_pos rfl];rcases Nt n cnt first cost s with e|⟨v,v1,v2,v3⟩
  ·exact .inl e
  obtain⟨t1,t2⟩:=Pk (H.rng v v1).2 v2;have hlt:=sM t1;exact .inr ⟨v,t1,t2,by rw[if_neg (by omega),v3];rfl⟩
 rw[if_neg e];rcases D.at' s hs (by omega)with h|⟨v,t1,t2,t3⟩
 ·exact .inl h
 have hlt:=sM t1;exact .inr ⟨v,t1,t2,by rw[if_neg (by omega)];exact t3⟩
theorem Srch.run{n:Nat}{cnt:Nat->Nat->Int}{rows:List (List Int)}{first:List Int}(H:Srch n cnt rows first):
  ∃ C:Nat->Int,Dp n 1048576 cnt (zm first) C/\0<=C (2^n-1)/\cj (((n:Int),rows,first,()),())=some (C (2^n-1),()):=by
 have n7:=H.n7;have h128:2^n<=128:=VT (n:=2) (by omega) n7;have hpos:=Nat.two_pow_pos n;simp only[cj];rw[aj (by omega),GE (by omega),fR (B5 _) (by omega)];simp only[U4,bv];obtain⟨r,h1,cost,hc,D,rfl⟩:=aH (f:=gU) (λx=>∃(cost:List Int) (k:Nat),x=(cost,((n:Int),rows,first,()),(k:Int),())/\0<k/\k<=2^n/\cost.length=2^n/\DpTo n cnt (zm first) (λs=>cost.getD s 0) k) (λx=>2^n-x.2.2.1.toNat)
  (λr=>∃ cost:List Int,cost.length=2^n/\DpTo n cnt (zm first) (λs=>cost.getD s 0) (2^n)/\r=.inl (cost,())) (by
  rintro x ⟨cost,k,rfl,k0,kn,hc,D⟩;simp only[gU];by_cases h:k<2^n
  ·rw[hc,aq (by omega)];simp only[U3];rw[aB h];simp only[bv];rw[bx (by rw[hc];exact h)];simp only[bv];rw[H.set hc D.top h];simp only[bv,B7];rw[aR (by omega)];exact .inl ⟨_,rfl,⟨_,k+1,rfl,by omega,h,by rw[L8,hc],D.step H hc h k0⟩,by show 2^n-((k+1:Nat):Int).toNat<2^n-(k:Int).toNat;omega⟩
  have:k=2^n:=by omega
  subst this;rw[hc,aj (by omega)];exact .inr ⟨_,rfl,cost,hc,D,rfl⟩) (A7 (2^n) 0,((n:Int),rows,first,()),1,()) ⟨_,1,rfl,by omega,hpos,L5,by
   have hz:∀ t,(A7 (2^n) (0:Int)).getD t 0=0:=λt=>by rw[A5,Wc];split<;>rfl
   refine⟨hz 0,λs hs=>?_,λs hs v ht=>?_,λs hs hs2=>by omega⟩
   ·simp only[hz];omega
   have:s=0:=by omega
   subst this;rw[XF]at ht;cases ht⟩
 rw[show k6 (A7 (2^n) (aL I),((n:Int),rows,first,()),1,())=_ from h1];simp only[bv,B7];rw[hc,show aK .i64 ((2^n:Nat):Int) 1=((2^n-1:Nat):Int) by rw[N6 (by omega)];omega,aB (by omega)];simp only[bv];rw[bx (show 2^n-1<cost.length by omega)];refine⟨λs=>cost.getD s 0,⟨D.zero,λs hs=>(D.top s hs).2,λs hs=>D.le s hs,λs h0 hs=>D.at' s h0 hs⟩,(D.top _ (by omega)).1,?_⟩;show some (cost[2^n-1],())=some (cost.getD (2^n-1) 0,());rw[A5,bx (show 2^n-1<cost.length by omega)];rfl
end Go.Vm

/-
 AuditFinds: cycle.Least gives the least set of backward arcs.
-/
namespace Go.Vm
open Go.Proofs
open Cyc
open Net (bn)
set_option maxRecDepth 100000
attribute [local irreducible] ab
abbrev ArcD:=Int×Int×Unit
def Tq(m:Nat->Int):List Int:=[m 0,m 1,m 2,m 3,m 4,m 5,m 6,m 7,m 8,m 9,m 10,m 11,m 12,m 13,m 14,m 15,m 16,m 17,m 18,m 19,m 20,m 21,m 22,m 23,m 24,m 25,m 26,m 27,m 28,m 29,m 30,m 31,m 32,m 33,m 34,m 35,m 36,m 37,m 38,m 39,m 40,m 41,m 42,m 43,m 44,m 45,m 46,m 47,m 48,m 49,m 50,m 51,m 52,m 53,m 54,m 55,m 56,m 57,m 58,m 59,m 60,m 61,m 62,m 63]
theorem Sg(m:Nat->Int){k:Nat}(h:k<64):(Tq m).getD k 0=m k:=by have:Tq m=(L7 64).map m:=rfl;rw[this,A5,Vy,Xp h];rfl
def HU(m:Nat->Int):List (List Int):=[[m 0,m 1,m 2,m 3,m 4,m 5,m 6,m 7],[m 8,m 9,m 10,m 11,m 12,m 13,m 14,m 15],[m 16,m 17,m 18,m 19,m 20,m 21,m 22,m 23],[m 24,m 25,m 26,m 27,m 28,m 29,m 30,m 31],[m 32,m 33,m 34,m 35,m 36,m 37,m 38,m 39],[m 40,m 41,m 42,m 43,m 44,m 45,m 46,m 47],[m 48,m 49,m 50,m 51,m 52,m 53,m 54,m 55],[m 56,m 57,m 58,m 59,m 60,m 61,m 62,m 63]]
theorem Ri(m:Nat->Int){v:Nat}(h:v<8):∃ r,(HU m)[v]?=some r/\∀ u,u<8->r[u]?=some (m (v*8+u)):=by have:HU m=(L7 8).map λv=>(L7 8).map λu=>m (v*8+u):=rfl;rw[this,Vy,Xp h];exact⟨_,rfl,λu hu=>by rw[Vy,Xp hu];rfl⟩
def st7(n:Int)(A:List ArcD)(m:Nat->Int)(first:List Int)(i:Int):Q93:=(n,A,n,m 0,m 1,m 2,m 3,m 4,m 5,m 6,m 7,m 8,m 9,m 10,m 11,m 12,m 13,m 14,m 15,m 16,m 17,m 18,m 19,m 20,m 21,m 22,m 23,m 24,m 25,m 26,m 27,m 28,m 29,m 30,m 31,m 32,m 33,m 34,m 35,m 36,m 37,m 38,m 39,m 40,m 41,m 42,m 43,m 44,m 45,m 46,m 47,m 48,m 49,m 50,m 51,m 52,m 53,m 54,m 55,m 56,m 57,m 58,m 59,m 60,m 61,m 62,m 63,first,A,(A.length:Int),i,())
def JM(n:Int)(A:List ArcD)(m:Nat->Int)(out first:List Int)(size i:Int):Q92:=(n,m 0,m 1,m 2,m 3,m 4,m 5,m 6,m 7,m 8,m 9,m 10,m 11,m 12,m 13,m 14,m 15,m 16,m 17,m 18,m 19,m 20,m 21,m 22,m 23,m 24,m 25,m 26,m 27,m 28,m 29,m 30,m 31,m 32,m 33,m 34,m 35,m 36,m 37,m 38,m 39,m 40,m 41,m 42,m 43,m 44,m 45,m 46,m 47,m 48,m 49,m 50,m 51,m 52,m 53,m 54,m 55,m 56,m 57,m 58,m 59,m 60,m 61,m 62,m 63,out,first,size,A,(A.length:Int),i,())
def upM(m:Nat->Int)(k:Nat)(t:Int):Nat->Int:=λj=>cond (A3 k j) t (m j)
theorem TY(n:Int)(A:List ArcD)(m:Nat->Int)(first:List Int)(i:Int):pp (st7 n A m first i)=cond (ltI i (A.length:Int)) ((ai A i).bind λy=>cond (neI y.1 y.2.1)
  (if 0<=y.1/\y.1<((8:Nat):Int)then if 0<=y.2.1/\y.2.1<((8:Nat):Int)then if 0<=y.1/\y.1<((8:Nat):Int)then if 0<=y.2.1/\y.2.1<((8:Nat):Int)then
   some (.inl (st7 n A (upM m (A4 y.1*8+A4 y.2.1*1) (af .i64 ((Tq m).getD (A4 y.1*8+A4 y.2.1*1) 0) 1)) first (af .i64 i 1)))else none else none else none else none)
  (some (.inl (st7 n A m first (af .i64 i 1))))) (some (.inr (.inl (n,A,n,m 0,m 1,m 2,m 3,m 4,m 5,m 6,m 7,m 8,m 9,m 10,m 11,m 12,m 13,m 14,m 15,m 16,m 17,m 18,m 19,m 20,m 21,m 22,m 23,m 24,m 25,m 26,m 27,m 28,m 29,m 30,m 31,m 32,m 33,m 34,m 35,m 36,m 37,m 38,m 39,m 40,m 41,m 42,m 43,m 44,m 45,m 46,m 47,m 48,m 49,m 50,m 51,m 52,m 53,m 54,m 55,m 56,m 57,m 58,m 59,m 60,m 61,m 62,m 63,first,())))):=rfl
def cN(l:List ArcD)(k:Nat):Int:=num (λa=>neI a.1 a.2.1&&A3 (A4 a.1*8+A4 a.2.1*1) k) l
theorem IG{α:Type}(P:α->Bool):∀ l:List α,0<=num P l/\num P l<=l.length
 |[]=>⟨V1 _,V1 _⟩
 |a::l=>by have:=IG P l;have e:num P (a::l)=b2i (P a)+num P l:=rfl;rw[e,B2];cases P a<;>simp only[b2i]<;>omega
theorem Fl{α:Type}(P:α->Bool)(a:α):∀ l:List α,num P (l++[a])=num P l+b2i (P a)
 |[]=>by simp[num,bn]
 |x::l=>by have:=Fl P a l;have e1:num P (x::l++[a])=b2i (P x)+num P (l++[a]):=rfl;have e2:num P (x::l)=b2i (P x)+num P l:=rfl;rw[e1,e2,this,Ya]
theorem H9(k:Nat):A3 k k=true:=Nat.beq_refl k
theorem Pf{k j:Nat}(h:k≠j):A3 k j=false:=by
 cases e:A3 k j with
 |false=>rfl
 |true=>exact absurd (Nat.eq_of_beq_eq_true e) h
theorem LP{n:Nat}(hn:n<=7){A:List ArcD}(hA:fY n A)(hl:A.length<=8)(first:List Int):
  mI (st7 (n:Int) A (λ_=>0) first 0)=some (let m:=cN A;.inl ((n:Int),A,(n:Int),m 0,m 1,m 2,m 3,m 4,m 5,m 6,m 7,m 8,m 9,m 10,m 11,m 12,m 13,m 14,m 15,m 16,m 17,m 18,m 19,m 20,m 21,m 22,m 23,m 24,m 25,m 26,m 27,m 28,m 29,m 30,m 31,m 32,m 33,m 34,m 35,m 36,m 37,m 38,m 39,m 40,m 41,m 42,m 43,m 44,m 45,m 46,m 47,m 48,m 49,m 50,m 51,m 52,m 53,m 54,m 55,m 56,m 57,m 58,m 59,m 60,m 61,m 62,m 63,first,())):=by
 obtain⟨r,h1,h2⟩:=aH (f:=pp) (λx=>∃ i:Nat,i<=A.length/\x=st7 (n:Int) A (cN (A.take i)) first (i:Int)) (λx=>A.length-(x.2.2.2.2.2.2.2.2.2.2.2.2.2.2.2.2.2.2.2.2.2.2.2.2.2.2.2.2.2.2.2.2.2.2.2.2.2.2.2.2.2.2.2.2.2.2.2.2.2.2.2.2.2.2.2.2.2.2.2.2.2.2.2.2.2.2.2.2.2.2.1).toNat)
  (λr=>r=(let m:=cN A;.inl ((n:Int),A,(n:Int),m 0,m 1,m 2,m 3,m 4,m 5,m 6,m 7,m 8,m 9,m 10,m 11,m 12,m 13,m 14,m 15,m 16,m 17,m 18,m 19,m 20,m 21,m 22,m 23,m 24,m 25,m 26,m 27,m 28,m 29,m 30,m 31,m 32,m 33,m 34,m 35,m 36,m 37,m 38,m 39,m 40,m 41,m 42,m 43,m 44,m 45,m 46,m 47,m 48,m 49,m 50,m 51,m 52,m 53,m 54,m 55,m 56,m 57,m 58,m 59,m 60,m 61,m 62,m 63,first,()))) (by
  rintro x ⟨i,hi,rfl⟩;rw[TY];by_cases h:i<A.length
  ·have hx:=bx h;obtain⟨q1,q2,q3,q4⟩:=hA _ (A2 h);rw[aq (by omega),ac,hx];simp only[U3,bv];rw[if_pos (⟨by omega,by omega⟩:0<=A[i].1/\A[i].1<((8:Nat):Int)),if_pos (⟨by omega,by omega⟩:0<=A[i].2.1/\A[i].2.1<((8:Nat):Int)),if_pos (⟨by omega,by omega⟩:0<=A[i].1/\A[i].1<((8:Nat):Int)),if_pos (⟨by omega,by omega⟩:0<=A[i].2.1/\A[i].2.1<((8:Nat):Int))];rw[Sg _ (by omega),aR (by omega)];have ht:A.take (i+1)=A.take i++[A[i]]:=Vf h;have hb:=IG (λa=>neI a.1 a.2.1&&A3 (A4 a.1*8+A4 a.2.1*1) (A4 A[i].1*8+A4 A[i].2.1*1)) (A.take i);have hlt:(A.take i).length<=8:=by rw[Vd];omega
   have mm:A.length-((i+1:Nat):Int).toNat<A.length-(i:Int).toNat:=by omega
   left;cases hne:neI A[i].1 A[i].2.1 with
   |true=>
    refine⟨_,rfl,⟨i+1,h,?_⟩,mm⟩;have:upM (cN (A.take i)) (A4 A[i].1*8+A4 A[i].2.1*1) (af .i64 (cN (A.take i) (A4 A[i].1*8+A4 A[i].2.1*1)) 1)=cN (A.take (i+1)):=by
     funext j;unfold upM;have hs:cN (A.take (i+1)) j=cN (A.take i) j+b2i (A3 (A4 A[i].1*8+A4 A[i].2.1*1) j):=by unfold cN;rw[ht,Fl,hne];rfl
     rw[hs];by_cases e:A4 A[i].1*8+A4 A[i].2.1*1=j
     ·subst e;rw[H9];show af .i64 (cN (A.take i) (A4 A[i].1*8+A4 A[i].2.1*1)) 1=_;unfold cN;rw[oT (by omega) (by omega)];rfl
     rw[Pf e];show cN (A.take i) j=cN (A.take i) j+0;omega
    rw[this]
   |false=>
    refine⟨_,rfl,⟨i+1,h,?_⟩,mm⟩;have:cN (A.take i)=cN (A.take (i+1)):=by
     funext j;have hs:cN (A.take (i+1)) j=cN (A.take i) j+0:=by unfold cN;rw[ht,Fl,hne];rfl
     rw[hs];omega
    rw[this]
  have:i=A.length:=by omega
  subst this;rw[aj (by omega),V6];exact .inr ⟨_,rfl,rfl⟩) (st7 (n:Int) A (λ_=>0) first 0) ⟨0,L4 _,rfl⟩
 rw[show mI (st7 (n:Int) A (λ_=>0) first 0)=_ from h1,h2]
theorem NG{A:List ArcD}{n:Nat}(hn:n<=7)(hA:fY n A){s v:Nat}(hs:s<2^n)(hv:s.testBit v=true):bn (λu=>cN A (v*8+u)) (Cyc.bits n (clr s v))=bn (N5 A v) (Cyc.bits n (clr s v)):=by
 refine Net.lsum_congr λu hu=>?_;have hu':=(bits_mem (by have:=sM hv;omega)).1 hu;rw[qY hv]at hu';simp only[sg,Bool.not_eq_true',decide_eq_false_iff_not]at hu';have hun:=Mm hs hu'.1;have hvn:=Mm hs hv;unfold cN N5 num;refine Net.lsum_congr λa ha=>?_;obtain⟨q1,q2,q3,q4⟩:=hA a ha;congr 1;show(neI a.1 a.2.1&&A3 (A4 a.1*8+A4 a.2.1*1) (v*8+u))=(a.1.toNat==v&&a.2.1.toNat==u);by_cases e:a.1.toNat=v/\a.2.1.toNat=u
 ·obtain⟨e1,e2⟩:=e;rw[wc (by omega),e1,e2,show v*8+u*1=v*8+u by omega,H9];simp
 rw[Pf (by intro h;apply e;omega),Bool.and_false];by_cases e1:a.1.toNat=v
 ·have e2:a.2.1.toNat≠u:=λh=>e ⟨e1,h⟩;simp[e2]
 simp[e1]
theorem T5{A:List ArcD}{n:Nat}(hn:n<=7)(hA:fY n A){none:Int}{first C:Nat->_}(h:Dp n none (λv u=>cN A (v*8+u)) first C):Dp n none (N5 A) first C:=
 ⟨h.zero,h.top,λs hs v hv hu=>by rw[<- NG hn hA hs hv];exact h.le s hs v hv hu,λs h0 hs=>by
  rcases h.at' s h0 hs with e|⟨v,v1,v2,v3⟩
  ·exact .inl e
  exact .inr ⟨v,v1,v2,by rw[<- NG hn hA hs v1];exact v3⟩⟩
theorem lsum_le{F:Nat->Int}{W:Int}:∀{l:List Nat},(∀ u∈l,F u<=W)->bn F l<=l.length*W
 |[],_=>by simp[bn]
 |a::l,h=>by
  have:=lsum_le (F:=F) (W:=W) (l:=l) (λu hu=>h u (by simp[hu]));have h1:=h a (by simp);simp only[bn,B2];have e:((l.length+1:Nat):Int)*W=(l.length:Int)*W+W:=by rw[Int.natCast_add,Int.add_mul];simp
  omega
theorem R2{A:List ArcD}{n:Nat}(hn:n<=7)(hl:A.length<=8){first:List Int}(h1:first.length=n)(h2:∀ v,v<n->0<=first.getD v 0/\first.getD v 0<128):Srch n (λv u=>cN A (v*8+u)) (HU (cN A)) first:=by
 have hc:∀ k,0<=cN A k/\cN A k<=8:=λk=>by have:=IG (λa:ArcD=>neI a.1 a.2.1&&A3 (A4 a.1*8+A4 a.2.1*1) k) A;unfold cN;omega
 refine⟨hn,λv u=>(hc _).1,λv s hv hs=>?_,λv hv=>?_,h1,h2⟩
 ·have:=lsum_le (F:=λu=>cN A (v*8+u)) (W:=8) (l:=Cyc.bits n s) (λu _=>(hc _).2);have h3:(Cyc.bits n s).length<=n:=by unfold Cyc.bits;have:=List.length_filter_le (s.testBit ·) (L7 n);rw[VC]at this;exact this
  omega
 obtain⟨r,r1,r2⟩:=Ri (cN A) (show v<8 by omega);exact⟨r,r1,λu hu=>r2 u (by omega)⟩
theorem Kq{A:List ArcD}{n:Nat}(hn:n<=7)(hA:fY n A)(hl:A.length<=8){first:List Int}(h1:first.length=n)(h2:∀ v,v<n->0<=first.getD v 0/\first.getD v 0<128):
  ∃ L,cj (((n:Int),HU (cN A),first,()),())=some (L,())/\Tells n A (zm first) L:=by
 obtain⟨C,c1,_,c3⟩:=(R2 (A:=A) hn hl h1 h2).run;exact⟨_,c3,(T5 hn hA c1).tells hA⟩
theorem S9(n:Int)(A:List ArcD)(m:Nat->Int)(out first:List Int)(size i:Int):oj (JM n A m out first size i)=cond (ltI i (A.length:Int)) ((ai A i).bind λy1=>cond (eqI y1.1 y1.2.1) (some (.inl (JM n A m out first size (af .i64 i 1))))
  ((l7 I (first.length:Nat) (first.length:Nat)).bind λm2=>(aN (lU m2 first).length y1.1).bind λj3=>((lU m2 first)[j3]?).bind λy4=>cond (ltI y1.2.1 0) none ((aN (lU m2 first).length y1.1).bind λj5=>((lU m2 first)[j5]?).bind λy6=>(cj ((n,HU m,((lU m2 first).set j5 (orI .i64 y4 (vH .i64 1 y1.2.1))),()),())).bind λr7=>cond (eqI r7.1 size)
   ((app out [i]).bind λa8=>some (.inl (JM n A m a8 ((lU m2 first).set j5 (orI .i64 y4 (vH .i64 1 y1.2.1))) size (af .i64 i 1))))
   ((aN first.length y1.2.1).bind λj9=>(first[j9]?).bind λy10=>cond (ltI y1.1 0) none ((aN first.length y1.2.1).bind λj11=>(first[j11]?).bind λy12=>some (.inl (JM n A m out (first.set j11 (orI .i64 y10 (vH .i64 1 y1.1))) size (af .i64 i 1)))))))) (some (.inr (.inl (out,())))):=rfl
theorem MU{n:Nat}(hn:n<=7){first:List Int}(h1:first.length=n)(h2:∀ v,v<n->0<=first.getD v 0/\first.getD v 0<128){v u:Nat}(hv:v<n)(hu:u<n){x:Int}(hx:first[v]?=some x):
  (first.set v (orI .i64 x (vH .i64 1 (u:Int)))).length=n/\(∀ w,w<n->0<=(first.set v (orI .i64 x (vH .i64 1 (u:Int)))).getD w 0/\(first.set v (orI .i64 x (vH .i64 1 (u:Int)))).getD w 0<128) /\
   zm (first.set v (orI .i64 x (vH .i64 1 (u:Int))))=Cyc.ask (zm first) v u:=by
 have hvl:v<first.length:=by omega
 have hxe:first.getD v 0=x:=by rw[A5,hx];rfl
 have hxr:=h2 v hv;rw[hxe]at hxr;obtain⟨k,rfl⟩:∃ k:Nat,x=k:=⟨x.toNat,by omega⟩;have hp:2^u<128:=Vn (Nat.pow_lt_pow_right (by omega:1<2) (show u<7 by omega)) (by decide);have he:orI .i64 (k:Int) (vH .i64 1 (u:Int))=((k ||| 2^u:Nat):Int):=by rw[GE (by omega),RW (by omega) (by omega)]
 have hor:k ||| 2^u<128:=Nat.or_lt_two_pow (n:=7) (by omega) (by omega)
 rw[he];refine⟨by rw[L8,h1],λw hw=>?_,?_⟩
 ·rw[nJ hvl];split
  ·omega
  exact h2 w hw
 funext w;unfold zm Cyc.ask;rw[nJ hvl];by_cases e:w=v
 ·subst e;rw[if_pos rfl,if_pos rfl]
  show(k ||| 2^u)=(first.getD w 0).toNat ||| 2^u
  rw[hxe];rfl
 rw[if_neg e,if_neg e]
theorem Ou(l:List Int):lU (A7 l.length (aL I)) l=l:=by unfold lU;rw[L5,V6,Xi (by rw[L5];exact B5 _),Vw]
theorem KZ{n:Nat}(hn:n<=7){A:List ArcD}(hA:fY n A)(hl:A.length<=8){size:Int}(hs:size<1048576)(h0:Tells n A (λ_=>0) size):
  ∃ out,kL (JM (n:Int) A (cN A) [] (A7 n 0) size 0)=some (.inl (out,()))/\IsLeast n A out/\out.length<=8/\out.Pairwise (· < ·)/\∀ x∈out,0<=x/\x<A.length:=by
 have hz:∀ v,(A7 n (0:Int)).getD v 0=0:=λv=>by rw[A5,Wc];split<;>rfl
 obtain⟨r,h1,out,rfl,h2,h3,h4,h5⟩:=aH (f:=oj) (λx=>∃(i:Nat) (out first:List Int),x=JM (n:Int) A (cN A) out first size (i:Int)/\i<=A.length/\out.length<=i/\first.length=n/\(∀ v,v<n->0<=first.getD v 0/\first.getD v 0<128)/\LInv n A size i out (zm first)) (λx=>A.length-(x.2.2.2.2.2.2.2.2.2.2.2.2.2.2.2.2.2.2.2.2.2.2.2.2.2.2.2.2.2.2.2.2.2.2.2.2.2.2.2.2.2.2.2.2.2.2.2.2.2.2.2.2.2.2.2.2.2.2.2.2.2.2.2.2.2.2.2.2.2.2.1).toNat)
  (λr=>∃ out:List Int,r=.inl (out,())/\IsLeast n A out/\out.length<=8/\out.Pairwise (· < ·)/\∀ x∈out,0<=x/\x<A.length) (by
  rintro x ⟨i,out,first,rfl,hi,ho,hf,hr,L⟩;rw[S9];by_cases h:i<A.length
  ·have hx:=bx h;obtain⟨q1,q2,q3,q4⟩:=hA _ (A2 h);have mm:A.length-((i+1:Nat):Int).toNat<A.length-(i:Int).toNat:=by omega
   rw[aq (by omega),ac,hx];simp only[U3,bv];rw[aR (by omega)];left;by_cases hne:A[i].1=A[i].2.1
   ·rw[tg hne];exact⟨_,rfl,⟨i+1,out,first,rfl,h,by omega,hf,hr,L.skip hx hne⟩,mm⟩
   rw[qe hne,fR (B5 _) (by omega)];simp only[U4,bv];rw[Ou];obtain⟨fr,hfr⟩:∃ k:Nat,A[i].1=k:=⟨A[i].1.toNat,by omega⟩;obtain⟨tt,htt⟩:∃ k:Nat,A[i].2.1=k:=⟨A[i].2.1.toNat,by omega⟩;rw[hfr,htt];have hfl:fr<first.length:=by omega
   have htl:tt<first.length:=by omega
   have e1:=bx hfl;have e2:=bx htl;rw[aB hfl];simp only[bv];rw[e1,aj (by omega),aB htl];simp only[bv,U4];rw[e2,aj (by omega)];obtain⟨s1,s2,s3⟩:=MU hn hf hr (show fr<n by omega) (show tt<n by omega) e1;obtain⟨t1,t2,t3⟩:=MU hn hf hr (show tt<n by omega) (show fr<n by omega) e2;obtain⟨l,l1,l2⟩:=Kq hn hA hl s1 s2;rw[l1];simp only[bv,U4];rw[s3]at l2;have ef:A[i].1.toNat=fr:=by omega
   have et:A[i].2.1.toNat=tt:=by omega
   by_cases hsz:l=size
   ·rw[tg hsz,bw (by simp;omega)];refine⟨_,rfl,⟨i+1,_,_,rfl,h,by simp;omega,s1,s2,?_⟩,mm⟩;rw[s3];have:=L.yes hx hA (by
     rw[ef,et];obtain⟨o,o1,o2,o3⟩:=l2.some (by omega);exact⟨o,o1,o2,by omega⟩)
    rw[ef,et]at this;exact this
   rw[qe hsz];refine⟨_,rfl,⟨i+1,_,_,rfl,h,by omega,t1,t2,?_⟩,mm⟩;rw[t3];have:=L.not hx hA hne (by
    rw[ef,et];rintro⟨o,o1,o2,o3⟩;have g1:=l2.low o o1 o2;obtain⟨o',p1,p2,p3⟩:=l2.some (by omega);have g2:=h0.low o' p1 ((Cons.iff p1).2 λv _ u hu=>by simp at hu);omega)
   rw[ef,et]at this;exact this
  have:i=A.length:=by omega
  subst this;rw[aj (by omega)];exact .inr ⟨_,rfl,out,rfl,L.done hA h0,by omega,L.incr,L.rng⟩) (JM (n:Int) A (cN A) [] (A7 n 0) size 0) ⟨0,[],A7 n 0,rfl,L4 _,B5 _,L5,λv _=>by rw[hz];omega,by
  have:zm (A7 n 0)=λ_=>0:=by funext v;unfold zm;rw[hz];rfl
  rw[this];exact LInv.init h0 hs⟩
 exact⟨out,h1,h2,h3,h4,h5⟩
theorem Ej{n:Nat}(hn:n<=64){A:List ArcD}(hA:fY n A)(hl:A.length<=256):kV (((n:Int),A,()),())=some (true,()):=by
 have:=gl (B:=jz) A (λi=>((n:Int),A,A,(A.length:Int),(i:Int),())) (λ_=>false) (.inl (false,())) (.inr (.inl ())) (by
  intro i hi;obtain⟨q1,q2,q3,q4⟩:=hA _ (A2 hi);simp only[jz];rw[aq (by omega),U3,ac,bx hi,aR (by omega)];simp only[bv,ES,EB];rw[aj (by omega),aj (by omega),kb (by omega),kb (by omega)];rfl) (by
  simp only[jz];rw[aj (by omega)];rfl)
 simp only[kV];rw[aj (by omega),eM (by omega),eM (by omega)];simp only[U4];rw[show qI ((n:Int),A,A,(A.length:Int),0,())=_ from this,Vj.2 (λ_ _=>by simp)];rfl
abbrev I8(t:Type):=Int×Int×Int×Int×Int×Int×Int×Int×t
abbrev d8{t:Type}(y:I8 t):t:=y.2.2.2.2.2.2.2.2
abbrev r8{t:Type}(y:I8 t):List Int:=[y.1,y.2.1,y.2.2.1,y.2.2.2.1,y.2.2.2.2.1,y.2.2.2.2.2.1,y.2.2.2.2.2.2.1,y.2.2.2.2.2.2.2.1]
abbrev t8{t u:Type}(y:I8 t)(z:u):I8 u:=(y.1,y.2.1,y.2.2.1,y.2.2.2.1,y.2.2.2.2.1,y.2.2.2.2.2.1,y.2.2.2.2.2.2.1,y.2.2.2.2.2.2.2.1,z)
theorem RO(n:Int)(A:List ArcD):vh ((n,A,()),())=(kV ((n,A,()),())).bind λr1=>cond (!r1.1) (some ([],1,())) (cond (gtI n 8) (some ([],2,())) ((l7 I n n).bind λm2=>(mI (st7 n A (λ_=>0) m2 0)).bind (A1 (λx=>
  (cj ((x.2.2.1,[r8 x.2.2.2,r8 (d8 (x.2.2.2)),r8 (d8 (d8 (x.2.2.2))),r8 (d8 (d8 (d8 (x.2.2.2)))),r8 (d8 (d8 (d8 (d8 (x.2.2.2))))),r8 (d8 (d8 (d8 (d8 (d8 (x.2.2.2)))))),r8 (d8 (d8 (d8 (d8 (d8 (d8 (x.2.2.2))))))),r8 (d8 (d8 (d8 (d8 (d8 (d8 (d8 (x.2.2.2))))))))],(d8 (d8 (d8 (d8 (d8 (d8 (d8 (d8 (x.2.2.2))))))))).1,()),())).bind λr5=>(kL (x.2.2.1,(t8 x.2.2.2 (t8 (d8 (x.2.2.2)) (t8 (d8 (d8 (x.2.2.2))) (t8 (d8 (d8 (d8 (x.2.2.2)))) (t8 (d8 (d8 (d8 (d8 (x.2.2.2))))) (t8 (d8 (d8 (d8 (d8 (d8 (x.2.2.2)))))) (t8 (d8 (d8 (d8 (d8 (d8 (d8 (x.2.2.2))))))) (t8 (d8 (d8 (d8 (d8 (d8 (d8 (d8 (x.2.2.2)))))))) ([],(d8 (d8 (d8 (d8 (d8 (d8 (d8 (d8 (x.2.2.2))))))))).1,r5.1,x.2.1,(x.2.1.length:Nat),0,()))))))))))).bind (A1 (λz7=>some (z7.1,0,())) (λ_=>none))) (λ_=>none)))):=rfl
theorem LE{n:Nat}(hn:n<=7){A:List ArcD}(hA:fY n A)(hl:A.length<=8):∃ out,vh (((n:Int),A,()),())=some (out,0,())/\IsLeast n A out/\out.length<=8/\out.Pairwise (· < ·)/\∀ x∈out,0<=x/\x<A.length:=by
 have hz:∀ v,(A7 n (0:Int)).getD v 0=0:=λv=>by rw[A5,Wc];split<;>rfl
 obtain⟨size,z1,z2⟩:=Kq hn hA hl (first:=A7 n 0) L5 (λv _=>by rw[hz];omega);have ha:zm (A7 n 0)=λ_=>0:=by funext v;unfold zm;rw[hz];rfl
 rw[ha]at z2;have hord:Ord n ((L7 n).map λv:Nat=>(v:Int)):=by
  refine⟨?_,λx=>?_⟩
  ·refine XC.2 (List.nodup_range.imp fun {a b} hab e=>hab (by omega))
  rw[VM];constructor
  ·rintro⟨v,hv,rfl⟩;have:=Vp.1 hv;omega
  intro h;exact⟨x.toNat,Vp.2 (by omega),by omega⟩
 have hsize:size<1048576:=by have h1:=z2.low _ hord ((Cons.iff hord).2 λv _ u hu=>by simp at hu);have h2:=Ij hord (A:=A) (i:=0) hA;rw[h2]at h1;exact Yt h1 (Yt (IG _ A).2 (by omega))
 obtain⟨out,d1,d2⟩:=KZ hn hA hl hsize z2;refine⟨out,?_,d2⟩;rw[RO,Ej (by omega) hA (by omega)];simp only[bv,U8,U4];rw[eM (by omega),fR (B5 _) (by omega)];simp only[U4,bv];rw[LP hn hA hl];simp only[bv,B7];change (cj (((n:Int),HU (cN A),A7 n 0,()),())).bind _=_;rw[z1];simp only[bv];change (kL (JM (n:Int) A (cN A) [] (A7 n 0) size 0)).bind _=_;rw[d1];rfl
end Go.Vm

/-
 AuditFinds: the reference tries all orders; the arcs are turned; cycle.Break and layoutref19.Break agree.
-/
namespace Go.Vm
open Go.Proofs
open Cyc (Arc Ord pos bwd uH jZ yc yH CT IsLeast fY zG FF)
set_option maxRecDepth 100000
attribute [local irreducible] ab
def vs(n:Nat):List Int:=(L7 n).map λv:Nat=>(v:Int)
theorem wB(n:Nat):(vs n).length=n:=by unfold vs;rw[List.length_map,VC]
theorem vu{n:Nat}{x:Int}:x∈vs n↔0<=x/\x<n:=by
 unfold vs;rw[VM];constructor
 ·rintro⟨v,hv,rfl⟩;have:=Vp.1 hv;omega
 intro h;exact⟨x.toNat,Vp.2 (by omega),by omega⟩
theorem KC(n:Nat):(vs n).Nodup:=XC.2 (List.nodup_range.imp fun {a b} hab e=>hab (by omega))
theorem EO{n:Nat}{o:List Int}(h:Ord n o):o.length=n:=by have h1:=h.nodup.length_le_of_subset (l₂:=vs n) λx hx=>vu.2 ((h.mem x).1 hx);have h2:=(KC n).length_le_of_subset (l₂:=o) λx hx=>(h.mem x).2 (vu.1 hx);rw[wB]at h1 h2;omega
structure Beg (n:Nat)(c:List Int):Prop where
 nodup:c.Nodup
 rng:∀ x∈c,0<=x/\x<n
theorem Beg.le{n:Nat}{c:List Int}(h:Beg n c):c.length<=n:=by have h1:=h.nodup.length_le_of_subset (l₂:=vs n) λx hx=>vu.2 (h.rng x hx);rw[wB]at h1;exact h1
theorem Beg.ord{n:Nat}{c:List Int}(h:Beg n c)(hl:c.length=n):Ord n c:=by
 refine⟨h.nodup,λx=>⟨h.rng x,λhx=>?_⟩⟩;apply Classical.byContradiction;intro hn;have h1:=(Wg.2 ⟨hn,h.nodup⟩).length_le_of_subset (l₂:=vs n) λy hy=>by
  rcases A9.1 hy with e|e
  ·rw[e];exact vu.2 hx
  exact vu.2 (h.rng y e)
 rw[wB,B2]at h1;omega
theorem Beg.snoc{n:Nat}{c:List Int}(h:Beg n c){v:Int}(hv:0<=v/\v<n)(hn:v∉c):Beg n (c++[v]):=
 ⟨WN.2 ⟨h.nodup,by simp,λx hx y hy e=>hn (by simp at hy;rw[<- hy,<- e];exact hx)⟩,λx hx=>by
  rcases List.mem_append.1 hx with e|e
  ·exact h.rng x e
  simp at e;rw[e];exact hv⟩
structure LstTo (n:Nat)(A:List Arc)(c:List Int)(k:Nat)(s:List Int):Prop where
 some:∃ o v,Ord n o/\v<k/\c++[(v:Int)] <+: o/\s=bwd o 0 A
 least:∀ o v,Ord n o->v<k->c++[(v:Int)] <+: o->jZ (bwd o 0 A) s=false
structure Lst (n:Nat)(A:List Arc)(c:List Int)(s:List Int):Prop where
 some:∃ o,Ord n o/\c <+: o/\s=bwd o 0 A
 least:∀ o,Ord n o->c <+: o->jZ (bwd o 0 A) s=false
theorem FZ{a b c:List Int}(h1:jZ a b=false)(h2:jZ b c=false):jZ a c=false:=by
 cases h:jZ a c with
 |false=>rfl
 |true=>
  cases h3:jZ c b with
  |true=>rw[yc h h3]at h1;cases h1
  |false=>have:=yH h2 h3;subst this;rw[h]at h1;cases h1
theorem LstTo.next{n:Nat}{A:List Arc}{c:List Int}{k:Nat}{s r:List Int}(h:LstTo n A c k s)(hr:Lst n A (c++[(k:Int)]) r):LstTo n A c (k+1) (cond (jZ r s) r s):=by
 cases hl:jZ r s with
 |true=>
  show LstTo n A c (k+1) r;obtain⟨o,h1,h2,h3⟩:=hr.some;refine⟨⟨o,k,h1,by omega,h2,h3⟩,λo v ho hv hp=>?_⟩;by_cases e:v=k
  ·subst e;exact hr.least o ho hp
  have h4:=h.least o v ho (by omega) hp;cases h5:jZ (bwd o 0 A) r with
  |false=>rfl
  |true=>rw[yc h5 hl]at h4;cases h4
 |false=>
  show LstTo n A c (k+1) s;obtain⟨o,v,h1,hv,h2,h3⟩:=h.some;refine⟨⟨o,v,h1,by omega,h2,h3⟩,λo v ho hv hp=>?_⟩;by_cases e:v=k
  ·subst e;exact FZ (hr.least o ho hp) hl
  exact h.least o v ho (by omega) hp
theorem LstTo.pass{n:Nat}{A:List Arc}{c:List Int}{k:Nat}{s:List Int}(h:LstTo n A c k s)(hk:(k:Int)∈c):LstTo n A c (k+1) s:=by
 obtain⟨o,v,h1,hv,h2,h3⟩:=h.some;refine⟨⟨o,v,h1,by omega,h2,h3⟩,λo v ho hv hp=>?_⟩;by_cases e:v=k
 ·subst e;have:=XL hp.sublist ho.nodup;exact absurd rfl ((WN.1 this).2.2 _ hk _ (by simp))
 exact h.least o v ho (by omega) hp
theorem LstTo.first{n:Nat}{A:List Arc}{c:List Int}{k:Nat}{r:List Int}(hk:∀ v:Nat,v<k->(v:Int)∈c)(hr:Lst n A (c++[(k:Int)]) r):LstTo n A c (k+1) r:=by
 obtain⟨o,h1,h2,h3⟩:=hr.some;refine⟨⟨o,k,h1,by omega,h2,h3⟩,λo v ho hv hp=>?_⟩;by_cases e:v=k
 ·subst e;exact hr.least o ho hp
 have:=XL hp.sublist ho.nodup;exact absurd rfl ((WN.1 this).2.2 _ (hk v (by omega)) _ (by simp))
theorem KE{n:Nat}{c o:List Int}(ho:Ord n o)(hp:c <+: o)(hl:c.length<n):∃ v:Nat,v<n/\c++[(v:Int)] <+: o:=by
 obtain⟨t,rfl⟩:=hp;cases t with
 |nil=>have:=EO ho;simp at this;omega
 |cons x t=>have hx:=(ho.mem x).1 (by simp);refine⟨x.toNat,by omega,⟨t,?_⟩⟩;rw[U9 hx.1];simp
theorem LstTo.lst{n:Nat}{A:List Arc}{c:List Int}{s:List Int}(h:LstTo n A c n s)(hl:c.length<n):Lst n A c s:=by obtain⟨o,v,h1,_,⟨t,ht⟩,h3⟩:=h.some;refine⟨⟨o,h1,⟨(v:Int)::t,by rw[<- ht];simp⟩,h3⟩,λo ho hp=>?_⟩;obtain⟨v,hv,hq⟩:=KE ho hp hl;exact h.least o v ho hv hq
theorem R5(a b:List Int)(ha:a.length<=1000):nf (a,b,())=some (jZ a b,()):=by
 simp only[nf];by_cases h:a.length=b.length
 ·rw[gW (by omega)];simp only[U4];unfold jZ;rw[if_pos h];have key:∀ m i,i+m=a.length->bp (a,b,(i:Int),())=some (cond (uH (a.drop i) (b.drop i)) (.inl (true,())) (.inr (.inl ())))\/bp (a,b,(i:Int),())=some (.inl (false,()))/\uH (a.drop i) (b.drop i)=false:=by
   intro m;induction m with
   |zero=>
    intro i hi;left;unfold bp;rw[ce (r:=.inr (.inl ())) (by
     simp only[fJ];rw[aj (by omega)];rfl),Xi (by omega),Xi (by omega)]
    rfl
   |succ m ih=>
    intro i hi;have h1:i<a.length:=by omega
    have h2:i<b.length:=by omega
    rw[VQ h1,VQ h2];by_cases e:a[i]=b[i]
    ·unfold bp;rw[gq (t:=(a,b,((i+1:Nat):Int),())) (by
      simp only[fJ];rw[aq (by omega),U3,ac,ac,bx h1,bx h2];simp only[bv];rw[gW e,aR (by omega)];rfl)]
     have:=ih (i+1) (by omega);unfold bp at this;unfold uH;rw[if_pos e];exact this
    have hd:bp (a,b,(i:Int),())=some (.inl (ltI a[i] b[i],())):=by
     unfold bp;exact ce (by
      simp only[fJ];rw[aq (by omega),U3,ac,ac,bx h1,bx h2];simp only[bv];rw[wc e];rfl)
    unfold uH;rw[if_neg e,hd];unfold ltI;cases decide (a[i]<b[i])with
    |true=>exact .inl rfl
    |false=>exact .inr ⟨rfl,rfl⟩
  have:=key a.length 0 (by omega);rw[WO,WO]at this;rcases this with h|⟨h,h2⟩
  ·rw[show bp (a,b,0,())=_ from h];cases uH a b<;>rfl
  rw[show bp (a,b,0,())=_ from h,h2];rfl
 rw[wc (by omega)];simp only[U3];unfold jZ ltI;rw[if_neg h];congr 2;exact decide_eq_decide.2 (by omega)
theorem PY{l:List Int}(hn:l.Nodup){i:Nat}(hi:i<l.length):l.idxOf l[i]=i:=by exact hn.idxOf_getElem i hi
theorem IW{n:Nat}{A:List Arc}(hA:fY n A)(hn:n<=1000)(hl:A.length<=1000){o:List Int}(ho:Ord n o):ip (((n:Int),A,()),o,())=some (bwd o 0 A,()):=by
 have hol:=EO ho;simp only[ip];rw[fR (B5 _) (by omega)];simp only[bv]
 obtain⟨r,h1,at',hat,hp,rfl⟩:=aH (f:=fm) (λx=>∃(i:Nat) (at':List Int),x=((n:Int),A,at',o,(i:Int),())/\i<=o.length/\at'.length=n/\∀ j (h:j<i) (h2:j<o.length),at'[o[j].toNat]?=some (j:Int)) (λx=>o.length-x.2.2.2.2.1.toNat)
  (λr=>∃ at':List Int,at'.length=n/\(∀ j (h2:j<o.length),at'[o[j].toNat]?=some (j:Int))/\r=.inl ((n:Int),A,at',())) (by
  rintro x ⟨i,at',rfl,hi,hat,hp⟩;simp only[fm];by_cases h:i<o.length
  ·have hx:=(ho.mem _).1 (A2 h);rw[aq (by omega),U3,ac,bx h];simp only[bv];rw[yr hx.1 (by omega)];simp only[bv];rw[bx (show o[i].toNat<at'.length by omega),aR (by omega)];refine .inl ⟨_,rfl,⟨i+1,_,rfl,h,by rw[L8,hat],λj hj h2=>?_⟩,by show o.length-((i+1:Nat):Int).toNat<o.length-(i:Int).toNat;omega⟩;by_cases e:j=i
   ·subst e;rw[VB (by omega)]
   have hy:=(ho.mem _).1 (A2 h2);rw[Vo (λe2=>e ?_)]
   ·exact hp j (by omega) h2
   have e3:o[i]=o[j]:=by omega
   exact((XD ho.nodup).1 e3).symm
  rw[aj (by omega)];exact .inr ⟨_,rfl,at',hat,λj h2=>hp j (by omega) h2,rfl⟩) ((n:Int),A,A7 n (aL I),o,0,()) ⟨0,_,rfl,L4 _,L5,λj hj=>by omega⟩
 rw[show jK ((n:Int),A,A7 n (aL I),o,0,())=_ from h1];simp only[bv,B7];have hplace:∀ x:Int,0<=x->x<n->at'[x.toNat]?=some (pos o x:Int):=by intro x h0 h2;have hm:=(ho.mem x).2 ⟨h0,h2⟩;obtain⟨j,hj,e⟩:=VJ hm;have:=hp j hj;rw[e]at this;rw[this];congr 2;unfold pos;rw[<- e,PY ho.nodup hj]
 have hb:∀(l:List Arc) (i:Nat),bwd o i l=bwd o i l:=λ_ _=>rfl;have snoc:∀(l:List Arc) (i:Nat) (a:Arc),bwd o i (l++[a])=bwd o i l++(if pos o a.2.1<pos o a.1 then[((i+l.length:Nat):Int)]else[]):=by
  intro l;induction l with
  |nil=>intro i a;simp[bwd]
  |cons b l ih=>intro i a;show(if pos o b.2.1<pos o b.1 then(i:Int)::bwd o (i+1) (l++[a])else bwd o (i+1) (l++[a]))=(if pos o b.2.1<pos o b.1 then(i:Int)::bwd o (i+1) l else bwd o (i+1) l)++_;rw[ih,show i+1+l.length=i+(b::l).length by rw[B2];omega];split<;>rfl
 have blen:∀(l:List Arc) (i:Nat),(bwd o i l).length<=l.length:=by
  intro l;induction l with
  |nil=>intro i;exact B5 _
  |cons b l ih=>intro i;have:=ih (i+1);show(if pos o b.2.1<pos o b.1 then(i:Int)::bwd o (i+1) l else bwd o (i+1) l).length<=_;split<;>simp<;>omega
 obtain⟨r,h2,rfl⟩:=aH (f:=fo) (λx=>∃ i:Nat,i<=A.length/\x=((n:Int),A,at',bwd o 0 (A.take i),(i:Int),())) (λx=>A.length-x.2.2.2.2.1.toNat)
  (λr=>r=.inl (bwd o 0 A,())) (by
  rintro x ⟨i,hi,rfl⟩;simp only[fo];by_cases h:i<A.length
  ·obtain⟨q1,q2,q3,q4⟩:=hA _ (A2 h);rw[aq (by omega),U3,ac,bx h];simp only[bv];rw[yr q1 (by omega),yr q3 (by omega)];simp only[bv];rw[hplace _ q1 q2,hplace _ q3 q4];simp only[bv];have hlt:=blen (A.take i) 0;have hm:A.length-((i+1:Nat):Int).toNat<A.length-(i:Int).toNat:=by omega
   rw[Vd]at hlt;rw[aR (by omega),bw (by simp only[B2,B8];omega)];have hs:=snoc (A.take i) 0 A[i];rw[<- Vf h,Vd,Nat.min_eq_left hi,Nat.zero_add]at hs;by_cases e:pos o A[i].2.1<pos o A[i].1
   ·rw[pf (by omega)];rw[if_pos e]at hs;exact .inl ⟨_,rfl,⟨i+1,h,by rw[hs]⟩,hm⟩
   rw[eM (by omega)];rw[if_neg e,Vw]at hs;exact .inl ⟨_,rfl,⟨i+1,h,by rw[hs]⟩,hm⟩
  have:i=A.length:=by omega
  subst this;rw[aj (by omega),V6];exact .inr ⟨_,rfl,rfl⟩) ((n:Int),A,at',[],0,()) ⟨0,L4 _,rfl⟩
 rw[show jG ((n:Int),A,at',[],0,())=_ from h2];rfl
theorem LL(o:List Int):∀(l:List Arc) (i:Nat),(bwd o i l).length<=l.length:=by
 intro l;induction l with
 |nil=>intro i;exact B5 _
 |cons b l ih=>intro i;have:=ih (i+1);show(if pos o b.2.1<pos o b.1 then(i:Int)::bwd o (i+1) l else bwd o (i+1) l).length<=_;split<;>simp<;>omega
theorem P1(gg:Q10->Option Q1)(n:Int)(A:List Arc)(tn c:List Int)(found:Bool)(v:Int)(hc:c.length<=1000):
  Lc gg (n,A,tn,c,found,v,false,0,())=some (.inl (n,A,tn,c,found,v,c.any λx=>eqI x v,())):=by
 have:=eu (B:=Ft gg) c (λs x=>s||eqI x v) false (λ_ _=>True) (λs i=>(n,A,tn,c,found,v,s,(i:Int),())) (λs=>.inl (n,A,tn,c,found,v,s,())) trivial (λ_ _ _ _ _=>trivial) (by
  intro i x s hx _;have hi:=(tz.1 hx).1;simp only[Ft];rw[aq (by omega),aR (by omega),ac,hx];simp only[U3,bv];cases s<;>rfl) (by
  intro s _;simp only[Ft];rw[aj (by omega)];rfl)
 have hf:∀(l:List Int) (s:Bool),l.foldl (λs x=>s||eqI x v) s=(s||l.any λx=>eqI x v):=by
  intro l;induction l with
  |nil=>intro s;simp
  |cons x l ih=>intro s;rw[VU,ih,List.any_cons,Bool.or_assoc]
 rw[hf,Wp]at this;exact this
theorem Jy{n:Nat}{A:List Arc}(hA:fY n A)(hn:n<=1000)(hl:A.length<=1000)(gg:Q10->Option Q1){c:List Int}(hc:Beg n c)
  (hg:∀ v:Nat,v<n->(v:Int)∉c->∃ r,gg (((n:Int),A,()),c++[(v:Int)],())=some (r,())/\Lst n A (c++[(v:Int)]) r):∃ s,QS gg (((n:Int),A,()),c,())=some (s,())/\Lst n A c s:=by
 have hcl:=hc.le;simp only[QS];by_cases h:c.length=n
 ·have ho:=hc.ord h;rw[tg (by omega),IW hA hn hl ho];refine⟨_,rfl,⟨c,ho,List.prefix_rfl,rfl⟩,λo h1 h2=>?_⟩;have:c=o:=h2.eq_of_length (by rw[h,EO h1]);rw[<- this];exact CT _
 rw[qe (by omega)];simp only[U4];obtain⟨r,h1,s,rfl,h3⟩:=aH (f:=MM gg) (λx=>∃(v:Nat) (tn:List Int) (found:Bool),v<=n/\x=((n:Int),A,tn,c,found,(v:Int),())/\(found=true->LstTo n A c v tn)/\(found=false->∀ w:Nat,w<v->(w:Int)∈c)) (λx=>n-x.2.2.2.2.2.1.toNat)
  (λr=>∃ s,r=.inl (s,())/\Lst n A c s) (by
  rintro x ⟨v,tn,found,hv,rfl,hf,hnf⟩;simp only[MM];by_cases hvn:v<n
  ·have hm:n-((v+1:Nat):Int).toNat<n-(v:Int).toNat:=by omega
   rw[aq (by omega),U3,P1 gg _ _ _ _ _ _ (by omega)];simp only[bv,B7];rw[aR (by omega)];left;cases hu:c.any λx=>eqI x (v:Int)with
   |true=>
    obtain⟨x,hx,hxe⟩:=List.any_eq_true.1 hu;have hxv:(v:Int)∈c:=by rw[<- Nw hxe];exact hx
    refine⟨_,rfl,⟨v+1,tn,found,hvn,rfl,λhh=>(hf hh).pass hxv,λhh w hw=>?_⟩,hm⟩;by_cases e:w=v
    ·rw[e];exact hxv
    exact hnf hh w (by omega)
   |false=>
    have hxv:(v:Int)∉c:=λhm=>by rw[Vj]at hu;exact hu _ hm (Pl _)
    obtain⟨r,r1,r2⟩:=hg v hvn hxv;rw[bw (by simp only[B8];omega)];simp only[bv,V4];rw[bw (by simp only[B2,B8];omega)];simp only[bv,r1,Bool.not_false,U3];cases found with
    |false=>exact⟨_,rfl,⟨v+1,r,true,hvn,rfl,λ_=>LstTo.first (hnf rfl) r2,λhh=>by cases hh⟩,hm⟩
    |true=>
     have hrl:r.length<=1000:=by obtain⟨o,_,_,e⟩:=r2.some;have:=LL o A 0;rw[<- e]at this;omega
     simp only[U8,U4];rw[R5 r tn hrl];have:=(hf rfl).next r2;simp only[bv];cases hls:jZ r tn with
     |true=>rw[hls]at this;exact⟨_,rfl,⟨v+1,r,true,hvn,rfl,λ_=>this,λhh=>by cases hh⟩,hm⟩
     |false=>rw[hls]at this;exact⟨_,rfl,⟨v+1,tn,true,hvn,rfl,λ_=>this,λhh=>by cases hh⟩,hm⟩
  have:v=n:=by omega
  subst this;rw[aj (by omega)];refine .inr ⟨_,rfl,tn,rfl,?_⟩;cases found with
  |true=>exact(hf rfl).lst (by omega)
  |false=>
   have h1:=(KC v).length_le_of_subset (l₂:=c) λx hx=>by obtain⟨q1,q2⟩:=vu.1 hx;have:=hnf rfl x.toNat (by omega);rwa[U9 q1]at this
   rw[wB]at h1;omega) ((n:Int),A,[],c,false,0,()) ⟨0,[],false,L4 _,rfl,(λhh=>by cases hh),λ_ w hw=>by omega⟩
 rw[show PT gg ((n:Int),A,[],c,false,0,())=_ from h1];exact⟨s,rfl,h3⟩
theorem LY{n:Nat}{A:List Arc}(hA:fY n A)(hn:n<=1000)(hl:A.length<=1000):∀(k:Nat) (c:List Int),Beg n c->n<c.length+k->∃ s,OP k (((n:Int),A,()),c,())=some (s,())/\Lst n A c s:=by
 intro k;induction k with
 |zero=>intro c hc h;have:=hc.le;omega
 |succ k ih=>intro c hc h;show ∃ s,QS (OP k) (((n:Int),A,()),c,())=some (s,())/\Lst n A c s;refine Jy hA hn hl _ hc λv hv hvc=>?_;exact ih _ (hc.snoc (by omega) hvc) (by simp only[List.length_append,B2,B8];omega)
theorem Nx{n:Nat}(hn:n<=64){A:List ArcD}(hA:fY n A)(hl:A.length<=256):iP (((n:Int),A,()),())=some (true,()):=by
 have:=gl (B:=eU) A (λi=>((n:Int),A,(i:Int),())) (λ_=>false) (.inl (false,())) (.inr (.inl ())) (by
  intro i hi;obtain⟨q1,q2,q3,q4⟩:=hA _ (A2 hi);simp only[eU];rw[aq (by omega),U3,ac,bx hi,aR (by omega)];simp only[bv];rw[aj (by omega),aj (by omega),kb (by omega),kb (by omega)];rfl) (by
  simp only[eU];rw[aj (by omega)];rfl)
 simp only[iP];rw[aj (by omega),eM (by omega),eM (by omega)];simp only[U4];rw[show mR ((n:Int),A,0,())=_ from this,Vj.2 (λ_ _=>by simp)];rfl
theorem ON{n:Nat}(hn:n<=7){A:List ArcD}(hA:fY n A)(hl:A.length<=8):∃ s,lT (((n:Int),A,()),())=some (s,0,())/\IsLeast n A s:=by
 obtain⟨s,h1,h2⟩:=LY hA (by omega) (by omega) 10 [] ⟨.nil,λx hx=>by cases hx⟩ (by simp;omega);refine⟨s,?_,⟨?_,λo ho=>h2.least o ho (List.nil_prefix)⟩⟩
 ·simp only[lT,Nx (by omega:n<=64) hA (by omega),bv,U8,U4];rw[eM (by omega)];simp only[U4];rw[show Zd (((n:Int),A,()),[],())=_ from h1];rfl
 obtain⟨o,h1,_,h3⟩:=h2.some;exact⟨o,h1,h3⟩
def swD(a:ArcD):ArcD:=(a.2.1,a.1,())
def uB(A:List ArcD)(S:List Int)(B:List ArcD):Prop:=B.length=A.length/\∀ k:Nat,B[k]?=if(k:Int)∈S then(A[k]?).map swD else A[k]?
theorem Ko{A B C:List ArcD}{S:List Int}(h1:uB A S B)(h2:uB A S C):B=C:=List.ext_getElem? λk=>by rw[h1.2,h2.2]
theorem DQ{A B:List ArcD}{S:List Int}{x:Nat}(h:uB A S B)(hx:x<A.length)(hn:(x:Int)∉S):B[x]?=A[x]?/\uB A (S++[(x:Int)]) (B.set x (swD A[x])):=by
 refine⟨by rw[h.2,if_neg hn],by rw[L8,h.1],λk=>?_⟩;by_cases e:k=x
 ·subst e;rw[VB (by rw[h.1];exact hx),if_pos (by simp),bx hx];rfl
 rw[Vo (Ne.symm e),h.2];have:((k:Int)∈S++[(x:Int)])↔(k:Int)∈S:=by simp;omega
 simp only[this]
theorem Mu{S:List Int}(h:S.Pairwise (· < ·)):S.Nodup:=h.imp fun {a b} hab e=>by omega
theorem NL{S:List Int}{m:Nat}(hS:S.Nodup)(hr:∀ x∈S,0<=x/\x<m)(hl:S.length<=1000):pv (S,(m:Int),())=some (0,()):=by
 have:=gl (B:=iL) S (λi=>(S,(m:Int),S,(S.length:Int),(i:Int),())) (λ_=>false) (.inl (6,())) (.inr (.inl ())) (by
  intro i hi;obtain⟨q1,q2⟩:=hr _ (A2 hi);simp only[iL];rw[aq (by omega),U3,ac,bx hi,aR (by omega)];simp only[bv];rw[aj q1,kb q2];simp only[ml,U4];rw[mc (by omega),ac,bx hi];simp only[bv];rw[FT _ _ (by rw[Vd];omega)];have:((S.take i).any λm=>eqI S[i] m)=false:=by rw[Vj];intro x hx he;have e:=Nw he;obtain⟨j,hj,e2⟩:=VJ hx;rw[Vd]at hj;rw[Wo]at e2;rw[<- e2]at e;have:=(XD hS).1 e;omega
  rw[this];rfl) (by
  simp only[iL];rw[aj (by omega)];rfl)
 simp only[pv];rw[show pu (S,(m:Int),S,(S.length:Int),0,())=_ from this,Vj.2 (λ_ _=>by simp)];rfl
theorem OY(z:List ArcD)(hz:z.length<=1000):mT (z,())=some (z,()):=by
 simp only[mT];rw[bw (by simp only[B8];omega)];cases z with
 |nil=>simp[G6]
 |cons x z=>rfl
theorem vM{S:List Int}(hS:S.Nodup){i:Nat}(hi:i<S.length):S[i]∉S.take i:=by intro hx;obtain⟨j,hj,e2⟩:=VJ hx;rw[Vd]at hj;rw[Wo]at e2;have:=(XD hS).1 e2;omega
theorem OG{n:Nat}(hn:n<=64){A:List ArcD}(hA:fY n A)(hl:A.length<=256){S:List Int}(hS:S.Nodup)(hr:∀ x∈S,0<=x/\x<A.length)(hsl:S.length<=1000):∃ B,pi (((n:Int),A,()),S,())=some (((n:Int),B,()),0,())/\uB A S B:=by
 simp only[pi,Ej hn hA hl,bv,U8,U4,NL hS hr hsl];rw[gW rfl,OY A (by omega)];simp only[U4,bv];obtain⟨r,h1,B,h2,rfl⟩:=aH (f:=om) (λx=>∃(i:Nat) (B:List ArcD),i<=S.length/\x=((n:Int),A,0,(n:Int),B,S,(S.length:Int),(i:Int),())/\uB A (S.take i) B) (λx=>S.length-x.2.2.2.2.2.2.2.1.toNat)
  (λr=>∃ B,uB A S B/\r=.inl (0,(n:Int),B,())) (by
  rintro x ⟨i,B,hi,rfl,hB⟩;simp only[om];by_cases h:i<S.length
  ·obtain⟨q1,q2⟩:=hr _ (A2 h);have hx:S[i].toNat<A.length:=by omega
   have hc:((S[i].toNat:Nat):Int)=S[i]:=U9 q1;obtain⟨b1,b2⟩:=DQ hB hx (by rw[hc];exact vM hS h);rw[aq (by omega),U3,ac,bx h];simp only[bv];rw[nM q1,bx hx,yr q1 (by rw[hB.1];omega)];simp only[bv];rw[b1,bx hx,aR (by omega)];refine .inl ⟨_,rfl,⟨i+1,_,h,rfl,?_⟩,by show S.length-((i+1:Nat):Int).toNat<S.length-(i:Int).toNat;omega⟩;rw[Vf h];rw[hc]at b2;exact b2
  have:i=S.length:=by omega
  subst this;rw[aj (by omega)];rw[V6]at hB;exact .inr ⟨_,rfl,B,hB,rfl⟩) ((n:Int),A,0,(n:Int),A,S,(S.length:Int),0,()) ⟨0,A,L4 _,rfl,rfl,λk=>by simp⟩
 rw[show sI ((n:Int),A,0,(n:Int),A,S,(S.length:Int),0,())=_ from h1];exact⟨B,rfl,h2⟩
theorem PU{n:Nat}{A:List ArcD}(hl:A.length<=256){S:List Int}(hS:S.Nodup)(hr:∀ x∈S,0<=x/\x<A.length)(hsl:S.length<=1000):∃ B,jF (((n:Int),A,()),S,())=some (((n:Int),B,()),())/\uB A S B:=by
 simp only[jF];rw[bw (by simp only[B8];omega)];simp only[bv,V4];obtain⟨r,h1,B,h2,rfl⟩:=aH (f:=jm) (λx=>∃(i:Nat) (B:List ArcD),i<=S.length/\x=(0,(n:Int),B,S,(i:Int),())/\uB A (S.take i) B) (λx=>S.length-x.2.2.2.2.1.toNat)
  (λr=>∃ B,uB A S B/\r=.inl (0,(n:Int),B,())) (by
  rintro x ⟨i,B,hi,rfl,hB⟩;simp only[jm];by_cases h:i<S.length
  ·obtain⟨q1,q2⟩:=hr _ (A2 h);have hx:S[i].toNat<A.length:=by omega
   have hc:((S[i].toNat:Nat):Int)=S[i]:=U9 q1;obtain⟨b1,b2⟩:=DQ hB hx (by rw[hc];exact vM hS h);rw[aq (by omega),U3,ac,bx h];simp only[bv];rw[yr q1 (by rw[hB.1];omega)];simp only[bv];rw[b1,bx hx,aR (by omega)];refine .inl ⟨_,rfl,⟨i+1,_,h,rfl,?_⟩,by show S.length-((i+1:Nat):Int).toNat<S.length-(i:Int).toNat;omega⟩;rw[Vf h];rw[hc]at b2;exact b2
  have:i=S.length:=by omega
  subst this;rw[aj (by omega)];rw[V6]at hB;exact .inr ⟨_,rfl,B,hB,rfl⟩) (0,(n:Int),A,S,0,()) ⟨0,A,L4 _,rfl,rfl,λk=>by simp⟩
 rw[show nm (0,(n:Int),A,S,0,())=_ from h1];exact⟨B,rfl,h2⟩
theorem Mi{n:Nat}(hn:n<=7){A:List ArcD}(hA:fY n A)(hl:A.length<=8):∃ S B o,sj (((n:Int),A,()),())=some (S,((n:Int),B,()),())/\lP (((n:Int),A,()),())=some (S,((n:Int),B,()),())/\
  B.length=A.length/\fY n B/\Ord n o/\∀ a∈B,a.1≠a.2.1->pos o a.1<pos o a.2.1:=by
 obtain⟨S,s1,s2,s3,s4,s5⟩:=LE hn hA hl;obtain⟨S',t1,t2⟩:=ON hn hA hl;have e:=t2.uniq s2;subst e;have hnd:=Mu s4;obtain⟨B,b1,b2⟩:=OG (show n<=64 by omega) hA (by omega) hnd s5 (by omega);obtain⟨B',c1,c2⟩:=PU (n:=n) (show A.length<=256 by omega) hnd s5 (by omega);have e:=Ko c2 b2;subst e;obtain⟨o,o1,o2⟩:=s2.some;refine⟨S',B',o,?_,?_,b2.1,λa ha=>?_,o1,λa ha hne=>?_⟩
 ·simp only[sj,s1,bv];rw[gW rfl,b1];simp only[U4,bv];rw[gW rfl];rfl
 ·simp only[lP,Nx (show n<=64 by omega) hA (by omega),t1,bv,U8,U4];rw[gW rfl,c1];rfl
 ·obtain⟨k,hk,e⟩:=VJ ha;have h1:=b2.2 k;rw[bx hk,e]at h1;have hk':k<A.length:=by rw[<- b2.1];exact hk
  rw[bx hk']at h1;obtain⟨q1,q2,q3,q4⟩:=hA _ (A2 hk');split at h1
  ·cases h1;exact⟨q3,q4,q1,q2⟩
  cases h1;exact⟨q1,q2,q3,q4⟩
 obtain⟨k,hk,e⟩:=VJ ha;have h1:=b2.2 k;rw[bx hk,e]at h1;have hk':k<A.length:=by rw[<- b2.1];exact hk
 have hx:=bx hk';rw[hx]at h1;obtain⟨q1,q2,q3,q4⟩:=hA _ (A2 hk');have hb:=Cyc.bwd_at (o:=o) hx;rw[<- o2]at hb;split at h1
 ·rename_i hm;cases h1;exact hb.1 hm
 rename_i hm;cases h1;have h2:¬pos o A[k].2.1<pos o A[k].1:=λhh=>hm (hb.2 hh);have:=Cyc.pos_ne o1 ⟨q1,q2⟩ ⟨q3,q4⟩ hne;omega
end Go.Vm

