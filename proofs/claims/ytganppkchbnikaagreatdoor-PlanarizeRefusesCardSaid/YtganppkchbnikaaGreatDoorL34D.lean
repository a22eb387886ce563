/-
 A visit of the depth-first search: it ends, and its blocks have no cut vertex.
-/
import Derived.Test.YtganppkchbnikaaGreatDoorL34C
open List renaming mem_append->A4,mem_cons->A8,mem_singleton->B4,length_cons->B6,append_assoc->Jm,getElem?_set_ne->Js,getElem?_set_self->Jx,length_append->JE,mem_cons_self->JH,range->JZ,flatten_cons->KL,filter_cons->Lf,flatten_append->Lu,perm_middle->Mm,nodup_cons->Mt
set_option linter.unusedVariables false
set_option linter.unusedSimpArgs false
namespace Go.Vm
set_option maxRecDepth 100000
attribute [local irreducible] aa
structure NumT (N:Nat)(num:List Int)(f:Nat->Nat):Prop where
 len:num.length=N
 at':∀ u,u<N->num[u]?=some (f u:Int)
 out:∀ u,N<=u->f u=0
def upd(f:Nat->Nat)(v k u:Nat):Nat:=if u=v then k else f u
theorem NumT.set{N:Nat}{num:List Int}{f:Nat->Nat}(h:NumT N num f){v k:Nat}(hv:v<N):NumT N (num.set v (k:Int)) (upd f v k):=by
 refine⟨by simp[h.len],λu hu=>?_,λu hu=>?_⟩
 ·unfold upd;by_cases e:u=v
  ·subst e;rw[if_pos rfl,Jx (by rw[h.len];exact hv)]
  rw[if_neg e,Js (Ne.symm e)];exact h.at' u hu
 unfold upd;rw[if_neg (by omega)];exact h.out u hu
theorem NumT.lt{N:Nat}{num:List Int}{f:Nat->Nat}(h:NumT N num f){u:Nat}(hu:f u≠0):u<N:=by
 rcases Nat.lt_or_ge u N with h1|h1
 ·exact h1
 exact absurd (h.out u h1) hu
def unv(N:Nat)(f:Nat->Nat):Nat:=((JZ N).filter λu=>f u==0).length
theorem zW{N:Nat}{f g:Nat->Nat}(h:∀ u,f u≠0->g u≠0):unv N g<=unv N f:=by
 unfold unv;induction (JZ N)with
 |nil=>simp
 |cons a l ih=>
  by_cases hg:g a=0
  ·have hf:f a=0:=by
    by_cases hf:f a=0
    ·exact hf
    exact absurd hg (h a hf)
   simp[hg,hf];exact ih
  by_cases hf:f a=0
  ·simp[hg,hf];omega
  simp[hg,hf];exact ih
theorem sK{N:Nat}{f:Nat->Nat}{v k:Nat}(hv:v<N)(h0:f v=0)(hk:k≠0):unv N (upd f v k)+1<=unv N f:=by
 have hs:(upd f v k v==0)=false:=by simp[upd,hk]
 have hs0:(f v==0)=true:=by simp[h0]
 have ho:∀ b,b≠v->(upd f v k b==0)=(f b==0):=λb e=>by simp[upd,e]
 have le:∀ l:List Nat,(l.filter λu=>upd f v k u==0).length<=(l.filter λu=>f u==0).length:=by
  intro l;induction l with
  |nil=>simp
  |cons b l ih=>
   rw[Lf,Lf];by_cases e:b=v
   ·subst e;rw[hs,hs0,if_neg (by simp),if_pos rfl,B6];omega
   rw[ho b e];split
   ·rw[B6,B6];omega
   exact ih
 have gen:∀ l:List Nat,v∈l->(l.filter λu=>upd f v k u==0).length+1<=(l.filter λu=>f u==0).length:=by
  intro l;induction l with
  |nil=>intro h;cases h
  |cons a l ih=>
   intro hm;rw[Lf,Lf];by_cases e:a=v
   ·subst e;have:=le l;rw[hs,hs0,if_neg (by simp),if_pos rfl,B6];omega
   have:=ih ((A8.1 hm).resolve_left (Ne.symm e));rw[ho a e];split
   ·rw[B6,B6];omega
   exact this
 exact gen _ (List.mem_range.2 hv)
theorem Firm.perm{ε:Type}{J:ε->Nat->Nat->Prop}{B C:List ε}(h:Firm J B)(p:∀ e,e∈C↔e∈B):Firm J C:=λa e u z f x y he hu hf hx hua hxa=>
 (h a e u z f x y ((p e).1 he) hu ((p f).1 hf) hx hua hxa).mono (λe he=>(p e).2 he) λ_ h=>h
structure Vis (N:Nat)(E:List (Int×Int×Unit))(anc:Nat->Prop)(via:Int)(f:Nat->Nat)(cnt:Nat)(st:List Int)(bl:List (List Int)):Prop where
 range:∀ u,f u<=cnt
 inj:∀ u u',f u=f u'->f u≠0->u=u'
 bound:cnt+unv N f<=N
 fin:∀ u,f u≠0->¬anc u->∀ e w,Jn E e u w->f w≠0
 ancv:∀ u,anc u->f u≠0
 psh:∀ e,e∈st++bl.flatten->(∃ u w,Jn E e u w)/\(e≠via->∀ u w,Jn E e u w->f u≠0)
 nod:(st++bl.flatten).Nodup
 blk:∀ B∈bl,B≠[]/\Firm (Jn E) B/\B.Pairwise (·<=·)
section
variable {N:Nat}{E:List (Int×Int×Unit)}{A:List (List Int)}{anc:Nat->Prop}{via:Int}{f:Nat->Nat}{cnt:Nat}{st:List Int}{bl:List (List Int)}
theorem Vis.len(h:Vis N E anc via f cnt st bl)(hE:E.length<=32768):st.length+bl.length<=32768:=by
 have h1:(st++bl.flatten).length<=E.length:=gx E.length h.nod λe he=>by obtain⟨u,w,hj⟩:=(h.psh e he).1;exact hj.lt
 have h2:∀ bl:List (List Int),(∀ B∈bl,B≠[])->bl.length<=bl.flatten.length:=by
  intro bl;induction bl with
  |nil=>simp
  |cons B bl ih=>intro hb;have h3:=ih λC hC=>hb C (List.mem_cons_of_mem _ hC);have h4:0<B.length:=List.length_pos_iff.2 (hb B (JH ..));simp only[B6,KL,JE];omega
 have h3:=h2 bl λB hB=>(h.blk B hB).1;rw[JE]at h1;omega
structure Out (N:Nat)(E:List (Int×Int×Unit))(anc:Nat->Prop)(v:Nat)(f:Nat->Nat)(cnt:Nat)(low st:List Int)(bl:List (List Int))(f':Nat->Nat)(low':List Int)(cnt':Nat)(T:List Int)(Bs:List (List Int)):Prop where
 keep:∀ u,f u≠0->f' u=f u
 low:∀ u,f u≠0->low'[u]?=low[u]?
 new:∀ u,f u=0->f' u=0\/cnt<f' u
 vis:Vis N E anc (-1) f' cnt' (st++T) (bl++Bs)
 res:∃ lw:Nat,low'[v]?=some (lw:Int)/\Rst (Jn E) f' v cnt' lw anc T
 psh:∀ e,e∈T++Bs.flatten->∃ u y,Jn E e u y/\f u=0/\f' u≠0
 vnew:f' v=cnt+1
def oX(N:Nat)(E:List (Int×Int×Unit))(A:List (List Int))(gg:SrD×Int×Int×Unit->Option (SrD×Unit))(n:Nat):Prop:=
 ∀(f:Nat->Nat) (num low:List Int) (cnt:Nat) (st:List Int) (bl:List (List Int)) (v:Nat) (via:Int) (anc:Nat->Prop),NumT N num f->low.length=N->Vis N E anc via f cnt st bl->v<N->f v=0->(∀ u w,Jn E via u w->u=v\/f u≠0)->unv N f<=n ->
  ∃ f' num' low' cnt' T Bs,gg (((E,A,()),num,low,(cnt:Int),st,bl,()),(v:Int),via,())=some (((E,A,()),num',low',((cnt':Nat):Int),st++T,bl++Bs,()),())/\NumT N num' f'/\low'.length=N/\Out N E anc v f cnt low st bl f' low' cnt' T Bs
structure Lp (N:Nat)(E:List (Int×Int×Unit))(anc:Nat->Prop)(v:Nat)(f:Nat->Nat)(cnt:Nat)(low st:List Int)(bl:List (List Int))(l:List Int)(i:Nat)(fi:Nat->Nat)(numi lowi:List Int)(ci:Nat)(Ti:List Int)(Bi:List (List Int)):Prop where
 num:NumT N numi fi
 lowl:lowi.length=N
 k1:∀ u,f u≠0->fi u=f u
 k2:∀ u,f u≠0->lowi[u]?=low[u]?
 k3:∀ u,f u=0->fi u=0\/cnt<fi u
 k4:fi v=cnt+1
 vis:Vis N E (λz=>z=v\/anc z) (-1) fi ci (st++Ti) (bl++Bi)
 res:∃ lw:Nat,lowi[v]?=some (lw:Int)/\Rst (Jn E) fi v ci lw anc Ti
 done:∀ j,j<i->∀ e,l[j]?=some e->∀ w,Jn E e v w->fi w≠0
 src:∀ e,e∈Ti++Bi.flatten->(∃ j,j<i/\l[j]?=some e)\/∃ u y,Jn E e u y/\fi v<fi u
structure Hyp (N:Nat)(E:List (Int×Int×Unit))(A:List (List Int))(anc:Nat->Prop)(via:Int)(v:Nat)(f:Nat->Nat)(cnt:Nat)(st:List Int)(bl:List (List Int))(l:List Int)(n:Nat):Prop where
 G:Gph N E A
 vis:Vis N E anc via f cnt st bl
 hv:v<N
 f0:f v=0
 hvia:∀ u w,Jn E via u w->u=v\/f u≠0
 hunv:unv N f<=n+1
 nod:l.Nodup
 mem:∀ e,e∈l↔∃ w,Jn E e v w
section
variable {v n i ci:Nat}{low l numi lowi Ti:List Int}{fi:Nat->Nat}{Bi:List (List Int)}{gg:SrD×Int×Int×Unit->Option (SrD×Unit)}
theorem Hyp.llen(H:Hyp N E A anc via v f cnt st bl l n):l.length<9000000:=by
 have:=gx E.length H.nod λe he=>by obtain⟨w,hw⟩:=(H.mem e).1 he;exact hw.lt
 have:=H.G.m;omega
theorem Lp.skip(L:Lp N E anc v f cnt low st bl l i fi numi lowi ci Ti Bi){e:Int}{w:Nat}(he:l[i]?=some e)(hj:Jn E e v w)(hw:fi w≠0):Lp N E anc v f cnt low st bl l (i+1) fi numi lowi ci Ti Bi:=by
 refine⟨L.num,L.lowl,L.k1,L.k2,L.k3,L.k4,L.vis,L.res,λj hj' e' he' w' hw'=>?_,λe' he'=>(L.src e' he').imp (λ⟨j,h1,h2⟩=>⟨j,by omega,h2⟩) id⟩;by_cases hji:j=i
 ·subst hji;rw[he]at he';cases he';rcases hj.one hw' with⟨_,rfl⟩|⟨rfl,rfl⟩
  ·exact hw
  rw[L.k4];omega
 exact L.done j (by omega) e' he' w' hw'
theorem Lp.step (H:Hyp N E A anc via v f cnt st bl l n)(IH:oX N E A gg n)(hi:i < l.length)(L:Lp N E anc v f cnt low st bl l i fi numi lowi ci Ti Bi) :
  ∃ fi' numi' lowi' ci' Ti' Bi',fk gg (stV E A v via l ci numi lowi (st++Ti) (bl++Bi) i)=some (.inl (stV E A v via l ((ci':Nat):Int) numi' lowi' (st++Ti') (bl++Bi') (i+1)))/\Lp N E anc v f cnt low st bl l (i+1) fi' numi' lowi' ci' Ti' Bi':=by
 have hle:l[i]?=some l[i]:=List.getElem?_eq_getElem hi;generalize l[i]=e at hle;obtain⟨w,hj⟩:=(H.mem e).1 (List.mem_of_getElem? hle);obtain⟨hv,hw,hvw⟩:=H.G.ends hj;have hN:=H.G.n;have hlen:=H.llen;have ho:=tH (A:=A) hj (by omega) (by omega);have hvisL:=L.vis.len H.G.m;have hne1:e≠-1:=by have:=hj.lt;omega
 by_cases hvia:e=via
 ·subst hvia;refine⟨fi,numi,lowi,ci,Ti,Bi,Gr hi hle hlen ho rfl,L.skip hle hj ?_⟩;rcases H.hvia w v hj.symm with h|h
  ·exact absurd h.symm hvw
  rw[L.k1 w h];exact h
 by_cases hfw:fi w=0
 ·-- a child
  have hfv:fi v≠0:=by rw[L.k4];omega
  have hnot:e∉(st++Ti)++(bl++Bi).flatten:=λhm=>(L.vis.psh e hm).2 hne1 w v hj.symm hfw;have hperm:(((st++Ti)++[e])++(bl++Bi).flatten).Perm (e::((st++Ti)++(bl++Bi).flatten)):=by rw[Jm];exact Mm
  have hV:Vis N E (λz=>z=v\/anc z) e fi ci ((st++Ti)++[e]) (bl++Bi):=by
   refine⟨L.vis.range,L.vis.inj,L.vis.bound,L.vis.fin,L.vis.ancv,λe' he'=>?_,(hperm.nodup_iff).2 (Mt.2 ⟨hnot,L.vis.nod⟩),L.vis.blk⟩;rcases A8.1 ((hperm.mem_iff).1 he')with rfl|h
   ·exact⟨⟨v,w,hj⟩,λh=>absurd rfl h⟩
   obtain⟨p1,p2⟩:=L.vis.psh e' h;refine⟨p1,λ_=>p2 ?_⟩;obtain⟨a,b,hab⟩:=p1;have:=hab.lt;omega
  have hunv:unv N fi<=n:=by
   have h1:unv N fi<=unv N (upd f v (cnt+1)):=zW λu hu=>by
    unfold upd at hu;by_cases huv:u=v
    ·rw[huv];exact hfv
    rw[if_neg huv]at hu;rw[L.k1 u hu];exact hu
   have h2:=sK (k:=cnt+1) H.hv H.f0 (by omega);have:=H.hunv;omega
  obtain⟨f',num',low',c',Tw,Bw,hgg,hnum',hlow',O⟩:=IH fi numi lowi ci ((st++Ti)++[e]) (bl++Bi) w e (λz=>z=v\/anc z) L.num L.lowl hV hw hfw
   (λu y hu=>by
    rcases hj.one hu with⟨h,_⟩|⟨h,_⟩
    ·exact .inr (by rw[h];exact hfv)
    exact .inl h) hunv
  obtain⟨lw,hl1,hl2⟩:=L.res;obtain⟨lww,hw1,hw2⟩:=O.res;have hfv':=O.keep v hfv;have hOl:=O.vis.len H.G.m;have hcc:ci<=c':=by have h1:=O.vnew;have h2:=O.vis.range w;omega
  have hci:cnt+1<=ci:=by have:=L.vis.range v;rw[L.k4]at this;exact this
  have hK:Kid (Jn E) f' v w ci c' lw lww anc Ti e Tw:=by refine⟨hl2.renum Jn.symm O.keep O.new hfv (λz hz=>L.vis.ancv z (.inr hz)),hw2,hj,λu y h=>hj.one h,O.vnew,λu hu=>?_,Jn.symm⟩;exact O.vis.inj u w hu (by rw[hu,O.vnew];omega)
  have k1:∀ u,f u≠0->f' u=f u:=λu hu=>by have h1:=L.k1 u hu;rw[O.keep u (by rw[h1];exact hu),h1]
  have k2:∀(q:Int) u,f u≠0->(low'.set v q)[u]?=low[u]?:=λq u hu=>by rw[Js (by rintro rfl;exact hu H.f0),O.low u (by rw[L.k1 u hu];exact hu)];exact L.k2 u hu
  have k3:∀ u,f u=0->f' u=0\/cnt<f' u:=λu hu=>by
   by_cases h0:fi u=0
   ·rcases O.new u h0 with h|h
    ·exact .inl h
    exact .inr (by omega)
   rw[O.keep u h0];exact L.k3 u hu
  have k4:f' v=cnt+1:=hfv'.trans L.k4;have done:∀ j,j<i+1->∀ e,l[j]?=some e->∀ w,Jn E e v w->f' w≠0:=by
   intro j hj' e' he' w' hw';by_cases hji:j=i
   ·subst hji;rw[hle]at he';cases he';rcases hj.one hw' with⟨_,h⟩|⟨_,h⟩
    ·rw[h,O.vnew];omega
    rw[h,hfv'];exact hfv
   have:=L.done j (by omega) e' he' w' hw';rw[O.keep w' this];exact this
  have srcOld:∀ e',e'∈Ti++Bi.flatten->(∃ j,j<i+1/\l[j]?=some e')\/∃ u y,Jn E e' u y/\f' v<f' u:=by
   intro e' he';rcases L.src e' he' with⟨j,h1,h2⟩|⟨u,y,h1,h2⟩
   ·exact .inl ⟨j,by omega,h2⟩
   exact .inr ⟨u,y,h1,by rw[hfv',O.keep u (by omega)];exact h2⟩
  have srcNew:∀ e',e'∈Tw++Bw.flatten->(∃ j,j<i+1/\l[j]?=some e')\/∃ u y,Jn E e' u y/\f' v<f' u:=by
   intro e' he';obtain⟨u,y,h1,h2,h3⟩:=O.psh e' he';refine .inr ⟨u,y,h1,?_⟩;rcases O.new u h2 with h|h
   ·exact absurd h h3
   have:=L.vis.range v;rw[hfv'];omega
  have hst:(((st++Ti)++[e])++Tw)=(st++Ti)++(e::Tw):=by simp
  have hB:=Fe (E:=E) (A:=A) (gg:=gg) (cnt:=(ci:Int)) (bl:=bl++Bi) (st:=st++Ti) hi hle hlen ho hvia (by rw[L.num.at' w hw,hfw];rfl) (by omega) hgg (hnum'.at' v hv) ((O.low v hfv).trans hl1) hw1 hvw
   (by have h1:=hOl;simp only[JE,B6,List.length_nil]at h1;omega) (by omega)
  by_cases hbd:f' v<=lww
  ·-- a block
   rw[Nat.ble_eq_true_of_le hbd,UA]at hB;have hsrt:∀ e',e'∈cR (e::Tw)↔e'∈e::Tw:=λe'=>(iE (e::Tw)).mem_iff;have hpm:(st++Ti++(bl++(Bi++Bw++[cR (e::Tw)])).flatten).Perm ((((st++Ti)++[e])++Tw)++(bl++Bi++Bw).flatten):=by
    rw[hst];have h1:(bl++(Bi++Bw++[cR (e::Tw)])).flatten=(bl++Bi++Bw).flatten++cR (e::Tw):=by simp
    rw[h1,Jm (st++Ti) (e::Tw)];refine List.Perm.append_left _ ?_;refine List.perm_append_comm.trans ?_;exact(iE (e::Tw)).append_right _
   refine⟨f',num',low'.set v ((min lw lww:Nat):Int),c',Ti,Bi++Bw++[cR (e::Tw)],?_,?_⟩
   ·rw[hB];simp
   refine⟨hnum',by simp[hlow'],k1,k2 _,k3,k4,⟨O.vis.range,O.vis.inj,O.vis.bound,O.vis.fin,O.vis.ancv,λe' he'=>O.vis.psh e' ((hpm.mem_iff).1 he'),(hpm.nodup_iff).2 O.vis.nod,λB hB'=>?_⟩,⟨lw,?_,(hK.old).more hcc⟩,done,λe' he'=>?_⟩
   ·have hB':B∈bl++Bi++Bw\/B=cR (e::Tw):=by
     simp only[A4,B4]at hB' ⊢;rcases hB' with h|(h|h)|h
     ·exact .inl (.inl (.inl h))
     ·exact .inl (.inl (.inr h))
     ·exact .inl (.inr h)
     exact .inr h
    rcases hB' with h|rfl
    ·exact O.vis.blk B h
    refine⟨λh=>?_,(hK.firm Jn.symm hbd).perm hsrt,iY _⟩;have:=(hsrt e).2 (JH ..);rw[h]at this;cases this
   ·have h1:=hl2.low1;rw[Jx (by rw[hlow'];exact hv),Nat.min_eq_left (by omega)]
   have he':e'∈Ti++Bi.flatten\/e'∈Tw++Bw.flatten\/e'=e:=by
    simp only[Lu,KL,List.flatten_nil,List.append_nil,A4,hsrt,A8]at he' ⊢;rcases he' with h|(h|h)|h|h
    ·exact .inl (.inl h)
    ·exact .inl (.inr h)
    ·exact .inr (.inl (.inr h))
    ·exact .inr (.inr h)
    exact .inr (.inl (.inl h))
   rcases he' with h|h|rfl
   ·exact srcOld e' h
   ·exact srcNew e' h
   exact .inl ⟨i,by omega,hle⟩
  rw[show Nat.ble (f' v) lww=false by rw[Bool.eq_false_iff];intro h;exact hbd (Nat.le_of_ble_eq_true h),UB]at hB;refine⟨f',num',low'.set v ((min lw lww:Nat):Int),c',Ti++e::Tw,Bi++Bw,?_,?_⟩
  ·rw[hB];simp
  refine⟨hnum',by simp[hlow'],k1,k2 _,k3,k4,?_,⟨min lw lww,Jx (by rw[hlow'];exact hv),hK.join Jn.symm (by omega)⟩,done,λe' he'=>?_⟩
  ·have:=O.vis;rw[hst,Jm,Jm bl]at this;exact this
  have he':e'∈Ti++Bi.flatten\/e'∈Tw++Bw.flatten\/e'=e:=by
   simp only[Lu,A4,A8]at he' ⊢;rcases he' with(h|h|h)|h|h
   ·exact .inl (.inl h)
   ·exact .inr (.inr h)
   ·exact .inr (.inl (.inl h))
   ·exact .inl (.inr h)
   exact .inr (.inl (.inr h))
  rcases he' with h|h|rfl
  ·exact srcOld e' h
  ·exact srcNew e' h
  exact .inl ⟨i,by omega,hle⟩
 have hfv:fi v≠0:=by rw[L.k4];omega
 by_cases hlt:fi w<fi v
 ·-- back to an open vertex
  obtain⟨lw,hl1,hl2⟩:=L.res;have hanc:anc w:=by
   by_cases ha:anc w
   ·exact ha
   exfalso;by_cases hw0:f w=0
   ·rcases L.k3 w hw0 with h|h
    ·exact hfw h
    rw[L.k4]at hlt;omega
   exact H.vis.fin w hw0 ha e v hj.symm H.f0
  refine⟨fi,numi,lowi.set v ((min lw (fi w):Nat):Int),ci,Ti++[e],Bi,?_,?_⟩
  ·have:=EY (E:=E) (A:=A) (gg:=gg) (cnt:=(ci:Int)) (bl:=bl++Bi) (st:=st++Ti) hi hle hlen ho hvia (L.num.at' w hw) (L.num.at' v hv) hl1 hfw hlt (by omega);rw[this,Jm]
  have hnot:e∉(st++Ti)++(bl++Bi).flatten:=by
   intro hm;have hm:e∈st++bl.flatten\/e∈Ti++Bi.flatten:=by
    simp only[Lu,A4]at hm ⊢;rcases hm with(h|h)|(h|h)
    ·exact .inl (.inl h)
    ·exact .inr (.inl h)
    ·exact .inl (.inr h)
    exact .inr (.inr h)
   rcases hm with hm|hm
   ·exact(H.vis.psh e hm).2 hvia v w hj H.f0
   rcases L.src e hm with⟨j,hj1,hj2⟩|⟨u,y,hu,huv⟩
   ·obtain⟨q1,q2⟩:=List.getElem?_eq_some_iff.1 hj2;have:=(List.getElem?_inj q1 H.nod).1 (hj2.trans hle.symm);omega
   rcases hj.one hu with⟨h,_⟩|⟨h,_⟩<;>rw[h]at huv<;>omega
  have hperm:((st++(Ti++[e]))++(bl++Bi).flatten).Perm (e::((st++Ti)++(bl++Bi).flatten)):=by rw[<- Jm,Jm (st++Ti)];exact Mm
  refine⟨L.num,by simp[L.lowl],L.k1,λu hu=>?_,L.k3,L.k4,⟨L.vis.range,L.vis.inj,L.vis.bound,L.vis.fin,L.vis.ancv,λe' he'=>?_,(hperm.nodup_iff).2 (Mt.2 ⟨hnot,L.vis.nod⟩),L.vis.blk⟩,⟨min lw (fi w),Jx (by rw[L.lowl];exact hv),hl2.back hj (λu y h=>hj.one h) hanc⟩,(L.skip hle hj hfw).done,λe' he'=>?_⟩
  ·rw[Js (by rintro rfl;exact hu H.f0)];exact L.k2 u hu
  ·rcases A8.1 ((hperm.mem_iff).1 he')with rfl|h
   ·refine⟨⟨v,w,hj⟩,λ_ u y hu=>?_⟩;rcases hj.one hu with⟨h,_⟩|⟨h,_⟩<;>rw[h]<;>assumption
   exact L.vis.psh e' h
  have he':e'=e\/e'∈Ti++Bi.flatten:=by
   simp only[A4,B4]at he' ⊢;rcases he' with(h|h)|h
   ·exact .inr (.inl h)
   ·exact .inl h
   exact .inr (.inr h)
  rcases he' with rfl|h
  ·exact .inl ⟨i,by omega,hle⟩
  exact(L.skip hle hj hfw).src e' h
 refine⟨fi,numi,lowi,ci,Ti,Bi,Fh hi hle hlen ho hvia (L.num.at' w hw) (L.num.at' v hv) hfw (by omega),L.skip hle hj hfw⟩
end
end
end Go.Vm
