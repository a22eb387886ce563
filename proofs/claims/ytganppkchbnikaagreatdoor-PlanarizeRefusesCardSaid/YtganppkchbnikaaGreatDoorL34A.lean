open List renaming mem_append->A4,mem_cons->A8,mem_singleton->B4,mem_cons_of_mem->Jq,mem_cons_self->JH,mem_append_left->JR
open Nat renaming le_refl->B2
/-
 Depth-first search with low points: a block has no cut vertex. No program in sight.
-/
set_option linter.unusedVariables false
set_option linter.unusedSimpArgs false
namespace Go.Vm
section
variable {ε:Type}{J:ε->Nat->Nat->Prop}
inductive Way (J:ε->Nat->Nat->Prop) (T:List ε) (P:Nat->Prop):Nat->Nat->Prop
 |nil {u:Nat}:P u->Way J T P u u
 |cons {u v w:Nat} {e:ε}:e∈T->J e u v->P u->Way J T P v w->Way J T P u w
variable {T T':List ε}{P P':Nat->Prop}
theorem Way.fst{u v:Nat}(h:Way J T P u v):P u:=by cases h<;>assumption
theorem Way.lst{u v:Nat}(h:Way J T P u v):P v:=by
 induction h with
 |nil h=>exact h
 |cons _ _ _ _ ih=>exact ih
theorem Way.trans{u v w:Nat}(h:Way J T P u v)(k:Way J T P v w):Way J T P u w:=by
 induction h with
 |nil _=>exact k
 |cons h1 h2 h3 _ ih=>exact .cons h1 h2 h3 (ih k)
theorem Way.mono{u v:Nat}(h:Way J T P u v)(hT:∀ e∈T,e∈T')(hP:∀ x,P x->P' x):Way J T' P' u v:=by
 induction h with
 |nil h=>exact .nil (hP _ h)
 |cons h1 h2 h3 _ ih=>exact .cons (hT _ h1) h2 (hP _ h3) ih
theorem Way.snoc{u v w:Nat}{e:ε}(h:Way J T P u v)(h1:e∈T)(h2:J e v w)(h3:P w):Way J T P u w:=h.trans (.cons h1 h2 h.lst (.nil h3))
theorem Way.symm(hJ:∀ e u v,J e u v->J e v u){u v:Nat}(h:Way J T P u v):Way J T P v u:=by
 induction h with
 |nil h=>exact .nil h
 |cons h1 h2 h3 _ ih=>exact ih.snoc h1 (hJ _ _ _ h2) h3
theorem Way.touch(hJ:∀ e u v,J e u v->J e v u){u v:Nat}(h:Way J T P u v):u=v\/∃ e∈T,∃ z,J e v z:=by
 induction h with
 |nil _=>exact .inl rfl
 |cons h1 h2 _ _ ih=>
  rcases ih with rfl|ih
  ·exact .inr ⟨_,h1,_,hJ _ _ _ h2⟩
  exact .inr ih
theorem Way.touched(hJ:∀ e u v,J e u v->J e v u){u v:Nat}(h:Way J T P u v):Way J T (λy=>P y/\(y=u\/∃ f∈T,∃ z,J f y z)) u v:=by
 induction h with
 |nil h=>exact .nil ⟨h,.inl rfl⟩
 |cons h1 h2 h3 _ ih=>
  refine .cons h1 h2 ⟨h3,.inl rfl⟩ (ih.mono (λ_ h=>h) λy hy=>⟨hy.1,.inr ?_⟩);rcases hy.2 with rfl|hy
  ·exact⟨_,h1,_,hJ _ _ _ h2⟩
  exact hy
def New(num:Nat->Nat)(v c:Nat)(u:Nat):Prop:=u=v\/num v<num u/\num u<=c
def Dom(J:ε->Nat->Nat->Prop)(num:Nat->Nat)(v c:Nat)(T:List ε)(u:Nat):Prop:=New num v c u/\(u=v\/∃ e∈T,∃ z,J e u z)
structure Rst (J:ε->Nat->Nat->Prop)(num:Nat->Nat)(v c low:Nat)(anc:Nat->Prop)(T:List ε):Prop where
 top:num v<=c
 ancs:∀ z,anc z->num z<num v
 ends:∀ e∈T,∀ u z,J e u z->New num v c u\/anc u
 new:∀ e∈T,∀ u z,J e u z->New num v c u\/New num v c z
 up:∀ u,Dom J num v c T u->Way J T (λx=>New num v c x/\num x<=num u) u v
 low1:low<=num v
 low2:low=num v\/∃ e∈T,∃ u z,J e u z/\Dom J num v c T u/\anc z/\num z=low
 low3:∀ e∈T,∀ u z,J e u z->anc z->low<=num z
 cut:∀ a,Dom J num v c T a->∀ x,Dom J num v c T x->x≠a->∃ z,num z<num a/\Way J T (λy=>y≠a) x z
def Firm(J:ε->Nat->Nat->Prop)(B:List ε):Prop:=∀ a e u z f x y,e∈B->J e u z->f∈B->J f x y->u≠a->x≠a->Way J B (λy=>y≠a) u x
theorem Rst.start{num:Nat->Nat}{v c:Nat}{anc:Nat->Prop}(hc:num v=c)(ha:∀ z,anc z->num z<num v):Rst J num v c (num v) anc []:=by
 have one:∀ u,Dom J num v c ([]:List ε) u->u=v:=by
  rintro u ⟨_,h|⟨e,he,_⟩⟩
  ·exact h
  cases he
 refine⟨by omega,ha,by simp,by simp,λu hu=>?_,B2 _,.inl rfl,by simp,λa ha x hx hxa=>absurd ((one x hx).trans (one a ha).symm) hxa⟩;obtain rfl:=one u hu;exact .nil ⟨.inl rfl,B2 _⟩
theorem New.mono{num:Nat->Nat}{v c c' u:Nat}(h:New num v c u)(hc:c<=c'):New num v c' u:=by
 rcases h with h|h
 ·exact .inl h
 exact .inr ⟨h.1,by omega⟩
theorem New.le{num:Nat->Nat}{v c u:Nat}(h:New num v c u):num v<=num u:=by
 rcases h with rfl|h
 ·exact B2 _
 omega
theorem Rst.more{num:Nat->Nat}{v c c' low:Nat}{anc:Nat->Prop}(h:Rst J num v c low anc T)(hc:c<=c'):Rst J num v c' low anc T:=by
 have old:∀ u,Dom J num v c' T u->Dom J num v c T u:=by
  rintro u ⟨h1,h2⟩;refine⟨?_,h2⟩;rcases h2 with rfl|⟨e,he,z,hz⟩
  ·exact .inl rfl
  rcases h.ends e he u z hz with h3|h3
  ·exact h3
  have:=h.ancs u h3;have:=h1.le;omega
 refine⟨by have:=h.top;omega,h.ancs,λe he u z hz=>(h.ends e he u z hz).imp (·.mono hc) id,λe he u z hz=>(h.new e he u z hz).imp (·.mono hc) (·.mono hc),λu hu=>(h.up u (old u hu)).mono (λ_ h=>h) (λx hx=>⟨hx.1.mono hc,hx.2⟩),h.low1,?_,h.low3,
  λa ha x hx hxa=>h.cut a (old a ha) x (old x hx) hxa⟩
 rcases h.low2 with h1|⟨e,he,u,z,h1,h2,h3⟩
 ·exact .inl h1
 exact .inr ⟨e,he,u,z,h1,⟨h2.1.mono hc,h2.2⟩,h3⟩
theorem Rst.back{num:Nat->Nat}{v c low z:Nat}{anc:Nat->Prop}{e:ε}(h:Rst J num v c low anc T)(he:J e v z)(hone:∀ u y,J e u y->(u=v/\y=z)\/(u=z/\y=v))(hz:anc z):Rst J num v c (min low (num z)) anc (T++[e]):=by
 have hzv:=h.ancs z hz;have old:∀ u,Dom J num v c (T++[e]) u->Dom J num v c T u:=by
  rintro u ⟨h1,h2⟩;refine⟨h1,?_⟩;rcases h2 with rfl|⟨f,hf,y,hy⟩
  ·exact .inl rfl
  rcases A4.1 hf with hf|hf
  ·exact .inr ⟨f,hf,y,hy⟩
  rw[B4]at hf;subst hf;rcases hone u y hy with⟨rfl,_⟩|⟨rfl,_⟩
  ·exact .inl rfl
  have:=h1.le;omega
 have sub:∀ f∈T,f∈T++[e]:=λf hf=>JR _ hf;refine⟨h.top,h.ancs,λf hf u y hy=>?_,λf hf u y hy=>?_,λu hu=>(h.up u (old u hu)).mono sub (λ_ h=>h),by have:=h.low1;omega,?_,λf hf u y hy hay=>?_,
  λa ha x hx hxa=>by
   obtain⟨q,q1,q2⟩:=h.cut a (old a ha) x (old x hx) hxa;exact⟨q,q1,q2.mono sub λ_ h=>h⟩⟩
 ·rcases A4.1 hf with hf|hf
  ·exact h.ends f hf u y hy
  rw[B4]at hf;subst hf;rcases hone u y hy with⟨rfl,_⟩|⟨rfl,_⟩
  ·exact .inl (.inl rfl)
  exact .inr hz
 ·rcases A4.1 hf with hf|hf
  ·exact h.new f hf u y hy
  rw[B4]at hf;subst hf;rcases hone u y hy with⟨rfl,_⟩|⟨_,rfl⟩
  ·exact .inl (.inl rfl)
  exact .inr (.inl rfl)
 ·by_cases hm:num z<=low
  ·exact .inr ⟨e,by simp,v,z,he,⟨.inl rfl,.inl rfl⟩,hz,by omega⟩
  rcases h.low2 with h1|⟨f,hf,u,y,h1,h2,h3,h4⟩
  ·have:=h.low1;omega
  refine .inr ⟨f,sub f hf,u,y,h1,⟨h2.1,?_⟩,h3,by omega⟩;rcases h2.2 with h5|⟨g,hg,h5⟩
  ·exact .inl h5
  exact .inr ⟨g,sub g hg,h5⟩
 rcases A4.1 hf with hf|hf
 ·have:=h.low3 f hf u y hy hay;omega
 rw[B4]at hf;subst hf;rcases hone u y hy with⟨_,rfl⟩|⟨_,rfl⟩
 ·omega
 have:=h.ancs _ hay;omega
structure Kid (J:ε->Nat->Nat->Prop)(num:Nat->Nat)(v w c c' low loww:Nat)(anc:Nat->Prop)(T:List ε)(e:ε)(Tw:List ε):Prop where
 old:Rst J num v c low anc T
 kid:Rst J num w c' loww (λz=>z=v\/anc z) Tw
 edge:J e v w
 one:∀ u y,J e u y->(u=v/\y=w)\/(u=w/\y=v)
 nw:num w=c+1
 inj:∀ u,num u=num w->u=w
 sym:∀ e u v,J e u v->J e v u
section
variable {num:Nat->Nat}{v w c c' low loww:Nat}{anc:Nat->Prop}{e:ε}{Tw:List ε}
theorem Kid.le(k:Kid J num v w c c' low loww anc T e Tw):c<=c'/\num v<=c/\num w<=c':=by have:=k.old.top;have:=k.kid.top;have:=k.nw;omega
theorem Kid.lift(k:Kid J num v w c c' low loww anc T e Tw){u:Nat}(hu:New num w c' u):New num v c' u/\c<num u/\u≠v:=by obtain⟨k1,k2,k3⟩:=k.le;have:=hu.le;have:=k.nw;refine⟨.inr ⟨by omega,by rcases hu with rfl|hu<;>omega⟩,by omega,?_⟩;rintro rfl;omega
theorem Kid.cases(k:Kid J num v w c c' low loww anc T e Tw){u:Nat}(hu:New num v c' u):(New num v c u/\num u<=c)\/New num w c' u:=by
 obtain⟨k1,k2,k3⟩:=k.le;rcases hu with rfl|⟨h1,h2⟩
 ·exact .inl ⟨.inl rfl,k2⟩
 by_cases hle:num u<=c
 ·exact .inl ⟨.inr ⟨h1,hle⟩,hle⟩
 right;by_cases hnw:num u=num w
 ·exact .inl (k.inj u hnw)
 exact .inr ⟨by have:=k.nw;omega,h2⟩
theorem Kid.rev(k:Kid J num v w c c' low loww anc T e Tw):J e w v:=k.sym _ _ _ k.edge
theorem Kid.inner(k:Kid J num v w c c' low loww anc T e Tw){u:Nat}(hu:Dom J num w c' Tw u):Way J (e::Tw) (λx=>New num v c' x/\num x<=num u) u v:=by obtain⟨k1,k2,k3⟩:=k.le;have h1:=(k.kid.up u hu).mono (T':=e::Tw) (P':=λx=>New num v c' x/\num x<=num u) (λf hf=>Jq _ hf) (λx hx=>⟨(k.lift hx.1).1,hx.2⟩);have hu2:=(k.lift hu.1).2.1;exact h1.snoc (JH ..) (k.rev) ⟨.inl rfl,by omega⟩
theorem Kid.domOld(k:Kid J num v w c c' low loww anc T e Tw){u:Nat}(hu:Dom J num v c' (T++e::Tw) u)(hc:num u<=c):Dom J num v c T u:=by
 obtain⟨k1,k2,k3⟩:=k.le;obtain⟨hn,ht⟩:=hu;have hnew:New num v c u:=by
  rcases k.cases hn with h|h
  ·exact h.1
  have:=(k.lift h).2.1;omega
 refine⟨hnew,?_⟩;rcases ht with h|⟨f,hf,y,hy⟩
 ·exact .inl h
 rcases A4.1 hf with hf|hf
 ·exact .inr ⟨f,hf,y,hy⟩
 rcases A8.1 hf with rfl|hf
 ·rcases k.one u y hy with⟨h,_⟩|⟨h,_⟩
  ·exact .inl h
  have:=k.nw;rw[h]at hc;omega
 rcases k.kid.ends f hf u y hy with h|h|h
 ·have:=(k.lift h).2.1;omega
 ·exact .inl h
 have:=k.old.ancs u h;have:=hnew.le;omega
theorem Kid.domNew(k:Kid J num v w c c' low loww anc T e Tw){u:Nat}(hu:Dom J num v c' (T++e::Tw) u)(hc:New num w c' u):Dom J num w c' Tw u:=by
 obtain⟨k1,k2,k3⟩:=k.le;obtain⟨_,h2,h3⟩:=k.lift hc;refine⟨hc,?_⟩;rcases hu.2 with h|⟨f,hf,y,hy⟩
 ·exact absurd h h3
 rcases A4.1 hf with hf|hf
 ·rcases k.old.ends f hf u y hy with h|h
  ·rcases h with h|h
   ·exact absurd h h3
   omega
  have:=k.old.ancs u h;omega
 rcases A8.1 hf with rfl|hf
 ·rcases k.one u y hy with⟨h,_⟩|⟨h,_⟩
  ·exact absurd h h3
  exact .inl h
 exact .inr ⟨f,hf,y,hy⟩
theorem Kid.join(hJ:∀ e u v,J e u v->J e v u)(k:Kid J num v w c c' low loww anc T e Tw)(hlow:loww<num v):Rst J num v c' (min low loww) anc (T++e::Tw):=by
 obtain⟨k1,k2,k3⟩:=k.le;have hnw:=k.nw;have qT:∀ f∈T,f∈T++e::Tw:=λf hf=>JR _ hf;have sub2:∀ f∈e::Tw,f∈T++e::Tw:=λf hf=>List.mem_append_right _ hf;have sub3:∀ f∈Tw,f∈T++e::Tw:=λf hf=>sub2 f (Jq _ hf);have part:∀{u},Dom J num v c' (T++e::Tw) u->(Dom J num v c T u/\num u<=c)\/Dom J num w c' Tw u:=λhu=>by
  rcases k.cases hu.1 with h|h
  ·exact .inl ⟨k.domOld hu h.2,h.2⟩
  exact .inr (k.domNew hu h)
 have low2w:∃ f∈Tw,∃ u z,J f u z/\Dom J num w c' Tw u/\anc z/\num z=loww:=by
  rcases k.kid.low2 with h|⟨f,hf,u,z,h1,h2,h3|h3,h4⟩
  ·omega
  ·rw[h3]at h4;omega
  exact⟨f,hf,u,z,h1,h2,h3,h4⟩
 have domUp1:∀{u},Dom J num v c T u->Dom J num v c' (T++e::Tw) u:=λhu=>⟨hu.1.mono k1,hu.2.imp id λ⟨f,hf,h⟩=>⟨f,qT f hf,h⟩⟩;have domUp2:∀{u},Dom J num w c' Tw u->Dom J num v c' (T++e::Tw) u:=λhu=>⟨(k.lift hu.1).1,.inr (by
  rcases hu.2 with rfl|⟨f,hf,h⟩
  ·exact⟨e,sub2 e (JH ..),v,k.rev⟩
  exact⟨f,sub3 f hf,h⟩)⟩
 refine⟨by omega,k.old.ancs,λf hf u y hy=>?_,λf hf u y hy=>?_,λu hu=>?_,by have:=k.old.low1;omega,?_,λf hf u y hy hay=>?_,λa ha x hx hxa=>?_⟩
 ·rcases A4.1 hf with hf|hf
  ·exact(k.old.ends f hf u y hy).imp (·.mono k1) id
  rcases A8.1 hf with rfl|hf
  ·rcases k.one u y hy with⟨rfl,_⟩|⟨rfl,_⟩
   ·exact .inl (.inl rfl)
   exact .inl (k.lift (.inl rfl)).1
  rcases k.kid.ends f hf u y hy with h|rfl|h
  ·exact .inl (k.lift h).1
  ·exact .inl (.inl rfl)
  exact .inr h
 ·rcases A4.1 hf with hf|hf
  ·exact(k.old.new f hf u y hy).imp (·.mono k1) (·.mono k1)
  rcases A8.1 hf with rfl|hf
  ·rcases k.one u y hy with⟨rfl,_⟩|⟨_,rfl⟩
   ·exact .inl (.inl rfl)
   exact .inr (.inl rfl)
  exact(k.kid.new f hf u y hy).imp (λh=>(k.lift h).1) (λh=>(k.lift h).1)
 ·rcases part hu with⟨h,_⟩|h
  ·exact(k.old.up u h).mono qT λx hx=>⟨hx.1.mono k1,hx.2⟩
  exact(k.inner h).mono sub2 λ_ h=>h
 ·by_cases hm:loww<=low
  ·obtain⟨f,hf,u,z,h1,h2,h3,h4⟩:=low2w;exact .inr ⟨f,sub3 f hf,u,z,h1,domUp2 h2,h3,by omega⟩
  rcases k.old.low2 with h1|⟨f,hf,u,y,h1,h2,h3,h4⟩
  ·omega
  exact .inr ⟨f,qT f hf,u,y,h1,domUp1 h2,h3,by omega⟩
 ·rcases A4.1 hf with hf|hf
  ·have:=k.old.low3 f hf u y hy hay;omega
  rcases A8.1 hf with rfl|hf
  ·have:=k.old.ancs y hay;rcases k.one u y hy with⟨_,rfl⟩|⟨_,rfl⟩<;>omega
  have:=k.kid.low3 f hf u y hy (.inr hay);omega
 rcases part ha with⟨ha1,ha2⟩|ha1
 ·rcases part hx with⟨hx1,_⟩|hx1
  ·obtain⟨z,z1,z2⟩:=k.old.cut a ha1 x hx1 hxa;exact⟨z,z1,z2.mono qT λ_ h=>h⟩
  -- from the child's part up
  by_cases hav:a=v
  ·subst hav;obtain⟨f,hf,u,z,h1,h2,h3,h4⟩:=low2w;have way:∀{y},Dom J num w c' Tw y->Way J (T++e::Tw) (λy=>y≠a) y w:=λhy=>(k.kid.up _ hy).mono sub3 λq hq=>(k.lift hq.1).2.2;exact⟨z,by omega,((way hx1).trans ((way h2).symm hJ)).snoc (sub3 f hf) h1 (by rintro rfl;omega)⟩
  have hva:num v<num a:=by
   rcases ha1.1 with h|h
   ·exact absurd h hav
   exact h.1
  have h1:=(k.kid.up _ hx1).mono (P':=λy=>y≠a) sub3 λq hq=>by have:=(k.lift hq.1).2.1;rintro rfl;omega
  exact⟨v,hva,h1.snoc (sub2 e (JH ..)) k.rev (λh=>hav h.symm)⟩
 rcases part hx with⟨_,hx2⟩|hx1
 ·exact⟨x,by have:=(k.lift ha1.1).2.1;omega,.nil hxa⟩
 obtain⟨z,z1,z2⟩:=k.kid.cut a ha1 x hx1 hxa;exact⟨z,z1,z2.mono sub3 λ_ h=>h⟩
theorem Kid.firm(hJ:∀ e u v,J e u v->J e v u)(k:Kid J num v w c c' low loww anc T e Tw)(hlow:num v<=loww):Firm J (e::Tw):=by
 obtain⟨k1,k2,k3⟩:=k.le;have eIn:e∈e::Tw:=JH ..;have sub:∀ f∈Tw,f∈e::Tw:=λf hf=>Jq _ hf
 -- the vertices
 have vert:∀ f∈e::Tw,∀ u y,J f u y->u=v\/Dom J num w c' Tw u:=by
  intro f hf u y hy;rcases A8.1 hf with rfl|hf
  ·rcases k.one u y hy with⟨h,_⟩|⟨h,_⟩
   ·exact .inl h
   exact .inr ⟨.inl h,.inl h⟩
  rcases k.kid.ends f hf u y hy with h|h|h
  ·exact .inr ⟨h,.inr ⟨f,hf,y,hy⟩⟩
  ·exact .inl h
  exfalso;have h1:=k.old.ancs u h;have h2:=k.kid.low3 f hf y u (hJ _ _ _ hy) (.inr h);omega
 -- without v
 have top:∀{u},Dom J num w c' Tw u->Way J (e::Tw) (λy=>y≠v) u w:=λhu=>(k.kid.up _ hu).mono sub λq hq=>(k.lift hq.1).2.2
 -- without a vertex of the child's part
 have out:∀ a,Dom J num w c' Tw a->∀ n u,num u<=n->Dom J num w c' Tw u->u≠a->Way J (e::Tw) (λy=>y≠a) u v:=by
  intro a ha n u hn hu hua;have hav:=(k.lift ha.1).2.2;obtain⟨z,z1,z2⟩:=k.kid.cut a ha u hu hua;have hz:z=v\/Dom J num w c' Tw z:=by
   rcases z2.touch hJ with rfl|⟨f,hf,y,hy⟩
   ·exact .inr hu
   exact vert f (sub f hf) z y hy
  have z3:=z2.mono (T':=e::Tw) sub (λ_ h=>h);rcases hz with rfl|hz
  ·exact z3
  refine z3.trans ?_;have h1:=(k.kid.up z hz).mono (T':=e::Tw) (P':=λy=>y≠a) sub λq hq=>by have:=hq.2;rintro rfl;omega
  exact h1.snoc eIn k.rev (λh=>hav h.symm)
 have out':∀ a,a≠v->∀ u,(u=v\/Dom J num w c' Tw u)->u≠a->Way J (e::Tw) (λy=>y≠a) u v:=by
  intro a hav u hu hua;rcases hu with rfl|hu
  ·exact .nil hua
  by_cases ha:Dom J num w c' Tw a
  ·exact out a ha _ u (B2 _) hu hua
  refine((k.inner hu).touched hJ).mono (λ_ h=>h) λy hy=>?_;rcases hy.2 with rfl|⟨f,hf,z,hz⟩
  ·exact hua
  rintro rfl;rcases vert f hf y z hz with h|h
  ·exact hav h
  exact ha h
 intro a g u z f x y hg hu hf hx hua hxa;have hu1:=vert g hg u z hu;have hx1:=vert f hf x y hx;by_cases hav:a=v
 ·subst hav;exact(top (hu1.resolve_left hua)).trans ((top (hx1.resolve_left hxa)).symm hJ)
 exact(out' a hav u hu1 hua).trans ((out' a hav x hx1 hxa).symm hJ)
end
end
end Go.Vm
