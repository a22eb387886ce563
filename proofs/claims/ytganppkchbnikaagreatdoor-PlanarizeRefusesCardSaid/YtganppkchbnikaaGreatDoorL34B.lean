/-
 Depth-first search: what is left of a visit, under later numbers; graphs as lists of edges.
-/
import Derived.Test.YtganppkchbnikaaGreatDoorL34A
open Option.some renaming injEq->aw
open Prod.mk renaming injEq->B3
set_option linter.unusedVariables false
set_option linter.unusedSimpArgs false
namespace Go.Vm
section
variable {ε:Type}{J:ε->Nat->Nat->Prop}{T:List ε}
theorem Way.ends{num:Nat->Nat}{v c low:Nat}{anc:Nat->Prop}(hJ:∀ e u v,J e u v->J e v u)(h:Rst J num v c low anc T){P:Nat->Prop}{x z:Nat}(hw:Way J T P x z)(hx:New num v c x\/anc x):New num v c z\/anc z:=by
 rcases hw.touch hJ with rfl|⟨e,he,y,hy⟩
 ·exact hx
 exact h.ends e he z y hy
theorem Rst.renum{num num':Nat->Nat}{v c low:Nat}{anc:Nat->Prop}(hJ:∀ e u v,J e u v->J e v u)(h:Rst J num v c low anc T)(h1:∀ u,num u≠0->num' u=num u)(h2:∀ u,num u=0->num' u=0\/c<num' u)(hv:num v≠0)(ha:∀ z,anc z->num z≠0):Rst J num' v c low anc T:=by
 have hv':=h1 v hv;have nz:∀ u,New num v c u->num u≠0:=by
  rintro u (rfl|hu)
  ·exact hv
  omega
 have new:∀ u,New num' v c u↔New num v c u:=by
  intro u;unfold New;by_cases hu:num u=0
  ·rcases h2 u hu with h3|h3<;>constructor<;>rintro(h4|h4)<;>first|exact .inl h4|omega
  rw[h1 u hu,hv']
 have dom:∀ u,Dom J num' v c T u↔Dom J num v c T u:=λu=>by unfold Dom;rw[new u]
 refine⟨by rw[hv'];exact h.top,λz hz=>by rw[h1 z (ha z hz),hv'];exact h.ancs z hz,λe he u z hz=>(h.ends e he u z hz).imp (new u).2 id,λe he u z hz=>(h.new e he u z hz).imp (new u).2 (new z).2,λu hu=>?_,by rw[hv'];exact h.low1,?_,λe he u z hz haz=>by rw[h1 z (ha z haz)];exact h.low3 e he u z hz haz,λa hA x hx hxa=>?_⟩
 ·have hu:=(dom u).1 hu;exact(h.up u hu).mono (λ_ h=>h) λx hx=>⟨(new x).2 hx.1,by rw[h1 x (nz x hx.1),h1 u (nz u hu.1)];exact hx.2⟩
 ·rcases h.low2 with h3|⟨e,he,u,z,h3,h4,h5,h6⟩
  ·exact .inl (by rw[hv'];exact h3)
  exact .inr ⟨e,he,u,z,h3,(dom u).2 h4,h5,by rw[h1 z (ha z h5)];exact h6⟩
 have hA:=(dom a).1 hA;have hx:=(dom x).1 hx;obtain⟨z,z1,z2⟩:=h.cut a hA x hx hxa;refine⟨z,?_,z2⟩;have hz:num z≠0:=by
  rcases z2.ends hJ h (.inl hx.1)with h3|h3
  ·exact nz z h3
  exact ha z h3
 rw[h1 z hz,h1 a (nz a hA.1)];exact z1
end
def Jn(E:List (Int×Int×Unit))(e:Int)(u v:Nat):Prop:=0<=e/\(E[e.toNat]?=some ((u:Int),(v:Int),())\/E[e.toNat]?=some ((v:Int),(u:Int),()))
theorem Jn.symm{E:List (Int×Int×Unit)}:∀ e u v,Jn E e u v->Jn E e v u:=λ_ _ _ h=>⟨h.1,h.2.symm⟩
theorem Jn.one{E:List (Int×Int×Unit)}{e:Int}{u v x y:Nat}(h:Jn E e u v)(k:Jn E e x y):(x=u/\y=v)\/(x=v/\y=u):=by
 rcases h.2 with h|h<;>rcases k.2 with k|k<;>rw[h]at k<;>simp only[aw,B3,and_true]at k<;>omega
theorem Jn.lt{E:List (Int×Int×Unit)}{e:Int}{u v:Nat}(h:Jn E e u v):0<=e/\e<E.length:=by
 refine⟨h.1,?_⟩;have:e.toNat<E.length:=by
  rcases h.2 with h|h<;>exact(List.getElem?_eq_some_iff.1 h).1
 have:=h.1;omega
structure Gph (N:Nat)(E:List (Int×Int×Unit))(A:List (List Int)):Prop where
 n:N<=16384
 m:E.length<=32768
 arc:∀ k,k<E.length->∃ a b:Nat,a<N/\b<N/\a≠b/\E[k]?=some ((a:Int),(b:Int),())
 len:A.length=N
 at':∀ v,v<N->∃ l,A[v]?=some l/\l.Nodup/\∀ e,e∈l↔∃ w,Jn E e v w
section
variable {N:Nat}{E:List (Int×Int×Unit)}{A:List (List Int)}
theorem Gph.ends(G:Gph N E A){e:Int}{u v:Nat}(h:Jn E e u v):u<N/\v<N/\u≠v:=by
 obtain⟨h1,h2⟩:=h.lt;obtain⟨a,b,ha,hb,hab,he⟩:=G.arc e.toNat (by omega);rcases h.2 with h|h<;>rw[he]at h<;>simp only[aw,B3,and_true]at h<;>omega
end
theorem gx:∀(m:Nat) {l:List Int},l.Nodup->(∀ e∈l,0<=e/\e<m)->l.length<=m
 |0,l,_,h=>by
  cases l with
  |nil=>simp
  |cons a l=>have:=h a (List.mem_cons_self ..);omega
 |m+1,l,hn,h=>by
  have h1:(l.filter λe=>e != (m:Int)).length<=m:=gx m (hn.filter _) λe he=>by
   obtain⟨h1,h2⟩:=List.mem_filter.1 he;have:=h e h1;have:e≠(m:Int):=by simpa using h2
   omega
  have h2:l.length<=(l.filter λe=>e != (m:Int)).length+1:=by
   clear h h1;induction l with
   |nil=>simp
   |cons a l ih=>
    obtain⟨ha,hl⟩:=List.nodup_cons.1 hn;by_cases e:a=(m:Int)
    ·have:l.filter (λe=>e != (m:Int))=l:=List.filter_eq_self.2 λx hx=>by
      have:x≠(m:Int):=by rintro rfl;exact ha (e▸hx)
      simpa using this
     simp[e,this]
    have:=ih hl;simp[e];omega
  omega
end Go.Vm
