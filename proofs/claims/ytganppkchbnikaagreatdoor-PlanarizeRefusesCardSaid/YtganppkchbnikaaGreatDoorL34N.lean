/-
 The pieces of a block.
-/
import Derived.Test.YtganppkchbnikaaGreatDoorL34M
open Option renaming bind_some->dg,bind->Jo
open List renaming getElem?_eq_getElem->A1,mem_append->A4,replicate->A5,mem_singleton->B4,length_cons->B6,length_nil->JB
open Int renaming le_refl->JO,toNat_natCast->J9
open Bool renaming not_true->J4,not_false->J6
open Nat renaming zero_le->K0
set_option linter.unusedVariables false
set_option linter.unusedSimpArgs false
namespace Go.Vm
set_option maxRecDepth 100000
attribute [local irreducible] aa
def pcs(Ps:List (List Nat×List Nat)):List (List Int×List Int×Unit):=Ps.map λp=>(nl p.1,nl p.2,())
theorem ju(Ps:List (List Nat×List Nat)):(pcs Ps).length=Ps.length:=by simp[pcs]
theorem xq(Ps Qs:List (List Nat×List Nat)):pcs (Ps++Qs)=pcs Ps++pcs Qs:=by simp[pcs]
def Pie(N:Nat)(nb:Nat->List Nat)(inn:List Bool)(dr:List (List Bool))(p:List Nat×List Nat):Prop:=
 (p.2=[]/\∃ a b,p.1=[a,b]/\a<N/\b<N/\a≠b/\inn[a]?=some true/\inn[b]?=some true/\¬Dr dr a b)\/∃ v,v<N/\nb v≠[]/\Cmp N nb inn v p.1 p.2
section
variable {N v:Nat}{near fc:List (List Int)}{inn seen:List Bool}{dr:List (List Bool)}{nb:Nat->List Nat}{Ps:List (List Nat×List Nat)}
abbrev stP(N:Nat)(near fc:List (List Int))(inn:List Bool)(dr:List (List Bool))(nb:Nat->List Nat)(v:Nat)(Ps:List (List Nat×List Nat))(seen:List Bool)(n:Nat):Int×List (List Int×List Int×Unit)×List Bool×List (List Int)×List Bool×List (List Bool)×List (List Int)×Int×Int×Int×Int×Int×Int×Unit:=
 ((N:Int),pcs Ps,seen,near,inn,dr,fc,(v:Int),(N:Int),(v:Int),(v:Int),(((nb v).length:Nat):Int),(n:Int),())
theorem Shut.grow{seen':List Bool}{ins en:List Nat}(hsh:Shut nb inn seen)(hC:Cmp N nb inn v en ins)(h:∀ x,seen'[x]?=some true↔seen[x]?=some true\/x∈ins):Shut nb inn seen':=by
 intro z hz y hy hin;rw[h];rcases(h z).1 hz with hz|hz
 ·exact .inl (hsh z hz y hy hin)
 exact .inr ((hC.acc z hz y hy).2 hin)
theorem su (hN:N<=64)(R:Nr N near nb)(hnl:near.length=N)(hi:inn.length=N)(hd:Mat N dr)(hsym:∀ x y,x < N->y∈nb x->x∈nb y)(hirr:∀ x,x < N->x∉nb x)(hv:v < N){b:Nat}(hb:b<=1000000)(hs:seen.length=N)(hsh:Shut nb inn seen)(hP:∀ p∈Ps,Pie N nb inn dr p)(hPl:Ps.length<=b) :
  ∃ Ps' seen',Bx (stP N near fc inn dr nb v Ps seen 0)=some (.inl ((N:Int),pcs Ps',seen',near,inn,dr,fc,(N:Int),(v:Int),()))/\seen'.length=N/\Shut nb inn seen'/\(∀ p∈Ps',Pie N nb inn dr p)/\Ps'.length<=b+1000:=by
 have hRl:=R.len v;have hsub:aJ near v=nl (nb v):=by unfold aJ;rw[R.at' v hv];rfl
 obtain⟨c,hin⟩:∃ c,inn[v]?=some c:=⟨_,A1 (by omega)⟩;obtain⟨r,hr,Ps',seen',rfl,q1,q2,q3,q4⟩:=aI (f:=kp)
  (λs=>∃(n:Nat) (Ps:List (List Nat×List Nat)) (seen:List Bool),n<=(nb v).length/\s=stP N near fc inn dr nb v Ps seen n/\seen.length=N/\Shut nb inn seen/\(∀ p∈Ps,Pie N nb inn dr p)/\Ps.length<=b+n)
  (λs=>(s.2.2.2.2.2.2.2.2.2.2.2.1-s.2.2.2.2.2.2.2.2.2.2.2.2.1).toNat)
  (λr=>∃(Ps:List (List Nat×List Nat)) (seen:List Bool),r=.inl ((N:Int),pcs Ps,seen,near,inn,dr,fc,(N:Int),(v:Int),())/\seen.length=N/\Shut nb inn seen/\(∀ p∈Ps,Pie N nb inn dr p)/\Ps.length<=b+(nb v).length)
  (by
   rintro s ⟨n,Ps,seen,hn,rfl,h1,h2,h3,h4⟩;by_cases hlt:n<(nb v).length
   ·left;have hy:(nb v)[n]?=some (nb v)[n]:=A1 hlt;have hym:(nb v)[n]∈nb v:=List.getElem_mem hlt;generalize (nb v)[n]=y at hy hym;have hyN:=R.lt v hv y hym;have dec:((((nb v).length:Nat):Int)-((n+1:Nat):Int)).toNat<((((nb v).length:Nat):Int)-((n:Nat):Int)).toNat:=by omega
    have skip:kp (stP N near fc inn dr nb v Ps seen n)=some (.inl (stP N near fc inn dr nb v Ps seen (n+1)))->(∃ t,kp (stP N near fc inn dr nb v Ps seen n)=some (.inl t)/\(∃(n:Nat) (Ps:List (List Nat×List Nat)) (seen:List Bool),n<=(nb v).length/\t=stP N near fc inn dr nb v Ps seen n/\seen.length=N/\Shut nb inn seen/\(∀ p∈Ps,Pie N nb inn dr p)/\Ps.length<=b+n)/\(t.2.2.2.2.2.2.2.2.2.2.2.1-t.2.2.2.2.2.2.2.2.2.2.2.2.1).toNat<((((nb v).length:Nat):Int)-((n:Nat):Int)).toNat):=λh=>⟨_,h,⟨n+1,Ps,seen,by omega,rfl,h1,h2,h3,by omega⟩,dec⟩;have e1:ay (nl (nb v)).length (n:Int)=some n:=ae (by rw[aQ];exact hlt);cases c with
    |true=>
     obtain⟨c2,hin2⟩:∃ c,inn[y]?=some c:=⟨_,A1 (by omega)⟩;cases c2 with
     |false=>refine skip ?_;unfold kp;simp only[aC (show(n:Int)<((nb v).length:Nat) by omega),UA,J9,hsub,e1,dg,aX hy,ae (show v<inn.length by omega),hin,ae (show y<inn.length by omega),hin2,UB,J4,bv (show n<9223372036854775807 by omega)]
     |true=>
      by_cases hyv:y<v
      ·obtain⟨c3,hc3⟩:∃ c,(aJ dr y)[v]?=some c:=⟨_,A1 (by rw[hd.row y hyN];exact hv)⟩;cases c3 with
       |true=>refine skip ?_;unfold kp;simp only[aC (show(n:Int)<((nb v).length:Nat) by omega),UA,J9,hsub,e1,dg,aX hy,ae (show v<inn.length by omega),hin,ae (show y<inn.length by omega),hin2,UB,J4,bv (show n<9223372036854775807 by omega),aC (show(y:Int)<(v:Int) by omega),ae (show y<dr.length by rw[hd.len];exact hyN),ae (show v<(aJ dr y).length by rw[hd.row y hyN];exact hv),hc3]
       |false=>
        refine⟨stP N near fc inn dr nb v (Ps++[([y,v],[])]) seen (n+1),?_,⟨n+1,_,seen,by omega,rfl,h1,h2,λp hp=>?_,by simp;omega⟩,dec⟩
        ·unfold kp;simp only[aC (show(n:Int)<((nb v).length:Nat) by omega),UA,J9,hsub,e1,dg,aX hy,ae (show v<inn.length by omega),hin,ae (show y<inn.length by omega),hin2,UB,J6,bv (show n<9223372036854775807 by omega),aC (show(y:Int)<(v:Int) by omega),ae (show y<dr.length by rw[hd.len];exact hyN),ae (show v<(aJ dr y).length by rw[hd.row y hyN];exact hv),hc3,
          bx (show(pcs Ps).length+[(([(y:Int),(v:Int)]:List Int),([]:List Int),())].length<=68719476736 by rw[ju];simp only[B6,JB];omega)]
         rw[show pcs Ps++[(([(y:Int),(v:Int)]:List Int),([]:List Int),())]=pcs (Ps++[([y,v],[])]) by rw[xq];rfl]
        rcases A4.1 hp with hp|hp
        ·exact h3 p hp
        rw[B4]at hp;subst hp;refine .inl ⟨rfl,y,v,rfl,hyN,hv,by omega,hin2,hin,λhD=>?_⟩;unfold Dr at hD;rw[hc3]at hD;cases hD
      refine skip ?_;unfold kp;simp only[aC (show(n:Int)<((nb v).length:Nat) by omega),UA,J9,hsub,e1,dg,aX hy,ae (show v<inn.length by omega),hin,ae (show y<inn.length by omega),hin2,UB,J4,bv (show n<9223372036854775807 by omega),bi (show(v:Int)<=(y:Int) by omega)]
    |false=>
     have hvi:inn[v]?≠some true:=by rw[hin];simp
     obtain⟨c2,hsn⟩:∃ c,seen[v]?=some c:=⟨_,A1 (by omega)⟩;cases c2 with
     |true=>refine skip ?_;unfold kp;simp only[aC (show(n:Int)<((nb v).length:Nat) by omega),UA,J9,hsub,e1,dg,aX hy,ae (show v<inn.length by omega),hin,UB,J4,J6,bv (show n<9223372036854775807 by omega),ae (show v<seen.length by omega),hsn]
     |false=>
      obtain⟨en,ins,seen',s1,s2,s3,s4⟩:=zO (near:=near) (fc:=fc) (dr:=dr) hN R hi h1 h2 hsym hv hvi (by rw[hsn];simp);refine⟨stP N near fc inn dr nb v (Ps++[(en,ins)]) seen' (n+1),?_,⟨n+1,_,seen',by omega,rfl,s3,h2.grow s2 s4,λp hp=>?_,by simp;omega⟩,dec⟩
      ·unfold kp;simp only[aC (show(n:Int)<((nb v).length:Nat) by omega),UA,J9,hsub,e1,dg,aX hy,ae (show v<inn.length by omega),hin,UB,J6,bv (show n<9223372036854775807 by omega),ae (show v<seen.length by omega),hsn,s1,
        bx (show(pcs Ps).length+[(nl en,nl ins,())].length<=68719476736 by rw[ju];simp only[B6,JB];omega)]
       rw[show pcs Ps++[(nl en,nl ins,())]=pcs (Ps++[(en,ins)]) by rw[xq];rfl]
      rcases A4.1 hp with hp|hp
      ·exact h3 p hp
      rw[B4]at hp;subst hp;exact .inr ⟨v,hv,List.ne_nil_of_mem hym,s2⟩
   have:n=(nb v).length:=by omega
   subst this;refine .inr ⟨_,?_,Ps,seen,rfl,h1,h2,h3,h4⟩;unfold kp;simp only[bi (JO _),UB])
  _ ⟨0,Ps,seen,K0 _,rfl,hs,hsh,hP,hPl⟩
 exact⟨Ps',seen',hr,q1,q2,q3,by omega⟩
theorem zK (hN:N<=64)(R:Nr N near nb)(hnl:near.length=N)(hi:inn.length=N)(hd:Mat N dr)(hsym:∀ x y,x < N->y∈nb x->x∈nb y)(hirr:∀ x,x < N->x∉nb x) :
  ∃ Ps,Zz (cG N near fc inn dr,())=some (pcs Ps,cG N near fc inn dr,())/\(∀ p∈Ps,Pie N nb inn dr p)/\Ps.length<=64000:=by
 obtain⟨r,hr,Ps',rfl,q3,q4⟩:=aI (f:=tB)
  (λs=>∃(v:Nat) (Ps:List (List Nat×List Nat)) (seen:List Bool),v<=N/\s=((N:Int),pcs Ps,seen,near,inn,dr,fc,(N:Int),(v:Int),())/\seen.length=N/\Shut nb inn seen/\(∀ p∈Ps,Pie N nb inn dr p)/\Ps.length<=1000*v)
  (λs=>(s.2.2.2.2.2.2.2.1-s.2.2.2.2.2.2.2.2.1).toNat)
  (λr=>∃(Ps:List (List Nat×List Nat)),r=.inl ((N:Int),pcs Ps,near,inn,dr,fc,())/\(∀ p∈Ps,Pie N nb inn dr p)/\Ps.length<=1000*N)
  (by
   rintro s ⟨v,Ps,seen,hv,rfl,h1,h2,h3,h4⟩;by_cases hlt:v<N
   ·obtain⟨Ps',seen',r1,r2,r3,r4,r5⟩:=su (fc:=fc) hN R hnl hi hd hsym hirr hlt (b:=1000*v) (by omega) h1 h2 h3 h4;have hsub:aJ near v=nl (nb v):=by unfold aJ;rw[R.at' v hlt];rfl
    refine .inl ⟨((N:Int),pcs Ps',seen',near,inn,dr,fc,(N:Int),((v+1:Nat):Int),()),?_,⟨v+1,Ps',seen',by omega,rfl,r2,r3,r4,by omega⟩,?_⟩
    ·unfold tB;simp only[aC (show(v:Int)<(N:Int) by omega),UA,ae (show v<near.length by omega),dg,hsub,aQ];refine(congrArg (λo=>Jo o _) r1).trans ?_;simp only[dg,Sum.elim_inl,bv (show v<9223372036854775807 by omega)]
    show((N:Int)-((v+1:Nat):Int)).toNat<((N:Int)-((v:Nat):Int)).toNat;omega
   have:v=N:=by omega
   subst this;refine .inr ⟨_,?_,Ps,rfl,h3,h4⟩;unfold tB;simp only[bi (JO _),UB])
  ((N:Int),pcs [],A5 N false,near,inn,dr,fc,(N:Int),((0:Nat):Int),())
  ⟨0,[],A5 N false,K0 _,rfl,by simp,λz hz=>by
   rw[List.getElem?_replicate]at hz;split at hz<;>simp at hz,by simp,by simp⟩
 refine⟨Ps',?_,q3,by omega⟩;have hmk:bG .bool (N:Int) (N:Int)=some (A5 N false):=cy (e:=.bool) (Nat.le_refl N) (by omega);unfold Zz BH;simp only[hmk,dg,hnl];exact(congrArg (λo=>Jo o _) hr).trans rfl
end
end Go.Vm
