/-
 The best piece; a face is cut; the loop of a block's embedding ends.
-/
import Derived.Test.YtganppkchbnikaaGreatDoorL34O
open Option renaming bind_some->dg,bind->Jo
open List renaming getElem?_eq_getElem->A1,getElem?_eq_some_iff->A2,mem_append->A4,mem_singleton->B4,mem_cons_of_mem->Jq,length_append->JE,length_drop->JU,mem_of_mem_take->JV,mem_of_mem_drop->J3,length_take->Kf,getElem_mem->Ko,mem_or_eq_of_mem_set->La,length_reverse->L5,countP_cons->Mo
open Nat renaming le_refl->B2,mul_comm->L6
set_option linter.unusedVariables false
set_option linter.unusedSimpArgs false
namespace Go.Vm
set_option maxRecDepth 100000
attribute [local irreducible] aa
theorem nV{α:Type}{l:List α}{lo hi:Nat}(h:lo<=hi)(h2:hi<=l.length):iO l (lo:Int) (hi:Int)=some ((l.take hi).drop lo):=by unfold iO;rw[if_pos ⟨by omega,by omega,by omega⟩];simp
theorem tX{n lo hi:Nat}(h:lo<=hi)(h2:hi<=n):dF n (lo:Int) (hi:Int)=some (lo,hi-lo):=by unfold dF;rw[if_pos ⟨by omega,by omega,by omega⟩];simp
theorem nL{α:Type}{p q:α->Bool}:∀{l:List α},(∀ x∈l,q x=true->p x=true)->(∃ x∈l,p x=true/\q x=false)->l.countP q<l.countP p
 |[],_,⟨_,h,_⟩=>by cases h
 |a::l,h1,⟨x,hx,h2,h3⟩=>by
  have hle:∀{l:List α},(∀ x∈l,q x=true->p x=true)->l.countP q<=l.countP p:=λh=>List.countP_mono_left h;rw[Mo,Mo];rcases List.mem_cons.1 hx with rfl|hx
  ·have:=hle (l:=l) λy hy=>h1 y (Jq _ hy);rw[h2,h3];simp;omega
  have:=nL (l:=l) (λy hy=>h1 y (Jq _ hy)) ⟨x,hx,h2,h3⟩;have:=h1 a (by simp);cases hq:q a with
  |true=>rw[this hq];simp;omega
  |false=>simp;omega
def und(N:Nat)(dr:List (List Bool)):Nat:=(List.range (N*N)).countP λi=>(aJ dr (i/N))[i%N]? != some true
theorem G9(N:Nat)(dr:List (List Bool)):und N dr<=N*N:=by unfold und;exact Nat.le_trans List.countP_le_length (by simp)
theorem Hf{N a s:Nat}{dr dr':List (List Bool)}(h:∀ x y,Dr dr x y->Dr dr' x y)(ha:a<N)(hs:s<N)(h1:¬Dr dr a s)(h2:Dr dr' a s):und N dr'<und N dr:=by
 have e1:(a*N+s)/N=a:=by rw[L6,Nat.mul_add_div (by omega),Nat.div_eq_of_lt hs];rfl
 have e2:(a*N+s)%N=s:=by rw[L6,Nat.mul_add_mod,Nat.mod_eq_of_lt hs]
 apply nL
 ·intro x _ hx;rw[bne_iff_ne]at hx ⊢;exactλhD=>hx (h _ _ hD)
 refine⟨a*N+s,List.mem_range.2 ?_,?_,?_⟩
 ·have:(a+1)*N<=N*N:=Nat.mul_le_mul_right N ha;rw[Nat.add_mul]at this;omega
 ·rw[e1,e2,bne_iff_ne];exact h1
 rw[e1,e2,bne_eq_false_iff_eq];exact h2
section
variable {N v:Nat}{near fc:List (List Int)}{inn:List Bool}{dr:List (List Bool)}{nb:Nat->List Nat}{en ins:List Nat}
structure Fcs (N K:Nat)(fc:List (List Int)):Prop where
 len:fc.length<=K
 lens:∀ f∈fc,f.length<=K
 lt:∀ f∈fc,∀ x∈f,∃ y:Nat,y<N/\x=(y:Int)
theorem Pie.en_le{p:List Nat×List Nat}(h:Pie N nb inn dr p)(hN:N<=64):p.1.length<=1000:=by
 rcases h with⟨_,a,b,h,_⟩|⟨v,_,_,h⟩
 ·rw[h];simp
 have:=dZ h.enod λx hx=>(h.enp x hx).1;omega
theorem EW {Ps:List (List Nat×List Nat)}(hN:N<=64)(hP:∀ p∈Ps,Pie N nb inn dr p)(hPl:Ps.length<=64000)(h0:Ps≠[]){K:Nat}(hK:K<=1000000)(hF:Fcs N K fc) :
  ∃ en ins l:List Nat,sj ((N:Int),[],[],[],pcs Ps,near,inn,dr,fc,((Ps.length:Nat):Int),0,())=some (.inl ((N:Int),nl en,nl ins,nl l,near,inn,dr,fc,()))/\(en,ins)∈Ps/\∀ i∈l,Onf fc en i:=by
 have hpos:0<Ps.length:=List.length_pos_iff.2 h0;obtain⟨r,hr,en,ins,l,rfl,q1,q2⟩:=aI (f:=gr)
  (λs=>∃(n:Nat) (en ins l:List Nat),n<=Ps.length/\s=((N:Int),nl en,nl ins,nl l,pcs Ps,near,inn,dr,fc,((Ps.length:Nat):Int),(n:Int),())/\(0<n->(en,ins)∈Ps/\∀ i∈l,Onf fc en i)) (λs=>(s.2.2.2.2.2.2.2.2.2.1-s.2.2.2.2.2.2.2.2.2.2.1).toNat)
  (λr=>∃ en ins l:List Nat,r=.inl ((N:Int),nl en,nl ins,nl l,near,inn,dr,fc,())/\(en,ins)∈Ps/\∀ i∈l,Onf fc en i)
  (by
   rintro s ⟨n,en,ins,l,hn,rfl,h1⟩;by_cases hlt:n<Ps.length
   ·left;have hy:Ps[n]?=some Ps[n]:=A1 hlt;have hym:Ps[n]∈Ps:=Ko hlt;generalize Ps[n]=p at hy hym;have hyp:(pcs Ps)[n]?=some (nl p.1,nl p.2,()):=by simp[pcs,hy]
    have dec:(((Ps.length:Nat):Int)-((n+1:Nat):Int)).toNat<(((Ps.length:Nat):Int)-((n:Nat):Int)).toNat:=by omega
    obtain⟨l',e1,e2⟩:=uZ (N:=N) (near:=near) (inn:=inn) (dr:=dr) (fc:=fc) p.1 p.2 ((hP p hym).en_le hN) (λf hf=>by have:=hF.lens f hf;omega) (by have:=hF.len;omega);have take:gr ((N:Int),nl en,nl ins,nl l,pcs Ps,near,inn,dr,fc,((Ps.length:Nat):Int),(n:Int),())=some (.inl ((N:Int),nl p.1,nl p.2,nl l',pcs Ps,near,inn,dr,fc,((Ps.length:Nat):Int),((n+1:Nat):Int),()))->(∃ t,gr ((N:Int),nl en,nl ins,nl l,pcs Ps,near,inn,dr,fc,((Ps.length:Nat):Int),(n:Int),())=some (.inl t)/\(∃(n:Nat) (en ins l:List Nat),n<=Ps.length/\t=((N:Int),nl en,nl ins,nl l,pcs Ps,near,inn,dr,fc,((Ps.length:Nat):Int),(n:Int),())/\(0<n->(en,ins)∈Ps/\∀ i∈l,Onf fc en i))/\(t.2.2.2.2.2.2.2.2.2.1-t.2.2.2.2.2.2.2.2.2.2.1).toNat<(((Ps.length:Nat):Int)-((n:Nat):Int)).toNat):=λh=>⟨_,h,⟨n+1,p.1,p.2,l',by omega,rfl,λ_=>⟨hym,e2⟩⟩,dec⟩;by_cases hn0:n=0
    ·refine take ?_;unfold gr;simp only[aC (show(n:Int)<(Ps.length:Nat) by omega),UA,ae (show n<(pcs Ps).length by rw[ju];exact hlt),dg,hyp];refine(congrArg (λo=>Jo o _) e1).trans ?_;simp only[dg,cW (show(n:Int)=0 by omega),UA,bv (show n<9223372036854775807 by omega)]
    by_cases hll:l'.length<l.length
    ·refine take ?_;unfold gr;simp only[aC (show(n:Int)<(Ps.length:Nat) by omega),UA,ae (show n<(pcs Ps).length by rw[ju];exact hlt),dg,hyp];refine(congrArg (λo=>Jo o _) e1).trans ?_;simp only[dg,bN (show(n:Int)≠0 by omega),UB,aQ,aC (show((l'.length:Nat):Int)<(l.length:Nat) by omega),UA,bv (show n<9223372036854775807 by omega)]
    refine⟨((N:Int),nl en,nl ins,nl l,pcs Ps,near,inn,dr,fc,((Ps.length:Nat):Int),((n+1:Nat):Int),()),?_,⟨n+1,en,ins,l,by omega,rfl,λ_=>h1 (by omega)⟩,dec⟩;unfold gr;simp only[aC (show(n:Int)<(Ps.length:Nat) by omega),UA,ae (show n<(pcs Ps).length by rw[ju];exact hlt),dg,hyp];refine(congrArg (λo=>Jo o _) e1).trans ?_;simp only[dg,bN (show(n:Int)≠0 by omega),UB,aQ,bi (show((l.length:Nat):Int)<=(l'.length:Nat) by omega),bv (show n<9223372036854775807 by omega)]
   have:n=Ps.length:=by omega
   subst this;refine .inr ⟨_,?_,en,ins,l,rfl,h1 hpos⟩;unfold gr;simp only[bi (Int.le_refl _),UB])
  ((N:Int),nl [],nl [],nl [],pcs Ps,near,inn,dr,fc,((Ps.length:Nat):Int),((0:Nat):Int),())
  ⟨0,[],[],[],by omega,rfl,λh=>absurd h (by omega)⟩
 exact⟨en,ins,l,hr,q1,q2⟩
theorem G8 (hN:N<=64)(hi:inn.length=N)(hd:Mat N dr){i K:Nat}(ho:Onf fc en i){P:List Nat}(hP:Pth N dr en P)(hK:K<=1000000)(hF:Fcs N K fc) :
  ∃ inn' dr' fc',Zav (cG N near fc inn dr,(i:Int),nl P,())=some (cG N near fc' inn' dr',())/\inn'.length=N/\Mat N dr'/\(∀ u,inn'[u]?=some true↔inn[u]?=some true\/u∈P)/\(∀ u w,Dr dr' u w↔Dr dr u w\/Nbr P P.length u w)/\Fcs N (K+100) fc':=by
 obtain⟨f,hf,hon⟩:=ho;have hfm:=List.mem_of_getElem? hf;have hil:i<fc.length:=(A2.1 hf).1;have hfl:=hF.lens f hfm;have hfx:=hF.lt f hfm;have hfcl:=hF.len;obtain⟨a,s,p0,p1,ha,haN,hsN,hnd⟩:=hP.fst;obtain⟨y,py,hye⟩:=hP.lst;obtain⟨hl1,hl2⟩:=hP.len;rw[List.getLast?_eq_getElem?]at py;have q1:(nl P)[0]?=some (a:Int):=aX p0;have q2:(nl P)[P.length-1]?=some (y:Int):=aX py;rcases qc f (a:Int) (by omega)with⟨_,h⟩|⟨k,hk,hik⟩
 ·exact absurd (hon a ha) h
 have hkl:k<f.length:=(A2.1 hk).1;have s1:iO f (k:Int) ((f.length:Nat):Int)=some (f.drop k):=by rw[nV (by omega) (B2 _),List.take_length]
 have s2:iO f 0 (k:Int)=some (f.take k):=(nV (lo:=0) (Nat.zero_le _) (by omega)).trans (by rw[List.drop_zero]);have c1:Zaz (f.drop k,())=some (f.drop k,()):=nj _ (by rw[JU];omega);have a1:app (f.drop k) (f.take k)=some (f.drop k++f.take k):=bx (by rw[JU,Kf];omega);obtain⟨A,hA⟩:∃ A,A=f.drop k++f.take k:=⟨_,rfl⟩;rw[<- hA]at a1;have hAl:A.length=f.length:=by rw[hA,JE,JU,Kf];omega
 have hAm:∀ x,x∈A->x∈f:=λx hx=>by
  rw[hA]at hx;rcases A4.1 hx with h|h
  ·exact J3 h
  exact JV h
 have hyA:(y:Int)∈A:=by have:=hon y hye;rw[<- List.take_append_drop k f,A4]at this;rw[hA,A4];exact this.symm
 rcases qc A (y:Int) (by omega)with⟨_,h⟩|⟨m,hm,him⟩
 ·exact absurd hyA h
 have hml:m<A.length:=(A2.1 hm).1;have e1:dK .i64 ((P.length:Nat):Int) 1=((P.length-1:Nat):Int):=by rw[qT (by omega)];omega
 have s3:iO (nl P) 1 ((P.length-1:Nat):Int)=some (((nl P).take (P.length-1)).drop 1):=nV (lo:=1) (by omega) (by rw[aQ];omega);obtain⟨M,hM⟩:∃ M,M=((nl P).take (P.length-1)).drop 1:=⟨_,rfl⟩;rw[<- hM]at s3;have hMl:M.length<=64:=by rw[hM,JU,Kf,aQ];omega
 have hMm:∀ x∈M,∃ z:Nat,z<N/\x=(z:Int):=λx hx=>by rw[hM]at hx;have:=JV (J3 hx);simp only[nl,List.mem_map]at this;obtain⟨z,h1,rfl⟩:=this;exact⟨z,hP.lt z h1,rfl⟩
 have c2:Zaz (M,())=some (M,()):=nj _ (by omega);have r1:Zam (M,())=some (M.reverse,()):=sI _ (by omega);have v1:dF A.length 0 ((m+1:Nat):Int)=some (0,m+1):=tX (lo:=0) (by omega) (by omega);have v2:dF A.length (m:Int) ((A.length:Nat):Int)=some (m,A.length-m):=tX (by omega) (B2 _);have c3:Zaz ((A.drop 0).take (m+1),())=some ((A.drop 0).take (m+1),()):=nj _ (by rw[Kf,JU];omega);have a2:app ((A.drop 0).take (m+1)) M.reverse=some ((A.drop 0).take (m+1)++M.reverse):=bx (by rw[Kf,JU,L5];omega);have i0:ay A.length 0=some 0:=ae (i:=0) (by omega);have g0:A[0]?=some A[0]:=A1 (by omega);have a3:app [A[0]] M=some ([A[0]]++M):=bx (by simp;omega);have a4:app ([A[0]]++M) ((A.drop m).take (A.length-m))=some (([A[0]]++M)++(A.drop m).take (A.length-m)):=bx (by simp;omega);obtain⟨F1,hF1⟩:∃ F1,F1=(A.drop 0).take (m+1)++M.reverse:=⟨_,rfl⟩;obtain⟨F2,hF2⟩:∃ F2,F2=([A[0]]++M)++(A.drop m).take (A.length-m):=⟨_,rfl⟩;rw[<- hF1]at a2;rw[<- hF2]at a4;have hF1l:F1.length<=K+100:=by rw[hF1,JE,Kf,JU,L5];omega
 have hF2l:F2.length<=K+100:=by rw[hF2];simp;omega
 have hF1m:∀ x∈F1,∃ z:Nat,z<N/\x=(z:Int):=λx hx=>by
  rw[hF1]at hx;rcases A4.1 hx with h|h
  ·exact hfx x (hAm x (by simpa using JV h))
  exact hMm x (List.mem_reverse.1 h)
 have hF2m:∀ x∈F2,∃ z:Nat,z<N/\x=(z:Int):=λx hx=>by
  rw[hF2]at hx;rcases A4.1 hx with h|h
  ·rcases A4.1 h with h|h
   ·rw[B4]at h;subst h;exact hfx _ (hAm _ (Ko _))
   exact hMm x h
  exact hfx x (hAm x (J3 (JV h)))
 have a5:app (fc.set i F1) [F2]=some (fc.set i F1++[F2]):=bx (by simp;omega);obtain⟨inn',dr',d1,d2,d3,d4,d5⟩:=Ar (n:=N) (near:=near) (fc:=fc.set i F1++[F2]) (P:=P) hi hd hP.lt (by omega);refine⟨inn',dr',fc.set i F1++[F2],?_,d2,d3,d4,d5,⟨by simp;omega,λg hg=>?_,λg hg=>?_⟩⟩
 ·unfold Zav;simp only[ae hil,dg,hf];simp only[show aL (nl P) 0=some (a:Int)from q1,dg,hik,s1,c1,s2,a1,aQ,e1,ax,q2,him,s3,c2,r1,bv (show m<9223372036854775807 by omega),v1,c3,a2,i0,g0,a3,v2,a4,a5];exact(congrArg (λo=>Jo o _) d1).trans rfl
 ·rcases A4.1 hg with h|h
  ·rcases La h with h|rfl
   ·have:=hF.lens g h;omega
   exact hF1l
  rw[B4]at h;subst h;exact hF2l
 rcases A4.1 hg with h|h
 ·rcases La h with h|rfl
  ·exact hF.lt g h
  exact hF1m
 rw[B4]at h;subst h;exact hF2m
end
end Go.Vm
