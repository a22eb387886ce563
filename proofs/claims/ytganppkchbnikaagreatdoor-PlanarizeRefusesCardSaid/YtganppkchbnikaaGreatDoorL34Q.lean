/-
 A block is embedded, or not: the loop ends.
-/
import Derived.Test.YtganppkchbnikaaGreatDoorL34P
open Option renaming bind_some->dg,bind->Jo
open List renaming mem_cons->A8,mem_singleton->B4,mem_of_getElem?->Jv,length_nil->JB,ne_nil_of_mem->Mb
open Sum renaming elim_inl->Ke
set_option linter.unusedVariables false
set_option linter.unusedSimpArgs false
namespace Go.Vm
set_option maxRecDepth 100000
attribute [local irreducible] aa
section
variable {ε:Type}{J:ε->Nat->Nat->Prop}{B:List ε}{N:Nat}{near:List (List Int)}{nb:Nat->List Nat}
theorem Ad {inn:List Bool}{dr:List (List Bool)}{fc:List (List Int)}(hN:N<=64)(R:Nr N near nb)(hsym:∀ x y,x < N->y∈nb x->x∈nb y)(hJ:∀ e u v,J e u v->J e v u)(hF:Firm J B)(hB:∀ x y,y∈nb x↔∃ e∈B,J e x y){p q:Nat}(hpq:p≠q)(tp:nb p≠[])(tq:nb q≠[])(hi:inn.length=N)(hdi:∀ x y,Dr dr x y->inn[y]?=some true)(hp:inn[p]?=some true)(hq:inn[q]?=some true){en ins:List Nat}(h:Pie N nb inn dr (en,ins)) :
  ∃ P,Zal (cG N near fc inn dr,(nl en,nl ins,()),())=some (nl P,cG N near fc inn dr,())/\Pth N dr en P:=by
 rcases h with⟨h1,a,b,h2,ha,hb,_,_,_,hd⟩|⟨v,hv,hnv,hC⟩
 ·dsimp only at h1 h2;subst h1 h2;exact zR ha hb hd
 obtain⟨e0,R0,he,w,hw,hwe⟩:=hC.two hJ hF hB hnv hp hq hpq tp tq;exact A0 hN R hi hsym hdi hC he hw hwe
theorem ET (hN:N<=64)(R:Nr N near nb)(hnl:near.length=N)(hsym:∀ x y,x < N->y∈nb x->x∈nb y)(hirr:∀ x,x < N->x∉nb x)(hJ:∀ e u v,J e u v->J e v u)(hF:Firm J B)(hB:∀ x y,y∈nb x↔∃ e∈B,J e x y){p q:Nat}(hpq:p≠q)(tp:nb p≠[])(tq:nb q≠[]){inn:List Bool}{dr:List (List Bool)}{fc:List (List Int)}{K:Nat}(hi:inn.length=N)(hd:Mat N dr)(hdi:∀ x y,Dr dr x y->inn[y]?=some true)(hp:inn[p]?=some true)(hq:inn[q]?=some true)(hfc:Fcs N K fc)(hK:K+100 * und N dr<=500000) :
  ∃ ok inn' dr' fc',vG (cG N near fc inn dr)=some (.inl ((N:Int),near,inn',dr',fc',ok,()))/\Fcs N 500000 fc':=by
 obtain⟨r,hr,ok,inn',dr',fc',rfl,q1⟩:=aI (f:=nm)
  (λs=>∃ inn dr fc K,s=cG N near fc inn dr/\inn.length=N/\Mat N dr/\(∀ x y,Dr dr x y->inn[y]?=some true)/\inn[p]?=some true/\inn[q]?=some true/\Fcs N K fc/\K+100*und N dr<=500000) (λs=>und N s.2.2.2.1)
  (λr=>∃ ok inn' dr' fc',r=.inl ((N:Int),near,inn',dr',fc',ok,())/\Fcs N 500000 fc')
  (by
   rintro s ⟨inn,dr,fc,K,rfl,hi,hd,hdi,hp,hq,hfc,hK⟩;have big:Fcs N 500000 fc:=⟨by have:=hfc.len;omega,λf hf=>by have:=hfc.lens f hf;omega,hfc.lt⟩;obtain⟨Ps,p1,p2,p3⟩:=zK (fc:=fc) hN R hnl hi hd hsym hirr;by_cases hP:Ps=[]
   ·subst hP;refine .inr ⟨_,?_,true,inn,dr,fc,rfl,big⟩;unfold nm;refine(congrArg (λo=>Jo o _) p1).trans ?_;simp only[dg,pcs,List.map_nil,JB,cW (show((0:Nat):Int)=0 by omega),UA]
   have hpos:0<Ps.length:=List.length_pos_iff.2 hP;obtain⟨en,ins,l,b1,b2,b3⟩:=EW (near:=near) hN p2 p3 hP (K:=K) (by omega) hfc;cases l with
   |nil=>refine .inr ⟨_,?_,false,inn,dr,fc,rfl,big⟩;unfold nm;refine(congrArg (λo=>Jo o _) p1).trans ?_;simp only[dg,ju,bN (show((Ps.length:Nat):Int)≠0 by omega),UB];refine(congrArg (λo=>Jo o _) b1).trans ?_;simp only[dg,Ke,aQ,JB,cW (show((0:Nat):Int)=0 by omega),UA]
   |cons i l=>
    have ho:=b3 i (by simp);obtain⟨P,t1,t2⟩:=Ad (fc:=fc) hN R hsym hJ hF hB hpq tp tq hi hdi hp hq (p2 _ b2);obtain⟨inn',dr',fc',c1,c2,c3,c4,c5,c6⟩:=G8 (near:=near) hN hi hd ho t2 (K:=K) (by omega) hfc;obtain⟨a,s,w0,w1,wa,waN,wsN,wd⟩:=t2.fst;have hu:und N dr'<und N dr:=Hf (λx y h=>(c5 x y).2 (.inl h)) waN wsN wd ((c5 a s).2 (.inr ⟨0,by have:=t2.len;omega,.inl ⟨w0,w1⟩⟩));refine .inl ⟨cG N near fc' inn' dr',?_,⟨inn',dr',fc',K+100,rfl,c2,c3,λx y hD=>?_,(c4 p).2 (.inl hp),(c4 q).2 (.inl hq),c6,by omega⟩,hu⟩
    ·unfold nm;refine(congrArg (λo=>Jo o _) p1).trans ?_;simp only[dg,ju,bN (show((Ps.length:Nat):Int)≠0 by omega),UB];refine(congrArg (λo=>Jo o _) b1).trans ?_;simp only[dg,Ke,aQ,List.length_cons,bN (show((l.length+1:Nat):Int)≠0 by omega),UB,show aL (nl (i::l)) 0=some (i:Int)from rfl];refine(congrArg (λo=>Jo o _) t1).trans ?_;simp only[dg];refine(congrArg (λo=>Jo o _) c1).trans ?_;rfl
    rcases(c5 x y).1 hD with h|⟨j,_,h|h⟩
    ·exact(c4 y).2 (.inl (hdi x y h))
    ·exact(c4 y).2 (.inr (Jv h.2))
    exact(c4 y).2 (.inr (Jv h.2)))
  (cG N near fc inn dr) ⟨inn,dr,fc,K,rfl,hi,hd,hdi,hp,hq,hfc,hK⟩
 exact⟨ok,inn',dr',fc',hr,q1⟩
theorem Ea (hN:N<=64)(R:Nr N near nb)(hnl:near.length=N)(hsym:∀ x y,x < N->y∈nb x->x∈nb y)(hirr:∀ x,x < N->x∉nb x)(hJ:∀ e u v,J e u v->J e v u)(hF:Firm J B)(hB:∀ x y,y∈nb x↔∃ e∈B,J e x y){u v:Nat}(hu:u < N)(huv:v∈nb u){inn:List Bool}{dr:List (List Bool)}(hi:inn.length=N)(hd:Mat N dr)(hdi:∀ x y,¬ Dr dr x y) :
  ∃ ok inn' dr' fc',Zac (cG N near [] inn dr,(u:Int),(v:Int),())=some (ok,cG N near fc' inn' dr',())/\Fcs N 500000 fc':=by
 have hne:u≠v:=λh=>hirr u hu (h▸huv);have small:∀ P:List Nat,P.length<3->Za (((N:Int),near,inn,dr,[],()),(u:Int),((v:Int),()),((v:Int),()),((v:Int),()),())=some (nl P,())->∃ ok inn' dr' fc',Zac (cG N near [] inn dr,(u:Int),(v:Int),())=some (ok,cG N near fc' inn' dr',())/\Fcs N 500000 fc':=λP h1 h2=>by refine⟨false,inn,dr,[],?_,⟨by simp,by simp,by simp⟩⟩;unfold Zac Zai;simp only[cG,h2,dg,aQ,aC (show((P.length:Nat):Int)<3 by omega),UA]
 rcases GL (fc:=[]) (inn:=inn) (dr:=dr) (v:=v) hN R hu with⟨P,h1,h2⟩|⟨h1,_⟩
 ·by_cases h3:P.length<3
  ·exact small P h3 h1
  have hlen:=h2.len;obtain⟨y,hy,hg,hyu⟩:=h2.lst;have hyv:y=v:=by
   have:((y:Nat):Int)=(v:Int):=by simpa[eqI]using hg
   omega
  subst hyv;have hyP:y∈P:=List.mem_of_getLast? hy;have huP:u∈P:=Jv h2.fst;have hlt:∀ z∈P++[u],z<N:=λz hz=>by
   rcases List.mem_append.1 hz with h|h
   ·exact h2.lt z h
   rw[B4]at h;subst h;exact hu
  obtain⟨inn',dr',d1,d2,d3,d4,d5⟩:=Ar (n:=N) (near:=near) (fc:=[nl P,(nl P).reverse]) (P:=P++[u]) hi hd hlt (by simp;omega);have hund:=G9 N dr';have hNN:N*N<=64*64:=Nat.mul_le_mul hN hN;have hmem:∀ x∈nl P,∃ z:Nat,z<N/\x=(z:Int):=λx hx=>by simp only[nl,List.mem_map]at hx;obtain⟨z,q1,rfl⟩:=hx;exact⟨z,h2.lt z q1,rfl⟩
  have hy2:u∈nb y:=hsym u y hu huv;obtain⟨ok,inn2,dr2,fc2,e1,e2⟩:=ET (J:=J) (B:=B) hN R hnl hsym hirr hJ hF hB (p:=u) (q:=y) hne (Mb huv) (Mb hy2) (fc:=[nl P,(nl P).reverse]) (K:=200) d2 d3 (λx z hD=>by
   rcases(d5 x z).1 hD with h|⟨j,_,h|h⟩
   ·exact absurd h (hdi x z)
   ·exact(d4 z).2 (.inr (Jv h.2))
   ·exact(d4 z).2 (.inr (Jv h.2))) ((d4 u).2 (.inr (by simp))) ((d4 y).2 (.inr (by simp[hyP]))) ⟨by simp,λf hf=>by
   rcases A8.1 hf with rfl|hf
   ·rw[aQ];omega
   ·rw[B4]at hf;subst hf;rw[List.length_reverse,aQ];omega,λf hf=>by
   rcases A8.1 hf with rfl|hf
   ·exact hmem
   rw[B4]at hf;subst hf;exactλx hx=>hmem x (List.mem_reverse.1 hx)⟩ (by omega)
  refine⟨ok,inn2,dr2,fc2,?_,e2⟩;have c1:Zaz (nl P,())=some (nl P,()):=nj _ (by rw[aQ];omega);have r1:Zam (nl P,())=some ((nl P).reverse,()):=sI _ (by rw[aQ];omega);have g0:aL (nl P) 0=some (u:Int):=(ax (i:=0)).trans (aX h2.fst);have a1:app (nl P) [(u:Int)]=some (nl (P++[u])):=by rw[bx (by rw[aQ];simp;omega),gj];rfl
  unfold Zac Zai;simp only[cG,h1,dg,aQ,bi (show(3:Int)<=((P.length:Nat):Int) by omega),UB,c1,r1,g0,a1];refine(congrArg (λo=>Jo o _) d1).trans ?_;simp only[dg];exact(congrArg (λo=>Jo o _) e1).trans rfl
 exact small [] (by simp) h1
end
end Go.Vm
