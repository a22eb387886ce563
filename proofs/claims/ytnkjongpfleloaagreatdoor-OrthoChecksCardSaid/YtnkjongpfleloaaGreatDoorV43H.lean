/-
 OrthoChecks: the loops of the reference.
-/
import Derived.Test.YtnkjongpfleloaaGreatDoorV43G
open List renaming getElem?_eq_getElem->dg,range->A2,mem_of_getElem?->B7,length_range->RZ
open Option renaming bind_some->pw
set_option linter.unusedVariables false
set_option linter.unusedSimpArgs false
namespace Go.Vm
set_option maxRecDepth 100000
attribute [local irreducible] ac
def vB(o:Option (Bool×Unit)):Bool:=match o with
 |some (b,_)=>b
 |none=>false
theorem Oa{o:Option (Bool×Unit)}{b:Bool}(h:o=some (b,())):vB o=b:=by rw[h];rfl
theorem wE(N:Int)(P:List PtD)(hP:P.length<=1000):Zag (N,P,())=some (cond ((A2 P.length).any (iN P)) false (eqI (P.length:Int) N),()):=by
 have inner:∀ c,c<P.length->∀ p,P[c]?=some p->yh (N,P,(c:Int),0,())=some (cond ((P.take c).any λq=>aZ p q) (.inl (false,())) (.inr (.inl (N,P,(c:Int),())))):=by
  intro c hc p hp;have hlen:(P.take c).length=c:=by rw[List.length_take];omega
  have:=df (B:=pW) (P.take c) (λd=>(N,P,(c:Int),(d:Int),())) (λq=>aZ p q) (.inl (false,())) (.inr (.inl (N,P,(c:Int),()))) (by
   intro d hd;have hdc:d<c:=by omega
   have hq:(P.take c)[d]=P[d]:=List.getElem_take;rw[hq];simp only[pW];rw[cr (by omega),UA,aR,aR,hp,dg (show d<P.length by omega),d9 (by omega)];simp only[pw];rw[show((eqI P[d].1 p.1)&&((eqI P[d].2.1 p.2.1)&&true))=aZ P[d] p from rfl,iz];cases aZ p P[d]<;>rfl) (by
   simp only[pW,hlen];rw[cf (by omega)];rfl)
  exact this
 have:=df (B:=qr) (A2 P.length) (λi=>(N,P,(i:Int),())) (iN P) (.inl (false,())) (.inr (.inl (N,P,()))) (by
  intro i hi;have hi':i<P.length:=by simpa using hi
  rw[dz];simp only[qr,iN];rw[cr (by omega),UA,aR,dg hi',pw,km,pw,inner i hi' _ (dg hi')];have ad:ae .i64 (i:Int) 1=((i+1:Nat):Int):=d9 (by omega);show _=(some (cond (!ptB P[i]||(P.take i).any λp=>aZ P[i] p) (Sum.inr (Sum.inl (false,()))) (Sum.inl (N,P,((i+1:Nat):Int),()))):Option ((Int×List PtD×Int×Unit)⊕((Bool×Unit)⊕((Int×List PtD×Unit)⊕Empty))));cases ptB P[i]with
  |false=>rfl
  |true=>
   cases(P.take i).any λq=>aZ P[i] q with
   |true=>rfl
   |false=>exact congrArg (λz:Int=>(some (Sum.inl (N,P,z,())):Option (_⊕((Bool×Unit)⊕((Int×List PtD×Unit)⊕Empty))))) ad) (by
  simp only[qr,RZ];rw[cf (by omega)];rfl)
 unfold Zag;simp only;rw[show xT (N,P,0,())=_ from this];cases(A2 P.length).any (iN P)<;>rfl
theorem iC(l:List PtD)(k:Nat)(h:k+1<l.length)(hl:l.length<=1000):Zy (l,(k:Int),())=some ((l[k],l[k+1],()),()):=by unfold Zy;simp only;rw[aR,d9 (by omega),aR,dg h,dg (show k<l.length by omega)];rfl
noncomputable def tcB(s t:SegD):Bool:=match Zao (s,t,())with
 |some (_,ok,_)=>ok
 |none=>false
noncomputable def rgB(l:List PtD)(k m:Nat):Bool:=match(sgD l)[m]?,(sgD l)[k]? with
 |some s,some t=>cond (decide (m+1=k)) (!tcB s t) (mtB s t)
 |_,_=>false
theorem fp{l:List PtD}{i:Nat}(h:i+1<l.length):(sgD l)[i]?=some (l[i],l[i+1],()):=by
 have hs:i<(sgD l).length:=by rw[iv];omega
 rw[dg hs,t6 l i hs (by omega) h]
def rL(l:List PtD):Prop:=∀ s∈sgD l,okS s/\axS s
theorem DB(l:List PtD)(hl:l.length<=1000)(hs:rL l):re (l,0,())=some (cond ((A2 (l.length-1)).any λk=>(A2 k).any (rgB l k)) (.inl (false,())) (.inr (.inl ()))):=by
 have inner:∀ k,k+1<l.length->xV (l,(k:Int),0,())=some (cond ((A2 k).any (rgB l k)) (.inl (false,())) (.inr (.inl (l,(k:Int),())))):=by
  intro k hk;have:=df (B:=qe) (A2 k) (λm=>(l,(k:Int),(m:Int),())) (rgB l k) (.inl (false,())) (.inr (.inl (l,(k:Int),()))) (by
   intro m hm;have hm':m<k:=by simpa using hm
   rw[dz];have gm:=fp (l:=l) (i:=m) (by omega);have gk:=fp (l:=l) (i:=k) hk;obtain⟨o1,a1⟩:=hs _ (B7 gm);obtain⟨o2,a2⟩:=hs _ (B7 gk);obtain⟨c,ok,t1,_,_⟩:=qx _ _ o1 o2 a1 a2;simp only[qe,rgB,gm,gk];rw[cr (by omega),UA,iC l m (by omega) hl,iC l k hk hl];simp only[pw];rw[show Zao (((l[m].1,l[m].2.1,()),(l[m+1].1,l[m+1].2.1,()),()),((l[k].1,l[k].2.1,()),(l[k+1].1,l[k+1].2.1,()),()),())=_ from t1,
    show Zbm (((l[m].1,l[m].2.1,()),(l[m+1].1,l[m+1].2.1,()),()),((l[k].1,l[k].2.1,()),(l[k+1].1,l[k+1].2.1,()),()),())=_ from zz _ _ o1 o2,d9 (by omega)]
   have htc:tcB (l[m],l[m+1],()) (l[k],l[k+1],())=ok:=by unfold tcB;rw[t1]
   rw[htc];by_cases he:m+1=k
   ·rw[cf (by omega),dY (by omega),decide_eq_true he];cases ok<;>rfl
   ·rw[cr (by omega),dM (by omega),decide_eq_false he];cases mtB (l[m],l[m+1],()) (l[k],l[k+1],())<;>rfl) (by
   simp only[qe,RZ];rw[cf (by omega)];rfl)
  exact this
 have:=df (B:=qd) (A2 (l.length-1)) (λk=>(l,(k:Int),())) (λk=>(A2 k).any (rgB l k)) (.inl (false,())) (.inr (.inl ())) (by
  intro k hk;have hk':k<l.length-1:=by simpa using hk
  rw[dz];have ad:ae .i64 (k:Int) 1=((k+1:Nat):Int):=d9 (by omega);simp only[qd];rw[ad,cr (by omega),UA,inner k (by omega)];cases(A2 k).any (rgB l k)with
  |true=>rfl
  |false=>exact congrArg (λz:Int=>(some (Sum.inl (l,z,())):Option (_⊕((Bool×Unit)⊕(Unit⊕Empty))))) ad) (by
  have ad:ae .i64 ((l.length-1:Nat):Int) 1=((l.length-1+1:Nat):Int):=d9 (by omega);simp only[qd,RZ];rw[ad,cf (by omega)];rfl)
 exact this
def frB(P:List PtD)(a:PtD)(l:List PtD)(v k:Nat):Bool:=match P[v]?,l[k]?,l[k+1]? with
 |some q,some x,some y=>onB (x,y,()) q&&(!(eqI (k:Int) 0&&(eqI (v:Int) a.1&&aZ q x)) && !(eqI ((k+2:Nat):Int) (l.length:Int)&&(eqI (v:Int) a.2.1&&aZ q y)))
 |_,_,_=>false
theorem JF (P:List PtD)(a:PtD)(l:List PtD)(hP:P.length<=1000)(hpv:∀ p∈P,ptB p=true)(hl:l.length<=1000)(hs:rL l) :
  Zbj (P,a,l,())=some (!(A2 P.length).any λv=>(A2 (l.length-1)).any (frB P a l v),()):=by
 have inner:∀ v,v<P.length->wU (a.1,a.2.1,P,l,(v:Int),0,())=some (cond ((A2 (l.length-1)).any (frB P a l v)) (.inl (false,())) (.inr (.inl (a.1,a.2.1,P,l,(v:Int),())))):=by
  intro v hv;have:=df (B:=qw) (A2 (l.length-1)) (λk=>(a.1,a.2.1,P,l,(v:Int),(k:Int),())) (frB P a l v) (.inl (false,())) (.inr (.inl (a.1,a.2.1,P,l,(v:Int),()))) (by
   intro k hk;have hk':k<l.length-1:=by simpa using hk
   rw[dz];have gk:=fp (l:=l) (i:=k) (by omega);obtain⟨o1,a1⟩:=hs _ (B7 gk);have hk1:k+1<l.length:=by omega
   have hp0:0<l.length:=by omega
   have ad:ae .i64 (k:Int) 1=((k+1:Nat):Int):=d9 (by omega);have ad2:ae .i64 (k:Int) 2=((k+2:Nat):Int):=by rw[uf (by omega) (by omega)];rfl
   have on:=mQ P[v] (l[k],l[k+1],()) o1 (hpv _ (List.getElem_mem hv));simp only[qw,frB,dg hv,dg hk1,dg (show k<l.length by omega)];rw[ad,ad2,cr (by omega),UA,iC l k (by omega) hl,aR,aR,dg hv,dg hk1];simp only[pw];rw[show Zce (P[v],((l[k].1,l[k].2.1,()),(l[k+1].1,l[k+1].2.1,()),()),())=_ from on];simp only[pw];rw[show((eqI P[v].1 l[k+1].1)&&((eqI P[v].2.1 l[k+1].2.1)&&true))=aZ P[v] l[k+1]from rfl];rcases Nat.eq_zero_or_pos k with h0|h0
   ·subst h0;rw[show(0:Int)=((0:Nat):Int)from rfl,aR,dg hp0,show eqI ((0:Nat):Int) ((0:Nat):Int)=true from rfl];simp only[pw];rw[show((eqI P[v].1 l[0].1)&&((eqI P[v].2.1 l[0].2.1)&&true))=aZ P[v] l[0]from rfl];cases onB (l[0],l[0+1],()) P[v]<;>cases eqI (v:Int) a.1<;>cases aZ P[v] l[0]<;>cases eqI ((0+2:Nat):Int) (l.length:Int)<;>cases eqI (v:Int) a.2.1<;>cases aZ P[v] l[0+1]<;>rfl
   ·rw[dM (show(k:Int)≠0 by omega)];cases onB (l[k],l[k+1],()) P[v]<;>cases eqI ((k+2:Nat):Int) (l.length:Int)<;>cases eqI (v:Int) a.2.1<;>cases aZ P[v] l[k+1]<;>rfl) (by
   have ad:ae .i64 ((l.length-1:Nat):Int) 1=((l.length-1+1:Nat):Int):=d9 (by omega);simp only[qw,RZ];rw[ad,cf (by omega)];rfl)
  exact this
 have:=df (B:=qE) (A2 P.length) (λv=>(a.1,a.2.1,P,l,(v:Int),())) (λv=>(A2 (l.length-1)).any (frB P a l v)) (.inl (false,())) (.inr (.inl ())) (by
  intro v hv;have hv':v<P.length:=by simpa using hv
  rw[dz];have ad:ae .i64 (v:Int) 1=((v+1:Nat):Int):=d9 (by omega);simp only[qE];rw[cr (by omega),UA,inner v hv'];cases(A2 (l.length-1)).any (frB P a l v)with
  |true=>rfl
  |false=>exact congrArg (λz:Int=>(some (Sum.inl (a.1,a.2.1,P,l,z,())):Option (_⊕((Bool×Unit)⊕(Unit⊕Empty))))) ad) (by
  simp only[qE,RZ];rw[cf (by omega)];rfl)
 unfold Zbj;simp only;rw[show yg (a.1,a.2.1,P,l,0,())=_ from this];cases(A2 P.length).any λv=>(A2 (l.length-1)).any (frB P a l v)<;>rfl
end Go.Vm
