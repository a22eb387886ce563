/-
 Options, bends, bounds, clusters.
-/
import Derived.Test.YtdijhiodknmjaaaGreatDoorLA
open Option renaming bind_some->bv,getD_some->We,isNone_some->Yc,isSome_some->Yd
open List renaming getElem?_eq_getElem->bx,getElem?_eq_some_iff->tz,getElem_mem->A2,length_cons->B2,length_nil->B8,mem_of_getElem?->B9,range->L7,length_append->U6,length_take->Vd,length_map->Vq,append_assoc->Vv,length_range->VC,getElem_of_mem->VJ,foldl_cons->VU,getElem_take->Wo,getElem_range->WI,length_filter_le->WS,all_eq_not_any_not->Xh,filter_cons->Yz,any_cons->YR
open Bool renaming and_eq_true->sg,not_true->U8,false_or->Wp,not_false->Xc
open Nat renaming le_refl->B5,zero_le->L4
open Sum renaming elim_inl->B7,elim_inr->Vx
open Option.some renaming inj->L9
open Int renaming toNat_natCast->VE,neg_mul->Xy,eq_ofNat_of_zero_le->XS,lt_or_le->XY
set_option linter.unusedVariables false
set_option linter.unusedSimpArgs false
/-
 AuditFinds: options, short numbers, bends and bounds, in the program and in the reference.
-/
namespace Go.Vm
open Go.Proofs
set_option maxRecDepth 100000
attribute [local irreducible] ab
theorem Gk(x lo hi:Int)(h:lo<=hi):eqI x (bL (dj x lo) hi)=(geI x lo&&leI x hi):=by
 unfold eqI bL dj geI leI;by_cases h1:lo>x
 ·rw[if_pos h1];rw[if_neg (by omega)];have a1:(x==lo)=false:=by simp;omega
  have a2:decide (x>=lo)=false:=by simp;omega
  rw[a1,a2];rfl
 rw[if_neg h1];have a2:decide (x>=lo)=true:=by simp;omega
 rw[a2];by_cases h2:hi<x
 ·rw[if_pos h2];have a1:(x==hi)=false:=by simp;omega
  have a3:decide (x<=hi)=false:=by simp;omega
  rw[a1,a3];rfl
 rw[if_neg h2];have a3:decide (x<=hi)=true:=by simp;omega
 rw[a3];simp
theorem Re(f g h i k:Int):∃ r,cP ((f,g,h,i,k,()),())=some (r,())/\bQ ((f,g,h,i,k,()),())=some (r,()):=by
 refine⟨_,rfl,?_⟩;simp only[bQ];rw[Gk _ _ _ (by omega),Gk _ _ _ (by omega),Gk _ _ _ (by omega),Gk _ _ _ (by omega),Gk _ _ _ (by omega)];cases geI f 0<;>cases leI f 4<;>try rfl
 all_goals cases geI g 0<;>cases leI g 1048576<;>try rfl
 all_goals cases geI h 0<;>cases leI h 1048576<;>try rfl
 all_goals cases geI i 0<;>cases leI i 1048576<;>try rfl
 all_goals cases geI k 0<;>cases leI k 100<;>rfl
theorem FR(n:Int)(s:ByteArray)(h:∃ a,sF (n,())=some (a,())/\gtI (Hi a 1000) 0=false/\ltI n 0=false/\gtI (G3 .u64 a 1000) 9=false/\(vB (ByteArray.mk #[48,49,50,51,52,53,54,55,56,57]) (G3 .u64 a 1000) (af .u64 (G3 .u64 a 1000) 1)).bind (λy3=>(yS y3 (ByteArray.mk #[])).bind λy4=>some (y4,()))=some (s,())):gw (n,())=some (s,()):=by obtain⟨a,h1,h2,h3,h4,h5⟩:=h;simp only[gw,h1,bv,ks,li];rw[ce (r:=.inl (G3 .u64 a 1000,ByteArray.mk #[],())) (by simp only[lx,h4,U4])];simp only[bv,B7,h2,h3,U4,h5]
theorem Ol(i:Nat)(hi:i<7):∃ s:ByteArray,s.size<=100/\xg (jV .i64 1000 (i:Int),())=some (s,())/\gw (jV .i64 1000 (i:Int),())=some (s,()):=by
 match i,hi with
 |0,_=>exact⟨ByteArray.mk #[48],by decide,by decide +kernel,FR _ _ ⟨0,by decide +kernel,by decide +kernel,by decide +kernel,by decide +kernel,by decide +kernel⟩⟩
 |1,_=>exact⟨ByteArray.mk #[49],by decide,by decide +kernel,FR _ _ ⟨1000,by decide +kernel,by decide +kernel,by decide +kernel,by decide +kernel,by decide +kernel⟩⟩
 |2,_=>exact⟨ByteArray.mk #[50],by decide,by decide +kernel,FR _ _ ⟨2000,by decide +kernel,by decide +kernel,by decide +kernel,by decide +kernel,by decide +kernel⟩⟩
 |3,_=>exact⟨ByteArray.mk #[51],by decide,by decide +kernel,FR _ _ ⟨3000,by decide +kernel,by decide +kernel,by decide +kernel,by decide +kernel,by decide +kernel⟩⟩
 |4,_=>exact⟨ByteArray.mk #[52],by decide,by decide +kernel,FR _ _ ⟨4000,by decide +kernel,by decide +kernel,by decide +kernel,by decide +kernel,by decide +kernel⟩⟩
 |5,_=>exact⟨ByteArray.mk #[53],by decide,by decide +kernel,FR _ _ ⟨5000,by decide +kernel,by decide +kernel,by decide +kernel,by decide +kernel,by decide +kernel⟩⟩
 |6,_=>exact⟨ByteArray.mk #[54],by decide,by decide +kernel,FR _ _ ⟨6000,by decide +kernel,by decide +kernel,by decide +kernel,by decide +kernel,by decide +kernel⟩⟩
theorem Mp{p:PtD}(h:ptB p=true):-268435456<=p.1/\p.1<=268435456/\-268435456<=p.2.1/\p.2.1<=268435456:=by unfold ptB at h;simp only[sg]at h;obtain⟨h1,h2,h3,h4⟩:=h;simp only[geI,leI,decide_eq_true_eq]at h1 h2 h3 h4;omega
theorem Im{x y:Int}(hx:-536870912<=x/\x<=536870912)(hy:-536870912<=y/\y<=536870912):-288230376151711744<=x*y/\x*y<=288230376151711744:=by
 have h1:(x*y).natAbs<=536870912*536870912:=by rw[Int.natAbs_mul];exact Nat.mul_le_mul (by omega) (by omega)
 omega
theorem TK(n:Int):neI (yx n) 0=neI n 0:=by
 unfold yx gtI ltI neI;by_cases h1:n>0
 ·simp[h1];omega
 by_cases h2:n<0
 ·simp[h1,h2];omega
 have:n=0:=by omega
 subst this;rfl
theorem OZ(p q r:PtD)(hp:ptB p=true)(hq:ptB q=true)(hr:ptB r=true):∃ b,zO (p,q,r,())=some (b,())/\nc (p,q,r,())=some (b,()):=by
 obtain⟨a,b,u⟩:=p;obtain⟨c,d,v⟩:=q;obtain⟨e,f,w⟩:=r;have b1:=Mp hp;have b2:=Mp hq;have b3:=Mp hr;simp only at b1 b2 b3;simp only[zO,nc,yU,AR,bv];rw[show ptB (a,b,())=true from hp,show ptB (c,d,())=true from hq,show ptB (e,f,())=true from hr];simp only[U8,U4];rw[show dp (((a,b,()),(c,d,()),()),(e,f,()),())=some (yx (otI (a,b,()) (c,d,()) (e,f,())),())from IZ ((a,b,()),(c,d,()),()) (e,f,())];simp only[bv,TK];simp only[bj,bv];rw[show otI (a,b,()) (c,d,()) (e,f,())=aK .i64 (jV .i64 (aK .i64 c a) (aK .i64 f b)) (jV .i64 (aK .i64 d b) (aK .i64 e a))from rfl];cases neI (aK .i64 (jV .i64 (aK .i64 c a) (aK .i64 f b)) (jV .i64 (aK .i64 d b) (aK .i64 e a))) 0
 ·simp only[U4];refine⟨_,rfl,?_⟩;have m1:=Im (x:=a-c) (y:=e-c) (by omega) (by omega);have m2:=Im (x:=b-d) (y:=f-d) (by omega) (by omega);have m3:=Im (x:=c-a) (y:=e-c) (by omega) (by omega);have m4:=Im (x:=d-b) (y:=f-d) (by omega) (by omega);rw[nq (a:=a) (b:=c) (by omega) (by omega),nq (a:=e) (b:=c) (by omega) (by omega),nq (a:=b) (b:=d) (by omega) (by omega),nq (a:=f) (b:=d) (by omega) (by omega),nq (a:=c) (b:=a) (by omega) (by omega),nq (a:=d) (b:=b) (by omega) (by omega)];rw[Fq (by omega) (by omega),Fq (by omega) (by omega),Fq (by omega) (by omega),Fq (by omega) (by omega),oT (by omega) (by omega),oT (by omega) (by omega)];have e1:(c-a)*(e-c)=-((a-c)*(e-c)):=by rw[<- Xy];congr 1;omega
  have e2:(d-b)*(f-d)=-((b-d)*(f-d)):=by rw[<- Xy];congr 1;omega
  rw[e1,e2];congr 2;unfold gtI ltI;exact decide_eq_decide.2 (by omega)
 exact⟨true,rfl,rfl⟩
theorem MA(l:List PtD)(hl:l.length<=30)(O:OkR l):∃ n,ww (l,())=some (n,())/\lD (l,())=some (n,()):=by
 obtain⟨r,h1,h2,h3⟩:=xx l (by omega);have hr:r=true:=h3.2 O;subst hr;simp only[ww,lD,h1,h2,bv,U8,U4,vD,mw];obtain⟨r,u,e1,e2,n,e3,e4⟩:=vY (B:=rh) (C:=ik) (λs t=>s=t/\∃(n:Int) (i:Nat),i<=l.length/\s=(l,n,((i+1:Nat):Int),())) (λs=>l.length-s.2.2.1.toNat)
  (λr u=>∃ n:Int,r=.inl (n,())/\u=.inl (n,())) (by
   rintro s t ⟨rfl,n,i,hi,rfl⟩;simp only[rh,ik];by_cases h:i+2<l.length
   ·rw[aR (show i+1<9223372036854775807 by omega),aq (by omega)];simp only[U3];rw[show aK .i64 ((i+1:Nat):Int) 1=(i:Int) by rw[N6 (by omega)];omega];simp only[ac];rw[bx (show i<l.length by omega),bx (show i+1<l.length by omega),bx h];simp only[bv];obtain⟨b,b1,b2⟩:=OZ l[i] l[i+1] l[i+2] (O.2.2.1 _ (A2 _)) (O.2.2.1 _ (A2 _)) (O.2.2.1 _ (A2 _));left;rw[b1,b2];simp only[bv];cases b
    ·exact⟨_,_,rfl,rfl,⟨rfl,n,i+1,by omega,rfl⟩,by show l.length-(((i+1)+1:Nat):Int).toNat<l.length-((i+1:Nat):Int).toNat;omega⟩
    exact⟨_,_,rfl,rfl,⟨rfl,_,i+1,by omega,rfl⟩,by show l.length-(((i+1)+1:Nat):Int).toNat<l.length-((i+1:Nat):Int).toNat;omega⟩
   right;rw[aR (show i+1<9223372036854775807 by omega),aj (by omega)];exact⟨_,_,rfl,rfl,n,rfl,rfl⟩) (l,0,1,()) (l,0,1,()) ⟨rfl,0,0,by omega,rfl⟩
 rw[e1,e2,e3,e4];exact⟨n,rfl,rfl⟩
def unB(s:Option BoxD)(b:BoxD):Option BoxD:=cond (bxB b) (match s with
 |none=>some (b.1,b.2.1,b.2.2.1,b.2.2.2.1,())
 |some t=>some (bL t.1 b.1,bL t.2.1 b.2.1,dj t.2.2.1 b.2.2.1,dj t.2.2.2.1 b.2.2.2.1,())) s
theorem tF(a b:Int):bL a b=bL b a:=by unfold bL;split<;>split<;>omega
theorem tC(a b:Int):dj a b=dj b a:=by unfold dj;split<;>split<;>omega
theorem Lo(a b c:Int):bL (bL a b) c=bL a (bL b c):=by unfold bL;repeat' split<;>omega
theorem Mk(a b c:Int):dj (dj a b) c=dj a (dj b c):=by unfold dj;repeat' split<;>omega
theorem HN(a:Int):bL a a=a:=by unfold bL;split<;>rfl
theorem HQ(a:Int):dj a a=a:=by unfold dj;split<;>rfl
theorem RD(s:Option BoxD)(a b:BoxD):unB (unB s a) b=unB (unB s b) a:=by
 unfold unB;cases bxB a<;>cases bxB b<;>simp only[U3,U4];cases s with
 |none=>simp only[tF a.1,tF a.2.1,tC a.2.2.1,tC a.2.2.2.1]
 |some t=>simp only[Lo,Mk,tF a.1,tF a.2.1,tC a.2.2.1,tC a.2.2.2.1]
def Fh:BoxD:=(0,0,0,0,())
def xZ(l:List BoxD):BoxD:=(l.foldl unB none).getD Fh
theorem JK{l r:List BoxD}(h:l.Perm r):xZ l=xZ r:=by unfold xZ;rw[h.foldl_eq' (λx _ y _ z=>RD z x y)]
theorem eu{σ ρ α S:Type}{B:σ->Option (σ⊕ρ)}(l:List α)(f:S->α->S)(s0:S)(I:Nat->S->Prop)(st:S->Nat->σ)(out:S->ρ)
  (h0:I 0 s0) (hI:∀(i:Nat) a s,l[i]?=some a->I i s->I (i+1) (f s a))
  (step:∀(i:Nat) a s,l[i]?=some a->I i s->B (st s i)=some (.inl (st (f s a) (i+1))))
  (fin:∀ s,I l.length s->B (st s l.length)=some (.inr (out s))):ab B (st s0 0)=some (out (l.foldl f s0)):=by
 have key:∀(n:Nat) (i:Nat) (s:S),l.length-i=n->i<=l.length->I i s->ab B (st s i)=some (out ((l.drop i).foldl f s)):=by
  intro n;induction n with
  |zero=>
   intro i s hn hi hs;have:i=l.length:=by omega
   subst this;rw[ce (fin s hs),List.drop_length];rfl
  |succ n ih=>
   intro i s hn hi hs;have hi:i<l.length:=by omega
   have hx:=bx hi;rw[gq (step i _ s hx hs),ih (i+1) _ (by omega) (by omega) (hI i _ s hx hs),List.drop_eq_getElem_cons hi];rfl
 exact key _ 0 s0 rfl (L4 _) h0
def p9(t:Option BoxD):BoxD:=t.getD Fh
theorem MC(z:List BoxD)(hz:z.length<=1000):zS (z,())=some (xZ z,()):=by
 simp only[zS,wA];have:=eu (B:=pS) z unB none (λ_ _=>True) (λs i=>(0,0,0,0,(p9 s).1,(p9 s).2.1,(p9 s).2.2.1,(p9 s).2.2.2.1,s.isNone,z,(z.length:Int),(i:Int),()))
  (λs=>.inl (0,0,0,0,(p9 s).1,(p9 s).2.1,(p9 s).2.2.1,(p9 s).2.2.2.1,())) trivial (λ_ _ _ _ _=>trivial) (by
   intro i a s ha _;have hi:i<z.length:=(tz.1 ha).1;simp only[pS];rw[aq (by omega)];simp only[U3,ac,ha,bv,aR (show i<9223372036854775807 by omega)];rw[show da ((a.1,a.2.1,a.2.2.1,a.2.2.2.1,()),())=some (bxB a,())from Cl a];simp only[bv,unB];cases bxB a
   ·simp only[Xc,U3,U4]
   ·cases s with
    |none=>simp only[U8,U4,U3,Option.isNone_none,Yc,p9,We]
    |some t=>simp only[U8,U4,U3,Yc,p9,We]) (by
   intro s _;simp only[pS];rw[aj (by omega)];rfl)
 rw[show(0,0,0,0,0,0,0,0,true,z,((z.length:Nat):Int),0,())=((0:Int),(0:Int),(0:Int),(0:Int),(p9 none).1,(p9 none).2.1,(p9 none).2.2.1,(p9 none).2.2.2.1,(none:Option BoxD).isNone,z,((z.length:Nat):Int),((0:Nat):Int),())from rfl,this];rfl
theorem OV(z:List BoxD)(hz:z.length<=1000):ly (z,())=some (xZ z,()):=by
 simp only[ly,mJ];have:=eu (B:=eT) z unB none (λ_ _=>True) (λs i=>(0,0,0,0,(p9 s).1,(p9 s).2.1,(p9 s).2.2.1,(p9 s).2.2.2.1,z,s.isSome,(i:Int),()))
  (λs=>.inl (0,0,0,0,(p9 s).1,(p9 s).2.1,(p9 s).2.2.1,(p9 s).2.2.2.1,())) trivial (λ_ _ _ _ _=>trivial) (by
   intro i a s ha _;have hi:i<z.length:=(tz.1 ha).1;simp only[eT];rw[aq (by omega)];simp only[U3,ac,ha,bv,aR (show i<9223372036854775807 by omega)];rw[show aQ ((a.1,a.2.1,a.2.2.1,a.2.2.2.1,()),())=some (bxB a,())from BE a];simp only[bv,unB];cases bxB a
   ·simp only[Xc,U3,U4]
   ·cases s with
    |none=>simp only[U8,Xc,U4,U3,Option.isSome_none,Yd,p9,We,HN,HQ]
    |some t=>simp only[U8,U4,U3,Yd,p9,We]) (by
   intro s _;simp only[eT];rw[aj (by omega)];rfl)
 rw[show(0,0,0,0,0,0,0,0,z,false,0,())=((0:Int),(0:Int),(0:Int),(0:Int),(p9 none).1,(p9 none).2.1,(p9 none).2.2.1,(p9 none).2.2.2.1,z,(none:Option BoxD).isSome,((0:Nat):Int),())from rfl,this];rfl
def rtB(s:BoxD)(p:PtD):BoxD:=(bL s.1 p.1,bL s.2.1 p.2.1,dj s.2.2.1 p.1,dj s.2.2.2.1 p.2.1,())
def wy(l:List PtD):BoxD:=match l with
 |[]=>Fh
 |p::r=>r.foldl rtB (p.1,p.2.1,p.1,p.2.1,())
theorem J8(l:List PtD)(hl:l.length<=30)(O:OkR l):uW (l,())=some (wy l,()):=by
 obtain⟨r,h1,h2,h3⟩:=xx l (by omega);have hr:r=true:=h3.2 O;subst hr;simp only[uW,h1,bv,U8,U4,ue];obtain⟨p,t,rfl⟩:∃ p t,l=p::t:=by
  cases l with
  |nil=>exact absurd rfl O.1
  |cons p t=>exact⟨p,t,rfl⟩
 rw[show ai (p::t) 0=some p from rfl];simp only[bv];have:=eu (B:=mK) (p::t) rtB (p.1,p.2.1,p.1,p.2.1,()) (λ_ _=>True) (λs i=>(0,0,0,0,s.1,s.2.1,s.2.2.1,s.2.2.2.1,p::t,((p::t).length:Int),(i:Int),()))
  (λs=>.inl (0,0,0,0,s.1,s.2.1,s.2.2.1,s.2.2.2.1,())) trivial (λ_ _ _ _ _=>trivial) (by
   intro i a s ha _;have hi:i<(p::t).length:=(tz.1 ha).1;simp only[mK];rw[aq (by omega)];simp only[U3,ac,ha,bv,aR (show i<9223372036854775807 by omega)];rfl) (by
   intro s _;simp only[mK];rw[aj (by omega)];rfl)
 rw[show((0:Int),(0:Int),(0:Int),(0:Int),p.1,p.2.1,p.1,p.2.1,p::t,(((p::t).length:Nat):Int),(0:Int),())=((0:Int),(0:Int),(0:Int),(0:Int),((p.1,p.2.1,p.1,p.2.1,()):BoxD).1,((p.1,p.2.1,p.1,p.2.1,()):BoxD).2.1,((p.1,p.2.1,p.1,p.2.1,()):BoxD).2.2.1,((p.1,p.2.1,p.1,p.2.1,()):BoxD).2.2.2.1,p::t,(((p::t).length:Nat):Int),((0:Nat):Int),())from rfl,this];show some _=some _;rw[VU,show rtB (p.1,p.2.1,p.1,p.2.1,()) p=(p.1,p.2.1,p.1,p.2.1,()) by simp only[rtB,HN,HQ]];rfl
theorem LA(l:List PtD)(hl:l.length<=30)(O:OkR l):kj (l,())=some (wy l,()):=by
 obtain⟨r,h1,h2,h3⟩:=xx l (by omega);have hr:r=true:=h3.2 O;subst hr;simp only[kj,h2,bv,U8,U4,lk];obtain⟨p,t,rfl⟩:∃ p t,l=p::t:=by
  cases l with
  |nil=>exact absurd rfl O.1
  |cons p t=>exact⟨p,t,rfl⟩
 rw[show ai (p::t) 0=some p from rfl];simp only[bv];have:=eu (B:=eB) t rtB (p.1,p.2.1,p.1,p.2.1,()) (λ_ _=>True) (λs i=>(0,0,0,0,s.1,s.2.1,s.2.2.1,s.2.2.2.1,p::t,((i+1:Nat):Int),()))
  (λs=>.inl (0,0,0,0,s.1,s.2.1,s.2.2.1,s.2.2.2.1,())) trivial (λ_ _ _ _ _=>trivial) (by
   intro i a s ha _;have hi:i<t.length:=(tz.1 ha).1;have hl:t.length+1<=30:=hl;have ha':(p::t)[i+1]?=some a:=by simpa using ha
   simp only[eB];rw[aq (by simp only[B2];omega)];simp only[U3,ac,ha',bv,aR (show i+1<9223372036854775807 by omega)];rfl) (by
   intro s _;simp only[eB];rw[aj (by simp only[B2];omega)];rfl)
 rw[show((0:Int),(0:Int),(0:Int),(0:Int),p.1,p.2.1,p.1,p.2.1,p::t,(1:Int),())=((0:Int),(0:Int),(0:Int),(0:Int),((p.1,p.2.1,p.1,p.2.1,()):BoxD).1,((p.1,p.2.1,p.1,p.2.1,()):BoxD).2.1,((p.1,p.2.1,p.1,p.2.1,()):BoxD).2.2.1,((p.1,p.2.1,p.1,p.2.1,()):BoxD).2.2.2.1,p::t,((0+1:Nat):Int),())from rfl,this];rfl
def zV(b:BoxD):Bool:=eqI b.1 0&&(eqI b.2.1 0&&(eqI b.2.2.1 0&&(eqI b.2.2.2.1 0&&true)))
def Kv(s:List BoxD)(b:BoxD):List BoxD:=cond (!zV b) (s++[b]) s
theorem Dm:∀(l s:List BoxD),l.foldl Kv s=s++l.filter λb=>!zV b
 |[],s=>by simp
 |b::l,s=>by rw[VU,Dm l,Yz];unfold Kv;cases zV b<;>simp
theorem Dc(f:List PtD->BoxD):∀(l:List (List PtD)) (s:List BoxD),l.foldl (λs r=>s++[f r]) s=s++l.map f
 |[],s=>by simp
 |b::l,s=>by rw[VU,Dc f l,List.map_cons];simp
theorem K1(s:List BoxD)(b:BoxD):(Kv s b).length<=s.length+1:=by unfold Kv;cases zV b<;>simp
section
variable {f g i:List BoxD}{h:List (List PtD)}{k l m n o p:Int}{q:List Int}
theorem Ln(K:FewD f g i h)(O:∀ x∈h,OkR x):pq ((f,g,h,i,(k,l,m,n,()),o,p,q,()),())=some (xZ ((f++g++i.filter λb=>!zV b)++h.map wy),()):=by
 have k1:=K.hf;have k2:=K.hg;have k3:=K.hi;have k4:=K.hh;simp only[pq];rw[Id f (by omega)];simp only[bv];rw[bw (by omega)];simp only[bv,sR,sP];have e1:=eu (B:=hU) i Kv (f++g) (λj s=>s.length<=40+j) (λs j=>(f,g,h,i,k,l,m,n,o,p,q,0,0,0,0,s,i,(i.length:Int),(j:Int),()))
  (λs=>.inl (f,g,h,i,k,l,m,n,o,p,q,0,0,0,0,s,())) (by simp;omega) (by intro j a s _ hs;have:=K1 s a;omega) (by
   intro j a s ha hs;have hj:j<i.length:=(tz.1 ha).1;simp only[hU];rw[aq (by omega)];simp only[U3,ac,ha,bv,aR (show j<9223372036854775807 by omega)];rw[bw (by simp only[B2,B8];omega)];unfold Kv;rw[show(eqI a.1 0&&(eqI a.2.1 0&&(eqI a.2.2.1 0&&(eqI a.2.2.2.1 0&&true))))=zV a from rfl];cases zV a<;>rfl) (by
   intro s hs;simp only[hU];rw[aj (by omega)];rfl)
 rw[show ab hU (f,g,h,i,k,l,m,n,o,p,q,0,0,0,0,f++g,i,((i.length:Nat):Int),0,())=_ from e1,Dm];simp only[bv,B7];generalize hw:f++g++i.filter (λb=>!zV b)=w;have hwl:w.length<=60:=by rw[<- hw];have:=WS (λb=>!zV b) i;simp only[U6];omega
 have e2:=eu (B:=hO) h (λs r=>s++[wy r]) w (λj s=>s.length<=60+j) (λs j=>(0,0,0,0,s,h,(h.length:Int),(j:Int),()))
  (λs=>.inl (0,0,0,0,s,())) hwl (by intro j a s _ hs;simp only[U6,B2,B8];omega) (by
   intro j a s ha hs;have hj:j<h.length:=(tz.1 ha).1;have hm:=B9 ha;simp only[hO];rw[aq (by omega)];simp only[U3,ac,ha,bv,aR (show j<9223372036854775807 by omega)];rw[J8 a (K.hr a hm) (O a hm)];simp only[bv];rw[bw (by simp only[B2,B8];omega)];rfl) (by
   intro s hs;simp only[hO];rw[aj (by omega)];rfl)
 rw[show ab hO (0,0,0,0,w,h,((h.length:Nat):Int),0,())=_ from e2,Dc];simp only[bv,B7];rw[MC _ (by simp only[U6,Vq];omega)];rfl
theorem OI(K:FewD f g i h)(O:∀ x∈h,OkR x):gx ((f,g,h,i,(k,l,m,n,()),o,p,q,()),())=some (xZ ((f++g++i.filter λb=>!zV b)++h.map wy),()):=by
 have k1:=K.hf;have k2:=K.hg;have k3:=K.hi;have k4:=K.hh;simp only[gx];rw[bw (by simp only[B8];omega)];simp only[bv,List.nil_append];rw[bw (by omega)];simp only[bv,la,k8];have e2:=eu (B:=cY) h (λs r=>s++[wy r]) (f++g) (λj s=>s.length<=40+j) (λs j=>(f,g,h,i,k,l,m,n,o,p,q,0,0,0,0,s,(j:Int),()))
  (λs=>.inl (f,g,h,i,k,l,m,n,o,p,q,0,0,0,0,s,())) (by simp;omega) (by intro j a s _ hs;simp only[U6,B2,B8];omega) (by
   intro j a s ha hs;have hj:j<h.length:=(tz.1 ha).1;have hm:=B9 ha;simp only[cY];rw[aq (by omega)];simp only[U3,ac,ha,bv,aR (show j<9223372036854775807 by omega)];rw[LA a (K.hr a hm) (O a hm)];simp only[bv];rw[bw (by simp only[B2,B8];omega)];rfl) (by
   intro s hs;simp only[cY];rw[aj (by omega)];rfl)
 rw[show ab cY (f,g,h,i,k,l,m,n,o,p,q,0,0,0,0,f++g,0,())=_ from e2,Dc];simp only[bv,B7];generalize hw:f++g++h.map wy=w;have hwl:w.length<=60:=by rw[<- hw];simp only[U6,Vq];omega
 have e1:=eu (B:=c9) i Kv w (λj s=>s.length<=60+j) (λs j=>(f,g,h,i,k,l,m,n,o,p,q,0,0,0,0,s,(j:Int),()))
  (λs=>.inl (0,0,0,0,s,())) hwl (by intro j a s _ hs;have:=K1 s a;omega) (by
   intro j a s ha hs;have hj:j<i.length:=(tz.1 ha).1;simp only[c9];rw[aq (by omega)];simp only[U3,ac,ha,bv,aR (show j<9223372036854775807 by omega)];rw[bw (by simp only[B2,B8];omega)];unfold Kv;rw[show(eqI a.1 0&&(eqI a.2.1 0&&(eqI a.2.2.1 0&&(eqI a.2.2.2.1 0&&true))))=zV a from rfl];cases zV a<;>rfl) (by
   intro s hs;simp only[c9];rw[aj (by omega)];rfl)
 rw[show ab c9 (f,g,h,i,k,l,m,n,o,p,q,0,0,0,0,w,0,())=_ from e1,Dm];simp only[bv,B7];have hlen:=WS (λb=>!zV b) i;rw[OV _ (by simp only[U6];omega)];have hp:(w++i.filter λb=>!zV b).Perm ((f++g++i.filter λb=>!zV b)++h.map wy):=by rw[<- hw,Vv (f++g),Vv (f++g)];exact List.Perm.append_left _ List.perm_append_comm
 rw[JK hp];rfl
end
end Go.Vm

/-
 AuditFinds: what a valid graph is; members of clusters; clusters in clusters.
-/
namespace Go.Vm
open Go.Proofs
set_option maxRecDepth 100000
attribute [local irreducible] ab
theorem mV{α β:Type}{x:Option α}{f:α->Option β}{r:β}(h:x.bind f=some r):∃ a,x=some a/\f a=some r:=Option.bind_eq_some_iff.1 h
theorem cb{c:Bool}{α:Type}{x y:Option α}{r:α}(h:cond c x y=some r)(hx:c=true->x≠some r):c=false/\y=some r:=by
 cases c with
 |true=>exact absurd h (hx rfl)
 |false=>exact⟨rfl,h⟩
theorem ga{n:Int}(hn:n≠0):(some (n,()):Option (Int×Unit))≠some (0,()):=λh=>hn (by cases h;rfl)
theorem Dt{a b:Int}(h:ltI a b=false):b<=a:=by unfold ltI at h;have:=of_decide_eq_false h;omega
theorem Lt{a b:Int}(h:gtI a b=false):a<=b:=by unfold gtI at h;have:=of_decide_eq_false h;omega
theorem Lq{a b:Int}(h:geI a b=false):a<b:=by unfold geI at h;have:=of_decide_eq_false h;omega
theorem Jc{a b:Int}(h:neI a b=false):a=b:=by unfold neI at h;simpa using h
theorem Nw{a b:Int}(h:eqI a b=true):a=b:=by unfold eqI at h;simpa using h
structure GOK (c:List qN)(d:List tw)(e:List kO):Prop where
 node:∀ x∈c,-1<=x.2.2.2.2.1/\x.2.2.2.2.1<e.length
 par:rW e e.length
 edge:∀ x∈d,0<=x.1/\x.1<c.length/\0<=x.2.1/\x.2.1<c.length/\1<=x.2.2.2.2.2.1/\x.2.2.2.2.2.1<=1000/\1<=x.2.2.2.2.2.2.1/\x.2.2.2.2.2.2.1<=64
section
variable {a:ByteArray}{b:Bool}{c:List qN}{d:List tw}{e:List kO}
theorem RP{i:Nat}{x:qN}(hx:c[i]?=some x)(h:qO ((a,b,c,d,e,()),(i:Int),())=some (0,())):-1<=x.2.2.2.2.1/\x.2.2.2.2.1<e.length:=by simp only[qO,ac,hx,bv]at h;obtain⟨r2,e2,h⟩:=mV h;obtain⟨_,h⟩:=cb h (λ_=>ga (by decide));obtain⟨r3,e3,h⟩:=mV h;obtain⟨_,h⟩:=cb h (λ_=>ga (by decide));obtain⟨r4,e4,h⟩:=mV h;obtain⟨_,h⟩:=cb h (λhc=>ga (by intro h0;rw[h0]at hc;exact absurd hc (by decide)));obtain⟨r5,e5,h⟩:=mV h;obtain⟨_,h⟩:=cb h (λ_=>ga (by decide));obtain⟨r6,e6,h⟩:=mV h;obtain⟨_,h⟩:=cb h (λ_=>ga (by decide));obtain⟨h1,h⟩:=cb h (λ_=>ga (by decide));obtain⟨h2,h⟩:=cb h (λ_=>ga (by decide));exact⟨Dt h1,Lq h2⟩
theorem SL{x:tw}(h:qB ((a,b,c,d,e,()),(x.1,x.2.1,x.2.2.1,x.2.2.2.1,x.2.2.2.2.1,x.2.2.2.2.2.1,x.2.2.2.2.2.2.1,()),())=some (0,())):
  0<=x.1/\x.1<c.length/\0<=x.2.1/\x.2.1<c.length/\1<=x.2.2.2.2.2.1/\x.2.2.2.2.2.1<=1000/\1<=x.2.2.2.2.2.2.1/\x.2.2.2.2.2.2.1<=64:=by
 simp only[qB,ES,EB]at h;obtain⟨h1,h⟩:=cb h (λ_=>ga (by decide));obtain⟨h2,h⟩:=cb h (λ_=>ga (by decide));obtain⟨_,h⟩:=cb h (λ_=>ga (by decide));obtain⟨y1,e1,h⟩:=mV h;obtain⟨_,h⟩:=cb h (λ_=>ga (by decide));obtain⟨y2,e2,h⟩:=mV h;obtain⟨_,h⟩:=cb h (λ_=>ga (by decide));obtain⟨r3,e3,h⟩:=mV h;obtain⟨_,h⟩:=cb h (λhc=>ga (by intro h0;rw[h0]at hc;exact absurd hc (by decide)));obtain⟨h5,h⟩:=cb h (λ_=>ga (by decide));obtain⟨h6,h⟩:=cb h (λ_=>ga (by decide));obtain⟨h7,h⟩:=cb h (λ_=>ga (by decide));obtain⟨h8,h⟩:=cb h (λ_=>ga (by decide));rw[Bool.or_eq_false_iff]at h1 h2;exact⟨Dt h1.1,Lq h2.1,Dt h1.2,Lq h2.2,Dt h5,Lt h6,Dt h7,Lt h8⟩
theorem Nm{σ ρ:Type}{B:σ->Option (σ⊕ρ)}(n:Nat)(st:Nat->σ)(P:Nat->Prop)(ok:ρ)
  (h1:∀ i,i<n->(∀ j,j<i->P j)->(B (st i)=some (.inl (st (i+1)))/\P i)\/∃ r,B (st i)=some (.inr r)/\r≠ok) (h2:(∀ j,j<n->P j)->B (st n)=some (.inr ok)) (h:ab B (st 0)=some ok):∀ j,j<n->P j:=by
 have key:∀ m i,i+m=n->(∀ j,j<i->P j)->ab B (st i)=some ok->∀ j,j<n->P j:=by
  intro m;induction m with
  |zero=>intro i hi hp _ j hj;exact hp j (by omega)
  |succ m ih=>
   intro i hi hp hl;rcases h1 i (by omega) hp with⟨g1,g2⟩|⟨r,g1,g2⟩
   ·rw[gq g1]at hl;refine ih (i+1) (by omega) (λj hj=>?_) hl;by_cases hji:j=i
    ·rw[hji];exact g2
    exact hp j (by omega)
   rw[ce g1]at hl;exact absurd (L9 hl) g2
 exact key n 0 (by omega) (λj hj=>by omega) h
theorem PL(H:FewG a c d e)(h:cX ((a,b,c,d,e,()),())=some (0,())):GOK c d e:=by
 simp only[cX]at h;obtain⟨_,h⟩:=cb h (λ_=>ga (by decide));obtain⟨_,h⟩:=cb h (λ_=>ga (by decide));obtain⟨_,h⟩:=cb h (λ_=>ga (by decide));obtain⟨r1,e1,h⟩:=mV h;obtain⟨_,h⟩:=cb h (λ_=>ga (by decide));have hcl:=H.hc;have hel:=H.he;have hdl:=H.hd
 obtain⟨z,hz,h⟩:=mV h;obtain⟨z',hz',hzz⟩:∃ z',pE (a,b,c,d,e,(c.length:Int),0,())=some z'/\((∃ n,z'=.inl (n,())/\n≠0)\/z'=.inr (.inl (a,b,c,d,e,()))):=by
  have:=aH (f:=dR) (λx=>∃ i:Nat,i<=c.length/\x=(a,b,c,d,e,(c.length:Int),(i:Int),())) (λx=>c.length-x.2.2.2.2.2.2.1.toNat) (λz'=>((∃ n,z'=.inl (n,())/\n≠0)\/z'=.inr (.inl (a,b,c,d,e,())))) (by
   rintro x ⟨i,hi,rfl⟩;simp only[dR];by_cases hl:i<c.length
   ·obtain⟨n,n1,n2⟩:=DL (b:=b) H hl;rw[aq (by omega),U3,n1];simp only[bv,aR (show i<9223372036854775807 by omega)];by_cases hn:n=0
    ·rw[gW hn];exact .inl ⟨_,rfl,⟨i+1,hl,rfl⟩,by show c.length-((i+1:Nat):Int).toNat<c.length-(i:Int).toNat;omega⟩
    rw[wc hn];exact .inr ⟨_,rfl,.inl ⟨n,rfl,hn⟩⟩
   rw[aj (by omega)];exact .inr ⟨_,rfl,.inr rfl⟩) (a,b,c,d,e,(c.length:Int),0,()) ⟨0,L4 _,rfl⟩
  obtain⟨r,h1,h2⟩:=this;exact⟨r,h1,h2⟩
 rw[hz]at hz';cases hz';rcases hzz with⟨n,rfl,hn⟩|rfl
 ·exact absurd h (ga hn)
 have hnode:∀ j,j<c.length->∀ x,c[j]?=some x->-1<=x.2.2.2.2.1/\x.2.2.2.2.1<e.length:=
  Nm (B:=dR) c.length (λi=>(a,b,c,d,e,(c.length:Int),(i:Int),())) _ (.inr (.inl (a,b,c,d,e,()))) (by
   intro i hi _;obtain⟨n,n1,n2⟩:=DL (b:=b) H hi;simp only[dR];rw[aq (by omega),U3,n1];simp only[bv,aR (show i<9223372036854775807 by omega)];by_cases hn:n=0
   ·rw[gW hn];exact .inl ⟨rfl,λx hx=>RP hx (by rw[n1,hn])⟩
   ·rw[wc hn];exact .inr ⟨_,rfl,by simp⟩) (by
   intro _;simp only[dR];rw[aj (by omega)];rfl) hz
 simp only[Vx,B7]at h
 obtain⟨z,hz2,h⟩:=mV h;obtain⟨z',hz',hzz⟩:∃ z',n9 (a,b,c,d,e,(e.length:Int),0,())=some z'/\((∃ n,z'=.inl (n,())/\n≠0)\/(z'=.inr (.inl (a,b,c,d,e,()))/\rW e e.length)):=by
  have:=aH (f:=ib) (λx=>∃ i:Nat,i<=e.length/\rW e i/\x=(a,b,c,d,e,(e.length:Int),(i:Int),())) (λx=>e.length-x.2.2.2.2.2.2.1.toNat) (λz'=>((∃ n,z'=.inl (n,())/\n≠0)\/(z'=.inr (.inl (a,b,c,d,e,()))/\rW e e.length))) (by
   rintro x ⟨i,hi,hp,rfl⟩;simp only[ib];by_cases hl:i<e.length
   ·obtain⟨n,n1,n2,n3⟩:=Cr (b:=b) H hl hp;rw[aq (by omega),U3,n1];simp only[bv,aR (show i<9223372036854775807 by omega)];by_cases hn:n=0
    ·rw[gW hn];exact .inl ⟨_,rfl,⟨i+1,hl,n3 hn,rfl⟩,by show e.length-((i+1:Nat):Int).toNat<e.length-(i:Int).toNat;omega⟩
    rw[wc hn];exact .inr ⟨_,rfl,.inl ⟨n,rfl,hn⟩⟩
   have:i=e.length:=by omega
   subst this;rw[aj (by omega)];exact .inr ⟨_,rfl,.inr ⟨rfl,hp⟩⟩) (a,b,c,d,e,(e.length:Int),0,()) ⟨0,L4 _,λk x h=>by omega,rfl⟩
  obtain⟨r,h1,h2⟩:=this;exact⟨r,h1,h2⟩
 rw[hz2]at hz';cases hz';rcases hzz with⟨n,rfl,hn⟩|⟨rfl,hpar⟩
 ·exact absurd h (ga hn)
 simp only[Vx,B7]at h
 obtain⟨z,hz3,h⟩:=mV h;obtain⟨z',hz',hzz⟩:∃ z',oc (a,b,c,d,e,d,(d.length:Int),0,())=some z'/\((∃ n,z'=.inl (n,())/\n≠0)\/z'=.inr (.inl ())):=by
  have:=aH (f:=dt) (λx=>∃ i:Nat,i<=d.length/\x=(a,b,c,d,e,d,(d.length:Int),(i:Int),())) (λx=>d.length-x.2.2.2.2.2.2.2.1.toNat) (λz'=>((∃ n,z'=.inl (n,())/\n≠0)\/z'=.inr (.inl ()))) (by
   rintro x ⟨i,hi,rfl⟩;simp only[dt];by_cases hl:i<d.length
   ·obtain⟨n,n1,n2⟩:=DA (b:=b) H _ (A2 hl);rw[aq (by omega),U3,ac,bx hl];simp only[bv,n1,aR (show i<9223372036854775807 by omega)];by_cases hn:n=0
    ·rw[gW hn];exact .inl ⟨_,rfl,⟨i+1,hl,rfl⟩,by show d.length-((i+1:Nat):Int).toNat<d.length-(i:Int).toNat;omega⟩
    rw[wc hn];exact .inr ⟨_,rfl,.inl ⟨n,rfl,hn⟩⟩
   rw[aj (by omega)];exact .inr ⟨_,rfl,.inr rfl⟩) (a,b,c,d,e,d,(d.length:Int),0,()) ⟨0,L4 _,rfl⟩
  obtain⟨r,h1,h2⟩:=this;exact⟨r,h1,h2⟩
 rw[hz3]at hz';cases hz';rcases hzz with⟨n,rfl,hn⟩|rfl
 ·exact absurd h (ga hn)
 have hedge:∀ j,j<d.length->∀ x,d[j]?=some x->0<=x.1/\x.1<c.length/\0<=x.2.1/\x.2.1<c.length/\1<=x.2.2.2.2.2.1/\x.2.2.2.2.2.1<=1000/\1<=x.2.2.2.2.2.2.1/\x.2.2.2.2.2.2.1<=64:=
  Nm (B:=dt) d.length (λi=>(a,b,c,d,e,d,(d.length:Int),(i:Int),())) _ (.inr (.inl ())) (by
   intro i hi _;obtain⟨n,n1,n2⟩:=DA (b:=b) H _ (A2 hi);simp only[dt];rw[aq (by omega),U3,ac,bx hi];simp only[bv,n1,aR (show i<9223372036854775807 by omega)];by_cases hn:n=0
   ·rw[gW hn];exact .inl ⟨rfl,λx hx=>by rw[L9 hx]at n1;exact SL (by rw[n1,hn])⟩
   ·rw[wc hn];exact .inr ⟨_,rfl,by simp⟩) (by
   intro _;simp only[dt];rw[aj (by omega)];rfl) hz3
 refine⟨λx hx=>?_,hpar,λx hx=>?_⟩
 ·obtain⟨j,hj,he⟩:=VJ hx;exact hnode j hj x (by rw[bx hj,he])
 obtain⟨j,hj,he⟩:=VJ hx;exact hedge j hj x (by rw[bx hj,he])
end
def anc(e:List kO):Nat->Int->List Int
 |0,_=>[]
 |n+1,k=>if k<0 then[]else match e[k.toNat]? with
  |none=>[]
  |some x=>k::anc e n x.2.1
theorem Cv{e:List kO}{n:Nat}{k:Int}(h:k<0):anc e n k=[]:=by
 cases n with
 |zero=>rfl
 |succ n=>rw[anc,if_pos h]
theorem Rn{e:List kO}(hp:rW e e.length):∀(n m:Nat) (k:Int),k<n->k<m->anc e n k=anc e m k:=by
 intro n;induction n with
 |zero=>intro m k h1 h2;rw[Cv (by omega),Cv (by omega)]
 |succ n ih=>
  intro m k h1 h2;rcases XY k 0 with h|h
  ·rw[Cv h,Cv h]
  cases m with
  |zero=>omega
  |succ m=>
   rw[anc,anc,if_neg (by omega),if_neg (by omega)];cases hx:e[k.toNat]? with
   |none=>rfl
   |some x=>have:=hp k.toNat x (tz.1 hx).1 hx;simp only;rw[ih m x.2.1 (by omega) (by omega)]
def gh(e:List kO)(k:Int):List Int:=anc e (k.toNat+1) k
theorem xw{e:List kO}{k:Int}(h:k<0):gh e k=[]:=Cv h
theorem uN{e:List kO}(hp:rW e e.length){k:Nat}{x:kO}(hx:e[k]?=some x):gh e k=(k:Int)::gh e x.2.1:=by have:=hp k x (tz.1 hx).1 hx;unfold gh;rw[anc,if_neg (by omega)];simp only[VE,hx];rw[Rn hp k (x.2.1.toNat+1) x.2.1 (by omega) (by omega)]
theorem Hk{e:List kO}(hp:rW e e.length):∀(n:Nat) (k:Int),k<n->(gh e k).length<=n:=by
 intro n;induction n with
 |zero=>intro k hk;rw[xw (by omega)];exact L4 _
 |succ n ih=>
  intro k hk;rcases XY k 0 with h|h
  ·rw[xw h];exact L4 _
  obtain⟨m,rfl⟩:=XS h;cases hx:e[m]? with
  |none=>unfold gh;rw[anc,if_neg (by omega)];simp only[VE,hx,B8];omega
  |some x=>rw[uN hp hx];have:=hp m x (tz.1 hx).1 hx;have:=ih x.2.1 (by omega);simp only[B2];omega
theorem Il{σ ρ S:Type}{B:σ->Option (σ⊕ρ)}{e:List kO}(hp:rW e e.length)(I:S->Nat->Prop)(st:S->Int->σ)(f:S->Int->S)(p:Int->Bool)(out:S->ρ)(yes:ρ)
  (hI:∀ s m n,I s (m+1)->I (f s n) m) (hI2:∀ s m n,m<=n->I s n->I s m)
  (h1:∀ s (k:Nat) x m,I s (m+1)->e[k]?=some x->B (st s k)=some (cond (p k) (.inr yes) (.inl (st (f s k) x.2.1)))) (h2:∀ s k,k<0->B (st s k)=some (.inr (out s))) :
  ∀(n:Nat) (s:S) (k:Int),k<n->k<e.length->I s n->ab B (st s k)=some (cond ((gh e k).any p) yes (out ((gh e k).foldl f s))):=by
 intro n;induction n with
 |zero=>intro s k hk _ _;rw[xw (by omega),ce (h2 s k (by omega))];rfl
 |succ n ih=>
  intro s k hk hl hs;rcases XY k 0 with h|h
  ·rw[xw h,ce (h2 s k h)];rfl
  obtain⟨m,rfl⟩:=XS h;have hx:=bx (show m<e.length by omega);have hq:=hp m _ (by omega) hx;have hb:=h1 s m _ n hs hx;rw[uN hp hx,YR,VU];cases hpm:p m with
  |true=>rw[hpm]at hb;rw[ce hb];rfl
  |false=>rw[hpm]at hb;rw[gq hb,ih _ _ (by omega) (by omega) (hI _ _ _ hs)];simp only[Wp]
section
variable {a:ByteArray}{b:Bool}{c:List qN}{d:List tw}{e:List kO}
theorem J6(hp:rW e e.length)(he:e.length<=1000)(k:Int)(hk:k<e.length):mZ ((a,b,c,d,e,()),k,())=some (gh e k,()):=by
 have fold:∀(l s:List Int),l.foldl (λs n=>s++[n]) s=s++l:=by
  intro l;induction l with
  |nil=>intro s;simp
  |cons x l ih=>intro s;rw[VU,ih];simp
 have:=Il (B:=fE) hp (λs m=>s.length+m<=2000) (λs k=>(a,b,c,d,e,s,k,())) (λs n=>s++[n]) (λ_=>false) (λs=>.inl (s,())) (.inl ([],())) (by intro s m n hs;simp;omega) (by intro s m n h hs;omega) (by
  intro s k x m hs hx;simp only[fE];rw[o6 (by omega),bw (by simp;omega),ac,hx];rfl) (by
  intro s k hk;simp only[fE];rw[kb hk];rfl) e.length [] k hk hk (by simp;omega)
 simp only[mZ];rw[show ow (a,b,c,d,e,[],k,())=_ from this,fold];simp only[List.any_eq_false.2 (λ(x:Int) (_:x∈gh e k)=>(by simp:¬(false=true)))];rfl
theorem Az(hp:rW e e.length)(he:e.length<=1000)(k j:Nat)(x:kO)(hx:e[j]?=some x):ij ((a,b,c,d,e,()),(k:Int),(j:Int),())=some ((gh e x.2.1).any λn=>eqI n k,()):=by
 have hq:=hp j x (tz.1 hx).1 hx;have hj:=(tz.1 hx).1;have:=Il (B:=eV) hp (λ(s:Unit) m=>True) (λs n=>(a,b,c,d,e,(k:Int),n,())) (λs n=>s) (λn=>eqI n k) (λs=>.inr (.inl ())) (.inl (true,())) (λ_ _ _ _=>trivial) (λ_ _ _ _ _=>trivial) (by
  intro s m y q _ hy;simp only[eV];rw[o6 (by omega),ac,hy];cases eqI (m:Int) k<;>rfl) (by
  intro s m hm;simp only[eV];rw[kb hm];rfl) e.length () x.2.1 (by omega) (by omega) trivial
 simp only[ij,ac,hx,bv];rw[show mz (a,b,c,d,e,(k:Int),x.2.1,())=_ from this];cases(gh e x.2.1).any λn=>eqI n k<;>rfl
theorem H3(hp:rW e e.length)(k j:Nat)(hj:j<e.length):iG ((a,b,c,d,e,()),(j:Int),(k:Int),())=some ((gh e j).any λn=>eqI n k,()):=by
 have:=Il (B:=eY) hp (λ(s:Unit) m=>True) (λs n=>(a,b,c,d,e,n,(k:Int),())) (λs n=>s) (λn=>eqI n k) (λs=>.inr (.inl ())) (.inl (true,())) (λ_ _ _ _=>trivial) (λ_ _ _ _ _=>trivial) (by
  intro s m y q _ hy;simp only[eY];rw[o6 (by omega),ac,hy];cases eqI (m:Int) k<;>rfl) (by
  intro s m hm;simp only[eY];rw[kb hm];rfl) e.length () j (by omega) (by omega) trivial
 simp only[iG];rw[show mC (a,b,c,d,e,(j:Int),(k:Int),())=_ from this];cases(gh e j).any λn=>eqI n k<;>rfl
theorem Sm(hp:rW e e.length)(k:Nat)(v:Nat)(x:qN)(hx:c[v]?=some x)(hc:x.2.2.2.2.1<e.length):ot ((a,b,c,d,e,()),(k:Int),(v:Int),())=some ((gh e x.2.2.2.2.1).any λn=>eqI n k,()):=by
 have:=Il (B:=gz) hp (λ(s:Unit) m=>True) (λs n=>(a,b,c,d,e,(k:Int),n,())) (λs n=>s) (λn=>eqI n k) (λs=>.inr (.inl ())) (.inl (true,())) (λ_ _ _ _=>trivial) (λ_ _ _ _ _=>trivial) (by
  intro s m y q _ hy;simp only[gz];rw[o6 (by omega),ac,hy];cases eqI (m:Int) k<;>rfl) (by
  intro s m hm;simp only[gz];rw[kb hm];rfl) e.length () x.2.2.2.2.1 (by omega) (by omega) trivial
 simp only[ot];rw[qe (by omega),ac,hx];simp only[U4,bv];rw[show oF (a,b,c,d,e,(k:Int),x.2.2.2.2.1,())=_ from this];cases(gh e x.2.2.2.2.1).any λn=>eqI n k<;>rfl
end
theorem Fi{σ ρ α:Type}{B:σ->Option (σ⊕ρ)}(l:List α)(st:Nat->σ)(p:α->Bool)(yes:Nat->ρ)(no:ρ)
  (h1:∀ i (h:i<l.length),B (st i)=some (cond (p l[i]) (.inr (yes i)) (.inl (st (i+1))))) (h2:B (st l.length)=some (.inr no)) :
  ∃ r,ab B (st 0)=some r/\((l.any p=true/\∃ i,r=yes i)\/(l.any p=false/\r=no)):=by
 have key:∀ n i,i+n=l.length->(l.take i).any p=false->∃ r,ab B (st i)=some r/\((l.any p=true/\∃ i,r=yes i)\/(l.any p=false/\r=no)):=by
  intro n;induction n with
  |zero=>
   intro i hi ht;have:i=l.length:=by omega
   subst this;rw[List.take_length]at ht;exact⟨no,ce h2,.inr ⟨ht,rfl⟩⟩
  |succ n ih=>
   intro i hi ht;have hl:i<l.length:=by omega
   have hb:=h1 i hl;cases hp:p l[i]with
   |true=>rw[hp]at hb;exact⟨_,ce hb,.inl ⟨List.any_eq_true.2 ⟨_,A2 hl,hp⟩,i,rfl⟩⟩
   |false=>rw[hp]at hb;rw[gq hb];refine ih (i+1) (by omega) ?_;rw[List.take_succ_eq_append_getElem hl,List.any_append,ht];simp[hp]
 exact key l.length 0 (by omega) rfl
theorem FT(l:List Int)(n:Int)(hl:l.length<=1000000):dX (l,n,())=some (l.any λm=>eqI n m,()):=by
 obtain⟨r,h1,h2⟩:=Fi (B:=fQ) l (λi=>(l,n,(l.length:Int),(i:Int),())) (λm=>eqI n m) (λi=>.inl ((i:Int),())) (.inr (.inl ())) (by
  intro i hi;simp only[fQ];rw[aq (by omega),U3,ac,bx hi,aR (by omega)];simp only[bv];cases eqI n l[i]<;>rfl) (by
  simp only[fQ];rw[aj (by omega)];rfl)
 unfold dX qM;simp only;rw[show nt (l,n,(l.length:Int),0,())=_ from h1];rcases h2 with⟨h,i,rfl⟩|⟨h,rfl⟩
 ·simp only[bv,B7,h,o6 (show(0:Int)<=(i:Int) by omega)]
 simp only[bv,B7,Vx,h];rfl
theorem Tt(l:List Int)(n:Int)(hl:l.length<=1000000):oA (l,n,())=some (l.any λm=>eqI m n,()):=by
 have h1:oC (l,n,0,())=some (cond (l.any λm=>eqI m n) (.inl (true,())) (.inr (.inl ()))):=
  gl (B:=gu) l (λi=>(l,n,(i:Int),())) (λm=>eqI m n) _ _ (by
   intro i hi;simp only[gu];rw[aq (by omega),U3,ac,bx hi,aR (by omega)];simp only[bv];cases eqI l[i] n<;>rfl) (by
   simp only[gu];rw[aj (by omega)];rfl)
 unfold oA;simp only[h1];cases(l.any λm=>eqI m n)<;>rfl
theorem KW(a b:Int):eqI a b=eqI b a:=by
 by_cases h:a=b
 ·rw[tg h,tg h.symm]
 rw[qe h,qe λe=>h e.symm]
def KP(c:List qN)(e:List kO)(k:Nat)(v:Nat):Bool:=match c[v]? with
 |some x=>(gh e x.2.2.2.2.1).any λn=>eqI n k
 |none=>false
theorem MT{c:List qN}{e:List kO}{k v:Nat}{x:qN}(h:c[v]?=some x):KP c e k v=(gh e x.2.2.2.2.1).any λn=>eqI n k:=by unfold KP;rw[h]
def mbr(c:List qN)(e:List kO)(k:Nat):List Int:=((L7 c.length).filter (KP c e k)).map λ(v:Nat)=>(v:Int)
def mbF(c:List qN)(e:List kO)(k:Nat)(s:List Int)(v:Nat):List Int:=cond (KP c e k v) (s++[(v:Int)]) s
theorem K0(c:List qN)(e:List kO)(k:Nat):∀(l:List Nat) (s:List Int),l.foldl (mbF c e k) s=s++(l.filter (KP c e k)).map λ(v:Nat)=>(v:Int):=by
 intro l;induction l with
 |nil=>intro s;simp
 |cons v l ih=>intro s;rw[VU,ih,Yz];unfold mbF;cases KP c e k v<;>simp
theorem ND(c:List qN)(e:List kO)(k:Nat)(s:List Int)(v:Nat):(mbF c e k s v).length<=s.length+1:=by unfold mbF;cases KP c e k v<;>simp
section
variable {a:ByteArray}{b:Bool}{c:List qN}{d:List tw}{e:List kO}
theorem Ix(H:FewG a c d e)(G:GOK c d e)(hv:cX ((a,b,c,d,e,()),())=some (0,()))(k:Nat)(hk:k<e.length):rt ((a,b,c,d,e,()),(k:Int),())=some (mbr c e k,()):=by
 have hcl:=H.hc;have hel:=H.he;have:=eu (B:=jS) (L7 c.length) (mbF c e k) [] (λi s=>s.length<=i) (λs i=>(a,b,c,d,e,s,(k:Int),c,(c.length:Int),(i:Int),())) (λs=>.inl (s,())) (B5 _)
  (by intro i v s _ hs;have:=ND c e k s v;omega) (by
  intro i v s hv hs;have hi:i<c.length:=by have:=(tz.1 hv).1;simpa using this
  have hvi:v=i:=by rw[bx (by simpa using hi)]at hv;simpa using(L9 hv).symm
  subst hvi;have hx:=bx hi;have hq:=G.node _ (A2 hi);have har:=Hk G.par e.length c[v].2.2.2.2.1 (by omega);simp only[jS];rw[aq (by omega),U3,ac,hx];simp only[bv];rw[aj (by omega),U4,J6 G.par hel _ hq.2];simp only[bv];rw[FT _ _ (by omega),bw (by simp;omega),aR (by omega)];simp only[bv];rw[show mbF c e k s v=cond ((gh e c[v].2.2.2.2.1).any λn=>eqI n k) (s++[(v:Int)]) s by unfold mbF;rw[MT hx],show(λm=>eqI (k:Int) m)=λm=>eqI m (k:Int)from funext λm=>KW _ _];cases(gh e c[v].2.2.2.2.1).any λn=>eqI n k<;>rfl) (by
  intro s _;rw[VC];simp only[jS];rw[aj (by omega)];rfl)
 rw[K0]at this;simp only[rt,hv,bv];rw[gW rfl,aj (by omega),kb (by omega)];simp only[U4];rw[show qy (a,b,c,d,e,[],(k:Int),c,(c.length:Int),0,())=_ from this];rfl
theorem KQ(H:FewG a c d e)(G:GOK c d e)(hv:bJ ((a,b,c,d,e,()),())=some (0,()))(k:Nat)(hk:k<e.length):ju ((a,b,c,d,e,()),(k:Int),())=some (mbr c e k,()):=by
 have hcl:=H.hc;have hel:=H.he;have:=eu (B:=dT) (L7 c.length) (mbF c e k) [] (λi s=>s.length<=i) (λs i=>(a,b,c,d,e,s,(k:Int),(i:Int),())) (λs=>.inl (s,())) (B5 _)
  (by intro i v s _ hs;have:=ND c e k s v;omega) (by
  intro i v s hv hs;have hi:i<c.length:=by have:=(tz.1 hv).1;simpa using this
  have hvi:v=i:=by rw[bx (by simpa using hi)]at hv;simpa using(L9 hv).symm
  subst hvi;have hx:=bx hi;have hq:=G.node _ (A2 hi);simp only[dT];rw[aq (by omega),U3,Sm G.par k v _ hx hq.2];simp only[bv];rw[bw (by simp;omega),aR (by omega)];simp only[bv];rw[show mbF c e k s v=cond ((gh e c[v].2.2.2.2.1).any λn=>eqI n k) (s++[(v:Int)]) s by unfold mbF;rw[MT hx]];cases(gh e c[v].2.2.2.2.1).any λn=>eqI n k<;>rfl) (by
  intro s _;rw[VC];simp only[dT];rw[aj (by omega)];rfl)
 rw[K0]at this;simp only[ju,hv,bv];rw[gW rfl,aj (by omega),kb (by omega)];simp only[U4];rw[show kh (a,b,c,d,e,[],(k:Int),0,())=_ from this];rfl
theorem SE{k:Nat}:(mbr c e k).length<=c.length:=by unfold mbr;rw[Vq];have:=WS (KP c e k) (L7 c.length);rw[VC]at this;exact this
end
end Go.Vm

/-
 AuditFinds: compound.Check and layoutref47.Check agree.
-/
namespace Go.Vm
open Go.Proofs
set_option maxRecDepth 100000
attribute [local irreducible] ab
theorem FN{c:Bool}{x:Bool}:(cond c (some (x,())) (some (false,())):Option (Bool×Unit))=some (c&&x,()):=by cases c<;>rfl
theorem OB(p:PtD):fA (p,())=some (ptB p,()):=AR p
def Sw(z:BoxD)(p:PtD):Bool:=bxB z&&(ptB p&&(geI p.1 z.1&&(leI p.1 z.2.2.1&&(geI p.2.1 z.2.1&&leI p.2.1 z.2.2.2.1))))
theorem DR(z:BoxD)(p:PtD):cL (z,p,())=some (Sw z p,()):=by obtain⟨a,b,c,d,u⟩:=z;obtain⟨e,f,v⟩:=p;simp only[cL];rw[show aQ ((a,b,c,d,()),())=some (bxB (a,b,c,d,()),())from BE _,show fA ((e,f,()),())=some (ptB (e,f,()),())from OB _];simp only[bv,FN];rfl
def inB(x z:BoxD):Bool:=bxB x&&(bxB z&&(leI z.1 x.1&&(leI x.2.2.1 z.2.2.1&&(leI z.2.1 x.2.1&&leI x.2.2.2.1 z.2.2.2.1))))
theorem OF(x z:BoxD):uE (x,z,())=some (inB x z,()):=by obtain⟨a,b,c,d,u⟩:=x;obtain⟨e,f,g,h,v⟩:=z;simp only[uE];rw[show da ((a,b,c,d,()),())=some (bxB (a,b,c,d,()),())from Cl _,show da ((e,f,g,h,()),())=some (bxB (e,f,g,h,()),())from Cl _];simp only[bv,FN];rfl
theorem Lj(x z:BoxD):gF (x,z,())=some (inB x z,()):=by
 obtain⟨a,b,c,d,u⟩:=x;obtain⟨e,f,g,h,v⟩:=z;simp only[gF];rw[show aQ ((a,b,c,d,()),())=some (bxB (a,b,c,d,()),())from BE _,show cL ((e,f,g,h,()),(a,b,()),())=some (Sw (e,f,g,h,()) (a,b,()),())from DR _ _,show cL ((e,f,g,h,()),(c,d,()),())=some (Sw (e,f,g,h,()) (c,d,()),())from DR _ _];simp only[bv,FN];refine congrArg (λt=>some (t,())) ?_;unfold inB;cases hb:bxB (a,b,c,d,())with
 |false=>rfl
 |true=>
  unfold bxB at hb;simp only[sg]at hb;obtain⟨p1,p2,p3,p4⟩:=hb;simp only[leI,decide_eq_true_eq]at p3 p4;unfold Sw;rw[p1,p2];cases bxB (e,f,g,h,())with
  |false=>rfl
  |true=>simp only[Bool.true_and,leI,geI];rw[Bool.eq_iff_iff];simp only[sg,decide_eq_true_eq];omega
def uU(z:BoxD)(n:Int):BoxD:=cond (!bxB z) Fh (cond (gtI n 536870912) Fh (cond (ltI n (-536870912)) Fh (cond (!bxB (aK .i64 z.1 n,aK .i64 z.2.1 n,af .i64 z.2.2.1 n,af .i64 z.2.2.2.1 n,())) Fh (aK .i64 z.1 n,aK .i64 z.2.1 n,af .i64 z.2.2.1 n,af .i64 z.2.2.2.1 n,()))))
theorem Ma(z:BoxD)(n:Int):vf (z,n,())=some (uU z n,()):=by obtain⟨a,b,c,d,u⟩:=z;simp only[vf,yL];rw[show da ((a,b,c,d,()),())=some (bxB (a,b,c,d,()),())from Cl _,show da ((aK .i64 a n,aK .i64 b n,af .i64 c n,af .i64 d n,()),())=some (bxB (aK .i64 a n,aK .i64 b n,af .i64 c n,af .i64 d n,()),())from Cl _];simp only[bv,uU];cases bxB (a,b,c,d,())<;>cases gtI n 536870912<;>cases ltI n (-536870912)<;>cases bxB (aK .i64 a n,aK .i64 b n,af .i64 c n,af .i64 d n,())<;>rfl
theorem Kd(z:BoxD)(n:Int):jx (z,n,())=some (uU z n,()):=by obtain⟨a,b,c,d,u⟩:=z;simp only[jx];rw[show aQ ((a,b,c,d,()),())=some (bxB (a,b,c,d,()),())from BE _,show aQ ((aK .i64 a n,aK .i64 b n,af .i64 c n,af .i64 d n,()),())=some (bxB (aK .i64 a n,aK .i64 b n,af .i64 c n,af .i64 d n,()),())from BE _];simp only[bv,uU];cases bxB (a,b,c,d,())<;>cases gtI n 536870912<;>cases ltI n (-536870912)<;>cases bxB (aK .i64 a n,aK .i64 b n,af .i64 c n,af .i64 d n,())<;>rfl
theorem DX(x:BoxD)(g:List BoxD)(k m:Int)(hk:k<g.length):∃ r,iA (x,k,g,m,())=some (r,())/\gv (x,g,k,m,())=some (r,()):=by
 obtain⟨a,b,c,d,u⟩:=x;simp only[iA,gv];by_cases h:k<0
 ·rw[aq h];exact⟨true,rfl,rfl⟩
 rw[aj (by omega),nM (by omega),bx (show k.toNat<g.length by omega)];simp only[U4,bv,Ma,Kd];rw[show uE ((a,b,c,d,()),((uU g[k.toNat] (aK .i64 0 m)).1,(uU g[k.toNat] (aK .i64 0 m)).2.1,(uU g[k.toNat] (aK .i64 0 m)).2.2.1,(uU g[k.toNat] (aK .i64 0 m)).2.2.2.1,()),())=some (inB (a,b,c,d,()) (uU g[k.toNat] (aK .i64 0 m)),())from OF _ _,
  show gF ((a,b,c,d,()),((uU g[k.toNat] (aK .i64 0 m)).1,(uU g[k.toNat] (aK .i64 0 m)).2.1,(uU g[k.toNat] (aK .i64 0 m)).2.2.1,(uU g[k.toNat] (aK .i64 0 m)).2.2.2.1,()),())=some (inB (a,b,c,d,()) (uU g[k.toNat] (aK .i64 0 m)),())from Lj _ _]
 exact⟨_,rfl,rfl⟩
theorem KM(x y:BoxD):ovB x y=ovB y x:=by unfold ovB;rw[tC x.1,tF x.2.2.1,tC x.2.1,tF x.2.2.2.1];cases bxB x<;>cases bxB y<;>rfl
theorem Us(l:List BoxD)(x:BoxD)(hl:l.length<=1000):aW (l,(x,()),())=some (l.any λy=>ovB y x,()):=by
 obtain⟨r,h1,h2⟩:=Fi (B:=aU) l (λi=>(l,(x,()),(l.length:Int),(i:Int),())) (λy=>ovB y x) (λi=>.inl ((i:Int),())) (.inr (.inl ())) (by
  intro i hi;simp only[aU];rw[aq (by omega),U3,ac,bx hi,aR (by omega)];simp only[bv,qJ];rw[show eW ((l[i].1,l[i].2.1,l[i].2.2.1,l[i].2.2.2.1,()),x,())=some (ovB l[i] x,())from KS _ _];simp only[bv];cases ovB l[i] x<;>rfl) (by
  simp only[aU];rw[aj (by omega)];rfl)
 unfold aW cC;simp only;rw[show bW (l,(x,()),(l.length:Int),0,())=_ from h1];rcases h2 with⟨h,i,rfl⟩|⟨h,rfl⟩
 ·simp only[bv,B7,h,o6 (show(0:Int)<=(i:Int) by omega)]
 simp only[bv,B7,Vx,h];rfl
theorem S1(l:List BoxD)(hl:l.length<=1000):aV (l,(),())=some (l.any λy=>!bxB y,()):=by
 obtain⟨r,h1,h2⟩:=Fi (B:=aT) l (λi=>(l,(),(l.length:Int),(i:Int),())) (λy=>!bxB y) (λi=>.inl ((i:Int),())) (.inr (.inl ())) (by
  intro i hi;simp only[aT];rw[aq (by omega),U3,ac,bx hi,aR (by omega)];simp only[bv,qx];rw[show da ((l[i].1,l[i].2.1,l[i].2.2.1,l[i].2.2.2.1,()),())=some (bxB l[i],())from Cl _];simp only[bv];cases bxB l[i]<;>rfl) (by
  simp only[aT];rw[aj (by omega)];rfl)
 unfold aV cw;simp only;rw[show bZ (l,(),(l.length:Int),0,())=_ from h1];rcases h2 with⟨h,i,rfl⟩|⟨h,rfl⟩
 ·simp only[bv,B7,h,o6 (show(0:Int)<=(i:Int) by omega)]
 simp only[bv,B7,Vx,h];rfl
section
variable {a:ByteArray}{b:Bool}{c:List qN}{d:List tw}{e:List kO}{f g:List BoxD}
theorem JP(hf:f.length<=20):∃ r u,po (a,b,c,d,e,f,g,f,(f.length:Int),0,())=some r/\jR (a,b,c,d,e,f,g,0,())=some u/\
  ((r=.inl (false,())/\u=.inl (true,()))\/(r=.inr (.inl (a,b,c,d,e,f,g,()))/\u=.inr (.inl (a,b,c,d,e,f,g,())))):=by
 refine vY (B:=lF) (C:=fk) (λs t=>∃ i:Nat,i<=f.length/\s=(a,b,c,d,e,f,g,f,(f.length:Int),(i:Int),())/\t=(a,b,c,d,e,f,g,(i:Int),())) (λs=>f.length-s.2.2.2.2.2.2.2.2.2.1.toNat) _ ?_ _ _ ⟨0,L4 _,rfl,rfl⟩;rintro s t ⟨i,hi,rfl,rfl⟩;simp only[lF,fk];by_cases h:i<f.length
 ·rw[aq (by omega)];simp only[U3,ac,bx h,bv];rw[mc (by omega)];simp only[bv];rw[show aW (f.take i,((f[i].1,f[i].2.1,f[i].2.2.1,f[i].2.2.2.1,()),()),())=some ((f.take i).any λy=>ovB y f[i],())from Us _ _ (by rw[Vd];omega)];have hin:=gl (B:=dG) (f.take i) (λk=>(a,b,c,d,e,f,g,(i:Int),(k:Int),())) (λy=>ovB y f[i]) (.inl (true,())) (.inr (.inl (a,b,c,d,e,f,g,(i:Int),()))) (by
   intro k hk;rw[Vd]at hk;simp only[dG];rw[aq (by omega)];simp only[U3,ac,bx h,bx (show k<f.length by omega),bv,Jg,Wo,aR (show k<9223372036854775807 by omega)];rw[KM f[i]];cases ovB f[k] f[i]<;>rfl) (by
   rw[Vd,Nat.min_eq_left (by omega)];simp only[dG];rw[aj (by omega)];rfl)
  rw[show jM (a,b,c,d,e,f,g,(i:Int),0,())=_ from hin];simp only[bv,aR (show i<9223372036854775807 by omega)];cases(f.take i).any λy=>ovB y f[i]with
  |true=>exact .inr ⟨_,_,rfl,rfl,.inl ⟨rfl,rfl⟩⟩
  |false=>simp only[U4,Vx,B7,aR (show i<9223372036854775807 by omega)];exact .inl ⟨_,_,rfl,rfl,⟨i+1,h,rfl,rfl⟩,by show f.length-((i+1:Nat):Int).toNat<f.length-(i:Int).toNat;omega⟩
 rw[aj (by omega)];exact .inr ⟨_,_,rfl,rfl,.inr ⟨rfl,rfl⟩⟩
theorem GS(hf:f.length<=20){i:Nat}(hi:i<g.length)(m:List Int)(hm:m.length<=1000)(N J:Int)(z:List BoxD):
  oH (a,b,c,d,e,g[i].1,g[i].2.1,g[i].2.2.1,g[i].2.2.2.1,m,f,g,J,z,N,J,f,(f.length:Int),0,()) =
   some (cond ((L7 f.length).any λv=>match f[v]? with|some x=>!(m.any λn=>eqI n v)&&ovB x g[i]|none=>false) (.inl (false,())) (.inr (.inl (a,b,c,d,e,g[i].1,g[i].2.1,g[i].2.2.1,g[i].2.2.2.1,f,g,J,z,N,J,())))) /\
  i8 (a,b,c,d,e,m,f,g,(i:Int),0,()) =
   some (cond ((L7 f.length).any λv=>match f[v]? with|some x=>!(m.any λn=>eqI n v)&&ovB x g[i]|none=>false) (.inl (true,())) (.inr (.inl (a,b,c,d,e,f,g,(i:Int),())))):=by
 constructor
 ·refine gl (B:=gD) (L7 f.length) (λv=>(a,b,c,d,e,g[i].1,g[i].2.1,g[i].2.2.1,g[i].2.2.2.1,m,f,g,J,z,N,J,f,(f.length:Int),(v:Int),())) _ _ _ ?_ ?_
  ·intro v hv;have hv:v<f.length:=by simpa using hv
   simp only[gD,WI];rw[aq (by omega)];simp only[U3,ac,bx hv,bv];rw[FT m v (by omega),show(λn=>eqI (v:Int) n)=λn=>eqI n (v:Int)from funext λn=>KW _ _];rw[show eW ((f[v].1,f[v].2.1,f[v].2.2.1,f[v].2.2.2.1,()),(g[i].1,g[i].2.1,g[i].2.2.1,g[i].2.2.2.1,()),())=some (ovB f[v] g[i],())from KS _ _,aR (by omega)];simp only[bv];cases m.any λn=>eqI n (v:Int)<;>cases ovB f[v] g[i]<;>rfl
  simp only[gD,VC];rw[aj (by omega)];rfl
 refine gl (B:=di) (L7 f.length) (λv=>(a,b,c,d,e,m,f,g,(i:Int),(v:Int),())) _ _ _ ?_ ?_
 ·intro v hv;have hv:v<f.length:=by simpa using hv
  simp only[di,WI];rw[aq (by omega),Tt m v (by omega)];simp only[U3,ac,bx hv,bx hi,bv,Jg,aR (show v<9223372036854775807 by omega)];cases m.any λn=>eqI n (v:Int)<;>cases ovB f[v] g[i]<;>rfl
 simp only[di,VC];rw[aj (by omega)];rfl
theorem DT(l:List Int)(n k:Int)(h:n≠k):((n::l).any λm=>eqI m k)=l.any λm=>eqI m k:=by rw[YR,qe h,Wp]
theorem GQ(G:GOK c d e)(he:e.length<=1000)(hg:g.length=e.length){i:Nat}(hi:i<g.length)(N J:Int)(z:List BoxD):
  ∃ r u,oI (a,b,c,d,e,g[i].1,g[i].2.1,g[i].2.2.1,g[i].2.2.2.1,f,g,(i:Int),z,N,J,g.take i,((g.take i).length:Int),0,())=some r /\
   iZ (a,b,c,d,e,f,g,(i:Int),0,())=some u /\
   ((r=.inl (false,())/\u=.inl (true,()))\/(r=.inr (.inl (a,b,c,d,e,f,g,z,N,J,()))/\u=.inr (.inl (a,b,c,d,e,f,g,(i:Int),())))):=by
 have hlen:(g.take i).length=i:=by rw[Vd];omega
 rw[hlen];refine vY (B:=ke) (C:=eQ) (λs t=>∃ k:Nat,k<=i/\s=(a,b,c,d,e,g[i].1,g[i].2.1,g[i].2.2.1,g[i].2.2.2.1,f,g,(i:Int),z,N,J,g.take i,(i:Int),(k:Int),())/\t=(a,b,c,d,e,f,g,(i:Int),(k:Int),())) (λs=>i-s.2.2.2.2.2.2.2.2.2.2.2.2.2.2.2.2.2.1.toNat) _ ?_ _ _ ⟨0,L4 _,rfl,rfl⟩;rintro s t ⟨k,hk,rfl,rfl⟩;simp only[ke,eQ];by_cases h:k<i
 ·have hxi:=bx (show i<e.length by omega);have hxk:=bx (show k<e.length by omega);rw[aq (by omega)];simp only[U3,ac];rw[bx (show k<(g.take i).length by omega),Wo];simp only[bv];rw[Az G.par he k i _ hxi,Az G.par he i k _ hxk,H3 G.par k i (by omega),H3 G.par i k (by omega)];rw[uN G.par hxi,uN G.par hxk,DT _ _ _ (by omega),DT _ _ _ (by omega)];simp only[bv];rw[show eW ((g[k].1,g[k].2.1,g[k].2.2.1,g[k].2.2.2.1,()),(g[i].1,g[i].2.1,g[i].2.2.1,g[i].2.2.2.1,()),())=some (ovB g[k] g[i],())from KS _ _,bx hi,bx (show k<g.length by omega)];simp only[bv,Jg];rw[KM g[i],aR (by omega)];cases(gh e e[i].2.1).any λn=>eqI n k with
  |true=>exact .inl ⟨_,_,rfl,rfl,⟨k+1,h,rfl,rfl⟩,by show i-((k+1:Nat):Int).toNat<i-(k:Int).toNat;omega⟩
  |false=>
   cases(gh e e[k].2.1).any λn=>eqI n i with
   |true=>exact .inl ⟨_,_,rfl,rfl,⟨k+1,h,rfl,rfl⟩,by show i-((k+1:Nat):Int).toNat<i-(k:Int).toNat;omega⟩
   |false=>
    cases ovB g[k] g[i]with
    |false=>exact .inl ⟨_,_,rfl,rfl,⟨k+1,h,rfl,rfl⟩,by show i-((k+1:Nat):Int).toNat<i-(k:Int).toNat;omega⟩
    |true=>exact .inr ⟨_,_,rfl,rfl,.inl ⟨rfl,rfl⟩⟩
 rw[aj (by omega)];exact .inr ⟨_,_,rfl,rfl,.inr ⟨rfl,rfl⟩⟩
theorem Mw(H:FewG a c d e)(G:GOK c d e)(hv:cX ((a,b,c,d,e,()),())=some (0,()))(hv2:bJ ((a,b,c,d,e,()),())=some (0,()))(hf:f.length<=20)(hg20:g.length<=20)(hg:g.length=e.length):
  ∃ r,pV ((a,b,c,d,e,()),f,g,())=some (r,())/\iB ((a,b,c,d,e,()),f,g,())=some (!r,()):=by
 obtain⟨r,u,h1,h2,h3⟩:=JP (a:=a) (b:=b) (c:=c) (d:=d) (e:=e) (g:=g) hf;simp only[pV,iB,h1,h2,bv];rcases h3 with⟨rfl,rfl⟩|⟨rfl,rfl⟩
 ·exact⟨false,rfl,rfl⟩
 simp only[Vx,B7];obtain⟨r,u,h4,h5,h6⟩:=vY (B:=lH) (C:=eN) (λs t=>∃ i:Nat,i<=g.length/\s=(a,b,c,d,e,f,g,g,(g.length:Int),(i:Int),())/\t=(a,b,c,d,e,f,g,(i:Int),())) (λs=>g.length-s.2.2.2.2.2.2.2.2.2.1.toNat)
  (λr u=>(r=.inl (false,())/\u=.inl (true,()))\/(r=.inr (.inl ())/\u=.inr (.inl ()))) (by
  rintro s t ⟨i,hi,rfl,rfl⟩;simp only[lH,eN];by_cases h:i<g.length
  ·have he:=H.he;have hc:=H.hc;rw[aq (by omega)];simp only[U3,ac,bx h,bv];rw[Ix H G hv i (by omega),KQ H G hv2 i (by omega)];simp only[bv];have hml:=SE (c:=c) (e:=e) (k:=i);obtain⟨e1,e2⟩:=GS (a:=a) (b:=b) (c:=c) (d:=d) (e:=e) (f:=f) hf h (mbr c e i) (by omega) (g.length:Int) (i:Int) g;rw[e1,e2];generalize ((L7 f.length).any λv=>match f[v]? with|some x=>!((mbr c e i).any λn=>eqI n v)&&ovB x g[i]|none=>false)=q;cases q with
   |true=>exact .inr ⟨_,_,rfl,rfl,.inl ⟨rfl,rfl⟩⟩
   |false=>
    simp only[U4,bv,Vx,B7];rw[mc (by omega)];simp only[bv];obtain⟨r,u,g1,g2,g3⟩:=GQ (a:=a) (b:=b) (f:=f) G he hg h (g.length:Int) (i:Int) g;rw[g1,g2];simp only[bv];rcases g3 with⟨rfl,rfl⟩|⟨rfl,rfl⟩
    ·exact .inr ⟨_,_,rfl,rfl,.inl ⟨rfl,rfl⟩⟩
    simp only[Vx,B7,aR (show i<9223372036854775807 by omega)];exact .inl ⟨_,_,rfl,rfl,⟨i+1,h,rfl,rfl⟩,by show g.length-((i+1:Nat):Int).toNat<g.length-(i:Int).toNat;omega⟩
  rw[aj (by omega)];exact .inr ⟨_,_,rfl,rfl,.inr ⟨rfl,rfl⟩⟩) (a,b,c,d,e,f,g,g,(g.length:Int),0,()) (a,b,c,d,e,f,g,0,()) ⟨0,L4 _,rfl,rfl⟩
 rw[show pO (a,b,c,d,e,f,g,g,(g.length:Int),0,())=_ from h4,show i6 (a,b,c,d,e,f,g,0,())=_ from h5];rcases h6 with⟨rfl,rfl⟩|⟨rfl,rfl⟩
 ·exact⟨false,rfl,rfl⟩
 exact⟨true,rfl,rfl⟩
theorem Hy(l:List BoxD)(n:Int)(hl:l.length<=1000)(ha:l.all bxB=true)(hn:(l.length:Int)=n):iz (l,n,())=some (true,()):=by
 have h2:l.all bxB=!l.any (λb=>!bxB b):=Xh;have h1:mq (l,n,0,())=some (cond (l.any λb=>!bxB b) (.inl (false,())) (.inr (.inl (l,n,())))):=
  gl (B:=fa) l (λi=>(l,n,(i:Int),())) _ _ _ (by
   intro i hi;simp only[fa];rw[aq (by omega),U3,ac,bx hi,aR (by omega)];simp only[bv,BE];cases bxB l[i]<;>rfl) (by
   simp only[fa];rw[aj (by omega)];rfl)
 rw[ha]at h2;have h3:(l.any λb=>!bxB b)=false:=by simpa using h2
 rw[h3]at h1;simp only[iz,h1,bv,U4,Vx,B7,tg hn]
theorem Jd(H:FewG a c d e)(G:GOK c d e)(hv:cX ((a,b,c,d,e,()),())=some (0,()))(hv2:bJ ((a,b,c,d,e,()),())=some (0,()))(o1 o2 o3 o4 o5:Int)(ho:cP ((o1,o2,o3,o4,o5,()),())=some (true,()))(ho2:bQ ((o1,o2,o3,o4,o5,()),())=some (true,()))
  (hf20:f.length<=20) (hg20:g.length<=20) (hf:f.length=c.length) (hg:g.length=e.length) (hfb:f.all bxB=true) (hgb:g.all bxB=true) :
  ∃ n,p8 ((a,b,c,d,e,()),(o1,o2,o3,o4,o5,()),f,g,())=some (n,())/\cG ((a,b,c,d,e,()),(o1,o2,o3,o4,o5,()),f,g,())=some (n,()):=by
 have any_of:∀ l:List BoxD,l.all bxB=true->(l.any λb=>!bxB b)=false:=by intro l hl;have h2:l.all bxB=!l.any (λb=>!bxB b):=Xh;rw[hl]at h2;simpa using h2
 simp only[p8,cG,hv,hv2,ho,ho2,bv];rw[Hy f _ (by omega) hfb (by omega),Hy g _ (by omega) hgb (by omega),S1 f (by omega),S1 g (by omega),any_of f hfb,any_of g hgb,gW (show((f.length:Nat):Int)=c.length by omega),gW (show((g.length:Nat):Int)=e.length by omega)];simp only[bv,U4,gW (show(0:Int)=0 from rfl),U8]
 obtain⟨r,u,h1,h2,h3⟩:=vY (B:=kF) (C:=iq) (λs t=>∃ i:Nat,i<=f.length/\s=(a,b,c,d,e,o1,o2,o3,o4,o5,f,g,f,(f.length:Int),(i:Int),())/\t=(a,b,c,d,e,o1,o2,o3,o4,o5,f,g,(i:Int),())) (λs=>f.length-s.2.2.2.2.2.2.2.2.2.2.2.2.2.2.1.toNat)
  (λr u=>(r=.inl (13,())/\u=.inl (13,()))\/(r=.inr (.inl (a,b,c,d,e,o1,o2,o3,o4,o5,f,g,()))/\u=.inr (.inl (a,b,c,d,e,o1,o2,o3,o4,o5,f,g,())))) (by
  rintro s t ⟨i,hi,rfl,rfl⟩;simp only[kF,iq];by_cases h:i<f.length
  ·rw[aq (by omega)];simp only[U3,ac,bx h,bx (show i<c.length by omega),bv,sN,Iq,aR (show i<9223372036854775807 by omega)];cases eqI (aK .i64 f[i].2.2.1 f[i].1) c[i].2.2.1<;>cases eqI (aK .i64 f[i].2.2.2.1 f[i].2.1) c[i].2.2.2.1;all_goals first|exact .inr ⟨_,_,rfl,rfl,.inl ⟨rfl,rfl⟩⟩|exact .inl ⟨_,_,rfl,rfl,⟨i+1,h,rfl,rfl⟩,by show f.length-((i+1:Nat):Int).toNat<f.length-(i:Int).toNat;omega⟩
  rw[aj (by omega)];exact .inr ⟨_,_,rfl,rfl,.inr ⟨rfl,rfl⟩⟩) (a,b,c,d,e,o1,o2,o3,o4,o5,f,g,f,(f.length:Int),0,()) (a,b,c,d,e,o1,o2,o3,o4,o5,f,g,0,()) ⟨0,L4 _,rfl,rfl⟩
 rw[show oR (a,b,c,d,e,o1,o2,o3,o4,o5,f,g,f,(f.length:Int),0,())=_ from h1,show l9 (a,b,c,d,e,o1,o2,o3,o4,o5,f,g,0,())=_ from h2];rcases h3 with⟨rfl,rfl⟩|⟨rfl,rfl⟩
 ·exact⟨13,rfl,rfl⟩
 simp only[bv,Vx,B7,sO]
 obtain⟨r,u,h1,h2,h3⟩:=vY (B:=kC) (C:=gK) (λs t=>∃ i:Nat,i<=f.length/\s=(a,b,c,d,e,g,o4,f,c,(c.length:Int),(i:Int),())/\t=(a,b,c,d,e,o1,o2,o3,o4,o5,f,g,(i:Int),())) (λs=>f.length-s.2.2.2.2.2.2.2.2.2.2.1.toNat)
  (λr u=>(r=.inl (false,())/\u=.inl (3,()))\/(r=.inr (.inl (a,b,c,d,e,g,o4,()))/\u=.inr (.inl (a,b,c,d,e,o1,o2,o3,o4,o5,f,g,())))) (by
  rintro s t ⟨i,hi,rfl,rfl⟩;simp only[kC,gK];by_cases h:i<f.length
  ·have hc:i<c.length:=by omega
   obtain⟨w,w1,w2⟩:=DX f[i] g c[i].2.2.2.2.1 o4 (by have:=(G.node _ (A2 hc)).2;omega);rw[aq (show(i:Int)<(c.length:Int) by omega),aq (show(i:Int)<(f.length:Int) by omega)];simp only[U3,ac,bx h,bx hc,bv,w1,w2,aR (show i<9223372036854775807 by omega)];cases w
   ·exact .inr ⟨_,_,rfl,rfl,.inl ⟨rfl,rfl⟩⟩
   exact .inl ⟨_,_,rfl,rfl,⟨i+1,h,rfl,rfl⟩,by show f.length-((i+1:Nat):Int).toNat<f.length-(i:Int).toNat;omega⟩
  rw[aj (show(c.length:Int)<=(i:Int) by omega),aj (show(f.length:Int)<=(i:Int) by omega)];exact .inr ⟨_,_,rfl,rfl,.inr ⟨rfl,rfl⟩⟩) (a,b,c,d,e,g,o4,f,c,(c.length:Int),0,()) (a,b,c,d,e,o1,o2,o3,o4,o5,f,g,0,()) ⟨0,L4 _,rfl,rfl⟩
 rw[show oM (a,b,c,d,e,g,o4,f,c,(c.length:Int),0,())=_ from h1,show kZ (a,b,c,d,e,o1,o2,o3,o4,o5,f,g,0,())=_ from h2];rcases h3 with⟨rfl,rfl⟩|⟨rfl,rfl⟩
 ·exact⟨3,rfl,rfl⟩
 simp only[bv,Vx,B7]
 obtain⟨r,u,h1,h2,h3⟩:=vY (B:=kk) (C:=gR) (λs t=>∃ i:Nat,i<=g.length/\s=(g,o4,e,(e.length:Int),(i:Int),())/\t=(a,b,c,d,e,o1,o2,o3,o4,o5,f,g,(i:Int),())) (λs=>g.length-s.2.2.2.2.1.toNat)
  (λr u=>(r=.inl (false,())/\u=.inl (3,()))\/(r=.inr (.inl ())/\u=.inr (.inl (a,b,c,d,e,f,g,())))) (by
  rintro s t ⟨i,hi,rfl,rfl⟩;simp only[kk,gR];by_cases h:i<g.length
  ·have he:i<e.length:=by omega
   have hq:=G.par i _ he (bx he);obtain⟨w,w1,w2⟩:=DX g[i] g e[i].2.1 o4 (by omega);rw[aq (show(i:Int)<(e.length:Int) by omega),aq (show(i:Int)<(g.length:Int) by omega)];simp only[U3,ac,bx h,bx he,bv,w1,w2,aR (show i<9223372036854775807 by omega)];cases w
   ·exact .inr ⟨_,_,rfl,rfl,.inl ⟨rfl,rfl⟩⟩
   exact .inl ⟨_,_,rfl,rfl,⟨i+1,h,rfl,rfl⟩,by show g.length-((i+1:Nat):Int).toNat<g.length-(i:Int).toNat;omega⟩
  rw[aj (show(e.length:Int)<=(i:Int) by omega),aj (show(g.length:Int)<=(i:Int) by omega)];exact .inr ⟨_,_,rfl,rfl,.inr ⟨rfl,rfl⟩⟩) (g,o4,e,(e.length:Int),0,()) (a,b,c,d,e,o1,o2,o3,o4,o5,f,g,0,()) ⟨0,L4 _,rfl,rfl⟩
 rw[show oN (g,o4,e,(e.length:Int),0,())=_ from h1,show lw (a,b,c,d,e,o1,o2,o3,o4,o5,f,g,0,())=_ from h2];rcases h3 with⟨rfl,rfl⟩|⟨rfl,rfl⟩
 ·exact⟨3,rfl,rfl⟩
 simp only[bv,Vx,B7,U8,U4];obtain⟨r,a1,a2⟩:=Mw H G hv hv2 hf20 hg20 hg;rw[a1,a2];simp only[bv];cases r
 ·exact⟨14,rfl,rfl⟩
 exact⟨0,rfl,rfl⟩
end
end Go.Vm

