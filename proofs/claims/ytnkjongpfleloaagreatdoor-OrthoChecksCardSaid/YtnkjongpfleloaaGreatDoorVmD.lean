/-
 A machine on typed values, small enough to be reckoned by the kernel, and the proof that it goes with the model: part 4 of 5. What it computes for a function is that function's contract. No condition of its own.
-/
import Derived.Test.YtnkjongpfleloaaGreatDoorVmC
import Derived.Maps.RangeRun
import Derived.LoopN
import Derived.ChangeKeysEq
open Option.some renaming injEq->bd,inj->B6
open List renaming getElem?_eq_getElem->dg,range->A2,mem_append->A5,mem_cons->A6,getElem?_eq_some_iff->A7,all_eq_true->A9,getElem?_cons_zero->B5,mem_of_getElem?->B7,getElem?_toArray->B9,map_cons->L3,pairwise_cons->L6,getElem?_take->L8,mem_cons_of_mem->RB,mem_range->RF,pairwise_singleton->RI,length_cons->RJ,append_assoc->RL,append_nil->RN,mem_singleton->RO,mem_cons_self->RX,any_eq_false->Sa,any_eq_true->Sc,pairwise_append->Sh,getD_eq_getElem?_getD->Sp,cons_append->Ss,Pairwise->Sv,mem_flatMap->SD,take_left->SF,flatMap_cons->SJ,mem_filter->Tb,filterMap_cons_some->Tl,flatMap_append->Ts,all_cons->Tx,mem_filterMap->Ub,countP_append->Uc
open Bool renaming and_eq_true->np,not_eq_true'->L7,not_true->RU,or_eq_true->RV,false_eq_true->RY,false_or->Sw,true_and->SQ
open Nat renaming eq_of_beq_eq_true->xy,beq->A3,le_refl->B2,le_of_ble_eq_true->L9,ble->RD,lt_of_lt_of_le->RK,zero_add->RM,add_assoc->RS,eq_or_lt_of_le->RW,add_zero->R2,le_of_lt_succ->Sk,beq_refl->SU,add_comm->S9,blt->Tv,ne_of_lt->UF,sub_zero->UG,blt_eq->UO
open Option renaming bind_eq_some_iff->A1
open Prod.mk renaming injEq->A8
open Array renaming getElem?_eq_some_iff->L5,getD_eq_getD_getElem?->RE,getElem?_toList->R7,replicate->SR,getElem?_setIfInBounds_ne->SX,forIn_toList->T8
open List.Pairwise renaming nil->Se
open List.cons renaming injEq->SK
open List.Sublist renaming refl->Tk,append->UL
open Int renaming le_refl->TF
open Sum.inr renaming injEq->Uj
set_option linter.unusedVariables false
set_option linter.unusedSimpArgs false
/-
 A state laid into a shape: the whole.
-/
namespace Go.Vm
section
variable {P:Program}{C:Ctx}{w0:World}{M:Own}{N:Nat}{a:Act}{m:Mem}{s:St}
theorem I3{G:Heap}{e:Env}{l:List (Nat×SpS)}{p:Nat×SpS}(hp:p∈l):∀ i∈p.2.froz G (e.get p.1),i∈lC G e l:=by
 induction l with
 |nil=>cases hp
 |cons q l ih=>
  intro i hi;simp only[lC,A5];rcases A6.1 hp with rfl|hp
  ·exact .inl hi
  exact .inr (ih hp i hi)
theorem C5{G:Heap}{R:Ren}{l:List (Nat×SpO)}{i j:Nat}{sl:List SpA}{c:List Atom}(hp:(i,SpO.box sl)∈l)(hj:R.get i=some (.own j))(hc:G.get j=some (.box c)):∀ k∈SpA.frozL sl c,k∈eN G R l:=by
 induction l with
 |nil=>cases hp
 |cons q l ih=>
  intro k hk;rcases A6.1 hp with rfl|hp'
  ·simp only[eN,hj,hc,A5];exact .inl hk
  obtain⟨i',sp⟩:=q;cases sp with
  |arr τ=>exact ih hp' k hk
  |deep τ=>exact ih hp' k hk
  |map _ _=>exact ih hp' k hk
  |box s=>simp only[eN,A5];exact .inr (ih hp' k hk)
theorem Heap.key_of_get{G:Heap}:∀{i:Nat} {o:Obj},G.get i=some o->i∈G.map (·.1):=by
 induction G with
 |nil=>intro i o h;simp[Heap.get_nil0,Heap.get_pair]at h
 |cons p r ih=>
  intro i o h;obtain⟨k,v⟩:=p;rw[Heap.get_cons]at h;split at h
  ·rename_i e;simp[e]
  simp only[L3,A6];exact .inr (ih h)
theorem Ren.mem_of_get{R:Ren}:∀{i:Nat} {src:Src},R.get i=some src->(i,src)∈R:=by
 induction R with
 |nil=>intro i src h;simp[Ren.get]at h
 |cons p r ih=>
  intro i src h;obtain⟨k,v⟩:=p;rw[Ren.get_cons]at h;split at h
  ·rename_i e;simp only[bd]at h;subst h;subst e;simp
  simp[ih h]
theorem mO{R:Ren}{i j:Nat}{src:Src}(h:R.get i=some src)(hj:j∈src.ids):j∈R.ids:=by unfold Ren.ids;rw[SD];exact⟨_,Ren.mem_of_get h,hj⟩
theorem Kf{R:Ren}(hn:aM R.ids=true):∀{i i' j:Nat} {src src':Src},R.get i=some src->R.get i'=some src'->j∈src.ids->j∈src'.ids->i=i':=by
 induction R with
 |nil=>intro i i' j src src' h;simp[Ren.get]at h
 |cons p r ih=>
  intro i i' j src src' h h' hj hj';obtain⟨k,v⟩:=p;have hn':aM (Ren.ids r)=true/\∀ x∈v.ids,x∉Ren.ids r:=by
   have e:Ren.ids ((k,v)::r)=v.ids++Ren.ids r:=rfl;rw[e]at hn;cases v with
   |nil=>exact⟨hn,by simp[Src.ids]⟩
   |nild=>exact⟨hn,by simp[Src.ids]⟩
   |own q=>obtain⟨n1,n2⟩:=ej hn;exact⟨n2,by intro x hx;simp[Src.ids]at hx;subst hx;exact n1⟩
   |view q _ _=>obtain⟨n1,n2⟩:=ej hn;exact⟨n2,by intro x hx;simp[Src.ids]at hx;subst hx;exact n1⟩
  rw[Ren.get_cons]at h h';split at h<;>split at h'
  ·omega
  ·simp only[bd]at h;subst h;exact absurd (mO h' hj') (hn'.2 j hj)
  ·simp only[bd]at h';subst h';exact absurd (mO h hj) (hn'.2 j hj')
  exact ih hn'.1 h h' hj hj'
theorem pF(hs:Sim C w0 M N a m s.env)(hG:m.G=s.G){sh:Shape}{x:sh.ty.den}(hp:(∀ i v,M.pin i=some v->i∈sh.pins)/\M.base=none)(h:sh.ext s=some x):∃ m',m'.w=m.w/\m'.G=(sh.inj x).G/\Sim C w0 M N a m' (sh.inj x).env:=by
 unfold Shape.ext at h;split at h
 ·simp at h
 rename_i R0 hR0;split at h
 ·simp at h
 rename_i R hR;cases hc:(sh.wf&&pinned R sh.pins&&aM R.ids && !(R.ids.any λi=>((lC s.G s.env sh.env)++(eN s.G R sh.objs)).any λj=>A3 i j)&&(sh.objs.all λp=>(R.get p.1).isSome)&&(sh.env.all λp=>p.2.look s.G R (s.env.get p.1)))with
 |false=>rw[hc]at h;simp at h
 |true=>
  rw[hc]at h;simp only[UA]at h;simp only[np,L7]at hc;obtain⟨⟨⟨⟨⟨hwf,hpin⟩,hnd⟩,hfz⟩,hall⟩,hlk⟩:=hc;simp only[Shape.wf,np]at hwf;obtain⟨⟨⟨wf0,wf1⟩,wf2⟩,wf3⟩:=hwf;have hfz':∀ i,i∈lC s.G s.env sh.env++eN s.G R sh.objs->i∉R.ids:=by intro i hi hi';rw[Sa]at hfz;have:=hfz i hi';exact this (gK.2 hi)
  obtain⟨ρ0,b1,b2,b3⟩:=zP (m:=m) (e:=s.env) (t:=λi=>a.tmps.getD i undef) hs.env (R:=[]) (ρ:=λ_=>undef) hR0 (by intro i src hi;simp[Ren.get]at hi);rw[<- hG]at hR;obtain⟨ρ,c1,c2,c3⟩:=kP hs.inv hR b1;obtain⟨k,hk⟩:∃ k,k=(nh sh.objs (jj sh.env) x):=⟨_,rfl⟩;obtain⟨e1,e2⟩:=uv h;have e3:=BP e1;rw[<- hk]at e1 e2 e3;rw[<- hG]at e1 e2 e3
  -- what is not kept is given up
  obtain⟨others,hoth⟩:∃ others,others=(m.G.map (·.1)).filter λi=>!(R.ids.any λj=>A3 i j):=⟨_,rfl⟩;obtain⟨m1,d1,d2,d3,d4,d5,d6⟩:=dp others hs.inv;have hother:∀ i,iY m i->i∉R.ids->i∈others:=by
   rintro i ⟨o,ho,_⟩ hi;rw[hoth,Tb];refine⟨Heap.key_of_get ho,?_⟩;simp only[L7];cases hb:(R.ids.any λj=>A3 i j)with
   |false=>rfl
   |true=>exact absurd (gK.1 hb) hi
  have hnot:∀ i∈R.ids,i∉others:=by intro i hi hi';rw[hoth,Tb]at hi';have:=hi'.2;rw[gK.2 hi]at this;simp at this
  let m':Mem:=⟨m.w,m1.F,λi=>match R.get i with|some (.own j)=>m.ι j|_=>ρ i,k.1⟩
  have hL:Laid m m' R ρ sh.objs:=by
   refine⟨rfl,λb hb=>d6 b (.inl hb),λid b hid hb=>d6 b (.inr ⟨id,hother id ?_ hid,hb⟩),c1,λi=>rfl,λi sp hm=>?_⟩
   ·obtain⟨o,h1,h2,_⟩:=hb;exact⟨o,h1,h2⟩
   exact AN (r:=λi sp o=>xF m.G R i sp o) e2 wf3 hm
  -- where an object's block comes from
  have hsrc:∀ i o,k.1.get i=some o->isObj o=true->∀ b,HB (m'.ι i) b->∃ src j o',R.get i=some src/\j∈src.ids/\m.G.get j=some o'/\isObj o'=true/\HB (m.ι j) b:=by
   intro i o ho hob b hb;obtain⟨sp,hm,hobj⟩:=Av (r:=λi sp o=>xF m.G R i sp o) e2 ho;cases sp with
   |box l=>
    obtain⟨j,c,as,rfl,h1,h2,_⟩:=hobj;have e:m'.ι i=m.ι j:=by show(match R.get i with|some (.own j)=>m.ι j|_=>ρ i)=_;rw[h1]
    exact⟨_,j,_,h1,by simp[Src.ids],h2,rfl,by rw[<- e];exact hb⟩
   |map κ v=>
    obtain⟨y,rfl,h1⟩:=hobj;cases hsr:R.get i with
    |none=>rw[hsr]at h1;simp[fT]at h1
    |some src=>
     rw[hsr]at h1;cases src with
     |own j=>
      have e:m'.ι i=m.ι j:=by show(match R.get i with|some (.own j)=>m.ι j|_=>ρ i)=_;rw[hsr]
      simp only[fT]at h1;split at h1
      ·rename_i hg;exact⟨_,j,_,rfl,by simp[Src.ids],hg,rfl,by rw[<- e];exact hb⟩
      simp at h1
     |_=>simp[fT]at h1
   |deep τ=>
    obtain⟨y,rfl,h1⟩:=hobj;cases hsr:R.get i with
    |none=>rw[hsr]at h1;simp[cS]at h1
    |some src=>
     rw[hsr]at h1;have hreal:=c1 i src hsr;cases src with
     |nild=>
      have e:m'.ι i=ρ i:=by show(match R.get i with|some (.own j)=>m.ι j|_=>ρ i)=_;rw[hsr]
      obtain⟨ad,hr⟩:=hreal;rw[e,hr]at hb;obtain⟨u,hu,hb⟩:=hb;simp at hu;subst hu;cases ad<;>simp[HB1]at hb
     |own j=>
      have e:m'.ι i=m.ι j:=by show(match R.get i with|some (.own j)=>m.ι j|_=>ρ i)=_;rw[hsr]
      simp only[cS]at h1;split at h1
      ·rename_i hg;exact⟨_,j,_,rfl,by simp[Src.ids],hg,rfl,by rw[<- e];exact hb⟩
      simp at h1
     |nil=>simp[cS]at h1
     |view _ _ _=>simp[cS]at h1
   |arr τ=>
    obtain⟨y,rfl,h1⟩:=hobj;cases hsr:R.get i with
    |none=>rw[hsr]at h1;simp[dt]at h1
    |some src=>
     rw[hsr]at h1;have hreal:=c1 i src hsr;cases src with
     |nil=>
      have e:m'.ι i=ρ i:=by show(match R.get i with|some (.own j)=>m.ι j|_=>ρ i)=_;rw[hsr]
      obtain⟨ad,hr⟩:=hreal;rw[e,hr]at hb;cases ad<;>simp[HB,HB1]at hb
     |own j=>
      have e:m'.ι i=m.ι j:=by show(match R.get i with|some (.own j)=>m.ι j|_=>ρ i)=_;rw[hsr]
      simp only[dt]at h1;split at h1
      ·rename_i σ l hg;exact⟨_,j,_,rfl,by simp[Src.ids],hg,rfl,by rw[<- e];exact hb⟩
      simp at h1
     |view j o n=>
      have e:m'.ι i=ρ i:=by show(match R.get i with|some (.own j)=>m.ι j|_=>ρ i)=_;rw[hsr]
      have hbase:fJ ⟨[],m.G⟩ τ (.av (.view j o n))=some (y,[j]):=by
       simp only[dt]at h1;split at h1
       ·rename_i σ l hg;obtain⟨he,hx⟩:=aH h1;cases he;subst hx;simp[fJ,hg,bM]
       simp at h1
      obtain⟨_,h3⟩:=kR (s:=⟨[],m.G⟩) hs.inv rfl hbase (show RelSV m (ρ i) (.av (.view j o n))from hreal);rcases h3 with⟨h3,_⟩|⟨id,o',h3,h4,h5,h6⟩
      ·cases h3
      simp only[SK,and_true]at h3;subst h3;rw[e]at hb;refine⟨_,j,o',rfl,by simp[Src.ids],h4,h5,?_⟩;rcases h6 with h6|⟨ad,n',h6⟩
      ·exact h6 b hb
      rw[h6]at hb;cases ad<;>simp[HB,HB1]at hb
     |nild=>simp[dt]at h1
  have hF:∀ b,m.F b->m'.F b/\m'.w.heap[b]?=m.w.heap[b]?:=λb hb=>⟨hL.F b hb,rfl⟩;have hinv:Inv C w0 M m':=by
   refine⟨hs.inv.kept,?_,?_,?_,?_,λg τ x hg=>(hs.inv.glob g τ x hg).mono hF,d4.bnd,⟨λi v hv=>?_,λm0 h0=>by rw[hp.2]at h0;cases h0⟩⟩
   ·intro i o ho;obtain⟨sp,hm,hobj⟩:=Av (r:=λi sp o=>xF m.G R i sp o) e2 ho;cases sp with
    |box l=>
     obtain⟨j,c,as,rfl,h1,h2,h3⟩:=hobj;obtain⟨bl,cc,el,q1,q2,q3,q4⟩:=hs.inv.objs j _ h2;obtain⟨j',b',r1,r2,r3⟩:=c3 _ hm l rfl;simp only at r1;rw[h1]at r1;simp only[bd,Src.own.injEq]at r1;subst r1;have hwl:(l.all λy=>y.wf sh.objs)=true:=by rw[A9]at wf2;exact wf2 _ hm
     have e:m'.ι i=m.ι j:=by show(match R.get i with|some (.own j)=>m.ι j|_=>ρ i)=_;rw[h1]
     refine⟨bl,cc,el,by rw[e,q1],q2,q3,oH hs.inv hL h3 q4 (r3 bl cc el q1 q2) hwl (λz hz=>hfz' z ?_)⟩;rw[A5];rw[<- hG];exact .inr (C5 hm h1 h2 z hz)
    |map κ v=>
     obtain⟨y,rfl,h1⟩:=hobj;cases hsr:R.get i with
     |none=>rw[hsr]at h1;simp[fT]at h1
     |some src=>
      rw[hsr]at h1;cases src with
      |own j=>
       have e:m'.ι i=m.ι j:=by show(match R.get i with|some (.own j)=>m.ι j|_=>ρ i)=_;rw[hsr]
       simp only[fT]at h1;split at h1
       ·rename_i k' v' l hg;obtain⟨e1,e2,hx⟩:=ff h1;subst e1;subst e2
        simp only at hx;subst hx;rcases hs.inv.objs j _ hg with⟨d0,b,es,clock,d1,d2,d3⟩|⟨d0,b,x,pos,d1,d2,d3⟩
        ·exact .inl ⟨d0,b,es,clock,by rw[e,d1],d2,d3.1.mono hF,d3.2⟩
        exact .inr ⟨d0,b,x,pos,by rw[e,d1],d2,d3⟩
       simp at h1
      |_=>simp[fT]at h1
    |deep τ=>
     obtain⟨y,rfl,h1⟩:=hobj;cases hsr:R.get i with
     |none=>rw[hsr]at h1;simp[cS]at h1
     |some src=>
      rw[hsr]at h1;have hreal:=c1 i src hsr;cases src with
      |nild=>
       have e:m'.ι i=ρ i:=by show(match R.get i with|some (.own j)=>m.ι j|_=>ρ i)=_;rw[hsr]
       obtain⟨ad,hr⟩:=hreal;simp only[cS,bd]at h1;subst h1;exact⟨.slice ad 0 0,[],by rw[e,hr],rfl,⟨ad,0,rfl,by simp,by unfold maxLen;omega,λh=>absurd rfl h⟩,by intro k hk;simp at hk,(by intro k v hk;cases hk),RI _ _⟩
      |own j=>
       have e:m'.ι i=m.ι j:=by show(match R.get i with|some (.own j)=>m.ι j|_=>ρ i)=_;rw[hsr]
       simp only[cS]at h1;split at h1
       ·rename_i ver σ l hg;obtain⟨he,hx⟩:=aH h1;simp only[Ty.slice.injEq]at he;subst he;subst hx;obtain⟨u,hs',d1,d2⟩:=cK hs.inv hg;exact⟨u,hs',by rw[e,d1],d2.mono hF (λ_ _ _ _=>rfl)⟩
       simp at h1
      |nil=>simp[cS]at h1
      |view _ _ _=>simp[cS]at h1
    |arr τ=>
     obtain⟨y,rfl,h1⟩:=hobj;cases hsr:R.get i with
     |none=>rw[hsr]at h1;simp[dt]at h1
     |some src=>
      rw[hsr]at h1;have hreal:=c1 i src hsr;cases src with
      |nil=>
       have e:m'.ι i=ρ i:=by show(match R.get i with|some (.own j)=>m.ι j|_=>ρ i)=_;rw[hsr]
       obtain⟨ad,hr⟩:=hreal;simp only[dt,bd]at h1;subst h1;exact⟨ad,0,by rw[e,hr];rfl,by simp,by unfold maxLen;omega,λh=>absurd rfl h⟩
      |own j=>
       have e:m'.ι i=m.ι j:=by show(match R.get i with|some (.own j)=>m.ι j|_=>ρ i)=_;rw[hsr]
       simp only[dt]at h1;split at h1
       ·rename_i σ l hg;obtain⟨he,hx⟩:=aH h1;cases he;subst hx;obtain⟨ad,cap,q1,q2,q3,q4⟩:=hs.inv.objs j _ hg;refine⟨ad,cap,by rw[e,q1],q2,q3,λhc=>?_⟩;obtain⟨b,off,c,el,fz,p1,p2,p3,p4,p5⟩:=q4 hc;exact⟨b,off,c,el,fz,p1,p2,p3,p4,λz hz=>(p5 z hz).mono hF⟩
       simp at h1
      |view j o n=>
       have e:m'.ι i=ρ i:=by show(match R.get i with|some (.own j)=>m.ι j|_=>ρ i)=_;rw[hsr]
       have hbase:fJ ⟨[],m.G⟩ τ (.av (.view j o n))=some (y,[j]):=by
        simp only[dt]at h1;split at h1
        ·rename_i σ l hg;obtain⟨he,hx⟩:=aH h1;cases he;subst hx;simp[fJ,hg,bM]
        simp at h1
       obtain⟨⟨ad,cap,q1,q2,q3,q4⟩,_⟩:=kR (s:=⟨[],m.G⟩) hs.inv rfl hbase (show RelSV m (ρ i) (.av (.view j o n))from hreal);refine⟨ad,cap,by rw[e,q1],q2,q3,λhc=>?_⟩;obtain⟨b,off,c,el,fz,p1,p2,p3,p4,p5⟩:=q4 hc;exact⟨b,off,c,el,fz,p1,p2,p3,p4,λz hz=>(p5 z hz).mono hF⟩
      |nild=>simp[dt]at h1
   ·intro i o b ho hob hb;obtain⟨src,j,o',h1,h2,h3,h4,h5⟩:=hsrc i o ho hob b hb;obtain⟨k1,k2,k3⟩:=hs.inv.own j o' b h3 h4 h5;have hj:=hnot j (mO h1 h2);have:=d4.own j o' b (by rw[d3,bL others _ j hj];exact h3) h4 (by rw[d2];exact h5);exact⟨k1,this.2.1,k3⟩
   ·intro i i' p q b hp hop hq hoq h1 h2;obtain⟨src,j,o1,r1,r2,r3,r4,r5⟩:=hsrc i p hp hop b h1;obtain⟨src',j',o2,s1,s2,s3,s4,s5⟩:=hsrc i' q hq hoq b h2;have:=hs.inv.inj j j' o1 o2 b r3 r4 s3 s4 r5 s5;subst this;exact Kf hnd r1 s1 r2 s2
   ·intro b hb;have:=d4.fro b hb;rw[d1]at this;exact this
   have hip:=hp.1 i v hv;rw[A9]at wf0;have hobj:∃ o,k.1.get i=some o/\isDeep o=false/\∀ j o2,R.get i=some (.own j)->m.G.get j=some o2->isObj o2=true:=by
    have h0:=wf0 i hip;simp only[RV]at h0;rcases h0 with h0|h0
    ·obtain⟨τ,y,k1,h4⟩:=hL.arr h0;refine⟨_,k1,rfl,λj o2 hj h1=>?_⟩;rw[hj]at h4;simp only[dt]at h4;rw[h1]at h4;cases o2<;>first|rfl|simp at h4
    unfold fv at h0;rw[Sc]at h0;obtain⟨⟨i',sp⟩,hm,hq⟩:=h0;simp only[np]at hq;have:=xy hq.1;subst this;cases sp with
    |box l=>obtain⟨o,k1,h4⟩:=AN (r:=λi sp o=>xF m.G R i sp o) e2 wf3 hm;obtain⟨j,c,as,rfl,h5,h6,_⟩:=h4;refine⟨_,k1,rfl,λj' o2 hj h1=>?_⟩;rw[h5]at hj;simp only[bd,Src.own.injEq]at hj;subst hj;rw[h6]at h1;cases h1;rfl
    |arr _=>simp[SpO.kind]at hq
    |deep _=>simp[SpO.kind]at hq
    |map _ _=>simp[SpO.kind]at hq
   obtain⟨o9,k1,k2,k3⟩:=hobj;refine⟨o9,k1,λ_=>?_⟩;unfold pinned at hpin;rw[A9]at hpin;have hq:=hpin i hip;split at hq
   ·rename_i j hj;have:=xy hq;subst this;have e:m'.ι i=m.ι i:=by show(match R.get i with|some (.own j)=>m.ι j|_=>ρ i)=_;rw[hj]
    rw[e];obtain⟨o,h1,h2⟩:=hs.inv.pin.1 i v hv;exact⟨(h2 (k3 i o hj h1)).1,k2⟩
   simp at hq
  refine⟨m',rfl,by show k.1=_;rw[hk];rfl,hinv,hs.defers,hs.size,λt=>?_⟩;have henv:(sh.inj x).env=tN sh.env k.2:=by rw[hk];rfl
  rw[henv];rcases Kw (r:=λi sp v=>zb m.G sp (s.env.get i) v) e3 t with h0|⟨sp,hm,hl⟩
  ·rw[h0];trivial
  have hwl:sp.wf sh.objs=true:=by rw[A9]at wf1;exact wf1 _ hm
  refine C3 hs.inv hL hl (hs.env t) ((b3 _ hm).ext c2) hwl (λz hz=>hfz' z ?_) ?_
  ·rw[A5];rw[<- hG];exact .inl (I3 hm z hz)
  rw[A9]at hlk;rw[hG];exact hlk _ hm
end
end Go.Vm

/-
 The least value of a map, by a loop over the map in whatever order.
-/
namespace Go.Vm
section
variable {P:Program}{N:Nat}
theorem EM{a:Act}{d:Nat}{v:Value}(h:a.tmps.getD d undef=v)(hne:v≠undef):a.tmps[d]?=some v:=by
 rw[RE]at h;cases hg:a.tmps[d]? with
 |none=>rw[hg]at h;exact absurd h.symm hne
 |some u=>rw[hg]at h;simp at h;rw[h]
theorem du{a:Act}{d:Nat}{v:Value}(h:d<a.tmps.size):(a.put (some d) v).tmps.getD d undef=v:=by simp[Act.put,h]
theorem af{a:Act}{d t:Nat}{v:Value}(h:d≠t):(a.put (some d) v).tmps.getD t undef=a.tmps.getD t undef:=by show(a.tmps.setIfInBounds d v).getD t undef=_;rw[RE,RE,SX h]
theorem cL{a:Act}{d:Nat}{v:Value}:(a.put (some d) v).tmps.size=a.tmps.size:=by simp[Act.put]
structure MJ (N:Nat)(a0 a:Act):Prop where
 defers:a.defers=[]
 size:N<=a.tmps.size
 old:∀ t,t∉vk->a.tmps.getD t undef=a0.tmps.getD t undef
theorem MJ.put{a0 a:Act}(h:MJ N a0 a){d:Nat}(hd:d∈vk)(v:Value):MJ N a0 (a.put (some d) v):=
 ⟨h.defers,by rw[cL];exact h.size,λt ht=>(af (a:=a) (v:=v) (d:=d) (t:=t) (λe=>ht (by rw[<- e];exact hd))).trans (h.old t ht)⟩
theorem cH {ops:Array Oper}{Q:Exit->Act->World->Prop}{i:Nat}{o:Oper}{v:Value}{a:Act}{w w':World}{rest:List Nat}(d:Nat)(ho:ops[i]?=some o)(hd:o.dst=some d)(hw:Region.wanted o (yielded ops a.tmps)=true)
  (h:(execOp a.eval o).run P w=.ok (.value v) w') (K:wpOps P ops Q rest (a.put (some d) v) w'):wpOps P ops Q (i::rest) a w:=by
 rw[<- hd]at K;rw[wpOps_cons];unfold wpOp;rw[ho];simp only;rw[if_pos hw];exact .inl (Does.value (R:=λu w2=>u=v/\w2=w') h ⟨rfl,rfl⟩ _ _ (λu w2 ⟨e1,e2⟩=>by subst e1 e2;exact K))
theorem tp {ops:Array Oper}{Q:Exit->Act->World->Prop}{i:Nat}{o:Oper}{a:Act}{w:World}{rest:List Nat}(d:Nat)(ho:ops[i]?=some o)(hd:o.dst=some d)(hw:Region.wanted o (yielded ops a.tmps)=false)
  (K:wpOps P ops Q rest (a.put (some d) undef) w):wpOps P ops Q (i::rest) a w:=by
 rw[<- hd]at K;rw[wpOps_cons];unfold wpOp;rw[ho];simp only;rw[if_neg (by rw[hw];exact Bool.false_ne_true)];exact K
structure MW (W:World)(I B clock:Nat)(sn:Array Nat)(w:World):Prop where
 os:w.os=W.os
 tape:w.tape=W.tape
 output:w.output=W.output
 size:W.heap.size<=w.heap.size
 old:∀ b,b<W.heap.size->w.heap[b]?=W.heap[b]?
 it:∃ c0,clock<=c0/\w.heap[I]?=some (.mapIter (some B) clock sn c0)
def Found(es:List MapEntry)(sn:Array Nat)(v:Int):Bool->Prop
 |false=>∀ x∈es,sn.contains x.born=false
 |true=>(∃ x∈es,x.val=.int .i64 v)/\∀ x∈es,sn.contains x.born=true->∃ n,x.val=.int .i64 n/\v<=n
section
variable {W:World}{I B clock:Nat}{es:Array MapEntry}{a0:Act}
theorem gp(a:Act)(t:Nat):a.eval (.tmp t)=a.tmps.getD t undef:=rfl
theorem dA{a0 a:Act}(h:MJ N a0 a){d:Nat}(hd:d∈vk)(h64:64<=N):d<a.tmps.size:=by
 have:=h.size;have:d<64:=by revert d;decide
 omega
theorem MW.next {w:World}{sn:Array Nat}(h:MW W I B clock sn w)(hI:W.heap.size<=I)(hB:W.heap[B]?=some (.map es clock))(hst:Stp es.toList clock)(ty:TypeId) :
  ((∀ x∈es.toList,sn.contains x.born=true)/\(Instr.next (.pointer (some ⟨I,0,none⟩)) false ty).run P w=.ok (.tuple #[.bool false]) w) \/
  ∃ e∈es.toList,sn.contains e.born=false/\∃ w',(Instr.next (.pointer (some ⟨I,0,none⟩)) false ty).run P w=.ok (.tuple #[.bool true,e.key,e.val]) w'/\MW W I B clock (sn.push e.born) w' /\
   (Instr.entry (.pointer (some ⟨I,0,none⟩))).run P w'=.ok (.tuple #[e.key,e.val]) w'/\(leftOf es (sn.push e.born)).size<(leftOf es sn).size:=by
 obtain⟨c0,hc,hi⟩:=h.it;have hBl:B<W.heap.size:=(L5.1 hB).1;have hb:=(h.old B hBl).trans hB;rcases run_next_at (P:=P) w ty I B clock c0 sn es clock hi hb hst.2 hc with⟨h0,hrun⟩|⟨e,he,w1,hal,hrun⟩
 ·exact .inl ⟨all_seen es sn h0,hrun⟩
 obtain⟨hem,hes⟩:=mem_left he;have hI':I<w.heap.size:=(L5.1 hi).1;have hh:w1.heap=w.heap:=by rcases hal with rfl|rfl<;>rfl
 have e1:w1.os=w.os/\w1.tape=w.tape/\w1.output=w.output:=by rcases hal with rfl|rfl<;>exact⟨rfl,rfl,rfl⟩
 have hset:∀ o:Go.Obj,(Go.ChangeMaps.setBlock w1 I o).heap=w.heap.setIfInBounds I o:=λo=>by simp[Go.ChangeMaps.setBlock,hh]
 have hnd:(es.toList.map (·.born)).Nodup:=hst.1.imp (λh=>UF h);have hne:B≠I:=by omega
 refine .inr ⟨e,hem,hes,_,hrun,⟨e1.1.trans h.os,e1.2.1.trans h.tape,e1.2.2.trans h.output,?_,?_,clock,B2 _,?_⟩,?_,left_shrinks es sn e he⟩
 ·rw[hset];simpa using h.size
 ·intro b hbl;rw[hset,SX (by omega)];exact h.old b hbl
 ·rw[hset];simp[hI']
 refine run_entry_at _ I B clock sn es clock e ?_ ?_ hem hnd
 ·rw[hset];simp[hI']
 rw[hset,SX hne.symm];exact hb
theorem Found.step {sn:Array Nat}{v:Int}{f:Bool}{l:List MapEntry}(hnd:(l.map (·.born)).Nodup)(h:Found l sn v f){e:MapEntry}(he:e∈l){n:Int}(hn:e.val=.int .i64 n) :
  Found l (sn.push e.born) (if f=false\/n<v then n else v) true:=by
 have one:∀ x∈l,(sn.push e.born).contains x.born=true->sn.contains x.born=true\/x=e:=by
  intro x hx hc;rw[contains_push]at hc;rcases Bool.or_eq_true_iff.1 hc with hc|hc
  ·exact .inl hc
  exact .inr (born_inj hnd hx he (beq_iff_eq.1 hc))
 cases f with
 |false=>
  simp only[true_or,if_true];refine⟨⟨e,he,hn⟩,λx hx hc=>?_⟩;rcases one x hx hc with hc|rfl
  ·rw[h x hx]at hc;cases hc
  exact⟨n,hn,TF _⟩
 |true=>
  obtain⟨h1,h2⟩:=h;simp only[Bool.true_eq_false,false_or];split
  ·rename_i hlt;refine⟨⟨e,he,hn⟩,λx hx hc=>?_⟩;rcases one x hx hc with hc|rfl
   ·obtain⟨k,k1,k2⟩:=h2 x hx hc;exact⟨k,k1,by omega⟩
   exact⟨n,hn,TF _⟩
  rename_i hlt;refine⟨h1,λx hx hc=>?_⟩;rcases one x hx hc with hc|rfl
  ·exact h2 x hx hc
  exact⟨n,hn,by omega⟩
theorem bz{o:Oper}{f:Nat->Option Bool}(h:o.guard=none):Region.wanted o f=true:=by simp[Region.wanted,h]
section
variable {a:Act}{w:World}{o:Oper}
theorem oF{x:Operand}{v:Value}(ho:o.op=.move x)(h:a.eval x=v):(execOp a.eval o).run P w=.ok (.value v) w:=by simp[execOp,ho,h]
theorem qR{x:Operand}{v:Value}(ho:o.op=.assign x)(h:a.eval x=v):(execOp a.eval o).run P w=.ok (.value v) w:=by simp[execOp,ho,h]
theorem Iq{c x y:Operand}{b:Bool}{v:Value}(ho:o.op=.pick c x y)(h:a.eval c=.bool b)(h2:(if b then a.eval x else a.eval y)=v):(execOp a.eval o).run P w=.ok (.value v) w:=by subst h2;cases b<;>simp[execOp,ho,h,asBool]
theorem OE{t:TypeId}{x:Operand}{b:Bool}(ho:o.op=.unOp .not t x)(h:a.eval x=.bool b):(execOp a.eval o).run P w=.ok (.value (.bool (!b))) w:=by simp[execOp,ho,h,Op.unary]
theorem nY{x:Operand}{i:Nat}{vs:Array Value}{v:Value}(ho:o.op=.extract x i)(h:a.eval x=.tuple vs)(hv:vs[i]?=some v):(execOp a.eval o).run P w=.ok (.value v) w:=by simp[execOp,ho,h,Instr.extract,hv]
theorem JZ{x:Operand}{u v:Value}(ho:o.op=.entry x)(h:a.eval x=u)(hr:(Instr.entry u).run P w=.ok v w):(execOp a.eval o).run P w=.ok (.value v) w:=by simp[execOp,ho,h,hr]
theorem FL{x:Operand}{u v:Value}{w':World}{s:Bool}(ho:o.op=.next x s)(h:a.eval x=u)(hr:(Instr.next u s o.type).run P w=.ok v w'):(execOp a.eval o).run P w=.ok (.value v) w':=by simp[execOp,ho,h,hr]
theorem JK{t:TypeId}{x:Operand}{u v:Value}{w':World}(ho:o.op=.range t x)(h:a.eval x=u)(hr:(Instr.range t u).run P w=.ok v w'):(execOp a.eval o).run P w=.ok (.value v) w':=by simp[execOp,ho,h,hr]
theorem Or{t yt:TypeId}{x y:Operand}{m n:Int}(ho:o.op=.binOp .lss t x y yt)(h:a.eval x=.int .i64 m)(h2:a.eval y=.int .i64 n):(execOp a.eval o).run P w=.ok (.value (.bool (decide (m<n)))) w:=by simp[execOp,ho,h,h2,eqGuard,binOp,Op.intCmp]
end
theorem Mz{ops:Array Oper}{l:List Oper}(h:ops.toList=l):ops=l.toArray:=by apply Array.ext';simpa using h
structure MRd (P:Program)(N I:Nat)(es:Array MapEntry)(a0:Act)(sn:Array Nat)(v:Int)(f:Bool)(a:Act):Prop where
 mj:MJ N a0 a
 it:a.tmps.getD 51 undef=.pointer (some ⟨I,0,none⟩)
 hv:a.tmps.getD 13 undef=.int .i64 v
 hf:a.tmps.getD 14 undef=.bool f
 fd:Found es.toList sn v f
theorem iI{id:Nat}{ops:Array Oper}{l:List Oper}(h:ops.toList=l){Q:Exit->Act->World->Prop}{a:Act}{w:World}(hw:wpOps P l.toArray Q (A2 l.length) a w):(Code.region id ops false).wp P Q a w:=by rw[Mz h];refine wp_region ?_;simpa using hw
theorem l14{C:Ctx}(hM:ny P C){l:List Oper}(h:c14 C l=true):∃ t p1 q1 r1 p2 q2 r2 k e,l=[⟨some 50,.move (.tmp 11),p1,q1,r1,none⟩,⟨some 51,.range t (.tmp 50),p2,q2,r2,none⟩]/\P.underlying t=some (.map k e):=by
 unfold c14 at h;split at h
 ·unfold DI at h;split at h
  ·rename_i hp;obtain⟨kt,vt,hT⟩:=hM _ _ _ hp;exact⟨_,_,_,_,_,_,_,_,_,rfl,hT.und⟩
  cases h
 cases h
theorem l15{l:List Oper}(h:c15 l=true):∃ p1 q1 r1 p2 q2 r2,l=[⟨some 52,.next (.tmp 51) false,p1,q1,r1,none⟩,⟨some 53,.extract (.tmp 52) 0,p2,q2,r2,none⟩]:=by
 unfold c15 at h;split at h
 ·exact⟨_,_,_,_,_,_,rfl⟩
 cases h
theorem l16{l:List Oper}(h:c16 l=true):∃ p1 q1 r1 p2 q2 r2 p3 q3 r3,l=[⟨some 54,.entry (.tmp 51),p1,q1,r1,none⟩,⟨some 55,.extract (.tmp 54) 1,p2,q2,r2,none⟩,⟨some 16,.assign (.tmp 55),p3,q3,r3,none⟩]:=by
 unfold c16 at h;split at h
 ·exact⟨_,_,_,_,_,_,_,_,_,rfl⟩
 cases h
theorem l17 {l:List Oper}(h:c17 l=true):∃ t u yt p1 q1 r1 p2 q2 r2 p3 q3 r3 p4 q4 r4 p5 q5 r5 p6 q6 r6 p7 q7 r7,l=[⟨some 56,.move (.tmp 14),p1,q1,r1,none⟩,⟨some 57,.unOp .not u (.tmp 56),p2,q2,r2,none⟩,⟨some 58,.move (.tmp 57),p3,q3,r3,none⟩,
   ⟨some 59,.move (.tmp 16),p4,q4,r4,some (2,false)⟩,⟨some 60,.move (.tmp 13),p5,q5,r5,some (2,false)⟩,⟨some 61,.binOp .lss t (.tmp 59) (.tmp 60) yt,p6,q6,r6,some (2,false)⟩,
   ⟨some 62,.pick (.tmp 58) (.const (.bool true)) (.tmp 61),p7,q7,r7,none⟩]:=by
 unfold c17 at h;split at h
 ·exact⟨_,_,_,_,_,_,_,_,_,_,_,_,_,_,_,_,_,_,_,_,_,_,_,_,rfl⟩
 cases h
theorem l18{l:List Oper}(h:c18 l=true):∃ p1 q1 r1 p2 q2 r2 p3 q3 r3,l=[⟨some 63,.move (.tmp 16),p1,q1,r1,none⟩,⟨some 13,.assign (.tmp 63),p2,q2,r2,none⟩,⟨some 14,.assign (.const (.bool true)),p3,q3,r3,none⟩]:=by
 unfold c18 at h;split at h
 ·exact⟨_,_,_,_,_,_,_,_,_,rfl⟩
 cases h
theorem I4 {o16 o17 o18:Array Oper}{r16 r17 r18 k3:Nat}(h16:c16 o16.toList=true)(h17:c17 o17.toList=true)(h18:c18 o18.toList=true)(h64:64<=N){Q:Exit->Act->World->Prop}{a:Act}{w:World}{sn:Array Nat}{v:Int}{f:Bool}
  (hnd:(es.toList.map (·.born)).Nodup) {e:MapEntry} (he:e∈es.toList) {n:Int} (hn:e.val=.int .i64 n) (hr:MRd P N I es a0 sn v f a) (hent:(Instr.entry (.pointer (some ⟨I,0,none⟩))).run P w=.ok (.tuple #[e.key,e.val]) w)
  (hQ:∀ a' v',MRd P N I es a0 (sn.push e.born) v' true a'->Q .normal a' w) :
  (Code.block k3 (.seq (.region r16 o16 false) (.seq (.region r17 o17 false) (.cond (.tmp 62) (.region r18 o18 false) .skip)))).wp P Q a w:=by
 obtain⟨p1,q1,s1,p2,q2,s2,p3,q3,s3,e16⟩:=l16 h16;obtain⟨t,u,yt,g1,g2,g3,g4,g5,g6,g7,g8,g9,g10,g11,g12,g13,g14,g15,g16,g17,g18,g19,g20,g21,e17⟩:=l17 h17;obtain⟨y1,y2,y3,y4,y5,y6,y7,y8,y9,e18⟩:=l18 h18;have m:=hr.mj;have sz:∀ d,d∈vk->d<a.tmps.size:=λd hd=>dA m hd h64;have z52:=sz 52 (by decide);have z53:=sz 53 (by decide);have z54:=sz 54 (by decide);have z55:=sz 55 (by decide);have z16:=sz 16 (by decide)
 have z56:=sz 56 (by decide);have z57:=sz 57 (by decide);have z58:=sz 58 (by decide);have z59:=sz 59 (by decide);have z60:=sz 60 (by decide);have z61:=sz 61 (by decide);have z62:=sz 62 (by decide);have z63:=sz 63 (by decide)
 have z13:=sz 13 (by decide);have z14:=sz 14 (by decide)
 refine wp_block (wp_seq (iI e16 ?_));change wpOps P _ _ [0,1,2] a w;refine cH (w':=w) 54 rfl rfl (bz rfl) (v:=.tuple #[e.key,e.val]) (JZ rfl hr.it hent) ?_;refine cH (w':=w) 55 rfl rfl (bz rfl) (v:=e.val) (nY rfl (du z54) rfl) ?_;refine cH (w':=w) 16 rfl rfl (bz rfl) (v:=e.val) (qR rfl (du (by rw[cL];exact z55))) ?_;show Code.wp P _ _ (((a.put (some 54) (.tuple #[e.key,e.val])).put (some 55) e.val).put (some 16) e.val) w;generalize ha1:((a.put (some 54) (.tuple #[e.key,e.val])).put (some 55) e.val).put (some 16) e.val=a1;have m1:MJ N a0 a1:=by rw[<- ha1];exact((m.put (by decide) _).put (by decide) _).put (by decide) _
 have x1:a1.tmps.getD 16 undef=.int .i64 n:=by rw[<- ha1,du (by simp only[cL];exact z16),hn]
 have i1:a1.tmps.getD 51 undef=.pointer (some ⟨I,0,none⟩):=by rw[<- ha1,af (by decide),af (by decide),af (by decide)];exact hr.it
 have v1:a1.tmps.getD 13 undef=.int .i64 v:=by rw[<- ha1,af (by decide),af (by decide),af (by decide)];exact hr.hv
 have f1:a1.tmps.getD 14 undef=.bool f:=by rw[<- ha1,af (by decide),af (by decide),af (by decide)];exact hr.hf
 show Code.wp P _ _ a1 w;have sz1:∀ d,d∈vk->d<a1.tmps.size:=λd hd=>dA m1 hd h64;refine wp_seq (iI e17 ?_);change wpOps P _ _ [0,1,2,3,4,5,6] a1 w;refine cH (w':=w) 56 rfl rfl (bz rfl) (v:=.bool f) (oF rfl f1) ?_;refine cH (w':=w) 57 rfl rfl (bz rfl) (v:=.bool (!f)) (OE rfl (du (sz1 56 (by decide)))) ?_;refine cH (w':=w) 58 rfl rfl (bz rfl) (v:=.bool (!f)) (oF rfl (du (by rw[cL];exact sz1 57 (by decide)))) ?_;generalize ha2:((a1.put (some 56) (.bool f)).put (some 57) (.bool (!f))).put (some 58) (.bool (!f))=a2;have m2:MJ N a0 a2:=by rw[<- ha2];exact((m1.put (by decide) _).put (by decide) _).put (by decide) _
 have sz2:∀ d,d∈vk->d<a2.tmps.size:=λd hd=>dA m2 hd h64;have x2:a2.tmps.getD 16 undef=.int .i64 n:=by rw[<- ha2,af (by decide),af (by decide),af (by decide)];exact x1
 have i2:a2.tmps.getD 51 undef=.pointer (some ⟨I,0,none⟩):=by rw[<- ha2,af (by decide),af (by decide),af (by decide)];exact i1
 have v2:a2.tmps.getD 13 undef=.int .i64 v:=by rw[<- ha2,af (by decide),af (by decide),af (by decide)];exact v1
 have f2:a2.tmps.getD 14 undef=.bool f:=by rw[<- ha2,af (by decide),af (by decide),af (by decide)];exact f1
 have b2:a2.tmps.getD 58 undef=.bool (!f):=by rw[<- ha2,du (by simp only[cL];exact sz1 58 (by decide))]
 change wpOps P _ _ [3,4,5,6] a2 w
 -- the comparison
 have fin:∀(c:Bool) (a3:Act),MJ N a0 a3->a3.tmps.getD 16 undef=.int .i64 n->a3.tmps.getD 51 undef=.pointer (some ⟨I,0,none⟩)->a3.tmps.getD 13 undef=.int .i64 v->a3.tmps.getD 14 undef=.bool f->a3.tmps.getD 62 undef=.bool c ->
   c=decide (f=false\/n<v)->(Code.cond (.tmp 62) (.region r18 o18 false) .skip).wp P (Exit.inBlock k3 Q) a3 w:=by
  intro c a3 m3 x3 i3 v3 f3 c3 hc;have hfd:=hr.fd.step hnd he hn;refine wp_cond (t:=c) c3 ?_;have sz3:∀ d,d∈vk->d<a3.tmps.size:=λd hd=>dA m3 hd h64;cases c with
  |false=>
   have hno:¬(f=false\/n<v):=of_decide_eq_false hc.symm;rw[if_neg hno]at hfd;have ft:f=true:=by cases f with|false=>exact absurd (.inl rfl) hno|true=>rfl
   refine wp_skip ?_;exact hQ a3 v ⟨m3,i3,v3,by rw[f3,ft],hfd⟩
  |true=>
   have hyes:f=false\/n<v:=of_decide_eq_true hc.symm;rw[if_pos hyes]at hfd;refine iI e18 ?_;change wpOps P _ _ [0,1,2] a3 w;refine cH (w':=w) 63 rfl rfl (bz rfl) (v:=.int .i64 n) (oF rfl x3) ?_;refine cH (w':=w) 13 rfl rfl (bz rfl) (v:=.int .i64 n) (qR rfl (du (sz3 63 (by decide)))) ?_;refine cH (w':=w) 14 rfl rfl (bz rfl) (v:=.bool true) (qR rfl rfl) ?_;refine hQ _ n ⟨((m3.put (by decide) _).put (by decide) _).put (by decide) _,?_,?_,?_,hfd⟩
   ·rw[af (by decide),af (by decide),af (by decide)];exact i3
   ·rw[af (by decide),du (by rw[cL];exact sz3 13 (by decide))]
   rw[du (by simp only[cL];exact sz3 14 (by decide))]
 have want:∀{a:Act} {o:Oper} {ops:Array Oper},a.tmps.getD 58 undef=.bool (!f)->(ops[2]?).bind (·.dst)=some 58->o.guard=some (2,false)->Region.wanted o (yielded ops a.tmps)=f:=by intro a o ops h1 h2 h3;have h4:a.tmps[58]?=some (.bool (!f)):=EM h1 (by simp[undef]);unfold Region.wanted yielded;simp[h2,h3,h4]
 cases f with
 |false=>
  refine tp 59 rfl rfl (want b2 rfl rfl) ?_;refine tp 60 rfl rfl (want (by rw[af (by decide)];exact b2) rfl rfl) ?_;refine tp 61 rfl rfl (want (by rw[af (by decide),af (by decide)];exact b2) rfl rfl) ?_;refine cH (w':=w) 62 rfl rfl (bz rfl) (v:=.bool true) (Iq rfl (b:=true) (by rw[gp,af (by decide),af (by decide),af (by decide)];exact b2) rfl) ?_;refine fin true _ ((((m2.put (by decide) _).put (by decide) _).put (by decide) _).put (by decide) _) ?_ ?_ ?_ ?_ ?_ (by simp)
  ·rw[af (by decide),af (by decide),af (by decide),af (by decide)];exact x2
  ·rw[af (by decide),af (by decide),af (by decide),af (by decide)];exact i2
  ·rw[af (by decide),af (by decide),af (by decide),af (by decide)];exact v2
  ·rw[af (by decide),af (by decide),af (by decide),af (by decide)];exact f2
  rw[du (by simp only[cL];exact sz2 62 (by decide))]
 |true=>
  refine cH (w':=w) 59 rfl rfl (want b2 rfl rfl) (v:=.int .i64 n) (oF rfl x2) ?_;refine cH (w':=w) 60 rfl rfl (want (by rw[af (by decide)];exact b2) rfl rfl) (v:=.int .i64 v) (oF rfl (by rw[gp,af (by decide)];exact v2)) ?_;refine cH (w':=w) 61 rfl rfl (want (by rw[af (by decide),af (by decide)];exact b2) rfl rfl) (v:=.bool (decide (n<v))) (Or rfl (by rw[gp,af (by decide),du (sz2 59 (by decide))]) (by rw[gp,du (by rw[cL];exact sz2 60 (by decide))])) ?_;refine cH (w':=w) 62 rfl rfl (bz rfl) (v:=.bool (decide (n<v))) (Iq rfl (b:=false) (by rw[gp,af (by decide),af (by decide),af (by decide)];exact b2) (by simp only[RY,if_false];rw[gp,du (by simp only[cL];exact sz2 61 (by decide))])) ?_;refine fin (decide (n<v)) _ ((((m2.put (by decide) _).put (by decide) _).put (by decide) _).put (by decide) _) ?_ ?_ ?_ ?_ ?_ (by simp)
  ·rw[af (by decide),af (by decide),af (by decide),af (by decide)];exact x2
  ·rw[af (by decide),af (by decide),af (by decide),af (by decide)];exact i2
  ·rw[af (by decide),af (by decide),af (by decide),af (by decide)];exact v2
  ·rw[af (by decide),af (by decide),af (by decide),af (by decide)];exact f2
  rw[du (by simp only[cL];exact sz2 62 (by decide))]
theorem pa{w:World}{F:Nat->Prop}:∀{l:List (Int×Int)} {r:List MapEntry},EntsW w F (.int .i64) (.int .i64) r l->(kb l=none->r=[])/\∀{n:Int},kb l=some n->(∃ x∈r,x.val=.int .i64 n)/\∀ x∈r,∃ m,x.val=.int .i64 m/\n<=m
 |[],[],_=>⟨λ_=>rfl,λh=>by cases h⟩
 |[],_::_,h=>by have:=h.1;simp at this
 |_::_,[],h=>by have:=h.1;simp at this
 |p::l,e::r,h=>by
  obtain⟨_,⟨cs,k1,k2⟩,k3⟩:=h.cons;obtain⟨i1,i2⟩:=pa k3;have hv:e.val=.int .i64 p.2:=by obtain⟨rfl,_⟩:=k2;exact k1
  cases hl:kb l with
  |none=>
   have hr:=i1 hl;subst hr;refine⟨λh=>by simp[kb,hl]at h,fun {n} h=>?_⟩;simp only[kb,hl,bd]at h;subst h;refine⟨⟨e,RX ..,hv⟩,λx hx=>?_⟩;rcases A6.1 hx with rfl|hx
   ·exact⟨_,hv,TF _⟩
   cases hx
  |some m=>
   obtain⟨⟨x,hx,hxv⟩,hall⟩:=i2 hl;refine⟨λh=>by simp[kb,hl]at h,fun {n} h=>?_⟩;simp only[kb,hl,bd]at h;subst h;by_cases hle:p.2<=m
   ·rw[decide_eq_true hle,UA];refine⟨⟨e,RX ..,hv⟩,λy hy=>?_⟩;rcases A6.1 hy with rfl|hy
    ·exact⟨_,hv,TF _⟩
    obtain⟨q,q1,q2⟩:=hall y hy;exact⟨q,q1,by omega⟩
   rw[decide_eq_false hle,UB];refine⟨⟨x,RB _ hx,hxv⟩,λy hy=>?_⟩;rcases A6.1 hy with rfl|hy
   ·exact⟨_,hv,by omega⟩
   exact hall y hy
theorem pR:∀(l:List Nat) (e:Env) (t:Nat),(qa l e).get t=if t∈l then .av .u else e.get t
 |[],e,t=>by simp[qa]
 |d::l,e,t=>by
  unfold qa;rw[Env.get_cons,pR l e t];by_cases h:d=t
  ·subst h;simp
  rw[if_neg h];simp[Ne.symm h]
theorem Inv.more {C:Ctx}{w0:World}{M:Own}{m:Mem}(hi:Inv C w0 M m){w':World}(h1:w'.os=m.w.os)(h2:w'.tape=m.w.tape)(h3:w'.output=m.w.output)(h4:m.w.heap.size<=w'.heap.size)(h5:∀ b,b < m.w.heap.size->w'.heap[b]?=m.w.heap[b]?) :
  Inv C w0 M ⟨w',m.F,m.ι,m.G⟩/\Evo m ⟨w',m.F,m.ι,m.G⟩:=by
 have he:Evo m ⟨w',m.F,m.ι,m.G⟩:=⟨λb hb=>⟨hb,h5 b (hi.fro b hb)⟩,λid o ho=>⟨o,ho,.inr (Goon.refl _ o)⟩⟩;refine⟨⟨⟨h1.trans hi.kept.os,h2.trans hi.kept.tape,h3.trans hi.kept.output,Nat.le_trans hi.kept.size h4,λb hb hM=>(h5 b (RK hb hi.kept.size)).trans (hi.kept.block b hb hM)⟩,?_,?_,hi.inj,λb hb=>RK (hi.fro b hb) h4,λg τ x hg=>(hi.glob g τ x hg).mono he.fro,hi.bnd,cd he hi.pin⟩,he⟩
 ·intro id o ho;by_cases hob:isObj o=true
  ·exact co he rfl (λb hb=>h5 b (hi.own id o b ho hob hb).2.2) (hi.objs id o ho)
  cases o<;>simp_all[isObj,dm]
 intro id o b ho hob hb;obtain⟨k1,k2,k3⟩:=hi.own id o b ho hob hb;exact⟨k1,k2,RK k3 h4⟩
theorem GK{w:World}{F:Nat->Prop}{l:List (Int×Int)}{r:List MapEntry}(h:EntsW w F (.int .i64) (.int .i64) r l){x:MapEntry}(hx:x∈r){n:Int}(hn:x.val=.int .i64 n):IntKind.i64.min<=n/\n<=IntKind.i64.max:=by obtain⟨i,hi,rfl⟩:=List.mem_iff_getElem.1 hx;obtain⟨_,cs,k1,rfl,k3⟩:=h.2 i hi (by rw[<- h.1];exact hi);rw[hn]at k1;have k1:n=_:=(Value.int.inj k1).2;rw[k1];exact k3
theorem Nu {C:Ctx}{w0:World}{M:Own}{x y:Code}{s s':St}{a:Act}{m:Mem}{Q:Exit->Act->World->Prop}(hM:ny P C)(h64:64<=N)(h:rx C x y s=some s')(hs:Sim C w0 M N a m s.env)(hG:m.G=s.G)
  (hQ:∀ a' m',m'.G=s'.G->Sim C w0 M N a' m' s'.env->Q .normal a' m'.w):(Code.seq x y).wp P Q a m.w:=by
 unfold rx at h;cases hchk:mp C x y with
 |false=>rw[hchk]at h;cases h
 |true=>
  rw[hchk]at h;simp only[UA]at h;split at h
  ·rename_i id v0 hb hv0 hf0;split at h
   ·rename_i k v l hg;obtain⟨l',hl,h⟩:=A1.1 h;obtain⟨e1,e2,hl⟩:=ff hl;subst e1;subst e2
    simp only at hl;subst hl;split at h
    ·rename_i n hn;cases h;have h11:=hs.env 11;rw[hb]at h11;obtain⟨B,ents,clock,q2,_,r3,r4,r5⟩:=nF hs.inv (by intro e;cases e) (hG▸hg) h11;obtain⟨⟨xm,hxm,hxv⟩,hall⟩:=(pa r4).2 hn;unfold mp at hchk;split at hchk
     ·rename_i rr o14 k r15 o15 k' k3 r16 o16 r17 o17 r18 o18;simp only[np]at hchk;obtain⟨hk,h14,h15,h16,h17,h18⟩:=hchk;have hk:=xy hk;subst hk;obtain⟨t,p1,z1,s1,p2,z2,s2,kt,et,e14,hu⟩:=l14 hM h14;obtain⟨y1,y2,y3,y4,y5,y6,e15⟩:=l15 h15;obtain⟨w,hwd⟩:∃ w,w=m.w:=⟨_,rfl⟩;have hlt:B<w.heap.size:=by rw[hwd];exact(L5.1 r3).1
      rw[<- hwd]at r3 ⊢;have m0:MJ N a a:=⟨hs.defers,hs.size,λ_ _=>rfl⟩;refine wp_seq (iI e14 ?_);change wpOps P _ _ [0,1] a w;refine cH (w':=w) 50 rfl rfl (bz rfl) (v:=.map (some B)) (oF rfl q2) ?_;refine cH (w':=w.alloc (.mapIter (some B) clock #[] clock)) 51 rfl rfl (bz rfl) (v:=.pointer (some ⟨w.heap.size,0,none⟩)) (JK rfl (du (dA m0 (by decide) h64)) (run_range_map w t kt et B ents clock hu r3)) ?_;have mw0:MW w w.heap.size B clock #[] (w.alloc (.mapIter (some B) clock #[] clock)):=by refine⟨rfl,rfl,rfl,?_,λb hb=>heap_alloc_old w _ hb,clock,B2 _,heap_alloc_new w _⟩;show w.heap.size<=(w.heap.push _).size;simp
      have key:∀(q:Nat) {a1:Act} {w1:World} {sn:Array Nat} {v:Int} {f:Bool},(leftOf ents sn).size < q->MRd P N w.heap.size ents a sn v f a1->MW w w.heap.size B clock sn w1 ->
        Code.rounds P (.seq (.region r15 o15 false) (.seq (.cond (.tmp 53) .skip (.exit k)) (.block k3 (.seq (.region r16 o16 false) (.seq (.region r17 o17 false) (.cond (.tmp 62) (.region r18 o18 false) .skip)))))) (Exit.inBlock k Q) q a1 w1:=by
       intro q;induction q with
       |zero=>intro a1 w1 sn v f hlt;omega
       |succ q ih=>
        intro a1 w1 sn v f hlt hr hmw;show Code.wp P _ (Exit.then (Code.rounds P _ (Exit.inBlock k Q) q) (Exit.inBlock k Q)) a1 w1;refine wp_seq (iI e15 ?_);change wpOps P _ _ [0,1] a1 w1;have z52:=dA hr.mj (d:=52) (by decide) h64;have z53:=dA hr.mj (d:=53) (by decide) h64;rcases hmw.next (P:=P) (B2 _) r3 r5 y1 with⟨hall',hrun⟩|⟨en,hen,hun,w2,hrun,hmw2,hent,hless⟩
        ·-- it is over
         refine cH (w':=w1) 52 rfl rfl (bz rfl) (v:=.tuple #[.bool false]) (FL rfl hr.it hrun) ?_;refine cH (w':=w1) 53 rfl rfl (bz rfl) (v:=.bool false) (nY rfl (du z52) rfl) ?_;refine wp_seq (wp_cond (t:=false) (by rw[gp,du (by rw[cL];exact z53)]) (wp_exit ?_));show(if k=k then Q .normal _ w1 else _);rw[if_pos rfl];have hf:f=true/\v=n:=by
          have hfd:=hr.fd;cases f with
          |false=>have h1:=hfd xm hxm;have h2:=hall' xm hxm;rw[h1]at h2;cases h2
          |true=>
           obtain⟨⟨x0,k1,k2⟩,k3⟩:=hfd;refine⟨rfl,?_⟩;obtain⟨m1,j1,j2⟩:=hall x0 k1;obtain⟨m2,j3,j4⟩:=k3 xm hxm (hall' xm hxm);rw[k2]at j1;rw[hxv]at j3
           cases j1;cases j3
           omega
         have hfin:=((hr.mj.put (d:=52) (by decide) (.tuple #[.bool false])).put (d:=53) (by decide) (.bool false));have hmore:=hs.inv.more (w':=w1) (by rw[<- hwd];exact hmw.os) (by rw[<- hwd];exact hmw.tape) (by rw[<- hwd];exact hmw.output) (by rw[<- hwd];exact hmw.size) (by rw[<- hwd];exact hmw.old);refine hQ _ ⟨w1,m.F,m.ι,m.G⟩ hG ⟨hmore.1,hfin.defers,hfin.size,λt=>?_⟩;rw[Env.get_cons,Env.get_cons,pR];split
         ·rename_i e;subst e
          rw[af (by decide),af (by decide),hr.hv,hf.2];refine⟨[.int .i64 n],rfl,rfl,?_⟩;have hrd:=hall xm hxm;exact GK r4 hxm hxv
         split
         ·rename_i e;subst e
          rw[af (by decide),af (by decide),hr.hf,hf.1];exact⟨[.bool true],rfl,rfl⟩
         split
         ·trivial
         rename_i h13 h14' hno;rw[hfin.old t (by unfold vk;simp[hno,Ne.symm h13,Ne.symm h14'])];exact fL hmore.2 (hs.env t)
        -- one more
        obtain⟨nv,hnv,_⟩:=hall en hen;refine cH (w':=w2) 52 rfl rfl (bz rfl) (v:=.tuple #[.bool true,en.key,en.val]) (FL rfl hr.it hrun) ?_;refine cH (w':=w2) 53 rfl rfl (bz rfl) (v:=.bool true) (nY rfl (du z52) rfl) ?_;refine wp_seq (wp_cond (t:=true) (by rw[gp,du (by rw[cL];exact z53)]) (wp_skip ?_));refine I4 (P:=P) (N:=N) (I:=w.heap.size) (es:=ents) (a0:=a) (sn:=sn) (v:=v) (f:=f) h16 h17 h18 h64 (r5.1.imp (λh=>UF h)) hen hnv ⟨(hr.mj.put (by decide) _).put (by decide) _,?_,?_,?_,hr.fd⟩ hent λa' v' hr'=>?_
        ·rw[af (by decide),af (by decide)];exact hr.it
        ·rw[af (by decide),af (by decide)];exact hr.hv
        ·rw[af (by decide),af (by decide)];exact hr.hf
        exact ih (by omega) hr' hmw2
      refine wp_block (wp_loop_rounds _ (key ((leftOf ents #[]).size+1) (v:=v0) (f:=false) (Nat.lt_succ_self _) ⟨(m0.put (d:=50) (by decide) _).put (d:=51) (by decide) _,?_,?_,?_,?_⟩ mw0))
      ·rw[du (by rw[cL];exact dA m0 (by decide) h64)]
      ·rw[af (by decide),af (by decide)];have h:=hs.env 13;rw[hv0]at h;exact(cY h).1
      ·rw[af (by decide),af (by decide)];have h:=hs.env 14;rw[hf0]at h;exact fk h
      intro x hx;simp
     cases hchk
    cases h
   cases h
  cases h
theorem ry{C:Ctx}{x y:Code}{s s':St}(h:rx C x y s=some s'):mp C x y=true/\s'.G=s.G:=by
 unfold rx at h;cases hchk:mp C x y with
 |false=>rw[hchk]at h;cases h
 |true=>
  rw[hchk]at h;simp only[UA]at h;refine⟨rfl,?_⟩;split at h
  ·split at h
   ·obtain⟨l',_,h⟩:=A1.1 h;split at h
    ·cases h;rfl
    cases h
   cases h
  cases h
end
end
end Go.Vm

/-
 A body of code.
-/
namespace Go.Vm
def aO:Code->List Code
 |.seq a b=>aO a++aO b
 |.cond _ a b=>aO a++aO b
 |.block _ c=>aO c
 |.loop c=>c::aO c
 |_=>[]
def jI(N:Nat)(ops:List Oper):Bool:=ops.all λo=>match o.dst with|some d=>Tv d N|none=>true
def d8(N:Nat):Code->Bool
 |.region _ ops _=>jI N ops.toList
 |.seq a b=>d8 N a&&d8 N b
 |.cond _ a b=>d8 N a&&d8 N b
 |.block _ c=>d8 N c
 |.loop c=>d8 N c
 |_=>true
def po(C:Ctx)(A:Anns)(l:List Code):Prop:=∀ c∈l,∀ ann,A.get (cp c)=some ann->∀ x y,ann.fn x=some y->Rounds (round C A ann c) x y
def od:Ex->Exit
 |.normal=>.normal
 |.exit i=>.exit i
 |.ret=>.ret
def kZ(P:Program):Prop:=∀(C:Ctx) (w0:World) (M:Own) (N:Nat) (a:Act) (m:Mem) (s:St) (R:Type) (res:R) (K:St->Option R) (id:Nat) (lt:Bool) (ops:Array Oper) (Q:Exit->Act->World->Prop),
 CtxOK P C->Sim C w0 M N a m s.env->m.G=s.G->jI N ops.toList=true->ke C lt ops.toList s K=some res ->
 (∀ s' a' m',K s'=some res->m'.G=s'.G->Sim C w0 M N a' m' s'.env->Q .normal a' m'.w)->(Code.region id ops true).wp P Q a m.w
section
variable {P:Program}{C:Ctx}{w0:World}{M:Own}{N:Nat}{A:Anns}
theorem J8{e e':Ex}(h:Ex.same e e'=true):e=e':=by
 unfold Ex.same at h;split at h
 ·rfl
 ·rw[xy h]
 ·rfl
 simp at h
theorem jg:∀{l:List (Ex×Shape)} {e:Ex} {s:St} {y:kL l},jJ l e s=some y->∃(sh:Shape) (z:sh.ty.den),(∃ e',(e',sh)∈l)/\sh.ext s=some z/\∀{R:Type} (K:Ex->St->Option R),lH K l y=K e (sh.inj z)
 |[],_,_,_,h=>by simp[jJ]at h
 |p::l,e,s,y,h=>by
  simp only[jJ]at h;cases hs:Ex.same p.1 e with
  |true=>rw[hs]at h;simp only[UA]at h;obtain⟨z,hz,h⟩:=A1.1 h;simp only[bd]at h;subst h;exact⟨p.2,z,⟨p.1,by simp⟩,hz,λK=>by simp[lH,J8 hs]⟩
  |false=>rw[hs]at h;simp only[UB]at h;obtain⟨z,hz,h⟩:=A1.1 h;simp only[bd]at h;subst h;obtain⟨sh,z',⟨e',h0⟩,h1,h2⟩:=jg hz;exact⟨sh,z',⟨e',by simp[h0]⟩,h1,λK=>by simp only[lH,Sum.elim_inr];exact h2 K⟩
theorem pZ{ops:Array Oper}(h:jI N ops.toList=true):∀ o∈ops.toList,∀ d,o.dst=some d->d<N:=by intro o ho d hd;unfold jI at h;rw[A9]at h;have:=h o ho;rw[hd]at this;exact L9 this
def F8(M:Own)(A:Anns):Prop:=∀ key ann,A.get key=some ann->((∀ i v,M.pin i=some v->i∈ann.head.pins)/\M.base=none)/\∀ e sh,(e,sh)∈ann.exits->(∀ i v,M.pin i=some v->i∈sh.pins)/\M.base=none
def lB(P:Program)(C:Ctx)(w0:World)(M:Own)(N:Nat)(L:Loops)(x:Code):Prop:=
 ∀{R:Type} {res:R} {K:Ex->St->Option R} {Q:Exit->Act->World->Prop} {s:St} {a:Act} {m:Mem},
  Sim C w0 M N a m s.env->m.G=s.G->L (cp x) R s K=some res ->
  (∀ e s' a' m',K e s'=some res->m'.G=s'.G->Sim C w0 M N a' m' s'.env->Q (od e) a' m'.w)->(Code.loop x).wp P Q a m.w
theorem KA{x y:Code}(h:mp C x y=true)(hd:d8 N (.seq x y)=true):64<=N:=by
 unfold mp at h;split at h
 ·simp only[np]at h;obtain⟨_,_,_,_,_,h18⟩:=h;obtain⟨y1,y2,y3,y4,y5,y6,y7,y8,y9,e18⟩:=l18 h18;simp only[d8,np,Bool.and_true,SQ]at hd;have hr:=hd.2.2.2.2;unfold jI at hr;rw[A9]at hr;have:=hr ⟨some 63,.move (.tmp 16),y1,y2,y3,none⟩ (by rw[e18];simp);exact L9 this
 cases h
theorem kM {L:Loops}(hC:CtxOK P C)(hD:kZ P):∀(c:Code),(∀ x∈aO c,lB P C w0 M N L x)->d8 N c=true->∀{R:Type} {res:R} {K:Ex->St->Option R} {Q:Exit->Act->World->Prop} {s:St} {a:Act} {m:Mem},
  Sim C w0 M N a m s.env->m.G=s.G->dd C L c K s=some res ->
  (∀ e s' a' m',K e s'=some res->m'.G=s'.G->Sim C w0 M N a' m' s'.env->Q (od e) a' m'.w)->c.wp P Q a m.w:=by
 intro c;induction c with
 |skip=>intro _ _ R res K Q s a m hs hG h hQ;exact wp_skip (hQ .normal s a m h hG hs)
 |region id ops d=>
  intro _ hd R res K Q s a m hs hG h hQ;simp only[dd]at h;cases d with
  |false=>exact CN hC (hQ .normal) (pZ hd) h hG hs
  |true=>
   simp only[UA]at h;have hf:∃ m',m'.w=m.w/\m'.G=(oe C id s).G/\Sim C w0 M N a m' (oe C id s).env:=by
    unfold oe;cases C.frz.any λi=>A3 i id with
    |false=>exact⟨m,rfl,hG,hs⟩
    |true=>exact qU _ hs hG
   obtain⟨m',e1,e2,e3⟩:=hf;rw[<- e1];exact hD C w0 M N a m' _ R res _ id _ ops Q hC e3 e2 hd h (hQ .normal)
 |seq x y ihx ihy=>
  intro hL hd R res K Q s a m hs hG h hQ;simp only[dd]at h;split at h
  ·rename_i s1 hmin;cases hm:C.min with
   |false=>rw[hm]at hmin;cases hmin
   |true=>rw[hm]at hmin;exact Nu hC.maps (KA (ry hmin).1 hd) hmin hs hG λa' m' h1 h2=>hQ .normal s1 a' m' h h1 h2
  simp only[d8,np]at hd;refine wp_seq (ihx (λc hc=>hL c (by simp[aO,hc])) hd.1 hs hG h ?_);intro e s' a' m' h1 h2 h3;cases e with
  |normal=>exact ihy (λc hc=>hL c (by simp[aO,hc])) hd.2 h3 h2 h1 hQ
  |exit i=>exact hQ (.exit i) s' a' m' h1 h2 h3
  |ret=>exact hQ .ret s' a' m' h1 h2 h3
 |cond x y z ihy ihz=>
  intro hL hd R res K Q s a m hs hG h hQ;simp only[d8,np]at hd;simp only[dd]at h;split at h
  ·rename_i b hb;have hv:=p0 hs.inv hs.env x;rw[hb]at hv;refine wp_cond (fk hv) ?_;cases b with
   |true=>exact ihy (λc hc=>hL c (by simp[aO,hc])) hd.1 hs hG h hQ
   |false=>exact ihz (λc hc=>hL c (by simp[aO,hc])) hd.2 hs hG h hQ
  simp at h
 |block id x ih=>
  intro hL hd R res K Q s a m hs hG h hQ;simp only[dd]at h;refine wp_block (ih hL hd hs hG h ?_);intro e s' a' m' h1 h2 h3;cases e with
  |normal=>exact hQ .normal s' a' m' h1 h2 h3
  |exit i=>
   simp only[od,Exit.inBlock];dsimp only at h1;cases hi:A3 i id with
   |true=>rw[hi]at h1;rw[if_pos (xy hi)];exact hQ .normal s' a' m' h1 h2 h3
   |false=>rw[hi]at h1;rw[if_neg (Nat.ne_of_beq_eq_false hi)];exact hQ (.exit i) s' a' m' h1 h2 h3
  |ret=>exact hQ .ret s' a' m' h1 h2 h3
 |loop x ih=>intro hL hd R res K Q s a m hs hG h hQ;simp only[dd]at h;exact hL x (by simp[aO]) hs hG h hQ
 |exit id=>intro _ _ R res K Q s a m hs hG h hQ;exact wp_exit (hQ (.exit id) s a m h hG hs)
 |ret=>intro _ _ R res K Q s a m hs hG h hQ;exact wp_ret (hQ .ret s a m h hG hs)
 |_=>intro _ _ R res K Q s a m hs hG h hQ;simp[dd]at h
theorem uu (hPin:F8 M A){x:Code}(hL:∀ ann,A.get (cp x)=some ann->∀ z y,ann.fn z=some y->Rounds (round C A ann x) z y)
  (ih:∀{R:Type} {res:R} {K:Ex->St->Option R} {Q:Exit->Act->World->Prop} {s:St} {a:Act} {m:Mem},Sim C w0 M N a m s.env->m.G=s.G->dd C (lV A) x K s=some res ->
   (∀ e s' a' m',K e s'=some res->m'.G=s'.G->Sim C w0 M N a' m' s'.env->Q (od e) a' m'.w)->x.wp P Q a m.w):lB P C w0 M N (lV A) x:=by
 intro R res K Q s a m hs hG h hQ;simp only[lV]at h;split at h
 ·simp at h
 rename_i ann hann;split at h
 ·simp at h
 rename_i x0 hx0;obtain⟨y,hy,h⟩:=A1.1 h;have hr:=hL ann hann x0 y hy;obtain⟨pin1,pin2⟩:=hPin _ ann hann;obtain⟨m1,e1,e2,e3⟩:=pF hs hG pin1 hx0;rw[<- e1];have key:∀{x0 y},Rounds (round C A ann x) x0 y->lH K ann.exits y=some res->∃ n,∀(a:Act) (m:Mem),m.G=(ann.head.inj x0).G->Sim C w0 M N a m (ann.head.inj x0).env->Code.rounds P x Q n a m.w:=by
  intro x0 y hr;induction hr with
  |last h1=>
   intro hg;refine⟨1,λa m hG hs=>?_⟩;show x.wp P (Exit.then (Code.rounds P x Q 0) Q) a m.w;refine ih hs hG h1 ?_;intro e s' a' m' k1 k2 k3;cases e with
   |normal=>obtain⟨z,_,k1⟩:=A1.1 k1;simp at k1
   |exit i=>obtain⟨z,hz,k1⟩:=A1.1 k1;simp only[bd,Uj]at k1;subst k1;obtain⟨sh,z',⟨e',f0⟩,f1,f2⟩:=jg hz;rw[f2]at hg;obtain⟨m2,g1,g2,g3⟩:=pF k3 k2 (pin2 e' sh f0) f1;rw[<- g1];exact hQ (.exit i) _ a' m2 hg g2 g3
   |ret=>obtain⟨z,hz,k1⟩:=A1.1 k1;simp only[bd,Uj]at k1;subst k1;obtain⟨sh,z',⟨e',f0⟩,f1,f2⟩:=jg hz;rw[f2]at hg;obtain⟨m2,g1,g2,g3⟩:=pF k3 k2 (pin2 e' sh f0) f1;rw[<- g1];exact hQ .ret _ a' m2 hg g2 g3
  |more h1 _ ih2=>
   intro hg;obtain⟨n,hn⟩:=ih2 hg;refine⟨n+1,λa m hG hs=>?_⟩;show x.wp P (Exit.then (Code.rounds P x Q n) Q) a m.w;refine ih hs hG h1 ?_;intro e s' a' m' k1 k2 k3;cases e with
   |normal=>obtain⟨z,hz,k1⟩:=A1.1 k1;simp only[bd,Sum.inl.injEq]at k1;subst k1;obtain⟨m2,g1,g2,g3⟩:=pF k3 k2 pin1 hz;rw[<- g1];exact hn a' m2 g2 g3
   |exit i=>obtain⟨z,hz,k1⟩:=A1.1 k1;simp at k1
   |ret=>obtain⟨z,hz,k1⟩:=A1.1 k1;simp at k1
 obtain⟨n,hn⟩:=key hr h;exact wp_loop_rounds n (hn a m1 e2 e3)
theorem fH:∀{c x:Code},x∈aO c->(aO x).length<(aO c).length/\(∀ y∈aO x,y∈aO c)/\(d8 N c=true->d8 N x=true)
 |.seq a b,x,h=>by
  simp only[aO,A5]at h;rcases h with h|h<;>obtain⟨h1,h2,h3⟩:=fH h
  ·exact⟨by simp[aO];omega,λy hy=>by simp[aO,h2 y hy],λhd=>by simp only[d8,np]at hd;exact h3 hd.1⟩
  exact⟨by simp[aO];omega,λy hy=>by simp[aO,h2 y hy],λhd=>by simp only[d8,np]at hd;exact h3 hd.2⟩
 |.cond _ a b,x,h=>by
  simp only[aO,A5]at h;rcases h with h|h<;>obtain⟨h1,h2,h3⟩:=fH h
  ·exact⟨by simp[aO];omega,λy hy=>by simp[aO,h2 y hy],λhd=>by simp only[d8,np]at hd;exact h3 hd.1⟩
  exact⟨by simp[aO];omega,λy hy=>by simp[aO,h2 y hy],λhd=>by simp only[d8,np]at hd;exact h3 hd.2⟩
 |.block _ c,x,h=>fH (c:=c) h
 |.loop c,x,h=>by
  simp only[aO,A6]at h;rcases h with rfl|h
  ·exact⟨by simp[aO],λy hy=>by simp[aO,hy],λhd=>hd⟩
  obtain⟨h1,h2,h3⟩:=fH h;exact⟨by simp[aO];omega,λy hy=>by simp[aO,h2 y hy],λhd=>h3 hd⟩
 |.skip,_,h=>by cases h
 |.region _ _ _,_,h=>by cases h
 |.exit _,_,h=>by cases h
 |.ret,_,h=>by cases h
 |.scope _,_,h=>by cases h
 |.label _,_,h=>by cases h
 |.rangeFunc _ _ _ _,_,h=>by cases h
theorem JC (hC:CtxOK P C)(hD:kZ P)(hPin:F8 M A)(c:Code)(hL:po C A (aO c))(hd:d8 N c=true){R:Type}{res:R}{K:Ex->St->Option R}{Q:Exit->Act->World->Prop}{s:St}{a:Act}{m:Mem}
  (hs:Sim C w0 M N a m s.env) (hG:m.G=s.G) (h:dd C (lV A) c K s=some res)
  (hQ:∀ e s' a' m',K e s'=some res->m'.G=s'.G->Sim C w0 M N a' m' s'.env->Q (od e) a' m'.w):c.wp P Q a m.w:=by
 obtain⟨n,hn⟩:∃ n,(aO c).length<=n:=⟨_,B2 _⟩;induction n generalizing c R res K Q s a m with
 |zero=>exact kM hC hD c (λx hx=>by have:=List.length_pos_of_mem hx;omega) hd hs hG h hQ
 |succ n ih=>refine kM hC hD c (λx hx=>?_) hd hs hG h hQ;obtain⟨h1,h2,h3⟩:=fH hx;exact uu hPin (hL x hx) λhs hG h hQ=>ih x (λy hy=>hL y (h2 y hy)) (h3 hd) hs hG h hQ (by omega)
end
end Go.Vm

/-
 A function's contract, from its body.
-/
namespace Go.Vm
section
variable {P:Program}{C:Ctx}{w0:World}{M:Own}{N:Nat}{A:Anns}{a:Act}{m:Mem}{s:St}
def NQ(m:Mem)(s:St):(outs:lY)->List Value->(aa ((outs.map (·.2)).map (·.2))).den->Prop
 |[],[],_=>True
 |p::r,u::us,x=>(∃ sv,gD s p.1 p.2.2=some sv/\RelSV m u sv/\aV s.G p.2.2 sv=some x.1)/\NQ m s r us x.2
 |_,_,_=>False
def Jm(P:Program)(v:ResultVar)(τ:Ty):Bool:=match v with
 |.cell _ t=>chk P τ none t
 |.tmp _=>true
def oX(P:Program)(outs:lY):Bool:=outs.all λp=>Jm P p.1 p.2.2
def nM(a:Act):ResultVar->Sem Value
 |.tmp t=>pure (a.tmps.getD t undef)
 |.cell x t=>do loadVar t (<- asAddr (a.tmps.getD x undef))
theorem qH (hs:Sim C w0 M N a m s.env)(hG:m.G=s.G){v:ResultVar}{τ : Ty}{sv:SV}(h:gD s v τ=some sv)(hk:Jm P v τ=true) :
  ∃ u,(nM a v).run P m.w=.ok u m.w/\RelSV m u sv:=by
 cases v with
 |tmp t=>simp only[gD,bd]at h;subst h;exact⟨_,by simp[nM],hs.env t⟩
 |cell x t=>
  simp only[gD]at h;have hx:=hs.env x;split at h
  ·rename_i id off hq;rw[hq]at hx;split at h
   ·rename_i l hl;split at h
    ·rename_i c hc;simp only[bd]at h;subst h;obtain⟨rfl,hle⟩:=ir hc;obtain⟨_,ob,hob,hv⟩:=(aw (a:=.ptr id off) (by intros;simp)).1 hx;rw[hG,hl]at hob;simp only[bd]at hob;subst hob;obtain⟨b,h1,h2⟩:=hv;obtain⟨b',cc,el,q1,q2,q3,q4⟩:=hs.inv.objs id _ (hG▸hl);rw[h1]at q1;simp only[Value.pointer.injEq,bd,Addr.mk.injEq,and_true]at q1;subst q1;have hlen:=q4.length;rw[Array.length_toList]at hlen;rw[List.length_drop]at hle;have hsz:off+τ.size<=cc.size\/τ.size=0:=by omega
     have hrel:Rel2 (ak m) (seg cc off τ.size) ((l.drop off).take τ.size):=(q4.drop off).take τ.size;have hone:∀ u∈seg cc off τ.size,u.oneCell'=true:=λu hu=>q3 u (List.mem_of_mem_drop (List.mem_of_mem_take hu));have hrun:(loadVar t ⟨b,off,none⟩).run P m.w=.ok (toV τ (seg cc off τ.size)) m.w:=by
      rcases hsz with hsz|hsz
      ·exact dF (qv hk) q2 hsz
      have ha:τ.isAgg=true:=by
       cases ha:τ.isAgg with
       |true=>rfl
       |false=>have:=eG ha;omega
      have hz:seg cc off τ.size=[]:=by unfold seg;rw[hsz];simp
      rw[hz];simp[loadVar,dn hk,ha,bC hk,hsz,loadCells,loadCellsFrom,toV]
     refine⟨toV τ (seg cc off τ.size),?_,jc hone hrel⟩;simp[nM,h2,asAddr,hrun]
    simp at h
   simp at h
  simp at h
theorem oS (hs:Sim C w0 M N a m s.env)(hG:m.G=s.G):∀{outs:lY} {x:(aa ((outs.map (·.2)).map (·.2))).den},results s outs=some x->oX P outs=true ->
  ∃ us,((outs.map (·.1)).mapM (nM a)).run P m.w=.ok us m.w/\NQ m s outs us x
 |[],x,_,_=>⟨[],by simp,trivial⟩
 |p::r,x,h,hk=>by
  simp only[oX,Tx,np]at hk;obtain⟨hk1,hk2⟩:=hk;unfold results at h;split at h
  ·rename_i sv hsv;split at h
   ·rename_i x1 hx1;split at h
    ·rename_i x2 hx2;have:=B6 h;subst this;obtain⟨u,h1,h2⟩:=qH (P:=P) hs hG hsv hk1;obtain⟨us,h3,h4⟩:=oS hs hG hx2 hk2;refine⟨u::us,?_,⟨sv,hsv,h2,hx1⟩,h4⟩;simp only[L3,List.mapM_cons,Sem.run_bind,h1,Result.andThen_ok,h3,Sem.run_pure]
    simp at h
   simp at h
  simp at h
theorem lk {d:Bool}(hi:Inv C w0 M m){τ : Ty}{us:List Value}{l rest rest':List Atom}{x : τ.den}(hr:Rel2 (ak m) us l)(hc:aC m.G τ l=some (x,rest))(hk:∀ l,bP d τ l=(match l with | _ :: r=>(true,r) | []=>(false,[])))(hτ : (∃ k,τ=.int k)\/τ=.bool\/τ=.str)
  (ho:bP d τ l=(true,rest')):∃ c us' lc,us=c.map aU++us'/\l=lc++rest/\rest'=rest/\OwnRd m.w m.F d τ c x/\Rel2 (ak m) us' rest:=by
 rw[hk]at ho;cases l with
 |nil=>simp at ho
 |cons at' l=>
  cases us with
  |nil=>exact hr.elim
  |cons u us=>
   simp only[A8,true_and]at ho;subst ho;have key:∀{τ:Ty},τ.flat=true->∀ y:τ.den,aL m.G τ at'=some y->Rd m.w m.F τ [u] y:=λhf y hy=>(cN hi hy hr.1).flat hf _ _;cases τ with
   |int k=>
    simp only[aC]at hc;split at hc
    ·rename_i y hy;have hc:=B6 hc;simp only[A8]at hc;obtain⟨rfl,rfl⟩:=hc;exact⟨[u],us,[at'],by rw[bB (key (τ:=.int k) rfl y hy)];rfl,rfl,rfl,key (τ:=.int k) rfl y hy,hr.2⟩
    simp at hc
   |bool=>
    simp only[aC]at hc;split at hc
    ·rename_i y hy;have hc:=B6 hc;simp only[A8]at hc;obtain⟨rfl,rfl⟩:=hc;exact⟨[u],us,[at'],by rw[bB (key (τ:=.bool) rfl y hy)];rfl,rfl,rfl,key (τ:=.bool) rfl y hy,hr.2⟩
    simp at hc
   |str=>
    simp only[aC]at hc;split at hc
    ·rename_i y hy;have hc:=B6 hc;simp only[A8]at hc;obtain⟨rfl,rfl⟩:=hc;exact⟨[u],us,[at'],by rw[bB (key (τ:=.str) rfl y hy)];rfl,rfl,rfl,key (τ:=.str) rfl y hy,hr.2⟩
    simp at hc
   |_=>simp at hτ
theorem om {d:Bool}(hi:Inv C w0 M m):∀{τ : Ty} {us:List Value} {l rest rest':List Atom} {x : τ.den},Rel2 (ak m) us l->aC m.G τ l=some (x,rest)->bP d τ l=(true,rest') ->
  ∃ c us' lc,us=c.map aU++us'/\l=lc++rest/\rest'=rest/\OwnRd m.w m.F d τ c x/\Rel2 (ak m) us' rest /\
   (∀ b,di (aW τ c) b->∃ id o,id∈lc.flatMap atomIds/\m.G.get id=some o/\isObj o=true/\HB (m.ι id) b) /\
   (aM (lc.flatMap atomIds)=true->cP (aW τ c))
 |.prod a b,us,l,rest,rest',x,hr,hc,ho=>by
  simp only[aC]at hc;split at hc
  ·rename_i x1 r1 h1;split at hc
   ·rename_i x2 r2 h2;have hc:=B6 hc;simp only[A8]at hc;obtain⟨rfl,rfl⟩:=hc;simp only[bP,A8,np]at ho;obtain⟨⟨o1,o2⟩,o3⟩:=ho;obtain⟨c1,us1,lc1,a1,a2,a3,a4,a5,a6,a7⟩:=om hi (rest':=(bP d a l).2) hr h1 (by rw[<- o1]);rw[a3]at o2 o3;obtain⟨c2,us2,lc2,b1,b2,b3,b4,b5,b6,b7⟩:=om hi (rest':=(bP d b r1).2) a5 h2 (by rw[<- o2]);subst a1;subst b1;subst a2;subst b2;have hh:aW (.prod a b) (c1++c2)=aW a c1++aW b c2:=by simp only[aW,<- a4.len,SF,List.drop_left]
    refine⟨c1++c2,us2,lc1++lc2,by simp,by simp,by rw[<- o3,b3],⟨c1,c2,rfl,a4,b4⟩,b5,?_,?_⟩
    ·rw[hh];rintro bl ⟨u,hu,hb⟩;rcases A5.1 hu with hu|hu
     ·obtain⟨id,o,k1,k2⟩:=a6 bl ⟨u,hu,hb⟩;exact⟨id,o,by simp only[Ts,A5];exact .inl k1,k2⟩
     obtain⟨id,o,k1,k2⟩:=b6 bl ⟨u,hu,hb⟩;exact⟨id,o,by simp only[Ts,A5];exact .inr k1,k2⟩
    rw[hh,Ts];intro hn;obtain⟨n1,n2,n3⟩:=bf hn;refine Sh.2 ⟨a7 n1,b7 n2,?_⟩;intro u hu v hv bl hb hb';obtain⟨id,o,k1,k2,k3,k4⟩:=a6 bl ⟨u,hu,hb⟩;obtain⟨id',o',j1,j2,j3,j4⟩:=b6 bl ⟨v,hv,hb'⟩;have:=hi.inj id id' o o' bl k2 k3 j2 j3 k4 j4;subst this;exact n3 id k1 j1
   simp at hc
  simp at hc
 |.unit,us,l,rest,rest',x,hr,hc,ho=>by simp only[aC,bd,A8]at hc;simp only[bP,A8,true_and]at ho;obtain⟨_,rfl⟩:=hc;subst ho;exact⟨[],us,[],rfl,rfl,rfl,rfl,hr,by rintro b ⟨u,hu,_⟩;simp[aW]at hu,λ_=>Se⟩
 |.slice e,us,l,rest,rest',x,hr,hc,ho=>by
  cases l with
  |nil=>simp[aC]at hc
  |cons at' l=>
   cases us with
   |nil=>exact hr.elim
   |cons u us=>
    simp only[aC]at hc;split at hc
    ·rename_i y hy;have hc:=B6 hc;simp only[A8]at hc;obtain⟨rfl,rfl⟩:=hc;simp only[bP,A8]at ho;obtain⟨o1,rfl⟩:=ho;cases hde:(d&&e.isSl)with
     |false=>
      rw[hde]at o1;have hk:(∃ d0,SV.av at'=.av (.nils d0))\/(∃ id,SV.av at'=.av (.own id))\/∃ id o n,SV.av at'=.av (.view id o n):=by cases at'<;>simp[fu]at o1 ⊢
      have hnv:∀ τ x,at'≠.val τ x:=by intro τ x e;subst e;simp[fu]at o1
      have hsv:aV m.G (.slice e) (.av at')=some y:=by cases at'<;>simp[fu]at o1<;>exact hy
      obtain⟨g1,g2,g3⟩:=nu hi hsv ((aw hnv).2 hr.1) hk;have g1:HdrW m.w m.F u e y:=g1;have hown:k6 m.w m.F d e u y:=by
       cases e with
       |slice σ=>
        cases d with
        |true=>simp[Ty.isSl]at hde
        |false=>exact g1
       |_=>exact g1
      refine⟨[u],us,[at'],by rw[L3,cv (bK g1)];rfl,rfl,rfl,⟨u,rfl,hown⟩,hr.2,?_,λ_=>by simp[aW,cP]⟩;rintro b ⟨u',hu',hb⟩;simp only[aW,RO]at hu';subst hu';obtain⟨id,o,k1,k2,k3,k4⟩:=g2 b hb;refine⟨id,o,?_,k2,k3,k4⟩;simp only[SJ,List.flatMap_nil,RN];have:atomIds at'=[id]:=k1;rw[this];simp
     |true=>
      rw[hde]at o1;simp only[np]at hde;obtain⟨rfl,hsl⟩:=hde;cases e with
      |slice σ=>
       cases at' with
       |nils=>
        simp only[aL,bd]at hy;subst hy;obtain⟨ad,rfl,_⟩:=hr.1;have hnb:∀ b,¬HB (.slice ad 0 0) b:=λb hb=>by cases ad<;>simp[HB,HB1]at hb
        have hd:DeepW m.w m.F (.slice ad 0 0) [] σ [] none:=⟨rfl,⟨ad,0,rfl,by simp,by unfold maxLen;omega,λh=>absurd rfl h⟩,by intro i hi;simp at hi,(by intro i v hi;cases hi),RI _ _⟩;refine⟨[.tuple [.slice ad 0 0].toArray],us,[.nils _],rfl,rfl,rfl,⟨_,rfl,_,[],rfl,hd⟩,hr.2,?_,λ_=>by simp[aW,cP]⟩;rintro b ⟨u',hu',hb⟩;simp only[aW,RO]at hu';subst hu';obtain⟨v,hv,hb⟩:=(ct hd.one).1 hb;simp only[RO]at hv;subst hv;exact absurd hb (hnb b)
       |ownd id=>
        obtain⟨_,ob,hob,hv⟩:=hr.1;simp only[aL]at hy;rw[hob]at hy;cases ob with
        |deep ver τ l' hole=>
         cases hole with
         |some _=>simp at hy
         |none=>
          simp only at hy;obtain⟨e',hy⟩:=aH hy;simp only[Ty.slice.injEq]at e';subst e';subst hy
          obtain⟨vs,v1,v2⟩:=hv;obtain⟨u',hs,d1,d2⟩:=cK hi hob;rw[d1]at v1;simp only[Value.tuple.injEq]at v1;subst v1;simp only[B9,B5,bd]at v2;subst v2;refine⟨[.tuple (u'::hs).toArray],us,[.ownd id],by simp[aU],rfl,rfl,⟨_,rfl,_,hs,rfl,d2⟩,hr.2,?_,λ_=>by simp[aW,cP]⟩;rintro b ⟨u2,hu2,hb⟩;simp only[aW,RO]at hu2;subst hu2;exact⟨id,_,by simp[atomIds],hob,rfl,by rw[d1];exact hb⟩
        |_=>simp at hy
       |_=>simp[fu]at o1
      |_=>simp[Ty.isSl]at hsl
    simp at hc
 |.int k,us,l,rest,rest',x,hr,hc,ho=>by obtain⟨c,us',h1,h2,h3,h4,h5,h6⟩:=lk (d:=d) hi (τ:=.int k) hr hc (by intro l;cases l<;>rfl) (by simp) ho;exact⟨c,us',h1,h2,h3,h4,h5,h6,by rintro b ⟨u,hu,_⟩;simp[aW]at hu,λ_=>Se⟩
 |.bool,us,l,rest,rest',x,hr,hc,ho=>by obtain⟨c,us',h1,h2,h3,h4,h5,h6⟩:=lk (d:=d) hi (τ:=.bool) hr hc (by intro l;cases l<;>rfl) (by simp) ho;exact⟨c,us',h1,h2,h3,h4,h5,h6,by rintro b ⟨u,hu,_⟩;simp[aW]at hu,λ_=>Se⟩
 |.str,us,l,rest,rest',x,hr,hc,ho=>by obtain⟨c,us',h1,h2,h3,h4,h5,h6⟩:=lk (d:=d) hi (τ:=.str) hr hc (by intro l;cases l<;>rfl) (by simp) ho;exact⟨c,us',h1,h2,h3,h4,h5,h6,by rintro b ⟨u,hu,_⟩;simp[aW]at hu,λ_=>Se⟩
 |.arr _ _,_,_,_,_,_,_,_,ho=>by simp[bP]at ho
 |.ptr _,_,_,_,_,_,_,_,ho=>by simp[bP]at ho
 |.clo g e,us,l,rest,rest',x,hr,hc,ho=>by
  cases e with
  |unit=>
   cases l with
   |nil=>simp[aC]at hc
   |cons at' l=>
    cases us with
    |nil=>exact hr.elim
    |cons u us=>
     simp only[aC]at hc;split at hc
     ·rename_i y hy;obtain⟨e1,e2⟩:=Prod.mk.inj (B6 hc);subst e2;subst e1;simp only[bP,A8,true_and]at ho;subst ho;have key:Rd m.w m.F (.clo g .unit) [u] y:=by obtain⟨vs,k1,k2⟩:=cN hi hy hr.1;exact⟨vs,k1,k2⟩
      exact⟨[u],us,[at'],by rw[bB key];rfl,rfl,rfl,key,hr.2,by rintro b ⟨u,hu,_⟩;simp[aW]at hu,λ_=>by simp[aW,cP]⟩
     simp at hc
  |_=>simp[bP]at ho
end
end Go.Vm

/-
 A function's contract, from its body: the beginning.
-/
namespace Go.Vm
section
variable {P:Program}{C:Ctx}{w:World}{F:Nat->Prop}
theorem getElem?_sub{α:Type}{u:α}{us:List α}{i k:Nat}(h:k+1<=i):(u::us)[i-k]?=us[i-(k+1)]?:=by
 have:i-k=(i-(k+1))+1:=by omega
 rw[this];rfl
theorem nq{u:Value}{e:Ty}{l:List e.den}(h:HdrW w F u e l):u.oneCell'=true:=by obtain⟨ad,cap,rfl,_⟩:=h;rfl
structure ObjT (w:World)(F:Nat->Prop)(u:Value)(o:Obj):Prop where
 rel:∀(m:Mem) (i:Nat),m.w=w->m.F=F->m.ι i=aU u->dm m i o
 obj:isObj o=true
 deep:isDeep o=false
 hb:∀ b,HB (aU u) b->HB u b
 one:(aU u).oneCell'=true
theorem ObjT.arr{u:Value}{e:Ty}{l:List e.den}(h:HdrW w F u e l):ObjT w F u (.arr e l):=by have hs:=cv (nq h);refine⟨λm i h1 h2 h3=>?_,rfl,rfl,λb hb=>by rwa[hs]at hb,by rw[hs];exact nq h⟩;show HdrW m.w m.F (m.ι i) e l;rw[h1,h2,h3,hs];exact h
theorem ObjT.box{u:Value}{k:List Nat}{T:Ty}{x:T.den}(h:Hv w F k T u x):ObjT w F u (.box (List.replicate T.size .u)):=by
 obtain⟨b,c,el,cs,k1,k2,k3,k4,k5⟩:=h;have hs:aU u=.pointer (some ⟨b,0,none⟩):=by rw[k1,cO]
 have hlen:c.toList.length=T.size:=by rw[k3,List.length_map,k4.len]
 refine⟨λm i h1 h2 h3=>⟨b,c,el,by rw[h3,hs],by rw[h1];exact k2,by rw[k3];exact k4.one,by rw[<- hlen];exact ls _⟩,rfl,rfl,λbl hb=>?_,by rw[hs];rfl⟩;rw[hs]at hb;rw[k1];exact eP.2 (.inl hb)
def dE:List (Mode×Ty)->List Value->List Value
 |(.rd,_)::r,_::us=>dE r us
 |(_,_)::r,u::us=>aU u::dE r us
 |_,_=>[]
theorem bF:∀{ins:List (Mode×Ty)} {us:List Value} {x:(aa (ins.map (·.2))).den} (k:Nat),ArgsRd w F ins us x->∀ i o,(bi ins k x).get i=some o ->
  k<=i/\∃ u,us[i-k]?=some u/\u∈aG ins us/\aU u∈dE ins us/\ObjT w F u o
 |[],[],_,_,_,i,o,h=>by simp[bi,Heap.get_nil0,Heap.get_pair]at h
 |[],_::_,_,_,h,_,_,_=>h.elim
 |_::_,[],_,_,h,_,_,_=>h.elim
 |(.rd,τ)::r,u::us,x,k,h,i,o,hg=>by obtain⟨h1,v,h2,h3,h4,h5⟩:=bF (ins:=r) (us:=us) (x:=x.2) (k+1) h.2 i o hg;exact⟨by omega,v,by rw[getElem?_sub h1];exact h2,h3,h4,h5⟩
 |(.upd,τ)::r,u::us,x,k,h,i,o,hg=>by
  cases τ with
  |slice e=>
   simp only[bi]at hg;rw[Heap.get_cons]at hg;split at hg
   ·rename_i e0;subst e0;simp only[bd]at hg;subst hg;exact⟨B2 _,u,by simp,by simp[aG],by simp[dE],.arr h.1⟩
   obtain⟨h1,v,h2,h3,h4,h5⟩:=bF (ins:=r) (us:=us) (x:=x.2) (k+1) h.2 i o hg;exact⟨by omega,v,by rw[getElem?_sub h1];exact h2,by simp[aG,h3],by simp[dE,h4],h5⟩
  |_=>exact(h.1).elim
 |(.take,τ)::r,u::us,x,k,h,i,o,hg=>by
  cases τ with
  |slice e=>
   simp only[bi]at hg;rw[Heap.get_cons]at hg;split at hg
   ·rename_i e0;subst e0;simp only[bd]at hg;subst hg;exact⟨B2 _,u,by simp,by simp[aG],by simp[dE],.arr h.1⟩
   obtain⟨h1,v,h2,h3,h4,h5⟩:=bF (ins:=r) (us:=us) (x:=x.2) (k+1) h.2 i o hg;exact⟨by omega,v,by rw[getElem?_sub h1];exact h2,by simp[aG,h3],by simp[dE,h4],h5⟩
  |_=>exact(h.1).elim
 |(.box kd,τ)::r,u::us,x,k,h,i,o,hg=>by
  cases τ with
  |ptr T=>
   simp only[bi]at hg;rw[Heap.get_cons]at hg;split at hg
   ·rename_i e0;subst e0;simp only[bd]at hg;subst hg;exact⟨B2 _,u,by simp,by simp[aG],by simp[dE],.box h.1⟩
   obtain⟨h1,v,h2,h3,h4,h5⟩:=bF (ins:=r) (us:=us) (x:=x.2) (k+1) h.2 i o hg;exact⟨by omega,v,by rw[getElem?_sub h1];exact h2,by simp[aG,h3],by simp[dE,h4],h5⟩
  |_=>exact(h.1).elim
theorem iD:∀{ins:List (Mode×Ty)} {us:List Value} {x:(aa (ins.map (·.2))).den} (k:Nat),ArgsRd w F ins us x->cP (aG ins us)->∀ i j o p b u v,(bi ins k x).get i=some o->(bi ins k x).get j=some p ->
  us[i-k]?=some u->us[j-k]?=some v->HB u b->HB v b->i=j
 |[],[],_,_,_,_,i,_,o,_,_,_,_,h,_,_,_,_,_=>by simp[bi,Heap.get_nil0,Heap.get_pair]at h
 |[],_::_,_,_,h,_,_,_,_,_,_,_,_,_,_,_,_,_,_=>h.elim
 |_::_,[],_,_,h,_,_,_,_,_,_,_,_,_,_,_,_,_,_=>h.elim
 |(.rd,τ)::r,u0::us,x,k,h,ha,i,j,o,p,b,u,v,hi,hj,hu,hv,hb,hb'=>by obtain⟨h1,_⟩:=bF (ins:=r) (us:=us) (x:=x.2) (k+1) h.2 i o hi;obtain⟨h2,_⟩:=bF (ins:=r) (us:=us) (x:=x.2) (k+1) h.2 j p hj;rw[getElem?_sub h1]at hu;rw[getElem?_sub h2]at hv;exact iD (ins:=r) (us:=us) (x:=x.2) (k+1) h.2 ha i j o p b u v hi hj hu hv hb hb'
 |(.upd,τ)::r,u0::us,x,k,h,ha,i,j,o,p,b,u,v,hi,hj,hu,hv,hb,hb'=>by
  cases τ with
  |slice e=>exact at_cons k h.2 ha i j o p b u v hi hj hu hv hb hb' (iD (ins:=r) (us:=us) (x:=x.2) (k+1) h.2 (L6.1 (show Sv _ (u0::aG r us)from ha)).2)
  |_=>exact(h.1).elim
 |(.take,τ)::r,u0::us,x,k,h,ha,i,j,o,p,b,u,v,hi,hj,hu,hv,hb,hb'=>by
  cases τ with
  |slice e=>exact at_cons k h.2 ha i j o p b u v hi hj hu hv hb hb' (iD (ins:=r) (us:=us) (x:=x.2) (k+1) h.2 (L6.1 (show Sv _ (u0::aG r us)from ha)).2)
  |_=>exact(h.1).elim
 |(.box kd,τ)::r,u0::us,x,k,h,ha,i,j,o,p,b,u,v,hi,hj,hu,hv,hb,hb'=>by
  cases τ with
  |ptr T=>exact at_cons k h.2 ha i j o p b u v hi hj hu hv hb hb' (iD (ins:=r) (us:=us) (x:=x.2) (k+1) h.2 (L6.1 (show Sv _ (u0::aG r us)from ha)).2)
  |_=>exact(h.1).elim
where
 at_cons {r:List (Mode×Ty)} {us:List Value} {x:(aa (r.map (·.2))).den} {u0:Value} {o0:Obj} (k:Nat) (h:ArgsRd w F r us x) (ha:cP (u0::aG r us)) (i j:Nat) (o p:Obj) (b:Nat) (u v:Value)
  (hi:Heap.get ((k,o0)::bi r (k+1) x) i=some o) (hj:Heap.get ((k,o0)::bi r (k+1) x) j=some p) (hu:(u0::us)[i-k]?=some u) (hv:(u0::us)[j-k]?=some v) (hb:HB u b) (hb':HB v b)
  (rec:∀ i j o p b u v,(bi r (k+1) x).get i=some o->(bi r (k+1) x).get j=some p->us[i-(k+1)]?=some u->us[j-(k+1)]?=some v->HB u b->HB v b->i=j):i=j:=by
  obtain⟨ha1,ha2⟩:=L6.1 ha;rw[Heap.get_cons]at hi hj;split at hi<;>split at hj
  ·omega
  ·rename_i e0 _;subst e0;obtain⟨h2,v',h3,h4,_⟩:=bF (k+1) h j p hj;rw[getElem?_sub h2,h3]at hv;simp only[bd]at hv;subst hv;simp at hu;subst hu;exact(ha1 _ h4 b hb hb').elim
  ·rename_i _ e0;subst e0;obtain⟨h2,v',h3,h4,_⟩:=bF (k+1) h i o hi;rw[getElem?_sub h2,h3]at hu;simp only[bd]at hu;subst hu;simp at hv;subst hv;exact(ha1 _ h4 b hb' hb).elim
  obtain⟨h1,_⟩:=bF (k+1) h i o hi;obtain⟨h2,_⟩:=bF (k+1) h j p hj;rw[getElem?_sub h1]at hu;rw[getElem?_sub h2]at hv;exact rec i j o p b u v hi hj hu hv hb hb'
theorem la:∀{ins:List (Mode×Ty)} {us:List Value} {x:(aa (ins.map (·.2))).den} (k:Nat),ArgsRd w F ins us x->∀ t,(ep ins k x).get t=.av .u \/
  ∃ u,k<=t/\us[t-k]?=some u/\((∃ τ,∃ y:τ.den,∃ cs,(ep ins k x).get t=.av (.val τ y)/\aU u=toV τ cs/\Rd w F τ cs y)\/((ep ins k x).get t=.av (.own t)/\∃ o,(bi ins k x).get t=some o) \/
   ((ep ins k x).get t=.av (.ptr t 0)/\∃ l,(bi ins k x).get t=some (.box l)))
 |[],[],_,_,_,t=>.inl rfl
 |[],_::_,_,_,h,_=>h.elim
 |_::_,[],_,_,h,_=>h.elim
 |(.rd,τ)::r,u::us,x,k,h,t=>by
  simp only[ep];rw[Env.get_cons];split
  ·rename_i e;subst e;obtain⟨cs,h1,h2⟩:=h.1;exact .inr ⟨u,B2 _,by simp,.inl ⟨τ,x.1,cs,rfl,by rw[h1,ox h2],h2⟩⟩
  rcases la (ins:=r) (us:=us) (x:=x.2) (k+1) h.2 t with h0|⟨v,h1,h2,h3⟩
  ·exact .inl h0
  exact .inr ⟨v,by omega,by rw[getElem?_sub h1];exact h2,h3⟩
 |(.upd,τ)::r,u::us,x,k,h,t=>by
  cases τ with
  |slice e=>
   simp only[ep,bi];rw[Env.get_cons,Heap.get_cons];split
   ·rename_i e0;subst e0;exact .inr ⟨u,B2 _,by simp,.inr (.inl ⟨rfl,_,rfl⟩)⟩
   rcases la (ins:=r) (us:=us) (x:=x.2) (k+1) h.2 t with h0|⟨v,h1,h2,h3⟩
   ·exact .inl h0
   exact .inr ⟨v,by omega,by rw[getElem?_sub h1];exact h2,h3⟩
  |_=>exact(h.1).elim
 |(.take,τ)::r,u::us,x,k,h,t=>by
  cases τ with
  |slice e=>
   simp only[ep,bi];rw[Env.get_cons,Heap.get_cons];split
   ·rename_i e0;subst e0;exact .inr ⟨u,B2 _,by simp,.inr (.inl ⟨rfl,_,rfl⟩)⟩
   rcases la (ins:=r) (us:=us) (x:=x.2) (k+1) h.2 t with h0|⟨v,h1,h2,h3⟩
   ·exact .inl h0
   exact .inr ⟨v,by omega,by rw[getElem?_sub h1];exact h2,h3⟩
  |_=>exact(h.1).elim
 |(.box kd,τ)::r,u::us,x,k,h,t=>by
  cases τ with
  |ptr T=>
   simp only[ep,bi];rw[Env.get_cons,Heap.get_cons];split
   ·rename_i e0;subst e0;exact .inr ⟨u,B2 _,by simp,.inr (.inr ⟨rfl,_,rfl⟩)⟩
   rcases la (ins:=r) (us:=us) (x:=x.2) (k+1) h.2 t with h0|⟨v,h1,h2,h3⟩
   ·exact .inl h0
   exact .inr ⟨v,by omega,by rw[getElem?_sub h1];exact h2,h3⟩
  |_=>exact(h.1).elim
theorem fh:∀{ins:List (Mode×Ty)} {us:List Value} {x:(aa (ins.map (·.2))).den},ArgsRd w F ins us x->MutsRd w F ins us (kA ins x)
 |[],_,_,_=>trivial
 |(md,τ)::r,[],_,h=>h.elim
 |(.rd,τ)::r,u::us,x,h=>fh (ins:=r) (us:=us) (x:=x.2) h.2
 |(.take,τ)::r,u::us,x,h=>fh (ins:=r) (us:=us) (x:=x.2) h.2
 |(.upd,τ)::r,u::us,x,h=>by
  cases τ with
  |slice e=>exact⟨h.1,fh (ins:=r) (us:=us) (x:=x.2) h.2⟩
  |_=>exact h.1.elim
 |(.box k,τ)::r,u::us,x,h=>by
  cases τ with
  |ptr T=>exact⟨h.1,fh (ins:=r) (us:=us) (x:=x.2) h.2⟩
  |_=>exact h.1.elim
theorem mut_sub:∀{ins:List (Mode×Ty)} {us:List Value},(bp ins us).Sublist (aG ins us)
 |[],us=>by cases us<;>exact Tk _
 |(md,τ)::r,[]=>by cases md<;>exact Tk _
 |(.rd,τ)::r,u::us=>mut_sub (ins:=r) (us:=us)
 |(.take,τ)::r,u::us=>(mut_sub (ins:=r) (us:=us)).cons u
 |(.upd,τ)::r,u::us=>(mut_sub (ins:=r) (us:=us)).cons_cons u
 |(.box k,τ)::r,u::us=>(mut_sub (ins:=r) (us:=us)).cons_cons u
theorem iO:∀{ins:List (Mode×Ty)} {us:List Value} {x:(aa (ins.map (·.2))).den},ArgsRd w F ins us x->∀{b:Nat},di (dE ins us) b->di (aG ins us) b
 |[],us,_,_,b,h=>by obtain⟨u,hu,_⟩:=h;cases us<;>simp[dE]at hu
 |(md,τ)::r,[],_,h,b,_=>h.elim
 |(.rd,_)::r,_::us,x,h,b,ha=>iO (ins:=r) (us:=us) (x:=x.2) h.2 ha
 |(.take,τ)::r,u::us,x,h,b,ha=>by
  obtain⟨v,hv,hb⟩:=ha;rcases A6.1 (show v∈aU u::dE r us from hv)with rfl|hv
  ·refine⟨u,by simp[aG],?_⟩;cases τ with
   |slice e=>exact(ObjT.arr h.1).hb b hb
   |_=>exact h.1.elim
  obtain⟨v',hv',hb'⟩:=iO (ins:=r) (us:=us) (x:=x.2) h.2 ⟨v,hv,hb⟩;exact⟨v',by simp[aG,hv'],hb'⟩
 |(.upd,τ)::r,u::us,x,h,b,ha=>by
  obtain⟨v,hv,hb⟩:=ha;rcases A6.1 (show v∈aU u::dE r us from hv)with rfl|hv
  ·refine⟨u,by simp[aG],?_⟩;cases τ with
   |slice e=>exact(ObjT.arr h.1).hb b hb
   |_=>exact h.1.elim
  obtain⟨v',hv',hb'⟩:=iO (ins:=r) (us:=us) (x:=x.2) h.2 ⟨v,hv,hb⟩;exact⟨v',by simp[aG,hv'],hb'⟩
 |(.box k,τ)::r,u::us,x,h,b,ha=>by
  obtain⟨v,hv,hb⟩:=ha;rcases A6.1 (show v∈aU u::dE r us from hv)with rfl|hv
  ·refine⟨u,by simp[aG],?_⟩;cases τ with
   |ptr T=>exact(ObjT.box h.1).hb b hb
   |_=>exact h.1.elim
  obtain⟨v',hv',hb'⟩:=iO (ins:=r) (us:=us) (x:=x.2) h.2 ⟨v,hv,hb⟩;exact⟨v',by simp[aG,hv'],hb'⟩
theorem wO{u:Value}(h:u.oneCell'=true){b:Nat}:¬HB (.tuple (fq u).tail.toArray) b:=by rintro⟨w1,hw1,_⟩;cases u<;>simp_all[fq,Value.oneCell']
theorem fo:∀{ins:List (Mode×Ty)} {us:List Value} {x:(aa (ins.map (·.2))).den},ArgsRd w F ins us x->cP (aG ins us)->∀ u∈aG ins us,∀ b,HB (.tuple (fq u).tail.toArray) b->¬di (dE ins us) b
 |[],us,_,_,_,u,hu,_,_=>by cases us<;>simp[aG]at hu
 |(md,τ)::r,[],_,h,_,_,_,_,_=>h.elim
 |(.rd,_)::r,_::us,x,h,hp,u,hu,b,hb=>fo (ins:=r) (us:=us) (x:=x.2) h.2 hp u hu b hb
 |(.upd,τ)::r,u0::us,x,h,hp,u,hu,b,hb=>by
  cases τ with
  |slice e=>exact one_cons (nq h.1) h.2 hp u hu b hb (fo (ins:=r) (us:=us) (x:=x.2) h.2 (L6.1 (show Sv _ (u0::aG r us)from hp)).2)
  |_=>exact h.1.elim
 |(.take,τ)::r,u0::us,x,h,hp,u,hu,b,hb=>by
  cases τ with
  |slice e=>exact one_cons (nq h.1) h.2 hp u hu b hb (fo (ins:=r) (us:=us) (x:=x.2) h.2 (L6.1 (show Sv _ (u0::aG r us)from hp)).2)
  |_=>exact h.1.elim
 |(.box k,τ)::r,u0::us,x,h,hp,u,hu,b,hb=>by
  cases τ with
  |ptr T=>
   obtain⟨hp1,hp2⟩:=L6.1 (show Sv _ (u0::aG r us)from hp);obtain⟨⟨bl,c,el,cs,k1,k2,k3,k4,k5⟩,h2⟩:=h;rcases A6.1 (show u∈u0::aG r us from hu)with rfl|hu1
   ·rintro⟨z,hz,hzb⟩;rcases A6.1 (show z∈aU u::dE r us from hz)with rfl|hz
    ·rw[k1,cO]at hzb;obtain⟨w1,hw1,hw2⟩:=hb;rw[k1]at hw1;simp only[jv,fq,List.tail_cons,SD]at hw1;obtain⟨v,hv,hv2⟩:=hw1;exact(L6.1 k5).1 v hv b hzb (jO.2 ⟨w1,hv2,hw2⟩)
    obtain⟨u2,hu2,hb2⟩:=iO h2 ⟨z,hz,hzb⟩;exact hp1 u2 hu2 b (gJ hb) hb2
   rintro⟨z,hz,hzb⟩;rcases A6.1 (show z∈aU u0::dE r us from hz)with rfl|hz
   ·rw[k1,cO]at hzb;exact hp1 u hu1 b (by rw[k1];exact eP.2 (.inl hzb)) (gJ hb)
   exact fo (ins:=r) (us:=us) (x:=x.2) h2 hp2 u hu1 b hb ⟨z,hz,hzb⟩
  |_=>exact h.1.elim
where
 one_cons {r:List (Mode×Ty)} {us:List Value} {x:(aa (r.map (·.2))).den} {u0:Value} (h1:u0.oneCell'=true) (h:ArgsRd w F r us x) (hp:cP (u0::aG r us)) (u:Value) (hu:u∈u0::aG r us) (b:Nat) (hb:HB (.tuple (fq u).tail.toArray) b)
  (rec:∀ u∈aG r us,∀ b,HB (.tuple (fq u).tail.toArray) b->¬di (dE r us) b):¬di (aU u0::dE r us) b:=by
  obtain⟨hp1,hp2⟩:=L6.1 hp;rcases A6.1 hu with rfl|hu1
  ·exact absurd hb (wO h1)
  rintro⟨z,hz,hzb⟩;rcases A6.1 hz with rfl|hz
  ·rw[cv h1]at hzb;exact hp1 u hu1 b hzb (gJ hb)
  exact rec u hu1 b hb ⟨z,hz,hzb⟩
theorem C6{m:Mem}{ins:List (Mode×Ty)}{us:List Value}{x:(aa (ins.map (·.2))).den}:∀(k:Nat),ArgsRd w F ins us x->(∀ i o,(bi ins k x).get i=some o->m.G.get i=some o)->(∀ i u,us[i]?=some u->m.ι (k+i)=aU u)->BoxLive m ins us (qs ins k):=by
 induction ins generalizing us with
 |nil=>intro k h _ _;cases us<;>trivial
 |cons p r ih=>
  obtain⟨md,τ⟩:=p;intro k h hG hι;cases us with
  |nil=>exact h.elim
  |cons u us=>
   have hι':∀ i u,us[i]?=some u->m.ι (k+1+i)=aU u:=λi u hu=>by have:=hι (i+1) u (by simpa using hu);rwa[show k+(i+1)=k+1+i by omega]at this
   cases md with
   |rd=>exact ih (x:=x.2) (k+1) h.2 hG hι'
   |upd=>
    cases τ with
    |slice e=>refine ih (x:=x.2) (k+1) h.2 (λi o ho=>hG i o ?_) hι';obtain⟨h1,_⟩:=bF (k+1) h.2 i o ho;show Heap.get ((k,_)::bi r (k+1) x.2) i=_;rw[Heap.get_cons,if_neg (by omega)];exact ho
    |_=>exact h.1.elim
   |take=>
    cases τ with
    |slice e=>refine ih (x:=x.2) (k+1) h.2 (λi o ho=>hG i o ?_) hι';obtain⟨h1,_⟩:=bF (k+1) h.2 i o ho;show Heap.get ((k,_)::bi r (k+1) x.2) i=_;rw[Heap.get_cons,if_neg (by omega)];exact ho
    |_=>exact h.1.elim
   |box kd=>
    cases τ with
    |ptr T=>
     refine⟨λid o he=>?_,ih (x:=x.2) (k+1) h.2 (λi o ho=>hG i o ?_) hι'⟩
     ·simp only[SV.av.injEq,Atom.ptr.injEq]at he;obtain⟨rfl,rfl⟩:=he;exact⟨_,hG k _ (by show Heap.get ((k,_)::bi r (k+1) x.2) k=_;rw[Heap.get_cons,if_pos rfl]),by have:=hι 0 u rfl;simpa using this⟩
     obtain⟨h1,_⟩:=bF (k+1) h.2 i o ho;show Heap.get ((k,_)::bi r (k+1) x.2) i=_;rw[Heap.get_cons,if_neg (by omega)];exact ho
    |_=>exact h.1.elim
end
end Go.Vm

/-
 A function's contract, from its body: the end.
-/
namespace Go.Vm
section
variable {P:Program}{C:Ctx}{w0:World}{M:Own}{N:Nat}{A:Anns}{a:Act}{m:Mem}{s:St}
theorem mF:∀{τ:Ty},τ.plain=true->∀ cs,aW τ cs=[]
 |.prod a b,h,cs=>by simp only[Ty.plain,np]at h;simp[aW,mF h.1,mF h.2]
 |.int _,_,_=>rfl
 |.bool,_,_=>rfl
 |.str,_,_=>rfl
 |.unit,_,_=>rfl
 |.slice _,h,_=>by simp[Ty.plain]at h
 |.arr _ _,_,_=>rfl
 |.ptr _,h,_=>by simp[Ty.plain]at h
 |.clo _ _,_,_=>rfl
theorem oJ{w:World}{F F':Nat->Prop}{d:Bool}:∀{τ:Ty} {cs:List Value} {x:τ.den},τ.plain=true->Rd w F τ cs x->OwnRd w F' d τ cs x
 |.prod a b,_,_,hf,h=>by simp only[Ty.plain,np]at hf;obtain⟨c1,c2,h1,h2,h3⟩:=h;exact⟨c1,c2,h1,oJ hf.1 h2,oJ hf.2 h3⟩
 |.int _,_,_,_,h=>h
 |.bool,_,_,_,h=>h
 |.str,_,_,_,h=>h
 |.unit,_,_,_,h=>h
 |.slice _,_,_,hf,_=>by simp[Ty.plain]at hf
 |.arr _ _,_,_,hf,_=>by simp[Ty.plain]at hf
 |.ptr _,_,_,hf,_=>by simp[Ty.plain]at hf
 |.clo _ _,_,_,hf,_=>by simp[Ty.plain]at hf
theorem o8(k:List Nat):∀(o:Nat) (l:List Atom),(ce true k o l).Sublist (l.flatMap atomIds)
 |_,[]=>.slnil
 |o,a::l=>by
  simp only[ce,SJ,UA,UB];refine UL ?_ (o8 k (o+1) l);cases A3 (dU k o) 0 with
  |true=>exact List.nil_sublist _
  |false=>exact Tk _
theorem my:∀{l r:List Nat},l.Sublist r->aM r=true->aM l=true
 |_,_,.slnil,_=>rfl
 |_,_,.cons a h,hn=>by simp only[aM,np]at hn;exact my h hn.2
 |_,_,.cons_cons a h,hn=>by simp only[aM,np,L7,Sa]at hn ⊢;exact⟨λx hx=>hn.1 x (h.subset hx),my h hn.2⟩
theorem J2 {d:Bool}(hi:Inv C w0 M m){τ : Ty}{sv:SV}{u:Value}{x : τ.den}(hr:RelSV m u sv)(hx:aV m.G τ sv=some x)(ho:wb d m.G τ sv=true)(hn:aM (dc m.G sv)=true) :
  ∃ cs,u=toV τ (cs.map aU)/\OwnRd m.w m.F d τ cs x/\HdrsOf m (aW τ cs) (dc m.G sv):=by
 have cells {us:List Value} {l:List Atom} (h1:Rel2 (ak m) us l) (h2:aC m.G τ l=some (x,[])) (h3:(bP d τ l).1=true):∃ c,us=c.map aU/\OwnRd m.w m.F d τ c x/\HdrsOf m (aW τ c) (l.flatMap atomIds):=by
  obtain⟨c,us',lc,a1,a2,a3,a4,a5,a6,a7⟩:=om hi (rest':=(bP d τ l).2) h1 h2 (by rw[<- h3]);match us',a5 with
  |[],_=>rw[RN]at a1 a2;subst a2;exact⟨c,a1,a4,a6,a7⟩
 cases sv with
 |tup l=>simp[aV]at hx
 |agg l=>
  obtain⟨us,h1,h2,h3⟩:=hr;simp only[aV]at hx;cases ha:τ.isAgg with
  |false=>rw[ha]at hx;simp at hx
  |true=>
   rw[ha]at hx;simp only[UA]at hx;split at hx
   ·rename_i y hc;have hx:=B6 hx;subst hx;obtain⟨c,k0,k1,k2⟩:=cells h3 hc ho;exact⟨c,by rw[h1,k0];simp[toV,ha],k1,k2⟩
   simp at hx
 |av at'=>
  cases at' with
  |val σ y=>obtain⟨e,hy⟩:=aH hx;subst e;subst hy;obtain⟨cs,h1,h2⟩:=hr;have hp:σ.plain=true:=ho;exact⟨cs,by rw[bB h2];exact h1,oJ hp h2,by rw[mF hp];exact HdrsOf.nil _ _⟩
  |ptr i o=>
   cases τ with
   |ptr T=>
    cases o with
    |succ o=>simp[wb,bP]at ho
    |zero=>
     simp only[aV]at hx;simp only[wb]at ho;have hr':=(aw (m:=m) (v:=u) (by intros;simp)).1 hr;split at ho
     ·rename_i T' l e1 hl;simp only[Ty.ptr.injEq]at e1;subst e1;simp only[np,List.isEmpty_iff]at ho;obtain⟨⟨o1,o2⟩,o3⟩:=ho;simp only[jm,hl]at hx;cases hc1:RD (0+T.size) l.length with
      |false=>rw[hc1]at hx;simp at hx
      |true=>
       rw[hc1]at hx;simp only[UA,List.drop_zero]at hx;split at hx
       ·rename_i x1' rest hc;have hx1:=B6 hx;subst hx1;have e2:cF false (dD d T) m.G (.av (.ptr i 0))=[]:=by simp[cF,hl,o3]
        have e3:cF true (dD d T) m.G (.av (.ptr i 0))=i::ce true (dD d T) 0 l:=by simp[cF,hl]
        have e4:dc m.G (.av (.ptr i 0))=i::l.flatMap atomIds:=by simp[dc,iJ,hl]
        have hsub:(i::ce true (dD d T) 0 l).Sublist (i::l.flatMap atomIds):=(o8 (dD d T) 0 l).cons_cons i;rw[e4]at hn ⊢;obtain⟨t,t1,t2,t3,_⟩:=qK hi (k:=dD d T) (Fr:=m.F) (λ_ h=>h) hl hr' hc (show iq (dD d T) 0 T l=(true,[]) by rw[<- o1,<- o2]) (.inr rfl) (by rw[e3];exact my hsub hn) (by
         rw[e2];rintro b (hb|⟨j,hj,_⟩)
         ·exact hb
         cases hj)
        refine⟨[t],?_,⟨t,rfl,t2⟩,?_,λ_=>RI _ _⟩
        ·rw[L3,t1];simp[toV,Ty.isAgg]
        intro b hb;obtain⟨id,ob,k1,k2⟩:=t3.1 b hb;rw[e3]at k1;exact⟨id,ob,hsub.subset k1,k2⟩
       simp at hx
     cases ho
   |_=>simp[aV]at hx
  |clo f c=>
   cases τ<;>simp only[aV]at hx<;>try (simp at hx;done)
   simp[wb]at ho
  |_=>
   have hr':=(aw (m:=m) (v:=u) (by intros;simp)).1 hr;simp only[aV]at hx;cases ha:τ.isAgg with
   |true=>rw[ha]at hx;simp at hx
   |false=>
    rw[ha]at hx;simp only[UB]at hx;have hc:∀ a',aL m.G τ a'=some x->(bP d τ [a']).1=true->aC m.G τ [a']=some (x,[]):=by
     intro a' h1 h2;cases τ with
     |clo g e=>cases e<;>first
      |(simp[bP]at h2;done)
      |(simp only[aC,h1];done)
     |_=>first
      |(simp[bP]at h2;done)
      |(simp only[aC,h1];done)
      |simp[Ty.isAgg]at ha
    obtain⟨c,k0,k1,k2⟩:=cells (us:=[u]) (l:=[_]) ⟨hr',trivial⟩ (hc _ hx ho) ho;refine⟨c,by rw[<- k0];exact(mL ha u).symm,k1,?_⟩;simpa[dc,bV]using k2
theorem vQ {d:Bool}(hi:Inv C w0 M m)(hG:m.G=s.G){m2:Mem}(hw:m2.w=m.w)(hF:∀ b,m.F b->m2.F b):∀{outs:lY} {us:List Value} {x:(aa ((outs.map (·.2)).map (·.2))).den},NQ m s outs us x->ip d s outs=true->aM (aY s true outs)=true ->
  (∀ b,Thru m (aY s false outs) b->m2.F b) ->
  ∃ css,us=jY (outs.map (·.2)) css/\OutsRd m2.w m2.F d (outs.map (·.2)) css x/\HdrsOf m (cn (outs.map (·.2)) css) (aY s true outs)
 |[],[],_,_,_,_,_=>⟨[],rfl,trivial,HdrsOf.nil _ _⟩
 |[],_::_,_,h,_,_,_=>h.elim
 |_::_,[],_,h,_,_,_=>h.elim
 |(v,b,τ)::r,u::us,x,h,ho,hno,hT=>by
  obtain⟨⟨sv,h1,h2,h3⟩,h4⟩:=h;simp only[ip,np]at ho;obtain⟨ho1,ho2⟩:=ho;have hFF:∀ b,m.F b->m2.F b/\m2.w.heap[b]?=m.w.heap[b]?:=λb hb=>⟨hF b hb,by rw[hw]⟩;obtain⟨css,k1,k2,k3⟩:=vQ hi hG hw hF h4 ho2 (by unfold aY at hno;exact(bf hno).2.1) (λbl hb=>hT bl (Thru.mono (λi hi=>by simp[aY,hi]) hb));cases b with
  |true=>
   simp only[UA,h1]at ho1;have e0:aY s true ((v,true,τ)::r)=dc m.G sv++aY s true r:=by simp[aY,h1,hG]
   rw[e0]at hno;obtain⟨cs,c1,c2,c3⟩:=J2 hi h2 (hG▸h3) (hG▸ho1) (bf hno).1;refine⟨cs::css,by simp only[L3,jY,UA];rw[<- c1,<- k1],⟨c2.mono hFF (λ_ _ _ _=>by rw[hw]),k2⟩,?_⟩;have e:aY s true ((v,true,τ)::r)=dc m.G sv++aY s true r:=by simp[aY,h1,hG]
   rw[e];exact c3.append hi k3
  |false=>
   obtain⟨cs,c1,c2⟩:=dw hi (hG▸h3) h2;refine⟨cs::css,by simp only[L3,jY,UB];rw[<- c1,<- k1],⟨c2.mono λbl hb=>⟨hT bl (Thru.mono (λi hi=>by simp[aY,h1];exact .inl (hG▸hi)) hb),by rw[hw]⟩,k2⟩,?_⟩;have e:aY s true ((v,false,τ)::r)=aY s true r:=by simp[aY,h1]
   rw[e];simpa[cn]using k3
end
end Go.Vm

/-
 A function's contract, from its body.
-/
namespace Go.Vm
section
variable {P:Program}{C:Ctx}{w0:World}{M:Own}{N:Nat}{A:Anns}{a:Act}{m:Mem}{s:St}
def dL(ins:List (Mode×Ty))(us:List Value)(i:Nat):Option Value:=match ins[i]? with
 |some (.upd,_)=>(us[i]?).map aU
 |some (.box _,_)=>(us[i]?).map aU
 |_=>none
def Jy:Mode->Bool
 |.upd=>true
 |.box _=>true
 |_=>false
theorem Hb{ins:List (Mode×Ty)}{us:List Value}{i:Nat}{md:Mode}{τ:Ty}{u:Value}(h:ins[i]?=some (md,τ))(hm:Jy md=true)(hu:us[i]?=some u):dL ins us i=some (aU u):=by unfold dL;rw[h];cases md<;>simp_all[Jy]
theorem lw (hi:Inv C w0 M m)(hG:m.G=s.G){m2:Mem}(hw:m2.w=m.w)(hF:∀ b,m.F b->m2.F b):∀{ins:List (Mode×Ty)} {us:List Value} {x:(aa (ins.map (·.2))).den} {y:(aa (aS ins)).den} {w1:World} {F1:Nat->Prop} (k:Nat),ArgsRd w1 F1 ins us x->cI s ins k=some y->aM (cl true s.G ins k)=true ->
  (∀ b,Thru m (cl false s.G ins k) b->m2.F b) ->
  (∀ j u md τ,ins[j]?=some (md,τ)->Jy md=true->us[j]?=some u->∀ o,m.G.get (k+j)=some o->isObj o=true->m.ι (k+j)=aU u) ->
  ∃ us',k9 ins us us'/\MutsRd m2.w m2.F ins us' y/\HdrsOf m (bp ins us') (cl true s.G ins k)
 |[],[],x,y,w1,F1,k,_,_,_,_,_=>⟨[],trivial,trivial,HdrsOf.nil _ _⟩
 |[],_::_,_,_,_,_,_,h,_,_,_,_=>h.elim
 |_::_,[],_,_,_,_,_,h,_,_,_,_=>h.elim
 |(.rd,τ)::r,u::us,x,y,w1,F1,k,ha,h,hn,hT,hp=>by obtain⟨us',h1,h2,h3⟩:=lw hi hG hw hF (ins:=r) (us:=us) (y:=y) (k+1) ha.2 h hn hT (λj u md τ hj hm hu o ho hob=>by have:=hp (j+1) u md τ (by simpa using hj) hm (by simpa using hu) o (by rw[show k+(j+1)=k+1+j by omega];exact ho) hob;rw[show k+(j+1)=k+1+j by omega]at this;exact this);exact⟨u::us',⟨rfl,h1⟩,h2,h3⟩
 |(.take,τ)::r,u::us,x,y,w1,F1,k,ha,h,hn,hT,hp=>by obtain⟨us',h1,h2,h3⟩:=lw hi hG hw hF (ins:=r) (us:=us) (y:=y) (k+1) ha.2 h hn hT (λj u md τ hj hm hu o ho hob=>by have:=hp (j+1) u md τ (by simpa using hj) hm (by simpa using hu) o (by rw[show k+(j+1)=k+1+j by omega];exact ho) hob;rw[show k+(j+1)=k+1+j by omega]at this;exact this);exact⟨u::us',⟨rfl,h1⟩,h2,h3⟩
 |(.upd,τ)::r,u::us,x,y,w1,F1,k,ha,h,hn,hT,hp=>by
  cases τ with
  | slice e =>
    cases hg:s.G.get k with
    |none=>simp[cI,hg]at h
    |some ob=>
   cases ob with
   |box _=>simp[cI,hg]at h
   |dead=>simp[cI,hg]at h
   |deep _ _ _ _=>simp[cI,hg]at h
   |map _ _ _=>simp[cI,hg]at h
   |arr σ l=>
   unfold cI at h;rw[hg]at h;dsimp only at h;split at h
   ·rename_i x hx;split at h
    ·rename_i z hz;have h:=B6 h;subst h;obtain⟨he,hx⟩:=aH hx;cases he;subst hx;have e1:cl true s.G ((.upd,.slice e)::r) k=[k]++cl true s.G r (k+1):=rfl;have e2:cl false s.G ((.upd,.slice e)::r) k=cl false s.G r (k+1):=rfl;rw[e1]at hn ⊢;rw[e2]at hT;obtain⟨n1,n2,n3⟩:=bf hn;obtain⟨us',h1,h2,h3⟩:=lw hi hG hw hF (ins:=r) (us:=us) (y:=z) (k+1) ha.2 hz n2 hT (λj u md τ hj hm hu o ho hob=>by have:=hp (j+1) u md τ (by simpa using hj) hm (by simpa using hu) o (by rw[show k+(j+1)=k+1+j by omega];exact ho) hob;rw[show k+(j+1)=k+1+j by omega]at this;exact this);have hι:=hp 0 u .upd _ rfl rfl rfl _ (by rw[R2,hG];exact hg) rfl;rw[R2,cv (nq ha.1)]at hι;have hobj:HdrW m.w m.F u e l:=by have:=hi.objs k _ (hG▸hg);rw[<- hι];exact this
     refine⟨u::us',⟨rfl,h1⟩,⟨hobj.mono (λb hb=>⟨hF b hb,by rw[hw]⟩) (λ_ _=>by rw[hw]),h2⟩,?_⟩;refine HdrsOf.cons hi ⟨?_,λ_=>RI _ _⟩ h3;rintro b ⟨u',hu',hb⟩;simp only[RO]at hu';subst hu';exact⟨k,_,by simp,hG▸hg,rfl,by rw[hι];exact hb⟩
    simp at h
   simp at h
  |_=>simp[cI]at h
 |(.box kd,τ)::r,u::us,x,y,w1,F1,k,ha,h,hn,hT,hp=>by
  cases τ with
  | ptr T =>
    cases hg:s.G.get k with
    |none=>simp[cI,hg]at h
    |some ob=>
   cases ob with
   |arr _ _=>simp[cI,hg]at h
   |dead=>simp[cI,hg]at h
   |deep _ _ _ _=>simp[cI,hg]at h
   |map _ _ _=>simp[cI,hg]at h
   |box l=>
   unfold cI at h;rw[hg]at h;dsimp only at h;cases ho:(iq kd 0 T l).1 with
   |false=>rw[ho]at h;simp at h
   |true=>
   rw[ho]at h;simp only[UA]at h;split at h
   ·rename_i x1 hx;split at h
    ·rename_i z hz;have h:=B6 h;subst h;have e1:cl true s.G ((.box kd,.ptr T)::r) k=cF true kd m.G (.av (.ptr k 0))++cl true s.G r (k+1):=by rw[hG];rfl
     have e2:cl false s.G ((.box kd,.ptr T)::r) k=cF false kd m.G (.av (.ptr k 0))++cl false s.G r (k+1):=by rw[hG];rfl
     rw[e1]at hn ⊢;rw[e2]at hT;obtain⟨n1,n2,n3⟩:=bf hn;obtain⟨us',h1,h2,h3⟩:=lw hi hG hw hF (ins:=r) (us:=us) (y:=z) (k+1) ha.2 hz n2 (λb hb=>hT b (Thru.mono (λi hi=>by simp[hi]) hb)) (λj u md τ hj hm hu o ho hob=>by have:=hp (j+1) u md τ (by simpa using hj) hm (by simpa using hu) o (by rw[show k+(j+1)=k+1+j by omega];exact ho) hob;rw[show k+(j+1)=k+1+j by omega]at this;exact this);have hι:=hp 0 u (.box kd) _ rfl rfl rfl _ (by rw[R2,hG];exact hg) rfl;rw[R2]at hι;obtain⟨b,c,el,q1,_⟩:=hi.objs k _ (hG▸hg);have hra:ak m (aU u) (.ptr k 0):=⟨by rw[<- hι,q1];rfl,.box l,hG▸hg,b,q1,by rw[<- hι,q1]⟩;obtain⟨t,t1,t2,t3,_⟩:=qK hi (Fr:=m2.F) hF (hG▸hg) hra (by rw[hG];exact hx) (rest':=(iq kd 0 T l).2) (by rw[<- ho]) (.inl rfl) n1 (λb hb=>hT b (Thru.mono (λi hi=>by simp[hi]) hb));exact⟨t::us',⟨t1,h1⟩,⟨by rw[hw];exact t2,h2⟩,t3.cons hi h3⟩
    simp at h
   simp at h
  |_=>simp[cI]at h
end
end Go.Vm

/-
 A function's contract, from its body: the whole.
-/
namespace Go.Vm
section
variable {P:Program}{C:Ctx}{A:Anns}
theorem jk:∀(outs m:List Ty) (x:(aa outs).den) (y:(aa m).den),dP outs m (kV outs m x y)=(x,y)
 |[],_,_,_=>rfl
 |_::r,m,x,y=>by show((x.1,(dP r m (kV r m x.2 y)).1),(dP r m (kV r m x.2 y)).2)=(x,y);rw[jk r m];rfl
def tA(A:Anns)(ins:List (Mode×Ty)):Bool:=A.all λp=>(fN ins 0).all λi=>(p.2.head.pins.any λj=>A3 i j)&&p.2.exits.all λe=>e.2.pins.any λj=>A3 i j
theorem Anns.mem_of_get{A:Anns}{key:Nat}{ann:Ann}(h:A.get key=some ann):∃ k,(k,ann)∈A:=by
 induction A with
 |nil=>simp[Anns.get]at h
 |cons p r ih=>
  obtain⟨k,v⟩:=p;simp only[Anns.get]at h;cases hk:A3 k key with
  |true=>rw[hk]at h;simp at h;subst h;exact⟨k,by simp⟩
  |false=>rw[hk]at h;obtain⟨k',hk'⟩:=ih h;exact⟨k',by simp[hk']⟩
theorem tV:∀{ins:List (Mode×Ty)} {us:List Value} {i:Nat} {v:Value} (k:Nat),dL ins us i=some v->k+i∈fN ins k
 |[],us,i,v,k,h=>by simp[dL]at h
 |(md,τ)::r,us,0,v,k,h=>by cases md<;>simp[dL]at h<;>simp[fN]
 |(md,τ)::r,[],i+1,v,k,h=>by unfold dL at h;split at h<;>simp at h
 |(md,τ)::r,u::us,i+1,v,k,h=>by
  have h':dL r us i=some v:=by unfold dL at h ⊢;simpa using h
  have:=tV (k+1) h';have e:k+(i+1)=k+1+i:=by omega
  cases md<;>simp only[fN]<;>rw[e]<;>simp[this]
theorem pb{w:World}{F:Nat->Prop}:∀{ins:List (Mode×Ty)} {us:List Value} {x:(aa (ins.map (·.2))).den} {i:Nat} {v:Value} (k:Nat),ArgsRd w F ins us x->dL ins us i=some v->∃ o,(bi ins k x).get (k+i)=some o
 |[],us,x,i,v,k,_,h=>by simp[dL]at h
 |_::_,[],_,_,_,_,h,_=>h.elim
 |(md,τ)::r,u::us,x,0,v,k,ha,h=>by
  cases md<;>simp[dL]at h
  ·cases τ with
   |slice e=>exact⟨_,by simp only[bi,R2];rw[Heap.get_cons,if_pos rfl]⟩
   |_=>exact ha.1.elim
  cases τ with
  |ptr e=>exact⟨_,by simp only[bi,R2];rw[Heap.get_cons,if_pos rfl]⟩
  |_=>exact ha.1.elim
 |(md,τ)::r,u::us,x,i+1,v,k,ha,h=>by
  have h':dL r us i=some v:=by unfold dL at h ⊢;simpa using h
  obtain⟨o,ho⟩:=pb (x:=x.2) (k+1) ha.2 h';have e:k+(i+1)=k+1+i:=by omega
  rw[e];cases md with
  |rd=>exact⟨o,ho⟩
  |upd=>
   cases τ with
   |slice e=>refine⟨o,?_⟩;simp only[bi];rw[Heap.get_cons,if_neg (by omega)];exact ho
   |_=>exact ha.1.elim
  |take=>
   cases τ with
   |slice e=>refine⟨o,?_⟩;simp only[bi];rw[Heap.get_cons,if_neg (by omega)];exact ho
   |_=>exact ha.1.elim
  |box kd=>
   cases τ with
   |ptr e=>refine⟨o,?_⟩;simp only[bi];rw[Heap.get_cons,if_neg (by omega)];exact ho
   |_=>exact ha.1.elim
theorem ArgsRd.len{w:World}{F:Nat->Prop}:∀{ins:List (Mode×Ty)} {us:List Value} {x:(aa (ins.map (·.2))).den},ArgsRd w F ins us x->us.length=ins.length
 |[],[],_,_=>rfl
 |[],_::_,_,h=>h.elim
 |_::_,[],_,h=>h.elim
 |_::_,_::_,_,h=>by simp[ArgsRd.len h.2]
theorem vp {w:World}{F:Nat->Prop}{ins:List (Mode×Ty)}{us:List Value}{x:(aa (ins.map (·.2))).den}(hp:Pre C.glob w F ins us x)(n:Nat){G:Heap}(hfill:bT ins (qs ins 0) (kA ins x) 0 (bi ins 0 x)=some G) :
  ∃ m,m.w=w/\m.G=G/\Sim C w ⟨di (aG ins us),F,dL ins us,none⟩ n { tmps:=(us.map aU).toArray++SR (n-(us.map aU).toArray.size) undef,defers:=[] } m (ep ins 0 x):=by
 let m0:Mem:=⟨w,F,λi=>aU (us.getD i undef),bi ins 0 x⟩
 have hι:∀ i u,us[i-0]?=some u->m0.ι i=aU u:=by intro i u h;simp at h;simp[m0,h]
 have hi0:Inv C w ⟨di (aG ins us),F,dL ins us,none⟩ m0:=by
  refine⟨Kept.refl _ _,?_,?_,?_,hp.fro,hp.glob,λb hb=>.inl hb,?_⟩
  ·intro i o ho;obtain⟨_,u,h1,_,_,h2⟩:=bF 0 hp.args i o ho;exact h2.rel m0 i rfl rfl (hι i u h1)
  ·intro i o b ho _ hb;obtain⟨_,u,h1,h3,_,h2⟩:=bF 0 hp.args i o ho;rw[hι i u h1]at hb;have hb:=h2.hb b hb;obtain⟨k1,k2⟩:=hp.own u h3 b hb;exact⟨.inr ⟨u,h3,hb⟩,k1,k2⟩
  ·intro i j o p b ho _ hq _ h1 h2;obtain⟨_,u,k1,_,_,k3⟩:=bF 0 hp.args i o ho;obtain⟨_,v,k2,_,_,k4⟩:=bF 0 hp.args j p hq;rw[hι i u k1]at h1;rw[hι j v k2]at h2;exact iD 0 hp.args hp.apart i j o p b u v ho hq k1 k2 (k3.hb b h1) (k4.hb b h2)
  refine⟨λi v hv=>?_,λm0 h0=>by cases h0⟩;obtain⟨o,ho⟩:=pb 0 hp.args hv;rw[RM]at ho;obtain⟨_,u,h1,_,_,h2⟩:=bF 0 hp.args i o ho;refine⟨_,ho,λ_=>⟨?_,h2.deep⟩⟩;have hv:dL ins us i=some v:=hv;rw[hι i u h1];simp only[UG]at h1;unfold dL at hv;split at hv
  ·simp[h1]at hv;exact hv
  ·simp[h1]at hv;exact hv
  simp at hv
 obtain⟨m,a1,a2,a3,a4,a5⟩:=dS (m:=m0) (us:=us) hi0 hfill (fh hp.args) (C6 0 hp.args (λ_ _ h=>h) (λi u hu=>by rw[RM];exact hι i u (by simpa using hu))) (hp.apart.sublist mut_sub) (λu hu b hb=>by
  have hu':=mut_sub.subset hu;have hb':=gJ hb;obtain⟨k1,k2⟩:=hp.own u hu' b hb';refine⟨.inr ⟨u,hu',hb'⟩,k1,k2,λi o ho _ hbl=>?_⟩;obtain⟨_,v,h1,_,h3,_⟩:=bF 0 hp.args i o ho;rw[hι i v h1]at hbl;exact fo hp.args hp.apart u hu' b hb ⟨_,h3,hbl⟩)
 refine⟨m,a1,a3,a4,rfl,by simp;omega,?_⟩;intro t;rcases la 0 hp.args t with h|⟨u,_,h1,h2⟩
 ·rw[h];trivial
 have ht:((us.map aU).toArray++SR (n-(us.map aU).toArray.size) undef).getD t undef=aU u:=by simp only[UG]at h1;have:=(A7.1 h1).1;rw[RE,Array.getElem?_append_left (by simpa using this)];simp[h1]
 rw[ht];refine fL a5 ?_;rcases h2 with⟨τ,y,cs,h3,h4,h5⟩|⟨h3,o,h5⟩|⟨h3,l,h5⟩
 ·rw[h3];exact⟨cs,h4,h5⟩
 ·rw[h3];obtain⟨_,v,h6,_,_,h7⟩:=bF 0 hp.args t o h5;rw[h1]at h6;simp only[bd]at h6;subst h6;exact(aw (a:=.own t) (by intros;simp)).2 ⟨h7.one,o,h5,λ_=>(hι t u h1).symm⟩
 rw[h3];obtain⟨_,v,h6,_,_,h7⟩:=bF 0 hp.args t _ h5;rw[h1]at h6;simp only[bd]at h6;subst h6;obtain⟨b,c,el,q1,_⟩:=h7.rel m0 t rfl rfl (hι t u h1);exact(aw (a:=.ptr t 0) (by intros;simp)).2 ⟨h7.one,_,h5,b,q1,by rw[<- hι t u h1,q1]⟩
end
end Go.Vm

/-
 A function's contract, from its body.
-/
namespace Go.Vm
section
variable {P:Program}{C:Ctx}{A:Anns}
theorem GL {d:Bool}{w:World}{F:Nat->Prop}{ins:List (Mode×Ty)}{us:List Value}{x:(aa (ins.map (·.2))).den}(hp:Pre C.glob w F ins us x){N:Nat}{a:Act}{m:Mem}{s:St}
  (hs:Sim C w ⟨di (aG ins us),F,dL ins us,none⟩ N a m s.env) (hG:m.G=s.G) {outs:lY} {r:(aa ((outs.map (·.2)).map (·.2)++aS ins)).den} (h:l5 ins outs s d=some r) (hk:oX P outs=true) :
  ∃ vs:List Value,((outs.map (·.1)).mapM (nM a)).run P m.w=.ok vs m.w/\∃ us' F2 css,k9 ins us us'/\PostB w F ins us us' (outs.map (·.2)) r (eV vs) m.w F2 css d:=by
 unfold l5 at h;cases hc:(ip d s outs && aM (aY s true outs) && fl (aY s true outs) (aY s false outs) && fl (aY s true outs) (cl true s.G ins 0) && fl (aY s false outs) (cl true s.G ins 0)
   && aM (cl true s.G ins 0)&&fl (aY s true outs) (cl false s.G ins 0)&&fl (cl false s.G ins 0) (cl true s.G ins 0))with
 |false=>rw[hc]at h;simp at h
 |true=>
  rw[hc]at h;simp only[UA]at h;simp only[np]at hc;obtain⟨⟨⟨⟨⟨⟨⟨c1,c2⟩,c3⟩,c4⟩,c5⟩,c6⟩,c7⟩,c8⟩:=hc;split at h
  ·rename_i xr hxr;split at h
   ·rename_i y hy;have h:=B6 h;subst h;obtain⟨vs,r1,r2⟩:=oS (P:=P) hs hG hxr hk;obtain⟨m2,a1,a2,a3,a4,a5,a6⟩:=dp (aY s false outs++cl false s.G ins 0) hs.inv
    let m3:Mem:=⟨m2.w,λb=>m2.F b\/F b,m2.ι,m2.G⟩
    have hF:∀ b,m.F b->m3.F b:=λb hb=>.inl (a5.fro b hb).1;obtain⟨css,k1,k2,k3⟩:=vQ (m2:=m3) hs.inv hG a1 hF r2 c1 c2 (λb hb=>.inl (a6 b (Thru.mono (λi hi=>by simp[hi]) hb)));obtain⟨us',e0,e1,e2⟩:=lw (m2:=m3) hs.inv hG a1 hF (ins:=ins) (us:=us) 0 hp.args hy c6 (λb hb=>.inl (a6 b (Thru.mono (λi hi=>by simp[hi]) hb))) (λj u md τ hj hm hu o ho hob=>by
     rw[RM]at ho ⊢;obtain⟨o',q1,q2⟩:=hs.inv.pin.1 j (aU u) (show dL ins us j=some (aU u)from Hb hj hm hu);rw[ho]at q1;simp only[bd]at q1;subst q1;exact(q2 hob).1)
    -- every such block is an object's that lives,and that no other result is read through
    have live:∀ b,di (cn (outs.map (·.2)) css++bp ins us') b->∃ id o,id∉aY s false outs++cl false s.G ins 0/\m.G.get id=some o/\isObj o=true/\HB (m.ι id) b:=by
     rintro b ⟨u,hu,hb⟩;rcases A5.1 hu with hu|hu
     ·obtain⟨id,o,j1,j2⟩:=k3.1 b ⟨u,hu,hb⟩;refine⟨id,o,λhn=>?_,j2⟩;rcases A5.1 hn with hn|hn
      ·exact eX c3 j1 hn
      exact eX c7 j1 hn
     obtain⟨id,o,j1,j2⟩:=e2.1 b ⟨u,hu,hb⟩;refine⟨id,o,λhn=>?_,j2⟩;rcases A5.1 hn with hn|hn
     ·exact eX c5 hn j1
     exact eX c8 hn j1
    refine⟨vs,r1,us',m3.F,css,e0,?_,?_,?_,by rw[k1],?_,?_,?_,?_⟩
    ·exact hs.inv.kept
    ·intro b hb;exact .inr hb
    ·rintro b (hb|hb)
     ·have q1:=a4.fro b hb;rw[a1]at q1;exact⟨q1,a4.bnd b hb⟩
     exact⟨RK (hp.fro b hb) hs.inv.kept.size,.inl hb⟩
    ·rw[jk,<- a1];exact k2
    ·rw[jk,<- a1];exact e1
    ·refine Sh.2 ⟨k3.2 c2,e2.2 c6,?_⟩;intro u hu v hv b hb hb';obtain⟨id,o,j1,j2,j3,j4⟩:=k3.1 b ⟨u,hu,hb⟩;obtain⟨id',o',l1,l2,l3,l4⟩:=e2.1 b ⟨v,hv,hb'⟩;have:=hs.inv.inj id id' o o' b j2 j3 l2 l3 j4 l4;subst this;exact eX c4 j1 l1
    intro u hu b hb;obtain⟨id,o,j1,j2,j3,j4⟩:=live b ⟨u,hu,hb⟩;obtain⟨q1,q2,q3⟩:=hs.inv.own id o b j2 j3 j4;have:=a4.own id o b (by rw[a3,bL _ _ id j1];exact j2) j3 (by rw[a2];exact j4);refine⟨q1,?_,q3⟩;rintro(hb'|hb')
    ·exact this.2.1 hb'
    rcases q1 with q1|⟨v,hv,hvb⟩
    ·have:=hp.fro b hb';omega
    exact(hp.own v hv b hvb).1 hb'
   simp at h
  simp at h
end
end Go.Vm

/-
 A function's contract, from its body: the join.
-/
namespace Go.Vm
section
variable {P:Program}{C:Ctx}{A:Anns}
theorem CB {d:Bool}{f:FuncId}{fn:Func}{body:Code}{ins:List (Mode×Ty)}{outs:lY}{M:(aa (ins.map (·.2))).den->Option (aa ((outs.map (·.2)).map (·.2)++aS ins)).den}
  (hC : CtxOK P C) (hD : kZ P) (hf : P.funcs[f]? = some fn) (hb : fn.body = some body) (hn : (fn.name == "runtime.NumGoroutine") = false) (hL : po C A (aO body)) (hd : d8 fn.ntmps body = true)
  (hpins:tA A ins=true) (hres:fn.results=(outs.map (·.1)).toArray) (hk:oX P outs=true) (heq:∀ x,qT C A body ins outs x d=M x) :
  Con.Holds P C.glob f ⟨ins,outs.map (·.2),M,d⟩:=by
 intro w F us x r hp hM;have hn' : ¬ fn.name = "runtime.NumGoroutine" := by simpa using hn
 refine .inl ⟨by simp[callFunc,hf,hn',hb],?_⟩;refine calls_of_wp hf hb ?_;have hx:qT C A body ins outs x d=some r:=(heq x).trans hM;unfold qT at hx;split at hx
 case h_2=>cases hx
 rename_i G0 hG0;obtain⟨m0,hw0,hGm,hs⟩:=vp hp fn.ntmps hG0;have hPin:F8 ⟨di (aG ins us),F,dL ins us,none⟩ A:=by
  intro key ann hann;obtain⟨k,hmem⟩:=Anns.mem_of_get hann;unfold tA at hpins;rw[A9]at hpins;have h1:=hpins _ hmem;rw[A9]at h1;have h2:∀ i v,dL ins us i=some v->i∈fN ins 0:=λi v hv=>by have:=tV 0 hv;rwa[RM]at this
  refine⟨⟨λi v hv=>?_,rfl⟩,λe sh hsh=>⟨λi v hv=>?_,rfl⟩⟩
  ·have:=h1 i (h2 i v hv);simp only[np]at this;exact gK.1 this.1
  have:=h1 i (h2 i v hv);simp only[np]at this;have h3:=this.2;rw[A9]at h3;exact gK.1 (h3 _ hsh)
 have fin {s':St} {a':Act} {m':Mem} (h1:l5 ins outs s' d=some r) (h2:m'.G=s'.G) (h3:Sim C w ⟨di (aG ins us),F,dL ins us,none⟩ fn.ntmps a' m' s'.env) :
   a'.defers=[]/\∃ v,(Go.results fn a'.tmps).run P m'.w=.ok v m'.w/\∃ v',Ending.returned v=.returned v'/\∃ us' F2 css,k9 ins us us'/\PostB w F ins us us' (outs.map (·.2)) r v' m'.w F2 css d:=by
  obtain⟨vs,e1,us',F2,css,e0,e2⟩:=GL (P:=P) hp h3 h2 h1 hk;refine⟨h3.defers,eV vs,?_,_,rfl,us',F2,css,e0,e2⟩;have hrun:(Go.results fn a'.tmps).run P m'.w=(((outs.map (·.1)).mapM (nM a')).run P m'.w).andThen λvs w'=>.ok (eV vs) w':=by
   have hf':Go.results fn a'.tmps=(do let vs <- fn.results.mapM (nM a');pure (if h:vs.size=1 then vs[0]else .tuple vs)):=by unfold Go.results;congr 1
   rw[hf',hres];simp only[Array.mapM_eq_mapM_toList,Sem.run_bind,map_eq_pure_bind,bind_assoc,pure_bind,Sem.run_pure];congr 1;funext l w';match l with
   |[]=>rfl
   |[u]=>rfl
   |_::_::_=>simp[eV]
  rw[hrun,e1];rfl
 subst hw0;refine JC (s:={ env:=ep ins 0 x,G:=G0 }) hC hD hPin body hL hd hs hGm hx ?_;intro e s' a' m' h1 h2 h3;cases e with
 |normal=>exact fin h1 h2 h3
 |exit i=>simp at h1
 |ret=>exact fin h1 h2 h3
end
end Go.Vm

/-
 A part of the memory is taken out, something is done there, and it is laid back.
-/
namespace Go.Vm
theorem Heap.get_append(X G:Heap)(i:Nat):Heap.get (X++G) i=(match X.get i with|some o=>some o|none=>G.get i):=by
 induction X with
 |nil=>rfl
 |cons p r ih=>
  obtain⟨k,v⟩:=p;simp only[Ss,Heap.get_nil0,Heap.get_pair];cases A3 k i with
  |true=>rfl
  |false=>exact ih
theorem Heap.get_of_has{G:Heap}:∀{i:Nat},G.has i=true->∃ o,G.get i=some o:=by
 induction G with
 |nil=>intro i h;simp[Heap.has_nil0,Heap.has_pair]at h
 |cons p r ih=>
  intro i h;obtain⟨k,v⟩:=p;simp only[Heap.has_nil0,Heap.has_pair]at h;simp only[Heap.get_nil0,Heap.get_pair];cases hk:A3 k i with
  |true=>exact⟨v,rfl⟩
  |false=>rw[hk]at h;exact ih h
theorem Heap.has_none{G:Heap}{i:Nat}(h:G.get i=none):G.has i=false:=by
 cases hh:G.has i with
 |false=>rfl
 |true=>obtain⟨o,ho⟩:=Heap.get_of_has hh;rw[h]at ho;cases ho
theorem Heap.mem_of_get{G:Heap}:∀{i:Nat} {o:Obj},G.get i=some o->(i,o)∈G:=by
 induction G with
 |nil=>intro i o h;simp[Heap.get_nil0,Heap.get_pair]at h
 |cons p r ih=>
  intro i o h;obtain⟨k,v⟩:=p;simp only[Heap.get_nil0,Heap.get_pair]at h;cases hk:A3 k i with
  |true=>rw[hk]at h;simp at h;subst h;rw[<- xy hk];simp
  |false=>rw[hk]at h;exact RB _ (ih h)
section
variable {P:Program}{C:Ctx}{w0:World}{M:Own}{m:Mem}
theorem sO(hi:Inv C w0 M m){G':Heap}(h:∀ id,G'.get id=m.G.get id):Inv C w0 M ⟨m.w,m.F,m.ι,G'⟩/\Evo m ⟨m.w,m.F,m.ι,G'⟩:=by
 have he:Evo m ⟨m.w,m.F,m.ι,G'⟩:=⟨λb hb=>⟨hb,rfl⟩,λid o ho=>⟨o,by show G'.get id=_;rw[h];exact ho,.inr (Goon.refl _ o)⟩⟩;refine⟨⟨hi.kept,?_,?_,?_,hi.fro,λg τ x hg=>(hi.glob g τ x hg).mono he.fro,hi.bnd,cd he hi.pin⟩,he⟩
 ·intro id o ho;exact co he rfl (λ_ _=>rfl) (hi.objs id o (by rw[<- h];exact ho))
 ·intro id o b ho;exact hi.own id o b (by rw[<- h];exact ho)
 intro i j o p b ho hoo hp;exact hi.inj i j o p b (by rw[<- h];exact ho) hoo (by rw[<- h];exact hp)
theorem mr{Gi:Heap}(hsub:∀ id o,Gi.get id=some o->m.G.get id=some o){v:Value}:∀{a:Atom},ak m v a->cU Gi a=true->ak ⟨m.w,m.F,m.ι,Gi⟩ v a
 |.u,_,_=>trivial
 |.undef,h,_=>h
 |.nils _,h,_=>h
 |.val _ _,h,_=>h
 |.own id,h,hh=>by
  obtain⟨h1,o,ho,hv⟩:=h;obtain⟨o',ho'⟩:=Heap.get_of_has hh;have:=hsub id o' ho';rw[ho]at this;cases this
  exact⟨h1,o,ho',hv⟩
 |.view id off len,h,hh=>by
  obtain⟨h1,o,ho,hv⟩:=h;obtain⟨o',ho'⟩:=Heap.get_of_has hh;have:=hsub id o' ho';rw[ho]at this;cases this
  exact⟨h1,o,ho',hv⟩
 |.ptr id off,h,hh=>by
  obtain⟨h1,o,ho,hv⟩:=h;obtain⟨o',ho'⟩:=Heap.get_of_has hh;have:=hsub id o' ho';rw[ho]at this;cases this
  exact⟨h1,o,ho',hv⟩
 |.aptr id j p,h,hh=>by
  obtain⟨h1,o,ho,hv⟩:=h;obtain⟨o',ho'⟩:=Heap.get_of_has hh;have:=hsub id o' ho';rw[ho]at this;cases this
  exact⟨h1,o,ho',hv⟩
 |.cut id j p,h,hh=>by
  obtain⟨h1,o,ho,hv⟩:=h;obtain⟨o',ho'⟩:=Heap.get_of_has hh;have:=hsub id o' ho';rw[ho]at this;cases this
  exact⟨h1,o,ho',hv⟩
 |.ownd id,h,hh=>by
  obtain⟨h1,o,ho,hv⟩:=h;obtain⟨o',ho'⟩:=Heap.get_of_has hh;have:=hsub id o' ho';rw[ho]at this;cases this
  exact⟨h1,o,ho',hv⟩
 |.sub id ver j,h,hh=>by
  obtain⟨h1,o,ho,hv⟩:=h;obtain⟨o',ho'⟩:=Heap.get_of_has hh;have:=hsub id o' ho';rw[ho]at this;cases this
  exact⟨h1,o,ho',hv⟩
 |.saptr id ver j k,h,hh=>by
  obtain⟨h1,o,ho,hv⟩:=h;obtain⟨o',ho'⟩:=Heap.get_of_has hh;have:=hsub id o' ho';rw[ho]at this;cases this
  exact⟨h1,o,ho',hv⟩
 |.iptr id _ _ _ _,h,hh=>by
  obtain⟨h1,o,ho,hv⟩:=h;obtain⟨o',ho'⟩:=Heap.get_of_has hh;have:=hsub id o' ho';rw[ho]at this;cases this
  exact⟨h1,o,ho',hv⟩
 |.ownm id,h,hh=>by
  obtain⟨h1,o,ho,hv⟩:=h;obtain⟨o',ho'⟩:=Heap.get_of_has hh;have:=hsub id o' ho';rw[ho]at this;cases this
  exact⟨h1,o,ho',hv⟩
 |.bnd _ _,h,_=>h
 |.clo f caps,h,hh=>by
  obtain⟨vs,h1,h2⟩:=h;refine⟨vs,h1,?_⟩;simp only[cU,A9]at hh;clear h1;induction caps generalizing vs with
  |nil=>
   match vs,h2 with
   |[],_=>trivial
  |cons c caps ih=>
   match vs,h2 with
   |u::vs,h2=>
    obtain⟨⟨o,ho,hv⟩,h3⟩:=h2;obtain⟨o',ho'⟩:=Heap.get_of_has (hh c (by simp));have:=hsub c o' ho';rw[ho]at this;cases this
    exact⟨⟨o,ho',hv⟩,ih vs h3 λx hx=>hh x (by simp[hx])⟩
theorem gh{Gi:Heap}(hsub:∀ id o,Gi.get id=some o->m.G.get id=some o):∀{us:List Value} {l:List Atom},Rel2 (ak m) us l->l.all (λa=>cU Gi a)=true->Rel2 (ak ⟨m.w,m.F,m.ι,Gi⟩) us l
 |[],[],_,_=>trivial
 |_::_,[],h,_=>h.elim
 |[],_::_,h,_=>h.elim
 |_::_,_::_,h,hh=>by simp only[Tx,np]at hh;exact⟨mr hsub h.1 hh.1,gh hsub h.2 hh.2⟩
theorem qC{Gi:Heap}(hsub:∀ id o,Gi.get id=some o->m.G.get id=some o){v:Value}:∀{sv:SV},RelSV m v sv->gV Gi sv=true->RelSV ⟨m.w,m.F,m.ι,Gi⟩ v sv
 |.av a,h,hh=>by
  cases a with
  |val τ x=>exact h
  |_=>exact(aw (by intros;simp)).2 (mr hsub ((aw (by intros;simp)).1 h) hh)
 |.agg l,h,hh=>by obtain⟨us,h1,h2,h3⟩:=h;exact⟨us,h1,h2,gh hsub h3 hh⟩
 |.tup l,h,hh=>by
  obtain⟨us,h1,h2⟩:=h;refine⟨us,h1,?_⟩;clear h1;induction l generalizing us with
  |nil=>
   match us,h2 with
   |[],_=>trivial
  |cons p l ih=>
   simp only[gV,Tx,np]at hh;match us,h2 with
   |u::us,h2=>
    refine⟨?_,ih hh.2 us h2.2⟩;have h3:=h2.1;obtain⟨b,c⟩:=p;cases b with
    |true=>obtain⟨us,q1,q0,q2⟩:=h3;exact⟨us,q1,q0,gh hsub q2 hh.1⟩
    |false=>obtain⟨a,q1,q2⟩:=h3;simp only at q1;subst q1;refine⟨a,rfl,mr hsub q2 ?_⟩;have:=hh.1;simpa using this
theorem ut{v:Value}:∀{a:Atom},ak m v a->cU m.G a=true
 |.u,_=>rfl
 |.undef,_=>rfl
 |.nils _,_=>rfl
 |.val _ _,_=>rfl
 |.own _,h=>by obtain⟨_,o,ho,_⟩:=h;exact Heap.has_of_get ho
 |.view _ _ _,h=>by obtain⟨_,o,ho,_⟩:=h;exact Heap.has_of_get ho
 |.ptr _ _,h=>by obtain⟨_,o,ho,_⟩:=h;exact Heap.has_of_get ho
 |.aptr _ _ _,h=>by obtain⟨_,o,ho,_⟩:=h;exact Heap.has_of_get ho
 |.cut _ _ _,h=>by obtain⟨_,o,ho,_⟩:=h;exact Heap.has_of_get ho
 |.ownd _,h=>by obtain⟨_,o,ho,_⟩:=h;exact Heap.has_of_get ho
 |.sub _ _ _,h=>by obtain⟨_,o,ho,_⟩:=h;exact Heap.has_of_get ho
 |.saptr _ _ _ _,h=>by obtain⟨_,o,ho,_⟩:=h;exact Heap.has_of_get ho
 |.ownm _,h=>by obtain⟨_,o,ho,_⟩:=h;exact Heap.has_of_get ho
 |.iptr _ _ _ _ _,h=>by obtain⟨_,o,ho,_⟩:=h;exact Heap.has_of_get ho
 |.bnd _ _,_=>rfl
 |.clo f caps,h=>by
  obtain⟨vs,h1,h2⟩:=h;simp only[cU,A9];clear h1;induction caps generalizing vs with
  |nil=>simp
  |cons c caps ih=>
   match vs,h2 with
   |u::vs,h2=>
    obtain⟨⟨o,ho,_⟩,h3⟩:=h2;intro x hx;rcases A6.1 hx with rfl|hx
    ·exact Heap.has_of_get ho
    exact ih vs h3 x hx
theorem gH:∀{us:List Value} {l:List Atom},Rel2 (ak m) us l->∀ a∈l,cU m.G a=true
 |[],[],_=>by simp
 |_::_,[],h=>h.elim
 |[],_::_,h=>h.elim
 |_::_,_::_,h=>by
  intro a ha;rcases A6.1 ha with rfl|ha
  ·exact ut h.1
  exact gH h.2 a ha
theorem ks{G G':Heap}(h:∀ i,G.has i=true->G'.has i=true){a:Atom}(ha:cU G a=true):cU G' a=true:=by
 cases a with
 |clo f c=>simp only[cU,A9]at ha ⊢;exactλi hi=>h i (ha i hi)
 |own _=>exact h _ ha
 |view _ _ _=>exact h _ ha
 |ptr _ _=>exact h _ ha
 |aptr _ _ _=>exact h _ ha
 |cut _ _ _=>exact h _ ha
 |ownd _=>exact h _ ha
 |sub _ _ _=>exact h _ ha
 |saptr _ _ _ _=>exact h _ ha
 |ownm _=>exact h _ ha
 |iptr _ _ _ _ _=>exact h _ ha
 |_=>rfl
def lD(m:Mem)(Gi:Heap):Own:=⟨λb=>∃ id,Blk ⟨m.w,m.F,m.ι,Gi⟩ id b,m.F,λ_=>none,none⟩
theorem Eg (hi:Inv C w0 M m){Gi:Heap}(hsub:∀ id o,Gi.get id=some o->m.G.get id=some o)(hbox:∀ id l,Gi.get id=some (.box l)->l.all (fun a=>cU Gi a)=true) :
  Inv C m.w (lD m Gi) ⟨m.w,m.F,m.ι,Gi⟩:=by
 refine⟨Kept.refl _ _,?_,?_,?_,hi.fro,λg τ x hg=>hi.glob g τ x hg,λb hb=>.inl hb,⟨λi v h=>by simp[lD]at h,λm0 h=>by simp[lD]at h⟩⟩
 ·intro id o ho;have hr:=hi.objs id o (hsub id o ho);cases o with
  |dead=>trivial
  |arr τ l=>exact hr
  |deep _ _ _ _=>exact hr
  |map _ _ _=>exact hr
  |box l=>obtain⟨b,c,el,h1,h2,h0,h3⟩:=hr;exact⟨b,c,el,h1,h2,h0,gh hsub h3 (hbox id l ho)⟩
 ·intro id o b ho hob hb;obtain⟨_,h2,h3⟩:=hi.own id o b (hsub id o ho) hob hb;exact⟨.inr ⟨id,o,ho,hob,hb⟩,h2,h3⟩
 intro i j o p b ho hoo hp hop h1 h2;exact hi.inj i j o p b (hsub i o ho) hoo (hsub j p hp) hop h1 h2
theorem CW (hi:Inv C w0 M m){Gi X:Heap}{m':Mem}(hsub:∀ id o,Gi.get id=some o->m.G.get id=some o)(hi':Inv C m.w (lD m Gi) m')(he:Evo ⟨m.w,m.F,m.ι,Gi⟩ m')
  (hG':m'.G=X++Gi) (hX:∀ id o,X.get id=some o->Gi.get id=none->m.G.get id=none) :
  ∃ m'',m''.w=m'.w/\m''.G=X++m.G/\Inv C w0 M m''/\Evo m m''/\∀ v sv,RelSV m' v sv->RelSV m'' v sv:=by
 let ι2:Nat->Value:=λid=>cond ((X++Gi).has id) (m'.ι id) (m.ι id)
 let m2:Mem:=⟨m'.w,m'.F,ι2,X++m.G⟩
 have hcase:∀ id o,(X++m.G).get id=some o->(m'.G.get id=some o/\ι2 id=m'.ι id)\/(Gi.get id=none/\m.G.get id=some o/\ι2 id=m.ι id):=by
  intro id o ho;rw[Heap.get_append]at ho;cases hx:X.get id with
  |some o1=>
   rw[hx]at ho;left;have hg:(X++Gi).get id=some o1:=by rw[Heap.get_append,hx]
   refine⟨by rw[hG',hg];exact ho,?_⟩;show cond _ _ _=_;rw[Heap.has_of_get hg];rfl
  |none=>
   rw[hx]at ho;cases hgi:Gi.get id with
   |some o1=>
    left;have hg:(X++Gi).get id=some o1:=by rw[Heap.get_append,hx];exact hgi
    have h1:=hsub id o1 hgi;have ho:m.G.get id=some o:=ho;rw[h1]at ho;refine⟨by rw[hG',hg];exact ho,?_⟩;show cond _ _ _=_;rw[Heap.has_of_get hg];rfl
   |none=>
    right;have hg:(X++Gi).get id=none:=by rw[Heap.get_append,hx];exact hgi
    refine⟨rfl,ho,?_⟩;show cond _ _ _=_;rw[Heap.has_none hg];rfl
 have hback:∀ id o,m'.G.get id=some o->(X++m.G).get id=some o/\ι2 id=m'.ι id:=by
  intro id o ho;rw[hG']at ho;have hι:ι2 id=m'.ι id:=by show cond _ _ _=_;rw[Heap.has_of_get ho];rfl
  refine⟨?_,hι⟩;rw[Heap.get_append]at ho ⊢;cases hx:X.get id with
  |some o1=>rw[hx]at ho;exact ho
  |none=>rw[hx]at ho;exact hsub id o ho
 have hMb:∀ id o b,m.G.get id=some o->isObj o=true->HB (m.ι id) b->Gi.get id=none->¬(lD m Gi) b:=by rintro id o b ho hob hb hn ⟨id',o',ho',hob',hb'⟩;have:=hi.inj id id' o o' b ho hob (hsub id' o' ho') hob' hb hb';subst this;have ho':Gi.get id=some o':=ho';rw[hn]at ho';cases ho'
 have hMw:∀ b,(lD m Gi) b->(w0.heap.size<=b\/M b)/\b<m.w.heap.size:=by rintro b ⟨id',o',ho',hob',hb'⟩;have:=hi.own id' o' b (hsub id' o' ho') hob' hb';exact⟨this.1,this.2.2⟩
 have hks:=hi.kept.size;have hks':=hi'.kept.size;have hother:∀ id o b,m.G.get id=some o->isObj o=true->HB (m.ι id) b->Gi.get id=none->m'.w.heap[b]?=m.w.heap[b]?:=by intro id o b ho hob hb hn;exact hi'.kept.block b (hi.own id o b ho hob hb).2.2 (hMb id o b ho hob hb hn)
 have he1:Evo m' m2:=⟨λb hb=>⟨hb,rfl⟩,λid o ho=>⟨o,(hback id o ho).1,.inr (.inl ⟨(hback id o ho).2,Alike.refl o⟩)⟩⟩;have he2:Evo m m2:=by
  refine⟨he.fro,λid o ho=>?_⟩;cases hgi:Gi.get id with
  |some o1=>
   have h1:=hsub id o1 hgi;rw[ho]at h1;cases h1
   obtain⟨o',h2,h3⟩:=he.get id o hgi;obtain⟨h4,h5⟩:=hback id o' h2;refine⟨o',h4,?_⟩;rcases h3 with h3|h3
   ·exact .inl h3
   have h5:m2.ι id=m'.ι id:=h5;rw[h5];exact .inr h3
  |none=>
   have hx:X.get id=none:=by
    cases hx:X.get id with
    |none=>rfl
    |some o1=>have:=hX id o1 hx hgi;rw[ho]at this;cases this
   have hg:(X++m.G).get id=some o:=by rw[Heap.get_append,hx];exact ho
   have hn:(X++Gi).get id=none:=by rw[Heap.get_append,hx];exact hgi
   refine⟨o,hg,.inr (.inl ⟨?_,Alike.refl o⟩)⟩;show cond _ _ _=_;rw[Heap.has_none hn];rfl
 refine⟨m2,rfl,rfl,⟨?_,?_,?_,?_,hi'.fro,λg τ x hg=>(hi'.glob g τ x hg),?_,cd he2 hi.pin⟩,he2,λv sv h=>fL he1 h⟩
 ·refine⟨hi'.kept.os.trans hi.kept.os,hi'.kept.tape.trans hi.kept.tape,hi'.kept.output.trans hi.kept.output,by show _<=m'.w.heap.size;omega,λb hb hM=>?_⟩;refine(hi'.kept.block b (by omega) ?_).trans (hi.kept.block b hb hM);intro hMb';rcases(hMw b hMb').1 with h|h
  ·omega
  exact hM h
 ·intro id o ho;rcases hcase id o ho with⟨h1,h2⟩|⟨h1,h2,h3⟩
  ·exact co he1 h2 (λ_ _=>rfl) (hi'.objs id o h1)
  by_cases hob:isObj o=true
  ·exact co he2 h3 (λb hb=>hother id o b h2 hob hb h1) (hi.objs id o h2)
  cases o<;>simp_all[isObj,dm]
 ·intro id o b ho hob hb;rcases hcase id o ho with⟨h1,h2⟩|⟨h1,h2,h3⟩
  ·have hb':HB (m'.ι id) b:=by rw[<- h2];exact hb
   obtain⟨q1,q2,q3⟩:=hi'.own id o b h1 hob hb';refine⟨?_,q2,q3⟩;rcases q1 with q1|q1
   ·exact .inl (by omega)
   exact(hMw b q1).1
  have hb':HB (m.ι id) b:=by rw[<- h3];exact hb
  obtain⟨q1,q2,q3⟩:=hi.own id o b h2 hob hb';refine⟨q1,?_,by show b<m'.w.heap.size;omega⟩;intro hF;rcases hi'.bnd b hF with h|h|h
  ·exact q2 h
  ·exact hMb id o b h2 hob hb' h1 h
  omega
 ·have cross:∀ i j o p b,m'.G.get i=some o->ι2 i=m'.ι i->Gi.get j=none->m.G.get j=some p->ι2 j=m.ι j->isObj o=true->isObj p=true->HB (ι2 i) b->HB (ι2 j) b->False:=by
   intro i j o p b a1 a2 b1 b2 b3 hoo hop h1 h2;rw[a2]at h1;rw[b3]at h2
   have q:=(hi'.own i o b a1 hoo h1).1;have:=(hi.own j p b b2 hop h2).2.2;rcases q with q|q
   ·omega
   exact hMb j p b b2 hop h2 b1 q
  intro i j o p b ho hoo hp hop h1 h2;rcases hcase i o ho with⟨a1,a2⟩|⟨a1,a2,a3⟩
  ·rcases hcase j p hp with⟨b1,b2⟩|⟨b1,b2,b3⟩
   ·exact hi'.inj i j o p b a1 hoo b1 hop (by rw[<- a2];exact h1) (by rw[<- b2];exact h2)
   exact(cross i j o p b a1 a2 b1 b2 b3 hoo hop h1 h2).elim
  rcases hcase j p hp with⟨b1,b2⟩|⟨b1,b2,b3⟩
  ·exact(cross j i p o b b1 b2 a1 a2 a3 hop hoo h2 h1).elim
  exact hi.inj i j o p b a2 hoo b2 hop (by rw[<- a3];exact h1) (by rw[<- b3];exact h2)
 intro b hF;rcases hi'.bnd b hF with h|h|h
 ·exact hi.bnd b h
 ·rcases(hMw b h).1 with h|h
  ·exact .inr (.inr h)
  exact .inr (.inl h)
 exact .inr (.inr (by omega))
end
def Suf(G:Heap)(r:Option St):Prop:=∀ s',r=some s'->∃ X,s'.G=X++G
section
variable {C:Ctx}{s:St}
theorem aq{G:Heap}:Suf G none:=λ_ h=>by cases h
theorem lP{dst:Option Nat}{v:SV}{G:Heap}(h:∃ X,s.G=X++G):Suf G (some (ah dst v s)):=λs' h'=>by cases h';cases dst<;>exact h
theorem vW:∃ X,s.G=X++s.G:=⟨[],rfl⟩
theorem cQ{G:Heap}{x y:Option St}{b:Bool}(h1:Suf G x)(h2:Suf G y):Suf G (cond b x y):=by cases b<;>assumption
theorem jW{G:Heap}{c:Prop}[Decidable c]{x y:Option St}(h1:Suf G x)(h2:Suf G y):Suf G (if c then x else y):=by split<;>assumption
theorem cq{G:Heap}{α:Type}{x:Option α}{F:α->Option St}(h:∀ a,Suf G (F a)):Suf G (x.bind F):=by
 cases x with
 |none=>exact aq
 |some a=>exact h a
theorem vC{G:Heap}{t:St}{site:Nat}{ob:Obj}{F:Nat->St->Option St}(ht:∃ X,t.G=X++G)(h:∀ i u,(∃ X,u.G=X++G)->Suf G (F i u)):Suf G (bq t site ob F):=by refine cQ aq (h _ _ ?_);obtain⟨X,hX⟩:=ht;exact⟨_::X,by rw[hX];rfl⟩
theorem zC{G:Heap}{v:SV}{F:Int->Option St}(h:∀ n,Suf G (F n)):Suf G (asI v F):=by
 unfold asI;split
 ·exact h _
 exact aq
theorem rY{G:Heap}{v:SV}{F:Int->Option St}(h:∀ n,Suf G (F n)):Suf G (kH v F):=by
 unfold kH;split
 ·exact h _
 exact aq
theorem Fq{G:Heap}{e:Env}{d:Int}{x:Option Operand}{F:Int->Option St}(h:∀ n,Suf G (F n)):Suf G (xB C e d x F):=by
 cases x with
 |none=>exact h _
 |some x=>exact zC h
theorem qz{G:Heap}{sz:Nat}{i:Int}{F:List Atom->Option St}(h:∀ c,Suf G (F c)):∀(k j:Nat) (l:List Atom),Suf G (iG k sz l i j F)
 |0,_,_=>aq
 |k+1,j,l=>by
  unfold iG;refine cQ ?_ (qz h k (j+1) _);split
  ·exact h _
  exact aq
theorem vy{G:Heap}{t:Nat}{x:SV}{i:Int}{F:Atom->Option St}(h:∀ n,Suf G (F n)):Suf G (indexAt C s t x i F):=by
 unfold indexAt;split
 ·exact cq λ_=>h _
 ·split
  ·exact cq λ_=>h _
  exact aq
 ·split
  ·exact cq λ_=>h _
  exact aq
 ·split
  ·exact cq λ_=>h _
  exact aq
 ·split
  ·exact cq λ_=>h _
  exact aq
 ·split
  ·exact cQ (cq λ_=>h _) aq
  exact aq
 ·exact cq λ_=>h _
 ·split
  ·exact jW (cQ (h _) (h _)) aq
  exact aq
 ·split
  ·exact jW (h _) aq
  exact aq
 exact aq
theorem xp{G:Heap}{τ:Ty}{p:Atom}{F:SV->Option St}(h:∀ n,Suf G (F n)):Suf G (loadAt s τ p F):=by
 unfold loadAt;split
 ·split
  ·split
   ·exact h _
   exact aq
  exact aq
 ·split
  ·refine cq λ_=>?_;split
   ·split
    ·exact h _
    exact aq
   exact aq
  ·exact cQ (h _) aq
  exact aq
 ·split
  ·refine cQ (cq λ_=>?_) aq;split
   ·exact h _
   exact aq
  exact aq
 ·split
  ·exact h _
  exact aq
 ·split
  ·split
   ·exact cQ (h _) aq
   exact aq
  exact aq
 exact aq
theorem E7{G:Heap}{hole:Option Nat}{j:Nat}{x:Option St}(h:Suf G x):Suf G (uT hole j x):=by
 unfold uT;split
 ·exact h
 exact jW h aq
theorem eh:∀(ids:List Nat) (G:Heap),∃ X,aA ids G=X++G
 |[],G=>⟨[],rfl⟩
 |i::r,G=>by obtain⟨X,hX⟩:=eh r ((i,.dead)::G);exact⟨X++[(i,.dead)],by simp[aA,hX]⟩
theorem eD{G G0:Heap}(ids:List Nat)(h:∃ X,G=X++G0):∃ X,aA ids G=X++G0:=by obtain⟨X,hX⟩:=eh ids G;obtain⟨Y,hY⟩:=h;exact⟨X++Y,by rw[hX,hY,RL]⟩
theorem uL{τ:Ty}{p:Atom}{v:SV}{F:St->Option St}(h:∀ u,(∃ X,u.G=X++s.G)->Suf s.G (F u)):Suf s.G (storeAt s τ p v F):=by
 unfold storeAt;split
 ·split
  ·split
   ·refine cQ ?_ aq;split
    ·exact h _ ⟨[_],rfl⟩
    exact aq
   exact aq
  exact aq
 ·split
  ·split
   ·refine cq λ_=>?_;split
    ·refine cQ aq (h _ ?_);obtain⟨X,hX⟩:=eh (bV v) s.G;exact⟨(_,_)::X,by show(_,_)::aA (bV v) s.G=_;rw[hX];rfl⟩
    exact aq
   exact aq
  ·refine cQ ?_ aq;split
   ·rename_i x _;refine E7 (h _ ?_);obtain⟨X,hX⟩:=eh x.2 s.G;exact⟨(_,_)::X,by show(_,_)::aA x.2 s.G=_;rw[hX];rfl⟩
   exact aq
  exact aq
 ·split
  ·refine cQ ?_ aq;split
   ·refine h _ ?_;obtain⟨X,hX⟩:=eh (bV v) s.G;exact⟨(_,_)::X,by show(_,_)::aA (bV v) s.G=_;rw[hX];rfl⟩
   exact aq
  exact aq
 ·split
  ·split
   ·exact cQ (h _ ⟨[_],rfl⟩) aq
   exact aq
  exact aq
 exact aq
theorem Ck{G:Heap}{v:SV}{F:Int->Option St}(h:∀ n,Suf G (F n)):Suf G (lenOf s v F):=by
 unfold lenOf;split
 ·exact h _
 ·exact h _
 ·exact h _
 ·split
  ·exact h _
  exact aq
 ·split
  ·exact h _
  exact aq
 ·split
  ·exact h _
  exact aq
 ·split
  ·exact h _
  exact aq
 ·split
  ·exact cQ (h _) aq
  exact aq
 exact aq
theorem rc{G:Heap}{mx:Bool}{F:Int->Option St}(h:∀ n,Suf G (F n)):∀(l:List SV) (a:Int),Suf G (jp mx a l F)
 |[],a=>h a
 |v::l,a=>rY λb=>rc h l _
theorem uH{G:Heap}{x:SV}{lo:Int}{hi mx:Option Int}{F:SV->Option St}(h:∀ n,Suf G (F n)):Suf G (dZ s x lo hi mx F):=by
 unfold dZ;split
 ·exact cq λ_=>h _
 ·exact cq λ_=>h _
 ·exact jW (h _) aq
 ·exact jW (h _) aq
 ·split
  ·exact cq λ_=>h _
  exact aq
 ·exact cq λ_=>h _
 ·split
  ·exact cq λ_=>jW (h _) aq
  exact aq
 exact aq
theorem kx{k:List Nat}:∀{o:Nat} {τ:Ty} {x:τ.den} {site:Nat} {G:Heap} {q:List Atom×Heap},eU k o τ x site G=some q->∃ X,q.2=X++G
 |o,.prod a b,x,site,G,q,h=>by
  simp only[eU]at h;split at h
  ·rename_i p hp;split at h
   ·rename_i p2 hp2;cases h;obtain⟨X,hX⟩:=kx hp;obtain⟨Y,hY⟩:=kx hp2;exact⟨Y++X,by rw[RL,<- hX,<- hY]⟩
   cases h
  cases h
 |o,.slice e,x,site,G,q,h=>by
  unfold eU at h;cases hk:A3 (dU k o) 0 with
  |true=>rw[hk]at h;cases h;exact⟨[],rfl⟩
  |false=>
   rw[hk]at h;simp only[UB]at h;cases hh:G.has (aE 64 G (100000*(o+1)+site))with
   |true=>rw[hh]at h;cases h
   |false=>rw[hh]at h;cases h;exact⟨[_],rfl⟩
 |_,.unit,_,_,_,_,h=>by cases h;exact⟨[],rfl⟩
 |_,.int _,_,_,_,_,h=>by cases h;exact⟨[],rfl⟩
 |_,.bool,_,_,_,_,h=>by cases h;exact⟨[],rfl⟩
 |_,.str,_,_,_,_,h=>by cases h;exact⟨[],rfl⟩
 |_,.arr _ _,_,_,_,_,h=>by cases h
 |_,.ptr _,_,_,_,_,h=>by cases h;exact⟨[],rfl⟩
 |_,.clo _ _,_,_,_,_,h=>by cases h
theorem iX{d:Bool}:∀{τ:Ty} {x:τ.den} {site:Nat} {G:Heap} {p:List Atom×Heap},bk d τ x site G=some p->∃ X,p.2=X++G
 |.prod a b,x,site,G,p,h=>by
  simp only[bk]at h;split at h
  ·rename_i p1 h1;split at h
   ·rename_i p2 h2;cases h;obtain⟨X,hX⟩:=iX h1;obtain⟨Y,hY⟩:=iX h2;exact⟨Y++X,by simp[hX,hY]⟩
   cases h
  cases h
 |.unit,_,_,_,p,h=>by simp only[bk]at h;cases h;exact⟨[],rfl⟩
 |.int _,_,_,_,p,h=>by simp only[bk]at h;cases h;exact⟨[],rfl⟩
 |.bool,_,_,_,p,h=>by simp only[bk]at h;cases h;exact⟨[],rfl⟩
 |.str,_,_,_,p,h=>by simp only[bk]at h;cases h;exact⟨[],rfl⟩
 |.slice e,x,site,G,p,h=>by
  simp only[bk]at h;cases hb:G.has (aE 64 G site)with
  |true=>rw[hb]at h;cases h
  |false=>rw[hb]at h;cases h;exact⟨[_],rfl⟩
 |.arr _ _,_,_,_,_,h=>by simp[bk]at h
 |.ptr T,x,site,G,p,h=>by
  simp only[bk]at h;split at h
  ·rename_i q hq;obtain⟨X,hX⟩:=kx hq;cases hb:q.2.has (aE 64 q.2 site)with
   |true=>rw[hb]at h;cases h
   |false=>rw[hb]at h;cases h;exact⟨(aE 64 q.2 site,Obj.box q.1)::X,by show(aE 64 q.2 site,Obj.box q.1)::q.2=_;rw[Ss,<- hX]⟩
  cases h
 |.clo g e,_,_,_,p,h=>by
  cases e with
  |unit=>simp only[bk]at h;cases h;exact⟨[],rfl⟩
  |_=>simp[bk]at h
theorem mf{d:Bool}:∀{outs:List (Bool×Ty)} {x:(aa (outs.map (·.2))).den} {site:Nat} {G:Heap} {q:List (Bool×List Atom)×Heap},eA d outs x site G=some q->∃ X,q.2=X++G
 |[],_,_,_,q,h=>by simp only[eA]at h;cases h;exact⟨[],rfl⟩
 |p::r,x,site,G,q,h=>by
  unfold eA at h;split at h
  ·rename_i c hc;split at h
   ·rename_i q2 h2;cases h;obtain⟨Y,hY⟩:=mf h2;have h1:∃ X,c.2=X++G:=by
     cases hp:p.1 with
     |true=>rw[hp]at hc;exact iX hc
     |false=>rw[hp]at hc;cases hc;exact⟨[],rfl⟩
    obtain⟨X,hX⟩:=h1;exact⟨Y++X,by simp[hX,hY]⟩
   cases h
  cases h
theorem cV:∀{ins:List (Mode×Ty)} {vs:List SV} {x:(aa (aS ins)).den} {G G0 G':Heap},(∃ X,G=X++G0)->au ins vs x G=some G'->∃ X,G'=X++G0
 |[],[],_,G,G0,G',hG,h=>by simp only[au]at h;cases h;exact hG
 |[],_::_,_,_,_,_,_,h=>by simp[au]at h
 |(.rd,_)::r,[],_,_,_,_,_,h=>by simp[au]at h
 |(.upd,_)::r,[],_,_,_,_,_,h=>by simp[au]at h
 |(.take,_)::r,[],_,_,_,_,_,h=>by simp[au]at h
 |(.box _,τ)::r,[],_,_,_,_,_,h=>by cases τ<;>simp[au]at h
 |(.box _,τ)::r,v::vs,x,G,G0,G',hG,h=>by
  cases τ with
  |ptr T=>
   simp only[au]at h;have hc:∀ k (o:Obj),∃ X,((k,o)::G)=X++G0:=λk o=>by obtain⟨X,hX⟩:=hG;exact⟨_::X,by rw[hX];rfl⟩
   split at h
   ·exact cV (ins:=r) (hc _ _) h
   cases h
  |_=>simp[au]at h
 |(.rd,_)::r,_::vs,x,G,G0,G',hG,h=>by simp only[au]at h;exact cV (ins:=r) hG h
 |(.take,_)::r,v::vs,x,G,G0,G',hG,h=>by
  simp only[au]at h;have hc:∀ k,∃ X,((k,Obj.dead)::G)=X++G0:=λk=>by obtain⟨X,hX⟩:=hG;exact⟨_::X,by rw[hX];rfl⟩
  split at h
  ·exact cV (ins:=r) hG h
  ·exact cV (ins:=r) (hc _) h
  ·exact cV (ins:=r) (hc _) h
  cases h
 |(.upd,.slice e)::r,v::vs,x,G,G0,G',hG,h=>by
  simp only[au]at h;have hc:∀ k (o:Obj),∃ X,((k,o)::G)=X++G0:=λk o=>by obtain⟨X,hX⟩:=hG;exact⟨_::X,by rw[hX];rfl⟩
  split at h
  ·exact cV (ins:=r) hG h
  ·exact cV (ins:=r) (hc _ _) h
  cases h
 |(.upd,.int _)::_,_::_,_,_,_,_,_,h=>by simp[au]at h
 |(.upd,.bool)::_,_::_,_,_,_,_,_,h=>by simp[au]at h
 |(.upd,.str)::_,_::_,_,_,_,_,_,h=>by simp[au]at h
 |(.upd,.prod _ _)::_,_::_,_,_,_,_,_,h=>by simp[au]at h
 |(.upd,.unit)::_,_::_,_,_,_,_,_,h=>by simp[au]at h
 |(.upd,.arr _ _)::_,_::_,_,_,_,_,_,h=>by simp[au]at h
 |(.upd,.ptr _)::_,_::_,_,_,_,_,_,h=>by simp[au]at h
 |(.upd,.clo _ _)::_,_::_,_,_,_,_,_,h=>by simp[au]at h
theorem pg{site:Nat}{G:Heap}(v:SV):∃ X,(bO site G v).2=X++G:=by
 unfold bO;split
 ·split
  ·rename_i ver' σ l' hg;cases hc:(A3 _ ver' && !G.has (aE 64 G site))with
   |false=>exact⟨[],rfl⟩
   |true=>exact⟨[_,_],rfl⟩
  exact⟨[],rfl⟩
 exact⟨[],rfl⟩
theorem eI{site:Nat}:∀(ins:List (Mode×Ty)) (vs:List SV) (G:Heap),∃ X,(cM site ins vs G).2=X++G
 |[],vs,G=>⟨[],by cases vs<;>rfl⟩
 |(md,_)::_,[],G=>⟨[],by cases md<;>rfl⟩
 |(.rd,_)::r,v::vs,G=>eI r vs G
 |(.upd,_)::r,v::vs,G=>eI r vs G
 |(.box _,_)::r,v::vs,G=>eI r vs G
 |(.take,_)::r,v::vs,G=>by obtain⟨X,hX⟩:=pg (site:=site) (G:=G) v;obtain⟨Y,hY⟩:=eI (site:=site) r vs (bO site G v).2;exact⟨Y++X,by show(cM site r vs (bO site G v).2).2=_;rw[hY,hX,RL]⟩
theorem eM:∀{ins:List (Mode×Ty)} {vs:List SV} {x:(aa (aS ins)).den} {site:Nat} {G G0 G':Heap},(∃ X,G=X++G0)->bT ins vs x site G=some G'->∃ X,G'=X++G0
 |[],vs,_,_,G,G0,G',hG,h=>by
  have h:some G=some G':=by cases vs<;>exact h
  cases h;exact hG
 |(md,τ)::r,[],_,_,_,_,_,_,h=>by cases md<;>first|(simp[bT]at h;done)|(cases τ<;>simp[bT]at h)
 |(.rd,_)::r,_::vs,x,site,G,G0,G',hG,h=>eM (ins:=r) (vs:=vs) (x:=x) hG h
 |(.take,_)::r,_::vs,x,site,G,G0,G',hG,h=>eM (ins:=r) (vs:=vs) (x:=x) hG h
 |(.upd,_)::r,_::vs,x,site,G,G0,G',hG,h=>eM (ins:=r) (vs:=vs) (x:=x.2) hG h
 |(.box k,τ)::r,v::vs,x,site,G,G0,G',hG,h=>by
  cases τ with
  |ptr T=>
   simp only[bT]at h;split at h
   ·split at h
    ·rename_i p hp;obtain⟨X,hX⟩:=hG;obtain⟨Y,hY⟩:=kx hp;exact eM (ins:=r) (vs:=vs) ⟨_::(Y++X),by rw[hY,hX,Ss,RL]⟩ h
    cases h
   cases h
  |_=>simp[bT]at h
theorem vX{G0:Heap}{site f:Nat}{vs:List SV}{F:SV->St->Option St}(hs:∃ X,s.G=X++G0)(h:∀ v u,(∃ X,u.G=X++G0)->Suf G0 (F v u)):Suf G0 (ko C s site f vs F):=by
 unfold ko;split
 ·split
  ·refine cq λ_=>cQ ?_ aq;split
   ·rename_i G' hG';have h1:=cV hs hG';split
    ·rename_i q hq;obtain⟨X,hX⟩:=mf hq;split
     ·rename_i G2 hG2;refine h _ _ ?_;have h2:∀ b l l',∃ Y,cond b (aA l' G') (aA l (aA l' G'))=Y++G0:=λb l l'=>by
       cases b with
       |true=>exact eD l' h1
       |false=>exact eD l (eD l' h1)
      obtain⟨Y,hY⟩:=h2 _ _ _;exact eM ⟨X++Y,by rw[hX,hY,RL]⟩ hG2
     exact aq
    exact aq
   exact aq
  exact aq
 exact aq
theorem yd{site f:Nat}{vs:List SV}{F:SV->St->Option St}(h:∀ v u,(∃ X,u.G=X++s.G)->Suf s.G (F v u)):Suf s.G (e9 C s site f vs F):=by
 unfold e9;split
 ·exact cQ (cq λp=>h _ _ ⟨p.2,rfl⟩) aq
 split
 ·rename_i c _;exact vX (eI c.ins vs s.G) h
 exact aq
theorem EI{G:Heap}{x y:Option St}(h1:Suf G x):Suf G (lW x y):=by
 unfold lW;split
 ·exact h1
 exact aq
theorem oG(o:Oper):Suf s.G (bj C o s some):=by
 simp only[aB];unfold aQ;dsimp only;have P0:∀(v:SV),Suf s.G (some (ah o.dst v s)):=λv=>lP vW;have N0:∀(t:St) (ob:Obj) (v:Nat->SV),(∃ X,t.G=X++s.G)->Suf s.G (bq t (o.dst.getD 0) ob λi s2=>some (ah o.dst (v i) s2)):=λt ob v ht=>vC ht λi u hu=>lP hu;split;all_goals first|exact P0 _|exact aq|skip
 all_goals repeat' first
  |exact aq
  |exact P0 _
  |exact N0 _ _ _ vW
  |(refine N0 _ _ _ ?_;exact eh _ _)
  |(refine N0 _ _ _ ?_;exact eD _ (pg _))
  |refine cQ ?_ ?_
  |refine jW ?_ ?_
  |refine cq λ_=>?_
  |exact EI (P0 _)
  |exact lP ⟨[_],rfl⟩
  |exact lP (s:=⟨_,aA _ s.G⟩) (eh _ _)
  |exact xp λ_=>P0 _
  |exact uL λu hu=>lP hu
  |exact Ck λ_=>P0 _
  |exact rc (λ_=>P0 _) _ _
  |exact uH λ_=>P0 _
  |exact vy λ_=>P0 _
  |exact qz (λ_=>P0 _) _ _ _
  |exact yd λv u hu=>lP hu
  |refine zC λ_=>?_
  |refine rY λ_=>?_
  |refine Fq λ_=>?_
  |split
end
end Go.Vm

/-
 What is run in a region whose operations stand in no fixed order: told step by step.
-/
namespace Go.Vm
section
variable {C:Ctx}{s:St}{R:Type}{K:St->Option R}{o:Oper}
theorem sf(h1:jl C o s.env=true):bj C o s K=(bj C o s some).bind K:=by
 by_cases hb:∀ op xt x y yt,o.op≠.binOp op xt x y yt
 ·exact lT hb
 simp only[Classical.not_forall,Classical.not_not]at hb;obtain⟨op,xt,x,y,yt,ho⟩:=hb;simp only[jl,ho]at h1;simp only[aB,aQ,ho];split
 ·refine aJ (aJ rfl rfl) (aJ ?_ rfl);split
  ·exact aJ rfl rfl
  ·exact aJ rfl rfl
  split
  ·rfl
  rfl
 ·split
  ·exact bn λ_=>rfl
  split
  ·rfl
  rfl
 ·refine aJ ?_ rfl;split
  ·rfl
  ·rfl
  rfl
 ·rename_i hx hy;have hc:nf y=false:=by rw[hx,hy]at h1;simpa using h1
  rw[hc];rfl
 ·refine aJ ?_ rfl;split
  ·rfl
  ·rfl
  rfl
 ·split
  ·split
   ·split
    ·rfl
    ·rfl
    rfl
   rfl
  rfl
 split
 ·refine aJ ?_ rfl;split
  ·split
   ·split
    ·rfl
    ·rfl
    rfl
   rfl
  rfl
 rfl
theorem mN(hf:gC o=true){e:Env}{G:Heap}{s':St}(h:bj C o ⟨e,G⟩ some=some s'):s'.G=G/\∀ G',bj C o ⟨e,G'⟩ some=some ⟨s'.env,G'⟩:=by
 have put:∀(v:SV) (G:Heap),(ah o.dst v ⟨e,G⟩).G=G/\∀ G',ah o.dst v ⟨e,G'⟩=⟨(ah o.dst v ⟨e,G⟩).env,G'⟩:=λv G=>by cases o.dst<;>exact⟨rfl,λ_=>rfl⟩
 have fin:∀(v:SV),some (ah o.dst v ⟨e,G⟩)=some s'->s'.G=G/\∀ G',some (ah o.dst v ⟨e,G'⟩)=some (⟨s'.env,G'⟩:St):=λv hv=>by cases hv;exact⟨(put v G).1,λG'=>by rw[(put v G).2]⟩
 unfold gC at hf;split at hf
 ·rename_i x ho;simp only[aB,aQ,ho]at h ⊢;exact fin _ h
 ·rename_i x ho;simp only[aB,aQ,ho]at h ⊢;exact fin _ h
 ·rename_i c x y ho;simp only[aB,aQ,ho]at h ⊢;split at h
  ·rename_i t ht;cases t with
   |true=>exact fin _ h
   |false=>exact fin _ h
  cases h
 ·rename_i x i ho;simp only[aB,aQ,ho]at h ⊢;split at h
  ·rename_i l hl;split at h
   ·rename_i c hc;have:=fin _ h;refine⟨this.1,λG'=>?_⟩;exact this.2 G'
   ·rename_i a ha;have:=fin _ h;refine⟨this.1,λG'=>?_⟩;exact this.2 G'
   cases h
  cases h
 ·rename_i op t x ho;simp only[aB,aQ,ho]at h ⊢;split at h
  ·rename_i b hx;have:=fin _ h;refine⟨this.1,λG'=>?_⟩;exact this.2 G'
  ·rename_i k n hx;have:=fin _ h;refine⟨this.1,λG'=>?_⟩;exact this.2 G'
  cases h
 ·rename_i t parts ho;simp only[aB,aQ,ho]at h ⊢;cases ht:C.tab.get t with
  |none=>rw[ht]at h;cases h
  |some τ=>
   rw[ht]at h;simp only at h ⊢;cases ha:τ.isAgg with
   |false=>rw[ha]at h;cases h
   |true=>
    rw[ha,UA]at h;cases hc:fO τ (parts.toList.map λp=>(p.1,ai C e p.2)) (zeroCells τ)with
    |none=>rw[hc]at h;cases h
    |some c=>rw[hc]at h;simp only[UA];exact fin _ h
 ·rename_i t x f ho;simp only[aB,aQ,ho]at h ⊢;cases hx:ai C e x with
  |tup l=>rw[hx]at h;cases h
  |agg l=>
   rw[hx]at h;simp only at h ⊢;cases ht:C.tab.get t with
   |none=>rw[ht]at h;cases h
   |some τ=>
    rw[ht]at h;simp only at h ⊢;cases hq:τ.field f with
    |none=>rw[hq]at h;cases h
    |some q=>
     obtain⟨o',t'⟩:=q;rw[hq]at h;simp only at h ⊢;cases hc:kD t'.size (l.drop o')with
     |none=>rw[hc]at h;cases h
     |some c=>rw[hc]at h;exact fin _ h
  |av at'=>
   rw[hx]at h;cases at' with
   |val τ y=>
    simp only at h ⊢;cases ht:C.tab.get t with
    |none=>rw[ht]at h;cases h
    |some τ'=>
     rw[ht]at h;simp only at h ⊢;cases hd:decide (τ=τ')with
     |false=>rw[hd]at h;cases h
     |true=>
      rw[hd,UA]at h;cases hq:cu τ y f with
      |none=>rw[hq]at h;cases h
      |some q=>rw[hq]at h;simp only[UA];exact fin _ h
   |_=>cases h
 cases hf
theorem oR {e:Env}(hl:jV C o e=true){G:Heap}{s':St}(h:bj C o ⟨e,G⟩ some=some s') :
  s'.G=G/\∀ G':Heap,(∀ id l,C.vr id=false->G.get id=some (.box l)->G'.get id=some (.box l))->bj C o ⟨e,G'⟩ some=some ⟨s'.env,G'⟩:=by
 have put:∀(v:SV) (G:Heap),(ah o.dst v ⟨e,G⟩).G=G/\∀ G',ah o.dst v ⟨e,G'⟩=⟨(ah o.dst v ⟨e,G⟩).env,G'⟩:=λv G=>by cases o.dst<;>exact⟨rfl,λ_=>rfl⟩
 have fin:∀(v:SV),some (ah o.dst v ⟨e,G⟩)=some s'->s'.G=G/\∀ G',some (ah o.dst v ⟨e,G'⟩)=some (⟨s'.env,G'⟩:St):=λv hv=>by cases hv;exact⟨(put v G).1,λG'=>by rw[(put v G).2]⟩
 unfold jV at hl;split at hl
 ·rename_i t x f ho;split at hl
  ·rename_i id off hx;simp only[aB,aQ,ho,hx]at h ⊢;split at h
   ·rename_i l τ hg ht;split at h
    ·rename_i o' t' hf;cases hb:RD 1 t'.size with
     |false=>rw[hb]at h;cases h
     |true=>rw[hb,UA]at h;have:=fin _ h;refine⟨this.1,λG' hG'=>?_⟩;simp only[hG' id l (by simpa using hl) hg,ht,hf,hb,UA];exact this.2 G'
    cases h
   cases h
  cases hl
 ·rename_i t x ho;split at hl
  ·rename_i id off hx;simp only[aB,aQ,ho,hx]at h ⊢;split at h
   ·rename_i τ p ht hp;cases hp;simp only[loadAt]at h ⊢;split at h
    ·rename_i l hg;split at h
     ·rename_i c hc;have:=fin _ h;refine⟨this.1,λG' hG'=>?_⟩;simp only[ht,hG' id l (by simpa using hl) hg,hc];exact this.2 G'
     cases h
    cases h
   cases h
  cases hl
 ·rename_i x ho;split at hl
  ·rename_i id off hx;simp only[aB,aQ,ho,hx]at h ⊢;split at h
   ·rename_i l hg;have:=fin _ h;refine⟨this.1,λG' hG'=>?_⟩;simp only[hG' id l (by simpa using hl) hg];exact this.2 G'
   cases h
  cases hl
 ·rename_i op t x y t' ho;split at hl
  ·rename_i k a k' b hx hy;simp only[aB,aQ,ho,hx,hy]at h ⊢;cases hsh:ly op with
   |true=>
    rw[hsh,UA]at h;simp only[UA];cases hz:ltI b 0 with
    |true=>rw[hz]at h;cases h
    |false=>rw[hz]at h;have:=fin _ h;exact⟨this.1,λG' _=>this.2 G'⟩
   |false=>
   rw[hsh,UB]at h;simp only[UB];cases hk:decide (k=k')with
   |false=>rw[hk]at h;cases h
   |true=>
    rw[hk,UA]at h;simp only[UA];split at h
    ·cases hz:eqI b 0 with
     |true=>rw[hz]at h;cases h
     |false=>rw[hz]at h;have:=fin _ h;exact⟨this.1,λG' _=>this.2 G'⟩
    ·cases hz:eqI b 0 with
     |true=>rw[hz]at h;cases h
     |false=>rw[hz]at h;have:=fin _ h;exact⟨this.1,λG' _=>this.2 G'⟩
    split at h
    ·have:=fin _ h;exact⟨this.1,λG' _=>this.2 G'⟩
    cases h
  cases hl
 cases hl
theorem tw{G G':Heap}(h:ic C G G'=true){X:Heap}(hX:G'=X++G):∀ id l,C.vr id=false->G.get id=some (.box l)->G'.get id=some (.box l):=by
 intro id l hv hl;subst hX;unfold ic at h;rw[List.length_append,Nat.add_sub_cancel,SF,A9]at h;rw[Heap.get_append];cases hx:X.get id with
 |none=>exact hl
 |some ob=>have:=h _ (Heap.mem_of_get hx);rw[hl]at this;simp only at this;rw[hv]at this;cases this
end
section
variable {C:Ctx}{R:Type}{res:R}{all:List Oper}
def l9(all:List Oper)(o:Oper)(e:Env):Bool->Prop
 |true=>o.guard=none\/∃ j want d,o.guard=some (j,want)/\fA all j=some d/\e.get d=.av (.val .bool want)
 |false=>∃ j want d,o.guard=some (j,want)/\fA all j=some d/\(e.get d=.av .undef\/e.get d=.av (.val .bool (!want)))
theorem ql{o:Oper}{e e':Env}(h:∀ t,e'.get t=e.get t):dT all o e'=dT all o e:=by unfold dT;exact List.map_congr_left λt _=>by rw[h t]
theorem Ib{o:Oper}{e:Env}:∀ t,(dT all o e).get t=e.get t/\t∈looks all o\/(dT all o e).get t=.av .u:=by
 intro t;unfold dT;induction looks all o with
 |nil=>exact .inr rfl
 |cons a l ih=>
  simp only[L3,Env.get_nil0,Env.get_pair];cases h:A3 a t with
  |true=>left;rw[xy h];exact⟨rfl,by simp⟩
  |false=>
   rcases ih with⟨ih,hm⟩|ih
   ·left;exact⟨ih,by simp[hm]⟩
   right;exact ih
theorem pA{d:Nat}{b:Bool}{e:Env}(h:e.get d=.av (.val .bool b))(t:Nat):Env.get ((d,.av (.val .bool b))::e) t=e.get t:=by
 rw[Env.get_cons];split
 ·rename_i hh;subst hh;exact h.symm
 rfl
theorem pV {o:Oper}{e:Env}{run skip:Env->Option R}
  (h:(match o.guard with
   |none=>run e
   |some (j,want)=>match fA all j with
    |none=>none
    |some d=>match e.get d with
     |.av (.val .bool b)=>
      cond b
       (cond want (run ((d,.av (.val .bool true))::e)) (skip ((d,.av (.val .bool true))::e)))
       (cond want (skip ((d,.av (.val .bool false))::e)) (run ((d,.av (.val .bool false))::e)))
     |.av .undef=>skip e
     |_=>none)=some res) :
  (l9 all o e true/\∃ e',(∀ t,e'.get t=e.get t)/\run e'=some res)\/(l9 all o e false/\∃ e',(∀ t,e'.get t=e.get t)/\skip e'=some res):=by
 split at h
 ·rename_i hg;exact .inl ⟨.inl hg,e,λ_=>rfl,h⟩
 rename_i j want hg;split at h
 ·cases h
 rename_i d hd;split at h
 ·rename_i b hb;cases b with
  |true=>
   cases want with
   |true=>exact .inl ⟨.inr ⟨j,true,d,hg,hd,hb⟩,_,pA hb,h⟩
   |false=>exact .inr ⟨⟨j,false,d,hg,hd,.inr hb⟩,_,pA hb,h⟩
  |false=>
   cases want with
   |true=>exact .inr ⟨⟨j,true,d,hg,hd,.inr hb⟩,_,pA hb,h⟩
   |false=>exact .inl ⟨.inr ⟨j,false,d,hg,hd,hb⟩,_,pA hb,h⟩
 ·rename_i hb;exact .inr ⟨⟨j,want,d,hg,hd,.inl hb⟩,e,λ_=>rfl,h⟩
 cases h
theorem sH(dst:Option Nat)(v:SV)(e:Env)(t:Nat):(xg dst v e).get t=if dst=some t then v else e.get t:=by
 cases dst with
 |none=>simp[xg]
 |some d=>simp[xg,Env.get_cons]
def sR(C:Ctx)(all:List Oper)(ms:List Nat)(nd:Nat->Bool)(B:Heap)(V:Nat->SV)(X:Nat->Heap)(E:Nat->Env)(L:Nat->List (Nat×Heap))(j:Nat)(o:Oper):Prop:=
 (∀ t,(E (j+1)).get t=if o.dst=some t then V j else(E j).get t) /\
 ((l9 all o (E j) true/\L (j+1)=(j,X j) :: L j/\((dT all o (E j)).all fun p=>gV (bN (ms.getD j 0) (L j) B) p.2)=true /\
   ((L j).all λp=>!(bit (ms.getD j 0) p.1)||gF (bN (ms.getD j 0) (L j) B) p.2)=true/\(nd j=true->jV C o (dT all o (E j))=true) /\
   ∃ s',bj C o ⟨dT all o (E j),bN (ms.getD j 0) (L j) B⟩ some=some s'/\V j=s'.env.get (o.dst.getD 0)/\s'.G=X j++bN (ms.getD j 0) (L j) B) \/
  (l9 all o (E j) false/\L (j+1)=L j/\V j=.av .undef/\X j=[]))
theorem eW{α:Type}(f:Nat->α){i j:Nat}(a:α)(h:i<j):(λj=>if j=i then a else f j) j=f j:=by
 have:j≠i:=by omega
 simp[this]
theorem rn {ms:List Nat}{nd:Nat->Bool}{B:Heap}{K:Env->List (Nat×Heap)->Option R}:∀(r:List Oper) (i:Nat) (e:Env) (N:List (Nat×Heap)),(∀ j,j < r.length->r[j]?=all[i+j]?) ->
  uM C all ms nd i r e N B K=some res ->
  ∃(V:Nat->SV) (X:Nat->Heap) (E:Nat->Env) (L:Nat->List (Nat×Heap)),E i=e/\L i=N/\K (E (i+r.length)) (L (i+r.length))=some res /\
   ∀ j o,i<=j->j<i+r.length->all[j]?=some o->sR C all ms nd B V X E L j o
 |[],i,e,N,_,h=>⟨λ_=>.av .u,λ_=>[],λ_=>e,λ_=>N,rfl,rfl,h,λj o h1 h2=>by simp at h2;omega⟩
 |o::r,i,e,N,hl,h=>by
  have hi:all[i]?=some o:=by simpa using(hl 0 (by simp)).symm
  have hl':∀ j,j<r.length->r[j]?=all[i+1+j]?:=λj hj=>by have:=hl (j+1) (by simp;omega);simpa[RS,S9 1 j]using this
  unfold uM at h;have key:∀(v:SV) (x:Heap) (e1:Env) (N1:List (Nat×Heap)),uM C all ms nd (i+1) r e1 N1 B K=some res ->
    (∀(V:Nat->SV) (X:Nat->Heap) (E:Nat->Env) (L:Nat->List (Nat×Heap)),V i=v->X i=x->E i=e->E (i+1)=e1->L i=N->L (i+1)=N1->sR C all ms nd B V X E L i o) ->
    ∃(V:Nat->SV) (X:Nat->Heap) (E:Nat->Env) (L:Nat->List (Nat×Heap)),E i=e/\L i=N/\K (E (i+(o::r).length)) (L (i+(o::r).length))=some res /\
     ∀ j o',i<=j->j<i+(o::r).length->all[j]?=some o'->sR C all ms nd B V X E L j o':=by
   intro v x e1 N1 h1 h2;obtain⟨V,X,E,L,q1,q2,q3,q4⟩:=rn r (i+1) e1 N1 hl' h1;refine⟨λj=>if j=i then v else V j,λj=>if j=i then x else X j,λj=>if j=i then e else E j,λj=>if j=i then N else L j,by simp,by simp,?_,?_⟩
   ·rw[RJ,show i+(r.length+1)=i+1+r.length by omega,eW E e (by omega:i<i+1+r.length),eW L N (by omega:i<i+1+r.length)];exact q3
   intro j o' hj1 hj2 ho';rcases RW hj1 with rfl|hj1
   ·rw[hi]at ho';cases ho'
    exact h2 _ _ _ _ (by simp) (by simp) (by simp) (by simp[q1]) (by simp) (by simp[q2])
   have:=q4 j o' hj1 (by simp at hj2;omega) ho';unfold sR at this ⊢;rw[eW V v hj1,eW X x hj1,eW E e hj1,eW E e (by omega:i<j+1),eW L N hj1,eW L N (by omega:i<j+1)];exact this
  rcases pV (all:=all) (o:=o) (e:=e) (run:=λe'=>cond (jl C o (dT all o e')&&((dT all o e').all λp=>gV (bN (ms.getD i 0) N B) p.2)&&(N.all λp=>!(bit (ms.getD i 0) p.1)||gF (bN (ms.getD i 0) N B) p.2)&&(!nd i||jV C o (dT all o e')))
   (bj C o { env:=dT all o e',G:=bN (ms.getD i 0) N B } λs'=>
    uM C all ms nd (i+1) r (xg o.dst (s'.env.get (o.dst.getD 0)) e') ((i,s'.G.take (s'.G.length-(bN (ms.getD i 0) N B).length))::N) B K) none)
   (skip:=λe'=>uM C all ms nd (i+1) r (xg o.dst (.av .undef) e') N B K) h with⟨hg,e',he',h⟩|⟨hg,e',he',h⟩
  ·rw[ql he']at h;cases hc:(jl C o (dT all o e)&&((dT all o e).all λp=>gV (bN (ms.getD i 0) N B) p.2)&&(N.all λp=>!(bit (ms.getD i 0) p.1)||gF (bN (ms.getD i 0) N B) p.2)&&(!nd i||jV C o (dT all o e)))with
   |false=>rw[hc]at h;cases h
   |true=>
    rw[hc,UA]at h;simp only[np]at hc;obtain⟨⟨⟨c1,c2⟩,c3⟩,c4⟩:=hc;have c4:nd i=true->jV C o (dT all o e)=true:=λhn=>by rw[hn]at c4;simpa using c4
    rw[sf (by exact c1)]at h;obtain⟨s',hs',h⟩:=A1.1 h;obtain⟨X1,hX1⟩:=oG o s' hs';have hX1:s'.G=X1++bN (ms.getD i 0) N B:=hX1;have ht:s'.G.take (s'.G.length-(bN (ms.getD i 0) N B).length)=X1:=by rw[hX1];simp
    rw[ht]at h;refine key (s'.env.get (o.dst.getD 0)) X1 _ _ h ?_;intro V X E L a1 a2 a3 a4 a5 a6;refine⟨λt=>?_,.inl ⟨by rw[a3];exact hg,by rw[a6,a2,a5],by rw[a3,a5];exact c2,by rw[a5];exact c3,by rw[a3];exact c4,s',by rw[a3,a5];exact hs',a1,by rw[a2,a5];exact hX1⟩⟩;rw[a4,a1,a3,sH,he' t]
  refine key (.av .undef) [] _ _ h ?_;intro V X E L a1 a2 a3 a4 a5 a6;refine⟨λt=>?_,.inr ⟨by rw[a3];exact hg,by rw[a6,a5],a1,a2⟩⟩;rw[a4,a1,a3,sH,he' t]
def sU(C:Ctx)(all:List Oper)(kd:Nat->Bool)(V:Nat->SV)(E:Nat->Env)(H:Nat->Heap)(j:Nat)(o:Oper):Prop:=
 (∀ t,(E (j+1)).get t=if o.dst=some t then V j else(E j).get t) /\
 ((l9 all o (E j) true/\∃ s',bj C o ⟨dT all o (E j),H j⟩ some=some s'/\V j=s'.env.get (o.dst.getD 0)/\s'.G=H (j+1)/\(kd j=true->∀ id l,C.vr id=false->(H j).get id=some (.box l)->(H (j+1)).get id=some (.box l))) \/
  (l9 all o (E j) false/\V j=.av .undef/\H (j+1)=H j))
theorem uD(dst:Option Nat)(v:SV)(e:Env)(G:Heap)(t:Nat):(ah dst v ⟨e,G⟩).env.get t=if dst=some t then v else e.get t:=by
 cases dst with
 |none=>simp[ah]
 |some d=>simp[ah,Env.get_cons]
theorem qO {kd:Nat->Bool}{K:Env->Heap->Option R}:∀(r:List Oper) (i:Nat) (e:Env) (G:Heap),(∀ j,j < r.length->r[j]?=all[i+j]?)->mJ C all kd i r e G K=some res ->
  ∃(V:Nat->SV) (E:Nat->Env) (H:Nat->Heap),E i=e/\H i=G/\K (E (i+r.length)) (H (i+r.length))=some res /\
   ∀ j o,i<=j->j<i+r.length->all[j]?=some o->sU C all kd V E H j o
 |[],i,e,G,_,h=>⟨λ_=>.av .u,λ_=>e,λ_=>G,rfl,rfl,h,λj o h1 h2=>by simp at h2;omega⟩
 |o::r,i,e,G,hl,h=>by
  have hi:all[i]?=some o:=by simpa using(hl 0 (by simp)).symm
  have hl':∀ j,j<r.length->r[j]?=all[i+1+j]?:=λj hj=>by have:=hl (j+1) (by simp;omega);simpa[RS,S9 1 j]using this
  unfold mJ at h;have key:∀(v:SV) (e1:Env) (G1:Heap),mJ C all kd (i+1) r e1 G1 K=some res ->
    (∀(V:Nat->SV) (E:Nat->Env) (H:Nat->Heap),V i=v->E i=e->E (i+1)=e1->H i=G->H (i+1)=G1->sU C all kd V E H i o) ->
    ∃(V:Nat->SV) (E:Nat->Env) (H:Nat->Heap),E i=e/\H i=G/\K (E (i+(o::r).length)) (H (i+(o::r).length))=some res /\
     ∀ j o',i<=j->j<i+(o::r).length->all[j]?=some o'->sU C all kd V E H j o':=by
   intro v e1 G1 h1 h2;obtain⟨V,E,H,q1,q2,q3,q4⟩:=qO r (i+1) e1 G1 hl' h1;refine⟨λj=>if j=i then v else V j,λj=>if j=i then e else E j,λj=>if j=i then G else H j,by simp,by simp,?_,?_⟩
   ·rw[RJ,show i+(r.length+1)=i+1+r.length by omega,eW E e (by omega:i<i+1+r.length),eW H G (by omega:i<i+1+r.length)];exact q3
   intro j o' hj1 hj2 ho';rcases RW hj1 with rfl|hj1
   ·rw[hi]at ho';cases ho'
    exact h2 _ _ _ (by simp) (by simp) (by simp[q1]) (by simp) (by simp[q2])
   have:=q4 j o' hj1 (by simp at hj2;omega) ho';unfold sU at this ⊢;rw[eW V v hj1,eW E e hj1,eW E e (by omega:i<j+1),eW H G hj1,eW H G (by omega:i<j+1)];exact this
  rcases pV (all:=all) (o:=o) (e:=e) (run:=λe'=>cond (jl C o (dT all o e')) (bj C o { env:=dT all o e',G:=G } λs'=>
   cond (!kd i||ic C G s'.G) (mJ C all kd (i+1) r (ah o.dst (s'.env.get (o.dst.getD 0)) { env:=e',G:=[] }).env s'.G K) none) none)
   (skip:=λe'=>mJ C all kd (i+1) r (ah o.dst (.av .undef) { env:=e',G:=[] }).env G K) h with⟨hg,e',he',h⟩|⟨hg,e',he',h⟩
  ·rw[ql he']at h;cases hc:jl C o (dT all o e)with
   |false=>rw[hc]at h;cases h
   |true=>
    rw[hc,UA,sf (by exact hc)]at h;obtain⟨s',hs',h⟩:=A1.1 h;obtain⟨X1,hX1⟩:=oG o s' hs';cases hkb:(!kd i||ic C G s'.G)with
    |false=>rw[hkb]at h;cases h
    |true=>
    rw[hkb,UA]at h;have hkb:kd i=true->∀ id l,C.vr id=false->G.get id=some (.box l)->s'.G.get id=some (.box l):=λhk=>tw (by rw[hk]at hkb;simpa using hkb) hX1;refine key (s'.env.get (o.dst.getD 0)) _ _ h ?_;intro V E H a1 a2 a3 a4 a5;refine⟨λt=>?_,.inl ⟨by rw[a2];exact hg,s',by rw[a2,a4];exact hs',a1,a5.symm,by rw[a4,a5];exact hkb⟩⟩;rw[a3,a1,a2,uD,he' t]
  refine key (.av .undef) _ _ h ?_;intro V E H a1 a2 a3 a4 a5;refine⟨λt=>?_,.inr ⟨by rw[a2];exact hg,a1,by rw[a5,a4]⟩⟩;rw[a3,a1,a2,uD,he' t]
theorem JN{m j:Nat}:bit m j=true↔m.testBit j=true:=by
 unfold bit Nat.testBit;constructor
 ·intro h;rw[xy h];rfl
 intro h;rw[Nat.one_and_eq_mod_two]at h ⊢;have:(m >>> j)%2<2:=Nat.mod_lt _ (by omega);have h0:(m >>> j)%2≠0:=by simpa using h
 have:(m >>> j)%2=1:=by omega
 rw[this];rfl
def kO(acc:List Nat)(o:Oper):Nat:=o.after.toList.foldl (λm e=>cond (Region.binds .any e) (m ||| 2^e.on ||| acc.getD e.on 0) m) 0
theorem Am:∀(l:List Oper) (acc:List Nat),∃ r,gv l acc=acc++r/\r.length=l.length
 |[],acc=>⟨[],by simp[gv],rfl⟩
 |o::l,acc=>by obtain⟨r,h1,h2⟩:=Am l (acc++[kO acc o]);exact⟨kO acc o::r,by show gv l (acc++[kO acc o])=_;rw[h1];simp,by simp[h2]⟩
theorem vG:∀(l:List Oper) (acc:List Nat) (j:Nat) (o:Oper),l[j]?=some o->(gv l acc).getD (acc.length+j) 0=kO ((gv l acc).take (acc.length+j)) o
 |[],_,j,_,h=>by simp at h
 |o::l,acc,0,o',h=>by simp only[B5,bd]at h;subst h;obtain⟨r,h1,_⟩:=Am l (acc++[kO acc o]);show(gv l (acc++[kO acc o])).getD _ 0=kO ((gv l (acc++[kO acc o])).take _) o;rw[h1];simp
 |o::l,acc,j+1,o',h=>by have:=vG l (acc++[kO acc o]) j o' (by simpa using h);rw[show acc.length+(j+1)=(acc++[kO acc o]).length+j by simp;omega];exact this
theorem uV (acc:List Nat)(j:Nat):∀(l:List Edge) (m:Nat),bit (l.foldl (fun m e=>cond (Region.binds .any e) (m ||| 2 ^ e.on ||| acc.getD e.on 0) m) m) j=true ↔
  bit m j=true\/∃ e∈l,Region.binds .any e=true/\(e.on=j\/bit (acc.getD e.on 0) j=true)
 |[],m=>by simp
 |e::l,m=>by
  rw[List.foldl_cons,uV acc j l];cases hb:Region.binds .any e with
  |false=>simp[hb]
  |true=>
   simp only[UA,JN,Nat.testBit_or,Nat.testBit_two_pow,RV,decide_eq_true_eq,A6,exists_eq_or_imp,hb,true_and];constructor
   ·rintro((h|h)|h)
    ·rcases h with h|h
     ·exact .inl h
     exact .inr (.inl (.inl h))
    ·exact .inr (.inl (.inr h))
    exact .inr (.inr h)
   rintro(h|(h|h)|h)
   ·exact .inl (.inl (.inl h))
   ·exact .inl (.inl (.inr h))
   ·exact .inl (.inr h)
   exact .inr h
end
end Go.Vm

/-
 What must come before what; memory and slots behind a set of operations.
-/
namespace Go.Vm
section
variable {C:Ctx}{R:Type}{res:R}{all:List Oper}
def Fr(k:Nat)(nd:Nat->Bool)(j:Nat)(o:Oper):Bool:=gC o||(decide (j<k)&&nd j)
structure OrdOK (all:List Oper)(ms:List Nat)(k:Nat)(nd kd:Nat->Bool):Prop where
 le:k<=all.length
 edge:∀(i:Nat) (o:Oper) (e:Edge),all[i]?=some o->e∈o.after.toList->Region.binds .any e=true->e.on<i
 pre:∀ i o j,all[i]?=some o->(bit (ms.getD i 0) j=true↔∃ e∈o.after.toList,Region.binds .any e=true/\(e.on=j\/bit (ms.getD e.on 0) j=true))
 cls:∀ i j,i<k->j<k->(oa all).getD i 0=(oa all).getD j 0->i=j
 looks:∀ i o t,all[i]?=some o->t∈looks all o->∀ q o',all[q]?=some o'->o'.dst=some t->bit (ms.getD i 0) q=true\/bit (ms.getD q 0) i=true
 uniq:∀(p q:Nat) (o o':Oper) (d:Nat),all[p]?=some o->all[q]?=some o'->o.dst=some d->o'.dst=some d->p=q
 chain:∀ i o,k<=i->all[i]?=some o->∀ j o',j<i->all[j]?=some o'->bit (ms.getD i 0) j=true\/Fr k nd j o'=true
 kept:∀ i j,k<=i->i<all.length->j<k->nd j=true->bit (ms.getD i 0) j=false->kd i=true
theorem OrdOK.lt{ms:List Nat}{k:Nat}{nd kd:Nat->Bool}(h:OrdOK all ms k nd kd):∀{i j:Nat},i<all.length->bit (ms.getD i 0) j=true->j<i:=by
 intro i;induction i using Nat.strongRecOn with
 |ind i ih=>
  intro j hi hb;obtain⟨o,ho⟩:∃ o,all[i]?=some o:=⟨_,dg hi⟩;obtain⟨e,he,hbe,h1⟩:=(h.pre i o j ho).1 hb;have hlt:=h.edge i o e ho he hbe;rcases h1 with h1|h1
  ·omega
  have:=ih e.on hlt (by omega) h1;omega
theorem rh:∀{l:List Nat} {i j:Nat} {a:Nat},aM l=true->l[i]?=some a->l[j]?=some a->i=j
 |[],_,_,_,_,h,_=>by simp at h
 |b::l,0,0,_,_,_,_=>rfl
 |b::l,0,j+1,a,hn,h1,h2=>by simp only[aM,np,L7]at hn;simp only[B5,bd]at h1;subst h1;have hm:b∈l:=B7 (i:=j) (by simpa using h2);have:=hn.1;rw[Sa]at this;exact absurd (SU b) (by simpa using this b hm)
 |b::l,i+1,0,a,hn,h1,h2=>by simp only[aM,np,L7]at hn;simp only[B5,bd]at h2;subst h2;have hm:b∈l:=B7 (i:=i) (by simpa using h1);have:=hn.1;rw[Sa]at this;exact absurd (SU b) (by simpa using this b hm)
 |b::l,i+1,j+1,a,hn,h1,h2=>by simp only[aM,np]at hn;exact congrArg (·+1) (rh (i:=i) (j:=j) hn.2 (by simpa using h1) (by simpa using h2))
theorem jD:∀{l:List Oper} {i j:Nat} {o o':Oper} {d:Nat},aM (l.filterMap λo=>o.dst)=true->l[i]?=some o->l[j]?=some o'->o.dst=some d->o'.dst=some d->i=j
 |[],_,_,_,_,_,_,h,_,_,_=>by simp at h
 |b::l,0,0,_,_,_,_,_,_,_,_=>rfl
 |b::l,0,j+1,o,o',d,hn,h1,h2,d1,d2=>by simp only[B5,bd]at h1;subst h1;rw[Tl d1]at hn;simp only[aM,np,L7]at hn;have hm:d∈l.filterMap λo=>o.dst:=Ub.2 ⟨o',B7 (i:=j) (by simpa using h2),d2⟩;have:=hn.1;rw[Sa]at this;exact absurd (SU d) (by simpa using this d hm)
 |b::l,i+1,0,o,o',d,hn,h1,h2,d1,d2=>by simp only[B5,bd]at h2;subst h2;rw[Tl d2]at hn;simp only[aM,np,L7]at hn;have hm:d∈l.filterMap λo=>o.dst:=Ub.2 ⟨o,B7 (i:=i) (by simpa using h1),d1⟩;have:=hn.1;rw[Sa]at this;exact absurd (SU d) (by simpa using this d hm)
 |b::l,i+1,j+1,o,o',d,hn,h1,h2,d1,d2=>by
  have hn':aM (l.filterMap λo=>o.dst)=true:=by
   cases hb:b.dst with
   |none=>rwa[List.filterMap_cons_none hb]at hn
   |some x=>rw[Tl hb]at hn;simp only[aM,np]at hn;exact hn.2
  exact congrArg (·+1) (jD (i:=i) (j:=j) hn' (by simpa using h1) (by simpa using h2) d1 d2)
theorem mc{lt:Bool}{m:Nat}:∀{l:List Oper} {j0 t:Nat} {o:Oper},fP lt m j0 l=true->l[t]?=some o->bit m (j0+t)=true\/gC o=true\/(lt=true/\sZ o=true)
 |[],_,_,_,_,h=>by simp at h
 |b::l,j0,0,o,h,h1=>by
  simp only[B5,bd]at h1;subst h1;simp only[fP,np,RV]at h;rcases h.1 with(h|h)|h
  ·exact .inl h
  ·exact .inr (.inl h)
  exact .inr (.inr h)
 |b::l,j0,t+1,o,h,h1=>by simp only[fP,np]at h;have:=mc h.2 (t:=t) (by simpa using h1);rwa[show j0+(t+1)=j0+1+t by omega]
theorem nH{lt:Bool}{ms:List Nat}:∀{n i:Nat},n-jE lt all ms n<=i->i<n->fP (lt && !fQ all i) (ms.getD i 0) 0 (all.take i)=true
 |0,_,_,h=>by omega
 |n+1,i,h,hi=>by
  simp only[jE]at h;cases hc:(fP (lt && !fQ all n) (ms.getD n 0) 0 (all.take n)&&(!(lt&&fQ all n)||(A2 all.length).all λi=>RD i n||bit (ms.getD i 0) n))with
  |false=>rw[hc]at h;simp at h;omega
  |true=>
   rw[hc,UA]at h;have hb:=(np _ _▸hc:_/\_).1;rcases RW (Sk hi)with rfl|hlt
   ·exact hb
   exact nH (by omega) hlt
theorem ud{l:List Oper}{i:Nat}{o:Oper}(h:l[i]?=some o):(o,i)∈l.zipIdx:=by rw[List.mem_zipIdx_iff_getElem?];exact h
theorem NV{lt:Bool}{k:Nat}(hk:k=all.length-jE lt all (gv all []) all.length)(h:okA lt all (gv all []) k=true):OrdOK all (gv all []) k (l8 lt all (gv all []) k) (Eh lt all (gv all []) k):=by
 simp only[okA,np]at h;obtain⟨⟨⟨⟨h0,h1⟩,h2⟩,h4⟩,h5⟩:=h;simp only[A9]at h1 h4;have hle:k<=all.length:=by omega
 have hedge:∀(i:Nat) (o:Oper) (e:Edge),all[i]?=some o->e∈o.after.toList->Region.binds .any e=true->e.on<i:=by intro i o e ho he hb;have:=h1 (o,i) (ud ho) e he;rw[hb]at this;exact L9 (by simpa[Tv]using this)
 refine⟨hle,hedge,?_,?_,?_,λp q o o' d=>jD h5,?_,?_⟩
 ·intro i o j ho;have hg:=vG all [] i o ho;simp only[List.length_nil,RM]at hg;rw[hg];unfold kO;rw[uV];constructor
  ·rintro(h|⟨e,he,hb,h⟩)
   ·simp[bit]at h
   refine⟨e,he,hb,?_⟩;rcases h with h|h
   ·exact .inl h
   right;have hlt:=hedge i o e ho he hb;rw[Sp,L8,if_pos hlt,<- Sp]at h;exact h
  rintro⟨e,he,hb,h⟩;right;refine⟨e,he,hb,?_⟩;rcases h with h|h
  ·exact .inl h
  right;have hlt:=hedge i o e ho he hb;rw[Sp,L8,if_pos hlt,<- Sp];exact h
 ·intro i j hi hj he;have get:∀ i,i<k->(oa (all.take k))[i]?=some ((oa all).getD i 0):=by intro i hi;obtain⟨o,ho⟩:∃ o,all[i]?=some o:=⟨_,dg (by omega)⟩;simp[oa,L8,hi,ho,Sp]
  exact rh h2 (get i hi) (by rw[he];exact get j hj)
 ·intro i o t ho ht q o' ho' hd;have:=h4 (o,i) (ud ho) t ht (o',q) (ud ho');simp only[hd,SU,UA,RV]at this;exact this
 ·intro i o hi ho j o' hj ho';have hlt:i<all.length:=(A7.1 ho).1;cases hbit:bit ((gv all []).getD i 0) j with
  |true=>exact .inl rfl
  |false=>
  right;have:=mc (nH (lt:=lt) (all:=all) (ms:=gv all []) (n:=all.length) (by omega) hlt) (t:=j) (o:=o') (by rw[L8,if_pos hj];exact ho');rw[RM,hbit]at this;unfold Fr;rcases this with h|h|⟨h,hl⟩
  ·cases h
  ·rw[h];rfl
  simp only[np]at h;obtain⟨hlt2,_⟩:=h;have hla:fQ all j=true:=by simp[fQ,ho',hl]
  have hjk:j<k:=by
   rcases Nat.lt_or_ge j k with hjk|hjk
   ·exact hjk
   rw[hlt2]at h0;have h0:s9 all (gv all []) k=true:=by simpa using h0
   unfold s9 at h0;rw[A9]at h0;have h0:=h0 i (RF.2 hlt);have:Tv i k=false:=by
    cases hq:Tv i k with
    |false=>rfl
    |true=>
     have:i<k:=by simpa[UO]using hq
     omega
   rw[this,Sw,A9]at h0;have h0:=h0 j (RF.2 hj);have:Tv j k=false:=by
    cases hq:Tv j k with
    |false=>rfl
    |true=>
     have:j<k:=by simpa[UO]using hq
     omega
   rw[this,hbit,hla]at h0;cases h0
  have:l8 lt all (gv all []) k j=true:=by unfold l8;rw[hlt2,hla,SQ,SQ,Sc];exact⟨i,RF.2 hlt,by rw[hbit];simp[Nat.ble_eq,hi]⟩
  rw[this];simp[hjk]
 intro i j hi hil hj hn hb;unfold l8 at hn;simp only[np]at hn;obtain⟨⟨hl,hla⟩,_⟩:=hn;unfold Eh;rw[hl,SQ,Sc];exact⟨j,RF.2 hj,by rw[hla,hb];rfl⟩
structure Trace (C:Ctx)(all:List Oper)(ms:List Nat)(k:Nat)(nd kd:Nat->Bool)(s:St)(V:Nat->SV)(X:Nat->Heap)(E:Nat->Env)(L:Nat->List (Nat×Heap))(H:Nat->Heap):Prop where
 e0:E 0=s.env
 l0:L 0=[]
 stepA:∀ j o,j<k->all[j]?=some o->sR C all ms nd s.G V X E L j o
 stepT:∀ j o,k<=j->all[j]?=some o->sU C all kd V E H j o
 hk:H k=(L k).foldr (λp G=>p.2++G) s.G
theorem rJ {lt:Bool}{s:St}{K:St->Option R}(h:ke C lt all s K=some res) :
  ∃ k nd kd V X E L H,OrdOK all (gv all []) k nd kd/\Trace C all (gv all []) k nd kd s V X E L H/\okN all (gv all []) k (L k) s.G=true/\K ⟨E all.length,H all.length⟩=some res:=by
 unfold ke at h;dsimp only at h;obtain⟨k,hk⟩:∃ k,k=all.length-jE lt all (gv all []) all.length:=⟨_,rfl⟩;rw[<- hk]at h;cases hA:okA lt all (gv all []) k with
 |false=>rw[hA]at h;cases h
 |true=>
  rw[hA,UA]at h;have ho:=NV hk hA;have hle:=ho.le;obtain⟨V,X,E,L,a1,a2,a3,a4⟩:=rn (all.take k) 0 s.env [] (λj hj=>by rw[L8];simp at hj;simp;omega) h;have hl:(all.take k).length=k:=by simp;omega
  simp only[RM,hl]at a3 a4;cases hN:okN all (gv all []) k (L k) s.G with
  |false=>rw[hN]at a3;cases a3
  |true=>
   rw[hN,UA]at a3;obtain⟨V2,E2,H,b1,b2,b3,b4⟩:=qO (all.drop k) k (E k) _ (λj hj=>by rw[List.getElem?_drop]) a3;have hl2:k+(all.drop k).length=all.length:=by simp;omega
   rw[hl2]at b3 b4;refine⟨k,_,_,λi=>if i<k then V i else V2 i,X,λi=>if i<k then E i else E2 i,L,H,ho,⟨?_,a2,?_,?_,b2⟩,hN,?_⟩
   ·by_cases h0:0<k
    ·simp[h0,a1]
    have:k=0:=by omega
    subst this;simp[b1,a1]
   ·intro j o hj hoj;have:=a4 j o (Nat.zero_le _) hj hoj;have e1:(if j+1<k then E (j+1)else E2 (j+1))=E (j+1):=by
     split
     ·rfl
     have:j+1=k:=by omega
     rw[this,b1]
    unfold sR at this ⊢;dsimp only;rw[e1,if_pos hj,if_pos hj];exact this
   ·intro j o hj hoj;have:=b4 j o hj (A7.1 hoj).1 hoj;unfold sU at this ⊢;dsimp only;rw[if_neg (by omega),if_neg (by omega),if_neg (by omega)];exact this
   dsimp only;rw[if_neg (by omega)];exact b3
def dB(all:List Oper)(i:Nat):Option Nat:=(all[i]?).bind (·.dst)
noncomputable def lX(all:List Oper)(V:Nat->SV)(e0:Env)(S:Nat->Bool):Nat->Nat->SV
 |0,t=>e0.get t
 |i+1,t=>if S i=true/\dB all i=some t then V i else lX all V e0 S i t
def dO(S:Nat->Bool)(i:Nat):Nat->Bool:=λj=>S j||j==i
theorem gX{V:Nat->SV}{e0:Env}{S S':Nat->Bool}{t:Nat}:∀{n:Nat},(∀ q,q<n->dB all q=some t->S q=S' q)->lX all V e0 S n t=lX all V e0 S' n t
 |0,_=>rfl
 |n+1,h=>by
  simp only[lX];by_cases hd:dB all n=some t
  ·rw[h n (by omega) hd,gX λq hq=>h q (by omega)]
  simp only[hd,and_false,if_false];exact gX λq hq=>h q (by omega)
theorem oc{V:Nat->SV}{e0:Env}{S:Nat->Bool}{t:Nat}:∀{n:Nat},(∀ q,q<n->dB all q=some t->S q=false)->lX all V e0 S n t=e0.get t
 |0,_=>rfl
 |n+1,h=>by simp only[lX];rw[if_neg,oc λq hq=>h q (by omega)];rintro⟨h1,h2⟩;rw[h n (by omega) h2]at h1;cases h1
theorem rl{ms:List Nat}{k:Nat}{nd kd:Nat->Bool}(ho:OrdOK all ms k nd kd){V:Nat->SV}{e0:Env}{S:Nat->Bool}{i t:Nat}:∀{n:Nat},n<=all.length->i<n->lX all V e0 (dO S i) n t=if dB all i=some t then V i else lX all V e0 S n t
 |0,_,h=>by omega
 |n+1,hn,h=>by
  by_cases hd:dB all i=some t
  ·rw[if_pos hd];rcases RW (Sk h)with rfl|hlt
   ·simp[lX,dO,hd]
   simp only[lX];rw[if_neg,rl ho (by omega) hlt,if_pos hd];rintro⟨_,h2⟩;unfold dB at hd h2;obtain⟨o,h3,h4⟩:=A1.1 hd;obtain⟨o',h5,h6⟩:=A1.1 h2;have:=ho.uniq i n o o' t h3 h5 h4 h6;omega
  rw[if_neg hd];refine gX λq _ hq=>?_;have:q≠i:=λe=>hd (e▸hq);simp[dO,this]
section
variable {ms:List Nat}{k:Nat}{nd kd:Nat->Bool}{s:St}{V:Nat->SV}{X:Nat->Heap}{E:Nat->Env}{L:Nat->List (Nat×Heap)}{H:Nat->Heap}
theorem Trace.env_step(ho:OrdOK all ms k nd kd)(h:Trace C all ms k nd kd s V X E L H){i:Nat}{o:Oper}(hi:all[i]?=some o)(t:Nat):(E (i+1)).get t=if o.dst=some t then V i else(E i).get t:=by
 by_cases hk:i<k
 ·exact(h.stepA i o hk hi).1 t
 exact(h.stepT i o (by omega) hi).1 t
theorem Trace.env(ho:OrdOK all ms k nd kd)(h:Trace C all ms k nd kd s V X E L H):∀{i:Nat},i<=all.length->∀ t,(E i).get t=lX all V s.env (λq=>decide (q<i)) all.length t
 |0,_,t=>by rw[h.e0,oc];intro q _ _;simp
 |i+1,hi,t=>by
  obtain⟨o,hoi⟩:∃ o,all[i]?=some o:=⟨_,dg (by omega)⟩;have hS:(λq=>decide (q<i+1))=dO (λq=>decide (q<i)) i:=by
   funext q;unfold dO;by_cases h1:q<i
   ·have:q<i+1:=by omega
    simp[h1,this]
   by_cases h2:q=i
   ·simp[h2]
   have:¬q<i+1:=by omega
   simp[h1,h2,this]
  rw[h.env_step ho hoi,hS,rl ho (B2 _) (by omega),h.env ho (by omega)];simp[dB,hoi]
def Closed(all:List Oper)(ms:List Nat)(S:Nat->Bool):Prop:=∀ i,S i=true->i<all.length/\∀ j,bit (ms.getD i 0) j=true->S j=true
theorem Trace.seen (ho:OrdOK all ms k nd kd)(h:Trace C all ms k nd kd s V X E L H){S:Nat->Bool}(hS:Closed all ms S){i:Nat}{o:Oper}(hi:all[i]?=some o)(hn:S i=false)(hp:∀ j,bit (ms.getD i 0) j=true->S j=true)
  {t:Nat} (ht:t∈looks all o):(E i).get t=lX all V s.env S all.length t:=by
 have hlt:i<all.length:=(A7.1 hi).1;rw[h.env ho (by omega)];refine gX λq hq hd=>?_;unfold dB at hd;obtain⟨o',h1,h2⟩:=A1.1 hd;rcases ho.looks i o t hi ht q o' h1 h2 with h3|h3
 ·rw[hp q h3];simp[ho.lt hlt h3]
 have:=ho.lt hq h3;have hSq:S q=false:=by
  cases hh:S q with
  |false=>rfl
  |true=>rw[(hS q hh).2 i h3]at hn;cases hn
 rw[hSq];simp;omega
theorem Closed.put(ho:OrdOK all ms k nd kd){S:Nat->Bool}(hS:Closed all ms S){i:Nat}(hi:i<all.length)(hp:∀ j,bit (ms.getD i 0) j=true->S j=true):Closed all ms (dO S i):=by
 intro j hj;unfold dO at hj;simp only[RV,beq_iff_eq]at hj;rcases hj with hj|rfl
 ·exact⟨(hS j hj).1,λq hq=>by simp[dO,(hS j hj).2 q hq]⟩
 exact⟨hi,λq hq=>by simp[dO,hp q hq]⟩
noncomputable def look(X:Nat->Heap)(B:Heap)(S:Nat->Bool):Nat->Nat->Option Obj
 |0,id=>B.get id
 |j+1,id=>match cond (S j) ((X j).get id) none with
  |some o=>some o
  |none=>look X B S j id
theorem lI {X:Nat->Heap}{B:Heap}{S:Nat->Bool}{id:Nat}{o:Obj}:∀{j:Nat},look X B S j id=some o ->
  (∃ q,q<j/\S q=true/\(X q).get id=some o/\∀ q',q<q'->q'<j->S q'=true->(X q').get id=none)\/((∀ q,q<j->S q=true->(X q).get id=none)/\B.get id=some o)
 |0,h=>.inr ⟨λq hq=>by omega,h⟩
 |j+1,h=>by
  simp only[look]at h;split at h
  ·rename_i o' ho';cases h;cases hS:S j with
   |false=>rw[hS]at ho';cases ho'
   |true=>rw[hS]at ho';exact .inl ⟨j,by omega,hS,ho',λq' h1 h2=>by omega⟩
  rename_i hn;have hj:S j=true->(X j).get id=none:=λhS=>by rw[hS]at hn;exact hn
  rcases lI h with⟨q,h1,h2,h3,h4⟩|⟨h1,h2⟩
  ·refine .inl ⟨q,by omega,h2,h3,λq' g1 g2 g3=>?_⟩;rcases RW (Sk g2)with rfl|g2
   ·exact hj g3
   exact h4 q' g1 g2 g3
  refine .inr ⟨λq g1 g2=>?_,h2⟩;rcases RW (Sk g1)with rfl|g1
  ·exact hj g2
  exact h1 q g1 g2
theorem jz{X:Nat->Heap}{B:Heap}{S:Nat->Bool}{id:Nat}:∀{j:Nat},(∀ q,q<j->S q=true->(X q).get id=none)->look X B S j id=B.get id
 |0,_=>rfl
 |j+1,h=>by
  simp only[look];cases hS:S j with
  |false=>exact jz λq hq=>h q (by omega)
  |true=>rw[UA,h j (by omega) hS];exact jz λq hq=>h q (by omega)
theorem ug{X:Nat->Heap}{B:Heap}{S:Nat->Bool}{id:Nat}{o:Obj}:∀{j q:Nat},q<j->S q=true->(X q).get id=some o->(∀ q',q<q'->q'<j->S q'=true->(X q').get id=none)->look X B S j id=some o
 |0,_,h,_,_,_=>by omega
 |j+1,q,h,hS,ho,hl=>by
  simp only[look];rcases RW (Sk h)with rfl|hlt
  ·rw[hS,UA,ho]
  have:cond (S j) ((X j).get id) none=none:=by
   cases hSj:S j with
   |false=>rfl
   |true=>exact hl j hlt (by omega) hSj
  rw[this];exact ug hlt hS ho λq' h1 h2=>hl q' h1 (by omega)
theorem iK{X:Nat->Heap}{B:Heap}{S S':Nat->Bool}{id:Nat}:∀{j:Nat},(∀ q,q<j->S q=S' q\/(X q).get id=none)->look X B S j id=look X B S' j id
 |0,_=>rfl
 |j+1,h=>by
  simp only[look];have:cond (S j) ((X j).get id) none=cond (S' j) ((X j).get id) none:=by
   rcases h j (by omega)with h|h
   ·rw[h]
   rw[h];cases S j<;>cases S' j<;>rfl
  rw[this];split
  ·rfl
  exact iK λq hq=>h q (by omega)
theorem Trace.l_step(h:Trace C all ms k nd kd s V X E L H){j:Nat}(hj:j<k)(hle:k<=all.length):L (j+1)=(j,X j)::L j\/(L (j+1)=L j/\X j=[]):=by
 obtain⟨o,ho⟩:∃ o,all[j]?=some o:=⟨_,dg (by omega)⟩;rcases(h.stepA j o hj ho).2 with⟨_,h1,_⟩|⟨_,h1,_,h2⟩
 ·exact .inl h1
 exact .inr ⟨h1,h2⟩
theorem Trace.heapFor_get(h:Trace C all ms k nd kd s V X E L H)(hle:k<=all.length)(m:Nat):∀{j:Nat},j<=k->∀ id,(bN m (L j) s.G).get id=look X s.G (bit m) j id
 |0,_,id=>by rw[h.l0];rfl
 |j+1,hj,id=>by
  simp only[look];have ih:=h.heapFor_get hle m (j:=j) (by omega) id;rcases h.l_step (by omega:j<k) hle with h1|⟨h1,h2⟩
  ·rw[h1];show(cond (bit m j) (X j++bN m (L j) s.G) (bN m (L j) s.G)).get id=_;cases hb:bit m j with
   |false=>exact ih
   |true=>rw[UA,UA,Heap.get_append,ih];try (cases(X j).get id<;>rfl)
  rw[h1,h2,ih];have:cond (bit m j) (Heap.get [] id) none=none:=by cases bit m j<;>rfl
  rw[this]
theorem Trace.all_get(h:Trace C all ms k nd kd s V X E L H)(hle:k<=all.length):∀{j:Nat},j<=k->∀ id,((L j).foldr (λp G=>p.2++G) s.G).get id=look X s.G (λ_=>true) j id
 |0,_,id=>by rw[h.l0];rfl
 |j+1,hj,id=>by
  simp only[look,UA];have ih:=h.all_get hle (j:=j) (by omega) id;rcases h.l_step (by omega:j<k) hle with h1|⟨h1,h2⟩
  ·rw[h1,List.foldr_cons,Heap.get_append,ih];try (show(match(X j).get id with|some o=>some o|none=>_)=_;cases(X j).get id<;>rfl)
  rw[h1,h2,ih];rfl
theorem Trace.l_mem(h:Trace C all ms k nd kd s V X E L H)(hle:k<=all.length):∀{j q:Nat},j<=k->q<j->X q=[]\/(q,X q)∈L j
 |0,_,_,hq=>by omega
 |j+1,q,hj,hq=>by
  rcases h.l_step (by omega:j<k) hle with h1|⟨h1,h2⟩
  ·rw[h1];rcases RW (Sk hq)with rfl|hlt
   ·exact .inr (by simp)
   rcases h.l_mem hle (by omega) hlt with h|h
   ·exact .inl h
   exact .inr (by simp[h])
  rw[h1];rcases RW (Sk hq)with rfl|hlt
  ·exact .inl h2
  exact h.l_mem hle (by omega) hlt
structure Sep (all:List Oper)(ms:List Nat)(k:Nat)(X:Nat->Heap)(B:Heap):Prop where
 base:∀ q id o,q<k->(X q).get id=some o->B.get id=none
 two:∀ p q id o o',p<k->q<k->(X p).get id=some o->(X q).get id=some o'->p=q \/
  ((bit (ms.getD p 0) q=true\/bit (ms.getD q 0) p=true)/\∀ i,i<k->bit (ms.getD i 0) p=false\/i=q\/bit (ms.getD i 0) q=true\/bit (ms.getD q 0) i=true)
theorem Trace.sep(h:Trace C all ms k nd kd s V X E L H)(hle:k<=all.length)(hN:okN all ms k (L k) s.G=true):Sep all ms k X s.G:=by
 have mem:∀ q id o,q<k->(X q).get id=some o->(q,X q)∈L k/\(id,o)∈X q:=by
  intro q id o hq hg;rcases h.l_mem hle (B2 _) hq with h1|h1
  ·rw[h1]at hg;simp[Heap.get_nil0,Heap.get_pair]at hg
  exact⟨h1,Heap.mem_of_get hg⟩
 simp only[okN,A9]at hN;refine⟨λq id o hq hg=>?_,λp q id o o' hp hq hg hg'=>?_⟩
 ·obtain⟨h1,h2⟩:=mem q id o hq hg;have:=hN _ h1 _ h2;simp only[np,L7]at this;cases hb:s.G.get id with
  |none=>rfl
  |some o'=>have h3:=this.1;rw[Heap.has_of_get hb]at h3;cases h3
 obtain⟨h1,h2⟩:=mem p id o hp hg;obtain⟨h3,h4⟩:=mem q id o' hq hg';have:=hN _ h1 _ h2;simp only[np]at this;have:=this.2;rw[A9]at this;have:=this _ h3;simp only[RV,np]at this;rcases this with(h5|h5)|⟨h5,h6⟩
 ·exact .inl (xy h5)
 ·simp only[L7]at h5;rw[Sa]at h5;exact absurd (SU id) (by simpa using h5 _ h4)
 refine .inr ⟨h5,λi hi=>?_⟩;rw[A9]at h6;have:=h6 i (by simpa using hi);simp only[RV,L7]at this;rcases this with((h7|h7)|h7)|h7
 ·exact .inl h7
 ·exact .inr (.inl (xy h7))
 ·exact .inr (.inr (.inl h7))
 exact .inr (.inr (.inr h7))
theorem vU (ho:OrdOK all ms k nd kd){B:Heap}(hX:Sep all ms k X B){S:Nat->Bool}(hS:Closed all ms S){i:Nat}(hi:i < k)(hn:S i=false)(hp:∀ j,bit (ms.getD i 0) j=true->S j=true)
  {id:Nat} {o:Obj} (hg:look X B (bit (ms.getD i 0)) i id=some o):look X B S k id=some o:=by
 have hle:=ho.le;rcases lI hg with⟨q,h1,h2,h3,h4⟩|⟨h1,h2⟩
 ·refine ug (by omega) (hp q h2) h3 λq' g1 g2 g3=>?_;cases hx:(X q').get id with
  |none=>rfl
  |some o'=>
   rcases hX.two q q' id o o' (by omega) g2 h3 hx with e|⟨e1,e2⟩
   ·omega
   rcases e2 i hi with e|e|e|e
   ·rw[h2]at e;cases e
   ·subst e;rw[hn]at g3;cases g3
   ·rw[h4 q' g1 (ho.lt (by omega) e) e]at hx;cases hx
   rw[(hS q' g3).2 i e]at hn;cases hn
 rw[jz,h2];intro q g1 g2;cases hx:(X q).get id with
 |none=>rfl
 |some o'=>rw[hX.base q id o' g1 hx]at h2;cases h2
theorem F9 (ho:OrdOK all ms k nd kd){B:Heap}(hX:Sep all ms k X B){S:Nat->Bool}(hS:Closed all ms S){i:Nat}(hi:i < k)(hn:S i=false)
  {id:Nat} {o:Obj} (hx:(X i).get id=some o) (hg:look X B (bit (ms.getD i 0)) i id=none):look X B S k id=none:=by
 have hle:=ho.le;cases hl:look X B S k id with
 |none=>rfl
 |some o'=>
  rcases lI hl with⟨q,h1,h2,h3,h4⟩|⟨h1,h2⟩
  ·rcases hX.two i q id o o' hi h1 hx h3 with e|⟨e1,_⟩
   ·subst e;rw[hn]at h2;cases h2
   rcases e1 with e|e
   ·have hlt:=ho.lt (by omega) e;exfalso
    -- the last of them
    have:∀ j,j<=i->q<j->look X B (bit (ms.getD i 0)) j id≠none:=by
     intro j;induction j with
     |zero=>intro _ h;omega
     |succ j ih=>
      intro hj hq;simp only[look];split
      ·simp
      rename_i hnone;rcases RW (Sk hq)with rfl|hq
      ·rw[e,UA,h3]at hnone;cases hnone
      exact ih (by omega) hq
    exact this i (B2 _) hlt hg
   rw[(hS q h2).2 i e]at hn;cases hn
  rw[hX.base i id o hi hx]at h2;cases h2
theorem ER (ho:OrdOK all ms k nd kd){B:Heap}(hX:Sep all ms k X B){S:Nat->Bool}(hS:Closed all ms S){i:Nat}(hi:i < k)(hn:S i=false)(id:Nat) :
  look X B (dO S i) k id=(match(X i).get id with|some o=>some o|none=>look X B S k id):=by
 have hle:=ho.le;cases hx:(X i).get id with
 |some o=>
  refine ug hi (by simp[dO]) hx λq g1 g2 g3=>?_;cases hq:(X q).get id with
  |none=>rfl
  |some o'=>
   have hSq:S q=true:=by
    simp only[dO,RV,beq_iff_eq]at g3;rcases g3 with g3|g3
    ·exact g3
    omega
   rcases hX.two i q id o o' hi g2 hx hq with e|⟨e1,_⟩
   ·omega
   rcases e1 with e|e
   ·have:=ho.lt (by omega) e;omega
   rw[(hS q hSq).2 i e]at hn;cases hn
 |none=>
  refine iK λq _=>?_;by_cases e:q=i
  ·subst e;exact .inr hx
  left;simp[dO,e]
end
end
end Go.Vm

/-
 Regions whose operations stand in no fixed order.
-/
namespace Go.Vm
section
variable {P:Program}{C:Ctx}{w0:World}{M:Own}{N:Nat}{ops:Array Oper}{ms:List Nat}{k:Nat}{s:St}{nd kd:Nat->Bool}{V:Nat->SV}{X:Nat->Heap}{E:Nat->Env}{L:Nat->List (Nat×Heap)}{H:Nat->Heap}{a:Act}
theorem nN {m:Mem}{f:Nat->SV}{o:Oper}{e:Env}{b:Bool}(hS:∀ t,RelSV m (a.tmps.getD t undef) (f t))(he:∀ t∈looks ops.toList o,e.get t=f t)(hg:l9 ops.toList o e b) :
  Region.wanted o (yielded ops a.tmps)=b:=by
 have slot:∀{j want d},o.guard=some (j,want)->fA ops.toList j=some d->d∈looks ops.toList o:=by intro j want d h1 h2;unfold looks;rw[h1];simp[h2]
 have yv:∀{j d},fA ops.toList j=some d->(ops[j]?).bind (·.dst)=some d:=by
  intro j d hj;unfold fA at hj;rw[R7]at hj;split at hj
  ·rename_i o ho;simp[ho,hj]
  simp at hj
 have get:∀ d v,a.tmps.getD d undef=v->v≠undef->a.tmps[d]?=some v:=by
  intro d v h hne;rw[RE]at h;cases hg:a.tmps[d]? with
  |none=>rw[hg]at h;exact absurd h.symm hne
  |some u=>rw[hg]at h;simp at h;rw[h]
 cases b with
 |true=>
  rcases hg with hg|⟨j,want,d,h1,h2,h3⟩
  ·simp[Region.wanted,hg]
  have hv:=hS d;rw[<- he d (slot h1 h2),h3]at hv;have hv:=get d _ (fk hv) (by simp[undef]);simp[Region.wanted,h1,yielded,yv h2,hv]
 |false=>
  obtain⟨j,want,d,h1,h2,h3⟩:=hg;have hv:=hS d;rw[<- he d (slot h1 h2)]at hv;rcases h3 with h3|h3
  ·rw[h3]at hv;have hv:a.tmps.getD d undef=undef:=hv;rw[RE]at hv;simp only[Region.wanted,h1,yielded,yv h2,Option.bind_some];cases hg:a.tmps[d]? with
   |none=>simp
   |some v=>rw[hg]at hv;simp at hv;subst hv;simp[undef]
  rw[h3]at hv;have hv:=get d _ (fk hv) (by simp[undef]);simp[Region.wanted,h1,yielded,yv h2,hv]
theorem CS {m m':Mem}{o:Oper}{v:Value}{f g:Nat->SV}(he:Evo m m')(hS:∀ t,RelSV m (a.tmps.getD t undef) (f t))(hd:∀ d,o.dst=some d->d < a.tmps.size)
  (hv:∀ d,o.dst=some d->RelSV m' v (g d)) (hg:∀ t,o.dst≠some t->g t=f t):∀ t,RelSV m' ((a.put o.dst v).tmps.getD t undef) (g t):=by
 intro t;rw[uy a o.dst v hd];split
 ·rename_i e;exact hv t e
 rename_i e;rw[hg t e];exact fL he (hS t)
def jL(all:List Oper)(k:Nat)(nd:Nat->Bool)(B:Heap)(X:Nat->Heap)(H:Nat->Heap)(S:Nat->Bool)(G:Heap):Prop:=
 ((∀ l o,k<=l->all[l]?=some o->Fr k nd l o=false->S l=false)/\∀ id,G.get id=look X B S k id) \/
 (∃ j,k<=j/\j<=all.length/\(∀ l o,l<j->all[l]?=some o->Fr k nd l o=false->S l=true)/\(∀ l o,j<=l->all[l]?=some o->Fr k nd l o=false->S l=false)/\∀ id,G.get id=(H j).get id)
theorem Trace.free_new{all:List Oper}(h:Trace C all ms k nd kd s V X E L H){i:Nat}{o:Oper}(hi:i<k)(ho:all[i]?=some o)(hf:Fr k nd i o=true):X i=[]:=by
 rcases(h.stepA i o hi ho).2 with⟨_,_,_,_,hl,s',h1,_,h2⟩|⟨_,_,_,h2⟩
 ·unfold Fr at hf;simp only[RV,np]at hf;have:s'.G=bN (ms.getD i 0) (L i) s.G:=by
   rcases hf with hf|hf
   ·exact(mN hf h1).1
   exact(oR (hl hf.2) h1).1
  rw[h2]at this;simpa using this
 exact h2
theorem Trace.free_heap{all:List Oper}(h:Trace C all ms k nd kd s V X E L H){i:Nat}{o:Oper}(hi:k<=i)(ho:all[i]?=some o)(hf:Fr k nd i o=true):H (i+1)=H i:=by
 have hf:gC o=true:=by
  unfold Fr at hf;simp only[RV,np,decide_eq_true_eq]at hf;rcases hf with hf|hf
  ·exact hf
  omega
 rcases(h.stepT i o hi ho).2 with⟨_,s',h1,_,h2,_⟩|⟨_,_,h2⟩
 ·rw[<- h2,(mN hf h1).1]
 exact h2
theorem Trace.keep_box {all:List Oper}(h:Trace C all ms k nd kd s V X E L H){id:Nat}{b:List Atom}(hvr:C.vr id=false)(h0:(H k).get id=some (.box b)):∀(d:Nat),k+d<=all.length ->
  (∀ l o,k<=l->l<k+d->all[l]?=some o->Fr k nd l o=true\/kd l=true)->(H (k+d)).get id=some (.box b)
 |0,_,_=>h0
 |d+1,hd,hf=>by
  obtain⟨o,ho⟩:∃ o,all[k+d]?=some o:=⟨_,dg (by omega)⟩;have ih:=h.keep_box hvr h0 d (by omega) λl o h1 h2=>hf l o h1 (by omega);rw[show k+(d+1)=k+d+1 by omega];rcases hf _ o (by omega) (by omega) ho with hq|hq
  ·rw[h.free_heap (by omega) ho hq];exact ih
  rcases(h.stepT _ o (by omega) ho).2 with⟨_,s',_,_,_,h2⟩|⟨_,_,h2⟩
  ·exact h2 hq _ _ hvr ih
  rw[h2];exact ih
theorem Trace.free_heaps{all:List Oper}(h:Trace C all ms k nd kd s V X E L H){j:Nat}(hj:k<=j):∀(d:Nat),j+d<=all.length->(∀ l o,j<=l->l<j+d->all[l]?=some o->Fr k nd l o=true)->H (j+d)=H j
 |0,_,_=>rfl
 |d+1,hd,hf=>by obtain⟨o,ho⟩:∃ o,all[j+d]?=some o:=⟨_,dg (by omega)⟩;have:=h.free_heap (by omega:k<=j+d) ho (hf _ o (by omega) (by omega) ho);rw[show j+(d+1)=j+d+1 by omega,this];exact h.free_heaps hj d (by omega) λl o h1 h2=>hf l o h1 (by omega)
theorem zE {all:List Oper}(ho:OrdOK all ms k nd kd)(h:Trace C all ms k nd kd s V X E L H){S:Nat->Bool}{G:Heap}(hH:jL all k nd s.G X H S G){i:Nat}(hki:k<=i)(hi:i<=all.length)
  (hb:∀ l o,l<i->all[l]?=some o->Fr k nd l o=false->S l=true) (ha:∀ l o,i<=l->all[l]?=some o->Fr k nd l o=false->S l=false):∀ id,G.get id=(H i).get id:=by
 have hle:=ho.le;rcases hH with⟨h1,h2⟩|⟨j,j1,j2,j3,j4,j5⟩
 ·have e:H i=H k:=by
   obtain⟨d,rfl⟩:∃ d,i=k+d:=⟨i-k,by omega⟩;refine h.free_heaps (B2 _) d hi λl o l1 l2 hl=>?_;cases hf:Fr k nd l o with
   |true=>rfl
   |false=>have:=h1 l o l1 hl hf;rw[hb l o l2 hl hf]at this;cases this
  intro id;rw[h2,e,h.hk,h.all_get hle (B2 _)];refine iK λq hq=>?_;obtain⟨o,hoq⟩:∃ o,all[q]?=some o:=⟨_,dg (by omega)⟩;cases hf:Fr k nd q o with
  |true=>right;rw[h.free_new hq hoq hf];rfl
  |false=>left;exact hb q o (by omega) hoq hf
 intro id;rw[j5];rcases Nat.le_total j i with hji|hji
 ·obtain⟨d,rfl⟩:∃ d,i=j+d:=⟨i-j,by omega⟩;rw[h.free_heaps j1 d hi λl o l1 l2 hl=>?_];cases hf:Fr k nd l o with
  |true=>rfl
  |false=>have:=j4 l o l1 hl hf;rw[hb l o l2 hl hf]at this;cases this
 obtain⟨d,rfl⟩:∃ d,j=i+d:=⟨j-i,by omega⟩;rw[h.free_heaps hki d j2 λl o l1 l2 hl=>?_];cases hf:Fr k nd l o with
 |true=>rfl
 |false=>have:=j3 l o l2 hl hf;rw[ha l o l1 hl hf]at this;cases this
theorem n7 {all:List Oper}(ho:OrdOK all ms k nd kd)(h:Trace C all ms k nd kd s V X E L H){S:Nat->Bool}{G:Heap}(hH:jL all k nd s.G X H S G){i:Nat}{o:Oper}(hi:all[i]?=some o)(hX:i < k->X i=[])
  (hor:Fr k nd i o=true\/(i<k/\S i=false)):jL all k nd s.G X H (dO S i) G:=by
 have hne:∀ l o',all[l]?=some o'->Fr k nd l o'=false->Fr k nd i o=true->dO S i l=S l:=by
  intro l o' hl hf hfo;have:l≠i:=λe=>by subst e;rw[hi]at hl;cases hl;rw[hf]at hfo;cases hfo
  simp[dO,this]
 rcases hH with⟨h1,h2⟩|⟨j,j1,j2,j3,j4,j5⟩
 ·refine .inl ⟨λl o' hl ho' hf=>?_,λid=>?_⟩
  ·rcases hor with hfo|⟨hlt,_⟩
   ·rw[hne l o' ho' hf hfo];exact h1 l o' hl ho' hf
   have:l≠i:=by omega
   simp only[dO,h1 l o' hl ho' hf,Sw,beq_eq_false_iff_ne,ne_eq];exact this
  rw[h2];refine iK λq hq=>?_;by_cases e:q=i
  ·subst e;right;rw[hX hq];rfl
  left;simp[dO,e]
 rcases hor with hfo|⟨hlt,hn⟩
 ·exact .inr ⟨j,j1,j2,λl o' hl ho' hf=>by rw[hne l o' ho' hf hfo];exact j3 l o' hl ho' hf,λl o' hl ho' hf=>by rw[hne l o' ho' hf hfo];exact j4 l o' hl ho' hf,j5⟩
 refine .inr ⟨j,j1,j2,λl o' hl ho' hf=>by simp[dO,j3 l o' hl ho' hf],λl o' hl ho' hf=>?_,j5⟩;have:l≠i:=by omega
 simp only[dO,j4 l o' hl ho' hf,Sw,beq_eq_false_iff_ne,ne_eq];exact this
structure Good (C:Ctx)(w0:World)(M:Own)(N:Nat)(all:List Oper)(k:Nat)(nd:Nat->Bool)(s:St)(V:Nat->SV)(X H:Nat->Heap)(S:Nat->Bool)(a:Act)(m:Mem):Prop where
 inv:Inv C w0 M m
 defers:a.defers=[]
 size:N<=a.tmps.size
 env:∀ t,RelSV m (a.tmps.getD t undef) (lX all V s.env S all.length t)
 heap:jL all k nd s.G X H S m.G
theorem DJ {m:Mem}{o:Oper}{f:Nat->SV}{e:Env}(hS:∀ t,RelSV m (a.tmps.getD t undef) (f t))(he:∀ t∈looks ops.toList o,e.get t=f t) :
  ∀ t,RelSV m (a.tmps.getD t undef) ((dT ops.toList o e).get t):=by
 intro t;rcases Ib (all:=ops.toList) (o:=o) (e:=e) t with⟨h1,h2⟩|h1
 ·rw[h1,he t h2];exact hS t
 rw[h1];trivial
theorem Kj{dst:Option Nat}{d:Nat}{v:SV}{e:Env}{G:Heap}(h:dst=some d):(ah dst v ⟨e,G⟩).env.get (dst.getD 0)=v:=by subst h;simp[ah,Env.get_cons]
theorem Cy (hC:CtxOK P C)(ho:OrdOK ops.toList ms k nd kd)(h:Trace C ops.toList ms k nd kd s V X E L H)(hX:Sep ops.toList ms k X s.G)(hbox:∀ id l,s.G.get id=some (.box l)->∀ a∈l,cU s.G a=true)
  (hd:∀ o∈ops.toList,∀ d,o.dst=some d->d<N) {Q:Exit->Act->World->Prop} {K:Act->World->Prop}
  {S:Nat->Bool} {m:Mem} {i:Nat} {o:Oper} (hg:Good C w0 M N ops.toList k nd s V X H S a m) (hS:Closed ops.toList ms S) (hi:ops.toList[i]?=some o) (hn:S i=false) (hp:∀ j,bit (ms.getD i 0) j=true->S j=true)
  (hK:∀ a' m',Good C w0 M N ops.toList k nd s V X H (dO S i) a' m'->K a' m'.w):wpOp P ops Q i K a m.w:=by
 have hlt:i<ops.toList.length:=(A7.1 hi).1;have hle:=ho.le;have hseen:∀ t∈looks ops.toList o,(E i).get t=lX ops.toList V s.env S ops.toList.length t:=λt ht=>h.seen ho hS hi hn hp ht;have hrel:=DJ hg.env hseen;have hmem:o∈ops.toList:=B7 hi;have hdN:∀ d,o.dst=some d->d<a.tmps.size:=λd hd'=>RK (hd o hmem d hd') hg.size;have hda:dB ops.toList i=o.dst:=by simp[dB,hi]
 have henv:∀ t,lX ops.toList V s.env (dO S i) ops.toList.length t=if o.dst=some t then V i else lX ops.toList V s.env S ops.toList.length t:=by intro t;rw[rl ho (B2 _) hlt,hda]
 have hops:ops[i]?=some o:=by rw[<- R7];exact hi
 -- what is left behind,by value and memory
 have fin:∀(v:Value) (m':Mem),Inv C w0 M m'->Evo m m'->(∀ d,o.dst=some d->RelSV m' v (V i))->jL ops.toList k nd s.G X H (dO S i) m'.G->K (a.put o.dst v) m'.w:=by
  intro v m' h1 h2 h3 h4;refine hK _ m' ⟨h1,by cases o.dst<;>exact hg.defers,by cases o.dst<;>simp[Act.put,hg.size],?_,h4⟩;refine CS h2 hg.env hdN (λd hd'=>?_) (λt ht=>?_)
  ·rw[henv,if_pos hd'];exact h3 d hd'
  rw[henv,if_neg ht]
 -- passed by
 have skip:l9 ops.toList o (E i) false->V i=.av .undef->jL ops.toList k nd s.G X H (dO S i) m.G->wpOp P ops Q i K a m.w:=by intro hgo hv hh;unfold wpOp;simp only[hops];rw[nN hg.env hseen hgo];simp only[RY,if_false];exact fin undef m hg.inv (Evo.refl m) (λd _=>by rw[hv];exact(rfl:undef=undef)) hh
 -- carried out
 have run:∀{w1:World} {M1:Own} {m1:Mem} {s':St},l9 ops.toList o (E i) true->m1.w=m.w->Inv C w1 M1 m1->(∀ t,RelSV m1 (a.tmps.getD t undef) ((dT ops.toList o (E i)).get t)) ->
   bj C o ⟨dT ops.toList o (E i),m1.G⟩ some=some s'->V i=s'.env.get (o.dst.getD 0) ->
   (∀ v m',Inv C w1 M1 m'->Evo m1 m'->(∀ d,o.dst=some d->RelSV m' v (V i))->m'.G=s'.G->K (a.put o.dst v) m'.w)->wpOp P ops Q i K a m.w:=by
  intro w1 M1 m1 s' hgo hw hi1 hr hrun hv hfin;unfold wpOp;simp only[hops];rw[nN hg.env hseen hgo];simp only[if_true];left;rw[<- hw];refine GQ (s:=⟨dT ops.toList o (E i),m1.G⟩) (K:=some) hC.tab hC.eqs hC.maps hC.con hC.inl hi1 rfl (p0 hi1 hr) hrun K Q ?_;rintro v w' ⟨s2,hs2,m',sv,rfl,hs3,q1,q2,q3⟩;cases hs2;refine hfin v m' q1 q2 (λd hd'=>?_) (by rw[hs3];cases o.dst<;>rfl);rw[hv,hs3,Kj hd'];exact q3
 by_cases hf:gC o=true
 ·-- looks at no memory
  have hX0:i<k->X i=[]:=λhik=>h.free_new hik hi (by unfold Fr;rw[hf];rfl);have hh:jL ops.toList k nd s.G X H (dO S i) m.G:=n7 ho h hg.heap hi hX0 (.inl (by unfold Fr;rw[hf];rfl));have go:∀{G:Heap} {s':St},l9 ops.toList o (E i) true->bj C o ⟨dT ops.toList o (E i),G⟩ some=some s'->V i=s'.env.get (o.dst.getD 0)->wpOp P ops Q i K a m.w:=by intro G s' hgo hr hv;refine run hgo rfl hg.inv hrel ((mN hf hr).2 m.G) hv λv m' q1 q2 q3 q4=>fin v m' q1 q2 q3 ?_;rw[q4];exact hh
  by_cases hik:i<k
  ·rcases(h.stepA i o hik hi).2 with⟨hgo,_,_,_,_,s',hr,hv,_⟩|⟨hgo,_,hv,_⟩
   ·exact go hgo hr hv
   exact skip hgo hv hh
  rcases(h.stepT i o (by omega) hi).2 with⟨hgo,s',hr,hv,_,_⟩|⟨hgo,hv,_⟩
  ·exact go hgo hr hv
  exact skip hgo hv hh
 have hf:gC o=false:=by simpa using hf
 by_cases hik:i<k
 ·-- the first part
  rcases hg.heap with hA|⟨j,j1,j2,j3,j4,j5⟩
  case inr=>
   -- a variable is looked at while the second part is under way
   have hnd:nd i=true:=by
    cases hfr:Fr k nd i o with
    |false=>have:=j3 i o (by omega) hi hfr;rw[hn]at this;cases this
    |true=>unfold Fr at hfr;rw[hf]at hfr;simp only[Sw,np]at hfr;exact hfr.2
   have hfr:Fr k nd i o=true:=by unfold Fr;rw[hnd];simp[hik]
   have hX0:X i=[]:=h.free_new hik hi hfr;have hh:jL ops.toList k nd s.G X H (dO S i) m.G:=n7 ho h hg.heap hi (λ_=>hX0) (.inl hfr);rcases(h.stepA i o hik hi).2 with⟨hgo,_,_,_,hl,s',hr,hv,_⟩|⟨hgo,_,hv,_⟩
   ·have hbx:∀ id l,C.vr id=false->(bN (ms.getD i 0) (L i) s.G).get id=some (.box l)->m.G.get id=some (.box l):=by
     intro id l hvr hl2;rw[h.heapFor_get hle (ms.getD i 0) (j:=i) (by omega)]at hl2;have h1:=vU ho hX hS hik hn hp hl2;have h2:(H k).get id=some (.box l):=by
      rw[h.hk,h.all_get hle (B2 _),<- h1];refine(iK λq hq=>?_).symm;obtain⟨oq,hoq⟩:∃ o,ops.toList[q]?=some o:=⟨_,dg (by omega)⟩;cases hfq:Fr k nd q oq with
      |true=>right;rw[h.free_new hq hoq hfq];rfl
      |false=>left;exact j3 q oq (by omega) hoq hfq
     obtain⟨d,rfl⟩:∃ d,j=k+d:=⟨j-k,by omega⟩;rw[j5];refine h.keep_box hvr h2 d j2 λq oq q1 q2 hoq=>?_;cases hfq:Fr k nd q oq with
     |true=>exact .inl rfl
     |false=>
      right;have hSq:=j3 q oq q2 hoq hfq;refine ho.kept q i q1 (by omega) hik hnd ?_;cases hb:bit (ms.getD q 0) i with
      |false=>rfl
      |true=>have:=(hS q hSq).2 i hb;rw[hn]at this;cases this
    refine run hgo rfl hg.inv hrel ((oR (hl hnd) hr).2 m.G hbx) hv λv m' q1 q2 q3 q4=>fin v m' q1 q2 q3 ?_;rw[q4];exact hh
   exact skip hgo hv hh
  rcases(h.stepA i o hik hi).2 with⟨hgo,hL,hsv,hbx,_,s',hr,hv,hsG⟩|⟨hgo,_,hv,hX0⟩
  ·have hGi:=h.heapFor_get hle (ms.getD i 0) (j:=i) (by omega);have hsub:∀ id o,(bN (ms.getD i 0) (L i) s.G).get id=some o->m.G.get id=some o:=by intro id ob hob;rw[hA.2];rw[hGi]at hob;exact vU ho hX hS hik hn hp hob
   have hBhas:∀ id,s.G.has id=true->(bN (ms.getD i 0) (L i) s.G).has id=true:=by
    intro id hid;obtain⟨ob,hob⟩:=Heap.get_of_has hid;have:(bN (ms.getD i 0) (L i) s.G).get id=some ob:=by
     rw[hGi,jz,hob];intro q hq _;cases hx:(X q).get id with
     |none=>rfl
     |some o'=>rw[hX.base q id o' (by omega) hx]at hob;cases hob
    exact Heap.has_of_get this
   have hbox':∀ id l,(bN (ms.getD i 0) (L i) s.G).get id=some (.box l)->l.all (λa=>cU (bN (ms.getD i 0) (L i) s.G) a)=true:=by
    intro id l hl;rw[hGi]at hl;rcases lI hl with⟨q,h1,h2,h3,_⟩|⟨_,h2⟩
    ·rcases h.l_mem hle (by omega:i<=k) h1 with h4|h4
     ·rw[h4]at h3;simp[Heap.get_nil0,Heap.get_pair]at h3
     rw[A9]at hbx;have h5:=hbx _ h4;simp only[h2,RU,Sw]at h5;unfold gF at h5;rw[A9]at h5;exact h5 _ (Heap.mem_of_get h3)
    rw[A9];exactλa ha=>ks hBhas (hbox id l h2 a ha)
   have hin:=Eg hg.inv hsub hbox';have hrel':∀ t,RelSV ⟨m.w,m.F,m.ι,bN (ms.getD i 0) (L i) s.G⟩ (a.tmps.getD t undef) ((dT ops.toList o (E i)).get t):=by
    intro t;refine qC hsub (hrel t) ?_;rw[A9]at hsv;have hmem':∀(e:Env) (t:Nat),(∀ p∈e,gV (bN (ms.getD i 0) (L i) s.G) p.2=true)->gV (bN (ms.getD i 0) (L i) s.G) (e.get t)=true:=by
     intro e t he;induction e with
     |nil=>rfl
     |cons p r ih=>
      obtain⟨q,v⟩:=p;simp only[Env.get_nil0,Env.get_pair];cases A3 q t with
      |true=>exact he (q,v) (by simp)
      |false=>exact ih λp hp=>he p (by simp[hp])
    exact hmem' _ t hsv
   refine run (m1:=⟨m.w,m.F,m.ι,bN (ms.getD i 0) (L i) s.G⟩) hgo rfl hin hrel' hr hv λv m' q1 q2 q3 q4=>?_;obtain⟨m2,r1,r2,r3,r4,r5⟩:=CW hg.inv hsub q1 q2 (by rw[q4,hsG]) (λid ob hx hnone=>by
    rw[hA.2];rw[hGi]at hnone;exact F9 ho hX hS hik hn hx hnone)
   rw[<- r1];refine fin v m2 r3 r4 (λd hd'=>r5 _ _ (q3 d hd')) (.inl ⟨λl o' hl ho' hf'=>?_,λid=>?_⟩)
   ·have:l≠i:=by omega
    simp only[dO,hA.1 l o' hl ho' hf',Sw,beq_eq_false_iff_ne,ne_eq];exact this
   rw[r2,Heap.get_append,ER ho hX hS hik hn,hA.2];try (cases(X i).get id<;>rfl)
  exact skip hgo hv (n7 ho h hg.heap hi (λ_=>hX0) (.inr ⟨hik,hn⟩))
 -- the second part
 have hb:∀ l o',l<i->ops.toList[l]?=some o'->Fr k nd l o'=false->S l=true:=by
  intro l o' hl ho' hf';rcases ho.chain i o (by omega) hi l o' hl ho' with hc|hc
  ·exact hp l hc
  rw[hf']at hc;cases hc
 have ha:∀ l o',i<=l->ops.toList[l]?=some o'->Fr k nd l o'=false->S l=false:=by
  intro l o' hl ho' hf';rcases RW hl with rfl|hl
  ·exact hn
  cases hSl:S l with
  |false=>rfl
  |true=>
   rcases ho.chain l o' (by omega) ho' i o hl hi with hc|hc
   ·rw[(hS l hSl).2 i hc]at hn;cases hn
   have:Fr k nd i o=false:=by unfold Fr;rw[hf];simp[hik]
   rw[this]at hc;cases hc
 have hGH:=zE ho h hg.heap (by omega) (by omega) hb ha;have hafter:∀ G:Heap,(∀ id,G.get id=(H (i+1)).get id)->jL ops.toList k nd s.G X H (dO S i) G:=by
  intro G hG;refine .inr ⟨i+1,by omega,by omega,λl o' hl ho' hf'=>?_,λl o' hl ho' hf'=>?_,hG⟩
  ·by_cases e:l=i
   ·simp[dO,e]
   simp[dO,hb l o' (by omega) ho' hf']
  have:l≠i:=by omega
  simp only[dO,ha l o' (by omega) ho' hf',Sw,beq_eq_false_iff_ne,ne_eq];exact this
 rcases(h.stepT i o (by omega) hi).2 with⟨hgo,s',hr,hv,hsG,_⟩|⟨hgo,hv,hH⟩
 ·obtain⟨hi1,he1⟩:=sO hg.inv (G':=H i) λid=>(hGH id).symm;refine run (m1:=⟨m.w,m.F,m.ι,H i⟩) hgo rfl hi1 (λt=>fL he1 (hrel t)) hr hv λv m' q1 q2 q3 q4=>?_;exact fin v m' q1 (Evo.trans he1 q2) q3 (hafter _ λid=>by rw[q4,hsG])
 exact skip hgo hv (hafter _ λid=>by rw[hH];exact hGH id)
theorem BK{S:Nat->Bool}{i:Nat}(hS:S i=false):∀{n:Nat},i<n->(A2 n).countP (dO S i)=(A2 n).countP S+1
 |0,h=>by omega
 |n+1,h=>by
  rw[List.range_succ,Uc,Uc];by_cases e:i=n
  ·subst e;have h1:(A2 i).countP (dO S i)=(A2 i).countP S:=by
    refine List.countP_congr λx hx=>?_;have:=RF.1 hx;have hne:x≠i:=by omega
    simp[dO,hne]
   rw[h1];simp[dO,hS]
  rw[BK hS (by omega:i<n)];have:dO S i n=S n:=by simp[dO,Ne.symm e]
  simp[List.countP_cons,this];omega
theorem pJ(hm:P.follows .mixedOrders=true):kZ P:=by
 intro C w0 M N a m s R res K id lt ops Q hC hs hG hd h hQ;refine wp_region_any hm ?_;obtain⟨k,nd,kd,V,X,E,L,H,ho,ht,hN,hKr⟩:=rJ h;have hX:=ht.sep ho.le hN;have hdst:=pZ hd;have hlen:ops.toList.length=ops.size:=by simp
 have hbox:∀ id l,s.G.get id=some (.box l)->∀ a∈l,cU s.G a=true:=by intro id l hl a ha;rw[<- hG]at hl ⊢;obtain⟨b,c,el,_,_,_,h3⟩:=hs.inv.objs id _ hl;exact gH h3 a ha
 -- the draw
 obtain⟨d1,d2⟩:=CA hs.inv (w1:={ m.w with drawn:=m.w.drawn+1 }) ⟨rfl,rfl,rfl,B2 _,λ_ _ _=>rfl⟩
 let SS:Array Bool->Nat->Bool:=λl j=>l.getD j false
 have set_S:∀(l:Array Bool) (i:Nat),i<l.size->SS (l.setIfInBounds i true)=dO (SS l) i:=by
  intro l i hi;funext j;show(l.setIfInBounds i true).getD j false=(l.getD j false||j==i);by_cases e:j=i
  ·subst e;simp[hi]
  rw[getD_set_ne false (Ne.symm e)];simp[e]
 have last:∀{S:Nat->Bool} {a:Act} {m:Mem},(∀ i,i<ops.size->S i=true)->Good C w0 M N ops.toList k nd s V X H S a m->Q .normal a m.w:=by
  intro S a m hall hg;have hGH:=zE ho ht hg.heap ho.le (B2 _) (λl o hl _ _=>hall l (by omega)) (λl o hl ho' _=>by
   have:=(A7.1 ho').1;omega)
  obtain⟨hi1,he1⟩:=sO hg.inv (G':=H ops.toList.length) λid=>(hGH id).symm;refine hQ ⟨E ops.toList.length,H ops.toList.length⟩ a ⟨m.w,m.F,m.ι,H ops.toList.length⟩ hKr rfl ⟨hi1,hg.defers,hg.size,λt=>?_⟩;show RelSV _ _ ((E ops.toList.length).get t);rw[ht.env ho (B2 _)];rw[gX (S':=S) λq hq _=>by rw[hall q (by omega)];exact decide_eq_true hq];exact fL he1 (hg.env t)
 have key:∀(fuel:Nat) (listed:Array Bool) (a:Act) (m:Mem),listed.size=ops.size->ops.size<=fuel+(A2 ops.size).countP (SS listed) ->
   Closed ops.toList (gv ops.toList []) (SS listed)->Good C w0 M N ops.toList k nd s V X H (SS listed) a m->wpAny P .any ops Q fuel listed a m.w:=by
  intro fuel;induction fuel with
  |zero=>
   intro listed a m hsz hcnt hcl hg;have hall:∀ i,i<ops.size->SS listed i=true:=by
    have h1:(A2 ops.size).countP (SS listed)=(A2 ops.size).length:=by have:=List.countP_le_length (p:=SS listed) (l:=A2 ops.size);simp only[List.length_range]at this ⊢;omega
    rw[List.countP_eq_length]at h1;exactλi hi=>h1 i (RF.2 hi)
   refine⟨?_,last hall hg⟩;unfold Region.ready;rw[List.filter_eq_nil_iff];intro i hi;have hi:=RF.1 hi;have h1:listed.getD i false=true:=hall i hi;have:listed.getD i true=true:=by
    have hlt:i<listed.size:=by omega
    simpa[hlt]using h1
   rw[this];simp
  |succ fuel ih=>
   intro listed a m hsz hcnt hcl hg;refine⟨λhr=>last ?_ hg,λi hi=>?_⟩
   ·intro i;induction i using Nat.strongRecOn with
    |ind i ih2=>
     intro hi;cases hh:SS listed i with
     |true=>rfl
     |false=>
      have:i∈Region.ready .any ops listed:=by
       rw[mem_ready];have hh:listed.getD i false=false:=hh;have hlt:i<listed.size:=by omega
       refine⟨by simpa[hlt]using hh,ops[i],by simp[hi],λe he hb=>?_⟩;have hon:=ho.edge i ops[i] e (by rw[R7];simp[hi]) (by simpa using he) hb;exact ih2 e.on hon (by omega)
      rw[hr]at this;cases this
   obtain⟨h1,o,ho1,h2⟩:=mem_ready.1 hi;have hlt:i<ops.size:=(L5.1 ho1).1;have hlt':i<listed.size:=by omega
   have hn:SS listed i=false:=by show listed.getD i false=false;simpa[hlt']using h1
   have hi':ops.toList[i]?=some o:=by rw[R7];exact ho1
   have hp:∀ j,bit ((gv ops.toList []).getD i 0) j=true->SS listed j=true:=by
    intro j hj;obtain⟨e,he,hb,h3⟩:=(ho.pre i o j hi').1 hj;have hon:SS listed e.on=true:=h2 e (by simpa using he) hb;rcases h3 with h3|h3
    ·rw[<- h3];exact hon
    exact(hcl e.on hon).2 j h3
   refine Cy hC ho ht hX hbox hdst hg hcl hi' hn hp λa' m' hg'=>?_;refine ih (listed.setIfInBounds i true) a' m' (by simp[hsz]) ?_ ?_ ?_
   ·rw[set_S listed i hlt',BK hn hlt];omega
   ·rw[set_S listed i hlt'];exact hcl.put ho (by omega) hp
   rw[set_S listed i hlt'];exact hg'
 have hS0:SS (SR ops.size false)=λ_=>false:=by funext j;show(SR ops.size false).getD j false=false;simp[Array.getElem?_replicate];split<;>rfl
 refine key ops.size _ a ⟨{ m.w with drawn:=m.w.drawn+1 },m.F,m.ι,m.G⟩ (by simp) (by omega) ?_ ⟨d1,hs.defers,hs.size,λt=>?_,.inl ⟨λl o _ _ _=>by rw[hS0],λid=>?_⟩⟩
 ·rw[hS0];intro i hi;cases hi
 ·rw[hS0,oc λ_ _ _=>rfl];exact fL d2 (hs.env t)
 rw[hS0,jz (λq _ hq=>by cases hq),<- hG]
end
end Go.Vm

/-
 Equality of structs.
-/
namespace Go.Vm
def Ty.deep:Ty->Nat
 |.prod a b=>max (a.deep+1) b.deep
 |.arr _ e=>e.deep+1
 |_=>1
def Ty.Within(d:Nat):Ty->Prop
 |.prod a b=>a.deep<=d/\b.deep<=d+1
 |_=>True
def fj(P:Program):Ty->Option (List Field×Nat)->TypeId->Bool
 |.int _,none,_=>true
 |.bool,none,_=>true
 |.str,none,_=>true
 |.prod a b,none,t=>!(P.stoodInHeld t)&&(match P.underlying t with
  |some (.struct fs)=>(match fs.toList with
   | f :: r => (f.name != "_") && fj P a none f.type && fj P b (some (r, a.size)) 0
   |[]=>false)
  |_=>false)
 |.unit,none,t=>!(P.stoodInHeld t)
 |.arr _ e,none,t=>(match P.underlying t with
  |some (.array _ et)=>fj P e none et
  |_=>false)
 | .prod a b, some (f :: r, o), _ => (f.name != "_") && fj P a none f.type && fj P b (some (r, o + a.size)) 0
 |.unit,some ([],_),_=>true
 |_,_,_=>false
def yx(P:Program)(T:Tab)(eqs:List Nat):Bool:=eqs.all λt=>match T.get t with
 |some τ=>fj P τ none t&&RD τ.deep 9000 && !(P.eqGuardType P.depth t)
 |none=>true
section
variable {P:Program}
theorem jG {τ : Ty}{t:TypeId}(h:chk P τ none t=true)(us:List Value)(o:Nat)(hl:o+τ.size<=us.length)(w:World) :
  (part t us.toArray o).run P w=.ok (toV τ ((us.drop o).take τ.size)) w:=by
 cases ha:τ.isAgg with
 |true=>simp[part,dn h,ha,bC h,toV,List.drop_take]
 |false=>
  have h1':=eG ha;have hlt:o<us.length:=by omega
  simp only[part,Sem.run_bind,dn h,ha,Result.andThen_ok,RY,if_false,B9,dg hlt,toV,UB,h1',Sem.run_pure];rw[List.drop_eq_getElem_cons hlt];rfl
theorem qJ{α:Type}(p c r:List α):((p++(c++r)).drop p.length).take c.length=c:=by simp
theorem rV{b:Ty}{d:Nat}(h:b.deep<=d+1):b.Within d:=by cases b<;>simp only[Ty.deep,Ty.Within]at h ⊢;omega
mutual
theorem Bc {w:World}{F:Nat->Prop}:∀{τ : Ty} {t:TypeId} {d:Nat} {cs cs':List Value} {x y : τ.den} {r:Bool},chk P τ none t=true->fj P τ none t=true->τ.deep<=d->eqT τ x y=some r->Rd w F τ cs x->Rd w F τ cs' y ->
  ∀ w',(Op.equalIn d t (toV τ cs) (toV τ cs')).run P w'=.ok r w'
 |.int k,t,d,cs,cs',x,y,r,h1,_,h3,h4,h5,h6,w'=>by obtain⟨d,rfl⟩:∃ d',d=d'+1:=⟨d-1,by simp only[Ty.deep]at h3;omega⟩;obtain⟨rfl,_⟩:=h5;obtain⟨rfl,_⟩:=h6;simp only[eqT,bd]at h4;subst h4;exact run_equalIn_int w' d t k k x y (jo h1)
 |.bool,t,d,cs,cs',x,y,r,h1,_,h3,h4,h5,h6,w'=>by
  obtain⟨d,rfl⟩:∃ d',d=d'+1:=⟨d-1,by simp only[Ty.deep]at h3;omega⟩;unfold Rd at h5 h6;subst h5;subst h6
  simp only[eqT,bd]at h4;subst h4;exact run_equalIn_bool' w' d t x y (lN h1)
 |.str,t,d,cs,cs',x,y,r,h1,_,h3,h4,h5,h6,w'=>by obtain⟨d,rfl⟩:∃ d',d=d'+1:=⟨d-1,by simp only[Ty.deep]at h3;omega⟩;obtain⟨rfl,_⟩:=h5;obtain⟨rfl,_⟩:=h6;simp only[eqT,bd]at h4;subst h4;exact run_equalIn_string w' d t x y (fM h1)
 |.prod a b,t,d,cs,cs',x,y,r,h1,h2,h3,h4,h5,h6,w'=>by
  simp only[fj,np,L7]at h2;obtain⟨hp,h2⟩:=h2;simp only[chk,np]at h1;obtain⟨_,h1⟩:=h1;split at h2
  ·rename_i fs hu;rw[hu]at h1;simp only at h1;split at h2
   ·rename_i f rest hfs;rw[hfs]at h1;simp only[np]at h1 h2;obtain⟨⟨c1,c2⟩,c3⟩:=h1;obtain⟨⟨e1,e2⟩,e3⟩:=h2;obtain⟨d,rfl⟩:∃ d',d=d'+1:=⟨d-1,by simp only[Ty.deep]at h3;omega⟩;have hfo:P.fieldsOf t=fs:=by unfold Program.fieldsOf;rw[hu]
    show(Op.equalIn (d+1) t (.agg cs.toArray) (.agg cs'.toArray)).run P w'=_;rw[run_equalIn_struct w' d t cs.toArray cs'.toArray (by rw[hfo];exact hu) hp,hfo,hfs];have:=sN (τ:=.prod a b) (fs:=f::rest) (o:=0) (d:=d) (pre:=[]) (pre':=[]) (suf:=[]) (suf':=[]) (by simp[chk,c1,c2];simpa using c3) (by simp only[fj,np];exact⟨⟨e1,e2⟩,by simpa using e3⟩) (by
     simp only[Ty.deep]at h3;exact⟨by omega,by omega⟩) h4 h5 h6 rfl rfl w'
    simpa using this
   simp at h2
  simp at h2
 |.unit,t,d,cs,cs',x,y,r,h1,h2,h3,h4,h5,h6,w'=>by
  simp only[fj,L7]at h2;simp only[chk,np]at h1;obtain⟨_,h1⟩:=h1;split at h1
  ·rename_i fs hu;split at h1
   ·rename_i hfs;obtain⟨d,rfl⟩:∃ d',d=d'+1:=⟨d-1,by simp only[Ty.deep]at h3;omega⟩;have hfo:P.fieldsOf t=fs:=by unfold Program.fieldsOf;rw[hu]
    show(Op.equalIn (d+1) t (.agg cs.toArray) (.agg cs'.toArray)).run P w'=_;rw[run_equalIn_struct w' d t cs.toArray cs'.toArray (by rw[hfo];exact hu) h2,hfo,hfs];simp only[eqT,bd]at h4;subst h4;simp[Op.eqFields]
   simp at h1
  simp at h1
 |.slice _,_,_,_,_,_,_,_,_,_,_,h4,_,_,_=>by simp[eqT]at h4
 |.arr n e,t,d,cs,cs',x,y,r,h1,h2,h3,h4,h5,h6,w'=>by
  obtain⟨d,rfl⟩:∃ d',d=d'+1:=⟨d-1,by simp only[Ty.deep]at h3;omega⟩;simp only[Ty.deep]at h3;obtain⟨et,hu,he⟩:=lx h1;simp only[fj,hu]at h2;obtain⟨ie,ze,s1,s2,_⟩:=dC he;obtain⟨l1,l2,l3⟩:=h5;obtain⟨k1,k2,k3⟩:=h6;have hc:P.cellsOf et=e.size:=by unfold Program.cellsOf;rw[s1];simpa using s2
  show (Op.equalIn (d+1) t (.agg cs.toArray) (.agg cs'.toArray)).run P w'=_;rw[run_equalIn_array w' d cs.toArray cs'.toArray hu s1,hc];have items:∀(q q':List e.den) (i:Nat) (r:Bool),xh (eqT e) q q'=some r->i+q.length=n->i+q'.length=n->(∀ j (hj:j < q.length),Rd w F e ((cs.drop ((i+j) * e.size)).take e.size) q[j])->(∀ j (hj:j < q'.length),Rd w F e ((cs'.drop ((i+j) * e.size)).take e.size) q'[j]) ->
    (Op.eqItems d et e.size cs.toArray cs'.toArray (List.range' i q.length)).run P w'=.ok r w':=by
   intro q;induction q with
   |nil=>
    intro q' i r hr hq hq' _ _;cases q' with
    |nil=>simp only[xh,bd]at hr;subst hr;simp[Op.eqItems]
    |cons b q'=>simp[xh]at hr
   |cons a q ih=>
    intro q' i r hr hq hq' hR hR';cases q' with
    |nil=>simp[xh]at hr
    |cons b q'=>
     simp only[RJ]at hq hq';have hle:(i+1)*e.size<=n*e.size:=Nat.mul_le_mul_right _ (by omega);rw[Nat.add_mul,Nat.one_mul]at hle;have p1:=jG he cs (i*e.size) (by omega) w';have p2:=jG he cs' (i*e.size) (by omega) w';simp only[xh]at hr;split at hr
     ·rename_i p hp;split at hr
      ·rename_i q2 hq2;cases hr;have ra:=hR 0 (by simp);have rb:=hR' 0 (by simp);simp only[R2,List.getElem_cons_zero]at ra rb;have ha:=Bc (d:=d) he h2 (by omega) hp ra rb w';rw[RJ,List.range'_succ];simp only[Op.eqItems,Sem.run_bind,p1,p2,Result.andThen_ok,ha];cases p with
       |false=>simp
       |true=>
        simp only[RU,RY,if_false,SQ];exact ih q' (i+1) q2 hq2 (by omega) (by omega) (λj hj=>by
         have:=hR (j+1) (by simp;omega);rw[show i+(j+1)=i+1+j by omega]at this;simpa using this) (λj hj=>by
         have:=hR' (j+1) (by simp;omega);rw[show i+(j+1)=i+1+j by omega]at this;simpa using this)
      simp at hr
     simp at hr
  have:=items x y 0 r h4 (by omega) (by omega) (λj hj=>by rw[RM];exact l3 j hj) (λj hj=>by rw[RM];exact k3 j hj);rw[l1]at this;rw[List.range_eq_range'];exact this
 |.ptr _,_,_,_,_,_,_,_,_,_,_,h4,_,_,_=>by simp[eqT]at h4
 |.clo _ _,_,_,_,_,_,_,_,_,_,_,h4,_,_,_=>by simp[eqT]at h4
theorem sN {w:World}{F:Nat->Prop}:∀{τ : Ty} {fs:List Field} {o d:Nat} {cs cs' pre pre' suf suf':List Value} {x y : τ.den} {r:Bool},chk P τ (some (fs,o)) 0=true->fj P τ (some (fs,o)) 0=true ->
  τ.Within d->eqT τ x y=some r->Rd w F τ cs x->Rd w F τ cs' y->pre.length=o->pre'.length=o ->
  ∀ w',(Op.eqFields d (pre++(cs++suf)).toArray (pre'++(cs'++suf')).toArray fs).run P w'=.ok r w'
 |.prod a b,f::rest,o,d,cs,cs',pre,pre',suf,suf',x,y,r,h1,h2,h3,h4,h5,h6,hp,hp',w'=>by
  simp only[chk,np]at h1;simp only[fj,np,bne_iff_ne,ne_eq]at h2;obtain⟨⟨c1,c2⟩,c3⟩:=h1;obtain⟨⟨e1,e2⟩,e3⟩:=h2;have hoff:f.offset=o:=xy c1;obtain⟨u1,u2,rfl,hu1,hu2⟩:=h5;obtain⟨v1,v2,rfl,hv1,hv2⟩:=h6;have lu:=hu1.len;have lv:=hv1.len;have p1:(part f.type (pre++((u1++u2)++suf)).toArray f.offset).run P w'=.ok (toV a u1) w':=by rw[jG c2 _ _ (by simp;omega),hoff,<- hp,<- lu,RL u1,qJ]
  have p2:(part f.type (pre'++((v1++v2)++suf')).toArray f.offset).run P w'=.ok (toV a v1) w':=by rw[jG c2 _ _ (by simp;omega),hoff,<- hp',<- lv,RL v1,qJ]
  simp only[eqT]at h4;split at h4
  ·rename_i p hpp;split at h4
   ·rename_i q hq;cases h4;have ha:=Bc c2 e2 h3.1 hpp hu1 hv1 w';simp only[Op.eqFields,e1,not_false_eq_true,if_true,ne_eq,Sem.run_bind,p1,p2,Result.andThen_ok,ha];cases p with
    |false=>simp
    |true=>simp only[RU,RY,if_false,SQ];have hb3:b.Within d:=rV h3.2;have:=sN (τ:=b) (fs:=rest) (o:=o+a.size) (d:=d) (pre:=pre++u1) (pre':=pre'++v1) (suf:=suf) (suf':=suf') c3 e3 hb3 hq hu2 hv2 (by simp;omega) (by simp;omega) w';simpa using this
   simp at h4
  simp at h4
 |.prod a b,[],_,_,_,_,_,_,_,_,_,_,_,h1,_,_,_,_,_,_,_,_=>by simp[chk]at h1
 |.unit,[],o,d,cs,cs',pre,pre',suf,suf',x,y,r,h1,h2,h3,h4,h5,h6,hp,hp',w'=>by simp only[eqT,bd]at h4;subst h4;simp[Op.eqFields]
 |.unit,_::_,_,_,_,_,_,_,_,_,_,_,_,h1,_,_,_,_,_,_,_,_=>by simp[chk]at h1
 |.int _,_,_,_,_,_,_,_,_,_,_,_,_,h1,_,_,_,_,_,_,_,_=>by simp[chk]at h1
 |.bool,_,_,_,_,_,_,_,_,_,_,_,_,h1,_,_,_,_,_,_,_,_=>by simp[chk]at h1
 |.str,_,_,_,_,_,_,_,_,_,_,_,_,h1,_,_,_,_,_,_,_,_=>by simp[chk]at h1
 |.slice _,_,_,_,_,_,_,_,_,_,_,_,_,h1,_,_,_,_,_,_,_,_=>by simp[chk]at h1
 |.arr _ _,_,_,_,_,_,_,_,_,_,_,_,_,h1,_,_,_,_,_,_,_,_=>by simp[chk]at h1
 |.ptr _,_,_,_,_,_,_,_,_,_,_,_,_,h1,_,_,_,_,_,_,_,_=>by simp[chk]at h1
 |.clo _ _,_,_,_,_,_,_,_,_,_,_,_,_,h1,_,_,_,_,_,_,_,_=>by simp[chk]at h1
end
theorem ua{C:Ctx}(hT:cA P C.tab=true)(h:yx P C.tab C.eqs=true):JW P C:=by
 intro t τ ht ha hin w F cs cs' x y r hr h1 h2;rw[Sc]at hin;obtain⟨e,he,hee⟩:=hin;have:e=t:=xy hee;subst this;unfold yx at h;rw[A9]at h;have:=h e he;rw[ht]at this;simp only[np,L7]at this;obtain⟨⟨c1,c2⟩,c3⟩:=this;refine⟨λw'=>?_,λop p q w'=>?_⟩
 ·show(Op.equalIn Op.maxDepth e _ _).run P w'=_;exact Bc (aj hT ht (BT ha)) c1 (by have:=L9 c2;show τ.deep<=10000;omega) hr h1 h2 w'
 have e1:toV τ cs=.agg cs.toArray:=by simp[toV,ha]
 have e2:toV τ cs'=.agg cs'.toArray:=by simp[toV,ha]
 rw[e1,e2];exact run_eqGuard_agg w' op e p q _ _ c3
end
end Go.Vm

/-
 Maps: what is asked of their types, checked once.
-/
namespace Go.Vm
section
variable {P:Program}
mutual
theorem Hs {w:World}{F:Nat->Prop}(em:Bool):∀{τ : Ty} {t:TypeId} {d:Nat} {cs:List Value} {x : τ.den},chk P τ none t=true->fj P τ none t=true->τ.plain=true->τ.deep<=d->Rd w F τ cs x ->
  ∀ w',(Instr.checkKey em d t (toV τ cs)).run P w'=.ok () w'
 |.int k,t,d,cs,x,h1,_,_,h3,h5,w'=>by obtain⟨d,rfl⟩:∃ d',d=d'+1:=⟨d-1,by simp only[Ty.deep]at h3;omega⟩;obtain⟨rfl,_⟩:=h5;simp[Instr.checkKey,run_underlying (jo h1),toV,Ty.isAgg]
 |.bool,t,d,cs,x,h1,_,_,h3,h5,w'=>by obtain⟨d,rfl⟩:∃ d',d=d'+1:=⟨d-1,by simp only[Ty.deep]at h3;omega⟩;unfold Rd at h5;subst h5;simp[Instr.checkKey,run_underlying (lN h1),toV,Ty.isAgg]
 |.str,t,d,cs,x,h1,_,_,h3,h5,w'=>by obtain⟨d,rfl⟩:∃ d',d=d'+1:=⟨d-1,by simp only[Ty.deep]at h3;omega⟩;obtain⟨rfl,_⟩:=h5;simp[Instr.checkKey,run_underlying (fM h1),toV,Ty.isAgg]
 |.prod a b,t,d,cs,x,h1,h2,hpl,h3,h5,w'=>by
  simp only[fj,np,L7]at h2;obtain⟨hp,h2⟩:=h2;simp only[chk,np]at h1;obtain⟨_,h1⟩:=h1;split at h2
  ·rename_i fs hu;rw[hu]at h1;simp only at h1;split at h2
   ·rename_i f rest hfs;rw[hfs]at h1;simp only[np]at h1 h2;obtain⟨⟨c1,c2⟩,c3⟩:=h1;obtain⟨⟨e1,e2⟩,e3⟩:=h2;obtain⟨d,rfl⟩:∃ d',d=d'+1:=⟨d-1,by simp only[Ty.deep]at h3;omega⟩;have:=qF (F:=F) (w:=w) em (τ:=.prod a b) (fs:=f::rest) (o:=0) (d:=d) (cs:=cs) (x:=x) (pre:=[]) (suf:=[]) (by simp[chk,c1,c2];simpa using c3) (by simp only[fj,np];exact⟨⟨e1,e2⟩,by simpa using e3⟩) hpl (by
     simp only[Ty.deep]at h3;exact⟨by omega,by omega⟩) h5 rfl w'
    simp only[List.nil_append,RN]at this;simp only[toV,Ty.isAgg,UA,Instr.checkKey,Sem.run_bind,run_underlying hu,Result.andThen_ok];rw[<- T8,hfs];rw[this];rfl
   simp at h2
  simp at h2
 |.unit,t,d,cs,x,h1,h2,_,h3,h5,w'=>by
  simp only[chk,np]at h1;obtain⟨_,h1⟩:=h1;split at h1
  ·rename_i fs hu;split at h1
   ·rename_i hfs;obtain⟨d,rfl⟩:∃ d',d=d'+1:=⟨d-1,by simp only[Ty.deep]at h3;omega⟩;simp only[toV,Ty.isAgg,UA,Instr.checkKey,Sem.run_bind,run_underlying hu,Result.andThen_ok];rw[<- T8,hfs];simp
   simp at h1
  simp at h1
 |.slice _,_,_,_,_,_,_,h,_,_,_=>by cases h
 |.arr _ _,_,_,_,_,_,_,h,_,_,_=>by cases h
 |.ptr _,_,_,_,_,_,_,h,_,_,_=>by cases h
 |.clo _ _,_,_,_,_,_,_,h,_,_,_=>by cases h
theorem qF {w:World}{F:Nat->Prop}(em:Bool):∀{τ : Ty} {fs:List Field} {o d:Nat} {cs pre suf:List Value} {x : τ.den},chk P τ (some (fs,o)) 0=true->fj P τ (some (fs,o)) 0=true->τ.plain=true ->
  τ.Within d->Rd w F τ cs x->pre.length=o ->
  ∀ w',(forIn (m:=Sem) fs PUnit.unit λf (_:PUnit)=>(do
   if f.name ≠ "_" then Instr.checkKey em d f.type (<- part f.type (pre ++ (cs ++ suf)).toArray f.offset)
   pure (ForInStep.yield PUnit.unit))).run P w'=.ok PUnit.unit w'
 |.prod a b,f::rest,o,d,cs,pre,suf,x,h1,h2,hpl,h3,h5,hp,w'=>by
  simp only[chk,np]at h1;simp only[fj,np,bne_iff_ne,ne_eq]at h2;simp only[Ty.plain,np]at hpl;obtain⟨⟨c1,c2⟩,c3⟩:=h1;obtain⟨⟨e1,e2⟩,e3⟩:=h2;have hoff:f.offset=o:=xy c1;obtain⟨u1,u2,rfl,hu1,hu2⟩:=h5;have lu:=hu1.len;have p1:(part f.type (pre++((u1++u2)++suf)).toArray f.offset).run P w'=.ok (toV a u1) w':=by rw[jG c2 _ _ (by simp;omega),hoff,<- hp,<- lu,RL u1,qJ]
  have ha:=Hs em c2 e2 hpl.1 h3.1 hu1 w';have hb3:b.Within d:=rV h3.2;have:=qF em (τ:=b) (fs:=rest) (o:=o+a.size) (d:=d) (pre:=pre++u1) (suf:=suf) c3 e3 hpl.2 hb3 hu2 (by simp;omega) w';simp only[List.forIn_cons,Sem.run_bind,e1,ne_eq,not_false_eq_true,if_true,Result.andThen_ok,p1,ha,Sem.run_pure];simpa using this
 |.prod a b,[],_,_,_,_,_,_,h1,_,_,_,_,_,_=>by simp[chk]at h1
 |.unit,[],o,d,cs,pre,suf,x,h1,h2,_,h3,h5,hp,w'=>by simp
 |.unit,_::_,_,_,_,_,_,_,h1,_,_,_,_,_,_=>by simp[chk]at h1
 |.int _,_,_,_,_,_,_,_,h1,_,_,_,_,_,_=>by simp[chk]at h1
 |.bool,_,_,_,_,_,_,_,h1,_,_,_,_,_,_=>by simp[chk]at h1
 |.str,_,_,_,_,_,_,_,h1,_,_,_,_,_,_=>by simp[chk]at h1
 |.slice _,_,_,_,_,_,_,_,h1,_,_,_,_,_,_=>by simp[chk]at h1
 |.arr _ _,_,_,_,_,_,_,_,h1,_,_,_,_,_,_=>by simp[chk]at h1
 |.ptr _,_,_,_,_,_,_,_,h1,_,_,_,_,_,_=>by simp[chk]at h1
 |.clo _ _,_,_,_,_,_,_,_,h1,_,_,_,_,_,_=>by simp[chk]at h1
end
theorem nZ:∀{τ:Ty},τ.plain=true->∀ x y:τ.den,eqT τ x y=some (eqK τ x y)
 |.int _,_,_,_=>rfl
 |.bool,_,_,_=>rfl
 |.str,_,_,_=>rfl
 |.prod a b,h,x,y=>by simp only[Ty.plain,np]at h;have h1:=nZ h.1 x.1 y.1;have h2:=nZ h.2 x.2 y.2;unfold eqK;simp only[eqT,h1,h2]
 |.unit,_,_,_=>rfl
 |.slice _,h,_,_=>by cases h
 |.arr _ _,h,_,_=>by cases h
 |.ptr _,h,_,_=>by cases h
 |.clo _ _,h,_,_=>by cases h
def Id(P:Program)(p:Nat×(Ty×Ty)):Bool:=match P.underlying p.1 with
 |some (.map kt vt)=>chk P p.2.1 none kt&&chk P p.2.2 none vt&&p.2.1.plain&&p.2.2.flat && !(decide (p.2.1=.unit))&&fj P p.2.1 none kt&&RD p.2.1.deep 9000
 |_=>false
def oD(P:Program)(T:List (Nat×(Ty×Ty))):Bool:=T.all (Id P)
theorem xU{T:List (Nat×(Ty×Ty))}:∀{t:Nat} {p:Ty×Ty},fx T t=some p->(t,p)∈T:=by
 induction T with
 |nil=>intro t p h;simp[fx]at h
 |cons q r ih=>
  intro t p h;obtain⟨i,v⟩:=q;simp only[fx]at h;cases hb:A3 i t with
  |true=>rw[hb]at h;simp at h;subst h;rw[xy hb];simp
  |false=>rw[hb]at h;exact RB _ (ih h)
theorem pp{C:Ctx}(h:oD P C.maps=true):ny P C:=by
 intro t k v ht;unfold oD at h;rw[A9]at h;have:=h _ (xU ht);unfold Id at this;simp only at this;split at this
 ·rename_i kt vt hu;simp only[np]at this;obtain⟨⟨⟨⟨⟨⟨c1,c2⟩,c3⟩,c4⟩,c0⟩,c5⟩,c6⟩:=this;have c0:¬k=.unit:=by simpa using c0
  have c6:=L9 c6;exact⟨kt,vt,hu,c1,c2,c3,c0,c4,λw F cs x em hx w'=>Hs em c1 c5 c3 (by omega) hx w',λw w1 F F1 cs cs' x y hx hy w'=>by
   show(Op.equalIn Op.maxDepth kt _ _).run P w'=_;exact Bc c1 c5 (by show k.deep<=10000;omega) (nZ c3 x y) hx (ka (ig c3) hy w F) w'⟩
 simp at this
end
end Go.Vm

