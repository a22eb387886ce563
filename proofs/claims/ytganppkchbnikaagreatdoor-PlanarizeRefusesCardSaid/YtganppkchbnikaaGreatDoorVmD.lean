/-
 A machine on typed values, small enough to be reckoned by the kernel, and the proof that it goes with the model: part 4 of 5. What it computes for a function is that function's contract. No condition of its own.
-/
import Derived.Test.YtganppkchbnikaaGreatDoorVmC
import Derived.Maps.RangeRun
import Derived.LoopN
import Derived.ChangeKeysEq
open Option.some renaming injEq->aw,inj->B7
open Bool renaming and_eq_true->np,not_eq_true'->Jw,false_eq_true->JS,not_true->J4,or_eq_true->Kd,false_or->KN,true_and->KO
open List renaming getElem?_eq_getElem->A1,getElem?_eq_some_iff->A2,mem_append->A4,mem_cons->A8,mem_singleton->B4,all_eq_true->B5,length_cons->B6,append_assoc->Jm,mem_cons_of_mem->Jq,pairwise_cons->Jr,getElem?_cons_zero->Ju,mem_of_getElem?->Jv,getElem?_toArray->Jy,append_nil->Jz,map_cons->JA,getElem?_take->JC,mem_cons_self->JH,pairwise_singleton->JI,range->JZ,any_eq_false->J0,pairwise_append->Kh,getD_eq_getElem?_getD->Kp,mem_range->Kq,Pairwise->Kv,cons_append->KD,take_left->KF,flatMap_cons->KI,any_eq_true->KM,filterMap_cons_some->Ld,mem_flatMap->Lh,flatMap_append->Lq,all_cons->Lz,mem_filterMap->L8,countP_append->L9,mem_filter->Mr
open Nat renaming eq_of_beq_eq_true->A3,beq->A7,le_refl->B2,le_of_ble_eq_true->JF,ble->JK,zero_add->JP,lt_of_lt_of_le->JQ,add_assoc->JX,add_zero->JY,eq_or_lt_of_le->J1,le_of_lt_succ->Kj,beq_refl->KP,add_comm->KX,blt->Lx,ne_of_lt->MK,sub_zero->ML,blt_eq->MN
open Option renaming bind_eq_some_iff->A6
open Prod.mk renaming injEq->B3
open Array renaming getElem?_eq_some_iff->Jt,getElem?_toList->JN,getD_eq_getD_getElem?->JW,getElem?_setIfInBounds_ne->KR,replicate->KZ
open Int renaming le_refl->JO
open List.Pairwise renaming nil->KH
open List.cons renaming injEq->KJ
open List.Sublist renaming refl->Lc,append->MM
open Sum.inr renaming injEq->Mk
set_option linter.unusedVariables false
set_option linter.unusedSimpArgs false
/-
 A state laid into a shape: the whole.
-/
namespace Go.Vm
section
variable {P:Program}{C:Ctx}{w0:World}{M:Own}{N:Nat}{a:Act}{m:Mem}{s:St}
theorem Eh{G:Heap}{e:Env}{l:List (Nat×SpS)}{p:Nat×SpS}(hp:p∈l):∀ i∈p.2.froz G (e.get p.1),i∈lG G e l:=by
 induction l with
 |nil=>cases hp
 |cons q l ih=>
  intro i hi;simp only[lG,A4];rcases A8.1 hp with rfl|hp
  ·exact .inl hi
  exact .inr (ih hp i hi)
theorem zD{G:Heap}{R:Ren}{l:List (Nat×SpO)}{i j:Nat}{sl:List SpA}{c:List Atom}(hp:(i,SpO.box sl)∈l)(hj:R.get i=some (.own j))(hc:G.get j=some (.box c)):∀ k∈SpA.frozL sl c,k∈ey G R l:=by
 induction l with
 |nil=>cases hp
 |cons q l ih=>
  intro k hk;rcases A8.1 hp with rfl|hp'
  ·simp only[ey,hj,hc,A4];exact .inl hk
  obtain⟨i',sp⟩:=q;cases sp with
  |arr τ=>exact ih hp' k hk
  |deep τ=>exact ih hp' k hk
  |map _ _=>exact ih hp' k hk
  |box s=>simp only[ey,A4];exact .inr (ih hp' k hk)
theorem Heap.key_of_get{G:Heap}:∀{i:Nat} {o:Obj},G.get i=some o->i∈G.map (·.1):=by
 induction G with
 |nil=>intro i o h;simp[Heap.get_nil0,Heap.get_pair]at h
 |cons p r ih=>
  intro i o h;obtain⟨k,v⟩:=p;rw[Heap.get_cons]at h;split at h
  ·rename_i e;simp[e]
  simp only[JA,A8];exact .inr (ih h)
theorem Ren.mem_of_get{R:Ren}:∀{i:Nat} {src:Src},R.get i=some src->(i,src)∈R:=by
 induction R with
 |nil=>intro i src h;simp[Ren.get]at h
 |cons p r ih=>
  intro i src h;obtain⟨k,v⟩:=p;rw[Ren.get_cons]at h;split at h
  ·rename_i e;simp only[aw]at h;subst h;subst e;simp
  simp[ih h]
theorem me{R:Ren}{i j:Nat}{src:Src}(h:R.get i=some src)(hj:j∈src.ids):j∈R.ids:=by unfold Ren.ids;rw[Lh];exact⟨_,Ren.mem_of_get h,hj⟩
theorem ES{R:Ren}(hn:aH R.ids=true):∀{i i' j:Nat} {src src':Src},R.get i=some src->R.get i'=some src'->j∈src.ids->j∈src'.ids->i=i':=by
 induction R with
 |nil=>intro i i' j src src' h;simp[Ren.get]at h
 |cons p r ih=>
  intro i i' j src src' h h' hj hj';obtain⟨k,v⟩:=p;have hn':aH (Ren.ids r)=true/\∀ x∈v.ids,x∉Ren.ids r:=by
   have e:Ren.ids ((k,v)::r)=v.ids++Ren.ids r:=rfl;rw[e]at hn;cases v with
   |nil=>exact⟨hn,by simp[Src.ids]⟩
   |nild=>exact⟨hn,by simp[Src.ids]⟩
   |own q=>obtain⟨n1,n2⟩:=dM hn;exact⟨n2,by intro x hx;simp[Src.ids]at hx;subst hx;exact n1⟩
   |view q _ _=>obtain⟨n1,n2⟩:=dM hn;exact⟨n2,by intro x hx;simp[Src.ids]at hx;subst hx;exact n1⟩
  rw[Ren.get_cons]at h h';split at h<;>split at h'
  ·omega
  ·simp only[aw]at h;subst h;exact absurd (me h' hj') (hn'.2 j hj)
  ·simp only[aw]at h';subst h';exact absurd (me h hj) (hn'.2 j hj')
  exact ih hn'.1 h h' hj hj'
theorem oZ(hs:Sim C w0 M N a m s.env)(hG:m.G=s.G){sh:Shape}{x:sh.ty.den}(hp:(∀ i v,M.pin i=some v->i∈sh.pins)/\M.base=none)(h:sh.ext s=some x):∃ m',m'.w=m.w/\m'.G=(sh.inj x).G/\Sim C w0 M N a m' (sh.inj x).env:=by
 unfold Shape.ext at h;split at h
 ·simp at h
 rename_i R0 hR0;split at h
 ·simp at h
 rename_i R hR;cases hc:(sh.wf&&pinned R sh.pins&&aH R.ids && !(R.ids.any λi=>((lG s.G s.env sh.env)++(ey s.G R sh.objs)).any λj=>A7 i j)&&(sh.objs.all λp=>(R.get p.1).isSome)&&(sh.env.all λp=>p.2.look s.G R (s.env.get p.1)))with
 |false=>rw[hc]at h;simp at h
 |true=>
  rw[hc]at h;simp only[UA]at h;simp only[np,Jw]at hc;obtain⟨⟨⟨⟨⟨hwf,hpin⟩,hnd⟩,hfz⟩,hall⟩,hlk⟩:=hc;simp only[Shape.wf,np]at hwf;obtain⟨⟨⟨wf0,wf1⟩,wf2⟩,wf3⟩:=hwf;have hfz':∀ i,i∈lG s.G s.env sh.env++ey s.G R sh.objs->i∉R.ids:=by intro i hi hi';rw[J0]at hfz;have:=hfz i hi';exact this (gw.2 hi)
  obtain⟨ρ0,b1,b2,b3⟩:=xQ (m:=m) (e:=s.env) (t:=λi=>a.tmps.getD i undef) hs.env (R:=[]) (ρ:=λ_=>undef) hR0 (by intro i src hi;simp[Ren.get]at hi);rw[<- hG]at hR;obtain⟨ρ,c1,c2,c3⟩:=kU hs.inv hR b1;obtain⟨k,hk⟩:∃ k,k=(ni sh.objs (iM sh.env) x):=⟨_,rfl⟩;obtain⟨e1,e2⟩:=uE h;have e3:=yJ e1;rw[<- hk]at e1 e2 e3;rw[<- hG]at e1 e2 e3
  -- what is not kept is given up
  obtain⟨others,hoth⟩:∃ others,others=(m.G.map (·.1)).filter λi=>!(R.ids.any λj=>A7 i j):=⟨_,rfl⟩;obtain⟨m1,d1,d2,d3,d4,d5,d6⟩:=cE others hs.inv;have hother:∀ i,gC m i->i∉R.ids->i∈others:=by
   rintro i ⟨o,ho,_⟩ hi;rw[hoth,Mr];refine⟨Heap.key_of_get ho,?_⟩;simp only[Jw];cases hb:(R.ids.any λj=>A7 i j)with
   |false=>rfl
   |true=>exact absurd (gw.1 hb) hi
  have hnot:∀ i∈R.ids,i∉others:=by intro i hi hi';rw[hoth,Mr]at hi';have:=hi'.2;rw[gw.2 hi]at this;simp at this
  let m':Mem:=⟨m.w,m1.F,λi=>match R.get i with|some (.own j)=>m.ι j|_=>ρ i,k.1⟩
  have hL:Laid m m' R ρ sh.objs:=by
   refine⟨rfl,λb hb=>d6 b (.inl hb),λid b hid hb=>d6 b (.inr ⟨id,hother id ?_ hid,hb⟩),c1,λi=>rfl,λi sp hm=>?_⟩
   ·obtain⟨o,h1,h2,_⟩:=hb;exact⟨o,h1,h2⟩
   exact x9 (r:=λi sp o=>vV m.G R i sp o) e2 wf3 hm
  -- where an object's block comes from
  have hsrc:∀ i o,k.1.get i=some o->isObj o=true->∀ b,HB (m'.ι i) b->∃ src j o',R.get i=some src/\j∈src.ids/\m.G.get j=some o'/\isObj o'=true/\HB (m.ι j) b:=by
   intro i o ho hob b hb;obtain⟨sp,hm,hobj⟩:=xH (r:=λi sp o=>vV m.G R i sp o) e2 ho;cases sp with
   |box l=>
    obtain⟨j,c,as,rfl,h1,h2,_⟩:=hobj;have e:m'.ι i=m.ι j:=by show(match R.get i with|some (.own j)=>m.ι j|_=>ρ i)=_;rw[h1]
    exact⟨_,j,_,h1,by simp[Src.ids],h2,rfl,by rw[<- e];exact hb⟩
   |map κ v=>
    obtain⟨y,rfl,h1⟩:=hobj;cases hsr:R.get i with
    |none=>rw[hsr]at h1;simp[fI]at h1
    |some src=>
     rw[hsr]at h1;cases src with
     |own j=>
      have e:m'.ι i=m.ι j:=by show(match R.get i with|some (.own j)=>m.ι j|_=>ρ i)=_;rw[hsr]
      simp only[fI]at h1;split at h1
      ·rename_i hg;exact⟨_,j,_,rfl,by simp[Src.ids],hg,rfl,by rw[<- e];exact hb⟩
      simp at h1
     |_=>simp[fI]at h1
   |deep τ=>
    obtain⟨y,rfl,h1⟩:=hobj;cases hsr:R.get i with
    |none=>rw[hsr]at h1;simp[cz]at h1
    |some src=>
     rw[hsr]at h1;have hreal:=c1 i src hsr;cases src with
     |nild=>
      have e:m'.ι i=ρ i:=by show(match R.get i with|some (.own j)=>m.ι j|_=>ρ i)=_;rw[hsr]
      obtain⟨ad,hr⟩:=hreal;rw[e,hr]at hb;obtain⟨u,hu,hb⟩:=hb;simp at hu;subst hu;cases ad<;>simp[HB1]at hb
     |own j=>
      have e:m'.ι i=m.ι j:=by show(match R.get i with|some (.own j)=>m.ι j|_=>ρ i)=_;rw[hsr]
      simp only[cz]at h1;split at h1
      ·rename_i hg;exact⟨_,j,_,rfl,by simp[Src.ids],hg,rfl,by rw[<- e];exact hb⟩
      simp at h1
     |nil=>simp[cz]at h1
     |view _ _ _=>simp[cz]at h1
   |arr τ=>
    obtain⟨y,rfl,h1⟩:=hobj;cases hsr:R.get i with
    |none=>rw[hsr]at h1;simp[cY]at h1
    |some src=>
     rw[hsr]at h1;have hreal:=c1 i src hsr;cases src with
     |nil=>
      have e:m'.ι i=ρ i:=by show(match R.get i with|some (.own j)=>m.ι j|_=>ρ i)=_;rw[hsr]
      obtain⟨ad,hr⟩:=hreal;rw[e,hr]at hb;cases ad<;>simp[HB,HB1]at hb
     |own j=>
      have e:m'.ι i=m.ι j:=by show(match R.get i with|some (.own j)=>m.ι j|_=>ρ i)=_;rw[hsr]
      simp only[cY]at h1;split at h1
      ·rename_i σ l hg;exact⟨_,j,_,rfl,by simp[Src.ids],hg,rfl,by rw[<- e];exact hb⟩
      simp at h1
     |view j o n=>
      have e:m'.ι i=ρ i:=by show(match R.get i with|some (.own j)=>m.ι j|_=>ρ i)=_;rw[hsr]
      have hbase:fE ⟨[],m.G⟩ τ (.av (.view j o n))=some (y,[j]):=by
       simp only[cY]at h1;split at h1
       ·rename_i σ l hg;obtain⟨he,hx⟩:=aD h1;cases he;subst hx;simp[fE,hg,bC]
       simp at h1
      obtain⟨_,h3⟩:=kS (s:=⟨[],m.G⟩) hs.inv rfl hbase (show RelSV m (ρ i) (.av (.view j o n))from hreal);rcases h3 with⟨h3,_⟩|⟨id,o',h3,h4,h5,h6⟩
      ·cases h3
      simp only[KJ,and_true]at h3;subst h3;rw[e]at hb;refine⟨_,j,o',rfl,by simp[Src.ids],h4,h5,?_⟩;rcases h6 with h6|⟨ad,n',h6⟩
      ·exact h6 b hb
      rw[h6]at hb;cases ad<;>simp[HB,HB1]at hb
     |nild=>simp[cY]at h1
  have hF:∀ b,m.F b->m'.F b/\m'.w.heap[b]?=m.w.heap[b]?:=λb hb=>⟨hL.F b hb,rfl⟩;have hinv:Inv C w0 M m':=by
   refine⟨hs.inv.kept,?_,?_,?_,?_,λg τ x hg=>(hs.inv.glob g τ x hg).mono hF,d4.bnd,⟨λi v hv=>?_,λm0 h0=>by rw[hp.2]at h0;cases h0⟩⟩
   ·intro i o ho;obtain⟨sp,hm,hobj⟩:=xH (r:=λi sp o=>vV m.G R i sp o) e2 ho;cases sp with
    |box l=>
     obtain⟨j,c,as,rfl,h1,h2,h3⟩:=hobj;obtain⟨bl,cc,el,q1,q2,q3,q4⟩:=hs.inv.objs j _ h2;obtain⟨j',b',r1,r2,r3⟩:=c3 _ hm l rfl;simp only at r1;rw[h1]at r1;simp only[aw,Src.own.injEq]at r1;subst r1;have hwl:(l.all λy=>y.wf sh.objs)=true:=by rw[B5]at wf2;exact wf2 _ hm
     have e:m'.ι i=m.ι j:=by show(match R.get i with|some (.own j)=>m.ι j|_=>ρ i)=_;rw[h1]
     refine⟨bl,cc,el,by rw[e,q1],q2,q3,nC hs.inv hL h3 q4 (r3 bl cc el q1 q2) hwl (λz hz=>hfz' z ?_)⟩;rw[A4];rw[<- hG];exact .inr (zD hm h1 h2 z hz)
    |map κ v=>
     obtain⟨y,rfl,h1⟩:=hobj;cases hsr:R.get i with
     |none=>rw[hsr]at h1;simp[fI]at h1
     |some src=>
      rw[hsr]at h1;cases src with
      |own j=>
       have e:m'.ι i=m.ι j:=by show(match R.get i with|some (.own j)=>m.ι j|_=>ρ i)=_;rw[hsr]
       simp only[fI]at h1;split at h1
       ·rename_i k' v' l hg;obtain⟨e1,e2,hx⟩:=eX h1;subst e1;subst e2
        simp only at hx;subst hx;rcases hs.inv.objs j _ hg with⟨d0,b,es,clock,d1,d2,d3⟩|⟨d0,b,x,pos,d1,d2,d3⟩
        ·exact .inl ⟨d0,b,es,clock,by rw[e,d1],d2,d3.1.mono hF,d3.2⟩
        exact .inr ⟨d0,b,x,pos,by rw[e,d1],d2,d3⟩
       simp at h1
      |_=>simp[fI]at h1
    |deep τ=>
     obtain⟨y,rfl,h1⟩:=hobj;cases hsr:R.get i with
     |none=>rw[hsr]at h1;simp[cz]at h1
     |some src=>
      rw[hsr]at h1;have hreal:=c1 i src hsr;cases src with
      |nild=>
       have e:m'.ι i=ρ i:=by show(match R.get i with|some (.own j)=>m.ι j|_=>ρ i)=_;rw[hsr]
       obtain⟨ad,hr⟩:=hreal;simp only[cz,aw]at h1;subst h1;exact⟨.slice ad 0 0,[],by rw[e,hr],rfl,⟨ad,0,rfl,by simp,by unfold maxLen;omega,λh=>absurd rfl h⟩,by intro k hk;simp at hk,(by intro k v hk;cases hk),JI _ _⟩
      |own j=>
       have e:m'.ι i=m.ι j:=by show(match R.get i with|some (.own j)=>m.ι j|_=>ρ i)=_;rw[hsr]
       simp only[cz]at h1;split at h1
       ·rename_i ver σ l hg;obtain⟨he,hx⟩:=aD h1;simp only[Ty.slice.injEq]at he;subst he;subst hx;obtain⟨u,hs',d1,d2⟩:=cr hs.inv hg;exact⟨u,hs',by rw[e,d1],d2.mono hF (λ_ _ _ _=>rfl)⟩
       simp at h1
      |nil=>simp[cz]at h1
      |view _ _ _=>simp[cz]at h1
    |arr τ=>
     obtain⟨y,rfl,h1⟩:=hobj;cases hsr:R.get i with
     |none=>rw[hsr]at h1;simp[cY]at h1
     |some src=>
      rw[hsr]at h1;have hreal:=c1 i src hsr;cases src with
      |nil=>
       have e:m'.ι i=ρ i:=by show(match R.get i with|some (.own j)=>m.ι j|_=>ρ i)=_;rw[hsr]
       obtain⟨ad,hr⟩:=hreal;simp only[cY,aw]at h1;subst h1;exact⟨ad,0,by rw[e,hr];rfl,by simp,by unfold maxLen;omega,λh=>absurd rfl h⟩
      |own j=>
       have e:m'.ι i=m.ι j:=by show(match R.get i with|some (.own j)=>m.ι j|_=>ρ i)=_;rw[hsr]
       simp only[cY]at h1;split at h1
       ·rename_i σ l hg;obtain⟨he,hx⟩:=aD h1;cases he;subst hx;obtain⟨ad,cap,q1,q2,q3,q4⟩:=hs.inv.objs j _ hg;refine⟨ad,cap,by rw[e,q1],q2,q3,λhc=>?_⟩;obtain⟨b,off,c,el,fz,p1,p2,p3,p4,p5⟩:=q4 hc;exact⟨b,off,c,el,fz,p1,p2,p3,p4,λz hz=>(p5 z hz).mono hF⟩
       simp at h1
      |view j o n=>
       have e:m'.ι i=ρ i:=by show(match R.get i with|some (.own j)=>m.ι j|_=>ρ i)=_;rw[hsr]
       have hbase:fE ⟨[],m.G⟩ τ (.av (.view j o n))=some (y,[j]):=by
        simp only[cY]at h1;split at h1
        ·rename_i σ l hg;obtain⟨he,hx⟩:=aD h1;cases he;subst hx;simp[fE,hg,bC]
        simp at h1
       obtain⟨⟨ad,cap,q1,q2,q3,q4⟩,_⟩:=kS (s:=⟨[],m.G⟩) hs.inv rfl hbase (show RelSV m (ρ i) (.av (.view j o n))from hreal);refine⟨ad,cap,by rw[e,q1],q2,q3,λhc=>?_⟩;obtain⟨b,off,c,el,fz,p1,p2,p3,p4,p5⟩:=q4 hc;exact⟨b,off,c,el,fz,p1,p2,p3,p4,λz hz=>(p5 z hz).mono hF⟩
      |nild=>simp[cY]at h1
   ·intro i o b ho hob hb;obtain⟨src,j,o',h1,h2,h3,h4,h5⟩:=hsrc i o ho hob b hb;obtain⟨k1,k2,k3⟩:=hs.inv.own j o' b h3 h4 h5;have hj:=hnot j (me h1 h2);have:=d4.own j o' b (by rw[d3,bf others _ j hj];exact h3) h4 (by rw[d2];exact h5);exact⟨k1,this.2.1,k3⟩
   ·intro i i' p q b hp hop hq hoq h1 h2;obtain⟨src,j,o1,r1,r2,r3,r4,r5⟩:=hsrc i p hp hop b h1;obtain⟨src',j',o2,s1,s2,s3,s4,s5⟩:=hsrc i' q hq hoq b h2;have:=hs.inv.inj j j' o1 o2 b r3 r4 s3 s4 r5 s5;subst this;exact ES hnd r1 s1 r2 s2
   ·intro b hb;have:=d4.fro b hb;rw[d1]at this;exact this
   have hip:=hp.1 i v hv;rw[B5]at wf0;have hobj:∃ o,k.1.get i=some o/\isDeep o=false/\∀ j o2,R.get i=some (.own j)->m.G.get j=some o2->isObj o2=true:=by
    have h0:=wf0 i hip;simp only[Kd]at h0;rcases h0 with h0|h0
    ·obtain⟨τ,y,k1,h4⟩:=hL.arr h0;refine⟨_,k1,rfl,λj o2 hj h1=>?_⟩;rw[hj]at h4;simp only[cY]at h4;rw[h1]at h4;cases o2<;>first|rfl|simp at h4
    unfold e8 at h0;rw[KM]at h0;obtain⟨⟨i',sp⟩,hm,hq⟩:=h0;simp only[np]at hq;have:=A3 hq.1;subst this;cases sp with
    |box l=>obtain⟨o,k1,h4⟩:=x9 (r:=λi sp o=>vV m.G R i sp o) e2 wf3 hm;obtain⟨j,c,as,rfl,h5,h6,_⟩:=h4;refine⟨_,k1,rfl,λj' o2 hj h1=>?_⟩;rw[h5]at hj;simp only[aw,Src.own.injEq]at hj;subst hj;rw[h6]at h1;cases h1;rfl
    |arr _=>simp[SpO.kind]at hq
    |deep _=>simp[SpO.kind]at hq
    |map _ _=>simp[SpO.kind]at hq
   obtain⟨o9,k1,k2,k3⟩:=hobj;refine⟨o9,k1,λ_=>?_⟩;unfold pinned at hpin;rw[B5]at hpin;have hq:=hpin i hip;split at hq
   ·rename_i j hj;have:=A3 hq;subst this;have e:m'.ι i=m.ι i:=by show(match R.get i with|some (.own j)=>m.ι j|_=>ρ i)=_;rw[hj]
    rw[e];obtain⟨o,h1,h2⟩:=hs.inv.pin.1 i v hv;exact⟨(h2 (k3 i o hj h1)).1,k2⟩
   simp at hq
  refine⟨m',rfl,by show k.1=_;rw[hk];rfl,hinv,hs.defers,hs.size,λt=>?_⟩;have henv:(sh.inj x).env=sf sh.env k.2:=by rw[hk];rfl
  rw[henv];rcases EU (r:=λi sp v=>w9 m.G sp (s.env.get i) v) e3 t with h0|⟨sp,hm,hl⟩
  ·rw[h0];trivial
  have hwl:sp.wf sh.objs=true:=by rw[B5]at wf1;exact wf1 _ hm
  refine yM hs.inv hL hl (hs.env t) ((b3 _ hm).ext c2) hwl (λz hz=>hfz' z ?_) ?_
  ·rw[A4];rw[<- hG];exact .inl (Eh hm z hz)
  rw[B5]at hlk;rw[hG];exact hlk _ hm
end
end Go.Vm

/-
 The least value of a map, by a loop over the map in whatever order.
-/
namespace Go.Vm
section
variable {P:Program}{N:Nat}
theorem Ay{a:Act}{d:Nat}{v:Value}(h:a.tmps.getD d undef=v)(hne:v≠undef):a.tmps[d]?=some v:=by
 rw[JW]at h;cases hg:a.tmps[d]? with
 |none=>rw[hg]at h;exact absurd h.symm hne
 |some u=>rw[hg]at h;simp at h;rw[h]
theorem cZ{a:Act}{d:Nat}{v:Value}(h:d<a.tmps.size):(a.put (some d) v).tmps.getD d undef=v:=by simp[Act.put,h]
theorem ab{a:Act}{d t:Nat}{v:Value}(h:d≠t):(a.put (some d) v).tmps.getD t undef=a.tmps.getD t undef:=by show(a.tmps.setIfInBounds d v).getD t undef=_;rw[JW,JW,KR h]
theorem cq{a:Act}{d:Nat}{v:Value}:(a.put (some d) v).tmps.size=a.tmps.size:=by simp[Act.put]
structure MJ (N:Nat)(a0 a:Act):Prop where
 defers:a.defers=[]
 size:N<=a.tmps.size
 old:∀ t,t∉uv->a.tmps.getD t undef=a0.tmps.getD t undef
theorem MJ.put{a0 a:Act}(h:MJ N a0 a){d:Nat}(hd:d∈uv)(v:Value):MJ N a0 (a.put (some d) v):=
 ⟨h.defers,by rw[cq];exact h.size,λt ht=>(ab (a:=a) (v:=v) (d:=d) (t:=t) (λe=>ht (by rw[<- e];exact hd))).trans (h.old t ht)⟩
theorem cu {ops:Array Oper}{Q:Exit->Act->World->Prop}{i:Nat}{o:Oper}{v:Value}{a:Act}{w w':World}{rest:List Nat}(d:Nat)(ho:ops[i]?=some o)(hd:o.dst=some d)(hw:Region.wanted o (yielded ops a.tmps)=true)
  (h:(execOp a.eval o).run P w=.ok (.value v) w') (K:wpOps P ops Q rest (a.put (some d) v) w'):wpOps P ops Q (i::rest) a w:=by
 rw[<- hd]at K;rw[wpOps_cons];unfold wpOp;rw[ho];simp only;rw[if_pos hw];exact .inl (Does.value (R:=λu w2=>u=v/\w2=w') h ⟨rfl,rfl⟩ _ _ (λu w2 ⟨e1,e2⟩=>by subst e1 e2;exact K))
theorem tf {ops:Array Oper}{Q:Exit->Act->World->Prop}{i:Nat}{o:Oper}{a:Act}{w:World}{rest:List Nat}(d:Nat)(ho:ops[i]?=some o)(hd:o.dst=some d)(hw:Region.wanted o (yielded ops a.tmps)=false)
  (K:wpOps P ops Q rest (a.put (some d) undef) w):wpOps P ops Q (i::rest) a w:=by
 rw[<- hd]at K;rw[wpOps_cons];unfold wpOp;rw[ho];simp only;rw[if_neg (by rw[hw];exact Bool.false_ne_true)];exact K
structure MW (W:World)(I B clock:Nat)(sn:Array Nat)(w:World):Prop where
 os:w.os=W.os
 tape:w.tape=W.tape
 output:w.output=W.output
 size:W.heap.size<=w.heap.size
 old:∀ b,b<W.heap.size->w.heap[b]?=W.heap[b]?
 it:∃ c0,clock<=c0/\w.heap[I]?=some (.mapIter (some B) clock sn c0)
def Found(es:List MapEntry)(sn:Array Nat)(v:Int):Bool->Prop
 |false=>∀ x∈es,sn.contains x.born=false
 |true=>(∃ x∈es,x.val=.int .i64 v)/\∀ x∈es,sn.contains x.born=true->∃ n,x.val=.int .i64 n/\v<=n
section
variable {W:World}{I B clock:Nat}{es:Array MapEntry}{a0:Act}
theorem gd(a:Act)(t:Nat):a.eval (.tmp t)=a.tmps.getD t undef:=rfl
theorem dd{a0 a:Act}(h:MJ N a0 a){d:Nat}(hd:d∈uv)(h64:64<=N):d<a.tmps.size:=by
 have:=h.size;have:d<64:=by revert d;decide
 omega
theorem MW.next {w:World}{sn:Array Nat}(h:MW W I B clock sn w)(hI:W.heap.size<=I)(hB:W.heap[B]?=some (.map es clock))(hst:Stp es.toList clock)(ty:TypeId) :
  ((∀ x∈es.toList,sn.contains x.born=true)/\(Instr.next (.pointer (some ⟨I,0,none⟩)) false ty).run P w=.ok (.tuple #[.bool false]) w) \/
  ∃ e∈es.toList,sn.contains e.born=false/\∃ w',(Instr.next (.pointer (some ⟨I,0,none⟩)) false ty).run P w=.ok (.tuple #[.bool true,e.key,e.val]) w'/\MW W I B clock (sn.push e.born) w' /\
   (Instr.entry (.pointer (some ⟨I,0,none⟩))).run P w'=.ok (.tuple #[e.key,e.val]) w'/\(leftOf es (sn.push e.born)).size<(leftOf es sn).size:=by
 obtain⟨c0,hc,hi⟩:=h.it;have hBl:B<W.heap.size:=(Jt.1 hB).1;have hb:=(h.old B hBl).trans hB;rcases run_next_at (P:=P) w ty I B clock c0 sn es clock hi hb hst.2 hc with⟨h0,hrun⟩|⟨e,he,w1,hal,hrun⟩
 ·exact .inl ⟨all_seen es sn h0,hrun⟩
 obtain⟨hem,hes⟩:=mem_left he;have hI':I<w.heap.size:=(Jt.1 hi).1;have hh:w1.heap=w.heap:=by rcases hal with rfl|rfl<;>rfl
 have e1:w1.os=w.os/\w1.tape=w.tape/\w1.output=w.output:=by rcases hal with rfl|rfl<;>exact⟨rfl,rfl,rfl⟩
 have hset:∀ o:Go.Obj,(Go.ChangeMaps.setBlock w1 I o).heap=w.heap.setIfInBounds I o:=λo=>by simp[Go.ChangeMaps.setBlock,hh]
 have hnd:(es.toList.map (·.born)).Nodup:=hst.1.imp (λh=>MK h);have hne:B≠I:=by omega
 refine .inr ⟨e,hem,hes,_,hrun,⟨e1.1.trans h.os,e1.2.1.trans h.tape,e1.2.2.trans h.output,?_,?_,clock,B2 _,?_⟩,?_,left_shrinks es sn e he⟩
 ·rw[hset];simpa using h.size
 ·intro b hbl;rw[hset,KR (by omega)];exact h.old b hbl
 ·rw[hset];simp[hI']
 refine run_entry_at _ I B clock sn es clock e ?_ ?_ hem hnd
 ·rw[hset];simp[hI']
 rw[hset,KR hne.symm];exact hb
theorem Found.step {sn:Array Nat}{v:Int}{f:Bool}{l:List MapEntry}(hnd:(l.map (·.born)).Nodup)(h:Found l sn v f){e:MapEntry}(he:e∈l){n:Int}(hn:e.val=.int .i64 n) :
  Found l (sn.push e.born) (if f=false\/n<v then n else v) true:=by
 have one:∀ x∈l,(sn.push e.born).contains x.born=true->sn.contains x.born=true\/x=e:=by
  intro x hx hc;rw[contains_push]at hc;rcases Bool.or_eq_true_iff.1 hc with hc|hc
  ·exact .inl hc
  exact .inr (born_inj hnd hx he (beq_iff_eq.1 hc))
 cases f with
 |false=>
  simp only[true_or,if_true];refine⟨⟨e,he,hn⟩,λx hx hc=>?_⟩;rcases one x hx hc with hc|rfl
  ·rw[h x hx]at hc;cases hc
  exact⟨n,hn,JO _⟩
 |true=>
  obtain⟨h1,h2⟩:=h;simp only[Bool.true_eq_false,false_or];split
  ·rename_i hlt;refine⟨⟨e,he,hn⟩,λx hx hc=>?_⟩;rcases one x hx hc with hc|rfl
   ·obtain⟨k,k1,k2⟩:=h2 x hx hc;exact⟨k,k1,by omega⟩
   exact⟨n,hn,JO _⟩
  rename_i hlt;refine⟨h1,λx hx hc=>?_⟩;rcases one x hx hc with hc|rfl
  ·exact h2 x hx hc
  exact⟨n,hn,by omega⟩
theorem bp{o:Oper}{f:Nat->Option Bool}(h:o.guard=none):Region.wanted o f=true:=by simp[Region.wanted,h]
section
variable {a:Act}{w:World}{o:Oper}
theorem oa{x:Operand}{v:Value}(ho:o.op=.move x)(h:a.eval x=v):(execOp a.eval o).run P w=.ok (.value v) w:=by simp[execOp,ho,h]
theorem pj{x:Operand}{v:Value}(ho:o.op=.assign x)(h:a.eval x=v):(execOp a.eval o).run P w=.ok (.value v) w:=by simp[execOp,ho,h]
theorem Cm{c x y:Operand}{b:Bool}{v:Value}(ho:o.op=.pick c x y)(h:a.eval c=.bool b)(h2:(if b then a.eval x else a.eval y)=v):(execOp a.eval o).run P w=.ok (.value v) w:=by subst h2;cases b<;>simp[execOp,ho,h,asBool]
theorem Ix{t:TypeId}{x:Operand}{b:Bool}(ho:o.op=.unOp .not t x)(h:a.eval x=.bool b):(execOp a.eval o).run P w=.ok (.value (.bool (!b))) w:=by simp[execOp,ho,h,Op.unary]
theorem nA{x:Operand}{i:Nat}{vs:Array Value}{v:Value}(ho:o.op=.extract x i)(h:a.eval x=.tuple vs)(hv:vs[i]?=some v):(execOp a.eval o).run P w=.ok (.value v) w:=by simp[execOp,ho,h,Instr.extract,hv]
theorem Fd{x:Operand}{u v:Value}(ho:o.op=.entry x)(h:a.eval x=u)(hr:(Instr.entry u).run P w=.ok v w):(execOp a.eval o).run P w=.ok (.value v) w:=by simp[execOp,ho,h,hr]
theorem Dl{x:Operand}{u v:Value}{w':World}{s:Bool}(ho:o.op=.next x s)(h:a.eval x=u)(hr:(Instr.next u s o.type).run P w=.ok v w'):(execOp a.eval o).run P w=.ok (.value v) w':=by simp[execOp,ho,h,hr]
theorem EQ{t:TypeId}{x:Operand}{u v:Value}{w':World}(ho:o.op=.range t x)(h:a.eval x=u)(hr:(Instr.range t u).run P w=.ok v w'):(execOp a.eval o).run P w=.ok (.value v) w':=by simp[execOp,ho,h,hr]
theorem H7{t yt:TypeId}{x y:Operand}{m n:Int}(ho:o.op=.binOp .lss t x y yt)(h:a.eval x=.int .i64 m)(h2:a.eval y=.int .i64 n):(execOp a.eval o).run P w=.ok (.value (.bool (decide (m<n)))) w:=by simp[execOp,ho,h,h2,eqGuard,binOp,Op.intCmp]
end
theorem GZ{ops:Array Oper}{l:List Oper}(h:ops.toList=l):ops=l.toArray:=by apply Array.ext';simpa using h
structure MRd (P:Program)(N I:Nat)(es:Array MapEntry)(a0:Act)(sn:Array Nat)(v:Int)(f:Bool)(a:Act):Prop where
 mj:MJ N a0 a
 it:a.tmps.getD 51 undef=.pointer (some ⟨I,0,none⟩)
 hv:a.tmps.getD 13 undef=.int .i64 v
 hf:a.tmps.getD 14 undef=.bool f
 fd:Found es.toList sn v f
theorem gK{id:Nat}{ops:Array Oper}{l:List Oper}(h:ops.toList=l){Q:Exit->Act->World->Prop}{a:Act}{w:World}(hw:wpOps P l.toArray Q (JZ l.length) a w):(Code.region id ops false).wp P Q a w:=by rw[GZ h];refine wp_region ?_;simpa using hw
theorem l14{C:Ctx}(hM:nh P C){l:List Oper}(h:c14 C l=true):∃ t p1 q1 r1 p2 q2 r2 k e,l=[⟨some 50,.move (.tmp 11),p1,q1,r1,none⟩,⟨some 51,.range t (.tmp 50),p2,q2,r2,none⟩]/\P.underlying t=some (.map k e):=by
 unfold c14 at h;split at h
 ·unfold CB at h;split at h
  ·rename_i hp;obtain⟨kt,vt,hT⟩:=hM _ _ _ hp;exact⟨_,_,_,_,_,_,_,_,_,rfl,hT.und⟩
  cases h
 cases h
theorem l15{l:List Oper}(h:c15 l=true):∃ p1 q1 r1 p2 q2 r2,l=[⟨some 52,.next (.tmp 51) false,p1,q1,r1,none⟩,⟨some 53,.extract (.tmp 52) 0,p2,q2,r2,none⟩]:=by
 unfold c15 at h;split at h
 ·exact⟨_,_,_,_,_,_,rfl⟩
 cases h
theorem l16{l:List Oper}(h:c16 l=true):∃ p1 q1 r1 p2 q2 r2 p3 q3 r3,l=[⟨some 54,.entry (.tmp 51),p1,q1,r1,none⟩,⟨some 55,.extract (.tmp 54) 1,p2,q2,r2,none⟩,⟨some 16,.assign (.tmp 55),p3,q3,r3,none⟩]:=by
 unfold c16 at h;split at h
 ·exact⟨_,_,_,_,_,_,_,_,_,rfl⟩
 cases h
theorem l17 {l:List Oper}(h:c17 l=true):∃ t u yt p1 q1 r1 p2 q2 r2 p3 q3 r3 p4 q4 r4 p5 q5 r5 p6 q6 r6 p7 q7 r7,l=[⟨some 56,.move (.tmp 14),p1,q1,r1,none⟩,⟨some 57,.unOp .not u (.tmp 56),p2,q2,r2,none⟩,⟨some 58,.move (.tmp 57),p3,q3,r3,none⟩,
   ⟨some 59,.move (.tmp 16),p4,q4,r4,some (2,false)⟩,⟨some 60,.move (.tmp 13),p5,q5,r5,some (2,false)⟩,⟨some 61,.binOp .lss t (.tmp 59) (.tmp 60) yt,p6,q6,r6,some (2,false)⟩,
   ⟨some 62,.pick (.tmp 58) (.const (.bool true)) (.tmp 61),p7,q7,r7,none⟩]:=by
 unfold c17 at h;split at h
 ·exact⟨_,_,_,_,_,_,_,_,_,_,_,_,_,_,_,_,_,_,_,_,_,_,_,_,rfl⟩
 cases h
theorem l18{l:List Oper}(h:c18 l=true):∃ p1 q1 r1 p2 q2 r2 p3 q3 r3,l=[⟨some 63,.move (.tmp 16),p1,q1,r1,none⟩,⟨some 13,.assign (.tmp 63),p2,q2,r2,none⟩,⟨some 14,.assign (.const (.bool true)),p3,q3,r3,none⟩]:=by
 unfold c18 at h;split at h
 ·exact⟨_,_,_,_,_,_,_,_,_,rfl⟩
 cases h
theorem Bz {o16 o17 o18:Array Oper}{r16 r17 r18 k3:Nat}(h16:c16 o16.toList=true)(h17:c17 o17.toList=true)(h18:c18 o18.toList=true)(h64:64<=N){Q:Exit->Act->World->Prop}{a:Act}{w:World}{sn:Array Nat}{v:Int}{f:Bool}
  (hnd:(es.toList.map (·.born)).Nodup) {e:MapEntry} (he:e∈es.toList) {n:Int} (hn:e.val=.int .i64 n) (hr:MRd P N I es a0 sn v f a) (hent:(Instr.entry (.pointer (some ⟨I,0,none⟩))).run P w=.ok (.tuple #[e.key,e.val]) w)
  (hQ:∀ a' v',MRd P N I es a0 (sn.push e.born) v' true a'->Q .normal a' w) :
  (Code.block k3 (.seq (.region r16 o16 false) (.seq (.region r17 o17 false) (.cond (.tmp 62) (.region r18 o18 false) .skip)))).wp P Q a w:=by
 obtain⟨p1,q1,s1,p2,q2,s2,p3,q3,s3,e16⟩:=l16 h16;obtain⟨t,u,yt,g1,g2,g3,g4,g5,g6,g7,g8,g9,g10,g11,g12,g13,g14,g15,g16,g17,g18,g19,g20,g21,e17⟩:=l17 h17;obtain⟨y1,y2,y3,y4,y5,y6,y7,y8,y9,e18⟩:=l18 h18;have m:=hr.mj;have sz:∀ d,d∈uv->d<a.tmps.size:=λd hd=>dd m hd h64;have z52:=sz 52 (by decide);have z53:=sz 53 (by decide);have z54:=sz 54 (by decide);have z55:=sz 55 (by decide);have z16:=sz 16 (by decide)
 have z56:=sz 56 (by decide);have z57:=sz 57 (by decide);have z58:=sz 58 (by decide);have z59:=sz 59 (by decide);have z60:=sz 60 (by decide);have z61:=sz 61 (by decide);have z62:=sz 62 (by decide);have z63:=sz 63 (by decide)
 have z13:=sz 13 (by decide);have z14:=sz 14 (by decide)
 refine wp_block (wp_seq (gK e16 ?_));change wpOps P _ _ [0,1,2] a w;refine cu (w':=w) 54 rfl rfl (bp rfl) (v:=.tuple #[e.key,e.val]) (Fd rfl hr.it hent) ?_;refine cu (w':=w) 55 rfl rfl (bp rfl) (v:=e.val) (nA rfl (cZ z54) rfl) ?_;refine cu (w':=w) 16 rfl rfl (bp rfl) (v:=e.val) (pj rfl (cZ (by rw[cq];exact z55))) ?_;show Code.wp P _ _ (((a.put (some 54) (.tuple #[e.key,e.val])).put (some 55) e.val).put (some 16) e.val) w;generalize ha1:((a.put (some 54) (.tuple #[e.key,e.val])).put (some 55) e.val).put (some 16) e.val=a1;have m1:MJ N a0 a1:=by rw[<- ha1];exact((m.put (by decide) _).put (by decide) _).put (by decide) _
 have x1:a1.tmps.getD 16 undef=.int .i64 n:=by rw[<- ha1,cZ (by simp only[cq];exact z16),hn]
 have i1:a1.tmps.getD 51 undef=.pointer (some ⟨I,0,none⟩):=by rw[<- ha1,ab (by decide),ab (by decide),ab (by decide)];exact hr.it
 have v1:a1.tmps.getD 13 undef=.int .i64 v:=by rw[<- ha1,ab (by decide),ab (by decide),ab (by decide)];exact hr.hv
 have f1:a1.tmps.getD 14 undef=.bool f:=by rw[<- ha1,ab (by decide),ab (by decide),ab (by decide)];exact hr.hf
 show Code.wp P _ _ a1 w;have sz1:∀ d,d∈uv->d<a1.tmps.size:=λd hd=>dd m1 hd h64;refine wp_seq (gK e17 ?_);change wpOps P _ _ [0,1,2,3,4,5,6] a1 w;refine cu (w':=w) 56 rfl rfl (bp rfl) (v:=.bool f) (oa rfl f1) ?_;refine cu (w':=w) 57 rfl rfl (bp rfl) (v:=.bool (!f)) (Ix rfl (cZ (sz1 56 (by decide)))) ?_;refine cu (w':=w) 58 rfl rfl (bp rfl) (v:=.bool (!f)) (oa rfl (cZ (by rw[cq];exact sz1 57 (by decide)))) ?_;generalize ha2:((a1.put (some 56) (.bool f)).put (some 57) (.bool (!f))).put (some 58) (.bool (!f))=a2;have m2:MJ N a0 a2:=by rw[<- ha2];exact((m1.put (by decide) _).put (by decide) _).put (by decide) _
 have sz2:∀ d,d∈uv->d<a2.tmps.size:=λd hd=>dd m2 hd h64;have x2:a2.tmps.getD 16 undef=.int .i64 n:=by rw[<- ha2,ab (by decide),ab (by decide),ab (by decide)];exact x1
 have i2:a2.tmps.getD 51 undef=.pointer (some ⟨I,0,none⟩):=by rw[<- ha2,ab (by decide),ab (by decide),ab (by decide)];exact i1
 have v2:a2.tmps.getD 13 undef=.int .i64 v:=by rw[<- ha2,ab (by decide),ab (by decide),ab (by decide)];exact v1
 have f2:a2.tmps.getD 14 undef=.bool f:=by rw[<- ha2,ab (by decide),ab (by decide),ab (by decide)];exact f1
 have b2:a2.tmps.getD 58 undef=.bool (!f):=by rw[<- ha2,cZ (by simp only[cq];exact sz1 58 (by decide))]
 change wpOps P _ _ [3,4,5,6] a2 w
 -- the comparison
 have fin:∀(c:Bool) (a3:Act),MJ N a0 a3->a3.tmps.getD 16 undef=.int .i64 n->a3.tmps.getD 51 undef=.pointer (some ⟨I,0,none⟩)->a3.tmps.getD 13 undef=.int .i64 v->a3.tmps.getD 14 undef=.bool f->a3.tmps.getD 62 undef=.bool c ->
   c=decide (f=false\/n<v)->(Code.cond (.tmp 62) (.region r18 o18 false) .skip).wp P (Exit.inBlock k3 Q) a3 w:=by
  intro c a3 m3 x3 i3 v3 f3 c3 hc;have hfd:=hr.fd.step hnd he hn;refine wp_cond (t:=c) c3 ?_;have sz3:∀ d,d∈uv->d<a3.tmps.size:=λd hd=>dd m3 hd h64;cases c with
  |false=>
   have hno:¬(f=false\/n<v):=of_decide_eq_false hc.symm;rw[if_neg hno]at hfd;have ft:f=true:=by cases f with|false=>exact absurd (.inl rfl) hno|true=>rfl
   refine wp_skip ?_;exact hQ a3 v ⟨m3,i3,v3,by rw[f3,ft],hfd⟩
  |true=>
   have hyes:f=false\/n<v:=of_decide_eq_true hc.symm;rw[if_pos hyes]at hfd;refine gK e18 ?_;change wpOps P _ _ [0,1,2] a3 w;refine cu (w':=w) 63 rfl rfl (bp rfl) (v:=.int .i64 n) (oa rfl x3) ?_;refine cu (w':=w) 13 rfl rfl (bp rfl) (v:=.int .i64 n) (pj rfl (cZ (sz3 63 (by decide)))) ?_;refine cu (w':=w) 14 rfl rfl (bp rfl) (v:=.bool true) (pj rfl rfl) ?_;refine hQ _ n ⟨((m3.put (by decide) _).put (by decide) _).put (by decide) _,?_,?_,?_,hfd⟩
   ·rw[ab (by decide),ab (by decide),ab (by decide)];exact i3
   ·rw[ab (by decide),cZ (by rw[cq];exact sz3 13 (by decide))]
   rw[cZ (by simp only[cq];exact sz3 14 (by decide))]
 have want:∀{a:Act} {o:Oper} {ops:Array Oper},a.tmps.getD 58 undef=.bool (!f)->(ops[2]?).bind (·.dst)=some 58->o.guard=some (2,false)->Region.wanted o (yielded ops a.tmps)=f:=by intro a o ops h1 h2 h3;have h4:a.tmps[58]?=some (.bool (!f)):=Ay h1 (by simp[undef]);unfold Region.wanted yielded;simp[h2,h3,h4]
 cases f with
 |false=>
  refine tf 59 rfl rfl (want b2 rfl rfl) ?_;refine tf 60 rfl rfl (want (by rw[ab (by decide)];exact b2) rfl rfl) ?_;refine tf 61 rfl rfl (want (by rw[ab (by decide),ab (by decide)];exact b2) rfl rfl) ?_;refine cu (w':=w) 62 rfl rfl (bp rfl) (v:=.bool true) (Cm rfl (b:=true) (by rw[gd,ab (by decide),ab (by decide),ab (by decide)];exact b2) rfl) ?_;refine fin true _ ((((m2.put (by decide) _).put (by decide) _).put (by decide) _).put (by decide) _) ?_ ?_ ?_ ?_ ?_ (by simp)
  ·rw[ab (by decide),ab (by decide),ab (by decide),ab (by decide)];exact x2
  ·rw[ab (by decide),ab (by decide),ab (by decide),ab (by decide)];exact i2
  ·rw[ab (by decide),ab (by decide),ab (by decide),ab (by decide)];exact v2
  ·rw[ab (by decide),ab (by decide),ab (by decide),ab (by decide)];exact f2
  rw[cZ (by simp only[cq];exact sz2 62 (by decide))]
 |true=>
  refine cu (w':=w) 59 rfl rfl (want b2 rfl rfl) (v:=.int .i64 n) (oa rfl x2) ?_;refine cu (w':=w) 60 rfl rfl (want (by rw[ab (by decide)];exact b2) rfl rfl) (v:=.int .i64 v) (oa rfl (by rw[gd,ab (by decide)];exact v2)) ?_;refine cu (w':=w) 61 rfl rfl (want (by rw[ab (by decide),ab (by decide)];exact b2) rfl rfl) (v:=.bool (decide (n<v))) (H7 rfl (by rw[gd,ab (by decide),cZ (sz2 59 (by decide))]) (by rw[gd,cZ (by rw[cq];exact sz2 60 (by decide))])) ?_;refine cu (w':=w) 62 rfl rfl (bp rfl) (v:=.bool (decide (n<v))) (Cm rfl (b:=false) (by rw[gd,ab (by decide),ab (by decide),ab (by decide)];exact b2) (by simp only[JS,if_false];rw[gd,cZ (by simp only[cq];exact sz2 61 (by decide))])) ?_;refine fin (decide (n<v)) _ ((((m2.put (by decide) _).put (by decide) _).put (by decide) _).put (by decide) _) ?_ ?_ ?_ ?_ ?_ (by simp)
  ·rw[ab (by decide),ab (by decide),ab (by decide),ab (by decide)];exact x2
  ·rw[ab (by decide),ab (by decide),ab (by decide),ab (by decide)];exact i2
  ·rw[ab (by decide),ab (by decide),ab (by decide),ab (by decide)];exact v2
  ·rw[ab (by decide),ab (by decide),ab (by decide),ab (by decide)];exact f2
  rw[cZ (by simp only[cq];exact sz2 62 (by decide))]
theorem oA{w:World}{F:Nat->Prop}:∀{l:List (Int×Int)} {r:List MapEntry},EntsW w F (.int .i64) (.int .i64) r l->(jB l=none->r=[])/\∀{n:Int},jB l=some n->(∃ x∈r,x.val=.int .i64 n)/\∀ x∈r,∃ m,x.val=.int .i64 m/\n<=m
 |[],[],_=>⟨λ_=>rfl,λh=>by cases h⟩
 |[],_::_,h=>by have:=h.1;simp at this
 |_::_,[],h=>by have:=h.1;simp at this
 |p::l,e::r,h=>by
  obtain⟨_,⟨cs,k1,k2⟩,k3⟩:=h.cons;obtain⟨i1,i2⟩:=oA k3;have hv:e.val=.int .i64 p.2:=by obtain⟨rfl,_⟩:=k2;exact k1
  cases hl:jB l with
  |none=>
   have hr:=i1 hl;subst hr;refine⟨λh=>by simp[jB,hl]at h,fun {n} h=>?_⟩;simp only[jB,hl,aw]at h;subst h;refine⟨⟨e,JH ..,hv⟩,λx hx=>?_⟩;rcases A8.1 hx with rfl|hx
   ·exact⟨_,hv,JO _⟩
   cases hx
  |some m=>
   obtain⟨⟨x,hx,hxv⟩,hall⟩:=i2 hl;refine⟨λh=>by simp[jB,hl]at h,fun {n} h=>?_⟩;simp only[jB,hl,aw]at h;subst h;by_cases hle:p.2<=m
   ·rw[decide_eq_true hle,UA];refine⟨⟨e,JH ..,hv⟩,λy hy=>?_⟩;rcases A8.1 hy with rfl|hy
    ·exact⟨_,hv,JO _⟩
    obtain⟨q,q1,q2⟩:=hall y hy;exact⟨q,q1,by omega⟩
   rw[decide_eq_false hle,UB];refine⟨⟨x,Jq _ hx,hxv⟩,λy hy=>?_⟩;rcases A8.1 hy with rfl|hy
   ·exact⟨_,hv,by omega⟩
   exact hall y hy
theorem po:∀(l:List Nat) (e:Env) (t:Nat),(pE l e).get t=if t∈l then .av .u else e.get t
 |[],e,t=>by simp[pE]
 |d::l,e,t=>by
  unfold pE;rw[Env.get_cons,po l e t];by_cases h:d=t
  ·subst h;simp
  rw[if_neg h];simp[Ne.symm h]
theorem Inv.more {C:Ctx}{w0:World}{M:Own}{m:Mem}(hi:Inv C w0 M m){w':World}(h1:w'.os=m.w.os)(h2:w'.tape=m.w.tape)(h3:w'.output=m.w.output)(h4:m.w.heap.size<=w'.heap.size)(h5:∀ b,b < m.w.heap.size->w'.heap[b]?=m.w.heap[b]?) :
  Inv C w0 M ⟨w',m.F,m.ι,m.G⟩/\Evo m ⟨w',m.F,m.ι,m.G⟩:=by
 have he:Evo m ⟨w',m.F,m.ι,m.G⟩:=⟨λb hb=>⟨hb,h5 b (hi.fro b hb)⟩,λid o ho=>⟨o,ho,.inr (Goon.refl _ o)⟩⟩;refine⟨⟨⟨h1.trans hi.kept.os,h2.trans hi.kept.tape,h3.trans hi.kept.output,Nat.le_trans hi.kept.size h4,λb hb hM=>(h5 b (JQ hb hi.kept.size)).trans (hi.kept.block b hb hM)⟩,?_,?_,hi.inj,λb hb=>JQ (hi.fro b hb) h4,λg τ x hg=>(hi.glob g τ x hg).mono he.fro,hi.bnd,bI he hi.pin⟩,he⟩
 ·intro id o ho;by_cases hob:isObj o=true
  ·exact bL he rfl (λb hb=>h5 b (hi.own id o b ho hob hb).2.2) (hi.objs id o ho)
  cases o<;>simp_all[isObj,cQ]
 intro id o b ho hob hb;obtain⟨k1,k2,k3⟩:=hi.own id o b ho hob hb;exact⟨k1,k2,JQ k3 h4⟩
theorem Ej{w:World}{F:Nat->Prop}{l:List (Int×Int)}{r:List MapEntry}(h:EntsW w F (.int .i64) (.int .i64) r l){x:MapEntry}(hx:x∈r){n:Int}(hn:x.val=.int .i64 n):IntKind.i64.min<=n/\n<=IntKind.i64.max:=by obtain⟨i,hi,rfl⟩:=List.mem_iff_getElem.1 hx;obtain⟨_,cs,k1,rfl,k3⟩:=h.2 i hi (by rw[<- h.1];exact hi);rw[hn]at k1;have k1:n=_:=(Value.int.inj k1).2;rw[k1];exact k3
theorem GE {C:Ctx}{w0:World}{M:Own}{x y:Code}{s s':St}{a:Act}{m:Mem}{Q:Exit->Act->World->Prop}(hM:nh P C)(h64:64<=N)(h:pG C x y s=some s')(hs:Sim C w0 M N a m s.env)(hG:m.G=s.G)
  (hQ:∀ a' m',m'.G=s'.G->Sim C w0 M N a' m' s'.env->Q .normal a' m'.w):(Code.seq x y).wp P Q a m.w:=by
 unfold pG at h;cases hchk:mh C x y with
 |false=>rw[hchk]at h;cases h
 |true=>
  rw[hchk]at h;simp only[UA]at h;split at h
  ·rename_i id v0 hb hv0 hf0;split at h
   ·rename_i k v l hg;obtain⟨l',hl,h⟩:=A6.1 h;obtain⟨e1,e2,hl⟩:=eX hl;subst e1;subst e2
    simp only at hl;subst hl;split at h
    ·rename_i n hn;cases h;have h11:=hs.env 11;rw[hb]at h11;obtain⟨B,ents,clock,q2,_,r3,r4,r5⟩:=nf hs.inv (by intro e;cases e) (hG▸hg) h11;obtain⟨⟨xm,hxm,hxv⟩,hall⟩:=(oA r4).2 hn;unfold mh at hchk;split at hchk
     ·rename_i rr o14 k r15 o15 k' k3 r16 o16 r17 o17 r18 o18;simp only[np]at hchk;obtain⟨hk,h14,h15,h16,h17,h18⟩:=hchk;have hk:=A3 hk;subst hk;obtain⟨t,p1,z1,s1,p2,z2,s2,kt,et,e14,hu⟩:=l14 hM h14;obtain⟨y1,y2,y3,y4,y5,y6,e15⟩:=l15 h15;obtain⟨w,hwd⟩:∃ w,w=m.w:=⟨_,rfl⟩;have hlt:B<w.heap.size:=by rw[hwd];exact(Jt.1 r3).1
      rw[<- hwd]at r3 ⊢;have m0:MJ N a a:=⟨hs.defers,hs.size,λ_ _=>rfl⟩;refine wp_seq (gK e14 ?_);change wpOps P _ _ [0,1] a w;refine cu (w':=w) 50 rfl rfl (bp rfl) (v:=.map (some B)) (oa rfl q2) ?_;refine cu (w':=w.alloc (.mapIter (some B) clock #[] clock)) 51 rfl rfl (bp rfl) (v:=.pointer (some ⟨w.heap.size,0,none⟩)) (EQ rfl (cZ (dd m0 (by decide) h64)) (run_range_map w t kt et B ents clock hu r3)) ?_;have mw0:MW w w.heap.size B clock #[] (w.alloc (.mapIter (some B) clock #[] clock)):=by refine⟨rfl,rfl,rfl,?_,λb hb=>heap_alloc_old w _ hb,clock,B2 _,heap_alloc_new w _⟩;show w.heap.size<=(w.heap.push _).size;simp
      have key:∀(q:Nat) {a1:Act} {w1:World} {sn:Array Nat} {v:Int} {f:Bool},(leftOf ents sn).size < q->MRd P N w.heap.size ents a sn v f a1->MW w w.heap.size B clock sn w1 ->
        Code.rounds P (.seq (.region r15 o15 false) (.seq (.cond (.tmp 53) .skip (.exit k)) (.block k3 (.seq (.region r16 o16 false) (.seq (.region r17 o17 false) (.cond (.tmp 62) (.region r18 o18 false) .skip)))))) (Exit.inBlock k Q) q a1 w1:=by
       intro q;induction q with
       |zero=>intro a1 w1 sn v f hlt;omega
       |succ q ih=>
        intro a1 w1 sn v f hlt hr hmw;show Code.wp P _ (Exit.then (Code.rounds P _ (Exit.inBlock k Q) q) (Exit.inBlock k Q)) a1 w1;refine wp_seq (gK e15 ?_);change wpOps P _ _ [0,1] a1 w1;have z52:=dd hr.mj (d:=52) (by decide) h64;have z53:=dd hr.mj (d:=53) (by decide) h64;rcases hmw.next (P:=P) (B2 _) r3 r5 y1 with⟨hall',hrun⟩|⟨en,hen,hun,w2,hrun,hmw2,hent,hless⟩
        ·-- it is over
         refine cu (w':=w1) 52 rfl rfl (bp rfl) (v:=.tuple #[.bool false]) (Dl rfl hr.it hrun) ?_;refine cu (w':=w1) 53 rfl rfl (bp rfl) (v:=.bool false) (nA rfl (cZ z52) rfl) ?_;refine wp_seq (wp_cond (t:=false) (by rw[gd,cZ (by rw[cq];exact z53)]) (wp_exit ?_));show(if k=k then Q .normal _ w1 else _);rw[if_pos rfl];have hf:f=true/\v=n:=by
          have hfd:=hr.fd;cases f with
          |false=>have h1:=hfd xm hxm;have h2:=hall' xm hxm;rw[h1]at h2;cases h2
          |true=>
           obtain⟨⟨x0,k1,k2⟩,k3⟩:=hfd;refine⟨rfl,?_⟩;obtain⟨m1,j1,j2⟩:=hall x0 k1;obtain⟨m2,j3,j4⟩:=k3 xm hxm (hall' xm hxm);rw[k2]at j1;rw[hxv]at j3
           cases j1;cases j3
           omega
         have hfin:=((hr.mj.put (d:=52) (by decide) (.tuple #[.bool false])).put (d:=53) (by decide) (.bool false));have hmore:=hs.inv.more (w':=w1) (by rw[<- hwd];exact hmw.os) (by rw[<- hwd];exact hmw.tape) (by rw[<- hwd];exact hmw.output) (by rw[<- hwd];exact hmw.size) (by rw[<- hwd];exact hmw.old);refine hQ _ ⟨w1,m.F,m.ι,m.G⟩ hG ⟨hmore.1,hfin.defers,hfin.size,λt=>?_⟩;rw[Env.get_cons,Env.get_cons,po];split
         ·rename_i e;subst e
          rw[ab (by decide),ab (by decide),hr.hv,hf.2];refine⟨[.int .i64 n],rfl,rfl,?_⟩;have hrd:=hall xm hxm;exact Ej r4 hxm hxv
         split
         ·rename_i e;subst e
          rw[ab (by decide),ab (by decide),hr.hf,hf.1];exact⟨[.bool true],rfl,rfl⟩
         split
         ·trivial
         rename_i h13 h14' hno;rw[hfin.old t (by unfold uv;simp[hno,Ne.symm h13,Ne.symm h14'])];exact fm hmore.2 (hs.env t)
        -- one more
        obtain⟨nv,hnv,_⟩:=hall en hen;refine cu (w':=w2) 52 rfl rfl (bp rfl) (v:=.tuple #[.bool true,en.key,en.val]) (Dl rfl hr.it hrun) ?_;refine cu (w':=w2) 53 rfl rfl (bp rfl) (v:=.bool true) (nA rfl (cZ z52) rfl) ?_;refine wp_seq (wp_cond (t:=true) (by rw[gd,cZ (by rw[cq];exact z53)]) (wp_skip ?_));refine Bz (P:=P) (N:=N) (I:=w.heap.size) (es:=ents) (a0:=a) (sn:=sn) (v:=v) (f:=f) h16 h17 h18 h64 (r5.1.imp (λh=>MK h)) hen hnv ⟨(hr.mj.put (by decide) _).put (by decide) _,?_,?_,?_,hr.fd⟩ hent λa' v' hr'=>?_
        ·rw[ab (by decide),ab (by decide)];exact hr.it
        ·rw[ab (by decide),ab (by decide)];exact hr.hv
        ·rw[ab (by decide),ab (by decide)];exact hr.hf
        exact ih (by omega) hr' hmw2
      refine wp_block (wp_loop_rounds _ (key ((leftOf ents #[]).size+1) (v:=v0) (f:=false) (Nat.lt_succ_self _) ⟨(m0.put (d:=50) (by decide) _).put (d:=51) (by decide) _,?_,?_,?_,?_⟩ mw0))
      ·rw[cZ (by rw[cq];exact dd m0 (by decide) h64)]
      ·rw[ab (by decide),ab (by decide)];have h:=hs.env 13;rw[hv0]at h;exact(cF h).1
      ·rw[ab (by decide),ab (by decide)];have h:=hs.env 14;rw[hf0]at h;exact fh h
      intro x hx;simp
     cases hchk
    cases h
   cases h
  cases h
theorem pC{C:Ctx}{x y:Code}{s s':St}(h:pG C x y s=some s'):mh C x y=true/\s'.G=s.G:=by
 unfold pG at h;cases hchk:mh C x y with
 |false=>rw[hchk]at h;cases h
 |true=>
  rw[hchk]at h;simp only[UA]at h;refine⟨rfl,?_⟩;split at h
  ·split at h
   ·obtain⟨l',_,h⟩:=A6.1 h;split at h
    ·cases h;rfl
    cases h
   cases h
  cases h
end
end
end Go.Vm

/-
 A body of code.
-/
namespace Go.Vm
def aG:Code->List Code
 |.seq a b=>aG a++aG b
 |.cond _ a b=>aG a++aG b
 |.block _ c=>aG c
 |.loop c=>c::aG c
 |_=>[]
def jg(N:Nat)(ops:List Oper):Bool:=ops.all λo=>match o.dst with|some d=>Lx d N|none=>true
def dc(N:Nat):Code->Bool
 |.region _ ops _=>jg N ops.toList
 |.seq a b=>dc N a&&dc N b
 |.cond _ a b=>dc N a&&dc N b
 |.block _ c=>dc N c
 |.loop c=>dc N c
 |_=>true
def mI(C:Ctx)(A:Anns)(l:List Code):Prop:=∀ c∈l,∀ ann,A.get (bT c)=some ann->∀ x y,ann.fn x=some y->Rounds (round C A ann c) x y
def oc:Ex->Exit
 |.normal=>.normal
 |.exit i=>.exit i
 |.ret=>.ret
def gE(P:Program):Prop:=∀(C:Ctx) (w0:World) (M:Own) (N:Nat) (a:Act) (m:Mem) (s:St) (R:Type) (res:R) (K:St->Option R) (id:Nat) (lt:Bool) (ops:Array Oper) (Q:Exit->Act->World->Prop),
 CtxOK P C->Sim C w0 M N a m s.env->m.G=s.G->jg N ops.toList=true->jy C lt ops.toList s K=some res ->
 (∀ s' a' m',K s'=some res->m'.G=s'.G->Sim C w0 M N a' m' s'.env->Q .normal a' m'.w)->(Code.region id ops true).wp P Q a m.w
section
variable {P:Program}{C:Ctx}{w0:World}{M:Own}{N:Nat}{A:Anns}
theorem E0{e e':Ex}(h:Ex.same e e'=true):e=e':=by
 unfold Ex.same at h;split at h
 ·rfl
 ·rw[A3 h]
 ·rfl
 simp at h
theorem iQ:∀{l:List (Ex×Shape)} {e:Ex} {s:St} {y:kX l},jh l e s=some y->∃(sh:Shape) (z:sh.ty.den),(∃ e',(e',sh)∈l)/\sh.ext s=some z/\∀{R:Type} (K:Ex->St->Option R),lh K l y=K e (sh.inj z)
 |[],_,_,_,h=>by simp[jh]at h
 |p::l,e,s,y,h=>by
  simp only[jh]at h;cases hs:Ex.same p.1 e with
  |true=>rw[hs]at h;simp only[UA]at h;obtain⟨z,hz,h⟩:=A6.1 h;simp only[aw]at h;subst h;exact⟨p.2,z,⟨p.1,by simp⟩,hz,λK=>by simp[lh,E0 hs]⟩
  |false=>rw[hs]at h;simp only[UB]at h;obtain⟨z,hz,h⟩:=A6.1 h;simp only[aw]at h;subst h;obtain⟨sh,z',⟨e',h0⟩,h1,h2⟩:=iQ hz;exact⟨sh,z',⟨e',by simp[h0]⟩,h1,λK=>by simp only[lh,Sum.elim_inr];exact h2 K⟩
theorem pe{ops:Array Oper}(h:jg N ops.toList=true):∀ o∈ops.toList,∀ d,o.dst=some d->d<N:=by intro o ho d hd;unfold jg at h;rw[B5]at h;have:=h o ho;rw[hd]at this;exact JF this
def DN(M:Own)(A:Anns):Prop:=∀ key ann,A.get key=some ann->((∀ i v,M.pin i=some v->i∈ann.head.pins)/\M.base=none)/\∀ e sh,(e,sh)∈ann.exits->(∀ i v,M.pin i=some v->i∈sh.pins)/\M.base=none
def ll(P:Program)(C:Ctx)(w0:World)(M:Own)(N:Nat)(L:Loops)(x:Code):Prop:=
 ∀{R:Type} {res:R} {K:Ex->St->Option R} {Q:Exit->Act->World->Prop} {s:St} {a:Act} {m:Mem},
  Sim C w0 M N a m s.env->m.G=s.G->L (bT x) R s K=some res ->
  (∀ e s' a' m',K e s'=some res->m'.G=s'.G->Sim C w0 M N a' m' s'.env->Q (oc e) a' m'.w)->(Code.loop x).wp P Q a m.w
theorem Ff{x y:Code}(h:mh C x y=true)(hd:dc N (.seq x y)=true):64<=N:=by
 unfold mh at h;split at h
 ·simp only[np]at h;obtain⟨_,_,_,_,_,h18⟩:=h;obtain⟨y1,y2,y3,y4,y5,y6,y7,y8,y9,e18⟩:=l18 h18;simp only[dc,np,Bool.and_true,KO]at hd;have hr:=hd.2.2.2.2;unfold jg at hr;rw[B5]at hr;have:=hr ⟨some 63,.move (.tmp 16),y1,y2,y3,none⟩ (by rw[e18];simp);exact JF this
 cases h
theorem kR {L:Loops}(hC:CtxOK P C)(hD:gE P):∀(c:Code),(∀ x∈aG c,ll P C w0 M N L x)->dc N c=true->∀{R:Type} {res:R} {K:Ex->St->Option R} {Q:Exit->Act->World->Prop} {s:St} {a:Act} {m:Mem},
  Sim C w0 M N a m s.env->m.G=s.G->cO C L c K s=some res ->
  (∀ e s' a' m',K e s'=some res->m'.G=s'.G->Sim C w0 M N a' m' s'.env->Q (oc e) a' m'.w)->c.wp P Q a m.w:=by
 intro c;induction c with
 |skip=>intro _ _ R res K Q s a m hs hG h hQ;exact wp_skip (hQ .normal s a m h hG hs)
 |region id ops d=>
  intro _ hd R res K Q s a m hs hG h hQ;simp only[cO]at h;obtain⟨mb,eb,hG,hs⟩:=C5 id hs hG;rw[<- eb];cases d with
  |false=>exact yO hC (hQ .normal) (pe hd) h hG hs
  |true=>
   simp only[UA]at h;have hf:∃ m',m'.w=mb.w/\m'.G=(ov C id (sN C id s)).G/\Sim C w0 M N a m' (ov C id (sN C id s)).env:=by
    unfold ov;cases C.frz.any λi=>A7 i id with
    |false=>exact⟨mb,rfl,hG,hs⟩
    |true=>exact lZ _ hs hG
   obtain⟨m',e1,e2,e3⟩:=hf;rw[<- e1];exact hD C w0 M N a m' _ R res _ id _ ops Q hC e3 e2 hd h (hQ .normal)
 |seq x y ihx ihy=>
  intro hL hd R res K Q s a m hs hG h hQ;simp only[cO]at h;split at h
  ·rename_i s1 hmin;cases hm:C.min with
   |false=>rw[hm]at hmin;cases hmin
   |true=>rw[hm]at hmin;exact GE hC.maps (Ff (pC hmin).1 hd) hmin hs hG λa' m' h1 h2=>hQ .normal s1 a' m' h h1 h2
  simp only[dc,np]at hd;refine wp_seq (ihx (λc hc=>hL c (by simp[aG,hc])) hd.1 hs hG h ?_);intro e s' a' m' h1 h2 h3;cases e with
  |normal=>exact ihy (λc hc=>hL c (by simp[aG,hc])) hd.2 h3 h2 h1 hQ
  |exit i=>exact hQ (.exit i) s' a' m' h1 h2 h3
  |ret=>exact hQ .ret s' a' m' h1 h2 h3
 |cond x y z ihy ihz=>
  intro hL hd R res K Q s a m hs hG h hQ;simp only[dc,np]at hd;simp only[cO]at h;split at h
  ·rename_i b hb;have hv:=pL hs.inv hs.env x;rw[hb]at hv;refine wp_cond (fh hv) ?_;cases b with
   |true=>exact ihy (λc hc=>hL c (by simp[aG,hc])) hd.1 hs hG h hQ
   |false=>exact ihz (λc hc=>hL c (by simp[aG,hc])) hd.2 hs hG h hQ
  simp at h
 |block id x ih=>
  intro hL hd R res K Q s a m hs hG h hQ;simp only[cO]at h;refine wp_block (ih hL hd hs hG h ?_);intro e s' a' m' h1 h2 h3;cases e with
  |normal=>exact hQ .normal s' a' m' h1 h2 h3
  |exit i=>
   simp only[oc,Exit.inBlock];dsimp only at h1;cases hi:A7 i id with
   |true=>rw[hi]at h1;rw[if_pos (A3 hi)];exact hQ .normal s' a' m' h1 h2 h3
   |false=>rw[hi]at h1;rw[if_neg (Nat.ne_of_beq_eq_false hi)];exact hQ (.exit i) s' a' m' h1 h2 h3
  |ret=>exact hQ .ret s' a' m' h1 h2 h3
 |loop x ih=>intro hL hd R res K Q s a m hs hG h hQ;simp only[cO]at h;exact hL x (by simp[aG]) hs hG h hQ
 |exit id=>intro _ _ R res K Q s a m hs hG h hQ;exact wp_exit (hQ (.exit id) s a m h hG hs)
 |ret=>intro _ _ R res K Q s a m hs hG h hQ;exact wp_ret (hQ .ret s a m h hG hs)
 |_=>intro _ _ R res K Q s a m hs hG h hQ;simp[cO]at h
theorem tF (hPin:DN M A){x:Code}(hL:∀ ann,A.get (bT x)=some ann->∀ z y,ann.fn z=some y->Rounds (round C A ann x) z y)
  (ih:∀{R:Type} {res:R} {K:Ex->St->Option R} {Q:Exit->Act->World->Prop} {s:St} {a:Act} {m:Mem},Sim C w0 M N a m s.env->m.G=s.G->cO C (ls A) x K s=some res ->
   (∀ e s' a' m',K e s'=some res->m'.G=s'.G->Sim C w0 M N a' m' s'.env->Q (oc e) a' m'.w)->x.wp P Q a m.w):ll P C w0 M N (ls A) x:=by
 intro R res K Q s a m hs hG h hQ;simp only[ls]at h;split at h
 ·simp at h
 rename_i ann hann;split at h
 ·simp at h
 rename_i x0 hx0;obtain⟨y,hy,h⟩:=A6.1 h;have hr:=hL ann hann x0 y hy;obtain⟨pin1,pin2⟩:=hPin _ ann hann;obtain⟨m1,e1,e2,e3⟩:=oZ hs hG pin1 hx0;rw[<- e1];have key:∀{x0 y},Rounds (round C A ann x) x0 y->lh K ann.exits y=some res->∃ n,∀(a:Act) (m:Mem),m.G=(ann.head.inj x0).G->Sim C w0 M N a m (ann.head.inj x0).env->Code.rounds P x Q n a m.w:=by
  intro x0 y hr;induction hr with
  |last h1=>
   intro hg;refine⟨1,λa m hG hs=>?_⟩;show x.wp P (Exit.then (Code.rounds P x Q 0) Q) a m.w;refine ih hs hG h1 ?_;intro e s' a' m' k1 k2 k3;cases e with
   |normal=>obtain⟨z,_,k1⟩:=A6.1 k1;simp at k1
   |exit i=>obtain⟨z,hz,k1⟩:=A6.1 k1;simp only[aw,Mk]at k1;subst k1;obtain⟨sh,z',⟨e',f0⟩,f1,f2⟩:=iQ hz;rw[f2]at hg;obtain⟨m2,g1,g2,g3⟩:=oZ k3 k2 (pin2 e' sh f0) f1;rw[<- g1];exact hQ (.exit i) _ a' m2 hg g2 g3
   |ret=>obtain⟨z,hz,k1⟩:=A6.1 k1;simp only[aw,Mk]at k1;subst k1;obtain⟨sh,z',⟨e',f0⟩,f1,f2⟩:=iQ hz;rw[f2]at hg;obtain⟨m2,g1,g2,g3⟩:=oZ k3 k2 (pin2 e' sh f0) f1;rw[<- g1];exact hQ .ret _ a' m2 hg g2 g3
  |more h1 _ ih2=>
   intro hg;obtain⟨n,hn⟩:=ih2 hg;refine⟨n+1,λa m hG hs=>?_⟩;show x.wp P (Exit.then (Code.rounds P x Q n) Q) a m.w;refine ih hs hG h1 ?_;intro e s' a' m' k1 k2 k3;cases e with
   |normal=>obtain⟨z,hz,k1⟩:=A6.1 k1;simp only[aw,Sum.inl.injEq]at k1;subst k1;obtain⟨m2,g1,g2,g3⟩:=oZ k3 k2 pin1 hz;rw[<- g1];exact hn a' m2 g2 g3
   |exit i=>obtain⟨z,hz,k1⟩:=A6.1 k1;simp at k1
   |ret=>obtain⟨z,hz,k1⟩:=A6.1 k1;simp at k1
 obtain⟨n,hn⟩:=key hr h;exact wp_loop_rounds n (hn a m1 e2 e3)
theorem fq:∀{c x:Code},x∈aG c->(aG x).length<(aG c).length/\(∀ y∈aG x,y∈aG c)/\(dc N c=true->dc N x=true)
 |.seq a b,x,h=>by
  simp only[aG,A4]at h;rcases h with h|h<;>obtain⟨h1,h2,h3⟩:=fq h
  ·exact⟨by simp[aG];omega,λy hy=>by simp[aG,h2 y hy],λhd=>by simp only[dc,np]at hd;exact h3 hd.1⟩
  exact⟨by simp[aG];omega,λy hy=>by simp[aG,h2 y hy],λhd=>by simp only[dc,np]at hd;exact h3 hd.2⟩
 |.cond _ a b,x,h=>by
  simp only[aG,A4]at h;rcases h with h|h<;>obtain⟨h1,h2,h3⟩:=fq h
  ·exact⟨by simp[aG];omega,λy hy=>by simp[aG,h2 y hy],λhd=>by simp only[dc,np]at hd;exact h3 hd.1⟩
  exact⟨by simp[aG];omega,λy hy=>by simp[aG,h2 y hy],λhd=>by simp only[dc,np]at hd;exact h3 hd.2⟩
 |.block _ c,x,h=>fq (c:=c) h
 |.loop c,x,h=>by
  simp only[aG,A8]at h;rcases h with rfl|h
  ·exact⟨by simp[aG],λy hy=>by simp[aG,hy],λhd=>hd⟩
  obtain⟨h1,h2,h3⟩:=fq h;exact⟨by simp[aG];omega,λy hy=>by simp[aG,h2 y hy],λhd=>h3 hd⟩
 |.skip,_,h=>by cases h
 |.region _ _ _,_,h=>by cases h
 |.exit _,_,h=>by cases h
 |.ret,_,h=>by cases h
 |.scope _,_,h=>by cases h
 |.label _,_,h=>by cases h
 |.rangeFunc _ _ _ _,_,h=>by cases h
theorem EC (hC:CtxOK P C)(hD:gE P)(hPin:DN M A)(c:Code)(hL:mI C A (aG c))(hd:dc N c=true){R:Type}{res:R}{K:Ex->St->Option R}{Q:Exit->Act->World->Prop}{s:St}{a:Act}{m:Mem}
  (hs:Sim C w0 M N a m s.env) (hG:m.G=s.G) (h:cO C (ls A) c K s=some res)
  (hQ:∀ e s' a' m',K e s'=some res->m'.G=s'.G->Sim C w0 M N a' m' s'.env->Q (oc e) a' m'.w):c.wp P Q a m.w:=by
 obtain⟨n,hn⟩:∃ n,(aG c).length<=n:=⟨_,B2 _⟩;induction n generalizing c R res K Q s a m with
 |zero=>exact kR hC hD c (λx hx=>by have:=List.length_pos_of_mem hx;omega) hd hs hG h hQ
 |succ n ih=>refine kR hC hD c (λx hx=>?_) hd hs hG h hQ;obtain⟨h1,h2,h3⟩:=fq hx;exact tF hPin (hL x hx) λhs hG h hQ=>ih x (λy hy=>hL y (h2 y hy)) (h3 hd) hs hG h hQ (by omega)
end
end Go.Vm

/-
 A function's contract, from its body.
-/
namespace Go.Vm
section
variable {P:Program}{C:Ctx}{w0:World}{M:Own}{N:Nat}{A:Anns}{a:Act}{m:Mem}{s:St}
def GT(m:Mem)(s:St):(outs:ks)->List Value->(ac ((outs.map (·.2)).map (·.2))).den->Prop
 |[],[],_=>True
 |p::r,u::us,x=>(∃ sv,fU s p.1 p.2.2=some sv/\RelSV m u sv/\aR s.G p.2.2 sv=some x.1)/\GT m s r us x.2
 |_,_,_=>False
def D5(P:Program)(v:ResultVar)(τ:Ty):Bool:=match v with
 |.cell _ t=>chk P τ none t
 |.tmp _=>true
def lO(P:Program)(outs:ks):Bool:=outs.all λp=>D5 P p.1 p.2.2
def mX(a:Act):ResultVar->Sem Value
 |.tmp t=>pure (a.tmps.getD t undef)
 |.cell x t=>do loadVar t (<- asAddr (a.tmps.getD x undef))
theorem pi (hs:Sim C w0 M N a m s.env)(hG:m.G=s.G){v:ResultVar}{τ : Ty}{sv:SV}(h:fU s v τ=some sv)(hk:D5 P v τ=true) :
  ∃ u,(mX a v).run P m.w=.ok u m.w/\RelSV m u sv:=by
 cases v with
 |tmp t=>simp only[fU,aw]at h;subst h;exact⟨_,by simp[mX],hs.env t⟩
 |cell x t=>
  simp only[fU]at h;have hx:=hs.env x;split at h
  ·rename_i id off hq;rw[hq]at hx;split at h
   ·rename_i l hl;split at h
    ·rename_i c hc;simp only[aw]at h;subst h;obtain⟨rfl,hle⟩:=gF hc;obtain⟨_,ob,hob,hv⟩:=(ao (a:=.ptr id off) (by intros;simp)).1 hx;rw[hG,hl]at hob;simp only[aw]at hob;subst hob;obtain⟨b,h1,h2⟩:=hv;obtain⟨b',cc,el,q1,q2,q3,q4⟩:=hs.inv.objs id _ (hG▸hl);rw[h1]at q1;simp only[Value.pointer.injEq,aw,Addr.mk.injEq,and_true]at q1;subst q1;have hlen:=q4.length;rw[Array.length_toList]at hlen;rw[List.length_drop]at hle;have hsz:off+τ.size<=cc.size\/τ.size=0:=by omega
     have hrel:Rel2 (ai m) (seg cc off τ.size) ((l.drop off).take τ.size):=(q4.drop off).take τ.size;have hone:∀ u∈seg cc off τ.size,u.oneCell'=true:=λu hu=>q3 u (List.mem_of_mem_drop (List.mem_of_mem_take hu));have hrun:(loadVar t ⟨b,off,none⟩).run P m.w=.ok (toV τ (seg cc off τ.size)) m.w:=by
      rcases hsz with hsz|hsz
      ·exact dt (qq hk) q2 hsz
      have ha:τ.isAgg=true:=by
       cases ha:τ.isAgg with
       |true=>rfl
       |false=>have:=ej ha;omega
      have hz:seg cc off τ.size=[]:=by unfold seg;rw[hsz];simp
      rw[hz];simp[loadVar,cV hk,ha,bt hk,hsz,loadCells,loadCellsFrom,toV]
     refine⟨toV τ (seg cc off τ.size),?_,iF hone hrel⟩;simp[mX,h2,asAddr,hrun]
    simp at h
   simp at h
  simp at h
theorem oL (hs:Sim C w0 M N a m s.env)(hG:m.G=s.G):∀{outs:ks} {x:(ac ((outs.map (·.2)).map (·.2))).den},results s outs=some x->lO P outs=true ->
  ∃ us,((outs.map (·.1)).mapM (mX a)).run P m.w=.ok us m.w/\GT m s outs us x
 |[],x,_,_=>⟨[],by simp,trivial⟩
 |p::r,x,h,hk=>by
  simp only[lO,Lz,np]at hk;obtain⟨hk1,hk2⟩:=hk;unfold results at h;split at h
  ·rename_i sv hsv;split at h
   ·rename_i x1 hx1;split at h
    ·rename_i x2 hx2;have:=B7 h;subst this;obtain⟨u,h1,h2⟩:=pi (P:=P) hs hG hsv hk1;obtain⟨us,h3,h4⟩:=oL hs hG hx2 hk2;refine⟨u::us,?_,⟨sv,hsv,h2,hx1⟩,h4⟩;simp only[JA,List.mapM_cons,Sem.run_bind,h1,Result.andThen_ok,h3,Sem.run_pure]
    simp at h
   simp at h
  simp at h
theorem kA {d:Bool}(hi:Inv C w0 M m){τ : Ty}{us:List Value}{l rest rest':List Atom}{x : τ.den}(hr:Rel2 (ai m) us l)(hc:aA m.G τ l=some (x,rest))(hk:∀ l,bF d τ l=(match l with | _ :: r=>(true,r) | []=>(false,[])))(hτ : (∃ k,τ=.int k)\/τ=.bool\/τ=.str)
  (ho:bF d τ l=(true,rest')):∃ c us' lc,us=c.map aP++us'/\l=lc++rest/\rest'=rest/\OwnRd m.w m.F d τ c x/\Rel2 (ai m) us' rest:=by
 rw[hk]at ho;cases l with
 |nil=>simp at ho
 |cons at' l=>
  cases us with
  |nil=>exact hr.elim
  |cons u us=>
   simp only[B3,true_and]at ho;subst ho;have key:∀{τ:Ty},τ.flat=true->∀ y:τ.den,aF m.G τ at'=some y->Rd m.w m.F τ [u] y:=λhf y hy=>(cv hi hy hr.1).flat hf _ _;cases τ with
   |int k=>
    simp only[aA]at hc;split at hc
    ·rename_i y hy;have hc:=B7 hc;simp only[B3]at hc;obtain⟨rfl,rfl⟩:=hc;exact⟨[u],us,[at'],by rw[br (key (τ:=.int k) rfl y hy)];rfl,rfl,rfl,key (τ:=.int k) rfl y hy,hr.2⟩
    simp at hc
   |bool=>
    simp only[aA]at hc;split at hc
    ·rename_i y hy;have hc:=B7 hc;simp only[B3]at hc;obtain⟨rfl,rfl⟩:=hc;exact⟨[u],us,[at'],by rw[br (key (τ:=.bool) rfl y hy)];rfl,rfl,rfl,key (τ:=.bool) rfl y hy,hr.2⟩
    simp at hc
   |str=>
    simp only[aA]at hc;split at hc
    ·rename_i y hy;have hc:=B7 hc;simp only[B3]at hc;obtain⟨rfl,rfl⟩:=hc;exact⟨[u],us,[at'],by rw[br (key (τ:=.str) rfl y hy)];rfl,rfl,rfl,key (τ:=.str) rfl y hy,hr.2⟩
    simp at hc
   |_=>simp at hτ
theorem nW {d:Bool}(hi:Inv C w0 M m):∀{τ : Ty} {us:List Value} {l rest rest':List Atom} {x : τ.den},Rel2 (ai m) us l->aA m.G τ l=some (x,rest)->bF d τ l=(true,rest') ->
  ∃ c us' lc,us=c.map aP++us'/\l=lc++rest/\rest'=rest/\OwnRd m.w m.F d τ c x/\Rel2 (ai m) us' rest /\
   (∀ b,cL (aO τ c) b->∃ id o,id∈lc.flatMap atomIds/\m.G.get id=some o/\isObj o=true/\HB (m.ι id) b) /\
   (aH (lc.flatMap atomIds)=true->cm (aO τ c))
 |.prod a b,us,l,rest,rest',x,hr,hc,ho=>by
  simp only[aA]at hc;split at hc
  ·rename_i x1 r1 h1;split at hc
   ·rename_i x2 r2 h2;have hc:=B7 hc;simp only[B3]at hc;obtain⟨rfl,rfl⟩:=hc;simp only[bF,B3,np]at ho;obtain⟨⟨o1,o2⟩,o3⟩:=ho;obtain⟨c1,us1,lc1,a1,a2,a3,a4,a5,a6,a7⟩:=nW hi (rest':=(bF d a l).2) hr h1 (by rw[<- o1]);rw[a3]at o2 o3;obtain⟨c2,us2,lc2,b1,b2,b3,b4,b5,b6,b7⟩:=nW hi (rest':=(bF d b r1).2) a5 h2 (by rw[<- o2]);subst a1;subst b1;subst a2;subst b2;have hh:aO (.prod a b) (c1++c2)=aO a c1++aO b c2:=by simp only[aO,<- a4.len,KF,List.drop_left]
    refine⟨c1++c2,us2,lc1++lc2,by simp,by simp,by rw[<- o3,b3],⟨c1,c2,rfl,a4,b4⟩,b5,?_,?_⟩
    ·rw[hh];rintro bl ⟨u,hu,hb⟩;rcases A4.1 hu with hu|hu
     ·obtain⟨id,o,k1,k2⟩:=a6 bl ⟨u,hu,hb⟩;exact⟨id,o,by simp only[Lq,A4];exact .inl k1,k2⟩
     obtain⟨id,o,k1,k2⟩:=b6 bl ⟨u,hu,hb⟩;exact⟨id,o,by simp only[Lq,A4];exact .inr k1,k2⟩
    rw[hh,Lq];intro hn;obtain⟨n1,n2,n3⟩:=aU hn;refine Kh.2 ⟨a7 n1,b7 n2,?_⟩;intro u hu v hv bl hb hb';obtain⟨id,o,k1,k2,k3,k4⟩:=a6 bl ⟨u,hu,hb⟩;obtain⟨id',o',j1,j2,j3,j4⟩:=b6 bl ⟨v,hv,hb'⟩;have:=hi.inj id id' o o' bl k2 k3 j2 j3 k4 j4;subst this;exact n3 id k1 j1
   simp at hc
  simp at hc
 |.unit,us,l,rest,rest',x,hr,hc,ho=>by simp only[aA,aw,B3]at hc;simp only[bF,B3,true_and]at ho;obtain⟨_,rfl⟩:=hc;subst ho;exact⟨[],us,[],rfl,rfl,rfl,rfl,hr,by rintro b ⟨u,hu,_⟩;simp[aO]at hu,λ_=>KH⟩
 |.slice e,us,l,rest,rest',x,hr,hc,ho=>by
  cases l with
  |nil=>simp[aA]at hc
  |cons at' l=>
   cases us with
   |nil=>exact hr.elim
   |cons u us=>
    simp only[aA]at hc;split at hc
    ·rename_i y hy;have hc:=B7 hc;simp only[B3]at hc;obtain⟨rfl,rfl⟩:=hc;simp only[bF,B3]at ho;obtain⟨o1,rfl⟩:=ho;cases hde:(d&&e.isSl)with
     |false=>
      rw[hde]at o1;have hk:(∃ d0,SV.av at'=.av (.nils d0))\/(∃ id,SV.av at'=.av (.own id))\/∃ id o n,SV.av at'=.av (.view id o n):=by cases at'<;>simp[eR]at o1 ⊢
      have hnv:∀ τ x,at'≠.val τ x:=by intro τ x e;subst e;simp[eR]at o1
      have hsv:aR m.G (.slice e) (.av at')=some y:=by cases at'<;>simp[eR]at o1<;>exact hy
      obtain⟨g1,g2,g3⟩:=mQ hi hsv ((ao hnv).2 hr.1) hk;have g1:HdrW m.w m.F u e y:=g1;have hown:kN m.w m.F d e u y:=by
       cases e with
       |slice σ=>
        cases d with
        |true=>simp[Ty.isSl]at hde
        |false=>exact g1
       |_=>exact g1
      refine⟨[u],us,[at'],by rw[JA,bZ (bA g1)];rfl,rfl,rfl,⟨u,rfl,hown⟩,hr.2,?_,λ_=>by simp[aO,cm]⟩;rintro b ⟨u',hu',hb⟩;simp only[aO,B4]at hu';subst hu';obtain⟨id,o,k1,k2,k3,k4⟩:=g2 b hb;refine⟨id,o,?_,k2,k3,k4⟩;simp only[KI,List.flatMap_nil,Jz];have:atomIds at'=[id]:=k1;rw[this];simp
     |true=>
      rw[hde]at o1;simp only[np]at hde;obtain⟨rfl,hsl⟩:=hde;cases e with
      |slice σ=>
       cases at' with
       |nils=>
        simp only[aF,aw]at hy;subst hy;obtain⟨ad,rfl,_⟩:=hr.1;have hnb:∀ b,¬HB (.slice ad 0 0) b:=λb hb=>by cases ad<;>simp[HB,HB1]at hb
        have hd:DeepW m.w m.F (.slice ad 0 0) [] σ [] none:=⟨rfl,⟨ad,0,rfl,by simp,by unfold maxLen;omega,λh=>absurd rfl h⟩,by intro i hi;simp at hi,(by intro i v hi;cases hi),JI _ _⟩;refine⟨[.tuple [.slice ad 0 0].toArray],us,[.nils _],rfl,rfl,rfl,⟨_,rfl,_,[],rfl,hd⟩,hr.2,?_,λ_=>by simp[aO,cm]⟩;rintro b ⟨u',hu',hb⟩;simp only[aO,B4]at hu';subst hu';obtain⟨v,hv,hb⟩:=(bY hd.one).1 hb;simp only[B4]at hv;subst hv;exact absurd hb (hnb b)
       |ownd id=>
        obtain⟨_,ob,hob,hv⟩:=hr.1;simp only[aF]at hy;rw[hob]at hy;cases ob with
        |deep ver τ l' hole=>
         cases hole with
         |some _=>simp at hy
         |none=>
          simp only at hy;obtain⟨e',hy⟩:=aD hy;simp only[Ty.slice.injEq]at e';subst e';subst hy
          obtain⟨vs,v1,v2⟩:=hv;obtain⟨u',hs,d1,d2⟩:=cr hi hob;rw[d1]at v1;simp only[Value.tuple.injEq]at v1;subst v1;simp only[Jy,Ju,aw]at v2;subst v2;refine⟨[.tuple (u'::hs).toArray],us,[.ownd id],by simp[aP],rfl,rfl,⟨_,rfl,_,hs,rfl,d2⟩,hr.2,?_,λ_=>by simp[aO,cm]⟩;rintro b ⟨u2,hu2,hb⟩;simp only[aO,B4]at hu2;subst hu2;exact⟨id,_,by simp[atomIds],hob,rfl,by rw[d1];exact hb⟩
        |_=>simp at hy
       |_=>simp[eR]at o1
      |_=>simp[Ty.isSl]at hsl
    simp at hc
 |.int k,us,l,rest,rest',x,hr,hc,ho=>by obtain⟨c,us',h1,h2,h3,h4,h5,h6⟩:=kA (d:=d) hi (τ:=.int k) hr hc (by intro l;cases l<;>rfl) (by simp) ho;exact⟨c,us',h1,h2,h3,h4,h5,h6,by rintro b ⟨u,hu,_⟩;simp[aO]at hu,λ_=>KH⟩
 |.bool,us,l,rest,rest',x,hr,hc,ho=>by obtain⟨c,us',h1,h2,h3,h4,h5,h6⟩:=kA (d:=d) hi (τ:=.bool) hr hc (by intro l;cases l<;>rfl) (by simp) ho;exact⟨c,us',h1,h2,h3,h4,h5,h6,by rintro b ⟨u,hu,_⟩;simp[aO]at hu,λ_=>KH⟩
 |.str,us,l,rest,rest',x,hr,hc,ho=>by obtain⟨c,us',h1,h2,h3,h4,h5,h6⟩:=kA (d:=d) hi (τ:=.str) hr hc (by intro l;cases l<;>rfl) (by simp) ho;exact⟨c,us',h1,h2,h3,h4,h5,h6,by rintro b ⟨u,hu,_⟩;simp[aO]at hu,λ_=>KH⟩
 |.arr _ _,_,_,_,_,_,_,_,ho=>by simp[bF]at ho
 |.ptr _,_,_,_,_,_,_,_,ho=>by simp[bF]at ho
 |.clo g e,us,l,rest,rest',x,hr,hc,ho=>by
  cases e with
  |unit=>
   cases l with
   |nil=>simp[aA]at hc
   |cons at' l=>
    cases us with
    |nil=>exact hr.elim
    |cons u us=>
     simp only[aA]at hc;split at hc
     ·rename_i y hy;obtain⟨e1,e2⟩:=Prod.mk.inj (B7 hc);subst e2;subst e1;simp only[bF,B3,true_and]at ho;subst ho;have key:Rd m.w m.F (.clo g .unit) [u] y:=by obtain⟨vs,k1,k2⟩:=cv hi hy hr.1;exact⟨vs,k1,k2⟩
      exact⟨[u],us,[at'],by rw[br key];rfl,rfl,rfl,key,hr.2,by rintro b ⟨u,hu,_⟩;simp[aO]at hu,λ_=>by simp[aO,cm]⟩
     simp at hc
  |_=>simp[bF]at ho
end
end Go.Vm

/-
 A function's contract, from its body: the beginning.
-/
namespace Go.Vm
section
variable {P:Program}{C:Ctx}{w:World}{F:Nat->Prop}
theorem getElem?_sub{α:Type}{u:α}{us:List α}{i k:Nat}(h:k+1<=i):(u::us)[i-k]?=us[i-(k+1)]?:=by
 have:i-k=(i-(k+1))+1:=by omega
 rw[this];rfl
theorem mO{u:Value}{e:Ty}{l:List e.den}(h:HdrW w F u e l):u.oneCell'=true:=by obtain⟨ad,cap,rfl,_⟩:=h;rfl
structure ObjT (w:World)(F:Nat->Prop)(u:Value)(o:Obj):Prop where
 rel:∀(m:Mem) (i:Nat),m.w=w->m.F=F->m.ι i=aP u->cQ m i o
 obj:isObj o=true
 deep:isDeep o=false
 hb:∀ b,HB (aP u) b->HB u b
 one:(aP u).oneCell'=true
theorem ObjT.arr{u:Value}{e:Ty}{l:List e.den}(h:HdrW w F u e l):ObjT w F u (.arr e l):=by have hs:=bZ (mO h);refine⟨λm i h1 h2 h3=>?_,rfl,rfl,λb hb=>by rwa[hs]at hb,by rw[hs];exact mO h⟩;show HdrW m.w m.F (m.ι i) e l;rw[h1,h2,h3,hs];exact h
theorem ObjT.box{u:Value}{k:List Nat}{T:Ty}{x:T.den}(h:zZ w F k T u x):ObjT w F u (.box (List.replicate T.size .u)):=by
 obtain⟨b,c,el,cs,k1,k2,k3,k4,k5⟩:=h;have hs:aP u=.pointer (some ⟨b,0,none⟩):=by rw[k1,cw]
 have hlen:c.toList.length=T.size:=by rw[k3,List.length_map,k4.len]
 refine⟨λm i h1 h2 h3=>⟨b,c,el,by rw[h3,hs],by rw[h1];exact k2,by rw[k3];exact k4.one,by rw[<- hlen];exact kJ _⟩,rfl,rfl,λbl hb=>?_,by rw[hs];rfl⟩;rw[hs]at hb;rw[k1];exact eB.2 (.inl hb)
def dh:List (Mode×Ty)->List Value->List Value
 |(.rd,_)::r,_::us=>dh r us
 |(_,_)::r,u::us=>aP u::dh r us
 |_,_=>[]
theorem bu:∀{ins:List (Mode×Ty)} {us:List Value} {x:(ac (ins.map (·.2))).den} (k:Nat),ArgsRd w F ins us x->∀ i o,(aY ins k x).get i=some o ->
  k<=i/\∃ u,us[i-k]?=some u/\u∈az ins us/\aP u∈dh ins us/\ObjT w F u o
 |[],[],_,_,_,i,o,h=>by simp[aY,Heap.get_nil0,Heap.get_pair]at h
 |[],_::_,_,_,h,_,_,_=>h.elim
 |_::_,[],_,_,h,_,_,_=>h.elim
 |(.rd,τ)::r,u::us,x,k,h,i,o,hg=>by obtain⟨h1,v,h2,h3,h4,h5⟩:=bu (ins:=r) (us:=us) (x:=x.2) (k+1) h.2 i o hg;exact⟨by omega,v,by rw[getElem?_sub h1];exact h2,h3,h4,h5⟩
 |(.upd,τ)::r,u::us,x,k,h,i,o,hg=>by
  cases τ with
  |slice e=>
   simp only[aY]at hg;rw[Heap.get_cons]at hg;split at hg
   ·rename_i e0;subst e0;simp only[aw]at hg;subst hg;exact⟨B2 _,u,by simp,by simp[az],by simp[dh],.arr h.1⟩
   obtain⟨h1,v,h2,h3,h4,h5⟩:=bu (ins:=r) (us:=us) (x:=x.2) (k+1) h.2 i o hg;exact⟨by omega,v,by rw[getElem?_sub h1];exact h2,by simp[az,h3],by simp[dh,h4],h5⟩
  |_=>exact(h.1).elim
 |(.take,τ)::r,u::us,x,k,h,i,o,hg=>by
  cases τ with
  |slice e=>
   simp only[aY]at hg;rw[Heap.get_cons]at hg;split at hg
   ·rename_i e0;subst e0;simp only[aw]at hg;subst hg;exact⟨B2 _,u,by simp,by simp[az],by simp[dh],.arr h.1⟩
   obtain⟨h1,v,h2,h3,h4,h5⟩:=bu (ins:=r) (us:=us) (x:=x.2) (k+1) h.2 i o hg;exact⟨by omega,v,by rw[getElem?_sub h1];exact h2,by simp[az,h3],by simp[dh,h4],h5⟩
  |_=>exact(h.1).elim
 |(.box kd,τ)::r,u::us,x,k,h,i,o,hg=>by
  cases τ with
  |ptr T=>
   simp only[aY]at hg;rw[Heap.get_cons]at hg;split at hg
   ·rename_i e0;subst e0;simp only[aw]at hg;subst hg;exact⟨B2 _,u,by simp,by simp[az],by simp[dh],.box h.1⟩
   obtain⟨h1,v,h2,h3,h4,h5⟩:=bu (ins:=r) (us:=us) (x:=x.2) (k+1) h.2 i o hg;exact⟨by omega,v,by rw[getElem?_sub h1];exact h2,by simp[az,h3],by simp[dh,h4],h5⟩
  |_=>exact(h.1).elim
theorem ig:∀{ins:List (Mode×Ty)} {us:List Value} {x:(ac (ins.map (·.2))).den} (k:Nat),ArgsRd w F ins us x->cm (az ins us)->∀ i j o p b u v,(aY ins k x).get i=some o->(aY ins k x).get j=some p ->
  us[i-k]?=some u->us[j-k]?=some v->HB u b->HB v b->i=j
 |[],[],_,_,_,_,i,_,o,_,_,_,_,h,_,_,_,_,_=>by simp[aY,Heap.get_nil0,Heap.get_pair]at h
 |[],_::_,_,_,h,_,_,_,_,_,_,_,_,_,_,_,_,_,_=>h.elim
 |_::_,[],_,_,h,_,_,_,_,_,_,_,_,_,_,_,_,_,_=>h.elim
 |(.rd,τ)::r,u0::us,x,k,h,ha,i,j,o,p,b,u,v,hi,hj,hu,hv,hb,hb'=>by obtain⟨h1,_⟩:=bu (ins:=r) (us:=us) (x:=x.2) (k+1) h.2 i o hi;obtain⟨h2,_⟩:=bu (ins:=r) (us:=us) (x:=x.2) (k+1) h.2 j p hj;rw[getElem?_sub h1]at hu;rw[getElem?_sub h2]at hv;exact ig (ins:=r) (us:=us) (x:=x.2) (k+1) h.2 ha i j o p b u v hi hj hu hv hb hb'
 |(.upd,τ)::r,u0::us,x,k,h,ha,i,j,o,p,b,u,v,hi,hj,hu,hv,hb,hb'=>by
  cases τ with
  |slice e=>exact at_cons k h.2 ha i j o p b u v hi hj hu hv hb hb' (ig (ins:=r) (us:=us) (x:=x.2) (k+1) h.2 (Jr.1 (show Kv _ (u0::az r us)from ha)).2)
  |_=>exact(h.1).elim
 |(.take,τ)::r,u0::us,x,k,h,ha,i,j,o,p,b,u,v,hi,hj,hu,hv,hb,hb'=>by
  cases τ with
  |slice e=>exact at_cons k h.2 ha i j o p b u v hi hj hu hv hb hb' (ig (ins:=r) (us:=us) (x:=x.2) (k+1) h.2 (Jr.1 (show Kv _ (u0::az r us)from ha)).2)
  |_=>exact(h.1).elim
 |(.box kd,τ)::r,u0::us,x,k,h,ha,i,j,o,p,b,u,v,hi,hj,hu,hv,hb,hb'=>by
  cases τ with
  |ptr T=>exact at_cons k h.2 ha i j o p b u v hi hj hu hv hb hb' (ig (ins:=r) (us:=us) (x:=x.2) (k+1) h.2 (Jr.1 (show Kv _ (u0::az r us)from ha)).2)
  |_=>exact(h.1).elim
where
 at_cons {r:List (Mode×Ty)} {us:List Value} {x:(ac (r.map (·.2))).den} {u0:Value} {o0:Obj} (k:Nat) (h:ArgsRd w F r us x) (ha:cm (u0::az r us)) (i j:Nat) (o p:Obj) (b:Nat) (u v:Value)
  (hi:Heap.get ((k,o0)::aY r (k+1) x) i=some o) (hj:Heap.get ((k,o0)::aY r (k+1) x) j=some p) (hu:(u0::us)[i-k]?=some u) (hv:(u0::us)[j-k]?=some v) (hb:HB u b) (hb':HB v b)
  (rec:∀ i j o p b u v,(aY r (k+1) x).get i=some o->(aY r (k+1) x).get j=some p->us[i-(k+1)]?=some u->us[j-(k+1)]?=some v->HB u b->HB v b->i=j):i=j:=by
  obtain⟨ha1,ha2⟩:=Jr.1 ha;rw[Heap.get_cons]at hi hj;split at hi<;>split at hj
  ·omega
  ·rename_i e0 _;subst e0;obtain⟨h2,v',h3,h4,_⟩:=bu (k+1) h j p hj;rw[getElem?_sub h2,h3]at hv;simp only[aw]at hv;subst hv;simp at hu;subst hu;exact(ha1 _ h4 b hb hb').elim
  ·rename_i _ e0;subst e0;obtain⟨h2,v',h3,h4,_⟩:=bu (k+1) h i o hi;rw[getElem?_sub h2,h3]at hu;simp only[aw]at hu;subst hu;simp at hv;subst hv;exact(ha1 _ h4 b hb' hb).elim
  obtain⟨h1,_⟩:=bu (k+1) h i o hi;obtain⟨h2,_⟩:=bu (k+1) h j p hj;rw[getElem?_sub h1]at hu;rw[getElem?_sub h2]at hv;exact rec i j o p b u v hi hj hu hv hb hb'
theorem kz:∀{ins:List (Mode×Ty)} {us:List Value} {x:(ac (ins.map (·.2))).den} (k:Nat),ArgsRd w F ins us x->∀ t,(dL ins k x).get t=.av .u \/
  ∃ u,k<=t/\us[t-k]?=some u/\((∃ τ,∃ y:τ.den,∃ cs,(dL ins k x).get t=.av (.val τ y)/\aP u=toV τ cs/\Rd w F τ cs y)\/((dL ins k x).get t=.av (.own t)/\∃ o,(aY ins k x).get t=some o) \/
   ((dL ins k x).get t=.av (.ptr t 0)/\∃ l,(aY ins k x).get t=some (.box l)))
 |[],[],_,_,_,t=>.inl rfl
 |[],_::_,_,_,h,_=>h.elim
 |_::_,[],_,_,h,_=>h.elim
 |(.rd,τ)::r,u::us,x,k,h,t=>by
  simp only[dL];rw[Env.get_cons];split
  ·rename_i e;subst e;obtain⟨cs,h1,h2⟩:=h.1;exact .inr ⟨u,B2 _,by simp,.inl ⟨τ,x.1,cs,rfl,by rw[h1,n9 h2],h2⟩⟩
  rcases kz (ins:=r) (us:=us) (x:=x.2) (k+1) h.2 t with h0|⟨v,h1,h2,h3⟩
  ·exact .inl h0
  exact .inr ⟨v,by omega,by rw[getElem?_sub h1];exact h2,h3⟩
 |(.upd,τ)::r,u::us,x,k,h,t=>by
  cases τ with
  |slice e=>
   simp only[dL,aY];rw[Env.get_cons,Heap.get_cons];split
   ·rename_i e0;subst e0;exact .inr ⟨u,B2 _,by simp,.inr (.inl ⟨rfl,_,rfl⟩)⟩
   rcases kz (ins:=r) (us:=us) (x:=x.2) (k+1) h.2 t with h0|⟨v,h1,h2,h3⟩
   ·exact .inl h0
   exact .inr ⟨v,by omega,by rw[getElem?_sub h1];exact h2,h3⟩
  |_=>exact(h.1).elim
 |(.take,τ)::r,u::us,x,k,h,t=>by
  cases τ with
  |slice e=>
   simp only[dL,aY];rw[Env.get_cons,Heap.get_cons];split
   ·rename_i e0;subst e0;exact .inr ⟨u,B2 _,by simp,.inr (.inl ⟨rfl,_,rfl⟩)⟩
   rcases kz (ins:=r) (us:=us) (x:=x.2) (k+1) h.2 t with h0|⟨v,h1,h2,h3⟩
   ·exact .inl h0
   exact .inr ⟨v,by omega,by rw[getElem?_sub h1];exact h2,h3⟩
  |_=>exact(h.1).elim
 |(.box kd,τ)::r,u::us,x,k,h,t=>by
  cases τ with
  |ptr T=>
   simp only[dL,aY];rw[Env.get_cons,Heap.get_cons];split
   ·rename_i e0;subst e0;exact .inr ⟨u,B2 _,by simp,.inr (.inr ⟨rfl,_,rfl⟩)⟩
   rcases kz (ins:=r) (us:=us) (x:=x.2) (k+1) h.2 t with h0|⟨v,h1,h2,h3⟩
   ·exact .inl h0
   exact .inr ⟨v,by omega,by rw[getElem?_sub h1];exact h2,h3⟩
  |_=>exact(h.1).elim
theorem e9:∀{ins:List (Mode×Ty)} {us:List Value} {x:(ac (ins.map (·.2))).den},ArgsRd w F ins us x->MutsRd w F ins us (jY ins x)
 |[],_,_,_=>trivial
 |(md,τ)::r,[],_,h=>h.elim
 |(.rd,τ)::r,u::us,x,h=>e9 (ins:=r) (us:=us) (x:=x.2) h.2
 |(.take,τ)::r,u::us,x,h=>e9 (ins:=r) (us:=us) (x:=x.2) h.2
 |(.upd,τ)::r,u::us,x,h=>by
  cases τ with
  |slice e=>exact⟨h.1,e9 (ins:=r) (us:=us) (x:=x.2) h.2⟩
  |_=>exact h.1.elim
 |(.box k,τ)::r,u::us,x,h=>by
  cases τ with
  |ptr T=>exact⟨h.1,e9 (ins:=r) (us:=us) (x:=x.2) h.2⟩
  |_=>exact h.1.elim
theorem mut_sub:∀{ins:List (Mode×Ty)} {us:List Value},(ba ins us).Sublist (az ins us)
 |[],us=>by cases us<;>exact Lc _
 |(md,τ)::r,[]=>by cases md<;>exact Lc _
 |(.rd,τ)::r,u::us=>mut_sub (ins:=r) (us:=us)
 |(.take,τ)::r,u::us=>(mut_sub (ins:=r) (us:=us)).cons u
 |(.upd,τ)::r,u::us=>(mut_sub (ins:=r) (us:=us)).cons_cons u
 |(.box k,τ)::r,u::us=>(mut_sub (ins:=r) (us:=us)).cons_cons u
theorem iB:∀{ins:List (Mode×Ty)} {us:List Value} {x:(ac (ins.map (·.2))).den},ArgsRd w F ins us x->∀{b:Nat},cL (dh ins us) b->cL (az ins us) b
 |[],us,_,_,b,h=>by obtain⟨u,hu,_⟩:=h;cases us<;>simp[dh]at hu
 |(md,τ)::r,[],_,h,b,_=>h.elim
 |(.rd,_)::r,_::us,x,h,b,ha=>iB (ins:=r) (us:=us) (x:=x.2) h.2 ha
 |(.take,τ)::r,u::us,x,h,b,ha=>by
  obtain⟨v,hv,hb⟩:=ha;rcases A8.1 (show v∈aP u::dh r us from hv)with rfl|hv
  ·refine⟨u,by simp[az],?_⟩;cases τ with
   |slice e=>exact(ObjT.arr h.1).hb b hb
   |_=>exact h.1.elim
  obtain⟨v',hv',hb'⟩:=iB (ins:=r) (us:=us) (x:=x.2) h.2 ⟨v,hv,hb⟩;exact⟨v',by simp[az,hv'],hb'⟩
 |(.upd,τ)::r,u::us,x,h,b,ha=>by
  obtain⟨v,hv,hb⟩:=ha;rcases A8.1 (show v∈aP u::dh r us from hv)with rfl|hv
  ·refine⟨u,by simp[az],?_⟩;cases τ with
   |slice e=>exact(ObjT.arr h.1).hb b hb
   |_=>exact h.1.elim
  obtain⟨v',hv',hb'⟩:=iB (ins:=r) (us:=us) (x:=x.2) h.2 ⟨v,hv,hb⟩;exact⟨v',by simp[az,hv'],hb'⟩
 |(.box k,τ)::r,u::us,x,h,b,ha=>by
  obtain⟨v,hv,hb⟩:=ha;rcases A8.1 (show v∈aP u::dh r us from hv)with rfl|hv
  ·refine⟨u,by simp[az],?_⟩;cases τ with
   |ptr T=>exact(ObjT.box h.1).hb b hb
   |_=>exact h.1.elim
  obtain⟨v',hv',hb'⟩:=iB (ins:=r) (us:=us) (x:=x.2) h.2 ⟨v,hv,hb⟩;exact⟨v',by simp[az,hv'],hb'⟩
theorem vH{u:Value}(h:u.oneCell'=true){b:Nat}:¬HB (.tuple (fa u).tail.toArray) b:=by rintro⟨w1,hw1,_⟩;cases u<;>simp_all[fa,Value.oneCell']
theorem eZ:∀{ins:List (Mode×Ty)} {us:List Value} {x:(ac (ins.map (·.2))).den},ArgsRd w F ins us x->cm (az ins us)->∀ u∈az ins us,∀ b,HB (.tuple (fa u).tail.toArray) b->¬cL (dh ins us) b
 |[],us,_,_,_,u,hu,_,_=>by cases us<;>simp[az]at hu
 |(md,τ)::r,[],_,h,_,_,_,_,_=>h.elim
 |(.rd,_)::r,_::us,x,h,hp,u,hu,b,hb=>eZ (ins:=r) (us:=us) (x:=x.2) h.2 hp u hu b hb
 |(.upd,τ)::r,u0::us,x,h,hp,u,hu,b,hb=>by
  cases τ with
  |slice e=>exact one_cons (mO h.1) h.2 hp u hu b hb (eZ (ins:=r) (us:=us) (x:=x.2) h.2 (Jr.1 (show Kv _ (u0::az r us)from hp)).2)
  |_=>exact h.1.elim
 |(.take,τ)::r,u0::us,x,h,hp,u,hu,b,hb=>by
  cases τ with
  |slice e=>exact one_cons (mO h.1) h.2 hp u hu b hb (eZ (ins:=r) (us:=us) (x:=x.2) h.2 (Jr.1 (show Kv _ (u0::az r us)from hp)).2)
  |_=>exact h.1.elim
 |(.box k,τ)::r,u0::us,x,h,hp,u,hu,b,hb=>by
  cases τ with
  |ptr T=>
   obtain⟨hp1,hp2⟩:=Jr.1 (show Kv _ (u0::az r us)from hp);obtain⟨⟨bl,c,el,cs,k1,k2,k3,k4,k5⟩,h2⟩:=h;rcases A8.1 (show u∈u0::az r us from hu)with rfl|hu1
   ·rintro⟨z,hz,hzb⟩;rcases A8.1 (show z∈aP u::dh r us from hz)with rfl|hz
    ·rw[k1,cw]at hzb;obtain⟨w1,hw1,hw2⟩:=hb;rw[k1]at hw1;simp only[jl,fa,List.tail_cons,Lh]at hw1;obtain⟨v,hv,hv2⟩:=hw1;exact(Jr.1 k5).1 v hv b hzb (jC.2 ⟨w1,hv2,hw2⟩)
    obtain⟨u2,hu2,hb2⟩:=iB h2 ⟨z,hz,hzb⟩;exact hp1 u2 hu2 b (gu hb) hb2
   rintro⟨z,hz,hzb⟩;rcases A8.1 (show z∈aP u0::dh r us from hz)with rfl|hz
   ·rw[k1,cw]at hzb;exact hp1 u hu1 b (by rw[k1];exact eB.2 (.inl hzb)) (gu hb)
   exact eZ (ins:=r) (us:=us) (x:=x.2) h2 hp2 u hu1 b hb ⟨z,hz,hzb⟩
  |_=>exact h.1.elim
where
 one_cons {r:List (Mode×Ty)} {us:List Value} {x:(ac (r.map (·.2))).den} {u0:Value} (h1:u0.oneCell'=true) (h:ArgsRd w F r us x) (hp:cm (u0::az r us)) (u:Value) (hu:u∈u0::az r us) (b:Nat) (hb:HB (.tuple (fa u).tail.toArray) b)
  (rec:∀ u∈az r us,∀ b,HB (.tuple (fa u).tail.toArray) b->¬cL (dh r us) b):¬cL (aP u0::dh r us) b:=by
  obtain⟨hp1,hp2⟩:=Jr.1 hp;rcases A8.1 hu with rfl|hu1
  ·exact absurd hb (vH h1)
  rintro⟨z,hz,hzb⟩;rcases A8.1 hz with rfl|hz
  ·rw[bZ h1]at hzb;exact hp1 u hu1 b hzb (gu hb)
  exact rec u hu1 b hb ⟨z,hz,hzb⟩
theorem zE{m:Mem}{ins:List (Mode×Ty)}{us:List Value}{x:(ac (ins.map (·.2))).den}:∀(k:Nat),ArgsRd w F ins us x->(∀ i o,(aY ins k x).get i=some o->m.G.get i=some o)->(∀ i u,us[i]?=some u->m.ι (k+i)=aP u)->BoxLive m ins us (qu ins k):=by
 induction ins generalizing us with
 |nil=>intro k h _ _;cases us<;>trivial
 |cons p r ih=>
  obtain⟨md,τ⟩:=p;intro k h hG hι;cases us with
  |nil=>exact h.elim
  |cons u us=>
   have hι':∀ i u,us[i]?=some u->m.ι (k+1+i)=aP u:=λi u hu=>by have:=hι (i+1) u (by simpa using hu);rwa[show k+(i+1)=k+1+i by omega]at this
   cases md with
   |rd=>exact ih (x:=x.2) (k+1) h.2 hG hι'
   |upd=>
    cases τ with
    |slice e=>refine ih (x:=x.2) (k+1) h.2 (λi o ho=>hG i o ?_) hι';obtain⟨h1,_⟩:=bu (k+1) h.2 i o ho;show Heap.get ((k,_)::aY r (k+1) x.2) i=_;rw[Heap.get_cons,if_neg (by omega)];exact ho
    |_=>exact h.1.elim
   |take=>
    cases τ with
    |slice e=>refine ih (x:=x.2) (k+1) h.2 (λi o ho=>hG i o ?_) hι';obtain⟨h1,_⟩:=bu (k+1) h.2 i o ho;show Heap.get ((k,_)::aY r (k+1) x.2) i=_;rw[Heap.get_cons,if_neg (by omega)];exact ho
    |_=>exact h.1.elim
   |box kd=>
    cases τ with
    |ptr T=>
     refine⟨λid o he=>?_,ih (x:=x.2) (k+1) h.2 (λi o ho=>hG i o ?_) hι'⟩
     ·simp only[SV.av.injEq,Atom.ptr.injEq]at he;obtain⟨rfl,rfl⟩:=he;exact⟨_,hG k _ (by show Heap.get ((k,_)::aY r (k+1) x.2) k=_;rw[Heap.get_cons,if_pos rfl]),by have:=hι 0 u rfl;simpa using this⟩
     obtain⟨h1,_⟩:=bu (k+1) h.2 i o ho;show Heap.get ((k,_)::aY r (k+1) x.2) i=_;rw[Heap.get_cons,if_neg (by omega)];exact ho
    |_=>exact h.1.elim
end
end Go.Vm

/-
 A function's contract, from its body: the end.
-/
namespace Go.Vm
section
variable {P:Program}{C:Ctx}{w0:World}{M:Own}{N:Nat}{A:Anns}{a:Act}{m:Mem}{s:St}
theorem mr:∀{τ:Ty},τ.plain=true->∀ cs,aO τ cs=[]
 |.prod a b,h,cs=>by simp only[Ty.plain,np]at h;simp[aO,mr h.1,mr h.2]
 |.int _,_,_=>rfl
 |.bool,_,_=>rfl
 |.str,_,_=>rfl
 |.unit,_,_=>rfl
 |.slice _,h,_=>by simp[Ty.plain]at h
 |.arr _ _,_,_=>rfl
 |.ptr _,h,_=>by simp[Ty.plain]at h
 |.clo _ _,_,_=>rfl
theorem nR{w:World}{F F':Nat->Prop}{d:Bool}:∀{τ:Ty} {cs:List Value} {x:τ.den},τ.plain=true->Rd w F τ cs x->OwnRd w F' d τ cs x
 |.prod a b,_,_,hf,h=>by simp only[Ty.plain,np]at hf;obtain⟨c1,c2,h1,h2,h3⟩:=h;exact⟨c1,c2,h1,nR hf.1 h2,nR hf.2 h3⟩
 |.int _,_,_,_,h=>h
 |.bool,_,_,_,h=>h
 |.str,_,_,_,h=>h
 |.unit,_,_,_,h=>h
 |.slice _,_,_,hf,_=>by simp[Ty.plain]at hf
 |.arr _ _,_,_,hf,_=>by simp[Ty.plain]at hf
 |.ptr _,_,_,hf,_=>by simp[Ty.plain]at hf
 |.clo _ _,_,_,hf,_=>by simp[Ty.plain]at hf
theorem oR(k:List Nat):∀(o:Nat) (l:List Atom),(bR true k o l).Sublist (l.flatMap atomIds)
 |_,[]=>.slnil
 |o,a::l=>by
  simp only[bR,KI,UA,UB];refine MM ?_ (oR k (o+1) l);cases A7 (dE k o) 0 with
  |true=>exact List.nil_sublist _
  |false=>exact Lc _
theorem my:∀{l r:List Nat},l.Sublist r->aH r=true->aH l=true
 |_,_,.slnil,_=>rfl
 |_,_,.cons a h,hn=>by simp only[aH,np]at hn;exact my h hn.2
 |_,_,.cons_cons a h,hn=>by simp only[aH,np,Jw,J0]at hn ⊢;exact⟨λx hx=>hn.1 x (h.subset hx),my h hn.2⟩
theorem ER {d:Bool}(hi:Inv C w0 M m){τ : Ty}{sv:SV}{u:Value}{x : τ.den}(hr:RelSV m u sv)(hx:aR m.G τ sv=some x)(ho:tV d m.G τ sv=true)(hn:aH (cP m.G sv)=true) :
  ∃ cs,u=toV τ (cs.map aP)/\OwnRd m.w m.F d τ cs x/\HdrsOf m (aO τ cs) (cP m.G sv):=by
 have cells {us:List Value} {l:List Atom} (h1:Rel2 (ai m) us l) (h2:aA m.G τ l=some (x,[])) (h3:(bF d τ l).1=true):∃ c,us=c.map aP/\OwnRd m.w m.F d τ c x/\HdrsOf m (aO τ c) (l.flatMap atomIds):=by
  obtain⟨c,us',lc,a1,a2,a3,a4,a5,a6,a7⟩:=nW hi (rest':=(bF d τ l).2) h1 h2 (by rw[<- h3]);match us',a5 with
  |[],_=>rw[Jz]at a1 a2;subst a2;exact⟨c,a1,a4,a6,a7⟩
 cases sv with
 |tup l=>simp[aR]at hx
 |agg l=>
  obtain⟨us,h1,h2,h3⟩:=hr;simp only[aR]at hx;cases ha:τ.isAgg with
  |false=>rw[ha]at hx;simp at hx
  |true=>
   rw[ha]at hx;simp only[UA]at hx;split at hx
   ·rename_i y hc;have hx:=B7 hx;subst hx;obtain⟨c,k0,k1,k2⟩:=cells h3 hc ho;exact⟨c,by rw[h1,k0];simp[toV,ha],k1,k2⟩
   simp at hx
 |av at'=>
  cases at' with
  |val σ y=>obtain⟨e,hy⟩:=aD hx;subst e;subst hy;obtain⟨cs,h1,h2⟩:=hr;have hp:σ.plain=true:=ho;exact⟨cs,by rw[br h2];exact h1,nR hp h2,by rw[mr hp];exact HdrsOf.nil _ _⟩
  |ptr i o=>
   cases τ with
   |ptr T=>
    cases o with
    |succ o=>simp[tV,bF]at ho
    |zero=>
     simp only[aR]at hx;simp only[tV]at ho;have hr':=(ao (m:=m) (v:=u) (by intros;simp)).1 hr;split at ho
     ·rename_i T' l e1 hl;simp only[Ty.ptr.injEq]at e1;subst e1;simp only[np,List.isEmpty_iff]at ho;obtain⟨⟨o1,o2⟩,o3⟩:=ho;simp only[dQ,hl]at hx;cases hc1:JK (0+T.size) l.length with
      |false=>rw[hc1]at hx;simp at hx
      |true=>
       rw[hc1]at hx;simp only[UA,List.drop_zero]at hx;split at hx
       ·rename_i x1' rest hc;have hx1:=B7 hx;subst hx1;have e2:cl false (dm d T) m.G (.av (.ptr i 0))=[]:=by simp[cl,hl,o3]
        have e3:cl true (dm d T) m.G (.av (.ptr i 0))=i::bR true (dm d T) 0 l:=by simp[cl,hl]
        have e4:cP m.G (.av (.ptr i 0))=i::l.flatMap atomIds:=by simp[cP,c9,hl]
        have hsub:(i::bR true (dm d T) 0 l).Sublist (i::l.flatMap atomIds):=(oR (dm d T) 0 l).cons_cons i;rw[e4]at hn ⊢;obtain⟨t,t1,t2,t3,_⟩:=pS hi (k:=dm d T) (Fr:=m.F) (λ_ h=>h) hl hr' hc (show gG (dm d T) 0 T l=(true,[]) by rw[<- o1,<- o2]) (.inr rfl) (by rw[e3];exact my hsub hn) (by
         rw[e2];rintro b (hb|⟨j,hj,_⟩)
         ·exact hb
         cases hj)
        refine⟨[t],?_,⟨t,rfl,t2⟩,?_,λ_=>JI _ _⟩
        ·rw[JA,t1];simp[toV,Ty.isAgg]
        intro b hb;obtain⟨id,ob,k1,k2⟩:=t3.1 b hb;rw[e3]at k1;exact⟨id,ob,hsub.subset k1,k2⟩
       simp at hx
     cases ho
   |_=>simp[aR]at hx
  |clo f c=>
   cases τ<;>simp only[aR]at hx<;>try (simp at hx;done)
   simp[tV]at ho
  |_=>
   have hr':=(ao (m:=m) (v:=u) (by intros;simp)).1 hr;simp only[aR]at hx;cases ha:τ.isAgg with
   |true=>rw[ha]at hx;simp at hx
   |false=>
    rw[ha]at hx;simp only[UB]at hx;have hc:∀ a',aF m.G τ a'=some x->(bF d τ [a']).1=true->aA m.G τ [a']=some (x,[]):=by
     intro a' h1 h2;cases τ with
     |clo g e=>cases e<;>first
      |(simp[bF]at h2;done)
      |(simp only[aA,h1];done)
     |_=>first
      |(simp[bF]at h2;done)
      |(simp only[aA,h1];done)
      |simp[Ty.isAgg]at ha
    obtain⟨c,k0,k1,k2⟩:=cells (us:=[u]) (l:=[_]) ⟨hr',trivial⟩ (hc _ hx ho) ho;refine⟨c,by rw[<- k0];exact(mm ha u).symm,k1,?_⟩;simpa[cP,bJ]using k2
theorem tK {d:Bool}(hi:Inv C w0 M m)(hG:m.G=s.G){m2:Mem}(hw:m2.w=m.w)(hF:∀ b,m.F b->m2.F b):∀{outs:ks} {us:List Value} {x:(ac ((outs.map (·.2)).map (·.2))).den},GT m s outs us x->gI d s outs=true->aH (aS s true outs)=true ->
  (∀ b,Thru m (aS s false outs) b->m2.F b) ->
  ∃ css,us=kf (outs.map (·.2)) css/\OutsRd m2.w m2.F d (outs.map (·.2)) css x/\HdrsOf m (bS (outs.map (·.2)) css) (aS s true outs)
 |[],[],_,_,_,_,_=>⟨[],rfl,trivial,HdrsOf.nil _ _⟩
 |[],_::_,_,h,_,_,_=>h.elim
 |_::_,[],_,h,_,_,_=>h.elim
 |(v,b,τ)::r,u::us,x,h,ho,hno,hT=>by
  obtain⟨⟨sv,h1,h2,h3⟩,h4⟩:=h;simp only[gI,np]at ho;obtain⟨ho1,ho2⟩:=ho;have hFF:∀ b,m.F b->m2.F b/\m2.w.heap[b]?=m.w.heap[b]?:=λb hb=>⟨hF b hb,by rw[hw]⟩;obtain⟨css,k1,k2,k3⟩:=tK hi hG hw hF h4 ho2 (by unfold aS at hno;exact(aU hno).2.1) (λbl hb=>hT bl (Thru.mono (λi hi=>by simp[aS,hi]) hb));cases b with
  |true=>
   simp only[UA,h1]at ho1;have e0:aS s true ((v,true,τ)::r)=cP m.G sv++aS s true r:=by simp[aS,h1,hG]
   rw[e0]at hno;obtain⟨cs,c1,c2,c3⟩:=ER hi h2 (hG▸h3) (hG▸ho1) (aU hno).1;refine⟨cs::css,by simp only[JA,kf,UA];rw[<- c1,<- k1],⟨c2.mono hFF (λ_ _ _ _=>by rw[hw]),k2⟩,?_⟩;have e:aS s true ((v,true,τ)::r)=cP m.G sv++aS s true r:=by simp[aS,h1,hG]
   rw[e];exact c3.append hi k3
  |false=>
   obtain⟨cs,c1,c2⟩:=db hi (hG▸h3) h2;refine⟨cs::css,by simp only[JA,kf,UB];rw[<- c1,<- k1],⟨c2.mono λbl hb=>⟨hT bl (Thru.mono (λi hi=>by simp[aS,h1];exact .inl (hG▸hi)) hb),by rw[hw]⟩,k2⟩,?_⟩;have e:aS s true ((v,false,τ)::r)=aS s true r:=by simp[aS,h1]
   rw[e];simpa[bS]using k3
end
end Go.Vm

/-
 A function's contract, from its body.
-/
namespace Go.Vm
section
variable {P:Program}{C:Ctx}{w0:World}{M:Own}{N:Nat}{A:Anns}{a:Act}{m:Mem}{s:St}
def dA(ins:List (Mode×Ty))(us:List Value)(i:Nat):Option Value:=match ins[i]? with
 |some (.upd,_)=>(us[i]?).map aP
 |some (.box _,_)=>(us[i]?).map aP
 |_=>none
def Bj:Mode->Bool
 |.upd=>true
 |.box _=>true
 |_=>false
theorem DQ{ins:List (Mode×Ty)}{us:List Value}{i:Nat}{md:Mode}{τ:Ty}{u:Value}(h:ins[i]?=some (md,τ))(hm:Bj md=true)(hu:us[i]?=some u):dA ins us i=some (aP u):=by unfold dA;rw[h];cases md<;>simp_all[Bj]
theorem kH (hi:Inv C w0 M m)(hG:m.G=s.G){m2:Mem}(hw:m2.w=m.w)(hF:∀ b,m.F b->m2.F b):∀{ins:List (Mode×Ty)} {us:List Value} {x:(ac (ins.map (·.2))).den} {y:(ac (aN ins)).den} {w1:World} {F1:Nat->Prop} (k:Nat),ArgsRd w1 F1 ins us x->cp s ins k=some y->aH (bV true s.G ins k)=true ->
  (∀ b,Thru m (bV false s.G ins k) b->m2.F b) ->
  (∀ j u md τ,ins[j]?=some (md,τ)->Bj md=true->us[j]?=some u->∀ o,m.G.get (k+j)=some o->isObj o=true->m.ι (k+j)=aP u) ->
  ∃ us',ku ins us us'/\MutsRd m2.w m2.F ins us' y/\HdrsOf m (ba ins us') (bV true s.G ins k)
 |[],[],x,y,w1,F1,k,_,_,_,_,_=>⟨[],trivial,trivial,HdrsOf.nil _ _⟩
 |[],_::_,_,_,_,_,_,h,_,_,_,_=>h.elim
 |_::_,[],_,_,_,_,_,h,_,_,_,_=>h.elim
 |(.rd,τ)::r,u::us,x,y,w1,F1,k,ha,h,hn,hT,hp=>by obtain⟨us',h1,h2,h3⟩:=kH hi hG hw hF (ins:=r) (us:=us) (y:=y) (k+1) ha.2 h hn hT (λj u md τ hj hm hu o ho hob=>by have:=hp (j+1) u md τ (by simpa using hj) hm (by simpa using hu) o (by rw[show k+(j+1)=k+1+j by omega];exact ho) hob;rw[show k+(j+1)=k+1+j by omega]at this;exact this);exact⟨u::us',⟨rfl,h1⟩,h2,h3⟩
 |(.take,τ)::r,u::us,x,y,w1,F1,k,ha,h,hn,hT,hp=>by obtain⟨us',h1,h2,h3⟩:=kH hi hG hw hF (ins:=r) (us:=us) (y:=y) (k+1) ha.2 h hn hT (λj u md τ hj hm hu o ho hob=>by have:=hp (j+1) u md τ (by simpa using hj) hm (by simpa using hu) o (by rw[show k+(j+1)=k+1+j by omega];exact ho) hob;rw[show k+(j+1)=k+1+j by omega]at this;exact this);exact⟨u::us',⟨rfl,h1⟩,h2,h3⟩
 |(.upd,τ)::r,u::us,x,y,w1,F1,k,ha,h,hn,hT,hp=>by
  cases τ with
  | slice e =>
    cases hg:s.G.get k with
    |none=>simp[cp,hg]at h
    |some ob=>
   cases ob with
   |box _=>simp[cp,hg]at h
   |dead=>simp[cp,hg]at h
   |deep _ _ _ _=>simp[cp,hg]at h
   |map _ _ _=>simp[cp,hg]at h
   |arr σ l=>
   unfold cp at h;rw[hg]at h;dsimp only at h;split at h
   ·rename_i x hx;split at h
    ·rename_i z hz;have h:=B7 h;subst h;obtain⟨he,hx⟩:=aD hx;cases he;subst hx;have e1:bV true s.G ((.upd,.slice e)::r) k=[k]++bV true s.G r (k+1):=rfl;have e2:bV false s.G ((.upd,.slice e)::r) k=bV false s.G r (k+1):=rfl;rw[e1]at hn ⊢;rw[e2]at hT;obtain⟨n1,n2,n3⟩:=aU hn;obtain⟨us',h1,h2,h3⟩:=kH hi hG hw hF (ins:=r) (us:=us) (y:=z) (k+1) ha.2 hz n2 hT (λj u md τ hj hm hu o ho hob=>by have:=hp (j+1) u md τ (by simpa using hj) hm (by simpa using hu) o (by rw[show k+(j+1)=k+1+j by omega];exact ho) hob;rw[show k+(j+1)=k+1+j by omega]at this;exact this);have hι:=hp 0 u .upd _ rfl rfl rfl _ (by rw[JY,hG];exact hg) rfl;rw[JY,bZ (mO ha.1)]at hι;have hobj:HdrW m.w m.F u e l:=by have:=hi.objs k _ (hG▸hg);rw[<- hι];exact this
     refine⟨u::us',⟨rfl,h1⟩,⟨hobj.mono (λb hb=>⟨hF b hb,by rw[hw]⟩) (λ_ _=>by rw[hw]),h2⟩,?_⟩;refine HdrsOf.cons hi ⟨?_,λ_=>JI _ _⟩ h3;rintro b ⟨u',hu',hb⟩;simp only[B4]at hu';subst hu';exact⟨k,_,by simp,hG▸hg,rfl,by rw[hι];exact hb⟩
    simp at h
   simp at h
  |_=>simp[cp]at h
 |(.box kd,τ)::r,u::us,x,y,w1,F1,k,ha,h,hn,hT,hp=>by
  cases τ with
  | ptr T =>
    cases hg:s.G.get k with
    |none=>simp[cp,hg]at h
    |some ob=>
   cases ob with
   |arr _ _=>simp[cp,hg]at h
   |dead=>simp[cp,hg]at h
   |deep _ _ _ _=>simp[cp,hg]at h
   |map _ _ _=>simp[cp,hg]at h
   |box l=>
   unfold cp at h;rw[hg]at h;dsimp only at h;cases ho:(gG kd 0 T l).1 with
   |false=>rw[ho]at h;simp at h
   |true=>
   rw[ho]at h;simp only[UA]at h;split at h
   ·rename_i x1 hx;split at h
    ·rename_i z hz;have h:=B7 h;subst h;have e1:bV true s.G ((.box kd,.ptr T)::r) k=cl true kd m.G (.av (.ptr k 0))++bV true s.G r (k+1):=by rw[hG];rfl
     have e2:bV false s.G ((.box kd,.ptr T)::r) k=cl false kd m.G (.av (.ptr k 0))++bV false s.G r (k+1):=by rw[hG];rfl
     rw[e1]at hn ⊢;rw[e2]at hT;obtain⟨n1,n2,n3⟩:=aU hn;obtain⟨us',h1,h2,h3⟩:=kH hi hG hw hF (ins:=r) (us:=us) (y:=z) (k+1) ha.2 hz n2 (λb hb=>hT b (Thru.mono (λi hi=>by simp[hi]) hb)) (λj u md τ hj hm hu o ho hob=>by have:=hp (j+1) u md τ (by simpa using hj) hm (by simpa using hu) o (by rw[show k+(j+1)=k+1+j by omega];exact ho) hob;rw[show k+(j+1)=k+1+j by omega]at this;exact this);have hι:=hp 0 u (.box kd) _ rfl rfl rfl _ (by rw[JY,hG];exact hg) rfl;rw[JY]at hι;obtain⟨b,c,el,q1,_⟩:=hi.objs k _ (hG▸hg);have hra:ai m (aP u) (.ptr k 0):=⟨by rw[<- hι,q1];rfl,.box l,hG▸hg,b,q1,by rw[<- hι,q1]⟩;obtain⟨t,t1,t2,t3,_⟩:=pS hi (Fr:=m2.F) hF (hG▸hg) hra (by rw[hG];exact hx) (rest':=(gG kd 0 T l).2) (by rw[<- ho]) (.inl rfl) n1 (λb hb=>hT b (Thru.mono (λi hi=>by simp[hi]) hb));exact⟨t::us',⟨t1,h1⟩,⟨by rw[hw];exact t2,h2⟩,t3.cons hi h3⟩
    simp at h
   simp at h
  |_=>simp[cp]at h
end
end Go.Vm

/-
 A function's contract, from its body: the whole.
-/
namespace Go.Vm
section
variable {P:Program}{C:Ctx}{A:Anns}
theorem iP:∀(outs m:List Ty) (x:(ac outs).den) (y:(ac m).den),ef outs m (kP outs m x y)=(x,y)
 |[],_,_,_=>rfl
 |_::r,m,x,y=>by show((x.1,(ef r m (kP r m x.2 y)).1),(ef r m (kP r m x.2 y)).2)=(x,y);rw[iP r m];rfl
def n7(A:Anns)(ins:List (Mode×Ty)):Bool:=A.all λp=>(fC ins 0).all λi=>(p.2.head.pins.any λj=>A7 i j)&&p.2.exits.all λe=>e.2.pins.any λj=>A7 i j
theorem Anns.mem_of_get{A:Anns}{key:Nat}{ann:Ann}(h:A.get key=some ann):∃ k,(k,ann)∈A:=by
 induction A with
 |nil=>simp[Anns.get]at h
 |cons p r ih=>
  obtain⟨k,v⟩:=p;simp only[Anns.get]at h;cases hk:A7 k key with
  |true=>rw[hk]at h;simp at h;subst h;exact⟨k,by simp⟩
  |false=>rw[hk]at h;obtain⟨k',hk'⟩:=ih h;exact⟨k',by simp[hk']⟩
theorem sA:∀{ins:List (Mode×Ty)} {us:List Value} {i:Nat} {v:Value} (k:Nat),dA ins us i=some v->k+i∈fC ins k
 |[],us,i,v,k,h=>by simp[dA]at h
 |(md,τ)::r,us,0,v,k,h=>by cases md<;>simp[dA]at h<;>simp[fC]
 |(md,τ)::r,[],i+1,v,k,h=>by unfold dA at h;split at h<;>simp at h
 |(md,τ)::r,u::us,i+1,v,k,h=>by
  have h':dA r us i=some v:=by unfold dA at h ⊢;simpa using h
  have:=sA (k+1) h';have e:k+(i+1)=k+1+i:=by omega
  cases md<;>simp only[fC]<;>rw[e]<;>simp[this]
theorem oQ{w:World}{F:Nat->Prop}:∀{ins:List (Mode×Ty)} {us:List Value} {x:(ac (ins.map (·.2))).den} {i:Nat} {v:Value} (k:Nat),ArgsRd w F ins us x->dA ins us i=some v->∃ o,(aY ins k x).get (k+i)=some o
 |[],us,x,i,v,k,_,h=>by simp[dA]at h
 |_::_,[],_,_,_,_,h,_=>h.elim
 |(md,τ)::r,u::us,x,0,v,k,ha,h=>by
  cases md<;>simp[dA]at h
  ·cases τ with
   |slice e=>exact⟨_,by simp only[aY,JY];rw[Heap.get_cons,if_pos rfl]⟩
   |_=>exact ha.1.elim
  cases τ with
  |ptr e=>exact⟨_,by simp only[aY,JY];rw[Heap.get_cons,if_pos rfl]⟩
  |_=>exact ha.1.elim
 |(md,τ)::r,u::us,x,i+1,v,k,ha,h=>by
  have h':dA r us i=some v:=by unfold dA at h ⊢;simpa using h
  obtain⟨o,ho⟩:=oQ (x:=x.2) (k+1) ha.2 h';have e:k+(i+1)=k+1+i:=by omega
  rw[e];cases md with
  |rd=>exact⟨o,ho⟩
  |upd=>
   cases τ with
   |slice e=>refine⟨o,?_⟩;simp only[aY];rw[Heap.get_cons,if_neg (by omega)];exact ho
   |_=>exact ha.1.elim
  |take=>
   cases τ with
   |slice e=>refine⟨o,?_⟩;simp only[aY];rw[Heap.get_cons,if_neg (by omega)];exact ho
   |_=>exact ha.1.elim
  |box kd=>
   cases τ with
   |ptr e=>refine⟨o,?_⟩;simp only[aY];rw[Heap.get_cons,if_neg (by omega)];exact ho
   |_=>exact ha.1.elim
theorem ArgsRd.len{w:World}{F:Nat->Prop}:∀{ins:List (Mode×Ty)} {us:List Value} {x:(ac (ins.map (·.2))).den},ArgsRd w F ins us x->us.length=ins.length
 |[],[],_,_=>rfl
 |[],_::_,_,h=>h.elim
 |_::_,[],_,h=>h.elim
 |_::_,_::_,_,h=>by simp[ArgsRd.len h.2]
theorem uj {w:World}{F:Nat->Prop}{ins:List (Mode×Ty)}{us:List Value}{x:(ac (ins.map (·.2))).den}(hp:Pre C.glob w F ins us x)(n:Nat){G:Heap}(hfill:bH ins (qu ins 0) (jY ins x) 0 (aY ins 0 x)=some G) :
  ∃ m,m.w=w/\m.G=G/\Sim C w ⟨cL (az ins us),F,dA ins us,none⟩ n { tmps:=(us.map aP).toArray++KZ (n-(us.map aP).toArray.size) undef,defers:=[] } m (dL ins 0 x):=by
 let m0:Mem:=⟨w,F,λi=>aP (us.getD i undef),aY ins 0 x⟩
 have hι:∀ i u,us[i-0]?=some u->m0.ι i=aP u:=by intro i u h;simp at h;simp[m0,h]
 have hi0:Inv C w ⟨cL (az ins us),F,dA ins us,none⟩ m0:=by
  refine⟨Kept.refl _ _,?_,?_,?_,hp.fro,hp.glob,λb hb=>.inl hb,?_⟩
  ·intro i o ho;obtain⟨_,u,h1,_,_,h2⟩:=bu 0 hp.args i o ho;exact h2.rel m0 i rfl rfl (hι i u h1)
  ·intro i o b ho _ hb;obtain⟨_,u,h1,h3,_,h2⟩:=bu 0 hp.args i o ho;rw[hι i u h1]at hb;have hb:=h2.hb b hb;obtain⟨k1,k2⟩:=hp.own u h3 b hb;exact⟨.inr ⟨u,h3,hb⟩,k1,k2⟩
  ·intro i j o p b ho _ hq _ h1 h2;obtain⟨_,u,k1,_,_,k3⟩:=bu 0 hp.args i o ho;obtain⟨_,v,k2,_,_,k4⟩:=bu 0 hp.args j p hq;rw[hι i u k1]at h1;rw[hι j v k2]at h2;exact ig 0 hp.args hp.apart i j o p b u v ho hq k1 k2 (k3.hb b h1) (k4.hb b h2)
  refine⟨λi v hv=>?_,λm0 h0=>by cases h0⟩;obtain⟨o,ho⟩:=oQ 0 hp.args hv;rw[JP]at ho;obtain⟨_,u,h1,_,_,h2⟩:=bu 0 hp.args i o ho;refine⟨_,ho,λ_=>⟨?_,h2.deep⟩⟩;have hv:dA ins us i=some v:=hv;rw[hι i u h1];simp only[ML]at h1;unfold dA at hv;split at hv
  ·simp[h1]at hv;exact hv
  ·simp[h1]at hv;exact hv
  simp at hv
 obtain⟨m,a1,a2,a3,a4,a5⟩:=dC (m:=m0) (us:=us) hi0 hfill (e9 hp.args) (zE 0 hp.args (λ_ _ h=>h) (λi u hu=>by rw[JP];exact hι i u (by simpa using hu))) (hp.apart.sublist mut_sub) (λu hu b hb=>by
  have hu':=mut_sub.subset hu;have hb':=gu hb;obtain⟨k1,k2⟩:=hp.own u hu' b hb';refine⟨.inr ⟨u,hu',hb'⟩,k1,k2,λi o ho _ hbl=>?_⟩;obtain⟨_,v,h1,_,h3,_⟩:=bu 0 hp.args i o ho;rw[hι i v h1]at hbl;exact eZ hp.args hp.apart u hu' b hb ⟨_,h3,hbl⟩)
 refine⟨m,a1,a3,a4,rfl,by simp;omega,?_⟩;intro t;rcases kz 0 hp.args t with h|⟨u,_,h1,h2⟩
 ·rw[h];trivial
 have ht:((us.map aP).toArray++KZ (n-(us.map aP).toArray.size) undef).getD t undef=aP u:=by simp only[ML]at h1;have:=(A2.1 h1).1;rw[JW,Array.getElem?_append_left (by simpa using this)];simp[h1]
 rw[ht];refine fm a5 ?_;rcases h2 with⟨τ,y,cs,h3,h4,h5⟩|⟨h3,o,h5⟩|⟨h3,l,h5⟩
 ·rw[h3];exact⟨cs,h4,h5⟩
 ·rw[h3];obtain⟨_,v,h6,_,_,h7⟩:=bu 0 hp.args t o h5;rw[h1]at h6;simp only[aw]at h6;subst h6;exact(ao (a:=.own t) (by intros;simp)).2 ⟨h7.one,o,h5,λ_=>(hι t u h1).symm⟩
 rw[h3];obtain⟨_,v,h6,_,_,h7⟩:=bu 0 hp.args t _ h5;rw[h1]at h6;simp only[aw]at h6;subst h6;obtain⟨b,c,el,q1,_⟩:=h7.rel m0 t rfl rfl (hι t u h1);exact(ao (a:=.ptr t 0) (by intros;simp)).2 ⟨h7.one,_,h5,b,q1,by rw[<- hι t u h1,q1]⟩
end
end Go.Vm

/-
 A function's contract, from its body.
-/
namespace Go.Vm
section
variable {P:Program}{C:Ctx}{A:Anns}
theorem CH {d:Bool}{w:World}{F:Nat->Prop}{ins:List (Mode×Ty)}{us:List Value}{x:(ac (ins.map (·.2))).den}(hp:Pre C.glob w F ins us x){N:Nat}{a:Act}{m:Mem}{s:St}
  (hs:Sim C w ⟨cL (az ins us),F,dA ins us,none⟩ N a m s.env) (hG:m.G=s.G) {outs:ks} {r:(ac ((outs.map (·.2)).map (·.2)++aN ins)).den} (h:lP ins outs s d=some r) (hk:lO P outs=true) :
  ∃ vs:List Value,((outs.map (·.1)).mapM (mX a)).run P m.w=.ok vs m.w/\∃ us' F2 css,ku ins us us'/\PostB w F ins us us' (outs.map (·.2)) r (eL vs) m.w F2 css d:=by
 unfold lP at h;cases hc:(gI d s outs && aH (aS s true outs) && eU (aS s true outs) (aS s false outs) && eU (aS s true outs) (bV true s.G ins 0) && eU (aS s false outs) (bV true s.G ins 0)
   && aH (bV true s.G ins 0)&&eU (aS s true outs) (bV false s.G ins 0)&&eU (bV false s.G ins 0) (bV true s.G ins 0))with
 |false=>rw[hc]at h;simp at h
 |true=>
  rw[hc]at h;simp only[UA]at h;simp only[np]at hc;obtain⟨⟨⟨⟨⟨⟨⟨c1,c2⟩,c3⟩,c4⟩,c5⟩,c6⟩,c7⟩,c8⟩:=hc;split at h
  ·rename_i xr hxr;split at h
   ·rename_i y hy;have h:=B7 h;subst h;obtain⟨vs,r1,r2⟩:=oL (P:=P) hs hG hxr hk;obtain⟨m2,a1,a2,a3,a4,a5,a6⟩:=cE (aS s false outs++bV false s.G ins 0) hs.inv
    let m3:Mem:=⟨m2.w,λb=>m2.F b\/F b,m2.ι,m2.G⟩
    have hF:∀ b,m.F b->m3.F b:=λb hb=>.inl (a5.fro b hb).1;obtain⟨css,k1,k2,k3⟩:=tK (m2:=m3) hs.inv hG a1 hF r2 c1 c2 (λb hb=>.inl (a6 b (Thru.mono (λi hi=>by simp[hi]) hb)));obtain⟨us',e0,e1,e2⟩:=kH (m2:=m3) hs.inv hG a1 hF (ins:=ins) (us:=us) 0 hp.args hy c6 (λb hb=>.inl (a6 b (Thru.mono (λi hi=>by simp[hi]) hb))) (λj u md τ hj hm hu o ho hob=>by
     rw[JP]at ho ⊢;obtain⟨o',q1,q2⟩:=hs.inv.pin.1 j (aP u) (show dA ins us j=some (aP u)from DQ hj hm hu);rw[ho]at q1;simp only[aw]at q1;subst q1;exact(q2 hob).1)
    -- every such block is an object's that lives,and that no other result is read through
    have live:∀ b,cL (bS (outs.map (·.2)) css++ba ins us') b->∃ id o,id∉aS s false outs++bV false s.G ins 0/\m.G.get id=some o/\isObj o=true/\HB (m.ι id) b:=by
     rintro b ⟨u,hu,hb⟩;rcases A4.1 hu with hu|hu
     ·obtain⟨id,o,j1,j2⟩:=k3.1 b ⟨u,hu,hb⟩;refine⟨id,o,λhn=>?_,j2⟩;rcases A4.1 hn with hn|hn
      ·exact eK c3 j1 hn
      exact eK c7 j1 hn
     obtain⟨id,o,j1,j2⟩:=e2.1 b ⟨u,hu,hb⟩;refine⟨id,o,λhn=>?_,j2⟩;rcases A4.1 hn with hn|hn
     ·exact eK c5 hn j1
     exact eK c8 hn j1
    refine⟨vs,r1,us',m3.F,css,e0,?_,?_,?_,by rw[k1],?_,?_,?_,?_⟩
    ·exact hs.inv.kept
    ·intro b hb;exact .inr hb
    ·rintro b (hb|hb)
     ·have q1:=a4.fro b hb;rw[a1]at q1;exact⟨q1,a4.bnd b hb⟩
     exact⟨JQ (hp.fro b hb) hs.inv.kept.size,.inl hb⟩
    ·rw[iP,<- a1];exact k2
    ·rw[iP,<- a1];exact e1
    ·refine Kh.2 ⟨k3.2 c2,e2.2 c6,?_⟩;intro u hu v hv b hb hb';obtain⟨id,o,j1,j2,j3,j4⟩:=k3.1 b ⟨u,hu,hb⟩;obtain⟨id',o',l1,l2,l3,l4⟩:=e2.1 b ⟨v,hv,hb'⟩;have:=hs.inv.inj id id' o o' b j2 j3 l2 l3 j4 l4;subst this;exact eK c4 j1 l1
    intro u hu b hb;obtain⟨id,o,j1,j2,j3,j4⟩:=live b ⟨u,hu,hb⟩;obtain⟨q1,q2,q3⟩:=hs.inv.own id o b j2 j3 j4;have:=a4.own id o b (by rw[a3,bf _ _ id j1];exact j2) j3 (by rw[a2];exact j4);refine⟨q1,?_,q3⟩;rintro(hb'|hb')
    ·exact this.2.1 hb'
    rcases q1 with q1|⟨v,hv,hvb⟩
    ·have:=hp.fro b hb';omega
    exact(hp.own v hv b hvb).1 hb'
   simp at h
  simp at h
end
end Go.Vm

/-
 A function's contract, from its body: the join.
-/
namespace Go.Vm
section
variable {P:Program}{C:Ctx}{A:Anns}
theorem rq {d:Bool}{f:FuncId}{fn:Func}{body:Code}{ins:List (Mode×Ty)}{outs:ks}{M:(ac (ins.map (·.2))).den->Option (ac ((outs.map (·.2)).map (·.2)++aN ins)).den}
  (hC : CtxOK P C) (hD : gE P) (hf : P.funcs[f]? = some fn) (hb : fn.body = some body) (hn : (fn.name == "runtime.NumGoroutine") = false) (hL : mI C A (aG body)) (hd : dc fn.ntmps body = true)
  (hpins:n7 A ins=true) (hres:fn.results=(outs.map (·.1)).toArray) (hk:lO P outs=true) (heq:∀ x,k6 C A body ins outs x d=M x) :
  Con.Holds P C.glob f ⟨ins,outs.map (·.2),M,d⟩:=by
 intro w F us x r hp hM;have hn' : ¬ fn.name = "runtime.NumGoroutine" := by simpa using hn
 refine .inl ⟨by simp[callFunc,hf,hn',hb],?_⟩;refine calls_of_wp hf hb ?_;have hx:k6 C A body ins outs x d=some r:=(heq x).trans hM;unfold k6 at hx;split at hx
 case h_2=>cases hx
 rename_i G0 hG0;obtain⟨m0,hw0,hGm,hs⟩:=uj hp fn.ntmps hG0;have hPin:DN ⟨cL (az ins us),F,dA ins us,none⟩ A:=by
  intro key ann hann;obtain⟨k,hmem⟩:=Anns.mem_of_get hann;unfold n7 at hpins;rw[B5]at hpins;have h1:=hpins _ hmem;rw[B5]at h1;have h2:∀ i v,dA ins us i=some v->i∈fC ins 0:=λi v hv=>by have:=sA 0 hv;rwa[JP]at this
  refine⟨⟨λi v hv=>?_,rfl⟩,λe sh hsh=>⟨λi v hv=>?_,rfl⟩⟩
  ·have:=h1 i (h2 i v hv);simp only[np]at this;exact gw.1 this.1
  have:=h1 i (h2 i v hv);simp only[np]at this;have h3:=this.2;rw[B5]at h3;exact gw.1 (h3 _ hsh)
 have fin {s':St} {a':Act} {m':Mem} (h1:lP ins outs s' d=some r) (h2:m'.G=s'.G) (h3:Sim C w ⟨cL (az ins us),F,dA ins us,none⟩ fn.ntmps a' m' s'.env) :
   a'.defers=[]/\∃ v,(Go.results fn a'.tmps).run P m'.w=.ok v m'.w/\∃ v',Ending.returned v=.returned v'/\∃ us' F2 css,ku ins us us'/\PostB w F ins us us' (outs.map (·.2)) r v' m'.w F2 css d:=by
  obtain⟨vs,e1,us',F2,css,e0,e2⟩:=CH (P:=P) hp h3 h2 h1 hk;refine⟨h3.defers,eL vs,?_,_,rfl,us',F2,css,e0,e2⟩;have hrun:(Go.results fn a'.tmps).run P m'.w=(((outs.map (·.1)).mapM (mX a')).run P m'.w).andThen λvs w'=>.ok (eL vs) w':=by
   have hf':Go.results fn a'.tmps=(do let vs <- fn.results.mapM (mX a');pure (if h:vs.size=1 then vs[0]else .tuple vs)):=by unfold Go.results;congr 1
   rw[hf',hres];simp only[Array.mapM_eq_mapM_toList,Sem.run_bind,map_eq_pure_bind,bind_assoc,pure_bind,Sem.run_pure];congr 1;funext l w';match l with
   |[]=>rfl
   |[u]=>rfl
   |_::_::_=>simp[eL]
  rw[hrun,e1];rfl
 subst hw0;refine EC (s:={ env:=dL ins 0 x,G:=G0 }) hC hD hPin body hL hd hs hGm hx ?_;intro e s' a' m' h1 h2 h3;cases e with
 |normal=>exact fin h1 h2 h3
 |exit i=>simp at h1
 |ret=>exact fin h1 h2 h3
end
end Go.Vm

/-
 A part of the memory is taken out, something is done there, and it is laid back.
-/
namespace Go.Vm
theorem Heap.get_append(X G:Heap)(i:Nat):Heap.get (X++G) i=(match X.get i with|some o=>some o|none=>G.get i):=by
 induction X with
 |nil=>rfl
 |cons p r ih=>
  obtain⟨k,v⟩:=p;simp only[KD,Heap.get_nil0,Heap.get_pair];cases A7 k i with
  |true=>rfl
  |false=>exact ih
theorem Heap.get_of_has{G:Heap}:∀{i:Nat},G.has i=true->∃ o,G.get i=some o:=by
 induction G with
 |nil=>intro i h;simp[Heap.has_nil0,Heap.has_pair]at h
 |cons p r ih=>
  intro i h;obtain⟨k,v⟩:=p;simp only[Heap.has_nil0,Heap.has_pair]at h;simp only[Heap.get_nil0,Heap.get_pair];cases hk:A7 k i with
  |true=>exact⟨v,rfl⟩
  |false=>rw[hk]at h;exact ih h
theorem Heap.has_none{G:Heap}{i:Nat}(h:G.get i=none):G.has i=false:=by
 cases hh:G.has i with
 |false=>rfl
 |true=>obtain⟨o,ho⟩:=Heap.get_of_has hh;rw[h]at ho;cases ho
theorem Heap.mem_of_get{G:Heap}:∀{i:Nat} {o:Obj},G.get i=some o->(i,o)∈G:=by
 induction G with
 |nil=>intro i o h;simp[Heap.get_nil0,Heap.get_pair]at h
 |cons p r ih=>
  intro i o h;obtain⟨k,v⟩:=p;simp only[Heap.get_nil0,Heap.get_pair]at h;cases hk:A7 k i with
  |true=>rw[hk]at h;simp at h;subst h;rw[<- A3 hk];simp
  |false=>rw[hk]at h;exact Jq _ (ih h)
section
variable {P:Program}{C:Ctx}{w0:World}{M:Own}{m:Mem}
theorem rF(hi:Inv C w0 M m){G':Heap}(h:∀ id,G'.get id=m.G.get id):Inv C w0 M ⟨m.w,m.F,m.ι,G'⟩/\Evo m ⟨m.w,m.F,m.ι,G'⟩:=by
 have he:Evo m ⟨m.w,m.F,m.ι,G'⟩:=⟨λb hb=>⟨hb,rfl⟩,λid o ho=>⟨o,by show G'.get id=_;rw[h];exact ho,.inr (Goon.refl _ o)⟩⟩;refine⟨⟨hi.kept,?_,?_,?_,hi.fro,λg τ x hg=>(hi.glob g τ x hg).mono he.fro,hi.bnd,bI he hi.pin⟩,he⟩
 ·intro id o ho;exact bL he rfl (λ_ _=>rfl) (hi.objs id o (by rw[<- h];exact ho))
 ·intro id o b ho;exact hi.own id o b (by rw[<- h];exact ho)
 intro i j o p b ho hoo hp;exact hi.inj i j o p b (by rw[<- h];exact ho) hoo (by rw[<- h];exact hp)
theorem mi{Gi:Heap}(hsub:∀ id o,Gi.get id=some o->m.G.get id=some o){v:Value}:∀{a:Atom},ai m v a->cB Gi a=true->ai ⟨m.w,m.F,m.ι,Gi⟩ v a
 |.u,_,_=>trivial
 |.undef,h,_=>h
 |.nils _,h,_=>h
 |.val _ _,h,_=>h
 |.own id,h,hh=>by
  obtain⟨h1,o,ho,hv⟩:=h;obtain⟨o',ho'⟩:=Heap.get_of_has hh;have:=hsub id o' ho';rw[ho]at this;cases this
  exact⟨h1,o,ho',hv⟩
 |.view id off len,h,hh=>by
  obtain⟨h1,o,ho,hv⟩:=h;obtain⟨o',ho'⟩:=Heap.get_of_has hh;have:=hsub id o' ho';rw[ho]at this;cases this
  exact⟨h1,o,ho',hv⟩
 |.ptr id off,h,hh=>by
  obtain⟨h1,o,ho,hv⟩:=h;obtain⟨o',ho'⟩:=Heap.get_of_has hh;have:=hsub id o' ho';rw[ho]at this;cases this
  exact⟨h1,o,ho',hv⟩
 |.aptr id j p,h,hh=>by
  obtain⟨h1,o,ho,hv⟩:=h;obtain⟨o',ho'⟩:=Heap.get_of_has hh;have:=hsub id o' ho';rw[ho]at this;cases this
  exact⟨h1,o,ho',hv⟩
 |.cut id j p,h,hh=>by
  obtain⟨h1,o,ho,hv⟩:=h;obtain⟨o',ho'⟩:=Heap.get_of_has hh;have:=hsub id o' ho';rw[ho]at this;cases this
  exact⟨h1,o,ho',hv⟩
 |.ownd id,h,hh=>by
  obtain⟨h1,o,ho,hv⟩:=h;obtain⟨o',ho'⟩:=Heap.get_of_has hh;have:=hsub id o' ho';rw[ho]at this;cases this
  exact⟨h1,o,ho',hv⟩
 |.sub id ver j,h,hh=>by
  obtain⟨h1,o,ho,hv⟩:=h;obtain⟨o',ho'⟩:=Heap.get_of_has hh;have:=hsub id o' ho';rw[ho]at this;cases this
  exact⟨h1,o,ho',hv⟩
 |.saptr id ver j k,h,hh=>by
  obtain⟨h1,o,ho,hv⟩:=h;obtain⟨o',ho'⟩:=Heap.get_of_has hh;have:=hsub id o' ho';rw[ho]at this;cases this
  exact⟨h1,o,ho',hv⟩
 |.iptr id _ _ _ _,h,hh=>by
  obtain⟨h1,o,ho,hv⟩:=h;obtain⟨o',ho'⟩:=Heap.get_of_has hh;have:=hsub id o' ho';rw[ho]at this;cases this
  exact⟨h1,o,ho',hv⟩
 |.ownm id,h,hh=>by
  obtain⟨h1,o,ho,hv⟩:=h;obtain⟨o',ho'⟩:=Heap.get_of_has hh;have:=hsub id o' ho';rw[ho]at this;cases this
  exact⟨h1,o,ho',hv⟩
 |.bnd _ _,h,_=>h
 |.clo f caps,h,hh=>by
  obtain⟨vs,h1,h2⟩:=h;refine⟨vs,h1,?_⟩;simp only[cB,B5]at hh;clear h1;induction caps generalizing vs with
  |nil=>
   match vs,h2 with
   |[],_=>trivial
  |cons c caps ih=>
   match vs,h2 with
   |u::vs,h2=>
    obtain⟨⟨o,ho,hv⟩,h3⟩:=h2;obtain⟨o',ho'⟩:=Heap.get_of_has (hh c (by simp));have:=hsub c o' ho';rw[ho]at this;cases this
    exact⟨⟨o,ho',hv⟩,ih vs h3 λx hx=>hh x (by simp[hx])⟩
theorem fS{Gi:Heap}(hsub:∀ id o,Gi.get id=some o->m.G.get id=some o):∀{us:List Value} {l:List Atom},Rel2 (ai m) us l->l.all (λa=>cB Gi a)=true->Rel2 (ai ⟨m.w,m.F,m.ι,Gi⟩) us l
 |[],[],_,_=>trivial
 |_::_,[],h,_=>h.elim
 |[],_::_,h,_=>h.elim
 |_::_,_::_,h,hh=>by simp only[Lz,np]at hh;exact⟨mi hsub h.1 hh.1,fS hsub h.2 hh.2⟩
theorem px{Gi:Heap}(hsub:∀ id o,Gi.get id=some o->m.G.get id=some o){v:Value}:∀{sv:SV},RelSV m v sv->iw Gi sv=true->RelSV ⟨m.w,m.F,m.ι,Gi⟩ v sv
 |.av a,h,hh=>by
  cases a with
  |val τ x=>exact h
  |_=>exact(ao (by intros;simp)).2 (mi hsub ((ao (by intros;simp)).1 h) hh)
 |.agg l,h,hh=>by obtain⟨us,h1,h2,h3⟩:=h;exact⟨us,h1,h2,fS hsub h3 hh⟩
 |.tup l,h,hh=>by
  obtain⟨us,h1,h2⟩:=h;refine⟨us,h1,?_⟩;clear h1;induction l generalizing us with
  |nil=>
   match us,h2 with
   |[],_=>trivial
  |cons p l ih=>
   simp only[iw,Lz,np]at hh;match us,h2 with
   |u::us,h2=>
    refine⟨?_,ih hh.2 us h2.2⟩;have h3:=h2.1;obtain⟨b,c⟩:=p;cases b with
    |true=>obtain⟨us,q1,q0,q2⟩:=h3;exact⟨us,q1,q0,fS hsub q2 hh.1⟩
    |false=>obtain⟨a,q1,q2⟩:=h3;simp only at q1;subst q1;refine⟨a,rfl,mi hsub q2 ?_⟩;have:=hh.1;simpa using this
theorem uw{v:Value}:∀{a:Atom},ai m v a->cB m.G a=true
 |.u,_=>rfl
 |.undef,_=>rfl
 |.nils _,_=>rfl
 |.val _ _,_=>rfl
 |.own _,h=>by obtain⟨_,o,ho,_⟩:=h;exact Heap.has_of_get ho
 |.view _ _ _,h=>by obtain⟨_,o,ho,_⟩:=h;exact Heap.has_of_get ho
 |.ptr _ _,h=>by obtain⟨_,o,ho,_⟩:=h;exact Heap.has_of_get ho
 |.aptr _ _ _,h=>by obtain⟨_,o,ho,_⟩:=h;exact Heap.has_of_get ho
 |.cut _ _ _,h=>by obtain⟨_,o,ho,_⟩:=h;exact Heap.has_of_get ho
 |.ownd _,h=>by obtain⟨_,o,ho,_⟩:=h;exact Heap.has_of_get ho
 |.sub _ _ _,h=>by obtain⟨_,o,ho,_⟩:=h;exact Heap.has_of_get ho
 |.saptr _ _ _ _,h=>by obtain⟨_,o,ho,_⟩:=h;exact Heap.has_of_get ho
 |.ownm _,h=>by obtain⟨_,o,ho,_⟩:=h;exact Heap.has_of_get ho
 |.iptr _ _ _ _ _,h=>by obtain⟨_,o,ho,_⟩:=h;exact Heap.has_of_get ho
 |.bnd _ _,_=>rfl
 |.clo f caps,h=>by
  obtain⟨vs,h1,h2⟩:=h;simp only[cB,B5];clear h1;induction caps generalizing vs with
  |nil=>simp
  |cons c caps ih=>
   match vs,h2 with
   |u::vs,h2=>
    obtain⟨⟨o,ho,_⟩,h3⟩:=h2;intro x hx;rcases A8.1 hx with rfl|hx
    ·exact Heap.has_of_get ho
    exact ih vs h3 x hx
theorem gq:∀{us:List Value} {l:List Atom},Rel2 (ai m) us l->∀ a∈l,cB m.G a=true
 |[],[],_=>by simp
 |_::_,[],h=>h.elim
 |[],_::_,h=>h.elim
 |_::_,_::_,h=>by
  intro a ha;rcases A8.1 ha with rfl|ha
  ·exact uw h.1
  exact gq h.2 a ha
theorem jW{G G':Heap}(h:∀ i,G.has i=true->G'.has i=true){a:Atom}(ha:cB G a=true):cB G' a=true:=by
 cases a with
 |clo f c=>simp only[cB,B5]at ha ⊢;exactλi hi=>h i (ha i hi)
 |own _=>exact h _ ha
 |view _ _ _=>exact h _ ha
 |ptr _ _=>exact h _ ha
 |aptr _ _ _=>exact h _ ha
 |cut _ _ _=>exact h _ ha
 |ownd _=>exact h _ ha
 |sub _ _ _=>exact h _ ha
 |saptr _ _ _ _=>exact h _ ha
 |ownm _=>exact h _ ha
 |iptr _ _ _ _ _=>exact h _ ha
 |_=>rfl
def lC(m:Mem)(Gi:Heap):Own:=⟨λb=>∃ id,Blk ⟨m.w,m.F,m.ι,Gi⟩ id b,m.F,λ_=>none,none⟩
theorem DB (hi:Inv C w0 M m){Gi:Heap}(hsub:∀ id o,Gi.get id=some o->m.G.get id=some o)(hbox:∀ id l,Gi.get id=some (.box l)->l.all (fun a=>cB Gi a)=true) :
  Inv C m.w (lC m Gi) ⟨m.w,m.F,m.ι,Gi⟩:=by
 refine⟨Kept.refl _ _,?_,?_,?_,hi.fro,λg τ x hg=>hi.glob g τ x hg,λb hb=>.inl hb,⟨λi v h=>by simp[lC]at h,λm0 h=>by simp[lC]at h⟩⟩
 ·intro id o ho;have hr:=hi.objs id o (hsub id o ho);cases o with
  |dead=>trivial
  |arr τ l=>exact hr
  |deep _ _ _ _=>exact hr
  |map _ _ _=>exact hr
  |box l=>obtain⟨b,c,el,h1,h2,h0,h3⟩:=hr;exact⟨b,c,el,h1,h2,h0,fS hsub h3 (hbox id l ho)⟩
 ·intro id o b ho hob hb;obtain⟨_,h2,h3⟩:=hi.own id o b (hsub id o ho) hob hb;exact⟨.inr ⟨id,o,ho,hob,hb⟩,h2,h3⟩
 intro i j o p b ho hoo hp hop h1 h2;exact hi.inj i j o p b (hsub i o ho) hoo (hsub j p hp) hop h1 h2
theorem yV (hi:Inv C w0 M m){Gi X:Heap}{m':Mem}(hsub:∀ id o,Gi.get id=some o->m.G.get id=some o)(hi':Inv C m.w (lC m Gi) m')(he:Evo ⟨m.w,m.F,m.ι,Gi⟩ m')
  (hG':m'.G=X++Gi) (hX:∀ id o,X.get id=some o->Gi.get id=none->m.G.get id=none) :
  ∃ m'',m''.w=m'.w/\m''.G=X++m.G/\Inv C w0 M m''/\Evo m m''/\∀ v sv,RelSV m' v sv->RelSV m'' v sv:=by
 let ι2:Nat->Value:=λid=>cond ((X++Gi).has id) (m'.ι id) (m.ι id)
 let m2:Mem:=⟨m'.w,m'.F,ι2,X++m.G⟩
 have hcase:∀ id o,(X++m.G).get id=some o->(m'.G.get id=some o/\ι2 id=m'.ι id)\/(Gi.get id=none/\m.G.get id=some o/\ι2 id=m.ι id):=by
  intro id o ho;rw[Heap.get_append]at ho;cases hx:X.get id with
  |some o1=>
   rw[hx]at ho;left;have hg:(X++Gi).get id=some o1:=by rw[Heap.get_append,hx]
   refine⟨by rw[hG',hg];exact ho,?_⟩;show cond _ _ _=_;rw[Heap.has_of_get hg];rfl
  |none=>
   rw[hx]at ho;cases hgi:Gi.get id with
   |some o1=>
    left;have hg:(X++Gi).get id=some o1:=by rw[Heap.get_append,hx];exact hgi
    have h1:=hsub id o1 hgi;have ho:m.G.get id=some o:=ho;rw[h1]at ho;refine⟨by rw[hG',hg];exact ho,?_⟩;show cond _ _ _=_;rw[Heap.has_of_get hg];rfl
   |none=>
    right;have hg:(X++Gi).get id=none:=by rw[Heap.get_append,hx];exact hgi
    refine⟨rfl,ho,?_⟩;show cond _ _ _=_;rw[Heap.has_none hg];rfl
 have hback:∀ id o,m'.G.get id=some o->(X++m.G).get id=some o/\ι2 id=m'.ι id:=by
  intro id o ho;rw[hG']at ho;have hι:ι2 id=m'.ι id:=by show cond _ _ _=_;rw[Heap.has_of_get ho];rfl
  refine⟨?_,hι⟩;rw[Heap.get_append]at ho ⊢;cases hx:X.get id with
  |some o1=>rw[hx]at ho;exact ho
  |none=>rw[hx]at ho;exact hsub id o ho
 have hMb:∀ id o b,m.G.get id=some o->isObj o=true->HB (m.ι id) b->Gi.get id=none->¬(lC m Gi) b:=by rintro id o b ho hob hb hn ⟨id',o',ho',hob',hb'⟩;have:=hi.inj id id' o o' b ho hob (hsub id' o' ho') hob' hb hb';subst this;have ho':Gi.get id=some o':=ho';rw[hn]at ho';cases ho'
 have hMw:∀ b,(lC m Gi) b->(w0.heap.size<=b\/M b)/\b<m.w.heap.size:=by rintro b ⟨id',o',ho',hob',hb'⟩;have:=hi.own id' o' b (hsub id' o' ho') hob' hb';exact⟨this.1,this.2.2⟩
 have hks:=hi.kept.size;have hks':=hi'.kept.size;have hother:∀ id o b,m.G.get id=some o->isObj o=true->HB (m.ι id) b->Gi.get id=none->m'.w.heap[b]?=m.w.heap[b]?:=by intro id o b ho hob hb hn;exact hi'.kept.block b (hi.own id o b ho hob hb).2.2 (hMb id o b ho hob hb hn)
 have he1:Evo m' m2:=⟨λb hb=>⟨hb,rfl⟩,λid o ho=>⟨o,(hback id o ho).1,.inr (.inl ⟨(hback id o ho).2,Alike.refl o⟩)⟩⟩;have he2:Evo m m2:=by
  refine⟨he.fro,λid o ho=>?_⟩;cases hgi:Gi.get id with
  |some o1=>
   have h1:=hsub id o1 hgi;rw[ho]at h1;cases h1
   obtain⟨o',h2,h3⟩:=he.get id o hgi;obtain⟨h4,h5⟩:=hback id o' h2;refine⟨o',h4,?_⟩;rcases h3 with h3|h3
   ·exact .inl h3
   have h5:m2.ι id=m'.ι id:=h5;rw[h5];exact .inr h3
  |none=>
   have hx:X.get id=none:=by
    cases hx:X.get id with
    |none=>rfl
    |some o1=>have:=hX id o1 hx hgi;rw[ho]at this;cases this
   have hg:(X++m.G).get id=some o:=by rw[Heap.get_append,hx];exact ho
   have hn:(X++Gi).get id=none:=by rw[Heap.get_append,hx];exact hgi
   refine⟨o,hg,.inr (.inl ⟨?_,Alike.refl o⟩)⟩;show cond _ _ _=_;rw[Heap.has_none hn];rfl
 refine⟨m2,rfl,rfl,⟨?_,?_,?_,?_,hi'.fro,λg τ x hg=>(hi'.glob g τ x hg),?_,bI he2 hi.pin⟩,he2,λv sv h=>fm he1 h⟩
 ·refine⟨hi'.kept.os.trans hi.kept.os,hi'.kept.tape.trans hi.kept.tape,hi'.kept.output.trans hi.kept.output,by show _<=m'.w.heap.size;omega,λb hb hM=>?_⟩;refine(hi'.kept.block b (by omega) ?_).trans (hi.kept.block b hb hM);intro hMb';rcases(hMw b hMb').1 with h|h
  ·omega
  exact hM h
 ·intro id o ho;rcases hcase id o ho with⟨h1,h2⟩|⟨h1,h2,h3⟩
  ·exact bL he1 h2 (λ_ _=>rfl) (hi'.objs id o h1)
  by_cases hob:isObj o=true
  ·exact bL he2 h3 (λb hb=>hother id o b h2 hob hb h1) (hi.objs id o h2)
  cases o<;>simp_all[isObj,cQ]
 ·intro id o b ho hob hb;rcases hcase id o ho with⟨h1,h2⟩|⟨h1,h2,h3⟩
  ·have hb':HB (m'.ι id) b:=by rw[<- h2];exact hb
   obtain⟨q1,q2,q3⟩:=hi'.own id o b h1 hob hb';refine⟨?_,q2,q3⟩;rcases q1 with q1|q1
   ·exact .inl (by omega)
   exact(hMw b q1).1
  have hb':HB (m.ι id) b:=by rw[<- h3];exact hb
  obtain⟨q1,q2,q3⟩:=hi.own id o b h2 hob hb';refine⟨q1,?_,by show b<m'.w.heap.size;omega⟩;intro hF;rcases hi'.bnd b hF with h|h|h
  ·exact q2 h
  ·exact hMb id o b h2 hob hb' h1 h
  omega
 ·have cross:∀ i j o p b,m'.G.get i=some o->ι2 i=m'.ι i->Gi.get j=none->m.G.get j=some p->ι2 j=m.ι j->isObj o=true->isObj p=true->HB (ι2 i) b->HB (ι2 j) b->False:=by
   intro i j o p b a1 a2 b1 b2 b3 hoo hop h1 h2;rw[a2]at h1;rw[b3]at h2
   have q:=(hi'.own i o b a1 hoo h1).1;have:=(hi.own j p b b2 hop h2).2.2;rcases q with q|q
   ·omega
   exact hMb j p b b2 hop h2 b1 q
  intro i j o p b ho hoo hp hop h1 h2;rcases hcase i o ho with⟨a1,a2⟩|⟨a1,a2,a3⟩
  ·rcases hcase j p hp with⟨b1,b2⟩|⟨b1,b2,b3⟩
   ·exact hi'.inj i j o p b a1 hoo b1 hop (by rw[<- a2];exact h1) (by rw[<- b2];exact h2)
   exact(cross i j o p b a1 a2 b1 b2 b3 hoo hop h1 h2).elim
  rcases hcase j p hp with⟨b1,b2⟩|⟨b1,b2,b3⟩
  ·exact(cross j i p o b b1 b2 a1 a2 a3 hop hoo h2 h1).elim
  exact hi.inj i j o p b a2 hoo b2 hop (by rw[<- a3];exact h1) (by rw[<- b3];exact h2)
 intro b hF;rcases hi'.bnd b hF with h|h|h
 ·exact hi.bnd b h
 ·rcases(hMw b h).1 with h|h
  ·exact .inr (.inr h)
  exact .inr (.inl h)
 exact .inr (.inr (by omega))
end
def Suf(G:Heap)(r:Option St):Prop:=∀ s',r=some s'->∃ X,s'.G=X++G
section
variable {C:Ctx}{s:St}
theorem ak{G:Heap}:Suf G none:=λ_ h=>by cases h
theorem lH{dst:Option Nat}{v:SV}{G:Heap}(h:∃ X,s.G=X++G):Suf G (some (ag dst v s)):=λs' h'=>by cases h';cases dst<;>exact h
theorem uI:∃ X,s.G=X++s.G:=⟨[],rfl⟩
theorem cA{G:Heap}{x y:Option St}{b:Bool}(h1:Suf G x)(h2:Suf G y):Suf G (cond b x y):=by cases b<;>assumption
theorem jG{G:Heap}{c:Prop}[Decidable c]{x y:Option St}(h1:Suf G x)(h2:Suf G y):Suf G (if c then x else y):=by split<;>assumption
theorem bX{G:Heap}{α:Type}{x:Option α}{F:α->Option St}(h:∀ a,Suf G (F a)):Suf G (x.bind F):=by
 cases x with
 |none=>exact ak
 |some a=>exact h a
theorem uS{G:Heap}{t:St}{site:Nat}{ob:Obj}{F:Nat->St->Option St}(ht:∃ X,t.G=X++G)(h:∀ i u,(∃ X,u.G=X++G)->Suf G (F i u)):Suf G (bj t site ob F):=by refine cA ak (h _ _ ?_);obtain⟨X,hX⟩:=ht;exact⟨_::X,by rw[hX];rfl⟩
theorem yn{G:Heap}{v:SV}{F:Int->Option St}(h:∀ n,Suf G (F n)):Suf G (asI v F):=by
 unfold asI;split
 ·exact h _
 exact ak
theorem ry{G:Heap}{v:SV}{F:Int->Option St}(h:∀ n,Suf G (F n)):Suf G (kn v F):=by
 unfold kn;split
 ·exact h _
 exact ak
theorem DT{G:Heap}{e:Env}{d:Int}{x:Option Operand}{F:Int->Option St}(h:∀ n,Suf G (F n)):Suf G (vo C e d x F):=by
 cases x with
 |none=>exact h _
 |some x=>exact yn h
theorem qD{G:Heap}{sz:Nat}{i:Int}{F:List Atom->Option St}(h:∀ c,Suf G (F c)):∀(k j:Nat) (l:List Atom),Suf G (gO k sz l i j F)
 |0,_,_=>ak
 |k+1,j,l=>by
  unfold gO;refine cA ?_ (qD h k (j+1) _);split
  ·exact h _
  exact ak
theorem ui{G:Heap}{t:Nat}{x:SV}{i:Int}{F:Atom->Option St}(h:∀ n,Suf G (F n)):Suf G (indexAt C s t x i F):=by
 unfold indexAt;split
 ·exact bX λ_=>h _
 ·split
  ·exact bX λ_=>h _
  exact ak
 ·split
  ·exact bX λ_=>h _
  exact ak
 ·split
  ·exact bX λ_=>h _
  exact ak
 ·split
  ·exact bX λ_=>h _
  exact ak
 ·split
  ·exact cA (bX λ_=>h _) ak
  exact ak
 ·exact bX λ_=>h _
 ·split
  ·exact jG (cA (h _) (h _)) ak
  exact ak
 ·split
  ·exact jG (h _) ak
  exact ak
 exact ak
theorem wi{G:Heap}{τ:Ty}{p:Atom}{F:SV->Option St}(h:∀ n,Suf G (F n)):Suf G (loadAt s τ p F):=by
 unfold loadAt;split
 ·split
  ·split
   ·exact h _
   exact ak
  exact ak
 ·split
  ·refine bX λ_=>?_;split
   ·split
    ·exact h _
    exact ak
   exact ak
  ·exact cA (h _) ak
  exact ak
 ·split
  ·refine cA (bX λ_=>?_) ak;split
   ·exact h _
   exact ak
  exact ak
 ·split
  ·exact h _
  exact ak
 ·split
  ·split
   ·exact cA (h _) ak
   exact ak
  exact ak
 exact ak
theorem CO{G:Heap}{hole:Option Nat}{j:Nat}{x:Option St}(h:Suf G x):Suf G (um hole j x):=by
 unfold um;split
 ·exact h
 exact jG h ak
theorem dR:∀(ids:List Nat) (G:Heap),∃ X,aq ids G=X++G
 |[],G=>⟨[],rfl⟩
 |i::r,G=>by obtain⟨X,hX⟩:=dR r ((i,.dead)::G);exact⟨X++[(i,.dead)],by simp[aq,hX]⟩
theorem cN{G G0:Heap}(ids:List Nat)(h:∃ X,G=X++G0):∃ X,aq ids G=X++G0:=by obtain⟨X,hX⟩:=dR ids G;obtain⟨Y,hY⟩:=h;exact⟨X++Y,by rw[hX,hY,Jm]⟩
theorem tW{τ:Ty}{p:Atom}{v:SV}{F:St->Option St}(h:∀ u,(∃ X,u.G=X++s.G)->Suf s.G (F u)):Suf s.G (storeAt s τ p v F):=by
 unfold storeAt;split
 ·split
  ·split
   ·refine cA ?_ ak;split
    ·exact h _ ⟨[_],rfl⟩
    exact ak
   exact ak
  exact ak
 ·split
  ·split
   ·refine bX λ_=>?_;split
    ·refine cA ak (h _ ?_);obtain⟨X,hX⟩:=dR (bJ v) s.G;exact⟨(_,_)::X,by show(_,_)::aq (bJ v) s.G=_;rw[hX];rfl⟩
    exact ak
   exact ak
  ·refine cA ?_ ak;split
   ·rename_i x _;refine CO (h _ ?_);obtain⟨X,hX⟩:=dR x.2 s.G;exact⟨(_,_)::X,by show(_,_)::aq x.2 s.G=_;rw[hX];rfl⟩
   exact ak
  exact ak
 ·split
  ·refine cA ?_ ak;split
   ·refine h _ ?_;obtain⟨X,hX⟩:=dR (bJ v) s.G;exact⟨(_,_)::X,by show(_,_)::aq (bJ v) s.G=_;rw[hX];rfl⟩
   exact ak
  exact ak
 ·split
  ·split
   ·exact cA (h _ ⟨[_],rfl⟩) ak
   exact ak
  exact ak
 exact ak
theorem yT{G:Heap}{v:SV}{F:Int->Option St}(h:∀ n,Suf G (F n)):Suf G (lenOf s v F):=by
 unfold lenOf;split
 ·exact h _
 ·exact h _
 ·exact h _
 ·split
  ·exact h _
  exact ak
 ·split
  ·exact h _
  exact ak
 ·split
  ·exact h _
  exact ak
 ·split
  ·exact h _
  exact ak
 ·split
  ·exact cA (h _) ak
  exact ak
 exact ak
theorem pP{G:Heap}{mx:Bool}{F:Int->Option St}(h:∀ n,Suf G (F n)):∀(l:List SV) (a:Int),Suf G (iL mx a l F)
 |[],a=>h a
 |v::l,a=>ry λb=>pP h l _
theorem uN{G:Heap}{x:SV}{lo:Int}{hi mx:Option Int}{F:SV->Option St}(h:∀ n,Suf G (F n)):Suf G (dJ s x lo hi mx F):=by
 unfold dJ;split
 ·exact bX λ_=>h _
 ·exact bX λ_=>h _
 ·exact jG (h _) ak
 ·exact jG (h _) ak
 ·split
  ·exact bX λ_=>h _
  exact ak
 ·exact bX λ_=>h _
 ·split
  ·exact bX λ_=>jG (h _) ak
  exact ak
 exact ak
theorem jK{k:List Nat}:∀{o:Nat} {τ:Ty} {x:τ.den} {site:Nat} {G:Heap} {q:List Atom×Heap},eF k o τ x site G=some q->∃ X,q.2=X++G
 |o,.prod a b,x,site,G,q,h=>by
  simp only[eF]at h;split at h
  ·rename_i p hp;split at h
   ·rename_i p2 hp2;cases h;obtain⟨X,hX⟩:=jK hp;obtain⟨Y,hY⟩:=jK hp2;exact⟨Y++X,by rw[Jm,<- hX,<- hY]⟩
   cases h
  cases h
 |o,.slice e,x,site,G,q,h=>by
  unfold eF at h;cases hk:A7 (dE k o) 0 with
  |true=>rw[hk]at h;cases h;exact⟨[],rfl⟩
  |false=>
   rw[hk]at h;simp only[UB]at h;cases hh:G.has (ar 64 G (100000*(o+1)+site))with
   |true=>rw[hh]at h;cases h
   |false=>rw[hh]at h;cases h;exact⟨[_],rfl⟩
 |_,.unit,_,_,_,_,h=>by cases h;exact⟨[],rfl⟩
 |_,.int _,_,_,_,_,h=>by cases h;exact⟨[],rfl⟩
 |_,.bool,_,_,_,_,h=>by cases h;exact⟨[],rfl⟩
 |_,.str,_,_,_,_,h=>by cases h;exact⟨[],rfl⟩
 |_,.arr _ _,_,_,_,_,h=>by cases h
 |_,.ptr _,_,_,_,_,h=>by cases h;exact⟨[],rfl⟩
 |_,.clo _ _,_,_,_,_,h=>by cases h
theorem gB{d:Bool}:∀{τ:Ty} {x:τ.den} {site:Nat} {G:Heap} {p:List Atom×Heap},bd d τ x site G=some p->∃ X,p.2=X++G
 |.prod a b,x,site,G,p,h=>by
  simp only[bd]at h;split at h
  ·rename_i p1 h1;split at h
   ·rename_i p2 h2;cases h;obtain⟨X,hX⟩:=gB h1;obtain⟨Y,hY⟩:=gB h2;exact⟨Y++X,by simp[hX,hY]⟩
   cases h
  cases h
 |.unit,_,_,_,p,h=>by simp only[bd]at h;cases h;exact⟨[],rfl⟩
 |.int _,_,_,_,p,h=>by simp only[bd]at h;cases h;exact⟨[],rfl⟩
 |.bool,_,_,_,p,h=>by simp only[bd]at h;cases h;exact⟨[],rfl⟩
 |.str,_,_,_,p,h=>by simp only[bd]at h;cases h;exact⟨[],rfl⟩
 |.slice e,x,site,G,p,h=>by
  simp only[bd]at h;cases hb:G.has (ar 64 G site)with
  |true=>rw[hb]at h;cases h
  |false=>rw[hb]at h;cases h;exact⟨[_],rfl⟩
 |.arr _ _,_,_,_,_,h=>by simp[bd]at h
 |.ptr T,x,site,G,p,h=>by
  simp only[bd]at h;split at h
  ·rename_i q hq;obtain⟨X,hX⟩:=jK hq;cases hb:q.2.has (ar 64 q.2 site)with
   |true=>rw[hb]at h;cases h
   |false=>rw[hb]at h;cases h;exact⟨(ar 64 q.2 site,Obj.box q.1)::X,by show(ar 64 q.2 site,Obj.box q.1)::q.2=_;rw[KD,<- hX]⟩
  cases h
 |.clo g e,_,_,_,p,h=>by
  cases e with
  |unit=>simp only[bd]at h;cases h;exact⟨[],rfl⟩
  |_=>simp[bd]at h
theorem lQ{d:Bool}:∀{outs:List (Bool×Ty)} {x:(ac (outs.map (·.2))).den} {site:Nat} {G:Heap} {q:List (Bool×List Atom)×Heap},dY d outs x site G=some q->∃ X,q.2=X++G
 |[],_,_,_,q,h=>by simp only[dY]at h;cases h;exact⟨[],rfl⟩
 |p::r,x,site,G,q,h=>by
  unfold dY at h;split at h
  ·rename_i c hc;split at h
   ·rename_i q2 h2;cases h;obtain⟨Y,hY⟩:=lQ h2;have h1:∃ X,c.2=X++G:=by
     cases hp:p.1 with
     |true=>rw[hp]at hc;exact gB hc
     |false=>rw[hp]at hc;cases hc;exact⟨[],rfl⟩
    obtain⟨X,hX⟩:=h1;exact⟨Y++X,by simp[hX,hY]⟩
   cases h
  cases h
theorem cD:∀{ins:List (Mode×Ty)} {vs:List SV} {x:(ac (aN ins)).den} {G G0 G':Heap},(∃ X,G=X++G0)->am ins vs x G=some G'->∃ X,G'=X++G0
 |[],[],_,G,G0,G',hG,h=>by simp only[am]at h;cases h;exact hG
 |[],_::_,_,_,_,_,_,h=>by simp[am]at h
 |(.rd,_)::r,[],_,_,_,_,_,h=>by simp[am]at h
 |(.upd,_)::r,[],_,_,_,_,_,h=>by simp[am]at h
 |(.take,_)::r,[],_,_,_,_,_,h=>by simp[am]at h
 |(.box _,τ)::r,[],_,_,_,_,_,h=>by cases τ<;>simp[am]at h
 |(.box _,τ)::r,v::vs,x,G,G0,G',hG,h=>by
  cases τ with
  |ptr T=>
   simp only[am]at h;have hc:∀ k (o:Obj),∃ X,((k,o)::G)=X++G0:=λk o=>by obtain⟨X,hX⟩:=hG;exact⟨_::X,by rw[hX];rfl⟩
   split at h
   ·exact cD (ins:=r) (hc _ _) h
   cases h
  |_=>simp[am]at h
 |(.rd,_)::r,_::vs,x,G,G0,G',hG,h=>by simp only[am]at h;exact cD (ins:=r) hG h
 |(.take,_)::r,v::vs,x,G,G0,G',hG,h=>by
  simp only[am]at h;have hc:∀ k,∃ X,((k,Obj.dead)::G)=X++G0:=λk=>by obtain⟨X,hX⟩:=hG;exact⟨_::X,by rw[hX];rfl⟩
  split at h
  ·exact cD (ins:=r) hG h
  ·exact cD (ins:=r) (hc _) h
  ·exact cD (ins:=r) (hc _) h
  cases h
 |(.upd,.slice e)::r,v::vs,x,G,G0,G',hG,h=>by
  simp only[am]at h;have hc:∀ k (o:Obj),∃ X,((k,o)::G)=X++G0:=λk o=>by obtain⟨X,hX⟩:=hG;exact⟨_::X,by rw[hX];rfl⟩
  split at h
  ·exact cD (ins:=r) hG h
  ·exact cD (ins:=r) (hc _ _) h
  cases h
 |(.upd,.int _)::_,_::_,_,_,_,_,_,h=>by simp[am]at h
 |(.upd,.bool)::_,_::_,_,_,_,_,_,h=>by simp[am]at h
 |(.upd,.str)::_,_::_,_,_,_,_,_,h=>by simp[am]at h
 |(.upd,.prod _ _)::_,_::_,_,_,_,_,_,h=>by simp[am]at h
 |(.upd,.unit)::_,_::_,_,_,_,_,_,h=>by simp[am]at h
 |(.upd,.arr _ _)::_,_::_,_,_,_,_,_,h=>by simp[am]at h
 |(.upd,.ptr _)::_,_::_,_,_,_,_,_,h=>by simp[am]at h
 |(.upd,.clo _ _)::_,_::_,_,_,_,_,_,h=>by simp[am]at h
theorem oN{site:Nat}{G:Heap}(v:SV):∃ X,(bD site G v).2=X++G:=by
 unfold bD;split
 ·split
  ·rename_i ver' σ l' hg;cases hc:(A7 _ ver' && !G.has (ar 64 G site))with
   |false=>exact⟨[],rfl⟩
   |true=>exact⟨[_,_],rfl⟩
  exact⟨[],rfl⟩
 exact⟨[],rfl⟩
theorem ep{site:Nat}:∀(ins:List (Mode×Ty)) (vs:List SV) (G:Heap),∃ X,(ct site ins vs G).2=X++G
 |[],vs,G=>⟨[],by cases vs<;>rfl⟩
 |(md,_)::_,[],G=>⟨[],by cases md<;>rfl⟩
 |(.rd,_)::r,v::vs,G=>ep r vs G
 |(.upd,_)::r,v::vs,G=>ep r vs G
 |(.box _,_)::r,v::vs,G=>ep r vs G
 |(.take,_)::r,v::vs,G=>by obtain⟨X,hX⟩:=oN (site:=site) (G:=G) v;obtain⟨Y,hY⟩:=ep (site:=site) r vs (bD site G v).2;exact⟨Y++X,by show(ct site r vs (bD site G v).2).2=_;rw[hY,hX,Jm]⟩
theorem ei:∀{ins:List (Mode×Ty)} {vs:List SV} {x:(ac (aN ins)).den} {site:Nat} {G G0 G':Heap},(∃ X,G=X++G0)->bH ins vs x site G=some G'->∃ X,G'=X++G0
 |[],vs,_,_,G,G0,G',hG,h=>by
  have h:some G=some G':=by cases vs<;>exact h
  cases h;exact hG
 |(md,τ)::r,[],_,_,_,_,_,_,h=>by cases md<;>first|(simp[bH]at h;done)|(cases τ<;>simp[bH]at h)
 |(.rd,_)::r,_::vs,x,site,G,G0,G',hG,h=>ei (ins:=r) (vs:=vs) (x:=x) hG h
 |(.take,_)::r,_::vs,x,site,G,G0,G',hG,h=>ei (ins:=r) (vs:=vs) (x:=x) hG h
 |(.upd,_)::r,_::vs,x,site,G,G0,G',hG,h=>ei (ins:=r) (vs:=vs) (x:=x.2) hG h
 |(.box k,τ)::r,v::vs,x,site,G,G0,G',hG,h=>by
  cases τ with
  |ptr T=>
   simp only[bH]at h;split at h
   ·split at h
    ·rename_i p hp;obtain⟨X,hX⟩:=hG;obtain⟨Y,hY⟩:=jK hp;exact ei (ins:=r) (vs:=vs) ⟨_::(Y++X),by rw[hY,hX,KD,Jm]⟩ h
    cases h
   cases h
  |_=>simp[bH]at h
theorem tI{G0:Heap}{site f:Nat}{vs:List SV}{F:SV->St->Option St}(hs:∃ X,s.G=X++G0)(h:∀ v u,(∃ X,u.G=X++G0)->Suf G0 (F v u)):Suf G0 (jH C s site f vs F):=by
 unfold jH;split
 ·split
  ·refine bX λ_=>cA ?_ ak;split
   ·rename_i G' hG';have h1:=cD hs hG';split
    ·rename_i q hq;obtain⟨X,hX⟩:=lQ hq;split
     ·rename_i G2 hG2;refine h _ _ ?_;have h2:∀ b l l',∃ Y,cond b (aq l' G') (aq l (aq l' G'))=Y++G0:=λb l l'=>by
       cases b with
       |true=>exact cN l' h1
       |false=>exact cN l (cN l' h1)
      obtain⟨Y,hY⟩:=h2 _ _ _;exact ei ⟨X++Y,by rw[hX,hY,Jm]⟩ hG2
     exact ak
    exact ak
   exact ak
  exact ak
 exact ak
theorem vI{site f:Nat}{vs:List SV}{F:SV->St->Option St}(h:∀ v u,(∃ X,u.G=X++s.G)->Suf s.G (F v u)):Suf s.G (eJ C s site f vs F):=by
 unfold eJ;split
 ·exact cA (bX λp=>h _ _ ⟨p.2,rfl⟩) ak
 split
 ·rename_i c _;exact tI (ep c.ins vs s.G) h
 exact ak
theorem BF{G:Heap}{x y:Option St}(h1:Suf G x):Suf G (kF x y):=by
 unfold kF;split
 ·exact h1
 exact ak
theorem nZ(o:Oper):Suf s.G (aZ C o s some):=by
 simp only[au];unfold aK;dsimp only;have P0:∀(v:SV),Suf s.G (some (ag o.dst v s)):=λv=>lH uI;have N0:∀(t:St) (ob:Obj) (v:Nat->SV),(∃ X,t.G=X++s.G)->Suf s.G (bj t (o.dst.getD 0) ob λi s2=>some (ag o.dst (v i) s2)):=λt ob v ht=>uS ht λi u hu=>lH hu;split;all_goals first|exact P0 _|exact ak|skip
 all_goals repeat' first
  |exact ak
  |exact P0 _
  |exact N0 _ _ _ uI
  |(refine N0 _ _ _ ?_;exact dR _ _)
  |(refine N0 _ _ _ ?_;exact cN _ (oN _))
  |refine cA ?_ ?_
  |refine jG ?_ ?_
  |refine bX λ_=>?_
  |exact BF (P0 _)
  |exact lH ⟨[_],rfl⟩
  |exact lH (s:=⟨_,aq _ s.G⟩) (dR _ _)
  |exact wi λ_=>P0 _
  |exact tW λu hu=>lH hu
  |exact yT λ_=>P0 _
  |exact pP (λ_=>P0 _) _ _
  |exact uN λ_=>P0 _
  |exact ui λ_=>P0 _
  |exact qD (λ_=>P0 _) _ _ _
  |exact vI λv u hu=>lH hu
  |refine yn λ_=>?_
  |refine ry λ_=>?_
  |refine DT λ_=>?_
  |split
end
end Go.Vm

/-
 What is run in a region whose operations stand in no fixed order: told step by step.
-/
namespace Go.Vm
section
variable {C:Ctx}{s:St}{R:Type}{K:St->Option R}{o:Oper}
theorem rG(h1:iX C o s.env=true):aZ C o s K=(aZ C o s some).bind K:=by
 by_cases hb:∀ op xt x y yt,o.op≠.binOp op xt x y yt
 ·exact lr hb
 simp only[Classical.not_forall,Classical.not_not]at hb;obtain⟨op,xt,x,y,yt,ho⟩:=hb;simp only[iX,ho]at h1;simp only[au,aK,ho];split
 ·refine aE (aE rfl rfl) (aE ?_ rfl);split
  ·exact aE rfl rfl
  ·exact aE rfl rfl
  split
  ·rfl
  rfl
 ·split
  ·exact bg λ_=>rfl
  split
  ·rfl
  rfl
 ·refine aE ?_ rfl;split
  ·rfl
  ·rfl
  rfl
 ·rename_i hx hy;have hc:lF y=false:=by rw[hx,hy]at h1;simpa using h1
  rw[hc];rfl
 ·refine aE ?_ rfl;split
  ·rfl
  ·rfl
  rfl
 ·split
  ·split
   ·split
    ·rfl
    ·rfl
    rfl
   rfl
  rfl
 split
 ·refine aE ?_ rfl;split
  ·split
   ·split
    ·rfl
    ·rfl
    rfl
   rfl
  rfl
 rfl
theorem l9(hf:gc o=true){e:Env}{G:Heap}{s':St}(h:aZ C o ⟨e,G⟩ some=some s'):s'.G=G/\∀ G',aZ C o ⟨e,G'⟩ some=some ⟨s'.env,G'⟩:=by
 have put:∀(v:SV) (G:Heap),(ag o.dst v ⟨e,G⟩).G=G/\∀ G',ag o.dst v ⟨e,G'⟩=⟨(ag o.dst v ⟨e,G⟩).env,G'⟩:=λv G=>by cases o.dst<;>exact⟨rfl,λ_=>rfl⟩
 have fin:∀(v:SV),some (ag o.dst v ⟨e,G⟩)=some s'->s'.G=G/\∀ G',some (ag o.dst v ⟨e,G'⟩)=some (⟨s'.env,G'⟩:St):=λv hv=>by cases hv;exact⟨(put v G).1,λG'=>by rw[(put v G).2]⟩
 unfold gc at hf;split at hf
 ·rename_i x ho;simp only[au,aK,ho]at h ⊢;exact fin _ h
 ·rename_i x ho;simp only[au,aK,ho]at h ⊢;exact fin _ h
 ·rename_i c x y ho;simp only[au,aK,ho]at h ⊢;split at h
  ·rename_i t ht;cases t with
   |true=>exact fin _ h
   |false=>exact fin _ h
  cases h
 ·rename_i x i ho;simp only[au,aK,ho]at h ⊢;split at h
  ·rename_i l hl;split at h
   ·rename_i c hc;have:=fin _ h;refine⟨this.1,λG'=>?_⟩;exact this.2 G'
   ·rename_i a ha;have:=fin _ h;refine⟨this.1,λG'=>?_⟩;exact this.2 G'
   cases h
  cases h
 ·rename_i op t x ho;simp only[au,aK,ho]at h ⊢;split at h
  ·rename_i b hx;have:=fin _ h;refine⟨this.1,λG'=>?_⟩;exact this.2 G'
  ·rename_i k n hx;have:=fin _ h;refine⟨this.1,λG'=>?_⟩;exact this.2 G'
  cases h
 ·rename_i t parts ho;simp only[au,aK,ho]at h ⊢;cases ht:C.tab.get t with
  |none=>rw[ht]at h;cases h
  |some τ=>
   rw[ht]at h;simp only at h ⊢;cases ha:τ.isAgg with
   |false=>rw[ha]at h;cases h
   |true=>
    rw[ha,UA]at h;cases hc:fF τ (parts.toList.map λp=>(p.1,ah C e p.2)) (zeroCells τ)with
    |none=>rw[hc]at h;cases h
    |some c=>rw[hc]at h;simp only[UA];exact fin _ h
 ·rename_i t x f ho;simp only[au,aK,ho]at h ⊢;cases hx:ah C e x with
  |tup l=>rw[hx]at h;cases h
  |agg l=>
   rw[hx]at h;simp only at h ⊢;cases ht:C.tab.get t with
   |none=>rw[ht]at h;cases h
   |some τ=>
    rw[ht]at h;simp only at h ⊢;cases hq:τ.field f with
    |none=>rw[hq]at h;cases h
    |some q=>
     obtain⟨o',t'⟩:=q;rw[hq]at h;simp only at h ⊢;cases hc:kl t'.size (l.drop o')with
     |none=>rw[hc]at h;cases h
     |some c=>rw[hc]at h;exact fin _ h
  |av at'=>
   rw[hx]at h;cases at' with
   |val τ y=>
    simp only at h ⊢;cases ht:C.tab.get t with
    |none=>rw[ht]at h;cases h
    |some τ'=>
     rw[ht]at h;simp only at h ⊢;cases hd:decide (τ=τ')with
     |false=>rw[hd]at h;cases h
     |true=>
      rw[hd,UA]at h;cases hq:bW τ y f with
      |none=>rw[hq]at h;cases h
      |some q=>rw[hq]at h;simp only[UA];exact fin _ h
   |_=>cases h
 cases hf
theorem oS {e:Env}(hl:ke C o e=true){G:Heap}{s':St}(h:aZ C o ⟨e,G⟩ some=some s') :
  s'.G=G/\∀ G':Heap,(∀ id l,C.vr id=false->G.get id=some (.box l)->G'.get id=some (.box l))->aZ C o ⟨e,G'⟩ some=some ⟨s'.env,G'⟩:=by
 have put:∀(v:SV) (G:Heap),(ag o.dst v ⟨e,G⟩).G=G/\∀ G',ag o.dst v ⟨e,G'⟩=⟨(ag o.dst v ⟨e,G⟩).env,G'⟩:=λv G=>by cases o.dst<;>exact⟨rfl,λ_=>rfl⟩
 have fin:∀(v:SV),some (ag o.dst v ⟨e,G⟩)=some s'->s'.G=G/\∀ G',some (ag o.dst v ⟨e,G'⟩)=some (⟨s'.env,G'⟩:St):=λv hv=>by cases hv;exact⟨(put v G).1,λG'=>by rw[(put v G).2]⟩
 unfold ke at hl;split at hl
 ·rename_i t x f ho;split at hl
  ·rename_i id off hx;simp only[au,aK,ho,hx]at h ⊢;split at h
   ·rename_i l τ hg ht;split at h
    ·rename_i o' t' hf;cases hb:JK 1 t'.size with
     |false=>rw[hb]at h;cases h
     |true=>rw[hb,UA]at h;have:=fin _ h;refine⟨this.1,λG' hG'=>?_⟩;simp only[hG' id l (by simpa using hl) hg,ht,hf,hb,UA];exact this.2 G'
    cases h
   cases h
  cases hl
 ·rename_i t x ho;split at hl
  ·rename_i id off hx;simp only[au,aK,ho,hx]at h ⊢;split at h
   ·rename_i τ p ht hp;cases hp;simp only[loadAt]at h ⊢;split at h
    ·rename_i l hg;split at h
     ·rename_i c hc;have:=fin _ h;refine⟨this.1,λG' hG'=>?_⟩;simp only[ht,hG' id l (by simpa using hl) hg,hc];exact this.2 G'
     cases h
    cases h
   cases h
  ·rename_i σ y hx;simp only[au,aK,ho,hx]at h ⊢;split at h
   ·rename_i τ p ht hp;cases hp;have h:(match bC τ σ y with
     |some z=>some (ag o.dst (.av (.val τ z)) ⟨e,G⟩)
     |none=>none)=some s':=h
    split at h
    ·rename_i z hz;have:=fin _ h;refine⟨this.1,λG' _=>?_⟩;simp only[ht,loadAt,hz];exact this.2 G'
    cases h
   cases h
  cases hl
 ·rename_i t x ix ho;split at hl
  ·rename_i σ l hx;simp only[au,aK,ho,hx]at h ⊢;unfold asI at h ⊢;split at h
   ·rename_i n hn;simp only[hn];cases hti:du C t G (.av (.val (.slice σ) l))with
    |false=>simp only[hti,UB]at h;cases h
    |true=>
     simp only[hti,UA,indexAt]at h;simp only[indexAt];cases hg:aL l n with
     |none=>rw[hg]at h;cases h
     |some y=>
      rw[hg]at h;have:=fin _ h;refine⟨this.1,λG' _=>?_⟩;have e1:du C t G' (.av (.val (.slice σ) l))=true:=by
       rw[<- hti];unfold du;cases C.tab.get t with
       |none=>rfl
       |some τ=>cases τ<;>rfl
      rw[e1,UA];exact this.2 G'
   cases h
  cases hl
 ·rename_i x ho;split at hl
  ·rename_i id off hx;simp only[au,aK,ho,hx]at h ⊢;split at h
   ·rename_i l hg;have:=fin _ h;refine⟨this.1,λG' hG'=>?_⟩;simp only[hG' id l (by simpa using hl) hg];exact this.2 G'
   cases h
  cases hl
 ·rename_i op t x y t' ho;split at hl
  ·rename_i k a k' b hx hy;simp only[au,aK,ho,hx,hy]at h ⊢;cases hsh:ln op with
   |true=>
    rw[hsh,UA]at h;simp only[UA];cases hz:ltI b 0 with
    |true=>rw[hz]at h;cases h
    |false=>rw[hz]at h;have:=fin _ h;exact⟨this.1,λG' _=>this.2 G'⟩
   |false=>
   rw[hsh,UB]at h;simp only[UB];cases hk:decide (k=k')with
   |false=>rw[hk]at h;cases h
   |true=>
    rw[hk,UA]at h;simp only[UA];split at h
    ·cases hz:eqI b 0 with
     |true=>rw[hz]at h;cases h
     |false=>rw[hz]at h;have:=fin _ h;exact⟨this.1,λG' _=>this.2 G'⟩
    ·cases hz:eqI b 0 with
     |true=>rw[hz]at h;cases h
     |false=>rw[hz]at h;have:=fin _ h;exact⟨this.1,λG' _=>this.2 G'⟩
    split at h
    ·have:=fin _ h;exact⟨this.1,λG' _=>this.2 G'⟩
    cases h
  cases hl
 cases hl
theorem sY{G G':Heap}(h:iA C G G'=true){X:Heap}(hX:G'=X++G):∀ id l,C.vr id=false->G.get id=some (.box l)->G'.get id=some (.box l):=by
 intro id l hv hl;subst hX;unfold iA at h;rw[List.length_append,Nat.add_sub_cancel,KF,B5]at h;rw[Heap.get_append];cases hx:X.get id with
 |none=>exact hl
 |some ob=>have:=h _ (Heap.mem_of_get hx);rw[hl]at this;simp only at this;rw[hv]at this;cases this
end
section
variable {C:Ctx}{R:Type}{res:R}{all:List Oper}
def lR(all:List Oper)(o:Oper)(e:Env):Bool->Prop
 |true=>o.guard=none\/∃ j want d,o.guard=some (j,want)/\eY all j=some d/\e.get d=.av (.val .bool want)
 |false=>∃ j want d,o.guard=some (j,want)/\eY all j=some d/\(e.get d=.av .undef\/e.get d=.av (.val .bool (!want)))
theorem pH{o:Oper}{e e':Env}(h:∀ t,e'.get t=e.get t):dD all o e'=dD all o e:=by unfold dD;exact List.map_congr_left λt _=>by rw[h t]
theorem Dt{o:Oper}{e:Env}:∀ t,(dD all o e).get t=e.get t/\t∈looks all o\/(dD all o e).get t=.av .u:=by
 intro t;unfold dD;induction looks all o with
 |nil=>exact .inr rfl
 |cons a l ih=>
  simp only[JA,Env.get_nil0,Env.get_pair];cases h:A7 a t with
  |true=>left;rw[A3 h];exact⟨rfl,by simp⟩
  |false=>
   rcases ih with⟨ih,hm⟩|ih
   ·left;exact⟨ih,by simp[hm]⟩
   right;exact ih
theorem o5{d:Nat}{b:Bool}{e:Env}(h:e.get d=.av (.val .bool b))(t:Nat):Env.get ((d,.av (.val .bool b))::e) t=e.get t:=by
 rw[Env.get_cons];split
 ·rename_i hh;subst hh;exact h.symm
 rfl
theorem p9 {o:Oper}{e:Env}{run skip:Env->Option R}
  (h:(match o.guard with
   |none=>run e
   |some (j,want)=>match eY all j with
    |none=>none
    |some d=>match e.get d with
     |.av (.val .bool b)=>
      cond b
       (cond want (run ((d,.av (.val .bool true))::e)) (skip ((d,.av (.val .bool true))::e)))
       (cond want (skip ((d,.av (.val .bool false))::e)) (run ((d,.av (.val .bool false))::e)))
     |.av .undef=>skip e
     |_=>none)=some res) :
  (lR all o e true/\∃ e',(∀ t,e'.get t=e.get t)/\run e'=some res)\/(lR all o e false/\∃ e',(∀ t,e'.get t=e.get t)/\skip e'=some res):=by
 split at h
 ·rename_i hg;exact .inl ⟨.inl hg,e,λ_=>rfl,h⟩
 rename_i j want hg;split at h
 ·cases h
 rename_i d hd;split at h
 ·rename_i b hb;cases b with
  |true=>
   cases want with
   |true=>exact .inl ⟨.inr ⟨j,true,d,hg,hd,hb⟩,_,o5 hb,h⟩
   |false=>exact .inr ⟨⟨j,false,d,hg,hd,.inr hb⟩,_,o5 hb,h⟩
  |false=>
   cases want with
   |true=>exact .inr ⟨⟨j,true,d,hg,hd,.inr hb⟩,_,o5 hb,h⟩
   |false=>exact .inl ⟨.inr ⟨j,false,d,hg,hd,hb⟩,_,o5 hb,h⟩
 ·rename_i hb;exact .inr ⟨⟨j,want,d,hg,hd,.inl hb⟩,e,λ_=>rfl,h⟩
 cases h
theorem rf(dst:Option Nat)(v:SV)(e:Env)(t:Nat):(wu dst v e).get t=if dst=some t then v else e.get t:=by
 cases dst with
 |none=>simp[wu]
 |some d=>simp[wu,Env.get_cons]
def qX(C:Ctx)(all:List Oper)(ms:List Nat)(nd:Nat->Bool)(B:Heap)(V:Nat->SV)(X:Nat->Heap)(E:Nat->Env)(L:Nat->List (Nat×Heap))(j:Nat)(o:Oper):Prop:=
 (∀ t,(E (j+1)).get t=if o.dst=some t then V j else(E j).get t) /\
 ((lR all o (E j) true/\L (j+1)=(j,X j) :: L j/\((dD all o (E j)).all fun p=>iw (bE (ms.getD j 0) (L j) B) p.2)=true /\
   ((L j).all λp=>!(bit (ms.getD j 0) p.1)||gh (bE (ms.getD j 0) (L j) B) p.2)=true/\(nd j=true->ke C o (dD all o (E j))=true) /\
   ∃ s',aZ C o ⟨dD all o (E j),bE (ms.getD j 0) (L j) B⟩ some=some s'/\V j=s'.env.get (o.dst.getD 0)/\s'.G=X j++bE (ms.getD j 0) (L j) B) \/
  (lR all o (E j) false/\L (j+1)=L j/\V j=.av .undef/\X j=[]))
theorem eH{α:Type}(f:Nat->α){i j:Nat}(a:α)(h:i<j):(λj=>if j=i then a else f j) j=f j:=by
 have:j≠i:=by omega
 simp[this]
theorem pf {ms:List Nat}{nd:Nat->Bool}{B:Heap}{K:Env->List (Nat×Heap)->Option R}:∀(r:List Oper) (i:Nat) (e:Env) (N:List (Nat×Heap)),(∀ j,j < r.length->r[j]?=all[i+j]?) ->
  tO C all ms nd i r e N B K=some res ->
  ∃(V:Nat->SV) (X:Nat->Heap) (E:Nat->Env) (L:Nat->List (Nat×Heap)),E i=e/\L i=N/\K (E (i+r.length)) (L (i+r.length))=some res /\
   ∀ j o,i<=j->j<i+r.length->all[j]?=some o->qX C all ms nd B V X E L j o
 |[],i,e,N,_,h=>⟨λ_=>.av .u,λ_=>[],λ_=>e,λ_=>N,rfl,rfl,h,λj o h1 h2=>by simp at h2;omega⟩
 |o::r,i,e,N,hl,h=>by
  have hi:all[i]?=some o:=by simpa using(hl 0 (by simp)).symm
  have hl':∀ j,j<r.length->r[j]?=all[i+1+j]?:=λj hj=>by have:=hl (j+1) (by simp;omega);simpa[JX,KX 1 j]using this
  unfold tO at h;have key:∀(v:SV) (x:Heap) (e1:Env) (N1:List (Nat×Heap)),tO C all ms nd (i+1) r e1 N1 B K=some res ->
    (∀(V:Nat->SV) (X:Nat->Heap) (E:Nat->Env) (L:Nat->List (Nat×Heap)),V i=v->X i=x->E i=e->E (i+1)=e1->L i=N->L (i+1)=N1->qX C all ms nd B V X E L i o) ->
    ∃(V:Nat->SV) (X:Nat->Heap) (E:Nat->Env) (L:Nat->List (Nat×Heap)),E i=e/\L i=N/\K (E (i+(o::r).length)) (L (i+(o::r).length))=some res /\
     ∀ j o',i<=j->j<i+(o::r).length->all[j]?=some o'->qX C all ms nd B V X E L j o':=by
   intro v x e1 N1 h1 h2;obtain⟨V,X,E,L,q1,q2,q3,q4⟩:=pf r (i+1) e1 N1 hl' h1;refine⟨λj=>if j=i then v else V j,λj=>if j=i then x else X j,λj=>if j=i then e else E j,λj=>if j=i then N else L j,by simp,by simp,?_,?_⟩
   ·rw[B6,show i+(r.length+1)=i+1+r.length by omega,eH E e (by omega:i<i+1+r.length),eH L N (by omega:i<i+1+r.length)];exact q3
   intro j o' hj1 hj2 ho';rcases J1 hj1 with rfl|hj1
   ·rw[hi]at ho';cases ho'
    exact h2 _ _ _ _ (by simp) (by simp) (by simp) (by simp[q1]) (by simp) (by simp[q2])
   have:=q4 j o' hj1 (by simp at hj2;omega) ho';unfold qX at this ⊢;rw[eH V v hj1,eH X x hj1,eH E e hj1,eH E e (by omega:i<j+1),eH L N hj1,eH L N (by omega:i<j+1)];exact this
  rcases p9 (all:=all) (o:=o) (e:=e) (run:=λe'=>cond (iX C o (dD all o e')&&((dD all o e').all λp=>iw (bE (ms.getD i 0) N B) p.2)&&(N.all λp=>!(bit (ms.getD i 0) p.1)||gh (bE (ms.getD i 0) N B) p.2)&&(!nd i||ke C o (dD all o e')))
   (aZ C o { env:=dD all o e',G:=bE (ms.getD i 0) N B } λs'=>
    tO C all ms nd (i+1) r (wu o.dst (s'.env.get (o.dst.getD 0)) e') ((i,s'.G.take (s'.G.length-(bE (ms.getD i 0) N B).length))::N) B K) none)
   (skip:=λe'=>tO C all ms nd (i+1) r (wu o.dst (.av .undef) e') N B K) h with⟨hg,e',he',h⟩|⟨hg,e',he',h⟩
  ·rw[pH he']at h;cases hc:(iX C o (dD all o e)&&((dD all o e).all λp=>iw (bE (ms.getD i 0) N B) p.2)&&(N.all λp=>!(bit (ms.getD i 0) p.1)||gh (bE (ms.getD i 0) N B) p.2)&&(!nd i||ke C o (dD all o e)))with
   |false=>rw[hc]at h;cases h
   |true=>
    rw[hc,UA]at h;simp only[np]at hc;obtain⟨⟨⟨c1,c2⟩,c3⟩,c4⟩:=hc;have c4:nd i=true->ke C o (dD all o e)=true:=λhn=>by rw[hn]at c4;simpa using c4
    rw[rG (by exact c1)]at h;obtain⟨s',hs',h⟩:=A6.1 h;obtain⟨X1,hX1⟩:=nZ o s' hs';have hX1:s'.G=X1++bE (ms.getD i 0) N B:=hX1;have ht:s'.G.take (s'.G.length-(bE (ms.getD i 0) N B).length)=X1:=by rw[hX1];simp
    rw[ht]at h;refine key (s'.env.get (o.dst.getD 0)) X1 _ _ h ?_;intro V X E L a1 a2 a3 a4 a5 a6;refine⟨λt=>?_,.inl ⟨by rw[a3];exact hg,by rw[a6,a2,a5],by rw[a3,a5];exact c2,by rw[a5];exact c3,by rw[a3];exact c4,s',by rw[a3,a5];exact hs',a1,by rw[a2,a5];exact hX1⟩⟩;rw[a4,a1,a3,rf,he' t]
  refine key (.av .undef) [] _ _ h ?_;intro V X E L a1 a2 a3 a4 a5 a6;refine⟨λt=>?_,.inr ⟨by rw[a3];exact hg,by rw[a6,a5],a1,a2⟩⟩;rw[a4,a1,a3,rf,he' t]
def rI(C:Ctx)(all:List Oper)(kd:Nat->Bool)(V:Nat->SV)(E:Nat->Env)(H:Nat->Heap)(j:Nat)(o:Oper):Prop:=
 (∀ t,(E (j+1)).get t=if o.dst=some t then V j else(E j).get t) /\
 ((lR all o (E j) true/\∃ s',aZ C o ⟨dD all o (E j),H j⟩ some=some s'/\V j=s'.env.get (o.dst.getD 0)/\s'.G=H (j+1)/\(kd j=true->∀ id l,C.vr id=false->(H j).get id=some (.box l)->(H (j+1)).get id=some (.box l))) \/
  (lR all o (E j) false/\V j=.av .undef/\H (j+1)=H j))
theorem t8(dst:Option Nat)(v:SV)(e:Env)(G:Heap)(t:Nat):(ag dst v ⟨e,G⟩).env.get t=if dst=some t then v else e.get t:=by
 cases dst with
 |none=>simp[ag]
 |some d=>simp[ag,Env.get_cons]
theorem qp {kd:Nat->Bool}{K:Env->Heap->Option R}:∀(r:List Oper) (i:Nat) (e:Env) (G:Heap),(∀ j,j < r.length->r[j]?=all[i+j]?)->mE C all kd i r e G K=some res ->
  ∃(V:Nat->SV) (E:Nat->Env) (H:Nat->Heap),E i=e/\H i=G/\K (E (i+r.length)) (H (i+r.length))=some res /\
   ∀ j o,i<=j->j<i+r.length->all[j]?=some o->rI C all kd V E H j o
 |[],i,e,G,_,h=>⟨λ_=>.av .u,λ_=>e,λ_=>G,rfl,rfl,h,λj o h1 h2=>by simp at h2;omega⟩
 |o::r,i,e,G,hl,h=>by
  have hi:all[i]?=some o:=by simpa using(hl 0 (by simp)).symm
  have hl':∀ j,j<r.length->r[j]?=all[i+1+j]?:=λj hj=>by have:=hl (j+1) (by simp;omega);simpa[JX,KX 1 j]using this
  unfold mE at h;have key:∀(v:SV) (e1:Env) (G1:Heap),mE C all kd (i+1) r e1 G1 K=some res ->
    (∀(V:Nat->SV) (E:Nat->Env) (H:Nat->Heap),V i=v->E i=e->E (i+1)=e1->H i=G->H (i+1)=G1->rI C all kd V E H i o) ->
    ∃(V:Nat->SV) (E:Nat->Env) (H:Nat->Heap),E i=e/\H i=G/\K (E (i+(o::r).length)) (H (i+(o::r).length))=some res /\
     ∀ j o',i<=j->j<i+(o::r).length->all[j]?=some o'->rI C all kd V E H j o':=by
   intro v e1 G1 h1 h2;obtain⟨V,E,H,q1,q2,q3,q4⟩:=qp r (i+1) e1 G1 hl' h1;refine⟨λj=>if j=i then v else V j,λj=>if j=i then e else E j,λj=>if j=i then G else H j,by simp,by simp,?_,?_⟩
   ·rw[B6,show i+(r.length+1)=i+1+r.length by omega,eH E e (by omega:i<i+1+r.length),eH H G (by omega:i<i+1+r.length)];exact q3
   intro j o' hj1 hj2 ho';rcases J1 hj1 with rfl|hj1
   ·rw[hi]at ho';cases ho'
    exact h2 _ _ _ (by simp) (by simp) (by simp[q1]) (by simp) (by simp[q2])
   have:=q4 j o' hj1 (by simp at hj2;omega) ho';unfold rI at this ⊢;rw[eH V v hj1,eH E e hj1,eH E e (by omega:i<j+1),eH H G hj1,eH H G (by omega:i<j+1)];exact this
  rcases p9 (all:=all) (o:=o) (e:=e) (run:=λe'=>cond (iX C o (dD all o e')) (aZ C o { env:=dD all o e',G:=G } λs'=>
   cond (!kd i||iA C G s'.G) (mE C all kd (i+1) r (ag o.dst (s'.env.get (o.dst.getD 0)) { env:=e',G:=[] }).env s'.G K) none) none)
   (skip:=λe'=>mE C all kd (i+1) r (ag o.dst (.av .undef) { env:=e',G:=[] }).env G K) h with⟨hg,e',he',h⟩|⟨hg,e',he',h⟩
  ·rw[pH he']at h;cases hc:iX C o (dD all o e)with
   |false=>rw[hc]at h;cases h
   |true=>
    rw[hc,UA,rG (by exact hc)]at h;obtain⟨s',hs',h⟩:=A6.1 h;obtain⟨X1,hX1⟩:=nZ o s' hs';cases hkb:(!kd i||iA C G s'.G)with
    |false=>rw[hkb]at h;cases h
    |true=>
    rw[hkb,UA]at h;have hkb:kd i=true->∀ id l,C.vr id=false->G.get id=some (.box l)->s'.G.get id=some (.box l):=λhk=>sY (by rw[hk]at hkb;simpa using hkb) hX1;refine key (s'.env.get (o.dst.getD 0)) _ _ h ?_;intro V E H a1 a2 a3 a4 a5;refine⟨λt=>?_,.inl ⟨by rw[a2];exact hg,s',by rw[a2,a4];exact hs',a1,a5.symm,by rw[a4,a5];exact hkb⟩⟩;rw[a3,a1,a2,t8,he' t]
  refine key (.av .undef) _ _ h ?_;intro V E H a1 a2 a3 a4 a5;refine⟨λt=>?_,.inr ⟨by rw[a2];exact hg,a1,by rw[a5,a4]⟩⟩;rw[a3,a1,a2,t8,he' t]
theorem EF{m j:Nat}:bit m j=true↔m.testBit j=true:=by
 unfold bit Nat.testBit;constructor
 ·intro h;rw[A3 h];rfl
 intro h;rw[Nat.one_and_eq_mod_two]at h ⊢;have:(m >>> j)%2<2:=Nat.mod_lt _ (by omega);have h0:(m >>> j)%2≠0:=by simpa using h
 have:(m >>> j)%2=1:=by omega
 rw[this];rfl
def k7(acc:List Nat)(o:Oper):Nat:=o.after.toList.foldl (λm e=>cond (Region.binds .any e) (m ||| 2^e.on ||| acc.getD e.on 0) m) 0
theorem xV:∀(l:List Oper) (acc:List Nat),∃ r,f9 l acc=acc++r/\r.length=l.length
 |[],acc=>⟨[],by simp[f9],rfl⟩
 |o::l,acc=>by obtain⟨r,h1,h2⟩:=xV l (acc++[k7 acc o]);exact⟨k7 acc o::r,by show f9 l (acc++[k7 acc o])=_;rw[h1];simp,by simp[h2]⟩
theorem tR:∀(l:List Oper) (acc:List Nat) (j:Nat) (o:Oper),l[j]?=some o->(f9 l acc).getD (acc.length+j) 0=k7 ((f9 l acc).take (acc.length+j)) o
 |[],_,j,_,h=>by simp at h
 |o::l,acc,0,o',h=>by simp only[Ju,aw]at h;subst h;obtain⟨r,h1,_⟩:=xV l (acc++[k7 acc o]);show(f9 l (acc++[k7 acc o])).getD _ 0=k7 ((f9 l (acc++[k7 acc o])).take _) o;rw[h1];simp
 |o::l,acc,j+1,o',h=>by have:=tR l (acc++[k7 acc o]) j o' (by simpa using h);rw[show acc.length+(j+1)=(acc++[k7 acc o]).length+j by simp;omega];exact this
theorem tS (acc:List Nat)(j:Nat):∀(l:List Edge) (m:Nat),bit (l.foldl (fun m e=>cond (Region.binds .any e) (m ||| 2 ^ e.on ||| acc.getD e.on 0) m) m) j=true ↔
  bit m j=true\/∃ e∈l,Region.binds .any e=true/\(e.on=j\/bit (acc.getD e.on 0) j=true)
 |[],m=>by simp
 |e::l,m=>by
  rw[List.foldl_cons,tS acc j l];cases hb:Region.binds .any e with
  |false=>simp[hb]
  |true=>
   simp only[UA,EF,Nat.testBit_or,Nat.testBit_two_pow,Kd,decide_eq_true_eq,A8,exists_eq_or_imp,hb,true_and];constructor
   ·rintro((h|h)|h)
    ·rcases h with h|h
     ·exact .inl h
     exact .inr (.inl (.inl h))
    ·exact .inr (.inl (.inr h))
    exact .inr (.inr h)
   rintro(h|(h|h)|h)
   ·exact .inl (.inl (.inl h))
   ·exact .inl (.inl (.inr h))
   ·exact .inl (.inr h)
   exact .inr h
end
end Go.Vm

/-
 What must come before what; memory and slots behind a set of operations.
-/
namespace Go.Vm
section
variable {C:Ctx}{R:Type}{res:R}{all:List Oper}
def Fr(k:Nat)(nd:Nat->Bool)(j:Nat)(o:Oper):Bool:=gc o||(decide (j<k)&&nd j)
structure OrdOK (all:List Oper)(ms:List Nat)(k:Nat)(nd kd:Nat->Bool):Prop where
 le:k<=all.length
 edge:∀(i:Nat) (o:Oper) (e:Edge),all[i]?=some o->e∈o.after.toList->Region.binds .any e=true->e.on<i
 pre:∀ i o j,all[i]?=some o->(bit (ms.getD i 0) j=true↔∃ e∈o.after.toList,Region.binds .any e=true/\(e.on=j\/bit (ms.getD e.on 0) j=true))
 cls:∀ i j,i<k->j<k->(nE all).getD i 0=(nE all).getD j 0->i=j
 looks:∀ i o t,all[i]?=some o->t∈looks all o->∀ q o',all[q]?=some o'->o'.dst=some t->bit (ms.getD i 0) q=true\/bit (ms.getD q 0) i=true
 uniq:∀(p q:Nat) (o o':Oper) (d:Nat),all[p]?=some o->all[q]?=some o'->o.dst=some d->o'.dst=some d->p=q
 chain:∀ i o,k<=i->all[i]?=some o->∀ j o',j<i->all[j]?=some o'->bit (ms.getD i 0) j=true\/Fr k nd j o'=true
 kept:∀ i j,k<=i->i<all.length->j<k->nd j=true->bit (ms.getD i 0) j=false->kd i=true
theorem OrdOK.lt{ms:List Nat}{k:Nat}{nd kd:Nat->Bool}(h:OrdOK all ms k nd kd):∀{i j:Nat},i<all.length->bit (ms.getD i 0) j=true->j<i:=by
 intro i;induction i using Nat.strongRecOn with
 |ind i ih=>
  intro j hi hb;obtain⟨o,ho⟩:∃ o,all[i]?=some o:=⟨_,A1 hi⟩;obtain⟨e,he,hbe,h1⟩:=(h.pre i o j ho).1 hb;have hlt:=h.edge i o e ho he hbe;rcases h1 with h1|h1
  ·omega
  have:=ih e.on hlt (by omega) h1;omega
theorem qi:∀{l:List Nat} {i j:Nat} {a:Nat},aH l=true->l[i]?=some a->l[j]?=some a->i=j
 |[],_,_,_,_,h,_=>by simp at h
 |b::l,0,0,_,_,_,_=>rfl
 |b::l,0,j+1,a,hn,h1,h2=>by simp only[aH,np,Jw]at hn;simp only[Ju,aw]at h1;subst h1;have hm:b∈l:=Jv (i:=j) (by simpa using h2);have:=hn.1;rw[J0]at this;exact absurd (KP b) (by simpa using this b hm)
 |b::l,i+1,0,a,hn,h1,h2=>by simp only[aH,np,Jw]at hn;simp only[Ju,aw]at h2;subst h2;have hm:b∈l:=Jv (i:=i) (by simpa using h1);have:=hn.1;rw[J0]at this;exact absurd (KP b) (by simpa using this b hm)
 |b::l,i+1,j+1,a,hn,h1,h2=>by simp only[aH,np]at hn;exact congrArg (·+1) (qi (i:=i) (j:=j) hn.2 (by simpa using h1) (by simpa using h2))
theorem je:∀{l:List Oper} {i j:Nat} {o o':Oper} {d:Nat},aH (l.filterMap λo=>o.dst)=true->l[i]?=some o->l[j]?=some o'->o.dst=some d->o'.dst=some d->i=j
 |[],_,_,_,_,_,_,h,_,_,_=>by simp at h
 |b::l,0,0,_,_,_,_,_,_,_,_=>rfl
 |b::l,0,j+1,o,o',d,hn,h1,h2,d1,d2=>by simp only[Ju,aw]at h1;subst h1;rw[Ld d1]at hn;simp only[aH,np,Jw]at hn;have hm:d∈l.filterMap λo=>o.dst:=L8.2 ⟨o',Jv (i:=j) (by simpa using h2),d2⟩;have:=hn.1;rw[J0]at this;exact absurd (KP d) (by simpa using this d hm)
 |b::l,i+1,0,o,o',d,hn,h1,h2,d1,d2=>by simp only[Ju,aw]at h2;subst h2;rw[Ld d2]at hn;simp only[aH,np,Jw]at hn;have hm:d∈l.filterMap λo=>o.dst:=L8.2 ⟨o,Jv (i:=i) (by simpa using h1),d1⟩;have:=hn.1;rw[J0]at this;exact absurd (KP d) (by simpa using this d hm)
 |b::l,i+1,j+1,o,o',d,hn,h1,h2,d1,d2=>by
  have hn':aH (l.filterMap λo=>o.dst)=true:=by
   cases hb:b.dst with
   |none=>rwa[List.filterMap_cons_none hb]at hn
   |some x=>rw[Ld hb]at hn;simp only[aH,np]at hn;exact hn.2
  exact congrArg (·+1) (je (i:=i) (j:=j) hn' (by simpa using h1) (by simpa using h2) d1 d2)
theorem lS{lt:Bool}{m:Nat}:∀{l:List Oper} {j0 t:Nat} {o:Oper},fx lt m j0 l=true->l[t]?=some o->bit m (j0+t)=true\/gc o=true\/(lt=true/\sk o=true)
 |[],_,_,_,_,h=>by simp at h
 |b::l,j0,0,o,h,h1=>by
  simp only[Ju,aw]at h1;subst h1;simp only[fx,np,Kd]at h;rcases h.1 with(h|h)|h
  ·exact .inl h
  ·exact .inr (.inl h)
  exact .inr (.inr h)
 |b::l,j0,t+1,o,h,h1=>by simp only[fx,np]at h;have:=lS h.2 (t:=t) (by simpa using h1);rwa[show j0+(t+1)=j0+1+t by omega]
theorem mM{lt:Bool}{ms:List Nat}:∀{n i:Nat},n-ja lt all ms n<=i->i<n->fx (lt && !fK all i) (ms.getD i 0) 0 (all.take i)=true
 |0,_,_,h=>by omega
 |n+1,i,h,hi=>by
  simp only[ja]at h;cases hc:(fx (lt && !fK all n) (ms.getD n 0) 0 (all.take n)&&(!(lt&&fK all n)||(JZ all.length).all λi=>JK i n||bit (ms.getD i 0) n))with
  |false=>rw[hc]at h;simp at h;omega
  |true=>
   rw[hc,UA]at h;have hb:=(np _ _▸hc:_/\_).1;rcases J1 (Kj hi)with rfl|hlt
   ·exact hb
   exact mM (by omega) hlt
theorem s9{l:List Oper}{i:Nat}{o:Oper}(h:l[i]?=some o):(o,i)∈l.zipIdx:=by rw[List.mem_zipIdx_iff_getElem?];exact h
theorem GU{lt:Bool}{k:Nat}(hk:k=all.length-ja lt all (f9 all []) all.length)(h:okA lt all (f9 all []) k=true):OrdOK all (f9 all []) k (uD lt all (f9 all []) k) (CF lt all (f9 all []) k):=by
 simp only[okA,np]at h;obtain⟨⟨⟨⟨h0,h1⟩,h2⟩,h4⟩,h5⟩:=h;simp only[B5]at h1 h4;have hle:k<=all.length:=by omega
 have hedge:∀(i:Nat) (o:Oper) (e:Edge),all[i]?=some o->e∈o.after.toList->Region.binds .any e=true->e.on<i:=by intro i o e ho he hb;have:=h1 (o,i) (s9 ho) e he;rw[hb]at this;exact JF (by simpa[Lx]using this)
 refine⟨hle,hedge,?_,?_,?_,λp q o o' d=>je h5,?_,?_⟩
 ·intro i o j ho;have hg:=tR all [] i o ho;simp only[List.length_nil,JP]at hg;rw[hg];unfold k7;rw[tS];constructor
  ·rintro(h|⟨e,he,hb,h⟩)
   ·simp[bit]at h
   refine⟨e,he,hb,?_⟩;rcases h with h|h
   ·exact .inl h
   right;have hlt:=hedge i o e ho he hb;rw[Kp,JC,if_pos hlt,<- Kp]at h;exact h
  rintro⟨e,he,hb,h⟩;right;refine⟨e,he,hb,?_⟩;rcases h with h|h
  ·exact .inl h
  right;have hlt:=hedge i o e ho he hb;rw[Kp,JC,if_pos hlt,<- Kp];exact h
 ·intro i j hi hj he;have get:∀ i,i<k->(nE (all.take k))[i]?=some ((nE all).getD i 0):=by intro i hi;obtain⟨o,ho⟩:∃ o,all[i]?=some o:=⟨_,A1 (by omega)⟩;simp[nE,JC,hi,ho,Kp]
  exact qi h2 (get i hi) (by rw[he];exact get j hj)
 ·intro i o t ho ht q o' ho' hd;have:=h4 (o,i) (s9 ho) t ht (o',q) (s9 ho');simp only[hd,KP,UA,Kd]at this;exact this
 ·intro i o hi ho j o' hj ho';have hlt:i<all.length:=(A2.1 ho).1;cases hbit:bit ((f9 all []).getD i 0) j with
  |true=>exact .inl rfl
  |false=>
  right;have:=lS (mM (lt:=lt) (all:=all) (ms:=f9 all []) (n:=all.length) (by omega) hlt) (t:=j) (o:=o') (by rw[JC,if_pos hj];exact ho');rw[JP,hbit]at this;unfold Fr;rcases this with h|h|⟨h,hl⟩
  ·cases h
  ·rw[h];rfl
  simp only[np]at h;obtain⟨hlt2,_⟩:=h;have hla:fK all j=true:=by simp[fK,ho',hl]
  have hjk:j<k:=by
   rcases Nat.lt_or_ge j k with hjk|hjk
   ·exact hjk
   rw[hlt2]at h0;have h0:sE all (f9 all []) k=true:=by simpa using h0
   unfold sE at h0;rw[B5]at h0;have h0:=h0 i (Kq.2 hlt);have:Lx i k=false:=by
    cases hq:Lx i k with
    |false=>rfl
    |true=>
     have:i<k:=by simpa[MN]using hq
     omega
   rw[this,KN,B5]at h0;have h0:=h0 j (Kq.2 hj);have:Lx j k=false:=by
    cases hq:Lx j k with
    |false=>rfl
    |true=>
     have:j<k:=by simpa[MN]using hq
     omega
   rw[this,hbit,hla]at h0;cases h0
  have:uD lt all (f9 all []) k j=true:=by unfold uD;rw[hlt2,hla,KO,KO,KM];exact⟨i,Kq.2 hlt,by rw[hbit];simp[Nat.ble_eq,hi]⟩
  rw[this];simp[hjk]
 intro i j hi hil hj hn hb;unfold uD at hn;simp only[np]at hn;obtain⟨⟨hl,hla⟩,_⟩:=hn;unfold CF;rw[hl,KO,KM];exact⟨j,Kq.2 hj,by rw[hla,hb];rfl⟩
structure Trace (C:Ctx)(all:List Oper)(ms:List Nat)(k:Nat)(nd kd:Nat->Bool)(s:St)(V:Nat->SV)(X:Nat->Heap)(E:Nat->Env)(L:Nat->List (Nat×Heap))(H:Nat->Heap):Prop where
 e0:E 0=s.env
 l0:L 0=[]
 stepA:∀ j o,j<k->all[j]?=some o->qX C all ms nd s.G V X E L j o
 stepT:∀ j o,k<=j->all[j]?=some o->rI C all kd V E H j o
 hk:H k=(L k).foldr (λp G=>p.2++G) s.G
theorem qH {lt:Bool}{s:St}{K:St->Option R}(h:jy C lt all s K=some res) :
  ∃ k nd kd V X E L H,OrdOK all (f9 all []) k nd kd/\Trace C all (f9 all []) k nd kd s V X E L H/\okN all (f9 all []) k (L k) s.G=true/\K ⟨E all.length,H all.length⟩=some res:=by
 unfold jy at h;dsimp only at h;obtain⟨k,hk⟩:∃ k,k=all.length-ja lt all (f9 all []) all.length:=⟨_,rfl⟩;rw[<- hk]at h;cases hA:okA lt all (f9 all []) k with
 |false=>rw[hA]at h;cases h
 |true=>
  rw[hA,UA]at h;have ho:=GU hk hA;have hle:=ho.le;obtain⟨V,X,E,L,a1,a2,a3,a4⟩:=pf (all.take k) 0 s.env [] (λj hj=>by rw[JC];simp at hj;simp;omega) h;have hl:(all.take k).length=k:=by simp;omega
  simp only[JP,hl]at a3 a4;cases hN:okN all (f9 all []) k (L k) s.G with
  |false=>rw[hN]at a3;cases a3
  |true=>
   rw[hN,UA]at a3;obtain⟨V2,E2,H,b1,b2,b3,b4⟩:=qp (all.drop k) k (E k) _ (λj hj=>by rw[List.getElem?_drop]) a3;have hl2:k+(all.drop k).length=all.length:=by simp;omega
   rw[hl2]at b3 b4;refine⟨k,_,_,λi=>if i<k then V i else V2 i,X,λi=>if i<k then E i else E2 i,L,H,ho,⟨?_,a2,?_,?_,b2⟩,hN,?_⟩
   ·by_cases h0:0<k
    ·simp[h0,a1]
    have:k=0:=by omega
    subst this;simp[b1,a1]
   ·intro j o hj hoj;have:=a4 j o (Nat.zero_le _) hj hoj;have e1:(if j+1<k then E (j+1)else E2 (j+1))=E (j+1):=by
     split
     ·rfl
     have:j+1=k:=by omega
     rw[this,b1]
    unfold qX at this ⊢;dsimp only;rw[e1,if_pos hj,if_pos hj];exact this
   ·intro j o hj hoj;have:=b4 j o hj (A2.1 hoj).1 hoj;unfold rI at this ⊢;dsimp only;rw[if_neg (by omega),if_neg (by omega),if_neg (by omega)];exact this
   dsimp only;rw[if_neg (by omega)];exact b3
def kQ(all:List Oper)(i:Nat):Option Nat:=(all[i]?).bind (·.dst)
noncomputable def lL(all:List Oper)(V:Nat->SV)(e0:Env)(S:Nat->Bool):Nat->Nat->SV
 |0,t=>e0.get t
 |i+1,t=>if S i=true/\kQ all i=some t then V i else lL all V e0 S i t
def dy(S:Nat->Bool)(i:Nat):Nat->Bool:=λj=>S j||j==i
theorem ii{V:Nat->SV}{e0:Env}{S S':Nat->Bool}{t:Nat}:∀{n:Nat},(∀ q,q<n->kQ all q=some t->S q=S' q)->lL all V e0 S n t=lL all V e0 S' n t
 |0,_=>rfl
 |n+1,h=>by
  simp only[lL];by_cases hd:kQ all n=some t
  ·rw[h n (by omega) hd,ii λq hq=>h q (by omega)]
  simp only[hd,and_false,if_false];exact ii λq hq=>h q (by omega)
theorem nI{V:Nat->SV}{e0:Env}{S:Nat->Bool}{t:Nat}:∀{n:Nat},(∀ q,q<n->kQ all q=some t->S q=false)->lL all V e0 S n t=e0.get t
 |0,_=>rfl
 |n+1,h=>by simp only[lL];rw[if_neg,nI λq hq=>h q (by omega)];rintro⟨h1,h2⟩;rw[h n (by omega) h2]at h1;cases h1
theorem pg{ms:List Nat}{k:Nat}{nd kd:Nat->Bool}(ho:OrdOK all ms k nd kd){V:Nat->SV}{e0:Env}{S:Nat->Bool}{i t:Nat}:∀{n:Nat},n<=all.length->i<n->lL all V e0 (dy S i) n t=if kQ all i=some t then V i else lL all V e0 S n t
 |0,_,h=>by omega
 |n+1,hn,h=>by
  by_cases hd:kQ all i=some t
  ·rw[if_pos hd];rcases J1 (Kj h)with rfl|hlt
   ·simp[lL,dy,hd]
   simp only[lL];rw[if_neg,pg ho (by omega) hlt,if_pos hd];rintro⟨_,h2⟩;unfold kQ at hd h2;obtain⟨o,h3,h4⟩:=A6.1 hd;obtain⟨o',h5,h6⟩:=A6.1 h2;have:=ho.uniq i n o o' t h3 h5 h4 h6;omega
  rw[if_neg hd];refine ii λq _ hq=>?_;have:q≠i:=λe=>hd (e▸hq);simp[dy,this]
section
variable {ms:List Nat}{k:Nat}{nd kd:Nat->Bool}{s:St}{V:Nat->SV}{X:Nat->Heap}{E:Nat->Env}{L:Nat->List (Nat×Heap)}{H:Nat->Heap}
theorem Trace.env_step(ho:OrdOK all ms k nd kd)(h:Trace C all ms k nd kd s V X E L H){i:Nat}{o:Oper}(hi:all[i]?=some o)(t:Nat):(E (i+1)).get t=if o.dst=some t then V i else(E i).get t:=by
 by_cases hk:i<k
 ·exact(h.stepA i o hk hi).1 t
 exact(h.stepT i o (by omega) hi).1 t
theorem Trace.env(ho:OrdOK all ms k nd kd)(h:Trace C all ms k nd kd s V X E L H):∀{i:Nat},i<=all.length->∀ t,(E i).get t=lL all V s.env (λq=>decide (q<i)) all.length t
 |0,_,t=>by rw[h.e0,nI];intro q _ _;simp
 |i+1,hi,t=>by
  obtain⟨o,hoi⟩:∃ o,all[i]?=some o:=⟨_,A1 (by omega)⟩;have hS:(λq=>decide (q<i+1))=dy (λq=>decide (q<i)) i:=by
   funext q;unfold dy;by_cases h1:q<i
   ·have:q<i+1:=by omega
    simp[h1,this]
   by_cases h2:q=i
   ·simp[h2]
   have:¬q<i+1:=by omega
   simp[h1,h2,this]
  rw[h.env_step ho hoi,hS,pg ho (B2 _) (by omega),h.env ho (by omega)];simp[kQ,hoi]
def Closed(all:List Oper)(ms:List Nat)(S:Nat->Bool):Prop:=∀ i,S i=true->i<all.length/\∀ j,bit (ms.getD i 0) j=true->S j=true
theorem Trace.seen (ho:OrdOK all ms k nd kd)(h:Trace C all ms k nd kd s V X E L H){S:Nat->Bool}(hS:Closed all ms S){i:Nat}{o:Oper}(hi:all[i]?=some o)(hn:S i=false)(hp:∀ j,bit (ms.getD i 0) j=true->S j=true)
  {t:Nat} (ht:t∈looks all o):(E i).get t=lL all V s.env S all.length t:=by
 have hlt:i<all.length:=(A2.1 hi).1;rw[h.env ho (by omega)];refine ii λq hq hd=>?_;unfold kQ at hd;obtain⟨o',h1,h2⟩:=A6.1 hd;rcases ho.looks i o t hi ht q o' h1 h2 with h3|h3
 ·rw[hp q h3];simp[ho.lt hlt h3]
 have:=ho.lt hq h3;have hSq:S q=false:=by
  cases hh:S q with
  |false=>rfl
  |true=>rw[(hS q hh).2 i h3]at hn;cases hn
 rw[hSq];simp;omega
theorem Closed.put(ho:OrdOK all ms k nd kd){S:Nat->Bool}(hS:Closed all ms S){i:Nat}(hi:i<all.length)(hp:∀ j,bit (ms.getD i 0) j=true->S j=true):Closed all ms (dy S i):=by
 intro j hj;unfold dy at hj;simp only[Kd,beq_iff_eq]at hj;rcases hj with hj|rfl
 ·exact⟨(hS j hj).1,λq hq=>by simp[dy,(hS j hj).2 q hq]⟩
 exact⟨hi,λq hq=>by simp[dy,hp q hq]⟩
noncomputable def look(X:Nat->Heap)(B:Heap)(S:Nat->Bool):Nat->Nat->Option Obj
 |0,id=>B.get id
 |j+1,id=>match cond (S j) ((X j).get id) none with
  |some o=>some o
  |none=>look X B S j id
theorem lA {X:Nat->Heap}{B:Heap}{S:Nat->Bool}{id:Nat}{o:Obj}:∀{j:Nat},look X B S j id=some o ->
  (∃ q,q<j/\S q=true/\(X q).get id=some o/\∀ q',q<q'->q'<j->S q'=true->(X q').get id=none)\/((∀ q,q<j->S q=true->(X q).get id=none)/\B.get id=some o)
 |0,h=>.inr ⟨λq hq=>by omega,h⟩
 |j+1,h=>by
  simp only[look]at h;split at h
  ·rename_i o' ho';cases h;cases hS:S j with
   |false=>rw[hS]at ho';cases ho'
   |true=>rw[hS]at ho';exact .inl ⟨j,by omega,hS,ho',λq' h1 h2=>by omega⟩
  rename_i hn;have hj:S j=true->(X j).get id=none:=λhS=>by rw[hS]at hn;exact hn
  rcases lA h with⟨q,h1,h2,h3,h4⟩|⟨h1,h2⟩
  ·refine .inl ⟨q,by omega,h2,h3,λq' g1 g2 g3=>?_⟩;rcases J1 (Kj g2)with rfl|g2
   ·exact hj g3
   exact h4 q' g1 g2 g3
  refine .inr ⟨λq g1 g2=>?_,h2⟩;rcases J1 (Kj g1)with rfl|g1
  ·exact hj g2
  exact h1 q g1 g2
theorem i7{X:Nat->Heap}{B:Heap}{S:Nat->Bool}{id:Nat}:∀{j:Nat},(∀ q,q<j->S q=true->(X q).get id=none)->look X B S j id=B.get id
 |0,_=>rfl
 |j+1,h=>by
  simp only[look];cases hS:S j with
  |false=>exact i7 λq hq=>h q (by omega)
  |true=>rw[UA,h j (by omega) hS];exact i7 λq hq=>h q (by omega)
theorem s8{X:Nat->Heap}{B:Heap}{S:Nat->Bool}{id:Nat}{o:Obj}:∀{j q:Nat},q<j->S q=true->(X q).get id=some o->(∀ q',q<q'->q'<j->S q'=true->(X q').get id=none)->look X B S j id=some o
 |0,_,h,_,_,_=>by omega
 |j+1,q,h,hS,ho,hl=>by
  simp only[look];rcases J1 (Kj h)with rfl|hlt
  ·rw[hS,UA,ho]
  have:cond (S j) ((X j).get id) none=none:=by
   cases hSj:S j with
   |false=>rfl
   |true=>exact hl j hlt (by omega) hSj
  rw[this];exact s8 hlt hS ho λq' h1 h2=>hl q' h1 (by omega)
theorem gU{X:Nat->Heap}{B:Heap}{S S':Nat->Bool}{id:Nat}:∀{j:Nat},(∀ q,q<j->S q=S' q\/(X q).get id=none)->look X B S j id=look X B S' j id
 |0,_=>rfl
 |j+1,h=>by
  simp only[look];have:cond (S j) ((X j).get id) none=cond (S' j) ((X j).get id) none:=by
   rcases h j (by omega)with h|h
   ·rw[h]
   rw[h];cases S j<;>cases S' j<;>rfl
  rw[this];split
  ·rfl
  exact gU λq hq=>h q (by omega)
theorem Trace.l_step(h:Trace C all ms k nd kd s V X E L H){j:Nat}(hj:j<k)(hle:k<=all.length):L (j+1)=(j,X j)::L j\/(L (j+1)=L j/\X j=[]):=by
 obtain⟨o,ho⟩:∃ o,all[j]?=some o:=⟨_,A1 (by omega)⟩;rcases(h.stepA j o hj ho).2 with⟨_,h1,_⟩|⟨_,h1,_,h2⟩
 ·exact .inl h1
 exact .inr ⟨h1,h2⟩
theorem Trace.heapFor_get(h:Trace C all ms k nd kd s V X E L H)(hle:k<=all.length)(m:Nat):∀{j:Nat},j<=k->∀ id,(bE m (L j) s.G).get id=look X s.G (bit m) j id
 |0,_,id=>by rw[h.l0];rfl
 |j+1,hj,id=>by
  simp only[look];have ih:=h.heapFor_get hle m (j:=j) (by omega) id;rcases h.l_step (by omega:j<k) hle with h1|⟨h1,h2⟩
  ·rw[h1];show(cond (bit m j) (X j++bE m (L j) s.G) (bE m (L j) s.G)).get id=_;cases hb:bit m j with
   |false=>exact ih
   |true=>rw[UA,UA,Heap.get_append,ih];try (cases(X j).get id<;>rfl)
  rw[h1,h2,ih];have:cond (bit m j) (Heap.get [] id) none=none:=by cases bit m j<;>rfl
  rw[this]
theorem Trace.all_get(h:Trace C all ms k nd kd s V X E L H)(hle:k<=all.length):∀{j:Nat},j<=k->∀ id,((L j).foldr (λp G=>p.2++G) s.G).get id=look X s.G (λ_=>true) j id
 |0,_,id=>by rw[h.l0];rfl
 |j+1,hj,id=>by
  simp only[look,UA];have ih:=h.all_get hle (j:=j) (by omega) id;rcases h.l_step (by omega:j<k) hle with h1|⟨h1,h2⟩
  ·rw[h1,List.foldr_cons,Heap.get_append,ih];try (show(match(X j).get id with|some o=>some o|none=>_)=_;cases(X j).get id<;>rfl)
  rw[h1,h2,ih];rfl
theorem Trace.l_mem(h:Trace C all ms k nd kd s V X E L H)(hle:k<=all.length):∀{j q:Nat},j<=k->q<j->X q=[]\/(q,X q)∈L j
 |0,_,_,hq=>by omega
 |j+1,q,hj,hq=>by
  rcases h.l_step (by omega:j<k) hle with h1|⟨h1,h2⟩
  ·rw[h1];rcases J1 (Kj hq)with rfl|hlt
   ·exact .inr (by simp)
   rcases h.l_mem hle (by omega) hlt with h|h
   ·exact .inl h
   exact .inr (by simp[h])
  rw[h1];rcases J1 (Kj hq)with rfl|hlt
  ·exact .inl h2
  exact h.l_mem hle (by omega) hlt
structure Sep (all:List Oper)(ms:List Nat)(k:Nat)(X:Nat->Heap)(B:Heap):Prop where
 base:∀ q id o,q<k->(X q).get id=some o->B.get id=none
 two:∀ p q id o o',p<k->q<k->(X p).get id=some o->(X q).get id=some o'->p=q \/
  ((bit (ms.getD p 0) q=true\/bit (ms.getD q 0) p=true)/\∀ i,i<k->bit (ms.getD i 0) p=false\/i=q\/bit (ms.getD i 0) q=true\/bit (ms.getD q 0) i=true)
theorem Trace.sep(h:Trace C all ms k nd kd s V X E L H)(hle:k<=all.length)(hN:okN all ms k (L k) s.G=true):Sep all ms k X s.G:=by
 have mem:∀ q id o,q<k->(X q).get id=some o->(q,X q)∈L k/\(id,o)∈X q:=by
  intro q id o hq hg;rcases h.l_mem hle (B2 _) hq with h1|h1
  ·rw[h1]at hg;simp[Heap.get_nil0,Heap.get_pair]at hg
  exact⟨h1,Heap.mem_of_get hg⟩
 simp only[okN,B5]at hN;refine⟨λq id o hq hg=>?_,λp q id o o' hp hq hg hg'=>?_⟩
 ·obtain⟨h1,h2⟩:=mem q id o hq hg;have:=hN _ h1 _ h2;simp only[np,Jw]at this;cases hb:s.G.get id with
  |none=>rfl
  |some o'=>have h3:=this.1;rw[Heap.has_of_get hb]at h3;cases h3
 obtain⟨h1,h2⟩:=mem p id o hp hg;obtain⟨h3,h4⟩:=mem q id o' hq hg';have:=hN _ h1 _ h2;simp only[np]at this;have:=this.2;rw[B5]at this;have:=this _ h3;simp only[Kd,np]at this;rcases this with(h5|h5)|⟨h5,h6⟩
 ·exact .inl (A3 h5)
 ·simp only[Jw]at h5;rw[J0]at h5;exact absurd (KP id) (by simpa using h5 _ h4)
 refine .inr ⟨h5,λi hi=>?_⟩;rw[B5]at h6;have:=h6 i (by simpa using hi);simp only[Kd,Jw]at this;rcases this with((h7|h7)|h7)|h7
 ·exact .inl h7
 ·exact .inr (.inl (A3 h7))
 ·exact .inr (.inr (.inl h7))
 exact .inr (.inr (.inr h7))
theorem tJ (ho:OrdOK all ms k nd kd){B:Heap}(hX:Sep all ms k X B){S:Nat->Bool}(hS:Closed all ms S){i:Nat}(hi:i < k)(hn:S i=false)(hp:∀ j,bit (ms.getD i 0) j=true->S j=true)
  {id:Nat} {o:Obj} (hg:look X B (bit (ms.getD i 0)) i id=some o):look X B S k id=some o:=by
 have hle:=ho.le;rcases lA hg with⟨q,h1,h2,h3,h4⟩|⟨h1,h2⟩
 ·refine s8 (by omega) (hp q h2) h3 λq' g1 g2 g3=>?_;cases hx:(X q').get id with
  |none=>rfl
  |some o'=>
   rcases hX.two q q' id o o' (by omega) g2 h3 hx with e|⟨e1,e2⟩
   ·omega
   rcases e2 i hi with e|e|e|e
   ·rw[h2]at e;cases e
   ·subst e;rw[hn]at g3;cases g3
   ·rw[h4 q' g1 (ho.lt (by omega) e) e]at hx;cases hx
   rw[(hS q' g3).2 i e]at hn;cases hn
 rw[i7,h2];intro q g1 g2;cases hx:(X q).get id with
 |none=>rfl
 |some o'=>rw[hX.base q id o' g1 hx]at h2;cases h2
theorem CS (ho:OrdOK all ms k nd kd){B:Heap}(hX:Sep all ms k X B){S:Nat->Bool}(hS:Closed all ms S){i:Nat}(hi:i < k)(hn:S i=false)
  {id:Nat} {o:Obj} (hx:(X i).get id=some o) (hg:look X B (bit (ms.getD i 0)) i id=none):look X B S k id=none:=by
 have hle:=ho.le;cases hl:look X B S k id with
 |none=>rfl
 |some o'=>
  rcases lA hl with⟨q,h1,h2,h3,h4⟩|⟨h1,h2⟩
  ·rcases hX.two i q id o o' hi h1 hx h3 with e|⟨e1,_⟩
   ·subst e;rw[hn]at h2;cases h2
   rcases e1 with e|e
   ·have hlt:=ho.lt (by omega) e;exfalso
    -- the last of them
    have:∀ j,j<=i->q<j->look X B (bit (ms.getD i 0)) j id≠none:=by
     intro j;induction j with
     |zero=>intro _ h;omega
     |succ j ih=>
      intro hj hq;simp only[look];split
      ·simp
      rename_i hnone;rcases J1 (Kj hq)with rfl|hq
      ·rw[e,UA,h3]at hnone;cases hnone
      exact ih (by omega) hq
    exact this i (B2 _) hlt hg
   rw[(hS q h2).2 i e]at hn;cases hn
  rw[hX.base i id o hi hx]at h2;cases h2
theorem D0 (ho:OrdOK all ms k nd kd){B:Heap}(hX:Sep all ms k X B){S:Nat->Bool}(hS:Closed all ms S){i:Nat}(hi:i < k)(hn:S i=false)(id:Nat) :
  look X B (dy S i) k id=(match(X i).get id with|some o=>some o|none=>look X B S k id):=by
 have hle:=ho.le;cases hx:(X i).get id with
 |some o=>
  refine s8 hi (by simp[dy]) hx λq g1 g2 g3=>?_;cases hq:(X q).get id with
  |none=>rfl
  |some o'=>
   have hSq:S q=true:=by
    simp only[dy,Kd,beq_iff_eq]at g3;rcases g3 with g3|g3
    ·exact g3
    omega
   rcases hX.two i q id o o' hi g2 hx hq with e|⟨e1,_⟩
   ·omega
   rcases e1 with e|e
   ·have:=ho.lt (by omega) e;omega
   rw[(hS q hSq).2 i e]at hn;cases hn
 |none=>
  refine gU λq _=>?_;by_cases e:q=i
  ·subst e;exact .inr hx
  left;simp[dy,e]
end
end
end Go.Vm

/-
 Regions whose operations stand in no fixed order.
-/
namespace Go.Vm
section
variable {P:Program}{C:Ctx}{w0:World}{M:Own}{N:Nat}{ops:Array Oper}{ms:List Nat}{k:Nat}{s:St}{nd kd:Nat->Bool}{V:Nat->SV}{X:Nat->Heap}{E:Nat->Env}{L:Nat->List (Nat×Heap)}{H:Nat->Heap}{a:Act}
theorem mK {m:Mem}{f:Nat->SV}{o:Oper}{e:Env}{b:Bool}(hS:∀ t,RelSV m (a.tmps.getD t undef) (f t))(he:∀ t∈looks ops.toList o,e.get t=f t)(hg:lR ops.toList o e b) :
  Region.wanted o (yielded ops a.tmps)=b:=by
 have slot:∀{j want d},o.guard=some (j,want)->eY ops.toList j=some d->d∈looks ops.toList o:=by intro j want d h1 h2;unfold looks;rw[h1];simp[h2]
 have yv:∀{j d},eY ops.toList j=some d->(ops[j]?).bind (·.dst)=some d:=by
  intro j d hj;unfold eY at hj;rw[JN]at hj;split at hj
  ·rename_i o ho;simp[ho,hj]
  simp at hj
 have get:∀ d v,a.tmps.getD d undef=v->v≠undef->a.tmps[d]?=some v:=by
  intro d v h hne;rw[JW]at h;cases hg:a.tmps[d]? with
  |none=>rw[hg]at h;exact absurd h.symm hne
  |some u=>rw[hg]at h;simp at h;rw[h]
 cases b with
 |true=>
  rcases hg with hg|⟨j,want,d,h1,h2,h3⟩
  ·simp[Region.wanted,hg]
  have hv:=hS d;rw[<- he d (slot h1 h2),h3]at hv;have hv:=get d _ (fh hv) (by simp[undef]);simp[Region.wanted,h1,yielded,yv h2,hv]
 |false=>
  obtain⟨j,want,d,h1,h2,h3⟩:=hg;have hv:=hS d;rw[<- he d (slot h1 h2)]at hv;rcases h3 with h3|h3
  ·rw[h3]at hv;have hv:a.tmps.getD d undef=undef:=hv;rw[JW]at hv;simp only[Region.wanted,h1,yielded,yv h2,Option.bind_some];cases hg:a.tmps[d]? with
   |none=>simp
   |some v=>rw[hg]at hv;simp at hv;subst hv;simp[undef]
  rw[h3]at hv;have hv:=get d _ (fh hv) (by simp[undef]);simp[Region.wanted,h1,yielded,yv h2,hv]
theorem yU {m m':Mem}{o:Oper}{v:Value}{f g:Nat->SV}(he:Evo m m')(hS:∀ t,RelSV m (a.tmps.getD t undef) (f t))(hd:∀ d,o.dst=some d->d < a.tmps.size)
  (hv:∀ d,o.dst=some d->RelSV m' v (g d)) (hg:∀ t,o.dst≠some t->g t=f t):∀ t,RelSV m' ((a.put o.dst v).tmps.getD t undef) (g t):=by
 intro t;rw[uM a o.dst v hd];split
 ·rename_i e;exact hv t e
 rename_i e;rw[hg t e];exact fm he (hS t)
def jL(all:List Oper)(k:Nat)(nd:Nat->Bool)(B:Heap)(X:Nat->Heap)(H:Nat->Heap)(S:Nat->Bool)(G:Heap):Prop:=
 ((∀ l o,k<=l->all[l]?=some o->Fr k nd l o=false->S l=false)/\∀ id,G.get id=look X B S k id) \/
 (∃ j,k<=j/\j<=all.length/\(∀ l o,l<j->all[l]?=some o->Fr k nd l o=false->S l=true)/\(∀ l o,j<=l->all[l]?=some o->Fr k nd l o=false->S l=false)/\∀ id,G.get id=(H j).get id)
theorem Trace.free_new{all:List Oper}(h:Trace C all ms k nd kd s V X E L H){i:Nat}{o:Oper}(hi:i<k)(ho:all[i]?=some o)(hf:Fr k nd i o=true):X i=[]:=by
 rcases(h.stepA i o hi ho).2 with⟨_,_,_,_,hl,s',h1,_,h2⟩|⟨_,_,_,h2⟩
 ·unfold Fr at hf;simp only[Kd,np]at hf;have:s'.G=bE (ms.getD i 0) (L i) s.G:=by
   rcases hf with hf|hf
   ·exact(l9 hf h1).1
   exact(oS (hl hf.2) h1).1
  rw[h2]at this;simpa using this
 exact h2
theorem Trace.free_heap{all:List Oper}(h:Trace C all ms k nd kd s V X E L H){i:Nat}{o:Oper}(hi:k<=i)(ho:all[i]?=some o)(hf:Fr k nd i o=true):H (i+1)=H i:=by
 have hf:gc o=true:=by
  unfold Fr at hf;simp only[Kd,np,decide_eq_true_eq]at hf;rcases hf with hf|hf
  ·exact hf
  omega
 rcases(h.stepT i o hi ho).2 with⟨_,s',h1,_,h2,_⟩|⟨_,_,h2⟩
 ·rw[<- h2,(l9 hf h1).1]
 exact h2
theorem Trace.keep_box {all:List Oper}(h:Trace C all ms k nd kd s V X E L H){id:Nat}{b:List Atom}(hvr:C.vr id=false)(h0:(H k).get id=some (.box b)):∀(d:Nat),k+d<=all.length ->
  (∀ l o,k<=l->l<k+d->all[l]?=some o->Fr k nd l o=true\/kd l=true)->(H (k+d)).get id=some (.box b)
 |0,_,_=>h0
 |d+1,hd,hf=>by
  obtain⟨o,ho⟩:∃ o,all[k+d]?=some o:=⟨_,A1 (by omega)⟩;have ih:=h.keep_box hvr h0 d (by omega) λl o h1 h2=>hf l o h1 (by omega);rw[show k+(d+1)=k+d+1 by omega];rcases hf _ o (by omega) (by omega) ho with hq|hq
  ·rw[h.free_heap (by omega) ho hq];exact ih
  rcases(h.stepT _ o (by omega) ho).2 with⟨_,s',_,_,_,h2⟩|⟨_,_,h2⟩
  ·exact h2 hq _ _ hvr ih
  rw[h2];exact ih
theorem Trace.free_heaps{all:List Oper}(h:Trace C all ms k nd kd s V X E L H){j:Nat}(hj:k<=j):∀(d:Nat),j+d<=all.length->(∀ l o,j<=l->l<j+d->all[l]?=some o->Fr k nd l o=true)->H (j+d)=H j
 |0,_,_=>rfl
 |d+1,hd,hf=>by obtain⟨o,ho⟩:∃ o,all[j+d]?=some o:=⟨_,A1 (by omega)⟩;have:=h.free_heap (by omega:k<=j+d) ho (hf _ o (by omega) (by omega) ho);rw[show j+(d+1)=j+d+1 by omega,this];exact h.free_heaps hj d (by omega) λl o h1 h2=>hf l o h1 (by omega)
theorem xY {all:List Oper}(ho:OrdOK all ms k nd kd)(h:Trace C all ms k nd kd s V X E L H){S:Nat->Bool}{G:Heap}(hH:jL all k nd s.G X H S G){i:Nat}(hki:k<=i)(hi:i<=all.length)
  (hb:∀ l o,l<i->all[l]?=some o->Fr k nd l o=false->S l=true) (ha:∀ l o,i<=l->all[l]?=some o->Fr k nd l o=false->S l=false):∀ id,G.get id=(H i).get id:=by
 have hle:=ho.le;rcases hH with⟨h1,h2⟩|⟨j,j1,j2,j3,j4,j5⟩
 ·have e:H i=H k:=by
   obtain⟨d,rfl⟩:∃ d,i=k+d:=⟨i-k,by omega⟩;refine h.free_heaps (B2 _) d hi λl o l1 l2 hl=>?_;cases hf:Fr k nd l o with
   |true=>rfl
   |false=>have:=h1 l o l1 hl hf;rw[hb l o l2 hl hf]at this;cases this
  intro id;rw[h2,e,h.hk,h.all_get hle (B2 _)];refine gU λq hq=>?_;obtain⟨o,hoq⟩:∃ o,all[q]?=some o:=⟨_,A1 (by omega)⟩;cases hf:Fr k nd q o with
  |true=>right;rw[h.free_new hq hoq hf];rfl
  |false=>left;exact hb q o (by omega) hoq hf
 intro id;rw[j5];rcases Nat.le_total j i with hji|hji
 ·obtain⟨d,rfl⟩:∃ d,i=j+d:=⟨i-j,by omega⟩;rw[h.free_heaps j1 d hi λl o l1 l2 hl=>?_];cases hf:Fr k nd l o with
  |true=>rfl
  |false=>have:=j4 l o l1 hl hf;rw[hb l o l2 hl hf]at this;cases this
 obtain⟨d,rfl⟩:∃ d,j=i+d:=⟨j-i,by omega⟩;rw[h.free_heaps hki d j2 λl o l1 l2 hl=>?_];cases hf:Fr k nd l o with
 |true=>rfl
 |false=>have:=j3 l o l2 hl hf;rw[ha l o l1 hl hf]at this;cases this
theorem om {all:List Oper}(ho:OrdOK all ms k nd kd)(h:Trace C all ms k nd kd s V X E L H){S:Nat->Bool}{G:Heap}(hH:jL all k nd s.G X H S G){i:Nat}{o:Oper}(hi:all[i]?=some o)(hX:i < k->X i=[])
  (hor:Fr k nd i o=true\/(i<k/\S i=false)):jL all k nd s.G X H (dy S i) G:=by
 have hne:∀ l o',all[l]?=some o'->Fr k nd l o'=false->Fr k nd i o=true->dy S i l=S l:=by
  intro l o' hl hf hfo;have:l≠i:=λe=>by subst e;rw[hi]at hl;cases hl;rw[hf]at hfo;cases hfo
  simp[dy,this]
 rcases hH with⟨h1,h2⟩|⟨j,j1,j2,j3,j4,j5⟩
 ·refine .inl ⟨λl o' hl ho' hf=>?_,λid=>?_⟩
  ·rcases hor with hfo|⟨hlt,_⟩
   ·rw[hne l o' ho' hf hfo];exact h1 l o' hl ho' hf
   have:l≠i:=by omega
   simp only[dy,h1 l o' hl ho' hf,KN,beq_eq_false_iff_ne,ne_eq];exact this
  rw[h2];refine gU λq hq=>?_;by_cases e:q=i
  ·subst e;right;rw[hX hq];rfl
  left;simp[dy,e]
 rcases hor with hfo|⟨hlt,hn⟩
 ·exact .inr ⟨j,j1,j2,λl o' hl ho' hf=>by rw[hne l o' ho' hf hfo];exact j3 l o' hl ho' hf,λl o' hl ho' hf=>by rw[hne l o' ho' hf hfo];exact j4 l o' hl ho' hf,j5⟩
 refine .inr ⟨j,j1,j2,λl o' hl ho' hf=>by simp[dy,j3 l o' hl ho' hf],λl o' hl ho' hf=>?_,j5⟩;have:l≠i:=by omega
 simp only[dy,j4 l o' hl ho' hf,KN,beq_eq_false_iff_ne,ne_eq];exact this
structure Good (C:Ctx)(w0:World)(M:Own)(N:Nat)(all:List Oper)(k:Nat)(nd:Nat->Bool)(s:St)(V:Nat->SV)(X H:Nat->Heap)(S:Nat->Bool)(a:Act)(m:Mem):Prop where
 inv:Inv C w0 M m
 defers:a.defers=[]
 size:N<=a.tmps.size
 env:∀ t,RelSV m (a.tmps.getD t undef) (lL all V s.env S all.length t)
 heap:jL all k nd s.G X H S m.G
theorem Ee {m:Mem}{o:Oper}{f:Nat->SV}{e:Env}(hS:∀ t,RelSV m (a.tmps.getD t undef) (f t))(he:∀ t∈looks ops.toList o,e.get t=f t) :
  ∀ t,RelSV m (a.tmps.getD t undef) ((dD ops.toList o e).get t):=by
 intro t;rcases Dt (all:=ops.toList) (o:=o) (e:=e) t with⟨h1,h2⟩|h1
 ·rw[h1,he t h2];exact hS t
 rw[h1];trivial
theorem EP{dst:Option Nat}{d:Nat}{v:SV}{e:Env}{G:Heap}(h:dst=some d):(ag dst v ⟨e,G⟩).env.get (dst.getD 0)=v:=by subst h;simp[ag,Env.get_cons]
theorem zr (hC:CtxOK P C)(ho:OrdOK ops.toList ms k nd kd)(h:Trace C ops.toList ms k nd kd s V X E L H)(hX:Sep ops.toList ms k X s.G)(hbox:∀ id l,s.G.get id=some (.box l)->∀ a∈l,cB s.G a=true)
  (hd:∀ o∈ops.toList,∀ d,o.dst=some d->d<N) {Q:Exit->Act->World->Prop} {K:Act->World->Prop}
  {S:Nat->Bool} {m:Mem} {i:Nat} {o:Oper} (hg:Good C w0 M N ops.toList k nd s V X H S a m) (hS:Closed ops.toList ms S) (hi:ops.toList[i]?=some o) (hn:S i=false) (hp:∀ j,bit (ms.getD i 0) j=true->S j=true)
  (hK:∀ a' m',Good C w0 M N ops.toList k nd s V X H (dy S i) a' m'->K a' m'.w):wpOp P ops Q i K a m.w:=by
 have hlt:i<ops.toList.length:=(A2.1 hi).1;have hle:=ho.le;have hseen:∀ t∈looks ops.toList o,(E i).get t=lL ops.toList V s.env S ops.toList.length t:=λt ht=>h.seen ho hS hi hn hp ht;have hrel:=Ee hg.env hseen;have hmem:o∈ops.toList:=Jv hi;have hdN:∀ d,o.dst=some d->d<a.tmps.size:=λd hd'=>JQ (hd o hmem d hd') hg.size;have hda:kQ ops.toList i=o.dst:=by simp[kQ,hi]
 have henv:∀ t,lL ops.toList V s.env (dy S i) ops.toList.length t=if o.dst=some t then V i else lL ops.toList V s.env S ops.toList.length t:=by intro t;rw[pg ho (B2 _) hlt,hda]
 have hops:ops[i]?=some o:=by rw[<- JN];exact hi
 -- what is left behind,by value and memory
 have fin:∀(v:Value) (m':Mem),Inv C w0 M m'->Evo m m'->(∀ d,o.dst=some d->RelSV m' v (V i))->jL ops.toList k nd s.G X H (dy S i) m'.G->K (a.put o.dst v) m'.w:=by
  intro v m' h1 h2 h3 h4;refine hK _ m' ⟨h1,by cases o.dst<;>exact hg.defers,by cases o.dst<;>simp[Act.put,hg.size],?_,h4⟩;refine yU h2 hg.env hdN (λd hd'=>?_) (λt ht=>?_)
  ·rw[henv,if_pos hd'];exact h3 d hd'
  rw[henv,if_neg ht]
 -- passed by
 have skip:lR ops.toList o (E i) false->V i=.av .undef->jL ops.toList k nd s.G X H (dy S i) m.G->wpOp P ops Q i K a m.w:=by intro hgo hv hh;unfold wpOp;simp only[hops];rw[mK hg.env hseen hgo];simp only[JS,if_false];exact fin undef m hg.inv (Evo.refl m) (λd _=>by rw[hv];exact(rfl:undef=undef)) hh
 -- carried out
 have run:∀{w1:World} {M1:Own} {m1:Mem} {s':St},lR ops.toList o (E i) true->m1.w=m.w->Inv C w1 M1 m1->(∀ t,RelSV m1 (a.tmps.getD t undef) ((dD ops.toList o (E i)).get t)) ->
   aZ C o ⟨dD ops.toList o (E i),m1.G⟩ some=some s'->V i=s'.env.get (o.dst.getD 0) ->
   (∀ v m',Inv C w1 M1 m'->Evo m1 m'->(∀ d,o.dst=some d->RelSV m' v (V i))->m'.G=s'.G->K (a.put o.dst v) m'.w)->wpOp P ops Q i K a m.w:=by
  intro w1 M1 m1 s' hgo hw hi1 hr hrun hv hfin;unfold wpOp;simp only[hops];rw[mK hg.env hseen hgo];simp only[if_true];left;rw[<- hw];refine BD (s:=⟨dD ops.toList o (E i),m1.G⟩) (K:=some) hC.tab hC.eqs hC.maps hC.con hC.inl hi1 rfl (pL hi1 hr) hrun K Q ?_;rintro v w' ⟨s2,hs2,m',sv,rfl,hs3,q1,q2,q3⟩;cases hs2;refine hfin v m' q1 q2 (λd hd'=>?_) (by rw[hs3];cases o.dst<;>rfl);rw[hv,hs3,EP hd'];exact q3
 by_cases hf:gc o=true
 ·-- looks at no memory
  have hX0:i<k->X i=[]:=λhik=>h.free_new hik hi (by unfold Fr;rw[hf];rfl);have hh:jL ops.toList k nd s.G X H (dy S i) m.G:=om ho h hg.heap hi hX0 (.inl (by unfold Fr;rw[hf];rfl));have go:∀{G:Heap} {s':St},lR ops.toList o (E i) true->aZ C o ⟨dD ops.toList o (E i),G⟩ some=some s'->V i=s'.env.get (o.dst.getD 0)->wpOp P ops Q i K a m.w:=by intro G s' hgo hr hv;refine run hgo rfl hg.inv hrel ((l9 hf hr).2 m.G) hv λv m' q1 q2 q3 q4=>fin v m' q1 q2 q3 ?_;rw[q4];exact hh
  by_cases hik:i<k
  ·rcases(h.stepA i o hik hi).2 with⟨hgo,_,_,_,_,s',hr,hv,_⟩|⟨hgo,_,hv,_⟩
   ·exact go hgo hr hv
   exact skip hgo hv hh
  rcases(h.stepT i o (by omega) hi).2 with⟨hgo,s',hr,hv,_,_⟩|⟨hgo,hv,_⟩
  ·exact go hgo hr hv
  exact skip hgo hv hh
 have hf:gc o=false:=by simpa using hf
 by_cases hik:i<k
 ·-- the first part
  rcases hg.heap with hA|⟨j,j1,j2,j3,j4,j5⟩
  case inr=>
   -- a variable is looked at while the second part is under way
   have hnd:nd i=true:=by
    cases hfr:Fr k nd i o with
    |false=>have:=j3 i o (by omega) hi hfr;rw[hn]at this;cases this
    |true=>unfold Fr at hfr;rw[hf]at hfr;simp only[KN,np]at hfr;exact hfr.2
   have hfr:Fr k nd i o=true:=by unfold Fr;rw[hnd];simp[hik]
   have hX0:X i=[]:=h.free_new hik hi hfr;have hh:jL ops.toList k nd s.G X H (dy S i) m.G:=om ho h hg.heap hi (λ_=>hX0) (.inl hfr);rcases(h.stepA i o hik hi).2 with⟨hgo,_,_,_,hl,s',hr,hv,_⟩|⟨hgo,_,hv,_⟩
   ·have hbx:∀ id l,C.vr id=false->(bE (ms.getD i 0) (L i) s.G).get id=some (.box l)->m.G.get id=some (.box l):=by
     intro id l hvr hl2;rw[h.heapFor_get hle (ms.getD i 0) (j:=i) (by omega)]at hl2;have h1:=tJ ho hX hS hik hn hp hl2;have h2:(H k).get id=some (.box l):=by
      rw[h.hk,h.all_get hle (B2 _),<- h1];refine(gU λq hq=>?_).symm;obtain⟨oq,hoq⟩:∃ o,ops.toList[q]?=some o:=⟨_,A1 (by omega)⟩;cases hfq:Fr k nd q oq with
      |true=>right;rw[h.free_new hq hoq hfq];rfl
      |false=>left;exact j3 q oq (by omega) hoq hfq
     obtain⟨d,rfl⟩:∃ d,j=k+d:=⟨j-k,by omega⟩;rw[j5];refine h.keep_box hvr h2 d j2 λq oq q1 q2 hoq=>?_;cases hfq:Fr k nd q oq with
     |true=>exact .inl rfl
     |false=>
      right;have hSq:=j3 q oq q2 hoq hfq;refine ho.kept q i q1 (by omega) hik hnd ?_;cases hb:bit (ms.getD q 0) i with
      |false=>rfl
      |true=>have:=(hS q hSq).2 i hb;rw[hn]at this;cases this
    refine run hgo rfl hg.inv hrel ((oS (hl hnd) hr).2 m.G hbx) hv λv m' q1 q2 q3 q4=>fin v m' q1 q2 q3 ?_;rw[q4];exact hh
   exact skip hgo hv hh
  rcases(h.stepA i o hik hi).2 with⟨hgo,hL,hsv,hbx,_,s',hr,hv,hsG⟩|⟨hgo,_,hv,hX0⟩
  ·have hGi:=h.heapFor_get hle (ms.getD i 0) (j:=i) (by omega);have hsub:∀ id o,(bE (ms.getD i 0) (L i) s.G).get id=some o->m.G.get id=some o:=by intro id ob hob;rw[hA.2];rw[hGi]at hob;exact tJ ho hX hS hik hn hp hob
   have hBhas:∀ id,s.G.has id=true->(bE (ms.getD i 0) (L i) s.G).has id=true:=by
    intro id hid;obtain⟨ob,hob⟩:=Heap.get_of_has hid;have:(bE (ms.getD i 0) (L i) s.G).get id=some ob:=by
     rw[hGi,i7,hob];intro q hq _;cases hx:(X q).get id with
     |none=>rfl
     |some o'=>rw[hX.base q id o' (by omega) hx]at hob;cases hob
    exact Heap.has_of_get this
   have hbox':∀ id l,(bE (ms.getD i 0) (L i) s.G).get id=some (.box l)->l.all (λa=>cB (bE (ms.getD i 0) (L i) s.G) a)=true:=by
    intro id l hl;rw[hGi]at hl;rcases lA hl with⟨q,h1,h2,h3,_⟩|⟨_,h2⟩
    ·rcases h.l_mem hle (by omega:i<=k) h1 with h4|h4
     ·rw[h4]at h3;simp[Heap.get_nil0,Heap.get_pair]at h3
     rw[B5]at hbx;have h5:=hbx _ h4;simp only[h2,J4,KN]at h5;unfold gh at h5;rw[B5]at h5;exact h5 _ (Heap.mem_of_get h3)
    rw[B5];exactλa ha=>jW hBhas (hbox id l h2 a ha)
   have hin:=DB hg.inv hsub hbox';have hrel':∀ t,RelSV ⟨m.w,m.F,m.ι,bE (ms.getD i 0) (L i) s.G⟩ (a.tmps.getD t undef) ((dD ops.toList o (E i)).get t):=by
    intro t;refine px hsub (hrel t) ?_;rw[B5]at hsv;have hmem':∀(e:Env) (t:Nat),(∀ p∈e,iw (bE (ms.getD i 0) (L i) s.G) p.2=true)->iw (bE (ms.getD i 0) (L i) s.G) (e.get t)=true:=by
     intro e t he;induction e with
     |nil=>rfl
     |cons p r ih=>
      obtain⟨q,v⟩:=p;simp only[Env.get_nil0,Env.get_pair];cases A7 q t with
      |true=>exact he (q,v) (by simp)
      |false=>exact ih λp hp=>he p (by simp[hp])
    exact hmem' _ t hsv
   refine run (m1:=⟨m.w,m.F,m.ι,bE (ms.getD i 0) (L i) s.G⟩) hgo rfl hin hrel' hr hv λv m' q1 q2 q3 q4=>?_;obtain⟨m2,r1,r2,r3,r4,r5⟩:=yV hg.inv hsub q1 q2 (by rw[q4,hsG]) (λid ob hx hnone=>by
    rw[hA.2];rw[hGi]at hnone;exact CS ho hX hS hik hn hx hnone)
   rw[<- r1];refine fin v m2 r3 r4 (λd hd'=>r5 _ _ (q3 d hd')) (.inl ⟨λl o' hl ho' hf'=>?_,λid=>?_⟩)
   ·have:l≠i:=by omega
    simp only[dy,hA.1 l o' hl ho' hf',KN,beq_eq_false_iff_ne,ne_eq];exact this
   rw[r2,Heap.get_append,D0 ho hX hS hik hn,hA.2];try (cases(X i).get id<;>rfl)
  exact skip hgo hv (om ho h hg.heap hi (λ_=>hX0) (.inr ⟨hik,hn⟩))
 -- the second part
 have hb:∀ l o',l<i->ops.toList[l]?=some o'->Fr k nd l o'=false->S l=true:=by
  intro l o' hl ho' hf';rcases ho.chain i o (by omega) hi l o' hl ho' with hc|hc
  ·exact hp l hc
  rw[hf']at hc;cases hc
 have ha:∀ l o',i<=l->ops.toList[l]?=some o'->Fr k nd l o'=false->S l=false:=by
  intro l o' hl ho' hf';rcases J1 hl with rfl|hl
  ·exact hn
  cases hSl:S l with
  |false=>rfl
  |true=>
   rcases ho.chain l o' (by omega) ho' i o hl hi with hc|hc
   ·rw[(hS l hSl).2 i hc]at hn;cases hn
   have:Fr k nd i o=false:=by unfold Fr;rw[hf];simp[hik]
   rw[this]at hc;cases hc
 have hGH:=xY ho h hg.heap (by omega) (by omega) hb ha;have hafter:∀ G:Heap,(∀ id,G.get id=(H (i+1)).get id)->jL ops.toList k nd s.G X H (dy S i) G:=by
  intro G hG;refine .inr ⟨i+1,by omega,by omega,λl o' hl ho' hf'=>?_,λl o' hl ho' hf'=>?_,hG⟩
  ·by_cases e:l=i
   ·simp[dy,e]
   simp[dy,hb l o' (by omega) ho' hf']
  have:l≠i:=by omega
  simp only[dy,ha l o' (by omega) ho' hf',KN,beq_eq_false_iff_ne,ne_eq];exact this
 rcases(h.stepT i o (by omega) hi).2 with⟨hgo,s',hr,hv,hsG,_⟩|⟨hgo,hv,hH⟩
 ·obtain⟨hi1,he1⟩:=rF hg.inv (G':=H i) λid=>(hGH id).symm;refine run (m1:=⟨m.w,m.F,m.ι,H i⟩) hgo rfl hi1 (λt=>fm he1 (hrel t)) hr hv λv m' q1 q2 q3 q4=>?_;exact fin v m' q1 (Evo.trans he1 q2) q3 (hafter _ λid=>by rw[q4,hsG])
 exact skip hgo hv (hafter _ λid=>by rw[hH];exact hGH id)
theorem xU{S:Nat->Bool}{i:Nat}(hS:S i=false):∀{n:Nat},i<n->(JZ n).countP (dy S i)=(JZ n).countP S+1
 |0,h=>by omega
 |n+1,h=>by
  rw[List.range_succ,L9,L9];by_cases e:i=n
  ·subst e;have h1:(JZ i).countP (dy S i)=(JZ i).countP S:=by
    refine List.countP_congr λx hx=>?_;have:=Kq.1 hx;have hne:x≠i:=by omega
    simp[dy,hne]
   rw[h1];simp[dy,hS]
  rw[xU hS (by omega:i<n)];have:dy S i n=S n:=by simp[dy,Ne.symm e]
  simp[List.countP_cons,this];omega
theorem jJ(hm:P.follows .mixedOrders=true):gE P:=by
 intro C w0 M N a m s R res K id lt ops Q hC hs hG hd h hQ;refine wp_region_any hm ?_;obtain⟨k,nd,kd,V,X,E,L,H,ho,ht,hN,hKr⟩:=qH h;have hX:=ht.sep ho.le hN;have hdst:=pe hd;have hlen:ops.toList.length=ops.size:=by simp
 have hbox:∀ id l,s.G.get id=some (.box l)->∀ a∈l,cB s.G a=true:=by intro id l hl a ha;rw[<- hG]at hl ⊢;obtain⟨b,c,el,_,_,_,h3⟩:=hs.inv.objs id _ hl;exact gq h3 a ha
 -- the draw
 obtain⟨d1,d2⟩:=zt hs.inv (w1:={ m.w with drawn:=m.w.drawn+1 }) ⟨rfl,rfl,rfl,B2 _,λ_ _ _=>rfl⟩
 let SS:Array Bool->Nat->Bool:=λl j=>l.getD j false
 have set_S:∀(l:Array Bool) (i:Nat),i<l.size->SS (l.setIfInBounds i true)=dy (SS l) i:=by
  intro l i hi;funext j;show(l.setIfInBounds i true).getD j false=(l.getD j false||j==i);by_cases e:j=i
  ·subst e;simp[hi]
  rw[getD_set_ne false (Ne.symm e)];simp[e]
 have last:∀{S:Nat->Bool} {a:Act} {m:Mem},(∀ i,i<ops.size->S i=true)->Good C w0 M N ops.toList k nd s V X H S a m->Q .normal a m.w:=by
  intro S a m hall hg;have hGH:=xY ho ht hg.heap ho.le (B2 _) (λl o hl _ _=>hall l (by omega)) (λl o hl ho' _=>by
   have:=(A2.1 ho').1;omega)
  obtain⟨hi1,he1⟩:=rF hg.inv (G':=H ops.toList.length) λid=>(hGH id).symm;refine hQ ⟨E ops.toList.length,H ops.toList.length⟩ a ⟨m.w,m.F,m.ι,H ops.toList.length⟩ hKr rfl ⟨hi1,hg.defers,hg.size,λt=>?_⟩;show RelSV _ _ ((E ops.toList.length).get t);rw[ht.env ho (B2 _)];rw[ii (S':=S) λq hq _=>by rw[hall q (by omega)];exact decide_eq_true hq];exact fm he1 (hg.env t)
 have key:∀(fuel:Nat) (listed:Array Bool) (a:Act) (m:Mem),listed.size=ops.size->ops.size<=fuel+(JZ ops.size).countP (SS listed) ->
   Closed ops.toList (f9 ops.toList []) (SS listed)->Good C w0 M N ops.toList k nd s V X H (SS listed) a m->wpAny P .any ops Q fuel listed a m.w:=by
  intro fuel;induction fuel with
  |zero=>
   intro listed a m hsz hcnt hcl hg;have hall:∀ i,i<ops.size->SS listed i=true:=by
    have h1:(JZ ops.size).countP (SS listed)=(JZ ops.size).length:=by have:=List.countP_le_length (p:=SS listed) (l:=JZ ops.size);simp only[List.length_range]at this ⊢;omega
    rw[List.countP_eq_length]at h1;exactλi hi=>h1 i (Kq.2 hi)
   refine⟨?_,last hall hg⟩;unfold Region.ready;rw[List.filter_eq_nil_iff];intro i hi;have hi:=Kq.1 hi;have h1:listed.getD i false=true:=hall i hi;have:listed.getD i true=true:=by
    have hlt:i<listed.size:=by omega
    simpa[hlt]using h1
   rw[this];simp
  |succ fuel ih=>
   intro listed a m hsz hcnt hcl hg;refine⟨λhr=>last ?_ hg,λi hi=>?_⟩
   ·intro i;induction i using Nat.strongRecOn with
    |ind i ih2=>
     intro hi;cases hh:SS listed i with
     |true=>rfl
     |false=>
      have:i∈Region.ready .any ops listed:=by
       rw[mem_ready];have hh:listed.getD i false=false:=hh;have hlt:i<listed.size:=by omega
       refine⟨by simpa[hlt]using hh,ops[i],by simp[hi],λe he hb=>?_⟩;have hon:=ho.edge i ops[i] e (by rw[JN];simp[hi]) (by simpa using he) hb;exact ih2 e.on hon (by omega)
      rw[hr]at this;cases this
   obtain⟨h1,o,ho1,h2⟩:=mem_ready.1 hi;have hlt:i<ops.size:=(Jt.1 ho1).1;have hlt':i<listed.size:=by omega
   have hn:SS listed i=false:=by show listed.getD i false=false;simpa[hlt']using h1
   have hi':ops.toList[i]?=some o:=by rw[JN];exact ho1
   have hp:∀ j,bit ((f9 ops.toList []).getD i 0) j=true->SS listed j=true:=by
    intro j hj;obtain⟨e,he,hb,h3⟩:=(ho.pre i o j hi').1 hj;have hon:SS listed e.on=true:=h2 e (by simpa using he) hb;rcases h3 with h3|h3
    ·rw[<- h3];exact hon
    exact(hcl e.on hon).2 j h3
   refine zr hC ho ht hX hbox hdst hg hcl hi' hn hp λa' m' hg'=>?_;refine ih (listed.setIfInBounds i true) a' m' (by simp[hsz]) ?_ ?_ ?_
   ·rw[set_S listed i hlt',xU hn hlt];omega
   ·rw[set_S listed i hlt'];exact hcl.put ho (by omega) hp
   rw[set_S listed i hlt'];exact hg'
 have hS0:SS (KZ ops.size false)=λ_=>false:=by funext j;show(KZ ops.size false).getD j false=false;simp[Array.getElem?_replicate];split<;>rfl
 refine key ops.size _ a ⟨{ m.w with drawn:=m.w.drawn+1 },m.F,m.ι,m.G⟩ (by simp) (by omega) ?_ ⟨d1,hs.defers,hs.size,λt=>?_,.inl ⟨λl o _ _ _=>by rw[hS0],λid=>?_⟩⟩
 ·rw[hS0];intro i hi;cases hi
 ·rw[hS0,nI λ_ _ _=>rfl];exact fm d2 (hs.env t)
 rw[hS0,i7 (λq _ hq=>by cases hq),<- hG]
end
end Go.Vm

/-
 Equality of structs.
-/
namespace Go.Vm
def Ty.deep:Ty->Nat
 |.prod a b=>max (a.deep+1) b.deep
 |.arr _ e=>e.deep+1
 |_=>1
def Ty.Within(d:Nat):Ty->Prop
 |.prod a b=>a.deep<=d/\b.deep<=d+1
 |_=>True
def fb(P:Program):Ty->Option (List Field×Nat)->TypeId->Bool
 |.int _,none,_=>true
 |.bool,none,_=>true
 |.str,none,_=>true
 |.prod a b,none,t=>!(P.stoodInHeld t)&&(match P.underlying t with
  |some (.struct fs)=>(match fs.toList with
   | f :: r => (f.name != "_") && fb P a none f.type && fb P b (some (r, a.size)) 0
   |[]=>false)
  |_=>false)
 |.unit,none,t=>!(P.stoodInHeld t)
 |.arr _ e,none,t=>(match P.underlying t with
  |some (.array _ et)=>fb P e none et
  |_=>false)
 | .prod a b, some (f :: r, o), _ => (f.name != "_") && fb P a none f.type && fb P b (some (r, o + a.size)) 0
 |.unit,some ([],_),_=>true
 |_,_,_=>false
def xi(P:Program)(T:Tab)(eqs:List Nat):Bool:=eqs.all λt=>match T.get t with
 |some τ=>fb P τ none t&&JK τ.deep 9000 && !(P.eqGuardType P.depth t)
 |none=>true
section
variable {P:Program}
theorem jj {τ : Ty}{t:TypeId}(h:chk P τ none t=true)(us:List Value)(o:Nat)(hl:o+τ.size<=us.length)(w:World) :
  (part t us.toArray o).run P w=.ok (toV τ ((us.drop o).take τ.size)) w:=by
 cases ha:τ.isAgg with
 |true=>simp[part,cV h,ha,bt h,toV,List.drop_take]
 |false=>
  have h1':=ej ha;have hlt:o<us.length:=by omega
  simp only[part,Sem.run_bind,cV h,ha,Result.andThen_ok,JS,if_false,Jy,A1 hlt,toV,UB,h1',Sem.run_pure];rw[List.drop_eq_getElem_cons hlt];rfl
theorem pZ{α:Type}(p c r:List α):((p++(c++r)).drop p.length).take c.length=c:=by simp
theorem qW{b:Ty}{d:Nat}(h:b.deep<=d+1):b.Within d:=by cases b<;>simp only[Ty.deep,Ty.Within]at h ⊢;omega
mutual
theorem xX {w:World}{F:Nat->Prop}:∀{τ : Ty} {t:TypeId} {d:Nat} {cs cs':List Value} {x y : τ.den} {r:Bool},chk P τ none t=true->fb P τ none t=true->τ.deep<=d->eqT τ x y=some r->Rd w F τ cs x->Rd w F τ cs' y ->
  ∀ w',(Op.equalIn d t (toV τ cs) (toV τ cs')).run P w'=.ok r w'
 |.int k,t,d,cs,cs',x,y,r,h1,_,h3,h4,h5,h6,w'=>by obtain⟨d,rfl⟩:∃ d',d=d'+1:=⟨d-1,by simp only[Ty.deep]at h3;omega⟩;obtain⟨rfl,_⟩:=h5;obtain⟨rfl,_⟩:=h6;simp only[eqT,aw]at h4;subst h4;exact run_equalIn_int w' d t k k x y (iS h1)
 |.bool,t,d,cs,cs',x,y,r,h1,_,h3,h4,h5,h6,w'=>by
  obtain⟨d,rfl⟩:∃ d',d=d'+1:=⟨d-1,by simp only[Ty.deep]at h3;omega⟩;unfold Rd at h5 h6;subst h5;subst h6
  simp only[eqT,aw]at h4;subst h4;exact run_equalIn_bool' w' d t x y (lD h1)
 |.str,t,d,cs,cs',x,y,r,h1,_,h3,h4,h5,h6,w'=>by obtain⟨d,rfl⟩:∃ d',d=d'+1:=⟨d-1,by simp only[Ty.deep]at h3;omega⟩;obtain⟨rfl,_⟩:=h5;obtain⟨rfl,_⟩:=h6;simp only[eqT,aw]at h4;subst h4;exact run_equalIn_string w' d t x y (fp h1)
 |.prod a b,t,d,cs,cs',x,y,r,h1,h2,h3,h4,h5,h6,w'=>by
  simp only[fb,np,Jw]at h2;obtain⟨hp,h2⟩:=h2;simp only[chk,np]at h1;obtain⟨_,h1⟩:=h1;split at h2
  ·rename_i fs hu;rw[hu]at h1;simp only at h1;split at h2
   ·rename_i f rest hfs;rw[hfs]at h1;simp only[np]at h1 h2;obtain⟨⟨c1,c2⟩,c3⟩:=h1;obtain⟨⟨e1,e2⟩,e3⟩:=h2;obtain⟨d,rfl⟩:∃ d',d=d'+1:=⟨d-1,by simp only[Ty.deep]at h3;omega⟩;have hfo:P.fieldsOf t=fs:=by unfold Program.fieldsOf;rw[hu]
    show(Op.equalIn (d+1) t (.agg cs.toArray) (.agg cs'.toArray)).run P w'=_;rw[run_equalIn_struct w' d t cs.toArray cs'.toArray (by rw[hfo];exact hu) hp,hfo,hfs];have:=qV (τ:=.prod a b) (fs:=f::rest) (o:=0) (d:=d) (pre:=[]) (pre':=[]) (suf:=[]) (suf':=[]) (by simp[chk,c1,c2];simpa using c3) (by simp only[fb,np];exact⟨⟨e1,e2⟩,by simpa using e3⟩) (by
     simp only[Ty.deep]at h3;exact⟨by omega,by omega⟩) h4 h5 h6 rfl rfl w'
    simpa using this
   simp at h2
  simp at h2
 |.unit,t,d,cs,cs',x,y,r,h1,h2,h3,h4,h5,h6,w'=>by
  simp only[fb,Jw]at h2;simp only[chk,np]at h1;obtain⟨_,h1⟩:=h1;split at h1
  ·rename_i fs hu;split at h1
   ·rename_i hfs;obtain⟨d,rfl⟩:∃ d',d=d'+1:=⟨d-1,by simp only[Ty.deep]at h3;omega⟩;have hfo:P.fieldsOf t=fs:=by unfold Program.fieldsOf;rw[hu]
    show(Op.equalIn (d+1) t (.agg cs.toArray) (.agg cs'.toArray)).run P w'=_;rw[run_equalIn_struct w' d t cs.toArray cs'.toArray (by rw[hfo];exact hu) h2,hfo,hfs];simp only[eqT,aw]at h4;subst h4;simp[Op.eqFields]
   simp at h1
  simp at h1
 |.slice _,_,_,_,_,_,_,_,_,_,_,h4,_,_,_=>by simp[eqT]at h4
 |.arr n e,t,d,cs,cs',x,y,r,h1,h2,h3,h4,h5,h6,w'=>by
  obtain⟨d,rfl⟩:∃ d',d=d'+1:=⟨d-1,by simp only[Ty.deep]at h3;omega⟩;simp only[Ty.deep]at h3;obtain⟨et,hu,he⟩:=kL h1;simp only[fb,hu]at h2;obtain⟨ie,ze,s1,s2,_⟩:=dn he;obtain⟨l1,l2,l3⟩:=h5;obtain⟨k1,k2,k3⟩:=h6;have hc:P.cellsOf et=e.size:=by unfold Program.cellsOf;rw[s1];simpa using s2
  show (Op.equalIn (d+1) t (.agg cs.toArray) (.agg cs'.toArray)).run P w'=_;rw[run_equalIn_array w' d cs.toArray cs'.toArray hu s1,hc];have items:∀(q q':List e.den) (i:Nat) (r:Bool),vT (eqT e) q q'=some r->i+q.length=n->i+q'.length=n->(∀ j (hj:j < q.length),Rd w F e ((cs.drop ((i+j) * e.size)).take e.size) q[j])->(∀ j (hj:j < q'.length),Rd w F e ((cs'.drop ((i+j) * e.size)).take e.size) q'[j]) ->
    (Op.eqItems d et e.size cs.toArray cs'.toArray (List.range' i q.length)).run P w'=.ok r w':=by
   intro q;induction q with
   |nil=>
    intro q' i r hr hq hq' _ _;cases q' with
    |nil=>simp only[vT,aw]at hr;subst hr;simp[Op.eqItems]
    |cons b q'=>simp[vT]at hr
   |cons a q ih=>
    intro q' i r hr hq hq' hR hR';cases q' with
    |nil=>simp[vT]at hr
    |cons b q'=>
     simp only[B6]at hq hq';have hle:(i+1)*e.size<=n*e.size:=Nat.mul_le_mul_right _ (by omega);rw[Nat.add_mul,Nat.one_mul]at hle;have p1:=jj he cs (i*e.size) (by omega) w';have p2:=jj he cs' (i*e.size) (by omega) w';simp only[vT]at hr;split at hr
     ·rename_i p hp;split at hr
      ·rename_i q2 hq2;cases hr;have ra:=hR 0 (by simp);have rb:=hR' 0 (by simp);simp only[JY,List.getElem_cons_zero]at ra rb;have ha:=xX (d:=d) he h2 (by omega) hp ra rb w';rw[B6,List.range'_succ];simp only[Op.eqItems,Sem.run_bind,p1,p2,Result.andThen_ok,ha];cases p with
       |false=>simp
       |true=>
        simp only[J4,JS,if_false,KO];exact ih q' (i+1) q2 hq2 (by omega) (by omega) (λj hj=>by
         have:=hR (j+1) (by simp;omega);rw[show i+(j+1)=i+1+j by omega]at this;simpa using this) (λj hj=>by
         have:=hR' (j+1) (by simp;omega);rw[show i+(j+1)=i+1+j by omega]at this;simpa using this)
      simp at hr
     simp at hr
  have:=items x y 0 r h4 (by omega) (by omega) (λj hj=>by rw[JP];exact l3 j hj) (λj hj=>by rw[JP];exact k3 j hj);rw[l1]at this;rw[List.range_eq_range'];exact this
 |.ptr _,_,_,_,_,_,_,_,_,_,_,h4,_,_,_=>by simp[eqT]at h4
 |.clo _ _,_,_,_,_,_,_,_,_,_,_,h4,_,_,_=>by simp[eqT]at h4
theorem qV {w:World}{F:Nat->Prop}:∀{τ : Ty} {fs:List Field} {o d:Nat} {cs cs' pre pre' suf suf':List Value} {x y : τ.den} {r:Bool},chk P τ (some (fs,o)) 0=true->fb P τ (some (fs,o)) 0=true ->
  τ.Within d->eqT τ x y=some r->Rd w F τ cs x->Rd w F τ cs' y->pre.length=o->pre'.length=o ->
  ∀ w',(Op.eqFields d (pre++(cs++suf)).toArray (pre'++(cs'++suf')).toArray fs).run P w'=.ok r w'
 |.prod a b,f::rest,o,d,cs,cs',pre,pre',suf,suf',x,y,r,h1,h2,h3,h4,h5,h6,hp,hp',w'=>by
  simp only[chk,np]at h1;simp only[fb,np,bne_iff_ne,ne_eq]at h2;obtain⟨⟨c1,c2⟩,c3⟩:=h1;obtain⟨⟨e1,e2⟩,e3⟩:=h2;have hoff:f.offset=o:=A3 c1;obtain⟨u1,u2,rfl,hu1,hu2⟩:=h5;obtain⟨v1,v2,rfl,hv1,hv2⟩:=h6;have lu:=hu1.len;have lv:=hv1.len;have p1:(part f.type (pre++((u1++u2)++suf)).toArray f.offset).run P w'=.ok (toV a u1) w':=by rw[jj c2 _ _ (by simp;omega),hoff,<- hp,<- lu,Jm u1,pZ]
  have p2:(part f.type (pre'++((v1++v2)++suf')).toArray f.offset).run P w'=.ok (toV a v1) w':=by rw[jj c2 _ _ (by simp;omega),hoff,<- hp',<- lv,Jm v1,pZ]
  simp only[eqT]at h4;split at h4
  ·rename_i p hpp;split at h4
   ·rename_i q hq;cases h4;have ha:=xX c2 e2 h3.1 hpp hu1 hv1 w';simp only[Op.eqFields,e1,not_false_eq_true,if_true,ne_eq,Sem.run_bind,p1,p2,Result.andThen_ok,ha];cases p with
    |false=>simp
    |true=>simp only[J4,JS,if_false,KO];have hb3:b.Within d:=qW h3.2;have:=qV (τ:=b) (fs:=rest) (o:=o+a.size) (d:=d) (pre:=pre++u1) (pre':=pre'++v1) (suf:=suf) (suf':=suf') c3 e3 hb3 hq hu2 hv2 (by simp;omega) (by simp;omega) w';simpa using this
   simp at h4
  simp at h4
 |.prod a b,[],_,_,_,_,_,_,_,_,_,_,_,h1,_,_,_,_,_,_,_,_=>by simp[chk]at h1
 |.unit,[],o,d,cs,cs',pre,pre',suf,suf',x,y,r,h1,h2,h3,h4,h5,h6,hp,hp',w'=>by simp only[eqT,aw]at h4;subst h4;simp[Op.eqFields]
 |.unit,_::_,_,_,_,_,_,_,_,_,_,_,_,h1,_,_,_,_,_,_,_,_=>by simp[chk]at h1
 |.int _,_,_,_,_,_,_,_,_,_,_,_,_,h1,_,_,_,_,_,_,_,_=>by simp[chk]at h1
 |.bool,_,_,_,_,_,_,_,_,_,_,_,_,h1,_,_,_,_,_,_,_,_=>by simp[chk]at h1
 |.str,_,_,_,_,_,_,_,_,_,_,_,_,h1,_,_,_,_,_,_,_,_=>by simp[chk]at h1
 |.slice _,_,_,_,_,_,_,_,_,_,_,_,_,h1,_,_,_,_,_,_,_,_=>by simp[chk]at h1
 |.arr _ _,_,_,_,_,_,_,_,_,_,_,_,_,h1,_,_,_,_,_,_,_,_=>by simp[chk]at h1
 |.ptr _,_,_,_,_,_,_,_,_,_,_,_,_,h1,_,_,_,_,_,_,_,_=>by simp[chk]at h1
 |.clo _ _,_,_,_,_,_,_,_,_,_,_,_,_,h1,_,_,_,_,_,_,_,_=>by simp[chk]at h1
end
theorem l5{C:Ctx}(hT:cb P C.tab=true)(h:xi P C.tab C.eqs=true):Ew P C:=by
 intro t τ ht ha hin w F cs cs' x y r hr h1 h2;rw[KM]at hin;obtain⟨e,he,hee⟩:=hin;have:e=t:=A3 hee;subst this;unfold xi at h;rw[B5]at h;have:=h e he;rw[ht]at this;simp only[np,Jw]at this;obtain⟨⟨c1,c2⟩,c3⟩:=this;refine⟨λw'=>?_,λop p q w'=>?_⟩
 ·show(Op.equalIn Op.maxDepth e _ _).run P w'=_;exact xX (aj hT ht (yK ha)) c1 (by have:=JF c2;show τ.deep<=10000;omega) hr h1 h2 w'
 have e1:toV τ cs=.agg cs.toArray:=by simp[toV,ha]
 have e2:toV τ cs'=.agg cs'.toArray:=by simp[toV,ha]
 rw[e1,e2];exact run_eqGuard_agg w' op e p q _ _ c3
end
end Go.Vm

