/-
 A machine on typed values, small enough to be reckoned by the kernel, and the proof that it goes with the model: part 5 of 5. What it computes for a function is that function's contract. No condition of its own.
-/
import Derived.Test.YtganppkchbnikaaGreatDoorVmD
import Derived.Lib.LaidTab
import Derived.WideKeyArgs
import Derived.ChangeSame
import Derived.RowKit
import Derived.Test.YtganppkchbnikaaGreatDoorVmA
import Derived.IntWalk
import Derived.Laws.Strings
open Option.some renaming injEq->aw,inj->B7
open Option renaming bind_some->dg,bind_eq_some_iff->A6,map_eq_some_iff->Kl,pure_def->LF
open Bool renaming and_eq_true->np,not_eq_true'->Jw
open List renaming getElem?_eq_getElem->A1,getElem?_eq_some_iff->A2,mem_cons->A8,mem_cons_of_mem->Jq,append_nil->Jz,map_cons->JA,mem_map->KW,getElem_of_mem->K1,getElem?_append_right->K8,mapM_cons->Mz,mapM_nil->MD
open Nat renaming eq_of_beq_eq_true->A3,beq->A7,le_refl->B2,le_of_ble_eq_true->JF,zero_le->K0,blt->Lx
open Sum renaming elim->A9
open Array renaming getElem?_eq_some_iff->Jt,length_toList->JD,getElem?_toList->JN,forIn_toList->L3
open List.Pairwise renaming nil->KH
open List.cons renaming injEq->KJ
set_option linter.unusedVariables false
set_option linter.unusedSimpArgs false
/-
 Maps: what is asked of their types, checked once.
-/
namespace Go.Vm
section
variable {P:Program}
mutual
theorem D9 {w:World}{F:Nat->Prop}(em:Bool):∀{τ : Ty} {t:TypeId} {d:Nat} {cs:List Value} {x : τ.den},chk P τ none t=true->fb P τ none t=true->τ.plain=true->τ.deep<=d->Rd w F τ cs x ->
  ∀ w',(Instr.checkKey em d t (toV τ cs)).run P w'=.ok () w'
 |.int k,t,d,cs,x,h1,_,_,h3,h5,w'=>by obtain⟨d,rfl⟩:∃ d',d=d'+1:=⟨d-1,by simp only[Ty.deep]at h3;omega⟩;obtain⟨rfl,_⟩:=h5;simp[Instr.checkKey,run_underlying (iS h1),toV,Ty.isAgg]
 |.bool,t,d,cs,x,h1,_,_,h3,h5,w'=>by obtain⟨d,rfl⟩:∃ d',d=d'+1:=⟨d-1,by simp only[Ty.deep]at h3;omega⟩;unfold Rd at h5;subst h5;simp[Instr.checkKey,run_underlying (lD h1),toV,Ty.isAgg]
 |.str,t,d,cs,x,h1,_,_,h3,h5,w'=>by obtain⟨d,rfl⟩:∃ d',d=d'+1:=⟨d-1,by simp only[Ty.deep]at h3;omega⟩;obtain⟨rfl,_⟩:=h5;simp[Instr.checkKey,run_underlying (fp h1),toV,Ty.isAgg]
 |.prod a b,t,d,cs,x,h1,h2,hpl,h3,h5,w'=>by
  simp only[fb,np,Jw]at h2;obtain⟨hp,h2⟩:=h2;simp only[chk,np]at h1;obtain⟨_,h1⟩:=h1;split at h2
  ·rename_i fs hu;rw[hu]at h1;simp only at h1;split at h2
   ·rename_i f rest hfs;rw[hfs]at h1;simp only[np]at h1 h2;obtain⟨⟨c1,c2⟩,c3⟩:=h1;obtain⟨⟨e1,e2⟩,e3⟩:=h2;obtain⟨d,rfl⟩:∃ d',d=d'+1:=⟨d-1,by simp only[Ty.deep]at h3;omega⟩;have:=pq (F:=F) (w:=w) em (τ:=.prod a b) (fs:=f::rest) (o:=0) (d:=d) (cs:=cs) (x:=x) (pre:=[]) (suf:=[]) (by simp[chk,c1,c2];simpa using c3) (by simp only[fb,np];exact⟨⟨e1,e2⟩,by simpa using e3⟩) hpl (by
     simp only[Ty.deep]at h3;exact⟨by omega,by omega⟩) h5 rfl w'
    simp only[List.nil_append,Jz]at this;simp only[toV,Ty.isAgg,UA,Instr.checkKey,Sem.run_bind,run_underlying hu,Result.andThen_ok];rw[<- L3,hfs];rw[this];rfl
   simp at h2
  simp at h2
 |.unit,t,d,cs,x,h1,h2,_,h3,h5,w'=>by
  simp only[chk,np]at h1;obtain⟨_,h1⟩:=h1;split at h1
  ·rename_i fs hu;split at h1
   ·rename_i hfs;obtain⟨d,rfl⟩:∃ d',d=d'+1:=⟨d-1,by simp only[Ty.deep]at h3;omega⟩;simp only[toV,Ty.isAgg,UA,Instr.checkKey,Sem.run_bind,run_underlying hu,Result.andThen_ok];rw[<- L3,hfs];simp
   simp at h1
  simp at h1
 |.slice _,_,_,_,_,_,_,h,_,_,_=>by cases h
 |.arr _ _,_,_,_,_,_,_,h,_,_,_=>by cases h
 |.ptr _,_,_,_,_,_,_,h,_,_,_=>by cases h
 |.clo _ _,_,_,_,_,_,_,h,_,_,_=>by cases h
theorem pq {w:World}{F:Nat->Prop}(em:Bool):∀{τ : Ty} {fs:List Field} {o d:Nat} {cs pre suf:List Value} {x : τ.den},chk P τ (some (fs,o)) 0=true->fb P τ (some (fs,o)) 0=true->τ.plain=true ->
  τ.Within d->Rd w F τ cs x->pre.length=o ->
  ∀ w',(forIn (m:=Sem) fs PUnit.unit λf (_:PUnit)=>(do
   if f.name ≠ "_" then Instr.checkKey em d f.type (<- part f.type (pre ++ (cs ++ suf)).toArray f.offset)
   pure (ForInStep.yield PUnit.unit))).run P w'=.ok PUnit.unit w'
 |.prod a b,f::rest,o,d,cs,pre,suf,x,h1,h2,hpl,h3,h5,hp,w'=>by
  simp only[chk,np]at h1;simp only[fb,np,bne_iff_ne,ne_eq]at h2;simp only[Ty.plain,np]at hpl;obtain⟨⟨c1,c2⟩,c3⟩:=h1;obtain⟨⟨e1,e2⟩,e3⟩:=h2;have hoff:f.offset=o:=A3 c1;obtain⟨u1,u2,rfl,hu1,hu2⟩:=h5;have lu:=hu1.len;have p1:(part f.type (pre++((u1++u2)++suf)).toArray f.offset).run P w'=.ok (toV a u1) w':=by rw[jj c2 _ _ (by simp;omega),hoff,<- hp,<- lu,List.append_assoc u1,pZ]
  have ha:=D9 em c2 e2 hpl.1 h3.1 hu1 w';have hb3:b.Within d:=qW h3.2;have:=pq em (τ:=b) (fs:=rest) (o:=o+a.size) (d:=d) (pre:=pre++u1) (suf:=suf) c3 e3 hpl.2 hb3 hu2 (by simp;omega) w';simp only[List.forIn_cons,Sem.run_bind,e1,ne_eq,not_false_eq_true,if_true,Result.andThen_ok,p1,ha,Sem.run_pure];simpa using this
 |.prod a b,[],_,_,_,_,_,_,h1,_,_,_,_,_,_=>by simp[chk]at h1
 |.unit,[],o,d,cs,pre,suf,x,h1,h2,_,h3,h5,hp,w'=>by simp
 |.unit,_::_,_,_,_,_,_,_,h1,_,_,_,_,_,_=>by simp[chk]at h1
 |.int _,_,_,_,_,_,_,_,h1,_,_,_,_,_,_=>by simp[chk]at h1
 |.bool,_,_,_,_,_,_,_,h1,_,_,_,_,_,_=>by simp[chk]at h1
 |.str,_,_,_,_,_,_,_,h1,_,_,_,_,_,_=>by simp[chk]at h1
 |.slice _,_,_,_,_,_,_,_,h1,_,_,_,_,_,_=>by simp[chk]at h1
 |.arr _ _,_,_,_,_,_,_,_,h1,_,_,_,_,_,_=>by simp[chk]at h1
 |.ptr _,_,_,_,_,_,_,_,h1,_,_,_,_,_,_=>by simp[chk]at h1
 |.clo _ _,_,_,_,_,_,_,_,h1,_,_,_,_,_,_=>by simp[chk]at h1
end
theorem nG:∀{τ:Ty},τ.plain=true->∀ x y:τ.den,eqT τ x y=some (eqK τ x y)
 |.int _,_,_,_=>rfl
 |.bool,_,_,_=>rfl
 |.str,_,_,_=>rfl
 |.prod a b,h,x,y=>by simp only[Ty.plain,np]at h;have h1:=nG h.1 x.1 y.1;have h2:=nG h.2 x.2 y.2;unfold eqK;simp only[eqT,h1,h2]
 |.unit,_,_,_=>rfl
 |.slice _,h,_,_=>by cases h
 |.arr _ _,h,_,_=>by cases h
 |.ptr _,h,_,_=>by cases h
 |.clo _ _,h,_,_=>by cases h
def BM(P:Program)(p:Nat×(Ty×Ty)):Bool:=match P.underlying p.1 with
 |some (.map kt vt)=>chk P p.2.1 none kt&&chk P p.2.2 none vt&&p.2.1.plain&&p.2.2.flat && !(decide (p.2.1=.unit))&&fb P p.2.1 none kt&&Nat.ble p.2.1.deep 9000
 |_=>false
def mn(P:Program)(T:List (Nat×(Ty×Ty))):Bool:=T.all (BM P)
theorem wo{T:List (Nat×(Ty×Ty))}:∀{t:Nat} {p:Ty×Ty},fg T t=some p->(t,p)∈T:=by
 induction T with
 |nil=>intro t p h;simp[fg]at h
 |cons q r ih=>
  intro t p h;obtain⟨i,v⟩:=q;simp only[fg]at h;cases hb:A7 i t with
  |true=>rw[hb]at h;simp at h;subst h;rw[A3 hb];simp
  |false=>rw[hb]at h;exact Jq _ (ih h)
theorem jO{C:Ctx}(h:mn P C.maps=true):nh P C:=by
 intro t k v ht;unfold mn at h;rw[List.all_eq_true]at h;have:=h _ (wo ht);unfold BM at this;simp only at this;split at this
 ·rename_i kt vt hu;simp only[np]at this;obtain⟨⟨⟨⟨⟨⟨c1,c2⟩,c3⟩,c4⟩,c0⟩,c5⟩,c6⟩:=this;have c0:¬k=.unit:=by simpa using c0
  have c6:=JF c6;exact⟨kt,vt,hu,c1,c2,c3,c0,c4,λw F cs x em hx w'=>D9 em c1 c5 c3 (by omega) hx w',λw w1 F F1 cs cs' x y hx hy w'=>by
   show(Op.equalIn Op.maxDepth kt _ _).run P w'=_;exact xX c1 c5 (by show k.deep<=10000;omega) (nG c3 x y) hx (jV (gH c3) hy w F) w'⟩
 simp at this
end
end Go.Vm

/-
 A function's contract, from its text and its loops.
-/
namespace Go.Vm
structure LoopPf (C:Ctx)(A:Anns)(body:Code) where
 key:Nat
 ann:Ann
 B:ann.head.ty.den->Option (ann.head.ty.den⊕kX ann.exits)
 fix:ann.fn=aa B
 R:∀ x,round C A ann (eh key body) x=B x
theorem uo {C:Ctx}{A:Anns}{body:Code}(l:List (LoopPf C A body))(h1:aG body=l.map fun p=>eh p.key body)
  (h2:(l.map λp=>A.get (bT (eh p.key body)))=l.map λp=>some p.ann):mI C A (aG body):=by
 intro c hc ann hann x y hy;rw[h1]at hc;obtain⟨p,hp,rfl⟩:=KW.1 hc;have h3:A.get (bT (eh p.key body))=some p.ann:=by
  clear h1 hc;induction l with
  |nil=>simp at hp
  |cons q l ih=>
   simp only[JA,KJ]at h2;rcases A8.1 hp with rfl|hp
   ·exact h2.1
   exact ih h2.2 hp
 rw[h3]at hann;cases hann;rw[p.fix]at hy;have:round C A p.ann (eh p.key body)=p.B:=funext p.R;rw[this];exact dp.1 hy
structure SeatOK (P:Program)(T:Tab)(eqs:List Nat):Prop where
 tab:cb P T=true
 eqs:xi P T eqs=true
 order:P.follows .mixedOrders=true
theorem SeatOK.ctx{P:Program}{C:Ctx}(h:SeatOK P C.tab C.eqs)(hm:mn P C.maps=true)(hc:∀ f site c,C.con f site=some c->c.Holds P C.glob f)(hn:∀ f,C.inl f=none):CtxOK P C:=
 ⟨h.tab,l5 h.tab h.eqs,jO hm,hc,λf r h=>by rw[hn f]at h;cases h⟩
theorem Bg {d:Bool}{P:Program}{C:Ctx}{A:Anns}{f:FuncId}{fn:Func}{ins:List (Mode×Ty)}{outs:ks}{M:(ac (ins.map (·.2))).den->Option (ac ((outs.map (·.2)).map (·.2)++aN ins)).den}
  (hS:SeatOK P C.tab C.eqs) (hc:∀ f site c,C.con f site=some c->c.Holds P C.glob f) (hf:P.funcs[f]?=some fn) (hb:fn.body=some (aW fn))
  (hL : mI C A (aG (aW fn))) (hk : (!(fn.name == "runtime.NumGoroutine") && dc fn.ntmps (aW fn) && n7 A ins && lO P outs && mn P C.maps) = true) (hres : fn.results = (outs.map (·.1)).toArray)
  (heq:∀ x,k6 C A (aW fn) ins outs x d=M x) (hn:∀ f,C.inl f=none):Con.Holds P C.glob f ⟨ins,outs.map (·.2),M,d⟩:=by
 simp only[np,Jw]at hk;obtain⟨⟨⟨⟨k1,k2⟩,k3⟩,k4⟩,k5⟩:=hk;exact rq (hS.ctx k5 hc hn) (jJ hS.order) hf hb k1 hL k2 k3 hres k4 heq
end Go.Vm

/-
 A law's arguments, read as data, are readings of the machine; and the law's statement from the contract of its function.
-/
namespace Go.Vm
open Go.ChangeShapes Go.RowKit
def Ty.good:Ty->Bool
 |.int _=>true
 |.bool=>true
 |.str=>true
 |.slice e=>e.good&&Lx 0 e.size
 |.prod a b=>a.good&&b.good
 |.unit=>true
 |.arr _ e=>e.good
 |_=>false
def Wf:(τ:Ty)->τ.den->Prop
 |.int k,n=>k.min<=n/\n<=k.max
 |.bool,_=>True
 |.str,s=>s.size<=maxLen
 |.slice e,l=>l.length<=maxLen/\∀ x∈l,Wf e x
 |.prod a b,x=>Wf a x.1/\Wf b x.2
 |.unit,_=>True
 |.arr n e,l=>l.length=n/\∀ x∈l,Wf e x
 |.ptr e,x=>Wf e x
 |.clo _ e,x=>Wf e x
theorem Rd.wf{w:World}{F:Nat->Prop}:∀{τ:Ty} {cs:List Value} {x:τ.den},Rd w F τ cs x->Wf τ x
 |.int _,_,_,h=>h.2
 |.bool,_,_,_=>trivial
 |.str,_,_,h=>h.2
 |.slice e,_,l,h=>by obtain⟨a,cap,_,h2,h3,h4⟩:=h;refine⟨by omega,λx hx=>?_⟩;obtain⟨i,hi,rfl⟩:=K1 hx;obtain⟨b,off,c,el,fz,_,_,_,_,q5⟩:=h4 (List.ne_nil_of_mem hx);exact(q5 i hi).wf
 |.prod a b,_,_,h=>by obtain⟨c1,c2,_,h1,h2⟩:=h;exact⟨h1.wf,h2.wf⟩
 |.unit,_,_,_=>trivial
 |.arr n e,_,l,h=>by obtain⟨h1,_,h3⟩:=h;refine⟨h1,λx hx=>?_⟩;obtain⟨i,hi,rfl⟩:=K1 hx;exact(h3 i hi).wf
 |.ptr e,_,_,h=>by obtain⟨b,off,c,el,fz,_,_,_,_,h⟩:=h;exact Rd.wf (τ:=e) h
 |.clo g e,_,_,h=>by obtain⟨vs,_,h⟩:=h;exact Rd.wf (τ:=e) h
section
variable {H:Type}
def ofD:(τ:Ty)->DataW H->Option τ.den
 |.int _,.lit (.int _ n)=>some n
 |.bool,.lit (.bool b)=>some b
 |.str,.lit (.string s)=>some ⟨s.toArray⟩
 |.slice _,.nil=>some []
 |.slice e,.slice l _=>l.mapM (ofD e)
 |.arr _ e,.agg l=>l.mapM (ofD e)
 |.prod a b,.agg (d::r)=>match ofD a d with
  |some x=>match ofD b (.agg r)with
   |some y=>some (x,y)
   |none=>none
  |none=>none
 |.unit,.agg []=>some ()
 |_,_=>none
variable {enc:TypeId×Value->H}{P:Program}{W:World}{sp:Nat->Bool}{hd:Bool}
theorem gX{τ:Ty}{t:TypeId}(h:chk P τ none t=true):P.cellsOf t=τ.size:=by obtain⟨i,z,h1,h2,_⟩:=dn h;simp[Program.cellsOf,h1,h2]
theorem rB{α β:Type}{f:α->Option β}:∀{l:List α},(∀ a∈l,∃ b,f a=some b)->∃ r,l.mapM f=some r
 |[],_=>⟨[],rfl⟩
 |a::l,h=>by obtain⟨b,hb⟩:=h a (by simp);obtain⟨r,hr⟩:=rB λx hx=>h x (Jq _ hx);exact⟨b::r,by simp[Mz,hb,hr]⟩
theorem x8 {e:Ty}{ys:List (DataW H×List MemPlace)}{Q:Nat->e.den->Prop}(h:∀ i y,ys[i]?=some y->∃ x,ofD e y.1=some x/\Q i x) :
  ∃ l,(ys.map (·.1)).mapM (ofD e)=some l/\l.length=ys.length/\∀ i (hi:i<l.length),Q i l[i]:=by
 obtain⟨l,hl⟩:=rB (f:=ofD e) (l:=ys.map (·.1)) λd hd=>by obtain⟨y,hy,rfl⟩:=KW.1 hd;obtain⟨i,hi,rfl⟩:=K1 hy;obtain⟨x,hx,_⟩:=h i ys[i] (A1 hi);exact⟨x,hx⟩
 have hlen:l.length=ys.length:=by simpa using Lib.mapM_length hl
 refine⟨l,hl,hlen,λi hi=>?_⟩;have hi':i<ys.length:=by omega
 obtain⟨x,hx,hq⟩:=h i ys[i] (A1 hi');obtain⟨b,hb1,hb2⟩:=Lib.mapM_at hl i ys[i].1 (by simp[hi']);rw[hx]at hb2;cases hb2;have:l[i]=x:=by rw[A1 hi]at hb1;exact B7 hb1
 rw[this];exact hq
theorem tG{a:Addr}{n:Nat}{cs:List Value}(h:W.cells? 0 a n=some cs):cs.length=n/\∀ j,j<n->W.cell? (a.add j)=cs[j]?:=by
 unfold World.cells? at h;rw[if_pos (K0 _)]at h;have hl:cs.length=n:=by simpa using Lib.mapM_length h
 refine⟨hl,λj hj=>?_⟩;obtain⟨b,hb1,hb2⟩:=Lib.mapM_at h j j (by simp[hj]);rw[hb2,hb1]
theorem Eu{a:Addr}{v:Value}(h:W.cell? a=some v):∃ b off c el fz,a=⟨b,off,none⟩/\W.heap[b]?=some (.cells c el fz):=by
 obtain⟨b,off,spot⟩:=a;unfold World.cell? at h;split at h
 ·rename_i c el fz hh;cases spot with
  |none=>exact⟨b,off,c,el,fz,rfl,hh⟩
  |some _=>simp at h
 cases h
mutual
theorem mP:∀{τ : Ty} {t:TypeId} {fuel:Nat} {cs:List Value} {x:DataW H×List MemPlace},τ.good=true->chk P τ none t=true->DataW.trod enc P W 0 sp hd fuel t cs=some x ->
  ∃ y,ofD τ x.1=some y/\Rd W (λb=>b<W.heap.size) τ cs y
 |.int k,t,fuel,cs,x,_,hc,h=>by obtain⟨n,rfl,rfl,hw⟩:=DataW.trod_int (iS hc) h;simp only[Lit.wf,np,decide_eq_true_eq]at hw;exact⟨n,rfl,rfl,hw⟩
 |.bool,t,fuel,cs,x,_,hc,h=>by
  cases fuel with
  |zero=>simp[DataW.trod]at h
  |succ fuel=>
   simp only[DataW.trod,lD hc]at h;split at h;all_goals try (simp_all;done)
   rename_i b heq;simp only[aw]at h;subst h;exact⟨b,rfl,rfl⟩
 |.str,t,fuel,cs,x,_,hc,h=>by
  cases fuel with
  |zero=>simp[DataW.trod]at h
  |succ fuel=>simp only[DataW.trod,fp hc]at h;split at h<;>simp_all;obtain⟨h1,rfl⟩:=h;exact⟨_,rfl,rfl,h1⟩
 |.slice e,t,fuel,cs,x,hg,hc,h=>by
  simp only[Ty.good,np]at hg;have hpos:0<e.size:=JF hg.2;obtain⟨et,hu,hce⟩:=aT hc;cases fuel with
  |zero=>simp[DataW.trod]at h
  |succ fuel=>
   simp only[DataW.trod,hu,gX hce]at h;split at h;all_goals try (simp_all;done)
   ·cases h;exact⟨[],rfl,none,0,rfl,B2 _,K0 _,λh=>absurd rfl h⟩
   rename_i e' a len cap heq;split at h
   ·rename_i hcond;obtain⟨elems,he,h⟩:=A6.1 h;obtain⟨rest,_,rfl⟩:=Kl.1 h;have hel:elems.length=len:=by simpa using Lib.mapM_length he
    have each:∀ i y,elems[i]?=some y->∃ ci,W.cells? 0 (a.add (i*e.size)) e.size=some ci/\DataW.trod enc P W 0 sp hd fuel et ci=some y:=by
     intro i y hy;have hi:i<len:=by have:=(A2.1 hy).1;omega
     obtain⟨b,hb1,hb2⟩:=Lib.mapM_at he i i (by simp[hi]);rw[hy]at hb1;cases hb1
     cases heq;rw[gX hce]at hb2;exact A6.1 hb2
    obtain⟨l,q1,q2,q3⟩:=x8 (e:=e) (ys:=elems) (Q:=λi x=>∃ ci,W.cells? 0 (a.add (i*e.size)) e.size=some ci/\Rd W (λb=>b<W.heap.size) e ci x) λi y hy=>by obtain⟨ci,h1,h2⟩:=each i y hy;obtain⟨x,h3,h4⟩:=mP hg.1 hce h2;exact⟨x,h3,ci,h1,h4⟩
    refine⟨l,q1,some a,cap,by rw[q2,hel],by omega,hcond.2.2,λhne=>?_⟩;have hl0:0<l.length:=List.length_pos_iff.2 hne;obtain⟨c0,h1,_⟩:=q3 0 hl0;obtain⟨k1,k2⟩:=tG h1;have h00:W.cell? a=some (c0[0]'(by omega)):=by have:=k2 0 hpos;rw[A1 (by omega)]at this;simpa[Addr.add]using this
    obtain⟨b,off,c,el,fz,rfl,hh⟩:=Eu h00;have pt:∀ i (hi:i<l.length),∃ ci,ci.length=e.size/\(∀ j,j<e.size->c[off+i*e.size+j]?=ci[j]?)/\Rd W (λb=>b<W.heap.size) e ci l[i]:=by intro i hi;obtain⟨ci,g1,g2⟩:=q3 i hi;obtain⟨g3,g4⟩:=tG g1;refine⟨ci,g3,λj hj=>?_,g2⟩;have:=g4 j hj;rw[bK,bK,cC hh]at this;exact this
    have hb:b<W.heap.size:=(Jt.1 hh).1;have hsz:off+l.length*e.size<=c.size:=by
     obtain⟨ci,g3,g4,_⟩:=pt (l.length-1) (by omega);have:=g4 (e.size-1) (by omega);rw[A1 (by omega)]at this;have hlt:=(Jt.1 this).1;have:l.length*e.size=(l.length-1)*e.size+e.size:=by obtain⟨n,hn⟩:∃ n,l.length=n+1:=⟨l.length-1,by omega⟩;rw[hn];simp[Nat.add_mul]
     omega
    refine⟨b,off,c,el,fz,rfl,hb,hh,hsz,λi hi=>?_⟩;obtain⟨ci,g3,g4,g5⟩:=pt i hi;have:seg c (off+i*e.size) e.size=ci:=by
     apply List.ext_getElem?;intro j;by_cases hj:j<e.size
     ·rw[seg_getElem? _ _ _ _ hj,g4 j hj]
     rw[List.getElem?_eq_none (by omega:ci.length<=j)];unfold seg;rw[List.getElem?_take,if_neg hj]
    rw[this];exact g5
   cases h
 |.prod a b,t,fuel,cs,x,hg,hc,h=>by
  have hc0:=hc;simp only[chk,np]at hc;obtain⟨_,hc⟩:=hc;split at hc
  ·rename_i fs hu;cases fuel with
   |zero=>simp[DataW.trod]at h
   |succ fuel=>
    simp only[DataW.trod,hu,gX hc0]at h;split at h
    ·rename_i hlen;obtain⟨xs,hx,rfl⟩:=Kl.1 h;split at hc
     ·rename_i f r hfs;simp only[np]at hc;rw[hfs]at hx;have:=oH (τ:=.prod a b) (fs:=f::r) (o:=0) (cs:=cs) (xs:=xs) hg (by simp only[chk,np];exact⟨hc.1,by simpa using hc.2⟩) hx (by simpa using hlen);simpa using this
     simp at hc
    cases h
  simp at hc
 |.unit,t,fuel,cs,x,_,hc,h=>by
  have hc0:=hc;simp only[chk,np]at hc;obtain⟨_,hc⟩:=hc;split at hc
  ·rename_i fs hu;split at hc
   ·rename_i hfs;cases fuel with
    |zero=>simp[DataW.trod]at h
    |succ fuel=>
     simp only[DataW.trod,hu,gX hc0,hfs]at h;split at h
     ·rename_i hlen;simp only[MD,LF,Option.map_some,aw]at h;subst h;refine⟨(),rfl,?_⟩;simp only[Ty.size]at hlen;exact List.length_eq_zero_iff.1 hlen
     cases h
   simp at hc
  simp at hc
 |.arr n e,t,fuel,cs,x,hg,hc,h=>by
  obtain⟨et,hu,hce⟩:=kL hc;cases fuel with
  |zero=>simp[DataW.trod]at h
  |succ fuel=>
   simp only[DataW.trod,hu,gX hc,gX hce]at h;split at h
   ·rename_i hlen;obtain⟨xs,hx,rfl⟩:=Kl.1 h;have hxl:xs.length=n:=by simpa using Lib.mapM_length hx
    obtain⟨l,q1,q2,q3⟩:=x8 (e:=e) (ys:=xs) (Q:=λi x=>Rd W (λb=>b<W.heap.size) e ((cs.drop (i*e.size)).take e.size) x) λi y hy=>by
     have hi:i<n:=by have:=(A2.1 hy).1;omega
     obtain⟨b,hb1,hb2⟩:=Lib.mapM_at hx i i (by simp[hi]);rw[hy]at hb1;cases hb1
     exact mP hg hce hb2
    exact⟨l,q1,by omega,by simpa[Ty.size]using hlen,q3⟩
   cases h
 |.ptr _,_,_,_,_,hg,_,_=>by simp[Ty.good]at hg
 |.clo _ _,_,_,_,_,hg,_,_=>by simp[Ty.good]at hg
theorem oH:∀{τ : Ty} {fs:List Field} {o fuel:Nat} {cs:List Value} {xs:List (DataW H×List MemPlace)},τ.good=true->chk P τ (some (fs,o)) 0=true ->
  fs.mapM (λf=>DataW.trod enc P W 0 sp hd fuel f.type ((cs.drop f.offset).take (P.cellsOf f.type)))=some xs->cs.length=o+τ.size ->
  ∃ y,ofD τ (.agg (xs.map (·.1)))=some y/\Rd W (λb=>b<W.heap.size) τ (cs.drop o) y
 |.prod a b,f::r,o,fuel,cs,xs,hg,hc,hx,hl=>by
  simp only[Ty.good,np]at hg;simp only[chk,np]at hc;obtain⟨⟨c1,c2⟩,c3⟩:=hc;have hoff:f.offset=o:=A3 c1;rw[Mz]at hx;simp only[Option.bind_eq_bind,A6,LF,aw]at hx;obtain⟨x0,h0,xs',hxs,rfl⟩:=hx;rw[gX c2,hoff]at h0;obtain⟨y0,e0,r0⟩:=mP hg.1 c2 h0;obtain⟨y1,e1,r1⟩:=oH (τ:=b) (o:=o+a.size) hg.2 c3 hxs (by simp only[Ty.size]at hl;omega);refine⟨(y0,y1),?_,(cs.drop o).take a.size,cs.drop (o+a.size),?_,r0,r1⟩
  ·simp only[JA,ofD,e0,e1]
  rw[<- List.drop_drop,List.take_append_drop]
 |.unit,[],o,fuel,cs,xs,_,_,hx,hl=>by simp only[MD,LF,aw]at hx;subst hx;refine⟨(),rfl,?_⟩;have:cs.drop o=[]:=List.drop_eq_nil_of_le (by simp only[Ty.size]at hl;omega);exact this
 |.prod _ _,[],_,_,_,_,_,hc,_,_=>by simp[chk]at hc
 |.unit,_::_,_,_,_,_,_,hc,_,_=>by simp[chk]at hc
 |.int _,_,_,_,_,_,_,hc,_,_=>by simp[chk]at hc
 |.bool,_,_,_,_,_,_,hc,_,_=>by simp[chk]at hc
 |.str,_,_,_,_,_,_,hc,_,_=>by simp[chk]at hc
 |.slice _,_,_,_,_,_,_,hc,_,_=>by simp[chk]at hc
 |.arr _ _,_,_,_,_,_,_,hc,_,_=>by simp[chk]at hc
 |.ptr _,_,_,_,_,_,hg,_,_,_=>by simp[Ty.good]at hg
 |.clo _ _,_,_,_,_,_,hg,_,_,_=>by simp[Ty.good]at hg
end
theorem zl{τ:Ty}{t:TypeId}{base:Nat}{v:Value}(hg:τ.good=true)(hc:chk P τ none t=true)(h:Value.okWide P W .any base t v):toV τ v.cells.toList=v:=by
 cases τ with
 |int k=>simp only[Value.okWide,iS hc,Cell.okWide,Cell.ok]at h;split at h<;>simp_all[toV,Ty.isAgg,Value.cells]
 |bool=>simp only[Value.okWide,lD hc,Cell.okWide,Cell.ok]at h;split at h<;>simp_all[toV,Ty.isAgg,Value.cells]
 |str=>simp only[Value.okWide,fp hc,Cell.okWide,Cell.ok]at h;split at h<;>simp_all[toV,Ty.isAgg,Value.cells]
 |slice e=>obtain⟨et,hu,_⟩:=aT hc;simp only[Value.okWide,hu,Cell.okWide,Cell.ok]at h;split at h<;>simp_all[toV,Ty.isAgg,Value.cells]
 |prod a b=>
  obtain⟨d,hu,hd⟩:=k8 hc;unfold Value.okWide at h;rw[hu]at h;cases d<;>simp[Ty.isAgg]at hd;all_goals
   obtain⟨cs,rfl,_⟩:=h;simp[toV,Ty.isAgg,Value.cells]
 |unit=>
  obtain⟨d,hu,hd⟩:=k8 hc;unfold Value.okWide at h;rw[hu]at h;cases d<;>simp[Ty.isAgg]at hd;all_goals
   obtain⟨cs,rfl,_⟩:=h;simp[toV,Ty.isAgg,Value.cells]
 |arr n e=>
  obtain⟨d,hu,hd⟩:=k8 hc;unfold Value.okWide at h;rw[hu]at h;cases d<;>simp[Ty.isAgg]at hd;all_goals
   obtain⟨cs,rfl,_⟩:=h;simp[toV,Ty.isAgg,Value.cells]
 |ptr _=>simp[Ty.good]at hg
 |clo _ _=>simp[Ty.good]at hg
def dS(P:Program):List (Mode×Ty)->List TypeId->Bool
 |[],[]=>true
 |(.rd,τ)::l,t::ts=>τ.good&&chk P τ none t&&P.readableRec t&&Lx t P.types.size&&dS P l ts
 |_,_=>false
def tM:(ins:List (Mode×Ty))->(ac (ins.map (·.2))).den->Prop
 |[],_=>True
 |p::l,x=>Wf p.2 x.1/\tM l x.2
theorem wI {base:Nat}:∀{ins:List (Mode×Ty)} {ts:List TypeId} {vs:List Value} {ds:List (DataW H)} {ps:List MemPlace},dS P ins ts=true->DataW.TrodAll enc P W 0 sp hd ts vs ds ps ->
  (∀(j:Nat) t v,ts[j]?=some t->vs[j]?=some v->Value.okWide P W .any base t v)->∃ x,ArgsRd W (λb=>b<W.heap.size) ins vs x/\tM ins x/\az ins vs=[]/\ds.length=ins.length
 |[],[],vs,ds,ps,_,h,_=>by obtain⟨rfl,rfl,rfl⟩:=trodAll_nil h;exact⟨(),trivial,trivial,rfl,rfl⟩
 |[],_::_,_,_,_,hi,_,_=>by simp[dS]at hi
 |(_,_)::_,[],_,_,_,hi,_,_=>by simp[dS]at hi
 |(.upd,_)::_,_::_,_,_,_,hi,_,_=>by simp[dS]at hi
 |(.take,_)::_,_::_,_,_,_,hi,_,_=>by simp[dS]at hi
 |(.box _,_)::_,_::_,_,_,_,hi,_,_=>by simp[dS]at hi
 |(.rd,τ)::l,t::ts,vs,ds,ps,hi,h,hok=>by simp only[dS,np]at hi;obtain⟨⟨⟨⟨c1,c2⟩,_⟩,_⟩,c3⟩:=hi;obtain⟨v,vs',d,ds',p,q,rfl,rfl,rfl,⟨fuel,h1⟩,h2⟩:=trodAll_cons h;obtain⟨y,_,hr⟩:=mP c1 c2 h1;obtain⟨x,x1,x2,x3,x4⟩:=wI (base:=base) c3 h2 λj t v hj hv=>hok (j+1) t v (by simpa using hj) (by simpa using hv);exact⟨(y,x),⟨⟨v.cells.toList,(zl c1 c2 (hok 0 t v rfl rfl)).symm,hr⟩,x1⟩,⟨hr.wf,x2⟩,x3,by simp[x4]⟩
theorem kD{P:Program}:∀{ins:List (Mode×Ty)} {ts:List TypeId},dS P ins ts=true->oK ins=true
 |[],_,_=>rfl
 |(.rd,_)::l,[],h=>by simp[dS]at h
 |(.rd,_)::l,t::ts,h=>by simp only[dS,np]at h;exact kD (ins:=l) h.2
 |(.upd,_)::_,ts,h=>by cases ts<;>simp[dS]at h
 |(.take,_)::_,ts,h=>by cases ts<;>simp[dS]at h
 |(.box _,_)::_,ts,h=>by cases ts<;>simp[dS]at h
theorem rA {W':World}{sp':Nat->Bool}(hl:laidOutB P=true):∀{ins:List (Mode×Ty)} {ts:List TypeId} {vs:List Value} {ds:List (DataW H)} {ps:List MemPlace},dS P ins ts=true ->
  DataW.TrodAll enc P W 0 (λ_=>true) true ts vs ds ps->(∀ p∈ps,W.sameAt W' p)->(∀ p∈ps,sp' p.block=true)->DataW.TrodAll enc P W' 0 sp' true ts vs ds ps
 |[],[],vs,ds,ps,_,h,_,_=>by obtain⟨rfl,rfl,rfl⟩:=trodAll_nil h;exact rfl
 |[],_::_,_,_,_,hi,_,_,_=>by simp[dS]at hi
 |(_,_)::_,[],_,_,_,hi,_,_,_=>by simp[dS]at hi
 |(.upd,_)::_,_::_,_,_,_,hi,_,_,_=>by simp[dS]at hi
 |(.take,_)::_,_::_,_,_,_,hi,_,_,_=>by simp[dS]at hi
 |(.box _,_)::_,_::_,_,_,_,hi,_,_,_=>by simp[dS]at hi
 |(.rd,τ)::l,t::ts,vs,ds,ps,hi,h,hs,hsp=>by simp only[dS,np]at hi;obtain⟨⟨⟨⟨_,_⟩,c4⟩,c5⟩,c3⟩:=hi;obtain⟨v,vs',d,ds',p,q,rfl,rfl,rfl,h1,h2⟩:=trodAll_cons h;exact⟨p,q,WideElems.Trod_stays hl c4 (JF c5) h1 (λx hx=>hs x (by simp[hx])) (λx hx=>hsp x (by simp[hx])),rA hl c3 h2 (λx hx=>hs x (by simp[hx])) (λx hx=>hsp x (by simp[hx])),rfl⟩
end
theorem zC {H:Type}{enc:TypeId×Value->H}{P:Program}{f:Func}{s:ChangeSpec}{W W':World}{args:Array Value}{ds:List (DataW H)}{before:List MemPlace}{ins:List (Mode×Ty)}{tb:TypeId}{fresh handsOn again:Bool}
  (hl:laidOutB P=true) (hi:dS P ins f.params.toList=true) (hr:f.resultTypes=#[tb]) (hb:P.underlying tb=some .bool) (hv:s.vars=[])
  (hW:DataW.Whole enc P f.params.toList s.vars false W args.toList ds [] before) (hs:s.fn H (ds++[])={ results:=[.lit (.bool true)],args:=ds })
  (hk:Kept W (λ_=>False) W'):s.post enc P f false fresh handsOn again W args (.bool true) W':=by
 have hold:∀ p∈before,decide (p.block<W.heap.size)=true:=λp hp=>by simpa using hW.lt p hp
 have hblk:∀ b,b<W.heap.size->W'.heap[b]?=W.heap[b]?:=λb hb=>hk.block b hb (λh=>h);have hsame:∀ p∈before,W.sameAt W' p:=by
  intro p hp;have:=hblk p.block (hW.lt p hp);cases p with
  |cell b off=>simp only[MemPlace.block]at this;simp[World.sameAt,World.cell?,this]
  |map b=>exact this
 have hW':=hW;obtain⟨p,q,hA,hV,rfl,hz,_⟩:=hW;rw[hv]at hV;obtain rfl:q=[]:=hV;simp only[Jz]at hold hsame hz hW';have args':∀ sp:Nat->Bool,(∀ x∈p,sp x.block=true)->DataW.TrodAll enc P W' 0 sp true f.params.toList args.toList ds p:=λsp hsp=>rA hl hi hA hsame hsp;have res':∀(b:Nat) (sp:Nat->Bool) (hd:Bool),DataW.TrodAll enc P W' b sp hd f.resultTypes.toList ((Value.bool true).resultList f.resultTypes.size) [.lit (.bool true)] []:=by intro b sp hd;rw[hr];exact trodAll_mk1 (shut_bool hb true)
 have ok':∀(j:Nat) (t:TypeId) (r:Value),f.resultTypes[j]?=some t->((Value.bool true).resultList f.resultTypes.size)[j]?=some r->Value.okWide P W' .any 0 t r:=by
  intro j t r hj hv;rw[hr]at hj hv;match j,hj,hv with
  |0,hj,hv=>
   simp[Value.resultList]at hj hv;subst hj;subst hv
   simp[Value.okWide,hb,Cell.okWide,Cell.ok]
 have vars':∀ sp:Nat->Bool,DataW.TrodVars enc P W' sp s.vars (s.fn H (ds++[])).vars []:=by intro sp;rw[hv,hs];exact rfl
 refine⟨ds,[],p,[],p,[],hW',by rw[hs];exact res' _ _ _,by rw[hs];exact args' _ hold,vars' _,⟨hk.os,hk.output,λi hi=>?_⟩,λ_=>⟨ok',[.lit (.bool true)]++ds,[],p,⟨p,[],?_,?_,by simp,?_,λh=>by cases h⟩,λx hx _=>hx⟩⟩
 ·rw[hblk i hi];cases h:W.heap[i]? with
  |none=>trivial
  |some o=>
   cases o with
   |cells c t fr=>exact⟨rfl,rfl,rfl,λ_ _=>rfl⟩
   |map es ck=>exact .inr ⟨rfl,rfl⟩
   |_=>rfl
 ·have:=trodAll_append (args' (λ_=>true) (λ_ _=>rfl)) (res' 0 (λ_=>true) true);simpa using this
 ·rw[hv];exact rfl
 intro b off hp;have:=hblk b (of_decide_eq_true (hold _ hp));have h2:=hz b off hp;simpa[World.frozen?,this]using h2
theorem yZ {H:Type}{enc:TypeId×Value->H}{P:Program}{f:FuncId}{fn:Func}{s:ChangeSpec}{glob:List (Nat×(Σ t:Ty,t.den))}{ins:List (Mode×Ty)}{tb:TypeId}{M:(ac (ins.map (·.2))).den->Option (ac ([(true,Ty.bool)].map (·.2)++aN ins)).den}{fresh handsOn again:Bool}
  (hl : laidOutB P = true) (hf : P.funcs[f]? = some fn) (hb : fn.body.isSome = true) (hn : (fn.name == "runtime.NumGoroutine") = false) (hi : dS P ins fn.params.toList = true) (hr : fn.resultTypes = #[tb]) (hbt : P.underlying tb = some .bool) (hv : s.vars = [])
  (hs:∀ ds:List (DataW H),ds.length=ins.length->s.fn H (ds++[])={ results:=[.lit (.bool true)],args:=ds })
  (hc:Con.Holds P glob f ⟨ins,[(true,.bool)],M,false⟩) (hM:∀ x,tM ins x->∃ r,M x=some (true,r))
  {W:World} {base:Nat} {args:Array Value} {ds gs:List (DataW H)} {before:List MemPlace}
  (hg:∀ g τ x,fJ glob g=some ⟨τ,x⟩->Rd W (λb=>b<W.heap.size) (.ptr τ) [.pointer (some ⟨g,0,none⟩)] x)
  (hok:∀(j:Nat) t v,fn.params[j]?=some t->args[j]?=some v->Value.okWide P W .any base t v) (hW:DataW.Whole enc P fn.params.toList s.vars false W args.toList ds gs before) :
  Calls P f args W λe W'=>∃ v,e=.returned v/\s.post enc P fn false fresh handsOn again W args v W':=by
 have hW0:=hW;obtain⟨p,q,hA,hV,_,_,_⟩:=hW;obtain rfl:gs=[]:=by
  rw[hv]at hV;cases gs with
  |nil=>rfl
  |cons g r=>exact absurd hV (by intro h;cases h)
 obtain⟨x,a1,a2,a3,a4⟩:=wI (base:=base) hi hA (λj t v hj hv=>hok j t v (by rw[<- JN];exact hj) (by rw[<- JN];exact hv));obtain⟨r,hMx⟩:=hM x a2;have hp:Pre glob W (λb=>b<W.heap.size) ins args.toList x:=⟨a1,by rw[a3];simp,by rw[a3];exact KH,λb hb=>hb,hg⟩;have fin:∀{v:Value} {W':World},(∃ F2 css,AI W (λb=>b<W.heap.size) ins args.toList [(true,.bool)] (true,r) v W' F2 css)->s.post enc P fn false fresh handsOn again W args v W':=by
  rintro v W' ⟨F2,css,hP⟩;have hk:=hP.kept;rw[a3]at hk;have hk':Kept W (λ_=>False) W':=⟨hk.os,hk.tape,hk.output,hk.size,λb hb _=>hk.block b hb (by rintro⟨u,hu,_⟩;simp at hu)⟩;have hv':v=.bool true:=by
   have h1:=hP.res;have h2:=hP.val;match css,h1 with
   |[cs],h1=>have h3:Rd W' F2 .bool cs true:=h1.1;unfold Rd at h3;subst h3;rw[h2];rfl
  subst hv';exact zC hl hi hr hbt hv hW0 (hs ds a4) hk'
 have hn' : ¬ fn.name = "runtime.NumGoroutine" := by simpa using hn
 obtain⟨body,hbody⟩:=Option.isSome_iff_exists.1 hb;have hcall:(callFunc f args).run P W=.ok (.enter f args) W:=by simp[callFunc,hf,hn',hbody]
 have harr:args.toList.toArray=args:=by simp
 rcases hc.get (kD hi) hp hMx with⟨_,h2⟩|⟨v,w',h1,_⟩
 ·rw[harr]at h2;refine h2.mono λe W' he=>?_;obtain⟨v,rfl,hR⟩:=he;exact⟨v,rfl,fin hR⟩
 rw[harr,hcall]at h1;cases h1
end Go.Vm
namespace Go.Vm
theorem vB {P:Program}{W:World}{laid:List (String×DataW Unit)}(h:laidMetH P laid W)(hno:(laid.filter fun x=>x.2.handleName?.isSome)=[]){name:String}{d:DataW Unit}{g:Nat}{t:TypeId}{τ : Ty}{x : τ.den}
  (hmem:(name,d)∈laid) (hg:P.globalNamed name=some g) (ht:(P.globals[g]?).map (·.type)=some t) (hc:(chk P τ none t&&τ.good)=true) (hx:ofD τ d=some x) :
  Rd W (λb=>b<W.heap.size) (.ptr τ) [.pointer (some ⟨g,0,none⟩)] x:=by
 simp only[np]at hc;unfold laidMetH at h;rw[hno]at h;obtain⟨ps,hv,_⟩:=h;have key:∀(l:List (String×DataW Unit)) (ps:List MemPlace),DataW.LaidVars P W l ps->(name,d)∈l->∃ g t cs fuel p,P.globalNamed name=some g/\(P.globals[g]?).map (·.type)=some t/\W.var? P name=some cs/\DataW.trod (λ_=>()) P W 0 (λ_=>true) false fuel t cs.toList=some (d,p):=by
  intro l;induction l with
  |nil=>intro _ _ hm;simp at hm
  |cons q l ih=>
   obtain⟨n,e⟩:=q;rintro ps ⟨g,t,cs,fuel,p,q,h1,h2,h3,h4,h5,_⟩ hm;rcases A8.1 hm with hm|hm
   ·cases hm;exact⟨g,t,cs,fuel,p,h1,h2,h3,h4⟩
   exact ih q h5 hm
 obtain⟨g',t',cs,fuel,p,h1,h2,h3,h4⟩:=key laid ps hv hmem;rw[hg]at h1;cases h1
 rw[ht]at h2;cases h2
 obtain⟨y,hy,hr⟩:=mP hc.2 hc.1 h4;rw[hx]at hy;cases hy
 unfold World.var? at h3;rw[hg]at h3;simp only[dg]at h3;split at h3
 ·rename_i c el fz hh;cases h3;have hb:g<W.heap.size:=(Jt.1 hh).1;have hl:=hr.len;rw[JD]at hl;refine⟨g,0,cs,el,fz,rfl,hb,hh,by omega,?_⟩;have:seg cs 0 τ.size=cs.toList:=by unfold seg;rw[List.drop_zero,List.take_of_length_le (by rw[JD];omega)]
  rw[this];exact hr
 cases h3
theorem HM {W:World}{glob:List (Nat×(Σ t:Ty,t.den))}(h:∀ p∈glob,Rd W (fun b=>b < W.heap.size) (.ptr p.2.1) [.pointer (some ⟨p.1,0,none⟩)] p.2.2) :
  ∀ g τ x,fJ glob g=some ⟨τ,x⟩->Rd W (λb=>b<W.heap.size) (.ptr τ) [.pointer (some ⟨g,0,none⟩)] x:=by
 induction glob with
 |nil=>intro g τ x hg;simp[fJ]at hg
 |cons p r ih=>
  intro g τ x hg;obtain⟨k,v⟩:=p;simp only[fJ]at hg;cases hk:A7 k g with
  |true=>rw[hk]at hg;cases hg;rw[<- A3 hk];exact h (k,⟨τ,x⟩) (by simp)
  |false=>rw[hk]at hg;exact ih (λp hp=>h p (by simp[hp])) g τ x hg
end Go.Vm

/-
 Plain laws for what the decompiler prints: numbers, lists, strings, loops.
-/
namespace Go.Vm
theorem ng:lim=68719476736:=by decide
theorem s6{a b:Int}(h1:-9223372036854775808<=a+b)(h2:a+b<=9223372036854775807):ap .i64 a b=a+b:=IntWalk.i64_in _ ⟨h1,h2⟩
theorem rS{a b:Int}(h1:-9223372036854775808<=a-b)(h2:a-b<=9223372036854775807):dK .i64 a b=a-b:=IntWalk.i64_in _ ⟨h1,h2⟩
theorem bv{a:Nat}(h:a<9223372036854775807):ap .i64 (a:Int) 1=((a+1:Nat):Int):=by rw[s6 (by omega) (by omega)];rfl
theorem qT{a:Nat}(h:a<=9223372036854775800):dK .i64 (a:Int) 1=(a:Int)-1:=rS (by omega) (by omega)
theorem aC{a b:Int}(h:a<b):ltI a b=true:=by simp[ltI,h]
theorem bi{a b:Int}(h:b<=a):ltI a b=false:=by simp[ltI];omega
theorem tP{a b:Int}(h:b<a):gtI a b=true:=by simp[gtI,h]
theorem qt{a b:Int}(h:a<=b):gtI a b=false:=by simp[gtI];omega
theorem oE{a b:Int}(h:b<=a):geI a b=true:=by simp[geI];omega
theorem gm{a b:Int}(h:a<b):geI a b=false:=by simp[geI];omega
theorem cW{a b:Int}(h:a=b):eqI a b=true:=by simp[eqI,h]
theorem bN{a b:Int}(h:a≠b):eqI a b=false:=by simp[eqI,h]
theorem Ir{a b:Int}(h:a≠b):neI a b=true:=by simp[neI,h]
theorem Hz{a b:Int}(h:a=b):neI a b=false:=by simp[neI,h]
def oth(d:Nat):Nat:=if d%2=0 then d+1 else d-1
theorem ae{n i:Nat}(h:i<n):ay n (i:Int)=some i:=by simp[ay,h]
theorem ax{α:Type}{l:List α}{i:Nat}:aL l (i:Int)=l[i]?:=by simp[aL]
theorem zY{α:Type}{l:List α}{i:Int}(h:0<=i):aL l i=l[i.toNat]?:=by simp[aL,h]
theorem bx{α:Type}{l r:List α}(h:l.length+r.length<=68719476736):app l r=some (l++r):=by simp[app,ng,h]
theorem cy{e:Ty}{n c:Nat}(h:n<=c)(h2:c<=68719476736):bG e (n:Int) (c:Int)=some (List.replicate n (bk e)):=by
 have h3:(c:Int)<=68719476736:=by omega
 simp[bG,ng,h,h3]
section
variable {σ ρ:Type}{f:σ->Option (σ⊕ρ)}
theorem fD{s t:σ}(h:f s=some (.inl t)):aa f s=aa f t:=by rw[mc,h];rfl
theorem cJ{s:σ}{r:ρ}(h:f s=some (.inr r)):aa f s=some r:=by rw[mc,h];rfl
theorem aI(I:σ->Prop)(m:σ->Nat)(Q:ρ->Prop)(step:∀ s,I s->(∃ t,f s=some (.inl t)/\I t/\m t<m s)\/∃ r,f s=some (.inr r)/\Q r):∀ s,I s->∃ r,aa f s=some r/\Q r:=by
 have:∀ n s,m s<=n->I s->∃ r,aa f s=some r/\Q r:=by
  intro n;induction n with
  |zero=>
   intro s hm hs;rcases step s hs with⟨t,_,_,h⟩|⟨r,h1,h2⟩
   ·omega
   exact⟨r,cJ h1,h2⟩
  |succ n ih=>
   intro s hm hs;rcases step s hs with⟨t,h1,h2,h⟩|⟨r,h1,h2⟩
   ·rw[fD h1];exact ih t (by omega) h2
   exact⟨r,cJ h1,h2⟩
 exactλs hs=>this (m s) s (B2 _) hs
end
theorem E8{a b:ByteArray}:eqS a b=true↔a=b:=by
 simp only[eqS,beq_iff_eq];constructor
 ·intro h;rw[ByteArray.toList_eq,ByteArray.toList_eq]at h;obtain⟨⟨x⟩⟩:=a;obtain⟨⟨y⟩⟩:=b;simpa using h
 intro h;rw[h]
def zj{α:Type}(x:List α×Int×Int×Unit):Option ((List α×Int×Int×Unit)⊕((List α×Unit)⊕Empty)):=
 cond (ltI x.2.1 x.2.2.1) ((ay x.1.length x.2.2.1).bind λj1=>(x.1[j1]?).bind λy2=>(ay x.1.length x.2.1).bind λj3=>(x.1[j3]?).bind λy4=>(ay x.1.length x.2.1).bind λj5=>(x.1[j5]?).bind λ_=>(ay (x.1.set j5 y2).length x.2.2.1).bind λj7=>((x.1.set j5 y2)[j7]?).bind λ_=>some (.inl (((x.1.set j5 y2).set j7 y4),((ap .i64 x.2.1 1),((dK .i64 x.2.2.1 1),()))))) (some (.inr (.inl (x.1,()))))
theorem CI {α : Type}:∀(n:Nat) (p m q:List α),m.length<=n->(p++m++q).length<=68719476736 ->
  aa zj (p++m++q,((p.length:Int),(((p.length+m.length:Nat):Int)-1,())))=some (.inl (p++m.reverse++q,())):=by
 intro n;induction n using Nat.strongRecOn with
 |ind n ih=>
  intro p m q hm hlen;match m,hm with
  |[],_=>refine cJ ?_;simp only[zj];rw[bi (by simp;omega)];simp
  |[a],_=>refine cJ ?_;simp only[zj];rw[bi (by simp)];simp
  |a::b::m',hm=>
   obtain⟨mid,z,hz⟩:∃ mid z,b::m'=mid++[z]:=⟨(b::m').dropLast,(b::m').getLast (by simp),(List.dropLast_concat_getLast (by simp)).symm⟩;rw[hz]at hm hlen ⊢;have hl:(p++a::(mid++[z])++q).length=p.length+mid.length+2+q.length:=by simp;omega
   have hstep:zj (p++a :: (mid++[z])++q,((p.length:Int),(((p.length+(a :: (mid++[z])).length:Nat):Int) - 1,()))) =
     some (.inl ((p++[z])++mid++([a]++q),(((p++[z]).length:Int),((((p++[z]).length+mid.length:Nat):Int)-1,())))):=by
    simp only[zj];rw[aC (by simp;omega)];have e2:(((p.length+(a::(mid++[z])).length:Nat):Int)-1)=((p.length+mid.length+1:Nat):Int):=by simp;omega
    rw[e2,UA,ae (by omega),dg];have g1:(p++a::(mid++[z])++q)[p.length+mid.length+1]?=some z:=by
     have:p++a::(mid++[z])++q=(p++a::mid)++(z::q):=by simp
     rw[this,K8 (by simp;omega)];simp;have:p.length+mid.length+1-(p.length+(mid.length+1))=0:=by omega
     rw[this];rfl
    have g2:(p++a::(mid++[z])++q)[p.length]?=some a:=by simp
    rw[g1,dg,ae (by omega),dg,g2,dg,dg];simp only[g2,dg];rw[List.length_set,ae (by omega),dg];have s1:(p++a::(mid++[z])++q).set p.length z=p++z::(mid++[z])++q:=by simp
    rw[s1];have g3:(p++z::(mid++[z])++q)[p.length+mid.length+1]?=some z:=by
     have:p++z::(mid++[z])++q=(p++z::mid)++(z::q):=by simp
     rw[this,K8 (by simp;omega)];simp;have:p.length+mid.length+1-(p.length+(mid.length+1))=0:=by omega
     rw[this];rfl
    rw[g3,dg];have s2:(p++z::(mid++[z])++q).set (p.length+mid.length+1) a=(p++[z])++mid++([a]++q):=by
     have:p++z::(mid++[z])++q=(p++z::mid)++(z::q):=by simp
     rw[this,List.set_append_right _ _ (by simp;omega)];have:p.length+mid.length+1-(p++z::mid).length=0:=by simp;omega
     rw[this];simp
    rw[s2,bv (by omega),rS (by omega) (by omega)];simp;omega
   rw[fD hstep,ih mid.length (by simp at hm;omega) (p++[z]) mid ([a]++q) (B2 _) (by simp at hlen ⊢;omega)];simp
theorem EI{α:Type}(l:List α)(h:l.length<=68719476736):aa zj (l,((0:Int),(dK .i64 (l.length:Nat) 1,())))=some (.inl (l.reverse,())):=by have:=CI l.length [] l [] (B2 _) (by simpa using h);rw[qT (by omega)];simpa using this
end Go.Vm
namespace Go.Vm
def lW{S α ε:Type}(g:Nat->S->α->Option (S⊕ε)):Nat->S->List α->Option (S⊕ε)
 |_,s,[]=>some (.inl s)
 |i,s,a::l=>(g i s a).bind (A9 (λt=>lW g (i+1) t l) (λe=>some (.inr e)))
theorem rM {σ ρ S α ε : Type}{B : σ->Option (σ⊕ρ)}(I:Nat->S->Prop)(st:S->Nat->σ)(out:S->ρ)(ex : ε->ρ)(g:Nat->S->α->Option (S⊕ε))(l:List α)
  (h1:∀ s i a,I i s->l[i]?=some a->B (st s i)=(g i s a).bind (A9 (λt=>some (.inl (st t (i+1)))) (λe=>some (.inr (ex e)))))
  (hI:∀ s i a t,I i s->l[i]?=some a->g i s a=some (.inl t)->I (i+1) t)
  (h2:∀ s,I l.length s->B (st s l.length)=some (.inr (out s))):∀(r p:List α) (s:S),p++r=l->I p.length s->aa B (st s p.length)=(lW g p.length s r).bind (A9 (λt=>some (out t)) (λe=>some (ex e)))
 |[],p,s,h,hs=>by
  have:p.length=l.length:=by rw[<- h];simp
  rw[this]at hs ⊢;rw[cJ (h2 s hs)];rfl
 |a::r,p,s,h,hs=>by
  have ha:l[p.length]?=some a:=by rw[<- h];simp
  rw[mc,h1 s p.length a hs ha];simp only[lW];cases hg:g p.length s a with
  |none=>rfl
  |some x=>
   cases x with
   |inl t=>simp only[dg,Sum.elim_inl];have:=rM I st out ex g l h1 hI h2 r (p++[a]) t (by simp[h]) (by simpa using hI s p.length a t hs ha hg);simpa using this
   |inr e=>rfl
theorem HG {σ ρ S α ε : Type}{B : σ->Option (σ⊕ρ)}(I:Nat->S->Prop)(st:S->Nat->σ)(out:S->ρ)(ex : ε->ρ)(g:Nat->S->α->Option (S⊕ε))(l:List α)
  (h1:∀ s i a,I i s->l[i]?=some a->B (st s i)=(g i s a).bind (A9 (λt=>some (.inl (st t (i+1)))) (λe=>some (.inr (ex e)))))
  (hI:∀ s i a t,I i s->l[i]?=some a->g i s a=some (.inl t)->I (i+1) t)
  (h2:∀ s,I l.length s->B (st s l.length)=some (.inr (out s))) (s:S) (hs:I 0 s):aa B (st s 0)=(lW g 0 s l).bind (A9 (λt=>some (out t)) (λe=>some (ex e))):=
 rM I st out ex g l h1 hI h2 l [] s rfl hs
theorem vX {σ ρ S α ε : Type}{B : σ->Option (σ⊕ρ)}(st:S->Nat->σ)(out:S->ρ)(ex : ε->ρ)(g:Nat->S->α->Option (S⊕ε))(l:List α)
  (h1:∀ s i a,l[i]?=some a->B (st s i)=(g i s a).bind (A9 (λt=>some (.inl (st t (i+1)))) (λe=>some (.inr (ex e)))))
  (h2:∀ s,B (st s l.length)=some (.inr (out s))) (s:S):aa B (st s 0)=(lW g 0 s l).bind (A9 (λt=>some (out t)) (λe=>some (ex e))):=
 HG (λ_ _=>True) st out ex g l (λs i a _=>h1 s i a) (λ_ _ _ _ _ _ _=>trivial) (λs _=>h2 s) s trivial
end Go.Vm

