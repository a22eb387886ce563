/-
 A machine on typed values, small enough to be reckoned by the kernel, and the proof that it goes with the model: part 5 of 5. What it computes for a function is that function's contract. No condition of its own.
-/
import Derived.Test.YtnkjongpfleloaaGreatDoorVmD
import Derived.Lib.LaidTab
import Derived.WideKeyArgs
import Derived.ChangeSame
import Derived.RowKit
import Derived.Test.YtnkjongpfleloaaGreatDoorVmA
import Derived.IntWalk
import Derived.Laws.Strings
open Option.some renaming injEq->bd,inj->B6
open List renaming getElem?_eq_getElem->dg,mem_cons->A6,getElem?_eq_some_iff->A7,map_cons->L3,getElem_of_mem->R6,mem_map->S6,mapM_cons->Uq,mapM_nil->Uu
open Bool renaming and_eq_true->np
open Option renaming bind_some->pw,bind_eq_some_iff->A1,map_eq_some_iff->Sz,pure_def->TB
open Sum renaming elim->sw
open Nat renaming eq_of_beq_eq_true->xy,le_refl->B2,le_of_ble_eq_true->L9,zero_le->SY,blt->Tv
open Array renaming getElem?_eq_some_iff->L5,length_toList->RC,getElem?_toList->R7
open List.Pairwise renaming nil->Se
open List.cons renaming injEq->SK
set_option linter.unusedVariables false
set_option linter.unusedSimpArgs false
/-
 A function's contract, from its text and its loops.
-/
namespace Go.Vm
structure LoopPf (C:Ctx)(A:Anns)(body:Code) where
 key:Nat
 ann:Ann
 B:ann.head.ty.den->Option (ann.head.ty.den⊕kL ann.exits)
 fix:ann.fn=ac B
 R:∀ x,round C A ann (gl key body) x=B x
theorem GO {C:Ctx}{A:Anns}{body:Code}(l:List (LoopPf C A body))(h1:aO body=l.map fun p=>gl p.key body)
  (h2:(l.map λp=>A.get (cp (gl p.key body)))=l.map λp=>some p.ann):po C A (aO body):=by
 intro c hc ann hann x y hy;rw[h1]at hc;obtain⟨p,hp,rfl⟩:=S6.1 hc;have h3:A.get (cp (gl p.key body))=some p.ann:=by
  clear h1 hc;induction l with
  |nil=>simp at hp
  |cons q l ih=>
   simp only[L3,SK]at h2;rcases A6.1 hp with rfl|hp
   ·exact h2.1
   exact ih h2.2 hp
 rw[h3]at hann;cases hann;rw[p.fix]at hy;have:round C A p.ann (gl p.key body)=p.B:=funext p.R;rw[this];exact dH.1 hy
structure SeatOK (P:Program)(T:Tab)(eqs:List Nat):Prop where
 tab:cA P T=true
 eqs:yx P T eqs=true
 order:P.follows .mixedOrders=true
theorem SeatOK.ctx{P:Program}{C:Ctx}(h:SeatOK P C.tab C.eqs)(hm:oD P C.maps=true)(hc:∀ f site c,C.con f site=some c->c.Holds P C.glob f)(hn:∀ f,C.inl f=none):CtxOK P C:=
 ⟨h.tab,ua h.tab h.eqs,pp hm,hc,λf r h=>by rw[hn f]at h;cases h⟩
theorem Ez {d:Bool}{P:Program}{C:Ctx}{A:Anns}{f:FuncId}{fn:Func}{ins:List (Mode×Ty)}{outs:lY}{M:(aa (ins.map (·.2))).den->Option (aa ((outs.map (·.2)).map (·.2)++aS ins)).den}
  (hS:SeatOK P C.tab C.eqs) (hc:∀ f site c,C.con f site=some c->c.Holds P C.glob f) (hf:P.funcs[f]?=some fn) (hb:fn.body=some (aI fn))
  (hL : po C A (aO (aI fn))) (hk : (!(fn.name == "runtime.NumGoroutine") && d8 fn.ntmps (aI fn) && tA A ins && oX P outs && oD P C.maps) = true) (hres : fn.results = (outs.map (·.1)).toArray)
  (heq:∀ x,qT C A (aI fn) ins outs x d=M x) (hn:∀ f,C.inl f=none):Con.Holds P C.glob f ⟨ins,outs.map (·.2),M,d⟩:=by
 simp only[np,Bool.not_eq_true']at hk;obtain⟨⟨⟨⟨k1,k2⟩,k3⟩,k4⟩,k5⟩:=hk;exact CB (hS.ctx k5 hc hn) (pJ hS.order) hf hb k1 hL k2 k3 hres k4 heq
end Go.Vm

/-
 A law's arguments, read as data, are readings of the machine; and the law's statement from the contract of its function.
-/
namespace Go.Vm
open Go.ChangeShapes Go.RowKit
def Ty.good:Ty->Bool
 |.int _=>true
 |.bool=>true
 |.str=>true
 |.slice e=>e.good&&Tv 0 e.size
 |.prod a b=>a.good&&b.good
 |.unit=>true
 |.arr _ e=>e.good
 |_=>false
def Wf:(τ:Ty)->τ.den->Prop
 |.int k,n=>k.min<=n/\n<=k.max
 |.bool,_=>True
 |.str,s=>s.size<=maxLen
 |.slice e,l=>l.length<=maxLen/\∀ x∈l,Wf e x
 |.prod a b,x=>Wf a x.1/\Wf b x.2
 |.unit,_=>True
 |.arr n e,l=>l.length=n/\∀ x∈l,Wf e x
 |.ptr e,x=>Wf e x
 |.clo _ e,x=>Wf e x
theorem Rd.wf{w:World}{F:Nat->Prop}:∀{τ:Ty} {cs:List Value} {x:τ.den},Rd w F τ cs x->Wf τ x
 |.int _,_,_,h=>h.2
 |.bool,_,_,_=>trivial
 |.str,_,_,h=>h.2
 |.slice e,_,l,h=>by obtain⟨a,cap,_,h2,h3,h4⟩:=h;refine⟨by omega,λx hx=>?_⟩;obtain⟨i,hi,rfl⟩:=R6 hx;obtain⟨b,off,c,el,fz,_,_,_,_,q5⟩:=h4 (List.ne_nil_of_mem hx);exact(q5 i hi).wf
 |.prod a b,_,_,h=>by obtain⟨c1,c2,_,h1,h2⟩:=h;exact⟨h1.wf,h2.wf⟩
 |.unit,_,_,_=>trivial
 |.arr n e,_,l,h=>by obtain⟨h1,_,h3⟩:=h;refine⟨h1,λx hx=>?_⟩;obtain⟨i,hi,rfl⟩:=R6 hx;exact(h3 i hi).wf
 |.ptr e,_,_,h=>by obtain⟨b,off,c,el,fz,_,_,_,_,h⟩:=h;exact Rd.wf (τ:=e) h
 |.clo g e,_,_,h=>by obtain⟨vs,_,h⟩:=h;exact Rd.wf (τ:=e) h
section
variable {H:Type}
def ofD:(τ:Ty)->DataW H->Option τ.den
 |.int _,.lit (.int _ n)=>some n
 |.bool,.lit (.bool b)=>some b
 |.str,.lit (.string s)=>some ⟨s.toArray⟩
 |.slice _,.nil=>some []
 |.slice e,.slice l _=>l.mapM (ofD e)
 |.arr _ e,.agg l=>l.mapM (ofD e)
 |.prod a b,.agg (d::r)=>match ofD a d with
  |some x=>match ofD b (.agg r)with
   |some y=>some (x,y)
   |none=>none
  |none=>none
 |.unit,.agg []=>some ()
 |_,_=>none
variable {enc:TypeId×Value->H}{P:Program}{W:World}{sp:Nat->Bool}{hd:Bool}
theorem il{τ:Ty}{t:TypeId}(h:chk P τ none t=true):P.cellsOf t=τ.size:=by obtain⟨i,z,h1,h2,_⟩:=dC h;simp[Program.cellsOf,h1,h2]
theorem rR{α β:Type}{f:α->Option β}:∀{l:List α},(∀ a∈l,∃ b,f a=some b)->∃ r,l.mapM f=some r
 |[],_=>⟨[],rfl⟩
 |a::l,h=>by obtain⟨b,hb⟩:=h a (by simp);obtain⟨r,hr⟩:=rR λx hx=>h x (List.mem_cons_of_mem _ hx);exact⟨b::r,by simp[Uq,hb,hr]⟩
theorem yK {e:Ty}{ys:List (DataW H×List MemPlace)}{Q:Nat->e.den->Prop}(h:∀ i y,ys[i]?=some y->∃ x,ofD e y.1=some x/\Q i x) :
  ∃ l,(ys.map (·.1)).mapM (ofD e)=some l/\l.length=ys.length/\∀ i (hi:i<l.length),Q i l[i]:=by
 obtain⟨l,hl⟩:=rR (f:=ofD e) (l:=ys.map (·.1)) λd hd=>by obtain⟨y,hy,rfl⟩:=S6.1 hd;obtain⟨i,hi,rfl⟩:=R6 hy;obtain⟨x,hx,_⟩:=h i ys[i] (dg hi);exact⟨x,hx⟩
 have hlen:l.length=ys.length:=by simpa using Lib.mapM_length hl
 refine⟨l,hl,hlen,λi hi=>?_⟩;have hi':i<ys.length:=by omega
 obtain⟨x,hx,hq⟩:=h i ys[i] (dg hi');obtain⟨b,hb1,hb2⟩:=Lib.mapM_at hl i ys[i].1 (by simp[hi']);rw[hx]at hb2;cases hb2;have:l[i]=x:=by rw[dg hi]at hb1;exact B6 hb1
 rw[this];exact hq
theorem vl{a:Addr}{n:Nat}{cs:List Value}(h:W.cells? 0 a n=some cs):cs.length=n/\∀ j,j<n->W.cell? (a.add j)=cs[j]?:=by
 unfold World.cells? at h;rw[if_pos (SY _)]at h;have hl:cs.length=n:=by simpa using Lib.mapM_length h
 refine⟨hl,λj hj=>?_⟩;obtain⟨b,hb1,hb2⟩:=Lib.mapM_at h j j (by simp[hj]);rw[hb2,hb1]
theorem Kn{a:Addr}{v:Value}(h:W.cell? a=some v):∃ b off c el fz,a=⟨b,off,none⟩/\W.heap[b]?=some (.cells c el fz):=by
 obtain⟨b,off,spot⟩:=a;unfold World.cell? at h;split at h
 ·rename_i c el fz hh;cases spot with
  |none=>exact⟨b,off,c,el,fz,rfl,hh⟩
  |some _=>simp at h
 cases h
mutual
theorem nK:∀{τ : Ty} {t:TypeId} {fuel:Nat} {cs:List Value} {x:DataW H×List MemPlace},τ.good=true->chk P τ none t=true->DataW.trod enc P W 0 sp hd fuel t cs=some x ->
  ∃ y,ofD τ x.1=some y/\Rd W (λb=>b<W.heap.size) τ cs y
 |.int k,t,fuel,cs,x,_,hc,h=>by obtain⟨n,rfl,rfl,hw⟩:=DataW.trod_int (jo hc) h;simp only[Lit.wf,np,decide_eq_true_eq]at hw;exact⟨n,rfl,rfl,hw⟩
 |.bool,t,fuel,cs,x,_,hc,h=>by
  cases fuel with
  |zero=>simp[DataW.trod]at h
  |succ fuel=>
   simp only[DataW.trod,lN hc]at h;split at h;all_goals try (simp_all;done)
   rename_i b heq;simp only[bd]at h;subst h;exact⟨b,rfl,rfl⟩
 |.str,t,fuel,cs,x,_,hc,h=>by
  cases fuel with
  |zero=>simp[DataW.trod]at h
  |succ fuel=>simp only[DataW.trod,fM hc]at h;split at h<;>simp_all;obtain⟨h1,rfl⟩:=h;exact⟨_,rfl,rfl,h1⟩
 |.slice e,t,fuel,cs,x,hg,hc,h=>by
  simp only[Ty.good,np]at hg;have hpos:0<e.size:=L9 hg.2;obtain⟨et,hu,hce⟩:=bc hc;cases fuel with
  |zero=>simp[DataW.trod]at h
  |succ fuel=>
   simp only[DataW.trod,hu,il hce]at h;split at h;all_goals try (simp_all;done)
   ·cases h;exact⟨[],rfl,none,0,rfl,B2 _,SY _,λh=>absurd rfl h⟩
   rename_i e' a len cap heq;split at h
   ·rename_i hcond;obtain⟨elems,he,h⟩:=A1.1 h;obtain⟨rest,_,rfl⟩:=Sz.1 h;have hel:elems.length=len:=by simpa using Lib.mapM_length he
    have each:∀ i y,elems[i]?=some y->∃ ci,W.cells? 0 (a.add (i*e.size)) e.size=some ci/\DataW.trod enc P W 0 sp hd fuel et ci=some y:=by
     intro i y hy;have hi:i<len:=by have:=(A7.1 hy).1;omega
     obtain⟨b,hb1,hb2⟩:=Lib.mapM_at he i i (by simp[hi]);rw[hy]at hb1;cases hb1
     cases heq;rw[il hce]at hb2;exact A1.1 hb2
    obtain⟨l,q1,q2,q3⟩:=yK (e:=e) (ys:=elems) (Q:=λi x=>∃ ci,W.cells? 0 (a.add (i*e.size)) e.size=some ci/\Rd W (λb=>b<W.heap.size) e ci x) λi y hy=>by obtain⟨ci,h1,h2⟩:=each i y hy;obtain⟨x,h3,h4⟩:=nK hg.1 hce h2;exact⟨x,h3,ci,h1,h4⟩
    refine⟨l,q1,some a,cap,by rw[q2,hel],by omega,hcond.2.2,λhne=>?_⟩;have hl0:0<l.length:=List.length_pos_iff.2 hne;obtain⟨c0,h1,_⟩:=q3 0 hl0;obtain⟨k1,k2⟩:=vl h1;have h00:W.cell? a=some (c0[0]'(by omega)):=by have:=k2 0 hpos;rw[dg (by omega)]at this;simpa[Addr.add]using this
    obtain⟨b,off,c,el,fz,rfl,hh⟩:=Kn h00;have pt:∀ i (hi:i<l.length),∃ ci,ci.length=e.size/\(∀ j,j<e.size->c[off+i*e.size+j]?=ci[j]?)/\Rd W (λb=>b<W.heap.size) e ci l[i]:=by intro i hi;obtain⟨ci,g1,g2⟩:=q3 i hi;obtain⟨g3,g4⟩:=vl g1;refine⟨ci,g3,λj hj=>?_,g2⟩;have:=g4 j hj;rw[bY,bY,cX hh]at this;exact this
    have hb:b<W.heap.size:=(L5.1 hh).1;have hsz:off+l.length*e.size<=c.size:=by
     obtain⟨ci,g3,g4,_⟩:=pt (l.length-1) (by omega);have:=g4 (e.size-1) (by omega);rw[dg (by omega)]at this;have hlt:=(L5.1 this).1;have:l.length*e.size=(l.length-1)*e.size+e.size:=by obtain⟨n,hn⟩:∃ n,l.length=n+1:=⟨l.length-1,by omega⟩;rw[hn];simp[Nat.add_mul]
     omega
    refine⟨b,off,c,el,fz,rfl,hb,hh,hsz,λi hi=>?_⟩;obtain⟨ci,g3,g4,g5⟩:=pt i hi;have:seg c (off+i*e.size) e.size=ci:=by
     apply List.ext_getElem?;intro j;by_cases hj:j<e.size
     ·rw[seg_getElem? _ _ _ _ hj,g4 j hj]
     rw[List.getElem?_eq_none (by omega:ci.length<=j)];unfold seg;rw[List.getElem?_take,if_neg hj]
    rw[this];exact g5
   cases h
 |.prod a b,t,fuel,cs,x,hg,hc,h=>by
  have hc0:=hc;simp only[chk,np]at hc;obtain⟨_,hc⟩:=hc;split at hc
  ·rename_i fs hu;cases fuel with
   |zero=>simp[DataW.trod]at h
   |succ fuel=>
    simp only[DataW.trod,hu,il hc0]at h;split at h
    ·rename_i hlen;obtain⟨xs,hx,rfl⟩:=Sz.1 h;split at hc
     ·rename_i f r hfs;simp only[np]at hc;rw[hfs]at hx;have:=oO (τ:=.prod a b) (fs:=f::r) (o:=0) (cs:=cs) (xs:=xs) hg (by simp only[chk,np];exact⟨hc.1,by simpa using hc.2⟩) hx (by simpa using hlen);simpa using this
     simp at hc
    cases h
  simp at hc
 |.unit,t,fuel,cs,x,_,hc,h=>by
  have hc0:=hc;simp only[chk,np]at hc;obtain⟨_,hc⟩:=hc;split at hc
  ·rename_i fs hu;split at hc
   ·rename_i hfs;cases fuel with
    |zero=>simp[DataW.trod]at h
    |succ fuel=>
     simp only[DataW.trod,hu,il hc0,hfs]at h;split at h
     ·rename_i hlen;simp only[Uu,TB,Option.map_some,bd]at h;subst h;refine⟨(),rfl,?_⟩;simp only[Ty.size]at hlen;exact List.length_eq_zero_iff.1 hlen
     cases h
   simp at hc
  simp at hc
 |.arr n e,t,fuel,cs,x,hg,hc,h=>by
  obtain⟨et,hu,hce⟩:=lx hc;cases fuel with
  |zero=>simp[DataW.trod]at h
  |succ fuel=>
   simp only[DataW.trod,hu,il hc,il hce]at h;split at h
   ·rename_i hlen;obtain⟨xs,hx,rfl⟩:=Sz.1 h;have hxl:xs.length=n:=by simpa using Lib.mapM_length hx
    obtain⟨l,q1,q2,q3⟩:=yK (e:=e) (ys:=xs) (Q:=λi x=>Rd W (λb=>b<W.heap.size) e ((cs.drop (i*e.size)).take e.size) x) λi y hy=>by
     have hi:i<n:=by have:=(A7.1 hy).1;omega
     obtain⟨b,hb1,hb2⟩:=Lib.mapM_at hx i i (by simp[hi]);rw[hy]at hb1;cases hb1
     exact nK hg hce hb2
    exact⟨l,q1,by omega,by simpa[Ty.size]using hlen,q3⟩
   cases h
 |.ptr _,_,_,_,_,hg,_,_=>by simp[Ty.good]at hg
 |.clo _ _,_,_,_,_,hg,_,_=>by simp[Ty.good]at hg
theorem oO:∀{τ : Ty} {fs:List Field} {o fuel:Nat} {cs:List Value} {xs:List (DataW H×List MemPlace)},τ.good=true->chk P τ (some (fs,o)) 0=true ->
  fs.mapM (λf=>DataW.trod enc P W 0 sp hd fuel f.type ((cs.drop f.offset).take (P.cellsOf f.type)))=some xs->cs.length=o+τ.size ->
  ∃ y,ofD τ (.agg (xs.map (·.1)))=some y/\Rd W (λb=>b<W.heap.size) τ (cs.drop o) y
 |.prod a b,f::r,o,fuel,cs,xs,hg,hc,hx,hl=>by
  simp only[Ty.good,np]at hg;simp only[chk,np]at hc;obtain⟨⟨c1,c2⟩,c3⟩:=hc;have hoff:f.offset=o:=xy c1;rw[Uq]at hx;simp only[Option.bind_eq_bind,A1,TB,bd]at hx;obtain⟨x0,h0,xs',hxs,rfl⟩:=hx;rw[il c2,hoff]at h0;obtain⟨y0,e0,r0⟩:=nK hg.1 c2 h0;obtain⟨y1,e1,r1⟩:=oO (τ:=b) (o:=o+a.size) hg.2 c3 hxs (by simp only[Ty.size]at hl;omega);refine⟨(y0,y1),?_,(cs.drop o).take a.size,cs.drop (o+a.size),?_,r0,r1⟩
  ·simp only[L3,ofD,e0,e1]
  rw[<- List.drop_drop,List.take_append_drop]
 |.unit,[],o,fuel,cs,xs,_,_,hx,hl=>by simp only[Uu,TB,bd]at hx;subst hx;refine⟨(),rfl,?_⟩;have:cs.drop o=[]:=List.drop_eq_nil_of_le (by simp only[Ty.size]at hl;omega);exact this
 |.prod _ _,[],_,_,_,_,_,hc,_,_=>by simp[chk]at hc
 |.unit,_::_,_,_,_,_,_,hc,_,_=>by simp[chk]at hc
 |.int _,_,_,_,_,_,_,hc,_,_=>by simp[chk]at hc
 |.bool,_,_,_,_,_,_,hc,_,_=>by simp[chk]at hc
 |.str,_,_,_,_,_,_,hc,_,_=>by simp[chk]at hc
 |.slice _,_,_,_,_,_,_,hc,_,_=>by simp[chk]at hc
 |.arr _ _,_,_,_,_,_,_,hc,_,_=>by simp[chk]at hc
 |.ptr _,_,_,_,_,_,hg,_,_,_=>by simp[Ty.good]at hg
 |.clo _ _,_,_,_,_,_,hg,_,_,_=>by simp[Ty.good]at hg
end
theorem Co{τ:Ty}{t:TypeId}{base:Nat}{v:Value}(hg:τ.good=true)(hc:chk P τ none t=true)(h:Value.okWide P W .any base t v):toV τ v.cells.toList=v:=by
 cases τ with
 |int k=>simp only[Value.okWide,jo hc,Cell.okWide,Cell.ok]at h;split at h<;>simp_all[toV,Ty.isAgg,Value.cells]
 |bool=>simp only[Value.okWide,lN hc,Cell.okWide,Cell.ok]at h;split at h<;>simp_all[toV,Ty.isAgg,Value.cells]
 |str=>simp only[Value.okWide,fM hc,Cell.okWide,Cell.ok]at h;split at h<;>simp_all[toV,Ty.isAgg,Value.cells]
 |slice e=>obtain⟨et,hu,_⟩:=bc hc;simp only[Value.okWide,hu,Cell.okWide,Cell.ok]at h;split at h<;>simp_all[toV,Ty.isAgg,Value.cells]
 |prod a b=>
  obtain⟨d,hu,hd⟩:=lf hc;unfold Value.okWide at h;rw[hu]at h;cases d<;>simp[Ty.isAgg]at hd;all_goals
   obtain⟨cs,rfl,_⟩:=h;simp[toV,Ty.isAgg,Value.cells]
 |unit=>
  obtain⟨d,hu,hd⟩:=lf hc;unfold Value.okWide at h;rw[hu]at h;cases d<;>simp[Ty.isAgg]at hd;all_goals
   obtain⟨cs,rfl,_⟩:=h;simp[toV,Ty.isAgg,Value.cells]
 |arr n e=>
  obtain⟨d,hu,hd⟩:=lf hc;unfold Value.okWide at h;rw[hu]at h;cases d<;>simp[Ty.isAgg]at hd;all_goals
   obtain⟨cs,rfl,_⟩:=h;simp[toV,Ty.isAgg,Value.cells]
 |ptr _=>simp[Ty.good]at hg
 |clo _ _=>simp[Ty.good]at hg
def ei(P:Program):List (Mode×Ty)->List TypeId->Bool
 |[],[]=>true
 |(.rd,τ)::l,t::ts=>τ.good&&chk P τ none t&&P.readableRec t&&Tv t P.types.size&&ei P l ts
 |_,_=>false
def vi:(ins:List (Mode×Ty))->(aa (ins.map (·.2))).den->Prop
 |[],_=>True
 |p::l,x=>Wf p.2 x.1/\vi l x.2
theorem zI {base:Nat}:∀{ins:List (Mode×Ty)} {ts:List TypeId} {vs:List Value} {ds:List (DataW H)} {ps:List MemPlace},ei P ins ts=true->DataW.TrodAll enc P W 0 sp hd ts vs ds ps ->
  (∀(j:Nat) t v,ts[j]?=some t->vs[j]?=some v->Value.okWide P W .any base t v)->∃ x,ArgsRd W (λb=>b<W.heap.size) ins vs x/\vi ins x/\aG ins vs=[]/\ds.length=ins.length
 |[],[],vs,ds,ps,_,h,_=>by obtain⟨rfl,rfl,rfl⟩:=trodAll_nil h;exact⟨(),trivial,trivial,rfl,rfl⟩
 |[],_::_,_,_,_,hi,_,_=>by simp[ei]at hi
 |(_,_)::_,[],_,_,_,hi,_,_=>by simp[ei]at hi
 |(.upd,_)::_,_::_,_,_,_,hi,_,_=>by simp[ei]at hi
 |(.take,_)::_,_::_,_,_,_,hi,_,_=>by simp[ei]at hi
 |(.box _,_)::_,_::_,_,_,_,hi,_,_=>by simp[ei]at hi
 |(.rd,τ)::l,t::ts,vs,ds,ps,hi,h,hok=>by simp only[ei,np]at hi;obtain⟨⟨⟨⟨c1,c2⟩,_⟩,_⟩,c3⟩:=hi;obtain⟨v,vs',d,ds',p,q,rfl,rfl,rfl,⟨fuel,h1⟩,h2⟩:=trodAll_cons h;obtain⟨y,_,hr⟩:=nK c1 c2 h1;obtain⟨x,x1,x2,x3,x4⟩:=zI (base:=base) c3 h2 λj t v hj hv=>hok (j+1) t v (by simpa using hj) (by simpa using hv);exact⟨(y,x),⟨⟨v.cells.toList,(Co c1 c2 (hok 0 t v rfl rfl)).symm,hr⟩,x1⟩,⟨hr.wf,x2⟩,x3,by simp[x4]⟩
theorem kK{P:Program}:∀{ins:List (Mode×Ty)} {ts:List TypeId},ei P ins ts=true->oV ins=true
 |[],_,_=>rfl
 |(.rd,_)::l,[],h=>by simp[ei]at h
 |(.rd,_)::l,t::ts,h=>by simp only[ei,np]at h;exact kK (ins:=l) h.2
 |(.upd,_)::_,ts,h=>by cases ts<;>simp[ei]at h
 |(.take,_)::_,ts,h=>by cases ts<;>simp[ei]at h
 |(.box _,_)::_,ts,h=>by cases ts<;>simp[ei]at h
theorem sy {W':World}{sp':Nat->Bool}(hl:laidOutB P=true):∀{ins:List (Mode×Ty)} {ts:List TypeId} {vs:List Value} {ds:List (DataW H)} {ps:List MemPlace},ei P ins ts=true ->
  DataW.TrodAll enc P W 0 (λ_=>true) true ts vs ds ps->(∀ p∈ps,W.sameAt W' p)->(∀ p∈ps,sp' p.block=true)->DataW.TrodAll enc P W' 0 sp' true ts vs ds ps
 |[],[],vs,ds,ps,_,h,_,_=>by obtain⟨rfl,rfl,rfl⟩:=trodAll_nil h;exact rfl
 |[],_::_,_,_,_,hi,_,_,_=>by simp[ei]at hi
 |(_,_)::_,[],_,_,_,hi,_,_,_=>by simp[ei]at hi
 |(.upd,_)::_,_::_,_,_,_,hi,_,_,_=>by simp[ei]at hi
 |(.take,_)::_,_::_,_,_,_,hi,_,_,_=>by simp[ei]at hi
 |(.box _,_)::_,_::_,_,_,_,hi,_,_,_=>by simp[ei]at hi
 |(.rd,τ)::l,t::ts,vs,ds,ps,hi,h,hs,hsp=>by simp only[ei,np]at hi;obtain⟨⟨⟨⟨_,_⟩,c4⟩,c5⟩,c3⟩:=hi;obtain⟨v,vs',d,ds',p,q,rfl,rfl,rfl,h1,h2⟩:=trodAll_cons h;exact⟨p,q,WideElems.Trod_stays hl c4 (L9 c5) h1 (λx hx=>hs x (by simp[hx])) (λx hx=>hsp x (by simp[hx])),sy hl c3 h2 (λx hx=>hs x (by simp[hx])) (λx hx=>hsp x (by simp[hx])),rfl⟩
end
theorem Cn {H:Type}{enc:TypeId×Value->H}{P:Program}{f:Func}{s:ChangeSpec}{W W':World}{args:Array Value}{ds:List (DataW H)}{before:List MemPlace}{ins:List (Mode×Ty)}{tb:TypeId}{fresh handsOn again:Bool}
  (hl:laidOutB P=true) (hi:ei P ins f.params.toList=true) (hr:f.resultTypes=#[tb]) (hb:P.underlying tb=some .bool) (hv:s.vars=[])
  (hW:DataW.Whole enc P f.params.toList s.vars false W args.toList ds [] before) (hs:s.fn H (ds++[])={ results:=[.lit (.bool true)],args:=ds })
  (hk:Kept W (λ_=>False) W'):s.post enc P f false fresh handsOn again W args (.bool true) W':=by
 have hold:∀ p∈before,decide (p.block<W.heap.size)=true:=λp hp=>by simpa using hW.lt p hp
 have hblk:∀ b,b<W.heap.size->W'.heap[b]?=W.heap[b]?:=λb hb=>hk.block b hb (λh=>h);have hsame:∀ p∈before,W.sameAt W' p:=by
  intro p hp;have:=hblk p.block (hW.lt p hp);cases p with
  |cell b off=>simp only[MemPlace.block]at this;simp[World.sameAt,World.cell?,this]
  |map b=>exact this
 have hW':=hW;obtain⟨p,q,hA,hV,rfl,hz,_⟩:=hW;rw[hv]at hV;obtain rfl:q=[]:=hV;simp only[List.append_nil]at hold hsame hz hW';have args':∀ sp:Nat->Bool,(∀ x∈p,sp x.block=true)->DataW.TrodAll enc P W' 0 sp true f.params.toList args.toList ds p:=λsp hsp=>sy hl hi hA hsame hsp;have res':∀(b:Nat) (sp:Nat->Bool) (hd:Bool),DataW.TrodAll enc P W' b sp hd f.resultTypes.toList ((Value.bool true).resultList f.resultTypes.size) [.lit (.bool true)] []:=by intro b sp hd;rw[hr];exact trodAll_mk1 (shut_bool hb true)
 have ok':∀(j:Nat) (t:TypeId) (r:Value),f.resultTypes[j]?=some t->((Value.bool true).resultList f.resultTypes.size)[j]?=some r->Value.okWide P W' .any 0 t r:=by
  intro j t r hj hv;rw[hr]at hj hv;match j,hj,hv with
  |0,hj,hv=>
   simp[Value.resultList]at hj hv;subst hj;subst hv
   simp[Value.okWide,hb,Cell.okWide,Cell.ok]
 have vars':∀ sp:Nat->Bool,DataW.TrodVars enc P W' sp s.vars (s.fn H (ds++[])).vars []:=by intro sp;rw[hv,hs];exact rfl
 refine⟨ds,[],p,[],p,[],hW',by rw[hs];exact res' _ _ _,by rw[hs];exact args' _ hold,vars' _,⟨hk.os,hk.output,λi hi=>?_⟩,λ_=>⟨ok',[.lit (.bool true)]++ds,[],p,⟨p,[],?_,?_,by simp,?_,λh=>by cases h⟩,λx hx _=>hx⟩⟩
 ·rw[hblk i hi];cases h:W.heap[i]? with
  |none=>trivial
  |some o=>
   cases o with
   |cells c t fr=>exact⟨rfl,rfl,rfl,λ_ _=>rfl⟩
   |map es ck=>exact .inr ⟨rfl,rfl⟩
   |_=>rfl
 ·have:=trodAll_append (args' (λ_=>true) (λ_ _=>rfl)) (res' 0 (λ_=>true) true);simpa using this
 ·rw[hv];exact rfl
 intro b off hp;have:=hblk b (of_decide_eq_true (hold _ hp));have h2:=hz b off hp;simpa[World.frozen?,this]using h2
theorem Cz {H:Type}{enc:TypeId×Value->H}{P:Program}{f:FuncId}{fn:Func}{s:ChangeSpec}{glob:List (Nat×(Σ t:Ty,t.den))}{ins:List (Mode×Ty)}{tb:TypeId}{M:(aa (ins.map (·.2))).den->Option (aa ([(true,Ty.bool)].map (·.2)++aS ins)).den}{fresh handsOn again:Bool}
  (hl : laidOutB P = true) (hf : P.funcs[f]? = some fn) (hb : fn.body.isSome = true) (hn : (fn.name == "runtime.NumGoroutine") = false) (hi : ei P ins fn.params.toList = true) (hr : fn.resultTypes = #[tb]) (hbt : P.underlying tb = some .bool) (hv : s.vars = [])
  (hs:∀ ds:List (DataW H),ds.length=ins.length->s.fn H (ds++[])={ results:=[.lit (.bool true)],args:=ds })
  (hc:Con.Holds P glob f ⟨ins,[(true,.bool)],M,false⟩) (hM:∀ x,vi ins x->∃ r,M x=some (true,r))
  {W:World} {base:Nat} {args:Array Value} {ds gs:List (DataW H)} {before:List MemPlace}
  (hg:∀ g τ x,gb glob g=some ⟨τ,x⟩->Rd W (λb=>b<W.heap.size) (.ptr τ) [.pointer (some ⟨g,0,none⟩)] x)
  (hok:∀(j:Nat) t v,fn.params[j]?=some t->args[j]?=some v->Value.okWide P W .any base t v) (hW:DataW.Whole enc P fn.params.toList s.vars false W args.toList ds gs before) :
  Calls P f args W λe W'=>∃ v,e=.returned v/\s.post enc P fn false fresh handsOn again W args v W':=by
 have hW0:=hW;obtain⟨p,q,hA,hV,_,_,_⟩:=hW;obtain rfl:gs=[]:=by
  rw[hv]at hV;cases gs with
  |nil=>rfl
  |cons g r=>exact absurd hV (by intro h;cases h)
 obtain⟨x,a1,a2,a3,a4⟩:=zI (base:=base) hi hA (λj t v hj hv=>hok j t v (by rw[<- R7];exact hj) (by rw[<- R7];exact hv));obtain⟨r,hMx⟩:=hM x a2;have hp:Pre glob W (λb=>b<W.heap.size) ins args.toList x:=⟨a1,by rw[a3];simp,by rw[a3];exact Se,λb hb=>hb,hg⟩;have fin:∀{v:Value} {W':World},(∃ F2 css,Cw W (λb=>b<W.heap.size) ins args.toList [(true,.bool)] (true,r) v W' F2 css)->s.post enc P fn false fresh handsOn again W args v W':=by
  rintro v W' ⟨F2,css,hP⟩;have hk:=hP.kept;rw[a3]at hk;have hk':Kept W (λ_=>False) W':=⟨hk.os,hk.tape,hk.output,hk.size,λb hb _=>hk.block b hb (by rintro⟨u,hu,_⟩;simp at hu)⟩;have hv':v=.bool true:=by
   have h1:=hP.res;have h2:=hP.val;match css,h1 with
   |[cs],h1=>have h3:Rd W' F2 .bool cs true:=h1.1;unfold Rd at h3;subst h3;rw[h2];rfl
  subst hv';exact Cn hl hi hr hbt hv hW0 (hs ds a4) hk'
 have hn' : ¬ fn.name = "runtime.NumGoroutine" := by simpa using hn
 obtain⟨body,hbody⟩:=Option.isSome_iff_exists.1 hb;have hcall:(callFunc f args).run P W=.ok (.enter f args) W:=by simp[callFunc,hf,hn',hbody]
 have harr:args.toList.toArray=args:=by simp
 rcases hc.get (kK hi) hp hMx with⟨_,h2⟩|⟨v,w',h1,_⟩
 ·rw[harr]at h2;refine h2.mono λe W' he=>?_;obtain⟨v,rfl,hR⟩:=he;exact⟨v,rfl,fin hR⟩
 rw[harr,hcall]at h1;cases h1
end Go.Vm
namespace Go.Vm
theorem xY {P:Program}{W:World}{laid:List (String×DataW Unit)}(h:laidMetH P laid W)(hno:(laid.filter fun x=>x.2.handleName?.isSome)=[]){name:String}{d:DataW Unit}{g:Nat}{t:TypeId}{τ : Ty}{x : τ.den}
  (hmem:(name,d)∈laid) (hg:P.globalNamed name=some g) (ht:(P.globals[g]?).map (·.type)=some t) (hc:(chk P τ none t&&τ.good)=true) (hx:ofD τ d=some x) :
  Rd W (λb=>b<W.heap.size) (.ptr τ) [.pointer (some ⟨g,0,none⟩)] x:=by
 simp only[np]at hc;unfold laidMetH at h;rw[hno]at h;obtain⟨ps,hv,_⟩:=h;have key:∀(l:List (String×DataW Unit)) (ps:List MemPlace),DataW.LaidVars P W l ps->(name,d)∈l->∃ g t cs fuel p,P.globalNamed name=some g/\(P.globals[g]?).map (·.type)=some t/\W.var? P name=some cs/\DataW.trod (λ_=>()) P W 0 (λ_=>true) false fuel t cs.toList=some (d,p):=by
  intro l;induction l with
  |nil=>intro _ _ hm;simp at hm
  |cons q l ih=>
   obtain⟨n,e⟩:=q;rintro ps ⟨g,t,cs,fuel,p,q,h1,h2,h3,h4,h5,_⟩ hm;rcases A6.1 hm with hm|hm
   ·cases hm;exact⟨g,t,cs,fuel,p,h1,h2,h3,h4⟩
   exact ih q h5 hm
 obtain⟨g',t',cs,fuel,p,h1,h2,h3,h4⟩:=key laid ps hv hmem;rw[hg]at h1;cases h1
 rw[ht]at h2;cases h2
 obtain⟨y,hy,hr⟩:=nK hc.2 hc.1 h4;rw[hx]at hy;cases hy
 unfold World.var? at h3;rw[hg]at h3;simp only[pw]at h3;split at h3
 ·rename_i c el fz hh;cases h3;have hb:g<W.heap.size:=(L5.1 hh).1;have hl:=hr.len;rw[RC]at hl;refine⟨g,0,cs,el,fz,rfl,hb,hh,by omega,?_⟩;have:seg cs 0 τ.size=cs.toList:=by unfold seg;rw[List.drop_zero,List.take_of_length_le (by rw[RC];omega)]
  rw[this];exact hr
 cases h3
theorem Po {W:World}{glob:List (Nat×(Σ t:Ty,t.den))}(h:∀ p∈glob,Rd W (fun b=>b < W.heap.size) (.ptr p.2.1) [.pointer (some ⟨p.1,0,none⟩)] p.2.2) :
  ∀ g τ x,gb glob g=some ⟨τ,x⟩->Rd W (λb=>b<W.heap.size) (.ptr τ) [.pointer (some ⟨g,0,none⟩)] x:=by
 induction glob with
 |nil=>intro g τ x hg;simp[gb]at hg
 |cons p r ih=>
  intro g τ x hg;obtain⟨k,v⟩:=p;simp only[gb]at hg;cases hk:Nat.beq k g with
  |true=>rw[hk]at hg;cases hg;rw[<- xy hk];exact h (k,⟨τ,x⟩) (by simp)
  |false=>rw[hk]at hg;exact ih (λp hp=>h p (by simp[hp])) g τ x hg
end Go.Vm

/-
 Plain laws for what the decompiler prints: numbers, lists, strings, loops.
-/
namespace Go.Vm
theorem KF:lim=68719476736:=by decide
theorem uf{a b:Int}(h1:-9223372036854775808<=a+b)(h2:a+b<=9223372036854775807):ae .i64 a b=a+b:=IntWalk.i64_in _ ⟨h1,h2⟩
theorem fw{a b:Int}(h1:-9223372036854775808<=a-b)(h2:a-b<=9223372036854775807):aK .i64 a b=a-b:=IntWalk.i64_in _ ⟨h1,h2⟩
theorem oB{a b:Int}(h1:-9223372036854775808<=a*b)(h2:a*b<=9223372036854775807):aT .i64 a b=a*b:=IntWalk.i64_in _ ⟨h1,h2⟩
theorem d9{a:Nat}(h:a<9223372036854775807):ae .i64 (a:Int) 1=((a+1:Nat):Int):=by rw[uf (by omega) (by omega)];rfl
theorem rQ{a:Nat}(h:a<=9223372036854775800):aK .i64 (a:Int) 1=(a:Int)-1:=fw (by omega) (by omega)
theorem cr{a b:Int}(h:a<b):ltI a b=true:=by simp[ltI,h]
theorem cf{a b:Int}(h:b<=a):ltI a b=false:=by simp[ltI];omega
theorem qQ{a b:Int}(h:b<a):gtI a b=true:=by simp[gtI,h]
theorem oN{a b:Int}(h:a<=b):gtI a b=false:=by simp[gtI];omega
theorem pQ{a b:Int}(h:b<=a):geI a b=true:=by simp[geI];omega
theorem yq{a b:Int}(h:a<b):geI a b=false:=by simp[geI];omega
theorem BO{a b:Int}(h:a<=b):leI a b=true:=by simp[leI,h]
theorem DS{a b:Int}(h:b<a):leI a b=false:=by simp[leI];omega
theorem dY{a b:Int}(h:a=b):eqI a b=true:=by simp[eqI,h]
theorem dM{a b:Int}(h:a≠b):eqI a b=false:=by simp[eqI,h]
theorem BZ{a b:Int}(h:a≠b):neI a b=true:=by simp[neI,h]
theorem At{a b:Int}(h:a=b):neI a b=false:=by simp[neI,h]
def oth(d:Nat):Nat:=if d%2=0 then d+1 else d-1
theorem jf{n i:Nat}(h:i<n):az n (i:Int)=some i:=by simp[az,h]
theorem aR{α:Type}{l:List α}{i:Nat}:ao l (i:Int)=l[i]?:=by simp[ao]
theorem qN{α:Type}{l:List α}{i:Int}(h:0<=i):ao l i=l[i.toNat]?:=by simp[ao,h]
theorem ui{α:Type}{l r:List α}(h:l.length+r.length<=68719476736):app l r=some (l++r):=by simp[app,KF,h]
section
variable {σ ρ:Type}{f:σ->Option (σ⊕ρ)}
theorem fE{s t:σ}(h:f s=some (.inl t)):ac f s=ac f t:=by rw[mw,h];rfl
theorem c9{s:σ}{r:ρ}(h:f s=some (.inr r)):ac f s=some r:=by rw[mw,h];rfl
theorem dQ(I:σ->Prop)(m:σ->Nat)(Q:ρ->Prop)(step:∀ s,I s->(∃ t,f s=some (.inl t)/\I t/\m t<m s)\/∃ r,f s=some (.inr r)/\Q r):∀ s,I s->∃ r,ac f s=some r/\Q r:=by
 have:∀ n s,m s<=n->I s->∃ r,ac f s=some r/\Q r:=by
  intro n;induction n with
  |zero=>
   intro s hm hs;rcases step s hs with⟨t,_,_,h⟩|⟨r,h1,h2⟩
   ·omega
   exact⟨r,c9 h1,h2⟩
  |succ n ih=>
   intro s hm hs;rcases step s hs with⟨t,h1,h2,h⟩|⟨r,h1,h2⟩
   ·rw[fE h1];exact ih t (by omega) h2
   exact⟨r,c9 h1,h2⟩
 exactλs hs=>this (m s) s (B2 _) hs
end
theorem Kq{a b:ByteArray}:eqS a b=true↔a=b:=by
 simp only[eqS,beq_iff_eq];constructor
 ·intro h;rw[ByteArray.toList_eq,ByteArray.toList_eq]at h;obtain⟨⟨x⟩⟩:=a;obtain⟨⟨y⟩⟩:=b;simpa using h
 intro h;rw[h]
def Ru{α:Type}(x:List α×Int×Int×Unit):Option ((List α×Int×Int×Unit)⊕((List α×Unit)⊕Empty)):=
 cond (ltI x.2.1 x.2.2.1) ((az x.1.length x.2.2.1).bind λj1=>(x.1[j1]?).bind λy2=>(az x.1.length x.2.1).bind λj3=>(x.1[j3]?).bind λy4=>(az x.1.length x.2.1).bind λj5=>(x.1[j5]?).bind λ_=>(az (x.1.set j5 y2).length x.2.2.1).bind λj7=>((x.1.set j5 y2)[j7]?).bind λ_=>some (.inl (((x.1.set j5 y2).set j7 y4),((ae .i64 x.2.1 1),((aK .i64 x.2.2.1 1),()))))) (some (.inr (.inl (x.1,()))))
end Go.Vm
namespace Go.Vm
def nD{S α ε:Type}(g:Nat->S->α->Option (S⊕ε)):Nat->S->List α->Option (S⊕ε)
 |_,s,[]=>some (.inl s)
 |i,s,a::l=>(g i s a).bind (sw (λt=>nD g (i+1) t l) (λe=>some (.inr e)))
theorem rU {σ ρ S α ε : Type}{B : σ->Option (σ⊕ρ)}(I:Nat->S->Prop)(st:S->Nat->σ)(out:S->ρ)(ex : ε->ρ)(g:Nat->S->α->Option (S⊕ε))(l:List α)
  (h1:∀ s i a,I i s->l[i]?=some a->B (st s i)=(g i s a).bind (sw (λt=>some (.inl (st t (i+1)))) (λe=>some (.inr (ex e)))))
  (hI:∀ s i a t,I i s->l[i]?=some a->g i s a=some (.inl t)->I (i+1) t)
  (h2:∀ s,I l.length s->B (st s l.length)=some (.inr (out s))):∀(r p:List α) (s:S),p++r=l->I p.length s->ac B (st s p.length)=(nD g p.length s r).bind (sw (λt=>some (out t)) (λe=>some (ex e)))
 |[],p,s,h,hs=>by
  have:p.length=l.length:=by rw[<- h];simp
  rw[this]at hs ⊢;rw[c9 (h2 s hs)];rfl
 |a::r,p,s,h,hs=>by
  have ha:l[p.length]?=some a:=by rw[<- h];simp
  rw[mw,h1 s p.length a hs ha];simp only[nD];cases hg:g p.length s a with
  |none=>rfl
  |some x=>
   cases x with
   |inl t=>simp only[pw,Sum.elim_inl];have:=rU I st out ex g l h1 hI h2 r (p++[a]) t (by simp[h]) (by simpa using hI s p.length a t hs ha hg);simpa using this
   |inr e=>rfl
theorem Qd {σ ρ S α ε : Type}{B : σ->Option (σ⊕ρ)}(I:Nat->S->Prop)(st:S->Nat->σ)(out:S->ρ)(ex : ε->ρ)(g:Nat->S->α->Option (S⊕ε))(l:List α)
  (h1:∀ s i a,I i s->l[i]?=some a->B (st s i)=(g i s a).bind (sw (λt=>some (.inl (st t (i+1)))) (λe=>some (.inr (ex e)))))
  (hI:∀ s i a t,I i s->l[i]?=some a->g i s a=some (.inl t)->I (i+1) t)
  (h2:∀ s,I l.length s->B (st s l.length)=some (.inr (out s))) (s:S) (hs:I 0 s):ac B (st s 0)=(nD g 0 s l).bind (sw (λt=>some (out t)) (λe=>some (ex e))):=
 rU I st out ex g l h1 hI h2 l [] s rfl hs
theorem Ng {σ ρ S α ε : Type}{B : σ->Option (σ⊕ρ)}(st:S->Nat->σ)(out:S->ρ)(ex : ε->ρ)(g:Nat->S->α->Option (S⊕ε))(l:List α)
  (h1:∀ s i a,l[i]?=some a->B (st s i)=(g i s a).bind (sw (λt=>some (.inl (st t (i+1)))) (λe=>some (.inr (ex e)))))
  (h2:∀ s,B (st s l.length)=some (.inr (out s))) (s:S):ac B (st s 0)=(nD g 0 s l).bind (sw (λt=>some (out t)) (λe=>some (ex e))):=
 Qd (λ_ _=>True) st out ex g l (λs i a _=>h1 s i a) (λ_ _ _ _ _ _ _=>trivial) (λs _=>h2 s) s trivial
end Go.Vm

