/-
 Poly.Orthogonal: iterators over segments; Repeat, Sort, Compact, Insert.
-/
import Derived.OrdersIn
import Derived.KernelRfl
import Derived.RangeFuncNested
import Derived.RangeFuncBound
import Derived.RangeFuncCalls
import Derived.RangeFuncLeaves
import Derived.Shelf.Abstract
import Derived.Shelf.RegionOpen
import Derived.WalkKit
import Derived.OwnWalkIn
import Derived.TacticsInMore
import Derived.LoopNIn
import Derived.LoopIn
import Derived.Test.YtnkjongpfleloaaGreatDoorProg
import Derived.Test.YtnkjongpfleloaaGreatDoorVmE
import Derived.Shelf.Sort.Plain
import Derived.Shelf.Slices.CompactI
import Derived.Shelf.Slices.In.SortNone
import Derived.Shelf.Spec.SlicesInsert
import Derived.Shelf.Spec.SlicesInsertGrow
import Derived.Shelf.SlIterI.Collect
import Derived.Ground.GgzProg
import Derived.Shelf.Strings.Repeat
import Derived.Ground.NamesProg
import Derived.Ground.Names2Prog
import Derived.Test.YtnkjongpfleloaaGreatDoorVmC
import Derived.Test.YtnkjongpfleloaaGreatDoorVmExt2
import Derived.Test.YtnkjongpfleloaaGreatDoorVmExt3
import Derived.Test.YtnkjongpfleloaaGreatDoorVmExt4
import Derived.Test.YtnkjongpfleloaaGreatDoorVmPack
open Bool renaming and_eq_true->np,or_eq_true_iff->T9
open List renaming range->A2,mem_append->A5,all_eq_true->A9,replicate->B8,mem_range->RF,length_cons->RJ,mem_singleton->RO,length_nil->RQ,size_toArray->Sm,nil_append->Sn,cons_append->Ss,append_toArray->SP,push_toArray->S1,mem_map->S6,mem_filter->Tb,getElem_map->TD,length_map->TL,filter_eq_nil_iff->TU,map_map->T2,getElem_of_eq->Ud,zip->Ur,map_pmap->Uv
open Nat renaming le_refl->B2,le_of_ble_eq_true->L9,ble->RD,lt_of_lt_of_le->RK,lt_or_ge->SH,lt_succ_self->TH
open Option.some renaming inj->B6
open Array renaming getElem?_eq_some_iff->L5,getD_eq_getD_getElem?->RE,replicate_succ->SM,replicate_zero->SN,replicate->SR,getElem?_eq_none->TQ
open List.Pairwise renaming nil->Se
open List.Nodup renaming erase_eq_filter->UP
set_option linter.unusedVariables false
set_option linter.unusedSimpArgs false
/-
 A row of operations in no fixed order, whose first ones only give values, whatever their order; behind them come the others.
-/
namespace Go.Head
open Go
section
variable {F:Fence}{n:Nat}{P:Program}{ops:Array Oper}{Q:Exit->Act->World->Prop}
def dB(ops:Array Oper)(i:Nat):Option Nat:=(ops[i]?).bind (·.dst)
def kF(ops:Array Oper)(i:Nat):List Nat:=match ops[i]? with
 |some o=>(o.after.toList.filter λe=>Region.binds .any e).map (·.on)
 |none=>[]
def l8(ops:Array Oper):Nat->Nat->List Nat
 |0,_=>[]
 |f+1,i=>kF ops i++(kF ops i).flatMap (l8 ops f)
def yH(ops:Array Oper)(m:Nat):Bool:=
 ((A2 ops.size).all λi=>(kF ops i).all λj=>decide (j<i)) &&
 ((A2 m).all λi=>(A2 m).all λj=>decide (i=j)||decide (dB ops i≠dB ops j)) &&
 ((A2 ops.size).all λi=>decide (i<m)||(A2 m).all λj=>(l8 ops ops.size i).contains j)
structure Inv (ops:Array Oper)(m:Nat)(a0:Act)(V:Nat->Value)(L:Array Bool)(a:Act):Prop where
 sz:L.size=ops.size
 tail:∀ i,m<=i->L.getD i false=false
 closed:∀ i,L.getD i false=true->∀ j∈kF ops i,L.getD j false=true
 dfr:a.defers=a0.defers
 asz:a.tmps.size=a0.tmps.size
 vals:∀ i,L.getD i false=true->∀ d,dB ops i=some d->a.tmps.getD d undef=V i
 old:∀ t,(∀ i,L.getD i false=true->dB ops i≠some t)->a.tmps.getD t undef=a0.tmps.getD t undef
theorem sV{L:Array Bool}{i:Nat}(h:i<L.size):L.getD i true=L.getD i false:=by simp[h]
theorem pC{α:Type}{d:α}{x y:Array α}(h:x.size=y.size)(hg:∀ t,t<x.size->x.getD t d=y.getD t d):x=y:=by apply Array.ext h;intro i h1 h2;have:=hg i h1;simpa[h1,h2]using this
theorem ux{L:Array Bool}{i:Nat}(hs:L.size=ops.size)(h:i∈Region.ready .any ops L):L.getD i false=false/\(∃ o,ops[i]?=some o)/\∀ j∈kF ops i,L.getD j false=true:=by obtain⟨h0,o,ho,hall⟩:=mem_ready.1 h;have hlt:i<ops.size:=(L5.1 ho).1;refine⟨by rw[<- sV (by omega)];exact h0,⟨o,ho⟩,λj hj=>?_⟩;unfold kF at hj;rw[ho]at hj;simp only[S6,Tb]at hj;obtain⟨e,⟨he,hb⟩,rfl⟩:=hj;exact hall e (by simpa using he) hb
theorem vY{L:Nat->Bool}(hc:∀ i,L i=true->∀ j∈kF ops i,L j=true):∀(f i:Nat),(∀ j∈kF ops i,L j=true)->∀ j∈l8 ops f i,L j=true
 |0,_,_,j,hj=>by cases hj
 |f+1,i,h,j,hj=>by
  unfold l8 at hj;rcases A5.1 hj with hj|hj
  ·exact h j hj
  obtain⟨k,hk,hj⟩:=List.mem_flatMap.1 hj;exact vY hc f k (hc k (h k hk)) j hj
def i8(m s:Nat):Array Bool:=((B8 m true)++(B8 (s-m) false)).toArray
theorem k7(m s t:Nat):(i8 m s).getD t false=decide (t<m):=by
 have:(i8 m s).getD t false=((B8 m true++B8 (s-m) false)[t]?).getD false:=by simp[i8]
 rw[this];rcases SH t m with h|h
 ·rw[List.getElem?_append_left (by simpa using h)];simp[h]
 rw[List.getElem?_append_right (by simpa using h)];by_cases h2:t-m<s-m<;>simp[h2,Nat.not_lt.2 h]
theorem nj{m s:Nat}(h:m<=s):(i8 m s).size=s:=by simp[i8];omega
theorem any_head {m:Nat}{a0 aF:Act}{w:World}{V:Nat->Value}(hro:F.round=none)(hm:m<=ops.size)(hchk:yH ops m=true)
  (hop:∀ i,i<m->∃ o d,ops[i]?=some o/\o.guard=none/\o.dst=some d/\d<a0.tmps.size)
  (hex:∀ i o,i<m->ops[i]?=some o->∀ a:Act,(∀ j,j∈kF ops i->∀ d,dB ops j=some d->a.tmps.getD d undef=V j)->(∀ t,(∀ j,j<m->dB ops j≠some t)->a.tmps.getD t undef=a0.tmps.getD t undef) ->
   o.about P w a.eval=none/\(execOp a.eval o).run P w=.ok (.value (V i)) w)
  (hF1:aF.defers=a0.defers) (hF2:aF.tmps.size=a0.tmps.size) (hF3:∀ i,i<m->∀ d,dB ops i=some d->aF.tmps.getD d undef=V i) (hF4:∀ t,(∀ i,i<m->dB ops i≠some t)->aF.tmps.getD t undef=a0.tmps.getD t undef)
  (hK:wpAnyIn F n P .any ops Q (ops.size-m) (i8 m ops.size) aF w) :
  wpAnyIn F n P .any ops Q ops.size (SR ops.size false) a0 w:=by
 unfold yH at hchk;simp only[np,A9,RF,Bool.or_eq_true,decide_eq_true_eq,ne_eq]at hchk;obtain⟨⟨hc1,hc2⟩,hc3⟩:=hchk;have key:∀(f:Nat) (L:Array Bool) (a:Act),Inv ops m a0 V L a->f=ops.size-m+((A2 m).filter λi=>!L.getD i false).length->wpAnyIn F n P .any ops Q f L a w:=by
  intro f;induction f with
  |zero=>
   intro L a hi hf;have hnil:((A2 m).filter λi=>!L.getD i false)=[]:=List.eq_nil_of_length_eq_zero (by omega);have hall:∀ i,i<m->L.getD i false=true:=by intro i hlt;rw[TU]at hnil;have:=hnil i (RF.2 hlt);simpa using this
   have hLF:L=i8 m ops.size:=pC (d:=false) (by rw[hi.sz,nj hm]) λt ht=>by
    rw[hi.sz]at ht;rcases SH t m with h|h
    ·rw[hall t h,k7];simp[h]
    omega
   have haF:a=aF:=by
    have hd:=hi.dfr.trans hF1.symm;have ht:a.tmps=aF.tmps:=pC (d:=undef) (hi.asz.trans hF2.symm) λt _=>by
     by_cases hx:∃ i,i<m/\dB ops i=some t
     ·obtain⟨i,h1,h2⟩:=hx;rw[hi.vals i (hall i h1) t h2,hF3 i h1 t h2]
     have h1:∀ i,i<m->dB ops i≠some t:=λi h2 h3=>hx ⟨i,h2,h3⟩;rw[hF4 t h1,hi.old t λi h2=>?_];rcases SH i m with h|h
     ·exact h1 i h
     rw[hi.tail i h]at h2;cases h2
    cases a;cases aF;simp only at hd ht;subst hd;subst ht;rfl
   have hsz:ops.size-m=0:=by omega
   rw[hsz,<- hLF,<- haF]at hK;exact hK
  |succ f ih=>
   intro L a hi hf;by_cases hall:∀ i,i<m->L.getD i false=true
   ·have hnil:((A2 m).filter λi=>!L.getD i false)=[]:=by rw[TU];intro i h;rw[hall i (RF.1 h)];simp
    have hLF:L=i8 m ops.size:=pC (d:=false) (by rw[hi.sz,nj hm]) λt ht=>by
     rw[hi.sz]at ht;rcases SH t m with h|h
     ·rw[hall t h,k7];simp[h]
     rw[hi.tail t h,k7];simp;omega
    have haF:a=aF:=by
     have hd:=hi.dfr.trans hF1.symm;have ht:a.tmps=aF.tmps:=pC (d:=undef) (hi.asz.trans hF2.symm) λt _=>by
      by_cases hx:∃ i,i<m/\dB ops i=some t
      ·obtain⟨i,h1,h2⟩:=hx;rw[hi.vals i (hall i h1) t h2,hF3 i h1 t h2]
      have h1:∀ i,i<m->dB ops i≠some t:=λi h2 h3=>hx ⟨i,h2,h3⟩;rw[hF4 t h1,hi.old t λi h2=>?_];rcases SH i m with h|h
      ·exact h1 i h
      rw[hi.tail i h]at h2;cases h2
     cases a;cases aF;simp only at hd ht;subst hd;subst ht;rfl
    rw[hnil]at hf;simp only[RQ,Nat.add_zero]at hf;rw[hf,hLF,haF];exact hK
   obtain⟨i0,h0,h0'⟩:∃ i,i<m/\¬L.getD i false=true:=by apply Classical.byContradiction;intro hno;exact hall λi hlt=>Classical.byContradiction λhh=>hno ⟨i,hlt,hh⟩
   refine⟨λhr=>?_,λi hr=>?_⟩
   ·-- the least that is not listed is ready
    exfalso;have least:∀ k i,i<k->i<m->¬L.getD i false=true->∃ j,j∈Region.ready .any ops L:=by
     intro k;induction k with
     |zero=>intro i h;omega
     |succ k ihk=>
      intro i hik him hni;by_cases hp:∀ j∈kF ops i,L.getD j false=true
      ·obtain⟨o,d,ho,_⟩:=hop i him;have hlt:i<ops.size:=(L5.1 ho).1;refine⟨i,mem_ready.2 ⟨by rw[sV (by rw[hi.sz];exact hlt)];simpa using hni,o,ho,λe he hb=>hp e.on ?_⟩⟩;unfold kF;rw[ho];exact S6.2 ⟨e,Tb.2 ⟨by simpa using he,hb⟩,rfl⟩
      obtain⟨j,hj,hnj⟩:∃ j,j∈kF ops i/\¬L.getD j false=true:=by apply Classical.byContradiction;intro hno;exact hp λj hj=>Classical.byContradiction λhh=>hno ⟨j,hj,hh⟩
      have hji:=hc1 i (by omega) j hj;exact ihk j (by omega) (by omega) hnj
    obtain⟨j,hj⟩:=least (i0+1) i0 (TH _) h0 h0';rw[hr]at hj;cases hj
   obtain⟨hni,⟨o,ho⟩,hp⟩:=ux hi.sz hr;have hlt:i<ops.size:=(L5.1 ho).1;have him:i<m:=by
    rcases SH i m with h|h
    ·exact h
    exfalso;rcases hc3 i hlt with h'|h'
    ·omega
    have:=vY (L:=λj=>L.getD j false) (λi h=>hi.closed i h) ops.size i hp i0 (by simpa using h' i0 h0);exact h0' this
   obtain⟨o',d,ho',hg,hd,hdl⟩:=hop i him;rw[ho]at ho';cases ho';have hdi:dB ops i=some d:=by unfold dB;rw[ho];exact hd
   have hlm:∀ j,L.getD j false=true->j<m:=λj hj=>by
    rcases SH j m with h|h
    ·exact h
    rw[hi.tail j h]at hj;cases hj
   obtain⟨ha,hx⟩:=hex i o him ho a (λj hj d' hd'=>hi.vals j (hp j hj) d' hd') (λt ht=>hi.old t λj hj=>ht j (hlm j hj));unfold wpOpIn;rw[ho];simp only;rw[if_pos (by simp[Region.wanted,hg])];refine⟨λf hf=>(by rw[ha]at hf;cases hf),?_⟩;rw[hro,Oper.semAt_none,hx];show wpAnyIn F n P .any ops Q f (L.setIfInBounds i true) (a.put o.dst (V i)) w;rw[hd];have hset:∀ j,(L.setIfInBounds i true).getD j false=(L.getD j false||decide (j=i)):=by
    intro j;by_cases e:j=i
    ·subst e;simp[hi.sz,hlt]
    rw[getD_set_ne false (Ne.symm e)];simp[e]
   have hput:∀ t,(a.put (some d) (V i)).tmps.getD t undef=if d=t then V i else a.tmps.getD t undef:=by
    intro t;show(a.tmps.setIfInBounds d (V i)).getD t undef=_;by_cases e:d=t
    ·subst e;simp[hi.asz,hdl]
    rw[if_neg e,RE,RE,Array.getElem?_setIfInBounds_ne e]
   refine ih _ _ ⟨by simpa using hi.sz,?_,?_,hi.dfr,by simpa[Act.put]using hi.asz,?_,?_⟩ ?_
   ·intro j hj;rw[hset,hi.tail j hj];simp;omega
   ·intro j hj k hk;rw[hset]at hj ⊢;rcases T9.1 hj with hj|hj
    ·rw[hi.closed j hj k hk];rfl
    have e:j=i:=of_decide_eq_true hj;subst e;rw[hp k hk];rfl
   ·intro j hj d' hd';rw[hset]at hj;rw[hput];rcases T9.1 hj with hj'|hj'
    ·replace hj:=hj'
     by_cases e:j=i
     ·subst e;exact absurd (hni.symm.trans hj) (by decide)
     have hjm:=hlm j hj;have:¬d=d':=by
      intro ed;subst ed;rcases hc2 i him j hjm with h|h
      ·exact e h.symm
      exact h (hdi.trans hd'.symm)
     rw[if_neg this];exact hi.vals j hj d' hd'
    have e:j=i:=of_decide_eq_true hj';subst e;rw[hdi]at hd';cases hd';rw[if_pos rfl]
   ·intro t ht;rw[hput];have h1:¬d=t:=λe=>ht i (by rw[hset];simp) (by rw[hdi,e]);rw[if_neg h1];exact hi.old t λj hj=>ht j (by rw[hset,hj];rfl)
   have:((A2 m).filter λj=>!L.getD j false).length=((A2 m).filter λj=>!(L.setIfInBounds i true).getD j false).length+1:=by
    have e1:((A2 m).filter λj=>!(L.setIfInBounds i true).getD j false)=((A2 m).filter λj=>!L.getD j false).erase i:=by rw[UP ((List.nodup_range).filter _),List.filter_filter];apply List.filter_congr;intro j hj;rw[hset];by_cases e:j=i<;>simp[e,Bool.and_comm]
    rw[e1,List.length_erase_of_mem (Tb.2 ⟨RF.2 him,by rw[hni];rfl⟩)];have:0<((A2 m).filter λj=>!L.getD j false).length:=List.length_pos_of_mem (Tb.2 ⟨RF.2 him,by rw[hni];rfl⟩);omega
   omega
 refine key _ _ _ ⟨by simp,λi _=>?_,λi h=>?_,rfl,rfl,λi h=>?_,λt _=>rfl⟩ ?_
 ·by_cases h:i<ops.size<;>simp[h]
 ·by_cases h':i<ops.size<;>simp[h']at h
 ·by_cases h':i<ops.size<;>simp[h']at h
 have:((A2 m).filter λi=>!(SR ops.size false).getD i false)=A2 m:=by
  rw[List.filter_eq_self];intro i hi;have:=RF.1 hi;have h':i<ops.size:=by omega
  simp[h']
 rw[this,List.length_range];omega
theorem upon_round {o:Oper}{a:Act}{next:Act->World->Prop}{w w':World}{l fn:Nat}{tmps:Array Value}{assign body:Code}(hro:F.round=none)(h:(execOp a.eval o).run P w=.ok (.round l fn tmps assign body) w')(hd:F.depth.isSome=true->1<=n)
  (hR:RoundIn F (n-1) P l fn tmps assign body w' fun|.returned v,w''=>next (a.put o.dst v) w''|.panicked chain,w''=>Q (.panic chain) a w''|.outgrown,_=>LetsOut Q):o.uponIn F n P a next Q ((o.semAt F.round a.eval).run P w):=by
 rw[hro,Oper.semAt_none,h];exact⟨hd,hR⟩
theorem upon_value{o:Oper}{a:Act}{next:Act->World->Prop}{w w':World}{v:Value}(hro:F.round=none)(h:(execOp a.eval o).run P w=.ok (.value v) w')(hK:next (a.put o.dst v) w'):o.uponIn F n P a next Q ((o.semAt F.round a.eval).run P w):=by rw[hro,Oper.semAt_none,h];exact hK
end
end Go.Head

/-
 poly.segments: what the iterator gives.
-/
namespace Go.Proofs
open Go.RowKit Go.Shelf
attribute [local go_sem] Oper.semAt_some
abbrev PtI:=Int×Int
def J0(s:PtI×PtI):Value:=.agg #[.int .i64 s.1.1,.int .i64 s.1.2,.int .i64 s.2.1,.int .i64 s.2.2]
def Q0(zs:List PtI):List (PtI×PtI):=Ur zs (zs.drop 1)
def PtsAt(W:World)(a:Option Addr)(n₀:Nat)(zs:List PtI):Prop:=
 zs≠[]->∃ b off,a=some ⟨b,off,none⟩/\b<n₀/\∀ j (h:j<zs.length),W.cell? ⟨b,off+j*2,none⟩=some (.int .i64 zs[j].1)/\W.cell? ⟨b,off+j*2+1,none⟩=some (.int .i64 zs[j].2)
theorem PtsAt.below{n₀:Nat}{A B:World}(h:Below n₀ A B){a:Option Addr}{zs:List PtI}(hp:PtsAt A a n₀ zs):PtsAt B a n₀ zs:=by intro hne;obtain⟨b,off,h1,h2,h3⟩:=hp hne;exact⟨b,off,h1,h2,λj hj=>⟨(h.cell (p:=⟨b,off+j*2,none⟩) h2).trans (h3 j hj).1,(h.cell (p:=⟨b,off+j*2+1,none⟩) h2).trans (h3 j hj).2⟩⟩
set_option maxHeartbeats 1000000 in
theorem vK (F:Fence)(n:Nat)(h5:F.fn 86)(hro:F.round=none)(a:Option Addr)(len cap:Nat)(w:World) :
  CallsIn F n Tryz.prog 86 #[.slice a len cap] w λe w'=>e=.returned (.func (.func 132) #[] #[.pointer (some ⟨w.heap.size,0,none⟩)])/\w'=w.alloc (.cells #[.slice a len cap] 25):=by
 refine callsIn_of_wp Tryz.func86 rfl h5 ?_ hro;simp only[Tryz.ntmps86,Sm,RJ,RQ,Nat.reduceAdd,Nat.reduceSub,SM,SN,S1,SP,Sn,Ss]
 gi_wp2
 go_ret
 exact⟨rfl,rfl⟩
def okP(p:PtI):Prop:=(IntKind.i64.min<=p.1/\p.1<=IntKind.i64.max)/\(IntKind.i64.min<=p.2/\p.2<=IntKind.i64.max)
abbrev SegO:={ s:PtI×PtI // okP s.1/\okP s.2 }
abbrev PtO:={ p:PtI // okP p }
def me(zs:List PtO):List SegO:=(Ur zs (zs.drop 1)).map λs=>⟨(s.1.1,s.2.1),s.1.2,s.2.2⟩
theorem nb(zs:List PtO):(me zs).length=zs.length-1:=by simp[me]
abbrev JB(zs:List PtO):={ s:SegO // s∈me zs }
def cW(zs:List PtO):List (JB zs):=(me zs).attach
theorem tL(zs:List PtO):(cW zs).length=zs.length-1:=by simp[cW,nb]
set_option maxRecDepth 100000 in
set_option maxHeartbeats 4000000 in
theorem Jl (n:Nat)(hn:1<=n)(l Bn n₀ B1:Nat)(a:Option Addr)(cap:Nat)(zs:List PtO)(hreach:zs.length * 16<=140737488351232)(w0:World)(hP:PtsAt w0 a n₀ (zs.map (·.1)))(hBn:w0.cell? ⟨Bn,0,none⟩=some (.slice a zs.length cap))(hlt:Bn < w0.heap.size)
  (J Jx:List (JB zs)->World->Prop) (hA:AbidesFrom B1 J)
  (hY:∀ pre x W,J pre W->pre.length<(cW zs).length->YieldAt Fence.wide (n-1) Tryz.prog l #[J0 x.1.1] W λe W'=>
   (e=.returned (.bool true)/\J (pre++[x]) W'/\(Below n₀ W W'/\W'.cell? ⟨Bn,0,none⟩=W.cell? ⟨Bn,0,none⟩))\/(e=.returned (.bool false)/\Jx (pre++[x]) W'))
  (W:World) (hW:Below n₀ w0 W/\W.cell? ⟨Bn,0,none⟩=w0.cell? ⟨Bn,0,none⟩) (h0:J [] W) :
  CallsIn Fence.wide n Tryz.prog 132 #[.func (.yield l) #[] #[],.pointer (some ⟨Bn,0,none⟩)] W λe W'=>(∃ v,e=.returned v) /\
   ((∃ ys,ys=cW zs/\J ys W')\/(∃ pre,pre <+: cW zs/\Jx pre W')):=by
 refine callsIn_of_wp Tryz.func132 rfl trivial ?_ rfl;simp only[Tryz.ntmps132,Sm,RJ,RQ,Nat.reduceAdd,Nat.reduceSub,SM,SN,S1,SP,Sn,Ss]
 gi_wp2
 gi_loopw [3] (λi wr=>∃ k:Nat,(k<=(cW zs).length)/\i=.int .i64 ((k+1:Nat):Int)/\J ((cW zs).take k) wr/\(Below n₀ w0 wr/\wr.cell? ⟨Bn,0,none⟩=w0.cell? ⟨Bn,0,none⟩))
  (λi _=>(cW zs).length+1-(Go.RowKit.intOf i).toNat)
 case atStart=>exact⟨0,Nat.zero_le _,rfl,h0,hW⟩
 case round=>
  obtain⟨k,hk,rfl,hJs,hB,hcl⟩:=hrel;have hcell:=hcl.trans hBn;have hsl:(cW zs).length=zs.length-1:=tL zs;by_cases hlt:k<(cW zs).length
  ·have hl:k+1<zs.length:=by omega
   obtain⟨b,off,rfl,hb,hz⟩:=hP (by intro e;have:=congrArg List.length e;simp only[TL,RQ]at this;omega);obtain⟨x1,x2⟩:=hz k (by simp;omega);obtain⟨y1,y2⟩:=hz (k+1) (by simp;omega)
   replace x1:=(hB.cell (p:=⟨b,off+k*2,none⟩) hb).trans x1
   replace x2:=(hB.cell (p:=⟨b,off+k*2+1,none⟩) hb).trans x2
   replace y1:=(hB.cell (p:=⟨b,off+(k+1)*2,none⟩) hb).trans y1
   replace y2:=(hB.cell (p:=⟨b,off+(k+1)*2+1,none⟩) hb).trans y2
   simp only[TD]at x1 x2 y1 y2;have hJ2:J ((cW zs).take k) wr.drew:=hA _ wr wr.drew none hJs ⟨rfl,rfl,rfl,B2 _,λ_ _ _=>rfl⟩ (λr e=>by cases e);have hkO:(me zs)[k]'(by rw[nb];omega)=⟨((zs[k]'(by omega)).1,zs[k+1].1),(zs[k]'(by omega)).2,zs[k+1].2⟩:=by simp[me,Nat.add_comm 1 k]
   have hmem:(⟨((zs[k]'(by omega)).1,zs[k+1].1),(zs[k]'(by omega)).2,zs[k+1].2⟩:SegO)∈me zs:=by rw[<- hkO];exact List.getElem_mem _
   obtain⟨fn,tmps,assign,body,hy,hR⟩:=hY _ ⟨⟨((zs[k]'(by omega)).1,zs[k+1].1),(zs[k]'(by omega)).2,zs[k+1].2⟩,hmem⟩ wr.drew hJ2 (by rw[List.length_take];omega);have hnext:(cW zs).take k++[⟨⟨((zs[k]'(by omega)).1,zs[k+1].1),(zs[k]'(by omega)).2,zs[k+1].2⟩,hmem⟩]=(cW zs).take (k+1):=by rw[List.take_add_one,List.getElem?_eq_getElem hlt];have:(cW zs)[k]=⟨⟨((zs[k]'(by omega)).1,zs[k+1].1),(zs[k]'(by omega)).2,zs[k+1].2⟩,hmem⟩:=Subtype.ext (by simp only[cW,List.getElem_attach];exact hkO);rw[this];rfl
   rw[hnext]at hR;have h1:(zs[k]'(by omega)).1.1=(zs[k]'(by omega)).val.fst:=rfl
   replace hy:(Instr.yield l #[.agg #[.int .i64 (zs[k]'(by omega)).val.fst,.int .i64 (zs[k]'(by omega)).val.snd,.int .i64 (zs[k+1]).val.fst,.int .i64 (zs[k+1]).val.snd]]).run Tryz.prog wr.drew=.ok (.round l fn tmps assign body) wr.drew:=hy
   gi_wp2
   have hm:Tryz.prog.follows .mixedOrders=true:=by kernel_rfl
   refine wpIn_region_any hm (Head.any_head (m:=11) (V:=λi=>([.func (.yield l) #[] #[],.slice (some ⟨b,off,none⟩) zs.length cap,.int .i64 ((k+1:Nat):Int),.int .i64 (k:Int),.pointer (some ⟨b,off+k*2,none⟩),.agg #[.int .i64 (zs[k]'(by omega)).val.fst,.int .i64 (zs[k]'(by omega)).val.snd],
    .slice (some ⟨b,off,none⟩) zs.length cap,.int .i64 ((k+1:Nat):Int),.pointer (some ⟨b,off+(k+1)*2,none⟩),.agg #[.int .i64 (zs[k+1]).val.fst,.int .i64 (zs[k+1]).val.snd],
    .agg #[.int .i64 (zs[k]'(by omega)).val.fst,.int .i64 (zs[k]'(by omega)).val.snd,.int .i64 (zs[k+1]).val.fst,.int .i64 (zs[k+1]).val.snd]]:List Value).getD i undef)
    (aF:=?aF) rfl (by decide) (by kernel_rfl) ?hop ?hex ?f1 ?f2 ?f3 ?f4 ?hK)
   case hop=>
    intro i hi;have:i=0\/i=1\/i=2\/i=3\/i=4\/i=5\/i=6\/i=7\/i=8\/i=9\/i=10:=by omega
    rcases this with rfl|rfl|rfl|rfl|rfl|rfl|rfl|rfl|rfl|rfl|rfl<;>exact⟨_,_,rfl,rfl,rfl,by simp⟩
   case hex=>
    intro i o hi ho a hp hold;have:i=0\/i=1\/i=2\/i=3\/i=4\/i=5\/i=6\/i=7\/i=8\/i=9\/i=10:=by omega
    have o0:a.tmps.getD 0 undef=.func (.yield l) #[] #[]:=hold 0 (by decide);have o1:a.tmps.getD 1 undef=.pointer (some ⟨Bn,0,none⟩):=hold 1 (by decide);have o3:a.tmps.getD 3 undef=.int .i64 ((k+1:Nat):Int):=hold 3 (by decide);rcases this with rfl|rfl|rfl|rfl|rfl|rfl|rfl|rfl|rfl|rfl|rfl<;>(obtain rfl:=B6 (show some _=some o by simpa using ho);refine⟨rfl,?_⟩)
    ·simp[execOp,Act.eval,<- o0]
    ·have e:a.eval (.tmp 1)=.pointer (some ⟨Bn,0,none⟩):=o1;have hc':wr.drew.cell? ⟨Bn,0,none⟩=some (.slice (some ⟨b,off,none⟩) zs.length cap):=hcell;simp[execOp,e,Instr.loadAt,Instr.sureAddr,loadVar,Tryz.isAgg25,hcell]
    ·have e:a.eval (.tmp 3)=.int .i64 ((k+1:Nat):Int):=o3;simp[execOp,e]
    ·have e:a.eval (.tmp 12)=.int .i64 ((k+1:Nat):Int):=hp 2 (by decide) 12 rfl;have e2:a.eval (.const (.int .i64 1))=.int .i64 1:=rfl;simp[execOp,e,e2,eqGuard,binOp,Op.intArith]
     go_bits
     trivial
    ·have e:a.eval (.tmp 11)=.slice (some ⟨b,off,none⟩) zs.length cap:=hp 1 (by decide) 11 rfl;have e2:a.eval (.tmp 13)=.int .i64 (k:Int):=hp 3 (by decide) 13 rfl;simp[execOp,e,e2,Instr.indexAt,asIntOf,Tryz.underlying25,Tryz.sizeOf41,show k<zs.length by omega,Addr.add]
    ·have e:a.eval (.tmp 14)=.pointer (some ⟨b,off+k*2,none⟩):=hp 4 (by decide) 14 rfl;have hlc:=run_loadCells_list (P:=Tryz.prog) wr.drew ⟨b,off+k*2,none⟩ [.int .i64 (zs[k]'(by omega)).val.fst,.int .i64 (zs[k]'(by omega)).val.snd] (by
      intro j v hv;match j,hv with
      |0,hv=>cases hv;exact x1
      |1,hv=>cases hv;exact x2)
     simp[execOp,e,Instr.loadAt,Instr.sureAddr,loadVar,Tryz.isAgg41,Tryz.sizeOf41]
     replace hlc:(loadCells ⟨b,off+k*2,none⟩ 2).run Tryz.prog wr.drew=_:=hlc
     rw[hlc];rfl
    ·have e:a.eval (.tmp 1)=.pointer (some ⟨Bn,0,none⟩):=o1;simp[execOp,e,Instr.loadAt,Instr.sureAddr,loadVar,Tryz.isAgg25,hcell]
    ·have e:a.eval (.tmp 3)=.int .i64 ((k+1:Nat):Int):=o3;simp[execOp,e]
    ·have e:a.eval (.tmp 16)=.slice (some ⟨b,off,none⟩) zs.length cap:=hp 6 (by decide) 16 rfl;have e2:a.eval (.tmp 17)=.int .i64 ((k+1:Nat):Int):=hp 7 (by decide) 17 rfl;have hi:¬((k:Int)+1<0)/\(k:Int)+1<zs.length:=by omega
     simp[execOp,e,e2,Instr.indexAt,asIntOf,Tryz.underlying25,Tryz.sizeOf41,hl,Addr.add,show(0:Int)<=(k:Int)+1 by omega,show(k:Int)+1<zs.length by omega]
    ·have e:a.eval (.tmp 18)=.pointer (some ⟨b,off+(k+1)*2,none⟩):=hp 8 (by decide) 18 rfl;have hlc:=run_loadCells_list (P:=Tryz.prog) wr.drew ⟨b,off+(k+1)*2,none⟩ [.int .i64 (zs[k+1]).val.fst,.int .i64 (zs[k+1]).val.snd] (by
      intro j v hv;match j,hv with
      |0,hv=>cases hv;exact y1
      |1,hv=>cases hv;exact y2)
     simp[execOp,e,Instr.loadAt,Instr.sureAddr,loadVar,Tryz.isAgg41,Tryz.sizeOf41]
     replace hlc:(loadCells ⟨b,off+(k+1)*2,none⟩ 2).run Tryz.prog wr.drew=_:=hlc
     rw[hlc];rfl
    have e:a.eval (.tmp 15)=.agg #[.int .i64 (zs[k]'(by omega)).val.fst,.int .i64 (zs[k]'(by omega)).val.snd]:=hp 5 (by decide) 15 rfl;have e2:a.eval (.tmp 19)=.agg #[.int .i64 (zs[k+1]).val.fst,.int .i64 (zs[k+1]).val.snd]:=hp 9 (by decide) 19 rfl;have hb:=run_build (P:=Tryz.prog) wr.drew 47 #[(0,.agg #[.int .i64 (zs[k]'(by omega)).val.fst,.int .i64 (zs[k]'(by omega)).val.snd]),(1,.agg #[.int .i64 (zs[k+1]).val.fst,.int .i64 (zs[k+1]).val.snd])] _ (by rfl);simp[execOp,e,e2,hb];rfl
   case aF=>exact { tmps:=#[.func (.yield l) #[] #[],.pointer (some ⟨Bn,0,none⟩),undef,.int .i64 ((k+1:Nat):Int),.int .i64 ((k+1:Nat):Int),.slice (some ⟨b,off,none⟩) zs.length cap,.int .i64 (zs.length:Int),Value.bool true,u8,u9,
    .func (.yield l) #[] #[],.slice (some ⟨b,off,none⟩) zs.length cap,.int .i64 ((k+1:Nat):Int),.int .i64 (k:Int),.pointer (some ⟨b,off+k*2,none⟩),.agg #[.int .i64 (zs[k]'(by omega)).val.fst,.int .i64 (zs[k]'(by omega)).val.snd],
    .slice (some ⟨b,off,none⟩) zs.length cap,.int .i64 ((k+1:Nat):Int),.pointer (some ⟨b,off+(k+1)*2,none⟩),.agg #[.int .i64 (zs[k+1]).val.fst,.int .i64 (zs[k+1]).val.snd],
    .agg #[.int .i64 (zs[k]'(by omega)).val.fst,.int .i64 (zs[k]'(by omega)).val.snd,.int .i64 (zs[k+1]).val.fst,.int .i64 (zs[k+1]).val.snd],u21,u22],defers:=[] }
   case f1=>rfl
   case f2=>rfl
   case f3=>
    intro i hi d hd;have:i=0\/i=1\/i=2\/i=3\/i=4\/i=5\/i=6\/i=7\/i=8\/i=9\/i=10:=by omega
    rcases this with rfl|rfl|rfl|rfl|rfl|rfl|rfl|rfl|rfl|rfl|rfl<;>(cases hd;rfl)
   case f4=>
    intro t ht;rcases SH t 23 with h|h
    ·have h10:¬(10<=t/\t<=20):=λhh=>ht (t-10) (by omega) (by
      have:t=10\/t=11\/t=12\/t=13\/t=14\/t=15\/t=16\/t=17\/t=18\/t=19\/t=20:=by omega
      rcases this with rfl|rfl|rfl|rfl|rfl|rfl|rfl|rfl|rfl|rfl|rfl<;>rfl)
     have:t=0\/t=1\/t=2\/t=3\/t=4\/t=5\/t=6\/t=7\/t=8\/t=9\/t=21\/t=22:=by omega
     rcases this with rfl|rfl|rfl|rfl|rfl|rfl|rfl|rfl|rfl|rfl|rfl|rfl<;>rfl
    rw[RE,RE,TQ h,TQ h]
   case hK=>
    refine wpAnyIn_all (rs:=[11]) (by kernel_rfl) (by simp) ?_;intro i hi;obtain rfl:=RO.1 hi;refine⟨λ_ _=>trivial,Head.upon_round (l:=l) (fn:=fn) (tmps:=tmps) (assign:=assign) (body:=body) (w':=wr.drew) rfl (by simp[execOp,Act.eval,resolve,invoke,Deferred.ofValue,hy]) (λh=>by cases h) (hR.mono ?_)⟩;intro e W3 hout;obtain⟨b1,rfl,hb1⟩:∃ b1,e=.returned (.bool b1)/\((b1=true/\J ((cW zs).take (k+1)) W3/\Below n₀ wr W3/\W3.cell? ⟨Bn,0,none⟩=wr.cell? ⟨Bn,0,none⟩)\/(b1=false/\Jx ((cW zs).take (k+1)) W3)):=by
     rcases hout with⟨rfl,h1,h2,h3⟩|⟨rfl,h1⟩
     ·exact⟨true,rfl,.inl ⟨rfl,h1,(by have d:Below n₀ wr wr.drew:=⟨rfl,rfl,rfl,B2 _,λ_ _=>rfl⟩;exact d.trans h2),h3⟩⟩
     exact⟨false,rfl,.inr ⟨rfl,h1⟩⟩
    refine wpAnyIn_all (rs:=[12]) (by kernel_rfl) (by simp) ?_;intro i hi;obtain rfl:=RO.1 hi;refine⟨λ_ _=>trivial,Head.upon_value (v:=.bool (!b1)) (w':=W3) rfl (by simp[execOp,Act.eval,Act.put,Op.unary]) ?_⟩;refine wpAnyIn_done (by kernel_rfl) ?_ _
    change Exit.then _ _ Exit.normal ({ tmps:=#[.func (.yield l) #[] #[],.pointer (some ⟨Bn,0,none⟩),undef,.int .i64 ((k+1:Nat):Int),.int .i64 ((k+1:Nat):Int),.slice (some ⟨b,off,none⟩) zs.length cap,.int .i64 (zs.length:Int),Value.bool true,u8,u9,
     .func (.yield l) #[] #[],.slice (some ⟨b,off,none⟩) zs.length cap,.int .i64 ((k+1:Nat):Int),.int .i64 (k:Int),.pointer (some ⟨b,off+k*2,none⟩),.agg #[.int .i64 (zs[k]'(by omega)).val.fst,.int .i64 (zs[k]'(by omega)).val.snd],
     .slice (some ⟨b,off,none⟩) zs.length cap,.int .i64 ((k+1:Nat):Int),.pointer (some ⟨b,off+(k+1)*2,none⟩),.agg #[.int .i64 (zs[k+1]).val.fst,.int .i64 (zs[k+1]).val.snd],
     .agg #[.int .i64 (zs[k]'(by omega)).val.fst,.int .i64 (zs[k]'(by omega)).val.snd,.int .i64 (zs[k+1]).val.fst,.int .i64 (zs[k+1]).val.snd],.bool b1,.bool (!b1)],defers:=[] }:Act) W3
    cases b1 with
    |true=>
     have h4:J ((cW zs).take (k+1)) W3/\Below n₀ wr W3/\W3.cell? ⟨Bn,0,none⟩=wr.cell? ⟨Bn,0,none⟩:=by
      rcases hb1 with h|h
      ·exact h.2
      cases h.1
     obtain⟨hJ3,hB3,hc3⟩:=h4
     gi_wp2
     go_roundw
     case rel=>exact⟨k+1,by omega,by simp,hJ3,hB.trans hB3,hc3.trans hcl⟩
     case measure=>simp[Go.RowKit.intOf];omega
    |false=>
     have h4:Jx ((cW zs).take (k+1)) W3:=by
      rcases hb1 with h|h
      ·cases h.1
      exact h.2
     gi_wp2
     refine bodyPost_ret (results_none rfl _ _ _) rfl ?_;exact⟨⟨_,rfl⟩,.inr ⟨_,List.take_prefix _ _,h4⟩⟩
  obtain rfl:k=(cW zs).length:=by omega
  rw[List.take_length]at hJs;have hz:¬(((cW zs).length:Int)+1<zs.length):=by omega
  gi_wp2
  go_end0
  exact⟨⟨_,rfl⟩,.inl hJs⟩
def KpS(n₀ Bn:Nat)(A B:World):Prop:=Below n₀ A B/\B.cell? ⟨Bn,0,none⟩=A.cell? ⟨Bn,0,none⟩
theorem KpS.trans{n₀ Bn:Nat}{A B C:World}(h:KpS n₀ Bn A B)(k:KpS n₀ Bn B C):KpS n₀ Bn A C:=⟨h.1.trans k.1,k.2.trans h.2⟩
theorem KpS.put{n₀ Bn:Nat}{w:World}(hn:n₀<=w.heap.size)(hb:Bn<w.heap.size)(W:World)(l:Nat)(o o':Obj)(hl:w.heap.size<=l)(h:W.heap[l]?=some o)(h1:o.isCells=false)(h2:o.isWalk=false):KpS n₀ Bn W (W.putObj l o'):=
 ⟨belowK_b hn W l o o' hl h h1 h2,(belowK_b (n₀:=Bn+1) (by omega) W l o o' hl h h1 h2).cell (p:=⟨Bn,0,none⟩) (TH _)⟩
theorem xW (n:Nat)(hn:1<=n)(Bn n₀ : Nat)(a:Option Addr)(cap:Nat)(zs:List PtO)(hreach:zs.length * 16<=140737488351232)(w:World)(hBn:Bn < w.heap.size)(hn₀ : n₀<=w.heap.size)
  (hc:w.cell? ⟨Bn,0,none⟩=some (.slice a zs.length cap)) (hP:PtsAt w a n₀ (zs.map (·.1))) :
  SeqStopsK Fence.wide n Tryz.prog 132 #[.pointer (some ⟨Bn,0,none⟩)] (λx:JB zs=>#[J0 x.1.1]) (KpS n₀ Bn) (λys=>ys=cW zs) (λpre=>pre <+: cW zs) (cW zs).length w:=λl J Jx W hW hA _ hY h0=>
 Jl n hn l Bn n₀ W.heap.size a cap zs hreach w hP hc hBn J Jx hA hY W ⟨hW.mono hn₀,hW.cell (p:=⟨Bn,0,none⟩) hBn⟩ h0
end Go.Proofs

/-
 poly.Orthogonal: every segment is flat.
-/
namespace Go.Proofs
open Go.RowKit Go.Shelf
attribute [local go_sem] Oper.semAt_some
def BoxedR(W:World)(B:Nat)(t:TypeId)(cs:Array Value):Prop:=W.heap[B]?=some (.cells cs t (0,0))
theorem BoxedR.lt{W:World}{B:Nat}{t:TypeId}{v:Array Value}(h:BoxedR W B t v):B<W.heap.size:=(L5.1 h).1
theorem BoxedR.kept{W W':World}{row:Option Nat}{B:Nat}{t:TypeId}{v:Array Value}(h:BoxedR W B t v)(hg:W.grownBy W' row)(hne:some B≠row):BoxedR W' B t v:=(hg.block B h.lt hne).trans h
theorem BoxedR.new(W:World)(t:TypeId)(v:Array Value):BoxedR (W.alloc (.cells v t)) W.heap.size t v:=World.alloc_heap_new W _
theorem BoxedR.cell{W:World}{B:Nat}{t:TypeId}{v:Array Value}(h:BoxedR W B t v)(i:Nat){u:Value}(hu:v[i]?=some u):W.cell? ⟨B,i,none⟩=some u:=by simp[World.cell?,show W.heap[B]?=_ from h,hu]
theorem xH{β:Type}(B:Nat)(t:TypeId)(f:β->Array Value):Own (λs W=>BoxedR W B t (f s)):=λs X Y row hs hg hrow=>
 hs.kept hg (λe'=>by obtain⟨o,ho,hc⟩:=hrow B e'.symm;rw[show X.heap[B]?=_ from hs]at ho;cases ho;cases hc)
theorem uK{W W':World}{B n₀:Nat}{t:TypeId}{v:Value}(h:Boxed W B t v)(hb:Below n₀ W W')(hlt:B<n₀):Boxed W' B t v:=(hb.block B hlt).trans h
theorem vn{β:Type}(p:β->Prop)(n:Nat):OwnFrom n (λs (_:World)=>p s):=λ_ _ _ _ hs _ _=>hs
theorem jr {P:Program}{fn:Func}{p:Tmp}{ty:TypeId}(h:fn.results=#[.cell p ty]){tmps:Array Value}{w:World}{g:Nat}{v:Value}(hp:tmps.getD p undef=.pointer (some ⟨g,0,none⟩))(ha:∀ w,(isAgg ty).run P w=.ok false w)(hc:w.cell? ⟨g,0,none⟩=some v) :
  (results fn tmps).run P w=.ok v w:=by
 have hp':tmps[p]?.getD undef=.pointer (some ⟨g,0,none⟩):=by simpa using hp
 simp[results,h,hp',asAddr,loadVar,ha w,hc]
def jK(s:PtI×PtI):Bool:=s.1.1==s.2.1||s.1.2==s.2.2
set_option maxRecDepth 100000 in
set_option maxHeartbeats 8000000 in
theorem rB (n:Nat)(hn:6<=n)(a1:Option Addr)(k1:Nat)(zs:List PtO)(w:World)(hr1:zs.length * 16<=140737488351232)
  (hP1:PtsAt w a1 w.heap.size (zs.map (·.1))) (b1:Bool)
  (hV1:∀ W,Below w.heap.size w W->Calls Tryz.prog 38 #[.slice a1 zs.length k1] W λe W'=>e=.returned (.bool b1)/\Below W.heap.size W W') :
  CallsIn Fence.wide n Tryz.prog 39 #[.slice a1 zs.length k1] w λe W'=>e=.returned (.bool (b1&&(cW zs).all λs=>jK s.1.1))/\Below w.heap.size w W':=by
 have h1:1<=n:=by omega
 refine callsIn_of_wp_marks Tryz.func39 rfl trivial ?_ rfl;simp only[Tryz.ntmps39,Sm,RJ,RQ,Nat.reduceAdd,Nat.reduceSub,SM,SN,S1,SP,Sn,Ss]
 gi_wp2
 have hB0:Below w.heap.size w (w.alloc (.cells #[.bool false] 4)):=(Below.refl _ w).alloc (B2 _) _;have bB0:=Boxed.new w 4 (.bool false);have hs0:(w.alloc (.cells #[.bool false] 4)).heap.size=w.heap.size+1:=by simp
 refine⟨trivial,(callsIn_wide.2 (hV1 _ hB0)).mono ?_⟩;rintro e w1 ⟨rfl,hb1⟩;have hB1:Below w.heap.size w w1:=hB0.trans (hb1.mono (by omega));have bR1:Boxed w1 w.heap.size 4 (.bool false):=uK bB0 hb1 (by omega);have hs1:w.heap.size+1<=w1.heap.size:=by have:=hb1.size;omega
 have cR1:=bR1.cell;have fR1:=bR1.frozen;clear hb1 bB0 hB0 hs0;cases b1 with
 |false=>
  gi_wp2
  have bS:=bR1.set (.bool false);exact⟨_,jr rfl rfl Tryz.isAgg4 bS.cell,rfl,hB1.setCell (p:=⟨w.heap.size,0,none⟩) (by simp) _⟩
 |true=>
  gi_wp2
  refine⟨trivial,(vK Fence.wide (n-1) trivial rfl _ _ _ _).mono ?_⟩;rintro e w' ⟨rfl,rfl⟩;have bA:=Boxed.new w1 25 (.slice a1 zs.length k1);have bR:=bR1.alloc (.cells #[.slice a1 zs.length k1] 25);have hB0:Below w.heap.size w (w1.alloc (.cells #[.slice a1 zs.length k1] 25)):=hB1.alloc (by omega) _;have hsz:(w1.alloc (.cells #[.slice a1 zs.length k1] 25)).heap.size=w1.heap.size+1:=by simp
  obtain⟨W0,hW0⟩:∃ W0,w1.alloc (.cells #[.slice a1 zs.length k1] 25)=W0:=⟨_,rfl⟩;rw[hW0]at bA bR hB0 hsz ⊢;clear hW0
  gi_wp2
  refine wpIn_rangeFunc_ownH rfl h1 (gf:=132) (lb:=#[.pointer (some ⟨w1.heap.size,0,none⟩)]) rfl trivial (enters_of Tryz.func132 (by kernel_rfl) rfl)
   (xW (n-1) (by omega) w1.heap.size w.heap.size a1 k1 zs hr1 W0 (by omega) (by omega) bA.cell (hP1.below hB0)) KpS.trans (KpS.put (by omega) (by omega)) (Below.refl _ _) (λ_=>rfl)
   (λpre W=>((Boxed W w.heap.size 4 (.bool false)/\Boxed W w1.heap.size 25 (.slice a1 zs.length k1))/\(∀ s∈pre,jK s.1.1=true))/\Below w.heap.size w W)
   (λc pre W=>(Boxed W w.heap.size 4 (.bool false)/\(c=.ret/\∃ s∈pre,jK s.1.1=false))/\Below w.heap.size w W)
   (OwnFrom.and (OwnFrom.and (OwnFrom.and (Own.from (boxed_own _ _ _) _) (Own.from (boxed_own _ _ _) _)) (vn _ _)) (ownFrom_below (B2 _) (by omega)))
   (λc=>OwnFrom.and (OwnFrom.and (Own.from (boxed_own _ _ _) _) (vn _ _)) (ownFrom_below (B2 _) (by omega)))
   ⟨⟨⟨bR,bA⟩,λ_ h=>(by cases h)⟩,hB0⟩
   (λx a' W=>∃ Bx,w1.heap.size<Bx/\BoxedR W Bx 47 #[.int .i64 x.1.1.1.1,.int .i64 x.1.1.1.2,.int .i64 x.1.1.2.1,.int .i64 x.1.1.2.2]/\a'={ tmps:=#[.slice a1 zs.length k1,undef,.pointer (some ⟨w.heap.size,0,none⟩),.pointer (some ⟨Bx,0,none⟩),.slice a1 zs.length k1,.bool true,.bool false,.slice a1 zs.length k1,.func (.func 132) #[] #[.pointer (some ⟨w1.heap.size,0,none⟩)],J0 x.1.1,undef,undef,undef,undef,undef,undef,undef,undef,undef,undef,undef,undef,undef,undef,undef,undef],defers:=[] })
   (λx a' _ X Y row hs hg hr=>by obtain⟨Bx,h1,h2,h3⟩:=hs;exact⟨Bx,h1,xH Bx 47 (λ(_:Unit)=>#[Value.int .i64 x.1.1.1.1,.int .i64 x.1.1.1.2,.int .i64 x.1.1.2.1,.int .i64 x.1.1.2.2]) () X Y row h2 hg (λr e=>(hr r e).2),h3⟩)
   ?assign ?body ?done ?stop
  case assign=>
   rintro l pre x W K ⟨⟨⟨bR1,bA1⟩,hp⟩,hB1⟩ hK;unfold J0 at hK ⊢
   gi_wp2
   exact hK _ _ ((KeepsOthers.alloc _ _).from _) ⟨(Below.refl _ W).alloc hB1.size _,(bA1.alloc _).cell.trans bA1.cell.symm⟩ ⟨⟨⟨bR1.alloc _,bA1.alloc _⟩,hp⟩,hB1.alloc hB1.size _⟩ ⟨W.heap.size,bA1.lt,BoxedR.new W 47 _,rfl⟩
  case body=>
   rintro l pre x a' W hl ⟨r,hr⟩ ⟨⟨⟨bR1,bA1⟩,hp⟩,hB1⟩ ⟨Bx,hBx,bX,rfl⟩ hlt;have cR:=bR1.cell;have fR:=bR1.frozen;have hlR:=bR1.lt;have hlA:=bA1.lt;have hlX:=bX.lt;have x0:=bX.cell 0 rfl;have x1:=bX.cell 1 rfl;have x2:=bX.cell 2 rfl;have x3:=bX.cell 3 rfl;by_cases hx:x.1.1.1.1=x.1.1.2.1
   ·have hfl:jK x.1.1=true:=by simp[jK,hx]
    have hne:(x.1.1.1.1 != x.1.1.2.1)=false:=by simp[hx]
    gi_wp2
    exact⟨(KeepsOthers.refl _).from _,⟨Below.refl _ _,rfl⟩,⟨⟨⟨bR1,bA1⟩,λs hs=>(A5.1 hs).elim (hp s) (λe=>by simp at e;subst e;exact hfl)⟩,hB1⟩⟩
   have hne:(x.1.1.1.1 != x.1.1.2.1)=true:=by simp[hx]
   by_cases hy:x.1.1.1.2=x.1.1.2.2
   ·have hfl:jK x.1.1=true:=by simp[jK,hy]
    have hne2:(x.1.1.1.2 != x.1.1.2.2)=false:=by simp[hy]
    gi_wp2
    exact⟨(KeepsOthers.refl _).from _,⟨Below.refl _ _,rfl⟩,⟨⟨⟨bR1,bA1⟩,λs hs=>(A5.1 hs).elim (hp s) (λe=>by simp at e;subst e;exact hfl)⟩,hB1⟩⟩
   have hfl:jK x.1.1=false:=by simp[jK,hx,hy]
   have hne2:(x.1.1.1.2 != x.1.1.2.2)=true:=by simp[hy]
   gi_wp2
   exact⟨(KeepsOthers.setCell _ _ _).from _,⟨bR1.set _,rfl,x,by simp,hfl⟩,hB1.setCell (p:=⟨w.heap.size,0,none⟩) (by simp) _⟩
  case done=>
   rintro D zs' W hD rfl ⟨⟨⟨bR1,bA1⟩,hp⟩,hB1⟩ hK;have cR:=bR1.cell;have fR:=bR1.frozen;have hall:((cW zs).all λs=>jK s.1.1)=true:=A9.2 hp
   gi_wp2
   have hK':=(KeepsOthers.setCell W ⟨w.heap.size,0,none⟩ (.bool true)).same D _ hK rfl;refine⟨by simp,.inl ⟨_,_,rfl,run_takeDeferred hK',?_⟩⟩;have hc5:=cell_kept (bR1.set (.bool true)).cell (grownBy_putObj' _ D (.deferred none)) (λr e=>by cases e;exact⟨_,hK',rfl⟩);refine⟨_,jr rfl rfl Tryz.isAgg4 hc5,by rw[hall];rfl,(hB1.setCell (p:=⟨w.heap.size,0,none⟩) (by simp) _).trans (belowK_b (w:=w) (B2 _) _ D _ _ (by omega) hK' rfl rfl)⟩
  case stop=>
   rintro D c pre W hD hpre ⟨⟨bR1,rfl,s,hs,hfl⟩,hB1⟩ hK;have hall:((cW zs).all λs=>jK s.1.1)=false:=by rw[Bool.eq_false_iff];intro h;have:=A9.1 h s (hpre.subset hs);rw[hfl]at this;cases this
   gi_wp2
   refine⟨by simp,.inl ⟨_,_,rfl,run_takeDeferred hK,?_⟩⟩;have hc5:=cell_kept bR1.cell (grownBy_putObj' _ D (.deferred none)) (λr e=>by cases e;exact⟨_,hK,rfl⟩);refine⟨_,jr rfl rfl Tryz.isAgg4 hc5,by rw[hall];rfl,hB1.trans (belowK_b (w:=w) (B2 _) W D _ _ (by omega) hK rfl rfl)⟩
end Go.Proofs

/-
 DERIVED: THE SHELF's CONTRACTS AT THIS DUMP, IN PLAIN WORDS (tools/lay-plain.mjs out of 'TryzShelf.lean', which tools/lay-shelf.mjs wrote): THE SAME DECLARATIONS UNDER THE SAME NAMES: 'import', 'namespace', 'open', 'def', 'theorem' AND NOTHING ELSE: no command of the shelf's: FOR A HAND-IN. Each laying: the table of numbers ('.._ren') and one theorem, a field a fact of the dump's own or the kernel's comparison; each contract: ONE APPLICATION.
-/
namespace Go.Proofs
open Go.Shelf
def Tryz.laysNm221_ren:Go.Shelf.Ren:=⟨fun|21=>175|27=>204|28=>205|35=>230|39=>80|n=>n,fun|22=>64|3=>3|4=>4|0=>0|n=>n,fun|n=>n⟩
theorem Tryz.laysNm221:Go.Proofs.Lays2.n21 Tryz.prog Tryz.laysNm221_ren:={
 mixed:=by kernel_rfl
 f21:=Tryz.func175.trans (congrArg some (by kernel_rfl))
 f27:=Tryz.func204.trans (congrArg some (by kernel_rfl))
 f28:=Tryz.func205.trans (congrArg some (by kernel_rfl))
 f35:=Tryz.func230.trans (congrArg some (by kernel_rfl))
 f39:=Tryz.func80.trans (congrArg some (by kernel_rfl))
 t0:=Tryz.underlying0
 a0:=Tryz.isAgg0
 z0:=Tryz.sizeOf0
 v0:=Tryz.zeroValue0
 t3:=Tryz.underlying3
 a3:=Tryz.isAgg3
 z3:=Tryz.sizeOf3
 v3:=Tryz.zeroValue3
 t4:=Tryz.underlying4
 a4:=Tryz.isAgg4
 z4:=Tryz.sizeOf4
 v4:=Tryz.zeroValue4
 t22:=Tryz.underlying64
 a22:=Tryz.isAgg64
 z22:=Tryz.sizeOf64
 v22:=Tryz.zeroValue64
 i3:=by kernel_rfl }
def Tryz.lays189_ren:Go.Shelf.Ren:=⟨fun|189=>139|125=>183|257=>182|128=>215|129=>216|294=>206|295=>207|296=>208|297=>209|298=>210|299=>211|216=>212|300=>213|301=>214|328=>231|329=>232|330=>233|331=>234|332=>235|215=>236|343=>247|n=>n,fun|28=>64|3=>3|46=>200|0=>0|51=>240|53=>243|4=>4|183=>251|182=>250|131=>255|5=>5|9=>9|218=>269|222=>273|228=>280|229=>186|n=>n,fun|n=>n⟩
theorem Tryz.lays189:Go.Proofs.Lays.n189 Tryz.prog Tryz.lays189_ren:={
 mixed:=by kernel_rfl
 f125:=Tryz.func183.trans (congrArg some (by kernel_rfl))
 f128:=Tryz.func215.trans (congrArg some (by kernel_rfl))
 f129:=Tryz.func216.trans (congrArg some (by kernel_rfl))
 f189:=Tryz.func139.trans (congrArg some (by kernel_rfl))
 f215:=Tryz.func236.trans (congrArg some (by kernel_rfl))
 f216:=Tryz.func212.trans (congrArg some (by kernel_rfl))
 f257:=Tryz.func182.trans (congrArg some (by kernel_rfl))
 f294:=Tryz.func206.trans (congrArg some (by kernel_rfl))
 f295:=Tryz.func207.trans (congrArg some (by kernel_rfl))
 f296:=Tryz.func208.trans (congrArg some (by kernel_rfl))
 f297:=Tryz.func209.trans (congrArg some (by kernel_rfl))
 f298:=Tryz.func210.trans (congrArg some (by kernel_rfl))
 f299:=Tryz.func211.trans (congrArg some (by kernel_rfl))
 f300:=Tryz.func213.trans (congrArg some (by kernel_rfl))
 f301:=Tryz.func214.trans (congrArg some (by kernel_rfl))
 f328:=Tryz.func231.trans (congrArg some (by kernel_rfl))
 f329:=Tryz.func232.trans (congrArg some (by kernel_rfl))
 f330:=Tryz.func233.trans (congrArg some (by kernel_rfl))
 f331:=Tryz.func234.trans (congrArg some (by kernel_rfl))
 f332:=Tryz.func235.trans (congrArg some (by kernel_rfl))
 f343:=Tryz.func247.trans (congrArg some (by kernel_rfl))
 t0:=Tryz.underlying0
 a0:=Tryz.isAgg0
 z0:=Tryz.sizeOf0
 v0:=Tryz.zeroValue0
 t3:=Tryz.underlying3
 a3:=Tryz.isAgg3
 z3:=Tryz.sizeOf3
 v3:=Tryz.zeroValue3
 t4:=Tryz.underlying4
 a4:=Tryz.isAgg4
 z4:=Tryz.sizeOf4
 v4:=Tryz.zeroValue4
 t5:=Tryz.underlying5
 a5:=Tryz.isAgg5
 z5:=Tryz.sizeOf5
 v5:=Tryz.zeroValue5
 t9:=Tryz.underlying9
 a9:=Tryz.isAgg9
 z9:=Tryz.sizeOf9
 v9:=Tryz.zeroValue9
 t28:=Tryz.underlying64
 a28:=Tryz.isAgg64
 z28:=Tryz.sizeOf64
 v28:=Tryz.zeroValue64
 t46:=Tryz.underlying200
 a46:=Tryz.isAgg200
 z46:=Tryz.sizeOf200
 v46:=Tryz.zeroValue200
 t51:=Tryz.underlying240
 a51:=Tryz.isAgg240
 z51:=Tryz.sizeOf240
 v51:=Tryz.zeroValue240
 t53:=Tryz.underlying243
 a53:=Tryz.isAgg243
 z53:=Tryz.sizeOf243
 v53:=Tryz.zeroValue243
 t131:=Tryz.underlying255
 a131:=Tryz.isAgg255
 z131:=Tryz.sizeOf255
 v131:=Tryz.zeroValue255
 t182:=Tryz.underlying250
 a182:=Tryz.isAgg250
 z182:=Tryz.sizeOf250
 v182:=Tryz.zeroValue250
 t183:=Tryz.underlying251
 a183:=Tryz.isAgg251
 z183:=Tryz.sizeOf251
 v183:=Tryz.zeroValue251
 t218:=Tryz.underlying269
 a218:=Tryz.isAgg269
 z218:=Tryz.sizeOf269
 v218:=Tryz.zeroValue269
 t222:=Tryz.underlying273
 a222:=Tryz.isAgg273
 z222:=Tryz.sizeOf273
 v222:=Tryz.zeroValue273
 t228:=Tryz.underlying280
 a228:=Tryz.isAgg280
 z228:=Tryz.sizeOf280
 v228:=Tryz.zeroValue280
 t229:=Tryz.underlying186
 a229:=Tryz.isAgg186
 z229:=Tryz.sizeOf186
 v229:=Tryz.zeroValue186 }
def Tryz.laysNm220_ren:Go.Shelf.Ren:=⟨fun|20=>194|n=>n,fun|22=>64|3=>3|4=>4|0=>0|n=>n,fun|n=>n⟩
theorem Tryz.laysNm220:Go.Proofs.Lays2.n20 Tryz.prog Tryz.laysNm220_ren:={
 mixed:=by kernel_rfl
 f20:=Tryz.func194.trans (congrArg some (by kernel_rfl))
 t0:=Tryz.underlying0
 a0:=Tryz.isAgg0
 z0:=Tryz.sizeOf0
 v0:=Tryz.zeroValue0
 t3:=Tryz.underlying3
 a3:=Tryz.isAgg3
 z3:=Tryz.sizeOf3
 v3:=Tryz.zeroValue3
 t4:=Tryz.underlying4
 a4:=Tryz.isAgg4
 z4:=Tryz.sizeOf4
 v4:=Tryz.zeroValue4
 t22:=Tryz.underlying64
 a22:=Tryz.isAgg64
 z22:=Tryz.sizeOf64
 v22:=Tryz.zeroValue64
 i3:=by kernel_rfl }
def Tryz.laysAp_ren:Go.Shelf.Ren:=⟨fun|11=>248|n=>n,fun|24=>64|26=>3|28=>261|0=>0|33=>158|4=>4|n=>n,fun|n=>n⟩
theorem Tryz.laysAp:Go.Proofs.SlLaysZI.n11 Tryz.prog Tryz.laysAp_ren:={
 mixed:=by kernel_rfl
 f11:=⟨Tryz.f248.name,by decide,Tryz.func248.trans (congrArg some (by kernel_rfl))⟩
 t0:=Tryz.underlying0
 a0:=Tryz.isAgg0
 z0:=Tryz.sizeOf0
 v0:=Tryz.zeroValue0
 t24:=Tryz.underlying64
 a24:=Tryz.isAgg64
 z24:=Tryz.sizeOf64
 v24:=Tryz.zeroValue64
 t26:=Tryz.underlying3
 a26:=Tryz.isAgg3
 z26:=Tryz.sizeOf3
 v26:=Tryz.zeroValue3
 t28:=Tryz.underlying261
 a28:=Tryz.isAgg261
 z28:=Tryz.sizeOf261
 v28:=Tryz.zeroValue261
 i26:=by kernel_rfl }
def Tryz.laysRep_ren:Go.Shelf.Ren:=⟨fun|105=>111|212=>168|99=>169|165=>170|166=>171|170=>172|169=>173|263=>199|264=>200|206=>201|240=>202|241=>203|276=>228|277=>229|n=>n,fun|9=>9|3=>3|4=>4|20=>20|0=>0|46=>200|109=>201|5=>5|72=>207|76=>211|51=>240|146=>241|53=>243|148=>244|70=>204|37=>205|75=>210|127=>246|164=>266|80=>214|n=>n,fun|n=>n⟩
theorem Tryz.laysRep:Go.Proofs.Lays.n105 Tryz.prog Tryz.laysRep_ren:={
 mixed:=by kernel_rfl
 f99:=Tryz.func169.trans (congrArg some (by kernel_rfl))
 f105:=Tryz.func111.trans (congrArg some (by kernel_rfl))
 f165:=Tryz.func170.trans (congrArg some (by kernel_rfl))
 f166:=Tryz.func171.trans (congrArg some (by kernel_rfl))
 f169:=Tryz.func173.trans (congrArg some (by kernel_rfl))
 f170:=Tryz.func172.trans (congrArg some (by kernel_rfl))
 f206:=Tryz.func201.trans (congrArg some (by kernel_rfl))
 f212:=Tryz.func168.trans (congrArg some (by kernel_rfl))
 f240:=Tryz.func202.trans (congrArg some (by kernel_rfl))
 f241:=Tryz.func203.trans (congrArg some (by kernel_rfl))
 f263:=Tryz.func199.trans (congrArg some (by kernel_rfl))
 f264:=Tryz.func200.trans (congrArg some (by kernel_rfl))
 f276:=Tryz.func228.trans (congrArg some (by kernel_rfl))
 f277:=Tryz.func229.trans (congrArg some (by kernel_rfl))
 t0:=Tryz.underlying0
 a0:=Tryz.isAgg0
 z0:=Tryz.sizeOf0
 v0:=Tryz.zeroValue0
 t3:=Tryz.underlying3
 a3:=Tryz.isAgg3
 z3:=Tryz.sizeOf3
 v3:=Tryz.zeroValue3
 t4:=Tryz.underlying4
 a4:=Tryz.isAgg4
 z4:=Tryz.sizeOf4
 v4:=Tryz.zeroValue4
 t5:=Tryz.underlying5
 a5:=Tryz.isAgg5
 z5:=Tryz.sizeOf5
 v5:=Tryz.zeroValue5
 t9:=Tryz.underlying9
 a9:=Tryz.isAgg9
 z9:=Tryz.sizeOf9
 v9:=Tryz.zeroValue9
 t20:=Tryz.underlying20
 a20:=Tryz.isAgg20
 z20:=Tryz.sizeOf20
 v20:=Tryz.zeroValue20
 t37:=Tryz.underlying205
 a37:=Tryz.isAgg205
 z37:=Tryz.sizeOf205
 v37:=Tryz.zeroValue205
 t46:=Tryz.underlying200
 a46:=Tryz.isAgg200
 z46:=Tryz.sizeOf200
 v46:=Tryz.zeroValue200
 t51:=Tryz.underlying240
 a51:=Tryz.isAgg240
 z51:=Tryz.sizeOf240
 v51:=Tryz.zeroValue240
 t53:=Tryz.underlying243
 a53:=Tryz.isAgg243
 z53:=Tryz.sizeOf243
 v53:=Tryz.zeroValue243
 t70:=Tryz.underlying204
 a70:=Tryz.isAgg204
 z70:=Tryz.sizeOf204
 v70:=Tryz.zeroValue204
 t72:=Tryz.underlying207
 a72:=Tryz.isAgg207
 z72:=Tryz.sizeOf207
 v72:=Tryz.zeroValue207
 t75:=Tryz.underlying210
 a75:=Tryz.isAgg210
 z75:=Tryz.sizeOf210
 v75:=Tryz.zeroValue210
 t76:=Tryz.underlying211
 a76:=Tryz.isAgg211
 z76:=Tryz.sizeOf211
 v76:=Tryz.zeroValue211
 t109:=Tryz.underlying201
 a109:=Tryz.isAgg201
 z109:=Tryz.sizeOf201
 v109:=Tryz.zeroValue201
 t127:=Tryz.underlying246
 a127:=Tryz.isAgg246
 z127:=Tryz.sizeOf246
 v127:=Tryz.zeroValue246
 t146:=Tryz.underlying241
 a146:=Tryz.isAgg241
 z146:=Tryz.sizeOf241
 v146:=Tryz.zeroValue241
 t148:=Tryz.underlying244
 a148:=Tryz.isAgg244
 z148:=Tryz.sizeOf244
 v148:=Tryz.zeroValue244
 t164:=Tryz.underlying266
 a164:=Tryz.isAgg266
 z164:=Tryz.sizeOf266
 v164:=Tryz.zeroValue266 }
end Go.Proofs

/-
 A call that comes to a value, of a function that has a body.
-/
namespace Go.Vm
section
variable {P:Program}
theorem xw{f:Nat}{vs:Array Value}{w:World}{R:Value->World->Prop}(he:(callFunc f vs).run P w=.ok (.enter f vs) w)(h:Goes P f vs w R):Calls P f vs w λe w'=>∃ v,e=.returned v/\R v w':=by
 rcases h with⟨_,h⟩|⟨v,w',h,_⟩
 ·exact h
 rw[he]at h;cases h
end
end Go.Vm

/-
 poly.Orthogonal, strings.Repeat, slices.Insert, Sort and Compact as contracts of the machine.
-/
namespace Go.Vm
open Go.Proofs Go.RowKit
abbrev PtT:Ty:=.prod (.int .i64) (.prod (.int .i64) .unit)
abbrev Rx:Ty:=.prod PtT (.prod PtT .unit)
abbrev PtD:=Int×(Int×Unit)
abbrev SegD:=PtD×(PtD×Unit)
abbrev FV:=(List PtD×Unit)->Option (Bool×Unit)
abbrev FC:=(SegD×(SegD×Unit))->Option (Bool×Unit)
def sgD(l:List PtD):List SegD:=(Ur l (l.drop 1)).map λp=>(p.1,(p.2,()))
def jd(s:SegD):Bool:=eqI s.1.1 s.2.1.1||eqI s.1.2.1 s.2.1.2.1
def nJ(fV:FV)(x:List PtD×Unit):Option (Bool×Unit):=cond (RD x.1.length 1000000) ((fV (x.1,())).bind λr=>some (r.1&&(sgD x.1).all jd,())) none
def xN(fV:FV):Con:=⟨[(.rd,.slice PtT)],[(false,.bool)],nJ fV,false⟩
section
variable {P:Program}{G:List (Nat×(Σ t:Ty,t.den))}
theorem yk{w w':World}{M:Nat->Prop}(h:Kept w M w')(hM:∀ b,¬M b):Below w.heap.size w w':=⟨h.os,h.tape,h.output,h.size,λb hb=>h.block b hb (hM b)⟩
theorem CH{w W:World}{F:Nat->Prop}{ins ins':List (Mode×Ty)}{us us':List Value}{x:(aa (ins.map (·.2))).den}{x':(aa (ins'.map (·.2))).den}(hp:Pre G w F ins us x)(hB:Below w.heap.size w W)(ha:ArgsRd W F ins' us' x')(hh:aG ins' us'=[]):Pre G W F ins' us' x':=by refine⟨ha,λu hu=>(by rw[hh]at hu;cases hu),(by rw[hh];exact Se),λb hb=>RK (hp.fro b hb) hB.size,λg τ y hy=>?_⟩;exact(hp.glob g τ y hy).mono λb hb=>⟨hb,hB.block b (hp.fro b hb)⟩
theorem IA {w w':World}{F:Nat->Prop}{ins:List (Mode×Ty)}{us:List Value}{r:(aa (([(true,Ty.bool)]:List (Bool×Ty)).map (·.2)++aS ins)).den}{v:Value}{F2:Nat->Prop}{css:List (List Value)}(hp:Cw w F ins us [(true,.bool)] r v w' F2 css false) :
  v=.bool (dP [Ty.bool] (aS ins) r).1.1:=by
 have h:=hp.res;match css,h with
 |[],h=>exact h.elim
 |[cs],h=>obtain⟨h1,_⟩:=h;have h2:cs=[.bool (dP [Ty.bool] (aS ins) r).1.1]:=h1;rw[hp.val,h2];rfl
 |_::_::_,h=>exact h.2.elim
theorem Mh{w:World}{F:Nat->Prop}{cs:List Value}{p:PtD}(h:Rd w F PtT cs p):cs=[.int .i64 p.1,.int .i64 p.2.1]/\okP (p.1,p.2.1):=by obtain⟨c1,c2,rfl,⟨rfl,h1,h2⟩,c3,c4,rfl,⟨rfl,h3,h4⟩,h5⟩:=h;have h5:c4=[]:=h5;subst h5;exact⟨rfl,⟨h1,h2⟩,h3,h4⟩
def Kd(s:PtI×PtI):SegD:=((s.1.1,(s.1.2,())),((s.2.1,(s.2.2,())),()))
theorem Kh {w:World}{F:Nat->Prop}(hF:∀ b,F b->b < w.heap.size){u:Value}{l:List PtD}(h:ArgRd w F .rd (.slice PtT) u l) :
  ∃(a:Option Addr) (cap:Nat) (zs:List PtO),u=.slice a zs.length cap/\l=zs.map (λz=>(z.1.1,(z.1.2,())))/\PtsAt w a w.heap.size (zs.map (·.1)):=by
 obtain⟨cs,rfl,a,cap,rfl,h1,h2,h3⟩:=h;have hall:∀ p∈l,okP (p.1,p.2.1):=by intro p hp;obtain⟨i,hi,rfl⟩:=List.mem_iff_getElem.1 hp;obtain⟨b,off,c,el,fz,_,_,_,_,q5⟩:=h3 (by intro e;rw[e]at hi;simp at hi);exact(Mh (q5 i hi)).2
 refine⟨a,cap,l.pmap (λp hp=>⟨(p.1,p.2.1),hp⟩) hall,by rw[List.length_pmap];rfl,?_,?_⟩
 ·rw[Uv];symm;have:∀(l:List PtD) (H:∀ p∈l,okP (p.1,p.2.1)),List.pmap (λ(p:PtD) (_:okP (p.1,p.2.1))=>((p.1,(p.2.1,())):PtD)) l H=l:=by
   intro l;induction l with
   |nil=>intro H;rfl
   |cons p r ih=>intro H;rw[List.pmap_cons,ih]
  exact this l hall
 intro hne;have hl:l≠[]:=by intro e;subst e;exact hne rfl
 obtain⟨b,off,c,el,fz,q1,q2,q3,q4,q5⟩:=h3 hl;refine⟨b,off,q1,hF b q2,λj hj=>?_⟩;have hj':j<l.length:=by simpa using hj
 have h6:=(Mh (q5 j hj')).1;have hs:PtT.size=2:=rfl;rw[hs]at h6 q4;have e0:=seg_getElem? c (off+j*2) 2 0 (by omega);have e1:=seg_getElem? c (off+j*2) 2 1 (by omega);rw[h6]at e0 e1;have g:(l.pmap (λp hp=>(⟨(p.1,p.2.1),hp⟩:PtO)) hall).map (·.1)=l.map λp=>(p.1,p.2.1):=by rw[Uv];exact List.pmap_eq_map ..
 constructor
 ·rw[Ud g];simp only[World.cell?,q3,TD];simpa using e0.symm
 rw[Ud g];simp only[World.cell?,q3,TD];simpa using e1.symm
theorem PG(zs:List PtO):sgD (zs.map (λz=>(z.1.1,(z.1.2,()))))=(cW zs).map (λs=>Kd s.1.1):=by unfold cW;have e:(List.map (λs:JB zs=>Kd s.1.1) (me zs).attach)=(me zs).map (λs=>Kd s.1):=List.attach_map_val (f:=λs:SegO=>Kd s.1);rw[e];unfold sgD me;rw[<- List.map_drop,List.zip_map,T2,T2];rfl
theorem D1{fV:FV}(hV:Con.Holds Tryz.prog G 38 ⟨[(.rd,.slice PtT)],[(true,.bool)],fV,false⟩):Con.Holds Tryz.prog G 39 (xN fV):=by
 refine Con.Holds.plain rfl ?_;intro w F us x r hp hM;obtain⟨l1,u⟩:=x;have hargs:=hp.args;match us,hargs with
 |[u1],hargs=>
  obtain⟨ha1,_⟩:=hargs;obtain⟨a1,k1,zs,rfl,rfl,hP1⟩:=Kh hp.fro ha1;have hM:nJ fV (zs.map (λz=>(z.1.1,(z.1.2,()))),u)=some r:=hM;unfold nJ at hM;have hrd:∀{W:World} {u:Value} {l:List PtD},Below w.heap.size w W->ArgRd w F .rd (.slice PtT) u l->ArgRd W F .rd (.slice PtT) u l:=by rintro W u l hB ⟨cs,h1,h2⟩;exact⟨cs,h1,h2.mono λb hb=>⟨hb,hB.block b (hp.fro b hb)⟩⟩
  have valid:∀{u:Value} {l:List PtD} {b:Bool×Unit},ArgRd w F .rd (.slice PtT) u l->fV (l,())=some b->∀ W,Below w.heap.size w W->Calls Tryz.prog 38 #[u] W λe W'=>e=.returned (.bool b.1)/\Below W.heap.size W W':=by intro u l b hl hb W hB;have hpre:Pre G W F [(.rd,.slice PtT)] [u] (l,()):=CH hp hB ⟨hrd hB hl,trivial⟩ rfl;refine(xw (enters_of Tryz.func38 (by kernel_rfl) rfl _ _) (hV.get rfl hpre hb)).mono ?_;rintro e W' ⟨v,rfl,F2,css,hpost⟩;exact⟨congrArg _ (IA hpost),yk hpost.kept (λb ⟨u,hu,_⟩=>by cases hu)⟩
  cases hs:RD (zs.map (λz=>((z.1.1,(z.1.2,())):PtD))).length 1000000 with
  |false=>simp only[hs,UB]at hM;cases hM
  |true=>
  simp only[hs,UA]at hM;have hl1:=L9 hs;rw[TL]at hl1;cases h1:fV (zs.map (λz=>(z.1.1,(z.1.2,()))),())with
  |none=>rw[h1]at hM;cases hM
  |some b1=>
   rw[h1]at hM;obtain⟨b1,u1⟩:=b1;cases hM;have h:=rB 6 (by omega) a1 k1 zs w (by omega) hP1 b1 (valid ha1 h1);refine .inl ⟨enters_of Tryz.func39 (by kernel_rfl) rfl _ _,(callsIn_wide.1 h).mono ?_⟩;rintro e w' ⟨rfl,hB⟩;have hall:((sgD (zs.map (λz=>(z.1.1,(z.1.2,()))))).all jd)=(cW zs).all λs=>jK s.1.1:=by rw[PG,List.all_map];rfl
   refine⟨_,rfl,F,[[.bool (b1&&(cW zs).all λs=>jK s.1.1)]],⟨⟨hB.os,hB.tape,hB.output,hB.size,λb hb _=>hB.block b hb⟩,λ_ h=>h,λb hb=>⟨RK (hp.fro b hb) hB.size,.inl hb⟩,rfl,⟨?_,trivial⟩,trivial,Se,λu hu=>(by cases hu)⟩⟩;show[Value.bool _]=[Value.bool _];rw[<- hall];rfl
end
def qX(x:ByteArray×(Int×Unit)):Option (ByteArray×Unit):=cond (RD x.1.size 100000&&leI 0 x.2.1&&leI x.2.1 100000) (some (⟨(Lib.repeatL x.1.data.toList x.2.1.toNat).toArray⟩,())) none
def repeatC:Con:=⟨[(.rd,.str),(.rd,.int .i64)],[(false,.str)],qX,false⟩
theorem uE(s:List UInt8):∀ n:Nat,(Lib.repeatL s n).length=s.length*n:=by intro n;rw[Lib.repeatL_length,Nat.mul_comm]
theorem Tryz.builderExtra:Builder.Extra Tryz.prog Tryz.laysRep_ren where
 sizeBuilder:=by kernel_rfl
 liesBuilder:=by kernel_rfl
 t5:=Tryz.laysRep.t5
 a5:=Tryz.laysRep.a5
 z5:=Tryz.laysRep.z5
 v5:=Tryz.laysRep.v5
 infoByte:=by kernel_rfl
 cellsByte:=by kernel_rfl
 sizeByte:=by kernel_rfl
 neB5:=by decide
theorem CY(G:List (Nat×(Σ t:Ty,t.den))):Con.Holds Tryz.prog G 111 repeatC:=by
 refine Con.Holds.plain rfl ?_;intro w F us x r hp hM;obtain⟨s,n,u⟩:=x;have hargs:=hp.args;match us,hargs with
 |[u1,u2],hargs=>
  obtain⟨⟨cs1,rfl,rfl,hs⟩,⟨cs2,rfl,rfl,hn⟩,_⟩:=hargs;have hM:qX (s,n,u)=some r:=hM;unfold qX at hM;cases hc:(RD s.size 100000&&leI 0 n&&leI n 100000)with
  |false=>simp only[hc,UB]at hM;cases hM
  |true=>simp only[hc,UA]at hM;cases hM;simp only[np,leI,decide_eq_true_eq]at hc;obtain⟨⟨h1,h2⟩,h3⟩:=hc;have h1:=L9 h1;obtain⟨m,rfl⟩:∃ m:Nat,n=(m:Int):=⟨n.toNat,(Int.toNat_of_nonneg h2).symm⟩;have hm:m<=100000:=Int.ofNat_le.1 h3;have hmul:s.size*m<=100000*100000:=Nat.mul_le_mul h1 hm;have h:=Any.strings_Repeat Tryz.laysRep Tryz.builderExtra s m w (by omega) (by omega);refine .inl ⟨enters_of Tryz.func111 (by kernel_rfl) rfl _ _,Calls.mono h ?_⟩;rintro e w' ⟨rfl,hB⟩;refine⟨_,rfl,F,[[.string ⟨(Lib.repeatL s.data.toList m).toArray⟩]],⟨⟨hB.os,hB.tape,hB.output,hB.size,λb hb _=>hB.block b hb⟩,λ_ h=>h,λb hb=>⟨RK (hp.fro b hb) hB.size,.inl hb⟩,rfl,⟨⟨rfl,?_⟩,trivial⟩,trivial,Se,λu hu=>(by cases hu)⟩⟩;show(Lib.repeatL s.data.toList m).toArray.size<=maxLen;rw[Sm,uE];have:s.data.toList.length=s.size:=Array.length_toList;rw[this];unfold maxLen;omega
theorem Ks(G:List (Nat×(Σ t:Ty,t.den))):Con.Holds Tryz.prog G 139 sortC:=
 xv (f:=139) (enters_of Tryz.lays189.f189 (by kernel_rfl) rfl) (λblk off cap zs w hH hb hs=>Any.slices_Sort_int Tryz.lays189 blk off cap zs w hH hb hs) (λp cap w=>Any.slices_Sort_int_none Tryz.lays189 p cap w) G
theorem xj(G:List (Nat×(Σ t:Ty,t.den))):Con.Holds Tryz.prog G 194 compactC:=
 rD Tryz.laysNm220 (enters_of Tryz.laysNm220.f20 (by kernel_rfl) rfl) G
theorem Cg(G:List (Nat×(Σ t:Ty,t.den))):Con.Holds Tryz.prog G 175 insertC:=
 uo Tryz.laysNm221 (enters_of Tryz.laysNm221.f21 (by kernel_rfl) rfl) G
end Go.Vm

