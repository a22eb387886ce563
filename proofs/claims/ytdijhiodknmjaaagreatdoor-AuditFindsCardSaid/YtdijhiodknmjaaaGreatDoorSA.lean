/-
 Poly.Crossings: iterators over segments.
-/
import Derived.OrdersIn
import Derived.KernelRfl
import Derived.RangeFuncNested
import Derived.RangeFuncBound
import Derived.RangeFuncCalls
import Derived.RangeFuncLeaves
import Derived.Shelf.Abstract
import Derived.Shelf.RegionOpen
import Derived.WalkKit
import Derived.OwnWalkIn
import Derived.TacticsInMore
import Derived.LoopNIn
import Derived.LoopIn
import Derived.Test.YtdijhiodknmjaaaGreatDoorProg
import Derived.Test.YtdijhiodknmjaaaGreatDoorVmE
import Derived.Test.YtdijhiodknmjaaaGreatDoorVmPack
open Option renaming bind_some->bv
open Bool renaming and_eq_true->sg,or_eq_true_iff->Yg
open List renaming replicate->A7,mem_cons->A9,length_cons->B2,length_nil->B8,map_cons->L3,range->L7,mem_range->Vp,length_map->Vq,mem_singleton->Vu,mem_map->VM,nil_append->V4,cons_append->Wj,size_toArray->Wl,append_toArray->WF,push_toArray->WM,mem_filter->WX,getElem_map->XB,filter_eq_nil_iff->XR,map_map->X5,getElem_of_eq->Yl,mem_attach->YC,zip->YJ,map_pmap->YP
open Nat renaming le_refl->B5,le_of_ble_eq_true->Vi,lt_of_lt_of_le->Vn,lt_or_ge->VA,ble->VK,lt_succ_self->XG
open Option.some renaming inj->L9
open Array renaming getElem?_eq_some_iff->Va,getD_eq_getD_getElem?->Vr,replicate_succ->WA,replicate_zero->WB,replicate->WH,getElem?_eq_none->XP
open List.Pairwise renaming nil->Wh
open List.Nodup renaming erase_eq_filter->Y8
set_option linter.unusedVariables false
set_option linter.unusedSimpArgs false
/-
 A row of operations in no fixed order, whose first ones only give values, whatever their order; behind them come the others.
-/
namespace Go.Head
open Go
section
variable {F:Fence}{n:Nat}{P:Program}{ops:Array Oper}{Q:Exit->Act->World->Prop}
def jX(ops:Array Oper)(i:Nat):Option Nat:=(ops[i]?).bind (·.dst)
def xI(ops:Array Oper)(i:Nat):List Nat:=match ops[i]? with
 |some o=>(o.after.toList.filter λe=>Region.binds .any e).map (·.on)
 |none=>[]
def needs(ops:Array Oper):Nat->Nat->List Nat
 |0,_=>[]
 |f+1,i=>xI ops i++(xI ops i).flatMap (needs ops f)
def MQ(ops:Array Oper)(m:Nat):Bool:=
 ((L7 ops.size).all λi=>(xI ops i).all λj=>decide (j<i)) &&
 ((L7 m).all λi=>(L7 m).all λj=>decide (i=j)||decide (jX ops i≠jX ops j)) &&
 ((L7 ops.size).all λi=>decide (i<m)||(L7 m).all λj=>(needs ops ops.size i).contains j)
structure Inv (ops:Array Oper)(m:Nat)(a0:Act)(V:Nat->Value)(L:Array Bool)(a:Act):Prop where
 sz:L.size=ops.size
 tail:∀ i,m<=i->L.getD i false=false
 closed:∀ i,L.getD i false=true->∀ j∈xI ops i,L.getD j false=true
 dfr:a.defers=a0.defers
 asz:a.tmps.size=a0.tmps.size
 vals:∀ i,L.getD i false=true->∀ d,jX ops i=some d->a.tmps.getD d undef=V i
 old:∀ t,(∀ i,L.getD i false=true->jX ops i≠some t)->a.tmps.getD t undef=a0.tmps.getD t undef
theorem H8{L:Array Bool}{i:Nat}(h:i<L.size):L.getD i true=L.getD i false:=by simp[h]
theorem EP{α:Type}{d:α}{x y:Array α}(h:x.size=y.size)(hg:∀ t,t<x.size->x.getD t d=y.getD t d):x=y:=by apply Array.ext h;intro i h1 h2;have:=hg i h1;simpa[h1,h2]using this
theorem KJ{L:Array Bool}{i:Nat}(hs:L.size=ops.size)(h:i∈Region.ready .any ops L):L.getD i false=false/\(∃ o,ops[i]?=some o)/\∀ j∈xI ops i,L.getD j false=true:=by obtain⟨h0,o,ho,hall⟩:=mem_ready.1 h;have hlt:i<ops.size:=(Va.1 ho).1;refine⟨by rw[<- H8 (by omega)];exact h0,⟨o,ho⟩,λj hj=>?_⟩;unfold xI at hj;rw[ho]at hj;simp only[VM,WX]at hj;obtain⟨e,⟨he,hb⟩,rfl⟩:=hj;exact hall e (by simpa using he) hb
theorem J5{L:Nat->Bool}(hc:∀ i,L i=true->∀ j∈xI ops i,L j=true):∀(f i:Nat),(∀ j∈xI ops i,L j=true)->∀ j∈needs ops f i,L j=true
 |0,_,_,j,hj=>by cases hj
 |f+1,i,h,j,hj=>by
  unfold needs at hj;rcases List.mem_append.1 hj with hj|hj
  ·exact h j hj
  obtain⟨k,hk,hj⟩:=List.mem_flatMap.1 hj;exact J5 hc f k (hc k (h k hk)) j hj
def uI(m s:Nat):Array Bool:=((A7 m true)++(A7 (s-m) false)).toArray
theorem zj(m s t:Nat):(uI m s).getD t false=decide (t<m):=by
 have:(uI m s).getD t false=((A7 m true++A7 (s-m) false)[t]?).getD false:=by simp[uI]
 rw[this];rcases VA t m with h|h
 ·rw[List.getElem?_append_left (by simpa using h)];simp[h]
 rw[List.getElem?_append_right (by simpa using h)];by_cases h2:t-m<s-m<;>simp[h2,Nat.not_lt.2 h]
theorem CJ{m s:Nat}(h:m<=s):(uI m s).size=s:=by simp[uI];omega
theorem any_head {m:Nat}{a0 aF:Act}{w:World}{V:Nat->Value}(hro:F.round=none)(hm:m<=ops.size)(hchk:MQ ops m=true)
  (hop:∀ i,i<m->∃ o d,ops[i]?=some o/\o.guard=none/\o.dst=some d/\d<a0.tmps.size)
  (hex:∀ i o,i<m->ops[i]?=some o->∀ a:Act,(∀ j,j∈xI ops i->∀ d,jX ops j=some d->a.tmps.getD d undef=V j)->(∀ t,(∀ j,j<m->jX ops j≠some t)->a.tmps.getD t undef=a0.tmps.getD t undef) ->
   o.about P w a.eval=none/\(execOp a.eval o).run P w=.ok (.value (V i)) w)
  (hF1:aF.defers=a0.defers) (hF2:aF.tmps.size=a0.tmps.size) (hF3:∀ i,i<m->∀ d,jX ops i=some d->aF.tmps.getD d undef=V i) (hF4:∀ t,(∀ i,i<m->jX ops i≠some t)->aF.tmps.getD t undef=a0.tmps.getD t undef)
  (hK:wpAnyIn F n P .any ops Q (ops.size-m) (uI m ops.size) aF w) :
  wpAnyIn F n P .any ops Q ops.size (WH ops.size false) a0 w:=by
 unfold MQ at hchk;simp only[sg,List.all_eq_true,Vp,Bool.or_eq_true,decide_eq_true_eq,ne_eq]at hchk;obtain⟨⟨hc1,hc2⟩,hc3⟩:=hchk;have key:∀(f:Nat) (L:Array Bool) (a:Act),Inv ops m a0 V L a->f=ops.size-m+((L7 m).filter λi=>!L.getD i false).length->wpAnyIn F n P .any ops Q f L a w:=by
  intro f;induction f with
  |zero=>
   intro L a hi hf;have hnil:((L7 m).filter λi=>!L.getD i false)=[]:=List.eq_nil_of_length_eq_zero (by omega);have hall:∀ i,i<m->L.getD i false=true:=by intro i hlt;rw[XR]at hnil;have:=hnil i (Vp.2 hlt);simpa using this
   have hLF:L=uI m ops.size:=EP (d:=false) (by rw[hi.sz,CJ hm]) λt ht=>by
    rw[hi.sz]at ht;rcases VA t m with h|h
    ·rw[hall t h,zj];simp[h]
    omega
   have haF:a=aF:=by
    have hd:=hi.dfr.trans hF1.symm;have ht:a.tmps=aF.tmps:=EP (d:=undef) (hi.asz.trans hF2.symm) λt _=>by
     by_cases hx:∃ i,i<m/\jX ops i=some t
     ·obtain⟨i,h1,h2⟩:=hx;rw[hi.vals i (hall i h1) t h2,hF3 i h1 t h2]
     have h1:∀ i,i<m->jX ops i≠some t:=λi h2 h3=>hx ⟨i,h2,h3⟩;rw[hF4 t h1,hi.old t λi h2=>?_];rcases VA i m with h|h
     ·exact h1 i h
     rw[hi.tail i h]at h2;cases h2
    cases a;cases aF;simp only at hd ht;subst hd;subst ht;rfl
   have hsz:ops.size-m=0:=by omega
   rw[hsz,<- hLF,<- haF]at hK;exact hK
  |succ f ih=>
   intro L a hi hf;by_cases hall:∀ i,i<m->L.getD i false=true
   ·have hnil:((L7 m).filter λi=>!L.getD i false)=[]:=by rw[XR];intro i h;rw[hall i (Vp.1 h)];simp
    have hLF:L=uI m ops.size:=EP (d:=false) (by rw[hi.sz,CJ hm]) λt ht=>by
     rw[hi.sz]at ht;rcases VA t m with h|h
     ·rw[hall t h,zj];simp[h]
     rw[hi.tail t h,zj];simp;omega
    have haF:a=aF:=by
     have hd:=hi.dfr.trans hF1.symm;have ht:a.tmps=aF.tmps:=EP (d:=undef) (hi.asz.trans hF2.symm) λt _=>by
      by_cases hx:∃ i,i<m/\jX ops i=some t
      ·obtain⟨i,h1,h2⟩:=hx;rw[hi.vals i (hall i h1) t h2,hF3 i h1 t h2]
      have h1:∀ i,i<m->jX ops i≠some t:=λi h2 h3=>hx ⟨i,h2,h3⟩;rw[hF4 t h1,hi.old t λi h2=>?_];rcases VA i m with h|h
      ·exact h1 i h
      rw[hi.tail i h]at h2;cases h2
     cases a;cases aF;simp only at hd ht;subst hd;subst ht;rfl
    rw[hnil]at hf;simp only[B8,Nat.add_zero]at hf;rw[hf,hLF,haF];exact hK
   obtain⟨i0,h0,h0'⟩:∃ i,i<m/\¬L.getD i false=true:=by apply Classical.byContradiction;intro hno;exact hall λi hlt=>Classical.byContradiction λhh=>hno ⟨i,hlt,hh⟩
   refine⟨λhr=>?_,λi hr=>?_⟩
   ·-- the least that is not listed is ready
    exfalso;have least:∀ k i,i<k->i<m->¬L.getD i false=true->∃ j,j∈Region.ready .any ops L:=by
     intro k;induction k with
     |zero=>intro i h;omega
     |succ k ihk=>
      intro i hik him hni;by_cases hp:∀ j∈xI ops i,L.getD j false=true
      ·obtain⟨o,d,ho,_⟩:=hop i him;have hlt:i<ops.size:=(Va.1 ho).1;refine⟨i,mem_ready.2 ⟨by rw[H8 (by rw[hi.sz];exact hlt)];simpa using hni,o,ho,λe he hb=>hp e.on ?_⟩⟩;unfold xI;rw[ho];exact VM.2 ⟨e,WX.2 ⟨by simpa using he,hb⟩,rfl⟩
      obtain⟨j,hj,hnj⟩:∃ j,j∈xI ops i/\¬L.getD j false=true:=by apply Classical.byContradiction;intro hno;exact hp λj hj=>Classical.byContradiction λhh=>hno ⟨j,hj,hh⟩
      have hji:=hc1 i (by omega) j hj;exact ihk j (by omega) (by omega) hnj
    obtain⟨j,hj⟩:=least (i0+1) i0 (XG _) h0 h0';rw[hr]at hj;cases hj
   obtain⟨hni,⟨o,ho⟩,hp⟩:=KJ hi.sz hr;have hlt:i<ops.size:=(Va.1 ho).1;have him:i<m:=by
    rcases VA i m with h|h
    ·exact h
    exfalso;rcases hc3 i hlt with h'|h'
    ·omega
    have:=J5 (L:=λj=>L.getD j false) (λi h=>hi.closed i h) ops.size i hp i0 (by simpa using h' i0 h0);exact h0' this
   obtain⟨o',d,ho',hg,hd,hdl⟩:=hop i him;rw[ho]at ho';cases ho';have hdi:jX ops i=some d:=by unfold jX;rw[ho];exact hd
   have hlm:∀ j,L.getD j false=true->j<m:=λj hj=>by
    rcases VA j m with h|h
    ·exact h
    rw[hi.tail j h]at hj;cases hj
   obtain⟨ha,hx⟩:=hex i o him ho a (λj hj d' hd'=>hi.vals j (hp j hj) d' hd') (λt ht=>hi.old t λj hj=>ht j (hlm j hj));unfold wpOpIn;rw[ho];simp only;rw[if_pos (by simp[Region.wanted,hg])];refine⟨λf hf=>(by rw[ha]at hf;cases hf),?_⟩;rw[hro,Oper.semAt_none,hx];show wpAnyIn F n P .any ops Q f (L.setIfInBounds i true) (a.put o.dst (V i)) w;rw[hd];have hset:∀ j,(L.setIfInBounds i true).getD j false=(L.getD j false||decide (j=i)):=by
    intro j;by_cases e:j=i
    ·subst e;simp[hi.sz,hlt]
    rw[getD_set_ne false (Ne.symm e)];simp[e]
   have hput:∀ t,(a.put (some d) (V i)).tmps.getD t undef=if d=t then V i else a.tmps.getD t undef:=by
    intro t;show(a.tmps.setIfInBounds d (V i)).getD t undef=_;by_cases e:d=t
    ·subst e;simp[hi.asz,hdl]
    rw[if_neg e,Vr,Vr,Array.getElem?_setIfInBounds_ne e]
   refine ih _ _ ⟨by simpa using hi.sz,?_,?_,hi.dfr,by simpa[Act.put]using hi.asz,?_,?_⟩ ?_
   ·intro j hj;rw[hset,hi.tail j hj];simp;omega
   ·intro j hj k hk;rw[hset]at hj ⊢;rcases Yg.1 hj with hj|hj
    ·rw[hi.closed j hj k hk];rfl
    have e:j=i:=of_decide_eq_true hj;subst e;rw[hp k hk];rfl
   ·intro j hj d' hd';rw[hset]at hj;rw[hput];rcases Yg.1 hj with hj'|hj'
    ·replace hj:=hj'
     by_cases e:j=i
     ·subst e;exact absurd (hni.symm.trans hj) (by decide)
     have hjm:=hlm j hj;have:¬d=d':=by
      intro ed;subst ed;rcases hc2 i him j hjm with h|h
      ·exact e h.symm
      exact h (hdi.trans hd'.symm)
     rw[if_neg this];exact hi.vals j hj d' hd'
    have e:j=i:=of_decide_eq_true hj';subst e;rw[hdi]at hd';cases hd';rw[if_pos rfl]
   ·intro t ht;rw[hput];have h1:¬d=t:=λe=>ht i (by rw[hset];simp) (by rw[hdi,e]);rw[if_neg h1];exact hi.old t λj hj=>ht j (by rw[hset,hj];rfl)
   have:((L7 m).filter λj=>!L.getD j false).length=((L7 m).filter λj=>!(L.setIfInBounds i true).getD j false).length+1:=by
    have e1:((L7 m).filter λj=>!(L.setIfInBounds i true).getD j false)=((L7 m).filter λj=>!L.getD j false).erase i:=by rw[Y8 ((List.nodup_range).filter _),List.filter_filter];apply List.filter_congr;intro j hj;rw[hset];by_cases e:j=i<;>simp[e,Bool.and_comm]
    rw[e1,List.length_erase_of_mem (WX.2 ⟨Vp.2 him,by rw[hni];rfl⟩)];have:0<((L7 m).filter λj=>!L.getD j false).length:=List.length_pos_of_mem (WX.2 ⟨Vp.2 him,by rw[hni];rfl⟩);omega
   omega
 refine key _ _ _ ⟨by simp,λi _=>?_,λi h=>?_,rfl,rfl,λi h=>?_,λt _=>rfl⟩ ?_
 ·by_cases h:i<ops.size<;>simp[h]
 ·by_cases h':i<ops.size<;>simp[h']at h
 ·by_cases h':i<ops.size<;>simp[h']at h
 have:((L7 m).filter λi=>!(WH ops.size false).getD i false)=L7 m:=by
  rw[List.filter_eq_self];intro i hi;have:=Vp.1 hi;have h':i<ops.size:=by omega
  simp[h']
 rw[this,List.length_range];omega
theorem upon_round {o:Oper}{a:Act}{next:Act->World->Prop}{w w':World}{l fn:Nat}{tmps:Array Value}{assign body:Code}(hro:F.round=none)(h:(execOp a.eval o).run P w=.ok (.round l fn tmps assign body) w')(hd:F.depth.isSome=true->1<=n)
  (hR:RoundIn F (n-1) P l fn tmps assign body w' fun|.returned v,w''=>next (a.put o.dst v) w''|.panicked chain,w''=>Q (.panic chain) a w''|.outgrown,_=>LetsOut Q):o.uponIn F n P a next Q ((o.semAt F.round a.eval).run P w):=by
 rw[hro,Oper.semAt_none,h];exact⟨hd,hR⟩
theorem upon_value{o:Oper}{a:Act}{next:Act->World->Prop}{w w':World}{v:Value}(hro:F.round=none)(h:(execOp a.eval o).run P w=.ok (.value v) w')(hK:next (a.put o.dst v) w'):o.uponIn F n P a next Q ((o.semAt F.round a.eval).run P w):=by rw[hro,Oper.semAt_none,h];exact hK
end
end Go.Head

/-
 poly.segments: what the iterator gives.
-/
namespace Go.Proofs
open Go.RowKit Go.Shelf
attribute [local go_sem] Oper.semAt_some
abbrev PtI:=Int×Int
def E6(s:PtI×PtI):Value:=.agg #[.int .i64 s.1.1,.int .i64 s.1.2,.int .i64 s.2.1,.int .i64 s.2.2]
def U0(zs:List PtI):List (PtI×PtI):=YJ zs (zs.drop 1)
def PtsAt(W:World)(a:Option Addr)(n₀:Nat)(zs:List PtI):Prop:=
 zs≠[]->∃ b off,a=some ⟨b,off,none⟩/\b<n₀/\∀ j (h:j<zs.length),W.cell? ⟨b,off+j*2,none⟩=some (.int .i64 zs[j].1)/\W.cell? ⟨b,off+j*2+1,none⟩=some (.int .i64 zs[j].2)
theorem PtsAt.below{n₀:Nat}{A B:World}(h:Below n₀ A B){a:Option Addr}{zs:List PtI}(hp:PtsAt A a n₀ zs):PtsAt B a n₀ zs:=by intro hne;obtain⟨b,off,h1,h2,h3⟩:=hp hne;exact⟨b,off,h1,h2,λj hj=>⟨(h.cell (p:=⟨b,off+j*2,none⟩) h2).trans (h3 j hj).1,(h.cell (p:=⟨b,off+j*2+1,none⟩) h2).trans (h3 j hj).2⟩⟩
set_option maxHeartbeats 1000000 in
theorem DP (F:Fence)(n:Nat)(h5:F.fn 155)(hro:F.round=none)(a:Option Addr)(len cap:Nat)(w:World) :
  CallsIn F n Tryz.prog 155 #[.slice a len cap] w λe w'=>e=.returned (.func (.func 248) #[] #[.pointer (some ⟨w.heap.size,0,none⟩)])/\w'=w.alloc (.cells #[.slice a len cap] 52):=by
 refine callsIn_of_wp Tryz.func155 rfl h5 ?_ hro;simp only[Tryz.ntmps155,Wl,B2,B8,Nat.reduceAdd,Nat.reduceSub,WA,WB,WM,WF,V4,Wj]
 gi_wp2
 go_ret
 exact⟨rfl,rfl⟩
def okP(p:PtI):Prop:=(IntKind.i64.min<=p.1/\p.1<=IntKind.i64.max)/\(IntKind.i64.min<=p.2/\p.2<=IntKind.i64.max)
abbrev SegO:={ s:PtI×PtI // okP s.1/\okP s.2 }
abbrev PtO:={ p:PtI // okP p }
def AQ(zs:List PtO):List SegO:=(YJ zs (zs.drop 1)).map λs=>⟨(s.1.1,s.2.1),s.1.2,s.2.2⟩
theorem CB(zs:List PtO):(AQ zs).length=zs.length-1:=by simp[AQ]
abbrev NW(zs:List PtO):={ s:SegO // s∈AQ zs }
def gn(zs:List PtO):List (NW zs):=(AQ zs).attach
theorem IE(zs:List PtO):(gn zs).length=zs.length-1:=by simp[gn,CB]
set_option maxRecDepth 100000 in
set_option maxHeartbeats 4000000 in
theorem Ql (n:Nat)(hn:1<=n)(l Bn n₀ B1:Nat)(a:Option Addr)(cap:Nat)(zs:List PtO)(hreach:zs.length * 16<=140737488351232)(w0:World)(hP:PtsAt w0 a n₀ (zs.map (·.1)))(hBn:w0.cell? ⟨Bn,0,none⟩=some (.slice a zs.length cap))(hlt:Bn < w0.heap.size)
  (J Jx:List (NW zs)->World->Prop) (hA:AbidesFrom B1 J)
  (hY:∀ pre x W,J pre W->pre.length<(gn zs).length->YieldAt Fence.wide (n-1) Tryz.prog l #[E6 x.1.1] W λe W'=>
   (e=.returned (.bool true)/\J (pre++[x]) W'/\(Below n₀ W W'/\W'.cell? ⟨Bn,0,none⟩=W.cell? ⟨Bn,0,none⟩))\/(e=.returned (.bool false)/\Jx (pre++[x]) W'))
  (W:World) (hW:Below n₀ w0 W/\W.cell? ⟨Bn,0,none⟩=w0.cell? ⟨Bn,0,none⟩) (h0:J [] W) :
  CallsIn Fence.wide n Tryz.prog 248 #[.func (.yield l) #[] #[],.pointer (some ⟨Bn,0,none⟩)] W λe W'=>(∃ v,e=.returned v) /\
   ((∃ ys,ys=gn zs/\J ys W')\/(∃ pre,pre <+: gn zs/\Jx pre W')):=by
 refine callsIn_of_wp Tryz.func248 rfl trivial ?_ rfl;simp only[Tryz.ntmps248,Wl,B2,B8,Nat.reduceAdd,Nat.reduceSub,WA,WB,WM,WF,V4,Wj]
 gi_wp2
 gi_loopw [3] (λi wr=>∃ k:Nat,(k<=(gn zs).length)/\i=.int .i64 ((k+1:Nat):Int)/\J ((gn zs).take k) wr/\(Below n₀ w0 wr/\wr.cell? ⟨Bn,0,none⟩=w0.cell? ⟨Bn,0,none⟩))
  (λi _=>(gn zs).length+1-(Go.RowKit.intOf i).toNat)
 case atStart=>exact⟨0,Nat.zero_le _,rfl,h0,hW⟩
 case round=>
  obtain⟨k,hk,rfl,hJs,hB,hcl⟩:=hrel;have hcell:=hcl.trans hBn;have hsl:(gn zs).length=zs.length-1:=IE zs;by_cases hlt:k<(gn zs).length
  ·have hl:k+1<zs.length:=by omega
   obtain⟨b,off,rfl,hb,hz⟩:=hP (by intro e;have:=congrArg List.length e;simp only[Vq,B8]at this;omega);obtain⟨x1,x2⟩:=hz k (by simp;omega);obtain⟨y1,y2⟩:=hz (k+1) (by simp;omega)
   replace x1:=(hB.cell (p:=⟨b,off+k*2,none⟩) hb).trans x1
   replace x2:=(hB.cell (p:=⟨b,off+k*2+1,none⟩) hb).trans x2
   replace y1:=(hB.cell (p:=⟨b,off+(k+1)*2,none⟩) hb).trans y1
   replace y2:=(hB.cell (p:=⟨b,off+(k+1)*2+1,none⟩) hb).trans y2
   simp only[XB]at x1 x2 y1 y2;have hJ2:J ((gn zs).take k) wr.drew:=hA _ wr wr.drew none hJs ⟨rfl,rfl,rfl,B5 _,λ_ _ _=>rfl⟩ (λr e=>by cases e);have hkO:(AQ zs)[k]'(by rw[CB];omega)=⟨((zs[k]'(by omega)).1,zs[k+1].1),(zs[k]'(by omega)).2,zs[k+1].2⟩:=by simp[AQ,Nat.add_comm 1 k]
   have hmem:(⟨((zs[k]'(by omega)).1,zs[k+1].1),(zs[k]'(by omega)).2,zs[k+1].2⟩:SegO)∈AQ zs:=by rw[<- hkO];exact List.getElem_mem _
   obtain⟨fn,tmps,assign,body,hy,hR⟩:=hY _ ⟨⟨((zs[k]'(by omega)).1,zs[k+1].1),(zs[k]'(by omega)).2,zs[k+1].2⟩,hmem⟩ wr.drew hJ2 (by rw[List.length_take];omega);have hnext:(gn zs).take k++[⟨⟨((zs[k]'(by omega)).1,zs[k+1].1),(zs[k]'(by omega)).2,zs[k+1].2⟩,hmem⟩]=(gn zs).take (k+1):=by rw[List.take_add_one,List.getElem?_eq_getElem hlt];have:(gn zs)[k]=⟨⟨((zs[k]'(by omega)).1,zs[k+1].1),(zs[k]'(by omega)).2,zs[k+1].2⟩,hmem⟩:=Subtype.ext (by simp only[gn,List.getElem_attach];exact hkO);rw[this];rfl
   rw[hnext]at hR;have h1:(zs[k]'(by omega)).1.1=(zs[k]'(by omega)).val.fst:=rfl
   replace hy:(Instr.yield l #[.agg #[.int .i64 (zs[k]'(by omega)).val.fst,.int .i64 (zs[k]'(by omega)).val.snd,.int .i64 (zs[k+1]).val.fst,.int .i64 (zs[k+1]).val.snd]]).run Tryz.prog wr.drew=.ok (.round l fn tmps assign body) wr.drew:=hy
   gi_wp2
   have hm:Tryz.prog.follows .mixedOrders=true:=by kernel_rfl
   refine wpIn_region_any hm (Head.any_head (m:=11) (V:=λi=>([.func (.yield l) #[] #[],.slice (some ⟨b,off,none⟩) zs.length cap,.int .i64 ((k+1:Nat):Int),.int .i64 (k:Int),.pointer (some ⟨b,off+k*2,none⟩),.agg #[.int .i64 (zs[k]'(by omega)).val.fst,.int .i64 (zs[k]'(by omega)).val.snd],
    .slice (some ⟨b,off,none⟩) zs.length cap,.int .i64 ((k+1:Nat):Int),.pointer (some ⟨b,off+(k+1)*2,none⟩),.agg #[.int .i64 (zs[k+1]).val.fst,.int .i64 (zs[k+1]).val.snd],
    .agg #[.int .i64 (zs[k]'(by omega)).val.fst,.int .i64 (zs[k]'(by omega)).val.snd,.int .i64 (zs[k+1]).val.fst,.int .i64 (zs[k+1]).val.snd]]:List Value).getD i undef)
    (aF:=?aF) rfl (by decide) (by kernel_rfl) ?hop ?hex ?f1 ?f2 ?f3 ?f4 ?hK)
   case hop=>
    intro i hi;have:i=0\/i=1\/i=2\/i=3\/i=4\/i=5\/i=6\/i=7\/i=8\/i=9\/i=10:=by omega
    rcases this with rfl|rfl|rfl|rfl|rfl|rfl|rfl|rfl|rfl|rfl|rfl<;>exact⟨_,_,rfl,rfl,rfl,by simp⟩
   case hex=>
    intro i o hi ho a hp hold;have:i=0\/i=1\/i=2\/i=3\/i=4\/i=5\/i=6\/i=7\/i=8\/i=9\/i=10:=by omega
    have o0:a.tmps.getD 0 undef=.func (.yield l) #[] #[]:=hold 0 (by decide);have o1:a.tmps.getD 1 undef=.pointer (some ⟨Bn,0,none⟩):=hold 1 (by decide);have o3:a.tmps.getD 3 undef=.int .i64 ((k+1:Nat):Int):=hold 3 (by decide);rcases this with rfl|rfl|rfl|rfl|rfl|rfl|rfl|rfl|rfl|rfl|rfl<;>(obtain rfl:=L9 (show some _=some o by simpa using ho);refine⟨rfl,?_⟩)
    ·simp[execOp,Act.eval,<- o0]
    ·have e:a.eval (.tmp 1)=.pointer (some ⟨Bn,0,none⟩):=o1;have hc':wr.drew.cell? ⟨Bn,0,none⟩=some (.slice (some ⟨b,off,none⟩) zs.length cap):=hcell;simp[execOp,e,Instr.loadAt,Instr.sureAddr,loadVar,Tryz.isAgg52,hcell]
    ·have e:a.eval (.tmp 3)=.int .i64 ((k+1:Nat):Int):=o3;simp[execOp,e]
    ·have e:a.eval (.tmp 12)=.int .i64 ((k+1:Nat):Int):=hp 2 (by decide) 12 rfl;have e2:a.eval (.const (.int .i64 1))=.int .i64 1:=rfl;simp[execOp,e,e2,eqGuard,binOp,Op.intArith]
     go_bits
     trivial
    ·have e:a.eval (.tmp 11)=.slice (some ⟨b,off,none⟩) zs.length cap:=hp 1 (by decide) 11 rfl;have e2:a.eval (.tmp 13)=.int .i64 (k:Int):=hp 3 (by decide) 13 rfl;simp[execOp,e,e2,Instr.indexAt,asIntOf,Tryz.underlying52,Tryz.sizeOf113,show k<zs.length by omega,Addr.add]
    ·have e:a.eval (.tmp 14)=.pointer (some ⟨b,off+k*2,none⟩):=hp 4 (by decide) 14 rfl;have hlc:=run_loadCells_list (P:=Tryz.prog) wr.drew ⟨b,off+k*2,none⟩ [.int .i64 (zs[k]'(by omega)).val.fst,.int .i64 (zs[k]'(by omega)).val.snd] (by
      intro j v hv;match j,hv with
      |0,hv=>cases hv;exact x1
      |1,hv=>cases hv;exact x2)
     simp[execOp,e,Instr.loadAt,Instr.sureAddr,loadVar,Tryz.isAgg113,Tryz.sizeOf113]
     replace hlc:(loadCells ⟨b,off+k*2,none⟩ 2).run Tryz.prog wr.drew=_:=hlc
     rw[hlc];rfl
    ·have e:a.eval (.tmp 1)=.pointer (some ⟨Bn,0,none⟩):=o1;simp[execOp,e,Instr.loadAt,Instr.sureAddr,loadVar,Tryz.isAgg52,hcell]
    ·have e:a.eval (.tmp 3)=.int .i64 ((k+1:Nat):Int):=o3;simp[execOp,e]
    ·have e:a.eval (.tmp 16)=.slice (some ⟨b,off,none⟩) zs.length cap:=hp 6 (by decide) 16 rfl;have e2:a.eval (.tmp 17)=.int .i64 ((k+1:Nat):Int):=hp 7 (by decide) 17 rfl;have hi:¬((k:Int)+1<0)/\(k:Int)+1<zs.length:=by omega
     simp[execOp,e,e2,Instr.indexAt,asIntOf,Tryz.underlying52,Tryz.sizeOf113,hl,Addr.add,show(0:Int)<=(k:Int)+1 by omega,show(k:Int)+1<zs.length by omega]
    ·have e:a.eval (.tmp 18)=.pointer (some ⟨b,off+(k+1)*2,none⟩):=hp 8 (by decide) 18 rfl;have hlc:=run_loadCells_list (P:=Tryz.prog) wr.drew ⟨b,off+(k+1)*2,none⟩ [.int .i64 (zs[k+1]).val.fst,.int .i64 (zs[k+1]).val.snd] (by
      intro j v hv;match j,hv with
      |0,hv=>cases hv;exact y1
      |1,hv=>cases hv;exact y2)
     simp[execOp,e,Instr.loadAt,Instr.sureAddr,loadVar,Tryz.isAgg113,Tryz.sizeOf113]
     replace hlc:(loadCells ⟨b,off+(k+1)*2,none⟩ 2).run Tryz.prog wr.drew=_:=hlc
     rw[hlc];rfl
    have e:a.eval (.tmp 15)=.agg #[.int .i64 (zs[k]'(by omega)).val.fst,.int .i64 (zs[k]'(by omega)).val.snd]:=hp 5 (by decide) 15 rfl;have e2:a.eval (.tmp 19)=.agg #[.int .i64 (zs[k+1]).val.fst,.int .i64 (zs[k+1]).val.snd]:=hp 9 (by decide) 19 rfl;have hb:=run_build (P:=Tryz.prog) wr.drew 189 #[(0,.agg #[.int .i64 (zs[k]'(by omega)).val.fst,.int .i64 (zs[k]'(by omega)).val.snd]),(1,.agg #[.int .i64 (zs[k+1]).val.fst,.int .i64 (zs[k+1]).val.snd])] _ (by rfl);simp[execOp,e,e2,hb];rfl
   case aF=>exact { tmps:=#[.func (.yield l) #[] #[],.pointer (some ⟨Bn,0,none⟩),undef,.int .i64 ((k+1:Nat):Int),.int .i64 ((k+1:Nat):Int),.slice (some ⟨b,off,none⟩) zs.length cap,.int .i64 (zs.length:Int),Value.bool true,u8,u9,
    .func (.yield l) #[] #[],.slice (some ⟨b,off,none⟩) zs.length cap,.int .i64 ((k+1:Nat):Int),.int .i64 (k:Int),.pointer (some ⟨b,off+k*2,none⟩),.agg #[.int .i64 (zs[k]'(by omega)).val.fst,.int .i64 (zs[k]'(by omega)).val.snd],
    .slice (some ⟨b,off,none⟩) zs.length cap,.int .i64 ((k+1:Nat):Int),.pointer (some ⟨b,off+(k+1)*2,none⟩),.agg #[.int .i64 (zs[k+1]).val.fst,.int .i64 (zs[k+1]).val.snd],
    .agg #[.int .i64 (zs[k]'(by omega)).val.fst,.int .i64 (zs[k]'(by omega)).val.snd,.int .i64 (zs[k+1]).val.fst,.int .i64 (zs[k+1]).val.snd],u21,u22],defers:=[] }
   case f1=>rfl
   case f2=>rfl
   case f3=>
    intro i hi d hd;have:i=0\/i=1\/i=2\/i=3\/i=4\/i=5\/i=6\/i=7\/i=8\/i=9\/i=10:=by omega
    rcases this with rfl|rfl|rfl|rfl|rfl|rfl|rfl|rfl|rfl|rfl|rfl<;>(cases hd;rfl)
   case f4=>
    intro t ht;rcases VA t 23 with h|h
    ·have h10:¬(10<=t/\t<=20):=λhh=>ht (t-10) (by omega) (by
      have:t=10\/t=11\/t=12\/t=13\/t=14\/t=15\/t=16\/t=17\/t=18\/t=19\/t=20:=by omega
      rcases this with rfl|rfl|rfl|rfl|rfl|rfl|rfl|rfl|rfl|rfl|rfl<;>rfl)
     have:t=0\/t=1\/t=2\/t=3\/t=4\/t=5\/t=6\/t=7\/t=8\/t=9\/t=21\/t=22:=by omega
     rcases this with rfl|rfl|rfl|rfl|rfl|rfl|rfl|rfl|rfl|rfl|rfl|rfl<;>rfl
    rw[Vr,Vr,XP h,XP h]
   case hK=>
    refine wpAnyIn_all (rs:=[11]) (by kernel_rfl) (by simp) ?_;intro i hi;obtain rfl:=Vu.1 hi;refine⟨λ_ _=>trivial,Head.upon_round (l:=l) (fn:=fn) (tmps:=tmps) (assign:=assign) (body:=body) (w':=wr.drew) rfl (by simp[execOp,Act.eval,resolve,invoke,Deferred.ofValue,hy]) (λh=>by cases h) (hR.mono ?_)⟩;intro e W3 hout;obtain⟨b1,rfl,hb1⟩:∃ b1,e=.returned (.bool b1)/\((b1=true/\J ((gn zs).take (k+1)) W3/\Below n₀ wr W3/\W3.cell? ⟨Bn,0,none⟩=wr.cell? ⟨Bn,0,none⟩)\/(b1=false/\Jx ((gn zs).take (k+1)) W3)):=by
     rcases hout with⟨rfl,h1,h2,h3⟩|⟨rfl,h1⟩
     ·exact⟨true,rfl,.inl ⟨rfl,h1,(by have d:Below n₀ wr wr.drew:=⟨rfl,rfl,rfl,B5 _,λ_ _=>rfl⟩;exact d.trans h2),h3⟩⟩
     exact⟨false,rfl,.inr ⟨rfl,h1⟩⟩
    refine wpAnyIn_all (rs:=[12]) (by kernel_rfl) (by simp) ?_;intro i hi;obtain rfl:=Vu.1 hi;refine⟨λ_ _=>trivial,Head.upon_value (v:=.bool (!b1)) (w':=W3) rfl (by simp[execOp,Act.eval,Act.put,Op.unary]) ?_⟩;refine wpAnyIn_done (by kernel_rfl) ?_ _
    change Exit.then _ _ Exit.normal ({ tmps:=#[.func (.yield l) #[] #[],.pointer (some ⟨Bn,0,none⟩),undef,.int .i64 ((k+1:Nat):Int),.int .i64 ((k+1:Nat):Int),.slice (some ⟨b,off,none⟩) zs.length cap,.int .i64 (zs.length:Int),Value.bool true,u8,u9,
     .func (.yield l) #[] #[],.slice (some ⟨b,off,none⟩) zs.length cap,.int .i64 ((k+1:Nat):Int),.int .i64 (k:Int),.pointer (some ⟨b,off+k*2,none⟩),.agg #[.int .i64 (zs[k]'(by omega)).val.fst,.int .i64 (zs[k]'(by omega)).val.snd],
     .slice (some ⟨b,off,none⟩) zs.length cap,.int .i64 ((k+1:Nat):Int),.pointer (some ⟨b,off+(k+1)*2,none⟩),.agg #[.int .i64 (zs[k+1]).val.fst,.int .i64 (zs[k+1]).val.snd],
     .agg #[.int .i64 (zs[k]'(by omega)).val.fst,.int .i64 (zs[k]'(by omega)).val.snd,.int .i64 (zs[k+1]).val.fst,.int .i64 (zs[k+1]).val.snd],.bool b1,.bool (!b1)],defers:=[] }:Act) W3
    cases b1 with
    |true=>
     have h4:J ((gn zs).take (k+1)) W3/\Below n₀ wr W3/\W3.cell? ⟨Bn,0,none⟩=wr.cell? ⟨Bn,0,none⟩:=by
      rcases hb1 with h|h
      ·exact h.2
      cases h.1
     obtain⟨hJ3,hB3,hc3⟩:=h4
     gi_wp2
     go_roundw
     case rel=>exact⟨k+1,by omega,by simp,hJ3,hB.trans hB3,hc3.trans hcl⟩
     case measure=>simp[Go.RowKit.intOf];omega
    |false=>
     have h4:Jx ((gn zs).take (k+1)) W3:=by
      rcases hb1 with h|h
      ·cases h.1
      exact h.2
     gi_wp2
     refine bodyPost_ret (results_none rfl _ _ _) rfl ?_;exact⟨⟨_,rfl⟩,.inr ⟨_,List.take_prefix _ _,h4⟩⟩
  obtain rfl:k=(gn zs).length:=by omega
  rw[List.take_length]at hJs;have hz:¬(((gn zs).length:Int)+1<zs.length):=by omega
  gi_wp2
  go_end0
  exact⟨⟨_,rfl⟩,.inl hJs⟩
def KpS(n₀ Bn:Nat)(A B:World):Prop:=Below n₀ A B/\B.cell? ⟨Bn,0,none⟩=A.cell? ⟨Bn,0,none⟩
theorem KpS.trans{n₀ Bn:Nat}{A B C:World}(h:KpS n₀ Bn A B)(k:KpS n₀ Bn B C):KpS n₀ Bn A C:=⟨h.1.trans k.1,k.2.trans h.2⟩
theorem KpS.put{n₀ Bn:Nat}{w:World}(hn:n₀<=w.heap.size)(hb:Bn<w.heap.size)(W:World)(l:Nat)(o o':Obj)(hl:w.heap.size<=l)(h:W.heap[l]?=some o)(h1:o.isCells=false)(h2:o.isWalk=false):KpS n₀ Bn W (W.putObj l o'):=
 ⟨belowK_b hn W l o o' hl h h1 h2,(belowK_b (n₀:=Bn+1) (by omega) W l o o' hl h h1 h2).cell (p:=⟨Bn,0,none⟩) (XG _)⟩
theorem E3 (n:Nat)(hn:1<=n)(Bn n₀ : Nat)(a:Option Addr)(cap:Nat)(zs:List PtO)(hreach:zs.length * 16<=140737488351232)(w:World)(hBn:Bn < w.heap.size)(hn₀ : n₀<=w.heap.size)
  (hc:w.cell? ⟨Bn,0,none⟩=some (.slice a zs.length cap)) (hP:PtsAt w a n₀ (zs.map (·.1))) :
  SeqStopsK Fence.wide n Tryz.prog 248 #[.pointer (some ⟨Bn,0,none⟩)] (λx:NW zs=>#[E6 x.1.1]) (KpS n₀ Bn) (λys=>ys=gn zs) (λpre=>pre <+: gn zs) (gn zs).length w:=λl J Jx W hW hA _ hY h0=>
 Ql n hn l Bn n₀ W.heap.size a cap zs hreach w hP hc hBn J Jx hA hY W ⟨hW.mono hn₀,hW.cell (p:=⟨Bn,0,none⟩) hBn⟩ h0
end Go.Proofs

/-
 poly.Crossings: the count.
-/
namespace Go.Proofs
open Go.RowKit Go.Shelf
attribute [local go_sem] Oper.semAt_some
def Bj{α β:Type}(cr:α->β->Bool)(s:Int)(x:α)(ys:List β):Int:=ys.foldl (λn y=>cond (cr x y) (wrap64 (n+1)) n) s
def NZ{α β:Type}(cr:α->β->Bool)(xs:List α)(ys:List β):Int:=xs.foldl (λs x=>Bj cr s x ys) 0
theorem Hz{α β:Type}(cr:α->β->Bool)(s:Int)(x:α)(pre:List β)(y:β):Bj cr s x (pre++[y])=cond (cr x y) (wrap64 (Bj cr s x pre+1)) (Bj cr s x pre):=by simp[Bj]
theorem Or{α β:Type}(cr:α->β->Bool)(pre:List α)(x:α)(ys:List β):NZ cr (pre++[x]) ys=Bj cr (NZ cr pre ys) x ys:=by simp[NZ]
def BoxedR(W:World)(B:Nat)(t:TypeId)(cs:Array Value):Prop:=W.heap[B]?=some (.cells cs t (0,0))
theorem BoxedR.lt{W:World}{B:Nat}{t:TypeId}{v:Array Value}(h:BoxedR W B t v):B<W.heap.size:=(Va.1 h).1
theorem BoxedR.kept{W W':World}{row:Option Nat}{B:Nat}{t:TypeId}{v:Array Value}(h:BoxedR W B t v)(hg:W.grownBy W' row)(hne:some B≠row):BoxedR W' B t v:=(hg.block B h.lt hne).trans h
theorem BoxedR.alloc{W:World}{B:Nat}{t:TypeId}{v:Array Value}(h:BoxedR W B t v)(o:Obj):BoxedR (W.alloc o) B t v:=h.kept (World.grownBy_alloc W o none) (by simp)
theorem BoxedR.new(W:World)(t:TypeId)(v:Array Value):BoxedR (W.alloc (.cells v t)) W.heap.size t v:=World.alloc_heap_new W _
theorem BoxedR.other{W:World}{B B':Nat}{t:TypeId}{v:Array Value}(h:BoxedR W B t v)(hne:B≠B')(u:Value):BoxedR (W.setCell ⟨B',0,none⟩ u) B t v:=h.kept (grownBy_setCell' W B' u) (λe=>hne (by cases e;rfl))
theorem BoxedR.cell{W:World}{B:Nat}{t:TypeId}{v:Array Value}(h:BoxedR W B t v)(i:Nat){u:Value}(hu:v[i]?=some u):W.cell? ⟨B,i,none⟩=some u:=by simp[World.cell?,show W.heap[B]?=_ from h,hu]
theorem AY{β:Type}(B:Nat)(t:TypeId)(f:β->Array Value):Own (λs W=>BoxedR W B t (f s)):=λs X Y row hs hg hrow=>
 hs.kept hg (λe'=>by obtain⟨o,ho,hc⟩:=hrow B e'.symm;rw[show X.heap[B]?=_ from hs]at ho;cases ho;cases hc)
theorem BoxedR.below{W W':World}{B n₀:Nat}{t:TypeId}{v:Array Value}(h:BoxedR W B t v)(hb:Below n₀ W W')(hlt:B<n₀):BoxedR W' B t v:=(hb.block B hlt).trans h
theorem Ec{W W':World}{B n₀:Nat}{t:TypeId}{v:Value}(h:Boxed W B t v)(hb:Below n₀ W W')(hlt:B<n₀):Boxed W' B t v:=(hb.block B hlt).trans h
set_option maxRecDepth 100000 in
set_option maxHeartbeats 8000000 in
theorem xB (n:Nat)(hn:6<=n)(a1 a2:Option Addr)(k1 k2:Nat)(zs ys:List PtO)(w:World)(hr1:zs.length * 16<=140737488351232)(hr2:ys.length * 16<=140737488351232)
  (hP1:PtsAt w a1 w.heap.size (zs.map (·.1))) (hP2:PtsAt w a2 w.heap.size (ys.map (·.1))) (b1 b2:Bool) (cr:NW zs->NW ys->Bool)
  (hV1:∀ W,Below w.heap.size w W->Calls Tryz.prog 32 #[.slice a1 zs.length k1] W λe W'=>e=.returned (.bool b1)/\Below W.heap.size W W')
  (hV2:b1=true->∀ W,Below w.heap.size w W->Calls Tryz.prog 32 #[.slice a2 ys.length k2] W λe W'=>e=.returned (.bool b2)/\Below W.heap.size W W')
  (hC:b1=true->b2=true->∀ x y W,Below w.heap.size w W->Calls Tryz.prog 156 #[E6 x.1.1,E6 y.1.1] W λe W'=>e=.returned (.bool (cr x y))/\Below W.heap.size W W') :
  CallsIn Fence.wide n Tryz.prog 81 #[.slice a1 zs.length k1,.slice a2 ys.length k2] w λe W'=>e=.returned (.int .i64 (cond (b1&&b2) (NZ cr (gn zs) (gn ys)) 0))/\Below w.heap.size w W':=by
 have h1:1<=n:=by omega
 refine callsIn_of_wp_marks Tryz.func81 rfl trivial ?_ rfl;simp only[Tryz.ntmps81,Wl,B2,B8,Nat.reduceAdd,Nat.reduceSub,WA,WB,WM,WF,V4,Wj]
 gi_wp2
 have hB0:Below w.heap.size w (w.alloc (.cells #[.slice a2 ys.length k2] 52)):=(Below.refl _ w).alloc (B5 _) _;have bB0:=Boxed.new w 52 (.slice a2 ys.length k2);have hs0:(w.alloc (.cells #[.slice a2 ys.length k2] 52)).heap.size=w.heap.size+1:=by simp
 refine⟨trivial,(callsIn_wide.2 (hV1 _ hB0)).mono ?_⟩;rintro e w1 ⟨rfl,hb1⟩;have hB1:Below w.heap.size w w1:=hB0.trans (hb1.mono (by omega));have bB1:Boxed w1 w.heap.size 52 (.slice a2 ys.length k2):=Ec bB0 hb1 (by omega);have hs1:w.heap.size+1<=w1.heap.size:=by have:=hb1.size;omega
 have cB1:=bB1.cell;clear hb1 bB0 hB0 hs0;cases b1 with
 |false=>
  gi_wp2
  refine⟨trivial,?_⟩
  gi_wp2
  exact⟨_,results_tmp rfl _ _ _,rfl,hB1⟩
 |true=>
  gi_wp2
  refine⟨trivial,(callsIn_wide.2 (hV2 trivial _ hB1)).mono ?_⟩;rintro e w2 ⟨rfl,hb2⟩;have hB2:Below w.heap.size w w2:=hB1.trans (hb2.mono (by omega));have bB2:Boxed w2 w.heap.size 52 (.slice a2 ys.length k2):=Ec bB1 hb2 (by omega);have hs2:w.heap.size+1<=w2.heap.size:=by have:=hb2.size;omega
  have cB2:=bB2.cell;clear hb2 bB1 hB1 hs1 cB1;cases b2 with
  |false=>
   gi_wp2
   exact⟨_,results_tmp rfl _ _ _,rfl,hB2⟩
  |true=>
   have hC2:=hC trivial rfl;clear hC
   gi_wp2
   refine⟨trivial,(DP Fence.wide (n-1) trivial rfl _ _ _ _).mono ?_⟩;rintro e w' ⟨rfl,rfl⟩;have bS:=(Boxed.new w2 3 (.int .i64 0)).alloc (.cells #[.slice a1 zs.length k1] 52);have bA:=Boxed.new (w2.alloc (.cells #[.int .i64 0] 3)) 52 (.slice a1 zs.length k1);have bB:=(bB2.alloc (.cells #[.int .i64 0] 3)).alloc (.cells #[.slice a1 zs.length k1] 52);simp only[World.size_alloc]at bS bA;have hB0:Below w.heap.size w ((w2.alloc (.cells #[.int .i64 0] 3)).alloc (.cells #[.slice a1 zs.length k1] 52)):=(hB2.alloc (by omega) _).alloc (by simp;omega) _;have hsz:((w2.alloc (.cells #[.int .i64 0] 3)).alloc (.cells #[.slice a1 zs.length k1] 52)).heap.size=w2.heap.size+2:=by simp
   obtain⟨W0,hW0⟩:∃ W0,(w2.alloc (.cells #[.int .i64 0] 3)).alloc (.cells #[.slice a1 zs.length k1] 52)=W0:=⟨_,rfl⟩;have hsa:(w2.alloc (.cells #[.int .i64 0] 3)).heap.size=w2.heap.size+1:=by simp
   rw[hW0]at bB bS bA hB0 hsz ⊢;rw[hsa];clear hW0
   gi_wp2
   have hgB:∀{A B:World},Below A.heap.size A B->A.grownBy B none:=λh=>⟨h.os,h.tape,h.output,h.size,λk hk _=>h.block k hk⟩;refine wpIn_rangeFunc_ownH rfl h1 (gf:=248) (lb:=#[.pointer (some ⟨w2.heap.size+1,0,none⟩)]) rfl trivial (enters_of Tryz.func248 (by kernel_rfl) rfl)
    (E3 (n-1) (by omega) (w2.heap.size+1) w.heap.size a1 k1 zs hr1 W0 (by omega) (by omega) bA.cell (hP1.below hB0)) KpS.trans (KpS.put (by omega) (by omega)) (Below.refl _ _) (λ_=>rfl)
    (λpre W=>((Boxed W w2.heap.size 3 (.int .i64 (NZ cr pre (gn ys)))/\Boxed W w.heap.size 52 (.slice a2 ys.length k2))/\Boxed W (w2.heap.size+1) 52 (.slice a1 zs.length k1))/\Below w.heap.size w W)
    (λ_ _ _=>False)
    (OwnFrom.and (OwnFrom.and (OwnFrom.and (Own.from (boxed_own _ _ _) _) (Own.from (boxed_own _ _ _) _)) (Own.from (boxed_own _ _ _) _)) (ownFrom_below (B5 _) (by omega)))
    (λ_ _ _ _ _ hs _ _=>hs)
    ⟨⟨⟨bS,bB⟩,bA⟩,hB0⟩
    (λx a' W=>∃ Bx,w2.heap.size+1<Bx/\BoxedR W Bx 189 #[.int .i64 x.1.1.1.1,.int .i64 x.1.1.1.2,.int .i64 x.1.1.2.1,.int .i64 x.1.1.2.2]/\a'={ tmps:=#[.slice a1 zs.length k1,.slice a2 ys.length k2,undef,.pointer (some ⟨w.heap.size,0,none⟩),.int .i64 0,.pointer (some ⟨w2.heap.size,0,none⟩),.pointer (some ⟨Bx,0,none⟩),undef,.slice a1 zs.length k1,.bool true,.bool false,.bool false,.slice a2 ys.length k2,.bool true,.bool false,.bool false,.slice a1 zs.length k1,.func (.func 248) #[] #[.pointer (some ⟨w2.heap.size+1,0,none⟩)],E6 x.1.1,undef,undef,undef,undef,undef,undef,undef,undef,undef],defers:=[] })
    (λx a' _ X Y row hs hg hr=>by obtain⟨Bx,h1,h2,h3⟩:=hs;exact⟨Bx,h1,AY Bx 189 (λ(_:Unit)=>#[Value.int .i64 x.1.1.1.1,.int .i64 x.1.1.1.2,.int .i64 x.1.1.2.1,.int .i64 x.1.1.2.2]) () X Y row h2 hg (λr e=>(hr r e).2),h3⟩)
    ?assign ?body ?done ?stop
   case assign=>
    rintro l pre x W K ⟨⟨⟨bS1,bB1⟩,bA1⟩,hB1⟩ hK;unfold E6 at hK ⊢
    gi_wp2
    exact hK _ _ ((KeepsOthers.alloc _ _).from _) ⟨(Below.refl _ W).alloc hB1.size _,(bA1.alloc _).cell.trans bA1.cell.symm⟩ ⟨⟨⟨bS1.alloc _,bB1.alloc _⟩,bA1.alloc _⟩,hB1.alloc hB1.size _⟩ ⟨W.heap.size,bA1.lt,BoxedR.new W 189 _,rfl⟩
   case body=>
    rintro l pre x a' W hl ⟨r,hr⟩ ⟨⟨⟨bS1,bB1⟩,bA1⟩,hB1⟩ ⟨Bx,hBx,bX,rfl⟩ hlt;have cB1:=bB1.cell;have h1':1<=n-1-1:=by omega
    have hlA:=bA1.lt;have hlB:=bB1.lt;have hlX:=bX.lt
    gi_wp2
    refine⟨trivial,(CallsIn.inRound l (DP Fence.wide (n-1-1-1) trivial rfl _ _ _ _)).mono ?_⟩;rintro e w' ⟨rfl,rfl⟩;have hsW:=hB1.size;have bN:=Boxed.new W 52 (.slice a2 ys.length k2);have hr':(W.alloc (.cells #[.slice a2 ys.length k2] 52)).heap[l]?=some (.loop r):=(Below.heap_alloc W _ l (Va.1 hr).1).trans hr
    gi_wp2
    refine wpIn_rangeFunc_ownN (l₀:=l) (r₀:=r) rfl hr' h1' (gf:=248) (lb:=#[.pointer (some ⟨W.heap.size,0,none⟩)]) rfl trivial (enters_of Tryz.func248 (by kernel_rfl) rfl)
     ((E3 (n-1-1-1) (by omega) W.heap.size w.heap.size a2 k2 ys hr2 _ (by simp) (by simp;omega) bN.cell (hP2.below (hB1.alloc hsW _))).inRound l) KpS.trans (KpS.put (by simp;omega) (by simp)) (Below.refl _ _) (λ_=>rfl)
     (λpre' W'=>((((Boxed W' w2.heap.size 3 (.int .i64 (Bj cr (NZ cr pre (gn ys)) x pre'))/\BoxedR W' Bx 189 #[.int .i64 x.1.1.1.1,.int .i64 x.1.1.1.2,.int .i64 x.1.1.2.1,.int .i64 x.1.1.2.2])/\Boxed W' w.heap.size 52 (.slice a2 ys.length k2))/\Boxed W' (w2.heap.size+1) 52 (.slice a1 zs.length k1))/\Boxed W' W.heap.size 52 (.slice a2 ys.length k2))/\(Below w.heap.size W W'/\KeepsFrom W0.heap.size W W'))
     (λ_ _ _=>False)
     (OwnFrom.and (OwnFrom.and (OwnFrom.and (OwnFrom.and (OwnFrom.and (Own.from (boxed_own _ _ _) _) (Own.from (AY _ _ _) _)) (Own.from (boxed_own _ _ _) _)) (Own.from (boxed_own _ _ _) _)) (Own.from (boxed_own _ _ _) _)) (OwnFrom.and (ownFrom_below hsW (by simp;omega)) (ownFrom_keepsFrom (by simp))))
     (λ_ _ _ _ _ hs _ _=>hs)
     ⟨⟨⟨⟨⟨bS1.alloc _,bX.alloc _⟩,bB1.alloc _⟩,bA1.alloc _⟩,bN⟩,(Below.refl _ W).alloc hsW _,(KeepsOthers.alloc _ _).from _⟩
     (λy a'' W'=>∃ By,W.heap.size<By/\BoxedR W' By 189 #[.int .i64 y.1.1.1.1,.int .i64 y.1.1.1.2,.int .i64 y.1.1.2.1,.int .i64 y.1.1.2.2]/\a''={ tmps:=#[.slice a1 zs.length k1,.slice a2 ys.length k2,undef,.pointer (some ⟨w.heap.size,0,none⟩),.int .i64 0,.pointer (some ⟨w2.heap.size,0,none⟩),.pointer (some ⟨Bx,0,none⟩),.pointer (some ⟨By,0,none⟩),.slice a1 zs.length k1,.bool true,.bool false,.bool false,.slice a2 ys.length k2,.bool true,.bool false,.bool false,.slice a1 zs.length k1,.func (.func 248) #[] #[.pointer (some ⟨w2.heap.size+1,0,none⟩)],E6 x.1.1,.slice a2 ys.length k2,.func (.func 248) #[] #[.pointer (some ⟨W.heap.size,0,none⟩)],E6 y.1.1,undef,undef,undef,undef,undef,undef],defers:=[] })
     (λy a'' _ X Y row hs hg hr=>by obtain⟨By,h1,h2,h3⟩:=hs;exact⟨By,h1,AY By 189 (λ(_:Unit)=>#[Value.int .i64 y.1.1.1.1,.int .i64 y.1.1.1.2,.int .i64 y.1.1.2.1,.int .i64 y.1.1.2.2]) () X Y row h2 hg (λr e=>(hr r e).2),h3⟩)
     ?assign2 ?body2 ?done2 ?stop2
    case assign2=>
     rintro l2 pre' y W' K ⟨⟨⟨⟨⟨bS2,bX2⟩,bB2⟩,bA2⟩,bN2⟩,hBW,hKF⟩ hK;unfold E6 at hK ⊢
     gi_wp2
     exact hK _ _ ((KeepsOthers.alloc _ _).from _) ⟨(Below.refl _ W').alloc (by have:=hBW.size;omega) _,(bN2.alloc _).cell.trans bN2.cell.symm⟩
      ⟨⟨⟨⟨⟨bS2.alloc _,bX2.alloc _⟩,bB2.alloc _⟩,bA2.alloc _⟩,bN2.alloc _⟩,hBW.alloc (by have:=hBW.size;omega) _,hKF.trans ((KeepsOthers.alloc _ _).from _)⟩ ⟨W'.heap.size,bN2.lt,BoxedR.new W' 189 _,rfl⟩
    case body2=>
     rintro l2 pre' y a'' W' _ _ ⟨⟨⟨⟨⟨bS2,bX2⟩,bB2⟩,bA2⟩,bN2⟩,hBW,hKF⟩ ⟨By,hBy,bY,rfl⟩ _;have x0:=bX2.cell 0 rfl;have x1:=bX2.cell 1 rfl;have x2:=bX2.cell 2 rfl;have x3:=bX2.cell 3 rfl;have y0:=bY.cell 0 rfl;have y1:=bY.cell 1 rfl;have y2:=bY.cell 2 rfl;have y3:=bY.cell 3 rfl
     gi_wp2
     refine⟨trivial,λh=>(by cases h),(CallsIn.inRound l2 (callsIn_wide.2 (hC2 x y _ (hB1.trans hBW)))).mono ?_⟩;rintro e W3 ⟨rfl,hb3⟩;have hg3:=hgB hb3;have hs3:=hb3.size;have bS3:=bS2.kept hg3 (by simp);have bX3:=bX2.kept hg3 (by simp);have bB3:=bB2.kept hg3 (by simp);have bA3:=bA2.kept hg3 (by simp);have bN3:=bN2.kept hg3 (by simp);have hsW2:=hBW.size;have hk3:KeepsOthers W' W3:=KeepsOthers.of_grownBy hg3 (λj o e=>by cases e);have cS:=bS3.cell;have fS:=bS3.frozen;cases hcr:cr x y with
     |false=>
      gi_wp2
      exact⟨hk3.from _,⟨hb3.mono (by omega),bN3.cell.trans bN2.cell.symm⟩,⟨⟨⟨⟨by rw[Hz,hcr];exact bS3,bX3⟩,bB3⟩,bA3⟩,bN3⟩,hBW.trans (hb3.mono (by omega)),hKF.trans (hk3.from _)⟩
     |true=>
      gi_wp2
      exact⟨(hk3.trans (KeepsOthers.setCell _ _ _)).from _,⟨(hb3.mono (by omega)).trans ((Below.refl _ W3).setCell (p:=⟨w2.heap.size,0,none⟩) (by simp;omega) _),(bN3.other (by omega) _).cell.trans bN2.cell.symm⟩,
       ⟨⟨⟨⟨by rw[Hz,hcr];exact bS3.set _,bX3.other (by omega) _⟩,bB3.other (by omega) _⟩,bA3.other (by omega) _⟩,bN3.other (by omega) _⟩,
       (hBW.trans (hb3.mono (by omega))).trans ((Below.refl _ W3).setCell (p:=⟨w2.heap.size,0,none⟩) (by simp;omega) _),(hKF.trans (hk3.from _)).trans ((KeepsOthers.setCell _ _ _).from _)⟩
    case done2=>
     rintro ys' W' rfl ⟨⟨⟨⟨⟨bS2,bX2⟩,bB2⟩,bA2⟩,bN2⟩,hBW,hKF⟩
     gi_wp2
     exact⟨hKF,⟨hBW,bA2.cell.trans bA1.cell.symm⟩,⟨⟨by rw[Or];exact bS2,bB2⟩,bA2⟩,hB1.trans hBW⟩
    case stop2=>
     rintro c pre' W' _ h;exact h.elim
   case done=>
    rintro D zs' W hD rfl ⟨⟨⟨bS1,bB1⟩,bA1⟩,hB1⟩ hK;have cS:=bS1.cell
    gi_wp2
    refine⟨by simp,.inl ⟨_,_,rfl,run_takeDeferred hK,?_⟩⟩;exact⟨_,results_tmp rfl _ _ _,rfl,hB1.trans (belowK_b (w:=w) (B5 _) W D _ _ (by omega) hK rfl rfl)⟩
   case stop=>
    rintro D c pre W _ _ h _;exact h.elim
end Go.Proofs

/-
 poly.Crossings as a contract.
-/
namespace Go.Vm
open Go.Proofs Go.RowKit
abbrev PtT:Ty:=.prod (.int .i64) (.prod (.int .i64) .unit)
abbrev Pa:Ty:=.prod PtT (.prod PtT .unit)
abbrev PtD:=Int×(Int×Unit)
abbrev SegD:=PtD×(PtD×Unit)
abbrev FV:=(List PtD×Unit)->Option (Bool×Unit)
abbrev FC:=(SegD×(SegD×Unit))->Option (Bool×Unit)
def zr(fC:FC)(s:SegD):Int->List SegD->Option Int
 |n,[]=>some n
 |n,t::r=>(fC (s,(t,()))).bind λb=>zr fC s (cond b.1 (af .i64 n 1) n) r
def vo(fC:FC):Int->List SegD->List SegD->Option Int
 |n,[],_=>some n
 |n,s::r,ts=>(zr fC s n ts).bind λm=>vo fC m r ts
def sgD(l:List PtD):List SegD:=(YJ l (l.drop 1)).map λp=>(p.1,(p.2,()))
def Dy(a b:List PtD):Bool:=VK a.length 1000000&&VK b.length 1000000
def Cx(fV:FV)(fC:FC)(x:List PtD×(List PtD×Unit)):Option (Int×Unit):=
 cond (Dy x.1 x.2.1) ((fV (x.1,())).bind λr1=>cond r1.1 ((fV (x.2.1,())).bind λr2=>cond r2.1 ((vo fC 0 (sgD x.1) (sgD x.2.1)).bind λn=>some (n,())) (some (0,()))) (some (0,()))) none
def Dl(fV:FV)(fC:FC):Con:=⟨[(.rd,.slice PtT),(.rd,.slice PtT)],[(false,.int .i64)],Cx fV fC,false⟩
def K6(fC:FC)(s t:SegD):Bool:=match fC (s,(t,()))with
 |some (b,_)=>b
 |none=>false
theorem HE{fC:FC}{s t:SegD}{b:Bool×Unit}(h:fC (s,(t,()))=some b):K6 fC s t=b.1:=by unfold K6;rw[h]
theorem goes_calls{P:Program}{f:Nat}{vs:Array Value}{w:World}{R:Value->World->Prop}(he:(callFunc f vs).run P w=.ok (.enter f vs) w)(h:Goes P f vs w R):Calls P f vs w λe w'=>∃ v,e=.returned v/\R v w':=by
 rcases h with ⟨_,h⟩|⟨v,w',h,_⟩
 ·exact h
 rw[he]at h;cases h
section
variable {fC:FC}{α β:Type}{g:α->SegD}{k:β->SegD}
theorem JR{s:SegD}:∀{ts:List SegD} {n m:Int},zr fC s n ts=some m->∀ t∈ts,∃ b,fC (s,(t,()))=some b
 |[],_,_,_,t,ht=>by cases ht
 |t0::r,n,m,h,t,ht=>by
  unfold zr at h;cases hf:fC (s,(t0,()))with
  |none=>rw[hf]at h;cases h
  |some b=>
   rw[hf]at h;rcases A9.1 ht with rfl|ht
   ·exact⟨b,hf⟩
   exact JR h t ht
theorem Ii{ts:List SegD}:∀{ss:List SegD} {n m:Int},vo fC n ss ts=some m->∀ s∈ss,∀ t∈ts,∃ b,fC (s,(t,()))=some b
 |[],_,_,_,s,hs=>by cases hs
 |s0::r,n,m,h,s,hs=>by
  unfold vo at h;cases hf:zr fC s0 n ts with
  |none=>rw[hf]at h;cases h
  |some q=>
   rw[hf]at h;rcases A9.1 hs with rfl|hs
   ·exact JR hf
   exact Ii h s hs
theorem JX{x:α}:∀{ys:List β} {n m:Int},zr fC (g x) n (ys.map k)=some m->m=Bj (λa b=>K6 fC (g a) (k b)) n x ys
 |[],_,_,h=>by cases h;rfl
 |y::r,n,m,h=>by
  unfold zr at h;simp only[L3]at h;cases hf:fC (g x,(k y,()))with
  |none=>rw[hf]at h;cases h
  |some b=>rw[hf]at h;have:=JX (x:=x) h;rw[this];have e:Bj (λa b=>K6 fC (g a) (k b)) n x (y::r)=Bj (λa b=>K6 fC (g a) (k b)) (cond (K6 fC (g x) (k y)) (wrap64 (n+1)) n) x r:=rfl;rw[e,HE hf,show af .i64 n 1=wrap64 (n+1) by unfold af wrap64;exact IntKind.wrap_i64 _]
theorem Ie{ys:List β}:∀{xs:List α} {n m:Int},vo fC n (xs.map g) (ys.map k)=some m->m=xs.foldl (λs x=>Bj (λa b=>K6 fC (g a) (k b)) s x ys) n
 |[],_,_,h=>by cases h;rfl
 |x::r,n,m,h=>by
  simp only[L3]at h;unfold vo at h;cases hf:zr fC (g x) n (ys.map k)with
  |none=>rw[hf]at h;cases h
  |some q=>rw[hf]at h;rw[Ie h,JX hf];rfl
end
theorem MS{α β:Type}{cr:α->β->Bool}{x:α}:∀{ys:List β} {n:Int},(Lit.int .i64 n).wf=true->(Lit.int .i64 (Bj cr n x ys)).wf=true
 |[],_,h=>h
 |y::r,n,h=>by
  have e:Bj cr n x (y::r)=Bj cr (cond (cr x y) (wrap64 (n+1)) n) x r:=rfl;rw[e];refine MS ?_;cases cr x y with
  |true=>exact wrap64_wf _
  |false=>exact h
theorem Nf{α β:Type}{cr:α->β->Bool}{ys:List β}:∀{xs:List α} {n:Int},(Lit.int .i64 n).wf=true->(Lit.int .i64 (xs.foldl (λs x=>Bj cr s x ys) n)).wf=true
 |[],_,h=>h
 |x::r,n,h=>Nf (xs:=r) (MS h)
theorem Rf{n:Int}(h:(Lit.int .i64 n).wf=true):IntKind.i64.min<=n/\n<=IntKind.i64.max:=by simpa[Lit.wf]using h
section
variable {P:Program}{G:List (Nat×(Σ t:Ty,t.den))}
theorem EV{w w':World}{M:Nat->Prop}(h:Kept w M w')(hM:∀ b,¬M b):Below w.heap.size w w':=⟨h.os,h.tape,h.output,h.size,λb hb=>h.block b hb (hM b)⟩
theorem HA{w W:World}{F:Nat->Prop}{ins ins':List (Mode×Ty)}{us us':List Value}{x:(aG (ins.map (·.2))).den}{x':(aG (ins'.map (·.2))).den}(hp:Pre G w F ins us x)(hB:Below w.heap.size w W)(ha:ArgsRd W F ins' us' x')(hh:aY ins' us'=[]):Pre G W F ins' us' x':=by refine⟨ha,λu hu=>(by rw[hh]at hu;cases hu),(by rw[hh];exact Wh),λb hb=>Vn (hp.fro b hb) hB.size,λg τ y hy=>?_⟩;exact(hp.glob g τ y hy).mono λb hb=>⟨hb,hB.block b (hp.fro b hb)⟩
theorem KH {w w':World}{F:Nat->Prop}{ins:List (Mode×Ty)}{us:List Value}{r:(aG (([(true,Ty.bool)]:List (Bool×Ty)).map (·.2)++bm ins)).den}{v:Value}{F2:Nat->Prop}{css:List (List Value)}(hp:RI w F ins us [(true,.bool)] r v w' F2 css false) :
  v=.bool (kM [Ty.bool] (bm ins) r).1.1:=by
 have h:=hp.res;match css,h with
 |[],h=>exact h.elim
 |[cs],h=>obtain⟨h1,_⟩:=h;have h2:cs=[.bool (kM [Ty.bool] (bm ins) r).1.1]:=h1;rw[hp.val,h2];rfl
 |_::_::_,h=>exact h.2.elim
theorem S2{w:World}{F:Nat->Prop}{cs:List Value}{p:PtD}(h:Rd w F PtT cs p):cs=[.int .i64 p.1,.int .i64 p.2.1]/\okP (p.1,p.2.1):=by obtain⟨c1,c2,rfl,⟨rfl,h1,h2⟩,c3,c4,rfl,⟨rfl,h3,h4⟩,h5⟩:=h;have h5:c4=[]:=h5;subst h5;exact⟨rfl,⟨h1,h2⟩,h3,h4⟩
theorem J7{w:World}{F:Nat->Prop}{p:PtI}(h:okP p):Rd w F PtT [.int .i64 p.1,.int .i64 p.2] (p.1,(p.2,())):=
 ⟨[.int .i64 p.1],[.int .i64 p.2],rfl,⟨rfl,h.1⟩,[.int .i64 p.2],[],rfl,⟨rfl,h.2⟩,rfl⟩
def FD(s:PtI×PtI):SegD:=((s.1.1,(s.1.2,())),((s.2.1,(s.2.2,())),()))
theorem RL{w:World}{F:Nat->Prop}{s:PtI×PtI}(h:okP s.1/\okP s.2):Rd w F Pa [.int .i64 s.1.1,.int .i64 s.1.2,.int .i64 s.2.1,.int .i64 s.2.2] (FD s):=
 ⟨[.int .i64 s.1.1,.int .i64 s.1.2],[.int .i64 s.2.1,.int .i64 s.2.2],rfl,J7 h.1,[.int .i64 s.2.1,.int .i64 s.2.2],[],rfl,J7 h.2,rfl⟩
theorem NC {w:World}{F:Nat->Prop}(hF:∀ b,F b->b < w.heap.size){u:Value}{l:List PtD}(h:ArgRd w F .rd (.slice PtT) u l) :
  ∃(a:Option Addr) (cap:Nat) (zs:List PtO),u=.slice a zs.length cap/\l=zs.map (λz=>(z.1.1,(z.1.2,())))/\PtsAt w a w.heap.size (zs.map (·.1)):=by
 obtain⟨cs,rfl,a,cap,rfl,h1,h2,h3⟩:=h;have hall:∀ p∈l,okP (p.1,p.2.1):=by intro p hp;obtain⟨i,hi,rfl⟩:=List.mem_iff_getElem.1 hp;obtain⟨b,off,c,el,fz,_,_,_,_,q5⟩:=h3 (by intro e;rw[e]at hi;simp at hi);exact(S2 (q5 i hi)).2
 refine⟨a,cap,l.pmap (λp hp=>⟨(p.1,p.2.1),hp⟩) hall,by rw[List.length_pmap];rfl,?_,?_⟩
 ·rw[YP];symm;have:∀(l:List PtD) (H:∀ p∈l,okP (p.1,p.2.1)),List.pmap (λ(p:PtD) (_:okP (p.1,p.2.1))=>((p.1,(p.2.1,())):PtD)) l H=l:=by
   intro l;induction l with
   |nil=>intro H;rfl
   |cons p r ih=>intro H;rw[List.pmap_cons,ih]
  exact this l hall
 intro hne;have hl:l≠[]:=by intro e;subst e;exact hne rfl
 obtain⟨b,off,c,el,fz,q1,q2,q3,q4,q5⟩:=h3 hl;refine⟨b,off,q1,hF b q2,λj hj=>?_⟩;have hj':j<l.length:=by simpa using hj
 have h6:=(S2 (q5 j hj')).1;have hs:PtT.size=2:=rfl;rw[hs]at h6 q4;have e0:=seg_getElem? c (off+j*2) 2 0 (by omega);have e1:=seg_getElem? c (off+j*2) 2 1 (by omega);rw[h6]at e0 e1;have g:(l.pmap (λp hp=>(⟨(p.1,p.2.1),hp⟩:PtO)) hall).map (·.1)=l.map λp=>(p.1,p.2.1):=by rw[YP];exact List.pmap_eq_map ..
 constructor
 ·rw[Yl g];simp only[World.cell?,q3,XB];simpa using e0.symm
 rw[Yl g];simp only[World.cell?,q3,XB];simpa using e1.symm
theorem SX(zs:List PtO):sgD (zs.map (λz=>(z.1.1,(z.1.2,()))))=(gn zs).map (λs=>FD s.1.1):=by unfold gn;have e:(List.map (λs:NW zs=>FD s.1.1) (AQ zs).attach)=(AQ zs).map (λs=>FD s.1):=List.attach_map_val (f:=λs:SegO=>FD s.1);rw[e];unfold sgD AQ;rw[<- List.map_drop,List.zip_map,X5,X5];rfl
theorem Pu{fV:FV}{fC:FC}(hV:Con.Holds Tryz.prog G 32 ⟨[(.rd,.slice PtT)],[(true,.bool)],fV,false⟩)(hC:Con.Holds Tryz.prog G 156 ⟨[(.rd,Pa),(.rd,Pa)],[(true,.bool)],fC,false⟩):Con.Holds Tryz.prog G 81 (Dl fV fC):=by
 refine Con.Holds.plain rfl ?_;intro w F us x r hp hM;obtain⟨l1,l2,u⟩:=x;have hargs:=hp.args;match us,hargs with
 |[u1,u2],hargs=>
  obtain⟨ha1,ha2,_⟩:=hargs;obtain⟨a1,k1,zs,rfl,rfl,hP1⟩:=NC hp.fro ha1;obtain⟨a2,k2,ys,rfl,rfl,hP2⟩:=NC hp.fro ha2;have hM:Cx fV fC (zs.map (λz=>(z.1.1,(z.1.2,()))),(ys.map (λz=>(z.1.1,(z.1.2,()))),u))=some r:=hM;unfold Cx at hM;have hrd:∀{W:World} {u:Value} {l:List PtD},Below w.heap.size w W->ArgRd w F .rd (.slice PtT) u l->ArgRd W F .rd (.slice PtT) u l:=by rintro W u l hB ⟨cs,h1,h2⟩;exact⟨cs,h1,h2.mono λb hb=>⟨hb,hB.block b (hp.fro b hb)⟩⟩
  have valid:∀{u:Value} {l:List PtD} {b:Bool×Unit},ArgRd w F .rd (.slice PtT) u l->fV (l,())=some b->∀ W,Below w.heap.size w W->Calls Tryz.prog 32 #[u] W λe W'=>e=.returned (.bool b.1)/\Below W.heap.size W W':=by intro u l b hl hb W hB;have hpre:Pre G W F [(.rd,.slice PtT)] [u] (l,()):=HA hp hB ⟨hrd hB hl,trivial⟩ rfl;refine(goes_calls (enters_of Tryz.func32 (by kernel_rfl) rfl _ _) (hV.get rfl hpre hb)).mono ?_;rintro e W' ⟨v,rfl,F2,css,hpost⟩;exact⟨congrArg _ (KH hpost),EV hpost.kept (λb ⟨u,hu,_⟩=>by cases hu)⟩
  have fin:∀(m:Int),(Lit.int .i64 m).wf=true->r=(m,())->Calls Tryz.prog 81 #[.slice a1 zs.length k1,.slice a2 ys.length k2] w (fun e w'=>e=.returned (.int .i64 m)/\Below w.heap.size w w') ->
    Goes Tryz.prog 81 [Value.slice a1 zs.length k1,Value.slice a2 ys.length k2].toArray w λv w'=>∃ F2 css,RI w F (Dl fV fC).ins [.slice a1 zs.length k1,.slice a2 ys.length k2] (Dl fV fC).outs r v w' F2 css (Dl fV fC).deep:=by
   intro m hm hr h;subst hr;refine .inl ⟨enters_of Tryz.func81 (by kernel_rfl) rfl _ _,h.mono ?_⟩;rintro e w' ⟨rfl,hB⟩;refine⟨_,rfl,F,[[.int .i64 m]],⟨⟨hB.os,hB.tape,hB.output,hB.size,λb hb _=>hB.block b hb⟩,λ_ h=>h,λb hb=>⟨Vn (hp.fro b hb) hB.size,.inl hb⟩,rfl,⟨⟨rfl,Rf hm⟩,trivial⟩,trivial,Wh,λu hu=>(by cases hu)⟩⟩
  obtain⟨hsh,hM⟩:Dy (zs.map (λz=>((z.1.1,(z.1.2,())):PtD))) (ys.map (λz=>((z.1.1,(z.1.2,())):PtD)))=true/\_=some r:=by
   cases hs:Dy (zs.map (λz=>((z.1.1,(z.1.2,())):PtD))) (ys.map (λz=>((z.1.1,(z.1.2,())):PtD)))with
   |false=>simp only[hs,U4]at hM;cases hM
   |true=>simp only[hs,U3]at hM;exact⟨rfl,hM⟩
  unfold Dy at hsh;simp only[sg,Vq]at hsh;have hl1:=Vi hsh.1;have hl2:=Vi hsh.2;cases h1:fV (zs.map (λz=>(z.1.1,(z.1.2,()))),())with
  |none=>rw[h1]at hM;cases hM
  |some b1=>
   rw[h1]at hM;obtain⟨b1,u1⟩:=b1;simp only[bv]at hM;cases b1 with
   |false=>cases hM;have h:=xB 6 (by omega) a1 a2 k1 k2 zs ys w (by omega) (by omega) hP1 hP2 false false (λ_ _=>false) (valid ha1 h1) (λh=>by cases h) (λh=>by cases h);exact fin 0 (by decide) rfl (callsIn_wide.1 h)
   |true=>
    simp only[U3]at hM;cases h2:fV (ys.map (λz=>(z.1.1,(z.1.2,()))),())with
    |none=>rw[h2]at hM;cases hM
    |some b2=>
     rw[h2]at hM;obtain⟨b2,u2⟩:=b2;simp only[bv]at hM;cases b2 with
     |false=>cases hM;have h:=xB 6 (by omega) a1 a2 k1 k2 zs ys w (by omega) (by omega) hP1 hP2 true false (λ_ _=>false) (valid ha1 h1) (λ_=>valid ha2 h2) (λ_ h=>by cases h);exact fin 0 (by decide) rfl (callsIn_wide.1 h)
     |true=>
      simp only[U3]at hM;rw[SX,SX]at hM;cases h3:vo fC 0 ((gn zs).map (λs=>FD s.1.1)) ((gn ys).map (λs=>FD s.1.1))with
      |none=>rw[h3]at hM;cases hM
      |some m=>
       rw[h3]at hM;cases hM;have hm:=Ie h3;have hok:=Ii h3;have h:=xB 6 (by omega) a1 a2 k1 k2 zs ys w (by omega) (by omega) hP1 hP2 true true (λa b=>K6 fC (FD a.1.1) (FD b.1.1)) (valid ha1 h1) (λ_=>valid ha2 h2) (λ_ _ x y W hB=>by
        obtain⟨b,hb⟩:=hok _ (VM.2 ⟨x,YC _ _,rfl⟩) _ (VM.2 ⟨y,YC _ _,rfl⟩);have hpre:Pre G W F [(.rd,Pa),(.rd,Pa)] [E6 x.1.1,E6 y.1.1] (FD x.1.1,(FD y.1.1,())):=
         HA hp hB ⟨⟨_,rfl,RL x.1.2⟩,⟨_,rfl,RL y.1.2⟩,trivial⟩ rfl
        refine(goes_calls (enters_of Tryz.func156 (by kernel_rfl) rfl _ _) (hC.get rfl hpre hb)).mono ?_;rintro e W' ⟨v,rfl,F2,css,hpost⟩;refine⟨?_,EV hpost.kept (λb ⟨u,hu,_⟩=>by cases hu)⟩;rw[HE hb];exact congrArg _ (KH hpost))
       refine fin m ?_ rfl ((callsIn_wide.1 h).mono ?_)
       ·rw[hm];exact Nf (by decide)
       rintro e W' ⟨rfl,hB⟩;refine⟨?_,hB⟩;rw[hm];rfl
end
end Go.Vm

