/-
 A machine on typed values, small enough to be reckoned by the kernel, and the proof that it goes with the model: part 4 of 5. What it computes for a function is that function's contract. No condition of its own.
-/
import Derived.Test.YtdijhiodknmjaaaGreatDoorVmC
import Derived.Maps.RangeRun
import Derived.LoopN
import Derived.ChangeKeysEq
open List renaming getElem?_eq_getElem->bx,getElem?_eq_some_iff->tz,getD_eq_getElem?_getD->A5,mem_cons->A9,length_cons->B2,mem_append->B6,mem_of_getElem?->B9,map_cons->L3,range->L7,all_eq_true->U5,getElem?_toArray->Vb,getElem?_take->Vc,pairwise_cons->Ve,getElem?_cons_zero->Vh,any_eq_false->Vj,mem_cons_of_mem->Vk,mem_range->Vp,mem_singleton->Vu,append_assoc->Vv,append_nil->Vw,mem_cons_self->VF,pairwise_singleton->VL,pairwise_append->V7,any_eq_true->Wi,cons_append->Wj,Pairwise->Wm,flatMap_cons->Wz,take_left->WD,filterMap_cons_some->Xa,flatMap_append->Xo,all_cons->Xt,mem_filterMap->Yj,countP_append->Yk
open Option.some renaming injEq->ov,inj->L9
open Bool renaming and_eq_true->sg,not_true->U8,not_eq_true'->Vg,false_eq_true->Vz,or_eq_true->VY,false_or->Wp,true_and->Ww
open Nat renaming beq->A3,eq_of_beq_eq_true->A6,le_refl->B5,le_of_ble_eq_true->Vi,lt_of_lt_of_le->Vn,zero_add->Vt,ble->VK,eq_or_lt_of_le->VO,add_zero->VR,add_assoc->VS,le_of_lt_succ->Wa,beq_refl->WP,add_comm->WU,blt->Xs,ne_of_lt->YY,sub_zero->YZ,blt_eq->Y7
open Option renaming bind_eq_some_iff->A8
open Prod.mk renaming injEq->B4
open Array renaming getElem?_eq_some_iff->Va,getD_eq_getD_getElem?->Vr,getElem?_toList->VV,replicate->WH,getElem?_setIfInBounds_ne->WJ,forIn_toList->Yf
open Int renaming le_refl->V1
open List.Pairwise renaming nil->Wh
open List.cons renaming injEq->Wk
open List.Sublist renaming refl->W9,append->Y3
open Sum.inr renaming injEq->Yy
set_option linter.unusedVariables false
set_option linter.unusedSimpArgs false
/-
 The least value of a map, by a loop over the map in whatever order.
-/
namespace Go.Vm
section
variable {P:Program}{N:Nat}
theorem Rm{a:Act}{d:Nat}{v:Value}(h:a.tmps.getD d undef=v)(hne:v≠undef):a.tmps[d]?=some v:=by
 rw[Vr]at h;cases hg:a.tmps[d]? with
 |none=>rw[hg]at h;exact absurd h.symm hne
 |some u=>rw[hg]at h;simp at h;rw[h]
theorem jP{a:Act}{d:Nat}{v:Value}(h:d<a.tmps.size):(a.put (some d) v).tmps.getD d undef=v:=by simp[Act.put,h]
theorem ae{a:Act}{d t:Nat}{v:Value}(h:d≠t):(a.put (some d) v).tmps.getD t undef=a.tmps.getD t undef:=by show(a.tmps.setIfInBounds d v).getD t undef=_;rw[Vr,Vr,WJ h]
theorem ff{a:Act}{d:Nat}{v:Value}:(a.put (some d) v).tmps.size=a.tmps.size:=by simp[Act.put]
structure MJ (N:Nat)(a0 a:Act):Prop where
 defers:a.defers=[]
 size:N<=a.tmps.size
 old:∀ t,t∉Jz->a.tmps.getD t undef=a0.tmps.getD t undef
theorem MJ.put{a0 a:Act}(h:MJ N a0 a){d:Nat}(hd:d∈Jz)(v:Value):MJ N a0 (a.put (some d) v):=
 ⟨h.defers,by rw[ff];exact h.size,λt ht=>(ae (a:=a) (v:=v) (d:=d) (t:=t) (λe=>ht (by rw[<- e];exact hd))).trans (h.old t ht)⟩
theorem fy {ops:Array Oper}{Q:Exit->Act->World->Prop}{i:Nat}{o:Oper}{v:Value}{a:Act}{w w':World}{rest:List Nat}(d:Nat)(ho:ops[i]?=some o)(hd:o.dst=some d)(hw:Region.wanted o (yielded ops a.tmps)=true)
  (h:(execOp a.eval o).run P w=.ok (.value v) w') (K:wpOps P ops Q rest (a.put (some d) v) w'):wpOps P ops Q (i::rest) a w:=by
 rw[<- hd]at K;rw[wpOps_cons];unfold wpOp;rw[ho];simp only;rw[if_pos hw];exact .inl (Does.value (R:=λu w2=>u=v/\w2=w') h ⟨rfl,rfl⟩ _ _ (λu w2 ⟨e1,e2⟩=>by subst e1 e2;exact K))
theorem IH {ops:Array Oper}{Q:Exit->Act->World->Prop}{i:Nat}{o:Oper}{a:Act}{w:World}{rest:List Nat}(d:Nat)(ho:ops[i]?=some o)(hd:o.dst=some d)(hw:Region.wanted o (yielded ops a.tmps)=false)
  (K:wpOps P ops Q rest (a.put (some d) undef) w):wpOps P ops Q (i::rest) a w:=by
 rw[<- hd]at K;rw[wpOps_cons];unfold wpOp;rw[ho];simp only;rw[if_neg (by rw[hw];exact Bool.false_ne_true)];exact K
structure MW (W:World)(I B clock:Nat)(sn:Array Nat)(w:World):Prop where
 os:w.os=W.os
 tape:w.tape=W.tape
 output:w.output=W.output
 size:W.heap.size<=w.heap.size
 old:∀ b,b<W.heap.size->w.heap[b]?=W.heap[b]?
 it:∃ c0,clock<=c0/\w.heap[I]?=some (.mapIter (some B) clock sn c0)
def Found(es:List MapEntry)(sn:Array Nat)(v:Int):Bool->Prop
 |false=>∀ x∈es,sn.contains x.born=false
 |true=>(∃ x∈es,x.val=.int .i64 v)/\∀ x∈es,sn.contains x.born=true->∃ n,x.val=.int .i64 n/\v<=n
section
variable {W:World}{I B clock:Nat}{es:Array MapEntry}{a0:Act}
theorem sm(a:Act)(t:Nat):a.eval (.tmp t)=a.tmps.getD t undef:=rfl
theorem jY{a0 a:Act}(h:MJ N a0 a){d:Nat}(hd:d∈Jz)(h64:64<=N):d<a.tmps.size:=by
 have:=h.size;have:d<64:=by revert d;decide
 omega
theorem MW.next {w:World}{sn:Array Nat}(h:MW W I B clock sn w)(hI:W.heap.size<=I)(hB:W.heap[B]?=some (.map es clock))(hst:Stp es.toList clock)(ty:TypeId) :
  ((∀ x∈es.toList,sn.contains x.born=true)/\(Instr.next (.pointer (some ⟨I,0,none⟩)) false ty).run P w=.ok (.tuple #[.bool false]) w) \/
  ∃ e∈es.toList,sn.contains e.born=false/\∃ w',(Instr.next (.pointer (some ⟨I,0,none⟩)) false ty).run P w=.ok (.tuple #[.bool true,e.key,e.val]) w'/\MW W I B clock (sn.push e.born) w' /\
   (Instr.entry (.pointer (some ⟨I,0,none⟩))).run P w'=.ok (.tuple #[e.key,e.val]) w'/\(leftOf es (sn.push e.born)).size<(leftOf es sn).size:=by
 obtain⟨c0,hc,hi⟩:=h.it;have hBl:B<W.heap.size:=(Va.1 hB).1;have hb:=(h.old B hBl).trans hB;rcases run_next_at (P:=P) w ty I B clock c0 sn es clock hi hb hst.2 hc with⟨h0,hrun⟩|⟨e,he,w1,hal,hrun⟩
 ·exact .inl ⟨all_seen es sn h0,hrun⟩
 obtain⟨hem,hes⟩:=mem_left he;have hI':I<w.heap.size:=(Va.1 hi).1;have hh:w1.heap=w.heap:=by rcases hal with rfl|rfl<;>rfl
 have e1:w1.os=w.os/\w1.tape=w.tape/\w1.output=w.output:=by rcases hal with rfl|rfl<;>exact⟨rfl,rfl,rfl⟩
 have hset:∀ o:Go.Obj,(Go.ChangeMaps.setBlock w1 I o).heap=w.heap.setIfInBounds I o:=λo=>by simp[Go.ChangeMaps.setBlock,hh]
 have hnd:(es.toList.map (·.born)).Nodup:=hst.1.imp (λh=>YY h);have hne:B≠I:=by omega
 refine .inr ⟨e,hem,hes,_,hrun,⟨e1.1.trans h.os,e1.2.1.trans h.tape,e1.2.2.trans h.output,?_,?_,clock,B5 _,?_⟩,?_,left_shrinks es sn e he⟩
 ·rw[hset];simpa using h.size
 ·intro b hbl;rw[hset,WJ (by omega)];exact h.old b hbl
 ·rw[hset];simp[hI']
 refine run_entry_at _ I B clock sn es clock e ?_ ?_ hem hnd
 ·rw[hset];simp[hI']
 rw[hset,WJ hne.symm];exact hb
theorem Found.step {sn:Array Nat}{v:Int}{f:Bool}{l:List MapEntry}(hnd:(l.map (·.born)).Nodup)(h:Found l sn v f){e:MapEntry}(he:e∈l){n:Int}(hn:e.val=.int .i64 n) :
  Found l (sn.push e.born) (if f=false\/n<v then n else v) true:=by
 have one:∀ x∈l,(sn.push e.born).contains x.born=true->sn.contains x.born=true\/x=e:=by
  intro x hx hc;rw[contains_push]at hc;rcases Bool.or_eq_true_iff.1 hc with hc|hc
  ·exact .inl hc
  exact .inr (born_inj hnd hx he (beq_iff_eq.1 hc))
 cases f with
 |false=>
  simp only[true_or,if_true];refine⟨⟨e,he,hn⟩,λx hx hc=>?_⟩;rcases one x hx hc with hc|rfl
  ·rw[h x hx]at hc;cases hc
  exact⟨n,hn,V1 _⟩
 |true=>
  obtain⟨h1,h2⟩:=h;simp only[Bool.true_eq_false,false_or];split
  ·rename_i hlt;refine⟨⟨e,he,hn⟩,λx hx hc=>?_⟩;rcases one x hx hc with hc|rfl
   ·obtain⟨k,k1,k2⟩:=h2 x hx hc;exact⟨k,k1,by omega⟩
   exact⟨n,hn,V1 _⟩
  rename_i hlt;refine⟨h1,λx hx hc=>?_⟩;rcases one x hx hc with hc|rfl
  ·exact h2 x hx hc
  exact⟨n,hn,by omega⟩
theorem cd{o:Oper}{f:Nat->Option Bool}(h:o.guard=none):Region.wanted o f=true:=by simp[Region.wanted,h]
section
variable {a:Act}{w:World}{o:Oper}
theorem C0{x:Operand}{v:Value}(ho:o.op=.move x)(h:a.eval x=v):(execOp a.eval o).run P w=.ok (.value v) w:=by simp[execOp,ho,h]
theorem Gc{x:Operand}{v:Value}(ho:o.op=.assign x)(h:a.eval x=v):(execOp a.eval o).run P w=.ok (.value v) w:=by simp[execOp,ho,h]
theorem Rb{c x y:Operand}{b:Bool}{v:Value}(ho:o.op=.pick c x y)(h:a.eval c=.bool b)(h2:(if b then a.eval x else a.eval y)=v):(execOp a.eval o).run P w=.ok (.value v) w:=by subst h2;cases b<;>simp[execOp,ho,h,asBool]
theorem Up{t:TypeId}{x:Operand}{b:Bool}(ho:o.op=.unOp .not t x)(h:a.eval x=.bool b):(execOp a.eval o).run P w=.ok (.value (.bool (!b))) w:=by simp[execOp,ho,h,Op.unary]
theorem De{x:Operand}{i:Nat}{vs:Array Value}{v:Value}(ho:o.op=.extract x i)(h:a.eval x=.tuple vs)(hv:vs[i]?=some v):(execOp a.eval o).run P w=.ok (.value v) w:=by simp[execOp,ho,h,Instr.extract,hv]
theorem SH{x:Operand}{u v:Value}(ho:o.op=.entry x)(h:a.eval x=u)(hr:(Instr.entry u).run P w=.ok v w):(execOp a.eval o).run P w=.ok (.value v) w:=by simp[execOp,ho,h,hr]
theorem Qp{x:Operand}{u v:Value}{w':World}{s:Bool}(ho:o.op=.next x s)(h:a.eval x=u)(hr:(Instr.next u s o.type).run P w=.ok v w'):(execOp a.eval o).run P w=.ok (.value v) w':=by simp[execOp,ho,h,hr]
theorem Sp{t:TypeId}{x:Operand}{u v:Value}{w':World}(ho:o.op=.range t x)(h:a.eval x=u)(hr:(Instr.range t u).run P w=.ok v w'):(execOp a.eval o).run P w=.ok (.value v) w':=by simp[execOp,ho,h,hr]
theorem T8{t yt:TypeId}{x y:Operand}{m n:Int}(ho:o.op=.binOp .lss t x y yt)(h:a.eval x=.int .i64 m)(h2:a.eval y=.int .i64 n):(execOp a.eval o).run P w=.ok (.value (.bool (decide (m<n)))) w:=by simp[execOp,ho,h,h2,eqGuard,binOp,Op.intCmp]
end
theorem Tl{ops:Array Oper}{l:List Oper}(h:ops.toList=l):ops=l.toArray:=by apply Array.ext';simpa using h
structure MRd (P:Program)(N I:Nat)(es:Array MapEntry)(a0:Act)(sn:Array Nat)(v:Int)(f:Bool)(a:Act):Prop where
 mj:MJ N a0 a
 it:a.tmps.getD 51 undef=.pointer (some ⟨I,0,none⟩)
 hv:a.tmps.getD 13 undef=.int .i64 v
 hf:a.tmps.getD 14 undef=.bool f
 fd:Found es.toList sn v f
theorem tY{id:Nat}{ops:Array Oper}{l:List Oper}(h:ops.toList=l){Q:Exit->Act->World->Prop}{a:Act}{w:World}(hw:wpOps P l.toArray Q (L7 l.length) a w):(Code.region id ops false).wp P Q a w:=by rw[Tl h];refine wp_region ?_;simpa using hw
theorem l14{C:Ctx}(hM:BZ P C){l:List Oper}(h:c14 C l=true):∃ t p1 q1 r1 p2 q2 r2 k e,l=[⟨some 50,.move (.tmp 11),p1,q1,r1,none⟩,⟨some 51,.range t (.tmp 50),p2,q2,r2,none⟩]/\P.underlying t=some (.map k e):=by
 unfold c14 at h;split at h
 ·unfold Qf at h;split at h
  ·rename_i hp;obtain⟨kt,vt,hT⟩:=hM _ _ _ hp;exact⟨_,_,_,_,_,_,_,_,_,rfl,hT.und⟩
  cases h
 cases h
theorem l15{l:List Oper}(h:c15 l=true):∃ p1 q1 r1 p2 q2 r2,l=[⟨some 52,.next (.tmp 51) false,p1,q1,r1,none⟩,⟨some 53,.extract (.tmp 52) 0,p2,q2,r2,none⟩]:=by
 unfold c15 at h;split at h
 ·exact⟨_,_,_,_,_,_,rfl⟩
 cases h
theorem l16{l:List Oper}(h:c16 l=true):∃ p1 q1 r1 p2 q2 r2 p3 q3 r3,l=[⟨some 54,.entry (.tmp 51),p1,q1,r1,none⟩,⟨some 55,.extract (.tmp 54) 1,p2,q2,r2,none⟩,⟨some 16,.assign (.tmp 55),p3,q3,r3,none⟩]:=by
 unfold c16 at h;split at h
 ·exact⟨_,_,_,_,_,_,_,_,_,rfl⟩
 cases h
theorem l17 {l:List Oper}(h:c17 l=true):∃ t u yt p1 q1 r1 p2 q2 r2 p3 q3 r3 p4 q4 r4 p5 q5 r5 p6 q6 r6 p7 q7 r7,l=[⟨some 56,.move (.tmp 14),p1,q1,r1,none⟩,⟨some 57,.unOp .not u (.tmp 56),p2,q2,r2,none⟩,⟨some 58,.move (.tmp 57),p3,q3,r3,none⟩,
   ⟨some 59,.move (.tmp 16),p4,q4,r4,some (2,false)⟩,⟨some 60,.move (.tmp 13),p5,q5,r5,some (2,false)⟩,⟨some 61,.binOp .lss t (.tmp 59) (.tmp 60) yt,p6,q6,r6,some (2,false)⟩,
   ⟨some 62,.pick (.tmp 58) (.const (.bool true)) (.tmp 61),p7,q7,r7,none⟩]:=by
 unfold c17 at h;split at h
 ·exact⟨_,_,_,_,_,_,_,_,_,_,_,_,_,_,_,_,_,_,_,_,_,_,_,_,rfl⟩
 cases h
theorem l18{l:List Oper}(h:c18 l=true):∃ p1 q1 r1 p2 q2 r2 p3 q3 r3,l=[⟨some 63,.move (.tmp 16),p1,q1,r1,none⟩,⟨some 13,.assign (.tmp 63),p2,q2,r2,none⟩,⟨some 14,.assign (.const (.bool true)),p3,q3,r3,none⟩]:=by
 unfold c18 at h;split at h
 ·exact⟨_,_,_,_,_,_,_,_,_,rfl⟩
 cases h
theorem Qo {o16 o17 o18:Array Oper}{r16 r17 r18 k3:Nat}(h16:c16 o16.toList=true)(h17:c17 o17.toList=true)(h18:c18 o18.toList=true)(h64:64<=N){Q:Exit->Act->World->Prop}{a:Act}{w:World}{sn:Array Nat}{v:Int}{f:Bool}
  (hnd:(es.toList.map (·.born)).Nodup) {e:MapEntry} (he:e∈es.toList) {n:Int} (hn:e.val=.int .i64 n) (hr:MRd P N I es a0 sn v f a) (hent:(Instr.entry (.pointer (some ⟨I,0,none⟩))).run P w=.ok (.tuple #[e.key,e.val]) w)
  (hQ:∀ a' v',MRd P N I es a0 (sn.push e.born) v' true a'->Q .normal a' w) :
  (Code.block k3 (.seq (.region r16 o16 false) (.seq (.region r17 o17 false) (.cond (.tmp 62) (.region r18 o18 false) .skip)))).wp P Q a w:=by
 obtain⟨p1,q1,s1,p2,q2,s2,p3,q3,s3,e16⟩:=l16 h16;obtain⟨t,u,yt,g1,g2,g3,g4,g5,g6,g7,g8,g9,g10,g11,g12,g13,g14,g15,g16,g17,g18,g19,g20,g21,e17⟩:=l17 h17;obtain⟨y1,y2,y3,y4,y5,y6,y7,y8,y9,e18⟩:=l18 h18;have m:=hr.mj;have sz:∀ d,d∈Jz->d<a.tmps.size:=λd hd=>jY m hd h64;have z52:=sz 52 (by decide);have z53:=sz 53 (by decide);have z54:=sz 54 (by decide);have z55:=sz 55 (by decide);have z16:=sz 16 (by decide)
 have z56:=sz 56 (by decide);have z57:=sz 57 (by decide);have z58:=sz 58 (by decide);have z59:=sz 59 (by decide);have z60:=sz 60 (by decide);have z61:=sz 61 (by decide);have z62:=sz 62 (by decide);have z63:=sz 63 (by decide)
 have z13:=sz 13 (by decide);have z14:=sz 14 (by decide)
 refine wp_block (wp_seq (tY e16 ?_));change wpOps P _ _ [0,1,2] a w;refine fy (w':=w) 54 rfl rfl (cd rfl) (v:=.tuple #[e.key,e.val]) (SH rfl hr.it hent) ?_;refine fy (w':=w) 55 rfl rfl (cd rfl) (v:=e.val) (De rfl (jP z54) rfl) ?_;refine fy (w':=w) 16 rfl rfl (cd rfl) (v:=e.val) (Gc rfl (jP (by rw[ff];exact z55))) ?_;show Code.wp P _ _ (((a.put (some 54) (.tuple #[e.key,e.val])).put (some 55) e.val).put (some 16) e.val) w;generalize ha1:((a.put (some 54) (.tuple #[e.key,e.val])).put (some 55) e.val).put (some 16) e.val=a1;have m1:MJ N a0 a1:=by rw[<- ha1];exact((m.put (by decide) _).put (by decide) _).put (by decide) _
 have x1:a1.tmps.getD 16 undef=.int .i64 n:=by rw[<- ha1,jP (by simp only[ff];exact z16),hn]
 have i1:a1.tmps.getD 51 undef=.pointer (some ⟨I,0,none⟩):=by rw[<- ha1,ae (by decide),ae (by decide),ae (by decide)];exact hr.it
 have v1:a1.tmps.getD 13 undef=.int .i64 v:=by rw[<- ha1,ae (by decide),ae (by decide),ae (by decide)];exact hr.hv
 have f1:a1.tmps.getD 14 undef=.bool f:=by rw[<- ha1,ae (by decide),ae (by decide),ae (by decide)];exact hr.hf
 show Code.wp P _ _ a1 w;have sz1:∀ d,d∈Jz->d<a1.tmps.size:=λd hd=>jY m1 hd h64;refine wp_seq (tY e17 ?_);change wpOps P _ _ [0,1,2,3,4,5,6] a1 w;refine fy (w':=w) 56 rfl rfl (cd rfl) (v:=.bool f) (C0 rfl f1) ?_;refine fy (w':=w) 57 rfl rfl (cd rfl) (v:=.bool (!f)) (Up rfl (jP (sz1 56 (by decide)))) ?_;refine fy (w':=w) 58 rfl rfl (cd rfl) (v:=.bool (!f)) (C0 rfl (jP (by rw[ff];exact sz1 57 (by decide)))) ?_;generalize ha2:((a1.put (some 56) (.bool f)).put (some 57) (.bool (!f))).put (some 58) (.bool (!f))=a2;have m2:MJ N a0 a2:=by rw[<- ha2];exact((m1.put (by decide) _).put (by decide) _).put (by decide) _
 have sz2:∀ d,d∈Jz->d<a2.tmps.size:=λd hd=>jY m2 hd h64;have x2:a2.tmps.getD 16 undef=.int .i64 n:=by rw[<- ha2,ae (by decide),ae (by decide),ae (by decide)];exact x1
 have i2:a2.tmps.getD 51 undef=.pointer (some ⟨I,0,none⟩):=by rw[<- ha2,ae (by decide),ae (by decide),ae (by decide)];exact i1
 have v2:a2.tmps.getD 13 undef=.int .i64 v:=by rw[<- ha2,ae (by decide),ae (by decide),ae (by decide)];exact v1
 have f2:a2.tmps.getD 14 undef=.bool f:=by rw[<- ha2,ae (by decide),ae (by decide),ae (by decide)];exact f1
 have b2:a2.tmps.getD 58 undef=.bool (!f):=by rw[<- ha2,jP (by simp only[ff];exact sz1 58 (by decide))]
 change wpOps P _ _ [3,4,5,6] a2 w
 -- the comparison
 have fin:∀(c:Bool) (a3:Act),MJ N a0 a3->a3.tmps.getD 16 undef=.int .i64 n->a3.tmps.getD 51 undef=.pointer (some ⟨I,0,none⟩)->a3.tmps.getD 13 undef=.int .i64 v->a3.tmps.getD 14 undef=.bool f->a3.tmps.getD 62 undef=.bool c ->
   c=decide (f=false\/n<v)->(Code.cond (.tmp 62) (.region r18 o18 false) .skip).wp P (Exit.inBlock k3 Q) a3 w:=by
  intro c a3 m3 x3 i3 v3 f3 c3 hc;have hfd:=hr.fd.step hnd he hn;refine wp_cond (t:=c) c3 ?_;have sz3:∀ d,d∈Jz->d<a3.tmps.size:=λd hd=>jY m3 hd h64;cases c with
  |false=>
   have hno:¬(f=false\/n<v):=of_decide_eq_false hc.symm;rw[if_neg hno]at hfd;have ft:f=true:=by cases f with|false=>exact absurd (.inl rfl) hno|true=>rfl
   refine wp_skip ?_;exact hQ a3 v ⟨m3,i3,v3,by rw[f3,ft],hfd⟩
  |true=>
   have hyes:f=false\/n<v:=of_decide_eq_true hc.symm;rw[if_pos hyes]at hfd;refine tY e18 ?_;change wpOps P _ _ [0,1,2] a3 w;refine fy (w':=w) 63 rfl rfl (cd rfl) (v:=.int .i64 n) (C0 rfl x3) ?_;refine fy (w':=w) 13 rfl rfl (cd rfl) (v:=.int .i64 n) (Gc rfl (jP (sz3 63 (by decide)))) ?_;refine fy (w':=w) 14 rfl rfl (cd rfl) (v:=.bool true) (Gc rfl rfl) ?_;refine hQ _ n ⟨((m3.put (by decide) _).put (by decide) _).put (by decide) _,?_,?_,?_,hfd⟩
   ·rw[ae (by decide),ae (by decide),ae (by decide)];exact i3
   ·rw[ae (by decide),jP (by rw[ff];exact sz3 13 (by decide))]
   rw[jP (by simp only[ff];exact sz3 14 (by decide))]
 have want:∀{a:Act} {o:Oper} {ops:Array Oper},a.tmps.getD 58 undef=.bool (!f)->(ops[2]?).bind (·.dst)=some 58->o.guard=some (2,false)->Region.wanted o (yielded ops a.tmps)=f:=by intro a o ops h1 h2 h3;have h4:a.tmps[58]?=some (.bool (!f)):=Rm h1 (by simp[undef]);unfold Region.wanted yielded;simp[h2,h3,h4]
 cases f with
 |false=>
  refine IH 59 rfl rfl (want b2 rfl rfl) ?_;refine IH 60 rfl rfl (want (by rw[ae (by decide)];exact b2) rfl rfl) ?_;refine IH 61 rfl rfl (want (by rw[ae (by decide),ae (by decide)];exact b2) rfl rfl) ?_;refine fy (w':=w) 62 rfl rfl (cd rfl) (v:=.bool true) (Rb rfl (b:=true) (by rw[sm,ae (by decide),ae (by decide),ae (by decide)];exact b2) rfl) ?_;refine fin true _ ((((m2.put (by decide) _).put (by decide) _).put (by decide) _).put (by decide) _) ?_ ?_ ?_ ?_ ?_ (by simp)
  ·rw[ae (by decide),ae (by decide),ae (by decide),ae (by decide)];exact x2
  ·rw[ae (by decide),ae (by decide),ae (by decide),ae (by decide)];exact i2
  ·rw[ae (by decide),ae (by decide),ae (by decide),ae (by decide)];exact v2
  ·rw[ae (by decide),ae (by decide),ae (by decide),ae (by decide)];exact f2
  rw[jP (by simp only[ff];exact sz2 62 (by decide))]
 |true=>
  refine fy (w':=w) 59 rfl rfl (want b2 rfl rfl) (v:=.int .i64 n) (C0 rfl x2) ?_;refine fy (w':=w) 60 rfl rfl (want (by rw[ae (by decide)];exact b2) rfl rfl) (v:=.int .i64 v) (C0 rfl (by rw[sm,ae (by decide)];exact v2)) ?_;refine fy (w':=w) 61 rfl rfl (want (by rw[ae (by decide),ae (by decide)];exact b2) rfl rfl) (v:=.bool (decide (n<v))) (T8 rfl (by rw[sm,ae (by decide),jP (sz2 59 (by decide))]) (by rw[sm,jP (by rw[ff];exact sz2 60 (by decide))])) ?_;refine fy (w':=w) 62 rfl rfl (cd rfl) (v:=.bool (decide (n<v))) (Rb rfl (b:=false) (by rw[sm,ae (by decide),ae (by decide),ae (by decide)];exact b2) (by simp only[Vz,if_false];rw[sm,jP (by simp only[ff];exact sz2 61 (by decide))])) ?_;refine fin (decide (n<v)) _ ((((m2.put (by decide) _).put (by decide) _).put (by decide) _).put (by decide) _) ?_ ?_ ?_ ?_ ?_ (by simp)
  ·rw[ae (by decide),ae (by decide),ae (by decide),ae (by decide)];exact x2
  ·rw[ae (by decide),ae (by decide),ae (by decide),ae (by decide)];exact i2
  ·rw[ae (by decide),ae (by decide),ae (by decide),ae (by decide)];exact v2
  ·rw[ae (by decide),ae (by decide),ae (by decide),ae (by decide)];exact f2
  rw[jP (by simp only[ff];exact sz2 62 (by decide))]
theorem D3{w:World}{F:Nat->Prop}:∀{l:List (Int×Int)} {r:List MapEntry},EntsW w F (.int .i64) (.int .i64) r l->(wY l=none->r=[])/\∀{n:Int},wY l=some n->(∃ x∈r,x.val=.int .i64 n)/\∀ x∈r,∃ m,x.val=.int .i64 m/\n<=m
 |[],[],_=>⟨λ_=>rfl,λh=>by cases h⟩
 |[],_::_,h=>by have:=h.1;simp at this
 |_::_,[],h=>by have:=h.1;simp at this
 |p::l,e::r,h=>by
  obtain⟨_,⟨cs,k1,k2⟩,k3⟩:=h.cons;obtain⟨i1,i2⟩:=D3 k3;have hv:e.val=.int .i64 p.2:=by obtain⟨rfl,_⟩:=k2;exact k1
  cases hl:wY l with
  |none=>
   have hr:=i1 hl;subst hr;refine⟨λh=>by simp[wY,hl]at h,fun {n} h=>?_⟩;simp only[wY,hl,ov]at h;subst h;refine⟨⟨e,VF ..,hv⟩,λx hx=>?_⟩;rcases A9.1 hx with rfl|hx
   ·exact⟨_,hv,V1 _⟩
   cases hx
  |some m=>
   obtain⟨⟨x,hx,hxv⟩,hall⟩:=i2 hl;refine⟨λh=>by simp[wY,hl]at h,fun {n} h=>?_⟩;simp only[wY,hl,ov]at h;subst h;by_cases hle:p.2<=m
   ·rw[decide_eq_true hle,U3];refine⟨⟨e,VF ..,hv⟩,λy hy=>?_⟩;rcases A9.1 hy with rfl|hy
    ·exact⟨_,hv,V1 _⟩
    obtain⟨q,q1,q2⟩:=hall y hy;exact⟨q,q1,by omega⟩
   rw[decide_eq_false hle,U4];refine⟨⟨x,Vk _ hx,hxv⟩,λy hy=>?_⟩;rcases A9.1 hy with rfl|hy
   ·exact⟨_,hv,by omega⟩
   exact hall y hy
theorem GF:∀(l:List Nat) (e:Env) (t:Nat),(FJ l e).get t=if t∈l then .av .u else e.get t
 |[],e,t=>by simp[FJ]
 |d::l,e,t=>by
  unfold FJ;rw[Env.get_cons,GF l e t];by_cases h:d=t
  ·subst h;simp
  rw[if_neg h];simp[Ne.symm h]
theorem Inv.more {C:Ctx}{w0:World}{M:Own}{m:Mem}(hi:Inv C w0 M m){w':World}(h1:w'.os=m.w.os)(h2:w'.tape=m.w.tape)(h3:w'.output=m.w.output)(h4:m.w.heap.size<=w'.heap.size)(h5:∀ b,b < m.w.heap.size->w'.heap[b]?=m.w.heap[b]?) :
  Inv C w0 M ⟨w',m.F,m.ι,m.G⟩/\Evo m ⟨w',m.F,m.ι,m.G⟩:=by
 have he:Evo m ⟨w',m.F,m.ι,m.G⟩:=⟨λb hb=>⟨hb,h5 b (hi.fro b hb)⟩,λid o ho=>⟨o,ho,.inr (Goon.refl _ o)⟩⟩;refine⟨⟨⟨h1.trans hi.kept.os,h2.trans hi.kept.tape,h3.trans hi.kept.output,Nat.le_trans hi.kept.size h4,λb hb hM=>(h5 b (Vn hb hi.kept.size)).trans (hi.kept.block b hb hM)⟩,?_,?_,hi.inj,λb hb=>Vn (hi.fro b hb) h4,λg τ x hg=>(hi.glob g τ x hg).mono he.fro,hi.bnd,dB he hi.pin⟩,he⟩
 ·intro id o ho;by_cases hob:isObj o=true
  ·exact eh he rfl (λb hb=>h5 b (hi.own id o b ho hob hb).2.2) (hi.objs id o ho)
  cases o<;>simp_all[isObj,jc]
 intro id o b ho hob hb;obtain⟨k1,k2,k3⟩:=hi.own id o b ho hob hb;exact⟨k1,k2,Vn k3 h4⟩
theorem Qc{w:World}{F:Nat->Prop}{l:List (Int×Int)}{r:List MapEntry}(h:EntsW w F (.int .i64) (.int .i64) r l){x:MapEntry}(hx:x∈r){n:Int}(hn:x.val=.int .i64 n):IntKind.i64.min<=n/\n<=IntKind.i64.max:=by obtain⟨i,hi,rfl⟩:=List.mem_iff_getElem.1 hx;obtain⟨_,cs,k1,rfl,k3⟩:=h.2 i hi (by rw[<- h.1];exact hi);rw[hn]at k1;have k1:n=_:=(Value.int.inj k1).2;rw[k1];exact k3
theorem Tv {C:Ctx}{w0:World}{M:Own}{x y:Code}{s s':St}{a:Act}{m:Mem}{Q:Exit->Act->World->Prop}(hM:BZ P C)(h64:64<=N)(h:Gz C x y s=some s')(hs:Sim C w0 M N a m s.env)(hG:m.G=s.G)
  (hQ:∀ a' m',m'.G=s'.G->Sim C w0 M N a' m' s'.env->Q .normal a' m'.w):(Code.seq x y).wp P Q a m.w:=by
 unfold Gz at h;cases hchk:Bm C x y with
 |false=>rw[hchk]at h;cases h
 |true=>
  rw[hchk]at h;simp only[U3]at h;split at h
  ·rename_i id v0 hb hv0 hf0;split at h
   ·rename_i k v l hg;obtain⟨l',hl,h⟩:=A8.1 h;obtain⟨e1,e2,hl⟩:=pF hl;subst e1;subst e2
    simp only at hl;subst hl;split at h
    ·rename_i n hn;cases h;have h11:=hs.env 11;rw[hb]at h11;obtain⟨B,ents,clock,q2,_,r3,r4,r5⟩:=Cf hs.inv (by intro e;cases e) (hG▸hg) h11;obtain⟨⟨xm,hxm,hxv⟩,hall⟩:=(D3 r4).2 hn;unfold Bm at hchk;split at hchk
     ·rename_i rr o14 k r15 o15 k' k3 r16 o16 r17 o17 r18 o18;simp only[sg]at hchk;obtain⟨hk,h14,h15,h16,h17,h18⟩:=hchk;have hk:=A6 hk;subst hk;obtain⟨t,p1,z1,s1,p2,z2,s2,kt,et,e14,hu⟩:=l14 hM h14;obtain⟨y1,y2,y3,y4,y5,y6,e15⟩:=l15 h15;obtain⟨w,hwd⟩:∃ w,w=m.w:=⟨_,rfl⟩;have hlt:B<w.heap.size:=by rw[hwd];exact(Va.1 r3).1
      rw[<- hwd]at r3 ⊢;have m0:MJ N a a:=⟨hs.defers,hs.size,λ_ _=>rfl⟩;refine wp_seq (tY e14 ?_);change wpOps P _ _ [0,1] a w;refine fy (w':=w) 50 rfl rfl (cd rfl) (v:=.map (some B)) (C0 rfl q2) ?_;refine fy (w':=w.alloc (.mapIter (some B) clock #[] clock)) 51 rfl rfl (cd rfl) (v:=.pointer (some ⟨w.heap.size,0,none⟩)) (Sp rfl (jP (jY m0 (by decide) h64)) (run_range_map w t kt et B ents clock hu r3)) ?_;have mw0:MW w w.heap.size B clock #[] (w.alloc (.mapIter (some B) clock #[] clock)):=by refine⟨rfl,rfl,rfl,?_,λb hb=>heap_alloc_old w _ hb,clock,B5 _,heap_alloc_new w _⟩;show w.heap.size<=(w.heap.push _).size;simp
      have key:∀(q:Nat) {a1:Act} {w1:World} {sn:Array Nat} {v:Int} {f:Bool},(leftOf ents sn).size < q->MRd P N w.heap.size ents a sn v f a1->MW w w.heap.size B clock sn w1 ->
        Code.rounds P (.seq (.region r15 o15 false) (.seq (.cond (.tmp 53) .skip (.exit k)) (.block k3 (.seq (.region r16 o16 false) (.seq (.region r17 o17 false) (.cond (.tmp 62) (.region r18 o18 false) .skip)))))) (Exit.inBlock k Q) q a1 w1:=by
       intro q;induction q with
       |zero=>intro a1 w1 sn v f hlt;omega
       |succ q ih=>
        intro a1 w1 sn v f hlt hr hmw;show Code.wp P _ (Exit.then (Code.rounds P _ (Exit.inBlock k Q) q) (Exit.inBlock k Q)) a1 w1;refine wp_seq (tY e15 ?_);change wpOps P _ _ [0,1] a1 w1;have z52:=jY hr.mj (d:=52) (by decide) h64;have z53:=jY hr.mj (d:=53) (by decide) h64;rcases hmw.next (P:=P) (B5 _) r3 r5 y1 with⟨hall',hrun⟩|⟨en,hen,hun,w2,hrun,hmw2,hent,hless⟩
        ·-- it is Al
         refine fy (w':=w1) 52 rfl rfl (cd rfl) (v:=.tuple #[.bool false]) (Qp rfl hr.it hrun) ?_;refine fy (w':=w1) 53 rfl rfl (cd rfl) (v:=.bool false) (De rfl (jP z52) rfl) ?_;refine wp_seq (wp_cond (t:=false) (by rw[sm,jP (by rw[ff];exact z53)]) (wp_exit ?_));show(if k=k then Q .normal _ w1 else _);rw[if_pos rfl];have hf:f=true/\v=n:=by
          have hfd:=hr.fd;cases f with
          |false=>have h1:=hfd xm hxm;have h2:=hall' xm hxm;rw[h1]at h2;cases h2
          |true=>
           obtain⟨⟨x0,k1,k2⟩,k3⟩:=hfd;refine⟨rfl,?_⟩;obtain⟨m1,j1,j2⟩:=hall x0 k1;obtain⟨m2,j3,j4⟩:=k3 xm hxm (hall' xm hxm);rw[k2]at j1;rw[hxv]at j3
           cases j1;cases j3
           omega
         have hfin:=((hr.mj.put (d:=52) (by decide) (.tuple #[.bool false])).put (d:=53) (by decide) (.bool false));have hmore:=hs.inv.more (w':=w1) (by rw[<- hwd];exact hmw.os) (by rw[<- hwd];exact hmw.tape) (by rw[<- hwd];exact hmw.output) (by rw[<- hwd];exact hmw.size) (by rw[<- hwd];exact hmw.old);refine hQ _ ⟨w1,m.F,m.ι,m.G⟩ hG ⟨hmore.1,hfin.defers,hfin.size,λt=>?_⟩;rw[Env.get_cons,Env.get_cons,GF];split
         ·rename_i e;subst e
          rw[ae (by decide),ae (by decide),hr.hv,hf.2];refine⟨[.int .i64 n],rfl,rfl,?_⟩;have hrd:=hall xm hxm;exact Qc r4 hxm hxv
         split
         ·rename_i e;subst e
          rw[ae (by decide),ae (by decide),hr.hf,hf.1];exact⟨[.bool true],rfl,rfl⟩
         split
         ·trivial
         rename_i h13 h14' hno;rw[hfin.old t (by unfold Jz;simp[hno,Ne.symm h13,Ne.symm h14'])];exact qG hmore.2 (hs.env t)
        -- one more
        obtain⟨nv,hnv,_⟩:=hall en hen;refine fy (w':=w2) 52 rfl rfl (cd rfl) (v:=.tuple #[.bool true,en.key,en.val]) (Qp rfl hr.it hrun) ?_;refine fy (w':=w2) 53 rfl rfl (cd rfl) (v:=.bool true) (De rfl (jP z52) rfl) ?_;refine wp_seq (wp_cond (t:=true) (by rw[sm,jP (by rw[ff];exact z53)]) (wp_skip ?_));refine Qo (P:=P) (N:=N) (I:=w.heap.size) (es:=ents) (a0:=a) (sn:=sn) (v:=v) (f:=f) h16 h17 h18 h64 (r5.1.imp (λh=>YY h)) hen hnv ⟨(hr.mj.put (by decide) _).put (by decide) _,?_,?_,?_,hr.fd⟩ hent λa' v' hr'=>?_
        ·rw[ae (by decide),ae (by decide)];exact hr.it
        ·rw[ae (by decide),ae (by decide)];exact hr.hv
        ·rw[ae (by decide),ae (by decide)];exact hr.hf
        exact ih (by omega) hr' hmw2
      refine wp_block (wp_loop_rounds _ (key ((leftOf ents #[]).size+1) (v:=v0) (f:=false) (Nat.lt_succ_self _) ⟨(m0.put (d:=50) (by decide) _).put (d:=51) (by decide) _,?_,?_,?_,?_⟩ mw0))
      ·rw[jP (by rw[ff];exact jY m0 (by decide) h64)]
      ·rw[ae (by decide),ae (by decide)];have h:=hs.env 13;rw[hv0]at h;exact(gM h).1
      ·rw[ae (by decide),ae (by decide)];have h:=hs.env 14;rw[hf0]at h;exact pk h
      intro x hx;simp
     cases hchk
    cases h
   cases h
  cases h
theorem EY{C:Ctx}{x y:Code}{s s':St}(h:Gz C x y s=some s'):Bm C x y=true/\s'.G=s.G:=by
 unfold Gz at h;cases hchk:Bm C x y with
 |false=>rw[hchk]at h;cases h
 |true=>
  rw[hchk]at h;simp only[U3]at h;refine⟨rfl,?_⟩;split at h
  ·split at h
   ·obtain⟨l',_,h⟩:=A8.1 h;split at h
    ·cases h;rfl
    cases h
   cases h
  cases h
end
end
end Go.Vm

/-
 A body of code.
-/
namespace Go.Vm
def aX:Code->List Code
 |.seq a b=>aX a++aX b
 |.cond _ a b=>aX a++aX b
 |.block _ c=>aX c
 |.loop c=>c::aX c
 |_=>[]
def vV(N:Nat)(ops:List Oper):Bool:=ops.all λo=>match o.dst with|some d=>Xs d N|none=>true
def kI(N:Nat):Code->Bool
 |.region _ ops _=>vV N ops.toList
 |.seq a b=>kI N a&&kI N b
 |.cond _ a b=>kI N a&&kI N b
 |.block _ c=>kI N c
 |.loop c=>kI N c
 |_=>true
def EE(C:Ctx)(A:Anns)(l:List Code):Prop:=∀ c∈l,∀ ann,A.get (ee c)=some ann->∀ x y,ann.fn x=some y->Rounds (round C A ann c) x y
def DM:Ex->Exit
 |.normal=>.normal
 |.exit i=>.exit i
 |.ret=>.ret
def Bo(P:Program):Prop:=∀(C:Ctx) (w0:World) (M:Own) (N:Nat) (a:Act) (m:Mem) (s:St) (R:Type) (res:R) (K:St->Option R) (id:Nat) (lt:Bool) (ops:Array Oper) (Q:Exit->Act->World->Prop),
 CtxOK P C->Sim C w0 M N a m s.env->m.G=s.G->vV N ops.toList=true->wx C lt ops.toList s K=some res ->
 (∀ s' a' m',K s'=some res->m'.G=s'.G->Sim C w0 M N a' m' s'.env->Q .normal a' m'.w)->(Code.region id ops true).wp P Q a m.w
section
variable {P:Program}{C:Ctx}{w0:World}{M:Own}{N:Nat}{A:Anns}
theorem RX{e e':Ex}(h:Ex.same e e'=true):e=e':=by
 unfold Ex.same at h;split at h
 ·rfl
 ·rw[A6 h]
 ·rfl
 simp at h
theorem vz:∀{l:List (Ex×Shape)} {e:Ex} {s:St} {y:yM l},v7 l e s=some y->∃(sh:Shape) (z:sh.ty.den),(∃ e',(e',sh)∈l)/\sh.ext s=some z/\∀{R:Type} (K:Ex->St->Option R),zL K l y=K e (sh.inj z)
 |[],_,_,_,h=>by simp[v7]at h
 |p::l,e,s,y,h=>by
  simp only[v7]at h;cases hs:Ex.same p.1 e with
  |true=>rw[hs]at h;simp only[U3]at h;obtain⟨z,hz,h⟩:=A8.1 h;simp only[ov]at h;subst h;exact⟨p.2,z,⟨p.1,by simp⟩,hz,λK=>by simp[zL,RX hs]⟩
  |false=>rw[hs]at h;simp only[U4]at h;obtain⟨z,hz,h⟩:=A8.1 h;simp only[ov]at h;subst h;obtain⟨sh,z',⟨e',h0⟩,h1,h2⟩:=vz hz;exact⟨sh,z',⟨e',by simp[h0]⟩,h1,λK=>by simp only[zL,Sum.elim_inr];exact h2 K⟩
theorem GN{ops:Array Oper}(h:vV N ops.toList=true):∀ o∈ops.toList,∀ d,o.dst=some d->d<N:=by intro o ho d hd;unfold vV at h;rw[U5]at h;have:=h o ho;rw[hd]at this;exact Vi this
def QN(M:Own)(A:Anns):Prop:=∀ key ann,A.get key=some ann->((∀ i v,M.pin i=some v->i∈ann.head.pins)/\M.base=none)/\∀ e sh,(e,sh)∈ann.exits->(∀ i v,M.pin i=some v->i∈sh.pins)/\M.base=none
def Dh(P:Program)(C:Ctx)(w0:World)(M:Own)(N:Nat)(L:Loops)(x:Code):Prop:=
 ∀{R:Type} {res:R} {K:Ex->St->Option R} {Q:Exit->Act->World->Prop} {s:St} {a:Act} {m:Mem},
  Sim C w0 M N a m s.env->m.G=s.G->L (ee x) R s K=some res ->
  (∀ e s' a' m',K e s'=some res->m'.G=s'.G->Sim C w0 M N a' m' s'.env->Q (DM e) a' m'.w)->(Code.loop x).wp P Q a m.w
theorem RU{x y:Code}(h:Bm C x y=true)(hd:kI N (.seq x y)=true):64<=N:=by
 unfold Bm at h;split at h
 ·simp only[sg]at h;obtain⟨_,_,_,_,_,h18⟩:=h;obtain⟨y1,y2,y3,y4,y5,y6,y7,y8,y9,e18⟩:=l18 h18;simp only[kI,sg,Bool.and_true,Ww]at hd;have hr:=hd.2.2.2.2;unfold vV at hr;rw[U5]at hr;have:=hr ⟨some 63,.move (.tmp 16),y1,y2,y3,none⟩ (by rw[e18];simp);exact Vi this
 cases h
theorem BU {L:Loops}(hC:CtxOK P C)(hD:Bo P):∀(c:Code),(∀ x∈aX c,Dh P C w0 M N L x)->kI N c=true->∀{R:Type} {res:R} {K:Ex->St->Option R} {Q:Exit->Act->World->Prop} {s:St} {a:Act} {m:Mem},
  Sim C w0 M N a m s.env->m.G=s.G->jQ C L c K s=some res ->
  (∀ e s' a' m',K e s'=some res->m'.G=s'.G->Sim C w0 M N a' m' s'.env->Q (DM e) a' m'.w)->c.wp P Q a m.w:=by
 intro c;induction c with
 |skip=>intro _ _ R res K Q s a m hs hG h hQ;exact wp_skip (hQ .normal s a m h hG hs)
 |region id ops d=>
  intro _ hd R res K Q s a m hs hG h hQ;simp only[jQ]at h;cases d with
  |false=>exact NO hC (hQ .normal) (GN hd) h hG hs
  |true=>
   simp only[U3]at h;have hf:∃ m',m'.w=m.w/\m'.G=(CZ C id s).G/\Sim C w0 M N a m' (CZ C id s).env:=by
    unfold CZ;cases C.frz.any λi=>A3 i id with
    |false=>exact⟨m,rfl,hG,hs⟩
    |true=>exact FQ _ hs hG
   obtain⟨m',e1,e2,e3⟩:=hf;rw[<- e1];exact hD C w0 M N a m' _ R res _ id _ ops Q hC e3 e2 hd h (hQ .normal)
 |seq x y ihx ihy=>
  intro hL hd R res K Q s a m hs hG h hQ;simp only[jQ]at h;split at h
  ·rename_i s1 hmin;cases hm:C.min with
   |false=>rw[hm]at hmin;cases hmin
   |true=>rw[hm]at hmin;exact Tv hC.maps (RU (EY hmin).1 hd) hmin hs hG λa' m' h1 h2=>hQ .normal s1 a' m' h h1 h2
  simp only[kI,sg]at hd;refine wp_seq (ihx (λc hc=>hL c (by simp[aX,hc])) hd.1 hs hG h ?_);intro e s' a' m' h1 h2 h3;cases e with
  |normal=>exact ihy (λc hc=>hL c (by simp[aX,hc])) hd.2 h3 h2 h1 hQ
  |exit i=>exact hQ (.exit i) s' a' m' h1 h2 h3
  |ret=>exact hQ .ret s' a' m' h1 h2 h3
 |cond x y z ihy ihz=>
  intro hL hd R res K Q s a m hs hG h hQ;simp only[kI,sg]at hd;simp only[jQ]at h;split at h
  ·rename_i b hb;have hv:=Fa hs.inv hs.env x;rw[hb]at hv;refine wp_cond (pk hv) ?_;cases b with
   |true=>exact ihy (λc hc=>hL c (by simp[aX,hc])) hd.1 hs hG h hQ
   |false=>exact ihz (λc hc=>hL c (by simp[aX,hc])) hd.2 hs hG h hQ
  simp at h
 |block id x ih=>
  intro hL hd R res K Q s a m hs hG h hQ;simp only[jQ]at h;refine wp_block (ih hL hd hs hG h ?_);intro e s' a' m' h1 h2 h3;cases e with
  |normal=>exact hQ .normal s' a' m' h1 h2 h3
  |exit i=>
   simp only[DM,Exit.inBlock];dsimp only at h1;cases hi:A3 i id with
   |true=>rw[hi]at h1;rw[if_pos (A6 hi)];exact hQ .normal s' a' m' h1 h2 h3
   |false=>rw[hi]at h1;rw[if_neg (Nat.ne_of_beq_eq_false hi)];exact hQ (.exit i) s' a' m' h1 h2 h3
  |ret=>exact hQ .ret s' a' m' h1 h2 h3
 |loop x ih=>intro hL hd R res K Q s a m hs hG h hQ;simp only[jQ]at h;exact hL x (by simp[aX]) hs hG h hQ
 |exit id=>intro _ _ R res K Q s a m hs hG h hQ;exact wp_exit (hQ (.exit id) s a m h hG hs)
 |ret=>intro _ _ R res K Q s a m hs hG h hQ;exact wp_ret (hQ .ret s a m h hG hs)
 |_=>intro _ _ R res K Q s a m hs hG h hQ;simp[jQ]at h
theorem JO (hPin:QN M A){x:Code}(hL:∀ ann,A.get (ee x)=some ann->∀ z y,ann.fn z=some y->Rounds (round C A ann x) z y)
  (ih:∀{R:Type} {res:R} {K:Ex->St->Option R} {Q:Exit->Act->World->Prop} {s:St} {a:Act} {m:Mem},Sim C w0 M N a m s.env->m.G=s.G->jQ C (zR A) x K s=some res ->
   (∀ e s' a' m',K e s'=some res->m'.G=s'.G->Sim C w0 M N a' m' s'.env->Q (DM e) a' m'.w)->x.wp P Q a m.w):Dh P C w0 M N (zR A) x:=by
 intro R res K Q s a m hs hG h hQ;simp only[zR]at h;split at h
 ·simp at h
 rename_i ann hann;split at h
 ·simp at h
 rename_i x0 hx0;obtain⟨y,hy,h⟩:=A8.1 h;have hr:=hL ann hann x0 y hy;obtain⟨pin1,pin2⟩:=hPin _ ann hann;obtain⟨m1,e1,e2,e3⟩:=Ey hs hG pin1 hx0;rw[<- e1];have key:∀{x0 y},Rounds (round C A ann x) x0 y->zL K ann.exits y=some res->∃ n,∀(a:Act) (m:Mem),m.G=(ann.head.inj x0).G->Sim C w0 M N a m (ann.head.inj x0).env->Code.rounds P x Q n a m.w:=by
  intro x0 y hr;induction hr with
  |last h1=>
   intro hg;refine⟨1,λa m hG hs=>?_⟩;show x.wp P (Exit.then (Code.rounds P x Q 0) Q) a m.w;refine ih hs hG h1 ?_;intro e s' a' m' k1 k2 k3;cases e with
   |normal=>obtain⟨z,_,k1⟩:=A8.1 k1;simp at k1
   |exit i=>obtain⟨z,hz,k1⟩:=A8.1 k1;simp only[ov,Yy]at k1;subst k1;obtain⟨sh,z',⟨e',f0⟩,f1,f2⟩:=vz hz;rw[f2]at hg;obtain⟨m2,g1,g2,g3⟩:=Ey k3 k2 (pin2 e' sh f0) f1;rw[<- g1];exact hQ (.exit i) _ a' m2 hg g2 g3
   |ret=>obtain⟨z,hz,k1⟩:=A8.1 k1;simp only[ov,Yy]at k1;subst k1;obtain⟨sh,z',⟨e',f0⟩,f1,f2⟩:=vz hz;rw[f2]at hg;obtain⟨m2,g1,g2,g3⟩:=Ey k3 k2 (pin2 e' sh f0) f1;rw[<- g1];exact hQ .ret _ a' m2 hg g2 g3
  |more h1 _ ih2=>
   intro hg;obtain⟨n,hn⟩:=ih2 hg;refine⟨n+1,λa m hG hs=>?_⟩;show x.wp P (Exit.then (Code.rounds P x Q n) Q) a m.w;refine ih hs hG h1 ?_;intro e s' a' m' k1 k2 k3;cases e with
   |normal=>obtain⟨z,hz,k1⟩:=A8.1 k1;simp only[ov,Sum.inl.injEq]at k1;subst k1;obtain⟨m2,g1,g2,g3⟩:=Ey k3 k2 pin1 hz;rw[<- g1];exact hn a' m2 g2 g3
   |exit i=>obtain⟨z,hz,k1⟩:=A8.1 k1;simp at k1
   |ret=>obtain⟨z,hz,k1⟩:=A8.1 k1;simp at k1
 obtain⟨n,hn⟩:=key hr h;exact wp_loop_rounds n (hn a m1 e2 e3)
theorem qP:∀{c x:Code},x∈aX c->(aX x).length<(aX c).length/\(∀ y∈aX x,y∈aX c)/\(kI N c=true->kI N x=true)
 |.seq a b,x,h=>by
  simp only[aX,B6]at h;rcases h with h|h<;>obtain⟨h1,h2,h3⟩:=qP h
  ·exact⟨by simp[aX];omega,λy hy=>by simp[aX,h2 y hy],λhd=>by simp only[kI,sg]at hd;exact h3 hd.1⟩
  exact⟨by simp[aX];omega,λy hy=>by simp[aX,h2 y hy],λhd=>by simp only[kI,sg]at hd;exact h3 hd.2⟩
 |.cond _ a b,x,h=>by
  simp only[aX,B6]at h;rcases h with h|h<;>obtain⟨h1,h2,h3⟩:=qP h
  ·exact⟨by simp[aX];omega,λy hy=>by simp[aX,h2 y hy],λhd=>by simp only[kI,sg]at hd;exact h3 hd.1⟩
  exact⟨by simp[aX];omega,λy hy=>by simp[aX,h2 y hy],λhd=>by simp only[kI,sg]at hd;exact h3 hd.2⟩
 |.block _ c,x,h=>qP (c:=c) h
 |.loop c,x,h=>by
  simp only[aX,A9]at h;rcases h with rfl|h
  ·exact⟨by simp[aX],λy hy=>by simp[aX,hy],λhd=>hd⟩
  obtain⟨h1,h2,h3⟩:=qP h;exact⟨by simp[aX];omega,λy hy=>by simp[aX,h2 y hy],λhd=>h3 hd⟩
 |.skip,_,h=>by cases h
 |.region _ _ _,_,h=>by cases h
 |.exit _,_,h=>by cases h
 |.ret,_,h=>by cases h
 |.scope _,_,h=>by cases h
 |.label _,_,h=>by cases h
 |.rangeFunc _ _ _ _,_,h=>by cases h
theorem SF (hC:CtxOK P C)(hD:Bo P)(hPin:QN M A)(c:Code)(hL:EE C A (aX c))(hd:kI N c=true){R:Type}{res:R}{K:Ex->St->Option R}{Q:Exit->Act->World->Prop}{s:St}{a:Act}{m:Mem}
  (hs:Sim C w0 M N a m s.env) (hG:m.G=s.G) (h:jQ C (zR A) c K s=some res)
  (hQ:∀ e s' a' m',K e s'=some res->m'.G=s'.G->Sim C w0 M N a' m' s'.env->Q (DM e) a' m'.w):c.wp P Q a m.w:=by
 obtain⟨n,hn⟩:∃ n,(aX c).length<=n:=⟨_,B5 _⟩;induction n generalizing c R res K Q s a m with
 |zero=>exact BU hC hD c (λx hx=>by have:=List.length_pos_of_mem hx;omega) hd hs hG h hQ
 |succ n ih=>refine BU hC hD c (λx hx=>?_) hd hs hG h hQ;obtain⟨h1,h2,h3⟩:=qP hx;exact JO hPin (hL x hx) λhs hG h hQ=>ih x (λy hy=>hL y (h2 y hy)) (h3 hd) hs hG h hQ (by omega)
end
end Go.Vm

/-
 A function's contract, from its body.
-/
namespace Go.Vm
section
variable {P:Program}{C:Ctx}{w0:World}{M:Own}{N:Nat}{A:Anns}{a:Act}{m:Mem}{s:St}
def TB(m:Mem)(s:St):(outs:BC)->List Value->(aG ((outs.map (·.2)).map (·.2))).den->Prop
 |[],[],_=>True
 |p::r,u::us,x=>(∃ sv,ry s p.1 p.2.2=some sv/\RelSV m u sv/\bD s.G p.2.2 sv=some x.1)/\TB m s r us x.2
 |_,_,_=>False
def RJ(P:Program)(v:ResultVar)(τ:Ty):Bool:=match v with
 |.cell _ t=>chk P τ none t
 |.tmp _=>true
def D0(P:Program)(outs:BC):Bool:=outs.all λp=>RJ P p.1 p.2.2
def Ek(a:Act):ResultVar->Sem Value
 |.tmp t=>pure (a.tmps.getD t undef)
 |.cell x t=>do loadVar t (<- asAddr (a.tmps.getD x undef))
theorem Fc (hs:Sim C w0 M N a m s.env)(hG:m.G=s.G){v:ResultVar}{τ : Ty}{sv:SV}(h:ry s v τ=some sv)(hk:RJ P v τ=true) :
  ∃ u,(Ek a v).run P m.w=.ok u m.w/\RelSV m u sv:=by
 cases v with
 |tmp t=>simp only[ry,ov]at h;subst h;exact⟨_,by simp[Ek],hs.env t⟩
 |cell x t=>
  simp only[ry]at h;have hx:=hs.env x;split at h
  ·rename_i id off hq;rw[hq]at hx;split at h
   ·rename_i l hl;split at h
    ·rename_i c hc;simp only[ov]at h;subst h;obtain⟨rfl,hle⟩:=ud hc;obtain⟨_,ob,hob,hv⟩:=(au (a:=.ptr id off) (by intros;simp)).1 hx;rw[hG,hl]at hob;simp only[ov]at hob;subst hob;obtain⟨b,h1,h2⟩:=hv;obtain⟨b',cc,el,q1,q2,q3,q4⟩:=hs.inv.objs id _ (hG▸hl);rw[h1]at q1;simp only[Value.pointer.injEq,ov,Addr.mk.injEq,and_true]at q1;subst q1;have hlen:=q4.length;rw[Array.length_toList]at hlen;rw[List.length_drop]at hle;have hsz:off+τ.size<=cc.size\/τ.size=0:=by omega
     have hrel:Rel2 (ak m) (seg cc off τ.size) ((l.drop off).take τ.size):=(q4.drop off).take τ.size;have hone:∀ u∈seg cc off τ.size,u.oneCell'=true:=λu hu=>q3 u (List.mem_of_mem_drop (List.mem_of_mem_take hu));have hrun:(loadVar t ⟨b,off,none⟩).run P m.w=.ok (toV τ (seg cc off τ.size)) m.w:=by
      rcases hsz with hsz|hsz
      ·exact kz (Gf hk) q2 hsz
      have ha:τ.isAgg=true:=by
       cases ha:τ.isAgg with
       |true=>rfl
       |false=>have:=nV ha;omega
      have hz:seg cc off τ.size=[]:=by unfold seg;rw[hsz];simp
      rw[hz];simp[loadVar,jb hk,ha,ca hk,hsz,loadCells,loadCellsFrom,toV]
     refine⟨toV τ (seg cc off τ.size),?_,uO hone hrel⟩;simp[Ek,h2,asAddr,hrun]
    simp at h
   simp at h
  simp at h
theorem Eg (hs:Sim C w0 M N a m s.env)(hG:m.G=s.G):∀{outs:BC} {x:(aG ((outs.map (·.2)).map (·.2))).den},results s outs=some x->D0 P outs=true ->
  ∃ us,((outs.map (·.1)).mapM (Ek a)).run P m.w=.ok us m.w/\TB m s outs us x
 |[],x,_,_=>⟨[],by simp,trivial⟩
 |p::r,x,h,hk=>by
  simp only[D0,Xt,sg]at hk;obtain⟨hk1,hk2⟩:=hk;unfold results at h;split at h
  ·rename_i sv hsv;split at h
   ·rename_i x1 hx1;split at h
    ·rename_i x2 hx2;have:=L9 h;subst this;obtain⟨u,h1,h2⟩:=Fc (P:=P) hs hG hsv hk1;obtain⟨us,h3,h4⟩:=Eg hs hG hx2 hk2;refine⟨u::us,?_,⟨sv,hsv,h2,hx1⟩,h4⟩;simp only[L3,List.mapM_cons,Sem.run_bind,h1,Result.andThen_ok,h3,Sem.run_pure]
    simp at h
   simp at h
  simp at h
theorem zd {d:Bool}(hi:Inv C w0 M m){τ : Ty}{us:List Value}{l rest rest':List Atom}{x : τ.den}(hr:Rel2 (ak m) us l)(hc:aE m.G τ l=some (x,rest))(hk:∀ l,df d τ l=(match l with | _ :: r=>(true,r) | []=>(false,[])))(hτ : (∃ k,τ=.int k)\/τ=.bool\/τ=.str)
  (ho:df d τ l=(true,rest')):∃ c us' lc,us=c.map aZ++us'/\l=lc++rest/\rest'=rest/\OwnRd m.w m.F d τ c x/\Rel2 (ak m) us' rest:=by
 rw[hk]at ho;cases l with
 |nil=>simp at ho
 |cons at' l=>
  cases us with
  |nil=>exact hr.elim
  |cons u us=>
   simp only[B4,true_and]at ho;subst ho;have key:∀{τ:Ty},τ.flat=true->∀ y:τ.den,aO m.G τ at'=some y->Rd m.w m.F τ [u] y:=λhf y hy=>(gI hi hy hr.1).flat hf _ _;cases τ with
   |int k=>
    simp only[aE]at hc;split at hc
    ·rename_i y hy;have hc:=L9 hc;simp only[B4]at hc;obtain⟨rfl,rfl⟩:=hc;exact⟨[u],us,[at'],by rw[cJ (key (τ:=.int k) rfl y hy)];rfl,rfl,rfl,key (τ:=.int k) rfl y hy,hr.2⟩
    simp at hc
   |bool=>
    simp only[aE]at hc;split at hc
    ·rename_i y hy;have hc:=L9 hc;simp only[B4]at hc;obtain⟨rfl,rfl⟩:=hc;exact⟨[u],us,[at'],by rw[cJ (key (τ:=.bool) rfl y hy)];rfl,rfl,rfl,key (τ:=.bool) rfl y hy,hr.2⟩
    simp at hc
   |str=>
    simp only[aE]at hc;split at hc
    ·rename_i y hy;have hc:=L9 hc;simp only[B4]at hc;obtain⟨rfl,rfl⟩:=hc;exact⟨[u],us,[at'],by rw[cJ (key (τ:=.str) rfl y hy)];rfl,rfl,rfl,key (τ:=.str) rfl y hy,hr.2⟩
    simp at hc
   |_=>simp at hτ
theorem DN {d:Bool}(hi:Inv C w0 M m):∀{τ : Ty} {us:List Value} {l rest rest':List Atom} {x : τ.den},Rel2 (ak m) us l->aE m.G τ l=some (x,rest)->df d τ l=(true,rest') ->
  ∃ c us' lc,us=c.map aZ++us'/\l=lc++rest/\rest'=rest/\OwnRd m.w m.F d τ c x/\Rel2 (ak m) us' rest /\
   (∀ b,jh (bK τ c) b->∃ id o,id∈lc.flatMap atomIds/\m.G.get id=some o/\isObj o=true/\HB (m.ι id) b) /\
   (aP (lc.flatMap atomIds)=true->kR (bK τ c))
 |.prod a b,us,l,rest,rest',x,hr,hc,ho=>by
  simp only[aE]at hc;split at hc
  ·rename_i x1 r1 h1;split at hc
   ·rename_i x2 r2 h2;have hc:=L9 hc;simp only[B4]at hc;obtain⟨rfl,rfl⟩:=hc;simp only[df,B4,sg]at ho;obtain⟨⟨o1,o2⟩,o3⟩:=ho;obtain⟨c1,us1,lc1,a1,a2,a3,a4,a5,a6,a7⟩:=DN hi (rest':=(df d a l).2) hr h1 (by rw[<- o1]);rw[a3]at o2 o3;obtain⟨c2,us2,lc2,b1,b2,b3,b4,b5,b6,b7⟩:=DN hi (rest':=(df d b r1).2) a5 h2 (by rw[<- o2]);subst a1;subst b1;subst a2;subst b2;have hh:bK (.prod a b) (c1++c2)=bK a c1++bK b c2:=by simp only[bK,<- a4.len,WD,List.drop_left]
    refine⟨c1++c2,us2,lc1++lc2,by simp,by simp,by rw[<- o3,b3],⟨c1,c2,rfl,a4,b4⟩,b5,?_,?_⟩
    ·rw[hh];rintro bl ⟨u,hu,hb⟩;rcases B6.1 hu with hu|hu
     ·obtain⟨id,o,k1,k2⟩:=a6 bl ⟨u,hu,hb⟩;exact⟨id,o,by simp only[Xo,B6];exact .inl k1,k2⟩
     obtain⟨id,o,k1,k2⟩:=b6 bl ⟨u,hu,hb⟩;exact⟨id,o,by simp only[Xo,B6];exact .inr k1,k2⟩
    rw[hh,Xo];intro hn;obtain⟨n1,n2,n3⟩:=bi hn;refine V7.2 ⟨a7 n1,b7 n2,?_⟩;intro u hu v hv bl hb hb';obtain⟨id,o,k1,k2,k3,k4⟩:=a6 bl ⟨u,hu,hb⟩;obtain⟨id',o',j1,j2,j3,j4⟩:=b6 bl ⟨v,hv,hb'⟩;have:=hi.inj id id' o o' bl k2 k3 j2 j3 k4 j4;subst this;exact n3 id k1 j1
   simp at hc
  simp at hc
 |.unit,us,l,rest,rest',x,hr,hc,ho=>by simp only[aE,ov,B4]at hc;simp only[df,B4,true_and]at ho;obtain⟨_,rfl⟩:=hc;subst ho;exact⟨[],us,[],rfl,rfl,rfl,rfl,hr,by rintro b ⟨u,hu,_⟩;simp[bK]at hu,λ_=>Wh⟩
 |.slice e,us,l,rest,rest',x,hr,hc,ho=>by
  cases l with
  |nil=>simp[aE]at hc
  |cons at' l=>
   cases us with
   |nil=>exact hr.elim
   |cons u us=>
    simp only[aE]at hc;split at hc
    ·rename_i y hy;have hc:=L9 hc;simp only[B4]at hc;obtain⟨rfl,rfl⟩:=hc;simp only[df,B4]at ho;obtain⟨o1,rfl⟩:=ho;cases hde:(d&&e.isSl)with
     |false=>
      rw[hde]at o1;have hk:(∃ d0,SV.av at'=.av (.nils d0))\/(∃ id,SV.av at'=.av (.own id))\/∃ id o n,SV.av at'=.av (.view id o n):=by cases at'<;>simp[pm]at o1 ⊢
      have hnv:∀ τ x,at'≠.val τ x:=by intro τ x e;subst e;simp[pm]at o1
      have hsv:bD m.G (.slice e) (.av at')=some y:=by cases at'<;>simp[pm]at o1<;>exact hy
      obtain⟨g1,g2,g3⟩:=Cd hi hsv ((au hnv).2 hr.1) hk;have g1:HdrW m.w m.F u e y:=g1;have hown:zb m.w m.F d e u y:=by
       cases e with
       |slice σ=>
        cases d with
        |true=>simp[Ty.isSl]at hde
        |false=>exact g1
       |_=>exact g1
      refine⟨[u],us,[at'],by rw[L3,eE (cI g1)];rfl,rfl,rfl,⟨u,rfl,hown⟩,hr.2,?_,λ_=>by simp[bK,kR]⟩;rintro b ⟨u',hu',hb⟩;simp only[bK,Vu]at hu';subst hu';obtain⟨id,o,k1,k2,k3,k4⟩:=g2 b hb;refine⟨id,o,?_,k2,k3,k4⟩;simp only[Wz,List.flatMap_nil,Vw];have:atomIds at'=[id]:=k1;rw[this];simp
     |true=>
      rw[hde]at o1;simp only[sg]at hde;obtain⟨rfl,hsl⟩:=hde;cases e with
      |slice σ=>
       cases at' with
       |nils=>
        simp only[aO,ov]at hy;subst hy;obtain⟨ad,rfl,_⟩:=hr.1;have hnb:∀ b,¬HB (.slice ad 0 0) b:=λb hb=>by cases ad<;>simp[HB,HB1]at hb
        have hd:DeepW m.w m.F (.slice ad 0 0) [] σ [] none:=⟨rfl,⟨ad,0,rfl,by simp,by unfold maxLen;omega,λh=>absurd rfl h⟩,by intro i hi;simp at hi,(by intro i v hi;cases hi),VL _ _⟩;refine⟨[.tuple [.slice ad 0 0].toArray],us,[.nils _],rfl,rfl,rfl,⟨_,rfl,_,[],rfl,hd⟩,hr.2,?_,λ_=>by simp[bK,kR]⟩;rintro b ⟨u',hu',hb⟩;simp only[bK,Vu]at hu';subst hu';obtain⟨v,hv,hb⟩:=(eD hd.one).1 hb;simp only[Vu]at hv;subst hv;exact absurd hb (hnb b)
       |ownd id=>
        obtain⟨_,ob,hob,hv⟩:=hr.1;simp only[aO]at hy;rw[hob]at hy;cases ob with
        |deep ver τ l' hole=>
         cases hole with
         |some _=>simp at hy
         |none=>
          simp only at hy;obtain⟨e',hy⟩:=aI hy;simp only[Ty.slice.injEq]at e';subst e';subst hy
          obtain⟨vs,v1,v2⟩:=hv;obtain⟨u',hs,d1,d2⟩:=fv hi hob;rw[d1]at v1;simp only[Value.tuple.injEq]at v1;subst v1;simp only[Vb,Vh,ov]at v2;subst v2;refine⟨[.tuple (u'::hs).toArray],us,[.ownd id],by simp[aZ],rfl,rfl,⟨_,rfl,_,hs,rfl,d2⟩,hr.2,?_,λ_=>by simp[bK,kR]⟩;rintro b ⟨u2,hu2,hb⟩;simp only[bK,Vu]at hu2;subst hu2;exact⟨id,_,by simp[atomIds],hob,rfl,by rw[d1];exact hb⟩
        |_=>simp at hy
       |_=>simp[pm]at o1
      |_=>simp[Ty.isSl]at hsl
    simp at hc
 |.int k,us,l,rest,rest',x,hr,hc,ho=>by obtain⟨c,us',h1,h2,h3,h4,h5,h6⟩:=zd (d:=d) hi (τ:=.int k) hr hc (by intro l;cases l<;>rfl) (by simp) ho;exact⟨c,us',h1,h2,h3,h4,h5,h6,by rintro b ⟨u,hu,_⟩;simp[bK]at hu,λ_=>Wh⟩
 |.bool,us,l,rest,rest',x,hr,hc,ho=>by obtain⟨c,us',h1,h2,h3,h4,h5,h6⟩:=zd (d:=d) hi (τ:=.bool) hr hc (by intro l;cases l<;>rfl) (by simp) ho;exact⟨c,us',h1,h2,h3,h4,h5,h6,by rintro b ⟨u,hu,_⟩;simp[bK]at hu,λ_=>Wh⟩
 |.str,us,l,rest,rest',x,hr,hc,ho=>by obtain⟨c,us',h1,h2,h3,h4,h5,h6⟩:=zd (d:=d) hi (τ:=.str) hr hc (by intro l;cases l<;>rfl) (by simp) ho;exact⟨c,us',h1,h2,h3,h4,h5,h6,by rintro b ⟨u,hu,_⟩;simp[bK]at hu,λ_=>Wh⟩
 |.arr _ _,_,_,_,_,_,_,_,ho=>by simp[df]at ho
 |.ptr _,_,_,_,_,_,_,_,ho=>by simp[df]at ho
 |.clo _ _,_,_,_,_,_,_,_,ho=>by simp[df]at ho
end
end Go.Vm

/-
 A function's contract, from its body: the beginning.
-/
namespace Go.Vm
section
variable {P:Program}{C:Ctx}{w:World}{F:Nat->Prop}
theorem getElem?_sub{α:Type}{u:α}{us:List α}{i k:Nat}(h:k+1<=i):(u::us)[i-k]?=us[i-(k+1)]?:=by
 have:i-k=(i-(k+1))+1:=by omega
 rw[this];rfl
theorem BX{u:Value}{e:Ty}{l:List e.den}(h:HdrW w F u e l):u.oneCell'=true:=by obtain⟨ad,cap,rfl,_⟩:=h;rfl
structure ObjT (w:World)(F:Nat->Prop)(u:Value)(o:Obj):Prop where
 rel:∀(m:Mem) (i:Nat),m.w=w->m.F=F->m.ι i=aZ u->jc m i o
 obj:isObj o=true
 deep:isDeep o=false
 hb:∀ b,HB (aZ u) b->HB u b
 one:(aZ u).oneCell'=true
theorem ObjT.arr{u:Value}{e:Ty}{l:List e.den}(h:HdrW w F u e l):ObjT w F u (.arr e l):=by have hs:=eE (BX h);refine⟨λm i h1 h2 h3=>?_,rfl,rfl,λb hb=>by rwa[hs]at hb,by rw[hs];exact BX h⟩;show HdrW m.w m.F (m.ι i) e l;rw[h1,h2,h3,hs];exact h
theorem ObjT.box{u:Value}{k:List Nat}{T:Ty}{x:T.den}(h:QX w F k T u x):ObjT w F u (.box (List.replicate T.size .u)):=by
 obtain⟨b,c,el,cs,k1,k2,k3,k4,k5⟩:=h;have hs:aZ u=.pointer (some ⟨b,0,none⟩):=by rw[k1,fD]
 have hlen:c.toList.length=T.size:=by rw[k3,List.length_map,k4.len]
 refine⟨λm i h1 h2 h3=>⟨b,c,el,by rw[h3,hs],by rw[h1];exact k2,by rw[k3];exact k4.one,by rw[<- hlen];exact yp _⟩,rfl,rfl,λbl hb=>?_,by rw[hs];rfl⟩;rw[hs]at hb;rw[k1];exact og.2 (.inl hb)
def kr:List (Mode×Ty)->List Value->List Value
 |(.rd,_)::r,_::us=>kr r us
 |(_,_)::r,u::us=>aZ u::kr r us
 |_,_=>[]
theorem cu:∀{ins:List (Mode×Ty)} {us:List Value} {x:(aG (ins.map (·.2))).den} (k:Nat),ArgsRd w F ins us x->∀ i o,(bH ins k x).get i=some o ->
  k<=i/\∃ u,us[i-k]?=some u/\u∈aY ins us/\aZ u∈kr ins us/\ObjT w F u o
 |[],[],_,_,_,i,o,h=>by simp[bH,Heap.get]at h
 |[],_::_,_,_,h,_,_,_=>h.elim
 |_::_,[],_,_,h,_,_,_=>h.elim
 |(.rd,τ)::r,u::us,x,k,h,i,o,hg=>by obtain⟨h1,v,h2,h3,h4,h5⟩:=cu (ins:=r) (us:=us) (x:=x.2) (k+1) h.2 i o hg;exact⟨by omega,v,by rw[getElem?_sub h1];exact h2,h3,h4,h5⟩
 |(.upd,τ)::r,u::us,x,k,h,i,o,hg=>by
  cases τ with
  |slice e=>
   simp only[bH]at hg;rw[Heap.get_cons]at hg;split at hg
   ·rename_i e0;subst e0;simp only[ov]at hg;subst hg;exact⟨B5 _,u,by simp,by simp[aY],by simp[kr],.arr h.1⟩
   obtain⟨h1,v,h2,h3,h4,h5⟩:=cu (ins:=r) (us:=us) (x:=x.2) (k+1) h.2 i o hg;exact⟨by omega,v,by rw[getElem?_sub h1];exact h2,by simp[aY,h3],by simp[kr,h4],h5⟩
  |_=>exact(h.1).elim
 |(.take,τ)::r,u::us,x,k,h,i,o,hg=>by
  cases τ with
  |slice e=>
   simp only[bH]at hg;rw[Heap.get_cons]at hg;split at hg
   ·rename_i e0;subst e0;simp only[ov]at hg;subst hg;exact⟨B5 _,u,by simp,by simp[aY],by simp[kr],.arr h.1⟩
   obtain⟨h1,v,h2,h3,h4,h5⟩:=cu (ins:=r) (us:=us) (x:=x.2) (k+1) h.2 i o hg;exact⟨by omega,v,by rw[getElem?_sub h1];exact h2,by simp[aY,h3],by simp[kr,h4],h5⟩
  |_=>exact(h.1).elim
 |(.box kd,τ)::r,u::us,x,k,h,i,o,hg=>by
  cases τ with
  |ptr T=>
   simp only[bH]at hg;rw[Heap.get_cons]at hg;split at hg
   ·rename_i e0;subst e0;simp only[ov]at hg;subst hg;exact⟨B5 _,u,by simp,by simp[aY],by simp[kr],.box h.1⟩
   obtain⟨h1,v,h2,h3,h4,h5⟩:=cu (ins:=r) (us:=us) (x:=x.2) (k+1) h.2 i o hg;exact⟨by omega,v,by rw[getElem?_sub h1];exact h2,by simp[aY,h3],by simp[kr,h4],h5⟩
  |_=>exact(h.1).elim
theorem t6:∀{ins:List (Mode×Ty)} {us:List Value} {x:(aG (ins.map (·.2))).den} (k:Nat),ArgsRd w F ins us x->kR (aY ins us)->∀ i j o p b u v,(bH ins k x).get i=some o->(bH ins k x).get j=some p ->
  us[i-k]?=some u->us[j-k]?=some v->HB u b->HB v b->i=j
 |[],[],_,_,_,_,i,_,o,_,_,_,_,h,_,_,_,_,_=>by simp[bH,Heap.get]at h
 |[],_::_,_,_,h,_,_,_,_,_,_,_,_,_,_,_,_,_,_=>h.elim
 |_::_,[],_,_,h,_,_,_,_,_,_,_,_,_,_,_,_,_,_=>h.elim
 |(.rd,τ)::r,u0::us,x,k,h,ha,i,j,o,p,b,u,v,hi,hj,hu,hv,hb,hb'=>by obtain⟨h1,_⟩:=cu (ins:=r) (us:=us) (x:=x.2) (k+1) h.2 i o hi;obtain⟨h2,_⟩:=cu (ins:=r) (us:=us) (x:=x.2) (k+1) h.2 j p hj;rw[getElem?_sub h1]at hu;rw[getElem?_sub h2]at hv;exact t6 (ins:=r) (us:=us) (x:=x.2) (k+1) h.2 ha i j o p b u v hi hj hu hv hb hb'
 |(.upd,τ)::r,u0::us,x,k,h,ha,i,j,o,p,b,u,v,hi,hj,hu,hv,hb,hb'=>by
  cases τ with
  |slice e=>exact at_cons k h.2 ha i j o p b u v hi hj hu hv hb hb' (t6 (ins:=r) (us:=us) (x:=x.2) (k+1) h.2 (Ve.1 (show Wm _ (u0::aY r us)from ha)).2)
  |_=>exact(h.1).elim
 |(.take,τ)::r,u0::us,x,k,h,ha,i,j,o,p,b,u,v,hi,hj,hu,hv,hb,hb'=>by
  cases τ with
  |slice e=>exact at_cons k h.2 ha i j o p b u v hi hj hu hv hb hb' (t6 (ins:=r) (us:=us) (x:=x.2) (k+1) h.2 (Ve.1 (show Wm _ (u0::aY r us)from ha)).2)
  |_=>exact(h.1).elim
 |(.box kd,τ)::r,u0::us,x,k,h,ha,i,j,o,p,b,u,v,hi,hj,hu,hv,hb,hb'=>by
  cases τ with
  |ptr T=>exact at_cons k h.2 ha i j o p b u v hi hj hu hv hb hb' (t6 (ins:=r) (us:=us) (x:=x.2) (k+1) h.2 (Ve.1 (show Wm _ (u0::aY r us)from ha)).2)
  |_=>exact(h.1).elim
where
 at_cons {r:List (Mode×Ty)} {us:List Value} {x:(aG (r.map (·.2))).den} {u0:Value} {o0:Obj} (k:Nat) (h:ArgsRd w F r us x) (ha:kR (u0::aY r us)) (i j:Nat) (o p:Obj) (b:Nat) (u v:Value)
  (hi:Heap.get ((k,o0)::bH r (k+1) x) i=some o) (hj:Heap.get ((k,o0)::bH r (k+1) x) j=some p) (hu:(u0::us)[i-k]?=some u) (hv:(u0::us)[j-k]?=some v) (hb:HB u b) (hb':HB v b)
  (rec:∀ i j o p b u v,(bH r (k+1) x).get i=some o->(bH r (k+1) x).get j=some p->us[i-(k+1)]?=some u->us[j-(k+1)]?=some v->HB u b->HB v b->i=j):i=j:=by
  obtain⟨ha1,ha2⟩:=Ve.1 ha;rw[Heap.get_cons]at hi hj;split at hi<;>split at hj
  ·omega
  ·rename_i e0 _;subst e0;obtain⟨h2,v',h3,h4,_⟩:=cu (k+1) h j p hj;rw[getElem?_sub h2,h3]at hv;simp only[ov]at hv;subst hv;simp at hu;subst hu;exact(ha1 _ h4 b hb hb').elim
  ·rename_i _ e0;subst e0;obtain⟨h2,v',h3,h4,_⟩:=cu (k+1) h i o hi;rw[getElem?_sub h2,h3]at hu;simp only[ov]at hu;subst hu;simp at hv;subst hv;exact(ha1 _ h4 b hb' hb).elim
  obtain⟨h1,_⟩:=cu (k+1) h i o hi;obtain⟨h2,_⟩:=cu (k+1) h j p hj;rw[getElem?_sub h1]at hu;rw[getElem?_sub h2]at hv;exact rec i j o p b u v hi hj hu hv hb hb'
theorem yj:∀{ins:List (Mode×Ty)} {us:List Value} {x:(aG (ins.map (·.2))).den} (k:Nat),ArgsRd w F ins us x->∀ t,(pC ins k x).get t=.av .u \/
  ∃ u,k<=t/\us[t-k]?=some u/\((∃ τ,∃ y:τ.den,∃ cs,(pC ins k x).get t=.av (.val τ y)/\aZ u=toV τ cs/\Rd w F τ cs y)\/((pC ins k x).get t=.av (.own t)/\∃ o,(bH ins k x).get t=some o) \/
   ((pC ins k x).get t=.av (.ptr t 0)/\∃ l,(bH ins k x).get t=some (.box l)))
 |[],[],_,_,_,t=>.inl rfl
 |[],_::_,_,_,h,_=>h.elim
 |_::_,[],_,_,h,_=>h.elim
 |(.rd,τ)::r,u::us,x,k,h,t=>by
  simp only[pC];rw[Env.get_cons];split
  ·rename_i e;subst e;obtain⟨cs,h1,h2⟩:=h.1;exact .inr ⟨u,B5 _,by simp,.inl ⟨τ,x.1,cs,rfl,by rw[h1,Dw h2],h2⟩⟩
  rcases yj (ins:=r) (us:=us) (x:=x.2) (k+1) h.2 t with h0|⟨v,h1,h2,h3⟩
  ·exact .inl h0
  exact .inr ⟨v,by omega,by rw[getElem?_sub h1];exact h2,h3⟩
 |(.upd,τ)::r,u::us,x,k,h,t=>by
  cases τ with
  |slice e=>
   simp only[pC,bH];rw[Env.get_cons,Heap.get_cons];split
   ·rename_i e0;subst e0;exact .inr ⟨u,B5 _,by simp,.inr (.inl ⟨rfl,_,rfl⟩)⟩
   rcases yj (ins:=r) (us:=us) (x:=x.2) (k+1) h.2 t with h0|⟨v,h1,h2,h3⟩
   ·exact .inl h0
   exact .inr ⟨v,by omega,by rw[getElem?_sub h1];exact h2,h3⟩
  |_=>exact(h.1).elim
 |(.take,τ)::r,u::us,x,k,h,t=>by
  cases τ with
  |slice e=>
   simp only[pC,bH];rw[Env.get_cons,Heap.get_cons];split
   ·rename_i e0;subst e0;exact .inr ⟨u,B5 _,by simp,.inr (.inl ⟨rfl,_,rfl⟩)⟩
   rcases yj (ins:=r) (us:=us) (x:=x.2) (k+1) h.2 t with h0|⟨v,h1,h2,h3⟩
   ·exact .inl h0
   exact .inr ⟨v,by omega,by rw[getElem?_sub h1];exact h2,h3⟩
  |_=>exact(h.1).elim
 |(.box kd,τ)::r,u::us,x,k,h,t=>by
  cases τ with
  |ptr T=>
   simp only[pC,bH];rw[Env.get_cons,Heap.get_cons];split
   ·rename_i e0;subst e0;exact .inr ⟨u,B5 _,by simp,.inr (.inr ⟨rfl,_,rfl⟩)⟩
   rcases yj (ins:=r) (us:=us) (x:=x.2) (k+1) h.2 t with h0|⟨v,h1,h2,h3⟩
   ·exact .inl h0
   exact .inr ⟨v,by omega,by rw[getElem?_sub h1];exact h2,h3⟩
  |_=>exact(h.1).elim
theorem pr:∀{ins:List (Mode×Ty)} {us:List Value} {x:(aG (ins.map (·.2))).den},ArgsRd w F ins us x->MutsRd w F ins us (wW ins x)
 |[],_,_,_=>trivial
 |(md,τ)::r,[],_,h=>h.elim
 |(.rd,τ)::r,u::us,x,h=>pr (ins:=r) (us:=us) (x:=x.2) h.2
 |(.take,τ)::r,u::us,x,h=>pr (ins:=r) (us:=us) (x:=x.2) h.2
 |(.upd,τ)::r,u::us,x,h=>by
  cases τ with
  |slice e=>exact⟨h.1,pr (ins:=r) (us:=us) (x:=x.2) h.2⟩
  |_=>exact h.1.elim
 |(.box k,τ)::r,u::us,x,h=>by
  cases τ with
  |ptr T=>exact⟨h.1,pr (ins:=r) (us:=us) (x:=x.2) h.2⟩
  |_=>exact h.1.elim
theorem mut_sub:∀{ins:List (Mode×Ty)} {us:List Value},(ct ins us).Sublist (aY ins us)
 |[],us=>by cases us<;>exact W9 _
 |(md,τ)::r,[]=>by cases md<;>exact W9 _
 |(.rd,τ)::r,u::us=>mut_sub (ins:=r) (us:=us)
 |(.take,τ)::r,u::us=>(mut_sub (ins:=r) (us:=us)).cons u
 |(.upd,τ)::r,u::us=>(mut_sub (ins:=r) (us:=us)).cons_cons u
 |(.box k,τ)::r,u::us=>(mut_sub (ins:=r) (us:=us)).cons_cons u
theorem tM:∀{ins:List (Mode×Ty)} {us:List Value} {x:(aG (ins.map (·.2))).den},ArgsRd w F ins us x->∀{b:Nat},jh (kr ins us) b->jh (aY ins us) b
 |[],us,_,_,b,h=>by obtain⟨u,hu,_⟩:=h;cases us<;>simp[kr]at hu
 |(md,τ)::r,[],_,h,b,_=>h.elim
 |(.rd,_)::r,_::us,x,h,b,ha=>tM (ins:=r) (us:=us) (x:=x.2) h.2 ha
 |(.take,τ)::r,u::us,x,h,b,ha=>by
  obtain⟨v,hv,hb⟩:=ha;rcases A9.1 (show v∈aZ u::kr r us from hv)with rfl|hv
  ·refine⟨u,by simp[aY],?_⟩;cases τ with
   |slice e=>exact(ObjT.arr h.1).hb b hb
   |_=>exact h.1.elim
  obtain⟨v',hv',hb'⟩:=tM (ins:=r) (us:=us) (x:=x.2) h.2 ⟨v,hv,hb⟩;exact⟨v',by simp[aY,hv'],hb'⟩
 |(.upd,τ)::r,u::us,x,h,b,ha=>by
  obtain⟨v,hv,hb⟩:=ha;rcases A9.1 (show v∈aZ u::kr r us from hv)with rfl|hv
  ·refine⟨u,by simp[aY],?_⟩;cases τ with
   |slice e=>exact(ObjT.arr h.1).hb b hb
   |_=>exact h.1.elim
  obtain⟨v',hv',hb'⟩:=tM (ins:=r) (us:=us) (x:=x.2) h.2 ⟨v,hv,hb⟩;exact⟨v',by simp[aY,hv'],hb'⟩
 |(.box k,τ)::r,u::us,x,h,b,ha=>by
  obtain⟨v,hv,hb⟩:=ha;rcases A9.1 (show v∈aZ u::kr r us from hv)with rfl|hv
  ·refine⟨u,by simp[aY],?_⟩;cases τ with
   |ptr T=>exact(ObjT.box h.1).hb b hb
   |_=>exact h.1.elim
  obtain⟨v',hv',hb'⟩:=tM (ins:=r) (us:=us) (x:=x.2) h.2 ⟨v,hv,hb⟩;exact⟨v',by simp[aY,hv'],hb'⟩
theorem Mq{u:Value}(h:u.oneCell'=true){b:Nat}:¬HB (.tuple (pK u).tail.toArray) b:=by rintro⟨w1,hw1,_⟩;cases u<;>simp_all[pK,Value.oneCell']
theorem pY:∀{ins:List (Mode×Ty)} {us:List Value} {x:(aG (ins.map (·.2))).den},ArgsRd w F ins us x->kR (aY ins us)->∀ u∈aY ins us,∀ b,HB (.tuple (pK u).tail.toArray) b->¬jh (kr ins us) b
 |[],us,_,_,_,u,hu,_,_=>by cases us<;>simp[aY]at hu
 |(md,τ)::r,[],_,h,_,_,_,_,_=>h.elim
 |(.rd,_)::r,_::us,x,h,hp,u,hu,b,hb=>pY (ins:=r) (us:=us) (x:=x.2) h.2 hp u hu b hb
 |(.upd,τ)::r,u0::us,x,h,hp,u,hu,b,hb=>by
  cases τ with
  |slice e=>exact one_cons (BX h.1) h.2 hp u hu b hb (pY (ins:=r) (us:=us) (x:=x.2) h.2 (Ve.1 (show Wm _ (u0::aY r us)from hp)).2)
  |_=>exact h.1.elim
 |(.take,τ)::r,u0::us,x,h,hp,u,hu,b,hb=>by
  cases τ with
  |slice e=>exact one_cons (BX h.1) h.2 hp u hu b hb (pY (ins:=r) (us:=us) (x:=x.2) h.2 (Ve.1 (show Wm _ (u0::aY r us)from hp)).2)
  |_=>exact h.1.elim
 |(.box k,τ)::r,u0::us,x,h,hp,u,hu,b,hb=>by
  cases τ with
  |ptr T=>
   obtain⟨hp1,hp2⟩:=Ve.1 (show Wm _ (u0::aY r us)from hp);obtain⟨⟨bl,c,el,cs,k1,k2,k3,k4,k5⟩,h2⟩:=h;rcases A9.1 (show u∈u0::aY r us from hu)with rfl|hu1
   ·rintro⟨z,hz,hzb⟩;rcases A9.1 (show z∈aZ u::kr r us from hz)with rfl|hz
    ·rw[k1,fD]at hzb;obtain⟨w1,hw1,hw2⟩:=hb;rw[k1]at hw1;simp only[vU,pK,List.tail_cons,List.mem_flatMap]at hw1;obtain⟨v,hv,hv2⟩:=hw1;exact(Ve.1 k5).1 v hv b hzb (xa.2 ⟨w1,hv2,hw2⟩)
    obtain⟨u2,hu2,hb2⟩:=tM h2 ⟨z,hz,hzb⟩;exact hp1 u2 hu2 b (tA hb) hb2
   rintro⟨z,hz,hzb⟩;rcases A9.1 (show z∈aZ u0::kr r us from hz)with rfl|hz
   ·rw[k1,fD]at hzb;exact hp1 u hu1 b (by rw[k1];exact og.2 (.inl hzb)) (tA hb)
   exact pY (ins:=r) (us:=us) (x:=x.2) h2 hp2 u hu1 b hb ⟨z,hz,hzb⟩
  |_=>exact h.1.elim
where
 one_cons {r:List (Mode×Ty)} {us:List Value} {x:(aG (r.map (·.2))).den} {u0:Value} (h1:u0.oneCell'=true) (h:ArgsRd w F r us x) (hp:kR (u0::aY r us)) (u:Value) (hu:u∈u0::aY r us) (b:Nat) (hb:HB (.tuple (pK u).tail.toArray) b)
  (rec:∀ u∈aY r us,∀ b,HB (.tuple (pK u).tail.toArray) b->¬jh (kr r us) b):¬jh (aZ u0::kr r us) b:=by
  obtain⟨hp1,hp2⟩:=Ve.1 hp;rcases A9.1 hu with rfl|hu1
  ·exact absurd hb (Mq h1)
  rintro⟨z,hz,hzb⟩;rcases A9.1 hz with rfl|hz
  ·rw[eE h1]at hzb;exact hp1 u hu1 b hzb (tA hb)
  exact rec u hu1 b hb ⟨z,hz,hzb⟩
theorem OW{m:Mem}{ins:List (Mode×Ty)}{us:List Value}{x:(aG (ins.map (·.2))).den}:∀(k:Nat),ArgsRd w F ins us x->(∀ i o,(bH ins k x).get i=some o->m.G.get i=some o)->(∀ i u,us[i]?=some u->m.ι (k+i)=aZ u)->BoxLive m ins us (Jr ins k):=by
 induction ins generalizing us with
 |nil=>intro k h _ _;cases us<;>trivial
 |cons p r ih=>
  obtain⟨md,τ⟩:=p;intro k h hG hι;cases us with
  |nil=>exact h.elim
  |cons u us=>
   have hι':∀ i u,us[i]?=some u->m.ι (k+1+i)=aZ u:=λi u hu=>by have:=hι (i+1) u (by simpa using hu);rwa[show k+(i+1)=k+1+i by omega]at this
   cases md with
   |rd=>exact ih (x:=x.2) (k+1) h.2 hG hι'
   |upd=>
    cases τ with
    |slice e=>refine ih (x:=x.2) (k+1) h.2 (λi o ho=>hG i o ?_) hι';obtain⟨h1,_⟩:=cu (k+1) h.2 i o ho;show Heap.get ((k,_)::bH r (k+1) x.2) i=_;rw[Heap.get_cons,if_neg (by omega)];exact ho
    |_=>exact h.1.elim
   |take=>
    cases τ with
    |slice e=>refine ih (x:=x.2) (k+1) h.2 (λi o ho=>hG i o ?_) hι';obtain⟨h1,_⟩:=cu (k+1) h.2 i o ho;show Heap.get ((k,_)::bH r (k+1) x.2) i=_;rw[Heap.get_cons,if_neg (by omega)];exact ho
    |_=>exact h.1.elim
   |box kd=>
    cases τ with
    |ptr T=>
     refine⟨λid o he=>?_,ih (x:=x.2) (k+1) h.2 (λi o ho=>hG i o ?_) hι'⟩
     ·simp only[SV.av.injEq,Atom.ptr.injEq]at he;obtain⟨rfl,rfl⟩:=he;exact⟨_,hG k _ (by show Heap.get ((k,_)::bH r (k+1) x.2) k=_;rw[Heap.get_cons,if_pos rfl]),by have:=hι 0 u rfl;simpa using this⟩
     obtain⟨h1,_⟩:=cu (k+1) h.2 i o ho;show Heap.get ((k,_)::bH r (k+1) x.2) i=_;rw[Heap.get_cons,if_neg (by omega)];exact ho
    |_=>exact h.1.elim
end
end Go.Vm

/-
 A function's contract, from its body: the end.
-/
namespace Go.Vm
section
variable {P:Program}{C:Ctx}{w0:World}{M:Own}{N:Nat}{A:Anns}{a:Act}{m:Mem}{s:St}
theorem BS:∀{τ:Ty},τ.plain=true->∀ cs,bK τ cs=[]
 |.prod a b,h,cs=>by simp only[Ty.plain,sg]at h;simp[bK,BS h.1,BS h.2]
 |.int _,_,_=>rfl
 |.bool,_,_=>rfl
 |.str,_,_=>rfl
 |.unit,_,_=>rfl
 |.slice _,h,_=>by simp[Ty.plain]at h
 |.arr _ _,_,_=>rfl
 |.ptr _,h,_=>by simp[Ty.plain]at h
 |.clo _ _,_,_=>rfl
theorem C3{w:World}{F F':Nat->Prop}{d:Bool}:∀{τ:Ty} {cs:List Value} {x:τ.den},τ.plain=true->Rd w F τ cs x->OwnRd w F' d τ cs x
 |.prod a b,_,_,hf,h=>by simp only[Ty.plain,sg]at hf;obtain⟨c1,c2,h1,h2,h3⟩:=h;exact⟨c1,c2,h1,C3 hf.1 h2,C3 hf.2 h3⟩
 |.int _,_,_,_,h=>h
 |.bool,_,_,_,h=>h
 |.str,_,_,_,h=>h
 |.unit,_,_,_,h=>h
 |.slice _,_,_,hf,_=>by simp[Ty.plain]at hf
 |.arr _ _,_,_,hf,_=>by simp[Ty.plain]at hf
 |.ptr _,_,_,hf,_=>by simp[Ty.plain]at hf
 |.clo _ _,_,_,hf,_=>by simp[Ty.plain]at hf
theorem D8(k:List Nat):∀(o:Nat) (l:List Atom),(dK true k o l).Sublist (l.flatMap atomIds)
 |_,[]=>.slnil
 |o,a::l=>by
  simp only[dK,Wz,U3,U4];refine Y3 ?_ (D8 k (o+1) l);cases A3 (k7 k o) 0 with
  |true=>exact List.nil_sublist _
  |false=>exact W9 _
theorem Bt:∀{l r:List Nat},l.Sublist r->aP r=true->aP l=true
 |_,_,.slnil,_=>rfl
 |_,_,.cons a h,hn=>by simp only[aP,sg]at hn;exact Bt h hn.2
 |_,_,.cons_cons a h,hn=>by simp only[aP,sg,Vg,Vj]at hn ⊢;exact⟨λx hx=>hn.1 x (h.subset hx),Bt h hn.2⟩
theorem RR {d:Bool}(hi:Inv C w0 M m){τ : Ty}{sv:SV}{u:Value}{x : τ.den}(hr:RelSV m u sv)(hx:bD m.G τ sv=some x)(ho:Ks d m.G τ sv=true)(hn:aP (jv m.G sv)=true) :
  ∃ cs,u=toV τ (cs.map aZ)/\OwnRd m.w m.F d τ cs x/\HdrsOf m (bK τ cs) (jv m.G sv):=by
 have cells {us:List Value} {l:List Atom} (h1:Rel2 (ak m) us l) (h2:aE m.G τ l=some (x,[])) (h3:(df d τ l).1=true):∃ c,us=c.map aZ/\OwnRd m.w m.F d τ c x/\HdrsOf m (bK τ c) (l.flatMap atomIds):=by
  obtain⟨c,us',lc,a1,a2,a3,a4,a5,a6,a7⟩:=DN hi (rest':=(df d τ l).2) h1 h2 (by rw[<- h3]);match us',a5 with
  |[],_=>rw[Vw]at a1 a2;subst a2;exact⟨c,a1,a4,a6,a7⟩
 cases sv with
 |tup l=>simp[bD]at hx
 |agg l=>
  obtain⟨us,h1,h2,h3⟩:=hr;simp only[bD]at hx;cases ha:τ.isAgg with
  |false=>rw[ha]at hx;simp at hx
  |true=>
   rw[ha]at hx;simp only[U3]at hx;split at hx
   ·rename_i y hc;have hx:=L9 hx;subst hx;obtain⟨c,k0,k1,k2⟩:=cells h3 hc ho;exact⟨c,by rw[h1,k0];simp[toV,ha],k1,k2⟩
   simp at hx
 |av at'=>
  cases at' with
  |val σ y=>obtain⟨e,hy⟩:=aI hx;subst e;subst hy;obtain⟨cs,h1,h2⟩:=hr;have hp:σ.plain=true:=ho;exact⟨cs,by rw[cJ h2];exact h1,C3 hp h2,by rw[BS hp];exact HdrsOf.nil _ _⟩
  |ptr i o=>
   cases τ with
   |ptr T=>
    cases o with
    |succ o=>simp[Ks,df]at ho
    |zero=>
     simp only[bD]at hx;simp only[Ks]at ho;have hr':=(au (m:=m) (v:=u) (by intros;simp)).1 hr;split at ho
     ·rename_i T' l e1 hl;simp only[Ty.ptr.injEq]at e1;subst e1;simp only[sg,List.isEmpty_iff]at ho;obtain⟨⟨o1,o2⟩,o3⟩:=ho;simp only[vw,hl]at hx;cases hc1:VK (0+T.size) l.length with
      |false=>rw[hc1]at hx;simp at hx
      |true=>
       rw[hc1]at hx;simp only[U3,List.drop_zero]at hx;split at hx
       ·rename_i x1' rest hc;have hx1:=L9 hx;subst hx1;have e2:e9 false (kw d T) m.G (.av (.ptr i 0))=[]:=by simp[e9,hl,o3]
        have e3:e9 true (kw d T) m.G (.av (.ptr i 0))=i::dK true (kw d T) 0 l:=by simp[e9,hl]
        have e4:jv m.G (.av (.ptr i 0))=i::l.flatMap atomIds:=by simp[jv,uD,hl]
        have hsub:(i::dK true (kw d T) 0 l).Sublist (i::l.flatMap atomIds):=(D8 (kw d T) 0 l).cons_cons i;rw[e4]at hn ⊢;obtain⟨t,t1,t2,t3,_⟩:=Fu hi (k:=kw d T) (Fr:=m.F) (λ_ h=>h) hl hr' hc (show ui (kw d T) 0 T l=(true,[]) by rw[<- o1,<- o2]) (.inr rfl) (by rw[e3];exact Bt hsub hn) (by
         rw[e2];rintro b (hb|⟨j,hj,_⟩)
         ·exact hb
         cases hj)
        refine⟨[t],?_,⟨t,rfl,t2⟩,?_,λ_=>VL _ _⟩
        ·rw[L3,t1];simp[toV,Ty.isAgg]
        intro b hb;obtain⟨id,ob,k1,k2⟩:=t3.1 b hb;rw[e3]at k1;exact⟨id,ob,hsub.subset k1,k2⟩
       simp at hx
     cases ho
   |_=>simp[bD]at hx
  |clo f c=>
   cases τ<;>simp only[bD]at hx<;>try (simp at hx;done)
   simp[Ks,df]at ho
  |_=>
   have hr':=(au (m:=m) (v:=u) (by intros;simp)).1 hr;simp only[bD]at hx;cases ha:τ.isAgg with
   |true=>rw[ha]at hx;simp at hx
   |false=>
    rw[ha]at hx;simp only[U4]at hx;have hc:∀ a',aO m.G τ a'=some x->(df d τ [a']).1=true->aE m.G τ [a']=some (x,[]):=by
     intro a' h1 h2;cases τ<;>simp only[df]at h2<;>try (simp at h2;done)
     all_goals first
      |(simp only[aE,h1];done)
      |simp[Ty.isAgg]at ha
    obtain⟨c,k0,k1,k2⟩:=cells (us:=[u]) (l:=[_]) ⟨hr',trivial⟩ (hc _ hx ho) ho;refine⟨c,by rw[<- k0];exact(Bz ha u).symm,k1,?_⟩;simpa[jv,dh]using k2
theorem Kn {d:Bool}(hi:Inv C w0 M m)(hG:m.G=s.G){m2:Mem}(hw:m2.w=m.w)(hF:∀ b,m.F b->m2.F b):∀{outs:BC} {us:List Value} {x:(aG ((outs.map (·.2)).map (·.2))).den},TB m s outs us x->tO d s outs=true->aP (bf s true outs)=true ->
  (∀ b,Thru m (bf s false outs) b->m2.F b) ->
  ∃ css,us=ws (outs.map (·.2)) css/\OutsRd m2.w m2.F d (outs.map (·.2)) css x/\HdrsOf m (jt (outs.map (·.2)) css) (bf s true outs)
 |[],[],_,_,_,_,_=>⟨[],rfl,trivial,HdrsOf.nil _ _⟩
 |[],_::_,_,h,_,_,_=>h.elim
 |_::_,[],_,h,_,_,_=>h.elim
 |(v,b,τ)::r,u::us,x,h,ho,hno,hT=>by
  obtain⟨⟨sv,h1,h2,h3⟩,h4⟩:=h;simp only[tO,sg]at ho;obtain⟨ho1,ho2⟩:=ho;have hFF:∀ b,m.F b->m2.F b/\m2.w.heap[b]?=m.w.heap[b]?:=λb hb=>⟨hF b hb,by rw[hw]⟩;obtain⟨css,k1,k2,k3⟩:=Kn hi hG hw hF h4 ho2 (by unfold bf at hno;exact(bi hno).2.1) (λbl hb=>hT bl (Thru.mono (λi hi=>by simp[bf,hi]) hb));cases b with
  |true=>
   simp only[U3,h1]at ho1;have e0:bf s true ((v,true,τ)::r)=jv m.G sv++bf s true r:=by simp[bf,h1,hG]
   rw[e0]at hno;obtain⟨cs,c1,c2,c3⟩:=RR hi h2 (hG▸h3) (hG▸ho1) (bi hno).1;refine⟨cs::css,by simp only[L3,ws,U3];rw[<- c1,<- k1],⟨c2.mono hFF (λ_ _ _ _=>by rw[hw]),k2⟩,?_⟩;have e:bf s true ((v,true,τ)::r)=jv m.G sv++bf s true r:=by simp[bf,h1,hG]
   rw[e];exact c3.append hi k3
  |false=>
   obtain⟨cs,c1,c2⟩:=jB hi (hG▸h3) h2;refine⟨cs::css,by simp only[L3,ws,U4];rw[<- c1,<- k1],⟨c2.mono λbl hb=>⟨hT bl (Thru.mono (λi hi=>by simp[bf,h1];exact .inl (hG▸hi)) hb),by rw[hw]⟩,k2⟩,?_⟩;have e:bf s true ((v,false,τ)::r)=bf s true r:=by simp[bf,h1]
   rw[e];simpa[jt]using k3
end
end Go.Vm

/-
 A function's contract, from its body.
-/
namespace Go.Vm
section
variable {P:Program}{C:Ctx}{w0:World}{M:Own}{N:Nat}{A:Anns}{a:Act}{m:Mem}{s:St}
def ni(ins:List (Mode×Ty))(us:List Value)(i:Nat):Option Value:=match ins[i]? with
 |some (.upd,_)=>(us[i]?).map aZ
 |some (.box _,_)=>(us[i]?).map aZ
 |_=>none
def PO:Mode->Bool
 |.upd=>true
 |.box _=>true
 |_=>false
theorem O7{ins:List (Mode×Ty)}{us:List Value}{i:Nat}{md:Mode}{τ:Ty}{u:Value}(h:ins[i]?=some (md,τ))(hm:PO md=true)(hu:us[i]?=some u):ni ins us i=some (aZ u):=by unfold ni;rw[h];cases md<;>simp_all[PO]
theorem yf (hi:Inv C w0 M m)(hG:m.G=s.G){m2:Mem}(hw:m2.w=m.w)(hF:∀ b,m.F b->m2.F b):∀{ins:List (Mode×Ty)} {us:List Value} {x:(aG (ins.map (·.2))).den} {y:(aG (bm ins)).den} {w1:World} {F1:Nat->Prop} (k:Nat),ArgsRd w1 F1 ins us x->fh s ins k=some y->aP (d9 true s.G ins k)=true ->
  (∀ b,Thru m (d9 false s.G ins k) b->m2.F b) ->
  (∀ j u md τ,ins[j]?=some (md,τ)->PO md=true->us[j]?=some u->∀ o,m.G.get (k+j)=some o->isObj o=true->m.ι (k+j)=aZ u) ->
  ∃ us',AP ins us us'/\MutsRd m2.w m2.F ins us' y/\HdrsOf m (ct ins us') (d9 true s.G ins k)
 |[],[],x,y,w1,F1,k,_,_,_,_,_=>⟨[],trivial,trivial,HdrsOf.nil _ _⟩
 |[],_::_,_,_,_,_,_,h,_,_,_,_=>h.elim
 |_::_,[],_,_,_,_,_,h,_,_,_,_=>h.elim
 |(.rd,τ)::r,u::us,x,y,w1,F1,k,ha,h,hn,hT,hp=>by obtain⟨us',h1,h2,h3⟩:=yf hi hG hw hF (ins:=r) (us:=us) (y:=y) (k+1) ha.2 h hn hT (λj u md τ hj hm hu o ho hob=>by have:=hp (j+1) u md τ (by simpa using hj) hm (by simpa using hu) o (by rw[show k+(j+1)=k+1+j by omega];exact ho) hob;rw[show k+(j+1)=k+1+j by omega]at this;exact this);exact⟨u::us',⟨rfl,h1⟩,h2,h3⟩
 |(.take,τ)::r,u::us,x,y,w1,F1,k,ha,h,hn,hT,hp=>by obtain⟨us',h1,h2,h3⟩:=yf hi hG hw hF (ins:=r) (us:=us) (y:=y) (k+1) ha.2 h hn hT (λj u md τ hj hm hu o ho hob=>by have:=hp (j+1) u md τ (by simpa using hj) hm (by simpa using hu) o (by rw[show k+(j+1)=k+1+j by omega];exact ho) hob;rw[show k+(j+1)=k+1+j by omega]at this;exact this);exact⟨u::us',⟨rfl,h1⟩,h2,h3⟩
 |(.upd,τ)::r,u::us,x,y,w1,F1,k,ha,h,hn,hT,hp=>by
  cases τ with
  | slice e =>
    cases hg:s.G.get k with
    |none=>simp[fh,hg]at h
    |some ob=>
   cases ob with
   |box _=>simp[fh,hg]at h
   |dead=>simp[fh,hg]at h
   |deep _ _ _ _=>simp[fh,hg]at h
   |map _ _ _=>simp[fh,hg]at h
   |arr σ l=>
   unfold fh at h;rw[hg]at h;dsimp only at h;split at h
   ·rename_i x hx;split at h
    ·rename_i z hz;have h:=L9 h;subst h;obtain⟨he,hx⟩:=aI hx;cases he;subst hx;have e1:d9 true s.G ((.upd,.slice e)::r) k=[k]++d9 true s.G r (k+1):=rfl;have e2:d9 false s.G ((.upd,.slice e)::r) k=d9 false s.G r (k+1):=rfl;rw[e1]at hn ⊢;rw[e2]at hT;obtain⟨n1,n2,n3⟩:=bi hn;obtain⟨us',h1,h2,h3⟩:=yf hi hG hw hF (ins:=r) (us:=us) (y:=z) (k+1) ha.2 hz n2 hT (λj u md τ hj hm hu o ho hob=>by have:=hp (j+1) u md τ (by simpa using hj) hm (by simpa using hu) o (by rw[show k+(j+1)=k+1+j by omega];exact ho) hob;rw[show k+(j+1)=k+1+j by omega]at this;exact this);have hι:=hp 0 u .upd _ rfl rfl rfl _ (by rw[VR,hG];exact hg) rfl;rw[VR,eE (BX ha.1)]at hι;have hobj:HdrW m.w m.F u e l:=by have:=hi.objs k _ (hG▸hg);rw[<- hι];exact this
     refine⟨u::us',⟨rfl,h1⟩,⟨hobj.mono (λb hb=>⟨hF b hb,by rw[hw]⟩) (λ_ _=>by rw[hw]),h2⟩,?_⟩;refine HdrsOf.cons hi ⟨?_,λ_=>VL _ _⟩ h3;rintro b ⟨u',hu',hb⟩;simp only[Vu]at hu';subst hu';exact⟨k,_,by simp,hG▸hg,rfl,by rw[hι];exact hb⟩
    simp at h
   simp at h
  |_=>simp[fh]at h
 |(.box kd,τ)::r,u::us,x,y,w1,F1,k,ha,h,hn,hT,hp=>by
  cases τ with
  | ptr T =>
    cases hg:s.G.get k with
    |none=>simp[fh,hg]at h
    |some ob=>
   cases ob with
   |arr _ _=>simp[fh,hg]at h
   |dead=>simp[fh,hg]at h
   |deep _ _ _ _=>simp[fh,hg]at h
   |map _ _ _=>simp[fh,hg]at h
   |box l=>
   unfold fh at h;rw[hg]at h;dsimp only at h;cases ho:(ui kd 0 T l).1 with
   |false=>rw[ho]at h;simp at h
   |true=>
   rw[ho]at h;simp only[U3]at h;split at h
   ·rename_i x1 hx;split at h
    ·rename_i z hz;have h:=L9 h;subst h;have e1:d9 true s.G ((.box kd,.ptr T)::r) k=e9 true kd m.G (.av (.ptr k 0))++d9 true s.G r (k+1):=by rw[hG];rfl
     have e2:d9 false s.G ((.box kd,.ptr T)::r) k=e9 false kd m.G (.av (.ptr k 0))++d9 false s.G r (k+1):=by rw[hG];rfl
     rw[e1]at hn ⊢;rw[e2]at hT;obtain⟨n1,n2,n3⟩:=bi hn;obtain⟨us',h1,h2,h3⟩:=yf hi hG hw hF (ins:=r) (us:=us) (y:=z) (k+1) ha.2 hz n2 (λb hb=>hT b (Thru.mono (λi hi=>by simp[hi]) hb)) (λj u md τ hj hm hu o ho hob=>by have:=hp (j+1) u md τ (by simpa using hj) hm (by simpa using hu) o (by rw[show k+(j+1)=k+1+j by omega];exact ho) hob;rw[show k+(j+1)=k+1+j by omega]at this;exact this);have hι:=hp 0 u (.box kd) _ rfl rfl rfl _ (by rw[VR,hG];exact hg) rfl;rw[VR]at hι;obtain⟨b,c,el,q1,_⟩:=hi.objs k _ (hG▸hg);have hra:ak m (aZ u) (.ptr k 0):=⟨by rw[<- hι,q1];rfl,.box l,hG▸hg,b,q1,by rw[<- hι,q1]⟩;obtain⟨t,t1,t2,t3,_⟩:=Fu hi (Fr:=m2.F) hF (hG▸hg) hra (by rw[hG];exact hx) (rest':=(ui kd 0 T l).2) (by rw[<- ho]) (.inl rfl) n1 (λb hb=>hT b (Thru.mono (λi hi=>by simp[hi]) hb));exact⟨t::us',⟨t1,h1⟩,⟨by rw[hw];exact t2,h2⟩,t3.cons hi h3⟩
    simp at h
   simp at h
  |_=>simp[fh]at h
end
end Go.Vm

/-
 A function's contract, from its body: the whole.
-/
namespace Go.Vm
section
variable {P:Program}{C:Ctx}{A:Anns}
theorem vn:∀(outs m:List Ty) (x:(aG outs).den) (y:(aG m).den),kM outs m (yQ outs m x y)=(x,y)
 |[],_,_,_=>rfl
 |_::r,m,x,y=>by show((x.1,(kM r m (yQ r m x.2 y)).1),(kM r m (yQ r m x.2 y)).2)=(x,y);rw[vn r m];rfl
def DB(A:Anns)(ins:List (Mode×Ty)):Bool:=A.all λp=>(yW ins 0).all λi=>(p.2.head.pins.any λj=>A3 i j)&&p.2.exits.all λe=>e.2.pins.any λj=>A3 i j
theorem Anns.mem_of_get{A:Anns}{key:Nat}{ann:Ann}(h:A.get key=some ann):∃ k,(k,ann)∈A:=by
 induction A with
 |nil=>simp[Anns.get]at h
 |cons p r ih=>
  obtain⟨k,v⟩:=p;simp only[Anns.get]at h;cases hk:A3 k key with
  |true=>rw[hk]at h;simp at h;subst h;exact⟨k,by simp⟩
  |false=>rw[hk]at h;obtain⟨k',hk'⟩:=ih h;exact⟨k',by simp[hk']⟩
theorem Ns:∀{ins:List (Mode×Ty)} {us:List Value} {i:Nat} {v:Value} (k:Nat),ni ins us i=some v->k+i∈yW ins k
 |[],us,i,v,k,h=>by simp[ni]at h
 |(md,τ)::r,us,0,v,k,h=>by cases md<;>simp[ni]at h<;>simp[yW]
 |(md,τ)::r,[],i+1,v,k,h=>by unfold ni at h;split at h<;>simp at h
 |(md,τ)::r,u::us,i+1,v,k,h=>by
  have h':ni r us i=some v:=by unfold ni at h ⊢;simpa using h
  have:=Ns (k+1) h';have e:k+(i+1)=k+1+i:=by omega
  cases md<;>simp only[yW]<;>rw[e]<;>simp[this]
theorem DZ{w:World}{F:Nat->Prop}:∀{ins:List (Mode×Ty)} {us:List Value} {x:(aG (ins.map (·.2))).den} {i:Nat} {v:Value} (k:Nat),ArgsRd w F ins us x->ni ins us i=some v->∃ o,(bH ins k x).get (k+i)=some o
 |[],us,x,i,v,k,_,h=>by simp[ni]at h
 |_::_,[],_,_,_,_,h,_=>h.elim
 |(md,τ)::r,u::us,x,0,v,k,ha,h=>by
  cases md<;>simp[ni]at h
  ·cases τ with
   |slice e=>exact⟨_,by simp only[bH,VR];rw[Heap.get_cons,if_pos rfl]⟩
   |_=>exact ha.1.elim
  cases τ with
  |ptr e=>exact⟨_,by simp only[bH,VR];rw[Heap.get_cons,if_pos rfl]⟩
  |_=>exact ha.1.elim
 |(md,τ)::r,u::us,x,i+1,v,k,ha,h=>by
  have h':ni r us i=some v:=by unfold ni at h ⊢;simpa using h
  obtain⟨o,ho⟩:=DZ (x:=x.2) (k+1) ha.2 h';have e:k+(i+1)=k+1+i:=by omega
  rw[e];cases md with
  |rd=>exact⟨o,ho⟩
  |upd=>
   cases τ with
   |slice e=>refine⟨o,?_⟩;simp only[bH];rw[Heap.get_cons,if_neg (by omega)];exact ho
   |_=>exact ha.1.elim
  |take=>
   cases τ with
   |slice e=>refine⟨o,?_⟩;simp only[bH];rw[Heap.get_cons,if_neg (by omega)];exact ho
   |_=>exact ha.1.elim
  |box kd=>
   cases τ with
   |ptr e=>refine⟨o,?_⟩;simp only[bH];rw[Heap.get_cons,if_neg (by omega)];exact ho
   |_=>exact ha.1.elim
theorem ArgsRd.len{w:World}{F:Nat->Prop}:∀{ins:List (Mode×Ty)} {us:List Value} {x:(aG (ins.map (·.2))).den},ArgsRd w F ins us x->us.length=ins.length
 |[],[],_,_=>rfl
 |[],_::_,_,h=>h.elim
 |_::_,[],_,h=>h.elim
 |_::_,_::_,_,h=>by simp[ArgsRd.len h.2]
theorem PW {w:World}{F:Nat->Prop}{ins:List (Mode×Ty)}{us:List Value}{x:(aG (ins.map (·.2))).den}(hp:Pre C.glob w F ins us x)(n:Nat){G:Heap}(hfill:dy ins (Jr ins 0) (wW ins x) 0 (bH ins 0 x)=some G) :
  ∃ m,m.w=w/\m.G=G/\Sim C w ⟨jh (aY ins us),F,ni ins us,none⟩ n { tmps:=(us.map aZ).toArray++WH (n-(us.map aZ).toArray.size) undef,defers:=[] } m (pC ins 0 x):=by
 let m0:Mem:=⟨w,F,λi=>aZ (us.getD i undef),bH ins 0 x⟩
 have hι:∀ i u,us[i-0]?=some u->m0.ι i=aZ u:=by intro i u h;simp at h;simp[m0,h]
 have hi0:Inv C w ⟨jh (aY ins us),F,ni ins us,none⟩ m0:=by
  refine⟨Kept.refl _ _,?_,?_,?_,hp.fro,hp.glob,λb hb=>.inl hb,?_⟩
  ·intro i o ho;obtain⟨_,u,h1,_,_,h2⟩:=cu 0 hp.args i o ho;exact h2.rel m0 i rfl rfl (hι i u h1)
  ·intro i o b ho _ hb;obtain⟨_,u,h1,h3,_,h2⟩:=cu 0 hp.args i o ho;rw[hι i u h1]at hb;have hb:=h2.hb b hb;obtain⟨k1,k2⟩:=hp.own u h3 b hb;exact⟨.inr ⟨u,h3,hb⟩,k1,k2⟩
  ·intro i j o p b ho _ hq _ h1 h2;obtain⟨_,u,k1,_,_,k3⟩:=cu 0 hp.args i o ho;obtain⟨_,v,k2,_,_,k4⟩:=cu 0 hp.args j p hq;rw[hι i u k1]at h1;rw[hι j v k2]at h2;exact t6 0 hp.args hp.apart i j o p b u v ho hq k1 k2 (k3.hb b h1) (k4.hb b h2)
  refine⟨λi v hv=>?_,λm0 h0=>by cases h0⟩;obtain⟨o,ho⟩:=DZ 0 hp.args hv;rw[Vt]at ho;obtain⟨_,u,h1,_,_,h2⟩:=cu 0 hp.args i o ho;refine⟨_,ho,λ_=>⟨?_,h2.deep⟩⟩;have hv:ni ins us i=some v:=hv;rw[hι i u h1];simp only[YZ]at h1;unfold ni at hv;split at hv
  ·simp[h1]at hv;exact hv
  ·simp[h1]at hv;exact hv
  simp at hv
 obtain⟨m,a1,a2,a3,a4,a5⟩:=kW (m:=m0) (us:=us) hi0 hfill (pr hp.args) (OW 0 hp.args (λ_ _ h=>h) (λi u hu=>by rw[Vt];exact hι i u (by simpa using hu))) (hp.apart.sublist mut_sub) (λu hu b hb=>by
  have hu':=mut_sub.subset hu;have hb':=tA hb;obtain⟨k1,k2⟩:=hp.own u hu' b hb';refine⟨.inr ⟨u,hu',hb'⟩,k1,k2,λi o ho _ hbl=>?_⟩;obtain⟨_,v,h1,_,h3,_⟩:=cu 0 hp.args i o ho;rw[hι i v h1]at hbl;exact pY hp.args hp.apart u hu' b hb ⟨_,h3,hbl⟩)
 refine⟨m,a1,a3,a4,rfl,by simp;omega,?_⟩;intro t;rcases yj 0 hp.args t with h|⟨u,_,h1,h2⟩
 ·rw[h];trivial
 have ht:((us.map aZ).toArray++WH (n-(us.map aZ).toArray.size) undef).getD t undef=aZ u:=by simp only[YZ]at h1;have:=(tz.1 h1).1;rw[Vr,Array.getElem?_append_left (by simpa using this)];simp[h1]
 rw[ht];refine qG a5 ?_;rcases h2 with⟨τ,y,cs,h3,h4,h5⟩|⟨h3,o,h5⟩|⟨h3,l,h5⟩
 ·rw[h3];exact⟨cs,h4,h5⟩
 ·rw[h3];obtain⟨_,v,h6,_,_,h7⟩:=cu 0 hp.args t o h5;rw[h1]at h6;simp only[ov]at h6;subst h6;exact(au (a:=.own t) (by intros;simp)).2 ⟨h7.one,o,h5,λ_=>(hι t u h1).symm⟩
 rw[h3];obtain⟨_,v,h6,_,_,h7⟩:=cu 0 hp.args t _ h5;rw[h1]at h6;simp only[ov]at h6;subst h6;obtain⟨b,c,el,q1,_⟩:=h7.rel m0 t rfl rfl (hι t u h1);exact(au (a:=.ptr t 0) (by intros;simp)).2 ⟨h7.one,_,h5,b,q1,by rw[<- hι t u h1,q1]⟩
end
end Go.Vm

/-
 A function's contract, from its body.
-/
namespace Go.Vm
section
variable {P:Program}{C:Ctx}{A:Anns}
theorem Th {d:Bool}{w:World}{F:Nat->Prop}{ins:List (Mode×Ty)}{us:List Value}{x:(aG (ins.map (·.2))).den}(hp:Pre C.glob w F ins us x){N:Nat}{a:Act}{m:Mem}{s:St}
  (hs:Sim C w ⟨jh (aY ins us),F,ni ins us,none⟩ N a m s.env) (hG:m.G=s.G) {outs:BC} {r:(aG ((outs.map (·.2)).map (·.2)++bm ins)).den} (h:Ke ins outs s d=some r) (hk:D0 P outs=true) :
  ∃ vs:List Value,((outs.map (·.1)).mapM (Ek a)).run P m.w=.ok vs m.w/\∃ us' F2 css,AP ins us us'/\PostB w F ins us us' (outs.map (·.2)) r (sK vs) m.w F2 css d:=by
 unfold Ke at h;cases hc:(tO d s outs && aP (bf s true outs) && pP (bf s true outs) (bf s false outs) && pP (bf s true outs) (d9 true s.G ins 0) && pP (bf s false outs) (d9 true s.G ins 0)
   && aP (d9 true s.G ins 0)&&pP (bf s true outs) (d9 false s.G ins 0)&&pP (d9 false s.G ins 0) (d9 true s.G ins 0))with
 |false=>rw[hc]at h;simp at h
 |true=>
  rw[hc]at h;simp only[U3]at h;simp only[sg]at hc;obtain⟨⟨⟨⟨⟨⟨⟨c1,c2⟩,c3⟩,c4⟩,c5⟩,c6⟩,c7⟩,c8⟩:=hc;split at h
  ·rename_i xr hxr;split at h
   ·rename_i y hy;have h:=L9 h;subst h;obtain⟨vs,r1,r2⟩:=Eg (P:=P) hs hG hxr hk;obtain⟨m2,a1,a2,a3,a4,a5,a6⟩:=jg (bf s false outs++d9 false s.G ins 0) hs.inv
    let m3:Mem:=⟨m2.w,λb=>m2.F b\/F b,m2.ι,m2.G⟩
    have hF:∀ b,m.F b->m3.F b:=λb hb=>.inl (a5.fro b hb).1;obtain⟨css,k1,k2,k3⟩:=Kn (m2:=m3) hs.inv hG a1 hF r2 c1 c2 (λb hb=>.inl (a6 b (Thru.mono (λi hi=>by simp[hi]) hb)));obtain⟨us',e0,e1,e2⟩:=yf (m2:=m3) hs.inv hG a1 hF (ins:=ins) (us:=us) 0 hp.args hy c6 (λb hb=>.inl (a6 b (Thru.mono (λi hi=>by simp[hi]) hb))) (λj u md τ hj hm hu o ho hob=>by
     rw[Vt]at ho ⊢;obtain⟨o',q1,q2⟩:=hs.inv.pin.1 j (aZ u) (show ni ins us j=some (aZ u)from O7 hj hm hu);rw[ho]at q1;simp only[ov]at q1;subst q1;exact(q2 hob).1)
    -- every such block is an object's that lives,and that no other result is read through
    have live:∀ b,jh (jt (outs.map (·.2)) css++ct ins us') b->∃ id o,id∉bf s false outs++d9 false s.G ins 0/\m.G.get id=some o/\isObj o=true/\HB (m.ι id) b:=by
     rintro b ⟨u,hu,hb⟩;rcases B6.1 hu with hu|hu
     ·obtain⟨id,o,j1,j2⟩:=k3.1 b ⟨u,hu,hb⟩;refine⟨id,o,λhn=>?_,j2⟩;rcases B6.1 hn with hn|hn
      ·exact oG c3 j1 hn
      exact oG c7 j1 hn
     obtain⟨id,o,j1,j2⟩:=e2.1 b ⟨u,hu,hb⟩;refine⟨id,o,λhn=>?_,j2⟩;rcases B6.1 hn with hn|hn
     ·exact oG c5 hn j1
     exact oG c8 hn j1
    refine⟨vs,r1,us',m3.F,css,e0,?_,?_,?_,by rw[k1],?_,?_,?_,?_⟩
    ·exact hs.inv.kept
    ·intro b hb;exact .inr hb
    ·rintro b (hb|hb)
     ·have q1:=a4.fro b hb;rw[a1]at q1;exact⟨q1,a4.bnd b hb⟩
     exact⟨Vn (hp.fro b hb) hs.inv.kept.size,.inl hb⟩
    ·rw[vn,<- a1];exact k2
    ·rw[vn,<- a1];exact e1
    ·refine V7.2 ⟨k3.2 c2,e2.2 c6,?_⟩;intro u hu v hv b hb hb';obtain⟨id,o,j1,j2,j3,j4⟩:=k3.1 b ⟨u,hu,hb⟩;obtain⟨id',o',l1,l2,l3,l4⟩:=e2.1 b ⟨v,hv,hb'⟩;have:=hs.inv.inj id id' o o' b j2 j3 l2 l3 j4 l4;subst this;exact oG c4 j1 l1
    intro u hu b hb;obtain⟨id,o,j1,j2,j3,j4⟩:=live b ⟨u,hu,hb⟩;obtain⟨q1,q2,q3⟩:=hs.inv.own id o b j2 j3 j4;have:=a4.own id o b (by rw[a3,cK _ _ id j1];exact j2) j3 (by rw[a2];exact j4);refine⟨q1,?_,q3⟩;rintro(hb'|hb')
    ·exact this.2.1 hb'
    rcases q1 with q1|⟨v,hv,hvb⟩
    ·have:=hp.fro b hb';omega
    exact(hp.own v hv b hvb).1 hb'
   simp at h
  simp at h
end
end Go.Vm

/-
 A function's contract, from its body: the join.
-/
namespace Go.Vm
section
variable {P:Program}{C:Ctx}{A:Anns}
theorem Hq {d:Bool}{f:FuncId}{fn:Func}{body:Code}{ins:List (Mode×Ty)}{outs:BC}{M:(aG (ins.map (·.2))).den->Option (aG ((outs.map (·.2)).map (·.2)++bm ins)).den}
  (hC : CtxOK P C) (hD : Bo P) (hf : P.funcs[f]? = some fn) (hb : fn.body = some body) (hn : (fn.name == "runtime.NumGoroutine") = false) (hL : EE C A (aX body)) (hd : kI fn.ntmps body = true)
  (hpins:DB A ins=true) (hres:fn.results=(outs.map (·.1)).toArray) (hk:D0 P outs=true) (heq:∀ x,vq C A body ins outs x d=M x) :
  Con.Holds P C.glob f ⟨ins,outs.map (·.2),M,d⟩:=by
 intro w F us x r hp hM;have hn' : ¬ fn.name = "runtime.NumGoroutine" := by simpa using hn
 refine .inl ⟨by simp[callFunc,hf,hn',hb],?_⟩;refine calls_of_wp hf hb ?_;have hx:vq C A body ins outs x d=some r:=(heq x).trans hM;unfold vq at hx;split at hx
 case h_2=>cases hx
 rename_i G0 hG0;obtain⟨m0,hw0,hGm,hs⟩:=PW hp fn.ntmps hG0;have hPin:QN ⟨jh (aY ins us),F,ni ins us,none⟩ A:=by
  intro key ann hann;obtain⟨k,hmem⟩:=Anns.mem_of_get hann;unfold DB at hpins;rw[U5]at hpins;have h1:=hpins _ hmem;rw[U5]at h1;have h2:∀ i v,ni ins us i=some v->i∈yW ins 0:=λi v hv=>by have:=Ns 0 hv;rwa[Vt]at this
  refine⟨⟨λi v hv=>?_,rfl⟩,λe sh hsh=>⟨λi v hv=>?_,rfl⟩⟩
  ·have:=h1 i (h2 i v hv);simp only[sg]at this;exact tr.1 this.1
  have:=h1 i (h2 i v hv);simp only[sg]at this;have h3:=this.2;rw[U5]at h3;exact tr.1 (h3 _ hsh)
 have fin {s':St} {a':Act} {m':Mem} (h1:Ke ins outs s' d=some r) (h2:m'.G=s'.G) (h3:Sim C w ⟨jh (aY ins us),F,ni ins us,none⟩ fn.ntmps a' m' s'.env) :
   a'.defers=[]/\∃ v,(Go.results fn a'.tmps).run P m'.w=.ok v m'.w/\∃ v',Ending.returned v=.returned v'/\∃ us' F2 css,AP ins us us'/\PostB w F ins us us' (outs.map (·.2)) r v' m'.w F2 css d:=by
  obtain⟨vs,e1,us',F2,css,e0,e2⟩:=Th (P:=P) hp h3 h2 h1 hk;refine⟨h3.defers,sK vs,?_,_,rfl,us',F2,css,e0,e2⟩;have hrun:(Go.results fn a'.tmps).run P m'.w=(((outs.map (·.1)).mapM (Ek a')).run P m'.w).andThen λvs w'=>.ok (sK vs) w':=by
   have hf':Go.results fn a'.tmps=(do let vs <- fn.results.mapM (Ek a');pure (if h:vs.size=1 then vs[0]else .tuple vs)):=by unfold Go.results;congr 1
   rw[hf',hres];simp only[Array.mapM_eq_mapM_toList,Sem.run_bind,map_eq_pure_bind,bind_assoc,pure_bind,Sem.run_pure];congr 1;funext l w';match l with
   |[]=>rfl
   |[u]=>rfl
   |_::_::_=>simp[sK]
  rw[hrun,e1];rfl
 subst hw0;refine SF (s:={ env:=pC ins 0 x,G:=G0 }) hC hD hPin body hL hd hs hGm hx ?_;intro e s' a' m' h1 h2 h3;cases e with
 |normal=>exact fin h1 h2 h3
 |exit i=>simp at h1
 |ret=>exact fin h1 h2 h3
end
end Go.Vm

/-
 A part of the memory is taken out, something is done there, and it is laid back.
-/
namespace Go.Vm
theorem Heap.get_append(X G:Heap)(i:Nat):Heap.get (X++G) i=(match X.get i with|some o=>some o|none=>G.get i):=by
 induction X with
 |nil=>rfl
 |cons p r ih=>
  obtain⟨k,v⟩:=p;simp only[Wj,Heap.get];cases A3 k i with
  |true=>rfl
  |false=>exact ih
theorem Heap.get_of_has{G:Heap}:∀{i:Nat},G.has i=true->∃ o,G.get i=some o:=by
 induction G with
 |nil=>intro i h;simp[Heap.has]at h
 |cons p r ih=>
  intro i h;obtain⟨k,v⟩:=p;simp only[Heap.has]at h;simp only[Heap.get];cases hk:A3 k i with
  |true=>exact⟨v,rfl⟩
  |false=>rw[hk]at h;exact ih h
theorem Heap.has_none{G:Heap}{i:Nat}(h:G.get i=none):G.has i=false:=by
 cases hh:G.has i with
 |false=>rfl
 |true=>obtain⟨o,ho⟩:=Heap.get_of_has hh;rw[h]at ho;cases ho
theorem Heap.mem_of_get{G:Heap}:∀{i:Nat} {o:Obj},G.get i=some o->(i,o)∈G:=by
 induction G with
 |nil=>intro i o h;simp[Heap.get]at h
 |cons p r ih=>
  intro i o h;obtain⟨k,v⟩:=p;simp only[Heap.get]at h;cases hk:A3 k i with
  |true=>rw[hk]at h;simp at h;subst h;rw[<- A6 hk];simp
  |false=>rw[hk]at h;exact Vk _ (ih h)
section
variable {P:Program}{C:Ctx}{w0:World}{M:Own}{m:Mem}
theorem HK(hi:Inv C w0 M m){G':Heap}(h:∀ id,G'.get id=m.G.get id):Inv C w0 M ⟨m.w,m.F,m.ι,G'⟩/\Evo m ⟨m.w,m.F,m.ι,G'⟩:=by
 have he:Evo m ⟨m.w,m.F,m.ι,G'⟩:=⟨λb hb=>⟨hb,rfl⟩,λid o ho=>⟨o,by show G'.get id=_;rw[h];exact ho,.inr (Goon.refl _ o)⟩⟩;refine⟨⟨hi.kept,?_,?_,?_,hi.fro,λg τ x hg=>(hi.glob g τ x hg).mono he.fro,hi.bnd,dB he hi.pin⟩,he⟩
 ·intro id o ho;exact eh he rfl (λ_ _=>rfl) (hi.objs id o (by rw[<- h];exact ho))
 ·intro id o b ho;exact hi.own id o b (by rw[<- h];exact ho)
 intro i j o p b ho hoo hp;exact hi.inj i j o p b (by rw[<- h];exact ho) hoo (by rw[<- h];exact hp)
theorem BP{Gi:Heap}(hsub:∀ id o,Gi.get id=some o->m.G.get id=some o){v:Value}:∀{a:Atom},ak m v a->gL Gi a=true->ak ⟨m.w,m.F,m.ι,Gi⟩ v a
 |.u,_,_=>trivial
 |.undef,h,_=>h
 |.nils _,h,_=>h
 |.val _ _,h,_=>h
 |.own id,h,hh=>by
  obtain⟨h1,o,ho,hv⟩:=h;obtain⟨o',ho'⟩:=Heap.get_of_has hh;have:=hsub id o' ho';rw[ho]at this;cases this
  exact⟨h1,o,ho',hv⟩
 |.view id off len,h,hh=>by
  obtain⟨h1,o,ho,hv⟩:=h;obtain⟨o',ho'⟩:=Heap.get_of_has hh;have:=hsub id o' ho';rw[ho]at this;cases this
  exact⟨h1,o,ho',hv⟩
 |.ptr id off,h,hh=>by
  obtain⟨h1,o,ho,hv⟩:=h;obtain⟨o',ho'⟩:=Heap.get_of_has hh;have:=hsub id o' ho';rw[ho]at this;cases this
  exact⟨h1,o,ho',hv⟩
 |.aptr id j p,h,hh=>by
  obtain⟨h1,o,ho,hv⟩:=h;obtain⟨o',ho'⟩:=Heap.get_of_has hh;have:=hsub id o' ho';rw[ho]at this;cases this
  exact⟨h1,o,ho',hv⟩
 |.cut id j p,h,hh=>by
  obtain⟨h1,o,ho,hv⟩:=h;obtain⟨o',ho'⟩:=Heap.get_of_has hh;have:=hsub id o' ho';rw[ho]at this;cases this
  exact⟨h1,o,ho',hv⟩
 |.ownd id,h,hh=>by
  obtain⟨h1,o,ho,hv⟩:=h;obtain⟨o',ho'⟩:=Heap.get_of_has hh;have:=hsub id o' ho';rw[ho]at this;cases this
  exact⟨h1,o,ho',hv⟩
 |.sub id ver j,h,hh=>by
  obtain⟨h1,o,ho,hv⟩:=h;obtain⟨o',ho'⟩:=Heap.get_of_has hh;have:=hsub id o' ho';rw[ho]at this;cases this
  exact⟨h1,o,ho',hv⟩
 |.saptr id ver j k,h,hh=>by
  obtain⟨h1,o,ho,hv⟩:=h;obtain⟨o',ho'⟩:=Heap.get_of_has hh;have:=hsub id o' ho';rw[ho]at this;cases this
  exact⟨h1,o,ho',hv⟩
 |.iptr id _ _ _ _,h,hh=>by
  obtain⟨h1,o,ho,hv⟩:=h;obtain⟨o',ho'⟩:=Heap.get_of_has hh;have:=hsub id o' ho';rw[ho]at this;cases this
  exact⟨h1,o,ho',hv⟩
 |.ownm id,h,hh=>by
  obtain⟨h1,o,ho,hv⟩:=h;obtain⟨o',ho'⟩:=Heap.get_of_has hh;have:=hsub id o' ho';rw[ho]at this;cases this
  exact⟨h1,o,ho',hv⟩
 |.bnd _ _,h,_=>h
 |.clo f caps,h,hh=>by
  obtain⟨vs,h1,h2⟩:=h;refine⟨vs,h1,?_⟩;simp only[gL,U5]at hh;clear h1;induction caps generalizing vs with
  |nil=>
   match vs,h2 with
   |[],_=>trivial
  |cons c caps ih=>
   match vs,h2 with
   |u::vs,h2=>
    obtain⟨⟨o,ho,hv⟩,h3⟩:=h2;obtain⟨o',ho'⟩:=Heap.get_of_has (hh c (by simp));have:=hsub c o' ho';rw[ho]at this;cases this
    exact⟨⟨o,ho',hv⟩,ih vs h3 λx hx=>hh x (by simp[hx])⟩
theorem sD{Gi:Heap}(hsub:∀ id o,Gi.get id=some o->m.G.get id=some o):∀{us:List Value} {l:List Atom},Rel2 (ak m) us l->l.all (λa=>gL Gi a)=true->Rel2 (ak ⟨m.w,m.F,m.ι,Gi⟩) us l
 |[],[],_,_=>trivial
 |_::_,[],h,_=>h.elim
 |[],_::_,h,_=>h.elim
 |_::_,_::_,h,hh=>by simp only[Xt,sg]at hh;exact⟨BP hsub h.1 hh.1,sD hsub h.2 hh.2⟩
theorem JC{Gi:Heap}(hsub:∀ id o,Gi.get id=some o->m.G.get id=some o){v:Value}:∀{sv:SV},RelSV m v sv->AD Gi sv=true->RelSV ⟨m.w,m.F,m.ι,Gi⟩ v sv
 |.av a,h,hh=>by
  cases a with
  |val τ x=>exact h
  |_=>exact(au (by intros;simp)).2 (BP hsub ((au (by intros;simp)).1 h) hh)
 |.agg l,h,hh=>by obtain⟨us,h1,h2,h3⟩:=h;exact⟨us,h1,h2,sD hsub h3 hh⟩
 |.tup l,h,hh=>by
  obtain⟨us,h1,h2⟩:=h;refine⟨us,h1,?_⟩;clear h1;induction l generalizing us with
  |nil=>
   match us,h2 with
   |[],_=>trivial
  |cons p l ih=>
   simp only[AD,Xt,sg]at hh;match us,h2 with
   |u::us,h2=>
    refine⟨?_,ih hh.2 us h2.2⟩;have h3:=h2.1;obtain⟨b,c⟩:=p;cases b with
    |true=>obtain⟨us,q1,q0,q2⟩:=h3;exact⟨us,q1,q0,sD hsub q2 hh.1⟩
    |false=>obtain⟨a,q1,q2⟩:=h3;simp only at q1;subst q1;refine⟨a,rfl,BP hsub q2 ?_⟩;have:=hh.1;simpa using this
theorem KY{v:Value}:∀{a:Atom},ak m v a->gL m.G a=true
 |.u,_=>rfl
 |.undef,_=>rfl
 |.nils _,_=>rfl
 |.val _ _,_=>rfl
 |.own _,h=>by obtain⟨_,o,ho,_⟩:=h;exact Heap.has_of_get ho
 |.view _ _ _,h=>by obtain⟨_,o,ho,_⟩:=h;exact Heap.has_of_get ho
 |.ptr _ _,h=>by obtain⟨_,o,ho,_⟩:=h;exact Heap.has_of_get ho
 |.aptr _ _ _,h=>by obtain⟨_,o,ho,_⟩:=h;exact Heap.has_of_get ho
 |.cut _ _ _,h=>by obtain⟨_,o,ho,_⟩:=h;exact Heap.has_of_get ho
 |.ownd _,h=>by obtain⟨_,o,ho,_⟩:=h;exact Heap.has_of_get ho
 |.sub _ _ _,h=>by obtain⟨_,o,ho,_⟩:=h;exact Heap.has_of_get ho
 |.saptr _ _ _ _,h=>by obtain⟨_,o,ho,_⟩:=h;exact Heap.has_of_get ho
 |.ownm _,h=>by obtain⟨_,o,ho,_⟩:=h;exact Heap.has_of_get ho
 |.iptr _ _ _ _ _,h=>by obtain⟨_,o,ho,_⟩:=h;exact Heap.has_of_get ho
 |.bnd _ _,_=>rfl
 |.clo f caps,h=>by
  obtain⟨vs,h1,h2⟩:=h;simp only[gL,U5];clear h1;induction caps generalizing vs with
  |nil=>simp
  |cons c caps ih=>
   match vs,h2 with
   |u::vs,h2=>
    obtain⟨⟨o,ho,_⟩,h3⟩:=h2;intro x hx;rcases A9.1 hx with rfl|hx
    ·exact Heap.has_of_get ho
    exact ih vs h3 x hx
theorem wz:∀{us:List Value} {l:List Atom},Rel2 (ak m) us l->∀ a∈l,gL m.G a=true
 |[],[],_=>by simp
 |_::_,[],h=>h.elim
 |[],_::_,h=>h.elim
 |_::_,_::_,h=>by
  intro a ha;rcases A9.1 ha with rfl|ha
  ·exact KY h.1
  exact wz h.2 a ha
theorem Cj{G G':Heap}(h:∀ i,G.has i=true->G'.has i=true){a:Atom}(ha:gL G a=true):gL G' a=true:=by
 cases a with
 |clo f c=>simp only[gL,U5]at ha ⊢;exactλi hi=>h i (ha i hi)
 |own _=>exact h _ ha
 |view _ _ _=>exact h _ ha
 |ptr _ _=>exact h _ ha
 |aptr _ _ _=>exact h _ ha
 |cut _ _ _=>exact h _ ha
 |ownd _=>exact h _ ha
 |sub _ _ _=>exact h _ ha
 |saptr _ _ _ _=>exact h _ ha
 |ownm _=>exact h _ ha
 |iptr _ _ _ _ _=>exact h _ ha
 |_=>rfl
def zI(m:Mem)(Gi:Heap):Own:=⟨λb=>∃ id,Blk ⟨m.w,m.F,m.ι,Gi⟩ id b,m.F,λ_=>none,none⟩
theorem Qw (hi:Inv C w0 M m){Gi:Heap}(hsub:∀ id o,Gi.get id=some o->m.G.get id=some o)(hbox:∀ id l,Gi.get id=some (.box l)->l.all (fun a=>gL Gi a)=true) :
  Inv C m.w (zI m Gi) ⟨m.w,m.F,m.ι,Gi⟩:=by
 refine⟨Kept.refl _ _,?_,?_,?_,hi.fro,λg τ x hg=>hi.glob g τ x hg,λb hb=>.inl hb,⟨λi v h=>by simp[zI]at h,λm0 h=>by simp[zI]at h⟩⟩
 ·intro id o ho;have hr:=hi.objs id o (hsub id o ho);cases o with
  |dead=>trivial
  |arr τ l=>exact hr
  |deep _ _ _ _=>exact hr
  |map _ _ _=>exact hr
  |box l=>obtain⟨b,c,el,h1,h2,h0,h3⟩:=hr;exact⟨b,c,el,h1,h2,h0,sD hsub h3 (hbox id l ho)⟩
 ·intro id o b ho hob hb;obtain⟨_,h2,h3⟩:=hi.own id o b (hsub id o ho) hob hb;exact⟨.inr ⟨id,o,ho,hob,hb⟩,h2,h3⟩
 intro i j o p b ho hoo hp hop h1 h2;exact hi.inj i j o p b (hsub i o ho) hoo (hsub j p hp) hop h1 h2
theorem Og (hi:Inv C w0 M m){Gi X:Heap}{m':Mem}(hsub:∀ id o,Gi.get id=some o->m.G.get id=some o)(hi':Inv C m.w (zI m Gi) m')(he:Evo ⟨m.w,m.F,m.ι,Gi⟩ m')
  (hG':m'.G=X++Gi) (hX:∀ id o,X.get id=some o->Gi.get id=none->m.G.get id=none) :
  ∃ m'',m''.w=m'.w/\m''.G=X++m.G/\Inv C w0 M m''/\Evo m m''/\∀ v sv,RelSV m' v sv->RelSV m'' v sv:=by
 let ι2:Nat->Value:=λid=>cond ((X++Gi).has id) (m'.ι id) (m.ι id)
 let m2:Mem:=⟨m'.w,m'.F,ι2,X++m.G⟩
 have hcase:∀ id o,(X++m.G).get id=some o->(m'.G.get id=some o/\ι2 id=m'.ι id)\/(Gi.get id=none/\m.G.get id=some o/\ι2 id=m.ι id):=by
  intro id o ho;rw[Heap.get_append]at ho;cases hx:X.get id with
  |some o1=>
   rw[hx]at ho;left;have hg:(X++Gi).get id=some o1:=by rw[Heap.get_append,hx]
   refine⟨by rw[hG',hg];exact ho,?_⟩;show cond _ _ _=_;rw[Heap.has_of_get hg];rfl
  |none=>
   rw[hx]at ho;cases hgi:Gi.get id with
   |some o1=>
    left;have hg:(X++Gi).get id=some o1:=by rw[Heap.get_append,hx];exact hgi
    have h1:=hsub id o1 hgi;have ho:m.G.get id=some o:=ho;rw[h1]at ho;refine⟨by rw[hG',hg];exact ho,?_⟩;show cond _ _ _=_;rw[Heap.has_of_get hg];rfl
   |none=>
    right;have hg:(X++Gi).get id=none:=by rw[Heap.get_append,hx];exact hgi
    refine⟨rfl,ho,?_⟩;show cond _ _ _=_;rw[Heap.has_none hg];rfl
 have hback:∀ id o,m'.G.get id=some o->(X++m.G).get id=some o/\ι2 id=m'.ι id:=by
  intro id o ho;rw[hG']at ho;have hι:ι2 id=m'.ι id:=by show cond _ _ _=_;rw[Heap.has_of_get ho];rfl
  refine⟨?_,hι⟩;rw[Heap.get_append]at ho ⊢;cases hx:X.get id with
  |some o1=>rw[hx]at ho;exact ho
  |none=>rw[hx]at ho;exact hsub id o ho
 have hMb:∀ id o b,m.G.get id=some o->isObj o=true->HB (m.ι id) b->Gi.get id=none->¬(zI m Gi) b:=by rintro id o b ho hob hb hn ⟨id',o',ho',hob',hb'⟩;have:=hi.inj id id' o o' b ho hob (hsub id' o' ho') hob' hb hb';subst this;have ho':Gi.get id=some o':=ho';rw[hn]at ho';cases ho'
 have hMw:∀ b,(zI m Gi) b->(w0.heap.size<=b\/M b)/\b<m.w.heap.size:=by rintro b ⟨id',o',ho',hob',hb'⟩;have:=hi.own id' o' b (hsub id' o' ho') hob' hb';exact⟨this.1,this.2.2⟩
 have hks:=hi.kept.size;have hks':=hi'.kept.size;have hother:∀ id o b,m.G.get id=some o->isObj o=true->HB (m.ι id) b->Gi.get id=none->m'.w.heap[b]?=m.w.heap[b]?:=by intro id o b ho hob hb hn;exact hi'.kept.block b (hi.own id o b ho hob hb).2.2 (hMb id o b ho hob hb hn)
 have he1:Evo m' m2:=⟨λb hb=>⟨hb,rfl⟩,λid o ho=>⟨o,(hback id o ho).1,.inr (.inl ⟨(hback id o ho).2,Alike.refl o⟩)⟩⟩;have he2:Evo m m2:=by
  refine⟨he.fro,λid o ho=>?_⟩;cases hgi:Gi.get id with
  |some o1=>
   have h1:=hsub id o1 hgi;rw[ho]at h1;cases h1
   obtain⟨o',h2,h3⟩:=he.get id o hgi;obtain⟨h4,h5⟩:=hback id o' h2;refine⟨o',h4,?_⟩;rcases h3 with h3|h3
   ·exact .inl h3
   have h5:m2.ι id=m'.ι id:=h5;rw[h5];exact .inr h3
  |none=>
   have hx:X.get id=none:=by
    cases hx:X.get id with
    |none=>rfl
    |some o1=>have:=hX id o1 hx hgi;rw[ho]at this;cases this
   have hg:(X++m.G).get id=some o:=by rw[Heap.get_append,hx];exact ho
   have hn:(X++Gi).get id=none:=by rw[Heap.get_append,hx];exact hgi
   refine⟨o,hg,.inr (.inl ⟨?_,Alike.refl o⟩)⟩;show cond _ _ _=_;rw[Heap.has_none hn];rfl
 refine⟨m2,rfl,rfl,⟨?_,?_,?_,?_,hi'.fro,λg τ x hg=>(hi'.glob g τ x hg),?_,dB he2 hi.pin⟩,he2,λv sv h=>qG he1 h⟩
 ·refine⟨hi'.kept.os.trans hi.kept.os,hi'.kept.tape.trans hi.kept.tape,hi'.kept.output.trans hi.kept.output,by show _<=m'.w.heap.size;omega,λb hb hM=>?_⟩;refine(hi'.kept.block b (by omega) ?_).trans (hi.kept.block b hb hM);intro hMb';rcases(hMw b hMb').1 with h|h
  ·omega
  exact hM h
 ·intro id o ho;rcases hcase id o ho with⟨h1,h2⟩|⟨h1,h2,h3⟩
  ·exact eh he1 h2 (λ_ _=>rfl) (hi'.objs id o h1)
  by_cases hob:isObj o=true
  ·exact eh he2 h3 (λb hb=>hother id o b h2 hob hb h1) (hi.objs id o h2)
  cases o<;>simp_all[isObj,jc]
 ·intro id o b ho hob hb;rcases hcase id o ho with⟨h1,h2⟩|⟨h1,h2,h3⟩
  ·have hb':HB (m'.ι id) b:=by rw[<- h2];exact hb
   obtain⟨q1,q2,q3⟩:=hi'.own id o b h1 hob hb';refine⟨?_,q2,q3⟩;rcases q1 with q1|q1
   ·exact .inl (by omega)
   exact(hMw b q1).1
  have hb':HB (m.ι id) b:=by rw[<- h3];exact hb
  obtain⟨q1,q2,q3⟩:=hi.own id o b h2 hob hb';refine⟨q1,?_,by show b<m'.w.heap.size;omega⟩;intro hF;rcases hi'.bnd b hF with h|h|h
  ·exact q2 h
  ·exact hMb id o b h2 hob hb' h1 h
  omega
 ·have cross:∀ i j o p b,m'.G.get i=some o->ι2 i=m'.ι i->Gi.get j=none->m.G.get j=some p->ι2 j=m.ι j->isObj o=true->isObj p=true->HB (ι2 i) b->HB (ι2 j) b->False:=by
   intro i j o p b a1 a2 b1 b2 b3 hoo hop h1 h2;rw[a2]at h1;rw[b3]at h2
   have q:=(hi'.own i o b a1 hoo h1).1;have:=(hi.own j p b b2 hop h2).2.2;rcases q with q|q
   ·omega
   exact hMb j p b b2 hop h2 b1 q
  intro i j o p b ho hoo hp hop h1 h2;rcases hcase i o ho with⟨a1,a2⟩|⟨a1,a2,a3⟩
  ·rcases hcase j p hp with⟨b1,b2⟩|⟨b1,b2,b3⟩
   ·exact hi'.inj i j o p b a1 hoo b1 hop (by rw[<- a2];exact h1) (by rw[<- b2];exact h2)
   exact(cross i j o p b a1 a2 b1 b2 b3 hoo hop h1 h2).elim
  rcases hcase j p hp with⟨b1,b2⟩|⟨b1,b2,b3⟩
  ·exact(cross j i p o b b1 b2 a1 a2 a3 hop hoo h2 h1).elim
  exact hi.inj i j o p b a2 hoo b2 hop (by rw[<- a3];exact h1) (by rw[<- b3];exact h2)
 intro b hF;rcases hi'.bnd b hF with h|h|h
 ·exact hi.bnd b h
 ·rcases(hMw b h).1 with h|h
  ·exact .inr (.inr h)
  exact .inr (.inl h)
 exact .inr (.inr (by omega))
end
def Suf(G:Heap)(r:Option St):Prop:=∀ s',r=some s'->∃ X,s'.G=X++G
section
variable {C:Ctx}{s:St}
theorem am{G:Heap}:Suf G none:=λ_ h=>by cases h
theorem zw{dst:Option Nat}{v:SV}{G:Heap}(h:∃ X,s.G=X++G):Suf G (some (aC dst v s)):=λs' h'=>by cases h';cases dst<;>exact h
theorem Kg:∃ X,s.G=X++s.G:=⟨[],rfl⟩
theorem fM{G:Heap}{x y:Option St}{b:Bool}(h1:Suf G x)(h2:Suf G y):Suf G (cond b x y):=by cases b<;>assumption
theorem wL{G:Heap}{c:Prop}[Decidable c]{x y:Option St}(h1:Suf G x)(h2:Suf G y):Suf G (if c then x else y):=by split<;>assumption
theorem ey{G:Heap}{α:Type}{x:Option α}{F:α->Option St}(h:∀ a,Suf G (F a)):Suf G (x.bind F):=by
 cases x with
 |none=>exact am
 |some a=>exact h a
theorem KF{G:Heap}{t:St}{site:Nat}{ob:Obj}{F:Nat->St->Option St}(ht:∃ X,t.G=X++G)(h:∀ i u,(∃ X,u.G=X++G)->Suf G (F i u)):Suf G (dS t site ob F):=by refine fM am (h _ _ ?_);obtain⟨X,hX⟩:=ht;exact⟨_::X,by rw[hX];rfl⟩
theorem MZ{G:Heap}{v:SV}{F:Int->Option St}(h:∀ n,Suf G (F n)):Suf G (asI v F):=by
 unfold asI;split
 ·exact h _
 exact am
theorem Ia{G:Heap}{v:SV}{F:Int->Option St}(h:∀ n,Suf G (F n)):Suf G (AO v F):=by
 unfold AO;split
 ·exact h _
 exact am
theorem Px{G:Heap}{e:Env}{d:Int}{x:Option Operand}{F:Int->Option St}(h:∀ n,Suf G (F n)):Suf G (Ow C e d x F):=by
 cases x with
 |none=>exact h _
 |some x=>exact MZ h
theorem FM{G:Heap}{sz:Nat}{i:Int}{F:List Atom->Option St}(h:∀ c,Suf G (F c)):∀(k j:Nat) (l:List Atom),Suf G (vi k sz l i j F)
 |0,_,_=>am
 |k+1,j,l=>by
  unfold vi;refine fM ?_ (FM h k (j+1) _);split
  ·exact h _
  exact am
theorem JH{G:Heap}{t:Nat}{x:SV}{i:Int}{F:Atom->Option St}(h:∀ n,Suf G (F n)):Suf G (indexAt C s t x i F):=by
 unfold indexAt;split
 ·exact ey λ_=>h _
 ·split
  ·exact ey λ_=>h _
  exact am
 ·split
  ·exact ey λ_=>h _
  exact am
 ·split
  ·exact ey λ_=>h _
  exact am
 ·split
  ·exact ey λ_=>h _
  exact am
 ·split
  ·exact fM (ey λ_=>h _) am
  exact am
 ·exact ey λ_=>h _
 ·split
  ·exact wL (fM (h _) (h _)) am
  exact am
 ·split
  ·exact wL (h _) am
  exact am
 exact am
theorem Li{G:Heap}{τ:Ty}{p:Atom}{F:SV->Option St}(h:∀ n,Suf G (F n)):Suf G (loadAt s τ p F):=by
 unfold loadAt;split
 ·split
  ·split
   ·exact h _
   exact am
  exact am
 ·split
  ·refine ey λ_=>?_;split
   ·split
    ·exact h _
    exact am
   exact am
  ·exact fM (h _) am
  exact am
 ·split
  ·refine fM (ey λ_=>?_) am;split
   ·exact h _
   exact am
  exact am
 ·split
  ·exact h _
  exact am
 ·split
  ·split
   ·exact fM (h _) am
   exact am
  exact am
 exact am
theorem Pg{G:Heap}{hole:Option Nat}{j:Nat}{x:Option St}(h:Suf G x):Suf G (JZ hole j x):=by
 unfold JZ;split
 ·exact h
 exact wL h am
theorem mg:∀(ids:List Nat) (G:Heap),∃ X,aD ids G=X++G
 |[],G=>⟨[],rfl⟩
 |i::r,G=>by obtain⟨X,hX⟩:=mg r ((i,.dead)::G);exact⟨X++[(i,.dead)],by simp[aD,hX]⟩
theorem mX{G G0:Heap}(ids:List Nat)(h:∃ X,G=X++G0):∃ X,aD ids G=X++G0:=by obtain⟨X,hX⟩:=mg ids G;obtain⟨Y,hY⟩:=h;exact⟨X++Y,by rw[hX,hY,Vv]⟩
theorem JN{τ:Ty}{p:Atom}{v:SV}{F:St->Option St}(h:∀ u,(∃ X,u.G=X++s.G)->Suf s.G (F u)):Suf s.G (storeAt s τ p v F):=by
 unfold storeAt;split
 ·split
  ·split
   ·refine fM ?_ am;split
    ·exact h _ ⟨[_],rfl⟩
    exact am
   exact am
  exact am
 ·split
  ·split
   ·refine ey λ_=>?_;split
    ·refine fM am (h _ ?_);obtain⟨X,hX⟩:=mg (dh v) s.G;exact⟨(_,_)::X,by show(_,_)::aD (dh v) s.G=_;rw[hX];rfl⟩
    exact am
   exact am
  ·refine fM ?_ am;split
   ·rename_i x _;refine Pg (h _ ?_);obtain⟨X,hX⟩:=mg x.2 s.G;exact⟨(_,_)::X,by show(_,_)::aD x.2 s.G=_;rw[hX];rfl⟩
   exact am
  exact am
 ·split
  ·refine fM ?_ am;split
   ·refine h _ ?_;obtain⟨X,hX⟩:=mg (dh v) s.G;exact⟨(_,_)::X,by show(_,_)::aD (dh v) s.G=_;rw[hX];rfl⟩
   exact am
  exact am
 ·split
  ·split
   ·exact fM (h _ ⟨[_],rfl⟩) am
   exact am
  exact am
 exact am
theorem O0{G:Heap}{v:SV}{F:Int->Option St}(h:∀ n,Suf G (F n)):Suf G (lenOf s v F):=by
 unfold lenOf;split
 ·exact h _
 ·exact h _
 ·exact h _
 ·split
  ·exact h _
  exact am
 ·split
  ·exact h _
  exact am
 ·split
  ·exact h _
  exact am
 ·split
  ·exact h _
  exact am
 ·split
  ·exact fM (h _) am
  exact am
 exact am
theorem Gq{G:Heap}{mx:Bool}{F:Int->Option St}(h:∀ n,Suf G (F n)):∀(l:List SV) (a:Int),Suf G (x5 mx a l F)
 |[],a=>h a
 |v::l,a=>Ia λb=>Gq h l _
theorem Kt{G:Heap}{x:SV}{lo:Int}{hi mx:Option Int}{F:SV->Option St}(h:∀ n,Suf G (F n)):Suf G (pH s x lo hi mx F):=by
 unfold pH;split
 ·exact ey λ_=>h _
 ·exact ey λ_=>h _
 ·exact wL (h _) am
 ·exact wL (h _) am
 ·split
  ·exact ey λ_=>h _
  exact am
 ·exact ey λ_=>h _
 ·split
  ·exact ey λ_=>wL (h _) am
  exact am
 exact am
theorem wQ{k:List Nat}:∀{o:Nat} {τ:Ty} {x:τ.den} {site:Nat} {G:Heap} {q:List Atom×Heap},oW k o τ x site G=some q->∃ X,q.2=X++G
 |o,.prod a b,x,site,G,q,h=>by
  simp only[oW]at h;split at h
  ·rename_i p hp;split at h
   ·rename_i p2 hp2;cases h;obtain⟨X,hX⟩:=wQ hp;obtain⟨Y,hY⟩:=wQ hp2;exact⟨Y++X,by rw[Vv,<- hX,<- hY]⟩
   cases h
  cases h
 |o,.slice e,x,site,G,q,h=>by
  unfold oW at h;cases hk:A3 (k7 k o) 0 with
  |true=>rw[hk]at h;cases h;exact⟨[],rfl⟩
  |false=>
   rw[hk]at h;simp only[U4]at h;cases hh:G.has (aA 8 G (100000*(o+1)+site))with
   |true=>rw[hh]at h;cases h
   |false=>rw[hh]at h;cases h;exact⟨[_],rfl⟩
 |_,.unit,_,_,_,_,h=>by cases h;exact⟨[],rfl⟩
 |_,.int _,_,_,_,_,h=>by cases h;exact⟨[],rfl⟩
 |_,.bool,_,_,_,_,h=>by cases h;exact⟨[],rfl⟩
 |_,.str,_,_,_,_,h=>by cases h;exact⟨[],rfl⟩
 |_,.arr _ _,_,_,_,_,h=>by cases h
 |_,.ptr _,_,_,_,_,h=>by cases h;exact⟨[],rfl⟩
 |_,.clo _ _,_,_,_,_,h=>by cases h
theorem tS{d:Bool}:∀{τ:Ty} {x:τ.den} {site:Nat} {G:Heap} {p:List Atom×Heap},bM d τ x site G=some p->∃ X,p.2=X++G
 |.prod a b,x,site,G,p,h=>by
  simp only[bM]at h;split at h
  ·rename_i p1 h1;split at h
   ·rename_i p2 h2;cases h;obtain⟨X,hX⟩:=tS h1;obtain⟨Y,hY⟩:=tS h2;exact⟨Y++X,by simp[hX,hY]⟩
   cases h
  cases h
 |.unit,_,_,_,p,h=>by simp only[bM]at h;cases h;exact⟨[],rfl⟩
 |.int _,_,_,_,p,h=>by simp only[bM]at h;cases h;exact⟨[],rfl⟩
 |.bool,_,_,_,p,h=>by simp only[bM]at h;cases h;exact⟨[],rfl⟩
 |.str,_,_,_,p,h=>by simp only[bM]at h;cases h;exact⟨[],rfl⟩
 |.slice e,x,site,G,p,h=>by
  simp only[bM]at h;cases hb:G.has (aA 8 G site)with
  |true=>rw[hb]at h;cases h
  |false=>rw[hb]at h;cases h;exact⟨[_],rfl⟩
 |.arr _ _,_,_,_,_,h=>by simp[bM]at h
 |.ptr T,x,site,G,p,h=>by
  simp only[bM]at h;split at h
  ·rename_i q hq;obtain⟨X,hX⟩:=wQ hq;cases hb:q.2.has (aA 8 q.2 site)with
   |true=>rw[hb]at h;cases h
   |false=>rw[hb]at h;cases h;exact⟨(aA 8 q.2 site,Obj.box q.1)::X,by show(aA 8 q.2 site,Obj.box q.1)::q.2=_;rw[Wj,<- hX]⟩
  cases h
 |.clo _ _,_,_,_,_,h=>by simp[bM]at h
theorem AI{d:Bool}:∀{outs:List (Bool×Ty)} {x:(aG (outs.map (·.2))).den} {site:Nat} {G:Heap} {q:List (Bool×List Atom)×Heap},ng d outs x site G=some q->∃ X,q.2=X++G
 |[],_,_,_,q,h=>by simp only[ng]at h;cases h;exact⟨[],rfl⟩
 |p::r,x,site,G,q,h=>by
  unfold ng at h;split at h
  ·rename_i c hc;split at h
   ·rename_i q2 h2;cases h;obtain⟨Y,hY⟩:=AI h2;have h1:∃ X,c.2=X++G:=by
     cases hp:p.1 with
     |true=>rw[hp]at hc;exact tS hc
     |false=>rw[hp]at hc;cases hc;exact⟨[],rfl⟩
    obtain⟨X,hX⟩:=h1;exact⟨Y++X,by simp[hX,hY]⟩
   cases h
  cases h
theorem gp:∀{ins:List (Mode×Ty)} {vs:List SV} {x:(aG (bm ins)).den} {G G0 G':Heap},(∃ X,G=X++G0)->ao ins vs x G=some G'->∃ X,G'=X++G0
 |[],[],_,G,G0,G',hG,h=>by simp only[ao]at h;cases h;exact hG
 |[],_::_,_,_,_,_,_,h=>by simp[ao]at h
 |(.rd,_)::r,[],_,_,_,_,_,h=>by simp[ao]at h
 |(.upd,_)::r,[],_,_,_,_,_,h=>by simp[ao]at h
 |(.take,_)::r,[],_,_,_,_,_,h=>by simp[ao]at h
 |(.box _,τ)::r,[],_,_,_,_,_,h=>by cases τ<;>simp[ao]at h
 |(.box _,τ)::r,v::vs,x,G,G0,G',hG,h=>by
  cases τ with
  |ptr T=>
   simp only[ao]at h;have hc:∀ k (o:Obj),∃ X,((k,o)::G)=X++G0:=λk o=>by obtain⟨X,hX⟩:=hG;exact⟨_::X,by rw[hX];rfl⟩
   split at h
   ·exact gp (ins:=r) (hc _ _) h
   cases h
  |_=>simp[ao]at h
 |(.rd,_)::r,_::vs,x,G,G0,G',hG,h=>by simp only[ao]at h;exact gp (ins:=r) hG h
 |(.take,_)::r,v::vs,x,G,G0,G',hG,h=>by
  simp only[ao]at h;have hc:∀ k,∃ X,((k,Obj.dead)::G)=X++G0:=λk=>by obtain⟨X,hX⟩:=hG;exact⟨_::X,by rw[hX];rfl⟩
  split at h
  ·exact gp (ins:=r) hG h
  ·exact gp (ins:=r) (hc _) h
  ·exact gp (ins:=r) (hc _) h
  cases h
 |(.upd,.slice e)::r,v::vs,x,G,G0,G',hG,h=>by
  simp only[ao]at h;have hc:∀ k (o:Obj),∃ X,((k,o)::G)=X++G0:=λk o=>by obtain⟨X,hX⟩:=hG;exact⟨_::X,by rw[hX];rfl⟩
  split at h
  ·exact gp (ins:=r) hG h
  ·exact gp (ins:=r) (hc _ _) h
  cases h
 |(.upd,.int _)::_,_::_,_,_,_,_,_,h=>by simp[ao]at h
 |(.upd,.bool)::_,_::_,_,_,_,_,_,h=>by simp[ao]at h
 |(.upd,.str)::_,_::_,_,_,_,_,_,h=>by simp[ao]at h
 |(.upd,.prod _ _)::_,_::_,_,_,_,_,_,h=>by simp[ao]at h
 |(.upd,.unit)::_,_::_,_,_,_,_,_,h=>by simp[ao]at h
 |(.upd,.arr _ _)::_,_::_,_,_,_,_,_,h=>by simp[ao]at h
 |(.upd,.ptr _)::_,_::_,_,_,_,_,_,h=>by simp[ao]at h
 |(.upd,.clo _ _)::_,_::_,_,_,_,_,_,h=>by simp[ao]at h
theorem Ef{site:Nat}{G:Heap}(v:SV):∃ X,(dJ site G v).2=X++G:=by
 unfold dJ;split
 ·split
  ·rename_i ver' σ l' hg;cases hc:(A3 _ ver' && !G.has (aA 8 G site))with
   |false=>exact⟨[],rfl⟩
   |true=>exact⟨[_,_],rfl⟩
  exact⟨[],rfl⟩
 exact⟨[],rfl⟩
theorem n8{site:Nat}:∀(ins:List (Mode×Ty)) (vs:List SV) (G:Heap),∃ X,(fg site ins vs G).2=X++G
 |[],vs,G=>⟨[],by cases vs<;>rfl⟩
 |(md,_)::_,[],G=>⟨[],by cases md<;>rfl⟩
 |(.rd,_)::r,v::vs,G=>n8 r vs G
 |(.upd,_)::r,v::vs,G=>n8 r vs G
 |(.box _,_)::r,v::vs,G=>n8 r vs G
 |(.take,_)::r,v::vs,G=>by obtain⟨X,hX⟩:=Ef (site:=site) (G:=G) v;obtain⟨Y,hY⟩:=n8 (site:=site) r vs (dJ site G v).2;exact⟨Y++X,by show(fg site r vs (dJ site G v).2).2=_;rw[hY,hX,Vv]⟩
theorem nF:∀{ins:List (Mode×Ty)} {vs:List SV} {x:(aG (bm ins)).den} {site:Nat} {G G0 G':Heap},(∃ X,G=X++G0)->dy ins vs x site G=some G'->∃ X,G'=X++G0
 |[],vs,_,_,G,G0,G',hG,h=>by
  have h:some G=some G':=by cases vs<;>exact h
  cases h;exact hG
 |(md,τ)::r,[],_,_,_,_,_,_,h=>by cases md<;>first|(simp[dy]at h;done)|(cases τ<;>simp[dy]at h)
 |(.rd,_)::r,_::vs,x,site,G,G0,G',hG,h=>nF (ins:=r) (vs:=vs) (x:=x) hG h
 |(.take,_)::r,_::vs,x,site,G,G0,G',hG,h=>nF (ins:=r) (vs:=vs) (x:=x) hG h
 |(.upd,_)::r,_::vs,x,site,G,G0,G',hG,h=>nF (ins:=r) (vs:=vs) (x:=x.2) hG h
 |(.box k,τ)::r,v::vs,x,site,G,G0,G',hG,h=>by
  cases τ with
  |ptr T=>
   simp only[dy]at h;split at h
   ·split at h
    ·rename_i p hp;obtain⟨X,hX⟩:=hG;obtain⟨Y,hY⟩:=wQ hp;exact nF (ins:=r) (vs:=vs) ⟨_::(Y++X),by rw[hY,hX,Wj,Vv]⟩ h
    cases h
   cases h
  |_=>simp[dy]at h
theorem Ku{G0:Heap}{site f:Nat}{vs:List SV}{F:SV->St->Option St}(hs:∃ X,s.G=X++G0)(h:∀ v u,(∃ X,u.G=X++G0)->Suf G0 (F v u)):Suf G0 (wv C s site f vs F):=by
 unfold wv;split
 ·split
  ·refine ey λ_=>fM ?_ am;split
   ·rename_i G' hG';have h1:=gp hs hG';split
    ·rename_i q hq;obtain⟨X,hX⟩:=AI hq;split
     ·rename_i G2 hG2;refine h _ _ ?_;have h2:∀ b l l',∃ Y,cond b (aD l' G') (aD l (aD l' G'))=Y++G0:=λb l l'=>by
       cases b with
       |true=>exact mX l' h1
       |false=>exact mX l (mX l' h1)
      obtain⟨Y,hY⟩:=h2 _ _ _;exact nF ⟨X++Y,by rw[hX,hY,Vv]⟩ hG2
     exact am
    exact am
   exact am
  exact am
 exact am
theorem Le{site f:Nat}{vs:List SV}{F:SV->St->Option St}(h:∀ v u,(∃ X,u.G=X++s.G)->Suf s.G (F v u)):Suf s.G (sQ C s site f vs F):=by
 unfold sQ;split
 ·exact fM (ey λp=>h _ _ ⟨p.2,rfl⟩) am
 split
 ·rename_i c _;exact Ku (n8 c.ins vs s.G) h
 exact am
theorem RC{G:Heap}{x y:Option St}(h1:Suf G x):Suf G (G6 x y):=by
 unfold G6;split
 ·exact h1
 exact am
theorem Dr(o:Oper):Suf s.G (ax C o s some):=by
 unfold ax;dsimp only;have P0:∀(v:SV),Suf s.G (some (aC o.dst v s)):=λv=>zw Kg;have N0:∀(t:St) (ob:Obj) (v:Nat->SV),(∃ X,t.G=X++s.G)->Suf s.G (dS t (o.dst.getD 0) ob λi s2=>some (aC o.dst (v i) s2)):=λt ob v ht=>KF ht λi u hu=>zw hu;split;all_goals first|exact P0 _|exact am|skip
 all_goals repeat' first
  |exact am
  |exact P0 _
  |exact N0 _ _ _ Kg
  |(refine N0 _ _ _ ?_;exact mg _ _)
  |(refine N0 _ _ _ ?_;exact mX _ (Ef _))
  |refine fM ?_ ?_
  |refine wL ?_ ?_
  |refine ey λ_=>?_
  |exact RC (P0 _)
  |exact zw ⟨[_],rfl⟩
  |exact zw (s:=⟨_,aD _ s.G⟩) (mg _ _)
  |exact Li λ_=>P0 _
  |exact JN λu hu=>zw hu
  |exact O0 λ_=>P0 _
  |exact Gq (λ_=>P0 _) _ _
  |exact Kt λ_=>P0 _
  |exact JH λ_=>P0 _
  |exact FM (λ_=>P0 _) _ _ _
  |exact Le λv u hu=>zw hu
  |refine MZ λ_=>?_
  |refine Ia λ_=>?_
  |refine Px λ_=>?_
  |split
end
end Go.Vm

/-
 What is run in a region whose operations stand in no fixed order: told step by step.
-/
namespace Go.Vm
section
variable {C:Ctx}{s:St}{R:Type}{K:St->Option R}{o:Oper}
theorem Hn(h1:vG C o s.env=true):ax C o s K=(ax C o s some).bind K:=by
 by_cases hb:∀ op xt x y yt,o.op≠.binOp op xt x y yt
 ·exact zy hb
 simp only[Classical.not_forall,Classical.not_not]at hb;obtain⟨op,xt,x,y,yt,ho⟩:=hb;simp only[vG,ho]at h1;simp only[ax,ho];split
 ·refine aJ (aJ rfl rfl) (aJ ?_ rfl);split
  ·exact aJ rfl rfl
  ·exact aJ rfl rfl
  split
  ·rfl
  rfl
 ·split
  ·exact bG λ_=>rfl
  split
  ·rfl
  rfl
 ·refine aJ ?_ rfl;split
  ·rfl
  ·rfl
  rfl
 ·rename_i hx hy;have hc:ED y=false:=by rw[hx,hy]at h1;simpa using h1
  rw[hc];rfl
 ·refine aJ ?_ rfl;split
  ·rfl
  ·rfl
  rfl
 ·split
  ·split
   ·split
    ·rfl
    ·rfl
    rfl
   rfl
  rfl
 split
 ·refine aJ ?_ rfl;split
  ·split
   ·split
    ·rfl
    ·rfl
    rfl
   rfl
  rfl
 rfl
theorem AU(hf:rG o=true){e:Env}{G:Heap}{s':St}(h:ax C o ⟨e,G⟩ some=some s'):s'.G=G/\∀ G',ax C o ⟨e,G'⟩ some=some ⟨s'.env,G'⟩:=by
 have put:∀(v:SV) (G:Heap),(aC o.dst v ⟨e,G⟩).G=G/\∀ G',aC o.dst v ⟨e,G'⟩=⟨(aC o.dst v ⟨e,G⟩).env,G'⟩:=λv G=>by cases o.dst<;>exact⟨rfl,λ_=>rfl⟩
 have fin:∀(v:SV),some (aC o.dst v ⟨e,G⟩)=some s'->s'.G=G/\∀ G',some (aC o.dst v ⟨e,G'⟩)=some (⟨s'.env,G'⟩:St):=λv hv=>by cases hv;exact⟨(put v G).1,λG'=>by rw[(put v G).2]⟩
 unfold rG at hf;split at hf
 ·rename_i x ho;simp only[ax,ho]at h ⊢;exact fin _ h
 ·rename_i x ho;simp only[ax,ho]at h ⊢;exact fin _ h
 ·rename_i c x y ho;simp only[ax,ho]at h ⊢;split at h
  ·rename_i t ht;cases t with
   |true=>exact fin _ h
   |false=>exact fin _ h
  cases h
 ·rename_i x i ho;simp only[ax,ho]at h ⊢;split at h
  ·rename_i l hl;split at h
   ·rename_i c hc;have:=fin _ h;refine⟨this.1,λG'=>?_⟩;exact this.2 G'
   ·rename_i a ha;have:=fin _ h;refine⟨this.1,λG'=>?_⟩;exact this.2 G'
   cases h
  cases h
 ·rename_i op t x ho;simp only[ax,ho]at h ⊢;split at h
  ·rename_i b hx;have:=fin _ h;refine⟨this.1,λG'=>?_⟩;exact this.2 G'
  ·rename_i k n hx;have:=fin _ h;refine⟨this.1,λG'=>?_⟩;exact this.2 G'
  cases h
 ·rename_i t parts ho;simp only[ax,ho]at h ⊢;cases ht:C.tab.get t with
  |none=>rw[ht]at h;cases h
  |some τ=>
   rw[ht]at h;simp only at h ⊢;cases ha:τ.isAgg with
   |false=>rw[ha]at h;cases h
   |true=>
    rw[ha,U3]at h;cases hc:tE τ (parts.toList.map λp=>(p.1,aw C e p.2)) (zeroCells τ)with
    |none=>rw[hc]at h;cases h
    |some c=>rw[hc]at h;simp only[U3];exact fin _ h
 ·rename_i t x f ho;simp only[ax,ho]at h ⊢;cases hx:aw C e x with
  |tup l=>rw[hx]at h;cases h
  |agg l=>
   rw[hx]at h;simp only at h ⊢;cases ht:C.tab.get t with
   |none=>rw[ht]at h;cases h
   |some τ=>
    rw[ht]at h;simp only at h ⊢;cases hq:τ.field f with
    |none=>rw[hq]at h;cases h
    |some q=>
     obtain⟨o',t'⟩:=q;rw[hq]at h;simp only at h ⊢;cases hc:zk t'.size (l.drop o')with
     |none=>rw[hc]at h;cases h
     |some c=>rw[hc]at h;exact fin _ h
  |av at'=>
   rw[hx]at h;cases at' with
   |val τ y=>
    simp only at h ⊢;cases ht:C.tab.get t with
    |none=>rw[ht]at h;cases h
    |some τ'=>
     rw[ht]at h;simp only at h ⊢;cases hd:decide (τ=τ')with
     |false=>rw[hd]at h;cases h
     |true=>
      rw[hd,U3]at h;cases hq:fN τ y f with
      |none=>rw[hq]at h;cases h
      |some q=>rw[hq]at h;simp only[U3];exact fin _ h
   |_=>cases h
 cases hf
theorem D6 {e:Env}(hl:wU C o e=true){G:Heap}{s':St}(h:ax C o ⟨e,G⟩ some=some s') :
  s'.G=G/\∀ G':Heap,(∀ id l,C.vr id=false->G.get id=some (.box l)->G'.get id=some (.box l))->ax C o ⟨e,G'⟩ some=some ⟨s'.env,G'⟩:=by
 have put:∀(v:SV) (G:Heap),(aC o.dst v ⟨e,G⟩).G=G/\∀ G',aC o.dst v ⟨e,G'⟩=⟨(aC o.dst v ⟨e,G⟩).env,G'⟩:=λv G=>by cases o.dst<;>exact⟨rfl,λ_=>rfl⟩
 have fin:∀(v:SV),some (aC o.dst v ⟨e,G⟩)=some s'->s'.G=G/\∀ G',some (aC o.dst v ⟨e,G'⟩)=some (⟨s'.env,G'⟩:St):=λv hv=>by cases hv;exact⟨(put v G).1,λG'=>by rw[(put v G).2]⟩
 unfold wU at hl;split at hl
 ·rename_i t x f ho;split at hl
  ·rename_i id off hx;simp only[ax,ho,hx]at h ⊢;split at h
   ·rename_i l τ hg ht;split at h
    ·rename_i o' t' hf;cases hb:VK 1 t'.size with
     |false=>rw[hb]at h;cases h
     |true=>rw[hb,U3]at h;have:=fin _ h;refine⟨this.1,λG' hG'=>?_⟩;simp only[hG' id l (by simpa using hl) hg,ht,hf,hb,U3];exact this.2 G'
    cases h
   cases h
  cases hl
 ·rename_i t x ho;split at hl
  ·rename_i id off hx;simp only[ax,ho,hx]at h ⊢;split at h
   ·rename_i τ p ht hp;cases hp;simp only[loadAt]at h ⊢;split at h
    ·rename_i l hg;split at h
     ·rename_i c hc;have:=fin _ h;refine⟨this.1,λG' hG'=>?_⟩;simp only[ht,hG' id l (by simpa using hl) hg,hc];exact this.2 G'
     cases h
    cases h
   cases h
  cases hl
 ·rename_i op t x y t' ho;split at hl
  ·rename_i k a k' b hx hy;simp only[ax,ho,hx,hy]at h ⊢;cases hsh:Cu op with
   |true=>
    rw[hsh,U3]at h;simp only[U3];cases hz:ltI b 0 with
    |true=>rw[hz]at h;cases h
    |false=>rw[hz]at h;have:=fin _ h;exact⟨this.1,λG' _=>this.2 G'⟩
   |false=>
   rw[hsh,U4]at h;simp only[U4];cases hk:decide (k=k')with
   |false=>rw[hk]at h;cases h
   |true=>
    rw[hk,U3]at h;simp only[U3];split at h
    ·cases hz:eqI b 0 with
     |true=>rw[hz]at h;cases h
     |false=>rw[hz]at h;have:=fin _ h;exact⟨this.1,λG' _=>this.2 G'⟩
    ·cases hz:eqI b 0 with
     |true=>rw[hz]at h;cases h
     |false=>rw[hz]at h;have:=fin _ h;exact⟨this.1,λG' _=>this.2 G'⟩
    split at h
    ·have:=fin _ h;exact⟨this.1,λG' _=>this.2 G'⟩
    cases h
  cases hl
 cases hl
theorem IK{G G':Heap}(h:uG C G G'=true){X:Heap}(hX:G'=X++G):∀ id l,C.vr id=false->G.get id=some (.box l)->G'.get id=some (.box l):=by
 intro id l hv hl;subst hX;unfold uG at h;rw[List.length_append,Nat.add_sub_cancel,WD,U5]at h;rw[Heap.get_append];cases hx:X.get id with
 |none=>exact hl
 |some ob=>have:=h _ (Heap.mem_of_get hx);rw[hl]at this;simp only at this;rw[hv]at this;cases this
end
section
variable {C:Ctx}{R:Type}{res:R}{all:List Oper}
def AH(all:List Oper)(o:Oper)(e:Env):Bool->Prop
 |true=>o.guard=none\/∃ j want d,o.guard=some (j,want)/\pU all j=some d/\e.get d=.av (.val .bool want)
 |false=>∃ j want d,o.guard=some (j,want)/\pU all j=some d/\(e.get d=.av .undef\/e.get d=.av (.val .bool (!want)))
theorem Fb{o:Oper}{e e':Env}(h:∀ t,e'.get t=e.get t):kY all o e'=kY all o e:=by unfold kY;exact List.map_congr_left λt _=>by rw[h t]
theorem Pp{o:Oper}{e:Env}:∀ t,(kY all o e).get t=e.get t/\t∈looks all o\/(kY all o e).get t=.av .u:=by
 intro t;unfold kY;induction looks all o with
 |nil=>exact .inr rfl
 |cons a l ih=>
  simp only[L3,Env.get];cases h:A3 a t with
  |true=>left;rw[A6 h];exact⟨rfl,by simp⟩
  |false=>
   rcases ih with⟨ih,hm⟩|ih
   ·left;exact⟨ih,by simp[hm]⟩
   right;exact ih
theorem EL{d:Nat}{b:Bool}{e:Env}(h:e.get d=.av (.val .bool b))(t:Nat):Env.get ((d,.av (.val .bool b))::e) t=e.get t:=by
 rw[Env.get_cons];split
 ·rename_i hh;subst hh;exact h.symm
 rfl
theorem Fs {o:Oper}{e:Env}{run skip:Env->Option R}
  (h:(match o.guard with
   |none=>run e
   |some (j,want)=>match pU all j with
    |none=>none
    |some d=>match e.get d with
     |.av (.val .bool b)=>
      cond b
       (cond want (run ((d,.av (.val .bool true))::e)) (skip ((d,.av (.val .bool true))::e)))
       (cond want (skip ((d,.av (.val .bool false))::e)) (run ((d,.av (.val .bool false))::e)))
     |.av .undef=>skip e
     |_=>none)=some res) :
  (AH all o e true/\∃ e',(∀ t,e'.get t=e.get t)/\run e'=some res)\/(AH all o e false/\∃ e',(∀ t,e'.get t=e.get t)/\skip e'=some res):=by
 split at h
 ·rename_i hg;exact .inl ⟨.inl hg,e,λ_=>rfl,h⟩
 rename_i j want hg;split at h
 ·cases h
 rename_i d hd;split at h
 ·rename_i b hb;cases b with
  |true=>
   cases want with
   |true=>exact .inl ⟨.inr ⟨j,true,d,hg,hd,hb⟩,_,EL hb,h⟩
   |false=>exact .inr ⟨⟨j,false,d,hg,hd,.inr hb⟩,_,EL hb,h⟩
  |false=>
   cases want with
   |true=>exact .inr ⟨⟨j,true,d,hg,hd,.inr hb⟩,_,EL hb,h⟩
   |false=>exact .inl ⟨.inr ⟨j,false,d,hg,hd,hb⟩,_,EL hb,h⟩
 ·rename_i hb;exact .inr ⟨⟨j,want,d,hg,hd,.inl hb⟩,e,λ_=>rfl,h⟩
 cases h
theorem H1(dst:Option Nat)(v:SV)(e:Env)(t:Nat):(LK dst v e).get t=if dst=some t then v else e.get t:=by
 cases dst with
 |none=>simp[LK]
 |some d=>simp[LK,Env.get_cons]
def HY(C:Ctx)(all:List Oper)(ms:List Nat)(nd:Nat->Bool)(B:Heap)(V:Nat->SV)(X:Nat->Heap)(E:Nat->Env)(L:Nat->List (Nat×Heap))(j:Nat)(o:Oper):Prop:=
 (∀ t,(E (j+1)).get t=if o.dst=some t then V j else(E j).get t) /\
 ((AH all o (E j) true/\L (j+1)=(j,X j) :: L j/\((kY all o (E j)).all fun p=>AD (cR (ms.getD j 0) (L j) B) p.2)=true /\
   ((L j).all λp=>!(bit (ms.getD j 0) p.1)||yi (cR (ms.getD j 0) (L j) B) p.2)=true/\(nd j=true->wU C o (kY all o (E j))=true) /\
   ∃ s',ax C o ⟨kY all o (E j),cR (ms.getD j 0) (L j) B⟩ some=some s'/\V j=s'.env.get (o.dst.getD 0)/\s'.G=X j++cR (ms.getD j 0) (L j) B) \/
  (AH all o (E j) false/\L (j+1)=L j/\V j=.av .undef/\X j=[]))
theorem cA{α:Type}(f:Nat->α){i j:Nat}(a:α)(h:i<j):(λj=>if j=i then a else f j) j=f j:=by
 have:j≠i:=by omega
 simp[this]
theorem Gt {ms:List Nat}{nd:Nat->Bool}{B:Heap}{K:Env->List (Nat×Heap)->Option R}:∀(r:List Oper) (i:Nat) (e:Env) (N:List (Nat×Heap)),(∀ j,j < r.length->r[j]?=all[i+j]?) ->
  KN C all ms nd i r e N B K=some res ->
  ∃(V:Nat->SV) (X:Nat->Heap) (E:Nat->Env) (L:Nat->List (Nat×Heap)),E i=e/\L i=N/\K (E (i+r.length)) (L (i+r.length))=some res /\
   ∀ j o,i<=j->j<i+r.length->all[j]?=some o->HY C all ms nd B V X E L j o
 |[],i,e,N,_,h=>⟨λ_=>.av .u,λ_=>[],λ_=>e,λ_=>N,rfl,rfl,h,λj o h1 h2=>by simp at h2;omega⟩
 |o::r,i,e,N,hl,h=>by
  have hi:all[i]?=some o:=by simpa using(hl 0 (by simp)).symm
  have hl':∀ j,j<r.length->r[j]?=all[i+1+j]?:=λj hj=>by have:=hl (j+1) (by simp;omega);simpa[VS,WU 1 j]using this
  unfold KN at h;have key:∀(v:SV) (x:Heap) (e1:Env) (N1:List (Nat×Heap)),KN C all ms nd (i+1) r e1 N1 B K=some res ->
    (∀(V:Nat->SV) (X:Nat->Heap) (E:Nat->Env) (L:Nat->List (Nat×Heap)),V i=v->X i=x->E i=e->E (i+1)=e1->L i=N->L (i+1)=N1->HY C all ms nd B V X E L i o) ->
    ∃(V:Nat->SV) (X:Nat->Heap) (E:Nat->Env) (L:Nat->List (Nat×Heap)),E i=e/\L i=N/\K (E (i+(o::r).length)) (L (i+(o::r).length))=some res /\
     ∀ j o',i<=j->j<i+(o::r).length->all[j]?=some o'->HY C all ms nd B V X E L j o':=by
   intro v x e1 N1 h1 h2;obtain⟨V,X,E,L,q1,q2,q3,q4⟩:=Gt r (i+1) e1 N1 hl' h1;refine⟨λj=>if j=i then v else V j,λj=>if j=i then x else X j,λj=>if j=i then e else E j,λj=>if j=i then N else L j,by simp,by simp,?_,?_⟩
   ·rw[B2,show i+(r.length+1)=i+1+r.length by omega,cA E e (by omega:i<i+1+r.length),cA L N (by omega:i<i+1+r.length)];exact q3
   intro j o' hj1 hj2 ho';rcases VO hj1 with rfl|hj1
   ·rw[hi]at ho';cases ho'
    exact h2 _ _ _ _ (by simp) (by simp) (by simp) (by simp[q1]) (by simp) (by simp[q2])
   have:=q4 j o' hj1 (by simp at hj2;omega) ho';unfold HY at this ⊢;rw[cA V v hj1,cA X x hj1,cA E e hj1,cA E e (by omega:i<j+1),cA L N hj1,cA L N (by omega:i<j+1)];exact this
  rcases Fs (all:=all) (o:=o) (e:=e) (run:=λe'=>cond (vG C o (kY all o e')&&((kY all o e').all λp=>AD (cR (ms.getD i 0) N B) p.2)&&(N.all λp=>!(bit (ms.getD i 0) p.1)||yi (cR (ms.getD i 0) N B) p.2)&&(!nd i||wU C o (kY all o e')))
   (ax C o { env:=kY all o e',G:=cR (ms.getD i 0) N B } λs'=>
    KN C all ms nd (i+1) r (LK o.dst (s'.env.get (o.dst.getD 0)) e') ((i,s'.G.take (s'.G.length-(cR (ms.getD i 0) N B).length))::N) B K) none)
   (skip:=λe'=>KN C all ms nd (i+1) r (LK o.dst (.av .undef) e') N B K) h with⟨hg,e',he',h⟩|⟨hg,e',he',h⟩
  ·rw[Fb he']at h;cases hc:(vG C o (kY all o e)&&((kY all o e).all λp=>AD (cR (ms.getD i 0) N B) p.2)&&(N.all λp=>!(bit (ms.getD i 0) p.1)||yi (cR (ms.getD i 0) N B) p.2)&&(!nd i||wU C o (kY all o e)))with
   |false=>rw[hc]at h;cases h
   |true=>
    rw[hc,U3]at h;simp only[sg]at hc;obtain⟨⟨⟨c1,c2⟩,c3⟩,c4⟩:=hc;have c4:nd i=true->wU C o (kY all o e)=true:=λhn=>by rw[hn]at c4;simpa using c4
    rw[Hn (by exact c1)]at h;obtain⟨s',hs',h⟩:=A8.1 h;obtain⟨X1,hX1⟩:=Dr o s' hs';have hX1:s'.G=X1++cR (ms.getD i 0) N B:=hX1;have ht:s'.G.take (s'.G.length-(cR (ms.getD i 0) N B).length)=X1:=by rw[hX1];simp
    rw[ht]at h;refine key (s'.env.get (o.dst.getD 0)) X1 _ _ h ?_;intro V X E L a1 a2 a3 a4 a5 a6;refine⟨λt=>?_,.inl ⟨by rw[a3];exact hg,by rw[a6,a2,a5],by rw[a3,a5];exact c2,by rw[a5];exact c3,by rw[a3];exact c4,s',by rw[a3,a5];exact hs',a1,by rw[a2,a5];exact hX1⟩⟩;rw[a4,a1,a3,H1,he' t]
  refine key (.av .undef) [] _ _ h ?_;intro V X E L a1 a2 a3 a4 a5 a6;refine⟨λt=>?_,.inr ⟨by rw[a3];exact hg,by rw[a6,a5],a1,a2⟩⟩;rw[a4,a1,a3,H1,he' t]
def H6(C:Ctx)(all:List Oper)(kd:Nat->Bool)(V:Nat->SV)(E:Nat->Env)(H:Nat->Heap)(j:Nat)(o:Oper):Prop:=
 (∀ t,(E (j+1)).get t=if o.dst=some t then V j else(E j).get t) /\
 ((AH all o (E j) true/\∃ s',ax C o ⟨kY all o (E j),H j⟩ some=some s'/\V j=s'.env.get (o.dst.getD 0)/\s'.G=H (j+1)/\(kd j=true->∀ id l,C.vr id=false->(H j).get id=some (.box l)->(H (j+1)).get id=some (.box l))) \/
  (AH all o (E j) false/\V j=.av .undef/\H (j+1)=H j))
theorem JG(dst:Option Nat)(v:SV)(e:Env)(G:Heap)(t:Nat):(aC dst v ⟨e,G⟩).env.get t=if dst=some t then v else e.get t:=by
 cases dst with
 |none=>simp[aC]
 |some d=>simp[aC,Env.get_cons]
theorem F7 {kd:Nat->Bool}{K:Env->Heap->Option R}:∀(r:List Oper) (i:Nat) (e:Env) (G:Heap),(∀ j,j < r.length->r[j]?=all[i+j]?)->Bc C all kd i r e G K=some res ->
  ∃(V:Nat->SV) (E:Nat->Env) (H:Nat->Heap),E i=e/\H i=G/\K (E (i+r.length)) (H (i+r.length))=some res /\
   ∀ j o,i<=j->j<i+r.length->all[j]?=some o->H6 C all kd V E H j o
 |[],i,e,G,_,h=>⟨λ_=>.av .u,λ_=>e,λ_=>G,rfl,rfl,h,λj o h1 h2=>by simp at h2;omega⟩
 |o::r,i,e,G,hl,h=>by
  have hi:all[i]?=some o:=by simpa using(hl 0 (by simp)).symm
  have hl':∀ j,j<r.length->r[j]?=all[i+1+j]?:=λj hj=>by have:=hl (j+1) (by simp;omega);simpa[VS,WU 1 j]using this
  unfold Bc at h;have key:∀(v:SV) (e1:Env) (G1:Heap),Bc C all kd (i+1) r e1 G1 K=some res ->
    (∀(V:Nat->SV) (E:Nat->Env) (H:Nat->Heap),V i=v->E i=e->E (i+1)=e1->H i=G->H (i+1)=G1->H6 C all kd V E H i o) ->
    ∃(V:Nat->SV) (E:Nat->Env) (H:Nat->Heap),E i=e/\H i=G/\K (E (i+(o::r).length)) (H (i+(o::r).length))=some res /\
     ∀ j o',i<=j->j<i+(o::r).length->all[j]?=some o'->H6 C all kd V E H j o':=by
   intro v e1 G1 h1 h2;obtain⟨V,E,H,q1,q2,q3,q4⟩:=F7 r (i+1) e1 G1 hl' h1;refine⟨λj=>if j=i then v else V j,λj=>if j=i then e else E j,λj=>if j=i then G else H j,by simp,by simp,?_,?_⟩
   ·rw[B2,show i+(r.length+1)=i+1+r.length by omega,cA E e (by omega:i<i+1+r.length),cA H G (by omega:i<i+1+r.length)];exact q3
   intro j o' hj1 hj2 ho';rcases VO hj1 with rfl|hj1
   ·rw[hi]at ho';cases ho'
    exact h2 _ _ _ (by simp) (by simp) (by simp[q1]) (by simp) (by simp[q2])
   have:=q4 j o' hj1 (by simp at hj2;omega) ho';unfold H6 at this ⊢;rw[cA V v hj1,cA E e hj1,cA E e (by omega:i<j+1),cA H G hj1,cA H G (by omega:i<j+1)];exact this
  rcases Fs (all:=all) (o:=o) (e:=e) (run:=λe'=>cond (vG C o (kY all o e')) (ax C o { env:=kY all o e',G:=G } λs'=>
   cond (!kd i||uG C G s'.G) (Bc C all kd (i+1) r (aC o.dst (s'.env.get (o.dst.getD 0)) { env:=e',G:=[] }).env s'.G K) none) none)
   (skip:=λe'=>Bc C all kd (i+1) r (aC o.dst (.av .undef) { env:=e',G:=[] }).env G K) h with⟨hg,e',he',h⟩|⟨hg,e',he',h⟩
  ·rw[Fb he']at h;cases hc:vG C o (kY all o e)with
   |false=>rw[hc]at h;cases h
   |true=>
    rw[hc,U3,Hn (by exact hc)]at h;obtain⟨s',hs',h⟩:=A8.1 h;obtain⟨X1,hX1⟩:=Dr o s' hs';cases hkb:(!kd i||uG C G s'.G)with
    |false=>rw[hkb]at h;cases h
    |true=>
    rw[hkb,U3]at h;have hkb:kd i=true->∀ id l,C.vr id=false->G.get id=some (.box l)->s'.G.get id=some (.box l):=λhk=>IK (by rw[hk]at hkb;simpa using hkb) hX1;refine key (s'.env.get (o.dst.getD 0)) _ _ h ?_;intro V E H a1 a2 a3 a4 a5;refine⟨λt=>?_,.inl ⟨by rw[a2];exact hg,s',by rw[a2,a4];exact hs',a1,a5.symm,by rw[a4,a5];exact hkb⟩⟩;rw[a3,a1,a2,JG,he' t]
  refine key (.av .undef) _ _ h ?_;intro V E H a1 a2 a3 a4 a5;refine⟨λt=>?_,.inr ⟨by rw[a2];exact hg,a1,by rw[a5,a4]⟩⟩;rw[a3,a1,a2,JG,he' t]
theorem SA{m j:Nat}:bit m j=true↔m.testBit j=true:=by
 unfold bit Nat.testBit;constructor
 ·intro h;rw[A6 h];rfl
 intro h;rw[Nat.one_and_eq_mod_two]at h ⊢;have:(m >>> j)%2<2:=Nat.mod_lt _ (by omega);have h0:(m >>> j)%2≠0:=by simpa using h
 have:(m >>> j)%2=1:=by omega
 rw[this];rfl
def yZ(acc:List Nat)(o:Oper):Nat:=o.after.toList.foldl (λm e=>cond (Region.binds .any e) (m ||| 2^e.on ||| acc.getD e.on 0) m) 0
theorem M6:∀(l:List Oper) (acc:List Nat),∃ r,rL l acc=acc++r/\r.length=l.length
 |[],acc=>⟨[],by simp[rL],rfl⟩
 |o::l,acc=>by obtain⟨r,h1,h2⟩:=M6 l (acc++[yZ acc o]);exact⟨yZ acc o::r,by show rL l (acc++[yZ acc o])=_;rw[h1];simp,by simp[h2]⟩
theorem Ka:∀(l:List Oper) (acc:List Nat) (j:Nat) (o:Oper),l[j]?=some o->(rL l acc).getD (acc.length+j) 0=yZ ((rL l acc).take (acc.length+j)) o
 |[],_,j,_,h=>by simp at h
 |o::l,acc,0,o',h=>by simp only[Vh,ov]at h;subst h;obtain⟨r,h1,_⟩:=M6 l (acc++[yZ acc o]);show(rL l (acc++[yZ acc o])).getD _ 0=yZ ((rL l (acc++[yZ acc o])).take _) o;rw[h1];simp
 |o::l,acc,j+1,o',h=>by have:=Ka l (acc++[yZ acc o]) j o' (by simpa using h);rw[show acc.length+(j+1)=(acc++[yZ acc o]).length+j by simp;omega];exact this
theorem KO (acc:List Nat)(j:Nat):∀(l:List Edge) (m:Nat),bit (l.foldl (fun m e=>cond (Region.binds .any e) (m ||| 2 ^ e.on ||| acc.getD e.on 0) m) m) j=true ↔
  bit m j=true\/∃ e∈l,Region.binds .any e=true/\(e.on=j\/bit (acc.getD e.on 0) j=true)
 |[],m=>by simp
 |e::l,m=>by
  rw[List.foldl_cons,KO acc j l];cases hb:Region.binds .any e with
  |false=>simp[hb]
  |true=>
   simp only[U3,SA,Nat.testBit_or,Nat.testBit_two_pow,VY,decide_eq_true_eq,A9,exists_eq_or_imp,hb,true_and];constructor
   ·rintro((h|h)|h)
    ·rcases h with h|h
     ·exact .inl h
     exact .inr (.inl (.inl h))
    ·exact .inr (.inl (.inr h))
    exact .inr (.inr h)
   rintro(h|(h|h)|h)
   ·exact .inl (.inl (.inl h))
   ·exact .inl (.inl (.inr h))
   ·exact .inl (.inr h)
   exact .inr h
end
end Go.Vm

/-
 What must come before what; memory and slots behind a set of operations.
-/
namespace Go.Vm
section
variable {C:Ctx}{R:Type}{res:R}{all:List Oper}
def Fr(k:Nat)(nd:Nat->Bool)(j:Nat)(o:Oper):Bool:=rG o||(decide (j<k)&&nd j)
structure OrdOK (all:List Oper)(ms:List Nat)(k:Nat)(nd kd:Nat->Bool):Prop where
 le:k<=all.length
 edge:∀(i:Nat) (o:Oper) (e:Edge),all[i]?=some o->e∈o.after.toList->Region.binds .any e=true->e.on<i
 pre:∀ i o j,all[i]?=some o->(bit (ms.getD i 0) j=true↔∃ e∈o.after.toList,Region.binds .any e=true/\(e.on=j\/bit (ms.getD e.on 0) j=true))
 cls:∀ i j,i<k->j<k->(C9 all).getD i 0=(C9 all).getD j 0->i=j
 looks:∀ i o t,all[i]?=some o->t∈looks all o->∀ q o',all[q]?=some o'->o'.dst=some t->bit (ms.getD i 0) q=true\/bit (ms.getD q 0) i=true
 uniq:∀(p q:Nat) (o o':Oper) (d:Nat),all[p]?=some o->all[q]?=some o'->o.dst=some d->o'.dst=some d->p=q
 chain:∀ i o,k<=i->all[i]?=some o->∀ j o',j<i->all[j]?=some o'->bit (ms.getD i 0) j=true\/Fr k nd j o'=true
 kept:∀ i j,k<=i->i<all.length->j<k->nd j=true->bit (ms.getD i 0) j=false->kd i=true
theorem OrdOK.lt{ms:List Nat}{k:Nat}{nd kd:Nat->Bool}(h:OrdOK all ms k nd kd):∀{i j:Nat},i<all.length->bit (ms.getD i 0) j=true->j<i:=by
 intro i;induction i using Nat.strongRecOn with
 |ind i ih=>
  intro j hi hb;obtain⟨o,ho⟩:∃ o,all[i]?=some o:=⟨_,bx hi⟩;obtain⟨e,he,hbe,h1⟩:=(h.pre i o j ho).1 hb;have hlt:=h.edge i o e ho he hbe;rcases h1 with h1|h1
  ·omega
  have:=ih e.on hlt (by omega) h1;omega
theorem E7:∀{l:List Nat} {i j:Nat} {a:Nat},aP l=true->l[i]?=some a->l[j]?=some a->i=j
 |[],_,_,_,_,h,_=>by simp at h
 |b::l,0,0,_,_,_,_=>rfl
 |b::l,0,j+1,a,hn,h1,h2=>by simp only[aP,sg,Vg]at hn;simp only[Vh,ov]at h1;subst h1;have hm:b∈l:=B9 (i:=j) (by simpa using h2);have:=hn.1;rw[Vj]at this;exact absurd (WP b) (by simpa using this b hm)
 |b::l,i+1,0,a,hn,h1,h2=>by simp only[aP,sg,Vg]at hn;simp only[Vh,ov]at h2;subst h2;have hm:b∈l:=B9 (i:=i) (by simpa using h1);have:=hn.1;rw[Vj]at this;exact absurd (WP b) (by simpa using this b hm)
 |b::l,i+1,j+1,a,hn,h1,h2=>by simp only[aP,sg]at hn;exact congrArg (·+1) (E7 (i:=i) (j:=j) hn.2 (by simpa using h1) (by simpa using h2))
theorem vS:∀{l:List Oper} {i j:Nat} {o o':Oper} {d:Nat},aP (l.filterMap λo=>o.dst)=true->l[i]?=some o->l[j]?=some o'->o.dst=some d->o'.dst=some d->i=j
 |[],_,_,_,_,_,_,h,_,_,_=>by simp at h
 |b::l,0,0,_,_,_,_,_,_,_,_=>rfl
 |b::l,0,j+1,o,o',d,hn,h1,h2,d1,d2=>by simp only[Vh,ov]at h1;subst h1;rw[Xa d1]at hn;simp only[aP,sg,Vg]at hn;have hm:d∈l.filterMap λo=>o.dst:=Yj.2 ⟨o',B9 (i:=j) (by simpa using h2),d2⟩;have:=hn.1;rw[Vj]at this;exact absurd (WP d) (by simpa using this d hm)
 |b::l,i+1,0,o,o',d,hn,h1,h2,d1,d2=>by simp only[Vh,ov]at h2;subst h2;rw[Xa d2]at hn;simp only[aP,sg,Vg]at hn;have hm:d∈l.filterMap λo=>o.dst:=Yj.2 ⟨o,B9 (i:=i) (by simpa using h1),d1⟩;have:=hn.1;rw[Vj]at this;exact absurd (WP d) (by simpa using this d hm)
 |b::l,i+1,j+1,o,o',d,hn,h1,h2,d1,d2=>by
  have hn':aP (l.filterMap λo=>o.dst)=true:=by
   cases hb:b.dst with
   |none=>rwa[List.filterMap_cons_none hb]at hn
   |some x=>rw[Xa hb]at hn;simp only[aP,sg]at hn;exact hn.2
  exact congrArg (·+1) (vS (i:=i) (j:=j) hn' (by simpa using h1) (by simpa using h2) d1 d2)
theorem AN{lt:Bool}{m:Nat}:∀{l:List Oper} {j0 t:Nat} {o:Oper},qL lt m j0 l=true->l[t]?=some o->bit m (j0+t)=true\/rG o=true\/(lt=true/\IV o=true)
 |[],_,_,_,_,h=>by simp at h
 |b::l,j0,0,o,h,h1=>by
  simp only[Vh,ov]at h1;subst h1;simp only[qL,sg,VY]at h;rcases h.1 with(h|h)|h
  ·exact .inl h
  ·exact .inr (.inl h)
  exact .inr (.inr h)
 |b::l,j0,t+1,o,h,h1=>by simp only[qL,sg]at h;have:=AN h.2 (t:=t) (by simpa using h1);rwa[show j0+(t+1)=j0+1+t by omega]
theorem Ca{lt:Bool}{ms:List Nat}:∀{n i:Nat},n-wm lt all ms n<=i->i<n->qL (lt && !rj all i) (ms.getD i 0) 0 (all.take i)=true
 |0,_,_,h=>by omega
 |n+1,i,h,hi=>by
  simp only[wm]at h;cases hc:(qL (lt && !rj all n) (ms.getD n 0) 0 (all.take n)&&(!(lt&&rj all n)||(L7 all.length).all λi=>VK i n||bit (ms.getD i 0) n))with
  |false=>rw[hc]at h;simp at h;omega
  |true=>
   rw[hc,U3]at h;have hb:=(sg _ _▸hc:_/\_).1;rcases VO (Wa hi)with rfl|hlt
   ·exact hb
   exact Ca (by omega) hlt
theorem It{l:List Oper}{i:Nat}{o:Oper}(h:l[i]?=some o):(o,i)∈l.zipIdx:=by rw[List.mem_zipIdx_iff_getElem?];exact h
theorem TG{lt:Bool}{k:Nat}(hk:k=all.length-wm lt all (rL all []) all.length)(h:okA lt all (rL all []) k=true):OrdOK all (rL all []) k (needs lt all (rL all []) k) (Pn lt all (rL all []) k):=by
 simp only[okA,sg]at h;obtain⟨⟨⟨⟨h0,h1⟩,h2⟩,h4⟩,h5⟩:=h;simp only[U5]at h1 h4;have hle:k<=all.length:=by omega
 have hedge:∀(i:Nat) (o:Oper) (e:Edge),all[i]?=some o->e∈o.after.toList->Region.binds .any e=true->e.on<i:=by intro i o e ho he hb;have:=h1 (o,i) (It ho) e he;rw[hb]at this;exact Vi (by simpa[Xs]using this)
 refine⟨hle,hedge,?_,?_,?_,λp q o o' d=>vS h5,?_,?_⟩
 ·intro i o j ho;have hg:=Ka all [] i o ho;simp only[List.length_nil,Vt]at hg;rw[hg];unfold yZ;rw[KO];constructor
  ·rintro(h|⟨e,he,hb,h⟩)
   ·simp[bit]at h
   refine⟨e,he,hb,?_⟩;rcases h with h|h
   ·exact .inl h
   right;have hlt:=hedge i o e ho he hb;rw[A5,Vc,if_pos hlt,<- A5]at h;exact h
  rintro⟨e,he,hb,h⟩;right;refine⟨e,he,hb,?_⟩;rcases h with h|h
  ·exact .inl h
  right;have hlt:=hedge i o e ho he hb;rw[A5,Vc,if_pos hlt,<- A5];exact h
 ·intro i j hi hj he;have get:∀ i,i<k->(C9 (all.take k))[i]?=some ((C9 all).getD i 0):=by intro i hi;obtain⟨o,ho⟩:∃ o,all[i]?=some o:=⟨_,bx (by omega)⟩;simp[C9,Vc,hi,ho,A5]
  exact E7 h2 (get i hi) (by rw[he];exact get j hj)
 ·intro i o t ho ht q o' ho' hd;have:=h4 (o,i) (It ho) t ht (o',q) (It ho');simp only[hd,WP,U3,VY]at this;exact this
 ·intro i o hi ho j o' hj ho';have hlt:i<all.length:=(tz.1 ho).1;cases hbit:bit ((rL all []).getD i 0) j with
  |true=>exact .inl rfl
  |false=>
  right;have:=AN (Ca (lt:=lt) (all:=all) (ms:=rL all []) (n:=all.length) (by omega) hlt) (t:=j) (o:=o') (by rw[Vc,if_pos hj];exact ho');rw[Vt,hbit]at this;unfold Fr;rcases this with h|h|⟨h,hl⟩
  ·cases h
  ·rw[h];rfl
  simp only[sg]at h;obtain⟨hlt2,_⟩:=h;have hla:rj all j=true:=by simp[rj,ho',hl]
  have hjk:j<k:=by
   rcases Nat.lt_or_ge j k with hjk|hjk
   ·exact hjk
   rw[hlt2]at h0;have h0:Js all (rL all []) k=true:=by simpa using h0
   unfold Js at h0;rw[U5]at h0;have h0:=h0 i (Vp.2 hlt);have:Xs i k=false:=by
    cases hq:Xs i k with
    |false=>rfl
    |true=>
     have:i<k:=by simpa[Y7]using hq
     omega
   rw[this,Wp,U5]at h0;have h0:=h0 j (Vp.2 hj);have:Xs j k=false:=by
    cases hq:Xs j k with
    |false=>rfl
    |true=>
     have:j<k:=by simpa[Y7]using hq
     omega
   rw[this,hbit,hla]at h0;cases h0
  have:needs lt all (rL all []) k j=true:=by unfold needs;rw[hlt2,hla,Ww,Ww,Wi];exact⟨i,Vp.2 hlt,by rw[hbit];simp[Nat.ble_eq,hi]⟩
  rw[this];simp[hjk]
 intro i j hi hil hj hn hb;unfold needs at hn;simp only[sg]at hn;obtain⟨⟨hl,hla⟩,_⟩:=hn;unfold Pn;rw[hl,Ww,Wi];exact⟨j,Vp.2 hj,by rw[hla,hb];rfl⟩
structure Trace (C:Ctx)(all:List Oper)(ms:List Nat)(k:Nat)(nd kd:Nat->Bool)(s:St)(V:Nat->SV)(X:Nat->Heap)(E:Nat->Env)(L:Nat->List (Nat×Heap))(H:Nat->Heap):Prop where
 e0:E 0=s.env
 l0:L 0=[]
 stepA:∀ j o,j<k->all[j]?=some o->HY C all ms nd s.G V X E L j o
 stepT:∀ j o,k<=j->all[j]?=some o->H6 C all kd V E H j o
 hk:H k=(L k).foldr (λp G=>p.2++G) s.G
theorem GR {lt:Bool}{s:St}{K:St->Option R}(h:wx C lt all s K=some res) :
  ∃ k nd kd V X E L H,OrdOK all (rL all []) k nd kd/\Trace C all (rL all []) k nd kd s V X E L H/\okN all (rL all []) k (L k) s.G=true/\K ⟨E all.length,H all.length⟩=some res:=by
 unfold wx at h;dsimp only at h;obtain⟨k,hk⟩:∃ k,k=all.length-wm lt all (rL all []) all.length:=⟨_,rfl⟩;rw[<- hk]at h;cases hA:okA lt all (rL all []) k with
 |false=>rw[hA]at h;cases h
 |true=>
  rw[hA,U3]at h;have ho:=TG hk hA;have hle:=ho.le;obtain⟨V,X,E,L,a1,a2,a3,a4⟩:=Gt (all.take k) 0 s.env [] (λj hj=>by rw[Vc];simp at hj;simp;omega) h;have hl:(all.take k).length=k:=by simp;omega
  simp only[Vt,hl]at a3 a4;cases hN:okN all (rL all []) k (L k) s.G with
  |false=>rw[hN]at a3;cases a3
  |true=>
   rw[hN,U3]at a3;obtain⟨V2,E2,H,b1,b2,b3,b4⟩:=F7 (all.drop k) k (E k) _ (λj hj=>by rw[List.getElem?_drop]) a3;have hl2:k+(all.drop k).length=all.length:=by simp;omega
   rw[hl2]at b3 b4;refine⟨k,_,_,λi=>if i<k then V i else V2 i,X,λi=>if i<k then E i else E2 i,L,H,ho,⟨?_,a2,?_,?_,b2⟩,hN,?_⟩
   ·by_cases h0:0<k
    ·simp[h0,a1]
    have:k=0:=by omega
    subst this;simp[b1,a1]
   ·intro j o hj hoj;have:=a4 j o (Nat.zero_le _) hj hoj;have e1:(if j+1<k then E (j+1)else E2 (j+1))=E (j+1):=by
     split
     ·rfl
     have:j+1=k:=by omega
     rw[this,b1]
    unfold HY at this ⊢;dsimp only;rw[e1,if_pos hj,if_pos hj];exact this
   ·intro j o hj hoj;have:=b4 j o hj (tz.1 hoj).1 hoj;unfold H6 at this ⊢;dsimp only;rw[if_neg (by omega),if_neg (by omega),if_neg (by omega)];exact this
   dsimp only;rw[if_neg (by omega)];exact b3
def jX(all:List Oper)(i:Nat):Option Nat:=(all[i]?).bind (·.dst)
def Aq(all:List Oper)(V:Nat->SV)(e0:Env)(S:Nat->Bool):Nat->Nat->SV
 |0,t=>e0.get t
 |i+1,t=>if S i=true/\jX all i=some t then V i else Aq all V e0 S i t
def kT(S:Nat->Bool)(i:Nat):Nat->Bool:=λj=>S j||j==i
theorem tL{V:Nat->SV}{e0:Env}{S S':Nat->Bool}{t:Nat}:∀{n:Nat},(∀ q,q<n->jX all q=some t->S q=S' q)->Aq all V e0 S n t=Aq all V e0 S' n t
 |0,_=>rfl
 |n+1,h=>by
  simp only[Aq];by_cases hd:jX all n=some t
  ·rw[h n (by omega) hd,tL λq hq=>h q (by omega)]
  simp only[hd,and_false,if_false];exact tL λq hq=>h q (by omega)
theorem DC{V:Nat->SV}{e0:Env}{S:Nat->Bool}{t:Nat}:∀{n:Nat},(∀ q,q<n->jX all q=some t->S q=false)->Aq all V e0 S n t=e0.get t
 |0,_=>rfl
 |n+1,h=>by simp only[Aq];rw[if_neg,DC λq hq=>h q (by omega)];rintro⟨h1,h2⟩;rw[h n (by omega) h2]at h1;cases h1
theorem FY{ms:List Nat}{k:Nat}{nd kd:Nat->Bool}(ho:OrdOK all ms k nd kd){V:Nat->SV}{e0:Env}{S:Nat->Bool}{i t:Nat}:∀{n:Nat},n<=all.length->i<n->Aq all V e0 (kT S i) n t=if jX all i=some t then V i else Aq all V e0 S n t
 |0,_,h=>by omega
 |n+1,hn,h=>by
  by_cases hd:jX all i=some t
  ·rw[if_pos hd];rcases VO (Wa h)with rfl|hlt
   ·simp[Aq,kT,hd]
   simp only[Aq];rw[if_neg,FY ho (by omega) hlt,if_pos hd];rintro⟨_,h2⟩;unfold jX at hd h2;obtain⟨o,h3,h4⟩:=A8.1 hd;obtain⟨o',h5,h6⟩:=A8.1 h2;have:=ho.uniq i n o o' t h3 h5 h4 h6;omega
  rw[if_neg hd];refine tL λq _ hq=>?_;have:q≠i:=λe=>hd (e▸hq);simp[kT,this]
section
variable {ms:List Nat}{k:Nat}{nd kd:Nat->Bool}{s:St}{V:Nat->SV}{X:Nat->Heap}{E:Nat->Env}{L:Nat->List (Nat×Heap)}{H:Nat->Heap}
theorem Trace.env_step(ho:OrdOK all ms k nd kd)(h:Trace C all ms k nd kd s V X E L H){i:Nat}{o:Oper}(hi:all[i]?=some o)(t:Nat):(E (i+1)).get t=if o.dst=some t then V i else(E i).get t:=by
 by_cases hk:i<k
 ·exact(h.stepA i o hk hi).1 t
 exact(h.stepT i o (by omega) hi).1 t
theorem Trace.env(ho:OrdOK all ms k nd kd)(h:Trace C all ms k nd kd s V X E L H):∀{i:Nat},i<=all.length->∀ t,(E i).get t=Aq all V s.env (λq=>decide (q<i)) all.length t
 |0,_,t=>by rw[h.e0,DC];intro q _ _;simp
 |i+1,hi,t=>by
  obtain⟨o,hoi⟩:∃ o,all[i]?=some o:=⟨_,bx (by omega)⟩;have hS:(λq=>decide (q<i+1))=kT (λq=>decide (q<i)) i:=by
   funext q;unfold kT;by_cases h1:q<i
   ·have:q<i+1:=by omega
    simp[h1,this]
   by_cases h2:q=i
   ·simp[h2]
   have:¬q<i+1:=by omega
   simp[h1,h2,this]
  rw[h.env_step ho hoi,hS,FY ho (B5 _) (by omega),h.env ho (by omega)];simp[jX,hoi]
def Closed(all:List Oper)(ms:List Nat)(S:Nat->Bool):Prop:=∀ i,S i=true->i<all.length/\∀ j,bit (ms.getD i 0) j=true->S j=true
theorem Trace.seen (ho:OrdOK all ms k nd kd)(h:Trace C all ms k nd kd s V X E L H){S:Nat->Bool}(hS:Closed all ms S){i:Nat}{o:Oper}(hi:all[i]?=some o)(hn:S i=false)(hp:∀ j,bit (ms.getD i 0) j=true->S j=true)
  {t:Nat} (ht:t∈looks all o):(E i).get t=Aq all V s.env S all.length t:=by
 have hlt:i<all.length:=(tz.1 hi).1;rw[h.env ho (by omega)];refine tL λq hq hd=>?_;unfold jX at hd;obtain⟨o',h1,h2⟩:=A8.1 hd;rcases ho.looks i o t hi ht q o' h1 h2 with h3|h3
 ·rw[hp q h3];simp[ho.lt hlt h3]
 have:=ho.lt hq h3;have hSq:S q=false:=by
  cases hh:S q with
  |false=>rfl
  |true=>rw[(hS q hh).2 i h3]at hn;cases hn
 rw[hSq];simp;omega
theorem Closed.put(ho:OrdOK all ms k nd kd){S:Nat->Bool}(hS:Closed all ms S){i:Nat}(hi:i<all.length)(hp:∀ j,bit (ms.getD i 0) j=true->S j=true):Closed all ms (kT S i):=by
 intro j hj;unfold kT at hj;simp only[VY,beq_iff_eq]at hj;rcases hj with hj|rfl
 ·exact⟨(hS j hj).1,λq hq=>by simp[kT,(hS j hj).2 q hq]⟩
 exact⟨hi,λq hq=>by simp[kT,hp q hq]⟩
def look(X:Nat->Heap)(B:Heap)(S:Nat->Bool):Nat->Nat->Option Obj
 |0,id=>B.get id
 |j+1,id=>match cond (S j) ((X j).get id) none with
  |some o=>some o
  |none=>look X B S j id
theorem zH {X:Nat->Heap}{B:Heap}{S:Nat->Bool}{id:Nat}{o:Obj}:∀{j:Nat},look X B S j id=some o ->
  (∃ q,q<j/\S q=true/\(X q).get id=some o/\∀ q',q<q'->q'<j->S q'=true->(X q').get id=none)\/((∀ q,q<j->S q=true->(X q).get id=none)/\B.get id=some o)
 |0,h=>.inr ⟨λq hq=>by omega,h⟩
 |j+1,h=>by
  simp only[look]at h;split at h
  ·rename_i o' ho';cases h;cases hS:S j with
   |false=>rw[hS]at ho';cases ho'
   |true=>rw[hS]at ho';exact .inl ⟨j,by omega,hS,ho',λq' h1 h2=>by omega⟩
  rename_i hn;have hj:S j=true->(X j).get id=none:=λhS=>by rw[hS]at hn;exact hn
  rcases zH h with⟨q,h1,h2,h3,h4⟩|⟨h1,h2⟩
  ·refine .inl ⟨q,by omega,h2,h3,λq' g1 g2 g3=>?_⟩;rcases VO (Wa g2)with rfl|g2
   ·exact hj g3
   exact h4 q' g1 g2 g3
  refine .inr ⟨λq g1 g2=>?_,h2⟩;rcases VO (Wa g1)with rfl|g1
  ·exact hj g2
  exact h1 q g1 g2
theorem wg{X:Nat->Heap}{B:Heap}{S:Nat->Bool}{id:Nat}:∀{j:Nat},(∀ q,q<j->S q=true->(X q).get id=none)->look X B S j id=B.get id
 |0,_=>rfl
 |j+1,h=>by
  simp only[look];cases hS:S j with
  |false=>exact wg λq hq=>h q (by omega)
  |true=>rw[U3,h j (by omega) hS];exact wg λq hq=>h q (by omega)
theorem Ji{X:Nat->Heap}{B:Heap}{S:Nat->Bool}{id:Nat}{o:Obj}:∀{j q:Nat},q<j->S q=true->(X q).get id=some o->(∀ q',q<q'->q'<j->S q'=true->(X q').get id=none)->look X B S j id=some o
 |0,_,h,_,_,_=>by omega
 |j+1,q,h,hS,ho,hl=>by
  simp only[look];rcases VO (Wa h)with rfl|hlt
  ·rw[hS,U3,ho]
  have:cond (S j) ((X j).get id) none=none:=by
   cases hSj:S j with
   |false=>rfl
   |true=>exact hl j hlt (by omega) hSj
  rw[this];exact Ji hlt hS ho λq' h1 h2=>hl q' h1 (by omega)
theorem t5{X:Nat->Heap}{B:Heap}{S S':Nat->Bool}{id:Nat}:∀{j:Nat},(∀ q,q<j->S q=S' q\/(X q).get id=none)->look X B S j id=look X B S' j id
 |0,_=>rfl
 |j+1,h=>by
  simp only[look];have:cond (S j) ((X j).get id) none=cond (S' j) ((X j).get id) none:=by
   rcases h j (by omega)with h|h
   ·rw[h]
   rw[h];cases S j<;>cases S' j<;>rfl
  rw[this];split
  ·rfl
  exact t5 λq hq=>h q (by omega)
theorem Trace.l_step(h:Trace C all ms k nd kd s V X E L H){j:Nat}(hj:j<k)(hle:k<=all.length):L (j+1)=(j,X j)::L j\/(L (j+1)=L j/\X j=[]):=by
 obtain⟨o,ho⟩:∃ o,all[j]?=some o:=⟨_,bx (by omega)⟩;rcases(h.stepA j o hj ho).2 with⟨_,h1,_⟩|⟨_,h1,_,h2⟩
 ·exact .inl h1
 exact .inr ⟨h1,h2⟩
theorem Trace.heapFor_get(h:Trace C all ms k nd kd s V X E L H)(hle:k<=all.length)(m:Nat):∀{j:Nat},j<=k->∀ id,(cR m (L j) s.G).get id=look X s.G (bit m) j id
 |0,_,id=>by rw[h.l0];rfl
 |j+1,hj,id=>by
  simp only[look];have ih:=h.heapFor_get hle m (j:=j) (by omega) id;rcases h.l_step (by omega:j<k) hle with h1|⟨h1,h2⟩
  ·rw[h1];show(cond (bit m j) (X j++cR m (L j) s.G) (cR m (L j) s.G)).get id=_;cases hb:bit m j with
   |false=>exact ih
   |true=>rw[U3,U3,Heap.get_append,ih];try (cases(X j).get id<;>rfl)
  rw[h1,h2,ih];have:cond (bit m j) (Heap.get [] id) none=none:=by cases bit m j<;>rfl
  rw[this]
theorem Trace.all_get(h:Trace C all ms k nd kd s V X E L H)(hle:k<=all.length):∀{j:Nat},j<=k->∀ id,((L j).foldr (λp G=>p.2++G) s.G).get id=look X s.G (λ_=>true) j id
 |0,_,id=>by rw[h.l0];rfl
 |j+1,hj,id=>by
  simp only[look,U3];have ih:=h.all_get hle (j:=j) (by omega) id;rcases h.l_step (by omega:j<k) hle with h1|⟨h1,h2⟩
  ·rw[h1,List.foldr_cons,Heap.get_append,ih];try (show(match(X j).get id with|some o=>some o|none=>_)=_;cases(X j).get id<;>rfl)
  rw[h1,h2,ih];rfl
theorem Trace.l_mem(h:Trace C all ms k nd kd s V X E L H)(hle:k<=all.length):∀{j q:Nat},j<=k->q<j->X q=[]\/(q,X q)∈L j
 |0,_,_,hq=>by omega
 |j+1,q,hj,hq=>by
  rcases h.l_step (by omega:j<k) hle with h1|⟨h1,h2⟩
  ·rw[h1];rcases VO (Wa hq)with rfl|hlt
   ·exact .inr (by simp)
   rcases h.l_mem hle (by omega) hlt with h|h
   ·exact .inl h
   exact .inr (by simp[h])
  rw[h1];rcases VO (Wa hq)with rfl|hlt
  ·exact .inl h2
  exact h.l_mem hle (by omega) hlt
structure Sep (all:List Oper)(ms:List Nat)(k:Nat)(X:Nat->Heap)(B:Heap):Prop where
 base:∀ q id o,q<k->(X q).get id=some o->B.get id=none
 two:∀ p q id o o',p<k->q<k->(X p).get id=some o->(X q).get id=some o'->p=q \/
  ((bit (ms.getD p 0) q=true\/bit (ms.getD q 0) p=true)/\∀ i,i<k->bit (ms.getD i 0) p=false\/i=q\/bit (ms.getD i 0) q=true\/bit (ms.getD q 0) i=true)
theorem Trace.sep(h:Trace C all ms k nd kd s V X E L H)(hle:k<=all.length)(hN:okN all ms k (L k) s.G=true):Sep all ms k X s.G:=by
 have mem:∀ q id o,q<k->(X q).get id=some o->(q,X q)∈L k/\(id,o)∈X q:=by
  intro q id o hq hg;rcases h.l_mem hle (B5 _) hq with h1|h1
  ·rw[h1]at hg;simp[Heap.get]at hg
  exact⟨h1,Heap.mem_of_get hg⟩
 simp only[okN,U5]at hN;refine⟨λq id o hq hg=>?_,λp q id o o' hp hq hg hg'=>?_⟩
 ·obtain⟨h1,h2⟩:=mem q id o hq hg;have:=hN _ h1 _ h2;simp only[sg,Vg]at this;cases hb:s.G.get id with
  |none=>rfl
  |some o'=>have h3:=this.1;rw[Heap.has_of_get hb]at h3;cases h3
 obtain⟨h1,h2⟩:=mem p id o hp hg;obtain⟨h3,h4⟩:=mem q id o' hq hg';have:=hN _ h1 _ h2;simp only[sg]at this;have:=this.2;rw[U5]at this;have:=this _ h3;simp only[VY,sg]at this;rcases this with(h5|h5)|⟨h5,h6⟩
 ·exact .inl (A6 h5)
 ·simp only[Vg]at h5;rw[Vj]at h5;exact absurd (WP id) (by simpa using h5 _ h4)
 refine .inr ⟨h5,λi hi=>?_⟩;rw[U5]at h6;have:=h6 i (by simpa using hi);simp only[VY,Vg]at this;rcases this with((h7|h7)|h7)|h7
 ·exact .inl h7
 ·exact .inr (.inl (A6 h7))
 ·exact .inr (.inr (.inl h7))
 exact .inr (.inr (.inr h7))
theorem K5 (ho:OrdOK all ms k nd kd){B:Heap}(hX:Sep all ms k X B){S:Nat->Bool}(hS:Closed all ms S){i:Nat}(hi:i < k)(hn:S i=false)(hp:∀ j,bit (ms.getD i 0) j=true->S j=true)
  {id:Nat} {o:Obj} (hg:look X B (bit (ms.getD i 0)) i id=some o):look X B S k id=some o:=by
 have hle:=ho.le;rcases zH hg with⟨q,h1,h2,h3,h4⟩|⟨h1,h2⟩
 ·refine Ji (by omega) (hp q h2) h3 λq' g1 g2 g3=>?_;cases hx:(X q').get id with
  |none=>rfl
  |some o'=>
   rcases hX.two q q' id o o' (by omega) g2 h3 hx with e|⟨e1,e2⟩
   ·omega
   rcases e2 i hi with e|e|e|e
   ·rw[h2]at e;cases e
   ·subst e;rw[hn]at g3;cases g3
   ·rw[h4 q' g1 (ho.lt (by omega) e) e]at hx;cases hx
   rw[(hS q' g3).2 i e]at hn;cases hn
 rw[wg,h2];intro q g1 g2;cases hx:(X q).get id with
 |none=>rfl
 |some o'=>rw[hX.base q id o' g1 hx]at h2;cases h2
theorem Pj (ho:OrdOK all ms k nd kd){B:Heap}(hX:Sep all ms k X B){S:Nat->Bool}(hS:Closed all ms S){i:Nat}(hi:i < k)(hn:S i=false)
  {id:Nat} {o:Obj} (hx:(X i).get id=some o) (hg:look X B (bit (ms.getD i 0)) i id=none):look X B S k id=none:=by
 have hle:=ho.le;cases hl:look X B S k id with
 |none=>rfl
 |some o'=>
  rcases zH hl with⟨q,h1,h2,h3,h4⟩|⟨h1,h2⟩
  ·rcases hX.two i q id o o' hi h1 hx h3 with e|⟨e1,_⟩
   ·subst e;rw[hn]at h2;cases h2
   rcases e1 with e|e
   ·have hlt:=ho.lt (by omega) e;exfalso
    -- the last of them
    have:∀ j,j<=i->q<j->look X B (bit (ms.getD i 0)) j id≠none:=by
     intro j;induction j with
     |zero=>intro _ h;omega
     |succ j ih=>
      intro hj hq;simp only[look];split
      ·simp
      rename_i hnone;rcases VO (Wa hq)with rfl|hq
      ·rw[e,U3,h3]at hnone;cases hnone
      exact ih (by omega) hq
    exact this i (B5 _) hlt hg
   rw[(hS q h2).2 i e]at hn;cases hn
  rw[hX.base i id o hi hx]at h2;cases h2
theorem P4 (ho:OrdOK all ms k nd kd){B:Heap}(hX:Sep all ms k X B){S:Nat->Bool}(hS:Closed all ms S){i:Nat}(hi:i < k)(hn:S i=false)(id:Nat) :
  look X B (kT S i) k id=(match(X i).get id with|some o=>some o|none=>look X B S k id):=by
 have hle:=ho.le;cases hx:(X i).get id with
 |some o=>
  refine Ji hi (by simp[kT]) hx λq g1 g2 g3=>?_;cases hq:(X q).get id with
  |none=>rfl
  |some o'=>
   have hSq:S q=true:=by
    simp only[kT,VY,beq_iff_eq]at g3;rcases g3 with g3|g3
    ·exact g3
    omega
   rcases hX.two i q id o o' hi g2 hx hq with e|⟨e1,_⟩
   ·omega
   rcases e1 with e|e
   ·have:=ho.lt (by omega) e;omega
   rw[(hS q hSq).2 i e]at hn;cases hn
 |none=>
  refine t5 λq _=>?_;by_cases e:q=i
  ·subst e;exact .inr hx
  left;simp[kT,e]
end
end
end Go.Vm

/-
 Regions whose operations stand in no fixed order.
-/
namespace Go.Vm
section
variable {P:Program}{C:Ctx}{w0:World}{M:Own}{N:Nat}{ops:Array Oper}{ms:List Nat}{k:Nat}{s:St}{nd kd:Nat->Bool}{V:Nat->SV}{X:Nat->Heap}{E:Nat->Env}{L:Nat->List (Nat×Heap)}{H:Nat->Heap}{a:Act}
theorem Ci {m:Mem}{f:Nat->SV}{o:Oper}{e:Env}{b:Bool}(hS:∀ t,RelSV m (a.tmps.getD t undef) (f t))(he:∀ t∈looks ops.toList o,e.get t=f t)(hg:AH ops.toList o e b) :
  Region.wanted o (yielded ops a.tmps)=b:=by
 have slot:∀{j want d},o.guard=some (j,want)->pU ops.toList j=some d->d∈looks ops.toList o:=by intro j want d h1 h2;unfold looks;rw[h1];simp[h2]
 have yv:∀{j d},pU ops.toList j=some d->(ops[j]?).bind (·.dst)=some d:=by
  intro j d hj;unfold pU at hj;rw[VV]at hj;split at hj
  ·rename_i o ho;simp[ho,hj]
  simp at hj
 have get:∀ d v,a.tmps.getD d undef=v->v≠undef->a.tmps[d]?=some v:=by
  intro d v h hne;rw[Vr]at h;cases hg:a.tmps[d]? with
  |none=>rw[hg]at h;exact absurd h.symm hne
  |some u=>rw[hg]at h;simp at h;rw[h]
 cases b with
 |true=>
  rcases hg with hg|⟨j,want,d,h1,h2,h3⟩
  ·simp[Region.wanted,hg]
  have hv:=hS d;rw[<- he d (slot h1 h2),h3]at hv;have hv:=get d _ (pk hv) (by simp[undef]);simp[Region.wanted,h1,yielded,yv h2,hv]
 |false=>
  obtain⟨j,want,d,h1,h2,h3⟩:=hg;have hv:=hS d;rw[<- he d (slot h1 h2)]at hv;rcases h3 with h3|h3
  ·rw[h3]at hv;have hv:a.tmps.getD d undef=undef:=hv;rw[Vr]at hv;simp only[Region.wanted,h1,yielded,yv h2,Option.bind_some];cases hg:a.tmps[d]? with
   |none=>simp
   |some v=>rw[hg]at hv;simp at hv;subst hv;simp[undef]
  rw[h3]at hv;have hv:=get d _ (pk hv) (by simp[undef]);simp[Region.wanted,h1,yielded,yv h2,hv]
theorem NS {m m':Mem}{o:Oper}{v:Value}{f g:Nat->SV}(he:Evo m m')(hS:∀ t,RelSV m (a.tmps.getD t undef) (f t))(hd:∀ d,o.dst=some d->d < a.tmps.size)
  (hv:∀ d,o.dst=some d->RelSV m' v (g d)) (hg:∀ t,o.dst≠some t->g t=f t):∀ t,RelSV m' ((a.put o.dst v).tmps.getD t undef) (g t):=by
 intro t;rw[Kz a o.dst v hd];split
 ·rename_i e;exact hv t e
 rename_i e;rw[hg t e];exact qG he (hS t)
def xz(all:List Oper)(k:Nat)(nd:Nat->Bool)(B:Heap)(X:Nat->Heap)(H:Nat->Heap)(S:Nat->Bool)(G:Heap):Prop:=
 ((∀ l o,k<=l->all[l]?=some o->Fr k nd l o=false->S l=false)/\∀ id,G.get id=look X B S k id) \/
 (∃ j,k<=j/\j<=all.length/\(∀ l o,l<j->all[l]?=some o->Fr k nd l o=false->S l=true)/\(∀ l o,j<=l->all[l]?=some o->Fr k nd l o=false->S l=false)/\∀ id,G.get id=(H j).get id)
theorem Trace.free_new{all:List Oper}(h:Trace C all ms k nd kd s V X E L H){i:Nat}{o:Oper}(hi:i<k)(ho:all[i]?=some o)(hf:Fr k nd i o=true):X i=[]:=by
 rcases(h.stepA i o hi ho).2 with⟨_,_,_,_,hl,s',h1,_,h2⟩|⟨_,_,_,h2⟩
 ·unfold Fr at hf;simp only[VY,sg]at hf;have:s'.G=cR (ms.getD i 0) (L i) s.G:=by
   rcases hf with hf|hf
   ·exact(AU hf h1).1
   exact(D6 (hl hf.2) h1).1
  rw[h2]at this;simpa using this
 exact h2
theorem Trace.free_heap{all:List Oper}(h:Trace C all ms k nd kd s V X E L H){i:Nat}{o:Oper}(hi:k<=i)(ho:all[i]?=some o)(hf:Fr k nd i o=true):H (i+1)=H i:=by
 have hf:rG o=true:=by
  unfold Fr at hf;simp only[VY,sg,decide_eq_true_eq]at hf;rcases hf with hf|hf
  ·exact hf
  omega
 rcases(h.stepT i o hi ho).2 with⟨_,s',h1,_,h2,_⟩|⟨_,_,h2⟩
 ·rw[<- h2,(AU hf h1).1]
 exact h2
theorem Trace.keep_box {all:List Oper}(h:Trace C all ms k nd kd s V X E L H){id:Nat}{b:List Atom}(hvr:C.vr id=false)(h0:(H k).get id=some (.box b)):∀(d:Nat),k+d<=all.length ->
  (∀ l o,k<=l->l<k+d->all[l]?=some o->Fr k nd l o=true\/kd l=true)->(H (k+d)).get id=some (.box b)
 |0,_,_=>h0
 |d+1,hd,hf=>by
  obtain⟨o,ho⟩:∃ o,all[k+d]?=some o:=⟨_,bx (by omega)⟩;have ih:=h.keep_box hvr h0 d (by omega) λl o h1 h2=>hf l o h1 (by omega);rw[show k+(d+1)=k+d+1 by omega];rcases hf _ o (by omega) (by omega) ho with hq|hq
  ·rw[h.free_heap (by omega) ho hq];exact ih
  rcases(h.stepT _ o (by omega) ho).2 with⟨_,s',_,_,_,h2⟩|⟨_,_,h2⟩
  ·exact h2 hq _ _ hvr ih
  rw[h2];exact ih
theorem Trace.free_heaps{all:List Oper}(h:Trace C all ms k nd kd s V X E L H){j:Nat}(hj:k<=j):∀(d:Nat),j+d<=all.length->(∀ l o,j<=l->l<j+d->all[l]?=some o->Fr k nd l o=true)->H (j+d)=H j
 |0,_,_=>rfl
 |d+1,hd,hf=>by obtain⟨o,ho⟩:∃ o,all[j+d]?=some o:=⟨_,bx (by omega)⟩;have:=h.free_heap (by omega:k<=j+d) ho (hf _ o (by omega) (by omega) ho);rw[show j+(d+1)=j+d+1 by omega,this];exact h.free_heaps hj d (by omega) λl o h1 h2=>hf l o h1 (by omega)
theorem Nq {all:List Oper}(ho:OrdOK all ms k nd kd)(h:Trace C all ms k nd kd s V X E L H){S:Nat->Bool}{G:Heap}(hH:xz all k nd s.G X H S G){i:Nat}(hki:k<=i)(hi:i<=all.length)
  (hb:∀ l o,l<i->all[l]?=some o->Fr k nd l o=false->S l=true) (ha:∀ l o,i<=l->all[l]?=some o->Fr k nd l o=false->S l=false):∀ id,G.get id=(H i).get id:=by
 have hle:=ho.le;rcases hH with⟨h1,h2⟩|⟨j,j1,j2,j3,j4,j5⟩
 ·have e:H i=H k:=by
   obtain⟨d,rfl⟩:∃ d,i=k+d:=⟨i-k,by omega⟩;refine h.free_heaps (B5 _) d hi λl o l1 l2 hl=>?_;cases hf:Fr k nd l o with
   |true=>rfl
   |false=>have:=h1 l o l1 hl hf;rw[hb l o l2 hl hf]at this;cases this
  intro id;rw[h2,e,h.hk,h.all_get hle (B5 _)];refine t5 λq hq=>?_;obtain⟨o,hoq⟩:∃ o,all[q]?=some o:=⟨_,bx (by omega)⟩;cases hf:Fr k nd q o with
  |true=>right;rw[h.free_new hq hoq hf];rfl
  |false=>left;exact hb q o (by omega) hoq hf
 intro id;rw[j5];rcases Nat.le_total j i with hji|hji
 ·obtain⟨d,rfl⟩:∃ d,i=j+d:=⟨i-j,by omega⟩;rw[h.free_heaps j1 d hi λl o l1 l2 hl=>?_];cases hf:Fr k nd l o with
  |true=>rfl
  |false=>have:=j4 l o l1 hl hf;rw[hb l o l2 hl hf]at this;cases this
 obtain⟨d,rfl⟩:∃ d,j=i+d:=⟨j-i,by omega⟩;rw[h.free_heaps hki d j2 λl o l1 l2 hl=>?_];cases hf:Fr k nd l o with
 |true=>rfl
 |false=>have:=j3 l o l2 hl hf;rw[ha l o l1 hl hf]at this;cases this
theorem C4 {all:List Oper}(ho:OrdOK all ms k nd kd)(h:Trace C all ms k nd kd s V X E L H){S:Nat->Bool}{G:Heap}(hH:xz all k nd s.G X H S G){i:Nat}{o:Oper}(hi:all[i]?=some o)(hX:i < k->X i=[])
  (hor:Fr k nd i o=true\/(i<k/\S i=false)):xz all k nd s.G X H (kT S i) G:=by
 have hne:∀ l o',all[l]?=some o'->Fr k nd l o'=false->Fr k nd i o=true->kT S i l=S l:=by
  intro l o' hl hf hfo;have:l≠i:=λe=>by subst e;rw[hi]at hl;cases hl;rw[hf]at hfo;cases hfo
  simp[kT,this]
 rcases hH with⟨h1,h2⟩|⟨j,j1,j2,j3,j4,j5⟩
 ·refine .inl ⟨λl o' hl ho' hf=>?_,λid=>?_⟩
  ·rcases hor with hfo|⟨hlt,_⟩
   ·rw[hne l o' ho' hf hfo];exact h1 l o' hl ho' hf
   have:l≠i:=by omega
   simp only[kT,h1 l o' hl ho' hf,Wp,beq_eq_false_iff_ne,ne_eq];exact this
  rw[h2];refine t5 λq hq=>?_;by_cases e:q=i
  ·subst e;right;rw[hX hq];rfl
  left;simp[kT,e]
 rcases hor with hfo|⟨hlt,hn⟩
 ·exact .inr ⟨j,j1,j2,λl o' hl ho' hf=>by rw[hne l o' ho' hf hfo];exact j3 l o' hl ho' hf,λl o' hl ho' hf=>by rw[hne l o' ho' hf hfo];exact j4 l o' hl ho' hf,j5⟩
 refine .inr ⟨j,j1,j2,λl o' hl ho' hf=>by simp[kT,j3 l o' hl ho' hf],λl o' hl ho' hf=>?_,j5⟩;have:l≠i:=by omega
 simp only[kT,j4 l o' hl ho' hf,Wp,beq_eq_false_iff_ne,ne_eq];exact this
structure Good (C:Ctx)(w0:World)(M:Own)(N:Nat)(all:List Oper)(k:Nat)(nd:Nat->Bool)(s:St)(V:Nat->SV)(X H:Nat->Heap)(S:Nat->Bool)(a:Act)(m:Mem):Prop where
 inv:Inv C w0 M m
 defers:a.defers=[]
 size:N<=a.tmps.size
 env:∀ t,RelSV m (a.tmps.getD t undef) (Aq all V s.env S all.length t)
 heap:xz all k nd s.G X H S m.G
theorem QT {m:Mem}{o:Oper}{f:Nat->SV}{e:Env}(hS:∀ t,RelSV m (a.tmps.getD t undef) (f t))(he:∀ t∈looks ops.toList o,e.get t=f t) :
  ∀ t,RelSV m (a.tmps.getD t undef) ((kY ops.toList o e).get t):=by
 intro t;rcases Pp (all:=ops.toList) (o:=o) (e:=e) t with⟨h1,h2⟩|h1
 ·rw[h1,he t h2];exact hS t
 rw[h1];trivial
theorem SB{dst:Option Nat}{d:Nat}{v:SV}{e:Env}{G:Heap}(h:dst=some d):(aC dst v ⟨e,G⟩).env.get (dst.getD 0)=v:=by subst h;simp[aC,Env.get_cons]
theorem O1 (hC:CtxOK P C)(ho:OrdOK ops.toList ms k nd kd)(h:Trace C ops.toList ms k nd kd s V X E L H)(hX:Sep ops.toList ms k X s.G)(hbox:∀ id l,s.G.get id=some (.box l)->∀ a∈l,gL s.G a=true)
  (hd:∀ o∈ops.toList,∀ d,o.dst=some d->d<N) {Q:Exit->Act->World->Prop} {K:Act->World->Prop}
  {S:Nat->Bool} {m:Mem} {i:Nat} {o:Oper} (hg:Good C w0 M N ops.toList k nd s V X H S a m) (hS:Closed ops.toList ms S) (hi:ops.toList[i]?=some o) (hn:S i=false) (hp:∀ j,bit (ms.getD i 0) j=true->S j=true)
  (hK:∀ a' m',Good C w0 M N ops.toList k nd s V X H (kT S i) a' m'->K a' m'.w):wpOp P ops Q i K a m.w:=by
 have hlt:i<ops.toList.length:=(tz.1 hi).1;have hle:=ho.le;have hseen:∀ t∈looks ops.toList o,(E i).get t=Aq ops.toList V s.env S ops.toList.length t:=λt ht=>h.seen ho hS hi hn hp ht;have hrel:=QT hg.env hseen;have hmem:o∈ops.toList:=B9 hi;have hdN:∀ d,o.dst=some d->d<a.tmps.size:=λd hd'=>Vn (hd o hmem d hd') hg.size;have hda:jX ops.toList i=o.dst:=by simp[jX,hi]
 have henv:∀ t,Aq ops.toList V s.env (kT S i) ops.toList.length t=if o.dst=some t then V i else Aq ops.toList V s.env S ops.toList.length t:=by intro t;rw[FY ho (B5 _) hlt,hda]
 have hops:ops[i]?=some o:=by rw[<- VV];exact hi
 -- what is left behind,by value and memory
 have fin:∀(v:Value) (m':Mem),Inv C w0 M m'->Evo m m'->(∀ d,o.dst=some d->RelSV m' v (V i))->xz ops.toList k nd s.G X H (kT S i) m'.G->K (a.put o.dst v) m'.w:=by
  intro v m' h1 h2 h3 h4;refine hK _ m' ⟨h1,by cases o.dst<;>exact hg.defers,by cases o.dst<;>simp[Act.put,hg.size],?_,h4⟩;refine NS h2 hg.env hdN (λd hd'=>?_) (λt ht=>?_)
  ·rw[henv,if_pos hd'];exact h3 d hd'
  rw[henv,if_neg ht]
 -- passed by
 have skip:AH ops.toList o (E i) false->V i=.av .undef->xz ops.toList k nd s.G X H (kT S i) m.G->wpOp P ops Q i K a m.w:=by intro hgo hv hh;unfold wpOp;simp only[hops];rw[Ci hg.env hseen hgo];simp only[Vz,if_false];exact fin undef m hg.inv (Evo.refl m) (λd _=>by rw[hv];exact(rfl:undef=undef)) hh
 -- carried out
 have run:∀{w1:World} {M1:Own} {m1:Mem} {s':St},AH ops.toList o (E i) true->m1.w=m.w->Inv C w1 M1 m1->(∀ t,RelSV m1 (a.tmps.getD t undef) ((kY ops.toList o (E i)).get t)) ->
   ax C o ⟨kY ops.toList o (E i),m1.G⟩ some=some s'->V i=s'.env.get (o.dst.getD 0) ->
   (∀ v m',Inv C w1 M1 m'->Evo m1 m'->(∀ d,o.dst=some d->RelSV m' v (V i))->m'.G=s'.G->K (a.put o.dst v) m'.w)->wpOp P ops Q i K a m.w:=by
  intro w1 M1 m1 s' hgo hw hi1 hr hrun hv hfin;unfold wpOp;simp only[hops];rw[Ci hg.env hseen hgo];simp only[if_true];left;rw[<- hw];refine PE (s:=⟨kY ops.toList o (E i),m1.G⟩) (K:=some) hC.tab hC.eqs hC.maps hC.con hC.inl hi1 rfl (Fa hi1 hr) hrun K Q ?_;rintro v w' ⟨s2,hs2,m',sv,rfl,hs3,q1,q2,q3⟩;cases hs2;refine hfin v m' q1 q2 (λd hd'=>?_) (by rw[hs3];cases o.dst<;>rfl);rw[hv,hs3,SB hd'];exact q3
 by_cases hf:rG o=true
 ·-- looks at no memory
  have hX0:i<k->X i=[]:=λhik=>h.free_new hik hi (by unfold Fr;rw[hf];rfl);have hh:xz ops.toList k nd s.G X H (kT S i) m.G:=C4 ho h hg.heap hi hX0 (.inl (by unfold Fr;rw[hf];rfl));have go:∀{G:Heap} {s':St},AH ops.toList o (E i) true->ax C o ⟨kY ops.toList o (E i),G⟩ some=some s'->V i=s'.env.get (o.dst.getD 0)->wpOp P ops Q i K a m.w:=by intro G s' hgo hr hv;refine run hgo rfl hg.inv hrel ((AU hf hr).2 m.G) hv λv m' q1 q2 q3 q4=>fin v m' q1 q2 q3 ?_;rw[q4];exact hh
  by_cases hik:i<k
  ·rcases(h.stepA i o hik hi).2 with⟨hgo,_,_,_,_,s',hr,hv,_⟩|⟨hgo,_,hv,_⟩
   ·exact go hgo hr hv
   exact skip hgo hv hh
  rcases(h.stepT i o (by omega) hi).2 with⟨hgo,s',hr,hv,_,_⟩|⟨hgo,hv,_⟩
  ·exact go hgo hr hv
  exact skip hgo hv hh
 have hf:rG o=false:=by simpa using hf
 by_cases hik:i<k
 ·-- the first part
  rcases hg.heap with hA|⟨j,j1,j2,j3,j4,j5⟩
  case inr=>
   -- a variable is looked at while the second part is under way
   have hnd:nd i=true:=by
    cases hfr:Fr k nd i o with
    |false=>have:=j3 i o (by omega) hi hfr;rw[hn]at this;cases this
    |true=>unfold Fr at hfr;rw[hf]at hfr;simp only[Wp,sg]at hfr;exact hfr.2
   have hfr:Fr k nd i o=true:=by unfold Fr;rw[hnd];simp[hik]
   have hX0:X i=[]:=h.free_new hik hi hfr;have hh:xz ops.toList k nd s.G X H (kT S i) m.G:=C4 ho h hg.heap hi (λ_=>hX0) (.inl hfr);rcases(h.stepA i o hik hi).2 with⟨hgo,_,_,_,hl,s',hr,hv,_⟩|⟨hgo,_,hv,_⟩
   ·have hbx:∀ id l,C.vr id=false->(cR (ms.getD i 0) (L i) s.G).get id=some (.box l)->m.G.get id=some (.box l):=by
     intro id l hvr hl2;rw[h.heapFor_get hle (ms.getD i 0) (j:=i) (by omega)]at hl2;have h1:=K5 ho hX hS hik hn hp hl2;have h2:(H k).get id=some (.box l):=by
      rw[h.hk,h.all_get hle (B5 _),<- h1];refine(t5 λq hq=>?_).symm;obtain⟨oq,hoq⟩:∃ o,ops.toList[q]?=some o:=⟨_,bx (by omega)⟩;cases hfq:Fr k nd q oq with
      |true=>right;rw[h.free_new hq hoq hfq];rfl
      |false=>left;exact j3 q oq (by omega) hoq hfq
     obtain⟨d,rfl⟩:∃ d,j=k+d:=⟨j-k,by omega⟩;rw[j5];refine h.keep_box hvr h2 d j2 λq oq q1 q2 hoq=>?_;cases hfq:Fr k nd q oq with
     |true=>exact .inl rfl
     |false=>
      right;have hSq:=j3 q oq q2 hoq hfq;refine ho.kept q i q1 (by omega) hik hnd ?_;cases hb:bit (ms.getD q 0) i with
      |false=>rfl
      |true=>have:=(hS q hSq).2 i hb;rw[hn]at this;cases this
    refine run hgo rfl hg.inv hrel ((D6 (hl hnd) hr).2 m.G hbx) hv λv m' q1 q2 q3 q4=>fin v m' q1 q2 q3 ?_;rw[q4];exact hh
   exact skip hgo hv hh
  rcases(h.stepA i o hik hi).2 with⟨hgo,hL,hsv,hbx,_,s',hr,hv,hsG⟩|⟨hgo,_,hv,hX0⟩
  ·have hGi:=h.heapFor_get hle (ms.getD i 0) (j:=i) (by omega);have hsub:∀ id o,(cR (ms.getD i 0) (L i) s.G).get id=some o->m.G.get id=some o:=by intro id ob hob;rw[hA.2];rw[hGi]at hob;exact K5 ho hX hS hik hn hp hob
   have hBhas:∀ id,s.G.has id=true->(cR (ms.getD i 0) (L i) s.G).has id=true:=by
    intro id hid;obtain⟨ob,hob⟩:=Heap.get_of_has hid;have:(cR (ms.getD i 0) (L i) s.G).get id=some ob:=by
     rw[hGi,wg,hob];intro q hq _;cases hx:(X q).get id with
     |none=>rfl
     |some o'=>rw[hX.base q id o' (by omega) hx]at hob;cases hob
    exact Heap.has_of_get this
   have hbox':∀ id l,(cR (ms.getD i 0) (L i) s.G).get id=some (.box l)->l.all (λa=>gL (cR (ms.getD i 0) (L i) s.G) a)=true:=by
    intro id l hl;rw[hGi]at hl;rcases zH hl with⟨q,h1,h2,h3,_⟩|⟨_,h2⟩
    ·rcases h.l_mem hle (by omega:i<=k) h1 with h4|h4
     ·rw[h4]at h3;simp[Heap.get]at h3
     rw[U5]at hbx;have h5:=hbx _ h4;simp only[h2,U8,Wp]at h5;unfold yi at h5;rw[U5]at h5;exact h5 _ (Heap.mem_of_get h3)
    rw[U5];exactλa ha=>Cj hBhas (hbox id l h2 a ha)
   have hin:=Qw hg.inv hsub hbox';have hrel':∀ t,RelSV ⟨m.w,m.F,m.ι,cR (ms.getD i 0) (L i) s.G⟩ (a.tmps.getD t undef) ((kY ops.toList o (E i)).get t):=by
    intro t;refine JC hsub (hrel t) ?_;rw[U5]at hsv;have hmem':∀(e:Env) (t:Nat),(∀ p∈e,AD (cR (ms.getD i 0) (L i) s.G) p.2=true)->AD (cR (ms.getD i 0) (L i) s.G) (e.get t)=true:=by
     intro e t he;induction e with
     |nil=>rfl
     |cons p r ih=>
      obtain⟨q,v⟩:=p;simp only[Env.get];cases A3 q t with
      |true=>exact he (q,v) (by simp)
      |false=>exact ih λp hp=>he p (by simp[hp])
    exact hmem' _ t hsv
   refine run (m1:=⟨m.w,m.F,m.ι,cR (ms.getD i 0) (L i) s.G⟩) hgo rfl hin hrel' hr hv λv m' q1 q2 q3 q4=>?_;obtain⟨m2,r1,r2,r3,r4,r5⟩:=Og hg.inv hsub q1 q2 (by rw[q4,hsG]) (λid ob hx hnone=>by
    rw[hA.2];rw[hGi]at hnone;exact Pj ho hX hS hik hn hx hnone)
   rw[<- r1];refine fin v m2 r3 r4 (λd hd'=>r5 _ _ (q3 d hd')) (.inl ⟨λl o' hl ho' hf'=>?_,λid=>?_⟩)
   ·have:l≠i:=by omega
    simp only[kT,hA.1 l o' hl ho' hf',Wp,beq_eq_false_iff_ne,ne_eq];exact this
   rw[r2,Heap.get_append,P4 ho hX hS hik hn,hA.2];try (cases(X i).get id<;>rfl)
  exact skip hgo hv (C4 ho h hg.heap hi (λ_=>hX0) (.inr ⟨hik,hn⟩))
 -- the second part
 have hb:∀ l o',l<i->ops.toList[l]?=some o'->Fr k nd l o'=false->S l=true:=by
  intro l o' hl ho' hf';rcases ho.chain i o (by omega) hi l o' hl ho' with hc|hc
  ·exact hp l hc
  rw[hf']at hc;cases hc
 have ha:∀ l o',i<=l->ops.toList[l]?=some o'->Fr k nd l o'=false->S l=false:=by
  intro l o' hl ho' hf';rcases VO hl with rfl|hl
  ·exact hn
  cases hSl:S l with
  |false=>rfl
  |true=>
   rcases ho.chain l o' (by omega) ho' i o hl hi with hc|hc
   ·rw[(hS l hSl).2 i hc]at hn;cases hn
   have:Fr k nd i o=false:=by unfold Fr;rw[hf];simp[hik]
   rw[this]at hc;cases hc
 have hGH:=Nq ho h hg.heap (by omega) (by omega) hb ha;have hafter:∀ G:Heap,(∀ id,G.get id=(H (i+1)).get id)->xz ops.toList k nd s.G X H (kT S i) G:=by
  intro G hG;refine .inr ⟨i+1,by omega,by omega,λl o' hl ho' hf'=>?_,λl o' hl ho' hf'=>?_,hG⟩
  ·by_cases e:l=i
   ·simp[kT,e]
   simp[kT,hb l o' (by omega) ho' hf']
  have:l≠i:=by omega
  simp only[kT,ha l o' (by omega) ho' hf',Wp,beq_eq_false_iff_ne,ne_eq];exact this
 rcases(h.stepT i o (by omega) hi).2 with⟨hgo,s',hr,hv,hsG,_⟩|⟨hgo,hv,hH⟩
 ·obtain⟨hi1,he1⟩:=HK hg.inv (G':=H i) λid=>(hGH id).symm;refine run (m1:=⟨m.w,m.F,m.ι,H i⟩) hgo rfl hi1 (λt=>qG he1 (hrel t)) hr hv λv m' q1 q2 q3 q4=>?_;exact fin v m' q1 (Evo.trans he1 q2) q3 (hafter _ λid=>by rw[q4,hsG])
 exact skip hgo hv (hafter _ λid=>by rw[hH];exact hGH id)
theorem NH{S:Nat->Bool}{i:Nat}(hS:S i=false):∀{n:Nat},i<n->(L7 n).countP (kT S i)=(L7 n).countP S+1
 |0,h=>by omega
 |n+1,h=>by
  rw[List.range_succ,Yk,Yk];by_cases e:i=n
  ·subst e;have h1:(L7 i).countP (kT S i)=(L7 i).countP S:=by
    refine List.countP_congr λx hx=>?_;have:=Vp.1 hx;have hne:x≠i:=by omega
    simp[kT,hne]
   rw[h1];simp[kT,hS]
  rw[NH hS (by omega:i<n)];have:kT S i n=S n:=by simp[kT,Ne.symm e]
  simp[List.countP_cons,this];omega
theorem IL(hm:P.follows .mixedOrders=true):Bo P:=by
 intro C w0 M N a m s R res K id lt ops Q hC hs hG hd h hQ;refine wp_region_any hm ?_;obtain⟨k,nd,kd,V,X,E,L,H,ho,ht,hN,hKr⟩:=GR h;have hX:=ht.sep ho.le hN;have hdst:=GN hd;have hlen:ops.toList.length=ops.size:=by simp
 have hbox:∀ id l,s.G.get id=some (.box l)->∀ a∈l,gL s.G a=true:=by intro id l hl a ha;rw[<- hG]at hl ⊢;obtain⟨b,c,el,_,_,_,h3⟩:=hs.inv.objs id _ hl;exact wz h3 a ha
 -- the draw
 obtain⟨d1,d2⟩:=OQ hs.inv (w1:={ m.w with drawn:=m.w.drawn+1 }) ⟨rfl,rfl,rfl,B5 _,λ_ _ _=>rfl⟩
 let SS:Array Bool->Nat->Bool:=λl j=>l.getD j false
 have set_S:∀(l:Array Bool) (i:Nat),i<l.size->SS (l.setIfInBounds i true)=kT (SS l) i:=by
  intro l i hi;funext j;show(l.setIfInBounds i true).getD j false=(l.getD j false||j==i);by_cases e:j=i
  ·subst e;simp[hi]
  rw[getD_set_ne false (Ne.symm e)];simp[e]
 have last:∀{S:Nat->Bool} {a:Act} {m:Mem},(∀ i,i<ops.size->S i=true)->Good C w0 M N ops.toList k nd s V X H S a m->Q .normal a m.w:=by
  intro S a m hall hg;have hGH:=Nq ho ht hg.heap ho.le (B5 _) (λl o hl _ _=>hall l (by omega)) (λl o hl ho' _=>by
   have:=(tz.1 ho').1;omega)
  obtain⟨hi1,he1⟩:=HK hg.inv (G':=H ops.toList.length) λid=>(hGH id).symm;refine hQ ⟨E ops.toList.length,H ops.toList.length⟩ a ⟨m.w,m.F,m.ι,H ops.toList.length⟩ hKr rfl ⟨hi1,hg.defers,hg.size,λt=>?_⟩;show RelSV _ _ ((E ops.toList.length).get t);rw[ht.env ho (B5 _)];rw[tL (S':=S) λq hq _=>by rw[hall q (by omega)];exact decide_eq_true hq];exact qG he1 (hg.env t)
 have key:∀(fuel:Nat) (listed:Array Bool) (a:Act) (m:Mem),listed.size=ops.size->ops.size<=fuel+(L7 ops.size).countP (SS listed) ->
   Closed ops.toList (rL ops.toList []) (SS listed)->Good C w0 M N ops.toList k nd s V X H (SS listed) a m->wpAny P .any ops Q fuel listed a m.w:=by
  intro fuel;induction fuel with
  |zero=>
   intro listed a m hsz hcnt hcl hg;have hall:∀ i,i<ops.size->SS listed i=true:=by
    have h1:(L7 ops.size).countP (SS listed)=(L7 ops.size).length:=by have:=List.countP_le_length (p:=SS listed) (l:=L7 ops.size);simp only[List.length_range]at this ⊢;omega
    rw[List.countP_eq_length]at h1;exactλi hi=>h1 i (Vp.2 hi)
   refine⟨?_,last hall hg⟩;unfold Region.ready;rw[List.filter_eq_nil_iff];intro i hi;have hi:=Vp.1 hi;have h1:listed.getD i false=true:=hall i hi;have:listed.getD i true=true:=by
    have hlt:i<listed.size:=by omega
    simpa[hlt]using h1
   rw[this];simp
  |succ fuel ih=>
   intro listed a m hsz hcnt hcl hg;refine⟨λhr=>last ?_ hg,λi hi=>?_⟩
   ·intro i;induction i using Nat.strongRecOn with
    |ind i ih2=>
     intro hi;cases hh:SS listed i with
     |true=>rfl
     |false=>
      have:i∈Region.ready .any ops listed:=by
       rw[mem_ready];have hh:listed.getD i false=false:=hh;have hlt:i<listed.size:=by omega
       refine⟨by simpa[hlt]using hh,ops[i],by simp[hi],λe he hb=>?_⟩;have hon:=ho.edge i ops[i] e (by rw[VV];simp[hi]) (by simpa using he) hb;exact ih2 e.on hon (by omega)
      rw[hr]at this;cases this
   obtain⟨h1,o,ho1,h2⟩:=mem_ready.1 hi;have hlt:i<ops.size:=(Va.1 ho1).1;have hlt':i<listed.size:=by omega
   have hn:SS listed i=false:=by show listed.getD i false=false;simpa[hlt']using h1
   have hi':ops.toList[i]?=some o:=by rw[VV];exact ho1
   have hp:∀ j,bit ((rL ops.toList []).getD i 0) j=true->SS listed j=true:=by
    intro j hj;obtain⟨e,he,hb,h3⟩:=(ho.pre i o j hi').1 hj;have hon:SS listed e.on=true:=h2 e (by simpa using he) hb;rcases h3 with h3|h3
    ·rw[<- h3];exact hon
    exact(hcl e.on hon).2 j h3
   refine O1 hC ho ht hX hbox hdst hg hcl hi' hn hp λa' m' hg'=>?_;refine ih (listed.setIfInBounds i true) a' m' (by simp[hsz]) ?_ ?_ ?_
   ·rw[set_S listed i hlt',NH hn hlt];omega
   ·rw[set_S listed i hlt'];exact hcl.put ho (by omega) hp
   rw[set_S listed i hlt'];exact hg'
 have hS0:SS (WH ops.size false)=λ_=>false:=by funext j;show(WH ops.size false).getD j false=false;simp[Array.getElem?_replicate];split<;>rfl
 refine key ops.size _ a ⟨{ m.w with drawn:=m.w.drawn+1 },m.F,m.ι,m.G⟩ (by simp) (by omega) ?_ ⟨d1,hs.defers,hs.size,λt=>?_,.inl ⟨λl o _ _ _=>by rw[hS0],λid=>?_⟩⟩
 ·rw[hS0];intro i hi;cases hi
 ·rw[hS0,DC λ_ _ _=>rfl];exact qG d2 (hs.env t)
 rw[hS0,wg (λq _ hq=>by cases hq),<- hG]
end
end Go.Vm

/-
 Equality of structs.
-/
namespace Go.Vm
def Ty.deep:Ty->Nat
 |.prod a b=>max (a.deep+1) b.deep
 |.arr _ e=>e.deep+1
 |_=>1
def Ty.Within(d:Nat):Ty->Prop
 |.prod a b=>a.deep<=d/\b.deep<=d+1
 |_=>True
def pT(P:Program):Ty->Option (List Field×Nat)->TypeId->Bool
 |.int _,none,_=>true
 |.bool,none,_=>true
 |.str,none,_=>true
 |.prod a b,none,t=>!(P.stoodInHeld t)&&(match P.underlying t with
  |some (.struct fs)=>(match fs.toList with
   | f :: r => (f.name != "_") && pT P a none f.type && pT P b (some (r, a.size)) 0
   |[]=>false)
  |_=>false)
 |.unit,none,t=>!(P.stoodInHeld t)
 |.arr _ e,none,t=>(match P.underlying t with
  |some (.array _ et)=>pT P e none et
  |_=>false)
 | .prod a b, some (f :: r, o), _ => (f.name != "_") && pT P a none f.type && pT P b (some (r, o + a.size)) 0
 |.unit,some ([],_),_=>true
 |_,_,_=>false
def M0(P:Program)(T:Tab)(eqs:List Nat):Bool:=eqs.all λt=>match T.get t with
 |some τ=>pT P τ none t&&VK τ.deep 9000 && !(P.eqGuardType P.depth t)
 |none=>true
section
variable {P:Program}
theorem wo {τ : Ty}{t:TypeId}(h:chk P τ none t=true)(us:List Value)(o:Nat)(hl:o+τ.size<=us.length)(w:World) :
  (part t us.toArray o).run P w=.ok (toV τ ((us.drop o).take τ.size)) w:=by
 cases ha:τ.isAgg with
 |true=>simp[part,jb h,ha,ca h,toV,List.drop_take]
 |false=>
  have h1':=nV ha;have hlt:o<us.length:=by omega
  simp only[part,Sem.run_bind,jb h,ha,Result.andThen_ok,Vz,if_false,Vb,bx hlt,toV,U4,h1',Sem.run_pure];rw[List.drop_eq_getElem_cons hlt];rfl
theorem FO{α:Type}(p c r:List α):((p++(c++r)).drop p.length).take c.length=c:=by simp
theorem HT{b:Ty}{d:Nat}(h:b.deep<=d+1):b.Within d:=by cases b<;>simp only[Ty.deep,Ty.Within]at h ⊢;omega
mutual
theorem Nv {w:World}{F:Nat->Prop}:∀{τ : Ty} {t:TypeId} {d:Nat} {cs cs':List Value} {x y : τ.den} {r:Bool},chk P τ none t=true->pT P τ none t=true->τ.deep<=d->eqT τ x y=some r->Rd w F τ cs x->Rd w F τ cs' y ->
  ∀ w',(Op.equalIn d t (toV τ cs) (toV τ cs')).run P w'=.ok r w'
 |.int k,t,d,cs,cs',x,y,r,h1,_,h3,h4,h5,h6,w'=>by obtain⟨d,rfl⟩:∃ d',d=d'+1:=⟨d-1,by simp only[Ty.deep]at h3;omega⟩;obtain⟨rfl,_⟩:=h5;obtain⟨rfl,_⟩:=h6;simp only[eqT,ov]at h4;subst h4;exact run_equalIn_int w' d t k k x y (vl h1)
 |.bool,t,d,cs,cs',x,y,r,h1,_,h3,h4,h5,h6,w'=>by
  obtain⟨d,rfl⟩:∃ d',d=d'+1:=⟨d-1,by simp only[Ty.deep]at h3;omega⟩;unfold Rd at h5 h6;subst h5;subst h6
  simp only[eqT,ov]at h4;subst h4;exact run_equalIn_bool' w' d t x y (zx h1)
 |.str,t,d,cs,cs',x,y,r,h1,_,h3,h4,h5,h6,w'=>by obtain⟨d,rfl⟩:∃ d',d=d'+1:=⟨d-1,by simp only[Ty.deep]at h3;omega⟩;obtain⟨rfl,_⟩:=h5;obtain⟨rfl,_⟩:=h6;simp only[eqT,ov]at h4;subst h4;exact run_equalIn_string w' d t x y (qT h1)
 |.prod a b,t,d,cs,cs',x,y,r,h1,h2,h3,h4,h5,h6,w'=>by
  simp only[pT,sg,Vg]at h2;obtain⟨hp,h2⟩:=h2;simp only[chk,sg]at h1;obtain⟨_,h1⟩:=h1;split at h2
  ·rename_i fs hu;rw[hu]at h1;simp only at h1;split at h2
   ·rename_i f rest hfs;rw[hfs]at h1;simp only[sg]at h1 h2;obtain⟨⟨c1,c2⟩,c3⟩:=h1;obtain⟨⟨e1,e2⟩,e3⟩:=h2;obtain⟨d,rfl⟩:∃ d',d=d'+1:=⟨d-1,by simp only[Ty.deep]at h3;omega⟩;have hfo:P.fieldsOf t=fs:=by unfold Program.fieldsOf;rw[hu]
    show(Op.equalIn (d+1) t (.agg cs.toArray) (.agg cs'.toArray)).run P w'=_;rw[run_equalIn_struct w' d t cs.toArray cs'.toArray (by rw[hfo];exact hu) hp,hfo,hfs];have:=Hw (τ:=.prod a b) (fs:=f::rest) (o:=0) (d:=d) (pre:=[]) (pre':=[]) (suf:=[]) (suf':=[]) (by simp[chk,c1,c2];simpa using c3) (by simp only[pT,sg];exact⟨⟨e1,e2⟩,by simpa using e3⟩) (by
     simp only[Ty.deep]at h3;exact⟨by omega,by omega⟩) h4 h5 h6 rfl rfl w'
    simpa using this
   simp at h2
  simp at h2
 |.unit,t,d,cs,cs',x,y,r,h1,h2,h3,h4,h5,h6,w'=>by
  simp only[pT,Vg]at h2;simp only[chk,sg]at h1;obtain⟨_,h1⟩:=h1;split at h1
  ·rename_i fs hu;split at h1
   ·rename_i hfs;obtain⟨d,rfl⟩:∃ d',d=d'+1:=⟨d-1,by simp only[Ty.deep]at h3;omega⟩;have hfo:P.fieldsOf t=fs:=by unfold Program.fieldsOf;rw[hu]
    show(Op.equalIn (d+1) t (.agg cs.toArray) (.agg cs'.toArray)).run P w'=_;rw[run_equalIn_struct w' d t cs.toArray cs'.toArray (by rw[hfo];exact hu) h2,hfo,hfs];simp only[eqT,ov]at h4;subst h4;simp[Op.eqFields]
   simp at h1
  simp at h1
 |.slice _,_,_,_,_,_,_,_,_,_,_,h4,_,_,_=>by simp[eqT]at h4
 |.arr n e,t,d,cs,cs',x,y,r,h1,h2,h3,h4,h5,h6,w'=>by
  obtain⟨d,rfl⟩:∃ d',d=d'+1:=⟨d-1,by simp only[Ty.deep]at h3;omega⟩;simp only[Ty.deep]at h3;obtain⟨et,hu,he⟩:=yo h1;simp only[pT,hu]at h2;obtain⟨ie,ze,s1,s2,_⟩:=kx he;obtain⟨l1,l2,l3⟩:=h5;obtain⟨k1,k2,k3⟩:=h6;have hc:P.cellsOf et=e.size:=by unfold Program.cellsOf;rw[s1];simpa using s2
  show (Op.equalIn (d+1) t (.agg cs.toArray) (.agg cs'.toArray)).run P w'=_;rw[run_equalIn_array w' d cs.toArray cs'.toArray hu s1,hc];have items:∀(q q':List e.den) (i:Nat) (r:Bool),Lk (eqT e) q q'=some r->i+q.length=n->i+q'.length=n->(∀ j (hj:j < q.length),Rd w F e ((cs.drop ((i+j) * e.size)).take e.size) q[j])->(∀ j (hj:j < q'.length),Rd w F e ((cs'.drop ((i+j) * e.size)).take e.size) q'[j]) ->
    (Op.eqItems d et e.size cs.toArray cs'.toArray (List.range' i q.length)).run P w'=.ok r w':=by
   intro q;induction q with
   |nil=>
    intro q' i r hr hq hq' _ _;cases q' with
    |nil=>simp only[Lk,ov]at hr;subst hr;simp[Op.eqItems]
    |cons b q'=>simp[Lk]at hr
   |cons a q ih=>
    intro q' i r hr hq hq' hR hR';cases q' with
    |nil=>simp[Lk]at hr
    |cons b q'=>
     simp only[B2]at hq hq';have hle:(i+1)*e.size<=n*e.size:=Nat.mul_le_mul_right _ (by omega);rw[Nat.add_mul,Nat.one_mul]at hle;have p1:=wo he cs (i*e.size) (by omega) w';have p2:=wo he cs' (i*e.size) (by omega) w';simp only[Lk]at hr;split at hr
     ·rename_i p hp;split at hr
      ·rename_i q2 hq2;cases hr;have ra:=hR 0 (by simp);have rb:=hR' 0 (by simp);simp only[VR,List.getElem_cons_zero]at ra rb;have ha:=Nv (d:=d) he h2 (by omega) hp ra rb w';rw[B2,List.range'_succ];simp only[Op.eqItems,Sem.run_bind,p1,p2,Result.andThen_ok,ha];cases p with
       |false=>simp
       |true=>
        simp only[U8,Vz,if_false,Ww];exact ih q' (i+1) q2 hq2 (by omega) (by omega) (λj hj=>by
         have:=hR (j+1) (by simp;omega);rw[show i+(j+1)=i+1+j by omega]at this;simpa using this) (λj hj=>by
         have:=hR' (j+1) (by simp;omega);rw[show i+(j+1)=i+1+j by omega]at this;simpa using this)
      simp at hr
     simp at hr
  have:=items x y 0 r h4 (by omega) (by omega) (λj hj=>by rw[Vt];exact l3 j hj) (λj hj=>by rw[Vt];exact k3 j hj);rw[l1]at this;rw[List.range_eq_range'];exact this
 |.ptr _,_,_,_,_,_,_,_,_,_,_,h4,_,_,_=>by simp[eqT]at h4
 |.clo _ _,_,_,_,_,_,_,_,_,_,_,h4,_,_,_=>by simp[eqT]at h4
theorem Hw {w:World}{F:Nat->Prop}:∀{τ : Ty} {fs:List Field} {o d:Nat} {cs cs' pre pre' suf suf':List Value} {x y : τ.den} {r:Bool},chk P τ (some (fs,o)) 0=true->pT P τ (some (fs,o)) 0=true ->
  τ.Within d->eqT τ x y=some r->Rd w F τ cs x->Rd w F τ cs' y->pre.length=o->pre'.length=o ->
  ∀ w',(Op.eqFields d (pre++(cs++suf)).toArray (pre'++(cs'++suf')).toArray fs).run P w'=.ok r w'
 |.prod a b,f::rest,o,d,cs,cs',pre,pre',suf,suf',x,y,r,h1,h2,h3,h4,h5,h6,hp,hp',w'=>by
  simp only[chk,sg]at h1;simp only[pT,sg,bne_iff_ne,ne_eq]at h2;obtain⟨⟨c1,c2⟩,c3⟩:=h1;obtain⟨⟨e1,e2⟩,e3⟩:=h2;have hoff:f.offset=o:=A6 c1;obtain⟨u1,u2,rfl,hu1,hu2⟩:=h5;obtain⟨v1,v2,rfl,hv1,hv2⟩:=h6;have lu:=hu1.len;have lv:=hv1.len;have p1:(part f.type (pre++((u1++u2)++suf)).toArray f.offset).run P w'=.ok (toV a u1) w':=by rw[wo c2 _ _ (by simp;omega),hoff,<- hp,<- lu,Vv u1,FO]
  have p2:(part f.type (pre'++((v1++v2)++suf')).toArray f.offset).run P w'=.ok (toV a v1) w':=by rw[wo c2 _ _ (by simp;omega),hoff,<- hp',<- lv,Vv v1,FO]
  simp only[eqT]at h4;split at h4
  ·rename_i p hpp;split at h4
   ·rename_i q hq;cases h4;have ha:=Nv c2 e2 h3.1 hpp hu1 hv1 w';simp only[Op.eqFields,e1,not_false_eq_true,if_true,ne_eq,Sem.run_bind,p1,p2,Result.andThen_ok,ha];cases p with
    |false=>simp
    |true=>simp only[U8,Vz,if_false,Ww];have hb3:b.Within d:=HT h3.2;have:=Hw (τ:=b) (fs:=rest) (o:=o+a.size) (d:=d) (pre:=pre++u1) (pre':=pre'++v1) (suf:=suf) (suf':=suf') c3 e3 hb3 hq hu2 hv2 (by simp;omega) (by simp;omega) w';simpa using this
   simp at h4
  simp at h4
 |.prod a b,[],_,_,_,_,_,_,_,_,_,_,_,h1,_,_,_,_,_,_,_,_=>by simp[chk]at h1
 |.unit,[],o,d,cs,cs',pre,pre',suf,suf',x,y,r,h1,h2,h3,h4,h5,h6,hp,hp',w'=>by simp only[eqT,ov]at h4;subst h4;simp[Op.eqFields]
 |.unit,_::_,_,_,_,_,_,_,_,_,_,_,_,h1,_,_,_,_,_,_,_,_=>by simp[chk]at h1
 |.int _,_,_,_,_,_,_,_,_,_,_,_,_,h1,_,_,_,_,_,_,_,_=>by simp[chk]at h1
 |.bool,_,_,_,_,_,_,_,_,_,_,_,_,h1,_,_,_,_,_,_,_,_=>by simp[chk]at h1
 |.str,_,_,_,_,_,_,_,_,_,_,_,_,h1,_,_,_,_,_,_,_,_=>by simp[chk]at h1
 |.slice _,_,_,_,_,_,_,_,_,_,_,_,_,h1,_,_,_,_,_,_,_,_=>by simp[chk]at h1
 |.arr _ _,_,_,_,_,_,_,_,_,_,_,_,_,h1,_,_,_,_,_,_,_,_=>by simp[chk]at h1
 |.ptr _,_,_,_,_,_,_,_,_,_,_,_,_,h1,_,_,_,_,_,_,_,_=>by simp[chk]at h1
 |.clo _ _,_,_,_,_,_,_,_,_,_,_,_,_,h1,_,_,_,_,_,_,_,_=>by simp[chk]at h1
end
theorem K9{C:Ctx}(hT:eL P C.tab=true)(h:M0 P C.tab C.eqs=true):Sv P C:=by
 intro t τ ht ha hin w F cs cs' x y r hr h1 h2;rw[Wi]at hin;obtain⟨e,he,hee⟩:=hin;have:e=t:=A6 hee;subst this;unfold M0 at h;rw[U5]at h;have:=h e he;rw[ht]at this;simp only[sg,Vg]at this;obtain⟨⟨c1,c2⟩,c3⟩:=this;refine⟨λw'=>?_,λop p q w'=>?_⟩
 ·show(Op.equalIn Op.maxDepth e _ _).run P w'=_;exact Nv (ah hT ht (NB ha)) c1 (by have:=Vi c2;show τ.deep<=10000;omega) hr h1 h2 w'
 have e1:toV τ cs=.agg cs.toArray:=by simp[toV,ha]
 have e2:toV τ cs'=.agg cs'.toArray:=by simp[toV,ha]
 rw[e1,e2];exact run_eqGuard_agg w' op e p q _ _ c3
end
end Go.Vm

/-
 Maps: what is asked of their types, checked once.
-/
namespace Go.Vm
section
variable {P:Program}
mutual
theorem Qn {w:World}{F:Nat->Prop}(em:Bool):∀{τ : Ty} {t:TypeId} {d:Nat} {cs:List Value} {x : τ.den},chk P τ none t=true->pT P τ none t=true->τ.plain=true->τ.deep<=d->Rd w F τ cs x ->
  ∀ w',(Instr.checkKey em d t (toV τ cs)).run P w'=.ok () w'
 |.int k,t,d,cs,x,h1,_,_,h3,h5,w'=>by obtain⟨d,rfl⟩:∃ d',d=d'+1:=⟨d-1,by simp only[Ty.deep]at h3;omega⟩;obtain⟨rfl,_⟩:=h5;simp[Instr.checkKey,run_underlying (vl h1),toV,Ty.isAgg]
 |.bool,t,d,cs,x,h1,_,_,h3,h5,w'=>by obtain⟨d,rfl⟩:∃ d',d=d'+1:=⟨d-1,by simp only[Ty.deep]at h3;omega⟩;unfold Rd at h5;subst h5;simp[Instr.checkKey,run_underlying (zx h1),toV,Ty.isAgg]
 |.str,t,d,cs,x,h1,_,_,h3,h5,w'=>by obtain⟨d,rfl⟩:∃ d',d=d'+1:=⟨d-1,by simp only[Ty.deep]at h3;omega⟩;obtain⟨rfl,_⟩:=h5;simp[Instr.checkKey,run_underlying (qT h1),toV,Ty.isAgg]
 |.prod a b,t,d,cs,x,h1,h2,hpl,h3,h5,w'=>by
  simp only[pT,sg,Vg]at h2;obtain⟨hp,h2⟩:=h2;simp only[chk,sg]at h1;obtain⟨_,h1⟩:=h1;split at h2
  ·rename_i fs hu;rw[hu]at h1;simp only at h1;split at h2
   ·rename_i f rest hfs;rw[hfs]at h1;simp only[sg]at h1 h2;obtain⟨⟨c1,c2⟩,c3⟩:=h1;obtain⟨⟨e1,e2⟩,e3⟩:=h2;obtain⟨d,rfl⟩:∃ d',d=d'+1:=⟨d-1,by simp only[Ty.deep]at h3;omega⟩;have:=F3 (F:=F) (w:=w) em (τ:=.prod a b) (fs:=f::rest) (o:=0) (d:=d) (cs:=cs) (x:=x) (pre:=[]) (suf:=[]) (by simp[chk,c1,c2];simpa using c3) (by simp only[pT,sg];exact⟨⟨e1,e2⟩,by simpa using e3⟩) hpl (by
     simp only[Ty.deep]at h3;exact⟨by omega,by omega⟩) h5 rfl w'
    simp only[List.nil_append,Vw]at this;simp only[toV,Ty.isAgg,U3,Instr.checkKey,Sem.run_bind,run_underlying hu,Result.andThen_ok];rw[<- Yf,hfs];rw[this];rfl
   simp at h2
  simp at h2
 |.unit,t,d,cs,x,h1,h2,_,h3,h5,w'=>by
  simp only[chk,sg]at h1;obtain⟨_,h1⟩:=h1;split at h1
  ·rename_i fs hu;split at h1
   ·rename_i hfs;obtain⟨d,rfl⟩:∃ d',d=d'+1:=⟨d-1,by simp only[Ty.deep]at h3;omega⟩;simp only[toV,Ty.isAgg,U3,Instr.checkKey,Sem.run_bind,run_underlying hu,Result.andThen_ok];rw[<- Yf,hfs];simp
   simp at h1
  simp at h1
 |.slice _,_,_,_,_,_,_,h,_,_,_=>by cases h
 |.arr _ _,_,_,_,_,_,_,h,_,_,_=>by cases h
 |.ptr _,_,_,_,_,_,_,h,_,_,_=>by cases h
 |.clo _ _,_,_,_,_,_,_,h,_,_,_=>by cases h
theorem F3 {w:World}{F:Nat->Prop}(em:Bool):∀{τ : Ty} {fs:List Field} {o d:Nat} {cs pre suf:List Value} {x : τ.den},chk P τ (some (fs,o)) 0=true->pT P τ (some (fs,o)) 0=true->τ.plain=true ->
  τ.Within d->Rd w F τ cs x->pre.length=o ->
  ∀ w',(forIn (m:=Sem) fs PUnit.unit λf (_:PUnit)=>(do
   if f.name ≠ "_" then Instr.checkKey em d f.type (<- part f.type (pre ++ (cs ++ suf)).toArray f.offset)
   pure (ForInStep.yield PUnit.unit))).run P w'=.ok PUnit.unit w'
 |.prod a b,f::rest,o,d,cs,pre,suf,x,h1,h2,hpl,h3,h5,hp,w'=>by
  simp only[chk,sg]at h1;simp only[pT,sg,bne_iff_ne,ne_eq]at h2;simp only[Ty.plain,sg]at hpl;obtain⟨⟨c1,c2⟩,c3⟩:=h1;obtain⟨⟨e1,e2⟩,e3⟩:=h2;have hoff:f.offset=o:=A6 c1;obtain⟨u1,u2,rfl,hu1,hu2⟩:=h5;have lu:=hu1.len;have p1:(part f.type (pre++((u1++u2)++suf)).toArray f.offset).run P w'=.ok (toV a u1) w':=by rw[wo c2 _ _ (by simp;omega),hoff,<- hp,<- lu,Vv u1,FO]
  have ha:=Qn em c2 e2 hpl.1 h3.1 hu1 w';have hb3:b.Within d:=HT h3.2;have:=F3 em (τ:=b) (fs:=rest) (o:=o+a.size) (d:=d) (pre:=pre++u1) (suf:=suf) c3 e3 hpl.2 hb3 hu2 (by simp;omega) w';simp only[List.forIn_cons,Sem.run_bind,e1,ne_eq,not_false_eq_true,if_true,Result.andThen_ok,p1,ha,Sem.run_pure];simpa using this
 |.prod a b,[],_,_,_,_,_,_,h1,_,_,_,_,_,_=>by simp[chk]at h1
 |.unit,[],o,d,cs,pre,suf,x,h1,h2,_,h3,h5,hp,w'=>by simp
 |.unit,_::_,_,_,_,_,_,_,h1,_,_,_,_,_,_=>by simp[chk]at h1
 |.int _,_,_,_,_,_,_,_,h1,_,_,_,_,_,_=>by simp[chk]at h1
 |.bool,_,_,_,_,_,_,_,h1,_,_,_,_,_,_=>by simp[chk]at h1
 |.str,_,_,_,_,_,_,_,h1,_,_,_,_,_,_=>by simp[chk]at h1
 |.slice _,_,_,_,_,_,_,_,h1,_,_,_,_,_,_=>by simp[chk]at h1
 |.arr _ _,_,_,_,_,_,_,_,h1,_,_,_,_,_,_=>by simp[chk]at h1
 |.ptr _,_,_,_,_,_,_,_,h1,_,_,_,_,_,_=>by simp[chk]at h1
 |.clo _ _,_,_,_,_,_,_,_,h1,_,_,_,_,_,_=>by simp[chk]at h1
end
theorem C5:∀{τ:Ty},τ.plain=true->∀ x y:τ.den,eqT τ x y=some (eqK τ x y)
 |.int _,_,_,_=>rfl
 |.bool,_,_,_=>rfl
 |.str,_,_,_=>rfl
 |.prod a b,h,x,y=>by simp only[Ty.plain,sg]at h;have h1:=C5 h.1 x.1 y.1;have h2:=C5 h.2 x.2 y.2;unfold eqK;simp only[eqT,h1,h2]
 |.unit,_,_,_=>rfl
 |.slice _,h,_,_=>by cases h
 |.arr _ _,h,_,_=>by cases h
 |.ptr _,h,_,_=>by cases h
 |.clo _ _,h,_,_=>by cases h
def Rt(P:Program)(p:Nat×(Ty×Ty)):Bool:=match P.underlying p.1 with
 |some (.map kt vt)=>chk P p.2.1 none kt&&chk P p.2.2 none vt&&p.2.1.plain&&p.2.2.flat && !(decide (p.2.1=.unit))&&pT P p.2.1 none kt&&VK p.2.1.deep 9000
 |_=>false
def BB(P:Program)(T:List (Nat×(Ty×Ty))):Bool:=T.all (Rt P)
theorem Md{T:List (Nat×(Ty×Ty))}:∀{t:Nat} {p:Ty×Ty},vC T t=some p->(t,p)∈T:=by
 induction T with
 |nil=>intro t p h;simp[vC]at h
 |cons q r ih=>
  intro t p h;obtain⟨i,v⟩:=q;simp only[vC]at h;cases hb:A3 i t with
  |true=>rw[hb]at h;simp at h;subst h;rw[A6 hb];simp
  |false=>rw[hb]at h;exact Vk _ (ih h)
theorem IA{C:Ctx}(h:BB P C.maps=true):BZ P C:=by
 intro t k v ht;unfold BB at h;rw[U5]at h;have:=h _ (Md ht);unfold Rt at this;simp only at this;split at this
 ·rename_i kt vt hu;simp only[sg]at this;obtain⟨⟨⟨⟨⟨⟨c1,c2⟩,c3⟩,c4⟩,c0⟩,c5⟩,c6⟩:=this;have c0:¬k=.unit:=by simpa using c0
  have c6:=Vi c6;exact⟨kt,vt,hu,c1,c2,c3,c0,c4,λw F cs x em hx w'=>Qn em c1 c5 c3 (by omega) hx w',λw w1 F F1 cs cs' x y hx hy w'=>by
   show(Op.equalIn Op.maxDepth kt _ _).run P w'=_;exact Nv c1 c5 (by show k.deep<=10000;omega) (C5 c3 x y) hx (wZ (uf c3) hy w F) w'⟩
 simp at this
end
end Go.Vm

/-
 A function's contract, from its text and its loops.
-/
namespace Go.Vm
structure LoopPf (C:Ctx)(A:Anns)(body:Code) where
 key:Nat
 ann:Ann
 B:ann.head.ty.den->Option (ann.head.ty.den⊕yM ann.exits)
 fix:ann.fn=ab B
 R:∀ x,round C A ann (nY key body) x=B x
theorem RM {C:Ctx}{A:Anns}{body:Code}(l:List (LoopPf C A body))(h1:aX body=l.map fun p=>nY p.key body)
  (h2:(l.map λp=>A.get (ee (nY p.key body)))=l.map λp=>some p.ann):EE C A (aX body):=by
 intro c hc ann hann x y hy;rw[h1]at hc;obtain⟨p,hp,rfl⟩:=List.mem_map.1 hc;have h3:A.get (ee (nY p.key body))=some p.ann:=by
  clear h1 hc;induction l with
  |nil=>simp at hp
  |cons q l ih=>
   simp only[L3,Wk]at h2;rcases A9.1 hp with rfl|hp
   ·exact h2.1
   exact ih h2.2 hp
 rw[h3]at hann;cases hann;rw[p.fix]at hy;have:round C A p.ann (nY p.key body)=p.B:=funext p.R;rw[this];exact kB.1 hy
structure SeatOK (P:Program)(T:Tab)(eqs:List Nat):Prop where
 tab:eL P T=true
 eqs:M0 P T eqs=true
 order:P.follows .mixedOrders=true
theorem SeatOK.ctx{P:Program}{C:Ctx}(h:SeatOK P C.tab C.eqs)(hm:BB P C.maps=true)(hc:∀ f site c,C.con f site=some c->c.Holds P C.glob f)(hn:∀ f,C.inl f=none):CtxOK P C:=
 ⟨h.tab,K9 h.tab h.eqs,IA hm,hc,λf r h=>by rw[hn f]at h;cases h⟩
theorem Pv {d:Bool}{P:Program}{C:Ctx}{A:Anns}{f:FuncId}{fn:Func}{ins:List (Mode×Ty)}{outs:BC}{M:(aG (ins.map (·.2))).den->Option (aG ((outs.map (·.2)).map (·.2)++bm ins)).den}
  (hS:SeatOK P C.tab C.eqs) (hc:∀ f site c,C.con f site=some c->c.Holds P C.glob f) (hf:P.funcs[f]?=some fn) (hb:fn.body=some (gk fn))
  (hL : EE C A (aX (gk fn))) (hk : (!(fn.name == "runtime.NumGoroutine") && kI fn.ntmps (gk fn) && DB A ins && D0 P outs && BB P C.maps) = true) (hres : fn.results = (outs.map (·.1)).toArray)
  (heq:∀ x,vq C A (gk fn) ins outs x d=M x) (hn:∀ f,C.inl f=none):Con.Holds P C.glob f ⟨ins,outs.map (·.2),M,d⟩:=by
 simp only[sg,Vg]at hk;obtain⟨⟨⟨⟨k1,k2⟩,k3⟩,k4⟩,k5⟩:=hk;exact Hq (hS.ctx k5 hc hn) (IL hS.order) hf hb k1 hL k2 k3 hres k4 heq
end Go.Vm

