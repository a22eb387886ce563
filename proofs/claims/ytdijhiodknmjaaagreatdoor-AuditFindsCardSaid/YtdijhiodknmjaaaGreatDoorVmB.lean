/-
 A machine on typed values, small enough to be reckoned by the kernel, and the proof that it goes with the model: part 2 of 5. What it computes for a function is that function's contract. No condition of its own.
-/
import Derived.Test.YtdijhiodknmjaaaGreatDoorVmA
import Derived.Lib.ConvBytes
import Derived.Laws.BytesArg
import Derived.Laws.Tables
import Derived.ArgAppend
import Derived.WalkSpells
import Derived.Laws.StructEq
import Derived.Laws.Cover3
open Option renaming bind_some->bv,bind_eq_some_iff->A8,map_some->VZ,map_eq_some_iff->Wq
open List renaming getElem?_eq_getElem->bx,getElem?_eq_some_iff->tz,replicate->A7,mem_cons->A9,length_cons->B2,mem_append->B6,length_nil->B8,mem_of_getElem?->B9,map_cons->L3,length_replicate->L5,length_set->L8,length_append->U6,eq_nil_of_length_eq_zero->U7,getElem?_toArray->Vb,getElem?_take->Vc,length_take->Vd,pairwise_cons->Ve,getElem?_cons_zero->Vh,mem_cons_of_mem->Vk,getElem?_cons_succ->Vs,append_assoc->Vv,append_nil->Vw,getElem?_map->Vy,mem_iff_getElem?->VD,mem_cons_self->VF,getElem?_eq_none->VG,mem_of_mem_take->VI,pairwise_singleton->VL,getElem_append_right->VN,drop_eq_getElem_cons->VQ,getElem_append_left->VW,getElem?_drop->V3,mem_of_mem_drop->V5,ext_getElem?->Wb,length_pos_iff->Wd,size_toArray->Wl,length_drop->Wn,getElem_take->Wo,getElem_replicate->Ws,take_append_of_le_length->Wt,drop_left->WK,drop_zero->WO,drop_take->WZ,getElem?_append_left->W6,headD_cons->Xl,flatten_cons->Xv,drop_append_of_le_length->XE,drop_drop->XH,getElem?_append_right->XJ,getElem?_append->X2,getElem?_zipIdx->X4,map_map->X5,replicate_succ->Ye,getElem_drop->Yq,isEmpty_nil->Yu,foldlM_cons->Yv,zipIdx_cons->Yw
open Option.some renaming injEq->ov
open Bool renaming and_eq_true->sg,not_eq_true'->Vg,false_eq_true->Vz,or_eq_false_iff->X0,and_self->YM
open Nat renaming beq->A3,eq_of_beq_eq_true->A6,mul_le_mul_right->B3,le_refl->B5,add_mul->L6,le_of_ble_eq_true->Vi,lt_of_lt_of_le->Vn,zero_add->Vt,ble->VK,add_zero->VR,add_assoc->VS,mul_le_mul->V9,mul_one->Wx,add_comm->WU,eq_zero_or_pos->W8,one_mul->Xq,add_mul_mod_self_right->XM,div_lt_iff_lt_mul->X6,mod_eq_of_lt->YB,mul_eq_zero->YF,div_add_mod->YG,mul_zero->YW,mul_comm->YX,mod_lt->Y6
open Prod.mk renaming injEq->B4
open Array renaming getElem?_eq_some_iff->Va,length_toList->Vl,toArray_toList->VH,getElem?_toList->VV,range->V0,size_append->W5,toList_map->Xw,map->Xz,ext'->XI,getElem?_push->X3
open List.Pairwise renaming nil->Wh,cons->WR
open List.cons renaming injEq->Wk
open Int renaming mul_le_mul->YN
set_option linter.unusedVariables false
set_option linter.unusedSimpArgs false
/-
 The machine's operations against the model's: memory.
-/
namespace Go.Vm
section
variable {P:Program}{C:Ctx}{w0:World}{M:Own}{o:Oper}{a:Act}{m:Mem}{s s':St}
theorem rD{R:Type}{v:SV}{K:Int->Option R}{r:R}(h:asI v K=some r):∃(k:IntKind) (n:Int),v=.av (.val (.int k) n)/\K n=some r:=by
 unfold asI at h;split at h
 ·exact⟨_,_,rfl,h⟩
 simp at h
theorem Be (hi:Inv C w0 M m){id:Nat}{τ : Ty}{l:List τ.den}(hg:m.G.get id=some (.arr τ l)){j:Nat}(hj:j < l.length) :
  ∃ b off cap c el fz,m.ι id=.slice (some ⟨b,off,none⟩) l.length cap/\l.length<=cap/\cap≠0/\m.w.heap[b]?=some (.cells c el fz)/\uu τ c.size fz/\off+cap*τ.size<=c.size /\
   off+j*τ.size+τ.size<=c.size/\(∀ i (h:i<l.length),Rd m.w m.F τ (seg c (off+i*τ.size) τ.size) l[i])/\cap<=maxLen:=by
 obtain⟨ad,cap,h1,h2,h3,h4⟩:=hi.objs id _ hg;have hc:cap≠0:=by omega
 obtain⟨b,off,c,el,fz,rfl,q2,q3,q4,q5⟩:=h4 hc;refine⟨b,off,cap,c,el,fz,h1,h2,hc,q2,q3,q4,?_,q5,h3⟩;have:(j+1)*τ.size<=cap*τ.size:=B3 _ (by omega);rw[L6]at this;omega
theorem xn {k:IntKind}:∀{us:List Value} {l:List Atom} {xs:List Int},vZ k l=some xs->Rel2 (ak m) us l ->
  us.length=xs.length/\∀ i,i<xs.length->∃ u,us[i]?=some u/\ak m u (.val (.int k) (xs.getD i 0))
 |[],[],xs,h,_=>by simp[vZ]at h;subst h;simp
 |_::_,[],_,_,h=>h.elim
 |[],_::_,_,_,h=>h.elim
 |u::us,b::l,xs,h,hr=>by
  unfold vZ at h;split at h
  ·simp_all
  ·rename_i k' x r he;simp only[Wk]at he;obtain⟨rfl,rfl⟩:=he;cases hk:decide (k'=k)with
   |false=>rw[hk]at h;simp at h
   |true=>
    have:k'=k:=by simpa using hk
    subst this;rw[hk,U3]at h;split at h
    ·rename_i ys hy;cases h;obtain⟨h1,h2⟩:=xn hy hr.2;refine⟨by simp[h1],λi hi=>?_⟩;cases i with
     |zero=>exact⟨u,rfl,hr.1⟩
     |succ i=>obtain⟨v,q1,q2⟩:=h2 i (by simpa using hi);exact⟨v,by simpa using q1,by simpa using q2⟩
    simp at h
  simp at h
theorem CI {m':Mem}{k:IntKind}{y:Int}{v:Value}{idx:Nat}(hv:ak m' v (.val (.int k) y)):∀{us:List Value} {xs:List Int} {j:Nat},us.length=xs.length ->
  (∀ i,i<xs.length->∃ u,us[i]?=some u/\ak m' u (.val (.int k) (xs.getD i 0)))->Rel2 (ak m') (if j<=idx then us.set (idx-j) v else us) (wq k idx y j xs)
 |[],[],j,_,_=>by split<;>simp[wq,Rel2]
 |_::_,[],_,h,_=>by simp at h
 |[],_::_,_,h,_=>by simp at h
 |u::us,x::xs,j,h,hr=>by
  have ih:=CI (idx:=idx) (us:=us) (xs:=xs) (j:=j+1) hv (by simpa using h) (λi hi=>by
   obtain⟨w,q1,q2⟩:=hr (i+1) (by simpa using hi);exact⟨w,by simpa using q1,by simpa using q2⟩)
  obtain⟨u0,q1,q2⟩:=hr 0 (by simp);simp only[Vh,ov]at q1;subst q1;simp only[List.getD_cons_zero]at q2;unfold wq;by_cases e:idx=j
  ·subst e;rw[if_neg (by omega)]at ih;simp only[B5,if_true,Nat.sub_self,List.set_cons_zero,Nat.beq_refl,U3];exact⟨hv,ih⟩
  have eb:A3 idx j=false:=by
   cases hb:A3 idx j with
   |false=>rfl
   |true=>exact absurd (A6 hb) e
  rw[eb,U4];by_cases hj:j<=idx
  ·rw[if_pos hj];rw[if_pos (by omega)]at ih;have:idx-j=(idx-(j+1))+1:=by omega
   rw[this,List.set_cons_succ];exact⟨q2,ih⟩
  rw[if_neg hj];rw[if_neg (by omega)]at ih;exact⟨q2,ih⟩
theorem Se {t:TypeId}{x:Operand}(hT:eL P C.tab=true)(hi:Inv C w0 M m)(hG:m.G=s.G)(hS:∀ x,RelSV m (a.eval x) (aw C s.env x))(ho:o.op=.load t x)
  (h:ax C o s some=some s'):Does P o a m.w (Res C w0 M m s s' o.dst):=by
 simp only[ax,ho]at h;have hx:=hS x;have fin {v:Value} {ad:Addr} {sv:SV} (hv:a.eval x=.pointer (some ad)) (hl:(loadVar t ad).run P m.w=.ok v m.w) (hr:RelSV m v sv) (hs:some (aC o.dst sv s)=some s') :
   Does P o a m.w (Res C w0 M m s s' o.dst):=
  az hi hG (v:=v) (by simp[execOp,ho,hv,Instr.loadAt,Instr.sureAddr,hl]) hr hs
 split at h
 ·rename_i τ p ht hp;have hck:=Fo hT ht;rw[hp]at hx;unfold loadAt at h;split at h
  ·rename_i id off;obtain⟨_,ob,hob,hv⟩:=(au (m:=m) (a:=.ptr id off) (by intros;simp)).1 hx;rw[hG]at hob;split at h
   ·rename_i l hl;rw[hl]at hob;simp only[ov]at hob;subst hob;obtain⟨b,hι,hv⟩:=hv;obtain⟨b',c,el,h1,h2,h3,h4⟩:=hi.objs id _ (hG▸hl);rw[hι]at h1;simp only[Value.pointer.injEq,ov,Addr.mk.injEq,and_true]at h1;subst h1;split at h
    ·rename_i cs hcs;obtain⟨rfl,hle⟩:=ud hcs;have hlen:=h4.length;simp only[Vl,Wn]at hlen hle;by_cases hz:off+τ.size<=c.size
     ·refine fin hv (kz hck h2 hz) (uO ?_ ((h4.drop off).take τ.size)) h;intro u hu;exact h3 u (V5 (VI hu))
     have hz0:τ.size=0:=by omega
     cases ha:τ.isAgg with
     |false=>have:=nV ha;omega
     |true=>
      refine fin (v:=.agg #[]) (sv:=pM τ ((l.drop off).take τ.size)) hv ?_ ?_ h
      ·simp[loadVar,hck.agg,ha,hck.size,hz0,loadCells,loadCellsFrom]
      rw[hz0];simp only[List.take_zero,pM,ha,U3];exact⟨[],rfl,by simp,trivial⟩
    simp at h
   simp at h
  ·rename_i id j p';obtain⟨_,ob,hob,hv⟩:=(au (m:=m) (a:=.aptr id j p') (by intros;simp)).1 hx;rw[hG]at hob;split at h
   ·rename_i σ l hl;rw[hl]at hob;simp only[ov]at hob;subst hob;obtain⟨hj,b,off,n,cap,q,hι,hq,hv⟩:=hv;obtain⟨b',off',cap',c,el,fz,h1,h2,h3,h4,h5,h6,h7,h8,h9⟩:=Be hi (hG▸hl) hj;rw[hι]at h1;simp only[Value.slice.injEq,ov,Addr.mk.injEq,and_true]at h1;obtain⟨⟨rfl,rfl⟩,rfl,rfl⟩:=h1;rw[bx hj]at h;simp only[bv]at h;split at h
    ·rename_i t' y hy;obtain⟨o',r1,r2,r3⟩:=FU hy (h8 j hj);rw[r1]at hq;simp only[ov]at hq;subst hq;split at h
     ·rename_i z hz;obtain⟨e,hz⟩:=aI hz;subst e;subst hz
      have hseg:((seg c (off+j*σ.size) σ.size).drop o').take t'.size=seg c (off+j*σ.size+o') t'.size:=by unfold seg;rw[nP _ _ _ _ _ r2]
      rw[hseg]at r3;exact fin hv (kz hck h4 (by simp only;omega)) (Ik r3) h
     simp at h
    simp at h
   ·rename_i ver σ l hl;rw[hl]at hob;simp only[ov]at hob;subst hob;obtain⟨hj,rfl,b,off,n,cap,us,hι,h0,hv⟩:=hv;by_cases hτ:τ=.slice σ
    ·subst hτ;simp only[decide_true,Yu,YM,U3]at h;obtain⟨u,hs,h1,h2⟩:=fv hi (hG▸hl);obtain⟨b',off',cap',c,el,fz,v,q1,q2,q3,q4,q5,q6,q7,q8⟩:=DH h2 hj;obtain⟨q8,q9⟩:=q8 (by simp);rw[h1]at hι;simp only[Value.tuple.injEq]at hι;subst hι;simp only[Vb,Vh,ov]at h0;rw[h0]at q1;simp only[Value.slice.injEq,ov,Addr.mk.injEq,and_true]at q1;obtain⟨⟨rfl,rfl⟩,rfl,rfl⟩:=q1;have hlt:off+j<c.size:=by omega
     have hld:=kz hck q3 (off:=off+j) (by simp only[Ty.size];omega);have hseg:seg c (off+j) (Ty.slice σ).size=[v]:=by obtain⟨_,e⟩:=Va.1 q8;simp only[Ty.size,seg];rw[VQ (by simpa using hlt)];simp[e]
     rw[hseg]at hld;refine fin (sv:=.av (.sub id ver j)) hv hld ?_ h;exact(au (m:=m) (v:=v) (a:=.sub id ver j) (by intros;simp)).2 ⟨cI q9,.deep ver σ l none,hG▸hl,B5 _,λ_=>⟨hj,rfl,_,h1,by simpa using q7⟩⟩
    simp[hτ]at h
   simp at h
  ·rename_i id ver j k;obtain⟨_,ob,hob,hv⟩:=(au (m:=m) (a:=.saptr id ver j k) (by intros;simp)).1 hx;rw[hG]at hob;split at h
   ·rename_i ver' σ l hl;rw[hl]at hob;simp only[ov]at hob;subst hob;cases hb:A3 ver ver' with
    |false=>rw[hb]at h;simp at h
    |true=>
     rw[hb]at h;have:=A6 hb;subst this;obtain⟨hj,_,us,b,off,n,cap,hι,h0,hk,hv⟩:=hv.2 rfl;simp only[U3,wP hj]at h;obtain⟨y,hy,h⟩:=A8.1 h;obtain⟨hkl,rfl⟩:=tz.1 hy;split at h
     ·rename_i z hz;obtain⟨e,hz⟩:=aI hz;subst e;subst hz
      obtain⟨u,hs,h1,h2⟩:=fv hi (hG▸hl);rw[h1]at hι;simp only[Value.tuple.injEq]at hι;subst hι;simp only[Vb,Vs]at h0;have q9:=h2.inner j hj _ h0 (by simp);obtain⟨b',off',cap',c,el,fz,q1,q2,q3,q4,q5,q6⟩:=Nh q9 hkl;simp only[Value.slice.injEq,ov,Addr.mk.injEq,and_true]at q1;obtain⟨⟨rfl,rfl⟩,rfl,rfl⟩:=q1;exact fin hv (kz hck q3 (by omega)) (Ik q6) h
     simp at h
   simp at h
  ·rename_i σ y;split at h
   ·rename_i z hz;obtain⟨e,hz⟩:=aI hz;subst e;subst hz
    obtain⟨b,off,c,el,fz,h1,h2,h3,h4,h5⟩:=EG hx;exact fin h1 (kz hck h3 h4) (Ik h5) h
   simp at h
  ·rename_i id off cnt idx wd;obtain⟨_,ob,hob,hv⟩:=(au (m:=m) (a:=.iptr id off cnt idx wd) (by intros;simp)).1 hx;rw[hG]at hob;split at h
   ·rename_i _ _ _ l k hl;rw[hl]at hob;simp only[ov]at hob;subst hob;obtain⟨hw,b,hι,hv⟩:=hv;obtain⟨b',c,el,h1,h2,h3,h4⟩:=hi.objs id _ (hG▸hl);rw[hι]at h1;simp only[Value.pointer.injEq,ov,Addr.mk.injEq,and_true]at h1;subst h1;split at h
    ·rename_i xs hxs;cases hb:(A3 wd 1&&A3 xs.length cnt)with
     |false=>rw[hb]at h;simp at h
     |true=>
      rw[hb]at h;simp only[U3]at h;simp only[sg]at hb;have b1:=A6 hb.1;have b2:=A6 hb.2;obtain⟨r1,r2⟩:=xn hxs ((h4.drop off).take cnt);obtain⟨u,r3,r4⟩:=r2 idx (by omega);have hlt:off+idx<c.size:=by have:=(tz.1 r3).1;simp at this;omega
      rw[Vc,if_pos (by omega),V3]at r3;have hseg:seg c (off+idx) (Ty.int k).size=[u]:=by obtain⟨_,e⟩:=tz.1 r3;simp only[Ty.size,seg];rw[VQ (by simpa using hlt)];simp[e]
      have hld:=kz hck h2 (off:=off+idx) (by simp only[Ty.size];omega);rw[hseg]at hld;exact fin (sv:=.av (.val (.int k) (xs.getD idx 0))) hv hld ⟨[u],by simp[toV,Ty.isAgg],r4.1⟩ h
    simp at h
   simp at h
  simp at h
 simp at h
theorem Co{P:Program}{τ:Ty}{t:TypeId}(hck:chk P τ none t=true){G:Heap}{v:SV}{x:τ.den}(h:bD G τ v=some x):jv G v=dh v:=by
 cases v with
 |av a=>
  cases a with
  |ptr _ _=>cases τ<;>simp[bD]at h;simp[chk]at hck
  |clo _ _=>cases τ<;>simp[bD]at h;simp[chk]at hck
  |_=>rfl
 |agg _=>rfl
 |tup _=>rfl
theorem cK:∀(ids:List Nat) (G:Heap) (i:Nat),i∉ids->(aD ids G).get i=G.get i
 |[],_,_,_=>rfl
 |j::r,G,i,h=>by simp only[A9,not_or]at h;show(aD r ((j,.dead)::G)).get i=_;rw[cK r _ i h.2,Heap.get_cons,if_neg (Ne.symm h.1)]
theorem D5 (hi:Inv C w0 M m){σ : Ty}{v:SV}{u:Value}{x:List σ.den×List Nat}(h:EC m.G σ v=some x)(hr:RelSV m u v) :
  HdrW m.w m.F u σ x.1/\((x.2=[]/\∀ b,¬HB u b)\/∃ id,x.2=[id]/\m.G.get id=some (.arr σ x.1)/\u=m.ι id):=by
 unfold EC at h;split at h
 ·cases h;obtain⟨ad,rfl,_⟩:=hr;exact⟨⟨ad,0,rfl,by simp,by unfold maxLen;omega,λh=>absurd rfl h⟩,.inl ⟨rfl,λb hb=>by cases ad<;>simp[HB,HB1]at hb⟩⟩
 ·rename_i id;split at h
  ·rename_i τ l hg;split at h
   ·rename_i y hy;cases h;obtain⟨e,hy⟩:=aI hy;simp only[Ty.slice.injEq]at e;subst e;subst hy
    obtain⟨_,ob,hob,hv⟩:=hr;rw[hg]at hob;cases hob;have hv:=hv rfl;subst hv;exact⟨hi.objs id _ hg,.inr ⟨id,rfl,hg,rfl⟩⟩
   simp at h
  simp at h
 simp at h
theorem OC{R:Type}{hole:Option Nat}{j:Nat}{K:Option R}{r:R}(h:JZ hole j K=some r):(hole=none\/hole=some j)/\K=some r:=by
 unfold JZ at h;split at h
 ·exact⟨.inl rfl,h⟩
 split at h
 ·rename_i e;subst e;exact⟨.inr rfl,h⟩
 simp at h
theorem Ps {t:TypeId}{x y:Operand}(hT:eL P C.tab=true)(hi:Inv C w0 M m)(hG:m.G=s.G)(hS:∀ x,RelSV m (a.eval x) (aw C s.env x))(ho:o.op=.store t x y)
  (h:ax C o s some=some s'):Does P o a m.w (Res C w0 M m s s' o.dst):=by
 simp only[ax,ho]at h;have hx:=hS x;have hy:=hS y;split at h
 ·rename_i τ p ht hp;have hck:=Fo hT ht;rw[hp]at hx;unfold storeAt at h;split at h
  ·rename_i id off;obtain⟨_,ob,hob,hv⟩:=(au (m:=m) (a:=.ptr id off) (by intros;simp)).1 hx;rw[hG]at hob;split at h
   ·rename_i l hl;rw[hl]at hob;simp only[ov]at hob;subst hob;obtain⟨b,hι,hv⟩:=hv;obtain⟨b',c,el,h1,h2,h3,h4⟩:=hi.objs id _ (hG▸hl);rw[hι]at h1;simp only[Value.pointer.injEq,ov,Addr.mk.injEq,and_true]at h1;subst h1;split at h
    ·rename_i cs hcs;obtain⟨k1,k2⟩:=yu hcs hy;cases hb:A3 cs.length τ.size with
     |false=>rw[hb]at h;simp at h
     |true=>
      rw[hb]at h;simp only[U3]at h;have hcl:=A6 hb;split at h
      ·rename_i l' hl';obtain⟨rfl,hle⟩:=zF hl';have hlen:=h4.length;have hlen2:=k1.length;simp only[Vl]at hlen hlen2;have hst:=nH (te:=.unit) hck h2 (.inl (B5 _)) (off:=off) (by omega) (v:=a.eval y) (by omega) k2;obtain⟨g1,g2⟩:=ku hi (id:=id) (o:=.box l) (o':=.box (l.take off++cs++l.drop (off+cs.length))) (b:=b) (hG▸hl) rfl (by rw[hι];rfl) trivial
        (w1:=m.w.setRow b (aS c off (a.eval y).cells.toList)) (eO _ _ _) (λhe=>by
         refine⟨b,_,el,hι,setRow_heap m.w b c _ el _ h2,?_,?_⟩
         ·intro u hu;simp only[aS,B6]at hu;rcases hu with(hu|hu)|hu
          ·exact h3 u (VI hu)
          ·exact k2 u hu
          exact h3 u (V5 hu)
         have e1:=hZ he h4;have e2:=hZ he k1;have hsp:(aS c off (a.eval y).cells.toList).toList=c.toList.take off++(a.eval y).cells.toList++c.toList.drop (off+cs.length):=by simp only[aS,<- hlen2,Vl]
         rw[hsp];exact((e1.take off).append e2).append (e1.drop _))
       refine Does.skip (w':=m.w.setRow b (aS c off (a.eval y).cells.toList)) (by simp[execOp,ho,hv,Instr.storeAt,Instr.sureAddr,hst]) ⟨_,.av .undef,rfl,?_,g1,g2,rfl⟩;simp only[ov]at h;rw[<- h,hG];rfl
      simp at h
    simp at h
   simp at h
  ·rename_i id j p';obtain⟨_,ob,hob,hv⟩:=(au (m:=m) (a:=.aptr id j p') (by intros;simp)).1 hx;rw[hG]at hob;split at h
   ·rename_i σ l hl;rw[hl]at hob;simp only[ov]at hob;subst hob;obtain⟨hj,b,off,n,cap,q,hι,hq,hv⟩:=hv;split at h
    ·rename_i z hz;rw[bx hj]at h;simp only[bv]at h;split at h
     ·rename_i x' hx';cases hc:((dh (aw C s.env y)).contains id||τ.isClo)with
      |true=>rw[hc]at h;simp at h
      |false=>
       rw[hc]at h;simp only[U4,ov]at h;rw[X0]at hc;obtain⟨hc,hcl⟩:=hc;have hnot:id∉dh (aw C s.env y):=by simpa using hc
       rw[<- hG]at hz;obtain⟨cs,hcs,hrd⟩:=jB hi hz hy;rw[Co (ah hT ht hcl) hz]at hrd;obtain⟨m1,a1,a2,a3,a4,a5,a6⟩:=jg (dh (aw C s.env y)) hi;have hrd1:Rd m1.w m1.F τ cs z:=hrd.mono (λb hb=>⟨a6 b hb,by rw[a1]⟩);have hg1:m1.G.get id=some (.arr σ l):=by rw[a3,cK _ _ _ hnot,hG];exact hl
       obtain⟨b',off',cap',c,el,fz,h1,h2,h3,h4,h5,h6,h7,h8,h9⟩:=Be a4 hg1 hj;rw[a2,hι]at h1;simp only[Value.slice.injEq,ov,Addr.mk.injEq,and_true]at h1;obtain⟨⟨rfl,rfl⟩,rfl,rfl⟩:=h1;obtain⟨o',r1,r2,r3⟩:=BI hx' (h8 j hj) hrd1;rw[r1]at hq;simp only[ov]at hq;subst hq;have hvc:(a.eval y).cells=cs.toArray:=by rw[hcs];exact zQ hrd1
       have hlen:=hrd1.len;rw[a1]at h4;have hst:=nH hck h4 h5 (off:=off+j*σ.size+o') (by omega) (v:=a.eval y) (by rw[hvc];simpa using hlen) (by rw[hvc];simpa using hrd1.one);rw[hvc]at hst;simp only at hst;have hfit:off+j*σ.size+o'+cs.length<=c.size:=by omega
       obtain⟨g1,g2⟩:=ku a4 (id:=id) (o:=.arr σ l) (o':=.arr σ (l.set j x')) (b:=b) hg1 rfl (by rw[a2,hι];simp[HB,HB1,h3]) ⟨rfl,by simp⟩
        (w1:=m.w.setRow b (aS c (off+j*σ.size+o') cs)) (by rw[a1];exact eO _ _ _) (λhe=>by
         refine⟨some ⟨b,off,none⟩,cap,by simp only[a2,hι,L8],by simpa using h2,h9,λ_=>?_⟩;refine⟨b,off,_,el,fz,rfl,setRow_heap m.w b c _ el _ h4,by rw[cv _ _ _ hfit];exact h5,by rw[cv _ _ _ hfit];exact h6,λi hi'=>?_⟩;simp only[L8]at hi';by_cases hij:j=i
         ·subst hij;rw[List.getElem_set_self];refine Rd.mono (λb hb=>⟨hb,(he.fro b hb).2⟩) (w:=m1.w) (F:=m1.F) ?_;have:seg (aS c (off+j*σ.size+o') cs) (off+j*σ.size) σ.size=(seg c (off+j*σ.size) σ.size).take o'++cs++(seg c (off+j*σ.size) σ.size).drop (o'+cs.length):=by
           apply Wb;intro k;have hsl:=mp c (off+j*σ.size) σ.size (by omega);by_cases hk:k<σ.size
           ·rw[seg_getElem? _ _ _ _ hk,kE _ _ _ hfit];simp only[X2,U6,Vd,hsl,Vc,V3];have hmin:min o' σ.size=o':=by omega
            rw[hmin];by_cases k1:k<o'
            ·rw[if_neg (by omega),if_pos (by omega),if_pos k1,if_pos k1,seg_getElem? _ _ _ _ hk]
            by_cases k2:k<o'+cs.length
            ·rw[if_pos (by omega),if_pos k2,if_neg k1];congr 1;omega
            rw[if_neg (by omega),if_neg k2,seg_getElem? _ _ _ _ (by omega)];congr 1;omega
           have e1:(seg (aS c (off+j*σ.size+o') cs) (off+j*σ.size) σ.size)[k]?=none:=by apply VG;rw[mp _ _ _ (by rw[cv _ _ _ hfit];omega)];omega
           have e2:((seg c (off+j*σ.size) σ.size).take o'++cs++(seg c (off+j*σ.size) σ.size).drop (o'+cs.length))[k]?=none:=by apply VG;simp[hsl];omega
           rw[e1,e2]
          rw[this];exact r3
         rw[List.getElem_set_ne hij];refine Rd.mono (λb hb=>⟨hb,(he.fro b hb).2⟩) (w:=m1.w) (F:=m1.F) ?_;rw[eK _ _ _ hfit]
         ·exact h8 i hi'
         rcases Nat.lt_or_gt_of_ne hij with hlt|hgt
         ·right;have:(j+1)*σ.size<=i*σ.size:=B3 _ hlt;rw[L6]at this;omega
         left;have:(i+1)*σ.size<=j*σ.size:=B3 _ hgt;rw[L6]at this;omega)
       refine Does.skip (w':=m.w.setRow b (aS c (off+j*σ.size+o') cs)) (by simp[execOp,ho,hv,Instr.storeAt,Instr.sureAddr,hst]) ⟨_,.av .undef,rfl,?_,g1,a5.trans g2,rfl⟩;rw[<- h,a3,hG];rfl
     simp at h
    simp at h
   ·rename_i ver σ l hole hl;rw[hl]at hob;simp only[ov]at hob;subst hob;obtain⟨hj,rfl,b,off,n,cap,us,hι,h0,hv⟩:=hv;by_cases hτ:τ=.slice σ
    ·subst hτ;simp only[decide_true,Yu,YM,U3]at h;split at h
     ·rename_i x hx';obtain⟨hh,h⟩:=OC h;simp only[ov]at h;rw[<- hG]at hx';obtain⟨k1,k2⟩:=D5 hi hx' hy;obtain⟨u,hs,h1,h2⟩:=fv hi (hG▸hl);obtain⟨b',off',cap',c,el,fz,v,q1,q2,q3,q4,q5,q6,q7,q8⟩:=DH h2 hj;rw[h1]at hι;simp only[Value.tuple.injEq]at hι;subst hι;simp only[Vb,Vh,ov]at h0;rw[h0]at q1;simp only[Value.slice.injEq,ov,Addr.mk.injEq,and_true]at q1;obtain⟨⟨rfl,rfl⟩,rfl,rfl⟩:=q1;have hone:=cI k1;have hcells:=zJ hone;have hst:=nH hck q3 q4 (off:=off+j) (by simp only[Ty.size];omega) (v:=a.eval y) (by rw[hcells];rfl) (by rw[hcells];simpa using hone);rw[hcells]at hst;have hids:∀ i∈x.2,∃ o,m.G.get i=some o:=by
       intro i hi';rcases k2 with⟨e,_⟩|⟨id2,e,hg2,_⟩
       ·rw[e]at hi';simp at hi'
       rw[e]at hi';simp at hi';subst hi';exact⟨_,hg2⟩
      have hnot:id∉x.2:=by
       intro hi';rcases k2 with⟨e,_⟩|⟨id2,e,hg2,_⟩
       ·rw[e]at hi';simp at hi'
       rw[e]at hi';simp at hi';subst hi'
       rw[hG,hl]at hg2;cases hg2
      obtain⟨d1,d2,d3,d4⟩:=wF x.2 hi hids;have hf:iT w0 M ⟨m.w,m.F,m.ι,aD x.2 m.G⟩ (a.eval y):=by
       intro b' hb';rcases k2 with⟨_,e⟩|⟨id2,e,hg2,e2⟩
       ·exact absurd hb' (e b')
       exact d4 id2 (by rw[e];simp) _ hg2 rfl b' (by rw[<- e2];exact hb')
      obtain⟨m',p1,p2,p3,p4,p5⟩:=Qx (m:=⟨m.w,m.F,m.ι,aD x.2 m.G⟩) d1 (id:=id) (ver:=ver) (j:=j) (by show(aD x.2 m.G).get id=_;rw[cK _ _ _ hnot,hG];exact hl) hj hh k1 hf h1 (by simp[h0]) q2 q3 (eO m.w b (aS c (off+j) [a.eval y])) (setRow_heap m.w b c _ el _ q3);refine Does.skip (w':=m.w.setRow b (aS c (off+j) [a.eval y])) (by simp[execOp,ho,hv,Instr.storeAt,Instr.sureAddr,hst]) ⟨m',.av .undef,p1,?_,p4,d2.trans p5,rfl⟩;rw[<- h,p3,hG];rfl
     simp at h
    simp[hτ]at h
   simp at h
  ·rename_i id ver j k;obtain⟨_,ob,hob,hv⟩:=(au (m:=m) (a:=.saptr id ver j k) (by intros;simp)).1 hx;rw[hG]at hob;split at h
   ·rename_i ver' σ l hl;rw[hl]at hob;simp only[ov]at hob;subst hob;cases hc:(A3 ver ver'&&decide (τ=σ) && !((dh (aw C s.env y)).contains id||τ.isClo))with
    |false=>rw[hc]at h;simp at h
    |true=>
     rw[hc]at h;simp only[U3]at h;simp only[sg,Vg,decide_eq_true_eq,X0]at hc;obtain⟨⟨hver,rfl⟩,hc,hcl⟩:=hc;have:=A6 hver;subst this;have hnot:id∉dh (aw C s.env y):=by simpa using hc
     obtain⟨hj,_,us,b,off,n,cap,hι,h0,hk,hv⟩:=hv.2 rfl;split at h
     ·rename_i z hz;simp only[wP hj,ov]at h;rw[<- hG]at hz;obtain⟨cs,hcs,hrd⟩:=jB hi hz hy;rw[Co (ah hT ht hcl) hz]at hrd;obtain⟨m1,a1,a2,a3,a4,a5,a6⟩:=jg (dh (aw C s.env y)) hi;have hrd1:Rd m1.w m1.F τ cs z:=hrd.mono (λb hb=>⟨a6 b hb,by rw[a1]⟩);have hg1:m1.G.get id=some (.deep ver τ l none):=by rw[a3,cK _ _ _ hnot,hG];exact hl
      obtain⟨u,hs,h1,h2⟩:=fv a4 hg1;rw[a2]at h1;rw[h1]at hι;simp only[Value.tuple.injEq]at hι;subst hι;simp only[Vb,Vs]at h0;have q9:=h2.inner j hj _ h0 (by simp);have hkl:k<l[j].length:=by obtain⟨ad,cap1,e1,_⟩:=q9;simp only[Value.slice.injEq]at e1;omega
      obtain⟨b',off',cap',c,el,fz,q1,q2,q3,q4,q5,q6,q7⟩:=RT q9 hkl hrd1;simp only[Value.slice.injEq,ov,Addr.mk.injEq,and_true]at q1;obtain⟨⟨rfl,rfl⟩,rfl,rfl⟩:=q1;have hvc:(a.eval y).cells=cs.toArray:=by rw[hcs];exact zQ hrd1
      have hlen:=hrd1.len;rw[a1]at q3;have hst:=nH hck q3 q4 (off:=off+k*τ.size) (by omega) (v:=a.eval y) (by rw[hvc];simpa using hlen) (by rw[hvc];simpa using hrd1.one);rw[hvc]at hst;simp only at hst;have hbi:HB (.slice (some ⟨b,off,none⟩) l[j].length cap) b:=⟨q2,rfl⟩;have hbd:HB (m1.ι id) b:=by rw[a2,h1,eD h2.one];exact⟨_,Vk _ (B9 h0),hbi⟩
      obtain⟨g1,g2⟩:=ku a4 (id:=id) (o:=.deep ver τ l none) (o':=.deep ver τ (l.set j (l[j].set k z)) none) (b:=b) hg1 rfl hbd ⟨rfl,rfl,by simp,rfl⟩
       (w1:=m.w.setRow b (aS c (off+k*τ.size) cs)) (by rw[a1];exact eO _ _ _) (λhe=>by
        refine⟨u,hs,by show m1.ι id=_;rw[a2];exact h1,?_⟩;refine LD h2 hj h0 hbi he.fro (λk' hk'=>?_) (λ_=>q7 _ _ he.fro (setRow_heap m.w b c _ el _ q3)) (by simp);rw[a1];exact(eO m.w b (aS c (off+k*τ.size) cs)).block k' hk')
      refine Does.skip (w':=m.w.setRow b (aS c (off+k*τ.size) cs)) (by simp[execOp,ho,hv,Instr.storeAt,Instr.sureAddr,hst]) ⟨_,.av .undef,rfl,?_,g1,a5.trans g2,rfl⟩;rw[<- h,a3,hG];rfl
     simp at h
   simp at h
  ·rename_i id off cnt idx wd;obtain⟨_,ob,hob,hv⟩:=(au (m:=m) (a:=.iptr id off cnt idx wd) (by intros;simp)).1 hx;rw[hG]at hob;split at h
   ·rename_i _ _ _ _ l k k' z hl hz;rw[hl]at hob;simp only[ov]at hob;subst hob;obtain⟨hw,b,hι,hv⟩:=hv;obtain⟨b',c,el,h1,h2,h3,h4⟩:=hi.objs id _ (hG▸hl);rw[hι]at h1;simp only[Value.pointer.injEq,ov,Addr.mk.injEq,and_true]at h1;subst h1;split at h
    ·rename_i xs hxs;cases hb:(A3 wd 1&&A3 xs.length cnt&&decide (k'=k))with
     |false=>rw[hb]at h;simp at h
     |true=>
      rw[hb]at h;simp only[U3]at h;simp only[sg,decide_eq_true_eq]at hb;obtain⟨⟨hb1,hb2⟩,rfl⟩:=hb;have b1:=A6 hb1;have b2:=A6 hb2;rw[hz]at hy;obtain⟨hyv,hy1,hy2⟩:=gM hy;obtain⟨r1,r2⟩:=xn hxs ((h4.drop off).take cnt);have hsz:off+cnt<=c.size:=by have:=r1;simp at this;omega
      have hcl:(a.eval y).cells=#[.int k' z]:=by rw[hyv];rfl
      have hst:=nH (te:=.unit) hck h2 (.inl (B5 _)) (off:=off+idx) (by simp only[Ty.size];omega) (v:=a.eval y) (by rw[hcl];rfl) (by rw[hcl];simp[Value.oneCell']);rw[hcl]at hst;have hsp:(aS c (off+idx) [.int k' z]).toList=c.toList.take off++(((c.toList.drop off).take cnt).set idx (.int k' z)++c.toList.drop (off+cnt)):=by
       apply Wb;intro p;have hg:=kE c (off+idx) [.int k' z] (by simp;omega) p;rw[VV,hg];simp only[B2,B8,Vt,X2,Vd,L8,Wn,Vl,Vc,V3,List.getElem?_set];by_cases p1:p<off
       ·rw[if_neg (by omega),if_pos (by omega),if_pos p1];simp
       have e1:min off c.size=off:=by omega
       have e2:min cnt (c.size-off)=cnt:=by omega
       rw[e1,e2,if_neg p1];by_cases p2:p-off<cnt
       ·rw[if_pos p2];by_cases p3:idx=p-off
        ·have p4:p=off+idx:=by omega
         subst p4;rw[if_pos (by omega),if_pos (by omega),if_pos (by omega)];simp
        rw[if_neg (by omega),if_neg p3,if_pos p2];have:off+(p-off)=p:=by omega
        rw[this];simp
       rw[if_neg p2,if_neg (by omega)];have:off+cnt+(p-off-cnt)=p:=by omega
       rw[this];simp
      obtain⟨g1,g2⟩:=ku hi (id:=id) (o:=.box l) (o':=.box (l.take off++(wq k' idx z 0 xs++l.drop (off+cnt)))) (b:=b) (hG▸hl) rfl (by rw[hι];rfl) trivial
       (w1:=m.w.setRow b (aS c (off+idx) [.int k' z])) (eO _ _ _) (λhe=>by
        refine⟨b,_,el,hι,setRow_heap m.w b c _ el _ h2,?_,?_⟩
        ·intro u hu;rw[hsp]at hu;simp only[B6]at hu;rcases hu with hu|hu|hu
         ·exact h3 u (VI hu)
         ·rcases List.mem_or_eq_of_mem_set hu with hu|hu
          ·exact h3 u (V5 (VI hu))
          rw[hu];rfl
         exact h3 u (V5 hu)
        have e1:=hZ he h4;rw[hsp];refine(e1.take off).append (Rel2.append ?_ (e1.drop _));have:=CI (m':=_) (k:=k') (y:=z) (v:=.int k' z) (idx:=idx) (show ak _ _ (.val (.int k') z)from⟨⟨rfl,hy1,hy2⟩,rfl⟩) (us:=(c.toList.drop off).take cnt) (xs:=xs) (j:=0) r1 (λi hi'=>by
         obtain⟨u,q1,q2⟩:=r2 i hi';exact⟨u,q1,cF he q2⟩)
        simpa using this)
      refine Does.skip (w':=m.w.setRow b (aS c (off+idx) [.int k' z])) (by simp[execOp,ho,hv,Instr.storeAt,Instr.sureAddr,hst]) ⟨_,.av .undef,rfl,?_,g1,g2,rfl⟩;simp only[ov]at h;rw[<- h,hG];rfl
    simp at h
   simp at h
  simp at h
 simp at h
end
end Go.Vm

/-
 The machine's operations against the model's: places, lengths, parts.
-/
namespace Go.Vm
section
variable {P:Program}{C:Ctx}{w0:World}{M:Own}{o:Oper}{a:Act}{m:Mem}{s s':St}
theorem BM{R:Type}{v:SV}{K:Int->Option R}{r:R}(h:AO v K=some r):∃ n:Int,v=.av (.val (.int .i64) n)/\K n=some r:=by
 unfold AO at h;split at h
 ·exact⟨_,rfl,h⟩
 simp at h
theorem wI {τ σ : Ty}{t:TypeId}{f q:Nat}(hck:chk P τ none t=true)(hf : τ.field f=some (q,σ))(hp:1<=σ.size)(b off:Nat)(w:World) :
  (Instr.fieldAt t (.pointer (some ⟨b,off,none⟩)) f).run P w=.ok (.pointer (some ⟨b,off+q,none⟩)) w:=by
 obtain⟨fs,fd,h1,h2,h3,h4⟩:=Ge hck hf;have hs:=ca h4 w;have h0:σ.size≠0:=by omega
 simp[Instr.fieldAt,run_underlying h1,h2,Instr.sureAddr,fieldPlace,hs,h0,h3,du]
theorem Iv {t:TypeId}{x:Operand}{f:Nat}(hT:eL P C.tab=true)(hi:Inv C w0 M m)(hG:m.G=s.G)(hS:∀ x,RelSV m (a.eval x) (aw C s.env x))(ho:o.op=.fieldAddr t x f)
  (h:ax C o s some=some s'):Does P o a m.w (Res C w0 M m s s' o.dst):=by
 simp only[ax,ho]at h;have hx:=hS x;split at h
 ·rename_i id off hp;rw[hp]at hx;obtain⟨_,ob,hob,hv⟩:=(au (m:=m) (a:=.ptr id off) (by intros;simp)).1 hx;rw[hG]at hob;split at h
  ·rename_i l τ hl ht;rw[hl]at hob;simp only[ov]at hob;subst hob;obtain⟨b,hι,hv⟩:=hv;split at h
   ·rename_i o' t' hf;cases hb:VK 1 t'.size with
    |false=>rw[hb]at h;simp at h
    |true=>rw[hb]at h;have hpos:=Vi hb;exact az hi hG (v:=.pointer (some ⟨b,off+o',none⟩)) (sv:=.av (.ptr id (off+o'))) (by simp[execOp,ho,hv,wI (ah hT ht (wn hf)) hf hpos]) (show ak m _ (.ptr id (off+o'))from⟨rfl,.box l,hG▸hl,b,hι,rfl⟩) h
   simp at h
  simp at h
 ·rename_i id j p hp;rw[hp]at hx;obtain⟨_,ob,hob,hv⟩:=(au (m:=m) (a:=.aptr id j p) (by intros;simp)).1 hx;rw[hG]at hob;split at h
  ·rename_i σ l τ hl ht;rw[hl]at hob;simp only[ov]at hob;subst hob;obtain⟨hj,b,off,n,cap,q,hι,hq,hv⟩:=hv;rw[hq]at h;obtain⟨q1,q2⟩:=q;simp only at h hv;cases hd:decide (q2=τ)with
   |false=>rw[hd]at h;simp at h
   |true=>
    rw[hd]at h;have:q2=τ:=by simpa using hd
    subst this;simp only[U3]at h;split at h
    ·rename_i o' t' hf;cases hb:VK 1 t'.size with
     |false=>rw[hb]at h;simp at h
     |true=>
      rw[hb]at h;have hpos:=Vi hb;exact az hi hG (v:=.pointer (some ⟨b,off+j*σ.size+q1+o',none⟩)) (sv:=.av (.aptr id j (p++[f]))) (by simp[execOp,ho,hv,wI (ah hT ht (wn hf)) hf hpos])
       (show ak m _ (.aptr id j (p++[f]))from⟨rfl,.arr σ l,hG▸hl,hj,b,off,n,cap,_,hι,Cb hq hf,by simp[VS]⟩) h
    simp at h
  simp at h
 ·rename_i τ y hp;rw[hp]at hx;split at h
  ·rename_i τ' ht;cases hd:decide (τ=τ')with
   |false=>rw[hd]at h;simp at h
   |true=>
    rw[hd]at h;have:τ=τ':=by simpa using hd
    subst this;simp only[U3]at h;split at h
    ·rename_i t' z hz;cases hb:VK 1 t'.size with
     |false=>rw[hb]at h;simp at h
     |true=>
      rw[hb]at h;have hpos:=Vi hb;obtain⟨b,off,c,el,fz,h1,h2,h3,h4,h5⟩:=EG hx;obtain⟨o',r1,r2,r3⟩:=uL hz h5;have hseg:seg c (off+o') t'.size=((seg c off τ.size).drop o').take t'.size:=by unfold seg;rw[nP _ _ _ _ _ r2]
      exact az hi hG (v:=.pointer (some ⟨b,off+o',none⟩)) (sv:=.av (.val (.ptr t') z)) (by simp[execOp,ho,h1,wI (ah hT ht (wn r1)) r1 hpos])
       (show ∃ cs,_/\_ from⟨[.pointer (some ⟨b,off+o',none⟩)],rfl,b,off+o',c,el,fz,rfl,h2,h3,by omega,by rw[hseg];exact r3⟩) h
    simp at h
  simp at h
 simp at h
theorem KR {x:Operand}(hi:Inv C w0 M m)(hG:m.G=s.G)(hS:∀ x,RelSV m (a.eval x) (aw C s.env x))(ho:o.op=.nilCheck x)
  (h:ax C o s some=some s'):Does P o a m.w (Res C w0 M m s s' o.dst):=by
 simp only[ax,ho]at h;have hx:=hS x;split at h
 ·rename_i i j hp;rw[hp]at hx;obtain⟨_,ob,hob,hv⟩:=(au (m:=m) (a:=.ptr i j) (by intros;simp)).1 hx;rw[hG]at hob;split at h
  ·rename_i l hl;rw[hl]at hob;simp only[ov]at hob;subst hob;obtain⟨b,hι,hv⟩:=hv;exact az hi hG (v:=a.eval x) (sv:=.av (.ptr i j)) (by simp[execOp,ho,hv]) hx h
  simp at h
 ·rename_i i j p hp;rw[hp]at hx;obtain⟨_,ob,hob,hv⟩:=(au (m:=m) (a:=.aptr i j p) (by intros;simp)).1 hx;rw[hG]at hob;split at h
  ·rename_i σ l hl;rw[hl]at hob;simp only[ov]at hob;subst hob;obtain⟨_,b,off,n,cap,q,hι,_,hv⟩:=hv;exact az hi hG (v:=a.eval x) (sv:=.av (.aptr i j p)) (by simp[execOp,ho,hv]) hx h
  ·rename_i ver σ l hole hl;rw[hl]at hob;simp only[ov]at hob;subst hob;obtain⟨_,_,b,off,n,cap,us,_,_,hv⟩:=hv;exact az hi hG (v:=a.eval x) (sv:=.av (.aptr i j p)) (by simp[execOp,ho,hv]) hx h
  simp at h
 ·rename_i t y hp;rw[hp]at hx;obtain⟨b,off,c,el,fz,h1,_⟩:=EG hx;exact az hi hG (v:=a.eval x) (sv:=.av (.val (.ptr t) y)) (by simp[execOp,ho,h1]) hx h
 ·rename_i g t y hp;rw[hp]at hx;have hx':=hx;obtain⟨cs,h1,vs,rfl,_⟩:=hx';simp only[toV,Ty.isAgg,U4,Xl]at h1;exact az hi hG (v:=a.eval x) (sv:=.av (.val (.clo g t) y)) (by simp[execOp,ho,h1]) hx h
 ·rename_i f c hp;rw[hp]at hx;obtain⟨vs,h1,_⟩:=(au (m:=m) (a:=.clo f c) (by intros;simp)).1 hx;exact az hi hG (v:=a.eval x) (sv:=.av (.clo f c)) (by simp[execOp,ho,h1]) hx h
 ·rename_i i off n idx wd hp;rw[hp]at hx;obtain⟨_,ob,hob,hv⟩:=(au (m:=m) (a:=.iptr i off n idx wd) (by intros;simp)).1 hx;rw[hG]at hob;split at h
  ·rename_i l hl;rw[hl]at hob;simp only[ov]at hob;subst hob;obtain⟨_,b,hι,hv⟩:=hv;exact az hi hG (v:=a.eval x) (sv:=.av (.iptr i off n idx wd)) (by simp[execOp,ho,hv]) hx h
  simp at h
 simp at h
theorem Qq {t:TypeId}{x:Operand}{f:Nat}(hT:eL P C.tab=true)(hi:Inv C w0 M m)(hG:m.G=s.G)(hS:∀ x,RelSV m (a.eval x) (aw C s.env x))(ho:o.op=.field t x f)
  (h:ax C o s some=some s'):Does P o a m.w (Res C w0 M m s s' o.dst):=by
 simp only[ax,ho]at h;have hx:=hS x;split at h
 ·rename_i l hp;rw[hp]at hx;obtain⟨us,hu,h1,hr⟩:=hx;split at h
  ·rename_i τ ht;split at h
   ·rename_i o' t' hf;obtain⟨fs,fd,q1,q2,q3,q4⟩:=Ge (ah hT ht (wn hf)) hf;split at h
    ·rename_i c hc;obtain⟨rfl,hle⟩:=ud hc;have hlen:=hr.length;simp only[Wn]at hle;have hpart:(part fd.type us.toArray fd.offset).run P m.w=.ok (toV t' ((us.drop o').take t'.size)) m.w:=by
      cases ha:t'.isAgg with
      |true=>simp[part,jb q4,ha,ca q4,toV,q3,WZ]
      |false=>
       have h1':=nV ha;have hlt:o'<us.length:=by omega
       simp only[part,Sem.run_bind,jb q4,ha,Result.andThen_ok,Vz,if_false,q3,Vb,bx hlt,toV,U4,h1',Sem.run_pure];rw[VQ hlt];rfl
     refine az hi hG (v:=toV t' ((us.drop o').take t'.size)) (sv:=pM t' ((l.drop o').take t'.size)) ?_ (uO (λu hu=>h1 u (V5 (VI hu))) ((hr.drop o').take _)) h;simp[execOp,ho,hu,Instr.field,run_underlying q1,q2,asAgg,hpart]
    simp at h
   simp at h
  simp at h
 ·rename_i τ y hp;rw[hp]at hx;split at h
  ·rename_i τ' ht;cases hd:decide (τ=τ')with
   |false=>rw[hd]at h;simp at h
   |true=>
    rw[hd]at h;have:τ=τ':=by simpa using hd
    subst this;simp only[U3]at h;split at h
    ·rename_i t' z hz;obtain⟨cs,hu,hrd⟩:=hx;obtain⟨o',r1,r2,r3⟩:=uL hz hrd;obtain⟨fs,fd,q1,q2,q3,q4⟩:=Ge (ah hT ht (wn r1)) r1;have hagg:τ.isAgg=true:=by cases τ<;>simp_all[Ty.field,Ty.isAgg]
     have hlen:=hrd.len;have hpart:(part fd.type cs.toArray fd.offset).run P m.w=.ok (toV t' ((cs.drop o').take t'.size)) m.w:=by
      cases ha:t'.isAgg with
      |true=>simp[part,jb q4,ha,ca q4,toV,q3,WZ]
      |false=>
       have h1':=nV ha;have hlt:o'<cs.length:=by omega
       simp only[part,Sem.run_bind,jb q4,ha,Result.andThen_ok,Vz,if_false,q3,Vb,bx hlt,toV,U4,h1',Sem.run_pure];rw[VQ hlt];rfl
     refine az hi hG (v:=toV t' ((cs.drop o').take t'.size)) (sv:=.av (.val t' z)) ?_ (Ik r3) h;have hu':a.eval x=.agg cs.toArray:=by rw[hu];simp[toV,hagg]
     simp[execOp,ho,hu',Instr.field,run_underlying q1,q2,asAgg,hpart]
    simp at h
  simp at h
 simp at h
theorem FX{i:Int}{n:Nat}{j:Nat}(h:aN n i=some j):0<=i/\i<n/\j=i.toNat/\j<n:=by
 unfold aN at h;split at h
 ·rename_i hc;simp at h;omega
 simp at h
theorem zT{α:Type}{l:List α}{i:Int}{y:α}(h:ai l i=some y):0<=i/\i<l.length/\∃ hj:i.toNat<l.length,l[i.toNat]=y:=by
 unfold ai at h;split at h
 ·rename_i hc;obtain⟨hj,hy⟩:=tz.1 h;exact⟨hc,by omega,hj,hy⟩
 simp at h
theorem fq {e:Ty}{t et:TypeId}(hu:P.underlying t=some (.slice et))(hck:chk P e none et=true){k:IntKind}{i:Int}{n cap b off:Nat}(h0:0<=i)(h1:i < n)(w:World) :
  (Instr.indexAt t (.slice (some ⟨b,off,none⟩) n cap) (.int k i)).run P w=.ok (.pointer (some ⟨b,off+i.toNat*e.size,none⟩)) w:=by
 have hc:0<=i/\i<(n:Int):=⟨h0,h1⟩;simp[Instr.indexAt,asIntOf,run_underlying hu,hc,ca hck,du]
theorem oz {e:Ty}{t et:TypeId}{n:Nat}(hu:P.underlying t=some (.array n et))(hck:chk P e none et=true){k:IntKind}{i:Int}{b off:Nat}(h0:0<=i)(h1:i < n)(w:World) :
  (Instr.indexAt t (.pointer (some ⟨b,off,none⟩)) (.int k i)).run P w=.ok (.pointer (some ⟨b,off+i.toNat*e.size,none⟩)) w:=by
 have hc:0<=i/\i<(n:Int):=⟨h0,h1⟩;simp[Instr.indexAt,asIntOf,run_underlying hu,hc,ca hck,du,Instr.sureAddr]
theorem Jm {t:TypeId}{x ix:Operand}(hT:eL P C.tab=true)(hi:Inv C w0 M m)(hG:m.G=s.G)(hS:∀ x,RelSV m (a.eval x) (aw C s.env x))(ho:o.op=.indexAddr t x ix)
  (h:ax C o s some=some s'):Does P o a m.w (Res C w0 M m s s' o.dst):=by
 simp only[ax,ho]at h;have hx:=hS x;obtain⟨k,i,hix,h⟩:=rD h;have hiv:=hS ix;rw[hix]at hiv;obtain⟨hiv,_,_⟩:=gM hiv;cases hty:pW C t s.G (aw C s.env x)with
 |false=>rw[hty]at h;simp at h
 |true=>
  rw[hty]at h;simp only[U3]at h;have fin {v:Value} {at':Atom} (hl:(Instr.indexAt t (a.eval x) (.int k i)).run P m.w=.ok v m.w) (hr:RelSV m v (.av at')) (hs:some (aC o.dst (.av at') s)=some s') :
    Does P o a m.w (Res C w0 M m s s' o.dst):=
   az hi hG (v:=v) (by simp[execOp,ho,hiv,hl]) hr hs
  unfold indexAt at h;split at h
  ·rename_i e l hp;rw[hp]at hx hty;unfold pW at hty;split at hty<;>try (simp_all;done)
   rename_i e1 e2 l2 ht hq;simp only[SV.av.injEq,Atom.val.injEq,Ty.slice.injEq]at hq;obtain⟨rfl,hl2⟩:=hq;have:e1=e:=by simpa using hty
   subst this;obtain⟨et,hu,hck⟩:=bh (ah hT ht);obtain⟨y,hy,h⟩:=A8.1 h;obtain⟨h0,h1,hj,rfl⟩:=zT hy;obtain⟨ad,cap,hv,h2,h3,h4⟩:=tD hx;obtain⟨b,off,c,el,fz,rfl,q2,q3,q4,q5⟩:=h4 (by intro e;rw[e]at hj;simp at hj);refine fin (at':=.val (.ptr e1) l[i.toNat]) (by rw[hv];exact fq hu hck h0 h1 _) ⟨[_],rfl,b,off+i.toNat*e1.size,c,el,fz,rfl,q2,q3,?_,q5 _ hj⟩ h;have:(i.toNat+1)*e1.size<=l.length*e1.size:=B3 _ hj;rw[L6]at this;omega
  ·rename_i id hp;rw[hp]at hx hty;obtain⟨_,ob,hob,hv⟩:=(au (m:=m) (a:=.own id) (by intros;simp)).1 hx;rw[hG]at hob;split at h
   ·rename_i e l hl;rw[hl]at hob;simp only[ov]at hob;subst hob;unfold pW at hty;split at hty<;>try (simp_all;done)
    rename_i e1 id2 ht hq;simp only[SV.av.injEq,Atom.own.injEq]at hq;subst hq;rw[hl]at hty;have:e1=e:=by simpa using hty
    subst this;obtain⟨et,hu,hck⟩:=bh (ah hT ht);obtain⟨j,hj,h⟩:=A8.1 h;obtain⟨h0,h1,rfl,hj⟩:=FX hj;obtain⟨b,off,cap,c,el,fz,r1,r2,r3,r4,r5,r6,r7,r8,r9⟩:=Be hi (hG▸hl) hj;exact fin (at':=.aptr id i.toNat []) (by rw[hv rfl,r1];exact fq hu hck h0 h1 _)
     (show ak m _ (.aptr id i.toNat [])from⟨rfl,.arr e1 l,hG▸hl,hj,b,off,l.length,cap,_,r1,rfl,by simp⟩) h
   simp at h
  ·rename_i id off' len hp;rw[hp]at hx hty;obtain⟨_,ob,hob,hv⟩:=(au (m:=m) (a:=.view id off' len) (by intros;simp)).1 hx;rw[hG]at hob;split at h
   ·rename_i e l hl;rw[hl]at hob;simp only[ov]at hob;subst hob;unfold pW at hty;split at hty<;>try (simp_all;done)
    rename_i e1 id2 o2 l2 ht hq;simp only[SV.av.injEq,Atom.view.injEq]at hq;obtain⟨rfl,rfl,rfl⟩:=hq;rw[hl]at hty;have:e1=e:=by simpa using hty
    subst this;obtain⟨et,hu,hck⟩:=bh (ah hT ht);obtain⟨j,hj,h⟩:=A8.1 h;obtain⟨h0,h1,rfl,hj⟩:=FX hj;simp only at hv;obtain⟨b,off,cap,c,el,fz,r1,r2,r3,r4,r5,r6,r7,r8,r9⟩:=Be hi (hG▸hl) (j:=off'+i.toNat) (by omega);refine fin (at':=.aptr id (off'+i.toNat) []) (v:=.pointer (some ⟨b,off+off'*e1.size+i.toNat*e1.size,none⟩)) ?_
     (show ak m _ (.aptr id (off'+i.toNat) [])from⟨rfl,.arr e1 l,hG▸hl,by omega,b,off,l.length,cap,_,r1,rfl,by simp[L6,VS]⟩) h
    obtain⟨a',n',cap',ad',v1,v2,v3⟩:=hv.2;rw[r1]at v1;simp only[Value.slice.injEq]at v1;obtain⟨rfl,rfl,rfl⟩:=v1;rw[v2,v3 (by omega)];simp only[VZ,du];exact fq hu hck h0 h1 _
   simp at h
  ·rename_i id off' len hp;rw[hp]at hx hty;obtain⟨_,ob,hob,hv⟩:=(au (m:=m) (a:=.cut id off' len) (by intros;simp)).1 hx;rw[hG]at hob;split at h
   ·rename_i e l hl;rw[hl]at hob;simp only[ov]at hob;subst hob;unfold pW at hty;split at hty<;>try (simp_all;done)
    rename_i e1 id2 o2 l2 ht hq;simp only[SV.av.injEq,Atom.cut.injEq]at hq;obtain⟨rfl,rfl,rfl⟩:=hq;rw[hl]at hty;have:e1=e:=by simpa using hty
    subst this;obtain⟨et,hu,hck⟩:=bh (ah hT ht);obtain⟨j,hj,h⟩:=A8.1 h;obtain⟨h0,h1,rfl,hj⟩:=FX hj;simp only at hv;obtain⟨hv1,hv2,b,off,n',cap',v1,v2⟩:=hv;refine fin (at':=.aptr id (off'+i.toNat) []) (v:=.pointer (some ⟨b,off+off'*e1.size+i.toNat*e1.size,none⟩)) ?_
     (show ak m _ (.aptr id (off'+i.toNat) [])from⟨rfl,.arr e1 l,hG▸hl,by omega,b,off,n',cap',_,v1,rfl,by simp[L6,VS]⟩) h
    rw[v2];exact fq hu hck h0 h1 _
   simp at h
  ·rename_i id hp;rw[hp]at hx hty;obtain⟨_,ob,hob,hv⟩:=(au (m:=m) (a:=.ownd id) (by intros;simp)).1 hx;rw[hG]at hob;split at h
   ·rename_i ver e l hole hl;rw[hl]at hob;simp only[ov]at hob;subst hob;unfold pW at hty;split at hty<;>try (simp_all;done)
    rename_i e1 id2 ht hq;simp only[SV.av.injEq,Atom.ownd.injEq]at hq;subst hq;rw[hl]at hty;have:e1=.slice e:=by simpa using hty
    subst this;obtain⟨et,hu,hck⟩:=bh (ah hT ht);obtain⟨j,hj,h⟩:=A8.1 h;obtain⟨h0,h1,rfl,hj⟩:=FX hj;obtain⟨u,hs,d1,d2⟩:=fv hi (hG▸hl);obtain⟨us,hv1,hv2⟩:=hv;rw[d1]at hv1;simp only[Value.tuple.injEq]at hv1;subst hv1;simp only[Vb,Vh,ov]at hv2;obtain⟨b,off,cap,c,el,fz,v,r1,r2,r3,r4,r5,r6,_⟩:=DH d2 hj;refine fin (at':=.aptr id i.toNat []) (v:=.pointer (some ⟨b,off+i.toNat*(Ty.slice e).size,none⟩)) (by rw[<- hv2,r1];exact fq hu hck h0 h1 _)
     (show ak m _ (.aptr id i.toNat [])from⟨rfl,.deep ver e l hole,hG▸hl,hj,rfl,b,off,l.length,cap,_,d1,by simp[r1],by simp[Ty.size]⟩) h
   simp at h
  ·rename_i id ver j hp;rw[hp]at hx hty;obtain⟨_,ob,hob,hv⟩:=(au (m:=m) (a:=.sub id ver j) (by intros;simp)).1 hx;rw[hG]at hob;split at h
   ·rename_i ver' e l hl;rw[hl]at hob;simp only[ov]at hob;subst hob;unfold pW at hty;split at hty<;>try (simp_all;done)
    rename_i e1 id2 ver2 j2 ht hq;simp only[SV.av.injEq,Atom.sub.injEq]at hq;obtain⟨rfl,rfl,rfl⟩:=hq;rw[hl]at hty;have:e1=e:=by simpa using hty
    subst this;obtain⟨et,hu,hck⟩:=bh (ah hT ht);cases hb:A3 ver ver' with
    |false=>rw[hb]at h;simp at h
    |true=>
     rw[hb]at h;have:=A6 hb;subst this;obtain⟨hj,_,us,hv1,hv2⟩:=hv.2 rfl;simp only[U3,wP hj]at h;obtain⟨k',hk',h⟩:=A8.1 h;obtain⟨h0,h1,rfl,hk'⟩:=FX hk';obtain⟨u,hs,d1,d2⟩:=fv hi (hG▸hl);rw[d1]at hv1;simp only[Value.tuple.injEq]at hv1;subst hv1;have hv3:=hv2;simp only[Vb,Vs]at hv2;obtain⟨b,off,cap,c,el,fz,r1,r2,r3,r4,r5,r6⟩:=Nh (d2.inner j hj _ hv2 (by simp)) hk';rw[r1]at hv3;exact fin (at':=.saptr id ver j i.toNat) (v:=.pointer (some ⟨b,off+i.toNat*e1.size,none⟩)) (by rw[r1];exact fq hu hck h0 h1 _)
      (show ak m _ (.saptr id ver j i.toNat)from⟨rfl,.deep ver e1 l none,hG▸hl,B5 _,λ_=>⟨hj,rfl,_,b,off,_,cap,d1,hv3,hk',rfl⟩⟩) h
   simp at h
  ·rename_i n e l hp;rw[hp]at hx hty;unfold pW at hty;split at hty<;>try (simp_all;done)
   rename_i n1 e1 n2 e2 l2 ht hq;simp only[SV.av.injEq,Atom.val.injEq,Ty.ptr.injEq,Ty.arr.injEq]at hq;obtain⟨⟨rfl,rfl⟩,hl2⟩:=hq;simp only[sg,decide_eq_true_eq]at hty;obtain⟨⟨rfl,hn⟩,_⟩:=hty;have:=A6 hn;subst this;obtain⟨et,hu,hck⟩:=yo (ah hT ht);obtain⟨y,hy,h⟩:=A8.1 h;obtain⟨h0,h1,hj,rfl⟩:=zT hy;obtain⟨b,off,c,el,fz,hv,q2,q3,q4,q5,q6,q7⟩:=EG hx;simp only[Ty.size]at q4 q6;have hle:(i.toNat+1)*e1.size<=n1*e1.size:=B3 _ (by omega);rw[L6]at hle;refine fin (at':=.val (.ptr e1) l[i.toNat]) (by rw[hv];exact oz hu hck h0 (by omega) _) ⟨[_],rfl,b,off+i.toNat*e1.size,c,el,fz,rfl,q2,q3,by omega,?_⟩ h;have hseg:seg c (off+i.toNat*e1.size) e1.size=((seg c off (n1*e1.size)).drop (i.toNat*e1.size)).take e1.size:=by unfold seg;rw[nP _ _ _ _ _ (by omega)]
   rw[hseg];exact q7 _ hj
  ·rename_i id off hp;rw[hp]at hx hty;obtain⟨_,ob,hob,hv⟩:=(au (m:=m) (a:=.ptr id off) (by intros;simp)).1 hx;split at h
   ·rename_i n e ht;obtain⟨et,hu,hck⟩:=yo (ah hT ht);split at h
    ·rename_i hc;cases ob with
     |box l=>
      obtain⟨b,hι,hv⟩:=hv;have hsz:i.toNat*e.size+e.size<=n*e.size:=by have:=B3 e.size (show i.toNat+1<=n by omega);rw[L6]at this;omega
      cases hb:VK 16 (n*e.size)with
      |true=>rw[hb,U3]at h;exact fin (at':=.iptr id off (n*e.size) (i.toNat*e.size) e.size) (by rw[hv];exact oz hu hck hc.1 hc.2 _) (show ak m _ (.iptr id off (n*e.size) (i.toNat*e.size) e.size)from⟨rfl,.box l,hob,hsz,b,hι,rfl⟩) h
      |false=>rw[hb,U4]at h;exact fin (at':=.ptr id (off+i.toNat*e.size)) (by rw[hv];exact oz hu hck hc.1 hc.2 _) (show ak m _ (.ptr id (off+i.toNat*e.size))from⟨rfl,.box l,hob,b,hι,rfl⟩) h
     |arr _ _=>exact hv.elim
     |deep _ _ _ _=>exact hv.elim
     |map _ _ _=>exact hv.elim
     |dead=>unfold pW at hty;rw[ht]at hty;simp only at hty;rw[<- hG,hob]at hty;simp at hty
    simp at h
   simp at h
  ·rename_i id off cnt idx wd hp;rw[hp]at hx hty;obtain⟨_,ob,hob,hv⟩:=(au (m:=m) (a:=.iptr id off cnt idx wd) (by intros;simp)).1 hx;split at h
   ·rename_i n e ht;obtain⟨et,hu,hck⟩:=yo (ah hT ht);unfold pW at hty;rw[ht]at hty;simp only at hty;rw[<- hG,hob]at hty;split at h
    ·rename_i hc;cases ob with
     |box l=>
      obtain⟨hw,b,hι,hv⟩:=hv;simp only[sg]at hty;have hwd:=A6 hty.2;have hsz:i.toNat*e.size+e.size<=n*e.size:=by have:=B3 e.size (show i.toNat+1<=n by omega);rw[L6]at this;omega
      exact fin (at':=.iptr id off cnt (idx+i.toNat*e.size) e.size) (by rw[hv];exact oz hu hck hc.1 hc.2 _)
       (show ak m _ (.iptr id off cnt (idx+i.toNat*e.size) e.size)from⟨rfl,.box l,hob,by omega,b,hι,by rw[VS]⟩) h
     |_=>simp at hty
    simp at h
   simp at h
  simp at h
theorem HR{e:Ty}{et:TypeId}(hck:chk P e none et=true){us:List Value}{off:Nat}(hle:off+e.size<=us.length)(w:World):(part et us.toArray off).run P w=.ok (toV e ((us.drop off).take e.size)) w:=by
 cases ha:e.isAgg with
 |true=>simp[part,jb hck,ha,ca hck,toV,WZ]
 |false=>
  have h1':=nV ha;have hlt:off<us.length:=by omega
  simp only[part,Sem.run_bind,jb hck,ha,Result.andThen_ok,Vz,if_false,Vb,bx hlt,toV,U4,h1',Sem.run_pure];rw[VQ hlt];rfl
theorem OE {t:TypeId}{x ix:Operand}{n:Nat}{e:Ty}{k:IntKind}{i:Int}{c:List Value}{z:List e.den}{y:e.den}(hT:eL P C.tab=true)(hi:Inv C w0 M m)(hG:m.G=s.G)(ho:o.op=.index t x ix)
  (ht:C.tab.get t=some (.arr n e)) (hx:a.eval x=.agg c.toArray) (hiv:a.eval ix=.int k i) (hz:Rd m.w m.F (.arr n e) c z) (hy:ai z i=some y) (h:some (aC o.dst (.av (.val e y)) s)=some s'):Does P o a m.w (Res C w0 M m s s' o.dst):=by
 obtain⟨h0,h1,hj,rfl⟩:=zT hy;obtain⟨z1,z2,z3⟩:=hz;obtain⟨et,hu,hck⟩:=yo (ah hT ht);have hle:i.toNat*e.size+e.size<=c.length:=by rw[z2];have:=B3 e.size (show i.toNat+1<=n by omega);rw[L6]at this;omega
 refine az hi hG (v:=toV e ((c.drop (i.toNat*e.size)).take e.size)) (sv:=.av (.val e z[i.toNat])) ?_ ⟨_,rfl,z3 i.toNat hj⟩ h;have hin:i<(n:Int):=by omega
 simp[execOp,ho,hx,hiv,Instr.index,asIntOf,run_underlying hu,h0,hin,ca hck,HR hck hle]
theorem Ee{R:Type}{sz:Nat}{K:List Atom->Option R}{i:Int}{r:R}:∀{k j:Nat} {l:List Atom},vi k sz l i j K=some r->∃ q c,q<k/\i=((j+q:Nat):Int)/\zk sz (l.drop (q*sz))=some c/\K c=some r
 |0,_,_,h=>by simp[vi]at h
 |k+1,j,l,h=>by
  unfold vi at h;cases e:eqI i j with
  |true=>
   rw[e,U3]at h;split at h
   ·rename_i c hc;exact⟨0,c,by omega,by simpa[eqI]using e,by simpa using hc,h⟩
   simp at h
  |false=>rw[e,U4]at h;obtain⟨q,c,h1,h2,h3,h4⟩:=Ee h;refine⟨q+1,c,by omega,by rw[h2];congr 1;omega,?_,h4⟩;rw[XH]at h3;rw[L6,Xq,WU];exact h3
theorem Rp {t:TypeId}{x ix:Operand}(hT:eL P C.tab=true)(hi:Inv C w0 M m)(hG:m.G=s.G)(hS:∀ x,RelSV m (a.eval x) (aw C s.env x))(ho:o.op=.index t x ix)
  (h:ax C o s some=some s'):Does P o a m.w (Res C w0 M m s s' o.dst):=by
 simp only[ax,ho]at h;have hx:=hS x;obtain⟨k,i,hix,h⟩:=rD h;have hiv:=hS ix;rw[hix]at hiv;obtain⟨hiv,_,_⟩:=gM hiv;split at h
 ·rename_i b ht hp;rw[hp]at hx;obtain⟨hx,_⟩:=xl hx;have hu:=qT (ah hT ht);obtain⟨c,hc,h⟩:=A8.1 h;obtain⟨h0,h1,hj,rfl⟩:=zT hc;have hsz:i.toNat<b.size:=by simpa using hj
  refine az hi hG (v:=.int .u8 (b.data.toList[i.toNat].toNat:Int)) (sv:=.av (.val (.int .u8) (b.data.toList[i.toNat].toNat:Int))) ?_ (mh ?_) h
  ·have hb:b[i.toNat]?=some b.data.toList[i.toNat]:=by rw[getElem?_pos b i.toNat hsz];rfl
   simp[execOp,ho,hx,hiv,Instr.index,asIntOf,run_underlying hu,h0,hb]
  have:=(b.data.toList[i.toNat]).toNat_lt;generalize (b.data.toList[i.toNat]).toNat=z at this ⊢;simp[IntKind.min,IntKind.max,IntKind.signed,IntKind.bits];omega
 ·rename_i n e l ht hp;rw[hp]at hx;obtain⟨us,hu,h1,hr⟩:=hx;obtain⟨q,c,hq,hiq,hc,h⟩:=Ee h;rw[Vt]at hiq;subst hiq;obtain⟨rfl,hle⟩:=ud hc;obtain⟨et,hun,hck⟩:=yo (ah hT ht);have hlen:=hr.length;simp only[Wn]at hle;by_cases hz:q*e.size+e.size<=us.length
  ·refine az hi hG (v:=toV e ((us.drop (q*e.size)).take e.size)) (sv:=pM e ((l.drop (q*e.size)).take e.size)) ?_ (uO (λu hu=>h1 u (V5 (VI hu))) ((hr.drop _).take _)) h;have hq0:¬((q:Int)<0):=by omega
   simp[execOp,ho,hu,hiv,Instr.index,asIntOf,run_underlying hun,hq,ca hck,HR hck hz]
  exfalso;rcases W8 e.size with h0|h0
  ·rw[h0]at hz;simp at hz
  omega
 ·rename_i n e τ y0 ht hp;rw[hp]at hx;obtain⟨z,hz,h1⟩:=A8.1 h;obtain⟨y,hy,h2⟩:=A8.1 h1;unfold cU at hz;split at hz
  ·rename_i hτ;subst hτ;simp only[ov]at hz;subst hz;obtain⟨c,hc,hr⟩:=hx;exact OE hT hi hG ho ht (by rw[hc];simp[toV,Ty.isAgg]) hiv hr hy h2
  simp at hz
 simp at h
end
end Go.Vm

/-
 The machine's operations against the model's: new objects, lengths, conversions.
-/
namespace Go.Vm
section
variable {P:Program}{C:Ctx}{w0:World}{M:Own}{o:Oper}{a:Act}{m:Mem}{s s':St}
theorem qA{G:Heap}{i:Nat}(h:G.has i=false):G.get i=none:=by
 cases hg:G.get i with
 |none=>rfl
 |some o=>rw[Heap.has_of_get hg]at h;cases h
theorem dn {R:Type}{s:St}{site:Nat}{ob:Obj}{K:Nat->St->Option R}{r:R}(h:dS s site ob K=some r) :
  ∃ i,s.G.get i=none/\K i { env:=s.env,G:=(i,ob)::s.G }=some r:=by
 unfold dS at h;cases hh:s.G.has (aA 8 s.G site)with
 |true=>rw[hh]at h;simp at h
 |false=>rw[hh]at h;exact⟨_,qA hh,h⟩
theorem Di(w:World)(ob:Go.Obj){i:Nat}(h:i<w.heap.size):(w.alloc ob).heap[i]?=w.heap[i]?:=by show(w.heap.push ob)[i]?=_;rw[X3,if_neg (by omega)]
theorem gr(w:World)(ob:Go.Obj):(w.alloc ob).heap[w.heap.size]?=some ob:=by show(w.heap.push ob)[w.heap.size]?=_;rw[X3,if_pos rfl]
theorem oB(w:World)(ob:Go.Obj):Kept w (λ_=>False) (w.alloc ob):=
 ⟨rfl,rfl,rfl,by simp,λb hb _=>Di w ob hb⟩
theorem oa(w:World)(ob:Go.Obj):Kept w (λ_=>False) (w.drew.alloc ob):=
 ⟨rfl,rfl,rfl,by simp,λb hb _=>Di w.drew ob hb⟩
theorem Ip (hi:Inv C w0 M m){i:Nat}(hn:m.G.get i=none){t:TypeId}{cs:List Value}{l:List Atom}(h1:∀ u∈cs,u.oneCell'=true)
  (hr:∀ m':Mem,Evo m m'->Rel2 (ak m') cs l) :
  ∃ m',m'.w=m.w.alloc (.cells cs.toArray t)/\m'.G=(i,.box l)::m.G/\Inv C w0 M m'/\Evo m m'/\RelSV m' (.pointer (some ⟨m.w.heap.size,0,none⟩)) (.av (.ptr i 0)):=by
 have hw:=oB m.w (.cells cs.toArray t);have hnew:=gr m.w (.cells cs.toArray t);have he:Evo m ⟨m.w.alloc (.cells cs.toArray t),m.F,λk=>if k=i then .pointer (some ⟨m.w.heap.size,0,none⟩)else m.ι k,(i,.box l)::m.G⟩:=by
  refine⟨λb hF=>⟨hF,Di _ _ (hi.fro b hF)⟩,λid p hp=>?_⟩;have hne:i≠id:=λe=>by subst e;rw[hn]at hp;cases hp
  exact⟨p,by rw[Heap.get_cons,if_neg hne];exact hp,.inr (.inl ⟨by simp[Ne.symm hne],Alike.refl p⟩)⟩
 obtain⟨g1,g2⟩:=wb hi hw (i:=i) (o:=.box l) (h:=.pointer (some ⟨m.w.heap.size,0,none⟩)) hn (by intro b hb;simp[HB,HB1]at hb;subst hb;simp)
  ⟨m.w.heap.size,cs.toArray,t,by simp,hnew,by simpa using h1,by simpa using hr _ he⟩
 refine⟨_,rfl,rfl,g1,g2,?_⟩;exact(au (a:=.ptr i 0) (by intros;simp)).2 ⟨rfl,.box l,by rw[Heap.get_cons,if_pos rfl],m.w.heap.size,by simp,rfl⟩
theorem Rz {t:TypeId}(hT:eL P C.tab=true)(hi:Inv C w0 M m)(hG:m.G=s.G)(ho:o.op=.alloc t)
  (h:ax C o s some=some s'):Does P o a m.w (Res C w0 M m s s' o.dst):=by
 simp only[ax,ho]at h;split at h
 ·rename_i τ ht;obtain⟨i,hn,h⟩:=dn h;have hck:=LW hT ht;cases hcl:τ.isClo with
  |true=>
   rw[hcl]at hck;obtain⟨m',q1,q2,q3,q4,q5⟩:=Ip (t:=t) hi (hG▸hn) (cs:=[Value.nilFunc]) (l:=[.u]) (by simp[Value.oneCell']) (λm' _=>⟨trivial,trivial⟩);refine Does.value (w':=m'.w) (v:=.pointer (some ⟨m.w.heap.size,0,none⟩)) ?_ ⟨m',_,rfl,?_,q3,q4,q5⟩
   ·simp[execOp,ho,Instr.alloc,(S5 hck).2,newVar,newRow,q1,Value.cells]
   simp only[ov]at h;have hz:zeroCells τ=[.u]:=by cases τ<;>first|rfl|cases hcl
   rw[<- h,q2,hG,hz]
  |false=>
  rw[hcl]at hck;have hck:chk P τ none t=true:=hck;obtain⟨z,hz,_,_,hrun⟩:=Ho hck;obtain⟨c0,e0,hr0,_⟩:=jI (m:=m) hz;rw[Vw]at e0;obtain⟨m',q1,q2,q3,q4,q5⟩:=Ip (t:=t) hi (hG▸hn) (cs:=z.cells.toList) (l:=zeroCells τ) (by rw[e0];exact hr0.one) (λm' _=>by
   obtain⟨c1,e1,_,hr1⟩:=jI (m:=m') hz;rw[Vw]at e1;rw[e1];exact hr1)
  refine Does.value (w':=m'.w) (v:=.pointer (some ⟨m.w.heap.size,0,none⟩)) ?_ ⟨m',_,rfl,?_,q3,q4,q5⟩
  ·simp[execOp,ho,Instr.alloc,hrun,newVar,newRow,q1]
  simp only[ov]at h;rw[<- h,q2,hG]
 simp at h
theorem TE {t:TypeId}{x:Operand}(hi:Inv C w0 M m)(hG:m.G=s.G)(hS:∀ x,RelSV m (a.eval x) (aw C s.env x))(ho:o.op=.box t x)
  (h:ax C o s some=some s'):Does P o a m.w (Res C w0 M m s s' o.dst):=by
 simp only[ax,ho]at h;split at h
 ·rename_i τ ht;split at h
  ·rename_i c hc;obtain⟨i,hn,h⟩:=dn h;obtain⟨k1,k2⟩:=yu hc (hS x);obtain⟨m',q1,q2,q3,q4,q5⟩:=Ip (t:=t) hi (hG▸hn) (cs:=(a.eval x).cells.toList) (l:=c) k2 (λm' he=>hZ he k1);refine Does.value (w':=m'.w) (v:=.pointer (some ⟨m.w.heap.size,0,none⟩)) ?_ ⟨m',_,rfl,?_,q3,q4,q5⟩
   ·simp[execOp,ho,Instr.box,newVar,newRow,q1]
   simp only[ov]at h;rw[<- h,q2,hG]
  simp at h
 simp at h
theorem zB (hi:Inv C w0 M m){i:Nat}(hn:m.G.get i=none){w1:World}(hw:Kept m.w (fun _=>False) w1){c:Array Value}{el:TypeId}{fz:Nat×Nat}{τ : Ty}{l:List τ.den}{cap:Nat}
  (hb:w1.heap[m.w.heap.size]?=some (.cells c el fz)) (hc:uu τ c.size fz) (h1:l.length<=cap) (h2:cap<=maxLen) (h3:cap*τ.size<=c.size)
  (hr:∀ i (h:i<l.length),Rd m.w m.F τ (seg c (i*τ.size) τ.size) l[i]) :
  ∃ m',m'.w=w1/\m'.G=(i,.arr τ l)::m.G/\Inv C w0 M m'/\Evo m m'/\RelSV m' (.slice (some ⟨m.w.heap.size,0,none⟩) l.length cap) (.av (.own i)):=by
 have he:Evo m ⟨w1,m.F,λk=>if k=i then .slice (some ⟨m.w.heap.size,0,none⟩) l.length cap else m.ι k,(i,.arr τ l)::m.G⟩:=by
  refine⟨λb hF=>⟨hF,hw.block b (hi.fro b hF) (λh=>h)⟩,λid p hp=>?_⟩;have hne:i≠id:=λe=>by subst e;rw[hn]at hp;cases hp
  exact⟨p,by rw[Heap.get_cons,if_neg hne];exact hp,.inr (.inl ⟨by simp[Ne.symm hne],Alike.refl p⟩)⟩
 have hlt:m.w.heap.size < w1.heap.size:=(Va.1 hb).1;obtain⟨g1,g2⟩:=wb hi hw (i:=i) (o:=.arr τ l) (h:=.slice (some ⟨m.w.heap.size,0,none⟩) l.length cap) hn (by
   intro b hb;obtain⟨_,rfl⟩:=hb;exact⟨B5 _,hlt⟩)
  ⟨some ⟨m.w.heap.size,0,none⟩,cap,by simp,h1,h2,λ_=>⟨m.w.heap.size,0,c,el,fz,rfl,hb,hc,by omega,λj hj=>by
   rw[Vt];exact(hr j hj).mono he.fro⟩⟩
 refine⟨_,rfl,rfl,g1,g2,?_⟩;exact(au (a:=.own i) (by intros;simp)).2 ⟨rfl,.arr τ l,by rw[Heap.get_cons,if_pos rfl],λ_=>by simp⟩
theorem Gh (hi:Inv C w0 M m){i:Nat}(hn:m.G.get i=none){w1:World}(hw:Kept m.w (fun _=>False) w1){c:Array Value}{el:TypeId}{fz:Nat×Nat}{τ : Ty}{l:List (List τ.den)}{cap:Nat}{hs:List Value}
  (hb:w1.heap[m.w.heap.size]?=some (.cells c el fz)) (hc:uu (.slice τ) c.size fz) (h1:l.length<=cap) (h2:cap<=maxLen) (h3:cap<=c.size) (hl:hs.length=l.length) (hcs:∀ k,k<l.length->c[k]?=hs[k]?)
  (hr:∀ k (h:k<l.length) v,hs[k]?=some v->HdrW m.w m.F v τ l[k]) (ha:kR hs) (hf:∀ v∈hs,iT w0 M m v) :
  ∃ m',m'.w=w1/\m'.G=(i,.deep 0 τ l none)::m.G/\Inv C w0 M m'/\Evo m m'/\RelSV m' (.slice (some ⟨m.w.heap.size,0,none⟩) l.length cap) (.av (.ownd i)):=by
 have hlt:m.w.heap.size<w1.heap.size:=(Va.1 hb).1;obtain⟨g1,g2⟩:=HD hi hw (λb h=>h.elim);have hF:∀ b,m.F b->m.F b/\w1.heap[b]?=m.w.heap[b]?:=λb hb'=>⟨hb',hw.block b (hi.fro b hb') (λh=>h)⟩;have hfree:∀ v∈hs,iT w0 M ⟨w1,m.F,m.ι,m.G⟩ v:=by intro v hv b hb';obtain⟨k1,k2,k3,k4⟩:=hf v hv b hb';exact⟨k1,k2,Vn k3 hw.size,k4⟩
 have hub:∀ b,HB (.slice (some ⟨m.w.heap.size,0,none⟩) l.length cap) b->b=m.w.heap.size:=λb hb'=>hb'.2.symm;have hd:DeepW w1 m.F (.slice (some ⟨m.w.heap.size,0,none⟩) l.length cap) hs τ l none:=by
  refine⟨hl,⟨_,cap,rfl,h1,h2,λ_=>⟨m.w.heap.size,0,c,el,fz,rfl,hb,hc,by omega,λk hk _=>by rw[Vt];exact hcs k hk⟩⟩,λk hk v hv _=>?_,λk v hk=>(by cases hk),?_⟩
  ·exact(hr k hk v hv).mono hF (λb hb'=>hw.block b (hf v (B9 hv) b hb').2.2.1 (λh=>h))
  refine WR (λv hv b hb1 hb2=>?_) ha;have:=hub b hb1;have:=(hf v hv b hb2).2.2.1;omega
 obtain⟨m',p1,p2,p3,p4,p5,p6,p7⟩:=uk (m:=⟨w1,m.F,m.ι,m.G⟩) g1 hn hd (λv hv=>by
  rcases A9.1 hv with rfl|hv
  ·intro b hb';have:=hub b hb';subst this;have:=hi.kept.size;exact⟨.inl this,λhF'=>by have:=hi.fro _ hF';omega,hlt,λid o ho hob hb2=>by have:=(hi.own id o _ ho hob hb2).2.2;omega⟩
  exact hfree v hv)
 exact⟨m',p1,p3,p5,g2.trans p6,(au (a:=.ownd i) (by intros;simp)).2 p7⟩
theorem Qt (hi:Inv C w0 M m){i:Nat}(hn:m.G.get i=none){w1:World}(hw:Kept m.w (fun _=>False) w1){τ : Ty}(ad:Option Addr) :
  ∃ m',m'.w=w1/\m'.G=(i,.arr τ [])::m.G/\Inv C w0 M m'/\Evo m m'/\RelSV m' (.slice ad 0 0) (.av (.own i)):=by
 obtain⟨g1,g2⟩:=wb hi hw (i:=i) (o:=.arr τ []) (h:=.slice ad 0 0) hn (by intro b hb;cases ad<;>simp[HB,HB1]at hb)
  ⟨ad,0,by simp,by simp,by unfold maxLen;omega,λh=>absurd rfl h⟩
 refine⟨_,rfl,rfl,g1,g2,?_⟩;exact(au (a:=.own i) (by intros;simp)).2 ⟨rfl,.arr τ [],by rw[Heap.get_cons,if_pos rfl],λ_=>by simp⟩
theorem MH (z:Array Value)(hz:0 < z.size)(n i:Nat)(h:i < n) :
  seg ((V0 (n*z.size)).map (z[· % z.size]!)) (i*z.size) z.size=z.toList:=by
 apply Wb;intro k;by_cases hk:k<z.size
 ·rw[seg_getElem? _ _ _ _ hk];have hlt:i*z.size+k<n*z.size:=by have:(i+1)*z.size<=n*z.size:=B3 _ h;rw[L6]at this;omega
  have hm:(i*z.size+k)%z.size=k:=by rw[WU,XM,YB hk]
  simp[hlt,hm,hk]
 have h2:z.toList[k]?=none:=VG (by rw[Vl];omega);rw[h2];unfold seg;rw[Vc];simp[hk]
theorem I0 {t:TypeId}{n c:Operand}(hT:eL P C.tab=true)(hi:Inv C w0 M m)(hG:m.G=s.G)(hS:∀ x,RelSV m (a.eval x) (aw C s.env x))(ho:o.op=.makeSlice t n c)
  (h:ax C o s some=some s'):Does P o a m.w (Res C w0 M m s s' o.dst):=by
 simp only[ax,ho]at h;split at h
 ·rename_i e ht;obtain⟨et,hu,hck⟩:=bh (ah hT ht);obtain⟨k1,x,hx,h⟩:=rD h;obtain⟨k2,y,hy,h⟩:=rD h;have hxv:=hS n;have hyv:=hS c;rw[hx]at hxv;rw[hy]at hyv;obtain⟨hxv,_,_⟩:=gM hxv;obtain⟨hyv,_,_⟩:=gM hyv;obtain⟨l,hl,h⟩:=A8.1 h;unfold l7 at hl;split at hl
  ·rename_i hc;simp only[ov]at hl;subst hl;obtain⟨c1,c2,c3⟩:=hc;have hlim:lim=68719476736:=rfl;rw[hlim]at c3;obtain⟨i,hn,h⟩:=dn h;obtain⟨inf,z,r1,r2,r3,r4,r5,r6,r7⟩:=kx hck;obtain⟨c0,e0,hr0,_⟩:=jI (m:=m) r5;rw[Vw]at e0;have hzs:z.cells.size=e.size:=by rw[<- Vl,e0];exact hr0.len
   have w1:IntKind.i64.wrap x=x:=IntWalk.i64_in x (by omega);have w2:IntKind.i64.wrap y=y:=IntWalk.i64_in y (by omega);have hb1:(inf.bytes:Int)*y<=2048*68719476736:=by
    have:(inf.bytes:Int)<=2048:=by omega
    exact YN this c3 (by omega) (by omega)
   have hb2:(inf.bytes:Int)*x<=2048*68719476736:=by
    have:(inf.bytes:Int)<=2048:=by omega
    exact YN this (by omega) (by omega) (by omega)
   have h48:(2:Int)^48=281474976710656:=by decide
   have n1:¬y<0:=by omega
   have n2:¬x<0:=by omega
   have n3:¬(inf.bytes:Int)*y>2^48:=by omega
   have n4:¬x>y:=by omega
   obtain⟨zc,hzc⟩ : ∃ zc,zc=(if y.toNat * e.size=0 then #[] else z.cells):=⟨_,rfl⟩;have hrun:(Instr.makeSlice t (.int k1 x) (.int k2 y)).run P m.w=.ok (.slice (some ⟨m.w.heap.size,0,none⟩) x.toNat y.toNat)
     (m.w.alloc (.cells ((V0 (y.toNat*e.size)).map (zc[· % zc.size]!)) et)):=by
    have hs:=ca hck m.w;simp only[Instr.makeSlice,Sem.run_bind,run_underlying hu,Result.andThen_ok,asInt,asIntOf,Sem.run_pure,typeInfo,run_program,r1,w1,w2];simp only[n1,n2,n3,n4,decide_false,Bool.or_self,Bool.false_or,Bool.or_false,Vz,if_false];by_cases hz:y.toNat*e.size=0
    ·rw[if_pos hz]at hzc;subst hzc;simp[hs,hz,newRow]
    rw[if_neg hz]at hzc;subst hzc;simp[hs,hz,newRow,zeroValue,typeInfo,r1,r4]
   have hcsz:((V0 (y.toNat*e.size)).map (zc[· % zc.size]!)).size=y.toNat*e.size:=by simp
   have hsegz:∀ j,j<x.toNat->Rd m.w m.F e (seg ((V0 (y.toNat*e.size)).map (zc[· % zc.size]!)) (j*e.size) e.size) (aL e)/\(e.size≠0->seg ((V0 (y.toNat*e.size)).map (zc[· % zc.size]!)) (j*e.size) e.size=c0):=by
    intro j hj;by_cases hz:e.size=0
    ·have:c0=[]:=by have:=hr0.len;rw[hz]at this;exact U7 this
     subst this;have:seg ((V0 (y.toNat*e.size)).map (zc[· % zc.size]!)) (j*e.size) e.size=[]:=by unfold seg;rw[hz];simp
     rw[this];exact⟨hr0,λh=>absurd hz h⟩
    have hne:y.toNat*e.size≠0:=by
     intro h0;rcases YF.1 h0 with h0|h0<;>omega
    rw[if_neg hne]at hzc;subst hzc;have:=MH z.cells (by omega) y.toNat j (by omega);rw[hzs]at this;rw[hzs,this,e0];exact⟨hr0,λ_=>rfl⟩
   obtain⟨d,hd⟩:∃ d,d=(C.deep.any λd=>A3 d (o.dst.getD 0)):=⟨_,rfl⟩;rw[<- hd]at h;have plain:∃ m',m'.w=m.w.alloc (.cells ((V0 (y.toNat*e.size)).map (zc[· % zc.size]!)) et)/\m'.G=(i,.arr e (A7 x.toNat (aL e)))::m.G/\Inv C w0 M m'/\Evo m m'/\RelSV m' (.slice (some ⟨m.w.heap.size,0,none⟩) x.toNat y.toNat) (.av (.own i)):=by
    obtain⟨m',q1,q2,q3,q4,q5⟩:=zB (τ:=e) (l:=A7 x.toNat (aL e)) (cap:=y.toNat) (fz:=(0,0)) hi (hG▸hn) (oB m.w (.cells ((V0 (y.toNat*e.size)).map (zc[· % zc.size]!)) et)) (gr m.w _) (.inl (B5 _)) (by simp;omega) (by unfold maxLen;omega) (by rw[hcsz];exact B5 _) (λj hj=>by
     simp only[L5]at hj;rw[Ws];exact(hsegz j hj).1)
    exact⟨m',q1,q2,q3,q4,by simpa using q5⟩
   obtain⟨m',q1,q2,q3,q4,q5⟩:∃ m',m'.w=m.w.alloc (.cells ((V0 (y.toNat*e.size)).map (zc[· % zc.size]!)) et)/\m'.G=(i,v4 d e (A7 x.toNat (aL e)))::m.G/\Inv C w0 M m'/\Evo m m'/\RelSV m' (.slice (some ⟨m.w.heap.size,0,none⟩) x.toNat y.toNat) (.av (qE d e i)):=by
    cases d with
    |false=>exact plain
    |true=>
     cases e with
     |slice σ=>
      have hc0:c0=[.slice none 0 0]:=by unfold zeroIs at r5;split at r5<;>simp_all
      obtain⟨m',q1,q2,q3,q4,q5⟩:=Gh (τ:=σ) (l:=A7 x.toNat ([]:List σ.den)) (hs:=A7 x.toNat (.slice none 0 0)) (cap:=y.toNat) (fz:=(0,0)) hi (hG▸hn) (oB m.w (.cells ((V0 (y.toNat*(Ty.slice σ).size)).map (zc[· % zc.size]!)) et)) (gr m.w _) (.inl (B5 _)) (by simp;omega) (by unfold maxLen;omega) (by rw[hcsz];simp[Ty.size]) (by simp) (λk hk=>by
       simp only[L5]at hk;have e1:=(hsegz k hk).2 (by simp[Ty.size]);rw[hc0]at e1;simp only[Ty.size,Wx]at e1 ⊢;have e2:=seg_getElem? ((V0 (y.toNat*1)).map (zc[· % zc.size]!)) k 1 0 (by omega);simp only[Wx]at e2;rw[e1,VR]at e2;rw[<- e2];simp[hk]) (λk hk v hv=>by
        simp only[List.getElem?_replicate]at hv;split at hv
        ·cases hv;rw[Ws];exact⟨none,0,rfl,by simp,by unfold maxLen;omega,λh=>absurd rfl h⟩
        cases hv) (by
        rw[kR,List.pairwise_iff_getElem];intro p q hp hq _ b hb;rw[Ws]at hb;simp[HB,HB1]at hb) (λv hv b hb=>by
         rw[List.mem_replicate]at hv;rw[hv.2]at hb;simp[HB,HB1]at hb)
      refine⟨m',q1,q2,q3,q4,?_⟩;rw[L5]at q5;exact q5
     |_=>exact plain
   refine Does.value (w':=m'.w) (v:=.slice (some ⟨m.w.heap.size,0,none⟩) x.toNat y.toNat) ?_ ⟨m',.av (qE d e i),rfl,?_,q3,q4,q5⟩
   ·simp[execOp,ho,hxv,hyv,hrun,q1]
   simp only[ov]at h;rw[<- h,q2,hG]
  simp at hl
 simp at h
theorem mH{τ:Option Ty}{v:SV}(h:J9 τ v=true):(∃ b,v=.av (.val .str b)/\τ=some .str)\/((∀ b,v≠.av (.val .str b))/\∃ e,τ=some (.slice e)):=by
 unfold J9 at h;split at h
 ·exact .inl ⟨_,rfl,rfl⟩
 all_goals first|exact .inr ⟨by intros;simp,_,rfl⟩|cases h
theorem Sx (hT:eL P C.tab=true)(hi:Inv C w0 M m)(hG:m.G=s.G)(hS:∀ x,RelSV m (a.eval x) (aw C s.env x)){x:Operand}{ats:Array TypeId}
  (ho:o.op=.call { callee:=.builtin .len,args:=#[x],argTypes:=ats })
  (h:cond (J9 (C.tab.get (ats.getD 0 0)) (aw C s.env x)&&VK 1 ats.size) (lenOf s (aw C s.env x) λn=>some (aC o.dst (.av (.val (.int .i64) n)) s)) none=some s'):Does P o a m.w (Res C w0 M m s s' o.dst):=by
 ·cases hc:(J9 (C.tab.get (ats.getD 0 0)) (aw C s.env x)&&VK 1 ats.size)with
  |false=>rw[hc]at h;simp at h
  |true=>
   rw[hc]at h;simp only[U3]at h;simp only[sg]at hc;obtain⟨hty,hsz⟩:=hc;have hsz:=Vi hsz;have hx:=hS x;have hat:ats[0]?=some (ats.getD 0 0):=by simp[Array.getElem?_eq_getElem (show 0<ats.size by omega)]
   have fin {n:Nat} (hn:n<=maxLen) (hv:(∃ b:ByteArray,P.underlying (ats.getD 0 0)=some .string/\a.eval x=.string b/\b.size=n)\/(∃ et ad cap,P.underlying (ats.getD 0 0)=some (.slice et)/\a.eval x=.slice ad n cap))
     (hs:some (aC o.dst (.av (.val (.int .i64) (n:Int))) s)=some s'):Does P o a m.w (Res C w0 M m s s' o.dst):=by
    refine az hi hG (v:=.int .i64 n) ?_ (mh (IF hn)) hs;clear hty;generalize ats.getD 0 0=t0 at hat hv;rcases hv with⟨b,h1,h2,h3⟩|⟨et,ad,cap,h1,h2⟩
    ·simp[execOp,ho,resolve,invoke,builtin,h2,Builtin.len_,hat,run_underlying h1,goInt,h3]
    simp[execOp,ho,resolve,invoke,builtin,h2,Builtin.len_,hat,run_underlying h1,goInt]
   clear hsz;generalize ats.getD 0 0=t0 at hat hty fin;unfold lenOf at h;split at h
   ·rename_i e l hp;rw[hp]at hx hty;obtain⟨ad,cap,hv,h2,h3,_⟩:=tD hx;obtain⟨e1,ht⟩:∃ e,C.tab.get t0=some (.slice e):=by
     rcases mH hty with⟨_,h,_⟩|⟨_,h⟩
     ·cases h
     exact h
    obtain⟨et,hu,_⟩:=bh (ah hT ht);exact fin (by omega) (.inr ⟨et,ad,cap,hu,hv⟩) h
   ·rename_i b hp;rw[hp]at hx hty;obtain⟨hv,h2⟩:=xl hx;have ht:C.tab.get t0=some .str:=by
     rcases mH hty with⟨_,_,h⟩|⟨h,_⟩
     ·exact h
     exact absurd rfl (h b)
    exact fin h2 (.inl ⟨b,qT (ah hT ht),hv,rfl⟩) h
   ·rename_i hp;rw[hp]at hx hty;obtain⟨ad,hv⟩:=hx;obtain⟨e1,ht⟩:∃ e,C.tab.get t0=some (.slice e):=by
     rcases mH hty with⟨_,h,_⟩|⟨_,h⟩
     ·cases h
     exact h
    obtain⟨et,hu,_⟩:=bh (ah hT ht);exact fin (n:=0) (by omega) (.inr ⟨et,ad,0,hu,hv.1⟩) h
   ·rename_i id hp;rw[hp]at hx hty;obtain⟨_,ob,hob,hv⟩:=hx;rw[hG]at hob;split at h
    ·rename_i e l hl;rw[hl]at hob;simp only[ov]at hob;subst hob;obtain⟨ad,cap,r1,r2,r3,_⟩:=hi.objs id _ (hG▸hl);obtain⟨e1,ht⟩:∃ e,C.tab.get t0=some (.slice e):=by
      rcases mH hty with⟨_,h,_⟩|⟨_,h⟩
      ·cases h
      exact h
     obtain⟨et,hu,_⟩:=bh (ah hT ht);exact fin (by omega) (.inr ⟨et,ad,cap,hu,by rw[hv rfl,r1]⟩) h
    simp at h
   ·rename_i id off n hp;rw[hp]at hx hty;obtain⟨_,ob,hob,hv⟩:=hx;rw[hG]at hob;split at h
    ·rename_i e l hl;rw[hl]at hob;simp only[ov]at hob;subst hob;obtain⟨ad,cap,r1,r2,r3,_⟩:=hi.objs id _ (hG▸hl);simp only at hv;obtain⟨e1,ht⟩:∃ e,C.tab.get t0=some (.slice e):=by
      rcases mH hty with⟨_,h,_⟩|⟨_,h⟩
      ·cases h
      exact h
     obtain⟨et,hu,_⟩:=bh (ah hT ht);obtain⟨a',n',cap',ad',v1,v2,v3⟩:=hv.2;exact fin (by omega) (.inr ⟨et,_,_,hu,v2⟩) h
    simp at h
   ·rename_i id off n hp;rw[hp]at hx hty;obtain⟨_,ob,hob,hv⟩:=hx;rw[hG]at hob;split at h
    ·rename_i e l hl;rw[hl]at hob;simp only[ov]at hob;subst hob;obtain⟨ad,cap,r1,r2,r3,_⟩:=hi.objs id _ (hG▸hl);simp only at hv;obtain⟨e1,ht⟩:∃ e,C.tab.get t0=some (.slice e):=by
      rcases mH hty with⟨_,h,_⟩|⟨_,h⟩
      ·cases h
      exact h
     obtain⟨et,hu,_⟩:=bh (ah hT ht);obtain⟨k1,k2,b,o',n',cap',v1,v2⟩:=hv;exact fin (by omega) (.inr ⟨et,_,_,hu,v2⟩) h
    simp at h
   ·rename_i id hp;rw[hp]at hx hty;obtain⟨_,ob,hob,hv⟩:=hx;rw[hG]at hob;split at h
    ·rename_i ver e l hole hl;rw[hl]at hob;simp only[ov]at hob;subst hob;obtain⟨u,hs,d1,d2⟩:=fv hi (hG▸hl);obtain⟨us,v1,v2⟩:=hv;rw[d1]at v1;simp only[Value.tuple.injEq]at v1;subst v1;simp only[Vb,Vh,ov]at v2;obtain⟨ad,cap,r1,r2,r3,_⟩:=d2.outer;obtain⟨e1,ht⟩:∃ e,C.tab.get t0=some (.slice e):=by
      rcases mH hty with⟨_,h,_⟩|⟨_,h⟩
      ·cases h
      exact h
     obtain⟨et,hu,_⟩:=bh (ah hT ht);exact fin (by omega) (.inr ⟨et,ad,cap,hu,by rw[<- v2,r1]⟩) h
    simp at h
   ·rename_i id ver j hp;rw[hp]at hx hty;obtain⟨_,ob,hob,hv⟩:=hx;rw[hG]at hob;split at h
    ·rename_i ver' e l hl;rw[hl]at hob;simp only[ov]at hob;subst hob;cases hb:A3 ver ver' with
     |false=>rw[hb]at h;simp at h
     |true=>
      rw[hb]at h;have:=A6 hb;subst this;obtain⟨hj,_,us,v1,v2⟩:=hv.2 rfl;simp only[U3,wP hj]at h;obtain⟨u,hs,d1,d2⟩:=fv hi (hG▸hl);rw[d1]at v1;simp only[Value.tuple.injEq]at v1;subst v1;simp only[Vb,Vs]at v2;obtain⟨ad,cap,r1,r2,r3,_⟩:=d2.inner j hj _ v2 (by simp);obtain⟨e1,ht⟩:∃ e,C.tab.get t0=some (.slice e):=by
       rcases mH hty with⟨_,h,_⟩|⟨_,h⟩
       ·cases h
       exact h
      obtain⟨et,hu,_⟩:=bh (ah hT ht);exact fin (by omega) (.inr ⟨et,ad,cap,hu,r1⟩) h
    simp at h
   simp at h
end
end Go.Vm

/-
 The machine's operations against the model's: conversions, parts of slices, literals.
-/
namespace Go.Vm
section
variable {P:Program}{C:Ctx}{w0:World}{M:Own}{o:Oper}{a:Act}{m:Mem}{s s':St}
theorem LS{x y:Int}{lo hi:Int}(h1:lo<=x/\x<=hi)(h2:lo<=y/\y<=hi):lo<=bL x y/\bL x y<=hi:=by unfold bL;split<;>assumption
theorem Lh{x y:Int}{lo hi:Int}(h1:lo<=x/\x<=hi)(h2:lo<=y/\y<=hi):lo<=dj x y/\dj x y<=hi:=by unfold dj;split<;>assumption
theorem xi (mx:Bool)(hS:∀ x,RelSV m (a.eval x) (aw C s.env x)){R:Type}{K:Int->Option R}{z:R}:∀(xs:List Operand) (n:Int),
  IntKind.i64.min<=n/\n<=IntKind.i64.max->x5 mx n (xs.map (aw C s.env)) K=some z ->
  ∃ n',K n'=some z/\(IntKind.i64.min<=n'/\n'<=IntKind.i64.max)/\((xs.map a.eval).foldlM (cond mx Builtin.max2 Builtin.min2) (.int .i64 n)).run P m.w=.ok (.int .i64 n') m.w
 |[],n,hn,h=>⟨n,h,hn,by simp⟩
 |x::xs,n,hn,h=>by
  simp only[L3,x5]at h;obtain⟨y,hy,h⟩:=BM h;have hx:=hS x;rw[hy]at hx;obtain⟨hx,h1,h2⟩:=gM hx;cases mx with
  |true=>obtain⟨n',r1,r2,r3⟩:=xi true hS xs (dj n y) (Lh hn ⟨h1,h2⟩) h;refine⟨n',r1,r2,?_⟩;simp only[L3,Yv,U3,hx,Builtin.max2,Sem.run_bind,Sem.run_pure,Result.andThen_ok];exact r3
  |false=>obtain⟨n',r1,r2,r3⟩:=xi false hS xs (bL n y) (LS hn ⟨h1,h2⟩) h;refine⟨n',r1,r2,?_⟩;simp only[L3,Yv,U4,hx,Builtin.min2,Sem.run_bind,Sem.run_pure,Result.andThen_ok];exact r3
theorem Tw (hT:eL P C.tab=true)(hi:Inv C w0 M m)(hG:m.G=s.G)(hS:∀ x,RelSV m (a.eval x) (aw C s.env x)){args:Array Operand}{ats:Array TypeId}
  (ho:o.op=.call { callee:=.builtin .cap,args,argTypes:=ats }) (h:ax C o s some=some s'):Does P o a m.w (Res C w0 M m s s' o.dst):=by
 simp only[ax,ho]at h;split at h
 ·rename_i x t ha ht;have ha:args=#[x]:=by rw[<- VH (xs:=args),ha]
  have ht:ats=#[t]:=by rw[<- VH (xs:=ats),ht]
  subst ha ht;have hx:=hS x;split at h
  ·rename_i e d hty hv;rw[hv]at hx;obtain⟨ad,hx,_⟩:=hx;obtain⟨et,hu,_⟩:=bh (ah hT hty);exact az hi hG (v:=.int .i64 0) (by simp[execOp,ho,resolve,invoke,builtin,Builtin.cap_,run_underlying hu,hx,goInt]) (mh ⟨by decide,by decide⟩) h
  cases h
 cases h
theorem TD (hi:Inv C w0 M m)(hG:m.G=s.G)(hS:∀ x,RelSV m (a.eval x) (aw C s.env x)){args:Array Operand}{ats:Array TypeId}
  (ho:o.op=.call { callee:=.builtin .min,args,argTypes:=ats }) (h:ax C o s some=some s'):Does P o a m.w (Res C w0 M m s s' o.dst):=by
 simp only[ax,ho]at h;obtain⟨l,rfl⟩:∃ l:List Operand,args=l.toArray:=⟨args.toList,by simp⟩;cases l with
 |nil=>simp at h
 |cons x xs=>simp only[L3]at h;obtain⟨y,hy,h⟩:=BM h;have hx:=hS x;rw[hy]at hx;obtain⟨hx,h1,h2⟩:=gM hx;obtain⟨n',r1,r2,r3⟩:=xi (P:=P) (m:=m) (a:=a) false hS xs y ⟨h1,h2⟩ h;refine az hi hG (v:=.int .i64 n') ?_ (mh r2) r1;simp only[U4]at r3;simp[execOp,ho,resolve,invoke,builtin,Builtin.min_,hx,r3]
theorem Tr (hi:Inv C w0 M m)(hG:m.G=s.G)(hS:∀ x,RelSV m (a.eval x) (aw C s.env x)){args:Array Operand}{ats:Array TypeId}
  (ho:o.op=.call { callee:=.builtin .max,args,argTypes:=ats }) (h:ax C o s some=some s'):Does P o a m.w (Res C w0 M m s s' o.dst):=by
 simp only[ax,ho]at h;obtain⟨l,rfl⟩:∃ l:List Operand,args=l.toArray:=⟨args.toList,by simp⟩;cases l with
 |nil=>simp at h
 |cons x xs=>simp only[L3]at h;obtain⟨y,hy,h⟩:=BM h;have hx:=hS x;rw[hy]at hx;obtain⟨hx,h1,h2⟩:=gM hx;obtain⟨n',r1,r2,r3⟩:=xi (P:=P) (m:=m) (a:=a) true hS xs y ⟨h1,h2⟩ h;refine az hi hG (v:=.int .i64 n') ?_ (mh r2) r1;simp only[U3]at r3;simp[execOp,ho,resolve,invoke,builtin,Builtin.max_,hx,r3]
theorem Mr {x:Operand}{i:Nat}(hi:Inv C w0 M m)(hG:m.G=s.G)(hS:∀ x,RelSV m (a.eval x) (aw C s.env x))(ho:o.op=.extract x i)
  (h:ax C o s some=some s'):Does P o a m.w (Res C w0 M m s s' o.dst):=by
 simp only[ax,ho]at h;have hx:=hS x;split at h
 ·rename_i l hp;rw[hp]at hx;obtain⟨us,hv,hr⟩:=hx;split at h
  ·rename_i c hc;obtain⟨u,hu,hr'⟩:=hr.get hc;exact az hi hG (v:=u) (sv:=.agg c) (by simp[execOp,ho,hv,Instr.extract,hu]) (by simp only[pJ,U3]at hr';exact hr') h
  ·rename_i at' hc;obtain⟨u,hu,hr'⟩:=hr.get hc;simp only[pJ,U4]at hr';obtain⟨b,hb,hr'⟩:=hr';simp only[Wk,and_true]at hb;subst hb;exact az hi hG (v:=u) (sv:=.av at') (by simp[execOp,ho,hv,Instr.extract,hu]) (RelSV.of_atom hr') h
  simp at h
 simp at h
theorem BO (hi:Inv C w0 M m)(hG:m.G=s.G)(hS:∀ x,RelSV m (a.eval x) (aw C s.env x)):∀(xs:List Operand) {l:List Nat},GB s.G (xs.map (aw C s.env))=some l ->
  Rel2 (fun u c=>∃ o,m.G.get c=some o/\(match o with
    |.box _=>∃ b,m.ι c=.pointer (some ⟨b,0,none⟩)/\u=.pointer (some ⟨b,0,none⟩)
    |.dead=>True
    |_=>False)) (xs.map a.eval) l
 |[],l,h=>by simp[GB]at h;subst h;trivial
 |x::xs,l,h=>by
  have hx:=hS x;simp only[L3]at h ⊢;generalize aw C s.env x=v at h hx;unfold GB at h;split at h
  ·cases ‹_::_=[]›
  ·rename_i i r heq;simp only[Wk]at heq;obtain⟨rfl,rfl⟩:=heq;obtain⟨_,ob,hob,hv⟩:=(au (m:=m) (a:=.ptr i 0) (by intros;simp)).1 hx;split at h
   ·rename_i bl hbl;split at h
    ·rename_i l' hl';simp only[ov]at h;subst h;exact⟨⟨ob,hob,hv⟩,BO hi hG hS xs hl'⟩
    simp at h
   simp at h
  simp at h
theorem B0:∀{us:List Value} {l:List Atom} {q:List (Σ t:Ty,t.den)},Rel2 (ak m) us l->v8 l=some q->Rel2 (λu (p:Σ t:Ty,t.den)=>Rd m.w m.F p.1 [u] p.2/\p.1.isAgg=false) us q
 |[],[],q,_,h=>by simp only[v8,ov]at h;subst h;trivial
 |u::us,a::l,q,hr,h=>by
  cases a with
  |val τ x=>simp only[v8]at h;obtain⟨q',hq,h⟩:=A8.1 h;simp only[ov]at h;subst h;exact⟨hr.1,B0 hr.2 hq⟩
  |_=>simp[v8]at h
theorem zg (hi:Inv C w0 M m)(hS:∀ x,RelSV m (a.eval x) (aw C s.env x)):∀(xs:List Operand) {q:(Σ t:Ty,t.den)×List Nat},zu m.G (xs.map (aw C s.env))=some q ->
  Rd m.w (Thru m q.2) q.1.1 (xs.map a.eval) q.1.2
 |[],q,h=>by simp only[List.map_nil,zu,ov]at h;subst h;rfl
 |x::xs,q,h=>by
  have hx:=hS x;simp only[L3]at h ⊢;unfold zu at h;split at h
  ·rename_i he;cases he
  ·rename_i e y r he;simp only[Wk]at he;obtain⟨he,rfl⟩:=he;split at h
   ·rename_i q' hq';simp only[ov]at h;subst h;have ih:=zg hi hS xs hq';rw[he]at hx;obtain⟨cs,h1,h2⟩:=hx;obtain⟨v,rfl,_⟩:=h2.single rfl;have h1:a.eval x=v:=h1;exact⟨[a.eval x],xs.map a.eval,rfl,Tg (h1▸h2),ih⟩
   simp at h
  ·rename_i i r he;simp only[Wk]at he;obtain⟨he,rfl⟩:=he;split at h
   ·rename_i τ y hg;cases ha:τ.isAgg with
    |true=>rw[ha]at h;simp at h
    |false=>
     rw[ha]at h;simp only[U4]at h;split at h
     ·rename_i q' hq';simp only[ov]at h;subst h;have ih:=zg hi hS xs hq';rw[he]at hx;have hx:=(au (m:=m) (a:=.ptr i 0) (by intros;simp)).1 hx;have hbv:vw m.G τ i 0=some y:=by
       have hsz:=nV ha;have hc:aE m.G τ [.val τ y]=some (y,[]):=by
        cases τ<;>first|(simp[aE,aO,cU];done)|simp[Ty.isAgg]at ha
       unfold vw;rw[hg];simp only[hsz,B2,B8,Vt,WO,hc];rfl
      have hb:=My hi hbv hx;refine⟨[a.eval x],xs.map a.eval,rfl,EQ ?_ hb,EQ (λk hk=>by simp[hk]) ih⟩;intro k hk;have:uD m.G i=[]:=by simp[uD,hg,atomIds]
      rw[this]at hk;simp at hk;simp[hk]
     simp at h
   simp at h
  simp at h
theorem JI {fn:Fn}{first caps:Array Operand}(hi:Inv C w0 M m)(hG:m.G=s.G)(hS:∀ x,RelSV m (a.eval x) (aw C s.env x))(ho:o.op=.makeFunc fn first caps)
  (h:ax C o s some=some s'):Does P o a m.w (Res C w0 M m s s' o.dst):=by
 cases fn with
 |func f=>
  simp only[ax,ho]at h;split at h
  ·rename_i l hf hc;have hf':first=#[]:=by rw[<- VH (xs:=first),hf]
   subst hf';have hr:=BO hi hG hS caps.toList hc;refine az hi hG (v:=.func (.func f) #[] (caps.toList.map a.eval).toArray) (sv:=.av (.clo f l)) ?_ (show ak m _ (.clo f l)from⟨_,rfl,hr⟩) h;have e:Xz a.eval caps=(caps.toList.map a.eval).toArray:=by apply XI;simp
   simp[execOp,ho,Instr.makeFunc,e]
  ·rename_i x hf hc;have hf':first=#[x]:=by rw[<- VH (xs:=first),hf]
   subst hf';have hc':caps=#[]:=by have hr:=(BO hi hG hS caps.toList hc).length;simp at hr;exact hr
   subst hc';have hx:=hS x;split at h
   ·rename_i l hl;rw[hl]at hx;obtain⟨us,hu,h1,hr⟩:=hx;obtain⟨q,hq,h⟩:=A8.1 h;exact az hi hG (v:=.func (.func f) #[.agg us.toArray] #[]) (sv:=.av (.bnd f q)) (by simp[execOp,ho,Instr.makeFunc,hu]) (show ak m _ (.bnd f q)from⟨us,rfl,h1,B0 hr hq⟩) h
   simp at h
  ·rename_i hf hc;have hf':first=#[]:=by rw[<- VH (xs:=first),hf]
   subst hf';split at h
   ·rename_i q hq;simp only[ov]at h;rw[<- hG]at hq;have hr:=zg hi hS caps.toList hq;obtain⟨m1,a1,a2,a3,a4,a5,a6⟩:=jg q.2 hi;have e:Xz a.eval caps=(caps.toList.map a.eval).toArray:=by apply XI;simp
    refine Does.value (w':=m1.w) (v:=.func (.func f) #[] (caps.toList.map a.eval).toArray) (by simp[execOp,ho,Instr.makeFunc,e,a1]) ⟨m1,.av (.val (.clo f q.1.1) q.1.2),rfl,?_,a4,a5,?_⟩
    ·rw[<- h,a3,hG]
    exact⟨[_],rfl,_,rfl,hr.mono λb hb=>⟨a6 b hb,by rw[a1]⟩⟩
   simp at h
  simp at h
 |_=>simp[ax,ho]at h
theorem LR {t u:TypeId}{x:Operand}(hT:eL P C.tab=true)(hi:Inv C w0 M m)(hG:m.G=s.G)(hS:∀ x,RelSV m (a.eval x) (aw C s.env x))(ho:o.op=.convert t u x)
  (h:ax C o s some=some s'):Does P o a m.w (Res C w0 M m s s' o.dst):=by
 simp only[ax,ho]at h;have hx:=hS x;split at h
 ·rename_i _ k1 k k2 y h1 h2 hp;rw[hp]at hx;obtain⟨hx,_,_⟩:=gM hx;have u1:=vl (ah hT h1);have u2:=vl (ah hT h2);exact az hi hG (v:=.int k (k.wrap y)) (by simp[execOp,ho,hx,convert,run_underlying u1,run_underlying u2,Conv.intToInt]) (mh (wrap_within k _)) h
 ·rename_i b h1 h2 hp;rw[hp]at hx;obtain⟨hx,hb⟩:=xl hx;have u1:=qT (ah hT h1);obtain⟨et,u2,hck⟩:=bh (ah hT h2);have u3:=vl hck;obtain⟨i,hn,h⟩:=dn h;have hrun:=Lib.run_convert_string_bytes (P:=P) m.w t u et b u1 u2 u3;have hge:b.size<=grownCap m.w b.size 0 et:=grownCap_ge _ _ _ _;have hle:grownCap m.w b.size 0 et<=maxLen:=grownCap_le_maxLen _ _ _ _ hb;have hcs:(Lib.bytesCells m.w et b).size=grownCap m.w b.size 0 et:=by simp[Lib.bytesCells];have:b.data.size=b.size:=rfl;omega
  have hkept:Kept m.w (λ_=>False) (Lib.bytesWorld m.w et b):=by refine⟨?_,?_,?_,by rw[Lib.bytesWorld_size];omega,λk hk _=>Lib.bytesWorld_at_old _ _ _ _ hk⟩<;>rfl
  have hlen:(fW b).length=b.size:=by simp[fW]
  obtain⟨m',q1,q2,q3,q4,q5⟩:=zB (τ:=.int .u8) (l:=fW b) (cap:=grownCap m.w b.size 0 et) hi (hG▸hn) hkept (Lib.bytesWorld_at_new m.w et b) (.inr ⟨rfl,B5 _⟩) (by omega) hle (by simp only[Ty.size];omega) (λj hj=>by
   have hj':j<b.data.size:=by rw[hlen]at hj;exact hj
   have:seg (Lib.bytesCells m.w et b) (j*(Ty.int .u8).size) (Ty.int .u8).size=[.int .u8 (b.data[j].toNat:Int)]:=by
    apply Wb;intro k;simp only[Ty.size,Wx];cases k with
    |zero=>rw[seg_getElem? _ _ _ _ (by omega)];have hjb:j<b.size:=hj';simp[Lib.bytesCells,Array.getElem?_append,hj',hjb]
    |succ k=>unfold seg;rw[Vc];simp
   rw[this];refine⟨?_,?_⟩
   ·simp[fW]
   have:=(b.data[j]).toNat_lt;have e:(fW b)[j]=(b.data[j].toNat:Int):=by simp[fW]
   rw[e];generalize (b.data[j]).toNat=z at this ⊢;have e1:IntKind.u8.min=0:=rfl;have e2:IntKind.u8.max=255:=rfl;rw[e1,e2];show(0:Int)<=(z:Int)/\(z:Int)<=255;omega)
  rw[hlen]at q5;refine Does.value (w':=m'.w) (v:=.slice (some ⟨m.w.heap.size,0,none⟩) b.size (grownCap m.w b.size 0 et)) ?_ ⟨m',.av (.own i),rfl,?_,q3,q4,q5⟩
  ·simp[execOp,ho,hx,hrun,q1]
  simp only[ov]at h;rw[<- h,q2,hG]
 ·rename_i h1 h2;split at h
  ·rename_i l hl;have u2:=qT (ah hT h2);obtain⟨et,u1,hck⟩:=bh (ah hT h1);have u3:=vl hck;obtain⟨cs,hv,hrd⟩:=jB hi (hG▸hl) hx;obtain⟨ad,cap,rfl,r1,r2,r3⟩:=hrd;simp only[toV,Ty.isAgg,U4,Xl]at hv;have hsz:(EA l).size=l.length:=strOfNums_size l;have key:(convert t u (a.eval x)).run P m.w=.ok (.string (EA l)) m.w:=by
    rw[hv];cases l with
    |nil=>
     cases ad with
     |none=>rw[run_convert_bytes_nil m.w t et u1 u3 _ _ u u2];rfl
     |some ad=>rw[run_convert_bytes_string m.w t u et _ _ _ u1 u3 u2,run_bytesToString m.w ad _ _ [] (by simp[loadCells,loadCellsFrom])];rfl
    |cons n l=>obtain⟨b,off,c,el,fz,rfl,q2,q3,q4,q5⟩:=r3 (by simp);refine run_convert_bytes_arg m.w t et u1 u3 b off _ cap (n::l) rfl (λj hj=>?_) u u2;have:=(q5 j hj).1;simp only[Ty.size,Wx]at this;rw[oh q3];have h0:=seg_getElem? c (off+j) 1 0 (by omega);rw[this,VR]at h0;rw[<- h0];simp[List.getD,bx hj]
   exact az hi hG (v:=.string (EA l)) (by simp[execOp,ho,key]) (Fm (by omega)) h
  simp at h
 ·rename_i b h1 h2 hp;rw[hp]at hx;have hx':=hx;obtain⟨hx,hb⟩:=xl hx;have u1:=qT (ah hT h1);have u2:=qT (ah hT h2);exact az hi hG (v:=.string b) (sv:=.av (.val .str b)) (by simp[execOp,ho,hx,convert,run_underlying u1,run_underlying u2]) (Fm hb) h
 simp at h
end
end Go.Vm

/-
 The machine's operations against the model's: literals of structs and of slices, parts of slices.
-/
namespace Go.Vm
section
variable {P:Program}{C:Ctx}{w0:World}{M:Own}{o:Oper}{a:Act}{m:Mem}{s s':St}
theorem Ms(c:Array Value)(o:Nat):aS c o []=c:=by unfold aS;apply XI;simp
theorem KB (off:Nat):∀(vs:List Value) (j:Nat) (c:Array Value),off+j+vs.length<=c.size ->
  (vs.zipIdx j).foldl (λcs (x:Value×Nat)=>cs.setIfInBounds (off+x.2) x.1) c=aS c (off+j) vs
 |[],j,c,_=>by rw[Ms];rfl
 |v::vs,j,c,h=>by
  simp only[B2]at h;simp only[Yw,List.foldl_cons];rw[KB off vs (j+1) _ (by simp;omega)];apply Array.ext_getElem?;intro k;rw[kE _ _ _ (by simp;omega),kE _ _ _ (by simp;omega),Array.getElem?_setIfInBounds];simp only[B2];by_cases h1:off+j=k
  ·subst h1;rw[if_neg (by omega),if_pos rfl,if_pos (by omega),if_pos (by omega)];simp
  by_cases h2:off+j<k/\k<off+j+1+vs.length
  ·rw[if_pos (by omega),if_pos (by omega)];have:k-(off+j)=(k-(off+(j+1)))+1:=by omega
   rw[this];rfl
  rw[if_neg (by omega),if_neg h1,if_neg (by omega)]
theorem Lz (off:Nat)(vs c:Array Value)(h:off+vs.size<=c.size) :
  vs.zipIdx.foldl (λcs (x:Value×Nat)=>cs.setIfInBounds (off+x.2) x.1) c=aS c off vs.toList:=by
 rw[<- Array.foldl_toList,Array.toList_zipIdx];exact KB off vs.toList 0 c (by simpa using h)
theorem Hr (place:Nat->Option (Nat×Nat))(cells:Array Value)(i:Nat)(v:Value)(rest:List (Nat×Value)){off size:Nat}(hp:place i=some (off,size))(hs:v.cells.size=size)
  (hb:off+v.cells.size<=cells.size):Instr.fill place cells ((i,v)::rest)=Instr.fill place (aS cells off v.cells.toList) rest:=by
 rw[<- Lz off v.cells cells hb];simp only[Instr.fill,hp];rw[if_neg (by simp;omega)]
theorem Ig:∀{b:Ty} {r:List Field} {o:Nat},chk P b (some (r,o)) 0=true->∃ places,r.mapM (fun f=>(P.info? f.type).map fun i=>(f.offset,i.size))=some places /\
  ∀ i o' σ,b.field i=some (o',σ)->places[i]?=some (o+o',σ.size)
 |.prod a b,r,o,h=>by
  cases r with
  |nil=>simp[chk]at h
  |cons fd r=>
   simp only[chk,sg]at h;obtain⟨⟨h1,h2⟩,h3⟩:=h;obtain⟨places,q1,q2⟩:=Ig h3;obtain⟨i,z,r1,r2,_⟩:=kx h2;have h1:=A6 h1;refine⟨(o,a.size)::places,?_,?_⟩
   ·simp only[List.mapM_cons,r1,q1,VZ];simp[h1,r2]
   intro j o' σ hf;cases j with
   |zero=>simp[Ty.field]at hf;obtain⟨rfl,rfl⟩:=hf;rfl
   |succ j=>
    simp only[Ty.field]at hf;split at hf
    ·rename_i o1 t1 hb;simp at hf;obtain⟨rfl,rfl⟩:=hf;have:=q2 j o1 t1 hb;simp only[Vs];rw[this,VS]
    simp at hf
 |.unit,[],_,_=>⟨[],rfl,by intro i o' σ hf;simp[Ty.field]at hf⟩
 |.unit,_::_,_,h=>by simp[chk]at h
 |.int _,_,_,h=>by simp[chk]at h
 |.bool,_,_,h=>by simp[chk]at h
 |.str,_,_,h=>by simp[chk]at h
 |.slice _,_,_,h=>by simp[chk]at h
 |.arr _ _,_,_,h=>by simp[chk]at h
 |.ptr _,_,_,h=>by simp[chk]at h
 |.clo _ _,_,_,h=>by simp[chk]at h
theorem KI {τ : Ty}{place:Nat->Option (Nat×Nat)}(hp:∀ i o σ,τ.part i=some (o,σ)->place i=some (o,σ.size))(hS:∀ x,RelSV m (a.eval x) (aw C s.env x)) :
  ∀(xs:List (Nat×Operand)) {l c:List Atom} {cells:Array Value},tE τ (xs.map λp=>(p.1,aw C s.env p.2)) l=some c->Rel2 (ak m) cells.toList l->(∀ u∈cells.toList,u.oneCell'=true) ->
  ∃ cells',Instr.fill place cells (xs.map λp=>(p.1,a.eval p.2))=some cells'/\Rel2 (ak m) cells'.toList c/\∀ u∈cells'.toList,u.oneCell'=true
 |[],l,c,cells,h,hr,h1=>by simp[tE]at h;subst h;exact⟨cells,rfl,hr,h1⟩
 |(i,x)::xs,l,c,cells,h,hr,h1=>by
  simp only[L3,tE]at h;split at h
  ·rename_i o t hf;split at h
   ·rename_i cs hc;cases hl:A3 cs.length t.size with
    |false=>rw[hl]at h;simp at h
    |true=>
     rw[hl]at h;simp only[U3]at h;have hl:=A6 hl;split at h
     ·rename_i l' hput;obtain⟨k1,k2⟩:=yu hc (hS x);obtain⟨e1,e2⟩:=zF hput;have n1:=hr.length;have n2:=k1.length;rw[Vl]at n1 n2;simp only[L3];rw[Hr place cells i (a.eval x) _ (hp i o t hf) (by omega) (by omega)];refine KI hp hS xs h ?_ ?_
      ·rw[e1];unfold aS;simp only[Vl,n2];exact((hr.take o).append k1).append (hr.drop _)
      intro u hu;unfold aS at hu;simp only[B6]at hu;rcases hu with(hu|hu)|hu
      ·exact h1 u (VI hu)
      ·exact k2 u hu
      exact h1 u (V5 hu)
     simp at h
   simp at h
  simp at h
theorem Pq {t:TypeId}{parts:Array (Nat×Operand)}(hT:eL P C.tab=true)(hi:Inv C w0 M m)(hG:m.G=s.G)(hS:∀ x,RelSV m (a.eval x) (aw C s.env x))(ho:o.op=.build t parts)
  (h:ax C o s some=some s'):Does P o a m.w (Res C w0 M m s s' o.dst):=by
 simp only[ax,ho]at h;split at h
 ·rename_i τ ht;cases hst:τ.isAgg with
  |false=>rw[hst]at h;simp at h
  |true=>
   have hck:=ah hT ht (NB hst);rw[hst]at h;simp only[U3]at h;split at h
   ·rename_i c hc;obtain⟨inf,z,r1,r2,r3,r4,r5,r6,r7⟩:=kx hck;obtain⟨c0,e0,hr0,hz⟩:=jI (m:=m) r5;rw[Vw]at e0;have key:∃ place:Nat->Option (Nat×Nat),(∀ parts,P.built t parts=Instr.fill place z.cells parts)/\∀ i o' σ,τ.part i=some (o',σ)->place i=some (o',σ.size):=by
     cases τ with
     |prod p q=>
      simp only[chk,sg]at hck;obtain⟨_,hck⟩:=hck;split at hck
      ·rename_i fs hu;split at hck
       ·rename_i fd r hfs;simp only[sg]at hck;obtain⟨⟨h1,h2⟩,h3⟩:=hck;have hx:chk P (.prod p q) (some (fs.toList,0)) 0=true:=by rw[hfs];simp only[chk,sg,Vt];exact⟨⟨h1,h2⟩,h3⟩
        obtain⟨places,q1,q2⟩:=Ig hx;refine⟨λi=>places.toArray[i]?,λparts=>by simp only[Program.built,r1,hu,r4,q1],λi o' σ hf=>?_⟩;have:=q2 i o' σ hf;rw[Vt]at this;simpa using this
       simp at hck
      simp at hck
     |unit=>
      simp only[chk,sg]at hck;obtain⟨_,hck⟩:=hck;split at hck
      ·rename_i fs hu;split at hck
       ·rename_i hfs;refine⟨λi=>(([]:List (Nat×Nat)).toArray)[i]?,λparts=>?_,by intro i o' σ hf;simp[Ty.part,Ty.field]at hf⟩;have q1:fs.toList.mapM (λf=>(P.info? f.type).map λi=>(f.offset,i.size))=some []:=by rw[hfs];rfl
        simp only[Program.built,r1,hu,r4,q1]
       simp at hck
      simp at hck
     |arr n e=>obtain⟨et,hu,he⟩:=yo hck;obtain⟨ie,ze,s1,s2,_⟩:=kx he;refine⟨λi=>some (i*ie.size,ie.size),λparts=>by simp only[Program.built,r1,hu,r4,s1],λi o' σ hf=>?_⟩;simp only[Ty.part,ov,B4]at hf;obtain⟨rfl,rfl⟩:=hf;simp only[s2]
     |_=>simp[Ty.isAgg]at hst
    obtain⟨place,hbl,hfl⟩:=key;obtain⟨cells',f1,f2,f3⟩:=KI (place:=place) hfl hS parts.toList hc (cells:=z.cells) (by rw[e0];exact hz) (by rw[e0];exact hr0.one);have hb:P.built t (parts.map λp=>(p.1,a.eval p.2)).toList=some cells':=by rw[hbl,Xw];exact f1
    have hrun:=run_build m.w t _ cells' hb;refine az hi hG (v:=.agg cells') (sv:=.agg c) ?_ ⟨cells'.toList,by simp,f3,f2⟩ h;simp[execOp,ho,hrun]
   simp at h
 simp at h
theorem GD {size:Nat}:∀(xs:List Operand) (k:Nat) (cells:Array Value),(∀ x∈xs,(a.eval x).cells.size=size)->(k+xs.length) * size<=cells.size ->
  ∃ cells',Instr.fill (λi=>some (i*size,size)) cells ((xs.zipIdx k).map λp=>(p.2,a.eval p.1))=some cells'/\cells'.size=cells.size /\
   (∀ j x,xs[j]?=some x->seg cells' ((k+j)*size) size=(a.eval x).cells.toList)/\∀ j,j<k->seg cells' (j*size) size=seg cells (j*size) size
 |[],k,cells,_,_=>⟨cells,rfl,rfl,by intro j x h;simp at h,λ_ _=>rfl⟩
 |x::xs,k,cells,h1,h2=>by
  simp only[B2]at h2;have hx:(a.eval x).cells.size=size:=h1 x (by simp);have hle:(k+1)*size<=(k+(xs.length+1))*size:=B3 _ (by omega);have hle':(k+1)*size=k*size+size:=by rw[L6];omega
  have hb:k*size+(a.eval x).cells.size<=cells.size:=by omega
  have hb':k*size+(a.eval x).cells.toList.length<=cells.size:=by simpa using hb
  have hss:=cv cells (k*size) _ hb';obtain⟨cells',q1,q2,q3,q4⟩:=GD xs (k+1) (aS cells (k*size) (a.eval x).cells.toList) (λy hy=>h1 y (by simp[hy])) (by rw[hss,show k+1+xs.length=k+(xs.length+1) by omega];exact h2);refine⟨cells',?_,q2.trans hss,?_,?_⟩
  ·simp only[Yw,L3];rw[Hr _ cells k (a.eval x) _ rfl hx hb];exact q1
  ·intro j y hj;cases j with
   |zero=>simp at hj;subst hj;rw[VR,q4 k (by omega)];have:=xT cells (k*size) _ hb';rw[Vl,hx]at this;exact this
   |succ j=>have:=q3 j y (by simpa using hj);rw[show k+(j+1)=k+1+j by omega];exact this
  intro j hj;rw[q4 j (by omega)];have:(j+1)*size<=k*size:=B3 _ hj;rw[L6]at this;exact eK cells (k*size) _ hb' (j*size) size (.inl (by omega))
theorem BY{G:Heap}{e:Ty}:∀{vs:List SV} {l:List e.den},ym G e vs=some l->l.length=vs.length/\∀ i (h:i<l.length),∃ v,vs[i]?=some v/\bD G e v=some l[i]
 |[],l,h=>by simp[ym]at h;subst h;exact⟨rfl,by intro i hi;simp at hi⟩
 |v::vs,l,h=>by
  simp only[ym]at h;split at h
  ·rename_i x hx;split at h
   ·rename_i y hy;simp at h;subst h;obtain⟨h1,h2⟩:=BY hy;refine⟨by simp[h1],λi hi=>?_⟩;cases i with
    |zero=>exact⟨v,rfl,hx⟩
    |succ i=>obtain⟨u,q1,q2⟩:=h2 i (by simpa using hi);exact⟨u,by simpa using q1,by simpa using q2⟩
   simp at h
  simp at h
theorem Gr {t et:TypeId}{e:Ty}{n:Nat}{parts:Array (Nat×Operand)}(hu:P.underlying t=some (.slice et))(hck:chk P e none et=true)(hn:n=parts.size)(hlim:n * e.size<=16777216)
  (hall:(parts.toList.zipIdx.all λp=>A3 p.1.1 p.2)=true) (hcell:∀ x∈parts.toList.map (·.2),(a.eval x).cells.size=e.size) :
  ∃ cells:Array Value,cells.size=n*e.size/\(∀ j x,(parts.toList.map (·.2))[j]?=some x->seg cells (j*e.size) e.size=(a.eval x).cells.toList) /\
   ∀ w:World,(Instr.buildSlice t n (parts.map λp=>(p.1,a.eval p.2))).run P w=.ok (.slice (some ⟨w.heap.size,0,none⟩) n n) (w.alloc (.cells cells et)):=by
 obtain⟨xs,hxs⟩:∃ xs,xs=parts.toList.map (·.2):=⟨_,rfl⟩;rw[<- hxs]at hcell ⊢;have hplen:xs.length=n:=by rw[hxs];simp[hn]
 have hparts:parts.toList=xs.zipIdx.map λp=>(p.2,p.1):=by
  rw[hxs];apply Wb;intro k;simp only[Vy,X4,Vt];cases hk:parts.toList[k]? with
  |none=>rfl
  |some p=>
   have:(p,k)∈parts.toList.zipIdx:=by rw[VD];exact⟨k,by simp[X4,hk]⟩
   have:=A6 (List.all_eq_true.1 hall _ this);simp only at this;simp[<- this]
 obtain⟨inf,z,r1,r2,r3,r4,r5,r6,r7⟩:=kx hck;obtain⟨zc,hzc⟩:∃ zc,zc=(if n*e.size=0 then #[]else z.cells):=⟨_,rfl⟩;obtain⟨cells,f1,f2,f3,_⟩:=GD (a:=a) (size:=e.size) xs 0 ((V0 (n*e.size)).map (zc[· % zc.size]!)) hcell (by simp[hplen]);refine⟨cells,by rw[f2];simp,λj x hx=>by have:=f3 j x hx;rwa[Vt]at this,λw=>?_⟩;have hs:=ca hck w;have hl:¬n*e.size>2^24:=by omega
 have hf:Instr.fill (λi=>some (i*e.size,e.size)) ((V0 (n*e.size)).map (zc[· % zc.size]!)) (parts.map λp=>(p.1,a.eval p.2)).toList=some cells:=by rw[Xw,hparts,X5];exact f1
 by_cases hz:n*e.size=0
 ·rw[if_pos hz]at hzc;subst hzc;simp only[Instr.buildSlice,Sem.run_bind,run_underlying hu,Result.andThen_ok,hs,hz,if_neg (show ¬0>2^24 by omega),if_true,Sem.run_pure];rw[hz]at hf;rw[hf];simp[newRow]
 rw[if_neg hz]at hzc;subst hzc;simp only[Instr.buildSlice,Sem.run_bind,run_underlying hu,Result.andThen_ok,hs,if_neg hl,hz,if_false,Sem.run_pure,zeroValue,typeInfo,run_program,r1,r4];rw[hf];simp[newRow]
theorem CF (hi:Inv C w0 M m){σ : Ty}:∀{vs:List SV} {us:List Value} {p:List (List σ.den)×List Nat},wa m.G σ vs=some p->Rel2 (RelSV m) us vs ->
  p.1.length=us.length/\(∀ i (h:i<p.1.length) u,us[i]?=some u->HdrW m.w m.F u σ p.1[i])/\(∀ id∈p.2,∃ l,m.G.get id=some (.arr σ l)) /\
   (∀ u∈us,∀ b,HB u b->∃ id,id∈p.2/\∃ o,m.G.get id=some o/\isObj o=true/\HB (m.ι id) b)/\(aP p.2=true->kR us)
 |[],[],p,h,_=>by simp only[wa,ov]at h;subst h;exact⟨rfl,by intro i hi;simp at hi,by simp,by simp,λ_=>Wh⟩
 |[],_::_,_,_,h=>h.elim
 |_::_,[],_,_,h=>h.elim
 |v::vs,u::us,p,h,hr=>by
  simp only[wa]at h;split at h
  ·rename_i x hx;split at h
   ·rename_i q hq;simp only[ov]at h;subst h;obtain⟨k1,k2⟩:=D5 hi hx hr.1;obtain⟨i1,i2,i3,i4,i5⟩:=CF hi hq hr.2;have hub:∀ b,HB u b->∃ id,x.2=[id]/\m.G.get id=some (.arr σ x.1)/\HB (m.ι id) b:=by
     intro b hb;rcases k2 with⟨_,e⟩|⟨id,e1,e2,e3⟩
     ·exact absurd hb (e b)
     exact⟨id,e1,e2,e3▸hb⟩
    refine⟨by simp[i1],λi hi' u' hu'=>?_,λid hid=>?_,λu' hu' b hb=>?_,λhn=>?_⟩
    ·cases i with
     |zero=>simp only[Vh,ov]at hu';subst hu';exact k1
     |succ i=>exact i2 i (by simpa using hi') u' (by simpa using hu')
    ·rcases B6.1 hid with hid|hid
     ·rcases k2 with⟨e,_⟩|⟨id',e1,e2,_⟩
      ·rw[e]at hid;simp at hid
      rw[e1]at hid;simp at hid;subst hid;exact⟨_,e2⟩
     exact i3 id hid
    ·rcases A9.1 hu' with rfl|hu'
     ·obtain⟨id,e1,e2,e3⟩:=hub b hb;exact⟨id,by rw[e1];simp,_,e2,rfl,e3⟩
     obtain⟨id,e1,e2⟩:=i4 u' hu' b hb;exact⟨id,by simp[e1],e2⟩
    obtain⟨n1,n2,n3⟩:=bi hn;refine WR (λu' hu' b hb hb'=>?_) (i5 n2);obtain⟨id,e1,e2,e3⟩:=hub b hb;obtain⟨id',e4,o,e5,e6,e7⟩:=i4 u' hu' b hb';have:=hi.inj id id' _ o b e2 rfl e5 e6 e3 e7;subst this;exact n3 id (by rw[e1];simp) e4
   simp at h
  simp at h
theorem II {t et:TypeId}{n:Nat}{parts:Array (Nat×Operand)}{σ : Ty}{p:List (List σ.den)×List Nat}(hi:Inv C w0 M m)(hG:m.G=s.G)(hS:∀ x,RelSV m (a.eval x) (aw C s.env x))(ho:o.op=.buildSlice t n parts)
  (hu:P.underlying t=some (.slice et)) (hck:chk P (.slice σ) none et=true) (hn:n=parts.size) (hn2:n<=16777216) (hlim:n*(Ty.slice σ).size<=16777216) (hall:(parts.toList.zipIdx.all λp=>A3 p.1.1 p.2)=true)
  (hp:wa s.G σ (parts.toList.map λp=>aw C s.env p.2)=some p) (hnd:aP p.2=true)
  (h:dS { env:=s.env,G:=aD p.2 s.G } (o.dst.getD 0) (.deep 0 σ p.1 none) (λi s2=>some (aC o.dst (.av (.ownd i)) s2))=some s'):Does P o a m.w (Res C w0 M m s s' o.dst):=by
 obtain⟨i,hfree,h⟩:=dn h;simp only[ov]at h;rw[<- hG]at hp;have hrel:Rel2 (RelSV m) (parts.toList.map λp=>a.eval p.2) (parts.toList.map λp=>aw C s.env p.2):=by
  generalize parts.toList=l;induction l with
  |nil=>trivial
  |cons q l ih=>exact⟨hS q.2,ih⟩
 obtain⟨k1,k2,k3,k4,k5⟩:=CF hi hp hrel;have k5:=k5 hnd;have hone:∀ x∈parts.toList.map (·.2),(a.eval x).cells=#[a.eval x]:=by
  intro x hx;obtain⟨j,hj⟩:=VD.1 hx;simp only[Vy,Wq]at hj;obtain⟨q,hq,rfl⟩:=hj;have hjl:j<p.1.length:=by rw[k1];simpa using(tz.1 hq).1
  exact zJ (cI (k2 j hjl (a.eval q.2) (by simp[hq])))
 obtain⟨cells,c1,c2,c3⟩:=Gr (a:=a) (e:=.slice σ) hu hck hn hlim hall (λx hx=>by rw[hone x hx];rfl);obtain⟨d1,d2,d3,d4⟩:=wF p.2 hi (λid hid=>by obtain⟨l,hl⟩:=k3 id hid;exact⟨_,hl⟩);have hplen:p.1.length=n:=by rw[k1,hn];simp
 obtain⟨m',q1,q2,q3,q4,q5⟩:=Gh (m:=⟨m.w,m.F,m.ι,aD p.2 m.G⟩) (τ:=σ) (l:=p.1) (hs:=parts.toList.map λp=>a.eval p.2) (cap:=n) (fz:=(0,0)) d1 (i:=i) (by show(aD p.2 m.G).get i=none;rw[hG];exact hfree)
  (w1:=m.w.alloc (.cells cells et)) (oB m.w _) (c:=cells) (el:=et) (gr m.w _) (.inl (B5 _)) (by omega) (by unfold maxLen;omega) (by rw[c1];simp[Ty.size]) k1.symm (λk hk=>by
   have hk':k<parts.toList.length:=by rw[k1]at hk;simpa using hk
   have e1:=c2 k parts.toList[k].2 (by simp[bx hk']);simp only[Ty.size,Wx]at e1;have e2:=seg_getElem? cells k 1 0 (by omega);rw[e1,hone _ (List.mem_map.2 ⟨_,List.getElem_mem hk',rfl⟩),VR]at e2;rw[<- e2];simp[bx hk']) k2 k5 (λv hv b hb=>by
    obtain⟨id,e1,ob,e2,e3,e4⟩:=k4 v hv b hb;exact d4 id e1 ob e2 e3 b e4)
 refine Does.value (w':=m'.w) (v:=.slice (some ⟨m.w.heap.size,0,none⟩) n n) ?_ ⟨m',.av (.ownd i),rfl,?_,q3,d2.trans q4,by rw[hplen]at q5;exact q5⟩
 ·simp[execOp,ho,c3,q1]
 rw[<- h,q2,hG]
theorem G4 {t:TypeId}{n:Nat}{parts:Array (Nat×Operand)}(hT:eL P C.tab=true)(hi:Inv C w0 M m)(hG:m.G=s.G)(hS:∀ x,RelSV m (a.eval x) (aw C s.env x))(ho:o.op=.buildSlice t n parts)
  (h:ax C o s some=some s'):Does P o a m.w (Res C w0 M m s s' o.dst):=by
 simp only[ax,ho]at h;split at h
 ·rename_i e ht;obtain⟨et,hu,hck⟩:=bh (ah hT ht);cases hc:(A3 n parts.size&&VK n 16777216&&VK (n*e.size) 16777216&&(parts.toList.zipIdx.all λp=>A3 p.1.1 p.2))with
  |false=>rw[hc]at h;simp at h
  |true=>
   rw[hc]at h;simp only[U3]at h;simp only[sg]at hc;obtain⟨⟨⟨hn,hn2⟩,hlim⟩,hall⟩:=hc;have hn2:=Vi hn2;have hn:=A6 hn;have hlim:=Vi hlim;cases hd:(C.deep.any λd=>A3 d (o.dst.getD 0))with
   |true=>
    rw[hd]at h;simp only[U3]at h;split at h
    ·rename_i σ _;split at h
     ·rename_i p hp;cases hnd:aP p.2 with
      |false=>rw[hnd]at h;simp at h
      |true=>rw[hnd]at h;exact II hi hG hS ho hu hck hn hn2 hlim hall hp hnd h
     simp at h
    simp at h
   |false=>
    rw[hd]at h;simp only[U4]at h;split at h
    ·rename_i l hl;obtain⟨i,hfree,h⟩:=dn h;obtain⟨m1,a1,a2,a3,a4,a5,a6⟩:=jg (parts.toList.flatMap λp=>jv s.G (aw C s.env p.2)) hi;obtain⟨hl1,hl2⟩:=BY hl;have hval:∀ j (hj:j<l.length),∃ x,(parts.toList.map (·.2))[j]?=some x/\Rd m1.w m1.F e (a.eval x).cells.toList l[j]:=by
      intro j hj;obtain⟨v,v1,v2⟩:=hl2 j hj;simp only[Vy,Wq]at v1;obtain⟨p,p1,rfl⟩:=v1;refine⟨p.2,by simp[p1],?_⟩;obtain⟨cs,c1,c2⟩:=jB hi (hG▸v2) (hS p.2);rw[c1,zQ c2];have:Rd m1.w m1.F e cs l[j]:=by refine c2.mono (λb hb=>⟨a6 b ?_,by rw[a1]⟩);refine Thru.mono ?_ hb;intro k hk;rw[List.mem_flatMap];exact⟨p,B9 p1,hG▸hk⟩
      simpa using this
     have hcell:∀ x∈parts.toList.map (·.2),(a.eval x).cells.size=e.size:=by
      intro x hx;obtain⟨j,hj⟩:=VD.1 hx;have hjl:j<l.length:=by have:=(tz.1 hj).1;rw[hl1];simpa using this
      obtain⟨y,y1,y2⟩:=hval j hjl;rw[hj]at y1;simp only[ov]at y1;subst y1;have:=y2.len;simpa using this
     have hllen:l.length=n:=by rw[hl1];simp[hn]
     obtain⟨cells,f2',f3,hrun⟩:=Gr (a:=a) hu hck hn hlim hall hcell;obtain⟨m',q1,q2,q3,q4,q5⟩:=zB (τ:=e) (l:=l) (cap:=n) (fz:=(0,0)) a4 (i:=i) (by rw[a3,hG];exact hfree) (w1:=m1.w.alloc (.cells cells et)) (oB m1.w _) (c:=cells) (el:=et) (gr m1.w _) (.inl (B5 _)) (by omega)
      (by unfold maxLen;omega) (by omega) (λj hj=>by
       obtain⟨x,x1,x2⟩:=hval j hj;rw[f3 j x x1];exact x2)
     refine Does.value (w':=m'.w) (v:=.slice (some ⟨m.w.heap.size,0,none⟩) n n) ?_ ⟨m',.av (.own i),rfl,?_,q3,a5.trans q4,by rw[hllen,a1]at q5;exact q5⟩
     ·simp[execOp,ho,hrun,q1,a1]
     simp only[ov]at h;rw[<- h,q2,a3,hG]
    simp at h
 simp at h
end
end Go.Vm

/-
 The machine's operations against the model's: parts of slices.
-/
namespace Go.Vm
section
variable {P:Program}{C:Ctx}{w0:World}{M:Own}{o:Oper}{a:Act}{m:Mem}{s s':St}
def qZ(x:Option Value)(d i:Int):Prop:=(x=none/\i=d)\/∃ k,x=some (.int k i)
theorem Oq {R:Type}{d:Int}{x:Option Operand}{K:Int->Option R}{r:R}(hS:∀ x,RelSV m (a.eval x) (aw C s.env x))(h:Ow C s.env d x K=some r) :
  ∃ i,K i=some r/\qZ (x.map a.eval) d i:=by
 cases x with
 |none=>exact⟨d,h,.inl ⟨rfl,rfl⟩⟩
 |some x=>simp only[Ow]at h;obtain⟨k,i,h1,h2⟩:=rD h;have hx:=hS x;rw[h1]at hx;exact⟨i,h2,.inr ⟨k,by simp[(gM hx).1]⟩⟩
theorem GK (sl:Bool)(len cap:Nat){low high:Option Value}{l h:Int}(hl:qZ low 0 l)(hh:qZ high len h)(h1:0<=l)(h2:l<=h)(h3:h<=len)(h4:len<=cap)(w:World) :
  (Instr.sliceBounds sl len cap low high none).run P w=.ok (l.toNat,h.toNat,cap) w:=by
 have e1:(0:Int)<=h/\h<=cap:=by omega
 have e2:(0:Int)<=l/\l<=(h.toNat:Int):=by omega
 rcases hh with⟨rfl,rfl⟩|⟨k,rfl⟩<;>rcases hl with⟨rfl,rfl⟩|⟨k',rfl⟩
 ·simp[Instr.sliceBounds]
 ·have e3:(0:Int)<=l/\l<=(len:Int):=by omega
  simp[Instr.sliceBounds,Instr.sliceBound,asIntOf,e3]
 ·simp[Instr.sliceBounds,Instr.sliceBound,asIntOf,e1]
 simp only[Instr.sliceBounds,Instr.sliceBound,asIntOf,Sem.run_bind,Sem.run_pure,Result.andThen_ok,if_pos e1,if_pos e2]
theorem AZ{n:Nat}{lo hi:Int}{p:Nat×Nat}(h:Kb n lo hi=some p):0<=lo/\lo<=hi/\hi<=n/\p=(lo.toNat,hi.toNat-lo.toNat):=by
 unfold Kb at h;split at h
 ·simp at h;rename_i hc;exact⟨hc.1,hc.2.1,hc.2.2,h.symm⟩
 simp at h
theorem lJ {t et:TypeId}{e:Ty}(hu:P.underlying t=some (.slice et))(hck:chk P e none et=true)(ad:Option Addr)(len cap:Nat){low high:Option Value}{l h:Int}
  (hl:qZ low 0 l) (hh:qZ high len h) (h1:0<=l) (h2:l<=h) (h3:h<=len) (h4:len<=cap) (w:World) :
  (Instr.sliceAt t (.slice ad len cap) low high none).run P w=.ok (.slice (if cap=l.toNat then ad else ad.map (·.add (l.toNat*e.size))) (h.toNat-l.toNat) (cap-l.toNat)) w:=by
 simp[Instr.sliceAt,Instr.slice,run_underlying hu,GK (P:=P) true len cap hl hh h1 h2 h3 h4,ca hck]
theorem Ew {t:TypeId}(hu:P.underlying t=some .string)(b:ByteArray){low high:Option Value}{l h:Int}
  (hl:qZ low 0 l) (hh:qZ high b.size h) (h1:0<=l) (h2:l<=h) (h3:h<=b.size) (w:World) :
  (Instr.sliceAt t (.string b) low high none).run P w=.ok (.string (b.extract l.toNat h.toNat)) w:=by
 simp[Instr.sliceAt,Instr.slice,run_underlying hu,GK (P:=P) false b.size b.size hl hh h1 h2 h3 (B5 _)]
theorem GI{size len cap:Nat}{ad:Option Addr}{lo n:Nat}:EU (.slice ad len cap) size lo n (.slice (if cap=lo then ad else ad.map (·.add (lo*size))) n (cap-lo)):=by refine⟨ad,len,cap,_,rfl,rfl,λh=>?_⟩;rw[if_neg h]
theorem Jw {v:Value}{size off len lo n cap:Nat}{ad:Option Addr}(had:∀ a,ad=some a->∃ b o,a=⟨b,o,none⟩){v0:Value}(l0:Nat)(h0:v0=.slice ad l0 cap)(hle:off+len<=cap)(hlo:lo<=len)
  {u:Value} (h1:EU v0 size off len u) (a':Option Addr) (cap':Nat) (hu:u=.slice a' len cap') :
  EU v0 size (off+lo) n (.slice (if cap'=lo then a' else a'.map (·.add (lo*size))) n (cap'-lo)):=by
 subst h0;obtain⟨ad1,n1,cap1,ad2,e1,e2,e3⟩:=h1;simp only[Value.slice.injEq]at e1;obtain⟨rfl,rfl,rfl⟩:=e1;rw[hu]at e2;simp only[Value.slice.injEq]at e2;obtain⟨rfl,_,rfl⟩:=e2;refine⟨ad,l0,cap,_,rfl,by rw[Nat.sub_sub],λh=>?_⟩;rw[if_neg (by omega),e3 (by omega)];cases ad with
 |none=>rfl
 |some x=>obtain⟨b,o,rfl⟩:=had x rfl;simp only[VZ,du];rw[L6,VS]
theorem GW{α:Type}(l:List α)(i j:Nat)(h:i<=j):(l.take j).drop i=(l.drop i).take (j-i):=by rw[WZ]
theorem uw {t:TypeId}{x:Operand}{lo hi':Option Operand}{v r:Value}{w:World}(ho:o.op=.slice t x lo hi' none)(hx:a.eval x=v)
  (h:(Instr.sliceAt t v (lo.map a.eval) (hi'.map a.eval) none).run P w=.ok r w):(execOp a.eval o).run P w=.ok (.value r) w:=by
 simp only[execOp,ho,hx,Option.map_none];simp[h]
theorem Qe {t:TypeId}{x:Operand}{v:SV}(hv:aw C s.env x=v){lo hi':Option Operand}{l:Int}{h0:Option Int}(hT:eL P C.tab=true)(hi:Inv C w0 M m)(hG:m.G=s.G)
  (hx:RelSV m (a.eval x) v) (ho:o.op=.slice t x lo hi' none) (hl:qZ (lo.map a.eval) 0 l) (hh:∀ d:Nat,qZ (hi'.map a.eval) d (h0.getD d)) (hty:ri C t s.G v=true)
  (h:pH s v l h0 none (λv=>some (aC o.dst v s))=some s'):Does P o a m.w (Res C w0 M m s s' o.dst):=by
 unfold pH at h;split at h
 ·rename_i b hq;obtain⟨hx,hb⟩:=xl hx;unfold ri at hty;split at hty<;>try (simp_all;done)
  rename_i ht _;have hu:=qT (ah hT ht);obtain⟨r,hr,h⟩:=A8.1 h;unfold vB at hr;split at hr
  ·rename_i hc;simp only[ov]at hr;subst hr;obtain⟨c1,c2,c3⟩:=hc;have hrun:=Ew (P:=P) hu b hl (hh _) c1 c2 c3 m.w;refine az hi hG (uw ho hx hrun) (Fm ?_) h;rw[ByteArray.size_extract];omega
  simp at hr
 ·rename_i e xs hq;obtain⟨ad,cap,hx,r1,r2,r3⟩:=tD hx;unfold ri at hty;split at hty<;>try (simp_all;done)
  rename_i e1 e2 xs2 ht hq2;simp only[SV.av.injEq,Atom.val.injEq,Ty.slice.injEq]at hq2;obtain⟨rfl,hq2⟩:=hq2;have hty:=of_decide_eq_true hty;subst hty;obtain⟨et,hu,hck⟩:=bh (ah hT ht);obtain⟨r,hr,h⟩:=A8.1 h;unfold uA at hr;split at hr
  ·rename_i hc;simp only[ov]at hr;subst hr;obtain⟨c1,c2,c3⟩:=hc;have hrun:=lJ (P:=P) hu hck ad xs.length cap hl (hh _) c1 c2 c3 r1 m.w;refine az hi hG (uw ho hx hrun) ?_ h;have:=M8 (w:=m.w) (F:=m.F) (τ:=e1) (l:=xs) (v:=.slice ad xs.length cap) ⟨ad,cap,rfl,r1,r2,r3⟩ (off:=l.toNat) (len:=(h0.getD xs.length).toNat-l.toNat) (by omega) GI;rw[GW _ _ _ (by omega)];exact⟨[_],rfl,this⟩
  simp at hr
 ·rename_i hq;simp at hq
 ·obtain⟨ad,hx⟩:=hx;unfold ri at hty;split at hty<;>try (simp_all;done)
  rename_i e1 ht _;obtain⟨et,hu,hck⟩:=bh (ah hT ht);split at h
  ·rename_i hc;obtain⟨rfl,hc⟩:=hc;have hb:qZ (hi'.map a.eval) ((0:Nat):Int) 0:=by have:=hh 0;rw[show h0.getD ((0:Nat):Int)=0 from hc]at this;exact this
   have hrun:=lJ (P:=P) hu hck ad 0 0 hl hb (by omega) (by omega) (by omega) (by omega) m.w;exact az hi hG (v:=.slice ad 0 0) (sv:=.av (.nils _)) (uw ho hx.1 hrun) ⟨ad,rfl,hx.2⟩ h
  simp at h
 ·rename_i id hq;obtain⟨_,ob,hob,hxv⟩:=hx;rw[hG]at hob;split at h
  ·rename_i e xs hg;rw[hg]at hob;simp only[ov]at hob;subst hob;have hxw:=hxv rfl;obtain⟨ad,cap,r1,r2,r3,r4⟩:=hi.objs id _ (hG▸hg);unfold ri at hty;split at hty<;>try (simp_all;done)
   rename_i e1 id2 ht hq2;simp only[SV.av.injEq,Atom.own.injEq]at hq2;subst hq2;rw[hg]at hty;have hty:=of_decide_eq_true hty;subst hty;obtain⟨et,hu,hck⟩:=bh (ah hT ht);obtain⟨p,hp,h⟩:=A8.1 h;obtain⟨c1,c2,c3,rfl⟩:=AZ hp;rw[r1]at hxw;have hrun:=lJ (P:=P) hu hck ad xs.length cap hl (hh _) c1 c2 c3 r2 m.w;refine az hi hG (uw ho hxw hrun) ?_ h;refine(au (m:=m) (a:=.view id _ _) (by intros;simp)).2 ⟨rfl,.arr e1 xs,hG▸hg,?_,?_⟩
   ·simp only;omega
   rw[r1];exact GI
  simp at h
 ·rename_i id off len hq;obtain⟨_,ob,hob,hxv⟩:=hx;rw[hG]at hob;unfold ri at hty;split at hty<;>try (simp_all;done)
  rename_i e1 id2 o2 n2 ht hq2;simp only[SV.av.injEq,Atom.view.injEq]at hq2;obtain⟨rfl,rfl,rfl⟩:=hq2;split at hty
  ·rename_i e xs hg;rw[hg]at hob;simp only[ov]at hob;subst hob;have hty:=of_decide_eq_true hty;subst hty;obtain⟨et,hu,hck⟩:=bh (ah hT ht);obtain⟨ad,cap,r1,r2,r3,r4⟩:=hi.objs id _ (hG▸hg);simp only at hxv;obtain⟨hle,hview⟩:=hxv;obtain⟨p,hp,h⟩:=A8.1 h;obtain⟨c1,c2,c3,rfl⟩:=AZ hp;have hv0:=hview;obtain⟨ad1,n1,cap1,ad2,k1,k2,k3⟩:=hview;rw[r1]at k1;simp only[Value.slice.injEq]at k1;obtain⟨rfl,rfl,rfl⟩:=k1;have hrun:=lJ (P:=P) hu hck ad2 len (cap-off) hl (hh _) c1 c2 c3 (by omega) m.w;refine az hi hG (uw ho k2 hrun) ?_ h;refine(au (m:=m) (a:=.view id _ _) (by intros;simp)).2 ⟨rfl,.arr e1 xs,hG▸hg,?_,?_⟩
   ·simp only;omega
   rw[r1];by_cases hc0:cap=0
   ·subst hc0;have:off=0:=by omega
    subst this;have hl0:len=0:=by omega
    refine⟨ad,xs.length,0,_,rfl,by rw[show 0-0-l.toNat=0-(0+l.toNat)from by omega],λh=>absurd h (by simp only;omega)⟩
   refine Jw (v:=a.eval x) (ad:=ad) ?_ xs.length rfl (by omega) (by omega) (r1▸hv0) ad2 (cap-off) k2;intro ad' had;obtain⟨b,off',_,_,_,q1,_⟩:=r4 hc0;rw[q1]at had;simp only[ov]at had;exact⟨b,off',had.symm⟩
  simp at hty
 ·rename_i hq;cases hq
 simp at h
theorem Pz {t:TypeId}{x:Operand}{lo hi' mx:Option Operand}(hT:eL P C.tab=true)(hi:Inv C w0 M m)(hG:m.G=s.G)(hS:∀ x,RelSV m (a.eval x) (aw C s.env x))(ho:o.op=.slice t x lo hi' mx)
  (h:ax C o s some=some s'):Does P o a m.w (Res C w0 M m s s' o.dst):=by
 simp only[ax,ho]at h;have hx:=hS x;obtain⟨l,h,hl⟩:=Oq hS h;cases hty:ri C t s.G (aw C s.env x)with
 |false=>rw[hty]at h;simp at h
 |true=>
  rw[hty]at h;simp only[Bool.not_true,U4]at h;cases hi' with
  |none=>cases mx with
   |none=>exact Qe rfl (h0:=none) hT hi hG hx ho hl (λd=>.inl ⟨rfl,rfl⟩) hty h
   |some _=>simp at h
  |some hx'=>cases mx with
   |none=>
   obtain⟨k,i,h1,h2⟩:=rD h;have hh:=hS hx';rw[h1]at hh;exact Qe rfl (h0:=some i) hT hi hG hx ho hl (λd=>.inr ⟨k,by simp[(gM hh).1]⟩) hty h2
   |some mx'=>
   obtain⟨k,i,h1,h2⟩:=rD h;obtain⟨k',i',h3,h4⟩:=rD h2;have hh:=hS hx';rw[h1]at hh;have hm:=hS mx';rw[h3]at hm;have hh:=(gM hh).1;have hm:=(gM hm).1;generalize aw C s.env x=v at h4 hx hty;unfold pH at h4;split at h4<;>try (cases ‹some _=none›;done)
   ·rename_i e xs he;simp only[ov]at he;subst he;split at h4
    ·rename_i hc;obtain⟨rfl,hc⟩:=hc;simp only[ov]at hc;subst hc;obtain⟨ad,cap,hxv,r1,r2,r3⟩:=tD hx;unfold ri at hty;split at hty<;>try (simp_all;done)
     rename_i e1 e2 xs2 ht hq2;obtain⟨et,hu,hck⟩:=bh (ah hT ht);have hs:=ca hck m.w;refine az hi hG (v:=.slice ad 0 0) (sv:=.av (.nils false)) ?_ ⟨ad,rfl,by simp⟩ h4;rcases hl with⟨hl,_⟩|⟨k2,hl⟩
     ·simp[execOp,ho,hxv,hl,hh,hm,Instr.sliceAt,Instr.slice,run_underlying hu,Instr.sliceBounds,Instr.sliceBound,asIntOf,hs]
     simp[execOp,ho,hxv,hl,hh,hm,Instr.sliceAt,Instr.slice,run_underlying hu,Instr.sliceBounds,Instr.sliceBound,asIntOf,hs]
    simp at h4
   ·rename_i id mx2 he;simp only[ov]at he;subst he;obtain⟨_,ob,hob,hxv⟩:=hx;rw[hG]at hob;split at h4
    ·rename_i e xs hg;rw[hg]at hob;simp only[ov]at hob;subst hob;have hxw:=hxv rfl;unfold ri at hty;split at hty<;>try (simp_all;done)
     rename_i e1 id2 ht hq2;simp only[SV.av.injEq,Atom.own.injEq]at hq2;subst hq2;rw[hg]at hty;have hty:=of_decide_eq_true hty;subst hty;obtain⟨et,hu,hck⟩:=bh (ah hT ht);obtain⟨p,hp,h4⟩:=A8.1 h4;obtain⟨c1,c2,c3,rfl⟩:=AZ hp;split at h4
     ·rename_i hc;obtain⟨hc1,hc2⟩:=hc;simp only[ov]at hc1;subst hc1;obtain⟨b,off,cap,c,el,fz,r1,r2,r3,r4,r5,r6,r7,r8,r9⟩:=Be hi (hG▸hg) (j:=l.toNat) (by omega);obtain⟨ad',cap',u1,u2,_,_⟩:=hi.objs id _ (hG▸hg);rw[r1]at hxw u1;simp only[Value.slice.injEq]at u1;obtain⟨_,_,rfl⟩:=u1;refine az hi hG (v:=.slice (some ⟨b,off+l.toNat*e1.size,none⟩) (i.toNat-l.toNat) (i.toNat-l.toNat)) ?_
       ((au (m:=m) (a:=.cut id _ _) (by intros;simp)).2 ⟨rfl,.arr e1 xs,hG▸hg,by omega,by omega,b,off,xs.length,cap,r1,rfl⟩) h4
      have b1:(0:Int)<=i/\i<=(cap:Int):=by omega
      have b2:(0:Int)<=i/\i<=(i.toNat:Int):=by omega
      have b3:(0:Int)<=l/\l<=(i.toNat:Int):=by omega
      have b4:¬i.toNat=l.toNat:=by omega
      have b6:max i 0=i:=by omega
      have b5:¬i.toNat-l.toNat=0:=by omega
      have hs:=ca hck m.w;rcases hl with⟨hl,rfl⟩|⟨k2,hl⟩
      ·simp[execOp,ho,hxw,hl,hh,hm,Instr.sliceAt,Instr.slice,run_underlying hu,Instr.sliceBounds,Instr.sliceBound,asIntOf,hs,b1,b2,b6,du]
      simp[execOp,ho,hxw,hl,hh,hm,Instr.sliceAt,Instr.slice,run_underlying hu,Instr.sliceBounds,Instr.sliceBound,asIntOf,hs,b1,b2,b3,b4,b5,b6,du];intro hx;omega
     simp at h4
    simp at h4
   simp at h4
end
end Go.Vm

/-
 The machine's operations against the model's: append.
-/
namespace Go.Vm
section
variable {P:Program}{C:Ctx}{w0:World}{M:Own}{o:Oper}{a:Act}{m:Mem}{s s':St}
theorem N9 (hi:Inv C w0 M m){id i:Nat}{o o':Obj}{b:Nat}(hg:m.G.get id=some o)(hob:isObj o=true)(hbl:HB (m.ι id) b)(hn:Heap.get ((id,.dead) :: m.G) i=none)
  {w1:World} (hw:Wrote m.w b w1) {h:Value} (hh:∀ b',HB h b'↔b'=b)
  (ho:Evo m ⟨w1,m.F,λk=>if k=i then h else m.ι k,(i,o')::(id,.dead)::m.G⟩->jc ⟨w1,m.F,λk=>if k=i then h else m.ι k,(i,o')::(id,.dead)::m.G⟩ i o') :
  Inv C w0 M ⟨w1,m.F,λk=>if k=i then h else m.ι k,(i,o')::(id,.dead)::m.G⟩/\Evo m ⟨w1,m.F,λk=>if k=i then h else m.ι k,(i,o')::(id,.dead)::m.G⟩:=by
 obtain⟨hb1,hb2,hb3⟩:=hi.own id o b hg hob hbl;have hii:i≠id:=by intro e;subst e;rw[Heap.get_cons,if_pos rfl]at hn;cases hn
 have hn':m.G.get i=none:=by rw[Heap.get_cons,if_neg (Ne.symm hii)]at hn;exact hn
 have get3:∀ k,Heap.get ((i,o')::(id,.dead)::m.G) k=if i=k then some o' else if id=k then some .dead else m.G.get k:=by intro k;rw[Heap.get_cons,Heap.get_cons]
 have he:Evo m ⟨w1,m.F,λk=>if k=i then h else m.ι k,(i,o')::(id,.dead)::m.G⟩:=by
  refine⟨λk hF=>⟨hF,hw.block k (λe=>hb2 (e▸hF))⟩,λk p hp=>?_⟩;have hik:i≠k:=by intro e;subst e;rw[hn']at hp;cases hp
  by_cases e:id=k
  ·exact⟨.dead,by show Heap.get ((i,o')::(id,.dead)::m.G) k=_;rw[get3,if_neg hik,if_pos e],.inl rfl⟩
  exact⟨p,by show Heap.get ((i,o')::(id,.dead)::m.G) k=_;rw[get3,if_neg hik,if_neg e];exact hp,.inr (.inl ⟨by simp[Ne.symm hik],Alike.refl p⟩)⟩
 refine⟨⟨?_,?_,?_,?_,?_,?_,hi.bnd,dB he hi.pin⟩,he⟩
 ·refine⟨hw.os.trans hi.kept.os,hw.tape.trans hi.kept.tape,hw.output.trans hi.kept.output,by rw[hw.size];exact hi.kept.size,λk hk hM=>?_⟩;refine(hw.block k ?_).trans (hi.kept.block k hk hM);intro e;subst e
  rcases hb1 with hb1|hb1
  ·omega
  exact hM hb1
 ·intro k p hp;change Heap.get ((i,o')::(id,.dead)::m.G) k=_ at hp;rw[get3]at hp;split at hp
  ·rename_i e;subst e
   simp only[ov]at hp;subst hp;exact ho he
  rename_i hik;split at hp
  ·simp only[ov]at hp;subst hp;trivial
  rename_i hne;by_cases hop:isObj p=true
  ·refine eh he (by simp[Ne.symm hik]) (λb' hb'=>hw.block b' ?_) (hi.objs k p hp);intro e;subst e
   exact hne (hi.inj id k o p b' hg hob hp hop hbl hb')
  cases p<;>simp_all[isObj,jc]
 ·intro k p b' hp hop hbl';change Heap.get ((i,o')::(id,.dead)::m.G) k=_ at hp;rw[get3]at hp;have:(w0.heap.size<=b'\/M b')/\¬m.F b'/\b'<m.w.heap.size:=by
   split at hp
   ·rename_i e;subst e
    have:b'=b:=(hh b').1 (by simpa using hbl');subst this;exact⟨hb1,hb2,hb3⟩
   rename_i hik;split at hp
   ·simp only[ov]at hp;subst hp;simp[isObj]at hop
   exact hi.own k p b' hp hop (by simpa[Ne.symm hik]using hbl')
  exact⟨this.1,this.2.1,by show b'<w1.heap.size;rw[hw.size];exact this.2.2⟩
 ·have one:∀ k p b',(if i=k then some o' else if id=k then some .dead else m.G.get k)=some p->isObj p=true->HB (if k=i then h else m.ι k) b' ->
    (k=i/\b'=b)\/(k≠i/\k≠id/\m.G.get k=some p/\HB (m.ι k) b'):=by
   intro k p b' hp hop hb';split at hp
   ·rename_i e;subst e
    rw[if_pos rfl]at hb';exact .inl ⟨rfl,(hh b').1 hb'⟩
   rename_i hik;rw[if_neg (Ne.symm hik)]at hb';split at hp
   ·simp only[ov]at hp;subst hp;simp[isObj]at hop
   rename_i hne;exact .inr ⟨Ne.symm hik,Ne.symm hne,hp,hb'⟩
  intro j k p q b' hp hop hq hoq h1 h2;change Heap.get ((i,o')::(id,.dead)::m.G) _=_ at hp hq;rw[get3]at hp hq;rcases one j p b' hp hop h1 with⟨rfl,rfl⟩|⟨j1,j2,j3,j4⟩<;>rcases one k q _ hq hoq h2 with⟨rfl,k0⟩|⟨k1,k2,k3,k4⟩
  ·rfl
  ·exact absurd (hi.inj k id q o _ k3 hoq hg hob k4 hbl) k2
  ·subst k0;exact absurd (hi.inj j id p o _ j3 hop hg hob j4 hbl) j2
  exact hi.inj j k p q b' j3 hop k3 hoq j4 k4
 ·intro b' hF;show b'<w1.heap.size;rw[hw.size];exact hi.fro b' hF
 intro g τ x hx;exact(hi.glob g τ x hx).mono he.fro
def xL(w:World)(F:Nat->Prop)(e:Ty)(cs:List Value)(l:List e.den):Prop:=
 cs.length=l.length*e.size/\∀ i (h:i<l.length),Rd w F e ((cs.drop (i*e.size)).take e.size) l[i]
theorem Db{w:World}{F:Nat->Prop}{e:Ty}{cs:List Value}{l:List e.den}(h:xL w F e cs l):∀ u∈cs,u.oneCell'=true:=by
 intro u hu;obtain⟨j,hj⟩:=VD.1 hu;have hjl:j<cs.length:=(tz.1 hj).1;have hs:0<e.size:=by
  rcases W8 e.size with h0|h0
  ·rw[h.1,h0,YW]at hjl;omega
  exact h0
 have hi:j/e.size<l.length:=by rw[X6 hs];rw[<- h.1];exact hjl
 refine(h.2 _ hi).one u ?_;rw[VD];refine⟨j%e.size,?_⟩;rw[Vc,if_pos (Y6 _ hs),V3,YX,YG];exact hj
theorem Dj {w:World}{F:Nat->Prop}{e:Ty}{c:Array Value}{off:Nat}{l:List e.den}(hc:off+l.length * e.size<=c.size)(h:∀ i (h:i < l.length),Rd w F e (seg c (off+i * e.size) e.size) l[i]) :
  xL w F e (seg c off (l.length*e.size)) l:=by
 refine⟨mp _ _ _ hc,λi hi=>?_⟩;have hle:i*e.size+e.size<=l.length*e.size:=by have:=B3 e.size (show i+1<=l.length from hi);rw[L6]at this;omega
 have:((seg c off (l.length*e.size)).drop (i*e.size)).take e.size=seg c (off+i*e.size) e.size:=nP c.toList off _ _ _ hle;rw[this];exact h i hi
theorem Cp {w:World}{F:Nat->Prop}{e:Ty}{c1 c2 rest:List Value}{l1 l2:List e.den}(h1:xL w F e c1 l1)(h2:xL w F e c2 l2) :
  ∀ i (h:i<(l1++l2).length),Rd w F e (((c1++c2++rest).drop (i*e.size)).take e.size) (l1++l2)[i]:=by
 intro i hi;rw[U6]at hi;by_cases hl:i<l1.length
 ·have hle:i*e.size+e.size<=l1.length*e.size:=by have:=B3 e.size (show i+1<=l1.length from hl);rw[L6]at this;omega
  rw[VW hl];have:((c1++c2++rest).drop (i*e.size)).take e.size=(c1.drop (i*e.size)).take e.size:=by rw[Vv,XE (by rw[h1.1];omega),Wt (by rw[Wn,h1.1];omega)]
  rw[this];exact h1.2 i hl
 rw[VN (by omega)];have hj:i-l1.length<l2.length:=by omega
 have hle:(i-l1.length)*e.size+e.size<=l2.length*e.size:=by have:=B3 e.size (show i-l1.length+1<=l2.length from hj);rw[L6]at this;omega
 have hmul:i*e.size=c1.length+(i-l1.length)*e.size:=by rw[h1.1,<- L6];congr 1;omega
 have:((c1++c2++rest).drop (i*e.size)).take e.size=(c2.drop ((i-l1.length)*e.size)).take e.size:=by rw[Vv,hmul,<- XH,WK,XE (by rw[h2.1];omega),Wt (by rw[Wn,h2.1];omega)]
 rw[this];exact h2.2 _ hj
def Hdr(m:Mem)(u:Value)(e:Ty)(l:List e.den):Prop:=
 ∃ ad cap,u=.slice ad l.length cap/\l.length<=cap/\cap<=maxLen /\
  (cap≠0->∃ b off c el fz,ad=some ⟨b,off,none⟩/\m.w.heap[b]?=some (.cells c el fz)/\uu e c.size fz/\off+cap*e.size<=c.size /\
   ∀ i (h:i<l.length),Rd m.w m.F e (seg c (off+i*e.size) e.size) l[i])
theorem yY (hi:Inv C w0 M m)(hG:m.G=s.G){e:Ty}{v:SV}{l:List e.den}{ids:List Nat}{u:Value}(h:sL s e v=some (l,ids))(hr:RelSV m u v) :
  Hdr m u e l/\((ids=[]/\∃ ad,u=.slice ad 0 0)\/∃ id o,ids=[id]/\m.G.get id=some o/\isObj o=true/\((∀ b,HB u b->HB (m.ι id) b)\/∃ ad n,u=.slice ad n 0)):=by
 unfold sL at h;split at h
 ·simp only[ov,B4]at h;obtain⟨rfl,rfl⟩:=h;obtain⟨ad,rfl,_⟩:=hr;exact⟨⟨ad,0,rfl,by simp,by unfold maxLen;omega,λh=>absurd rfl h⟩,.inl ⟨rfl,ad,rfl⟩⟩
 ·rename_i id;split at h
  ·rename_i σ l0 hg;split at h
   ·rename_i l' hl;simp only[ov,B4]at h;obtain⟨rfl,rfl⟩:=h;obtain⟨he,hl⟩:=aI hl;cases he;subst hl;obtain⟨_,ob,hob,hv⟩:=hr;rw[hG,hg]at hob;simp only[ov]at hob;subst hob;have hv:=hv rfl;subst hv;exact⟨show jc m id (.arr e l0)from hi.objs id _ (hG▸hg),.inr ⟨id,_,rfl,hG▸hg,rfl,.inl λ_ h=>h⟩⟩
   simp at h
  simp at h
 ·rename_i id off len;split at h
  ·rename_i σ l0 hg;split at h
   ·rename_i l' hl;simp only[ov,B4]at h;obtain⟨rfl,rfl⟩:=h;obtain⟨he,hl⟩:=aI hl;cases he;subst hl;obtain⟨_,ob,hob,hv⟩:=hr;rw[hG,hg]at hob;simp only[ov]at hob;subst hob;obtain⟨hle,hview⟩:=hv;obtain⟨ad,cap,r1,r2,r3,r4⟩:=hi.objs id _ (hG▸hg);obtain⟨ad1,n1,cap1,ad2,k1,k2,k3⟩:=hview;rw[r1]at k1;simp only[Value.slice.injEq]at k1;obtain⟨rfl,rfl,rfl⟩:=k1;have hlen:((l0.drop off).take len).length=len:=by simp;omega
    refine⟨⟨ad2,cap-off,by rw[hlen,k2],by rw[hlen];omega,by omega,λhne=>?_⟩,.inr ⟨id,_,rfl,hG▸hg,rfl,?_⟩⟩
    ·obtain⟨b,o',c,el,fz,q1,q2,q3,q4,q5⟩:=r4 (by omega);refine⟨b,o'+off*e.size,c,el,fz,by rw[k3 (by omega),q1];simp[du],q2,q3,?_,λi hi'=>?_⟩
     ·have:off*e.size+(cap-off)*e.size=cap*e.size:=by rw[<- L6];congr 1;omega
      omega
     rw[hlen]at hi';have:=q5 (off+i) (by omega);rw[show o'+off*e.size+i*e.size=o'+(off+i)*e.size by rw[L6];omega];simpa using this
    by_cases hc:cap-off=0
    ·right;exact⟨ad2,len,by rw[k2,hc]⟩
    left;obtain⟨b,o',c,el,fz,q1,q2,q3,q4,q5⟩:=r4 (by omega);rw[k2,r1,k3 (by omega),q1];intro b' hb';simp only[VZ,du,HB,HB1]at hb' ⊢;exact⟨by omega,hb'.2⟩
   simp at h
  simp at h
 simp at h
theorem Sf(hi:Inv C w0 M m){id ver j:Nat}{τ:Ty}{l:List (List τ.den)}{hole:Option Nat}(hg:m.G.get id=some (.deep ver τ l hole))(hh:hole≠some j){u:Value}(hu:∃ us,m.ι id=.tuple us/\us[j+1]?=some u)(hj:j<l.length):HdrW m.w m.F u τ l[j]:=by obtain⟨u',hs,h1,h2⟩:=hi.objs id _ hg;obtain⟨us,h3,h4⟩:=hu;rw[h1]at h3;simp only[Value.tuple.injEq]at h3;subst h3;simp only[Vb,Vs]at h4;exact h2.inner j hj u h4 hh
theorem yy (hi:Inv C w0 M m){e:Ty}{v:SV}{xs:List e.den}{u:Value}(hnd:Bk v=false)(h:bD m.G (.slice e) v=some xs)(hr:RelSV m u v) :
  ∃ ad cap news,u=.slice ad xs.length cap/\xL m.w m.F e news xs/\xs.length<=maxLen/\(xs≠[]->∃ b off c el fz,ad=some ⟨b,off,none⟩/\m.w.heap[b]?=some (.cells c el fz)/\off+news.length<=c.size/\news=seg c off news.length):=by
 have fin {ad:Option Addr} {l:List e.den} {cap:Nat} (h1:l.length<=cap) (h2:cap<=maxLen)
   (h3:l≠[]->∃ b off c el fz,ad=some ⟨b,off,none⟩/\m.w.heap[b]?=some (.cells c el fz)/\off+l.length*e.size<=c.size/\∀ i (h:i<l.length),Rd m.w m.F e (seg c (off+i*e.size) e.size) l[i]) :
   ∃ ad' cap' news,Value.slice ad l.length cap=.slice ad' l.length cap'/\xL m.w m.F e news l/\l.length<=maxLen/\(l≠[]->∃ b off c el fz,ad'=some ⟨b,off,none⟩/\m.w.heap[b]?=some (.cells c el fz)/\off+news.length<=c.size/\news=seg c off news.length):=by
  by_cases hl:l=[]
  ·subst hl;exact⟨ad,cap,[],rfl,⟨by simp,by intro i hi;simp at hi⟩,by simp,λh=>absurd rfl h⟩
  obtain⟨b,off,c,el,fz,q1,q2,q3,q4⟩:=h3 hl;have hn:(seg c off (l.length*e.size)).length=l.length*e.size:=mp _ _ _ q3;exact⟨ad,cap,seg c off (l.length*e.size),rfl,Dj q3 q4,by omega,λ_=>⟨b,off,c,el,fz,q1,q2,by rw[hn];exact q3,by rw[hn]⟩⟩
 cases v with
 |av a=>
  cases a with
  |val σ x=>obtain⟨he,hx⟩:=aI h;cases he;subst hx;obtain⟨ad,cap,rfl,h2,h3,h4⟩:=tD hr;refine fin h2 h3 (λhne=>?_);obtain⟨b,off,c,el,fz,q1,_,q2,q3,q4⟩:=h4 hne;exact⟨b,off,c,el,fz,q1,q2,q3,q4⟩
  |nils=>simp only[bD,Ty.isAgg,U4,aO,ov]at h;subst h;obtain⟨ad,rfl,_⟩:=hr;exact fin (l:=[]) (by simp) (by unfold maxLen;omega) (λh=>absurd rfl h)
  |own id=>
   simp only[bD,Ty.isAgg,U4,aO]at h;cases hg:m.G.get id with
   |none=>rw[hg]at h;simp at h
   |some ob0=>
    cases ob0 with
    |box _=>rw[hg]at h;simp at h
    |dead=>rw[hg]at h;simp at h
    |deep _ _ _ _=>rw[hg]at h;simp at h
    |map _ _ _=>rw[hg]at h;simp at h
    |arr σ l'=>
    rw[hg]at h;obtain⟨he,hx⟩:=aI h;cases he;subst hx;obtain⟨_,ob,hob,hv⟩:=hr;rw[hg]at hob;simp only[ov]at hob;subst hob;obtain⟨ad,cap,r1,r2,r3,r4⟩:=hi.objs id _ hg;rw[hv rfl,r1];refine fin r2 r3 (λhne=>?_);have:0<l'.length:=Wd.2 hne;obtain⟨b,off,c,el,fz,q1,q2,q3,q4,q5⟩:=r4 (by omega);exact⟨b,off,c,el,fz,q1,q2,by have:=B3 e.size r2;omega,q5⟩
  |view id off len=>
   have hh:∃ σ l',m.G.get id=some (.arr σ l')/\sL ⟨[],m.G⟩ e (.av (.view id off len))=some (xs,[id]):=by
    simp only[bD,Ty.isAgg,U4,aO]at h;cases hg:m.G.get id with
    |none=>rw[hg]at h;simp at h
    |some ob0=>
     cases ob0 with
     |box _=>rw[hg]at h;simp at h
     |dead=>rw[hg]at h;simp at h
     |deep _ _ _ _=>rw[hg]at h;simp at h
     |map _ _ _=>rw[hg]at h;simp at h
     |arr σ l'=>
     rw[hg]at h;obtain⟨he,hx⟩:=aI h;cases he;subst hx;refine⟨e,l',rfl,?_⟩;simp[sL,hg,cU]
   obtain⟨σ,l',hg,hb⟩:=hh;obtain⟨⟨ad,cap,rfl,r2,r3,r4⟩,_⟩:=yY (s:=⟨[],m.G⟩) hi rfl hb hr;refine fin r2 r3 (λhne=>?_);have:0<xs.length:=Wd.2 hne;obtain⟨b,off,c,el,fz,q1,q2,q3,q4,q5⟩:=r4 (by omega);exact⟨b,off,c,el,fz,q1,q2,by have:=B3 e.size r2;omega,q5⟩
  |u=>simp[bD,Ty.isAgg,aO]at h
  |undef=>simp[bD,Ty.isAgg,aO]at h
  |ptr _ _=>simp[bD]at h
  |aptr _ _ _=>simp[bD,Ty.isAgg,aO]at h
  |cut _ _ _=>simp[bD,Ty.isAgg,aO]at h
  |bnd _ _=>simp[bD,Ty.isAgg,aO]at h
  |saptr _ _ _ _=>simp[bD,Ty.isAgg,aO]at h
  |ownm _=>simp[bD,Ty.isAgg,aO]at h
  |iptr _ _ _ _ _=>simp[bD,Ty.isAgg,aO]at h
  |ownd id=>simp[Bk]at hnd
  |sub id ver j=>
   simp only[bD,Ty.isAgg,U4,aO]at h;obtain⟨_,ob,hob,hv⟩:=hr;rw[hob]at h;cases ob with
   |deep ver' σ l' hole=>
    cases hole with
    |some _=>simp at h
    |none=>
     simp only at h hv;cases hb:A3 ver ver' with
     |false=>rw[hb]at h;simp at h
     |true=>
      rw[hb]at h;have:=A6 hb;subst this;obtain⟨hj,_,hu⟩:=hv.2 rfl;rw[wP hj]at h;simp only[U3]at h;obtain⟨e',hy⟩:=aI h;simp only[Ty.slice.injEq]at e';subst e';subst hy
      obtain⟨ad,cap,r1,r2,r3,r4⟩:=Sf hi hob (by simp) hu hj;rw[r1];refine fin r2 r3 (λhne=>?_);have:0<l'[j].length:=Wd.2 hne;obtain⟨b,off,c,el,fz,q1,q2,q3,q4,q5⟩:=r4 (by omega);exact⟨b,off,c,el,fz,q1,q2,by have:=B3 σ.size r2;omega,q5⟩
   |_=>simp at h
  |clo _ _=>simp[bD]at h
 |agg l=>simp[bD,Ty.isAgg]at h
 |tup l=>simp[bD]at h
theorem vI(c:Array Value)(o:Nat)(vs:List Value)(h:o+vs.length<=c.size)(d n:Nat)(hd:d+n<=vs.length):seg (aS c o vs) (o+d) n=(vs.drop d).take n:=by
 apply Wb;intro k;by_cases hk:k<n
 ·rw[seg_getElem? _ _ _ _ hk,kE c o vs h,if_pos (by omega),Vc,if_pos hk,V3];congr 1;omega
 rw[Vc,if_neg hk];unfold seg;rw[Vc,if_neg hk]
end
end Go.Vm

/-
 The machine's operations against the model's: append, joined.
-/
namespace Go.Vm
section
variable {P:Program}{C:Ctx}{w0:World}{M:Own}{o:Oper}{a:Act}{m:Mem}{s s':St}
theorem Ll {e:Ty}{xs:List e.den}{ad:Option Addr}{cap:Nat}{news:List Value}(h1:xL m.w m.F e news xs)
  (h2:xs≠[]->∃ b off c el fz,ad=some ⟨b,off,none⟩/\m.w.heap[b]?=some (.cells c el fz)/\off+news.length<=c.size/\news=seg c off news.length) {w:World} (hw:w.heap=m.w.heap) :
  (Builtin.firstCells e.size xs.length (.slice ad xs.length cap)).run P w=.ok news.toArray w:=by
 by_cases hne:xs=[]
 ·subst hne;have:news=[]:=U7 (by rw[h1.1];simp);subst this;cases ad<;>simp[Builtin.firstCells,loadCells,loadCellsFrom]
 obtain⟨b,off,c,el,fz,rfl,q2,q3,q4⟩:=h2 hne;refine run_firstCells_some (P:=P) w e.size xs.length _ _ _ news h1.1 (λj v hj=>?_);have hjl:j<news.length:=(tz.1 hj).1;rw[du,oh (by rw[hw];exact q2),<- seg_getElem? c off news.length j hjl,<- q4];exact hj
theorem Hj {t:TypeId}{x y:Operand}{e:Ty}{l xs:List e.den}{r:List e.den}(hT:eL P C.tab=true)(hi:Inv C w0 M m)(hG:m.G=s.G)(hS:∀ x,RelSV m (a.eval x) (aw C s.env x))
  (ho:o.op=.call { callee:=.builtin .append,args:=#[x,y],argTypes:=#[t,t] }) (ht:C.tab.get t=some (.slice e))
  (hnd:Bk (aw C s.env y)=false) (hcut:PD s e (aw C s.env x)=some l) (hsv:bD s.G (.slice e) (aw C s.env y)=some xs) (hk:xs≠[]) (hr:app l xs=some r)
  (h:dS s (o.dst.getD 0) (.arr e r) (λi s2=>some (aC o.dst (.av (.own i)) s2))=some s'):Does P o a m.w (Res C w0 M m s s' o.dst):=by
 unfold app at hr;split at hr
 ·rename_i hlim;simp only[ov]at hr;subst hr;have hlimv:lim=68719476736:=rfl;rw[hlimv]at hlim;obtain⟨i,hfree,h⟩:=dn h;simp only[ov]at h;obtain⟨et,hu,hck⟩:=bh (ah hT ht);obtain⟨inf,z,r1,r2,r3,r4,r5,r6,r7⟩:=kx hck;have hx:=hS x;generalize hvx:aw C s.env x=vx at hcut hx;unfold PD at hcut;split at hcut
  ·rename_i id off len;obtain⟨_,ob,hob,hxv⟩:=(au (m:=m) (a:=.cut id off len) (by intros;simp)).1 hx;rw[hG]at hob;split at hcut
   ·rename_i σ l0 hg;rw[hg]at hob;simp only[ov]at hob;subst hob;split at hcut
    ·rename_i l1 hl1;simp only[ov]at hcut;subst hcut;obtain⟨he,hl1⟩:=aI hl1;cases he;subst hl1;simp only at hxv;obtain⟨k1,k2,b,o',n',cap',v1,v2⟩:=hxv;obtain⟨b',o'',cap,c,el,fz,q1,q2,q3,q4,q5,q6,q7,q8,q9⟩:=Be hi (hG▸hg) (j:=off) (by omega);rw[v1]at q1;simp only[Value.slice.injEq,ov,Addr.mk.injEq,and_true]at q1;obtain⟨⟨rfl,rfl⟩,rfl,rfl⟩:=q1;have hlen:((l0.drop off).take len).length=len:=by simp;omega
     obtain⟨xd,xcap,news,hxv,x2,x3,x4⟩:=yy hi hnd (hG▸hsv) (hS y);have hone:=Db x2;have hfresh:Heap.get m.G i=none:=by rw[hG];exact hfree
     have hkl:0<xs.length:=Wd.2 hk;obtain⟨xb,xoff,xc,xel,xfz,rfl,y2,y3,y4⟩:=x4 hk;obtain⟨z0,ez,hz0,_⟩:=jI (m:=m) r5;rw[Vw]at ez;have hzs:z.cells.size=e.size:=by rw[<- Vl,ez];exact hz0.len
     have hnews:∀ j v,news[j]?=some v->m.w.cell? ((⟨xb,xoff,none⟩:Addr).add j)=some v:=by intro j v hj;have hjl:j<news.length:=(tz.1 hj).1;rw[du,oh y2,<- seg_getElem? xc xoff news.length j hjl,<- y4];exact hj
     rw[hlen]at hlim;have hge:=grownCap_ge m.w (len+xs.length) len et;have hcm:grownCap m.w (len+xs.length) len et<=maxLen:=grownCap_le_maxLen _ _ _ _ (by unfold maxLen;omega);have hfits:Builtin.nextslicecap (len+xs.length) len*inf.bytes<=281474976710656:=growslice_fits (by omega) (by
      have h1:(len+xs.length)*inf.bytes<=68719476736*2048:=V9 hlim r3;omega)
     have hle:off*e.size+len*e.size<=l0.length*e.size:=by rw[<- L6];exact B3 _ k1
     have hle2:l0.length*e.size<=cap'*e.size:=B3 _ q2;have hsl:(seg c (o'+off*e.size) (len*e.size)).length=len*e.size:=mp _ _ _ (by omega);have kc:xL m.w m.F e (seg c (o'+off*e.size) (len*e.size)) ((l0.drop off).take len):=by
      have:=Dj (w:=m.w) (F:=m.F) (e:=e) (c:=c) (off:=o'+off*e.size) (l:=(l0.drop off).take len) (by rw[hlen];omega) (λi hi'=>by
       rw[hlen]at hi';have:=q8 (off+i) (by omega);rw[show o'+off*e.size+i*e.size=o'+(off+i)*e.size by rw[L6];omega];simpa using this)
      rw[hlen]at this;exact this
     have hrun:(Builtin.append_ #[t,t] o.type #[.slice (some ⟨b,o'+off * e.size,none⟩) len len,.slice (some ⟨xb,xoff,none⟩) xs.length xcap]).run P m.w =
       .ok (.slice (some ⟨m.w.heap.size,0,none⟩) (len+xs.length) (grownCap m.w (len+xs.length) len et))
        (m.w.drew.alloc (.cells ((seg c (o'+off*e.size) (len*e.size)).toArray++news.toArray++Builtin.zeroCells z.cells (grownCap m.w (len+xs.length) len et-(len+xs.length))) et)):=
      run_append_grow (P:=P) m.w t o.type et inf z hu r1 r4 ⟨b,o'+off*e.size,none⟩ len len _ (by rw[r2];exact hsl) (λj v hj=>by
       have hjl:j<len*e.size:=by rw[<- hsl];exact(tz.1 hj).1
       rw[du,oh q4,<- seg_getElem? c (o'+off*e.size) _ j hjl];exact hj) ⟨xb,xoff,none⟩ xs.length xcap news (by rw[r2];exact x2.1) hnews (by omega) (by omega) hfits
     have hsz:((seg c (o'+off*e.size) (len*e.size)).toArray++news.toArray++Builtin.zeroCells z.cells (grownCap m.w (len+xs.length) len et-(len+xs.length))).size=grownCap m.w (len+xs.length) len et*e.size:=by simp only[W5,Wl,size_zeroCells,hzs,hsl,x2.1,<- L6];congr 1;omega
     obtain⟨m',p1,p2,p3,p4,p5⟩:=zB (τ:=e) (l:=(l0.drop off).take len++xs) (cap:=grownCap m.w (len+xs.length) len et) (fz:=(0,0)) hi (i:=i) hfresh
      (w1:=m.w.drew.alloc (.cells ((seg c (o'+off*e.size) (len*e.size)).toArray++news.toArray++Builtin.zeroCells z.cells (grownCap m.w (len+xs.length) len et-(len+xs.length))) et)) (oa m.w _)
      (gr m.w.drew _) (.inl (B5 _)) (by rw[U6,hlen];exact hge) hcm (by rw[hsz];exact B5 _) (λj hj=>by
       have:=Cp (rest:=(Builtin.zeroCells z.cells (grownCap m.w (len+xs.length) len et-(len+xs.length))).toList) kc x2 j hj;unfold seg at this ⊢;simpa using this)
     refine Does.value (w':=m'.w) (v:=.slice (some ⟨m.w.heap.size,0,none⟩) (len+xs.length) (grownCap m.w (len+xs.length) len et)) ?_ ⟨m',.av (.own i),rfl,?_,p3,p4,by rw[U6,hlen]at p5;exact p5⟩
     ·simp[execOp,ho,resolve,invoke,builtin,v2,hxv,hrun,p1]
     rw[<- h,p2,hG]
    simp at hcut
   simp at hcut
  simp at hcut
 simp at hr
theorem He {t:TypeId}{x y:Operand}{e:Ty}{l xs r:List e.den}{ids:List Nat}(hT:eL P C.tab=true)(hi:Inv C w0 M m)(hG:m.G=s.G)
  (ho:o.op=.call { callee:=.builtin .append,args:=#[x,y],argTypes:=#[t,t] }) (ht:C.tab.get t=some (.slice e)) (hH:Hdr m (a.eval x) e l)
  (hids:(ids=[]/\∃ ad,a.eval x=.slice ad 0 0)\/∃ id o,ids=[id]/\m.G.get id=some o/\isObj o=true/\((∀ b,HB (a.eval x) b->HB (m.ι id) b)\/∃ ad n,a.eval x=.slice ad n 0))
  (hN:∃ ad cap news,a.eval y=.slice ad xs.length cap/\xL m.w m.F e news xs/\xs.length<=maxLen/\(xs≠[]->∃ b off c el fz,ad=some ⟨b,off,none⟩/\m.w.heap[b]?=some (.cells c el fz)/\off+news.length<=c.size/\news=seg c off news.length))
  (hr:app l xs=some r) (h:dS { env:=s.env,G:=aD ids s.G } (o.dst.getD 0) (.arr e r) (λi s2=>some (aC o.dst (.av (.own i)) s2))=some s'):Does P o a m.w (Res C w0 M m s s' o.dst):=by
 unfold app at hr;split at hr
 ·rename_i hlim;simp only[ov]at hr;subst hr;have hlimv:lim=68719476736:=rfl;rw[hlimv]at hlim;obtain⟨i,hfree,h⟩:=dn h;simp only[ov]at h;obtain⟨et,hu,hck⟩:=bh (ah hT ht);obtain⟨inf,z,r1,r2,r3,r4,r5,r6,r7⟩:=kx hck;obtain⟨ad,cap,hbv,b2,b3,b4⟩:=hH;obtain⟨xd,xcap,news,hxv,x2,x3,x4⟩:=hN;have hfc:∀ w:World,w.heap=m.w.heap->(Builtin.firstCells e.size xs.length (.slice xd xs.length xcap)).run P w=.ok news.toArray w:=λw hw=>Ll x2 x4 hw;have hone:=Db x2;have hfresh:Heap.get (aD ids m.G) i=none:=by rw[hG];exact hfree
  by_cases hfit:l.length+xs.length<=cap
  ·by_cases hc0:cap=0
   ·subst hc0;have hl0:l.length=0:=by omega
    have hx0:xs.length=0:=by omega
    have hl0':l=[]:=U7 hl0;have hx0':xs=[]:=U7 hx0;subst hl0';subst hx0';have hn0:news=[]:=U7 (by rw[x2.1];simp);subst hn0;obtain⟨m1,a1,a2,a3,a4,a5,a6⟩:=jg ids hi;obtain⟨m',q1,q2,q3,q4,q5⟩:=Qt (τ:=e) a4 (i:=i) (by rw[a3];exact hfresh) (Kept.refl m1.w _) ad;have hrun:(Builtin.append_ #[t,t] o.type #[.slice ad 0 0,.slice xd 0 xcap]).run P m.w=.ok (.slice ad 0 0) m.w:=by have:=hfc m.w rfl;simp only[B8]at this;cases ad<;>simp[Builtin.append_,run_underlying hu,sizeOf,typeInfo,r1,r2,Builtin.lenOf,this,storeCells]
    refine Does.value (w':=m'.w) (v:=.slice ad 0 0) ?_ ⟨m',.av (.own i),rfl,?_,q3,a5.trans q4,q5⟩
    ·simp only[B8]at hbv hxv;simp[execOp,ho,resolve,invoke,builtin,hbv,hxv,hrun,q1,a1]
    rw[<- h,q2,a3,hG];rfl
   obtain⟨b,off,c,el,fz,rfl,c2,c3,c4,c5⟩:=b4 hc0;have hmul:l.length*e.size+xs.length*e.size<=cap*e.size:=by rw[<- L6];exact B3 _ hfit
   have hnl:news.length=xs.length*e.size:=x2.1;have hin:off+l.length*e.size+news.length<=c.size:=by omega
   have hst:=g0 (P:=P) b (off+l.length*e.size) el fz news 0 c m.w c2 c3 (by omega) hone;simp only[VR]at hst;have hst:(storeCells ⟨b,off+l.length*e.size,none⟩ news).run P m.w=.ok () (m.w.setRow b (aS c (off+l.length*e.size) news)):=hst;have hrun:(Builtin.append_ #[t,t] o.type #[.slice (some ⟨b,off,none⟩) l.length cap,.slice xd xs.length xcap]).run P m.w=.ok (.slice (some ⟨b,off,none⟩) (l.length+xs.length) cap) (m.w.setRow b (aS c (off+l.length*e.size) news)):=by simp[Builtin.append_,run_underlying hu,sizeOf,typeInfo,r1,r2,Builtin.lenOf,hfc m.w rfl,hfit,du,hst]
   rcases hids with⟨_,ad0,h0⟩|⟨id,ob,rfl,hg,hob,hblk⟩
   ·rw[h0]at hbv;simp only[Value.slice.injEq]at hbv;omega
   have hblk:HB (m.ι id) b:=by
    rcases hblk with hblk|⟨ad0,n0,h0⟩
    ·exact hblk b (by rw[hbv];simp[HB,HB1,hc0])
    rw[h0]at hbv;simp only[Value.slice.injEq]at hbv;omega
   have hheap:(m.w.setRow b (aS c (off+l.length*e.size) news)).heap[b]?=some (.cells (aS c (off+l.length*e.size) news) el fz):=setRow_heap m.w b c _ el fz c2;obtain⟨g1,g2⟩:=N9 hi hg hob hblk (i:=i) hfresh (o':=.arr e (l++xs)) (eO m.w b (aS c (off+l.length*e.size) news)) (h:=.slice (some ⟨b,off,none⟩) (l.length+xs.length) cap) (λb'=>by simp[HB,HB1,hc0,eq_comm]) (λhe=>by
    refine⟨some ⟨b,off,none⟩,cap,by simp,by simpa using hfit,b3,λ_=>⟨b,off,_,el,fz,rfl,hheap,by rw[cv _ _ _ hin];exact c3,by rw[cv _ _ _ hin];exact c4,λj hj=>?_⟩⟩;refine Rd.mono he.fro ?_;rw[U6]at hj;by_cases hjl:j<l.length
    ·have hle:j*e.size+e.size<=l.length*e.size:=by have:=B3 e.size (show j+1<=l.length from hjl);rw[L6]at this;omega
     rw[VW hjl,eK _ _ _ hin _ _ (.inl (by omega))];exact c5 j hjl
    have hjx:j-l.length<xs.length:=by omega
    have hle:(j-l.length)*e.size+e.size<=xs.length*e.size:=by have:=B3 e.size (show j-l.length+1<=xs.length from hjx);rw[L6]at this;omega
    have hmj:j*e.size=l.length*e.size+(j-l.length)*e.size:=by rw[<- L6];congr 1;omega
    rw[VN (by omega),show off+j*e.size=off+l.length*e.size+(j-l.length)*e.size by omega,vI _ _ _ hin _ _ (by omega)];exact x2.2 _ hjx)
   refine Does.value (w':=m.w.setRow b (aS c (off+l.length*e.size) news)) (v:=.slice (some ⟨b,off,none⟩) (l.length+xs.length) cap) ?_ ⟨_,.av (.own i),rfl,?_,g1,g2,?_⟩
   ·simp[execOp,ho,resolve,invoke,builtin,hbv,hxv,hrun]
   ·rw[<- h,<- hG];rfl
   exact(au (a:=.own i) (by intros;simp)).2 ⟨rfl,.arr e (l++xs),by show Heap.get ((i,.arr e (l++xs))::_) i=_;rw[Heap.get_cons,if_pos rfl],λ_=>by simp⟩
  have hk:xs≠[]:=by intro e0;subst e0;simp only[B8]at hfit;omega
  have hkl:0<xs.length:=Wd.2 hk;obtain⟨xb,xoff,xc,xel,xfz,rfl,y2,y3,y4⟩:=x4 hk;obtain⟨z0,ez,hz0,_⟩:=jI (m:=m) r5;rw[Vw]at ez;have hzs:z.cells.size=e.size:=by rw[<- Vl,ez];exact hz0.len
  have hnews:∀ j v,news[j]?=some v->m.w.cell? ((⟨xb,xoff,none⟩:Addr).add j)=some v:=by intro j v hj;have hjl:j<news.length:=(tz.1 hj).1;rw[du,oh y2,<- seg_getElem? xc xoff news.length j hjl,<- y4];exact hj
  have hge:=grownCap_ge m.w (l.length+xs.length) cap et;have hcm:grownCap m.w (l.length+xs.length) cap et<=maxLen:=grownCap_le_maxLen _ _ _ _ (by unfold maxLen;omega);have hfits:Builtin.nextslicecap (l.length+xs.length) cap*inf.bytes<=281474976710656:=growslice_fits (by omega) (by
   have h1:(l.length+xs.length)*inf.bytes<=68719476736*2048:=V9 hlim r3;omega)
  have key:∃ olds,xL m.w m.F e olds l/\(Builtin.append_ #[t,t] o.type #[.slice ad l.length cap,.slice (some ⟨xb,xoff,none⟩) xs.length xcap]).run P m.w =
    .ok (.slice (some ⟨m.w.heap.size,0,none⟩) (l.length+xs.length) (grownCap m.w (l.length+xs.length) cap et))
     (m.w.drew.alloc (.cells (olds.toArray++news.toArray++Builtin.zeroCells z.cells (grownCap m.w (l.length+xs.length) cap et-(l.length+xs.length))) et)):=by
   by_cases hc0:cap=0
   ·have hl0:l=[]:=U7 (by omega);subst hl0;subst hc0;refine⟨[],⟨by simp,by intro i hi;simp at hi⟩,?_⟩;cases ad with
    |some ad=>exact run_append_grow (P:=P) m.w t o.type et inf z hu r1 r4 ad 0 0 [] (by simp) (by intro j v hj;simp at hj) ⟨xb,xoff,none⟩ xs.length xcap news (by rw[r2];exact x2.1) hnews (by omega) (by simp only[B8]at hlim;omega) (by simpa using hfits)
    |none=>have hn0:Builtin.nextslicecap xs.length 0=xs.length:=nextslicecap_zero hkl;have:=run_append_nil (P:=P) m.w t o.type et inf z hu r1 r4 ⟨xb,xoff,none⟩ xs.length xcap news (by rw[r2];exact x2.1) hnews hkl (by simp only[B8]at hlim;omega) (by simp only[B8,Vt,hn0]at hfits;exact hfits);simpa using this
   obtain⟨b,off,c,el,fz,rfl,c2,c3,c4,c5⟩:=b4 hc0;have hmul:l.length*e.size<=cap*e.size:=B3 _ b2;refine⟨seg c off (l.length*e.size),Dj (by omega) c5,?_⟩;have hsl:(seg c off (l.length*e.size)).length=l.length*e.size:=mp _ _ _ (by omega);exact run_append_grow (P:=P) m.w t o.type et inf z hu r1 r4 ⟨b,off,none⟩ l.length cap _ (by rw[r2];exact hsl) (λj v hj=>by
    have hjl:j<l.length*e.size:=by rw[<- hsl];exact(tz.1 hj).1
    rw[du,oh c2,<- seg_getElem? c off _ j hjl];exact hj) ⟨xb,xoff,none⟩ xs.length xcap news (by rw[r2];exact x2.1) hnews (by omega) (by omega) hfits
  obtain⟨olds,k1,hrun⟩:=key;obtain⟨m1,a1,a2,a3,a4,a5,a6⟩:=jg ids hi;have mono:∀{cs:List Value} {l:List e.den},xL m.w m.F e cs l->xL m1.w m1.F e cs l:=λhc=>⟨hc.1,λi hi=>(hc.2 i hi).mono a5.fro⟩;have hsz:(olds.toArray++news.toArray++Builtin.zeroCells z.cells (grownCap m.w (l.length+xs.length) cap et-(l.length+xs.length))).size=grownCap m.w (l.length+xs.length) cap et*e.size:=by simp only[W5,Wl,size_zeroCells,hzs,k1.1,x2.1,<- L6];congr 1;omega
  obtain⟨m',q1,q2,q3,q4,q5⟩:=zB (τ:=e) (l:=l++xs) (cap:=grownCap m.w (l.length+xs.length) cap et) (fz:=(0,0)) a4 (i:=i) (by rw[a3];exact hfresh)
   (w1:=m.w.drew.alloc (.cells (olds.toArray++news.toArray++Builtin.zeroCells z.cells (grownCap m.w (l.length+xs.length) cap et-(l.length+xs.length))) et)) (by rw[a1];exact oa m.w _)
   (by rw[a1];exact gr m.w.drew _) (.inl (B5 _)) (by rw[U6];exact hge) hcm (by rw[hsz];exact B5 _) (λj hj=>by
    have:=Cp (rest:=(Builtin.zeroCells z.cells (grownCap m.w (l.length+xs.length) cap et-(l.length+xs.length))).toList) (mono k1) (mono x2) j hj;unfold seg;simpa using this)
  refine Does.value (w':=m'.w) (v:=.slice (some ⟨m.w.heap.size,0,none⟩) (l.length+xs.length) (grownCap m.w (l.length+xs.length) cap et)) ?_ ⟨m',.av (.own i),rfl,?_,q3,a5.trans q4,by rw[U6,a1]at q5;exact q5⟩
  ·simp[execOp,ho,resolve,invoke,builtin,hbv,hxv,hrun,q1]
  rw[<- h,q2,a3,hG]
 simp at hr
theorem Gb {t et ty:TypeId}{e:Ty}{n k cap:Nat}{ad xd:Option Addr}{xcap:Nat}{news:List Value}(hu:P.underlying t=some (.slice et))(hck:chk P e none et=true)(w:World)(hn:n<=cap)
  (hb:cap≠0->∃ b off c el fz,ad=some ⟨b,off,none⟩/\w.heap[b]?=some (.cells c el fz)/\uu e c.size fz/\off+cap*e.size<=c.size) (hx:news.length=k*e.size) (hone:∀ u∈news,u.oneCell'=true)
  (hxb:k≠0->∃ b off c el fz,xd=some ⟨b,off,none⟩/\w.heap[b]?=some (.cells c el fz)/\off+news.length<=c.size/\news=seg c off news.length) (hlim:n+k<=68719476736) :
  (cap=0/\k=0/\n=0/\(Builtin.append_ #[t,t] ty #[.slice ad n cap,.slice xd k xcap]).run P w=.ok (.slice ad 0 0) w) \/
  (cap≠0/\n+k<=cap/\∀ b off c el fz,ad=some ⟨b,off,none⟩->w.heap[b]?=some (.cells c el fz)->(Builtin.append_ #[t,t] ty #[.slice ad n cap,.slice xd k xcap]).run P w=.ok (.slice (some ⟨b,off,none⟩) (n+k) cap) (w.setRow b (aS c (off+n*e.size) news))) \/
  (∃ olds cells cap',olds.length=n*e.size/\(n≠0->∀ b off c el fz,ad=some ⟨b,off,none⟩->w.heap[b]?=some (.cells c el fz)->olds=seg c off (n*e.size))/\n+k<=cap'/\cap'<=maxLen/\cells.size=cap'*e.size /\
   (∃ rest,cells.toList=olds++news++rest)/\(Builtin.append_ #[t,t] ty #[.slice ad n cap,.slice xd k xcap]).run P w=.ok (.slice (some ⟨w.heap.size,0,none⟩) (n+k) cap') (w.drew.alloc (.cells cells et))):=by
 obtain⟨inf,z,r1,r2,r3,r4,r5,r6,r7⟩:=kx hck;have hnews:∀ b off c el fz,xd=some ⟨b,off,none⟩->w.heap[b]?=some (.cells c el fz)->news=seg c off news.length->∀ j v,news[j]?=some v->w.cell? ((⟨b,off,none⟩:Addr).add j)=some v:=by intro b off c el fz _ y2 y4 j v hj;have hjl:j<news.length:=(tz.1 hj).1;rw[du,oh y2,<- seg_getElem? c off news.length j hjl,<- y4];exact hj
 have hfc:(Builtin.firstCells e.size k (.slice xd k xcap)).run P w=.ok news.toArray w:=by
  by_cases hk:k=0
  ·subst hk;have:news=[]:=U7 (by rw[hx];simp);subst this;cases xd<;>simp[Builtin.firstCells,loadCells,loadCellsFrom]
  obtain⟨b,off,c,el,fz,rfl,q2,q3,q4⟩:=hxb hk;exact run_firstCells_some (P:=P) w e.size k _ _ _ news hx (hnews b off c el fz rfl q2 q4)
 by_cases hfit:n+k<=cap
 ·by_cases hc0:cap=0
  ·subst hc0;have hn0:n=0:=by omega
   have hk0:k=0:=by omega
   subst hn0;subst hk0;have hn0:news=[]:=U7 (by rw[hx];simp);subst hn0;refine .inl ⟨rfl,rfl,rfl,?_⟩;cases ad<;>simp[Builtin.append_,run_underlying hu,sizeOf,typeInfo,r1,r2,Builtin.lenOf,hfc,storeCells]
  refine .inr (.inl ⟨hc0,hfit,λb off c el fz hb1 hb2=>?_⟩);obtain⟨b',off',c',el',fz',e1,e2,c3,c4⟩:=hb hc0;rw[hb1]at e1;simp only[ov,Addr.mk.injEq,and_true]at e1;obtain⟨rfl,rfl⟩:=e1;rw[hb2]at e2;cases e2;subst hb1;have hmul:n*e.size+k*e.size<=cap*e.size:=by rw[<- L6];exact B3 _ hfit
  have hst:=g0 (P:=P) b (off+n*e.size) el fz news 0 c w hb2 c3 (by omega) hone;simp only[VR]at hst;have hst:(storeCells ⟨b,off+n*e.size,none⟩ news).run P w=.ok () (w.setRow b (aS c (off+n*e.size) news)):=hst;simp[Builtin.append_,run_underlying hu,sizeOf,typeInfo,r1,r2,Builtin.lenOf,hfc,hfit,du,hst]
 have hk:k≠0:=by omega
 obtain⟨xb,xoff,xc,xel,xfz,rfl,y2,y3,y4⟩:=hxb hk;obtain⟨z0,ez,hz0,_⟩:=jI (m:=⟨w,λ_=>False,λ_=>undef,[]⟩) r5;rw[Vw]at ez;have hzs:z.cells.size=e.size:=by rw[<- Vl,ez];exact hz0.len
 have hnews:=hnews xb xoff xc xel xfz rfl y2 y4;have hge:=grownCap_ge w (n+k) cap et;have hcm:grownCap w (n+k) cap et<=maxLen:=grownCap_le_maxLen _ _ _ _ (by unfold maxLen;omega);have hfits:Builtin.nextslicecap (n+k) cap*inf.bytes<=281474976710656:=growslice_fits (by omega) (by
  have h1:(n+k)*inf.bytes<=68719476736*2048:=V9 hlim r3;omega)
 have key:∃ olds:List Value,olds.length=n * e.size/\(n≠0->∀ b off c el fz,ad=some ⟨b,off,none⟩->w.heap[b]?=some (.cells c el fz)->olds=seg c off (n * e.size))/\(Builtin.append_ #[t,t] ty #[.slice ad n cap,.slice (some ⟨xb,xoff,none⟩) k xcap]).run P w =
   .ok (.slice (some ⟨w.heap.size,0,none⟩) (n+k) (grownCap w (n+k) cap et)) (w.drew.alloc (.cells (olds.toArray++news.toArray++Builtin.zeroCells z.cells (grownCap w (n+k) cap et-(n+k))) et)):=by
  by_cases hc0:cap=0
  ·subst hc0;have hn0:n=0:=by omega
   subst hn0;refine⟨[],by simp,λh=>absurd rfl h,?_⟩;cases ad with
   |some ad=>exact run_append_grow (P:=P) w t ty et inf z hu r1 r4 ad 0 0 [] (by simp) (by intro j v hj;simp at hj) ⟨xb,xoff,none⟩ k xcap news (by rw[r2];exact hx) hnews (by omega) (by omega) (by simpa using hfits)
   |none=>have hn0:Builtin.nextslicecap k 0=k:=nextslicecap_zero (by omega);have:=run_append_nil (P:=P) w t ty et inf z hu r1 r4 ⟨xb,xoff,none⟩ k xcap news (by rw[r2];exact hx) hnews (by omega) (by omega) (by simp only[Vt,hn0]at hfits;exact hfits);simpa using this
  obtain⟨b,off,c,el,fz,rfl,c2,c3,c4⟩:=hb hc0;have hmul:n*e.size<=cap*e.size:=B3 _ hn;have hsl:(seg c off (n*e.size)).length=n*e.size:=mp _ _ _ (by omega);refine⟨seg c off (n*e.size),hsl,λ_ b' off' c' el' fz' e1 e2=>?_,?_⟩
  ·simp only[ov,Addr.mk.injEq,and_true]at e1;obtain⟨rfl,rfl⟩:=e1;rw[c2]at e2;cases e2;rfl
  exact run_append_grow (P:=P) w t ty et inf z hu r1 r4 ⟨b,off,none⟩ n cap _ (by rw[r2];exact hsl) (λj v hj=>by
   have hjl:j<n*e.size:=by rw[<- hsl];exact(tz.1 hj).1
   rw[du,oh c2,<- seg_getElem? c off _ j hjl];exact hj) ⟨xb,xoff,none⟩ k xcap news (by rw[r2];exact hx) hnews (by omega) (by omega) hfits
 obtain⟨olds,k1,k2,hrun⟩:=key;refine .inr (.inr ⟨olds,_,_,k1,k2,hge,hcm,?_,⟨(Builtin.zeroCells z.cells (grownCap w (n+k) cap et-(n+k))).toList,by simp⟩,hrun⟩);simp only[W5,Wl,size_zeroCells,hzs,k1,hx,<- L6];congr 1;omega
theorem GM (hi:Inv C w0 M m){σ : Ty}{v:SV}{u:Value}{p:List (List σ.den)×List Nat}(h:CY m.G σ v=some p)(hr:RelSV m u v) :
  ∃ hs,DeepW m.w m.F u hs σ p.1 none/\(∀ v∈u::hs,∀ b,HB v b->∃ id,id∈p.2/\∃ o,m.G.get id=some o/\isObj o=true/\HB (m.ι id) b)/\∀ id∈p.2,∃ o,m.G.get id=some o:=by
 unfold CY at h;split at h
 ·cases h;obtain⟨ad,rfl,_⟩:=hr;have hnb:∀ b,¬HB (.slice ad 0 0) b:=λb hb=>by cases ad<;>simp[HB,HB1]at hb
  exact⟨[],⟨rfl,⟨ad,0,rfl,by simp,by unfold maxLen;omega,λh=>absurd rfl h⟩,by intro i hi;simp at hi,(by intro i v hi;cases hi),VL _ _⟩,λv hv b hb=>by simp at hv;subst hv;exact absurd hb (hnb b),by simp⟩
 ·rename_i id;split at h
  ·rename_i ver τ l hg;split at h
   ·rename_i x hx;cases h;obtain⟨e,hx⟩:=aI hx;simp only[Ty.slice.injEq]at e;subst e;subst hx
    obtain⟨_,ob,hob,hv⟩:=hr;rw[hg]at hob;cases hob;obtain⟨us,v1,v2⟩:=hv;obtain⟨u',hs,d1,d2⟩:=fv hi hg;rw[d1]at v1;simp only[Value.tuple.injEq]at v1;subst v1;simp only[Vb,Vh,ov]at v2;subst v2;exact⟨hs,d2,λv hv b hb=>⟨id,by simp,_,hg,rfl,by rw[d1,eD d2.one];exact⟨v,hv,hb⟩⟩,λk hk=>by simp at hk;subst hk;exact⟨_,hg⟩⟩
   simp at h
  simp at h
 simp at h
theorem GG {t:TypeId}{x y:Operand}{σ : Ty}{l xs:List (List σ.den)×List Nat}{r:List (List σ.den)}(hT:eL P C.tab=true)(hi:Inv C w0 M m)(hG:m.G=s.G)(hS:∀ x,RelSV m (a.eval x) (aw C s.env x))
  (ho:o.op=.call { callee:=.builtin .append,args:=#[x,y],argTypes:=#[t,t] }) (ht:C.tab.get t=some (.slice (.slice σ)))
  (hl:CY s.G σ (aw C s.env x)=some l) (hx:CY s.G σ (aw C s.env y)=some xs) (hr:app l.1 xs.1=some r) (hnd:aP (l.2++xs.2)=true)
  (h:dS { env:=s.env,G:=aD (l.2++xs.2) s.G } (o.dst.getD 0) (.deep 0 σ r none) (λi s2=>some (aC o.dst (.av (.ownd i)) s2))=some s'):Does P o a m.w (Res C w0 M m s s' o.dst):=by
 unfold app at hr;split at hr
 case isFalse=>simp at hr
 rename_i hlim;simp only[ov]at hr;subst hr;have hlimv:lim=68719476736:=rfl;rw[hlimv]at hlim;obtain⟨i,hfree,h⟩:=dn h;simp only[ov]at h;obtain⟨et,hu,hck⟩:=bh (ah hT ht);rw[<- hG]at hl hx;obtain⟨hs1,p1,p2,p3⟩:=GM hi hl (hS x);obtain⟨hs2,q1,q2,q3⟩:=GM hi hx (hS y);obtain⟨ad,cap,b1,b2,b3,b4⟩:=p1.outer;obtain⟨xd,xcap,x1,x2,x3,x4⟩:=q1.outer;obtain⟨n1,n2,n3⟩:=bi hnd
 -- the parts are free
 obtain⟨d1,d2,d3,d4⟩:=wF (l.2++xs.2) hi (λid hid=>by
  rcases B6.1 hid with hid|hid
  ·exact p3 id hid
  exact q3 id hid)
 have f1:∀ v∈a.eval x::hs1,iT w0 M ⟨m.w,m.F,m.ι,aD (l.2++xs.2) m.G⟩ v:=λv hv b hb=>by obtain⟨id,e1,ob,e2,e3,e4⟩:=p2 v hv b hb;exact d4 id (by simp[e1]) ob e2 e3 b e4
 have f2:∀ v∈a.eval y::hs2,iT w0 M ⟨m.w,m.F,m.ι,aD (l.2++xs.2) m.G⟩ v:=λv hv b hb=>by obtain⟨id,e1,ob,e2,e3,e4⟩:=q2 v hv b hb;exact d4 id (by simp[e1]) ob e2 e3 b e4
 have hcross:∀ v∈a.eval x::hs1,∀ v'∈a.eval y::hs2,∀ b,HB v b->HB v' b->False:=by intro v hv v' hv' b hb hb';obtain⟨id,e1,ob,e2,e3,e4⟩:=p2 v hv b hb;obtain⟨id',g1,ob',g2,g3,g4⟩:=q2 v' hv' b hb';have:=hi.inj id id' ob ob' b e2 e3 g2 g3 e4 g4;subst this;exact n3 id e1 g1
 have hap:kR (hs1++hs2):=by refine List.pairwise_append.2 ⟨(Ve.1 p1.apart).2,(Ve.1 q1.apart).2,λv hv v' hv' b hb hb'=>?_⟩;exact hcross v (Vk _ hv) v' (Vk _ hv') b hb hb'
 have hlen:(hs1++hs2).length=(l.1++xs.1).length:=by simp[p1.len,q1.len]
 have hinner:∀ k (h:k<(l.1++xs.1).length) v,(hs1++hs2)[k]?=some v->HdrW m.w m.F v σ (l.1++xs.1)[k]:=by
  intro k hk v hv;rw[U6]at hk;by_cases hkl:k<l.1.length
  ·rw[W6 (by rw[p1.len];exact hkl)]at hv;rw[VW hkl];exact p1.inner k hkl v hv (by simp)
  rw[XJ (by rw[p1.len];omega),p1.len]at hv;rw[VN (by omega)];exact q1.inner (k-l.1.length) (by omega) v hv (by simp)
 have hone:∀ u∈hs2,u.oneCell'=true:=λu hu=>q1.one u (Vk _ hu);have hbase:cap≠0->∃ b off c el fz,ad=some ⟨b,off,none⟩/\m.w.heap[b]?=some (.cells c el fz)/\uu (.slice σ) c.size fz/\off+cap*(Ty.slice σ).size<=c.size:=by intro hc;obtain⟨b,off,c,el,fz,e1,e2,e3,e4,_⟩:=b4 hc;exact⟨b,off,c,el,fz,e1,e2,e3,by simp only[Ty.size,Wx];exact e4⟩
 have hxs:hs2.length=xs.1.length*(Ty.slice σ).size:=by simp[Ty.size,q1.len]
 have segEq:∀{c:Array Value} {off n:Nat} {hs:List Value},hs.length=n->(∀ k,k<n->c[off+k]?=hs[k]?)->hs=seg c off n:=by
  intro c off n hs e1 e2;apply Wb;intro k;by_cases hk:k<n
  ·rw[seg_getElem? _ _ _ _ hk,e2 k hk]
  rw[VG (by omega),VG];unfold seg;simp only[Vd,Wn];omega
 have hxb:xs.1.length≠0->∃ b off c el fz,xd=some ⟨b,off,none⟩/\m.w.heap[b]?=some (.cells c el fz)/\off+hs2.length<=c.size/\hs2=seg c off hs2.length:=by intro hk;obtain⟨b,off,c,el,fz,e1,e2,e3,e4,e5⟩:=x4 (by omega);exact⟨b,off,c,el,fz,e1,e2,by rw[q1.len];omega,segEq rfl (λk hk=>e5 k (by rw[<- q1.len];exact hk) (by simp))⟩
 have hfresh:Heap.get (aD (l.2++xs.2) m.G) i=none:=by rw[hG];exact hfree
 have hall:∀ v∈hs1++hs2,iT w0 M ⟨m.w,m.F,m.ι,aD (l.2++xs.2) m.G⟩ v:=by
  intro v hv;rcases B6.1 hv with hv|hv
  ·exact f1 v (Vk _ hv)
  exact f2 v (Vk _ hv)
 rcases Gb (ty:=o.type) (ad:=ad) (xd:=xd) (xcap:=xcap) (n:=l.1.length) hu hck m.w b2 hbase hxs hone hxb hlim with⟨c1,c2,c3,hrun⟩|⟨c1,c2,hrun⟩|⟨olds,cells,cap',c1,c2,c3,c4,c5,⟨rest,c6⟩,hrun⟩
 ·have e1:l.1=[]:=U7 c3;have e2:xs.1=[]:=U7 c2;have e3:hs1=[]:=U7 (by rw[p1.len,c3]);have hub:a.eval x=.slice ad 0 0:=by rw[b1,c3,c1]
  have hnb:∀ b,¬HB (.slice ad 0 0) b:=λb hb=>by cases ad<;>simp[HB,HB1]at hb
  obtain⟨m',r1,r2,r3,r4,r5,r6,r7⟩:=uk (m:=⟨m.w,m.F,m.ι,aD (l.2++xs.2) m.G⟩) d1 (i:=i) hfresh (u:=.slice ad 0 0) (hs:=[]) (τ:=σ) (l:=[]) ⟨rfl,⟨ad,0,rfl,by simp,by unfold maxLen;omega,λh=>absurd rfl h⟩,by intro i hi;simp at hi,(by intro i v hi;cases hi),VL _ _⟩ (λv hv b hb=>by simp at hv;subst hv;exact absurd hb (hnb b));refine Does.value (w':=m'.w) (v:=.slice ad 0 0) ?_ ⟨m',.av (.ownd i),rfl,?_,r5,d2.trans r6,(au (a:=.ownd i) (by intros;simp)).2 r7⟩
  ·rw[c3,c1,c2]at hrun;simp[execOp,ho,resolve,invoke,builtin,hub,x1,c2,hrun,r1]
  rw[<- h,r3,hG,e1,e2];rfl
 ·obtain⟨b,off,c,el,fz,rfl,g2,g3,g4,g5⟩:=b4 c1;have hrun:=hrun b off c el fz rfl g2;simp only[Ty.size,Wx]at hrun;have hfit:off+l.1.length+hs2.length<=c.size:=by rw[q1.len];omega
  have hub:∀ b',HB (a.eval x) b'->b'=b:=λb' hb'=>by rw[b1]at hb';exact hb'.2.symm
  have hbx:HB (a.eval x) b:=by rw[b1];exact⟨c1,rfl⟩
  obtain⟨fb1,fb2,fb3,fb4⟩:=f1 _ (VF ..) b hbx;have hw:=eO m.w b (aS c (off+l.1.length) hs2);obtain⟨s1,s2⟩:=HD (m:=⟨m.w,m.F,m.ι,aD (l.2++xs.2) m.G⟩) d1 (w1:=m.w.setRow b (aS c (off+l.1.length) hs2)) (Mc:=λb'=>b'=b) ⟨hw.os,hw.tape,hw.output,by rw[hw.size];exact B5 _,λk _ hk=>hw.block k hk⟩ (λb' hb'=>by subst hb';exact⟨fb1,fb2,fb4⟩);have hF:∀ b',m.F b'->m.F b'/\(m.w.setRow b (aS c (off+l.1.length) hs2)).heap[b']?=m.w.heap[b']?:=λb' hb'=>⟨hb',hw.block b' (λe=>fb2 (e▸hb'))⟩;have hheap:(m.w.setRow b (aS c (off+l.1.length) hs2)).heap[b]?=some (.cells (aS c (off+l.1.length) hs2) el fz):=setRow_heap m.w b c _ el fz g2;have hnb:∀ v∈hs1++hs2,¬HB v b:=by
   intro v hv hb';rcases B6.1 hv with hv|hv
   ·exact(Ve.1 p1.apart).1 v hv b hbx hb'
   exact hcross _ (VF ..) v (Vk _ hv) b hbx hb'
  have hd:DeepW (m.w.setRow b (aS c (off+l.1.length) hs2)) m.F (.slice (some ⟨b,off,none⟩) (l.1.length+xs.1.length) cap) (hs1++hs2) σ (l.1++xs.1) none:=by
   refine⟨hlen,⟨_,cap,by simp,by simpa using c2,b3,λ_=>⟨b,off,_,el,fz,rfl,hheap,by rw[cv _ _ _ hfit];exact g3,by rw[cv _ _ _ hfit];exact g4,λk hk _=>?_⟩⟩,λk hk v hv _=>?_,λk v hk=>(by cases hk),?_⟩
   ·rw[kE _ _ _ hfit];rw[U6]at hk;by_cases hkl:k<l.1.length
    ·rw[if_neg (by omega),W6 (by rw[p1.len];exact hkl)];exact g5 k hkl (by simp)
    rw[if_pos (by rw[q1.len];omega),XJ (by rw[p1.len];omega),p1.len];congr 1;omega
   ·refine(hinner k hk v hv).mono hF (λb' hb'=>hw.block b' (λe=>?_));subst e;exact hnb v (B9 hv) hb'
   refine WR (λv hv b' hb1 hb2=>?_) hap;have:b'=b:=hb1.2.symm;subst this;exact hnb v hv hb2
  obtain⟨m',r1,r2,r3,r4,r5,r6,r7⟩:=uk (m:=⟨m.w.setRow b (aS c (off+l.1.length) hs2),m.F,m.ι,aD (l.2++xs.2) m.G⟩) s1 (i:=i) hfresh hd (λv hv b' hb'=>by
   have:∃ v',(v'=a.eval x\/v'∈hs1++hs2)/\HB v' b':=by
    rcases A9.1 hv with rfl|hv
    ·exact⟨_,.inl rfl,by rw[b1];exact⟨c1,hb'.2⟩⟩
    exact⟨v,.inr hv,hb'⟩
   obtain⟨v',hv',hb'⟩:=this;have hfr:iT w0 M ⟨m.w,m.F,m.ι,aD (l.2++xs.2) m.G⟩ v':=by
    rcases hv' with rfl|hv'
    ·exact f1 _ (VF ..)
    exact hall v' hv'
   obtain⟨k1,k2,k3,k4⟩:=hfr b' hb';exact⟨k1,k2,by show b'<(m.w.setRow b _).heap.size;rw[hw.size];exact k3,k4⟩)
  refine Does.value (w':=m'.w) (v:=.slice (some ⟨b,off,none⟩) (l.1.length+xs.1.length) cap) ?_ ⟨m',.av (.ownd i),rfl,?_,r5,(d2.trans s2).trans r6,(au (a:=.ownd i) (by intros;simp)).2 r7⟩
  ·simp[execOp,ho,resolve,invoke,builtin,b1,x1,hrun,r1]
  rw[<- h,r3,hG]
 simp only[Ty.size,Wx]at c1 c2 c5;have holds:olds=hs1:=by
  by_cases hl0:l.1.length=0
  ·have e1:hs1=[]:=U7 (by rw[p1.len,hl0]);have e2:olds=[]:=U7 (by rw[c1,hl0]);rw[e1,e2]
  obtain⟨b,off,c,el,fz,rfl,g2,g3,g4,g5⟩:=b4 (by omega);rw[c2 hl0 b off c el fz rfl g2];exact(segEq p1.len (λk hk=>g5 k hk (by simp))).symm
 subst holds;obtain⟨m',r1,r2,r3,r4,r5⟩:=Gh (m:=⟨m.w,m.F,m.ι,aD (l.2++xs.2) m.G⟩) (τ:=σ) (l:=l.1++xs.1) (hs:=olds++hs2) (cap:=cap') (fz:=(0,0)) d1 (i:=i) hfresh (w1:=m.w.drew.alloc (.cells cells et)) (oa m.w _) (c:=cells) (el:=et)
  (gr m.w.drew _) (.inl (B5 _)) (by rw[U6];exact c3) c4 (by omega) hlen (λk hk=>by
   rw[<- VV,c6,W6 (by rw[hlen];exact hk)]) hinner hap hall
 refine Does.value (w':=m'.w) (v:=.slice (some ⟨m.w.heap.size,0,none⟩) (l.1.length+xs.1.length) cap') ?_ ⟨m',.av (.ownd i),rfl,?_,r3,d2.trans r4,by rw[U6]at r5;exact r5⟩
 ·simp[execOp,ho,resolve,invoke,builtin,b1,x1,hrun,r1]
 rw[<- h,r2,hG]
theorem HJ (hi:Inv C w0 M m)(site:Nat){v:SV}{u:Value}(hr:RelSV m u v) :
  ∃ m1,m1.w=m.w/\m1.F=m.F/\m1.G=(dJ site m.G v).2/\Inv C w0 M m1/\Evo m m1/\RelSV m1 u (dJ site m.G v).1:=by
 have same {v:SV} (hr:RelSV m u v) (h:dJ site m.G v=(v,m.G)):∃ m1,m1.w=m.w/\m1.F=m.F/\m1.G=(dJ site m.G v).2/\Inv C w0 M m1/\Evo m m1/\RelSV m1 u (dJ site m.G v).1:=by rw[h];exact⟨m,rfl,rfl,rfl,hi,Evo.refl m,hr⟩
 cases v with
 |av at'=>
  cases at' with
  |sub id ver j=>
   obtain⟨_,ob,hob,hv⟩:=(au (m:=m) (a:=.sub id ver j) (by intros;simp)).1 hr;cases ob with
   |deep ver' σ l hole=>
    cases hole with
    |some _=>exact same hr (by simp[dJ,hob])
    |none=>
     cases hc:(A3 ver ver' && !m.G.has (aA 8 m.G site))with
     |false=>exact same hr (by simp only[dJ,hob,hc,U4])
     |true=>
      have hc':=hc;simp only[sg,Vg]at hc';obtain⟨hver,hfr⟩:=hc';have:=A6 hver;subst this;obtain⟨hj,_,hu⟩:=hv.2 rfl;obtain⟨m1,a1,a2,a3,a4,a5,a6⟩:=Lr hi hob hj (qA hfr) hu;have e:dJ site m.G (.av (.sub id ver j))=(.av (.own (aA 8 m.G site)),(aA 8 m.G site,.arr σ l[j])::(id,.deep (ver+1) σ l (some j))::m.G):=by simp only[dJ,hob,hc,U3,wP hj]
      rw[e];exact⟨m1,a1,a2,a3,a4,a5,(au (a:=.own _) (by intros;simp)).2 a6⟩
   |_=>exact same hr (by simp[dJ,hob])
  |_=>exact same hr rfl
 |_=>exact same hr rfl
theorem Pe(z:Array Value):∀ n,((V0 (n*z.size)).map (z[· % z.size]!)).toList=(A7 n z.toList).flatten:=by
 intro n;simp only[Xw,Array.toList_range];induction n with
 |zero=>simp
 |succ n ih=>
  have hr:A7 (n+1) z.toList=A7 n z.toList++[z.toList]:=by rw[List.replicate_succ']
  rw[hr,List.flatten_append,<- ih,L6,Xq,List.range_add,List.map_append];congr 1;simp only[X5,Xv,List.flatten_nil,Vw];apply List.ext_getElem
  ·simp
  intro i h1 h2;have hi:i<z.size:=by simpa using h1
  have e:(n*z.size+i)%z.size=i:=by rw[WU,XM,YB hi]
  simp[e,hi]
theorem GY {t ti ty e:TypeId}{n:Nat}{ky:IntKind}{inf:TypeInfo}{zv:Value}(hu:P.underlying t=some (.slice e))(hi:P.underlying ti=some (.int .i64))(h1:P.info? e=some inf)(h3:inf.bytes<=100000)(h4:inf.zero=some zv)(w:World)(h0:1<=n)(hlim:n<=1000000)(hz:1<=inf.size) :
  (Builtin.append_ #[t,ti] ty #[.slice none 0 0,.int ky (n:Int)]).run P w=.ok (.slice (some ⟨w.heap.size,0,none⟩) n (grownCap w n 0 e)) (w.drew.alloc (.cells (Builtin.zeroCells zv.cells n++Builtin.zeroCells zv.cells (grownCap w n 0 e-n)) e)):=by
 have hw:IntKind.i64.wrap (n:Int)=n:=IntWalk.i64_in _ (by omega);have hb:(n:Int)*inf.bytes<=100000000000:=by have h1:n*inf.bytes<=1000000*100000:=V9 hlim h3;have h2:((n*inf.bytes:Nat):Int)=(n:Int)*inf.bytes:=Int.natCast_mul _ _;omega
 have h48:(2:Int)^48=281474976710656:=by decide
 have n1:¬(281474976710656<(n:Int)*inf.bytes):=by omega
 have n2:¬((n:Int)<0):=by omega
 have hn0:n≠0:=by omega
 have hns:¬(n*inf.size=0):=by
  intro e;rcases YF.1 e with h|h<;>omega
 have h63':¬(9223372036854775807<(n:Int)):=by omega
 have h48':¬(281474976710656<Builtin.nextslicecap n 0*inf.bytes):=by rw[nextslicecap_zero (by omega)];have h1:n*inf.bytes<=1000000*100000:=V9 hlim h3;omega
 simp[Builtin.append_,run_underlying hu,run_underlying hi,sizeOf,typeInfo,zeroValue,h1,h4,asInt,asIntOf,hw,n1,n2,hn0,hns,h63',h48',Question.forced,run_firstCells_none,newRow,grownCap,Int.not_lt.2 (Int.natCast_nonneg n),Nat.ne_of_gt hz]
theorem K7{α:Type}(z rest:List α):∀(n j:Nat),j<n->(((A7 n z).flatten++rest).drop (j*z.length)).take z.length=z
 |n+1,0,_=>by rw[Ye,Xv,Nat.zero_mul,WO,Vv,List.take_left]
 |n+1,j+1,h=>by rw[Ye,Xv,L6,Xq,WU,Vv,<- XH,WK];exact K7 z rest n j (by omega)
theorem Ep {t t':TypeId}{x y:Operand}{e:Ty}{k:IntKind}{n:Nat}(hT:eL P C.tab=true)(hi:Inv C w0 M m)(hG:m.G=s.G)(hS:∀ x,RelSV m (a.eval x) (aw C s.env x))
  (ho:o.op=.call { callee:=.builtin .append,args:=#[x,y],argTypes:=#[t,t'] }) (ht:C.tab.get t=some (.slice e)) (ht':C.tab.get t'=some (.int .i64))
  (hx:aw C s.env x=.av (.nils true)) (hy:aw C s.env y=.av (.val (.int k) (n:Int))) (h0:1<=n) (hlim:n<=1000000) (hz:1<=e.size)
  (h:dS s (o.dst.getD 0) (.arr e (A7 n (aL e))) (λi s2=>some (aC o.dst (.av (.own i)) s2))=some s'):Does P o a m.w (Res C w0 M m s s' o.dst):=by
 obtain⟨i,hfree,h⟩:=dn h;simp only[ov]at h;obtain⟨et,hu,hck⟩:=bh (ah hT ht);obtain⟨inf,z,r1,r2,r3,r4,r5,r6,r7⟩:=kx hck;obtain⟨z0,ez,hz0,_⟩:=jI (m:=m) r5;rw[Vw]at ez;have hzs:z.cells.toList.length=e.size:=by rw[ez];exact hz0.len
 have hzs':z.cells.size=e.size:=by rw[<- Vl];exact hzs
 have hxv:=hS x;rw[hx]at hxv;obtain⟨ad,hxv,hd⟩:=hxv;rw[hd rfl]at hxv;have hyv:=hS y;rw[hy]at hyv;obtain⟨hyv,_,_⟩:=gM hyv;have hge:=grownCap_ge m.w (0+n) 0 et;have hcm:grownCap m.w (0+n) 0 et<=maxLen:=grownCap_le_maxLen _ _ _ _ (by unfold maxLen;omega);rw[Vt]at hge hcm;have hrun:=GY (P:=P) (ty:=o.type) (ky:=k) hu (vl (ah hT ht')) r1 (by omega) r4 m.w h0 hlim (by rw[r2];exact hz);have hl:(Builtin.zeroCells z.cells n++Builtin.zeroCells z.cells (grownCap m.w n 0 et-n)).toList=(A7 n z.cells.toList).flatten++(Builtin.zeroCells z.cells (grownCap m.w n 0 et-n)).toList:=by rw[Array.toList_append];congr 1;exact Pe z.cells n
 have hsz:(Builtin.zeroCells z.cells n++Builtin.zeroCells z.cells (grownCap m.w n 0 et-n)).size=grownCap m.w n 0 et*e.size:=by simp only[W5,size_zeroCells,hzs',<- L6];congr 1;omega
 obtain⟨m',p1,p2,p3,p4,p5⟩:=zB (τ:=e) (l:=A7 n (aL e)) (cap:=grownCap m.w n 0 et) (fz:=(0,0)) hi (i:=i) (by rw[hG];exact hfree)
  (w1:=m.w.drew.alloc (.cells (Builtin.zeroCells z.cells n++Builtin.zeroCells z.cells (grownCap m.w n 0 et-n)) et)) (oa m.w _)
  (gr m.w.drew _) (.inl (B5 _)) (by rw[L5];exact hge) hcm (by rw[hsz];exact B5 _) (λj hj=>by
   rw[L5]at hj;rw[Ws];have:seg (Builtin.zeroCells z.cells n++Builtin.zeroCells z.cells (grownCap m.w n 0 et-n)) (j*e.size) e.size=z0:=by unfold seg;rw[hl,<- hzs,K7 _ _ n j hj,ez]
   rw[this];exact hz0)
 refine Does.value (w':=m'.w) (v:=.slice (some ⟨m.w.heap.size,0,none⟩) n (grownCap m.w n 0 et)) ?_ ⟨m',.av (.own i),rfl,?_,p3,p4,by rw[L5]at p5;exact p5⟩
 ·simp[execOp,ho,resolve,invoke,builtin,hxv,hyv,hrun,p1]
 rw[<- h,p2,hG]
theorem Oa {args:Array Operand}{ats:Array TypeId}(hT:eL P C.tab=true)(hi:Inv C w0 M m)(hG:m.G=s.G)(hS:∀ x,RelSV m (a.eval x) (aw C s.env x))
  (ho:o.op=.call { callee:=.builtin .append,args,argTypes:=ats })
  (h:ax C o s some=some s'):Does P o a m.w (Res C w0 M m s s' o.dst):=by
 simp only[ax,ho]at h;split at h
 ·rename_i t t' x y hat har;have ha1:args=#[x,y]:=by rw[<- VH (xs:=args),har]
  have ha2:ats=#[t,t']:=by rw[<- VH (xs:=ats),hat]
  subst ha1;subst ha2;split at h
  ·rename_i e ht;cases htt:A3 t t' with
   |false=>
    rw[htt]at h;simp only[U4]at h;split at h
    ·rename_i k n ht' hx hy;cases hc:(decide (1<=n)&&decide (n<=1000000)&&VK 1 e.size)with
     |false=>rw[hc]at h;cases h
     |true=>rw[hc]at h;simp only[sg,decide_eq_true_eq]at hc;obtain⟨⟨h1,h2⟩,h3⟩:=hc;have key:∀ n:Int,1<=n->n<=1000000->∃ j:Nat,n=j/\1<=j/\j<=1000000:=λn h1 h2=>⟨n.toNat,by omega,by omega,by omega⟩;obtain⟨j,rfl,j1,j2⟩:=key n h1 h2;exact Ep hT hi hG hS ho ht ht' hx hy j1 j2 (Vi h3) h
    cases h
   |true=>
    rw[htt]at h;simp only[U3]at h;have htt:=A6 htt;subst htt;cases hnd:Bk (aw C s.env y)with
    |true=>
     rw[hnd]at h;simp only[U3]at h;split at h
     ·rename_i σ _;split at h
      ·rename_i l xs hl hx;obtain⟨r,hr,h⟩:=A8.1 h;cases hn:aP (l.2++xs.2)with
       |false=>rw[hn]at h;simp at h
       |true=>rw[hn]at h;exact GG hT hi hG hS ho ht hl hx hr hn h
      simp at h
     simp at h
    |false=>
     rw[hnd]at h;simp only[U4]at h;split at h
     ·rename_i l y0 xs hcut hsv;obtain⟨r,hr,h⟩:=A8.1 h;exact Hj hT hi hG hS ho ht hnd hcut hsv (by simp) hr h
     ·simp at h
     rename_i hcut;split at h
     ·rename_i l ids xs hbase hsv;obtain⟨r,hr,h⟩:=A8.1 h;obtain⟨m1,a1,a2,a3,a4,a5,a6⟩:=HJ hi (o.dst.getD 0) (hS x);rw[<- hG]at hbase h;obtain⟨hH,hids⟩:=yY (s:=⟨s.env,(dJ (o.dst.getD 0) m.G (aw C s.env x)).2⟩) a4 a3 hbase a6;have hN:=yy hi hnd (hG▸hsv) (hS y);have:=He (s:=⟨s.env,(dJ (o.dst.getD 0) m.G (aw C s.env x)).2⟩) (s':=s') (o:=o) (a:=a) hT a4 a3 ho ht hH hids (by rw[a1,a2];exact hN) hr h;rw[a1]at this;intro K Q hK;refine this K Q λv w' hR=>hK v w' ?_;obtain⟨m',sv,k1,k2,k3,k4,k5⟩:=hR;exact⟨m',sv,k1,k2,k3,a5.trans k4,k5⟩
     simp at h
  simp at h
 simp at h
end
end Go.Vm

/-
 The machine's operations against the model's: clear.
-/
namespace Go.Vm
section
variable {P:Program}{C:Ctx}{w0:World}{M:Own}{o:Oper}{a:Act}{m:Mem}{s s':St}
theorem Rk {args:Array Operand}{ats:Array TypeId}(hT:eL P C.tab=true)(hi:Inv C w0 M m)(hG:m.G=s.G)(hS:∀ x,RelSV m (a.eval x) (aw C s.env x))
  (ho:o.op=.call { callee:=.builtin .clear,args,argTypes:=ats })
  (h:ax C o s some=some s'):Does P o a m.w (Res C w0 M m s s' o.dst):=by
 simp only[ax,ho]at h;split at h
 ·rename_i t x hat har;have ha1:args=#[x]:=by rw[<- VH (xs:=args),har]
  have ha2:ats=#[t]:=by rw[<- VH (xs:=ats),hat]
  subst ha1;subst ha2;have hx:=hS x;split at h
  ·rename_i e id off len ht hv;rw[hv]at hx;obtain⟨_,ob,hob,hxv⟩:=(au (m:=m) (a:=.view id off len) (by intros;simp)).1 hx;rw[hG]at hob;split at h
   ·rename_i σ l hg;rw[hg]at hob;simp only[ov]at hob;subst hob;cases hc:(decide (e=σ)&&VK (off+len) l.length&&VK 1 len)with
    |false=>rw[hc]at h;simp at h
    |true=>
     rw[hc]at h;simp only[U3,ov]at h;simp only[sg,decide_eq_true_eq]at hc;obtain⟨⟨rfl,c2⟩,c3⟩:=hc;have c2:=Vi c2;have c3:=Vi c3;obtain⟨et,hu,hck⟩:=bh (ah hT ht);obtain⟨inf,z,r1,r2,r3,r4,r5,r6,r7⟩:=kx hck;obtain⟨z0,ez,hz0,_⟩:=jI (m:=m) r5;rw[Vw]at ez;have hzs:z.cells.size=e.size:=by rw[<- Vl,ez];exact hz0.len
     obtain⟨b,o',cap,c,el,fz,q1,q2,q3,q4,q5,q6,q7,q8,q9⟩:=Be hi (hG▸hg) (j:=off) (by omega);simp only at hxv;obtain⟨_,ad1,n1,cap1,ad2,k1,k2,k3⟩:=hxv;rw[q1]at k1;simp only[Value.slice.injEq]at k1;obtain⟨rfl,rfl,rfl⟩:=k1;have k3:=k3 (by omega);simp only[VZ,du]at k3;subst k3;have hle:off*e.size+len*e.size<=l.length*e.size:=by rw[<- L6];exact B3 _ c2
     have hle2:l.length*e.size<=cap*e.size:=B3 _ q2;obtain⟨vs,hvs⟩:∃ vs,vs=(Builtin.zeroCells z.cells len).toList:=⟨_,rfl⟩;have hvl:vs.length=len*e.size:=by rw[hvs,Vl,size_zeroCells,hzs]
     have hseg:∀ i,i<len->(vs.drop (i*e.size)).take e.size=z0:=by
      intro i hi';by_cases hz:e.size=0
      ·have:z0=[]:=by have:=hz0.len;rw[hz]at this;exact U7 this
       rw[this,hz];simp
      have:=MH z.cells (by omega) len i hi';rw[hzs]at this;rw[hvs];unfold Builtin.zeroCells;rw[hzs];unfold seg at this;rw[this,ez]
     have hone:∀ v∈vs,v.oneCell'=true:=by
      intro v hv;obtain⟨j,hj⟩:=VD.1 hv;have hjl:j<vs.length:=(tz.1 hj).1;have hs:0<e.size:=by
       rcases W8 e.size with h0|h0
       ·rw[hvl,h0,YW]at hjl;omega
       exact h0
      have hd:j/e.size<len:=by rw[X6 hs];omega
      have:=hseg (j/e.size) hd;refine hz0.one v ?_;rw[<- this,VD];refine⟨j%e.size,?_⟩;rw[Vc,if_pos (Y6 _ hs),V3,YX,YG];exact hj
     have hin:o'+off*e.size+vs.length<=c.size:=by omega
     have hst:=g0 (P:=P) b (o'+off*e.size) el fz vs 0 c m.w q4 q5 (by omega) hone;simp only[VR]at hst;have hst:(storeCells ⟨b,o'+off*e.size,none⟩ vs).run P m.w=.ok () (m.w.setRow b (aS c (o'+off*e.size) vs)):=hst;have hzv:(zeroValue et).run P m.w=.ok z m.w:=by simp[zeroValue,typeInfo,r1,r4]
     obtain⟨n,rfl⟩:∃ n,len=n+1:=⟨len-1,by omega⟩;have hrun:(Builtin.clear_ #[t] o.type #[.slice (some ⟨b,o'+off*e.size,none⟩) (n+1) (cap-off)]).run P m.w=.ok (.tuple #[]) (m.w.setRow b (aS c (o'+off*e.size) vs)):=by simp[Builtin.clear_,run_underlying hu,hzv,<- hvs,hst]
     have hheap:(m.w.setRow b (aS c (o'+off*e.size) vs)).heap[b]?=some (.cells (aS c (o'+off*e.size) vs) el fz):=setRow_heap m.w b c _ el fz q4;have hblk:HB (m.ι id) b:=by rw[q1];simp[HB,HB1,q3]
     have hcl:(vF e l off (n+1)).length=l.length:=by unfold vF;simp;omega
     obtain⟨g1,g2⟩:=ku hi (hG▸hg:m.G.get id=some (.arr e l)) rfl hblk (o':=.arr e (vF e l off (n+1))) ⟨rfl,hcl.symm⟩ (eO m.w b (aS c (o'+off*e.size) vs)) (λhe=>by
      refine⟨some ⟨b,o',none⟩,cap,by rw[hcl];exact q1,by rw[hcl];exact q2,q9,λ_=>⟨b,o',_,el,fz,rfl,hheap,by rw[cv _ _ _ hin];exact q5,by rw[cv _ _ _ hin];exact q6,λi hi'=>?_⟩⟩;refine Rd.mono he.fro ?_;rw[hcl]at hi';by_cases h1:i<off
      ·have hm:i*e.size+e.size<=off*e.size:=by have:=B3 e.size (show i+1<=off from h1);rw[L6]at this;omega
       rw[eK _ _ _ hin _ _ (.inl (by omega))];have e1:(vF e l off (n+1))[i]'(by rw[hcl];exact hi')=l[i]:=by unfold vF;rw[VW (by simp;omega),Wo]
       rw[e1];exact q8 i hi'
      by_cases h2:i<off+(n+1)
      ·have e1:(vF e l off (n+1))[i]'(by rw[hcl];exact hi')=aL e:=by unfold vF;rw[VN (by simp;omega),VW (by simp;omega),Ws]
       have hd:i-off<n+1:=by omega
       have hmi:i*e.size=off*e.size+(i-off)*e.size:=by rw[<- L6];congr 1;omega
       have hme:(i-off)*e.size+e.size<=(n+1)*e.size:=by have:=B3 e.size (show i-off+1<=n+1 from hd);rw[L6 (i-off) 1]at this;omega
       rw[e1,hmi,<- VS,vI _ _ _ hin _ _ (by omega),hseg _ hd];exact hz0
      have hm:off*e.size+(n+1)*e.size<=i*e.size:=by rw[<- L6];exact B3 _ (by omega)
      rw[eK _ _ _ hin _ _ (.inr (by omega))];have e1:(vF e l off (n+1))[i]'(by rw[hcl];exact hi')=l[i]:=by unfold vF;rw[VN (by simp;omega),VN (by simp;omega),Yq];congr 1;simp;omega
      rw[e1];exact q8 i hi')
     refine Does.value (w':=m.w.setRow b (aS c (o'+off*e.size) vs)) (v:=.tuple #[]) ?_ ⟨_,.tup [],rfl,?_,g1,g2,⟨[],rfl,trivial⟩⟩
     ·simp[execOp,ho,resolve,invoke,builtin,k2,hrun]
     rw[<- h];unfold setObj;rw[<- hG]
   simp at h
  simp at h
 simp at h
theorem P7(hi:Inv C w0 M m){G':Heap}(h:∀ id,G'.get id=m.G.get id):Inv C w0 M ⟨m.w,m.F,m.ι,G'⟩/\Evo m ⟨m.w,m.F,m.ι,G'⟩:=by
 have he:Evo m ⟨m.w,m.F,m.ι,G'⟩:=⟨λb hb=>⟨hb,rfl⟩,λid o ho=>⟨o,by show G'.get id=_;rw[h];exact ho,.inr (Goon.refl _ o)⟩⟩;refine⟨⟨hi.kept,?_,?_,?_,hi.fro,λg τ x hg=>(hi.glob g τ x hg).mono he.fro,hi.bnd,dB he hi.pin⟩,he⟩
 ·intro id o ho;exact eh he rfl (λ_ _=>rfl) (hi.objs id o (by rw[<- h];exact ho))
 ·intro id o b ho;exact hi.own id o b (by rw[<- h];exact ho)
 intro i j o p b ho hoo hp;exact hi.inj i j o p b (by rw[<- h];exact ho) hoo (by rw[<- h];exact hp)
theorem IS{α:Type}(l ys:List α):(lU l ys).length=l.length:=by unfold lU;simp;omega
theorem R7 {args:Array Operand}{ats:Array TypeId}(hT:eL P C.tab=true)(hi:Inv C w0 M m)(hG:m.G=s.G)(hS:∀ x,RelSV m (a.eval x) (aw C s.env x))
  (ho:o.op=.call { callee:=.builtin .copy,args,argTypes:=ats })
  (h:ax C o s some=some s'):Does P o a m.w (Res C w0 M m s s' o.dst):=by
 simp only[ax,ho]at h;split at h
 ·rename_i t t' x y hat har;have ha1:args=#[x,y]:=by rw[<- VH (xs:=args),har]
  have ha2:ats=#[t,t']:=by rw[<- VH (xs:=ats),hat]
  subst ha1;subst ha2;have hx:=hS x;have hy:=hS y;split at h
  ·rename_i e id ht hv;rw[hv]at hx;obtain⟨_,ob,hob,hxv⟩:=(au (m:=m) (a:=.own id) (by intros;simp)).1 hx;rw[hG]at hob;split at h
   ·rename_i σ l hg;rw[hg]at hob;simp only[ov]at hob;subst hob;cases hc:(decide (e=σ) && !Bk (aw C s.env y))with
    |false=>rw[hc]at h;simp at h
    |true=>
     rw[hc]at h;simp only[U3]at h;simp only[sg,decide_eq_true_eq,Vg]at hc;obtain⟨rfl,hnd⟩:=hc;split at h
     ·rename_i ys hys;simp only[ov]at h;obtain⟨et,hu,hck⟩:=bh (ah hT ht);obtain⟨inf,z,r1,r2,r3,r4,r5,r6,r7⟩:=kx hck;have hsz:∀ w:World,(sizeOf et).run P w=.ok e.size w:=λw=>ca hck w;obtain⟨xd,xcap,news,y1,y2,y3,y4⟩:=yy hi hnd (hG▸hys) hy;obtain⟨a0,cap,d1,d2,d3,d4⟩:=hi.objs id _ (hG▸hg);have hxe:a.eval x=.slice a0 l.length cap:=by rw[hxv rfl,d1]
      obtain⟨n,hn⟩:∃ n,n=min ys.length l.length:=⟨_,rfl⟩;have hmi:bL (ys.length:Nat) (l.length:Nat)=(n:Int):=by unfold bL;split<;>omega
      have hnl:(n:Int)<=IntKind.i64.max:=by
       have h63:maxLen=9223372036854775807:=by decide
       have h64:IntKind.i64.max=9223372036854775807:=by decide
       rw[h64];omega
      have hres:∀ m':Mem,RelSV m' (goInt (n:Nat)) (.av (.val (.int .i64) (n:Int))):=λm'=>
       mh ⟨by have h65:IntKind.i64.min=-9223372036854775808:=(by decide);rw[h65];omega,hnl⟩
      rw[hmi]at h;have hnm:Nat.min ys.length l.length=n:=hn.symm;by_cases hz:n=0
      ·have hcl:lU l ys=l:=by
        unfold lU;rcases Nat.lt_or_ge 0 ys.length with h0|h0
        ·have:l=[]:=U7 (by omega);subst this;simp
        have:ys=[]:=U7 (by omega);subst this;simp
       rw[hcl]at h;obtain⟨g1,g2⟩:=P7 hi (G':=(id,.arr e l)::m.G) (λi=>by
        rw[Heap.get_cons];split
        ·rename_i hii;subst hii;exact(hG▸hg:m.G.get id=_).symm
        rfl)
       have hrun:(Builtin.copy_ #[t,t'] o.type #[.slice a0 l.length cap,.slice xd ys.length xcap]).run P m.w=.ok (goInt (n:Nat)) m.w:=by rw[hz]at hnm;rw[hz];cases a0<;>cases xd<;>simp[Builtin.copy_,run_underlying hu,hsz,Builtin.lenOf,hnm,Builtin.firstCells,loadCells,loadCellsFrom,storeCells]
       refine Does.value (w':=m.w) (v:=goInt (n:Nat)) ?_ ⟨_,_,?_,?_,g1,g2,hres _⟩
       ·simp[execOp,ho,resolve,invoke,builtin,hxe,y1,hrun]
       ·rfl
       rw[<- h];unfold setObj;rw[<- hG]
      have hl0:l≠[]:=by intro e;subst e;simp at hn;omega
      have hy0:ys≠[]:=by intro e;subst e;simp at hn;omega
      have hcap:cap≠0:=by have:0<l.length:=Wd.2 hl0;omega
      obtain⟨b,off,c,el,fz,rfl,q1,q2,q3,q4⟩:=d4 hcap;obtain⟨xb,xo,xc,xe,xf,rfl,p1,p2,p3⟩:=y4 hy0;obtain⟨k1,k2⟩:=y2;obtain⟨vs,hvs⟩:∃ vs,vs=news.take (n*e.size):=⟨_,rfl⟩;have hle:n*e.size<=ys.length*e.size:=B3 _ (by omega);have hle2:n*e.size<=l.length*e.size:=B3 _ (by omega);have hle3:l.length*e.size<=cap*e.size:=B3 _ d2;have hvl:vs.length=n*e.size:=by rw[hvs,Vd];omega
      have hone:∀ v∈vs,v.oneCell'=true:=λv hv=>Db ⟨k1,k2⟩ v (VI (hvs▸hv));have hin:off+vs.length<=c.size:=by omega
      have hfc:=run_firstCells_some (P:=P) m.w e.size n ⟨xb,xo,none⟩ ys.length xcap vs hvl (λj u hj=>by
       have hjl:j<n*e.size:=by have:=(tz.1 hj).1;omega
       rw[hvs,Vc,if_pos hjl]at hj;rw[du,oh p1,<- seg_getElem? xc _ news.length j (by omega),<- p3];exact hj)
      have hst:=g0 (P:=P) b off el fz vs 0 c m.w q1 q2 (by omega) hone;simp only[VR]at hst;have hst:(storeCells ⟨b,off,none⟩ vs).run P m.w=.ok () (m.w.setRow b (aS c off vs)):=hst;have hrun:(Builtin.copy_ #[t,t'] o.type #[.slice (some ⟨b,off,none⟩) l.length cap,.slice (some ⟨xb,xo,none⟩) ys.length xcap]).run P m.w=.ok (goInt (n:Nat)) (m.w.setRow b (aS c off vs)):=by simp only[Builtin.copy_,Vb,Vh,Vs,Sem.run_bind,run_underlying hu,Result.andThen_ok,Builtin.lenOf,Sem.run_pure,hsz,hnm,hfc,hst]
      have hny:n<=ys.length:=by omega
      have hseg:∀ i (hi':i<n),Rd m.w m.F e ((vs.drop (i*e.size)).take e.size) (ys[i]'(Vn hi' hny)):=by
       intro i hi';have:=k2 i (by omega);rw[hvs,WZ,List.take_take];have hmi:min e.size (n*e.size-i*e.size)=e.size:=by have:=B3 e.size (show i+1<=n from hi');rw[L6]at this;omega
       rw[hmi];exact this
      have hblk:HB (m.ι id) b:=by rw[d1];simp[HB,HB1,hcap]
      have hcl:=IS l ys;obtain⟨g1,g2⟩:=ku hi (hG▸hg:m.G.get id=some (.arr e l)) rfl hblk (o':=.arr e (lU l ys)) ⟨rfl,hcl.symm⟩ (eO m.w b (aS c off vs)) (λhe=>by
       refine⟨some ⟨b,off,none⟩,cap,by rw[hcl];exact d1,by rw[hcl];exact d2,d3,λ_=>⟨b,off,_,el,fz,rfl,setRow_heap m.w b c _ el fz q1,by rw[cv _ _ _ hin];exact q2,by rw[cv _ _ _ hin];exact q3,λi hi'=>?_⟩⟩;refine Rd.mono he.fro ?_;rw[hcl]at hi';by_cases h1:i<n
       ·have hm:i*e.size+e.size<=n*e.size:=by have:=B3 e.size (show i+1<=n from h1);rw[L6]at this;omega
        have hiy:i<ys.length:=by omega
        have e1:(lU l ys)[i]'(by rw[hcl];exact hi')=ys[i]:=by unfold lU;rw[VW (by simp;omega),Wo]
        rw[e1,vI _ _ _ hin _ _ (by omega)];exact hseg i h1
       have hm:n*e.size<=i*e.size:=B3 _ (by omega);rw[eK _ _ _ hin _ _ (.inr (by omega))];have hyn:ys.length=n:=by omega
       have e1:(lU l ys)[i]'(by rw[hcl];exact hi')=l[i]:=by unfold lU;rw[VN (by simp;omega),Yq];congr 1;simp;omega
       rw[e1];exact q4 i hi')
      refine Does.value (w':=m.w.setRow b (aS c off vs)) (v:=goInt (n:Nat)) ?_ ⟨_,_,rfl,?_,g1,g2,hres _⟩
      ·simp[execOp,ho,resolve,invoke,builtin,hxe,y1,hrun]
      rw[<- h];unfold setObj;rw[<- hG]
     simp at h
   simp at h
  simp at h
 simp at h
end
end Go.Vm

/-
 The machine's operations against the model's: operators on two values; what a step comes to, by any continuation.
-/
namespace Go.Vm
def Sv(P:Program)(C:Ctx):Prop:=∀ t τ,C.tab.get t=some τ->τ.isAgg=true->(C.eqs.any λe=>A3 e t)=true ->
 ∀(w:World) (F:Nat->Prop) (cs cs':List Value) (x y:τ.den) (r:Bool),eqT τ x y=some r->Rd w F τ cs x->Rd w F τ cs' y ->
  (∀ w,(Op.equal t (toV τ cs) (toV τ cs')).run P w=.ok r w)/\∀ op p q w,(eqGuard op t p q (toV τ cs) (toV τ cs')).run P w=.ok () w
section
variable {P:Program}{C:Ctx}{w0:World}{M:Own}{o:Oper}{a:Act}{m:Mem}{s:St}{R:Type}{r:R}{K:St->Option R}
def RF(C:Ctx)(w0:World)(M:Own)(m:Mem)(s:St)(dst:Option Nat){R:Type}(K:St->Option R)(r:R)(v:Value)(w':World):Prop:=
 ∃ s',K s'=some r/\Res C w0 M m s s' dst v w'
theorem dx (hi:Inv C w0 M m)(hG:m.G=s.G){v:Value}{sv:SV}(hrun:(execOp a.eval o).run P m.w=.ok (.value v) m.w)(hv:RelSV m v sv)
  (hs:K (aC o.dst sv s)=some r):Does P o a m.w (RF C w0 M m s o.dst K r):=
 Does.value hrun ⟨_,hs,m,sv,rfl,by rw[hG],hi,Evo.refl m,hv⟩
theorem HW{α:Type}{x y:Option α}{z:α}(h:G6 x y=some z):x=some z/\y=some z:=by
 unfold G6 at h;split at h
 ·rename_i e;exact⟨h,e▸h⟩
 simp at h
theorem Ld{k:IntKind}{x y:Int}(h1:k.min<=x)(h2:x<=k.max):k.min<=I5 k x y/\I5 k x y<=k.max:=by
 have hmin:k.min<=0:=by cases k<;>simp[IntKind.min,IntKind.signed,IntKind.bits]
 have hmax:0<=k.max:=by cases k<;>simp[IntKind.max,IntKind.signed,IntKind.bits]
 rw[IB];obtain⟨d,hd⟩:∃ d:Nat,d=2^(min y.toNat k.bits):=⟨_,rfl⟩;have hpos:0<d:=by rw[hd];exact Nat.two_pow_pos _
 have e:(2:Int)^(min y.toNat k.bits)=(d:Int):=by rw[hd];simp
 rw[e];rw[Int.fdiv_eq_ediv_of_nonneg _ (by omega)];have q1:=Int.emod_add_mul_ediv x d;have q2:=Int.emod_nonneg x (show(d:Int)≠0 by omega);have q3:=Int.emod_lt_of_pos x (show(0:Int)<d by omega);obtain⟨q,hq⟩:∃ q,q=x/(d:Int):=⟨_,rfl⟩;obtain⟨c,hc⟩:∃ c:Int,c=(d:Int)-1:=⟨_,rfl⟩;rw[<- hq]at q1 ⊢;have hdc:(d:Int)*q=c*q+q:=by rw[hc,Int.sub_mul];omega
 by_cases h:0<=q
 ·have:0<=c*q:=Int.mul_nonneg (by omega) h;omega
 have:c*q<=c*(-1):=Int.mul_le_mul_of_nonneg_left (by omega) (by omega);omega
theorem QA {op:BinOp}{xt yt:TypeId}{x y:Operand}(hT:eL P C.tab=true)(hE:Sv P C)(hi:Inv C w0 M m)(hG:m.G=s.G)(hS:∀ x,RelSV m (a.eval x) (aw C s.env x))(ho:o.op=.binOp op xt x y yt)
  (h:ax C o s K=some r):Does P o a m.w (RF C w0 M m s o.dst K r):=by
 simp only[ax,ho]at h;have hx:=hS x;have hy:=hS y;have jQ (v:Value) (hg:(eqGuard op xt x y (a.eval x) (a.eval y)).run P m.w=.ok () m.w) (hb:(binOp op xt (a.eval x) (a.eval y)).run P m.w=.ok v m.w) :
   (execOp a.eval o).run P m.w=.ok (.value v) m.w:=by
  simp[execOp,ho,hg,hb]
 have nil_cmp {ad:Option Addr} {n cap:Nat} (hx:a.eval x=.slice ad n cap) (hy:a.eval y=.slice none 0 0) (h:cond (qz (C.tab.get xt)) (match op with
   |.eql=>K (aC o.dst (.av (.val .bool ad.isNone)) s)
   |.neq=>K (aC o.dst (.av (.val .bool (!ad.isNone))) s)
   |_=>none) none=some r):Does P o a m.w (RF C w0 M m s o.dst K r):=by
  cases hb:qz (C.tab.get xt)with
  |false=>rw[hb]at h;simp at h
  |true=>
   rw[hb]at h;simp only[U3]at h;unfold qz at hb;split at hb
   ·rename_i e' ht;obtain⟨et,hu,_⟩:=bh (ah hT ht);have hg:=kK (P:=P) op xt x y (u:=a.eval x) (v:=a.eval y) (.inr (.inr (.inr ⟨_,_,_,hx⟩))) m.w;split at h
    ·exact dx hi hG (v:=.bool ad.isNone) (jQ _ hg (by rw[hx,hy];simp only[binOp];simp[run_equal_slice_nil m.w xt et ad _ cap hu])) m6 h
    ·exact dx hi hG (v:=.bool (!ad.isNone)) (jQ _ hg (by rw[hx,hy];exact run_neq_slice_nil (P:=P) m.w xt et ad _ cap hu)) m6 h
    simp at h
   simp at hb
 split at h
 ·rename_i k p k' q hp hq;rw[hp]at hx;rw[hq]at hy;obtain⟨hx,hx1,hx2⟩:=gM hx;obtain⟨hy,_,_⟩:=gM hy;cases hsh:Cu op with
  |true=>
   rw[hsh]at h;simp only[U3]at h;cases hz:ltI q 0 with
   |true=>rw[hz]at h;simp at h
   |false=>
   rw[hz]at h;simp only[U4]at h;have hq0:¬q<0:=by simpa[ltI]using hz
   have hg:(eqGuard op xt x y (a.eval x) (a.eval y)).run P m.w=.ok () m.w:=by cases op<;>simp_all[Cu,eqGuard]
   have hv:(binOp op xt (a.eval x) (a.eval y)).run P m.w=.ok (.int k (ET op k p q)) m.w:=by rw[hx,hy];cases op<;>simp only[Cu,Vz]at hsh<;>simp[binOp,Op.shift,hq0,ET,IT,IB]
   refine dx hi hG (v:=.int k (ET op k p q)) (jQ _ hg hv) (mh ?_) h;unfold ET;split
   ·rw[IT];exact wrap_within k _
   exact Ld hx1 hx2
  |false=>
  rw[hsh]at h;simp only[U4]at h;cases hk:decide (k=k')with
  |false=>rw[hk]at h;simp at h
  |true=>
   have hk':k=k':=by simpa using hk
   subst hk';rw[hk]at h;simp only[U3]at h;have hg:=kK (P:=P) op xt x y (u:=a.eval x) (v:=a.eval y) (.inl ⟨k,p,hx⟩) m.w;split at h
   ·cases hz:eqI q 0 with
    |true=>rw[hz]at h;simp at h
    |false=>
     rw[hz]at h;simp only[U4]at h;have hq0:q≠0:=by intro e;subst e;simp[eqI]at hz
     exact dx hi hG (v:=.int k (G3 k p q)) (jQ _ hg (by rw[hx,hy];simp[binOp,Op.intDiv,hq0,G3])) (mh (wrap_within k _)) h
   ·cases hz:eqI q 0 with
    |true=>rw[hz]at h;simp at h
    |false=>
     rw[hz]at h;simp only[U4]at h;have hq0:q≠0:=by intro e;subst e;simp[eqI]at hz
     exact dx hi hG (v:=.int k (Hi p q)) (jQ _ hg (by rw[hx,hy];simp[binOp,Op.intDiv,hq0,Hi])) (mh (Lm hx1 hx2)) h
   split at h
   ·rename_i r hr;obtain⟨v,hv,hrel⟩:=TN (m:=m) (P:=P) op xt k p q hr m.w;exact dx hi hG (v:=v) (jQ _ hg (by rw[hx,hy];exact hv)) hrel h
   simp at h
 ·rename_i p q hp hq;rw[hp]at hx;rw[hq]at hy;obtain⟨hx,hx1⟩:=xl hx;obtain⟨hy,hy1⟩:=xl hy;have hg:=kK (P:=P) op xt x y (u:=a.eval x) (v:=a.eval y) (.inr (.inr (.inl ⟨p,hx⟩))) m.w;split at h
  ·unfold yS at h;split at h
   ·rename_i hle;simp only[bv]at h;have hlim:lim<=68719476736:=by unfold lim;omega
    have h63:¬(((p.size+q.size:Nat):Int)>IntKind.i64.max):=by simp[IntKind.max,IntKind.signed,IntKind.bits];omega
    exact dx hi hG (v:=.string (p++q)) (jQ _ hg (by rw[hx,hy];simp only[binOp,Op.stringOp];rw[if_neg h63];rfl)) (Fm (by rw[size_append];unfold maxLen;omega)) h
   simp at h
  cases op<;>simp only[SW]at h<;>try (simp at h;done)
  ·exact dx hi hG (v:=.bool (eqS p q)) (jQ _ hg (by rw[hx,hy];simp[binOp,Op.stringOp,eqS])) m6 h
  exact dx hi hG (v:=.bool (neS p q)) (jQ _ hg (by rw[hx,hy];simp[binOp,Op.stringOp,neS])) m6 h
 ·rename_i p q hp hq;rw[hp]at hx;rw[hq]at hy;have hx:=pk hx;have hy:=pk hy;have hg:=kK (P:=P) op xt x y (u:=a.eval x) (v:=a.eval y) (.inr (.inl ⟨p,hx⟩)) m.w;cases hb:EW (C.tab.get xt)with
  |false=>rw[hb]at h;simp at h
  |true=>
   rw[hb]at h;simp only[U3]at h;unfold EW at hb;split at hb
   ·rename_i ht;have hu:=zx (ah hT ht);split at h
    ·exact dx hi hG (v:=.bool (eqB p q)) (jQ _ hg (by rw[hx,hy];exact run_eql_bool (P:=P) m.w xt p q hu)) m6 h
    ·refine dx hi hG (v:=.bool (neB p q)) (jQ _ hg (by
      rw[hx,hy];simp only[binOp];simp[run_equal_bool m.w xt p q hu,neB])) m6 h
    simp at h
   simp at hb
 ·rename_i e l hp hq;rw[hp]at hx;cases hb:(ED y&&qz (C.tab.get xt))with
  |false=>rw[hb]at h;simp at h
  |true=>
   rw[hb]at h;simp only[U3]at h;simp only[sg]at hb;obtain⟨hb1,hb2⟩:=hb;have hyv:a.eval y=.slice none 0 0:=by rw[hq]at hy;obtain⟨ad,e,h0⟩:=hy;rw[e,h0 rfl]
   unfold qz at hb2;split at hb2
   ·rename_i e' ht;obtain⟨et,hu,_⟩:=bh (ah hT ht);obtain⟨ad,cap,hx,r1,r2,r3⟩:=tD hx;have hg:=kK (P:=P) op xt x y (u:=a.eval x) (v:=a.eval y) (.inr (.inr (.inr ⟨_,_,_,hx⟩))) m.w;have hsome:l.isEmpty=false->ad.isNone=false:=by intro hl;obtain⟨b,off,c,el,fz,rfl,_⟩:=r3 (by intro e0;rw[e0]at hl;simp at hl);rfl
    split at h
    ·have hrun:(execOp a.eval o).run P m.w=.ok (.value (.bool ad.isNone)) m.w:=jQ _ hg (by rw[hx,hyv];simp only[binOp];simp[run_equal_slice_nil m.w xt et ad _ cap hu]);refine dx hi hG hrun m6 ?_;cases hl:l.isEmpty with
     |true=>rw[hl]at h;obtain⟨k1,k2⟩:=HW h;cases ad.isNone<;>assumption
     |false=>rw[hl]at h;rw[hsome hl];exact h
    ·have hrun:(execOp a.eval o).run P m.w=.ok (.value (.bool (!ad.isNone))) m.w:=jQ _ hg (by rw[hx,hyv];exact run_neq_slice_nil (P:=P) m.w xt et ad _ cap hu);refine dx hi hG hrun m6 ?_;cases hl:l.isEmpty with
     |true=>rw[hl]at h;obtain⟨k1,k2⟩:=HW h;cases ad.isNone<;>assumption
     |false=>rw[hl]at h;rw[hsome hl];exact h
    simp at h
   simp at hb2
 ·rename_i hp hq;rw[hp]at hx;rw[hq]at hy;obtain⟨ad,hx,h0⟩:=hx;rw[h0 rfl]at hx;obtain⟨ad',hy,h0'⟩:=hy;rw[h0' rfl]at hy;exact nil_cmp (cap:=0) (n:=0) hx hy h
 ·have hq:aw C s.env y=.av (.nils true):=by assumption
  rw[hq]at hy;obtain⟨ad',hy,h0'⟩:=hy;rw[h0' rfl]at hy;split at h
  ·rename_i e ht;split at h
   ·rename_i z l hl;obtain⟨cs,hx,d1⟩:=jB hi (hG▸hl) hx;obtain⟨ad,cap,rfl,h2,h3,h4⟩:=d1;obtain⟨b,off,c,el,fz,rfl,_⟩:=h4 (by simp);have hx:a.eval x=.slice (some ⟨b,off,none⟩) (z::l).length cap:=hx;refine nil_cmp hx hy ?_;rw[ht];exact h
   simp at h
  simp at h
 split at h
 ·rename_i τ ht;cases hb:(τ.isAgg&&C.eqs.any λe=>A3 e xt)with
  |false=>rw[hb]at h;simp at h
  |true=>
   rw[hb]at h;simp only[U3]at h;simp only[sg]at hb;obtain⟨hb1,hb2⟩:=hb;split at h
   ·rename_i p q hp hq;obtain⟨cs,e1,d1⟩:=jB hi (hG▸hp) hx;obtain⟨cs',e2,d2⟩:=jB hi (hG▸hq) hy;split at h
    ·rename_i res hres;have d1':Rd m.w (λ_=>True) τ cs p:=d1.mono (λb _=>⟨trivial,rfl⟩);have d2':Rd m.w (λ_=>True) τ cs' q:=d2.mono (λb _=>⟨trivial,rfl⟩);obtain⟨k1,k2⟩:=hE xt τ ht hb1 hb2 m.w (λ_=>True) cs cs' p q res hres d1' d2';have hg:=k2 op x y m.w;have k1:=k1 m.w;rw[<- e1,<- e2]at hg k1;have v1:a.eval x=.agg cs.toArray:=by rw[e1];simp[toV,hb1]
     have v2:a.eval y=.agg cs'.toArray:=by rw[e2];simp[toV,hb1]
     split at h
     ·exact dx hi hG (v:=.bool res) (jQ _ hg (by rw[v1,v2]at k1 ⊢;simp only[binOp];simp[k1])) m6 h
     ·exact dx hi hG (v:=.bool (!res)) (jQ _ hg (by rw[v1,v2]at k1 ⊢;simp only[binOp];simp[k1])) m6 h
     simp at h
    simp at h
   simp at h
 simp at h
end
end Go.Vm

