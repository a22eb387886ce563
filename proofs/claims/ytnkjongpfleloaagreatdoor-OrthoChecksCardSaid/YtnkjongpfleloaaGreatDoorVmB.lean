/-
 A machine on typed values, small enough to be reckoned by the kernel, and the proof that it goes with the model: part 2 of 5. What it computes for a function is that function's contract. No condition of its own.
-/
import Derived.Test.YtnkjongpfleloaaGreatDoorVmA
import Derived.Lib.ConvBytes
import Derived.Laws.BytesArg
import Derived.Laws.Tables
import Derived.ArgAppend
open Option.some renaming injEq->bd
open List renaming getElem?_eq_getElem->dg,mem_append->A5,mem_cons->A6,getElem?_eq_some_iff->A7,eq_nil_of_length_eq_zero->B4,getElem?_cons_zero->B5,mem_of_getElem?->B7,replicate->B8,getElem?_toArray->B9,map_cons->L3,getElem?_cons_succ->L4,pairwise_cons->L6,getElem?_take->L8,mem_cons_of_mem->RB,getElem_append_left->RG,getElem_append_right->RH,pairwise_singleton->RI,length_cons->RJ,append_assoc->RL,append_nil->RN,length_nil->RQ,length_append->RT,mem_cons_self->RX,pairwise_iff_getElem->R3,length_pos_iff->R4,mem_iff_getElem?->R5,mem_of_mem_take->R9,any_eq_false->Sa,getElem?_drop->Sf,mem_of_mem_drop->Sg,ext_getElem?->Sl,size_toArray->Sm,length_drop->So,length_replicate->Sq,drop_eq_getElem_cons->Sr,length_set->Su,getElem_set_ne->Sx,getElem_replicate->SC,take_append_of_le_length->SE,getElem?_eq_none->SG,getElem?_set_ne->SL,length_take->SO,getElem?_set_self->SW,getElem?_map->SZ,drop_left->S0,getElem_set_self->S4,getElem_take->S5,drop_take->Td,drop_zero->Tg,getElem?_append_left->Ti,flatten_cons->Tm,headD_cons->Tr,replicate_succ->Tu,drop_append_of_le_length->TE,drop_drop->TI,getElem?_append_right->TK,mem_or_eq_of_mem_set->TM,getElem_cons_succ->TS,getElem?_append->TZ,getElem?_zipIdx->T1,map_map->T2,getElem_drop->Ue,isEmpty_nil->Uf,foldlM_cons->Ug,zipIdx_cons->Uh
open Bool renaming and_eq_true->np,not_eq_true'->L7,false_eq_true->RY,or_eq_false_iff->Sj,and_self->Us
open Option renaming bind_some->pw,bind_eq_some_iff->A1,map_eq_some_iff->Sz,map_some->SB
open Nat renaming eq_of_beq_eq_true->xy,beq->A3,mul_le_mul_right->A4,le_refl->B2,add_mul->B3,le_of_ble_eq_true->L9,ble->RD,lt_of_lt_of_le->RK,zero_add->RM,add_assoc->RS,add_zero->R2,mul_one->SI,beq_refl->SU,eq_zero_or_pos->S3,add_comm->S9,mul_le_mul->Tf,lt_or_gt_of_ne->Tw,lt_succ_self->TH,add_mul_mod_self_right->TN,div_lt_iff_lt_mul->T3,one_mul->T7,mod_eq_of_lt->Uk,mul_eq_zero->Un,div_add_mod->Uo,mul_zero->UD,mul_comm->UE,mod_lt->UN
open Prod.mk renaming injEq->A8
open Array renaming getElem?_eq_some_iff->L5,length_toList->RC,toArray_toList->RP,getElem?_toList->R7,range->Sb,size_append->Th,toList_map->Tz,map->TA,ext'->TJ,getElem?_push->T0
open List.Pairwise renaming nil->Se,cons->Te
open List.cons renaming injEq->SK
open Int renaming mul_le_mul->Ut
set_option linter.unusedVariables false
set_option linter.unusedSimpArgs false
/-
 Arrays of arrays that are owned to the bottom: what becomes of them in memory.
-/
namespace Go.Vm
section
variable {P:Program}{C:Ctx}{w0:World}{M:Own}{m:Mem}
theorem ej{i:Nat}{l:List Nat}(h:aM (i::l)=true):i∉l/\aM l=true:=by simp only[aM,np,L7,Sa]at h;exact⟨λhi=>h.1 i hi (SU i),h.2⟩
theorem kl:∀{l r:List Nat},aM l=true->aM r=true->(∀ i∈l,i∉r)->aM (l++r)=true
 |[],_,_,h,_=>h
 |a::l,r,h1,h2,h3=>by
  obtain⟨n1,n2⟩:=ej h1;have:=kl n2 h2 λi hi=>h3 i (by simp[hi]);simp only[List.cons_append,aM,this,Bool.and_true,L7,Sa];intro b hb e;have e:=xy (by simpa using e);subst e;rcases A5.1 hb with hb|hb
  ·exact n1 hb
  exact h3 a (by simp) hb
theorem bf:∀{l r:List Nat},aM (l++r)=true->aM l=true/\aM r=true/\∀ i∈l,i∉r
 |[],r,h=>⟨rfl,h,by simp⟩
 |a::l,r,h=>by
  obtain⟨h1,h2⟩:=ej (l:=l++r) h;obtain⟨h3,h4,h5⟩:=bf h2;refine⟨?_,h4,?_⟩
  ·simp only[aM,np,L7];refine⟨?_,h3⟩;rw[Sa];intro b hb hab;have:=xy hab;subst this;exact h1 (by simp[hb])
  intro i hi;rcases A6.1 hi with rfl|hi
  ·intro hr;exact h1 (by simp[hr])
  exact h5 i hi
theorem bK{w:World}{F:Nat->Prop}{u:Value}{e:Ty}{l:List e.den}(h:HdrW w F u e l):u.oneCell'=true:=by obtain⟨ad,cap,rfl,_⟩:=h;rfl
theorem Kp {w:World}{F:Nat->Prop}{u:Value}{σ : Ty}{l:List σ.den}(h:HdrW w F u σ l){k:Nat}(hk:k < l.length){cs:List Value}{y : σ.den}(hy:Rd w F σ cs y) :
  ∃ b off cap c el fz,u=.slice (some ⟨b,off,none⟩) l.length cap/\cap≠0/\w.heap[b]?=some (.cells c el fz)/\eJ σ c.size fz/\off+k*σ.size+σ.size<=c.size/\Rd w F σ (seg c (off+k*σ.size) σ.size) l[k] /\
   ∀(w1:World) (F1:Nat->Prop),(∀ b',F b'->F1 b'/\w1.heap[b']?=w.heap[b']?)->w1.heap[b]?=some (.cells (aP c (off+k*σ.size) cs) el fz)->HdrW w1 F1 u σ (l.set k y):=by
 obtain⟨ad,cap,rfl,h2,h3,h4⟩:=h;have hc:cap≠0:=by omega
 obtain⟨b,off,c,el,fz,rfl,q2,q3,q4,q5⟩:=h4 hc;have hlen:=hy.len;have hle:(k+1)*σ.size<=cap*σ.size:=A4 _ (by omega);rw[B3]at hle;have hfit:off+k*σ.size+cs.length<=c.size:=by omega
 refine⟨b,off,cap,c,el,fz,rfl,hc,q2,q3,by omega,q5 k hk,λw1 F1 hF hb=>?_⟩;refine⟨some ⟨b,off,none⟩,cap,by simp,by simpa using h2,h3,λ_=>⟨b,off,_,el,fz,rfl,hb,by rw[bG _ _ _ hfit];exact q3,by rw[bG _ _ _ hfit];exact q4,λi hi'=>?_⟩⟩;simp only[Su]at hi';by_cases hij:k=i
 ·subst hij;have e:=kG c (off+k*σ.size) cs hfit;rw[hlen]at e;rw[S4,e];exact hy.mono hF
 rw[Sx hij,cw _ _ _ hfit]
 ·exact(q5 i hi').mono hF
 rcases Tw hij with hlt|hgt
 ·right;have:(k+1)*σ.size<=i*σ.size:=A4 _ hlt;rw[B3]at this;omega
 left;have:(i+1)*σ.size<=k*σ.size:=A4 _ hgt;rw[B3]at this;omega
theorem zi {w:World}{F:Nat->Prop}{u:Value}{σ : Ty}{l:List σ.den}(h:HdrW w F u σ l){k:Nat}(hk:k < l.length) :
  ∃ b off cap c el fz,u=.slice (some ⟨b,off,none⟩) l.length cap/\cap≠0/\w.heap[b]?=some (.cells c el fz)/\eJ σ c.size fz/\off+k*σ.size+σ.size<=c.size/\Rd w F σ (seg c (off+k*σ.size) σ.size) l[k]:=by
 obtain⟨ad,cap,rfl,h2,h3,h4⟩:=h;have hc:cap≠0:=by omega
 obtain⟨b,off,c,el,fz,rfl,q2,q3,q4,q5⟩:=h4 hc;have hle:(k+1)*σ.size<=cap*σ.size:=A4 _ (by omega);rw[B3]at hle;exact⟨b,off,cap,c,el,fz,rfl,hc,q2,q3,by omega,q5 k hk⟩
theorem cK (hi:Inv C w0 M m){id ver:Nat}{τ : Ty}{l:List (List τ.den)}{hole:Option Nat}(hg:m.G.get id=some (.deep ver τ l hole)) :
  ∃ u hs,m.ι id=.tuple (u::hs).toArray/\DeepW m.w m.F u hs τ l hole:=hi.objs id _ hg
theorem oA {w:World}{F:Nat->Prop}{u:Value}{hs:List Value}{τ : Ty}{l:List (List τ.den)}{hole:Option Nat}(h:DeepW w F u hs τ l hole){j:Nat}(hj:j < l.length) :
  ∃ b off cap c el fz v,u=.slice (some ⟨b,off,none⟩) l.length cap/\cap≠0/\w.heap[b]?=some (.cells c el fz)/\eJ (.slice τ) c.size fz/\off+cap<=c.size/\l.length<=cap/\hs[j]?=some v /\
   (hole≠some j->c[off+j]?=some v/\HdrW w F v τ l[j]):=by
 obtain⟨ad,cap,rfl,h2,h3,h4⟩:=h.outer;have hc:cap≠0:=by omega
 obtain⟨b,off,c,el,fz,rfl,q2,q3,q4,q5⟩:=h4 hc;have hlt:j<hs.length:=by rw[h.len];exact hj
 have hv:hs[j]?=some hs[j]:=dg hlt;exact⟨b,off,cap,c,el,fz,hs[j],rfl,hc,q2,q3,q4,h2,hv,λhne=>⟨by rw[q5 j hj hne,hv],h.inner j hj _ hv hne⟩⟩
theorem jx{l:List Value}(h:cP l){i j:Nat}{u v:Value}(hij:i≠j)(hu:l[i]?=some u)(hv:l[j]?=some v){b:Nat}(h1:HB u b)(h2:HB v b):False:=by
 obtain⟨hi,rfl⟩:=A7.1 hu;obtain⟨hj,rfl⟩:=A7.1 hv;rcases Tw hij with hlt|hgt
 ·exact R3.1 h i j hi hj hlt b h1 h2
 exact R3.1 h j i hj hi hgt b h2 h1
theorem w7 {w w1:World}{F F1:Nat->Prop}{u:Value}{hs:List Value}{τ : Ty}{l:List (List τ.den)}{hole:Option Nat}(h:DeepW w F u hs τ l hole){j:Nat}(hj:j < l.length){v:Value}(hv:hs[j]?=some v)
  {b:Nat} (hb:HB v b) (hF:∀ b',F b'->F1 b'/\w1.heap[b']?=w.heap[b']?) (hw:∀ k,k≠b->w1.heap[k]?=w.heap[k]?) {y:List τ.den} (hy:hole≠some j->HdrW w1 F1 v τ y) (hh:hole≠some j) :
  DeepW w1 F1 u hs τ (l.set j y) hole:=by
 have hnb:∀ k v',(u::hs)[k]?=some v'->k≠j+1->∀ b',HB v' b'->w1.heap[b']?=w.heap[b']?:=by intro k v' hk hkj b' hb';refine hw b' (λe=>?_);subst e;exact jx h.apart hkj hk (by simpa using hv) hb' hb
 refine⟨by simpa using h.len,?_,λi hi' v' hv' hne=>?_,h.gone,h.apart⟩
 ·obtain⟨ad,cap,rfl,h2,h3,h4⟩:=h.outer;refine⟨ad,cap,by simp,by simpa using h2,h3,λhc=>?_⟩;obtain⟨b1,off,c,el,fz,rfl,q2,q3,q4,q5⟩:=h4 hc;exact⟨b1,off,c,el,fz,rfl,by rw[hnb 0 _ rfl (by omega) b1 ⟨hc,rfl⟩];exact q2,q3,q4,λi hi'=>q5 i (by simpa using hi')⟩
 by_cases e:j=i
 ·subst e;rw[hv]at hv';cases hv';rw[S4];exact hy hh
 rw[Sx e];exact(h.inner i (by simpa using hi') v' hv' hne).mono hF (hnb (i+1) v' (by simpa using hv') (by omega))
def dj(w0:World)(M:Own)(m:Mem)(u:Value):Prop:=
 ∀ b,HB u b->(w0.heap.size<=b\/M b)/\¬m.F b/\b<m.w.heap.size/\∀ id o,m.G.get id=some o->isObj o=true->¬HB (m.ι id) b
theorem Ch (hi:Inv C w0 M m){id:Nat}{o:Obj}(hg:m.G.get id=some o) :
  Inv C w0 M ⟨m.w,m.F,m.ι,(id,.dead)::m.G⟩/\Evo m ⟨m.w,m.F,m.ι,(id,.dead)::m.G⟩/\(isObj o=true->∀ b,HB (m.ι id) b->(w0.heap.size<=b\/M b)/\¬m.F b/\b<m.w.heap.size/\∀ k p,Heap.get ((id,.dead)::m.G) k=some p->isObj p=true->¬HB (m.ι k) b):=by
 have he:Evo m ⟨m.w,m.F,m.ι,(id,.dead)::m.G⟩:=by
  refine⟨λb hF=>⟨hF,rfl⟩,λk p hp=>?_⟩;by_cases e:id=k
  ·exact⟨.dead,by rw[Heap.get_cons,if_pos e],.inl rfl⟩
  exact⟨p,by rw[Heap.get_cons,if_neg e];exact hp,.inr (Goon.refl _ p)⟩
 refine⟨⟨hi.kept,?_,?_,?_,hi.fro,λg τ x hg=>hi.glob g τ x hg,hi.bnd,cd he hi.pin⟩,he,?_⟩
 ·intro k p hp;rw[Heap.get_cons]at hp;split at hp
  ·simp at hp;subst hp;trivial
  exact co he rfl (λ_ _=>rfl) (hi.objs k p hp)
 ·intro k p b hp hop hb;rw[Heap.get_cons]at hp;split at hp
  ·simp at hp;subst hp;simp[isObj]at hop
  exact hi.own k p b hp hop hb
 ·intro j k p q b hp hop hq hoq h1 h2;rw[Heap.get_cons]at hp hq;split at hp
  ·simp at hp;subst hp;simp[isObj]at hop
  split at hq
  ·simp at hq;subst hq;simp[isObj]at hoq
  exact hi.inj j k p q b hp hop hq hoq h1 h2
 intro hob b hb;obtain⟨k1,k2,k3⟩:=hi.own id o b hg hob hb;refine⟨k1,k2,k3,λk p hp hop hb'=>?_⟩;rw[Heap.get_cons]at hp;split at hp
 ·simp at hp;subst hp;simp[isObj]at hop
 rename_i hne;exact hne (hi.inj id k o p b hg hob hp hop hb hb')
theorem CZ{id:Nat}{u:Value}(h:dj w0 M m u):dj w0 M ⟨m.w,m.F,m.ι,(id,.dead)::m.G⟩ u:=by
 intro b hb;obtain⟨k1,k2,k3,k4⟩:=h b hb;refine⟨k1,k2,k3,λk p hp hop=>?_⟩;change Heap.get ((id,.dead)::m.G) k=_ at hp;rw[Heap.get_cons]at hp;split at hp
 ·simp at hp;subst hp;simp[isObj]at hop
 exact k4 k p hp hop
theorem kw:∀(ids:List Nat) {m:Mem},Inv C w0 M m->(∀ i∈ids,∃ o,m.G.get i=some o) ->
  Inv C w0 M ⟨m.w,m.F,m.ι,aA ids m.G⟩/\Evo m ⟨m.w,m.F,m.ι,aA ids m.G⟩/\(∀ u,dj w0 M m u->dj w0 M ⟨m.w,m.F,m.ι,aA ids m.G⟩ u) /\
   ∀ i∈ids,∀ o,m.G.get i=some o->isObj o=true->∀ b,HB (m.ι i) b->(w0.heap.size<=b\/M b)/\¬m.F b/\b<m.w.heap.size/\∀ k p,(aA ids m.G).get k=some p->isObj p=true->¬HB (m.ι k) b
 |[],m,hi,_=>⟨hi,Evo.refl m,λ_ h=>h,λi hi=>by simp at hi⟩
 |i::r,m,hi,hex=>by
  obtain⟨o,ho⟩:=hex i (by simp);obtain⟨a1,a2,a3⟩:=Ch hi ho;obtain⟨b1,b2,b3,b4⟩:=kw r a1 (λk hk=>by
   obtain⟨p,hp⟩:=hex k (by simp[hk]);show ∃ o,Heap.get ((i,.dead)::m.G) k=some o;rw[Heap.get_cons];split
   ·exact⟨_,rfl⟩
   exact⟨p,hp⟩)
  refine⟨b1,a2.trans b2,λu hu=>b3 u (CZ hu),λk hk p hp hop b hb=>?_⟩;by_cases e:i=k
  ·subst e;rw[ho]at hp;cases hp;have hf:dj w0 M ⟨m.w,m.F,m.ι,(i,.dead)::m.G⟩ (m.ι i):=λb hb=>a3 hop b hb;exact b3 _ hf b hb
  have hk':k∈r:=by
   rcases A6.1 hk with h|h
   ·exact absurd h.symm e
   exact h
  exact b4 k hk' p (by show Heap.get ((i,.dead)::m.G) k=_;rw[Heap.get_cons,if_neg e];exact hp) hop b hb
theorem si (hi:Inv C w0 M m){w1:World}{Mc:Nat->Prop}(hk:Kept m.w Mc w1)(hMc:∀ b,Mc b->(w0.heap.size<=b\/M b)/\¬ m.F b/\∀ id o,m.G.get id=some o->isObj o=true->¬ HB (m.ι id) b) :
  Inv C w0 M ⟨w1,m.F,m.ι,m.G⟩/\Evo m ⟨w1,m.F,m.ι,m.G⟩:=by
 have he:Evo m ⟨w1,m.F,m.ι,m.G⟩:=⟨λb hF=>⟨hF,hk.block b (hi.fro b hF) (λh=>(hMc b h).2.1 hF)⟩,λ_ o h=>⟨o,h,.inr (Goon.refl _ o)⟩⟩;refine⟨⟨?_,?_,?_,hi.inj,?_,?_,hi.bnd,cd he hi.pin⟩,he⟩
 ·refine⟨hk.os.trans hi.kept.os,hk.tape.trans hi.kept.tape,hk.output.trans hi.kept.output,Nat.le_trans hi.kept.size hk.size,λb hb hM=>?_⟩;have:=hi.kept.size;refine(hk.block b (by omega) (λh=>?_)).trans (hi.kept.block b hb hM);rcases(hMc b h).1 with h|h
  ·omega
  exact hM h
 ·intro id p hp;by_cases hop:isObj p=true
  ·exact co he rfl (λb hb=>hk.block b (hi.own id p b hp hop hb).2.2 (λh=>(hMc b h).2.2 id p hp hop hb)) (hi.objs id p hp)
  cases p<;>simp_all[isObj,dm]
 ·intro id p b hp hop hbl;obtain⟨h1,h2,h3⟩:=hi.own id p b hp hop hbl;exact⟨h1,h2,RK h3 hk.size⟩
 ·intro b hF;exact RK (hi.fro b hF) hk.size
 intro g τ x hx;exact(hi.glob g τ x hx).mono he.fro
theorem wP (hi:Inv C w0 M m){i:Nat}(hn:m.G.get i=none){h:Value}{o:Obj}(ho:dm ⟨m.w,m.F,fun k=>if k=i then h else m.ι k,(i,o) :: m.G⟩ i o)(hf:dj w0 M m h) :
  Inv C w0 M ⟨m.w,m.F,λk=>if k=i then h else m.ι k,(i,o)::m.G⟩/\Evo m ⟨m.w,m.F,λk=>if k=i then h else m.ι k,(i,o)::m.G⟩:=by
 have he:Evo m ⟨m.w,m.F,λk=>if k=i then h else m.ι k,(i,o)::m.G⟩:=by
  refine⟨λb hF=>⟨hF,rfl⟩,λid p hp=>?_⟩;have hne:i≠id:=λe=>by subst e;rw[hn]at hp;cases hp
  exact⟨p,by rw[Heap.get_cons,if_neg hne];exact hp,.inr (.inl ⟨by simp[Ne.symm hne],Alike.refl p⟩)⟩
 refine⟨⟨hi.kept,?_,?_,?_,hi.fro,λg τ x hg=>hi.glob g τ x hg,hi.bnd,cd he hi.pin⟩,he⟩
 ·intro id p hp;rw[Heap.get_cons]at hp;split at hp
  ·rename_i e0;subst e0;simp only[bd]at hp;subst hp;exact ho
  rename_i hne;exact co he (by simp[Ne.symm hne]) (λ_ _=>rfl) (hi.objs id p hp)
 ·intro id p b hp hop hbl;rw[Heap.get_cons]at hp;split at hp
  ·rename_i e0;subst e0;obtain⟨h1,h2,h3,_⟩:=hf b (by simpa using hbl);exact⟨h1,h2,h3⟩
  rename_i hne;exact hi.own id p b hp hop (by simpa[Ne.symm hne]using hbl)
 intro j k p q b hp hop hq hoq hj hk;rw[Heap.get_cons]at hp hq;split at hp<;>split at hq
 ·omega
 ·rename_i e0 hne;subst e0
  exact absurd (by simpa[Ne.symm hne]using hk) ((hf b (by simpa using hj)).2.2.2 k q hq hoq)
 ·rename_i hne e0;subst e0
  exact absurd (by simpa[Ne.symm hne]using hj) ((hf b (by simpa using hk)).2.2.2 j p hp hop)
 rename_i n1 n2;exact hi.inj j k p q b hp hop hq hoq (by simpa[Ne.symm n1]using hj) (by simpa[Ne.symm n2]using hk)
theorem wH{us:List Value}(h1:∀ v∈us,v.oneCell'=true)(h:∀ v∈us,dj w0 M m v):dj w0 M m (.tuple us.toArray):=by intro b hb;obtain⟨v,hv,hb⟩:=(ct h1).1 hb;exact h v hv b hb
theorem iU (hi:Inv C w0 M m){i:Nat}(hn:m.G.get i=none){u:Value}{hs:List Value}{τ : Ty}{l:List (List τ.den)}(hd:DeepW m.w m.F u hs τ l none)(hf:∀ v∈u :: hs,dj w0 M m v) :
  ∃ m',m'.w=m.w/\m'.F=m.F/\m'.G=(i,.deep 0 τ l none)::m.G/\m'.ι=(λk=>if k=i then .tuple (u::hs).toArray else m.ι k)/\Inv C w0 M m'/\Evo m m'/\ak m' u (.ownd i):=by
 obtain⟨g1,g2⟩:=wP hi hn (h:=.tuple (u::hs).toArray) (o:=.deep 0 τ l none) ⟨u,hs,by simp,hd⟩ (wH hd.one hf);exact⟨⟨m.w,m.F,λk=>if k=i then .tuple (u::hs).toArray else m.ι k,(i,.deep 0 τ l none)::m.G⟩,rfl,rfl,rfl,rfl,g1,g2,hd.one u (by simp),.deep 0 τ l none,by rw[Heap.get_cons,if_pos rfl],(u::hs).toArray,by simp,by simp⟩
theorem wM (hi:Inv C w0 M m){id ver j i:Nat}{τ : Ty}{l:List (List τ.den)}(hg:m.G.get id=some (.deep ver τ l none))(hj:j < l.length)(hn:m.G.get i=none){v:Value}(hv:∃ us,m.ι id=.tuple us/\us[j+1]?=some v) :
  ∃ m',m'.w=m.w/\m'.F=m.F/\m'.G=(i,.arr τ l[j])::(id,.deep (ver+1) τ l (some j))::m.G/\Inv C w0 M m'/\Evo m m'/\ak m' v (.own i):=by
 obtain⟨u,hs,h1,h2⟩:=cK hi hg;obtain⟨us,h3,h4⟩:=hv;rw[h1]at h3;simp only[Value.tuple.injEq]at h3;subst h3;simp only[B9,L4]at h4;have hne:i≠id:=λe=>by subst e;rw[hn]at hg;cases hg
 have hjs:j<hs.length:=by rw[h2.len];exact hj
 have hvH:=h2.inner j hj v h4 (by simp);obtain⟨ι',hι'⟩:∃ ι':Nat->Value,ι'=λk=>if k=i then v else if k=id then .tuple (u::hs.set j (.slice none 0 0)).toArray else m.ι k:=⟨_,rfl⟩;have hιi:ι' i=v:=by rw[hι'];simp
 have hιd:ι' id=.tuple (u::hs.set j (.slice none 0 0)).toArray:=by rw[hι'];simp[Ne.symm hne]
 have hιo:∀ k,k≠i->k≠id->ι' k=m.ι k:=λk a b=>by rw[hι'];simp[a,b]
 have hd':DeepW m.w m.F u (hs.set j (.slice none 0 0)) τ l (some j):=by
  refine⟨by simpa using h2.len,?_,λk hk v' hv' hne'=>?_,λk v' hk hv'=>?_,?_⟩
  ·obtain⟨ad,cap,rfl,q2,q3,q4⟩:=h2.outer;refine⟨ad,cap,rfl,q2,q3,λhc=>?_⟩;obtain⟨b,off,c,el,fz,rfl,r2,r3,r4,r5⟩:=q4 hc;refine⟨b,off,c,el,fz,rfl,r2,r3,r4,λk hk hne'=>?_⟩;rw[r5 k hk (by simp),SL (by intro e;exact hne' (by rw[e]))]
  ·rw[SL (by intro e;exact hne' (by rw[e]))]at hv';exact h2.inner k hk v' hv' (by simp)
  ·cases hk;rw[SW hjs]at hv';cases hv';rfl
  have hnil:∀ b,¬HB (.slice none 0 0) b:=λb hb=>by simp[HB,HB1]at hb
  rw[cP,R3];intro p q hp hq hpq b hb1 hb2;have get:∀ k (hk:k<(u::hs.set j (.slice none 0 0)).length),(u::hs.set j (.slice none 0 0))[k]=.slice none 0 0\/(u::hs)[k]?=some (u::hs.set j (.slice none 0 0))[k]:=by
   intro k hk;cases k with
   |zero=>right;simp
   |succ k=>
    simp only[TS,L4];by_cases e:j=k
    ·subst e;left;simp
    right;simp only[RJ,Su]at hk;rw[Sx e,dg]
  rcases get p hp with e|e
  ·rw[e]at hb1;exact hnil b hb1
  rcases get q hq with e'|e'
  ·rw[e']at hb2;exact hnil b hb2
  exact jx h2.apart (by omega) e e' hb1 hb2
 have get3:∀ k,Heap.get ((i,.arr τ l[j])::(id,.deep (ver+1) τ l (some j))::m.G) k=if i=k then some (.arr τ l[j])else if id=k then some (.deep (ver+1) τ l (some j))else m.G.get k:=by intro k;rw[Heap.get_cons,Heap.get_cons]
 have he:Evo m ⟨m.w,m.F,ι',(i,.arr τ l[j])::(id,.deep (ver+1) τ l (some j))::m.G⟩:=by
  refine⟨λb hb=>⟨hb,rfl⟩,λk p hp=>?_⟩;have hik:i≠k:=λe=>by subst e;rw[hn]at hp;cases hp
  by_cases e:id=k
  ·subst e;rw[hg]at hp;cases hp;refine⟨_,by rw[get3,if_neg hik,if_pos rfl],.inr (.inr ?_)⟩;show mg (m.ι id) (ι' id) _ _;rw[h1,hιd];exact⟨TH _,rfl,rfl,_,_,rfl,rfl,by simp⟩
  refine⟨p,by rw[get3,if_neg hik,if_neg e];exact hp,.inr (.inl ⟨hιo k (Ne.symm hik) (Ne.symm e),Alike.refl p⟩)⟩
 have hbv:∀ b,HB v b->HB (m.ι id) b:=λb hb=>by rw[h1,ct h2.one];exact⟨v,RB _ (B7 h4),hb⟩
 have hbd:∀ b,HB (ι' id) b->HB (m.ι id) b/\¬HB v b:=by
  intro b hb;rw[hιd,ct hd'.one]at hb;obtain⟨v',hv',hb⟩:=hb;obtain⟨k,hk⟩:=R5.1 hv';have key:k≠j+1/\(u::hs)[k]?=some v':=by
   cases k with
   |zero=>exact⟨by omega,hk⟩
   |succ k=>
    simp only[L4]at hk ⊢;by_cases e:j=k
    ·subst e;rw[SW hjs]at hk;cases hk;simp[HB,HB1]at hb
    rw[SL e]at hk;exact⟨by omega,hk⟩
  refine⟨?_,λhbv'=>jx h2.apart key.1 key.2 (by simpa using h4) hb hbv'⟩;rw[h1,ct h2.one];exact⟨v',B7 key.2,hb⟩
 -- whose block it is
 have src:∀ k p b,Heap.get ((i,.arr τ l[j]) :: (id,.deep (ver+1) τ l (some j)) :: m.G) k=some p->isObj p=true->HB (ι' k) b ->
   (k=i/\HB v b)\/(k=id/\HB (m.ι id) b/\¬HB v b)\/(k≠i/\k≠id/\m.G.get k=some p/\HB (m.ι k) b):=by
  intro k p b hp hop hb;rw[get3]at hp;split at hp
  ·rename_i e;subst e
   rw[hιi]at hb;exact .inl ⟨rfl,hb⟩
  rename_i hik;split at hp
  ·rename_i e;subst e
   exact .inr (.inl ⟨rfl,hbd b hb⟩)
  rename_i hid;rw[hιo k (Ne.symm hik) (Ne.symm hid)]at hb;exact .inr (.inr ⟨Ne.symm hik,Ne.symm hid,hp,hb⟩)
 refine⟨⟨m.w,m.F,ι',(i,.arr τ l[j])::(id,.deep (ver+1) τ l (some j))::m.G⟩,rfl,rfl,rfl,⟨hi.kept,?_,?_,?_,hi.fro,λg τ x hg=>hi.glob g τ x hg,hi.bnd,cd he hi.pin⟩,he,?_⟩
 ·intro k p hp;change Heap.get ((i,.arr τ l[j])::(id,.deep (ver+1) τ l (some j))::m.G) k=_ at hp;rw[get3]at hp;split at hp
  ·rename_i e;subst e
   cases hp;show HdrW m.w m.F (ι' i) τ l[j];rw[hιi];exact hvH
  rename_i hik;split at hp
  ·rename_i e;subst e
   cases hp;exact⟨u,_,hιd,hd'⟩
  rename_i hid;exact co he (hιo k (Ne.symm hik) (Ne.symm hid)) (λ_ _=>rfl) (hi.objs k p hp)
 ·intro k p b hp hop hb;rcases src k p b hp hop hb with⟨_,h⟩|⟨_,h,_⟩|⟨_,_,h,h'⟩
  ·exact hi.own id _ b hg rfl (hbv b h)
  ·exact hi.own id _ b hg rfl h
  exact hi.own k p b h hop h'
 ·intro k k' p q b hp hop hq hoq hb hb';rcases src k p b hp hop hb with⟨e,h⟩|⟨e,h,hnv⟩|⟨n1,n2,h,h'⟩<;>rcases src k' q b hq hoq hb' with⟨e',g⟩|⟨e',g,gnv⟩|⟨n3,n4,g,g'⟩
  ·rw[e,e']
  ·exact absurd h gnv
  ·exact absurd (hi.inj id k' _ q b hg rfl g hoq (hbv b h) g') (Ne.symm n4)
  ·exact absurd g hnv
  ·rw[e,e']
  ·exact absurd (hi.inj id k' _ q b hg rfl g hoq h g') (Ne.symm n4)
  ·exact absurd (hi.inj k id p _ b h hop hg rfl h' (hbv b g)) n2
  ·exact absurd (hi.inj k id p _ b h hop hg rfl h' g) n2
  exact hi.inj k k' p q b h hop g hoq h' g'
 exact⟨bK hvH,.arr τ l[j],by rw[get3,if_pos rfl],λ_=>hιi.symm⟩
theorem It (hi:Inv C w0 M m){id ver j:Nat}{τ : Ty}{l:List (List τ.den)}{hole:Option Nat}(hg:m.G.get id=some (.deep ver τ l hole))(hj:j < l.length)(hh:hole=none\/hole=some j)
  {v:Value} {x:List τ.den} (hx:HdrW m.w m.F v τ x) (hf:dj w0 M m v) {w1:World} {b off cap:Nat} {c:Array Value} {el:TypeId} {fz:Nat×Nat} {us:Array Value} (hu:m.ι id=.tuple us) (hu0:us[0]?=some (.slice (some ⟨b,off,none⟩) l.length cap)) (hc0:cap≠0)
  (hb:m.w.heap[b]?=some (.cells c el fz)) (hw:Wrote m.w b w1) (hb1:w1.heap[b]?=some (.cells (aP c (off+j) [v]) el fz)) :
  ∃ m',m'.w=w1/\m'.F=m.F/\m'.G=(id,.deep (ver+1) τ (l.set j x) none)::m.G/\Inv C w0 M m'/\Evo m m':=by
 obtain⟨u,hs,h1,h2⟩:=cK hi hg;rw[h1]at hu;simp only[Value.tuple.injEq]at hu;subst hu;simp only[B9,B5,bd]at hu0;subst hu0;have hjs:j<hs.length:=by rw[h2.len];exact hj
 have hbo:HB (m.ι id) b:=by rw[h1,ct h2.one];exact⟨_,RX ..,hc0,rfl⟩
 obtain⟨o1,o2,o3⟩:=hi.own id _ b hg rfl hbo;have hvb:¬HB v b:=λh=>(hf b h).2.2.2 id _ hg rfl hbo;have hF:∀ b',m.F b'->m.F b'/\w1.heap[b']?=m.w.heap[b']?:=λb' hb'=>⟨hb',hw.block b' (λe=>o2 (e▸hb'))⟩;obtain⟨ι',hι'⟩:∃ ι':Nat->Value,ι'=λk=>if k=id then .tuple (.slice (some ⟨b,off,none⟩) l.length cap::hs.set j v).toArray else m.ι k:=⟨_,rfl⟩;have hιd:ι' id=.tuple (.slice (some ⟨b,off,none⟩) l.length cap::hs.set j v).toArray:=by rw[hι'];simp
 have hιo:∀ k,k≠id->ι' k=m.ι k:=λk a=>by rw[hι'];simp[a]
 have hd':DeepW w1 m.F (.slice (some ⟨b,off,none⟩) l.length cap) (hs.set j v) τ (l.set j x) none:=by
  obtain⟨ad,cap',e1,q2,q3,q4⟩:=h2.outer;simp only[Value.slice.injEq,true_and]at e1;obtain⟨rfl,rfl⟩:=e1;obtain⟨b',off',c',el',fz',e2,r2,r3,r4,r5⟩:=q4 hc0;cases e2;rw[hb]at r2;cases r2;have hfit:off+j+[v].length<=c.size:=by simp;omega
  refine⟨by simpa using h2.len,⟨_,cap,by simp,by simpa using q2,q3,λ_=>⟨b,off,_,el,fz,rfl,hb1,by rw[bG _ _ _ hfit];exact r3,by rw[bG _ _ _ hfit];exact r4,λk hk _=>?_⟩⟩,λk hk v' hv' _=>?_,λk v' hk=>(by cases hk),?_⟩
  ·simp only[Su]at hk;rw[dJ _ _ _ hfit];by_cases e:j=k
   ·subst e;rw[if_pos (by simp),SW hjs];simp
   rw[if_neg (by simp only[RJ,RQ];omega),SL e];exact r5 k hk (by rcases hh with rfl|rfl<;>simp[e])
  ·simp only[Su]at hk;by_cases e:j=k
   ·subst e;rw[SW hjs]at hv';cases hv';rw[S4];exact hx.mono hF (λb' hb'=>hw.block b' (λe=>by subst e;exact hvb hb'))
   rw[SL e]at hv';rw[Sx e];refine(h2.inner k hk v' hv' (by rcases hh with rfl|rfl<;>simp[e])).mono hF (λb' hb'=>hw.block b' (λe=>?_));subst e;exact jx h2.apart (i:=0) (j:=k+1) (by omega) rfl (by simpa using hv') ⟨hc0,rfl⟩ hb'
  have old:∀ k v',(Value.slice (some ⟨b,off,none⟩) l.length cap::hs)[k]?=some v'->∀ b',HB v' b'->HB (m.ι id) b':=λk v' hk b' hb'=>by rw[h1,ct h2.one];exact⟨v',B7 hk,hb'⟩
  have get:∀ k (hk:k<(Value.slice (some ⟨b,off,none⟩) l.length cap::hs.set j v).length),(k=j+1/\(Value.slice (some ⟨b,off,none⟩) l.length cap::hs.set j v)[k]=v)\/(k≠j+1/\(Value.slice (some ⟨b,off,none⟩) l.length cap::hs)[k]?=some (Value.slice (some ⟨b,off,none⟩) l.length cap::hs.set j v)[k]):=by
   intro k hk;cases k with
   |zero=>right;simp
   |succ k=>
    simp only[TS,L4];by_cases e:j=k
    ·subst e;left;simp
    right;simp only[RJ,Su]at hk;refine⟨by omega,?_⟩;rw[Sx e,dg]
  rw[cP,R3];intro p q hp hq hpq b' hb1' hb2';rcases get p hp with⟨e0,e⟩|⟨_,e⟩<;>rcases get q hq with⟨e0',e'⟩|⟨_,e'⟩
  ·omega
  ·rw[e]at hb1';exact(hf b' hb1').2.2.2 id _ hg rfl (old q _ e' b' hb2')
  ·rw[e']at hb2';exact(hf b' hb2').2.2.2 id _ hg rfl (old p _ e b' hb1')
  exact jx h2.apart (by omega) e e' hb1' hb2'
 have hbd:∀ b',HB (ι' id) b'->HB (m.ι id) b'\/HB v b':=by
  intro b' hb';rw[hιd,ct hd'.one]at hb';obtain⟨v',hv',hb'⟩:=hb';rcases A6.1 hv' with rfl|hv'
  ·left;rw[h1,ct h2.one];exact⟨_,RX ..,hb'⟩
  rcases TM hv' with hv'|rfl
  ·left;rw[h1,ct h2.one];exact⟨_,RB _ hv',hb'⟩
  exact .inr hb'
 have he:Evo m ⟨w1,m.F,ι',(id,.deep (ver+1) τ (l.set j x) none)::m.G⟩:=by
  refine⟨hF,λk p hp=>?_⟩;by_cases e:id=k
  ·subst e;rw[hg]at hp;cases hp;refine⟨_,by rw[Heap.get_cons,if_pos rfl],.inr (.inr ?_)⟩;show mg (m.ι id) (ι' id) _ _;rw[h1,hιd];exact⟨TH _,rfl,by simp,_,_,rfl,rfl,by simp⟩
  exact⟨p,by rw[Heap.get_cons,if_neg e];exact hp,.inr (.inl ⟨hιo k (Ne.symm e),Alike.refl p⟩)⟩
 refine⟨⟨w1,m.F,ι',(id,.deep (ver+1) τ (l.set j x) none)::m.G⟩,rfl,rfl,rfl,⟨?_,?_,?_,?_,?_,?_,hi.bnd,cd he hi.pin⟩,he⟩
 ·refine⟨hw.os.trans hi.kept.os,hw.tape.trans hi.kept.tape,hw.output.trans hi.kept.output,by show _<=w1.heap.size;rw[hw.size];exact hi.kept.size,λk hk hM=>?_⟩;refine(hw.block k ?_).trans (hi.kept.block k hk hM);intro e;subst e
  rcases o1 with o1|o1
  ·omega
  exact hM o1
 ·intro k p hp;change Heap.get ((id,.deep (ver+1) τ (l.set j x) none)::m.G) k=_ at hp;rw[Heap.get_cons]at hp;split at hp
  ·rename_i e;subst e
   cases hp;exact⟨_,_,hιd,hd'⟩
  rename_i hne;by_cases hop:isObj p=true
  ·refine co he (hιo k (Ne.symm hne)) (λb' hb'=>hw.block b' ?_) (hi.objs k p hp);intro e;subst e
   exact hne (hi.inj id k _ p b' hg rfl hp hop hbo hb')
  cases p<;>simp_all[isObj,dm]
 ·intro k p b' hp hop hb';change Heap.get ((id,.deep (ver+1) τ (l.set j x) none)::m.G) k=_ at hp;rw[Heap.get_cons]at hp;have:(w0.heap.size<=b'\/M b')/\¬m.F b'/\b'<m.w.heap.size:=by
   split at hp
   ·rename_i e;subst e
    rcases hbd b' hb' with h|h
    ·exact hi.own id _ b' hg rfl h
    obtain⟨k1,k2,k3,_⟩:=hf b' h;exact⟨k1,k2,k3⟩
   rename_i hne;exact hi.own k p b' hp hop (by rw[<- hιo k (Ne.symm hne)];exact hb')
  exact⟨this.1,this.2.1,by show b'<w1.heap.size;rw[hw.size];exact this.2.2⟩
 ·intro k k' p q b' hp hop hq hoq hb hb';change Heap.get ((id,.deep (ver+1) τ (l.set j x) none)::m.G) _=_ at hp hq;rw[Heap.get_cons]at hp hq;split at hp<;>split at hq
  ·omega
  ·rename_i e hne;subst e
   have hb':HB (m.ι k') b':=by rw[<- hιo k' (Ne.symm hne)];exact hb'
   rcases hbd b' hb with h|h
   ·exact hi.inj id k' _ q b' hg rfl hq hoq h hb'
   exact absurd hb' ((hf b' h).2.2.2 k' q hq hoq)
  ·rename_i hne e;subst e
   have hb:HB (m.ι k) b':=by rw[<- hιo k (Ne.symm hne)];exact hb
   rcases hbd b' hb' with h|h
   ·exact hi.inj k id p _ b' hp hop hg rfl hb h
   exact absurd hb ((hf b' h).2.2.2 k p hp hop)
  rename_i n1 n2;exact hi.inj k k' p q b' hp hop hq hoq (by rw[<- hιo k (Ne.symm n1)];exact hb) (by rw[<- hιo k' (Ne.symm n2)];exact hb')
 ·intro b' hF';show b'<w1.heap.size;rw[hw.size];exact hi.fro b' hF'
 intro g τ x hx;exact(hi.glob g τ x hx).mono he.fro
end
end Go.Vm

/-
 The machine's operations against the model's: memory.
-/
namespace Go.Vm
section
variable {P:Program}{C:Ctx}{w0:World}{M:Own}{o:Oper}{a:Act}{m:Mem}{s s':St}
theorem gB{R:Type}{v:SV}{K:Int->Option R}{r:R}(h:asI v K=some r):∃(k:IntKind) (n:Int),v=.av (.val (.int k) n)/\K n=some r:=by
 unfold asI at h;split at h
 ·exact⟨_,_,rfl,h⟩
 simp at h
theorem mP (hi:Inv C w0 M m){id:Nat}{τ : Ty}{l:List τ.den}(hg:m.G.get id=some (.arr τ l)){j:Nat}(hj:j < l.length) :
  ∃ b off cap c el fz,m.ι id=.slice (some ⟨b,off,none⟩) l.length cap/\l.length<=cap/\cap≠0/\m.w.heap[b]?=some (.cells c el fz)/\eJ τ c.size fz/\off+cap*τ.size<=c.size /\
   off+j*τ.size+τ.size<=c.size/\(∀ i (h:i<l.length),Rd m.w m.F τ (seg c (off+i*τ.size) τ.size) l[i])/\cap<=maxLen:=by
 obtain⟨ad,cap,h1,h2,h3,h4⟩:=hi.objs id _ hg;have hc:cap≠0:=by omega
 obtain⟨b,off,c,el,fz,rfl,q2,q3,q4,q5⟩:=h4 hc;refine⟨b,off,cap,c,el,fz,h1,h2,hc,q2,q3,q4,?_,q5,h3⟩;have:(j+1)*τ.size<=cap*τ.size:=A4 _ (by omega);rw[B3]at this;omega
theorem kv {k:IntKind}:∀{us:List Value} {l:List Atom} {xs:List Int},jA k l=some xs->Rel2 (ak m) us l ->
  us.length=xs.length/\∀ i,i<xs.length->∃ u,us[i]?=some u/\ak m u (.val (.int k) (xs.getD i 0))
 |[],[],xs,h,_=>by simp[jA]at h;subst h;simp
 |_::_,[],_,_,h=>h.elim
 |[],_::_,_,_,h=>h.elim
 |u::us,b::l,xs,h,hr=>by
  unfold jA at h;split at h
  ·simp_all
  ·rename_i k' x r he;simp only[SK]at he;obtain⟨rfl,rfl⟩:=he;cases hk:decide (k'=k)with
   |false=>rw[hk]at h;simp at h
   |true=>
    have:k'=k:=by simpa using hk
    subst this;rw[hk,UA]at h;split at h
    ·rename_i ys hy;cases h;obtain⟨h1,h2⟩:=kv hy hr.2;refine⟨by simp[h1],λi hi=>?_⟩;cases i with
     |zero=>exact⟨u,rfl,hr.1⟩
     |succ i=>obtain⟨v,q1,q2⟩:=h2 i (by simpa using hi);exact⟨v,by simpa using q1,by simpa using q2⟩
    simp at h
  simp at h
theorem nx {m':Mem}{k:IntKind}{y:Int}{v:Value}{idx:Nat}(hv:ak m' v (.val (.int k) y)):∀{us:List Value} {xs:List Int} {j:Nat},us.length=xs.length ->
  (∀ i,i<xs.length->∃ u,us[i]?=some u/\ak m' u (.val (.int k) (xs.getD i 0)))->Rel2 (ak m') (if j<=idx then us.set (idx-j) v else us) (setCells k idx y j xs)
 |[],[],j,_,_=>by split<;>simp[setCells,Rel2]
 |_::_,[],_,h,_=>by simp at h
 |[],_::_,_,h,_=>by simp at h
 |u::us,x::xs,j,h,hr=>by
  have ih:=nx (idx:=idx) (us:=us) (xs:=xs) (j:=j+1) hv (by simpa using h) (λi hi=>by
   obtain⟨w,q1,q2⟩:=hr (i+1) (by simpa using hi);exact⟨w,by simpa using q1,by simpa using q2⟩)
  obtain⟨u0,q1,q2⟩:=hr 0 (by simp);simp only[B5,bd]at q1;subst q1;simp only[List.getD_cons_zero]at q2;unfold setCells;by_cases e:idx=j
  ·subst e;rw[if_neg (by omega)]at ih;simp only[B2,if_true,Nat.sub_self,List.set_cons_zero,SU,UA];exact⟨hv,ih⟩
  have eb:A3 idx j=false:=by
   cases hb:A3 idx j with
   |false=>rfl
   |true=>exact absurd (xy hb) e
  rw[eb,UB];by_cases hj:j<=idx
  ·rw[if_pos hj];rw[if_pos (by omega)]at ih;have:idx-j=(idx-(j+1))+1:=by omega
   rw[this,List.set_cons_succ];exact⟨q2,ih⟩
  rw[if_neg hj];rw[if_neg (by omega)]at ih;exact⟨q2,ih⟩
theorem J9 {t:TypeId}{x:Operand}(hT:cA P C.tab=true)(hi:Inv C w0 M m)(hG:m.G=s.G)(hS:∀ x,RelSV m (a.eval x) (ai C s.env x))(ho:o.op=.load t x)
  (h:bj C o s some=some s'):Does P o a m.w (Res C w0 M m s s' o.dst):=by
 simp only[aB,aQ,ho]at h;have hx:=hS x;have fin {v:Value} {ad:Addr} {sv:SV} (hv:a.eval x=.pointer (some ad)) (hl:(loadVar t ad).run P m.w=.ok v m.w) (hr:RelSV m v sv) (hs:some (ah o.dst sv s)=some s') :
   Does P o a m.w (Res C w0 M m s s' o.dst):=
  aD hi hG (v:=v) (by simp[execOp,ho,hv,Instr.loadAt,Instr.sureAddr,hl]) hr hs
 split at h
 ·rename_i τ p ht hp;have hck:=qu hT ht;rw[hp]at hx;unfold loadAt at h;split at h
  ·rename_i id off;obtain⟨_,ob,hob,hv⟩:=(aw (m:=m) (a:=.ptr id off) (by intros;simp)).1 hx;rw[hG]at hob;split at h
   ·rename_i l hl;rw[hl]at hob;simp only[bd]at hob;subst hob;obtain⟨b,hι,hv⟩:=hv;obtain⟨b',c,el,h1,h2,h3,h4⟩:=hi.objs id _ (hG▸hl);rw[hι]at h1;simp only[Value.pointer.injEq,bd,Addr.mk.injEq,and_true]at h1;subst h1;split at h
    ·rename_i cs hcs;obtain⟨rfl,hle⟩:=ir hcs;have hlen:=h4.length;simp only[RC,So]at hlen hle;by_cases hz:off+τ.size<=c.size
     ·refine fin hv (dF hck h2 hz) (jc ?_ ((h4.drop off).take τ.size)) h;intro u hu;exact h3 u (Sg (R9 hu))
     have hz0:τ.size=0:=by omega
     cases ha:τ.isAgg with
     |false=>have:=eG ha;omega
     |true=>
      refine fin (v:=.agg #[]) (sv:=ew τ ((l.drop off).take τ.size)) hv ?_ ?_ h
      ·simp[loadVar,hck.agg,ha,hck.size,hz0,loadCells,loadCellsFrom]
      rw[hz0];simp only[List.take_zero,ew,ha,UA];exact⟨[],rfl,by simp,trivial⟩
    simp at h
   simp at h
  ·rename_i id j p';obtain⟨_,ob,hob,hv⟩:=(aw (m:=m) (a:=.aptr id j p') (by intros;simp)).1 hx;rw[hG]at hob;split at h
   ·rename_i σ l hl;rw[hl]at hob;simp only[bd]at hob;subst hob;obtain⟨hj,b,off,n,cap,q,hι,hq,hv⟩:=hv;obtain⟨b',off',cap',c,el,fz,h1,h2,h3,h4,h5,h6,h7,h8,h9⟩:=mP hi (hG▸hl) hj;rw[hι]at h1;simp only[Value.slice.injEq,bd,Addr.mk.injEq,and_true]at h1;obtain⟨⟨rfl,rfl⟩,rfl,rfl⟩:=h1;rw[dg hj]at h;simp only[pw]at h;split at h
    ·rename_i t' y hy;obtain⟨o',r1,r2,r3⟩:=qi hy (h8 j hj);rw[r1]at hq;simp only[bd]at hq;subst hq;split at h
     ·rename_i z hz;obtain⟨e,hz⟩:=aH hz;subst e;subst hz
      have hseg:((seg c (off+j*σ.size) σ.size).drop o').take t'.size=seg c (off+j*σ.size+o') t'.size:=by unfold seg;rw[eH _ _ _ _ _ r2]
      rw[hseg]at r3;exact fin hv (dF hck h4 (by simp only;omega)) (sX r3) h
     simp at h
    simp at h
   ·rename_i ver σ l hl;rw[hl]at hob;simp only[bd]at hob;subst hob;obtain⟨hj,rfl,b,off,n,cap,us,hι,h0,hv⟩:=hv;by_cases hτ:τ=.slice σ
    ·subst hτ;simp only[decide_true,Uf,Us,UA]at h;obtain⟨u,hs,h1,h2⟩:=cK hi (hG▸hl);obtain⟨b',off',cap',c,el,fz,v,q1,q2,q3,q4,q5,q6,q7,q8⟩:=oA h2 hj;obtain⟨q8,q9⟩:=q8 (by simp);rw[h1]at hι;simp only[Value.tuple.injEq]at hι;subst hι;simp only[B9,B5,bd]at h0;rw[h0]at q1;simp only[Value.slice.injEq,bd,Addr.mk.injEq,and_true]at q1;obtain⟨⟨rfl,rfl⟩,rfl,rfl⟩:=q1;have hlt:off+j<c.size:=by omega
     have hld:=dF hck q3 (off:=off+j) (by simp only[Ty.size];omega);have hseg:seg c (off+j) (Ty.slice σ).size=[v]:=by obtain⟨_,e⟩:=L5.1 q8;simp only[Ty.size,seg];rw[Sr (by simpa using hlt)];simp[e]
     rw[hseg]at hld;refine fin (sv:=.av (.sub id ver j)) hv hld ?_ h;exact(aw (m:=m) (v:=v) (a:=.sub id ver j) (by intros;simp)).2 ⟨bK q9,.deep ver σ l none,hG▸hl,B2 _,λ_=>⟨hj,rfl,_,h1,by simpa using q7⟩⟩
    simp[hτ]at h
   simp at h
  ·rename_i id ver j k;obtain⟨_,ob,hob,hv⟩:=(aw (m:=m) (a:=.saptr id ver j k) (by intros;simp)).1 hx;rw[hG]at hob;split at h
   ·rename_i ver' σ l hl;rw[hl]at hob;simp only[bd]at hob;subst hob;cases hb:A3 ver ver' with
    |false=>rw[hb]at h;simp at h
    |true=>
     rw[hb]at h;have:=xy hb;subst this;obtain⟨hj,_,us,b,off,n,cap,hι,h0,hk,hv⟩:=hv.2 rfl;simp only[UA,jS hj]at h;obtain⟨y,hy,h⟩:=A1.1 h;obtain⟨hkl,rfl⟩:=A7.1 hy;split at h
     ·rename_i z hz;obtain⟨e,hz⟩:=aH hz;subst e;subst hz
      obtain⟨u,hs,h1,h2⟩:=cK hi (hG▸hl);rw[h1]at hι;simp only[Value.tuple.injEq]at hι;subst hι;simp only[B9,L4]at h0;have q9:=h2.inner j hj _ h0 (by simp);obtain⟨b',off',cap',c,el,fz,q1,q2,q3,q4,q5,q6⟩:=zi q9 hkl;simp only[Value.slice.injEq,bd,Addr.mk.injEq,and_true]at q1;obtain⟨⟨rfl,rfl⟩,rfl,rfl⟩:=q1;exact fin hv (dF hck q3 (by omega)) (sX q6) h
     simp at h
   simp at h
  ·rename_i σ y;split at h
   ·rename_i z hz;obtain⟨e,hz⟩:=aH hz;subst e;subst hz
    obtain⟨b,off,c,el,fz,h1,h2,h3,h4,h5⟩:=pG hx;exact fin h1 (dF hck h3 h4) (sX h5) h
   simp at h
  ·rename_i id off cnt idx wd;obtain⟨_,ob,hob,hv⟩:=(aw (m:=m) (a:=.iptr id off cnt idx wd) (by intros;simp)).1 hx;rw[hG]at hob;split at h
   ·rename_i _ _ _ l k hl;rw[hl]at hob;simp only[bd]at hob;subst hob;obtain⟨hw,b,hι,hv⟩:=hv;obtain⟨b',c,el,h1,h2,h3,h4⟩:=hi.objs id _ (hG▸hl);rw[hι]at h1;simp only[Value.pointer.injEq,bd,Addr.mk.injEq,and_true]at h1;subst h1;split at h
    ·rename_i xs hxs;cases hb:(A3 wd 1&&A3 xs.length cnt)with
     |false=>rw[hb]at h;simp at h
     |true=>
      rw[hb]at h;simp only[UA]at h;simp only[np]at hb;have b1:=xy hb.1;have b2:=xy hb.2;obtain⟨r1,r2⟩:=kv hxs ((h4.drop off).take cnt);obtain⟨u,r3,r4⟩:=r2 idx (by omega);have hlt:off+idx<c.size:=by have:=(A7.1 r3).1;simp at this;omega
      rw[L8,if_pos (by omega),Sf]at r3;have hseg:seg c (off+idx) (Ty.int k).size=[u]:=by obtain⟨_,e⟩:=A7.1 r3;simp only[Ty.size,seg];rw[Sr (by simpa using hlt)];simp[e]
      have hld:=dF hck h2 (off:=off+idx) (by simp only[Ty.size];omega);rw[hseg]at hld;exact fin (sv:=.av (.val (.int k) (xs.getD idx 0))) hv hld ⟨[u],by simp[toV,Ty.isAgg],r4.1⟩ h
    simp at h
   simp at h
  simp at h
 simp at h
theorem nR{τ:Ty}(hck:τ.isPC=false){G:Heap}{v:SV}{x:τ.den}(h:aV G τ v=some x):dc G v=bV v:=by
 cases v with
 |av a=>
  cases a with
  |ptr _ _=>cases τ<;>simp[aV]at h;cases hck
  |clo _ _=>cases τ<;>simp[aV]at h;cases hck
  |_=>rfl
 |agg _=>rfl
 |tup _=>rfl
theorem bL:∀(ids:List Nat) (G:Heap) (i:Nat),i∉ids->(aA ids G).get i=G.get i
 |[],_,_,_=>rfl
 |j::r,G,i,h=>by simp only[A6,not_or]at h;show(aA r ((j,.dead)::G)).get i=_;rw[bL r _ i h.2,Heap.get_cons,if_neg (Ne.symm h.1)]
theorem o7 (hi:Inv C w0 M m){σ : Ty}{v:SV}{u:Value}{x:List σ.den×List Nat}(h:pL m.G σ v=some x)(hr:RelSV m u v) :
  HdrW m.w m.F u σ x.1/\((x.2=[]/\∀ b,¬HB u b)\/∃ id,x.2=[id]/\m.G.get id=some (.arr σ x.1)/\u=m.ι id):=by
 unfold pL at h;split at h
 ·cases h;obtain⟨ad,rfl,_⟩:=hr;exact⟨⟨ad,0,rfl,by simp,by unfold maxLen;omega,λh=>absurd rfl h⟩,.inl ⟨rfl,λb hb=>by cases ad<;>simp[HB,HB1]at hb⟩⟩
 ·rename_i id;split at h
  ·rename_i τ l hg;split at h
   ·rename_i y hy;cases h;obtain⟨e,hy⟩:=aH hy;simp only[Ty.slice.injEq]at e;subst e;subst hy
    obtain⟨_,ob,hob,hv⟩:=hr;rw[hg]at hob;cases hob;have hv:=hv rfl;subst hv;exact⟨hi.objs id _ hg,.inr ⟨id,rfl,hg,rfl⟩⟩
   simp at h
  simp at h
 simp at h
theorem CK{R:Type}{hole:Option Nat}{j:Nat}{K:Option R}{r:R}(h:uT hole j K=some r):(hole=none\/hole=some j)/\K=some r:=by
 unfold uT at h;split at h
 ·exact⟨.inl rfl,h⟩
 split at h
 ·rename_i e;subst e;exact⟨.inr rfl,h⟩
 simp at h
theorem Fe {t:TypeId}{x y:Operand}(hT:cA P C.tab=true)(hi:Inv C w0 M m)(hG:m.G=s.G)(hS:∀ x,RelSV m (a.eval x) (ai C s.env x))(ho:o.op=.store t x y)
  (h:bj C o s some=some s'):Does P o a m.w (Res C w0 M m s s' o.dst):=by
 simp only[aB,aQ,ho]at h;have hx:=hS x;have hy:=hS y;split at h
 ·rename_i τ p ht hp;have hck:=qu hT ht;rw[hp]at hx;unfold storeAt at h;split at h
  ·rename_i id off;obtain⟨_,ob,hob,hv⟩:=(aw (m:=m) (a:=.ptr id off) (by intros;simp)).1 hx;rw[hG]at hob;split at h
   ·rename_i l hl;rw[hl]at hob;simp only[bd]at hob;subst hob;obtain⟨b,hι,hv⟩:=hv;obtain⟨b',c,el,h1,h2,h3,h4⟩:=hi.objs id _ (hG▸hl);rw[hι]at h1;simp only[Value.pointer.injEq,bd,Addr.mk.injEq,and_true]at h1;subst h1;split at h
    ·rename_i cs hcs;obtain⟨k1,k2⟩:=kW hcs hy;cases hb:A3 cs.length τ.size with
     |false=>rw[hb]at h;simp at h
     |true=>
      rw[hb]at h;simp only[UA]at h;have hcl:=xy hb;split at h
      ·rename_i l' hl';obtain⟨rfl,hle⟩:=lU hl';have hlen:=h4.length;have hlen2:=k1.length;simp only[RC]at hlen hlen2;have hst:=eK (te:=.unit) hck h2 (.inl (B2 _)) (off:=off) (by omega) (v:=a.eval y) (by omega) k2;obtain⟨g1,g2⟩:=dI hi (id:=id) (o:=.box l) (o':=.box (l.take off++cs++l.drop (off+cs.length))) (b:=b) (hG▸hl) rfl (by rw[hι];rfl) trivial
        (w1:=m.w.setRow b (aP c off (a.eval y).cells.toList)) (cD _ _ _) (λhe=>by
         refine⟨b,_,el,hι,setRow_heap m.w b c _ el _ h2,?_,?_⟩
         ·intro u hu;simp only[aP,A5]at hu;rcases hu with(hu|hu)|hu
          ·exact h3 u (R9 hu)
          ·exact k2 u hu
          exact h3 u (Sg hu)
         have e1:=da he h4;have e2:=da he k1;have hsp:(aP c off (a.eval y).cells.toList).toList=c.toList.take off++(a.eval y).cells.toList++c.toList.drop (off+cs.length):=by simp only[aP,<- hlen2,RC]
         rw[hsp];exact((e1.take off).append e2).append (e1.drop _))
       refine Does.skip (w':=m.w.setRow b (aP c off (a.eval y).cells.toList)) (by simp[execOp,ho,hv,Instr.storeAt,Instr.sureAddr,hst]) ⟨_,.av .undef,rfl,?_,g1,g2,rfl⟩;simp only[bd]at h;rw[<- h,hG];rfl
      simp at h
    simp at h
   simp at h
  ·rename_i id j p';obtain⟨_,ob,hob,hv⟩:=(aw (m:=m) (a:=.aptr id j p') (by intros;simp)).1 hx;rw[hG]at hob;split at h
   ·rename_i σ l hl;rw[hl]at hob;simp only[bd]at hob;subst hob;obtain⟨hj,b,off,n,cap,q,hι,hq,hv⟩:=hv;split at h
    ·rename_i z hz;rw[dg hj]at h;simp only[pw]at h;split at h
     ·rename_i x' hx';cases hc:((bV (ai C s.env y)).contains id||τ.isPC)with
      |true=>rw[hc]at h;simp at h
      |false=>
       rw[hc]at h;simp only[UB,bd]at h;rw[Sj]at hc;obtain⟨hc,hcl⟩:=hc;have hnot:id∉bV (ai C s.env y):=by simpa using hc
       rw[<- hG]at hz;obtain⟨cs,hcs,hrd⟩:=dw hi hz hy;rw[nR hcl hz]at hrd;obtain⟨m1,a1,a2,a3,a4,a5,a6⟩:=dp (bV (ai C s.env y)) hi;have hrd1:Rd m1.w m1.F τ cs z:=hrd.mono (λb hb=>⟨a6 b hb,by rw[a1]⟩);have hg1:m1.G.get id=some (.arr σ l):=by rw[a3,bL _ _ _ hnot,hG];exact hl
       obtain⟨b',off',cap',c,el,fz,h1,h2,h3,h4,h5,h6,h7,h8,h9⟩:=mP a4 hg1 hj;rw[a2,hι]at h1;simp only[Value.slice.injEq,bd,Addr.mk.injEq,and_true]at h1;obtain⟨⟨rfl,rfl⟩,rfl,rfl⟩:=h1;obtain⟨o',r1,r2,r3⟩:=mH hx' (h8 j hj) hrd1;rw[r1]at hq;simp only[bd]at hq;subst hq;have hvc:(a.eval y).cells=cs.toArray:=by rw[hcs];exact lO hrd1
       have hlen:=hrd1.len;rw[a1]at h4;have hst:=eK hck h4 h5 (off:=off+j*σ.size+o') (by omega) (v:=a.eval y) (by rw[hvc];simpa using hlen) (by rw[hvc];simpa using hrd1.one);rw[hvc]at hst;simp only at hst;have hfit:off+j*σ.size+o'+cs.length<=c.size:=by omega
       obtain⟨g1,g2⟩:=dI a4 (id:=id) (o:=.arr σ l) (o':=.arr σ (l.set j x')) (b:=b) hg1 rfl (by rw[a2,hι];simp[HB,HB1,h3]) ⟨rfl,by simp⟩
        (w1:=m.w.setRow b (aP c (off+j*σ.size+o') cs)) (by rw[a1];exact cD _ _ _) (λhe=>by
         refine⟨some ⟨b,off,none⟩,cap,by simp only[a2,hι,Su],by simpa using h2,h9,λ_=>?_⟩;refine⟨b,off,_,el,fz,rfl,setRow_heap m.w b c _ el _ h4,by rw[bG _ _ _ hfit];exact h5,by rw[bG _ _ _ hfit];exact h6,λi hi'=>?_⟩;simp only[Su]at hi';by_cases hij:j=i
         ·subst hij;rw[S4];refine Rd.mono (λb hb=>⟨hb,(he.fro b hb).2⟩) (w:=m1.w) (F:=m1.F) ?_;have:seg (aP c (off+j*σ.size+o') cs) (off+j*σ.size) σ.size=(seg c (off+j*σ.size) σ.size).take o'++cs++(seg c (off+j*σ.size) σ.size).drop (o'+cs.length):=by
           apply Sl;intro k;have hsl:=dK c (off+j*σ.size) σ.size (by omega);by_cases hk:k<σ.size
           ·rw[seg_getElem? _ _ _ _ hk,dJ _ _ _ hfit];simp only[TZ,RT,SO,hsl,L8,Sf];have hmin:min o' σ.size=o':=by omega
            rw[hmin];by_cases k1:k<o'
            ·rw[if_neg (by omega),if_pos (by omega),if_pos k1,if_pos k1,seg_getElem? _ _ _ _ hk]
            by_cases k2:k<o'+cs.length
            ·rw[if_pos (by omega),if_pos k2,if_neg k1];congr 1;omega
            rw[if_neg (by omega),if_neg k2,seg_getElem? _ _ _ _ (by omega)];congr 1;omega
           have e1:(seg (aP c (off+j*σ.size+o') cs) (off+j*σ.size) σ.size)[k]?=none:=by apply SG;rw[dK _ _ _ (by rw[bG _ _ _ hfit];omega)];omega
           have e2:((seg c (off+j*σ.size) σ.size).take o'++cs++(seg c (off+j*σ.size) σ.size).drop (o'+cs.length))[k]?=none:=by apply SG;simp[hsl];omega
           rw[e1,e2]
          rw[this];exact r3
         rw[Sx hij];refine Rd.mono (λb hb=>⟨hb,(he.fro b hb).2⟩) (w:=m1.w) (F:=m1.F) ?_;rw[cw _ _ _ hfit]
         ·exact h8 i hi'
         rcases Tw hij with hlt|hgt
         ·right;have:(j+1)*σ.size<=i*σ.size:=A4 _ hlt;rw[B3]at this;omega
         left;have:(i+1)*σ.size<=j*σ.size:=A4 _ hgt;rw[B3]at this;omega)
       refine Does.skip (w':=m.w.setRow b (aP c (off+j*σ.size+o') cs)) (by simp[execOp,ho,hv,Instr.storeAt,Instr.sureAddr,hst]) ⟨_,.av .undef,rfl,?_,g1,a5.trans g2,rfl⟩;rw[<- h,a3,hG];rfl
     simp at h
    simp at h
   ·rename_i ver σ l hole hl;rw[hl]at hob;simp only[bd]at hob;subst hob;obtain⟨hj,rfl,b,off,n,cap,us,hι,h0,hv⟩:=hv;by_cases hτ:τ=.slice σ
    ·subst hτ;simp only[decide_true,Uf,Us,UA]at h;split at h
     ·rename_i x hx';obtain⟨hh,h⟩:=CK h;simp only[bd]at h;rw[<- hG]at hx';obtain⟨k1,k2⟩:=o7 hi hx' hy;obtain⟨u,hs,h1,h2⟩:=cK hi (hG▸hl);obtain⟨b',off',cap',c,el,fz,v,q1,q2,q3,q4,q5,q6,q7,q8⟩:=oA h2 hj;rw[h1]at hι;simp only[Value.tuple.injEq]at hι;subst hι;simp only[B9,B5,bd]at h0;rw[h0]at q1;simp only[Value.slice.injEq,bd,Addr.mk.injEq,and_true]at q1;obtain⟨⟨rfl,rfl⟩,rfl,rfl⟩:=q1;have hone:=bK k1;have hcells:=lQ hone;have hst:=eK hck q3 q4 (off:=off+j) (by simp only[Ty.size];omega) (v:=a.eval y) (by rw[hcells];rfl) (by rw[hcells];simpa using hone);rw[hcells]at hst;have hids:∀ i∈x.2,∃ o,m.G.get i=some o:=by
       intro i hi';rcases k2 with⟨e,_⟩|⟨id2,e,hg2,_⟩
       ·rw[e]at hi';simp at hi'
       rw[e]at hi';simp at hi';subst hi';exact⟨_,hg2⟩
      have hnot:id∉x.2:=by
       intro hi';rcases k2 with⟨e,_⟩|⟨id2,e,hg2,_⟩
       ·rw[e]at hi';simp at hi'
       rw[e]at hi';simp at hi';subst hi'
       rw[hG,hl]at hg2;cases hg2
      obtain⟨d1,d2,d3,d4⟩:=kw x.2 hi hids;have hf:dj w0 M ⟨m.w,m.F,m.ι,aA x.2 m.G⟩ (a.eval y):=by
       intro b' hb';rcases k2 with⟨_,e⟩|⟨id2,e,hg2,e2⟩
       ·exact absurd hb' (e b')
       exact d4 id2 (by rw[e];simp) _ hg2 rfl b' (by rw[<- e2];exact hb')
      obtain⟨m',p1,p2,p3,p4,p5⟩:=It (m:=⟨m.w,m.F,m.ι,aA x.2 m.G⟩) d1 (id:=id) (ver:=ver) (j:=j) (by show(aA x.2 m.G).get id=_;rw[bL _ _ _ hnot,hG];exact hl) hj hh k1 hf h1 (by simp[h0]) q2 q3 (cD m.w b (aP c (off+j) [a.eval y])) (setRow_heap m.w b c _ el _ q3);refine Does.skip (w':=m.w.setRow b (aP c (off+j) [a.eval y])) (by simp[execOp,ho,hv,Instr.storeAt,Instr.sureAddr,hst]) ⟨m',.av .undef,p1,?_,p4,d2.trans p5,rfl⟩;rw[<- h,p3,hG];rfl
     simp at h
    simp[hτ]at h
   simp at h
  ·rename_i id ver j k;obtain⟨_,ob,hob,hv⟩:=(aw (m:=m) (a:=.saptr id ver j k) (by intros;simp)).1 hx;rw[hG]at hob;split at h
   ·rename_i ver' σ l hl;rw[hl]at hob;simp only[bd]at hob;subst hob;cases hc:(A3 ver ver'&&decide (τ=σ) && !((bV (ai C s.env y)).contains id||τ.isPC))with
    |false=>rw[hc]at h;simp at h
    |true=>
     rw[hc]at h;simp only[UA]at h;simp only[np,L7,decide_eq_true_eq,Sj]at hc;obtain⟨⟨hver,rfl⟩,hc,hcl⟩:=hc;have:=xy hver;subst this;have hnot:id∉bV (ai C s.env y):=by simpa using hc
     obtain⟨hj,_,us,b,off,n,cap,hι,h0,hk,hv⟩:=hv.2 rfl;split at h
     ·rename_i z hz;simp only[jS hj,bd]at h;rw[<- hG]at hz;obtain⟨cs,hcs,hrd⟩:=dw hi hz hy;rw[nR hcl hz]at hrd;obtain⟨m1,a1,a2,a3,a4,a5,a6⟩:=dp (bV (ai C s.env y)) hi;have hrd1:Rd m1.w m1.F τ cs z:=hrd.mono (λb hb=>⟨a6 b hb,by rw[a1]⟩);have hg1:m1.G.get id=some (.deep ver τ l none):=by rw[a3,bL _ _ _ hnot,hG];exact hl
      obtain⟨u,hs,h1,h2⟩:=cK a4 hg1;rw[a2]at h1;rw[h1]at hι;simp only[Value.tuple.injEq]at hι;subst hι;simp only[B9,L4]at h0;have q9:=h2.inner j hj _ h0 (by simp);have hkl:k<l[j].length:=by obtain⟨ad,cap1,e1,_⟩:=q9;simp only[Value.slice.injEq]at e1;omega
      obtain⟨b',off',cap',c,el,fz,q1,q2,q3,q4,q5,q6,q7⟩:=Kp q9 hkl hrd1;simp only[Value.slice.injEq,bd,Addr.mk.injEq,and_true]at q1;obtain⟨⟨rfl,rfl⟩,rfl,rfl⟩:=q1;have hvc:(a.eval y).cells=cs.toArray:=by rw[hcs];exact lO hrd1
      have hlen:=hrd1.len;rw[a1]at q3;have hst:=eK hck q3 q4 (off:=off+k*τ.size) (by omega) (v:=a.eval y) (by rw[hvc];simpa using hlen) (by rw[hvc];simpa using hrd1.one);rw[hvc]at hst;simp only at hst;have hbi:HB (.slice (some ⟨b,off,none⟩) l[j].length cap) b:=⟨q2,rfl⟩;have hbd:HB (m1.ι id) b:=by rw[a2,h1,ct h2.one];exact⟨_,RB _ (B7 h0),hbi⟩
      obtain⟨g1,g2⟩:=dI a4 (id:=id) (o:=.deep ver τ l none) (o':=.deep ver τ (l.set j (l[j].set k z)) none) (b:=b) hg1 rfl hbd ⟨rfl,rfl,by simp,rfl⟩
       (w1:=m.w.setRow b (aP c (off+k*τ.size) cs)) (by rw[a1];exact cD _ _ _) (λhe=>by
        refine⟨u,hs,by show m1.ι id=_;rw[a2];exact h1,?_⟩;refine w7 h2 hj h0 hbi he.fro (λk' hk'=>?_) (λ_=>q7 _ _ he.fro (setRow_heap m.w b c _ el _ q3)) (by simp);rw[a1];exact(cD m.w b (aP c (off+k*τ.size) cs)).block k' hk')
      refine Does.skip (w':=m.w.setRow b (aP c (off+k*τ.size) cs)) (by simp[execOp,ho,hv,Instr.storeAt,Instr.sureAddr,hst]) ⟨_,.av .undef,rfl,?_,g1,a5.trans g2,rfl⟩;rw[<- h,a3,hG];rfl
     simp at h
   simp at h
  ·rename_i id off cnt idx wd;obtain⟨_,ob,hob,hv⟩:=(aw (m:=m) (a:=.iptr id off cnt idx wd) (by intros;simp)).1 hx;rw[hG]at hob;split at h
   ·rename_i _ _ _ _ l k k' z hl hz;rw[hl]at hob;simp only[bd]at hob;subst hob;obtain⟨hw,b,hι,hv⟩:=hv;obtain⟨b',c,el,h1,h2,h3,h4⟩:=hi.objs id _ (hG▸hl);rw[hι]at h1;simp only[Value.pointer.injEq,bd,Addr.mk.injEq,and_true]at h1;subst h1;split at h
    ·rename_i xs hxs;cases hb:(A3 wd 1&&A3 xs.length cnt&&decide (k'=k))with
     |false=>rw[hb]at h;simp at h
     |true=>
      rw[hb]at h;simp only[UA]at h;simp only[np,decide_eq_true_eq]at hb;obtain⟨⟨hb1,hb2⟩,rfl⟩:=hb;have b1:=xy hb1;have b2:=xy hb2;rw[hz]at hy;obtain⟨hyv,hy1,hy2⟩:=cY hy;obtain⟨r1,r2⟩:=kv hxs ((h4.drop off).take cnt);have hsz:off+cnt<=c.size:=by have:=r1;simp at this;omega
      have hcl:(a.eval y).cells=#[.int k' z]:=by rw[hyv];rfl
      have hst:=eK (te:=.unit) hck h2 (.inl (B2 _)) (off:=off+idx) (by simp only[Ty.size];omega) (v:=a.eval y) (by rw[hcl];rfl) (by rw[hcl];simp[Value.oneCell']);rw[hcl]at hst;have hsp:(aP c (off+idx) [.int k' z]).toList=c.toList.take off++(((c.toList.drop off).take cnt).set idx (.int k' z)++c.toList.drop (off+cnt)):=by
       apply Sl;intro p;have hg:=dJ c (off+idx) [.int k' z] (by simp;omega) p;rw[R7,hg];simp only[RJ,RQ,RM,TZ,SO,Su,So,RC,L8,Sf,List.getElem?_set];by_cases p1:p<off
       ·rw[if_neg (by omega),if_pos (by omega),if_pos p1];simp
       have e1:min off c.size=off:=by omega
       have e2:min cnt (c.size-off)=cnt:=by omega
       rw[e1,e2,if_neg p1];by_cases p2:p-off<cnt
       ·rw[if_pos p2];by_cases p3:idx=p-off
        ·have p4:p=off+idx:=by omega
         subst p4;rw[if_pos (by omega),if_pos (by omega),if_pos (by omega)];simp
        rw[if_neg (by omega),if_neg p3,if_pos p2];have:off+(p-off)=p:=by omega
        rw[this];simp
       rw[if_neg p2,if_neg (by omega)];have:off+cnt+(p-off-cnt)=p:=by omega
       rw[this];simp
      obtain⟨g1,g2⟩:=dI hi (id:=id) (o:=.box l) (o':=.box (l.take off++(setCells k' idx z 0 xs++l.drop (off+cnt)))) (b:=b) (hG▸hl) rfl (by rw[hι];rfl) trivial
       (w1:=m.w.setRow b (aP c (off+idx) [.int k' z])) (cD _ _ _) (λhe=>by
        refine⟨b,_,el,hι,setRow_heap m.w b c _ el _ h2,?_,?_⟩
        ·intro u hu;rw[hsp]at hu;simp only[A5]at hu;rcases hu with hu|hu|hu
         ·exact h3 u (R9 hu)
         ·rcases TM hu with hu|hu
          ·exact h3 u (Sg (R9 hu))
          rw[hu];rfl
         exact h3 u (Sg hu)
        have e1:=da he h4;rw[hsp];refine(e1.take off).append (Rel2.append ?_ (e1.drop _));have:=nx (m':=_) (k:=k') (y:=z) (v:=.int k' z) (idx:=idx) (show ak _ _ (.val (.int k') z)from⟨⟨rfl,hy1,hy2⟩,rfl⟩) (us:=(c.toList.drop off).take cnt) (xs:=xs) (j:=0) r1 (λi hi'=>by
         obtain⟨u,q1,q2⟩:=r2 i hi';exact⟨u,q1,bH he q2⟩)
        simpa using this)
      refine Does.skip (w':=m.w.setRow b (aP c (off+idx) [.int k' z])) (by simp[execOp,ho,hv,Instr.storeAt,Instr.sureAddr,hst]) ⟨_,.av .undef,rfl,?_,g1,g2,rfl⟩;simp only[bd]at h;rw[<- h,hG];rfl
    simp at h
   simp at h
  simp at h
 simp at h
end
end Go.Vm

/-
 The machine's operations against the model's: places, lengths, parts.
-/
namespace Go.Vm
section
variable {P:Program}{C:Ctx}{w0:World}{M:Own}{o:Oper}{a:Act}{m:Mem}{s s':St}
theorem mD{R:Type}{v:SV}{K:Int->Option R}{r:R}(h:kH v K=some r):∃ n:Int,v=.av (.val (.int .i64) n)/\K n=some r:=by
 unfold kH at h;split at h
 ·exact⟨_,rfl,h⟩
 simp at h
theorem jZ {τ σ : Ty}{t:TypeId}{f q:Nat}(hck:chk P τ none t=true)(hf : τ.field f=some (q,σ))(hp:1<=σ.size)(b off:Nat)(w:World) :
  (Instr.fieldAt t (.pointer (some ⟨b,off,none⟩)) f).run P w=.ok (.pointer (some ⟨b,off+q,none⟩)) w:=by
 obtain⟨fs,fd,h1,h2,h3,h4⟩:=pP hck hf;have hs:=bC h4 w;have h0:σ.size≠0:=by omega
 simp[Instr.fieldAt,run_underlying h1,h2,Instr.sureAddr,fieldPlace,hs,h0,h3,bY]
theorem tB {t:TypeId}{x:Operand}{f:Nat}(hT:cA P C.tab=true)(hi:Inv C w0 M m)(hG:m.G=s.G)(hS:∀ x,RelSV m (a.eval x) (ai C s.env x))(ho:o.op=.fieldAddr t x f)
  (h:bj C o s some=some s'):Does P o a m.w (Res C w0 M m s s' o.dst):=by
 simp only[aB,aQ,ho]at h;have hx:=hS x;split at h
 ·rename_i id off hp;rw[hp]at hx;obtain⟨_,ob,hob,hv⟩:=(aw (m:=m) (a:=.ptr id off) (by intros;simp)).1 hx;rw[hG]at hob;split at h
  ·rename_i l τ hl ht;rw[hl]at hob;simp only[bd]at hob;subst hob;obtain⟨b,hι,hv⟩:=hv;split at h
   ·rename_i o' t' hf;cases hb:RD 1 t'.size with
    |false=>rw[hb]at h;simp at h
    |true=>rw[hb]at h;have hpos:=L9 hb;exact aD hi hG (v:=.pointer (some ⟨b,off+o',none⟩)) (sv:=.av (.ptr id (off+o'))) (by simp[execOp,ho,hv,jZ (aj hT ht (jF hf)) hf hpos]) (show ak m _ (.ptr id (off+o'))from⟨rfl,.box l,hG▸hl,b,hι,rfl⟩) h
   simp at h
  simp at h
 ·rename_i id j p hp;rw[hp]at hx;obtain⟨_,ob,hob,hv⟩:=(aw (m:=m) (a:=.aptr id j p) (by intros;simp)).1 hx;rw[hG]at hob;split at h
  ·rename_i σ l τ hl ht;rw[hl]at hob;simp only[bd]at hob;subst hob;obtain⟨hj,b,off,n,cap,q,hι,hq,hv⟩:=hv;rw[hq]at h;obtain⟨q1,q2⟩:=q;simp only at h hv;cases hd:decide (q2=τ)with
   |false=>rw[hd]at h;simp at h
   |true=>
    rw[hd]at h;have:q2=τ:=by simpa using hd
    subst this;simp only[UA]at h;split at h
    ·rename_i o' t' hf;cases hb:RD 1 t'.size with
     |false=>rw[hb]at h;simp at h
     |true=>
      rw[hb]at h;have hpos:=L9 hb;exact aD hi hG (v:=.pointer (some ⟨b,off+j*σ.size+q1+o',none⟩)) (sv:=.av (.aptr id j (p++[f]))) (by simp[execOp,ho,hv,jZ (aj hT ht (jF hf)) hf hpos])
       (show ak m _ (.aptr id j (p++[f]))from⟨rfl,.arr σ l,hG▸hl,hj,b,off,n,cap,_,hι,nP hq hf,by simp[RS]⟩) h
    simp at h
  simp at h
 ·rename_i τ y hp;rw[hp]at hx;split at h
  ·rename_i τ' ht;cases hd:decide (τ=τ')with
   |false=>rw[hd]at h;simp at h
   |true=>
    rw[hd]at h;have:τ=τ':=by simpa using hd
    subst this;simp only[UA]at h;split at h
    ·rename_i t' z hz;cases hb:RD 1 t'.size with
     |false=>rw[hb]at h;simp at h
     |true=>
      rw[hb]at h;have hpos:=L9 hb;obtain⟨b,off,c,el,fz,h1,h2,h3,h4,h5⟩:=pG hx;obtain⟨o',r1,r2,r3⟩:=i9 hz h5;have hseg:seg c (off+o') t'.size=((seg c off τ.size).drop o').take t'.size:=by unfold seg;rw[eH _ _ _ _ _ r2]
      exact aD hi hG (v:=.pointer (some ⟨b,off+o',none⟩)) (sv:=.av (.val (.ptr t') z)) (by simp[execOp,ho,h1,jZ (aj hT ht (jF r1)) r1 hpos])
       (show ∃ cs,_/\_ from⟨[.pointer (some ⟨b,off+o',none⟩)],rfl,b,off+o',c,el,fz,rfl,h2,h3,by omega,by rw[hseg];exact r3⟩) h
    simp at h
  simp at h
 simp at h
theorem uB {x:Operand}(hi:Inv C w0 M m)(hG:m.G=s.G)(hS:∀ x,RelSV m (a.eval x) (ai C s.env x))(ho:o.op=.nilCheck x)
  (h:bj C o s some=some s'):Does P o a m.w (Res C w0 M m s s' o.dst):=by
 simp only[aB,aQ,ho]at h;have hx:=hS x;split at h
 ·rename_i i j hp;rw[hp]at hx;obtain⟨_,ob,hob,hv⟩:=(aw (m:=m) (a:=.ptr i j) (by intros;simp)).1 hx;rw[hG]at hob;split at h
  ·rename_i l hl;rw[hl]at hob;simp only[bd]at hob;subst hob;obtain⟨b,hι,hv⟩:=hv;exact aD hi hG (v:=a.eval x) (sv:=.av (.ptr i j)) (by simp[execOp,ho,hv]) hx h
  simp at h
 ·rename_i i j p hp;rw[hp]at hx;obtain⟨_,ob,hob,hv⟩:=(aw (m:=m) (a:=.aptr i j p) (by intros;simp)).1 hx;rw[hG]at hob;split at h
  ·rename_i σ l hl;rw[hl]at hob;simp only[bd]at hob;subst hob;obtain⟨_,b,off,n,cap,q,hι,_,hv⟩:=hv;exact aD hi hG (v:=a.eval x) (sv:=.av (.aptr i j p)) (by simp[execOp,ho,hv]) hx h
  ·rename_i ver σ l hole hl;rw[hl]at hob;simp only[bd]at hob;subst hob;obtain⟨_,_,b,off,n,cap,us,_,_,hv⟩:=hv;exact aD hi hG (v:=a.eval x) (sv:=.av (.aptr i j p)) (by simp[execOp,ho,hv]) hx h
  simp at h
 ·rename_i t y hp;rw[hp]at hx;obtain⟨b,off,c,el,fz,h1,_⟩:=pG hx;exact aD hi hG (v:=a.eval x) (sv:=.av (.val (.ptr t) y)) (by simp[execOp,ho,h1]) hx h
 ·rename_i g t y hp;rw[hp]at hx;have hx':=hx;obtain⟨cs,h1,vs,rfl,_⟩:=hx';simp only[toV,Ty.isAgg,UB,Tr]at h1;exact aD hi hG (v:=a.eval x) (sv:=.av (.val (.clo g t) y)) (by simp[execOp,ho,h1]) hx h
 ·rename_i f c hp;rw[hp]at hx;obtain⟨vs,h1,_⟩:=(aw (m:=m) (a:=.clo f c) (by intros;simp)).1 hx;exact aD hi hG (v:=a.eval x) (sv:=.av (.clo f c)) (by simp[execOp,ho,h1]) hx h
 ·rename_i i off n idx wd hp;rw[hp]at hx;obtain⟨_,ob,hob,hv⟩:=(aw (m:=m) (a:=.iptr i off n idx wd) (by intros;simp)).1 hx;rw[hG]at hob;split at h
  ·rename_i l hl;rw[hl]at hob;simp only[bd]at hob;subst hob;obtain⟨_,b,hι,hv⟩:=hv;exact aD hi hG (v:=a.eval x) (sv:=.av (.iptr i off n idx wd)) (by simp[execOp,ho,hv]) hx h
  simp at h
 simp at h
theorem Je {t:TypeId}{x:Operand}{f:Nat}(hT:cA P C.tab=true)(hi:Inv C w0 M m)(hG:m.G=s.G)(hS:∀ x,RelSV m (a.eval x) (ai C s.env x))(ho:o.op=.field t x f)
  (h:bj C o s some=some s'):Does P o a m.w (Res C w0 M m s s' o.dst):=by
 simp only[aB,aQ,ho]at h;have hx:=hS x;split at h
 ·rename_i l hp;rw[hp]at hx;obtain⟨us,hu,h1,hr⟩:=hx;split at h
  ·rename_i τ ht;split at h
   ·rename_i o' t' hf;obtain⟨fs,fd,q1,q2,q3,q4⟩:=pP (aj hT ht (jF hf)) hf;split at h
    ·rename_i c hc;obtain⟨rfl,hle⟩:=ir hc;have hlen:=hr.length;simp only[So]at hle;have hpart:(part fd.type us.toArray fd.offset).run P m.w=.ok (toV t' ((us.drop o').take t'.size)) m.w:=by
      cases ha:t'.isAgg with
      |true=>simp[part,dn q4,ha,bC q4,toV,q3,Td]
      |false=>
       have h1':=eG ha;have hlt:o'<us.length:=by omega
       simp only[part,Sem.run_bind,dn q4,ha,Result.andThen_ok,RY,if_false,q3,B9,dg hlt,toV,UB,h1',Sem.run_pure];rw[Sr hlt];rfl
     refine aD hi hG (v:=toV t' ((us.drop o').take t'.size)) (sv:=ew t' ((l.drop o').take t'.size)) ?_ (jc (λu hu=>h1 u (Sg (R9 hu))) ((hr.drop o').take _)) h;simp[execOp,ho,hu,Instr.field,run_underlying q1,q2,asAgg,hpart]
    simp at h
   simp at h
  simp at h
 ·rename_i τ y hp;rw[hp]at hx;split at h
  ·rename_i τ' ht;cases hd:decide (τ=τ')with
   |false=>rw[hd]at h;simp at h
   |true=>
    rw[hd]at h;have:τ=τ':=by simpa using hd
    subst this;simp only[UA]at h;split at h
    ·rename_i t' z hz;obtain⟨cs,hu,hrd⟩:=hx;obtain⟨o',r1,r2,r3⟩:=i9 hz hrd;obtain⟨fs,fd,q1,q2,q3,q4⟩:=pP (aj hT ht (jF r1)) r1;have hagg:τ.isAgg=true:=by cases τ<;>simp_all[Ty.field,Ty.isAgg]
     have hlen:=hrd.len;have hpart:(part fd.type cs.toArray fd.offset).run P m.w=.ok (toV t' ((cs.drop o').take t'.size)) m.w:=by
      cases ha:t'.isAgg with
      |true=>simp[part,dn q4,ha,bC q4,toV,q3,Td]
      |false=>
       have h1':=eG ha;have hlt:o'<cs.length:=by omega
       simp only[part,Sem.run_bind,dn q4,ha,Result.andThen_ok,RY,if_false,q3,B9,dg hlt,toV,UB,h1',Sem.run_pure];rw[Sr hlt];rfl
     refine aD hi hG (v:=toV t' ((cs.drop o').take t'.size)) (sv:=.av (.val t' z)) ?_ (sX r3) h;have hu':a.eval x=.agg cs.toArray:=by rw[hu];simp[toV,hagg]
     simp[execOp,ho,hu',Instr.field,run_underlying q1,q2,asAgg,hpart]
    simp at h
  simp at h
 simp at h
theorem rg{i:Int}{n:Nat}{j:Nat}(h:az n i=some j):0<=i/\i<n/\j=i.toNat/\j<n:=by
 unfold az at h;split at h
 ·rename_i hc;simp at h;omega
 simp at h
theorem lG{α:Type}{l:List α}{i:Int}{y:α}(h:ao l i=some y):0<=i/\i<l.length/\∃ hj:i.toNat<l.length,l[i.toNat]=y:=by
 unfold ao at h;split at h
 ·rename_i hc;obtain⟨hj,hy⟩:=A7.1 h;exact⟨hc,by omega,hj,hy⟩
 simp at h
theorem cJ {e:Ty}{t et:TypeId}(hu:P.underlying t=some (.slice et))(hck:chk P e none et=true){k:IntKind}{i:Int}{n cap b off:Nat}(h0:0<=i)(h1:i < n)(w:World) :
  (Instr.indexAt t (.slice (some ⟨b,off,none⟩) n cap) (.int k i)).run P w=.ok (.pointer (some ⟨b,off+i.toNat*e.size,none⟩)) w:=by
 have hc:0<=i/\i<(n:Int):=⟨h0,h1⟩;simp[Instr.indexAt,asIntOf,run_underlying hu,hc,bC hck,bY]
theorem eQ {e:Ty}{t et:TypeId}{n:Nat}(hu:P.underlying t=some (.array n et))(hck:chk P e none et=true){k:IntKind}{i:Int}{b off:Nat}(h0:0<=i)(h1:i < n)(w:World) :
  (Instr.indexAt t (.pointer (some ⟨b,off,none⟩)) (.int k i)).run P w=.ok (.pointer (some ⟨b,off+i.toNat*e.size,none⟩)) w:=by
 have hc:0<=i/\i<(n:Int):=⟨h0,h1⟩;simp[Instr.indexAt,asIntOf,run_underlying hu,hc,bC hck,bY,Instr.sureAddr]
theorem tx {t:TypeId}{x ix:Operand}(hT:cA P C.tab=true)(hi:Inv C w0 M m)(hG:m.G=s.G)(hS:∀ x,RelSV m (a.eval x) (ai C s.env x))(ho:o.op=.indexAddr t x ix)
  (h:bj C o s some=some s'):Does P o a m.w (Res C w0 M m s s' o.dst):=by
 simp only[aB,aQ,ho]at h;have hx:=hS x;obtain⟨k,i,hix,h⟩:=gB h;have hiv:=hS ix;rw[hix]at hiv;obtain⟨hiv,_,_⟩:=cY hiv;cases hty:eS C t s.G (ai C s.env x)with
 |false=>rw[hty]at h;simp at h
 |true=>
  rw[hty]at h;simp only[UA]at h;have fin {v:Value} {at':Atom} (hl:(Instr.indexAt t (a.eval x) (.int k i)).run P m.w=.ok v m.w) (hr:RelSV m v (.av at')) (hs:some (ah o.dst (.av at') s)=some s') :
    Does P o a m.w (Res C w0 M m s s' o.dst):=
   aD hi hG (v:=v) (by simp[execOp,ho,hiv,hl]) hr hs
  unfold indexAt at h;split at h
  ·rename_i e l hp;rw[hp]at hx hty;unfold eS at hty;split at hty<;>try (simp_all;done)
   rename_i e1 e2 l2 ht hq;simp only[SV.av.injEq,Atom.val.injEq,Ty.slice.injEq]at hq;obtain⟨rfl,hl2⟩:=hq;have:e1=e:=by simpa using hty
   subst this;obtain⟨et,hu,hck⟩:=bc (aj hT ht);obtain⟨y,hy,h⟩:=A1.1 h;obtain⟨h0,h1,hj,rfl⟩:=lG hy;obtain⟨ad,cap,hv,h2,h3,h4⟩:=gQ hx;obtain⟨b,off,c,el,fz,rfl,q2,q3,q4,q5⟩:=h4 (by intro e;rw[e]at hj;simp at hj);refine fin (at':=.val (.ptr e1) l[i.toNat]) (by rw[hv];exact cJ hu hck h0 h1 _) ⟨[_],rfl,b,off+i.toNat*e1.size,c,el,fz,rfl,q2,q3,?_,q5 _ hj⟩ h;have:(i.toNat+1)*e1.size<=l.length*e1.size:=A4 _ hj;rw[B3]at this;omega
  ·rename_i id hp;rw[hp]at hx hty;obtain⟨_,ob,hob,hv⟩:=(aw (m:=m) (a:=.own id) (by intros;simp)).1 hx;rw[hG]at hob;split at h
   ·rename_i e l hl;rw[hl]at hob;simp only[bd]at hob;subst hob;unfold eS at hty;split at hty<;>try (simp_all;done)
    rename_i e1 id2 ht hq;simp only[SV.av.injEq,Atom.own.injEq]at hq;subst hq;rw[hl]at hty;have:e1=e:=by simpa using hty
    subst this;obtain⟨et,hu,hck⟩:=bc (aj hT ht);obtain⟨j,hj,h⟩:=A1.1 h;obtain⟨h0,h1,rfl,hj⟩:=rg hj;obtain⟨b,off,cap,c,el,fz,r1,r2,r3,r4,r5,r6,r7,r8,r9⟩:=mP hi (hG▸hl) hj;exact fin (at':=.aptr id i.toNat []) (by rw[hv rfl,r1];exact cJ hu hck h0 h1 _)
     (show ak m _ (.aptr id i.toNat [])from⟨rfl,.arr e1 l,hG▸hl,hj,b,off,l.length,cap,_,r1,rfl,by simp⟩) h
   simp at h
  ·rename_i id off' len hp;rw[hp]at hx hty;obtain⟨_,ob,hob,hv⟩:=(aw (m:=m) (a:=.view id off' len) (by intros;simp)).1 hx;rw[hG]at hob;split at h
   ·rename_i e l hl;rw[hl]at hob;simp only[bd]at hob;subst hob;unfold eS at hty;split at hty<;>try (simp_all;done)
    rename_i e1 id2 o2 l2 ht hq;simp only[SV.av.injEq,Atom.view.injEq]at hq;obtain⟨rfl,rfl,rfl⟩:=hq;rw[hl]at hty;have:e1=e:=by simpa using hty
    subst this;obtain⟨et,hu,hck⟩:=bc (aj hT ht);obtain⟨j,hj,h⟩:=A1.1 h;obtain⟨h0,h1,rfl,hj⟩:=rg hj;simp only at hv;obtain⟨b,off,cap,c,el,fz,r1,r2,r3,r4,r5,r6,r7,r8,r9⟩:=mP hi (hG▸hl) (j:=off'+i.toNat) (by omega);refine fin (at':=.aptr id (off'+i.toNat) []) (v:=.pointer (some ⟨b,off+off'*e1.size+i.toNat*e1.size,none⟩)) ?_
     (show ak m _ (.aptr id (off'+i.toNat) [])from⟨rfl,.arr e1 l,hG▸hl,by omega,b,off,l.length,cap,_,r1,rfl,by simp[B3,RS]⟩) h
    obtain⟨a',n',cap',ad',v1,v2,v3⟩:=hv.2;rw[r1]at v1;simp only[Value.slice.injEq]at v1;obtain⟨rfl,rfl,rfl⟩:=v1;rw[v2,v3 (by omega)];simp only[SB,bY];exact cJ hu hck h0 h1 _
   simp at h
  ·rename_i id off' len hp;rw[hp]at hx hty;obtain⟨_,ob,hob,hv⟩:=(aw (m:=m) (a:=.cut id off' len) (by intros;simp)).1 hx;rw[hG]at hob;split at h
   ·rename_i e l hl;rw[hl]at hob;simp only[bd]at hob;subst hob;unfold eS at hty;split at hty<;>try (simp_all;done)
    rename_i e1 id2 o2 l2 ht hq;simp only[SV.av.injEq,Atom.cut.injEq]at hq;obtain⟨rfl,rfl,rfl⟩:=hq;rw[hl]at hty;have:e1=e:=by simpa using hty
    subst this;obtain⟨et,hu,hck⟩:=bc (aj hT ht);obtain⟨j,hj,h⟩:=A1.1 h;obtain⟨h0,h1,rfl,hj⟩:=rg hj;simp only at hv;obtain⟨hv1,hv2,b,off,n',cap',v1,v2⟩:=hv;refine fin (at':=.aptr id (off'+i.toNat) []) (v:=.pointer (some ⟨b,off+off'*e1.size+i.toNat*e1.size,none⟩)) ?_
     (show ak m _ (.aptr id (off'+i.toNat) [])from⟨rfl,.arr e1 l,hG▸hl,by omega,b,off,n',cap',_,v1,rfl,by simp[B3,RS]⟩) h
    rw[v2];exact cJ hu hck h0 h1 _
   simp at h
  ·rename_i id hp;rw[hp]at hx hty;obtain⟨_,ob,hob,hv⟩:=(aw (m:=m) (a:=.ownd id) (by intros;simp)).1 hx;rw[hG]at hob;split at h
   ·rename_i ver e l hole hl;rw[hl]at hob;simp only[bd]at hob;subst hob;unfold eS at hty;split at hty<;>try (simp_all;done)
    rename_i e1 id2 ht hq;simp only[SV.av.injEq,Atom.ownd.injEq]at hq;subst hq;rw[hl]at hty;have:e1=.slice e:=by simpa using hty
    subst this;obtain⟨et,hu,hck⟩:=bc (aj hT ht);obtain⟨j,hj,h⟩:=A1.1 h;obtain⟨h0,h1,rfl,hj⟩:=rg hj;obtain⟨u,hs,d1,d2⟩:=cK hi (hG▸hl);obtain⟨us,hv1,hv2⟩:=hv;rw[d1]at hv1;simp only[Value.tuple.injEq]at hv1;subst hv1;simp only[B9,B5,bd]at hv2;obtain⟨b,off,cap,c,el,fz,v,r1,r2,r3,r4,r5,r6,_⟩:=oA d2 hj;refine fin (at':=.aptr id i.toNat []) (v:=.pointer (some ⟨b,off+i.toNat*(Ty.slice e).size,none⟩)) (by rw[<- hv2,r1];exact cJ hu hck h0 h1 _)
     (show ak m _ (.aptr id i.toNat [])from⟨rfl,.deep ver e l hole,hG▸hl,hj,rfl,b,off,l.length,cap,_,d1,by simp[r1],by simp[Ty.size]⟩) h
   simp at h
  ·rename_i id ver j hp;rw[hp]at hx hty;obtain⟨_,ob,hob,hv⟩:=(aw (m:=m) (a:=.sub id ver j) (by intros;simp)).1 hx;rw[hG]at hob;split at h
   ·rename_i ver' e l hl;rw[hl]at hob;simp only[bd]at hob;subst hob;unfold eS at hty;split at hty<;>try (simp_all;done)
    rename_i e1 id2 ver2 j2 ht hq;simp only[SV.av.injEq,Atom.sub.injEq]at hq;obtain⟨rfl,rfl,rfl⟩:=hq;rw[hl]at hty;have:e1=e:=by simpa using hty
    subst this;obtain⟨et,hu,hck⟩:=bc (aj hT ht);cases hb:A3 ver ver' with
    |false=>rw[hb]at h;simp at h
    |true=>
     rw[hb]at h;have:=xy hb;subst this;obtain⟨hj,_,us,hv1,hv2⟩:=hv.2 rfl;simp only[UA,jS hj]at h;obtain⟨k',hk',h⟩:=A1.1 h;obtain⟨h0,h1,rfl,hk'⟩:=rg hk';obtain⟨u,hs,d1,d2⟩:=cK hi (hG▸hl);rw[d1]at hv1;simp only[Value.tuple.injEq]at hv1;subst hv1;have hv3:=hv2;simp only[B9,L4]at hv2;obtain⟨b,off,cap,c,el,fz,r1,r2,r3,r4,r5,r6⟩:=zi (d2.inner j hj _ hv2 (by simp)) hk';rw[r1]at hv3;exact fin (at':=.saptr id ver j i.toNat) (v:=.pointer (some ⟨b,off+i.toNat*e1.size,none⟩)) (by rw[r1];exact cJ hu hck h0 h1 _)
      (show ak m _ (.saptr id ver j i.toNat)from⟨rfl,.deep ver e1 l none,hG▸hl,B2 _,λ_=>⟨hj,rfl,_,b,off,_,cap,d1,hv3,hk',rfl⟩⟩) h
   simp at h
  ·rename_i n e l hp;rw[hp]at hx hty;unfold eS at hty;split at hty<;>try (simp_all;done)
   rename_i n1 e1 n2 e2 l2 ht hq;simp only[SV.av.injEq,Atom.val.injEq,Ty.ptr.injEq,Ty.arr.injEq]at hq;obtain⟨⟨rfl,rfl⟩,hl2⟩:=hq;simp only[np,decide_eq_true_eq]at hty;obtain⟨⟨rfl,hn⟩,_⟩:=hty;have:=xy hn;subst this;obtain⟨et,hu,hck⟩:=lx (aj hT ht);obtain⟨y,hy,h⟩:=A1.1 h;obtain⟨h0,h1,hj,rfl⟩:=lG hy;obtain⟨b,off,c,el,fz,hv,q2,q3,q4,q5,q6,q7⟩:=pG hx;simp only[Ty.size]at q4 q6;have hle:(i.toNat+1)*e1.size<=n1*e1.size:=A4 _ (by omega);rw[B3]at hle;refine fin (at':=.val (.ptr e1) l[i.toNat]) (by rw[hv];exact eQ hu hck h0 (by omega) _) ⟨[_],rfl,b,off+i.toNat*e1.size,c,el,fz,rfl,q2,q3,by omega,?_⟩ h;have hseg:seg c (off+i.toNat*e1.size) e1.size=((seg c off (n1*e1.size)).drop (i.toNat*e1.size)).take e1.size:=by unfold seg;rw[eH _ _ _ _ _ (by omega)]
   rw[hseg];exact q7 _ hj
  ·rename_i id off hp;rw[hp]at hx hty;obtain⟨_,ob,hob,hv⟩:=(aw (m:=m) (a:=.ptr id off) (by intros;simp)).1 hx;split at h
   ·rename_i n e ht;obtain⟨et,hu,hck⟩:=lx (aj hT ht);split at h
    ·rename_i hc;cases ob with
     |box l=>
      obtain⟨b,hι,hv⟩:=hv;have hsz:i.toNat*e.size+e.size<=n*e.size:=by have:=A4 e.size (show i.toNat+1<=n by omega);rw[B3]at this;omega
      cases hb:RD 16 (n*e.size)with
      |true=>rw[hb,UA]at h;exact fin (at':=.iptr id off (n*e.size) (i.toNat*e.size) e.size) (by rw[hv];exact eQ hu hck hc.1 hc.2 _) (show ak m _ (.iptr id off (n*e.size) (i.toNat*e.size) e.size)from⟨rfl,.box l,hob,hsz,b,hι,rfl⟩) h
      |false=>rw[hb,UB]at h;exact fin (at':=.ptr id (off+i.toNat*e.size)) (by rw[hv];exact eQ hu hck hc.1 hc.2 _) (show ak m _ (.ptr id (off+i.toNat*e.size))from⟨rfl,.box l,hob,b,hι,rfl⟩) h
     |arr _ _=>exact hv.elim
     |deep _ _ _ _=>exact hv.elim
     |map _ _ _=>exact hv.elim
     |dead=>unfold eS at hty;rw[ht]at hty;simp only at hty;rw[<- hG,hob]at hty;simp at hty
    simp at h
   simp at h
  ·rename_i id off cnt idx wd hp;rw[hp]at hx hty;obtain⟨_,ob,hob,hv⟩:=(aw (m:=m) (a:=.iptr id off cnt idx wd) (by intros;simp)).1 hx;split at h
   ·rename_i n e ht;obtain⟨et,hu,hck⟩:=lx (aj hT ht);unfold eS at hty;rw[ht]at hty;simp only at hty;rw[<- hG,hob]at hty;split at h
    ·rename_i hc;cases ob with
     |box l=>
      obtain⟨hw,b,hι,hv⟩:=hv;simp only[np]at hty;have hwd:=xy hty.2;have hsz:i.toNat*e.size+e.size<=n*e.size:=by have:=A4 e.size (show i.toNat+1<=n by omega);rw[B3]at this;omega
      exact fin (at':=.iptr id off cnt (idx+i.toNat*e.size) e.size) (by rw[hv];exact eQ hu hck hc.1 hc.2 _)
       (show ak m _ (.iptr id off cnt (idx+i.toNat*e.size) e.size)from⟨rfl,.box l,hob,by omega,b,hι,by rw[RS]⟩) h
     |_=>simp at hty
    simp at h
   simp at h
  simp at h
theorem rW{e:Ty}{et:TypeId}(hck:chk P e none et=true){us:List Value}{off:Nat}(hle:off+e.size<=us.length)(w:World):(part et us.toArray off).run P w=.ok (toV e ((us.drop off).take e.size)) w:=by
 cases ha:e.isAgg with
 |true=>simp[part,dn hck,ha,bC hck,toV,Td]
 |false=>
  have h1':=eG ha;have hlt:off<us.length:=by omega
  simp only[part,Sem.run_bind,dn hck,ha,Result.andThen_ok,RY,if_false,B9,dg hlt,toV,UB,h1',Sem.run_pure];rw[Sr hlt];rfl
theorem Ci {t:TypeId}{x ix:Operand}{n:Nat}{e:Ty}{k:IntKind}{i:Int}{c:List Value}{z:List e.den}{y:e.den}(hT:cA P C.tab=true)(hi:Inv C w0 M m)(hG:m.G=s.G)(ho:o.op=.index t x ix)
  (ht:C.tab.get t=some (.arr n e)) (hx:a.eval x=.agg c.toArray) (hiv:a.eval ix=.int k i) (hz:Rd m.w m.F (.arr n e) c z) (hy:ao z i=some y) (h:some (ah o.dst (.av (.val e y)) s)=some s'):Does P o a m.w (Res C w0 M m s s' o.dst):=by
 obtain⟨h0,h1,hj,rfl⟩:=lG hy;obtain⟨z1,z2,z3⟩:=hz;obtain⟨et,hu,hck⟩:=lx (aj hT ht);have hle:i.toNat*e.size+e.size<=c.length:=by rw[z2];have:=A4 e.size (show i.toNat+1<=n by omega);rw[B3]at this;omega
 refine aD hi hG (v:=toV e ((c.drop (i.toNat*e.size)).take e.size)) (sv:=.av (.val e z[i.toNat])) ?_ ⟨_,rfl,z3 i.toNat hj⟩ h;have hin:i<(n:Int):=by omega
 simp[execOp,ho,hx,hiv,Instr.index,asIntOf,run_underlying hu,h0,hin,bC hck,rW hck hle]
theorem o4{R:Type}{sz:Nat}{K:List Atom->Option R}{i:Int}{r:R}:∀{k j:Nat} {l:List Atom},iG k sz l i j K=some r->∃ q c,q<k/\i=((j+q:Nat):Int)/\kD sz (l.drop (q*sz))=some c/\K c=some r
 |0,_,_,h=>by simp[iG]at h
 |k+1,j,l,h=>by
  unfold iG at h;cases e:eqI i j with
  |true=>
   rw[e,UA]at h;split at h
   ·rename_i c hc;exact⟨0,c,by omega,by simpa[eqI]using e,by simpa using hc,h⟩
   simp at h
  |false=>rw[e,UB]at h;obtain⟨q,c,h1,h2,h3,h4⟩:=o4 h;refine⟨q+1,c,by omega,by rw[h2];congr 1;omega,?_,h4⟩;rw[TI]at h3;rw[B3,T7,S9];exact h3
theorem Iz {t:TypeId}{x ix:Operand}(hT:cA P C.tab=true)(hi:Inv C w0 M m)(hG:m.G=s.G)(hS:∀ x,RelSV m (a.eval x) (ai C s.env x))(ho:o.op=.index t x ix)
  (h:bj C o s some=some s'):Does P o a m.w (Res C w0 M m s s' o.dst):=by
 simp only[aB,aQ,ho]at h;have hx:=hS x;obtain⟨k,i,hix,h⟩:=gB h;have hiv:=hS ix;rw[hix]at hiv;obtain⟨hiv,_,_⟩:=cY hiv;split at h
 ·rename_i b ht hp;rw[hp]at hx;obtain⟨hx,_⟩:=jM hx;have hu:=fM (aj hT ht);obtain⟨c,hc,h⟩:=A1.1 h;obtain⟨h0,h1,hj,rfl⟩:=lG hc;have hsz:i.toNat<b.size:=by simpa using hj
  refine aD hi hG (v:=.int .u8 (b.data.toList[i.toNat].toNat:Int)) (sv:=.av (.val (.int .u8) (b.data.toList[i.toNat].toNat:Int))) ?_ (er ?_) h
  ·have hb:b[i.toNat]?=some b.data.toList[i.toNat]:=by rw[getElem?_pos b i.toNat hsz];rfl
   simp[execOp,ho,hx,hiv,Instr.index,asIntOf,run_underlying hu,h0,hb]
  have:=(b.data.toList[i.toNat]).toNat_lt;generalize (b.data.toList[i.toNat]).toNat=z at this ⊢;simp[IntKind.min,IntKind.max,IntKind.signed,IntKind.bits];omega
 ·rename_i n e l ht hp;rw[hp]at hx;obtain⟨us,hu,h1,hr⟩:=hx;obtain⟨q,c,hq,hiq,hc,h⟩:=o4 h;rw[RM]at hiq;subst hiq;obtain⟨rfl,hle⟩:=ir hc;obtain⟨et,hun,hck⟩:=lx (aj hT ht);have hlen:=hr.length;simp only[So]at hle;by_cases hz:q*e.size+e.size<=us.length
  ·refine aD hi hG (v:=toV e ((us.drop (q*e.size)).take e.size)) (sv:=ew e ((l.drop (q*e.size)).take e.size)) ?_ (jc (λu hu=>h1 u (Sg (R9 hu))) ((hr.drop _).take _)) h;have hq0:¬((q:Int)<0):=by omega
   simp[execOp,ho,hu,hiv,Instr.index,asIntOf,run_underlying hun,hq,bC hck,rW hck hz]
  exfalso;rcases S3 e.size with h0|h0
  ·rw[h0]at hz;simp at hz
  omega
 ·rename_i n e τ y0 ht hp;rw[hp]at hx;obtain⟨z,hz,h1⟩:=A1.1 h;obtain⟨y,hy,h2⟩:=A1.1 h1;unfold bM at hz;split at hz
  ·rename_i hτ;subst hτ;simp only[bd]at hz;subst hz;obtain⟨c,hc,hr⟩:=hx;exact Ci hT hi hG ho ht (by rw[hc];simp[toV,Ty.isAgg]) hiv hr hy h2
  simp at hz
 simp at h
end
end Go.Vm

/-
 The machine's operations against the model's: new objects, lengths, conversions.
-/
namespace Go.Vm
section
variable {P:Program}{C:Ctx}{w0:World}{M:Own}{o:Oper}{a:Act}{m:Mem}{s s':St}
theorem fF{G:Heap}{i:Nat}(h:G.has i=false):G.get i=none:=by
 cases hg:G.get i with
 |none=>rfl
 |some o=>rw[Heap.has_of_get hg]at h;cases h
theorem bW {R:Type}{s:St}{site:Nat}{ob:Obj}{K:Nat->St->Option R}{r:R}(h:bq s site ob K=some r) :
  ∃ i,s.G.get i=none/\K i { env:=s.env,G:=(i,ob)::s.G }=some r:=by
 unfold bq at h;cases hh:s.G.has (aE 64 s.G site)with
 |true=>rw[hh]at h;simp at h
 |false=>rw[hh]at h;exact⟨_,fF hh,h⟩
theorem jy(w:World)(ob:Go.Obj){i:Nat}(h:i<w.heap.size):(w.alloc ob).heap[i]?=w.heap[i]?:=by show(w.heap.push ob)[i]?=_;rw[T0,if_neg (by omega)]
theorem cz(w:World)(ob:Go.Obj):(w.alloc ob).heap[w.heap.size]?=some ob:=by show(w.heap.push ob)[w.heap.size]?=_;rw[T0,if_pos rfl]
theorem eZ(w:World)(ob:Go.Obj):Kept w (λ_=>False) (w.alloc ob):=
 ⟨rfl,rfl,rfl,by simp,λb hb _=>jy w ob hb⟩
theorem eT(w:World)(ob:Go.Obj):Kept w (λ_=>False) (w.drew.alloc ob):=
 ⟨rfl,rfl,rfl,by simp,λb hb _=>jy w.drew ob hb⟩
theorem tX (hi:Inv C w0 M m){i:Nat}(hn:m.G.get i=none){t:TypeId}{cs:List Value}{l:List Atom}(h1:∀ u∈cs,u.oneCell'=true)
  (hr:∀ m':Mem,Evo m m'->Rel2 (ak m') cs l) :
  ∃ m',m'.w=m.w.alloc (.cells cs.toArray t)/\m'.G=(i,.box l)::m.G/\Inv C w0 M m'/\Evo m m'/\RelSV m' (.pointer (some ⟨m.w.heap.size,0,none⟩)) (.av (.ptr i 0)):=by
 have hw:=eZ m.w (.cells cs.toArray t);have hnew:=cz m.w (.cells cs.toArray t);have he:Evo m ⟨m.w.alloc (.cells cs.toArray t),m.F,λk=>if k=i then .pointer (some ⟨m.w.heap.size,0,none⟩)else m.ι k,(i,.box l)::m.G⟩:=by
  refine⟨λb hF=>⟨hF,jy _ _ (hi.fro b hF)⟩,λid p hp=>?_⟩;have hne:i≠id:=λe=>by subst e;rw[hn]at hp;cases hp
  exact⟨p,by rw[Heap.get_cons,if_neg hne];exact hp,.inr (.inl ⟨by simp[Ne.symm hne],Alike.refl p⟩)⟩
 obtain⟨g1,g2⟩:=jw hi hw (i:=i) (o:=.box l) (h:=.pointer (some ⟨m.w.heap.size,0,none⟩)) hn (by intro b hb;simp[HB,HB1]at hb;subst hb;simp)
  ⟨m.w.heap.size,cs.toArray,t,by simp,hnew,by simpa using h1,by simpa using hr _ he⟩
 refine⟨_,rfl,rfl,g1,g2,?_⟩;exact(aw (a:=.ptr i 0) (by intros;simp)).2 ⟨rfl,.box l,by rw[Heap.get_cons,if_pos rfl],m.w.heap.size,by simp,rfl⟩
theorem Ju {t:TypeId}(hT:cA P C.tab=true)(hi:Inv C w0 M m)(hG:m.G=s.G)(ho:o.op=.alloc t)
  (h:bj C o s some=some s'):Does P o a m.w (Res C w0 M m s s' o.dst):=by
 simp only[aB,aQ,ho]at h;split at h
 ·rename_i τ ht;obtain⟨i,hn,h⟩:=bW h;have hck:=wY hT ht;cases hcl:τ.isClo with
  |true=>
   rw[hcl]at hck;obtain⟨m',q1,q2,q3,q4,q5⟩:=tX (t:=t) hi (hG▸hn) (cs:=[Value.nilFunc]) (l:=[.u]) (by simp[Value.oneCell']) (λm' _=>⟨trivial,trivial⟩);refine Does.value (w':=m'.w) (v:=.pointer (some ⟨m.w.heap.size,0,none⟩)) ?_ ⟨m',_,rfl,?_,q3,q4,q5⟩
   ·simp[execOp,ho,Instr.alloc,(Lk hck).2,newVar,newRow,q1,Value.cells]
   simp only[bd]at h;have hz:zeroCells τ=[.u]:=by cases τ<;>first|rfl|cases hcl
   rw[<- h,q2,hG,hz]
  |false=>
  rw[hcl]at hck;have hck:chk P τ none t=true:=hck;obtain⟨z,hz,_,_,hrun⟩:=sK hck;obtain⟨c0,e0,_,hr0,hr1⟩:=fK hz;rw[RN]at e0;obtain⟨m',q1,q2,q3,q4,q5⟩:=tX (t:=t) hi (hG▸hn) (cs:=z.cells.toList) (l:=zeroCells τ) (by rw[e0];exact hr0) (λm' _=>by
   rw[e0];exact hr1 m')
  refine Does.value (w':=m'.w) (v:=.pointer (some ⟨m.w.heap.size,0,none⟩)) ?_ ⟨m',_,rfl,?_,q3,q4,q5⟩
  ·simp[execOp,ho,Instr.alloc,hrun,newVar,newRow,q1]
  simp only[bd]at h;rw[<- h,q2,hG]
 simp at h
theorem Nj {t:TypeId}{x:Operand}(hi:Inv C w0 M m)(hG:m.G=s.G)(hS:∀ x,RelSV m (a.eval x) (ai C s.env x))(ho:o.op=.box t x)
  (h:bj C o s some=some s'):Does P o a m.w (Res C w0 M m s s' o.dst):=by
 simp only[aB,aQ,ho]at h;split at h
 ·rename_i τ ht;split at h
  ·rename_i c hc;obtain⟨i,hn,h⟩:=bW h;obtain⟨k1,k2⟩:=kW hc (hS x);obtain⟨m',q1,q2,q3,q4,q5⟩:=tX (t:=t) hi (hG▸hn) (cs:=(a.eval x).cells.toList) (l:=c) k2 (λm' he=>da he k1);refine Does.value (w':=m'.w) (v:=.pointer (some ⟨m.w.heap.size,0,none⟩)) ?_ ⟨m',_,rfl,?_,q3,q4,q5⟩
   ·simp[execOp,ho,Instr.box,newVar,newRow,q1]
   simp only[bd]at h;rw[<- h,q2,hG]
  simp at h
 simp at h
theorem lR (hi:Inv C w0 M m){i:Nat}(hn:m.G.get i=none){w1:World}(hw:Kept m.w (fun _=>False) w1){c:Array Value}{el:TypeId}{fz:Nat×Nat}{τ : Ty}{l:List τ.den}{cap:Nat}
  (hb:w1.heap[m.w.heap.size]?=some (.cells c el fz)) (hc:eJ τ c.size fz) (h1:l.length<=cap) (h2:cap<=maxLen) (h3:cap*τ.size<=c.size)
  (hr:∀ i (h:i<l.length),Rd m.w m.F τ (seg c (i*τ.size) τ.size) l[i]) :
  ∃ m',m'.w=w1/\m'.G=(i,.arr τ l)::m.G/\Inv C w0 M m'/\Evo m m'/\RelSV m' (.slice (some ⟨m.w.heap.size,0,none⟩) l.length cap) (.av (.own i)):=by
 have he:Evo m ⟨w1,m.F,λk=>if k=i then .slice (some ⟨m.w.heap.size,0,none⟩) l.length cap else m.ι k,(i,.arr τ l)::m.G⟩:=by
  refine⟨λb hF=>⟨hF,hw.block b (hi.fro b hF) (λh=>h)⟩,λid p hp=>?_⟩;have hne:i≠id:=λe=>by subst e;rw[hn]at hp;cases hp
  exact⟨p,by rw[Heap.get_cons,if_neg hne];exact hp,.inr (.inl ⟨by simp[Ne.symm hne],Alike.refl p⟩)⟩
 have hlt:m.w.heap.size < w1.heap.size:=(L5.1 hb).1;obtain⟨g1,g2⟩:=jw hi hw (i:=i) (o:=.arr τ l) (h:=.slice (some ⟨m.w.heap.size,0,none⟩) l.length cap) hn (by
   intro b hb;obtain⟨_,rfl⟩:=hb;exact⟨B2 _,hlt⟩)
  ⟨some ⟨m.w.heap.size,0,none⟩,cap,by simp,h1,h2,λ_=>⟨m.w.heap.size,0,c,el,fz,rfl,hb,hc,by omega,λj hj=>by
   rw[RM];exact(hr j hj).mono he.fro⟩⟩
 refine⟨_,rfl,rfl,g1,g2,?_⟩;exact(aw (a:=.own i) (by intros;simp)).2 ⟨rfl,.arr τ l,by rw[Heap.get_cons,if_pos rfl],λ_=>by simp⟩
theorem qS (hi:Inv C w0 M m){i:Nat}(hn:m.G.get i=none){w1:World}(hw:Kept m.w (fun _=>False) w1){c:Array Value}{el:TypeId}{fz:Nat×Nat}{τ : Ty}{l:List (List τ.den)}{cap:Nat}{hs:List Value}
  (hb:w1.heap[m.w.heap.size]?=some (.cells c el fz)) (hc:eJ (.slice τ) c.size fz) (h1:l.length<=cap) (h2:cap<=maxLen) (h3:cap<=c.size) (hl:hs.length=l.length) (hcs:∀ k,k<l.length->c[k]?=hs[k]?)
  (hr:∀ k (h:k<l.length) v,hs[k]?=some v->HdrW m.w m.F v τ l[k]) (ha:cP hs) (hf:∀ v∈hs,dj w0 M m v) :
  ∃ m',m'.w=w1/\m'.G=(i,.deep 0 τ l none)::m.G/\Inv C w0 M m'/\Evo m m'/\RelSV m' (.slice (some ⟨m.w.heap.size,0,none⟩) l.length cap) (.av (.ownd i)):=by
 have hlt:m.w.heap.size<w1.heap.size:=(L5.1 hb).1;obtain⟨g1,g2⟩:=si hi hw (λb h=>h.elim);have hF:∀ b,m.F b->m.F b/\w1.heap[b]?=m.w.heap[b]?:=λb hb'=>⟨hb',hw.block b (hi.fro b hb') (λh=>h)⟩;have hfree:∀ v∈hs,dj w0 M ⟨w1,m.F,m.ι,m.G⟩ v:=by intro v hv b hb';obtain⟨k1,k2,k3,k4⟩:=hf v hv b hb';exact⟨k1,k2,RK k3 hw.size,k4⟩
 have hub:∀ b,HB (.slice (some ⟨m.w.heap.size,0,none⟩) l.length cap) b->b=m.w.heap.size:=λb hb'=>hb'.2.symm;have hd:DeepW w1 m.F (.slice (some ⟨m.w.heap.size,0,none⟩) l.length cap) hs τ l none:=by
  refine⟨hl,⟨_,cap,rfl,h1,h2,λ_=>⟨m.w.heap.size,0,c,el,fz,rfl,hb,hc,by omega,λk hk _=>by rw[RM];exact hcs k hk⟩⟩,λk hk v hv _=>?_,λk v hk=>(by cases hk),?_⟩
  ·exact(hr k hk v hv).mono hF (λb hb'=>hw.block b (hf v (B7 hv) b hb').2.2.1 (λh=>h))
  refine Te (λv hv b hb1 hb2=>?_) ha;have:=hub b hb1;have:=(hf v hv b hb2).2.2.1;omega
 obtain⟨m',p1,p2,p3,p4,p5,p6,p7⟩:=iU (m:=⟨w1,m.F,m.ι,m.G⟩) g1 hn hd (λv hv=>by
  rcases A6.1 hv with rfl|hv
  ·intro b hb';have:=hub b hb';subst this;have:=hi.kept.size;exact⟨.inl this,λhF'=>by have:=hi.fro _ hF';omega,hlt,λid o ho hob hb2=>by have:=(hi.own id o _ ho hob hb2).2.2;omega⟩
  exact hfree v hv)
 exact⟨m',p1,p3,p5,g2.trans p6,(aw (a:=.ownd i) (by intros;simp)).2 p7⟩
theorem IR (hi:Inv C w0 M m){i:Nat}(hn:m.G.get i=none){w1:World}(hw:Kept m.w (fun _=>False) w1){τ : Ty}(ad:Option Addr) :
  ∃ m',m'.w=w1/\m'.G=(i,.arr τ [])::m.G/\Inv C w0 M m'/\Evo m m'/\RelSV m' (.slice ad 0 0) (.av (.own i)):=by
 obtain⟨g1,g2⟩:=jw hi hw (i:=i) (o:=.arr τ []) (h:=.slice ad 0 0) hn (by intro b hb;cases ad<;>simp[HB,HB1]at hb)
  ⟨ad,0,by simp,by simp,by unfold maxLen;omega,λh=>absurd rfl h⟩
 refine⟨_,rfl,rfl,g1,g2,?_⟩;exact(aw (a:=.own i) (by intros;simp)).2 ⟨rfl,.arr τ [],by rw[Heap.get_cons,if_pos rfl],λ_=>by simp⟩
theorem BL (z:Array Value)(hz:0 < z.size)(n i:Nat)(h:i < n) :
  seg ((Sb (n*z.size)).map (z[· % z.size]!)) (i*z.size) z.size=z.toList:=by
 apply Sl;intro k;by_cases hk:k<z.size
 ·rw[seg_getElem? _ _ _ _ hk];have hlt:i*z.size+k<n*z.size:=by have:(i+1)*z.size<=n*z.size:=A4 _ h;rw[B3]at this;omega
  have hm:(i*z.size+k)%z.size=k:=by rw[S9,TN,Uk hk]
  simp[hlt,hm,hk]
 have h2:z.toList[k]?=none:=SG (by rw[RC];omega);rw[h2];unfold seg;rw[L8];simp[hk]
theorem tS {t:TypeId}{n c:Operand}(hT:cA P C.tab=true)(hi:Inv C w0 M m)(hG:m.G=s.G)(hS:∀ x,RelSV m (a.eval x) (ai C s.env x))(ho:o.op=.makeSlice t n c)
  (h:bj C o s some=some s'):Does P o a m.w (Res C w0 M m s s' o.dst):=by
 simp only[aB,aQ,ho]at h;split at h
 ·rename_i e ht;obtain⟨et,hu,hck⟩:=bc (aj hT ht);obtain⟨k1,x,hx,h⟩:=gB h;obtain⟨k2,y,hy,h⟩:=gB h;have hxv:=hS n;have hyv:=hS c;rw[hx]at hxv;rw[hy]at hyv;obtain⟨hxv,_,_⟩:=cY hxv;obtain⟨hyv,_,_⟩:=cY hyv;obtain⟨l,hl,h⟩:=A1.1 h;unfold dk at hl;split at hl
  ·rename_i hc;simp only[bd]at hl;subst hl;obtain⟨c1,c2,c3⟩:=hc;have hlim:lim=68719476736:=rfl;rw[hlim]at c3;obtain⟨i,hn,h⟩:=bW h;obtain⟨inf,z,r1,r2,r3,r4,r5,r6,r7⟩:=dC hck;obtain⟨c0,e0,hr0,_⟩:=ec (m:=m) (li (aj hT ht)) r5;rw[RN]at e0;have hzs:z.cells.size=e.size:=by rw[<- RC,e0];exact hr0.len
   have w1:IntKind.i64.wrap x=x:=IntWalk.i64_in x (by omega);have w2:IntKind.i64.wrap y=y:=IntWalk.i64_in y (by omega);have hb1:(inf.bytes:Int)*y<=2048*68719476736:=by
    have:(inf.bytes:Int)<=2048:=by omega
    exact Ut this c3 (by omega) (by omega)
   have hb2:(inf.bytes:Int)*x<=2048*68719476736:=by
    have:(inf.bytes:Int)<=2048:=by omega
    exact Ut this (by omega) (by omega) (by omega)
   have h48:(2:Int)^48=281474976710656:=by decide
   have n1:¬y<0:=by omega
   have n2:¬x<0:=by omega
   have n3:¬(inf.bytes:Int)*y>2^48:=by omega
   have n4:¬x>y:=by omega
   obtain⟨zc,hzc⟩ : ∃ zc,zc=(if y.toNat * e.size=0 then #[] else z.cells):=⟨_,rfl⟩;have hrun:(Instr.makeSlice t (.int k1 x) (.int k2 y)).run P m.w=.ok (.slice (some ⟨m.w.heap.size,0,none⟩) x.toNat y.toNat)
     (m.w.alloc (.cells ((Sb (y.toNat*e.size)).map (zc[· % zc.size]!)) et)):=by
    have hs:=bC hck m.w;simp only[Instr.makeSlice,Sem.run_bind,run_underlying hu,Result.andThen_ok,asInt,asIntOf,Sem.run_pure,typeInfo,run_program,r1,w1,w2];simp only[n1,n2,n3,n4,decide_false,Bool.or_self,Bool.false_or,Bool.or_false,RY,if_false];by_cases hz:y.toNat*e.size=0
    ·rw[if_pos hz]at hzc;subst hzc;simp[hs,hz,newRow]
    rw[if_neg hz]at hzc;subst hzc;simp[hs,hz,newRow,zeroValue,typeInfo,r1,r4]
   have hcsz:((Sb (y.toNat*e.size)).map (zc[· % zc.size]!)).size=y.toNat*e.size:=by simp
   have hsegz:∀ j,j<x.toNat->Rd m.w m.F e (seg ((Sb (y.toNat*e.size)).map (zc[· % zc.size]!)) (j*e.size) e.size) (bu e)/\(e.size≠0->seg ((Sb (y.toNat*e.size)).map (zc[· % zc.size]!)) (j*e.size) e.size=c0):=by
    intro j hj;by_cases hz:e.size=0
    ·have:c0=[]:=by have:=hr0.len;rw[hz]at this;exact B4 this
     subst this;have:seg ((Sb (y.toNat*e.size)).map (zc[· % zc.size]!)) (j*e.size) e.size=[]:=by unfold seg;rw[hz];simp
     rw[this];exact⟨hr0,λh=>absurd hz h⟩
    have hne:y.toNat*e.size≠0:=by
     intro h0;rcases Un.1 h0 with h0|h0<;>omega
    rw[if_neg hne]at hzc;subst hzc;have:=BL z.cells (by omega) y.toNat j (by omega);rw[hzs]at this;rw[hzs,this,e0];exact⟨hr0,λ_=>rfl⟩
   obtain⟨d,hd⟩:∃ d,d=(C.deep.any λd=>A3 d (o.dst.getD 0)):=⟨_,rfl⟩;rw[<- hd]at h;have plain:∃ m',m'.w=m.w.alloc (.cells ((Sb (y.toNat*e.size)).map (zc[· % zc.size]!)) et)/\m'.G=(i,.arr e (B8 x.toNat (bu e)))::m.G/\Inv C w0 M m'/\Evo m m'/\RelSV m' (.slice (some ⟨m.w.heap.size,0,none⟩) x.toNat y.toNat) (.av (.own i)):=by
    obtain⟨m',q1,q2,q3,q4,q5⟩:=lR (τ:=e) (l:=B8 x.toNat (bu e)) (cap:=y.toNat) (fz:=(0,0)) hi (hG▸hn) (eZ m.w (.cells ((Sb (y.toNat*e.size)).map (zc[· % zc.size]!)) et)) (cz m.w _) (.inl (B2 _)) (by simp;omega) (by unfold maxLen;omega) (by rw[hcsz];exact B2 _) (λj hj=>by
     simp only[Sq]at hj;rw[SC];exact(hsegz j hj).1)
    exact⟨m',q1,q2,q3,q4,by simpa using q5⟩
   obtain⟨m',q1,q2,q3,q4,q5⟩:∃ m',m'.w=m.w.alloc (.cells ((Sb (y.toNat*e.size)).map (zc[· % zc.size]!)) et)/\m'.G=(i,ii d e (B8 x.toNat (bu e)))::m.G/\Inv C w0 M m'/\Evo m m'/\RelSV m' (.slice (some ⟨m.w.heap.size,0,none⟩) x.toNat y.toNat) (.av (fc d e i)):=by
    cases d with
    |false=>exact plain
    |true=>
     cases e with
     |slice σ=>
      have hc0:c0=[.slice none 0 0]:=by unfold zeroIs at r5;split at r5<;>simp_all
      obtain⟨m',q1,q2,q3,q4,q5⟩:=qS (τ:=σ) (l:=B8 x.toNat ([]:List σ.den)) (hs:=B8 x.toNat (.slice none 0 0)) (cap:=y.toNat) (fz:=(0,0)) hi (hG▸hn) (eZ m.w (.cells ((Sb (y.toNat*(Ty.slice σ).size)).map (zc[· % zc.size]!)) et)) (cz m.w _) (.inl (B2 _)) (by simp;omega) (by unfold maxLen;omega) (by rw[hcsz];simp[Ty.size]) (by simp) (λk hk=>by
       simp only[Sq]at hk;have e1:=(hsegz k hk).2 (by simp[Ty.size]);rw[hc0]at e1;simp only[Ty.size,SI]at e1 ⊢;have e2:=seg_getElem? ((Sb (y.toNat*1)).map (zc[· % zc.size]!)) k 1 0 (by omega);simp only[SI]at e2;rw[e1,R2]at e2;rw[<- e2];simp[hk]) (λk hk v hv=>by
        simp only[List.getElem?_replicate]at hv;split at hv
        ·cases hv;rw[SC];exact⟨none,0,rfl,by simp,by unfold maxLen;omega,λh=>absurd rfl h⟩
        cases hv) (by
        rw[cP,R3];intro p q hp hq _ b hb;rw[SC]at hb;simp[HB,HB1]at hb) (λv hv b hb=>by
         rw[List.mem_replicate]at hv;rw[hv.2]at hb;simp[HB,HB1]at hb)
      refine⟨m',q1,q2,q3,q4,?_⟩;rw[Sq]at q5;exact q5
     |_=>exact plain
   refine Does.value (w':=m'.w) (v:=.slice (some ⟨m.w.heap.size,0,none⟩) x.toNat y.toNat) ?_ ⟨m',.av (fc d e i),rfl,?_,q3,q4,q5⟩
   ·simp[execOp,ho,hxv,hyv,hrun,q1]
   simp only[bd]at h;rw[<- h,q2,hG]
  simp at hl
 simp at h
theorem eu{τ:Option Ty}{v:SV}(h:sj τ v=true):(∃ b,v=.av (.val .str b)/\τ=some .str)\/((∀ b,v≠.av (.val .str b))/\∃ e,τ=some (.slice e)):=by
 unfold sj at h;split at h
 ·exact .inl ⟨_,rfl,rfl⟩
 all_goals first|exact .inr ⟨by intros;simp,_,rfl⟩|cases h
theorem Ky (hT:cA P C.tab=true)(hi:Inv C w0 M m)(hG:m.G=s.G)(hS:∀ x,RelSV m (a.eval x) (ai C s.env x)){x:Operand}{ats:Array TypeId}
  (ho:o.op=.call { callee:=.builtin .len,args:=#[x],argTypes:=ats })
  (h:cond (sj (C.tab.get (ats.getD 0 0)) (ai C s.env x)&&RD 1 ats.size) (lenOf s (ai C s.env x) λn=>some (ah o.dst (.av (.val (.int .i64) n)) s)) none=some s'):Does P o a m.w (Res C w0 M m s s' o.dst):=by
 ·cases hc:(sj (C.tab.get (ats.getD 0 0)) (ai C s.env x)&&RD 1 ats.size)with
  |false=>rw[hc]at h;simp at h
  |true=>
   rw[hc]at h;simp only[UA]at h;simp only[np]at hc;obtain⟨hty,hsz⟩:=hc;have hsz:=L9 hsz;have hx:=hS x;have hat:ats[0]?=some (ats.getD 0 0):=by simp[Array.getElem?_eq_getElem (show 0<ats.size by omega)]
   have fin {n:Nat} (hn:n<=maxLen) (hv:(∃ b:ByteArray,P.underlying (ats.getD 0 0)=some .string/\a.eval x=.string b/\b.size=n)\/(∃ et ad cap,P.underlying (ats.getD 0 0)=some (.slice et)/\a.eval x=.slice ad n cap))
     (hs:some (ah o.dst (.av (.val (.int .i64) (n:Int))) s)=some s'):Does P o a m.w (Res C w0 M m s s' o.dst):=by
    refine aD hi hG (v:=.int .i64 n) ?_ (er (th hn)) hs;clear hty;generalize ats.getD 0 0=t0 at hat hv;rcases hv with⟨b,h1,h2,h3⟩|⟨et,ad,cap,h1,h2⟩
    ·simp[execOp,ho,resolve,invoke,builtin,h2,Builtin.len_,hat,run_underlying h1,goInt,h3]
    simp[execOp,ho,resolve,invoke,builtin,h2,Builtin.len_,hat,run_underlying h1,goInt]
   clear hsz;generalize ats.getD 0 0=t0 at hat hty fin;unfold lenOf at h;split at h
   ·rename_i e l hp;rw[hp]at hx hty;obtain⟨ad,cap,hv,h2,h3,_⟩:=gQ hx;obtain⟨e1,ht⟩:∃ e,C.tab.get t0=some (.slice e):=by
     rcases eu hty with⟨_,h,_⟩|⟨_,h⟩
     ·cases h
     exact h
    obtain⟨et,hu,_⟩:=bc (aj hT ht);exact fin (by omega) (.inr ⟨et,ad,cap,hu,hv⟩) h
   ·rename_i b hp;rw[hp]at hx hty;obtain⟨hv,h2⟩:=jM hx;have ht:C.tab.get t0=some .str:=by
     rcases eu hty with⟨_,_,h⟩|⟨h,_⟩
     ·exact h
     exact absurd rfl (h b)
    exact fin h2 (.inl ⟨b,fM (aj hT ht),hv,rfl⟩) h
   ·rename_i hp;rw[hp]at hx hty;obtain⟨ad,hv⟩:=hx;obtain⟨e1,ht⟩:∃ e,C.tab.get t0=some (.slice e):=by
     rcases eu hty with⟨_,h,_⟩|⟨_,h⟩
     ·cases h
     exact h
    obtain⟨et,hu,_⟩:=bc (aj hT ht);exact fin (n:=0) (by omega) (.inr ⟨et,ad,0,hu,hv.1⟩) h
   ·rename_i id hp;rw[hp]at hx hty;obtain⟨_,ob,hob,hv⟩:=hx;rw[hG]at hob;split at h
    ·rename_i e l hl;rw[hl]at hob;simp only[bd]at hob;subst hob;obtain⟨ad,cap,r1,r2,r3,_⟩:=hi.objs id _ (hG▸hl);obtain⟨e1,ht⟩:∃ e,C.tab.get t0=some (.slice e):=by
      rcases eu hty with⟨_,h,_⟩|⟨_,h⟩
      ·cases h
      exact h
     obtain⟨et,hu,_⟩:=bc (aj hT ht);exact fin (by omega) (.inr ⟨et,ad,cap,hu,by rw[hv rfl,r1]⟩) h
    simp at h
   ·rename_i id off n hp;rw[hp]at hx hty;obtain⟨_,ob,hob,hv⟩:=hx;rw[hG]at hob;split at h
    ·rename_i e l hl;rw[hl]at hob;simp only[bd]at hob;subst hob;obtain⟨ad,cap,r1,r2,r3,_⟩:=hi.objs id _ (hG▸hl);simp only at hv;obtain⟨e1,ht⟩:∃ e,C.tab.get t0=some (.slice e):=by
      rcases eu hty with⟨_,h,_⟩|⟨_,h⟩
      ·cases h
      exact h
     obtain⟨et,hu,_⟩:=bc (aj hT ht);obtain⟨a',n',cap',ad',v1,v2,v3⟩:=hv.2;exact fin (by omega) (.inr ⟨et,_,_,hu,v2⟩) h
    simp at h
   ·rename_i id off n hp;rw[hp]at hx hty;obtain⟨_,ob,hob,hv⟩:=hx;rw[hG]at hob;split at h
    ·rename_i e l hl;rw[hl]at hob;simp only[bd]at hob;subst hob;obtain⟨ad,cap,r1,r2,r3,_⟩:=hi.objs id _ (hG▸hl);simp only at hv;obtain⟨e1,ht⟩:∃ e,C.tab.get t0=some (.slice e):=by
      rcases eu hty with⟨_,h,_⟩|⟨_,h⟩
      ·cases h
      exact h
     obtain⟨et,hu,_⟩:=bc (aj hT ht);obtain⟨k1,k2,b,o',n',cap',v1,v2⟩:=hv;exact fin (by omega) (.inr ⟨et,_,_,hu,v2⟩) h
    simp at h
   ·rename_i id hp;rw[hp]at hx hty;obtain⟨_,ob,hob,hv⟩:=hx;rw[hG]at hob;split at h
    ·rename_i ver e l hole hl;rw[hl]at hob;simp only[bd]at hob;subst hob;obtain⟨u,hs,d1,d2⟩:=cK hi (hG▸hl);obtain⟨us,v1,v2⟩:=hv;rw[d1]at v1;simp only[Value.tuple.injEq]at v1;subst v1;simp only[B9,B5,bd]at v2;obtain⟨ad,cap,r1,r2,r3,_⟩:=d2.outer;obtain⟨e1,ht⟩:∃ e,C.tab.get t0=some (.slice e):=by
      rcases eu hty with⟨_,h,_⟩|⟨_,h⟩
      ·cases h
      exact h
     obtain⟨et,hu,_⟩:=bc (aj hT ht);exact fin (by omega) (.inr ⟨et,ad,cap,hu,by rw[<- v2,r1]⟩) h
    simp at h
   ·rename_i id ver j hp;rw[hp]at hx hty;obtain⟨_,ob,hob,hv⟩:=hx;rw[hG]at hob;split at h
    ·rename_i ver' e l hl;rw[hl]at hob;simp only[bd]at hob;subst hob;cases hb:A3 ver ver' with
     |false=>rw[hb]at h;simp at h
     |true=>
      rw[hb]at h;have:=xy hb;subst this;obtain⟨hj,_,us,v1,v2⟩:=hv.2 rfl;simp only[UA,jS hj]at h;obtain⟨u,hs,d1,d2⟩:=cK hi (hG▸hl);rw[d1]at v1;simp only[Value.tuple.injEq]at v1;subst v1;simp only[B9,L4]at v2;obtain⟨ad,cap,r1,r2,r3,_⟩:=d2.inner j hj _ v2 (by simp);obtain⟨e1,ht⟩:∃ e,C.tab.get t0=some (.slice e):=by
       rcases eu hty with⟨_,h,_⟩|⟨_,h⟩
       ·cases h
       exact h
      obtain⟨et,hu,_⟩:=bc (aj hT ht);exact fin (by omega) (.inr ⟨et,ad,cap,hu,r1⟩) h
    simp at h
   simp at h
end
end Go.Vm

/-
 The machine's operations against the model's: conversions, parts of slices, literals.
-/
namespace Go.Vm
section
variable {P:Program}{C:Ctx}{w0:World}{M:Own}{o:Oper}{a:Act}{m:Mem}{s s':St}
theorem wC{x y:Int}{lo hi:Int}(h1:lo<=x/\x<=hi)(h2:lo<=y/\y<=hi):lo<=bU x y/\bU x y<=hi:=by unfold bU;split<;>assumption
theorem xi{x y:Int}{lo hi:Int}(h1:lo<=x/\x<=hi)(h2:lo<=y/\y<=hi):lo<=cE x y/\cE x y<=hi:=by unfold cE;split<;>assumption
theorem jX (mx:Bool)(hS:∀ x,RelSV m (a.eval x) (ai C s.env x)){R:Type}{K:Int->Option R}{z:R}:∀(xs:List Operand) (n:Int),
  IntKind.i64.min<=n/\n<=IntKind.i64.max->jp mx n (xs.map (ai C s.env)) K=some z ->
  ∃ n',K n'=some z/\(IntKind.i64.min<=n'/\n'<=IntKind.i64.max)/\((xs.map a.eval).foldlM (cond mx Builtin.max2 Builtin.min2) (.int .i64 n)).run P m.w=.ok (.int .i64 n') m.w
 |[],n,hn,h=>⟨n,h,hn,by simp⟩
 |x::xs,n,hn,h=>by
  simp only[L3,jp]at h;obtain⟨y,hy,h⟩:=mD h;have hx:=hS x;rw[hy]at hx;obtain⟨hx,h1,h2⟩:=cY hx;cases mx with
  |true=>obtain⟨n',r1,r2,r3⟩:=jX true hS xs (cE n y) (xi hn ⟨h1,h2⟩) h;refine⟨n',r1,r2,?_⟩;simp only[L3,Ug,UA,hx,Builtin.max2,Sem.run_bind,Sem.run_pure,Result.andThen_ok];exact r3
  |false=>obtain⟨n',r1,r2,r3⟩:=jX false hS xs (bU n y) (wC hn ⟨h1,h2⟩) h;refine⟨n',r1,r2,?_⟩;simp only[L3,Ug,UB,hx,Builtin.min2,Sem.run_bind,Sem.run_pure,Result.andThen_ok];exact r3
theorem MQ (hT:cA P C.tab=true)(hi:Inv C w0 M m)(hG:m.G=s.G)(hS:∀ x,RelSV m (a.eval x) (ai C s.env x)){args:Array Operand}{ats:Array TypeId}
  (ho:o.op=.call { callee:=.builtin .cap,args,argTypes:=ats }) (h:bj C o s some=some s'):Does P o a m.w (Res C w0 M m s s' o.dst):=by
 simp only[aB,aQ,ho]at h;split at h
 ·rename_i x t ha ht;have ha:args=#[x]:=by rw[<- RP (xs:=args),ha]
  have ht:ats=#[t]:=by rw[<- RP (xs:=ats),ht]
  subst ha ht;have hx:=hS x;split at h
  ·rename_i e d hty hv;rw[hv]at hx;obtain⟨ad,hx,_⟩:=hx;obtain⟨et,hu,_⟩:=bc (aj hT hty);exact aD hi hG (v:=.int .i64 0) (by simp[execOp,ho,resolve,invoke,builtin,Builtin.cap_,run_underlying hu,hx,goInt]) (er ⟨by decide,by decide⟩) h
  cases h
 cases h
theorem Ml (hi:Inv C w0 M m)(hG:m.G=s.G)(hS:∀ x,RelSV m (a.eval x) (ai C s.env x)){args:Array Operand}{ats:Array TypeId}
  (ho:o.op=.call { callee:=.builtin .min,args,argTypes:=ats }) (h:bj C o s some=some s'):Does P o a m.w (Res C w0 M m s s' o.dst):=by
 simp only[aB,aQ,ho]at h;obtain⟨l,rfl⟩:∃ l:List Operand,args=l.toArray:=⟨args.toList,by simp⟩;cases l with
 |nil=>simp at h
 |cons x xs=>simp only[L3]at h;obtain⟨y,hy,h⟩:=mD h;have hx:=hS x;rw[hy]at hx;obtain⟨hx,h1,h2⟩:=cY hx;obtain⟨n',r1,r2,r3⟩:=jX (P:=P) (m:=m) (a:=a) false hS xs y ⟨h1,h2⟩ h;refine aD hi hG (v:=.int .i64 n') ?_ (er r2) r1;simp only[UB]at r3;simp[execOp,ho,resolve,invoke,builtin,Builtin.min_,hx,r3]
theorem Mx (hi:Inv C w0 M m)(hG:m.G=s.G)(hS:∀ x,RelSV m (a.eval x) (ai C s.env x)){args:Array Operand}{ats:Array TypeId}
  (ho:o.op=.call { callee:=.builtin .max,args,argTypes:=ats }) (h:bj C o s some=some s'):Does P o a m.w (Res C w0 M m s s' o.dst):=by
 simp only[aB,aQ,ho]at h;obtain⟨l,rfl⟩:∃ l:List Operand,args=l.toArray:=⟨args.toList,by simp⟩;cases l with
 |nil=>simp at h
 |cons x xs=>simp only[L3]at h;obtain⟨y,hy,h⟩:=mD h;have hx:=hS x;rw[hy]at hx;obtain⟨hx,h1,h2⟩:=cY hx;obtain⟨n',r1,r2,r3⟩:=jX (P:=P) (m:=m) (a:=a) true hS xs y ⟨h1,h2⟩ h;refine aD hi hG (v:=.int .i64 n') ?_ (er r2) r1;simp only[UA]at r3;simp[execOp,ho,resolve,invoke,builtin,Builtin.max_,hx,r3]
theorem wQ {x:Operand}{i:Nat}(hi:Inv C w0 M m)(hG:m.G=s.G)(hS:∀ x,RelSV m (a.eval x) (ai C s.env x))(ho:o.op=.extract x i)
  (h:bj C o s some=some s'):Does P o a m.w (Res C w0 M m s s' o.dst):=by
 simp only[aB,aQ,ho]at h;have hx:=hS x;split at h
 ·rename_i l hp;rw[hp]at hx;obtain⟨us,hv,hr⟩:=hx;split at h
  ·rename_i c hc;obtain⟨u,hu,hr'⟩:=hr.get hc;exact aD hi hG (v:=u) (sv:=.agg c) (by simp[execOp,ho,hv,Instr.extract,hu]) (by simp only[fy,UA]at hr';exact hr') h
  ·rename_i at' hc;obtain⟨u,hu,hr'⟩:=hr.get hc;simp only[fy,UB]at hr';obtain⟨b,hb,hr'⟩:=hr';simp only[SK,and_true]at hb;subst hb;exact aD hi hG (v:=u) (sv:=.av at') (by simp[execOp,ho,hv,Instr.extract,hu]) (RelSV.of_atom hr') h
  simp at h
 simp at h
theorem mK (hi:Inv C w0 M m)(hG:m.G=s.G)(hS:∀ x,RelSV m (a.eval x) (ai C s.env x)):∀(xs:List Operand) {l:List Nat},oC s.G (xs.map (ai C s.env))=some l ->
  Rel2 (fun u c=>∃ o,m.G.get c=some o/\(match o with
    |.box _=>∃ b,m.ι c=.pointer (some ⟨b,0,none⟩)/\u=.pointer (some ⟨b,0,none⟩)
    |.dead=>True
    |_=>False)) (xs.map a.eval) l
 |[],l,h=>by simp[oC]at h;subst h;trivial
 |x::xs,l,h=>by
  have hx:=hS x;simp only[L3]at h ⊢;generalize ai C s.env x=v at h hx;unfold oC at h;split at h
  ·cases ‹_::_=[]›
  ·rename_i i r heq;simp only[SK]at heq;obtain⟨rfl,rfl⟩:=heq;obtain⟨_,ob,hob,hv⟩:=(aw (m:=m) (a:=.ptr i 0) (by intros;simp)).1 hx;split at h
   ·rename_i bl hbl;split at h
    ·rename_i l' hl';simp only[bd]at h;subst h;exact⟨⟨ob,hob,hv⟩,mK hi hG hS xs hl'⟩
    simp at h
   simp at h
  simp at h
theorem nI:∀{us:List Value} {l:List Atom} {q:List (Σ t:Ty,t.den)},Rel2 (ak m) us l->iA l=some q->Rel2 (λu (p:Σ t:Ty,t.den)=>Rd m.w m.F p.1 [u] p.2/\p.1.isAgg=false) us q
 |[],[],q,_,h=>by simp only[iA,bd]at h;subst h;trivial
 |u::us,a::l,q,hr,h=>by
  cases a with
  |val τ x=>simp only[iA]at h;obtain⟨q',hq,h⟩:=A1.1 h;simp only[bd]at h;subst h;exact⟨hr.1,nI hr.2 hq⟩
  |_=>simp[iA]at h
theorem ll (hi:Inv C w0 M m)(hS:∀ x,RelSV m (a.eval x) (ai C s.env x)):∀(xs:List Operand) {q:(Σ t:Ty,t.den)×List Nat},kz m.G (xs.map (ai C s.env))=some q ->
  Rd m.w (Thru m q.2) q.1.1 (xs.map a.eval) q.1.2
 |[],q,h=>by simp only[List.map_nil,kz,bd]at h;subst h;rfl
 |x::xs,q,h=>by
  have hx:=hS x;simp only[L3]at h ⊢;unfold kz at h;split at h
  ·rename_i he;cases he
  ·rename_i e y r he;simp only[SK]at he;obtain⟨he,rfl⟩:=he;split at h
   ·rename_i q' hq';simp only[bd]at h;subst h;have ih:=ll hi hS xs hq';rw[he]at hx;obtain⟨cs,h1,h2⟩:=hx;obtain⟨v,rfl,_⟩:=h2.single rfl;have h1:a.eval x=v:=h1;exact⟨[a.eval x],xs.map a.eval,rfl,N7 (h1▸h2),ih⟩
   simp at h
  ·rename_i i r he;simp only[SK]at he;obtain⟨he,rfl⟩:=he;split at h
   ·rename_i τ y hg;cases ha:τ.isAgg with
    |true=>rw[ha]at h;simp at h
    |false=>
     rw[ha]at h;simp only[UB]at h;split at h
     ·rename_i q' hq';simp only[bd]at h;subst h;have ih:=ll hi hS xs hq';rw[he]at hx;have hx:=(aw (m:=m) (a:=.ptr i 0) (by intros;simp)).1 hx;have hbv:jm m.G τ i 0=some y:=by
       have hsz:=eG ha;have hc:aC m.G τ [.val τ y]=some (y,[]):=by
        cases τ<;>first|(simp[aC,aL,bM];done)|simp[Ty.isAgg]at ha
       unfold jm;rw[hg];simp only[hsz,RJ,RQ,RM,Tg,hc];rfl
      have hb:=xC hi hbv hx;refine⟨[a.eval x],xs.map a.eval,rfl,pK ?_ hb,pK (λk hk=>by simp[hk]) ih⟩;intro k hk;have:iJ m.G i=[]:=by simp[iJ,hg,atomIds]
      rw[this]at hk;simp at hk;simp[hk]
     simp at h
   simp at h
  simp at h
theorem vJ {fn:Fn}{first caps:Array Operand}(hi:Inv C w0 M m)(hG:m.G=s.G)(hS:∀ x,RelSV m (a.eval x) (ai C s.env x))(ho:o.op=.makeFunc fn first caps)
  (h:bj C o s some=some s'):Does P o a m.w (Res C w0 M m s s' o.dst):=by
 cases fn with
 |func f=>
  simp only[aB,aQ,ho]at h;split at h
  ·rename_i l hf hc;have hf':first=#[]:=by rw[<- RP (xs:=first),hf]
   subst hf';have hr:=mK hi hG hS caps.toList hc;refine aD hi hG (v:=.func (.func f) #[] (caps.toList.map a.eval).toArray) (sv:=.av (.clo f l)) ?_ (show ak m _ (.clo f l)from⟨_,rfl,hr⟩) h;have e:TA a.eval caps=(caps.toList.map a.eval).toArray:=by apply TJ;simp
   simp[execOp,ho,Instr.makeFunc,e]
  ·rename_i x hf hc;have hf':first=#[x]:=by rw[<- RP (xs:=first),hf]
   subst hf';have hc':caps=#[]:=by have hr:=(mK hi hG hS caps.toList hc).length;simp at hr;exact hr
   subst hc';have hx:=hS x;split at h
   ·rename_i l hl;rw[hl]at hx;obtain⟨us,hu,h1,hr⟩:=hx;obtain⟨q,hq,h⟩:=A1.1 h;exact aD hi hG (v:=.func (.func f) #[.agg us.toArray] #[]) (sv:=.av (.bnd f q)) (by simp[execOp,ho,Instr.makeFunc,hu]) (show ak m _ (.bnd f q)from⟨us,rfl,h1,nI hr hq⟩) h
   simp at h
  ·rename_i hf hc;have hf':first=#[]:=by rw[<- RP (xs:=first),hf]
   subst hf';split at h
   ·rename_i q hq;simp only[bd]at h;rw[<- hG]at hq;have hr:=ll hi hS caps.toList hq;obtain⟨m1,a1,a2,a3,a4,a5,a6⟩:=dp q.2 hi;have e:TA a.eval caps=(caps.toList.map a.eval).toArray:=by apply TJ;simp
    refine Does.value (w':=m1.w) (v:=.func (.func f) #[] (caps.toList.map a.eval).toArray) (by simp[execOp,ho,Instr.makeFunc,e,a1]) ⟨m1,.av (.val (.clo f q.1.1) q.1.2),rfl,?_,a4,a5,?_⟩
    ·rw[<- h,a3,hG]
    exact⟨[_],rfl,_,rfl,hr.mono λb hb=>⟨a6 b hb,by rw[a1]⟩⟩
   simp at h
  simp at h
 |_=>simp[aB,aQ,ho]at h
theorem yo {t u:TypeId}{x:Operand}(hT:cA P C.tab=true)(hi:Inv C w0 M m)(hG:m.G=s.G)(hS:∀ x,RelSV m (a.eval x) (ai C s.env x))(ho:o.op=.convert t u x)
  (h:bj C o s some=some s'):Does P o a m.w (Res C w0 M m s s' o.dst):=by
 simp only[aB,aQ,ho]at h;have hx:=hS x;split at h
 ·rename_i _ k1 k k2 y h1 h2 hp;rw[hp]at hx;obtain⟨hx,_,_⟩:=cY hx;have u1:=jo (aj hT h1);have u2:=jo (aj hT h2);exact aD hi hG (v:=.int k (k.wrap y)) (by simp[execOp,ho,hx,convert,run_underlying u1,run_underlying u2,Conv.intToInt]) (er (wrap_within k _)) h
 ·rename_i b h1 h2 hp;rw[hp]at hx;obtain⟨hx,hb⟩:=jM hx;have u1:=fM (aj hT h1);obtain⟨et,u2,hck⟩:=bc (aj hT h2);have u3:=jo hck;obtain⟨i,hn,h⟩:=bW h;have hrun:=Lib.run_convert_string_bytes (P:=P) m.w t u et b u1 u2 u3;have hge:b.size<=grownCap m.w b.size 0 et:=grownCap_ge _ _ _ _;have hle:grownCap m.w b.size 0 et<=maxLen:=grownCap_le_maxLen _ _ _ _ hb;have hcs:(Lib.bytesCells m.w et b).size=grownCap m.w b.size 0 et:=by simp[Lib.bytesCells];have:b.data.size=b.size:=rfl;omega
  have hkept:Kept m.w (λ_=>False) (Lib.bytesWorld m.w et b):=by refine⟨?_,?_,?_,by rw[Lib.bytesWorld_size];omega,λk hk _=>Lib.bytesWorld_at_old _ _ _ _ hk⟩<;>rfl
  have hlen:(eF b).length=b.size:=by simp[eF]
  obtain⟨m',q1,q2,q3,q4,q5⟩:=lR (τ:=.int .u8) (l:=eF b) (cap:=grownCap m.w b.size 0 et) hi (hG▸hn) hkept (Lib.bytesWorld_at_new m.w et b) (.inr ⟨rfl,B2 _⟩) (by omega) hle (by simp only[Ty.size];omega) (λj hj=>by
   have hj':j<b.data.size:=by rw[hlen]at hj;exact hj
   have:seg (Lib.bytesCells m.w et b) (j*(Ty.int .u8).size) (Ty.int .u8).size=[.int .u8 (b.data[j].toNat:Int)]:=by
    apply Sl;intro k;simp only[Ty.size,SI];cases k with
    |zero=>rw[seg_getElem? _ _ _ _ (by omega)];have hjb:j<b.size:=hj';simp[Lib.bytesCells,Array.getElem?_append,hj',hjb]
    |succ k=>unfold seg;rw[L8];simp
   rw[this];refine⟨?_,?_⟩
   ·simp[eF]
   have:=(b.data[j]).toNat_lt;have e:(eF b)[j]=(b.data[j].toNat:Int):=by simp[eF]
   rw[e];generalize (b.data[j]).toNat=z at this ⊢;have e1:IntKind.u8.min=0:=rfl;have e2:IntKind.u8.max=255:=rfl;rw[e1,e2];show(0:Int)<=(z:Int)/\(z:Int)<=255;omega)
  rw[hlen]at q5;refine Does.value (w':=m'.w) (v:=.slice (some ⟨m.w.heap.size,0,none⟩) b.size (grownCap m.w b.size 0 et)) ?_ ⟨m',.av (.own i),rfl,?_,q3,q4,q5⟩
  ·simp[execOp,ho,hx,hrun,q1]
  simp only[bd]at h;rw[<- h,q2,hG]
 ·rename_i h1 h2;split at h
  ·rename_i l hl;have u2:=fM (aj hT h2);obtain⟨et,u1,hck⟩:=bc (aj hT h1);have u3:=jo hck;obtain⟨cs,hv,hrd⟩:=dw hi (hG▸hl) hx;obtain⟨ad,cap,rfl,r1,r2,r3⟩:=hrd;simp only[toV,Ty.isAgg,UB,Tr]at hv;have hsz:(lF l).size=l.length:=strOfNums_size l;have key:(convert t u (a.eval x)).run P m.w=.ok (.string (lF l)) m.w:=by
    rw[hv];cases l with
    |nil=>
     cases ad with
     |none=>rw[run_convert_bytes_nil m.w t et u1 u3 _ _ u u2];rfl
     |some ad=>rw[run_convert_bytes_string m.w t u et _ _ _ u1 u3 u2,run_bytesToString m.w ad _ _ [] (by simp[loadCells,loadCellsFrom])];rfl
    |cons n l=>obtain⟨b,off,c,el,fz,rfl,q2,q3,q4,q5⟩:=r3 (by simp);refine run_convert_bytes_arg m.w t et u1 u3 b off _ cap (n::l) rfl (λj hj=>?_) u u2;have:=(q5 j hj).1;simp only[Ty.size,SI]at this;rw[cX q3];have h0:=seg_getElem? c (off+j) 1 0 (by omega);rw[this,R2]at h0;rw[<- h0];simp[List.getD,dg hj]
   exact aD hi hG (v:=.string (lF l)) (by simp[execOp,ho,key]) (qL (by omega)) h
  simp at h
 ·rename_i b h1 h2 hp;rw[hp]at hx;have hx':=hx;obtain⟨hx,hb⟩:=jM hx;have u1:=fM (aj hT h1);have u2:=fM (aj hT h2);exact aD hi hG (v:=.string b) (sv:=.av (.val .str b)) (by simp[execOp,ho,hx,convert,run_underlying u1,run_underlying u2]) (qL hb) h
 simp at h
end
end Go.Vm

/-
 The machine's operations against the model's: literals of structs and of slices, parts of slices.
-/
namespace Go.Vm
section
variable {P:Program}{C:Ctx}{w0:World}{M:Own}{o:Oper}{a:Act}{m:Mem}{s s':St}
theorem wS(c:Array Value)(o:Nat):aP c o []=c:=by unfold aP;apply TJ;simp
theorem u7 (off:Nat):∀(vs:List Value) (j:Nat) (c:Array Value),off+j+vs.length<=c.size ->
  (vs.zipIdx j).foldl (λcs (x:Value×Nat)=>cs.setIfInBounds (off+x.2) x.1) c=aP c (off+j) vs
 |[],j,c,_=>by rw[wS];rfl
 |v::vs,j,c,h=>by
  simp only[RJ]at h;simp only[Uh,List.foldl_cons];rw[u7 off vs (j+1) _ (by simp;omega)];apply Array.ext_getElem?;intro k;rw[dJ _ _ _ (by simp;omega),dJ _ _ _ (by simp;omega),Array.getElem?_setIfInBounds];simp only[RJ];by_cases h1:off+j=k
  ·subst h1;rw[if_neg (by omega),if_pos rfl,if_pos (by omega),if_pos (by omega)];simp
  by_cases h2:off+j<k/\k<off+j+1+vs.length
  ·rw[if_pos (by omega),if_pos (by omega)];have:k-(off+j)=(k-(off+(j+1)))+1:=by omega
   rw[this];rfl
  rw[if_neg (by omega),if_neg h1,if_neg (by omega)]
theorem xQ (off:Nat)(vs c:Array Value)(h:off+vs.size<=c.size) :
  vs.zipIdx.foldl (λcs (x:Value×Nat)=>cs.setIfInBounds (off+x.2) x.1) c=aP c off vs.toList:=by
 rw[<- Array.foldl_toList,Array.toList_zipIdx];exact u7 off vs.toList 0 c (by simpa using h)
theorem sL (place:Nat->Option (Nat×Nat))(cells:Array Value)(i:Nat)(v:Value)(rest:List (Nat×Value)){off size:Nat}(hp:place i=some (off,size))(hs:v.cells.size=size)
  (hb:off+v.cells.size<=cells.size):Instr.fill place cells ((i,v)::rest)=Instr.fill place (aP cells off v.cells.toList) rest:=by
 rw[<- xQ off v.cells cells hb];simp only[Instr.fill,hp];rw[if_neg (by simp;omega)]
theorem sa:∀{b:Ty} {r:List Field} {o:Nat},chk P b (some (r,o)) 0=true->∃ places,r.mapM (fun f=>(P.info? f.type).map fun i=>(f.offset,i.size))=some places /\
  ∀ i o' σ,b.field i=some (o',σ)->places[i]?=some (o+o',σ.size)
 |.prod a b,r,o,h=>by
  cases r with
  |nil=>simp[chk]at h
  |cons fd r=>
   simp only[chk,np]at h;obtain⟨⟨h1,h2⟩,h3⟩:=h;obtain⟨places,q1,q2⟩:=sa h3;obtain⟨i,z,r1,r2,_⟩:=dC h2;have h1:=xy h1;refine⟨(o,a.size)::places,?_,?_⟩
   ·simp only[List.mapM_cons,r1,q1,SB];simp[h1,r2]
   intro j o' σ hf;cases j with
   |zero=>simp[Ty.field]at hf;obtain⟨rfl,rfl⟩:=hf;rfl
   |succ j=>
    simp only[Ty.field]at hf;split at hf
    ·rename_i o1 t1 hb;simp at hf;obtain⟨rfl,rfl⟩:=hf;have:=q2 j o1 t1 hb;simp only[L4];rw[this,RS]
    simp at hf
 |.unit,[],_,_=>⟨[],rfl,by intro i o' σ hf;simp[Ty.field]at hf⟩
 |.unit,_::_,_,h=>by simp[chk]at h
 |.int _,_,_,h=>by simp[chk]at h
 |.bool,_,_,h=>by simp[chk]at h
 |.str,_,_,h=>by simp[chk]at h
 |.slice _,_,_,h=>by simp[chk]at h
 |.arr _ _,_,_,h=>by simp[chk]at h
 |.ptr _,_,_,h=>by simp[chk]at h
 |.clo _ _,_,_,h=>by simp[chk]at h
theorem uw {τ : Ty}{place:Nat->Option (Nat×Nat)}(hp:∀ i o σ,τ.part i=some (o,σ)->place i=some (o,σ.size))(hS:∀ x,RelSV m (a.eval x) (ai C s.env x)) :
  ∀(xs:List (Nat×Operand)) {l c:List Atom} {cells:Array Value},fO τ (xs.map λp=>(p.1,ai C s.env p.2)) l=some c->Rel2 (ak m) cells.toList l->(∀ u∈cells.toList,u.oneCell'=true) ->
  ∃ cells',Instr.fill place cells (xs.map λp=>(p.1,a.eval p.2))=some cells'/\Rel2 (ak m) cells'.toList c/\∀ u∈cells'.toList,u.oneCell'=true
 |[],l,c,cells,h,hr,h1=>by simp[fO]at h;subst h;exact⟨cells,rfl,hr,h1⟩
 |(i,x)::xs,l,c,cells,h,hr,h1=>by
  simp only[L3,fO]at h;split at h
  ·rename_i o t hf;split at h
   ·rename_i cs hc;cases hl:A3 cs.length t.size with
    |false=>rw[hl]at h;simp at h
    |true=>
     rw[hl]at h;simp only[UA]at h;have hl:=xy hl;split at h
     ·rename_i l' hput;obtain⟨k1,k2⟩:=kW hc (hS x);obtain⟨e1,e2⟩:=lU hput;have n1:=hr.length;have n2:=k1.length;rw[RC]at n1 n2;simp only[L3];rw[sL place cells i (a.eval x) _ (hp i o t hf) (by omega) (by omega)];refine uw hp hS xs h ?_ ?_
      ·rw[e1];unfold aP;simp only[RC,n2];exact((hr.take o).append k1).append (hr.drop _)
      intro u hu;unfold aP at hu;simp only[A5]at hu;rcases hu with(hu|hu)|hu
      ·exact h1 u (R9 hu)
      ·exact k2 u hu
      exact h1 u (Sg hu)
     simp at h
   simp at h
  simp at h
theorem DG {t:TypeId}{parts:Array (Nat×Operand)}(hT:cA P C.tab=true)(hi:Inv C w0 M m)(hG:m.G=s.G)(hS:∀ x,RelSV m (a.eval x) (ai C s.env x))(ho:o.op=.build t parts)
  (h:bj C o s some=some s'):Does P o a m.w (Res C w0 M m s s' o.dst):=by
 simp only[aB,aQ,ho]at h;split at h
 ·rename_i τ ht;cases hst:τ.isAgg with
  |false=>rw[hst]at h;simp at h
  |true=>
   have hck:=aj hT ht (BT hst);rw[hst]at h;simp only[UA]at h;split at h
   ·rename_i c hc;obtain⟨inf,z,r1,r2,r3,r4,r5,r6,r7⟩:=dC hck;obtain⟨c0,e0,_,hr0,hz⟩:=fK r5;rw[RN]at e0;have key:∃ place:Nat->Option (Nat×Nat),(∀ parts,P.built t parts=Instr.fill place z.cells parts)/\∀ i o' σ,τ.part i=some (o',σ)->place i=some (o',σ.size):=by
     cases τ with
     |prod p q=>
      simp only[chk,np]at hck;obtain⟨_,hck⟩:=hck;split at hck
      ·rename_i fs hu;split at hck
       ·rename_i fd r hfs;simp only[np]at hck;obtain⟨⟨h1,h2⟩,h3⟩:=hck;have hx:chk P (.prod p q) (some (fs.toList,0)) 0=true:=by rw[hfs];simp only[chk,np,RM];exact⟨⟨h1,h2⟩,h3⟩
        obtain⟨places,q1,q2⟩:=sa hx;refine⟨λi=>places.toArray[i]?,λparts=>by simp only[Program.built,r1,hu,r4,q1],λi o' σ hf=>?_⟩;have:=q2 i o' σ hf;rw[RM]at this;simpa using this
       simp at hck
      simp at hck
     |unit=>
      simp only[chk,np]at hck;obtain⟨_,hck⟩:=hck;split at hck
      ·rename_i fs hu;split at hck
       ·rename_i hfs;refine⟨λi=>(([]:List (Nat×Nat)).toArray)[i]?,λparts=>?_,by intro i o' σ hf;simp[Ty.part,Ty.field]at hf⟩;have q1:fs.toList.mapM (λf=>(P.info? f.type).map λi=>(f.offset,i.size))=some []:=by rw[hfs];rfl
        simp only[Program.built,r1,hu,r4,q1]
       simp at hck
      simp at hck
     |arr n e=>obtain⟨et,hu,he⟩:=lx hck;obtain⟨ie,ze,s1,s2,_⟩:=dC he;refine⟨λi=>some (i*ie.size,ie.size),λparts=>by simp only[Program.built,r1,hu,r4,s1],λi o' σ hf=>?_⟩;simp only[Ty.part,bd,A8]at hf;obtain⟨rfl,rfl⟩:=hf;simp only[s2]
     |_=>simp[Ty.isAgg]at hst
    obtain⟨place,hbl,hfl⟩:=key;obtain⟨cells',f1,f2,f3⟩:=uw (place:=place) hfl hS parts.toList hc (cells:=z.cells) (by rw[e0];exact hz m) (by rw[e0];exact hr0);have hb:P.built t (parts.map λp=>(p.1,a.eval p.2)).toList=some cells':=by rw[hbl,Tz];exact f1
    have hrun:=run_build m.w t _ cells' hb;refine aD hi hG (v:=.agg cells') (sv:=.agg c) ?_ ⟨cells'.toList,by simp,f3,f2⟩ h;simp[execOp,ho,hrun]
   simp at h
 simp at h
theorem qD {size:Nat}:∀(xs:List Operand) (k:Nat) (cells:Array Value),(∀ x∈xs,(a.eval x).cells.size=size)->(k+xs.length) * size<=cells.size ->
  ∃ cells',Instr.fill (λi=>some (i*size,size)) cells ((xs.zipIdx k).map λp=>(p.2,a.eval p.1))=some cells'/\cells'.size=cells.size /\
   (∀ j x,xs[j]?=some x->seg cells' ((k+j)*size) size=(a.eval x).cells.toList)/\∀ j,j<k->seg cells' (j*size) size=seg cells (j*size) size
 |[],k,cells,_,_=>⟨cells,rfl,rfl,by intro j x h;simp at h,λ_ _=>rfl⟩
 |x::xs,k,cells,h1,h2=>by
  simp only[RJ]at h2;have hx:(a.eval x).cells.size=size:=h1 x (by simp);have hle:(k+1)*size<=(k+(xs.length+1))*size:=A4 _ (by omega);have hle':(k+1)*size=k*size+size:=by rw[B3];omega
  have hb:k*size+(a.eval x).cells.size<=cells.size:=by omega
  have hb':k*size+(a.eval x).cells.toList.length<=cells.size:=by simpa using hb
  have hss:=bG cells (k*size) _ hb';obtain⟨cells',q1,q2,q3,q4⟩:=qD xs (k+1) (aP cells (k*size) (a.eval x).cells.toList) (λy hy=>h1 y (by simp[hy])) (by rw[hss,show k+1+xs.length=k+(xs.length+1) by omega];exact h2);refine⟨cells',?_,q2.trans hss,?_,?_⟩
  ·simp only[Uh,L3];rw[sL _ cells k (a.eval x) _ rfl hx hb];exact q1
  ·intro j y hj;cases j with
   |zero=>simp at hj;subst hj;rw[R2,q4 k (by omega)];have:=kG cells (k*size) _ hb';rw[RC,hx]at this;exact this
   |succ j=>have:=q3 j y (by simpa using hj);rw[show k+(j+1)=k+1+j by omega];exact this
  intro j hj;rw[q4 j (by omega)];have:(j+1)*size<=k*size:=A4 _ hj;rw[B3]at this;exact cw cells (k*size) _ hb' (j*size) size (.inl (by omega))
theorem nz{G:Heap}{e:Ty}:∀{vs:List SV} {l:List e.den},jB G e vs=some l->l.length=vs.length/\∀ i (h:i<l.length),∃ v,vs[i]?=some v/\aV G e v=some l[i]
 |[],l,h=>by simp[jB]at h;subst h;exact⟨rfl,by intro i hi;simp at hi⟩
 |v::vs,l,h=>by
  simp only[jB]at h;split at h
  ·rename_i x hx;split at h
   ·rename_i y hy;simp at h;subst h;obtain⟨h1,h2⟩:=nz hy;refine⟨by simp[h1],λi hi=>?_⟩;cases i with
    |zero=>exact⟨v,rfl,hx⟩
    |succ i=>obtain⟨u,q1,q2⟩:=h2 i (by simpa using hi);exact⟨u,by simpa using q1,by simpa using q2⟩
   simp at h
  simp at h
theorem qf {t et:TypeId}{e:Ty}{n:Nat}{parts:Array (Nat×Operand)}(hu:P.underlying t=some (.slice et))(hck:chk P e none et=true)(hn:n=parts.size)(hlim:n * e.size<=16777216)
  (hall:(parts.toList.zipIdx.all λp=>A3 p.1.1 p.2)=true) (hcell:∀ x∈parts.toList.map (·.2),(a.eval x).cells.size=e.size) :
  ∃ cells:Array Value,cells.size=n*e.size/\(∀ j x,(parts.toList.map (·.2))[j]?=some x->seg cells (j*e.size) e.size=(a.eval x).cells.toList) /\
   ∀ w:World,(Instr.buildSlice t n (parts.map λp=>(p.1,a.eval p.2))).run P w=.ok (.slice (some ⟨w.heap.size,0,none⟩) n n) (w.alloc (.cells cells et)):=by
 obtain⟨xs,hxs⟩:∃ xs,xs=parts.toList.map (·.2):=⟨_,rfl⟩;rw[<- hxs]at hcell ⊢;have hplen:xs.length=n:=by rw[hxs];simp[hn]
 have hparts:parts.toList=xs.zipIdx.map λp=>(p.2,p.1):=by
  rw[hxs];apply Sl;intro k;simp only[SZ,T1,RM];cases hk:parts.toList[k]? with
  |none=>rfl
  |some p=>
   have:(p,k)∈parts.toList.zipIdx:=by rw[R5];exact⟨k,by simp[T1,hk]⟩
   have:=xy (List.all_eq_true.1 hall _ this);simp only at this;simp[<- this]
 obtain⟨inf,z,r1,r2,r3,r4,r5,r6,r7⟩:=dC hck;obtain⟨zc,hzc⟩:∃ zc,zc=(if n*e.size=0 then #[]else z.cells):=⟨_,rfl⟩;obtain⟨cells,f1,f2,f3,_⟩:=qD (a:=a) (size:=e.size) xs 0 ((Sb (n*e.size)).map (zc[· % zc.size]!)) hcell (by simp[hplen]);refine⟨cells,by rw[f2];simp,λj x hx=>by have:=f3 j x hx;rwa[RM]at this,λw=>?_⟩;have hs:=bC hck w;have hl:¬n*e.size>2^24:=by omega
 have hf:Instr.fill (λi=>some (i*e.size,e.size)) ((Sb (n*e.size)).map (zc[· % zc.size]!)) (parts.map λp=>(p.1,a.eval p.2)).toList=some cells:=by rw[Tz,hparts,T2];exact f1
 by_cases hz:n*e.size=0
 ·rw[if_pos hz]at hzc;subst hzc;simp only[Instr.buildSlice,Sem.run_bind,run_underlying hu,Result.andThen_ok,hs,hz,if_neg (show ¬0>2^24 by omega),if_true,Sem.run_pure];rw[hz]at hf;rw[hf];simp[newRow]
 rw[if_neg hz]at hzc;subst hzc;simp only[Instr.buildSlice,Sem.run_bind,run_underlying hu,Result.andThen_ok,hs,if_neg hl,hz,if_false,Sem.run_pure,zeroValue,typeInfo,run_program,r1,r4];rw[hf];simp[newRow]
theorem mZ (hi:Inv C w0 M m){σ : Ty}:∀{vs:List SV} {us:List Value} {p:List (List σ.den)×List Nat},iw m.G σ vs=some p->Rel2 (RelSV m) us vs ->
  p.1.length=us.length/\(∀ i (h:i<p.1.length) u,us[i]?=some u->HdrW m.w m.F u σ p.1[i])/\(∀ id∈p.2,∃ l,m.G.get id=some (.arr σ l)) /\
   (∀ u∈us,∀ b,HB u b->∃ id,id∈p.2/\∃ o,m.G.get id=some o/\isObj o=true/\HB (m.ι id) b)/\(aM p.2=true->cP us)
 |[],[],p,h,_=>by simp only[iw,bd]at h;subst h;exact⟨rfl,by intro i hi;simp at hi,by simp,by simp,λ_=>Se⟩
 |[],_::_,_,_,h=>h.elim
 |_::_,[],_,_,h=>h.elim
 |v::vs,u::us,p,h,hr=>by
  simp only[iw]at h;split at h
  ·rename_i x hx;split at h
   ·rename_i q hq;simp only[bd]at h;subst h;obtain⟨k1,k2⟩:=o7 hi hx hr.1;obtain⟨i1,i2,i3,i4,i5⟩:=mZ hi hq hr.2;have hub:∀ b,HB u b->∃ id,x.2=[id]/\m.G.get id=some (.arr σ x.1)/\HB (m.ι id) b:=by
     intro b hb;rcases k2 with⟨_,e⟩|⟨id,e1,e2,e3⟩
     ·exact absurd hb (e b)
     exact⟨id,e1,e2,e3▸hb⟩
    refine⟨by simp[i1],λi hi' u' hu'=>?_,λid hid=>?_,λu' hu' b hb=>?_,λhn=>?_⟩
    ·cases i with
     |zero=>simp only[B5,bd]at hu';subst hu';exact k1
     |succ i=>exact i2 i (by simpa using hi') u' (by simpa using hu')
    ·rcases A5.1 hid with hid|hid
     ·rcases k2 with⟨e,_⟩|⟨id',e1,e2,_⟩
      ·rw[e]at hid;simp at hid
      rw[e1]at hid;simp at hid;subst hid;exact⟨_,e2⟩
     exact i3 id hid
    ·rcases A6.1 hu' with rfl|hu'
     ·obtain⟨id,e1,e2,e3⟩:=hub b hb;exact⟨id,by rw[e1];simp,_,e2,rfl,e3⟩
     obtain⟨id,e1,e2⟩:=i4 u' hu' b hb;exact⟨id,by simp[e1],e2⟩
    obtain⟨n1,n2,n3⟩:=bf hn;refine Te (λu' hu' b hb hb'=>?_) (i5 n2);obtain⟨id,e1,e2,e3⟩:=hub b hb;obtain⟨id',e4,o,e5,e6,e7⟩:=i4 u' hu' b hb';have:=hi.inj id id' _ o b e2 rfl e5 e6 e3 e7;subst this;exact n3 id (by rw[e1];simp) e4
   simp at h
  simp at h
theorem uh {t et:TypeId}{n:Nat}{parts:Array (Nat×Operand)}{σ : Ty}{p:List (List σ.den)×List Nat}(hi:Inv C w0 M m)(hG:m.G=s.G)(hS:∀ x,RelSV m (a.eval x) (ai C s.env x))(ho:o.op=.buildSlice t n parts)
  (hu:P.underlying t=some (.slice et)) (hck:chk P (.slice σ) none et=true) (hn:n=parts.size) (hn2:n<=16777216) (hlim:n*(Ty.slice σ).size<=16777216) (hall:(parts.toList.zipIdx.all λp=>A3 p.1.1 p.2)=true)
  (hp:iw s.G σ (parts.toList.map λp=>ai C s.env p.2)=some p) (hnd:aM p.2=true)
  (h:bq { env:=s.env,G:=aA p.2 s.G } (o.dst.getD 0) (.deep 0 σ p.1 none) (λi s2=>some (ah o.dst (.av (.ownd i)) s2))=some s'):Does P o a m.w (Res C w0 M m s s' o.dst):=by
 obtain⟨i,hfree,h⟩:=bW h;simp only[bd]at h;rw[<- hG]at hp;have hrel:Rel2 (RelSV m) (parts.toList.map λp=>a.eval p.2) (parts.toList.map λp=>ai C s.env p.2):=by
  generalize parts.toList=l;induction l with
  |nil=>trivial
  |cons q l ih=>exact⟨hS q.2,ih⟩
 obtain⟨k1,k2,k3,k4,k5⟩:=mZ hi hp hrel;have k5:=k5 hnd;have hone:∀ x∈parts.toList.map (·.2),(a.eval x).cells=#[a.eval x]:=by
  intro x hx;obtain⟨j,hj⟩:=R5.1 hx;simp only[SZ,Sz]at hj;obtain⟨q,hq,rfl⟩:=hj;have hjl:j<p.1.length:=by rw[k1];simpa using(A7.1 hq).1
  exact lQ (bK (k2 j hjl (a.eval q.2) (by simp[hq])))
 obtain⟨cells,c1,c2,c3⟩:=qf (a:=a) (e:=.slice σ) hu hck hn hlim hall (λx hx=>by rw[hone x hx];rfl);obtain⟨d1,d2,d3,d4⟩:=kw p.2 hi (λid hid=>by obtain⟨l,hl⟩:=k3 id hid;exact⟨_,hl⟩);have hplen:p.1.length=n:=by rw[k1,hn];simp
 obtain⟨m',q1,q2,q3,q4,q5⟩:=qS (m:=⟨m.w,m.F,m.ι,aA p.2 m.G⟩) (τ:=σ) (l:=p.1) (hs:=parts.toList.map λp=>a.eval p.2) (cap:=n) (fz:=(0,0)) d1 (i:=i) (by show(aA p.2 m.G).get i=none;rw[hG];exact hfree)
  (w1:=m.w.alloc (.cells cells et)) (eZ m.w _) (c:=cells) (el:=et) (cz m.w _) (.inl (B2 _)) (by omega) (by unfold maxLen;omega) (by rw[c1];simp[Ty.size]) k1.symm (λk hk=>by
   have hk':k<parts.toList.length:=by rw[k1]at hk;simpa using hk
   have e1:=c2 k parts.toList[k].2 (by simp[dg hk']);simp only[Ty.size,SI]at e1;have e2:=seg_getElem? cells k 1 0 (by omega);rw[e1,hone _ (List.mem_map.2 ⟨_,List.getElem_mem hk',rfl⟩),R2]at e2;rw[<- e2];simp[dg hk']) k2 k5 (λv hv b hb=>by
    obtain⟨id,e1,ob,e2,e3,e4⟩:=k4 v hv b hb;exact d4 id e1 ob e2 e3 b e4)
 refine Does.value (w':=m'.w) (v:=.slice (some ⟨m.w.heap.size,0,none⟩) n n) ?_ ⟨m',.av (.ownd i),rfl,?_,q3,d2.trans q4,by rw[hplen]at q5;exact q5⟩
 ·simp[execOp,ho,c3,q1]
 rw[<- h,q2,hG]
theorem rH {t:TypeId}{n:Nat}{parts:Array (Nat×Operand)}(hT:cA P C.tab=true)(hi:Inv C w0 M m)(hG:m.G=s.G)(hS:∀ x,RelSV m (a.eval x) (ai C s.env x))(ho:o.op=.buildSlice t n parts)
  (h:bj C o s some=some s'):Does P o a m.w (Res C w0 M m s s' o.dst):=by
 simp only[aB,aQ,ho]at h;split at h
 ·rename_i e ht;obtain⟨et,hu,hck⟩:=bc (aj hT ht);cases hc:(A3 n parts.size&&RD n 16777216&&RD (n*e.size) 16777216&&(parts.toList.zipIdx.all λp=>A3 p.1.1 p.2))with
  |false=>rw[hc]at h;simp at h
  |true=>
   rw[hc]at h;simp only[UA]at h;simp only[np]at hc;obtain⟨⟨⟨hn,hn2⟩,hlim⟩,hall⟩:=hc;have hn2:=L9 hn2;have hn:=xy hn;have hlim:=L9 hlim;cases hd:(C.deep.any λd=>A3 d (o.dst.getD 0))with
   |true=>
    rw[hd]at h;simp only[UA]at h;split at h
    ·rename_i σ _;split at h
     ·rename_i p hp;cases hnd:aM p.2 with
      |false=>rw[hnd]at h;simp at h
      |true=>rw[hnd]at h;exact uh hi hG hS ho hu hck hn hn2 hlim hall hp hnd h
     simp at h
    simp at h
   |false=>
    rw[hd]at h;simp only[UB]at h;split at h
    ·rename_i l hl;obtain⟨i,hfree,h⟩:=bW h;obtain⟨m1,a1,a2,a3,a4,a5,a6⟩:=dp (parts.toList.flatMap λp=>dc s.G (ai C s.env p.2)) hi;obtain⟨hl1,hl2⟩:=nz hl;have hval:∀ j (hj:j<l.length),∃ x,(parts.toList.map (·.2))[j]?=some x/\Rd m1.w m1.F e (a.eval x).cells.toList l[j]:=by
      intro j hj;obtain⟨v,v1,v2⟩:=hl2 j hj;simp only[SZ,Sz]at v1;obtain⟨p,p1,rfl⟩:=v1;refine⟨p.2,by simp[p1],?_⟩;obtain⟨cs,c1,c2⟩:=dw hi (hG▸v2) (hS p.2);rw[c1,lO c2];have:Rd m1.w m1.F e cs l[j]:=by refine c2.mono (λb hb=>⟨a6 b ?_,by rw[a1]⟩);refine Thru.mono ?_ hb;intro k hk;rw[List.mem_flatMap];exact⟨p,B7 p1,hG▸hk⟩
      simpa using this
     have hcell:∀ x∈parts.toList.map (·.2),(a.eval x).cells.size=e.size:=by
      intro x hx;obtain⟨j,hj⟩:=R5.1 hx;have hjl:j<l.length:=by have:=(A7.1 hj).1;rw[hl1];simpa using this
      obtain⟨y,y1,y2⟩:=hval j hjl;rw[hj]at y1;simp only[bd]at y1;subst y1;have:=y2.len;simpa using this
     have hllen:l.length=n:=by rw[hl1];simp[hn]
     obtain⟨cells,f2',f3,hrun⟩:=qf (a:=a) hu hck hn hlim hall hcell;obtain⟨m',q1,q2,q3,q4,q5⟩:=lR (τ:=e) (l:=l) (cap:=n) (fz:=(0,0)) a4 (i:=i) (by rw[a3,hG];exact hfree) (w1:=m1.w.alloc (.cells cells et)) (eZ m1.w _) (c:=cells) (el:=et) (cz m1.w _) (.inl (B2 _)) (by omega)
      (by unfold maxLen;omega) (by omega) (λj hj=>by
       obtain⟨x,x1,x2⟩:=hval j hj;rw[f3 j x x1];exact x2)
     refine Does.value (w':=m'.w) (v:=.slice (some ⟨m.w.heap.size,0,none⟩) n n) ?_ ⟨m',.av (.own i),rfl,?_,q3,a5.trans q4,by rw[hllen,a1]at q5;exact q5⟩
     ·simp[execOp,ho,hrun,q1,a1]
     simp only[bd]at h;rw[<- h,q2,a3,hG]
    simp at h
 simp at h
end
end Go.Vm

/-
 The machine's operations against the model's: parts of slices.
-/
namespace Go.Vm
section
variable {P:Program}{C:Ctx}{w0:World}{M:Own}{o:Oper}{a:Act}{m:Mem}{s s':St}
def fY(x:Option Value)(d i:Int):Prop:=(x=none/\i=d)\/∃ k,x=some (.int k i)
theorem Cm {R:Type}{d:Int}{x:Option Operand}{K:Int->Option R}{r:R}(hS:∀ x,RelSV m (a.eval x) (ai C s.env x))(h:xB C s.env d x K=some r) :
  ∃ i,K i=some r/\fY (x.map a.eval) d i:=by
 cases x with
 |none=>exact⟨d,h,.inl ⟨rfl,rfl⟩⟩
 |some x=>simp only[xB]at h;obtain⟨k,i,h1,h2⟩:=gB h;have hx:=hS x;rw[h1]at hx;exact⟨i,h2,.inr ⟨k,by simp[(cY hx).1]⟩⟩
theorem qt (sl:Bool)(len cap:Nat){low high:Option Value}{l h:Int}(hl:fY low 0 l)(hh:fY high len h)(h1:0<=l)(h2:l<=h)(h3:h<=len)(h4:len<=cap)(w:World) :
  (Instr.sliceBounds sl len cap low high none).run P w=.ok (l.toNat,h.toNat,cap) w:=by
 have e1:(0:Int)<=h/\h<=cap:=by omega
 have e2:(0:Int)<=l/\l<=(h.toNat:Int):=by omega
 rcases hh with⟨rfl,rfl⟩|⟨k,rfl⟩<;>rcases hl with⟨rfl,rfl⟩|⟨k',rfl⟩
 ·simp[Instr.sliceBounds]
 ·have e3:(0:Int)<=l/\l<=(len:Int):=by omega
  simp[Instr.sliceBounds,Instr.sliceBound,asIntOf,e3]
 ·simp[Instr.sliceBounds,Instr.sliceBound,asIntOf,e1]
 simp only[Instr.sliceBounds,Instr.sliceBound,asIntOf,Sem.run_bind,Sem.run_pure,Result.andThen_ok,if_pos e1,if_pos e2]
theorem mm{n:Nat}{lo hi:Int}{p:Nat×Nat}(h:gE n lo hi=some p):0<=lo/\lo<=hi/\hi<=n/\p=(lo.toNat,hi.toNat-lo.toNat):=by
 unfold gE at h;split at h
 ·simp at h;rename_i hc;exact⟨hc.1,hc.2.1,hc.2.2,h.symm⟩
 simp at h
theorem dW {t et:TypeId}{e:Ty}(hu:P.underlying t=some (.slice et))(hck:chk P e none et=true)(ad:Option Addr)(len cap:Nat){low high:Option Value}{l h:Int}
  (hl:fY low 0 l) (hh:fY high len h) (h1:0<=l) (h2:l<=h) (h3:h<=len) (h4:len<=cap) (w:World) :
  (Instr.sliceAt t (.slice ad len cap) low high none).run P w=.ok (.slice (if cap=l.toNat then ad else ad.map (·.add (l.toNat*e.size))) (h.toNat-l.toNat) (cap-l.toNat)) w:=by
 simp[Instr.sliceAt,Instr.slice,run_underlying hu,qt (P:=P) true len cap hl hh h1 h2 h3 h4,bC hck]
theorem pj {t:TypeId}(hu:P.underlying t=some .string)(b:ByteArray){low high:Option Value}{l h:Int}
  (hl:fY low 0 l) (hh:fY high b.size h) (h1:0<=l) (h2:l<=h) (h3:h<=b.size) (w:World) :
  (Instr.sliceAt t (.string b) low high none).run P w=.ok (.string (b.extract l.toNat h.toNat)) w:=by
 simp[Instr.sliceAt,Instr.slice,run_underlying hu,qt (P:=P) false b.size b.size hl hh h1 h2 h3 (B2 _)]
theorem qm{size len cap:Nat}{ad:Option Addr}{lo n:Nat}:rj (.slice ad len cap) size lo n (.slice (if cap=lo then ad else ad.map (·.add (lo*size))) n (cap-lo)):=by refine⟨ad,len,cap,_,rfl,rfl,λh=>?_⟩;rw[if_neg h]
theorem tJ {v:Value}{size off len lo n cap:Nat}{ad:Option Addr}(had:∀ a,ad=some a->∃ b o,a=⟨b,o,none⟩){v0:Value}(l0:Nat)(h0:v0=.slice ad l0 cap)(hle:off+len<=cap)(hlo:lo<=len)
  {u:Value} (h1:rj v0 size off len u) (a':Option Addr) (cap':Nat) (hu:u=.slice a' len cap') :
  rj v0 size (off+lo) n (.slice (if cap'=lo then a' else a'.map (·.add (lo*size))) n (cap'-lo)):=by
 subst h0;obtain⟨ad1,n1,cap1,ad2,e1,e2,e3⟩:=h1;simp only[Value.slice.injEq]at e1;obtain⟨rfl,rfl,rfl⟩:=e1;rw[hu]at e2;simp only[Value.slice.injEq]at e2;obtain⟨rfl,_,rfl⟩:=e2;refine⟨ad,l0,cap,_,rfl,by rw[Nat.sub_sub],λh=>?_⟩;rw[if_neg (by omega),e3 (by omega)];cases ad with
 |none=>rfl
 |some x=>obtain⟨b,o,rfl⟩:=had x rfl;simp only[SB,bY];rw[B3,RS]
theorem rI{α:Type}(l:List α)(i j:Nat)(h:i<=j):(l.take j).drop i=(l.drop i).take (j-i):=by rw[Td]
theorem hZ {t:TypeId}{x:Operand}{lo hi':Option Operand}{v r:Value}{w:World}(ho:o.op=.slice t x lo hi' none)(hx:a.eval x=v)
  (h:(Instr.sliceAt t v (lo.map a.eval) (hi'.map a.eval) none).run P w=.ok r w):(execOp a.eval o).run P w=.ok (.value r) w:=by
 simp only[execOp,ho,hx,Option.map_none];simp[h]
theorem Fy {t:TypeId}{x:Operand}{v:SV}(hv:ai C s.env x=v){lo hi':Option Operand}{l:Int}{h0:Option Int}(hT:cA P C.tab=true)(hi:Inv C w0 M m)(hG:m.G=s.G)
  (hx:RelSV m (a.eval x) v) (ho:o.op=.slice t x lo hi' none) (hl:fY (lo.map a.eval) 0 l) (hh:∀ d:Nat,fY (hi'.map a.eval) d (h0.getD d)) (hty:fm C t s.G v=true)
  (h:dZ s v l h0 none (λv=>some (ah o.dst v s))=some s'):Does P o a m.w (Res C w0 M m s s' o.dst):=by
 unfold dZ at h;split at h
 ·rename_i b hq;obtain⟨hx,hb⟩:=jM hx;unfold fm at hty;split at hty<;>try (simp_all;done)
  rename_i ht _;have hu:=fM (aj hT ht);obtain⟨r,hr,h⟩:=A1.1 h;unfold Hn at hr;split at hr
  ·rename_i hc;simp only[bd]at hr;subst hr;obtain⟨c1,c2,c3⟩:=hc;have hrun:=pj (P:=P) hu b hl (hh _) c1 c2 c3 m.w;refine aD hi hG (hZ ho hx hrun) (qL ?_) h;rw[ByteArray.size_extract];omega
  simp at hr
 ·rename_i e xs hq;obtain⟨ad,cap,hx,r1,r2,r3⟩:=gQ hx;unfold fm at hty;split at hty<;>try (simp_all;done)
  rename_i e1 e2 xs2 ht hq2;simp only[SV.av.injEq,Atom.val.injEq,Ty.slice.injEq]at hq2;obtain⟨rfl,hq2⟩:=hq2;have hty:=of_decide_eq_true hty;subst hty;obtain⟨et,hu,hck⟩:=bc (aj hT ht);obtain⟨r,hr,h⟩:=A1.1 h;unfold pS at hr;split at hr
  ·rename_i hc;simp only[bd]at hr;subst hr;obtain⟨c1,c2,c3⟩:=hc;have hrun:=dW (P:=P) hu hck ad xs.length cap hl (hh _) c1 c2 c3 r1 m.w;refine aD hi hG (hZ ho hx hrun) ?_ h;have:=zD (w:=m.w) (F:=m.F) (τ:=e1) (l:=xs) (v:=.slice ad xs.length cap) ⟨ad,cap,rfl,r1,r2,r3⟩ (off:=l.toNat) (len:=(h0.getD xs.length).toNat-l.toNat) (by omega) qm;rw[rI _ _ _ (by omega)];exact⟨[_],rfl,this⟩
  simp at hr
 ·rename_i hq;simp at hq
 ·obtain⟨ad,hx⟩:=hx;unfold fm at hty;split at hty<;>try (simp_all;done)
  rename_i e1 ht _;obtain⟨et,hu,hck⟩:=bc (aj hT ht);split at h
  ·rename_i hc;obtain⟨rfl,hc⟩:=hc;have hb:fY (hi'.map a.eval) ((0:Nat):Int) 0:=by have:=hh 0;rw[show h0.getD ((0:Nat):Int)=0 from hc]at this;exact this
   have hrun:=dW (P:=P) hu hck ad 0 0 hl hb (by omega) (by omega) (by omega) (by omega) m.w;exact aD hi hG (v:=.slice ad 0 0) (sv:=.av (.nils _)) (hZ ho hx.1 hrun) ⟨ad,rfl,hx.2⟩ h
  simp at h
 ·rename_i id hq;obtain⟨_,ob,hob,hxv⟩:=hx;rw[hG]at hob;split at h
  ·rename_i e xs hg;rw[hg]at hob;simp only[bd]at hob;subst hob;have hxw:=hxv rfl;obtain⟨ad,cap,r1,r2,r3,r4⟩:=hi.objs id _ (hG▸hg);unfold fm at hty;split at hty<;>try (simp_all;done)
   rename_i e1 id2 ht hq2;simp only[SV.av.injEq,Atom.own.injEq]at hq2;subst hq2;rw[hg]at hty;have hty:=of_decide_eq_true hty;subst hty;obtain⟨et,hu,hck⟩:=bc (aj hT ht);obtain⟨p,hp,h⟩:=A1.1 h;obtain⟨c1,c2,c3,rfl⟩:=mm hp;rw[r1]at hxw;have hrun:=dW (P:=P) hu hck ad xs.length cap hl (hh _) c1 c2 c3 r2 m.w;refine aD hi hG (hZ ho hxw hrun) ?_ h;refine(aw (m:=m) (a:=.view id _ _) (by intros;simp)).2 ⟨rfl,.arr e1 xs,hG▸hg,?_,?_⟩
   ·simp only;omega
   rw[r1];exact qm
  simp at h
 ·rename_i id off len hq;obtain⟨_,ob,hob,hxv⟩:=hx;rw[hG]at hob;unfold fm at hty;split at hty<;>try (simp_all;done)
  rename_i e1 id2 o2 n2 ht hq2;simp only[SV.av.injEq,Atom.view.injEq]at hq2;obtain⟨rfl,rfl,rfl⟩:=hq2;split at hty
  ·rename_i e xs hg;rw[hg]at hob;simp only[bd]at hob;subst hob;have hty:=of_decide_eq_true hty;subst hty;obtain⟨et,hu,hck⟩:=bc (aj hT ht);obtain⟨ad,cap,r1,r2,r3,r4⟩:=hi.objs id _ (hG▸hg);simp only at hxv;obtain⟨hle,hview⟩:=hxv;obtain⟨p,hp,h⟩:=A1.1 h;obtain⟨c1,c2,c3,rfl⟩:=mm hp;have hv0:=hview;obtain⟨ad1,n1,cap1,ad2,k1,k2,k3⟩:=hview;rw[r1]at k1;simp only[Value.slice.injEq]at k1;obtain⟨rfl,rfl,rfl⟩:=k1;have hrun:=dW (P:=P) hu hck ad2 len (cap-off) hl (hh _) c1 c2 c3 (by omega) m.w;refine aD hi hG (hZ ho k2 hrun) ?_ h;refine(aw (m:=m) (a:=.view id _ _) (by intros;simp)).2 ⟨rfl,.arr e1 xs,hG▸hg,?_,?_⟩
   ·simp only;omega
   rw[r1];by_cases hc0:cap=0
   ·subst hc0;have:off=0:=by omega
    subst this;have hl0:len=0:=by omega
    refine⟨ad,xs.length,0,_,rfl,by rw[show 0-0-l.toNat=0-(0+l.toNat)from by omega],λh=>absurd h (by simp only;omega)⟩
   refine tJ (v:=a.eval x) (ad:=ad) ?_ xs.length rfl (by omega) (by omega) (r1▸hv0) ad2 (cap-off) k2;intro ad' had;obtain⟨b,off',_,_,_,q1,_⟩:=r4 hc0;rw[q1]at had;simp only[bd]at had;exact⟨b,off',had.symm⟩
  simp at hty
 ·rename_i hq;cases hq
 simp at h
theorem EK {t:TypeId}{x:Operand}{lo hi' mx:Option Operand}(hT:cA P C.tab=true)(hi:Inv C w0 M m)(hG:m.G=s.G)(hS:∀ x,RelSV m (a.eval x) (ai C s.env x))(ho:o.op=.slice t x lo hi' mx)
  (h:bj C o s some=some s'):Does P o a m.w (Res C w0 M m s s' o.dst):=by
 simp only[aB,aQ,ho]at h;have hx:=hS x;obtain⟨l,h,hl⟩:=Cm hS h;cases hty:fm C t s.G (ai C s.env x)with
 |false=>rw[hty]at h;simp at h
 |true=>
  rw[hty]at h;simp only[Bool.not_true,UB]at h;cases hi' with
  |none=>cases mx with
   |none=>exact Fy rfl (h0:=none) hT hi hG hx ho hl (λd=>.inl ⟨rfl,rfl⟩) hty h
   |some _=>simp at h
  |some hx'=>cases mx with
   |none=>
   obtain⟨k,i,h1,h2⟩:=gB h;have hh:=hS hx';rw[h1]at hh;exact Fy rfl (h0:=some i) hT hi hG hx ho hl (λd=>.inr ⟨k,by simp[(cY hh).1]⟩) hty h2
   |some mx'=>
   obtain⟨k,i,h1,h2⟩:=gB h;obtain⟨k',i',h3,h4⟩:=gB h2;have hh:=hS hx';rw[h1]at hh;have hm:=hS mx';rw[h3]at hm;have hh:=(cY hh).1;have hm:=(cY hm).1;generalize ai C s.env x=v at h4 hx hty;unfold dZ at h4;split at h4<;>try (cases ‹some _=none›;done)
   ·rename_i e xs he;simp only[bd]at he;subst he;split at h4
    ·rename_i hc;obtain⟨rfl,hc⟩:=hc;simp only[bd]at hc;subst hc;obtain⟨ad,cap,hxv,r1,r2,r3⟩:=gQ hx;unfold fm at hty;split at hty<;>try (simp_all;done)
     rename_i e1 e2 xs2 ht hq2;obtain⟨et,hu,hck⟩:=bc (aj hT ht);have hs:=bC hck m.w;refine aD hi hG (v:=.slice ad 0 0) (sv:=.av (.nils false)) ?_ ⟨ad,rfl,by simp⟩ h4;rcases hl with⟨hl,_⟩|⟨k2,hl⟩
     ·simp[execOp,ho,hxv,hl,hh,hm,Instr.sliceAt,Instr.slice,run_underlying hu,Instr.sliceBounds,Instr.sliceBound,asIntOf,hs]
     simp[execOp,ho,hxv,hl,hh,hm,Instr.sliceAt,Instr.slice,run_underlying hu,Instr.sliceBounds,Instr.sliceBound,asIntOf,hs]
    simp at h4
   ·rename_i id mx2 he;simp only[bd]at he;subst he;obtain⟨_,ob,hob,hxv⟩:=hx;rw[hG]at hob;split at h4
    ·rename_i e xs hg;rw[hg]at hob;simp only[bd]at hob;subst hob;have hxw:=hxv rfl;unfold fm at hty;split at hty<;>try (simp_all;done)
     rename_i e1 id2 ht hq2;simp only[SV.av.injEq,Atom.own.injEq]at hq2;subst hq2;rw[hg]at hty;have hty:=of_decide_eq_true hty;subst hty;obtain⟨et,hu,hck⟩:=bc (aj hT ht);obtain⟨p,hp,h4⟩:=A1.1 h4;obtain⟨c1,c2,c3,rfl⟩:=mm hp;split at h4
     ·rename_i hc;obtain⟨hc1,hc2⟩:=hc;simp only[bd]at hc1;subst hc1;obtain⟨b,off,cap,c,el,fz,r1,r2,r3,r4,r5,r6,r7,r8,r9⟩:=mP hi (hG▸hg) (j:=l.toNat) (by omega);obtain⟨ad',cap',u1,u2,_,_⟩:=hi.objs id _ (hG▸hg);rw[r1]at hxw u1;simp only[Value.slice.injEq]at u1;obtain⟨_,_,rfl⟩:=u1;refine aD hi hG (v:=.slice (some ⟨b,off+l.toNat*e1.size,none⟩) (i.toNat-l.toNat) (i.toNat-l.toNat)) ?_
       ((aw (m:=m) (a:=.cut id _ _) (by intros;simp)).2 ⟨rfl,.arr e1 xs,hG▸hg,by omega,by omega,b,off,xs.length,cap,r1,rfl⟩) h4
      have b1:(0:Int)<=i/\i<=(cap:Int):=by omega
      have b2:(0:Int)<=i/\i<=(i.toNat:Int):=by omega
      have b3:(0:Int)<=l/\l<=(i.toNat:Int):=by omega
      have b4:¬i.toNat=l.toNat:=by omega
      have b6:max i 0=i:=by omega
      have b5:¬i.toNat-l.toNat=0:=by omega
      have hs:=bC hck m.w;rcases hl with⟨hl,rfl⟩|⟨k2,hl⟩
      ·simp[execOp,ho,hxw,hl,hh,hm,Instr.sliceAt,Instr.slice,run_underlying hu,Instr.sliceBounds,Instr.sliceBound,asIntOf,hs,b1,b2,b6,bY]
      simp[execOp,ho,hxw,hl,hh,hm,Instr.sliceAt,Instr.slice,run_underlying hu,Instr.sliceBounds,Instr.sliceBound,asIntOf,hs,b1,b2,b3,b4,b5,b6,bY];intro hx;omega
     simp at h4
    simp at h4
   simp at h4
end
end Go.Vm

/-
 The machine's operations against the model's: append.
-/
namespace Go.Vm
section
variable {P:Program}{C:Ctx}{w0:World}{M:Own}{o:Oper}{a:Act}{m:Mem}{s s':St}
theorem CD (hi:Inv C w0 M m){id i:Nat}{o o':Obj}{b:Nat}(hg:m.G.get id=some o)(hob:isObj o=true)(hbl:HB (m.ι id) b)(hn:Heap.get ((id,.dead) :: m.G) i=none)
  {w1:World} (hw:Wrote m.w b w1) {h:Value} (hh:∀ b',HB h b'↔b'=b)
  (ho:Evo m ⟨w1,m.F,λk=>if k=i then h else m.ι k,(i,o')::(id,.dead)::m.G⟩->dm ⟨w1,m.F,λk=>if k=i then h else m.ι k,(i,o')::(id,.dead)::m.G⟩ i o') :
  Inv C w0 M ⟨w1,m.F,λk=>if k=i then h else m.ι k,(i,o')::(id,.dead)::m.G⟩/\Evo m ⟨w1,m.F,λk=>if k=i then h else m.ι k,(i,o')::(id,.dead)::m.G⟩:=by
 obtain⟨hb1,hb2,hb3⟩:=hi.own id o b hg hob hbl;have hii:i≠id:=by intro e;subst e;rw[Heap.get_cons,if_pos rfl]at hn;cases hn
 have hn':m.G.get i=none:=by rw[Heap.get_cons,if_neg (Ne.symm hii)]at hn;exact hn
 have get3:∀ k,Heap.get ((i,o')::(id,.dead)::m.G) k=if i=k then some o' else if id=k then some .dead else m.G.get k:=by intro k;rw[Heap.get_cons,Heap.get_cons]
 have he:Evo m ⟨w1,m.F,λk=>if k=i then h else m.ι k,(i,o')::(id,.dead)::m.G⟩:=by
  refine⟨λk hF=>⟨hF,hw.block k (λe=>hb2 (e▸hF))⟩,λk p hp=>?_⟩;have hik:i≠k:=by intro e;subst e;rw[hn']at hp;cases hp
  by_cases e:id=k
  ·exact⟨.dead,by show Heap.get ((i,o')::(id,.dead)::m.G) k=_;rw[get3,if_neg hik,if_pos e],.inl rfl⟩
  exact⟨p,by show Heap.get ((i,o')::(id,.dead)::m.G) k=_;rw[get3,if_neg hik,if_neg e];exact hp,.inr (.inl ⟨by simp[Ne.symm hik],Alike.refl p⟩)⟩
 refine⟨⟨?_,?_,?_,?_,?_,?_,hi.bnd,cd he hi.pin⟩,he⟩
 ·refine⟨hw.os.trans hi.kept.os,hw.tape.trans hi.kept.tape,hw.output.trans hi.kept.output,by rw[hw.size];exact hi.kept.size,λk hk hM=>?_⟩;refine(hw.block k ?_).trans (hi.kept.block k hk hM);intro e;subst e
  rcases hb1 with hb1|hb1
  ·omega
  exact hM hb1
 ·intro k p hp;change Heap.get ((i,o')::(id,.dead)::m.G) k=_ at hp;rw[get3]at hp;split at hp
  ·rename_i e;subst e
   simp only[bd]at hp;subst hp;exact ho he
  rename_i hik;split at hp
  ·simp only[bd]at hp;subst hp;trivial
  rename_i hne;by_cases hop:isObj p=true
  ·refine co he (by simp[Ne.symm hik]) (λb' hb'=>hw.block b' ?_) (hi.objs k p hp);intro e;subst e
   exact hne (hi.inj id k o p b' hg hob hp hop hbl hb')
  cases p<;>simp_all[isObj,dm]
 ·intro k p b' hp hop hbl';change Heap.get ((i,o')::(id,.dead)::m.G) k=_ at hp;rw[get3]at hp;have:(w0.heap.size<=b'\/M b')/\¬m.F b'/\b'<m.w.heap.size:=by
   split at hp
   ·rename_i e;subst e
    have:b'=b:=(hh b').1 (by simpa using hbl');subst this;exact⟨hb1,hb2,hb3⟩
   rename_i hik;split at hp
   ·simp only[bd]at hp;subst hp;simp[isObj]at hop
   exact hi.own k p b' hp hop (by simpa[Ne.symm hik]using hbl')
  exact⟨this.1,this.2.1,by show b'<w1.heap.size;rw[hw.size];exact this.2.2⟩
 ·have one:∀ k p b',(if i=k then some o' else if id=k then some .dead else m.G.get k)=some p->isObj p=true->HB (if k=i then h else m.ι k) b' ->
    (k=i/\b'=b)\/(k≠i/\k≠id/\m.G.get k=some p/\HB (m.ι k) b'):=by
   intro k p b' hp hop hb';split at hp
   ·rename_i e;subst e
    rw[if_pos rfl]at hb';exact .inl ⟨rfl,(hh b').1 hb'⟩
   rename_i hik;rw[if_neg (Ne.symm hik)]at hb';split at hp
   ·simp only[bd]at hp;subst hp;simp[isObj]at hop
   rename_i hne;exact .inr ⟨Ne.symm hik,Ne.symm hne,hp,hb'⟩
  intro j k p q b' hp hop hq hoq h1 h2;change Heap.get ((i,o')::(id,.dead)::m.G) _=_ at hp hq;rw[get3]at hp hq;rcases one j p b' hp hop h1 with⟨rfl,rfl⟩|⟨j1,j2,j3,j4⟩<;>rcases one k q _ hq hoq h2 with⟨rfl,k0⟩|⟨k1,k2,k3,k4⟩
  ·rfl
  ·exact absurd (hi.inj k id q o _ k3 hoq hg hob k4 hbl) k2
  ·subst k0;exact absurd (hi.inj j id p o _ j3 hop hg hob j4 hbl) j2
  exact hi.inj j k p q b' j3 hop k3 hoq j4 k4
 ·intro b' hF;show b'<w1.heap.size;rw[hw.size];exact hi.fro b' hF
 intro g τ x hx;exact(hi.glob g τ x hx).mono he.fro
def kC(w:World)(F:Nat->Prop)(e:Ty)(cs:List Value)(l:List e.den):Prop:=
 cs.length=l.length*e.size/\∀ i (h:i<l.length),Rd w F e ((cs.drop (i*e.size)).take e.size) l[i]
theorem ot{w:World}{F:Nat->Prop}{e:Ty}{cs:List Value}{l:List e.den}(h:kC w F e cs l):∀ u∈cs,u.oneCell'=true:=by
 intro u hu;obtain⟨j,hj⟩:=R5.1 hu;have hjl:j<cs.length:=(A7.1 hj).1;have hs:0<e.size:=by
  rcases S3 e.size with h0|h0
  ·rw[h.1,h0,UD]at hjl;omega
  exact h0
 have hi:j/e.size<l.length:=by rw[T3 hs];rw[<- h.1];exact hjl
 refine(h.2 _ hi).one u ?_;rw[R5];refine⟨j%e.size,?_⟩;rw[L8,if_pos (UN _ hs),Sf,UE,Uo];exact hj
theorem oE {w:World}{F:Nat->Prop}{e:Ty}{c:Array Value}{off:Nat}{l:List e.den}(hc:off+l.length * e.size<=c.size)(h:∀ i (h:i < l.length),Rd w F e (seg c (off+i * e.size) e.size) l[i]) :
  kC w F e (seg c off (l.length*e.size)) l:=by
 refine⟨dK _ _ _ hc,λi hi=>?_⟩;have hle:i*e.size+e.size<=l.length*e.size:=by have:=A4 e.size (show i+1<=l.length from hi);rw[B3]at this;omega
 have:((seg c off (l.length*e.size)).drop (i*e.size)).take e.size=seg c (off+i*e.size) e.size:=eH c.toList off _ _ _ hle;rw[this];exact h i hi
theorem ni {w:World}{F:Nat->Prop}{e:Ty}{c1 c2 rest:List Value}{l1 l2:List e.den}(h1:kC w F e c1 l1)(h2:kC w F e c2 l2) :
  ∀ i (h:i<(l1++l2).length),Rd w F e (((c1++c2++rest).drop (i*e.size)).take e.size) (l1++l2)[i]:=by
 intro i hi;rw[RT]at hi;by_cases hl:i<l1.length
 ·have hle:i*e.size+e.size<=l1.length*e.size:=by have:=A4 e.size (show i+1<=l1.length from hl);rw[B3]at this;omega
  rw[RG hl];have:((c1++c2++rest).drop (i*e.size)).take e.size=(c1.drop (i*e.size)).take e.size:=by rw[RL,TE (by rw[h1.1];omega),SE (by rw[So,h1.1];omega)]
  rw[this];exact h1.2 i hl
 rw[RH (by omega)];have hj:i-l1.length<l2.length:=by omega
 have hle:(i-l1.length)*e.size+e.size<=l2.length*e.size:=by have:=A4 e.size (show i-l1.length+1<=l2.length from hj);rw[B3]at this;omega
 have hmul:i*e.size=c1.length+(i-l1.length)*e.size:=by rw[h1.1,<- B3];congr 1;omega
 have:((c1++c2++rest).drop (i*e.size)).take e.size=(c2.drop ((i-l1.length)*e.size)).take e.size:=by rw[RL,hmul,<- TI,S0,TE (by rw[h2.1];omega),SE (by rw[So,h2.1];omega)]
 rw[this];exact h2.2 _ hj
def Hdr(m:Mem)(u:Value)(e:Ty)(l:List e.den):Prop:=
 ∃ ad cap,u=.slice ad l.length cap/\l.length<=cap/\cap<=maxLen /\
  (cap≠0->∃ b off c el fz,ad=some ⟨b,off,none⟩/\m.w.heap[b]?=some (.cells c el fz)/\eJ e c.size fz/\off+cap*e.size<=c.size /\
   ∀ i (h:i<l.length),Rd m.w m.F e (seg c (off+i*e.size) e.size) l[i])
theorem kR (hi:Inv C w0 M m)(hG:m.G=s.G){e:Ty}{v:SV}{l:List e.den}{ids:List Nat}{u:Value}(h:fJ s e v=some (l,ids))(hr:RelSV m u v) :
  Hdr m u e l/\((ids=[]/\∃ ad,u=.slice ad 0 0)\/∃ id o,ids=[id]/\m.G.get id=some o/\isObj o=true/\((∀ b,HB u b->HB (m.ι id) b)\/∃ ad n,u=.slice ad n 0)):=by
 unfold fJ at h;split at h
 ·simp only[bd,A8]at h;obtain⟨rfl,rfl⟩:=h;obtain⟨ad,rfl,_⟩:=hr;exact⟨⟨ad,0,rfl,by simp,by unfold maxLen;omega,λh=>absurd rfl h⟩,.inl ⟨rfl,ad,rfl⟩⟩
 ·rename_i id;split at h
  ·rename_i σ l0 hg;split at h
   ·rename_i l' hl;simp only[bd,A8]at h;obtain⟨rfl,rfl⟩:=h;obtain⟨he,hl⟩:=aH hl;cases he;subst hl;obtain⟨_,ob,hob,hv⟩:=hr;rw[hG,hg]at hob;simp only[bd]at hob;subst hob;have hv:=hv rfl;subst hv;exact⟨show dm m id (.arr e l0)from hi.objs id _ (hG▸hg),.inr ⟨id,_,rfl,hG▸hg,rfl,.inl λ_ h=>h⟩⟩
   simp at h
  simp at h
 ·rename_i id off len;split at h
  ·rename_i σ l0 hg;split at h
   ·rename_i l' hl;simp only[bd,A8]at h;obtain⟨rfl,rfl⟩:=h;obtain⟨he,hl⟩:=aH hl;cases he;subst hl;obtain⟨_,ob,hob,hv⟩:=hr;rw[hG,hg]at hob;simp only[bd]at hob;subst hob;obtain⟨hle,hview⟩:=hv;obtain⟨ad,cap,r1,r2,r3,r4⟩:=hi.objs id _ (hG▸hg);obtain⟨ad1,n1,cap1,ad2,k1,k2,k3⟩:=hview;rw[r1]at k1;simp only[Value.slice.injEq]at k1;obtain⟨rfl,rfl,rfl⟩:=k1;have hlen:((l0.drop off).take len).length=len:=by simp;omega
    refine⟨⟨ad2,cap-off,by rw[hlen,k2],by rw[hlen];omega,by omega,λhne=>?_⟩,.inr ⟨id,_,rfl,hG▸hg,rfl,?_⟩⟩
    ·obtain⟨b,o',c,el,fz,q1,q2,q3,q4,q5⟩:=r4 (by omega);refine⟨b,o'+off*e.size,c,el,fz,by rw[k3 (by omega),q1];simp[bY],q2,q3,?_,λi hi'=>?_⟩
     ·have:off*e.size+(cap-off)*e.size=cap*e.size:=by rw[<- B3];congr 1;omega
      omega
     rw[hlen]at hi';have:=q5 (off+i) (by omega);rw[show o'+off*e.size+i*e.size=o'+(off+i)*e.size by rw[B3];omega];simpa using this
    by_cases hc:cap-off=0
    ·right;exact⟨ad2,len,by rw[k2,hc]⟩
    left;obtain⟨b,o',c,el,fz,q1,q2,q3,q4,q5⟩:=r4 (by omega);rw[k2,r1,k3 (by omega),q1];intro b' hb';simp only[SB,bY,HB,HB1]at hb' ⊢;exact⟨by omega,hb'.2⟩
   simp at h
  simp at h
 simp at h
theorem JS(hi:Inv C w0 M m){id ver j:Nat}{τ:Ty}{l:List (List τ.den)}{hole:Option Nat}(hg:m.G.get id=some (.deep ver τ l hole))(hh:hole≠some j){u:Value}(hu:∃ us,m.ι id=.tuple us/\us[j+1]?=some u)(hj:j<l.length):HdrW m.w m.F u τ l[j]:=by obtain⟨u',hs,h1,h2⟩:=hi.objs id _ hg;obtain⟨us,h3,h4⟩:=hu;rw[h1]at h3;simp only[Value.tuple.injEq]at h3;subst h3;simp only[B9,L4]at h4;exact h2.inner j hj u h4 hh
theorem kU (hi:Inv C w0 M m){e:Ty}{v:SV}{xs:List e.den}{u:Value}(hnd:kr v=false)(h:aV m.G (.slice e) v=some xs)(hr:RelSV m u v) :
  ∃ ad cap news,u=.slice ad xs.length cap/\kC m.w m.F e news xs/\xs.length<=maxLen/\(xs≠[]->∃ b off c el fz,ad=some ⟨b,off,none⟩/\m.w.heap[b]?=some (.cells c el fz)/\off+news.length<=c.size/\news=seg c off news.length):=by
 have fin {ad:Option Addr} {l:List e.den} {cap:Nat} (h1:l.length<=cap) (h2:cap<=maxLen)
   (h3:l≠[]->∃ b off c el fz,ad=some ⟨b,off,none⟩/\m.w.heap[b]?=some (.cells c el fz)/\off+l.length*e.size<=c.size/\∀ i (h:i<l.length),Rd m.w m.F e (seg c (off+i*e.size) e.size) l[i]) :
   ∃ ad' cap' news,Value.slice ad l.length cap=.slice ad' l.length cap'/\kC m.w m.F e news l/\l.length<=maxLen/\(l≠[]->∃ b off c el fz,ad'=some ⟨b,off,none⟩/\m.w.heap[b]?=some (.cells c el fz)/\off+news.length<=c.size/\news=seg c off news.length):=by
  by_cases hl:l=[]
  ·subst hl;exact⟨ad,cap,[],rfl,⟨by simp,by intro i hi;simp at hi⟩,by simp,λh=>absurd rfl h⟩
  obtain⟨b,off,c,el,fz,q1,q2,q3,q4⟩:=h3 hl;have hn:(seg c off (l.length*e.size)).length=l.length*e.size:=dK _ _ _ q3;exact⟨ad,cap,seg c off (l.length*e.size),rfl,oE q3 q4,by omega,λ_=>⟨b,off,c,el,fz,q1,q2,by rw[hn];exact q3,by rw[hn]⟩⟩
 cases v with
 |av a=>
  cases a with
  |val σ x=>obtain⟨he,hx⟩:=aH h;cases he;subst hx;obtain⟨ad,cap,rfl,h2,h3,h4⟩:=gQ hr;refine fin h2 h3 (λhne=>?_);obtain⟨b,off,c,el,fz,q1,_,q2,q3,q4⟩:=h4 hne;exact⟨b,off,c,el,fz,q1,q2,q3,q4⟩
  |nils=>simp only[aV,Ty.isAgg,UB,aL,bd]at h;subst h;obtain⟨ad,rfl,_⟩:=hr;exact fin (l:=[]) (by simp) (by unfold maxLen;omega) (λh=>absurd rfl h)
  |own id=>
   simp only[aV,Ty.isAgg,UB,aL]at h;cases hg:m.G.get id with
   |none=>rw[hg]at h;simp at h
   |some ob0=>
    cases ob0 with
    |box _=>rw[hg]at h;simp at h
    |dead=>rw[hg]at h;simp at h
    |deep _ _ _ _=>rw[hg]at h;simp at h
    |map _ _ _=>rw[hg]at h;simp at h
    |arr σ l'=>
    rw[hg]at h;obtain⟨he,hx⟩:=aH h;cases he;subst hx;obtain⟨_,ob,hob,hv⟩:=hr;rw[hg]at hob;simp only[bd]at hob;subst hob;obtain⟨ad,cap,r1,r2,r3,r4⟩:=hi.objs id _ hg;rw[hv rfl,r1];refine fin r2 r3 (λhne=>?_);have:0<l'.length:=R4.2 hne;obtain⟨b,off,c,el,fz,q1,q2,q3,q4,q5⟩:=r4 (by omega);exact⟨b,off,c,el,fz,q1,q2,by have:=A4 e.size r2;omega,q5⟩
  |view id off len=>
   have hh:∃ σ l',m.G.get id=some (.arr σ l')/\fJ ⟨[],m.G⟩ e (.av (.view id off len))=some (xs,[id]):=by
    simp only[aV,Ty.isAgg,UB,aL]at h;cases hg:m.G.get id with
    |none=>rw[hg]at h;simp at h
    |some ob0=>
     cases ob0 with
     |box _=>rw[hg]at h;simp at h
     |dead=>rw[hg]at h;simp at h
     |deep _ _ _ _=>rw[hg]at h;simp at h
     |map _ _ _=>rw[hg]at h;simp at h
     |arr σ l'=>
     rw[hg]at h;obtain⟨he,hx⟩:=aH h;cases he;subst hx;refine⟨e,l',rfl,?_⟩;simp[fJ,hg,bM]
   obtain⟨σ,l',hg,hb⟩:=hh;obtain⟨⟨ad,cap,rfl,r2,r3,r4⟩,_⟩:=kR (s:=⟨[],m.G⟩) hi rfl hb hr;refine fin r2 r3 (λhne=>?_);have:0<xs.length:=R4.2 hne;obtain⟨b,off,c,el,fz,q1,q2,q3,q4,q5⟩:=r4 (by omega);exact⟨b,off,c,el,fz,q1,q2,by have:=A4 e.size r2;omega,q5⟩
  |u=>simp[aV,Ty.isAgg,aL]at h
  |undef=>simp[aV,Ty.isAgg,aL]at h
  |ptr _ _=>simp[aV]at h
  |aptr _ _ _=>simp[aV,Ty.isAgg,aL]at h
  |cut _ _ _=>simp[aV,Ty.isAgg,aL]at h
  |bnd _ _=>simp[aV,Ty.isAgg,aL]at h
  |saptr _ _ _ _=>simp[aV,Ty.isAgg,aL]at h
  |ownm _=>simp[aV,Ty.isAgg,aL]at h
  |iptr _ _ _ _ _=>simp[aV,Ty.isAgg,aL]at h
  |ownd id=>simp[kr]at hnd
  |sub id ver j=>
   simp only[aV,Ty.isAgg,UB,aL]at h;obtain⟨_,ob,hob,hv⟩:=hr;rw[hob]at h;cases ob with
   |deep ver' σ l' hole=>
    cases hole with
    |some _=>simp at h
    |none=>
     simp only at h hv;cases hb:A3 ver ver' with
     |false=>rw[hb]at h;simp at h
     |true=>
      rw[hb]at h;have:=xy hb;subst this;obtain⟨hj,_,hu⟩:=hv.2 rfl;rw[jS hj]at h;simp only[UA]at h;obtain⟨e',hy⟩:=aH h;simp only[Ty.slice.injEq]at e';subst e';subst hy
      obtain⟨ad,cap,r1,r2,r3,r4⟩:=JS hi hob (by simp) hu hj;rw[r1];refine fin r2 r3 (λhne=>?_);have:0<l'[j].length:=R4.2 hne;obtain⟨b,off,c,el,fz,q1,q2,q3,q4,q5⟩:=r4 (by omega);exact⟨b,off,c,el,fz,q1,q2,by have:=A4 σ.size r2;omega,q5⟩
   |_=>simp at h
  |clo _ _=>simp[aV]at h
 |agg l=>simp[aV,Ty.isAgg]at h
 |tup l=>simp[aV]at h
theorem jq(c:Array Value)(o:Nat)(vs:List Value)(h:o+vs.length<=c.size)(d n:Nat)(hd:d+n<=vs.length):seg (aP c o vs) (o+d) n=(vs.drop d).take n:=by
 apply Sl;intro k;by_cases hk:k<n
 ·rw[seg_getElem? _ _ _ _ hk,dJ c o vs h,if_pos (by omega),L8,if_pos hk,Sf];congr 1;omega
 rw[L8,if_neg hk];unfold seg;rw[L8,if_neg hk]
end
end Go.Vm

/-
 The machine's operations against the model's: append, joined.
-/
namespace Go.Vm
section
variable {P:Program}{C:Ctx}{w0:World}{M:Own}{o:Oper}{a:Act}{m:Mem}{s s':St}
theorem xl {e:Ty}{xs:List e.den}{ad:Option Addr}{cap:Nat}{news:List Value}(h1:kC m.w m.F e news xs)
  (h2:xs≠[]->∃ b off c el fz,ad=some ⟨b,off,none⟩/\m.w.heap[b]?=some (.cells c el fz)/\off+news.length<=c.size/\news=seg c off news.length) {w:World} (hw:w.heap=m.w.heap) :
  (Builtin.firstCells e.size xs.length (.slice ad xs.length cap)).run P w=.ok news.toArray w:=by
 by_cases hne:xs=[]
 ·subst hne;have:news=[]:=B4 (by rw[h1.1];simp);subst this;cases ad<;>simp[Builtin.firstCells,loadCells,loadCellsFrom]
 obtain⟨b,off,c,el,fz,rfl,q2,q3,q4⟩:=h2 hne;refine run_firstCells_some (P:=P) w e.size xs.length _ _ _ news h1.1 (λj v hj=>?_);have hjl:j<news.length:=(A7.1 hj).1;rw[bY,cX (by rw[hw];exact q2),<- seg_getElem? c off news.length j hjl,<- q4];exact hj
theorem rM {t:TypeId}{x y:Operand}{e:Ty}{l xs:List e.den}{r:List e.den}(hT:cA P C.tab=true)(hi:Inv C w0 M m)(hG:m.G=s.G)(hS:∀ x,RelSV m (a.eval x) (ai C s.env x))
  (ho:o.op=.call { callee:=.builtin .append,args:=#[x,y],argTypes:=#[t,t] }) (ht:C.tab.get t=some (.slice e))
  (hnd:kr (ai C s.env y)=false) (hcut:yy s e (ai C s.env x)=some l) (hsv:aV s.G (.slice e) (ai C s.env y)=some xs) (hk:xs≠[]) (hr:app l xs=some r)
  (h:bq s (o.dst.getD 0) (.arr e r) (λi s2=>some (ah o.dst (.av (.own i)) s2))=some s'):Does P o a m.w (Res C w0 M m s s' o.dst):=by
 unfold app at hr;split at hr
 ·rename_i hlim;simp only[bd]at hr;subst hr;have hlimv:lim=68719476736:=rfl;rw[hlimv]at hlim;obtain⟨i,hfree,h⟩:=bW h;simp only[bd]at h;obtain⟨et,hu,hck⟩:=bc (aj hT ht);obtain⟨inf,z,r1,r2,r3,r4,r5,r6,r7⟩:=dC hck;have hx:=hS x;generalize hvx:ai C s.env x=vx at hcut hx;unfold yy at hcut;split at hcut
  ·rename_i id off len;obtain⟨_,ob,hob,hxv⟩:=(aw (m:=m) (a:=.cut id off len) (by intros;simp)).1 hx;rw[hG]at hob;split at hcut
   ·rename_i σ l0 hg;rw[hg]at hob;simp only[bd]at hob;subst hob;split at hcut
    ·rename_i l1 hl1;simp only[bd]at hcut;subst hcut;obtain⟨he,hl1⟩:=aH hl1;cases he;subst hl1;simp only at hxv;obtain⟨k1,k2,b,o',n',cap',v1,v2⟩:=hxv;obtain⟨b',o'',cap,c,el,fz,q1,q2,q3,q4,q5,q6,q7,q8,q9⟩:=mP hi (hG▸hg) (j:=off) (by omega);rw[v1]at q1;simp only[Value.slice.injEq,bd,Addr.mk.injEq,and_true]at q1;obtain⟨⟨rfl,rfl⟩,rfl,rfl⟩:=q1;have hlen:((l0.drop off).take len).length=len:=by simp;omega
     obtain⟨xd,xcap,news,hxv,x2,x3,x4⟩:=kU hi hnd (hG▸hsv) (hS y);have hone:=ot x2;have hfresh:Heap.get m.G i=none:=by rw[hG];exact hfree
     have hkl:0<xs.length:=R4.2 hk;obtain⟨xb,xoff,xc,xel,xfz,rfl,y2,y3,y4⟩:=x4 hk;obtain⟨z0,ez,hz0,_⟩:=ec (m:=m) (li (aj hT ht)) r5;rw[RN]at ez;have hzs:z.cells.size=e.size:=by rw[<- RC,ez];exact hz0.len
     have hnews:∀ j v,news[j]?=some v->m.w.cell? ((⟨xb,xoff,none⟩:Addr).add j)=some v:=by intro j v hj;have hjl:j<news.length:=(A7.1 hj).1;rw[bY,cX y2,<- seg_getElem? xc xoff news.length j hjl,<- y4];exact hj
     rw[hlen]at hlim;have hge:=grownCap_ge m.w (len+xs.length) len et;have hcm:grownCap m.w (len+xs.length) len et<=maxLen:=grownCap_le_maxLen _ _ _ _ (by unfold maxLen;omega);have hfits:Builtin.nextslicecap (len+xs.length) len*inf.bytes<=281474976710656:=growslice_fits (by omega) (by
      have h1:(len+xs.length)*inf.bytes<=68719476736*2048:=Tf hlim r3;omega)
     have hle:off*e.size+len*e.size<=l0.length*e.size:=by rw[<- B3];exact A4 _ k1
     have hle2:l0.length*e.size<=cap'*e.size:=A4 _ q2;have hsl:(seg c (o'+off*e.size) (len*e.size)).length=len*e.size:=dK _ _ _ (by omega);have kc:kC m.w m.F e (seg c (o'+off*e.size) (len*e.size)) ((l0.drop off).take len):=by
      have:=oE (w:=m.w) (F:=m.F) (e:=e) (c:=c) (off:=o'+off*e.size) (l:=(l0.drop off).take len) (by rw[hlen];omega) (λi hi'=>by
       rw[hlen]at hi';have:=q8 (off+i) (by omega);rw[show o'+off*e.size+i*e.size=o'+(off+i)*e.size by rw[B3];omega];simpa using this)
      rw[hlen]at this;exact this
     have hrun:(Builtin.append_ #[t,t] o.type #[.slice (some ⟨b,o'+off * e.size,none⟩) len len,.slice (some ⟨xb,xoff,none⟩) xs.length xcap]).run P m.w =
       .ok (.slice (some ⟨m.w.heap.size,0,none⟩) (len+xs.length) (grownCap m.w (len+xs.length) len et))
        (m.w.drew.alloc (.cells ((seg c (o'+off*e.size) (len*e.size)).toArray++news.toArray++Builtin.zeroCells z.cells (grownCap m.w (len+xs.length) len et-(len+xs.length))) et)):=
      run_append_grow (P:=P) m.w t o.type et inf z hu r1 r4 ⟨b,o'+off*e.size,none⟩ len len _ (by rw[r2];exact hsl) (λj v hj=>by
       have hjl:j<len*e.size:=by rw[<- hsl];exact(A7.1 hj).1
       rw[bY,cX q4,<- seg_getElem? c (o'+off*e.size) _ j hjl];exact hj) ⟨xb,xoff,none⟩ xs.length xcap news (by rw[r2];exact x2.1) hnews (by omega) (by omega) hfits
     have hsz:((seg c (o'+off*e.size) (len*e.size)).toArray++news.toArray++Builtin.zeroCells z.cells (grownCap m.w (len+xs.length) len et-(len+xs.length))).size=grownCap m.w (len+xs.length) len et*e.size:=by simp only[Th,Sm,size_zeroCells,hzs,hsl,x2.1,<- B3];congr 1;omega
     obtain⟨m',p1,p2,p3,p4,p5⟩:=lR (τ:=e) (l:=(l0.drop off).take len++xs) (cap:=grownCap m.w (len+xs.length) len et) (fz:=(0,0)) hi (i:=i) hfresh
      (w1:=m.w.drew.alloc (.cells ((seg c (o'+off*e.size) (len*e.size)).toArray++news.toArray++Builtin.zeroCells z.cells (grownCap m.w (len+xs.length) len et-(len+xs.length))) et)) (eT m.w _)
      (cz m.w.drew _) (.inl (B2 _)) (by rw[RT,hlen];exact hge) hcm (by rw[hsz];exact B2 _) (λj hj=>by
       have:=ni (rest:=(Builtin.zeroCells z.cells (grownCap m.w (len+xs.length) len et-(len+xs.length))).toList) kc x2 j hj;unfold seg at this ⊢;simpa using this)
     refine Does.value (w':=m'.w) (v:=.slice (some ⟨m.w.heap.size,0,none⟩) (len+xs.length) (grownCap m.w (len+xs.length) len et)) ?_ ⟨m',.av (.own i),rfl,?_,p3,p4,by rw[RT,hlen]at p5;exact p5⟩
     ·simp[execOp,ho,resolve,invoke,builtin,v2,hxv,hrun,p1]
     rw[<- h,p2,hG]
    simp at hcut
   simp at hcut
  simp at hcut
 simp at hr
theorem rO {t:TypeId}{x y:Operand}{e:Ty}{l xs r:List e.den}{ids:List Nat}(hT:cA P C.tab=true)(hi:Inv C w0 M m)(hG:m.G=s.G)
  (ho:o.op=.call { callee:=.builtin .append,args:=#[x,y],argTypes:=#[t,t] }) (ht:C.tab.get t=some (.slice e)) (hH:Hdr m (a.eval x) e l)
  (hids:(ids=[]/\∃ ad,a.eval x=.slice ad 0 0)\/∃ id o,ids=[id]/\m.G.get id=some o/\isObj o=true/\((∀ b,HB (a.eval x) b->HB (m.ι id) b)\/∃ ad n,a.eval x=.slice ad n 0))
  (hN:∃ ad cap news,a.eval y=.slice ad xs.length cap/\kC m.w m.F e news xs/\xs.length<=maxLen/\(xs≠[]->∃ b off c el fz,ad=some ⟨b,off,none⟩/\m.w.heap[b]?=some (.cells c el fz)/\off+news.length<=c.size/\news=seg c off news.length))
  (hr:app l xs=some r) (h:bq { env:=s.env,G:=aA ids s.G } (o.dst.getD 0) (.arr e r) (λi s2=>some (ah o.dst (.av (.own i)) s2))=some s'):Does P o a m.w (Res C w0 M m s s' o.dst):=by
 unfold app at hr;split at hr
 ·rename_i hlim;simp only[bd]at hr;subst hr;have hlimv:lim=68719476736:=rfl;rw[hlimv]at hlim;obtain⟨i,hfree,h⟩:=bW h;simp only[bd]at h;obtain⟨et,hu,hck⟩:=bc (aj hT ht);obtain⟨inf,z,r1,r2,r3,r4,r5,r6,r7⟩:=dC hck;obtain⟨ad,cap,hbv,b2,b3,b4⟩:=hH;obtain⟨xd,xcap,news,hxv,x2,x3,x4⟩:=hN;have hfc:∀ w:World,w.heap=m.w.heap->(Builtin.firstCells e.size xs.length (.slice xd xs.length xcap)).run P w=.ok news.toArray w:=λw hw=>xl x2 x4 hw;have hone:=ot x2;have hfresh:Heap.get (aA ids m.G) i=none:=by rw[hG];exact hfree
  by_cases hfit:l.length+xs.length<=cap
  ·by_cases hc0:cap=0
   ·subst hc0;have hl0:l.length=0:=by omega
    have hx0:xs.length=0:=by omega
    have hl0':l=[]:=B4 hl0;have hx0':xs=[]:=B4 hx0;subst hl0';subst hx0';have hn0:news=[]:=B4 (by rw[x2.1];simp);subst hn0;obtain⟨m1,a1,a2,a3,a4,a5,a6⟩:=dp ids hi;obtain⟨m',q1,q2,q3,q4,q5⟩:=IR (τ:=e) a4 (i:=i) (by rw[a3];exact hfresh) (Kept.refl m1.w _) ad;have hrun:(Builtin.append_ #[t,t] o.type #[.slice ad 0 0,.slice xd 0 xcap]).run P m.w=.ok (.slice ad 0 0) m.w:=by have:=hfc m.w rfl;simp only[RQ]at this;cases ad<;>simp[Builtin.append_,run_underlying hu,sizeOf,typeInfo,r1,r2,Builtin.lenOf,this,storeCells]
    refine Does.value (w':=m'.w) (v:=.slice ad 0 0) ?_ ⟨m',.av (.own i),rfl,?_,q3,a5.trans q4,q5⟩
    ·simp only[RQ]at hbv hxv;simp[execOp,ho,resolve,invoke,builtin,hbv,hxv,hrun,q1,a1]
    rw[<- h,q2,a3,hG];rfl
   obtain⟨b,off,c,el,fz,rfl,c2,c3,c4,c5⟩:=b4 hc0;have hmul:l.length*e.size+xs.length*e.size<=cap*e.size:=by rw[<- B3];exact A4 _ hfit
   have hnl:news.length=xs.length*e.size:=x2.1;have hin:off+l.length*e.size+news.length<=c.size:=by omega
   have hst:=db (P:=P) b (off+l.length*e.size) el fz news 0 c m.w c2 c3 (by omega) hone;simp only[R2]at hst;have hst:(storeCells ⟨b,off+l.length*e.size,none⟩ news).run P m.w=.ok () (m.w.setRow b (aP c (off+l.length*e.size) news)):=hst;have hrun:(Builtin.append_ #[t,t] o.type #[.slice (some ⟨b,off,none⟩) l.length cap,.slice xd xs.length xcap]).run P m.w=.ok (.slice (some ⟨b,off,none⟩) (l.length+xs.length) cap) (m.w.setRow b (aP c (off+l.length*e.size) news)):=by simp[Builtin.append_,run_underlying hu,sizeOf,typeInfo,r1,r2,Builtin.lenOf,hfc m.w rfl,hfit,bY,hst]
   rcases hids with⟨_,ad0,h0⟩|⟨id,ob,rfl,hg,hob,hblk⟩
   ·rw[h0]at hbv;simp only[Value.slice.injEq]at hbv;omega
   have hblk:HB (m.ι id) b:=by
    rcases hblk with hblk|⟨ad0,n0,h0⟩
    ·exact hblk b (by rw[hbv];simp[HB,HB1,hc0])
    rw[h0]at hbv;simp only[Value.slice.injEq]at hbv;omega
   have hheap:(m.w.setRow b (aP c (off+l.length*e.size) news)).heap[b]?=some (.cells (aP c (off+l.length*e.size) news) el fz):=setRow_heap m.w b c _ el fz c2;obtain⟨g1,g2⟩:=CD hi hg hob hblk (i:=i) hfresh (o':=.arr e (l++xs)) (cD m.w b (aP c (off+l.length*e.size) news)) (h:=.slice (some ⟨b,off,none⟩) (l.length+xs.length) cap) (λb'=>by simp[HB,HB1,hc0,eq_comm]) (λhe=>by
    refine⟨some ⟨b,off,none⟩,cap,by simp,by simpa using hfit,b3,λ_=>⟨b,off,_,el,fz,rfl,hheap,by rw[bG _ _ _ hin];exact c3,by rw[bG _ _ _ hin];exact c4,λj hj=>?_⟩⟩;refine Rd.mono he.fro ?_;rw[RT]at hj;by_cases hjl:j<l.length
    ·have hle:j*e.size+e.size<=l.length*e.size:=by have:=A4 e.size (show j+1<=l.length from hjl);rw[B3]at this;omega
     rw[RG hjl,cw _ _ _ hin _ _ (.inl (by omega))];exact c5 j hjl
    have hjx:j-l.length<xs.length:=by omega
    have hle:(j-l.length)*e.size+e.size<=xs.length*e.size:=by have:=A4 e.size (show j-l.length+1<=xs.length from hjx);rw[B3]at this;omega
    have hmj:j*e.size=l.length*e.size+(j-l.length)*e.size:=by rw[<- B3];congr 1;omega
    rw[RH (by omega),show off+j*e.size=off+l.length*e.size+(j-l.length)*e.size by omega,jq _ _ _ hin _ _ (by omega)];exact x2.2 _ hjx)
   refine Does.value (w':=m.w.setRow b (aP c (off+l.length*e.size) news)) (v:=.slice (some ⟨b,off,none⟩) (l.length+xs.length) cap) ?_ ⟨_,.av (.own i),rfl,?_,g1,g2,?_⟩
   ·simp[execOp,ho,resolve,invoke,builtin,hbv,hxv,hrun]
   ·rw[<- h,<- hG];rfl
   exact(aw (a:=.own i) (by intros;simp)).2 ⟨rfl,.arr e (l++xs),by show Heap.get ((i,.arr e (l++xs))::_) i=_;rw[Heap.get_cons,if_pos rfl],λ_=>by simp⟩
  have hk:xs≠[]:=by intro e0;subst e0;simp only[RQ]at hfit;omega
  have hkl:0<xs.length:=R4.2 hk;obtain⟨xb,xoff,xc,xel,xfz,rfl,y2,y3,y4⟩:=x4 hk;obtain⟨z0,ez,hz0,_⟩:=ec (m:=m) (li (aj hT ht)) r5;rw[RN]at ez;have hzs:z.cells.size=e.size:=by rw[<- RC,ez];exact hz0.len
  have hnews:∀ j v,news[j]?=some v->m.w.cell? ((⟨xb,xoff,none⟩:Addr).add j)=some v:=by intro j v hj;have hjl:j<news.length:=(A7.1 hj).1;rw[bY,cX y2,<- seg_getElem? xc xoff news.length j hjl,<- y4];exact hj
  have hge:=grownCap_ge m.w (l.length+xs.length) cap et;have hcm:grownCap m.w (l.length+xs.length) cap et<=maxLen:=grownCap_le_maxLen _ _ _ _ (by unfold maxLen;omega);have hfits:Builtin.nextslicecap (l.length+xs.length) cap*inf.bytes<=281474976710656:=growslice_fits (by omega) (by
   have h1:(l.length+xs.length)*inf.bytes<=68719476736*2048:=Tf hlim r3;omega)
  have key:∃ olds,kC m.w m.F e olds l/\(Builtin.append_ #[t,t] o.type #[.slice ad l.length cap,.slice (some ⟨xb,xoff,none⟩) xs.length xcap]).run P m.w =
    .ok (.slice (some ⟨m.w.heap.size,0,none⟩) (l.length+xs.length) (grownCap m.w (l.length+xs.length) cap et))
     (m.w.drew.alloc (.cells (olds.toArray++news.toArray++Builtin.zeroCells z.cells (grownCap m.w (l.length+xs.length) cap et-(l.length+xs.length))) et)):=by
   by_cases hc0:cap=0
   ·have hl0:l=[]:=B4 (by omega);subst hl0;subst hc0;refine⟨[],⟨by simp,by intro i hi;simp at hi⟩,?_⟩;cases ad with
    |some ad=>exact run_append_grow (P:=P) m.w t o.type et inf z hu r1 r4 ad 0 0 [] (by simp) (by intro j v hj;simp at hj) ⟨xb,xoff,none⟩ xs.length xcap news (by rw[r2];exact x2.1) hnews (by omega) (by simp only[RQ]at hlim;omega) (by simpa using hfits)
    |none=>have hn0:Builtin.nextslicecap xs.length 0=xs.length:=nextslicecap_zero hkl;have:=run_append_nil (P:=P) m.w t o.type et inf z hu r1 r4 ⟨xb,xoff,none⟩ xs.length xcap news (by rw[r2];exact x2.1) hnews hkl (by simp only[RQ]at hlim;omega) (by simp only[RQ,RM,hn0]at hfits;exact hfits);simpa using this
   obtain⟨b,off,c,el,fz,rfl,c2,c3,c4,c5⟩:=b4 hc0;have hmul:l.length*e.size<=cap*e.size:=A4 _ b2;refine⟨seg c off (l.length*e.size),oE (by omega) c5,?_⟩;have hsl:(seg c off (l.length*e.size)).length=l.length*e.size:=dK _ _ _ (by omega);exact run_append_grow (P:=P) m.w t o.type et inf z hu r1 r4 ⟨b,off,none⟩ l.length cap _ (by rw[r2];exact hsl) (λj v hj=>by
    have hjl:j<l.length*e.size:=by rw[<- hsl];exact(A7.1 hj).1
    rw[bY,cX c2,<- seg_getElem? c off _ j hjl];exact hj) ⟨xb,xoff,none⟩ xs.length xcap news (by rw[r2];exact x2.1) hnews (by omega) (by omega) hfits
  obtain⟨olds,k1,hrun⟩:=key;obtain⟨m1,a1,a2,a3,a4,a5,a6⟩:=dp ids hi;have mono:∀{cs:List Value} {l:List e.den},kC m.w m.F e cs l->kC m1.w m1.F e cs l:=λhc=>⟨hc.1,λi hi=>(hc.2 i hi).mono a5.fro⟩;have hsz:(olds.toArray++news.toArray++Builtin.zeroCells z.cells (grownCap m.w (l.length+xs.length) cap et-(l.length+xs.length))).size=grownCap m.w (l.length+xs.length) cap et*e.size:=by simp only[Th,Sm,size_zeroCells,hzs,k1.1,x2.1,<- B3];congr 1;omega
  obtain⟨m',q1,q2,q3,q4,q5⟩:=lR (τ:=e) (l:=l++xs) (cap:=grownCap m.w (l.length+xs.length) cap et) (fz:=(0,0)) a4 (i:=i) (by rw[a3];exact hfresh)
   (w1:=m.w.drew.alloc (.cells (olds.toArray++news.toArray++Builtin.zeroCells z.cells (grownCap m.w (l.length+xs.length) cap et-(l.length+xs.length))) et)) (by rw[a1];exact eT m.w _)
   (by rw[a1];exact cz m.w.drew _) (.inl (B2 _)) (by rw[RT];exact hge) hcm (by rw[hsz];exact B2 _) (λj hj=>by
    have:=ni (rest:=(Builtin.zeroCells z.cells (grownCap m.w (l.length+xs.length) cap et-(l.length+xs.length))).toList) (mono k1) (mono x2) j hj;unfold seg;simpa using this)
  refine Does.value (w':=m'.w) (v:=.slice (some ⟨m.w.heap.size,0,none⟩) (l.length+xs.length) (grownCap m.w (l.length+xs.length) cap et)) ?_ ⟨m',.av (.own i),rfl,?_,q3,a5.trans q4,by rw[RT,a1]at q5;exact q5⟩
  ·simp[execOp,ho,resolve,invoke,builtin,hbv,hxv,hrun,q1]
  rw[<- h,q2,a3,hG]
 simp at hr
theorem qg {t et ty:TypeId}{e:Ty}{n k cap:Nat}{ad xd:Option Addr}{xcap:Nat}{news:List Value}(hu:P.underlying t=some (.slice et))(hck:chk P e none et=true)(w:World)(hn:n<=cap)
  (hb:cap≠0->∃ b off c el fz,ad=some ⟨b,off,none⟩/\w.heap[b]?=some (.cells c el fz)/\eJ e c.size fz/\off+cap*e.size<=c.size) (hx:news.length=k*e.size) (hone:∀ u∈news,u.oneCell'=true)
  (hxb:k≠0->∃ b off c el fz,xd=some ⟨b,off,none⟩/\w.heap[b]?=some (.cells c el fz)/\off+news.length<=c.size/\news=seg c off news.length) (hlim:n+k<=68719476736) :
  (cap=0/\k=0/\n=0/\(Builtin.append_ #[t,t] ty #[.slice ad n cap,.slice xd k xcap]).run P w=.ok (.slice ad 0 0) w) \/
  (cap≠0/\n+k<=cap/\∀ b off c el fz,ad=some ⟨b,off,none⟩->w.heap[b]?=some (.cells c el fz)->(Builtin.append_ #[t,t] ty #[.slice ad n cap,.slice xd k xcap]).run P w=.ok (.slice (some ⟨b,off,none⟩) (n+k) cap) (w.setRow b (aP c (off+n*e.size) news))) \/
  (∃ olds cells cap',olds.length=n*e.size/\(n≠0->∀ b off c el fz,ad=some ⟨b,off,none⟩->w.heap[b]?=some (.cells c el fz)->olds=seg c off (n*e.size))/\n+k<=cap'/\cap'<=maxLen/\cells.size=cap'*e.size /\
   (∃ rest,cells.toList=olds++news++rest)/\(Builtin.append_ #[t,t] ty #[.slice ad n cap,.slice xd k xcap]).run P w=.ok (.slice (some ⟨w.heap.size,0,none⟩) (n+k) cap') (w.drew.alloc (.cells cells et))):=by
 obtain⟨inf,z,r1,r2,r3,r4,r5,r6,r7⟩:=dC hck;have hnews:∀ b off c el fz,xd=some ⟨b,off,none⟩->w.heap[b]?=some (.cells c el fz)->news=seg c off news.length->∀ j v,news[j]?=some v->w.cell? ((⟨b,off,none⟩:Addr).add j)=some v:=by intro b off c el fz _ y2 y4 j v hj;have hjl:j<news.length:=(A7.1 hj).1;rw[bY,cX y2,<- seg_getElem? c off news.length j hjl,<- y4];exact hj
 have hfc:(Builtin.firstCells e.size k (.slice xd k xcap)).run P w=.ok news.toArray w:=by
  by_cases hk:k=0
  ·subst hk;have:news=[]:=B4 (by rw[hx];simp);subst this;cases xd<;>simp[Builtin.firstCells,loadCells,loadCellsFrom]
  obtain⟨b,off,c,el,fz,rfl,q2,q3,q4⟩:=hxb hk;exact run_firstCells_some (P:=P) w e.size k _ _ _ news hx (hnews b off c el fz rfl q2 q4)
 by_cases hfit:n+k<=cap
 ·by_cases hc0:cap=0
  ·subst hc0;have hn0:n=0:=by omega
   have hk0:k=0:=by omega
   subst hn0;subst hk0;have hn0:news=[]:=B4 (by rw[hx];simp);subst hn0;refine .inl ⟨rfl,rfl,rfl,?_⟩;cases ad<;>simp[Builtin.append_,run_underlying hu,sizeOf,typeInfo,r1,r2,Builtin.lenOf,hfc,storeCells]
  refine .inr (.inl ⟨hc0,hfit,λb off c el fz hb1 hb2=>?_⟩);obtain⟨b',off',c',el',fz',e1,e2,c3,c4⟩:=hb hc0;rw[hb1]at e1;simp only[bd,Addr.mk.injEq,and_true]at e1;obtain⟨rfl,rfl⟩:=e1;rw[hb2]at e2;cases e2;subst hb1;have hmul:n*e.size+k*e.size<=cap*e.size:=by rw[<- B3];exact A4 _ hfit
  have hst:=db (P:=P) b (off+n*e.size) el fz news 0 c w hb2 c3 (by omega) hone;simp only[R2]at hst;have hst:(storeCells ⟨b,off+n*e.size,none⟩ news).run P w=.ok () (w.setRow b (aP c (off+n*e.size) news)):=hst;simp[Builtin.append_,run_underlying hu,sizeOf,typeInfo,r1,r2,Builtin.lenOf,hfc,hfit,bY,hst]
 have hk:k≠0:=by omega
 obtain⟨xb,xoff,xc,xel,xfz,rfl,y2,y3,y4⟩:=hxb hk;obtain⟨z0,ez,hz0,_⟩:=fK r5;rw[RN]at ez;have hzs:z.cells.size=e.size:=by rw[<- RC,ez];exact hz0
 have hnews:=hnews xb xoff xc xel xfz rfl y2 y4;have hge:=grownCap_ge w (n+k) cap et;have hcm:grownCap w (n+k) cap et<=maxLen:=grownCap_le_maxLen _ _ _ _ (by unfold maxLen;omega);have hfits:Builtin.nextslicecap (n+k) cap*inf.bytes<=281474976710656:=growslice_fits (by omega) (by
  have h1:(n+k)*inf.bytes<=68719476736*2048:=Tf hlim r3;omega)
 have key:∃ olds:List Value,olds.length=n * e.size/\(n≠0->∀ b off c el fz,ad=some ⟨b,off,none⟩->w.heap[b]?=some (.cells c el fz)->olds=seg c off (n * e.size))/\(Builtin.append_ #[t,t] ty #[.slice ad n cap,.slice (some ⟨xb,xoff,none⟩) k xcap]).run P w =
   .ok (.slice (some ⟨w.heap.size,0,none⟩) (n+k) (grownCap w (n+k) cap et)) (w.drew.alloc (.cells (olds.toArray++news.toArray++Builtin.zeroCells z.cells (grownCap w (n+k) cap et-(n+k))) et)):=by
  by_cases hc0:cap=0
  ·subst hc0;have hn0:n=0:=by omega
   subst hn0;refine⟨[],by simp,λh=>absurd rfl h,?_⟩;cases ad with
   |some ad=>exact run_append_grow (P:=P) w t ty et inf z hu r1 r4 ad 0 0 [] (by simp) (by intro j v hj;simp at hj) ⟨xb,xoff,none⟩ k xcap news (by rw[r2];exact hx) hnews (by omega) (by omega) (by simpa using hfits)
   |none=>have hn0:Builtin.nextslicecap k 0=k:=nextslicecap_zero (by omega);have:=run_append_nil (P:=P) w t ty et inf z hu r1 r4 ⟨xb,xoff,none⟩ k xcap news (by rw[r2];exact hx) hnews (by omega) (by omega) (by simp only[RM,hn0]at hfits;exact hfits);simpa using this
  obtain⟨b,off,c,el,fz,rfl,c2,c3,c4⟩:=hb hc0;have hmul:n*e.size<=cap*e.size:=A4 _ hn;have hsl:(seg c off (n*e.size)).length=n*e.size:=dK _ _ _ (by omega);refine⟨seg c off (n*e.size),hsl,λ_ b' off' c' el' fz' e1 e2=>?_,?_⟩
  ·simp only[bd,Addr.mk.injEq,and_true]at e1;obtain⟨rfl,rfl⟩:=e1;rw[c2]at e2;cases e2;rfl
  exact run_append_grow (P:=P) w t ty et inf z hu r1 r4 ⟨b,off,none⟩ n cap _ (by rw[r2];exact hsl) (λj v hj=>by
   have hjl:j<n*e.size:=by rw[<- hsl];exact(A7.1 hj).1
   rw[bY,cX c2,<- seg_getElem? c off _ j hjl];exact hj) ⟨xb,xoff,none⟩ k xcap news (by rw[r2];exact hx) hnews (by omega) (by omega) hfits
 obtain⟨olds,k1,k2,hrun⟩:=key;refine .inr (.inr ⟨olds,_,_,k1,k2,hge,hcm,?_,⟨(Builtin.zeroCells z.cells (grownCap w (n+k) cap et-(n+k))).toList,by simp⟩,hrun⟩);simp only[Th,Sm,size_zeroCells,hzs,k1,hx,<- B3];congr 1;omega
theorem rq (hi:Inv C w0 M m){σ : Ty}{v:SV}{u:Value}{p:List (List σ.den)×List Nat}(h:lr m.G σ v=some p)(hr:RelSV m u v) :
  ∃ hs,DeepW m.w m.F u hs σ p.1 none/\(∀ v∈u::hs,∀ b,HB v b->∃ id,id∈p.2/\∃ o,m.G.get id=some o/\isObj o=true/\HB (m.ι id) b)/\∀ id∈p.2,∃ o,m.G.get id=some o:=by
 unfold lr at h;split at h
 ·cases h;obtain⟨ad,rfl,_⟩:=hr;have hnb:∀ b,¬HB (.slice ad 0 0) b:=λb hb=>by cases ad<;>simp[HB,HB1]at hb
  exact⟨[],⟨rfl,⟨ad,0,rfl,by simp,by unfold maxLen;omega,λh=>absurd rfl h⟩,by intro i hi;simp at hi,(by intro i v hi;cases hi),RI _ _⟩,λv hv b hb=>by simp at hv;subst hv;exact absurd hb (hnb b),by simp⟩
 ·rename_i id;split at h
  ·rename_i ver τ l hg;split at h
   ·rename_i x hx;cases h;obtain⟨e,hx⟩:=aH hx;simp only[Ty.slice.injEq]at e;subst e;subst hx
    obtain⟨_,ob,hob,hv⟩:=hr;rw[hg]at hob;cases hob;obtain⟨us,v1,v2⟩:=hv;obtain⟨u',hs,d1,d2⟩:=cK hi hg;rw[d1]at v1;simp only[Value.tuple.injEq]at v1;subst v1;simp only[B9,B5,bd]at v2;subst v2;exact⟨hs,d2,λv hv b hb=>⟨id,by simp,_,hg,rfl,by rw[d1,ct d2.one];exact⟨v,hv,hb⟩⟩,λk hk=>by simp at hk;subst hk;exact⟨_,hg⟩⟩
   simp at h
  simp at h
 simp at h
theorem qW {t:TypeId}{x y:Operand}{σ : Ty}{l xs:List (List σ.den)×List Nat}{r:List (List σ.den)}(hT:cA P C.tab=true)(hi:Inv C w0 M m)(hG:m.G=s.G)(hS:∀ x,RelSV m (a.eval x) (ai C s.env x))
  (ho:o.op=.call { callee:=.builtin .append,args:=#[x,y],argTypes:=#[t,t] }) (ht:C.tab.get t=some (.slice (.slice σ)))
  (hl:lr s.G σ (ai C s.env x)=some l) (hx:lr s.G σ (ai C s.env y)=some xs) (hr:app l.1 xs.1=some r) (hnd:aM (l.2++xs.2)=true)
  (h:bq { env:=s.env,G:=aA (l.2++xs.2) s.G } (o.dst.getD 0) (.deep 0 σ r none) (λi s2=>some (ah o.dst (.av (.ownd i)) s2))=some s'):Does P o a m.w (Res C w0 M m s s' o.dst):=by
 unfold app at hr;split at hr
 case isFalse=>simp at hr
 rename_i hlim;simp only[bd]at hr;subst hr;have hlimv:lim=68719476736:=rfl;rw[hlimv]at hlim;obtain⟨i,hfree,h⟩:=bW h;simp only[bd]at h;obtain⟨et,hu,hck⟩:=bc (aj hT ht);rw[<- hG]at hl hx;obtain⟨hs1,p1,p2,p3⟩:=rq hi hl (hS x);obtain⟨hs2,q1,q2,q3⟩:=rq hi hx (hS y);obtain⟨ad,cap,b1,b2,b3,b4⟩:=p1.outer;obtain⟨xd,xcap,x1,x2,x3,x4⟩:=q1.outer;obtain⟨n1,n2,n3⟩:=bf hnd
 -- the parts are free
 obtain⟨d1,d2,d3,d4⟩:=kw (l.2++xs.2) hi (λid hid=>by
  rcases A5.1 hid with hid|hid
  ·exact p3 id hid
  exact q3 id hid)
 have f1:∀ v∈a.eval x::hs1,dj w0 M ⟨m.w,m.F,m.ι,aA (l.2++xs.2) m.G⟩ v:=λv hv b hb=>by obtain⟨id,e1,ob,e2,e3,e4⟩:=p2 v hv b hb;exact d4 id (by simp[e1]) ob e2 e3 b e4
 have f2:∀ v∈a.eval y::hs2,dj w0 M ⟨m.w,m.F,m.ι,aA (l.2++xs.2) m.G⟩ v:=λv hv b hb=>by obtain⟨id,e1,ob,e2,e3,e4⟩:=q2 v hv b hb;exact d4 id (by simp[e1]) ob e2 e3 b e4
 have hcross:∀ v∈a.eval x::hs1,∀ v'∈a.eval y::hs2,∀ b,HB v b->HB v' b->False:=by intro v hv v' hv' b hb hb';obtain⟨id,e1,ob,e2,e3,e4⟩:=p2 v hv b hb;obtain⟨id',g1,ob',g2,g3,g4⟩:=q2 v' hv' b hb';have:=hi.inj id id' ob ob' b e2 e3 g2 g3 e4 g4;subst this;exact n3 id e1 g1
 have hap:cP (hs1++hs2):=by refine List.pairwise_append.2 ⟨(L6.1 p1.apart).2,(L6.1 q1.apart).2,λv hv v' hv' b hb hb'=>?_⟩;exact hcross v (RB _ hv) v' (RB _ hv') b hb hb'
 have hlen:(hs1++hs2).length=(l.1++xs.1).length:=by simp[p1.len,q1.len]
 have hinner:∀ k (h:k<(l.1++xs.1).length) v,(hs1++hs2)[k]?=some v->HdrW m.w m.F v σ (l.1++xs.1)[k]:=by
  intro k hk v hv;rw[RT]at hk;by_cases hkl:k<l.1.length
  ·rw[Ti (by rw[p1.len];exact hkl)]at hv;rw[RG hkl];exact p1.inner k hkl v hv (by simp)
  rw[TK (by rw[p1.len];omega),p1.len]at hv;rw[RH (by omega)];exact q1.inner (k-l.1.length) (by omega) v hv (by simp)
 have hone:∀ u∈hs2,u.oneCell'=true:=λu hu=>q1.one u (RB _ hu);have hbase:cap≠0->∃ b off c el fz,ad=some ⟨b,off,none⟩/\m.w.heap[b]?=some (.cells c el fz)/\eJ (.slice σ) c.size fz/\off+cap*(Ty.slice σ).size<=c.size:=by intro hc;obtain⟨b,off,c,el,fz,e1,e2,e3,e4,_⟩:=b4 hc;exact⟨b,off,c,el,fz,e1,e2,e3,by simp only[Ty.size,SI];exact e4⟩
 have hxs:hs2.length=xs.1.length*(Ty.slice σ).size:=by simp[Ty.size,q1.len]
 have segEq:∀{c:Array Value} {off n:Nat} {hs:List Value},hs.length=n->(∀ k,k<n->c[off+k]?=hs[k]?)->hs=seg c off n:=by
  intro c off n hs e1 e2;apply Sl;intro k;by_cases hk:k<n
  ·rw[seg_getElem? _ _ _ _ hk,e2 k hk]
  rw[SG (by omega),SG];unfold seg;simp only[SO,So];omega
 have hxb:xs.1.length≠0->∃ b off c el fz,xd=some ⟨b,off,none⟩/\m.w.heap[b]?=some (.cells c el fz)/\off+hs2.length<=c.size/\hs2=seg c off hs2.length:=by intro hk;obtain⟨b,off,c,el,fz,e1,e2,e3,e4,e5⟩:=x4 (by omega);exact⟨b,off,c,el,fz,e1,e2,by rw[q1.len];omega,segEq rfl (λk hk=>e5 k (by rw[<- q1.len];exact hk) (by simp))⟩
 have hfresh:Heap.get (aA (l.2++xs.2) m.G) i=none:=by rw[hG];exact hfree
 have hall:∀ v∈hs1++hs2,dj w0 M ⟨m.w,m.F,m.ι,aA (l.2++xs.2) m.G⟩ v:=by
  intro v hv;rcases A5.1 hv with hv|hv
  ·exact f1 v (RB _ hv)
  exact f2 v (RB _ hv)
 rcases qg (ty:=o.type) (ad:=ad) (xd:=xd) (xcap:=xcap) (n:=l.1.length) hu hck m.w b2 hbase hxs hone hxb hlim with⟨c1,c2,c3,hrun⟩|⟨c1,c2,hrun⟩|⟨olds,cells,cap',c1,c2,c3,c4,c5,⟨rest,c6⟩,hrun⟩
 ·have e1:l.1=[]:=B4 c3;have e2:xs.1=[]:=B4 c2;have e3:hs1=[]:=B4 (by rw[p1.len,c3]);have hub:a.eval x=.slice ad 0 0:=by rw[b1,c3,c1]
  have hnb:∀ b,¬HB (.slice ad 0 0) b:=λb hb=>by cases ad<;>simp[HB,HB1]at hb
  obtain⟨m',r1,r2,r3,r4,r5,r6,r7⟩:=iU (m:=⟨m.w,m.F,m.ι,aA (l.2++xs.2) m.G⟩) d1 (i:=i) hfresh (u:=.slice ad 0 0) (hs:=[]) (τ:=σ) (l:=[]) ⟨rfl,⟨ad,0,rfl,by simp,by unfold maxLen;omega,λh=>absurd rfl h⟩,by intro i hi;simp at hi,(by intro i v hi;cases hi),RI _ _⟩ (λv hv b hb=>by simp at hv;subst hv;exact absurd hb (hnb b));refine Does.value (w':=m'.w) (v:=.slice ad 0 0) ?_ ⟨m',.av (.ownd i),rfl,?_,r5,d2.trans r6,(aw (a:=.ownd i) (by intros;simp)).2 r7⟩
  ·rw[c3,c1,c2]at hrun;simp[execOp,ho,resolve,invoke,builtin,hub,x1,c2,hrun,r1]
  rw[<- h,r3,hG,e1,e2];rfl
 ·obtain⟨b,off,c,el,fz,rfl,g2,g3,g4,g5⟩:=b4 c1;have hrun:=hrun b off c el fz rfl g2;simp only[Ty.size,SI]at hrun;have hfit:off+l.1.length+hs2.length<=c.size:=by rw[q1.len];omega
  have hub:∀ b',HB (a.eval x) b'->b'=b:=λb' hb'=>by rw[b1]at hb';exact hb'.2.symm
  have hbx:HB (a.eval x) b:=by rw[b1];exact⟨c1,rfl⟩
  obtain⟨fb1,fb2,fb3,fb4⟩:=f1 _ (RX ..) b hbx;have hw:=cD m.w b (aP c (off+l.1.length) hs2);obtain⟨s1,s2⟩:=si (m:=⟨m.w,m.F,m.ι,aA (l.2++xs.2) m.G⟩) d1 (w1:=m.w.setRow b (aP c (off+l.1.length) hs2)) (Mc:=λb'=>b'=b) ⟨hw.os,hw.tape,hw.output,by rw[hw.size];exact B2 _,λk _ hk=>hw.block k hk⟩ (λb' hb'=>by subst hb';exact⟨fb1,fb2,fb4⟩);have hF:∀ b',m.F b'->m.F b'/\(m.w.setRow b (aP c (off+l.1.length) hs2)).heap[b']?=m.w.heap[b']?:=λb' hb'=>⟨hb',hw.block b' (λe=>fb2 (e▸hb'))⟩;have hheap:(m.w.setRow b (aP c (off+l.1.length) hs2)).heap[b]?=some (.cells (aP c (off+l.1.length) hs2) el fz):=setRow_heap m.w b c _ el fz g2;have hnb:∀ v∈hs1++hs2,¬HB v b:=by
   intro v hv hb';rcases A5.1 hv with hv|hv
   ·exact(L6.1 p1.apart).1 v hv b hbx hb'
   exact hcross _ (RX ..) v (RB _ hv) b hbx hb'
  have hd:DeepW (m.w.setRow b (aP c (off+l.1.length) hs2)) m.F (.slice (some ⟨b,off,none⟩) (l.1.length+xs.1.length) cap) (hs1++hs2) σ (l.1++xs.1) none:=by
   refine⟨hlen,⟨_,cap,by simp,by simpa using c2,b3,λ_=>⟨b,off,_,el,fz,rfl,hheap,by rw[bG _ _ _ hfit];exact g3,by rw[bG _ _ _ hfit];exact g4,λk hk _=>?_⟩⟩,λk hk v hv _=>?_,λk v hk=>(by cases hk),?_⟩
   ·rw[dJ _ _ _ hfit];rw[RT]at hk;by_cases hkl:k<l.1.length
    ·rw[if_neg (by omega),Ti (by rw[p1.len];exact hkl)];exact g5 k hkl (by simp)
    rw[if_pos (by rw[q1.len];omega),TK (by rw[p1.len];omega),p1.len];congr 1;omega
   ·refine(hinner k hk v hv).mono hF (λb' hb'=>hw.block b' (λe=>?_));subst e;exact hnb v (B7 hv) hb'
   refine Te (λv hv b' hb1 hb2=>?_) hap;have:b'=b:=hb1.2.symm;subst this;exact hnb v hv hb2
  obtain⟨m',r1,r2,r3,r4,r5,r6,r7⟩:=iU (m:=⟨m.w.setRow b (aP c (off+l.1.length) hs2),m.F,m.ι,aA (l.2++xs.2) m.G⟩) s1 (i:=i) hfresh hd (λv hv b' hb'=>by
   have:∃ v',(v'=a.eval x\/v'∈hs1++hs2)/\HB v' b':=by
    rcases A6.1 hv with rfl|hv
    ·exact⟨_,.inl rfl,by rw[b1];exact⟨c1,hb'.2⟩⟩
    exact⟨v,.inr hv,hb'⟩
   obtain⟨v',hv',hb'⟩:=this;have hfr:dj w0 M ⟨m.w,m.F,m.ι,aA (l.2++xs.2) m.G⟩ v':=by
    rcases hv' with rfl|hv'
    ·exact f1 _ (RX ..)
    exact hall v' hv'
   obtain⟨k1,k2,k3,k4⟩:=hfr b' hb';exact⟨k1,k2,by show b'<(m.w.setRow b _).heap.size;rw[hw.size];exact k3,k4⟩)
  refine Does.value (w':=m'.w) (v:=.slice (some ⟨b,off,none⟩) (l.1.length+xs.1.length) cap) ?_ ⟨m',.av (.ownd i),rfl,?_,r5,(d2.trans s2).trans r6,(aw (a:=.ownd i) (by intros;simp)).2 r7⟩
  ·simp[execOp,ho,resolve,invoke,builtin,b1,x1,hrun,r1]
  rw[<- h,r3,hG]
 simp only[Ty.size,SI]at c1 c2 c5;have holds:olds=hs1:=by
  by_cases hl0:l.1.length=0
  ·have e1:hs1=[]:=B4 (by rw[p1.len,hl0]);have e2:olds=[]:=B4 (by rw[c1,hl0]);rw[e1,e2]
  obtain⟨b,off,c,el,fz,rfl,g2,g3,g4,g5⟩:=b4 (by omega);rw[c2 hl0 b off c el fz rfl g2];exact(segEq p1.len (λk hk=>g5 k hk (by simp))).symm
 subst holds;obtain⟨m',r1,r2,r3,r4,r5⟩:=qS (m:=⟨m.w,m.F,m.ι,aA (l.2++xs.2) m.G⟩) (τ:=σ) (l:=l.1++xs.1) (hs:=olds++hs2) (cap:=cap') (fz:=(0,0)) d1 (i:=i) hfresh (w1:=m.w.drew.alloc (.cells cells et)) (eT m.w _) (c:=cells) (el:=et)
  (cz m.w.drew _) (.inl (B2 _)) (by rw[RT];exact c3) c4 (by omega) hlen (λk hk=>by
   rw[<- R7,c6,Ti (by rw[hlen];exact hk)]) hinner hap hall
 refine Does.value (w':=m'.w) (v:=.slice (some ⟨m.w.heap.size,0,none⟩) (l.1.length+xs.1.length) cap') ?_ ⟨m',.av (.ownd i),rfl,?_,r3,d2.trans r4,by rw[RT]at r5;exact r5⟩
 ·simp[execOp,ho,resolve,invoke,builtin,b1,x1,hrun,r1]
 rw[<- h,r2,hG]
theorem sB (hi:Inv C w0 M m)(site:Nat){v:SV}{u:Value}(hr:RelSV m u v) :
  ∃ m1,m1.w=m.w/\m1.F=m.F/\m1.G=(bO site m.G v).2/\Inv C w0 M m1/\Evo m m1/\RelSV m1 u (bO site m.G v).1:=by
 have same {v:SV} (hr:RelSV m u v) (h:bO site m.G v=(v,m.G)):∃ m1,m1.w=m.w/\m1.F=m.F/\m1.G=(bO site m.G v).2/\Inv C w0 M m1/\Evo m m1/\RelSV m1 u (bO site m.G v).1:=by rw[h];exact⟨m,rfl,rfl,rfl,hi,Evo.refl m,hr⟩
 cases v with
 |av at'=>
  cases at' with
  |sub id ver j=>
   obtain⟨_,ob,hob,hv⟩:=(aw (m:=m) (a:=.sub id ver j) (by intros;simp)).1 hr;cases ob with
   |deep ver' σ l hole=>
    cases hole with
    |some _=>exact same hr (by simp[bO,hob])
    |none=>
     cases hc:(A3 ver ver' && !m.G.has (aE 64 m.G site))with
     |false=>exact same hr (by simp only[bO,hob,hc,UB])
     |true=>
      have hc':=hc;simp only[np,L7]at hc';obtain⟨hver,hfr⟩:=hc';have:=xy hver;subst this;obtain⟨hj,_,hu⟩:=hv.2 rfl;obtain⟨m1,a1,a2,a3,a4,a5,a6⟩:=wM hi hob hj (fF hfr) hu;have e:bO site m.G (.av (.sub id ver j))=(.av (.own (aE 64 m.G site)),(aE 64 m.G site,.arr σ l[j])::(id,.deep (ver+1) σ l (some j))::m.G):=by simp only[bO,hob,hc,UA,jS hj]
      rw[e];exact⟨m1,a1,a2,a3,a4,a5,(aw (a:=.own _) (by intros;simp)).2 a6⟩
   |_=>exact same hr (by simp[bO,hob])
  |_=>exact same hr rfl
 |_=>exact same hr rfl
theorem FH(z:Array Value):∀ n,((Sb (n*z.size)).map (z[· % z.size]!)).toList=(B8 n z.toList).flatten:=by
 intro n;simp only[Tz,Array.toList_range];induction n with
 |zero=>simp
 |succ n ih=>
  have hr:B8 (n+1) z.toList=B8 n z.toList++[z.toList]:=by rw[List.replicate_succ']
  rw[hr,List.flatten_append,<- ih,B3,T7,List.range_add,List.map_append];congr 1;simp only[T2,Tm,List.flatten_nil,RN];apply List.ext_getElem
  ·simp
  intro i h1 h2;have hi:i<z.size:=by simpa using h1
  have e:(n*z.size+i)%z.size=i:=by rw[S9,TN,Uk hi]
  simp[e,hi]
theorem rP {t ti ty e:TypeId}{n:Nat}{ky:IntKind}{inf:TypeInfo}{zv:Value}(hu:P.underlying t=some (.slice e))(hi:P.underlying ti=some (.int .i64))(h1:P.info? e=some inf)(h3:inf.bytes<=100000)(h4:inf.zero=some zv)(w:World)(h0:1<=n)(hlim:n<=1000000)(hz:1<=inf.size) :
  (Builtin.append_ #[t,ti] ty #[.slice none 0 0,.int ky (n:Int)]).run P w=.ok (.slice (some ⟨w.heap.size,0,none⟩) n (grownCap w n 0 e)) (w.drew.alloc (.cells (Builtin.zeroCells zv.cells n++Builtin.zeroCells zv.cells (grownCap w n 0 e-n)) e)):=by
 have hw:IntKind.i64.wrap (n:Int)=n:=IntWalk.i64_in _ (by omega);have hb:(n:Int)*inf.bytes<=100000000000:=by have h1:n*inf.bytes<=1000000*100000:=Tf hlim h3;have h2:((n*inf.bytes:Nat):Int)=(n:Int)*inf.bytes:=Int.natCast_mul _ _;omega
 have h48:(2:Int)^48=281474976710656:=by decide
 have n1:¬(281474976710656<(n:Int)*inf.bytes):=by omega
 have n2:¬((n:Int)<0):=by omega
 have hn0:n≠0:=by omega
 have hns:¬(n*inf.size=0):=by
  intro e;rcases Un.1 e with h|h<;>omega
 have h63':¬(9223372036854775807<(n:Int)):=by omega
 have h48':¬(281474976710656<Builtin.nextslicecap n 0*inf.bytes):=by rw[nextslicecap_zero (by omega)];have h1:n*inf.bytes<=1000000*100000:=Tf hlim h3;omega
 simp[Builtin.append_,run_underlying hu,run_underlying hi,sizeOf,typeInfo,zeroValue,h1,h4,asInt,asIntOf,hw,n1,n2,hn0,hns,h63',h48',Question.forced,run_firstCells_none,newRow,grownCap,Int.not_lt.2 (Int.natCast_nonneg n),Nat.ne_of_gt hz]
theorem uq{α:Type}(z rest:List α):∀(n j:Nat),j<n->(((B8 n z).flatten++rest).drop (j*z.length)).take z.length=z
 |n+1,0,_=>by rw[Tu,Tm,Nat.zero_mul,Tg,RL,List.take_left]
 |n+1,j+1,h=>by rw[Tu,Tm,B3,T7,S9,RL,<- TI,S0];exact uq z rest n j (by omega)
theorem pl {t t':TypeId}{x y:Operand}{e:Ty}{k:IntKind}{n:Nat}(hT:cA P C.tab=true)(hi:Inv C w0 M m)(hG:m.G=s.G)(hS:∀ x,RelSV m (a.eval x) (ai C s.env x))
  (ho:o.op=.call { callee:=.builtin .append,args:=#[x,y],argTypes:=#[t,t'] }) (ht:C.tab.get t=some (.slice e)) (ht':C.tab.get t'=some (.int .i64))
  (hx:ai C s.env x=.av (.nils true)) (hy:ai C s.env y=.av (.val (.int k) (n:Int))) (h0:1<=n) (hlim:n<=1000000) (hz:1<=e.size)
  (h:bq s (o.dst.getD 0) (.arr e (B8 n (bu e))) (λi s2=>some (ah o.dst (.av (.own i)) s2))=some s'):Does P o a m.w (Res C w0 M m s s' o.dst):=by
 obtain⟨i,hfree,h⟩:=bW h;simp only[bd]at h;obtain⟨et,hu,hck⟩:=bc (aj hT ht);obtain⟨inf,z,r1,r2,r3,r4,r5,r6,r7⟩:=dC hck;obtain⟨z0,ez,hz0,_⟩:=ec (m:=m) (li (aj hT ht)) r5;rw[RN]at ez;have hzs:z.cells.toList.length=e.size:=by rw[ez];exact hz0.len
 have hzs':z.cells.size=e.size:=by rw[<- RC];exact hzs
 have hxv:=hS x;rw[hx]at hxv;obtain⟨ad,hxv,hd⟩:=hxv;rw[hd rfl]at hxv;have hyv:=hS y;rw[hy]at hyv;obtain⟨hyv,_,_⟩:=cY hyv;have hge:=grownCap_ge m.w (0+n) 0 et;have hcm:grownCap m.w (0+n) 0 et<=maxLen:=grownCap_le_maxLen _ _ _ _ (by unfold maxLen;omega);rw[RM]at hge hcm;have hrun:=rP (P:=P) (ty:=o.type) (ky:=k) hu (jo (aj hT ht')) r1 (by omega) r4 m.w h0 hlim (by rw[r2];exact hz);have hl:(Builtin.zeroCells z.cells n++Builtin.zeroCells z.cells (grownCap m.w n 0 et-n)).toList=(B8 n z.cells.toList).flatten++(Builtin.zeroCells z.cells (grownCap m.w n 0 et-n)).toList:=by rw[Array.toList_append];congr 1;exact FH z.cells n
 have hsz:(Builtin.zeroCells z.cells n++Builtin.zeroCells z.cells (grownCap m.w n 0 et-n)).size=grownCap m.w n 0 et*e.size:=by simp only[Th,size_zeroCells,hzs',<- B3];congr 1;omega
 obtain⟨m',p1,p2,p3,p4,p5⟩:=lR (τ:=e) (l:=B8 n (bu e)) (cap:=grownCap m.w n 0 et) (fz:=(0,0)) hi (i:=i) (by rw[hG];exact hfree)
  (w1:=m.w.drew.alloc (.cells (Builtin.zeroCells z.cells n++Builtin.zeroCells z.cells (grownCap m.w n 0 et-n)) et)) (eT m.w _)
  (cz m.w.drew _) (.inl (B2 _)) (by rw[Sq];exact hge) hcm (by rw[hsz];exact B2 _) (λj hj=>by
   rw[Sq]at hj;rw[SC];have:seg (Builtin.zeroCells z.cells n++Builtin.zeroCells z.cells (grownCap m.w n 0 et-n)) (j*e.size) e.size=z0:=by unfold seg;rw[hl,<- hzs,uq _ _ n j hj,ez]
   rw[this];exact hz0)
 refine Does.value (w':=m'.w) (v:=.slice (some ⟨m.w.heap.size,0,none⟩) n (grownCap m.w n 0 et)) ?_ ⟨m',.av (.own i),rfl,?_,p3,p4,by rw[Sq]at p5;exact p5⟩
 ·simp[execOp,ho,resolve,invoke,builtin,hxv,hyv,hrun,p1]
 rw[<- h,p2,hG]
theorem CF {args:Array Operand}{ats:Array TypeId}(hT:cA P C.tab=true)(hi:Inv C w0 M m)(hG:m.G=s.G)(hS:∀ x,RelSV m (a.eval x) (ai C s.env x))
  (ho:o.op=.call { callee:=.builtin .append,args,argTypes:=ats })
  (h:bj C o s some=some s'):Does P o a m.w (Res C w0 M m s s' o.dst):=by
 simp only[aB,aQ,ho]at h;split at h
 ·rename_i t t' x y hat har;have ha1:args=#[x,y]:=by rw[<- RP (xs:=args),har]
  have ha2:ats=#[t,t']:=by rw[<- RP (xs:=ats),hat]
  subst ha1;subst ha2;split at h
  ·rename_i e ht;cases htt:A3 t t' with
   |false=>
    rw[htt]at h;simp only[UB]at h;split at h
    ·rename_i k n ht' hx hy;cases hc:(decide (1<=n)&&decide (n<=1000000)&&RD 1 e.size)with
     |false=>rw[hc]at h;cases h
     |true=>rw[hc]at h;simp only[np,decide_eq_true_eq]at hc;obtain⟨⟨h1,h2⟩,h3⟩:=hc;have key:∀ n:Int,1<=n->n<=1000000->∃ j:Nat,n=j/\1<=j/\j<=1000000:=λn h1 h2=>⟨n.toNat,by omega,by omega,by omega⟩;obtain⟨j,rfl,j1,j2⟩:=key n h1 h2;exact pl hT hi hG hS ho ht ht' hx hy j1 j2 (L9 h3) h
    cases h
   |true=>
    rw[htt]at h;simp only[UA]at h;have htt:=xy htt;subst htt;cases hnd:kr (ai C s.env y)with
    |true=>
     rw[hnd]at h;simp only[UA]at h;split at h
     ·rename_i σ _;split at h
      ·rename_i l xs hl hx;obtain⟨r,hr,h⟩:=A1.1 h;cases hn:aM (l.2++xs.2)with
       |false=>rw[hn]at h;simp at h
       |true=>rw[hn]at h;exact qW hT hi hG hS ho ht hl hx hr hn h
      simp at h
     simp at h
    |false=>
     rw[hnd]at h;simp only[UB]at h;split at h
     ·rename_i l y0 xs hcut hsv;obtain⟨r,hr,h⟩:=A1.1 h;exact rM hT hi hG hS ho ht hnd hcut hsv (by simp) hr h
     ·simp at h
     rename_i hcut;split at h
     ·rename_i l ids xs hbase hsv;obtain⟨r,hr,h⟩:=A1.1 h;obtain⟨m1,a1,a2,a3,a4,a5,a6⟩:=sB hi (o.dst.getD 0) (hS x);rw[<- hG]at hbase h;obtain⟨hH,hids⟩:=kR (s:=⟨s.env,(bO (o.dst.getD 0) m.G (ai C s.env x)).2⟩) a4 a3 hbase a6;have hN:=kU hi hnd (hG▸hsv) (hS y);have:=rO (s:=⟨s.env,(bO (o.dst.getD 0) m.G (ai C s.env x)).2⟩) (s':=s') (o:=o) (a:=a) hT a4 a3 ho ht hH hids (by rw[a1,a2];exact hN) hr h;rw[a1]at this;intro K Q hK;refine this K Q λv w' hR=>hK v w' ?_;obtain⟨m',sv,k1,k2,k3,k4,k5⟩:=hR;exact⟨m',sv,k1,k2,k3,a5.trans k4,k5⟩
     simp at h
  simp at h
 simp at h
end
end Go.Vm

/-
 The machine's operations against the model's: clear.
-/
namespace Go.Vm
section
variable {P:Program}{C:Ctx}{w0:World}{M:Own}{o:Oper}{a:Act}{m:Mem}{s s':St}
theorem IF {args:Array Operand}{ats:Array TypeId}(hT:cA P C.tab=true)(hi:Inv C w0 M m)(hG:m.G=s.G)(hS:∀ x,RelSV m (a.eval x) (ai C s.env x))
  (ho:o.op=.call { callee:=.builtin .clear,args,argTypes:=ats })
  (h:bj C o s some=some s'):Does P o a m.w (Res C w0 M m s s' o.dst):=by
 simp only[aB,aQ,ho]at h;split at h
 ·rename_i t x hat har;have ha1:args=#[x]:=by rw[<- RP (xs:=args),har]
  have ha2:ats=#[t]:=by rw[<- RP (xs:=ats),hat]
  subst ha1;subst ha2;have hx:=hS x;split at h
  ·rename_i e id off len ht hv;rw[hv]at hx;obtain⟨_,ob,hob,hxv⟩:=(aw (m:=m) (a:=.view id off len) (by intros;simp)).1 hx;rw[hG]at hob;split at h
   ·rename_i σ l hg;rw[hg]at hob;simp only[bd]at hob;subst hob;cases hc:(decide (e=σ)&&RD (off+len) l.length&&RD 1 len)with
    |false=>rw[hc]at h;simp at h
    |true=>
     rw[hc]at h;simp only[UA,bd]at h;simp only[np,decide_eq_true_eq]at hc;obtain⟨⟨rfl,c2⟩,c3⟩:=hc;have c2:=L9 c2;have c3:=L9 c3;obtain⟨et,hu,hck⟩:=bc (aj hT ht);obtain⟨inf,z,r1,r2,r3,r4,r5,r6,r7⟩:=dC hck;obtain⟨z0,ez,hz0,_⟩:=ec (m:=m) (li (aj hT ht)) r5;rw[RN]at ez;have hzs:z.cells.size=e.size:=by rw[<- RC,ez];exact hz0.len
     obtain⟨b,o',cap,c,el,fz,q1,q2,q3,q4,q5,q6,q7,q8,q9⟩:=mP hi (hG▸hg) (j:=off) (by omega);simp only at hxv;obtain⟨_,ad1,n1,cap1,ad2,k1,k2,k3⟩:=hxv;rw[q1]at k1;simp only[Value.slice.injEq]at k1;obtain⟨rfl,rfl,rfl⟩:=k1;have k3:=k3 (by omega);simp only[SB,bY]at k3;subst k3;have hle:off*e.size+len*e.size<=l.length*e.size:=by rw[<- B3];exact A4 _ c2
     have hle2:l.length*e.size<=cap*e.size:=A4 _ q2;obtain⟨vs,hvs⟩:∃ vs,vs=(Builtin.zeroCells z.cells len).toList:=⟨_,rfl⟩;have hvl:vs.length=len*e.size:=by rw[hvs,RC,size_zeroCells,hzs]
     have hseg:∀ i,i<len->(vs.drop (i*e.size)).take e.size=z0:=by
      intro i hi';by_cases hz:e.size=0
      ·have:z0=[]:=by have:=hz0.len;rw[hz]at this;exact B4 this
       rw[this,hz];simp
      have:=BL z.cells (by omega) len i hi';rw[hzs]at this;rw[hvs];unfold Builtin.zeroCells;rw[hzs];unfold seg at this;rw[this,ez]
     have hone:∀ v∈vs,v.oneCell'=true:=by
      intro v hv;obtain⟨j,hj⟩:=R5.1 hv;have hjl:j<vs.length:=(A7.1 hj).1;have hs:0<e.size:=by
       rcases S3 e.size with h0|h0
       ·rw[hvl,h0,UD]at hjl;omega
       exact h0
      have hd:j/e.size<len:=by rw[T3 hs];omega
      have:=hseg (j/e.size) hd;refine hz0.one v ?_;rw[<- this,R5];refine⟨j%e.size,?_⟩;rw[L8,if_pos (UN _ hs),Sf,UE,Uo];exact hj
     have hin:o'+off*e.size+vs.length<=c.size:=by omega
     have hst:=db (P:=P) b (o'+off*e.size) el fz vs 0 c m.w q4 q5 (by omega) hone;simp only[R2]at hst;have hst:(storeCells ⟨b,o'+off*e.size,none⟩ vs).run P m.w=.ok () (m.w.setRow b (aP c (o'+off*e.size) vs)):=hst;have hzv:(zeroValue et).run P m.w=.ok z m.w:=by simp[zeroValue,typeInfo,r1,r4]
     obtain⟨n,rfl⟩:∃ n,len=n+1:=⟨len-1,by omega⟩;have hrun:(Builtin.clear_ #[t] o.type #[.slice (some ⟨b,o'+off*e.size,none⟩) (n+1) (cap-off)]).run P m.w=.ok (.tuple #[]) (m.w.setRow b (aP c (o'+off*e.size) vs)):=by simp[Builtin.clear_,run_underlying hu,hzv,<- hvs,hst]
     have hheap:(m.w.setRow b (aP c (o'+off*e.size) vs)).heap[b]?=some (.cells (aP c (o'+off*e.size) vs) el fz):=setRow_heap m.w b c _ el fz q4;have hblk:HB (m.ι id) b:=by rw[q1];simp[HB,HB1,q3]
     have hcl:(eY e l off (n+1)).length=l.length:=by unfold eY;simp;omega
     obtain⟨g1,g2⟩:=dI hi (hG▸hg:m.G.get id=some (.arr e l)) rfl hblk (o':=.arr e (eY e l off (n+1))) ⟨rfl,hcl.symm⟩ (cD m.w b (aP c (o'+off*e.size) vs)) (λhe=>by
      refine⟨some ⟨b,o',none⟩,cap,by rw[hcl];exact q1,by rw[hcl];exact q2,q9,λ_=>⟨b,o',_,el,fz,rfl,hheap,by rw[bG _ _ _ hin];exact q5,by rw[bG _ _ _ hin];exact q6,λi hi'=>?_⟩⟩;refine Rd.mono he.fro ?_;rw[hcl]at hi';by_cases h1:i<off
      ·have hm:i*e.size+e.size<=off*e.size:=by have:=A4 e.size (show i+1<=off from h1);rw[B3]at this;omega
       rw[cw _ _ _ hin _ _ (.inl (by omega))];have e1:(eY e l off (n+1))[i]'(by rw[hcl];exact hi')=l[i]:=by unfold eY;rw[RG (by simp;omega),S5]
       rw[e1];exact q8 i hi'
      by_cases h2:i<off+(n+1)
      ·have e1:(eY e l off (n+1))[i]'(by rw[hcl];exact hi')=bu e:=by unfold eY;rw[RH (by simp;omega),RG (by simp;omega),SC]
       have hd:i-off<n+1:=by omega
       have hmi:i*e.size=off*e.size+(i-off)*e.size:=by rw[<- B3];congr 1;omega
       have hme:(i-off)*e.size+e.size<=(n+1)*e.size:=by have:=A4 e.size (show i-off+1<=n+1 from hd);rw[B3 (i-off) 1]at this;omega
       rw[e1,hmi,<- RS,jq _ _ _ hin _ _ (by omega),hseg _ hd];exact hz0
      have hm:off*e.size+(n+1)*e.size<=i*e.size:=by rw[<- B3];exact A4 _ (by omega)
      rw[cw _ _ _ hin _ _ (.inr (by omega))];have e1:(eY e l off (n+1))[i]'(by rw[hcl];exact hi')=l[i]:=by unfold eY;rw[RH (by simp;omega),RH (by simp;omega),Ue];congr 1;simp;omega
      rw[e1];exact q8 i hi')
     refine Does.value (w':=m.w.setRow b (aP c (o'+off*e.size) vs)) (v:=.tuple #[]) ?_ ⟨_,.tup [],rfl,?_,g1,g2,⟨[],rfl,trivial⟩⟩
     ·simp[execOp,ho,resolve,invoke,builtin,k2,hrun]
     rw[<- h];unfold setObj;rw[<- hG]
   simp at h
  simp at h
 simp at h
theorem H9(hi:Inv C w0 M m){G':Heap}(h:∀ id,G'.get id=m.G.get id):Inv C w0 M ⟨m.w,m.F,m.ι,G'⟩/\Evo m ⟨m.w,m.F,m.ι,G'⟩:=by
 have he:Evo m ⟨m.w,m.F,m.ι,G'⟩:=⟨λb hb=>⟨hb,rfl⟩,λid o ho=>⟨o,by show G'.get id=_;rw[h];exact ho,.inr (Goon.refl _ o)⟩⟩;refine⟨⟨hi.kept,?_,?_,?_,hi.fro,λg τ x hg=>(hi.glob g τ x hg).mono he.fro,hi.bnd,cd he hi.pin⟩,he⟩
 ·intro id o ho;exact co he rfl (λ_ _=>rfl) (hi.objs id o (by rw[<- h];exact ho))
 ·intro id o b ho;exact hi.own id o b (by rw[<- h];exact ho)
 intro i j o p b ho hoo hp;exact hi.inj i j o p b (by rw[<- h];exact ho) hoo (by rw[<- h];exact hp)
theorem tR{α:Type}(l ys:List α):(kS l ys).length=l.length:=by unfold kS;simp;omega
theorem JA {args:Array Operand}{ats:Array TypeId}(hT:cA P C.tab=true)(hi:Inv C w0 M m)(hG:m.G=s.G)(hS:∀ x,RelSV m (a.eval x) (ai C s.env x))
  (ho:o.op=.call { callee:=.builtin .copy,args,argTypes:=ats })
  (h:bj C o s some=some s'):Does P o a m.w (Res C w0 M m s s' o.dst):=by
 simp only[aB,aQ,ho]at h;split at h
 ·rename_i t t' x y hat har;have ha1:args=#[x,y]:=by rw[<- RP (xs:=args),har]
  have ha2:ats=#[t,t']:=by rw[<- RP (xs:=ats),hat]
  subst ha1;subst ha2;have hx:=hS x;have hy:=hS y;split at h
  ·rename_i e id ht hv;rw[hv]at hx;obtain⟨_,ob,hob,hxv⟩:=(aw (m:=m) (a:=.own id) (by intros;simp)).1 hx;rw[hG]at hob;split at h
   ·rename_i σ l hg;rw[hg]at hob;simp only[bd]at hob;subst hob;cases hc:(decide (e=σ) && !kr (ai C s.env y))with
    |false=>rw[hc]at h;simp at h
    |true=>
     rw[hc]at h;simp only[UA]at h;simp only[np,decide_eq_true_eq,L7]at hc;obtain⟨rfl,hnd⟩:=hc;split at h
     ·rename_i ys hys;simp only[bd]at h;obtain⟨et,hu,hck⟩:=bc (aj hT ht);obtain⟨inf,z,r1,r2,r3,r4,r5,r6,r7⟩:=dC hck;have hsz:∀ w:World,(sizeOf et).run P w=.ok e.size w:=λw=>bC hck w;obtain⟨xd,xcap,news,y1,y2,y3,y4⟩:=kU hi hnd (hG▸hys) hy;obtain⟨a0,cap,d1,d2,d3,d4⟩:=hi.objs id _ (hG▸hg);have hxe:a.eval x=.slice a0 l.length cap:=by rw[hxv rfl,d1]
      obtain⟨n,hn⟩:∃ n,n=min ys.length l.length:=⟨_,rfl⟩;have hmi:bU (ys.length:Nat) (l.length:Nat)=(n:Int):=by unfold bU;split<;>omega
      have hnl:(n:Int)<=IntKind.i64.max:=by
       have h63:maxLen=9223372036854775807:=by decide
       have h64:IntKind.i64.max=9223372036854775807:=by decide
       rw[h64];omega
      have hres:∀ m':Mem,RelSV m' (goInt (n:Nat)) (.av (.val (.int .i64) (n:Int))):=λm'=>
       er ⟨by have h65:IntKind.i64.min=-9223372036854775808:=(by decide);rw[h65];omega,hnl⟩
      rw[hmi]at h;have hnm:Nat.min ys.length l.length=n:=hn.symm;by_cases hz:n=0
      ·have hcl:kS l ys=l:=by
        unfold kS;rcases Nat.lt_or_ge 0 ys.length with h0|h0
        ·have:l=[]:=B4 (by omega);subst this;simp
        have:ys=[]:=B4 (by omega);subst this;simp
       rw[hcl]at h;obtain⟨g1,g2⟩:=H9 hi (G':=(id,.arr e l)::m.G) (λi=>by
        rw[Heap.get_cons];split
        ·rename_i hii;subst hii;exact(hG▸hg:m.G.get id=_).symm
        rfl)
       have hrun:(Builtin.copy_ #[t,t'] o.type #[.slice a0 l.length cap,.slice xd ys.length xcap]).run P m.w=.ok (goInt (n:Nat)) m.w:=by rw[hz]at hnm;rw[hz];cases a0<;>cases xd<;>simp[Builtin.copy_,run_underlying hu,hsz,Builtin.lenOf,hnm,Builtin.firstCells,loadCells,loadCellsFrom,storeCells]
       refine Does.value (w':=m.w) (v:=goInt (n:Nat)) ?_ ⟨_,_,?_,?_,g1,g2,hres _⟩
       ·simp[execOp,ho,resolve,invoke,builtin,hxe,y1,hrun]
       ·rfl
       rw[<- h];unfold setObj;rw[<- hG]
      have hl0:l≠[]:=by intro e;subst e;simp at hn;omega
      have hy0:ys≠[]:=by intro e;subst e;simp at hn;omega
      have hcap:cap≠0:=by have:0<l.length:=R4.2 hl0;omega
      obtain⟨b,off,c,el,fz,rfl,q1,q2,q3,q4⟩:=d4 hcap;obtain⟨xb,xo,xc,xe,xf,rfl,p1,p2,p3⟩:=y4 hy0;obtain⟨k1,k2⟩:=y2;obtain⟨vs,hvs⟩:∃ vs,vs=news.take (n*e.size):=⟨_,rfl⟩;have hle:n*e.size<=ys.length*e.size:=A4 _ (by omega);have hle2:n*e.size<=l.length*e.size:=A4 _ (by omega);have hle3:l.length*e.size<=cap*e.size:=A4 _ d2;have hvl:vs.length=n*e.size:=by rw[hvs,SO];omega
      have hone:∀ v∈vs,v.oneCell'=true:=λv hv=>ot ⟨k1,k2⟩ v (R9 (hvs▸hv));have hin:off+vs.length<=c.size:=by omega
      have hfc:=run_firstCells_some (P:=P) m.w e.size n ⟨xb,xo,none⟩ ys.length xcap vs hvl (λj u hj=>by
       have hjl:j<n*e.size:=by have:=(A7.1 hj).1;omega
       rw[hvs,L8,if_pos hjl]at hj;rw[bY,cX p1,<- seg_getElem? xc _ news.length j (by omega),<- p3];exact hj)
      have hst:=db (P:=P) b off el fz vs 0 c m.w q1 q2 (by omega) hone;simp only[R2]at hst;have hst:(storeCells ⟨b,off,none⟩ vs).run P m.w=.ok () (m.w.setRow b (aP c off vs)):=hst;have hrun:(Builtin.copy_ #[t,t'] o.type #[.slice (some ⟨b,off,none⟩) l.length cap,.slice (some ⟨xb,xo,none⟩) ys.length xcap]).run P m.w=.ok (goInt (n:Nat)) (m.w.setRow b (aP c off vs)):=by simp only[Builtin.copy_,B9,B5,L4,Sem.run_bind,run_underlying hu,Result.andThen_ok,Builtin.lenOf,Sem.run_pure,hsz,hnm,hfc,hst]
      have hny:n<=ys.length:=by omega
      have hseg:∀ i (hi':i<n),Rd m.w m.F e ((vs.drop (i*e.size)).take e.size) (ys[i]'(RK hi' hny)):=by
       intro i hi';have:=k2 i (by omega);rw[hvs,Td,List.take_take];have hmi:min e.size (n*e.size-i*e.size)=e.size:=by have:=A4 e.size (show i+1<=n from hi');rw[B3]at this;omega
       rw[hmi];exact this
      have hblk:HB (m.ι id) b:=by rw[d1];simp[HB,HB1,hcap]
      have hcl:=tR l ys;obtain⟨g1,g2⟩:=dI hi (hG▸hg:m.G.get id=some (.arr e l)) rfl hblk (o':=.arr e (kS l ys)) ⟨rfl,hcl.symm⟩ (cD m.w b (aP c off vs)) (λhe=>by
       refine⟨some ⟨b,off,none⟩,cap,by rw[hcl];exact d1,by rw[hcl];exact d2,d3,λ_=>⟨b,off,_,el,fz,rfl,setRow_heap m.w b c _ el fz q1,by rw[bG _ _ _ hin];exact q2,by rw[bG _ _ _ hin];exact q3,λi hi'=>?_⟩⟩;refine Rd.mono he.fro ?_;rw[hcl]at hi';by_cases h1:i<n
       ·have hm:i*e.size+e.size<=n*e.size:=by have:=A4 e.size (show i+1<=n from h1);rw[B3]at this;omega
        have hiy:i<ys.length:=by omega
        have e1:(kS l ys)[i]'(by rw[hcl];exact hi')=ys[i]:=by unfold kS;rw[RG (by simp;omega),S5]
        rw[e1,jq _ _ _ hin _ _ (by omega)];exact hseg i h1
       have hm:n*e.size<=i*e.size:=A4 _ (by omega);rw[cw _ _ _ hin _ _ (.inr (by omega))];have hyn:ys.length=n:=by omega
       have e1:(kS l ys)[i]'(by rw[hcl];exact hi')=l[i]:=by unfold kS;rw[RH (by simp;omega),Ue];congr 1;simp;omega
       rw[e1];exact q4 i hi')
      refine Does.value (w':=m.w.setRow b (aP c off vs)) (v:=goInt (n:Nat)) ?_ ⟨_,_,rfl,?_,g1,g2,hres _⟩
      ·simp[execOp,ho,resolve,invoke,builtin,hxe,y1,hrun]
      rw[<- h];unfold setObj;rw[<- hG]
     simp at h
   simp at h
  simp at h
 simp at h
end
end Go.Vm

